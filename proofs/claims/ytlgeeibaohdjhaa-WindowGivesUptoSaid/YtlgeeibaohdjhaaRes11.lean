/- What the functions that these laws reach compute, printed by a program of ours and tied to the model by the kernel. -/
import Derived.Test.YtlgeeibaohdjhaaEngQ
import Derived.Test.YtlgeeibaohdjhaaRows
set_option linter.unusedVariables false
set_option linter.unusedSimpArgs false
namespace Go.Proofs.Ytlgeeibaohdjhaa
open Go.Proofs.Ytlgeeibaohdjhaa.Eng
/-! ### 9: aqueduct/aqueductlaw11.WindowPlays (2 arguments) -/
noncomputable def R9.d_38 (call : FuncId → List Value → AM Value) (k : Nat) (rec_1_19 : Value → AM Value) (v9_20 : Value) (v88_37 : Value) : AM Value :=
  condA v88_37 (bindV (ret (.bool false)) fun v4_35 =>
    ret v4_35)
    (bindV (ret v9_20) fun v41_21 =>
    bindV (binA Try.prog .add 3 v41_21 (.int .i64 1)) fun v42_22 =>
    bindV (ret v42_22) fun v9_23 =>
    rec_1_19 v9_23)

noncomputable def R9.j_53 (call : FuncId → List Value → AM Value) (k : Nat) (rec_1_19 : Value → AM Value) (v5_6 : Value) (v7_13 : Value) (v9_20 : Value) (v11_32 : Value) (v12_33 : Value) : AM Value :=
  bindV (ret v11_32) fun v77_39 =>
    bindV (ret v12_33) fun v78_40 =>
    bindV (binA Try.prog .neq 3 v77_39 v78_40) fun v79_41 =>
    bindV (ret v79_41) fun v80_42 =>
    guardA false v80_42 (bindV (ret v5_6) fun v81_43 =>
    bindS fun s_44 =>
    bindV (call 38 [v81_43]) fun v82_45 =>
    bindV (ret v7_13) fun v83_46 =>
    bindV (nilCheckA v83_46) fun v84_47 =>
    bindV (fieldAddrA 0 v84_47) fun v85_48 =>
    bindV (loadA none v85_48) fun v86_49 =>
    thereV [s_44] (loadA none v85_48) v86_49 (
    bindV (binA Try.prog .neq 3 v82_45 v86_49) fun v87_50 =>
    bindV (pickA v80_42 (.bool true) v87_50) fun v88_51 =>
    R9.d_38 call k rec_1_19 v9_20 v88_51))
    (bindV (pickA v80_42 (.bool true) (.tuple #[])) fun v88_52 =>
    R9.d_38 call k rec_1_19 v9_20 v88_52)

noncomputable def R9.g_98 (call : FuncId → List Value → AM Value) (k : Nat) (rec_1_19 : Value → AM Value) (v1_in : Value) (v35_95 : Value) (v5_6 : Value) (v7_13 : Value) (v9_20 : Value) (v39_96 : Value) : AM Value :=
  bindV (pickA v35_95 v39_96 (.bool false)) fun v40_97 =>
    condA v40_97 (bindV (ret v1_in) fun v43_25 =>
    bindV (ret v9_20) fun v44_26 =>
    bindV (indexAddrA 2 v43_25 v44_26) fun v45_27 =>
    bindV (loadA (some 2) v45_27) fun v46_28 =>
    bindV (newA [(.int .i64 0), (.int .i64 0)] 71) fun v10_29 =>
    bindV (storeA 2 v10_29 v46_28) fun _ =>
    bindV (ret (.int .i64 0)) fun v11_30 =>
    bindV (ret (.int .i64 0)) fun v12_31 =>
    bindV (fieldAddrA 0 v10_29) fun v47_54 =>
    bindV (loadA none v47_54) fun v48_55 =>
    bindV (binA Try.prog .eql 3 v48_55 (.int .i64 0)) fun v58_56 =>
    bindV (ret v58_56) fun v57_57 =>
    condA v57_57 (bindV (ret v5_6) fun v59_58 =>
    bindV (fieldAddrA 1 v10_29) fun v60_59 =>
    bindV (loadA none v60_59) fun v61_60 =>
    bindV (call 32 [v59_58, v61_60]) fun v62_61 =>
    bindV (ret v62_61) fun v11_62 =>
    bindV (ret v7_13) fun v63_63 =>
    bindV (fieldAddrA 1 v10_29) fun v64_64 =>
    bindV (loadA none v64_64) fun v65_65 =>
    bindV (call 33 [v63_63, v65_65]) fun v66_66 =>
    bindV (ret v66_66) fun v12_67 =>
    R9.j_53 call k rec_1_19 v5_6 v7_13 v9_20 v11_62 v12_67)
    (bindV (binA Try.prog .eql 3 v48_55 (.int .i64 1)) fun v68_68 =>
    bindV (ret v68_68) fun v67_69 =>
    condA v67_69 (bindV (ret v5_6) fun v69_70 =>
    bindV (fieldAddrA 1 v10_29) fun v70_71 =>
    bindV (loadA none v70_71) fun v71_72 =>
    bindV (call 34 [v69_70, v71_72]) fun v72_73 =>
    bindV (ret v72_73) fun v11_74 =>
    bindV (ret v7_13) fun v73_75 =>
    bindV (fieldAddrA 1 v10_29) fun v74_76 =>
    bindV (loadA none v74_76) fun v75_77 =>
    bindV (call 35 [v73_75, v75_77]) fun v76_78 =>
    bindV (ret v76_78) fun v12_79 =>
    R9.j_53 call k rec_1_19 v5_6 v7_13 v9_20 v11_74 v12_79)
    (bindV (ret v5_6) fun v49_80 =>
    bindV (fieldAddrA 1 v10_29) fun v50_81 =>
    bindV (loadA none v50_81) fun v51_82 =>
    bindV (call 36 [v49_80, v51_82]) fun v52_83 =>
    bindV (ret v52_83) fun v11_84 =>
    bindV (ret v7_13) fun v53_85 =>
    bindV (fieldAddrA 1 v10_29) fun v54_86 =>
    bindV (loadA none v54_86) fun v55_87 =>
    bindV (call 37 [v53_85, v55_87]) fun v56_88 =>
    bindV (ret v56_88) fun v12_89 =>
    R9.j_53 call k rec_1_19 v5_6 v7_13 v9_20 v11_84 v12_89)))
    (bindV (call 39 []) fun v89_15 =>
    bindV (ret v89_15) fun v4_16 =>
    ret v4_16)

noncomputable def R9.b_103 (call : FuncId → List Value → AM Value) (k : Nat) (v1_in : Value) (v5_6 : Value) (v7_13 : Value) (rec_1_19 : Value → AM Value) (v9_20 : Value) : AM Value :=
  bindV (ret v7_13) fun v33_93 =>
    bindV (binA Try.prog .neq 67 v33_93 (.pointer none)) fun v34_94 =>
    bindV (ret v34_94) fun v35_95 =>
    guardA true v35_95 (bindV (ret v9_20) fun v36_99 =>
    bindV (ret v1_in) fun v37_100 =>
    bindV (lenA v37_100) fun v38_101 =>
    bindV (binA Try.prog .lss 3 v36_99 v38_101) fun v39_102 =>
    R9.g_98 call k rec_1_19 v1_in v35_95 v5_6 v7_13 v9_20 v39_102)
    (R9.g_98 call k rec_1_19 v1_in v35_95 v5_6 v7_13 v9_20 (.tuple #[]))

noncomputable def R9.g_114 (call : FuncId → List Value → AM Value) (k : Nat) (v1_in : Value) (v26_111 : Value) (v5_6 : Value) (v7_13 : Value) (v31_112 : Value) : AM Value :=
  bindV (pickA v26_111 (.bool true) v31_112) fun v32_113 =>
    condA v32_113 (bindV (ret (.bool false)) fun v4_106 =>
    ret v4_106)
    (bindV (ret (.int .i64 0)) fun v9_18 =>
    loop1 (R9.b_103 call k v1_in v5_6 v7_13) k v9_18)

noncomputable def R9.top (call : FuncId → List Value → AM Value) (k : Nat) (v0_in : Value) (v1_in : Value) : AM Value :=
  bindV (ret (.bool false)) fun v4_0 =>
    bindV (ret v0_in) fun v14_1 =>
    bindV (call 30 [v14_1]) fun v15_2 =>
    bindV (ret v15_2) fun v13_3 =>
    bindV (extractA v13_3 0) fun v16_4 =>
    bindV (extractA v13_3 1) fun v17_5 =>
    bindV (ret v16_4) fun v5_6 =>
    bindV (ret v17_5) fun v6_7 =>
    bindV (ret v0_in) fun v19_8 =>
    bindV (call 31 [v19_8]) fun v20_9 =>
    bindV (ret v20_9) fun v18_10 =>
    bindV (extractA v18_10 0) fun v21_11 =>
    bindV (extractA v18_10 1) fun v22_12 =>
    bindV (ret v21_11) fun v7_13 =>
    bindV (ret v22_12) fun v8_14 =>
    bindV (ret v6_7) fun v23_108 =>
    bindV (ret v8_14) fun v24_109 =>
    bindV (binA Try.prog .neq 3 v23_108 v24_109) fun v25_110 =>
    bindV (ret v25_110) fun v26_111 =>
    guardA false v26_111 (bindV (ret v5_6) fun v27_115 =>
    bindV (binA Try.prog .eql 64 v27_115 (.pointer none)) fun v28_116 =>
    bindV (ret v7_13) fun v29_117 =>
    bindV (binA Try.prog .eql 67 v29_117 (.pointer none)) fun v30_118 =>
    bindV (binA Try.prog .neq 4 v28_116 v30_118) fun v31_119 =>
    R9.g_114 call k v1_in v26_111 v5_6 v7_13 v31_119)
    (R9.g_114 call k v1_in v26_111 v5_6 v7_13 (.tuple #[]))

theorem R9.eq (call : FuncId → List Value → AM Value) (k : Nat) (v0_in : Value) (v1_in : Value) : funcA Try.prog call k 9 [v0_in, v1_in] = R9.top call k v0_in v1_in := by kernel_rfl

/-! ### 10: aqueduct/aqueductlaw11.WindowBound (2 arguments) -/
noncomputable def R10.g_47 (call : FuncId → List Value → AM Value) (k : Nat) (rec_1_14 : Value → AM Value) (v77_44 : Value) (v7_15 : Value) (v80_45 : Value) : AM Value :=
  bindV (pickA v77_44 (.bool true) v80_45) fun v81_46 =>
    condA v81_46 (bindV (ret (.bool false)) fun v4_36 =>
    ret v4_36)
    (bindV (ret v7_15) fun v25_16 =>
    bindV (binA Try.prog .add 3 v25_16 (.int .i64 1)) fun v26_17 =>
    bindV (ret v26_17) fun v7_18 =>
    rec_1_14 v7_18)

noncomputable def R10.j_51 (call : FuncId → List Value → AM Value) (k : Nat) (rec_1_14 : Value → AM Value) (v5_8 : Value) (v7_15 : Value) (v9_27 : Value) (v11_34 : Value) : AM Value :=
  bindV (ret v5_8) fun v71_38 =>
    bindV (call 38 [v71_38]) fun v72_39 =>
    bindV (ret v9_27) fun v73_40 =>
    bindV (ret v11_34) fun v74_41 =>
    bindV (binA Try.prog .add 3 v73_40 v74_41) fun v75_42 =>
    bindV (binA Try.prog .neq 3 v72_39 v75_42) fun v76_43 =>
    bindV (ret v76_43) fun v77_44 =>
    guardA false v77_44 (bindV (ret v5_8) fun v78_48 =>
    bindV (call 38 [v78_48]) fun v79_49 =>
    bindV (binA Try.prog .gtr 3 v79_49 (.int .i64 2147483647)) fun v80_50 =>
    R10.g_47 call k rec_1_14 v77_44 v7_15 v80_50)
    (R10.g_47 call k rec_1_14 v77_44 v7_15 (.tuple #[]))

noncomputable def R10.j_55 (call : FuncId → List Value → AM Value) (k : Nat) (rec_1_14 : Value → AM Value) (v5_8 : Value) (v7_15 : Value) (v9_27 : Value) (v10_32 : Value) (v11_33 : Value) : AM Value :=
  bindV (ret v10_32) fun v69_52 =>
    bindV (binA Try.prog .neq 39 v69_52 (.int .i64 0)) fun v70_53 =>
    condA v70_53 (bindV (ret (.int .i64 0)) fun v11_54 =>
    R10.j_51 call k rec_1_14 v5_8 v7_15 v9_27 v11_54)
    (R10.j_51 call k rec_1_14 v5_8 v7_15 v9_27 v11_33)

noncomputable def R10.g_80 (call : FuncId → List Value → AM Value) (k : Nat) (rec_1_14 : Value → AM Value) (v10_64 : Value) (v11_68 : Value) (v57_77 : Value) (v5_8 : Value) (v7_15 : Value) (v9_27 : Value) (v61_78 : Value) : AM Value :=
  bindV (pickA v57_77 v61_78 (.bool false)) fun v62_79 =>
    condA v62_79 (bindV (ret (.bool false)) fun v4_70 =>
    ret v4_70)
    (R10.j_55 call k rec_1_14 v5_8 v7_15 v9_27 v10_64 v11_68)

noncomputable def R10.g_85 (call : FuncId → List Value → AM Value) (k : Nat) (rec_1_14 : Value → AM Value) (v10_64 : Value) (v11_68 : Value) (v52_74 : Value) (v5_8 : Value) (v7_15 : Value) (v8_24 : Value) (v9_27 : Value) (v55_75 : Value) : AM Value :=
  bindV (pickA v52_74 v55_75 (.bool false)) fun v56_76 =>
    bindV (ret v56_76) fun v57_77 =>
    guardA true v57_77 (bindV (fieldAddrA 1 v8_24) fun v58_81 =>
    bindV (loadA none v58_81) fun v59_82 =>
    bindV (ret v9_27) fun v60_83 =>
    bindV (binA Try.prog .gtr 3 v59_82 v60_83) fun v61_84 =>
    R10.g_80 call k rec_1_14 v10_64 v11_68 v57_77 v5_8 v7_15 v9_27 v61_84)
    (R10.g_80 call k rec_1_14 v10_64 v11_68 v57_77 v5_8 v7_15 v9_27 (.tuple #[]))

noncomputable def R10.b_106 (call : FuncId → List Value → AM Value) (k : Nat) (v1_in : Value) (v5_8 : Value) (rec_1_14 : Value → AM Value) (v7_15 : Value) : AM Value :=
  bindV (ret v7_15) fun v21_102 =>
    bindV (ret v1_in) fun v22_103 =>
    bindV (lenA v22_103) fun v23_104 =>
    bindV (binA Try.prog .lss 3 v21_102 v23_104) fun v24_105 =>
    condA v24_105 (bindV (ret v1_in) fun v27_20 =>
    bindV (ret v7_15) fun v28_21 =>
    bindV (indexAddrA 2 v27_20 v28_21) fun v29_22 =>
    bindV (loadA (some 2) v29_22) fun v30_23 =>
    bindV (newA [(.int .i64 0), (.int .i64 0)] 71) fun v8_24 =>
    bindV (storeA 2 v8_24 v30_23) fun _ =>
    bindV (ret v5_8) fun v31_25 =>
    bindV (call 38 [v31_25]) fun v32_26 =>
    bindV (ret v32_26) fun v9_27 =>
    bindV (ret (.int .i64 0)) fun v10_28 =>
    bindV (fieldAddrA 1 v8_24) fun v33_29 =>
    bindV (loadA none v33_29) fun v34_30 =>
    bindV (ret v34_30) fun v11_31 =>
    bindV (fieldAddrA 0 v8_24) fun v35_56 =>
    bindV (loadA none v35_56) fun v36_57 =>
    bindV (binA Try.prog .eql 3 v36_57 (.int .i64 0)) fun v42_58 =>
    bindV (ret v42_58) fun v41_59 =>
    condA v41_59 (bindV (ret v5_8) fun v43_60 =>
    bindV (fieldAddrA 1 v8_24) fun v44_61 =>
    bindV (loadA none v44_61) fun v45_62 =>
    bindV (call 32 [v43_60, v45_62]) fun v46_63 =>
    bindV (ret v46_63) fun v10_64 =>
    bindV (fieldAddrA 1 v8_24) fun v47_65 =>
    bindV (loadA none v47_65) fun v48_66 =>
    bindV (unA .neg v48_66) fun v49_67 =>
    bindV (ret v49_67) fun v11_68 =>
    bindV (ret v10_64) fun v50_72 =>
    bindV (binA Try.prog .eql 39 v50_72 (.int .i64 0)) fun v51_73 =>
    bindV (ret v51_73) fun v52_74 =>
    guardA true v52_74 (bindV (fieldAddrA 1 v8_24) fun v53_86 =>
    bindV (loadA none v53_86) fun v54_87 =>
    bindV (binA Try.prog .gtr 3 v54_87 (.int .i64 0)) fun v55_88 =>
    R10.g_85 call k rec_1_14 v10_64 v11_68 v52_74 v5_8 v7_15 v8_24 v9_27 v55_88)
    (R10.g_85 call k rec_1_14 v10_64 v11_68 v52_74 v5_8 v7_15 v8_24 v9_27 (.tuple #[])))
    (bindV (binA Try.prog .eql 3 v36_57 (.int .i64 1)) fun v64_89 =>
    bindV (ret v64_89) fun v63_90 =>
    condA v63_90 (bindV (ret v5_8) fun v65_91 =>
    bindV (fieldAddrA 1 v8_24) fun v66_92 =>
    bindV (loadA none v66_92) fun v67_93 =>
    bindV (call 34 [v65_91, v67_93]) fun v68_94 =>
    bindV (ret v68_94) fun v10_95 =>
    R10.j_55 call k rec_1_14 v5_8 v7_15 v9_27 v10_95 v11_31)
    (bindV (ret v5_8) fun v37_96 =>
    bindV (fieldAddrA 1 v8_24) fun v38_97 =>
    bindV (loadA none v38_97) fun v39_98 =>
    bindV (call 36 [v37_96, v39_98]) fun v40_99 =>
    bindV (ret v40_99) fun v10_100 =>
    R10.j_55 call k rec_1_14 v5_8 v7_15 v9_27 v10_100 v11_31)))
    (bindV (call 39 []) fun v82_10 =>
    bindV (ret v82_10) fun v4_11 =>
    ret v4_11)

noncomputable def R10.top (call : FuncId → List Value → AM Value) (k : Nat) (v0_in : Value) (v1_in : Value) : AM Value :=
  bindV (ret (.bool false)) fun v4_0 =>
    bindV (ret v0_in) fun v13_1 =>
    bindV (binA Try.prog .rem 22 v13_1 (.int .u32 2147483648)) fun v14_2 =>
    bindV (convIntA .i64 v14_2) fun v15_3 =>
    bindV (call 30 [v15_3]) fun v16_4 =>
    bindV (ret v16_4) fun v12_5 =>
    bindV (extractA v12_5 0) fun v17_6 =>
    bindV (extractA v12_5 1) fun v18_7 =>
    bindV (ret v17_6) fun v5_8 =>
    bindV (ret v18_7) fun v6_9 =>
    bindV (ret v5_8) fun v19_108 =>
    bindV (binA Try.prog .eql 64 v19_108 (.pointer none)) fun v20_109 =>
    condA v20_109 (bindV (ret (.bool false)) fun v4_110 =>
    ret v4_110)
    (bindV (ret (.int .i64 0)) fun v7_13 =>
    loop1 (R10.b_106 call k v1_in v5_8) k v7_13)

theorem R10.eq (call : FuncId → List Value → AM Value) (k : Nat) (v0_in : Value) (v1_in : Value) : funcA Try.prog call k 10 [v0_in, v1_in] = R10.top call k v0_in v1_in := by kernel_rfl

/-! ### 11: aqueduct/aqueductlaw11.WindowRoom (2 arguments) -/
noncomputable def R11.g_26 (call : FuncId → List Value → AM Value) (k : Nat) (v81_22 : Value) (v85_23 : Value) : AM Value :=
  bindV (pickA v81_22 (.bool true) v85_23) fun v86_24 =>
    bindV (ret v86_24) fun v4_25 =>
    ret v4_25

noncomputable def R11.g_43 (call : FuncId → List Value → AM Value) (k : Nat) (v5_3 : Value) (v67_40 : Value) (v6_9 : Value) (v70_41 : Value) : AM Value :=
  bindV (pickA v67_40 (.bool true) v70_41) fun v71_42 =>
    condA v71_42 (bindV (ret (.bool false)) fun v4_33 =>
    ret v4_33)
    (bindV (ret v6_9) fun v72_11 =>
    bindV (call 43 [v72_11]) fun v73_12 =>
    bindV (ret v5_3) fun v74_15 =>
    bindV (ret v6_9) fun v75_16 =>
    bindV (call 44 [v75_16]) fun v76_17 =>
    bindV (binA Try.prog .sub 3 v74_15 v76_17) fun v77_18 =>
    bindV (binA Try.prog .mul 3 (.int .i64 2) v77_18) fun v78_19 =>
    bindV (ret v5_3) fun v79_20 =>
    bindV (binA Try.prog .lss 3 v78_19 v79_20) fun v80_21 =>
    bindV (ret v80_21) fun v81_22 =>
    guardA false v81_22 (bindV (ret v6_9) fun v82_27 =>
    bindV (call 44 [v82_27]) fun v83_28 =>
    bindV (ret v5_3) fun v84_29 =>
    bindV (binA Try.prog .eql 3 v83_28 v84_29) fun v85_30 =>
    R11.g_26 call k v81_22 v85_30)
    (R11.g_26 call k v81_22 (.tuple #[])))

noncomputable def R11.g_72 (call : FuncId → List Value → AM Value) (k : Nat) (rec_1_49 : Value → AM Value) (v53_69 : Value) (v8_50 : Value) (v60_70 : Value) : AM Value :=
  bindV (pickA v53_69 (.bool true) v60_70) fun v61_71 =>
    condA v61_71 (bindV (ret (.bool false)) fun v4_61 =>
    ret v4_61)
    (bindV (ret v8_50) fun v23_51 =>
    bindV (binA Try.prog .add 3 v23_51 (.int .i64 1)) fun v24_52 =>
    bindV (ret v24_52) fun v8_53 =>
    rec_1_49 v8_53)

noncomputable def R11.g_80 (call : FuncId → List Value → AM Value) (k : Nat) (rec_1_49 : Value → AM Value) (v48_66 : Value) (v5_3 : Value) (v6_9 : Value) (v8_50 : Value) (v51_67 : Value) : AM Value :=
  bindV (pickA v48_66 (.bool true) v51_67) fun v52_68 =>
    bindV (ret v52_68) fun v53_69 =>
    guardA false v53_69 (bindV (ret v6_9) fun v54_73 =>
    bindV (call 44 [v54_73]) fun v55_74 =>
    bindV (ret v6_9) fun v56_75 =>
    bindV (call 45 [v56_75]) fun v57_76 =>
    bindV (binA Try.prog .add 3 v55_74 v57_76) fun v58_77 =>
    bindV (ret v5_3) fun v59_78 =>
    bindV (binA Try.prog .gtr 3 v58_77 v59_78) fun v60_79 =>
    R11.g_72 call k rec_1_49 v53_69 v8_50 v60_79)
    (R11.g_72 call k rec_1_49 v53_69 v8_50 (.tuple #[]))

noncomputable def R11.j_84 (call : FuncId → List Value → AM Value) (k : Nat) (rec_1_49 : Value → AM Value) (v5_3 : Value) (v6_9 : Value) (v8_50 : Value) : AM Value :=
  bindV (ret v6_9) fun v45_63 =>
    bindV (call 44 [v45_63]) fun v46_64 =>
    bindV (binA Try.prog .lss 3 v46_64 (.int .i64 0)) fun v47_65 =>
    bindV (ret v47_65) fun v48_66 =>
    guardA false v48_66 (bindV (ret v6_9) fun v49_81 =>
    bindV (call 45 [v49_81]) fun v50_82 =>
    bindV (binA Try.prog .lss 3 v50_82 (.int .i64 0)) fun v51_83 =>
    R11.g_80 call k rec_1_49 v48_66 v5_3 v6_9 v8_50 v51_83)
    (R11.g_80 call k rec_1_49 v48_66 v5_3 v6_9 v8_50 (.tuple #[]))

noncomputable def R11.b_106 (call : FuncId → List Value → AM Value) (k : Nat) (v1_in : Value) (v5_3 : Value) (v6_9 : Value) (rec_1_49 : Value → AM Value) (v8_50 : Value) : AM Value :=
  bindV (ret v8_50) fun v19_102 =>
    bindV (ret v1_in) fun v20_103 =>
    bindV (lenA v20_103) fun v21_104 =>
    bindV (binA Try.prog .lss 3 v19_102 v21_104) fun v22_105 =>
    condA v22_105 (bindV (ret v1_in) fun v25_55 =>
    bindV (ret v8_50) fun v26_56 =>
    bindV (indexAddrA 2 v25_55 v26_56) fun v27_57 =>
    bindV (loadA (some 2) v27_57) fun v28_58 =>
    bindV (newA [(.int .i64 0), (.int .i64 0)] 71) fun v9_59 =>
    bindV (storeA 2 v9_59 v28_58) fun _ =>
    bindV (fieldAddrA 0 v9_59) fun v29_85 =>
    bindV (loadA none v29_85) fun v30_86 =>
    bindV (binA Try.prog .eql 3 v30_86 (.int .i64 0)) fun v34_87 =>
    bindV (ret v34_87) fun v33_88 =>
    condA v33_88 (bindV (ret v6_9) fun v35_89 =>
    bindV (fieldAddrA 1 v9_59) fun v36_90 =>
    bindV (loadA none v36_90) fun v37_91 =>
    bindV (call 41 [v35_89, v37_91]) fun v38_92 =>
    R11.j_84 call k rec_1_49 v5_3 v6_9 v8_50)
    (bindV (binA Try.prog .eql 3 v30_86 (.int .i64 1)) fun v40_93 =>
    bindV (ret v40_93) fun v39_94 =>
    condA v39_94 (bindV (ret v6_9) fun v41_95 =>
    bindV (fieldAddrA 1 v9_59) fun v42_96 =>
    bindV (loadA none v42_96) fun v43_97 =>
    bindV (call 42 [v41_95, v43_97]) fun v44_98 =>
    R11.j_84 call k rec_1_49 v5_3 v6_9 v8_50)
    (bindV (ret v6_9) fun v31_99 =>
    bindV (call 43 [v31_99]) fun v32_100 =>
    R11.j_84 call k rec_1_49 v5_3 v6_9 v8_50)))
    (bindV (ret v6_9) fun v62_35 =>
    bindV (ret v6_9) fun v63_36 =>
    bindV (call 45 [v63_36]) fun v64_37 =>
    bindV (call 42 [v62_35, v64_37]) fun v65_38 =>
    bindV (binA Try.prog .neq 39 v65_38 (.int .i64 0)) fun v66_39 =>
    bindV (ret v66_39) fun v67_40 =>
    guardA false v67_40 (bindV (ret v6_9) fun v68_44 =>
    bindV (call 45 [v68_44]) fun v69_45 =>
    bindV (binA Try.prog .neq 3 v69_45 (.int .i64 0)) fun v70_46 =>
    R11.g_43 call k v5_3 v67_40 v6_9 v70_46)
    (R11.g_43 call k v5_3 v67_40 v6_9 (.tuple #[])))

noncomputable def R11.top (call : FuncId → List Value → AM Value) (k : Nat) (v0_in : Value) (v1_in : Value) : AM Value :=
  bindV (ret (.bool false)) fun v4_0 =>
    bindV (ret v0_in) fun v10_1 =>
    bindV (convIntA .i64 v10_1) fun v11_2 =>
    bindV (ret v11_2) fun v5_3 =>
    bindV (ret v5_3) fun v13_4 =>
    bindV (call 40 [v13_4]) fun v14_5 =>
    bindV (ret v14_5) fun v12_6 =>
    bindV (extractA v12_6 0) fun v15_7 =>
    bindV (extractA v12_6 1) fun v16_8 =>
    bindV (ret v15_7) fun v6_9 =>
    bindV (ret v16_8) fun v7_10 =>
    bindV (ret v6_9) fun v17_108 =>
    bindV (binA Try.prog .eql 79 v17_108 (.pointer none)) fun v18_109 =>
    condA v18_109 (bindV (ret (.bool false)) fun v4_110 =>
    ret v4_110)
    (bindV (ret (.int .i64 0)) fun v8_48 =>
    loop1 (R11.b_106 call k v1_in v5_3 v6_9) k v8_48)

theorem R11.eq (call : FuncId → List Value → AM Value) (k : Nat) (v0_in : Value) (v1_in : Value) : funcA Try.prog call k 11 [v0_in, v1_in] = R11.top call k v0_in v1_in := by kernel_rfl

/-! ### 12: aqueduct/aqueductlaw11.WindowCredits (2 arguments) -/
noncomputable def R12.d_34 (call : FuncId → List Value → AM Value) (k : Nat) (rec_1_19 : Value → AM Value) (v9_20 : Value) (v89_33 : Value) : AM Value :=
  condA v89_33 (bindV (ret (.bool false)) fun v4_31 =>
    ret v4_31)
    (bindV (ret v9_20) fun v39_21 =>
    bindV (binA Try.prog .add 3 v39_21 (.int .i64 1)) fun v40_22 =>
    bindV (ret v40_22) fun v9_23 =>
    rec_1_19 v9_23)

noncomputable def R12.j_54 (call : FuncId → List Value → AM Value) (k : Nat) (rec_1_19 : Value → AM Value) (v5_6 : Value) (v7_13 : Value) (v9_20 : Value) : AM Value :=
  bindV (ret v5_6) fun v74_35 =>
    bindS fun s_36 =>
    bindV (call 44 [v74_35]) fun v75_37 =>
    bindV (ret v7_13) fun v76_38 =>
    bindV (nilCheckA v76_38) fun v77_39 =>
    bindV (fieldAddrA 1 v77_39) fun v78_40 =>
    bindV (loadA none v78_40) fun v79_41 =>
    thereV [s_36] (loadA none v78_40) v79_41 (
    bindV (binA Try.prog .neq 3 v75_37 v79_41) fun v80_42 =>
    bindV (ret v80_42) fun v81_43 =>
    guardA false v81_43 (bindV (ret v5_6) fun v82_44 =>
    bindS fun s_45 =>
    bindV (call 45 [v82_44]) fun v83_46 =>
    bindV (ret v7_13) fun v84_47 =>
    bindV (nilCheckA v84_47) fun v85_48 =>
    bindV (fieldAddrA 2 v85_48) fun v86_49 =>
    bindV (loadA none v86_49) fun v87_50 =>
    thereV [s_45] (loadA none v86_49) v87_50 (
    bindV (binA Try.prog .neq 3 v83_46 v87_50) fun v88_51 =>
    bindV (pickA v81_43 (.bool true) v88_51) fun v89_52 =>
    R12.d_34 call k rec_1_19 v9_20 v89_52))
    (bindV (pickA v81_43 (.bool true) (.tuple #[])) fun v89_53 =>
    R12.d_34 call k rec_1_19 v9_20 v89_53))

noncomputable def R12.g_99 (call : FuncId → List Value → AM Value) (k : Nat) (rec_1_19 : Value → AM Value) (v1_in : Value) (v33_96 : Value) (v5_6 : Value) (v7_13 : Value) (v9_20 : Value) (v37_97 : Value) : AM Value :=
  bindV (pickA v33_96 v37_97 (.bool false)) fun v38_98 =>
    condA v38_98 (bindV (ret v1_in) fun v41_25 =>
    bindV (ret v9_20) fun v42_26 =>
    bindV (indexAddrA 2 v41_25 v42_26) fun v43_27 =>
    bindV (loadA (some 2) v43_27) fun v44_28 =>
    bindV (newA [(.int .i64 0), (.int .i64 0)] 71) fun v10_29 =>
    bindV (storeA 2 v10_29 v44_28) fun _ =>
    bindV (fieldAddrA 0 v10_29) fun v45_55 =>
    bindV (loadA none v45_55) fun v46_56 =>
    bindV (binA Try.prog .eql 3 v46_56 (.int .i64 0)) fun v53_57 =>
    bindV (ret v53_57) fun v52_58 =>
    condA v52_58 (bindV (ret v5_6) fun v54_59 =>
    bindV (fieldAddrA 1 v10_29) fun v55_60 =>
    bindV (loadA none v55_60) fun v56_61 =>
    bindS fun s_62 =>
    bindV (call 41 [v54_59, v56_61]) fun v57_63 =>
    bindV (ret v7_13) fun v58_64 =>
    bindV (fieldAddrA 1 v10_29) fun v59_65 =>
    bindV (loadA none v59_65) fun v60_66 =>
    thereV [s_62] (loadA none v59_65) v60_66 (
    bindV (call 47 [v58_64, v60_66]) fun v61_68 =>
    bindV (binA Try.prog .neq 3 v57_63 v61_68) fun v62_69 =>
    condA v62_69 (bindV (ret (.bool false)) fun v4_70 =>
    ret v4_70)
    (R12.j_54 call k rec_1_19 v5_6 v7_13 v9_20)))
    (bindV (binA Try.prog .eql 3 v46_56 (.int .i64 1)) fun v64_71 =>
    bindV (ret v64_71) fun v63_72 =>
    condA v63_72 (bindV (ret v5_6) fun v65_73 =>
    bindV (fieldAddrA 1 v10_29) fun v66_74 =>
    bindV (loadA none v66_74) fun v67_75 =>
    bindS fun s_76 =>
    bindV (call 42 [v65_73, v67_75]) fun v68_77 =>
    bindV (ret v7_13) fun v69_78 =>
    bindV (fieldAddrA 1 v10_29) fun v70_79 =>
    bindV (loadA none v70_79) fun v71_80 =>
    thereV [s_76] (loadA none v70_79) v71_80 (
    bindV (call 48 [v69_78, v71_80]) fun v72_82 =>
    bindV (binA Try.prog .neq 3 v68_77 v72_82) fun v73_83 =>
    condA v73_83 (bindV (ret (.bool false)) fun v4_84 =>
    ret v4_84)
    (R12.j_54 call k rec_1_19 v5_6 v7_13 v9_20)))
    (bindV (ret v5_6) fun v47_85 =>
    bindV (call 43 [v47_85]) fun v48_86 =>
    bindV (ret v7_13) fun v49_87 =>
    bindV (call 49 [v49_87]) fun v50_88 =>
    bindV (binA Try.prog .neq 3 v48_86 v50_88) fun v51_89 =>
    condA v51_89 (bindV (ret (.bool false)) fun v4_90 =>
    ret v4_90)
    (R12.j_54 call k rec_1_19 v5_6 v7_13 v9_20))))
    (bindV (call 39 []) fun v90_15 =>
    bindV (ret v90_15) fun v4_16 =>
    ret v4_16)

noncomputable def R12.b_104 (call : FuncId → List Value → AM Value) (k : Nat) (v1_in : Value) (v5_6 : Value) (v7_13 : Value) (rec_1_19 : Value → AM Value) (v9_20 : Value) : AM Value :=
  bindV (ret v7_13) fun v31_94 =>
    bindV (binA Try.prog .neq 83 v31_94 (.pointer none)) fun v32_95 =>
    bindV (ret v32_95) fun v33_96 =>
    guardA true v33_96 (bindV (ret v9_20) fun v34_100 =>
    bindV (ret v1_in) fun v35_101 =>
    bindV (lenA v35_101) fun v36_102 =>
    bindV (binA Try.prog .lss 3 v34_100 v36_102) fun v37_103 =>
    R12.g_99 call k rec_1_19 v1_in v33_96 v5_6 v7_13 v9_20 v37_103)
    (R12.g_99 call k rec_1_19 v1_in v33_96 v5_6 v7_13 v9_20 (.tuple #[]))

noncomputable def R12.g_115 (call : FuncId → List Value → AM Value) (k : Nat) (v1_in : Value) (v24_112 : Value) (v5_6 : Value) (v7_13 : Value) (v29_113 : Value) : AM Value :=
  bindV (pickA v24_112 (.bool true) v29_113) fun v30_114 =>
    condA v30_114 (bindV (ret (.bool false)) fun v4_107 =>
    ret v4_107)
    (bindV (ret (.int .i64 0)) fun v9_18 =>
    loop1 (R12.b_104 call k v1_in v5_6 v7_13) k v9_18)

noncomputable def R12.top (call : FuncId → List Value → AM Value) (k : Nat) (v0_in : Value) (v1_in : Value) : AM Value :=
  bindV (ret (.bool false)) fun v4_0 =>
    bindV (ret v0_in) fun v12_1 =>
    bindV (call 40 [v12_1]) fun v13_2 =>
    bindV (ret v13_2) fun v11_3 =>
    bindV (extractA v11_3 0) fun v14_4 =>
    bindV (extractA v11_3 1) fun v15_5 =>
    bindV (ret v14_4) fun v5_6 =>
    bindV (ret v15_5) fun v6_7 =>
    bindV (ret v0_in) fun v17_8 =>
    bindV (call 46 [v17_8]) fun v18_9 =>
    bindV (ret v18_9) fun v16_10 =>
    bindV (extractA v16_10 0) fun v19_11 =>
    bindV (extractA v16_10 1) fun v20_12 =>
    bindV (ret v19_11) fun v7_13 =>
    bindV (ret v20_12) fun v8_14 =>
    bindV (ret v6_7) fun v21_109 =>
    bindV (ret v8_14) fun v22_110 =>
    bindV (binA Try.prog .neq 3 v21_109 v22_110) fun v23_111 =>
    bindV (ret v23_111) fun v24_112 =>
    guardA false v24_112 (bindV (ret v5_6) fun v25_116 =>
    bindV (binA Try.prog .eql 79 v25_116 (.pointer none)) fun v26_117 =>
    bindV (ret v7_13) fun v27_118 =>
    bindV (binA Try.prog .eql 83 v27_118 (.pointer none)) fun v28_119 =>
    bindV (binA Try.prog .neq 4 v26_117 v28_119) fun v29_120 =>
    R12.g_115 call k v1_in v24_112 v5_6 v7_13 v29_120)
    (R12.g_115 call k v1_in v24_112 v5_6 v7_13 (.tuple #[]))

theorem R12.eq (call : FuncId → List Value → AM Value) (k : Nat) (v0_in : Value) (v1_in : Value) : funcA Try.prog call k 12 [v0_in, v1_in] = R12.top call k v0_in v1_in := by kernel_rfl

/-! ### 13: aqueduct/aqueductlaw11.WindowGives (2 arguments) -/
noncomputable def R13.g_22 (call : FuncId → List Value → AM Value) (k : Nat) (v108_18 : Value) (v109_19 : Value) : AM Value :=
  bindV (pickA v108_18 v109_19 (.bool false)) fun v110_20 =>
    bindV (ret v110_20) fun v4_21 =>
    ret v4_21

noncomputable def R13.g_77 (call : FuncId → List Value → AM Value) (k : Nat) (rec_3_26 : Value → Value → Value → AM Value) (v10_29 : Value) (v88_70 : Value) (v8_46 : Value) (v9_53 : Value) (v103_75 : Value) : AM Value :=
  bindV (pickA v88_70 (.bool true) v103_75) fun v104_76 =>
    condA v104_76 (bindV (ret (.bool false)) fun v4_55 =>
    ret v4_55)
    (bindV (ret v10_29) fun v27_32 =>
    bindV (binA Try.prog .add 3 v27_32 (.int .i64 1)) fun v28_33 =>
    bindV (ret v28_33) fun v10_34 =>
    rec_3_26 v8_46 v9_53 v10_34)

noncomputable def R13.g_79 (call : FuncId → List Value → AM Value) (k : Nat) (rec_3_26 : Value → Value → Value → AM Value) (v10_29 : Value) (v88_70 : Value) (v8_46 : Value) (v99_73 : Value) (v9_53 : Value) (v102_74 : Value) : AM Value :=
  guardA false v88_70 (bindV (pickA v99_73 v102_74 (.bool false)) fun v103_78 =>
    R13.g_77 call k rec_3_26 v10_29 v88_70 v8_46 v9_53 v103_78)
    (R13.g_77 call k rec_3_26 v10_29 v88_70 v8_46 v9_53 (.tuple #[]))

noncomputable def R13.g_83 (call : FuncId → List Value → AM Value) (k : Nat) (rec_3_26 : Value → Value → Value → AM Value) (v10_29 : Value) (v88_70 : Value) (v8_46 : Value) (v9_53 : Value) (v99_73 : Value) : AM Value :=
  guardA true v99_73 (bindV (ret v8_46) fun v100_80 =>
    bindV (ret v9_53) fun v101_81 =>
    bindV (binA Try.prog .gtr 3 v100_80 v101_81) fun v102_82 =>
    R13.g_79 call k rec_3_26 v10_29 v88_70 v8_46 v99_73 v9_53 v102_82)
    (R13.g_79 call k rec_3_26 v10_29 v88_70 v8_46 v99_73 v9_53 (.tuple #[]))

noncomputable def R13.g_86 (call : FuncId → List Value → AM Value) (k : Nat) (rec_3_26 : Value → Value → Value → AM Value) (v10_29 : Value) (v88_70 : Value) (v8_46 : Value) (v91_71 : Value) (v9_53 : Value) (v97_72 : Value) : AM Value :=
  guardA false v88_70 (bindV (pickA v91_71 v97_72 (.bool false)) fun v98_84 =>
    bindV (ret v98_84) fun v99_85 =>
    R13.g_83 call k rec_3_26 v10_29 v88_70 v8_46 v9_53 v99_85)
    (R13.g_83 call k rec_3_26 v10_29 v88_70 v8_46 v9_53 (.tuple #[]))

noncomputable def R13.g_93 (call : FuncId → List Value → AM Value) (k : Nat) (rec_3_26 : Value → Value → Value → AM Value) (v10_29 : Value) (v5_3 : Value) (v88_70 : Value) (v8_46 : Value) (v9_53 : Value) (v91_71 : Value) : AM Value :=
  guardA true v91_71 (bindV (ret v8_46) fun v92_87 =>
    bindV (ret v9_53) fun v93_88 =>
    bindV (binA Try.prog .sub 3 v92_87 v93_88) fun v94_89 =>
    bindV (binA Try.prog .mul 3 (.int .i64 2) v94_89) fun v95_90 =>
    bindV (ret v5_3) fun v96_91 =>
    bindV (binA Try.prog .geq 3 v95_90 v96_91) fun v97_92 =>
    R13.g_86 call k rec_3_26 v10_29 v88_70 v8_46 v91_71 v9_53 v97_92)
    (R13.g_86 call k rec_3_26 v10_29 v88_70 v8_46 v91_71 v9_53 (.tuple #[]))

noncomputable def R13.g_97 (call : FuncId → List Value → AM Value) (k : Nat) (rec_3_26 : Value → Value → Value → AM Value) (v10_29 : Value) (v13_49 : Value) (v5_3 : Value) (v78_67 : Value) (v8_46 : Value) (v9_53 : Value) (v86_68 : Value) : AM Value :=
  bindV (pickA v78_67 (.bool true) v86_68) fun v87_69 =>
    bindV (ret v87_69) fun v88_70 =>
    guardA false v88_70 (bindV (ret v13_49) fun v89_94 =>
    bindV (binA Try.prog .eql 3 v89_94 (.int .i64 0)) fun v90_95 =>
    bindV (ret v90_95) fun v91_96 =>
    R13.g_93 call k rec_3_26 v10_29 v5_3 v88_70 v8_46 v9_53 v91_96)
    (R13.g_93 call k rec_3_26 v10_29 v5_3 v88_70 v8_46 v9_53 (.tuple #[]))

noncomputable def R13.g_106 (call : FuncId → List Value → AM Value) (k : Nat) (rec_3_26 : Value → Value → Value → AM Value) (v10_29 : Value) (v13_49 : Value) (v5_3 : Value) (v6_9 : Value) (v73_64 : Value) (v8_46 : Value) (v9_53 : Value) (v76_65 : Value) : AM Value :=
  bindV (pickA v73_64 (.bool true) v76_65) fun v77_66 =>
    bindV (ret v77_66) fun v78_67 =>
    guardA false v78_67 (bindV (ret v6_9) fun v79_98 =>
    bindV (call 44 [v79_98]) fun v80_99 =>
    bindV (ret v5_3) fun v81_100 =>
    bindV (ret v8_46) fun v82_101 =>
    bindV (binA Try.prog .sub 3 v81_100 v82_101) fun v83_102 =>
    bindV (ret v9_53) fun v84_103 =>
    bindV (binA Try.prog .add 3 v83_102 v84_103) fun v85_104 =>
    bindV (binA Try.prog .neq 3 v80_99 v85_104) fun v86_105 =>
    R13.g_97 call k rec_3_26 v10_29 v13_49 v5_3 v78_67 v8_46 v9_53 v86_105)
    (R13.g_97 call k rec_3_26 v10_29 v13_49 v5_3 v78_67 v8_46 v9_53 (.tuple #[]))

noncomputable def R13.g_110 (call : FuncId → List Value → AM Value) (k : Nat) (rec_3_26 : Value → Value → Value → AM Value) (v10_29 : Value) (v13_49 : Value) (v5_3 : Value) (v63_59 : Value) (v6_9 : Value) (v8_46 : Value) (v9_53 : Value) (v71_62 : Value) : AM Value :=
  bindV (pickA v63_59 (.bool true) v71_62) fun v72_63 =>
    bindV (ret v72_63) fun v73_64 =>
    guardA false v73_64 (bindV (ret v9_53) fun v74_107 =>
    bindV (ret v8_46) fun v75_108 =>
    bindV (binA Try.prog .gtr 3 v74_107 v75_108) fun v76_109 =>
    R13.g_106 call k rec_3_26 v10_29 v13_49 v5_3 v6_9 v73_64 v8_46 v9_53 v76_109)
    (R13.g_106 call k rec_3_26 v10_29 v13_49 v5_3 v6_9 v73_64 v8_46 v9_53 (.tuple #[]))

noncomputable def R13.g_112 (call : FuncId → List Value → AM Value) (k : Nat) (rec_3_26 : Value → Value → Value → AM Value) (v10_29 : Value) (v13_49 : Value) (v5_3 : Value) (v63_59 : Value) (v66_60 : Value) (v6_9 : Value) (v8_46 : Value) (v9_53 : Value) (v70_61 : Value) : AM Value :=
  guardA false v63_59 (bindV (pickA v66_60 v70_61 (.bool false)) fun v71_111 =>
    R13.g_110 call k rec_3_26 v10_29 v13_49 v5_3 v63_59 v6_9 v8_46 v9_53 v71_111)
    (R13.g_110 call k rec_3_26 v10_29 v13_49 v5_3 v63_59 v6_9 v8_46 v9_53 (.tuple #[]))

noncomputable def R13.g_117 (call : FuncId → List Value → AM Value) (k : Nat) (rec_3_26 : Value → Value → Value → AM Value) (v10_29 : Value) (v13_49 : Value) (v5_3 : Value) (v63_59 : Value) (v6_9 : Value) (v8_46 : Value) (v9_53 : Value) (v66_60 : Value) : AM Value :=
  guardA true v66_60 (bindV (ret v13_49) fun v67_113 =>
    bindV (binA Try.prog .mul 3 (.int .i64 2) v67_113) fun v68_114 =>
    bindV (ret v5_3) fun v69_115 =>
    bindV (binA Try.prog .lss 3 v68_114 v69_115) fun v70_116 =>
    R13.g_112 call k rec_3_26 v10_29 v13_49 v5_3 v63_59 v66_60 v6_9 v8_46 v9_53 v70_116)
    (R13.g_112 call k rec_3_26 v10_29 v13_49 v5_3 v63_59 v66_60 v6_9 v8_46 v9_53 (.tuple #[]))

noncomputable def R13.j_121 (call : FuncId → List Value → AM Value) (k : Nat) (rec_3_26 : Value → Value → Value → AM Value) (v10_29 : Value) (v5_3 : Value) (v6_9 : Value) (v9_28 : Value) (v8_46 : Value) : AM Value :=
  bindV (ret v6_9) fun v56_47 =>
    bindV (call 43 [v56_47]) fun v57_48 =>
    bindV (ret v57_48) fun v13_49 =>
    bindV (ret v9_28) fun v58_50 =>
    bindV (ret v13_49) fun v59_51 =>
    bindV (binA Try.prog .add 3 v58_50 v59_51) fun v60_52 =>
    bindV (ret v60_52) fun v9_53 =>
    bindV (ret v13_49) fun v61_57 =>
    bindV (binA Try.prog .lss 3 v61_57 (.int .i64 0)) fun v62_58 =>
    bindV (ret v62_58) fun v63_59 =>
    guardA false v63_59 (bindV (ret v13_49) fun v64_118 =>
    bindV (binA Try.prog .gtr 3 v64_118 (.int .i64 0)) fun v65_119 =>
    bindV (ret v65_119) fun v66_120 =>
    R13.g_117 call k rec_3_26 v10_29 v13_49 v5_3 v63_59 v6_9 v8_46 v9_53 v66_120)
    (R13.g_117 call k rec_3_26 v10_29 v13_49 v5_3 v63_59 v6_9 v8_46 v9_53 (.tuple #[]))

noncomputable def R13.b_151 (call : FuncId → List Value → AM Value) (k : Nat) (v1_in : Value) (v5_3 : Value) (v6_9 : Value) (rec_3_26 : Value → Value → Value → AM Value) (v8_27 : Value) (v9_28 : Value) (v10_29 : Value) : AM Value :=
  bindV (ret v10_29) fun v23_147 =>
    bindV (ret v1_in) fun v24_148 =>
    bindV (lenA v24_148) fun v25_149 =>
    bindV (binA Try.prog .lss 3 v23_147 v25_149) fun v26_150 =>
    condA v26_150 (bindV (ret v1_in) fun v29_36 =>
    bindV (ret v10_29) fun v30_37 =>
    bindV (indexAddrA 1 v29_36 v30_37) fun v31_38 =>
    bindV (loadA none v31_38) fun v32_39 =>
    bindV (convIntA .i64 v32_39) fun v33_40 =>
    bindV (ret v33_40) fun v11_41 =>
    bindV (ret v6_9) fun v34_42 =>
    bindV (ret v11_41) fun v35_43 =>
    bindV (call 41 [v34_42, v35_43]) fun v36_44 =>
    bindV (ret v36_44) fun v12_45 =>
    bindV (ret v12_45) fun v37_135 =>
    bindV (binA Try.prog .eql 39 v37_135 (.int .i64 0)) fun v38_136 =>
    bindV (ret v11_41) fun v39_137 =>
    bindV (ret v5_3) fun v40_138 =>
    bindV (ret v8_27) fun v41_139 =>
    bindV (binA Try.prog .sub 3 v40_138 v41_139) fun v42_140 =>
    bindV (ret v9_28) fun v43_141 =>
    bindV (binA Try.prog .add 3 v42_140 v43_141) fun v44_142 =>
    bindV (binA Try.prog .leq 3 v39_137 v44_142) fun v45_143 =>
    bindV (binA Try.prog .neq 4 v38_136 v45_143) fun v46_144 =>
    condA v46_144 (bindV (ret (.bool false)) fun v4_145 =>
    ret v4_145)
    (bindV (ret v12_45) fun v47_122 =>
    bindV (binA Try.prog .eql 39 v47_122 (.int .i64 0)) fun v48_123 =>
    condA v48_123 (bindV (ret v6_9) fun v49_129 =>
    bindV (ret v11_41) fun v50_130 =>
    bindV (call 42 [v49_129, v50_130]) fun v51_131 =>
    bindV (binA Try.prog .neq 39 v51_131 (.int .i64 0)) fun v52_132 =>
    condA v52_132 (bindV (ret (.bool false)) fun v4_133 =>
    ret v4_133)
    (bindV (ret v8_27) fun v53_124 =>
    bindV (ret v11_41) fun v54_125 =>
    bindV (binA Try.prog .add 3 v53_124 v54_125) fun v55_126 =>
    bindV (ret v55_126) fun v8_127 =>
    R13.j_121 call k rec_3_26 v10_29 v5_3 v6_9 v9_28 v8_127))
    (R13.j_121 call k rec_3_26 v10_29 v5_3 v6_9 v9_28 v8_27)))
    (bindV (ret v6_9) fun v105_15 =>
    bindV (call 45 [v105_15]) fun v106_16 =>
    bindV (binA Try.prog .eql 3 v106_16 (.int .i64 0)) fun v107_17 =>
    bindV (ret v107_17) fun v108_18 =>
    guardA true v108_18 (bindV (call 39 []) fun v109_23 =>
    R13.g_22 call k v108_18 v109_23)
    (R13.g_22 call k v108_18 (.tuple #[])))

noncomputable def R13.top (call : FuncId → List Value → AM Value) (k : Nat) (v0_in : Value) (v1_in : Value) : AM Value :=
  bindV (ret (.bool false)) fun v4_0 =>
    bindV (ret v0_in) fun v14_1 =>
    bindV (convIntA .i64 v14_1) fun v15_2 =>
    bindV (ret v15_2) fun v5_3 =>
    bindV (ret v5_3) fun v17_4 =>
    bindV (call 40 [v17_4]) fun v18_5 =>
    bindV (ret v18_5) fun v16_6 =>
    bindV (extractA v16_6 0) fun v19_7 =>
    bindV (extractA v16_6 1) fun v20_8 =>
    bindV (ret v19_7) fun v6_9 =>
    bindV (ret v20_8) fun v7_10 =>
    bindV (ret v6_9) fun v21_153 =>
    bindV (binA Try.prog .eql 79 v21_153 (.pointer none)) fun v22_154 =>
    condA v22_154 (bindV (ret (.bool false)) fun v4_155 =>
    ret v4_155)
    (bindV (ret (.int .i64 0)) fun v8_11 =>
    bindV (ret (.int .i64 0)) fun v9_12 =>
    bindV (ret (.int .i64 0)) fun v10_25 =>
    loop3 (R13.b_151 call k v1_in v5_3 v6_9) k v8_11 v9_12 v10_25)

theorem R13.eq (call : FuncId → List Value → AM Value) (k : Nat) (v0_in : Value) (v1_in : Value) : funcA Try.prog call k 13 [v0_in, v1_in] = R13.top call k v0_in v1_in := by kernel_rfl

/-! ### 14: aqueduct/aqueductlaw11.WindowZero (1 arguments) -/
noncomputable def R14.g_38 (call : FuncId → List Value → AM Value) (k : Nat) (v52_34 : Value) (v55_35 : Value) : AM Value :=
  bindV (pickA v52_34 v55_35 (.bool false)) fun v56_36 =>
    bindV (ret v56_36) fun v2_37 =>
    ret v2_37

noncomputable def R14.g_42 (call : FuncId → List Value → AM Value) (k : Nat) (v48_31 : Value) (v5_3 : Value) (v50_32 : Value) : AM Value :=
  bindV (pickA v48_31 v50_32 (.bool false)) fun v51_33 =>
    bindV (ret v51_33) fun v52_34 =>
    guardA true v52_34 (bindV (ret v5_3) fun v53_39 =>
    bindV (call 45 [v53_39]) fun v54_40 =>
    bindV (binA Try.prog .eql 3 v54_40 (.int .i64 0)) fun v55_41 =>
    R14.g_38 call k v52_34 v55_41)
    (R14.g_38 call k v52_34 (.tuple #[]))

noncomputable def R14.g_45 (call : FuncId → List Value → AM Value) (k : Nat) (v43_28 : Value) (v5_3 : Value) (v6_4 : Value) (v46_29 : Value) : AM Value :=
  bindV (pickA v43_28 v46_29 (.bool false)) fun v47_30 =>
    bindV (ret v47_30) fun v48_31 =>
    guardA true v48_31 (bindV (call 44 [v6_4]) fun v49_43 =>
    bindV (binA Try.prog .eql 3 v49_43 (.int .i64 0)) fun v50_44 =>
    R14.g_42 call k v48_31 v5_3 v50_44)
    (R14.g_42 call k v48_31 v5_3 (.tuple #[]))

noncomputable def R14.g_49 (call : FuncId → List Value → AM Value) (k : Nat) (v37_25 : Value) (v5_3 : Value) (v6_4 : Value) (v41_26 : Value) : AM Value :=
  bindV (pickA v37_25 v41_26 (.bool false)) fun v42_27 =>
    bindV (ret v42_27) fun v43_28 =>
    guardA true v43_28 (bindV (ret v5_3) fun v44_46 =>
    bindV (call 43 [v44_46]) fun v45_47 =>
    bindV (binA Try.prog .eql 3 v45_47 (.int .i64 0)) fun v46_48 =>
    R14.g_45 call k v43_28 v5_3 v6_4 v46_48)
    (R14.g_45 call k v43_28 v5_3 v6_4 (.tuple #[]))

noncomputable def R14.g_54 (call : FuncId → List Value → AM Value) (k : Nat) (v0_in : Value) (v30_22 : Value) (v5_3 : Value) (v6_4 : Value) (v7_5 : Value) (v35_23 : Value) : AM Value :=
  bindV (pickA v30_22 v35_23 (.bool false)) fun v36_24 =>
    bindV (ret v36_24) fun v37_25 =>
    guardA true v37_25 (bindV (ret v0_in) fun v38_50 =>
    bindV (call 42 [v6_4, v38_50]) fun v39_51 =>
    bindV (ret v7_5) fun v40_52 =>
    bindV (binA Try.prog .eql 39 v39_51 v40_52) fun v41_53 =>
    R14.g_49 call k v37_25 v5_3 v6_4 v41_53)
    (R14.g_49 call k v37_25 v5_3 v6_4 (.tuple #[]))

noncomputable def R14.g_60 (call : FuncId → List Value → AM Value) (k : Nat) (v0_in : Value) (v26_19 : Value) (v5_3 : Value) (v6_4 : Value) (v7_5 : Value) (v28_20 : Value) : AM Value :=
  bindV (pickA v26_19 v28_20 (.bool false)) fun v29_21 =>
    bindV (ret v29_21) fun v30_22 =>
    guardA true v30_22 (bindV (ret v5_3) fun v31_55 =>
    bindV (ret v0_in) fun v32_56 =>
    bindV (call 41 [v31_55, v32_56]) fun v33_57 =>
    bindV (ret v7_5) fun v34_58 =>
    bindV (binA Try.prog .eql 39 v33_57 v34_58) fun v35_59 =>
    R14.g_54 call k v0_in v30_22 v5_3 v6_4 v7_5 v35_59)
    (R14.g_54 call k v0_in v30_22 v5_3 v6_4 v7_5 (.tuple #[]))

noncomputable def R14.g_63 (call : FuncId → List Value → AM Value) (k : Nat) (v0_in : Value) (v19_16 : Value) (v4_2 : Value) (v5_3 : Value) (v6_4 : Value) (v7_5 : Value) (v24_17 : Value) : AM Value :=
  bindV (pickA v19_16 v24_17 (.bool false)) fun v25_18 =>
    bindV (ret v25_18) fun v26_19 =>
    guardA true v26_19 (bindV (call 38 [v4_2]) fun v27_61 =>
    bindV (binA Try.prog .eql 3 v27_61 (.int .i64 0)) fun v28_62 =>
    R14.g_60 call k v0_in v26_19 v5_3 v6_4 v7_5 v28_62)
    (R14.g_60 call k v0_in v26_19 v5_3 v6_4 v7_5 (.tuple #[]))

noncomputable def R14.g_69 (call : FuncId → List Value → AM Value) (k : Nat) (v0_in : Value) (v13_13 : Value) (v3_1 : Value) (v4_2 : Value) (v5_3 : Value) (v6_4 : Value) (v7_5 : Value) (v17_14 : Value) : AM Value :=
  bindV (pickA v13_13 v17_14 (.bool false)) fun v18_15 =>
    bindV (ret v18_15) fun v19_16 =>
    guardA true v19_16 (bindV (ret v3_1) fun v20_64 =>
    bindV (ret v0_in) fun v21_65 =>
    bindV (call 36 [v20_64, v21_65]) fun v22_66 =>
    bindV (ret v7_5) fun v23_67 =>
    bindV (binA Try.prog .eql 39 v22_66 v23_67) fun v24_68 =>
    R14.g_63 call k v0_in v19_16 v4_2 v5_3 v6_4 v7_5 v24_68)
    (R14.g_63 call k v0_in v19_16 v4_2 v5_3 v6_4 v7_5 (.tuple #[]))

noncomputable def R14.top (call : FuncId → List Value → AM Value) (k : Nat) (v0_in : Value) : AM Value :=
  bindV (ret (.bool false)) fun v2_0 =>
    bindV (ret (.pointer none)) fun v3_1 =>
    bindV (newA [(.bool false), (.int .i64 0)] 93) fun v4_2 =>
    bindV (ret (.pointer none)) fun v5_3 =>
    bindV (newA [(.bool false), (.int .i64 0), (.int .i64 0), (.int .i64 0), (.int .i64 0)] 95) fun v6_4 =>
    bindV (ret (.int .i64 7)) fun v7_5 =>
    bindV (ret v3_1) fun v8_8 =>
    bindV (ret v0_in) fun v9_9 =>
    bindV (call 32 [v8_8, v9_9]) fun v10_10 =>
    bindV (ret v7_5) fun v11_11 =>
    bindV (binA Try.prog .eql 39 v10_10 v11_11) fun v12_12 =>
    bindV (ret v12_12) fun v13_13 =>
    guardA true v13_13 (bindV (ret v0_in) fun v14_70 =>
    bindV (call 34 [v4_2, v14_70]) fun v15_71 =>
    bindV (ret v7_5) fun v16_72 =>
    bindV (binA Try.prog .eql 39 v15_71 v16_72) fun v17_73 =>
    R14.g_69 call k v0_in v13_13 v3_1 v4_2 v5_3 v6_4 v7_5 v17_73)
    (R14.g_69 call k v0_in v13_13 v3_1 v4_2 v5_3 v6_4 v7_5 (.tuple #[]))

theorem R14.eq (call : FuncId → List Value → AM Value) (k : Nat) (v0_in : Value) : funcA Try.prog call k 14 [v0_in] = R14.top call k v0_in := by kernel_rfl

/-! ### 30: aqueduct/window.New (1 arguments) -/
noncomputable def R30.top (call : FuncId → List Value → AM Value) (k : Nat) (v0_in : Value) : AM Value :=
  bindV (ret (.pointer none)) fun v2_0 =>
    bindV (ret (.int .i64 0)) fun v3_1 =>
    bindV (ret v0_in) fun v4_9 =>
    bindV (buildSliceA 3 1 1 [(.int .i64 0)] [(0, v4_9)]) fun v5_10 =>
    bindV (call 55 [(.int .i64 0), (.int .i64 2147483647), v5_10]) fun v6_11 =>
    bindV (unA .not v6_11) fun v7_12 =>
    condA v7_12 (bindV (ret (.pointer none)) fun v2_13 =>
    bindV (ret (.int .i64 1)) fun v3_14 =>
    ret (.tuple #[v2_13, v3_14]))
    (bindV (ret v0_in) fun v8_2 =>
    bindV (buildA [(0, 1), (1, 1)] [(.bool false), (.int .i64 0)] [(0, (.bool true)), (1, v8_2)]) fun v9_3 =>
    bindV (buildA [(0, 2)] [(.bool false), (.int .i64 0)] [(0, v9_3)]) fun v10_4 =>
    bindV (boxA 93 v10_4) fun v11_5 =>
    bindV (ret v11_5) fun v2_6 =>
    bindV (ret (.int .i64 0)) fun v3_7 =>
    ret (.tuple #[v2_6, v3_7]))

theorem R30.eq (call : FuncId → List Value → AM Value) (k : Nat) (v0_in : Value) : funcA Try.prog call k 30 [v0_in] = R30.top call k v0_in := by kernel_rfl

/-! ### 31: aqueduct/aqueductref11.New (1 arguments) -/
noncomputable def R31.g_17 (call : FuncId → List Value → AM Value) (k : Nat) (v0_in : Value) (v6_14 : Value) (v8_15 : Value) : AM Value :=
  bindV (pickA v6_14 (.bool true) v8_15) fun v9_16 =>
    condA v9_16 (bindV (ret (.pointer none)) fun v2_9 =>
    bindV (ret (.int .i64 1)) fun v3_10 =>
    ret (.tuple #[v2_9, v3_10]))
    (bindV (ret v0_in) fun v10_2 =>
    bindV (buildA [(0, 1)] [(.int .i64 0)] [(0, v10_2)]) fun v11_3 =>
    bindV (boxA 75 v11_3) fun v12_4 =>
    bindV (ret v12_4) fun v2_5 =>
    bindV (ret (.int .i64 0)) fun v3_6 =>
    ret (.tuple #[v2_5, v3_6]))

noncomputable def R31.top (call : FuncId → List Value → AM Value) (k : Nat) (v0_in : Value) : AM Value :=
  bindV (ret (.pointer none)) fun v2_0 =>
    bindV (ret (.int .i64 0)) fun v3_1 =>
    bindV (ret v0_in) fun v4_12 =>
    bindV (binA Try.prog .lss 3 v4_12 (.int .i64 0)) fun v5_13 =>
    bindV (ret v5_13) fun v6_14 =>
    guardA false v6_14 (bindV (ret v0_in) fun v7_18 =>
    bindV (binA Try.prog .gtr 3 v7_18 (.int .i64 2147483647)) fun v8_19 =>
    R31.g_17 call k v0_in v6_14 v8_19)
    (R31.g_17 call k v0_in v6_14 (.tuple #[]))

theorem R31.eq (call : FuncId → List Value → AM Value) (k : Nat) (v0_in : Value) : funcA Try.prog call k 31 [v0_in] = R31.top call k v0_in := by kernel_rfl

/-! ### 32: (*aqueduct/window.Window).Take (2 arguments) -/
noncomputable def R32.top (call : FuncId → List Value → AM Value) (k : Nat) (v0_in : Value) (v1_in : Value) : AM Value :=
  bindV (ret (.int .i64 0)) fun v4_0 =>
    bindV (ret v0_in) fun v6_13 =>
    bindV (call 56 [v6_13]) fun v7_14 =>
    bindV (ret v7_14) fun v5_15 =>
    condA v5_15 (bindV (ret (.int .i64 7)) fun v4_16 =>
    ret v4_16)
    (bindV (ret v1_in) fun v9_17 =>
    bindV (binA Try.prog .lss 3 v9_17 (.int .i64 0)) fun v10_18 =>
    bindV (ret v10_18) fun v8_19 =>
    condA v8_19 (bindV (ret (.int .i64 1)) fun v4_20 =>
    ret v4_20)
    (bindV (ret v1_in) fun v12_21 =>
    bindV (ret v0_in) fun v13_22 =>
    bindV (nilCheckA v13_22) fun v14_23 =>
    bindV (fieldAddrA 0 v14_23) fun v15_24 =>
    bindV (fieldAddrA 1 v15_24) fun v16_25 =>
    bindV (loadA none v16_25) fun v17_26 =>
    bindV (max2A v17_26 (.int .i64 0)) fun v18_27 =>
    bindV (binA Try.prog .gtr 3 v12_21 v18_27) fun v19_28 =>
    bindV (ret v19_28) fun v11_29 =>
    condA v11_29 (bindV (ret (.int .i64 110)) fun v4_30 =>
    ret v4_30)
    (bindV (ret v0_in) fun v20_1 =>
    bindV (nilCheckA v20_1) fun v21_2 =>
    bindV (fieldAddrA 0 v21_2) fun v22_3 =>
    bindV (fieldAddrA 1 v22_3) fun v23_4 =>
    bindV (loadA none v23_4) fun v24_5 =>
    bindV (ret v1_in) fun v25_6 =>
    bindV (binA Try.prog .sub 3 v24_5 v25_6) fun v26_7 =>
    bindV (nilCheckA v20_1) fun v27_8 =>
    bindV (fieldAddrA 0 v27_8) fun v28_9 =>
    bindV (fieldAddrA 1 v28_9) fun v29_10 =>
    bindV (storeA 1 v29_10 v26_7) fun _ =>
    bindV (ret (.int .i64 0)) fun v4_11 =>
    ret v4_11)))

theorem R32.eq (call : FuncId → List Value → AM Value) (k : Nat) (v0_in : Value) (v1_in : Value) : funcA Try.prog call k 32 [v0_in, v1_in] = R32.top call k v0_in v1_in := by kernel_rfl

/-! ### 33: (*aqueduct/aqueductref11.Window).Take (2 arguments) -/
noncomputable def R33.g_20 (call : FuncId → List Value → AM Value) (k : Nat) (v0_in : Value) (v1_in : Value) (v9_17 : Value) (v15_18 : Value) : AM Value :=
  bindV (pickA v9_17 v15_18 (.bool false)) fun v16_19 =>
    condA v16_19 (bindV (ret (.int .i64 110)) fun v4_13 =>
    ret v4_13)
    (bindV (ret v0_in) fun v17_1 =>
    bindV (ret v0_in) fun v18_2 =>
    bindV (nilCheckA v18_2) fun v19_3 =>
    bindV (fieldAddrA 0 v19_3) fun v20_4 =>
    bindV (loadA none v20_4) fun v21_5 =>
    bindV (ret v1_in) fun v22_6 =>
    bindV (binA Try.prog .sub 3 v21_5 v22_6) fun v23_7 =>
    bindV (nilCheckA v17_1) fun v24_8 =>
    bindV (fieldAddrA 0 v24_8) fun v25_9 =>
    bindV (storeA 1 v25_9 v23_7) fun _ =>
    bindV (ret (.int .i64 0)) fun v4_10 =>
    ret v4_10)

noncomputable def R33.top (call : FuncId → List Value → AM Value) (k : Nat) (v0_in : Value) (v1_in : Value) : AM Value :=
  bindV (ret (.int .i64 0)) fun v4_0 =>
    bindV (ret v1_in) fun v5_28 =>
    bindV (binA Try.prog .lss 3 v5_28 (.int .i64 0)) fun v6_29 =>
    condA v6_29 (bindV (ret (.int .i64 1)) fun v4_30 =>
    ret v4_30)
    (bindV (ret v1_in) fun v7_15 =>
    bindV (binA Try.prog .gtr 3 v7_15 (.int .i64 0)) fun v8_16 =>
    bindV (ret v8_16) fun v9_17 =>
    guardA true v9_17 (bindV (ret v1_in) fun v10_21 =>
    bindV (ret v0_in) fun v11_22 =>
    bindV (nilCheckA v11_22) fun v12_23 =>
    bindV (fieldAddrA 0 v12_23) fun v13_24 =>
    bindV (loadA none v13_24) fun v14_25 =>
    bindV (binA Try.prog .gtr 3 v10_21 v14_25) fun v15_26 =>
    R33.g_20 call k v0_in v1_in v9_17 v15_26)
    (R33.g_20 call k v0_in v1_in v9_17 (.tuple #[])))

theorem R33.eq (call : FuncId → List Value → AM Value) (k : Nat) (v0_in : Value) (v1_in : Value) : funcA Try.prog call k 33 [v0_in, v1_in] = R33.top call k v0_in v1_in := by kernel_rfl

/-! ### 34: (*aqueduct/window.Window).Add (2 arguments) -/
noncomputable def R34.top (call : FuncId → List Value → AM Value) (k : Nat) (v0_in : Value) (v1_in : Value) : AM Value :=
  bindV (ret (.int .i64 0)) fun v4_0 =>
    bindV (ret v0_in) fun v5_1 =>
    bindV (ret v1_in) fun v6_2 =>
    bindV (call 57 [v5_1, v6_2, (.int .i64 1)]) fun v7_3 =>
    bindV (ret v7_3) fun v4_4 =>
    ret v4_4

theorem R34.eq (call : FuncId → List Value → AM Value) (k : Nat) (v0_in : Value) (v1_in : Value) : funcA Try.prog call k 34 [v0_in, v1_in] = R34.top call k v0_in v1_in := by kernel_rfl

/-! ### 35: (*aqueduct/aqueductref11.Window).Add (2 arguments) -/
noncomputable def R35.g_14 (call : FuncId → List Value → AM Value) (k : Nat) (v0_in : Value) (v1_in : Value) (v7_11 : Value) (v9_12 : Value) : AM Value :=
  bindV (pickA v7_11 (.bool true) v9_12) fun v10_13 =>
    condA v10_13 (bindV (ret (.int .i64 1)) fun v4_7 =>
    ret v4_7)
    (bindV (ret v0_in) fun v11_1 =>
    bindV (ret v1_in) fun v12_2 =>
    bindV (call 58 [v11_1, v12_2]) fun v13_3 =>
    bindV (ret v13_3) fun v4_4 =>
    ret v4_4)

noncomputable def R35.top (call : FuncId → List Value → AM Value) (k : Nat) (v0_in : Value) (v1_in : Value) : AM Value :=
  bindV (ret (.int .i64 0)) fun v4_0 =>
    bindV (ret v1_in) fun v5_9 =>
    bindV (binA Try.prog .lss 3 v5_9 (.int .i64 1)) fun v6_10 =>
    bindV (ret v6_10) fun v7_11 =>
    guardA false v7_11 (bindV (ret v1_in) fun v8_15 =>
    bindV (binA Try.prog .gtr 3 v8_15 (.int .i64 2147483647)) fun v9_16 =>
    R35.g_14 call k v0_in v1_in v7_11 v9_16)
    (R35.g_14 call k v0_in v1_in v7_11 (.tuple #[]))

theorem R35.eq (call : FuncId → List Value → AM Value) (k : Nat) (v0_in : Value) (v1_in : Value) : funcA Try.prog call k 35 [v0_in, v1_in] = R35.top call k v0_in v1_in := by kernel_rfl

/-! ### 36: (*aqueduct/window.Window).Shift (2 arguments) -/
noncomputable def R36.top (call : FuncId → List Value → AM Value) (k : Nat) (v0_in : Value) (v1_in : Value) : AM Value :=
  bindV (ret (.int .i64 0)) fun v4_0 =>
    bindV (ret v0_in) fun v5_1 =>
    bindV (ret v1_in) fun v6_2 =>
    bindV (call 57 [v5_1, v6_2, (.int .i64 (-2147483647))]) fun v7_3 =>
    bindV (ret v7_3) fun v4_4 =>
    ret v4_4

theorem R36.eq (call : FuncId → List Value → AM Value) (k : Nat) (v0_in : Value) (v1_in : Value) : funcA Try.prog call k 36 [v0_in, v1_in] = R36.top call k v0_in v1_in := by kernel_rfl

/-! ### 37: (*aqueduct/aqueductref11.Window).Shift (2 arguments) -/
noncomputable def R37.g_14 (call : FuncId → List Value → AM Value) (k : Nat) (v0_in : Value) (v1_in : Value) (v7_11 : Value) (v9_12 : Value) : AM Value :=
  bindV (pickA v7_11 (.bool true) v9_12) fun v10_13 =>
    condA v10_13 (bindV (ret (.int .i64 1)) fun v4_7 =>
    ret v4_7)
    (bindV (ret v0_in) fun v11_1 =>
    bindV (ret v1_in) fun v12_2 =>
    bindV (call 58 [v11_1, v12_2]) fun v13_3 =>
    bindV (ret v13_3) fun v4_4 =>
    ret v4_4)

noncomputable def R37.top (call : FuncId → List Value → AM Value) (k : Nat) (v0_in : Value) (v1_in : Value) : AM Value :=
  bindV (ret (.int .i64 0)) fun v4_0 =>
    bindV (ret v1_in) fun v5_9 =>
    bindV (binA Try.prog .lss 3 v5_9 (.int .i64 (-2147483647))) fun v6_10 =>
    bindV (ret v6_10) fun v7_11 =>
    guardA false v7_11 (bindV (ret v1_in) fun v8_15 =>
    bindV (binA Try.prog .gtr 3 v8_15 (.int .i64 2147483647)) fun v9_16 =>
    R37.g_14 call k v0_in v1_in v7_11 v9_16)
    (R37.g_14 call k v0_in v1_in v7_11 (.tuple #[]))

theorem R37.eq (call : FuncId → List Value → AM Value) (k : Nat) (v0_in : Value) (v1_in : Value) : funcA Try.prog call k 37 [v0_in, v1_in] = R37.top call k v0_in v1_in := by kernel_rfl

/-! ### 38: (*aqueduct/window.Window).Size (1 arguments) -/
noncomputable def R38.top (call : FuncId → List Value → AM Value) (k : Nat) (v0_in : Value) : AM Value :=
  bindV (ret (.int .i64 0)) fun v2_0 =>
    bindV (ret v0_in) fun v3_7 =>
    bindV (call 56 [v3_7]) fun v4_8 =>
    condA v4_8 (bindV (ret (.int .i64 0)) fun v2_9 =>
    ret v2_9)
    (bindV (ret v0_in) fun v5_1 =>
    bindV (nilCheckA v5_1) fun v6_2 =>
    bindV (fieldAddrA 0 v6_2) fun v7_3 =>
    bindV (call 59 [v7_3]) fun v8_4 =>
    bindV (ret v8_4) fun v2_5 =>
    ret v2_5)

theorem R38.eq (call : FuncId → List Value → AM Value) (k : Nat) (v0_in : Value) : funcA Try.prog call k 38 [v0_in] = R38.top call k v0_in := by kernel_rfl

/-! ### 39: aqueduct/aqueductlaw11.awake (0 arguments) -/
noncomputable def R39.g_18 (call : FuncId → List Value → AM Value) (k : Nat) (v13_14 : Value) (v16_15 : Value) : AM Value :=
  bindV (pickA v13_14 v16_15 (.bool false)) fun v17_16 =>
    bindV (ret v17_16) fun v0_17 =>
    ret v0_17

noncomputable def R39.g_22 (call : FuncId → List Value → AM Value) (k : Nat) (v1_5 : Value) (v9_11 : Value) (v11_12 : Value) : AM Value :=
  bindV (pickA v9_11 v11_12 (.bool false)) fun v12_13 =>
    bindV (ret v12_13) fun v13_14 =>
    guardA true v13_14 (bindV (ret v1_5) fun v14_19 =>
    bindV (call 38 [v14_19]) fun v15_20 =>
    bindV (binA Try.prog .eql 3 v15_20 (.int .i64 5)) fun v16_21 =>
    R39.g_18 call k v13_14 v16_21)
    (R39.g_18 call k v13_14 (.tuple #[]))

noncomputable def R39.top (call : FuncId → List Value → AM Value) (k : Nat) : AM Value :=
  bindV (ret (.bool false)) fun v0_0 =>
    bindV (call 30 [(.int .i64 5)]) fun v4_1 =>
    bindV (ret v4_1) fun v3_2 =>
    bindV (extractA v3_2 0) fun v5_3 =>
    bindV (extractA v3_2 1) fun v6_4 =>
    bindV (ret v5_3) fun v1_5 =>
    bindV (ret v6_4) fun v2_6 =>
    bindV (ret v1_5) fun v7_9 =>
    bindV (binA Try.prog .neq 64 v7_9 (.pointer none)) fun v8_10 =>
    bindV (ret v8_10) fun v9_11 =>
    guardA true v9_11 (bindV (ret v2_6) fun v10_23 =>
    bindV (binA Try.prog .eql 39 v10_23 (.int .i64 0)) fun v11_24 =>
    R39.g_22 call k v1_5 v9_11 v11_24)
    (R39.g_22 call k v1_5 v9_11 (.tuple #[]))

theorem R39.eq (call : FuncId → List Value → AM Value) (k : Nat) : funcA Try.prog call k 39 [] = R39.top call k := by kernel_rfl

/-! ### 40: aqueduct/window.NewCredit (1 arguments) -/
noncomputable def R40.top (call : FuncId → List Value → AM Value) (k : Nat) (v0_in : Value) : AM Value :=
  bindV (ret (.pointer none)) fun v2_0 =>
    bindV (ret (.int .i64 0)) fun v3_1 =>
    bindV (ret v0_in) fun v4_10 =>
    bindV (buildSliceA 3 1 1 [(.int .i64 0)] [(0, v4_10)]) fun v5_11 =>
    bindV (call 55 [(.int .i64 0), (.int .i64 2147483647), v5_11]) fun v6_12 =>
    bindV (unA .not v6_12) fun v7_13 =>
    condA v7_13 (bindV (ret (.pointer none)) fun v2_14 =>
    bindV (ret (.int .i64 1)) fun v3_15 =>
    ret (.tuple #[v2_14, v3_15]))
    (bindV (ret v0_in) fun v8_2 =>
    bindV (buildA [(0, 1), (1, 1)] [(.bool false), (.int .i64 0)] [(0, (.bool true)), (1, v8_2)]) fun v9_3 =>
    bindV (ret v0_in) fun v10_4 =>
    bindV (buildA [(0, 2), (2, 1), (3, 1), (4, 1)] [(.bool false), (.int .i64 0), (.int .i64 0), (.int .i64 0), (.int .i64 0)] [(0, v9_3), (1, v10_4)]) fun v11_5 =>
    bindV (boxA 95 v11_5) fun v12_6 =>
    bindV (ret v12_6) fun v2_7 =>
    bindV (ret (.int .i64 0)) fun v3_8 =>
    ret (.tuple #[v2_7, v3_8]))

theorem R40.eq (call : FuncId → List Value → AM Value) (k : Nat) (v0_in : Value) : funcA Try.prog call k 40 [v0_in] = R40.top call k v0_in := by kernel_rfl

/-! ### 41: (*aqueduct/window.Credit).Got (2 arguments) -/
noncomputable def R41.top (call : FuncId → List Value → AM Value) (k : Nat) (v0_in : Value) (v1_in : Value) : AM Value :=
  bindV (ret (.int .i64 0)) fun v4_0 =>
    bindV (ret v0_in) fun v6_21 =>
    bindV (call 60 [v6_21]) fun v7_22 =>
    bindV (ret v7_22) fun v5_23 =>
    condA v5_23 (bindV (ret (.int .i64 7)) fun v4_24 =>
    ret v4_24)
    (bindV (ret v1_in) fun v9_25 =>
    bindV (binA Try.prog .lss 3 v9_25 (.int .i64 0)) fun v10_26 =>
    bindV (ret v10_26) fun v8_27 =>
    condA v8_27 (bindV (ret (.int .i64 1)) fun v4_28 =>
    ret v4_28)
    (bindV (ret v1_in) fun v12_29 =>
    bindV (ret v0_in) fun v13_30 =>
    bindV (nilCheckA v13_30) fun v14_31 =>
    bindV (fieldAddrA 0 v14_31) fun v15_32 =>
    bindV (fieldAddrA 1 v15_32) fun v16_33 =>
    bindV (loadA none v16_33) fun v17_34 =>
    bindV (binA Try.prog .gtr 3 v12_29 v17_34) fun v18_35 =>
    bindV (ret v18_35) fun v11_36 =>
    condA v11_36 (bindV (ret (.int .i64 110)) fun v4_37 =>
    ret v4_37)
    (bindV (ret v0_in) fun v19_1 =>
    bindV (nilCheckA v19_1) fun v20_2 =>
    bindV (fieldAddrA 0 v20_2) fun v21_3 =>
    bindV (fieldAddrA 1 v21_3) fun v22_4 =>
    bindV (loadA none v22_4) fun v23_5 =>
    bindV (ret v1_in) fun v24_6 =>
    bindV (binA Try.prog .sub 3 v23_5 v24_6) fun v25_7 =>
    bindV (nilCheckA v19_1) fun v26_8 =>
    bindV (fieldAddrA 0 v26_8) fun v27_9 =>
    bindV (fieldAddrA 1 v27_9) fun v28_10 =>
    bindV (storeA 1 v28_10 v25_7) fun _ =>
    bindV (ret v0_in) fun v29_11 =>
    bindV (nilCheckA v29_11) fun v30_12 =>
    bindV (fieldAddrA 3 v30_12) fun v31_13 =>
    bindV (loadA none v31_13) fun v32_14 =>
    bindV (ret v1_in) fun v33_15 =>
    bindV (binA Try.prog .add 3 v32_14 v33_15) fun v34_16 =>
    bindV (nilCheckA v29_11) fun v35_17 =>
    bindV (fieldAddrA 3 v35_17) fun v36_18 =>
    bindV (storeA 1 v36_18 v34_16) fun _ =>
    bindV (ret (.int .i64 0)) fun v4_19 =>
    ret v4_19)))

theorem R41.eq (call : FuncId → List Value → AM Value) (k : Nat) (v0_in : Value) (v1_in : Value) : funcA Try.prog call k 41 [v0_in, v1_in] = R41.top call k v0_in v1_in := by kernel_rfl

/-! ### 42: (*aqueduct/window.Credit).Used (2 arguments) -/
noncomputable def R42.top (call : FuncId → List Value → AM Value) (k : Nat) (v0_in : Value) (v1_in : Value) : AM Value :=
  bindV (ret (.int .i64 0)) fun v4_0 =>
    bindV (ret v0_in) fun v6_19 =>
    bindV (call 60 [v6_19]) fun v7_20 =>
    bindV (ret v7_20) fun v5_21 =>
    condA v5_21 (bindV (ret (.int .i64 7)) fun v4_22 =>
    ret v4_22)
    (bindV (ret v0_in) fun v9_23 =>
    bindV (nilCheckA v9_23) fun v10_24 =>
    bindV (fieldAddrA 3 v10_24) fun v11_25 =>
    bindV (loadA none v11_25) fun v12_26 =>
    bindV (ret v1_in) fun v13_27 =>
    bindV (buildSliceA 3 1 1 [(.int .i64 0)] [(0, v13_27)]) fun v14_28 =>
    bindV (call 55 [(.int .i64 0), v12_26, v14_28]) fun v15_29 =>
    bindV (unA .not v15_29) fun v16_30 =>
    bindV (ret v16_30) fun v8_31 =>
    condA v8_31 (bindV (ret (.int .i64 1)) fun v4_32 =>
    ret v4_32)
    (bindV (ret v0_in) fun v17_1 =>
    bindV (nilCheckA v17_1) fun v18_2 =>
    bindV (fieldAddrA 3 v18_2) fun v19_3 =>
    bindV (loadA none v19_3) fun v20_4 =>
    bindV (ret v1_in) fun v21_5 =>
    bindV (binA Try.prog .sub 3 v20_4 v21_5) fun v22_6 =>
    bindV (nilCheckA v17_1) fun v23_7 =>
    bindV (fieldAddrA 3 v23_7) fun v24_8 =>
    bindV (storeA 1 v24_8 v22_6) fun _ =>
    bindV (ret v0_in) fun v25_9 =>
    bindV (nilCheckA v25_9) fun v26_10 =>
    bindV (fieldAddrA 4 v26_10) fun v27_11 =>
    bindV (loadA none v27_11) fun v28_12 =>
    bindV (ret v1_in) fun v29_13 =>
    bindV (binA Try.prog .add 3 v28_12 v29_13) fun v30_14 =>
    bindV (nilCheckA v25_9) fun v31_15 =>
    bindV (fieldAddrA 4 v31_15) fun v32_16 =>
    bindV (storeA 1 v32_16 v30_14) fun _ =>
    bindV (ret (.int .i64 0)) fun v4_17 =>
    ret v4_17))

theorem R42.eq (call : FuncId → List Value → AM Value) (k : Nat) (v0_in : Value) (v1_in : Value) : funcA Try.prog call k 42 [v0_in, v1_in] = R42.top call k v0_in v1_in := by kernel_rfl

/-! ### 43: (*aqueduct/window.Credit).Give (1 arguments) -/
noncomputable def R43.d_26 (call : FuncId → List Value → AM Value) (k : Nat) (v0_in : Value) (v24_25 : Value) : AM Value :=
  condA v24_25 (bindV (ret (.int .i64 0)) fun v2_23 =>
    ret v2_23)
    (bindV (ret v0_in) fun v25_1 =>
    bindV (nilCheckA v25_1) fun v26_2 =>
    bindV (fieldAddrA 4 v26_2) fun v27_3 =>
    bindV (loadA none v27_3) fun v28_4 =>
    bindV (ret v28_4) fun v3_5 =>
    bindV (ret v0_in) fun v29_6 =>
    bindV (nilCheckA v29_6) fun v30_7 =>
    bindV (fieldAddrA 0 v30_7) fun v31_8 =>
    bindV (fieldAddrA 1 v31_8) fun v32_9 =>
    bindV (loadA none v32_9) fun v33_10 =>
    bindV (ret v3_5) fun v34_11 =>
    bindV (binA Try.prog .add 3 v33_10 v34_11) fun v35_12 =>
    bindV (nilCheckA v29_6) fun v36_13 =>
    bindV (fieldAddrA 0 v36_13) fun v37_14 =>
    bindV (fieldAddrA 1 v37_14) fun v38_15 =>
    bindV (storeA 1 v38_15 v35_12) fun _ =>
    bindV (ret v0_in) fun v39_16 =>
    bindV (nilCheckA v39_16) fun v40_17 =>
    bindV (fieldAddrA 4 v40_17) fun v41_18 =>
    bindV (storeA 1 v41_18 (.int .i64 0)) fun _ =>
    bindV (ret v3_5) fun v42_19 =>
    bindV (ret v42_19) fun v2_20 =>
    ret v2_20)

noncomputable def R43.top (call : FuncId → List Value → AM Value) (k : Nat) (v0_in : Value) : AM Value :=
  bindV (ret (.int .i64 0)) fun v2_0 =>
    bindV (ret v0_in) fun v4_27 =>
    bindV (call 60 [v4_27]) fun v5_29 =>
    bindV (ret v5_29) fun v6_30 =>
    guardA false v6_30 (bindV (ret v0_in) fun v7_31 =>
    bindV (nilCheckA v7_31) fun v8_32 =>
    bindV (fieldAddrA 4 v8_32) fun v9_33 =>
    bindV (loadA none v9_33) fun v10_34 =>
    bindV (binA Try.prog .eql 3 v10_34 (.int .i64 0)) fun v11_35 =>
    bindV (pickA v6_30 (.bool true) v11_35) fun v12_36 =>
    bindV (ret v12_36) fun v13_37 =>
    guardA false v13_37 (bindV (ret v0_in) fun v14_38 =>
    bindV (nilCheckA v14_38) fun v15_39 =>
    bindV (fieldAddrA 4 v15_39) fun v16_40 =>
    bindV (loadA none v16_40) fun v17_41 =>
    bindV (binA Try.prog .mul 3 (.int .i64 2) v17_41) fun v18_42 =>
    bindV (ret v0_in) fun v19_43 =>
    bindV (nilCheckA v19_43) fun v20_44 =>
    bindV (fieldAddrA 2 v20_44) fun v21_45 =>
    bindV (loadA none v21_45) fun v22_46 =>
    bindV (binA Try.prog .lss 3 v18_42 v22_46) fun v23_47 =>
    bindV (pickA v13_37 (.bool true) v23_47) fun v24_48 =>
    R43.d_26 call k v0_in v24_48)
    (bindV (pickA v13_37 (.bool true) (.tuple #[])) fun v24_49 =>
    R43.d_26 call k v0_in v24_49))
    (bindV (pickA v6_30 (.bool true) (.tuple #[])) fun v12_50 =>
    bindV (ret v12_50) fun v13_51 =>
    guardA false v13_51 (bindV (ret v0_in) fun v14_52 =>
    bindV (nilCheckA v14_52) fun v15_53 =>
    bindV (fieldAddrA 4 v15_53) fun v16_54 =>
    bindV (loadA none v16_54) fun v17_55 =>
    bindV (binA Try.prog .mul 3 (.int .i64 2) v17_55) fun v18_56 =>
    bindV (ret v0_in) fun v19_57 =>
    bindV (nilCheckA v19_57) fun v20_58 =>
    bindV (fieldAddrA 2 v20_58) fun v21_59 =>
    bindV (loadA none v21_59) fun v22_60 =>
    bindV (binA Try.prog .lss 3 v18_56 v22_60) fun v23_61 =>
    bindV (pickA v13_51 (.bool true) v23_61) fun v24_62 =>
    R43.d_26 call k v0_in v24_62)
    (bindV (pickA v13_51 (.bool true) (.tuple #[])) fun v24_63 =>
    R43.d_26 call k v0_in v24_63))

theorem R43.eq (call : FuncId → List Value → AM Value) (k : Nat) (v0_in : Value) : funcA Try.prog call k 43 [v0_in] = R43.top call k v0_in := by kernel_rfl

/-! ### 44: (*aqueduct/window.Credit).Size (1 arguments) -/
noncomputable def R44.top (call : FuncId → List Value → AM Value) (k : Nat) (v0_in : Value) : AM Value :=
  bindV (ret (.int .i64 0)) fun v2_0 =>
    bindV (ret v0_in) fun v3_7 =>
    bindV (call 60 [v3_7]) fun v4_8 =>
    condA v4_8 (bindV (ret (.int .i64 0)) fun v2_9 =>
    ret v2_9)
    (bindV (ret v0_in) fun v5_1 =>
    bindV (nilCheckA v5_1) fun v6_2 =>
    bindV (fieldAddrA 0 v6_2) fun v7_3 =>
    bindV (call 59 [v7_3]) fun v8_4 =>
    bindV (ret v8_4) fun v2_5 =>
    ret v2_5)

theorem R44.eq (call : FuncId → List Value → AM Value) (k : Nat) (v0_in : Value) : funcA Try.prog call k 44 [v0_in] = R44.top call k v0_in := by kernel_rfl

/-! ### 45: (*aqueduct/window.Credit).Held (1 arguments) -/
noncomputable def R45.top (call : FuncId → List Value → AM Value) (k : Nat) (v0_in : Value) : AM Value :=
  bindV (ret (.int .i64 0)) fun v2_0 =>
    bindV (ret v0_in) fun v3_7 =>
    bindV (call 60 [v3_7]) fun v4_8 =>
    condA v4_8 (bindV (ret (.int .i64 0)) fun v2_9 =>
    ret v2_9)
    (bindV (ret v0_in) fun v5_1 =>
    bindV (nilCheckA v5_1) fun v6_2 =>
    bindV (fieldAddrA 3 v6_2) fun v7_3 =>
    bindV (loadA none v7_3) fun v8_4 =>
    bindV (ret v8_4) fun v2_5 =>
    ret v2_5)

theorem R45.eq (call : FuncId → List Value → AM Value) (k : Nat) (v0_in : Value) : funcA Try.prog call k 45 [v0_in] = R45.top call k v0_in := by kernel_rfl

/-! ### 46: aqueduct/aqueductref11.NewCredit (1 arguments) -/
noncomputable def R46.g_18 (call : FuncId → List Value → AM Value) (k : Nat) (v0_in : Value) (v6_15 : Value) (v8_16 : Value) : AM Value :=
  bindV (pickA v6_15 (.bool true) v8_16) fun v9_17 =>
    condA v9_17 (bindV (ret (.pointer none)) fun v2_10 =>
    bindV (ret (.int .i64 1)) fun v3_11 =>
    ret (.tuple #[v2_10, v3_11]))
    (bindV (ret v0_in) fun v10_2 =>
    bindV (ret v0_in) fun v11_3 =>
    bindV (buildA [(0, 1), (1, 1), (2, 1), (3, 1)] [(.int .i64 0), (.int .i64 0), (.int .i64 0), (.int .i64 0)] [(0, v10_2), (1, v11_3)]) fun v12_4 =>
    bindV (boxA 87 v12_4) fun v13_5 =>
    bindV (ret v13_5) fun v2_6 =>
    bindV (ret (.int .i64 0)) fun v3_7 =>
    ret (.tuple #[v2_6, v3_7]))

noncomputable def R46.top (call : FuncId → List Value → AM Value) (k : Nat) (v0_in : Value) : AM Value :=
  bindV (ret (.pointer none)) fun v2_0 =>
    bindV (ret (.int .i64 0)) fun v3_1 =>
    bindV (ret v0_in) fun v4_13 =>
    bindV (binA Try.prog .lss 3 v4_13 (.int .i64 0)) fun v5_14 =>
    bindV (ret v5_14) fun v6_15 =>
    guardA false v6_15 (bindV (ret v0_in) fun v7_19 =>
    bindV (binA Try.prog .gtr 3 v7_19 (.int .i64 2147483647)) fun v8_20 =>
    R46.g_18 call k v0_in v6_15 v8_20)
    (R46.g_18 call k v0_in v6_15 (.tuple #[]))

theorem R46.eq (call : FuncId → List Value → AM Value) (k : Nat) (v0_in : Value) : funcA Try.prog call k 46 [v0_in] = R46.top call k v0_in := by kernel_rfl

/-! ### 47: (*aqueduct/aqueductref11.Credit).Got (2 arguments) -/
noncomputable def R47.top (call : FuncId → List Value → AM Value) (k : Nat) (v0_in : Value) (v1_in : Value) : AM Value :=
  bindV (ret (.int .i64 0)) fun v4_0 =>
    bindV (ret v1_in) fun v5_29 =>
    bindV (binA Try.prog .lss 3 v5_29 (.int .i64 0)) fun v6_30 =>
    condA v6_30 (bindV (ret (.int .i64 1)) fun v4_31 =>
    ret v4_31)
    (bindV (ret v1_in) fun v7_21 =>
    bindV (ret v0_in) fun v8_22 =>
    bindV (nilCheckA v8_22) fun v9_23 =>
    bindV (fieldAddrA 1 v9_23) fun v10_24 =>
    bindV (loadA none v10_24) fun v11_25 =>
    bindV (binA Try.prog .gtr 3 v7_21 v11_25) fun v12_26 =>
    condA v12_26 (bindV (ret (.int .i64 110)) fun v4_27 =>
    ret v4_27)
    (bindV (ret v0_in) fun v13_1 =>
    bindV (ret v0_in) fun v14_2 =>
    bindV (nilCheckA v14_2) fun v15_3 =>
    bindV (fieldAddrA 1 v15_3) fun v16_4 =>
    bindV (loadA none v16_4) fun v17_5 =>
    bindV (ret v1_in) fun v18_6 =>
    bindV (binA Try.prog .sub 3 v17_5 v18_6) fun v19_7 =>
    bindV (nilCheckA v13_1) fun v20_8 =>
    bindV (fieldAddrA 1 v20_8) fun v21_9 =>
    bindV (storeA 1 v21_9 v19_7) fun _ =>
    bindV (ret v0_in) fun v22_10 =>
    bindV (ret v0_in) fun v23_11 =>
    bindV (nilCheckA v23_11) fun v24_12 =>
    bindV (fieldAddrA 2 v24_12) fun v25_13 =>
    bindV (loadA none v25_13) fun v26_14 =>
    bindV (ret v1_in) fun v27_15 =>
    bindV (binA Try.prog .add 3 v26_14 v27_15) fun v28_16 =>
    bindV (nilCheckA v22_10) fun v29_17 =>
    bindV (fieldAddrA 2 v29_17) fun v30_18 =>
    bindV (storeA 1 v30_18 v28_16) fun _ =>
    bindV (ret (.int .i64 0)) fun v4_19 =>
    ret v4_19))

theorem R47.eq (call : FuncId → List Value → AM Value) (k : Nat) (v0_in : Value) (v1_in : Value) : funcA Try.prog call k 47 [v0_in, v1_in] = R47.top call k v0_in v1_in := by kernel_rfl

/-! ### 48: (*aqueduct/aqueductref11.Credit).Used (2 arguments) -/
noncomputable def R48.g_29 (call : FuncId → List Value → AM Value) (k : Nat) (v0_in : Value) (v1_in : Value) (v7_26 : Value) (v13_27 : Value) : AM Value :=
  bindV (pickA v7_26 (.bool true) v13_27) fun v14_28 =>
    condA v14_28 (bindV (ret (.int .i64 1)) fun v4_22 =>
    ret v4_22)
    (bindV (ret v0_in) fun v15_1 =>
    bindV (ret v0_in) fun v16_2 =>
    bindV (nilCheckA v16_2) fun v17_3 =>
    bindV (fieldAddrA 2 v17_3) fun v18_4 =>
    bindV (loadA none v18_4) fun v19_5 =>
    bindV (ret v1_in) fun v20_6 =>
    bindV (binA Try.prog .sub 3 v19_5 v20_6) fun v21_7 =>
    bindV (nilCheckA v15_1) fun v22_8 =>
    bindV (fieldAddrA 2 v22_8) fun v23_9 =>
    bindV (storeA 1 v23_9 v21_7) fun _ =>
    bindV (ret v0_in) fun v24_10 =>
    bindV (ret v0_in) fun v25_11 =>
    bindV (nilCheckA v25_11) fun v26_12 =>
    bindV (fieldAddrA 3 v26_12) fun v27_13 =>
    bindV (loadA none v27_13) fun v28_14 =>
    bindV (ret v1_in) fun v29_15 =>
    bindV (binA Try.prog .add 3 v28_14 v29_15) fun v30_16 =>
    bindV (nilCheckA v24_10) fun v31_17 =>
    bindV (fieldAddrA 3 v31_17) fun v32_18 =>
    bindV (storeA 1 v32_18 v30_16) fun _ =>
    bindV (ret (.int .i64 0)) fun v4_19 =>
    ret v4_19)

noncomputable def R48.top (call : FuncId → List Value → AM Value) (k : Nat) (v0_in : Value) (v1_in : Value) : AM Value :=
  bindV (ret (.int .i64 0)) fun v4_0 =>
    bindV (ret v1_in) fun v5_24 =>
    bindV (binA Try.prog .lss 3 v5_24 (.int .i64 0)) fun v6_25 =>
    bindV (ret v6_25) fun v7_26 =>
    guardA false v7_26 (bindV (ret v1_in) fun v8_30 =>
    bindV (ret v0_in) fun v9_31 =>
    bindV (nilCheckA v9_31) fun v10_32 =>
    bindV (fieldAddrA 2 v10_32) fun v11_33 =>
    bindV (loadA none v11_33) fun v12_34 =>
    bindV (binA Try.prog .gtr 3 v8_30 v12_34) fun v13_35 =>
    R48.g_29 call k v0_in v1_in v7_26 v13_35)
    (R48.g_29 call k v0_in v1_in v7_26 (.tuple #[]))

theorem R48.eq (call : FuncId → List Value → AM Value) (k : Nat) (v0_in : Value) (v1_in : Value) : funcA Try.prog call k 48 [v0_in, v1_in] = R48.top call k v0_in v1_in := by kernel_rfl

/-! ### 49: (*aqueduct/aqueductref11.Credit).Give (1 arguments) -/
noncomputable def R49.d_25 (call : FuncId → List Value → AM Value) (k : Nat) (v0_in : Value) (v20_24 : Value) : AM Value :=
  condA v20_24 (bindV (ret (.int .i64 0)) fun v2_22 =>
    ret v2_22)
    (bindV (ret v0_in) fun v21_1 =>
    bindV (nilCheckA v21_1) fun v22_2 =>
    bindV (fieldAddrA 3 v22_2) fun v23_3 =>
    bindV (loadA none v23_3) fun v24_4 =>
    bindV (ret v24_4) fun v3_5 =>
    bindV (ret v0_in) fun v25_6 =>
    bindV (ret v0_in) fun v26_7 =>
    bindV (nilCheckA v26_7) fun v27_8 =>
    bindV (fieldAddrA 1 v27_8) fun v28_9 =>
    bindV (loadA none v28_9) fun v29_10 =>
    bindV (ret v3_5) fun v30_11 =>
    bindV (binA Try.prog .add 3 v29_10 v30_11) fun v31_12 =>
    bindV (nilCheckA v25_6) fun v32_13 =>
    bindV (fieldAddrA 1 v32_13) fun v33_14 =>
    bindV (storeA 1 v33_14 v31_12) fun _ =>
    bindV (ret v0_in) fun v34_15 =>
    bindV (nilCheckA v34_15) fun v35_16 =>
    bindV (fieldAddrA 3 v35_16) fun v36_17 =>
    bindV (storeA 1 v36_17 (.int .i64 0)) fun _ =>
    bindV (ret v3_5) fun v37_18 =>
    bindV (ret v37_18) fun v2_19 =>
    ret v2_19)

noncomputable def R49.top (call : FuncId → List Value → AM Value) (k : Nat) (v0_in : Value) : AM Value :=
  bindV (ret (.int .i64 0)) fun v2_0 =>
    bindV (ret v0_in) fun v4_26 =>
    bindV (nilCheckA v4_26) fun v5_27 =>
    bindV (fieldAddrA 3 v5_27) fun v6_28 =>
    bindV (loadA none v6_28) fun v7_29 =>
    bindV (binA Try.prog .eql 3 v7_29 (.int .i64 0)) fun v8_30 =>
    bindV (ret v8_30) fun v9_31 =>
    guardA false v9_31 (bindV (ret v0_in) fun v10_32 =>
    bindV (nilCheckA v10_32) fun v11_33 =>
    bindV (fieldAddrA 3 v11_33) fun v12_34 =>
    bindV (loadA none v12_34) fun v13_35 =>
    bindV (binA Try.prog .mul 3 (.int .i64 2) v13_35) fun v14_36 =>
    bindV (ret v0_in) fun v15_37 =>
    bindV (nilCheckA v15_37) fun v16_38 =>
    bindV (fieldAddrA 0 v16_38) fun v17_39 =>
    bindV (loadA none v17_39) fun v18_40 =>
    bindV (binA Try.prog .lss 3 v14_36 v18_40) fun v19_41 =>
    bindV (pickA v9_31 (.bool true) v19_41) fun v20_42 =>
    R49.d_25 call k v0_in v20_42)
    (bindV (pickA v9_31 (.bool true) (.tuple #[])) fun v20_43 =>
    R49.d_25 call k v0_in v20_43)

theorem R49.eq (call : FuncId → List Value → AM Value) (k : Nat) (v0_in : Value) : funcA Try.prog call k 49 [v0_in] = R49.top call k v0_in := by kernel_rfl

/-! ### 55: aqueduct/window.between (3 arguments) -/
noncomputable def R55.g_24 (call : FuncId → List Value → AM Value) (k : Nat) (rec_1_6 : Value → AM Value) (v11_7 : Value) (v18_21 : Value) (v21_22 : Value) : AM Value :=
  bindV (pickA v18_21 (.bool true) v21_22) fun v22_23 =>
    condA v22_23 (bindV (ret (.bool false)) fun v6_16 =>
    ret v6_16)
    (bindV (binA Try.prog .add 3 v11_7 (.int .i64 1)) fun v23_9 =>
    bindV (ret v23_9) fun v11_10 =>
    rec_1_6 v11_10)

noncomputable def R55.b_29 (call : FuncId → List Value → AM Value) (k : Nat) (v0_in : Value) (v10_4 : Value) (v1_in : Value) (v9_3 : Value) (rec_1_6 : Value → AM Value) (v11_7 : Value) : AM Value :=
  bindV (binA Try.prog .lss 3 v11_7 v10_4) fun v12_8 =>
    condA v12_8 (bindV (indexAddrA 1 v9_3 v11_7) fun v13_12 =>
    bindV (loadA none v13_12) fun v14_13 =>
    bindV (ret v14_13) fun v8_14 =>
    bindV (ret v8_14) fun v15_18 =>
    bindV (ret v0_in) fun v16_19 =>
    bindV (binA Try.prog .lss 3 v15_18 v16_19) fun v17_20 =>
    bindV (ret v17_20) fun v18_21 =>
    guardA false v18_21 (bindV (ret v8_14) fun v19_25 =>
    bindV (ret v1_in) fun v20_26 =>
    bindV (binA Try.prog .gtr 3 v19_25 v20_26) fun v21_27 =>
    R55.g_24 call k rec_1_6 v11_7 v18_21 v21_27)
    (R55.g_24 call k rec_1_6 v11_7 v18_21 (.tuple #[])))
    (bindV (ret (.bool true)) fun v6_1 =>
    ret v6_1)

noncomputable def R55.top (call : FuncId → List Value → AM Value) (k : Nat) (v0_in : Value) (v1_in : Value) (v2_in : Value) : AM Value :=
  bindV (ret (.bool false)) fun v6_0 =>
    bindV (ret v2_in) fun v9_3 =>
    bindV (lenA v9_3) fun v10_4 =>
    bindV (ret (.int .i64 0)) fun v11_5 =>
    loop1 (R55.b_29 call k v0_in v10_4 v1_in v9_3) k v11_5

theorem R55.eq (call : FuncId → List Value → AM Value) (k : Nat) (v0_in : Value) (v1_in : Value) (v2_in : Value) : funcA Try.prog call k 55 [v0_in, v1_in, v2_in] = R55.top call k v0_in v1_in v2_in := by kernel_rfl

/-! ### 56: (*aqueduct/window.Window).none (1 arguments) -/
noncomputable def R56.g_9 (call : FuncId → List Value → AM Value) (k : Nat) (v5_5 : Value) (v11_6 : Value) : AM Value :=
  bindV (pickA v5_5 (.bool true) v11_6) fun v12_7 =>
    bindV (ret v12_7) fun v2_8 =>
    ret v2_8

noncomputable def R56.top (call : FuncId → List Value → AM Value) (k : Nat) (v0_in : Value) : AM Value :=
  bindV (ret (.bool false)) fun v2_0 =>
    bindV (ret v0_in) fun v3_3 =>
    bindV (binA Try.prog .eql 64 v3_3 (.pointer none)) fun v4_4 =>
    bindV (ret v4_4) fun v5_5 =>
    guardA false v5_5 (bindV (ret v0_in) fun v6_10 =>
    bindV (nilCheckA v6_10) fun v7_11 =>
    bindV (fieldAddrA 0 v7_11) fun v8_12 =>
    bindV (fieldAddrA 0 v8_12) fun v9_13 =>
    bindV (loadA none v9_13) fun v10_14 =>
    bindV (unA .not v10_14) fun v11_15 =>
    R56.g_9 call k v5_5 v11_15)
    (R56.g_9 call k v5_5 (.tuple #[]))

theorem R56.eq (call : FuncId → List Value → AM Value) (k : Nat) (v0_in : Value) : funcA Try.prog call k 56 [v0_in] = R56.top call k v0_in := by kernel_rfl

/-! ### 57: (*aqueduct/window.Window).more (3 arguments) -/
noncomputable def R57.top (call : FuncId → List Value → AM Value) (k : Nat) (v0_in : Value) (v1_in : Value) (v2_in : Value) : AM Value :=
  bindV (ret (.int .i64 0)) fun v6_0 =>
    bindV (ret v0_in) fun v8_13 =>
    bindV (call 56 [v8_13]) fun v9_14 =>
    bindV (ret v9_14) fun v7_15 =>
    condA v7_15 (bindV (ret (.int .i64 7)) fun v6_16 =>
    ret v6_16)
    (bindV (ret v2_in) fun v11_17 =>
    bindV (ret v1_in) fun v12_18 =>
    bindV (buildSliceA 3 1 1 [(.int .i64 0)] [(0, v12_18)]) fun v13_19 =>
    bindV (call 55 [v11_17, (.int .i64 2147483647), v13_19]) fun v14_20 =>
    bindV (unA .not v14_20) fun v15_21 =>
    bindV (ret v15_21) fun v10_22 =>
    condA v10_22 (bindV (ret (.int .i64 1)) fun v6_23 =>
    ret v6_23)
    (bindV (ret v0_in) fun v17_24 =>
    bindV (nilCheckA v17_24) fun v18_25 =>
    bindV (fieldAddrA 0 v18_25) fun v19_26 =>
    bindV (fieldAddrA 1 v19_26) fun v20_27 =>
    bindV (loadA none v20_27) fun v21_28 =>
    bindV (ret v1_in) fun v22_29 =>
    bindV (binA Try.prog .add 3 v21_28 v22_29) fun v23_30 =>
    bindV (ret v0_in) fun v24_31 =>
    bindV (nilCheckA v24_31) fun v25_32 =>
    bindV (fieldAddrA 0 v25_32) fun v26_33 =>
    bindV (fieldAddrA 1 v26_33) fun v27_34 =>
    bindV (loadA none v27_34) fun v28_35 =>
    bindV (ret v1_in) fun v29_36 =>
    bindV (binA Try.prog .add 3 v28_35 v29_36) fun v30_37 =>
    bindV (buildSliceA 3 1 1 [(.int .i64 0)] [(0, v30_37)]) fun v31_39 =>
    hereV [((loadA none v20_27 : AM Value), (v21_28 : Value))] (
    bindV (call 55 [v23_30, (.int .i64 2147483647), v31_39]) fun v32_41 =>
    bindV (unA .not v32_41) fun v33_42 =>
    bindV (ret v33_42) fun v16_43 =>
    condA v16_43 (bindV (ret (.int .i64 2)) fun v6_44 =>
    ret v6_44)
    (bindV (ret v0_in) fun v34_1 =>
    bindV (nilCheckA v34_1) fun v35_2 =>
    bindV (fieldAddrA 0 v35_2) fun v36_3 =>
    bindV (fieldAddrA 1 v36_3) fun v37_4 =>
    bindV (loadA none v37_4) fun v38_5 =>
    bindV (ret v1_in) fun v39_6 =>
    bindV (binA Try.prog .add 3 v38_5 v39_6) fun v40_7 =>
    bindV (nilCheckA v34_1) fun v41_8 =>
    bindV (fieldAddrA 0 v41_8) fun v42_9 =>
    bindV (fieldAddrA 1 v42_9) fun v43_10 =>
    bindV (storeA 1 v43_10 v40_7) fun _ =>
    bindV (ret (.int .i64 0)) fun v6_11 =>
    ret v6_11))))

theorem R57.eq (call : FuncId → List Value → AM Value) (k : Nat) (v0_in : Value) (v1_in : Value) (v2_in : Value) : funcA Try.prog call k 57 [v0_in, v1_in, v2_in] = R57.top call k v0_in v1_in v2_in := by kernel_rfl

/-! ### 58: (*aqueduct/aqueductref11.Window).grow (2 arguments) -/
noncomputable def R58.top (call : FuncId → List Value → AM Value) (k : Nat) (v0_in : Value) (v1_in : Value) : AM Value :=
  bindV (ret (.int .i64 0)) fun v4_0 =>
    bindV (ret v0_in) fun v5_12 =>
    bindV (nilCheckA v5_12) fun v6_13 =>
    bindV (fieldAddrA 0 v6_13) fun v7_14 =>
    bindV (loadA none v7_14) fun v8_15 =>
    bindV (ret v1_in) fun v9_16 =>
    bindV (binA Try.prog .add 3 v8_15 v9_16) fun v10_17 =>
    bindV (binA Try.prog .gtr 3 v10_17 (.int .i64 2147483647)) fun v11_18 =>
    condA v11_18 (bindV (ret (.int .i64 2)) fun v4_19 =>
    ret v4_19)
    (bindV (ret v0_in) fun v12_1 =>
    bindV (ret v0_in) fun v13_2 =>
    bindV (nilCheckA v13_2) fun v14_3 =>
    bindV (fieldAddrA 0 v14_3) fun v15_4 =>
    bindV (loadA none v15_4) fun v16_5 =>
    bindV (ret v1_in) fun v17_6 =>
    bindV (binA Try.prog .add 3 v16_5 v17_6) fun v18_7 =>
    bindV (nilCheckA v12_1) fun v19_8 =>
    bindV (fieldAddrA 0 v19_8) fun v20_9 =>
    bindV (storeA 1 v20_9 v18_7) fun _ =>
    bindV (ret (.int .i64 0)) fun v4_10 =>
    ret v4_10)

theorem R58.eq (call : FuncId → List Value → AM Value) (k : Nat) (v0_in : Value) (v1_in : Value) : funcA Try.prog call k 58 [v0_in, v1_in] = R58.top call k v0_in v1_in := by kernel_rfl

/-! ### 59: (*aqueduct/window.size).Size (1 arguments) -/
noncomputable def R59.top (call : FuncId → List Value → AM Value) (k : Nat) (v0_in : Value) : AM Value :=
  bindV (ret (.int .i64 0)) fun v2_0 =>
    bindV (ret v0_in) fun v3_7 =>
    bindV (binA Try.prog .eql 111 v3_7 (.pointer none)) fun v4_8 =>
    condA v4_8 (bindV (ret (.int .i64 0)) fun v2_9 =>
    ret v2_9)
    (bindV (ret v0_in) fun v5_1 =>
    bindV (nilCheckA v5_1) fun v6_2 =>
    bindV (fieldAddrA 1 v6_2) fun v7_3 =>
    bindV (loadA none v7_3) fun v8_4 =>
    bindV (ret v8_4) fun v2_5 =>
    ret v2_5)

theorem R59.eq (call : FuncId → List Value → AM Value) (k : Nat) (v0_in : Value) : funcA Try.prog call k 59 [v0_in] = R59.top call k v0_in := by kernel_rfl

/-! ### 60: (*aqueduct/window.Credit).none (1 arguments) -/
noncomputable def R60.g_9 (call : FuncId → List Value → AM Value) (k : Nat) (v5_5 : Value) (v11_6 : Value) : AM Value :=
  bindV (pickA v5_5 (.bool true) v11_6) fun v12_7 =>
    bindV (ret v12_7) fun v2_8 =>
    ret v2_8

noncomputable def R60.top (call : FuncId → List Value → AM Value) (k : Nat) (v0_in : Value) : AM Value :=
  bindV (ret (.bool false)) fun v2_0 =>
    bindV (ret v0_in) fun v3_3 =>
    bindV (binA Try.prog .eql 79 v3_3 (.pointer none)) fun v4_4 =>
    bindV (ret v4_4) fun v5_5 =>
    guardA false v5_5 (bindV (ret v0_in) fun v6_10 =>
    bindV (nilCheckA v6_10) fun v7_11 =>
    bindV (fieldAddrA 0 v7_11) fun v8_12 =>
    bindV (fieldAddrA 0 v8_12) fun v9_13 =>
    bindV (loadA none v9_13) fun v10_14 =>
    bindV (unA .not v10_14) fun v11_15 =>
    R60.g_9 call k v5_5 v11_15)
    (R60.g_9 call k v5_5 (.tuple #[]))

theorem R60.eq (call : FuncId → List Value → AM Value) (k : Nat) (v0_in : Value) : funcA Try.prog call k 60 [v0_in] = R60.top call k v0_in := by kernel_rfl

end Go.Proofs.Ytlgeeibaohdjhaa
