/- What the functions that these laws reach compute, printed by a program of ours and tied to the model by the kernel. -/
import Derived.Test.YtjmafbiklebjcaaEngQ
import Derived.Test.YtjmafbiklebjcaaRows
set_option linter.unusedVariables false
set_option linter.unusedSimpArgs false
namespace Go.Proofs.Ytjmafbiklebjcaa
open Go.Proofs.Ytjmafbiklebjcaa.Eng
/-! ### 3: aqueduct/aqueductlaw06.HpackWrites (2 arguments) -/
noncomputable def R3.j_36 (call : FuncId → List Value → AM Value) (k : Nat) (rec_1_19 : Value → AM Value) (v5_6 : Value) (v7_13 : Value) (v9_20 : Value) : AM Value :=
  bindV (ret v5_6) fun v97_25 =>
    bindS fun s_26 =>
    bindV (call 10 [v97_25]) fun v98_27 =>
    bindV (ret v7_13) fun v99_28 =>
    bindV (nilCheckA v99_28) fun v100_29 =>
    bindV (fieldAddrA 0 v100_29) fun v101_30 =>
    bindV (loadA none v101_30) fun v102_31 =>
    thereV [s_26] (loadA none v101_30) v102_31 (
    bindV (call 11 [v102_31]) fun v103_33 =>
    bindV (binA Try.prog .neq 3 v98_27 v103_33) fun v104_34 =>
    condA v104_34 (bindV (ret (.bool false)) fun v4_35 =>
    ret v4_35)
    (bindV (ret v9_20) fun v42_21 =>
    bindV (binA Try.prog .add 3 v42_21 (.int .i64 1)) fun v43_22 =>
    bindV (ret v43_22) fun v9_23 =>
    rec_1_19 v9_23))

noncomputable def R3.g_98 (call : FuncId → List Value → AM Value) (k : Nat) (rec_1_19 : Value → AM Value) (v5_6 : Value) (v7_13 : Value) (v92_95 : Value) (v9_20 : Value) (v95_96 : Value) : AM Value :=
  bindV (pickA v92_95 (.bool true) v95_96) fun v96_97 =>
    condA v96_97 (bindV (ret (.bool false)) fun v4_88 =>
    ret v4_88)
    (R3.j_36 call k rec_1_19 v5_6 v7_13 v9_20)

noncomputable def R3.g_110 (call : FuncId → List Value → AM Value) (k : Nat) (rec_1_19 : Value → AM Value) (v1_in : Value) (v36_107 : Value) (v5_6 : Value) (v7_13 : Value) (v9_20 : Value) (v40_108 : Value) : AM Value :=
  bindV (pickA v36_107 v40_108 (.bool false)) fun v41_109 =>
    condA v41_109 (bindV (ret v1_in) fun v44_37 =>
    bindV (ret v9_20) fun v45_38 =>
    bindV (indexAddrA 3 v44_37 v45_38) fun v46_39 =>
    bindV (fieldAddrA 0 v46_39) fun v47_40 =>
    bindV (loadA none v47_40) fun v48_41 =>
    bindV (binA Try.prog .eql 3 v48_41 (.int .i64 1)) fun v49_42 =>
    condA v49_42 (bindV (ret v5_6) fun v50_43 =>
    bindV (ret v1_in) fun v51_44 =>
    bindV (ret v9_20) fun v52_45 =>
    bindV (indexAddrA 3 v51_44 v52_45) fun v53_46 =>
    bindV (fieldAddrA 1 v53_46) fun v54_47 =>
    bindV (loadA none v54_47) fun v55_48 =>
    bindS fun s_49 =>
    bindV (call 6 [v50_43, v55_48]) fun v56_50 =>
    bindV (ret v7_13) fun v57_51 =>
    bindV (ret v1_in) fun v58_52 =>
    bindV (ret v9_20) fun v59_53 =>
    bindV (indexAddrA 3 v58_52 v59_53) fun v60_54 =>
    bindV (fieldAddrA 1 v60_54) fun v61_55 =>
    bindV (loadA none v61_55) fun v62_56 =>
    thereV [s_49] (loadA none v61_55) v62_56 (
    bindV (call 7 [v57_51, v62_56]) fun v63_58 =>
    bindV (binA Try.prog .neq 3 v56_50 v63_58) fun v64_59 =>
    condA v64_59 (bindV (ret (.bool false)) fun v4_60 =>
    ret v4_60)
    (R3.j_36 call k rec_1_19 v5_6 v7_13 v9_20)))
    (bindV (ret v5_6) fun v66_61 =>
    bindV (buildSliceA 56 3 0 [(.string ⟨#[]⟩), (.string ⟨#[]⟩), (.bool false)] []) fun v67_62 =>
    bindV (ret v1_in) fun v68_63 =>
    bindV (ret v9_20) fun v69_64 =>
    bindV (indexAddrA 3 v68_63 v69_64) fun v70_65 =>
    bindV (fieldAddrA 2 v70_65) fun v71_66 =>
    bindV (loadA none v71_66) fun v72_67 =>
    bindV (appendA 56 3 40 v67_62 v72_67) fun v73_68 =>
    bindV (call 8 [v66_61, v73_68]) fun v74_69 =>
    bindV (ret v74_69) fun v65_70 =>
    bindV (extractA v65_70 0) fun v75_71 =>
    bindV (extractA v65_70 1) fun v76_72 =>
    bindV (ret v75_71) fun v10_73 =>
    bindV (ret v76_72) fun v11_74 =>
    bindV (ret v7_13) fun v78_75 =>
    bindV (ret v1_in) fun v79_76 =>
    bindV (ret v9_20) fun v80_77 =>
    bindV (indexAddrA 3 v79_76 v80_77) fun v81_78 =>
    bindV (fieldAddrA 2 v81_78) fun v82_79 =>
    bindV (loadA none v82_79) fun v83_80 =>
    bindV (call 9 [v78_75, v83_80]) fun v84_81 =>
    bindV (ret v84_81) fun v77_82 =>
    bindV (extractA v77_82 0) fun v85_83 =>
    bindV (extractA v77_82 1) fun v86_84 =>
    bindV (ret v85_83) fun v12_85 =>
    bindV (ret v86_84) fun v13_86 =>
    bindV (ret v10_73) fun v87_90 =>
    bindV (toStrA v87_90) fun v88_91 =>
    bindV (ret v12_85) fun v89_92 =>
    bindV (toStrA v89_92) fun v90_93 =>
    bindV (binA Try.prog .neq 9 v88_91 v90_93) fun v91_94 =>
    bindV (ret v91_94) fun v92_95 =>
    guardA false v92_95 (bindV (ret v11_74) fun v93_99 =>
    bindV (ret v13_86) fun v94_100 =>
    bindV (binA Try.prog .neq 3 v93_99 v94_100) fun v95_101 =>
    R3.g_98 call k rec_1_19 v5_6 v7_13 v92_95 v9_20 v95_101)
    (R3.g_98 call k rec_1_19 v5_6 v7_13 v92_95 v9_20 (.tuple #[]))))
    (bindV (call 12 []) fun v105_15 =>
    bindV (ret v105_15) fun v4_16 =>
    ret v4_16)

noncomputable def R3.b_115 (call : FuncId → List Value → AM Value) (k : Nat) (v1_in : Value) (v5_6 : Value) (v7_13 : Value) (rec_1_19 : Value → AM Value) (v9_20 : Value) : AM Value :=
  bindV (ret v7_13) fun v34_105 =>
    bindV (binA Try.prog .neq 27 v34_105 (.pointer none)) fun v35_106 =>
    bindV (ret v35_106) fun v36_107 =>
    guardA true v36_107 (bindV (ret v9_20) fun v37_111 =>
    bindV (ret v1_in) fun v38_112 =>
    bindV (lenA v38_112) fun v39_113 =>
    bindV (binA Try.prog .lss 3 v37_111 v39_113) fun v40_114 =>
    R3.g_110 call k rec_1_19 v1_in v36_107 v5_6 v7_13 v9_20 v40_114)
    (R3.g_110 call k rec_1_19 v1_in v36_107 v5_6 v7_13 v9_20 (.tuple #[]))

noncomputable def R3.g_126 (call : FuncId → List Value → AM Value) (k : Nat) (v1_in : Value) (v27_123 : Value) (v5_6 : Value) (v7_13 : Value) (v32_124 : Value) : AM Value :=
  bindV (pickA v27_123 (.bool true) v32_124) fun v33_125 =>
    condA v33_125 (bindV (ret (.bool false)) fun v4_118 =>
    ret v4_118)
    (bindV (ret (.int .i64 0)) fun v9_18 =>
    loop1 (R3.b_115 call k v1_in v5_6 v7_13) k v9_18)

noncomputable def R3.top (call : FuncId → List Value → AM Value) (k : Nat) (v0_in : Value) (v1_in : Value) : AM Value :=
  bindV (ret (.bool false)) fun v4_0 =>
    bindV (ret v0_in) fun v15_1 =>
    bindV (call 4 [v15_1]) fun v16_2 =>
    bindV (ret v16_2) fun v14_3 =>
    bindV (extractA v14_3 0) fun v17_4 =>
    bindV (extractA v14_3 1) fun v18_5 =>
    bindV (ret v17_4) fun v5_6 =>
    bindV (ret v18_5) fun v6_7 =>
    bindV (ret v0_in) fun v20_8 =>
    bindV (call 5 [v20_8]) fun v21_9 =>
    bindV (ret v21_9) fun v19_10 =>
    bindV (extractA v19_10 0) fun v22_11 =>
    bindV (extractA v19_10 1) fun v23_12 =>
    bindV (ret v22_11) fun v7_13 =>
    bindV (ret v23_12) fun v8_14 =>
    bindV (ret v6_7) fun v24_120 =>
    bindV (ret v8_14) fun v25_121 =>
    bindV (binA Try.prog .neq 3 v24_120 v25_121) fun v26_122 =>
    bindV (ret v26_122) fun v27_123 =>
    guardA false v27_123 (bindV (ret v5_6) fun v28_127 =>
    bindV (binA Try.prog .eql 23 v28_127 (.pointer none)) fun v29_128 =>
    bindV (ret v7_13) fun v30_129 =>
    bindV (binA Try.prog .eql 27 v30_129 (.pointer none)) fun v31_130 =>
    bindV (binA Try.prog .neq 4 v29_128 v31_130) fun v32_131 =>
    R3.g_126 call k v1_in v27_123 v5_6 v7_13 v32_131)
    (R3.g_126 call k v1_in v27_123 v5_6 v7_13 (.tuple #[]))

theorem R3.eq (call : FuncId → List Value → AM Value) (k : Nat) (v0_in : Value) (v1_in : Value) : funcA Try.prog call k 3 [v0_in, v1_in] = R3.top call k v0_in v1_in := by kernel_rfl

/-! ### 4: aqueduct/hpack.NewEncoder (1 arguments) -/
noncomputable def R4.top (call : FuncId → List Value → AM Value) (k : Nat) (v0_in : Value) : AM Value :=
  bindV (ret (.pointer none)) fun v2_0 =>
    bindV (ret (.int .i64 0)) fun v3_1 =>
    bindV (ret v0_in) fun v7_2 =>
    bindV (call 13 [v7_2]) fun v8_3 =>
    bindV (ret v8_3) fun v6_4 =>
    bindV (extractA v6_4 0) fun v9_5 =>
    bindV (extractA v6_4 1) fun v10_6 =>
    bindV (ret v9_5) fun v4_7 =>
    bindV (ret v10_6) fun v5_8 =>
    bindV (ret v5_8) fun v11_17 =>
    bindV (binA Try.prog .neq 24 v11_17 (.int .i64 0)) fun v12_18 =>
    condA v12_18 (bindV (ret v5_8) fun v13_19 =>
    bindV (ret (.pointer none)) fun v2_20 =>
    bindV (ret v13_19) fun v3_21 =>
    ret (.tuple #[v2_20, v3_21]))
    (bindV (ret v4_7) fun v14_9 =>
    bindV (buildA [(0, 1)] [(.pointer none)] [(0, v14_9)]) fun v15_10 =>
    bindV (ret v0_in) fun v16_11 =>
    bindV (buildA [(0, 1), (1, 1), (2, 1)] [(.pointer none), (.int .i64 0), (.int .i64 0)] [(0, v15_10), (1, v16_11), (2, (.int .i64 65537))]) fun v17_12 =>
    bindV (boxA 52 v17_12) fun v18_13 =>
    bindV (ret v18_13) fun v2_14 =>
    bindV (ret (.int .i64 0)) fun v3_15 =>
    ret (.tuple #[v2_14, v3_15]))

theorem R4.eq (call : FuncId → List Value → AM Value) (k : Nat) (v0_in : Value) : funcA Try.prog call k 4 [v0_in] = R4.top call k v0_in := by kernel_rfl

/-! ### 5: aqueduct/aqueductref06.NewEncoder (1 arguments) -/
noncomputable def R5.top (call : FuncId → List Value → AM Value) (k : Nat) (v0_in : Value) : AM Value :=
  bindV (ret (.pointer none)) fun v2_0 =>
    bindV (ret (.int .i64 0)) fun v3_1 =>
    bindV (ret v0_in) fun v7_2 =>
    bindV (call 14 [v7_2]) fun v8_3 =>
    bindV (ret v8_3) fun v6_4 =>
    bindV (extractA v6_4 0) fun v9_5 =>
    bindV (extractA v6_4 1) fun v10_6 =>
    bindV (ret v9_5) fun v4_7 =>
    bindV (ret v10_6) fun v5_8 =>
    bindV (ret v5_8) fun v11_16 =>
    bindV (binA Try.prog .neq 3 v11_16 (.int .i64 0)) fun v12_17 =>
    condA v12_17 (bindV (ret (.pointer none)) fun v2_18 =>
    bindV (ret (.int .i64 1)) fun v3_19 =>
    ret (.tuple #[v2_18, v3_19]))
    (bindV (ret v4_7) fun v13_9 =>
    bindV (ret v0_in) fun v14_10 =>
    bindV (buildA [(0, 1), (1, 1), (2, 1)] [(.pointer none), (.int .i64 0), (.int .i64 0)] [(0, v13_9), (1, v14_10), (2, (.int .i64 65537))]) fun v15_11 =>
    bindV (boxA 43 v15_11) fun v16_12 =>
    bindV (ret v16_12) fun v2_13 =>
    bindV (ret (.int .i64 0)) fun v3_14 =>
    ret (.tuple #[v2_13, v3_14]))

theorem R5.eq (call : FuncId → List Value → AM Value) (k : Nat) (v0_in : Value) : funcA Try.prog call k 5 [v0_in] = R5.top call k v0_in := by kernel_rfl

/-! ### 6: (*aqueduct/hpack.Encoder).Limit (2 arguments) -/
noncomputable def R6.j_11 (call : FuncId → List Value → AM Value) (k : Nat) (v5_8 : Value) : AM Value :=
  bindV (ret v5_8) fun v26_9 =>
    bindV (ret v26_9) fun v4_10 =>
    ret v4_10

noncomputable def R6.top (call : FuncId → List Value → AM Value) (k : Nat) (v0_in : Value) (v1_in : Value) : AM Value :=
  bindV (ret (.int .i64 0)) fun v4_0 =>
    bindV (ret v0_in) fun v6_24 =>
    bindV (call 15 [v6_24]) fun v7_25 =>
    condA v7_25 (bindV (ret (.int .i64 7)) fun v4_26 =>
    ret v4_26)
    (bindV (ret v0_in) fun v8_1 =>
    bindV (nilCheckA v8_1) fun v9_2 =>
    bindV (fieldAddrA 0 v9_2) fun v10_3 =>
    bindV (fieldAddrA 0 v10_3) fun v11_4 =>
    bindV (loadA none v11_4) fun v12_5 =>
    bindV (ret v1_in) fun v13_6 =>
    bindV (call 16 [v12_5, v13_6]) fun v14_7 =>
    bindV (ret v14_7) fun v5_8 =>
    bindV (ret v5_8) fun v15_12 =>
    bindV (binA Try.prog .eql 24 v15_12 (.int .i64 0)) fun v16_13 =>
    condA v16_13 (bindV (ret v0_in) fun v17_14 =>
    bindV (ret v0_in) fun v18_15 =>
    bindV (nilCheckA v18_15) fun v19_16 =>
    bindV (fieldAddrA 2 v19_16) fun v20_17 =>
    bindV (loadA none v20_17) fun v21_18 =>
    bindV (ret v1_in) fun v22_19 =>
    bindV (min2A v21_18 v22_19) fun v23_20 =>
    bindV (nilCheckA v17_14) fun v24_21 =>
    bindV (fieldAddrA 2 v24_21) fun v25_22 =>
    bindV (storeA 1 v25_22 v23_20) fun _ =>
    R6.j_11 call k v5_8)
    (R6.j_11 call k v5_8))

theorem R6.eq (call : FuncId → List Value → AM Value) (k : Nat) (v0_in : Value) (v1_in : Value) : funcA Try.prog call k 6 [v0_in, v1_in] = R6.top call k v0_in v1_in := by kernel_rfl

/-! ### 7: (*aqueduct/aqueductref06.Encoder).Limit (2 arguments) -/
noncomputable def R7.top (call : FuncId → List Value → AM Value) (k : Nat) (v0_in : Value) (v1_in : Value) : AM Value :=
  bindV (ret (.int .i64 0)) fun v4_0 =>
    bindV (ret v0_in) fun v5_12 =>
    bindV (nilCheckA v5_12) fun v6_13 =>
    bindV (fieldAddrA 0 v6_13) fun v7_14 =>
    bindV (loadA none v7_14) fun v8_15 =>
    bindV (ret v1_in) fun v9_16 =>
    bindV (call 17 [v8_15, v9_16]) fun v10_17 =>
    bindV (binA Try.prog .neq 3 v10_17 (.int .i64 0)) fun v11_18 =>
    condA v11_18 (bindV (ret (.int .i64 1)) fun v4_19 =>
    ret v4_19)
    (bindV (ret v0_in) fun v12_1 =>
    bindV (ret v0_in) fun v13_2 =>
    bindV (nilCheckA v13_2) fun v14_3 =>
    bindV (fieldAddrA 2 v14_3) fun v15_4 =>
    bindV (loadA none v15_4) fun v16_5 =>
    bindV (ret v1_in) fun v17_6 =>
    bindV (min2A v16_5 v17_6) fun v18_7 =>
    bindV (nilCheckA v12_1) fun v19_8 =>
    bindV (fieldAddrA 2 v19_8) fun v20_9 =>
    bindV (storeA 1 v20_9 v18_7) fun _ =>
    bindV (ret (.int .i64 0)) fun v4_10 =>
    ret v4_10)

theorem R7.eq (call : FuncId → List Value → AM Value) (k : Nat) (v0_in : Value) (v1_in : Value) : funcA Try.prog call k 7 [v0_in, v1_in] = R7.top call k v0_in v1_in := by kernel_rfl

/-! ### 8: (*aqueduct/hpack.Encoder).Encode (2 arguments) -/
noncomputable def R8.b_36 (call : FuncId → List Value → AM Value) (k : Nat) (v0_in : Value) (v40_15 : Value) (v41_16 : Value) (rec_2_18 : Value → Value → AM Value) (v9_19 : Value) (v42_20 : Value) : AM Value :=
  bindV (binA Try.prog .lss 3 v42_20 v41_16) fun v43_21 =>
    condA v43_21 (bindV (indexAddrA 3 v40_15 v42_20) fun v44_26 =>
    bindV (loadA (some 3) v44_26) fun v45_27 =>
    bindV (newA [(.string ⟨#[]⟩), (.string ⟨#[]⟩), (.bool false)] 56) fun v11_28 =>
    bindV (storeA 3 v11_28 v45_27) fun _ =>
    bindV (ret v9_19) fun v46_29 =>
    bindV (ret v0_in) fun v47_30 =>
    bindV (loadA (some 3) v11_28) fun v48_31 =>
    bindV (call 19 [v47_30, v48_31]) fun v49_32 =>
    bindV (appendA 5 1 1 v46_29 v49_32) fun v50_33 =>
    bindV (ret v50_33) fun v9_34 =>
    bindV (binA Try.prog .add 3 v42_20 (.int .i64 1)) fun v51_23 =>
    bindV (ret v51_23) fun v42_24 =>
    rec_2_18 v9_34 v42_24)
    (bindV (ret v9_19) fun v52_11 =>
    bindV (ret v52_11) fun v4_12 =>
    bindV (ret (.int .i64 0)) fun v5_13 =>
    ret (.tuple #[v4_12, v5_13]))

noncomputable def R8.g_64 (call : FuncId → List Value → AM Value) (k : Nat) (rec_2_45 : Value → Value → AM Value) (v19_47 : Value) (v30_60 : Value) (v34_61 : Value) : AM Value :=
  bindV (pickA v30_60 (.bool true) v34_61) fun v35_62 =>
    bindV (ret v35_62) fun v6_63 =>
    bindV (binA Try.prog .add 3 v19_47 (.int .i64 1)) fun v36_50 =>
    bindV (ret v36_50) fun v19_51 =>
    rec_2_45 v6_63 v19_51

noncomputable def R8.g_69 (call : FuncId → List Value → AM Value) (k : Nat) (rec_2_45 : Value → Value → AM Value) (v19_47 : Value) (v24_57 : Value) (v8_55 : Value) (v28_58 : Value) : AM Value :=
  bindV (pickA v24_57 (.bool true) v28_58) fun v29_59 =>
    bindV (ret v29_59) fun v30_60 =>
    guardA false v30_60 (bindV (fieldAddrA 1 v8_55) fun v31_65 =>
    bindV (loadA none v31_65) fun v32_66 =>
    bindV (lenStrA v32_66) fun v33_67 =>
    bindV (binA Try.prog .gtr 3 v33_67 (.int .i64 16384)) fun v34_68 =>
    R8.g_64 call k rec_2_45 v19_47 v30_60 v34_68)
    (R8.g_64 call k rec_2_45 v19_47 v30_60 (.tuple #[]))

noncomputable def R8.b_75 (call : FuncId → List Value → AM Value) (k : Nat) (v0_in : Value) (v17_42 : Value) (v18_43 : Value) (v1_in : Value) (rec_2_45 : Value → Value → AM Value) (v6_46 : Value) (v19_47 : Value) : AM Value :=
  bindV (binA Try.prog .lss 3 v19_47 v18_43) fun v20_48 =>
    condA v20_48 (bindV (indexAddrA 3 v17_42 v19_47) fun v21_53 =>
    bindV (loadA (some 3) v21_53) fun v22_54 =>
    bindV (newA [(.string ⟨#[]⟩), (.string ⟨#[]⟩), (.bool false)] 56) fun v8_55 =>
    bindV (storeA 3 v8_55 v22_54) fun _ =>
    bindV (ret v6_46) fun v23_56 =>
    bindV (ret v23_56) fun v24_57 =>
    guardA false v24_57 (bindV (fieldAddrA 0 v8_55) fun v25_70 =>
    bindV (loadA none v25_70) fun v26_71 =>
    bindV (lenStrA v26_71) fun v27_72 =>
    bindV (binA Try.prog .gtr 3 v27_72 (.int .i64 16384)) fun v28_73 =>
    R8.g_69 call k rec_2_45 v19_47 v24_57 v8_55 v28_73)
    (R8.g_69 call k rec_2_45 v19_47 v24_57 v8_55 (.tuple #[])))
    (bindV (ret v6_46) fun v37_38 =>
    condA v37_38 (bindV (ret (.slice none 0 0)) fun v4_39 =>
    bindV (ret (.int .i64 2)) fun v5_40 =>
    ret (.tuple #[v4_39, v5_40]))
    (bindV (ret v0_in) fun v38_7 =>
    bindV (call 18 [v38_7]) fun v39_8 =>
    bindV (ret v39_8) fun v9_9 =>
    bindV (ret v1_in) fun v40_15 =>
    bindV (lenA v40_15) fun v41_16 =>
    bindV (ret (.int .i64 0)) fun v42_17 =>
    loop2 (R8.b_36 call k v0_in v40_15 v41_16) k v9_9 v42_17))

noncomputable def R8.top (call : FuncId → List Value → AM Value) (k : Nat) (v0_in : Value) (v1_in : Value) : AM Value :=
  bindV (ret (.slice none 0 0)) fun v4_0 =>
    bindV (ret (.int .i64 0)) fun v5_1 =>
    bindV (ret v0_in) fun v12_77 =>
    bindV (call 15 [v12_77]) fun v13_78 =>
    condA v13_78 (bindV (ret (.slice none 0 0)) fun v4_79 =>
    bindV (ret (.int .i64 7)) fun v5_80 =>
    ret (.tuple #[v4_79, v5_80]))
    (bindV (ret v1_in) fun v14_2 =>
    bindV (lenA v14_2) fun v15_3 =>
    bindV (binA Try.prog .gtr 3 v15_3 (.int .i64 1024)) fun v16_4 =>
    bindV (ret v16_4) fun v6_5 =>
    bindV (ret v1_in) fun v17_42 =>
    bindV (lenA v17_42) fun v18_43 =>
    bindV (ret (.int .i64 0)) fun v19_44 =>
    loop2 (R8.b_75 call k v0_in v17_42 v18_43 v1_in) k v6_5 v19_44)

theorem R8.eq (call : FuncId → List Value → AM Value) (k : Nat) (v0_in : Value) (v1_in : Value) : funcA Try.prog call k 8 [v0_in, v1_in] = R8.top call k v0_in v1_in := by kernel_rfl

/-! ### 9: (*aqueduct/aqueductref06.Encoder).Encode (2 arguments) -/
noncomputable def R9.b_33 (call : FuncId → List Value → AM Value) (k : Nat) (v0_in : Value) (v1_in : Value) (rec_2_11 : Value → Value → AM Value) (v7_12 : Value) (v8_13 : Value) : AM Value :=
  bindV (ret v8_13) fun v36_29 =>
    bindV (ret v1_in) fun v37_30 =>
    bindV (lenA v37_30) fun v38_31 =>
    bindV (binA Try.prog .lss 3 v36_29 v38_31) fun v39_32 =>
    condA v39_32 (bindV (ret v7_12) fun v42_19 =>
    bindV (ret v0_in) fun v43_20 =>
    bindV (ret v1_in) fun v44_21 =>
    bindV (ret v8_13) fun v45_22 =>
    bindV (indexAddrA 3 v44_21 v45_22) fun v46_23 =>
    bindV (loadA (some 3) v46_23) fun v47_24 =>
    bindV (call 21 [v43_20, v47_24]) fun v48_25 =>
    bindV (appendA 5 1 1 v42_19 v48_25) fun v49_26 =>
    bindV (ret v49_26) fun v7_27 =>
    bindV (ret v8_13) fun v40_15 =>
    bindV (binA Try.prog .add 3 v40_15 (.int .i64 1)) fun v41_16 =>
    bindV (ret v41_16) fun v8_17 =>
    rec_2_11 v7_27 v8_17)
    (bindV (ret v7_12) fun v50_6 =>
    bindV (ret v50_6) fun v4_7 =>
    bindV (ret (.int .i64 0)) fun v5_8 =>
    ret (.tuple #[v4_7, v5_8]))

noncomputable def R9.g_56 (call : FuncId → List Value → AM Value) (k : Nat) (rec_1_36 : Value → AM Value) (v25_53 : Value) (v6_37 : Value) (v32_54 : Value) : AM Value :=
  bindV (pickA v25_53 (.bool true) v32_54) fun v33_55 =>
    condA v33_55 (bindV (ret (.slice none 0 0)) fun v4_43 =>
    bindV (ret (.int .i64 2)) fun v5_44 =>
    ret (.tuple #[v4_43, v5_44]))
    (bindV (ret v6_37) fun v16_38 =>
    bindV (binA Try.prog .add 3 v16_38 (.int .i64 1)) fun v17_39 =>
    bindV (ret v17_39) fun v6_40 =>
    rec_1_36 v6_40)

noncomputable def R9.b_69 (call : FuncId → List Value → AM Value) (k : Nat) (v0_in : Value) (v1_in : Value) (rec_1_36 : Value → AM Value) (v6_37 : Value) : AM Value :=
  bindV (ret v6_37) fun v12_65 =>
    bindV (ret v1_in) fun v13_66 =>
    bindV (lenA v13_66) fun v14_67 =>
    bindV (binA Try.prog .lss 3 v12_65 v14_67) fun v15_68 =>
    condA v15_68 (bindV (ret v1_in) fun v18_46 =>
    bindV (ret v6_37) fun v19_47 =>
    bindV (indexAddrA 3 v18_46 v19_47) fun v20_48 =>
    bindV (fieldAddrA 0 v20_48) fun v21_49 =>
    bindV (loadA none v21_49) fun v22_50 =>
    bindV (lenStrA v22_50) fun v23_51 =>
    bindV (binA Try.prog .gtr 3 v23_51 (.int .i64 16384)) fun v24_52 =>
    bindV (ret v24_52) fun v25_53 =>
    guardA false v25_53 (bindV (ret v1_in) fun v26_57 =>
    bindV (ret v6_37) fun v27_58 =>
    bindV (indexAddrA 3 v26_57 v27_58) fun v28_59 =>
    bindV (fieldAddrA 1 v28_59) fun v29_60 =>
    bindV (loadA none v29_60) fun v30_61 =>
    bindV (lenStrA v30_61) fun v31_62 =>
    bindV (binA Try.prog .gtr 3 v31_62 (.int .i64 16384)) fun v32_63 =>
    R9.g_56 call k rec_1_36 v25_53 v6_37 v32_63)
    (R9.g_56 call k rec_1_36 v25_53 v6_37 (.tuple #[])))
    (bindV (ret v0_in) fun v34_2 =>
    bindV (call 20 [v34_2]) fun v35_3 =>
    bindV (ret v35_3) fun v7_4 =>
    bindV (ret (.int .i64 0)) fun v8_10 =>
    loop2 (R9.b_33 call k v0_in v1_in) k v7_4 v8_10)

noncomputable def R9.top (call : FuncId → List Value → AM Value) (k : Nat) (v0_in : Value) (v1_in : Value) : AM Value :=
  bindV (ret (.slice none 0 0)) fun v4_0 =>
    bindV (ret (.int .i64 0)) fun v5_1 =>
    bindV (ret v1_in) fun v9_71 =>
    bindV (lenA v9_71) fun v10_72 =>
    bindV (binA Try.prog .gtr 3 v10_72 (.int .i64 1024)) fun v11_73 =>
    condA v11_73 (bindV (ret (.slice none 0 0)) fun v4_74 =>
    bindV (ret (.int .i64 2)) fun v5_75 =>
    ret (.tuple #[v4_74, v5_75]))
    (bindV (ret (.int .i64 0)) fun v6_35 =>
    loop1 (R9.b_69 call k v0_in v1_in) k v6_35)

theorem R9.eq (call : FuncId → List Value → AM Value) (k : Nat) (v0_in : Value) (v1_in : Value) : funcA Try.prog call k 9 [v0_in, v1_in] = R9.top call k v0_in v1_in := by kernel_rfl

/-! ### 10: (*aqueduct/hpack.Encoder).Bytes (1 arguments) -/
noncomputable def R10.top (call : FuncId → List Value → AM Value) (k : Nat) (v0_in : Value) : AM Value :=
  bindV (ret (.int .i64 0)) fun v2_0 =>
    bindV (ret v0_in) fun v3_7 =>
    bindV (call 15 [v3_7]) fun v4_8 =>
    condA v4_8 (bindV (ret (.int .i64 0)) fun v2_9 =>
    ret v2_9)
    (bindV (ret v0_in) fun v5_1 =>
    bindV (nilCheckA v5_1) fun v6_2 =>
    bindV (fieldAddrA 0 v6_2) fun v7_3 =>
    bindV (call 22 [v7_3]) fun v8_4 =>
    bindV (ret v8_4) fun v2_5 =>
    ret v2_5)

theorem R10.eq (call : FuncId → List Value → AM Value) (k : Nat) (v0_in : Value) : funcA Try.prog call k 10 [v0_in] = R10.top call k v0_in := by kernel_rfl

/-! ### 12: aqueduct/aqueductlaw06.awake (0 arguments) -/
noncomputable def R12.g_27 (call : FuncId → List Value → AM Value) (k : Nat) (v28_23 : Value) (v32_24 : Value) : AM Value :=
  bindV (pickA v28_23 v32_24 (.bool false)) fun v33_25 =>
    bindV (ret v33_25) fun v0_26 =>
    ret v0_26

noncomputable def R12.g_32 (call : FuncId → List Value → AM Value) (k : Nat) (v23_20 : Value) (v3_14 : Value) (v26_21 : Value) : AM Value :=
  bindV (pickA v23_20 v26_21 (.bool false)) fun v27_22 =>
    bindV (ret v27_22) fun v28_23 =>
    guardA true v28_23 (bindV (ret v3_14) fun v29_28 =>
    bindV (indexAddrA 1 v29_28 (.int .i64 0)) fun v30_29 =>
    bindV (loadA none v30_29) fun v31_30 =>
    bindV (binA Try.prog .eql 5 v31_30 (.int .u8 130)) fun v32_31 =>
    R12.g_27 call k v28_23 v32_31)
    (R12.g_27 call k v28_23 (.tuple #[]))

noncomputable def R12.g_45 (call : FuncId → List Value → AM Value) (k : Nat) (v10_42 : Value) (v1_5 : Value) (v12_43 : Value) : AM Value :=
  bindV (pickA v10_42 (.bool true) v12_43) fun v13_44 =>
    condA v13_44 (bindV (ret (.bool false)) fun v0_38 =>
    ret v0_38)
    (bindV (ret v1_5) fun v15_7 =>
    bindV (buildA [(0, 1), (1, 1), (2, 1)] [(.string ⟨#[]⟩), (.string ⟨#[]⟩), (.bool false)] [(0, (.string ⟨#[58, 109, 101, 116, 104, 111, 100]⟩)), (1, (.string ⟨#[71, 69, 84]⟩))]) fun v16_8 =>
    bindV (buildSliceA 56 3 1 [(.string ⟨#[]⟩), (.string ⟨#[]⟩), (.bool false)] [(0, v16_8)]) fun v17_9 =>
    bindV (call 8 [v15_7, v17_9]) fun v18_10 =>
    bindV (ret v18_10) fun v14_11 =>
    bindV (extractA v14_11 0) fun v19_12 =>
    bindV (extractA v14_11 1) fun v20_13 =>
    bindV (ret v19_12) fun v3_14 =>
    bindV (ret v20_13) fun v2_15 =>
    bindV (ret v2_15) fun v21_18 =>
    bindV (binA Try.prog .eql 24 v21_18 (.int .i64 0)) fun v22_19 =>
    bindV (ret v22_19) fun v23_20 =>
    guardA true v23_20 (bindV (ret v3_14) fun v24_33 =>
    bindV (lenA v24_33) fun v25_34 =>
    bindV (binA Try.prog .eql 3 v25_34 (.int .i64 1)) fun v26_35 =>
    R12.g_32 call k v23_20 v3_14 v26_35)
    (R12.g_32 call k v23_20 v3_14 (.tuple #[])))

noncomputable def R12.top (call : FuncId → List Value → AM Value) (k : Nat) : AM Value :=
  bindV (ret (.bool false)) fun v0_0 =>
    bindV (call 4 [(.int .i64 100)]) fun v5_1 =>
    bindV (ret v5_1) fun v4_2 =>
    bindV (extractA v4_2 0) fun v6_3 =>
    bindV (extractA v4_2 1) fun v7_4 =>
    bindV (ret v6_3) fun v1_5 =>
    bindV (ret v7_4) fun v2_6 =>
    bindV (ret v1_5) fun v8_40 =>
    bindV (binA Try.prog .eql 23 v8_40 (.pointer none)) fun v9_41 =>
    bindV (ret v9_41) fun v10_42 =>
    guardA false v10_42 (bindV (ret v2_6) fun v11_46 =>
    bindV (binA Try.prog .neq 24 v11_46 (.int .i64 0)) fun v12_47 =>
    R12.g_45 call k v10_42 v1_5 v12_47)
    (R12.g_45 call k v10_42 v1_5 (.tuple #[]))

theorem R12.eq (call : FuncId → List Value → AM Value) (k : Nat) : funcA Try.prog call k 12 [] = R12.top call k := by kernel_rfl

/-! ### 15: (*aqueduct/hpack.Encoder).none (1 arguments) -/
noncomputable def R15.g_9 (call : FuncId → List Value → AM Value) (k : Nat) (v5_5 : Value) (v11_6 : Value) : AM Value :=
  bindV (pickA v5_5 (.bool true) v11_6) fun v12_7 =>
    bindV (ret v12_7) fun v2_8 =>
    ret v2_8

noncomputable def R15.top (call : FuncId → List Value → AM Value) (k : Nat) (v0_in : Value) : AM Value :=
  bindV (ret (.bool false)) fun v2_0 =>
    bindV (ret v0_in) fun v3_3 =>
    bindV (binA Try.prog .eql 23 v3_3 (.pointer none)) fun v4_4 =>
    bindV (ret v4_4) fun v5_5 =>
    guardA false v5_5 (bindV (ret v0_in) fun v6_10 =>
    bindV (nilCheckA v6_10) fun v7_11 =>
    bindV (fieldAddrA 0 v7_11) fun v8_12 =>
    bindV (fieldAddrA 0 v8_12) fun v9_13 =>
    bindV (loadA none v9_13) fun v10_14 =>
    bindV (binA Try.prog .eql 46 v10_14 (.pointer none)) fun v11_15 =>
    R15.g_9 call k v5_5 v11_15)
    (R15.g_9 call k v5_5 (.tuple #[]))

theorem R15.eq (call : FuncId → List Value → AM Value) (k : Nat) (v0_in : Value) : funcA Try.prog call k 15 [v0_in] = R15.top call k v0_in := by kernel_rfl

/-! ### 18: (*aqueduct/hpack.Encoder).sizes (1 arguments) -/
noncomputable def R18.j_21 (call : FuncId → List Value → AM Value) (k : Nat) (v0_in : Value) (v4_8 : Value) (v3_11 : Value) : AM Value :=
  bindV (ret v0_in) fun v50_12 =>
    bindV (ret v0_in) fun v51_13 =>
    bindV (ret v4_8) fun v52_14 =>
    bindV (nilCheckA v50_12) fun v53_15 =>
    bindV (fieldAddrA 1 v53_15) fun v54_16 =>
    bindV (storeA 1 v54_16 v52_14) fun _ =>
    bindV (nilCheckA v51_13) fun v55_17 =>
    bindV (fieldAddrA 2 v55_17) fun v56_18 =>
    bindV (storeA 1 v56_18 (.int .i64 65537)) fun _ =>
    bindV (ret v3_11) fun v57_19 =>
    bindV (ret v57_19) fun v2_20 =>
    ret v2_20

noncomputable def R18.g_33 (call : FuncId → List Value → AM Value) (k : Nat) (v0_in : Value) (v38_30 : Value) (v3_10 : Value) (v4_8 : Value) (v44_31 : Value) : AM Value :=
  bindV (pickA v38_30 (.bool true) v44_31) fun v45_32 =>
    condA v45_32 (bindV (ret v3_10) fun v46_23 =>
    bindV (ret v4_8) fun v47_24 =>
    bindV (call 29 [(.int .u8 32), (.int .i64 5), v47_24]) fun v48_25 =>
    bindV (appendA 5 1 1 v46_23 v48_25) fun v49_26 =>
    bindV (ret v49_26) fun v3_27 =>
    R18.j_21 call k v0_in v4_8 v3_27)
    (R18.j_21 call k v0_in v4_8 v3_10)

noncomputable def R18.j_40 (call : FuncId → List Value → AM Value) (k : Nat) (v0_in : Value) (v4_8 : Value) (v5_9 : Value) (v3_10 : Value) : AM Value :=
  bindV (ret v5_9) fun v37_29 =>
    bindV (ret v37_29) fun v38_30 =>
    guardA false v38_30 (bindV (ret v4_8) fun v39_34 =>
    bindV (ret v0_in) fun v40_35 =>
    bindV (nilCheckA v40_35) fun v41_36 =>
    bindV (fieldAddrA 1 v41_36) fun v42_37 =>
    bindV (loadA none v42_37) fun v43_38 =>
    bindV (binA Try.prog .neq 3 v39_34 v43_38) fun v44_39 =>
    R18.g_33 call k v0_in v38_30 v3_10 v4_8 v44_39)
    (R18.g_33 call k v0_in v38_30 v3_10 v4_8 (.tuple #[]))

noncomputable def R18.d_52 (call : FuncId → List Value → AM Value) (k : Nat) (v0_in : Value) (v3_1 : Value) (v4_8 : Value) (v5_51 : Value) : AM Value :=
  bindV (ret v5_51) fun v29_41 =>
    condA v29_41 (bindV (ret v3_1) fun v30_42 =>
    bindV (ret v0_in) fun v31_43 =>
    bindV (nilCheckA v31_43) fun v32_44 =>
    bindV (fieldAddrA 2 v32_44) fun v33_45 =>
    bindV (loadA none v33_45) fun v34_46 =>
    bindV (call 29 [(.int .u8 32), (.int .i64 5), v34_46]) fun v35_47 =>
    bindV (appendA 5 1 1 v30_42 v35_47) fun v36_48 =>
    bindV (ret v36_48) fun v3_49 =>
    R18.j_40 call k v0_in v4_8 v5_51 v3_49)
    (R18.j_40 call k v0_in v4_8 v5_51 v3_1)

noncomputable def R18.top (call : FuncId → List Value → AM Value) (k : Nat) (v0_in : Value) : AM Value :=
  bindV (ret (.slice none 0 0)) fun v2_0 =>
    bindV (ret (.slice none 0 0)) fun v3_1 =>
    bindV (ret v0_in) fun v6_2 =>
    bindV (nilCheckA v6_2) fun v7_3 =>
    bindV (fieldAddrA 0 v7_3) fun v8_4 =>
    bindV (fieldAddrA 0 v8_4) fun v9_5 =>
    bindV (loadA none v9_5) fun v10_6 =>
    bindV (call 28 [v10_6]) fun v11_7 =>
    bindV (ret v11_7) fun v4_8 =>
    bindV (ret v0_in) fun v12_53 =>
    bindV (nilCheckA v12_53) fun v13_54 =>
    bindV (fieldAddrA 2 v13_54) fun v14_55 =>
    bindV (loadA none v14_55) fun v15_56 =>
    bindV (ret v0_in) fun v16_57 =>
    bindV (nilCheckA v16_57) fun v17_58 =>
    bindV (fieldAddrA 1 v17_58) fun v18_59 =>
    bindV (loadA none v18_59) fun v19_60 =>
    bindV (binA Try.prog .lss 3 v15_56 v19_60) fun v20_61 =>
    bindV (ret v20_61) fun v21_62 =>
    guardA true v21_62 (bindV (ret v0_in) fun v22_63 =>
    bindV (nilCheckA v22_63) fun v23_64 =>
    bindV (fieldAddrA 2 v23_64) fun v24_65 =>
    bindV (loadA none v24_65) fun v25_66 =>
    bindV (ret v4_8) fun v26_67 =>
    bindV (binA Try.prog .lss 3 v25_66 v26_67) fun v27_68 =>
    bindV (pickA v21_62 v27_68 (.bool false)) fun v28_69 =>
    bindV (ret v28_69) fun v5_70 =>
    R18.d_52 call k v0_in v3_1 v4_8 v5_70)
    (bindV (pickA v21_62 (.tuple #[]) (.bool false)) fun v28_71 =>
    bindV (ret v28_71) fun v5_72 =>
    R18.d_52 call k v0_in v3_1 v4_8 v5_72)

theorem R18.eq (call : FuncId → List Value → AM Value) (k : Nat) (v0_in : Value) : funcA Try.prog call k 18 [v0_in] = R18.top call k v0_in := by kernel_rfl

/-! ### 19: (*aqueduct/hpack.Encoder).header (2 arguments) -/
noncomputable def R19.top (call : FuncId → List Value → AM Value) (k : Nat) (v0_in : Value) (v1_in : Value) : AM Value :=
  bindV (boxA 56 v1_in) fun v3_0 =>
    bindV (ret (.slice none 0 0)) fun v4_1 =>
    bindV (ret v0_in) fun v8_2 =>
    bindV (nilCheckA v8_2) fun v9_3 =>
    bindV (fieldAddrA 0 v9_3) fun v10_4 =>
    bindV (fieldAddrA 0 v10_4) fun v11_5 =>
    bindV (loadA none v11_5) fun v12_6 =>
    bindV (loadA (some 3) v3_0) fun v13_7 =>
    bindV (call 30 [v12_6, v13_7]) fun v14_9 =>
    bindV (ret v14_9) fun v7_10 =>
    bindV (extractA v7_10 0) fun v15_11 =>
    bindV (extractA v7_10 1) fun v16_12 =>
    bindV (ret v15_11) fun v5_13 =>
    bindV (ret v16_12) fun v6_14 =>
    bindV (fieldAddrA 2 v3_0) fun v18_28 =>
    bindV (loadA none v18_28) fun v19_29 =>
    bindV (ret v19_29) fun v17_30 =>
    condA v17_30 (bindV (loadA (some 3) v3_0) fun v20_31 =>
    bindV (ret v5_13) fun v21_32 =>
    bindV (call 31 [v20_31, (.int .u8 16), (.int .i64 4), v21_32]) fun v22_33 =>
    bindV (ret v22_33) fun v4_34 =>
    ret v4_34)
    (bindV (ret v6_14) fun v24_35 =>
    bindV (ret v24_35) fun v23_36 =>
    condA v23_36 (bindV (ret v5_13) fun v25_37 =>
    bindV (call 29 [(.int .u8 128), (.int .i64 7), v25_37]) fun v26_38 =>
    bindV (ret v26_38) fun v4_39 =>
    ret v4_39)
    (bindV (loadA (some 3) v3_0) fun v28_40 =>
    bindS fun s_41 =>
    bindV (call 32 [v28_40]) fun v29_42 =>
    bindV (ret v0_in) fun v30_43 =>
    bindV (nilCheckA v30_43) fun v31_44 =>
    bindV (fieldAddrA 0 v31_44) fun v32_45 =>
    bindV (fieldAddrA 0 v32_45) fun v33_46 =>
    bindV (loadA none v33_46) fun v34_47 =>
    thereV [s_41] (loadA none v33_46) v34_47 (
    bindV (call 28 [v34_47]) fun v35_49 =>
    bindV (binA Try.prog .gtr 3 v29_42 v35_49) fun v36_50 =>
    bindV (ret v36_50) fun v27_51 =>
    condA v27_51 (bindV (loadA (some 3) v3_0) fun v37_52 =>
    bindV (ret v5_13) fun v38_53 =>
    bindV (call 31 [v37_52, (.int .u8 0), (.int .i64 4), v38_53]) fun v39_54 =>
    bindV (ret v39_54) fun v4_55 =>
    ret v4_55)
    (bindV (ret v0_in) fun v40_15 =>
    bindV (nilCheckA v40_15) fun v41_16 =>
    bindV (fieldAddrA 0 v41_16) fun v42_17 =>
    bindV (fieldAddrA 0 v42_17) fun v43_18 =>
    bindV (loadA none v43_18) fun v44_19 =>
    bindV (loadA (some 3) v3_0) fun v45_20 =>
    bindV (call 33 [v44_19, v45_20]) fun v46_22 =>
    bindV (loadA (some 3) v3_0) fun v47_23 =>
    bindV (ret v5_13) fun v48_24 =>
    bindV (call 31 [v47_23, (.int .u8 64), (.int .i64 6), v48_24]) fun v49_25 =>
    bindV (ret v49_25) fun v4_26 =>
    ret v4_26))))

theorem R19.eq (call : FuncId → List Value → AM Value) (k : Nat) (v0_in : Value) (v1_in : Value) : funcA Try.prog call k 19 [v0_in, v1_in] = R19.top call k v0_in v1_in := by kernel_rfl

/-! ### 20: (*aqueduct/aqueductref06.Encoder).updates (1 arguments) -/
noncomputable def R20.j_22 (call : FuncId → List Value → AM Value) (k : Nat) (v0_in : Value) (v4_9 : Value) (v3_12 : Value) : AM Value :=
  bindV (ret v0_in) fun v63_13 =>
    bindV (ret v4_9) fun v64_14 =>
    bindV (nilCheckA v63_13) fun v65_15 =>
    bindV (fieldAddrA 1 v65_15) fun v66_16 =>
    bindV (storeA 1 v66_16 v64_14) fun _ =>
    bindV (ret v0_in) fun v67_17 =>
    bindV (nilCheckA v67_17) fun v68_18 =>
    bindV (fieldAddrA 2 v68_18) fun v69_19 =>
    bindV (storeA 1 v69_19 (.int .i64 65537)) fun _ =>
    bindV (ret v3_12) fun v70_20 =>
    bindV (ret v70_20) fun v2_21 =>
    ret v2_21

noncomputable def R20.g_45 (call : FuncId → List Value → AM Value) (k : Nat) (v0_in : Value) (v3_11 : Value) (v4_9 : Value) (v52_42 : Value) (v53_43 : Value) : AM Value :=
  bindV (pickA v52_42 (.bool true) v53_43) fun v54_44 =>
    condA v54_44 (bindV (ret v4_9) fun v56_24 =>
    bindV (call 34 [(.int .u8 32), (.int .i64 5), v56_24]) fun v57_25 =>
    bindV (ret v57_25) fun v55_26 =>
    bindV (extractA v55_26 0) fun v58_27 =>
    bindV (extractA v55_26 1) fun v59_28 =>
    bindV (ret v58_27) fun v8_29 =>
    bindV (ret v59_28) fun v9_30 =>
    bindV (ret v3_11) fun v60_31 =>
    bindV (ret v8_29) fun v61_32 =>
    bindV (appendA 5 1 1 v60_31 v61_32) fun v62_33 =>
    bindV (ret v62_33) fun v3_34 =>
    R20.j_22 call k v0_in v4_9 v3_34)
    (R20.j_22 call k v0_in v4_9 v3_11)

noncomputable def R20.j_47 (call : FuncId → List Value → AM Value) (k : Nat) (v0_in : Value) (v4_9 : Value) (v5_10 : Value) (v3_11 : Value) : AM Value :=
  bindV (ret v4_9) fun v46_36 =>
    bindV (ret v0_in) fun v47_37 =>
    bindV (nilCheckA v47_37) fun v48_38 =>
    bindV (fieldAddrA 1 v48_38) fun v49_39 =>
    bindV (loadA none v49_39) fun v50_40 =>
    bindV (binA Try.prog .neq 3 v46_36 v50_40) fun v51_41 =>
    bindV (ret v51_41) fun v52_42 =>
    guardA false v52_42 (bindV (ret v5_10) fun v53_46 =>
    R20.g_45 call k v0_in v3_11 v4_9 v52_42 v53_46)
    (R20.g_45 call k v0_in v3_11 v4_9 v52_42 (.tuple #[]))

noncomputable def R20.d_65 (call : FuncId → List Value → AM Value) (k : Nat) (v0_in : Value) (v3_1 : Value) (v4_9 : Value) (v5_64 : Value) : AM Value :=
  bindV (ret v5_64) fun v34_48 =>
    condA v34_48 (bindV (ret v0_in) fun v36_49 =>
    bindV (nilCheckA v36_49) fun v37_50 =>
    bindV (fieldAddrA 2 v37_50) fun v38_51 =>
    bindV (loadA none v38_51) fun v39_52 =>
    bindV (call 34 [(.int .u8 32), (.int .i64 5), v39_52]) fun v40_53 =>
    bindV (ret v40_53) fun v35_54 =>
    bindV (extractA v35_54 0) fun v41_55 =>
    bindV (extractA v35_54 1) fun v42_56 =>
    bindV (ret v41_55) fun v6_57 =>
    bindV (ret v42_56) fun v7_58 =>
    bindV (ret v3_1) fun v43_59 =>
    bindV (ret v6_57) fun v44_60 =>
    bindV (appendA 5 1 1 v43_59 v44_60) fun v45_61 =>
    bindV (ret v45_61) fun v3_62 =>
    R20.j_47 call k v0_in v4_9 v5_64 v3_62)
    (R20.j_47 call k v0_in v4_9 v5_64 v3_1)

noncomputable def R20.top (call : FuncId → List Value → AM Value) (k : Nat) (v0_in : Value) : AM Value :=
  bindV (ret (.slice none 0 0)) fun v2_0 =>
    bindV (ret (.slice none 0 0)) fun v3_1 =>
    bindV (ret v0_in) fun v10_2 =>
    bindV (nilCheckA v10_2) fun v11_3 =>
    bindV (fieldAddrA 0 v11_3) fun v12_4 =>
    bindV (loadA none v12_4) fun v13_5 =>
    bindV (nilCheckA v13_5) fun v14_6 =>
    bindV (fieldAddrA 0 v14_6) fun v15_7 =>
    bindV (loadA none v15_7) fun v16_8 =>
    bindV (ret v16_8) fun v4_9 =>
    bindV (ret v0_in) fun v17_66 =>
    bindV (nilCheckA v17_66) fun v18_67 =>
    bindV (fieldAddrA 2 v18_67) fun v19_68 =>
    bindV (loadA none v19_68) fun v20_69 =>
    bindV (ret v0_in) fun v21_70 =>
    bindV (nilCheckA v21_70) fun v22_71 =>
    bindV (fieldAddrA 1 v22_71) fun v23_72 =>
    bindV (loadA none v23_72) fun v24_73 =>
    bindV (binA Try.prog .lss 3 v20_69 v24_73) fun v25_74 =>
    bindV (ret v25_74) fun v26_75 =>
    guardA true v26_75 (bindV (ret v0_in) fun v27_76 =>
    bindV (nilCheckA v27_76) fun v28_77 =>
    bindV (fieldAddrA 2 v28_77) fun v29_78 =>
    bindV (loadA none v29_78) fun v30_79 =>
    bindV (ret v4_9) fun v31_80 =>
    bindV (binA Try.prog .lss 3 v30_79 v31_80) fun v32_81 =>
    bindV (pickA v26_75 v32_81 (.bool false)) fun v33_82 =>
    bindV (ret v33_82) fun v5_83 =>
    R20.d_65 call k v0_in v3_1 v4_9 v5_83)
    (bindV (pickA v26_75 (.tuple #[]) (.bool false)) fun v33_84 =>
    bindV (ret v33_84) fun v5_85 =>
    R20.d_65 call k v0_in v3_1 v4_9 v5_85)

theorem R20.eq (call : FuncId → List Value → AM Value) (k : Nat) (v0_in : Value) : funcA Try.prog call k 20 [v0_in] = R20.top call k v0_in := by kernel_rfl

/-! ### 21: (*aqueduct/aqueductref06.Encoder).one (2 arguments) -/
noncomputable def R21.top (call : FuncId → List Value → AM Value) (k : Nat) (v0_in : Value) (v1_in : Value) : AM Value :=
  bindV (boxA 56 v1_in) fun v3_0 =>
    bindV (ret (.slice none 0 0)) fun v4_1 =>
    bindV (ret v0_in) fun v11_2 =>
    bindV (nilCheckA v11_2) fun v12_3 =>
    bindV (fieldAddrA 0 v12_3) fun v13_4 =>
    bindV (loadA none v13_4) fun v14_5 =>
    bindV (loadA (some 3) v3_0) fun v15_6 =>
    bindV (call 35 [v14_5, v15_6]) fun v16_8 =>
    bindV (ret v16_8) fun v10_9 =>
    bindV (extractA v10_9 0) fun v17_10 =>
    bindV (extractA v10_9 1) fun v18_11 =>
    bindV (ret v17_10) fun v5_12 =>
    bindV (ret v18_11) fun v6_13 =>
    bindV (fieldAddrA 2 v3_0) fun v19_55 =>
    bindV (loadA none v19_55) fun v20_56 =>
    condA v20_56 (bindV (loadA (some 3) v3_0) fun v21_57 =>
    bindV (ret v5_12) fun v22_58 =>
    bindV (call 36 [v21_57, (.int .u8 16), (.int .i64 4), v22_58]) fun v23_59 =>
    bindV (ret v23_59) fun v4_60 =>
    ret v4_60)
    (bindV (ret v6_13) fun v24_44 =>
    condA v24_44 (bindV (ret v5_12) fun v26_45 =>
    bindV (call 34 [(.int .u8 128), (.int .i64 7), v26_45]) fun v27_46 =>
    bindV (ret v27_46) fun v25_47 =>
    bindV (extractA v25_47 0) fun v28_48 =>
    bindV (extractA v25_47 1) fun v29_49 =>
    bindV (ret v28_48) fun v7_50 =>
    bindV (ret v29_49) fun v8_51 =>
    bindV (ret v7_50) fun v30_52 =>
    bindV (ret v30_52) fun v4_53 =>
    ret v4_53)
    (bindV (loadA (some 3) v3_0) fun v31_19 =>
    bindS fun s_20 =>
    bindV (call 23 [v31_19]) fun v32_21 =>
    bindV (ret v0_in) fun v33_22 =>
    bindV (nilCheckA v33_22) fun v34_23 =>
    bindV (fieldAddrA 0 v34_23) fun v35_24 =>
    bindV (loadA none v35_24) fun v36_25 =>
    thereV [s_20] (loadA none v35_24) v36_25 (
    bindV (nilCheckA v36_25) fun v37_26 =>
    bindV (fieldAddrA 0 v37_26) fun v38_27 =>
    bindV (loadA none v38_27) fun v39_28 =>
    thereV [s_20] (loadA none v38_27) v39_28 (
    bindV (binA Try.prog .leq 3 v32_21 v39_28) fun v40_29 =>
    condA v40_29 (bindV (loadA (some 3) v3_0) fun v41_30 =>
    bindV (ret v5_12) fun v42_31 =>
    bindV (call 36 [v41_30, (.int .u8 64), (.int .i64 6), v42_31]) fun v43_32 =>
    bindV (ret v43_32) fun v9_33 =>
    bindV (ret v0_in) fun v44_34 =>
    bindV (nilCheckA v44_34) fun v45_35 =>
    bindV (fieldAddrA 0 v45_35) fun v46_36 =>
    bindV (loadA none v46_36) fun v47_37 =>
    bindV (loadA (some 3) v3_0) fun v48_38 =>
    bindV (call 37 [v47_37, v48_38]) fun v49_40 =>
    bindV (ret v9_33) fun v50_41 =>
    bindV (ret v50_41) fun v4_42 =>
    ret v4_42)
    (bindV (loadA (some 3) v3_0) fun v51_14 =>
    bindV (ret v5_12) fun v52_15 =>
    bindV (call 36 [v51_14, (.int .u8 0), (.int .i64 4), v52_15]) fun v53_16 =>
    bindV (ret v53_16) fun v4_17 =>
    ret v4_17)))))

theorem R21.eq (call : FuncId → List Value → AM Value) (k : Nat) (v0_in : Value) (v1_in : Value) : funcA Try.prog call k 21 [v0_in, v1_in] = R21.top call k v0_in v1_in := by kernel_rfl

/-! ### 22: (*aqueduct/hpack.context).Bytes (1 arguments) -/
noncomputable def R22.top (call : FuncId → List Value → AM Value) (k : Nat) (v0_in : Value) : AM Value :=
  bindV (ret (.int .i64 0)) fun v2_0 =>
    bindV (ret v0_in) fun v3_8 =>
    bindV (binA Try.prog .eql 73 v3_8 (.pointer none)) fun v4_9 =>
    condA v4_9 (bindV (ret (.int .i64 0)) fun v2_10 =>
    ret v2_10)
    (bindV (ret v0_in) fun v5_1 =>
    bindV (nilCheckA v5_1) fun v6_2 =>
    bindV (fieldAddrA 0 v6_2) fun v7_3 =>
    bindV (loadA none v7_3) fun v8_4 =>
    bindV (call 38 [v8_4]) fun v9_5 =>
    bindV (ret v9_5) fun v2_6 =>
    ret v2_6)

theorem R22.eq (call : FuncId → List Value → AM Value) (k : Nat) (v0_in : Value) : funcA Try.prog call k 22 [v0_in] = R22.top call k v0_in := by kernel_rfl

/-! ### 29: aqueduct/hpack.integer (3 arguments) -/
noncomputable def R29.top (call : FuncId → List Value → AM Value) (k : Nat) (v0_in : Value) (v1_in : Value) (v2_in : Value) : AM Value :=
  bindV (ret (.slice none 0 0)) fun v6_0 =>
    bindV (ret v0_in) fun v10_1 =>
    bindV (ret v1_in) fun v11_2 =>
    bindV (ret v2_in) fun v12_3 =>
    bindV (call 39 [v10_1, v11_2, v12_3]) fun v13_4 =>
    bindV (ret v13_4) fun v9_5 =>
    bindV (extractA v9_5 0) fun v14_6 =>
    bindV (extractA v9_5 1) fun v15_7 =>
    bindV (ret v14_6) fun v7_8 =>
    bindV (ret v15_7) fun v8_9 =>
    bindV (ret v7_8) fun v16_10 =>
    bindV (ret v16_10) fun v6_11 =>
    ret v6_11

theorem R29.eq (call : FuncId → List Value → AM Value) (k : Nat) (v0_in : Value) (v1_in : Value) (v2_in : Value) : funcA Try.prog call k 29 [v0_in, v1_in, v2_in] = R29.top call k v0_in v1_in v2_in := by kernel_rfl

/-! ### 31: aqueduct/hpack.literal (4 arguments) -/
noncomputable def R31.b_42 (call : FuncId → List Value → AM Value) (k : Nat) (v29_16 : Value) (v30_17 : Value) (rec_2_19 : Value → Value → AM Value) (v9_20 : Value) (v31_21 : Value) : AM Value :=
  bindV (binA Try.prog .lss 3 v31_21 v30_17) fun v32_22 =>
    condA v32_22 (bindV (indexAddrA 1 v29_16 v31_21) fun v33_27 =>
    bindV (loadA none v33_27) fun v34_28 =>
    bindV (ret v34_28) fun v12_29 =>
    bindV (ret v12_29) fun v36_30 =>
    bindV (call 42 [v36_30, (.bool true)]) fun v37_31 =>
    bindV (ret v37_31) fun v35_32 =>
    bindV (extractA v35_32 0) fun v38_33 =>
    bindV (extractA v35_32 1) fun v39_34 =>
    bindV (ret v38_33) fun v13_35 =>
    bindV (ret v39_34) fun v14_36 =>
    bindV (ret v9_20) fun v40_37 =>
    bindV (ret v13_35) fun v41_38 =>
    bindV (appendA 5 1 1 v40_37 v41_38) fun v42_39 =>
    bindV (ret v42_39) fun v9_40 =>
    bindV (binA Try.prog .add 3 v31_21 (.int .i64 1)) fun v43_24 =>
    bindV (ret v43_24) fun v31_25 =>
    rec_2_19 v9_40 v31_25)
    (bindV (ret v9_20) fun v44_13 =>
    bindV (ret v44_13) fun v8_14 =>
    ret v8_14)

noncomputable def R31.j_43 (call : FuncId → List Value → AM Value) (k : Nat) (v9_6 : Value) (v10_11 : Value) : AM Value :=
  bindV (ret v10_11) fun v29_16 =>
    bindV (lenA v29_16) fun v30_17 =>
    bindV (ret (.int .i64 0)) fun v31_18 =>
    loop2 (R31.b_42 call k v29_16 v30_17) k v9_6 v31_18

noncomputable def R31.top (call : FuncId → List Value → AM Value) (k : Nat) (v0_in : Value) (v1_in : Value) (v2_in : Value) (v3_in : Value) : AM Value :=
  bindV (boxA 56 v0_in) fun v4_0 =>
    bindV (ret (.slice none 0 0)) fun v8_1 =>
    bindV (ret v1_in) fun v15_2 =>
    bindV (ret v2_in) fun v16_3 =>
    bindV (ret v3_in) fun v17_4 =>
    bindV (call 29 [v15_2, v16_3, v17_4]) fun v18_5 =>
    bindV (ret v18_5) fun v9_6 =>
    bindV (fieldAddrA 1 v4_0) fun v19_7 =>
    bindV (loadA none v19_7) fun v20_8 =>
    bindV (buildSliceA 9 1 1 [(.string ⟨#[]⟩)] [(0, v20_8)]) fun v21_9 =>
    bindV (ret v21_9) fun v10_10 =>
    bindV (ret v3_in) fun v22_44 =>
    bindV (binA Try.prog .eql 3 v22_44 (.int .i64 0)) fun v23_45 =>
    condA v23_45 (bindV (fieldAddrA 0 v4_0) fun v24_46 =>
    bindV (loadA none v24_46) fun v25_47 =>
    bindV (fieldAddrA 1 v4_0) fun v26_48 =>
    bindV (loadA none v26_48) fun v27_49 =>
    bindV (buildSliceA 9 1 2 [(.string ⟨#[]⟩)] [(0, v25_47), (1, v27_49)]) fun v28_50 =>
    bindV (ret v28_50) fun v10_51 =>
    R31.j_43 call k v9_6 v10_51)
    (R31.j_43 call k v9_6 v10_10)

theorem R31.eq (call : FuncId → List Value → AM Value) (k : Nat) (v0_in : Value) (v1_in : Value) (v2_in : Value) (v3_in : Value) : funcA Try.prog call k 31 [v0_in, v1_in, v2_in, v3_in] = R31.top call k v0_in v1_in v2_in v3_in := by kernel_rfl

/-! ### 36: aqueduct/aqueductref06.literal (4 arguments) -/
noncomputable def R36.j_24 (call : FuncId → List Value → AM Value) (k : Nat) (v4_0 : Value) (v9_11 : Value) : AM Value :=
  bindV (fieldAddrA 1 v4_0) fun v34_12 =>
    bindV (loadA none v34_12) fun v35_13 =>
    bindV (call 45 [v35_13, (.bool true)]) fun v36_14 =>
    bindV (ret v36_14) fun v33_15 =>
    bindV (extractA v33_15 0) fun v37_16 =>
    bindV (extractA v33_15 1) fun v38_17 =>
    bindV (ret v37_16) fun v13_18 =>
    bindV (ret v38_17) fun v14_19 =>
    bindV (ret v9_11) fun v39_20 =>
    bindV (ret v13_18) fun v40_21 =>
    bindV (appendA 5 1 1 v39_20 v40_21) fun v41_22 =>
    bindV (ret v41_22) fun v8_23 =>
    ret v8_23

noncomputable def R36.top (call : FuncId → List Value → AM Value) (k : Nat) (v0_in : Value) (v1_in : Value) (v2_in : Value) (v3_in : Value) : AM Value :=
  bindV (boxA 56 v0_in) fun v4_0 =>
    bindV (ret (.slice none 0 0)) fun v8_1 =>
    bindV (ret v1_in) fun v16_2 =>
    bindV (ret v2_in) fun v17_3 =>
    bindV (ret v3_in) fun v18_4 =>
    bindV (call 34 [v16_2, v17_3, v18_4]) fun v19_5 =>
    bindV (ret v19_5) fun v15_6 =>
    bindV (extractA v15_6 0) fun v20_7 =>
    bindV (extractA v15_6 1) fun v21_8 =>
    bindV (ret v20_7) fun v9_9 =>
    bindV (ret v21_8) fun v10_10 =>
    bindV (ret v3_in) fun v22_25 =>
    bindV (binA Try.prog .eql 3 v22_25 (.int .i64 0)) fun v23_26 =>
    condA v23_26 (bindV (fieldAddrA 0 v4_0) fun v25_27 =>
    bindV (loadA none v25_27) fun v26_28 =>
    bindV (call 45 [v26_28, (.bool true)]) fun v27_29 =>
    bindV (ret v27_29) fun v24_30 =>
    bindV (extractA v24_30 0) fun v28_31 =>
    bindV (extractA v24_30 1) fun v29_32 =>
    bindV (ret v28_31) fun v11_33 =>
    bindV (ret v29_32) fun v12_34 =>
    bindV (ret v9_9) fun v30_35 =>
    bindV (ret v11_33) fun v31_36 =>
    bindV (appendA 5 1 1 v30_35 v31_36) fun v32_37 =>
    bindV (ret v32_37) fun v9_38 =>
    R36.j_24 call k v4_0 v9_38)
    (R36.j_24 call k v4_0 v9_9)

theorem R36.eq (call : FuncId → List Value → AM Value) (k : Nat) (v0_in : Value) (v1_in : Value) (v2_in : Value) (v3_in : Value) : funcA Try.prog call k 36 [v0_in, v1_in, v2_in, v3_in] = R36.top call k v0_in v1_in v2_in v3_in := by kernel_rfl

end Go.Proofs.Ytjmafbiklebjcaa
