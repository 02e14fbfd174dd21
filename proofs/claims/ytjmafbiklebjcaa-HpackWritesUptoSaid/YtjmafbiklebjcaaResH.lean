/- What the functions that these laws reach compute, printed by a program of ours and tied to the model by the kernel. -/
import Derived.Test.YtjmafbiklebjcaaEngQ
import Derived.Test.YtjmafbiklebjcaaRows
set_option linter.unusedVariables false
set_option linter.unusedSimpArgs false
namespace Go.Proofs.Ytjmafbiklebjcaa
open Go.Proofs.Ytjmafbiklebjcaa.Eng
/-! ### 47: aqueduct/huff.Length (1 arguments) -/
noncomputable def R47.b_32 (call : FuncId → List Value → AM Value) (k : Nat) (v3_2 : Value) (v8_10 : Value) (v9_11 : Value) (rec_2_13 : Value → Value → AM Value) (v4_14 : Value) (v10_15 : Value) : AM Value :=
  bindV (binA Try.prog .lss 3 v10_15 v9_11) fun v11_16 =>
    condA v11_16 (bindV (indexAddrA 1 v8_10 v10_15) fun v12_21 =>
    bindV (loadA none v12_21) fun v13_22 =>
    bindV (ret v13_22) fun v6_23 =>
    bindV (ret v4_14) fun v14_24 =>
    bindV (ret v6_23) fun v15_25 =>
    bindV (indexArrAddrA 257 2 v3_2 v15_25) fun v16_26 =>
    bindV (fieldAddrA 1 v16_26) fun v17_27 =>
    bindV (loadA none v17_27) fun v18_28 =>
    bindV (binA Try.prog .add 3 v14_24 v18_28) fun v19_29 =>
    bindV (ret v19_29) fun v4_30 =>
    bindV (binA Try.prog .add 3 v10_15 (.int .i64 1)) fun v20_18 =>
    bindV (ret v20_18) fun v10_19 =>
    rec_2_13 v4_30 v10_19)
    (bindV (ret v4_14) fun v21_5 =>
    bindV (binA Try.prog .add 3 v21_5 (.int .i64 7)) fun v22_6 =>
    bindV (binA Try.prog .quo 3 v22_6 (.int .i64 8)) fun v23_7 =>
    bindV (ret v23_7) fun v2_8 =>
    ret v2_8)

noncomputable def R47.top (call : FuncId → List Value → AM Value) (k : Nat) (v0_in : Value) : AM Value :=
  bindV (ret (.int .i64 0)) fun v2_0 =>
    bindV (call 52 []) fun v7_1 =>
    bindV (newA [(.int .u32 0), (.int .i64 0), (.int .u32 0), (.int .i64 0), (.int .u32 0), (.int .i64 0), (.int .u32 0), (.int .i64 0), (.int .u32 0), (.int .i64 0), (.int .u32 0), (.int .i64 0), (.int .u32 0), (.int .i64 0), (.int .u32 0), (.int .i64 0), (.int .u32 0), (.int .i64 0), (.int .u32 0), (.int .i64 0), (.int .u32 0), (.int .i64 0), (.int .u32 0), (.int .i64 0), (.int .u32 0), (.int .i64 0), (.int .u32 0), (.int .i64 0), (.int .u32 0), (.int .i64 0), (.int .u32 0), (.int .i64 0), (.int .u32 0), (.int .i64 0), (.int .u32 0), (.int .i64 0), (.int .u32 0), (.int .i64 0), (.int .u32 0), (.int .i64 0), (.int .u32 0), (.int .i64 0), (.int .u32 0), (.int .i64 0), (.int .u32 0), (.int .i64 0), (.int .u32 0), (.int .i64 0), (.int .u32 0), (.int .i64 0), (.int .u32 0), (.int .i64 0), (.int .u32 0), (.int .i64 0), (.int .u32 0), (.int .i64 0), (.int .u32 0), (.int .i64 0), (.int .u32 0), (.int .i64 0), (.int .u32 0), (.int .i64 0), (.int .u32 0), (.int .i64 0), (.int .u32 0), (.int .i64 0), (.int .u32 0), (.int .i64 0), (.int .u32 0), (.int .i64 0), (.int .u32 0), (.int .i64 0), (.int .u32 0), (.int .i64 0), (.int .u32 0), (.int .i64 0), (.int .u32 0), (.int .i64 0), (.int .u32 0), (.int .i64 0), (.int .u32 0), (.int .i64 0), (.int .u32 0), (.int .i64 0), (.int .u32 0), (.int .i64 0), (.int .u32 0), (.int .i64 0), (.int .u32 0), (.int .i64 0), (.int .u32 0), (.int .i64 0), (.int .u32 0), (.int .i64 0), (.int .u32 0), (.int .i64 0), (.int .u32 0), (.int .i64 0), (.int .u32 0), (.int .i64 0), (.int .u32 0), (.int .i64 0), (.int .u32 0), (.int .i64 0), (.int .u32 0), (.int .i64 0), (.int .u32 0), (.int .i64 0), (.int .u32 0), (.int .i64 0), (.int .u32 0), (.int .i64 0), (.int .u32 0), (.int .i64 0), (.int .u32 0), (.int .i64 0), (.int .u32 0), (.int .i64 0), (.int .u32 0), (.int .i64 0), (.int .u32 0), (.int .i64 0), (.int .u32 0), (.int .i64 0), (.int .u32 0), (.int .i64 0), (.int .u32 0), (.int .i64 0), (.int .u32 0), (.int .i64 0), (.int .u32 0), (.int .i64 0), (.int .u32 0), (.int .i64 0), (.int .u32 0), (.int .i64 0), (.int .u32 0), (.int .i64 0), (.int .u32 0), (.int .i64 0), (.int .u32 0), (.int .i64 0), (.int .u32 0), (.int .i64 0), (.int .u32 0), (.int .i64 0), (.int .u32 0), (.int .i64 0), (.int .u32 0), (.int .i64 0), (.int .u32 0), (.int .i64 0), (.int .u32 0), (.int .i64 0), (.int .u32 0), (.int .i64 0), (.int .u32 0), (.int .i64 0), (.int .u32 0), (.int .i64 0), (.int .u32 0), (.int .i64 0), (.int .u32 0), (.int .i64 0), (.int .u32 0), (.int .i64 0), (.int .u32 0), (.int .i64 0), (.int .u32 0), (.int .i64 0), (.int .u32 0), (.int .i64 0), (.int .u32 0), (.int .i64 0), (.int .u32 0), (.int .i64 0), (.int .u32 0), (.int .i64 0), (.int .u32 0), (.int .i64 0), (.int .u32 0), (.int .i64 0), (.int .u32 0), (.int .i64 0), (.int .u32 0), (.int .i64 0), (.int .u32 0), (.int .i64 0), (.int .u32 0), (.int .i64 0), (.int .u32 0), (.int .i64 0), (.int .u32 0), (.int .i64 0), (.int .u32 0), (.int .i64 0), (.int .u32 0), (.int .i64 0), (.int .u32 0), (.int .i64 0), (.int .u32 0), (.int .i64 0), (.int .u32 0), (.int .i64 0), (.int .u32 0), (.int .i64 0), (.int .u32 0), (.int .i64 0), (.int .u32 0), (.int .i64 0), (.int .u32 0), (.int .i64 0), (.int .u32 0), (.int .i64 0), (.int .u32 0), (.int .i64 0), (.int .u32 0), (.int .i64 0), (.int .u32 0), (.int .i64 0), (.int .u32 0), (.int .i64 0), (.int .u32 0), (.int .i64 0), (.int .u32 0), (.int .i64 0), (.int .u32 0), (.int .i64 0), (.int .u32 0), (.int .i64 0), (.int .u32 0), (.int .i64 0), (.int .u32 0), (.int .i64 0), (.int .u32 0), (.int .i64 0), (.int .u32 0), (.int .i64 0), (.int .u32 0), (.int .i64 0), (.int .u32 0), (.int .i64 0), (.int .u32 0), (.int .i64 0), (.int .u32 0), (.int .i64 0), (.int .u32 0), (.int .i64 0), (.int .u32 0), (.int .i64 0), (.int .u32 0), (.int .i64 0), (.int .u32 0), (.int .i64 0), (.int .u32 0), (.int .i64 0), (.int .u32 0), (.int .i64 0), (.int .u32 0), (.int .i64 0), (.int .u32 0), (.int .i64 0), (.int .u32 0), (.int .i64 0), (.int .u32 0), (.int .i64 0), (.int .u32 0), (.int .i64 0), (.int .u32 0), (.int .i64 0), (.int .u32 0), (.int .i64 0), (.int .u32 0), (.int .i64 0), (.int .u32 0), (.int .i64 0), (.int .u32 0), (.int .i64 0), (.int .u32 0), (.int .i64 0), (.int .u32 0), (.int .i64 0), (.int .u32 0), (.int .i64 0), (.int .u32 0), (.int .i64 0), (.int .u32 0), (.int .i64 0), (.int .u32 0), (.int .i64 0), (.int .u32 0), (.int .i64 0), (.int .u32 0), (.int .i64 0), (.int .u32 0), (.int .i64 0), (.int .u32 0), (.int .i64 0), (.int .u32 0), (.int .i64 0), (.int .u32 0), (.int .i64 0), (.int .u32 0), (.int .i64 0), (.int .u32 0), (.int .i64 0), (.int .u32 0), (.int .i64 0), (.int .u32 0), (.int .i64 0), (.int .u32 0), (.int .i64 0), (.int .u32 0), (.int .i64 0), (.int .u32 0), (.int .i64 0), (.int .u32 0), (.int .i64 0), (.int .u32 0), (.int .i64 0), (.int .u32 0), (.int .i64 0), (.int .u32 0), (.int .i64 0), (.int .u32 0), (.int .i64 0), (.int .u32 0), (.int .i64 0), (.int .u32 0), (.int .i64 0), (.int .u32 0), (.int .i64 0), (.int .u32 0), (.int .i64 0), (.int .u32 0), (.int .i64 0), (.int .u32 0), (.int .i64 0), (.int .u32 0), (.int .i64 0), (.int .u32 0), (.int .i64 0), (.int .u32 0), (.int .i64 0), (.int .u32 0), (.int .i64 0), (.int .u32 0), (.int .i64 0), (.int .u32 0), (.int .i64 0), (.int .u32 0), (.int .i64 0), (.int .u32 0), (.int .i64 0), (.int .u32 0), (.int .i64 0), (.int .u32 0), (.int .i64 0), (.int .u32 0), (.int .i64 0), (.int .u32 0), (.int .i64 0), (.int .u32 0), (.int .i64 0), (.int .u32 0), (.int .i64 0), (.int .u32 0), (.int .i64 0), (.int .u32 0), (.int .i64 0), (.int .u32 0), (.int .i64 0), (.int .u32 0), (.int .i64 0), (.int .u32 0), (.int .i64 0), (.int .u32 0), (.int .i64 0), (.int .u32 0), (.int .i64 0), (.int .u32 0), (.int .i64 0), (.int .u32 0), (.int .i64 0), (.int .u32 0), (.int .i64 0), (.int .u32 0), (.int .i64 0), (.int .u32 0), (.int .i64 0), (.int .u32 0), (.int .i64 0), (.int .u32 0), (.int .i64 0), (.int .u32 0), (.int .i64 0), (.int .u32 0), (.int .i64 0), (.int .u32 0), (.int .i64 0), (.int .u32 0), (.int .i64 0), (.int .u32 0), (.int .i64 0), (.int .u32 0), (.int .i64 0), (.int .u32 0), (.int .i64 0), (.int .u32 0), (.int .i64 0), (.int .u32 0), (.int .i64 0), (.int .u32 0), (.int .i64 0), (.int .u32 0), (.int .i64 0), (.int .u32 0), (.int .i64 0), (.int .u32 0), (.int .i64 0), (.int .u32 0), (.int .i64 0), (.int .u32 0), (.int .i64 0), (.int .u32 0), (.int .i64 0), (.int .u32 0), (.int .i64 0), (.int .u32 0), (.int .i64 0), (.int .u32 0), (.int .i64 0), (.int .u32 0), (.int .i64 0), (.int .u32 0), (.int .i64 0), (.int .u32 0), (.int .i64 0), (.int .u32 0), (.int .i64 0), (.int .u32 0), (.int .i64 0), (.int .u32 0), (.int .i64 0), (.int .u32 0), (.int .i64 0), (.int .u32 0), (.int .i64 0), (.int .u32 0), (.int .i64 0), (.int .u32 0), (.int .i64 0), (.int .u32 0), (.int .i64 0), (.int .u32 0), (.int .i64 0), (.int .u32 0), (.int .i64 0), (.int .u32 0), (.int .i64 0), (.int .u32 0), (.int .i64 0), (.int .u32 0), (.int .i64 0), (.int .u32 0), (.int .i64 0), (.int .u32 0), (.int .i64 0), (.int .u32 0), (.int .i64 0), (.int .u32 0), (.int .i64 0), (.int .u32 0), (.int .i64 0), (.int .u32 0), (.int .i64 0), (.int .u32 0), (.int .i64 0), (.int .u32 0), (.int .i64 0), (.int .u32 0), (.int .i64 0), (.int .u32 0), (.int .i64 0), (.int .u32 0), (.int .i64 0), (.int .u32 0), (.int .i64 0), (.int .u32 0), (.int .i64 0), (.int .u32 0), (.int .i64 0), (.int .u32 0), (.int .i64 0), (.int .u32 0), (.int .i64 0), (.int .u32 0), (.int .i64 0), (.int .u32 0), (.int .i64 0), (.int .u32 0), (.int .i64 0), (.int .u32 0), (.int .i64 0), (.int .u32 0), (.int .i64 0), (.int .u32 0), (.int .i64 0), (.int .u32 0), (.int .i64 0), (.int .u32 0), (.int .i64 0), (.int .u32 0), (.int .i64 0)] 91) fun v3_2 =>
    bindV (storeA 514 v3_2 v7_1) fun _ =>
    bindV (ret (.int .i64 0)) fun v4_3 =>
    bindV (ret v0_in) fun v8_10 =>
    bindV (lenA v8_10) fun v9_11 =>
    bindV (ret (.int .i64 0)) fun v10_12 =>
    loop2 (R47.b_32 call k v3_2 v8_10 v9_11) k v4_3 v10_12

theorem R47.eq (call : FuncId → List Value → AM Value) (k : Nat) (v0_in : Value) : funcA Try.prog call k 47 [v0_in] = R47.top call k v0_in := by kernel_rfl

/-! ### 48: aqueduct/huff.Encode (1 arguments) -/
noncomputable def R48.j_10 (call : FuncId → List Value → AM Value) (k : Nat) (v3_1 : Value) : AM Value :=
  bindV (loadA none v3_1) fun v35_8 =>
    bindV (ret v35_8) fun v2_9 =>
    ret v2_9

noncomputable def R48.b_42 (call : FuncId → List Value → AM Value) (k : Nat) (v12_24 : Value) (v13_25 : Value) (v3_1 : Value) (v4_3 : Value) (v6_5 : Value) (v7_7 : Value) (rec_1_27 : Value → AM Value) (v14_28 : Value) : AM Value :=
  bindV (binA Try.prog .lss 3 v14_28 v13_25) fun v15_29 =>
    condA v15_29 (bindV (indexAddrA 1 v12_24 v14_28) fun v16_33 =>
    bindV (loadA none v16_33) fun v17_34 =>
    bindV (ret v17_34) fun v9_35 =>
    bindV (ret v7_7) fun v18_36 =>
    bindV (ret v9_35) fun v19_37 =>
    bindV (indexArrAddrA 257 2 v4_3 v19_37) fun v20_38 =>
    bindV (loadA (some 2) v20_38) fun v21_39 =>
    bindV (callA call v18_36 [v21_39]) fun v22_40 =>
    bindV (binA Try.prog .add 3 v14_28 (.int .i64 1)) fun v23_30 =>
    bindV (ret v23_30) fun v14_31 =>
    rec_1_27 v14_31)
    (bindV (loadA none v6_5) fun v24_11 =>
    bindV (binA Try.prog .gtr 3 v24_11 (.int .i64 0)) fun v25_12 =>
    condA v25_12 (bindV (ret v7_7) fun v26_13 =>
    bindV (loadA none v6_5) fun v27_14 =>
    bindV (binA Try.prog .sub 3 (.int .i64 8) v27_14) fun v28_15 =>
    bindV (binA Try.prog .shl 88 (.int .u32 1) v28_15) fun v29_16 =>
    bindV (binA Try.prog .sub 88 v29_16 (.int .u32 1)) fun v30_17 =>
    bindV (loadA none v6_5) fun v31_18 =>
    bindV (binA Try.prog .sub 3 (.int .i64 8) v31_18) fun v32_19 =>
    bindV (buildA [(0, 1), (1, 1)] [(.int .u32 0), (.int .i64 0)] [(0, v30_17), (1, v32_19)]) fun v33_20 =>
    bindV (callA call v26_13 [v33_20]) fun v34_22 =>
    R48.j_10 call k v3_1)
    (R48.j_10 call k v3_1))

noncomputable def R48.top (call : FuncId → List Value → AM Value) (k : Nat) (v0_in : Value) : AM Value :=
  bindV (ret (.slice none 0 0)) fun v2_0 =>
    bindV (newA [(.slice none 0 0)] 35) fun v3_1 =>
    bindV (call 52 []) fun v10_2 =>
    bindV (newA [(.int .u32 0), (.int .i64 0), (.int .u32 0), (.int .i64 0), (.int .u32 0), (.int .i64 0), (.int .u32 0), (.int .i64 0), (.int .u32 0), (.int .i64 0), (.int .u32 0), (.int .i64 0), (.int .u32 0), (.int .i64 0), (.int .u32 0), (.int .i64 0), (.int .u32 0), (.int .i64 0), (.int .u32 0), (.int .i64 0), (.int .u32 0), (.int .i64 0), (.int .u32 0), (.int .i64 0), (.int .u32 0), (.int .i64 0), (.int .u32 0), (.int .i64 0), (.int .u32 0), (.int .i64 0), (.int .u32 0), (.int .i64 0), (.int .u32 0), (.int .i64 0), (.int .u32 0), (.int .i64 0), (.int .u32 0), (.int .i64 0), (.int .u32 0), (.int .i64 0), (.int .u32 0), (.int .i64 0), (.int .u32 0), (.int .i64 0), (.int .u32 0), (.int .i64 0), (.int .u32 0), (.int .i64 0), (.int .u32 0), (.int .i64 0), (.int .u32 0), (.int .i64 0), (.int .u32 0), (.int .i64 0), (.int .u32 0), (.int .i64 0), (.int .u32 0), (.int .i64 0), (.int .u32 0), (.int .i64 0), (.int .u32 0), (.int .i64 0), (.int .u32 0), (.int .i64 0), (.int .u32 0), (.int .i64 0), (.int .u32 0), (.int .i64 0), (.int .u32 0), (.int .i64 0), (.int .u32 0), (.int .i64 0), (.int .u32 0), (.int .i64 0), (.int .u32 0), (.int .i64 0), (.int .u32 0), (.int .i64 0), (.int .u32 0), (.int .i64 0), (.int .u32 0), (.int .i64 0), (.int .u32 0), (.int .i64 0), (.int .u32 0), (.int .i64 0), (.int .u32 0), (.int .i64 0), (.int .u32 0), (.int .i64 0), (.int .u32 0), (.int .i64 0), (.int .u32 0), (.int .i64 0), (.int .u32 0), (.int .i64 0), (.int .u32 0), (.int .i64 0), (.int .u32 0), (.int .i64 0), (.int .u32 0), (.int .i64 0), (.int .u32 0), (.int .i64 0), (.int .u32 0), (.int .i64 0), (.int .u32 0), (.int .i64 0), (.int .u32 0), (.int .i64 0), (.int .u32 0), (.int .i64 0), (.int .u32 0), (.int .i64 0), (.int .u32 0), (.int .i64 0), (.int .u32 0), (.int .i64 0), (.int .u32 0), (.int .i64 0), (.int .u32 0), (.int .i64 0), (.int .u32 0), (.int .i64 0), (.int .u32 0), (.int .i64 0), (.int .u32 0), (.int .i64 0), (.int .u32 0), (.int .i64 0), (.int .u32 0), (.int .i64 0), (.int .u32 0), (.int .i64 0), (.int .u32 0), (.int .i64 0), (.int .u32 0), (.int .i64 0), (.int .u32 0), (.int .i64 0), (.int .u32 0), (.int .i64 0), (.int .u32 0), (.int .i64 0), (.int .u32 0), (.int .i64 0), (.int .u32 0), (.int .i64 0), (.int .u32 0), (.int .i64 0), (.int .u32 0), (.int .i64 0), (.int .u32 0), (.int .i64 0), (.int .u32 0), (.int .i64 0), (.int .u32 0), (.int .i64 0), (.int .u32 0), (.int .i64 0), (.int .u32 0), (.int .i64 0), (.int .u32 0), (.int .i64 0), (.int .u32 0), (.int .i64 0), (.int .u32 0), (.int .i64 0), (.int .u32 0), (.int .i64 0), (.int .u32 0), (.int .i64 0), (.int .u32 0), (.int .i64 0), (.int .u32 0), (.int .i64 0), (.int .u32 0), (.int .i64 0), (.int .u32 0), (.int .i64 0), (.int .u32 0), (.int .i64 0), (.int .u32 0), (.int .i64 0), (.int .u32 0), (.int .i64 0), (.int .u32 0), (.int .i64 0), (.int .u32 0), (.int .i64 0), (.int .u32 0), (.int .i64 0), (.int .u32 0), (.int .i64 0), (.int .u32 0), (.int .i64 0), (.int .u32 0), (.int .i64 0), (.int .u32 0), (.int .i64 0), (.int .u32 0), (.int .i64 0), (.int .u32 0), (.int .i64 0), (.int .u32 0), (.int .i64 0), (.int .u32 0), (.int .i64 0), (.int .u32 0), (.int .i64 0), (.int .u32 0), (.int .i64 0), (.int .u32 0), (.int .i64 0), (.int .u32 0), (.int .i64 0), (.int .u32 0), (.int .i64 0), (.int .u32 0), (.int .i64 0), (.int .u32 0), (.int .i64 0), (.int .u32 0), (.int .i64 0), (.int .u32 0), (.int .i64 0), (.int .u32 0), (.int .i64 0), (.int .u32 0), (.int .i64 0), (.int .u32 0), (.int .i64 0), (.int .u32 0), (.int .i64 0), (.int .u32 0), (.int .i64 0), (.int .u32 0), (.int .i64 0), (.int .u32 0), (.int .i64 0), (.int .u32 0), (.int .i64 0), (.int .u32 0), (.int .i64 0), (.int .u32 0), (.int .i64 0), (.int .u32 0), (.int .i64 0), (.int .u32 0), (.int .i64 0), (.int .u32 0), (.int .i64 0), (.int .u32 0), (.int .i64 0), (.int .u32 0), (.int .i64 0), (.int .u32 0), (.int .i64 0), (.int .u32 0), (.int .i64 0), (.int .u32 0), (.int .i64 0), (.int .u32 0), (.int .i64 0), (.int .u32 0), (.int .i64 0), (.int .u32 0), (.int .i64 0), (.int .u32 0), (.int .i64 0), (.int .u32 0), (.int .i64 0), (.int .u32 0), (.int .i64 0), (.int .u32 0), (.int .i64 0), (.int .u32 0), (.int .i64 0), (.int .u32 0), (.int .i64 0), (.int .u32 0), (.int .i64 0), (.int .u32 0), (.int .i64 0), (.int .u32 0), (.int .i64 0), (.int .u32 0), (.int .i64 0), (.int .u32 0), (.int .i64 0), (.int .u32 0), (.int .i64 0), (.int .u32 0), (.int .i64 0), (.int .u32 0), (.int .i64 0), (.int .u32 0), (.int .i64 0), (.int .u32 0), (.int .i64 0), (.int .u32 0), (.int .i64 0), (.int .u32 0), (.int .i64 0), (.int .u32 0), (.int .i64 0), (.int .u32 0), (.int .i64 0), (.int .u32 0), (.int .i64 0), (.int .u32 0), (.int .i64 0), (.int .u32 0), (.int .i64 0), (.int .u32 0), (.int .i64 0), (.int .u32 0), (.int .i64 0), (.int .u32 0), (.int .i64 0), (.int .u32 0), (.int .i64 0), (.int .u32 0), (.int .i64 0), (.int .u32 0), (.int .i64 0), (.int .u32 0), (.int .i64 0), (.int .u32 0), (.int .i64 0), (.int .u32 0), (.int .i64 0), (.int .u32 0), (.int .i64 0), (.int .u32 0), (.int .i64 0), (.int .u32 0), (.int .i64 0), (.int .u32 0), (.int .i64 0), (.int .u32 0), (.int .i64 0), (.int .u32 0), (.int .i64 0), (.int .u32 0), (.int .i64 0), (.int .u32 0), (.int .i64 0), (.int .u32 0), (.int .i64 0), (.int .u32 0), (.int .i64 0), (.int .u32 0), (.int .i64 0), (.int .u32 0), (.int .i64 0), (.int .u32 0), (.int .i64 0), (.int .u32 0), (.int .i64 0), (.int .u32 0), (.int .i64 0), (.int .u32 0), (.int .i64 0), (.int .u32 0), (.int .i64 0), (.int .u32 0), (.int .i64 0), (.int .u32 0), (.int .i64 0), (.int .u32 0), (.int .i64 0), (.int .u32 0), (.int .i64 0), (.int .u32 0), (.int .i64 0), (.int .u32 0), (.int .i64 0), (.int .u32 0), (.int .i64 0), (.int .u32 0), (.int .i64 0), (.int .u32 0), (.int .i64 0), (.int .u32 0), (.int .i64 0), (.int .u32 0), (.int .i64 0), (.int .u32 0), (.int .i64 0), (.int .u32 0), (.int .i64 0), (.int .u32 0), (.int .i64 0), (.int .u32 0), (.int .i64 0), (.int .u32 0), (.int .i64 0), (.int .u32 0), (.int .i64 0), (.int .u32 0), (.int .i64 0), (.int .u32 0), (.int .i64 0), (.int .u32 0), (.int .i64 0), (.int .u32 0), (.int .i64 0), (.int .u32 0), (.int .i64 0), (.int .u32 0), (.int .i64 0), (.int .u32 0), (.int .i64 0), (.int .u32 0), (.int .i64 0), (.int .u32 0), (.int .i64 0), (.int .u32 0), (.int .i64 0), (.int .u32 0), (.int .i64 0), (.int .u32 0), (.int .i64 0), (.int .u32 0), (.int .i64 0), (.int .u32 0), (.int .i64 0), (.int .u32 0), (.int .i64 0), (.int .u32 0), (.int .i64 0), (.int .u32 0), (.int .i64 0), (.int .u32 0), (.int .i64 0), (.int .u32 0), (.int .i64 0), (.int .u32 0), (.int .i64 0), (.int .u32 0), (.int .i64 0), (.int .u32 0), (.int .i64 0), (.int .u32 0), (.int .i64 0), (.int .u32 0), (.int .i64 0), (.int .u32 0), (.int .i64 0), (.int .u32 0), (.int .i64 0), (.int .u32 0), (.int .i64 0), (.int .u32 0), (.int .i64 0), (.int .u32 0), (.int .i64 0), (.int .u32 0), (.int .i64 0), (.int .u32 0), (.int .i64 0), (.int .u32 0), (.int .i64 0), (.int .u32 0), (.int .i64 0), (.int .u32 0), (.int .i64 0), (.int .u32 0), (.int .i64 0), (.int .u32 0), (.int .i64 0), (.int .u32 0), (.int .i64 0), (.int .u32 0), (.int .i64 0), (.int .u32 0), (.int .i64 0), (.int .u32 0), (.int .i64 0), (.int .u32 0), (.int .i64 0), (.int .u32 0), (.int .i64 0), (.int .u32 0), (.int .i64 0), (.int .u32 0), (.int .i64 0), (.int .u32 0), (.int .i64 0), (.int .u32 0), (.int .i64 0), (.int .u32 0), (.int .i64 0), (.int .u32 0), (.int .i64 0), (.int .u32 0), (.int .i64 0), (.int .u32 0), (.int .i64 0), (.int .u32 0), (.int .i64 0), (.int .u32 0), (.int .i64 0), (.int .u32 0), (.int .i64 0), (.int .u32 0), (.int .i64 0), (.int .u32 0), (.int .i64 0), (.int .u32 0), (.int .i64 0), (.int .u32 0), (.int .i64 0)] 91) fun v4_3 =>
    bindV (storeA 514 v4_3 v10_2) fun _ =>
    bindV (newA [(.int .u64 0)] 93) fun v5_4 =>
    bindV (newA [(.int .i64 0)] 3) fun v6_5 =>
    bindV (storeA 1 v5_4 (.int .u64 0)) fun _ =>
    bindV (storeA 1 v6_5 (.int .i64 0)) fun _ =>
    bindV (ret (.func (.func 53) #[] #[v5_4, v6_5, v3_1])) fun v11_6 =>
    bindV (ret v11_6) fun v7_7 =>
    bindV (ret v0_in) fun v12_24 =>
    bindV (lenA v12_24) fun v13_25 =>
    bindV (ret (.int .i64 0)) fun v14_26 =>
    loop1 (R48.b_42 call k v12_24 v13_25 v3_1 v4_3 v6_5 v7_7) k v14_26

theorem R48.eq (call : FuncId → List Value → AM Value) (k : Nat) (v0_in : Value) : funcA Try.prog call k 48 [v0_in] = R48.top call k v0_in := by kernel_rfl

/-! ### 51: aqueduct/aqueductref03.Encode (1 arguments) -/
noncomputable def R51.b_48 (call : FuncId → List Value → AM Value) (k : Nat) (rec_2_10 : Value → Value → AM Value) (v3_3 : Value) (v4_11 : Value) (v5_12 : Value) (rec_2_27 : Value → Value → AM Value) (v6_28 : Value) (v7_29 : Value) : AM Value :=
  bindV (ret v7_29) fun v16_46 =>
    bindV (binA Try.prog .lss 3 v16_46 (.int .i64 8)) fun v17_47 =>
    condA v17_47 (bindV (ret v6_28) fun v20_35 =>
    bindV (binA Try.prog .mul 5 v20_35 (.int .u8 2)) fun v21_36 =>
    bindV (ret v3_3) fun v22_37 =>
    bindV (ret v5_12) fun v23_38 =>
    bindV (ret v7_29) fun v24_39 =>
    bindV (binA Try.prog .add 3 v23_38 v24_39) fun v25_40 =>
    bindV (indexAddrA 1 v22_37 v25_40) fun v26_41 =>
    bindV (loadA none v26_41) fun v27_42 =>
    bindV (binA Try.prog .add 5 v21_36 v27_42) fun v28_43 =>
    bindV (ret v28_43) fun v6_44 =>
    bindV (ret v7_29) fun v18_31 =>
    bindV (binA Try.prog .add 3 v18_31 (.int .i64 1)) fun v19_32 =>
    bindV (ret v19_32) fun v7_33 =>
    rec_2_27 v6_44 v7_33)
    (bindV (ret v4_11) fun v29_20 =>
    bindV (ret v6_28) fun v30_21 =>
    bindV (buildSliceA 5 1 1 [(.int .u8 0)] [(0, v30_21)]) fun v31_22 =>
    bindV (appendA 5 1 1 v29_20 v31_22) fun v32_23 =>
    bindV (ret v32_23) fun v4_24 =>
    bindV (ret v5_12) fun v14_14 =>
    bindV (binA Try.prog .add 3 v14_14 (.int .i64 8)) fun v15_15 =>
    bindV (ret v15_15) fun v5_16 =>
    rec_2_10 v4_24 v5_16)

noncomputable def R51.b_54 (call : FuncId → List Value → AM Value) (k : Nat) (v3_3 : Value) (rec_2_10 : Value → Value → AM Value) (v4_11 : Value) (v5_12 : Value) : AM Value :=
  bindV (ret v5_12) fun v10_50 =>
    bindV (ret v3_3) fun v11_51 =>
    bindV (lenA v11_51) fun v12_52 =>
    bindV (binA Try.prog .lss 3 v10_50 v12_52) fun v13_53 =>
    condA v13_53 (bindV (ret (.int .u8 0)) fun v6_18 =>
    bindV (ret (.int .i64 0)) fun v7_26 =>
    loop2 (R51.b_48 call k rec_2_10 v3_3 v4_11 v5_12) k v6_18 v7_26)
    (bindV (ret v4_11) fun v33_6 =>
    bindV (ret v33_6) fun v2_7 =>
    ret v2_7)

noncomputable def R51.top (call : FuncId → List Value → AM Value) (k : Nat) (v0_in : Value) : AM Value :=
  bindV (ret (.slice none 0 0)) fun v2_0 =>
    bindV (ret v0_in) fun v8_1 =>
    bindV (call 55 [v8_1]) fun v9_2 =>
    bindV (ret v9_2) fun v3_3 =>
    bindV (ret (.slice none 0 0)) fun v4_4 =>
    bindV (ret (.int .i64 0)) fun v5_9 =>
    loop2 (R51.b_54 call k v3_3) k v4_4 v5_9

theorem R51.eq (call : FuncId → List Value → AM Value) (k : Nat) (v0_in : Value) : funcA Try.prog call k 51 [v0_in] = R51.top call k v0_in := by kernel_rfl

/-! ### 52: aqueduct/huff.codes (0 arguments) -/
noncomputable def R52.b_52 (call : FuncId → List Value → AM Value) (k : Nat) (rec_1_10 : Value → AM Value) (v10_11 : Value) (v1_1 : Value) (v27_32 : Value) (v28_33 : Value) (v2_3 : Value) (rec_1_35 : Value → AM Value) (v29_36 : Value) : AM Value :=
  bindV (binA Try.prog .lss 3 v29_36 v28_33) fun v30_37 =>
    condA v30_37 (bindV (indexAddrA 1 v27_32 v29_36) fun v31_41 =>
    bindV (loadA none v31_41) fun v32_42 =>
    bindV (ret v32_42) fun v6_43 =>
    bindV (ret v6_43) fun v33_44 =>
    bindV (loadA (some 2) v2_3) fun v34_45 =>
    bindV (indexArrAddrA 257 2 v1_1 v33_44) fun v35_46 =>
    bindV (storeA 2 v35_46 v34_45) fun _ =>
    bindV (fieldAddrA 0 v2_3) fun v36_47 =>
    bindV (loadA none v36_47) fun v37_48 =>
    bindV (binA Try.prog .add 88 v37_48 (.int .u32 1)) fun v38_49 =>
    bindV (fieldAddrA 0 v2_3) fun v39_50 =>
    bindV (storeA 1 v39_50 v38_49) fun _ =>
    bindV (binA Try.prog .add 3 v29_36 (.int .i64 1)) fun v40_38 =>
    bindV (ret v40_38) fun v29_39 =>
    rec_1_35 v29_39)
    (bindV (binA Try.prog .add 3 v10_11 (.int .i64 1)) fun v41_13 =>
    bindV (ret v41_13) fun v10_14 =>
    rec_1_10 v10_14)

noncomputable def R52.b_54 (call : FuncId → List Value → AM Value) (k : Nat) (v0_0 : Value) (v1_1 : Value) (v2_3 : Value) (v8_7 : Value) (v9_8 : Value) (rec_1_10 : Value → AM Value) (v10_11 : Value) : AM Value :=
  bindV (binA Try.prog .lss 3 v10_11 v9_8) fun v11_12 =>
    condA v11_12 (bindV (indexAddrA 2 v8_7 v10_11) fun v12_16 =>
    bindV (loadA (some 2) v12_16) fun v13_17 =>
    bindV (newA [(.int .i64 0), (.slice none 0 0)] 101) fun v4_18 =>
    bindV (storeA 2 v4_18 v13_17) fun _ =>
    bindV (fieldAddrA 0 v2_3) fun v14_19 =>
    bindV (loadA none v14_19) fun v15_20 =>
    bindV (fieldAddrA 0 v4_18) fun v16_21 =>
    bindV (loadA none v16_21) fun v17_22 =>
    bindV (fieldAddrA 1 v2_3) fun v18_23 =>
    bindV (loadA none v18_23) fun v19_24 =>
    bindV (binA Try.prog .sub 3 v17_22 v19_24) fun v20_25 =>
    bindV (binA Try.prog .shl 88 v15_20 v20_25) fun v21_26 =>
    bindV (fieldAddrA 0 v2_3) fun v22_27 =>
    bindV (storeA 1 v22_27 v21_26) fun _ =>
    bindV (fieldAddrA 0 v4_18) fun v23_28 =>
    bindV (loadA none v23_28) fun v24_29 =>
    bindV (fieldAddrA 1 v2_3) fun v25_30 =>
    bindV (storeA 1 v25_30 v24_29) fun _ =>
    bindV (fieldAddrA 1 v4_18) fun v26_31 =>
    bindV (loadA none v26_31) fun v27_32 =>
    bindV (lenA v27_32) fun v28_33 =>
    bindV (ret (.int .i64 0)) fun v29_34 =>
    loop1 (R52.b_52 call k rec_1_10 v10_11 v1_1 v27_32 v28_33 v2_3) k v29_34)
    (bindV (loadA (some 514) v1_1) fun v42_4 =>
    bindV (storeA 514 v0_0 v42_4) fun _ =>
    bindV (loadA (some 514) v0_0) fun v0_5 =>
    ret v0_5)

noncomputable def R52.top (call : FuncId → List Value → AM Value) (k : Nat) : AM Value :=
  bindV (newA [(.int .u32 0), (.int .i64 0), (.int .u32 0), (.int .i64 0), (.int .u32 0), (.int .i64 0), (.int .u32 0), (.int .i64 0), (.int .u32 0), (.int .i64 0), (.int .u32 0), (.int .i64 0), (.int .u32 0), (.int .i64 0), (.int .u32 0), (.int .i64 0), (.int .u32 0), (.int .i64 0), (.int .u32 0), (.int .i64 0), (.int .u32 0), (.int .i64 0), (.int .u32 0), (.int .i64 0), (.int .u32 0), (.int .i64 0), (.int .u32 0), (.int .i64 0), (.int .u32 0), (.int .i64 0), (.int .u32 0), (.int .i64 0), (.int .u32 0), (.int .i64 0), (.int .u32 0), (.int .i64 0), (.int .u32 0), (.int .i64 0), (.int .u32 0), (.int .i64 0), (.int .u32 0), (.int .i64 0), (.int .u32 0), (.int .i64 0), (.int .u32 0), (.int .i64 0), (.int .u32 0), (.int .i64 0), (.int .u32 0), (.int .i64 0), (.int .u32 0), (.int .i64 0), (.int .u32 0), (.int .i64 0), (.int .u32 0), (.int .i64 0), (.int .u32 0), (.int .i64 0), (.int .u32 0), (.int .i64 0), (.int .u32 0), (.int .i64 0), (.int .u32 0), (.int .i64 0), (.int .u32 0), (.int .i64 0), (.int .u32 0), (.int .i64 0), (.int .u32 0), (.int .i64 0), (.int .u32 0), (.int .i64 0), (.int .u32 0), (.int .i64 0), (.int .u32 0), (.int .i64 0), (.int .u32 0), (.int .i64 0), (.int .u32 0), (.int .i64 0), (.int .u32 0), (.int .i64 0), (.int .u32 0), (.int .i64 0), (.int .u32 0), (.int .i64 0), (.int .u32 0), (.int .i64 0), (.int .u32 0), (.int .i64 0), (.int .u32 0), (.int .i64 0), (.int .u32 0), (.int .i64 0), (.int .u32 0), (.int .i64 0), (.int .u32 0), (.int .i64 0), (.int .u32 0), (.int .i64 0), (.int .u32 0), (.int .i64 0), (.int .u32 0), (.int .i64 0), (.int .u32 0), (.int .i64 0), (.int .u32 0), (.int .i64 0), (.int .u32 0), (.int .i64 0), (.int .u32 0), (.int .i64 0), (.int .u32 0), (.int .i64 0), (.int .u32 0), (.int .i64 0), (.int .u32 0), (.int .i64 0), (.int .u32 0), (.int .i64 0), (.int .u32 0), (.int .i64 0), (.int .u32 0), (.int .i64 0), (.int .u32 0), (.int .i64 0), (.int .u32 0), (.int .i64 0), (.int .u32 0), (.int .i64 0), (.int .u32 0), (.int .i64 0), (.int .u32 0), (.int .i64 0), (.int .u32 0), (.int .i64 0), (.int .u32 0), (.int .i64 0), (.int .u32 0), (.int .i64 0), (.int .u32 0), (.int .i64 0), (.int .u32 0), (.int .i64 0), (.int .u32 0), (.int .i64 0), (.int .u32 0), (.int .i64 0), (.int .u32 0), (.int .i64 0), (.int .u32 0), (.int .i64 0), (.int .u32 0), (.int .i64 0), (.int .u32 0), (.int .i64 0), (.int .u32 0), (.int .i64 0), (.int .u32 0), (.int .i64 0), (.int .u32 0), (.int .i64 0), (.int .u32 0), (.int .i64 0), (.int .u32 0), (.int .i64 0), (.int .u32 0), (.int .i64 0), (.int .u32 0), (.int .i64 0), (.int .u32 0), (.int .i64 0), (.int .u32 0), (.int .i64 0), (.int .u32 0), (.int .i64 0), (.int .u32 0), (.int .i64 0), (.int .u32 0), (.int .i64 0), (.int .u32 0), (.int .i64 0), (.int .u32 0), (.int .i64 0), (.int .u32 0), (.int .i64 0), (.int .u32 0), (.int .i64 0), (.int .u32 0), (.int .i64 0), (.int .u32 0), (.int .i64 0), (.int .u32 0), (.int .i64 0), (.int .u32 0), (.int .i64 0), (.int .u32 0), (.int .i64 0), (.int .u32 0), (.int .i64 0), (.int .u32 0), (.int .i64 0), (.int .u32 0), (.int .i64 0), (.int .u32 0), (.int .i64 0), (.int .u32 0), (.int .i64 0), (.int .u32 0), (.int .i64 0), (.int .u32 0), (.int .i64 0), (.int .u32 0), (.int .i64 0), (.int .u32 0), (.int .i64 0), (.int .u32 0), (.int .i64 0), (.int .u32 0), (.int .i64 0), (.int .u32 0), (.int .i64 0), (.int .u32 0), (.int .i64 0), (.int .u32 0), (.int .i64 0), (.int .u32 0), (.int .i64 0), (.int .u32 0), (.int .i64 0), (.int .u32 0), (.int .i64 0), (.int .u32 0), (.int .i64 0), (.int .u32 0), (.int .i64 0), (.int .u32 0), (.int .i64 0), (.int .u32 0), (.int .i64 0), (.int .u32 0), (.int .i64 0), (.int .u32 0), (.int .i64 0), (.int .u32 0), (.int .i64 0), (.int .u32 0), (.int .i64 0), (.int .u32 0), (.int .i64 0), (.int .u32 0), (.int .i64 0), (.int .u32 0), (.int .i64 0), (.int .u32 0), (.int .i64 0), (.int .u32 0), (.int .i64 0), (.int .u32 0), (.int .i64 0), (.int .u32 0), (.int .i64 0), (.int .u32 0), (.int .i64 0), (.int .u32 0), (.int .i64 0), (.int .u32 0), (.int .i64 0), (.int .u32 0), (.int .i64 0), (.int .u32 0), (.int .i64 0), (.int .u32 0), (.int .i64 0), (.int .u32 0), (.int .i64 0), (.int .u32 0), (.int .i64 0), (.int .u32 0), (.int .i64 0), (.int .u32 0), (.int .i64 0), (.int .u32 0), (.int .i64 0), (.int .u32 0), (.int .i64 0), (.int .u32 0), (.int .i64 0), (.int .u32 0), (.int .i64 0), (.int .u32 0), (.int .i64 0), (.int .u32 0), (.int .i64 0), (.int .u32 0), (.int .i64 0), (.int .u32 0), (.int .i64 0), (.int .u32 0), (.int .i64 0), (.int .u32 0), (.int .i64 0), (.int .u32 0), (.int .i64 0), (.int .u32 0), (.int .i64 0), (.int .u32 0), (.int .i64 0), (.int .u32 0), (.int .i64 0), (.int .u32 0), (.int .i64 0), (.int .u32 0), (.int .i64 0), (.int .u32 0), (.int .i64 0), (.int .u32 0), (.int .i64 0), (.int .u32 0), (.int .i64 0), (.int .u32 0), (.int .i64 0), (.int .u32 0), (.int .i64 0), (.int .u32 0), (.int .i64 0), (.int .u32 0), (.int .i64 0), (.int .u32 0), (.int .i64 0), (.int .u32 0), (.int .i64 0), (.int .u32 0), (.int .i64 0), (.int .u32 0), (.int .i64 0), (.int .u32 0), (.int .i64 0), (.int .u32 0), (.int .i64 0), (.int .u32 0), (.int .i64 0), (.int .u32 0), (.int .i64 0), (.int .u32 0), (.int .i64 0), (.int .u32 0), (.int .i64 0), (.int .u32 0), (.int .i64 0), (.int .u32 0), (.int .i64 0), (.int .u32 0), (.int .i64 0), (.int .u32 0), (.int .i64 0), (.int .u32 0), (.int .i64 0), (.int .u32 0), (.int .i64 0), (.int .u32 0), (.int .i64 0), (.int .u32 0), (.int .i64 0), (.int .u32 0), (.int .i64 0), (.int .u32 0), (.int .i64 0), (.int .u32 0), (.int .i64 0), (.int .u32 0), (.int .i64 0), (.int .u32 0), (.int .i64 0), (.int .u32 0), (.int .i64 0), (.int .u32 0), (.int .i64 0), (.int .u32 0), (.int .i64 0), (.int .u32 0), (.int .i64 0), (.int .u32 0), (.int .i64 0), (.int .u32 0), (.int .i64 0), (.int .u32 0), (.int .i64 0), (.int .u32 0), (.int .i64 0), (.int .u32 0), (.int .i64 0), (.int .u32 0), (.int .i64 0), (.int .u32 0), (.int .i64 0), (.int .u32 0), (.int .i64 0), (.int .u32 0), (.int .i64 0), (.int .u32 0), (.int .i64 0), (.int .u32 0), (.int .i64 0), (.int .u32 0), (.int .i64 0), (.int .u32 0), (.int .i64 0), (.int .u32 0), (.int .i64 0), (.int .u32 0), (.int .i64 0), (.int .u32 0), (.int .i64 0), (.int .u32 0), (.int .i64 0), (.int .u32 0), (.int .i64 0), (.int .u32 0), (.int .i64 0), (.int .u32 0), (.int .i64 0), (.int .u32 0), (.int .i64 0), (.int .u32 0), (.int .i64 0), (.int .u32 0), (.int .i64 0), (.int .u32 0), (.int .i64 0), (.int .u32 0), (.int .i64 0), (.int .u32 0), (.int .i64 0), (.int .u32 0), (.int .i64 0), (.int .u32 0), (.int .i64 0), (.int .u32 0), (.int .i64 0), (.int .u32 0), (.int .i64 0), (.int .u32 0), (.int .i64 0), (.int .u32 0), (.int .i64 0), (.int .u32 0), (.int .i64 0), (.int .u32 0), (.int .i64 0), (.int .u32 0), (.int .i64 0), (.int .u32 0), (.int .i64 0), (.int .u32 0), (.int .i64 0), (.int .u32 0), (.int .i64 0), (.int .u32 0), (.int .i64 0), (.int .u32 0), (.int .i64 0), (.int .u32 0), (.int .i64 0), (.int .u32 0), (.int .i64 0), (.int .u32 0), (.int .i64 0), (.int .u32 0), (.int .i64 0), (.int .u32 0), (.int .i64 0), (.int .u32 0), (.int .i64 0), (.int .u32 0), (.int .i64 0), (.int .u32 0), (.int .i64 0), (.int .u32 0), (.int .i64 0), (.int .u32 0), (.int .i64 0), (.int .u32 0), (.int .i64 0), (.int .u32 0), (.int .i64 0), (.int .u32 0), (.int .i64 0), (.int .u32 0), (.int .i64 0), (.int .u32 0), (.int .i64 0), (.int .u32 0), (.int .i64 0), (.int .u32 0), (.int .i64 0), (.int .u32 0), (.int .i64 0), (.int .u32 0), (.int .i64 0), (.int .u32 0), (.int .i64 0), (.int .u32 0), (.int .i64 0), (.int .u32 0), (.int .i64 0), (.int .u32 0), (.int .i64 0), (.int .u32 0), (.int .i64 0), (.int .u32 0), (.int .i64 0), (.int .u32 0), (.int .i64 0)] 91) fun v0_0 =>
    bindV (newA [(.int .u32 0), (.int .i64 0), (.int .u32 0), (.int .i64 0), (.int .u32 0), (.int .i64 0), (.int .u32 0), (.int .i64 0), (.int .u32 0), (.int .i64 0), (.int .u32 0), (.int .i64 0), (.int .u32 0), (.int .i64 0), (.int .u32 0), (.int .i64 0), (.int .u32 0), (.int .i64 0), (.int .u32 0), (.int .i64 0), (.int .u32 0), (.int .i64 0), (.int .u32 0), (.int .i64 0), (.int .u32 0), (.int .i64 0), (.int .u32 0), (.int .i64 0), (.int .u32 0), (.int .i64 0), (.int .u32 0), (.int .i64 0), (.int .u32 0), (.int .i64 0), (.int .u32 0), (.int .i64 0), (.int .u32 0), (.int .i64 0), (.int .u32 0), (.int .i64 0), (.int .u32 0), (.int .i64 0), (.int .u32 0), (.int .i64 0), (.int .u32 0), (.int .i64 0), (.int .u32 0), (.int .i64 0), (.int .u32 0), (.int .i64 0), (.int .u32 0), (.int .i64 0), (.int .u32 0), (.int .i64 0), (.int .u32 0), (.int .i64 0), (.int .u32 0), (.int .i64 0), (.int .u32 0), (.int .i64 0), (.int .u32 0), (.int .i64 0), (.int .u32 0), (.int .i64 0), (.int .u32 0), (.int .i64 0), (.int .u32 0), (.int .i64 0), (.int .u32 0), (.int .i64 0), (.int .u32 0), (.int .i64 0), (.int .u32 0), (.int .i64 0), (.int .u32 0), (.int .i64 0), (.int .u32 0), (.int .i64 0), (.int .u32 0), (.int .i64 0), (.int .u32 0), (.int .i64 0), (.int .u32 0), (.int .i64 0), (.int .u32 0), (.int .i64 0), (.int .u32 0), (.int .i64 0), (.int .u32 0), (.int .i64 0), (.int .u32 0), (.int .i64 0), (.int .u32 0), (.int .i64 0), (.int .u32 0), (.int .i64 0), (.int .u32 0), (.int .i64 0), (.int .u32 0), (.int .i64 0), (.int .u32 0), (.int .i64 0), (.int .u32 0), (.int .i64 0), (.int .u32 0), (.int .i64 0), (.int .u32 0), (.int .i64 0), (.int .u32 0), (.int .i64 0), (.int .u32 0), (.int .i64 0), (.int .u32 0), (.int .i64 0), (.int .u32 0), (.int .i64 0), (.int .u32 0), (.int .i64 0), (.int .u32 0), (.int .i64 0), (.int .u32 0), (.int .i64 0), (.int .u32 0), (.int .i64 0), (.int .u32 0), (.int .i64 0), (.int .u32 0), (.int .i64 0), (.int .u32 0), (.int .i64 0), (.int .u32 0), (.int .i64 0), (.int .u32 0), (.int .i64 0), (.int .u32 0), (.int .i64 0), (.int .u32 0), (.int .i64 0), (.int .u32 0), (.int .i64 0), (.int .u32 0), (.int .i64 0), (.int .u32 0), (.int .i64 0), (.int .u32 0), (.int .i64 0), (.int .u32 0), (.int .i64 0), (.int .u32 0), (.int .i64 0), (.int .u32 0), (.int .i64 0), (.int .u32 0), (.int .i64 0), (.int .u32 0), (.int .i64 0), (.int .u32 0), (.int .i64 0), (.int .u32 0), (.int .i64 0), (.int .u32 0), (.int .i64 0), (.int .u32 0), (.int .i64 0), (.int .u32 0), (.int .i64 0), (.int .u32 0), (.int .i64 0), (.int .u32 0), (.int .i64 0), (.int .u32 0), (.int .i64 0), (.int .u32 0), (.int .i64 0), (.int .u32 0), (.int .i64 0), (.int .u32 0), (.int .i64 0), (.int .u32 0), (.int .i64 0), (.int .u32 0), (.int .i64 0), (.int .u32 0), (.int .i64 0), (.int .u32 0), (.int .i64 0), (.int .u32 0), (.int .i64 0), (.int .u32 0), (.int .i64 0), (.int .u32 0), (.int .i64 0), (.int .u32 0), (.int .i64 0), (.int .u32 0), (.int .i64 0), (.int .u32 0), (.int .i64 0), (.int .u32 0), (.int .i64 0), (.int .u32 0), (.int .i64 0), (.int .u32 0), (.int .i64 0), (.int .u32 0), (.int .i64 0), (.int .u32 0), (.int .i64 0), (.int .u32 0), (.int .i64 0), (.int .u32 0), (.int .i64 0), (.int .u32 0), (.int .i64 0), (.int .u32 0), (.int .i64 0), (.int .u32 0), (.int .i64 0), (.int .u32 0), (.int .i64 0), (.int .u32 0), (.int .i64 0), (.int .u32 0), (.int .i64 0), (.int .u32 0), (.int .i64 0), (.int .u32 0), (.int .i64 0), (.int .u32 0), (.int .i64 0), (.int .u32 0), (.int .i64 0), (.int .u32 0), (.int .i64 0), (.int .u32 0), (.int .i64 0), (.int .u32 0), (.int .i64 0), (.int .u32 0), (.int .i64 0), (.int .u32 0), (.int .i64 0), (.int .u32 0), (.int .i64 0), (.int .u32 0), (.int .i64 0), (.int .u32 0), (.int .i64 0), (.int .u32 0), (.int .i64 0), (.int .u32 0), (.int .i64 0), (.int .u32 0), (.int .i64 0), (.int .u32 0), (.int .i64 0), (.int .u32 0), (.int .i64 0), (.int .u32 0), (.int .i64 0), (.int .u32 0), (.int .i64 0), (.int .u32 0), (.int .i64 0), (.int .u32 0), (.int .i64 0), (.int .u32 0), (.int .i64 0), (.int .u32 0), (.int .i64 0), (.int .u32 0), (.int .i64 0), (.int .u32 0), (.int .i64 0), (.int .u32 0), (.int .i64 0), (.int .u32 0), (.int .i64 0), (.int .u32 0), (.int .i64 0), (.int .u32 0), (.int .i64 0), (.int .u32 0), (.int .i64 0), (.int .u32 0), (.int .i64 0), (.int .u32 0), (.int .i64 0), (.int .u32 0), (.int .i64 0), (.int .u32 0), (.int .i64 0), (.int .u32 0), (.int .i64 0), (.int .u32 0), (.int .i64 0), (.int .u32 0), (.int .i64 0), (.int .u32 0), (.int .i64 0), (.int .u32 0), (.int .i64 0), (.int .u32 0), (.int .i64 0), (.int .u32 0), (.int .i64 0), (.int .u32 0), (.int .i64 0), (.int .u32 0), (.int .i64 0), (.int .u32 0), (.int .i64 0), (.int .u32 0), (.int .i64 0), (.int .u32 0), (.int .i64 0), (.int .u32 0), (.int .i64 0), (.int .u32 0), (.int .i64 0), (.int .u32 0), (.int .i64 0), (.int .u32 0), (.int .i64 0), (.int .u32 0), (.int .i64 0), (.int .u32 0), (.int .i64 0), (.int .u32 0), (.int .i64 0), (.int .u32 0), (.int .i64 0), (.int .u32 0), (.int .i64 0), (.int .u32 0), (.int .i64 0), (.int .u32 0), (.int .i64 0), (.int .u32 0), (.int .i64 0), (.int .u32 0), (.int .i64 0), (.int .u32 0), (.int .i64 0), (.int .u32 0), (.int .i64 0), (.int .u32 0), (.int .i64 0), (.int .u32 0), (.int .i64 0), (.int .u32 0), (.int .i64 0), (.int .u32 0), (.int .i64 0), (.int .u32 0), (.int .i64 0), (.int .u32 0), (.int .i64 0), (.int .u32 0), (.int .i64 0), (.int .u32 0), (.int .i64 0), (.int .u32 0), (.int .i64 0), (.int .u32 0), (.int .i64 0), (.int .u32 0), (.int .i64 0), (.int .u32 0), (.int .i64 0), (.int .u32 0), (.int .i64 0), (.int .u32 0), (.int .i64 0), (.int .u32 0), (.int .i64 0), (.int .u32 0), (.int .i64 0), (.int .u32 0), (.int .i64 0), (.int .u32 0), (.int .i64 0), (.int .u32 0), (.int .i64 0), (.int .u32 0), (.int .i64 0), (.int .u32 0), (.int .i64 0), (.int .u32 0), (.int .i64 0), (.int .u32 0), (.int .i64 0), (.int .u32 0), (.int .i64 0), (.int .u32 0), (.int .i64 0), (.int .u32 0), (.int .i64 0), (.int .u32 0), (.int .i64 0), (.int .u32 0), (.int .i64 0), (.int .u32 0), (.int .i64 0), (.int .u32 0), (.int .i64 0), (.int .u32 0), (.int .i64 0), (.int .u32 0), (.int .i64 0), (.int .u32 0), (.int .i64 0), (.int .u32 0), (.int .i64 0), (.int .u32 0), (.int .i64 0), (.int .u32 0), (.int .i64 0), (.int .u32 0), (.int .i64 0), (.int .u32 0), (.int .i64 0), (.int .u32 0), (.int .i64 0), (.int .u32 0), (.int .i64 0), (.int .u32 0), (.int .i64 0), (.int .u32 0), (.int .i64 0), (.int .u32 0), (.int .i64 0), (.int .u32 0), (.int .i64 0), (.int .u32 0), (.int .i64 0), (.int .u32 0), (.int .i64 0), (.int .u32 0), (.int .i64 0), (.int .u32 0), (.int .i64 0), (.int .u32 0), (.int .i64 0), (.int .u32 0), (.int .i64 0), (.int .u32 0), (.int .i64 0), (.int .u32 0), (.int .i64 0), (.int .u32 0), (.int .i64 0), (.int .u32 0), (.int .i64 0), (.int .u32 0), (.int .i64 0), (.int .u32 0), (.int .i64 0), (.int .u32 0), (.int .i64 0), (.int .u32 0), (.int .i64 0), (.int .u32 0), (.int .i64 0), (.int .u32 0), (.int .i64 0), (.int .u32 0), (.int .i64 0), (.int .u32 0), (.int .i64 0), (.int .u32 0), (.int .i64 0), (.int .u32 0), (.int .i64 0), (.int .u32 0), (.int .i64 0), (.int .u32 0), (.int .i64 0), (.int .u32 0), (.int .i64 0), (.int .u32 0), (.int .i64 0), (.int .u32 0), (.int .i64 0), (.int .u32 0), (.int .i64 0), (.int .u32 0), (.int .i64 0), (.int .u32 0), (.int .i64 0), (.int .u32 0), (.int .i64 0), (.int .u32 0), (.int .i64 0), (.int .u32 0), (.int .i64 0), (.int .u32 0), (.int .i64 0), (.int .u32 0), (.int .i64 0), (.int .u32 0), (.int .i64 0), (.int .u32 0), (.int .i64 0), (.int .u32 0), (.int .i64 0), (.int .u32 0), (.int .i64 0), (.int .u32 0), (.int .i64 0), (.int .u32 0), (.int .i64 0), (.int .u32 0), (.int .i64 0)] 91) fun v1_1 =>
    bindV (buildA [(0, 1), (1, 1)] [(.int .u32 0), (.int .i64 0)] []) fun v7_2 =>
    bindV (newA [(.int .u32 0), (.int .i64 0)] 90) fun v2_3 =>
    bindV (storeA 2 v2_3 v7_2) fun _ =>
    bindV (call 56 []) fun v8_7 =>
    bindV (lenA v8_7) fun v9_8 =>
    bindV (ret (.int .i64 0)) fun v10_9 =>
    loop1 (R52.b_54 call k v0_0 v1_1 v2_3 v8_7 v9_8) k v10_9

theorem R52.eq (call : FuncId → List Value → AM Value) (k : Nat) : funcA Try.prog call k 52 [] = R52.top call k := by kernel_rfl

/-! ### 53: aqueduct/huff.Encode$1 (4 arguments) -/
noncomputable def R53.b_33 (call : FuncId → List Value → AM Value) (k : Nat) (v1_in : Value) (v2_in : Value) (v3_in : Value) (rec_0_15 : AM Value) : AM Value :=
  bindV (loadA none v2_in) fun v17_31 =>
    bindV (binA Try.prog .geq 3 v17_31 (.int .i64 8)) fun v18_32 =>
    condA v18_32 (bindV (loadA none v3_in) fun v21_19 =>
    bindV (loadA none v1_in) fun v22_20 =>
    bindV (loadA none v2_in) fun v23_21 =>
    bindV (binA Try.prog .sub 3 v23_21 (.int .i64 8)) fun v24_22 =>
    bindV (binA Try.prog .shr 93 v22_20 v24_22) fun v25_23 =>
    bindV (convIntA .u8 v25_23) fun v26_24 =>
    bindV (buildSliceA 5 1 1 [(.int .u8 0)] [(0, v26_24)]) fun v27_26 =>
    hereV [((loadA none v3_in : AM Value), (v21_19 : Value))] (
    bindV (appendA 5 1 1 v21_19 v27_26) fun v28_28 =>
    bindV (storeA 1 v3_in v28_28) fun _ =>
    bindV (loadA none v2_in) fun v19_16 =>
    bindV (binA Try.prog .sub 3 v19_16 (.int .i64 8)) fun v20_17 =>
    bindV (storeA 1 v2_in v20_17) fun _ =>
    rec_0_15))
    (ret (.tuple #[]))

noncomputable def R53.top (call : FuncId → List Value → AM Value) (k : Nat) (v0_in : Value) (v1_in : Value) (v2_in : Value) (v3_in : Value) : AM Value :=
  bindV (boxA 90 v0_in) fun v4_0 =>
    bindV (loadA none v1_in) fun v5_1 =>
    bindV (fieldAddrA 1 v4_0) fun v6_2 =>
    bindV (loadA none v6_2) fun v7_3 =>
    bindV (binA Try.prog .shl 93 v5_1 v7_3) fun v8_4 =>
    bindV (fieldAddrA 0 v4_0) fun v9_5 =>
    bindV (loadA none v9_5) fun v10_6 =>
    bindV (convIntA .u64 v10_6) fun v11_7 =>
    bindV (binA Try.prog .or 93 v8_4 v11_7) fun v12_8 =>
    bindV (loadA none v2_in) fun v13_9 =>
    bindV (fieldAddrA 1 v4_0) fun v14_10 =>
    bindV (loadA none v14_10) fun v15_11 =>
    bindV (binA Try.prog .add 3 v13_9 v15_11) fun v16_12 =>
    bindV (storeA 1 v1_in v12_8) fun _ =>
    hereV [((loadA none v14_10 : AM Value), (v15_11 : Value)), ((loadA none v2_in : AM Value), (v13_9 : Value))] (
    bindV (storeA 1 v2_in v16_12) fun _ =>
    loop0 (R53.b_33 call k v1_in v2_in v3_in) k)

theorem R53.eq (call : FuncId → List Value → AM Value) (k : Nat) (v0_in : Value) (v1_in : Value) (v2_in : Value) (v3_in : Value) : funcA Try.prog call k 53 [v0_in, v1_in, v2_in, v3_in] = R53.top call k v0_in v1_in v2_in v3_in := by kernel_rfl

/-! ### 55: aqueduct/aqueductref03.bits (1 arguments) -/
noncomputable def R55.b_20 (call : FuncId → List Value → AM Value) (k : Nat) (rec_1_9 : Value → AM Value) (v5_10 : Value) : AM Value :=
  bindV (ret v5_10) fun v53_16 =>
    bindV (lenA v53_16) fun v54_17 =>
    bindV (binA Try.prog .rem 3 v54_17 (.int .i64 8)) fun v55_18 =>
    bindV (binA Try.prog .neq 3 v55_18 (.int .i64 0)) fun v56_19 =>
    condA v56_19 (bindV (ret v5_10) fun v57_11 =>
    bindV (buildSliceA 5 1 1 [(.int .u8 0)] [(0, (.int .u8 1))]) fun v58_12 =>
    bindV (appendA 5 1 1 v57_11 v58_12) fun v59_13 =>
    bindV (ret v59_13) fun v5_14 =>
    rec_1_9 v5_14)
    (bindV (ret v5_10) fun v60_6 =>
    bindV (ret v60_6) fun v2_7 =>
    ret v2_7)

noncomputable def R55.b_64 (call : FuncId → List Value → AM Value) (k : Nat) (rec_2_23 : Value → Value → AM Value) (v3_1 : Value) (v6_25 : Value) (v7_35 : Value) (rec_2_41 : Value → Value → AM Value) (v5_42 : Value) (v8_43 : Value) : AM Value :=
  bindV (ret v8_43) fun v38_62 =>
    bindV (binA Try.prog .geq 3 v38_62 (.int .i64 0)) fun v39_63 =>
    condA v39_63 (bindV (ret v5_42) fun v42_49 =>
    bindV (ret v7_35) fun v43_50 =>
    bindV (indexArrAddrA 256 1 v3_1 v43_50) fun v44_51 =>
    bindV (loadA none v44_51) fun v45_52 =>
    bindV (ret v8_43) fun v46_53 =>
    bindV (convIntA .u64 v46_53) fun v47_54 =>
    bindV (binA Try.prog .shr 88 v45_52 v47_54) fun v48_55 =>
    bindV (binA Try.prog .rem 88 v48_55 (.int .u32 2)) fun v49_56 =>
    bindV (convIntA .u8 v49_56) fun v50_57 =>
    bindV (buildSliceA 5 1 1 [(.int .u8 0)] [(0, v50_57)]) fun v51_58 =>
    bindV (appendA 5 1 1 v42_49 v51_58) fun v52_59 =>
    bindV (ret v52_59) fun v5_60 =>
    bindV (ret v8_43) fun v40_45 =>
    bindV (binA Try.prog .sub 3 v40_45 (.int .i64 1)) fun v41_46 =>
    bindV (ret v41_46) fun v8_47 =>
    rec_2_41 v5_60 v8_47)
    (bindV (ret v6_25) fun v13_27 =>
    bindV (binA Try.prog .add 3 v13_27 (.int .i64 1)) fun v14_28 =>
    bindV (ret v14_28) fun v6_29 =>
    rec_2_23 v5_42 v6_29)

noncomputable def R55.j_65 (call : FuncId → List Value → AM Value) (k : Nat) (rec_2_23 : Value → Value → AM Value) (v3_1 : Value) (v4_2 : Value) (v5_24 : Value) (v6_25 : Value) (v7_35 : Value) : AM Value :=
  bindV (ret v7_35) fun v34_36 =>
    bindV (indexArrAddrA 256 1 v4_2 v34_36) fun v35_37 =>
    bindV (loadA none v35_37) fun v36_38 =>
    bindV (binA Try.prog .sub 3 v36_38 (.int .i64 1)) fun v37_39 =>
    bindV (ret v37_39) fun v8_40 =>
    loop2 (R55.b_64 call k rec_2_23 v3_1 v6_25 v7_35) k v5_24 v8_40

noncomputable def R55.b_86 (call : FuncId → List Value → AM Value) (k : Nat) (v0_in : Value) (v3_1 : Value) (v4_2 : Value) (rec_2_23 : Value → Value → AM Value) (v5_24 : Value) (v6_25 : Value) : AM Value :=
  bindV (ret v6_25) fun v9_82 =>
    bindV (ret v0_in) fun v10_83 =>
    bindV (lenA v10_83) fun v11_84 =>
    bindV (binA Try.prog .lss 3 v9_82 v11_84) fun v12_85 =>
    condA v12_85 (bindV (ret v0_in) fun v15_31 =>
    bindV (ret v6_25) fun v16_32 =>
    bindV (indexAddrA 1 v15_31 v16_32) fun v17_33 =>
    bindV (loadA none v17_33) fun v18_34 =>
    bindV (ret v18_34) fun v7_35 =>
    bindV (ret v7_35) fun v19_66 =>
    bindV (indexArrAddrA 256 1 v4_2 v19_66) fun v20_67 =>
    bindV (loadA none v20_67) fun v21_68 =>
    bindV (binA Try.prog .eql 3 v21_68 (.int .i64 0)) fun v22_69 =>
    condA v22_69 (bindV (ret v7_35) fun v24_70 =>
    bindV (ret v7_35) fun v25_71 =>
    bindV (ret v7_35) fun v26_72 =>
    bindV (convIntA .i64 v26_72) fun v27_73 =>
    bindV (call 57 [v27_73]) fun v28_74 =>
    bindV (ret v28_74) fun v23_75 =>
    bindV (extractA v23_75 0) fun v29_76 =>
    bindV (extractA v23_75 1) fun v30_77 =>
    bindV (extractA v23_75 2) fun v31_78 =>
    bindV (indexArrAddrA 256 1 v3_1 v24_70) fun v32_79 =>
    bindV (storeA 1 v32_79 v29_76) fun _ =>
    bindV (indexArrAddrA 256 1 v4_2 v25_71) fun v33_80 =>
    bindV (storeA 1 v33_80 v30_77) fun _ =>
    R55.j_65 call k rec_2_23 v3_1 v4_2 v5_24 v6_25 v7_35)
    (R55.j_65 call k rec_2_23 v3_1 v4_2 v5_24 v6_25 v7_35))
    (loop1 (R55.b_20 call k) k v5_24)

noncomputable def R55.top (call : FuncId → List Value → AM Value) (k : Nat) (v0_in : Value) : AM Value :=
  bindV (ret (.slice none 0 0)) fun v2_0 =>
    bindV (newA [(.int .u32 0), (.int .u32 0), (.int .u32 0), (.int .u32 0), (.int .u32 0), (.int .u32 0), (.int .u32 0), (.int .u32 0), (.int .u32 0), (.int .u32 0), (.int .u32 0), (.int .u32 0), (.int .u32 0), (.int .u32 0), (.int .u32 0), (.int .u32 0), (.int .u32 0), (.int .u32 0), (.int .u32 0), (.int .u32 0), (.int .u32 0), (.int .u32 0), (.int .u32 0), (.int .u32 0), (.int .u32 0), (.int .u32 0), (.int .u32 0), (.int .u32 0), (.int .u32 0), (.int .u32 0), (.int .u32 0), (.int .u32 0), (.int .u32 0), (.int .u32 0), (.int .u32 0), (.int .u32 0), (.int .u32 0), (.int .u32 0), (.int .u32 0), (.int .u32 0), (.int .u32 0), (.int .u32 0), (.int .u32 0), (.int .u32 0), (.int .u32 0), (.int .u32 0), (.int .u32 0), (.int .u32 0), (.int .u32 0), (.int .u32 0), (.int .u32 0), (.int .u32 0), (.int .u32 0), (.int .u32 0), (.int .u32 0), (.int .u32 0), (.int .u32 0), (.int .u32 0), (.int .u32 0), (.int .u32 0), (.int .u32 0), (.int .u32 0), (.int .u32 0), (.int .u32 0), (.int .u32 0), (.int .u32 0), (.int .u32 0), (.int .u32 0), (.int .u32 0), (.int .u32 0), (.int .u32 0), (.int .u32 0), (.int .u32 0), (.int .u32 0), (.int .u32 0), (.int .u32 0), (.int .u32 0), (.int .u32 0), (.int .u32 0), (.int .u32 0), (.int .u32 0), (.int .u32 0), (.int .u32 0), (.int .u32 0), (.int .u32 0), (.int .u32 0), (.int .u32 0), (.int .u32 0), (.int .u32 0), (.int .u32 0), (.int .u32 0), (.int .u32 0), (.int .u32 0), (.int .u32 0), (.int .u32 0), (.int .u32 0), (.int .u32 0), (.int .u32 0), (.int .u32 0), (.int .u32 0), (.int .u32 0), (.int .u32 0), (.int .u32 0), (.int .u32 0), (.int .u32 0), (.int .u32 0), (.int .u32 0), (.int .u32 0), (.int .u32 0), (.int .u32 0), (.int .u32 0), (.int .u32 0), (.int .u32 0), (.int .u32 0), (.int .u32 0), (.int .u32 0), (.int .u32 0), (.int .u32 0), (.int .u32 0), (.int .u32 0), (.int .u32 0), (.int .u32 0), (.int .u32 0), (.int .u32 0), (.int .u32 0), (.int .u32 0), (.int .u32 0), (.int .u32 0), (.int .u32 0), (.int .u32 0), (.int .u32 0), (.int .u32 0), (.int .u32 0), (.int .u32 0), (.int .u32 0), (.int .u32 0), (.int .u32 0), (.int .u32 0), (.int .u32 0), (.int .u32 0), (.int .u32 0), (.int .u32 0), (.int .u32 0), (.int .u32 0), (.int .u32 0), (.int .u32 0), (.int .u32 0), (.int .u32 0), (.int .u32 0), (.int .u32 0), (.int .u32 0), (.int .u32 0), (.int .u32 0), (.int .u32 0), (.int .u32 0), (.int .u32 0), (.int .u32 0), (.int .u32 0), (.int .u32 0), (.int .u32 0), (.int .u32 0), (.int .u32 0), (.int .u32 0), (.int .u32 0), (.int .u32 0), (.int .u32 0), (.int .u32 0), (.int .u32 0), (.int .u32 0), (.int .u32 0), (.int .u32 0), (.int .u32 0), (.int .u32 0), (.int .u32 0), (.int .u32 0), (.int .u32 0), (.int .u32 0), (.int .u32 0), (.int .u32 0), (.int .u32 0), (.int .u32 0), (.int .u32 0), (.int .u32 0), (.int .u32 0), (.int .u32 0), (.int .u32 0), (.int .u32 0), (.int .u32 0), (.int .u32 0), (.int .u32 0), (.int .u32 0), (.int .u32 0), (.int .u32 0), (.int .u32 0), (.int .u32 0), (.int .u32 0), (.int .u32 0), (.int .u32 0), (.int .u32 0), (.int .u32 0), (.int .u32 0), (.int .u32 0), (.int .u32 0), (.int .u32 0), (.int .u32 0), (.int .u32 0), (.int .u32 0), (.int .u32 0), (.int .u32 0), (.int .u32 0), (.int .u32 0), (.int .u32 0), (.int .u32 0), (.int .u32 0), (.int .u32 0), (.int .u32 0), (.int .u32 0), (.int .u32 0), (.int .u32 0), (.int .u32 0), (.int .u32 0), (.int .u32 0), (.int .u32 0), (.int .u32 0), (.int .u32 0), (.int .u32 0), (.int .u32 0), (.int .u32 0), (.int .u32 0), (.int .u32 0), (.int .u32 0), (.int .u32 0), (.int .u32 0), (.int .u32 0), (.int .u32 0), (.int .u32 0), (.int .u32 0), (.int .u32 0), (.int .u32 0), (.int .u32 0), (.int .u32 0), (.int .u32 0), (.int .u32 0), (.int .u32 0), (.int .u32 0), (.int .u32 0), (.int .u32 0), (.int .u32 0), (.int .u32 0), (.int .u32 0), (.int .u32 0), (.int .u32 0), (.int .u32 0), (.int .u32 0), (.int .u32 0), (.int .u32 0)] 103) fun v3_1 =>
    bindV (newA [(.int .i64 0), (.int .i64 0), (.int .i64 0), (.int .i64 0), (.int .i64 0), (.int .i64 0), (.int .i64 0), (.int .i64 0), (.int .i64 0), (.int .i64 0), (.int .i64 0), (.int .i64 0), (.int .i64 0), (.int .i64 0), (.int .i64 0), (.int .i64 0), (.int .i64 0), (.int .i64 0), (.int .i64 0), (.int .i64 0), (.int .i64 0), (.int .i64 0), (.int .i64 0), (.int .i64 0), (.int .i64 0), (.int .i64 0), (.int .i64 0), (.int .i64 0), (.int .i64 0), (.int .i64 0), (.int .i64 0), (.int .i64 0), (.int .i64 0), (.int .i64 0), (.int .i64 0), (.int .i64 0), (.int .i64 0), (.int .i64 0), (.int .i64 0), (.int .i64 0), (.int .i64 0), (.int .i64 0), (.int .i64 0), (.int .i64 0), (.int .i64 0), (.int .i64 0), (.int .i64 0), (.int .i64 0), (.int .i64 0), (.int .i64 0), (.int .i64 0), (.int .i64 0), (.int .i64 0), (.int .i64 0), (.int .i64 0), (.int .i64 0), (.int .i64 0), (.int .i64 0), (.int .i64 0), (.int .i64 0), (.int .i64 0), (.int .i64 0), (.int .i64 0), (.int .i64 0), (.int .i64 0), (.int .i64 0), (.int .i64 0), (.int .i64 0), (.int .i64 0), (.int .i64 0), (.int .i64 0), (.int .i64 0), (.int .i64 0), (.int .i64 0), (.int .i64 0), (.int .i64 0), (.int .i64 0), (.int .i64 0), (.int .i64 0), (.int .i64 0), (.int .i64 0), (.int .i64 0), (.int .i64 0), (.int .i64 0), (.int .i64 0), (.int .i64 0), (.int .i64 0), (.int .i64 0), (.int .i64 0), (.int .i64 0), (.int .i64 0), (.int .i64 0), (.int .i64 0), (.int .i64 0), (.int .i64 0), (.int .i64 0), (.int .i64 0), (.int .i64 0), (.int .i64 0), (.int .i64 0), (.int .i64 0), (.int .i64 0), (.int .i64 0), (.int .i64 0), (.int .i64 0), (.int .i64 0), (.int .i64 0), (.int .i64 0), (.int .i64 0), (.int .i64 0), (.int .i64 0), (.int .i64 0), (.int .i64 0), (.int .i64 0), (.int .i64 0), (.int .i64 0), (.int .i64 0), (.int .i64 0), (.int .i64 0), (.int .i64 0), (.int .i64 0), (.int .i64 0), (.int .i64 0), (.int .i64 0), (.int .i64 0), (.int .i64 0), (.int .i64 0), (.int .i64 0), (.int .i64 0), (.int .i64 0), (.int .i64 0), (.int .i64 0), (.int .i64 0), (.int .i64 0), (.int .i64 0), (.int .i64 0), (.int .i64 0), (.int .i64 0), (.int .i64 0), (.int .i64 0), (.int .i64 0), (.int .i64 0), (.int .i64 0), (.int .i64 0), (.int .i64 0), (.int .i64 0), (.int .i64 0), (.int .i64 0), (.int .i64 0), (.int .i64 0), (.int .i64 0), (.int .i64 0), (.int .i64 0), (.int .i64 0), (.int .i64 0), (.int .i64 0), (.int .i64 0), (.int .i64 0), (.int .i64 0), (.int .i64 0), (.int .i64 0), (.int .i64 0), (.int .i64 0), (.int .i64 0), (.int .i64 0), (.int .i64 0), (.int .i64 0), (.int .i64 0), (.int .i64 0), (.int .i64 0), (.int .i64 0), (.int .i64 0), (.int .i64 0), (.int .i64 0), (.int .i64 0), (.int .i64 0), (.int .i64 0), (.int .i64 0), (.int .i64 0), (.int .i64 0), (.int .i64 0), (.int .i64 0), (.int .i64 0), (.int .i64 0), (.int .i64 0), (.int .i64 0), (.int .i64 0), (.int .i64 0), (.int .i64 0), (.int .i64 0), (.int .i64 0), (.int .i64 0), (.int .i64 0), (.int .i64 0), (.int .i64 0), (.int .i64 0), (.int .i64 0), (.int .i64 0), (.int .i64 0), (.int .i64 0), (.int .i64 0), (.int .i64 0), (.int .i64 0), (.int .i64 0), (.int .i64 0), (.int .i64 0), (.int .i64 0), (.int .i64 0), (.int .i64 0), (.int .i64 0), (.int .i64 0), (.int .i64 0), (.int .i64 0), (.int .i64 0), (.int .i64 0), (.int .i64 0), (.int .i64 0), (.int .i64 0), (.int .i64 0), (.int .i64 0), (.int .i64 0), (.int .i64 0), (.int .i64 0), (.int .i64 0), (.int .i64 0), (.int .i64 0), (.int .i64 0), (.int .i64 0), (.int .i64 0), (.int .i64 0), (.int .i64 0), (.int .i64 0), (.int .i64 0), (.int .i64 0), (.int .i64 0), (.int .i64 0), (.int .i64 0), (.int .i64 0), (.int .i64 0), (.int .i64 0), (.int .i64 0), (.int .i64 0), (.int .i64 0), (.int .i64 0), (.int .i64 0), (.int .i64 0), (.int .i64 0), (.int .i64 0), (.int .i64 0), (.int .i64 0), (.int .i64 0), (.int .i64 0), (.int .i64 0), (.int .i64 0), (.int .i64 0), (.int .i64 0)] 104) fun v4_2 =>
    bindV (ret (.slice none 0 0)) fun v5_3 =>
    bindV (ret (.int .i64 0)) fun v6_22 =>
    loop2 (R55.b_86 call k v0_in v3_1 v4_2) k v5_3 v6_22

theorem R55.eq (call : FuncId → List Value → AM Value) (k : Nat) (v0_in : Value) : funcA Try.prog call k 55 [v0_in] = R55.top call k v0_in := by kernel_rfl

/-! ### 56: aqueduct/huff.groups (0 arguments) -/
noncomputable def R56.top (call : FuncId → List Value → AM Value) (k : Nat) : AM Value :=
  bindV (ret (.slice none 0 0)) fun v0_0 =>
    bindV (buildSliceA 102 1 10 [(.int .u16 0)] [(0, (.int .u16 48)), (1, (.int .u16 49)), (2, (.int .u16 50)), (3, (.int .u16 97)), (4, (.int .u16 99)), (5, (.int .u16 101)), (6, (.int .u16 105)), (7, (.int .u16 111)), (8, (.int .u16 115)), (9, (.int .u16 116))]) fun v1_1 =>
    bindV (buildA [(0, 1), (1, 1)] [(.int .i64 0), (.slice none 0 0)] [(0, (.int .i64 5)), (1, v1_1)]) fun v2_2 =>
    bindV (buildSliceA 102 1 26 [(.int .u16 0)] [(0, (.int .u16 32)), (1, (.int .u16 37)), (2, (.int .u16 45)), (3, (.int .u16 46)), (4, (.int .u16 47)), (5, (.int .u16 51)), (6, (.int .u16 52)), (7, (.int .u16 53)), (8, (.int .u16 54)), (9, (.int .u16 55)), (10, (.int .u16 56)), (11, (.int .u16 57)), (12, (.int .u16 61)), (13, (.int .u16 65)), (14, (.int .u16 95)), (15, (.int .u16 98)), (16, (.int .u16 100)), (17, (.int .u16 102)), (18, (.int .u16 103)), (19, (.int .u16 104)), (20, (.int .u16 108)), (21, (.int .u16 109)), (22, (.int .u16 110)), (23, (.int .u16 112)), (24, (.int .u16 114)), (25, (.int .u16 117))]) fun v3_3 =>
    bindV (buildA [(0, 1), (1, 1)] [(.int .i64 0), (.slice none 0 0)] [(0, (.int .i64 6)), (1, v3_3)]) fun v4_4 =>
    bindV (buildSliceA 102 1 32 [(.int .u16 0)] [(0, (.int .u16 58)), (1, (.int .u16 66)), (2, (.int .u16 67)), (3, (.int .u16 68)), (4, (.int .u16 69)), (5, (.int .u16 70)), (6, (.int .u16 71)), (7, (.int .u16 72)), (8, (.int .u16 73)), (9, (.int .u16 74)), (10, (.int .u16 75)), (11, (.int .u16 76)), (12, (.int .u16 77)), (13, (.int .u16 78)), (14, (.int .u16 79)), (15, (.int .u16 80)), (16, (.int .u16 81)), (17, (.int .u16 82)), (18, (.int .u16 83)), (19, (.int .u16 84)), (20, (.int .u16 85)), (21, (.int .u16 86)), (22, (.int .u16 87)), (23, (.int .u16 89)), (24, (.int .u16 106)), (25, (.int .u16 107)), (26, (.int .u16 113)), (27, (.int .u16 118)), (28, (.int .u16 119)), (29, (.int .u16 120)), (30, (.int .u16 121)), (31, (.int .u16 122))]) fun v5_5 =>
    bindV (buildA [(0, 1), (1, 1)] [(.int .i64 0), (.slice none 0 0)] [(0, (.int .i64 7)), (1, v5_5)]) fun v6_6 =>
    bindV (buildSliceA 102 1 6 [(.int .u16 0)] [(0, (.int .u16 38)), (1, (.int .u16 42)), (2, (.int .u16 44)), (3, (.int .u16 59)), (4, (.int .u16 88)), (5, (.int .u16 90))]) fun v7_7 =>
    bindV (buildA [(0, 1), (1, 1)] [(.int .i64 0), (.slice none 0 0)] [(0, (.int .i64 8)), (1, v7_7)]) fun v8_8 =>
    bindV (buildSliceA 102 1 5 [(.int .u16 0)] [(0, (.int .u16 33)), (1, (.int .u16 34)), (2, (.int .u16 40)), (3, (.int .u16 41)), (4, (.int .u16 63))]) fun v9_9 =>
    bindV (buildA [(0, 1), (1, 1)] [(.int .i64 0), (.slice none 0 0)] [(0, (.int .i64 10)), (1, v9_9)]) fun v10_10 =>
    bindV (buildSliceA 102 1 3 [(.int .u16 0)] [(0, (.int .u16 39)), (1, (.int .u16 43)), (2, (.int .u16 124))]) fun v11_11 =>
    bindV (buildA [(0, 1), (1, 1)] [(.int .i64 0), (.slice none 0 0)] [(0, (.int .i64 11)), (1, v11_11)]) fun v12_12 =>
    bindV (buildSliceA 102 1 2 [(.int .u16 0)] [(0, (.int .u16 35)), (1, (.int .u16 62))]) fun v13_13 =>
    bindV (buildA [(0, 1), (1, 1)] [(.int .i64 0), (.slice none 0 0)] [(0, (.int .i64 12)), (1, v13_13)]) fun v14_14 =>
    bindV (buildSliceA 102 1 6 [(.int .u16 0)] [(0, (.int .u16 0)), (1, (.int .u16 36)), (2, (.int .u16 64)), (3, (.int .u16 91)), (4, (.int .u16 93)), (5, (.int .u16 126))]) fun v15_15 =>
    bindV (buildA [(0, 1), (1, 1)] [(.int .i64 0), (.slice none 0 0)] [(0, (.int .i64 13)), (1, v15_15)]) fun v16_16 =>
    bindV (buildSliceA 102 1 2 [(.int .u16 0)] [(0, (.int .u16 94)), (1, (.int .u16 125))]) fun v17_17 =>
    bindV (buildA [(0, 1), (1, 1)] [(.int .i64 0), (.slice none 0 0)] [(0, (.int .i64 14)), (1, v17_17)]) fun v18_18 =>
    bindV (buildSliceA 102 1 3 [(.int .u16 0)] [(0, (.int .u16 60)), (1, (.int .u16 96)), (2, (.int .u16 123))]) fun v19_19 =>
    bindV (buildA [(0, 1), (1, 1)] [(.int .i64 0), (.slice none 0 0)] [(0, (.int .i64 15)), (1, v19_19)]) fun v20_20 =>
    bindV (buildSliceA 102 1 3 [(.int .u16 0)] [(0, (.int .u16 92)), (1, (.int .u16 195)), (2, (.int .u16 208))]) fun v21_21 =>
    bindV (buildA [(0, 1), (1, 1)] [(.int .i64 0), (.slice none 0 0)] [(0, (.int .i64 19)), (1, v21_21)]) fun v22_22 =>
    bindV (buildSliceA 102 1 8 [(.int .u16 0)] [(0, (.int .u16 128)), (1, (.int .u16 130)), (2, (.int .u16 131)), (3, (.int .u16 162)), (4, (.int .u16 184)), (5, (.int .u16 194)), (6, (.int .u16 224)), (7, (.int .u16 226))]) fun v23_23 =>
    bindV (buildA [(0, 1), (1, 1)] [(.int .i64 0), (.slice none 0 0)] [(0, (.int .i64 20)), (1, v23_23)]) fun v24_24 =>
    bindV (buildSliceA 102 1 13 [(.int .u16 0)] [(0, (.int .u16 153)), (1, (.int .u16 161)), (2, (.int .u16 167)), (3, (.int .u16 172)), (4, (.int .u16 176)), (5, (.int .u16 177)), (6, (.int .u16 179)), (7, (.int .u16 209)), (8, (.int .u16 216)), (9, (.int .u16 217)), (10, (.int .u16 227)), (11, (.int .u16 229)), (12, (.int .u16 230))]) fun v25_25 =>
    bindV (buildA [(0, 1), (1, 1)] [(.int .i64 0), (.slice none 0 0)] [(0, (.int .i64 21)), (1, v25_25)]) fun v26_26 =>
    bindV (buildSliceA 102 1 26 [(.int .u16 0)] [(0, (.int .u16 129)), (1, (.int .u16 132)), (2, (.int .u16 133)), (3, (.int .u16 134)), (4, (.int .u16 136)), (5, (.int .u16 146)), (6, (.int .u16 154)), (7, (.int .u16 156)), (8, (.int .u16 160)), (9, (.int .u16 163)), (10, (.int .u16 164)), (11, (.int .u16 169)), (12, (.int .u16 170)), (13, (.int .u16 173)), (14, (.int .u16 178)), (15, (.int .u16 181)), (16, (.int .u16 185)), (17, (.int .u16 186)), (18, (.int .u16 187)), (19, (.int .u16 189)), (20, (.int .u16 190)), (21, (.int .u16 196)), (22, (.int .u16 198)), (23, (.int .u16 228)), (24, (.int .u16 232)), (25, (.int .u16 233))]) fun v27_27 =>
    bindV (buildA [(0, 1), (1, 1)] [(.int .i64 0), (.slice none 0 0)] [(0, (.int .i64 22)), (1, v27_27)]) fun v28_28 =>
    bindV (buildSliceA 102 1 29 [(.int .u16 0)] [(0, (.int .u16 1)), (1, (.int .u16 135)), (2, (.int .u16 137)), (3, (.int .u16 138)), (4, (.int .u16 139)), (5, (.int .u16 140)), (6, (.int .u16 141)), (7, (.int .u16 143)), (8, (.int .u16 147)), (9, (.int .u16 149)), (10, (.int .u16 150)), (11, (.int .u16 151)), (12, (.int .u16 152)), (13, (.int .u16 155)), (14, (.int .u16 157)), (15, (.int .u16 158)), (16, (.int .u16 165)), (17, (.int .u16 166)), (18, (.int .u16 168)), (19, (.int .u16 174)), (20, (.int .u16 175)), (21, (.int .u16 180)), (22, (.int .u16 182)), (23, (.int .u16 183)), (24, (.int .u16 188)), (25, (.int .u16 191)), (26, (.int .u16 197)), (27, (.int .u16 231)), (28, (.int .u16 239))]) fun v29_29 =>
    bindV (buildA [(0, 1), (1, 1)] [(.int .i64 0), (.slice none 0 0)] [(0, (.int .i64 23)), (1, v29_29)]) fun v30_30 =>
    bindV (buildSliceA 102 1 12 [(.int .u16 0)] [(0, (.int .u16 9)), (1, (.int .u16 142)), (2, (.int .u16 144)), (3, (.int .u16 145)), (4, (.int .u16 148)), (5, (.int .u16 159)), (6, (.int .u16 171)), (7, (.int .u16 206)), (8, (.int .u16 215)), (9, (.int .u16 225)), (10, (.int .u16 236)), (11, (.int .u16 237))]) fun v31_31 =>
    bindV (buildA [(0, 1), (1, 1)] [(.int .i64 0), (.slice none 0 0)] [(0, (.int .i64 24)), (1, v31_31)]) fun v32_32 =>
    bindV (buildSliceA 102 1 4 [(.int .u16 0)] [(0, (.int .u16 199)), (1, (.int .u16 207)), (2, (.int .u16 234)), (3, (.int .u16 235))]) fun v33_33 =>
    bindV (buildA [(0, 1), (1, 1)] [(.int .i64 0), (.slice none 0 0)] [(0, (.int .i64 25)), (1, v33_33)]) fun v34_34 =>
    bindV (buildSliceA 102 1 15 [(.int .u16 0)] [(0, (.int .u16 192)), (1, (.int .u16 193)), (2, (.int .u16 200)), (3, (.int .u16 201)), (4, (.int .u16 202)), (5, (.int .u16 205)), (6, (.int .u16 210)), (7, (.int .u16 213)), (8, (.int .u16 218)), (9, (.int .u16 219)), (10, (.int .u16 238)), (11, (.int .u16 240)), (12, (.int .u16 242)), (13, (.int .u16 243)), (14, (.int .u16 255))]) fun v35_35 =>
    bindV (buildA [(0, 1), (1, 1)] [(.int .i64 0), (.slice none 0 0)] [(0, (.int .i64 26)), (1, v35_35)]) fun v36_36 =>
    bindV (buildSliceA 102 1 19 [(.int .u16 0)] [(0, (.int .u16 203)), (1, (.int .u16 204)), (2, (.int .u16 211)), (3, (.int .u16 212)), (4, (.int .u16 214)), (5, (.int .u16 221)), (6, (.int .u16 222)), (7, (.int .u16 223)), (8, (.int .u16 241)), (9, (.int .u16 244)), (10, (.int .u16 245)), (11, (.int .u16 246)), (12, (.int .u16 247)), (13, (.int .u16 248)), (14, (.int .u16 250)), (15, (.int .u16 251)), (16, (.int .u16 252)), (17, (.int .u16 253)), (18, (.int .u16 254))]) fun v37_37 =>
    bindV (buildA [(0, 1), (1, 1)] [(.int .i64 0), (.slice none 0 0)] [(0, (.int .i64 27)), (1, v37_37)]) fun v38_38 =>
    bindV (buildSliceA 102 1 29 [(.int .u16 0)] [(0, (.int .u16 2)), (1, (.int .u16 3)), (2, (.int .u16 4)), (3, (.int .u16 5)), (4, (.int .u16 6)), (5, (.int .u16 7)), (6, (.int .u16 8)), (7, (.int .u16 11)), (8, (.int .u16 12)), (9, (.int .u16 14)), (10, (.int .u16 15)), (11, (.int .u16 16)), (12, (.int .u16 17)), (13, (.int .u16 18)), (14, (.int .u16 19)), (15, (.int .u16 20)), (16, (.int .u16 21)), (17, (.int .u16 23)), (18, (.int .u16 24)), (19, (.int .u16 25)), (20, (.int .u16 26)), (21, (.int .u16 27)), (22, (.int .u16 28)), (23, (.int .u16 29)), (24, (.int .u16 30)), (25, (.int .u16 31)), (26, (.int .u16 127)), (27, (.int .u16 220)), (28, (.int .u16 249))]) fun v39_39 =>
    bindV (buildA [(0, 1), (1, 1)] [(.int .i64 0), (.slice none 0 0)] [(0, (.int .i64 28)), (1, v39_39)]) fun v40_40 =>
    bindV (buildSliceA 102 1 4 [(.int .u16 0)] [(0, (.int .u16 10)), (1, (.int .u16 13)), (2, (.int .u16 22)), (3, (.int .u16 256))]) fun v41_41 =>
    bindV (buildA [(0, 1), (1, 1)] [(.int .i64 0), (.slice none 0 0)] [(0, (.int .i64 30)), (1, v41_41)]) fun v42_42 =>
    bindV (buildSliceA 101 2 21 [(.int .i64 0), (.slice none 0 0)] [(0, v2_2), (1, v4_4), (2, v6_6), (3, v8_8), (4, v10_10), (5, v12_12), (6, v14_14), (7, v16_16), (8, v18_18), (9, v20_20), (10, v22_22), (11, v24_24), (12, v26_26), (13, v28_28), (14, v30_30), (15, v32_32), (16, v34_34), (17, v36_36), (18, v38_38), (19, v40_40), (20, v42_42)]) fun v43_43 =>
    bindV (ret v43_43) fun v0_44 =>
    ret v0_44

theorem R56.eq (call : FuncId → List Value → AM Value) (k : Nat) : funcA Try.prog call k 56 [] = R56.top call k := by kernel_rfl

/-! ### 57: aqueduct/aqueductref03.Code (1 arguments) -/
noncomputable def R57.b_62 (call : FuncId → List Value → AM Value) (k : Nat) (rec_3_12 : Value → Value → Value → AM Value) (v0_in : Value) (v6_23 : Value) (v7_6 : Value) (v8_15 : Value) (rec_2_25 : Value → Value → AM Value) (v5_26 : Value) (v9_27 : Value) : AM Value :=
  bindV (ret v9_27) fun v28_54 =>
    bindV (ret v7_6) fun v29_55 =>
    bindV (ret v8_15) fun v30_56 =>
    bindV (indexAddrA 2 v29_55 v30_56) fun v31_57 =>
    bindV (fieldAddrA 1 v31_57) fun v32_58 =>
    bindV (loadA none v32_58) fun v33_59 =>
    bindV (lenA v33_59) fun v34_60 =>
    bindV (binA Try.prog .lss 3 v28_54 v34_60) fun v35_61 =>
    condA v35_61 (bindV (ret v7_6) fun v38_37 =>
    bindV (ret v8_15) fun v39_38 =>
    bindV (indexAddrA 2 v38_37 v39_38) fun v40_39 =>
    bindV (fieldAddrA 1 v40_39) fun v41_40 =>
    bindV (loadA none v41_40) fun v42_41 =>
    bindV (ret v9_27) fun v43_42 =>
    bindV (indexAddrA 1 v42_41 v43_42) fun v44_43 =>
    bindV (loadA none v44_43) fun v45_44 =>
    bindV (ret v0_in) fun v46_45 =>
    bindV (binA Try.prog .eql 3 v45_44 v46_45) fun v47_46 =>
    condA v47_46 (bindV (ret v5_26) fun v48_47 =>
    bindV (convIntA .u32 v48_47) fun v49_48 =>
    bindV (ret v6_23) fun v50_49 =>
    bindV (ret v49_48) fun v2_50 =>
    bindV (ret v50_49) fun v3_51 =>
    bindV (ret (.int .i64 0)) fun v4_52 =>
    ret (.tuple #[v2_50, v3_51, v4_52]))
    (bindV (ret v5_26) fun v51_33 =>
    bindV (binA Try.prog .add 93 v51_33 (.int .u64 1)) fun v52_34 =>
    bindV (ret v52_34) fun v5_35 =>
    bindV (ret v9_27) fun v36_29 =>
    bindV (binA Try.prog .add 3 v36_29 (.int .i64 1)) fun v37_30 =>
    bindV (ret v37_30) fun v9_31 =>
    rec_2_25 v5_35 v9_31))
    (bindV (ret v8_15) fun v15_18 =>
    bindV (binA Try.prog .add 3 v15_18 (.int .i64 1)) fun v16_19 =>
    bindV (ret v16_19) fun v8_20 =>
    rec_3_12 v5_26 v6_23 v8_20)

noncomputable def R57.b_81 (call : FuncId → List Value → AM Value) (k : Nat) (rec_3_12 : Value → Value → Value → AM Value) (v0_in : Value) (v7_6 : Value) (v8_15 : Value) (rec_2_64 : Value → Value → AM Value) (v5_65 : Value) (v6_66 : Value) : AM Value :=
  bindV (ret v6_66) fun v17_74 =>
    bindV (ret v7_6) fun v18_75 =>
    bindV (ret v8_15) fun v19_76 =>
    bindV (indexAddrA 2 v18_75 v19_76) fun v20_77 =>
    bindV (fieldAddrA 0 v20_77) fun v21_78 =>
    bindV (loadA none v21_78) fun v22_79 =>
    bindV (binA Try.prog .lss 3 v17_74 v22_79) fun v23_80 =>
    condA v23_80 (bindV (ret v5_65) fun v24_67 =>
    bindV (binA Try.prog .mul 93 v24_67 (.int .u64 2)) fun v25_68 =>
    bindV (ret v25_68) fun v5_69 =>
    bindV (ret v6_66) fun v26_70 =>
    bindV (binA Try.prog .add 3 v26_70 (.int .i64 1)) fun v27_71 =>
    bindV (ret v27_71) fun v6_72 =>
    rec_2_64 v5_69 v6_72)
    (bindV (ret (.int .i64 0)) fun v9_24 =>
    loop2 (R57.b_62 call k rec_3_12 v0_in v6_66 v7_6 v8_15) k v5_65 v9_24)

noncomputable def R57.b_87 (call : FuncId → List Value → AM Value) (k : Nat) (v0_in : Value) (v7_6 : Value) (rec_3_12 : Value → Value → Value → AM Value) (v5_13 : Value) (v6_14 : Value) (v8_15 : Value) : AM Value :=
  bindV (ret v8_15) fun v11_83 =>
    bindV (ret v7_6) fun v12_84 =>
    bindV (lenA v12_84) fun v13_85 =>
    bindV (binA Try.prog .lss 3 v11_83 v13_85) fun v14_86 =>
    condA v14_86 (loop2 (R57.b_81 call k rec_3_12 v0_in v7_6 v8_15) k v5_13 v6_14)
    (bindV (ret (.int .u32 0)) fun v2_7 =>
    bindV (ret (.int .i64 0)) fun v3_8 =>
    bindV (ret (.int .i64 1)) fun v4_9 =>
    ret (.tuple #[v2_7, v3_8, v4_9]))

noncomputable def R57.top (call : FuncId → List Value → AM Value) (k : Nat) (v0_in : Value) : AM Value :=
  bindV (ret (.int .u32 0)) fun v2_0 =>
    bindV (ret (.int .i64 0)) fun v3_1 =>
    bindV (ret (.int .i64 0)) fun v4_2 =>
    bindV (ret (.int .u64 0)) fun v5_3 =>
    bindV (ret (.int .i64 0)) fun v6_4 =>
    bindV (call 58 []) fun v10_5 =>
    bindV (ret v10_5) fun v7_6 =>
    bindV (ret (.int .i64 0)) fun v8_11 =>
    loop3 (R57.b_87 call k v0_in v7_6) k v5_3 v6_4 v8_11

theorem R57.eq (call : FuncId → List Value → AM Value) (k : Nat) (v0_in : Value) : funcA Try.prog call k 57 [v0_in] = R57.top call k v0_in := by kernel_rfl

/-! ### 58: aqueduct/aqueductref03.rows (0 arguments) -/
noncomputable def R58.top (call : FuncId → List Value → AM Value) (k : Nat) : AM Value :=
  bindV (ret (.slice none 0 0)) fun v0_0 =>
    bindV (buildSliceA 3 1 10 [(.int .i64 0)] [(0, (.int .i64 48)), (1, (.int .i64 49)), (2, (.int .i64 50)), (3, (.int .i64 97)), (4, (.int .i64 99)), (5, (.int .i64 101)), (6, (.int .i64 105)), (7, (.int .i64 111)), (8, (.int .i64 115)), (9, (.int .i64 116))]) fun v1_1 =>
    bindV (buildA [(0, 1), (1, 1)] [(.int .i64 0), (.slice none 0 0)] [(0, (.int .i64 5)), (1, v1_1)]) fun v2_2 =>
    bindV (buildSliceA 3 1 26 [(.int .i64 0)] [(0, (.int .i64 32)), (1, (.int .i64 37)), (2, (.int .i64 45)), (3, (.int .i64 46)), (4, (.int .i64 47)), (5, (.int .i64 51)), (6, (.int .i64 52)), (7, (.int .i64 53)), (8, (.int .i64 54)), (9, (.int .i64 55)), (10, (.int .i64 56)), (11, (.int .i64 57)), (12, (.int .i64 61)), (13, (.int .i64 65)), (14, (.int .i64 95)), (15, (.int .i64 98)), (16, (.int .i64 100)), (17, (.int .i64 102)), (18, (.int .i64 103)), (19, (.int .i64 104)), (20, (.int .i64 108)), (21, (.int .i64 109)), (22, (.int .i64 110)), (23, (.int .i64 112)), (24, (.int .i64 114)), (25, (.int .i64 117))]) fun v3_3 =>
    bindV (buildA [(0, 1), (1, 1)] [(.int .i64 0), (.slice none 0 0)] [(0, (.int .i64 6)), (1, v3_3)]) fun v4_4 =>
    bindV (buildSliceA 3 1 32 [(.int .i64 0)] [(0, (.int .i64 58)), (1, (.int .i64 66)), (2, (.int .i64 67)), (3, (.int .i64 68)), (4, (.int .i64 69)), (5, (.int .i64 70)), (6, (.int .i64 71)), (7, (.int .i64 72)), (8, (.int .i64 73)), (9, (.int .i64 74)), (10, (.int .i64 75)), (11, (.int .i64 76)), (12, (.int .i64 77)), (13, (.int .i64 78)), (14, (.int .i64 79)), (15, (.int .i64 80)), (16, (.int .i64 81)), (17, (.int .i64 82)), (18, (.int .i64 83)), (19, (.int .i64 84)), (20, (.int .i64 85)), (21, (.int .i64 86)), (22, (.int .i64 87)), (23, (.int .i64 89)), (24, (.int .i64 106)), (25, (.int .i64 107)), (26, (.int .i64 113)), (27, (.int .i64 118)), (28, (.int .i64 119)), (29, (.int .i64 120)), (30, (.int .i64 121)), (31, (.int .i64 122))]) fun v5_5 =>
    bindV (buildA [(0, 1), (1, 1)] [(.int .i64 0), (.slice none 0 0)] [(0, (.int .i64 7)), (1, v5_5)]) fun v6_6 =>
    bindV (buildSliceA 3 1 6 [(.int .i64 0)] [(0, (.int .i64 38)), (1, (.int .i64 42)), (2, (.int .i64 44)), (3, (.int .i64 59)), (4, (.int .i64 88)), (5, (.int .i64 90))]) fun v7_7 =>
    bindV (buildA [(0, 1), (1, 1)] [(.int .i64 0), (.slice none 0 0)] [(0, (.int .i64 8)), (1, v7_7)]) fun v8_8 =>
    bindV (buildSliceA 3 1 5 [(.int .i64 0)] [(0, (.int .i64 33)), (1, (.int .i64 34)), (2, (.int .i64 40)), (3, (.int .i64 41)), (4, (.int .i64 63))]) fun v9_9 =>
    bindV (buildA [(0, 1), (1, 1)] [(.int .i64 0), (.slice none 0 0)] [(0, (.int .i64 10)), (1, v9_9)]) fun v10_10 =>
    bindV (buildSliceA 3 1 3 [(.int .i64 0)] [(0, (.int .i64 39)), (1, (.int .i64 43)), (2, (.int .i64 124))]) fun v11_11 =>
    bindV (buildA [(0, 1), (1, 1)] [(.int .i64 0), (.slice none 0 0)] [(0, (.int .i64 11)), (1, v11_11)]) fun v12_12 =>
    bindV (buildSliceA 3 1 2 [(.int .i64 0)] [(0, (.int .i64 35)), (1, (.int .i64 62))]) fun v13_13 =>
    bindV (buildA [(0, 1), (1, 1)] [(.int .i64 0), (.slice none 0 0)] [(0, (.int .i64 12)), (1, v13_13)]) fun v14_14 =>
    bindV (buildSliceA 3 1 6 [(.int .i64 0)] [(0, (.int .i64 0)), (1, (.int .i64 36)), (2, (.int .i64 64)), (3, (.int .i64 91)), (4, (.int .i64 93)), (5, (.int .i64 126))]) fun v15_15 =>
    bindV (buildA [(0, 1), (1, 1)] [(.int .i64 0), (.slice none 0 0)] [(0, (.int .i64 13)), (1, v15_15)]) fun v16_16 =>
    bindV (buildSliceA 3 1 2 [(.int .i64 0)] [(0, (.int .i64 94)), (1, (.int .i64 125))]) fun v17_17 =>
    bindV (buildA [(0, 1), (1, 1)] [(.int .i64 0), (.slice none 0 0)] [(0, (.int .i64 14)), (1, v17_17)]) fun v18_18 =>
    bindV (buildSliceA 3 1 3 [(.int .i64 0)] [(0, (.int .i64 60)), (1, (.int .i64 96)), (2, (.int .i64 123))]) fun v19_19 =>
    bindV (buildA [(0, 1), (1, 1)] [(.int .i64 0), (.slice none 0 0)] [(0, (.int .i64 15)), (1, v19_19)]) fun v20_20 =>
    bindV (buildSliceA 3 1 3 [(.int .i64 0)] [(0, (.int .i64 92)), (1, (.int .i64 195)), (2, (.int .i64 208))]) fun v21_21 =>
    bindV (buildA [(0, 1), (1, 1)] [(.int .i64 0), (.slice none 0 0)] [(0, (.int .i64 19)), (1, v21_21)]) fun v22_22 =>
    bindV (buildSliceA 3 1 8 [(.int .i64 0)] [(0, (.int .i64 128)), (1, (.int .i64 130)), (2, (.int .i64 131)), (3, (.int .i64 162)), (4, (.int .i64 184)), (5, (.int .i64 194)), (6, (.int .i64 224)), (7, (.int .i64 226))]) fun v23_23 =>
    bindV (buildA [(0, 1), (1, 1)] [(.int .i64 0), (.slice none 0 0)] [(0, (.int .i64 20)), (1, v23_23)]) fun v24_24 =>
    bindV (buildSliceA 3 1 13 [(.int .i64 0)] [(0, (.int .i64 153)), (1, (.int .i64 161)), (2, (.int .i64 167)), (3, (.int .i64 172)), (4, (.int .i64 176)), (5, (.int .i64 177)), (6, (.int .i64 179)), (7, (.int .i64 209)), (8, (.int .i64 216)), (9, (.int .i64 217)), (10, (.int .i64 227)), (11, (.int .i64 229)), (12, (.int .i64 230))]) fun v25_25 =>
    bindV (buildA [(0, 1), (1, 1)] [(.int .i64 0), (.slice none 0 0)] [(0, (.int .i64 21)), (1, v25_25)]) fun v26_26 =>
    bindV (buildSliceA 3 1 26 [(.int .i64 0)] [(0, (.int .i64 129)), (1, (.int .i64 132)), (2, (.int .i64 133)), (3, (.int .i64 134)), (4, (.int .i64 136)), (5, (.int .i64 146)), (6, (.int .i64 154)), (7, (.int .i64 156)), (8, (.int .i64 160)), (9, (.int .i64 163)), (10, (.int .i64 164)), (11, (.int .i64 169)), (12, (.int .i64 170)), (13, (.int .i64 173)), (14, (.int .i64 178)), (15, (.int .i64 181)), (16, (.int .i64 185)), (17, (.int .i64 186)), (18, (.int .i64 187)), (19, (.int .i64 189)), (20, (.int .i64 190)), (21, (.int .i64 196)), (22, (.int .i64 198)), (23, (.int .i64 228)), (24, (.int .i64 232)), (25, (.int .i64 233))]) fun v27_27 =>
    bindV (buildA [(0, 1), (1, 1)] [(.int .i64 0), (.slice none 0 0)] [(0, (.int .i64 22)), (1, v27_27)]) fun v28_28 =>
    bindV (buildSliceA 3 1 29 [(.int .i64 0)] [(0, (.int .i64 1)), (1, (.int .i64 135)), (2, (.int .i64 137)), (3, (.int .i64 138)), (4, (.int .i64 139)), (5, (.int .i64 140)), (6, (.int .i64 141)), (7, (.int .i64 143)), (8, (.int .i64 147)), (9, (.int .i64 149)), (10, (.int .i64 150)), (11, (.int .i64 151)), (12, (.int .i64 152)), (13, (.int .i64 155)), (14, (.int .i64 157)), (15, (.int .i64 158)), (16, (.int .i64 165)), (17, (.int .i64 166)), (18, (.int .i64 168)), (19, (.int .i64 174)), (20, (.int .i64 175)), (21, (.int .i64 180)), (22, (.int .i64 182)), (23, (.int .i64 183)), (24, (.int .i64 188)), (25, (.int .i64 191)), (26, (.int .i64 197)), (27, (.int .i64 231)), (28, (.int .i64 239))]) fun v29_29 =>
    bindV (buildA [(0, 1), (1, 1)] [(.int .i64 0), (.slice none 0 0)] [(0, (.int .i64 23)), (1, v29_29)]) fun v30_30 =>
    bindV (buildSliceA 3 1 12 [(.int .i64 0)] [(0, (.int .i64 9)), (1, (.int .i64 142)), (2, (.int .i64 144)), (3, (.int .i64 145)), (4, (.int .i64 148)), (5, (.int .i64 159)), (6, (.int .i64 171)), (7, (.int .i64 206)), (8, (.int .i64 215)), (9, (.int .i64 225)), (10, (.int .i64 236)), (11, (.int .i64 237))]) fun v31_31 =>
    bindV (buildA [(0, 1), (1, 1)] [(.int .i64 0), (.slice none 0 0)] [(0, (.int .i64 24)), (1, v31_31)]) fun v32_32 =>
    bindV (buildSliceA 3 1 4 [(.int .i64 0)] [(0, (.int .i64 199)), (1, (.int .i64 207)), (2, (.int .i64 234)), (3, (.int .i64 235))]) fun v33_33 =>
    bindV (buildA [(0, 1), (1, 1)] [(.int .i64 0), (.slice none 0 0)] [(0, (.int .i64 25)), (1, v33_33)]) fun v34_34 =>
    bindV (buildSliceA 3 1 15 [(.int .i64 0)] [(0, (.int .i64 192)), (1, (.int .i64 193)), (2, (.int .i64 200)), (3, (.int .i64 201)), (4, (.int .i64 202)), (5, (.int .i64 205)), (6, (.int .i64 210)), (7, (.int .i64 213)), (8, (.int .i64 218)), (9, (.int .i64 219)), (10, (.int .i64 238)), (11, (.int .i64 240)), (12, (.int .i64 242)), (13, (.int .i64 243)), (14, (.int .i64 255))]) fun v35_35 =>
    bindV (buildA [(0, 1), (1, 1)] [(.int .i64 0), (.slice none 0 0)] [(0, (.int .i64 26)), (1, v35_35)]) fun v36_36 =>
    bindV (buildSliceA 3 1 19 [(.int .i64 0)] [(0, (.int .i64 203)), (1, (.int .i64 204)), (2, (.int .i64 211)), (3, (.int .i64 212)), (4, (.int .i64 214)), (5, (.int .i64 221)), (6, (.int .i64 222)), (7, (.int .i64 223)), (8, (.int .i64 241)), (9, (.int .i64 244)), (10, (.int .i64 245)), (11, (.int .i64 246)), (12, (.int .i64 247)), (13, (.int .i64 248)), (14, (.int .i64 250)), (15, (.int .i64 251)), (16, (.int .i64 252)), (17, (.int .i64 253)), (18, (.int .i64 254))]) fun v37_37 =>
    bindV (buildA [(0, 1), (1, 1)] [(.int .i64 0), (.slice none 0 0)] [(0, (.int .i64 27)), (1, v37_37)]) fun v38_38 =>
    bindV (buildSliceA 3 1 29 [(.int .i64 0)] [(0, (.int .i64 2)), (1, (.int .i64 3)), (2, (.int .i64 4)), (3, (.int .i64 5)), (4, (.int .i64 6)), (5, (.int .i64 7)), (6, (.int .i64 8)), (7, (.int .i64 11)), (8, (.int .i64 12)), (9, (.int .i64 14)), (10, (.int .i64 15)), (11, (.int .i64 16)), (12, (.int .i64 17)), (13, (.int .i64 18)), (14, (.int .i64 19)), (15, (.int .i64 20)), (16, (.int .i64 21)), (17, (.int .i64 23)), (18, (.int .i64 24)), (19, (.int .i64 25)), (20, (.int .i64 26)), (21, (.int .i64 27)), (22, (.int .i64 28)), (23, (.int .i64 29)), (24, (.int .i64 30)), (25, (.int .i64 31)), (26, (.int .i64 127)), (27, (.int .i64 220)), (28, (.int .i64 249))]) fun v39_39 =>
    bindV (buildA [(0, 1), (1, 1)] [(.int .i64 0), (.slice none 0 0)] [(0, (.int .i64 28)), (1, v39_39)]) fun v40_40 =>
    bindV (buildSliceA 3 1 4 [(.int .i64 0)] [(0, (.int .i64 10)), (1, (.int .i64 13)), (2, (.int .i64 22)), (3, (.int .i64 256))]) fun v41_41 =>
    bindV (buildA [(0, 1), (1, 1)] [(.int .i64 0), (.slice none 0 0)] [(0, (.int .i64 30)), (1, v41_41)]) fun v42_42 =>
    bindV (buildSliceA 111 2 21 [(.int .i64 0), (.slice none 0 0)] [(0, v2_2), (1, v4_4), (2, v6_6), (3, v8_8), (4, v10_10), (5, v12_12), (6, v14_14), (7, v16_16), (8, v18_18), (9, v20_20), (10, v22_22), (11, v24_24), (12, v26_26), (13, v28_28), (14, v30_30), (15, v32_32), (16, v34_34), (17, v36_36), (18, v38_38), (19, v40_40), (20, v42_42)]) fun v43_43 =>
    bindV (ret v43_43) fun v0_44 =>
    ret v0_44

theorem R58.eq (call : FuncId → List Value → AM Value) (k : Nat) : funcA Try.prog call k 58 [] = R58.top call k := by kernel_rfl

end Go.Proofs.Ytjmafbiklebjcaa
