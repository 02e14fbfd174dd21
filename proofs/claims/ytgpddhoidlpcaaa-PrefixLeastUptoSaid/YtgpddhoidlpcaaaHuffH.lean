/- The program's Encode, whole. -/
import Derived.Test.YtgpddhoidlpcaaaHuffG
set_option linter.unusedVariables false
set_option linter.unusedSimpArgs false
namespace Go.Proofs.Ytgpddhoidlpcaaa
open Go.Proofs.Ytgpddhoidlpcaaa.Eng
theorem pack_add : ∀ (m n : Nat) (l : List Bool), pack (m + n) l = pack m l ++ pack n (l.drop (8 * m))
  | 0, n, l => by simp [pack]
  | m + 1, n, l => by
    have ih := pack_add m n (l.drop 8)
    rw [show m + 1 + n = (m + n) + 1 by omega, pack, ih, pack]
    simp only [List.cons_append, List.drop_drop]
    rw [show 8 + 8 * m = 8 * (m + 1) by omega]
def accOf (b : List Bool) : List UInt8 := pack (b.length / 8) b
def pendOf (b : List Bool) : List Bool := b.drop (8 * (b.length / 8))
theorem pend_lt (b : List Bool) : (pendOf b).length < 8 := by unfold pendOf; rw [List.length_drop]; omega
theorem acc_step (b c : List Bool) : putAcc (accOf b) (pendOf b ++ c) = accOf (b ++ c) ∧ putPend (pendOf b ++ c) = pendOf (b ++ c) := by
  have hl : (pendOf b ++ c).length = b.length - 8 * (b.length / 8) + c.length := by unfold pendOf; rw [List.length_append, List.length_drop]
  have hd : (b ++ c).drop (8 * (b.length / 8)) = pendOf b ++ c := by unfold pendOf; rw [List.drop_append_of_le_length (by omega)]
  have hn : (b ++ c).length / 8 = b.length / 8 + (pendOf b ++ c).length / 8 := by rw [hl, List.length_append]; omega
  constructor
  · unfold putAcc accOf
    rw [hn, pack_add, pack_app _ b c (by omega), hd]
  · unfold putPend
    show _ = (b ++ c).drop (8 * ((b ++ c).length / 8))
    rw [hn, Nat.mul_add, ← List.drop_drop, hd]
theorem acc_end (b : List Bool) : putAcc (accOf b) (pendOf b ++ List.replicate (8 - (pendOf b).length) true) = pack ((b.length + 7) / 8) (padded b) ∨ (pendOf b).length = 0 := by
  by_cases h0 : (pendOf b).length = 0
  · exact .inr h0
  · left
    have hp : (pendOf b).length = b.length % 8 := by unfold pendOf; rw [List.length_drop]; omega
    have hr : 8 - (pendOf b).length = (8 - b.length % 8) % 8 := by omega
    have h1 := (acc_step b (List.replicate (8 - (pendOf b).length) true)).1
    rw [h1]
    unfold accOf padded
    rw [← hr]
    congr 1
    rw [List.length_append, List.length_replicate]; omega
theorem acc_whole (b : List Bool) (h : (pendOf b).length = 0) : accOf b = pack ((b.length + 7) / 8) (padded b) := by
  have hp : (pendOf b).length = b.length % 8 := by unfold pendOf; rw [List.length_drop]; omega
  have hz : (8 - b.length % 8) % 8 = 0 := by omega
  unfold accOf padded
  rw [hz, List.replicate_zero, List.append_nil]
  congr 1
  omega
theorem acc_len (b : List Bool) : (accOf b).length = b.length / 8 := pack_len _ _
theorem ones_bits (m : Nat) : natBits (2 ^ m - 1) m = List.replicate m true := by
  apply List.ext_getElem?
  intro i
  have h : ∀ (n w i : Nat), (natBits n w)[i]? = if i < w then some (n.testBit (w - 1 - i)) else none := by
    intro n w
    induction w with
    | zero => intro i; simp [natBits]
    | succ w ih =>
      intro i
      cases i with
      | zero => simp [natBits]
      | succ i =>
        simp only [natBits, List.getElem?_cons_succ, ih i]
        by_cases hi : i < w
        · rw [if_pos hi, if_pos (by omega)]; congr 2; omega
        · rw [if_neg hi, if_neg (by omega)]
  rw [h, List.getElem?_replicate]
  by_cases hi : i < m
  · rw [if_pos hi, if_pos hi, Nat.testBit_two_pow_sub_one]
    simp; omega
  · rw [if_neg hi, if_neg hi]
section
variable {σ : AW} {k : Nat} {Q : Value → AW → Prop}
theorem wpA_callC {call : FuncId → List Value → AM Value} {f : FuncId} {a b c : Value} {args : List Value} : wpA (callA call (.func (.func f) #[] #[a, b, c]) args) σ Q ↔ wpA (call f (args ++ [a, b, c])) σ Q := by
  show wpA (call f ([] ++ args ++ [a, b, c])) σ Q ↔ _
  simp only [List.nil_append]
theorem enc18_eq (call : FuncId → List Value → AM Value) (x : Value) : R18.top call k x = bindV (ret (.slice none 0 0)) fun v2 => bindV (newA [.slice none 0 0] 33) fun v3 => bindV (call 30 []) fun v10 => bindV (newA (arrC (arrI 0)) 59) fun v4 => bindV (storeA 514 v4 v10) fun _ => bindV (newA [.int .u64 0] 61) fun v5 => bindV (newA [.int .i64 0] 3) fun v6 => bindV (storeA 1 v5 (.int .u64 0)) fun _ => bindV (storeA 1 v6 (.int .i64 0)) fun _ =>
    bindV (ret (.func (.func 32) #[] #[v5, v6, v3])) fun v11 => bindV (ret v11) fun v7 => bindV (ret x) fun v12 => bindV (lenA v12) fun v13 => bindV (ret (.int .i64 0)) fun v14 => loop1 (R18.b_42 call k v12 v13 v3 v4 v6 v7) k v14 := by kernel_rfl
end
end Go.Proofs.Ytgpddhoidlpcaaa
