/- Bits and bytes: no program in sight. -/
import Derived.Test.YtgpddhoidlpcaaaHuffE
set_option linter.unusedVariables false
set_option linter.unusedSimpArgs false
namespace Go.Proofs.Ytgpddhoidlpcaaa
open Go.Proofs.Ytgpddhoidlpcaaa.Eng
def bn (b : Bool) : Nat := if b = true then 1 else 0
/-- The number that bits are, the first the greatest. -/
def val (l : List Bool) : Nat := l.foldl (fun n b => 2 * n + bn b) 0
theorem val_from : ∀ (l : List Bool) (n : Nat), l.foldl (fun n b => 2 * n + bn b) n = n * 2 ^ l.length + val l
  | [], n => by simp [val]
  | b :: l, n => by
    have h1 := val_from l (2 * n + bn b)
    have h2 := val_from l (2 * 0 + bn b)
    simp only [List.foldl_cons, val, List.length_cons] at h1 h2 ⊢
    rw [h1, h2]
    rw [Nat.pow_succ, Nat.add_mul, Nat.add_mul]
    simp only [Nat.mul_zero, Nat.zero_mul, Nat.zero_add]
    have e : 2 * n * 2 ^ l.length = n * (2 ^ l.length * 2) := by rw [Nat.mul_comm (2 ^ l.length) 2, ← Nat.mul_assoc, Nat.mul_comm n 2]
    rw [e]; omega
theorem val_append (a b : List Bool) : val (a ++ b) = val a * 2 ^ b.length + val b := by
  unfold val
  rw [List.foldl_append]
  exact val_from b _
theorem val_lt : ∀ (l : List Bool), val l < 2 ^ l.length
  | [] => by simp [val]
  | b :: l => by
    have ih := val_lt l
    have h := val_append [b] l
    simp only [List.singleton_append] at h
    rw [h, List.length_cons, Nat.pow_succ]
    have hb : val [b] ≤ 1 := by cases b <;> simp [val, bn]
    have : val [b] * 2 ^ l.length ≤ 1 * 2 ^ l.length := Nat.mul_le_mul_right _ hb
    omega
/-- The first bits of a number, and the others. -/
theorem val_split (l : List Bool) (m : Nat) (h : m ≤ l.length) : val (l.take m) = val l / 2 ^ (l.length - m) ∧ val (l.drop m) = val l % 2 ^ (l.length - m) := by
  have hv : val l = val (l.take m) * 2 ^ (l.drop m).length + val (l.drop m) := by rw [← val_append, List.take_append_drop]
  have hl : (l.drop m).length = l.length - m := by simp
  have hlt := val_lt (l.drop m)
  rw [hl] at hv hlt
  have hp : 0 < 2 ^ (l.length - m) := Nat.two_pow_pos _
  rw [hv]
  constructor
  · rw [Nat.mul_comm, Nat.mul_add_div hp, Nat.div_eq_of_lt hlt]; omega
  · rw [Nat.mul_comm, Nat.mul_add_mod, Nat.mod_eq_of_lt hlt]
/-- So many bits of a number. -/
def natBits (n : Nat) : Nat → List Bool
  | 0 => []
  | w + 1 => n.testBit w :: natBits n w
theorem natBits_len (n : Nat) : ∀ w, (natBits n w).length = w
  | 0 => rfl
  | w + 1 => by simp [natBits, natBits_len n w]
theorem natBits_val (n : Nat) : ∀ w, val (natBits n w) = n % 2 ^ w
  | 0 => by simp [natBits, val, Nat.mod_one]
  | w + 1 => by
    have h := val_append [n.testBit w] (natBits n w)
    simp only [List.singleton_append] at h
    rw [natBits, h, natBits_len, natBits_val n w]
    have hb : val [n.testBit w] = n / 2 ^ w % 2 := by
      have : n.testBit w = decide (n / 2 ^ w % 2 = 1) := by rw [Nat.testBit_eq_decide_div_mod_eq]
      rw [this]
      have := Nat.mod_two_eq_zero_or_one (n / 2 ^ w)
      rcases this with e | e <;> simp [val, bn, e]
    rw [hb, Nat.pow_succ, Nat.mod_mul]
    rw [Nat.mul_comm]
    omega
theorem val_ones : ∀ m, val (List.replicate m true) = 2 ^ m - 1
  | 0 => rfl
  | m + 1 => by
    have h := val_append [true] (List.replicate m true)
    simp only [List.singleton_append] at h
    rw [List.replicate_succ, h, val_ones m, List.length_replicate, Nat.pow_succ]
    have : val [true] = 1 := rfl
    have hp := Nat.two_pow_pos m
    rw [this]; omega
/-- Whole bytes. -/
def pack : Nat → List Bool → List UInt8
  | 0, _ => []
  | n + 1, l => UInt8.ofNat (val (l.take 8)) :: pack n (l.drop 8)
theorem pack_len : ∀ n l, (pack n l).length = n
  | 0, _ => rfl
  | n + 1, l => by simp [pack, pack_len n]
theorem pack_snoc : ∀ (n : Nat) (l : List Bool), pack (n + 1) l = pack n l ++ [UInt8.ofNat (val ((l.drop (8 * n)).take 8))]
  | 0, l => by simp [pack]
  | n + 1, l => by
    have ih := pack_snoc n (l.drop 8)
    rw [pack, ih, pack]
    simp only [List.cons_append, List.drop_drop]
    rw [show 8 + 8 * n = 8 * (n + 1) by omega]
theorem pack_app : ∀ (n : Nat) (l m : List Bool), 8 * n ≤ l.length → pack n (l ++ m) = pack n l
  | 0, _, _, _ => rfl
  | n + 1, l, m, h => by
    rw [pack, pack, List.take_append_of_le_length (by omega), List.drop_append_of_le_length (by omega), pack_app n (l.drop 8) m (by simp; omega)]
def codeBits (s : Nat) : List Bool := natBits (codeOf s).1 (codeOf s).2
def encBits (l : List UInt8) : List Bool := l.flatMap fun c => codeBits c.toNat
theorem encBits_len (l : List UInt8) : (encBits l).length = bitsOf l := by
  induction l with
  | nil => rfl
  | cons c l ih =>
    have e : bitsOf (c :: l) = (codeOf c.toNat).2 + bitsOf l := by simp [bitsOf]
    rw [e, ← ih]
    simp [encBits, codeBits, natBits_len]
def padded (b : List Bool) : List Bool := b ++ List.replicate ((8 - b.length % 8) % 8) true
theorem padded_len (b : List Bool) : (padded b).length = (b.length + 7) / 8 * 8 := by
  unfold padded
  rw [List.length_append, List.length_replicate]
  omega
/-- The bytes of codes. -/
def encL (l : List UInt8) : List UInt8 := pack ((bitsOf l + 7) / 8) (padded (encBits l))
theorem encL_len (l : List UInt8) : (encL l).length = (bitsOf l + 7) / 8 := pack_len _ _
end Go.Proofs.Ytgpddhoidlpcaaa
