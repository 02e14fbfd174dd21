/- Plain laws of what Prefix computes: integers. -/
import Derived.Test.YtjmafbiklebjcaaResP
import Derived.Test.YtjmafbiklebjcaaEngW
import Derived.Test.YtjmafbiklebjcaaHuffJ
set_option linter.unusedVariables false
set_option linter.unusedSimpArgs false
namespace Go.Proofs.Ytjmafbiklebjcaa
open Go.Proofs.Ytjmafbiklebjcaa.Eng
def bigP : Nat := 4294967296
/-- An integer's last bytes. -/
def vlq (n : Nat) : List UInt8 := if h : 128 ≤ n then UInt8.ofNat (128 + n % 128) :: vlq (n / 128) else [UInt8.ofNat n]
termination_by n
decreasing_by omega
theorem vlq_ge {n : Nat} (h : 128 ≤ n) : vlq n = UInt8.ofNat (128 + n % 128) :: vlq (n / 128) := by rw [vlq, dif_pos h]
theorem vlq_lt {n : Nat} (h : ¬ 128 ≤ n) : vlq n = [UInt8.ofNat n] := by rw [vlq, dif_neg h]
theorem vlq_len : ∀ (n m : Nat), n < 128 ^ m → 0 < m → (vlq n).length ≤ m
  | n, 0, _, h => by omega
  | n, m + 1, h, _ => by
    by_cases hn : 128 ≤ n
    · rw [vlq_ge hn]
      have hm : 0 < m := by
        rcases Nat.eq_zero_or_pos m with rfl | hm
        · simp at h; omega
        · exact hm
      have := vlq_len (n / 128) m (by rw [Nat.pow_succ] at h; omega) hm
      simp only [List.length_cons]; omega
    · rw [vlq_lt hn]; simp
def putL (first bits n : Nat) : List UInt8 := if n < 2 ^ bits - 1 then [UInt8.ofNat (first + n)] else UInt8.ofNat (first + (2 ^ bits - 1)) :: vlq (n - (2 ^ bits - 1))
def PGood (first : Nat) (bits n : Int) : Prop := (1 ≤ bits ∧ bits ≤ 8) ∧ (0 ≤ n ∧ n ≤ 2147483647) ∧ first % 2 ^ bits.toNat = 0
theorem bits_cases {b : Nat} (h1 : 1 ≤ b) (h2 : b ≤ 8) : b = 1 ∨ b = 2 ∨ b = 3 ∨ b = 4 ∨ b = 5 ∨ b = 6 ∨ b = 7 ∨ b = 8 := by omega
theorem top_facts {b : Nat} (h1 : 1 ≤ b) (h2 : b ≤ 8) : 1 ≤ 2 ^ b - 1 ∧ 2 ^ b - 1 ≤ 255 ∧ IntKind.i64.wrap (2 ^ min b 64) = ((2 ^ b : Nat) : Int) ∧ IntKind.i64.wrap (((2 ^ b : Nat) : Int) - 1) = ((2 ^ b - 1 : Nat) : Int) ∧ IntKind.u8.wrap (IntKind.u8.wrap (2 ^ min b 8) - 1) = ((2 ^ b - 1 : Nat) : Int) := by
  rcases bits_cases h1 h2 with rfl | rfl | rfl | rfl | rfl | rfl | rfl | rfl <;> decide
theorem or_top {b first n : Nat} (h2 : b ≤ 8) (hf : first < 256) (h : first % 2 ^ b = 0) (hn : n < 2 ^ b) : first ||| n = first + n := by
  have h1 : first = 2 ^ b * (first / 2 ^ b) := by have := Nat.div_add_mod first (2 ^ b); omega
  have h3 := Nat.two_pow_add_eq_or_of_lt (i := b) (b := n) hn (first / 2 ^ b)
  rw [← h1] at h3
  exact h3.symm
theorem or_128 : ∀ x : Fin 256, (x.1 ||| 128) = 128 + x.1 % 128 := by decide +kernel
theorem tmod_nat (a b : Nat) : (a : Int).tmod (b : Int) = ((a % b : Nat) : Int) := by rw [Int.tmod_eq_emod_of_nonneg (by omega)]; rfl
theorem tdiv_nat (a b : Nat) : (a : Int).tdiv (b : Int) = ((a / b : Nat) : Int) := rfl
theorem fdiv_nat (a b : Nat) : (a : Int).fdiv (b : Int) = ((a / b : Nat) : Int) := by
  rw [Int.fdiv_eq_ediv_of_nonneg _ (by omega)]; rfl
theorem wrapN {a : Nat} (h : a < 9223372036854775808) : IntKind.i64.wrap (a : Int) = (a : Int) := wrap64 (by omega) (by omega)
def PutOk (σ : AW) (first : Nat) (bits n : Int) (v : Value) (τ : AW) : Prop :=
  Ext σ τ ∧ ((PGood first bits n ∧ ∃ s, v = .tuple #[s, .int .i64 0] ∧ Own σ.next τ s 5 1 (putL first bits.toNat n.toNat).length ((putL first bits.toNat n.toNat).map Bt)) ∨ (¬ PGood first bits n ∧ v = .tuple #[.slice none 0 0, .int .i64 1]))
section
variable {σ : AW} {k first : Nat} {bits n : Int} {Q : Value → AW → Prop}
theorem put_bad (hf : first < 256) (hk : 1 ≤ k) (h : ¬ PGood first bits n) : wpA (callN Try.prog k 39 [.int .u8 first, .int .i64 bits, .int .i64 n]) σ fun v τ => v = .tuple #[.slice none 0 0, .int .i64 1] ∧ τ = σ := by
  rw [callN_at hk, R39.eq]
  by_cases a1 : bits < 1
  · simp [R39.g_75, R39.g_82, R39.g_85, R39.g_88, R39.top, a1]
  by_cases a2 : 8 < bits
  · simp [R39.g_75, R39.g_82, R39.g_85, R39.g_88, R39.top, a1, a2]
  by_cases a3 : n < 0
  · simp [R39.g_75, R39.g_82, R39.g_85, R39.g_88, R39.top, a1, a2, a3]
  by_cases a4 : 2147483647 < n
  · simp [R39.g_75, R39.g_82, R39.g_85, R39.g_88, R39.top, a1, a2, a3, a4]
  obtain ⟨b, rfl⟩ : ∃ b : Nat, bits = b := ⟨bits.toNat, by omega⟩
  obtain ⟨t1, t2, t3, t4, t5⟩ := top_facts (b := b) (by omega) (by omega)
  have hne : ¬ first % 2 ^ b = 0 := fun e => h ⟨⟨by omega, by omega⟩, ⟨by omega, by omega⟩, by simpa using e⟩
  have hb8 : IntKind.u8.bits = 8 := rfl
  have hb0 : (0 : Int) ≤ (b : Int) := by omega
  have hne' : ¬ ((first % 2 ^ b : Nat) : Int) = 0 := by omega
  simp [R39.g_75, R39.g_82, R39.g_85, R39.g_88, R39.top, -Int.natCast_emod, -Int.natCast_pow, a1, a2, a3, a4, hb8, t5]
  rw [wpA_andU8 hf (by omega), Nat.and_two_pow_sub_one_eq_mod]
  simp [R39.g_75, R39.g_82, R39.g_85, R39.g_88, R39.top, -Int.natCast_emod, -Int.natCast_pow, hne']
  intro h0
  exact absurd h0 hne
theorem pow_le {b : Nat} (h : b ≤ 8) : 2 ^ b ≤ 256 := Nat.pow_le_pow_right (n := 2) (by omega) h
theorem put_good {b m : Nat} (hf : first < 256) (h1 : 1 ≤ b) (h2 : b ≤ 8) (hm : m ≤ 2147483647) (h0 : first % 2 ^ b = 0) (hk : bigP + 20 ≤ k) :
    wpA (callN Try.prog k 39 [.int .u8 first, .int .i64 b, .int .i64 m]) σ fun v τ => Ext σ τ ∧ ∃ s, v = .tuple #[s, .int .i64 0] ∧ Own σ.next τ s 5 1 (putL first b m).length ((putL first b m).map Bt) := by
  rw [callN_at (by omega), R39.eq]
  have hbig : bigP + 19 ≤ k - 1 := by omega
  generalize hk1 : k - 1 = k1 at hbig
  obtain ⟨t1, t2, t3, t4, t5⟩ := top_facts (b := b) (by omega) (by omega)
  have hp := pow_le h2
  have a1 : ¬ ((b : Int) < 1) := by omega
  have a2 : ¬ (8 < (b : Int)) := by omega
  have a3 : ¬ ((m : Int) < 0) := by omega
  have a4 : ¬ (2147483647 < (m : Int)) := by omega
  have hb8 : IntKind.u8.bits = 8 := rfl
  have hb64 : IntKind.i64.bits = 64 := rfl
  have hb0 : (0 : Int) ≤ (b : Int) := by omega
  simp [R39.g_75, R39.g_82, R39.g_85, R39.g_88, R39.top, -Int.natCast_emod, -Int.natCast_pow, a1, a2, a3, a4, hb8, t5]
  rw [wpA_andU8 hf (by omega), Nat.and_two_pow_sub_one_eq_mod, h0]
  by_cases hlt : m < 2 ^ b - 1
  · have hlt' : (m : Int) < ((2 ^ b - 1 : Nat) : Int) := by omega
    have hwm : IntKind.u8.wrap (m : Int) = (m : Int) := by rw [u8_wrap]; omega
    have hsum : first + m < 256 := by
      have h3 : first ||| m < 2 ^ 8 := Nat.or_lt_two_pow hf (by omega)
      rw [or_top h2 hf h0 (by omega)] at h3
      exact h3
    have hL : (putL first b m).map Bt = [.int .u8 ((first + m : Nat) : Int)] := by
      unfold putL
      rw [if_pos hlt, List.map_cons, List.map_nil, ← u8_of, Nat.mod_eq_of_lt hsum]
    simp [R39.g_75, R39.g_82, R39.g_85, R39.g_88, R39.top, -Int.natCast_emod, -Int.natCast_pow, hb64, t3, t4, hlt', hlt, hwm]
    rw [wpA_orU8 hf (by omega), or_top h2 hf h0 (by omega), hL]
    simp [zeros, List.range_succ, -Int.natCast_add]
    refine ⟨Ext.push _ _, ?_⟩
    have e : (putL first b m).length = 1 := by unfold putL; rw [if_pos hlt]; rfl
    rw [e]
    exact own_new (Nat.le_refl _) rfl
  · have hlt' : ¬ (m : Int) < ((2 ^ b - 1 : Nat) : Int) := by omega
    have hwt : IntKind.u8.wrap ((2 ^ b - 1 : Nat) : Int) = ((2 ^ b - 1 : Nat) : Int) := by rw [u8_wrap]; omega
    have hsum : first + (2 ^ b - 1) < 256 := by
      have h3 : first ||| (2 ^ b - 1) < 2 ^ 8 := Nat.or_lt_two_pow hf (by omega)
      rw [or_top h2 hf h0 (by omega)] at h3
      exact h3
    have hL : putL first b m = UInt8.ofNat (first + (2 ^ b - 1)) :: vlq (m - (2 ^ b - 1)) := by unfold putL; rw [if_neg hlt]
    have hB1 : (.int .u8 ((first + (2 ^ b - 1) : Nat) : Int)) = Bt (UInt8.ofNat (first + (2 ^ b - 1))) := by rw [← u8_of, Nat.mod_eq_of_lt hsum]
    have hwd : IntKind.i64.wrap ((m : Int) - ((2 ^ b - 1 : Nat) : Int)) = ((m - (2 ^ b - 1) : Nat) : Int) := by rw [wrap64 (by omega) (by omega)]; omega
    simp [R39.g_75, R39.g_82, R39.g_85, R39.g_88, R39.top, -Int.natCast_emod, -Int.natCast_pow, hb64, t3, t4, hlt', hlt, hwt]
    rw [wpA_orU8 hf (by omega), or_top h2 hf h0 (by omega)]
    simp [zeros, List.range_succ, -Int.natCast_add, -Int.natCast_pow, hwd]
    generalize hT : σ.push (.cells [.int .u8 ((first + (2 ^ b - 1) : Nat) : Int)] 5 false) = T
    have hown0 : Own σ.next T (.slice (some ⟨σ.next, 0, some 1⟩) 1 1) 5 1 1 ([UInt8.ofNat (first + (2 ^ b - 1))].map Bt) := by
      rw [← hT, hB1]; exact own_new (Nat.le_refl _) rfl
    have hk0 : Kept σ.next σ T := by rw [← hT]; exact (Ext.push _ _).kept (Nat.le_refl _)
    refine aw_loop2 (fun r u v τ => ∃ (x : Nat) (acc : List UInt8), u = .int .i64 x ∧ r = x ∧ x ≤ 2147483647 ∧ acc.length ≤ 4294967296 - x ∧ Kept σ.next σ τ ∧ Own σ.next τ v 5 1 acc.length (acc.map Bt) ∧ acc ++ vlq x = putL first b m) ?_ k1 (m - (2 ^ b - 1)) _ _ T ⟨m - (2 ^ b - 1), [UInt8.ofNat (first + (2 ^ b - 1))], rfl, rfl, by omega, by simp; omega, hk0, hown0, by rw [hL]; rfl⟩ (by unfold bigP at hbig; omega)
    rintro x rec u v τ ⟨_, acc, rfl, rfl, hx, hal, hki, hown, heq⟩ hrec
    have hsn := hki.1
    by_cases hge : 128 ≤ x
    · have hge' : (128 : Int) ≤ (x : Int) := by omega
      have hor : ((x % 256 ||| 128 : Nat) : Int) = ((128 + x % 128 : Nat) : Int) := by
        have := or_128 ⟨x % 256, Nat.mod_lt _ (by omega)⟩
        simp only at this
        rw [this]; omega
      have hw : IntKind.u8.wrap (x : Int) = ((x % 256 : Nat) : Int) := u8_wrap x
      have hsh : (x : Int).fdiv 128 = ((x / 128 : Nat) : Int) := fdiv_nat x 128
      simp [R39.b_44, hge', hge, hw, -Int.natCast_emod]
      rw [show (128 : Int) = ((128 : Nat) : Int) from rfl, wpA_orU8 (Nat.mod_lt _ (by omega)) (by omega), hor]
      simp [zeros, List.range_succ, -Int.natCast_add, -Int.natCast_emod]
      refine aw_app1 hown rfl (by omega) (by omega) hsn fun w τ2 h3 h4 => ?_
      have hB2 : (.int .u8 ((128 + x % 128 : Nat) : Int)) = Bt (UInt8.ofNat (128 + x % 128)) := Bt_lt (by omega)
      simp [hb64, hsh, -Int.natCast_ediv]
      refine hrec (x / 128) _ _ _ (by omega) ⟨x / 128, acc ++ [UInt8.ofNat (128 + x % 128)], rfl, rfl, by omega, by simp; omega, hki.trans h4, ?_, ?_⟩
      · simpa [hB2, -Int.natCast_add, -Int.natCast_emod] using h3
      · rw [← heq, vlq_ge hge]; simp
    · have hge' : ¬ (128 : Int) ≤ (x : Int) := by omega
      have hw : IntKind.u8.wrap (x : Int) = (x : Int) := by rw [u8_wrap]; omega
      have hB2 : (.int .u8 (x : Int)) = Bt (UInt8.ofNat x) := Bt_lt (by omega)
      simp [R39.b_44, hge', hge, hw, zeros, List.range_succ]
      refine aw_app1 hown rfl (by omega) (by omega) hsn fun w τ2 h3 h4 => ?_
      refine ⟨(hki.trans h4), ?_⟩
      rw [← heq, vlq_lt hge]
      rw [hB2] at h3
      simpa using h3
theorem rput_bad (hf : first < 256) (hk : 1 ≤ k) (h : ¬ PGood first bits n) : wpA (callN Try.prog k 34 [.int .u8 first, .int .i64 bits, .int .i64 n]) σ fun v τ => v = .tuple #[.slice none 0 0, .int .i64 1] ∧ τ = σ := by
  rw [callN_at hk, R34.eq]
  by_cases a1 : bits < 1
  · simp [R34.g_81, R34.g_84, R34.g_87, R34.top, a1]
  by_cases a2 : 8 < bits
  · simp [R34.g_81, R34.g_84, R34.g_87, R34.top, a1, a2]
  by_cases a3 : n < 0
  · simp [R34.g_81, R34.g_84, R34.g_87, R34.top, a1, a2, a3]
  by_cases a4 : 2147483647 < n
  · simp [R34.g_81, R34.g_84, R34.g_87, R34.top, a1, a2, a3, a4]
  obtain ⟨b, rfl⟩ : ∃ b : Nat, bits = b := ⟨bits.toNat, by omega⟩
  obtain ⟨t1, t2, t3, t4, t5⟩ := top_facts (b := b) (by omega) (by omega)
  have hne : ¬ first % 2 ^ b = 0 := fun e => h ⟨⟨by omega, by omega⟩, ⟨by omega, by omega⟩, by simpa using e⟩
  have hb64 : IntKind.i64.bits = 64 := rfl
  have hb0 : (0 : Int) ≤ (b : Int) := by omega
  have hwb : IntKind.u64.wrap (b : Int) = (b : Int) := wrap_id (by simp [Lit.wf, IntKind.min, IntKind.max, IntKind.signed, IntKind.bits]; omega)
  have hwf : IntKind.i64.wrap (first : Int) = (first : Int) := wrapN (by omega)
  have hw1 : IntKind.i64.wrap (((2 ^ b - 1 : Nat) : Int) + 1) = ((2 ^ b : Nat) : Int) := by rw [wrap64 (by omega) (by omega)]; omega
  have hz : ((2 ^ b : Nat) : Int) ≠ 0 := by have := Nat.two_pow_pos b; omega
  have hne' : ¬ ((first % 2 ^ b : Nat) : Int) = 0 := by omega
  simp [R34.g_81, R34.g_84, R34.g_87, R34.top, -Int.natCast_emod, -Int.natCast_pow, a1, a2, a3, a4, hb64, hwb, t3, t4, hwf, hw1, hz, tmod_nat, hne']
  intro h0
  exact absurd h0 hne
theorem rput_good {b m : Nat} (hf : first < 256) (h1 : 1 ≤ b) (h2 : b ≤ 8) (hm : m ≤ 2147483647) (h0 : first % 2 ^ b = 0) (hk : bigP + 20 ≤ k) :
    wpA (callN Try.prog k 34 [.int .u8 first, .int .i64 b, .int .i64 m]) σ fun v τ => Ext σ τ ∧ ∃ s, v = .tuple #[s, .int .i64 0] ∧ Own σ.next τ s 5 1 (putL first b m).length ((putL first b m).map Bt) := by
  rw [callN_at (by omega), R34.eq]
  have hbig : bigP + 19 ≤ k - 1 := by omega
  generalize hk1 : k - 1 = k1 at hbig
  obtain ⟨t1, t2, t3, t4, t5⟩ := top_facts (b := b) (by omega) (by omega)
  have hp := pow_le h2
  have a1 : ¬ ((b : Int) < 1) := by omega
  have a2 : ¬ (8 < (b : Int)) := by omega
  have a3 : ¬ ((m : Int) < 0) := by omega
  have a4 : ¬ (2147483647 < (m : Int)) := by omega
  have hb64 : IntKind.i64.bits = 64 := rfl
  have hb0 : (0 : Int) ≤ (b : Int) := by omega
  have hwb : IntKind.u64.wrap (b : Int) = (b : Int) := wrap_id (by simp [Lit.wf, IntKind.min, IntKind.max, IntKind.signed, IntKind.bits]; omega)
  have hwf : IntKind.i64.wrap (first : Int) = (first : Int) := wrapN (by omega)
  have hw1 : IntKind.i64.wrap (((2 ^ b - 1 : Nat) : Int) + 1) = ((2 ^ b : Nat) : Int) := by rw [wrap64 (by omega) (by omega)]; omega
  have hz : ((2 ^ b : Nat) : Int) ≠ 0 := by have := Nat.two_pow_pos b; omega
  by_cases hlt : m < 2 ^ b - 1
  · have hlt' : (m : Int) < ((2 ^ b - 1 : Nat) : Int) := by omega
    have hwm : IntKind.u8.wrap (m : Int) = (m : Int) := by rw [u8_wrap]; omega
    have hsum : first + m < 256 := by
      have h3 : first ||| m < 2 ^ 8 := Nat.or_lt_two_pow hf (by omega)
      rw [or_top h2 hf h0 (by omega)] at h3
      exact h3
    have hws : IntKind.u8.wrap ((first : Int) + (m : Int)) = ((first + m : Nat) : Int) := by rw [show (first : Int) + (m : Int) = ((first + m : Nat) : Int) by omega, u8_wrap, Nat.mod_eq_of_lt hsum]
    have hL : (putL first b m).map Bt = [.int .u8 ((first + m : Nat) : Int)] := by
      unfold putL
      rw [if_pos hlt, List.map_cons, List.map_nil, ← u8_of, Nat.mod_eq_of_lt hsum]
    simp [R34.g_81, R34.g_84, R34.g_87, R34.top, -Int.natCast_emod, -Int.natCast_pow, -Int.natCast_add, a1, a2, a3, a4, hb64, hwb, t3, t4, hwf, hw1, hz, tmod_nat, h0, hlt', hlt, hwm, hws, zeros, List.range_succ]
    rw [hL]
    refine ⟨Ext.push _ _, ?_⟩
    have e : (putL first b m).length = 1 := by unfold putL; rw [if_pos hlt]; rfl
    rw [e]
    exact own_new (Nat.le_refl _) rfl
  · have hlt' : ¬ (m : Int) < ((2 ^ b - 1 : Nat) : Int) := by omega
    have hwt : IntKind.u8.wrap ((2 ^ b - 1 : Nat) : Int) = ((2 ^ b - 1 : Nat) : Int) := by rw [u8_wrap]; omega
    have hsum : first + (2 ^ b - 1) < 256 := by
      have h3 : first ||| (2 ^ b - 1) < 2 ^ 8 := Nat.or_lt_two_pow hf (by omega)
      rw [or_top h2 hf h0 (by omega)] at h3
      exact h3
    have hws : IntKind.u8.wrap ((first : Int) + ((2 ^ b - 1 : Nat) : Int)) = ((first + (2 ^ b - 1) : Nat) : Int) := by rw [show (first : Int) + ((2 ^ b - 1 : Nat) : Int) = ((first + (2 ^ b - 1) : Nat) : Int) by omega, u8_wrap, Nat.mod_eq_of_lt hsum]
    have hL : putL first b m = UInt8.ofNat (first + (2 ^ b - 1)) :: vlq (m - (2 ^ b - 1)) := by unfold putL; rw [if_neg hlt]
    have hB1 : (.int .u8 ((first + (2 ^ b - 1) : Nat) : Int)) = Bt (UInt8.ofNat (first + (2 ^ b - 1))) := by rw [← u8_of, Nat.mod_eq_of_lt hsum]
    have hwd : IntKind.i64.wrap ((m : Int) - ((2 ^ b - 1 : Nat) : Int)) = ((m - (2 ^ b - 1) : Nat) : Int) := by rw [wrap64 (by omega) (by omega)]; omega
    simp [R34.g_81, R34.g_84, R34.g_87, R34.top, -Int.natCast_emod, -Int.natCast_pow, -Int.natCast_add, a1, a2, a3, a4, hb64, hwb, t3, t4, hwf, hw1, hz, tmod_nat, h0, hlt', hlt, hwt, hws, hwd, zeros, List.range_succ]
    generalize hT : σ.push (.cells [.int .u8 ((first + (2 ^ b - 1) : Nat) : Int)] 5 false) = T
    have hown0 : Own σ.next T (.slice (some ⟨σ.next, 0, some 1⟩) 1 1) 5 1 1 ([UInt8.ofNat (first + (2 ^ b - 1))].map Bt) := by
      rw [← hT, hB1]; exact own_new (Nat.le_refl _) rfl
    have hk0 : Kept σ.next σ T := by rw [← hT]; exact (Ext.push _ _).kept (Nat.le_refl _)
    refine aw_loop2 (fun r u v τ => ∃ (x : Nat) (acc : List UInt8), u = .int .i64 x ∧ r = x ∧ x ≤ 2147483647 ∧ acc.length ≤ 4294967296 - x ∧ Kept σ.next σ τ ∧ Own σ.next τ v 5 1 acc.length (acc.map Bt) ∧ acc ++ vlq x = putL first b m) ?_ k1 (m - (2 ^ b - 1)) _ _ T ⟨m - (2 ^ b - 1), [UInt8.ofNat (first + (2 ^ b - 1))], rfl, rfl, by omega, by simp; omega, hk0, hown0, by rw [hL]; rfl⟩ (by unfold bigP at hbig; omega)
    rintro x rec u v τ ⟨_, acc, rfl, rfl, hx, hal, hki, hown, heq⟩ hrec
    have hsn := hki.1
    by_cases hge : 128 ≤ x
    · have hge' : (128 : Int) ≤ (x : Int) := by omega
      have htm : (x : Int).tmod 128 = ((x % 128 : Nat) : Int) := tmod_nat x 128
      have htd : (x : Int).tdiv 128 = ((x / 128 : Nat) : Int) := rfl
      have hw1 : IntKind.i64.wrap (128 + ((x % 128 : Nat) : Int)) = ((128 + x % 128 : Nat) : Int) := by rw [wrap64 (by omega) (by omega)]; omega
      have hw2 : IntKind.u8.wrap ((128 + x % 128 : Nat) : Int) = ((128 + x % 128 : Nat) : Int) := by rw [u8_wrap]; omega
      have hw3 : IntKind.i64.wrap ((x / 128 : Nat) : Int) = ((x / 128 : Nat) : Int) := wrapN (by omega)
      have hB2 : (.int .u8 ((128 + x % 128 : Nat) : Int)) = Bt (UInt8.ofNat (128 + x % 128)) := Bt_lt (by omega)
      simp [R34.b_44, hge', hge, htm, hw1, hw2, zeros, List.range_succ, -Int.natCast_emod, -Int.natCast_add]
      refine aw_app1 hown rfl (by omega) (by omega) hsn fun w τ2 h3 h4 => ?_
      rw [show IntKind.i64.wrap ((x : Int) / 128) = ((x / 128 : Nat) : Int) from hw3]
      refine hrec (x / 128) _ _ _ (by omega) ⟨x / 128, acc ++ [UInt8.ofNat (128 + x % 128)], rfl, rfl, by omega, by simp; omega, hki.trans h4, ?_, ?_⟩
      · simpa [hB2, -Int.natCast_add, -Int.natCast_emod] using h3
      · rw [← heq, vlq_ge hge]; simp
    · have hge' : ¬ (128 : Int) ≤ (x : Int) := by omega
      have hw : IntKind.u8.wrap (x : Int) = (x : Int) := by rw [u8_wrap]; omega
      have hB2 : (.int .u8 (x : Int)) = Bt (UInt8.ofNat x) := Bt_lt (by omega)
      simp [R34.b_44, hge', hge, hw, zeros, List.range_succ]
      refine aw_app1 hown rfl (by omega) (by omega) hsn fun w τ2 h3 h4 => ?_
      refine ⟨(hki.trans h4), ?_⟩
      rw [← heq, vlq_lt hge]
      rw [hB2] at h3
      simpa using h3
theorem putL_awake : putL 0 5 1337 = [31, 154, 10] := by
  unfold putL
  rw [if_neg (by decide), vlq_ge (by decide), vlq_lt (by decide)]
  rfl
end
end Go.Proofs.Ytjmafbiklebjcaa

namespace Go.Proofs.Ytjmafbiklebjcaa
open Go.Proofs.Ytjmafbiklebjcaa.Eng
def putTextL (s : List UInt8) (sh : Bool) : List UInt8 := if sh = true ∧ (encL s).length < s.length then putL 128 7 (encL s).length ++ encL s else putL 0 7 s.length ++ s
/-- How much there may be beside each other: enough for both. -/
def bigK : Nat := 4294967296 + 1073741824 + 2000
def PutTextV (B : Nat) (τ : AW) (v : Value) (s : List UInt8) (sh : Bool) : Prop :=
  (s.length ≤ 16384 ∧ ∃ w, v = .tuple #[w, .int .i64 0] ∧ Own B τ w 5 1 (putTextL s sh).length ((putTextL s sh).map Bt)) ∨ (16384 < s.length ∧ v = .tuple #[.slice none 0 0, .int .i64 2])
theorem vlq_le : ∀ n : Nat, (vlq n).length ≤ n + 1
  | n => by
    by_cases h : 128 ≤ n
    · rw [vlq_ge h, List.length_cons]
      have := vlq_le (n / 128)
      omega
    · rw [vlq_lt h]; simp
theorem putL_le (f b n : Nat) : (putL f b n).length ≤ n + 2 := by
  unfold putL
  split
  · simp
  · have := vlq_le (n - (2 ^ b - 1))
    simp only [List.length_cons]
    omega
section
variable {σ : AW} {k : Nat} {Q : Value → AW → Prop}
theorem toBytes_iff {s : List UInt8} : wpA (toBytesA 5 (Tx s)) σ Q ↔ Q (.slice (some ⟨σ.next, 0, some 1⟩) s.length s.length) (σ.push (.cells (s.map Bt) 5 false)) := by
  refine wpA_iff ?_
  have e : ((⟨s.toArray⟩ : ByteArray).data.toList.map fun b : UInt8 => Value.int .u8 b.toNat) = s.map Bt := by simp [Bt]
  rw [← e]
  rfl
/-- A text is appended. -/
theorem aw_appStr {B : Nat} {n : Nat} {v : Value} {vs : List Value} {s : List UInt8} (hs : Own B σ v 5 1 n vs) (hroom : n + s.length ≤ 2 ^ 47) (hB : B ≤ σ.next)
    (h : ∀ w τ, Own B τ w 5 1 (n + s.length) (vs ++ s.map Bt) → Kept B σ τ → Q w τ) : wpA (appendA 5 1 1 v (Tx s)) σ Q := by
  have hsrc : σ.source 1 (Tx s) = some (s.length, s.map Bt) := by
    have e : ((⟨s.toArray⟩ : ByteArray).data.toList.map fun b : UInt8 => Value.int .u8 b.toNat) = s.map Bt := by simp [Bt]
    show some (_, _) = _
    rw [← e]
    rfl
  rcases Nat.eq_zero_or_pos s.length with h0 | hm
  · have hu : s = [] := List.length_eq_zero_iff.1 h0
    subst hu
    refine ⟨v, σ, ?_, h v σ (by simpa using hs) (Kept.refl _ _)⟩
    obtain ⟨_, ⟨rfl, rfl⟩ | ⟨b, c, ws, rfl, hcl, _⟩⟩ := hs
    · simp [appendA, hsrc]
    · simp [appendA, hsrc, hcl]
  · have hm0 : s.length ≠ 0 := by omega
    have hc := all_Bt s
    have hl : (s.map Bt).length = s.length * 1 := by simp
    obtain ⟨h1, ⟨rfl, rfl⟩ | ⟨b, c, ws, rfl, h3, h3', h4, h5, h6, h7⟩⟩ := hs
    · have hvs : vs = [] := by simpa using h1
      subst hvs
      refine ⟨.slice (some ⟨σ.next, 0, some 1⟩) s.length s.length, σ.push (.cells (s.map Bt) 5 false), ?_, h _ _ ?_ ((Ext.push σ _).kept hB)⟩
      · simp only [appendA, hsrc]
        rw [if_pos hl, if_neg hm0, if_pos ⟨by omega, hc⟩, if_pos ⟨trivial, trivial, by omega⟩]
      · rw [Nat.zero_add, List.nil_append]
        exact own_new hB (by simp)
    · refine ⟨.slice (some ⟨σ.next, 0, some 1⟩) (n + s.length) (n + s.length), (σ.put b none).push (.cells ((ws.drop 0).take (n * 1) ++ s.map Bt) 5 false), ?_, h _ _ ⟨?_, .inr ⟨σ.next, n + s.length, vs ++ s.map Bt, rfl, by omega, hB, by simp, ?_, ?_, ?_⟩⟩ ?_⟩
      · simp only [appendA, hsrc, h5]
        rw [if_pos hl, if_neg hm0, if_pos ⟨by omega, hc⟩, if_pos ⟨trivial, trivial, by omega, by omega⟩]
      · simp [h1]
      · rw [AW.get_push]
        simp at h7
        simp [h7]
      · simp [h1]
      · rw [List.take_of_length_le (by simp [h1])]
      · exact ((Kept.refl B σ).put h3' none).push hB _
theorem puttext_spec {s : List UInt8} {sh : Bool} (hs : s.length ≤ 1048576) (hk : bigK ≤ k) : wpA (callN Try.prog k 42 [Tx s, .bool sh]) σ fun v τ => Ext σ τ ∧ PutTextV σ.next τ v s sh := by
  rw [callN_at (by unfold bigK at hk; omega), R42.eq]
  have hbig : 4294967296 + 1073741824 + 1999 ≤ k - 1 := by unfold bigK at hk; omega
  generalize hk1 : k - 1 = k1 at hbig
  clear hk hk1
  by_cases hlong : 16384 < s.length
  · have hl' : (16384 : Int) < (s.length : Int) := by omega
    simp [R42.g_33, R42.top, lenStr_iff, hlong, hl']
    exact ⟨Ext.refl _, .inr ⟨hlong, rfl⟩⟩
  have hl' : ¬ (16384 : Int) < (s.length : Int) := by omega
  have hpk : bigP + 20 ≤ k1 := by unfold bigP; omega
  have hE : Ext σ (σ.push (.cells (s.map Bt) 5 false)) := Ext.push _ _
  have own0 : Own σ.next (σ.push (.cells (s.map Bt) 5 false)) (.slice (some ⟨σ.next, 0, some 1⟩) s.length s.length) 5 1 s.length (s.map Bt) := own_new (Nat.le_refl _) (by simp)
  have fin : ∀ (f : Nat) (t : List UInt8) (w : Value) (υ : AW), f < 256 → f % 2 ^ 7 = 0 → t.length ≤ 16384 → Ext σ υ → Sl υ w 1 t.length (t.map Bt) → putTextL s sh = putL f 7 t.length ++ t → wpA (R42.j_22 (callN Try.prog k1) k1 (.int .u8 f) w) υ fun v τ => Ext σ τ ∧ PutTextV σ.next τ v s sh := by
    intro f t w υ hf h0 ht ex hw e
    have hpl := putL_le f 7 t.length
    simp [R42.j_22, len_iff hw]
    refine (put_good hf (by omega) (by omega) (by omega) h0 hpk).mono ?_
    rintro _ τ ⟨he, p, rfl, op⟩
    try simp
    refine aw_appAny op (hw.ext he) (all_Bt t) (by omega) (by omega) he.1 fun z τ2 h3 h4 => ?_
    try simp
    have exn := ex.1
    refine ⟨Kept.ext ((((ex.trans he).kept (Nat.le_refl _))).trans (h4.mono (by omega))), .inl ⟨by omega, z, rfl, ?_⟩⟩
    rw [e, List.length_append, List.map_append]
    exact h3.mono (by omega)
  have hle := encL_len s
  cases sh with
  | false =>
    simp [R42.g_33, R42.top, lenStr_iff, toBytes_iff, hl', hlong]
    exact fin 0 s _ _ (by omega) rfl (by omega) hE own0.sl (by unfold putTextL; rw [if_neg (by simp)])
  | true =>
    have hlH : s.length < bigH := by unfold bigH; omega
    have h17 : bigH + 1300 ≤ k1 := by unfold bigH; omega
    have h18 : bigH + 1400 ≤ k1 := by unfold bigH; omega
    simp [R42.g_33, R42.top, lenStr_iff, toBytes_iff, hl', hlong]
    refine (length_spec own0.sl hlH h17).mono ?_
    rintro _ τ ⟨he, rfl⟩
    have own1 := own0.ext he
    by_cases hsh : (encL s).length < s.length
    · have hsh' : (((bitsOf s + 7) / 8 : Nat) : Int) < (s.length : Int) := by omega
      simp only [wpA_lss, wpA_bindV, wpA_pick, wpA_ret, wpA_cond, hsh', decide_true, if_true]
      refine (encode_spec own1.sl hlH h18).mono ?_
      rintro w τ2 ⟨he2, ow⟩
      exact fin 128 (encL s) w τ2 (by omega) rfl (by omega) ((hE.trans he).trans he2) ow.sl (by unfold putTextL; rw [if_pos ⟨rfl, hsh⟩])
    · have hsh' : ¬ (((bitsOf s + 7) / 8 : Nat) : Int) < (s.length : Int) := by omega
      simp only [wpA_lss, wpA_bindV, wpA_pick, wpA_ret, wpA_cond, hsh', decide_false, Bool.false_eq_true, if_false, if_true]
      exact fin 0 s _ _ (by omega) rfl (by omega) (hE.trans he) own1.sl (by unfold putTextL; rw [if_neg (fun h => hsh h.2)])
theorem rputtext_spec {s : List UInt8} {sh : Bool} (hs : s.length ≤ 1048576) (hk : bigK ≤ k) : wpA (callN Try.prog k 45 [Tx s, .bool sh]) σ fun v τ => Ext σ τ ∧ PutTextV σ.next τ v s sh := by
  rw [callN_at (by unfold bigK at hk; omega), R45.eq]
  have hbig : 4294967296 + 1073741824 + 1999 ≤ k - 1 := by unfold bigK at hk; omega
  generalize hk1 : k - 1 = k1 at hbig
  clear hk hk1
  by_cases hlong : 16384 < s.length
  · have hl' : (16384 : Int) < (s.length : Int) := by omega
    simp [R45.top, lenStr_iff, hlong, hl']
    exact ⟨Ext.refl _, .inr ⟨hlong, rfl⟩⟩
  have hl' : ¬ (16384 : Int) < (s.length : Int) := by omega
  have hpk : bigP + 20 ≤ k1 := by unfold bigP; omega
  have hE : Ext σ (σ.push (.cells (s.map Bt) 5 false)) := Ext.push _ _
  have own0 : Own σ.next (σ.push (.cells (s.map Bt) 5 false)) (.slice (some ⟨σ.next, 0, some 1⟩) s.length s.length) 5 1 s.length (s.map Bt) := own_new (Nat.le_refl _) (by simp)
  have fin : ∀ υ : AW, Ext σ υ → putTextL s sh = putL 0 7 s.length ++ s → wpA (R45.j_15 (callN Try.prog k1) k1 (Tx s)) υ fun v τ => Ext σ τ ∧ PutTextV σ.next τ v s sh := by
    intro υ ex e
    have hpl := putL_le 0 7 s.length
    simp [R45.j_15, lenStr_iff]
    refine (rput_good (first := 0) (b := 7) (m := s.length) (by omega) (by omega) (by omega) (by omega) rfl hpk).mono ?_
    rintro _ τ ⟨he, p, rfl, op⟩
    try simp
    refine aw_appStr op (by omega) he.1 fun z τ2 h3 h4 => ?_
    try simp
    have exn := ex.1
    refine ⟨Kept.ext ((((ex.trans he).kept (Nat.le_refl _))).trans (h4.mono (by omega))), .inl ⟨by omega, z, rfl, ?_⟩⟩
    rw [e, List.length_append, List.map_append]
    exact h3.mono (by omega)
  have hle := encL_len s
  cases sh with
  | false =>
    simp [R45.top, lenStr_iff, hl', hlong]
    exact fin σ (Ext.refl _) (by unfold putTextL; rw [if_neg (by simp)])
  | true =>
    have hlH : s.length < bigH := by unfold bigH; omega
    have h19 : 8 * bigH * 4 + 1500 ≤ k1 := by unfold bigH; omega
    simp [R45.top, lenStr_iff, toBytes_iff, hl', hlong]
    refine (rencode_spec own0.sl hlH h19).mono ?_
    rintro w τ ⟨he, ow⟩
    by_cases hsh : (encL s).length < s.length
    · have hsh' : ((encL s).length : Int) < (s.length : Int) := by omega
      simp [len_iff ow.sl, lenStr_iff, hsh, hsh']
      refine (rput_good (first := 128) (b := 7) (m := (encL s).length) (by omega) (by omega) (by omega) (by omega) rfl hpk).mono ?_
      rintro _ τ2 ⟨he2, p, rfl, op⟩
      try simp
      have hpl := putL_le 128 7 (encL s).length
      refine aw_appAny op (ow.sl.ext he2) (all_Bt _) (by omega) (by omega) he2.1 fun z τ3 h3 h4 => ?_
      try simp
      have ex := hE.trans he
      have exn := ex.1
      refine ⟨Kept.ext ((((ex.trans he2).kept (Nat.le_refl _))).trans (h4.mono (by omega))), .inl ⟨by omega, z, rfl, ?_⟩⟩
      rw [show putTextL s true = putL 128 7 (encL s).length ++ encL s by unfold putTextL; rw [if_pos ⟨rfl, hsh⟩], List.length_append, List.map_append]
      exact h3.mono (by omega)
    · have hsh' : ¬ ((encL s).length : Int) < (s.length : Int) := by omega
      simp [len_iff ow.sl, lenStr_iff, hsh, hsh']
      exact fin τ (hE.trans he) (by unfold putTextL; rw [if_neg (fun h => hsh h.2)])
end
end Go.Proofs.Ytjmafbiklebjcaa
