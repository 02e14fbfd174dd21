/- The reference's Encode; HuffEncodes. -/
import Derived.Test.YtgpddhoidlpcaaaHuffL
set_option linter.unusedVariables false
set_option linter.unusedSimpArgs false
namespace Go.Proofs.Ytgpddhoidlpcaaa
open Go.Proofs.Ytgpddhoidlpcaaa.Eng
theorem val_snoc (l : List Bool) (b : Bool) : val (l ++ [b]) = val l * 2 + bn b := by
  rw [val_append]
  have : val [b] = bn b := by cases b <;> rfl
  rw [this]; simp
theorem bn_le (b : Bool) : bn b ≤ 1 := by cases b <;> simp [bn]
section
variable {σ : AW} {k : Nat} {Q : Value → AW → Prop}
theorem rencode_spec {x : Value} {l : List UInt8} {n : Nat} (hx : Sl σ x 1 n (l.map Bt)) (hl : l.length < bigH) (hk : 8 * bigH * 4 + 1500 ≤ k) : wpA (callN Try.prog k 19 [x]) σ fun v τ => Ext σ τ ∧ Own σ.next τ v 5 1 (encL l).length ((encL l).map Bt) := by
  have e1 : n = l.length := by have := hx.1; simp at this; omega
  subst e1
  rw [callN_at (by omega), R19.eq]
  have hbH : bigH = 4194304 := rfl
  have hbig : 8 * bigH * 4 + 1499 ≤ k - 1 := by omega
  generalize hk1 : k - 1 = k1 at hbig
  have hl2 : l.length < 4194304 := hl
  have hbig2 : 4194304 * 32 + 1499 ≤ k1 := by omega
  simp [R19.top]
  refine (rbits_spec hx hl (by omega)).mono ?_
  rintro w τ ⟨he, ow⟩
  clear hbH hbig hl hk hk1
  have hbl := encBits_app_len l
  have hpl := padded_len (encBits l)
  have hsz : (encBits l).length = bitsOf l := encBits_len l
  have hencL : encL l = pack ((bitsOf l + 7) / 8) (padded (encBits l)) := rfl
  rw [← hsz] at hencL
  generalize hm : ((encBits l).length + 7) / 8 = m at *
  have hm2 : m * 8 < 4194304 * 32 := by omega
  generalize hbits : padded (encBits l) = bits at *
  clear hbits hsz hbl hm
  have hw := ow.sl
  have hen := he.1
  refine aw_loop2 (fun r u v υ => ∃ i : Nat, v = .int .i64 ((8 * i : Nat) : Int) ∧ i ≤ m ∧ r = m - i ∧ Ext τ υ ∧ Own τ.next υ u 5 1 (pack i bits).length ((pack i bits).map Bt)) ?_ k1 m _ _ τ ⟨0, by simp, by omega, rfl, Ext.refl _, by simpa [pack] using Own.nil _ _ _ _⟩ (by omega)
  rintro r rec u v υ ⟨i, rfl, hi, rfl, ex, own⟩ hrec
  have hwU := hw.ext ex
  have hpk := pack_len i bits
  by_cases hlt : i < m
  · have h1 : ((8 * i : Nat) : Int) < (bits.length : Int) := by omega
    have h1' : 8 * i < bits.length := by omega
    simp [R19.b_54, len_iff hwU, h1, h1', -Int.natCast_mul]
    refine aw_loop2 (fun r2 u2 v2 υ2 => ∃ j : Nat, j ≤ 8 ∧ r2 = 8 - j ∧ u2 = .int .u8 (val ((bits.drop (8 * i)).take j) : Nat) ∧ v2 = .int .i64 j ∧ υ2 = υ) ?_ k1 8 _ _ υ ⟨0, by omega, rfl, by simp [val], by simp, rfl⟩ (by omega)
    rintro r2 rec2 u2 v2 υ2 ⟨j, hj, rfl, rfl, rfl, rfl⟩ hrec2
    by_cases hj8 : j < 8
    · have hj8' : (j : Int) < 8 := by omega
      obtain ⟨b, hb⟩ : ∃ b, bits[8 * i + j]? = some b := ⟨_, List.getElem?_eq_getElem (by omega)⟩
      have htk : (bits.drop (8 * i)).take (j + 1) = (bits.drop (8 * i)).take j ++ [b] := by rw [List.take_add_one, List.getElem?_drop, hb]; rfl
      have hvl := val_lt ((bits.drop (8 * i)).take j)
      have hlj : ((bits.drop (8 * i)).take j).length = j := by rw [List.length_take, List.length_drop]; omega
      rw [hlj] at hvl
      have hp7 : 2 ^ j ≤ 2 ^ 7 := Nat.pow_le_pow_right (by omega) (by omega)
      have hbn := bn_le b
      have hvs := val_snoc ((bits.drop (8 * i)).take j) b
      rw [← htk] at hvs
      generalize val ((bits.drop (8 * i)).take j) = V at *
      have w1 : IntKind.u8.wrap ((V : Int) * 2) = ((V * 2 : Nat) : Int) := by rw [show (V : Int) * 2 = ((V * 2 : Nat) : Int) by omega, u8_wrap, Nat.mod_eq_of_lt (by omega)]
      have w2 : IntKind.u8.wrap (((V * 2 : Nat) : Int) + (bn b : Int)) = ((V * 2 + bn b : Nat) : Int) := by rw [show ((V * 2 : Nat) : Int) + (bn b : Int) = ((V * 2 + bn b : Nat) : Int) by omega, u8_wrap, Nat.mod_eq_of_lt (by omega)]
      have w3 : IntKind.i64.wrap (((8 * i : Nat) : Int) + (j : Int)) = ((8 * i + j : Nat) : Int) := by rw [wrap64 (by omega) (by omega)]; omega
      have w4 : IntKind.i64.wrap ((j : Int) + 1) = ((j + 1 : Nat) : Int) := wrap64 (by omega) (by omega)
      simp [R19.b_48, hj8, hj8', w1, w2, w3, w4, ↓at1_all hwU hb, Bb, -Int.natCast_mul, -Int.natCast_add]
      exact hrec2 (8 - (j + 1)) _ _ _ (by omega) ⟨j + 1, by omega, rfl, by rw [hvs], rfl, rfl⟩
    · have ej : j = 8 := by omega
      subst ej
      have w5 : IntKind.i64.wrap (((8 * i : Nat) : Int) + 8) = ((8 * (i + 1) : Nat) : Int) := by rw [wrap64 (by omega) (by omega)]; omega
      have hvl := val_lt ((bits.drop (8 * i)).take 8)
      have hlj : ((bits.drop (8 * i)).take 8).length = 8 := by rw [List.length_take, List.length_drop]; omega
      rw [hlj] at hvl
      have hB2 := Bt_lt hvl
      simp [R19.b_48, w5, zeros, List.range_succ, -Int.natCast_mul, -Int.natCast_add]
      refine aw_app1 own rfl (by omega) (by omega) ex.1 fun v τ3 h3 h4 => ?_
      refine hrec (m - (i + 1)) _ _ _ (by omega) ⟨i + 1, rfl, by omega, rfl, ⟨by have := ex.1; have := h4.1; omega, fun b hb => by rw [h4.2 b hb]; exact ex.2 b hb⟩, ?_⟩
      rw [pack_snoc, List.length_append, List.map_append]
      rw [hB2] at h3
      exact h3
  · have e : i = m := by omega
    subst e
    have h1 : ¬ ((8 * i : Nat) : Int) < (bits.length : Int) := by omega
    have h1' : ¬ 8 * i < bits.length := by omega
    simp [R19.b_54, len_iff hwU, h1, h1', -Int.natCast_mul]
    rw [hencL]
    exact ⟨he.trans ex, own.mono (by omega)⟩
end
end Go.Proofs.Ytgpddhoidlpcaaa
