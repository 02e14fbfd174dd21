/- The reference's bits. -/
import Derived.Test.YtgpddhoidlpcaaaHuffI
set_option linter.unusedVariables false
set_option linter.unusedSimpArgs false
namespace Go.Proofs.Ytgpddhoidlpcaaa
open Go.Proofs.Ytgpddhoidlpcaaa.Eng
theorem natBits_at (n : Nat) : ∀ w i, (natBits n w)[i]? = if i < w then some (n.testBit (w - 1 - i)) else none
  | 0, i => by simp [natBits]
  | w + 1, 0 => by simp [natBits]
  | w + 1, i + 1 => by
    simp only [natBits, List.getElem?_cons_succ, natBits_at n w i]
    by_cases hi : i < w
    · rw [if_pos hi, if_pos (by omega)]; congr 2; omega
    · rw [if_neg hi, if_neg (by omega)]
/-- A bit as a byte. -/
def Bb (b : Bool) : Value := .int .u8 (bn b : Nat)
def U32 (a : Nat) : Value := .int .u32 a
theorem nth_map {α : Type} {f : α → Value} {l : List α} {i : Nat} {x : α} (h : l[i]? = some x) : nthV (l.map f) i = some (f x) := by
  rw [nthV_eq, List.getElem?_map, h]; rfl
theorem shr_bit {n j : Nat} (hn : n < 4294967296) (hj : j < 32) : IntKind.u8.wrap (((n / 2 ^ j % 2 : Nat) : Int)) = (bn (n.testBit j) : Nat) := by
  have : n.testBit j = decide (n / 2 ^ j % 2 = 1) := by rw [Nat.testBit_eq_decide_div_mod_eq]
  rw [this]
  rcases Nat.mod_two_eq_zero_or_one (n / 2 ^ j) with e | e <;> simp [bn, e, IntKind.wrap, IntKind.signed, IntKind.bits]
section
variable {σ : AW} {k : Nat} {Q : Value → AW → Prop}
theorem rbits_inner {B b1 i c n w k1 : Nat} {e1 : TypeId} {nums : List Nat} {rec : Value → Value → AM Value} {τ : AW} {s : Value} {bits : List Bool} (hb1 : τ.get b1 = some (.cells (nums.map U32) e1 false)) (hc : nums[c]? = some n) (hlen : nums.length = 256) (hc256 : c < 256) (own : Own B τ s 5 1 bits.length (bits.map Bb)) (hw : w ≤ 30) (hn : n < 4294967296) (hi : i < 4194304) (hB1 : b1 < B) (hB : B ≤ τ.next) (hk : 100 ≤ k1) (hbits : bits.length < 1099511627776)
    (hdone : ∀ s' τ', Kept B τ τ' → Own B τ' s' 5 1 (bits ++ natBits n w).length ((bits ++ natBits n w).map Bb) → wpA (rec s' (.int .i64 ((i + 1 : Nat) : Int))) τ' Q) :
    wpA (loop2 (R33.b_64 (callN Try.prog k1) k1 rec (ptr b1) (.int .i64 i) (.int .u8 c)) k1 s (.int .i64 ((w : Int) - 1))) τ Q := by
  refine aw_loop2 (fun r u v τ' => ∃ j : Nat, j ≤ w ∧ r = w - j ∧ v = .int .i64 ((w : Int) - 1 - j) ∧ Kept B τ τ' ∧ Own B τ' u 5 1 (bits ++ (natBits n w).take j).length ((bits ++ (natBits n w).take j).map Bb)) ?_ k1 w _ _ τ ⟨0, by omega, by omega, by simp, Kept.refl _ _, by simpa using own⟩ (by omega)
  rintro r rec2 u v τ' ⟨j, hj, rfl, rfl, kp, ow⟩ hrec
  by_cases hlt : j < w
  · have e : (w : Int) - 1 - j = ((w - 1 - j : Nat) : Int) := by omega
    rw [e]
    have hg : τ'.get b1 = some (.cells (nums.map U32) e1 false) := by rw [kp.2 _ hB1]; exact hb1
    have hnm : nthV (nums.map U32) c = some (U32 n) := nth_map hc
    have hc' : (c : Int) < 256 := by omega
    have w64 : IntKind.u64.wrap ((w - 1 - j : Nat) : Int) = ((w - 1 - j : Nat) : Int) := wrap_u64 (by omega)
    have hb32 : IntKind.u32.bits = 32 := rfl
    have hfd : (n : Int).fdiv (2 ^ min (w - 1 - j) 32) = ((n / 2 ^ (w - 1 - j) : Nat) : Int) := by
      rw [Nat.min_eq_left (by omega), ← fdivN]; simp
    have htm : ((n / 2 ^ (w - 1 - j) : Nat) : Int).tmod 2 = ((n / 2 ^ (w - 1 - j) % 2 : Nat) : Int) := tmodN (n / 2 ^ (w - 1 - j)) 2
    have hwr : IntKind.u32.wrap ((n / 2 ^ (w - 1 - j) % 2 : Nat) : Int) = ((n / 2 ^ (w - 1 - j) % 2 : Nat) : Int) := wrap_u32 (by omega)
    have hsb := shr_bit (n := n) (j := w - 1 - j) hn (by omega)
    have w0 : (0 : Int) ≤ ((w - 1 - j : Nat) : Int) := by omega
    have w1 : IntKind.i64.wrap (((w - 1 - j : Nat) : Int) - 1) = (w : Int) - 1 - ((j + 1 : Nat) : Int) := by rw [wrap64 (by omega) (by omega)]; omega
    simp [R33.b_64, w0, hg, hnm, hc', U32, hlen, hc256, w64, hb32, hfd, htm, hwr, hsb, w1, zeros, List.range_succ, -Int.natCast_ediv, -Int.natCast_pow, -Int.natCast_emod, -Int.natCast_add]
    have hnl := natBits_len n w
    have htl : ((natBits n w).take j).length = j := by rw [List.length_take]; omega
    have htk : (natBits n w).take (j + 1) = (natBits n w).take j ++ [n.testBit (w - 1 - j)] := by rw [List.take_add_one, natBits_at, if_pos hlt]; rfl
    refine aw_app1 ow rfl (by omega) (by rw [List.length_append, htl]; omega) (by have := kp.1; omega) fun v τ3 h3 h4 => ?_
    refine hrec (w - (j + 1)) _ _ _ (by omega) ⟨j + 1, by omega, rfl, rfl, kp.trans h4, ?_⟩
    rw [htk, ← List.append_assoc, List.length_append, List.map_append]
    exact h3
  · have e : j = w := by omega
    subst e
    have e2 : (j : Int) - 1 - j = -1 := by omega
    have hwi : IntKind.i64.wrap ((i : Int) + 1) = ((i + 1 : Nat) : Int) := wrap64 (by omega) (by omega)
    rw [List.take_of_length_le (by rw [natBits_len]; omega)] at ow
    rw [e2]
    simp [R33.b_64, hwi, -Int.natCast_add]
    exact hdone _ _ kp ow
end
end Go.Proofs.Ytgpddhoidlpcaaa

namespace Go.Proofs.Ytgpddhoidlpcaaa
open Go.Proofs.Ytgpddhoidlpcaaa.Eng
section
variable {σ : AW} {k : Nat} {Q : Value → AW → Prop}
def zn : List Nat := List.replicate 256 0
theorem rb33_eq (call : FuncId → List Value → AM Value) (x : Value) : R33.top call k x = bindV (ret (.slice none 0 0)) fun _ => bindV (newA (zn.map U32) 76) fun v3 => bindV (newA (zn.map I64) 77) fun v4 => bindV (ret (.slice none 0 0)) fun v5 => bindV (ret (.int .i64 0)) fun v6 => loop2 (R33.b_86 call k x v3 v4) k v5 v6 := by kernel_rfl
theorem set_map {α : Type} {f : α → Value} (l : List α) (i : Nat) (x : α) (h : i < l.length) : splice (l.map f) i [f x] = (l.set i x).map f := by
  rw [splice_def, List.set_eq_take_append_cons_drop, if_pos h]
  simp
/-- What is already looked up. -/
structure Cache (b1 b2 : Nat) (e1 e2 : TypeId) (τ : AW) (nums sizes : List Nat) : Prop where
  g1 : τ.get b1 = some (.cells (nums.map U32) e1 false)
  g2 : τ.get b2 = some (.cells (sizes.map I64) e2 false)
  l1 : nums.length = 256
  l2 : sizes.length = 256
  ok : ∀ c, c < 256 → sizes[c]? = some 0 ∨ (nums[c]? = some (codeOf c).1 ∧ sizes[c]? = some (codeOf c).2)
theorem zn_ok : cellsOk (zn.map U32) = true ∧ cellsOk (zn.map I64) = true := by decide +kernel
theorem pad_loop {B k1 : Nat} {s : Value} {bits : List Bool} {τ : AW} (own : Own B τ s 5 1 bits.length (bits.map Bb)) (hB : B ≤ τ.next) (hk : 100 ≤ k1) (hbits : bits.length < 1099511627776) :
    wpA (loop1 (R33.b_20 (callN Try.prog k1) k1) k1 s) τ fun v υ => Kept B τ υ ∧ Own B υ v 5 1 (padded bits).length ((padded bits).map Bb) := by
  refine aw_loop1 (fun r u υ => ∃ j : Nat, j ≤ (8 - bits.length % 8) % 8 ∧ r = (8 - bits.length % 8) % 8 - j ∧ Kept B τ υ ∧ Own B υ u 5 1 (bits ++ List.replicate j true).length ((bits ++ List.replicate j true).map Bb)) ?_ k1 ((8 - bits.length % 8) % 8) _ τ ⟨0, by omega, by omega, Kept.refl _ _, by simpa using own⟩ (by omega)
  rintro r rec u υ ⟨j, hj, rfl, kp, ow⟩ hrec
  have hl : (bits ++ List.replicate j true).length = bits.length + j := by simp
  have htm : (((bits ++ List.replicate j true).length : Nat) : Int).tmod 8 = (((bits ++ List.replicate j true).length % 8 : Nat) : Int) := tmodN _ 8
  have hsl := ow.sl
  by_cases hlt : j < (8 - bits.length % 8) % 8
  · have hne : ¬ (bits.length + j) % 8 = 0 := by omega
    have hw : IntKind.i64.wrap (((bits ++ List.replicate j true).length % 8 : Nat) : Int) = (((bits ++ List.replicate j true).length % 8 : Nat) : Int) := wrap64 (by omega) (by omega)
    rw [hl] at hw htm hsl
    have hne' : ¬ (((bits.length + j) % 8 : Nat) : Int) = 0 := by omega
    simp [R33.b_20, len_iff hsl, htm, hw, hne, hne', zeros, List.range_succ, -Int.natCast_add, -Int.natCast_emod]
    refine aw_app1 ow rfl (by omega) (by omega) (by have := kp.1; omega) fun v τ3 h3 h4 => ?_
    refine hrec ((8 - bits.length % 8) % 8 - (j + 1)) _ _ (by omega) ⟨j + 1, by omega, rfl, kp.trans h4, ?_⟩
    rw [List.replicate_succ', ← List.append_assoc, List.length_append, List.map_append]
    exact h3
  · have e : j = (8 - bits.length % 8) % 8 := by omega
    have hne : (bits.length + j) % 8 = 0 := by omega
    have hne' : (((bits.length + j) % 8 : Nat) : Int) = 0 := by omega
    have hw : IntKind.i64.wrap (0 : Int) = 0 := wrap64 (by omega) (by omega)
    rw [hl] at htm hsl
    rw [hne'] at htm
    simp [R33.b_20, len_iff hsl, htm, hw, -Int.natCast_add, -Int.natCast_emod]
    refine ⟨kp, ?_⟩
    rw [e] at ow
    exact ow
end
end Go.Proofs.Ytgpddhoidlpcaaa
