/- The program's Encode. -/
import Derived.Test.YtgpddhoidlpcaaaHuffF
set_option linter.unusedVariables false
set_option linter.unusedSimpArgs false
namespace Go.Proofs.Ytgpddhoidlpcaaa
open Go.Proofs.Ytgpddhoidlpcaaa.Eng
section
variable {σ : AW} {k : Nat} {Q : Value → AW → Prop}
theorem u64_or {a c : Nat} (ha : a < 18446744073709551616) (hc : c < 18446744073709551616) : IntKind.u64.wrap ((BitVec.ofInt IntKind.u64.bits (a : Int) ||| BitVec.ofInt IntKind.u64.bits (c : Int)).toNat : Int) = ((a ||| c : Nat) : Int) := by
  have h8 : IntKind.u64.bits = 64 := rfl
  have hlt : a ||| c < 2 ^ 64 := Nat.or_lt_two_pow ha hc
  rw [h8, BitVec.ofInt_natCast, BitVec.ofInt_natCast, BitVec.toNat_or, BitVec.toNat_ofNat, BitVec.toNat_ofNat, Nat.mod_eq_of_lt ha, Nat.mod_eq_of_lt hc]
  exact wrap_u64 hlt
theorem wpA_orU64 {P : Program} {t : TypeId} {a c : Nat} (ha : a < 18446744073709551616) (hc : c < 18446744073709551616) : wpA (binA P .or t (.int .u64 (a : Int)) (.int .u64 (c : Int))) σ Q ↔ Q (.int .u64 ((a ||| c : Nat) : Int)) σ := by
  rw [wpA_or, u64_or ha hc]
theorem u64_wrapN (a : Nat) : IntKind.u64.wrap (a : Int) = ((a % 18446744073709551616 : Nat) : Int) := by
  simp [IntKind.wrap, IntKind.signed, IntKind.bits]
theorem held_or {h w c : Nat} (hw : w ≤ 30) (hc : c < 2 ^ w) : (h * 2 ^ w % 18446744073709551616 ||| c) = h * 2 ^ w % 18446744073709551616 + c ∧ (h * 2 ^ w % 18446744073709551616 + c) < 18446744073709551616 := by
  have e : 18446744073709551616 = 2 ^ w * 2 ^ (64 - w) := by rw [← Nat.pow_add, show w + (64 - w) = 64 by omega]
  have e2 : h * 2 ^ w % 18446744073709551616 = 2 ^ w * (h % 2 ^ (64 - w)) := by
    rw [e, Nat.mul_comm h, Nat.mul_mod_mul_left]
  have h3 := Nat.two_pow_add_eq_or_of_lt (i := w) (b := c) hc (h % 2 ^ (64 - w))
  rw [e2]
  refine ⟨h3.symm, ?_⟩
  rw [e]
  have hq : h % 2 ^ (64 - w) + 1 ≤ 2 ^ (64 - w) := Nat.mod_lt _ (Nat.two_pow_pos _)
  have := Nat.mul_le_mul_left (2 ^ w) hq
  rw [Nat.mul_add] at this
  omega
theorem held_mod {h w c : Nat} {pend : List Bool} (hp : pend.length < 8) (hv : h % 2 ^ pend.length = val pend) (hw : w ≤ 30) (hc : c < 2 ^ w) : (h * 2 ^ w % 18446744073709551616 + c) % 2 ^ (pend ++ natBits c w).length = val (pend ++ natBits c w) := by
  have hl : (pend ++ natBits c w).length = pend.length + w := by rw [List.length_append, natBits_len]
  rw [hl, val_append, natBits_len, natBits_val, Nat.mod_eq_of_lt hc, ← hv]
  have e : 18446744073709551616 = 2 ^ (pend.length + w) * 2 ^ (64 - (pend.length + w)) := by rw [← Nat.pow_add, show pend.length + w + (64 - (pend.length + w)) = 64 by omega]
  rw [Nat.add_mod, e, Nat.mod_mul_right_mod]
  have e3 : h * 2 ^ w % 2 ^ (pend.length + w) = h % 2 ^ pend.length * 2 ^ w := by
    rw [Nat.pow_add, Nat.mul_mod_mul_right]
  have hlt : c < 2 ^ (pend.length + w) := Nat.lt_of_lt_of_le hc (Nat.pow_le_pow_right (by omega) (by omega))
  rw [e3, Nat.mod_eq_of_lt hlt, Nat.mod_eq_of_lt]
  have hq : h % 2 ^ pend.length + 1 ≤ 2 ^ pend.length := Nat.mod_lt _ (Nat.two_pow_pos _)
  have := Nat.mul_le_mul_right (2 ^ w) hq
  rw [Nat.pow_add]
  rw [Nat.add_mul] at this
  omega
theorem byte_at {h : Nat} {all : List Bool} {j : Nat} (hv : h % 2 ^ all.length = val all) (hj : 8 * j + 8 ≤ all.length) : h / 2 ^ (all.length - 8 * j - 8) % 256 = val ((all.drop (8 * j)).take 8) := by
  obtain ⟨_, h1⟩ := val_split all (8 * j) (by omega)
  have hl : (all.drop (8 * j)).length = all.length - 8 * j := by simp
  obtain ⟨h2, _⟩ := val_split (all.drop (8 * j)) 8 (by omega)
  rw [h2, h1, hl, ← hv]
  have e : 2 ^ all.length = 2 ^ (all.length - 8 * j) * 2 ^ (8 * j) := by rw [← Nat.pow_add]; congr 1; omega
  rw [e, Nat.mod_mul_right_mod]
  have e2 : 2 ^ (all.length - 8 * j) = 2 ^ (all.length - 8 * j - 8) * 256 := by rw [show (256 : Nat) = 2 ^ 8 from rfl, ← Nat.pow_add]; congr 1; omega
  rw [e2, Nat.mod_mul_right_div_self]
/-- The three cells of the closure; the bytes that are out. -/
structure PutSt (B hb nb ob : Nat) (τ : AW) (acc : List UInt8) (pend : List Bool) : Prop where
  held : ∃ h, h < 18446744073709551616 ∧ h % 2 ^ pend.length = val pend ∧ τ.get hb = some (.cells [.int .u64 (h : Nat)] 61 false)
  num : τ.get nb = some (.cells [.int .i64 (pend.length : Nat)] 3 false)
  out : ∃ s, τ.get ob = some (.cells [s] 33 false) ∧ Own B τ s 5 1 acc.length (acc.map Bt)
  far : B ≤ τ.next
def putAcc (acc : List UInt8) (all : List Bool) : List UInt8 := acc ++ pack (all.length / 8) all
def putPend (all : List Bool) : List Bool := all.drop (8 * (all.length / 8))
/-- But for those three. -/
def But (B hb nb ob : Nat) (σ τ : AW) : Prop := σ.next ≤ τ.next ∧ ∀ b, b < B → b ≠ hb → b ≠ nb → b ≠ ob → τ.get b = σ.get b
theorem put_spec {B hb nb ob : Nat} {τ : AW} {acc : List UInt8} {pend : List Bool} {c w : Nat} (st : PutSt B hb nb ob τ acc pend) (l1 : hb < B) (l2 : nb < B) (l3 : ob < B) (d1 : ¬ hb = nb) (d2 : ¬ hb = ob) (d3 : ¬ nb = ob) (hp : pend.length < 8) (hw : w ≤ 30) (hc : c < 2 ^ w) (hacc : acc.length < 1099511627776) (hk : 100 ≤ k) :
    wpA (callN Try.prog k 32 [.agg #[.int .u32 c, .int .i64 w], ptr hb, ptr nb, ptr ob]) τ fun _ υ => PutSt B hb nb ob υ (putAcc acc (pend ++ natBits c w)) (putPend (pend ++ natBits c w)) ∧ But B hb nb ob τ υ := by
  rw [callN_at (by omega), R32.eq]
  have hbig : 99 ≤ k - 1 := by omega
  generalize hk1 : k - 1 = k1 at hbig
  obtain ⟨⟨h, hh, hv, g1⟩, g2, ⟨s, g3, own⟩, hB⟩ := st
  have d1' : ¬ nb = hb := fun e => d1 e.symm
  have d2' : ¬ ob = hb := fun e => d2 e.symm
  have d3' : ¬ ob = nb := fun e => d3 e.symm
  have f1 : ¬ hb = τ.next := by omega
  have f2 : ¬ nb = τ.next := by omega
  have f3 : ¬ ob = τ.next := by omega
  have f4 : ¬ τ.next = hb := by omega
  obtain ⟨o1, o2⟩ := held_or (h := h) hw hc
  have hm := held_mod hp hv hw hc
  have hc32 : c < 4294967296 := Nat.lt_of_lt_of_le hc (Nat.pow_le_pow_right (n := 2) (by omega) (show w ≤ 32 by omega))
  have hwc : IntKind.u64.wrap (c : Int) = (c : Int) := wrap_u64 (by omega)
  have hb64 : IntKind.u64.bits = 64 := rfl
  have hsh : IntKind.u64.wrap ((h : Int) * 2 ^ min w 64) = ((h * 2 ^ w % 18446744073709551616 : Nat) : Int) := by
    rw [Nat.min_eq_left (by omega), show (h : Int) * 2 ^ w = ((h * 2 ^ w : Nat) : Int) by simp]
    exact u64_wrapN _
  generalize hall : pend ++ natBits c w = all at *
  have hlen : all.length = pend.length + w := by rw [← hall, List.length_append, natBits_len]
  have hwn : IntKind.i64.wrap ((pend.length : Int) + (w : Int)) = (all.length : Int) := by rw [wrap64 (by omega) (by omega)]; omega
  have hw0 : (0 : Int) ≤ (w : Int) := by omega
  simp [R32.top, g1, g2, g3, f1, f2, f3, f4, hwc, hb64, hsh, -Int.natCast_emod, -Int.natCast_mul, -Int.natCast_pow]
  rw [wpA_orU64 (Nat.mod_lt _ (by omega)) (by omega), o1]
  simp [R32.top, g1, g2, g3, f1, f2, f3, f4, d1, d1', d2, d2', d3, d3', hwn, -Int.natCast_emod, -Int.natCast_mul, -Int.natCast_pow, -Int.natCast_add]
  generalize hH : h * 2 ^ w % 18446744073709551616 + c = H at *
  generalize hS : ((τ.push (.cells [.int .u32 c, .int .i64 w] 58 false)).put hb (some (.cells [.int .u64 (H : Nat)] 61 false))).put nb (some (.cells [.int .i64 all.length] 3 false)) = S
  have s1 : S.get hb = some (.cells [.int .u64 (H : Nat)] 61 false) := by rw [← hS]; simp [d1]
  have s2 : S.get nb = some (.cells [.int .i64 all.length] 3 false) := by rw [← hS]; simp
  have s3 : S.get ob = some (.cells [s] 33 false) := by rw [← hS]; simp [d2', d3', f3, g3]
  have s4 : S.next = τ.next + 1 := by rw [← hS]; simp
  have s5 : Own B S s 5 1 acc.length (acc.map Bt) := own_still own (by omega) fun b hb1 hb2 => by
    rw [← hS]
    have c1 : ¬ b = nb := by omega
    have c2 : ¬ b = hb := by omega
    have c3 : ¬ b = τ.next := by omega
    simp [c1, c2, c3]
  have s6 : But B hb nb ob τ S := ⟨by omega, fun b hb1 c2 c1 _ => by
    rw [← hS]
    have c3 : ¬ b = τ.next := by omega
    simp [c1, c2, c3]⟩
  clear hS
  refine aw_loop0 (fun r υ => ∃ (i : Nat) (s : Value), 8 * i ≤ all.length ∧ r = all.length - 8 * i ∧ υ.get hb = some (.cells [.int .u64 (H : Nat)] 61 false) ∧ υ.get nb = some (.cells [.int .i64 ((all.length - 8 * i : Nat) : Int)] 3 false) ∧ υ.get ob = some (.cells [s] 33 false) ∧ Own B υ s 5 1 (acc ++ pack i all).length ((acc ++ pack i all).map Bt) ∧ B ≤ υ.next ∧ But B hb nb ob τ υ) ?_ k1 all.length S ⟨0, s, by omega, by omega, s1, by simpa using s2, s3, by simpa [pack] using s5, by omega, s6⟩ (by omega)
  rintro r rec υ ⟨i, s, hi, rfl, u1, u2, u3, u4, u5, u6⟩ hrec
  by_cases h8 : 8 ≤ all.length - 8 * i
  · have h8' : (8 : Int) ≤ ((all.length - 8 * i : Nat) : Int) := by omega
    have w1 : IntKind.i64.wrap (((all.length - 8 * i : Nat) : Int) - 8) = ((all.length - 8 * i - 8 : Nat) : Int) := by rw [wrap64 (by omega) (by omega)]; omega
    have w0 : (0 : Int) ≤ ((all.length - 8 * i - 8 : Nat) : Int) := by omega
    have hfd : (H : Int).fdiv (2 ^ min (all.length - 8 * i - 8) 64) = ((H / 2 ^ (all.length - 8 * i - 8) : Nat) : Int) := by
      rw [Nat.min_eq_left (by omega), ← fdivN]; simp
    have hby := byte_at (j := i) hm (by omega)
    have hw8 : IntKind.u8.wrap ((H / 2 ^ (all.length - 8 * i - 8) : Nat) : Int) = ((val ((all.drop (8 * i)).take 8) : Nat) : Int) := by rw [u8_wrap, hby]
    have hlt8 : val ((all.drop (8 * i)).take 8) < 256 := by rw [← hby]; exact Nat.mod_lt _ (by omega)
    have hB2 := Bt_lt hlt8
    have v1 : ¬ ob = υ.next := by omega
    have hpl := pack_len i all
    simp [R32.b_33, u1, u2, u3, h8', h8, w1, hb64, hfd, hw8, zeros, List.range_succ, -Int.natCast_ediv, -Int.natCast_pow, v1]
    refine ⟨same_sl u4.sl, ?_⟩
    refine aw_app1 u4 rfl (by omega) (by rw [List.length_append, hpl]; omega) u5 fun v τ3 h3 h4 => ?_
    obtain ⟨a0, c0, hvf⟩ := h3.sl.form
    have hvc : v.cells = #[v] ∧ isCell v = true := by rw [hvf]; exact ⟨rfl, rfl⟩
    have t1 : τ3.get hb = some (.cells [.int .u64 (H : Nat)] 61 false) := by rw [h4.2 _ l1]; exact u1
    have t2 : τ3.get nb = some (.cells [.int .i64 ((all.length - 8 * i : Nat) : Int)] 3 false) := by rw [h4.2 _ l2]; exact u2
    have t3 : τ3.get ob = some (.cells [s] 33 false) := by rw [h4.2 _ l3]; exact u3
    have t4 := h4.1
    simp [t1, t2, t3, hvc.1, hvc.2, d3, d3', w1]
    have hsn : acc ++ pack (i + 1) all = (acc ++ pack i all) ++ [UInt8.ofNat (val ((all.drop (8 * i)).take 8))] := by rw [pack_snoc, List.append_assoc]
    rw [hB2] at h3
    refine hrec (all.length - 8 * (i + 1)) _ (by omega) ⟨i + 1, v, by omega, rfl, ?_, ?_, ?_, ?_, ?_, ?_⟩
    · simp [d1, d2, t1]
    · simp; omega
    · simp [d3', t3]
    · rw [hsn, List.length_append, List.map_append]
      refine own_still h3 (by simp) fun b hb1 hb2 => ?_
      have c1 : ¬ b = nb := by omega
      have c2 : ¬ b = ob := by omega
      simp [c1, c2]
    · simp; omega
    · refine ⟨by have := u6.1; simp; omega, fun b b1 b2 b3 b4 => ?_⟩
      simp [b3, b4]
      rw [h4.2 b b1]
      exact u6.2 b b1 b2 b3 b4
  · have hi2 : i = all.length / 8 := by omega
    have h8' : ¬ (8 : Int) ≤ ((all.length - 8 * i : Nat) : Int) := by omega
    have hpe : (putPend all).length = all.length - 8 * i := by unfold putPend; rw [List.length_drop, hi2]
    have hval : H % 2 ^ (putPend all).length = val (putPend all) := by
      have h9 := (val_split all (8 * i) hi).2
      have e : putPend all = all.drop (8 * i) := by unfold putPend; rw [hi2]
      rw [hpe, e, h9, ← hm]
      have e2 : 2 ^ all.length = 2 ^ (all.length - 8 * i) * 2 ^ (8 * i) := by rw [← Nat.pow_add]; congr 1; omega
      rw [e2, Nat.mod_mul_right_mod]
    simp [R32.b_33, u2, h8', h8]
    have ea : acc ++ pack i all = putAcc acc all := by unfold putAcc; rw [hi2]
    rw [ea] at u4
    refine ⟨⟨⟨H, by omega, hval, u1⟩, by rw [hpe]; exact u2, ⟨s, u3, u4⟩, u5⟩, u6⟩
end
end Go.Proofs.Ytgpddhoidlpcaaa
