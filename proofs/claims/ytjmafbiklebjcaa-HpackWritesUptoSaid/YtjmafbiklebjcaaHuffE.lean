/- How long codes are. -/
import Derived.Test.YtjmafbiklebjcaaHuffD
set_option linter.unusedVariables false
set_option linter.unusedSimpArgs false
namespace Go.Proofs.Ytjmafbiklebjcaa
open Go.Proofs.Ytjmafbiklebjcaa.Eng
theorem und4 : undP Try.prog 4 isBoolT = true := undP_of Try.underlying4
def bigH : Nat := 4194304
def bitsOf (l : List UInt8) : Nat := (l.map fun c => (codeOf c.toNat).2).sum
theorem bits_snoc (l : List UInt8) (c : UInt8) : bitsOf (l ++ [c]) = bitsOf l + (codeOf c.toNat).2 := by simp [bitsOf]
theorem bits_le : ∀ (l : List UInt8), 5 * l.length ≤ bitsOf l ∧ bitsOf l ≤ 30 * l.length
  | [] => by simp [bitsOf]
  | c :: l => by
    have ih := bits_le l
    have hc := size_at (s := c.toNat) (by have := c.toNat_lt; omega)
    have e : bitsOf (c :: l) = (codeOf c.toNat).2 + bitsOf l := by simp [bitsOf]
    rw [e]
    simp only [List.length_cons]
    omega
theorem nth_code {s : Nat} (h : s < 257) : nthV (arrC codesLit) (s * 2 + 1) = some (.int .i64 (codeOf s).2) ∧ nthV (arrC codesLit) (s * 2) = some (.int .u32 (codeOf s).1) := by
  have h1 := getElem?_flatMap pairC_len codesLit s 1 (by omega)
  have h0 := getElem?_flatMap pairC_len codesLit s 0 (by omega)
  rw [code_at h] at h1 h0
  rw [nthV_eq, nthV_eq]
  exact ⟨h1, h0⟩
section
variable {σ : AW} {k : Nat} {Q : Value → AW → Prop}
theorem len17_eq (call : FuncId → List Value → AM Value) (x : Value) : R47.top call k x = bindV (ret (.int .i64 0)) fun v2 => bindV (call 52 []) fun v7 => bindV (newA (arrC (arrI 0)) 91) fun v3 => bindV (storeA 514 v3 v7) fun _ => bindV (ret (.int .i64 0)) fun v4 => bindV (ret x) fun v8 => bindV (lenA v8) fun v9 => bindV (ret (.int .i64 0)) fun v10 => loop2 (R47.b_32 call k v3 v8 v9) k v4 v10 := by kernel_rfl
theorem lit514 : (arrC codesLit).length = 514 := by rw [arrC_len, lit_len]
theorem lit_ok : cellsOk (arrC codesLit) = true := by decide +kernel
theorem length_spec {x : Value} {l : List UInt8} {n : Nat} (hx : Sl σ x 1 n (l.map Bt)) (hl : l.length < bigH) (hk : bigH + 1300 ≤ k) : wpA (callN Try.prog k 47 [x]) σ fun v τ => Ext σ τ ∧ v = .int .i64 (((bitsOf l + 7) / 8 : Nat) : Int) := by
  have e1 : n = l.length := by have := hx.1; simp at this; omega
  subst e1
  rw [callN_at (by omega), R47.eq, len17_eq]
  have hbig : bigH + 1299 ≤ k - 1 := by omega
  generalize hk1 : k - 1 = k1 at hbig
  have hbH : bigH = 4194304 := rfl
  simp [-splice_def, -Int.natCast_add, -Int.natCast_ediv]
  refine (codes_spec (by omega)).mono ?_
  rintro v τ ⟨he, rfl⟩
  rw [codes_lit]
  have hz : (arrC (arrI 0)).length = 514 := by rw [arrC_len, arrI_len]
  simp [zero514, lit514, hz, lit_ok, -splice_def, -Int.natCast_add, -Int.natCast_ediv]
  rw [splice_whole (by rw [hz, lit514]), letL_def]
  have hl2 : l.length < 4194304 := hl
  have hbig2 : 4194304 + 1299 ≤ k1 := hbig
  clear hz hbH hbig hl hk hk1
  generalize hT : (τ.push (.cells (arrC (arrI 0)) 91 false)).put τ.next (some (.cells (arrC codesLit) 91 false)) = T
  have hTb : T.get τ.next = some (.cells (arrC codesLit) 91 false) := by rw [← hT]; simp
  have hTk : Kept σ.next σ T := by rw [← hT]; exact ((he.kept (Nat.le_refl _)).push he.1 _).put he.1 _
  clear hT
  have hxT := hx.kept (Nat.le_refl _) hTk
  simp [len_iff hx, -Int.natCast_add, -Int.natCast_ediv]
  refine aw_loop2 (fun r u w τ' => ∃ i : Nat, u = .int .i64 (bitsOf (l.take i) : Nat) ∧ w = .int .i64 i ∧ i ≤ l.length ∧ r = l.length - i ∧ τ' = T) ?_ k1 l.length _ _ T ⟨0, rfl, rfl, by omega, rfl, rfl⟩ (by omega)
  rintro r rec u w τ' ⟨i, rfl, rfl, hi, rfl, rfl⟩ hrec
  by_cases hlt : i < l.length
  · obtain ⟨c, hc⟩ : ∃ c, l[i]? = some c := ⟨_, List.getElem?_eq_getElem hlt⟩
    have hc256 : c.toNat < 256 := c.toNat_lt
    have hcz : (c.toNat : Int) < 257 := by omega
    obtain ⟨q1, q2⟩ := nth_code (s := c.toNat) (by omega)
    have htk : l.take (i + 1) = l.take i ++ [c] := by rw [List.take_add_one, hc]; rfl
    have hb := bits_le (l.take i)
    have hlen : (l.take i).length = i := by rw [List.length_take]; omega
    have hs := size_at (s := c.toNat) (by omega)
    have hwi : IntKind.i64.wrap ((i : Int) + 1) = ((i + 1 : Nat) : Int) := wrap64 (by omega) (by omega)
    have hwb : IntKind.i64.wrap ((bitsOf (l.take i) : Int) + ((codeOf c.toNat).2 : Int)) = ((bitsOf (l.take (i + 1)) : Nat) : Int) := by rw [htk, bits_snoc, wrap64 (by omega) (by omega)]; omega
    simp [R47.b_32, hlt, ↓at1_all hxT hc, Bt, hTb, q1, hcz, hwi, hwb, -Int.natCast_add]
    exact hrec (l.length - (i + 1)) _ _ _ (by omega) ⟨i + 1, rfl, rfl, by omega, rfl, rfl⟩
  · have e : i = l.length := by omega
    subst e
    have hb := bits_le l
    have hw7 : IntKind.i64.wrap ((bitsOf l : Int) + 7) = ((bitsOf l + 7 : Nat) : Int) := by rw [wrap64 (by omega) (by omega)]; omega
    have hw8 : IntKind.i64.wrap (((bitsOf l + 7 : Nat) : Int) / 8) = (((bitsOf l + 7) / 8 : Nat) : Int) := by rw [show ((bitsOf l + 7 : Nat) : Int) / 8 = (((bitsOf l + 7) / 8 : Nat) : Int) by omega]; exact wrap64 (by omega) (by omega)
    rw [List.take_length]
    simp [R47.b_32, hw7, hw8, -Int.natCast_add, -Int.natCast_ediv]
    exact hTk
end
end Go.Proofs.Ytjmafbiklebjcaa

namespace Go.Proofs.Ytjmafbiklebjcaa
open Go.Proofs.Ytjmafbiklebjcaa.Eng
def bn (b : Bool) : Nat := if b = true then 1 else 0
/-- The number that bits are, the first the greatest. -/
def val (l : List Bool) : Nat := l.foldl (fun n b => 2 * n + bn b) 0
theorem val_from : ∀ (l : List Bool) (n : Nat), l.foldl (fun n b => 2 * n + bn b) n = n * 2 ^ l.length + val l
  | [], n => by simp [val]
  | b :: l, n => by
    have h1 := val_from l (2 * n + bn b)
    have h2 := val_from l (2 * 0 + bn b)
    simp only [List.foldl_cons, val, List.length_cons] at h1 h2 ⊢
    rw [h1, h2]
    rw [Nat.pow_succ, Nat.add_mul, Nat.add_mul]
    simp only [Nat.mul_zero, Nat.zero_mul, Nat.zero_add]
    have e : 2 * n * 2 ^ l.length = n * (2 ^ l.length * 2) := by rw [Nat.mul_comm (2 ^ l.length) 2, ← Nat.mul_assoc, Nat.mul_comm n 2]
    rw [e]; omega
theorem val_append (a b : List Bool) : val (a ++ b) = val a * 2 ^ b.length + val b := by
  unfold val
  rw [List.foldl_append]
  exact val_from b _
theorem val_lt : ∀ (l : List Bool), val l < 2 ^ l.length
  | [] => by simp [val]
  | b :: l => by
    have ih := val_lt l
    have h := val_append [b] l
    simp only [List.singleton_append] at h
    rw [h, List.length_cons, Nat.pow_succ]
    have hb : val [b] ≤ 1 := by cases b <;> simp [val, bn]
    have : val [b] * 2 ^ l.length ≤ 1 * 2 ^ l.length := Nat.mul_le_mul_right _ hb
    omega
/-- The first bits of a number, and the others. -/
theorem val_split (l : List Bool) (m : Nat) (h : m ≤ l.length) : val (l.take m) = val l / 2 ^ (l.length - m) ∧ val (l.drop m) = val l % 2 ^ (l.length - m) := by
  have hv : val l = val (l.take m) * 2 ^ (l.drop m).length + val (l.drop m) := by rw [← val_append, List.take_append_drop]
  have hl : (l.drop m).length = l.length - m := by simp
  have hlt := val_lt (l.drop m)
  rw [hl] at hv hlt
  have hp : 0 < 2 ^ (l.length - m) := Nat.two_pow_pos _
  rw [hv]
  constructor
  · rw [Nat.mul_comm, Nat.mul_add_div hp, Nat.div_eq_of_lt hlt]; omega
  · rw [Nat.mul_comm, Nat.mul_add_mod, Nat.mod_eq_of_lt hlt]
/-- So many bits of a number. -/
def natBits (n : Nat) : Nat → List Bool
  | 0 => []
  | w + 1 => n.testBit w :: natBits n w
theorem natBits_len (n : Nat) : ∀ w, (natBits n w).length = w
  | 0 => rfl
  | w + 1 => by simp [natBits, natBits_len n w]
theorem natBits_val (n : Nat) : ∀ w, val (natBits n w) = n % 2 ^ w
  | 0 => by simp [natBits, val, Nat.mod_one]
  | w + 1 => by
    have h := val_append [n.testBit w] (natBits n w)
    simp only [List.singleton_append] at h
    rw [natBits, h, natBits_len, natBits_val n w]
    have hb : val [n.testBit w] = n / 2 ^ w % 2 := by
      have : n.testBit w = decide (n / 2 ^ w % 2 = 1) := by rw [Nat.testBit_eq_decide_div_mod_eq]
      rw [this]
      have := Nat.mod_two_eq_zero_or_one (n / 2 ^ w)
      rcases this with e | e <;> simp [val, bn, e]
    rw [hb, Nat.pow_succ, Nat.mod_mul]
    rw [Nat.mul_comm]
    omega
theorem val_ones : ∀ m, val (List.replicate m true) = 2 ^ m - 1
  | 0 => rfl
  | m + 1 => by
    have h := val_append [true] (List.replicate m true)
    simp only [List.singleton_append] at h
    rw [List.replicate_succ, h, val_ones m, List.length_replicate, Nat.pow_succ]
    have : val [true] = 1 := rfl
    have hp := Nat.two_pow_pos m
    rw [this]; omega
/-- Whole bytes. -/
def pack : Nat → List Bool → List UInt8
  | 0, _ => []
  | n + 1, l => UInt8.ofNat (val (l.take 8)) :: pack n (l.drop 8)
theorem pack_len : ∀ n l, (pack n l).length = n
  | 0, _ => rfl
  | n + 1, l => by simp [pack, pack_len n]
theorem pack_snoc : ∀ (n : Nat) (l : List Bool), pack (n + 1) l = pack n l ++ [UInt8.ofNat (val ((l.drop (8 * n)).take 8))]
  | 0, l => by simp [pack]
  | n + 1, l => by
    have ih := pack_snoc n (l.drop 8)
    rw [pack, ih, pack]
    simp only [List.cons_append, List.drop_drop]
    rw [show 8 + 8 * n = 8 * (n + 1) by omega]
theorem pack_app : ∀ (n : Nat) (l m : List Bool), 8 * n ≤ l.length → pack n (l ++ m) = pack n l
  | 0, _, _, _ => rfl
  | n + 1, l, m, h => by
    rw [pack, pack, List.take_append_of_le_length (by omega), List.drop_append_of_le_length (by omega), pack_app n (l.drop 8) m (by simp; omega)]
def codeBits (s : Nat) : List Bool := natBits (codeOf s).1 (codeOf s).2
def encBits (l : List UInt8) : List Bool := l.flatMap fun c => codeBits c.toNat
theorem encBits_len (l : List UInt8) : (encBits l).length = bitsOf l := by
  induction l with
  | nil => rfl
  | cons c l ih =>
    have e : bitsOf (c :: l) = (codeOf c.toNat).2 + bitsOf l := by simp [bitsOf]
    rw [e, ← ih]
    simp [encBits, codeBits, natBits_len]
def padded (b : List Bool) : List Bool := b ++ List.replicate ((8 - b.length % 8) % 8) true
theorem padded_len (b : List Bool) : (padded b).length = (b.length + 7) / 8 * 8 := by
  unfold padded
  rw [List.length_append, List.length_replicate]
  omega
/-- The bytes of codes. -/
def encL (l : List UInt8) : List UInt8 := pack ((bitsOf l + 7) / 8) (padded (encBits l))
theorem encL_len (l : List UInt8) : (encL l).length = (bitsOf l + 7) / 8 := pack_len _ _
end Go.Proofs.Ytjmafbiklebjcaa

namespace Go.Proofs.Ytjmafbiklebjcaa
open Go.Proofs.Ytjmafbiklebjcaa.Eng
section
variable {σ : AW} {k : Nat} {Q : Value → AW → Prop}
theorem u64_or {a c : Nat} (ha : a < 18446744073709551616) (hc : c < 18446744073709551616) : IntKind.u64.wrap ((BitVec.ofInt IntKind.u64.bits (a : Int) ||| BitVec.ofInt IntKind.u64.bits (c : Int)).toNat : Int) = ((a ||| c : Nat) : Int) := by
  have h8 : IntKind.u64.bits = 64 := rfl
  have hlt : a ||| c < 2 ^ 64 := Nat.or_lt_two_pow ha hc
  rw [h8, BitVec.ofInt_natCast, BitVec.ofInt_natCast, BitVec.toNat_or, BitVec.toNat_ofNat, BitVec.toNat_ofNat, Nat.mod_eq_of_lt ha, Nat.mod_eq_of_lt hc]
  exact wrap_u64 hlt
theorem wpA_orU64 {P : Program} {t : TypeId} {a c : Nat} (ha : a < 18446744073709551616) (hc : c < 18446744073709551616) : wpA (binA P .or t (.int .u64 (a : Int)) (.int .u64 (c : Int))) σ Q ↔ Q (.int .u64 ((a ||| c : Nat) : Int)) σ := by
  rw [wpA_or, u64_or ha hc]
theorem u64_wrapN (a : Nat) : IntKind.u64.wrap (a : Int) = ((a % 18446744073709551616 : Nat) : Int) := by
  simp [IntKind.wrap, IntKind.signed, IntKind.bits]
theorem held_or {h w c : Nat} (hw : w ≤ 30) (hc : c < 2 ^ w) : (h * 2 ^ w % 18446744073709551616 ||| c) = h * 2 ^ w % 18446744073709551616 + c ∧ (h * 2 ^ w % 18446744073709551616 + c) < 18446744073709551616 := by
  have e : 18446744073709551616 = 2 ^ w * 2 ^ (64 - w) := by rw [← Nat.pow_add, show w + (64 - w) = 64 by omega]
  have e2 : h * 2 ^ w % 18446744073709551616 = 2 ^ w * (h % 2 ^ (64 - w)) := by
    rw [e, Nat.mul_comm h, Nat.mul_mod_mul_left]
  have h3 := Nat.two_pow_add_eq_or_of_lt (i := w) (b := c) hc (h % 2 ^ (64 - w))
  rw [e2]
  refine ⟨h3.symm, ?_⟩
  rw [e]
  have hq : h % 2 ^ (64 - w) + 1 ≤ 2 ^ (64 - w) := Nat.mod_lt _ (Nat.two_pow_pos _)
  have := Nat.mul_le_mul_left (2 ^ w) hq
  rw [Nat.mul_add] at this
  omega
theorem held_mod {h w c : Nat} {pend : List Bool} (hp : pend.length < 8) (hv : h % 2 ^ pend.length = val pend) (hw : w ≤ 30) (hc : c < 2 ^ w) : (h * 2 ^ w % 18446744073709551616 + c) % 2 ^ (pend ++ natBits c w).length = val (pend ++ natBits c w) := by
  have hl : (pend ++ natBits c w).length = pend.length + w := by rw [List.length_append, natBits_len]
  rw [hl, val_append, natBits_len, natBits_val, Nat.mod_eq_of_lt hc, ← hv]
  have e : 18446744073709551616 = 2 ^ (pend.length + w) * 2 ^ (64 - (pend.length + w)) := by rw [← Nat.pow_add, show pend.length + w + (64 - (pend.length + w)) = 64 by omega]
  rw [Nat.add_mod, e, Nat.mod_mul_right_mod]
  have e3 : h * 2 ^ w % 2 ^ (pend.length + w) = h % 2 ^ pend.length * 2 ^ w := by
    rw [Nat.pow_add, Nat.mul_mod_mul_right]
  have hlt : c < 2 ^ (pend.length + w) := Nat.lt_of_lt_of_le hc (Nat.pow_le_pow_right (by omega) (by omega))
  rw [e3, Nat.mod_eq_of_lt hlt, Nat.mod_eq_of_lt]
  have hq : h % 2 ^ pend.length + 1 ≤ 2 ^ pend.length := Nat.mod_lt _ (Nat.two_pow_pos _)
  have := Nat.mul_le_mul_right (2 ^ w) hq
  rw [Nat.pow_add]
  rw [Nat.add_mul] at this
  omega
theorem byte_at {h : Nat} {all : List Bool} {j : Nat} (hv : h % 2 ^ all.length = val all) (hj : 8 * j + 8 ≤ all.length) : h / 2 ^ (all.length - 8 * j - 8) % 256 = val ((all.drop (8 * j)).take 8) := by
  obtain ⟨_, h1⟩ := val_split all (8 * j) (by omega)
  have hl : (all.drop (8 * j)).length = all.length - 8 * j := by simp
  obtain ⟨h2, _⟩ := val_split (all.drop (8 * j)) 8 (by omega)
  rw [h2, h1, hl, ← hv]
  have e : 2 ^ all.length = 2 ^ (all.length - 8 * j) * 2 ^ (8 * j) := by rw [← Nat.pow_add]; congr 1; omega
  rw [e, Nat.mod_mul_right_mod]
  have e2 : 2 ^ (all.length - 8 * j) = 2 ^ (all.length - 8 * j - 8) * 256 := by rw [show (256 : Nat) = 2 ^ 8 from rfl, ← Nat.pow_add]; congr 1; omega
  rw [e2, Nat.mod_mul_right_div_self]
/-- The three cells of the closure; the bytes that are out. -/
structure PutSt (B hb nb ob : Nat) (τ : AW) (acc : List UInt8) (pend : List Bool) : Prop where
  held : ∃ h, h < 18446744073709551616 ∧ h % 2 ^ pend.length = val pend ∧ τ.get hb = some (.cells [.int .u64 (h : Nat)] 93 false)
  num : τ.get nb = some (.cells [.int .i64 (pend.length : Nat)] 3 false)
  out : ∃ s, τ.get ob = some (.cells [s] 35 false) ∧ Own B τ s 5 1 acc.length (acc.map Bt)
  far : B ≤ τ.next
def putAcc (acc : List UInt8) (all : List Bool) : List UInt8 := acc ++ pack (all.length / 8) all
def putPend (all : List Bool) : List Bool := all.drop (8 * (all.length / 8))
/-- But for those three. -/
def But (B hb nb ob : Nat) (σ τ : AW) : Prop := σ.next ≤ τ.next ∧ ∀ b, b < B → b ≠ hb → b ≠ nb → b ≠ ob → τ.get b = σ.get b
theorem put_spec {B hb nb ob : Nat} {τ : AW} {acc : List UInt8} {pend : List Bool} {c w : Nat} (st : PutSt B hb nb ob τ acc pend) (l1 : hb < B) (l2 : nb < B) (l3 : ob < B) (d1 : ¬ hb = nb) (d2 : ¬ hb = ob) (d3 : ¬ nb = ob) (hp : pend.length < 8) (hw : w ≤ 30) (hc : c < 2 ^ w) (hacc : acc.length < 1099511627776) (hk : 100 ≤ k) :
    wpA (callN Try.prog k 53 [.agg #[.int .u32 c, .int .i64 w], ptr hb, ptr nb, ptr ob]) τ fun _ υ => PutSt B hb nb ob υ (putAcc acc (pend ++ natBits c w)) (putPend (pend ++ natBits c w)) ∧ But B hb nb ob τ υ := by
  rw [callN_at (by omega), R53.eq]
  have hbig : 99 ≤ k - 1 := by omega
  generalize hk1 : k - 1 = k1 at hbig
  obtain ⟨⟨h, hh, hv, g1⟩, g2, ⟨s, g3, own⟩, hB⟩ := st
  have d1' : ¬ nb = hb := fun e => d1 e.symm
  have d2' : ¬ ob = hb := fun e => d2 e.symm
  have d3' : ¬ ob = nb := fun e => d3 e.symm
  have f1 : ¬ hb = τ.next := by omega
  have f2 : ¬ nb = τ.next := by omega
  have f3 : ¬ ob = τ.next := by omega
  have f4 : ¬ τ.next = hb := by omega
  obtain ⟨o1, o2⟩ := held_or (h := h) hw hc
  have hm := held_mod hp hv hw hc
  have hc32 : c < 4294967296 := Nat.lt_of_lt_of_le hc (Nat.pow_le_pow_right (n := 2) (by omega) (show w ≤ 32 by omega))
  have hwc : IntKind.u64.wrap (c : Int) = (c : Int) := wrap_u64 (by omega)
  have hb64 : IntKind.u64.bits = 64 := rfl
  have hsh : IntKind.u64.wrap ((h : Int) * 2 ^ min w 64) = ((h * 2 ^ w % 18446744073709551616 : Nat) : Int) := by
    rw [Nat.min_eq_left (by omega), show (h : Int) * 2 ^ w = ((h * 2 ^ w : Nat) : Int) by simp]
    exact u64_wrapN _
  generalize hall : pend ++ natBits c w = all at *
  have hlen : all.length = pend.length + w := by rw [← hall, List.length_append, natBits_len]
  have hwn : IntKind.i64.wrap ((pend.length : Int) + (w : Int)) = (all.length : Int) := by rw [wrap64 (by omega) (by omega)]; omega
  have hw0 : (0 : Int) ≤ (w : Int) := by omega
  simp [R53.top, g1, g2, g3, f1, f2, f3, f4, hwc, hb64, hsh, -Int.natCast_emod, -Int.natCast_mul, -Int.natCast_pow]
  rw [wpA_orU64 (Nat.mod_lt _ (by omega)) (by omega), o1]
  simp [R53.top, g1, g2, g3, f1, f2, f3, f4, d1, d1', d2, d2', d3, d3', hwn, -Int.natCast_emod, -Int.natCast_mul, -Int.natCast_pow, -Int.natCast_add]
  generalize hH : h * 2 ^ w % 18446744073709551616 + c = H at *
  generalize hS : ((τ.push (.cells [.int .u32 c, .int .i64 w] 90 false)).put hb (some (.cells [.int .u64 (H : Nat)] 93 false))).put nb (some (.cells [.int .i64 all.length] 3 false)) = S
  have s1 : S.get hb = some (.cells [.int .u64 (H : Nat)] 93 false) := by rw [← hS]; simp [d1]
  have s2 : S.get nb = some (.cells [.int .i64 all.length] 3 false) := by rw [← hS]; simp
  have s3 : S.get ob = some (.cells [s] 35 false) := by rw [← hS]; simp [d2', d3', f3, g3]
  have s4 : S.next = τ.next + 1 := by rw [← hS]; simp
  have s5 : Own B S s 5 1 acc.length (acc.map Bt) := own_still own (by omega) fun b hb1 hb2 => by
    rw [← hS]
    have c1 : ¬ b = nb := by omega
    have c2 : ¬ b = hb := by omega
    have c3 : ¬ b = τ.next := by omega
    simp [c1, c2, c3]
  have s6 : But B hb nb ob τ S := ⟨by omega, fun b hb1 c2 c1 _ => by
    rw [← hS]
    have c3 : ¬ b = τ.next := by omega
    simp [c1, c2, c3]⟩
  clear hS
  refine aw_loop0 (fun r υ => ∃ (i : Nat) (s : Value), 8 * i ≤ all.length ∧ r = all.length - 8 * i ∧ υ.get hb = some (.cells [.int .u64 (H : Nat)] 93 false) ∧ υ.get nb = some (.cells [.int .i64 ((all.length - 8 * i : Nat) : Int)] 3 false) ∧ υ.get ob = some (.cells [s] 35 false) ∧ Own B υ s 5 1 (acc ++ pack i all).length ((acc ++ pack i all).map Bt) ∧ B ≤ υ.next ∧ But B hb nb ob τ υ) ?_ k1 all.length S ⟨0, s, by omega, by omega, s1, by simpa using s2, s3, by simpa [pack] using s5, by omega, s6⟩ (by omega)
  rintro r rec υ ⟨i, s, hi, rfl, u1, u2, u3, u4, u5, u6⟩ hrec
  by_cases h8 : 8 ≤ all.length - 8 * i
  · have h8' : (8 : Int) ≤ ((all.length - 8 * i : Nat) : Int) := by omega
    have w1 : IntKind.i64.wrap (((all.length - 8 * i : Nat) : Int) - 8) = ((all.length - 8 * i - 8 : Nat) : Int) := by rw [wrap64 (by omega) (by omega)]; omega
    have w0 : (0 : Int) ≤ ((all.length - 8 * i - 8 : Nat) : Int) := by omega
    have hfd : (H : Int).fdiv (2 ^ min (all.length - 8 * i - 8) 64) = ((H / 2 ^ (all.length - 8 * i - 8) : Nat) : Int) := by
      rw [Nat.min_eq_left (by omega), ← fdivN]; simp
    have hby := byte_at (j := i) hm (by omega)
    have hw8 : IntKind.u8.wrap ((H / 2 ^ (all.length - 8 * i - 8) : Nat) : Int) = ((val ((all.drop (8 * i)).take 8) : Nat) : Int) := by rw [u8_wrap, hby]
    have hlt8 : val ((all.drop (8 * i)).take 8) < 256 := by rw [← hby]; exact Nat.mod_lt _ (by omega)
    have hB2 := Bt_lt hlt8
    have v1 : ¬ ob = υ.next := by omega
    have hpl := pack_len i all
    simp [R53.b_33, u1, u2, u3, h8', h8, w1, hb64, hfd, hw8, zeros, List.range_succ, -Int.natCast_ediv, -Int.natCast_pow, v1]
    refine ⟨same_sl u4.sl, ?_⟩
    refine aw_app1 u4 rfl (by omega) (by rw [List.length_append, hpl]; omega) u5 fun v τ3 h3 h4 => ?_
    obtain ⟨a0, c0, hvf⟩ := h3.sl.form
    have hvc : v.cells = #[v] ∧ isCell v = true := by rw [hvf]; exact ⟨rfl, rfl⟩
    have t1 : τ3.get hb = some (.cells [.int .u64 (H : Nat)] 93 false) := by rw [h4.2 _ l1]; exact u1
    have t2 : τ3.get nb = some (.cells [.int .i64 ((all.length - 8 * i : Nat) : Int)] 3 false) := by rw [h4.2 _ l2]; exact u2
    have t3 : τ3.get ob = some (.cells [s] 35 false) := by rw [h4.2 _ l3]; exact u3
    have t4 := h4.1
    simp [t1, t2, t3, hvc.1, hvc.2, d3, d3', w1]
    have hsn : acc ++ pack (i + 1) all = (acc ++ pack i all) ++ [UInt8.ofNat (val ((all.drop (8 * i)).take 8))] := by rw [pack_snoc, List.append_assoc]
    rw [hB2] at h3
    refine hrec (all.length - 8 * (i + 1)) _ (by omega) ⟨i + 1, v, by omega, rfl, ?_, ?_, ?_, ?_, ?_, ?_⟩
    · simp [d1, d2, t1]
    · simp; omega
    · simp [d3', t3]
    · rw [hsn, List.length_append, List.map_append]
      refine own_still h3 (by simp) fun b hb1 hb2 => ?_
      have c1 : ¬ b = nb := by omega
      have c2 : ¬ b = ob := by omega
      simp [c1, c2]
    · simp; omega
    · refine ⟨by have := u6.1; simp; omega, fun b b1 b2 b3 b4 => ?_⟩
      simp [b3, b4]
      rw [h4.2 b b1]
      exact u6.2 b b1 b2 b3 b4
  · have hi2 : i = all.length / 8 := by omega
    have h8' : ¬ (8 : Int) ≤ ((all.length - 8 * i : Nat) : Int) := by omega
    have hpe : (putPend all).length = all.length - 8 * i := by unfold putPend; rw [List.length_drop, hi2]
    have hval : H % 2 ^ (putPend all).length = val (putPend all) := by
      have h9 := (val_split all (8 * i) hi).2
      have e : putPend all = all.drop (8 * i) := by unfold putPend; rw [hi2]
      rw [hpe, e, h9, ← hm]
      have e2 : 2 ^ all.length = 2 ^ (all.length - 8 * i) * 2 ^ (8 * i) := by rw [← Nat.pow_add]; congr 1; omega
      rw [e2, Nat.mod_mul_right_mod]
    simp [R53.b_33, u2, h8', h8]
    have ea : acc ++ pack i all = putAcc acc all := by unfold putAcc; rw [hi2]
    rw [ea] at u4
    refine ⟨⟨⟨H, by omega, hval, u1⟩, by rw [hpe]; exact u2, ⟨s, u3, u4⟩, u5⟩, u6⟩
end
end Go.Proofs.Ytjmafbiklebjcaa

namespace Go.Proofs.Ytjmafbiklebjcaa
open Go.Proofs.Ytjmafbiklebjcaa.Eng
theorem pack_add : ∀ (m n : Nat) (l : List Bool), pack (m + n) l = pack m l ++ pack n (l.drop (8 * m))
  | 0, n, l => by simp [pack]
  | m + 1, n, l => by
    have ih := pack_add m n (l.drop 8)
    rw [show m + 1 + n = (m + n) + 1 by omega, pack, ih, pack]
    simp only [List.cons_append, List.drop_drop]
    rw [show 8 + 8 * m = 8 * (m + 1) by omega]
def accOf (b : List Bool) : List UInt8 := pack (b.length / 8) b
def pendOf (b : List Bool) : List Bool := b.drop (8 * (b.length / 8))
theorem pend_lt (b : List Bool) : (pendOf b).length < 8 := by unfold pendOf; rw [List.length_drop]; omega
theorem acc_step (b c : List Bool) : putAcc (accOf b) (pendOf b ++ c) = accOf (b ++ c) ∧ putPend (pendOf b ++ c) = pendOf (b ++ c) := by
  have hl : (pendOf b ++ c).length = b.length - 8 * (b.length / 8) + c.length := by unfold pendOf; rw [List.length_append, List.length_drop]
  have hd : (b ++ c).drop (8 * (b.length / 8)) = pendOf b ++ c := by unfold pendOf; rw [List.drop_append_of_le_length (by omega)]
  have hn : (b ++ c).length / 8 = b.length / 8 + (pendOf b ++ c).length / 8 := by rw [hl, List.length_append]; omega
  constructor
  · unfold putAcc accOf
    rw [hn, pack_add, pack_app _ b c (by omega), hd]
  · unfold putPend
    show _ = (b ++ c).drop (8 * ((b ++ c).length / 8))
    rw [hn, Nat.mul_add, ← List.drop_drop, hd]
theorem acc_end (b : List Bool) : putAcc (accOf b) (pendOf b ++ List.replicate (8 - (pendOf b).length) true) = pack ((b.length + 7) / 8) (padded b) ∨ (pendOf b).length = 0 := by
  by_cases h0 : (pendOf b).length = 0
  · exact .inr h0
  · left
    have hp : (pendOf b).length = b.length % 8 := by unfold pendOf; rw [List.length_drop]; omega
    have hr : 8 - (pendOf b).length = (8 - b.length % 8) % 8 := by omega
    have h1 := (acc_step b (List.replicate (8 - (pendOf b).length) true)).1
    rw [h1]
    unfold accOf padded
    rw [← hr]
    congr 1
    rw [List.length_append, List.length_replicate]; omega
theorem acc_whole (b : List Bool) (h : (pendOf b).length = 0) : accOf b = pack ((b.length + 7) / 8) (padded b) := by
  have hp : (pendOf b).length = b.length % 8 := by unfold pendOf; rw [List.length_drop]; omega
  have hz : (8 - b.length % 8) % 8 = 0 := by omega
  unfold accOf padded
  rw [hz, List.replicate_zero, List.append_nil]
  congr 1
  omega
theorem acc_len (b : List Bool) : (accOf b).length = b.length / 8 := pack_len _ _
theorem ones_bits (m : Nat) : natBits (2 ^ m - 1) m = List.replicate m true := by
  apply List.ext_getElem?
  intro i
  have h : ∀ (n w i : Nat), (natBits n w)[i]? = if i < w then some (n.testBit (w - 1 - i)) else none := by
    intro n w
    induction w with
    | zero => intro i; simp [natBits]
    | succ w ih =>
      intro i
      cases i with
      | zero => simp [natBits]
      | succ i =>
        simp only [natBits, List.getElem?_cons_succ, ih i]
        by_cases hi : i < w
        · rw [if_pos hi, if_pos (by omega)]; congr 2; omega
        · rw [if_neg hi, if_neg (by omega)]
  rw [h, List.getElem?_replicate]
  by_cases hi : i < m
  · rw [if_pos hi, if_pos hi, Nat.testBit_two_pow_sub_one]
    simp; omega
  · rw [if_neg hi, if_neg hi]
section
variable {σ : AW} {k : Nat} {Q : Value → AW → Prop}
theorem wpA_callC {call : FuncId → List Value → AM Value} {f : FuncId} {a b c : Value} {args : List Value} : wpA (callA call (.func (.func f) #[] #[a, b, c]) args) σ Q ↔ wpA (call f (args ++ [a, b, c])) σ Q := by
  show wpA (call f ([] ++ args ++ [a, b, c])) σ Q ↔ _
  simp only [List.nil_append]
theorem enc18_eq (call : FuncId → List Value → AM Value) (x : Value) : R48.top call k x = bindV (ret (.slice none 0 0)) fun v2 => bindV (newA [.slice none 0 0] 35) fun v3 => bindV (call 52 []) fun v10 => bindV (newA (arrC (arrI 0)) 91) fun v4 => bindV (storeA 514 v4 v10) fun _ => bindV (newA [.int .u64 0] 93) fun v5 => bindV (newA [.int .i64 0] 3) fun v6 => bindV (storeA 1 v5 (.int .u64 0)) fun _ => bindV (storeA 1 v6 (.int .i64 0)) fun _ =>
    bindV (ret (.func (.func 53) #[] #[v5, v6, v3])) fun v11 => bindV (ret v11) fun v7 => bindV (ret x) fun v12 => bindV (lenA v12) fun v13 => bindV (ret (.int .i64 0)) fun v14 => loop1 (R48.b_42 call k v12 v13 v3 v4 v6 v7) k v14 := by kernel_rfl
end
end Go.Proofs.Ytjmafbiklebjcaa

namespace Go.Proofs.Ytjmafbiklebjcaa
open Go.Proofs.Ytjmafbiklebjcaa.Eng
theorem codes_small : ((List.range 257).all fun s => decide ((codeOf s).1 < 2 ^ (codeOf s).2)) = true := by decide +kernel
theorem code_lt {s : Nat} (h : s < 257) : (codeOf s).1 < 2 ^ (codeOf s).2 := by
  have := List.all_eq_true.1 codes_small s (List.mem_range.2 h)
  simpa using this
theorem encBits_snoc (l : List UInt8) (c : UInt8) : encBits (l ++ [c]) = encBits l ++ codeBits c.toNat := by simp [encBits]
theorem But.trans {B hb nb ob : Nat} {σ τ υ : AW} (h : But B hb nb ob σ τ) (k : But B hb nb ob τ υ) : But B hb nb ob σ υ :=
  ⟨Nat.le_trans h.1 k.1, fun b h1 h2 h3 h4 => (k.2 b h1 h2 h3 h4).trans (h.2 b h1 h2 h3 h4)⟩
theorem But.refl (B hb nb ob : Nat) (σ : AW) : But B hb nb ob σ σ := ⟨Nat.le_refl _, fun _ _ _ _ _ => rfl⟩
theorem loadP {σ : AW} {Q : Value → AW → Prop} {b n : Nat} {s : Value} {e : TypeId} (g : σ.get b = some (.cells [s] e false)) (hc : isCell s = true) (h : Q s σ) : wpA (loadA none (ptr b)) σ Q := by
  have hc2 : cellsOk [s] = true := by simp [cellsOk_eq, hc]
  simp [g, hc]
  exact h
section
variable {σ : AW} {k : Nat} {Q : Value → AW → Prop}
theorem encode_spec {x : Value} {l : List UInt8} {n : Nat} (hx : Sl σ x 1 n (l.map Bt)) (hl : l.length < bigH) (hk : bigH + 1400 ≤ k) : wpA (callN Try.prog k 48 [x]) σ fun v τ => Ext σ τ ∧ Own σ.next τ v 5 1 (encL l).length ((encL l).map Bt) := by
  have e1 : n = l.length := by have := hx.1; simp at this; omega
  subst e1
  rw [callN_at (by omega), R48.eq, enc18_eq]
  have hbig : bigH + 1399 ≤ k - 1 := by omega
  generalize hk1 : k - 1 = k1 at hbig
  have hbH : bigH = 4194304 := rfl
  simp [-splice_def, -Int.natCast_add, -Int.natCast_ediv]
  refine (codes_spec (by omega)).mono ?_
  rintro v τ ⟨he, rfl⟩
  rw [codes_lit]
  have hz : (arrC (arrI 0)).length = 514 := by rw [arrC_len, arrI_len]
  have hen : σ.next + 1 ≤ τ.next := by have := he.1; simpa using this
  have heo : τ.get σ.next = some (.cells [.slice none 0 0] 35 false) := by rw [he.2 _ (by simp)]; simp
  have hel : ∀ b, b < σ.next → τ.get b = σ.get b := fun b hb => by
    have c1 : ¬ b = σ.next := by omega
    rw [he.2 b (by simp; omega)]; simp [c1]
  simp [zero514, lit514, hz, lit_ok, -splice_def, -Int.natCast_add, -Int.natCast_ediv]
  rw [splice_whole (by rw [hz, lit514]), letL_def]
  have hl2 : l.length < 4194304 := hl
  have hbig2 : 4194304 + 1399 ≤ k1 := hbig
  clear hz hbH hbig hl hk hk1
  generalize hT : (τ.push (.cells (arrC (arrI 0)) 91 false)).put τ.next (some (.cells (arrC codesLit) 91 false)) = T
  have hTb : T.get τ.next = some (.cells (arrC codesLit) 91 false) := by rw [← hT]; simp
  have hTn : T.next = τ.next + 1 := by rw [← hT]; simp
  have hTl : ∀ b, b < τ.next → T.get b = τ.get b := fun b hb => by
    have c1 : ¬ b = τ.next := by omega
    rw [← hT]; simp [c1]
  clear hT
  have q1 : ¬ T.next = T.next + 1 := by omega
  have q2 : ¬ T.next + 1 = T.next := by omega
  simp [len_iff hx, q1, q2, -Int.natCast_add, -Int.natCast_ediv]
  have q3 : ¬ τ.next + 1 = τ.next + 1 + 1 := by omega
  generalize hU : (((T.push (.cells [.int .u64 0] 93 false)).push (.cells [.int .i64 0] 3 false)).put (τ.next + 1) (some (.cells [.int .u64 0] 93 false))).put (τ.next + 1 + 1) (some (.cells [.int .i64 0] 3 false)) = U
  have hUn : U.next = τ.next + 3 := by rw [← hU]; simp [hTn]
  have hU1 : U.get (τ.next + 1) = some (.cells [.int .u64 0] 93 false) := by rw [← hU]; simp
  have hU2 : U.get (τ.next + 1 + 1) = some (.cells [.int .i64 0] 3 false) := by rw [← hU]; simp
  have hUl : ∀ b, b < τ.next + 1 → U.get b = T.get b := fun b hb => by
    have c1 : ¬ b = τ.next + 1 := by omega
    have c2 : ¬ b = τ.next + 1 + 1 := by omega
    have c3 : ¬ b = T.next := by omega
    have c4 : ¬ b = T.next + 1 := by omega
    rw [← hU]; simp [c1, c2, c3, c4]
  clear hU
  have hUo : U.get σ.next = some (.cells [.slice none 0 0] 35 false) := by rw [hUl _ (by omega), hTl _ (by omega)]; exact heo
  have hUa : U.get τ.next = some (.cells (arrC codesLit) 91 false) := by rw [hUl _ (by omega)]; exact hTb
  have hUσ : ∀ b, b < σ.next → U.get b = σ.get b := fun b hb => by rw [hUl _ (by omega), hTl _ (by omega)]; exact hel b hb
  clear he heo hel hTb hTl q1 q2
  have fin : ∀ {υ : AW} {acc : List UInt8} {pend : List Bool}, PutSt (τ.next + 3) (τ.next + 1) (τ.next + 1 + 1) σ.next υ acc pend → But (τ.next + 3) (τ.next + 1) (τ.next + 1 + 1) σ.next U υ → acc = encL l →
      wpA (R48.j_10 (callN Try.prog k1) k1 (ptr σ.next)) υ fun v τ => Ext σ τ ∧ Own σ.next τ v 5 1 (encL l).length ((encL l).map Bt) := by
    intro υ acc pend st bt e
    obtain ⟨_, _, ⟨s, g3, own⟩, hB⟩ := st
    subst e
    obtain ⟨a0, c0, hvf⟩ := own.sl.form
    have hvc : s.cells = #[s] ∧ isCell s = true := by rw [hvf]; exact ⟨rfl, rfl⟩
    simp [R48.j_10, g3, hvc.1, hvc.2]
    refine ⟨⟨by have := bt.1; omega, fun b hb => ?_⟩, own.mono (by omega)⟩
    rw [bt.2 b (by omega) (by omega) (by omega) (by omega)]
    exact hUσ b hb
  refine aw_loop1 (fun r u υ => ∃ i : Nat, u = .int .i64 i ∧ i ≤ l.length ∧ r = l.length - i ∧ PutSt (τ.next + 3) (τ.next + 1) (τ.next + 1 + 1) σ.next υ (accOf (encBits (l.take i))) (pendOf (encBits (l.take i))) ∧ But (τ.next + 3) (τ.next + 1) (τ.next + 1 + 1) σ.next U υ) ?_ k1 l.length _ U ⟨0, rfl, by omega, rfl, ?_, But.refl _ _ _ _ _⟩ (by omega)
  · rintro r rec u υ ⟨i, rfl, hi, rfl, st, bt⟩ hrec
    have hxU : Sl υ x 1 l.length (l.map Bt) := hx.ext ⟨by have := bt.1; omega, fun b hb => by rw [bt.2 b (by omega) (by omega) (by omega) (by omega)]; exact hUσ b hb⟩
    have hUa' : υ.get τ.next = some (.cells (arrC codesLit) 91 false) := by rw [bt.2 _ (by omega) (by omega) (by omega) (by omega)]; exact hUa
    by_cases hlt : i < l.length
    · obtain ⟨c, hc⟩ : ∃ c, l[i]? = some c := ⟨_, List.getElem?_eq_getElem hlt⟩
      have hc256 : c.toNat < 256 := c.toNat_lt
      have hcz : (c.toNat : Int) < 257 := by omega
      have htk : l.take (i + 1) = l.take i ++ [c] := by rw [List.take_add_one, hc]; rfl
      have hwi : IntKind.i64.wrap ((i : Int) + 1) = ((i + 1 : Nat) : Int) := wrap64 (by omega) (by omega)
      have harr := arr_at (code_at (s := c.toNat) (by omega))
      have hs := size_at (s := c.toNat) (by omega)
      have hcl := code_lt (s := c.toNat) (by omega)
      simp [R48.b_42, hlt, ↓at1_all hxU hc, Bt, hUa', hcz, hwi, -Int.natCast_add]
      rw [harr, letL_def]
      have hb := bits_le (l.take i)
      have hlen : (l.take i).length = i := by rw [List.length_take]; omega
      refine ⟨by rw [lit514]; omega, ?_⟩
      have hac := acc_len (encBits (l.take i))
      rw [encBits_len] at hac
      have hst := put_spec (k := k1) (c := (codeOf c.toNat).1) (w := (codeOf c.toNat).2) st (by omega) (by omega) (by omega) (by omega) (by omega) (by omega) (pend_lt _) hs.2.1 hcl (by omega) (by omega)
      refine hst.mono ?_
      rintro v υ2 ⟨st2, bt2⟩
      obtain ⟨a1, a2⟩ := acc_step (encBits (l.take i)) (codeBits c.toNat)
      rw [show natBits (codeOf c.toNat).1 (codeOf c.toNat).2 = codeBits c.toNat from rfl, a1, a2, ← encBits_snoc, ← htk] at st2
      exact hrec (l.length - (i + 1)) _ _ (by omega) ⟨i + 1, rfl, by omega, rfl, st2, bt.trans bt2⟩
    · have e : i = l.length := by omega
      subst e
      rw [List.take_length] at st
      have hnum := st.num
      have hpl := pend_lt (encBits l)
      by_cases hp : (pendOf (encBits l)).length = 0
      · have hp' : ((pendOf (encBits l)).length : Int) = 0 := by omega
        rw [hp'] at hnum
        simp [R48.b_42, hnum, -Int.natCast_add]
        refine fin st bt ?_
        rw [acc_whole _ hp, encBits_len]; rfl
      · have hp' : (0 : Int) < ((pendOf (encBits l)).length : Nat) := by omega
        generalize hm : (pendOf (encBits l)).length = m at *
        have w1 : IntKind.i64.wrap (8 - (m : Int)) = ((8 - m : Nat) : Int) := by rw [wrap64 (by omega) (by omega)]; omega
        have w0 : (0 : Int) ≤ ((8 - m : Nat) : Int) := by omega
        have hb32 : IntKind.u32.bits = 32 := rfl
        have hpw : 2 ^ (8 - m) ≤ 2 ^ 8 := Nat.pow_le_pow_right (by omega) (by omega)
        have hp1 : 1 ≤ 2 ^ (8 - m) := Nat.one_le_two_pow
        have w2 : IntKind.u32.wrap (2 ^ min (8 - m) 32) = ((2 ^ (8 - m) : Nat) : Int) := by
          have := shl_u32 (n := 1) (s := 8 - m) (by omega) (by omega)
          simpa using this
        have w3 : IntKind.u32.wrap (((2 ^ (8 - m) : Nat) : Int) - 1) = ((2 ^ (8 - m) - 1 : Nat) : Int) := by
          rw [show ((2 ^ (8 - m) : Nat) : Int) - 1 = ((2 ^ (8 - m) - 1 : Nat) : Int) by omega]; exact wrap_u32 (by omega)
        simp [R48.b_42, hnum, hp', w1, w0, hb32, w2, w3, -Int.natCast_add, -Int.natCast_pow]
        rw [if_pos (by omega)]
        have hac := acc_len (encBits l)
        rw [encBits_len] at hac
        have hb := bits_le l
        have hst := put_spec (k := k1) (c := 2 ^ (8 - m) - 1) (w := 8 - m) st (by omega) (by omega) (by omega) (by omega) (by omega) (by omega) (by omega) (by omega) (by omega) (by omega) (by omega)
        refine hst.mono ?_
        rintro v υ2 ⟨st2, bt2⟩
        refine fin st2 (bt.trans bt2) ?_
        rw [ones_bits, ← hm]
        have he := acc_end (encBits l)
        rcases he with he | he
        · rw [he, encBits_len]; rfl
        · omega
  · refine ⟨⟨0, by omega, by simp [pendOf, encBits, val], by simpa using hU1⟩, by simpa [pendOf, encBits] using hU2, ⟨.slice none 0 0, hUo, ?_⟩, by omega⟩
    have e0 : accOf (encBits (l.take 0)) = [] := by simp [accOf, encBits, pack]
    rw [e0]
    exact Own.nil _ _ _ _
end
end Go.Proofs.Ytjmafbiklebjcaa
