/- Codes read: no program in sight. -/
import Derived.Test.YtgpddhoidlpcaaaHuffL
set_option linter.unusedVariables false
set_option linter.unusedSimpArgs false
namespace Go.Proofs.Ytgpddhoidlpcaaa
open Go.Proofs.Ytgpddhoidlpcaaa.Eng
theorem val_inj : ∀ (p q : List Bool), p.length = q.length → val p = val q → p = q
  | [], [], _, _ => rfl
  | [], _ :: _, h, _ => by simp at h
  | _ :: _, [], h, _ => by simp at h
  | a :: p, b :: q, h, hv => by
    have hl : p.length = q.length := by simpa using h
    have h1 := val_append [a] p
    have h2 := val_append [b] q
    simp only [List.singleton_append] at h1 h2
    have l1 := val_lt p
    have l2 := val_lt q
    have e1 : val [a] = bn a := by cases a <;> rfl
    have e2 : val [b] = bn b := by cases b <;> rfl
    rw [h1, h2, e1, e2, hl] at hv
    rw [hl] at l1
    have hab : a = b := by
      cases a <;> cases b <;> simp [bn] at hv ⊢ <;> omega
    subst hab
    rw [val_inj p q hl (by omega)]
theorem codeBits_len (s : Nat) : (codeBits s).length = (codeOf s).2 := natBits_len _ _
theorem codeBits_val {s : Nat} (h : s < 257) : val (codeBits s) = (codeOf s).1 := by
  unfold codeBits
  rw [natBits_val, Nat.mod_eq_of_lt (code_lt h)]
theorem codeBits_eq {s : Nat} (h : s < 257) (p : List Bool) : codeBits s = p ↔ p.length = (codeOf s).2 ∧ val p = (codeOf s).1 := by
  constructor
  · rintro rfl
    exact ⟨codeBits_len s, codeBits_val h⟩
  · rintro ⟨h1, h2⟩
    exact val_inj _ _ (by rw [codeBits_len, h1]) (by rw [codeBits_val h, h2])
/-- Whose code bits are. -/
def look (p : List Bool) : Option Nat := (List.range 257).find? fun s => codeBits s == p
theorem look_some {p : List Bool} {s : Nat} (h : look p = some s) : s < 257 ∧ codeBits s = p := by
  have h1 := List.find?_some h
  have h2 := List.mem_of_find?_eq_some h
  exact ⟨List.mem_range.1 h2, by simpa using h1⟩
theorem look_none {p : List Bool} (h : look p = none) {s : Nat} (hs : s < 257) : codeBits s ≠ p := by
  have := List.find?_eq_none.1 h s (List.mem_range.2 hs)
  simpa using this
theorem pre_ne {s t : Nat} (hs : s < 257) (ht : t < 257) {q : List Bool} (h : codeBits s = codeBits t ++ q) : s = t := by
  by_cases hne : s = t
  · exact hne
  exfalso
  have hl : (codeOf s).2 = (codeOf t).2 + q.length := by rw [← codeBits_len, h, List.length_append, codeBits_len]
  have hv := val_append (codeBits t) q
  rw [← h, codeBits_val hs, codeBits_val ht] at hv
  have hq := val_lt q
  rcases apart_at ht hs (fun e => hne e.symm) with c | c
  · omega
  · refine c ?_
    rw [hl, Nat.add_sub_cancel_left, hv, Nat.mul_comm, Nat.mul_add_div (Nat.two_pow_pos _), Nat.div_eq_of_lt hq, Nat.add_zero]
theorem look_code {s : Nat} (hs : s < 257) : look (codeBits s) = some s := by
  cases h : look (codeBits s) with
  | none => exact absurd rfl (look_none h hs)
  | some t =>
    obtain ⟨h1, h2⟩ := look_some h
    rw [pre_ne h1 hs (q := []) (by simp [h2])]
theorem look_pre {s : Nat} (hs : s < 257) {p q : List Bool} (h : codeBits s = p ++ q) (hq : q ≠ []) : look p = none := by
  cases h' : look p with
  | none => rfl
  | some t =>
    obtain ⟨h1, rfl⟩ := look_some h'
    have e := pre_ne hs h1 h
    subst e
    have : (codeBits s).length = (codeBits s).length + q.length := by rw [← List.length_append, ← h]
    have : q.length ≠ 0 := fun h0 => hq (List.length_eq_zero_iff.1 h0)
    omega
theorem look_long {p : List Bool} (h : 30 < p.length) : look p = none := by
  cases h' : look p with
  | none => rfl
  | some t =>
    obtain ⟨h1, rfl⟩ := look_some h'
    have := (size_at h1).2.1
    rw [codeBits_len] at h
    omega
inductive DecR where
  | ok (l : List UInt8)
  | eos (i : Nat)
  | pad
/-- Bits read, with what was read ahead of them. -/
def dec : List Bool → List Bool → List UInt8 → Nat → DecR
  | [], p, out, _ => if 7 < p.length ∨ p.all id = false then .pad else .ok out
  | b :: bs, p, out, i => match look (p ++ [b]) with
    | some s => if s = 256 then .eos (i / 8) else dec bs [] (out ++ [UInt8.ofNat s]) (i + 1)
    | none => dec bs (p ++ [b]) out (i + 1)
theorem dec_run {s : Nat} (hs : s < 256) : ∀ (q p : List Bool) (out : List UInt8) (i : Nat) (rest : List Bool), codeBits s = p ++ q → q ≠ [] → dec (q ++ rest) p out i = dec rest [] (out ++ [UInt8.ofNat s]) (i + q.length)
  | [], _, _, _, _, _, h => absurd rfl h
  | [b], p, out, i, rest, h, _ => by
    have : look (p ++ [b]) = some s := by rw [← h]; exact look_code (by omega)
    have hne : ¬ s = 256 := by omega
    simp [dec, this, hne]
  | b :: c :: q, p, out, i, rest, h, _ => by
    have h' : codeBits s = (p ++ [b]) ++ (c :: q) := by simp [h]
    have : look (p ++ [b]) = none := look_pre (by omega) h' (by simp)
    have ih := dec_run hs (c :: q) (p ++ [b]) out (i + 1) rest h' (by simp)
    rw [List.cons_append, dec, this]
    simp only []
    rw [ih]
    simp only [List.length_cons]
    congr 1
    omega
theorem codeBits_ne {s : Nat} (h : s < 257) : codeBits s ≠ [] := by
  intro e
  have := (size_at h).1
  rw [← codeBits_len, e] at this
  simp at this
theorem dec_enc : ∀ (l : List UInt8) (out : List UInt8) (i : Nat) (rest : List Bool), dec (encBits l ++ rest) [] out i = dec rest [] (out ++ l) (i + (encBits l).length)
  | [], out, i, rest => by simp [encBits]
  | c :: l, out, i, rest => by
    have e : encBits (c :: l) = codeBits c.toNat ++ encBits l := by simp [encBits]
    have hc := c.toNat_lt
    rw [e, List.append_assoc, dec_run (s := c.toNat) (by omega) (codeBits c.toNat) [] out i _ (by simp) (codeBits_ne (by omega)), dec_enc l]
    have : UInt8.ofNat c.toNat = c := by simp
    rw [this, List.length_append, List.append_assoc]
    congr 1
    omega
theorem ones_ok : ((List.range 30).all fun j => (look (List.replicate j true)).isNone) = true := by decide +kernel
theorem look_ones {j : Nat} (h : j < 30) : look (List.replicate j true) = none := by
  have := List.all_eq_true.1 ones_ok j (List.mem_range.2 h)
  simpa using this
theorem dec_ones : ∀ (m j : Nat) (out : List UInt8) (i : Nat), m + j < 30 → dec (List.replicate m true) (List.replicate j true) out i = if 7 < m + j then .pad else .ok out
  | 0, j, out, i, _ => by simp [dec]
  | m + 1, j, out, i, h => by
    have e : List.replicate j true ++ [true] = List.replicate (j + 1) true := (List.replicate_succ' ..).symm
    rw [List.replicate_succ, dec, e, look_ones (by omega)]
    simp only []
    rw [dec_ones m (j + 1) out (i + 1) (by omega), show m + (j + 1) = m + 1 + j by omega]
theorem dec_back : ∀ (bs p : List Bool) (out : List UInt8) (i : Nat) (y : List UInt8), dec bs p out i = .ok y → ∃ z m, y = out ++ z ∧ p ++ bs = encBits z ++ List.replicate m true ∧ m ≤ 7
  | [], p, out, i, y, h => by
    rw [dec] at h
    split at h
    · cases h
    · rename_i hc
      injection h with h
      refine ⟨[], p.length, by simp [h], ?_, by omega⟩
      have ha : p.all id = true := by
        cases hb : p.all id with
        | true => rfl
        | false => exact absurd (Or.inr hb) hc
      have : p = List.replicate p.length true := List.eq_replicate_of_mem fun b hb => by simpa using List.all_eq_true.1 ha b hb
      simpa [encBits] using this
  | b :: bs, p, out, i, y, h => by
    rw [dec] at h
    cases hl : look (p ++ [b]) with
    | none =>
      rw [hl] at h
      obtain ⟨z, m, h1, h2, h3⟩ := dec_back bs (p ++ [b]) out (i + 1) y h
      exact ⟨z, m, h1, by rw [← h2]; simp, h3⟩
    | some s =>
      rw [hl] at h
      obtain ⟨hs, hc⟩ := look_some hl
      by_cases h256 : s = 256
      · simp [h256] at h
      · simp only [if_neg h256] at h
        obtain ⟨z, m, h1, h2, h3⟩ := dec_back bs [] _ (i + 1) y h
        have e : (UInt8.ofNat s).toNat = s := by rw [UInt8.toNat_ofNat']; exact Nat.mod_eq_of_lt (by omega)
        refine ⟨UInt8.ofNat s :: z, m, by rw [h1]; simp, ?_, h3⟩
        have e2 : encBits (UInt8.ofNat s :: z) = codeBits s ++ encBits z := by simp [encBits, e]
        rw [e2, hc]
        simp only [List.nil_append] at h2
        simp [h2]
theorem dec_short : ∀ (w p : List Bool) (out : List UInt8) (i : Nat), p.length + w.length ≤ 7 → dec w p out i = .pad ∨ ∃ z, dec w p out i = .ok (out ++ z) ∧ (false ∈ p ++ w → z ≠ [])
  | [], p, out, i, h => by
    rw [dec]
    split
    · exact .inl rfl
    · rename_i hc
      refine .inr ⟨[], by simp, fun hf => absurd ?_ hc⟩
      rw [List.append_nil] at hf
      refine .inr ?_
      rw [List.all_eq_false]
      exact ⟨false, hf, by simp⟩
  | b :: w, p, out, i, h => by
    rw [dec]
    cases hl : look (p ++ [b]) with
    | none =>
      simp only []
      rcases dec_short w (p ++ [b]) out (i + 1) (by simp at h ⊢; omega) with c | ⟨z, c, d⟩
      · exact .inl c
      · exact .inr ⟨z, c, fun hf => d (by simpa using hf)⟩
    | some s =>
      obtain ⟨hs, hc⟩ := look_some hl
      have h256 : s ≠ 256 := by
        rintro rfl
        have e : (codeOf 256).2 = 30 := by decide +kernel
        have : (codeBits 256).length = (p ++ [b]).length := by rw [hc]
        rw [codeBits_len, e] at this
        simp at this h
        omega
      simp only [if_neg h256]
      rcases dec_short w [] (out ++ [UInt8.ofNat s]) (i + 1) (by simp at h ⊢; omega) with c | ⟨z, c, d⟩
      · exact .inl c
      · exact .inr ⟨UInt8.ofNat s :: z, by rw [c]; simp, fun _ => by simp⟩
/-- The bits of bytes. -/
def bitsL (l : List UInt8) : List Bool := l.flatMap fun c => natBits c.toNat 8
theorem bitsL_len (l : List UInt8) : (bitsL l).length = 8 * l.length := by
  induction l with
  | nil => rfl
  | cons c l ih =>
    have e : bitsL (c :: l) = natBits c.toNat 8 ++ bitsL l := by simp [bitsL]
    rw [e, List.length_append, natBits_len, ih, List.length_cons]
    omega
theorem bitsL_app (a b : List UInt8) : bitsL (a ++ b) = bitsL a ++ bitsL b := by simp [bitsL]
theorem byte_bits (bs : List Bool) (h : bs.length = 8) : natBits (UInt8.ofNat (val bs)).toNat 8 = bs := by
  have hv := val_lt bs
  rw [h] at hv
  refine val_inj _ _ (by rw [natBits_len, h]) ?_
  rw [natBits_val, UInt8.toNat_ofNat']
  omega
theorem bitsL_pack : ∀ (n : Nat) (bs : List Bool), bs.length = 8 * n → bitsL (pack n bs) = bs
  | 0, bs, h => by
    have : bs = [] := List.length_eq_zero_iff.1 (by omega)
    subst this
    rfl
  | n + 1, bs, h => by
    have e : bitsL (pack (n + 1) bs) = natBits (UInt8.ofNat (val (bs.take 8))).toNat 8 ++ bitsL (pack n (bs.drop 8)) := by simp [bitsL, pack]
    rw [e, byte_bits _ (by rw [List.length_take]; omega), bitsL_pack n _ (by rw [List.length_drop]; omega), List.take_append_drop]
theorem pack_bitsL : ∀ (l : List UInt8), pack l.length (bitsL l) = l
  | [] => rfl
  | c :: l => by
    have e : bitsL (c :: l) = natBits c.toNat 8 ++ bitsL l := by simp [bitsL]
    have hl : (natBits c.toNat 8).length = 8 := natBits_len _ _
    have hc := c.toNat_lt
    rw [List.length_cons, pack, e, List.take_append_of_le_length (by omega), List.take_of_length_le (by omega), List.drop_append_of_le_length (by omega), List.drop_of_length_le (by omega), List.nil_append, pack_bitsL l, natBits_val, Nat.mod_eq_of_lt (by omega)]
    simp
theorem bits_encL (l : List UInt8) : bitsL (encL l) = padded (encBits l) := by
  unfold encL
  refine bitsL_pack _ _ ?_
  rw [padded_len, encBits_len]
  omega
/-- What bytes are, read. -/
def decL (l : List UInt8) : DecR := dec (bitsL l) [] [] 0
theorem dec_encL (l : List UInt8) : decL (encL l) = .ok l := by
  unfold decL
  rw [bits_encL]
  unfold padded
  rw [dec_enc]
  have := dec_ones ((8 - (encBits l).length % 8) % 8) 0 ([] ++ l) (0 + (encBits l).length) (by omega)
  simp only [List.replicate_zero] at this
  rw [this, if_neg (by omega)]
  simp
theorem decL_back {l y : List UInt8} (h : decL l = .ok y) : encL y = l := by
  obtain ⟨z, m, h1, h2, h3⟩ := dec_back _ _ _ _ _ h
  simp only [List.nil_append] at h1 h2
  subst h1
  have hl := bitsL_len l
  have hb : (encBits y).length + m = 8 * l.length := by rw [← hl, h2]; simp
  have hm : m = (8 - (encBits y).length % 8) % 8 := by omega
  have e : padded (encBits y) = bitsL l := by unfold padded; rw [← hm, h2]
  unfold encL
  rw [e, show (bitsOf y + 7) / 8 = l.length by rw [← encBits_len]; omega]
  exact pack_bitsL l
end Go.Proofs.Ytgpddhoidlpcaaa

namespace Go.Proofs.Ytgpddhoidlpcaaa
open Go.Proofs.Ytgpddhoidlpcaaa.Eng
section
variable {σ : AW} {k : Nat} {Q : Value → AW → Prop}
theorem all_Bt (l : List UInt8) : (l.map Bt).all isCell = true := by rw [cellsOk_eq]; exact Bt_cell l
/-- A copy of bytes. -/
theorem aw_copy {x : Value} {l : List UInt8} {n : Nat} (hx : Sl σ x 1 n (l.map Bt)) (hn : n ≤ 2 ^ 40) : wpA (appendA 5 1 1 (.slice (some ⟨σ.next, 0, some 1⟩) 0 0) x) (σ.push (.cells [] 5 false)) fun v τ => Ext σ τ ∧ Own σ.next τ v 5 1 n (l.map Bt) := by
  refine aw_appAny (B := σ.next) (n := 0) (vs := []) (own_new (Nat.le_refl _) rfl) (hx.ext (Ext.push _ _)) (all_Bt l) (by omega) (by omega) (by simp) fun v τ h1 h2 => ?_
  rw [Nat.zero_add, List.nil_append] at h1
  exact ⟨((Ext.push σ (.cells [] 5 false)).kept (Nat.le_refl _)).trans h2, h1⟩
theorem law_HuffEncodes {x : Value} {l : List UInt8} {n : Nat} (hx : Sl σ x 1 n (l.map Bt)) (hl : l.length < bigH) (hk : 8 * bigH * 4 + 1600 ≤ k) : wpA (callN Try.prog k 6 [x]) σ fun v _ => v = .bool true := by
  have e1 : n = l.length := by have := hx.1; simp at this; omega
  subst e1
  rw [callN_at (by omega), R6.eq]
  have hbH : bigH = 4194304 := rfl
  have hbig : 8 * bigH * 4 + 1599 ≤ k - 1 := by omega
  generalize hk1 : k - 1 = k1 at hbig
  have hl2 : l.length < 4194304 := hl
  have hen : bigH + 1400 ≤ k1 := by omega
  have hre : 8 * bigH * 4 + 1500 ≤ k1 := by omega
  have hle : bigH + 1300 ≤ k1 := by omega
  have hawk : ∀ τ, wpA (callN Try.prog k1 16 []) τ fun v _ => v = .bool true := fun τ => awake3_spec (by omega)
  have h40 : l.length ≤ 2 ^ 40 := by omega
  clear hbig hbH hk hk1
  simp [R6.d_9, R6.top, zeros]
  refine (aw_copy hx h40).mono ?_
  rintro c τ ⟨he, oc⟩
  refine (encode_spec oc.sl hl hen).mono ?_
  rintro w τ2 ⟨he2, ow⟩
  simp [toStr_own ow]
  have hx2 := (hx.ext he).ext he2
  refine (rencode_spec hx2 hl hre).mono ?_
  rintro u τ3 ⟨he3, ou⟩
  simp [here_iff, toStr_own (ow.ext he3), toStr_own ou, wpA_eqStr, toList_strOf]
  refine (length_spec (hx2.ext he3) hl hle).mono ?_
  rintro z τ4 ⟨he4, rfl⟩
  have e := encL_len l
  simp [len_iff ow.sl, e, -Int.natCast_ediv, -Int.natCast_add]
  refine (hawk _).mono ?_
  rintro _ _ rfl
  simp
end
end Go.Proofs.Ytgpddhoidlpcaaa
