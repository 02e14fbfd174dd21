/- HuffBack; padding, no program in sight. -/
import Derived.Test.YtgpddhoidlpcaaaHuffS
set_option linter.unusedVariables false
set_option linter.unusedSimpArgs false
namespace Go.Proofs.Ytgpddhoidlpcaaa
open Go.Proofs.Ytgpddhoidlpcaaa.Eng
theorem encL_le (l : List UInt8) : (encL l).length ≤ 4 * l.length ∧ 5 * l.length ≤ 8 * (encL l).length := by
  have := bits_le l
  rw [encL_len]
  omega
section
variable {σ : AW} {k : Nat} {Q : Value → AW → Prop}
theorem law_HuffBack {x y : Value} {l m : List UInt8} {n n' : Nat} (hx : Sl σ x 1 n (l.map Bt)) (hy : Sl σ y 1 n' (m.map Bt)) (hl : l.length ≤ 1048576) (hm : m.length ≤ 1048576) (hk : 1073741824 + 1500 ≤ k) : wpA (callN Try.prog k 8 [x, y]) σ fun v _ => v = .bool true := by
  have e1 : n = l.length := by have := hx.1; simp at this; omega
  subst e1
  have e2 : n' = m.length := by have := hy.1; simp at this; omega
  subst e2
  rw [callN_at (by omega), R8.eq]
  have hbig : 1073741824 + 1499 ≤ k - 1 := by omega
  generalize hk1 : k - 1 = k1 at hbig
  have hbH : bigH = 4194304 := rfl
  have hen : bigH + 1400 ≤ k1 := by omega
  have hlH : l.length < bigH := by omega
  have hdk : 1073741824 + 1400 ≤ k1 := by omega
  have hawk : ∀ τ, wpA (callN Try.prog k1 16 []) τ fun v _ => v = .bool true := fun τ => awake3_spec (by omega)
  have hle := encL_le l
  simp [R8.d_23, R8.g_59, R8.top]
  refine (encode_spec hx hlH hen).mono ?_
  rintro w τ ⟨he, ow⟩
  refine (decode_spec ow.sl (by omega) hdk).mono ?_
  rintro w τ2 ⟨he2, dw⟩
  rw [dec_encL] at dw
  obtain ⟨z, rfl, oz⟩ := dw
  have hx2 := (hx.ext he).ext he2
  have hy2 := (hy.ext he).ext he2
  simp [toStr_own oz, toStr_sl hx2, wpA_neStr, toList_strOf]
  refine (decode_spec hy2 (by omega) hdk).mono ?_
  rintro w τ3 ⟨he3, dw⟩
  cases hd : decL m with
  | ok y =>
    rw [hd] at dw
    obtain ⟨z', rfl, oz'⟩ := dw
    have hb := decL_back hd
    have hyl := encL_le y
    rw [hb] at hyl
    simp
    refine (encode_spec oz'.sl (by omega) hen).mono ?_
    rintro u τ4 ⟨he4, ou⟩
    rw [hb] at ou
    simp [there_iff, toStr_own ou, toStr_sl (hy2.ext he3), toStr_sl ((hy2.ext he3).ext he4), wpA_eqStr, toList_strOf]
    refine (hawk _).mono ?_
    rintro _ _ rfl
    simp
  | eos i =>
    rw [hd] at dw
    subst dw
    simp
    refine (hawk _).mono ?_
    rintro _ _ rfl
    simp
  | pad =>
    rw [hd] at dw
    subst dw
    simp
    refine (hawk _).mono ?_
    rintro _ _ rfl
    simp
end
/-! ### padding -/
theorem dec_more (l : List UInt8) : decL (encL l ++ [255]) = .pad := by
  unfold decL
  rw [bitsL_app, bits_encL]
  have e : bitsL [255] = List.replicate 8 true := by decide
  rw [e]
  unfold padded
  rw [List.append_assoc, dec_enc, List.replicate_append_replicate]
  have := dec_ones ((8 - (encBits l).length % 8) % 8 + 8) 0 ([] ++ l) (0 + (encBits l).length) (by omega)
  simp only [List.replicate_zero] at this
  rw [this, if_pos (by omega)]
/-- How many bits are free. -/
def freeN (l : List UInt8) : Nat := (8 - bitsOf l % 8) % 8
/-- Ones but for one bit. -/
def holed (f q : Nat) : List Bool := List.replicate (f - 1 - q) true ++ false :: List.replicate q true
theorem holed_len {f q : Nat} (h : q < f) : (holed f q).length = f := by
  unfold holed
  simp
  omega
theorem holed_val {f q : Nat} (h : q < f) : val (holed f q) + 2 ^ q + 1 = 2 ^ f := by
  have e : holed f q = List.replicate (f - 1 - q) true ++ ([false] ++ List.replicate q true) := rfl
  have h0 : val [false] = 0 := rfl
  have hp : 2 ^ f = 2 ^ (f - 1 - q) * 2 ^ (q + 1) := by rw [← Nat.pow_add]; congr 1; omega
  have hq : 2 ^ (q + 1) = 2 * 2 ^ q := by rw [Nat.pow_succ]; omega
  rw [e, val_append, val_append, val_ones, val_ones, h0]
  simp only [List.length_append, List.length_singleton, List.length_replicate]
  rw [hp, Nat.add_comm 1 q]
  have h1 := Nat.two_pow_pos (f - 1 - q)
  have h2 := Nat.two_pow_pos q
  generalize 2 ^ (f - 1 - q) = A at *
  rw [hq]
  generalize 2 ^ q = B at *
  obtain ⟨a, rfl⟩ : ∃ a, A = a + 1 := ⟨A - 1, by omega⟩
  rw [Nat.add_sub_cancel, Nat.add_mul]
  omega
/-- The last byte with one bit of its padding turned. -/
theorem turned {l : List UInt8} {q L : Nat} (hL : (encL l).length = L + 1) (hq : q < freeN l) :
    ∃ v : Nat, (encL l)[L]? = some (UInt8.ofNat v) ∧ v < 256 ∧ 2 ^ q ≤ v ∧ bitsL ((encL l).set L (UInt8.ofNat (v - 2 ^ q))) = encBits l ++ holed (freeN l) q := by
  have hbl := encBits_len l
  have hel := encL_len l
  have hF : freeN l = (8 - (encBits l).length % 8) % 8 := by unfold freeN; rw [hbl]
  have hF8 : freeN l < 8 := by unfold freeN; omega
  have hlen : (encBits l).length + freeN l = 8 * (L + 1) := by omega
  have hpd : padded (encBits l) = encBits l ++ List.replicate (freeN l) true := by unfold padded; rw [← hF]
  have hen : encL l = pack (L + 1) (padded (encBits l)) := by unfold encL; rw [← hel, hL]
  generalize freeN l = F at *
  generalize encBits l = E at *
  rw [hpd, pack_snoc] at hen
  have hdr : ((E ++ List.replicate F true).drop (8 * L)).take 8 = E.drop (8 * L) ++ List.replicate F true := by
    rw [List.drop_append_of_le_length (by omega), List.take_of_length_le (by simp; omega)]
  rw [hdr] at hen
  have hrl : (E.drop (8 * L)).length = 8 - F := by rw [List.length_drop]; omega
  have hpl : (pack L (E ++ List.replicate F true)).length = L := pack_len _ _
  have hpi : bitsL (pack L (E ++ List.replicate F true)) = E.take (8 * L) := by
    have h := pack_app L (E.take (8 * L)) (E.drop (8 * L) ++ List.replicate F true) (by rw [List.length_take]; omega)
    rw [← List.append_assoc, List.take_append_drop] at h
    rw [h]
    exact bitsL_pack _ _ (by rw [List.length_take]; omega)
  have hv := val_append (E.drop (8 * L)) (List.replicate F true)
  rw [val_ones, List.length_replicate] at hv
  have hlt := val_lt (E.drop (8 * L) ++ List.replicate F true)
  rw [List.length_append, hrl, List.length_replicate, show 8 - F + F = 8 by omega] at hlt
  have hqf : 2 ^ q * 2 ≤ 2 ^ F := by rw [← Nat.pow_succ]; exact Nat.pow_le_pow_right (by omega) (by omega)
  have hq1 := Nat.two_pow_pos q
  generalize hV : val (E.drop (8 * L) ++ List.replicate F true) = V at *
  have hge : 2 ^ q ≤ V := by omega
  refine ⟨V, ?_, hlt, hge, ?_⟩
  · rw [hen, List.getElem?_append_right (by omega), hpl]; simp
  · rw [hen, List.set_append_right _ _ (by omega), hpl, Nat.sub_self]
    simp only [List.set_cons_zero]
    rw [bitsL_app, hpi]
    have e1 : bitsL [UInt8.ofNat (V - 2 ^ q)] = natBits (UInt8.ofNat (V - 2 ^ q)).toNat 8 := by simp [bitsL]
    have e2 : (UInt8.ofNat (V - 2 ^ q)).toNat = V - 2 ^ q := by rw [UInt8.toNat_ofNat']; exact Nat.mod_eq_of_lt (by omega)
    have hh := holed_val hq
    have e3 : natBits (V - 2 ^ q) 8 = E.drop (8 * L) ++ holed F q := by
      refine val_inj _ _ (by rw [natBits_len, List.length_append, hrl, holed_len hq]; omega) ?_
      rw [natBits_val, Nat.mod_eq_of_lt (by omega), val_append, holed_len hq]
      omega
    rw [e1, e2, e3, ← List.append_assoc, List.take_append_drop]
theorem dec_turned {l : List UInt8} {c : List UInt8} {f q : Nat} (hf : f < 8) (hq : q < f) (h : bitsL c = encBits l ++ holed f q) : decL c = .pad ∨ ∃ z, z ≠ [] ∧ decL c = .ok (l ++ z) := by
  unfold decL
  rw [h, dec_enc]
  have hl := holed_len hq
  rcases dec_short (holed f q) [] ([] ++ l) (0 + (encBits l).length) (by simp; omega) with c | ⟨z, c, d⟩
  · exact .inl c
  · exact .inr ⟨z, d (by simp [holed]), by rw [c]; simp⟩
end Go.Proofs.Ytgpddhoidlpcaaa
