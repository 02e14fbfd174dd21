/- HuffPads. -/
import Derived.Test.YtgpddhoidlpcaaaHuffT
set_option linter.unusedVariables false
set_option linter.unusedSimpArgs false
namespace Go.Proofs.Ytgpddhoidlpcaaa
open Go.Proofs.Ytgpddhoidlpcaaa.Eng
section
variable {σ : AW} {k : Nat} {Q : Value → AW → Prop}
theorem bits_spec {x : Value} {l : List UInt8} {n : Nat} (hx : Sl σ x 1 n (l.map Bt)) (hl : l.length ≤ 1048576) (hk : 4194304 ≤ k) : wpA (callN Try.prog k 22 [x]) σ fun v τ => Ext σ τ ∧ v = .int .i64 ((bitsOf l % 8 : Nat) : Int) := by
  have e1 : n = l.length := by have := hx.1; simp at this; omega
  subst e1
  rw [callN_at (by omega), R22.eq]
  have hbig : 4194303 ≤ k - 1 := by omega
  generalize hk1 : k - 1 = k1 at hbig
  simp [R22.top]
  refine aw_loop2 (fun r u w τ => ∃ i : Nat, u = .int .i64 ((bitsOf (l.take i) % 8 : Nat) : Int) ∧ w = .int .i64 i ∧ i ≤ l.length ∧ r = l.length - i ∧ Ext σ τ) ?_ k1 l.length _ _ σ ⟨0, rfl, rfl, by omega, rfl, Ext.refl _⟩ (by omega)
  rintro r rec u w τ ⟨i, rfl, rfl, hi, rfl, ex⟩ hrec
  have hxT := hx.ext ex
  by_cases hlt : i < l.length
  · obtain ⟨c, hc⟩ : ∃ c, l[i]? = some c := ⟨_, List.getElem?_eq_getElem hlt⟩
    have hc256 : c.toNat < 256 := c.toNat_lt
    have htk : l.take (i + 1) = l.take i ++ [c] := by rw [List.take_add_one, hc]; rfl
    have hs := size_at (s := c.toNat) (by omega)
    have hwi : IntKind.i64.wrap ((i : Int) + 1) = ((i + 1 : Nat) : Int) := wrap64 (by omega) (by omega)
    have hwc : IntKind.i64.wrap (c.toNat : Int) = (c.toNat : Int) := wrap64 (by omega) (by omega)
    have hm8 : bitsOf (l.take i) % 8 < 8 := Nat.mod_lt _ (by omega)
    have hwb : IntKind.i64.wrap (((bitsOf (l.take i) % 8 : Nat) : Int) + ((codeOf c.toNat).2 : Int)) = ((bitsOf (l.take i) % 8 + (codeOf c.toNat).2 : Nat) : Int) := by rw [wrap64 (by omega) (by omega)]; omega
    have htm : ((bitsOf (l.take i) % 8 + (codeOf c.toNat).2 : Nat) : Int).tmod 8 = ((bitsOf (l.take (i + 1)) % 8 : Nat) : Int) := by
      rw [htk, bits_snoc, ← Nat.mod_add_mod]
      exact tmodN _ 8
    simp [R22.b_38, len_iff hxT, hlt, ↓at1_all hxT hc, Bt, hwc, -Int.natCast_add, -Int.natCast_emod]
    refine (code_spec (by omega)).mono ?_
    rintro v τ2 ⟨he, rfl⟩
    rw [codeV_nat (by omega)]
    simp [hwb, htm, hwi, -Int.natCast_add, -Int.natCast_emod]
    exact hrec (l.length - (i + 1)) _ _ _ (by omega) ⟨i + 1, rfl, rfl, by omega, rfl, ex.trans he⟩
  · have e : i = l.length := by omega
    subst e
    simp [R22.b_38, len_iff hxT, -Int.natCast_emod]
    refine ⟨ex, ?_⟩
    omega
/-- An element written. -/
theorem aw_set1 {B i n : Nat} {e : TypeId} {v x : Value} {vs : List Value} {k : IntKind} (h : Own B σ v e 1 n vs) (hi : i < n) (hc : x.cells = #[x]) (hx : isCell x = true)
    (hq : ∀ τ, Kept B σ τ → Own B τ v e 1 n (vs.set i x) → Q (.tuple #[]) τ) : wpA (indexAddrA 1 v (.int k (i : Nat))) σ fun p τ => wpA (storeA 1 p x) τ Q := by
  obtain ⟨h1, ⟨rfl, rfl⟩ | ⟨b, c, ws, rfl, h3, h3', h4, h5, h6, h7⟩⟩ := h
  · omega
  · have hi' : (i : Int) < (n : Int) := by omega
    have hok : cellsOk [x] = true := by simp [hx]
    have h8 : i + 1 ≤ ws.length := by omega
    simp [hi', hi, hc, h5, hok, h8, letL_def, -splice_def]
    refine hq _ ((Kept.refl B σ).put h3' _) ⟨by simpa using h1, .inr ⟨b, c, splice ws i [x], rfl, h3, h3', by simpa using h4, by simp [-splice_def], ?_, ?_⟩⟩
    · rw [splice_def]; simp; omega
    · rw [splice_def, ← h7]
      simp only [Nat.mul_one, List.length_singleton]
      have e : ws.take i ++ [x] ++ ws.drop (i + 1) = ws.set i x := by
        rw [List.set_eq_take_append_cons_drop, if_pos (by omega)]; simp
      rw [e, List.take_set]
theorem law_HuffPads {x : Value} {l : List UInt8} {n : Nat} {bit : Nat} (hx : Sl σ x 1 n (l.map Bt)) (hl : l.length ≤ 1048576) (hbit : bit < 256) (hk : 1073741824 + 1500 ≤ k) : wpA (callN Try.prog k 9 [x, .int .u8 bit]) σ fun v _ => v = .bool true := by
  have e1 : n = l.length := by have := hx.1; simp at this; omega
  subst e1
  rw [callN_at (by omega), R9.eq]
  have hbig : 1073741824 + 1499 ≤ k - 1 := by omega
  generalize hk1 : k - 1 = k1 at hbig
  have hbH : bigH = 4194304 := rfl
  have hen : bigH + 1400 ≤ k1 := by omega
  have hlH : l.length < bigH := by omega
  have hdk : 1073741824 + 1400 ≤ k1 := by omega
  have hawk : ∀ τ, wpA (callN Try.prog k1 16 []) τ fun v _ => v = .bool true := fun τ => awake3_spec (by omega)
  have hle := encL_le l
  have hwl : IntKind.i64.wrap (((encL l).length : Int) + 1) = (((encL l ++ [255]).length : Nat) : Int) := by
    clear hbH hen hlH hdk hbig hk
    rw [wrap64 (by omega) (by omega)]; simp
  simp [R9.g_70, R9.g_72, R9.g_74, R9.g_80, R9.g_84, R9.g_99, R9.g_122, R9.top, zeros, List.range_succ]
  refine (encode_spec hx hlH hen).mono ?_
  rintro w τ ⟨he, ow⟩
  have hen2 := he.1
  refine (aw_copy ow.sl (by omega)).mono ?_
  rintro c τ2 ⟨he2, oc⟩
  have hen3 := he2.1
  refine aw_app1 oc rfl (by omega) (by omega) (by omega) fun c2 τ3 h3 h4 => ?_
  have e255 : Value.int .u8 255 = Bt 255 := rfl
  rw [e255, show (encL l).map Bt ++ [Bt 255] = (encL l ++ [255]).map Bt by simp] at h3
  refine (decode_spec h3.sl (by simp; omega) hdk).mono ?_
  rintro d τ4 ⟨he4, dw⟩
  rw [dec_more] at dw
  subst dw
  have ex3 : Ext σ τ3 := Kept.ext (((he.trans he2).kept (Nat.le_refl _)).trans (h4.mono (by omega)))
  have hx4 := (hx.ext ex3).ext he4
  have ow4 : Sl τ4 w 1 (encL l).length ((encL l).map Bt) := (ow.sl.ext (Kept.ext ((he2.kept (Nat.le_refl _)).trans h4))).ext he4
  simp [len_iff ow4, hwl, -List.length_append]
  refine (bits_spec hx4 hl (by omega)).mono ?_
  rintro v τ5 ⟨he5, rfl⟩
  have hx5 := hx4.ext he5
  have ow5 := ow4.ext he5
  have hF : freeN l = (8 - bitsOf l % 8) % 8 := rfl
  have hF8 : freeN l < 8 := by omega
  have hbl := encBits_len l
  have hb8 : bitsOf l % 8 < 8 := Nat.mod_lt _ (by omega)
  have hel : (encL l).length ≤ 4194304 := by omega
  have htu := @turned l
  clear hbH hen hlH
  generalize bitsOf l % 8 = b8 at *
  generalize freeN l = F at *
  have hwn : IntKind.i64.wrap (-(b8 : Int)) = -(b8 : Int) := wrap64 (by omega) (by omega)
  simp [hwn]
  clear he he2 oc hen3 h3 h4 e255 he4 ex3 hx4 ow4 he5
  refine aw_loop1 (fun r u τ' => ∃ z : Int, u = .int .i64 z ∧ (z = -(b8 : Int) ∧ b8 ≠ 0 ∧ r = 1 ∨ z = (F : Int) ∧ r = 0) ∧ τ' = τ5) ?_ k1 (if b8 = 0 then 0 else 1) _ τ5 ⟨_, rfl, ?_, rfl⟩ (by split <;> omega)
  · rintro r rec u τ' ⟨z, rfl, hz, rfl⟩ hrec
    rcases hz with ⟨rfl, hb0, rfl⟩ | ⟨rfl, rfl⟩
    · have hneg : (-(b8 : Int)) < 0 := by omega
      have hpos : 0 < b8 := by omega
      have hw8 : IntKind.i64.wrap (-(b8 : Int) + 8) = (F : Int) := by rw [wrap64 (by omega) (by omega)]; omega
      simp [R9.b_112, hneg, hpos, hw8]
      exact hrec 0 _ _ (by omega) ⟨_, rfl, .inr ⟨rfl, rfl⟩, rfl⟩
    · have hn0 : ¬ (F : Int) < 0 := by omega
      by_cases hF0 : F = 0
      · have hF0' : (F : Int) = 0 := by omega
        simp [R9.b_112, R9.g_70, R9.g_72, R9.g_74, R9.g_80, R9.g_84, R9.g_99, R9.g_122, R9.top, hn0, hF0, hF0']
        refine (hawk _).mono ?_
        rintro _ _ rfl
        simp
      · have hF0' : ¬ (F : Int) = 0 := by omega
        by_cases hL0 : (encL l).length = 0
        · have hL0' : ((encL l).length : Int) = 0 := by omega
          simp [R9.b_112, R9.g_70, R9.g_72, R9.g_74, R9.g_80, R9.g_84, R9.g_99, R9.g_122, R9.top, hn0, hF0, hF0', len_iff ow5, hL0, hL0']
          refine (hawk _).mono ?_
          rintro _ _ rfl
          simp
        · obtain ⟨L, hL⟩ : ∃ L, (encL l).length = L + 1 := ⟨(encL l).length - 1, by omega⟩
          have hq : bit % F < F := Nat.mod_lt _ (by omega)
          obtain ⟨v, v1, v2, v3, v4⟩ := htu hL hq
          rw [hL] at ow5
          have hLn : ¬ ((L + 1 : Nat) : Int) = 0 := by omega
          have hwL : IntKind.i64.wrap (((L + 1 : Nat) : Int) - 1) = (L : Int) := by rw [wrap64 (by omega) (by omega)]; omega
          simp [R9.b_112, R9.g_70, R9.g_72, R9.g_74, R9.g_80, R9.g_84, R9.g_99, R9.g_122, R9.top, hn0, hF0, hF0', len_iff ow5, hLn, zeros, -Int.natCast_add]
          refine (aw_copy ow5 (by omega)).mono ?_
          rintro c3 τ6 ⟨he6, oc⟩
          have hwbit : IntKind.u64.wrap (bit : Int) = (bit : Int) := wrap_u64 (by omega)
          have hwF : IntKind.u64.wrap (F : Int) = (F : Int) := wrap_u64 (by omega)
          have htm : (bit : Int).tmod (F : Int) = ((bit % F : Nat) : Int) := tmodN bit F
          have hq0 : (0 : Int) ≤ ((bit % F : Nat) : Int) := by omega
          generalize bit % F = q at *
          have hp7 : 2 ^ q ≤ 2 ^ 7 := Nat.pow_le_pow_right (by omega) (by omega)
          have hb8' : IntKind.u8.bits = 8 := rfl
          have hsh : IntKind.u8.wrap (2 ^ min q 8) = ((2 ^ q : Nat) : Int) := by
            rw [Nat.min_eq_left (by omega), show (2 : Int) ^ q = ((2 ^ q : Nat) : Int) by simp, u8_wrap, Nat.mod_eq_of_lt (by omega)]
          have hvv : (UInt8.ofNat v).toNat = v := by rw [UInt8.toNat_ofNat']; exact Nat.mod_eq_of_lt (by omega)
          have hvq : v - 2 ^ q < 256 := Nat.lt_of_le_of_lt (Nat.sub_le _ _) v2
          have hws : IntKind.u8.wrap ((v : Int) - ((2 ^ q : Nat) : Int)) = ((v - 2 ^ q : Nat) : Int) := by
            rw [show (v : Int) - ((2 ^ q : Nat) : Int) = ((v - 2 ^ q : Nat) : Int) by omega, u8_wrap, Nat.mod_eq_of_lt hvq]
          have hvm : v % 256 = v := Nat.mod_eq_of_lt v2
          have hBt : Value.int .u8 ((v - 2 ^ q : Nat) : Int) = Bt (UInt8.ofNat (v - 2 ^ q)) := Bt_lt hvq
          simp [len_iff oc.sl, hwL, ↓at1_all oc.sl v1, Bt, hvv, hvm, hwbit, hwF, hF0, hF0', htm, hq0, hb8', hsh, hws, -Int.natCast_add, -Int.natCast_pow, -Int.natCast_emod]
          refine aw_set1 oc (by omega) rfl rfl fun τ7 h7 own7 => ?_
          rw [hBt, ← List.map_set] at own7
          have hCl : ((encL l).set L (UInt8.ofNat (v - 2 ^ q))).length = L + 1 := by rw [List.length_set, hL]
          have hx7 : Sl τ7 x 1 l.length (l.map Bt) := hx5.ext (Kept.ext ((he6.kept (Nat.le_refl _)).trans h7))
          refine (decode_spec own7.sl (by omega) hdk).mono ?_
          rintro d τ8 ⟨he8, dw⟩
          rw [hCl] at dw
          rcases dec_turned (by omega) hq v4 with hd | ⟨z, hz, hd⟩
          · rw [hd] at dw
            subst dw
            simp [len_iff own7.sl, -Int.natCast_add]
            refine (hawk _).mono ?_
            rintro _ _ rfl
            simp
          · rw [hd] at dw
            obtain ⟨u, rfl, ou⟩ := dw
            have hne : ¬ l ++ z = l := fun h => hz (by simpa using h)
            simp [toStr_own ou, toStr_sl (hx7.ext he8), wpA_neStr, toList_strOf, hne, hz]
            refine (hawk _).mono ?_
            rintro _ _ rfl
            simp
  · by_cases h0 : b8 = 0
    · simp [h0]; omega
    · simp [h0]
end
end Go.Proofs.Ytgpddhoidlpcaaa
