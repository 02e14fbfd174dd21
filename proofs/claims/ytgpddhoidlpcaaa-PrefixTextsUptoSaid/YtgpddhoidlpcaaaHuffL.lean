/- The reference's bits: rbits_spec. -/
import Derived.Test.YtgpddhoidlpcaaaHuffJ
set_option linter.unusedVariables false
set_option linter.unusedSimpArgs false
namespace Go.Proofs.Ytgpddhoidlpcaaa
open Go.Proofs.Ytgpddhoidlpcaaa.Eng
section
variable {σ : AW} {k : Nat} {Q : Value → AW → Prop}
theorem encBits_app_len (l : List UInt8) : (encBits l).length ≤ 30 * l.length := by rw [encBits_len]; exact (bits_le l).2
theorem rbits_after {b1 b2 B i k1 : Nat} {e1 e2 : TypeId} {nums sizes : List Nat} {rec : Value → Value → AM Value} {υ : AW} {s : Value} {bits : List Bool} {c : UInt8} (ca : Cache b1 b2 e1 e2 υ nums sizes) (n1 : nums[c.toNat]? = some (codeOf c.toNat).1) (n2 : sizes[c.toNat]? = some (codeOf c.toNat).2) (own : Own B υ s 5 1 bits.length (bits.map Bb)) (hi : i < 4194304) (l1 : b1 < B) (l2 : b2 < B) (hB : B ≤ υ.next) (hk : 100 ≤ k1) (hbits : bits.length < 1099511627776)
    (hrec : ∀ s' τ', Kept B υ τ' → Own B τ' s' 5 1 (bits ++ codeBits c.toNat).length ((bits ++ codeBits c.toNat).map Bb) → wpA (rec s' (.int .i64 ((i + 1 : Nat) : Int))) τ' Q) :
    wpA (R33.j_65 (callN Try.prog k1) k1 rec (ptr b1) (ptr b2) s (.int .i64 i) (.int .u8 c.toNat)) υ Q := by
  have hc256 : c.toNat < 256 := c.toNat_lt
  have hc' : (c.toNat : Int) < 256 := by omega
  have hs := size_at (s := c.toNat) (by omega)
  have hg2 := ca.g2
  have hl2 := ca.l2
  have hn2 : nthV (sizes.map I64) c.toNat = some (I64 (codeOf c.toNat).2) := nth_map n2
  have w1 : IntKind.i64.wrap (((codeOf c.toNat).2 : Int) - 1) = ((codeOf c.toNat).2 : Int) - 1 := wrap64 (by omega) (by omega)
  simp [R33.j_65, hg2, hc', hc256, hl2, hn2, I64, w1, -Int.natCast_add]
  exact rbits_inner ca.g1 n1 ca.l1 hc256 own hs.2.1 hs.2.2 hi l1 hB hk hbits hrec
theorem rbits_spec {x : Value} {l : List UInt8} {n : Nat} (hx : Sl σ x 1 n (l.map Bt)) (hl : l.length < bigH) (hk : bigH + 1400 ≤ k) : wpA (callN Try.prog k 33 [x]) σ fun v τ => Ext σ τ ∧ Own σ.next τ v 5 1 (padded (encBits l)).length ((padded (encBits l)).map Bb) := by
  have e1 : n = l.length := by have := hx.1; simp at this; omega
  subst e1
  rw [callN_at (by omega), R33.eq, rb33_eq]
  have hbig : bigH + 1399 ≤ k - 1 := by omega
  generalize hk1 : k - 1 = k1 at hbig
  have hl2 : l.length < 4194304 := hl
  have hbig2 : 4194304 + 1399 ≤ k1 := hbig
  clear hbig hl hk hk1
  obtain ⟨z1, z2⟩ := zn_ok
  simp [z1, z2]
  generalize hU : (σ.push (.cells (zn.map U32) 76 false)).push (.cells (zn.map I64) 77 false) = U
  have hUn : U.next = σ.next + 2 := by rw [← hU]; simp
  have q1 : ¬ σ.next = σ.next + 1 := by omega
  have hU1 : U.get σ.next = some (.cells (zn.map U32) 76 false) := by rw [← hU]; simp
  have hU2 : U.get (σ.next + 1) = some (.cells (zn.map I64) 77 false) := by rw [← hU]; simp
  have hUσ : ∀ b, b < σ.next → U.get b = σ.get b := fun b hb => by
    have c1 : ¬ b = σ.next := by omega
    have c2 : ¬ b = σ.next + 1 := by omega
    rw [← hU]; simp [c1, c2]
  clear hU
  refine aw_loop2 (fun r u v υ => ∃ (i : Nat) (nums sizes : List Nat), v = .int .i64 i ∧ i ≤ l.length ∧ r = l.length - i ∧ Cache σ.next (σ.next + 1) 76 77 υ nums sizes ∧ Own (σ.next + 2) υ u 5 1 (encBits (l.take i)).length ((encBits (l.take i)).map Bb) ∧ σ.next + 2 ≤ υ.next ∧ ∀ b, b < σ.next → υ.get b = σ.get b) ?_ k1 l.length _ _ U ⟨0, zn, zn, rfl, by omega, rfl, ⟨hU1, hU2, List.length_replicate, List.length_replicate, fun c hc => .inl (by unfold zn; rw [List.getElem?_replicate, if_pos hc])⟩, ?_, by omega, hUσ⟩ (by omega)
  · rintro r rec u v υ ⟨i, nums, sizes, rfl, hi, rfl, ca, own, hB, hσ⟩ hrec
    have hxU : Sl υ x 1 l.length (l.map Bt) := hx.ext ⟨by omega, fun b hb => hσ b hb⟩
    by_cases hlt : i < l.length
    · obtain ⟨c, hc⟩ : ∃ c, l[i]? = some c := ⟨_, List.getElem?_eq_getElem hlt⟩
      have hc256 : c.toNat < 256 := c.toNat_lt
      have hc' : (c.toNat : Int) < 256 := by omega
      have htk : l.take (i + 1) = l.take i ++ [c] := by rw [List.take_add_one, hc]; rfl
      have hs := size_at (s := c.toNat) (by omega)
      have hlen : (l.take i).length = i := by rw [List.length_take]; omega
      have hbl := encBits_app_len (l.take i)
      have next : ∀ {υ2 : AW} {nums2 sizes2 : List Nat}, Cache σ.next (σ.next + 1) 76 77 υ2 nums2 sizes2 → nums2[c.toNat]? = some (codeOf c.toNat).1 → sizes2[c.toNat]? = some (codeOf c.toNat).2 → Own (σ.next + 2) υ2 u 5 1 (encBits (l.take i)).length ((encBits (l.take i)).map Bb) → σ.next + 2 ≤ υ2.next → (∀ b, b < σ.next → υ2.get b = σ.get b) →
          wpA (R33.j_65 (callN Try.prog k1) k1 rec (ptr σ.next) (ptr (σ.next + 1)) u (.int .i64 i) (.int .u8 c.toNat)) υ2 fun v τ => Ext σ τ ∧ Own σ.next τ v 5 1 (padded (encBits l)).length ((padded (encBits l)).map Bb) := by
        intro υ2 nums2 sizes2 ca2 n1 n2 own2 hB2 hσ2
        refine rbits_after ca2 n1 n2 own2 (by omega) (by omega) (by omega) hB2 (by omega) (by omega) fun s' τ' kp ow => ?_
        rw [← encBits_snoc, ← htk] at ow
        refine hrec (l.length - (i + 1)) _ _ _ (by omega) ⟨i + 1, nums2, sizes2, rfl, by omega, rfl, ⟨?_, ?_, ca2.l1, ca2.l2, ca2.ok⟩, ow, by have := kp.1; omega, fun b hb => ?_⟩
        · rw [kp.2 _ (by omega)]; exact ca2.g1
        · rw [kp.2 _ (by omega)]; exact ca2.g2
        · rw [kp.2 _ (by omega)]; exact hσ2 b hb
      have hg1 := ca.g1
      have hg2 := ca.g2
      have hl1 := ca.l1
      have hl2' := ca.l2
      rcases ca.ok c.toNat hc256 with h0 | ⟨n1, n2⟩
      · have hn0 : nthV (sizes.map I64) c.toNat = some (I64 0) := nth_map h0
        have hw8 : IntKind.i64.wrap (c.toNat : Int) = (c.toNat : Int) := wrap64 (by omega) (by omega)
        simp [R33.b_86, len_iff hxU, hlt, ↓at1_all hxU hc, Bt, hg2, hc', hc256, hl2', hn0, I64, hw8, -Int.natCast_add]
        refine (rcode_spec (by omega)).mono ?_
        rintro v τ ⟨he, rfl⟩
        rw [codeV_nat (by omega)]
        have g1 : τ.get σ.next = some (.cells (nums.map U32) 76 false) := by rw [he.2 _ (by omega)]; exact hg1
        have g2 : τ.get (σ.next + 1) = some (.cells (sizes.map I64) 77 false) := by rw [he.2 _ (by omega)]; exact hg2
        have s1 : splice (nums.map U32) c.toNat [.int .u32 (codeOf c.toNat).1] = (nums.set c.toNat (codeOf c.toNat).1).map U32 := set_map (f := U32) nums c.toNat _ (by omega)
        have s2 : splice (sizes.map I64) c.toNat [.int .i64 (codeOf c.toNat).2] = (sizes.set c.toNat (codeOf c.toNat).2).map I64 := set_map (f := I64) sizes c.toNat _ (by omega)
        have hc1 : c.toNat + 1 ≤ 256 := by omega
        have hen := he.1
        have q2 : ¬ σ.next + 1 = σ.next := by omega
        simp [g1, g2, hl1, hl2', s1, s2, letL_def, hc1, hc256, -splice_def, -List.map_set]
        have n1 : (nums.set c.toNat (codeOf c.toNat).1)[c.toNat]? = some (codeOf c.toNat).1 := by rw [List.getElem?_set_self (by omega)]
        have n2 : (sizes.set c.toNat (codeOf c.toNat).2)[c.toNat]? = some (codeOf c.toNat).2 := by rw [List.getElem?_set_self (by omega)]
        refine next (nums2 := nums.set c.toNat (codeOf c.toNat).1) (sizes2 := sizes.set c.toNat (codeOf c.toNat).2) ⟨by simp [q1, -List.map_set], by simp [-List.map_set], by simp [hl1], by simp [hl2'], fun d hd => ?_⟩ n1 n2 (own_still (own.ext he) (by simp) fun b hb1 hb2 => ?_) (by simp; omega) fun b hb => ?_
        · by_cases hcd : c.toNat = d
          · subst hcd
            exact .inr ⟨n1, n2⟩
          · rw [List.getElem?_set_ne hcd, List.getElem?_set_ne hcd]
            exact ca.ok d hd
        · have c1 : ¬ b = σ.next := by omega
          have c2 : ¬ b = σ.next + 1 := by omega
          simp [c1, c2]
        · have c1 : ¬ b = σ.next := by omega
          have c2 : ¬ b = σ.next + 1 := by omega
          simp [c1, c2]
          rw [he.2 b (by omega)]
          exact hσ b hb
      · have hn2 : nthV (sizes.map I64) c.toNat = some (I64 (codeOf c.toNat).2) := nth_map n2
        have hne : ¬ (codeOf c.toNat).2 = 0 := by omega
        have hne' : ¬ ((codeOf c.toNat).2 : Int) = 0 := by omega
        simp [R33.b_86, len_iff hxU, hlt, ↓at1_all hxU hc, Bt, hg2, hc', hc256, hl2', hn2, I64, hne, hne', -Int.natCast_add]
        exact next ca n1 n2 own hB hσ
    · have e : i = l.length := by omega
      subst e
      rw [List.take_length] at own
      have hbl := encBits_app_len l
      simp [R33.b_86, len_iff hxU, -Int.natCast_add]
      refine (pad_loop own hB (by omega) (by omega)).mono ?_
      rintro v τ ⟨kp, ow⟩
      refine ⟨⟨by have := kp.1; omega, fun b hb => by rw [kp.2 b (by omega)]; exact hσ b hb⟩, ow.mono (by omega)⟩
  · simpa [encBits] using Own.nil _ _ _ _
end
end Go.Proofs.Ytgpddhoidlpcaaa

namespace Go.Proofs.Ytgpddhoidlpcaaa
open Go.Proofs.Ytgpddhoidlpcaaa.Eng
theorem val_snoc (l : List Bool) (b : Bool) : val (l ++ [b]) = val l * 2 + bn b := by
  rw [val_append]
  have : val [b] = bn b := by cases b <;> rfl
  rw [this]; simp
theorem bn_le (b : Bool) : bn b ≤ 1 := by cases b <;> simp [bn]
section
variable {σ : AW} {k : Nat} {Q : Value → AW → Prop}
theorem rencode_spec {x : Value} {l : List UInt8} {n : Nat} (hx : Sl σ x 1 n (l.map Bt)) (hl : l.length < bigH) (hk : 8 * bigH * 4 + 1500 ≤ k) : wpA (callN Try.prog k 19 [x]) σ fun v τ => Ext σ τ ∧ Own σ.next τ v 5 1 (encL l).length ((encL l).map Bt) := by
  have e1 : n = l.length := by have := hx.1; simp at this; omega
  subst e1
  rw [callN_at (by omega), R19.eq]
  have hbH : bigH = 4194304 := rfl
  have hbig : 8 * bigH * 4 + 1499 ≤ k - 1 := by omega
  generalize hk1 : k - 1 = k1 at hbig
  have hl2 : l.length < 4194304 := hl
  have hbig2 : 4194304 * 32 + 1499 ≤ k1 := by omega
  simp [R19.top]
  refine (rbits_spec hx hl (by omega)).mono ?_
  rintro w τ ⟨he, ow⟩
  clear hbH hbig hl hk hk1
  have hbl := encBits_app_len l
  have hpl := padded_len (encBits l)
  have hsz : (encBits l).length = bitsOf l := encBits_len l
  have hencL : encL l = pack ((bitsOf l + 7) / 8) (padded (encBits l)) := rfl
  rw [← hsz] at hencL
  generalize hm : ((encBits l).length + 7) / 8 = m at *
  have hm2 : m * 8 < 4194304 * 32 := by omega
  generalize hbits : padded (encBits l) = bits at *
  clear hbits hsz hbl hm
  have hw := ow.sl
  have hen := he.1
  refine aw_loop2 (fun r u v υ => ∃ i : Nat, v = .int .i64 ((8 * i : Nat) : Int) ∧ i ≤ m ∧ r = m - i ∧ Ext τ υ ∧ Own τ.next υ u 5 1 (pack i bits).length ((pack i bits).map Bt)) ?_ k1 m _ _ τ ⟨0, by simp, by omega, rfl, Ext.refl _, by simpa [pack] using Own.nil _ _ _ _⟩ (by omega)
  rintro r rec u v υ ⟨i, rfl, hi, rfl, ex, own⟩ hrec
  have hwU := hw.ext ex
  have hpk := pack_len i bits
  by_cases hlt : i < m
  · have h1 : ((8 * i : Nat) : Int) < (bits.length : Int) := by omega
    have h1' : 8 * i < bits.length := by omega
    simp [R19.b_54, len_iff hwU, h1, h1', -Int.natCast_mul]
    refine aw_loop2 (fun r2 u2 v2 υ2 => ∃ j : Nat, j ≤ 8 ∧ r2 = 8 - j ∧ u2 = .int .u8 (val ((bits.drop (8 * i)).take j) : Nat) ∧ v2 = .int .i64 j ∧ υ2 = υ) ?_ k1 8 _ _ υ ⟨0, by omega, rfl, by simp [val], by simp, rfl⟩ (by omega)
    rintro r2 rec2 u2 v2 υ2 ⟨j, hj, rfl, rfl, rfl, rfl⟩ hrec2
    by_cases hj8 : j < 8
    · have hj8' : (j : Int) < 8 := by omega
      obtain ⟨b, hb⟩ : ∃ b, bits[8 * i + j]? = some b := ⟨_, List.getElem?_eq_getElem (by omega)⟩
      have htk : (bits.drop (8 * i)).take (j + 1) = (bits.drop (8 * i)).take j ++ [b] := by rw [List.take_add_one, List.getElem?_drop, hb]; rfl
      have hvl := val_lt ((bits.drop (8 * i)).take j)
      have hlj : ((bits.drop (8 * i)).take j).length = j := by rw [List.length_take, List.length_drop]; omega
      rw [hlj] at hvl
      have hp7 : 2 ^ j ≤ 2 ^ 7 := Nat.pow_le_pow_right (by omega) (by omega)
      have hbn := bn_le b
      have hvs := val_snoc ((bits.drop (8 * i)).take j) b
      rw [← htk] at hvs
      generalize val ((bits.drop (8 * i)).take j) = V at *
      have w1 : IntKind.u8.wrap ((V : Int) * 2) = ((V * 2 : Nat) : Int) := by rw [show (V : Int) * 2 = ((V * 2 : Nat) : Int) by omega, u8_wrap, Nat.mod_eq_of_lt (by omega)]
      have w2 : IntKind.u8.wrap (((V * 2 : Nat) : Int) + (bn b : Int)) = ((V * 2 + bn b : Nat) : Int) := by rw [show ((V * 2 : Nat) : Int) + (bn b : Int) = ((V * 2 + bn b : Nat) : Int) by omega, u8_wrap, Nat.mod_eq_of_lt (by omega)]
      have w3 : IntKind.i64.wrap (((8 * i : Nat) : Int) + (j : Int)) = ((8 * i + j : Nat) : Int) := by rw [wrap64 (by omega) (by omega)]; omega
      have w4 : IntKind.i64.wrap ((j : Int) + 1) = ((j + 1 : Nat) : Int) := wrap64 (by omega) (by omega)
      simp [R19.b_48, hj8, hj8', w1, w2, w3, w4, ↓at1_all hwU hb, Bb, -Int.natCast_mul, -Int.natCast_add]
      exact hrec2 (8 - (j + 1)) _ _ _ (by omega) ⟨j + 1, by omega, rfl, by rw [hvs], rfl, rfl⟩
    · have ej : j = 8 := by omega
      subst ej
      have w5 : IntKind.i64.wrap (((8 * i : Nat) : Int) + 8) = ((8 * (i + 1) : Nat) : Int) := by rw [wrap64 (by omega) (by omega)]; omega
      have hvl := val_lt ((bits.drop (8 * i)).take 8)
      have hlj : ((bits.drop (8 * i)).take 8).length = 8 := by rw [List.length_take, List.length_drop]; omega
      rw [hlj] at hvl
      have hB2 := Bt_lt hvl
      simp [R19.b_48, w5, zeros, List.range_succ, -Int.natCast_mul, -Int.natCast_add]
      refine aw_app1 own rfl (by omega) (by omega) ex.1 fun v τ3 h3 h4 => ?_
      refine hrec (m - (i + 1)) _ _ _ (by omega) ⟨i + 1, rfl, by omega, rfl, ⟨by have := ex.1; have := h4.1; omega, fun b hb => by rw [h4.2 b hb]; exact ex.2 b hb⟩, ?_⟩
      rw [pack_snoc, List.length_append, List.map_append]
      rw [hB2] at h3
      exact h3
  · have e : i = m := by omega
    subst e
    have h1 : ¬ ((8 * i : Nat) : Int) < (bits.length : Int) := by omega
    have h1' : ¬ 8 * i < bits.length := by omega
    simp [R19.b_54, len_iff hwU, h1, h1', -Int.natCast_mul]
    rw [hencL]
    exact ⟨he.trans ex, own.mono (by omega)⟩
end
end Go.Proofs.Ytgpddhoidlpcaaa
