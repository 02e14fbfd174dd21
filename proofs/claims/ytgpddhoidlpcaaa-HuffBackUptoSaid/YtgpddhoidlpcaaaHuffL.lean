/- The reference's bits: rbits_spec. -/
import Derived.Test.YtgpddhoidlpcaaaHuffK
set_option linter.unusedVariables false
set_option linter.unusedSimpArgs false
namespace Go.Proofs.Ytgpddhoidlpcaaa
open Go.Proofs.Ytgpddhoidlpcaaa.Eng
section
variable {σ : AW} {k : Nat} {Q : Value → AW → Prop}
theorem encBits_app_len (l : List UInt8) : (encBits l).length ≤ 30 * l.length := by rw [encBits_len]; exact (bits_le l).2
theorem rbits_after {b1 b2 B i k1 : Nat} {e1 e2 : TypeId} {nums sizes : List Nat} {rec : Value → Value → AM Value} {υ : AW} {s : Value} {bits : List Bool} {c : UInt8} (ca : Cache b1 b2 e1 e2 υ nums sizes) (n1 : nums[c.toNat]? = some (codeOf c.toNat).1) (n2 : sizes[c.toNat]? = some (codeOf c.toNat).2) (own : Own B υ s 5 1 bits.length (bits.map Bb)) (hi : i < 4194304) (l1 : b1 < B) (l2 : b2 < B) (hB : B ≤ υ.next) (hk : 100 ≤ k1) (hbits : bits.length < 1099511627776)
    (hrec : ∀ s' τ', Kept B υ τ' → Own B τ' s' 5 1 (bits ++ codeBits c.toNat).length ((bits ++ codeBits c.toNat).map Bb) → wpA (rec s' (.int .i64 ((i + 1 : Nat) : Int))) τ' Q) :
    wpA (R33.j_65 (callN Try.prog k1) k1 rec (ptr b1) (ptr b2) s (.int .i64 i) (.int .u8 c.toNat)) υ Q := by
  have hc256 : c.toNat < 256 := c.toNat_lt
  have hc' : (c.toNat : Int) < 256 := by omega
  have hs := size_at (s := c.toNat) (by omega)
  have hg2 := ca.g2
  have hl2 := ca.l2
  have hn2 : nthV (sizes.map I64) c.toNat = some (I64 (codeOf c.toNat).2) := nth_map n2
  have w1 : IntKind.i64.wrap (((codeOf c.toNat).2 : Int) - 1) = ((codeOf c.toNat).2 : Int) - 1 := wrap64 (by omega) (by omega)
  simp [R33.j_65, hg2, hc', hc256, hl2, hn2, I64, w1, -Int.natCast_add]
  exact rbits_inner ca.g1 n1 ca.l1 hc256 own hs.2.1 hs.2.2 hi l1 hB hk hbits hrec
theorem rbits_spec {x : Value} {l : List UInt8} {n : Nat} (hx : Sl σ x 1 n (l.map Bt)) (hl : l.length < bigH) (hk : bigH + 1400 ≤ k) : wpA (callN Try.prog k 33 [x]) σ fun v τ => Ext σ τ ∧ Own σ.next τ v 5 1 (padded (encBits l)).length ((padded (encBits l)).map Bb) := by
  have e1 : n = l.length := by have := hx.1; simp at this; omega
  subst e1
  rw [callN_at (by omega), R33.eq, rb33_eq]
  have hbig : bigH + 1399 ≤ k - 1 := by omega
  generalize hk1 : k - 1 = k1 at hbig
  have hl2 : l.length < 4194304 := hl
  have hbig2 : 4194304 + 1399 ≤ k1 := hbig
  clear hbig hl hk hk1
  obtain ⟨z1, z2⟩ := zn_ok
  simp [z1, z2]
  generalize hU : (σ.push (.cells (zn.map U32) 76 false)).push (.cells (zn.map I64) 77 false) = U
  have hUn : U.next = σ.next + 2 := by rw [← hU]; simp
  have q1 : ¬ σ.next = σ.next + 1 := by omega
  have hU1 : U.get σ.next = some (.cells (zn.map U32) 76 false) := by rw [← hU]; simp
  have hU2 : U.get (σ.next + 1) = some (.cells (zn.map I64) 77 false) := by rw [← hU]; simp
  have hUσ : ∀ b, b < σ.next → U.get b = σ.get b := fun b hb => by
    have c1 : ¬ b = σ.next := by omega
    have c2 : ¬ b = σ.next + 1 := by omega
    rw [← hU]; simp [c1, c2]
  clear hU
  refine aw_loop2 (fun r u v υ => ∃ (i : Nat) (nums sizes : List Nat), v = .int .i64 i ∧ i ≤ l.length ∧ r = l.length - i ∧ Cache σ.next (σ.next + 1) 76 77 υ nums sizes ∧ Own (σ.next + 2) υ u 5 1 (encBits (l.take i)).length ((encBits (l.take i)).map Bb) ∧ σ.next + 2 ≤ υ.next ∧ ∀ b, b < σ.next → υ.get b = σ.get b) ?_ k1 l.length _ _ U ⟨0, zn, zn, rfl, by omega, rfl, ⟨hU1, hU2, List.length_replicate, List.length_replicate, fun c hc => .inl (by unfold zn; rw [List.getElem?_replicate, if_pos hc])⟩, ?_, by omega, hUσ⟩ (by omega)
  · rintro r rec u v υ ⟨i, nums, sizes, rfl, hi, rfl, ca, own, hB, hσ⟩ hrec
    have hxU : Sl υ x 1 l.length (l.map Bt) := hx.ext ⟨by omega, fun b hb => hσ b hb⟩
    by_cases hlt : i < l.length
    · obtain ⟨c, hc⟩ : ∃ c, l[i]? = some c := ⟨_, List.getElem?_eq_getElem hlt⟩
      have hc256 : c.toNat < 256 := c.toNat_lt
      have hc' : (c.toNat : Int) < 256 := by omega
      have htk : l.take (i + 1) = l.take i ++ [c] := by rw [List.take_add_one, hc]; rfl
      have hs := size_at (s := c.toNat) (by omega)
      have hlen : (l.take i).length = i := by rw [List.length_take]; omega
      have hbl := encBits_app_len (l.take i)
      have next : ∀ {υ2 : AW} {nums2 sizes2 : List Nat}, Cache σ.next (σ.next + 1) 76 77 υ2 nums2 sizes2 → nums2[c.toNat]? = some (codeOf c.toNat).1 → sizes2[c.toNat]? = some (codeOf c.toNat).2 → Own (σ.next + 2) υ2 u 5 1 (encBits (l.take i)).length ((encBits (l.take i)).map Bb) → σ.next + 2 ≤ υ2.next → (∀ b, b < σ.next → υ2.get b = σ.get b) →
          wpA (R33.j_65 (callN Try.prog k1) k1 rec (ptr σ.next) (ptr (σ.next + 1)) u (.int .i64 i) (.int .u8 c.toNat)) υ2 fun v τ => Ext σ τ ∧ Own σ.next τ v 5 1 (padded (encBits l)).length ((padded (encBits l)).map Bb) := by
        intro υ2 nums2 sizes2 ca2 n1 n2 own2 hB2 hσ2
        refine rbits_after ca2 n1 n2 own2 (by omega) (by omega) (by omega) hB2 (by omega) (by omega) fun s' τ' kp ow => ?_
        rw [← encBits_snoc, ← htk] at ow
        refine hrec (l.length - (i + 1)) _ _ _ (by omega) ⟨i + 1, nums2, sizes2, rfl, by omega, rfl, ⟨?_, ?_, ca2.l1, ca2.l2, ca2.ok⟩, ow, by have := kp.1; omega, fun b hb => ?_⟩
        · rw [kp.2 _ (by omega)]; exact ca2.g1
        · rw [kp.2 _ (by omega)]; exact ca2.g2
        · rw [kp.2 _ (by omega)]; exact hσ2 b hb
      have hg1 := ca.g1
      have hg2 := ca.g2
      have hl1 := ca.l1
      have hl2' := ca.l2
      rcases ca.ok c.toNat hc256 with h0 | ⟨n1, n2⟩
      · have hn0 : nthV (sizes.map I64) c.toNat = some (I64 0) := nth_map h0
        have hw8 : IntKind.i64.wrap (c.toNat : Int) = (c.toNat : Int) := wrap64 (by omega) (by omega)
        simp [R33.b_86, len_iff hxU, hlt, ↓at1_all hxU hc, Bt, hg2, hc', hc256, hl2', hn0, I64, hw8, -Int.natCast_add]
        refine (rcode_spec (by omega)).mono ?_
        rintro v τ ⟨he, rfl⟩
        rw [codeV_nat (by omega)]
        have g1 : τ.get σ.next = some (.cells (nums.map U32) 76 false) := by rw [he.2 _ (by omega)]; exact hg1
        have g2 : τ.get (σ.next + 1) = some (.cells (sizes.map I64) 77 false) := by rw [he.2 _ (by omega)]; exact hg2
        have s1 : splice (nums.map U32) c.toNat [.int .u32 (codeOf c.toNat).1] = (nums.set c.toNat (codeOf c.toNat).1).map U32 := set_map (f := U32) nums c.toNat _ (by omega)
        have s2 : splice (sizes.map I64) c.toNat [.int .i64 (codeOf c.toNat).2] = (sizes.set c.toNat (codeOf c.toNat).2).map I64 := set_map (f := I64) sizes c.toNat _ (by omega)
        have hc1 : c.toNat + 1 ≤ 256 := by omega
        have hen := he.1
        have q2 : ¬ σ.next + 1 = σ.next := by omega
        simp [g1, g2, hl1, hl2', s1, s2, letL_def, hc1, hc256, -splice_def, -List.map_set]
        have n1 : (nums.set c.toNat (codeOf c.toNat).1)[c.toNat]? = some (codeOf c.toNat).1 := by rw [List.getElem?_set_self (by omega)]
        have n2 : (sizes.set c.toNat (codeOf c.toNat).2)[c.toNat]? = some (codeOf c.toNat).2 := by rw [List.getElem?_set_self (by omega)]
        refine next (nums2 := nums.set c.toNat (codeOf c.toNat).1) (sizes2 := sizes.set c.toNat (codeOf c.toNat).2) ⟨by simp [q1, -List.map_set], by simp [-List.map_set], by simp [hl1], by simp [hl2'], fun d hd => ?_⟩ n1 n2 (own_still (own.ext he) (by simp) fun b hb1 hb2 => ?_) (by simp; omega) fun b hb => ?_
        · by_cases hcd : c.toNat = d
          · subst hcd
            exact .inr ⟨n1, n2⟩
          · rw [List.getElem?_set_ne hcd, List.getElem?_set_ne hcd]
            exact ca.ok d hd
        · have c1 : ¬ b = σ.next := by omega
          have c2 : ¬ b = σ.next + 1 := by omega
          simp [c1, c2]
        · have c1 : ¬ b = σ.next := by omega
          have c2 : ¬ b = σ.next + 1 := by omega
          simp [c1, c2]
          rw [he.2 b (by omega)]
          exact hσ b hb
      · have hn2 : nthV (sizes.map I64) c.toNat = some (I64 (codeOf c.toNat).2) := nth_map n2
        have hne : ¬ (codeOf c.toNat).2 = 0 := by omega
        have hne' : ¬ ((codeOf c.toNat).2 : Int) = 0 := by omega
        simp [R33.b_86, len_iff hxU, hlt, ↓at1_all hxU hc, Bt, hg2, hc', hc256, hl2', hn2, I64, hne, hne', -Int.natCast_add]
        exact next ca n1 n2 own hB hσ
    · have e : i = l.length := by omega
      subst e
      rw [List.take_length] at own
      have hbl := encBits_app_len l
      simp [R33.b_86, len_iff hxU, -Int.natCast_add]
      refine (pad_loop own hB (by omega) (by omega)).mono ?_
      rintro v τ ⟨kp, ow⟩
      refine ⟨⟨by have := kp.1; omega, fun b hb => by rw [kp.2 b (by omega)]; exact hσ b hb⟩, ow.mono (by omega)⟩
  · simpa [encBits] using Own.nil _ _ _ _
end
end Go.Proofs.Ytgpddhoidlpcaaa
