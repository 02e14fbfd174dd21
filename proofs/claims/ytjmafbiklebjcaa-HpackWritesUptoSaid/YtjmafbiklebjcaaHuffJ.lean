/- The reference's bits. -/
import Derived.Test.YtjmafbiklebjcaaHuffE
set_option linter.unusedVariables false
set_option linter.unusedSimpArgs false
namespace Go.Proofs.Ytjmafbiklebjcaa
open Go.Proofs.Ytjmafbiklebjcaa.Eng
theorem natBits_at (n : Nat) : ∀ w i, (natBits n w)[i]? = if i < w then some (n.testBit (w - 1 - i)) else none
  | 0, i => by simp [natBits]
  | w + 1, 0 => by simp [natBits]
  | w + 1, i + 1 => by
    simp only [natBits, List.getElem?_cons_succ, natBits_at n w i]
    by_cases hi : i < w
    · rw [if_pos hi, if_pos (by omega)]; congr 2; omega
    · rw [if_neg hi, if_neg (by omega)]
/-- A bit as a byte. -/
def Bb (b : Bool) : Value := .int .u8 (bn b : Nat)
def U32 (a : Nat) : Value := .int .u32 a
theorem nth_map {α : Type} {f : α → Value} {l : List α} {i : Nat} {x : α} (h : l[i]? = some x) : nthV (l.map f) i = some (f x) := by
  rw [nthV_eq, List.getElem?_map, h]; rfl
theorem shr_bit {n j : Nat} (hn : n < 4294967296) (hj : j < 32) : IntKind.u8.wrap (((n / 2 ^ j % 2 : Nat) : Int)) = (bn (n.testBit j) : Nat) := by
  have : n.testBit j = decide (n / 2 ^ j % 2 = 1) := by rw [Nat.testBit_eq_decide_div_mod_eq]
  rw [this]
  rcases Nat.mod_two_eq_zero_or_one (n / 2 ^ j) with e | e <;> simp [bn, e, IntKind.wrap, IntKind.signed, IntKind.bits]
section
variable {σ : AW} {k : Nat} {Q : Value → AW → Prop}
theorem rbits_inner {B b1 i c n w k1 : Nat} {e1 : TypeId} {nums : List Nat} {rec : Value → Value → AM Value} {τ : AW} {s : Value} {bits : List Bool} (hb1 : τ.get b1 = some (.cells (nums.map U32) e1 false)) (hc : nums[c]? = some n) (hlen : nums.length = 256) (hc256 : c < 256) (own : Own B τ s 5 1 bits.length (bits.map Bb)) (hw : w ≤ 30) (hn : n < 4294967296) (hi : i < 4194304) (hB1 : b1 < B) (hB : B ≤ τ.next) (hk : 100 ≤ k1) (hbits : bits.length < 1099511627776)
    (hdone : ∀ s' τ', Kept B τ τ' → Own B τ' s' 5 1 (bits ++ natBits n w).length ((bits ++ natBits n w).map Bb) → wpA (rec s' (.int .i64 ((i + 1 : Nat) : Int))) τ' Q) :
    wpA (loop2 (R55.b_64 (callN Try.prog k1) k1 rec (ptr b1) (.int .i64 i) (.int .u8 c)) k1 s (.int .i64 ((w : Int) - 1))) τ Q := by
  refine aw_loop2 (fun r u v τ' => ∃ j : Nat, j ≤ w ∧ r = w - j ∧ v = .int .i64 ((w : Int) - 1 - j) ∧ Kept B τ τ' ∧ Own B τ' u 5 1 (bits ++ (natBits n w).take j).length ((bits ++ (natBits n w).take j).map Bb)) ?_ k1 w _ _ τ ⟨0, by omega, by omega, by simp, Kept.refl _ _, by simpa using own⟩ (by omega)
  rintro r rec2 u v τ' ⟨j, hj, rfl, rfl, kp, ow⟩ hrec
  by_cases hlt : j < w
  · have e : (w : Int) - 1 - j = ((w - 1 - j : Nat) : Int) := by omega
    rw [e]
    have hg : τ'.get b1 = some (.cells (nums.map U32) e1 false) := by rw [kp.2 _ hB1]; exact hb1
    have hnm : nthV (nums.map U32) c = some (U32 n) := nth_map hc
    have hc' : (c : Int) < 256 := by omega
    have w64 : IntKind.u64.wrap ((w - 1 - j : Nat) : Int) = ((w - 1 - j : Nat) : Int) := wrap_u64 (by omega)
    have hb32 : IntKind.u32.bits = 32 := rfl
    have hfd : (n : Int).fdiv (2 ^ min (w - 1 - j) 32) = ((n / 2 ^ (w - 1 - j) : Nat) : Int) := by
      rw [Nat.min_eq_left (by omega), ← fdivN]; simp
    have htm : ((n / 2 ^ (w - 1 - j) : Nat) : Int).tmod 2 = ((n / 2 ^ (w - 1 - j) % 2 : Nat) : Int) := tmodN (n / 2 ^ (w - 1 - j)) 2
    have hwr : IntKind.u32.wrap ((n / 2 ^ (w - 1 - j) % 2 : Nat) : Int) = ((n / 2 ^ (w - 1 - j) % 2 : Nat) : Int) := wrap_u32 (by omega)
    have hsb := shr_bit (n := n) (j := w - 1 - j) hn (by omega)
    have w0 : (0 : Int) ≤ ((w - 1 - j : Nat) : Int) := by omega
    have w1 : IntKind.i64.wrap (((w - 1 - j : Nat) : Int) - 1) = (w : Int) - 1 - ((j + 1 : Nat) : Int) := by rw [wrap64 (by omega) (by omega)]; omega
    simp [R55.b_64, w0, hg, hnm, hc', U32, hlen, hc256, w64, hb32, hfd, htm, hwr, hsb, w1, zeros, List.range_succ, -Int.natCast_ediv, -Int.natCast_pow, -Int.natCast_emod, -Int.natCast_add]
    have hnl := natBits_len n w
    have htl : ((natBits n w).take j).length = j := by rw [List.length_take]; omega
    have htk : (natBits n w).take (j + 1) = (natBits n w).take j ++ [n.testBit (w - 1 - j)] := by rw [List.take_add_one, natBits_at, if_pos hlt]; rfl
    refine aw_app1 ow rfl (by omega) (by rw [List.length_append, htl]; omega) (by have := kp.1; omega) fun v τ3 h3 h4 => ?_
    refine hrec (w - (j + 1)) _ _ _ (by omega) ⟨j + 1, by omega, rfl, rfl, kp.trans h4, ?_⟩
    rw [htk, ← List.append_assoc, List.length_append, List.map_append]
    exact h3
  · have e : j = w := by omega
    subst e
    have e2 : (j : Int) - 1 - j = -1 := by omega
    have hwi : IntKind.i64.wrap ((i : Int) + 1) = ((i + 1 : Nat) : Int) := wrap64 (by omega) (by omega)
    rw [List.take_of_length_le (by rw [natBits_len]; omega)] at ow
    rw [e2]
    simp [R55.b_64, hwi, -Int.natCast_add]
    exact hdone _ _ kp ow
end
end Go.Proofs.Ytjmafbiklebjcaa

namespace Go.Proofs.Ytjmafbiklebjcaa
open Go.Proofs.Ytjmafbiklebjcaa.Eng
section
variable {σ : AW} {k : Nat} {Q : Value → AW → Prop}
def zn : List Nat := List.replicate 256 0
theorem rb33_eq (call : FuncId → List Value → AM Value) (x : Value) : R55.top call k x = bindV (ret (.slice none 0 0)) fun _ => bindV (newA (zn.map U32) 103) fun v3 => bindV (newA (zn.map I64) 104) fun v4 => bindV (ret (.slice none 0 0)) fun v5 => bindV (ret (.int .i64 0)) fun v6 => loop2 (R55.b_86 call k x v3 v4) k v5 v6 := by kernel_rfl
theorem set_map {α : Type} {f : α → Value} (l : List α) (i : Nat) (x : α) (h : i < l.length) : splice (l.map f) i [f x] = (l.set i x).map f := by
  rw [splice_def, List.set_eq_take_append_cons_drop, if_pos h]
  simp
/-- What is already looked up. -/
structure Cache (b1 b2 : Nat) (e1 e2 : TypeId) (τ : AW) (nums sizes : List Nat) : Prop where
  g1 : τ.get b1 = some (.cells (nums.map U32) e1 false)
  g2 : τ.get b2 = some (.cells (sizes.map I64) e2 false)
  l1 : nums.length = 256
  l2 : sizes.length = 256
  ok : ∀ c, c < 256 → sizes[c]? = some 0 ∨ (nums[c]? = some (codeOf c).1 ∧ sizes[c]? = some (codeOf c).2)
theorem zn_ok : cellsOk (zn.map U32) = true ∧ cellsOk (zn.map I64) = true := by decide +kernel
theorem pad_loop {B k1 : Nat} {s : Value} {bits : List Bool} {τ : AW} (own : Own B τ s 5 1 bits.length (bits.map Bb)) (hB : B ≤ τ.next) (hk : 100 ≤ k1) (hbits : bits.length < 1099511627776) :
    wpA (loop1 (R55.b_20 (callN Try.prog k1) k1) k1 s) τ fun v υ => Kept B τ υ ∧ Own B υ v 5 1 (padded bits).length ((padded bits).map Bb) := by
  refine aw_loop1 (fun r u υ => ∃ j : Nat, j ≤ (8 - bits.length % 8) % 8 ∧ r = (8 - bits.length % 8) % 8 - j ∧ Kept B τ υ ∧ Own B υ u 5 1 (bits ++ List.replicate j true).length ((bits ++ List.replicate j true).map Bb)) ?_ k1 ((8 - bits.length % 8) % 8) _ τ ⟨0, by omega, by omega, Kept.refl _ _, by simpa using own⟩ (by omega)
  rintro r rec u υ ⟨j, hj, rfl, kp, ow⟩ hrec
  have hl : (bits ++ List.replicate j true).length = bits.length + j := by simp
  have htm : (((bits ++ List.replicate j true).length : Nat) : Int).tmod 8 = (((bits ++ List.replicate j true).length % 8 : Nat) : Int) := tmodN _ 8
  have hsl := ow.sl
  by_cases hlt : j < (8 - bits.length % 8) % 8
  · have hne : ¬ (bits.length + j) % 8 = 0 := by omega
    have hw : IntKind.i64.wrap (((bits ++ List.replicate j true).length % 8 : Nat) : Int) = (((bits ++ List.replicate j true).length % 8 : Nat) : Int) := wrap64 (by omega) (by omega)
    rw [hl] at hw htm hsl
    have hne' : ¬ (((bits.length + j) % 8 : Nat) : Int) = 0 := by omega
    simp [R55.b_20, len_iff hsl, htm, hw, hne, hne', zeros, List.range_succ, -Int.natCast_add, -Int.natCast_emod]
    refine aw_app1 ow rfl (by omega) (by omega) (by have := kp.1; omega) fun v τ3 h3 h4 => ?_
    refine hrec ((8 - bits.length % 8) % 8 - (j + 1)) _ _ (by omega) ⟨j + 1, by omega, rfl, kp.trans h4, ?_⟩
    rw [List.replicate_succ', ← List.append_assoc, List.length_append, List.map_append]
    exact h3
  · have e : j = (8 - bits.length % 8) % 8 := by omega
    have hne : (bits.length + j) % 8 = 0 := by omega
    have hne' : (((bits.length + j) % 8 : Nat) : Int) = 0 := by omega
    have hw : IntKind.i64.wrap (0 : Int) = 0 := wrap64 (by omega) (by omega)
    rw [hl] at htm hsl
    rw [hne'] at htm
    simp [R55.b_20, len_iff hsl, htm, hw, -Int.natCast_add, -Int.natCast_emod]
    refine ⟨kp, ?_⟩
    rw [e] at ow
    exact ow
end
end Go.Proofs.Ytjmafbiklebjcaa

namespace Go.Proofs.Ytjmafbiklebjcaa
open Go.Proofs.Ytjmafbiklebjcaa.Eng
section
variable {σ : AW} {k : Nat} {Q : Value → AW → Prop}
theorem encBits_app_len (l : List UInt8) : (encBits l).length ≤ 30 * l.length := by rw [encBits_len]; exact (bits_le l).2
theorem rbits_after {b1 b2 B i k1 : Nat} {e1 e2 : TypeId} {nums sizes : List Nat} {rec : Value → Value → AM Value} {υ : AW} {s : Value} {bits : List Bool} {c : UInt8} (ca : Cache b1 b2 e1 e2 υ nums sizes) (n1 : nums[c.toNat]? = some (codeOf c.toNat).1) (n2 : sizes[c.toNat]? = some (codeOf c.toNat).2) (own : Own B υ s 5 1 bits.length (bits.map Bb)) (hi : i < 4194304) (l1 : b1 < B) (l2 : b2 < B) (hB : B ≤ υ.next) (hk : 100 ≤ k1) (hbits : bits.length < 1099511627776)
    (hrec : ∀ s' τ', Kept B υ τ' → Own B τ' s' 5 1 (bits ++ codeBits c.toNat).length ((bits ++ codeBits c.toNat).map Bb) → wpA (rec s' (.int .i64 ((i + 1 : Nat) : Int))) τ' Q) :
    wpA (R55.j_65 (callN Try.prog k1) k1 rec (ptr b1) (ptr b2) s (.int .i64 i) (.int .u8 c.toNat)) υ Q := by
  have hc256 : c.toNat < 256 := c.toNat_lt
  have hc' : (c.toNat : Int) < 256 := by omega
  have hs := size_at (s := c.toNat) (by omega)
  have hg2 := ca.g2
  have hl2 := ca.l2
  have hn2 : nthV (sizes.map I64) c.toNat = some (I64 (codeOf c.toNat).2) := nth_map n2
  have w1 : IntKind.i64.wrap (((codeOf c.toNat).2 : Int) - 1) = ((codeOf c.toNat).2 : Int) - 1 := wrap64 (by omega) (by omega)
  simp [R55.j_65, hg2, hc', hc256, hl2, hn2, I64, w1, -Int.natCast_add]
  exact rbits_inner ca.g1 n1 ca.l1 hc256 own hs.2.1 hs.2.2 hi l1 hB hk hbits hrec
theorem rbits_spec {x : Value} {l : List UInt8} {n : Nat} (hx : Sl σ x 1 n (l.map Bt)) (hl : l.length < bigH) (hk : bigH + 1400 ≤ k) : wpA (callN Try.prog k 55 [x]) σ fun v τ => Ext σ τ ∧ Own σ.next τ v 5 1 (padded (encBits l)).length ((padded (encBits l)).map Bb) := by
  have e1 : n = l.length := by have := hx.1; simp at this; omega
  subst e1
  rw [callN_at (by omega), R55.eq, rb33_eq]
  have hbig : bigH + 1399 ≤ k - 1 := by omega
  generalize hk1 : k - 1 = k1 at hbig
  have hl2 : l.length < 4194304 := hl
  have hbig2 : 4194304 + 1399 ≤ k1 := hbig
  clear hbig hl hk hk1
  obtain ⟨z1, z2⟩ := zn_ok
  simp [z1, z2]
  generalize hU : (σ.push (.cells (zn.map U32) 103 false)).push (.cells (zn.map I64) 104 false) = U
  have hUn : U.next = σ.next + 2 := by rw [← hU]; simp
  have q1 : ¬ σ.next = σ.next + 1 := by omega
  have hU1 : U.get σ.next = some (.cells (zn.map U32) 103 false) := by rw [← hU]; simp
  have hU2 : U.get (σ.next + 1) = some (.cells (zn.map I64) 104 false) := by rw [← hU]; simp
  have hUσ : ∀ b, b < σ.next → U.get b = σ.get b := fun b hb => by
    have c1 : ¬ b = σ.next := by omega
    have c2 : ¬ b = σ.next + 1 := by omega
    rw [← hU]; simp [c1, c2]
  clear hU
  refine aw_loop2 (fun r u v υ => ∃ (i : Nat) (nums sizes : List Nat), v = .int .i64 i ∧ i ≤ l.length ∧ r = l.length - i ∧ Cache σ.next (σ.next + 1) 103 104 υ nums sizes ∧ Own (σ.next + 2) υ u 5 1 (encBits (l.take i)).length ((encBits (l.take i)).map Bb) ∧ σ.next + 2 ≤ υ.next ∧ ∀ b, b < σ.next → υ.get b = σ.get b) ?_ k1 l.length _ _ U ⟨0, zn, zn, rfl, by omega, rfl, ⟨hU1, hU2, List.length_replicate, List.length_replicate, fun c hc => .inl (by unfold zn; rw [List.getElem?_replicate, if_pos hc])⟩, ?_, by omega, hUσ⟩ (by omega)
  · rintro r rec u v υ ⟨i, nums, sizes, rfl, hi, rfl, ca, own, hB, hσ⟩ hrec
    have hxU : Sl υ x 1 l.length (l.map Bt) := hx.ext ⟨by omega, fun b hb => hσ b hb⟩
    by_cases hlt : i < l.length
    · obtain ⟨c, hc⟩ : ∃ c, l[i]? = some c := ⟨_, List.getElem?_eq_getElem hlt⟩
      have hc256 : c.toNat < 256 := c.toNat_lt
      have hc' : (c.toNat : Int) < 256 := by omega
      have htk : l.take (i + 1) = l.take i ++ [c] := by rw [List.take_add_one, hc]; rfl
      have hs := size_at (s := c.toNat) (by omega)
      have hlen : (l.take i).length = i := by rw [List.length_take]; omega
      have hbl := encBits_app_len (l.take i)
      have next : ∀ {υ2 : AW} {nums2 sizes2 : List Nat}, Cache σ.next (σ.next + 1) 103 104 υ2 nums2 sizes2 → nums2[c.toNat]? = some (codeOf c.toNat).1 → sizes2[c.toNat]? = some (codeOf c.toNat).2 → Own (σ.next + 2) υ2 u 5 1 (encBits (l.take i)).length ((encBits (l.take i)).map Bb) → σ.next + 2 ≤ υ2.next → (∀ b, b < σ.next → υ2.get b = σ.get b) →
          wpA (R55.j_65 (callN Try.prog k1) k1 rec (ptr σ.next) (ptr (σ.next + 1)) u (.int .i64 i) (.int .u8 c.toNat)) υ2 fun v τ => Ext σ τ ∧ Own σ.next τ v 5 1 (padded (encBits l)).length ((padded (encBits l)).map Bb) := by
        intro υ2 nums2 sizes2 ca2 n1 n2 own2 hB2 hσ2
        refine rbits_after ca2 n1 n2 own2 (by omega) (by omega) (by omega) hB2 (by omega) (by omega) fun s' τ' kp ow => ?_
        rw [← encBits_snoc, ← htk] at ow
        refine hrec (l.length - (i + 1)) _ _ _ (by omega) ⟨i + 1, nums2, sizes2, rfl, by omega, rfl, ⟨?_, ?_, ca2.l1, ca2.l2, ca2.ok⟩, ow, by have := kp.1; omega, fun b hb => ?_⟩
        · rw [kp.2 _ (by omega)]; exact ca2.g1
        · rw [kp.2 _ (by omega)]; exact ca2.g2
        · rw [kp.2 _ (by omega)]; exact hσ2 b hb
      have hg1 := ca.g1
      have hg2 := ca.g2
      have hl1 := ca.l1
      have hl2' := ca.l2
      rcases ca.ok c.toNat hc256 with h0 | ⟨n1, n2⟩
      · have hn0 : nthV (sizes.map I64) c.toNat = some (I64 0) := nth_map h0
        have hw8 : IntKind.i64.wrap (c.toNat : Int) = (c.toNat : Int) := wrap64 (by omega) (by omega)
        simp [R55.b_86, len_iff hxU, hlt, ↓at1_all hxU hc, Bt, hg2, hc', hc256, hl2', hn0, I64, hw8, -Int.natCast_add]
        refine (rcode_spec (by omega)).mono ?_
        rintro v τ ⟨he, rfl⟩
        rw [codeV_nat (by omega)]
        have g1 : τ.get σ.next = some (.cells (nums.map U32) 103 false) := by rw [he.2 _ (by omega)]; exact hg1
        have g2 : τ.get (σ.next + 1) = some (.cells (sizes.map I64) 104 false) := by rw [he.2 _ (by omega)]; exact hg2
        have s1 : splice (nums.map U32) c.toNat [.int .u32 (codeOf c.toNat).1] = (nums.set c.toNat (codeOf c.toNat).1).map U32 := set_map (f := U32) nums c.toNat _ (by omega)
        have s2 : splice (sizes.map I64) c.toNat [.int .i64 (codeOf c.toNat).2] = (sizes.set c.toNat (codeOf c.toNat).2).map I64 := set_map (f := I64) sizes c.toNat _ (by omega)
        have hc1 : c.toNat + 1 ≤ 256 := by omega
        have hen := he.1
        have q2 : ¬ σ.next + 1 = σ.next := by omega
        simp [g1, g2, hl1, hl2', s1, s2, letL_def, hc1, hc256, -splice_def, -List.map_set]
        have n1 : (nums.set c.toNat (codeOf c.toNat).1)[c.toNat]? = some (codeOf c.toNat).1 := by rw [List.getElem?_set_self (by omega)]
        have n2 : (sizes.set c.toNat (codeOf c.toNat).2)[c.toNat]? = some (codeOf c.toNat).2 := by rw [List.getElem?_set_self (by omega)]
        refine next (nums2 := nums.set c.toNat (codeOf c.toNat).1) (sizes2 := sizes.set c.toNat (codeOf c.toNat).2) ⟨by simp [q1, -List.map_set], by simp [-List.map_set], by simp [hl1], by simp [hl2'], fun d hd => ?_⟩ n1 n2 (own_still (own.ext he) (by simp) fun b hb1 hb2 => ?_) (by simp; omega) fun b hb => ?_
        · by_cases hcd : c.toNat = d
          · subst hcd
            exact .inr ⟨n1, n2⟩
          · rw [List.getElem?_set_ne hcd, List.getElem?_set_ne hcd]
            exact ca.ok d hd
        · have c1 : ¬ b = σ.next := by omega
          have c2 : ¬ b = σ.next + 1 := by omega
          simp [c1, c2]
        · have c1 : ¬ b = σ.next := by omega
          have c2 : ¬ b = σ.next + 1 := by omega
          simp [c1, c2]
          rw [he.2 b (by omega)]
          exact hσ b hb
      · have hn2 : nthV (sizes.map I64) c.toNat = some (I64 (codeOf c.toNat).2) := nth_map n2
        have hne : ¬ (codeOf c.toNat).2 = 0 := by omega
        have hne' : ¬ ((codeOf c.toNat).2 : Int) = 0 := by omega
        simp [R55.b_86, len_iff hxU, hlt, ↓at1_all hxU hc, Bt, hg2, hc', hc256, hl2', hn2, I64, hne, hne', -Int.natCast_add]
        exact next ca n1 n2 own hB hσ
    · have e : i = l.length := by omega
      subst e
      rw [List.take_length] at own
      have hbl := encBits_app_len l
      simp [R55.b_86, len_iff hxU, -Int.natCast_add]
      refine (pad_loop own hB (by omega) (by omega)).mono ?_
      rintro v τ ⟨kp, ow⟩
      refine ⟨⟨by have := kp.1; omega, fun b hb => by rw [kp.2 b (by omega)]; exact hσ b hb⟩, ow.mono (by omega)⟩
  · simpa [encBits] using Own.nil _ _ _ _
end
end Go.Proofs.Ytjmafbiklebjcaa

namespace Go.Proofs.Ytjmafbiklebjcaa
open Go.Proofs.Ytjmafbiklebjcaa.Eng
theorem val_snoc (l : List Bool) (b : Bool) : val (l ++ [b]) = val l * 2 + bn b := by
  rw [val_append]
  have : val [b] = bn b := by cases b <;> rfl
  rw [this]; simp
theorem bn_le (b : Bool) : bn b ≤ 1 := by cases b <;> simp [bn]
section
variable {σ : AW} {k : Nat} {Q : Value → AW → Prop}
theorem rencode_spec {x : Value} {l : List UInt8} {n : Nat} (hx : Sl σ x 1 n (l.map Bt)) (hl : l.length < bigH) (hk : 8 * bigH * 4 + 1500 ≤ k) : wpA (callN Try.prog k 51 [x]) σ fun v τ => Ext σ τ ∧ Own σ.next τ v 5 1 (encL l).length ((encL l).map Bt) := by
  have e1 : n = l.length := by have := hx.1; simp at this; omega
  subst e1
  rw [callN_at (by omega), R51.eq]
  have hbH : bigH = 4194304 := rfl
  have hbig : 8 * bigH * 4 + 1499 ≤ k - 1 := by omega
  generalize hk1 : k - 1 = k1 at hbig
  have hl2 : l.length < 4194304 := hl
  have hbig2 : 4194304 * 32 + 1499 ≤ k1 := by omega
  simp [R51.top]
  refine (rbits_spec hx hl (by omega)).mono ?_
  rintro w τ ⟨he, ow⟩
  clear hbH hbig hl hk hk1
  have hbl := encBits_app_len l
  have hpl := padded_len (encBits l)
  have hsz : (encBits l).length = bitsOf l := encBits_len l
  have hencL : encL l = pack ((bitsOf l + 7) / 8) (padded (encBits l)) := rfl
  rw [← hsz] at hencL
  generalize hm : ((encBits l).length + 7) / 8 = m at *
  have hm2 : m * 8 < 4194304 * 32 := by omega
  generalize hbits : padded (encBits l) = bits at *
  clear hbits hsz hbl hm
  have hw := ow.sl
  have hen := he.1
  refine aw_loop2 (fun r u v υ => ∃ i : Nat, v = .int .i64 ((8 * i : Nat) : Int) ∧ i ≤ m ∧ r = m - i ∧ Ext τ υ ∧ Own τ.next υ u 5 1 (pack i bits).length ((pack i bits).map Bt)) ?_ k1 m _ _ τ ⟨0, by simp, by omega, rfl, Ext.refl _, by simpa [pack] using Own.nil _ _ _ _⟩ (by omega)
  rintro r rec u v υ ⟨i, rfl, hi, rfl, ex, own⟩ hrec
  have hwU := hw.ext ex
  have hpk := pack_len i bits
  by_cases hlt : i < m
  · have h1 : ((8 * i : Nat) : Int) < (bits.length : Int) := by omega
    have h1' : 8 * i < bits.length := by omega
    simp [R51.b_54, len_iff hwU, h1, h1', -Int.natCast_mul]
    refine aw_loop2 (fun r2 u2 v2 υ2 => ∃ j : Nat, j ≤ 8 ∧ r2 = 8 - j ∧ u2 = .int .u8 (val ((bits.drop (8 * i)).take j) : Nat) ∧ v2 = .int .i64 j ∧ υ2 = υ) ?_ k1 8 _ _ υ ⟨0, by omega, rfl, by simp [val], by simp, rfl⟩ (by omega)
    rintro r2 rec2 u2 v2 υ2 ⟨j, hj, rfl, rfl, rfl, rfl⟩ hrec2
    by_cases hj8 : j < 8
    · have hj8' : (j : Int) < 8 := by omega
      obtain ⟨b, hb⟩ : ∃ b, bits[8 * i + j]? = some b := ⟨_, List.getElem?_eq_getElem (by omega)⟩
      have htk : (bits.drop (8 * i)).take (j + 1) = (bits.drop (8 * i)).take j ++ [b] := by rw [List.take_add_one, List.getElem?_drop, hb]; rfl
      have hvl := val_lt ((bits.drop (8 * i)).take j)
      have hlj : ((bits.drop (8 * i)).take j).length = j := by rw [List.length_take, List.length_drop]; omega
      rw [hlj] at hvl
      have hp7 : 2 ^ j ≤ 2 ^ 7 := Nat.pow_le_pow_right (by omega) (by omega)
      have hbn := bn_le b
      have hvs := val_snoc ((bits.drop (8 * i)).take j) b
      rw [← htk] at hvs
      generalize val ((bits.drop (8 * i)).take j) = V at *
      have w1 : IntKind.u8.wrap ((V : Int) * 2) = ((V * 2 : Nat) : Int) := by rw [show (V : Int) * 2 = ((V * 2 : Nat) : Int) by omega, u8_wrap, Nat.mod_eq_of_lt (by omega)]
      have w2 : IntKind.u8.wrap (((V * 2 : Nat) : Int) + (bn b : Int)) = ((V * 2 + bn b : Nat) : Int) := by rw [show ((V * 2 : Nat) : Int) + (bn b : Int) = ((V * 2 + bn b : Nat) : Int) by omega, u8_wrap, Nat.mod_eq_of_lt (by omega)]
      have w3 : IntKind.i64.wrap (((8 * i : Nat) : Int) + (j : Int)) = ((8 * i + j : Nat) : Int) := by rw [wrap64 (by omega) (by omega)]; omega
      have w4 : IntKind.i64.wrap ((j : Int) + 1) = ((j + 1 : Nat) : Int) := wrap64 (by omega) (by omega)
      simp [R51.b_48, hj8, hj8', w1, w2, w3, w4, ↓at1_all hwU hb, Bb, -Int.natCast_mul, -Int.natCast_add]
      exact hrec2 (8 - (j + 1)) _ _ _ (by omega) ⟨j + 1, by omega, rfl, by rw [hvs], rfl, rfl⟩
    · have ej : j = 8 := by omega
      subst ej
      have w5 : IntKind.i64.wrap (((8 * i : Nat) : Int) + 8) = ((8 * (i + 1) : Nat) : Int) := by rw [wrap64 (by omega) (by omega)]; omega
      have hvl := val_lt ((bits.drop (8 * i)).take 8)
      have hlj : ((bits.drop (8 * i)).take 8).length = 8 := by rw [List.length_take, List.length_drop]; omega
      rw [hlj] at hvl
      have hB2 := Bt_lt hvl
      simp [R51.b_48, w5, zeros, List.range_succ, -Int.natCast_mul, -Int.natCast_add]
      refine aw_app1 own rfl (by omega) (by omega) ex.1 fun v τ3 h3 h4 => ?_
      refine hrec (m - (i + 1)) _ _ _ (by omega) ⟨i + 1, rfl, by omega, rfl, ⟨by have := ex.1; have := h4.1; omega, fun b hb => by rw [h4.2 b hb]; exact ex.2 b hb⟩, ?_⟩
      rw [pack_snoc, List.length_append, List.map_append]
      rw [hB2] at h3
      exact h3
  · have e : i = m := by omega
    subst e
    have h1 : ¬ ((8 * i : Nat) : Int) < (bits.length : Int) := by omega
    have h1' : ¬ 8 * i < bits.length := by omega
    simp [R51.b_54, len_iff hwU, h1, h1', -Int.natCast_mul]
    rw [hencL]
    exact ⟨he.trans ex, own.mono (by omega)⟩
end
end Go.Proofs.Ytjmafbiklebjcaa

namespace Go.Proofs.Ytjmafbiklebjcaa
open Go.Proofs.Ytjmafbiklebjcaa.Eng
section
variable {σ : AW} {k : Nat} {Q : Value → AW → Prop}
theorem all_Bt (l : List UInt8) : (l.map Bt).all isCell = true := by rw [cellsOk_eq]; exact Bt_cell l
/-- A copy of bytes. -/
theorem aw_copy {x : Value} {l : List UInt8} {n : Nat} (hx : Sl σ x 1 n (l.map Bt)) (hn : n ≤ 2 ^ 40) : wpA (appendA 5 1 1 (.slice (some ⟨σ.next, 0, some 1⟩) 0 0) x) (σ.push (.cells [] 5 false)) fun v τ => Ext σ τ ∧ Own σ.next τ v 5 1 n (l.map Bt) := by
  refine aw_appAny (B := σ.next) (n := 0) (vs := []) (own_new (Nat.le_refl _) rfl) (hx.ext (Ext.push _ _)) (all_Bt l) (by omega) (by omega) (by simp) fun v τ h1 h2 => ?_
  rw [Nat.zero_add, List.nil_append] at h1
  exact ⟨((Ext.push σ (.cells [] 5 false)).kept (Nat.le_refl _)).trans h2, h1⟩
end
end Go.Proofs.Ytjmafbiklebjcaa
