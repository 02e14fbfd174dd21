/- The program's Decode. -/
import Derived.Test.YtgpddhoidlpcaaaHuffP
set_option linter.unusedVariables false
set_option linter.unusedSimpArgs false
namespace Go.Proofs.Ytgpddhoidlpcaaa
open Go.Proofs.Ytgpddhoidlpcaaa.Eng
/-- What reading gives. -/
def DecV (B : Nat) (τ : AW) (v : Value) (len : Nat) : DecR → Prop
  | .ok y => ∃ w, v = .tuple #[w, .int .i64 0, .int .i64 0] ∧ Own B τ w 5 1 y.length (y.map Bt)
  | .eos i => v = .tuple #[.slice none 0 0, .int .i64 (i : Nat), .int .i64 31]
  | .pad => v = .tuple #[.slice none 0 0, .int .i64 (len : Nat), .int .i64 30]
theorem bit_at : ∀ {l : List UInt8} {c : UInt8} {i : Nat}, l[i / 8]? = some c → (bitsL l)[i]? = some (c.toNat.testBit (7 - i % 8))
  | [], _, _, h => by simp at h
  | d :: l, c, i, h => by
    have e : bitsL (d :: l) = natBits d.toNat 8 ++ bitsL l := by simp [bitsL]
    have hl : (natBits d.toNat 8).length = 8 := natBits_len _ _
    rw [e]
    by_cases hi : i < 8
    · rw [List.getElem?_append_left (by omega), natBits_at, if_pos hi]
      rw [show i / 8 = 0 by omega] at h
      simp at h
      rw [h, show 8 - 1 - i = 7 - i % 8 by omega]
    · rw [List.getElem?_append_right (by omega), hl]
      have h2 : l[(i - 8) / 8]? = some c := by
        rw [show i / 8 = (i - 8) / 8 + 1 by omega] at h
        simpa using h
      rw [bit_at h2, show (i - 8) % 8 = i % 8 by omega]
theorem bn_one (b : Bool) : bn b = 1 ↔ b = true := by cases b <;> simp [bn]
theorem or_bit (g : Nat) (b : Bool) : (g * 2 % 4294967296 ||| bn b) = (g * 2 + bn b) % 4294967296 := by
  have h := Nat.two_pow_add_eq_or_of_lt (i := 1) (b := bn b) (by have := bn_le b; omega) (g % 2147483648)
  have hb := bn_le b
  rw [show g * 2 % 4294967296 = 2 ^ 1 * (g % 2147483648) by omega, ← h]
  omega
theorem bit_val {n j : Nat} : n / 2 ^ j % 2 = bn (n.testBit j) := by
  have : n.testBit j = decide (n / 2 ^ j % 2 = 1) := by rw [Nat.testBit_eq_decide_div_mod_eq]
  rw [this]
  rcases Nat.mod_two_eq_zero_or_one (n / 2 ^ j) with e | e <;> simp [bn, e]
theorem dec_end (p : List Bool) (o : List UInt8) (i : Nat) : dec [] p o i = if 7 < p.length ∨ p.all id = false then .pad else .ok o := rfl
theorem dec_cons (b : Bool) (bs p : List Bool) (o : List UInt8) (i : Nat) : dec (b :: bs) p o i = match look (p ++ [b]) with
    | some s => if s = 256 then .eos (i / 8) else dec bs [] (o ++ [UInt8.ofNat s]) (i + 1)
    | none => dec bs (p ++ [b]) o (i + 1) := rfl
section
variable {σ : AW} {k : Nat} {Q : Value → AW → Prop}
theorem decode_spec {x : Value} {l : List UInt8} {n : Nat} (hx : Sl σ x 1 n (l.map Bt)) (hl : l.length < 134217728) (hk : 1073741824 + 1400 ≤ k) : wpA (callN Try.prog k 20 [x]) σ fun v τ => Ext σ τ ∧ DecV σ.next τ v l.length (decL l) := by
  have e1 : n = l.length := by have := hx.1; simp at this; omega
  subst e1
  rw [callN_at (by omega), R20.eq]
  have hbig : 1073741824 + 1399 ≤ k - 1 := by omega
  generalize hk1 : k - 1 = k1 at hbig
  simp [R20.top]
  refine (groups_spec (by omega)).mono ?_
  rintro v τ ⟨he, rows, hG⟩
  have hen := he.1
  have hw8 : IntKind.i64.wrap (8 * (l.length : Int)) = ((8 * l.length : Nat) : Int) := by rw [wrap64 (by omega) (by omega)]; omega
  have e12 : τ.next + 1 + 1 = τ.next + 2 := rfl
  have z1 : ¬ τ.next = τ.next + 2 := by omega
  have z2 : ¬ τ.next + 2 = τ.next := by omega
  simp [len_iff hx, hw8, e12, z1, z2, -Int.natCast_mul]
  generalize hT : (((((τ.push (.cells [.int .u32 0] 22 false)).push (.cells [.int .i64 0] 3 false)).push (.cells [.bool false] 4 false)).put τ.next (some (.cells [.int .u32 0] 22 false))).put (τ.next + 1) (some (.cells [.int .i64 0] 3 false))).put (τ.next + 2) (some (.cells [.bool true] 4 false)) = T
  have hTn : T.next = τ.next + 3 := by rw [← hT]; simp
  have hT7 : T.get τ.next = some (.cells [.int .u32 0] 22 false) := by rw [← hT]; simp
  have hT8 : T.get (τ.next + 1) = some (.cells [.int .i64 0] 3 false) := by rw [← hT]; simp
  have hT9 : T.get (τ.next + 2) = some (.cells [.bool true] 4 false) := by rw [← hT]; simp
  have hTe : ∀ b, b < τ.next → T.get b = τ.get b := fun b hb => by
    have c1 : ¬ b = τ.next := by omega
    have c2 : ¬ b = τ.next + 1 := by omega
    have c3 : ¬ b = τ.next + 2 := by omega
    rw [← hT]; simp [c1, c2, c3]
  clear hT
  have hbl := bitsL_len l
  refine aw_loop2 (fun r u x' υ => ∃ (i g : Nat) (p : List Bool) (o : List UInt8), x' = .int .i64 i ∧ i ≤ 8 * l.length ∧ r = 8 * l.length - i ∧ υ.get τ.next = some (.cells [.int .u32 g] 22 false) ∧ υ.get (τ.next + 1) = some (.cells [.int .i64 p.length] 3 false) ∧ υ.get (τ.next + 2) = some (.cells [.bool (p.all id)] 4 false) ∧ Own (τ.next + 3) υ u 5 1 o.length (o.map Bt) ∧ τ.next + 3 ≤ υ.next ∧ (∀ b, b < τ.next → υ.get b = τ.get b) ∧ Pend p g ∧ g < 4294967296 ∧ o.length ≤ i ∧ p.length ≤ i ∧ dec ((bitsL l).drop i) p o i = decL l) ?_ k1 (8 * l.length) _ _ T
    ⟨0, 0, [], [], rfl, by omega, rfl, hT7, hT8, hT9, by simpa using Own.nil _ _ _ _, by omega, hTe, pend_nil, by omega, by simp, by simp, rfl⟩ (by omega)
  rintro r rec u x' υ ⟨i, g, p, o, rfl, hi, rfl, g7, g8, g9, own, hB, hσ, hp, hg32, ho, hpl, hd⟩ hrec
  have hxU : Sl υ x 1 l.length (l.map Bt) := hx.ext ⟨by omega, fun b hb => by rw [hσ b (by omega), he.2 b hb]⟩
  have d1 : ¬ τ.next = τ.next + 1 := by omega
  have d2 : ¬ τ.next = τ.next + 2 := by omega
  have d3 : ¬ τ.next + 1 = τ.next + 2 := by omega
  by_cases hlt : i < 8 * l.length
  · have hlt' : (i : Int) < ((8 * l.length : Nat) : Int) := by omega
    obtain ⟨c, hc⟩ : ∃ c, l[i / 8]? = some c := ⟨_, List.getElem?_eq_getElem (by omega)⟩
    have hbit := bit_at hc
    have hbv := bit_val (n := c.toNat) (j := 7 - i % 8)
    generalize hb : c.toNat.testBit (7 - i % 8) = b at hbit hbv
    have hdr : (bitsL l).drop i = b :: (bitsL l).drop (i + 1) := by
      obtain ⟨h1, h2⟩ := List.getElem?_eq_some_iff.1 hbit
      rw [List.drop_eq_getElem_cons h1, h2]
    rw [hdr, dec_cons] at hd
    have hc256 : c.toNat < 256 := c.toNat_lt
    have hdv : c.toNat / 2 ^ (7 - i % 8) ≤ c.toNat := Nat.div_le_self _ _
    have hq : IntKind.i64.wrap ((i : Int) / 8) = ((i / 8 : Nat) : Int) := by rw [show (i : Int) / 8 = ((i / 8 : Nat) : Int) by omega]; exact wrap64 (by omega) (by omega)
    have htm : (i : Int).tmod 8 = ((i % 8 : Nat) : Int) := tmodN i 8
    have hw7 : IntKind.i64.wrap (7 - ((i % 8 : Nat) : Int)) = ((7 - i % 8 : Nat) : Int) := by rw [wrap64 (by omega) (by omega)]; omega
    have h70 : (0 : Int) ≤ ((7 - i % 8 : Nat) : Int) := by omega
    have hb8 : IntKind.u8.bits = 8 := rfl
    have hb32 : IntKind.u32.bits = 32 := rfl
    have hfd : (c.toNat : Int).fdiv (2 ^ min (7 - i % 8) 8) = ((c.toNat / 2 ^ (7 - i % 8) : Nat) : Int) := by
      rw [Nat.min_eq_left (by omega), ← fdivN]; simp
    have hwc : IntKind.u32.wrap ((c.toNat / 2 ^ (7 - i % 8) : Nat) : Int) = ((c.toNat / 2 ^ (7 - i % 8) : Nat) : Int) := wrap_u32 (by omega)
    have hand := fun (Q : Value → AW → Prop) (τ : AW) => wpA_and1U32 (σ := τ) (Q := Q) (P := Try.prog) (t := 22) (a := c.toNat / 2 ^ (7 - i % 8)) (by omega)
    rw [hbv] at hand
    have hsh : IntKind.u32.wrap ((g : Int) * 2) = ((g * 2 % 4294967296 : Nat) : Int) := by rw [show (g : Int) * 2 = ((g * 2 : Nat) : Int) by omega]; exact u32_wrapN _
    have hbn := bn_le b
    have hor := fun (Q : Value → AW → Prop) (τ : AW) => wpA_orU32 (σ := τ) (Q := Q) (P := Try.prog) (t := 22) (a := g * 2 % 4294967296) (c := bn b) (by omega) (by omega)
    rw [or_bit] at hor
    have hwn : IntKind.i64.wrap ((p.length : Int) + 1) = ((p ++ [b]).length : Int) := by rw [wrap64 (by omega) (by omega)]; simp
    have hone := bn_one b
    have hlit : Sl υ v 2 21 (rows.flatMap Rw.cs) := (hG.2.1.sl).ext ⟨by omega, fun b hb => hσ b hb⟩
    have hgr : Grs υ v rows := (Grs.of hG).ext ⟨by omega, fun b hb => hσ b hb⟩
    have hpa : (p ++ [b]).all id = (p.all id && b) := by simp
    have key : ∀ S : AW, S.next = υ.next → S.get τ.next = some (.cells [.int .u32 ((g * 2 + bn b) % 4294967296 : Nat)] 22 false) → S.get (τ.next + 1) = some (.cells [.int .i64 (p ++ [b]).length] 3 false) → S.get (τ.next + 2) = some (.cells [.bool ((p ++ [b]).all id)] 4 false) → (∀ b, b ≠ τ.next → b ≠ τ.next + 1 → b ≠ τ.next + 2 → S.get b = υ.get b) →
        wpA (loop4 (R20.b_152 (callN Try.prog k1) k1 rec (.func (.func 35) #[] #[ptr τ.next, ptr (τ.next + 1), ptr (τ.next + 2)]) (.int .i64 i) (.int .i64 i) v (.int .i64 21) (ptr τ.next) (ptr (τ.next + 1))) k1 u (.int .u32 0) (.int .i64 0) (.int .i64 0)) S fun v τ => Ext σ τ ∧ DecV σ.next τ v l.length (decL l) := by
      intro S sn s7 s8 s9 so
      have hpl2 : (p ++ [b]).length = p.length + 1 := by simp
      have hSe : ∀ b, b < τ.next → S.get b = υ.get b := fun b hb => so b (by omega) (by omega) (by omega)
      have hgS : Grs S v rows := (Grs.of hG).ext ⟨by omega, fun b hb => by rw [hSe b hb]; exact hσ b hb⟩
      have ownS : Own (τ.next + 3) S u 5 1 o.length (o.map Bt) := own_still own (by omega) fun b hb1 hb2 => so b (by omega) (by omega) (by omega)
      refine find_spec (B := τ.next + 3) (p := p ++ [b]) (by omega) hgS s7 s8 s9 (by omega) (by omega) (by omega) d1 d2 d3 (by omega) ownS (pend_snoc hp (by omega)) (Nat.mod_lt _ (by omega)) (by omega) (by omega) ?_ ?_ ?_
      · intro hno τ' ex
        have exn := ex.1
        rw [hno] at hd
        refine hrec (8 * l.length - (i + 1)) _ _ _ (by omega) ⟨i + 1, _, p ++ [b], o, rfl, by omega, rfl, ?_, ?_, ?_, ownS.ext ex, by omega, fun b hb => ?_, pend_snoc hp (by omega), Nat.mod_lt _ (by omega), by omega, by omega, hd⟩
        · rw [ex.2 _ (by omega)]; exact s7
        · rw [ex.2 _ (by omega)]; exact s8
        · rw [ex.2 _ (by omega)]; exact s9
        · rw [ex.2 _ (by omega), hSe b hb]; exact hσ b hb
      · intro s hs hs256 u' τ' hn ho' t7 t8 t9 own'
        rw [hs] at hd
        have hne : ¬ s = 256 := by omega
        simp only [if_neg hne] at hd
        refine hrec (8 * l.length - (i + 1)) _ _ _ (by omega) ⟨i + 1, 0, [], o ++ [UInt8.ofNat s], rfl, by omega, rfl, t7, t8, t9, own', by omega, fun b hb => ?_, pend_nil, by omega, by simp; omega, by simp, hd⟩
        rw [ho' b (by omega) (by omega) (by omega) (by omega), hSe b hb]; exact hσ b hb
      · intro hs τ' ex
        have exn := ex.1
        rw [hs] at hd
        simp only [if_true] at hd
        rw [← hd]
        exact ⟨⟨by omega, fun b hb => by rw [ex.2 b (by omega), hSe b (by omega), hσ b (by omega)]; exact he.2 b hb⟩, rfl⟩
    cases hones : p.all id with
    | true =>
      rw [hones] at g9 hpa
      simp only [Bool.true_and] at hpa
      simp [R20.b_174, R20.d_154, hlt', len_iff hlit, ↓at1_all hxU hc, Bt, hq, htm, hw7, h70, hb8, hb32, hfd, hwc, hand, g7, g8, g9, hsh, hor, hwn, hone, here_iff, d1, d2, d3, -Int.natCast_mul, -Int.natCast_emod, -Int.natCast_ediv, -Int.natCast_pow, -Int.natCast_add, -List.length_append]
      have hdec : decide (((bn b : Nat) : Int) = 1) = b := by cases b <;> rfl
      rw [hdec]
      exact key _ (by simp) (by simp [z1, d1, -List.length_append]) (by simp [d3, -List.length_append]) (by simp [hpa, -List.all_append]) fun b' c1 c2 c3 => by simp [c1, c2, c3, -List.length_append]
    | false =>
      rw [hones] at g9 hpa
      simp only [Bool.false_and] at hpa
      simp [R20.b_174, R20.d_154, hlt', len_iff hlit, ↓at1_all hxU hc, Bt, hq, htm, hw7, h70, hb8, hb32, hfd, hwc, hand, g7, g8, g9, hsh, hor, hwn, hone, here_iff, d1, d2, d3, -Int.natCast_mul, -Int.natCast_emod, -Int.natCast_ediv, -Int.natCast_pow, -Int.natCast_add, -List.length_append]
      exact key _ (by simp) (by simp [z1, d1, -List.length_append]) (by simp [d3, -List.length_append]) (by simp [hpa, -List.all_append]) fun b' c1 c2 c3 => by simp [c1, c2, c3, -List.length_append]
  · have e : i = 8 * l.length := by omega
    subst e
    rw [List.drop_of_length_le (by omega), dec_end] at hd
    have exU : Ext σ υ := ⟨by omega, fun b hb => by rw [hσ b (by omega)]; exact he.2 b hb⟩
    by_cases h7 : 7 < p.length
    · rw [if_pos (.inl h7)] at hd
      have h7' : (7 : Int) < (p.length : Int) := by omega
      rw [← hd]
      simp [R20.b_174, R20.g_29, g8, h7, h7', len_iff hxU, -Int.natCast_mul]
      exact ⟨exU, rfl⟩
    · have h7' : ¬ (7 : Int) < (p.length : Int) := by omega
      cases hones : p.all id with
      | true =>
        rw [hones] at g9 hd
        rw [if_neg (by simp; omega)] at hd
        rw [← hd]
        simp [R20.b_174, R20.g_29, g8, g9, h7, h7', len_iff hxU, -Int.natCast_mul]
        exact ⟨exU, u, rfl, own.mono (by omega)⟩
      | false =>
        rw [hones] at g9 hd
        rw [if_pos (.inr rfl)] at hd
        rw [← hd]
        simp [R20.b_174, R20.g_29, g8, g9, h7, h7', len_iff hxU, -Int.natCast_mul]
        exact ⟨exU, rfl⟩
end
end Go.Proofs.Ytgpddhoidlpcaaa
