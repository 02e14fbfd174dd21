/- The reference's Decode: rdecode_spec; HuffDecodes. -/
import Derived.Test.YtgpddhoidlpcaaaHuffR
import Derived.Test.YtgpddhoidlpcaaaHuffN
set_option linter.unusedVariables false
set_option linter.unusedSimpArgs false
namespace Go.Proofs.Ytgpddhoidlpcaaa
open Go.Proofs.Ytgpddhoidlpcaaa.Eng
section
variable {σ : AW} {k : Nat} {Q : Value → AW → Prop}
theorem rdecode_spec {x : Value} {l : List UInt8} {n : Nat} (hx : Sl σ x 1 n (l.map Bt)) (hl : l.length < 134217728) (hk : 1073741824 + 1400 ≤ k) : wpA (callN Try.prog k 21 [x]) σ fun v τ => Ext σ τ ∧ DecV σ.next τ v l.length (decL l) := by
  have e1 : n = l.length := by have := hx.1; simp at this; omega
  subst e1
  rw [callN_at (by omega), R21.eq]
  have hbig : 1073741824 + 1399 ≤ k - 1 := by omega
  generalize hk1 : k - 1 = k1 at hbig
  simp [R21.top]
  refine (spans_spec (by omega)).mono ?_
  rintro v τ ⟨he, sp, hS⟩
  have hen := he.1
  have hw8 : IntKind.i64.wrap (8 * (l.length : Int)) = ((8 * l.length : Nat) : Int) := by rw [wrap64 (by omega) (by omega)]; omega
  have hbl := bitsL_len l
  refine aw_loop5 (fun r u c n' ones x' υ => ∃ (i g : Nat) (p : List Bool) (o : List UInt8), x' = .int .i64 i ∧ c = .int .u64 g ∧ n' = .int .i64 p.length ∧ ones = .bool (p.all id) ∧ i ≤ 8 * l.length ∧ r = 8 * l.length - i ∧ Own τ.next υ u 5 1 o.length (o.map Bt) ∧ Ext τ υ ∧ Pend p g ∧ g < 18446744073709551616 ∧ o.length ≤ i ∧ p.length ≤ i ∧ dec ((bitsL l).drop i) p o i = decL l) ?_ k1 (8 * l.length) _ _ _ _ _ τ
    ⟨0, 0, [], [], rfl, rfl, rfl, rfl, by omega, rfl, by simpa using Own.nil _ _ _ _, Ext.refl _, pend_nil, by omega, by simp, by simp, rfl⟩ (by omega)
  rintro r rec u c n' ones x' υ ⟨i, g, p, o, rfl, rfl, rfl, rfl, hi, rfl, own, ex, hp, hg64, ho, hpl, hd⟩ hrec
  have hxU := (hx.ext he).ext ex
  have exn := ex.1
  by_cases hlt : i < 8 * l.length
  · have hlt' : (i : Int) < ((8 * l.length : Nat) : Int) := by omega
    obtain ⟨c, hc⟩ : ∃ c, l[i / 8]? = some c := ⟨_, List.getElem?_eq_getElem (by omega)⟩
    have hbit := bit_at hc
    have hbv := bit_val (n := c.toNat) (j := 7 - i % 8)
    generalize hb : c.toNat.testBit (7 - i % 8) = b at hbit hbv
    have hdr : (bitsL l).drop i = b :: (bitsL l).drop (i + 1) := by
      obtain ⟨h1, h2⟩ := List.getElem?_eq_some_iff.1 hbit
      rw [List.drop_eq_getElem_cons h1, h2]
    rw [hdr, dec_cons] at hd
    have hc256 : c.toNat < 256 := c.toNat_lt
    have hdv : c.toNat / 2 ^ (7 - i % 8) ≤ c.toNat := Nat.div_le_self _ _
    have hq : IntKind.i64.wrap ((i : Int) / 8) = ((i / 8 : Nat) : Int) := by rw [show (i : Int) / 8 = ((i / 8 : Nat) : Int) by omega]; exact wrap64 (by omega) (by omega)
    have htm : (i : Int).tmod 8 = ((i % 8 : Nat) : Int) := tmodN i 8
    have hw7 : IntKind.i64.wrap (7 - ((i % 8 : Nat) : Int)) = ((7 - i % 8 : Nat) : Int) := by rw [wrap64 (by omega) (by omega)]; omega
    have hw7u : IntKind.u64.wrap ((7 - i % 8 : Nat) : Int) = ((7 - i % 8 : Nat) : Int) := wrap_u64 (by omega)
    have h70 : (0 : Int) ≤ ((7 - i % 8 : Nat) : Int) := by omega
    have hb8 : IntKind.u8.bits = 8 := rfl
    have hfd : (c.toNat : Int).fdiv (2 ^ min (7 - i % 8) 8) = ((c.toNat / 2 ^ (7 - i % 8) : Nat) : Int) := by
      rw [Nat.min_eq_left (by omega), ← fdivN]; simp
    have hwc : IntKind.u64.wrap ((c.toNat / 2 ^ (7 - i % 8) : Nat) : Int) = ((c.toNat / 2 ^ (7 - i % 8) : Nat) : Int) := wrap_u64 (by omega)
    have htm2 : ((c.toNat / 2 ^ (7 - i % 8) : Nat) : Int).tmod 2 = ((bn b : Nat) : Int) := by rw [← hbv]; exact tmodN _ 2
    have hbn := bn_le b
    have hsh : IntKind.u64.wrap ((g : Int) * 2) = ((g * 2 % 18446744073709551616 : Nat) : Int) := by rw [show (g : Int) * 2 = ((g * 2 : Nat) : Int) by omega]; exact u64_wrapN _
    have hsh2 : IntKind.u64.wrap (((g * 2 % 18446744073709551616 : Nat) : Int) + ((bn b : Nat) : Int)) = (((g * 2 + bn b) % 18446744073709551616 : Nat) : Int) := by
      rw [show ((g * 2 % 18446744073709551616 : Nat) : Int) + ((bn b : Nat) : Int) = ((g * 2 % 18446744073709551616 + bn b : Nat) : Int) by omega, u64_wrapN]
      congr 1
      omega
    have hwn : IntKind.i64.wrap ((p.length : Int) + 1) = ((p ++ [b]).length : Int) := by rw [wrap64 (by omega) (by omega)]; simp
    have hpl2 : (p ++ [b]).length = p.length + 1 := by simp
    have hone : decide (((bn b : Nat) : Int) = 1) = b := by cases b <;> rfl
    have hpa : (p ++ [b]).all id = (p.all id && b) := by simp
    have hwi : IntKind.i64.wrap ((i : Int) + 1) = ((i + 1 : Nat) : Int) := wrap64 (by omega) (by omega)
    have hP : Pend (p ++ [b]) ((g * 2 + bn b) % 18446744073709551616) := pend_snoc hp (by omega)
    have key : ∀ (ov : Bool) (wv : Value), (if ov = true then wv else .bool false) = .bool ((p ++ [b]).all id) → wpA (R21.g_100 (callN Try.prog k1) k1 rec (.int .i64 i) (.bool ov) u v (.int .u64 ((g * 2 + bn b) % 18446744073709551616 : Nat)) (.int .i64 (p ++ [b]).length) wv) υ fun v τ => Ext σ τ ∧ DecV σ.next τ v l.length (decL l) := by
      intro ov wv hon
      have hsy := symbol_spec (k := k1) (hS.ext ex) hP (Nat.mod_lt _ (by omega)) (by omega)
      simp [R21.g_100, hon, -List.length_append, -List.all_append, -Int.natCast_emod]
      refine hsy.mono ?_
      rintro _ _ ⟨rfl, rfl⟩
      cases hlk : look (p ++ [b]) with
      | none =>
        rw [hlk] at hd
        have e : symI (p ++ [b]) = -1 := by unfold symI; rw [hlk]
        simp [e, R21.j_47, hwi, -Int.natCast_add, -List.length_append, -List.all_append, -Int.natCast_emod]
        exact hrec (8 * l.length - (i + 1)) _ _ _ _ _ _ (by omega) ⟨i + 1, _, p ++ [b], o, rfl, rfl, rfl, rfl, by omega, rfl, own, ex, hP, Nat.mod_lt _ (by omega), by omega, by omega, hd⟩
      | some s =>
        rw [hlk] at hd
        have e : symI (p ++ [b]) = (s : Int) := by unfold symI; rw [hlk]
        obtain ⟨hs257, _⟩ := look_some hlk
        by_cases h256 : s = 256
        · subst h256
          simp only [if_true] at hd
          rw [← hd]
          simp [e, hq, -Int.natCast_add, -List.length_append, -List.all_append, -Int.natCast_emod, -Int.natCast_ediv]
          exact ⟨he.trans ex, rfl⟩
        · simp only [if_neg h256] at hd
          have h256' : ¬ (s : Int) = 256 := by omega
          have hw8 : IntKind.u8.wrap (s : Int) = (s : Int) := by rw [u8_wrap, Nat.mod_eq_of_lt (by omega)]
          have hB2 := Bt_lt (a := s) (by omega)
          simp [e, h256, h256', hw8, zeros, List.range_succ, -Int.natCast_add, -List.length_append, -List.all_append, -Int.natCast_emod, -Int.natCast_ediv]
          rw [hB2]
          refine aw_app1 own rfl (by omega) (by omega) (by omega) fun w τ3 h3 h4 => ?_
          simp [R21.j_47, hwi, -Int.natCast_add]
          exact hrec (8 * l.length - (i + 1)) _ _ _ _ _ _ (by omega) ⟨i + 1, 0, [], o ++ [UInt8.ofNat s], rfl, rfl, rfl, rfl, by omega, rfl, by simpa using h3, Kept.ext (Kept.trans ex h4), pend_nil, by omega, by simp; omega, by simp, hd⟩
    cases hones : p.all id with
    | true =>
      rw [hones] at hpa
      simp only [Bool.true_and] at hpa
      simp [R21.b_109, hlt', len_iff hxU, hw8, ↓at1_all hxU hc, Bt, hq, htm, hw7, hw7u, h70, hb8, hfd, hwc, htm2, hsh, hsh2, hwn, hone, -Int.natCast_mul, -Int.natCast_emod, -Int.natCast_ediv, -Int.natCast_pow, -Int.natCast_add, -List.length_append]
      exact key true (.bool b) (by rw [hpa]; rfl)
    | false =>
      rw [hones] at hpa
      simp only [Bool.false_and] at hpa
      simp [R21.b_109, hlt', len_iff hxU, hw8, ↓at1_all hxU hc, Bt, hq, htm, hw7, hw7u, h70, hb8, hfd, hwc, htm2, hsh, hsh2, hwn, hone, -Int.natCast_mul, -Int.natCast_emod, -Int.natCast_ediv, -Int.natCast_pow, -Int.natCast_add, -List.length_append]
      exact key false (.tuple #[]) (by rw [hpa]; rfl)
  · have e : i = 8 * l.length := by omega
    subst e
    rw [List.drop_of_length_le (by omega), dec_end] at hd
    have exU : Ext σ υ := he.trans ex
    by_cases h7 : 7 < p.length
    · rw [if_pos (.inl h7)] at hd
      have h7' : (7 : Int) < (p.length : Int) := by omega
      rw [← hd]
      simp [R21.b_109, R21.g_29, h7, h7', len_iff hxU, hw8, -Int.natCast_mul]
      exact ⟨exU, rfl⟩
    · have h7' : ¬ (7 : Int) < (p.length : Int) := by omega
      cases hones : p.all id with
      | true =>
        rw [hones] at hd
        rw [if_neg (by simp; omega)] at hd
        rw [← hd]
        simp [R21.b_109, R21.g_29, h7, h7', len_iff hxU, hw8, -Int.natCast_mul]
        exact ⟨exU, u, rfl, own.mono (by omega)⟩
      | false =>
        rw [hones] at hd
        rw [if_pos (.inr rfl)] at hd
        rw [← hd]
        simp [R21.b_109, R21.g_29, h7, h7', len_iff hxU, hw8, -Int.natCast_mul]
        exact ⟨exU, rfl⟩
theorem law_HuffDecodes {x : Value} {l : List UInt8} {n : Nat} (hx : Sl σ x 1 n (l.map Bt)) (hl : l.length < bigH) (hk : 1073741824 + 1500 ≤ k) : wpA (callN Try.prog k 7 [x]) σ fun v _ => v = .bool true := by
  have e1 : n = l.length := by have := hx.1; simp at this; omega
  subst e1
  rw [callN_at (by omega), R7.eq]
  have hbig : 1073741824 + 1499 ≤ k - 1 := by omega
  generalize hk1 : k - 1 = k1 at hbig
  have hl2 : l.length < 4194304 := hl
  have hawk : ∀ τ, wpA (callN Try.prog k1 16 []) τ fun v _ => v = .bool true := fun τ => awake3_spec (by omega)
  simp [R7.g_38, R7.g_40, R7.g_44, R7.top, zeros]
  refine (aw_copy hx (by omega)).mono ?_
  rintro c τ ⟨he, oc⟩
  refine (decode_spec oc.sl (by omega) (by omega)).mono ?_
  rintro w τ2 ⟨he2, dw⟩
  have hx2 := (hx.ext he).ext he2
  cases hd : decL l with
  | ok y =>
    rw [hd] at dw
    obtain ⟨z, rfl, oz⟩ := dw
    simp
    refine (rdecode_spec hx2 (by omega) (by omega)).mono ?_
    rintro w τ3 ⟨he3, dw⟩
    rw [hd] at dw
    obtain ⟨z', rfl, oz'⟩ := dw
    simp [toStr_own (oz.ext he3), toStr_own oz', wpA_eqStr, toList_strOf]
    refine (hawk _).mono ?_
    rintro _ _ rfl
    simp
  | eos i =>
    rw [hd] at dw
    subst dw
    simp
    refine (rdecode_spec hx2 (by omega) (by omega)).mono ?_
    rintro w τ3 ⟨he3, dw⟩
    rw [hd] at dw
    subst dw
    simp [toStr_nil, wpA_eqStr]
    refine (hawk _).mono ?_
    rintro _ _ rfl
    simp
  | pad =>
    rw [hd] at dw
    subst dw
    simp
    refine (rdecode_spec hx2 (by omega) (by omega)).mono ?_
    rintro w τ3 ⟨he3, dw⟩
    rw [hd] at dw
    subst dw
    simp [toStr_nil, wpA_eqStr]
    refine (hawk _).mono ?_
    rintro _ _ rfl
    simp
end
end Go.Proofs.Ytgpddhoidlpcaaa
