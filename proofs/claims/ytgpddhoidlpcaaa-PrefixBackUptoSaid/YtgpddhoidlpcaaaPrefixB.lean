/- Texts as bytes. -/
import Derived.Test.YtgpddhoidlpcaaaPrefix
import Derived.Test.YtgpddhoidlpcaaaHuffU
set_option linter.unusedVariables false
set_option linter.unusedSimpArgs false
namespace Go.Proofs.Ytgpddhoidlpcaaa
open Go.Proofs.Ytgpddhoidlpcaaa.Eng
def putTextL (s : List UInt8) (sh : Bool) : List UInt8 := if sh = true ∧ (encL s).length < s.length then putL 128 7 (encL s).length ++ encL s else putL 0 7 s.length ++ s
/-- How much there may be beside each other: enough for both. -/
def bigK : Nat := 4294967296 + 1073741824 + 2000
def PutTextV (B : Nat) (τ : AW) (v : Value) (s : List UInt8) (sh : Bool) : Prop :=
  (s.length ≤ 16384 ∧ ∃ w, v = .tuple #[w, .int .i64 0] ∧ Own B τ w 5 1 (putTextL s sh).length ((putTextL s sh).map Bt)) ∨ (16384 < s.length ∧ v = .tuple #[.slice none 0 0, .int .i64 2])
theorem vlq_le : ∀ n : Nat, (vlq n).length ≤ n + 1
  | n => by
    by_cases h : 128 ≤ n
    · rw [vlq_ge h, List.length_cons]
      have := vlq_le (n / 128)
      omega
    · rw [vlq_lt h]; simp
theorem putL_le (f b n : Nat) : (putL f b n).length ≤ n + 2 := by
  unfold putL
  split
  · simp
  · have := vlq_le (n - (2 ^ b - 1))
    simp only [List.length_cons]
    omega
section
variable {σ : AW} {k : Nat} {Q : Value → AW → Prop}
theorem toBytes_iff {s : List UInt8} : wpA (toBytesA 5 (Tx s)) σ Q ↔ Q (.slice (some ⟨σ.next, 0, some 1⟩) s.length s.length) (σ.push (.cells (s.map Bt) 5 false)) := by
  refine wpA_iff ?_
  have e : ((⟨s.toArray⟩ : ByteArray).data.toList.map fun b : UInt8 => Value.int .u8 b.toNat) = s.map Bt := by simp [Bt]
  rw [← e]
  rfl
/-- A text is appended. -/
theorem aw_appStr {B : Nat} {n : Nat} {v : Value} {vs : List Value} {s : List UInt8} (hs : Own B σ v 5 1 n vs) (hroom : n + s.length ≤ 2 ^ 47) (hB : B ≤ σ.next)
    (h : ∀ w τ, Own B τ w 5 1 (n + s.length) (vs ++ s.map Bt) → Kept B σ τ → Q w τ) : wpA (appendA 5 1 1 v (Tx s)) σ Q := by
  have hsrc : σ.source 1 (Tx s) = some (s.length, s.map Bt) := by
    have e : ((⟨s.toArray⟩ : ByteArray).data.toList.map fun b : UInt8 => Value.int .u8 b.toNat) = s.map Bt := by simp [Bt]
    show some (_, _) = _
    rw [← e]
    rfl
  rcases Nat.eq_zero_or_pos s.length with h0 | hm
  · have hu : s = [] := List.length_eq_zero_iff.1 h0
    subst hu
    refine ⟨v, σ, ?_, h v σ (by simpa using hs) (Kept.refl _ _)⟩
    obtain ⟨_, ⟨rfl, rfl⟩ | ⟨b, c, ws, rfl, hcl, _⟩⟩ := hs
    · simp [appendA, hsrc]
    · simp [appendA, hsrc, hcl]
  · have hm0 : s.length ≠ 0 := by omega
    have hc := all_Bt s
    have hl : (s.map Bt).length = s.length * 1 := by simp
    obtain ⟨h1, ⟨rfl, rfl⟩ | ⟨b, c, ws, rfl, h3, h3', h4, h5, h6, h7⟩⟩ := hs
    · have hvs : vs = [] := by simpa using h1
      subst hvs
      refine ⟨.slice (some ⟨σ.next, 0, some 1⟩) s.length s.length, σ.push (.cells (s.map Bt) 5 false), ?_, h _ _ ?_ ((Ext.push σ _).kept hB)⟩
      · simp only [appendA, hsrc]
        rw [if_pos hl, if_neg hm0, if_pos ⟨by omega, hc⟩, if_pos ⟨trivial, trivial, by omega⟩]
      · rw [Nat.zero_add, List.nil_append]
        exact own_new hB (by simp)
    · refine ⟨.slice (some ⟨σ.next, 0, some 1⟩) (n + s.length) (n + s.length), (σ.put b none).push (.cells ((ws.drop 0).take (n * 1) ++ s.map Bt) 5 false), ?_, h _ _ ⟨?_, .inr ⟨σ.next, n + s.length, vs ++ s.map Bt, rfl, by omega, hB, by simp, ?_, ?_, ?_⟩⟩ ?_⟩
      · simp only [appendA, hsrc, h5]
        rw [if_pos hl, if_neg hm0, if_pos ⟨by omega, hc⟩, if_pos ⟨trivial, trivial, by omega, by omega⟩]
      · simp [h1]
      · rw [AW.get_push]
        simp at h7
        simp [h7]
      · simp [h1]
      · rw [List.take_of_length_le (by simp [h1])]
      · exact ((Kept.refl B σ).put h3' none).push hB _
theorem puttext_spec {s : List UInt8} {sh : Bool} (hs : s.length ≤ 1048576) (hk : bigK ≤ k) : wpA (callN Try.prog k 26 [Tx s, .bool sh]) σ fun v τ => Ext σ τ ∧ PutTextV σ.next τ v s sh := by
  rw [callN_at (by unfold bigK at hk; omega), R26.eq]
  have hbig : 4294967296 + 1073741824 + 1999 ≤ k - 1 := by unfold bigK at hk; omega
  generalize hk1 : k - 1 = k1 at hbig
  clear hk hk1
  by_cases hlong : 16384 < s.length
  · have hl' : (16384 : Int) < (s.length : Int) := by omega
    simp [R26.g_33, R26.top, lenStr_iff, hlong, hl']
    exact ⟨Ext.refl _, .inr ⟨hlong, rfl⟩⟩
  have hl' : ¬ (16384 : Int) < (s.length : Int) := by omega
  have hpk : bigP + 20 ≤ k1 := by unfold bigP; omega
  have hE : Ext σ (σ.push (.cells (s.map Bt) 5 false)) := Ext.push _ _
  have own0 : Own σ.next (σ.push (.cells (s.map Bt) 5 false)) (.slice (some ⟨σ.next, 0, some 1⟩) s.length s.length) 5 1 s.length (s.map Bt) := own_new (Nat.le_refl _) (by simp)
  have fin : ∀ (f : Nat) (t : List UInt8) (w : Value) (υ : AW), f < 256 → f % 2 ^ 7 = 0 → t.length ≤ 16384 → Ext σ υ → Sl υ w 1 t.length (t.map Bt) → putTextL s sh = putL f 7 t.length ++ t → wpA (R26.j_22 (callN Try.prog k1) k1 (.int .u8 f) w) υ fun v τ => Ext σ τ ∧ PutTextV σ.next τ v s sh := by
    intro f t w υ hf h0 ht ex hw e
    have hpl := putL_le f 7 t.length
    simp [R26.j_22, len_iff hw]
    refine (put_good hf (by omega) (by omega) (by omega) h0 hpk).mono ?_
    rintro _ τ ⟨he, p, rfl, op⟩
    try simp
    refine aw_appAny op (hw.ext he) (all_Bt t) (by omega) (by omega) he.1 fun z τ2 h3 h4 => ?_
    try simp
    have exn := ex.1
    refine ⟨Kept.ext ((((ex.trans he).kept (Nat.le_refl _))).trans (h4.mono (by omega))), .inl ⟨by omega, z, rfl, ?_⟩⟩
    rw [e, List.length_append, List.map_append]
    exact h3.mono (by omega)
  have hle := encL_len s
  cases sh with
  | false =>
    simp [R26.g_33, R26.top, lenStr_iff, toBytes_iff, hl', hlong]
    exact fin 0 s _ _ (by omega) rfl (by omega) hE own0.sl (by unfold putTextL; rw [if_neg (by simp)])
  | true =>
    have hlH : s.length < bigH := by unfold bigH; omega
    have h17 : bigH + 1300 ≤ k1 := by unfold bigH; omega
    have h18 : bigH + 1400 ≤ k1 := by unfold bigH; omega
    simp [R26.g_33, R26.top, lenStr_iff, toBytes_iff, hl', hlong]
    refine (length_spec own0.sl hlH h17).mono ?_
    rintro _ τ ⟨he, rfl⟩
    have own1 := own0.ext he
    by_cases hsh : (encL s).length < s.length
    · have hsh' : (((bitsOf s + 7) / 8 : Nat) : Int) < (s.length : Int) := by omega
      simp only [wpA_lss, wpA_bindV, wpA_pick, wpA_ret, wpA_cond, hsh', decide_true, if_true]
      refine (encode_spec own1.sl hlH h18).mono ?_
      rintro w τ2 ⟨he2, ow⟩
      exact fin 128 (encL s) w τ2 (by omega) rfl (by omega) ((hE.trans he).trans he2) ow.sl (by unfold putTextL; rw [if_pos ⟨rfl, hsh⟩])
    · have hsh' : ¬ (((bitsOf s + 7) / 8 : Nat) : Int) < (s.length : Int) := by omega
      simp only [wpA_lss, wpA_bindV, wpA_pick, wpA_ret, wpA_cond, hsh', decide_false, Bool.false_eq_true, if_false, if_true]
      exact fin 0 s _ _ (by omega) rfl (by omega) (hE.trans he) own1.sl (by unfold putTextL; rw [if_neg (fun h => hsh h.2)])
theorem rputtext_spec {s : List UInt8} {sh : Bool} (hs : s.length ≤ 1048576) (hk : bigK ≤ k) : wpA (callN Try.prog k 27 [Tx s, .bool sh]) σ fun v τ => Ext σ τ ∧ PutTextV σ.next τ v s sh := by
  rw [callN_at (by unfold bigK at hk; omega), R27.eq]
  have hbig : 4294967296 + 1073741824 + 1999 ≤ k - 1 := by unfold bigK at hk; omega
  generalize hk1 : k - 1 = k1 at hbig
  clear hk hk1
  by_cases hlong : 16384 < s.length
  · have hl' : (16384 : Int) < (s.length : Int) := by omega
    simp [R27.top, lenStr_iff, hlong, hl']
    exact ⟨Ext.refl _, .inr ⟨hlong, rfl⟩⟩
  have hl' : ¬ (16384 : Int) < (s.length : Int) := by omega
  have hpk : bigP + 20 ≤ k1 := by unfold bigP; omega
  have hE : Ext σ (σ.push (.cells (s.map Bt) 5 false)) := Ext.push _ _
  have own0 : Own σ.next (σ.push (.cells (s.map Bt) 5 false)) (.slice (some ⟨σ.next, 0, some 1⟩) s.length s.length) 5 1 s.length (s.map Bt) := own_new (Nat.le_refl _) (by simp)
  have fin : ∀ υ : AW, Ext σ υ → putTextL s sh = putL 0 7 s.length ++ s → wpA (R27.j_15 (callN Try.prog k1) k1 (Tx s)) υ fun v τ => Ext σ τ ∧ PutTextV σ.next τ v s sh := by
    intro υ ex e
    have hpl := putL_le 0 7 s.length
    simp [R27.j_15, lenStr_iff]
    refine (rput_good (first := 0) (b := 7) (m := s.length) (by omega) (by omega) (by omega) (by omega) rfl hpk).mono ?_
    rintro _ τ ⟨he, p, rfl, op⟩
    try simp
    refine aw_appStr op (by omega) he.1 fun z τ2 h3 h4 => ?_
    try simp
    have exn := ex.1
    refine ⟨Kept.ext ((((ex.trans he).kept (Nat.le_refl _))).trans (h4.mono (by omega))), .inl ⟨by omega, z, rfl, ?_⟩⟩
    rw [e, List.length_append, List.map_append]
    exact h3.mono (by omega)
  have hle := encL_len s
  cases sh with
  | false =>
    simp [R27.top, lenStr_iff, hl', hlong]
    exact fin σ (Ext.refl _) (by unfold putTextL; rw [if_neg (by simp)])
  | true =>
    have hlH : s.length < bigH := by unfold bigH; omega
    have h19 : 8 * bigH * 4 + 1500 ≤ k1 := by unfold bigH; omega
    simp [R27.top, lenStr_iff, toBytes_iff, hl', hlong]
    refine (rencode_spec own0.sl hlH h19).mono ?_
    rintro w τ ⟨he, ow⟩
    by_cases hsh : (encL s).length < s.length
    · have hsh' : ((encL s).length : Int) < (s.length : Int) := by omega
      simp [len_iff ow.sl, lenStr_iff, hsh, hsh']
      refine (rput_good (first := 128) (b := 7) (m := (encL s).length) (by omega) (by omega) (by omega) (by omega) rfl hpk).mono ?_
      rintro _ τ2 ⟨he2, p, rfl, op⟩
      try simp
      have hpl := putL_le 128 7 (encL s).length
      refine aw_appAny op (ow.sl.ext he2) (all_Bt _) (by omega) (by omega) he2.1 fun z τ3 h3 h4 => ?_
      try simp
      have ex := hE.trans he
      have exn := ex.1
      refine ⟨Kept.ext ((((ex.trans he2).kept (Nat.le_refl _))).trans (h4.mono (by omega))), .inl ⟨by omega, z, rfl, ?_⟩⟩
      rw [show putTextL s true = putL 128 7 (encL s).length ++ encL s by unfold putTextL; rw [if_pos ⟨rfl, hsh⟩], List.length_append, List.map_append]
      exact h3.mono (by omega)
    · have hsh' : ¬ ((encL s).length : Int) < (s.length : Int) := by omega
      simp [len_iff ow.sl, lenStr_iff, hsh, hsh']
      exact fin τ (hE.trans he) (by unfold putTextL; rw [if_neg (fun h => hsh h.2)])
theorem law_PrefixTexts {s : List UInt8} {sh : Bool} (hs : s.length ≤ 1048576) (hk : bigK + 100 ≤ k) : wpA (callN Try.prog k 11 [Tx s, .bool sh]) σ fun v _ => v = .bool true := by
  rw [callN_at (by omega), R11.eq]
  have hbig : bigK + 99 ≤ k - 1 := by omega
  generalize hk1 : k - 1 = k1 at hbig
  have hawk : ∀ τ, wpA (callN Try.prog k1 25 []) τ fun v _ => v = .bool true := fun τ => awake_spec (by unfold bigP; unfold bigK at hbig; omega)
  simp [R11.g_31, R11.g_33, R11.top]
  refine (puttext_spec hs (by omega)).mono ?_
  rintro v τ ⟨he, hv⟩
  rcases hv with ⟨h1, w, rfl, ow⟩ | ⟨h1, rfl⟩
  · simp
    refine (rputtext_spec hs (by omega)).mono ?_
    rintro v τ2 ⟨he2, hv⟩
    rcases hv with ⟨h2, w2, rfl, ow2⟩ | ⟨h2, rfl⟩
    · simp [toStr_own (ow.ext he2), toStr_own ow2, wpA_eqStr, toList_strOf]
      refine (hawk _).mono ?_
      rintro _ _ rfl
      simp
    · omega
  · simp
    refine (rputtext_spec hs (by omega)).mono ?_
    rintro v τ2 ⟨he2, hv⟩
    rcases hv with ⟨h2, w2, rfl, ow2⟩ | ⟨h2, rfl⟩
    · omega
    · simp [toStr_nil, wpA_eqStr]
      refine (hawk _).mono ?_
      rintro _ _ rfl
      simp
end
end Go.Proofs.Ytgpddhoidlpcaaa

namespace Go.Proofs.Ytgpddhoidlpcaaa
open Go.Proofs.Ytgpddhoidlpcaaa.Eng
/-- All of it, and more behind it; or all but its last byte. -/
def cut (full : Bool) (l R : List UInt8) : List UInt8 := if full = true then l ++ R else l.dropLast
def gotV (full : Bool) (v p len : Nat) : Value := if full = true then .tuple #[.int .i64 (v : Nat), .int .i64 (p : Nat), .int .i64 0] else .tuple #[.int .i64 0, .int .i64 (len : Nat), .int .i64 3]
theorem vlq_ne (n : Nat) : vlq n ≠ [] := by
  by_cases h : 128 ≤ n
  · rw [vlq_ge h]; simp
  · rw [vlq_lt h]; simp
theorem cut_cons (full : Bool) (c : UInt8) (l R : List UInt8) (hl : l ≠ []) : cut full (c :: l) R = c :: cut full l R := by
  cases full with
  | true => rfl
  | false =>
    obtain ⟨d, l, rfl⟩ : ∃ d l', l = d :: l' := by cases l with
      | nil => exact absurd rfl hl
      | cons d l => exact ⟨d, l, rfl⟩
    rfl
theorem and_mod (a b : Nat) : a &&& (2 ^ b - 1) = a % 2 ^ b := Nat.and_two_pow_sub_one_eq_mod a b
section
variable {σ : AW} {k : Nat} {Q : Value → AW → Prop}
theorem wpA_andI64 {P : Program} {t : TypeId} {a c : Nat} (ha : a < 9223372036854775808) (hc : c < 9223372036854775808) : wpA (binA P .and t (.int .i64 (a : Int)) (.int .i64 (c : Int))) σ Q ↔ Q (.int .i64 ((a &&& c : Nat) : Int)) σ := by
  have h8 : IntKind.i64.bits = 64 := rfl
  have hlt : a &&& c < 2 ^ 63 := Nat.and_lt_two_pow a hc
  rw [wpA_and, h8, BitVec.ofInt_natCast, BitVec.ofInt_natCast, BitVec.toNat_and, BitVec.toNat_ofNat, BitVec.toNat_ofNat, Nat.mod_eq_of_lt (by omega), Nat.mod_eq_of_lt (by omega)]
  rw [wrap64 (by omega) (by omega)]
theorem get_loop {x : Value} {bs R : List UInt8} {full : Bool} {m top p0 v : Nat} {e0 : Int} (hx : Sl σ x 1 bs.length (bs.map Bt)) (hbl : bs.length < 1099511627776) (hm : m < 2147483648) (htop : top ≤ 255) (hv : v = top + m) (hv31 : v ≤ 2147483647) (hp : p0 ≤ bs.length) (hc : bs.drop p0 = cut full (vlq m) R) (hk : 10 ≤ k) :
    wpA (loop4 (R28.b_95 (callN Try.prog k) k x) k (.int .i64 p0) (.int .i64 top) (.int .i64 e0) (.int .i64 0)) σ fun r τ => τ = σ ∧ r = gotV full v (p0 + (vlq m).length) bs.length := by
  refine aw_loop4 (fun r u n e j' τ => ∃ j p : Nat, ∃ e1 : Int, u = .int .i64 p ∧ n = .int .i64 ((top + m % 128 ^ j : Nat) : Int) ∧ e = .int .i64 e1 ∧ j' = .int .i64 j ∧ (j = 0 ∨ 128 ^ j ≤ m) ∧ r = 6 - j ∧ p ≤ bs.length ∧ bs.drop p = cut full (vlq (m / 128 ^ j)) R ∧ p + (vlq (m / 128 ^ j)).length = p0 + (vlq m).length ∧ τ = σ) ?_ k 6 _ _ _ _ σ ⟨0, p0, e0, rfl, by simp [Nat.mod_one], rfl, rfl, .inl rfl, rfl, hp, by simpa using hc, by simp, rfl⟩ (by omega)
  rintro r rec u n e j' τ ⟨j, p, e1, rfl, rfl, rfl, rfl, hj, rfl, hpl, hd, hpe, rfl⟩ hrec
  have hj4 : j ≤ 4 := by
    rcases hj with h | h
    · omega
    · rcases Nat.lt_or_ge j 5 with g | g
      · omega
      · have : 128 ^ 5 ≤ 128 ^ j := Nat.pow_le_pow_right (by omega) g
        omega
  have hj6 : (j : Int) < 6 := by omega
  have hj6' : j < 6 := by omega
  have hj5 : ¬ (j : Int) = 5 := by omega
  have hj5' : ¬ j = 5 := by omega
  have hpow : 0 < 128 ^ j := Nat.pow_pos (by omega)
  have hq : m / 128 ^ (j + 1) = m / 128 ^ j / 128 := by rw [Nat.pow_succ, Nat.div_div_eq_div_mul]
  have hmod : m % 128 ^ (j + 1) = m % 128 ^ j + 128 ^ j * (m / 128 ^ j % 128) := Nat.mod_pow_succ
  have hmle : m % 128 ^ (j + 1) ≤ m := Nat.mod_le _ _
  have hw7 : IntKind.i64.wrap (7 * (j : Int)) = ((7 * j : Nat) : Int) := by rw [wrap64 (by omega) (by omega)]; omega
  have hwj : IntKind.i64.wrap ((j : Int) + 1) = ((j + 1 : Nat) : Int) := wrap64 (by omega) (by omega)
  have hwp : IntKind.i64.wrap ((p : Int) + 1) = ((p + 1 : Nat) : Int) := wrap64 (by omega) (by omega)
  have hwm : IntKind.i64.wrap (((p + 1 : Nat) : Int) - 1) = (p : Int) := by rw [wrap64 (by omega) (by omega)]; omega
  have h70 : (0 : Int) ≤ ((7 * j : Nat) : Int) := by omega
  have hb64 : IntKind.i64.bits = 64 := rfl
  have hsh : IntKind.i64.wrap (((m / 128 ^ j % 128 : Nat) : Int) * 2 ^ min (7 * j) 64) = ((128 ^ j * (m / 128 ^ j % 128) : Nat) : Int) := by
    have h128 : m / 128 ^ j % 128 < 128 := Nat.mod_lt _ (by omega)
    generalize m / 128 ^ j % 128 = d at *
    have : j = 0 ∨ j = 1 ∨ j = 2 ∨ j = 3 ∨ j = 4 := by omega
    rcases this with rfl | rfl | rfl | rfl | rfl <;> first | (simp; rw [wrap64 (by omega) (by omega)]; done) | (simp; rw [wrap64 (by omega) (by omega)]; omega)
  have hwa : IntKind.i64.wrap (((top + m % 128 ^ j : Nat) : Int) + ((128 ^ j * (m / 128 ^ j % 128) : Nat) : Int)) = ((top + m % 128 ^ (j + 1) : Nat) : Int) := by
    rw [wrap64 (by omega) (by omega)]; omega
  have hng : ¬ (2147483647 : Int) < ((top + m % 128 ^ (j + 1) : Nat) : Int) := by omega
  have hwd : IntKind.i64.wrap ((m / 128 ^ j % 128 : Nat) : Int) = ((m / 128 ^ j % 128 : Nat) : Int) := wrap64 (by omega) (by omega)
  have key : ∀ c : UInt8, bs[p]? = some c → c.toNat % 128 = m / 128 ^ j % 128 → (wpA (R28.b_95 (callN Try.prog k) k x rec (.int .i64 p) (.int .i64 ((top + m % 128 ^ j : Nat) : Int)) (.int .i64 e1) (.int .i64 j)) τ (fun r τ' => τ' = τ ∧ r = gotV full v (p0 + (vlq m).length) bs.length) ↔
      if c.toNat < 128 then gotV true (top + m % 128 ^ (j + 1)) (p + 1) bs.length = gotV full v (p0 + (vlq m).length) bs.length else wpA (rec (.int .i64 ((p + 1 : Nat) : Int)) (.int .i64 ((top + m % 128 ^ (j + 1) : Nat) : Int)) (.int .i64 2) (.int .i64 ((j + 1 : Nat) : Int))) τ (fun r τ' => τ' = τ ∧ r = gotV full v (p0 + (vlq m).length) bs.length)) := by
    intro c hcp hcm
    have hc256 := c.toNat_lt
    have hpl2 : p < bs.length := (List.getElem?_eq_some_iff.1 hcp).1
    have hne : ¬ (p : Int) = (bs.length : Int) := by omega
    have hne' : ¬ p = bs.length := by omega
    have hand := fun (Q : Value → AW → Prop) (τ : AW) => wpA_andU8 (σ := τ) (Q := Q) (P := Try.prog) (t := 5) (a := c.toNat) (c := 127) hc256 (by omega)
    have e127 : c.toNat &&& 127 = m / 128 ^ j % 128 := by rw [← hcm]; exact and_mod c.toNat 7
    rw [e127] at hand
    have h127 : ((127 : Nat) : Int) = 127 := rfl
    rw [h127] at hand
    by_cases hlt : c.toNat < 128
    · have hlt' : (c.toNat : Int) < 128 := by omega
      simp [R28.b_95, hj6, hj6', len_iff hx, hne, hne', hj5, hj5', ↓at1_all hx hcp, Bt, hand, hwd, hw7, h70, hb64, hsh, hwa, hng, hwp, hwm, hlt, hlt', -Int.natCast_add, -Int.natCast_mul, -Int.natCast_pow, -Int.natCast_emod, -Int.natCast_ediv]
      exact Iff.rfl
    · have hlt' : ¬ (c.toNat : Int) < 128 := by omega
      simp [R28.b_95, hj6, hj6', len_iff hx, hne, hne', hj5, hj5', ↓at1_all hx hcp, Bt, hand, hwd, hw7, h70, hb64, hsh, hwa, hng, hwp, hwm, hwj, hlt, hlt', -Int.natCast_add, -Int.natCast_mul, -Int.natCast_pow, -Int.natCast_emod, -Int.natCast_ediv]
  generalize hQ : m / 128 ^ j = q at *
  by_cases h128 : 128 ≤ q
  · have hc256 : 128 + q % 128 < 256 := by omega
    have hcn : (UInt8.ofNat (128 + q % 128)).toNat = 128 + q % 128 := by rw [UInt8.toNat_ofNat']; exact Nat.mod_eq_of_lt hc256
    rw [vlq_ge h128, cut_cons _ _ _ _ (vlq_ne _)] at hd
    rw [vlq_ge h128, List.length_cons] at hpe
    have hcp : bs[p]? = some (UInt8.ofNat (128 + q % 128)) := by
      have := congrArg (fun l : List UInt8 => l[0]?) hd
      simpa using this
    have hd1 : bs.drop (p + 1) = cut full (vlq (q / 128)) R := by
      have := congrArg (fun l : List UInt8 => l.drop 1) hd
      simpa [List.drop_drop] using this
    have hlt : p < bs.length := (List.getElem?_eq_some_iff.1 hcp).1
    refine (key _ hcp (by rw [hcn]; omega)).2 ?_
    rw [if_neg (by omega)]
    refine hrec (6 - (j + 1)) _ _ _ _ _ (by omega) ⟨j + 1, p + 1, 2, rfl, rfl, rfl, rfl, .inr ?_, rfl, by omega, by rw [hq]; exact hd1, by rw [hq]; omega, rfl⟩
    rw [Nat.pow_succ]
    have h1 := (Nat.le_div_iff_mul_le hpow).1 (show 128 ≤ m / 128 ^ j by omega)
    omega
  · have hcn : (UInt8.ofNat q).toNat = q := by rw [UInt8.toNat_ofNat']; exact Nat.mod_eq_of_lt (by omega)
    rw [vlq_lt h128] at hd hpe
    have hmlt : m % 128 ^ (j + 1) = m := by
      rw [hmod, Nat.mod_eq_of_lt (show q < 128 by omega), ← hQ]
      have := Nat.mod_add_div m (128 ^ j)
      omega
    cases full with
    | true =>
      have hcp : bs[p]? = some (UInt8.ofNat q) := by
        have := congrArg (fun l : List UInt8 => l[0]?) hd
        simpa [cut] using this
      refine (key _ hcp (by rw [hcn])).2 ?_
      rw [if_pos (by omega), hmlt, ← hv, ← hpe]
      rfl
    | false =>
      have hnil : bs.drop p = [] := by rw [hd]; rfl
      have hpl2 : p = bs.length := by
        have := congrArg List.length hnil
        rw [List.length_drop] at this
        simp at this
        omega
      have e : gotV false v (p0 + (vlq m).length) bs.length = .tuple #[.int .i64 0, .int .i64 (bs.length : Nat), .int .i64 3] := rfl
      rw [e]
      simp [R28.b_95, R28.s_10, R28.g_128, R28.g_133, R28.g_136, R28.top, hj6, hj6', len_iff hx, hpl2]
theorem get_spec {x : Value} {bs R : List UInt8} {full : Bool} {a b first v : Nat} (hx : Sl σ x 1 bs.length (bs.map Bt)) (hbl : bs.length < 1099511627776) (h1 : 1 ≤ b) (h8 : b ≤ 8) (hv : v ≤ 2147483647) (hf : first < 256) (h0 : first % 2 ^ b = 0) (ha : a ≤ bs.length) (hc : bs.drop a = cut full (putL first b v) R) (hk : 20 ≤ k) :
    wpA (callN Try.prog k 28 [x, .int .i64 a, .int .i64 b]) σ fun r τ => τ = σ ∧ r = gotV full v (a + (putL first b v).length) bs.length := by
  rw [callN_at (by omega), R28.eq]
  have hbig : 19 ≤ k - 1 := by omega
  generalize hk1 : k - 1 = k1 at hbig
  have b1 : ¬ (b : Int) < 1 := by omega
  have b1' : ¬ b < 1 := by omega
  have b0 : ¬ b = 0 := by omega
  have b8 : ¬ (8 : Int) < (b : Int) := by omega
  have b8' : ¬ 8 < b := by omega
  have hb0 : (0 : Int) ≤ (b : Int) := by omega
  have a0 : ¬ (a : Int) < 0 := by omega
  have al : ¬ (bs.length : Int) < (a : Int) := by omega
  have al' : ¬ bs.length < a := by omega
  obtain ⟨t1, t2, t3, t4, t5⟩ := top_facts h1 h8
  have hb64 : IntKind.i64.bits = 64 := rfl
  have hp2 : 2 ^ b ≤ 256 := pow_le h8
  have hwa : IntKind.i64.wrap ((a : Int) + 1) = ((a + 1 : Nat) : Int) := wrap64 (by omega) (by omega)
  have hfl : first + (2 ^ b - 1) < 256 := by
    have hd := Nat.mod_add_div first (2 ^ b)
    have : b = 1 ∨ b = 2 ∨ b = 3 ∨ b = 4 ∨ b = 5 ∨ b = 6 ∨ b = 7 ∨ b = 8 := bits_cases h1 h8
    rcases this with rfl | rfl | rfl | rfl | rfl | rfl | rfl | rfl <;> omega
  have first_byte : ∀ t, t ≤ 2 ^ b - 1 → (UInt8.ofNat (first + t)).toNat = first + t ∧ (first + t) &&& (2 ^ b - 1) = t := by
    intro t ht
    refine ⟨by rw [UInt8.toNat_ofNat']; exact Nat.mod_eq_of_lt (by omega), ?_⟩
    rw [and_mod, Nat.add_mod, h0, Nat.zero_add, Nat.mod_mod, Nat.mod_eq_of_lt (by omega)]
  have hstart : ∀ (Q : Value → AW → Prop) (t : Nat) (c : UInt8), c = UInt8.ofNat (first + t) → t ≤ 2 ^ b - 1 → bs[a]? = some c → (wpA (R28.top (callN Try.prog k1) k1 x (.int .i64 a) (.int .i64 b)) σ Q ↔
      if t < 2 ^ b - 1 then Q (.tuple #[.int .i64 t, .int .i64 ((a + 1 : Nat) : Int), .int .i64 0]) σ else wpA (loop4 (R28.b_95 (callN Try.prog k1) k1 x) k1 (.int .i64 ((a + 1 : Nat) : Int)) (.int .i64 t) (.int .i64 3) (.int .i64 0)) σ Q) := by
    rintro Q t c rfl ht hca
    obtain ⟨f1, f2⟩ := first_byte t ht
    have hal : a < bs.length := (List.getElem?_eq_some_iff.1 hca).1
    have hne : ¬ (a : Int) = (bs.length : Int) := by omega
    have hne' : ¬ a = bs.length := by omega
    have hand := fun (Q : Value → AW → Prop) (τ : AW) => wpA_andI64 (σ := τ) (Q := Q) (P := Try.prog) (t := 3) (a := first + t) (c := 2 ^ b - 1) (by omega) (by omega)
    rw [f2] at hand
    have hwc : IntKind.i64.wrap ((first + t : Nat) : Int) = ((first + t : Nat) : Int) := wrap64 (by omega) (by omega)
    have f1' : (first + t) % 256 = first + t := Nat.mod_eq_of_lt (by omega)
    by_cases hlt : t < 2 ^ b - 1
    · have hlt' : (t : Int) < ((2 ^ b - 1 : Nat) : Int) := by omega
      simp only [if_pos hlt]
      simp [R28.s_10, R28.g_128, R28.g_133, R28.g_136, R28.top, b1, b1', b0, b8, b8', a0, al, al', len_iff hx, hne, hne', hb0, hb64, t3, t4, ↓at1_all hx hca, Bt, f1, f1', hwc, hand, hwa, hlt, hlt', -Int.natCast_add, -Int.natCast_pow, -Int.natCast_emod]
    · have hlt' : ¬ (t : Int) < ((2 ^ b - 1 : Nat) : Int) := by omega
      simp only [if_neg hlt]
      simp [R28.s_10, R28.g_128, R28.g_133, R28.g_136, R28.top, b1, b1', b0, b8, b8', a0, al, al', len_iff hx, hne, hne', hb0, hb64, t3, t4, ↓at1_all hx hca, Bt, f1, f1', hwc, hand, hwa, hlt, hlt', -Int.natCast_add, -Int.natCast_pow, -Int.natCast_emod]
  unfold putL at hc ⊢
  by_cases hlt : v < 2 ^ b - 1
  · rw [if_pos hlt] at hc ⊢
    cases full with
    | true =>
      have hca : bs[a]? = some (UInt8.ofNat (first + v)) := by
        have := congrArg (fun l : List UInt8 => l[0]?) hc
        simpa [cut] using this
      refine (hstart _ v _ rfl (by omega) hca).2 ?_
      rw [if_pos hlt]
      exact ⟨rfl, rfl⟩
    | false =>
      have hal : a = bs.length := by
        have := congrArg List.length hc
        rw [List.length_drop] at this
        simp [cut] at this
        omega
      subst hal
      have e : gotV false v (bs.length + [UInt8.ofNat (first + v)].length) bs.length = .tuple #[.int .i64 0, .int .i64 (bs.length : Nat), .int .i64 3] := rfl
      rw [e]
      simp [R28.s_10, R28.g_128, R28.g_133, R28.g_136, R28.top, b1, b1', b0, b8, b8', a0, al, al', len_iff hx]
  · rw [if_neg hlt] at hc ⊢
    rw [cut_cons _ _ _ _ (vlq_ne _)] at hc
    have hca : bs[a]? = some (UInt8.ofNat (first + (2 ^ b - 1))) := by
      have := congrArg (fun l : List UInt8 => l[0]?) hc
      simpa using this
    have hd1 : bs.drop (a + 1) = cut full (vlq (v - (2 ^ b - 1))) R := by
      have := congrArg (fun l : List UInt8 => l.drop 1) hc
      simpa [List.drop_drop] using this
    have hal : a < bs.length := (List.getElem?_eq_some_iff.1 hca).1
    refine (hstart _ (2 ^ b - 1) _ rfl (Nat.le_refl _) hca).2 ?_
    rw [if_neg (Nat.lt_irrefl _)]
    refine (get_loop (v := v) hx hbl (m := v - (2 ^ b - 1)) (by omega) (by omega) (by omega) hv (by omega) hd1 (by omega)).mono ?_
    rintro r τ ⟨rfl, rfl⟩
    refine ⟨rfl, ?_⟩
    rw [List.length_cons]
    congr 1
    omega
end
end Go.Proofs.Ytgpddhoidlpcaaa

namespace Go.Proofs.Ytgpddhoidlpcaaa
open Go.Proofs.Ytgpddhoidlpcaaa.Eng
theorem putL_head (f n : Nat) : ∃ l, putL f 7 n = UInt8.ofNat (f + min n 127) :: l := by
  unfold putL
  by_cases h : n < 2 ^ 7 - 1
  · rw [if_pos h, Nat.min_eq_left (by omega)]; exact ⟨_, rfl⟩
  · rw [if_neg h, Nat.min_eq_right (by omega)]; exact ⟨_, rfl⟩
theorem and_128 : ∀ x : Fin 256, (x.1 &&& 128) = if x.1 < 128 then 0 else 128 := by decide +kernel
section
variable {σ : AW} {k : Nat} {Q : Value → AW → Prop}
theorem gettext_spec {x : Value} {bs R s : List UInt8} {sh : Bool} {a : Nat} (hx : Sl σ x 1 bs.length (bs.map Bt)) (hbl : bs.length < 134217728) (hs : s.length ≤ 16384) (ha : a ≤ bs.length) (hc : bs.drop a = putTextL s sh ++ R) (hk : 1073741824 + 1500 ≤ k) :
    wpA (callN Try.prog k 29 [x, .int .i64 a, .int .i64 16384]) σ fun r τ => Ext σ τ ∧ r = .tuple #[Tx s, .int .i64 ((a + (putTextL s sh).length : Nat) : Int), .int .i64 0] := by
  rw [callN_at (by omega), R29.eq]
  have hbig : 1073741824 + 1499 ≤ k - 1 := by omega
  generalize hk1 : k - 1 = k1 at hbig
  have a0 : ¬ (a : Int) < 0 := by omega
  have al : ¬ (bs.length : Int) < (a : Int) := by omega
  have al' : ¬ bs.length < a := by omega
  have key : ∀ (f : Nat) (t : List UInt8), f < 256 → f % 2 ^ 7 = 0 → putTextL s sh = putL f 7 t.length ++ t → t.length ≤ 16384 → (f = 0 ∧ t = s ∨ f = 128 ∧ t = encL s) → wpA (R29.top (callN Try.prog k1) k1 x (.int .i64 a) (.int .i64 16384)) σ fun r τ => Ext σ τ ∧ r = .tuple #[Tx s, .int .i64 ((a + (putTextL s sh).length : Nat) : Int), .int .i64 0] := by
    intro f t hf h0 e ht hft
    rw [e, List.append_assoc] at hc
    have hlen : bs.length - a = (putL f 7 t.length).length + (t.length + R.length) := by
      have := congrArg List.length hc
      rw [List.length_drop, List.length_append, List.length_append] at this
      exact this
    obtain ⟨l, hhd⟩ := putL_head f t.length
    have hpos : 0 < (putL f 7 t.length).length := by rw [hhd]; simp
    have hca : bs[a]? = some (UInt8.ofNat (f + min t.length 127)) := by
      have := congrArg (fun l : List UInt8 => l[0]?) hc
      rw [hhd] at this
      simpa using this
    have hfm : f + min t.length 127 < 256 := by rcases hft with ⟨rfl, _⟩ | ⟨rfl, _⟩ <;> omega
    have hcn : (UInt8.ofNat (f + min t.length 127)).toNat = f + min t.length 127 := by rw [UInt8.toNat_ofNat']; exact Nat.mod_eq_of_lt hfm
    have hg := get_spec (k := k1) (full := true) (R := t ++ R) (v := t.length) (first := f) (b := 7) hx (by omega) (by omega) (by omega) (by omega) hf h0 ha hc (by omega)
    generalize hp : (putL f 7 t.length).length = p at *
    have hwn : IntKind.i64.wrap ((bs.length : Int) - ((a + p : Nat) : Int)) = ((bs.length - (a + p) : Nat) : Int) := by rw [wrap64 (by omega) (by omega)]; omega
    have hwt : IntKind.i64.wrap (((a + p : Nat) : Int) + (t.length : Int)) = ((a + p + t.length : Nat) : Int) := by rw [wrap64 (by omega) (by omega)]; omega
    have g1 : ¬ (16384 : Int) < (t.length : Int) := by omega
    have g1' : ¬ 16384 < t.length := by omega
    have g2 : ¬ ((bs.length - (a + p) : Nat) : Int) < (t.length : Int) := by omega
    have g2' : ¬ bs.length - (a + p) < t.length := by omega
    have hb7 : ((7 : Nat) : Int) = 7 := rfl
    rw [hb7] at hg
    simp [R29.g_113, R29.g_118, R29.g_121, R29.top, a0, al, al', len_iff hx]
    refine hg.mono ?_
    rintro _ τ ⟨rfl, rfl⟩
    simp [gotV, g1, g1', len_iff hx, hwn, g2, g2', hwt, -Int.natCast_add]
    refine aw_slice (lo := a + p) (hi := a + p + t.length) hx (.inr ⟨.i64, rfl⟩) (.inr ⟨.i64, rfl⟩) (by omega) (by omega) fun w hw => ?_
    have et : ((bs.map Bt).drop ((a + p) * 1)).take ((a + p + t.length - (a + p)) * 1) = t.map Bt := by
      rw [Nat.mul_one, Nat.mul_one, ← List.map_drop, ← List.map_take, ← List.drop_drop, hc, List.drop_append_of_le_length (by omega), List.drop_of_length_le (by omega), List.nil_append, show a + p + t.length - (a + p) = t.length by omega, List.take_left]
    rw [et, show a + p + t.length - (a + p) = t.length by omega] at hw
    have hand := fun (Q : Value → AW → Prop) (τ : AW) => wpA_andU8 (σ := τ) (Q := Q) (P := Try.prog) (t := 5) (a := f + min t.length 127) (c := 128) hfm (by omega)
    rw [and_128 ⟨f + min t.length 127, hfm⟩, show ((128 : Nat) : Int) = 128 from rfl] at hand
    have hlenT : (putTextL s sh).length = p + t.length := by rw [e, List.length_append, hp]
    rw [hlenT]
    rcases hft with ⟨rfl, rfl⟩ | ⟨rfl, rfl⟩
    · simp only [Nat.zero_add] at hca hcn hand hfm
      simp only [show min t.length 127 < 128 by omega, if_true] at hand
      rw [show ((0 : Nat) : Int) = 0 from rfl] at hand
      simp [↓at1_all hx hca, Bt, hcn, Nat.mod_eq_of_lt hfm, hand, R29.j_29, toStr_sl hw, hwt, -Int.natCast_add]
      exact ⟨Ext.refl _, rfl, by omega⟩
    · simp only [show ¬ 128 + min (encL s).length 127 < 128 by omega, if_false] at hand
      simp [↓at1_all hx hca, Bt, hcn, Nat.mod_eq_of_lt hfm, hand, -Int.natCast_add]
      refine (decode_spec hw (by omega) (by omega)).mono ?_
      rintro _ τ2 ⟨he, dw⟩
      rw [dec_encL] at dw
      obtain ⟨z, rfl, oz⟩ := dw
      have s1 : ¬ (16384 : Int) < (s.length : Int) := by omega
      have s1' : ¬ 16384 < s.length := by omega
      simp [len_iff oz.sl, s1, s1', R29.j_29, toStr_own oz, hwt, -Int.natCast_add]
      exact ⟨he, rfl, by omega⟩
  by_cases hsh : sh = true ∧ (encL s).length < s.length
  · exact key 128 (encL s) (by omega) rfl (by unfold putTextL; rw [if_pos hsh]) (by omega) (.inr ⟨rfl, rfl⟩)
  · exact key 0 s (by omega) rfl (by unfold putTextL; rw [if_neg hsh]) (by omega) (.inl ⟨rfl, rfl⟩)
end
end Go.Proofs.Ytgpddhoidlpcaaa

namespace Go.Proofs.Ytgpddhoidlpcaaa
open Go.Proofs.Ytgpddhoidlpcaaa.Eng
theorem vlq_mono : ∀ (n m : Nat), m ≤ n → (vlq m).length ≤ (vlq n).length
  | n, m, h => by
    by_cases hm : 128 ≤ m
    · rw [vlq_ge hm, vlq_ge (n := n) (by omega), List.length_cons, List.length_cons]
      have := vlq_mono (n / 128) (m / 128) (Nat.div_le_div_right h)
      omega
    · rw [vlq_lt hm]
      have : vlq n ≠ [] := vlq_ne n
      have := List.length_pos_iff.2 this
      simp only [List.length_singleton]
      omega
theorem putL_mono {f f' b m n : Nat} (h : m ≤ n) : (putL f b m).length ≤ (putL f' b n).length := by
  unfold putL
  by_cases h1 : m < 2 ^ b - 1
  · rw [if_pos h1]
    split <;> simp
  · rw [if_neg h1, if_neg (by omega), List.length_cons, List.length_cons]
    have := vlq_mono (n - (2 ^ b - 1)) (m - (2 ^ b - 1)) (by omega)
    omega
theorem putText_mono (s : List UInt8) : (putTextL s true).length ≤ (putTextL s false).length := by
  unfold putTextL
  rw [if_neg (c := false = true ∧ _) (by simp)]
  split
  · rename_i h
    rw [List.length_append, List.length_append]
    have := putL_mono (f := 128) (f' := 0) (b := 7) (Nat.le_of_lt h.2)
    omega
  · exact Nat.le_refl _
theorem putL_pos (f b n : Nat) : 1 ≤ (putL f b n).length := by
  unfold putL
  split <;> simp
section
variable {σ : AW} {k : Nat} {Q : Value → AW → Prop}
theorem law_PrefixLeast {bits n : Nat} {s : List UInt8} (hb : bits < 256) (hn : n < 4294967296) (hs : s.length ≤ 1048576) (hk : bigK + 100 ≤ k) : wpA (callN Try.prog k 12 [.int .u8 bits, .int .u32 n, Tx s]) σ fun v _ => v = .bool true := by
  rw [callN_at (by omega), R12.eq]
  have hbig : bigK + 99 ≤ k - 1 := by omega
  generalize hk1 : k - 1 = k1 at hbig
  have hpk : bigP + 20 ≤ k1 := by unfold bigP; unfold bigK at hbig; omega
  have hk20 : 20 ≤ k1 := by unfold bigK at hbig; omega
  have hbk : bigK ≤ k1 := by omega
  have hawk : ∀ τ, wpA (callN Try.prog k1 25 []) τ fun v _ => v = .bool true := fun τ => awake_spec (by unfold bigP; unfold bigK at hbig; omega)
  clear hbig hk hk1
  have hm8 : bits % 8 < 8 := Nat.mod_lt _ (by omega)
  have htm : (bits : Int).tmod 8 = ((bits % 8 : Nat) : Int) := tmod_nat bits 8
  have hw1 : IntKind.i64.wrap ((bits % 8 : Nat) : Int) = ((bits % 8 : Nat) : Int) := wrap64 (by omega) (by omega)
  have hw2 : IntKind.i64.wrap (1 + ((bits % 8 : Nat) : Int)) = ((1 + bits % 8 : Nat) : Int) := by rw [wrap64 (by omega) (by omega)]; omega
  have htn : (n : Int).tmod 2147483648 = ((n % 2147483648 : Nat) : Int) := tmod_nat n 2147483648
  have hv : n % 2147483648 ≤ 2147483647 := by omega
  generalize hV : n % 2147483648 = v at *
  have hw3 : IntKind.i64.wrap (v : Int) = (v : Int) := wrap64 (by omega) (by omega)
  have h1 : 1 ≤ 1 + bits % 8 := by omega
  have h8 : 1 + bits % 8 ≤ 8 := by omega
  generalize hB : 1 + bits % 8 = b at *
  have h0 : (0 : Nat) % 2 ^ b = 0 := Nat.zero_mod _
  have hz : ((0 : Nat) : Int) = 0 := rfl
  have hput := fun (σ : AW) => put_good (σ := σ) (k := k1) (first := 0) (b := b) (m := v) (by omega) h1 h8 hv h0 hpk
  rw [hz] at hput
  have hpl := putL_le 0 b v
  have hpp := putL_pos 0 b v
  simp [R12.g_56, R12.g_58, R12.g_73, R12.g_88, R12.top, htm, hw1, hw2, htn, hw3, -Int.natCast_add, -Int.natCast_emod]
  refine (hput σ).mono ?_
  rintro _ τ ⟨he, w, rfl, ow⟩
  have g1 : ¬ ((putL 0 b v).length : Int) < 1 := by omega
  have g1' : ¬ (putL 0 b v).length < 1 := by omega
  have g1'' : ¬ (putL 0 b v).length = 0 := by omega
  have gne : ¬ putL 0 b v = [] := fun e => by rw [e] at hpp; simp at hpp
  have hwl : IntKind.i64.wrap (((putL 0 b v).length : Int) - 1) = (((putL 0 b v).length - 1 : Nat) : Int) := by rw [wrap64 (by omega) (by omega)]; omega
  simp [len_iff ow.sl, g1, g1', g1'', gne, hwl]
  refine aw_slice (lo := 0) (hi := (putL 0 b v).length - 1) ow.sl (.inl ⟨rfl, rfl⟩) (.inr ⟨.i64, rfl⟩) (by omega) (by omega) fun z hz' => ?_
  have hdl : (putL 0 b v).dropLast.length = (putL 0 b v).length - 1 := List.length_dropLast
  have et : (((putL 0 b v).map Bt).drop (0 * 1)).take (((putL 0 b v).length - 1 - 0) * 1) = ((putL 0 b v).dropLast).map Bt := by
    rw [Nat.mul_one, Nat.zero_mul, List.drop_zero, Nat.sub_zero, ← List.map_take, List.dropLast_eq_take]
  rw [et, Nat.sub_zero, ← hdl] at hz'
  have hget := get_spec (k := k1) (full := false) (R := []) (a := 0) (first := 0) (b := b) (v := v) hz' (by omega) h1 h8 hv (by omega) h0 (by omega) rfl hk20
  rw [hz] at hget
  refine hget.mono ?_
  rintro _ τ2 ⟨rfl, rfl⟩
  simp [gotV, hdl, hwl, len_iff ow.sl, -List.length_dropLast]
  refine (puttext_spec hs hbk).mono ?_
  rintro p τ3 ⟨he3, hp⟩
  have hmono := putText_mono s
  rcases hp with ⟨h2, w2, rfl, ow2⟩ | ⟨h2, rfl⟩
  · simp
    refine (puttext_spec hs hbk).mono ?_
    rintro p τ4 ⟨he4, hp⟩
    rcases hp with ⟨h3, w3, rfl, ow3⟩ | ⟨h3, rfl⟩
    · have hm' : ((putTextL s true).length : Int) ≤ ((putTextL s false).length : Int) := by omega
      simp [len_iff ow2.sl, len_iff ow3.sl, hmono, hm']
      refine (hawk _).mono ?_
      rintro _ _ rfl
      simp
    · omega
  · simp
    refine (puttext_spec hs hbk).mono ?_
    rintro p τ4 ⟨he4, hp⟩
    rcases hp with ⟨h3, w3, rfl, ow3⟩ | ⟨h3, rfl⟩
    · omega
    · simp
      refine (hawk _).mono ?_
      rintro _ _ rfl
      simp
/-- Three, one behind the other. -/
theorem aw_join {p q r : Value} {a b c : List UInt8} (ha : Sl σ p 1 a.length (a.map Bt)) (hb : Sl σ q 1 b.length (b.map Bt)) (hc : Sl σ r 1 c.length (c.map Bt)) (hl : a.length + b.length + c.length ≤ 134217728)
    (hq : ∀ w τ, Ext σ τ → Own σ.next τ w 5 1 (a ++ (b ++ c)).length ((a ++ (b ++ c)).map Bt) → Q w τ) :
    wpA (appendA 5 1 1 (.slice (some ⟨σ.next, 0, some 1⟩) 0 0) p) (σ.push (.cells [] 5 false)) fun v τ => wpA (appendA 5 1 1 v q) τ fun v τ => wpA (appendA 5 1 1 v r) τ Q := by
  refine (aw_copy ha (by omega)).mono ?_
  rintro w τ ⟨he, ow⟩
  refine aw_appAny ow (hb.ext he) (all_Bt b) (by omega) (by omega) he.1 fun w2 τ2 o2 k2 => ?_
  have e2 : Ext σ τ2 := Kept.ext ((he.kept (Nat.le_refl _)).trans k2)
  refine aw_appAny o2 (hc.ext e2) (all_Bt c) (by omega) (by omega) e2.1 fun w3 τ3 o3 k3 => ?_
  refine hq w3 τ3 (Kept.ext ((e2.kept (Nat.le_refl _)).trans k3)) ?_
  rw [List.length_append, List.length_append, List.map_append, List.map_append, ← List.append_assoc, ← Nat.add_assoc]
  exact o3
theorem law_PrefixBack {p r : Value} {ah be : List UInt8} {na nb bits first n : Nat} {s : List UInt8} (hp : Sl σ p 1 na (ah.map Bt)) (hr : Sl σ r 1 nb (be.map Bt)) (hb : bits < 256) (hf : first < 256) (hn : n < 4294967296) (hl : ah.length + be.length ≤ 1048576) (hs : s.length ≤ 1048576) (hk : bigK + 100 ≤ k) :
    wpA (callN Try.prog k 13 [p, r, .int .u8 bits, .int .u8 first, .int .u32 n, Tx s]) σ fun v _ => v = .bool true := by
  have e1 : na = ah.length := by have := hp.1; simp at this; omega
  subst e1
  have e2 : nb = be.length := by have := hr.1; simp at this; omega
  subst e2
  rw [callN_at (by omega), R13.eq]
  have hbig : bigK + 99 ≤ k - 1 := by omega
  generalize hk1 : k - 1 = k1 at hbig
  have hpk : bigP + 20 ≤ k1 := by unfold bigP; unfold bigK at hbig; omega
  have hk20 : 20 ≤ k1 := by unfold bigK at hbig; omega
  have hgk : 1073741824 + 1500 ≤ k1 := by unfold bigK at hbig; omega
  have hbk : bigK ≤ k1 := by omega
  have hawk : ∀ τ, wpA (callN Try.prog k1 25 []) τ fun v _ => v = .bool true := fun τ => awake_spec (by unfold bigP; unfold bigK at hbig; omega)
  clear hbig hk hk1
  have hm8 : bits % 8 < 8 := Nat.mod_lt _ (by omega)
  have htm : (bits : Int).tmod 8 = ((bits % 8 : Nat) : Int) := tmod_nat bits 8
  have ht2 : (n : Int).tmod 2 = ((n % 2 : Nat) : Int) := tmod_nat n 2
  have hw1 : IntKind.i64.wrap ((bits % 8 : Nat) : Int) = ((bits % 8 : Nat) : Int) := wrap64 (by omega) (by omega)
  have hw2 : IntKind.i64.wrap (1 + ((bits % 8 : Nat) : Int)) = ((1 + bits % 8 : Nat) : Int) := by rw [wrap64 (by omega) (by omega)]; omega
  have h1 : 1 ≤ 1 + bits % 8 := by omega
  have h8 : 1 + bits % 8 ≤ 8 := by omega
  generalize hB : 1 + bits % 8 = b at *
  have main : ∀ (top : Nat) (sh : Bool), top < 256 → top % 2 ^ b = 0 → wpA (R13.j_153 (callN Try.prog k1) k1 p (.bool sh) (.int .i64 b) r (.int .u32 n) (Tx s) (.int .u8 top)) σ fun v _ => v = .bool true := by
    intro top sh htop h0
    have htn : (n : Int).tmod 2147483648 = ((n % 2147483648 : Nat) : Int) := tmod_nat n 2147483648
    have hv : n % 2147483648 ≤ 2147483647 := by omega
    generalize hV : n % 2147483648 = v at *
    have hw3 : IntKind.i64.wrap (v : Int) = (v : Int) := wrap64 (by omega) (by omega)
    have hpl2 : (putL top b v).length ≤ 8 := by
      unfold putL
      split
      · simp
      · have := vlq_len (v - (2 ^ b - 1)) 5 (by omega) (by omega)
        simp only [List.length_cons]
        omega
    have hpp := putL_pos top b v
    have gne : ¬ putL top b v = [] := fun e => by rw [e] at hpp; simp at hpp
    simp [R13.j_153, htn, hw3, -Int.natCast_emod]
    refine (put_good (k := k1) htop h1 h8 hv h0 hpk).mono ?_
    rintro _ τ ⟨he, w, rfl, ow⟩
    simp [R13.g_82, R13.g_84, R13.g_92, R13.g_111, R13.g_113, R13.g_128, R13.g_136, R13.g_149, R13.top, len_iff ow.sl, gne, zeros]
    refine aw_join (hp.ext he) ow.sl (hr.ext he) (by omega) fun j τ2 he2 oj => ?_
    have ex2 := he.trans he2
    simp [len_iff (hp.ext ex2)]
    refine (get_spec (full := true) (R := be) (a := ah.length) (first := top) (b := b) (v := v) oj.sl (by simp; omega) h1 h8 hv htop h0 (by simp) (by rw [List.drop_left]; rfl) hk20).mono ?_
    rintro _ τ3 ⟨rfl, rfl⟩
    have hwl : IntKind.i64.wrap ((ah.length : Int) + ((putL top b v).length : Int)) = ((ah.length + (putL top b v).length : Nat) : Int) := wrap64 (by omega) (by omega)
    simp [gotV, len_iff (hp.ext ex2), len_iff (ow.sl.ext he2), hwl, -Int.natCast_add]
    refine (puttext_spec hs hbk).mono ?_
    rintro z τ4 ⟨he4, hz⟩
    rcases hz with ⟨h2, w2, rfl, ow2⟩ | ⟨h2, rfl⟩
    · simp [zeros]
      have ex4 := ex2.trans he4
      have hle := encL_len s
      have htl : (putTextL s sh).length ≤ 40000 := by
        unfold putTextL
        have a1 := putL_le 0 7 s.length
        split
        · have a2 := putL_le 128 7 (encL s).length
          rw [List.length_append]
          omega
        · rw [List.length_append]
          omega
      refine aw_join (hp.ext ex4) ow2.sl (hr.ext ex4) (by omega) fun j2 τ5 he5 oj2 => ?_
      simp [len_iff (hp.ext (ex4.trans he5))]
      refine (gettext_spec (sh := sh) (R := be) (a := ah.length) (s := s) oj2.sl (by simp; omega) h2 (by simp) (by rw [List.drop_left]) hgk).mono ?_
      rintro _ τ6 ⟨he6, rfl⟩
      have hwl2 : IntKind.i64.wrap ((ah.length : Int) + ((putTextL s sh).length : Int)) = ((ah.length + (putTextL s sh).length : Nat) : Int) := wrap64 (by omega) (by omega)
      have ex6 := (ex4.trans he5).trans he6
      simp [eqStr_iff, len_iff (hp.ext ex6), len_iff ((ow2.sl.ext he5).ext he6), hwl2, -Int.natCast_add]
      refine (hawk _).mono ?_
      rintro _ _ rfl
      simp
    · have h2' : (16384 : Int) < (s.length : Int) := by omega
      simp [lenStr_iff, h2, h2']
      refine (hawk _).mono ?_
      rintro _ _ rfl
      simp
  by_cases hb8 : b < 8
  · have hb8' : (b : Int) < 8 := by omega
    have hp2 : 2 ^ b ≤ 2 ^ 7 := Nat.pow_le_pow_right (by omega) (by omega)
    have hpos : 0 < 2 ^ b := Nat.two_pow_pos b
    have hwb : IntKind.u64.wrap (b : Int) = (b : Int) := wrap_u64 (by omega)
    have hb0 : (0 : Int) ≤ (b : Int) := by omega
    have hu8 : IntKind.u8.bits = 8 := rfl
    have hsh : IntKind.u8.wrap (2 ^ min b 8) = ((2 ^ b : Nat) : Int) := by
      rw [Nat.min_eq_left (by omega), show (2 : Int) ^ b = ((2 ^ b : Nat) : Int) by simp, u8_wrap, Nat.mod_eq_of_lt (by omega)]
    have hne : ¬ ((2 ^ b : Nat) : Int) = 0 := by omega
    have hdv : first / 2 ^ b ≤ first := Nat.div_le_self _ _
    have hq : IntKind.u8.wrap ((first : Int).tdiv ((2 ^ b : Nat) : Int)) = ((first / 2 ^ b : Nat) : Int) := by rw [tdiv_nat, u8_wrap, Nat.mod_eq_of_lt (by omega)]
    have hq2 : IntKind.u8.wrap ((first : Int) / ((2 ^ b : Nat) : Int)) = ((first / 2 ^ b : Nat) : Int) := by rw [← Int.natCast_ediv, u8_wrap, Nat.mod_eq_of_lt (by omega)]
    have hmul : first / 2 ^ b * 2 ^ b ≤ first := Nat.div_mul_le_self _ _
    have hm : IntKind.u8.wrap (((first / 2 ^ b : Nat) : Int) * ((2 ^ b : Nat) : Int)) = ((first / 2 ^ b * 2 ^ b : Nat) : Int) := by
      rw [show ((first / 2 ^ b : Nat) : Int) * ((2 ^ b : Nat) : Int) = ((first / 2 ^ b * 2 ^ b : Nat) : Int) by simp, u8_wrap, Nat.mod_eq_of_lt (by omega)]
    have hquo := fun (Q : Value → AW → Prop) (τ : AW) => wpA_quo (P := Try.prog) (t := 5) (k := .u8) (σ := τ) (Q := Q) (a := (first : Int)) (b := ((2 ^ b : Nat) : Int)) hne
    rw [hq] at hquo
    simp [R13.top, ht2, htm, hw1, hw2, hb8, hb8', hwb, hb0, hu8, hsh, hq2, hm, -Int.natCast_emod, -Int.natCast_pow, -Int.natCast_add, -Int.natCast_ediv, -Int.natCast_mul]
    exact main (first / 2 ^ b * 2 ^ b) _ (by omega) (Nat.mul_mod_left _ _)
  · have hb8' : ¬ (b : Int) < 8 := by omega
    simp [R13.top, ht2, htm, hw1, hw2, hb8, hb8', -Int.natCast_emod, -Int.natCast_add]
    exact main 0 _ (by omega) (Nat.zero_mod _)
end
end Go.Proofs.Ytgpddhoidlpcaaa
