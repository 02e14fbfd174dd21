/- Laws of codes. -/
import Derived.Test.YtgpddhoidlpcaaaHuffC
set_option linter.unusedVariables false
set_option linter.unusedSimpArgs false
namespace Go.Proofs.Ytgpddhoidlpcaaa
open Go.Proofs.Ytgpddhoidlpcaaa.Eng
section
variable {σ : AW} {k : Nat} {Q : Value → AW → Prop}
theorem awake3_spec (hk : 1220 ≤ k) : wpA (callN Try.prog k 16 []) σ fun v τ => v = .bool true := by
  rw [callN_at (by omega), R16.eq]
  have e : codeV 256 = .tuple #[.int .u32 1073741823, .int .i64 30, .int .i64 0] := by
    have h : codeOf 256 = (1073741823, 30) := by decide +kernel
    unfold codeV
    rw [if_pos (by omega), show (256 : Int).toNat = 256 from rfl, h]
    rfl
  simp [R16.g_20, R16.g_23, R16.top]
  refine (code_spec (by omega)).mono ?_
  rintro v τ ⟨he, rfl⟩
  rw [e]
  simp [R16.g_20, R16.g_23, R16.top]
theorem law_HuffCodes {sym : Int} (hk : 1230 ≤ k) : wpA (callN Try.prog k 3 [.int .i64 sym]) σ fun v _ => v = .bool true := by
  rw [callN_at (by omega), R3.eq]
  have hbig : 1229 ≤ k - 1 := by omega
  generalize hk1 : k - 1 = k1 at hbig
  have e : ∃ a b c : Int, codeV sym = .tuple #[.int .u32 a, .int .i64 b, .int .i64 c] := by
    unfold codeV
    split <;> exact ⟨_, _, _, rfl⟩
  obtain ⟨a, b, c, e⟩ := e
  simp [R3.g_34, R3.g_36, R3.g_40, R3.top]
  refine (code_spec (by omega)).mono ?_
  rintro v τ ⟨he, rfl⟩
  rw [e]
  simp
  refine (rcode_spec (by omega)).mono ?_
  rintro v υ ⟨hf, rfl⟩
  rw [e]
  simp
  refine (awake3_spec (by omega)).mono ?_
  rintro v _ rfl
  simp [R3.g_34, R3.g_36, R3.g_40, R3.top]
/-- No code begins another. -/
def apartB (p q : Nat × Nat) : Bool := (decide (q.2 < p.2) || decide (q.1 / 2 ^ (q.2 - p.2) ≠ p.1))
theorem sizes_ok : (codesLit.all fun p => decide (5 ≤ p.2) && decide (p.2 ≤ 30) && decide (p.1 < 4294967296)) = true := by decide +kernel
theorem apart_ok : (codesLit.zipIdx.all fun p => codesLit.zipIdx.all fun q => decide (p.2 = q.2) || apartB p.1 q.1) = true := by decide +kernel
theorem code_at {s : Nat} (h : s < 257) : codesLit[s]? = some (codeOf s) := by
  have : s < codesLit.length := by rw [lit_len]; exact h
  unfold codeOf
  rw [List.getD_eq_getElem?_getD, List.getElem?_eq_getElem this]; rfl
theorem size_at {s : Nat} (h : s < 257) : 5 ≤ (codeOf s).2 ∧ (codeOf s).2 ≤ 30 ∧ (codeOf s).1 < 4294967296 := by
  have := List.all_eq_true.1 sizes_ok _ (List.mem_of_getElem? (code_at h))
  simp only [Bool.and_eq_true, decide_eq_true_eq] at this
  exact ⟨this.1.1, this.1.2, this.2⟩
theorem apart_at {s t : Nat} (h : s < 257) (h' : t < 257) (hne : s ≠ t) : (codeOf t).2 < (codeOf s).2 ∨ (codeOf t).1 / 2 ^ ((codeOf t).2 - (codeOf s).2) ≠ (codeOf s).1 := by
  have h1 := List.all_eq_true.1 apart_ok (codeOf s, s) (List.mem_zipIdx_iff_getElem?.2 (code_at h))
  have h2 := List.all_eq_true.1 h1 (codeOf t, t) (List.mem_zipIdx_iff_getElem?.2 (code_at h'))
  simp only [apartB, Bool.or_eq_true, decide_eq_true_eq] at h2
  rcases h2 with h2 | h2 | h2
  · exact absurd h2 hne
  · exact .inl h2
  · exact .inr h2
theorem codeV_nat {s : Nat} (h : s < 257) : codeV (s : Int) = .tuple #[.int .u32 (codeOf s).1, .int .i64 (codeOf s).2, .int .i64 0] := by
  unfold codeV; rw [if_pos (by omega)]; rfl
theorem tmodN (a b : Nat) : (a : Int).tmod (b : Int) = ((a % b : Nat) : Int) := by rw [Int.tmod_eq_emod_of_nonneg (by omega)]; rfl
theorem fdivN (a b : Nat) : (a : Int).fdiv (b : Int) = ((a / b : Nat) : Int) := by
  rw [Int.fdiv_eq_ediv_of_nonneg _ (by omega)]; rfl
theorem law_HuffApart {a b : Nat} (ha : a < 65536) (hb : b < 65536) (hk : 1230 ≤ k) : wpA (callN Try.prog k 4 [.int .u16 a, .int .u16 b]) σ fun v _ => v = .bool true := by
  rw [callN_at (by omega), R4.eq]
  have hbig : 1229 ≤ k - 1 := by omega
  generalize hk1 : k - 1 = k1 at hbig
  have wa : IntKind.i64.wrap (a : Int) = (a : Int) := wrap64 (by omega) (by omega)
  have wb : IntKind.i64.wrap (b : Int) = (b : Int) := wrap64 (by omega) (by omega)
  have ta : (a : Int).tmod 257 = ((a % 257 : Nat) : Int) := tmodN a 257
  have tb : (b : Int).tmod 257 = ((b % 257 : Nat) : Int) := tmodN b 257
  have hs : a % 257 < 257 := Nat.mod_lt _ (by omega)
  have ht : b % 257 < 257 := Nat.mod_lt _ (by omega)
  generalize hS : a % 257 = s at *
  generalize hT : b % 257 = t at *
  simp [R4.g_41, R4.g_43, R4.g_52, R4.g_57, R4.g_79, R4.g_98, R4.g_101, R4.g_104, R4.top, wa, wb, ta, tb]
  refine (code_spec (by omega)).mono ?_
  rintro v τ ⟨he, rfl⟩
  rw [codeV_nat hs]
  simp
  refine (code_spec (by omega)).mono ?_
  rintro v υ ⟨hf, rfl⟩
  rw [codeV_nat ht]
  obtain ⟨s1, s2, s3⟩ := size_at hs
  obtain ⟨t1, t2, t3⟩ := size_at ht
  have n1 : ¬ ((codeOf s).2 : Int) < 5 := by omega
  have n2 : ¬ 30 < ((codeOf s).2 : Int) := by omega
  have n1' : ¬ (codeOf s).2 < 5 := by omega
  have n2' : ¬ 30 < (codeOf s).2 := by omega
  by_cases hst : s = t
  · subst hst
    simp [R4.g_41, R4.g_43, R4.g_52, R4.g_57, R4.g_79, R4.g_98, R4.g_101, R4.g_104, R4.top, n1, n2, n1', n2']
  · have hst' : ¬ (s : Int) = (t : Int) := by omega
    have a1 := apart_at hs ht hst
    have a2 := apart_at ht hs (fun e => hst e.symm)
    have hb32 : IntKind.u32.bits = 32 := rfl
    generalize hp : codeOf s = p at *
    generalize hq : codeOf t = q at *
    obtain ⟨x, n⟩ := p
    obtain ⟨y, m⟩ := q
    simp only at *
    rcases Nat.lt_trichotomy n m with hlt | heq | hgt
    · have w1 : IntKind.i64.wrap ((m : Int) - (n : Int)) = ((m - n : Nat) : Int) := by rw [wrap64 (by omega) (by omega)]; omega
      have w2 : IntKind.u64.wrap ((m - n : Nat) : Int) = ((m - n : Nat) : Int) := wrap_u64 (by omega)
      have c1 : ¬ (m : Int) < (n : Int) := by omega
      have c2 : (n : Int) < (m : Int) := by omega
      have c3 : y / 2 ^ (m - n) ≠ x := by rcases a1 with h | h <;> first | omega | exact h
      have c4 : (y : Int).fdiv (2 ^ (min (m - n) 32)) = ((y / 2 ^ (m - n) : Nat) : Int) := by
        rw [Nat.min_eq_left (by omega), ← fdivN]; simp
      have c5 : ¬ ((y / 2 ^ (m - n) : Nat) : Int) = (x : Int) := by omega
      simp [R4.g_41, R4.g_43, R4.g_52, R4.g_57, R4.g_79, R4.g_98, R4.g_101, R4.g_104, R4.top, n1, n2, n1', n2', hst, hst', w1, w2, c1, c2, hlt, hb32, c4, c5, -Int.natCast_ediv, -Int.natCast_pow, Nat.not_lt.2 (Nat.le_of_lt hlt)]
    · subst heq
      have w1 : IntKind.i64.wrap ((n : Int) - (n : Int)) = ((0 : Nat) : Int) := by rw [Int.sub_self]; decide
      have w2 : IntKind.u64.wrap ((0 : Nat) : Int) = ((0 : Nat) : Int) := by decide
      have c3 : y ≠ x := by rcases a1 with h | h <;> first | omega | simpa using h
      have c5 : ¬ (y : Int) = (x : Int) := by omega
      have c6 : ¬ (x : Int) = (y : Int) := by omega
      have z1 : IntKind.i64.wrap 0 = 0 := by decide
      have z2 : IntKind.u64.wrap 0 = 0 := by decide
      simp [R4.g_41, R4.g_43, R4.g_52, R4.g_57, R4.g_79, R4.g_98, R4.g_101, R4.g_104, R4.top, n1, n2, n1', n2', hst, hst', z1, z2, c5, c6, c3, Ne.symm c3]
    · have w1 : IntKind.i64.wrap ((n : Int) - (m : Int)) = ((n - m : Nat) : Int) := by rw [wrap64 (by omega) (by omega)]; omega
      have w2 : IntKind.u64.wrap ((n - m : Nat) : Int) = ((n - m : Nat) : Int) := wrap_u64 (by omega)
      have c1 : ¬ (n : Int) < (m : Int) := by omega
      have c2 : (m : Int) < (n : Int) := by omega
      have c3 : x / 2 ^ (n - m) ≠ y := by rcases a2 with h | h <;> first | omega | exact h
      have c4 : (x : Int).fdiv (2 ^ (min (n - m) 32)) = ((x / 2 ^ (n - m) : Nat) : Int) := by
        rw [Nat.min_eq_left (by omega), ← fdivN]; simp
      have c5 : ¬ ((x / 2 ^ (n - m) : Nat) : Int) = (y : Int) := by omega
      simp [R4.g_41, R4.g_43, R4.g_52, R4.g_57, R4.g_79, R4.g_98, R4.g_101, R4.g_104, R4.top, n1, n2, n1', n2', hst, hst', w1, w2, c1, c2, hgt, hb32, c4, c5, -Int.natCast_ediv, -Int.natCast_pow, Nat.not_lt.2 (Nat.le_of_lt hgt)]
end
end Go.Proofs.Ytgpddhoidlpcaaa
