/- The reference's Decode. -/
import Derived.Test.YtgpddhoidlpcaaaHuffQ
set_option linter.unusedVariables false
set_option linter.unusedSimpArgs false
namespace Go.Proofs.Ytgpddhoidlpcaaa
open Go.Proofs.Ytgpddhoidlpcaaa.Eng
structure Sp where
  bits : Nat
  first : Nat
  s : Value
def Sp.cs (r : Sp) : List Value := [.int .i64 r.bits, .int .u64 r.first, r.s]
theorem Sp.len (r : Sp) : r.cs.length = 3 := rfl
def SpAt (τ : AW) (sp : List Sp) (i : Nat) : Prop := ∃ s, sp[i]? = some ⟨(gr i).1, first i, s⟩ ∧ Sl τ s 1 (gr i).2.length ((gr i).2.map I64)
def Sps (τ : AW) (v : Value) (sp : List Sp) : Prop := Sl τ v 3 21 (sp.flatMap Sp.cs) ∧ ∀ i, i < 21 → SpAt τ sp i
theorem Sps.ext {σ τ : AW} {v : Value} {sp : List Sp} (h : Sps σ v sp) (k : Ext σ τ) : Sps τ v sp := ⟨h.1.ext k, fun i hi => by
  obtain ⟨s, h1, h2⟩ := h.2 i hi
  exact ⟨s, h1, h2.ext k⟩⟩
section
variable {σ : AW} {k : Nat} {Q : Value → AW → Prop}
theorem spans_spec (hk : 200 ≤ k) : wpA (callN Try.prog k 36 []) σ fun v τ => Ext σ τ ∧ ∃ sp, Sps τ v sp := by
  rw [callN_at (by omega), R36.eq]
  have hbig : 199 ≤ k - 1 := by omega
  generalize hk1 : k - 1 = k1 at hbig
  simp [R36.top]
  refine (rows_spec (by omega)).mono ?_
  rintro v τ ⟨he, rows, hG⟩
  have hen := he.1
  refine aw_loop4 (fun r u c bs x υ => ∃ (i : Nat) (sp : List Sp), c = .int .u64 ((start i).1 : Nat) ∧ bs = .int .i64 ((start i).2 : Nat) ∧ x = .int .i64 i ∧ i ≤ 21 ∧ r = 21 - i ∧ Ext τ υ ∧ sp.length = i ∧ Own τ.next υ u 79 3 i (sp.flatMap Sp.cs) ∧ ∀ j, j < i → SpAt τ sp j) ?_ k1 21 _ _ _ _ τ ⟨0, [], rfl, rfl, rfl, by omega, rfl, Ext.refl _, rfl, by simpa using Own.nil _ _ _ _, fun j h => by omega⟩ (by omega)
  rintro r rec u c bs x υ ⟨i, sp, rfl, rfl, rfl, hi, rfl, ex, hsl, own, hat⟩ hrec
  have hv := (hG.2.1.sl).ext ex
  by_cases hlt : i < 21
  · have hlt' : (i : Int) < 21 := by omega
    obtain ⟨k1', k2', k3', k4', k5'⟩ := start_ok ⟨i, hlt⟩
    simp only at k1' k2' k3' k4' k5'
    obtain ⟨s, hr, hs⟩ := hG.2.2 i (gr i) (gr_at hlt)
    have at0 := fun (σ : AW) (h : Sl σ v 2 21 (rows.flatMap Rw.cs)) => atF_all (σ := σ) (k := .i64) (off := 0) (w := .int .i64 (gr i).1) Rw.len h hr rfl
    have at1 := fun (σ : AW) (h : Sl σ v 2 21 (rows.flatMap Rw.cs)) => atF_all (σ := σ) (k := .i64) (off := 1) (w := s) Rw.len h hr rfl
    have hfi : first i = (start i).1 * 2 ^ ((gr i).1 - (start i).2) := rfl
    have hsU := hs.sl.ext ex
    obtain ⟨sa, sc, hsv⟩ := hs.sl.form
    have hsc : s.cells = #[s] ∧ isCell s = true := by rw [hsv]; exact ⟨rfl, rfl⟩
    have hsm : (gr i).2.length ≤ 1000 := G_small _ (List.mem_of_getElem? (gr_at hlt))
    simp [R36.b_71, len_iff hv, hlt']
    refine aw_loop2 (fun r u2 w τ2 => ∃ d : Nat, (start i).2 + d ≤ (gr i).1 ∧ u2 = .int .u64 (((start i).1 * 2 ^ d : Nat) : Int) ∧ w = .int .i64 (((start i).2 + d : Nat) : Int) ∧ r = 31 - d ∧ τ2 = υ) ?_ k1 31 _ _ υ ⟨0, by omega, by simp, rfl, rfl, rfl⟩ (by omega)
    rintro r2 rec2 u2 w τ2 ⟨d, hd, rfl, rfl, rfl, rfl⟩ hrec2
    by_cases hlt2 : (start i).2 + d < (gr i).1
    · have hlt2' : (((start i).2 + d : Nat) : Int) < ((gr i).1 : Int) := by omega
      have hpow : (start i).1 * 2 ^ d ≤ first i := by rw [hfi]; exact Nat.mul_le_mul_left _ (Nat.pow_le_pow_right (by omega) (by omega))
      have hw1 : IntKind.u64.wrap ((((start i).1 * 2 ^ d : Nat) : Int) * 2) = (((start i).1 * 2 ^ (d + 1) : Nat) : Int) := by
        have e : (((start i).1 * 2 ^ d : Nat) : Int) * 2 = (((start i).1 * 2 ^ (d + 1) : Nat) : Int) := by rw [Nat.pow_succ, ← Nat.mul_assoc]; omega
        rw [e]
        exact wrap_u64 (by rw [Nat.pow_succ, ← Nat.mul_assoc]; omega)
      have hw2 : IntKind.i64.wrap ((((start i).2 + d : Nat) : Int) + 1) = (((start i).2 + (d + 1) : Nat) : Int) := by rw [wrap64 (by omega) (by omega)]; omega
      simp only [R36.b_65]
      simp [↓(at0 _ hv), hlt2', hw1, hw2, -Int.natCast_add, -Int.natCast_mul, -Int.natCast_pow]
      exact hrec2 (31 - (d + 1)) _ _ _ (by omega) ⟨d + 1, by omega, rfl, rfl, rfl, rfl⟩
    · have hde : (start i).2 + d = (gr i).1 := by omega
      have hd2 : d = (gr i).1 - (start i).2 := by omega
      have hlt2' : ¬ (((start i).2 + d : Nat) : Int) < ((gr i).1 : Int) := by omega
      rw [hde, hd2, ← hfi]
      have exn := ex.1
      have hwl : IntKind.u64.wrap ((gr i).2.length : Int) = ((gr i).2.length : Int) := wrap_u64 (by omega)
      have hwf : IntKind.u64.wrap ((first i : Int) + ((gr i).2.length : Int)) = (((start (i + 1)).1 : Nat) : Int) := by
        rw [show (first i : Int) + ((gr i).2.length : Int) = ((first i + (gr i).2.length : Nat) : Int) by omega]
        exact wrap_u64 (by omega)
      have hwi : IntKind.i64.wrap ((i : Int) + 1) = ((i + 1 : Nat) : Int) := wrap64 (by omega) (by omega)
      have hnl : ¬ ((gr i).1 : Int) < ((gr i).1 : Int) := by omega
      have hcs : [Value.int .i64 (gr i).1, .int .u64 (first i), s] = Sp.cs ⟨(gr i).1, first i, s⟩ := rfl
      simp [R36.b_65, ↓(at0 _ hv), ↓(at1 _ hv), hnl, hsc.1, hsc.2, zeros, List.range_succ, -Int.natCast_add, -Int.natCast_mul, -Int.natCast_pow]
      rw [hcs]
      refine aw_appz own (us := Sp.cs ⟨(gr i).1, first i, s⟩) rfl (by simp [Sp.cs, hsc.2]) (by omega) (by omega) (by omega) fun w τ3 h3 h4 => ?_
      have ex3 : Ext τ τ3 := Kept.ext (Kept.trans ex h4)
      simp [↓(at1 _ ((hG.2.1.sl).ext ex3)), len_iff (hs.sl.ext ex3), hwl, hwf, hwi, -Int.natCast_add]
      refine hrec (21 - (i + 1)) _ _ _ _ _ (by omega) ⟨i + 1, sp ++ [⟨(gr i).1, first i, s⟩], rfl, rfl, rfl, by omega, rfl, ex3, by simp [hsl], by simpa using h3, fun j hj => ?_⟩
      rcases Nat.lt_or_ge j i with g | g
      · obtain ⟨s', p1, p2⟩ := hat j g
        exact ⟨s', by rw [List.getElem?_append_left (by omega)]; exact p1, p2⟩
      · have e : j = i := by omega
        subst e
        exact ⟨s, by rw [List.getElem?_append_right (by omega), hsl]; simp, hs.sl⟩
  · have e : i = 21 := by omega
    subst e
    simp [R36.b_71, len_iff hv]
    refine ⟨he.trans ex, sp, own.sl, fun j hj => ?_⟩
    obtain ⟨s', p1, p2⟩ := hat j hj
    exact ⟨s', p1, p2.ext ex⟩
def symI (p : List Bool) : Int := match look p with
  | some s => s
  | none => -1
theorem symbol_spec {v : Value} {sp : List Sp} {p : List Bool} {g : Nat} (hv : Sps σ v sp) (hp : Pend p g) (hg : g < 18446744073709551616) (hk : 100 ≤ k) : wpA (callN Try.prog k 37 [v, .int .u64 g, .int .i64 p.length]) σ fun u τ => u = .int .i64 (symI p) ∧ τ = σ := by
  rw [callN_at (by omega), R37.eq]
  have hbig : 99 ≤ k - 1 := by omega
  generalize hk1 : k - 1 = k1 at hbig
  simp [R37.top]
  refine aw_loop1 (fun r x τ' => ∃ i : Nat, x = .int .i64 i ∧ i ≤ 21 ∧ r = 21 - i ∧ τ' = σ ∧ ∀ i', i' < i → Miss i' g p.length) ?_ k1 21 _ σ ⟨0, rfl, by omega, rfl, rfl, fun i' h => by omega⟩ (by omega)
  rintro r rec x τ' ⟨i, rfl, hi, rfl, rfl, hmi⟩ hrec
  have hsl := hv.1
  by_cases hlt : i < 21
  · have hlt' : (i : Int) < 21 := by omega
    obtain ⟨k1', k2', k3', k4', k5'⟩ := start_ok ⟨i, hlt⟩
    simp only at k1' k2' k3' k4' k5'
    obtain ⟨s, hr, hs⟩ := hv.2 i hlt
    have at0 := atF_all (σ := τ') (k := .i64) (off := 0) (w := .int .i64 (gr i).1) Sp.len hsl hr rfl
    have at1 := atF_all (σ := τ') (k := .i64) (off := 1) (w := .int .u64 (first i)) Sp.len hsl hr rfl
    have at2 := atF_all (σ := τ') (k := .i64) (off := 2) (w := s) Sp.len hsl hr rfl
    have hsm : (gr i).2.length ≤ 1000 := G_small _ (List.mem_of_getElem? (gr_at hlt))
    have hwi : IntKind.i64.wrap ((i : Int) + 1) = ((i + 1 : Nat) : Int) := wrap64 (by omega) (by omega)
    have hwl : IntKind.u64.wrap ((gr i).2.length : Int) = ((gr i).2.length : Int) := wrap_u64 (by omega)
    have hwf : IntKind.u64.wrap ((first i : Int) + ((gr i).2.length : Int)) = ((first i + (gr i).2.length : Nat) : Int) := by rw [show (first i : Int) + ((gr i).2.length : Int) = ((first i + (gr i).2.length : Nat) : Int) by omega]; exact wrap_u64 (by omega)
    have hmiss : Miss i g p.length → wpA (rec (.int .i64 ((i + 1 : Nat) : Int))) τ' fun u τ => u = .int .i64 (symI p) ∧ τ = τ' := fun hM => hrec (21 - (i + 1)) _ _ (by omega) ⟨i + 1, rfl, by omega, rfl, rfl, fun i' h' => by
      rcases Nat.lt_or_ge i' i with c | c
      · exact hmi i' c
      · have : i' = i := by omega
        rw [this]; exact hM⟩
    by_cases heq : (gr i).1 = p.length
    · have heqs : p.length = (gr i).1 := heq.symm
      by_cases hge : first i ≤ g
      · have hge' : (first i : Int) ≤ (g : Int) := by omega
        by_cases hin : g < first i + (gr i).2.length
        · have hin' : (g : Int) < ((first i + (gr i).2.length : Nat) : Int) := by omega
          obtain ⟨y, y1, y2, y3⟩ := look_hit hp hlt heq hge hin
          have hws : IntKind.u64.wrap ((g : Int) - (first i : Int)) = ((g - first i : Nat) : Int) := by rw [show (g : Int) - (first i : Int) = ((g - first i : Nat) : Int) by omega]; exact wrap_u64 (by omega)
          have e : symI p = (y : Int) := by unfold symI; rw [y3]
          rw [e]
          simp [R37.b_87, R37.d_28, len_iff hsl, hlt', ↓at0, ↓at1, ↓at2, heqs, hge, hge', hin, hin', hws, len_iff hs, ↓at1_all hs y1, I64, hwl, hwf, -Int.natCast_add]
        · have hin' : ¬ (g : Int) < ((first i + (gr i).2.length : Nat) : Int) := by omega
          simp [R37.b_87, R37.d_28, len_iff hsl, hlt', ↓at0, ↓at1, ↓at2, heqs, hge, hge', hin, hin', len_iff hs, hwl, hwf, hwi, -Int.natCast_add]
          exact hmiss fun _ => by omega
      · have hge' : ¬ (first i : Int) ≤ (g : Int) := by omega
        simp [R37.b_87, R37.d_28, len_iff hsl, hlt', ↓at0, ↓at1, ↓at2, heqs, hge, hge', len_iff hs, hwl, hwf, hwi, -Int.natCast_add]
        exact hmiss fun _ => by omega
    · have heq' : ¬ ((gr i).1 : Int) = (p.length : Int) := by omega
      simp [R37.b_87, R37.d_28, len_iff hsl, hlt', ↓at0, ↓at1, ↓at2, heq, heq', len_iff hs, hwl, hwf, hwi, -Int.natCast_add]
      exact hmiss fun h => absurd h heq
  · have e : i = 21 := by omega
    subst e
    have e : symI p = -1 := by unfold symI; rw [look_miss hp hmi]
    rw [e]
    simp [R37.b_87, len_iff hsl]
end
end Go.Proofs.Ytgpddhoidlpcaaa
