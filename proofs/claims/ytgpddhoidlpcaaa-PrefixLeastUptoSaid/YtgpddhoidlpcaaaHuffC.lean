/- Plain laws of what Huff computes: one code. -/
import Derived.Test.YtgpddhoidlpcaaaHuffB
set_option linter.unusedVariables false
set_option linter.unusedSimpArgs false
namespace Go.Proofs.Ytgpddhoidlpcaaa
open Go.Proofs.Ytgpddhoidlpcaaa.Eng
def codesLit : List (Nat × Nat) := [(8184, 13), (8388568, 23), (268435426, 28), (268435427, 28), (268435428, 28), (268435429, 28), (268435430, 28), (268435431, 28), (268435432, 28), (16777194, 24), (1073741820, 30), (268435433, 28), (268435434, 28), (1073741821, 30), (268435435, 28), (268435436, 28), (268435437, 28), (268435438, 28), (268435439, 28), (268435440, 28), (268435441, 28), (268435442, 28), (1073741822, 30), (268435443, 28), (268435444, 28), (268435445, 28), (268435446, 28), (268435447, 28), (268435448, 28), (268435449, 28), (268435450, 28), (268435451, 28), (20, 6), (1016, 10), (1017, 10), (4090, 12), (8185, 13), (21, 6), (248, 8), (2042, 11), (1018, 10), (1019, 10), (249, 8), (2043, 11), (250, 8), (22, 6), (23, 6), (24, 6), (0, 5), (1, 5), (2, 5), (25, 6), (26, 6), (27, 6), (28, 6), (29, 6), (30, 6), (31, 6), (92, 7), (251, 8), (32764, 15), (32, 6), (4091, 12), (1020, 10), (8186, 13), (33, 6), (93, 7), (94, 7), (95, 7), (96, 7), (97, 7), (98, 7), (99, 7), (100, 7), (101, 7), (102, 7), (103, 7), (104, 7), (105, 7), (106, 7), (107, 7), (108, 7), (109, 7), (110, 7), (111, 7), (112, 7), (113, 7), (114, 7), (252, 8), (115, 7), (253, 8), (8187, 13), (524272, 19), (8188, 13), (16380, 14), (34, 6), (32765, 15), (3, 5), (35, 6), (4, 5), (36, 6), (5, 5), (37, 6), (38, 6), (39, 6), (6, 5), (116, 7), (117, 7), (40, 6), (41, 6), (42, 6), (7, 5), (43, 6), (118, 7), (44, 6), (8, 5), (9, 5), (45, 6), (119, 7), (120, 7), (121, 7), (122, 7), (123, 7), (32766, 15), (2044, 11), (16381, 14), (8189, 13), (268435452, 28), (1048550, 20), (4194258, 22), (1048551, 20), (1048552, 20), (4194259, 22), (4194260, 22), (4194261, 22), (8388569, 23), (4194262, 22), (8388570, 23), (8388571, 23), (8388572, 23), (8388573, 23), (8388574, 23), (16777195, 24), (8388575, 23), (16777196, 24), (16777197, 24), (4194263, 22), (8388576, 23), (16777198, 24), (8388577, 23), (8388578, 23), (8388579, 23), (8388580, 23), (2097116, 21), (4194264, 22), (8388581, 23), (4194265, 22), (8388582, 23), (8388583, 23), (16777199, 24), (4194266, 22), (2097117, 21), (1048553, 20), (4194267, 22), (4194268, 22), (8388584, 23), (8388585, 23), (2097118, 21), (8388586, 23), (4194269, 22), (4194270, 22), (16777200, 24), (2097119, 21), (4194271, 22), (8388587, 23), (8388588, 23), (2097120, 21), (2097121, 21), (4194272, 22), (2097122, 21), (8388589, 23), (4194273, 22), (8388590, 23), (8388591, 23), (1048554, 20), (4194274, 22), (4194275, 22), (4194276, 22), (8388592, 23), (4194277, 22), (4194278, 22), (8388593, 23), (67108832, 26), (67108833, 26), (1048555, 20), (524273, 19), (4194279, 22), (8388594, 23), (4194280, 22), (33554412, 25), (67108834, 26), (67108835, 26), (67108836, 26), (134217694, 27), (134217695, 27), (67108837, 26), (16777201, 24), (33554413, 25), (524274, 19), (2097123, 21), (67108838, 26), (134217696, 27), (134217697, 27), (67108839, 26), (134217698, 27), (16777202, 24), (2097124, 21), (2097125, 21), (67108840, 26), (67108841, 26), (268435453, 28), (134217699, 27), (134217700, 27), (134217701, 27), (1048556, 20), (16777203, 24), (1048557, 20), (2097126, 21), (4194281, 22), (2097127, 21), (2097128, 21), (8388595, 23), (4194282, 22), (4194283, 22), (33554414, 25), (33554415, 25), (16777204, 24), (16777205, 24), (67108842, 26), (8388596, 23), (67108843, 26), (134217702, 27), (67108844, 26), (67108845, 26), (134217703, 27), (134217704, 27), (134217705, 27), (134217706, 27), (134217707, 27), (268435454, 28), (134217708, 27), (134217709, 27), (134217710, 27), (134217711, 27), (134217712, 27), (67108846, 26), (1073741823, 30)]

set_option maxRecDepth 100000 in
theorem codes_lit : codesL = codesLit := by decide +kernel
theorem lit_len : codesLit.length = 257 := by decide +kernel
def codeOf (s : Nat) : Nat × Nat := codesLit.getD s (0, 0)
/-- Each group's symbols have the numbers one behind the other. -/
theorem groups_codes : ∀ i : Fin 21, (((gr i.1).2.zipIdx).all fun p => decide (codeOf p.1 = (first i.1 + p.2, (gr i.1).1))) = true := by decide +kernel
theorem all_there : ((List.range 257).all fun s => (List.range 21).any fun i => (gr i).2.contains s) = true := by decide +kernel
def codeV (sym : Int) : Value := if 0 ≤ sym ∧ sym ≤ 256 then .tuple #[.int .u32 (codeOf sym.toNat).1, .int .i64 (codeOf sym.toNat).2, .int .i64 0] else .tuple #[.int .u32 0, .int .i64 0, .int .i64 1]
theorem wpA_indexN {σ : AW} {Q : Value → AW → Prop} {len z n : Nat} {cs : Array Value} {k : IntKind} {i : Nat} (hi : i < len) : wpA (indexA len z (some n) (.agg cs) (.int k (i : Nat))) σ Q ↔ Q (.agg ((cs.toList.drop (i * z)).take n).toArray) σ := by
  refine wpA_iff ?_
  simp only [indexA, partA, Int.toNat_natCast]
  rw [if_pos ⟨by omega, by omega⟩]
  rfl
theorem arr_at {a : List (Nat × Nat)} {s : Nat} {p : Nat × Nat} (h : a[s]? = some p) : ((arrC a).drop (s * 2)).take 2 = pairC p := by
  unfold arrC
  rw [drop_flatMap pairC_len]
  have hlt : s < a.length := by
    rcases Nat.lt_or_ge s a.length with g | g
    · exact g
    · rw [List.getElem?_eq_none g] at h; cases h
  rw [List.drop_eq_getElem_cons hlt]
  rw [List.getElem?_eq_getElem hlt] at h
  injection h with h
  rw [h]
  simp [pairC]
section
variable {σ : AW} {k : Nat} {Q : Value → AW → Prop}
theorem code_spec {sym : Int} (hk : 1210 ≤ k) : wpA (callN Try.prog k 14 [.int .i64 sym]) σ fun v τ => Ext σ τ ∧ v = codeV sym := by
  rw [callN_at (by omega), R14.eq]
  by_cases a1 : sym < 0
  · have e : codeV sym = .tuple #[.int .u32 0, .int .i64 0, .int .i64 1] := by unfold codeV; rw [if_neg (by omega)]
    rw [e]
    simp [R14.g_25, R14.top, a1]
    exact Ext.refl _
  by_cases a2 : 256 < sym
  · have e : codeV sym = .tuple #[.int .u32 0, .int .i64 0, .int .i64 1] := by unfold codeV; rw [if_neg (by omega)]
    rw [e]
    simp [R14.g_25, R14.top, a1, a2]
    exact Ext.refl _
  obtain ⟨s, rfl⟩ : ∃ s : Nat, sym = s := ⟨sym.toNat, by omega⟩
  have hs : codesLit[s]? = some (codeOf s) := by
    have : s < codesLit.length := by rw [lit_len]; omega
    unfold codeOf
    rw [List.getD_eq_getElem?_getD, List.getElem?_eq_getElem this]; rfl
  have e : codeV (s : Int) = .tuple #[.int .u32 (codeOf s).1, .int .i64 (codeOf s).2, .int .i64 0] := by unfold codeV; rw [if_pos (by omega)]; rfl
  rw [e]
  have hat := arr_at hs
  have hix := fun (τ : AW) (Q : Value → AW → Prop) => wpA_indexN (σ := τ) (Q := Q) (len := 257) (z := 2) (n := 2) (cs := (arrC codesL).toArray) (k := .i64) (i := s) (by omega)
  rw [codes_lit] at hix
  simp only [hat, pairC] at hix
  simp [R14.g_25, R14.top, a1, a2]
  refine (codes_spec (by omega)).mono ?_
  rintro v τ ⟨he, rfl⟩
  rw [codes_lit]
  refine (hix τ _).2 ?_
  simp
  exact (he.trans (Ext.push _ _)).kept (Nat.le_refl _) |>.put he.1 _
theorem gc {i j s : Nat} (hi : i < 21) (hs : (gr i).2[j]? = some s) : codeOf s = (first i + j, (gr i).1) ∧ s < 257 := by
  have h1 := List.all_eq_true.1 (groups_codes ⟨i, hi⟩) (s, j) (List.mem_zipIdx_iff_getElem?.2 hs)
  have h2 := List.all_eq_true.1 (start_ok ⟨i, hi⟩).2.2.2.2 s (List.mem_of_getElem? hs)
  exact ⟨by simpa using h1, by simpa using h2⟩
theorem wrap_u64 {n : Nat} (h : n < 18446744073709551616) : IntKind.u64.wrap (n : Int) = (n : Int) := wrap_id (by simp [Lit.wf, IntKind.min, IntKind.max, IntKind.signed, IntKind.bits]; omega)
def refV (sym : Int) : Value := codeV sym
/-- One group, as the reference goes through it. -/
theorem rinner {sym : Int} {i : Nat} {k1 : Nat} {v : Value} {s : Value} {rows : List Rw} {rec : Value → Value → Value → AM Value} {B : Nat} {τ : AW} {R : Value → AW → Prop} (hi : i < 21) (hk : 1100 ≤ k1) (hr : rows[i]? = some ⟨(gr i).1, s⟩) (hv : Sl τ v 2 21 (rows.flatMap Rw.cs)) (hs : Sl τ s 1 (gr i).2.length ((gr i).2.map I64))
    (hfound : 0 ≤ sym → sym ≤ 256 → R (codeV sym) τ) (hnext : (∀ a ∈ (gr i).2, (a : Int) ≠ sym) → wpA (rec (.int .u64 ((start (i + 1)).1 : Nat)) (.int .i64 ((start (i + 1)).2 : Nat)) (.int .i64 ((i + 1 : Nat) : Int))) τ R) :
    wpA (loop2 (R15.b_62 (callN Try.prog k1) k1 rec (.int .i64 sym) (.int .i64 (gr i).1) v (.int .i64 i)) k1 (.int .u64 (first i)) (.int .i64 0)) τ R := by
  obtain ⟨k1', k2', k3', k4', k5'⟩ := start_ok ⟨i, hi⟩
  simp only at k1' k2' k3' k4' k5'
  have hsm : (gr i).2.length ≤ 1000 := G_small _ (List.mem_of_getElem? (gr_at hi))
  refine aw_loop2 (fun r u w τ' => ∃ j : Nat, u = .int .u64 ((first i + j : Nat) : Int) ∧ w = .int .i64 j ∧ j ≤ (gr i).2.length ∧ r = (gr i).2.length - j ∧ τ' = τ ∧ ∀ j' a, j' < j → (gr i).2[j']? = some a → (a : Int) ≠ sym) ?_ k1 (gr i).2.length _ _ τ ⟨0, rfl, rfl, by omega, rfl, rfl, fun j' a h => by omega⟩ (by omega)
  rintro r rec1 u w τ' ⟨j, rfl, rfl, hj, rfl, rfl, hno⟩ hrec
  have hat := atF_all (σ := τ') (k := .i64) (off := 1) (w := s) Rw.len hv hr rfl
  by_cases hlt : j < (gr i).2.length
  · obtain ⟨a, ha⟩ : ∃ a, (gr i).2[j]? = some a := ⟨_, List.getElem?_eq_getElem hlt⟩
    obtain ⟨c1, c2⟩ := gc hi ha
    have hwj : IntKind.i64.wrap ((j : Int) + 1) = ((j + 1 : Nat) : Int) := wrap64 (by omega) (by omega)
    have hwn : IntKind.u64.wrap (((first i + j : Nat) : Int) + 1) = ((first i + (j + 1) : Nat) : Int) := by rw [show ((first i + j : Nat) : Int) + 1 = ((first i + (j + 1) : Nat) : Int) by omega]; exact wrap_u64 (by omega)
    by_cases he : (a : Int) = sym
    · subst he
      have hw3 : IntKind.u32.wrap ((first i + j : Nat) : Int) = ((first i + j : Nat) : Int) := wrap_u32 (by omega)
      have hcv : codeV (a : Int) = .tuple #[.int .u32 ((first i + j : Nat) : Int), .int .i64 (gr i).1, .int .i64 0] := by
        unfold codeV
        rw [if_pos (by omega), Int.toNat_natCast, c1]
      have := hfound (by omega) (by omega)
      rw [hcv] at this
      simp [R15.b_62, ↓hat, len_iff hs, hlt, ↓at1_all hs ha, I64, hw3, -Int.natCast_add]
      exact this
    · simp [R15.b_62, ↓hat, len_iff hs, hlt, ↓at1_all hs ha, I64, he, hwj, hwn, -Int.natCast_add]
      refine hrec ((gr i).2.length - (j + 1)) _ _ _ (by omega) ⟨j + 1, rfl, rfl, by omega, rfl, rfl, fun j' a' h1 h2 => ?_⟩
      rcases Nat.lt_or_ge j' j with g | g
      · exact hno j' a' g h2
      · have e : j' = j := by omega
        subst e
        rw [ha] at h2
        injection h2 with h2
        rw [← h2]; exact he
  · have e : j = (gr i).2.length := by omega
    subst e
    have hwi : IntKind.i64.wrap ((i : Int) + 1) = ((i + 1 : Nat) : Int) := wrap64 (by omega) (by omega)
    simp [R15.b_62, ↓hat, len_iff hs, hwi, -Int.natCast_add]
    refine hnext fun a ha => ?_
    obtain ⟨j', hj', rfl⟩ := List.getElem_of_mem ha
    exact hno j' _ hj' (List.getElem?_eq_getElem hj')
theorem rcode_spec {sym : Int} (hk : 1210 ≤ k) : wpA (callN Try.prog k 15 [.int .i64 sym]) σ fun v τ => Ext σ τ ∧ v = codeV sym := by
  rw [callN_at (by omega), R15.eq]
  have hbig : 1209 ≤ k - 1 := by omega
  generalize hk1 : k - 1 = k1 at hbig
  simp [R15.top]
  refine (rows_spec (by omega)).mono ?_
  rintro v τ ⟨he, rows, hG⟩
  have hv := hG.2.1.sl
  refine aw_loop3 (fun r u w x τ' => ∃ i : Nat, u = .int .u64 ((start i).1 : Nat) ∧ w = .int .i64 ((start i).2 : Nat) ∧ x = .int .i64 i ∧ i ≤ 21 ∧ r = 21 - i ∧ τ' = τ ∧ ∀ i' a, i' < i → a ∈ (gr i').2 → (a : Int) ≠ sym) ?_ k1 21 _ _ _ τ ⟨0, rfl, rfl, rfl, by omega, rfl, rfl, fun i' a h => by omega⟩ (by omega)
  rintro r rec u w x τ' ⟨i, rfl, rfl, rfl, hi, rfl, rfl, hno⟩ hrec
  by_cases hlt : i < 21
  · have hlt' : (i : Int) < 21 := by omega
    obtain ⟨k1', k2', k3', k4', k5'⟩ := start_ok ⟨i, hlt⟩
    simp only at k1' k2' k3' k4' k5'
    obtain ⟨s, hr, hs⟩ := hG.2.2 i (gr i) (gr_at hlt)
    have hat := atF_all (σ := τ') (k := .i64) (off := 0) (w := .int .i64 (gr i).1) Rw.len hv hr rfl
    have hfi : first i = (start i).1 * 2 ^ ((gr i).1 - (start i).2) := rfl
    simp [R15.b_87, len_iff hv, hlt']
    refine aw_loop2 (fun r u w τ2 => ∃ d : Nat, (start i).2 + d ≤ (gr i).1 ∧ u = .int .u64 (((start i).1 * 2 ^ d : Nat) : Int) ∧ w = .int .i64 (((start i).2 + d : Nat) : Int) ∧ r = 31 - d ∧ τ2 = τ') ?_ k1 31 _ _ τ' ⟨0, by omega, by simp, rfl, rfl, rfl⟩ (by omega)
    rintro r2 rec2 u w τ2 ⟨d, hd, rfl, rfl, rfl, rfl⟩ hrec2
    by_cases hlt2 : (start i).2 + d < (gr i).1
    · have hlt2' : (((start i).2 + d : Nat) : Int) < ((gr i).1 : Int) := by omega
      have hpow : (start i).1 * 2 ^ d ≤ first i := by rw [hfi]; exact Nat.mul_le_mul_left _ (Nat.pow_le_pow_right (by omega) (by omega))
      have hw1 : IntKind.u64.wrap ((((start i).1 * 2 ^ d : Nat) : Int) * 2) = (((start i).1 * 2 ^ (d + 1) : Nat) : Int) := by
        have e : (((start i).1 * 2 ^ d : Nat) : Int) * 2 = (((start i).1 * 2 ^ (d + 1) : Nat) : Int) := by rw [Nat.pow_succ, ← Nat.mul_assoc]; omega
        rw [e]
        exact wrap_u64 (by rw [Nat.pow_succ, ← Nat.mul_assoc]; omega)
      have hw2 : IntKind.i64.wrap ((((start i).2 + d : Nat) : Int) + 1) = (((start i).2 + (d + 1) : Nat) : Int) := by rw [wrap64 (by omega) (by omega)]; omega
      simp only [R15.b_81]
      simp [↓hat, hlt2', hw1, hw2, -Int.natCast_add, -Int.natCast_mul, -Int.natCast_pow]
      exact hrec2 (31 - (d + 1)) _ _ _ (by omega) ⟨d + 1, by omega, rfl, rfl, rfl, rfl⟩
    · have hde : (start i).2 + d = (gr i).1 := by omega
      have hd2 : d = (gr i).1 - (start i).2 := by omega
      have hlt2' : ¬ (((start i).2 + d : Nat) : Int) < ((gr i).1 : Int) := by omega
      have hin := rinner (sym := sym) (i := i) (k1 := k1) (v := v) (s := s) (rows := rows) (rec := rec) (τ := τ2) (B := 0) (R := fun v τ => Ext σ τ ∧ v = codeV sym) hlt (by omega) hr hv hs.sl (fun _ _ => ⟨he, rfl⟩) (fun hno2 => hrec (21 - (i + 1)) _ _ _ _ (by omega) ⟨i + 1, rfl, rfl, rfl, by omega, rfl, rfl, fun i' a h1 h2 => by
        rcases Nat.lt_or_ge i' i with g | g
        · exact hno i' a g h2
        · have e : i' = i := by omega
          subst e
          exact hno2 a h2⟩)
      simp only [R15.b_81]
      rw [hfi, ← hd2, ← hde] at hin
      simp [↓hat, hlt2', -Int.natCast_add, -Int.natCast_mul, -Int.natCast_pow]
      exact hin
  · have e : i = 21 := by omega
    subst e
    have hc : codeV sym = .tuple #[.int .u32 0, .int .i64 0, .int .i64 1] := by
      unfold codeV
      refine if_neg fun h => ?_
      obtain ⟨s, rfl⟩ : ∃ s : Nat, sym = s := ⟨sym.toNat, by omega⟩
      have h1 := List.all_eq_true.1 all_there s (List.mem_range.2 (by omega))
      obtain ⟨i, h2, h3⟩ := List.any_eq_true.1 h1
      exact hno i s (List.mem_range.1 h2) (by simpa using h3) rfl
    rw [hc]
    simp [R15.b_87, len_iff hv]
    exact he
end
end Go.Proofs.Ytgpddhoidlpcaaa
