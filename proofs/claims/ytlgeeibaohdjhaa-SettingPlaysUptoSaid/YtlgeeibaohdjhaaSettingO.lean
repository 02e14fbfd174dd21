/- In one list or in several. -/
import Derived.Test.YtlgeeibaohdjhaaSettingN
set_option linter.unusedVariables false
set_option linter.unusedSimpArgs false
namespace Go.Proofs.Ytlgeeibaohdjhaa
open Go.Proofs.Ytlgeeibaohdjhaa.Eng
section
variable {σ : AW} {k : Nat} {Q : Value → AW → Prop}
theorem applyRes_eq (f : Int → Int) (p : (Int → Int) × Int) : applyRes f p = .tuple #[.int .i64 (if p.2 = 0 then p.1 4 - f 4 else 0), .agg #[.bool (decide (p.2 ≠ 0)), .int .i64 0, .int .i64 p.2]] := by
  unfold applyRes
  by_cases h : p.2 = 0 <;> simp [h]
theorem sets_kept {τ : AW} {b m : Nat} {f : Int → Int} {o : Value} (h : Sets σ b m f o) (hn : σ.next ≤ τ.next) (hb : τ.get b = σ.get b) (hm : τ.get m = σ.get m) : Sets τ b m f o :=
  ⟨hb.trans h.cells, hm.trans h.vals, h.ne, Nat.lt_of_lt_of_le h.hb hn, Nat.lt_of_lt_of_le h.hm hn⟩
theorem sets_ext {τ : AW} {b m : Nat} {f : Int → Int} {o : Value} (h : Sets σ b m f o) (k : Ext σ τ) : Sets τ b m f o := sets_kept h k.1 (k.2 b h.hb) (k.2 m h.hm)
def Ft (c : Int) : List Value := [.bool (decide (c ≠ 0)), .int .i64 0, .int .i64 c]
theorem sl_same {τ : AW} {v : Value} {z n : Nat} {vs : List Value} (h : Sl σ v z n vs) (hn : σ.next ≤ τ.next) (hg : ∀ c, InBlk v c → τ.get c = σ.get c) : Sl τ v z n vs := by
  obtain ⟨h1, h | ⟨b, off, c, ws, e, ro, h2, hc, h3, h4⟩⟩ := h
  · exact ⟨h1, .inl h⟩
  · refine ⟨h1, .inr ⟨b, off, c, ws, e, ro, h2, hc, Nat.lt_of_lt_of_le h3 hn, ?_⟩⟩
    rcases h4 with h4 | h4
    · exact .inl h4
    · exact .inr ⟨by rw [hg b ⟨_, _, _, _, h2⟩]; exact h4.1, h4.2⟩
theorem sl_blk {v : Value} {z n : Nat} {vs : List Value} (h : Sl σ v z n vs) : ∀ c, InBlk v c → c < σ.next := by
  obtain ⟨h1, ⟨rfl, _⟩ | ⟨b, off, c, ws, e, ro, rfl, hc, h3, h4⟩⟩ := h
  · rintro c ⟨o, s, n, cc, he⟩
    injection he with he
    cases he
  · rintro c ⟨o, s, n, cc, he⟩
    injection he with he
    injection he with he
    injection he with he
    omega
theorem eq_law {τ : AW} {b1 m1 b2 m2 : Nat} {f : Int → Int} {o1 o2 : Value} (h1 : Sets τ b1 m1 f o1) (h2 : Sets τ b2 m2 f o2) (hk : 50 ≤ k) : wpA (loop1 (R5.b_38 (cl k) k (ptr b1) (ptr b2)) k (.int .i64 0)) τ fun v _ => v = .bool true := by
  refine aw_loop1 (fun r u υ => ∃ i : Nat, u = .int .i64 i ∧ i ≤ 10 ∧ r = 10 - i ∧ υ = τ) ?_ k 10 _ τ ⟨0, rfl, by omega, rfl, rfl⟩ (by omega)
  rintro r rec u υ ⟨i, rfl, hi, rfl, rfl⟩ hrec
  by_cases hlt : i < 10
  · have hwi : IntKind.i64.wrap ((i : Int) + 1) = ((i + 1 : Nat) : Int) := wrap64 (by omega) (by omega)
    have hlt' : (i : Int) < 10 := by omega
    simp [R5.b_38, hlt', get_spec h1 (show 2 ≤ k by omega), get_spec h2 (show 2 ≤ k by omega), hwi, -Int.natCast_add]
    exact hrec (10 - (i + 1)) _ _ (by omega) ⟨i + 1, rfl, by omega, rfl, rfl⟩
  · have hlt' : ¬ (i : Int) < 10 := by omega
    simp [R5.b_38, hlt', -Int.natCast_add]
    exact awake_spec (by omega)
theorem law_SettingParts {x : Value} {l : List St} {n : Nat} (hx : Sl σ x 2 n (l.flatMap St.cs)) (hl : ∀ s ∈ l, s.val < 4294967296) (hlen : l.length ≤ maxLen) (hk : l.length + 200 ≤ k) : wpA (cl k 5 [x]) σ fun v _ => v = .bool true := by
  rw [cl_at (by omega) (by decide), R5.eq]
  have h8 : l.length + 199 ≤ k - 1 := by omega
  generalize k - 1 = k1 at h8
  have hn : n = l.length := by
    have h1 := hx.1
    rw [length_flatMap St.len] at h1
    omega
  subst hn
  have hxb := sl_blk hx
  simp [R5.g_51, R5.g_53, R5.g_57, R5.g_99, R5.g_113, R5.top, new_spec (show 1 ≤ k1 by omega), und29, eqPtrU]
  generalize hT : (((σ.push (.map newL)).push (.cells [.map (some σ.next), .slice none 0 0] 49 false)).push (.map newL)).push (.cells [.map (some (σ.next + 1 + 1)), .slice none 0 0] 49 false) = T
  have hTn : T.next = σ.next + 4 := by rw [← hT]; simp
  have hTe : Ext σ T := by rw [← hT]; exact (((Ext.push _ _).trans (Ext.push _ _)).trans (Ext.push _ _)).trans (Ext.push _ _)
  have z1 : ¬ σ.next = σ.next + 1 := by omega
  have z2 : ¬ σ.next + 1 = σ.next + 1 + 1 := by omega
  have z3 : ¬ σ.next = σ.next + 1 + 1 := by omega
  have z4 : ¬ σ.next = σ.next + 1 + 1 + 1 := by omega
  have z5 : ¬ σ.next + 1 = σ.next + 1 + 1 + 1 := by omega
  have z6 : ¬ σ.next + 1 + 1 = σ.next + 1 + 1 + 1 := by omega
  have hS1 : Sets T (σ.next + 1) σ.next first (.slice none 0 0) := ⟨by rw [← hT]; simp [z2, z5], by rw [← hT]; simp [newL_v, z1, z3, z4], by omega, by omega, by omega⟩
  have hS2 : Sets T (σ.next + 1 + 1 + 1) (σ.next + 1 + 1) first (.slice none 0 0) := ⟨by rw [← hT]; simp, by rw [← hT]; simp [newL_v, z6], by omega, by omega, by omega⟩
  have hxT := hx.ext hTe
  clear hT
  generalize hm1 : σ.next = m1 at *
  generalize hb1 : m1 + 1 = b1 at *
  generalize hm2 : b1 + 1 = m2 at *
  generalize hb2 : m2 + 1 = b2 at *
  refine apply_spec hS1 first_ok hxT hl hlen (by omega) fun τ hu => ?_
  have hS1' := hS1.upe hu
  have hS2' : Sets τ b2 m2 first (.slice none 0 0) := sets_kept hS2 hu.1 (hu.2.2 _ (by omega) hS2.hb) (hu.2.2 _ (by omega) hS2.hm)
  have hxτ := sl_upe hxT hS1.vals hu
  generalize hF : playF first l = F at *
  simp [applyRes_eq]
  generalize hP : ((((τ.push (.cells [.bool false, .int .i64 0, .int .i64 0] 33 false)).put τ.next (some (.cells [.bool !decide (F.2 = 0), .int .i64 0, .int .i64 F.2] 33 false))).push (.cells [.bool false, .int .i64 0, .int .i64 0] 33 false)).put (τ.next + 1) (some (.cells [.bool false, .int .i64 0, .int .i64 0] 33 false))) = P
  have pn : P.next = τ.next + 2 := by rw [← hP]; simp
  have q1 : ¬ τ.next = τ.next + 1 := by omega
  have p6 : P.get τ.next = some (.cells [.bool !decide (F.2 = 0), .int .i64 0, .int .i64 F.2] 33 false) := by rw [← hP]; simp [q1]
  have p8 : P.get (τ.next + 1) = some (.cells [.bool false, .int .i64 0, .int .i64 0] 33 false) := by rw [← hP]; simp
  have pe : Ext τ P := by
    rw [← hP]
    exact (((((Ext.push τ _).kept (Nat.le_refl _)).put (Nat.le_refl _) _).push (by simp) _).put (by omega) _)
  clear hP
  have hr6 : τ.next < P.next := by omega
  have hr8 : τ.next + 1 < P.next := by omega
  have g1 := hS1'.hb
  have g2 := hS1'.hm
  have g3 := hS2'.hb
  have g4 := hS2'.hm
  generalize h6 : τ.next = r6 at *
  generalize h8' : r6 + 1 = r8 at *
  refine aw_loop2 (fun r u v υ => ∃ (i : Nat) (a : Int) (g : Int → Int) (c : Int), u = .int .i64 a ∧ v = .int .i64 i ∧ i ≤ l.length ∧ r = l.length - i ∧ Fok g ∧ Sets υ b1 m1 F.1 (.slice none 0 0) ∧ Sets υ b2 m2 g (.slice none 0 0) ∧ Sl υ x 2 l.length (l.flatMap St.cs) ∧
      υ.get r6 = some (.cells [.bool !decide (F.2 = 0), .int .i64 0, .int .i64 F.2] 33 false) ∧ υ.get r8 = some (.cells [.bool !decide (c = 0), .int .i64 0, .int .i64 c] 33 false) ∧ P.next ≤ υ.next ∧ (c = 0 → F = playF g (l.drop i) ∧ a = g 4 - first 4) ∧ (c ≠ 0 → F = (g, c))) ?_ k1 l.length _ _ P
    ⟨0, 0, first, 0, rfl, rfl, by omega, rfl, first_ok, sets_ext hS1' pe, sets_ext hS2' pe, hxτ.ext pe, p6, p8, Nat.le_refl _, fun _ => ⟨hF.symm, by simp⟩, fun h => (h rfl).elim⟩ (by omega)
  rintro r rec u v υ ⟨i, a, g, c, rfl, rfl, hi, rfl, hg, s1, s2, hxυ, v6, v8, hn, hc0, hc1⟩ hrec
  by_cases hlt : i < l.length
  · by_cases hc : c = 0
    · subst hc
      obtain ⟨hFp, ha⟩ := hc0 rfl
      obtain ⟨s, hs⟩ : ∃ s, l[i]? = some s := ⟨_, List.getElem?_eq_getElem hlt⟩
      have hsv := hl s (List.mem_of_getElem? hs)
      have hdr : l.drop i = s :: l.drop (i + 1) := drop_some hs
      have hwi : IntKind.i64.wrap ((i : Int) + 1) = ((i + 1 : Nat) : Int) := wrap64 (by omega) (by have : maxLen < 9223372036854775808 := by decide
                                                                                                   omega)
      simp at v8
      simp [R5.g_51, R5.g_53, R5.g_57, R5.g_99, R5.g_113, R5.top, R5.b_103, len_iff hxυ, hlt, v8, hwi, -Int.natCast_add]
      refine aw_slice hxυ (lo := i) (hi := i + 1) (.inr ⟨_, rfl⟩) (.inr ⟨_, rfl⟩) (by omega) (by omega) fun w hw => ?_
      have hw2 : Sl υ w 2 1 ([s].flatMap St.cs) := by
        have e1 : i + 1 - i = 1 := by omega
        rw [e1, drop_flatMap St.len, take_flatMap St.len, hdr] at hw
        exact hw
      refine apply_spec s2 hg hw2 (fun y hy => by simp at hy; subst hy; exact hsv) (by simp [maxLen]) (by simp; omega) fun τ2 hu2 => ?_
      have hpl : playF g [s] = if codeAt g s = 0 then (stepF g s, 0) else (g, codeAt g s) := by
        simp only [playF]
      generalize hG : playF g [s] = G at *
      have hGok : Fok G.1 := by
        rw [← hG]
        exact Fok.play [s] hg fun y hy => by simp at hy; subst hy; exact hsv
      have hn2 := hu2.1
      have e8 : ¬ r8 = τ2.next := by omega
      have e6 : ¬ r6 = τ2.next := by omega
      have b2r : ¬ b2 = r8 := by omega
      have w8 : τ2.get r8 = some (.cells [.bool false, .int .i64 0, .int .i64 0] 33 false) := (hu2.2.2 _ (by omega) (by omega)).trans v8
      have w6 : τ2.get r6 = some (.cells [.bool !decide (F.2 = 0), .int .i64 0, .int .i64 F.2] 33 false) := (hu2.2.2 _ (by omega) (by omega)).trans v6
      have hF1 : G.2 = 0 → F = playF G.1 (l.drop (i + 1)) := by
        intro h0
        rw [hFp, hdr]
        rw [hpl] at h0 ⊢
        by_cases hcc : codeAt g s = 0
        · simp [playF, hcc]
        · simp [hcc] at h0
      have hF2 : G.2 ≠ 0 → F = (G.1, G.2) := by
        intro h0
        rw [hFp, hdr]
        rw [hpl] at h0 ⊢
        by_cases hcc : codeAt g s = 0
        · simp [hcc] at h0
        · simp [playF, hcc]
      simp [applyRes_eq, hwi, e8, w8, -Int.natCast_add]
      have s1b := s1.hb
      have s1m := s1.hm
      have s2b := s2.hb
      have s2m := s2.hm
      have t1 : Sets τ2 b1 m1 F.1 (.slice none 0 0) := sets_kept s1 hn2 (hu2.2.2 _ (by omega) s1b) (hu2.2.2 _ (by omega) s1m)
      have t2 : Sets τ2 b2 m2 G.1 (.slice none 0 0) := s2.upe hu2
      have hxτ2 := sl_upe hxυ s2.vals hu2
      generalize hZ : AW.put (AW.put (τ2.push (.cells [.bool false, .int .i64 0, .int .i64 0] 33 false)) τ2.next _) r8 _ = Z
      have zn : Z.next = τ2.next + 1 := by rw [← hZ]; simp
      have zg : ∀ c, c < τ2.next → c ≠ r8 → Z.get c = τ2.get c := by
        intro c hc hc8
        have : ¬ c = τ2.next := by omega
        rw [← hZ]
        simp [hc8, this]
      have z8 : Z.get r8 = some (.cells [.bool !decide (G.2 = 0), .int .i64 0, .int .i64 G.2] 33 false) := by rw [← hZ]; simp
      clear hZ
      have hG4 := hGok 4
      have hg4 := hg 4
      refine hrec (l.length - (i + 1)) _ _ _ (by omega) ⟨i + 1, _, G.1, G.2, rfl, rfl, by omega, rfl, hGok, sets_kept t1 (by omega) (zg _ (by omega) (by omega)) (zg _ (by omega) (by omega)), sets_kept t2 (by omega) (zg _ (by omega) (by omega)) (zg _ (by omega) (by omega)), ?_, (zg _ (by omega) (by omega)).trans w6, z8, by omega, fun h0 => ⟨hF1 h0, ?_⟩, hF2⟩
      · exact sl_same hxτ2 (by omega) fun c hc => zg c (by have := hxb c hc; omega) (by have := hxb c hc; omega)
      · have f4 : first 4 = 65535 := by decide
        rw [if_pos h0, ha, f4, wrap64 (by omega) (by omega)]
        omega
    · have hFg := hc1 hc
      simp [R5.g_51, R5.g_53, R5.g_57, R5.g_99, R5.g_113, R5.top, R5.b_103, len_iff hxυ, hlt, v6, v8, hc, hFg, ft_neq, -Int.natCast_add]
      rw [hFg] at s1
      exact eq_law s1 s2 (by omega)
  · have e : i = l.length := by omega
    subst e
    have hFg : F = (g, c) := by
      by_cases hc : c = 0
      · subst hc
        rw [(hc0 rfl).1]
        simp [playF]
      · exact hc1 hc
    simp [R5.g_51, R5.g_53, R5.g_57, R5.g_99, R5.g_113, R5.top, R5.b_103, len_iff hxυ, v6, v8, hFg, ft_neq, -Int.natCast_add]
    rw [hFg] at s1
    have hfin := eq_law s1 s2 (show 50 ≤ k1 by omega)
    by_cases hc : c = 0
    · have ha := (hc0 hc).2
      simp [hc, ha]
      exact hfin
    · simp [hc]
      exact hfin
end
end Go.Proofs.Ytlgeeibaohdjhaa
