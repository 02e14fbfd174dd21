/- Each value is one that may be. -/
import Derived.Test.YtlgeeibaohdjhaaSettingXp
set_option linter.unusedVariables false
set_option linter.unusedSimpArgs false
namespace Go.Proofs.Ytlgeeibaohdjhaa
open Go.Proofs.Ytlgeeibaohdjhaa.Eng
def Vok (f : Int → Int) : Prop := ∀ x, Known x → checkOf x (f x) = 0
theorem Vok.first : Vok first := by
  intro x h
  rcases h with rfl | rfl | rfl | rfl | rfl | rfl | rfl <;> decide
theorem code_check {f : Int → Int} {s : St} (h : codeAt f s = 0) : checkOf s.id s.val = 0 := by
  unfold codeAt at h
  split at h
  · cases h
  · exact h
theorem Vok.step {f : Int → Int} (h : Vok f) {s : St} (hc : codeAt f s = 0) : Vok (stepF f s) := by
  intro x hx
  unfold stepF
  split
  · unfold upd
    split
    · rename_i e
      subst e
      exact code_check hc
    · exact h x hx
  · exact h x hx
theorem Vok.play : ∀ (l : List St) {f : Int → Int}, Vok f → Vok (playF f l).1
  | [], f, h => h
  | s :: l, f, h => by
    unfold playF
    split
    · rename_i hc
      exact Vok.play l (h.step hc)
    · exact h
section
variable {σ : AW} {k : Nat} {Q : Value → AW → Prop}
theorem Ext.upe {τ υ : AW} {m : Nat} {o : AObj} (h : Ext σ τ) (k : Upe m o τ υ) (hm : σ.next ≤ m) : Ext σ υ :=
  ⟨Nat.le_trans h.1 k.1, fun c hc => (k.2.2 c (by omega) (by have := h.1; omega)).trans (h.2 c hc)⟩
theorem check_bounds {f : Int → Int} (h : Vok f) : f 4 ≤ 2147483647 ∧ 16384 ≤ f 5 ∧ f 5 ≤ 16777215 := by
  have h4 := h 4 (by decide)
  have h5 := h 5 (by decide)
  simp [checkOf] at h4 h5
  omega
theorem inner_law {b m i : Nat} {f : Int → Int} {o : Value} {rec : Value → AM Value} {R : Value → AW → Prop} (hs : Sets σ b m f o) (hf : Fok f) (hv : Vok f) (hk : 50 ≤ k) (hi : i < maxLen) (hr : wpA (rec (.int .i64 (i + 1 : Nat))) σ R) :
    wpA (loop1 (R4.b_77 (cl k) k rec (ptr b) (.int .i64 (i : Nat))) k (.int .i64 0)) σ R := by
  have hml : maxLen < 9223372036854775808 := by decide
  have hwi : IntKind.i64.wrap ((i : Int) + 1) = ((i + 1 : Nat) : Int) := wrap64 (by omega) (by omega)
  refine aw_loop1 (fun r u υ => ∃ j : Nat, u = .int .i64 j ∧ j ≤ 10 ∧ r = 10 - j ∧ υ = σ) ?_ k 10 _ σ ⟨0, rfl, by omega, rfl, rfl⟩ (by omega)
  rintro r rec2 u υ ⟨j, rfl, hj, rfl, rfl⟩ hrec
  have hK4 : Known 4 := by decide
  have hK5 : Known 5 := by decide
  obtain ⟨c1, c2, c3⟩ := check_bounds hv
  have n1 : ¬ f 5 < 16384 := by omega
  have n2 : ¬ 16777215 < f 5 := by omega
  have n3 : ¬ 2147483647 < f 4 := by omega
  have v4 : valOf f 4 = f 4 := by simp [valOf, hK4]
  have v5 : valOf f 5 = f 5 := by simp [valOf, hK5]
  by_cases hlt : j < 10
  · have hwj : IntKind.i64.wrap ((j : Int) + 1) = ((j + 1 : Nat) : Int) := wrap64 (by omega) (by omega)
    have hlt' : (j : Int) < 10 := by omega
    have hv0 : 0 ≤ valOf f j := by
      unfold valOf
      split
      · exact (hf j).1
      · omega
    have hnext := hrec (10 - (j + 1)) (.int .i64 (j + 1 : Nat)) υ (by omega) ⟨j + 1, rfl, by omega, rfl, rfl⟩
    by_cases h0 : valOf f j = 0
    · simp [R4.b_77, R4.g_40, R4.g_44, R4.g_66, R4.g_97, R4.g_99, R4.g_101, R4.g_105, R4.g_108, R4.g_112, R4.g_116, R4.g_120, R4.top, hlt', get_spec hs (show 2 ≤ k by omega), h0, hwj, -Int.natCast_add]
      exact hnext
    · have hc : checkOf j (valOf f j) = 0 := by
        unfold valOf at h0 ⊢
        split at h0
        · rename_i hK
          rw [if_pos hK]
          exact hv j hK
        · exact (h0 rfl).elim
      simp [R4.b_77, R4.g_40, R4.g_44, R4.g_66, R4.g_97, R4.g_99, R4.g_101, R4.g_105, R4.g_108, R4.g_112, R4.g_116, R4.g_120, R4.top, hlt', get_spec hs (show 2 ≤ k by omega), h0, hwj, check_spec (show 1 ≤ k by omega) hv0, hc, -Int.natCast_add]
      exact hnext
  · have hlt' : ¬ (j : Int) < 10 := by omega
    simp [R4.b_77, R4.g_40, R4.g_44, R4.g_66, R4.g_97, R4.g_99, R4.g_101, R4.g_105, R4.g_108, R4.g_112, R4.g_116, R4.g_120, R4.top, hlt', get_spec hs (show 2 ≤ k by omega), v4, v5, n1, n2, n3, hwi, -Int.natCast_add]
    exact hr
theorem law_SettingValues {v : Value} {L : List (Value × List St)} {n : Nat} (hv : Sl σ v 1 n (L.map (·.1))) (hL : ∀ p ∈ L, LiesAt σ p) (hn : L.length ≤ maxLen) (hk : maxLen + 200 ≤ k) : wpA (cl k 4 [v]) σ fun v _ => v = .bool true := by
  rw [cl_at (by omega) (by decide), R4.eq]
  have h8 : maxLen + 199 ≤ k - 1 := by omega
  generalize k - 1 = k1 at h8
  have hn2 : n = L.length := by
    have h1 := hv.1
    simp at h1
    omega
  subst hn2
  have hml : maxLen < 9223372036854775808 := by decide
  have z1 : ¬ σ.next = σ.next + 1 := by omega
  simp [R4.top, new_spec (show 1 ≤ k1 by omega), und29, eqPtrU]
  generalize hT : (σ.push (.map newL)).push (.cells [.map (some σ.next), .slice none 0 0] 49 false) = T
  have hTn : T.next = σ.next + 2 := by rw [← hT]; simp
  have hTe : Ext σ T := by rw [← hT]; exact (Ext.push _ _).trans (Ext.push _ _)
  have hS : Sets T (σ.next + 1) σ.next first (.slice none 0 0) := ⟨by rw [← hT]; simp, by rw [← hT]; simp [newL_v, z1], by omega, by omega, by omega⟩
  clear hT
  refine aw_loop1 (fun r u υ => ∃ (i : Nat) (f : Int → Int), u = .int .i64 i ∧ i ≤ L.length ∧ r = L.length - i ∧ Ext σ υ ∧ Sets υ (σ.next + 1) σ.next f (.slice none 0 0) ∧ Fok f ∧ Vok f) ?_ k1 L.length _ T ⟨0, first, rfl, by omega, rfl, hTe, hS, first_ok, Vok.first⟩ (by omega)
  rintro r rec u υ ⟨i, f, rfl, hi, rfl, he, hs, hf, hvo⟩ hrec
  have hvu := hv.ext he
  by_cases hlt : i < L.length
  · obtain ⟨p, hp⟩ : ∃ p, L[i]? = some p := ⟨_, List.getElem?_eq_getElem hlt⟩
    obtain ⟨hx, hpv, hpl⟩ := hL p (List.mem_of_getElem? hp)
    have hxu := hx.ext he
    have hwi : IntKind.i64.wrap ((i : Int) + 1) = ((i + 1 : Nat) : Int) := wrap64 (by omega) (by omega)
    have hK4 : Known 4 := by decide
    have f4 := hf 4
    have w4 : IntKind.i64.wrap (f 4) = f 4 := wrap64 (by omega) (by omega)
    have hv4 : valOf f 4 = f 4 := by simp [valOf, hK4]
    simp [R4.b_133, len_iff hvu, hlt, get_spec hs (show 2 ≤ k1 by omega), ↓at1_all hvu hp, hv4, w4, -Int.natCast_add]
    refine apply_spec hs hf hxu hpv hpl (by omega) fun τ2 hu => ?_
    have hgo := Fok.play p.2 hf hpv
    have hgv := Vok.play p.2 hvo
    generalize playF f p.2 = G at *
    simp [applyRes_eq, -Int.natCast_add]
    have hmt : ¬ σ.next = τ2.next := by have := hs.hm; have := hu.1; omega
    have hbt : ¬ σ.next + 1 = τ2.next := by have := hs.hb; have := hu.1; omega
    have hS2 := hs.upe hu
    generalize hZ : (τ2.push (.cells [.bool false, .int .i64 0, .int .i64 0] 33 false)).put τ2.next (some (.cells [.bool !decide (G.2 = 0), .int .i64 0, .int .i64 G.2] 33 false)) = Z
    have zc : Z.get τ2.next = some (.cells [.bool !decide (G.2 = 0), .int .i64 0, .int .i64 G.2] 33 false) := by rw [← hZ]; simp
    have ze : Ext τ2 Z := by rw [← hZ]; exact ((Ext.push τ2 _).kept (Nat.le_refl _)).put (Nat.le_refl _) _
    clear hZ
    have hSZ := sets_ext hS2 ze
    have heZ : Ext σ Z := (Ext.upe he hu (Nat.le_refl _)).trans ze
    have g4 := hgo 4
    have wg4 : IntKind.i64.wrap (G.1 4) = G.1 4 := wrap64 (by omega) (by omega)
    have wd : IntKind.i64.wrap (G.1 4 - f 4) = G.1 4 - f 4 := wrap64 (by omega) (by omega)
    have hg4 : valOf G.1 4 = G.1 4 := by simp [valOf, hK4]
    have hin := inner_law (k := k1) (i := i) (rec := rec) (R := fun v _ => v = .bool true) hSZ hgo hgv (by omega) (by omega) (hrec (L.length - (i + 1)) _ Z (by omega) ⟨i + 1, G.1, rfl, by omega, rfl, heZ, hSZ, hgo, hgv⟩)
    by_cases hc : G.2 = 0
    · simp [hc] at zc
      simp [R4.g_40, R4.g_44, R4.g_66, R4.g_97, R4.g_99, R4.g_101, R4.g_105, R4.g_108, R4.g_112, R4.g_116, R4.g_120, R4.top, hc, get_spec hSZ (show 2 ≤ k1 by omega), hg4, wg4, wd, zc, -Int.natCast_add]
      exact hin
    · simp [hc] at zc
      simp [R4.g_40, R4.g_44, R4.g_66, R4.g_97, R4.g_99, R4.g_101, R4.g_105, R4.g_108, R4.g_112, R4.g_116, R4.g_120, R4.top, hc, get_spec hSZ (show 2 ≤ k1 by omega), hg4, wg4, wd, zc, -Int.natCast_add]
      exact hin
  · have e : i = L.length := by omega
    subst e
    simp [R4.b_133, len_iff hvu, -Int.natCast_add]
    exact awake_spec (by omega)
end
end Go.Proofs.Ytlgeeibaohdjhaa
