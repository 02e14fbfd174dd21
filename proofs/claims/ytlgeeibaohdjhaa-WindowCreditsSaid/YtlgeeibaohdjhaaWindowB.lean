/- The laws of windows. -/
import Derived.Test.YtlgeeibaohdjhaaWindow
set_option linter.unusedVariables false
set_option linter.unusedSimpArgs false
namespace Go.Proofs.Ytlgeeibaohdjhaa
open Go.Proofs.Ytlgeeibaohdjhaa.Eng
attribute [local simp] und64 und67 und111 und4
structure Op where
  what : Int
  n : Int
def Op.cs (o : Op) : List Value := [.int .i64 o.what, .int .i64 o.n]
theorem Op.len (o : Op) : o.cs.length = 2 := rfl
theorem op_sl {σ : AW} {x : Value} {l : List Op} {n : Nat} (hx : Sl σ x 2 n (l.flatMap Op.cs)) : n = l.length := by
  have h := hx.1; rw [length_flatMap Op.len] at h; omega
theorem law_WindowPlays {σ : AW} {x : Value} {l : List Op} {m : Int} {n k : Nat} (hx : Sl σ x 2 n (l.flatMap Op.cs)) (hl : l.length < big) (hk : big + 50 ≤ k) : wpA (callN Try.prog k 9 [.int .i64 m, x]) σ fun v _ => v = .bool true := by
  have e1 := op_sl hx
  subst e1
  rw [callN_at (by omega), R9.eq]
  have hbig : big + 49 ≤ k - 1 := by omega
  generalize hk1 : k - 1 = k1 at hbig
  simp [R9.d_38, R9.g_98, R9.g_114, R9.top]
  refine (new_spec (by omega)).mono ?_
  rintro v τ ⟨he, ⟨hg, b, rfl, h1, h2, h3⟩ | ⟨hg, rfl⟩⟩
  · simp
    refine (rnew_spec (by omega)).mono ?_
    rintro v υ ⟨hf, ⟨_, c, rfl, k1', k2, k3⟩ | ⟨hg', _⟩⟩
    · simp [R9.d_38, R9.g_98, R9.g_114, R9.top]
      have hne : ¬ b = c := by omega
      have hne' : ¬ c = b := by omega
      have hb0 : υ.get b = some (.cells (wcs m) 93 false) := by rw [hf.2 _ h2]; exact h3
      refine aw_loop1 (fun r v τ' => ∃ (i : Nat) (w : Int), v = I i ∧ i ≤ l.length ∧ r = l.length - i ∧ Kept σ.next σ τ' ∧ b < τ'.next ∧ c < τ'.next ∧ τ'.get b = some (.cells (wcs w) 93 false) ∧ τ'.get c = some (.cells [.int .i64 w] 75 false)) ?_ k1 l.length _ υ ⟨0, m, rfl, by omega, by omega, he.trans hf, by have := hf.1; omega, k2, hb0, k3⟩ (by omega)
      rintro r rec v τ' ⟨i, w, rfl, hi, rfl, hki, hbn, hcn, hbi, hci⟩ hrec
      have hxi := hx.kept (Nat.le_refl _) hki
      have hsn := hki.1
      by_cases hlt : i < l.length
      · obtain ⟨o, ho⟩ : ∃ o, l[i]? = some o := ⟨_, List.getElem?_eq_getElem hlt⟩
        have hwi : IntKind.i64.wrap ((i : Int) + 1) = ((i + 1 : Nat) : Int) := wrap64 (by omega) (by unfold big at hl; omega)
        have behind : ∀ (w' a : Int) τ2, τ2.get b = some (.cells (wcs w') 93 false) → τ2.get c = some (.cells [.int .i64 w'] 75 false) → b < τ2.next → c < τ2.next → Kept σ.next σ τ2 → wpA (R9.j_53 (callN Try.prog k1) k1 rec (ptr b) (ptr c) (.int .i64 i) (.int .i64 a) (.int .i64 a)) τ2 fun v _ => v = .bool true := fun w' a τ2 g1 g2 g3 g4 g5 => by
          simp [R9.d_38, R9.j_53, R9.g_98, R9.g_114, R9.top, size_iff g1 (show 2 ≤ k1 by omega), g2, hwi]
          exact hrec (l.length - (i + 1)) _ _ (by omega) ⟨i + 1, w', rfl, by omega, rfl, g5, g3, g4, g1, g2⟩
        have n1 : ¬ b = τ'.next := by omega
        have n2 : ¬ c = τ'.next := by omega
        have n3 : ¬ τ'.next = b := by omega
        have n4 : ¬ τ'.next = c := by omega
        have hT : ∃ T, T = (τ'.push (.cells [.int .i64 0, .int .i64 0] 71 false)).put τ'.next (some (.cells [.int .i64 o.what, .int .i64 o.n] 71 false)) := ⟨_, rfl⟩
        obtain ⟨T, hT⟩ := hT
        have hbT : T.get b = some (.cells (wcs w) 93 false) := by rw [hT]; simp [n1, hbi]
        have hcT : T.get c = some (.cells [.int .i64 w] 75 false) := by rw [hT]; simp [n2, hci]
        have hoT : T.get τ'.next = some (.cells [.int .i64 o.what, .int .i64 o.n] 71 false) := by rw [hT]; simp
        have hnT : T.next = τ'.next + 1 := by rw [hT]; simp
        have hkT : Kept σ.next σ T := by rw [hT]; exact (hki.push hsn _).put hsn _
        simp only [R9.b_103, R9.d_38, R9.g_98, R9.g_114, R9.top, I]
        simp [len_iff hxi, hlt, ↓atS_all Op.len (by omega) hxi ho, Op.cs]
        rw [← hT]
        by_cases a0 : o.what = 0
        · have hc2 : (T.put b (some (.cells (wcs (takeW w o.n)) 93 false))).get c = some (.cells [.int .i64 w] 75 false) := by simp [hne', hcT]
          simp [hoT, a0, n3, take_iff hbT (show 2 ≤ k1 by omega), rtake_iff hc2 (show 1 ≤ k1 by omega)]
          refine behind (takeW w o.n) (takeE w o.n) _ ?_ ?_ ?_ ?_ ((hkT.put ?_ _).put ?_ _)
          · simp [hne]
          · simp
          · simp; omega
          · simp; omega
          · omega
          · omega
        · by_cases a1 : o.what = 1
          · simp [hoT, a1, n3]
            refine (add_spec hbT (by omega) (by omega)).mono ?_
            rintro v T2 ⟨rfl, hu⟩
            have hc2 : T2.get c = some (.cells [.int .i64 w] 75 false) := by rw [hu.2.2 c hne' (by omega)]; exact hcT
            have ho2 : T2.get τ'.next = some (.cells [.int .i64 o.what, .int .i64 o.n] 71 false) := by rw [hu.2.2 _ n3 (by omega)]; exact hoT
            simp [ho2, radd_iff hc2 (show 2 ≤ k1 by omega)]
            have hun := hu.1
            refine behind (moreW 1 w o.n) (moreE 1 w o.n) _ ?_ ?_ ?_ ?_ (((hkT.trans (hu.kept ?_ ?_))).put ?_ _)
            · simp [hne, hu.2.1]
            · simp
            · simp; omega
            · simp; omega
            · omega
            · omega
            · omega
          · simp [hoT, a0, a1, n3]
            refine (shift_spec hbT (by omega) (by omega)).mono ?_
            rintro v T2 ⟨rfl, hu⟩
            have hc2 : T2.get c = some (.cells [.int .i64 w] 75 false) := by rw [hu.2.2 c hne' (by omega)]; exact hcT
            have ho2 : T2.get τ'.next = some (.cells [.int .i64 o.what, .int .i64 o.n] 71 false) := by rw [hu.2.2 _ n3 (by omega)]; exact hoT
            simp [ho2, rshift_iff hc2 (show 2 ≤ k1 by omega)]
            have hun := hu.1
            refine behind (moreW (-2147483647) w o.n) (moreE (-2147483647) w o.n) _ ?_ ?_ ?_ ?_ (((hkT.trans (hu.kept ?_ ?_))).put ?_ _)
            · simp [hne, hu.2.1]
            · simp
            · simp; omega
            · simp; omega
            · omega
            · omega
            · omega
      · simp only [R9.b_103, R9.d_38, R9.g_98, R9.g_114, R9.top, I]
        simp [len_iff hxi, hlt]
        refine (awake_spec (by omega)).mono ?_
        rintro v _ rfl
        simp
    · exact absurd hg hg'
  · simp
    refine (rnew_spec (by omega)).mono ?_
    rintro v υ ⟨hf, ⟨hg', _⟩ | ⟨_, rfl⟩⟩
    · exact absurd hg' hg
    · simp [R9.d_38, R9.g_98, R9.g_114, R9.top]
      refine aw_loop1 (fun r v τ' => True) ?_ k1 0 _ υ trivial (by omega)
      intro r rec v τ' _ _
      simp [R9.b_103, R9.d_38, R9.g_98, R9.g_114, R9.top]
      refine (awake_spec (by omega)).mono ?_
      rintro v _ rfl
      simp
end Go.Proofs.Ytlgeeibaohdjhaa
