/- More laws of windows and credits. -/
import Derived.Test.YtlgeeibaohdjhaaWindowC
set_option linter.unusedVariables false
set_option linter.unusedSimpArgs false
namespace Go.Proofs.Ytlgeeibaohdjhaa
open Go.Proofs.Ytlgeeibaohdjhaa.Eng
attribute [local simp] und64 und67 und111 und4 und79 und83
theorem W_id {n : Int} (h1 : -9223372036854775808 ≤ n) (h2 : n ≤ 9223372036854775807) : W n = n := wrap64 h1 h2
theorem W_range (n : Int) : -9223372036854775808 ≤ W n ∧ W n ≤ 9223372036854775807 := by
  simp [W, IntKind.wrap, IntKind.signed, IntKind.bits, IntKind.min, IntKind.max]
  omega
section
variable {σ : AW} {b k : Nat} {e : TypeId} {m : Cr} {w n : Int} {Q : Value → AW → Prop}
/-! ### what nobody made -/
theorem take_nil (hk : 2 ≤ k) : wpA (callN Try.prog k 32 [.pointer none, .int .i64 n]) σ Q ↔ Q (.int .i64 7) σ := by
  rw [callN_at (by omega), R32.eq]
  simp [R32.top, none_nil (show 1 ≤ k - 1 by omega)]
theorem more_nil {least : Int} (hk : 2 ≤ k) : wpA (callN Try.prog k 57 [.pointer none, .int .i64 n, .int .i64 least]) σ Q ↔ Q (.int .i64 7) σ := by
  rw [callN_at (by omega), R57.eq]
  simp [R57.top, none_nil (show 1 ≤ k - 1 by omega)]
theorem more_zero {least : Int} (hb : σ.get b = some (.cells [.bool false, .int .i64 0] e false)) (hk : 2 ≤ k) : wpA (callN Try.prog k 57 [ptr b, .int .i64 n, .int .i64 least]) σ Q ↔ Q (.int .i64 7) σ := by
  rw [callN_at (by omega), R57.eq]
  simp [R57.top, none_zero hb (show 1 ≤ k - 1 by omega)]
theorem shift_nil (hk : 3 ≤ k) : wpA (callN Try.prog k 36 [.pointer none, .int .i64 n]) σ Q ↔ Q (.int .i64 7) σ := by
  rw [callN_at (by omega), R36.eq]
  simp [R36.top, more_nil (show 2 ≤ k - 1 by omega)]
theorem add_zero' (hb : σ.get b = some (.cells [.bool false, .int .i64 0] e false)) (hk : 3 ≤ k) : wpA (callN Try.prog k 34 [ptr b, .int .i64 n]) σ Q ↔ Q (.int .i64 7) σ := by
  rw [callN_at (by omega), R34.eq]
  simp [R34.top, more_zero hb (show 2 ≤ k - 1 by omega)]
theorem size_zero (hb : σ.get b = some (.cells [.bool false, .int .i64 0] e false)) (hk : 2 ≤ k) : wpA (callN Try.prog k 38 [ptr b]) σ Q ↔ Q (.int .i64 0) σ := by
  rw [callN_at (by omega), R38.eq]
  simp [R38.top, none_zero hb (show 1 ≤ k - 1 by omega)]
theorem got_nil (hk : 2 ≤ k) : wpA (callN Try.prog k 41 [.pointer none, .int .i64 n]) σ Q ↔ Q (.int .i64 7) σ := by
  rw [callN_at (by omega), R41.eq]
  simp [R41.top, cnone_nil (show 1 ≤ k - 1 by omega)]
theorem used_zero {v1 v2 v3 v4 : Value} (hb : σ.get b = some (.cells [.bool false, v1, v2, v3, v4] e false)) (hk : 2 ≤ k) : wpA (callN Try.prog k 42 [ptr b, .int .i64 n]) σ Q ↔ Q (.int .i64 7) σ := by
  rw [callN_at (by omega), R42.eq]
  simp [R42.top, cnone_zero hb (show 1 ≤ k - 1 by omega)]
theorem give_nil (hk : 2 ≤ k) : wpA (callN Try.prog k 43 [.pointer none]) σ Q ↔ Q (.int .i64 0) σ := by
  rw [callN_at (by omega), R43.eq]
  simp [R43.d_26, R43.top, cnone_nil (show 1 ≤ k - 1 by omega)]
theorem csize_zero {v1 v2 v3 v4 : Value} (hb : σ.get b = some (.cells [.bool false, v1, v2, v3, v4] e false)) (hk : 2 ≤ k) : wpA (callN Try.prog k 44 [ptr b]) σ Q ↔ Q (.int .i64 0) σ := by
  rw [callN_at (by omega), R44.eq]
  simp [R44.top, cnone_zero hb (show 1 ≤ k - 1 by omega)]
theorem cheld_nil (hk : 2 ≤ k) : wpA (callN Try.prog k 45 [.pointer none]) σ Q ↔ Q (.int .i64 0) σ := by
  rw [callN_at (by omega), R45.eq]
  simp [R45.top, cnone_nil (show 1 ≤ k - 1 by omega)]
theorem law_WindowZero (hk : 20 ≤ k) : wpA (callN Try.prog k 14 [.int .i64 n]) σ fun v _ => v = .bool true := by
  rw [callN_at (by omega), R14.eq]
  generalize hT : (σ.push (.cells [.bool false, .int .i64 0] 93 false)).push (.cells [.bool false, .int .i64 0, .int .i64 0, .int .i64 0, .int .i64 0] 95 false) = T
  have hb : T.get σ.next = some (.cells [.bool false, .int .i64 0] 93 false) := by rw [← hT]; simp
  have hc : T.get (σ.next + 1) = some (.cells [.bool false, .int .i64 0, .int .i64 0, .int .i64 0, .int .i64 0] 95 false) := by rw [← hT]; simp
  simp only [R14.g_38, R14.g_42, R14.g_45, R14.g_49, R14.g_54, R14.g_60, R14.g_63, R14.g_69, R14.top]
  simp [hT, take_nil (show 2 ≤ k - 1 by omega), add_zero' hb (show 3 ≤ k - 1 by omega), shift_nil (show 3 ≤ k - 1 by omega), size_zero hb (show 2 ≤ k - 1 by omega), got_nil (show 2 ≤ k - 1 by omega), used_zero hc (show 2 ≤ k - 1 by omega), give_nil (show 2 ≤ k - 1 by omega), csize_zero hc (show 2 ≤ k - 1 by omega), cheld_nil (show 2 ≤ k - 1 by omega)]
end
theorem law_WindowBound {σ : AW} {x : Value} {l : List Op} {m : Int} {n k : Nat} (hx : Sl σ x 2 n (l.flatMap Op.cs)) (hl : l.length < big) (hm : 0 ≤ m) (hm2 : m < 4294967296) (hk : big + 50 ≤ k) : wpA (callN Try.prog k 10 [.int .u32 m, x]) σ fun v _ => v = .bool true := by
  have e1 := op_sl hx
  subst e1
  rw [callN_at (by omega), R10.eq]
  have hbig : big + 49 ≤ k - 1 := by omega
  generalize hk1 : k - 1 = k1 at hbig
  have hM : 0 ≤ m.tmod 2147483648 ∧ m.tmod 2147483648 ≤ 2147483647 := by
    have h1 := Int.tmod_lt_of_pos m (show (0 : Int) < 2147483648 by omega)
    rw [Int.tmod_eq_emod_of_nonneg hm] at h1 ⊢
    omega
  generalize hMd : m.tmod 2147483648 = M at *
  have hMw : IntKind.i64.wrap M = M := wrap64 (by omega) (by omega)
  simp [R10.g_47, R10.g_80, R10.g_85, R10.top, hMd, hMw]
  refine (new_spec (by omega)).mono ?_
  rintro v τ ⟨he, ⟨hg, b, rfl, h1, h2, h3⟩ | ⟨hg, rfl⟩⟩
  · simp
    refine aw_loop1 (fun r v τ' => ∃ (i : Nat) (w : Int), v = I i ∧ i ≤ l.length ∧ r = l.length - i ∧ w ≤ 2147483647 ∧ -9223372036854775808 ≤ w ∧ Kept σ.next σ τ' ∧ b < τ'.next ∧ τ'.get b = some (.cells (wcs w) 93 false)) ?_ k1 l.length _ τ ⟨0, M, rfl, by omega, by omega, by omega, by omega, he, h2, h3⟩ (by omega)
    rintro r rec v τ' ⟨i, w, rfl, hi, rfl, hwm, hwl, hki, hbn, hbi⟩ hrec
    have hxi := hx.kept (Nat.le_refl _) hki
    have hsn := hki.1
    by_cases hlt : i < l.length
    · obtain ⟨o, ho⟩ : ∃ o, l[i]? = some o := ⟨_, List.getElem?_eq_getElem hlt⟩
      have hwi : IntKind.i64.wrap ((i : Int) + 1) = ((i + 1 : Nat) : Int) := wrap64 (by omega) (by unfold big at hl; omega)
      have hww : IntKind.i64.wrap w = w := wrap64 hwl (by omega)
      have behind : ∀ (w' ch : Int) τ2, W (w + ch) = w' → w' ≤ 2147483647 → -9223372036854775808 ≤ w' → τ2.get b = some (.cells (wcs w') 93 false) → b < τ2.next → Kept σ.next σ τ2 → wpA (R10.j_51 (callN Try.prog k1) k1 rec (ptr b) (.int .i64 i) (.int .i64 w) (.int .i64 ch)) τ2 fun v _ => v = .bool true := fun w' ch τ2 g1 g2 g2' g3 g4 g5 => by
        have g6 : ¬ 2147483647 < w' := by omega
        simp [R10.g_47, R10.j_51, R10.j_55, R10.g_80, R10.g_85, R10.top, size_iff g3 (show 2 ≤ k1 by omega), g1, g6, hwi]
        exact hrec (l.length - (i + 1)) _ _ (by omega) ⟨i + 1, w', rfl, by omega, rfl, g2, g2', g5, g4, g3⟩
      have n1 : ¬ b = τ'.next := by omega
      have n3 : ¬ τ'.next = b := by omega
      have hT : ∃ T, T = (τ'.push (.cells [.int .i64 0, .int .i64 0] 71 false)).put τ'.next (some (.cells [.int .i64 o.what, .int .i64 o.n] 71 false)) := ⟨_, rfl⟩
      obtain ⟨T, hT⟩ := hT
      have hbT : T.get b = some (.cells (wcs w) 93 false) := by rw [hT]; simp [n1, hbi]
      have hoT : T.get τ'.next = some (.cells [.int .i64 o.what, .int .i64 o.n] 71 false) := by rw [hT]; simp
      have hnT : T.next = τ'.next + 1 := by rw [hT]; simp
      have hkT : Kept σ.next σ T := by rw [hT]; exact (hki.push hsn _).put hsn _
      have more : ∀ (least : Int) τ2, Upe b (.cells (wcs (moreW least w o.n)) 93 false) T τ2 → wpA (R10.j_55 (callN Try.prog k1) k1 rec (ptr b) (.int .i64 i) (.int .i64 w) (.int .i64 (moreE least w o.n)) (.int .i64 o.n)) τ2 fun v _ => v = .bool true := fun least τ2 hu => by
        have hun := hu.1
        have hr := W_range (w + o.n)
        by_cases h0 : moreE least w o.n = 0
        · have hw' : moreW least w o.n = W (w + o.n) := by simp [moreW, h0]
          have hle : W (w + o.n) ≤ 2147483647 := by
            unfold moreE at h0
            split at h0
            · split at h0
              · assumption
              · simp at h0
            · simp at h0
          rw [hw'] at hu
          simp [R10.g_47, R10.g_80, R10.g_85, R10.top, R10.j_55, h0]
          refine behind _ _ _ rfl hle hr.1 hu.2.1 (by omega) (hkT.trans (hu.kept (by omega) (by omega)))
        · have hw' : moreW least w o.n = w := by simp [moreW, h0]
          rw [hw'] at hu
          simp [R10.g_47, R10.g_80, R10.g_85, R10.top, R10.j_55, h0]
          refine behind w 0 _ (by simp [hww]) hwm hwl hu.2.1 (by omega) (hkT.trans (hu.kept (by omega) (by omega)))
      simp only [R10.b_106, R10.g_47, R10.g_80, R10.g_85, R10.top, I]
      simp [len_iff hxi, hlt, ↓atS_all Op.len (by omega) hxi ho, Op.cs]
      rw [← hT]
      by_cases a0 : o.what = 0
      · by_cases h0 : takeE w o.n = 0
        · have hb1 : ¬ o.n < 0 := fun h => by simp [takeE, h] at h0
          have hb2 : o.n ≤ (if 0 > w then 0 else w) := by
            by_cases h : (if 0 > w then 0 else w) < o.n
            · simp only [takeE, hb1, if_false, h, if_true] at h0
              simp at h0
            · omega
          have hb3 : 0 < o.n → o.n ≤ w := fun h => by split at hb2 <;> omega
          have hwt : takeW w o.n = w - o.n := by
            simp only [takeW, h0, if_true]
            exact W_id (by by_cases h : 0 < o.n <;> omega) (by omega)
          have hng : IntKind.i64.wrap (0 - o.n) = -o.n := by rw [wrap64 (by omega) (by omega)]; omega
          have hng' : IntKind.i64.wrap (-o.n) = -o.n := wrap64 (by split at hb2 <;> omega) (by omega)
          have hle2 : 0 < o.n → ¬ w < o.n := fun h => by have := hb3 h; omega
          have hb4 : -9223372036854775808 ≤ w - o.n := by by_cases h : 0 < o.n <;> omega
          by_cases hpos : 0 < o.n
          · have := hle2 hpos
            simp [hoT, a0, n3, size_iff hbT (show 2 ≤ k1 by omega), take_iff hbT (show 2 ≤ k1 by omega), h0, hwt, hpos, this, hng, hng', R10.j_55, R10.g_47, R10.g_80, R10.g_85, R10.top]
            refine behind (w - o.n) _ _ (by rw [show w + -o.n = w - o.n by omega]; exact W_id hb4 (by omega)) (by omega) hb4 ?_ ?_ (hkT.put ?_ _)
            · simp [hwt]
            · simp; omega
            · omega
          · simp [hoT, a0, n3, size_iff hbT (show 2 ≤ k1 by omega), take_iff hbT (show 2 ≤ k1 by omega), h0, hwt, hpos, hng, hng', R10.j_55, R10.g_47, R10.g_80, R10.g_85, R10.top]
            refine behind (w - o.n) _ _ (by rw [show w + -o.n = w - o.n by omega]; exact W_id hb4 (by omega)) (by omega) hb4 ?_ ?_ (hkT.put ?_ _)
            · simp [hwt]
            · simp; omega
            · omega
        · have hwt : takeW w o.n = w := by simp [takeW, h0]
          simp [hoT, a0, n3, size_iff hbT (show 2 ≤ k1 by omega), take_iff hbT (show 2 ≤ k1 by omega), h0, hwt, R10.j_55, R10.g_47, R10.g_80, R10.g_85, R10.top]
          refine behind w 0 _ (by simp [hww]) hwm hwl ?_ ?_ (hkT.put ?_ _)
          · simp
          · simp; omega
          · omega
      · by_cases a1 : o.what = 1
        · simp [hoT, a1, n3, size_iff hbT (show 2 ≤ k1 by omega)]
          refine (add_spec hbT (by omega) (by omega)).mono ?_
          rintro v T2 ⟨rfl, hu⟩
          exact more 1 T2 hu
        · simp [hoT, a0, a1, n3, size_iff hbT (show 2 ≤ k1 by omega)]
          refine (shift_spec hbT (by omega) (by omega)).mono ?_
          rintro v T2 ⟨rfl, hu⟩
          exact more _ T2 hu
    · simp only [R10.b_106, R10.g_47, R10.g_80, R10.g_85, R10.top, I]
      simp [len_iff hxi, hlt]
      refine (awake_spec (by omega)).mono ?_
      rintro v _ rfl
      simp
  · exact absurd ⟨hM.1, hM.2⟩ hg
end Go.Proofs.Ytlgeeibaohdjhaa
