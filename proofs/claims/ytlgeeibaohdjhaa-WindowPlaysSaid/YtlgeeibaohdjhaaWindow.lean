/- Plain laws of what Window computes. -/
import Derived.Test.YtlgeeibaohdjhaaRes11
import Derived.Test.YtlgeeibaohdjhaaEngV
set_option linter.unusedVariables false
set_option linter.unusedSimpArgs false
namespace Go.Proofs.Ytlgeeibaohdjhaa
open Go.Proofs.Ytlgeeibaohdjhaa.Eng
def big : Nat := 9223372036854775808
def I (n : Int) : Value := .int .i64 n
abbrev W (n : Int) : Int := IntKind.i64.wrap n
theorem und64 : undP Try.prog 64 isPtrT = true := undP_of Try.underlying64
theorem und67 : undP Try.prog 67 isPtrT = true := undP_of Try.underlying67
theorem und111 : undP Try.prog 111 isPtrT = true := undP_of Try.underlying111
theorem und4 : undP Try.prog 4 isBoolT = true := undP_of Try.underlying4
attribute [local simp] und64 und67 und111 und4
def wcs (w : Int) : List Value := [.bool true, .int .i64 w]
section
variable {σ : AW} {b c k : Nat} {e : TypeId} {w n : Int} {Q : Value → AW → Prop}
theorem between_iff {lo hi : Int} {s : Nat} {ro : Bool} (hs : σ.get s = some (.cells [.int .i64 n] e ro)) (hk : 3 ≤ k) : wpA (callN Try.prog k 55 [.int .i64 lo, .int .i64 hi, .slice (some ⟨s, 0, some 1⟩) 1 1]) σ Q ↔ Q (.bool (decide (lo ≤ n ∧ n ≤ hi))) σ := by
  rw [callN_at (by omega), R55.eq]
  have w1 : IntKind.i64.wrap (0 + 1) = 1 := by decide
  have w2 : IntKind.i64.wrap 1 = 1 := by decide
  by_cases h1 : n < lo
  · have h3 : ¬ lo ≤ n := by omega
    simp [R55.top, loop1_at (show 1 ≤ k - 1 by omega), R55.b_29, R55.g_24, R55.top, hs, h1, h3]
  · have h3 : lo ≤ n := by omega
    by_cases h2 : hi < n
    · have h4 : ¬ n ≤ hi := by omega
      simp [R55.top, loop1_at (show 1 ≤ k - 1 by omega), R55.b_29, R55.g_24, R55.top, hs, h1, h2, h3, h4]
    · have h4 : n ≤ hi := by omega
      simp [R55.top, loop1_at (show 1 ≤ k - 1 by omega), loop1_at (show 1 ≤ k - 1 - 1 by omega), R55.b_29, R55.g_24, R55.top, hs, h1, h2, h3, h4, w1, w2]
theorem none_iff {v : Value} (hb : σ.get b = some (.cells [.bool true, v] e false)) (hk : 1 ≤ k) : wpA (callN Try.prog k 56 [ptr b]) σ Q ↔ Q (.bool false) σ := by
  rw [callN_at (by omega), R56.eq]
  simp [R56.g_9, R56.top, hb]
theorem none_nil (hk : 1 ≤ k) : wpA (callN Try.prog k 56 [.pointer none]) σ Q ↔ Q (.bool true) σ := by
  rw [callN_at (by omega), R56.eq]
  simp [R56.g_9, R56.top]
theorem none_zero {v : Value} (hb : σ.get b = some (.cells [.bool false, v] e false)) (hk : 1 ≤ k) : wpA (callN Try.prog k 56 [ptr b]) σ Q ↔ Q (.bool true) σ := by
  rw [callN_at (by omega), R56.eq]
  simp [R56.g_9, R56.top, hb]
theorem size_iff (hb : σ.get b = some (.cells (wcs w) e false)) (hk : 2 ≤ k) : wpA (callN Try.prog k 38 [ptr b]) σ Q ↔ Q (.int .i64 w) σ := by
  rw [callN_at (by omega), R38.eq]
  have h2 : ∀ Q, wpA (callN Try.prog (k - 1) 59 [ptr b]) σ Q ↔ Q (.int .i64 w) σ := fun Q => by
    rw [callN_at (by omega), R59.eq]
    simp [R59.top, hb, wcs]
  simp [R38.top, none_iff hb (show 1 ≤ k - 1 by omega), h2]
def takeE (w n : Int) : Int := if n < 0 then 1 else if (if 0 > w then 0 else w) < n then 110 else 0
def takeW (w n : Int) : Int := if takeE w n = 0 then W (w - n) else w
theorem take_iff (hb : σ.get b = some (.cells (wcs w) e false)) (hk : 2 ≤ k) : wpA (callN Try.prog k 32 [ptr b, .int .i64 n]) σ Q ↔ Q (.int .i64 (takeE w n)) (σ.put b (some (.cells (wcs (takeW w n)) e false))) := by
  rw [callN_at (by omega), R32.eq]
  by_cases h1 : n < 0
  · have e1 : takeE w n = 1 := by simp [takeE, h1]
    have e2 : takeW w n = w := by simp [takeW, e1]
    rw [e1, e2, put_same hb]
    simp [R32.top, none_iff hb (show 1 ≤ k - 1 by omega), h1]
  · by_cases h2 : (if 0 > w then 0 else w) < n
    · have e1 : takeE w n = 110 := by simp only [takeE, h1, if_false, h2, if_true]
      have e2 : takeW w n = w := by simp [takeW, e1]
      rw [e1, e2, put_same hb]
      simp only [gt_iff_lt] at h2
      simp [R32.top, none_iff hb (show 1 ≤ k - 1 by omega), h1, hb, wcs, h2]
    · have e1 : takeE w n = 0 := by simp only [takeE, h1, if_false, h2]
      have e2 : takeW w n = W (w - n) := by simp [takeW, e1]
      rw [e1, e2]
      simp only [gt_iff_lt] at h2
      simp [R32.top, none_iff hb (show 1 ≤ k - 1 by omega), h1, hb, wcs, h2]
theorem rtake_iff (hb : σ.get b = some (.cells [.int .i64 w] e false)) (hk : 1 ≤ k) : wpA (callN Try.prog k 33 [ptr b, .int .i64 n]) σ Q ↔ Q (.int .i64 (takeE w n)) (σ.put b (some (.cells [.int .i64 (takeW w n)] e false))) := by
  rw [callN_at (by omega), R33.eq]
  by_cases h1 : n < 0
  · have e1 : takeE w n = 1 := by simp [takeE, h1]
    have e2 : takeW w n = w := by simp [takeW, e1]
    rw [e1, e2, put_same hb]
    simp [R33.g_20, R33.top, h1]
  · by_cases h3 : 0 < n
    · by_cases h4 : w < n
      · have e1 : takeE w n = 110 := by
          have : (if 0 > w then 0 else w) < n := by split <;> omega
          simp only [takeE, h1, if_false, this, if_true]
        have e2 : takeW w n = w := by simp [takeW, e1]
        rw [e1, e2, put_same hb]
        simp [R33.g_20, R33.top, h1, h3, h4, hb]
      · have e1 : takeE w n = 0 := by
          have : ¬ (if 0 > w then 0 else w) < n := by split <;> omega
          simp only [takeE, h1, if_false, this]
        have e2 : takeW w n = W (w - n) := by simp [takeW, e1]
        rw [e1, e2]
        simp [R33.g_20, R33.top, h1, h3, h4, hb]
    · have e1 : takeE w n = 0 := by
        have : ¬ (if 0 > w then 0 else w) < n := by split <;> omega
        simp only [takeE, h1, if_false, this]
      have e2 : takeW w n = W (w - n) := by simp [takeW, e1]
      rw [e1, e2]
      simp [R33.g_20, R33.top, h1, h3, hb]
def moreE (least w n : Int) : Int := if least ≤ n ∧ n ≤ 2147483647 then (if W (w + n) ≤ 2147483647 then 0 else 2) else 1
def moreW (least w n : Int) : Int := if moreE least w n = 0 then W (w + n) else w
theorem more_spec {least : Int} (hb : σ.get b = some (.cells (wcs w) e false)) (hlt : b < σ.next) (hk : 4 ≤ k) : wpA (callN Try.prog k 57 [ptr b, .int .i64 n, .int .i64 least]) σ fun v τ => v = .int .i64 (moreE least w n) ∧ Upe b (.cells (wcs (moreW least w n)) e false) σ τ := by
  rw [callN_at (by omega), R57.eq]
  have hne : ¬ b = σ.next := by omega
  have hne2 : ¬ b = σ.next + 1 := by omega
  have hbt := fun (τ : AW) (s : Nat) (m lo hi : Int) (Q : Value → AW → Prop) (hs : τ.get s = some (.cells [.int .i64 m] 3 false)) => between_iff (k := k - 1) (lo := lo) (hi := hi) (Q := Q) hs (by omega)
  simp only [R57.top]
  simp [none_iff hb (show 1 ≤ k - 1 by omega), zeros, List.range_succ]
  rw [hbt _ _ n _ _ _ (by simp)]
  by_cases h1 : least ≤ n ∧ n ≤ 2147483647
  · have hle : W (w + n) ≤ W (w + n) := Int.le_refl _
    simp [h1, hne, hne2, hb, wcs, zeros, List.range_succ]
    rw [hbt _ _ (W (w + n)) _ _ _ (by simp)]
    by_cases h2 : W (w + n) ≤ 2147483647
    · have e1 : moreE least w n = 0 := by simp only [moreE, h1, and_self, if_true, h2]
      have e2 : moreW least w n = W (w + n) := by simp [moreW, e1]
      simp [h2, hne, hne2, hb, wcs, e1, e2, Upe]
      refine ⟨by omega, fun c hc hlt => ?_⟩
      rw [if_neg hc, if_neg (by omega), if_neg (by omega)]
    · have e1 : moreE least w n = 2 := by simp only [moreE, h1, and_self, if_true, h2, if_false]
      have e2 : moreW least w n = w := by simp [moreW, e1]
      simp [h2, hne, hne2, hb, wcs, e1, e2, Upe]
      refine ⟨by omega, fun c hc hlt => ?_⟩
      rw [if_neg (by omega), if_neg (by omega)]
  · have e1 : moreE least w n = 1 := by simp only [moreE, h1, if_false]
    have e2 : moreW least w n = w := by simp [moreW, e1]
    simp [h1, hne, hb, e1, e2, Upe]
    intro c hc hlt heq
    omega
theorem add_spec (hb : σ.get b = some (.cells (wcs w) e false)) (hlt : b < σ.next) (hk : 5 ≤ k) : wpA (callN Try.prog k 34 [ptr b, .int .i64 n]) σ fun v τ => v = .int .i64 (moreE 1 w n) ∧ Upe b (.cells (wcs (moreW 1 w n)) e false) σ τ := by
  rw [callN_at (by omega), R34.eq]
  simp [R34.top]
  exact more_spec hb hlt (by omega)
theorem shift_spec (hb : σ.get b = some (.cells (wcs w) e false)) (hlt : b < σ.next) (hk : 5 ≤ k) : wpA (callN Try.prog k 36 [ptr b, .int .i64 n]) σ fun v τ => v = .int .i64 (moreE (-2147483647) w n) ∧ Upe b (.cells (wcs (moreW (-2147483647) w n)) e false) σ τ := by
  rw [callN_at (by omega), R36.eq]
  simp [R36.top]
  exact more_spec hb hlt (by omega)
theorem rgrow_iff (hb : σ.get b = some (.cells [.int .i64 w] e false)) (hk : 1 ≤ k) : wpA (callN Try.prog k 58 [ptr b, .int .i64 n]) σ Q ↔ Q (.int .i64 (if W (w + n) ≤ 2147483647 then 0 else 2)) (σ.put b (some (.cells [.int .i64 (if W (w + n) ≤ 2147483647 then W (w + n) else w)] e false))) := by
  rw [callN_at (by omega), R58.eq]
  by_cases h : W (w + n) ≤ 2147483647
  · have h' : ¬ 2147483647 < W (w + n) := by omega
    simp [R58.top, hb, h, h']
  · have h' : 2147483647 < W (w + n) := by omega
    simp only [h, if_false]
    rw [put_same hb]
    simp [R58.top, hb, h']
theorem radd_iff (hb : σ.get b = some (.cells [.int .i64 w] e false)) (hk : 2 ≤ k) : wpA (callN Try.prog k 35 [ptr b, .int .i64 n]) σ Q ↔ Q (.int .i64 (moreE 1 w n)) (σ.put b (some (.cells [.int .i64 (moreW 1 w n)] e false))) := by
  rw [callN_at (by omega), R35.eq]
  by_cases h1 : 1 ≤ n ∧ n ≤ 2147483647
  · have a1 : ¬ n < 1 := by omega
    have a2 : ¬ 2147483647 < n := by omega
    have e1 : moreE 1 w n = (if W (w + n) ≤ 2147483647 then 0 else 2) := by simp only [moreE, h1, and_self, if_true]
    have e2 : moreW 1 w n = (if W (w + n) ≤ 2147483647 then W (w + n) else w) := by unfold moreW; rw [e1]; split <;> simp
    rw [e1, e2]
    simp [R35.g_14, R35.top, a1, a2, rgrow_iff hb (show 1 ≤ k - 1 by omega)]
  · have e1 : moreE 1 w n = 1 := by simp only [moreE, h1, if_false]
    have e2 : moreW 1 w n = w := by simp [moreW, e1]
    rw [e1, e2, put_same hb]
    by_cases a1 : n < 1
    · simp [R35.g_14, R35.top, a1]
    · have a2 : 2147483647 < n := by omega
      simp [R35.g_14, R35.top, a1, a2]
theorem rshift_iff (hb : σ.get b = some (.cells [.int .i64 w] e false)) (hk : 2 ≤ k) : wpA (callN Try.prog k 37 [ptr b, .int .i64 n]) σ Q ↔ Q (.int .i64 (moreE (-2147483647) w n)) (σ.put b (some (.cells [.int .i64 (moreW (-2147483647) w n)] e false))) := by
  rw [callN_at (by omega), R37.eq]
  by_cases h1 : (-2147483647) ≤ n ∧ n ≤ 2147483647
  · have a1 : ¬ n < -2147483647 := by omega
    have a2 : ¬ 2147483647 < n := by omega
    have e1 : moreE (-2147483647) w n = (if W (w + n) ≤ 2147483647 then 0 else 2) := by simp only [moreE, h1, and_self, if_true]
    have e2 : moreW (-2147483647) w n = (if W (w + n) ≤ 2147483647 then W (w + n) else w) := by unfold moreW; rw [e1]; split <;> simp
    rw [e1, e2]
    simp [R37.g_14, R37.top, a1, a2, rgrow_iff hb (show 1 ≤ k - 1 by omega)]
  · have e1 : moreE (-2147483647) w n = 1 := by simp only [moreE, h1, if_false]
    have e2 : moreW (-2147483647) w n = w := by simp [moreW, e1]
    rw [e1, e2, put_same hb]
    by_cases a1 : n < -2147483647
    · simp [R37.g_14, R37.top, a1]
    · have a2 : 2147483647 < n := by omega
      simp [R37.g_14, R37.top, a1, a2]
def good (n : Int) : Prop := 0 ≤ n ∧ n ≤ 2147483647
instance (n : Int) : Decidable (good n) := inferInstanceAs (Decidable (_ ∧ _))
def NewOk (σ : AW) (n : Int) (cs : List Value) (e : TypeId) (v : Value) (τ : AW) : Prop :=
  Ext σ τ ∧ ((good n ∧ ∃ b, v = .tuple #[ptr b, .int .i64 0] ∧ σ.next ≤ b ∧ b < τ.next ∧ τ.get b = some (.cells cs e false)) ∨ (¬ good n ∧ v = .tuple #[.pointer none, .int .i64 1]))
theorem new_spec (hk : 4 ≤ k) : wpA (callN Try.prog k 30 [.int .i64 n]) σ (NewOk σ n (wcs n) 93) := by
  rw [callN_at (by omega), R30.eq]
  simp [R30.top, zeros, List.range_succ]
  rw [between_iff (n := n) (e := 3) (ro := false) (by simp) (by omega)]
  by_cases h : 0 ≤ n ∧ n ≤ 2147483647
  · simp [h]
    exact ⟨(Ext.push _ _).trans (Ext.push _ _), .inl ⟨h, _, rfl, by simp, by simp, by simp [wcs]⟩⟩
  · simp [h]
    exact ⟨Ext.push _ _, .inr ⟨h, rfl⟩⟩
theorem rnew_spec (hk : 1 ≤ k) : wpA (callN Try.prog k 31 [.int .i64 n]) σ (NewOk σ n [.int .i64 n] 75) := by
  rw [callN_at (by omega), R31.eq]
  by_cases h : good n
  · have a1 : ¬ n < 0 := by have := h.1; omega
    have a2 : ¬ 2147483647 < n := by have := h.2; omega
    simp [R31.g_17, R31.top, a1, a2]
    exact ⟨Ext.push _ _, .inl ⟨h, _, rfl, by simp, by simp, by simp⟩⟩
  · by_cases a1 : n < 0
    · simp [R31.g_17, R31.top, a1]
      exact ⟨Ext.refl _, .inr ⟨h, rfl⟩⟩
    · have a2 : 2147483647 < n := by unfold good at h; omega
      simp [R31.g_17, R31.top, a1, a2]
      exact ⟨Ext.refl _, .inr ⟨h, rfl⟩⟩
theorem awake_spec (hk : 10 ≤ k) : wpA (callN Try.prog k 39 []) σ fun v τ => v = .bool true := by
  rw [callN_at (by omega), R39.eq]
  simp [R39.g_18, R39.g_22, R39.top]
  refine (new_spec (by omega)).mono ?_
  rintro v τ ⟨he, ⟨hg, b, rfl, h1, h2, h3⟩ | ⟨hg, _⟩⟩
  · simp [R39.g_18, R39.g_22, R39.top, size_iff h3 (show 2 ≤ k - 1 by omega)]
  · exact absurd ⟨by decide, by decide⟩ hg
end
end Go.Proofs.Ytlgeeibaohdjhaa
