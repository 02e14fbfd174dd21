/- What credits compute, and their laws. -/
import Derived.Test.YtlgeeibaohdjhaaWindowB
set_option linter.unusedVariables false
set_option linter.unusedSimpArgs false
namespace Go.Proofs.Ytlgeeibaohdjhaa
open Go.Proofs.Ytlgeeibaohdjhaa.Eng
theorem und79 : undP Try.prog 79 isPtrT = true := undP_of Try.underlying79
theorem und83 : undP Try.prog 83 isPtrT = true := undP_of Try.underlying83
attribute [local simp] und64 und67 und111 und4 und79 und83
structure Cr where
  n : Int
  top : Int
  held : Int
  owed : Int
def Cr.cs (c : Cr) : List Value := [.bool true, .int .i64 c.n, .int .i64 c.top, .int .i64 c.held, .int .i64 c.owed]
def Cr.rcs (c : Cr) : List Value := [.int .i64 c.top, .int .i64 c.n, .int .i64 c.held, .int .i64 c.owed]
def Cr.gotE (c : Cr) (n : Int) : Int := if n < 0 then 1 else if c.n < n then 110 else 0
def Cr.got (c : Cr) (n : Int) : Cr := if c.gotE n = 0 then { c with n := W (c.n - n), held := W (c.held + n) } else c
def Cr.usedE (c : Cr) (n : Int) : Int := if 0 ≤ n ∧ n ≤ c.held then 0 else 1
def Cr.used (c : Cr) (n : Int) : Cr := if c.usedE n = 0 then { c with held := W (c.held - n), owed := W (c.owed + n) } else c
def Cr.giveN (c : Cr) : Bool := decide (c.owed = 0) || decide (W (2 * c.owed) < c.top)
def Cr.giveV (c : Cr) : Int := if c.giveN = true then 0 else c.owed
def Cr.give (c : Cr) : Cr := if c.giveN = true then c else { c with n := W (c.n + c.owed), owed := 0 }
section
variable {σ : AW} {b k : Nat} {e : TypeId} {m : Cr} {n : Int} {Q : Value → AW → Prop}
theorem cnone_iff {v1 v2 v3 v4 : Value} (hb : σ.get b = some (.cells [.bool true, v1, v2, v3, v4] e false)) (hk : 1 ≤ k) : wpA (callN Try.prog k 60 [ptr b]) σ Q ↔ Q (.bool false) σ := by
  rw [callN_at (by omega), R60.eq]
  simp [R60.g_9, R60.top, hb]
theorem cnone_nil (hk : 1 ≤ k) : wpA (callN Try.prog k 60 [.pointer none]) σ Q ↔ Q (.bool true) σ := by
  rw [callN_at (by omega), R60.eq]
  simp [R60.g_9, R60.top]
theorem cnone_zero {v1 v2 v3 v4 : Value} (hb : σ.get b = some (.cells [.bool false, v1, v2, v3, v4] e false)) (hk : 1 ≤ k) : wpA (callN Try.prog k 60 [ptr b]) σ Q ↔ Q (.bool true) σ := by
  rw [callN_at (by omega), R60.eq]
  simp [R60.g_9, R60.top, hb]
theorem csize_iff (hb : σ.get b = some (.cells m.cs e false)) (hk : 2 ≤ k) : wpA (callN Try.prog k 44 [ptr b]) σ Q ↔ Q (.int .i64 m.n) σ := by
  rw [callN_at (by omega), R44.eq]
  have h2 : ∀ Q, wpA (callN Try.prog (k - 1) 59 [ptr b]) σ Q ↔ Q (.int .i64 m.n) σ := fun Q => by
    rw [callN_at (by omega), R59.eq]
    simp [R59.top, hb, Cr.cs]
  simp [R44.top, cnone_iff hb (show 1 ≤ k - 1 by omega), h2]
theorem cheld_iff (hb : σ.get b = some (.cells m.cs e false)) (hk : 2 ≤ k) : wpA (callN Try.prog k 45 [ptr b]) σ Q ↔ Q (.int .i64 m.held) σ := by
  rw [callN_at (by omega), R45.eq]
  simp [R45.top, cnone_iff hb (show 1 ≤ k - 1 by omega), hb, Cr.cs]
theorem got_iff (hb : σ.get b = some (.cells m.cs e false)) (hk : 2 ≤ k) : wpA (callN Try.prog k 41 [ptr b, .int .i64 n]) σ Q ↔ Q (.int .i64 (m.gotE n)) (σ.put b (some (.cells (m.got n).cs e false))) := by
  rw [callN_at (by omega), R41.eq]
  by_cases h1 : n < 0
  · have e1 : m.gotE n = 1 := by simp [Cr.gotE, h1]
    have e2 : m.got n = m := by simp [Cr.got, e1]
    rw [e1, e2, put_same hb]
    simp [R41.top, cnone_iff hb (show 1 ≤ k - 1 by omega), h1]
  · by_cases h2 : m.n < n
    · have e1 : m.gotE n = 110 := by simp [Cr.gotE, h1, h2]
      have e2 : m.got n = m := by simp [Cr.got, e1]
      rw [e1, e2, put_same hb]
      simp [R41.top, cnone_iff hb (show 1 ≤ k - 1 by omega), h1, h2, hb, Cr.cs]
    · have e1 : m.gotE n = 0 := by simp [Cr.gotE, h1, h2]
      have e2 : m.got n = { m with n := W (m.n - n), held := W (m.held + n) } := by simp [Cr.got, e1]
      rw [e1, e2]
      simp [R41.top, cnone_iff hb (show 1 ≤ k - 1 by omega), h1, h2, hb, Cr.cs]
theorem rgot_iff (hb : σ.get b = some (.cells m.rcs e false)) (hk : 2 ≤ k) : wpA (callN Try.prog k 47 [ptr b, .int .i64 n]) σ Q ↔ Q (.int .i64 (m.gotE n)) (σ.put b (some (.cells (m.got n).rcs e false))) := by
  rw [callN_at (by omega), R47.eq]
  by_cases h1 : n < 0
  · have e1 : m.gotE n = 1 := by simp [Cr.gotE, h1]
    have e2 : m.got n = m := by simp [Cr.got, e1]
    rw [e1, e2, put_same hb]
    simp [R47.top, h1]
  · by_cases h2 : m.n < n
    · have e1 : m.gotE n = 110 := by simp [Cr.gotE, h1, h2]
      have e2 : m.got n = m := by simp [Cr.got, e1]
      rw [e1, e2, put_same hb]
      simp [R47.top, h1, h2, hb, Cr.rcs]
    · have e1 : m.gotE n = 0 := by simp [Cr.gotE, h1, h2]
      have e2 : m.got n = { m with n := W (m.n - n), held := W (m.held + n) } := by simp [Cr.got, e1]
      rw [e1, e2]
      simp [R47.top, h1, h2, hb, Cr.rcs]
theorem used_spec (hb : σ.get b = some (.cells m.cs e false)) (hlt : b < σ.next) (hk : 4 ≤ k) : wpA (callN Try.prog k 42 [ptr b, .int .i64 n]) σ fun v τ => v = .int .i64 (m.usedE n) ∧ Upe b (.cells (m.used n).cs e false) σ τ := by
  rw [callN_at (by omega), R42.eq]
  have hne : ¬ b = σ.next := by omega
  simp [R42.top, cnone_iff hb (show 1 ≤ k - 1 by omega), hb, Cr.cs, zeros, List.range_succ]
  rw [between_iff (n := n) (e := 3) (ro := false) (by simp) (by omega)]
  by_cases h : 0 ≤ n ∧ n ≤ m.held
  · have e1 : m.usedE n = 0 := by simp [Cr.usedE, h]
    have e2 : m.used n = { m with held := W (m.held - n), owed := W (m.owed + n) } := by simp [Cr.used, e1]
    rw [e1, e2]
    simp [h, hne, hb, Cr.cs, Upe]
    intro c hc hlt
    rw [if_neg hc, if_neg hc, if_neg (by omega)]
  · have e1 : m.usedE n = 1 := by simp [Cr.usedE, h]
    have e2 : m.used n = m := by simp [Cr.used, e1]
    rw [e1, e2]
    simp [h, hne, hb, Cr.cs, Upe]
    intro c hc hlt heq
    omega
theorem rused_iff (hb : σ.get b = some (.cells m.rcs e false)) (hk : 2 ≤ k) : wpA (callN Try.prog k 48 [ptr b, .int .i64 n]) σ Q ↔ Q (.int .i64 (m.usedE n)) (σ.put b (some (.cells (m.used n).rcs e false))) := by
  rw [callN_at (by omega), R48.eq]
  by_cases h : 0 ≤ n ∧ n ≤ m.held
  · have e1 : m.usedE n = 0 := by simp [Cr.usedE, h]
    have e2 : m.used n = { m with held := W (m.held - n), owed := W (m.owed + n) } := by simp [Cr.used, e1]
    have a1 : ¬ n < 0 := by omega
    have a2 : ¬ m.held < n := by omega
    rw [e1, e2]
    simp [R48.g_29, R48.top, a1, a2, hb, Cr.rcs]
  · have e1 : m.usedE n = 1 := by simp [Cr.usedE, h]
    have e2 : m.used n = m := by simp [Cr.used, e1]
    rw [e1, e2, put_same hb]
    by_cases a1 : n < 0
    · simp [R48.g_29, R48.top, a1]
    · have a2 : m.held < n := by omega
      simp [R48.g_29, R48.top, a1, a2, hb, Cr.rcs]
theorem give_iff (hb : σ.get b = some (.cells m.cs e false)) (hk : 2 ≤ k) : wpA (callN Try.prog k 43 [ptr b]) σ Q ↔ Q (.int .i64 m.giveV) (σ.put b (some (.cells m.give.cs e false))) := by
  rw [callN_at (by omega), R43.eq]
  by_cases h1 : m.owed = 0
  · have e1 : m.giveV = 0 := by simp [Cr.giveV, Cr.giveN, h1]
    have e2 : m.give = m := by simp [Cr.give, Cr.giveN, h1]
    rw [e1, e2, put_same hb]
    simp [R43.d_26, R43.top, cnone_iff hb (show 1 ≤ k - 1 by omega), h1, hb, Cr.cs]
  · by_cases h2 : W (2 * m.owed) < m.top
    · have e1 : m.giveV = 0 := by simp [Cr.giveV, Cr.giveN, h2]
      have e2 : m.give = m := by simp [Cr.give, Cr.giveN, h2]
      rw [e1, e2, put_same hb]
      simp [R43.d_26, R43.top, cnone_iff hb (show 1 ≤ k - 1 by omega), h1, h2, hb, Cr.cs]
    · have e1 : m.giveV = m.owed := by simp [Cr.giveV, Cr.giveN, h1, h2]
      have e2 : m.give = { m with n := W (m.n + m.owed), owed := 0 } := by simp [Cr.give, Cr.giveN, h1, h2]
      rw [e1, e2]
      simp [R43.d_26, R43.top, cnone_iff hb (show 1 ≤ k - 1 by omega), h1, h2, hb, Cr.cs]
theorem rgive_iff (hb : σ.get b = some (.cells m.rcs e false)) (hk : 2 ≤ k) : wpA (callN Try.prog k 49 [ptr b]) σ Q ↔ Q (.int .i64 m.giveV) (σ.put b (some (.cells m.give.rcs e false))) := by
  rw [callN_at (by omega), R49.eq]
  by_cases h1 : m.owed = 0
  · have e1 : m.giveV = 0 := by simp [Cr.giveV, Cr.giveN, h1]
    have e2 : m.give = m := by simp [Cr.give, Cr.giveN, h1]
    rw [e1, e2, put_same hb]
    simp [R49.d_25, R49.top, h1, hb, Cr.rcs]
  · by_cases h2 : W (2 * m.owed) < m.top
    · have e1 : m.giveV = 0 := by simp [Cr.giveV, Cr.giveN, h2]
      have e2 : m.give = m := by simp [Cr.give, Cr.giveN, h2]
      rw [e1, e2, put_same hb]
      simp [R49.d_25, R49.top, h1, h2, hb, Cr.rcs]
    · have e1 : m.giveV = m.owed := by simp [Cr.giveV, Cr.giveN, h1, h2]
      have e2 : m.give = { m with n := W (m.n + m.owed), owed := 0 } := by simp [Cr.give, Cr.giveN, h1, h2]
      rw [e1, e2]
      simp [R49.d_25, R49.top, h1, h2, hb, Cr.rcs]
def newC (n : Int) : Cr := ⟨n, n, 0, 0⟩
theorem cnew_spec (hk : 4 ≤ k) : wpA (callN Try.prog k 40 [.int .i64 n]) σ (NewOk σ n (newC n).cs 95) := by
  rw [callN_at (by omega), R40.eq]
  simp [R40.top, zeros, List.range_succ]
  rw [between_iff (n := n) (e := 3) (ro := false) (by simp) (by omega)]
  by_cases h : 0 ≤ n ∧ n ≤ 2147483647
  · simp [h]
    exact ⟨(Ext.push _ _).trans (Ext.push _ _), .inl ⟨h, _, rfl, by simp, by simp, by simp [Cr.cs, newC]⟩⟩
  · simp [h]
    exact ⟨Ext.push _ _, .inr ⟨h, rfl⟩⟩
theorem rcnew_spec (hk : 1 ≤ k) : wpA (callN Try.prog k 46 [.int .i64 n]) σ (NewOk σ n (newC n).rcs 87) := by
  rw [callN_at (by omega), R46.eq]
  by_cases h : good n
  · have a1 : ¬ n < 0 := by have := h.1; omega
    have a2 : ¬ 2147483647 < n := by have := h.2; omega
    simp [R46.g_18, R46.top, a1, a2]
    exact ⟨Ext.push _ _, .inl ⟨h, _, rfl, by simp, by simp, by simp [Cr.rcs, newC]⟩⟩
  · by_cases a1 : n < 0
    · simp [R46.g_18, R46.top, a1]
      exact ⟨Ext.refl _, .inr ⟨h, rfl⟩⟩
    · have a2 : 2147483647 < n := by unfold good at h; omega
      simp [R46.g_18, R46.top, a1, a2]
      exact ⟨Ext.refl _, .inr ⟨h, rfl⟩⟩
end
theorem law_WindowCredits {σ : AW} {x : Value} {l : List Op} {m : Int} {n k : Nat} (hx : Sl σ x 2 n (l.flatMap Op.cs)) (hl : l.length < big) (hk : big + 50 ≤ k) : wpA (callN Try.prog k 12 [.int .i64 m, x]) σ fun v _ => v = .bool true := by
  have e1 := op_sl hx
  subst e1
  rw [callN_at (by omega), R12.eq]
  have hbig : big + 49 ≤ k - 1 := by omega
  generalize hk1 : k - 1 = k1 at hbig
  simp [R12.d_34, R12.g_99, R12.g_115, R12.top]
  refine (cnew_spec (by omega)).mono ?_
  rintro v τ ⟨he, ⟨hg, b, rfl, h1, h2, h3⟩ | ⟨hg, rfl⟩⟩
  · simp
    refine (rcnew_spec (by omega)).mono ?_
    rintro v υ ⟨hf, ⟨_, c, rfl, k1', k2, k3⟩ | ⟨hg', _⟩⟩
    · simp [R12.d_34, R12.g_99, R12.g_115, R12.top]
      have hne : ¬ b = c := by omega
      have hne' : ¬ c = b := by omega
      have hb0 : υ.get b = some (.cells (newC m).cs 95 false) := by rw [hf.2 _ h2]; exact h3
      refine aw_loop1 (fun r v τ' => ∃ (i : Nat) (w : Cr), v = I i ∧ i ≤ l.length ∧ r = l.length - i ∧ Kept σ.next σ τ' ∧ b < τ'.next ∧ c < τ'.next ∧ τ'.get b = some (.cells w.cs 95 false) ∧ τ'.get c = some (.cells w.rcs 87 false)) ?_ k1 l.length _ υ ⟨0, newC m, rfl, by omega, by omega, he.trans hf, by have := hf.1; omega, k2, hb0, k3⟩ (by omega)
      rintro r rec v τ' ⟨i, w, rfl, hi, rfl, hki, hbn, hcn, hbi, hci⟩ hrec
      have hxi := hx.kept (Nat.le_refl _) hki
      have hsn := hki.1
      by_cases hlt : i < l.length
      · obtain ⟨o, ho⟩ : ∃ o, l[i]? = some o := ⟨_, List.getElem?_eq_getElem hlt⟩
        have hwi : IntKind.i64.wrap ((i : Int) + 1) = ((i + 1 : Nat) : Int) := wrap64 (by omega) (by unfold big at hl; omega)
        have behind : ∀ (w' : Cr) τ2, τ2.get b = some (.cells w'.cs 95 false) → τ2.get c = some (.cells w'.rcs 87 false) → b < τ2.next → c < τ2.next → Kept σ.next σ τ2 → wpA (R12.j_54 (callN Try.prog k1) k1 rec (ptr b) (ptr c) (.int .i64 i)) τ2 fun v _ => v = .bool true := fun w' τ2 g1 g2 g3 g4 g5 => by
          simp [R12.d_34, R12.j_54, R12.g_99, R12.g_115, R12.top, csize_iff g1 (show 2 ≤ k1 by omega), cheld_iff g1 (show 2 ≤ k1 by omega), g2, hwi, Cr.rcs]
          exact hrec (l.length - (i + 1)) _ _ (by omega) ⟨i + 1, w', rfl, by omega, rfl, g5, g3, g4, g1, g2⟩
        have n1 : ¬ b = τ'.next := by omega
        have n2 : ¬ c = τ'.next := by omega
        have n3 : ¬ τ'.next = b := by omega
        have n4 : ¬ τ'.next = c := by omega
        have hT : ∃ T, T = (τ'.push (.cells [.int .i64 0, .int .i64 0] 71 false)).put τ'.next (some (.cells [.int .i64 o.what, .int .i64 o.n] 71 false)) := ⟨_, rfl⟩
        obtain ⟨T, hT⟩ := hT
        have hbT : T.get b = some (.cells w.cs 95 false) := by rw [hT]; simp [n1, hbi]
        have hcT : T.get c = some (.cells w.rcs 87 false) := by rw [hT]; simp [n2, hci]
        have hoT : T.get τ'.next = some (.cells [.int .i64 o.what, .int .i64 o.n] 71 false) := by rw [hT]; simp
        have hnT : T.next = τ'.next + 1 := by rw [hT]; simp
        have hkT : Kept σ.next σ T := by rw [hT]; exact (hki.push hsn _).put hsn _
        simp only [R12.b_104, R12.d_34, R12.g_99, R12.g_115, R12.top, I]
        simp [len_iff hxi, hlt, ↓atS_all Op.len (by omega) hxi ho, Op.cs]
        rw [← hT]
        by_cases a0 : o.what = 0
        · have hc2 : (T.put b (some (.cells (w.got o.n).cs 95 false))).get c = some (.cells w.rcs 87 false) := by simp [hne', hcT]
          simp [hoT, a0, n3, got_iff hbT (show 2 ≤ k1 by omega), rgot_iff hc2 (show 2 ≤ k1 by omega)]
          refine behind (w.got o.n) _ ?_ ?_ ?_ ?_ ((hkT.put ?_ _).put ?_ _)
          · simp [hne]
          · simp
          · simp; omega
          · simp; omega
          · omega
          · omega
        · by_cases a1 : o.what = 1
          · simp [hoT, a1, n3]
            refine (used_spec hbT (by omega) (by omega)).mono ?_
            rintro v T2 ⟨rfl, hu⟩
            have hc2 : T2.get c = some (.cells w.rcs 87 false) := by rw [hu.2.2 c hne' (by omega)]; exact hcT
            have ho2 : T2.get τ'.next = some (.cells [.int .i64 o.what, .int .i64 o.n] 71 false) := by rw [hu.2.2 _ n3 (by omega)]; exact hoT
            simp [ho2, rused_iff hc2 (show 2 ≤ k1 by omega)]
            have hun := hu.1
            refine behind (w.used o.n) _ ?_ ?_ ?_ ?_ (((hkT.trans (hu.kept ?_ ?_))).put ?_ _)
            · simp [hne, hu.2.1]
            · simp
            · simp; omega
            · simp; omega
            · omega
            · omega
            · omega
          · have hc2 : (T.put b (some (.cells w.give.cs 95 false))).get c = some (.cells w.rcs 87 false) := by simp [hne', hcT]
            simp [hoT, a0, a1, n3, give_iff hbT (show 2 ≤ k1 by omega), rgive_iff hc2 (show 2 ≤ k1 by omega)]
            refine behind w.give _ ?_ ?_ ?_ ?_ ((hkT.put ?_ _).put ?_ _)
            · simp [hne]
            · simp
            · simp; omega
            · simp; omega
            · omega
            · omega
      · simp only [R12.b_104, R12.d_34, R12.g_99, R12.g_115, R12.top, I]
        simp [len_iff hxi, hlt]
        refine (awake_spec (by omega)).mono ?_
        rintro v _ rfl
        simp
    · exact absurd hg hg'
  · simp
    refine (rcnew_spec (by omega)).mono ?_
    rintro v υ ⟨hf, ⟨hg', _⟩ | ⟨_, rfl⟩⟩
    · exact absurd hg' hg
    · simp [R12.d_34, R12.g_99, R12.g_115, R12.top]
      refine aw_loop1 (fun r v τ' => True) ?_ k1 0 _ υ trivial (by omega)
      intro r rec v τ' _ _
      simp [R12.b_104, R12.d_34, R12.g_99, R12.g_115, R12.top]
      refine (awake_spec (by omega)).mono ?_
      rintro v _ rfl
      simp
end Go.Proofs.Ytlgeeibaohdjhaa
