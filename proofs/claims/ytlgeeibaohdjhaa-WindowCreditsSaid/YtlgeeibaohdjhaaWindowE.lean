/- The last two laws of credits. -/
import Derived.Test.YtlgeeibaohdjhaaWindowD
set_option linter.unusedVariables false
set_option linter.unusedSimpArgs false
namespace Go.Proofs.Ytlgeeibaohdjhaa
open Go.Proofs.Ytlgeeibaohdjhaa.Eng
attribute [local simp] und64 und67 und111 und4 und79 und83
/-- What a credit of at most 65535 is at any time. -/
def Cr.inv (c : Cr) (whole : Int) : Prop := c.top = whole ∧ 0 ≤ c.n ∧ 0 ≤ c.held ∧ 0 ≤ c.owed ∧ c.n + c.held + c.owed = whole
theorem Cr.inv_got {c : Cr} {whole n : Int} (h : c.inv whole) (hw : whole ≤ 65535) : (c.got n).inv whole ∧ (c.gotE n = 0 ↔ 0 ≤ n ∧ n ≤ c.n) ∧ (c.gotE n = 0 → c.got n = { c with n := c.n - n, held := c.held + n }) := by
  obtain ⟨h1, h2, h3, h4, h5⟩ := h
  unfold Cr.got
  by_cases a1 : n < 0
  · have e : c.gotE n = 1 := by simp [Cr.gotE, a1]
    rw [e]
    refine ⟨⟨h1, h2, h3, h4, h5⟩, by constructor <;> intro <;> omega, by simp⟩
  · by_cases a2 : c.n < n
    · have e : c.gotE n = 110 := by simp [Cr.gotE, a1, a2]
      rw [e]
      refine ⟨⟨h1, h2, h3, h4, h5⟩, by constructor <;> intro <;> omega, by simp⟩
    · have e : c.gotE n = 0 := by simp [Cr.gotE, a1, a2]
      have w1 : W (c.n - n) = c.n - n := W_id (by omega) (by omega)
      have w2 : W (c.held + n) = c.held + n := W_id (by omega) (by omega)
      rw [e, w1, w2]
      exact ⟨⟨h1, by show 0 ≤ c.n - n; omega, by show 0 ≤ c.held + n; omega, h4, by show c.n - n + (c.held + n) + c.owed = whole; omega⟩, by constructor <;> intro <;> omega, fun _ => rfl⟩
theorem Cr.inv_used {c : Cr} {whole n : Int} (h : c.inv whole) (hw : whole ≤ 65535) : (c.used n).inv whole ∧ (0 ≤ n → n ≤ c.held → c.usedE n = 0 ∧ c.used n = { c with held := c.held - n, owed := c.owed + n }) := by
  obtain ⟨h1, h2, h3, h4, h5⟩ := h
  unfold Cr.used
  by_cases a : 0 ≤ n ∧ n ≤ c.held
  · have e : c.usedE n = 0 := by simp [Cr.usedE, a]
    have w1 : W (c.held - n) = c.held - n := W_id (by omega) (by omega)
    have w2 : W (c.owed + n) = c.owed + n := W_id (by omega) (by omega)
    rw [e, w1, w2]
    exact ⟨⟨h1, h2, by show 0 ≤ c.held - n; omega, by show 0 ≤ c.owed + n; omega, by show c.n + (c.held - n) + (c.owed + n) = whole; omega⟩, fun _ _ => ⟨rfl, rfl⟩⟩
  · have e : c.usedE n = 1 := by simp [Cr.usedE, a]
    rw [e]
    exact ⟨⟨h1, h2, h3, h4, h5⟩, fun b1 b2 => absurd ⟨b1, b2⟩ a⟩
theorem Cr.inv_give {c : Cr} {whole : Int} (h : c.inv whole) (hw : whole ≤ 65535) : c.give.inv whole ∧ ((c.owed = 0 ∨ 2 * c.owed < whole) → c.giveV = 0 ∧ c.give = c) ∧ (¬ (c.owed = 0 ∨ 2 * c.owed < whole) → c.giveV = c.owed ∧ c.give = { c with n := c.n + c.owed, owed := 0 }) := by
  obtain ⟨h1, h2, h3, h4, h5⟩ := h
  have w1 : W (2 * c.owed) = 2 * c.owed := W_id (by omega) (by omega)
  have w2 : W (c.n + c.owed) = c.n + c.owed := W_id (by omega) (by omega)
  have hN : c.giveN = decide (c.owed = 0 ∨ 2 * c.owed < whole) := by
    unfold Cr.giveN
    rw [w1, h1]
    simp
  unfold Cr.give Cr.giveV
  rw [hN, w2]
  by_cases a : c.owed = 0 ∨ 2 * c.owed < whole
  · rw [if_pos (by simpa using a), if_pos (by simpa using a)]
    exact ⟨⟨h1, h2, h3, h4, h5⟩, fun _ => ⟨rfl, rfl⟩, fun h => absurd a h⟩
  · rw [if_neg (by simpa using a), if_neg (by simpa using a)]
    exact ⟨⟨h1, by show 0 ≤ c.n + c.owed; omega, h3, by show (0 : Int) ≤ 0; omega, by show c.n + c.owed + c.held + 0 = whole; omega⟩, fun h => absurd h a, fun _ => ⟨rfl, rfl⟩⟩

theorem law_WindowRoom {σ : AW} {x : Value} {l : List Op} {m : Int} {n k : Nat} (hx : Sl σ x 2 n (l.flatMap Op.cs)) (hl : l.length < big) (hm : 0 ≤ m) (hm2 : m ≤ 65535) (hk : big + 50 ≤ k) : wpA (callN Try.prog k 11 [.int .u16 m, x]) σ fun v _ => v = .bool true := by
  have e1 := op_sl hx
  subst e1
  rw [callN_at (by omega), R11.eq]
  have hbig : big + 49 ≤ k - 1 := by omega
  generalize hk1 : k - 1 = k1 at hbig
  have hmw : IntKind.i64.wrap m = m := wrap64 (by omega) (by omega)
  simp [R11.g_26, R11.g_43, R11.g_72, R11.g_80, R11.top, hmw]
  refine (cnew_spec (by omega)).mono ?_
  rintro v τ ⟨he, ⟨hg, b, rfl, h1, h2, h3⟩ | ⟨hg, rfl⟩⟩
  · simp
    refine aw_loop1 (fun r v τ' => ∃ (i : Nat) (w : Cr), v = I i ∧ i ≤ l.length ∧ r = l.length - i ∧ w.inv m ∧ Kept σ.next σ τ' ∧ b < τ'.next ∧ τ'.get b = some (.cells w.cs 95 false)) ?_ k1 l.length _ τ ⟨0, newC m, rfl, by omega, by omega, ⟨rfl, hm, Int.le_refl _, Int.le_refl _, by simp [newC]⟩, he, h2, h3⟩ (by omega)
    rintro r rec v τ' ⟨i, w, rfl, hi, rfl, hinv, hki, hbn, hbi⟩ hrec
    have hxi := hx.kept (Nat.le_refl _) hki
    have hsn := hki.1
    have k2 : 2 ≤ k1 := by omega
    by_cases hlt : i < l.length
    · obtain ⟨o, ho⟩ : ∃ o, l[i]? = some o := ⟨_, List.getElem?_eq_getElem hlt⟩
      have hwi : IntKind.i64.wrap ((i : Int) + 1) = ((i + 1 : Nat) : Int) := wrap64 (by omega) (by unfold big at hl; omega)
      have behind : ∀ (w' : Cr) τ2, w'.inv m → τ2.get b = some (.cells w'.cs 95 false) → b < τ2.next → Kept σ.next σ τ2 → wpA (R11.j_84 (callN Try.prog k1) k1 rec (.int .i64 m) (ptr b) (.int .i64 i)) τ2 fun v _ => v = .bool true := fun w' τ2 g0 g1 g2 g3 => by
        obtain ⟨q1, q2, q3, q4, q5⟩ := g0
        have a1 : ¬ w'.n < 0 := by omega
        have a2 : ¬ w'.held < 0 := by omega
        have a3 : ¬ m < w'.n + w'.held := by omega
        have a4 : IntKind.i64.wrap (w'.n + w'.held) = w'.n + w'.held := wrap64 (by omega) (by omega)
        simp [R11.g_26, R11.g_43, R11.g_72, R11.g_80, R11.j_84, R11.top, csize_iff g1 k2, cheld_iff g1 k2, a1, a2, a3, a4, hwi]
        exact hrec (l.length - (i + 1)) _ _ (by omega) ⟨i + 1, w', rfl, by omega, rfl, ⟨q1, q2, q3, q4, q5⟩, g3, g2, g1⟩
      have n1 : ¬ b = τ'.next := by omega
      have n3 : ¬ τ'.next = b := by omega
      have hT : ∃ T, T = (τ'.push (.cells [.int .i64 0, .int .i64 0] 71 false)).put τ'.next (some (.cells [.int .i64 o.what, .int .i64 o.n] 71 false)) := ⟨_, rfl⟩
      obtain ⟨T, hT⟩ := hT
      have hbT : T.get b = some (.cells w.cs 95 false) := by rw [hT]; simp [n1, hbi]
      have hoT : T.get τ'.next = some (.cells [.int .i64 o.what, .int .i64 o.n] 71 false) := by rw [hT]; simp
      have hnT : T.next = τ'.next + 1 := by rw [hT]; simp
      have hkT : Kept σ.next σ T := by rw [hT]; exact (hki.push hsn _).put hsn _
      simp only [R11.b_106, R11.g_26, R11.g_43, R11.g_72, R11.g_80, R11.top, I]
      simp [len_iff hxi, hlt, ↓atS_all Op.len (by omega) hxi ho, Op.cs]
      rw [← hT]
      by_cases a0 : o.what = 0
      · simp [hoT, a0, n3, got_iff hbT k2]
        refine behind (w.got o.n) _ (Cr.inv_got hinv hm2).1 ?_ ?_ (hkT.put ?_ _)
        · simp
        · simp; omega
        · omega
      · by_cases a1 : o.what = 1
        · simp [hoT, a1, n3]
          refine (used_spec hbT (by omega) (by omega)).mono ?_
          rintro v T2 ⟨rfl, hu⟩
          have hun := hu.1
          exact behind (w.used o.n) _ (Cr.inv_used hinv hm2).1 hu.2.1 (by omega) (hkT.trans (hu.kept (by omega) (by omega)))
        · simp [hoT, a0, a1, n3, give_iff hbT k2]
          refine behind w.give _ (Cr.inv_give hinv hm2).1 ?_ ?_ (hkT.put ?_ _)
          · simp
          · simp; omega
          · omega
    · have hu := Cr.inv_used (n := w.held) hinv hm2
      obtain ⟨hu1, hu2⟩ := hu.2 hinv.2.2.1 (Int.le_refl _)
      have hg1 := Cr.inv_give hu.1 hm2
      simp only [R11.b_106, R11.g_26, R11.g_43, R11.g_72, R11.g_80, R11.top, I]
      simp [len_iff hxi, hlt, cheld_iff hbi k2]
      refine (used_spec hbi (by omega) (by omega)).mono ?_
      rintro v T2 ⟨rfl, hu'⟩
      have hb2 := hu'.2.1
      have hheld : (w.used w.held).held = 0 := by rw [hu2]; show w.held - w.held = 0; omega
      have hb3 : (T2.put b (some (.cells (w.used w.held).give.cs 95 false))).get b = some (.cells (w.used w.held).give.cs 95 false) := by simp
      obtain ⟨q1, q2, q3, q4, q5⟩ := hg1.1
      obtain ⟨p1, p2, p3, p4, p5⟩ := hu.1
      have w1 : IntKind.i64.wrap (m - (w.used w.held).give.n) = m - (w.used w.held).give.n := wrap64 (by omega) (by omega)
      have w2 : IntKind.i64.wrap (2 * (m - (w.used w.held).give.n)) = 2 * (m - (w.used w.held).give.n) := wrap64 (by omega) (by omega)
      simp [hu1, cheld_iff hb2 k2, hheld, give_iff hb2 k2, csize_iff hb3 k2, w1, w2]
      intro hle
      by_cases hc : (w.used w.held).owed = 0 ∨ 2 * (w.used w.held).owed < m
      · have e := (hg1.2.1 hc).2
        rw [e] at hle ⊢
        omega
      · have e := (hg1.2.2 hc).2
        have e2 : (w.used w.held).give.n = m := by rw [e]; show (w.used w.held).n + (w.used w.held).owed = m; omega
        exact e2
  · exact absurd ⟨hm, by omega⟩ hg

def U (a : Nat) : Value := .int .u16 ((a % 65536 : Nat) : Int)
theorem law_WindowGives {σ : AW} {x : Value} {l : List Nat} {m : Int} {n k : Nat} (hx : Sl σ x 1 n (l.map U)) (hl : l.length < 4194304) (hm : 0 ≤ m) (hm2 : m ≤ 65535) (hk : 4194304 + 50 ≤ k) : wpA (callN Try.prog k 13 [.int .u16 m, x]) σ fun v _ => v = .bool true := by
  have e1 : n = l.length := by have := hx.1; simp at this; omega
  subst e1
  rw [callN_at (by omega), R13.eq]
  have hbig : 4194304 + 49 ≤ k - 1 := by omega
  generalize hk1 : k - 1 = k1 at hbig
  have hmw : IntKind.i64.wrap m = m := wrap64 (by omega) (by omega)
  simp [R13.g_22, R13.g_77, R13.g_79, R13.g_83, R13.g_86, R13.g_93, R13.g_97, R13.g_106, R13.g_110, R13.g_112, R13.g_117, R13.top, hmw]
  refine (cnew_spec (by omega)).mono ?_
  rintro v τ ⟨he, ⟨hg, b, rfl, h1, h2, h3⟩ | ⟨hg, rfl⟩⟩
  · simp
    refine aw_loop3 (fun r u v x' τ' => ∃ (i : Nat) (w : Cr) (us gv : Int), u = I us ∧ v = I gv ∧ x' = I i ∧ i ≤ l.length ∧ r = l.length - i ∧ w.inv m ∧ w.held = 0 ∧ w.n = m - us + gv ∧ 0 ≤ us ∧ us ≤ 65536 * i ∧ 0 ≤ gv ∧ gv ≤ us ∧ Kept σ.next σ τ' ∧ b < τ'.next ∧ τ'.get b = some (.cells w.cs 95 false)) ?_ k1 l.length _ _ _ τ ⟨0, newC m, 0, 0, rfl, rfl, rfl, by omega, by omega, ⟨rfl, hm, Int.le_refl _, Int.le_refl _, by simp [newC]⟩, rfl, by simp [newC], by omega, by omega, by omega, by omega, he, h2, h3⟩ (by omega)
    rintro r rec u v x' τ' ⟨i, w, us, gv, rfl, rfl, rfl, hi, rfl, hinv, hheld, hwn, hus, husm, hgv, hgu, hki, hbn, hbi⟩ hrec
    have hxi := hx.kept (Nat.le_refl _) hki
    have hsn := hki.1
    have k2 : 2 ≤ k1 := by omega
    by_cases hlt : i < l.length
    · obtain ⟨a, ha⟩ : ∃ a, l[i]? = some a := ⟨_, List.getElem?_eq_getElem hlt⟩
      have hwi : IntKind.i64.wrap ((i : Int) + 1) = ((i + 1 : Nat) : Int) := wrap64 (by omega) (by omega)
      have hU : U a = .int .u16 ((a % 65536 : Nat) : Int) := rfl
      generalize hA : a % 65536 = A at *
      have hA2 : A < 65536 := by rw [← hA]; exact Nat.mod_lt _ (by omega)
      have hwA : IntKind.i64.wrap (A : Int) = (A : Int) := wrap64 (by omega) (by omega)
      obtain ⟨i1, i2, i3⟩ := Cr.inv_got (n := (A : Int)) hinv hm2
      have ws1 : IntKind.i64.wrap (m - us) = m - us := wrap64 (by omega) (by omega)
      have ws2 : IntKind.i64.wrap (m - us + gv) = m - us + gv := wrap64 (by omega) (by omega)
      have behind : ∀ (w' : Cr) (us' : Int) τ2, w'.inv m → w'.held = 0 → w'.n = m - us' + gv → 0 ≤ us' → us' ≤ 65536 * ((i + 1 : Nat) : Int) → gv ≤ us' → τ2.get b = some (.cells w'.cs 95 false) → b < τ2.next → Kept σ.next σ τ2 → wpA (R13.j_121 (callN Try.prog k1) k1 rec (.int .i64 i) (.int .i64 m) (ptr b) (.int .i64 gv) (.int .i64 us')) τ2 fun v _ => v = .bool true := fun w' us' τ2 g0 g1 g2 g3 g4 g5 g6 g7 g8 => by
        obtain ⟨j1, j2, j3⟩ := Cr.inv_give g0 hm2
        obtain ⟨q1, q2, q3, q4, q5⟩ := g0
        have howed : w'.owed = us' - gv := by omega
        have hb3 : (τ2.put b (some (.cells w'.give.cs 95 false))).get b = some (.cells w'.give.cs 95 false) := by simp
        by_cases hc : w'.owed = 0 ∨ 2 * w'.owed < m
        · obtain ⟨e1, e2⟩ := j2 hc
          have b1 : IntKind.i64.wrap gv = gv := wrap64 (by omega) (by omega)
          have b2 : IntKind.i64.wrap (m - us') = m - us' := wrap64 (by omega) (by omega)
          have b3 : IntKind.i64.wrap (m - us' + gv) = m - us' + gv := wrap64 (by omega) (by omega)
          have b4 : IntKind.i64.wrap (us' - gv) = us' - gv := wrap64 (by omega) (by omega)
          have b5 : IntKind.i64.wrap (2 * (us' - gv)) = 2 * (us' - gv) := wrap64 (by omega) (by omega)
          have b6 : ¬ us' < gv := by omega
          rw [e2] at hb3
          by_cases hz : w'.owed = 0
          · have b7 : ¬ gv < us' := by omega
            by_cases hm0 : m ≤ 2 * (us' - gv)
            · simp [R13.g_22, R13.g_77, R13.g_79, R13.g_83, R13.g_86, R13.g_93, R13.g_97, R13.g_106, R13.g_110, R13.g_112, R13.g_117, R13.j_121, R13.top, give_iff g6 k2, e1, e2, csize_iff hb3 k2, b1, b2, b3, b4, b5, b6, b7, g2, hwi, hm0]
              refine hrec (l.length - (i + 1)) _ _ _ _ (by omega) ⟨i + 1, w', us', gv, rfl, rfl, rfl, by omega, rfl, ⟨q1, q2, q3, q4, q5⟩, g1, g2, g3, g4, hgv, g5, g8.put ?_ _, ?_, hb3⟩
              · omega
              · simp; omega
            · simp [R13.g_22, R13.g_77, R13.g_79, R13.g_83, R13.g_86, R13.g_93, R13.g_97, R13.g_106, R13.g_110, R13.g_112, R13.g_117, R13.j_121, R13.top, give_iff g6 k2, e1, e2, csize_iff hb3 k2, b1, b2, b3, b4, b5, b6, b7, g2, hwi, hm0]
              refine hrec (l.length - (i + 1)) _ _ _ _ (by omega) ⟨i + 1, w', us', gv, rfl, rfl, rfl, by omega, rfl, ⟨q1, q2, q3, q4, q5⟩, g1, g2, g3, g4, hgv, g5, g8.put ?_ _, ?_, hb3⟩
              · omega
              · simp; omega
          · have b7 : ¬ m ≤ 2 * (us' - gv) := by omega
            simp [R13.g_22, R13.g_77, R13.g_79, R13.g_83, R13.g_86, R13.g_93, R13.g_97, R13.g_106, R13.g_110, R13.g_112, R13.g_117, R13.j_121, R13.top, give_iff g6 k2, e1, e2, csize_iff hb3 k2, b1, b2, b3, b4, b5, b6, b7, g2, hwi]
            refine hrec (l.length - (i + 1)) _ _ _ _ (by omega) ⟨i + 1, w', us', gv, rfl, rfl, rfl, by omega, rfl, ⟨q1, q2, q3, q4, q5⟩, g1, g2, g3, g4, hgv, g5, g8.put ?_ _, ?_, hb3⟩
            · omega
            · simp; omega
        · obtain ⟨e1, e2⟩ := j3 hc
          have c1 : ¬ w'.owed < 0 := by omega
          have c2 : 0 < w'.owed := by omega
          have c3 : ¬ IntKind.i64.wrap (2 * w'.owed) < m := by rw [wrap64 (by omega) (by omega)]; omega
          have c4 : IntKind.i64.wrap (gv + w'.owed) = gv + w'.owed := wrap64 (by omega) (by omega)
          have c5 : ¬ us' < gv + w'.owed := by omega
          have c6 : w'.give.n = m - us' + (gv + w'.owed) := by rw [e2]; show w'.n + w'.owed = _; omega
          have b2 : IntKind.i64.wrap (m - us') = m - us' := wrap64 (by omega) (by omega)
          have c7 : IntKind.i64.wrap (m - us' + (gv + w'.owed)) = m - us' + (gv + w'.owed) := wrap64 (by omega) (by omega)
          have c8 : ¬ w'.owed = 0 := by omega
          simp [R13.g_22, R13.g_77, R13.g_79, R13.g_83, R13.g_86, R13.g_93, R13.g_97, R13.g_106, R13.g_110, R13.g_112, R13.g_117, R13.j_121, R13.top, give_iff g6 k2, e1, csize_iff hb3 k2, b2, c1, c2, c3, c4, c5, c6, c7, c8, hwi]
          refine hrec (l.length - (i + 1)) _ _ _ _ (by omega) ⟨i + 1, w'.give, us', gv + w'.owed, rfl, rfl, rfl, by omega, rfl, j1, ?_, c6, g3, g4, by omega, by omega, g8.put ?_ _, ?_, hb3⟩
          · rw [e2]; exact g1
          · omega
          · simp; omega
      simp only [R13.b_151, R13.g_22, R13.g_77, R13.g_79, R13.g_83, R13.g_86, R13.g_93, R13.g_97, R13.g_106, R13.g_110, R13.g_112, R13.g_117, R13.top, I]
      simp [len_iff hxi, hlt, ↓at1_all hxi ha, hU, hwA, got_iff hbi k2, ws1, ws2]
      by_cases hok : (A : Int) ≤ w.n
      · have e0 : w.gotE (A : Int) = 0 := i2.2 ⟨by omega, hok⟩
        have e2 := i3 e0
        have hle : (A : Int) ≤ m - us + gv := by omega
        have hbg : (τ'.put b (some (.cells (w.got (A : Int)).cs 95 false))).get b = some (.cells (w.got (A : Int)).cs 95 false) := by simp
        have hgh : (w.got (A : Int)).held = A := by rw [e2]; show w.held + (A : Int) = A; omega
        obtain ⟨u1, u2⟩ := Cr.inv_used (n := (A : Int)) i1 hm2
        obtain ⟨u3, u4⟩ := u2 (by omega) (by omega)
        have wu : IntKind.i64.wrap (us + (A : Int)) = us + (A : Int) := wrap64 (by omega) (by omega)
        simp [e0, hle]
        refine (used_spec hbg (by simp; omega) (by omega)).mono ?_
        rintro v T2 ⟨rfl, hu'⟩
        have hun := hu'.1
        simp at hun
        simp [u3, wu]
        refine behind ((w.got (A : Int)).used (A : Int)) (us + (A : Int)) T2 u1 ?_ ?_ (by omega) (by omega) (by omega) hu'.2.1 (by omega) ((hki.put (by omega) _).trans (hu'.kept (by omega) (by simp; omega)))
        · rw [u4]; show (w.got (A : Int)).held - (A : Int) = 0; omega
        · rw [u4, e2]; show w.n - (A : Int) = _; omega
      · have e0 : ¬ w.gotE (A : Int) = 0 := fun h => hok (i2.1 h).2
        have hle : ¬ (A : Int) ≤ m - us + gv := by omega
        have e2 : w.got (A : Int) = w := by unfold Cr.got; rw [if_neg e0]
        rw [e2, put_same hbi]
        simp [e0, hle]
        exact behind w us τ' hinv hheld hwn hus (by omega) hgu hbi hbn hki
    · simp only [R13.b_151, R13.g_22, R13.g_77, R13.g_79, R13.g_83, R13.g_86, R13.g_93, R13.g_97, R13.g_106, R13.g_110, R13.g_112, R13.g_117, R13.top, I]
      simp [len_iff hxi, hlt, cheld_iff hbi k2, hheld]
      refine (awake_spec (by omega)).mono ?_
      rintro v _ rfl
      simp
  · exact absurd ⟨hm, by omega⟩ hg
end Go.Proofs.Ytlgeeibaohdjhaa
