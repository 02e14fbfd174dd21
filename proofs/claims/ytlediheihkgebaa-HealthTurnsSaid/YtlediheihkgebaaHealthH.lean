/- Plain laws of what Health computes: how long a hold lasts. -/
import Derived.Test.YtlediheihkgebaaHealth
set_option linter.unusedVariables false
set_option linter.unusedSimpArgs false
namespace Go.Proofs.Ytlediheihkgebaa
open Go.Proofs.Ytlediheihkgebaa.Eng
attribute [local simp] und4 und38 und49

/-! ### Holds -/
def Hc.mk3 (h : Hc) (d : Bool) (r q : Int) : Md := ⟨h.fail, h.rise, h.hold, d, r, q⟩
@[simp] theorem mk3_down {h : Hc} {d : Bool} {r q : Int} : (h.mk3 d r q).down = d := rfl
@[simp] theorem mk3_hold {h : Hc} {d : Bool} {r q : Int} : (h.mk3 d r q).hold = q := rfl
theorem Hc.mk_ok {h : Hc} (g : h.good) {d : Bool} {r q : Int} (h1 : 0 ≤ r) (h2 : 0 ≤ q) (h3 : q ≤ h.hold) : (h.mk3 d r q).ok r := by
  obtain ⟨a1, a2, a3, a4, a5, a6⟩ := g
  exact ⟨a1, a2, a3, a4, a5, a6, h1, Int.le_refl _, h2, h3⟩
theorem tmod_small {a m : Int} (h : 0 ≤ a) (hm : 0 < m) : 0 ≤ a.tmod m ∧ a.tmod m < m := ⟨by rw [Int.tmod_eq_emod_of_nonneg h]; exact Int.emod_nonneg _ (by omega), Int.tmod_lt_of_pos _ hm⟩
theorem wrap_id64 {a : Int} (h1 : 0 ≤ a) (h2 : a < 4194304) : IntKind.i64.wrap a = a := wrap64 (by omega) (by omega)

section
variable {h : Hc} {b c k1 g3 : Nat}
/-- The last loop. -/
theorem holds_last (hg : h.good) (hr : h.rise ≤ 5) (hk : 100 + 50 ≤ k1) : ∀ (p : Nat) (τ : AW), p ≤ 38 → τ.get b = some (.cells (h.mk3 true p 0).cs 46 false) → τ.get c = some (.cells h.cs 37 false) → ¬ c = b → wpA (loop1 (R10.b_62 (callN Try.prog k1) k1 (ptr b) (ptr c)) k1 (I p)) τ fun v _ => v = .bool true := by
  intro p τ hp hb hc hne
  have hf0 : h.fail ≠ 0 := by have := hg.1; omega
  refine aw_loop1 (fun r v τ' => (τ'.get c = some (.cells h.cs 37 false)) ∧ ∃ p : Nat, v = I p ∧ ((p ≤ 38 ∧ r = 100 - p ∧ τ'.get b = some (.cells (h.mk3 true p 0).cs 46 false)) ∨ (r = 0 ∧ τ'.get b = some (.cells (h.mk3 false 0 0).cs 46 false)))) ?_ k1 (100 - p) _ τ ⟨hc, p, rfl, .inl ⟨hp, rfl, hb⟩⟩ (by omega)
  rintro r rec v τ' ⟨hci, p, rfl, ⟨hp, rfl, hbi⟩ | ⟨rfl, hbi⟩⟩ hrec
  · have hok := Hc.mk_ok hg (d := true) (r := p) (q := 0) (by omega) (by omega) hg.2.2.2.2.1
    have hp1 : (p : Int) < 100 := by omega
    have hwp : IntKind.i64.wrap ((p : Int) + 1) = (p : Int) + 1 := wrap_id64 (by omega) (by omega)
    by_cases hup : h.rise ≤ (p : Int) + 1
    · have hpr : (h.mk3 true p 0).probe true = h.mk3 false 0 0 := by simp [Md.probe, Hc.mk3, hup]
      have hb2 : (τ'.put b (some (.cells (h.mk3 false 0 0).cs 46 false))).get b = some (.cells (h.mk3 false 0 0).cs 46 false) := by simp
      simp [R10.b_62, R10.g_31, R10.g_59, R10.d_112, R10.g_142, R10.g_161, R10.top, I, up_iff hbi hf0 (show 2 ≤ k1 by omega), probe_iff hbi hok (show (p : Int) < 9223372036854775807 by omega) (show 3 ≤ k1 by omega), hpr, up_iff hb2 hf0 (show 2 ≤ k1 by omega), hne, hci, Hc.cs, hup, hp1, hwp]
      refine hrec 0 _ _ (by omega) ⟨?_, p + 1, rfl, .inr ⟨rfl, ?_⟩⟩
      · simp [hne, hci, Hc.cs]
      · simp
    · have hpr : (h.mk3 true p 0).probe true = h.mk3 true (p + 1) 0 := by simp [Md.probe, Hc.mk3, hup]
      have hb2 : (τ'.put b (some (.cells (h.mk3 true (p + 1) 0).cs 46 false))).get b = some (.cells (h.mk3 true (p + 1) 0).cs 46 false) := by simp
      simp [R10.b_62, R10.g_31, R10.g_59, R10.d_112, R10.g_142, R10.g_161, R10.top, I, up_iff hbi hf0 (show 2 ≤ k1 by omega), probe_iff hbi hok (show (p : Int) < 9223372036854775807 by omega) (show 3 ≤ k1 by omega), hpr, up_iff hb2 hf0 (show 2 ≤ k1 by omega), hne, hci, Hc.cs, hup, hp1, hwp]
      refine hrec (100 - (p + 1)) _ _ (by omega) ⟨?_, p + 1, rfl, .inl ⟨?_, rfl, ?_⟩⟩
      · simp [hne, hci, Hc.cs]
      · omega
      · simp
  · simp [R10.b_62, R10.g_31, R10.g_59, R10.d_112, R10.g_142, R10.g_161, R10.top, I, up_iff hbi hf0 (show 2 ≤ k1 by omega), Hc.mk3]
    refine (awake_spec (by omega)).mono ?_
    rintro v _ rfl
    simp
/-- The probes of one tick, and the tick; then the rest. -/
theorem holds_mid {gv : Int} (hg : h.good) (hr : h.rise ≤ 5) (hh : h.hold ≤ 19) (hgv : 0 ≤ gv) (hg3 : gv.tmod 3 = g3) (hk : 100 + 50 ≤ k1) (hne : ¬ c = b) : ∀ (τ : AW), τ.get b = some (.cells (h.mk3 true 0 h.hold).cs 46 false) → τ.get c = some (.cells h.cs 37 false) → wpA (loop2 (R10.b_106 (callN Try.prog k1) k1 (ptr b) (.int .u8 gv) (ptr c)) k1 (I 0) (I 0)) τ fun v _ => v = .bool true := by
  intro τ hb hc
  have hf0 : h.fail ≠ 0 := by have := hg.1; omega
  have hh0 : 0 ≤ h.hold := hg.2.2.2.2.1
  have hg3' : g3 ≤ 2 := by have := (tmod_small hgv (show (0 : Int) < 3 by omega)).2; omega
  have hw3 : IntKind.i64.wrap (g3 : Int) = (g3 : Int) := wrap_id64 (by omega) (by omega)
  refine aw_loop2 (fun r u v τ' => (τ'.get c = some (.cells h.cs 37 false)) ∧ ∃ j : Nat, u = I ((j * g3 : Nat) : Int) ∧ v = I j ∧ (j : Int) ≤ h.hold ∧ r = h.hold.toNat - j ∧ τ'.get b = some (.cells (h.mk3 true ((j * g3 : Nat) : Int) (h.hold - j)).cs 46 false)) ?_ k1 h.hold.toNat _ _ τ ⟨hc, 0, by simp, rfl, hh0, by simp, by simpa using hb⟩ (by omega)
  rintro r rec u v τ' ⟨hci, j, rfl, rfl, hj, rfl, hbi⟩ hrec
  have hjg : j * g3 ≤ 38 := by
    have h1 : j ≤ 19 := by omega
    have h2 := Nat.mul_le_mul h1 hg3'
    omega
  by_cases hlt : (j : Int) < h.hold
  · simp [R10.b_106, I, hci, Hc.cs, hlt]
    refine aw_loop2 (fun r u v τ'' => (τ''.get c = some (.cells h.cs 37 false)) ∧ ∃ q : Nat, u = I ((j * g3 + q : Nat) : Int) ∧ v = I q ∧ q ≤ g3 ∧ r = g3 - q ∧ τ''.get b = some (.cells (h.mk3 true ((j * g3 + q : Nat) : Int) (h.hold - j)).cs 46 false)) ?_ k1 g3 _ _ τ' ⟨hci, 0, by simp [I], rfl, by omega, by omega, by simpa using hbi⟩ (by omega)
    rintro r2 rec2 u v τ'' ⟨hcq, q, rfl, rfl, hq, rfl, hbq⟩ hrec2
    have hok := Hc.mk_ok hg (d := true) (r := ((j * g3 + q : Nat) : Int)) (q := h.hold - j) (by omega) (by omega) (by omega)
    generalize hP : j * g3 + q = P at *
    have hwq : IntKind.i64.wrap ((q : Int) + 1) = ((q + 1 : Nat) : Int) := wrap_id64 (by omega) (by omega)
    have hwj : IntKind.i64.wrap ((j : Int) + 1) = ((j + 1 : Nat) : Int) := wrap_id64 (by omega) (by omega)
    have hwp : IntKind.i64.wrap ((P : Int) + 1) = ((P + 1 : Nat) : Int) := wrap_id64 (by omega) (by omega)
    by_cases hltq : q < g3
    · have hpr : (h.mk3 true (P : Int) (h.hold - j)).probe true = h.mk3 true ((P + 1 : Nat) : Int) (h.hold - j) := by
        have hn : ¬ h.hold - (j : Int) = 0 := by omega
        simp [Md.probe, Hc.mk3, hn]
      have hb2 : (τ''.put b (some (.cells (h.mk3 true ((P + 1 : Nat) : Int) (h.hold - j)).cs 46 false))).get b = some (.cells (h.mk3 true ((P + 1 : Nat) : Int) (h.hold - j)).cs 46 false) := by simp
      simp only [R10.b_100, I]
      simp [-Int.natCast_add, hg3, hw3, hltq, probe_iff hbq hok (show (P : Int) < 9223372036854775807 by omega) (show 3 ≤ k1 by omega), hpr, up_iff hb2 hf0 (show 2 ≤ k1 by omega), hwq, hwp]
      refine hrec2 (g3 - (q + 1)) _ _ _ (by omega) ⟨?_, q + 1, ?_, rfl, ?_, rfl, ?_⟩
      · simp [hne, hcq]
      · rw [← Nat.add_assoc, hP]; rfl
      · omega
      · rw [← Nat.add_assoc, hP]; simp
    · have e : q = g3 := by omega
      subst e
      have hP2 : P = (j + 1) * q := by rw [← hP, Nat.add_mul, Nat.one_mul]
      have htk : (h.mk3 true (P : Int) (h.hold - j)).tick = h.mk3 true (((j + 1) * q : Nat) : Int) (h.hold - ((j + 1 : Nat) : Int)) := by
        have hp : 0 < h.hold - (j : Int) := by omega
        have hp2 : h.hold - (j : Int) - 1 = h.hold - ((j + 1 : Nat) : Int) := by omega
        simp only [Md.tick, Hc.mk3, hp, if_true, hP2, hp2]
      simp only [R10.b_100, I]
      simp [-Int.natCast_add, -Int.natCast_mul, hg3, hw3, tick_iff hbq hok (show 2 ≤ k1 by omega), htk, hwj]
      refine hrec (h.hold.toNat - (j + 1)) _ _ _ (by omega) ⟨?_, j + 1, ?_, rfl, ?_, rfl, ?_⟩
      · simp [hne, hcq]
      · rw [hP2]; rfl
      · omega
      · simp
  · have e : h.hold - (j : Int) = 0 := by omega
    rw [e] at hbi
    simp [R10.b_106, I, hci, Hc.cs, hlt]
    have := holds_last (k1 := k1) hg hr hk (j * g3) τ' hjg hbi hci hne
    simpa [I] using this
end
theorem law_HealthHolds {σ : AW} {f r q gv : Int} {k : Nat} (hf : 0 ≤ f) (hr : 0 ≤ r) (hq : 0 ≤ q) (hgv : 0 ≤ gv) (hk : 1000 ≤ k) : wpA (callN Try.prog k 10 [.int .u8 f, .int .u8 r, .int .u8 q, .int .u8 gv]) σ fun v _ => v = .bool true := by
  obtain ⟨f1, f2⟩ := tmod_small hf (show (0 : Int) < 5 by omega)
  obtain ⟨r1, r2⟩ := tmod_small hr (show (0 : Int) < 5 by omega)
  obtain ⟨q1, q2⟩ := tmod_small hq (show (0 : Int) < 20 by omega)
  obtain ⟨g1, g2⟩ := tmod_small hgv (show (0 : Int) < 3 by omega)
  rw [callN_at (by omega), R10.eq]
  have hbig : 999 ≤ k - 1 := by omega
  generalize hk1 : k - 1 = k1 at hbig
  generalize hF : f.tmod 5 = F at *
  generalize hR : r.tmod 5 = R at *
  generalize hQ : q.tmod 20 = q' at *
  simp only [R10.top]
  simp [hF, hR, hQ, wrap_id64 f1 (by omega), wrap_id64 r1 (by omega), wrap_id64 q1 (by omega), wrap_id64 (show 0 ≤ 1 + F by omega) (by omega), wrap_id64 (show 0 ≤ 1 + R by omega) (by omega)]
  let h : Hc := ⟨1 + F, 1 + R, q'⟩
  have hg : h.good := ⟨by show 1 ≤ 1 + F; omega, by show 1 + F ≤ 1000; omega, by show 1 ≤ 1 + R; omega, by show 1 + R ≤ 1000; omega, q1, by show q' ≤ 1073741824; omega⟩
  refine (new_spec (h := h) (by omega)).mono ?_
  rintro v τ ⟨he, hv⟩
  have hbox := he.2 σ.next (by simp)
  simp at hbox
  rcases hv with ⟨_, b, rfl, h1, h2, h3⟩ | ⟨hg', _⟩
  · have hsb : σ.next < b := by simp at h1; omega
    have hne : ¬ σ.next = b := by omega
    have hcs : ([.int .i64 (1 + F), .int .i64 (1 + R), .int .i64 q'] : List Value) = h.cs := rfl
    rw [hcs] at hbox
    have hfd : h.fail = 1 + F := rfl
    have hrd : h.rise = 1 + R := rfl
    have hhd : h.hold = q' := rfl
    clear_value h
    have hf0 : h.fail ≠ 0 := by omega
    simp [R10.g_31, R10.g_59, R10.d_112, R10.g_142, R10.g_161, R10.top]
    refine aw_loop1 (fun r v τ' => (τ'.get σ.next = some (.cells h.cs 37 false)) ∧ ∃ i : Nat, v = I i ∧ (i : Int) ≤ h.fail ∧ r = h.fail.toNat - i ∧ ((i : Int) < h.fail → τ'.get b = some (.cells (h.mk3 false i 0).cs 46 false)) ∧ ((i : Int) = h.fail → τ'.get b = some (.cells (h.mk3 true 0 h.hold).cs 46 false))) ?_ k1 h.fail.toNat _ τ ⟨hbox, 0, rfl, by omega, by omega, fun _ => h3, fun e => by exfalso; simp at e; omega⟩ (by omega)
    rintro r rec v τ' ⟨hci, i, rfl, hi, rfl, hlow, hend⟩ hrec
    by_cases hlt : (i : Int) < h.fail
    · have hbi := hlow hlt
      have hok := Hc.mk_ok hg (d := false) (r := (i : Int)) (q := 0) (by omega) (by omega) (by omega)
      have hwi : IntKind.i64.wrap ((i : Int) + 1) = ((i + 1 : Nat) : Int) := wrap_id64 (by omega) (by omega)
      by_cases hl : (i : Int) + 1 = h.fail
      · have hpr : (h.mk3 false (i : Int) 0).probe false = h.mk3 true 0 h.hold := by simp [Md.probe, Hc.mk3, hl]
        simp [R10.b_151, R10.g_31, R10.g_59, R10.d_112, R10.g_142, R10.g_161, R10.top, I, hci, Hc.cs, hlt, up_iff hbi hf0 (show 2 ≤ k1 by omega), probe_iff hbi hok (show (i : Int) < 9223372036854775807 by omega) (show 3 ≤ k1 by omega), hpr, hwi, -Int.natCast_add]
        refine hrec (h.fail.toNat - (i + 1)) _ _ (by omega) ⟨?_, i + 1, rfl, ?_, rfl, ?_, ?_⟩
        · simp [hne, hci]
        · omega
        · intro; omega
        · intro _; simp
      · have hpr : (h.mk3 false (i : Int) 0).probe false = h.mk3 false ((i + 1 : Nat) : Int) 0 := by simp [Md.probe, Hc.mk3, hl]
        simp [R10.b_151, R10.g_31, R10.g_59, R10.d_112, R10.g_142, R10.g_161, R10.top, I, hci, Hc.cs, hlt, up_iff hbi hf0 (show 2 ≤ k1 by omega), probe_iff hbi hok (show (i : Int) < 9223372036854775807 by omega) (show 3 ≤ k1 by omega), hpr, hwi, -Int.natCast_add]
        refine hrec (h.fail.toNat - (i + 1)) _ _ (by omega) ⟨?_, i + 1, rfl, ?_, rfl, ?_, ?_⟩
        · simp [hne, hci]
        · omega
        · intro _; simp
        · intro; omega
    · have hbi := hend (by omega)
      have hmid := holds_mid (h := h) (b := b) (c := σ.next) (k1 := k1) (g3 := (gv.tmod 3).toNat) hg (by omega) (by omega) hgv (by omega) (by omega) hne τ' hbi hci
      simp [R10.b_151, R10.g_31, R10.g_59, R10.d_112, R10.g_142, R10.g_161, R10.top, I, hci, Hc.cs, hlt, up_iff hbi hf0 (show 2 ≤ k1 by omega), hold_iff hbi hf0 (show 2 ≤ k1 by omega)]
      simpa [I] using hmid
  · exact absurd hg hg'
end Go.Proofs.Ytlediheihkgebaa
