/- Plain laws of what Health computes. -/
import Derived.Test.YtlediheihkgebaaRes17
import Derived.Test.YtlediheihkgebaaEngV
set_option linter.unusedVariables false
set_option linter.unusedSimpArgs false
namespace Go.Proofs.Ytlediheihkgebaa
open Go.Proofs.Ytlediheihkgebaa.Eng

/-- The model of an upstream's health. -/
structure Md where
  fail : Int
  rise : Int
  cfg : Int
  down : Bool
  run : Int
  hold : Int
def Md.hcs (m : Md) : List Value := [.int .i64 m.fail, .int .i64 m.rise, .int .i64 m.cfg]
def Md.cs (m : Md) : List Value := [.int .i64 m.fail, .int .i64 m.rise, .int .i64 m.cfg, .int .i64 (if m.down = true then 1 else 0), .int .i64 m.run, .int .i64 m.hold]
def Md.rcs (m : Md) : List Value := [.int .i64 m.fail, .int .i64 m.rise, .int .i64 m.cfg, .bool m.down, .int .i64 m.run, .int .i64 m.hold]
def Md.probe (m : Md) (g : Bool) : Md :=
  if g = m.down then
    if m.down = false ∧ m.run + 1 = m.fail then { m with down := true, run := 0, hold := m.cfg }
    else if m.down = true ∧ m.rise ≤ m.run + 1 ∧ m.hold = 0 then { m with down := false, run := 0 }
    else { m with run := m.run + 1 }
  else { m with run := 0 }
def Md.tick (m : Md) : Md := { m with hold := if 0 < m.hold then m.hold - 1 else m.hold }
/-- What holds of it at all times: so many rounds have gone. -/
def Md.ok (m : Md) (n : Int) : Prop := 1 ≤ m.fail ∧ m.fail ≤ 1000 ∧ 1 ≤ m.rise ∧ m.rise ≤ 1000 ∧ 0 ≤ m.cfg ∧ m.cfg ≤ 1073741824 ∧ 0 ≤ m.run ∧ m.run ≤ n ∧ 0 ≤ m.hold ∧ m.hold ≤ m.cfg
theorem und4 : undP Try.prog 4 isBoolT = true := undP_of Try.underlying4
theorem und38 : undP Try.prog 38 isPtrT = true := undP_of Try.underlying38
theorem und49 : undP Try.prog 49 isPtrT = true := undP_of Try.underlying49
attribute [local simp] und4 und38 und49
def big : Nat := 9223372036854775808
def I (n : Int) : Value := .int .i64 n
theorem Md.ok_probe {m : Md} {n : Int} (h : m.ok n) (g : Bool) : (m.probe g).ok (n + 1) := by
  obtain ⟨h1, h2, h3, h4, h5, h6, h7, h8, h9, h10⟩ := h
  unfold Md.probe
  split
  · split
    · exact ⟨h1, h2, h3, h4, h5, h6, by simp, by simp; omega, by simpa using h5, by simp⟩
    · split
      · exact ⟨h1, h2, h3, h4, h5, h6, by simp, by simp; omega, h9, h10⟩
      · exact ⟨h1, h2, h3, h4, h5, h6, by simp; omega, by simp; omega, h9, h10⟩
  · exact ⟨h1, h2, h3, h4, h5, h6, by simp, by simp; omega, h9, h10⟩
theorem Md.ok_tick {m : Md} {n : Int} (h : m.ok n) : m.tick.ok (n + 1) := by
  obtain ⟨h1, h2, h3, h4, h5, h6, h7, h8, h9, h10⟩ := h
  unfold Md.tick
  refine ⟨h1, h2, h3, h4, h5, h6, h7, by simp; omega, ?_, ?_⟩ <;> simp <;> split <;> omega

structure Hc where
  fail : Int
  rise : Int
  hold : Int
def Hc.cs (h : Hc) : List Value := [.int .i64 h.fail, .int .i64 h.rise, .int .i64 h.hold]
def Hc.good (h : Hc) : Prop := 1 ≤ h.fail ∧ h.fail ≤ 1000 ∧ 1 ≤ h.rise ∧ h.rise ≤ 1000 ∧ 0 ≤ h.hold ∧ h.hold ≤ 1073741824
def Hc.md (h : Hc) : Md := ⟨h.fail, h.rise, h.hold, false, 0, 0⟩
theorem Hc.ok {h : Hc} (g : h.good) : h.md.ok 0 := by
  obtain ⟨a1, a2, a3, a4, a5, a6⟩ := g
  exact ⟨a1, a2, a3, a4, a5, a6, by simp [Hc.md], by simp [Hc.md], by simp [Hc.md], a5⟩
theorem new_wp {σ : AW} {h : Hc} {k : Nat} {Q : Value → AW → Prop} (hk : 1 ≤ k) (h1 : h.good → Q (.tuple #[ptr (σ.next + 1), .int .i64 0]) ((σ.push (.cells h.cs 37 false)).push (.cells h.md.cs 46 false)))
    (h2 : ¬ h.good → Q (.tuple #[.pointer none, .int .i64 1]) (σ.push (.cells h.cs 37 false))) : wpA (callN Try.prog k 21 [.agg h.cs.toArray]) σ Q := by
  rw [callN_at hk, R21.eq]
  by_cases hg : h.good
  · have hg' := h1 hg
    obtain ⟨a1, a2, a3, a4, a5, a6⟩ := hg
    simpa [R21.g_31, R21.g_35, R21.g_39, R21.g_43, R21.g_47, R21.top, Hc.cs, Hc.md, Md.cs, ptr, Int.not_lt.2 a1, Int.not_lt.2 a2, Int.not_lt.2 a3, Int.not_lt.2 a4, Int.not_lt.2 a5, Int.not_lt.2 a6] using hg'
  · have hg' := h2 hg
    unfold Hc.good at hg
    by_cases a1 : h.fail < 1
    · simpa [R21.g_31, R21.g_35, R21.g_39, R21.g_43, R21.g_47, R21.top, Hc.cs, a1] using hg'
    by_cases a2 : 1000 < h.fail
    · simpa [R21.g_31, R21.g_35, R21.g_39, R21.g_43, R21.g_47, R21.top, Hc.cs, a1, a2] using hg'
    by_cases a3 : h.rise < 1
    · simpa [R21.g_31, R21.g_35, R21.g_39, R21.g_43, R21.g_47, R21.top, Hc.cs, a1, a2, a3] using hg'
    by_cases a4 : 1000 < h.rise
    · simpa [R21.g_31, R21.g_35, R21.g_39, R21.g_43, R21.g_47, R21.top, Hc.cs, a1, a2, a3, a4] using hg'
    by_cases a5 : h.hold < 0
    · simpa [R21.g_31, R21.g_35, R21.g_39, R21.g_43, R21.g_47, R21.top, Hc.cs, a1, a2, a3, a4, a5] using hg'
    by_cases a6 : 1073741824 < h.hold
    · simpa [R21.g_31, R21.g_35, R21.g_39, R21.g_43, R21.g_47, R21.top, Hc.cs, a1, a2, a3, a4, a5, a6] using hg'
    · omega
theorem rnew_wp {σ : AW} {h : Hc} {k : Nat} {Q : Value → AW → Prop} (hk : 1 ≤ k) (h1 : h.good → Q (.tuple #[ptr (σ.next + 1), .int .i64 0]) ((σ.push (.cells h.cs 37 false)).push (.cells h.md.rcs 54 false)))
    (h2 : ¬ h.good → Q (.tuple #[.pointer none, .int .i64 1]) (σ.push (.cells h.cs 37 false))) : wpA (callN Try.prog k 28 [.agg h.cs.toArray]) σ Q := by
  rw [callN_at hk, R28.eq]
  by_cases hg : h.good
  · have hg' := h1 hg
    obtain ⟨a1, a2, a3, a4, a5, a6⟩ := hg
    simpa [R28.g_31, R28.g_35, R28.g_39, R28.g_43, R28.g_47, R28.top, Hc.cs, Hc.md, Md.rcs, ptr, Int.not_lt.2 a1, Int.not_lt.2 a2, Int.not_lt.2 a3, Int.not_lt.2 a4, Int.not_lt.2 a5, Int.not_lt.2 a6] using hg'
  · have hg' := h2 hg
    unfold Hc.good at hg
    by_cases a1 : h.fail < 1
    · simpa [R28.g_31, R28.g_35, R28.g_39, R28.g_43, R28.g_47, R28.top, Hc.cs, a1] using hg'
    by_cases a2 : 1000 < h.fail
    · simpa [R28.g_31, R28.g_35, R28.g_39, R28.g_43, R28.g_47, R28.top, Hc.cs, a1, a2] using hg'
    by_cases a3 : h.rise < 1
    · simpa [R28.g_31, R28.g_35, R28.g_39, R28.g_43, R28.g_47, R28.top, Hc.cs, a1, a2, a3] using hg'
    by_cases a4 : 1000 < h.rise
    · simpa [R28.g_31, R28.g_35, R28.g_39, R28.g_43, R28.g_47, R28.top, Hc.cs, a1, a2, a3, a4] using hg'
    by_cases a5 : h.hold < 0
    · simpa [R28.g_31, R28.g_35, R28.g_39, R28.g_43, R28.g_47, R28.top, Hc.cs, a1, a2, a3, a4, a5] using hg'
    by_cases a6 : 1073741824 < h.hold
    · simpa [R28.g_31, R28.g_35, R28.g_39, R28.g_43, R28.g_47, R28.top, Hc.cs, a1, a2, a3, a4, a5, a6] using hg'
    · omega
def NewOk (σ : AW) (h : Hc) (cs : List Value) (e : TypeId) (v : Value) (τ : AW) : Prop :=
  Ext σ τ ∧ ((h.good ∧ ∃ b, v = .tuple #[ptr b, .int .i64 0] ∧ σ.next ≤ b ∧ b < τ.next ∧ τ.get b = some (.cells cs e false)) ∨ (¬ h.good ∧ v = .tuple #[.pointer none, .int .i64 1]))
theorem new_spec {σ : AW} {h : Hc} {k : Nat} (hk : 1 ≤ k) : wpA (callN Try.prog k 21 [.agg h.cs.toArray]) σ (NewOk σ h h.md.cs 46) :=
  new_wp hk (fun g => ⟨(Ext.push _ _).trans (Ext.push _ _), .inl ⟨g, _, rfl, by simp, by simp, by simp⟩⟩) (fun g => ⟨Ext.push _ _, .inr ⟨g, rfl⟩⟩)
theorem rnew_spec {σ : AW} {h : Hc} {k : Nat} (hk : 1 ≤ k) : wpA (callN Try.prog k 28 [.agg h.cs.toArray]) σ (NewOk σ h h.md.rcs 54) :=
  rnew_wp hk (fun g => ⟨(Ext.push _ _).trans (Ext.push _ _), .inl ⟨g, _, rfl, by simp, by simp, by simp⟩⟩) (fun g => ⟨Ext.push _ _, .inr ⟨g, rfl⟩⟩)

theorem none_iff {σ : AW} {b : Nat} {e : TypeId} {m : Md} {k : Nat} {Q : Value → AW → Prop} (hb : σ.get b = some (.cells m.cs e false)) (hf : m.fail ≠ 0) (hk : 1 ≤ k) : wpA (callN Try.prog k 36 [ptr b]) σ Q ↔ Q (.bool false) σ := by
  rw [callN_at hk, R36.eq]
  simp [R36.g_9, R36.top, hb, Md.cs, hf]
theorem none_zero {σ : AW} {b : Nat} {e : TypeId} {m : Md} {k : Nat} {Q : Value → AW → Prop} (hb : σ.get b = some (.cells m.cs e false)) (hf : m.fail = 0) (hk : 1 ≤ k) : wpA (callN Try.prog k 36 [ptr b]) σ Q ↔ Q (.bool true) σ := by
  rw [callN_at hk, R36.eq]
  simp [R36.g_9, R36.top, hb, Md.cs, hf]
theorem none_nil {σ : AW} {k : Nat} {Q : Value → AW → Prop} (hk : 1 ≤ k) : wpA (callN Try.prog k 36 [.pointer none]) σ Q ↔ Q (.bool true) σ := by
  rw [callN_at hk, R36.eq]
  simp [R36.g_9, R36.top]
theorem up_iff {σ : AW} {b : Nat} {e : TypeId} {m : Md} {k : Nat} {Q : Value → AW → Prop} (hb : σ.get b = some (.cells m.cs e false)) (hf : m.fail ≠ 0) (hk : 2 ≤ k) : wpA (callN Try.prog k 23 [ptr b]) σ Q ↔ Q (.bool (!m.down)) σ := by
  rw [callN_at (by omega), R23.eq]
  cases hd : m.down <;> simp [R23.g_10, R23.top, none_iff (k := k - 1) hb hf (by omega), hb, Md.cs, hd]
theorem hold_iff {σ : AW} {b : Nat} {e : TypeId} {m : Md} {k : Nat} {Q : Value → AW → Prop} (hb : σ.get b = some (.cells m.cs e false)) (hf : m.fail ≠ 0) (hk : 2 ≤ k) : wpA (callN Try.prog k 24 [ptr b]) σ Q ↔ Q (.int .i64 m.hold) σ := by
  rw [callN_at (by omega), R24.eq]
  simp [R24.top, none_iff (k := k - 1) hb hf (by omega), hb, Md.cs]
theorem run_iff {σ : AW} {b : Nat} {e : TypeId} {m : Md} {k : Nat} {Q : Value → AW → Prop} (hb : σ.get b = some (.cells m.cs e false)) (hf : m.fail ≠ 0) (hk : 2 ≤ k) : wpA (callN Try.prog k 27 [ptr b]) σ Q ↔ Q (.int .i64 m.run) σ := by
  rw [callN_at (by omega), R27.eq]
  simp [R27.top, none_iff (k := k - 1) hb hf (by omega), hb, Md.cs]
theorem tick_iff {σ : AW} {b : Nat} {e : TypeId} {m : Md} {n : Int} {k : Nat} {Q : Value → AW → Prop} (hb : σ.get b = some (.cells m.cs e false)) (hok : m.ok n) (hk : 2 ≤ k) : wpA (callN Try.prog k 25 [ptr b]) σ Q ↔ Q (.int .i64 0) (σ.put b (some (.cells m.tick.cs e false))) := by
  rw [callN_at (by omega), R25.eq]
  obtain ⟨h1, h2, h3, h4, h5, h6, h7, h8, h9, h10⟩ := hok
  have hw : IntKind.i64.wrap (m.hold - 1) = m.hold - 1 := wrap64 (by omega) (by omega)
  have e2 : (if 1 < m.hold then m.hold - 1 else 0) = m.tick.hold := by unfold Md.tick; simp only; split <;> split <;> omega
  simp [R25.top, none_iff (k := k - 1) hb (by omega) (by omega), hb, Md.cs, hw]
  rw [e2]; rfl
theorem turn_iff {σ : AW} {b : Nat} {e : TypeId} {f r c s n h : Value} {s' h' : Int} {k : Nat} {Q : Value → AW → Prop} (hb : σ.get b = some (.cells [f, r, c, s, n, h] e false)) (hk : 1 ≤ k) :
    wpA (callN Try.prog k 37 [ptr b, .int .i64 s', .int .i64 h']) σ Q ↔ Q (.tuple #[]) (σ.put b (some (.cells [f, r, c, .int .i64 s', .int .i64 0, .int .i64 h'] e false))) := by
  rw [callN_at (by omega), R37.eq]
  simp [R37.top, hb]
theorem turn_if2 {σ : AW} {b : Nat} {e : TypeId} {f r c s n h : Value} {s' h' : Int} {k : Nat} {Q : Value → AW → Prop} (hk : 1 ≤ k) :
    wpA (callN Try.prog k 37 [ptr b, .int .i64 s', .int .i64 h']) (σ.put b (some (.cells [f, r, c, s, n, h] e false))) Q ↔ Q (.tuple #[]) (σ.put b (some (.cells [f, r, c, .int .i64 s', .int .i64 0, .int .i64 h'] e false))) := by
  rw [turn_iff (f := f) (r := r) (c := c) (s := s) (n := n) (h := h) (e := e) (by simp) hk, put_put]
theorem probe_iff {σ : AW} {b : Nat} {e : TypeId} {m : Md} {n : Int} {g : Bool} {k : Nat} {Q : Value → AW → Prop} (hb : σ.get b = some (.cells m.cs e false)) (hok : m.ok n) (hn : n < 9223372036854775807) (hk : 3 ≤ k) : wpA (callN Try.prog k 26 [ptr b, .bool g]) σ Q ↔ Q (.int .i64 0) (σ.put b (some (.cells (m.probe g).cs e false))) := by
  rw [callN_at (by omega), R26.eq]
  obtain ⟨h1, h2, h3, h4, h5, h6, h7, h8, h9, h10⟩ := hok
  have hw : IntKind.i64.wrap (m.run + 1) = m.run + 1 := wrap64 (by omega) (by omega)
  have hwf : IntKind.i64.wrap m.fail = m.fail := wrap64 (by omega) (by omega)
  have hno := fun Q => none_iff (k := k - 1) (Q := Q) hb (by omega) (by omega)
  by_cases hg : g = m.down
  · subst hg
    cases hd : m.down with
    | false =>
      by_cases hf : m.run + 1 = m.fail
      · simp [R26.j_17, R26.d_36, R26.d_114, R26.top, hno, hb, Md.cs, Md.probe, hd, hf, hw, hwf, turn_if2 (k := k - 1) (by omega)]
      · simp [R26.j_17, R26.d_36, R26.d_114, R26.top, hno, hb, Md.cs, Md.probe, hd, hf, hw, hwf, turn_if2 (k := k - 1) (by omega)]
    | true =>
      by_cases hr : m.rise ≤ m.run + 1
      · by_cases hh : m.hold = 0
        · simp [R26.j_17, R26.d_36, R26.d_114, R26.top, hno, hb, Md.cs, Md.probe, hd, hr, hh, hw, hwf, turn_if2 (k := k - 1) (by omega)]
        · simp [R26.j_17, R26.d_36, R26.d_114, R26.top, hno, hb, Md.cs, Md.probe, hd, hr, hh, hw, hwf, turn_if2 (k := k - 1) (by omega)]
      · simp [R26.j_17, R26.d_36, R26.d_114, R26.top, hno, hb, Md.cs, Md.probe, hd, hr, hw, hwf, turn_if2 (k := k - 1) (by omega)]
  · have hgb : (g == m.down) = false := beq_eq_false_iff_ne.2 hg
    cases hd : m.down <;> simp [hd] at hg hgb <;> simp [R26.j_17, R26.d_36, R26.d_114, R26.top, hno, hb, Md.cs, Md.probe, hg, hgb, hd, hw, hwf, turn_if2 (k := k - 1) (by omega)]
theorem rtick_iff {σ : AW} {b : Nat} {e : TypeId} {m : Md} {n : Int} {k : Nat} {Q : Value → AW → Prop} (hb : σ.get b = some (.cells m.rcs e false)) (hok : m.ok n) (hk : 1 ≤ k) : wpA (callN Try.prog k 29 [ptr b]) σ Q ↔ Q (.tuple #[]) (σ.put b (some (.cells m.tick.rcs e false))) := by
  rw [callN_at hk, R29.eq]
  obtain ⟨h1, h2, h3, h4, h5, h6, h7, h8, h9, h10⟩ := hok
  have hw : IntKind.i64.wrap (m.hold - 1) = m.hold - 1 := wrap64 (by omega) (by omega)
  by_cases h : 0 < m.hold
  · simp [R29.top, hb, Md.rcs, Md.tick, h, hw]
  · have e1 : m.tick = m := by unfold Md.tick; rw [if_neg h]
    rw [e1, put_same hb]
    simp [R29.top, hb, Md.rcs, h, hw]
theorem rprobe_iff {σ : AW} {b : Nat} {e : TypeId} {m : Md} {n : Int} {g : Bool} {k : Nat} {Q : Value → AW → Prop} (hb : σ.get b = some (.cells m.rcs e false)) (hok : m.ok n) (hn : n < 9223372036854775807) (hk : 1 ≤ k) : wpA (callN Try.prog k 30 [ptr b, .bool g]) σ Q ↔ Q (.tuple #[]) (σ.put b (some (.cells (m.probe g).rcs e false))) := by
  rw [callN_at hk, R30.eq]
  obtain ⟨h1, h2, h3, h4, h5, h6, h7, h8, h9, h10⟩ := hok
  have hw : IntKind.i64.wrap (m.run + 1) = m.run + 1 := wrap64 (by omega) (by omega)
  have hwf : IntKind.i64.wrap m.fail = m.fail := wrap64 (by omega) (by omega)
  by_cases hg : g = m.down
  · subst hg
    cases hd : m.down with
    | false =>
      by_cases hf : m.run + 1 = m.fail
      · simp [R30.d_16, R30.d_68, R30.top, hb, Md.rcs, Md.probe, hd, hf, hw, hwf]
      · simp [R30.d_16, R30.d_68, R30.top, hb, Md.rcs, Md.probe, hd, hf, hw, hwf]
    | true =>
      by_cases hr : m.rise ≤ m.run + 1
      · by_cases hh : m.hold = 0
        · simp [R30.d_16, R30.d_68, R30.top, hb, Md.rcs, Md.probe, hd, hr, hh, hw]
        · simp [R30.d_16, R30.d_68, R30.top, hb, Md.rcs, Md.probe, hd, hr, hh, hw]
      · simp [R30.d_16, R30.d_68, R30.top, hb, Md.rcs, Md.probe, hd, hr, hw]
  · have hgb : (g == m.down) = false := beq_eq_false_iff_ne.2 hg
    simp [R30.d_16, R30.d_68, R30.top, hb, Md.rcs, Md.probe, hg, hgb, hw]
theorem awake_spec {σ : AW} {k : Nat} (hk : 10 ≤ k) : wpA (callN Try.prog k 22 []) σ fun v τ => v = .bool true := by
  rw [callN_at (by omega), R22.eq]
  simp [R22.g_19, R22.g_22, R22.top]
  refine (new_spec (h := ⟨1, 1, 0⟩) (by omega)).mono ?_
  rintro v τ ⟨he, ⟨hg, b, rfl, h1, h2, h3⟩ | ⟨hg, _⟩⟩
  · simp [R22.g_19, R22.g_22, R22.top, up_iff (k := k - 1) h3 (by simp [Hc.md]) (by omega)]
    simp [Hc.md]
  · exact absurd ⟨by decide, by decide, by decide, by decide, by decide, by decide⟩ hg

theorem at_sl {σ : AW} {x : Value} {l : List Int} {n : Nat} (hx : Sl σ x 1 n (l.map I)) : n = l.length := by have := hx.1; simp at this; omega
def Md.step (m : Md) (a : Int) : Md := if a = 2 then m.tick else m.probe (decide (a = 1))
theorem Md.ok_step {m : Md} {n : Int} (h : m.ok n) (a : Int) : (m.step a).ok (n + 1) := by
  unfold Md.step
  split
  · exact Md.ok_tick h
  · exact Md.ok_probe h _
theorem Md.ok_fail {m : Md} {n : Int} (h : m.ok n) : m.fail ≠ 0 := by have := h.1; omega

theorem law_HealthPlays {σ : AW} {x : Value} {h : Hc} {l : List Int} {n k : Nat} (hx : Sl σ x 1 n (l.map I)) (hl : l.length < big) (hk : big + 50 ≤ k) : wpA (callN Try.prog k 11 [.agg h.cs.toArray, x]) σ fun v _ => v = .bool true := by
  have e1 := at_sl hx
  subst e1
  rw [callN_at (by omega), R11.eq]
  have hbig : big + 49 ≤ k - 1 := by omega
  generalize hk1 : k - 1 = k1 at hbig
  simp [R11.d_30, R11.j_72, R11.g_108, R11.g_124, R11.top, Hc.cs]
  refine (new_spec (h := h) (by omega)).mono ?_
  rintro v τ ⟨he, hv⟩
  have hx1 := (hx.ext (Ext.push σ _)).ext he
  have hbox := he.2 σ.next (by simp)
  simp at hbox
  rcases hv with ⟨hg, b, rfl, h1, h2, h3⟩ | ⟨hg, rfl⟩
  · simp [hbox]
    refine (rnew_spec (h := h) (by omega)).mono ?_
    rintro v υ ⟨hf, ⟨_, c, rfl, k1', k2, k3⟩ | ⟨hg', _⟩⟩
    · simp [R11.d_30, R11.j_72, R11.g_108, R11.g_124, R11.top]
      have hne : ¬ b = c := by omega
      have hne' : ¬ c = b := by omega
      have hsb : σ.next < b := by simp at h1; omega
      have hb0 : υ.get b = some (.cells h.md.cs 46 false) := by rw [hf.2 _ h2]; exact h3
      have hk0 : Kept σ.next σ υ := (((Ext.push σ _).trans he).trans hf)
      refine aw_loop1 (fun r v τ' => ∃ (i : Nat) (m : Md), v = I i ∧ i ≤ l.length ∧ r = l.length - i ∧ m.ok i ∧ Kept σ.next σ τ' ∧ τ'.get b = some (.cells m.cs 46 false) ∧ τ'.get c = some (.cells m.rcs 54 false)) ?_ k1 l.length _ υ ⟨0, h.md, rfl, by omega, by omega, Hc.ok hg, hk0, hb0, k3⟩ (by omega)
      rintro r rec v τ' ⟨i, m, rfl, hi, rfl, hok, hke, hbi, hci⟩ hrec
      have hxi := hx.kept (Nat.le_refl _) hke
      by_cases hlt : i < l.length
      · obtain ⟨a, ha⟩ : ∃ a, l[i]? = some a := ⟨_, List.getElem?_eq_getElem hlt⟩
        have hwi : IntKind.i64.wrap ((i : Int) + 1) = ((i + 1 : Nat) : Int) := wrap64 (by omega) (by unfold big at hl; omega)
        have behind : ∀ (m' : Md) τ2, τ2.get b = some (.cells m'.cs 46 false) → τ2.get c = some (.cells m'.rcs 54 false) → m'.ok ((i + 1 : Nat) : Int) → Kept σ.next σ τ2 → wpA (R11.j_72 (callN Try.prog k1) k1 rec (ptr b) (ptr c) (.int .i64 i)) τ2 fun v _ => v = .bool true := fun m' τ2 g1 g2 g3 g4 => by
          simp [R11.d_30, R11.j_72, R11.g_108, R11.g_124, R11.top, up_iff g1 (Md.ok_fail g3) (show 2 ≤ k1 by omega), run_iff g1 (Md.ok_fail g3) (show 2 ≤ k1 by omega), hold_iff g1 (Md.ok_fail g3) (show 2 ≤ k1 by omega), g2, Md.rcs]
          rw [hwi]
          exact hrec (l.length - (i + 1)) _ _ (by omega) ⟨i + 1, m', rfl, by omega, rfl, g3, g4, g1, g2⟩
        simp [R11.b_113, R11.d_30, R11.g_108, R11.g_124, R11.top, I, len_iff hxi, hlt, ↓at1_all hxi ha]
        have hok2 := Md.ok_step hok a
        by_cases h2 : a = 2
        · subst h2
          have hb2 : (τ'.put c (some (.cells m.tick.rcs 54 false))).get b = some (.cells m.cs 46 false) := by simp [hne, hbi]
          simp [rtick_iff hci hok (show 1 ≤ k1 by omega), tick_iff hb2 hok (show 2 ≤ k1 by omega)]
          exact behind m.tick _ (by simp) (by simp [hne']) hok2 ((hke.put (by omega) _).put (by omega) _)
        · have hs : m.step a = m.probe (decide (a = 1)) := by unfold Md.step; rw [if_neg h2]
          rw [hs] at hok2
          have hb2 : (τ'.put c (some (.cells (m.probe (decide (a = 1))).rcs 54 false))).get b = some (.cells m.cs 46 false) := by simp [hne, hbi]
          have hle : (i : Int) < 9223372036854775807 := by unfold big at hl; omega
          have hxi2 := hx.kept (Nat.le_refl _) (hke.put (show σ.next ≤ c by omega) (some (.cells (m.probe (decide (a = 1))).rcs 54 false)))
          simp [h2, rprobe_iff hci hok hle (show 1 ≤ k1 by omega), probe_iff hb2 hok hle (show 3 ≤ k1 by omega), ↓at1_all hxi ha, ↓at1_all hxi2 ha, I]
          refine behind _ _ ?_ ?_ hok2 ((hke.put ?_ _).put ?_ _)
          · simp
          · simp [hne']
          · omega
          · omega
      · simp [R11.b_113, R11.d_30, R11.g_108, R11.g_124, R11.top, I, len_iff hxi, hlt]
        exact awake_spec (by omega)
    · exact absurd hg hg'
  · simp [hbox]
    refine (rnew_spec (h := h) (by omega)).mono ?_
    rintro v υ ⟨hf, ⟨hg', _⟩ | ⟨_, rfl⟩⟩
    · exact absurd hg' hg
    · simp [R11.d_30, R11.j_72, R11.g_108, R11.g_124, R11.top]
      refine aw_loop1 (fun r v τ' => True) ?_ k1 0 _ υ trivial (by omega)
      intro r rec v τ' _ _
      simp [R11.b_113, R11.d_30, R11.j_72, R11.g_108, R11.g_124, R11.top]
      exact awake_spec (by omega)

/-! ### what nobody made -/
theorem probe_nil {σ : AW} {k : Nat} {g : Bool} {Q : Value → AW → Prop} (hk : 2 ≤ k) : wpA (callN Try.prog k 26 [.pointer none, .bool g]) σ Q ↔ Q (.int .i64 7) σ := by
  rw [callN_at (by omega), R26.eq]
  simp [R26.d_36, R26.d_114, R26.top, none_nil (k := k - 1) (by omega)]
theorem probe_zero {σ : AW} {b : Nat} {e : TypeId} {m : Md} {k : Nat} {g : Bool} {Q : Value → AW → Prop} (hb : σ.get b = some (.cells m.cs e false)) (hf : m.fail = 0) (hk : 2 ≤ k) : wpA (callN Try.prog k 26 [ptr b, .bool g]) σ Q ↔ Q (.int .i64 7) σ := by
  rw [callN_at (by omega), R26.eq]
  simp [R26.d_36, R26.d_114, R26.top, none_zero (k := k - 1) hb hf (by omega)]
theorem tick_zero {σ : AW} {b : Nat} {e : TypeId} {m : Md} {k : Nat} {Q : Value → AW → Prop} (hb : σ.get b = some (.cells m.cs e false)) (hf : m.fail = 0) (hk : 2 ≤ k) : wpA (callN Try.prog k 25 [ptr b]) σ Q ↔ Q (.int .i64 7) σ := by
  rw [callN_at (by omega), R25.eq]
  simp [R25.top, none_zero (k := k - 1) hb hf (by omega)]
theorem up_nil {σ : AW} {k : Nat} {Q : Value → AW → Prop} (hk : 2 ≤ k) : wpA (callN Try.prog k 23 [.pointer none]) σ Q ↔ Q (.bool false) σ := by
  rw [callN_at (by omega), R23.eq]
  simp [R23.g_10, R23.top, none_nil (k := k - 1) (by omega)]
theorem up_zero {σ : AW} {b : Nat} {e : TypeId} {m : Md} {k : Nat} {Q : Value → AW → Prop} (hb : σ.get b = some (.cells m.cs e false)) (hf : m.fail = 0) (hk : 2 ≤ k) : wpA (callN Try.prog k 23 [ptr b]) σ Q ↔ Q (.bool false) σ := by
  rw [callN_at (by omega), R23.eq]
  simp [R23.g_10, R23.top, none_zero (k := k - 1) hb hf (by omega)]
theorem run_nil {σ : AW} {k : Nat} {Q : Value → AW → Prop} (hk : 2 ≤ k) : wpA (callN Try.prog k 27 [.pointer none]) σ Q ↔ Q (.int .i64 0) σ := by
  rw [callN_at (by omega), R27.eq]
  simp [R27.top, none_nil (k := k - 1) (by omega)]
theorem hold_zero {σ : AW} {b : Nat} {e : TypeId} {m : Md} {k : Nat} {Q : Value → AW → Prop} (hb : σ.get b = some (.cells m.cs e false)) (hf : m.fail = 0) (hk : 2 ≤ k) : wpA (callN Try.prog k 24 [ptr b]) σ Q ↔ Q (.int .i64 0) σ := by
  rw [callN_at (by omega), R24.eq]
  simp [R24.top, none_zero (k := k - 1) hb hf (by omega)]
theorem law_HealthZero {σ : AW} {g : Bool} {k : Nat} (hk : 20 ≤ k) : wpA (callN Try.prog k 9 [.bool g]) σ fun v _ => v = .bool true := by
  rw [callN_at (by omega), R9.eq]
  have hb : (σ.push (.cells (Md.cs ⟨0, 0, 0, false, 0, 0⟩) 46 false)).get σ.next = some (.cells (Md.cs ⟨0, 0, 0, false, 0, 0⟩) 46 false) := by simp
  have h2 : 2 ≤ k - 1 := by omega
  have e : (σ.push (.cells [.int .i64 0, .int .i64 0, .int .i64 0, .int .i64 0, .int .i64 0, .int .i64 0] 46 false)) = (σ.push (.cells (Md.cs ⟨0, 0, 0, false, 0, 0⟩) 46 false)) := by simp [Md.cs]
  simp [R9.g_28, R9.g_31, R9.g_35, R9.g_38, R9.g_42, R9.g_46, R9.top, probe_nil h2, up_nil h2, run_nil h2, e, probe_zero hb rfl h2, tick_zero hb rfl h2, up_zero hb rfl h2, hold_zero hb rfl h2]

/-! ### Fold -/
def Md.fstep (m : Md) (a : Int) : Md := if a = 0 then m.probe false else if a = 1 then m.probe true else if a = 2 then m.tick else m
theorem Md.ok_fstep {m : Md} {n : Int} (h : m.ok n) (a : Int) : (m.fstep a).ok (n + 1) := by
  unfold Md.fstep
  split
  · exact Md.ok_probe h _
  · split
    · exact Md.ok_probe h _
    · split
      · exact Md.ok_tick h
      · obtain ⟨h1, h2, h3, h4, h5, h6, h7, h8, h9, h10⟩ := h
        exact ⟨h1, h2, h3, h4, h5, h6, h7, by omega, h9, h10⟩
def foldM (h : Hc) (l : List Int) (i : Nat) : Md := (l.take i).foldl Md.fstep h.md
theorem foldM_succ {h : Hc} {l : List Int} {i : Nat} {a : Int} (ha : l[i]? = some a) : foldM h l (i + 1) = (foldM h l i).fstep a := by
  unfold foldM
  rw [List.take_add_one, ha, List.foldl_append]; rfl
theorem bad_iff {σ : AW} {b : Nat} {e : TypeId} {m : Md} {n : Int} {k : Nat} {Q : Value → AW → Prop} (hb : σ.get b = some (.cells m.cs e false)) (hok : m.ok n) (hn : n < 9223372036854775807) (hk : 4 ≤ k) : wpA (callN Try.prog k 38 [ptr b]) σ Q ↔ Q (.int .i64 0) (σ.put b (some (.cells (m.probe false).cs e false))) := by
  rw [callN_at (by omega), R38.eq]
  simp [R38.top, probe_iff hb hok hn (show 3 ≤ k - 1 by omega)]
theorem good_iff {σ : AW} {b : Nat} {e : TypeId} {m : Md} {n : Int} {k : Nat} {Q : Value → AW → Prop} (hb : σ.get b = some (.cells m.cs e false)) (hok : m.ok n) (hn : n < 9223372036854775807) (hk : 4 ≤ k) : wpA (callN Try.prog k 39 [ptr b]) σ Q ↔ Q (.int .i64 0) (σ.put b (some (.cells (m.probe true).cs e false))) := by
  rw [callN_at (by omega), R39.eq]
  simp [R39.top, probe_iff hb hok hn (show 3 ≤ k - 1 by omega)]
def foldV (h : Hc) (l : List Int) : Value := .tuple #[.int .i64 (if (foldM h l l.length).down = true then 1 else 0), .int .i64 0]
theorem fold_spec {σ : AW} {x : Value} {h : Hc} {l : List Int} {n k : Nat} (hx : Sl σ x 1 n (l.map I)) (hl : l.length < big) (hk : big + 20 ≤ k) : wpA (callN Try.prog k 31 [.agg h.cs.toArray, x]) σ fun v τ => Ext σ τ ∧ ((h.good ∧ v = foldV h l) ∨ (¬ h.good ∧ v = .tuple #[.int .i64 0, .int .i64 1])) := by
  have e1 := at_sl hx
  subst e1
  rw [callN_at (by omega), R31.eq]
  have hbig : big + 19 ≤ k - 1 := by omega
  generalize hk1 : k - 1 = k1 at hbig
  simp [R31.j_27, R31.j_37, R31.j_40, R31.top, Hc.cs]
  refine (new_spec (h := h) (by omega)).mono ?_
  rintro v τ ⟨he, hv⟩
  have hke : Kept σ.next σ τ := (Ext.push σ _).trans he
  rcases hv with ⟨hg, b, rfl, h1, h2, h3⟩ | ⟨hg, rfl⟩
  · have hsb : σ.next < b := by simp at h1; omega
    have hn := hke.1
    have hne : ¬ b = τ.next := by omega
    have hne' : ¬ τ.next = b := by omega
    simp [len_iff hx]
    generalize hF : AObj.cells [Value.func (Fn.func 38) #[] #[], Value.func (Fn.func 39) #[] #[], Value.func (Fn.func 25) #[] #[]] 61 false = F
    refine aw_loop1 (fun r v τ' => ∃ i : Nat, v = I i ∧ i ≤ l.length ∧ r = l.length - i ∧ (foldM h l i).ok i ∧ Kept σ.next σ τ' ∧ τ'.get b = some (.cells (foldM h l i).cs 46 false) ∧ τ'.get τ.next = some F) ?_ k1 l.length _ _ ⟨0, rfl, by omega, by omega, Hc.ok hg, (hke.push (by omega) _).put (by omega) _, by simp [hne, h3]; rfl, by simp⟩ (by omega)
    rintro r rec v τ' ⟨i, rfl, hi, rfl, hok, hki, hbi, hfi⟩ hrec
    have hxi := hx.kept (Nat.le_refl _) hki
    by_cases hlt : i < l.length
    · obtain ⟨a, ha⟩ : ∃ a, l[i]? = some a := ⟨_, List.getElem?_eq_getElem hlt⟩
      have hwi : IntKind.i64.wrap ((i : Int) + 1) = ((i + 1 : Nat) : Int) := wrap64 (by omega) (by unfold big at hl; omega)
      have hok2 := Md.ok_fstep hok a
      rw [← foldM_succ ha] at hok2
      have hle : (i : Int) < 9223372036854775807 := by unfold big at hl; omega
      have go : ∀ τ2, Kept σ.next σ τ2 → τ2.get b = some (.cells (foldM h l (i + 1)).cs 46 false) → τ2.get τ.next = some F → wpA (rec (.int .i64 ((i + 1 : Nat) : Int))) τ2 fun v τ => Ext σ τ ∧ ((h.good ∧ v = foldV h l) ∨ (¬ h.good ∧ v = .tuple #[.int .i64 0, .int .i64 1])) := fun τ2 g1 g2 g3 =>
        hrec (l.length - (i + 1)) _ _ (by omega) ⟨i + 1, rfl, by omega, rfl, hok2, g1, g2, g3⟩
      have hs := foldM_succ (h := h) ha
      subst hF
      have k4 : 4 ≤ k1 := by omega
      by_cases a0 : a = 0
      · subst a0
        have e : (foldM h l i).fstep 0 = (foldM h l i).probe false := rfl
        rw [hs, e] at go
        simp [R31.b_49, R31.j_27, R31.j_37, R31.j_40, R31.top, I, hlt, ↓at1_all hxi ha, hfi, bad_iff hbi hok hle k4, hwi]
        refine go _ (hki.put ?_ _) ?_ ?_
        · omega
        · simp
        · simp [hne', hfi]
      · by_cases a1 : a = 1
        · subst a1
          have e : (foldM h l i).fstep 1 = (foldM h l i).probe true := rfl
          rw [hs, e] at go
          simp [R31.b_49, R31.j_27, R31.j_37, R31.j_40, R31.top, I, hlt, ↓at1_all hxi ha, hfi, good_iff hbi hok hle k4, hwi]
          refine go _ (hki.put ?_ _) ?_ ?_
          · omega
          · simp
          · simp [hne', hfi]
        · by_cases a2 : a = 2
          · subst a2
            have e : (foldM h l i).fstep 2 = (foldM h l i).tick := rfl
            rw [hs, e] at go
            simp [R31.b_49, R31.j_27, R31.j_37, R31.j_40, R31.top, I, hlt, ↓at1_all hxi ha, hfi, tick_iff hbi hok (show 2 ≤ k1 by omega), hwi]
            refine go _ (hki.put ?_ _) ?_ ?_
            · omega
            · simp
            · simp [hne', hfi]
          · have e : (foldM h l i).fstep a = foldM h l i := by unfold Md.fstep; rw [if_neg a0, if_neg a1, if_neg a2]
            rw [hs, e] at go
            simp [R31.b_49, R31.j_27, R31.j_37, R31.j_40, R31.top, I, hlt, ↓at1_all hxi ha, hfi, a0, a1, a2, hwi]
            exact go _ hki hbi hfi
    · have e : i = l.length := by omega
      subst e
      simp [R31.b_49, I, hbi, Md.cs]
      exact ⟨hki, hg, rfl⟩
  · simp
    exact ⟨hke, .inr hg⟩
theorem rfold_spec {σ : AW} {x : Value} {h : Hc} {l : List Int} {n k : Nat} (hx : Sl σ x 1 n (l.map I)) (hl : l.length < big) (hk : big + 20 ≤ k) : wpA (callN Try.prog k 32 [.agg h.cs.toArray, x]) σ fun v τ => Ext σ τ ∧ ((h.good ∧ v = foldV h l) ∨ (¬ h.good ∧ v = .tuple #[.int .i64 0, .int .i64 1])) := by
  have e1 := at_sl hx
  subst e1
  rw [callN_at (by omega), R32.eq]
  have hbig : big + 19 ≤ k - 1 := by omega
  generalize hk1 : k - 1 = k1 at hbig
  simp [R32.j_26, R32.top, Hc.cs]
  refine (rnew_spec (h := h) (by omega)).mono ?_
  rintro v τ ⟨he, hv⟩
  have hke : Kept σ.next σ τ := (Ext.push σ _).trans he
  rcases hv with ⟨hg, b, rfl, h1, h2, h3⟩ | ⟨hg, rfl⟩
  · have hsb : σ.next < b := by simp at h1; omega
    simp
    refine aw_loop1 (fun r v τ' => ∃ i : Nat, v = I i ∧ i ≤ l.length ∧ r = l.length - i ∧ (foldM h l i).ok i ∧ Kept σ.next σ τ' ∧ τ'.get b = some (.cells (foldM h l i).rcs 54 false)) ?_ k1 l.length _ _ ⟨0, rfl, by omega, by omega, Hc.ok hg, hke, h3⟩ (by omega)
    rintro r rec v τ' ⟨i, rfl, hi, rfl, hok, hki, hbi⟩ hrec
    have hxi := hx.kept (Nat.le_refl _) hki
    by_cases hlt : i < l.length
    · obtain ⟨a, ha⟩ : ∃ a, l[i]? = some a := ⟨_, List.getElem?_eq_getElem hlt⟩
      have hwi : IntKind.i64.wrap ((i : Int) + 1) = ((i + 1 : Nat) : Int) := wrap64 (by omega) (by unfold big at hl; omega)
      have hok2 := Md.ok_fstep hok a
      rw [← foldM_succ ha] at hok2
      have hle : (i : Int) < 9223372036854775807 := by unfold big at hl; omega
      have go : ∀ τ2, Kept σ.next σ τ2 → τ2.get b = some (.cells (foldM h l (i + 1)).rcs 54 false) → wpA (rec (.int .i64 ((i + 1 : Nat) : Int))) τ2 fun v τ => Ext σ τ ∧ ((h.good ∧ v = foldV h l) ∨ (¬ h.good ∧ v = .tuple #[.int .i64 0, .int .i64 1])) := fun τ2 g1 g2 =>
        hrec (l.length - (i + 1)) _ _ (by omega) ⟨i + 1, rfl, by omega, rfl, hok2, g1, g2⟩
      have hs := foldM_succ (h := h) ha
      have k4 : 1 ≤ k1 := by omega
      by_cases a0 : a = 0
      · subst a0
        have e : (foldM h l i).fstep 0 = (foldM h l i).probe false := rfl
        rw [hs, e] at go
        simp [R32.b_48, R32.j_26, R32.top, I, hlt, len_iff hxi, ↓at1_all hxi ha, rprobe_iff hbi hok hle k4, hwi]
        refine go _ (hki.put ?_ _) ?_
        · omega
        · simp
      · by_cases a1 : a = 1
        · subst a1
          have e : (foldM h l i).fstep 1 = (foldM h l i).probe true := rfl
          rw [hs, e] at go
          simp [R32.b_48, R32.j_26, R32.top, I, hlt, len_iff hxi, ↓at1_all hxi ha, rprobe_iff hbi hok hle k4, hwi]
          refine go _ (hki.put ?_ _) ?_
          · omega
          · simp
        · by_cases a2 : a = 2
          · subst a2
            have e : (foldM h l i).fstep 2 = (foldM h l i).tick := rfl
            rw [hs, e] at go
            simp [R32.b_48, R32.j_26, R32.top, I, hlt, len_iff hxi, ↓at1_all hxi ha, rtick_iff hbi hok k4, hwi]
            refine go _ (hki.put ?_ _) ?_
            · omega
            · simp
          · have e : (foldM h l i).fstep a = foldM h l i := by unfold Md.fstep; rw [if_neg a0, if_neg a1, if_neg a2]
            rw [hs, e] at go
            simp [R32.b_48, R32.j_26, R32.top, I, hlt, len_iff hxi, ↓at1_all hxi ha, a0, a1, a2, hwi]
            exact go _ hki hbi
    · have e : i = l.length := by omega
      subst e
      cases hd : (foldM h l l.length).down <;> simp [R32.b_48, I, len_iff hxi, hbi, Md.rcs, hd, foldV, hg] <;> exact hki
  · simp
    exact ⟨hke, .inr hg⟩
theorem law_HealthFolds {σ : AW} {x : Value} {h : Hc} {l : List Int} {n k : Nat} (hx : Sl σ x 1 n (l.map I)) (hl : l.length < big) (hk : big + 50 ≤ k) : wpA (callN Try.prog k 12 [.agg h.cs.toArray, x]) σ fun v _ => v = .bool true := by
  rw [callN_at (by omega), R12.eq]
  have hbig : big + 49 ≤ k - 1 := by omega
  generalize hk1 : k - 1 = k1 at hbig
  have hx1 := hx.ext (Ext.push σ (.cells h.cs 37 false))
  simp [R12.g_30, R12.g_32, R12.top, Hc.cs]
  refine (fold_spec (h := h) hx1 hl (by omega)).mono ?_
  rintro v τ ⟨he, hv⟩
  have hbox := he.2 σ.next (by simp)
  simp at hbox
  have hx2 := hx1.ext he
  rcases hv with ⟨hg, rfl⟩ | ⟨hg, rfl⟩
  · simp [foldV, hbox, Hc.cs]
    refine (rfold_spec (h := h) hx2 hl (by omega)).mono ?_
    rintro v υ ⟨hf, ⟨_, rfl⟩ | ⟨hg', _⟩⟩
    · simp [foldV]
      refine (awake_spec (by omega)).mono ?_
      rintro v _ rfl
      simp
    · exact absurd hg hg'
  · simp [hbox, Hc.cs]
    refine (rfold_spec (h := h) hx2 hl (by omega)).mono ?_
    rintro v υ ⟨hf, ⟨hg', _⟩ | ⟨_, rfl⟩⟩
    · exact absurd hg' hg
    · simp
      refine (awake_spec (by omega)).mono ?_
      rintro v _ rfl
      simp

/-! ### Turns -/
def Md.inv (m : Md) (bad good : Int) : Prop := 0 ≤ bad ∧ 0 ≤ good ∧ (m.down = false → m.run ≤ bad) ∧ (m.down = true → m.run ≤ good)
theorem Md.inv_good {m : Md} {bad good : Int} (h : m.inv bad good) : (m.probe true).inv 0 (good + 1) ∧ (m.down = false → (m.probe true).down = false) ∧ (m.down = true → (m.probe true).down = false → m.rise ≤ good + 1 ∧ m.hold = 0) := by
  obtain ⟨h1, h2, h3, h4⟩ := h
  unfold Md.probe Md.inv
  cases hd : m.down with
  | false => simp; omega
  | true =>
    have := h4 hd
    simp
    by_cases hc : m.rise ≤ m.run + 1 ∧ m.hold = 0
    · simp [hc]; omega
    · simp [hc, hd]; omega
theorem Md.inv_bad {m : Md} {bad good : Int} (h : m.inv bad good) : (m.probe false).inv (bad + 1) 0 ∧ (m.down = true → (m.probe false).down = true) ∧ (m.down = false → (m.probe false).down = true → m.fail ≤ bad + 1) := by
  obtain ⟨h1, h2, h3, h4⟩ := h
  unfold Md.probe Md.inv
  cases hd : m.down with
  | true => simp [hd]; omega
  | false =>
    have := h3 hd
    simp
    by_cases hc : m.run + 1 = m.fail
    · simp [hc]; omega
    · simp [hc, hd]; omega
theorem Md.inv_tick {m : Md} {bad good : Int} (h : m.inv bad good) : m.tick.inv bad good := h
theorem Md.probe_cfg (m : Md) (g : Bool) : (m.probe g).fail = m.fail ∧ (m.probe g).rise = m.rise := by
  unfold Md.probe
  split
  · split
    · exact ⟨rfl, rfl⟩
    · split <;> exact ⟨rfl, rfl⟩
  · exact ⟨rfl, rfl⟩

set_option maxHeartbeats 4000000 in
theorem law_HealthTurns {σ : AW} {x : Value} {h : Hc} {l : List Int} {n k : Nat} (hx : Sl σ x 1 n (l.map I)) (hl : l.length < big) (hk : big + 50 ≤ k) : wpA (callN Try.prog k 8 [.agg h.cs.toArray, x]) σ fun v _ => v = .bool true := by
  have e1 := at_sl hx
  subst e1
  rw [callN_at (by omega), R8.eq]
  have hbig : big + 49 ≤ k - 1 := by omega
  generalize hk1 : k - 1 = k1 at hbig
  simp [R8.j_24, R8.g_56, R8.g_58, R8.g_60, R8.g_63, R8.g_66, R8.g_71, R8.g_78, R8.g_81, R8.g_84, R8.g_88, R8.g_90, R8.g_95, R8.g_102, R8.j_106, R8.g_156, R8.top, Hc.cs]
  refine (new_spec (h := h) (by omega)).mono ?_
  rintro v τ ⟨he, hv⟩
  have hbox := he.2 σ.next (by simp)
  simp at hbox
  have hke : Kept σ.next σ τ := (Ext.push σ _).trans he
  rcases hv with ⟨hg, b, rfl, h1, h2, h3⟩ | ⟨hg, rfl⟩
  · have hsb : σ.next < b := by simp at h1; omega
    have hne : ¬ σ.next = b := by omega
    simp
    refine aw_loop3 (fun r u v w τ' => ∃ (i : Nat) (bad good : Int) (m : Md), u = I bad ∧ v = I good ∧ w = I i ∧ bad ≤ i ∧ good ≤ i ∧ i ≤ l.length ∧ r = l.length - i ∧ m.ok i ∧ m.inv bad good ∧ m.fail = h.fail ∧ m.rise = h.rise ∧ Kept σ.next σ τ' ∧ τ'.get b = some (.cells m.cs 46 false) ∧ τ'.get σ.next = some (.cells [.int .i64 h.fail, .int .i64 h.rise, .int .i64 h.hold] 37 false)) ?_ k1 l.length _ _ _ _ ⟨0, 0, 0, h.md, rfl, rfl, rfl, by omega, by omega, by omega, by omega, Hc.ok hg, ⟨by omega, by omega, fun _ => Int.le_refl _, fun _ => Int.le_refl _⟩, rfl, rfl, hke, h3, hbox⟩ (by omega)
    rintro r rec u v w τ' ⟨i, bad, good, m, rfl, rfl, rfl, hbl, hgl, hi, rfl, hok, hinv, hmf, hmr, hki, hbi, hci⟩ hrec
    have hxi := hx.kept (Nat.le_refl _) hki
    have k3 : 3 ≤ k1 := by omega
    have k2 : 2 ≤ k1 := by omega
    by_cases hlt : i < l.length
    · obtain ⟨a, ha⟩ : ∃ a, l[i]? = some a := ⟨_, List.getElem?_eq_getElem hlt⟩
      have hli : (i : Int) < 9223372036854775807 := by unfold big at hl; omega
      have hwi : IntKind.i64.wrap ((i : Int) + 1) = ((i + 1 : Nat) : Int) := wrap64 (by omega) (by omega)
      have hwb : IntKind.i64.wrap (bad + 1) = bad + 1 := wrap64 (by have := hinv.1; omega) (by omega)
      have hwg : IntKind.i64.wrap (good + 1) = good + 1 := wrap64 (by have := hinv.2.1; omega) (by omega)
      have hle : (i : Int) < 9223372036854775807 := by omega
      have hfa := Md.ok_fail hok
      have go : ∀ (m' : Md) (bad' good' : Int) τ2, bad' ≤ ((i + 1 : Nat) : Int) → good' ≤ ((i + 1 : Nat) : Int) → m'.ok ((i + 1 : Nat) : Int) → m'.inv bad' good' → m'.fail = h.fail → m'.rise = h.rise → Kept σ.next σ τ2 → τ2.get b = some (.cells m'.cs 46 false) → τ2.get σ.next = some (.cells [.int .i64 h.fail, .int .i64 h.rise, .int .i64 h.hold] 37 false) → wpA (rec (.int .i64 bad') (.int .i64 good') (.int .i64 ((i + 1 : Nat) : Int))) τ2 fun v _ => v = .bool true := fun m' bad' good' τ2 g0 g0' g1 g2 g3 g4 g5 g6 g7 =>
        hrec (l.length - (i + 1)) _ _ _ _ (by omega) ⟨i + 1, bad', good', m', rfl, rfl, rfl, g0, g0', by omega, rfl, g1, g2, g3, g4, g5, g6, g7⟩
      by_cases a2 : a = 2
      · subst a2
        simp [R8.b_140, R8.j_24, R8.g_56, R8.g_58, R8.g_60, R8.g_63, R8.g_66, R8.g_71, R8.g_78, R8.g_81, R8.g_84, R8.g_88, R8.g_90, R8.g_95, R8.g_102, R8.j_106, R8.g_156, R8.top, I, hlt, len_iff hxi, ↓at1_all hxi ha, up_iff hbi hfa k2, hold_iff hbi hfa k2, tick_iff hbi hok k2, hwi]
        have hb2 : (τ'.put b (some (.cells m.tick.cs 46 false))).get b = some (.cells m.tick.cs 46 false) := by simp
        have hd : m.tick.down = m.down := rfl
        simp [up_iff hb2 hfa k2, hd, hwi]
        refine go m.tick bad good _ (by omega) (by omega) (Md.ok_tick hok) (Md.inv_tick hinv) hmf hmr (hki.put ?_ _) ?_ ?_
        · omega
        · simp
        · simp [hne, hci]
      · have side : ∀ g : Bool, ∃ m', m' = m.probe g ∧ m'.ok ((i + 1 : Nat) : Int) ∧ m'.fail = h.fail ∧ m'.rise = h.rise ∧ m'.fail ≠ 0 ∧ (τ'.put b (some (.cells m'.cs 46 false))).get b = some (.cells m'.cs 46 false) ∧ Kept σ.next σ (τ'.put b (some (.cells m'.cs 46 false))) ∧ (τ'.put b (some (.cells m'.cs 46 false))).get σ.next = some (.cells [.int .i64 h.fail, .int .i64 h.rise, .int .i64 h.hold] 37 false) := fun g => by
          obtain ⟨c1, c2⟩ := Md.probe_cfg m g
          exact ⟨_, rfl, Md.ok_probe hok g, c1.trans hmf, c2.trans hmr, by rw [c1]; exact hfa, by simp, hki.put (by omega) _, by simp [hne, hci]⟩
        by_cases a1 : a = 1
        · subst a1
          obtain ⟨i1, i2, i3⟩ := Md.inv_good hinv
          obtain ⟨m', hm', s1, s2, s3, s4, s5, s6, s7⟩ := side true
          rw [← hm'] at i1 i2 i3
          have hxj := hx.kept (Nat.le_refl _) s6
          cases hd : m.down with
          | false =>
            have hd' := i2 hd
            simp [R8.b_140, R8.j_24, R8.g_56, R8.g_58, R8.g_60, R8.g_63, R8.g_66, R8.g_71, R8.g_78, R8.g_81, R8.g_84, R8.g_88, R8.g_90, R8.g_95, R8.g_102, R8.j_106, R8.g_156, R8.top, I, hlt, len_iff hxi, ↓at1_all hxi ha, ↓at1_all hxj ha, up_iff hbi hfa k2, hold_iff hbi hfa k2, probe_iff hbi hok hle k3, ← hm', up_iff s5 s4 k2, hwi, hwg, hd, hd', hne, hci]
            exact go _ _ _ _ (by omega) (by omega) s1 i1 s2 s3 s6 s5 s7
          | true =>
            cases hd' : m'.down with
            | true =>
              simp [R8.b_140, R8.j_24, R8.g_56, R8.g_58, R8.g_60, R8.g_63, R8.g_66, R8.g_71, R8.g_78, R8.g_81, R8.g_84, R8.g_88, R8.g_90, R8.g_95, R8.g_102, R8.j_106, R8.g_156, R8.top, I, hlt, len_iff hxi, ↓at1_all hxi ha, ↓at1_all hxj ha, up_iff hbi hfa k2, hold_iff hbi hfa k2, probe_iff hbi hok hle k3, ← hm', up_iff s5 s4 k2, hwi, hwg, hd, hd', hne, hci]
              exact go _ _ _ _ (by omega) (by omega) s1 i1 s2 s3 s6 s5 s7
            | false =>
              obtain ⟨j1, j2⟩ := i3 hd hd'
              have j3 : ¬ good + 1 < h.rise := by omega
              simp [R8.b_140, R8.j_24, R8.g_56, R8.g_58, R8.g_60, R8.g_63, R8.g_66, R8.g_71, R8.g_78, R8.g_81, R8.g_84, R8.g_88, R8.g_90, R8.g_95, R8.g_102, R8.j_106, R8.g_156, R8.top, I, hlt, len_iff hxi, ↓at1_all hxi ha, ↓at1_all hxj ha, up_iff hbi hfa k2, hold_iff hbi hfa k2, probe_iff hbi hok hle k3, ← hm', up_iff s5 s4 k2, hwi, hwg, hd, hd', hne, hci, j2, j3]
              exact go _ _ _ _ (by omega) (by omega) s1 i1 s2 s3 s6 s5 s7
        · obtain ⟨i1, i2, i3⟩ := Md.inv_bad hinv
          obtain ⟨m', hm', s1, s2, s3, s4, s5, s6, s7⟩ := side false
          rw [← hm'] at i1 i2 i3
          have hxj := hx.kept (Nat.le_refl _) s6
          cases hd : m.down with
          | true =>
            have hd' := i2 hd
            simp [R8.b_140, R8.j_24, R8.g_56, R8.g_58, R8.g_60, R8.g_63, R8.g_66, R8.g_71, R8.g_78, R8.g_81, R8.g_84, R8.g_88, R8.g_90, R8.g_95, R8.g_102, R8.j_106, R8.g_156, R8.top, I, hlt, len_iff hxi, ↓at1_all hxi ha, ↓at1_all hxj ha, up_iff hbi hfa k2, hold_iff hbi hfa k2, probe_iff hbi hok hle k3, ← hm', up_iff s5 s4 k2, hwi, hwb, hd, hd', hne, hci, a1, a2]
            exact go _ _ _ _ (by omega) (by omega) s1 i1 s2 s3 s6 s5 s7
          | false =>
            cases hd' : m'.down with
            | false =>
              simp [R8.b_140, R8.j_24, R8.g_56, R8.g_58, R8.g_60, R8.g_63, R8.g_66, R8.g_71, R8.g_78, R8.g_81, R8.g_84, R8.g_88, R8.g_90, R8.g_95, R8.g_102, R8.j_106, R8.g_156, R8.top, I, hlt, len_iff hxi, ↓at1_all hxi ha, ↓at1_all hxj ha, up_iff hbi hfa k2, hold_iff hbi hfa k2, probe_iff hbi hok hle k3, ← hm', up_iff s5 s4 k2, hwi, hwb, hd, hd', hne, hci, a1, a2]
              exact go _ _ _ _ (by omega) (by omega) s1 i1 s2 s3 s6 s5 s7
            | true =>
              have j3 : ¬ bad + 1 < h.fail := by have := i3 hd hd'; omega
              simp [R8.b_140, R8.j_24, R8.g_56, R8.g_58, R8.g_60, R8.g_63, R8.g_66, R8.g_71, R8.g_78, R8.g_81, R8.g_84, R8.g_88, R8.g_90, R8.g_95, R8.g_102, R8.j_106, R8.g_156, R8.top, I, hlt, len_iff hxi, ↓at1_all hxi ha, ↓at1_all hxj ha, up_iff hbi hfa k2, hold_iff hbi hfa k2, probe_iff hbi hok hle k3, ← hm', up_iff s5 s4 k2, hwi, hwb, hd, hd', hne, hci, a1, a2, j3]
              exact go _ _ _ _ (by omega) (by omega) s1 i1 s2 s3 s6 s5 s7
    · simp [R8.b_140, I, hlt, len_iff hxi]
      refine (awake_spec (by omega)).mono ?_
      rintro v _ rfl
      simp
  · simp
    refine (awake_spec (by omega)).mono ?_
    rintro v _ rfl
    simp

end Go.Proofs.Ytlediheihkgebaa
