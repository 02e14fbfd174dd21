/- What the rules say of a number. -/
import Derived.Test.YtlgeeibaohdjhaaSettingE
set_option linter.unusedVariables false
set_option linter.unusedSimpArgs false
namespace Go.Proofs.Ytlgeeibaohdjhaa
open Go.Proofs.Ytlgeeibaohdjhaa.Eng
open Go.RowKit
theorem info99 : (Try.prog.info? 99).map (·.zero) = some (some (.agg #[.int .u32 0, .nilFunc])) := by kernel_rfl
/-- In that world the map answers so. -/
def Looks (m : Nat) (x : Int) (u : Value) (b : Bool) (w : World) : Prop := (Instr.lookup 101 (.map (some m)) (.int .i64 x) true).run Try.prog w = .ok (.tuple #[u, .bool b]) w
theorem looks {ψ : Phi} {τ : AW} {w : World} {b : Nat} {p : Go.Proofs.Ytlgeeibaohdjhaa.Eng.Place} {es : List (Value × Value)} {x : Int} {r : Option Value} (hw : WR Try.prog ψ τ w) (hg : τ.get b = some (.map es)) (hp : ψ b = some p) (hf : findA .i64 x es = some r) :
    (r = none ∧ ∀ w', w'.heap[p.blk]? = w.heap[p.blk]? → Looks p.blk x (.agg #[.int .u32 0, .nilFunc]) false w') ∨ (∃ u u', r = some u ∧ VR ψ u u' ∧ ∀ w', w'.heap[p.blk]? = w.heap[p.blk]? → Looks p.blk x u' true w') := by
  obtain ⟨q, hq, ho⟩ := hw.dom _ _ hg
  rw [hp] at hq; injection hq with hq; subst hq
  obtain ⟨_, hko, es', ms, clock, hperm, g1, g2, g3, g4, g5⟩ := ho
  obtain ⟨i, hi, hz⟩ : ∃ i, Try.prog.info? 99 = some i ∧ i.zero = some (.agg #[.int .u32 0, .nilFunc]) := by
    have := info99
    cases h : Try.prog.info? 99 with
    | none => rw [h] at this; cases this
    | some i => rw [h] at this; exact ⟨i, rfl, Option.some.inj this⟩
  have hf' := findA_perm (keys_kind hko hf) hperm hf
  rcases findNow_at (t := .i64) es' ms.toList r 0 hf' g2 g3 with ⟨rfl, a1⟩ | ⟨u, u', j, m, rfl, a1, a2, _⟩
  · exact .inl ⟨rfl, fun w' h => run_lookup Try.underlying101 Try.underlying3 hi hz (some p.blk) ms (.inr ⟨_, clock, rfl, h.trans g1⟩) none a1⟩
  · exact .inr ⟨u, u', rfl, a2, fun w' h => run_lookup Try.underlying101 Try.underlying3 hi hz (some p.blk) ms (.inr ⟨_, clock, rfl, h.trans g1⟩) _ a1⟩
theorem rules_at (x : Int) (r : Option Value) (hf : findA .i64 x (rulesL 0) = some r) (w : World) : Calls Try.prog 50 #[] w fun e w' => ∃ m ψ τ, e = .returned (.map (some m)) ∧ Below w.heap.size w w' ∧ m < w'.heap.size ∧ WR Try.prog ψ τ w' ∧
    (∀ b o p, τ.get b = some o → o.rw = true → ψ b = some p → w.heap.size ≤ p.blk) ∧ Within τ 1 0 1 1 ∧ Within τ 4 0 2147483647 3 ∧ Within τ 7 16384 16777215 1 ∧ Within τ 10 0 1 1 ∧
    ((r = none ∧ ∀ w'', w''.heap[m]? = w'.heap[m]? → Looks m x (.agg #[.int .u32 0, .nilFunc]) false w'') ∨ (∃ u u', r = some u ∧ VR ψ u u' ∧ ∀ w'', w''.heap[m]? = w'.heap[m]? → Looks m x u' true w'')) := by
  obtain ⟨v, τ, h1, h2, h3, h4, h5, k1, k2, k3, k4⟩ := rules_spec (σ := ⟨.nil, 0⟩) (k := 3) (Nat.le_refl _)
  refine ((callN_sound mixedM 3 50 [] _ _ _ h1).2 (fun _ => none) w #[] (wr0 w) rfl).mono fun e w' ⟨ψ, v', he, hv, hw, hfr⟩ => ?_
  subst h2
  simp only [VR] at hv
  obtain ⟨p, p1, p2, rfl⟩ := hv
  exact ⟨p.blk, ψ, τ, he, hfr.below fun b o h => (by cases h), hw.blk _ _ p1, hw, fun b o q hb ho hq => Nat.le_of_not_lt fun hlt => (hfr.keep q.blk hlt fun ⟨_, _, _, h, _⟩ => (by cases h)).2 ⟨b, o, q, hb, ho, hq, rfl⟩, k1, k2, k3, k4, looks hw h5 p1 hf⟩
/-- No rule. -/
theorem rules_none (x : Int) (hf : findA .i64 x (rulesL 0) = some none) (w : World) : Calls Try.prog 50 #[] w fun e w' => ∃ m, e = .returned (.map (some m)) ∧ Below w.heap.size w w' ∧ m < w'.heap.size ∧ ∀ w'', w''.heap[m]? = w'.heap[m]? → Looks m x (.agg #[.int .u32 0, .nilFunc]) false w'' := by
  refine (rules_at x none hf w).mono fun e w' ⟨m, ψ, τ, he, hb, hm, _, _, _, _, _, _, h⟩ => ⟨m, he, hb, hm, ?_⟩
  rcases h with ⟨_, h⟩ | ⟨_, _, h, _⟩
  · exact h
  · cases h
/-- A rule that bars nothing. -/
theorem rules_any (x n : Int) (hf : findA .i64 x (rulesL 0) = some (some (rule n anyF))) (w : World) : Calls Try.prog 50 #[] w fun e w' => ∃ m, e = .returned (.map (some m)) ∧ Below w.heap.size w w' ∧ m < w'.heap.size ∧ ∀ w'', w''.heap[m]? = w'.heap[m]? → Looks m x (.agg #[.int .u32 n, .func (.func 61) #[] #[]]) true w'' := by
  refine (rules_at x _ hf w).mono fun e w' ⟨m, ψ, τ, he, hb, hm, _, _, _, _, _, _, h⟩ => ⟨m, he, hb, hm, ?_⟩
  rcases h with ⟨h, _⟩ | ⟨u, u', h, hv, hl⟩
  · cases h
  · injection h with h
    subst h
    simp only [rule, anyF, VR, VRs] at hv
    obtain ⟨cs, rfl, v', vs', rfl, rfl, v2, vs2, rfl, ⟨fs, gs, rfl, rfl, rfl⟩, rfl⟩ := hv
    exact hl
theorem cell_of {ψ : Phi} {τ : AW} {w : World} {b : Nat} {p : Go.Proofs.Ytlgeeibaohdjhaa.Eng.Place} {k : IntKind} {n : Int} {e : TypeId} (hw : WR Try.prog ψ τ w) (hg : τ.get b = some (.cells [.int k n] e false)) (hp : ψ b = some p) : w.cell? ⟨p.blk, p.off, none⟩ = some (.int k n) := by
  obtain ⟨l', h1, h2⟩ := hw.cells (b := b) (off := 0) (n := 1) (l := [.int k n]) (by simp [AW.cells, hg]) p hp
  simp only [VRs, VR] at h1
  obtain ⟨v', vs', rfl, rfl, rfl⟩ := h1
  obtain ⟨v, h3, h4⟩ := h2 0 (by omega)
  injection h3 with h3
  subst h3
  exact h4
/-- A rule with bounds. -/
theorem rules_within (x n : Int) (b : Nat) (lo hi c : Int) (hf : findA .i64 x (rulesL 0) = some (some (rule n (withinF b)))) (hin : ∀ τ, Within τ 1 0 1 1 → Within τ 4 0 2147483647 3 → Within τ 7 16384 16777215 1 → Within τ 10 0 1 1 → Within τ b lo hi c) (w : World) :
    Calls Try.prog 50 #[] w fun e w' => ∃ m b0 o0 b1 o1 b2 o2, e = .returned (.map (some m)) ∧ Below w.heap.size w w' ∧ m < w'.heap.size ∧ (w.heap.size ≤ b0 ∧ w.heap.size ≤ b1 ∧ w.heap.size ≤ b2) ∧ w'.cell? ⟨b0, o0, none⟩ = some (.int .u32 lo) ∧ w'.cell? ⟨b1, o1, none⟩ = some (.int .u32 hi) ∧ w'.cell? ⟨b2, o2, none⟩ = some (.int .i64 c) ∧
      ∀ w'', w''.heap[m]? = w'.heap[m]? → Looks m x (.agg #[.int .u32 n, .func (.func 63) #[] #[.pointer (some ⟨b0, o0, none⟩), .pointer (some ⟨b1, o1, none⟩), .pointer (some ⟨b2, o2, none⟩)]]) true w'' := by
  refine (rules_at x _ hf w).mono fun e w' ⟨m, ψ, τ, he, hb, hm, hw, hnew, k1, k2, k3, k4, h⟩ => ?_
  obtain ⟨w1, w2, w3⟩ := hin τ k1 k2 k3 k4
  rcases h with ⟨h, _⟩ | ⟨u, u', h, hv, hl⟩
  · cases h
  · injection h with h
    subst h
    simp only [rule, withinF, ptr, VR, VRs] at hv
    obtain ⟨cs, rfl, v', vs', rfl, rfl, v2, vs2, rfl, ⟨fs, gs, rfl, rfl, v3, vs3, rfl, ⟨p0, q0, _, rfl⟩, v4, vs4, rfl, ⟨p1, q1, _, rfl⟩, v5, vs5, rfl, ⟨p2, q2, _, rfl⟩, rfl⟩, rfl⟩ := hv
    exact ⟨m, _, _, _, _, _, _, he, hb, hm, ⟨hnew _ _ _ w1 rfl q0, hnew _ _ _ w2 rfl q1, hnew _ _ _ w3 rfl q2⟩, cell_of hw w1 q0, cell_of hw w2 q1, cell_of hw w3 q2, hl⟩
end Go.Proofs.Ytlgeeibaohdjhaa
