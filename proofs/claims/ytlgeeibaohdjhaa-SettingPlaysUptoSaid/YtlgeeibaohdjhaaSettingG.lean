/- A rule with bounds, in the model. -/
import Derived.Test.YtlgeeibaohdjhaaSettingF
set_option linter.unusedVariables false
set_option linter.unusedSimpArgs false
namespace Go.Proofs.Ytlgeeibaohdjhaa
open Go.Proofs.Ytlgeeibaohdjhaa.Eng
open Go.RowKit
def codeOf (y lo hi c : Int) : Int := if y < lo ∨ hi < y then c else 0
theorem within_spec {σ : AW} {k : Nat} {Q : Value → AW → Prop} {y lo hi c : Int} {p0 p1 p2 : Nat} {e0 e1 e2 : TypeId} {r0 r1 r2 : Bool} (hk : 1 ≤ k) (h0 : σ.get p0 = some (.cells [.int .u32 lo] e0 r0)) (h1 : σ.get p1 = some (.cells [.int .u32 hi] e1 r1)) (h2 : σ.get p2 = some (.cells [.int .i64 c] e2 r2)) :
    wpA (callN Try.prog k 63 [.int .u32 y, ptr p0, ptr p1, ptr p2]) σ Q ↔ Q (.int .i64 (codeOf y lo hi c)) σ := by
  rw [callN_at hk, R63.eq]
  simp [R63.g_13, R63.top, h0, h1, h2]
  by_cases a1 : y < lo <;> by_cases a2 : hi < y <;> simp [a1, a2, codeOf, h2]
theorem any_spec {σ : AW} {k : Nat} {Q : Value → AW → Prop} {y : Int} (hk : 1 ≤ k) : wpA (callN Try.prog k 61 [.int .u32 y]) σ Q ↔ Q (.int .i64 0) σ := by
  rw [callN_at hk, R61.eq]
  simp [R61.top]
def phiR (a0 a1 a2 : Nat × Nat) : Phi := fun b => if b = 0 then some ⟨a0.1, a0.2, 0⟩ else if b = 1 then some ⟨a1.1, a1.2, 0⟩ else if b = 2 then some ⟨a2.1, a2.2, 0⟩ else none
def sigR (lo hi c : Int) : AW := (((⟨.nil, 0⟩ : AW).push (.cells [.int .u32 lo] 22 true)).push (.cells [.int .u32 hi] 22 true)).push (.cells [.int .i64 c] 3 true)
theorem get_sigR {lo hi c : Int} {b : Nat} {o : AObj} (h : (sigR lo hi c).get b = some o) : (b = 0 ∧ o = .cells [.int .u32 lo] 22 true) ∨ (b = 1 ∧ o = .cells [.int .u32 hi] 22 true) ∨ (b = 2 ∧ o = .cells [.int .i64 c] 3 true) := by
  simp only [sigR, AW.get_push, AW.next_push] at h
  split at h
  · exact .inr (.inr ⟨by omega, by cases h; rfl⟩)
  split at h
  · exact .inr (.inl ⟨by omega, by cases h; rfl⟩)
  split at h
  · exact .inl ⟨by omega, by cases h; rfl⟩
  · simp [AW.get, Trie.get] at h
theorem within_real (y lo hi c : Int) (b0 o0 b1 o1 b2 o2 : Nat) (w : World) (h0 : w.cell? ⟨b0, o0, none⟩ = some (.int .u32 lo)) (h1 : w.cell? ⟨b1, o1, none⟩ = some (.int .u32 hi)) (h2 : w.cell? ⟨b2, o2, none⟩ = some (.int .i64 c)) :
    Calls Try.prog 63 #[.int .u32 y, .pointer (some ⟨b0, o0, none⟩), .pointer (some ⟨b1, o1, none⟩), .pointer (some ⟨b2, o2, none⟩)] w fun e w' => e = .returned (.int .i64 (codeOf y lo hi c)) ∧ Below w.heap.size w w' := by
  have hw : WR Try.prog (phiR (b0, o0) (b1, o1) (b2, o2)) (sigR lo hi c) w := by
    refine ⟨fun b p hb => ?_, fun b p hb => ?_, fun b o ho => ?_, fun b c x y p q hb hc hx hp hq he => ?_⟩
    · simp only [phiR] at hb
      simp only [sigR, AW.next_push]
      split at hb
      · omega
      split at hb
      · omega
      split at hb
      · omega
      · cases hb
    · simp only [phiR] at hb
      split at hb
      · cases hb; exact World.block_lt_of_cell? w _ h0
      split at hb
      · cases hb; exact World.block_lt_of_cell? w _ h1
      split at hb
      · cases hb; exact World.block_lt_of_cell? w _ h2
      · cases hb
    · rcases get_sigR ho with ⟨rfl, rfl⟩ | ⟨rfl, rfl⟩ | ⟨rfl, rfl⟩
      · refine ⟨_, rfl, fun i v hi => ?_⟩
        match i with
        | 0 => injection hi with hi; subst hi; exact ⟨_, h0, rfl⟩
        | i + 1 => simp at hi
      · refine ⟨_, rfl, fun i v hi => ?_⟩
        match i with
        | 0 => injection hi with hi; subst hi; exact ⟨_, h1, rfl⟩
        | i + 1 => simp at hi
      · refine ⟨_, rfl, fun i v hi => ?_⟩
        match i with
        | 0 => injection hi with hi; subst hi; exact ⟨_, h2, rfl⟩
        | i + 1 => simp at hi
    · rcases get_sigR hb with ⟨rfl, rfl⟩ | ⟨rfl, rfl⟩ | ⟨rfl, rfl⟩ <;> cases hx
  obtain ⟨v, τ, g1, rfl, rfl⟩ := (within_spec (σ := sigR lo hi c) (k := 1) (Q := fun v τ => v = .int .i64 (codeOf y lo hi c) ∧ τ = sigR lo hi c) (y := y) (p0 := 0) (p1 := 1) (p2 := 2) (Nat.le_refl _) (by simp [sigR, AW.get_push]; exact ⟨rfl, rfl⟩) (by simp [sigR, AW.get_push]; exact ⟨rfl, rfl⟩) (by simp [sigR, AW.get_push]; exact ⟨rfl, rfl⟩)).2 ⟨rfl, rfl⟩
  refine ((callN_sound mixedM 1 63 _ _ _ _ g1).2 (phiR (b0, o0) (b1, o1) (b2, o2)) w _ hw ⟨_, _, rfl, rfl, _, _, rfl, ⟨_, rfl, rfl, rfl⟩, _, _, rfl, ⟨_, rfl, rfl, rfl⟩, _, _, rfl, ⟨_, rfl, rfl, rfl⟩, rfl⟩).mono fun e w' ⟨ψ, v', he, hv, _, hfr⟩ => ?_
  simp only [VR] at hv
  subst hv
  exact ⟨he, hfr.below fun b o h => by rcases get_sigR h with ⟨rfl, rfl⟩ | ⟨rfl, rfl⟩ | ⟨rfl, rfl⟩ <;> rfl⟩
theorem any_real (y : Int) (w : World) : Calls Try.prog 61 #[.int .u32 y] w fun e w' => e = .returned (.int .i64 0) ∧ Below w.heap.size w w' := by
  obtain ⟨v, τ, g1, rfl, rfl⟩ := (any_spec (σ := ⟨.nil, 0⟩) (k := 1) (Q := fun v τ => v = .int .i64 0 ∧ τ = ⟨.nil, 0⟩) (y := y) (Nat.le_refl _)).2 ⟨rfl, rfl⟩
  refine ((callN_sound mixedM 1 61 _ _ _ _ g1).2 (fun _ => none) w _ (wr0 w) ⟨_, _, rfl, rfl, rfl⟩).mono fun e w' ⟨ψ, v', he, hv, _, hfr⟩ => ?_
  simp only [VR] at hv
  subst hv
  exact ⟨he, hfr.below fun b o h => by cases h⟩
end Go.Proofs.Ytlgeeibaohdjhaa
