/- Check, as the abstract machine may take it. -/
import Derived.Test.YtlgeeibaohdjhaaSettingW
set_option linter.unusedVariables false
set_option linter.unusedSimpArgs false
namespace Go.Proofs.Ytlgeeibaohdjhaa
open Go.Proofs.Ytlgeeibaohdjhaa.Eng
open Go.RowKit
/-- What is wrong with a setting. -/
def checkOf (x y : Int) : Int :=
  if x = 2 ∨ x = 8 then (if 1 < y then 1 else 0)
  else if x = 4 then (if 2147483647 < y then 3 else 0)
  else if x = 5 then (if y < 16384 ∨ 16777215 < y then 1 else 0)
  else 0
theorem find_rules (x : Int) (h : x ≠ 1 ∧ x ≠ 2 ∧ x ≠ 3 ∧ x ≠ 4 ∧ x ≠ 5 ∧ x ≠ 6 ∧ x ≠ 8) : findA .i64 x (rulesL 0) = some none := by
  obtain ⟨h1, h2, h3, h4, h5, h6, h8⟩ := h
  simp [rulesL, findA, h1, h2, h3, h4, h5, h6, h8]
theorem codeOf_low {y hi c : Int} (h : 0 ≤ y) : codeOf y 0 hi c = if hi < y then c else 0 := by
  have : ¬ y < 0 := by omega
  simp [codeOf, this]
theorem check_real (x y : Int) (hy : 0 ≤ y) (w : World) : Calls Try.prog 15 #[.agg #[.int .i64 x, .int .u32 y]] w fun e w' => e = .returned (.int .i64 (checkOf x y)) ∧ Below w.heap.size w w' := by
  by_cases e1 : x = 1
  · subst e1; exact check_any 1 y 4096 rfl w
  by_cases e2 : x = 2
  · subst e2
    have h := check_within 2 y 1 1 0 1 1 rfl (fun _ h _ _ _ => h) w
    rw [codeOf_low hy] at h
    exact h
  by_cases e3 : x = 3
  · subst e3; exact check_any 3 y 4294967295 rfl w
  by_cases e4 : x = 4
  · subst e4
    have h := check_within 4 y 65535 4 0 2147483647 3 rfl (fun _ _ h _ _ => h) w
    rw [codeOf_low hy] at h
    exact h
  by_cases e5 : x = 5
  · subst e5
    exact check_within 5 y 16384 7 16384 16777215 1 rfl (fun _ _ _ h _ => h) w
  by_cases e6 : x = 6
  · subst e6; exact check_any 6 y 4294967295 rfl w
  by_cases e8 : x = 8
  · subst e8
    have h := check_within 8 y 0 10 0 1 1 rfl (fun _ _ _ _ h => h) w
    rw [codeOf_low hy] at h
    exact h
  · have h := check_none x y (find_rules x ⟨e1, e2, e3, e4, e5, e6, e8⟩) w
    simp only [checkOf, e2, e4, e5, e8, or_self, if_false]
    exact h
def ovCheck : List Value → AM Value := fun args σ => match args with
  | [.agg ⟨[.int .i64 x, .int .u32 y]⟩] => if 0 ≤ y then some (.int .i64 (checkOf x y), σ) else none
  | _ => none
theorem ov_check : OvOk Try.prog 15 ovCheck := by
  intro args σ v τ h
  unfold ovCheck at h
  split at h
  · rename_i x y
    split at h
    · rename_i hy
      obtain ⟨rfl, rfl⟩ := Prod.mk.inj (Option.some.inj h)
      refine ⟨⟨Try.f15, Try.func15, by decide +kernel, by decide +kernel⟩, fun φ w args' hw hv => ?_⟩
      simp only [VRs, VR] at hv
      obtain ⟨v', vs', hl, ⟨cs, rfl, u1, us1, rfl, rfl, u2, us2, rfl, rfl, rfl⟩, rfl⟩ := hv
      have ha : args' = #[.agg #[.int .i64 x, .int .u32 y]] := by
        obtain ⟨l⟩ := args'
        simp only at hl
        rw [hl]
      subst ha
      refine (check_real x y hy w).mono fun e w' ⟨he, hb⟩ => ?_
      refine ⟨φ, _, he, rfl, ⟨hw.fresh, fun b p h => Nat.lt_of_lt_of_le (hw.blk b p h) hb.size, fun b o h => ?_, hw.inj⟩, ⟨Phi.le_refl _, hb.size, fun k hk ho => ⟨hb.block k hk, ho⟩, hb.os, hb.tape, hb.output⟩⟩
      obtain ⟨p, p1, p2⟩ := hw.dom b o h
      exact ⟨p, p1, p2.block (hb.block _ (hw.blk b p p1))⟩
    · cases h
  · cases h
end Go.Proofs.Ytlgeeibaohdjhaa
