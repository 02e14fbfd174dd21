/- The rules, and New, in the model. -/
import Derived.Test.YtlgeeibaohdjhaaSettingB
import Derived.WalkKit
import Derived.Carry
import Derived.StillTactics
import Derived.LoopTactic
import Derived.Laws.IdiomRangeMap
import Derived.Maps.RangeRun
set_option linter.unusedVariables false
set_option linter.unusedSimpArgs false
namespace Go.Proofs.Ytlgeeibaohdjhaa
open Go.Proofs.Ytlgeeibaohdjhaa.Eng
open Go.RowKit
theorem mixedM : Try.prog.follows .mixedOrders = true := by decide +kernel
/-- A number and the first number of a rule. -/
def ruleOf (e : MapEntry) : Int × Int := (match e.key with | .int _ n => n | _ => 0, match e.val with | .agg ⟨.int _ n :: _⟩ => n | _ => 0)
def first7 : List (Int × Int) := [(1, 4096), (2, 1), (3, 4294967295), (4, 65535), (5, 16384), (6, 4294967295), (8, 0)]
def IsRule (e : MapEntry) : Prop := ∃ k n g fs cs, e.key = .int .i64 k ∧ e.val = .agg #[.int .u32 n, .func g fs cs]
def rul (m : Nat) (p : Int × Int) (f : Value) : Value × Value := (.int .i64 p.1, rule p.2 f)
theorem wr0 (w : World) : WR Try.prog (fun _ => none) ⟨.nil, 0⟩ w := ⟨fun _ _ h => (by cases h), fun _ _ h => (by cases h), fun b o h => (by cases h), fun b c x y p q h => (by cases h)⟩
theorem rel_rules {φ : Phi} : ∀ (es : List (Value × Value)) (ms : List MapEntry), (∀ x ∈ es, ∃ k n g fs cs, x = (.int .i64 k, rule n (.func g ⟨fs⟩ ⟨cs⟩))) → VRs φ (es.map (·.1)) (ms.map (·.key)) → VRs φ (es.map (·.2)) (ms.map (·.val)) →
    (∀ e ∈ ms, IsRule e) ∧ ms.map ruleOf = es.map fun x => ruleOf ⟨x.1, x.2, 0⟩
  | [], [], _, _, _ => ⟨fun _ h => (by cases h), rfl⟩
  | [], _ :: _, _, h, _ => by simp [VRs] at h
  | _ :: _, [], _, h, _ => by simp [VRs] at h
  | x :: es, m :: ms, hx, h1, h2 => by
    obtain ⟨k, n, g, fs, cs, rfl⟩ := hx x (by simp)
    simp only [List.map_cons, VRs, VR, rule, List.cons.injEq] at h1 h2
    obtain ⟨v', vs', ⟨e1, e2⟩, e3, e4⟩ := h1
    obtain ⟨u', us', ⟨g1, g2⟩, ⟨cs', g3, u1, us1, g4, g5, u2, us2, g6, ⟨fs', cs', g7, _, _⟩, g8⟩, g9⟩ := h2
    subst e2; subst g2
    subst g6; subst g8; subst g5; subst g7
    obtain ⟨i1, i2⟩ := rel_rules es ms (fun y hy => hx y (by simp [hy])) e4 g9
    have mk : m.key = .int .i64 k := by rw [e1, e3]
    have mv : m.val = .agg #[.int .u32 n, .func g ⟨fs'⟩ ⟨cs'⟩] := by rw [g1, g3, g4]
    refine ⟨fun e he => ?_, ?_⟩
    · rcases List.mem_cons.1 he with rfl | he
      · exact ⟨k, n, g, _, _, mk, mv⟩
      · exact i1 e he
    · simp only [List.map_cons, i2]
      congr 1
      simp only [ruleOf, mk, mv, rule]
theorem rules_real (w : World) : Calls Try.prog 50 #[] w fun e w' => ∃ m ms clock, e = .returned (.map (some m)) ∧ w.heap.size ≤ m ∧ m < w'.heap.size ∧ w'.heap[m]? = some (.map ms clock) ∧ (∀ x ∈ ms.toList, x.born < clock) ∧ (ms.toList.map (·.born)).Nodup ∧
    (∀ x ∈ ms.toList, IsRule x) ∧ (ms.toList.map ruleOf).Perm first7 ∧ Below w.heap.size w w' := by
  obtain ⟨v, τ, h1, h2, h3, h4, h5, _⟩ := rules_spec (σ := ⟨.nil, 0⟩) (k := 3) (Nat.le_refl _)
  refine ((callN_sound mixedM 3 50 [] _ _ _ h1).2 (fun _ => none) w #[] (wr0 w) rfl).mono fun e w' ⟨ψ, v', he, hv, hw, hf⟩ => ?_
  subst h2
  simp only [VR] at hv
  obtain ⟨p, p1, p2, rfl⟩ := hv
  obtain ⟨q, q1, q2⟩ := hw.dom _ _ h5
  rw [p1] at q1
  injection q1 with q1
  subst q1
  obtain ⟨_, _, es', ms, clock, hp, hh, hk, hvs, hb, hn⟩ := q2
  obtain ⟨r1, r2⟩ := rel_rules es' ms.toList (fun x hx => by
    have := hp.mem_iff.2 hx
    simp only [rulesL, List.mem_cons, List.mem_nil_iff, or_false] at this
    rcases this with rfl | rfl | rfl | rfl | rfl | rfl | rfl <;> exact ⟨_, _, _, _, _, rfl⟩) hk hvs
  refine ⟨p.blk, ms, clock, he, ?_, hw.blk _ _ p1, hh, hb, hn, r1, ?_, hf.below fun b o h => by cases h⟩
  · refine Nat.le_of_not_lt fun hlt => (hf.keep p.blk hlt ?_).2 ⟨_, _, _, h5, rfl, p1, rfl⟩
    rintro ⟨b, o, q, h, _⟩
    cases h
  · rw [r2]
    exact ((hp.map _).symm).trans (List.Perm.of_eq (by simp [rulesL, rule, ruleOf, first7]))
end Go.Proofs.Ytlgeeibaohdjhaa
