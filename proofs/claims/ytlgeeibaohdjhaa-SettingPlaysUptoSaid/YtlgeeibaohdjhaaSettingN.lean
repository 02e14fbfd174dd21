/- Faults and settings compared. -/
import Derived.Test.YtlgeeibaohdjhaaSettingM
set_option linter.unusedVariables false
set_option linter.unusedSimpArgs false
namespace Go.Proofs.Ytlgeeibaohdjhaa
open Go.Proofs.Ytlgeeibaohdjhaa.Eng
section
variable {σ : AW} {Q : Value → AW → Prop}
set_option maxRecDepth 100000 in
theorem ft_parts (a b c : Value) : purely Try.prog (part 4 #[a, b, c] 0) = some a ∧ purely Try.prog (part 3 #[a, b, c] 1) = some b ∧ purely Try.prog (part 3 #[a, b, c] 2) = some c := ⟨by kernel_rfl, by kernel_rfl, by kernel_rfl⟩
set_option maxRecDepth 100000 in
theorem st_parts (a b : Value) : purely Try.prog (part 3 #[a, b] 0) = some a ∧ purely Try.prog (part 22 #[a, b] 1) = some b := ⟨by kernel_rfl, by kernel_rfl⟩
theorem fields33 : Try.prog.underlying 33 = some (.struct (Try.prog.fieldsOf 33)) := by unfold Program.fieldsOf; rw [Try.underlying33]
theorem fields24 : Try.prog.underlying 24 = some (.struct (Try.prog.fieldsOf 24)) := by unfold Program.fieldsOf; rw [Try.underlying24]
theorem guard33 : Try.prog.eqGuardType Try.prog.depth 33 = false := by kernel_rfl
theorem stood33 : Try.prog.stoodInHeld 33 = false := by kernel_rfl
theorem guard24 : Try.prog.eqGuardType Try.prog.depth 24 = false := by kernel_rfl
theorem stood24 : Try.prog.stoodInHeld 24 = false := by kernel_rfl
theorem ft_eqF (a a' : Bool) (s s' c c' : Int) : purely Try.prog (Op.eqFields 9999 #[.bool a, .int .i64 s, .int .i64 c] #[.bool a', .int .i64 s', .int .i64 c'] (Try.prog.fieldsOf 33).toList) = some ((a == a') && ((s == s') && (c == c'))) := by
  have hf : (Try.prog.fieldsOf 33).toList = (match Try.prog.underlying 33 with | some (.struct fs) => fs.toList | _ => []) := by unfold Program.fieldsOf; rw [Try.underlying33]
  rw [hf, Try.underlying33]
  obtain ⟨p1, p2, p3⟩ := ft_parts (.bool a) (.int .i64 s) (.int .i64 c)
  obtain ⟨q1, q2, q3⟩ := ft_parts (.bool a') (.int .i64 s') (.int .i64 c')
  have s1 := purely_eqBool (P := Try.prog) 9998 4 a a' Try.underlying4
  have s2 := purely_eqInt (P := Try.prog) 9998 3 .i64 .i64 s s' Try.underlying3
  have s3 := purely_eqInt (P := Try.prog) 9998 3 .i64 .i64 c c' Try.underlying3
  simp only [Op.eqFields, purely_bind, purely_ite, p1, p2, p3, q1, q2, q3, Option.bind_some, s1, s2, s3, purely_pure]
  have n1 : ("Is" : String) ≠ "_" := by decide
  have n2 : ("Stream" : String) ≠ "_" := by decide
  have n3 : ("Code" : String) ≠ "_" := by decide
  rw [if_pos n1, if_pos n2, if_pos n3]
  cases h1 : (a == a') <;> cases h2 : (s == s') <;> cases h3 : (c == c') <;> simp
theorem st_eqF (a a' c c' : Int) : purely Try.prog (Op.eqFields 9999 #[.int .i64 a, .int .u32 c] #[.int .i64 a', .int .u32 c'] (Try.prog.fieldsOf 24).toList) = some ((a == a') && (c == c')) := by
  have hf : (Try.prog.fieldsOf 24).toList = (match Try.prog.underlying 24 with | some (.struct fs) => fs.toList | _ => []) := by unfold Program.fieldsOf; rw [Try.underlying24]
  rw [hf, Try.underlying24]
  obtain ⟨p1, p2⟩ := st_parts (.int .i64 a) (.int .u32 c)
  obtain ⟨q1, q2⟩ := st_parts (.int .i64 a') (.int .u32 c')
  have s1 := purely_eqInt (P := Try.prog) 9998 3 .i64 .i64 a a' Try.underlying3
  have s2 := purely_eqInt (P := Try.prog) 9998 22 .u32 .u32 c c' Try.underlying22
  simp only [Op.eqFields, purely_bind, purely_ite, p1, p2, q1, q2, Option.bind_some, s1, s2, purely_pure]
  have n1 : ("ID" : String) ≠ "_" := by decide
  have n2 : ("Value" : String) ≠ "_" := by decide
  rw [if_pos n1, if_pos n2]
  cases h1 : (a == a') <;> cases h3 : (c == c') <;> simp
theorem ft_neq {a a' : Bool} {s s' c c' : Int} : wpA (binA Try.prog .neq 33 (.agg #[.bool a, .int .i64 s, .int .i64 c]) (.agg #[.bool a', .int .i64 s', .int .i64 c'])) σ Q ↔ Q (.bool !((a == a') && ((s == s') && (c == c')))) σ := by
  refine wpA_iff ?_
  have f1 : ∀ (a : Bool) (s c : Int), flat (.agg #[.bool a, .int .i64 s, .int .i64 c]) = true := fun _ _ _ => rfl
  simp only [binA]
  rw [f1, f1, purely_neq guard33 fields33 stood33 (ft_eqF a a' s s' c c')]
  rfl
theorem st_neq {a a' c c' : Int} : wpA (binA Try.prog .neq 24 (.agg #[.int .i64 a, .int .u32 c]) (.agg #[.int .i64 a', .int .u32 c'])) σ Q ↔ Q (.bool !((a == a') && (c == c'))) σ := by
  refine wpA_iff ?_
  have f1 : ∀ (a c : Int), flat (.agg #[.int .i64 a, .int .u32 c]) = true := fun _ _ => rfl
  simp only [binA]
  rw [f1, f1, purely_neq guard24 fields24 stood24 (st_eqF a a' c c')]
  rfl
end
end Go.Proofs.Ytlgeeibaohdjhaa
