/- Check, in the model: where there is a rule. -/
import Derived.Test.YtlgeeibaohdjhaaSettingH
set_option linter.unusedVariables false
set_option linter.unusedSimpArgs false
namespace Go.Proofs.Ytlgeeibaohdjhaa
open Go.Proofs.Ytlgeeibaohdjhaa.Eng
open Go.RowKit
set_option maxRecDepth 1000000 in
set_option maxHeartbeats 3200000 in
theorem check_any (x y n : Int) (hf : findA .i64 x (rulesL 0) = some (some (rule n anyF))) (w : World) : Calls Try.prog 15 #[.agg #[.int .i64 x, .int .u32 y]] w fun e w' => e = .returned (.int .i64 0) ∧ Below w.heap.size w w' := by
  go_enter Try.func15, Try.ntmps15
  go_wp2_with (fail)
  go_region_with (go_at_call 50; refine (rules_any x n hf _).mono ?_; rintro e w2 ⟨m, rfl, hb, hm, hl⟩; obtain ⟨c0, c1, c2, c3, hl1, hl2⟩ := roomA (N := w.heap.size) (y := y) hb hm hl (by go_simp) (by go_simp); first | (obtain ⟨d0, d1, f0, f1⟩ := roomB' hb; simp only [World.size_alloc, heap_drew] at d0 d1 f0 f1) | skip)
  all_goals (have hbw : Below w.heap.size w w2 := below_up hb (by first | exact below_a _ _ | exact below_b _ _ _))
  all_goals go_wp2_with (go_at_call 61; refine (any_real y _).mono ?_; rintro e w3 ⟨rfl, hb3⟩)
  all_goals go_ret
  all_goals (refine ⟨rfl, below_up hb3 ?_⟩; first | exact hbw.alloc hbw.size _ | exact (hbw.setCell (by simp) _).setCell (by simp) _)
end Go.Proofs.Ytlgeeibaohdjhaa
