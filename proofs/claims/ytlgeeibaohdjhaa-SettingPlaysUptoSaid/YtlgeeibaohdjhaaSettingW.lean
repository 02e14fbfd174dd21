/- Check, in the model: where a rule has bounds. -/
import Derived.Test.YtlgeeibaohdjhaaSettingI
set_option linter.unusedVariables false
set_option linter.unusedSimpArgs false
namespace Go.Proofs.Ytlgeeibaohdjhaa
open Go.Proofs.Ytlgeeibaohdjhaa.Eng
open Go.RowKit
set_option maxRecDepth 1000000 in
set_option maxHeartbeats 6400000 in
theorem check_within (x y n : Int) (b : Nat) (lo hi c : Int) (hf : findA .i64 x (rulesL 0) = some (some (rule n (withinF b)))) (hin : ∀ τ, Within τ 1 0 1 1 → Within τ 4 0 2147483647 3 → Within τ 7 16384 16777215 1 → Within τ 10 0 1 1 → Within τ b lo hi c) (w : World) :
    Calls Try.prog 15 #[.agg #[.int .i64 x, .int .u32 y]] w fun e w' => e = .returned (.int .i64 (codeOf y lo hi c)) ∧ Below w.heap.size w w' := by
  go_enter Try.func15, Try.ntmps15
  go_wp2_with (fail)
  go_region_with (go_at_call 50; refine (rules_within x n b lo hi c hf hin _).mono ?_; rintro e w2 ⟨m, b0, o0, b1, o1, b2, o2, rfl, hb, hm, ⟨g0, g1, g2⟩, h0, h1, h2, hl⟩; simp only [World.size_alloc, heap_drew] at g0 g1 g2; obtain ⟨c0, c1, c2, c3, hl1, hl2⟩ := roomA (N := w.heap.size) (y := y) hb hm hl (by go_simp) (by go_simp); first | (obtain ⟨d0, d1, f0, f1⟩ := roomB' hb; simp only [World.size_alloc, heap_drew] at d0 d1 f0 f1) | skip)
  all_goals (have hbw : Below w.heap.size w w2 := below_up hb (by first | exact below_a _ _ | exact below_b _ _ _))
  all_goals go_wp2_with (go_at_call 63; (first | refine (within_real y lo hi c b0 o0 b1 o1 b2 o2 _ (cell_old _ h0) (cell_old _ h1) (cell_old _ h2)).mono ?_ | refine (within_real y lo hi c b0 o0 b1 o1 b2 o2 _ (cell_set (cell_set h0 (by exact Nat.ne_of_lt g0)) (by exact Nat.ne_of_lt g0)) (cell_set (cell_set h1 (by exact Nat.ne_of_lt g1)) (by exact Nat.ne_of_lt g1)) (cell_set (cell_set h2 (by exact Nat.ne_of_lt g2)) (by exact Nat.ne_of_lt g2))).mono ?_); rintro e w3 ⟨rfl, hb3⟩)
  all_goals go_ret
  all_goals (refine ⟨rfl, below_up hb3 ?_⟩; first | exact hbw.alloc hbw.size _ | exact (hbw.setCell (by simp) _).setCell (by simp) _)
end Go.Proofs.Ytlgeeibaohdjhaa
