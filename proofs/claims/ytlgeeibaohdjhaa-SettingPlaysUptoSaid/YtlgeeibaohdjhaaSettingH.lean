/- Check, in the model. -/
import Derived.Test.YtlgeeibaohdjhaaSettingG
import Derived.Laws.EntriesVeiled
import Derived.Deep.RegionWith
set_option linter.unusedVariables false
set_option linter.unusedSimpArgs false
namespace Go.Proofs.Ytlgeeibaohdjhaa
open Go.Proofs.Ytlgeeibaohdjhaa.Eng
open Go.RowKit
theorem cell_old {w : World} {a : Addr} {v : Value} (o : Obj) (h : w.cell? a = some v) : (w.alloc o).cell? a = some v := by
  have hl := World.block_lt_of_cell? w a h
  rw [← h]
  simp only [World.cell?, heap_alloc_old w o hl]
theorem cell_set {w : World} {a p : Addr} {u v : Value} (h : w.cell? a = some v) (hne : p.block ≠ a.block) : (w.setCell p u).cell? a = some v := by
  have hn : p ≠ a := fun e => hne (by rw [e])
  simp only [World.cell?_setCell_other, ne_eq, hn, not_false_eq_true, h]
theorem roomA {W w2 : World} {N m : Nat} {x y : Int} {u : Value} {b : Bool} (hb : Below W.heap.size W w2) (hm : m < w2.heap.size) (hl : ∀ w'', w''.heap[m]? = w2.heap[m]? → Looks m x u b w'') (hx : W.cell? ⟨N, 0, none⟩ = some (.int .i64 x)) (hy : W.cell? ⟨N, 1, none⟩ = some (.int .u32 y)) :
    w2.cell? ⟨N, 0, none⟩ = some (.int .i64 x) ∧ w2.cell? ⟨N, 1, none⟩ = some (.int .u32 y) ∧ (∀ o, (w2.alloc o).cell? ⟨N, 0, none⟩ = some (.int .i64 x)) ∧ (∀ o, (w2.alloc o).cell? ⟨N, 1, none⟩ = some (.int .u32 y)) ∧
      (Instr.lookup 101 (.map (some m)) (.int .i64 x) true).run Try.prog w2 = .ok (.tuple #[u, .bool b]) w2 ∧ ∀ o, (Instr.lookup 101 (.map (some m)) (.int .i64 x) true).run Try.prog (w2.alloc o) = .ok (.tuple #[u, .bool b]) (w2.alloc o) := by
  have c0 := (hb.cell (p := ⟨N, 0, none⟩) (World.block_lt_of_cell? W _ hx)).trans hx
  have c1 := (hb.cell (p := ⟨N, 1, none⟩) (World.block_lt_of_cell? W _ hy)).trans hy
  exact ⟨c0, c1, fun o => cell_old o c0, fun o => cell_old o c1, hl w2 rfl, fun o => hl _ (heap_alloc_old _ _ hm)⟩
theorem roomB {W w2 : World} (hb : Below (W.alloc (.cells #[.int .u32 0, .nilFunc] 99)).heap.size (W.alloc (.cells #[.int .u32 0, .nilFunc] 99)) w2) :
    w2.cell? ⟨W.heap.size, 0, none⟩ = some (.int .u32 0) ∧ w2.cell? ⟨W.heap.size, 1, none⟩ = some .nilFunc ∧ w2.frozen? ⟨W.heap.size, 0, none⟩ = false ∧ w2.frozen? ⟨W.heap.size, 1, none⟩ = false := by
  have hs : W.heap.size < (W.alloc (.cells #[.int .u32 0, .nilFunc] 99)).heap.size := by simp
  refine ⟨(hb.cell (p := ⟨W.heap.size, 0, none⟩) hs).trans ?_, (hb.cell (p := ⟨W.heap.size, 1, none⟩) hs).trans ?_, (hb.frozen (p := ⟨W.heap.size, 0, none⟩) hs).trans ?_, (hb.frozen (p := ⟨W.heap.size, 1, none⟩) hs).trans ?_⟩
  · simp only [World.cell?, heap_alloc_new]; rfl
  · simp only [World.cell?, heap_alloc_new]; rfl
  · simp only [World.frozen?, heap_alloc_new]; rfl
  · simp only [World.frozen?, heap_alloc_new]; rfl
theorem roomB' {W w2 : World} (hb : Below (W.alloc (.cells #[.int .u32 0, .nilFunc] 99)).drew.heap.size (W.alloc (.cells #[.int .u32 0, .nilFunc] 99)).drew w2) :
    w2.cell? ⟨W.heap.size, 0, none⟩ = some (.int .u32 0) ∧ w2.cell? ⟨W.heap.size, 1, none⟩ = some .nilFunc ∧ w2.frozen? ⟨W.heap.size, 0, none⟩ = false ∧ w2.frozen? ⟨W.heap.size, 1, none⟩ = false := roomB ⟨hb.os, hb.tape, hb.output, hb.size, hb.block⟩
theorem below_up {w W w2 : World} (h : Below W.heap.size W w2) (k : Below w.heap.size w W) : Below w.heap.size w w2 :=
  ⟨h.os.trans k.os, h.tape.trans k.tape, h.output.trans k.output, Nat.le_trans k.size h.size, fun i hi => (h.block i (Nat.lt_of_lt_of_le hi k.size)).trans (k.block i hi)⟩
theorem below_a (w : World) (o : Obj) : Below w.heap.size w (w.alloc o).drew := ((Below.refl _ _).alloc (Nat.le_refl _) _).drew
theorem below_b (w : World) (o p : Obj) : Below w.heap.size w ((w.alloc o).alloc p).drew := (((Below.refl _ _).alloc (Nat.le_refl _) _).alloc (by simp) _).drew
set_option maxRecDepth 1000000 in
set_option maxHeartbeats 3200000 in
theorem check_none (x y : Int) (hf : findA .i64 x (rulesL 0) = some none) (w : World) : Calls Try.prog 15 #[.agg #[.int .i64 x, .int .u32 y]] w fun e w' => e = .returned (.int .i64 0) ∧ Below w.heap.size w w' := by
  go_enter Try.func15, Try.ntmps15
  go_wp2_with (fail)
  go_region_with (go_at_call 50; refine (rules_none x hf _).mono ?_; rintro e w2 ⟨m, rfl, hb, hm, hl⟩; obtain ⟨c0, c1, c2, c3, hl1, hl2⟩ := roomA (N := w.heap.size) (y := y) hb hm hl (by go_simp) (by go_simp); first | (obtain ⟨d0, d1, f0, f1⟩ := roomB' hb; simp only [World.size_alloc, heap_drew] at d0 d1 f0 f1) | skip)
  all_goals (have hbw : Below w.heap.size w w2 := below_up hb (by first | exact below_a _ _ | exact below_b _ _ _))
  all_goals go_wp2
  all_goals go_ret
  all_goals (refine ⟨rfl, ?_⟩; first | exact hbw.alloc hbw.size _ | exact (hbw.setCell (by simp) _).setCell (by simp) _)
end Go.Proofs.Ytlgeeibaohdjhaa
