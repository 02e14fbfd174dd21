/- Plain laws of what Huff computes: all codes. -/
import Derived.Test.YtgpddhoidlpcaaaHuff
set_option linter.unusedVariables false
set_option linter.unusedSimpArgs false
namespace Go.Proofs.Ytgpddhoidlpcaaa
open Go.Proofs.Ytgpddhoidlpcaaa.Eng
def pairC (p : Nat × Nat) : List Value := [.int .u32 p.1, .int .i64 p.2]
def arrC (a : List (Nat × Nat)) : List Value := a.flatMap pairC
theorem pairC_len (p : Nat × Nat) : (pairC p).length = 2 := rfl
theorem arrC_len (a : List (Nat × Nat)) : (arrC a).length = a.length * 2 := length_flatMap pairC_len a
theorem arrC_set : ∀ (a : List (Nat × Nat)) (s : Nat) (p : Nat × Nat), s < a.length → splice (arrC a) (s * 2) (pairC p) = arrC (a.set s p)
  | [], s, p, h => by simp at h
  | q :: a, 0, p, _ => by
    rw [splice_def]
    show List.take 0 (arrC (q :: a)) ++ pairC p ++ List.drop (0 + 2) (pairC q ++ arrC a) = pairC p ++ arrC a
    rfl
  | q :: a, s + 1, p, h => by
    have ih := arrC_set a s p (by simpa using h)
    rw [splice_def] at ih ⊢
    have e : (s + 1) * 2 = s * 2 + 2 := by omega
    rw [e]
    show List.take (s * 2 + 2) (pairC q ++ arrC a) ++ pairC p ++ List.drop (s * 2 + 2 + 2) (pairC q ++ arrC a) = pairC q ++ arrC (a.set s p)
    rw [← ih]
    have l2 : (pairC p).length = 2 := rfl
    rw [l2]
    show (.int .u32 q.1) :: (.int .i64 q.2) :: List.take (s * 2) (arrC a) ++ pairC p ++ List.drop (s * 2 + 2) (arrC a) = pairC q ++ (List.take (s * 2) (arrC a) ++ pairC p ++ List.drop (s * 2 + 2) (arrC a))
    simp [pairC]
def setAll (n b : Nat) (a : List (Nat × Nat)) : List Nat → List (Nat × Nat)
  | [] => a
  | s :: l => setAll (n + 1) b (a.set s (n, b)) l
theorem setAll_len : ∀ (l : List Nat) (n b : Nat) (a : List (Nat × Nat)), (setAll n b a l).length = a.length
  | [], _, _, _ => rfl
  | s :: l, n, b, a => by unfold setAll; rw [setAll_len l]; simp
/-- Group i. -/
def gr (i : Nat) : Nat × List Nat := G.getD i (0, [])
/-- The first number and the bits behind i groups. -/
def start : Nat → Nat × Nat
  | 0 => (0, 0)
  | i + 1 => ((start i).1 * 2 ^ ((gr i).1 - (start i).2) + (gr i).2.length, (gr i).1)
def first (i : Nat) : Nat := (start i).1 * 2 ^ ((gr i).1 - (start i).2)
def arrI : Nat → List (Nat × Nat)
  | 0 => List.replicate 257 (0, 0)
  | i + 1 => setAll (first i) (gr i).1 (arrI i) (gr i).2
def codesL : List (Nat × Nat) := arrI 21
theorem start_ok : ∀ i : Fin 21, (start i.1).2 ≤ (gr i.1).1 ∧ (gr i.1).1 - (start i.1).2 ≤ 31 ∧ first i.1 + (gr i.1).2.length < 1073741825 ∧ (gr i.1).1 ≤ 30 ∧ ((gr i.1).2.all fun s => decide (s < 257)) = true := by decide +kernel
theorem arrI_len : ∀ i, (arrI i).length = 257
  | 0 => by unfold arrI; exact List.length_replicate
  | i + 1 => by unfold arrI; rw [setAll_len, arrI_len i]
theorem gr_at {i : Nat} (h : i < 21) : G[i]? = some (gr i) := by
  have : i < G.length := h
  unfold gr
  rw [List.getD_eq_getElem?_getD, List.getElem?_eq_getElem this]; rfl
section
variable {σ : AW} {k : Nat} {Q : Value → AW → Prop}
theorem zero514 : cellsOk (arrC (arrI 0)) = true := by decide +kernel
set_option maxRecDepth 100000 in
theorem top_eq (call : FuncId → List Value → AM Value) : R30.top call k = bindV (newA (arrC (arrI 0)) 59) fun v0 => bindV (newA (arrC (arrI 0)) 59) fun v1 =>
    bindV (buildA [(0, 1), (1, 1)] [.int .u32 0, .int .i64 0] []) fun v7 => bindV (newA [.int .u32 0, .int .i64 0] 58) fun v2 => bindV (storeA 2 v2 v7) fun _ => bindV (call 34 []) fun v8 => bindV (lenA v8) fun v9 => bindV (ret (.int .i64 0)) fun v10 => loop1 (R30.b_54 call k v0 v1 v2 v8 v9) k v10 := by kernel_rfl
theorem shl_u32 {n s : Nat} (h : n * 2 ^ s < 4294967296) (hs : s ≤ 31) : IntKind.u32.wrap ((n : Int) * 2 ^ min s 32) = ((n * 2 ^ s : Nat) : Int) := by
  rw [Nat.min_eq_left (by omega)]
  have e : (n : Int) * 2 ^ s = ((n * 2 ^ s : Nat) : Int) := by simp
  rw [e]
  exact wrap_id (by simp [Lit.wf, IntKind.min, IntKind.max, IntKind.signed, IntKind.bits]; omega)
theorem wrap_u32 {n : Nat} (h : n < 4294967296) : IntKind.u32.wrap (n : Int) = (n : Int) := wrap_id (by simp [Lit.wf, IntKind.min, IntKind.max, IntKind.signed, IntKind.bits]; omega)
/-- One group's symbols. -/
theorem codes_inner {rec : Value → AM Value} {i b1 b2 x : Nat} {sv : Value} {l : List Nat} {n0 b : Nat} {k1 : Nat} {fin : List (Nat × Nat)} (hl : ∀ s ∈ l, s < 257) (hn : n0 + l.length < 1073741825) (hlen : l.length ≤ 1000) (hi : i < 21) (hk : 1100 ≤ k1) (h12 : ¬ b1 = b2) (h21 : ¬ b2 = b1)
    (e1 e2 : TypeId) (P : AW → Prop) (hP : ∀ τ a n, P τ → P ((τ.put b1 (some (.cells (arrC a) e1 false))).put b2 (some (.cells [.int .u32 n, .int .i64 b] e2 false)))) (hS : ∀ τ, P τ → Sl τ sv 1 l.length (l.map U16))
    (hdone : ∀ τ, P τ → τ.get b1 = some (.cells (arrC fin) e1 false) → τ.get b2 = some (.cells [.int .u32 ((n0 + l.length : Nat) : Int), .int .i64 b] e2 false) → wpA (rec (.int .i64 ((i + 1 : Nat) : Int))) τ Q) :
    ∀ (τ : AW) (a : List (Nat × Nat)), P τ → a.length = 257 → setAll n0 b a l = fin → τ.get b1 = some (.cells (arrC a) e1 false) → τ.get b2 = some (.cells [.int .u32 n0, .int .i64 b] e2 false) →
      wpA (loop1 (R30.b_52 (callN Try.prog k1) k1 rec (.int .i64 i) (ptr b1) sv (.int .i64 l.length) (ptr b2)) k1 (.int .i64 0)) τ Q := by
  intro τ a hp ha hfin h1 h2
  refine aw_loop1 (fun r v τ' => ∃ (j : Nat) (a : List (Nat × Nat)), v = .int .i64 j ∧ j ≤ l.length ∧ r = l.length - j ∧ P τ' ∧ a.length = 257 ∧ setAll (n0 + j) b a (l.drop j) = fin ∧ τ'.get b1 = some (.cells (arrC a) e1 false) ∧ τ'.get b2 = some (.cells [.int .u32 ((n0 + j : Nat) : Int), .int .i64 b] e2 false)) ?_ k1 l.length _ τ ⟨0, a, rfl, by omega, rfl, hp, ha, hfin, h1, h2⟩ (by omega)
  rintro r rec1 v τ' ⟨j, a, rfl, hj, rfl, hp, ha, hfin, h1, h2⟩ hrec
  have hsl := hS τ' hp
  by_cases hlt : j < l.length
  · obtain ⟨s, hs⟩ : ∃ s, l[j]? = some s := ⟨_, List.getElem?_eq_getElem hlt⟩
    have hs257 := hl s (List.mem_of_getElem? hs)
    have hwj : IntKind.i64.wrap ((j : Int) + 1) = ((j + 1 : Nat) : Int) := wrap64 (by omega) (by omega)
    have hwn : IntKind.u32.wrap (((n0 + j : Nat) : Int) + 1) = ((n0 + (j + 1) : Nat) : Int) := by rw [show ((n0 + j : Nat) : Int) + 1 = ((n0 + (j + 1) : Nat) : Int) by omega]; exact wrap_u32 (by omega)
    have hset := arrC_set a s (n0 + j, b) (by omega)
    have hpc : pairC (n0 + j, b) = [.int .u32 ((n0 + j : Nat) : Int), .int .i64 b] := rfl
    rw [hpc] at hset
    have hal := arrC_len a
    have hs2 : s * 2 + 2 ≤ (arrC a).length := by omega
    have hdrop : l.drop j = s :: l.drop (j + 1) := by
      rw [List.drop_eq_getElem_cons hlt]
      rw [List.getElem?_eq_getElem hlt] at hs
      injection hs with hs
      rw [hs]
    rw [hdrop] at hfin
    have hs0 : (0 : Int) ≤ (s : Int) := by omega
    have hs1 : (s : Int) < 257 := by omega
    simp [R30.b_52, hlt, ↓at1_all hsl hs, U16, h1, h2, h12, h21, hs2, hs257, hwj, hwn, -Int.natCast_add, -splice_def]
    rw [hset, letL_def]
    refine ⟨hs1, hrec (l.length - (j + 1)) _ _ (by omega) ⟨j + 1, a.set s (n0 + j, b), rfl, by omega, rfl, hP _ _ _ hp, by simp [ha], hfin, ?_, ?_⟩⟩
    · simp [h12]
    · simp
  · have e : j = l.length := by omega
    subst e
    have hwi : IntKind.i64.wrap ((i : Int) + 1) = ((i + 1 : Nat) : Int) := wrap64 (by omega) (by omega)
    rw [List.drop_length] at hfin
    simp [R30.b_52, hwi, -Int.natCast_add]
    have hf : a = fin := hfin
    rw [hf] at h1
    exact hdone τ' hp h1 h2
theorem codes_spec (hk : 1200 ≤ k) : wpA (callN Try.prog k 30 []) σ fun v τ => Ext σ τ ∧ v = .agg (arrC codesL).toArray := by
  rw [callN_at (by omega), R30.eq, top_eq]
  have hbig : 1199 ≤ k - 1 := by omega
  generalize hk1 : k - 1 = k1 at hbig
  have hz : (arrC (arrI 0)).all isCell = true := by rw [cellsOk_eq]; exact zero514
  refine aw_bindV (aw_new hz (aw_bindV (aw_new hz ?_)))
  simp only [AW.next_push]
  generalize hS : (σ.push (.cells (arrC (arrI 0)) 59 false)).push (.cells (arrC (arrI 0)) 59 false) = S
  have hSn : S.next = σ.next + 2 := by rw [← hS]; simp
  have hS0 : S.get σ.next = some (.cells (arrC (arrI 0)) 59 false) := by rw [← hS]; simp
  have hS1 : S.get (σ.next + 1) = some (.cells (arrC (arrI 0)) 59 false) := by rw [← hS]; simp
  have hSe : Ext σ S := by rw [← hS]; exact (Ext.push _ _).trans (Ext.push _ _)
  simp
  generalize hT : (S.push (.cells [.int .u32 0, .int .i64 0] 58 false)).put S.next (some (.cells [.int .u32 0, .int .i64 0] 58 false)) = T
  have hTn : T.next = σ.next + 3 := by rw [← hT]; simp [hSn]
  have hn1 : ¬ σ.next = S.next := by omega
  have hn2 : ¬ σ.next + 1 = S.next := by omega
  have hT0 : T.get σ.next = some (.cells (arrC (arrI 0)) 59 false) := by rw [← hT]; simp [hn1, hS0]
  have hT1 : T.get (σ.next + 1) = some (.cells (arrC (arrI 0)) 59 false) := by rw [← hT]; simp [hn2, hS1]
  have hT2 : T.get S.next = some (.cells [.int .u32 0, .int .i64 0] 58 false) := by rw [← hT]; simp
  have hTk : Kept σ.next σ T := by rw [← hT]; exact ((hSe.kept (Nat.le_refl _)).push (by omega) _).put (by omega) _
  refine (groups_spec (by omega)).mono ?_
  rintro v τ ⟨he, rows, hG⟩
  have hlen := hG.2.1.sl
  simp [len_iff hlen]
  have hE : ∀ b, b < σ.next + 3 → τ.get b = T.get b := fun b hb => he.2 b (by omega)
  refine aw_loop1 (fun r x τ' => ∃ i : Nat, x = .int .i64 i ∧ i ≤ 21 ∧ r = 21 - i ∧ Kept σ.next σ τ' ∧ T.next ≤ τ'.next ∧ τ'.get σ.next = some (.cells (arrC (arrI 0)) 59 false) ∧ τ'.get (σ.next + 1) = some (.cells (arrC (arrI i)) 59 false) ∧ τ'.get S.next = some (.cells [.int .u32 (start i).1, .int .i64 (start i).2] 58 false) ∧ GOk T.next τ' v U16 30 72 rows) ?_ k1 21 _ τ
    ⟨0, rfl, by omega, rfl, hTk.trans (he.kept (by omega)), he.1, by rw [hE _ (by omega)]; exact hT0, by rw [hE _ (by omega)]; exact hT1, by rw [hE _ (by omega)]; exact hT2, hG⟩ (by omega)
  rintro r rec x τ' ⟨i, rfl, hi, rfl, hki, hnx, h0, h1, h2, hg⟩ hrec
  have m1 : ¬ σ.next = σ.next + 1 := by omega
  by_cases hlt : i < 21
  · have hlt' : (i : Int) < 21 := by omega
    obtain ⟨k1', k2', k3', k4', k5'⟩ := start_ok ⟨i, hlt⟩
    simp only at k1' k2' k3' k4' k5'
    obtain ⟨s, hr, hs⟩ := hg.2.2 i (gr i) (gr_at hlt)
    have hcs : (Rw.mk (gr i).1 s).cs = [.int .i64 (gr i).1, s] := rfl
    have q1 : ¬ σ.next + 1 = τ'.next := by omega
    have q2 : ¬ S.next = τ'.next := by omega
    have q3 : ¬ τ'.next = S.next := by omega
    have q4 : ¬ σ.next = τ'.next := by omega
    obtain ⟨a, c, hsv⟩ := hs.sl.form
    have hsc : s.cells = #[s] ∧ isCell s = true := by rw [hsv]; exact ⟨rfl, rfl⟩
    have hwb : IntKind.i64.wrap (((gr i).1 : Int) - ((start i).2 : Int)) = (((gr i).1 - (start i).2 : Nat) : Int) := by rw [wrap64 (by omega) (by omega)]; omega
    have hb32 : IntKind.u32.bits = 32 := rfl
    have hfi : first i = (start i).1 * 2 ^ ((gr i).1 - (start i).2) := rfl
    have hsh := shl_u32 (n := (start i).1) (s := (gr i).1 - (start i).2) (by rw [← hfi]; omega) k2'
    have hsb0 : (0 : Int) ≤ (((gr i).1 - (start i).2 : Nat) : Int) := by omega
    have hla := hs.sl
    simp [R30.b_54, hlt', ↓atS_all Rw.len (by omega) hg.2.1.sl hr, hcs, hsc.1, hsc.2, h2, q1, q2, q3, hwb, hb32, hsh, -Int.natCast_pow, -Int.natCast_mul, len_iff hla]
    generalize hR : ((τ'.push (.cells [.int .i64 0, .slice none 0 0] 72 false)).put τ'.next (some (.cells [.int .i64 (gr i).1, s] 72 false))).put S.next (some (.cells [.int .u32 ((start i).1 * 2 ^ ((gr i).1 - (start i).2) : Nat), .int .i64 (gr i).1] 58 false)) = R
    have hk5 : ∀ s ∈ (gr i).2, s < 257 := fun s hs => by
      have := List.all_eq_true.1 k5' s hs
      simpa using this
    have hRn : R.next = τ'.next + 1 := by rw [← hR]; simp
    have hRk : Kept σ.next σ R := by rw [← hR]; exact (((hki.push hki.1 _).put hki.1 _).put (by omega) _)
    have q5 : ¬ σ.next = S.next := by omega
    have q6 : ¬ S.next = σ.next + 1 := by omega
    have q7 : ¬ σ.next + 1 = S.next := by omega
    have hR0 : R.get σ.next = some (.cells (arrC (arrI 0)) 59 false) := by rw [← hR]; simp [q4, q5, h0]
    have hR1 : R.get (σ.next + 1) = some (.cells (arrC (arrI i)) 59 false) := by rw [← hR]; simp [q1, q7, h1]
    have hR2 : R.get S.next = some (.cells [.int .u32 (first i), .int .i64 (gr i).1] 58 false) := by rw [← hR]; simp [first]
    have hRg : GOk T.next R v U16 30 72 rows := gok_still hg (by omega) fun b hb1 hb2 => by
      rw [← hR]
      have c1 : ¬ b = S.next := by omega
      have c2 : ¬ b = τ'.next := by omega
      simp [c1, c2]
    have hsm : (gr i).2.length ≤ 1000 := G_small _ (List.mem_of_getElem? (gr_at hlt))
    refine codes_inner (k1 := k1) (b := (gr i).1) (n0 := first i) (l := (gr i).2) (fin := arrI (i + 1)) (b1 := σ.next + 1) (b2 := S.next) (x := 0) hk5 k3' hsm hlt (by omega) q7 q6 59 58
      (fun τ2 => Kept σ.next σ τ2 ∧ T.next ≤ τ2.next ∧ τ2.get σ.next = some (.cells (arrC (arrI 0)) 59 false) ∧ GOk T.next τ2 v U16 30 72 rows ∧ Own T.next τ2 s 30 1 (gr i).2.length ((gr i).2.map U16)) ?_ ?_ ?_ R (arrI i) ⟨hRk, by omega, hR0, hRg, ?_⟩ (arrI_len i) rfl hR1 hR2
    · rintro τ2 a n ⟨p1, p2, p3, p4, p5⟩
      have far : ∀ b, T.next ≤ b → ((τ2.put (σ.next + 1) (some (.cells (arrC a) 59 false))).put S.next (some (.cells [.int .u32 n, .int .i64 (gr i).1] 58 false))).get b = τ2.get b := fun b hb => by
        have c1 : ¬ b = S.next := by omega
        have c2 : ¬ b = σ.next + 1 := by omega
        simp [c1, c2]
      refine ⟨(p1.put (by omega) _).put (by omega) _, by simp; omega, by simp [q5, m1, p3], gok_still p4 (by simp) fun b hb _ => far b hb, own_still p5 (by simp) fun b hb _ => far b hb⟩
    · rintro τ2 ⟨_, _, _, _, p5⟩
      exact p5.sl
    · rintro τ2 ⟨p1, p2, p3, p4, p5⟩ p6 p7
      refine hrec (21 - (i + 1)) _ _ (by omega) ⟨i + 1, rfl, by omega, rfl, p1, p2, p3, p6, ?_, p4⟩
      exact p7
    · obtain ⟨s', hr', hs'⟩ := hRg.2.2 i (gr i) (gr_at hlt)
      rw [hr] at hr'
      injection hr' with hr'
      injection hr' with _ hr'
      rw [hr']
      exact hs'
  · have e : i = 21 := by omega
    subst e
    have hl514 : (arrC (arrI 21)).length = 514 := by rw [arrC_len, arrI_len]
    have hl514' : (arrC (arrI 0)).length = 514 := by rw [arrC_len, arrI_len]
    have hok : cellsOk (arrC (arrI 21)) = true := by decide +kernel
    simp [R30.b_54, h0, h1, hl514, hl514', letL_def, -splice_def, List.take_of_length_le, hok]
    rw [splice_whole (by rw [hl514, hl514'])]
    rw [List.take_of_length_le (by omega)]
    exact ⟨by omega, hki.put (Nat.le_refl _) _, rfl⟩
end
end Go.Proofs.Ytgpddhoidlpcaaa
