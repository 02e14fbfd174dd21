/- The rules: what the map of them holds. -/
import Derived.Test.YtlgeeibaohdjhaaSetting
import Derived.Test.YtlgeeibaohdjhaaEngZ
set_option linter.unusedVariables false
set_option linter.unusedSimpArgs false
namespace Go.Proofs.Ytlgeeibaohdjhaa
open Go.Proofs.Ytlgeeibaohdjhaa.Eng
section
variable {σ : AW} {k : Nat} {Q : Value → AW → Prop}
theorem wpA_newMap : wpA newMapA σ Q ↔ Q (.map (some σ.next)) (σ.push (.map [])) := wpA_iff rfl
theorem wpA_mapSet {r : Nat} {es : List (Value × Value)} {j : IntKind} {n : Int} {v : Value} {o : Option Value} (hg : σ.get r = some (.map es)) (hf : findA j n es = some o) (hv : (isCell v || isAggV v) = true) :
    wpA (mapSetA (.map (some r)) (.int j n) v) σ Q ↔ Q (.tuple #[]) (σ.put r (some (.map (setA j n v es)))) := by
  refine wpA_iff ?_
  simp only [mapSetA, hg, hf, hv, if_true]
theorem within_iff {a b c : Int} (hk : 1 ≤ k) : wpA (callN Try.prog k 62 [.int .u32 a, .int .u32 b, .int .i64 c]) σ Q ↔
    Q (.func (.func 63) #[] #[ptr σ.next, ptr (σ.next + 1), ptr (σ.next + 2)]) (((σ.push (.cells [.int .u32 a] 22 false)).push (.cells [.int .u32 b] 22 false)).push (.cells [.int .i64 c] 3 false)) := by
  rw [callN_at hk, R62.eq]
  simp [R62.top]
def rule (first : Int) (f : Value) : Value := .agg #[.int .u32 first, f]
def anyF : Value := .func (.func 61) #[] #[]
def withinF (b : Nat) : Value := .func (.func 63) #[] #[ptr b, ptr (b + 1), ptr (b + 2)]
def rulesL (m : Nat) : List (Value × Value) := [(.int .i64 1, rule 4096 anyF), (.int .i64 2, rule 1 (withinF (m + 1))), (.int .i64 3, rule 4294967295 anyF), (.int .i64 4, rule 65535 (withinF (m + 4))), (.int .i64 5, rule 16384 (withinF (m + 7))), (.int .i64 6, rule 4294967295 anyF), (.int .i64 8, rule 0 (withinF (m + 10)))]
def Within (τ : AW) (b : Nat) (lo hi c : Int) : Prop := τ.get b = some (.cells [.int .u32 lo] 22 false) ∧ τ.get (b + 1) = some (.cells [.int .u32 hi] 22 false) ∧ τ.get (b + 2) = some (.cells [.int .i64 c] 3 false)
theorem rules_spec (hk : 3 ≤ k) : wpA (callN Try.prog k 50 []) σ fun v τ => v = .map (some σ.next) ∧ τ.next = σ.next + 13 ∧ Ext σ τ ∧ τ.get σ.next = some (.map (rulesL σ.next)) ∧ Within τ (σ.next + 1) 0 1 1 ∧ Within τ (σ.next + 4) 0 2147483647 3 ∧ Within τ (σ.next + 7) 16384 16777215 1 ∧ Within τ (σ.next + 10) 0 1 1 := by
  rw [callN_at (by omega), R50.eq]
  have h1 : 1 ≤ k - 1 := by omega
  generalize hk1 : k - 1 = k1 at h1
  have st : ∀ (es : List (Value × Value)) (τ : AW) (n : Int) (v : Value) (R : Value → AW → Prop), τ.get σ.next = some (.map es) → (∃ o, findA .i64 n es = some o) → (isCell v || isAggV v) = true → R (.tuple #[]) (τ.put σ.next (some (.map (setA .i64 n v es)))) → wpA (mapSetA (.map (some σ.next)) (.int .i64 n) v) τ R := by
    rintro es τ n v R hg ⟨o, hf⟩ hv hr
    exact (wpA_mapSet hg hf hv).2 hr
  simp [R50.top, wpA_newMap, wpA_callF, within_iff h1]
  generalize hT0 : σ.push (.map []) = T0
  have n0 : T0.next = σ.next + 1 := by rw [← hT0]; simp
  have g0 : T0.get σ.next = some (.map []) := by rw [← hT0]; simp
  have x0 : Ext σ T0 := by rw [← hT0]; exact Ext.push _ _
  clear hT0
  refine st [] _ 1 _ _ ?_ ⟨none, by simp [findA]⟩ rfl ?_
  · exact g0
  generalize hT1 : AW.put T0 σ.next _ = T1
  have n1 : T1.next = σ.next + 1 := by rw [← hT1]; simp [n0]
  have g1 : T1.get σ.next = some (.map [(.int .i64 1, rule 4096 anyF)]) := by rw [← hT1]; simp [setA, rule, anyF]
  have x1 : Ext σ T1 := by rw [← hT1]; exact (x0.kept (Nat.le_refl _)).put (Nat.le_refl _) _
  have o1 : ∀ c, c ≠ σ.next → T1.get c = T0.get c := fun c hc => by rw [← hT1]; simp [hc]
  clear hT1
  refine st [(.int .i64 1, rule 4096 anyF)] _ 2 _ _ ?_ ⟨none, by simp [findA]⟩ rfl ?_
  · have z2 : ¬ σ.next = T1.next := by omega
    have z2' : ¬ σ.next = T1.next + 1 := by omega
    have z2'' : ¬ σ.next = T1.next + 2 := by omega
    have z2q : ¬ σ.next = T1.next + 1 + 1 := by omega
    simp [z2, z2', z2'', z2q, g1]
  generalize hT2 : AW.put (((T1.push (.cells [.int .u32 0] 22 false)).push (.cells [.int .u32 1] 22 false)).push (.cells [.int .i64 1] 3 false)) σ.next _ = T2
  have n2 : T2.next = σ.next + 4 := by rw [← hT2]; simp [n1]
  have g2 : T2.get σ.next = some (.map [(.int .i64 1, rule 4096 anyF), (.int .i64 2, rule 1 (withinF (σ.next + 1)))]) := by rw [← hT2]; simp [setA, rule, anyF, withinF, n1]
  have x2 : Ext σ T2 := by rw [← hT2]; exact (((((x1.trans (Ext.push _ _)).trans (Ext.push _ _)).trans (Ext.push _ _)).kept (Nat.le_refl _)).put (Nat.le_refl _) _)
  have o2 : ∀ c, c ≠ σ.next → c < σ.next + 1 → T2.get c = T1.get c := fun c hc hl => by
    have a1 : ¬ c = T1.next := by omega
    have a2 : ¬ c = T1.next + 1 := by omega
    have a3 : ¬ c = T1.next + 2 := by omega
    have a4 : ¬ c = T1.next + 1 + 1 := by omega
    rw [← hT2]; simp [hc, a1, a2, a3, a4]
  have w2 : Within T2 (σ.next + 1) 0 1 1 := by rw [← hT2]; refine ⟨?_, ?_, ?_⟩ <;> (simp [n1]; try omega)
  clear hT2
  refine st [(.int .i64 1, rule 4096 anyF), (.int .i64 2, rule 1 (withinF (σ.next + 1)))] _ 3 _ _ ?_ ⟨none, by simp [findA]⟩ rfl ?_
  · exact g2
  generalize hT3 : AW.put T2 σ.next _ = T3
  have n3 : T3.next = σ.next + 4 := by rw [← hT3]; simp [n2]
  have g3 : T3.get σ.next = some (.map [(.int .i64 1, rule 4096 anyF), (.int .i64 2, rule 1 (withinF (σ.next + 1))), (.int .i64 3, rule 4294967295 anyF)]) := by rw [← hT3]; simp [setA, rule, anyF]
  have x3 : Ext σ T3 := by rw [← hT3]; exact (x2.kept (Nat.le_refl _)).put (Nat.le_refl _) _
  have o3 : ∀ c, c ≠ σ.next → T3.get c = T2.get c := fun c hc => by rw [← hT3]; simp [hc]
  clear hT3
  refine st [(.int .i64 1, rule 4096 anyF), (.int .i64 2, rule 1 (withinF (σ.next + 1))), (.int .i64 3, rule 4294967295 anyF)] _ 4 _ _ ?_ ⟨none, by simp [findA]⟩ rfl ?_
  · have z4 : ¬ σ.next = T3.next := by omega
    have z4' : ¬ σ.next = T3.next + 1 := by omega
    have z4'' : ¬ σ.next = T3.next + 2 := by omega
    have z4q : ¬ σ.next = T3.next + 1 + 1 := by omega
    simp [z4, z4', z4'', z4q, g3]
  generalize hT4 : AW.put (((T3.push (.cells [.int .u32 0] 22 false)).push (.cells [.int .u32 2147483647] 22 false)).push (.cells [.int .i64 3] 3 false)) σ.next _ = T4
  have n4 : T4.next = σ.next + 7 := by rw [← hT4]; simp [n3]
  have g4 : T4.get σ.next = some (.map [(.int .i64 1, rule 4096 anyF), (.int .i64 2, rule 1 (withinF (σ.next + 1))), (.int .i64 3, rule 4294967295 anyF), (.int .i64 4, rule 65535 (withinF (σ.next + 4)))]) := by rw [← hT4]; simp [setA, rule, anyF, withinF, n3]
  have x4 : Ext σ T4 := by rw [← hT4]; exact (((((x3.trans (Ext.push _ _)).trans (Ext.push _ _)).trans (Ext.push _ _)).kept (Nat.le_refl _)).put (Nat.le_refl _) _)
  have o4 : ∀ c, c ≠ σ.next → c < σ.next + 4 → T4.get c = T3.get c := fun c hc hl => by
    have a1 : ¬ c = T3.next := by omega
    have a2 : ¬ c = T3.next + 1 := by omega
    have a3 : ¬ c = T3.next + 2 := by omega
    have a4 : ¬ c = T3.next + 1 + 1 := by omega
    rw [← hT4]; simp [hc, a1, a2, a3, a4]
  have w4 : Within T4 (σ.next + 4) 0 2147483647 3 := by rw [← hT4]; refine ⟨?_, ?_, ?_⟩ <;> (simp [n3]; try omega)
  clear hT4
  refine st [(.int .i64 1, rule 4096 anyF), (.int .i64 2, rule 1 (withinF (σ.next + 1))), (.int .i64 3, rule 4294967295 anyF), (.int .i64 4, rule 65535 (withinF (σ.next + 4)))] _ 5 _ _ ?_ ⟨none, by simp [findA]⟩ rfl ?_
  · have z5 : ¬ σ.next = T4.next := by omega
    have z5' : ¬ σ.next = T4.next + 1 := by omega
    have z5'' : ¬ σ.next = T4.next + 2 := by omega
    have z5q : ¬ σ.next = T4.next + 1 + 1 := by omega
    simp [z5, z5', z5'', z5q, g4]
  generalize hT5 : AW.put (((T4.push (.cells [.int .u32 16384] 22 false)).push (.cells [.int .u32 16777215] 22 false)).push (.cells [.int .i64 1] 3 false)) σ.next _ = T5
  have n5 : T5.next = σ.next + 10 := by rw [← hT5]; simp [n4]
  have g5 : T5.get σ.next = some (.map [(.int .i64 1, rule 4096 anyF), (.int .i64 2, rule 1 (withinF (σ.next + 1))), (.int .i64 3, rule 4294967295 anyF), (.int .i64 4, rule 65535 (withinF (σ.next + 4))), (.int .i64 5, rule 16384 (withinF (σ.next + 7)))]) := by rw [← hT5]; simp [setA, rule, anyF, withinF, n4]
  have x5 : Ext σ T5 := by rw [← hT5]; exact (((((x4.trans (Ext.push _ _)).trans (Ext.push _ _)).trans (Ext.push _ _)).kept (Nat.le_refl _)).put (Nat.le_refl _) _)
  have o5 : ∀ c, c ≠ σ.next → c < σ.next + 7 → T5.get c = T4.get c := fun c hc hl => by
    have a1 : ¬ c = T4.next := by omega
    have a2 : ¬ c = T4.next + 1 := by omega
    have a3 : ¬ c = T4.next + 2 := by omega
    have a4 : ¬ c = T4.next + 1 + 1 := by omega
    rw [← hT5]; simp [hc, a1, a2, a3, a4]
  have w5 : Within T5 (σ.next + 7) 16384 16777215 1 := by rw [← hT5]; refine ⟨?_, ?_, ?_⟩ <;> (simp [n4]; try omega)
  clear hT5
  refine st [(.int .i64 1, rule 4096 anyF), (.int .i64 2, rule 1 (withinF (σ.next + 1))), (.int .i64 3, rule 4294967295 anyF), (.int .i64 4, rule 65535 (withinF (σ.next + 4))), (.int .i64 5, rule 16384 (withinF (σ.next + 7)))] _ 6 _ _ ?_ ⟨none, by simp [findA]⟩ rfl ?_
  · exact g5
  generalize hT6 : AW.put T5 σ.next _ = T6
  have n6 : T6.next = σ.next + 10 := by rw [← hT6]; simp [n5]
  have g6 : T6.get σ.next = some (.map [(.int .i64 1, rule 4096 anyF), (.int .i64 2, rule 1 (withinF (σ.next + 1))), (.int .i64 3, rule 4294967295 anyF), (.int .i64 4, rule 65535 (withinF (σ.next + 4))), (.int .i64 5, rule 16384 (withinF (σ.next + 7))), (.int .i64 6, rule 4294967295 anyF)]) := by rw [← hT6]; simp [setA, rule, anyF]
  have x6 : Ext σ T6 := by rw [← hT6]; exact (x5.kept (Nat.le_refl _)).put (Nat.le_refl _) _
  have o6 : ∀ c, c ≠ σ.next → T6.get c = T5.get c := fun c hc => by rw [← hT6]; simp [hc]
  clear hT6
  refine st [(.int .i64 1, rule 4096 anyF), (.int .i64 2, rule 1 (withinF (σ.next + 1))), (.int .i64 3, rule 4294967295 anyF), (.int .i64 4, rule 65535 (withinF (σ.next + 4))), (.int .i64 5, rule 16384 (withinF (σ.next + 7))), (.int .i64 6, rule 4294967295 anyF)] _ 8 _ _ ?_ ⟨none, by simp [findA]⟩ rfl ?_
  · have z7 : ¬ σ.next = T6.next := by omega
    have z7' : ¬ σ.next = T6.next + 1 := by omega
    have z7'' : ¬ σ.next = T6.next + 2 := by omega
    have z7q : ¬ σ.next = T6.next + 1 + 1 := by omega
    simp [z7, z7', z7'', z7q, g6]
  generalize hT7 : AW.put (((T6.push (.cells [.int .u32 0] 22 false)).push (.cells [.int .u32 1] 22 false)).push (.cells [.int .i64 1] 3 false)) σ.next _ = T7
  have n7 : T7.next = σ.next + 13 := by rw [← hT7]; simp [n6]
  have g7 : T7.get σ.next = some (.map [(.int .i64 1, rule 4096 anyF), (.int .i64 2, rule 1 (withinF (σ.next + 1))), (.int .i64 3, rule 4294967295 anyF), (.int .i64 4, rule 65535 (withinF (σ.next + 4))), (.int .i64 5, rule 16384 (withinF (σ.next + 7))), (.int .i64 6, rule 4294967295 anyF), (.int .i64 8, rule 0 (withinF (σ.next + 10)))]) := by rw [← hT7]; simp [setA, rule, anyF, withinF, n6]
  have x7 : Ext σ T7 := by rw [← hT7]; exact (((((x6.trans (Ext.push _ _)).trans (Ext.push _ _)).trans (Ext.push _ _)).kept (Nat.le_refl _)).put (Nat.le_refl _) _)
  have o7 : ∀ c, c ≠ σ.next → c < σ.next + 10 → T7.get c = T6.get c := fun c hc hl => by
    have a1 : ¬ c = T6.next := by omega
    have a2 : ¬ c = T6.next + 1 := by omega
    have a3 : ¬ c = T6.next + 2 := by omega
    have a4 : ¬ c = T6.next + 1 + 1 := by omega
    rw [← hT7]; simp [hc, a1, a2, a3, a4]
  have w7 : Within T7 (σ.next + 10) 0 1 1 := by rw [← hT7]; refine ⟨?_, ?_, ?_⟩ <;> (simp [n6]; try omega)
  clear hT7
  exact ⟨n7, x7, g7, ⟨(by rw [o7 _ (by omega) (by omega), o6 _ (by omega), o5 _ (by omega) (by omega), o4 _ (by omega) (by omega), o3 _ (by omega)]; exact w2.1), (by rw [o7 _ (by omega) (by omega), o6 _ (by omega), o5 _ (by omega) (by omega), o4 _ (by omega) (by omega), o3 _ (by omega)]; exact w2.2.1), (by rw [o7 _ (by omega) (by omega), o6 _ (by omega), o5 _ (by omega) (by omega), o4 _ (by omega) (by omega), o3 _ (by omega)]; exact w2.2.2)⟩, ⟨(by rw [o7 _ (by omega) (by omega), o6 _ (by omega), o5 _ (by omega) (by omega)]; exact w4.1), (by rw [o7 _ (by omega) (by omega), o6 _ (by omega), o5 _ (by omega) (by omega)]; exact w4.2.1), (by rw [o7 _ (by omega) (by omega), o6 _ (by omega), o5 _ (by omega) (by omega)]; exact w4.2.2)⟩, ⟨(by rw [o7 _ (by omega) (by omega), o6 _ (by omega)]; exact w5.1), (by rw [o7 _ (by omega) (by omega), o6 _ (by omega)]; exact w5.2.1), (by rw [o7 _ (by omega) (by omega), o6 _ (by omega)]; exact w5.2.2)⟩, ⟨w7.1, w7.2.1, w7.2.2⟩⟩
end
end Go.Proofs.Ytlgeeibaohdjhaa
