/- How lists of headers and of calls are laid, and how large they are. -/
import Derived.Test.YtedoaofmdlcjeaaTableK
import Derived.Test.YtedoaofmdlcjeaaTableX
import Derived.Test.YtedoaofmdlcjeaaBulk
set_option linter.unusedVariables false
set_option linter.unusedSimpArgs false
namespace Go.Proofs.Ytedoaofmdlcjeaa
open Go.Proofs.Ytedoaofmdlcjeaa.Eng
open Go.ChangeShapes Go.WideShapes Go.ChangeAt Go.RowKit
section
variable {P : Program} {H : Type}
theorem layAll_mem {α : Type} {f : DataW H → AW → Option (List Value × AW)} {cs : α → List Value} {p : α → Prop} : ∀ (ds : List (DataW H)), (∀ d, d ∈ ds → ∀ σ vs τ, f d σ = some (vs, τ) → τ = σ ∧ ∃ a, vs = cs a ∧ p a) → ∀ (σ : AW) (vs : List Value) (τ : AW), layAll f ds σ = some (vs, τ) → τ = σ ∧ ∃ l : List α, vs = l.flatMap cs ∧ l.length = ds.length ∧ ∀ a ∈ l, p a
  | [], _, σ, vs, τ, h => by
    simp only [layAll, Option.some.injEq, Prod.mk.injEq] at h
    obtain ⟨rfl, rfl⟩ := h
    exact ⟨rfl, [], rfl, rfl, by simp⟩
  | d :: ds, hf, σ, vs, τ, h => by
    unfold layAll at h
    split at h
    · cases h
    · rename_i us σ' h1
      split at h
      · cases h
      · rename_i ws σ'' h2
        simp only [Option.some.injEq, Prod.mk.injEq] at h
        obtain ⟨rfl, rfl⟩ := h
        obtain ⟨rfl, a, rfl, ha⟩ := hf d (by simp) _ _ _ h1
        obtain ⟨rfl, l, rfl, hl, hp⟩ := layAll_mem ds (fun d' hd' => hf d' (by simp [hd'])) _ _ _ h2
        exact ⟨rfl, a :: l, by simp, by simp [hl], by
          intro b hb
          rcases List.mem_cons.1 hb with rfl | hb
          · exact ha
          · exact hp b hb⟩
/-- A slice of flat elements, as it is laid; of each element something holds. -/
theorem lay_sliceM {α : Type} {cs : α → List Value} {p : α → Prop} {z n : Nat} {t e : TypeId} {d : DataW H} {σ τ : AW} {vs : List Value} (ht : P.underlying t = some (.slice e)) (hz : P.cellsOf e = z) (hcs : ∀ a, (cs a).length = z)
    (hf : ∀ (elems spare : List (DataW H)), d = .slice elems spare → ∀ d', d' ∈ elems → ∀ (m : Nat) (σ : AW) (vs : List Value) (τ : AW), lay P m e d' σ = some (vs, τ) → τ = σ ∧ ∃ a, vs = cs a ∧ p a) (h : lay P n t d σ = some (vs, τ)) :
    Ext σ τ ∧ ∃ (l : List α) (v : Value), vs = [v] ∧ Sl τ v z l.length (l.flatMap cs) ∧ ((d = .nil ∧ l = []) ∨ ∃ elems spare, d = .slice elems spare ∧ elems.length = l.length) ∧ ∀ a ∈ l, p a := by
  cases n with
  | zero => simp [lay] at h
  | succ n =>
    unfold lay at h
    rw [ht] at h
    split at h <;> try (simp at *; done)
    · simp only [Option.some.injEq, Prod.mk.injEq] at h
      obtain ⟨rfl, rfl⟩ := h
      exact ⟨Ext.refl _, [], _, rfl, ⟨by simp, .inl ⟨rfl, rfl⟩⟩, .inl ⟨rfl, rfl⟩, by simp⟩
    · rename_i e' elems spare he
      injection he with he
      injection he with he
      subst he
      split at h
      · cases h
      · rename_i us υ h1
        obtain ⟨rfl, l, rfl, hl, hp⟩ := layAll_mem elems (fun d' hd' => hf elems spare rfl d' hd' n) _ _ _ h1
        split at h
        · cases h
        rename_i hml
        split at h
        · rename_i hemp
          simp only [Option.some.injEq, Prod.mk.injEq] at h
          obtain ⟨rfl, rfl⟩ := h
          have : elems = [] := by simpa using hemp
          subst this
          have hl0 : l = [] := by simpa using hl
          subst hl0
          refine ⟨⟨by simp, fun b _ => rfl⟩, [], _, rfl, ⟨by simp, .inr ⟨υ.next, 0, 0, [], 0, false, by simp [hz], Nat.le_refl _, by simp, .inl rfl⟩⟩, .inr ⟨[], spare, rfl, rfl⟩, by simp⟩
        · simp only [Option.some.injEq, Prod.mk.injEq] at h
          obtain ⟨rfl, rfl⟩ := h
          have hlen := length_flatMap hcs l
          refine ⟨Ext.push _ _, l, _, rfl, ⟨hlen, .inr ⟨υ.next, 0, elems.length, l.flatMap cs, e, true, by simp [hz, hl], by omega, by simp, .inr ⟨by rw [AW.get_push, if_pos rfl], by omega, by rw [List.drop_zero, List.take_of_length_le (by omega)]⟩⟩⟩, .inr ⟨elems, spare, rfl, hl.symm⟩, hp⟩
end
theorem wf_u16 {x : Int} (h : (Lit.int .u16 x).wf = true) : ∃ a : Nat, x = a ∧ a < 65536 := by
  simp [Lit.wf, IntKind.min, IntKind.max, IntKind.signed, IntKind.bits] at h
  exact ⟨x.toNat, by omega, by omega⟩
theorem lay_hdW {H : Type} (m : Nat) (d : DataW H) (σ : AW) (vs : List Value) (τ : AW) (h : lay Try.prog m 23 d σ = some (vs, τ)) : τ = σ ∧ ∃ x : Hd, vs = x.cs ∧ hsize x ≤ Rows.uptoBulk d + 32 := by
  obtain ⟨m', parts, e0, g0⟩ := lay_struct Try.underlying23 h
  simp only [List.map_cons, List.map_nil] at g0
  obtain ⟨d1, ds1, u1, w1, σ1, e1, h1, g1, k1⟩ := layFields_cons g0
  obtain ⟨d2, ds2, u2, w2, σ2, e2, h2, g2, k2⟩ := layFields_cons g1
  obtain ⟨d3, ds3, u3, w3, σ3, e3, h3, g3, k3⟩ := layFields_cons g2
  obtain ⟨e4, k4, s4⟩ := layFields_nil g3
  obtain ⟨s1, a, l1, f1⟩ := lay_str Try.underlying9 h1
  obtain ⟨s2, b, l2, f2⟩ := lay_str Try.underlying9 h2
  obtain ⟨s3, c, l3, f3⟩ := lay_bool Try.underlying4 h3
  refine ⟨s4.trans (s3.trans (s2.trans s1)), ⟨a, b, c⟩, by rw [k1, k2, k3, k4, l1, l2, l3]; rfl, ?_⟩
  subst e0
  rw [e1, e2, e3, e4, f1, f2, f3]
  simp only [Rows.uptoBulk, Rows.uptoBulkAll, hsize]
  omega
theorem lay_opW {H : Type} (m : Nat) (d : DataW H) (σ : AW) (vs : List Value) (τ : AW) (h : lay Try.prog m 43 d σ = some (vs, τ)) : τ = σ ∧ ∃ x : OpT, vs = x.cs ∧ hsize x.h ≤ Rows.uptoBulk d + 32 := by
  obtain ⟨m', parts, e0, g0⟩ := lay_struct Try.underlying43 h
  simp only [List.map_cons, List.map_nil] at g0
  obtain ⟨d1, ds1, u1, w1, σ1, e1, h1, g1, k1⟩ := layFields_cons g0
  obtain ⟨d2, ds2, u2, w2, σ2, e2, h2, g2, k2⟩ := layFields_cons g1
  obtain ⟨d3, ds3, u3, w3, σ3, e3, h3, g3, k3⟩ := layFields_cons g2
  obtain ⟨e4, k4, s4⟩ := layFields_nil g3
  obtain ⟨s1, a, l1, _⟩ := lay_int Try.underlying3 h1
  obtain ⟨s2, b, l2, _⟩ := lay_int Try.underlying3 h2
  obtain ⟨s3, x, l3, f3⟩ := lay_hdW _ _ _ _ _ h3
  refine ⟨s4.trans (s3.trans (s2.trans s1)), ⟨a, b, x⟩, by rw [k1, k2, k3, k4, l1, l2, l3]; rfl, ?_⟩
  subst e0
  rw [e1, e2, e3, e4]
  simp only [Rows.uptoBulk, Rows.uptoBulkAll]
  omega
theorem lay_hds {H : Type} {n : Nat} {d : DataW H} {σ τ : AW} {vs : List Value} (h : lay Try.prog n 34 d σ = some (vs, τ)) : Ext σ τ ∧ ∃ (l : List Hd) (v : Value), vs = [v] ∧ Sl τ v 3 l.length (l.flatMap Hd.cs) ∧ l.length ≤ Rows.uptoBulk d ∧ ∀ x ∈ l, hsize x ≤ Rows.uptoBulk d + 32 := by
  obtain ⟨he, l, v, rfl, hsl, hd, hp⟩ := lay_sliceM (cs := Hd.cs) (z := 3) (p := fun x => hsize x ≤ Rows.uptoBulk d + 32) Try.underlying34 (by kernel_rfl) Hd.len (fun elems spare e d' hd' m σ vs τ h => by
    obtain ⟨h1, x, h2, h3⟩ := lay_hdW _ _ _ _ _ h
    have h4 := bulks.part_le hd'
    have h5 := bulks.slice_elems elems spare
    rw [← e] at h5
    exact ⟨h1, x, h2, by omega⟩) h
  refine ⟨he, l, v, rfl, hsl, ?_, hp⟩
  rcases hd with ⟨rfl, rfl⟩ | ⟨elems, spare, rfl, hl⟩
  · simp
  · have := bulks.slice_le elems spare
    omega
theorem lay_ops {H : Type} {n : Nat} {d : DataW H} {σ τ : AW} {vs : List Value} (h : lay Try.prog n 41 d σ = some (vs, τ)) : Ext σ τ ∧ ∃ (l : List OpT) (v : Value), vs = [v] ∧ Sl τ v 5 l.length (l.flatMap OpT.cs) ∧ l.length ≤ Rows.uptoBulk d ∧ ∀ x ∈ l, hsize x.h ≤ Rows.uptoBulk d + 32 := by
  obtain ⟨he, l, v, rfl, hsl, hd, hp⟩ := lay_sliceM (cs := OpT.cs) (z := 5) (p := fun x => hsize x.h ≤ Rows.uptoBulk d + 32) Try.underlying41 (by kernel_rfl) OpT.len (fun elems spare e d' hd' m σ vs τ h => by
    obtain ⟨h1, x, h2, h3⟩ := lay_opW _ _ _ _ _ h
    have h4 := bulks.part_le hd'
    have h5 := bulks.slice_elems elems spare
    rw [← e] at h5
    exact ⟨h1, x, h2, by omega⟩) h
  refine ⟨he, l, v, rfl, hsl, ?_, hp⟩
  rcases hd with ⟨rfl, rfl⟩ | ⟨elems, spare, rfl, hl⟩
  · simp
  · have := bulks.slice_le elems spare
    omega
theorem arg33 {v : Value} : argOf Try.prog 33 [v] = v := by unfold argOf; rw [Try.underlying33]; rfl
theorem arg34 {v : Value} : argOf Try.prog 34 [v] = v := by unfold argOf; rw [Try.underlying34]; rfl
theorem arg41 {v : Value} : argOf Try.prog 41 [v] = v := by unfold argOf; rw [Try.underlying41]; rfl
end Go.Proofs.Ytedoaofmdlcjeaa
