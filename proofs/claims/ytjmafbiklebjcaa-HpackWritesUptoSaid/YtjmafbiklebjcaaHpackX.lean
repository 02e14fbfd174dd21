/- What the claim on HpackWrites needs: closed facts of the program; how scripts are laid. -/
import Derived.Test.YtjmafbiklebjcaaHpackF
import Derived.Test.YtjmafbiklebjcaaBulk
import Derived.Test.YtjmafbiklebjcaaEngU
import Derived.WalkKit
import Derived.OpenShut
set_option linter.unusedVariables false
set_option linter.unusedSimpArgs false
namespace Go.Proofs.Ytjmafbiklebjcaa
open Go.Proofs.Ytjmafbiklebjcaa.Eng
open Go.ChangeShapes Go.WideShapes Go.ChangeAt Go.RowKit

theorem own : ownKnob Try.prog.godebug = none := by kernel_rfl
theorem laidOut : laidOutB Try.prog = true := by kernel_rfl
theorem mixed : Try.prog.follows .mixedOrders = true := by kernel_rfl
section
variable {P : Program} {H : Type}
theorem layAll_G {α : Type} {f : DataW H → AW → Option (List Value × AW)} {cs : α → List Value} {p : AW → α → Prop} (hm : ∀ σ τ a, Ext σ τ → p σ a → p τ a) : ∀ (ds : List (DataW H)), (∀ d, d ∈ ds → ∀ σ vs τ, f d σ = some (vs, τ) → Ext σ τ ∧ ∃ a, vs = cs a ∧ p τ a) → ∀ (σ : AW) (vs : List Value) (τ : AW), layAll f ds σ = some (vs, τ) → Ext σ τ ∧ ∃ l : List α, vs = l.flatMap cs ∧ l.length = ds.length ∧ ∀ a ∈ l, p τ a
  | [], _, σ, vs, τ, h => by
    simp only [layAll, Option.some.injEq, Prod.mk.injEq] at h
    obtain ⟨rfl, rfl⟩ := h
    exact ⟨Ext.refl _, [], rfl, rfl, by simp⟩
  | d :: ds, hf, σ, vs, τ, h => by
    unfold layAll at h
    split at h
    · cases h
    · rename_i us σ' h1
      split at h
      · cases h
      · rename_i ws σ'' h2
        simp only [Option.some.injEq, Prod.mk.injEq] at h
        obtain ⟨rfl, rfl⟩ := h
        obtain ⟨e1, a, rfl, ha⟩ := hf d (by simp) _ _ _ h1
        obtain ⟨e2, l, rfl, hl, hp⟩ := layAll_G hm ds (fun d' hd' => hf d' (by simp [hd'])) _ _ _ h2
        exact ⟨e1.trans e2, a :: l, by simp, by simp [hl], by
          intro b hb
          rcases List.mem_cons.1 hb with rfl | hb
          · exact hm _ _ _ e2 ha
          · exact hp b hb⟩
theorem lay_sliceG {α : Type} {cs : α → List Value} {p : AW → α → Prop} (hm : ∀ σ τ a, Ext σ τ → p σ a → p τ a) {z n : Nat} {t e : TypeId} {d : DataW H} {σ τ : AW} {vs : List Value} (ht : P.underlying t = some (.slice e)) (hz : P.cellsOf e = z) (hcs : ∀ a, (cs a).length = z)
    (hf : ∀ (elems spare : List (DataW H)), d = .slice elems spare → ∀ d', d' ∈ elems → ∀ (m : Nat) (σ : AW) (vs : List Value) (τ : AW), lay P m e d' σ = some (vs, τ) → Ext σ τ ∧ ∃ a, vs = cs a ∧ p τ a) (h : lay P n t d σ = some (vs, τ)) :
    Ext σ τ ∧ ∃ (l : List α) (v : Value), vs = [v] ∧ Sl τ v z l.length (l.flatMap cs) ∧ ((d = .nil ∧ l = []) ∨ ∃ elems spare, d = .slice elems spare ∧ elems.length = l.length) ∧ (∀ a ∈ l, p τ a) ∧ l.length ≤ maxLen := by
  cases n with
  | zero => simp [lay] at h
  | succ n =>
    unfold lay at h
    rw [ht] at h
    split at h <;> try (simp at *; done)
    · simp only [Option.some.injEq, Prod.mk.injEq] at h
      obtain ⟨rfl, rfl⟩ := h
      exact ⟨Ext.refl _, [], _, rfl, ⟨by simp, .inl ⟨rfl, rfl⟩⟩, .inl ⟨rfl, rfl⟩, by simp, by simp⟩
    · rename_i e' elems spare he
      injection he with he
      injection he with he
      subst he
      split at h
      · cases h
      · rename_i us υ h1
        obtain ⟨e1, l, rfl, hl, hp⟩ := layAll_G hm elems (fun d' hd' => hf elems spare rfl d' hd' n) _ _ _ h1
        split at h
        · cases h
        rename_i hml
        split at h
        · rename_i hemp
          simp only [Option.some.injEq, Prod.mk.injEq] at h
          obtain ⟨rfl, rfl⟩ := h
          have : elems = [] := by simpa using hemp
          subst this
          have hl0 : l = [] := by simpa using hl
          subst hl0
          refine ⟨e1.trans ⟨by simp, fun b _ => rfl⟩, [], _, rfl, ⟨by simp, .inr ⟨υ.next, 0, 0, [], 0, false, by simp [hz], Nat.le_refl _, by simp, .inl rfl⟩⟩, .inr ⟨[], spare, rfl, rfl⟩, by simp, by simp⟩
        · simp only [Option.some.injEq, Prod.mk.injEq] at h
          obtain ⟨rfl, rfl⟩ := h
          have hlen := length_flatMap hcs l
          refine ⟨e1.trans (Ext.push _ _), l, _, rfl, ⟨hlen, .inr ⟨υ.next, 0, elems.length, l.flatMap cs, e, true, by simp [hz, hl], by omega, by simp, .inr ⟨by rw [AW.get_push, if_pos rfl], by omega, by rw [List.drop_zero, List.take_of_length_le (by omega)]⟩⟩⟩, .inr ⟨elems, spare, rfl, hl.symm⟩, fun a ha => hm _ _ _ (Ext.push _ _) (hp a ha), by omega⟩
end
theorem lay_hd {H : Type} (m : Nat) (d : DataW H) (σ : AW) (vs : List Value) (τ : AW) (h : lay Try.prog m 56 d σ = some (vs, τ)) : τ = σ ∧ ∃ x : Hd, vs = x.cs := by
  obtain ⟨m', parts, e0, g0⟩ := lay_struct Try.underlying56 h
  simp only [List.map_cons, List.map_nil] at g0
  obtain ⟨d1, ds1, u1, w1, σ1, e1, h1, g1, k1⟩ := layFields_cons g0
  obtain ⟨d2, ds2, u2, w2, σ2, e2, h2, g2, k2⟩ := layFields_cons g1
  obtain ⟨d3, ds3, u3, w3, σ3, e3, h3, g3, k3⟩ := layFields_cons g2
  obtain ⟨e4, k4, s4⟩ := layFields_nil g3
  obtain ⟨s1, a, l1, _⟩ := lay_str Try.underlying9 h1
  obtain ⟨s2, b, l2, _⟩ := lay_str Try.underlying9 h2
  obtain ⟨s3, c, l3, _⟩ := lay_bool Try.underlying4 h3
  exact ⟨s4.trans (s3.trans (s2.trans s1)), ⟨a, b, c⟩, by rw [k1, k2, k3, k4, l1, l2, l3]; rfl⟩
theorem lay_hds {H : Type} {n : Nat} {d : DataW H} {σ τ : AW} {vs : List Value} (h : lay Try.prog n 30 d σ = some (vs, τ)) : Ext σ τ ∧ ∃ (l : List Hd) (v : Value), vs = [v] ∧ Sl τ v 3 l.length (l.flatMap Hd.cs) ∧ l.length ≤ Rows.uptoBulk d := by
  obtain ⟨he, l, v, rfl, hsl, hd, _, _⟩ := lay_sliceG (cs := Hd.cs) (z := 3) (p := fun _ _ => True) (fun _ _ _ _ h => h) Try.underlying30 (by kernel_rfl) Hd.len (fun _ _ _ d' _ m σ vs τ h => by
    obtain ⟨rfl, x, h2⟩ := lay_hd _ _ _ _ _ h
    exact ⟨Ext.refl _, x, h2, trivial⟩) h
  refine ⟨he, l, v, rfl, hsl, ?_⟩
  rcases hd with ⟨rfl, rfl⟩ | ⟨elems, spare, rfl, hl⟩
  · simp
  · have := bulks.slice_le elems spare
    omega
theorem lay_op {H : Type} (m : Nat) (d : DataW H) (σ : AW) (vs : List Value) (τ : AW) (h : lay Try.prog m 32 d σ = some (vs, τ)) : Ext σ τ ∧ ∃ o : OpE, vs = o.cs ∧ Sl τ o.x 3 o.hs.length (o.hs.flatMap Hd.cs) ∧ o.hs.length ≤ Rows.uptoBulk d := by
  obtain ⟨m', parts, e0, g0⟩ := lay_struct Try.underlying32 h
  simp only [List.map_cons, List.map_nil] at g0
  obtain ⟨d1, ds1, u1, w1, σ1, e1, h1, g1, k1⟩ := layFields_cons g0
  obtain ⟨d2, ds2, u2, w2, σ2, e2, h2, g2, k2⟩ := layFields_cons g1
  obtain ⟨d3, ds3, u3, w3, σ3, e3, h3, g3, k3⟩ := layFields_cons g2
  obtain ⟨e4, k4, s4⟩ := layFields_nil g3
  obtain ⟨s1, a, l1, _⟩ := lay_int Try.underlying3 h1
  obtain ⟨s2, b, l2, _⟩ := lay_int Try.underlying3 h2
  obtain ⟨s3, l, v, l3, hsl, hle⟩ := lay_hds h3
  subst s1; subst s2; subst s4
  refine ⟨s3, ⟨a, b, v, l⟩, by rw [k1, k2, k3, k4, l1, l2, l3]; rfl, hsl, ?_⟩
  subst e0
  rw [e1, e2, e3, e4]
  simp only [Rows.uptoBulk, Rows.uptoBulkAll]
  show l.length ≤ _
  omega
theorem lay_ops {H : Type} {n : Nat} {d : DataW H} {σ τ : AW} {vs : List Value} (h : lay Try.prog n 22 d σ = some (vs, τ)) (hb : Rows.uptoBulk d ≤ 1048576) : Ext σ τ ∧ ∃ (l : List OpE) (v : Value), vs = [v] ∧ Sl τ v 3 l.length (l.flatMap OpE.cs) ∧ l.length ≤ 1048576 ∧ ∀ o ∈ l, OpAt τ o := by
  obtain ⟨he, l, v, rfl, hsl, hd, hp, _⟩ := lay_sliceG (cs := OpE.cs) (z := 3) (p := OpAt) (fun σ τ o he hp => hp.ext he) Try.underlying22 (by kernel_rfl) OpE.len (fun elems spare e d' hd' m σ vs τ h => by
    obtain ⟨he, o, h2, h3, h4⟩ := lay_op _ _ _ _ _ h
    have h5 := bulks.part_le hd'
    have h6 := bulks.slice_elems elems spare
    rw [← e] at h6
    exact ⟨he, o, h2, h3, by omega⟩) h
  refine ⟨he, l, v, rfl, hsl, ?_, hp⟩
  rcases hd with ⟨rfl, rfl⟩ | ⟨elems, spare, rfl, hl⟩
  · simp
  · have := bulks.slice_le elems spare
    omega
theorem arg3 {v : Value} : argOf Try.prog 3 [v] = v := by unfold argOf; rw [Try.underlying3]; rfl
theorem arg22 {v : Value} : argOf Try.prog 22 [v] = v := by unfold argOf; rw [Try.underlying22]; rfl
end Go.Proofs.Ytjmafbiklebjcaa
