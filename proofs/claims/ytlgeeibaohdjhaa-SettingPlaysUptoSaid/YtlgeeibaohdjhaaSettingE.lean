/- New, as the abstract machine may take it. -/
import Derived.Test.YtlgeeibaohdjhaaSettingD
set_option linter.unusedVariables false
set_option linter.unusedSimpArgs false
namespace Go.Proofs.Ytlgeeibaohdjhaa
open Go.Proofs.Ytlgeeibaohdjhaa.Eng
open Go.RowKit
def newL : List (Value × Value) := first7.map fun p => (.int .i64 p.1, .int .u32 p.2)
def ovNew : List Value → AM Value := fun args σ => match args with
  | [] => some (ptr (σ.next + 1), (σ.push (.map newL)).push (.cells [.map (some σ.next), .slice none 0 0] 49 false))
  | _ => none
theorem done_perm {S : List MapEntry} {ms : Array MapEntry} (hs : (S.map (·.born)).Nodup) (hm : (ms.toList.map (·.born)).Nodup) (h1 : ∀ e ∈ S, e ∈ ms.toList) (h2 : ∀ x ∈ ms.toList, x.born ∈ S.map (·.born)) (hp : (ms.toList.map ruleOf).Perm first7) : newL.Perm (doneOf S) := by
  have hSn : S.Nodup := List.Pairwise.of_map _ (fun a b h he => h (by rw [he])) hs
  have hmn : ms.toList.Nodup := List.Pairwise.of_map _ (fun a b h he => h (by rw [he])) hm
  have hS : S.Perm ms.toList := (List.perm_ext_iff_of_nodup hSn hmn).2 fun e => ⟨h1 e, fun he => by
    obtain ⟨x, hx, hb⟩ := List.mem_map.1 (h2 e he)
    rw [← nodup_inj hm (h1 x hx) he hb]
    exact hx⟩
  have h3 := ((hS.map ruleOf).trans hp).map fun p => ((.int .i64 p.1, .int .u32 p.2) : Value × Value)
  rw [List.map_map] at h3
  exact h3.symm
theorem newL_keys : KeysOk newL := ⟨.i64, fun x hx => by
  obtain ⟨p, _, rfl⟩ := List.mem_map.1 hx
  exact ⟨p.1, rfl⟩, by simp [newL, first7]⟩
theorem ov_new : OvOk Try.prog 18 ovNew := by
  intro args σ v τ h
  cases args with
  | cons a l => cases h
  | nil =>
    have h1 := Option.some.inj h
    obtain ⟨rfl, rfl⟩ := Prod.mk.inj h1
    refine ⟨⟨Try.f18, Try.func18, by decide +kernel, by decide +kernel⟩, fun φ w args' hw hv => ?_⟩
    have ha : args' = #[] := by
      obtain ⟨l⟩ := args'
      simp only [VRs] at hv
      rw [hv]
    subst ha
    refine (new_real w).mono fun e w' ⟨he, R, m, ms, clock, S, seen, hM, hall, hpm, hnd⟩ => ?_
    generalize hN : w.heap.size = N at he hM
    have hp : newL.Perm (doneOf S) := done_perm hM.nd hnd hM.sub (fun x hx => by
      rw [← hM.seen]
      exact Array.mem_toList_iff.2 (Array.contains_iff_mem.1 (hall x hx))) hpm
    have hbN : N + 1 < w'.heap.size := by
      rcases Nat.lt_or_ge (N + 1) w'.heap.size with h | h
      · exact h
      · have := hM.box
        rw [Array.getElem?_eq_none h] at this; cases this
    let ψ : Phi := fun b => if b = σ.next then some ⟨N, 0, 0⟩ else if b = σ.next + 1 then some ⟨N + 1, 0, 2⟩ else φ b
    have p0 : ψ σ.next = some ⟨N, 0, 0⟩ := by simp [ψ]
    have p1 : ψ (σ.next + 1) = some ⟨N + 1, 0, 2⟩ := by simp [ψ]
    have po : ∀ b, b < σ.next → ψ b = φ b := fun b hb => by
      have h1 : ¬ b = σ.next := by omega
      have h2 : ¬ b = σ.next + 1 := by omega
      simp [ψ, h1, h2]
    have hψ : ∀ b p, ψ b = some p → (b = σ.next ∧ p = ⟨N, 0, 0⟩) ∨ (b = σ.next + 1 ∧ p = ⟨N + 1, 0, 2⟩) ∨ (b < σ.next ∧ φ b = some p ∧ p.blk < N) := fun b p hb => by
      by_cases h1 : b = σ.next
      · subst h1; rw [p0] at hb; cases hb; exact .inl ⟨rfl, rfl⟩
      by_cases h2 : b = σ.next + 1
      · subst h2; rw [p1] at hb; cases hb; exact .inr (.inl ⟨rfl, rfl⟩)
      · have h3 : ψ b = φ b := by simp [ψ, h1, h2]
        rw [h3] at hb
        exact .inr (.inr ⟨hw.fresh b p hb, hb, hN ▸ hw.blk b p hb⟩)
    have hle : φ.le ψ := fun b p hb => by rw [po b (hw.fresh b p hb)]; exact hb
    have hget : ∀ b o, ((σ.push (.map newL)).push (.cells [.map (some σ.next), .slice none 0 0] 49 false)).get b = some o → (b = σ.next ∧ o = .map newL) ∨ (b = σ.next + 1 ∧ o = .cells [.map (some σ.next), .slice none 0 0] 49 false) ∨ (b < σ.next ∧ σ.get b = some o) := fun b o hb => by
      simp only [AW.get_push, AW.next_push] at hb
      split at hb
      · rename_i h1; cases hb; exact .inr (.inl ⟨h1, rfl⟩)
      split at hb
      · rename_i h1; cases hb; exact .inl ⟨h1, rfl⟩
      · obtain ⟨p, hp, _⟩ := hw.dom b o hb
        exact .inr (.inr ⟨hw.fresh b p hp, hb⟩)
    refine ⟨ψ, _, he, ⟨_, p1, rfl, rfl⟩, ⟨fun b p hb => ?_, fun b p hb => ?_, fun b o hb => ?_, fun b c x y p q hb hc hx hp hq he => ?_⟩, ⟨hle, hN ▸ hM.below.size, fun k hk ho => ⟨hM.below.block k (hN ▸ hk), ?_⟩, hM.below.os, hM.below.tape, hM.below.output⟩⟩
    · simp only [AW.next_push]
      rcases hψ b p hb with ⟨rfl, _⟩ | ⟨rfl, _⟩ | ⟨h, _⟩ <;> omega
    · rcases hψ b p hb with ⟨_, rfl⟩ | ⟨_, rfl⟩ | ⟨_, _, h⟩
      · show N < _; omega
      · exact hbN
      · omega
    · rcases hget b o hb with ⟨rfl, rfl⟩ | ⟨rfl, rfl⟩ | ⟨hlt, hg⟩
      · refine ⟨_, p0, ?_⟩
        obtain ⟨g1, g2, es', ms', clock', g3, g4⟩ := or_flat (ψ := ψ) (done_flat S) hM.mapAt
        exact ⟨g1, newL_keys, es', ms', clock', hp.trans g3, g4⟩
      · refine ⟨_, p1, _, _, _, hM.box, .inl (Nat.le_refl _), rfl, Nat.le_refl _, rfl, fun i v hi => ?_⟩
        match i with
        | 0 => injection hi with hi; subst hi; exact ⟨.map (some N), rfl, ⟨_, p0, rfl, rfl⟩⟩
        | 1 => injection hi with hi; subst hi; exact ⟨.slice none 0 0, rfl, rfl⟩
        | i + 2 => simp at hi
      · obtain ⟨p, g1, g2⟩ := hw.dom b o hg
        exact ⟨p, hle b p g1, (g2.block (hM.below.block _ (hN ▸ hw.blk b p g1))).mono hle⟩
    · rcases hψ b p hp with ⟨rfl, rfl⟩ | ⟨rfl, rfl⟩ | ⟨l1, f1, b1⟩ <;> rcases hψ c q hq with ⟨rfl, rfl⟩ | ⟨rfl, rfl⟩ | ⟨l2, f2, b2⟩ <;> (try simp only at he) <;> (try omega)
      rcases hget b x hb with ⟨rfl, rfl⟩ | ⟨rfl, rfl⟩ | ⟨_, g1⟩ <;> try omega
      rcases hget c y hc with ⟨rfl, rfl⟩ | ⟨rfl, rfl⟩ | ⟨_, g2⟩ <;> try omega
      exact hw.inj b c x y p q g1 g2 hx f1 f2 he
    · rintro ⟨b, o, p, h1, h2, h3, h4⟩
      rcases hψ b p h3 with ⟨rfl, rfl⟩ | ⟨rfl, rfl⟩ | ⟨l1, f1, b1⟩
      · simp only at h4; omega
      · simp only at h4; omega
      · rcases hget b o h1 with ⟨rfl, rfl⟩ | ⟨rfl, rfl⟩ | ⟨_, g1⟩
        · omega
        · omega
        · exact ho ⟨b, o, p, g1, h2, f1, h4⟩
end Go.Proofs.Ytlgeeibaohdjhaa
