/- A line of offers. -/
import Derived.Test.YtlgeeibaohdjhaaSettingQ
set_option linter.unusedVariables false
set_option linter.unusedSimpArgs false
namespace Go.Proofs.Ytlgeeibaohdjhaa
open Go.Proofs.Ytlgeeibaohdjhaa.Eng
section
variable {σ : AW} {k : Nat} {Q : Value → AW → Prop}
/-- A slice that is written by us alone, wherever it begins. -/
def OwnO (σ : AW) (v : Value) (e : TypeId) (z n : Nat) (vs : List Value) : Prop :=
  vs.length = n * z ∧ ((v = .slice none 0 0 ∧ n = 0) ∨
    ∃ b o c ws, v = .slice (some ⟨b, o, some z⟩) n c ∧ n ≤ c ∧ b < σ.next ∧ σ.get b = some (.cells ws e false) ∧ o + n * z ≤ ws.length ∧ (ws.drop o).take (n * z) = vs)
variable {v s x : Value} {e : TypeId} {z n m : Nat} {vs us : List Value}
theorem ownO_sl (h : OwnO σ v e z n vs) : Sl σ v z n vs := by
  obtain ⟨h1, h | ⟨b, o, c, ws, h2, hc, h4, h5, h6, h7⟩⟩ := h
  · exact ⟨h1, .inl h⟩
  · exact ⟨h1, .inr ⟨b, o, c, ws, e, false, h2, hc, h4, .inr ⟨h5, h6, h7⟩⟩⟩
theorem ownO_of {B : Nat} (h : Own B σ v e z n vs) : OwnO σ v e z n vs := by
  obtain ⟨h1, h | ⟨b, c, ws, h2, hc, _, h4, h5, h6, h7⟩⟩ := h
  · exact ⟨h1, .inl h⟩
  · exact ⟨h1, .inr ⟨b, 0, c, ws, h2, hc, h4, h5, by omega, by simpa using h7⟩⟩
theorem ownO_same {τ : AW} (h : OwnO σ v e z n vs) (hn : σ.next ≤ τ.next) (hg : ∀ c, InBlk v c → τ.get c = σ.get c) : OwnO τ v e z n vs := by
  obtain ⟨h1, h | ⟨b, o, c, ws, h2, hc, h4, h5, h6, h7⟩⟩ := h
  · exact ⟨h1, .inl h⟩
  · exact ⟨h1, .inr ⟨b, o, c, ws, h2, hc, Nat.lt_of_lt_of_le h4 hn, by rw [hg b ⟨_, _, _, _, h2⟩]; exact h5, h6, h7⟩⟩
theorem ownO_blk (h : OwnO σ v e z n vs) : ∀ c, InBlk v c → c < σ.next ∧ ∃ ws, σ.get c = some (.cells ws e false) := by
  obtain ⟨h1, ⟨rfl, _⟩ | ⟨b, o, c, ws, rfl, hc, h4, h5, h6, h7⟩⟩ := h
  · rintro c ⟨o, s, n, cc, he⟩
    injection he with he
    cases he
  · rintro c ⟨o, s, n, cc, he⟩
    injection he with he
    injection he with he
    injection he with he
    subst he
    exact ⟨h4, ws, h5⟩
theorem aw_appendO {bytes : Nat} (hs : OwnO σ s e z n vs) (hx : Sl σ x z m us) (hm : 0 < m) (hc : us.all isCell = true) (hb : 0 < bytes) (hroom : (n + m) * bytes ≤ 2 ^ 47)
    (h : ∀ v τ, OwnO τ v e z (n + m) (vs ++ us) → σ.next ≤ τ.next → (∀ c, c < σ.next → ¬ InBlk s c → τ.get c = σ.get c) → (∀ c, InBlk v c → σ.next ≤ c) → Q v τ) : wpA (appendA e z bytes s x) σ Q := by
  have hsrc := source_sl hx hm
  have hl := hx.1
  have hm0 : m ≠ 0 := by omega
  obtain ⟨h1, ⟨rfl, rfl⟩ | ⟨b, o, c, ws, rfl, h3, h4, h5, h6, h7⟩⟩ := hs
  · have hvs : vs = [] := by simpa using h1
    subst hvs
    refine ⟨.slice (some ⟨σ.next, 0, some z⟩) m m, σ.push (.cells us e false), ?_, h _ _ ⟨by simp [hl], .inr ⟨σ.next, 0, m, us, by simp, by omega, by simp, by rw [AW.get_push, if_pos rfl], by simp [hl], by simp [← hl]⟩⟩ (by simp) (fun b' hb' _ => (Ext.push σ _).2 b' hb') ?_⟩
    · simp only [appendA, hsrc]
      rw [if_pos hl, if_neg hm0, if_pos ⟨hb, hc⟩, if_pos ⟨trivial, trivial, by simpa using hroom⟩]
    · rintro c ⟨o, s, n, cc, he⟩
      injection he with he
      injection he with he
      injection he with he
      omega
  · refine ⟨.slice (some ⟨σ.next, 0, some z⟩) (n + m) (n + m), (σ.put b none).push (.cells ((ws.drop o).take (n * z) ++ us) e false), ?_, h _ _ ⟨by simp [h1, hl, Nat.add_mul], .inr ⟨σ.next, 0, n + m, vs ++ us, rfl, by omega, by simp, by rw [AW.get_push]; simp [h7], by simp [h1, hl, Nat.add_mul], by rw [List.drop_zero, List.take_of_length_le (by simp [h1, hl, Nat.add_mul])]⟩⟩ (by simp) (fun b' hb' hnb => ?_) ?_⟩
    · simp only [appendA, hsrc, h5]
      rw [if_pos hl, if_neg hm0, if_pos ⟨hb, hc⟩, if_pos ⟨trivial, trivial, hroom, by omega⟩]
    · rw [AW.get_push, AW.get_put, if_neg (by simp; omega), if_neg]
      rintro rfl
      exact hnb ⟨o, some z, n, c, rfl⟩
    · rintro c ⟨o, s, n, cc, he⟩
      injection he with he
      injection he with he
      injection he with he
      omega
theorem aw_tailO {j : IntKind} (h : OwnO σ v e z (n + 1) vs) (hq : ∀ w, OwnO σ w e z n (vs.drop z) → (∀ c, InBlk w c → InBlk v c) → Q w σ) : wpA (sliceA z v (some (.int j 1)) none) σ Q := by
  obtain ⟨hl, ⟨rfl, hn⟩ | ⟨b, o, c, ws, rfl, hc, h3, h4, h5, h6⟩⟩ := h
  · omega
  · have b1 : bound (none : Option Value) (n + 1) c = some (n + 1) := rfl
    have b2 : bound (some (.int j 1)) 0 (n + 1) = some 1 := by
      simp only [bound]
      rw [if_pos ⟨by omega, by omega⟩]; rfl
    have hz : (n + 1) * z = n * z + z := by rw [Nat.add_mul]; omega
    refine ⟨.slice (some ⟨b, o + 1 * z, some z⟩) (n + 1 - 1) (c - 1), σ, ?_, hq _ ⟨by rw [List.length_drop, hl]; omega, .inr ⟨b, o + 1 * z, c - 1, ws, rfl, by omega, h3, h4, by omega, ?_⟩⟩ ?_⟩
    · simp only [sliceA, b1, b2, need2]
      rw [if_pos (by omega), if_pos trivial]; rfl
    · rw [← h6, List.drop_take, List.drop_drop]
      congr 1
      · omega
      · congr 1
        omega
    · rintro c' ⟨o', s', n', cc, he⟩
      injection he with he
      injection he with he
      injection he with he
      subst he
      exact ⟨_, _, _, _, rfl⟩
end
end Go.Proofs.Ytlgeeibaohdjhaa
