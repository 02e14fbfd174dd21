/- Offers: made, acknowledged, compared. -/
import Derived.Test.YtlgeeibaohdjhaaSettingR
set_option linter.unusedVariables false
set_option linter.unusedSimpArgs false
namespace Go.Proofs.Ytlgeeibaohdjhaa
open Go.Proofs.Ytlgeeibaohdjhaa.Eng
section
variable {σ : AW} {k : Nat} {Q : Value → AW → Prop} {b m : Nat} {f : Int → Int} {q : Value} {ps : List (Value × List St)}
structure Line (σ : AW) (q : Value) (ps : List (Value × List St)) : Prop where
  own : OwnO σ q 36 1 ps.length (ps.map (·.1))
  each : ∀ p ∈ ps, OwnO σ p.1 24 2 p.2.length (p.2.flatMap St.cs)
/-- All but the settings and the line's block. -/
def Off (b : Nat) (q : Value) (σ τ : AW) : Prop := σ.next ≤ τ.next ∧ ∀ c, c < σ.next → c ≠ b → ¬ InBlk q c → τ.get c = σ.get c
theorem not_nil (c : Nat) (n d : Nat) : ¬ InBlk (.slice none n d) c := by
  rintro ⟨o, s, n, cc, he⟩
  injection he with he
  cases he
theorem line_each {τ : AW} {o : Value} {n : Nat} {vs : List Value} (hb : ∃ ws, σ.get b = some (.cells ws 49 false)) (hq : OwnO σ q 36 1 n vs) (hoff : Off b q σ τ) {v : Value} {j : Nat} {us : List Value} (h : OwnO σ v 24 2 j us) : OwnO τ v 24 2 j us := by
  refine ownO_same h hoff.1 fun c hc => ?_
  obtain ⟨h1, ws, h2⟩ := ownO_blk h c hc
  obtain ⟨wb, hb⟩ := hb
  refine hoff.2 c h1 (fun e => ?_) fun hqc => ?_
  · subst e
    rw [hb] at h2
    cases h2
  · obtain ⟨_, wq, h3⟩ := ownO_blk hq c hqc
    rw [h3] at h2
    cases h2
theorem aw_copy {x : Value} {n : Nat} {l : List St} (hx : Sl σ x 2 n (l.flatMap St.cs)) (hr : l.length ≤ 1048576) (hq : ∀ v τ, OwnO τ v 24 2 l.length (l.flatMap St.cs) → Ext σ τ → Q v τ) : wpA (appendA 24 2 16 (.slice none 0 0) x) σ Q := by
  have hn : n = l.length := by
    have h1 := hx.1
    rw [length_flatMap St.len] at h1
    omega
  subst hn
  rcases Nat.eq_zero_or_pos l.length with h0 | h0
  · have hl : l = [] := List.length_eq_zero_iff.1 h0
    subst hl
    have hsrc : σ.source 2 x = some (0, []) := by
      obtain ⟨_, ⟨rfl, _⟩ | ⟨b, o, c, ws, e, ro, rfl, _⟩⟩ := hx
      · rfl
      · simp [AW.source]
    exact ⟨.slice none 0 0, σ, by simp [appendA, hsrc], hq _ _ ⟨by simp, .inl ⟨rfl, rfl⟩⟩ (Ext.refl _)⟩
  · have hc : (l.flatMap St.cs).all isCell = true := by
      rw [List.all_eq_true]
      intro v hv
      obtain ⟨s, _, hs⟩ := List.mem_flatMap.1 hv
      simp only [St.cs, List.mem_cons, List.mem_nil_iff, or_false] at hs
      rcases hs with rfl | rfl <;> rfl
    refine aw_appendO (n := 0) (vs := []) ⟨by simp, .inl ⟨rfl, rfl⟩⟩ hx h0 hc (by omega) (by omega) fun v τ h1 h2 h3 h4 => hq v τ (by simpa using h1) ⟨h2, fun c hc => h3 c hc (not_nil c _ _)⟩
theorem put_spec {p : Value × List St} (hs : Sets σ b m f q) (hl : Line σ q ps) (hp : OwnO σ p.1 24 2 p.2.length (p.2.flatMap St.cs)) (hr : ps.length ≤ 1048576) (hk : 1 ≤ k)
    (hq : ∀ τ q', Sets τ b m f q' → Line τ q' (ps ++ [p]) → Off b q σ τ → (∀ c, InBlk q' c → σ.next ≤ c) → Q (.tuple #[]) τ) : wpA (cl k 52 [.pointer (some ⟨b, 1, none⟩), p.1]) σ Q := by
  rw [cl_at hk (by decide), R52.eq]
  obtain ⟨xa, xc, hxf⟩ := (ownO_sl hp).form
  have hb := hs.hb
  have hm := hs.hm
  have hbq : ∀ c, InBlk q c → c ≠ b ∧ c ≠ m ∧ c < σ.next := fun c hc => by
    obtain ⟨h1, ws, h2⟩ := ownO_blk hl.own c hc
    exact ⟨fun e => (by rw [e, hs.cells] at h2; cases h2), fun e => (by rw [e, hs.vals] at h2; cases h2), h1⟩
  simp only [R52.top]
  refine aw_bindV (aw_ret (aw_bindV (aw_ret (aw_bindV (aw_nilCheck (aw_bindV (aw_fieldAddr (aw_bindV (aw_load hs.cells rfl (aw_bindV (aw_ret ?_)))))))))))
  refine aw_bindV (aw_buildSlice (cs := [p.1]) (by rw [hxf]; rfl) (by decide) (by rw [hxf]; rfl) rfl (aw_bindV ?_))
  have hE := Ext.push σ (.cells [p.1] 36 false)
  refine aw_appendO (ownO_same hl.own hE.1 fun c hc => hE.2 c (hbq c hc).2.2) (m := 1) (us := [p.1]) ⟨by simp, .inr ⟨σ.next, 0, 1, [p.1], 36, false, rfl, Nat.le_refl _, by simp, .inr ⟨by rw [AW.get_push, if_pos rfl], by simp, by simp⟩⟩⟩ (by omega) (by rw [hxf]; rfl) (by omega) (by omega) fun v τ h1 h2 h3 h4 => ?_
  obtain ⟨va, vc, hvf⟩ := (ownO_sl h1).form
  have h2' : σ.next + 1 ≤ τ.next := by simpa using h2
  have h3' : ∀ c, c < σ.next → ¬ InBlk q c → τ.get c = σ.get c := fun c hc hn => (h3 c (by simp; omega) hn).trans (hE.2 c hc)
  have h4' : ∀ c, InBlk v c → σ.next + 1 ≤ c := fun c hc => by simpa using h4 c hc
  have tb : τ.get b = some (.cells [.map (some m), q] 49 false) := (h3' b hb fun h => (hbq b h).1 rfl).trans hs.cells
  have tm : τ.get m = some (.map (vlist f)) := (h3' m hm fun h => (hbq m h).2.1 rfl).trans hs.vals
  refine aw_bindV (aw_nilCheck (aw_bindV (aw_fieldAddr ?_)))
  have hoff : Off b q σ (τ.put b (some (.cells [.map (some m), v] 49 false))) := ⟨by simp; omega, fun c hc hcb hcq => by rw [AW.get_put, if_neg hcb]; exact h3' c hc hcq⟩
  have fin := hq (τ.put b (some (.cells [.map (some m), v] 49 false))) v ⟨by simp, by rw [AW.get_put, if_neg (fun e => hs.ne e.symm)]; exact tm, hs.ne, by simp; omega, by simp; omega⟩
    ⟨by
      rw [List.map_append, List.length_append]
      exact ownO_same h1 (by simp) fun c hc => by rw [AW.get_put, if_neg (by have := h4' c hc; omega)], fun p' hp' => by
      rcases List.mem_append.1 hp' with h | h
      · exact line_each (o := q) ⟨_, hs.cells⟩ hl.own hoff (hl.each p' h)
      · simp at h
        subst h
        exact line_each (o := q) ⟨_, hs.cells⟩ hl.own hoff hp⟩ hoff fun c hc => by have := h4' c hc; omega
  rw [hvf] at fin ⊢
  simp [tb]
  exact fin
theorem take_nil (hs : Sets σ b m f q) (hl : Line σ q []) (hk : 1 ≤ k) : wpA (cl k 53 [.pointer (some ⟨b, 1, none⟩)]) σ Q ↔ Q (.tuple #[.slice none 0 0, .bool false]) σ := by
  rw [cl_at hk (by decide), R53.eq]
  simp [R53.top, hs.cells, len_iff (ownO_sl hl.own)]
theorem take_spec {p : Value × List St} (hs : Sets σ b m f q) (hl : Line σ q (p :: ps)) (hk : 1 ≤ k) (hlen : ps.length < 1048577)
    (hq : ∀ τ q', Sets τ b m f q' → Line τ q' ps → τ.next = σ.next → (∀ c, c ≠ b → τ.get c = σ.get c) → (∀ c, InBlk q' c → InBlk q c) → Q (.tuple #[p.1, .bool true]) τ) : wpA (cl k 53 [.pointer (some ⟨b, 1, none⟩)]) σ Q := by
  rw [cl_at hk (by decide), R53.eq]
  have hsl := ownO_sl hl.own
  have hcnt : ¬ ((ps.length : Int) + 1 = 0) := by omega
  have hat := at1_all (k := .i64) (i := 0) (x := p) (l := p :: ps) (f := fun p : Value × List St => p.1) hsl rfl
  have hat' : ∀ (K : Value → AM Value) Q, wpA (bindV (indexAddrA 1 q (.int .i64 0)) fun p => bindV (loadA none p) K) σ Q ↔ wpA (K p.1) σ Q := hat.1
  have hat2 : ∀ (Q : Value → AW → Prop), (wpA (indexAddrA 1 q (.int .i64 0)) σ fun p τ => wpA (loadA none p) τ Q) ↔ Q p.1 σ := hat.2.1
  have hat3 : ∀ (K : Value → AM Value) Q, (wpA (indexAddrA 1 q (.int .i64 0)) σ fun p τ => wpA (bindV (loadA none p) K) τ Q) ↔ wpA (K p.1) σ Q := hat.2.2
  simp [R53.top, hs.cells, len_iff hsl, hcnt, ↓hat', ↓hat2, ↓hat3]
  refine aw_tailO (n := ps.length) hl.own fun w hw hwb => ?_
  have hw' : OwnO σ w 36 1 ps.length (ps.map (·.1)) := by simpa using hw
  obtain ⟨wa, wc, hwf⟩ := (ownO_sl hw').form
  have hbq : ∀ c, InBlk q c → c ≠ b := fun c hc => by
    obtain ⟨h1, ws, h2⟩ := ownO_blk hl.own c hc
    exact fun e => by rw [e, hs.cells] at h2; cases h2
  have hoff : Off b q σ (σ.put b (some (.cells [.map (some m), w] 49 false))) := ⟨by simp, fun c hc hcb _ => by rw [AW.get_put, if_neg hcb]⟩
  have fin := hq (σ.put b (some (.cells [.map (some m), w] 49 false))) w ⟨by simp, by rw [AW.get_put, if_neg (fun e => hs.ne e.symm)]; exact hs.vals, hs.ne, by simpa using hs.hb, by simpa using hs.hm⟩
    ⟨ownO_same hw' (by simp) fun c hc => by rw [AW.get_put, if_neg (hbq c (hwb c hc))], fun p' hp' => line_each (o := q) ⟨_, hs.cells⟩ hl.own hoff (hl.each p' (by simp [hp']))⟩ (by simp) (fun c hc => by rw [AW.get_put, if_neg hc]) hwb
  rw [hwf] at fin ⊢
  simp [hs.cells]
  exact fin
end
end Go.Proofs.Ytlgeeibaohdjhaa
