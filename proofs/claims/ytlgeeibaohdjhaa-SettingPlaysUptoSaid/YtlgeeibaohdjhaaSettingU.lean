/- The reference's settings. -/
import Derived.Test.YtlgeeibaohdjhaaSettingT
set_option linter.unusedVariables false
set_option linter.unusedSimpArgs false
namespace Go.Proofs.Ytlgeeibaohdjhaa
open Go.Proofs.Ytlgeeibaohdjhaa.Eng
section
variable {σ : AW} {k : Nat} {Q : Value → AW → Prop} {b vb : Nat} {f : Int → Int} {q : Value} {ps : List (Value × List St)}
def rlist (f : Int → Int) : List Value := [.int .u32 0, .int .u32 (f 1), .int .u32 (f 2), .int .u32 (f 3), .int .u32 (f 4), .int .u32 (f 5), .int .u32 (f 6), .int .u32 0, .int .u32 (f 8)]
def V9 (vb : Nat) : Value := .slice (some ⟨vb, 0, some 1⟩) 9 9
structure RSets (σ : AW) (b vb : Nat) (f : Int → Int) (q : Value) : Prop where
  cells : σ.get b = some (.cells [V9 vb, q] 61 false)
  vals : σ.get vb = some (.cells (rlist f) 22 false)
  ne : b ≠ vb
  hb : b < σ.next
  hv : vb < σ.next
theorem known_spec {x : Int} (hk : 1 ≤ k) : wpA (cl k 54 [.int .i64 x]) σ Q ↔ Q (.bool (decide (Known x))) σ := by
  rw [cl_at hk (by decide), R54.eq]
  have hK : Known x ↔ 1 ≤ x ∧ x ≤ 8 ∧ x ≠ 7 := by unfold Known; omega
  by_cases h1 : 1 ≤ x
  · by_cases h8 : x ≤ 8
    · by_cases h7 : x = 7
      · subst h7
        have h77 : ¬ Known 7 := by decide
        simp [R54.g_12, R54.g_15, R54.top, h77]
      · simp [R54.g_12, R54.g_15, R54.top, h1, h8, h7, hK]
    · simp [R54.g_12, R54.g_15, R54.top, h1, h8, hK]
  · simp [R54.g_12, R54.g_15, R54.top, h1, hK]
theorem rget_spec {x : Int} (h : RSets σ b vb f q) (hk : 2 ≤ k) : wpA (cl k 29 [ptr b, .int .i64 x]) σ Q ↔ Q (.int .u32 (valOf f x)) σ := by
  rw [cl_at (by omega) (by decide), R29.eq]
  have h1 : 1 ≤ k - 1 := by omega
  by_cases hx : Known x
  · have hc := h.cells
    rw [V9] at hc
    have hk' := hx
    rcases hx with rfl | rfl | rfl | rfl | rfl | rfl | rfl <;> simp [R29.top, known_spec h1, hk', hc, h.vals, rlist, valOf]
  · simp [R29.top, known_spec h1, hx, valOf]
theorem rnew_spec (hk : 1 ≤ k) : wpA (cl k 25 []) σ Q ↔ Q (ptr (σ.next + 1)) ((σ.push (.cells (rlist first) 22 false)).push (.cells [V9 σ.next, .slice none 0 0] 61 false)) := by
  rw [cl_at hk (by decide), R25.eq]
  have hz : zeros [Value.int .u32 0] 9 = [.int .u32 0, .int .u32 0, .int .u32 0, .int .u32 0, .int .u32 0, .int .u32 0, .int .u32 0, .int .u32 0, .int .u32 0] := by rfl
  simp [R25.top, hz, rlist, first, V9]
/-- Copied onto an empty slice of ours. -/
theorem aw_copy' {s x : Value} {n : Nat} {l : List St} (hs : OwnO σ s 24 2 0 []) (hx : Sl σ x 2 n (l.flatMap St.cs)) (hr : l.length ≤ 1048576) (hq : ∀ v τ, OwnO τ v 24 2 l.length (l.flatMap St.cs) → σ.next ≤ τ.next → (∀ c, c < σ.next → ¬ InBlk s c → τ.get c = σ.get c) → Q v τ) : wpA (appendA 24 2 16 s x) σ Q := by
  have hn : n = l.length := by
    have h1 := hx.1
    rw [length_flatMap St.len] at h1
    omega
  subst hn
  rcases Nat.eq_zero_or_pos l.length with h0 | h0
  · have hl : l = [] := List.length_eq_zero_iff.1 h0
    subst hl
    have hsrc : σ.source 2 x = some (0, []) := by
      obtain ⟨_, ⟨rfl, _⟩ | ⟨b, o, c, ws, e, ro, rfl, _⟩⟩ := hx
      · rfl
      · simp [AW.source]
    refine ⟨s, σ, ?_, hq _ _ hs (Nat.le_refl _) fun _ _ _ => rfl⟩
    obtain ⟨_, ⟨rfl, _⟩ | ⟨b, o, c, ws, rfl, hc, _⟩⟩ := hs
    · simp [appendA, hsrc]
    · simp [appendA, hsrc, hc]
  · have hc : (l.flatMap St.cs).all isCell = true := by
      rw [List.all_eq_true]
      intro v hv
      obtain ⟨s, _, hs⟩ := List.mem_flatMap.1 hv
      simp only [St.cs, List.mem_cons, List.mem_nil_iff, or_false] at hs
      rcases hs with rfl | rfl <;> rfl
    exact aw_appendO hs hx h0 hc (by omega) (by omega) fun v τ h1 h2 h3 h4 => hq v τ (by simpa using h1) h2 h3
/-- make a copy: an empty slice, and what is appended to it. -/
theorem aw_clone {x : Value} {n : Nat} {l : List St} {K : Value → AM Value} (hx : Sl σ x 2 n (l.flatMap St.cs)) (hr : l.length ≤ 1048576) (hq : ∀ v τ, OwnO τ v 24 2 l.length (l.flatMap St.cs) → Ext σ τ → wpA (K v) τ Q) :
    wpA (bindV (appendA 24 2 16 (.slice (some ⟨σ.next, 0, some 2⟩) 0 0) x) K) (σ.push (.cells [] 24 false)) Q := by
  have hE := Ext.push σ (.cells [] 24 false)
  refine aw_bindV (aw_copy' (s := .slice (some ⟨σ.next, 0, some 2⟩) 0 0) ⟨by simp, .inr ⟨σ.next, 0, 0, [], rfl, Nat.le_refl _, by simp, by simp, by simp, by simp⟩⟩ (hx.ext hE) hr fun v τ h1 h2 h3 => hq v τ h1 ⟨Nat.le_trans hE.1 h2, fun c hc => (h3 c (by simp; omega) ?_).trans (hE.2 c hc)⟩)
  rintro ⟨o, s, n, cc, he⟩
  injection he with he
  injection he with he
  injection he with he
  omega
end
end Go.Proofs.Ytlgeeibaohdjhaa

namespace Go.Proofs.Ytlgeeibaohdjhaa
open Go.Proofs.Ytlgeeibaohdjhaa.Eng
section
variable {σ : AW} {k : Nat} {Q : Value → AW → Prop} {b vb : Nat} {f : Int → Int} {q : Value} {ps : List (Value × List St)}
theorem rline_each {τ : AW} {n : Nat} {vs : List Value} (hb : ∃ ws, σ.get b = some (.cells ws 61 false)) (hq : OwnO σ q 36 1 n vs) (hoff : Off b q σ τ) {v : Value} {j : Nat} {us : List Value} (h : OwnO σ v 24 2 j us) : OwnO τ v 24 2 j us := by
  refine ownO_same h hoff.1 fun c hc => ?_
  obtain ⟨h1, ws, h2⟩ := ownO_blk h c hc
  obtain ⟨wb, hb⟩ := hb
  refine hoff.2 c h1 (fun e => ?_) fun hqc => ?_
  · subst e
    rw [hb] at h2
    cases h2
  · obtain ⟨_, wq, h3⟩ := ownO_blk hq c hqc
    rw [h3] at h2
    cases h2
theorem rack_nil (hs : RSets σ b vb f q) (hl : Line σ q []) (hk : 1 ≤ k) : wpA (cl k 28 [ptr b]) σ Q ↔ Q (.tuple #[.slice none 0 0, .int .i64 5]) σ := by
  rw [cl_at hk (by decide), R28.eq]
  simp [R28.top, hs.cells, len_iff (ownO_sl hl.own)]
theorem rack_spec {p : Value × List St} (hs : RSets σ b vb f q) (hl : Line σ q (p :: ps)) (hk : 1 ≤ k) (hlen : ps.length < 1048577)
    (hq : ∀ τ q', RSets τ b vb f q' → Line τ q' ps → τ.next = σ.next → (∀ c, c ≠ b → τ.get c = σ.get c) → (∀ c, InBlk q' c → InBlk q c) → Q (.tuple #[p.1, .int .i64 0]) τ) : wpA (cl k 28 [ptr b]) σ Q := by
  rw [cl_at hk (by decide), R28.eq]
  have hsl := ownO_sl hl.own
  have hcnt : ¬ ((ps.length : Int) + 1 = 0) := by omega
  have hat := at1_all (k := .i64) (i := 0) (x := p) (l := p :: ps) (f := fun p : Value × List St => p.1) hsl rfl
  have hat' : ∀ (K : Value → AM Value) Q, wpA (bindV (indexAddrA 1 q (.int .i64 0)) fun p => bindV (loadA none p) K) σ Q ↔ wpA (K p.1) σ Q := hat.1
  have hat2 : ∀ (Q : Value → AW → Prop), (wpA (indexAddrA 1 q (.int .i64 0)) σ fun p τ => wpA (loadA none p) τ Q) ↔ Q p.1 σ := hat.2.1
  have hat3 : ∀ (K : Value → AM Value) Q, (wpA (indexAddrA 1 q (.int .i64 0)) σ fun p τ => wpA (bindV (loadA none p) K) τ Q) ↔ wpA (K p.1) σ Q := hat.2.2
  simp [R28.top, hs.cells, len_iff hsl, hcnt, ↓hat', ↓hat2, ↓hat3]
  refine aw_tailO (n := ps.length) hl.own fun w hw hwb => ?_
  have hw' : OwnO σ w 36 1 ps.length (ps.map (·.1)) := by simpa using hw
  obtain ⟨wa, wc, hwf⟩ := (ownO_sl hw').form
  have hbq : ∀ c, InBlk q c → c ≠ b := fun c hc => by
    obtain ⟨h1, ws, h2⟩ := ownO_blk hl.own c hc
    exact fun e => by rw [e, hs.cells] at h2; cases h2
  have hoff : Off b q σ (σ.put b (some (.cells [V9 vb, w] 61 false))) := ⟨by simp, fun c hc hcb _ => by rw [AW.get_put, if_neg hcb]⟩
  have fin := hq (σ.put b (some (.cells [V9 vb, w] 61 false))) w ⟨by simp, by rw [AW.get_put, if_neg (fun e => hs.ne e.symm)]; exact hs.vals, hs.ne, by simpa using hs.hb, by simpa using hs.hv⟩
    ⟨ownO_same hw' (by simp) fun c hc => by rw [AW.get_put, if_neg (hbq c (hwb c hc))], fun p' hp' => rline_each ⟨_, hs.cells⟩ hl.own hoff (hl.each p' (by simp [hp']))⟩ (by simp) (fun c hc => by rw [AW.get_put, if_neg hc]) hwb
  rw [hwf] at fin ⊢
  simp [hs.cells]
  exact fin
theorem hereLoad {o : Nat} {v : Value} {ws : List Value} {e : TypeId} {K : AM Value} (hb : σ.get b = some (.cells ws e false)) (hv : ws[o]? = some v) (hs : same v v = true) (hk : wpA K σ Q) : wpA (hereV [((loadA none (.pointer (some ⟨b, o, none⟩)) : AM Value), v)] K) σ Q :=
  aw_hereCons (aw_load hb hv rfl) hs hk
theorem roffer_spec {x : Value} {n : Nat} {l : List St} (hs : RSets σ b vb f q) (hl : Line σ q ps) (hx : Sl σ x 2 n (l.flatMap St.cs)) (hr1 : l.length ≤ 1048576) (hr2 : ps.length ≤ 1048576) (hk : 3 ≤ k)
    (hq : ∀ τ q' p, p.2 = l → RSets τ b vb f q' → Line τ q' (ps ++ [p]) → Off b q σ τ → (∀ c, InBlk q' c → σ.next ≤ c) → Q (.tuple #[]) τ) : wpA (cl k 27 [ptr b, x]) σ Q := by
  rw [cl_at (by omega) (by decide), R27.eq]
  have hb := hs.hb
  have hv := hs.hv
  have hbq : ∀ c, InBlk q c → c ≠ b ∧ c ≠ vb ∧ c < σ.next := fun c hc => by
    obtain ⟨h1, ws, h2⟩ := ownO_blk hl.own c hc
    exact ⟨fun e => (by rw [e, hs.cells] at h2; cases h2), fun e => (by rw [e, hs.vals] at h2; cases h2), h1⟩
  have hsame : same q q = true := same_sl (ownO_sl hl.own)
  simp only [R27.top]
  refine aw_bindV (aw_ret (aw_bindV (aw_ret (aw_bindV (aw_nilCheck (aw_bindV (aw_fieldAddr (aw_bindV (aw_load hs.cells rfl ?_)))))))))
  refine aw_bindV (aw_buildSlice (cs := []) (by rfl) (by decide) (by rfl) rfl ?_)
  have hE := Ext.push σ (.cells [] 24 false)
  refine hereLoad (ws := [V9 vb, q]) (by rw [hE.2 b hb]; exact hs.cells) rfl hsame ?_
  refine aw_bindV (aw_ret ?_)
  refine aw_clone hx hr1 fun v τ ho he => ?_
  have tb : τ.get b = some (.cells [V9 vb, q] 61 false) := (he.2 b hb).trans hs.cells
  refine hereLoad (ws := [V9 vb, q]) tb rfl hsame ?_
  obtain ⟨xa, xc, hxf⟩ := (ownO_sl ho).form
  refine aw_bindV (aw_buildSlice (cs := [v]) (by rw [hxf]; rfl) (by decide) (by rw [hxf]; rfl) rfl ?_)
  have hE2 := Ext.push τ (.cells [v] 36 false)
  have hbτ : b < τ.next := Nat.lt_of_lt_of_le hb he.1
  refine hereLoad (ws := [V9 vb, q]) (by rw [hE2.2 b hbτ]; exact tb) rfl hsame ?_
  have hlτ := line_ext hl he
  refine aw_bindV (aw_appendO (ownO_same hlτ.own hE2.1 fun c hc => hE2.2 c (ownO_blk hlτ.own c hc).1) (m := 1) (us := [v]) ⟨by simp, .inr ⟨τ.next, 0, 1, [v], 36, false, rfl, Nat.le_refl _, by simp, .inr ⟨by rw [AW.get_push, if_pos rfl], by simp, by simp⟩⟩⟩ (by omega) (by rw [hxf]; rfl) (by omega) (by omega) fun q' υ h1 h2 h3 h4 => ?_)
  obtain ⟨va, vc, hvf⟩ := (ownO_sl h1).form
  have h2' : τ.next + 1 ≤ υ.next := by simpa using h2
  have h3' : ∀ c, c < τ.next → ¬ InBlk q c → υ.get c = τ.get c := fun c hc hn => (h3 c (by simp; omega) hn).trans (hE2.2 c hc)
  have h4' : ∀ c, InBlk q' c → τ.next + 1 ≤ c := fun c hc => by simpa using h4 c hc
  have he1 := he.1
  have ub : υ.get b = some (.cells [V9 vb, q] 61 false) := (h3' b hbτ fun h => (hbq b h).1 rfl).trans tb
  have uv : υ.get vb = some (.cells (rlist f) 22 false) := ((h3' vb (by omega) fun h => (hbq vb h).2.1 rfl).trans (he.2 vb hv)).trans hs.vals
  refine aw_bindV (aw_nilCheck (aw_bindV (aw_fieldAddr ?_)))
  have hoffτ : Off b q τ (υ.put b (some (.cells [V9 vb, q'] 61 false))) := ⟨by simp; omega, fun c hc hcb hcq => by rw [AW.get_put, if_neg hcb]; exact h3' c hc hcq⟩
  have fin := hq (υ.put b (some (.cells [V9 vb, q'] 61 false))) q' (v, l) rfl ⟨by simp, by rw [AW.get_put, if_neg (fun e => hs.ne e.symm)]; exact uv, hs.ne, by simp; omega, by simp; omega⟩
    ⟨by
      rw [List.map_append, List.length_append]
      exact ownO_same h1 (by simp) fun c hc => by rw [AW.get_put, if_neg (by have := h4' c hc; omega)], fun p' hp' => by
      rcases List.mem_append.1 hp' with h | h
      · exact rline_each ⟨_, tb⟩ hlτ.own hoffτ (hlτ.each p' h)
      · simp at h
        subst h
        exact rline_each ⟨_, tb⟩ hlτ.own hoffτ ho⟩ (off_ext he hoffτ) fun c hc => by have := h4' c hc; omega
  rw [hvf] at fin ⊢
  simp [ub]
  exact fin
end
end Go.Proofs.Ytlgeeibaohdjhaa
