/- Settings applied by the reference. -/
import Derived.Test.YtlgeeibaohdjhaaSettingU
set_option linter.unusedVariables false
set_option linter.unusedSimpArgs false
namespace Go.Proofs.Ytlgeeibaohdjhaa
open Go.Proofs.Ytlgeeibaohdjhaa.Eng
section
variable {σ : AW} {k : Nat} {Q : Value → AW → Prop} {b m vb : Nat} {f : Int → Int} {q : Value}
theorem rsets_upe {τ : AW} {g : Int → Int} (h : RSets σ b vb f q) (k : Upe vb (.cells (rlist g) 22 false) σ τ) : RSets τ b vb g q :=
  ⟨(k.2.2 b h.ne h.hb).trans h.cells, k.2.1, h.ne, Nat.lt_of_lt_of_le h.hb k.1, Nat.lt_of_lt_of_le h.hv k.1⟩
theorem rapply_spec {x : Value} {l : List St} {n : Nat} (h : RSets σ b vb f q) (hf : Fok f) (hx : Sl σ x 2 n (l.flatMap St.cs)) (hxv : ∀ c, InBlk x c → c ≠ vb) (hl : ∀ s ∈ l, s.val < 4294967296) (hlen : l.length ≤ maxLen) (hk : l.length + 10 ≤ k)
    (hq : ∀ τ, Upe vb (.cells (rlist (playF f l).1) 22 false) σ τ → Q (applyRes f (playF f l)) τ) : wpA (cl k 26 [ptr b, x]) σ Q := by
  rw [cl_at (by omega) (by decide), R26.eq]
  have h8 : l.length + 9 ≤ k - 1 := by omega
  generalize k - 1 = k1 at h8
  have hn : n = l.length := by
    have h1 := hx.1
    rw [length_flatMap St.len] at h1
    omega
  subst hn
  have hml : maxLen < 9223372036854775808 := by decide
  have hvn : ¬ vb = σ.next := by have := h.hv; omega
  have hbn : ¬ b = σ.next := by have := h.hb; omega
  have hxb := sl_blk hx
  generalize hT : σ.push (.cells [.bool false, .int .i64 0, .int .i64 0] 33 false) = T
  have h' : RSets T b vb f q := by
    rw [← hT]
    exact ⟨by simp [hbn, h.cells], by simp [hvn, h.vals], h.ne, by have := h.hb; simp; omega, by have := h.hv; simp; omega⟩
  have hr : T.get σ.next = some (.cells [.bool false, .int .i64 0, .int .i64 0] 33 false) := by rw [← hT]; simp
  have hrn : σ.next < T.next := by rw [← hT]; simp
  have hTe : Ext σ T := by rw [← hT]; exact Ext.push _ _
  have hxT := hx.ext hTe
  have f4 := hf 4
  have hc' := h'.cells
  rw [V9] at hc'
  have w2 : IntKind.i64.wrap (f 4) = f 4 := wrap64 (by omega) (by omega)
  simp [R26.top, hT, hc', h'.vals, rlist, w2]
  clear hT
  refine aw_loop1 (fun r u τ => ∃ (i : Nat) (g : Int → Int), u = .int .i64 i ∧ i ≤ l.length ∧ r = l.length - i ∧ Fok g ∧ Upe vb (.cells (rlist g) 22 false) T τ ∧ playF f l = playF g (l.drop i)) ?_ k1 l.length _ T ⟨0, f, rfl, by omega, rfl, hf, ⟨Nat.le_refl _, h'.vals, fun _ _ _ => rfl⟩, rfl⟩ (by omega)
  rintro r rec u τ ⟨i, g, rfl, hi, rfl, hg, hu, hp⟩ hrec
  have hS := rsets_upe h' hu
  have hSc := hS.cells
  rw [V9] at hSc
  have hxτ : Sl τ x 2 l.length (l.flatMap St.cs) := sl_same hxT hu.1 fun c hc => hu.2.2 c (hxv c hc) (by have := hxb c hc; omega)
  have hrτ : τ.get σ.next = some (.cells [.bool false, .int .i64 0, .int .i64 0] 33 false) := (hu.2.2 _ (fun e => hvn e.symm) hrn).trans hr
  have hTn : σ.next ≤ T.next := Nat.le_of_lt hrn
  by_cases hlt : i < l.length
  · obtain ⟨s, hs⟩ : ∃ s, l[i]? = some s := ⟨_, List.getElem?_eq_getElem hlt⟩
    have hwi : IntKind.i64.wrap ((i : Int) + 1) = ((i + 1 : Nat) : Int) := wrap64 (by omega) (by omega)
    have hsv := hl s (List.mem_of_getElem? hs)
    have hdr : l.drop i = s :: l.drop (i + 1) := drop_some hs
    rw [hdr] at hp
    have hvt : ¬ vb = τ.next := by have := hS.hv; omega
    have hbt : ¬ b = τ.next := by have := hS.hb; omega
    have hrt : ¬ σ.next = τ.next := by have := hu.1; omega
    generalize hP : τ.push (.cells [.int .i64 s.id, .int .u32 (s.val : Nat)] 24 false) = P
    have pv : P.get vb = some (.cells (rlist g) 22 false) := by rw [← hP]; simp [hvt, hS.vals]
    have pb : P.get b = some (.cells [.slice (some ⟨vb, 0, some 1⟩) 9 9, q] 61 false) := by rw [← hP]; simp [hbt, hSc]
    have pr : P.get σ.next = some (.cells [.bool false, .int .i64 0, .int .i64 0] 33 false) := by rw [← hP]; simp [hrt, hrτ]
    have pe : Ext τ P := by rw [← hP]; exact Ext.push τ _
    have hxP := hxτ.ext pe
    have pu : Upe vb (.cells (rlist g) 22 false) T P := ⟨Nat.le_trans hu.1 pe.1, pv, fun c hc hcl => (pe.2 c (Nat.lt_of_lt_of_le hcl hu.1)).trans (hu.2.2 c hc hcl)⟩
    have a0 := atF_all (k := .i64) St.len hxP hs (off := 0) (w := .int .i64 s.id) rfl
    have a1 := atF_all (k := .i64) St.len hxP hs (off := 1) (w := .int .u32 (s.val : Nat)) rfl
    have tail : wpA (R26.j_66 (cl k1) k1 rec (ptr b) x (ptr σ.next) (.int .i64 (i : Nat)) (.int .i64 (codeAt g s))) P Q := by
      by_cases h0 : codeAt g s = 0
      · by_cases hK : Known s.id
        · have hpl : playF f l = playF (upd g s.id s.val) (l.drop (i + 1)) := by rw [hp]; simp [playF, h0, stepF, hK]
          have hstep := hg.step hsv
          rw [stepF, if_pos hK] at hstep
          have hidx : 0 ≤ s.id ∧ s.id < 9 := by unfold Known at hK; omega
          have hput : ∀ (R : AObj → Prop), R (.cells (rlist (upd g s.id s.val)) 22 false) → storeQ (P.get vb) s.id.toNat 1 [.int .u32 (s.val : Nat)] R := by
            intro R hR
            have hK' := hK
            rw [pv]
            generalize s.id = id at hK' hR
            rcases hK' with rfl | rfl | rfl | rfl | rfl | rfl | rfl <;> (simp [rlist, splice]; simpa [rlist, upd] using hR)
          have hfin := hrec (l.length - (i + 1)) _ (P.put vb (some (.cells (rlist (upd g s.id s.val)) 22 false))) (by omega) ⟨i + 1, upd g s.id s.val, rfl, by omega, rfl, hstep, ⟨by simpa using pu.1, by simp, fun c hc hcl => by rw [AW.get_put, if_neg hc]; exact pu.2.2 c hc hcl⟩, hpl⟩
          simp [R26.j_66, h0, ↓a0, known_spec (show 1 ≤ k1 by omega), hK, pb, ↓a1, hidx, -Int.natCast_add]
          refine hput _ ?_
          simp [R26.j_29, hwi, -Int.natCast_add]
          exact hfin
        · have hpl : playF f l = playF g (l.drop (i + 1)) := by rw [hp]; simp [playF, h0, stepF, hK]
          simp [R26.j_66, R26.j_29, h0, ↓a0, known_spec (show 1 ≤ k1 by omega), hK, hwi, -Int.natCast_add]
          exact hrec (l.length - (i + 1)) _ _ (by omega) ⟨i + 1, g, rfl, by omega, rfl, hg, pu, hpl⟩
      · have hpl : playF f l = (g, codeAt g s) := by rw [hp]; simp [playF, h0]
        simp [R26.j_66, h0, pr]
        have := hq (P.put σ.next (some (.cells [.bool true, .int .i64 0, .int .i64 (codeAt g s)] 33 false))) ⟨by have := pu.1; simp; omega, by rw [AW.get_put, if_neg hvn, hpl]; exact pv, fun c hc hcl => by rw [AW.get_put, if_neg (by omega)]; exact (pu.2.2 c hc (by omega)).trans (hTe.2 c hcl)⟩
        rw [hpl] at this
        simpa [applyRes, h0] using this
    have hck := fun (R : Value → AW → Prop) => ref_check (σ := τ) (Q := R) (k := k1) (x := s.id) (y := (s.val : Nat)) (by omega) (by omega)
    have hpv8 : (rlist g)[8]? = some (.int .u32 (g 8)) := rfl
    by_cases e8 : s.id = 8
    · by_cases e0 : s.val = 0
      · by_cases e1 : g 8 = 1
        · have hcd : codeAt g s = 1 := by simp [codeAt, e8, e0, e1]
          rw [hcd] at tail
          simp [R26.b_102, len_iff hxτ, hlt, ↓atS_all St.len (by omega) hxτ hs, St.cs, hck, hP, ↓a0, -Int.natCast_add]
          simp [R26.g_82, R26.g_90, ↓a1, pb, pv, rlist, e8, e0, e1, -Int.natCast_add]
          simpa [e8, e0, e1] using tail
        · have hcd : codeAt g s = checkOf s.id s.val := by simp [codeAt, e8, e0, e1]
          rw [hcd] at tail
          simp [R26.b_102, len_iff hxτ, hlt, ↓atS_all St.len (by omega) hxτ hs, St.cs, hck, hP, ↓a0, -Int.natCast_add]
          simp [R26.g_82, R26.g_90, ↓a1, pb, pv, rlist, e8, e0, e1, -Int.natCast_add]
          simpa [e8, e0, e1] using tail
      · have hcd : codeAt g s = checkOf s.id s.val := by simp [codeAt, e8, e0]
        rw [hcd] at tail
        simp [R26.b_102, len_iff hxτ, hlt, ↓atS_all St.len (by omega) hxτ hs, St.cs, hck, hP, ↓a0, -Int.natCast_add]
        simp [R26.g_82, R26.g_90, ↓a1, pb, pv, rlist, e8, e0, -Int.natCast_add]
        simpa [e8, e0] using tail
    · have hcd : codeAt g s = checkOf s.id s.val := by simp [codeAt, e8]
      rw [hcd] at tail
      simp [R26.b_102, len_iff hxτ, hlt, ↓atS_all St.len (by omega) hxτ hs, St.cs, hck, hP, ↓a0, -Int.natCast_add]
      simp [R26.g_82, R26.g_90, ↓a1, pb, pv, rlist, e8, -Int.natCast_add]
      simpa [e8] using tail
  · have e : i = l.length := by omega
    subst e
    have hp2 : playF f l = (g, 0) := by rw [hp]; simp [playF]
    have g4 := hg 4
    have w1 : IntKind.i64.wrap (g 4) = g 4 := wrap64 (by omega) (by omega)
    have w3 : IntKind.i64.wrap (g 4 - f 4) = g 4 - f 4 := wrap64 (by omega) (by omega)
    simp [R26.b_102, len_iff hxτ, hSc, hS.vals, rlist, hrτ, w1, w3, -Int.natCast_add]
    have := hq (τ.put σ.next (some (.cells [.bool false, .int .i64 0, .int .i64 0] 33 false))) ⟨by simp; have := hTe.1; have := hu.1; omega, by rw [AW.get_put, if_neg hvn, hp2]; exact hu.2.1, fun c hc hcl => by rw [AW.get_put, if_neg (by omega)]; exact (hu.2.2 c hc (by omega)).trans (hTe.2 c hcl)⟩
    rw [hp2] at this
    simpa [applyRes] using this
end
end Go.Proofs.Ytlgeeibaohdjhaa
