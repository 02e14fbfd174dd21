/- Settings applied. -/
import Derived.Test.YtlgeeibaohdjhaaSettingL
import Derived.Test.YtlgeeibaohdjhaaSettingX
set_option linter.unusedVariables false
set_option linter.unusedSimpArgs false
namespace Go.Proofs.Ytlgeeibaohdjhaa
open Go.Proofs.Ytlgeeibaohdjhaa.Eng
/-! ### the plain law -/
def codeAt (f : Int → Int) (s : St) : Int := if s.id = 8 ∧ s.val = 0 ∧ f 8 = 1 then 1 else checkOf s.id s.val
def stepF (f : Int → Int) (s : St) : Int → Int := if Known s.id then upd f s.id s.val else f
def playF (f : Int → Int) : List St → (Int → Int) × Int
  | [] => (f, 0)
  | s :: l => if codeAt f s = 0 then playF (stepF f s) l else (f, codeAt f s)
def Fok (f : Int → Int) : Prop := ∀ x, 0 ≤ f x ∧ f x < 4294967296
theorem Fok.step {f : Int → Int} (h : Fok f) {s : St} (hs : s.val < 4294967296) : Fok (stepF f s) := by
  intro x
  unfold stepF
  split
  · unfold upd
    split
    · omega
    · exact h x
  · exact h x
theorem Fok.play : ∀ (l : List St) {f : Int → Int}, Fok f → (∀ s ∈ l, s.val < 4294967296) → Fok (playF f l).1
  | [], f, h, _ => h
  | s :: l, f, h, hl => by
    unfold playF
    split
    · exact Fok.play l (h.step (hl s (by simp))) fun x hx => hl x (by simp [hx])
    · exact h
theorem first_ok : Fok first := by
  intro x
  unfold first
  repeat (split; omega)
  omega
def applyRes (f : Int → Int) (p : (Int → Int) × Int) : Value := if p.2 = 0 then .tuple #[.int .i64 (p.1 4 - f 4), .agg #[.bool false, .int .i64 0, .int .i64 0]] else .tuple #[.int .i64 0, .agg #[.bool true, .int .i64 0, .int .i64 p.2]]
/-! ### the walk -/
section
variable {σ : AW} {k : Nat} {Q : Value → AW → Prop} {b m : Nat} {f : Int → Int} {o : Value}
theorem aw_atW {α : Type} {j : IntKind} {v : Value} {cs : α → List Value} {z n : Nat} {l : List α} {x : α} {i : Int} {K : Value → AM Value} (hz : ∀ a, (cs a).length = z) (h : Sl σ v z n (l.flatMap cs)) (h0 : 0 ≤ i) (hi : l[i.toNat]? = some x) (hzp : 0 < z) (hq : wpA (K (.agg (cs x).toArray)) σ Q) :
    wpA (bindV (indexAddrA z v (.int j i)) fun p => bindV (loadA (some z) p) K) σ Q := by
  have hn : n = l.length := by
    have h1 := h.1
    rw [length_flatMap hz] at h1
    exact Nat.eq_of_mul_eq_mul_right hzp h1.symm
  have hlt : i.toNat < l.length := by
    rcases Nat.lt_or_ge i.toNat l.length with g | g
    · exact g
    · rw [List.getElem?_eq_none g] at hi; cases hi
  refine aw_bindV (aw_indexSl h h0 (by omega) fun b o ws e ro hb _ hlen hww => aw_bindV (aw_loads hb hlen ?_))
  have : (ws.drop o).take z = cs x := by
    apply List.ext_getElem?
    intro j
    by_cases hj : j < z
    · rw [List.getElem?_take_of_lt hj, List.getElem?_drop, hww j hj, getElem?_flatMap hz _ _ _ hj, hi]
      rfl
    · rw [List.getElem?_eq_none (by simp; omega), List.getElem?_eq_none (by rw [hz]; omega)]
  rw [this]
  exact hq
theorem lookV {r : Nat} {x : Int} {z : Value} {ok : Bool} (hg : σ.get r = some (.map (vlist f))) : wpA (lookupA z ok (.map (some r)) (.int .i64 x)) σ Q ↔ Q (if ok then .tuple #[if Known x then .int .u32 (f x) else z, .bool (decide (Known x))] else if Known x then .int .u32 (f x) else z) σ := by
  rw [wpA_lookup hg (find_v f x)]
  by_cases h : Known x <;> simp [h]
theorem setV {r : Nat} {x v : Int} (hg : σ.get r = some (.map (vlist f))) (h : Known x) : wpA (mapSetA (.map (some r)) (.int .i64 x) (.int .u32 v)) σ Q ↔ Q (.tuple #[]) (σ.put r (some (.map (vlist (upd f x v))))) := by
  rw [wpA_mapSet hg (find_v f x) rfl, set_v f x v h]
theorem upe_trans {b : Nat} {o o' : AObj} {σ τ υ : AW} (h : Upe b o σ τ) (k : Upe b o' τ υ) : Upe b o' σ υ := ⟨Nat.le_trans h.1 k.1, k.2.1, fun c hc hl => (k.2.2 c hc (Nat.lt_of_lt_of_le hl h.1)).trans (h.2.2 c hc hl)⟩
theorem sl_upe {τ : AW} {v : Value} {z n : Nat} {vs : List Value} {es : List (Value × Value)} {o' : AObj} (h : Sl σ v z n vs) (hm : σ.get m = some (.map es)) (k : Upe m o' σ τ) : Sl τ v z n vs := by
  obtain ⟨h1, h | ⟨b, o, c, ws, e, ro, h2, hc, h3, h4⟩⟩ := h
  · exact ⟨h1, .inl h⟩
  · refine ⟨h1, .inr ⟨b, o, c, ws, e, ro, h2, hc, Nat.lt_of_lt_of_le h3 k.1, ?_⟩⟩
    rcases h4 with h4 | h4
    · exact .inl h4
    · refine .inr ⟨?_, h4.2⟩
      rw [k.2.2 b (fun e => by rw [e, hm] at h4; cases h4.1) h3]
      exact h4.1
theorem Sets.upe {τ : AW} {g : Int → Int} (h : Sets σ b m f o) (k : Upe m (.map (vlist g)) σ τ) : Sets τ b m g o :=
  ⟨(k.2.2 b h.ne h.hb).trans h.cells, k.2.1, h.ne, Nat.lt_of_lt_of_le h.hb k.1, Nat.lt_of_lt_of_le h.hm k.1⟩
theorem wrap_i64 {x : Int} (h : -9223372036854775808 ≤ x) (h2 : x < 9223372036854775808) : IntKind.i64.wrap x = x := by
  rw [IntKind.wrap_i64]
  omega
theorem drop_some {α : Type} {l : List α} {i : Nat} {x : α} (h : l[i]? = some x) : l.drop i = x :: l.drop (i + 1) := by
  obtain ⟨hi, rfl⟩ := List.getElem?_eq_some_iff.1 h
  exact List.drop_eq_getElem_cons hi
theorem apply_spec {x : Value} {l : List St} {n : Nat} (h : Sets σ b m f o) (hf : Fok f) (hx : Sl σ x 2 n (l.flatMap St.cs)) (hl : ∀ s ∈ l, s.val < 4294967296) (hlen : l.length ≤ maxLen) (hk : l.length + 10 ≤ k)
    (hq : ∀ τ, Upe m (.map (vlist (playF f l).1)) σ τ → Q (applyRes f (playF f l)) τ) : wpA (cl k 20 [ptr b, x]) σ Q := by
  rw [cl_at (by omega) (by decide), R20.eq]
  have h8 : l.length + 9 ≤ k - 1 := by omega
  generalize k - 1 = k1 at h8
  have hn : n = l.length := by
    have h1 := hx.1
    rw [length_flatMap St.len] at h1
    omega
  subst hn
  have hml : maxLen < 9223372036854775808 := by decide
  have hmn : ¬ m = σ.next := by have := h.hm; omega
  have hbn : ¬ b = σ.next := by have := h.hb; omega
  have hK4 : Known 4 := by decide
  have hK8 : Known 8 := by decide
  generalize hT : σ.push (.cells [.bool false, .int .i64 0, .int .i64 0] 33 false) = T
  have h' : Sets T b m f o := by
    rw [← hT]
    exact ⟨by simp [hbn, h.cells], by simp [hmn, h.vals], h.ne, by have := h.hb; simp; omega, by have := h.hm; simp; omega⟩
  have hr : T.get σ.next = some (.cells [.bool false, .int .i64 0, .int .i64 0] 33 false) := by rw [← hT]; simp
  have hrn : σ.next < T.next := by rw [← hT]; simp
  have hTe : Ext σ T := by rw [← hT]; exact Ext.push _ _
  have hxT := hx.ext hTe
  have f4 := hf 4
  simp [R20.top, hT, none_no h' (show 1 ≤ k1 by omega), h'.cells, lookV h'.vals, hK4, len_iff hxT]
  clear hT
  refine aw_loop1 (fun r u τ => ∃ (i : Nat) (g : Int → Int), u = .int .i64 i ∧ i ≤ l.length ∧ r = l.length - i ∧ Fok g ∧ Upe m (.map (vlist g)) T τ ∧ playF f l = playF g (l.drop i)) ?_ k1 l.length _ T ⟨0, f, rfl, by omega, rfl, hf, ⟨Nat.le_refl _, h'.vals, fun _ _ _ => rfl⟩, rfl⟩ (by omega)
  rintro r rec u τ ⟨i, g, rfl, hi, rfl, hg, hu, hp⟩ hrec
  have hS := h'.upe hu
  have hxτ := sl_upe hxT h'.vals hu
  have hrτ : τ.get σ.next = some (.cells [.bool false, .int .i64 0, .int .i64 0] 33 false) := (hu.2.2 _ (fun e => hmn e.symm) hrn).trans hr
  have hmt : ¬ m = τ.next := by have := hS.hm; omega
  have hbt : ¬ b = τ.next := by have := hS.hb; omega
  have hrt : ¬ σ.next = τ.next := by have := hu.1; omega
  have hmr : ¬ σ.next = m := fun e => hmn e.symm
  by_cases hlt : i < l.length
  · obtain ⟨s, hs⟩ : ∃ s, l[i]? = some s := ⟨_, List.getElem?_eq_getElem hlt⟩
    have hwi : IntKind.i64.wrap ((i : Int) + 1) = ((i + 1 : Nat) : Int) := wrap64 (by omega) (by omega)
    have hsv := hl s (List.mem_of_getElem? hs)
    have hdr : l.drop i = s :: l.drop (i + 1) := drop_some hs
    rw [hdr] at hp
    generalize hP : (τ.push (.cells [.int .i64 0, .int .u32 0] 24 false)).put τ.next (some (.cells [.int .i64 s.id, .int .u32 (s.val : Nat)] 24 false)) = P
    have pn : P.get τ.next = some (.cells [.int .i64 s.id, .int .u32 (s.val : Nat)] 24 false) := by rw [← hP]; simp
    have pm : P.get m = some (.map (vlist g)) := by rw [← hP]; simp [hmt, hS.vals]
    have pb : P.get b = some (.cells [.map (some m), o] 49 false) := by rw [← hP]; simp [hbt, hS.cells]
    have pr : P.get σ.next = some (.cells [.bool false, .int .i64 0, .int .i64 0] 33 false) := by rw [← hP]; simp [hrt, hrτ]
    have pnx : P.next = τ.next + 1 := by rw [← hP]; simp
    have pe : Ext τ P := by rw [← hP]; exact ((Ext.push τ _).kept (Nat.le_refl _)).put (Nat.le_refl _) _
    have pu : Upe m (.map (vlist g)) T P := ⟨Nat.le_trans hu.1 pe.1, pm, fun c hc hcl => (pe.2 c (Nat.lt_of_lt_of_le hcl hu.1)).trans (hu.2.2 c hc hcl)⟩
    have hTn : σ.next ≤ T.next := Nat.le_of_lt hrn
    have tail : ∀ (c : Bool), codeAt g s = (if c = true then 1 else checkOf s.id s.val) → wpA (R20.d_71 (cl k1) k1 rec (ptr b) (.int .i64 (i : Nat)) (ptr σ.next) (ptr τ.next) (.int .i64 (checkOf s.id s.val)) (.bool c)) P Q := by
      intro c hc
      have hcc : ∀ R : Value → Prop, wpA (R20.d_71 (cl k1) k1 rec (ptr b) (.int .i64 (i : Nat)) (ptr σ.next) (ptr τ.next) (.int .i64 (checkOf s.id s.val)) (.bool c)) P Q ↔ wpA (R20.j_66 (cl k1) k1 rec (ptr b) (.int .i64 (i : Nat)) (ptr σ.next) (ptr τ.next) (.int .i64 (codeAt g s))) P Q := by
        intro _
        cases c <;> simp [R20.d_71, hc]
      rw [hcc fun _ => True]
      by_cases h0 : codeAt g s = 0
      · by_cases hK : Known s.id
        · have hpl : playF f l = playF (upd g s.id s.val) (l.drop (i + 1)) := by rw [hp]; simp [playF, h0, stepF, hK]
          simp [R20.j_66, R20.j_29, h0, pb, pn, lookV pm, hK, setV pm hK, hwi, -Int.natCast_add]
          refine hrec (l.length - (i + 1)) _ _ (by omega) ⟨i + 1, upd g s.id s.val, rfl, by omega, rfl, ?_, ⟨by simpa using pu.1, by simp, fun c hc hcl => by rw [AW.get_put, if_neg hc]; exact pu.2.2 c hc hcl⟩, hpl⟩
          have := hg.step hsv
          rw [stepF, if_pos hK] at this
          exact this
        · have hpl : playF f l = playF g (l.drop (i + 1)) := by rw [hp]; simp [playF, h0, stepF, hK]
          simp [R20.j_66, R20.j_29, h0, pb, pn, lookV pm, hK, hwi, -Int.natCast_add]
          exact hrec (l.length - (i + 1)) _ _ (by omega) ⟨i + 1, g, rfl, by omega, rfl, hg, pu, hpl⟩
      · have hpl : playF f l = (g, codeAt g s) := by rw [hp]; simp [playF, h0]
        simp [R20.j_66, h0, pr]
        have := hq (P.put σ.next (some (.cells [.bool true, .int .i64 0, .int .i64 (codeAt g s)] 33 false))) ⟨by have := pu.1; simp; omega, by rw [AW.get_put, if_neg hmn, hpl]; exact pm, fun c hc hcl => by rw [AW.get_put, if_neg (by omega)]; exact (pu.2.2 c hc (by omega)).trans (hTe.2 c hcl)⟩
        rw [hpl] at this
        simpa [applyRes, h0] using this
    by_cases e8 : s.id = 8
    · by_cases e0 : s.val = 0
      · by_cases e1 : g 8 = 1
        · have := tail true (by simp [codeAt, e8, e0, e1])
          simp [R20.b_104, hlt, ↓atS_all St.len (by omega) hxτ hs, St.cs, check_spec (show 1 ≤ k1 by omega) (show (0 : Int) ≤ s.val by omega), hP, pn, pb, lookV pm, -Int.natCast_add]
          simp [pn, pb, lookV pm, hK8, e8, e0, e1]
          simpa [e8, e0] using this
        · have := tail false (by simp [codeAt, e8, e0, e1])
          simp [R20.b_104, hlt, ↓atS_all St.len (by omega) hxτ hs, St.cs, check_spec (show 1 ≤ k1 by omega) (show (0 : Int) ≤ s.val by omega), hP, pn, pb, lookV pm, -Int.natCast_add]
          simp [pn, pb, lookV pm, hK8, e8, e0, e1]
          simpa [e8, e0] using this
      · have := tail false (by simp [codeAt, e8, e0])
        simp [R20.b_104, hlt, ↓atS_all St.len (by omega) hxτ hs, St.cs, check_spec (show 1 ≤ k1 by omega) (show (0 : Int) ≤ s.val by omega), hP, pn, pb, lookV pm, -Int.natCast_add]
        simp [pn, pb, lookV pm, hK8, e8, e0]
        simpa [e8, e0] using this
    · have := tail false (by simp [codeAt, e8])
      simp [R20.b_104, hlt, ↓atS_all St.len (by omega) hxτ hs, St.cs, check_spec (show 1 ≤ k1 by omega) (show (0 : Int) ≤ s.val by omega), hP, pn, pb, lookV pm, -Int.natCast_add]
      simp [pn, pb, lookV pm, hK8, e8]
      simpa [e8] using this
  · have e : i = l.length := by omega
    subst e
    have hp2 : playF f l = (g, 0) := by rw [hp]; simp [playF]
    have g4 := hg 4
    have w1 : IntKind.i64.wrap (g 4) = g 4 := wrap64 (by omega) (by omega)
    have w2 : IntKind.i64.wrap (f 4) = f 4 := wrap64 (by omega) (by omega)
    have w3 : IntKind.i64.wrap (g 4 - f 4) = g 4 - f 4 := wrap64 (by omega) (by omega)
    simp [R20.b_104, hS.cells, lookV hS.vals, hK4, hrτ, w1, w2, w3, -Int.natCast_add]
    have := hq (τ.put σ.next (some (.cells [.bool false, .int .i64 0, .int .i64 0] 33 false))) ⟨by simp; have := hTe.1; have := hu.1; omega, by rw [AW.get_put, if_neg hmn, hp2]; exact hu.2.1, fun c hc hcl => by rw [AW.get_put, if_neg (by omega)]; exact (hu.2.2 c hc (by omega)).trans (hTe.2 c hcl)⟩
    rw [hp2] at this
    simpa [applyRes] using this
end
end Go.Proofs.Ytlgeeibaohdjhaa
