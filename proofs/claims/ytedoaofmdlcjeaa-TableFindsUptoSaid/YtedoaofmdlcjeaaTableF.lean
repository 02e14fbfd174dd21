/- The reference's Add; Get, Resize, New of both. -/
import Derived.Test.YtedoaofmdlcjeaaTableE
set_option linter.unusedVariables false
set_option linter.unusedSimpArgs false
namespace Go.Proofs.Ytedoaofmdlcjeaa
open Go.Proofs.Ytedoaofmdlcjeaa.Eng
section
variable {σ : AW} {k : Nat} {Q : Value → AW → Prop}
theorem radd_spec {B b : Nat} {v : Value} {l : List Hd} {most : Nat} {x : Hd} (hT : RTab B b σ v l most) (hbB : b < B) (hB : B ≤ σ.next) (ok : TOk l most) (hx : hsize x ≤ 16777216) (hk : 7000 ≤ k)
    (hq : ∀ v' τ, RTab B b τ v' (addL l most x) most → Fr b v v' σ τ → Q (.tuple #[]) τ) : wpA (callN Try.prog k 32 [ptr b, .agg x.cs.toArray]) σ Q := by
  rw [callN_at (by omega), R32.eq]
  have hbig : 6999 ≤ k - 1 := by omega
  generalize hk1 : k - 1 = k1 at hbig
  have hbne : ¬ b = σ.next := by omega
  have hle := ok.le
  have hby := ok.bytes
  simp [R32.top, Hd.cs]
  generalize hP : (σ.push (.cells [Tx x.name, Tx x.value, .bool x.secret] 23 false)).put σ.next (some (.cells [Tx x.name, Tx x.value, .bool false] 23 false)) = P
  have hPx : P.get σ.next = some (.cells [Tx x.name, Tx x.value, .bool false] 23 false) := by rw [← hP]; simp
  have hPn : P.next = σ.next + 1 := by rw [← hP]; simp
  have hPe : Ext σ P := by rw [← hP]; exact ((Ext.push σ _).kept (Nat.le_refl _)).put (Nat.le_refl _) _
  clear hP
  refine (rsize_spec' (h := plain x) hx (by omega)).mono ?_
  rintro _ τ1 ⟨he1, rfl⟩
  have h1n := he1.1
  have e1 : Ext σ τ1 := hPe.trans he1
  have h1x : τ1.get σ.next = some (.cells [Tx x.name, Tx x.value, .bool false] 23 false) := by rw [he1.2 _ (by omega)]; exact hPx
  rw [plain_size]
  refine (rfall_spec (hT.ext (by omega) e1) hbB (by omega) (by omega) hle hx (by omega)).mono ?_
  rintro _ τ2 ⟨rfl, v', ⟨hb2, own2⟩, fr2⟩
  have h2n := fr2.1
  have h2x : τ2.get σ.next = some (.cells [Tx x.name, Tx x.value, .bool false] 23 false) := by
    rw [fr2.2.1 _ (by omega) (fun e => hbne e.symm) fun h => ?_]
    · exact h1x
    · have := own_new_lt hT.2 h
      omega
  have hfr : Fr b v v' σ τ2 := (ext_fr e1).trans fr2
  simp [h2x]
  refine (rsize_spec' (h := plain x) hx (by omega)).mono ?_
  rintro _ τ3 ⟨he3, rfl⟩
  have h3n := he3.1
  rw [plain_size]
  have hT3 : RTab B b τ3 v' (fallL l ((most : Int) - hsize x)) most := RTab.ext ⟨hb2, own2⟩ (by omega) he3
  have h3x : τ3.get σ.next = some (.cells [Tx x.name, Tx x.value, .bool false] 23 false) := by rw [he3.2 _ (by omega)]; exact h2x
  have hb3 := hT3.1
  have own3 := hT3.2
  have hfr3 : Fr b v v' σ τ3 := hfr.trans (ext_fr he3)
  by_cases hfit : hsize x ≤ most
  · have hfit' : ¬ (most : Int) < (hsize x : Int) := by omega
    have hfit2 : ¬ most < hsize x := by omega
    have e : addL l most x = fallL l ((most : Int) - hsize x) ++ [plain x] := by unfold addL; rw [if_pos hfit]
    have htt := fall_ok l ((most : Int) - hsize x) (by omega)
    have hll := total_len (fallL l ((most : Int) - hsize x))
    generalize hF : fallL l ((most : Int) - hsize x) = F at *
    rw [e] at hq
    have hsx : ¬ σ.next = τ3.next := by omega
    have hb3n : ¬ b = τ3.next := by omega
    have hsame := same_sl own3.sl
    have hok : F.reverse.flatMap Hd.cs = F.reverse.flatMap Hd.cs := rfl
    simp [there_iff, hb2, hb3, hfit', hfit2, h3x, zeros, List.range_succ, hb3n, hsame]
    have hcs : [Tx x.name, Tx x.value, Value.bool false] = (plain x).cs := rfl
    rw [hcs]
    have hE : Ext τ3 (τ3.push (.cells (plain x).cs 23 false)) := Ext.push _ _
    refine aw_appAny (B := τ3.next) (n := 1) (vs := (plain x).cs) (own_new (Nat.le_refl _) rfl) (own3.sl.ext hE) (cs_ok _) (by omega) (by omega) (by simp) fun w τ5 h5 h6 => ?_
    have e5 : Ext τ3 τ5 := Kept.ext ((hE.kept (Nat.le_refl _)).trans h6)
    have h5n := e5.1
    have hb5 : τ5.get b = some (.cells [.int .i64 (most : Nat), v'] 64 false) := by rw [e5.2 b (by omega)]; exact hb3
    have hwc := own_val h5
    simp [hb5, hwc.1, hwc.2]
    refine hq w _ ⟨by simp, ?_⟩ (hfr3.trans ⟨by simp; omega, fun c h1 h2 h3 => ?_, fun c hc => ?_⟩)
    · have : Own B τ5 w 23 3 (F ++ [plain x]).length ((F ++ [plain x]).reverse.flatMap Hd.cs) := by
        have := h5.mono (B' := B) (by omega)
        rw [List.length_append, List.length_singleton, Nat.add_comm F.length, List.reverse_append]
        simpa using this
      refine own_still this (by simp) fun c h1 h2 => ?_
      have c1 : ¬ c = b := by omega
      simp [c1]
    · simp [h2]
      exact e5.2 c h1
    · refine .inr ?_
      rcases Nat.lt_or_ge c τ3.next with g | g
      · exact absurd hc (own_sl_ne h5 g)
      · exact g
  · have hfit' : (most : Int) < (hsize x : Int) := by omega
    have hfit2 : most < hsize x := by omega
    have e : addL l most x = fallL l ((most : Int) - hsize x) := by unfold addL; rw [if_neg hfit]
    rw [e] at hq
    simp [there_iff, hb2, hb3, hfit', hfit2]
    exact hq v' _ hT3 hfr3
/-! ### Get -/
def getH (l : List Hd) (idx : Int) : Hd × Int := if idx ≤ 61 then staticH idx else if idx > 61 + l.length then (Hd.none, 50) else ((l[(61 + l.length - idx).toNat]?).getD Hd.none, 0)
def getV (l : List Hd) (idx : Int) : Value := .tuple #[.agg (getH l idx).1.cs.toArray, .int .i64 (getH l idx).2]
theorem getV_static {l : List Hd} {idx : Int} (h : idx ≤ 61) : getV l idx = staticV idx := by unfold getV getH staticV; rw [if_pos h]
theorem getV_none {l : List Hd} {idx : Int} (h : 61 + (l.length : Int) < idx) : getV l idx = .tuple #[.agg Hd.none.cs.toArray, .int .i64 50] := by
  unfold getV getH
  rw [if_neg (by omega), if_pos (by omega)]
theorem getV_at {l : List Hd} {idx : Int} {i : Nat} {x : Hd} (h1 : 61 < idx) (h2 : idx ≤ 61 + (l.length : Int)) (hi : (61 + (l.length : Int) - idx).toNat = i) (hx : l[i]? = some x) : getV l idx = .tuple #[.agg x.cs.toArray, .int .i64 0] := by
  unfold getV getH
  rw [if_neg (by omega), if_neg (by omega), hi, hx]
  rfl
theorem staticV_low {idx : Int} (h : idx < 1) : staticV idx = .tuple #[.agg Hd.none.cs.toArray, .int .i64 50] := by
  unfold staticV staticH
  rw [if_neg (by omega)]
theorem get_spec {B b : Nat} {v : Value} {l : List Hd} {most : Nat} {idx : Int} (hT : Tab B b σ v l most) (hbB : b < B) (hB : B ≤ σ.next) (hl : l.length ≤ 2048) (hk : 1100 ≤ k) :
    wpA (callN Try.prog k 16 [ptr b, .int .i64 idx]) σ fun r τ => Ext σ τ ∧ r = getV l idx := by
  rw [callN_at (by omega), R16.eq]
  have hbig : 1099 ≤ k - 1 := by omega
  generalize hk1 : k - 1 = k1 at hbig
  have hbne : ¬ b = σ.next := by omega
  simp [R16.top]
  rw [none_iff (v := v) (m := .int .i64 (most : Nat)) (n := .int .i64 (total l : Nat)) (by simp [hbne]; exact hT.1) (by omega)]
  by_cases h1 : idx ≤ 61
  · simp [h1]
    refine (static_spec (by omega)).mono ?_
    rintro w τ ⟨he, rfl⟩
    rw [getV_static h1]
    have hx : τ.get σ.next = some (.cells [.string ⟨#[]⟩, .string ⟨#[]⟩, .bool false] 23 false) := by rw [he.2 _ (by simp)]; simp
    have hen := he.1
    generalize hS : staticH idx = S
    have e : staticV idx = .tuple #[.agg S.1.cs.toArray, .int .i64 S.2] := by unfold staticV; rw [hS]
    rw [e]
    simp [hx, Hd.cs]
    exact ((((Ext.push σ _).trans he).kept (Nat.le_refl _)).put (Nat.le_refl _) _)
  · have hwl : IntKind.i64.wrap (61 + (l.length : Int)) = 61 + (l.length : Int) := wrap64 (by omega) (by omega)
    have hsl := (hT.2.ext (Ext.push σ (.cells [.string ⟨#[]⟩, .string ⟨#[]⟩, .bool false] 23 false))).sl
    have hb := hT.1
    by_cases h2 : 61 + (l.length : Int) < idx
    · rw [getV_none h2]
      simp [h1, hbne, hb, len_iff hsl, hwl, h2, none_cs]
      exact ((Ext.push σ _).kept (Nat.le_refl _)).put (Nat.le_refl _) _
    · obtain ⟨i, hi⟩ : ∃ i : Nat, (61 + (l.length : Int) - idx) = (i : Int) := ⟨(61 + (l.length : Int) - idx).toNat, by omega⟩
      have hil : i < l.length := by omega
      obtain ⟨x, hx⟩ : ∃ x, l[i]? = some x := ⟨_, List.getElem?_eq_getElem hil⟩
      rw [getV_at (by omega) (by omega) (by omega) hx]
      have hwi : IntKind.i64.wrap (61 + (l.length : Int) - idx) = (i : Int) := by rw [hi]; exact wrap64 (by omega) (by omega)
      simp [h1, hbne, hb, len_iff hsl, hwl, h2, hwi, ↓atS_all Hd.len (by omega) hsl hx, Hd.cs]
      exact ((Ext.push σ _).kept (Nat.le_refl _)).put (Nat.le_refl _) _
theorem rget_spec {B b : Nat} {v : Value} {l : List Hd} {most : Nat} {idx : Int} (hT : RTab B b σ v l most) (hbB : b < B) (hB : B ≤ σ.next) (hl : l.length ≤ 2048) (hk : 1100 ≤ k) :
    wpA (callN Try.prog k 35 [ptr b, .int .i64 idx]) σ fun r τ => Ext σ τ ∧ r = getV l idx := by
  rw [callN_at (by omega), R35.eq]
  have hbig : 1099 ≤ k - 1 := by omega
  generalize hk1 : k - 1 = k1 at hbig
  have hbne : ¬ b = σ.next := by omega
  have hwl : IntKind.i64.wrap (61 + (l.length : Int)) = 61 + (l.length : Int) := wrap64 (by omega) (by omega)
  have hsl := (hT.2.ext (Ext.push σ (.cells [.string ⟨#[]⟩, .string ⟨#[]⟩, .bool false] 23 false))).sl
  have hb := hT.1
  have hput : ∀ o, Ext σ ((σ.push (.cells [.string ⟨#[]⟩, .string ⟨#[]⟩, .bool false] 23 false)).put σ.next o) := fun o => ((Ext.push σ _).kept (Nat.le_refl _)).put (Nat.le_refl _) _
  by_cases h0 : idx < 1
  · rw [getV_static (by omega), staticV_low h0]
    simp [R35.g_32, R35.top, h0, none_cs]
    exact hput _
  by_cases h2 : 61 + (l.length : Int) < idx
  · rw [getV_none h2]
    simp [R35.g_32, R35.top, h0, hbne, hb, len_iff hsl, hwl, h2, none_cs]
    exact hput _
  by_cases h1 : idx ≤ 61
  · simp [R35.g_32, R35.top, h0, hbne, hb, len_iff hsl, hwl, h2, h1]
    refine (rstatic_spec (by omega)).mono ?_
    rintro w τ ⟨he, rfl⟩
    rw [getV_static h1]
    have hx : τ.get σ.next = some (.cells [.string ⟨#[]⟩, .string ⟨#[]⟩, .bool false] 23 false) := by rw [he.2 _ (by simp)]; simp
    have hen := he.1
    generalize hS : staticH idx = S
    have e : staticV idx = .tuple #[.agg S.1.cs.toArray, .int .i64 S.2] := by unfold staticV; rw [hS]
    rw [e]
    simp [hx, Hd.cs]
    exact ((((Ext.push σ _).trans he).kept (Nat.le_refl _)).put (Nat.le_refl _) _)
  · obtain ⟨i, hi⟩ : ∃ i : Nat, (61 + (l.length : Int) - idx) = (i : Int) := ⟨(61 + (l.length : Int) - idx).toNat, by omega⟩
    have hil : i < l.length := by omega
    obtain ⟨x, hx⟩ : ∃ x, l[i]? = some x := ⟨_, List.getElem?_eq_getElem hil⟩
    rw [getV_at (by omega) (by omega) (by omega) hx]
    obtain ⟨j, hj⟩ : ∃ j : Nat, idx - 62 = (j : Int) := ⟨(idx - 62).toNat, by omega⟩
    have hxr : l.reverse[j]? = some x := by
      rw [List.getElem?_reverse (by omega), show l.length - 1 - j = i by omega]
      exact hx
    have hwi : IntKind.i64.wrap (idx - 62) = (j : Int) := by rw [hj]; exact wrap64 (by omega) (by omega)
    simp [R35.g_32, R35.top, h0, hbne, hb, len_iff hsl, hwl, h2, h1, hwi, ↓atS_all Hd.len (by omega) hsl hxr, Hd.cs]
    exact hput _
/-! ### the others -/
theorem len_iff17 {B b : Nat} {v : Value} {l : List Hd} {most : Nat} (hT : Tab B b σ v l most) (hk : 2 ≤ k) : wpA (callN Try.prog k 17 [ptr b]) σ Q ↔ Q (.int .i64 (l.length : Nat)) σ := by
  rw [callN_at (by omega), R17.eq]
  simp [R17.top, none_iff hT.1 (show 1 ≤ k - 1 by omega), hT.1, len_iff hT.2.sl]
theorem bytes_iff {B b : Nat} {v : Value} {l : List Hd} {most : Nat} (hT : Tab B b σ v l most) (hk : 2 ≤ k) : wpA (callN Try.prog k 18 [ptr b]) σ Q ↔ Q (.int .i64 (total l : Nat)) σ := by
  rw [callN_at (by omega), R18.eq]
  simp [R18.top, none_iff hT.1 (show 1 ≤ k - 1 by omega), hT.1]
theorem most_iff {B b : Nat} {v : Value} {l : List Hd} {most : Nat} (hT : Tab B b σ v l most) (hk : 2 ≤ k) : wpA (callN Try.prog k 19 [ptr b]) σ Q ↔ Q (.int .i64 (most : Nat)) σ := by
  rw [callN_at (by omega), R19.eq]
  simp [R19.top, none_iff hT.1 (show 1 ≤ k - 1 by omega), hT.1]
def resL (l : List Hd) (most : Nat) (m : Int) : List Hd × Nat := if 0 ≤ m ∧ m ≤ 65536 then (fallL l m, m.toNat) else (l, most)
def resE (m : Int) : Int := if 0 ≤ m ∧ m ≤ 65536 then 0 else 1
theorem TOk.res {l : List Hd} {most : Nat} (h : TOk l most) (m : Int) : TOk (resL l most m).1 (resL l most m).2 := by
  unfold resL
  split
  · rename_i hm
    obtain ⟨a, rfl⟩ : ∃ a : Nat, m = a := ⟨m.toNat, by omega⟩
    exact h.fall (by omega)
  · exact h
theorem resize_spec {B b : Nat} {v : Value} {l : List Hd} {most : Nat} {m : Int} (hT : Tab B b σ v l most) (hbB : b < B) (hB : B ≤ σ.next) (ok : TOk l most) (hk : 7000 ≤ k)
    (hq : ∀ v' τ, Tab B b τ v' (resL l most m).1 (resL l most m).2 → Fr b v v' σ τ → Q (.int .i64 (resE m)) τ) : wpA (callN Try.prog k 20 [ptr b, .int .i64 m]) σ Q := by
  rw [callN_at (by omega), R20.eq]
  have hbig : 6999 ≤ k - 1 := by omega
  generalize hk1 : k - 1 = k1 at hbig
  have hle := ok.le
  have hby := ok.bytes
  have hb := hT.1
  by_cases hm : 0 ≤ m ∧ m ≤ 65536
  · have e1 : resL l most m = (fallL l m, m.toNat) := by unfold resL; rw [if_pos hm]
    have e2 : resE m = 0 := by unfold resE; rw [if_pos hm]
    rw [e1, e2] at hq
    simp [R20.top, none_iff hT.1 (show 1 ≤ k1 by omega), may_iff (show 1 ≤ k1 by omega), hm, hb]
    refine (fall_spec (v := v) (l := l) (m := m) (by simp) (own_still hT.2 (by simp) fun c h1 h2 => ?_) hbB (by simpa using hB) (by omega) (by omega)).mono ?_
    · have c1 : ¬ c = b := by omega
      simp [c1]
    · rintro _ τ ⟨rfl, v', h1, h2, h3⟩
      have hmm : ((m.toNat : Nat) : Int) = m := by omega
      refine hq v' τ ⟨by simp only [hmm]; exact h1, h2⟩ ⟨by simpa using h3.1, fun c c1 c2 c3 => ?_, fun c hc => by simpa using h3.2.2 c hc⟩
      rw [h3.2.1 c (by simpa using c1) c2 c3]
      simp [c2]
  · have e1 : resL l most m = (l, most) := by unfold resL; rw [if_neg hm]
    have e2 : resE m = 1 := by unfold resE; rw [if_neg hm]
    rw [e1, e2] at hq
    simp [R20.top, none_iff hT.1 (show 1 ≤ k1 by omega), may_iff (show 1 ≤ k1 by omega), hm, hb]
    exact hq v σ hT (ext_fr (Ext.refl σ))
theorem rresize_spec {B b : Nat} {v : Value} {l : List Hd} {most : Nat} {m : Int} (hT : RTab B b σ v l most) (hbB : b < B) (hB : B ≤ σ.next) (ok : TOk l most) (hk : 7000 ≤ k)
    (hq : ∀ v' τ, RTab B b τ v' (resL l most m).1 (resL l most m).2 → Fr b v v' σ τ → Q (.int .i64 (resE m)) τ) : wpA (callN Try.prog k 33 [ptr b, .int .i64 m]) σ Q := by
  rw [callN_at (by omega), R33.eq]
  have hbig : 6999 ≤ k - 1 := by omega
  generalize hk1 : k - 1 = k1 at hbig
  have hle := ok.le
  have hby := ok.bytes
  have hb := hT.1
  by_cases h0 : m < 0
  · have e1 : resL l most m = (l, most) := by unfold resL; rw [if_neg (by omega)]
    have e2 : resE m = 1 := by unfold resE; rw [if_neg (by omega)]
    rw [e1, e2] at hq
    simp [R33.g_17, R33.top, h0]
    exact hq v σ hT (ext_fr (Ext.refl σ))
  by_cases h6 : 65536 < m
  · have e1 : resL l most m = (l, most) := by unfold resL; rw [if_neg (by omega)]
    have e2 : resE m = 1 := by unfold resE; rw [if_neg (by omega)]
    rw [e1, e2] at hq
    simp [R33.g_17, R33.top, h0, h6]
    exact hq v σ hT (ext_fr (Ext.refl σ))
  · have hm : 0 ≤ m ∧ m ≤ 65536 := by omega
    have e1 : resL l most m = (fallL l m, m.toNat) := by unfold resL; rw [if_pos hm]
    have e2 : resE m = 0 := by unfold resE; rw [if_pos hm]
    rw [e1, e2] at hq
    obtain ⟨a, rfl⟩ : ∃ a : Nat, m = a := ⟨m.toNat, by omega⟩
    simp [R33.g_17, R33.top, h0, h6, hb]
    refine (rfall_spec (n := 0) (v := v) (l := l) (most := a) ⟨by simp, own_still hT.2 (by simp) fun c h1 h2 => ?_⟩ hbB (by simpa using hB) (by omega) (by omega) (by omega) (by omega)).mono ?_
    · have c1 : ¬ c = b := by omega
      simp [c1]
    · rintro _ τ ⟨rfl, v', h1, h3⟩
      have hz : (a : Int) - ((0 : Nat) : Int) = (a : Int) := by omega
      rw [hz] at h1
      refine hq v' τ h1 ⟨by simpa using h3.1, fun c c1 c2 c3 => ?_, fun c hc => by simpa using h3.2.2 c hc⟩
      rw [h3.2.1 c (by simpa using c1) c2 c3]
      simp [c2]
theorem new_iff {m : Int} (hk : 2 ≤ k) (hm : 0 ≤ m ∧ m ≤ 65536) : wpA (callN Try.prog k 14 [.int .i64 m]) σ Q ↔ Q (.tuple #[ptr σ.next, .int .i64 0]) (σ.push (.cells [.bool true, .slice none 0 0, .int .i64 m, .int .i64 0] 59 false)) := by
  rw [callN_at (by omega), R14.eq]
  simp [R14.top, may_iff (show 1 ≤ k - 1 by omega), hm]
theorem new_not {m : Int} (hk : 2 ≤ k) (hm : ¬ (0 ≤ m ∧ m ≤ 65536)) : wpA (callN Try.prog k 14 [.int .i64 m]) σ Q ↔ Q (.tuple #[.pointer none, .int .i64 1]) σ := by
  rw [callN_at (by omega), R14.eq]
  simp [R14.top, may_iff (show 1 ≤ k - 1 by omega), hm]
theorem rnew_iff {m : Int} (hk : 2 ≤ k) (hm : 0 ≤ m ∧ m ≤ 65536) : wpA (callN Try.prog k 22 [.int .i64 m]) σ Q ↔ Q (.tuple #[ptr σ.next, .int .i64 0]) (σ.push (.cells [.int .i64 m, .slice none 0 0] 64 false)) := by
  rw [callN_at (by omega), R22.eq]
  have h0 : ¬ m < 0 := by omega
  have h6 : ¬ 65536 < m := by omega
  simp [R22.g_17, R22.top, h0, h6]
theorem rnew_not {m : Int} (hk : 2 ≤ k) (hm : ¬ (0 ≤ m ∧ m ≤ 65536)) : wpA (callN Try.prog k 22 [.int .i64 m]) σ Q ↔ Q (.tuple #[.pointer none, .int .i64 1]) σ := by
  rw [callN_at (by omega), R22.eq]
  by_cases h0 : m < 0
  · simp [R22.g_17, R22.top, h0]
  · have h6 : 65536 < m := by omega
    simp [R22.g_17, R22.top, h0, h6]
end
end Go.Proofs.Ytedoaofmdlcjeaa
