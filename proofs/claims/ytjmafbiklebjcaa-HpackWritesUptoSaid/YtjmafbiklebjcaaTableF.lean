/- The reference's Add; Get, Resize, New of both. -/
import Derived.Test.YtjmafbiklebjcaaTableA
set_option linter.unusedVariables false
set_option linter.unusedSimpArgs false
namespace Go.Proofs.Ytjmafbiklebjcaa
open Go.Proofs.Ytjmafbiklebjcaa.Eng
section
variable {σ : AW} {k : Nat} {Q : Value → AW → Prop}
theorem radd_spec {B b : Nat} {v : Value} {l : List Hd} {most : Nat} {x : Hd} (hT : RTab B b σ v l most) (hbB : b < B) (hB : B ≤ σ.next) (ok : TOk l most) (hx : hsize x ≤ 16777216) (hk : 7000 ≤ k)
    (hq : ∀ v' τ, RTab B b τ v' (addL l most x) most → Fr b v v' σ τ → Q (.tuple #[]) τ) : wpA (callN Try.prog k 37 [ptr b, .agg x.cs.toArray]) σ Q := by
  rw [callN_at (by omega), R37.eq]
  have hbig : 6999 ≤ k - 1 := by omega
  generalize hk1 : k - 1 = k1 at hbig
  have hbne : ¬ b = σ.next := by omega
  have hle := ok.le
  have hby := ok.bytes
  simp [R37.top, Hd.cs]
  generalize hP : (σ.push (.cells [Tx x.name, Tx x.value, .bool x.secret] 56 false)).put σ.next (some (.cells [Tx x.name, Tx x.value, .bool false] 56 false)) = P
  have hPx : P.get σ.next = some (.cells [Tx x.name, Tx x.value, .bool false] 56 false) := by rw [← hP]; simp
  have hPn : P.next = σ.next + 1 := by rw [← hP]; simp
  have hPe : Ext σ P := by rw [← hP]; exact ((Ext.push σ _).kept (Nat.le_refl _)).put (Nat.le_refl _) _
  clear hP
  refine (rsize_spec' (h := plain x) hx (by omega)).mono ?_
  rintro _ τ1 ⟨he1, rfl⟩
  have h1n := he1.1
  have e1 : Ext σ τ1 := hPe.trans he1
  have h1x : τ1.get σ.next = some (.cells [Tx x.name, Tx x.value, .bool false] 56 false) := by rw [he1.2 _ (by omega)]; exact hPx
  rw [plain_size]
  refine (rfall_spec (hT.ext (by omega) e1) hbB (by omega) (by omega) hle hx (by omega)).mono ?_
  rintro _ τ2 ⟨rfl, v', ⟨hb2, own2⟩, fr2⟩
  have h2n := fr2.1
  have h2x : τ2.get σ.next = some (.cells [Tx x.name, Tx x.value, .bool false] 56 false) := by
    rw [fr2.2.1 _ (by omega) (fun e => hbne e.symm) fun h => ?_]
    · exact h1x
    · have := own_new_lt hT.2 h
      omega
  have hfr : Fr b v v' σ τ2 := (ext_fr e1).trans fr2
  simp [h2x]
  refine (rsize_spec' (h := plain x) hx (by omega)).mono ?_
  rintro _ τ3 ⟨he3, rfl⟩
  have h3n := he3.1
  rw [plain_size]
  have hT3 : RTab B b τ3 v' (fallL l ((most : Int) - hsize x)) most := RTab.ext ⟨hb2, own2⟩ (by omega) he3
  have h3x : τ3.get σ.next = some (.cells [Tx x.name, Tx x.value, .bool false] 56 false) := by rw [he3.2 _ (by omega)]; exact h2x
  have hb3 := hT3.1
  have own3 := hT3.2
  have hfr3 : Fr b v v' σ τ3 := hfr.trans (ext_fr he3)
  by_cases hfit : hsize x ≤ most
  · have hfit' : ¬ (most : Int) < (hsize x : Int) := by omega
    have hfit2 : ¬ most < hsize x := by omega
    have e : addL l most x = fallL l ((most : Int) - hsize x) ++ [plain x] := by unfold addL; rw [if_pos hfit]
    have htt := fall_ok l ((most : Int) - hsize x) (by omega)
    have hll := total_len (fallL l ((most : Int) - hsize x))
    generalize hF : fallL l ((most : Int) - hsize x) = F at *
    rw [e] at hq
    have hsx : ¬ σ.next = τ3.next := by omega
    have hb3n : ¬ b = τ3.next := by omega
    have hsame := same_sl own3.sl
    have hok : F.reverse.flatMap Hd.cs = F.reverse.flatMap Hd.cs := rfl
    simp [there_iff, hb2, hb3, hfit', hfit2, h3x, zeros, List.range_succ, hb3n, hsame]
    have hcs : [Tx x.name, Tx x.value, Value.bool false] = (plain x).cs := rfl
    rw [hcs]
    have hE : Ext τ3 (τ3.push (.cells (plain x).cs 56 false)) := Ext.push _ _
    refine aw_appAny (B := τ3.next) (n := 1) (vs := (plain x).cs) (own_new (Nat.le_refl _) rfl) (own3.sl.ext hE) (cs_ok _) (by omega) (by omega) (by simp) fun w τ5 h5 h6 => ?_
    have e5 : Ext τ3 τ5 := Kept.ext ((hE.kept (Nat.le_refl _)).trans h6)
    have h5n := e5.1
    have hb5 : τ5.get b = some (.cells [.int .i64 (most : Nat), v'] 60 false) := by rw [e5.2 b (by omega)]; exact hb3
    have hwc := own_val h5
    simp [hb5, hwc.1, hwc.2]
    refine hq w _ ⟨by simp, ?_⟩ (hfr3.trans ⟨by simp; omega, fun c h1 h2 h3 => ?_, fun c hc => ?_⟩)
    · have : Own B τ5 w 56 3 (F ++ [plain x]).length ((F ++ [plain x]).reverse.flatMap Hd.cs) := by
        have := h5.mono (B' := B) (by omega)
        rw [List.length_append, List.length_singleton, Nat.add_comm F.length, List.reverse_append]
        simpa using this
      refine own_still this (by simp) fun c h1 h2 => ?_
      have c1 : ¬ c = b := by omega
      simp [c1]
    · simp [h2]
      exact e5.2 c h1
    · refine .inr ?_
      rcases Nat.lt_or_ge c τ3.next with g | g
      · exact absurd hc (own_sl_ne h5 g)
      · exact g
  · have hfit' : (most : Int) < (hsize x : Int) := by omega
    have hfit2 : most < hsize x := by omega
    have e : addL l most x = fallL l ((most : Int) - hsize x) := by unfold addL; rw [if_neg hfit]
    rw [e] at hq
    simp [there_iff, hb2, hb3, hfit', hfit2]
    exact hq v' _ hT3 hfr3
/-! ### Get -/
def getH (l : List Hd) (idx : Int) : Hd × Int := if idx ≤ 61 then staticH idx else if idx > 61 + l.length then (Hd.none, 50) else ((l[(61 + l.length - idx).toNat]?).getD Hd.none, 0)
def getV (l : List Hd) (idx : Int) : Value := .tuple #[.agg (getH l idx).1.cs.toArray, .int .i64 (getH l idx).2]
theorem getV_static {l : List Hd} {idx : Int} (h : idx ≤ 61) : getV l idx = staticV idx := by unfold getV getH staticV; rw [if_pos h]
theorem getV_none {l : List Hd} {idx : Int} (h : 61 + (l.length : Int) < idx) : getV l idx = .tuple #[.agg Hd.none.cs.toArray, .int .i64 50] := by
  unfold getV getH
  rw [if_neg (by omega), if_pos (by omega)]
theorem getV_at {l : List Hd} {idx : Int} {i : Nat} {x : Hd} (h1 : 61 < idx) (h2 : idx ≤ 61 + (l.length : Int)) (hi : (61 + (l.length : Int) - idx).toNat = i) (hx : l[i]? = some x) : getV l idx = .tuple #[.agg x.cs.toArray, .int .i64 0] := by
  unfold getV getH
  rw [if_neg (by omega), if_neg (by omega), hi, hx]
  rfl
theorem staticV_low {idx : Int} (h : idx < 1) : staticV idx = .tuple #[.agg Hd.none.cs.toArray, .int .i64 50] := by
  unfold staticV staticH
  rw [if_neg (by omega)]
theorem rget_spec {B b : Nat} {v : Value} {l : List Hd} {most : Nat} {idx : Int} (hT : RTab B b σ v l most) (hbB : b < B) (hB : B ≤ σ.next) (hl : l.length ≤ 2048) (hk : 1100 ≤ k) :
    wpA (callN Try.prog k 44 [ptr b, .int .i64 idx]) σ fun r τ => Ext σ τ ∧ r = getV l idx := by
  rw [callN_at (by omega), R44.eq]
  have hbig : 1099 ≤ k - 1 := by omega
  generalize hk1 : k - 1 = k1 at hbig
  have hbne : ¬ b = σ.next := by omega
  have hwl : IntKind.i64.wrap (61 + (l.length : Int)) = 61 + (l.length : Int) := wrap64 (by omega) (by omega)
  have hsl := (hT.2.ext (Ext.push σ (.cells [.string ⟨#[]⟩, .string ⟨#[]⟩, .bool false] 56 false))).sl
  have hb := hT.1
  have hput : ∀ o, Ext σ ((σ.push (.cells [.string ⟨#[]⟩, .string ⟨#[]⟩, .bool false] 56 false)).put σ.next o) := fun o => ((Ext.push σ _).kept (Nat.le_refl _)).put (Nat.le_refl _) _
  by_cases h0 : idx < 1
  · rw [getV_static (by omega), staticV_low h0]
    simp [R44.g_32, R44.top, h0, none_cs]
    exact hput _
  by_cases h2 : 61 + (l.length : Int) < idx
  · rw [getV_none h2]
    simp [R44.g_32, R44.top, h0, hbne, hb, len_iff hsl, hwl, h2, none_cs]
    exact hput _
  by_cases h1 : idx ≤ 61
  · simp [R44.g_32, R44.top, h0, hbne, hb, len_iff hsl, hwl, h2, h1]
    refine (rstatic_spec (by omega)).mono ?_
    rintro w τ ⟨he, rfl⟩
    rw [getV_static h1]
    have hx : τ.get σ.next = some (.cells [.string ⟨#[]⟩, .string ⟨#[]⟩, .bool false] 56 false) := by rw [he.2 _ (by simp)]; simp
    have hen := he.1
    generalize hS : staticH idx = S
    have e : staticV idx = .tuple #[.agg S.1.cs.toArray, .int .i64 S.2] := by unfold staticV; rw [hS]
    rw [e]
    simp [hx, Hd.cs]
    exact ((((Ext.push σ _).trans he).kept (Nat.le_refl _)).put (Nat.le_refl _) _)
  · obtain ⟨i, hi⟩ : ∃ i : Nat, (61 + (l.length : Int) - idx) = (i : Int) := ⟨(61 + (l.length : Int) - idx).toNat, by omega⟩
    have hil : i < l.length := by omega
    obtain ⟨x, hx⟩ : ∃ x, l[i]? = some x := ⟨_, List.getElem?_eq_getElem hil⟩
    rw [getV_at (by omega) (by omega) (by omega) hx]
    obtain ⟨j, hj⟩ : ∃ j : Nat, idx - 62 = (j : Int) := ⟨(idx - 62).toNat, by omega⟩
    have hxr : l.reverse[j]? = some x := by
      rw [List.getElem?_reverse (by omega), show l.length - 1 - j = i by omega]
      exact hx
    have hwi : IntKind.i64.wrap (idx - 62) = (j : Int) := by rw [hj]; exact wrap64 (by omega) (by omega)
    simp [R44.g_32, R44.top, h0, hbne, hb, len_iff hsl, hwl, h2, h1, hwi, ↓atS_all Hd.len (by omega) hsl hxr, Hd.cs]
    exact hput _
/-! ### the others -/
theorem bytes_iff {B b : Nat} {v : Value} {l : List Hd} {most : Nat} (hT : Tab B b σ v l most) (hk : 2 ≤ k) : wpA (callN Try.prog k 38 [ptr b]) σ Q ↔ Q (.int .i64 (total l : Nat)) σ := by
  rw [callN_at (by omega), R38.eq]
  simp [R38.top, none_iff hT.1 (show 1 ≤ k - 1 by omega), hT.1]
theorem most_iff {B b : Nat} {v : Value} {l : List Hd} {most : Nat} (hT : Tab B b σ v l most) (hk : 2 ≤ k) : wpA (callN Try.prog k 28 [ptr b]) σ Q ↔ Q (.int .i64 (most : Nat)) σ := by
  rw [callN_at (by omega), R28.eq]
  simp [R28.top, none_iff hT.1 (show 1 ≤ k - 1 by omega), hT.1]
def resL (l : List Hd) (most : Nat) (m : Int) : List Hd × Nat := if 0 ≤ m ∧ m ≤ 65536 then (fallL l m, m.toNat) else (l, most)
def resE (m : Int) : Int := if 0 ≤ m ∧ m ≤ 65536 then 0 else 1
theorem TOk.res {l : List Hd} {most : Nat} (h : TOk l most) (m : Int) : TOk (resL l most m).1 (resL l most m).2 := by
  unfold resL
  split
  · rename_i hm
    obtain ⟨a, rfl⟩ : ∃ a : Nat, m = a := ⟨m.toNat, by omega⟩
    exact h.fall (by omega)
  · exact h
theorem resize_spec {B b : Nat} {v : Value} {l : List Hd} {most : Nat} {m : Int} (hT : Tab B b σ v l most) (hbB : b < B) (hB : B ≤ σ.next) (ok : TOk l most) (hk : 7000 ≤ k)
    (hq : ∀ v' τ, Tab B b τ v' (resL l most m).1 (resL l most m).2 → Fr b v v' σ τ → Q (.int .i64 (resE m)) τ) : wpA (callN Try.prog k 16 [ptr b, .int .i64 m]) σ Q := by
  rw [callN_at (by omega), R16.eq]
  have hbig : 6999 ≤ k - 1 := by omega
  generalize hk1 : k - 1 = k1 at hbig
  have hle := ok.le
  have hby := ok.bytes
  have hb := hT.1
  by_cases hm : 0 ≤ m ∧ m ≤ 65536
  · have e1 : resL l most m = (fallL l m, m.toNat) := by unfold resL; rw [if_pos hm]
    have e2 : resE m = 0 := by unfold resE; rw [if_pos hm]
    rw [e1, e2] at hq
    simp [R16.top, none_iff hT.1 (show 1 ≤ k1 by omega), may_iff (show 1 ≤ k1 by omega), hm, hb]
    refine (fall_spec (v := v) (l := l) (m := m) (by simp) (own_still hT.2 (by simp) fun c h1 h2 => ?_) hbB (by simpa using hB) (by omega) (by omega)).mono ?_
    · have c1 : ¬ c = b := by omega
      simp [c1]
    · rintro _ τ ⟨rfl, v', h1, h2, h3⟩
      have hmm : ((m.toNat : Nat) : Int) = m := by omega
      refine hq v' τ ⟨by simp only [hmm]; exact h1, h2⟩ ⟨by simpa using h3.1, fun c c1 c2 c3 => ?_, fun c hc => by simpa using h3.2.2 c hc⟩
      rw [h3.2.1 c (by simpa using c1) c2 c3]
      simp [c2]
  · have e1 : resL l most m = (l, most) := by unfold resL; rw [if_neg hm]
    have e2 : resE m = 1 := by unfold resE; rw [if_neg hm]
    rw [e1, e2] at hq
    simp [R16.top, none_iff hT.1 (show 1 ≤ k1 by omega), may_iff (show 1 ≤ k1 by omega), hm, hb]
    exact hq v σ hT (ext_fr (Ext.refl σ))
theorem rresize_spec {B b : Nat} {v : Value} {l : List Hd} {most : Nat} {m : Int} (hT : RTab B b σ v l most) (hbB : b < B) (hB : B ≤ σ.next) (ok : TOk l most) (hk : 7000 ≤ k)
    (hq : ∀ v' τ, RTab B b τ v' (resL l most m).1 (resL l most m).2 → Fr b v v' σ τ → Q (.int .i64 (resE m)) τ) : wpA (callN Try.prog k 17 [ptr b, .int .i64 m]) σ Q := by
  rw [callN_at (by omega), R17.eq]
  have hbig : 6999 ≤ k - 1 := by omega
  generalize hk1 : k - 1 = k1 at hbig
  have hle := ok.le
  have hby := ok.bytes
  have hb := hT.1
  by_cases h0 : m < 0
  · have e1 : resL l most m = (l, most) := by unfold resL; rw [if_neg (by omega)]
    have e2 : resE m = 1 := by unfold resE; rw [if_neg (by omega)]
    rw [e1, e2] at hq
    simp [R17.g_17, R17.top, h0]
    exact hq v σ hT (ext_fr (Ext.refl σ))
  by_cases h6 : 65536 < m
  · have e1 : resL l most m = (l, most) := by unfold resL; rw [if_neg (by omega)]
    have e2 : resE m = 1 := by unfold resE; rw [if_neg (by omega)]
    rw [e1, e2] at hq
    simp [R17.g_17, R17.top, h0, h6]
    exact hq v σ hT (ext_fr (Ext.refl σ))
  · have hm : 0 ≤ m ∧ m ≤ 65536 := by omega
    have e1 : resL l most m = (fallL l m, m.toNat) := by unfold resL; rw [if_pos hm]
    have e2 : resE m = 0 := by unfold resE; rw [if_pos hm]
    rw [e1, e2] at hq
    obtain ⟨a, rfl⟩ : ∃ a : Nat, m = a := ⟨m.toNat, by omega⟩
    simp [R17.g_17, R17.top, h0, h6, hb]
    refine (rfall_spec (n := 0) (v := v) (l := l) (most := a) ⟨by simp, own_still hT.2 (by simp) fun c h1 h2 => ?_⟩ hbB (by simpa using hB) (by omega) (by omega) (by omega) (by omega)).mono ?_
    · have c1 : ¬ c = b := by omega
      simp [c1]
    · rintro _ τ ⟨rfl, v', h1, h3⟩
      have hz : (a : Int) - ((0 : Nat) : Int) = (a : Int) := by omega
      rw [hz] at h1
      refine hq v' τ h1 ⟨by simpa using h3.1, fun c c1 c2 c3 => ?_, fun c hc => by simpa using h3.2.2 c hc⟩
      rw [h3.2.1 c (by simpa using c1) c2 c3]
      simp [c2]
theorem new_iff {m : Int} (hk : 2 ≤ k) (hm : 0 ≤ m ∧ m ≤ 65536) : wpA (callN Try.prog k 13 [.int .i64 m]) σ Q ↔ Q (.tuple #[ptr σ.next, .int .i64 0]) (σ.push (.cells [.bool true, .slice none 0 0, .int .i64 m, .int .i64 0] 64 false)) := by
  rw [callN_at (by omega), R13.eq]
  simp [R13.top, may_iff (show 1 ≤ k - 1 by omega), hm]
theorem new_not {m : Int} (hk : 2 ≤ k) (hm : ¬ (0 ≤ m ∧ m ≤ 65536)) : wpA (callN Try.prog k 13 [.int .i64 m]) σ Q ↔ Q (.tuple #[.pointer none, .int .i64 1]) σ := by
  rw [callN_at (by omega), R13.eq]
  simp [R13.top, may_iff (show 1 ≤ k - 1 by omega), hm]
theorem rnew_iff {m : Int} (hk : 2 ≤ k) (hm : 0 ≤ m ∧ m ≤ 65536) : wpA (callN Try.prog k 14 [.int .i64 m]) σ Q ↔ Q (.tuple #[ptr σ.next, .int .i64 0]) (σ.push (.cells [.int .i64 m, .slice none 0 0] 60 false)) := by
  rw [callN_at (by omega), R14.eq]
  have h0 : ¬ m < 0 := by omega
  have h6 : ¬ 65536 < m := by omega
  simp [R14.g_17, R14.top, h0, h6]
theorem rnew_not {m : Int} (hk : 2 ≤ k) (hm : ¬ (0 ≤ m ∧ m ≤ 65536)) : wpA (callN Try.prog k 14 [.int .i64 m]) σ Q ↔ Q (.tuple #[.pointer none, .int .i64 1]) σ := by
  rw [callN_at (by omega), R14.eq]
  by_cases h0 : m < 0
  · simp [R14.g_17, R14.top, h0]
  · have h6 : 65536 < m := by omega
    simp [R14.g_17, R14.top, h0, h6]
end
end Go.Proofs.Ytjmafbiklebjcaa

namespace Go.Proofs.Ytjmafbiklebjcaa
open Go.Proofs.Ytjmafbiklebjcaa.Eng
def findA : List Hd → Nat → Nat → Hd → Nat × Bool
  | [], _, named, _ => (named, false)
  | x :: xs, i, named, h => if x.name = h.name ∧ x.value = h.value then (i, true) else findA xs (i + 1) (if named = 0 ∧ x.name = h.name then i else named) h
def allL (l : List Hd) : List Hd := statT ++ l.reverse
theorem allL_len (l : List Hd) : (allL l).length = 61 + l.length := by unfold allL; rw [List.length_append, statT_len, List.length_reverse]
def findH (l : List Hd) (h : Hd) : Nat × Bool := findA (allL l) 1 0 h
theorem statT_flat : ∀ x ∈ statT, x.secret = false := by
  intro x hx
  obtain ⟨l, _, rfl⟩ := List.mem_map.1 hx
  rfl
theorem allL_flat {l : List Hd} {most : Nat} (ok : TOk l most) : ∀ x ∈ allL l, x.secret = false := by
  intro x hx
  rcases List.mem_append.1 hx with h | h
  · exact statT_flat x h
  · exact ok.flat x (List.mem_reverse.1 h)
theorem getV_all {l : List Hd} {g : Nat} {x : Hd} (hx : (allL l)[g]? = some x) : getV l ((g + 1 : Nat) : Int) = .tuple #[.agg x.cs.toArray, .int .i64 0] := by
  have hl := allL_len l
  have hg : g < 61 + l.length := by have := (List.getElem?_eq_some_iff.1 hx).1; omega
  have hs := statT_len
  unfold allL at hx
  by_cases h61 : g < 61
  · rw [List.getElem?_append_left (by omega)] at hx
    rw [getV_static (by omega)]
    unfold staticV staticH
    rw [if_pos (by omega), show (((g + 1 : Nat) : Int) - 1).toNat = g by omega, hx]
    rfl
  · rw [List.getElem?_append_right (by omega), List.getElem?_reverse (by omega)] at hx
    exact getV_at (i := l.length - 1 - (g - statT.length)) (by omega) (by omega) (by omega) hx
theorem same_plain {x h : Hd} (hx : x.secret = false) : x.same (plain h) = (decide (x.name = h.name) && decide (x.value = h.value)) := by
  by_cases h1 : x.name = h.name <;> by_cases h2 : x.value = h.value <;> simp [Hd.same, plain, hx, h1, h2]
theorem findA_hit {x : Hd} {xs : List Hd} {i named : Nat} {h : Hd} (h1 : x.name = h.name ∧ x.value = h.value) : findA (x :: xs) i named h = (i, true) := by rw [findA, if_pos h1]
theorem findA_miss {x : Hd} {xs : List Hd} {i named : Nat} {h : Hd} (h1 : ¬ (x.name = h.name ∧ x.value = h.value)) : findA (x :: xs) i named h = findA xs (i + 1) (if named = 0 ∧ x.name = h.name then i else named) h := by rw [findA, if_neg h1]
section
variable {σ : AW} {k : Nat} {Q : Value → AW → Prop}
theorem see_spec {N X idx named : Nat} {x h : Hd} (hN : σ.get N = some (.cells [.int .i64 named] 3 false)) (hX : σ.get X = some (.cells [Tx h.name, Tx h.value, .bool false] 56 false)) (hne : ¬ N = X) (hNl : N < σ.next) (hXl : X < σ.next) (hx : x.secret = false) (hk : 1 ≤ k) :
    wpA (callN Try.prog k 40 [.agg x.cs.toArray, .int .i64 idx, ptr N, ptr X]) σ fun r τ => r = .bool (decide (x.name = h.name ∧ x.value = h.value)) ∧ τ.get N = some (.cells [.int .i64 ((if named = 0 ∧ x.name = h.name then idx else named : Nat) : Int)] 3 false) ∧ σ.next ≤ τ.next ∧ ∀ c, c < σ.next → c ≠ N → τ.get c = σ.get c := by
  rw [callN_at hk, R40.eq]
  have n1 : ¬ N = σ.next := by omega
  have n2 : ¬ X = σ.next := by omega
  have n3 : ¬ σ.next = N := by omega
  have n4 : ¬ X = N := fun e => hne e.symm
  have e1 : x.same ⟨h.name, h.value, false⟩ = decide (x.name = h.name ∧ x.value = h.value) := by
    have := same_plain (h := h) hx
    rw [show (⟨h.name, h.value, false⟩ : Hd) = plain h from rfl, this, Bool.decide_and]
  have hgo : ∀ c, c < σ.next → ¬ c = σ.next := fun c hc => by omega
  by_cases h0 : named = 0
  · subst h0
    by_cases hn : x.name = h.name
    · simp [R40.j_6, R40.g_15, R40.top, Hd.cs, n1, n2, n3, n4, hne, hN, hX, eqStr_iff, hn, hd_eqlE]
      rw [show (⟨h.name, x.value, x.secret⟩ : Hd) = x by rw [← hn], e1]
      simp [hn]
      intro c hc hcn
      have := hgo c hc
      simp [this, hcn]
    · simp [R40.j_6, R40.g_15, R40.top, Hd.cs, n1, n2, n3, n4, hne, hN, hX, eqStr_iff, hn, hd_eqlE]
      rw [show (⟨x.name, x.value, x.secret⟩ : Hd) = x from rfl, e1]
      simp [hn]
      intro c hc hcn e
      exact absurd e (hgo c hc)
  · have h0' : ¬ (named : Int) = 0 := by omega
    simp [R40.j_6, R40.g_15, R40.top, Hd.cs, n1, n2, n3, n4, hne, hN, hX, eqStr_iff, h0, h0', hd_eqlE]
    rw [show (⟨x.name, x.value, x.secret⟩ : Hd) = x from rfl, e1]
    simp
    intro c hc hcn e
    exact absurd e (hgo c hc)
theorem wpA_callB {call : FuncId → List Value → AM Value} {f : FuncId} {a b : Value} {args : List Value} : wpA (callA call (.func (.func f) #[] #[a, b]) args) σ Q ↔ wpA (call f (args ++ [a, b])) σ Q := by
  show wpA (call f ([] ++ args ++ [a, b])) σ Q ↔ _
  simp only [List.nil_append]
theorem find_spec {B b : Nat} {v : Value} {l : List Hd} {most : Nat} {h : Hd} (hT : Tab B b σ v l most) (hbB : b < B) (hB : B ≤ σ.next) (ok : TOk l most) (hk : 5000 ≤ k) :
    wpA (callN Try.prog k 30 [ptr b, .agg h.cs.toArray]) σ fun r τ => Ext σ τ ∧ r = .tuple #[.int .i64 ((findH l h).1 : Nat), .bool (findH l h).2] := by
  rw [callN_at (by omega), R30.eq]
  have hbig : 4999 ≤ k - 1 := by omega
  generalize hk1 : k - 1 = k1 at hbig
  have hbne : ¬ b = σ.next := by omega
  have hl2 := ok.len
  have hal := allL_len l
  have hst := statT_len
  simp [R30.top, Hd.cs]
  rw [none_iff (v := v) (m := .int .i64 (most : Nat)) (n := .int .i64 (total l : Nat)) (by simp [hbne]; exact hT.1) (by omega)]
  have z1 : ¬ σ.next = σ.next + 1 := by omega
  simp [z1]
  generalize hP : (((σ.push (.cells [Tx h.name, Tx h.value, .bool h.secret] 56 false)).put σ.next (some (.cells [Tx h.name, Tx h.value, .bool false] 56 false))).push (.cells [.int .i64 0] 3 false)).put (σ.next + 1) (some (.cells [.int .i64 0] 3 false)) = P
  have hPx : P.get σ.next = some (.cells [Tx h.name, Tx h.value, .bool false] 56 false) := by rw [← hP]; simp [z1]
  have hPm : P.get (σ.next + 1) = some (.cells [.int .i64 0] 3 false) := by rw [← hP]; simp
  have hPn : P.next = σ.next + 2 := by rw [← hP]; simp
  have hPe : Ext σ P := by rw [← hP]; exact (((((Ext.push σ _).kept (Nat.le_refl _)).put (Nat.le_refl _) _).push (by simp) _).put (by omega) _)
  clear hP
  refine (lines_spec (by omega)).mono ?_
  rintro w τ ⟨he, ow⟩
  have hen := he.1
  have hw := ow.sl
  simp [len_iff hw]
  have z2 : ¬ σ.next + 1 = σ.next := by omega
  -- the second loop
  have second : ∀ (υ : AW) (named : Nat), τ.next ≤ υ.next → (∀ c, c < τ.next → c ≠ σ.next + 1 → υ.get c = τ.get c) → υ.get (σ.next + 1) = some (.cells [.int .i64 named] 3 false) → findA ((allL l).drop 61) 62 named h = findH l h →
      wpA (loop1 (R30.b_49 (callN Try.prog k1) k1 (ptr b) (.int .i64 (l.length : Nat)) (ptr (σ.next + 1)) (.func (.func 40) #[] #[ptr (σ.next + 1), ptr σ.next])) k1 (.int .i64 0)) υ fun r τ => Ext σ τ ∧ r = .tuple #[.int .i64 ((findH l h).1 : Nat), .bool (findH l h).2] := by
    intro υ named hn hc hN hf
    refine aw_loop1 (fun r x υ => ∃ i named : Nat, x = .int .i64 i ∧ i ≤ l.length ∧ r = l.length - i ∧ τ.next ≤ υ.next ∧ (∀ c, c < τ.next → c ≠ σ.next + 1 → υ.get c = τ.get c) ∧ υ.get (σ.next + 1) = some (.cells [.int .i64 named] 3 false) ∧ findA ((allL l).drop (61 + i)) (62 + i) named h = findH l h) ?_ k1 l.length _ υ ⟨0, named, rfl, by omega, rfl, hn, hc, hN, hf⟩ (by omega)
    rintro r rec x υ ⟨i, named, rfl, hi, rfl, hn, hc, hN, hf⟩ hrec
    have eυ : Ext σ υ := ⟨by have := hPe.1; omega, fun c h1 => by rw [hc c (by omega) (by omega), he.2 c (by omega)]; exact hPe.2 c h1⟩
    have hTU := hT.ext (by omega) eυ
    have hsl := hTU.2.sl
    have hXU : υ.get σ.next = some (.cells [Tx h.name, Tx h.value, .bool false] 56 false) := by rw [hc _ (by omega) z1, he.2 _ (by omega)]; exact hPx
    by_cases hlt : i < l.length
    · obtain ⟨x, hx⟩ : ∃ x, l[l.length - 1 - i]? = some x := ⟨_, List.getElem?_eq_getElem (by omega)⟩
      have hxa : (allL l)[61 + i]? = some x := by
        unfold allL
        rw [List.getElem?_append_right (by omega), hst, List.getElem?_reverse (by omega), show l.length - 1 - (61 + i - 61) = l.length - 1 - i by omega]
        exact hx
      have hdr : (allL l).drop (61 + i) = x :: (allL l).drop (61 + (i + 1)) := by
        obtain ⟨h1, h2⟩ := List.getElem?_eq_some_iff.1 hxa
        rw [List.drop_eq_getElem_cons h1, h2]
        rfl
      have hxs := ok.flat x (List.mem_of_getElem? hx)
      have hw1 : IntKind.i64.wrap ((l.length : Int) - 1) = (l.length : Int) - 1 := wrap64 (by omega) (by omega)
      have hw2 : IntKind.i64.wrap ((l.length : Int) - 1 - (i : Int)) = ((l.length - 1 - i : Nat) : Int) := by rw [wrap64 (by omega) (by omega)]; omega
      have hw3 : IntKind.i64.wrap (62 + (i : Int)) = ((62 + i : Nat) : Int) := wrap64 (by omega) (by omega)
      have hwi : IntKind.i64.wrap ((i : Int) + 1) = ((i + 1 : Nat) : Int) := wrap64 (by omega) (by omega)
      simp [R30.b_49, hTU.1, hlt, len_iff hsl, hw1, hw2, hw3, ↓atS_all Hd.len (by omega) hsl hx, wpA_callB, -Int.natCast_add]
      refine (see_spec hN hXU z2 (by omega) (by omega) hxs (by omega)).mono ?_
      rintro _ υ2 ⟨rfl, h1, h2, h3⟩
      rw [hdr] at hf
      by_cases hit : x.name = h.name ∧ x.value = h.value
      · rw [findA_hit hit] at hf
        simp [hit, hw3, ← hf, -Int.natCast_add]
        exact ⟨by have := eυ.1; omega, fun c hc => by rw [h3 c (by omega) (by omega)]; exact eυ.2 c hc⟩
      · rw [findA_miss hit] at hf
        simp only [decide_eq_false hit]
        simp [hwi, -Int.natCast_add]
        refine hrec (l.length - (i + 1)) _ _ (by omega) ⟨i + 1, _, rfl, by omega, rfl, by omega, fun c c1 c2 => ?_, h1, hf⟩
        rw [h3 c (by omega) c2]
        exact hc c c1 c2
    · have e : i = l.length := by omega
      subst e
      rw [List.drop_of_length_le (by omega)] at hf
      simp [R30.b_49, hN, ← hf, findA]
      exact eυ
  refine aw_loop1 (fun r x υ => ∃ i named : Nat, x = .int .i64 i ∧ i ≤ 61 ∧ r = 61 - i ∧ τ.next ≤ υ.next ∧ (∀ c, c < τ.next → c ≠ σ.next + 1 → υ.get c = τ.get c) ∧ υ.get (σ.next + 1) = some (.cells [.int .i64 named] 3 false) ∧ findA ((allL l).drop i) (i + 1) named h = findH l h) ?_ k1 61 _ τ ⟨0, 0, rfl, by omega, rfl, Nat.le_refl _, fun _ _ _ => rfl, by rw [he.2 _ (by omega)]; exact hPm, rfl⟩ (by omega)
  rintro r rec x υ ⟨i, named, rfl, hi, rfl, hn, hc, hN, hf⟩ hrec
  have eυ : Ext σ υ := ⟨by have := hPe.1; omega, fun c h1 => by rw [hc c (by omega) (by omega), he.2 c (by omega)]; exact hPe.2 c h1⟩
  have hTU := hT.ext (by omega) eυ
  have hwU : Sl υ w 3 61 (statT.flatMap Hd.cs) := by
    have : Own P.next υ w 56 3 61 (statT.flatMap Hd.cs) := own_still ow hn fun c h1 h2 => hc c h2 (by omega)
    exact this.sl
  have hXU : υ.get σ.next = some (.cells [Tx h.name, Tx h.value, .bool false] 56 false) := by rw [hc _ (by omega) z1, he.2 _ (by omega)]; exact hPx
  by_cases hlt : i < 61
  · have hlt' : (i : Int) < 61 := by omega
    obtain ⟨x, hx⟩ : ∃ x, statT[i]? = some x := ⟨_, List.getElem?_eq_getElem (by omega)⟩
    have hxa : (allL l)[i]? = some x := by
      unfold allL
      rw [List.getElem?_append_left (by omega)]
      exact hx
    have hdr : (allL l).drop i = x :: (allL l).drop (i + 1) := by
      obtain ⟨h1, h2⟩ := List.getElem?_eq_some_iff.1 hxa
      rw [List.drop_eq_getElem_cons h1, h2]
    have hxs := statT_flat x (List.mem_of_getElem? hx)
    have hwi : IntKind.i64.wrap ((i : Int) + 1) = ((i + 1 : Nat) : Int) := wrap64 (by omega) (by omega)
    have q1 : ¬ σ.next = υ.next := by omega
    have q2 : ¬ σ.next + 1 = υ.next := by omega
    simp [R30.b_75, hlt', ↓atS_all Hd.len (by omega) hwU hx, wpA_callB, hwi, Hd.cs, -Int.natCast_add]
    refine (see_spec (x := x) (by simp [q2]; exact hN) (by simp [q1]; exact hXU) z2 (by simp; omega) (by simp; omega) hxs (by omega)).mono ?_
    rintro _ υ2 ⟨rfl, h1, h2, h3⟩
    simp at h2
    have h3' : ∀ c, c < υ.next → c ≠ σ.next + 1 → υ2.get c = υ.get c := fun c c1 c2 => by
      have c3 : ¬ c = υ.next := by omega
      rw [h3 c (by simp; omega) c2]
      simp [c3]
    rw [hdr] at hf
    by_cases hit : x.name = h.name ∧ x.value = h.value
    · rw [findA_hit hit] at hf
      simp [hit, hwi, ← hf, -Int.natCast_add]
      exact ⟨by have := eυ.1; omega, fun c hc => by rw [h3' c (by omega) (by omega)]; exact eυ.2 c hc⟩
    · rw [findA_miss hit] at hf
      simp only [decide_eq_false hit]
      simp [hwi, -Int.natCast_add]
      refine hrec (61 - (i + 1)) _ _ (by omega) ⟨i + 1, _, rfl, by omega, rfl, by omega, fun c c1 c2 => ?_, h1, hf⟩
      rw [h3' c (by omega) c2]
      exact hc c c1 c2
  · have e : i = 61 := by omega
    subst e
    simp [R30.b_75, hTU.1, len_iff hTU.2.sl]
    exact second υ named hn hc hN hf
theorem rfind_spec {B b : Nat} {v : Value} {l : List Hd} {most : Nat} {h : Hd} (hT : RTab B b σ v l most) (hbB : b < B) (hB : B ≤ σ.next) (ok : TOk l most) (hk : 5000 ≤ k) :
    wpA (callN Try.prog k 35 [ptr b, .agg h.cs.toArray]) σ fun r τ => Ext σ τ ∧ r = .tuple #[.int .i64 ((findH l h).1 : Nat), .bool (findH l h).2] := by
  rw [callN_at (by omega), R35.eq]
  have hbig : 4999 ≤ k - 1 := by omega
  generalize hk1 : k - 1 = k1 at hbig
  have hbne : ¬ b = σ.next := by omega
  have hl2 := ok.len
  have hal := allL_len l
  have hst := statT_len
  simp [R35.top, Hd.cs]
  generalize hP : σ.push (.cells [Tx h.name, Tx h.value, .bool h.secret] 56 false) = P
  have hPx : P.get σ.next = some (.cells [Tx h.name, Tx h.value, .bool h.secret] 56 false) := by rw [← hP]; simp
  have hPn : P.next = σ.next + 1 := by rw [← hP]; simp
  have hPe : Ext σ P := by rw [← hP]; exact Ext.push _ _
  clear hP
  refine aw_loop2 (fun r u x υ => ∃ i named : Nat, u = .int .i64 named ∧ x = .int .i64 ((i + 1 : Nat) : Int) ∧ i ≤ 61 + l.length ∧ r = 61 + l.length - i ∧ Ext P υ ∧ findA ((allL l).drop i) (i + 1) named h = findH l h) ?_ k1 (61 + l.length) _ _ P ⟨0, 0, rfl, rfl, by omega, rfl, Ext.refl _, rfl⟩ (by omega)
  rintro r rec u x υ ⟨i, named, rfl, rfl, hi, rfl, ex, hf⟩ hrec
  have exn := ex.1
  have eυ : Ext σ υ := hPe.trans ex
  have hTU := hT.ext (by omega) eυ
  have hwl : IntKind.i64.wrap (61 + (l.length : Int)) = 61 + (l.length : Int) := wrap64 (by omega) (by omega)
  by_cases hlt : i < 61 + l.length
  · have hle : ((i + 1 : Nat) : Int) ≤ 61 + (l.length : Int) := by omega
    obtain ⟨x, hxa⟩ : ∃ x, (allL l)[i]? = some x := ⟨_, List.getElem?_eq_getElem (by omega)⟩
    have hdr : (allL l).drop i = x :: (allL l).drop (i + 1) := by
      obtain ⟨h1, h2⟩ := List.getElem?_eq_some_iff.1 hxa
      rw [List.drop_eq_getElem_cons h1, h2]
    have hwi : IntKind.i64.wrap (((i + 1 : Nat) : Int) + 1) = ((i + 1 + 1 : Nat) : Int) := wrap64 (by omega) (by omega)
    simp [R35.b_70, hTU.1, len_iff hTU.2.sl, hwl, hle, -Int.natCast_add]
    refine (rget_spec hTU hbB (by omega) hl2 (by omega)).mono ?_
    rintro _ τ ⟨he, rfl⟩
    rw [getV_all hxa]
    have hen := he.1
    have q1 : ¬ σ.next = τ.next := by omega
    have hXT : τ.get σ.next = some (.cells [Tx h.name, Tx h.value, .bool h.secret] 56 false) := by rw [he.2 _ (by omega), ex.2 _ (by omega)]; exact hPx
    have eS : ∀ o, Ext P ((τ.push (.cells [.string ⟨#[]⟩, .string ⟨#[]⟩, .bool false] 56 false)).put τ.next o) := fun o => ((((ex.trans he).trans (Ext.push _ _)).kept (Nat.le_refl _)).put (by omega) _)
    rw [hdr] at hf
    by_cases hit : x.name = h.name ∧ x.value = h.value
    · rw [findA_hit hit] at hf
      simp [R35.g_38, R35.g_55, R35.top, Hd.cs, hXT, q1, eqStr_iff, hit, ← hf, -Int.natCast_add]
      exact hPe.trans (eS _)
    · rw [findA_miss hit] at hf
      by_cases hn : x.name = h.name
      · have hv : ¬ x.value = h.value := fun e => hit ⟨hn, e⟩
        by_cases h0 : named = 0
        · subst h0
          simp [R35.g_38, R35.g_55, R35.top, R35.j_17, Hd.cs, hXT, q1, eqStr_iff, hn, hv, hwi, -Int.natCast_add]
          refine hrec (61 + l.length - (i + 1)) _ _ _ (by omega) ⟨i + 1, i + 1, rfl, rfl, by omega, rfl, eS _, ?_⟩
          simpa [hn] using hf
        · have h0' : ¬ (named : Int) = 0 := by omega
          simp [R35.g_38, R35.g_55, R35.top, R35.j_17, Hd.cs, hXT, q1, eqStr_iff, hn, hv, h0, h0', hwi, -Int.natCast_add]
          refine hrec (61 + l.length - (i + 1)) _ _ _ (by omega) ⟨i + 1, named, rfl, rfl, by omega, rfl, eS _, ?_⟩
          simpa [h0] using hf
      · simp [R35.g_38, R35.g_55, R35.top, R35.j_17, Hd.cs, hXT, q1, eqStr_iff, hn, hwi, -Int.natCast_add]
        refine hrec (61 + l.length - (i + 1)) _ _ _ (by omega) ⟨i + 1, named, rfl, rfl, by omega, rfl, eS _, ?_⟩
        simpa [hn] using hf
  · have e : i = 61 + l.length := by omega
    subst e
    have hle : ¬ ((61 + l.length + 1 : Nat) : Int) ≤ 61 + (l.length : Int) := by omega
    rw [List.drop_of_length_le (by omega)] at hf
    simp [R35.b_70, hTU.1, len_iff hTU.2.sl, hwl, hle, ← hf, findA, -Int.natCast_add]
    exact eυ
end
end Go.Proofs.Ytjmafbiklebjcaa
