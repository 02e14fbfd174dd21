/- Both tables' Add. -/
import Derived.Test.YtedoaofmdlcjeaaTableC
set_option linter.unusedVariables false
set_option linter.unusedSimpArgs false
namespace Go.Proofs.Ytedoaofmdlcjeaa
open Go.Proofs.Ytedoaofmdlcjeaa.Eng
/-- The program's table. -/
def Tab (B b : Nat) (σ : AW) (v : Value) (l : List Hd) (most : Nat) : Prop := σ.get b = some (.cells [.bool true, v, .int .i64 (most : Nat), .int .i64 (total l : Nat)] 59 false) ∧ Own B σ v 23 3 l.length (l.flatMap Hd.cs)
/-- The reference's. -/
def RTab (B b : Nat) (σ : AW) (v : Value) (l : List Hd) (most : Nat) : Prop := σ.get b = some (.cells [.int .i64 (most : Nat), v] 64 false) ∧ Own B σ v 23 3 l.length (l.reverse.flatMap Hd.cs)
theorem Tab.ext {B b : Nat} {σ τ : AW} {v : Value} {l : List Hd} {most : Nat} (h : Tab B b σ v l most) (hb : b < σ.next) (k : Ext σ τ) : Tab B b τ v l most := ⟨by rw [k.2 b hb]; exact h.1, h.2.ext k⟩
theorem RTab.ext {B b : Nat} {σ τ : AW} {v : Value} {l : List Hd} {most : Nat} (h : RTab B b σ v l most) (hb : b < σ.next) (k : Ext σ τ) : RTab B b τ v l most := ⟨by rw [k.2 b hb]; exact h.1, h.2.ext k⟩
theorem own_val {B : Nat} {σ : AW} {v : Value} {e : TypeId} {z n : Nat} {vs : List Value} (h : Own B σ v e z n vs) : v.cells = #[v] ∧ isCell v = true := by
  obtain ⟨a, c, rfl⟩ := h.sl.form
  exact ⟨rfl, rfl⟩
section
variable {σ : AW} {k : Nat} {Q : Value → AW → Prop}
theorem rbytes_spec {b : Nat} {v : Value} {l : List Hd} {m : Value} (hb : σ.get b = some (.cells [m, v] 64 false)) (hbn : b < σ.next) (hv : Sl σ v 3 l.length (l.flatMap Hd.cs)) (ht : total l ≤ 65536) (hk : 5000 ≤ k) :
    wpA (callN Try.prog k 36 [ptr b]) σ fun r τ => Ext σ τ ∧ r = .int .i64 (total l : Nat) := by
  rw [callN_at (by omega), R36.eq]
  have hbig : 4999 ≤ k - 1 := by omega
  generalize hk1 : k - 1 = k1 at hbig
  have hlen := total_len l
  simp [R36.top]
  refine aw_loop2 (fun r u x υ => ∃ i : Nat, u = .int .i64 (total (l.take i) : Nat) ∧ x = .int .i64 i ∧ i ≤ l.length ∧ r = l.length - i ∧ Ext σ υ) ?_ k1 l.length _ _ σ ⟨0, rfl, rfl, by omega, rfl, Ext.refl _⟩ (by omega)
  rintro r rec u x υ ⟨i, rfl, rfl, hi, rfl, ex⟩ hrec
  have hbU : υ.get b = some (.cells [m, v] 64 false) := by rw [ex.2 b hbn]; exact hb
  have hsl := hv.ext ex
  by_cases hlt : i < l.length
  · obtain ⟨h, hh⟩ : ∃ h, l[i]? = some h := ⟨_, List.getElem?_eq_getElem hlt⟩
    have htk : l.take (i + 1) = l.take i ++ [h] := by rw [List.take_add_one, hh]; rfl
    have h1 := total_app (l.take i) [h]
    have h2 : total [h] = hsize h := by simp [total]
    have h3 := total_app (l.take (i + 1)) (l.drop (i + 1))
    rw [List.take_append_drop] at h3
    rw [← htk] at h1
    have hws : IntKind.i64.wrap ((total (l.take i) : Int) + (hsize h : Int)) = ((total (l.take (i + 1)) : Nat) : Int) := by rw [wrap64 (by omega) (by omega)]; omega
    have hwi : IntKind.i64.wrap ((i : Int) + 1) = ((i + 1 : Nat) : Int) := wrap64 (by omega) (by omega)
    simp [R36.b_34, hbU, len_iff hsl, hlt, ↓atS_all Hd.len (by omega) hsl hh, -Int.natCast_add]
    refine (rsize_spec' (by omega) (by omega)).mono ?_
    rintro w τ ⟨he, rfl⟩
    simp [hws, hwi, -Int.natCast_add]
    exact hrec (l.length - (i + 1)) _ _ _ (by omega) ⟨i + 1, rfl, rfl, by omega, rfl, ex.trans he⟩
  · have e : i = l.length := by omega
    subst e
    simp [R36.b_34, hbU, len_iff hsl, -Int.natCast_add]
    exact ex
theorem rfall_spec {B b : Nat} {v : Value} {l : List Hd} {most n : Nat} (hT : RTab B b σ v l most) (hbB : b < B) (hB : B ≤ σ.next) (ht : total l ≤ 65536) (hm : most ≤ 65536) (hn : n ≤ 16777216) (hk : 6000 ≤ k) :
    wpA (callN Try.prog k 39 [ptr b, .int .i64 n]) σ fun r τ => r = .tuple #[] ∧ ∃ v', RTab B b τ v' (fallL l ((most : Int) - n)) most ∧ Fr b v v' σ τ := by
  rw [callN_at (by omega), R39.eq]
  have hbig : 5999 ≤ k - 1 := by omega
  generalize hk1 : k - 1 = k1 at hbig
  have hlen := total_len l
  simp [R39.top]
  refine aw_loop0 (fun r υ => ∃ (j : Nat) (w : Value), j ≤ l.length ∧ r = l.length - j ∧ RTab B b υ w (l.drop j) most ∧ Fr b v w σ υ ∧ fallL (l.drop j) ((most : Int) - n) = fallL l ((most : Int) - n)) ?_ k1 l.length σ ⟨0, v, by omega, rfl, by simpa using hT, ext_fr (Ext.refl σ), rfl⟩ (by omega)
  rintro r rec υ ⟨j, w, hj, rfl, ⟨hbU, ownU⟩, hfr, hf⟩ hrec
  have hfn := hfr.1
  have hsl := ownU.sl
  have hdl : (l.drop j).length = l.length - j := List.length_drop
  have done : fallL (l.drop j) ((most : Int) - n) = l.drop j → ∀ υ', Ext υ υ' → ∃ v', RTab B b υ' v' (fallL l ((most : Int) - n)) most ∧ Fr b v v' σ υ' := by
    intro hd υ' ex
    rw [hf] at hd
    rw [hd]
    exact ⟨w, RTab.ext ⟨hbU, ownU⟩ (by omega) ex, hfr.trans (ext_fr ex)⟩
  by_cases hlt : j < l.length
  · obtain ⟨h, hh⟩ : ∃ h, l[j]? = some h := ⟨_, List.getElem?_eq_getElem hlt⟩
    have hdr : l.drop j = h :: l.drop (j + 1) := by
      obtain ⟨h1, h2⟩ := List.getElem?_eq_some_iff.1 hh
      rw [List.drop_eq_getElem_cons h1, h2]
    have htl : total (l.drop j) ≤ total l := by
      have := congrArg total (List.take_append_drop j l)
      rw [total_app] at this
      omega
    have hpos : (0 : Int) < ((l.drop j).length : Int) := by omega
    have hpos' : 0 < (l.drop j).length := by omega
    have hwt : IntKind.i64.wrap ((total (l.drop j) : Int) + (n : Int)) = ((total (l.drop j) + n : Nat) : Int) := wrap64 (by omega) (by omega)
    have hrb := fun (k : Nat) (hk : 5000 ≤ k) => rbytes_spec (σ := υ) (k := k) (b := b) (v := w) (l := (l.drop j).reverse) (m := .int .i64 (most : Nat)) hbU (by omega) (by rw [List.length_reverse]; exact hsl) (by rw [total_rev]; omega) hk
    rw [total_rev] at hrb
    have hne : ¬ l.length ≤ j := by omega
    simp [R39.b_40, hbU, len_iff hsl, hlt, hpos, hpos', hne, -List.length_drop]
    refine (hrb k1 (by omega)).mono ?_
    rintro u τ ⟨he, rfl⟩
    have hen := he.1
    have hbT : τ.get b = some (.cells [.int .i64 (most : Nat), w] 64 false) := by rw [he.2 b (by omega)]; exact hbU
    have ownT := ownU.ext he
    by_cases hgt : most < total (l.drop j) + n
    · have hgt' : (most : Int) < ((total (l.drop j) + n : Nat) : Int) := by omega
      have hwl : IntKind.i64.wrap (((l.drop j).length : Int) - 1) = (((l.drop j).length - 1 : Nat) : Int) := by rw [wrap64 (by omega) (by omega)]; omega
      simp [there_iff, hbT, hbU, hwt, hgt, hgt', R39.d_20, len_iff ownT.sl, hwl, -Int.natCast_add, -List.length_drop]
      refine own_prefix ownT (by omega) fun v' ow hin => ?_
      have hvc := own_val ow
      have e : (((l.drop j).reverse.flatMap Hd.cs).take (((l.drop j).length - 1) * 3)) = (l.drop (j + 1)).reverse.flatMap Hd.cs := by
        rw [take_flatMap Hd.len, hdr]
        simp
      rw [e] at ow
      simp [hbT, hvc.1, hvc.2]
      refine hrec (l.length - (j + 1)) _ (by omega) ⟨j + 1, v', by omega, rfl, ⟨by simp, ?_⟩, ?_, ?_⟩
      · have e2 : (l.drop (j + 1)).length = (l.drop j).length - 1 := by rw [List.length_drop, List.length_drop]; omega
        rw [e2]
        refine own_still ow (by simp) fun c h1 h2 => ?_
        have c1 : ¬ c = b := by omega
        simp [c1]
      · refine hfr.trans ⟨by simp; omega, fun c h1 h2 h3 => ?_, fun c h1 => .inl (hin c h1)⟩
        simp [h2]
        exact he.2 c h1
      · rw [← hf, hdr, fallL, ← hdr, if_pos (by omega)]
    · have hgt' : ¬ (most : Int) < ((total (l.drop j) + n : Nat) : Int) := by omega
      simp [there_iff, hbT, hbU, hwt, hgt, hgt', R39.d_20, -Int.natCast_add, -List.length_drop]
      exact done (fall_same _ _ (by omega)) τ he
  · have e : j = l.length := by omega
    subst e
    have h0 : l.drop l.length = [] := by simp
    have hz : ¬ (0 : Int) < ((l.drop l.length).length : Int) := by rw [h0]; simp
    simp [R39.b_40, hbU, len_iff hsl, R39.d_20]
    exact done (by rw [h0]; rfl) υ (Ext.refl _)
end
end Go.Proofs.Ytedoaofmdlcjeaa
