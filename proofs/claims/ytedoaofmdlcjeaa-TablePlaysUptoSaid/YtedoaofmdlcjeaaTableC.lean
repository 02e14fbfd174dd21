/- How the oldest fall. -/
import Derived.Test.YtedoaofmdlcjeaaTableB
set_option linter.unusedVariables false
set_option linter.unusedSimpArgs false
namespace Go.Proofs.Ytedoaofmdlcjeaa
open Go.Proofs.Ytedoaofmdlcjeaa.Eng
theorem cs_ok (l : List Hd) : (l.flatMap Hd.cs).all isCell = true := by
  refine List.all_eq_true.2 fun v hv => ?_
  obtain ⟨h, _, hv⟩ := List.mem_flatMap.1 hv
  simp only [Hd.cs, List.mem_cons, List.not_mem_nil, or_false] at hv
  rcases hv with rfl | rfl | rfl <;> rfl
theorem cs_len (l : List Hd) : (l.flatMap Hd.cs).length = l.length * 3 := length_flatMap Hd.len l
theorem own_sl_ne {B : Nat} {σ : AW} {v : Value} {e : TypeId} {z n : Nat} {vs : List Value} (h : Own B σ v e z n vs) {c : Nat} (hc : c < B) : ¬ InBlk v c := by
  rintro ⟨o, s, m, c', rfl⟩
  obtain ⟨_, ⟨h, _⟩ | ⟨b, c', ws, h, _, h1, _⟩⟩ := h
  · cases h
  · injection h with h; injection h with h; injection h with h; omega
theorem own_new_lt {B : Nat} {σ : AW} {v : Value} {e : TypeId} {z n : Nat} {vs : List Value} (h : Own B σ v e z n vs) {c : Nat} (hc : InBlk v c) : c < σ.next := by
  obtain ⟨o, s, m, c', rfl⟩ := hc
  obtain ⟨_, ⟨h, _⟩ | ⟨b, c', ws, h, _, h1, h2, _⟩⟩ := h
  · cases h
  · injection h with h; injection h with h; injection h with h; omega
section
variable {σ : AW} {k : Nat} {Q : Value → AW → Prop}
theorem size_spec' {h : Hd} (hs : hsize h ≤ 16777216) (hk : 1 ≤ k) : wpA (callN Try.prog k 12 [.agg h.cs.toArray]) σ fun v τ => Ext σ τ ∧ v = .int .i64 (hsize h : Nat) := by
  refine (size_spec hk).mono ?_
  rintro v τ ⟨he, rfl⟩
  refine ⟨he, ?_⟩
  unfold hsize at *
  rw [wrap64 (n := (h.name.length : Int) + (h.value.length : Int)) (by omega) (by omega), wrap64 (by omega) (by omega)]
  rfl
theorem rsize_spec' {h : Hd} (hs : hsize h ≤ 16777216) (hk : 1 ≤ k) : wpA (callN Try.prog k 13 [.agg h.cs.toArray]) σ fun v τ => Ext σ τ ∧ v = .int .i64 (hsize h : Nat) := by
  refine (rsize_spec hk).mono ?_
  rintro v τ ⟨he, rfl⟩
  refine ⟨he, ?_⟩
  unfold hsize at *
  rw [wrap64 (n := (h.name.length : Int) + (h.value.length : Int)) (by omega) (by omega), wrap64 (by omega) (by omega)]
  rfl
theorem fall_spec {B b : Nat} {v : Value} {l : List Hd} {left m : Int} (hb : σ.get b = some (.cells [.bool true, v, .int .i64 m, .int .i64 (total l : Nat)] 59 false)) (own : Own B σ v 23 3 l.length (l.flatMap Hd.cs)) (hbB : b < B) (hB : B ≤ σ.next) (ht : total l ≤ 65536) (hk : 5000 ≤ k) :
    wpA (callN Try.prog k 30 [ptr b, .int .i64 left]) σ fun r τ => r = .tuple #[] ∧ ∃ v', τ.get b = some (.cells [.bool true, v', .int .i64 m, .int .i64 (total (fallL l left) : Nat)] 59 false) ∧ Own B τ v' 23 3 (fallL l left).length ((fallL l left).flatMap Hd.cs) ∧ Fr b v v' σ τ := by
  rw [callN_at (by omega), R30.eq]
  have hbig : 4999 ≤ k - 1 := by omega
  generalize hk1 : k - 1 = k1 at hbig
  have hlen := total_len l
  simp [R30.top]
  refine aw_loop1 (fun r x υ => ∃ i : Nat, x = .int .i64 i ∧ i ≤ l.length ∧ r = l.length - i ∧ υ.get b = some (.cells [.bool true, v, .int .i64 m, .int .i64 (total (l.drop i) : Nat)] 59 false) ∧ σ.next ≤ υ.next ∧ (∀ c, c < σ.next → c ≠ b → υ.get c = σ.get c) ∧ fallL (l.drop i) left = fallL l left) ?_ k1 l.length _ σ ⟨0, rfl, by omega, rfl, by simpa using hb, Nat.le_refl _, fun _ _ _ => rfl, rfl⟩ (by omega)
  rintro r rec x υ ⟨i, rfl, hi, rfl, hbU, hn, hσ, hf⟩ hrec
  have ownU : Own B υ v 23 3 l.length (l.flatMap Hd.cs) := own_still own hn fun c h1 h2 => hσ c h2 (by omega)
  have hsl := ownU.sl
  have fin : fallL (l.drop i) left = l.drop i → wpA (sliceA 3 v (some (.int .i64 i)) none) υ fun w τ => wpA (copyA 3 v w) τ fun w τ => wpA (hereV [((loadA none (.pointer (some ⟨b, 1, none⟩)) : AM Value), v)] (bindV (sliceA 3 v none (some w)) fun v53 => bindV (nilCheckA (ptr b)) fun v54 => bindV (fieldAddrA 1 v54) fun v55 => bindV (storeA 1 v55 v53) fun _ => ret (.tuple #[]))) τ
      fun r τ => r = .tuple #[] ∧ ∃ v', τ.get b = some (.cells [.bool true, v', .int .i64 m, .int .i64 (total (fallL l left) : Nat)] 59 false) ∧ Own B τ v' 23 3 (fallL l left).length ((fallL l left).flatMap Hd.cs) ∧ Fr b v v' σ τ := by
    intro hd
    rw [hf] at hd
    refine own_from ownU hi fun s hs => ?_
    rw [drop_flatMap Hd.len] at hs
    refine own_copy ownU hs (by omega) (by rw [cs_len, List.length_drop]) (cs_ok _) fun τ own' hget hnx => ?_
    have hbT : τ.get b = some (.cells [.bool true, v, .int .i64 m, .int .i64 (total (l.drop i) : Nat)] 59 false) := by rw [hget b (own_sl_ne ownU hbB)]; exact hbU
    simp [here_iff, hbT, same_sl hsl]
    refine own_prefix own' (by omega) fun v' ow hin => ?_
    have e : (((l.drop i).flatMap Hd.cs ++ (l.flatMap Hd.cs).drop ((l.length - i) * 3)).take ((l.length - i) * 3)) = (l.drop i).flatMap Hd.cs := by
      rw [List.take_append_of_le_length (by rw [cs_len, List.length_drop]; omega), List.take_of_length_le (by rw [cs_len, List.length_drop]; omega)]
    rw [e] at ow
    have hvc : v'.cells = #[v'] ∧ isCell v' = true := by
      obtain ⟨a, c, rfl⟩ := ow.sl.form
      exact ⟨rfl, rfl⟩
    simp [hbT, hvc.1, hvc.2]
    refine ⟨v', by simp [hd], ?_, ?_⟩
    · rw [hd, List.length_drop]
      refine own_still ow (by simp) fun c h1 h2 => ?_
      have c1 : ¬ c = b := by omega
      simp [c1]
    · refine ⟨by simp; omega, fun c h1 h2 h3 => ?_, fun c h1 => .inl (hin c h1)⟩
      simp [h2]
      rw [hget c h3]
      exact hσ c h1 h2
  by_cases hlt : i < l.length
  · obtain ⟨h, hh⟩ : ∃ h, l[i]? = some h := ⟨_, List.getElem?_eq_getElem hlt⟩
    have hdr : l.drop i = h :: l.drop (i + 1) := by
      obtain ⟨h1, h2⟩ := List.getElem?_eq_some_iff.1 hh
      rw [List.drop_eq_getElem_cons h1, h2]
    have htl : total (l.drop i) ≤ total l := by
      have := congrArg total (List.take_append_drop i l)
      rw [total_app] at this
      omega
    have htc := total_cons h (l.drop (i + 1))
    rw [← hdr] at htc
    by_cases hleft : left < (total (l.drop i) : Int)
    · have hws : IntKind.i64.wrap ((total (l.drop i) : Int) - (hsize h : Int)) = ((total (l.drop (i + 1)) : Nat) : Int) := by rw [wrap64 (by omega) (by omega)]; omega
      have hwi : IntKind.i64.wrap ((i : Int) + 1) = ((i + 1 : Nat) : Int) := wrap64 (by omega) (by omega)
      simp [R30.b_66, R30.g_59, hbU, len_iff hsl, hlt, hleft, ↓atS_all Hd.len (by omega) hsl hh, -Int.natCast_add]
      refine (size_spec' (by omega) (by omega)).mono ?_
      rintro w τ ⟨he, rfl⟩
      have hbn : b < υ.next := by omega
      have hbT : τ.get b = some (.cells [.bool true, v, .int .i64 m, .int .i64 (total (l.drop i) : Nat)] 59 false) := by rw [he.2 b hbn]; exact hbU
      have hen := he.1
      simp [here_iff, hbT, hws, hwi, -Int.natCast_add]
      refine hrec (l.length - (i + 1)) _ _ (by omega) ⟨i + 1, rfl, by omega, rfl, by simp, by simp; omega, fun c h1 h2 => ?_, ?_⟩
      · simp [h2]
        rw [he.2 c (by omega)]
        exact hσ c h1 h2
      · rw [← hf, hdr, fallL, ← hdr, if_pos hleft]
    · simp [R30.b_66, R30.g_59, hbU, len_iff hsl, hlt, hleft, -Int.natCast_add]
      have := fin (fall_same _ _ (by omega))
      simpa using this
  · have e : i = l.length := by omega
    subst e
    simp [R30.b_66, R30.g_59, hbU, len_iff hsl, -Int.natCast_add]
    have := fin (by simp [fallL])
    simpa using this
end
end Go.Proofs.Ytedoaofmdlcjeaa
