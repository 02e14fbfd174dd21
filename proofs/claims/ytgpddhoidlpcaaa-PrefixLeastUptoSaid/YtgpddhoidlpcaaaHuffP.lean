/- One code found among the groups. -/
import Derived.Test.YtgpddhoidlpcaaaHuffN
set_option linter.unusedVariables false
set_option linter.unusedSimpArgs false
namespace Go.Proofs.Ytgpddhoidlpcaaa
open Go.Proofs.Ytgpddhoidlpcaaa.Eng
/-- A number that bits are, so far as codes have so many. -/
def Pend (p : List Bool) (g : Nat) : Prop := p.length ≤ 30 → g = val p
/-- A code is not in a group. -/
def Miss (i g n : Nat) : Prop := (gr i).1 = n → g < first i ∨ first i + (gr i).2.length ≤ g
theorem gr_in {s : Nat} (hs : s < 257) : ∃ i j : Nat, i < 21 ∧ (gr i).2[j]? = some s := by
  have h1 := List.all_eq_true.1 all_there s (List.mem_range.2 hs)
  obtain ⟨i, h2, h3⟩ := List.any_eq_true.1 h1
  obtain ⟨j, hj, e⟩ := List.getElem_of_mem (by simpa using h3 : s ∈ (gr i).2)
  exact ⟨i, j, List.mem_range.1 h2, by rw [List.getElem?_eq_getElem hj, e]⟩
theorem look_miss {p : List Bool} {g : Nat} (hp : Pend p g) (hm : ∀ i, i < 21 → Miss i g p.length) : look p = none := by
  cases h : look p with
  | none => rfl
  | some s =>
    exfalso
    obtain ⟨hs, hc⟩ := look_some h
    obtain ⟨i, j, hi, hj⟩ := gr_in hs
    obtain ⟨c1, _⟩ := gc hi hj
    obtain ⟨l1, l2⟩ := (codeBits_eq hs p).1 hc
    rw [c1] at l1 l2
    simp only at l1 l2
    have h30 : (gr i).1 ≤ 30 := (start_ok ⟨i, hi⟩).2.2.2.1
    have hg := hp (by omega)
    have hjl : j < (gr i).2.length := (List.getElem?_eq_some_iff.1 hj).1
    rcases hm i hi l1.symm with c | c <;> omega
theorem look_hit {p : List Bool} {g i : Nat} (hp : Pend p g) (hi : i < 21) (h1 : (gr i).1 = p.length) (h2 : first i ≤ g) (h3 : g < first i + (gr i).2.length) : ∃ s, (gr i).2[g - first i]? = some s ∧ s < 257 ∧ look p = some s := by
  have hlt : g - first i < (gr i).2.length := by omega
  have hs : (gr i).2[g - first i]? = some ((gr i).2[g - first i]) := List.getElem?_eq_getElem hlt
  generalize (gr i).2[g - first i] = s at hs
  obtain ⟨c1, c2⟩ := gc hi hs
  have h30 : (gr i).1 ≤ 30 := (start_ok ⟨i, hi⟩).2.2.2.1
  have hg := hp (by omega)
  have e : codeBits s = p := (codeBits_eq c2 p).2 ⟨by rw [c1]; simp only; omega, by rw [c1]; simp only; omega⟩
  refine ⟨s, hs, c2, ?_⟩
  rw [← e]
  exact look_code c2
theorem gr_mono : ∀ i j : Fin 21, i.1 < j.1 → (gr i.1).1 < (gr j.1).1 := by decide +kernel
theorem pend_snoc {p : List Bool} {g M : Nat} {b : Bool} (hp : Pend p g) (hM : 1073741824 ≤ M) : Pend (p ++ [b]) ((g * 2 + bn b) % M) := by
  intro hl
  rw [List.length_append, List.length_singleton] at hl
  have hg := hp (by omega)
  have hv := val_lt p
  have h29 : 2 ^ p.length ≤ 2 ^ 29 := Nat.pow_le_pow_right (by omega) (by omega)
  have hb := bn_le b
  rw [val_snoc, hg, Nat.mod_eq_of_lt (by omega)]
theorem pend_nil : Pend [] 0 := fun _ => rfl
section
variable {σ : AW} {k : Nat} {Q : Value → AW → Prop}
theorem u32_or {a c : Nat} (ha : a < 4294967296) (hc : c < 4294967296) : IntKind.u32.wrap ((BitVec.ofInt IntKind.u32.bits (a : Int) ||| BitVec.ofInt IntKind.u32.bits (c : Int)).toNat : Int) = ((a ||| c : Nat) : Int) := by
  have h8 : IntKind.u32.bits = 32 := rfl
  have hlt : a ||| c < 2 ^ 32 := Nat.or_lt_two_pow ha hc
  rw [h8, BitVec.ofInt_natCast, BitVec.ofInt_natCast, BitVec.toNat_or, BitVec.toNat_ofNat, BitVec.toNat_ofNat, Nat.mod_eq_of_lt ha, Nat.mod_eq_of_lt hc]
  exact wrap_u32 hlt
theorem wpA_orU32 {P : Program} {t : TypeId} {a c : Nat} (ha : a < 4294967296) (hc : c < 4294967296) : wpA (binA P .or t (.int .u32 (a : Int)) (.int .u32 (c : Int))) σ Q ↔ Q (.int .u32 ((a ||| c : Nat) : Int)) σ := by
  rw [wpA_or, u32_or ha hc]
theorem wpA_and1U32 {P : Program} {t : TypeId} {a : Nat} (ha : a < 4294967296) : wpA (binA P .and t (.int .u32 (a : Int)) (.int .u32 1)) σ Q ↔ Q (.int .u32 ((a % 2 : Nat) : Int)) σ := by
  have h8 : IntKind.u32.bits = 32 := rfl
  have e : BitVec.ofInt 32 1 = BitVec.ofNat 32 1 := by decide
  rw [wpA_and, h8, BitVec.ofInt_natCast, e, BitVec.toNat_and, BitVec.toNat_ofNat, BitVec.toNat_ofNat, Nat.mod_eq_of_lt ha, Nat.mod_eq_of_lt (by omega), Nat.and_one_is_mod]
  rw [wrap_u32 (by omega)]
theorem u32_wrapN (a : Nat) : IntKind.u32.wrap (a : Int) = ((a % 4294967296 : Nat) : Int) := by
  simp [IntKind.wrap, IntKind.signed, IntKind.bits]
/-- The groups lie there. -/
def Grs (τ : AW) (v : Value) (rows : List Rw) : Prop := Sl τ v 2 21 (rows.flatMap Rw.cs) ∧ ∀ i, i < 21 → ∃ s, rows[i]? = some ⟨(gr i).1, s⟩ ∧ Sl τ s 1 (gr i).2.length ((gr i).2.map U16)
theorem Grs.ext {σ τ : AW} {v : Value} {rows : List Rw} (h : Grs σ v rows) (k : Ext σ τ) : Grs τ v rows := ⟨h.1.ext k, fun i hi => by
  obtain ⟨s, h1, h2⟩ := h.2 i hi
  exact ⟨s, h1, h2.ext k⟩⟩
theorem Grs.of {B : Nat} {τ : AW} {v : Value} {rows : List Rw} (h : GOk B τ v U16 30 72 rows) : Grs τ v rows := ⟨h.2.1.sl, fun i hi => by
  obtain ⟨s, h1, h2⟩ := h.2.2 i (gr i) (gr_at hi)
  exact ⟨s, h1, h2.sl⟩⟩
/-- One bit more: found, or not. -/
theorem find_spec {B b7 b8 b9 m g : Nat} {p : List Bool} {o : List UInt8} {v6 u : Value} {rows : List Rw} {rec : Value → Value → AM Value} {τ : AW} {k1 : Nat} {ones : Bool}
    (hk : 100 ≤ k1) (hg : Grs τ v6 rows) (g7 : τ.get b7 = some (.cells [.int .u32 g] 22 false)) (g8 : τ.get b8 = some (.cells [.int .i64 p.length] 3 false)) (g9 : τ.get b9 = some (.cells [.bool ones] 4 false)) (l7 : b7 < B) (l8 : b8 < B) (l9 : b9 < B) (d1 : ¬ b7 = b8) (d2 : ¬ b7 = b9) (d3 : ¬ b8 = b9) (hB : B ≤ τ.next)
    (own : Own B τ u 5 1 o.length (o.map Bt)) (hp : Pend p g) (hg32 : g < 4294967296) (hm : m < 1099511627776) (ho : o.length < 1099511627776)
    (hnone : look p = none → ∀ τ', Ext τ τ' → wpA (rec u (.int .i64 ((m + 1 : Nat) : Int))) τ' Q)
    (hsym : ∀ s, look p = some s → s < 256 → ∀ u' τ', (τ.next ≤ τ'.next) → (∀ b, b < B → b ≠ b7 → b ≠ b8 → b ≠ b9 → τ'.get b = τ.get b) → τ'.get b7 = some (.cells [.int .u32 0] 22 false) → τ'.get b8 = some (.cells [.int .i64 0] 3 false) → τ'.get b9 = some (.cells [.bool true] 4 false) → Own B τ' u' 5 1 (o ++ [UInt8.ofNat s]).length ((o ++ [UInt8.ofNat s]).map Bt) → wpA (rec u' (.int .i64 ((m + 1 : Nat) : Int))) τ' Q)
    (heos : look p = some 256 → ∀ τ', Ext τ τ' → Q (.tuple #[.slice none 0 0, .int .i64 ((m / 8 : Nat) : Int), .int .i64 31]) τ') :
    wpA (loop4 (R20.b_152 (callN Try.prog k1) k1 rec (.func (.func 35) #[] #[ptr b7, ptr b8, ptr b9]) (.int .i64 m) (.int .i64 m) v6 (.int .i64 21) (ptr b7) (ptr b8)) k1 u (.int .u32 0) (.int .i64 0) (.int .i64 0)) τ Q := by
  have hwm : IntKind.i64.wrap ((m : Int) + 1) = ((m + 1 : Nat) : Int) := wrap64 (by omega) (by omega)
  refine aw_loop4 (fun r u' f bs x τ' => ∃ i : Nat, u' = u ∧ f = .int .u32 ((start i).1 : Nat) ∧ bs = .int .i64 ((start i).2 : Nat) ∧ x = .int .i64 i ∧ i ≤ 21 ∧ r = 21 - i ∧ Ext τ τ' ∧ ∀ i', i' < i → Miss i' g p.length) ?_ k1 21 _ _ _ _ τ ⟨0, rfl, rfl, rfl, rfl, by omega, rfl, Ext.refl _, fun i' h => by omega⟩ (by omega)
  rintro r rec2 u' f bs x τ' ⟨i, rfl, rfl, rfl, rfl, hi, rfl, ex, hmi⟩ hrec
  have gg := hg.ext ex
  by_cases hlt : i < 21
  · have hlt' : (i : Int) < 21 := by omega
    obtain ⟨k1', k2', k3', k4', k5'⟩ := start_ok ⟨i, hlt⟩
    simp only at k1' k2' k3' k4' k5'
    obtain ⟨s, hr, hs⟩ := gg.2 i hlt
    have hcs : (Rw.mk (gr i).1 s).cs = [.int .i64 (gr i).1, s] := rfl
    obtain ⟨a, c, hsv⟩ := hs.form
    have hsc : s.cells = #[s] ∧ isCell s = true := by rw [hsv]; exact ⟨rfl, rfl⟩
    have hsm : (gr i).2.length ≤ 1000 := G_small _ (List.mem_of_getElem? (gr_at hlt))
    have exn := ex.1
    have h7 : τ'.get b7 = some (.cells [.int .u32 g] 22 false) := by rw [ex.2 _ (by omega)]; exact g7
    have h8 : τ'.get b8 = some (.cells [.int .i64 p.length] 3 false) := by rw [ex.2 _ (by omega)]; exact g8
    have h9 : τ'.get b9 = some (.cells [.bool ones] 4 false) := by rw [ex.2 _ (by omega)]; exact g9
    have q7 : ¬ b7 = τ'.next := by omega
    have q8 : ¬ b8 = τ'.next := by omega
    have q9 : ¬ b9 = τ'.next := by omega
    have hwb : IntKind.i64.wrap (((gr i).1 : Int) - ((start i).2 : Int)) = (((gr i).1 - (start i).2 : Nat) : Int) := by rw [wrap64 (by omega) (by omega)]; omega
    have hb32 : IntKind.u32.bits = 32 := rfl
    have hfi : first i = (start i).1 * 2 ^ ((gr i).1 - (start i).2) := rfl
    have hsh := shl_u32 (n := (start i).1) (s := (gr i).1 - (start i).2) (by rw [← hfi]; omega) k2'
    rw [← hfi] at hsh
    have hsb0 : (0 : Int) ≤ (((gr i).1 - (start i).2 : Nat) : Int) := by omega
    generalize hP : (τ'.push (.cells [.int .i64 0, .slice none 0 0] 72 false)).put τ'.next (some (.cells [.int .i64 (gr i).1, s] 72 false)) = P
    have eP : Ext τ P := by rw [← hP]; exact (((ex.kept (Nat.le_refl _)).push ex.1 _).put ex.1 _)
    have hPn : P.get τ'.next = some (.cells [.int .i64 (gr i).1, s] 72 false) := by rw [← hP]; simp
    have p7 : P.get b7 = some (.cells [.int .u32 g] 22 false) := by rw [← hP]; simp [q7, h7]
    have p8 : P.get b8 = some (.cells [.int .i64 p.length] 3 false) := by rw [← hP]; simp [q8, h8]
    have p9 : P.get b9 = some (.cells [.bool ones] 4 false) := by rw [← hP]; simp [q9, h9]
    have sP : Sl P s 1 (gr i).2.length ((gr i).2.map U16) := (hg.2 i hlt).elim fun s' h => by
      have : s' = s := by rw [hr] at h; have := h.1; injection this with this; injection this with _ this; exact this.symm
      subst this
      exact h.2.ext eP
    have hmiss : wpA (rec2 u' (.int .u32 ((start (i + 1)).1 : Nat)) (.int .i64 ((start (i + 1)).2 : Nat)) (.int .i64 ((i + 1 : Nat) : Int))) P Q ∨ ¬ Miss i g p.length := by
      by_cases hM : Miss i g p.length
      · refine .inl (hrec (21 - (i + 1)) _ _ _ _ _ (by omega) ⟨i + 1, rfl, rfl, rfl, rfl, by omega, rfl, eP, fun i' h' => ?_⟩)
        rcases Nat.lt_or_ge i' i with c | c
        · exact hmi i' c
        · have : i' = i := by omega
          rw [this]; exact hM
      · exact .inr hM
    have hst : (start (i + 1)).1 = first i + (gr i).2.length := rfl
    have hst2 : (start (i + 1)).2 = (gr i).1 := rfl
    have hwl : IntKind.u32.wrap ((gr i).2.length : Int) = ((gr i).2.length : Int) := wrap_u32 (by omega)
    have hwf : IntKind.u32.wrap ((first i : Int) + ((gr i).2.length : Int)) = ((first i + (gr i).2.length : Nat) : Int) := by rw [show (first i : Int) + ((gr i).2.length : Int) = ((first i + (gr i).2.length : Nat) : Int) by omega]; exact wrap_u32 (by omega)
    have hwi : IntKind.i64.wrap ((i : Int) + 1) = ((i + 1 : Nat) : Int) := wrap64 (by omega) (by omega)
    rw [hst, hst2] at hmiss
    by_cases hbig : p.length < (gr i).1
    · have hbig' : (p.length : Int) < ((gr i).1 : Int) := by omega
      have hno : look p = none := look_miss hp fun i' hi' => by
        rcases Nat.lt_or_ge i' i with c | c
        · exact hmi i' c
        · intro e
          exfalso
          rcases Nat.eq_or_lt_of_le c with d | d
          · subst d; omega
          · have := gr_mono ⟨i, hlt⟩ ⟨i', hi'⟩ d
            simp only at this
            omega
      simp [R20.b_152, R20.j_44, hlt', ↓atS_all Rw.len (by omega) gg.1 hr, hcs, hsc.1, hsc.2, hP, hPn, p8, hwb, hb32, hsh, hbig, hbig', hwm, -Int.natCast_pow, -Int.natCast_mul, -Int.natCast_add]
      exact hnone hno P eP
    · have hbig' : ¬ (p.length : Int) < ((gr i).1 : Int) := by omega
      by_cases heq : (gr i).1 = p.length
      · have heqs : p.length = (gr i).1 := heq.symm
        by_cases hge : first i ≤ g
        · have hge' : (first i : Int) ≤ (g : Int) := by omega
          have hws : IntKind.u32.wrap ((g : Int) - (first i : Int)) = ((g - first i : Nat) : Int) := by rw [show (g : Int) - (first i : Int) = ((g - first i : Nat) : Int) by omega]; exact wrap_u32 (by omega)
          have hws2 : g - first i < 1073741824 → IntKind.i64.wrap ((g - first i : Nat) : Int) = ((g - first i : Nat) : Int) := fun _ => wrap64 (by omega) (by omega)
          have hws3 : IntKind.i64.wrap ((g - first i : Nat) : Int) = ((g - first i : Nat) : Int) := wrap64 (by omega) (by omega)
          by_cases hin : g < first i + (gr i).2.length
          · have hin2 : g - first i < (gr i).2.length := by omega
            have hin2' : ((g - first i : Nat) : Int) < ((gr i).2.length : Int) := by omega
            obtain ⟨y, y1, y2, y3⟩ := look_hit hp hlt heq hge hin
            by_cases h256 : y = 256
            · subst h256
              have hq8 : IntKind.i64.wrap ((m : Int) / 8) = ((m / 8 : Nat) : Int) := by
                rw [show (m : Int) / 8 = ((m / 8 : Nat) : Int) by omega]
                exact wrap64 (by omega) (by omega)
              simp [R20.b_152, R20.g_138, R20.g_147, hlt', ↓atS_all Rw.len (by omega) gg.1 hr, hcs, hsc.1, hsc.2, hP, hPn, p7, p8, hwb, hb32, hsh, heqs, hge, hge', hws, hws3, hin2, hin2', len_iff sP, ↓at1_all sP y1, U16, hq8, -Int.natCast_pow, -Int.natCast_mul, -Int.natCast_add, -Int.natCast_ediv]
              exact heos y3 P eP
            · have h256' : ¬ (y : Int) = 256 := by omega
              have hw8 : IntKind.u8.wrap (y : Int) = (y : Int) := by rw [u8_wrap, Nat.mod_eq_of_lt (by omega)]
              have hB2 := Bt_lt (a := y) (by omega)
              have oP := own.ext eP
              simp [R20.b_152, R20.g_138, R20.g_147, hlt', ↓atS_all Rw.len (by omega) gg.1 hr, hcs, hsc.1, hsc.2, hP, hPn, p7, p8, hwb, hb32, hsh, heqs, hge, hge', hws, hws3, hin2, hin2', len_iff sP, ↓at1_all sP y1, U16, h256, h256', hw8, zeros, List.range_succ, wpA_callC, -Int.natCast_pow, -Int.natCast_mul, -Int.natCast_add]
              have ePn := eP.1
              rw [hB2]
              refine aw_app1 oP rfl (by omega) (by omega) (by omega) fun v τ3 h3 h4 => ?_
              have t7 : τ3.get b7 = some (.cells [.int .u32 g] 22 false) := by rw [h4.2 _ l7]; exact p7
              have t8 : τ3.get b8 = some (.cells [.int .i64 p.length] 3 false) := by rw [h4.2 _ l8]; exact p8
              have t9 : τ3.get b9 = some (.cells [.bool ones] 4 false) := by rw [h4.2 _ l9]; exact p9
              have d1' : ¬ b8 = b7 := fun e => d1 e.symm
              have d2' : ¬ b9 = b7 := fun e => d2 e.symm
              have d3' : ¬ b9 = b8 := fun e => d3 e.symm
              rw [callN_at (by omega), R35.eq]
              simp [R35.top, R20.j_44, t7, t8, t9, d1, d2, d3, d1', d2', d3', hwm, -Int.natCast_add]
              have h4n := h4.1
              refine hsym y y3 (by omega) _ _ (by simp; omega) (fun b hb c1 c2 c3 => ?_) (by simp [d1, d2]) (by simp [d3]) (by simp) (own_still (by simpa using h3) (by simp) fun b hb1 hb2 => ?_)
              · simp [c1, c2, c3]
                rw [h4.2 b hb]
                exact eP.2 b (by omega)
              · have c1 : ¬ b = b7 := by omega
                have c2 : ¬ b = b8 := by omega
                have c3 : ¬ b = b9 := by omega
                simp [c1, c2, c3]
          · have hin2 : ¬ g - first i < (gr i).2.length := by omega
            have hin2' : ¬ ((g - first i : Nat) : Int) < ((gr i).2.length : Int) := by omega
            have hrc := hmiss.resolve_right fun hn => hn fun _ => by omega
            simp [R20.b_152, R20.g_138, R20.g_147, hlt', ↓atS_all Rw.len (by omega) gg.1 hr, hcs, hsc.1, hsc.2, hP, hPn, p7, p8, hwb, hb32, hsh, heqs, hge, hge', hws, hws3, hin2, hin2', len_iff sP, hwl, hwf, hwi, -Int.natCast_pow, -Int.natCast_mul, -Int.natCast_add]
            exact hrc
        · have hge' : ¬ (first i : Int) ≤ (g : Int) := by omega
          have hrc := hmiss.resolve_right fun hn => hn fun _ => by omega
          simp [R20.b_152, R20.g_138, R20.g_147, hlt', ↓atS_all Rw.len (by omega) gg.1 hr, hcs, hsc.1, hsc.2, hP, hPn, p7, p8, hwb, hb32, hsh, heqs, hge, hge', len_iff sP, hwl, hwf, hwi, -Int.natCast_pow, -Int.natCast_mul, -Int.natCast_add]
          exact hrc
      · have heq' : ¬ ((gr i).1 : Int) = (p.length : Int) := by omega
        have hrc := hmiss.resolve_right fun hn => hn fun h => absurd h heq
        simp [R20.b_152, R20.g_138, R20.g_147, hlt', ↓atS_all Rw.len (by omega) gg.1 hr, hcs, hsc.1, hsc.2, hP, hPn, p7, p8, hwb, hb32, hsh, hbig, hbig', heq, heq', len_iff sP, hwl, hwf, hwi, -Int.natCast_pow, -Int.natCast_mul, -Int.natCast_add]
        exact hrc
  · have e : i = 21 := by omega
    subst e
    have hno : look p = none := look_miss hp hmi
    simp [R20.b_152, R20.j_44, hwm, -Int.natCast_add]
    exact hnone hno τ' ex
end
end Go.Proofs.Ytgpddhoidlpcaaa
