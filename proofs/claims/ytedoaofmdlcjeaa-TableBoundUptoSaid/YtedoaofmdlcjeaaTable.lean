/- Plain laws of what Table computes: the static table. -/
import Derived.Test.YtedoaofmdlcjeaaRes05
import Derived.Test.YtedoaofmdlcjeaaEngY
set_option linter.unusedVariables false
set_option linter.unusedSimpArgs false
namespace Go.Proofs.Ytedoaofmdlcjeaa
open Go.Proofs.Ytedoaofmdlcjeaa.Eng
/-- The static table's lines. -/
def statL : List (List UInt8) := [[58, 97, 117, 116, 104, 111, 114, 105, 116, 121, 61],
  [58, 109, 101, 116, 104, 111, 100, 61, 71, 69, 84],
  [58, 109, 101, 116, 104, 111, 100, 61, 80, 79, 83, 84],
  [58, 112, 97, 116, 104, 61, 47],
  [58, 112, 97, 116, 104, 61, 47, 105, 110, 100, 101, 120, 46, 104, 116, 109, 108],
  [58, 115, 99, 104, 101, 109, 101, 61, 104, 116, 116, 112],
  [58, 115, 99, 104, 101, 109, 101, 61, 104, 116, 116, 112, 115],
  [58, 115, 116, 97, 116, 117, 115, 61, 50, 48, 48],
  [58, 115, 116, 97, 116, 117, 115, 61, 50, 48, 52],
  [58, 115, 116, 97, 116, 117, 115, 61, 50, 48, 54],
  [58, 115, 116, 97, 116, 117, 115, 61, 51, 48, 52],
  [58, 115, 116, 97, 116, 117, 115, 61, 52, 48, 48],
  [58, 115, 116, 97, 116, 117, 115, 61, 52, 48, 52],
  [58, 115, 116, 97, 116, 117, 115, 61, 53, 48, 48],
  [97, 99, 99, 101, 112, 116, 45, 99, 104, 97, 114, 115, 101, 116, 61],
  [97, 99, 99, 101, 112, 116, 45, 101, 110, 99, 111, 100, 105, 110, 103, 61, 103, 122, 105, 112, 44, 32, 100, 101, 102, 108, 97, 116, 101],
  [97, 99, 99, 101, 112, 116, 45, 108, 97, 110, 103, 117, 97, 103, 101, 61],
  [97, 99, 99, 101, 112, 116, 45, 114, 97, 110, 103, 101, 115, 61],
  [97, 99, 99, 101, 112, 116, 61],
  [97, 99, 99, 101, 115, 115, 45, 99, 111, 110, 116, 114, 111, 108, 45, 97, 108, 108, 111, 119, 45, 111, 114, 105, 103, 105, 110, 61],
  [97, 103, 101, 61],
  [97, 108, 108, 111, 119, 61],
  [97, 117, 116, 104, 111, 114, 105, 122, 97, 116, 105, 111, 110, 61],
  [99, 97, 99, 104, 101, 45, 99, 111, 110, 116, 114, 111, 108, 61],
  [99, 111, 110, 116, 101, 110, 116, 45, 100, 105, 115, 112, 111, 115, 105, 116, 105, 111, 110, 61],
  [99, 111, 110, 116, 101, 110, 116, 45, 101, 110, 99, 111, 100, 105, 110, 103, 61],
  [99, 111, 110, 116, 101, 110, 116, 45, 108, 97, 110, 103, 117, 97, 103, 101, 61],
  [99, 111, 110, 116, 101, 110, 116, 45, 108, 101, 110, 103, 116, 104, 61],
  [99, 111, 110, 116, 101, 110, 116, 45, 108, 111, 99, 97, 116, 105, 111, 110, 61],
  [99, 111, 110, 116, 101, 110, 116, 45, 114, 97, 110, 103, 101, 61],
  [99, 111, 110, 116, 101, 110, 116, 45, 116, 121, 112, 101, 61],
  [99, 111, 111, 107, 105, 101, 61],
  [100, 97, 116, 101, 61],
  [101, 116, 97, 103, 61],
  [101, 120, 112, 101, 99, 116, 61],
  [101, 120, 112, 105, 114, 101, 115, 61],
  [102, 114, 111, 109, 61],
  [104, 111, 115, 116, 61],
  [105, 102, 45, 109, 97, 116, 99, 104, 61],
  [105, 102, 45, 109, 111, 100, 105, 102, 105, 101, 100, 45, 115, 105, 110, 99, 101, 61],
  [105, 102, 45, 110, 111, 110, 101, 45, 109, 97, 116, 99, 104, 61],
  [105, 102, 45, 114, 97, 110, 103, 101, 61],
  [105, 102, 45, 117, 110, 109, 111, 100, 105, 102, 105, 101, 100, 45, 115, 105, 110, 99, 101, 61],
  [108, 97, 115, 116, 45, 109, 111, 100, 105, 102, 105, 101, 100, 61],
  [108, 105, 110, 107, 61],
  [108, 111, 99, 97, 116, 105, 111, 110, 61],
  [109, 97, 120, 45, 102, 111, 114, 119, 97, 114, 100, 115, 61],
  [112, 114, 111, 120, 121, 45, 97, 117, 116, 104, 101, 110, 116, 105, 99, 97, 116, 101, 61],
  [112, 114, 111, 120, 121, 45, 97, 117, 116, 104, 111, 114, 105, 122, 97, 116, 105, 111, 110, 61],
  [114, 97, 110, 103, 101, 61],
  [114, 101, 102, 101, 114, 101, 114, 61],
  [114, 101, 102, 114, 101, 115, 104, 61],
  [114, 101, 116, 114, 121, 45, 97, 102, 116, 101, 114, 61],
  [115, 101, 114, 118, 101, 114, 61],
  [115, 101, 116, 45, 99, 111, 111, 107, 105, 101, 61],
  [115, 116, 114, 105, 99, 116, 45, 116, 114, 97, 110, 115, 112, 111, 114, 116, 45, 115, 101, 99, 117, 114, 105, 116, 121, 61],
  [116, 114, 97, 110, 115, 102, 101, 114, 45, 101, 110, 99, 111, 100, 105, 110, 103, 61],
  [117, 115, 101, 114, 45, 97, 103, 101, 110, 116, 61],
  [118, 97, 114, 121, 61],
  [118, 105, 97, 61],
  [119, 119, 119, 45, 97, 117, 116, 104, 101, 110, 116, 105, 99, 97, 116, 101, 61]]

structure Hd where
  name : List UInt8
  value : List UInt8
  secret : Bool
def Hd.cs (h : Hd) : List Value := [Tx h.name, Tx h.value, .bool h.secret]
theorem Hd.len (h : Hd) : h.cs.length = 3 := rfl
def Hd.none : Hd := ⟨[], [], false⟩
/-- Where the equals sign stands. -/
def eqAt : List UInt8 → Nat
  | [] => 0
  | c :: l => if c = 61 then 0 else eqAt l + 1
def splitEq (l : List UInt8) : Hd := ⟨l.take (eqAt l), l.drop (eqAt l + 1), false⟩
def statT : List Hd := statL.map splitEq
theorem stat_len : statL.length = 61 := by decide
theorem stat_ok : ∀ l ∈ statL, eqAt l < l.length ∧ l.length < 100 ∧ (l.all fun c => decide (c.toNat < 128)) = true := by decide +kernel
theorem eqAt_spec : ∀ (l : List UInt8), eqAt l < l.length → l[eqAt l]? = some 61 ∧ ∀ p c, p < eqAt l → l[p]? = some c → c ≠ 61
  | [], h => by simp [eqAt] at h
  | a :: l, h => by
    unfold eqAt at h ⊢
    by_cases ha : a = 61
    · simp [ha]
    · simp only [ha, if_false] at h ⊢
      have ih := eqAt_spec l (by simpa using h)
      refine ⟨by simpa using ih.1, fun p c hp hc => ?_⟩
      cases p with
      | zero => simp at hc; subst hc; exact ha
      | succ p => exact ih.2 p c (by omega) (by simpa using hc)
theorem tx_cells (l : List (List UInt8)) : ∀ v ∈ l.map Tx, v.cells = #[v] ∧ isCell v = true := by
  intro v hv
  obtain ⟨a, _, rfl⟩ := List.mem_map.1 hv
  exact ⟨rfl, rfl⟩
section
variable {σ : AW} {k : Nat} {Q : Value → AW → Prop}
set_option maxRecDepth 100000 in
theorem rstatics_spec (hk : 1 ≤ k) : wpA (callN Try.prog k 26 []) σ fun v τ => Ext σ τ ∧ Own σ.next τ v 9 1 61 (statL.map Tx) := by
  rw [callN_at hk, R26.eq]
  unfold R26.top
  refine aw_bindV (aw_ret (aw_bindV (aw_literal (vs := statL.map Tx) (by rfl) (by rw [List.length_map, stat_len]) (tx_cells _) (by omega) ?_)))
  simp
  exact ⟨Ext.push _ _, own_new (Nat.le_refl _) (by rw [List.length_map, stat_len])⟩
set_option maxRecDepth 100000 in
theorem statics_spec (hk : 1 ≤ k) : wpA (callN Try.prog k 37 []) σ fun v τ => Ext σ τ ∧ v = .agg (statL.map Tx).toArray := by
  rw [callN_at hk, R37.eq]
  unfold R37.top
  refine aw_bindV (aw_new (by rfl) (aw_bindV (aw_arrLit (vs := statL.map Tx) (by rfl) (by rw [List.length_map, stat_len]; rfl) (tx_cells _) ?_)))
  have hcs : (Value.agg (statL.map Tx).toArray).cells.toList = statL.map Tx := by simp
  refine aw_bindV (aw_store (e := _) (by rw [AW.get_push, if_pos rfl]) (by simp [stat_len]) (Nat.le_refl _) ?_ ?_)
  · rw [hcs]
    exact List.all_eq_true.2 fun v hv => (tx_cells _ v hv).2
  · rw [hcs, splice_whole (by rw [List.length_map, stat_len]; rfl)]
    refine aw_bindV (aw_loads (by rw [AW.get_put, if_pos rfl]) (by rw [List.length_map, stat_len]; omega) (aw_ret ⟨?_, ?_⟩))
    · refine ⟨by simp, fun b hb => ?_⟩
      have h1 : b ≠ σ.next := by omega
      simp [h1]
    · rw [List.drop_zero, List.take_of_length_le (by rw [List.length_map, stat_len]; omega)]
theorem hd_fill (a b : List UInt8) : fillA ([(0, 1), (1, 1), (2, 1)][·]?) [Value.string ⟨#[]⟩, .string ⟨#[]⟩, .bool false] [(0, Tx a), (1, Tx b)] = some (Hd.cs ⟨a, b, false⟩) := by
  simp [Hd.cs]
/-- The lines so far. -/
def linesUp (i : Nat) : List Hd := (statL.take i).map splitEq
theorem linesUp_succ {i : Nat} {l : List UInt8} (h : statL[i]? = some l) : linesUp (i + 1) = linesUp i ++ [splitEq l] := by
  unfold linesUp
  rw [List.take_add_one, h]; simp
theorem linesUp_len {i : Nat} (h : i ≤ 61) : (linesUp i).length = i := by
  unfold linesUp
  rw [List.length_map, List.length_take, stat_len]; omega
theorem lines_spec (hk : 1000 ≤ k) : wpA (callN Try.prog k 25 []) σ fun v τ => Ext σ τ ∧ Own σ.next τ v 23 3 61 (statT.flatMap Hd.cs) := by
  rw [callN_at (by omega), R25.eq]
  have hbig : 999 ≤ k - 1 := by omega
  generalize hk1 : k - 1 = k1 at hbig
  unfold R25.top
  refine aw_bindV (aw_ret (aw_bindV (aw_makeSlice (l := 0) (c := 61) (by omega) (by omega) (by omega) rfl rfl (by omega) fun vs hl hok _ => ?_)))
  generalize hT : σ.push (.cells vs 23 false) = T
  have hown0 : Own σ.next T (.slice (some ⟨σ.next, 0, some 3⟩) 0 61) 23 3 0 ((linesUp 0).flatMap Hd.cs) := by
    rw [← hT]
    exact ⟨rfl, .inr ⟨σ.next, 61, vs, rfl, by omega, Nat.le_refl _, by simp, by simp, by omega, rfl⟩⟩
  have hk0 : Kept σ.next σ T := by rw [← hT]; exact (Ext.push _ _).kept (Nat.le_refl _)
  refine aw_bindV (aw_ret (aw_bindV ((statics_spec (by omega)).mono ?_)))
  rintro v τ ⟨he, rfl⟩
  refine aw_bindV (aw_ret ?_)
  refine aw_loop2 (fun r u v τ' => ∃ i : Nat, v = .int .i64 i ∧ i ≤ 61 ∧ r = 61 - i ∧ Kept σ.next σ τ' ∧ Own σ.next τ' u 23 3 i ((linesUp i).flatMap Hd.cs)) ?_ k1 61 _ _ τ ⟨0, rfl, by omega, rfl, hk0.trans (he.kept hk0.1), hown0.ext he⟩ (by omega)
  rintro r rec u v τ' ⟨i, rfl, hi, rfl, hki, hown⟩ hrec
  have hsn := hki.1
  by_cases hlt : i < 61
  · have hlt' : (i : Int) < 61 := by omega
    obtain ⟨l, hl⟩ : ∃ l, statL[i]? = some l := ⟨_, List.getElem?_eq_getElem (by rw [stat_len]; exact hlt)⟩
    obtain ⟨o1, o2, o3⟩ := stat_ok l (List.mem_of_getElem? hl)
    obtain ⟨q1, q2⟩ := eqAt_spec l o1
    have hv : (statL.map Tx).toArray.toList[i * 1]? = some (Tx l) := by simp [hl]
    have hwi : IntKind.i64.wrap ((i : Int) + 1) = ((i + 1 : Nat) : Int) := wrap64 (by omega) (by omega)
    simp [R25.b_48, hlt']
    refine (wpA_index hlt hv).2 ?_
    refine (wpA_range (s := strOf l)).2 ?_
    generalize hR : τ'.push (.iter (strOf l) 0) = R
    have hownR : Own σ.next R u 23 3 i ((linesUp i).flatMap Hd.cs) := by rw [← hR]; exact hown.ext (Ext.push _ _)
    have hkR : Kept σ.next σ R := by rw [← hR]; exact hki.push hsn _
    have hitR : R.get τ'.next = some (.iter (strOf l) 0) := by rw [← hR]; simp
    have hnR : R.next = τ'.next + 1 := by rw [← hR]; simp
    have hfar : ¬ InBlk u τ'.next := by
      rintro ⟨o, s, m, c, rfl⟩
      obtain ⟨_, ⟨h1, _⟩ | ⟨b', c', ws, h1, _, h2, h3, _⟩⟩ := hown
      · cases h1
      · injection h1 with h1; injection h1 with h1; injection h1 with h1; omega
    refine aw_loop1 (fun r x τ'' => ∃ p : Nat, x = u ∧ p ≤ eqAt l ∧ r = 100 - p ∧ Kept σ.next σ τ'' ∧ Own σ.next τ'' u 23 3 i ((linesUp i).flatMap Hd.cs) ∧ τ''.get τ'.next = some (.iter (strOf l) p)) ?_ k1 100 _ R ⟨0, rfl, by omega, rfl, hkR, hownR, hitR⟩ (by omega)
    rintro r2 rec2 x τ2 ⟨p, rfl, hp, rfl, hk2, hown2, hit2⟩ hrec2
    have hplt : p < l.length := by omega
    obtain ⟨c, hc⟩ : ∃ c, l[p]? = some c := ⟨_, List.getElem?_eq_getElem hplt⟩
    have hc128 : c.toNat < 128 := by
      have := List.all_eq_true.1 o3 c (List.mem_of_getElem? hc)
      simpa using this
    have hc61 : ((c.toNat : Int) = 61) ↔ c = 61 := by
      constructor
      · intro h
        apply UInt8.toNat_inj.1
        show c.toNat = 61
        omega
      · rintro rfl; rfl
    have n1 : ¬ (τ'.next : Nat) < σ.next := by omega
    have hput : Own σ.next (τ2.put τ'.next (some (.iter (strOf l) (p + 1)))) x 23 3 i ((linesUp i).flatMap Hd.cs) := by
      obtain ⟨g1, g2 | ⟨b', c', ws, g2, g3, g4, g5, g6, g7⟩⟩ := hown2
      · exact ⟨g1, .inl g2⟩
      · refine ⟨g1, .inr ⟨b', c', ws, g2, g3, g4, by simpa using g5, ?_, g7⟩⟩
        have hb' : b' ≠ τ'.next := by
          rintro rfl
          exact hfar ⟨_, _, _, _, g2⟩
        rw [AW.get_put, if_neg hb']
        exact g6
    have hkput : Kept σ.next σ (τ2.put τ'.next (some (.iter (strOf l) (p + 1)))) := hk2.put (by omega) _
    generalize hP : τ2.put τ'.next (some (.iter (strOf l) (p + 1))) = P at *
    have hitP : P.get τ'.next = some (.iter (strOf l) (p + 1)) := by rw [← hP]; simp
    by_cases h61 : c = 61
    · have hpe : p = eqAt l := by
        rcases Nat.lt_or_ge p (eqAt l) with g | g
        · exact absurd h61 (q2 p c g hc)
        · omega
      have hwp : IntKind.i64.wrap ((p : Int) + 1) = ((p + 1 : Nat) : Int) := wrap64 (by omega) (by omega)
      simp [R25.b_46, next_ascii hit2 hc hc128, hc61, h61, hP, sliceStrTo_iff (l := l) (h := p) (by omega), hwp, sliceStrFrom_iff (l := l) (a := p + 1) (by omega), zeros, List.range_succ, -Int.natCast_add]
      have hsn2 : σ.next ≤ P.next := hkput.1
      have hcs : [Tx (l.take p), Tx (l.drop (p + 1)), Value.bool false] = (splitEq l).cs := by rw [hpe]; rfl
      rw [hcs]
      refine aw_appz hput (us := (splitEq l).cs) rfl rfl (by omega) (by omega) hsn2 fun w τ3 h3 h4 => ?_
      simp [R25.j_16, hwi, -Int.natCast_add]
      refine hrec (61 - (i + 1)) _ _ _ (by omega) ⟨i + 1, rfl, by omega, rfl, hkput.trans h4, ?_⟩
      rw [linesUp_succ hl]
      simpa using h3
    · have hplt2 : p < eqAt l := by
        rcases Nat.lt_or_ge p (eqAt l) with g | g
        · exact g
        · have e : p = eqAt l := by omega
          rw [e] at hc
          rw [q1] at hc
          injection hc with hc
          exact absurd hc.symm h61
      simp [R25.b_46, next_ascii hit2 hc hc128, hc61, h61, hP]
      exact hrec2 (100 - (p + 1)) _ _ (by omega) ⟨p + 1, rfl, by omega, rfl, hkput, hput, hitP⟩
  · have e : i = 61 := by omega
    subst e
    simp [R25.b_48]
    have e2 : linesUp 61 = statT := by unfold linesUp statT; rw [List.take_of_length_le (by rw [stat_len]; omega)]
    rw [e2] at hown
    exact ⟨hki, hown⟩

/-! ### headers compared -/
set_option maxRecDepth 100000 in
theorem hd_parts (a b c : Value) : purely Try.prog (part 9 #[a, b, c] 0) = some a ∧ purely Try.prog (part 9 #[a, b, c] 1) = some b ∧ purely Try.prog (part 4 #[a, b, c] 2) = some c := ⟨by kernel_rfl, by kernel_rfl, by kernel_rfl⟩
theorem fields23 : Try.prog.underlying 23 = some (.struct (Try.prog.fieldsOf 23)) := by unfold Program.fieldsOf; rw [Try.underlying23]
def Hd.same (x y : Hd) : Bool := decide (x.name = y.name) && (decide (x.value = y.value) && (x.secret == y.secret))
theorem hd_eqF (x y : Hd) : purely Try.prog (Op.eqFields 9999 x.cs.toArray y.cs.toArray (Try.prog.fieldsOf 23).toList) = some (x.same y) := by
  have hf : (Try.prog.fieldsOf 23).toList = (match Try.prog.underlying 23 with | some (.struct fs) => fs.toList | _ => []) := by unfold Program.fieldsOf; rw [Try.underlying23]
  rw [hf, Try.underlying23]
  obtain ⟨p1, p2, p3⟩ := hd_parts (Tx x.name) (Tx x.value) (.bool x.secret)
  obtain ⟨q1, q2, q3⟩ := hd_parts (Tx y.name) (Tx y.value) (.bool y.secret)
  have s1 := purely_eqStr (P := Try.prog) 9998 9 (strOf x.name) (strOf y.name) Try.underlying9
  have s2 := purely_eqStr (P := Try.prog) 9998 9 (strOf x.value) (strOf y.value) Try.underlying9
  have s3 := purely_eqBool (P := Try.prog) 9998 4 x.secret y.secret Try.underlying4
  rw [toList_strOf] at s1 s2
  simp only [Hd.cs, Tx] at p1 p2 p3 q1 q2 q3 ⊢
  simp only [Op.eqFields, purely_bind, purely_ite, p1, p2, p3, q1, q2, q3, Option.bind_some, s1, s2, s3, purely_pure]
  have n1 : ("Name" : String) ≠ "_" := by decide
  have n2 : ("Value" : String) ≠ "_" := by decide
  have n3 : ("Secret" : String) ≠ "_" := by decide
  rw [if_pos n1, if_pos n2, if_pos n3]
  unfold Hd.same
  by_cases h1 : x.name = y.name
  · by_cases h2 : x.value = y.value
    · cases h3 : (x.secret == y.secret) <;> simp [h1, h2]
    · simp [h1, h2]
  · simp [h1]
theorem guard23 : Try.prog.eqGuardType Try.prog.depth 23 = false := by kernel_rfl
theorem stood23 : Try.prog.stoodInHeld 23 = false := by kernel_rfl
theorem hd_flat (x : Hd) : flat (.agg x.cs.toArray) = true := by
  simp only [Hd.cs, Tx]
  rfl
theorem hd_eql {x y : Hd} : wpA (binA Try.prog .eql 23 (.agg x.cs.toArray) (.agg y.cs.toArray)) σ Q ↔ Q (.bool (x.same y)) σ := by
  refine wpA_iff ?_
  simp only [binA]
  rw [hd_flat, hd_flat, purely_eql guard23 fields23 stood23 (hd_eqF x y)]
  rfl
theorem hd_neq {x y : Hd} : wpA (binA Try.prog .neq 23 (.agg x.cs.toArray) (.agg y.cs.toArray)) σ Q ↔ Q (.bool !(x.same y)) σ := by
  refine wpA_iff ?_
  simp only [binA]
  rw [hd_flat, hd_flat, purely_neq guard23 fields23 stood23 (hd_eqF x y)]
  rfl
theorem hd_eqlE {a b a' b' : List UInt8} {c c' : Bool} : wpA (binA Try.prog .eql 23 (.agg #[Tx a, Tx b, .bool c]) (.agg #[Tx a', Tx b', .bool c'])) σ Q ↔ Q (.bool (Hd.same ⟨a, b, c⟩ ⟨a', b', c'⟩)) σ := hd_eql (x := ⟨a, b, c⟩) (y := ⟨a', b', c'⟩)
theorem hd_neqE {a b a' b' : List UInt8} {c c' : Bool} : wpA (binA Try.prog .neq 23 (.agg #[Tx a, Tx b, .bool c]) (.agg #[Tx a', Tx b', .bool c'])) σ Q ↔ Q (.bool !(Hd.same ⟨a, b, c⟩ ⟨a', b', c'⟩)) σ := hd_neq (x := ⟨a, b, c⟩) (y := ⟨a', b', c'⟩)
theorem same_refl (x : Hd) : x.same x = true := by simp [Hd.same]

/-! ### an entry of the static table -/
def staticH (idx : Int) : Hd × Int := if 1 ≤ idx ∧ idx ≤ 61 then ((statT[(idx - 1).toNat]?).getD Hd.none, 0) else (Hd.none, 50)
def staticV (idx : Int) : Value := .tuple #[.agg (staticH idx).1.cs.toArray, .int .i64 (staticH idx).2]
theorem statT_len : statT.length = 61 := by unfold statT; rw [List.length_map, stat_len]
theorem none_cs : Hd.none.cs = [.string ⟨#[]⟩, .string ⟨#[]⟩, .bool false] := rfl
theorem static_spec {idx : Int} (hk : 1010 ≤ k) : wpA (callN Try.prog k 9 [.int .i64 idx]) σ fun v τ => Ext σ τ ∧ v = staticV idx := by
  rw [callN_at (by omega), R9.eq]
  by_cases a1 : idx < 1
  · have e : staticV idx = .tuple #[.agg Hd.none.cs.toArray, .int .i64 50] := by unfold staticV staticH; rw [if_neg (by omega)]
    rw [e, none_cs]
    simp [R9.g_20, R9.top, a1]
    exact ((Ext.push _ _).kept (Nat.le_refl _)).put (Nat.le_refl _) _
  by_cases a2 : 61 < idx
  · have e : staticV idx = .tuple #[.agg Hd.none.cs.toArray, .int .i64 50] := by unfold staticV staticH; rw [if_neg (by omega)]
    rw [e, none_cs]
    simp [R9.g_20, R9.top, a1, a2]
    exact ((Ext.push _ _).kept (Nat.le_refl _)).put (Nat.le_refl _) _
  obtain ⟨i, rfl⟩ : ∃ i : Nat, idx = ((i + 1 : Nat) : Int) := ⟨(idx - 1).toNat, by omega⟩
  have hi : i < statT.length := by rw [statT_len]; omega
  have hx : statT[i]? = some statT[i] := List.getElem?_eq_getElem hi
  have e : staticV ((i + 1 : Nat) : Int) = .tuple #[.agg statT[i].cs.toArray, .int .i64 0] := by
    unfold staticV staticH
    rw [if_pos (by omega), show (((i + 1 : Nat) : Int) - 1).toNat = i by omega, hx]
    rfl
  have hwi : IntKind.i64.wrap (((i + 1 : Nat) : Int) - 1) = (i : Int) := by rw [wrap64 (by omega) (by omega)]; omega
  rw [e]
  simp [R9.g_20, R9.top, a1, a2, -Int.natCast_add]
  refine (lines_spec (by omega)).mono ?_
  rintro v τ ⟨he, hown⟩
  have hb := he.2 σ.next (by simp)
  simp at hb
  have hnx : σ.next < τ.next := by have := he.1; simp at this; omega
  simp [hwi, ↓atS_all Hd.len (by omega) hown.sl hx, hb, Hd.cs, -Int.natCast_add]
  refine ⟨by simp; omega, fun b hb => ?_⟩
  have hne : b ≠ σ.next := by omega
  rw [AW.get_put, if_neg hne, he.2 b (by simp; omega)]
  simp [hne]
theorem rstatic_spec {idx : Int} (hk : 1010 ≤ k) : wpA (callN Try.prog k 10 [.int .i64 idx]) σ fun v τ => Ext σ τ ∧ v = staticV idx := by
  rw [callN_at (by omega), R10.eq]
  have hbig : 1009 ≤ k - 1 := by omega
  generalize hk1 : k - 1 = k1 at hbig
  simp [R10.top]
  refine (rstatics_spec (by omega)).mono ?_
  rintro v τ ⟨he, hown⟩
  have hb := he.2 σ.next (by simp)
  simp at hb
  have hnx : σ.next < τ.next := by have := he.1; simp at this; omega
  have hk0 : Kept σ.next σ τ := (((Ext.push σ (.cells [.string ⟨#[]⟩, .string ⟨#[]⟩, .bool false] 23 false)).kept (Nat.le_refl _))).trans (he.kept (by simp))
  by_cases a1 : idx < 1
  · have e : staticV idx = .tuple #[.agg Hd.none.cs.toArray, .int .i64 50] := by unfold staticV staticH; rw [if_neg (by omega)]
    rw [e, none_cs]
    simp [R10.g_46, R10.top, a1, hb]
    exact hk0.put (Nat.le_refl _) _
  by_cases a2 : 61 < idx
  · have e : staticV idx = .tuple #[.agg Hd.none.cs.toArray, .int .i64 50] := by unfold staticV staticH; rw [if_neg (by omega)]
    rw [e, none_cs]
    simp [R10.g_46, R10.top, a1, a2, hb, len_iff hown.sl]
    exact hk0.put (Nat.le_refl _) _
  obtain ⟨i, rfl⟩ : ∃ i : Nat, idx = ((i + 1 : Nat) : Int) := ⟨(idx - 1).toNat, by omega⟩
  have hi : i < statL.length := by rw [stat_len]; omega
  have hx : statL[i]? = some statL[i] := List.getElem?_eq_getElem hi
  generalize hl : statL[i] = l at hx
  obtain ⟨o1, o2, o3⟩ := stat_ok l (List.mem_of_getElem? hx)
  obtain ⟨q1, q2⟩ := eqAt_spec l o1
  have e : staticV ((i + 1 : Nat) : Int) = .tuple #[.agg (splitEq l).cs.toArray, .int .i64 0] := by
    unfold staticV staticH statT
    rw [if_pos (by omega), show (((i + 1 : Nat) : Int) - 1).toNat = i by omega, List.getElem?_map, hx]
    rfl
  have hwi : IntKind.i64.wrap (((i + 1 : Nat) : Int) - 1) = (i : Int) := by rw [wrap64 (by omega) (by omega)]; omega
  rw [e]
  simp [R10.g_46, R10.top, a1, a2, -Int.natCast_add, len_iff hown.sl, hwi, ↓at1_all hown.sl hx]
  refine aw_loop1 (fun r v τ' => ∃ p : Nat, v = .int .i64 p ∧ p ≤ eqAt l ∧ r = 100 - p ∧ τ' = τ) ?_ k1 100 _ τ ⟨0, rfl, by omega, rfl, rfl⟩ (by omega)
  rintro r rec v τ' ⟨p, rfl, hp, rfl, rfl⟩ hrec
  have hplt : p < l.length := by omega
  obtain ⟨c, hc⟩ : ∃ c, l[p]? = some c := ⟨_, List.getElem?_eq_getElem hplt⟩
  have hc61 : ((c.toNat : Int) = 61) ↔ c = 61 := by
    constructor
    · intro h
      apply UInt8.toNat_inj.1
      show c.toNat = 61
      omega
    · rintro rfl; rfl
  have hwp : IntKind.i64.wrap ((p : Int) + 1) = ((p + 1 : Nat) : Int) := wrap64 (by omega) (by omega)
  by_cases h61 : c = 61
  · have hpe : p = eqAt l := by
      rcases Nat.lt_or_ge p (eqAt l) with g | g
      · exact absurd h61 (q2 p c g hc)
      · omega
    have hcs : (splitEq l).cs = [Tx (l.take p), Tx (l.drop (p + 1)), Value.bool false] := by rw [hpe]; rfl
    simp [R10.b_34, indexStr_iff hc, Bt, hc61, h61, hwp, sliceStrTo_iff (l := l) (h := p) (by omega), sliceStrFrom_iff (l := l) (a := p + 1) (by omega), hb, -Int.natCast_add, hcs]
    exact hk0.put (Nat.le_refl _) _
  · have hplt2 : p < eqAt l := by
      rcases Nat.lt_or_ge p (eqAt l) with g | g
      · exact g
      · have e : p = eqAt l := by omega
        rw [e] at hc
        rw [q1] at hc
        injection hc with hc
        exact absurd hc.symm h61
    simp [R10.b_34, indexStr_iff hc, Bt, hc61, h61, hwp, -Int.natCast_add]
    exact hrec (100 - (p + 1)) _ _ (by omega) ⟨p + 1, rfl, by omega, rfl, rfl⟩
theorem awake_spec (hk : 1020 ≤ k) : wpA (callN Try.prog k 11 []) σ fun v τ => v = .bool true := by
  rw [callN_at (by omega), R11.eq]
  simp [R11.g_18, R11.g_22, R11.top]
  refine (static_spec (by omega)).mono ?_
  rintro v τ ⟨he, rfl⟩
  have e : staticV 2 = .tuple #[.agg #[Tx [58, 109, 101, 116, 104, 111, 100], Tx [71, 69, 84], .bool false], .int .i64 0] := by rfl
  have t1 : (.string ⟨#[58, 109, 101, 116, 104, 111, 100]⟩ : Value) = Tx [58, 109, 101, 116, 104, 111, 100] := rfl
  have t2 : (.string ⟨#[71, 69, 84]⟩ : Value) = Tx [71, 69, 84] := rfl
  rw [e]
  simp [R11.g_18, R11.g_22, R11.top, t1, t2, eqStr_iff]
theorem law_TableStatics {idx : Int} (hk : 1030 ≤ k) : wpA (callN Try.prog k 3 [.int .i64 idx]) σ fun v _ => v = .bool true := by
  rw [callN_at (by omega), R3.eq]
  have hbig : 1029 ≤ k - 1 := by omega
  generalize hk1 : k - 1 = k1 at hbig
  simp [R3.g_27, R3.g_29, R3.top]
  refine (static_spec (by omega)).mono ?_
  rintro v τ ⟨he, rfl⟩
  generalize hS : staticH idx = S
  have e : staticV idx = .tuple #[.agg S.1.cs.toArray, .int .i64 S.2] := by unfold staticV; rw [hS]
  rw [e]
  simp [R3.g_27, R3.g_29, R3.top, Hd.cs]
  generalize hT : (τ.push (.cells [.string ⟨#[]⟩, .string ⟨#[]⟩, .bool false] 23 false)).put τ.next (some (.cells [Tx S.1.name, Tx S.1.value, .bool S.1.secret] 23 false)) = T
  have hTb : T.get τ.next = some (.cells [Tx S.1.name, Tx S.1.value, .bool S.1.secret] 23 false) := by rw [← hT]; simp
  have hTn : T.next = τ.next + 1 := by rw [← hT]; simp
  refine (rstatic_spec (by omega)).mono ?_
  rintro v υ ⟨hf, rfl⟩
  have hb := hf.2 τ.next (by omega)
  rw [hTb] at hb
  have hne : ¬ τ.next = υ.next := by have := hf.1; omega
  rw [e]
  simp [R3.g_27, R3.g_29, R3.top, Hd.cs, hb, hne, hd_eqlE, same_refl]
  refine (awake_spec (by omega)).mono ?_
  rintro v _ rfl
  simp [R3.g_27, R3.g_29, R3.top]
theorem size_spec {h : Hd} (hk : 1 ≤ k) : wpA (callN Try.prog k 12 [.agg h.cs.toArray]) σ fun v τ => Ext σ τ ∧ v = .int .i64 (IntKind.i64.wrap (IntKind.i64.wrap ((h.name.length : Int) + (h.value.length : Int)) + 32)) := by
  rw [callN_at (by omega), R12.eq]
  simp [R12.top, Hd.cs, lenStr_iff]
  exact Ext.push _ _
theorem rsize_spec {h : Hd} (hk : 1 ≤ k) : wpA (callN Try.prog k 13 [.agg h.cs.toArray]) σ fun v τ => Ext σ τ ∧ v = .int .i64 (IntKind.i64.wrap (IntKind.i64.wrap ((h.name.length : Int) + (h.value.length : Int)) + 32)) := by
  rw [callN_at (by omega), R13.eq]
  simp [R13.top, Hd.cs, lenStr_iff]
  exact Ext.push _ _
theorem law_TableSizes {h : Hd} (hk : 1030 ≤ k) : wpA (callN Try.prog k 4 [.agg h.cs.toArray]) σ fun v _ => v = .bool true := by
  rw [callN_at (by omega), R4.eq]
  have hbig : 1029 ≤ k - 1 := by omega
  generalize hk1 : k - 1 = k1 at hbig
  simp [R4.d_5, R4.top, Hd.cs]
  refine (size_spec (h := h) (by omega)).mono ?_
  rintro v τ ⟨he, rfl⟩
  have hb := he.2 σ.next (by simp)
  simp at hb
  simp [hb]
  refine ⟨by simp [same, sameL, Tx], (rsize_spec (h := h) (by omega)).mono ?_⟩
  rintro v υ ⟨hf, rfl⟩
  simp [R4.d_5, R4.top]
  refine (awake_spec (by omega)).mono ?_
  rintro v _ rfl
  simp [R4.d_5, R4.top]
end
end Go.Proofs.Ytedoaofmdlcjeaa
