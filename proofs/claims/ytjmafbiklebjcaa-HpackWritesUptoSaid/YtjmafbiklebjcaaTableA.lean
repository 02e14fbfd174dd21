/- Plain laws of what Table computes: the static table. -/
import Derived.Test.YtjmafbiklebjcaaResT
import Derived.Test.YtjmafbiklebjcaaEngY
set_option linter.unusedVariables false
set_option linter.unusedSimpArgs false
namespace Go.Proofs.Ytjmafbiklebjcaa
open Go.Proofs.Ytjmafbiklebjcaa.Eng
/-- The static table's lines. -/
def statL : List (List UInt8) := [[58, 97, 117, 116, 104, 111, 114, 105, 116, 121, 61],
  [58, 109, 101, 116, 104, 111, 100, 61, 71, 69, 84],
  [58, 109, 101, 116, 104, 111, 100, 61, 80, 79, 83, 84],
  [58, 112, 97, 116, 104, 61, 47],
  [58, 112, 97, 116, 104, 61, 47, 105, 110, 100, 101, 120, 46, 104, 116, 109, 108],
  [58, 115, 99, 104, 101, 109, 101, 61, 104, 116, 116, 112],
  [58, 115, 99, 104, 101, 109, 101, 61, 104, 116, 116, 112, 115],
  [58, 115, 116, 97, 116, 117, 115, 61, 50, 48, 48],
  [58, 115, 116, 97, 116, 117, 115, 61, 50, 48, 52],
  [58, 115, 116, 97, 116, 117, 115, 61, 50, 48, 54],
  [58, 115, 116, 97, 116, 117, 115, 61, 51, 48, 52],
  [58, 115, 116, 97, 116, 117, 115, 61, 52, 48, 48],
  [58, 115, 116, 97, 116, 117, 115, 61, 52, 48, 52],
  [58, 115, 116, 97, 116, 117, 115, 61, 53, 48, 48],
  [97, 99, 99, 101, 112, 116, 45, 99, 104, 97, 114, 115, 101, 116, 61],
  [97, 99, 99, 101, 112, 116, 45, 101, 110, 99, 111, 100, 105, 110, 103, 61, 103, 122, 105, 112, 44, 32, 100, 101, 102, 108, 97, 116, 101],
  [97, 99, 99, 101, 112, 116, 45, 108, 97, 110, 103, 117, 97, 103, 101, 61],
  [97, 99, 99, 101, 112, 116, 45, 114, 97, 110, 103, 101, 115, 61],
  [97, 99, 99, 101, 112, 116, 61],
  [97, 99, 99, 101, 115, 115, 45, 99, 111, 110, 116, 114, 111, 108, 45, 97, 108, 108, 111, 119, 45, 111, 114, 105, 103, 105, 110, 61],
  [97, 103, 101, 61],
  [97, 108, 108, 111, 119, 61],
  [97, 117, 116, 104, 111, 114, 105, 122, 97, 116, 105, 111, 110, 61],
  [99, 97, 99, 104, 101, 45, 99, 111, 110, 116, 114, 111, 108, 61],
  [99, 111, 110, 116, 101, 110, 116, 45, 100, 105, 115, 112, 111, 115, 105, 116, 105, 111, 110, 61],
  [99, 111, 110, 116, 101, 110, 116, 45, 101, 110, 99, 111, 100, 105, 110, 103, 61],
  [99, 111, 110, 116, 101, 110, 116, 45, 108, 97, 110, 103, 117, 97, 103, 101, 61],
  [99, 111, 110, 116, 101, 110, 116, 45, 108, 101, 110, 103, 116, 104, 61],
  [99, 111, 110, 116, 101, 110, 116, 45, 108, 111, 99, 97, 116, 105, 111, 110, 61],
  [99, 111, 110, 116, 101, 110, 116, 45, 114, 97, 110, 103, 101, 61],
  [99, 111, 110, 116, 101, 110, 116, 45, 116, 121, 112, 101, 61],
  [99, 111, 111, 107, 105, 101, 61],
  [100, 97, 116, 101, 61],
  [101, 116, 97, 103, 61],
  [101, 120, 112, 101, 99, 116, 61],
  [101, 120, 112, 105, 114, 101, 115, 61],
  [102, 114, 111, 109, 61],
  [104, 111, 115, 116, 61],
  [105, 102, 45, 109, 97, 116, 99, 104, 61],
  [105, 102, 45, 109, 111, 100, 105, 102, 105, 101, 100, 45, 115, 105, 110, 99, 101, 61],
  [105, 102, 45, 110, 111, 110, 101, 45, 109, 97, 116, 99, 104, 61],
  [105, 102, 45, 114, 97, 110, 103, 101, 61],
  [105, 102, 45, 117, 110, 109, 111, 100, 105, 102, 105, 101, 100, 45, 115, 105, 110, 99, 101, 61],
  [108, 97, 115, 116, 45, 109, 111, 100, 105, 102, 105, 101, 100, 61],
  [108, 105, 110, 107, 61],
  [108, 111, 99, 97, 116, 105, 111, 110, 61],
  [109, 97, 120, 45, 102, 111, 114, 119, 97, 114, 100, 115, 61],
  [112, 114, 111, 120, 121, 45, 97, 117, 116, 104, 101, 110, 116, 105, 99, 97, 116, 101, 61],
  [112, 114, 111, 120, 121, 45, 97, 117, 116, 104, 111, 114, 105, 122, 97, 116, 105, 111, 110, 61],
  [114, 97, 110, 103, 101, 61],
  [114, 101, 102, 101, 114, 101, 114, 61],
  [114, 101, 102, 114, 101, 115, 104, 61],
  [114, 101, 116, 114, 121, 45, 97, 102, 116, 101, 114, 61],
  [115, 101, 114, 118, 101, 114, 61],
  [115, 101, 116, 45, 99, 111, 111, 107, 105, 101, 61],
  [115, 116, 114, 105, 99, 116, 45, 116, 114, 97, 110, 115, 112, 111, 114, 116, 45, 115, 101, 99, 117, 114, 105, 116, 121, 61],
  [116, 114, 97, 110, 115, 102, 101, 114, 45, 101, 110, 99, 111, 100, 105, 110, 103, 61],
  [117, 115, 101, 114, 45, 97, 103, 101, 110, 116, 61],
  [118, 97, 114, 121, 61],
  [118, 105, 97, 61],
  [119, 119, 119, 45, 97, 117, 116, 104, 101, 110, 116, 105, 99, 97, 116, 101, 61]]

structure Hd where
  name : List UInt8
  value : List UInt8
  secret : Bool
def Hd.cs (h : Hd) : List Value := [Tx h.name, Tx h.value, .bool h.secret]
theorem Hd.len (h : Hd) : h.cs.length = 3 := rfl
def Hd.none : Hd := ⟨[], [], false⟩
/-- Where the equals sign stands. -/
def eqAt : List UInt8 → Nat
  | [] => 0
  | c :: l => if c = 61 then 0 else eqAt l + 1
def splitEq (l : List UInt8) : Hd := ⟨l.take (eqAt l), l.drop (eqAt l + 1), false⟩
def statT : List Hd := statL.map splitEq
theorem stat_len : statL.length = 61 := by decide
theorem stat_ok : ∀ l ∈ statL, eqAt l < l.length ∧ l.length < 100 ∧ (l.all fun c => decide (c.toNat < 128)) = true := by decide +kernel
theorem eqAt_spec : ∀ (l : List UInt8), eqAt l < l.length → l[eqAt l]? = some 61 ∧ ∀ p c, p < eqAt l → l[p]? = some c → c ≠ 61
  | [], h => by simp [eqAt] at h
  | a :: l, h => by
    unfold eqAt at h ⊢
    by_cases ha : a = 61
    · simp [ha]
    · simp only [ha, if_false] at h ⊢
      have ih := eqAt_spec l (by simpa using h)
      refine ⟨by simpa using ih.1, fun p c hp hc => ?_⟩
      cases p with
      | zero => simp at hc; subst hc; exact ha
      | succ p => exact ih.2 p c (by omega) (by simpa using hc)
theorem tx_cells (l : List (List UInt8)) : ∀ v ∈ l.map Tx, v.cells = #[v] ∧ isCell v = true := by
  intro v hv
  obtain ⟨a, _, rfl⟩ := List.mem_map.1 hv
  exact ⟨rfl, rfl⟩
section
variable {σ : AW} {k : Nat} {Q : Value → AW → Prop}
set_option maxRecDepth 100000 in
theorem rstatics_spec (hk : 1 ≤ k) : wpA (callN Try.prog k 54 []) σ fun v τ => Ext σ τ ∧ Own σ.next τ v 9 1 61 (statL.map Tx) := by
  rw [callN_at hk, R54.eq]
  unfold R54.top
  refine aw_bindV (aw_ret (aw_bindV (aw_literal (vs := statL.map Tx) (by rfl) (by rw [List.length_map, stat_len]) (tx_cells _) (by omega) ?_)))
  simp
  exact ⟨Ext.push _ _, own_new (Nat.le_refl _) (by rw [List.length_map, stat_len])⟩
set_option maxRecDepth 100000 in
theorem statics_spec (hk : 1 ≤ k) : wpA (callN Try.prog k 46 []) σ fun v τ => Ext σ τ ∧ v = .agg (statL.map Tx).toArray := by
  rw [callN_at hk, R46.eq]
  unfold R46.top
  refine aw_bindV (aw_new (by rfl) (aw_bindV (aw_arrLit (vs := statL.map Tx) (by rfl) (by rw [List.length_map, stat_len]; rfl) (tx_cells _) ?_)))
  have hcs : (Value.agg (statL.map Tx).toArray).cells.toList = statL.map Tx := by simp
  refine aw_bindV (aw_store (e := _) (by rw [AW.get_push, if_pos rfl]) (by simp [stat_len]) (Nat.le_refl _) ?_ ?_)
  · rw [hcs]
    exact List.all_eq_true.2 fun v hv => (tx_cells _ v hv).2
  · rw [hcs, splice_whole (by rw [List.length_map, stat_len]; rfl)]
    refine aw_bindV (aw_loads (by rw [AW.get_put, if_pos rfl]) (by rw [List.length_map, stat_len]; omega) (aw_ret ⟨?_, ?_⟩))
    · refine ⟨by simp, fun b hb => ?_⟩
      have h1 : b ≠ σ.next := by omega
      simp [h1]
    · rw [List.drop_zero, List.take_of_length_le (by rw [List.length_map, stat_len]; omega)]
theorem hd_fill (a b : List UInt8) : fillA ([(0, 1), (1, 1), (2, 1)][·]?) [Value.string ⟨#[]⟩, .string ⟨#[]⟩, .bool false] [(0, Tx a), (1, Tx b)] = some (Hd.cs ⟨a, b, false⟩) := by
  simp [Hd.cs]
/-- The lines so far. -/
def linesUp (i : Nat) : List Hd := (statL.take i).map splitEq
theorem linesUp_succ {i : Nat} {l : List UInt8} (h : statL[i]? = some l) : linesUp (i + 1) = linesUp i ++ [splitEq l] := by
  unfold linesUp
  rw [List.take_add_one, h]; simp
theorem linesUp_len {i : Nat} (h : i ≤ 61) : (linesUp i).length = i := by
  unfold linesUp
  rw [List.length_map, List.length_take, stat_len]; omega
theorem lines_spec (hk : 1000 ≤ k) : wpA (callN Try.prog k 41 []) σ fun v τ => Ext σ τ ∧ Own σ.next τ v 56 3 61 (statT.flatMap Hd.cs) := by
  rw [callN_at (by omega), R41.eq]
  have hbig : 999 ≤ k - 1 := by omega
  generalize hk1 : k - 1 = k1 at hbig
  unfold R41.top
  refine aw_bindV (aw_ret (aw_bindV (aw_makeSlice (l := 0) (c := 61) (by omega) (by omega) (by omega) rfl rfl (by omega) fun vs hl hok _ => ?_)))
  generalize hT : σ.push (.cells vs 56 false) = T
  have hown0 : Own σ.next T (.slice (some ⟨σ.next, 0, some 3⟩) 0 61) 56 3 0 ((linesUp 0).flatMap Hd.cs) := by
    rw [← hT]
    exact ⟨rfl, .inr ⟨σ.next, 61, vs, rfl, by omega, Nat.le_refl _, by simp, by simp, by omega, rfl⟩⟩
  have hk0 : Kept σ.next σ T := by rw [← hT]; exact (Ext.push _ _).kept (Nat.le_refl _)
  refine aw_bindV (aw_ret (aw_bindV ((statics_spec (by omega)).mono ?_)))
  rintro v τ ⟨he, rfl⟩
  refine aw_bindV (aw_ret ?_)
  refine aw_loop2 (fun r u v τ' => ∃ i : Nat, v = .int .i64 i ∧ i ≤ 61 ∧ r = 61 - i ∧ Kept σ.next σ τ' ∧ Own σ.next τ' u 56 3 i ((linesUp i).flatMap Hd.cs)) ?_ k1 61 _ _ τ ⟨0, rfl, by omega, rfl, hk0.trans (he.kept hk0.1), hown0.ext he⟩ (by omega)
  rintro r rec u v τ' ⟨i, rfl, hi, rfl, hki, hown⟩ hrec
  have hsn := hki.1
  by_cases hlt : i < 61
  · have hlt' : (i : Int) < 61 := by omega
    obtain ⟨l, hl⟩ : ∃ l, statL[i]? = some l := ⟨_, List.getElem?_eq_getElem (by rw [stat_len]; exact hlt)⟩
    obtain ⟨o1, o2, o3⟩ := stat_ok l (List.mem_of_getElem? hl)
    obtain ⟨q1, q2⟩ := eqAt_spec l o1
    have hv : (statL.map Tx).toArray.toList[i * 1]? = some (Tx l) := by simp [hl]
    have hwi : IntKind.i64.wrap ((i : Int) + 1) = ((i + 1 : Nat) : Int) := wrap64 (by omega) (by omega)
    simp [R41.b_48, hlt']
    refine (wpA_index hlt hv).2 ?_
    refine (wpA_range (s := strOf l)).2 ?_
    generalize hR : τ'.push (.iter (strOf l) 0) = R
    have hownR : Own σ.next R u 56 3 i ((linesUp i).flatMap Hd.cs) := by rw [← hR]; exact hown.ext (Ext.push _ _)
    have hkR : Kept σ.next σ R := by rw [← hR]; exact hki.push hsn _
    have hitR : R.get τ'.next = some (.iter (strOf l) 0) := by rw [← hR]; simp
    have hnR : R.next = τ'.next + 1 := by rw [← hR]; simp
    have hfar : ¬ InBlk u τ'.next := by
      rintro ⟨o, s, m, c, rfl⟩
      obtain ⟨_, ⟨h1, _⟩ | ⟨b', c', ws, h1, _, h2, h3, _⟩⟩ := hown
      · cases h1
      · injection h1 with h1; injection h1 with h1; injection h1 with h1; omega
    refine aw_loop1 (fun r x τ'' => ∃ p : Nat, x = u ∧ p ≤ eqAt l ∧ r = 100 - p ∧ Kept σ.next σ τ'' ∧ Own σ.next τ'' u 56 3 i ((linesUp i).flatMap Hd.cs) ∧ τ''.get τ'.next = some (.iter (strOf l) p)) ?_ k1 100 _ R ⟨0, rfl, by omega, rfl, hkR, hownR, hitR⟩ (by omega)
    rintro r2 rec2 x τ2 ⟨p, rfl, hp, rfl, hk2, hown2, hit2⟩ hrec2
    have hplt : p < l.length := by omega
    obtain ⟨c, hc⟩ : ∃ c, l[p]? = some c := ⟨_, List.getElem?_eq_getElem hplt⟩
    have hc128 : c.toNat < 128 := by
      have := List.all_eq_true.1 o3 c (List.mem_of_getElem? hc)
      simpa using this
    have hc61 : ((c.toNat : Int) = 61) ↔ c = 61 := by
      constructor
      · intro h
        apply UInt8.toNat_inj.1
        show c.toNat = 61
        omega
      · rintro rfl; rfl
    have n1 : ¬ (τ'.next : Nat) < σ.next := by omega
    have hput : Own σ.next (τ2.put τ'.next (some (.iter (strOf l) (p + 1)))) x 56 3 i ((linesUp i).flatMap Hd.cs) := by
      obtain ⟨g1, g2 | ⟨b', c', ws, g2, g3, g4, g5, g6, g7⟩⟩ := hown2
      · exact ⟨g1, .inl g2⟩
      · refine ⟨g1, .inr ⟨b', c', ws, g2, g3, g4, by simpa using g5, ?_, g7⟩⟩
        have hb' : b' ≠ τ'.next := by
          rintro rfl
          exact hfar ⟨_, _, _, _, g2⟩
        rw [AW.get_put, if_neg hb']
        exact g6
    have hkput : Kept σ.next σ (τ2.put τ'.next (some (.iter (strOf l) (p + 1)))) := hk2.put (by omega) _
    generalize hP : τ2.put τ'.next (some (.iter (strOf l) (p + 1))) = P at *
    have hitP : P.get τ'.next = some (.iter (strOf l) (p + 1)) := by rw [← hP]; simp
    by_cases h61 : c = 61
    · have hpe : p = eqAt l := by
        rcases Nat.lt_or_ge p (eqAt l) with g | g
        · exact absurd h61 (q2 p c g hc)
        · omega
      have hwp : IntKind.i64.wrap ((p : Int) + 1) = ((p + 1 : Nat) : Int) := wrap64 (by omega) (by omega)
      simp [R41.b_46, next_ascii hit2 hc hc128, hc61, h61, hP, sliceStrTo_iff (l := l) (h := p) (by omega), hwp, sliceStrFrom_iff (l := l) (a := p + 1) (by omega), zeros, List.range_succ, -Int.natCast_add]
      have hsn2 : σ.next ≤ P.next := hkput.1
      have hcs : [Tx (l.take p), Tx (l.drop (p + 1)), Value.bool false] = (splitEq l).cs := by rw [hpe]; rfl
      rw [hcs]
      refine aw_appz hput (us := (splitEq l).cs) rfl rfl (by omega) (by omega) hsn2 fun w τ3 h3 h4 => ?_
      simp [R41.j_16, hwi, -Int.natCast_add]
      refine hrec (61 - (i + 1)) _ _ _ (by omega) ⟨i + 1, rfl, by omega, rfl, hkput.trans h4, ?_⟩
      rw [linesUp_succ hl]
      simpa using h3
    · have hplt2 : p < eqAt l := by
        rcases Nat.lt_or_ge p (eqAt l) with g | g
        · exact g
        · have e : p = eqAt l := by omega
          rw [e] at hc
          rw [q1] at hc
          injection hc with hc
          exact absurd hc.symm h61
      simp [R41.b_46, next_ascii hit2 hc hc128, hc61, h61, hP]
      exact hrec2 (100 - (p + 1)) _ _ (by omega) ⟨p + 1, rfl, by omega, rfl, hkput, hput, hitP⟩
  · have e : i = 61 := by omega
    subst e
    simp [R41.b_48]
    have e2 : linesUp 61 = statT := by unfold linesUp statT; rw [List.take_of_length_le (by rw [stat_len]; omega)]
    rw [e2] at hown
    exact ⟨hki, hown⟩

/-! ### headers compared -/
set_option maxRecDepth 100000 in
theorem hd_parts (a b c : Value) : purely Try.prog (part 9 #[a, b, c] 0) = some a ∧ purely Try.prog (part 9 #[a, b, c] 1) = some b ∧ purely Try.prog (part 4 #[a, b, c] 2) = some c := ⟨by kernel_rfl, by kernel_rfl, by kernel_rfl⟩
theorem fields56 : Try.prog.underlying 56 = some (.struct (Try.prog.fieldsOf 56)) := by unfold Program.fieldsOf; rw [Try.underlying56]
def Hd.same (x y : Hd) : Bool := decide (x.name = y.name) && (decide (x.value = y.value) && (x.secret == y.secret))
theorem hd_eqF (x y : Hd) : purely Try.prog (Op.eqFields 9999 x.cs.toArray y.cs.toArray (Try.prog.fieldsOf 56).toList) = some (x.same y) := by
  have hf : (Try.prog.fieldsOf 56).toList = (match Try.prog.underlying 56 with | some (.struct fs) => fs.toList | _ => []) := by unfold Program.fieldsOf; rw [Try.underlying56]
  rw [hf, Try.underlying56]
  obtain ⟨p1, p2, p3⟩ := hd_parts (Tx x.name) (Tx x.value) (.bool x.secret)
  obtain ⟨q1, q2, q3⟩ := hd_parts (Tx y.name) (Tx y.value) (.bool y.secret)
  have s1 := purely_eqStr (P := Try.prog) 9998 9 (strOf x.name) (strOf y.name) Try.underlying9
  have s2 := purely_eqStr (P := Try.prog) 9998 9 (strOf x.value) (strOf y.value) Try.underlying9
  have s3 := purely_eqBool (P := Try.prog) 9998 4 x.secret y.secret Try.underlying4
  rw [toList_strOf] at s1 s2
  simp only [Hd.cs, Tx] at p1 p2 p3 q1 q2 q3 ⊢
  simp only [Op.eqFields, purely_bind, purely_ite, p1, p2, p3, q1, q2, q3, Option.bind_some, s1, s2, s3, purely_pure]
  have n1 : ("Name" : String) ≠ "_" := by decide
  have n2 : ("Value" : String) ≠ "_" := by decide
  have n3 : ("Secret" : String) ≠ "_" := by decide
  rw [if_pos n1, if_pos n2, if_pos n3]
  unfold Hd.same
  by_cases h1 : x.name = y.name
  · by_cases h2 : x.value = y.value
    · cases h3 : (x.secret == y.secret) <;> simp [h1, h2]
    · simp [h1, h2]
  · simp [h1]
theorem guard56 : Try.prog.eqGuardType Try.prog.depth 56 = false := by kernel_rfl
theorem stood56 : Try.prog.stoodInHeld 56 = false := by kernel_rfl
theorem hd_flat (x : Hd) : flat (.agg x.cs.toArray) = true := by
  simp only [Hd.cs, Tx]
  rfl
theorem hd_eql {x y : Hd} : wpA (binA Try.prog .eql 56 (.agg x.cs.toArray) (.agg y.cs.toArray)) σ Q ↔ Q (.bool (x.same y)) σ := by
  refine wpA_iff ?_
  simp only [binA]
  rw [hd_flat, hd_flat, purely_eql guard56 fields56 stood56 (hd_eqF x y)]
  rfl
theorem hd_neq {x y : Hd} : wpA (binA Try.prog .neq 56 (.agg x.cs.toArray) (.agg y.cs.toArray)) σ Q ↔ Q (.bool !(x.same y)) σ := by
  refine wpA_iff ?_
  simp only [binA]
  rw [hd_flat, hd_flat, purely_neq guard56 fields56 stood56 (hd_eqF x y)]
  rfl
theorem hd_eqlE {a b a' b' : List UInt8} {c c' : Bool} : wpA (binA Try.prog .eql 56 (.agg #[Tx a, Tx b, .bool c]) (.agg #[Tx a', Tx b', .bool c'])) σ Q ↔ Q (.bool (Hd.same ⟨a, b, c⟩ ⟨a', b', c'⟩)) σ := hd_eql (x := ⟨a, b, c⟩) (y := ⟨a', b', c'⟩)
theorem hd_neqE {a b a' b' : List UInt8} {c c' : Bool} : wpA (binA Try.prog .neq 56 (.agg #[Tx a, Tx b, .bool c]) (.agg #[Tx a', Tx b', .bool c'])) σ Q ↔ Q (.bool !(Hd.same ⟨a, b, c⟩ ⟨a', b', c'⟩)) σ := hd_neq (x := ⟨a, b, c⟩) (y := ⟨a', b', c'⟩)
theorem same_refl (x : Hd) : x.same x = true := by simp [Hd.same]

/-! ### an entry of the static table -/
def staticH (idx : Int) : Hd × Int := if 1 ≤ idx ∧ idx ≤ 61 then ((statT[(idx - 1).toNat]?).getD Hd.none, 0) else (Hd.none, 50)
def staticV (idx : Int) : Value := .tuple #[.agg (staticH idx).1.cs.toArray, .int .i64 (staticH idx).2]
theorem statT_len : statT.length = 61 := by unfold statT; rw [List.length_map, stat_len]
theorem none_cs : Hd.none.cs = [.string ⟨#[]⟩, .string ⟨#[]⟩, .bool false] := rfl
theorem rstatic_spec {idx : Int} (hk : 1010 ≤ k) : wpA (callN Try.prog k 50 [.int .i64 idx]) σ fun v τ => Ext σ τ ∧ v = staticV idx := by
  rw [callN_at (by omega), R50.eq]
  have hbig : 1009 ≤ k - 1 := by omega
  generalize hk1 : k - 1 = k1 at hbig
  simp [R50.top]
  refine (rstatics_spec (by omega)).mono ?_
  rintro v τ ⟨he, hown⟩
  have hb := he.2 σ.next (by simp)
  simp at hb
  have hnx : σ.next < τ.next := by have := he.1; simp at this; omega
  have hk0 : Kept σ.next σ τ := (((Ext.push σ (.cells [.string ⟨#[]⟩, .string ⟨#[]⟩, .bool false] 56 false)).kept (Nat.le_refl _))).trans (he.kept (by simp))
  by_cases a1 : idx < 1
  · have e : staticV idx = .tuple #[.agg Hd.none.cs.toArray, .int .i64 50] := by unfold staticV staticH; rw [if_neg (by omega)]
    rw [e, none_cs]
    simp [R50.g_46, R50.top, a1, hb]
    exact hk0.put (Nat.le_refl _) _
  by_cases a2 : 61 < idx
  · have e : staticV idx = .tuple #[.agg Hd.none.cs.toArray, .int .i64 50] := by unfold staticV staticH; rw [if_neg (by omega)]
    rw [e, none_cs]
    simp [R50.g_46, R50.top, a1, a2, hb, len_iff hown.sl]
    exact hk0.put (Nat.le_refl _) _
  obtain ⟨i, rfl⟩ : ∃ i : Nat, idx = ((i + 1 : Nat) : Int) := ⟨(idx - 1).toNat, by omega⟩
  have hi : i < statL.length := by rw [stat_len]; omega
  have hx : statL[i]? = some statL[i] := List.getElem?_eq_getElem hi
  generalize hl : statL[i] = l at hx
  obtain ⟨o1, o2, o3⟩ := stat_ok l (List.mem_of_getElem? hx)
  obtain ⟨q1, q2⟩ := eqAt_spec l o1
  have e : staticV ((i + 1 : Nat) : Int) = .tuple #[.agg (splitEq l).cs.toArray, .int .i64 0] := by
    unfold staticV staticH statT
    rw [if_pos (by omega), show (((i + 1 : Nat) : Int) - 1).toNat = i by omega, List.getElem?_map, hx]
    rfl
  have hwi : IntKind.i64.wrap (((i + 1 : Nat) : Int) - 1) = (i : Int) := by rw [wrap64 (by omega) (by omega)]; omega
  rw [e]
  simp [R50.g_46, R50.top, a1, a2, -Int.natCast_add, len_iff hown.sl, hwi, ↓at1_all hown.sl hx]
  refine aw_loop1 (fun r v τ' => ∃ p : Nat, v = .int .i64 p ∧ p ≤ eqAt l ∧ r = 100 - p ∧ τ' = τ) ?_ k1 100 _ τ ⟨0, rfl, by omega, rfl, rfl⟩ (by omega)
  rintro r rec v τ' ⟨p, rfl, hp, rfl, rfl⟩ hrec
  have hplt : p < l.length := by omega
  obtain ⟨c, hc⟩ : ∃ c, l[p]? = some c := ⟨_, List.getElem?_eq_getElem hplt⟩
  have hc61 : ((c.toNat : Int) = 61) ↔ c = 61 := by
    constructor
    · intro h
      apply UInt8.toNat_inj.1
      show c.toNat = 61
      omega
    · rintro rfl; rfl
  have hwp : IntKind.i64.wrap ((p : Int) + 1) = ((p + 1 : Nat) : Int) := wrap64 (by omega) (by omega)
  by_cases h61 : c = 61
  · have hpe : p = eqAt l := by
      rcases Nat.lt_or_ge p (eqAt l) with g | g
      · exact absurd h61 (q2 p c g hc)
      · omega
    have hcs : (splitEq l).cs = [Tx (l.take p), Tx (l.drop (p + 1)), Value.bool false] := by rw [hpe]; rfl
    simp [R50.b_34, indexStr_iff hc, Bt, hc61, h61, hwp, sliceStrTo_iff (l := l) (h := p) (by omega), sliceStrFrom_iff (l := l) (a := p + 1) (by omega), hb, -Int.natCast_add, hcs]
    exact hk0.put (Nat.le_refl _) _
  · have hplt2 : p < eqAt l := by
      rcases Nat.lt_or_ge p (eqAt l) with g | g
      · exact g
      · have e : p = eqAt l := by omega
        rw [e] at hc
        rw [q1] at hc
        injection hc with hc
        exact absurd hc.symm h61
    simp [R50.b_34, indexStr_iff hc, Bt, hc61, h61, hwp, -Int.natCast_add]
    exact hrec (100 - (p + 1)) _ _ (by omega) ⟨p + 1, rfl, by omega, rfl, rfl⟩
theorem size_spec {h : Hd} (hk : 1 ≤ k) : wpA (callN Try.prog k 32 [.agg h.cs.toArray]) σ fun v τ => Ext σ τ ∧ v = .int .i64 (IntKind.i64.wrap (IntKind.i64.wrap ((h.name.length : Int) + (h.value.length : Int)) + 32)) := by
  rw [callN_at (by omega), R32.eq]
  simp [R32.top, Hd.cs, lenStr_iff]
  exact Ext.push _ _
theorem rsize_spec {h : Hd} (hk : 1 ≤ k) : wpA (callN Try.prog k 23 [.agg h.cs.toArray]) σ fun v τ => Ext σ τ ∧ v = .int .i64 (IntKind.i64.wrap (IntKind.i64.wrap ((h.name.length : Int) + (h.value.length : Int)) + 32)) := by
  rw [callN_at (by omega), R23.eq]
  simp [R23.top, Hd.cs, lenStr_iff]
  exact Ext.push _ _
end
end Go.Proofs.Ytjmafbiklebjcaa

namespace Go.Proofs.Ytjmafbiklebjcaa
open Go.Proofs.Ytjmafbiklebjcaa.Eng
/-! ### the list -/
def hsize (h : Hd) : Nat := h.name.length + h.value.length + 32
def total (l : List Hd) : Nat := (l.map hsize).sum
theorem total_cons (h : Hd) (l : List Hd) : total (h :: l) = hsize h + total l := by simp [total]
theorem total_app (a b : List Hd) : total (a ++ b) = total a + total b := by simp [total]
theorem total_rev (l : List Hd) : total l.reverse = total l := by
  induction l with
  | nil => rfl
  | cons h l ih => rw [List.reverse_cons, total_app, ih, total_cons]; simp [total]; omega
theorem total_len : ∀ (l : List Hd), 32 * l.length ≤ total l
  | [] => by simp [total]
  | h :: l => by
    have := total_len l
    rw [total_cons, List.length_cons]
    unfold hsize
    omega
/-- The oldest fall, until no more than so many bytes are left. -/
def fallL : List Hd → Int → List Hd
  | [], _ => []
  | h :: l, left => if left < (total (h :: l) : Int) then fallL l left else h :: l
theorem fall_le : ∀ (l : List Hd) (left : Int), total (fallL l left) ≤ total l
  | [], _ => Nat.le_refl _
  | h :: l, left => by
    unfold fallL
    split
    · have := fall_le l left
      rw [total_cons]
      omega
    · exact Nat.le_refl _
theorem fall_ok : ∀ (l : List Hd) (left : Int), 0 ≤ left → (total (fallL l left) : Int) ≤ left
  | [], left, h => by simpa [fallL, total] using h
  | x :: l, left, h => by
    unfold fallL
    split
    · exact fall_ok l left h
    · omega
theorem fall_same : ∀ (l : List Hd) (left : Int), (total l : Int) ≤ left → fallL l left = l
  | [], _, _ => rfl
  | x :: l, left, h => by
    unfold fallL
    rw [if_neg (by omega)]
theorem fall_sub : ∀ (l : List Hd) (left : Int), ∀ x ∈ fallL l left, x ∈ l
  | [], _, x, h => h
  | y :: l, left, x, h => by
    unfold fallL at h
    split at h
    · exact List.mem_cons_of_mem _ (fall_sub l left x h)
    · exact h
def plain (h : Hd) : Hd := { h with secret := false }
theorem plain_size (h : Hd) : hsize (plain h) = hsize h := rfl
def addL (l : List Hd) (most : Nat) (h : Hd) : List Hd := if hsize h ≤ most then fallL l ((most : Int) - hsize h) ++ [plain h] else fallL l ((most : Int) - hsize h)
/-- What holds of a table. -/
structure TOk (l : List Hd) (most : Nat) : Prop where
  le : most ≤ 65536
  bytes : total l ≤ most
  flat : ∀ x ∈ l, x.secret = false
theorem TOk.len {l : List Hd} {most : Nat} (h : TOk l most) : l.length ≤ 2048 := by
  have := total_len l
  have := h.bytes
  have := h.le
  omega
theorem TOk.fall {l : List Hd} {most most' : Nat} (h : TOk l most) (hm : most' ≤ 65536) : TOk (fallL l most') most' :=
  ⟨hm, by have := fall_ok l most' (by omega); omega, fun x hx => h.flat x (fall_sub _ _ x hx)⟩
theorem TOk.add {l : List Hd} {most : Nat} (h : TOk l most) (x : Hd) : TOk (addL l most x) most := by
  refine ⟨h.le, ?_, ?_⟩
  · unfold addL
    split
    · have := fall_ok l ((most : Int) - hsize x) (by omega)
      rw [total_app]
      simp only [total, List.map_cons, List.map_nil, List.sum_cons, List.sum_nil] at *
      rw [plain_size]
      omega
    · have := fall_le l ((most : Int) - hsize x)
      have := h.bytes
      omega
  · unfold addL
    split
    · intro y hy
      rcases List.mem_append.1 hy with hy | hy
      · exact h.flat y (fall_sub _ _ y hy)
      · have : y = plain x := by simpa using hy
        rw [this]; rfl
    · exact fun y hy => h.flat y (fall_sub _ _ y hy)
/-! ### what changes -/
theorem own_still {B : Nat} {σ τ : AW} {v : Value} {e : TypeId} {z n : Nat} {vs : List Value} (h : Own B σ v e z n vs) (hn : σ.next ≤ τ.next) (k : ∀ b, B ≤ b → b < σ.next → τ.get b = σ.get b) : Own B τ v e z n vs := by
  obtain ⟨h1, h | ⟨b, c, ws, h2, hc, h3', h4, h5, h6⟩⟩ := h
  · exact ⟨h1, .inl h⟩
  · exact ⟨h1, .inr ⟨b, c, ws, h2, hc, h3', by omega, by rw [k b h3' h4]; exact h5, h6⟩⟩
/-- But for the table's object and its list's block all is as it was; the list is in that block or in a new one. -/
def Fr (b : Nat) (v v' : Value) (σ τ : AW) : Prop := σ.next ≤ τ.next ∧ (∀ c, c < σ.next → c ≠ b → ¬ InBlk v c → τ.get c = σ.get c) ∧ ∀ c, InBlk v' c → InBlk v c ∨ σ.next ≤ c
theorem Fr.trans {b : Nat} {v v' v'' : Value} {σ τ υ : AW} (h : Fr b v v' σ τ) (k : Fr b v' v'' τ υ) : Fr b v v'' σ υ := by
  refine ⟨Nat.le_trans h.1 k.1, fun c hc hb hv => ?_, fun c hc => ?_⟩
  · have h1 := h.1
    rw [k.2.1 c (by omega) hb fun hv' => ?_, h.2.1 c hc hb hv]
    rcases h.2.2 c hv' with g | g
    · exact hv g
    · omega
  · rcases k.2.2 c hc with g | g
    · exact h.2.2 c g
    · have := h.1
      exact .inr (by omega)
theorem ext_fr {b : Nat} {v : Value} {σ τ : AW} (h : Ext σ τ) : Fr b v v σ τ := ⟨h.1, fun c hc _ _ => h.2 c hc, fun c hc => .inl hc⟩
theorem Fr.kept {b B B' : Nat} {v v' : Value} {e : TypeId} {z n : Nat} {vs : List Value} {σ τ : AW} (h : Fr b v v' σ τ) (o : Own B σ v e z n vs) (hb : B' ≤ b) (hB : B' ≤ B) (hn : B' ≤ σ.next) : Kept B' σ τ := by
  refine ⟨h.1, fun c hc => h.2.1 c (by omega) (by omega) ?_⟩
  rintro ⟨o', s, m, c', hv⟩
  obtain ⟨_, ⟨h1, _⟩ | ⟨b', c', ws, h1, _, h2, _⟩⟩ := o
  · rw [hv] at h1; cases h1
  · rw [hv] at h1; injection h1 with h1; injection h1 with h1; injection h1 with h1; omega
section
variable {σ : AW} {k : Nat} {Q : Value → AW → Prop}
theorem own_from {B i n z : Nat} {e : TypeId} {v : Value} {vs : List Value} {j : IntKind} (h : Own B σ v e z n vs) (hi : i ≤ n) (hq : ∀ s, σ.source z s = some (n - i, vs.drop (i * z)) → Q s σ) : wpA (sliceA z v (some (.int j (i : Nat))) none) σ Q := by
  obtain ⟨hl, ⟨rfl, rfl⟩ | ⟨b, c, ws, rfl, hc, hB, h4, h5, h6, h7⟩⟩ := h
  · have e1 : i = 0 := by omega
    subst e1
    have e2 : vs = [] := List.length_eq_zero_iff.1 (by simpa using hl)
    subst e2
    refine ⟨.slice none 0 0, σ, ?_, hq _ (by simp [AW.source])⟩
    simp [sliceA, bound, need2, ret]
  · refine ⟨.slice (some ⟨b, 0 + i * z, some z⟩) (n - i) (c - i), σ, ?_, hq _ ?_⟩
    · have b2 : bound (some (.int j (i : Nat))) 0 n = some i := by
        simp only [bound]; rw [if_pos ⟨by omega, by omega⟩]; rfl
      have b1 : bound none n c = some n := rfl
      simp only [sliceA, b1, b2, need2]
      rw [if_pos hc, if_pos trivial]; rfl
    · have hm3 : (n - i) * z = n * z - i * z := Nat.sub_mul ..
      have hm2 : i * z ≤ n * z := Nat.mul_le_mul_right z hi
      simp only [AW.source, Nat.zero_add]
      by_cases h0 : n - i = 0
      · have : i = n := by omega
        subst this
        simp [hl]
      · rw [if_neg h0, if_pos trivial]
        simp only [AW.cells, h5]
        rw [if_pos (by omega), ← h7, List.drop_take, ← hm3]
theorem own_copy {B m n z : Nat} {e : TypeId} {v s : Value} {vs us : List Value} (h : Own B σ v e z n vs) (hs : σ.source z s = some (m, us)) (hm : m ≤ n) (hu : us.length = m * z) (hok : us.all isCell = true)
    (hq : ∀ τ, Own B τ v e z n (us ++ vs.drop (m * z)) → (∀ c, ¬ InBlk v c → τ.get c = σ.get c) → τ.next = σ.next → Q (.int .i64 (m : Nat)) τ) : wpA (copyA z v s) σ Q := by
  obtain ⟨hl, ⟨rfl, rfl⟩ | ⟨b, c, ws, rfl, hc, hB, h4, h5, h6, h7⟩⟩ := h
  · have e1 : m = 0 := by omega
    subst e1
    have e2 : us = [] := List.length_eq_zero_iff.1 (by simpa using hu)
    subst e2
    refine ⟨.int .i64 0, σ, ?_, hq σ ⟨by simpa using hl, .inl ⟨rfl, rfl⟩⟩ (fun _ _ => rfl) rfl⟩
    simp [copyA, hs]
  · have hmz : m * z ≤ n * z := Nat.mul_le_mul_right z hm
    have hmin : min m n = m := Nat.min_eq_left hm
    by_cases h0 : m = 0
    · subst h0
      have e2 : us = [] := List.length_eq_zero_iff.1 (by simpa using hu)
      subst e2
      refine ⟨.int .i64 0, σ, ?_, hq σ ⟨by simpa using hl, .inr ⟨b, c, ws, rfl, hc, hB, h4, h5, h6, by simpa using h7⟩⟩ (fun _ _ => rfl) rfl⟩
      simp [copyA, hs]
    · refine ⟨.int .i64 (m : Nat), σ.put b (some (.cells (splice ws 0 us) e false)), ?_, hq _ ⟨?_, .inr ⟨b, c, splice ws 0 us, rfl, hc, hB, by simpa using h4, by simp, ?_, ?_⟩⟩ (fun d hd => ?_) rfl⟩
      · have hst : σ.storeAt b 0 us = some (σ.put b (some (.cells (splice ws 0 us) e false))) := by
          simp only [AW.storeAt, h5]
          rw [if_pos ⟨by omega, hok⟩]
        simp only [copyA, hs]
        rw [if_pos hu, hmin, if_neg h0, if_pos trivial, List.take_of_length_le (by omega), hst]
      · simp [hu, hl]; omega
      · rw [splice_def]; simp [hu]; omega
      · rw [splice_def, hu, ← h7]
        simp only [List.take_zero, List.nil_append, Nat.zero_add]
        rw [List.take_append, hu, List.take_of_length_le (by omega), List.drop_take]
      · rw [AW.get_put, if_neg]
        rintro rfl
        exact hd ⟨_, _, _, _, rfl⟩
theorem own_prefix {B m n z : Nat} {e : TypeId} {v : Value} {vs : List Value} {j : IntKind} (h : Own B σ v e z n vs) (hm : m ≤ n) (hq : ∀ v', Own B σ v' e z m (vs.take (m * z)) → (∀ c, InBlk v' c → InBlk v c) → Q v' σ) : wpA (sliceA z v none (some (.int j (m : Nat)))) σ Q := by
  obtain ⟨hl, ⟨rfl, rfl⟩ | ⟨b, c, ws, rfl, hc, hB, h4, h5, h6, h7⟩⟩ := h
  · have e1 : m = 0 := by omega
    subst e1
    refine ⟨.slice none 0 0, σ, ?_, hq _ ⟨by simp, .inl ⟨rfl, rfl⟩⟩ fun _ h => h⟩
    simp [sliceA, bound, need2, ret]
  · have hmz : m * z ≤ n * z := Nat.mul_le_mul_right z hm
    refine ⟨.slice (some ⟨b, 0 + 0 * z, some z⟩) (m - 0) (c - 0), σ, ?_, hq _ ⟨?_, .inr ⟨b, c, ws, by simp, by omega, hB, h4, h5, by omega, ?_⟩⟩ ?_⟩
    · have b2 : bound (some (.int j (m : Nat))) n c = some m := by
        simp only [bound]; rw [if_pos ⟨by omega, by omega⟩]; rfl
      have b1 : bound none 0 m = some 0 := rfl
      simp only [sliceA, b1, b2, need2]
      rw [if_pos (by omega), if_pos trivial]; rfl
    · rw [List.length_take]; omega
    · rw [← h7, List.take_take, Nat.min_eq_left hmz]
    · rintro c' ⟨o, s, n', cc, he⟩
      injection he with he; injection he with he; injection he with he
      subst he
      exact ⟨_, _, _, _, rfl⟩
end
/-! ### small ones -/
theorem und46 : undP Try.prog 46 isPtrT = true := undP_of Try.underlying46
theorem und41 : undP Try.prog 41 isPtrT = true := undP_of Try.underlying41
theorem und4' : undP Try.prog 4 isBoolT = true := undP_of Try.underlying4
section
variable {σ : AW} {k : Nat} {Q : Value → AW → Prop}
theorem none_iff {b : Nat} {v m n : Value} (hb : σ.get b = some (.cells [.bool true, v, m, n] 64 false)) (hk : 1 ≤ k) : wpA (callN Try.prog k 25 [ptr b]) σ Q ↔ Q (.bool false) σ := by
  rw [callN_at hk, R25.eq]
  simp [R25.g_9, R25.top, und46, hb, eqPtrU]
theorem may_iff {m : Int} (hk : 1 ≤ k) : wpA (callN Try.prog k 24 [.int .i64 m]) σ Q ↔ Q (.bool (decide (0 ≤ m ∧ m ≤ 65536))) σ := by
  rw [callN_at hk, R24.eq]
  by_cases h1 : 0 ≤ m
  · by_cases h2 : m ≤ 65536 <;> simp [R24.g_9, R24.top, h1, h2]
  · simp [R24.g_9, R24.top, h1]
theorem copy_str {b n : Nat} {l : List UInt8} {vs : List Value} (hb : σ.get b = some (.cells vs 5 false)) (hv : vs.length = n) (hn : n = l.length) (h0 : 0 < n) : wpA (copyA 1 (.slice (some ⟨b, 0, some 1⟩) n n) (Tx l)) σ Q ↔ Q (.int .i64 (n : Nat)) (σ.put b (some (.cells (l.map Bt) 5 false))) := by
  refine wpA_iff ?_
  subst hn
  have hsrc : σ.source 1 (Tx l) = some (l.length, l.map Bt) := by
    have e : ((⟨l.toArray⟩ : ByteArray).data.toList.map fun b : UInt8 => Value.int .u8 b.toNat) = l.map Bt := by simp [Bt]
    show some (_, _) = _
    rw [← e]
    rfl
  have hst : σ.storeAt b 0 (l.map Bt) = some (σ.put b (some (.cells (l.map Bt) 5 false))) := by
    have hok := Bt_cell l
    rw [← cellsOk_eq] at hok
    simp only [AW.storeAt, hb]
    simp only [hok, splice_whole (vs := vs) (new := l.map Bt) (by simp [hv])]
    simp [hv]
  simp only [copyA, hsrc]
  simp [h0, hst]
  have hne : ¬ l = [] := fun e => by rw [e] at h0; simp at h0
  rw [if_neg hne, List.take_of_length_le (by simp), hst]
theorem bytesStr_iff {b n : Nat} {l : List UInt8} (hb : σ.get b = some (.cells (l.map Bt) 5 false)) (hn : n = l.length) (h0 : 0 < n) (h40 : n ≤ 2 ^ 40) : wpA (bytesStrA 5 (.pointer (some ⟨b, 0, none⟩)) (.int .i64 (n : Nat))) σ Q ↔ Q (Tx l) (σ.put b none) := by
  refine wpA_iff ?_
  subst hn
  have h1 : 0 < (l.length : Int) ∧ (l.length : Int) ≤ 281474976710656 := by omega
  simp only [bytesStrA, hb]
  rw [if_pos h1]
  simp [ofBytes_Bt, List.take_of_length_le]
  rfl
theorem clone_spec {l : List UInt8} (hl : l.length ≤ 2 ^ 40) (hk : 2 ≤ k) : wpA (callN Try.prog k 43 [Tx l]) σ fun v τ => Ext σ τ ∧ v = Tx l := by
  rw [callN_at (by omega), R43.eq]
  generalize hk1 : k - 1 = k1
  simp [R43.top]
  rw [callN_at (by omega), R49.eq]
  by_cases h0 : l.length = 0
  · have : l = [] := List.length_eq_zero_iff.1 h0
    subst this
    simp [R49.top, lenStr_iff]
    exact ⟨Ext.refl _, rfl⟩
  · have h0' : ¬ (l.length : Int) = 0 := by omega
    have hne : ¬ l = [] := fun e => h0 (by rw [e]; rfl)
    simp [R49.top, lenStr_iff, h0, h0', hne]
    refine aw_makeSlice (l := l.length) (c := l.length) (by omega) (by omega) (by omega) rfl rfl (by omega) fun vs hl' hok _ => ?_
    simp only [Nat.mul_one] at hl'
    rw [copy_str (by simp) hl' rfl (by omega)]
    simp [hne]
    refine ⟨by omega, ?_⟩
    rw [bytesStr_iff (by simp) rfl (by omega) hl]
    exact ⟨((((Ext.push σ (.cells vs 5 false)).kept (Nat.le_refl _)).put (Nat.le_refl _) _).put (Nat.le_refl _) _), rfl⟩
end
end Go.Proofs.Ytjmafbiklebjcaa

namespace Go.Proofs.Ytjmafbiklebjcaa
open Go.Proofs.Ytjmafbiklebjcaa.Eng
theorem cs_ok (l : List Hd) : (l.flatMap Hd.cs).all isCell = true := by
  refine List.all_eq_true.2 fun v hv => ?_
  obtain ⟨h, _, hv⟩ := List.mem_flatMap.1 hv
  simp only [Hd.cs, List.mem_cons, List.not_mem_nil, or_false] at hv
  rcases hv with rfl | rfl | rfl <;> rfl
theorem cs_len (l : List Hd) : (l.flatMap Hd.cs).length = l.length * 3 := length_flatMap Hd.len l
theorem own_sl_ne {B : Nat} {σ : AW} {v : Value} {e : TypeId} {z n : Nat} {vs : List Value} (h : Own B σ v e z n vs) {c : Nat} (hc : c < B) : ¬ InBlk v c := by
  rintro ⟨o, s, m, c', rfl⟩
  obtain ⟨_, ⟨h, _⟩ | ⟨b, c', ws, h, _, h1, _⟩⟩ := h
  · cases h
  · injection h with h; injection h with h; injection h with h; omega
theorem own_new_lt {B : Nat} {σ : AW} {v : Value} {e : TypeId} {z n : Nat} {vs : List Value} (h : Own B σ v e z n vs) {c : Nat} (hc : InBlk v c) : c < σ.next := by
  obtain ⟨o, s, m, c', rfl⟩ := hc
  obtain ⟨_, ⟨h, _⟩ | ⟨b, c', ws, h, _, h1, h2, _⟩⟩ := h
  · cases h
  · injection h with h; injection h with h; injection h with h; omega
section
variable {σ : AW} {k : Nat} {Q : Value → AW → Prop}
theorem size_spec' {h : Hd} (hs : hsize h ≤ 16777216) (hk : 1 ≤ k) : wpA (callN Try.prog k 32 [.agg h.cs.toArray]) σ fun v τ => Ext σ τ ∧ v = .int .i64 (hsize h : Nat) := by
  refine (size_spec hk).mono ?_
  rintro v τ ⟨he, rfl⟩
  refine ⟨he, ?_⟩
  unfold hsize at *
  rw [wrap64 (n := (h.name.length : Int) + (h.value.length : Int)) (by omega) (by omega), wrap64 (by omega) (by omega)]
  rfl
theorem rsize_spec' {h : Hd} (hs : hsize h ≤ 16777216) (hk : 1 ≤ k) : wpA (callN Try.prog k 23 [.agg h.cs.toArray]) σ fun v τ => Ext σ τ ∧ v = .int .i64 (hsize h : Nat) := by
  refine (rsize_spec hk).mono ?_
  rintro v τ ⟨he, rfl⟩
  refine ⟨he, ?_⟩
  unfold hsize at *
  rw [wrap64 (n := (h.name.length : Int) + (h.value.length : Int)) (by omega) (by omega), wrap64 (by omega) (by omega)]
  rfl
theorem fall_spec {B b : Nat} {v : Value} {l : List Hd} {left m : Int} (hb : σ.get b = some (.cells [.bool true, v, .int .i64 m, .int .i64 (total l : Nat)] 64 false)) (own : Own B σ v 56 3 l.length (l.flatMap Hd.cs)) (hbB : b < B) (hB : B ≤ σ.next) (ht : total l ≤ 65536) (hk : 5000 ≤ k) :
    wpA (callN Try.prog k 26 [ptr b, .int .i64 left]) σ fun r τ => r = .tuple #[] ∧ ∃ v', τ.get b = some (.cells [.bool true, v', .int .i64 m, .int .i64 (total (fallL l left) : Nat)] 64 false) ∧ Own B τ v' 56 3 (fallL l left).length ((fallL l left).flatMap Hd.cs) ∧ Fr b v v' σ τ := by
  rw [callN_at (by omega), R26.eq]
  have hbig : 4999 ≤ k - 1 := by omega
  generalize hk1 : k - 1 = k1 at hbig
  have hlen := total_len l
  simp [R26.top]
  refine aw_loop1 (fun r x υ => ∃ i : Nat, x = .int .i64 i ∧ i ≤ l.length ∧ r = l.length - i ∧ υ.get b = some (.cells [.bool true, v, .int .i64 m, .int .i64 (total (l.drop i) : Nat)] 64 false) ∧ σ.next ≤ υ.next ∧ (∀ c, c < σ.next → c ≠ b → υ.get c = σ.get c) ∧ fallL (l.drop i) left = fallL l left) ?_ k1 l.length _ σ ⟨0, rfl, by omega, rfl, by simpa using hb, Nat.le_refl _, fun _ _ _ => rfl, rfl⟩ (by omega)
  rintro r rec x υ ⟨i, rfl, hi, rfl, hbU, hn, hσ, hf⟩ hrec
  have ownU : Own B υ v 56 3 l.length (l.flatMap Hd.cs) := own_still own hn fun c h1 h2 => hσ c h2 (by omega)
  have hsl := ownU.sl
  have fin : fallL (l.drop i) left = l.drop i → wpA (sliceA 3 v (some (.int .i64 i)) none) υ fun w τ => wpA (copyA 3 v w) τ fun w τ => wpA (hereV [((loadA none (.pointer (some ⟨b, 1, none⟩)) : AM Value), v)] (bindV (sliceA 3 v none (some w)) fun v53 => bindV (nilCheckA (ptr b)) fun v54 => bindV (fieldAddrA 1 v54) fun v55 => bindV (storeA 1 v55 v53) fun _ => ret (.tuple #[]))) τ
      fun r τ => r = .tuple #[] ∧ ∃ v', τ.get b = some (.cells [.bool true, v', .int .i64 m, .int .i64 (total (fallL l left) : Nat)] 64 false) ∧ Own B τ v' 56 3 (fallL l left).length ((fallL l left).flatMap Hd.cs) ∧ Fr b v v' σ τ := by
    intro hd
    rw [hf] at hd
    refine own_from ownU hi fun s hs => ?_
    rw [drop_flatMap Hd.len] at hs
    refine own_copy ownU hs (by omega) (by rw [cs_len, List.length_drop]) (cs_ok _) fun τ own' hget hnx => ?_
    have hbT : τ.get b = some (.cells [.bool true, v, .int .i64 m, .int .i64 (total (l.drop i) : Nat)] 64 false) := by rw [hget b (own_sl_ne ownU hbB)]; exact hbU
    simp [here_iff, hbT, same_sl hsl]
    refine own_prefix own' (by omega) fun v' ow hin => ?_
    have e : (((l.drop i).flatMap Hd.cs ++ (l.flatMap Hd.cs).drop ((l.length - i) * 3)).take ((l.length - i) * 3)) = (l.drop i).flatMap Hd.cs := by
      rw [List.take_append_of_le_length (by rw [cs_len, List.length_drop]; omega), List.take_of_length_le (by rw [cs_len, List.length_drop]; omega)]
    rw [e] at ow
    have hvc : v'.cells = #[v'] ∧ isCell v' = true := by
      obtain ⟨a, c, rfl⟩ := ow.sl.form
      exact ⟨rfl, rfl⟩
    simp [hbT, hvc.1, hvc.2]
    refine ⟨v', by simp [hd], ?_, ?_⟩
    · rw [hd, List.length_drop]
      refine own_still ow (by simp) fun c h1 h2 => ?_
      have c1 : ¬ c = b := by omega
      simp [c1]
    · refine ⟨by simp; omega, fun c h1 h2 h3 => ?_, fun c h1 => .inl (hin c h1)⟩
      simp [h2]
      rw [hget c h3]
      exact hσ c h1 h2
  by_cases hlt : i < l.length
  · obtain ⟨h, hh⟩ : ∃ h, l[i]? = some h := ⟨_, List.getElem?_eq_getElem hlt⟩
    have hdr : l.drop i = h :: l.drop (i + 1) := by
      obtain ⟨h1, h2⟩ := List.getElem?_eq_some_iff.1 hh
      rw [List.drop_eq_getElem_cons h1, h2]
    have htl : total (l.drop i) ≤ total l := by
      have := congrArg total (List.take_append_drop i l)
      rw [total_app] at this
      omega
    have htc := total_cons h (l.drop (i + 1))
    rw [← hdr] at htc
    by_cases hleft : left < (total (l.drop i) : Int)
    · have hws : IntKind.i64.wrap ((total (l.drop i) : Int) - (hsize h : Int)) = ((total (l.drop (i + 1)) : Nat) : Int) := by rw [wrap64 (by omega) (by omega)]; omega
      have hwi : IntKind.i64.wrap ((i : Int) + 1) = ((i + 1 : Nat) : Int) := wrap64 (by omega) (by omega)
      simp [R26.b_66, R26.g_59, hbU, len_iff hsl, hlt, hleft, ↓atS_all Hd.len (by omega) hsl hh, -Int.natCast_add]
      refine (size_spec' (by omega) (by omega)).mono ?_
      rintro w τ ⟨he, rfl⟩
      have hbn : b < υ.next := by omega
      have hbT : τ.get b = some (.cells [.bool true, v, .int .i64 m, .int .i64 (total (l.drop i) : Nat)] 64 false) := by rw [he.2 b hbn]; exact hbU
      have hen := he.1
      simp [here_iff, hbT, hws, hwi, -Int.natCast_add]
      refine hrec (l.length - (i + 1)) _ _ (by omega) ⟨i + 1, rfl, by omega, rfl, by simp, by simp; omega, fun c h1 h2 => ?_, ?_⟩
      · simp [h2]
        rw [he.2 c (by omega)]
        exact hσ c h1 h2
      · rw [← hf, hdr, fallL, ← hdr, if_pos hleft]
    · simp [R26.b_66, R26.g_59, hbU, len_iff hsl, hlt, hleft, -Int.natCast_add]
      have := fin (fall_same _ _ (by omega))
      simpa using this
  · have e : i = l.length := by omega
    subst e
    simp [R26.b_66, R26.g_59, hbU, len_iff hsl, -Int.natCast_add]
    have := fin (by simp [fallL])
    simpa using this
end
end Go.Proofs.Ytjmafbiklebjcaa

namespace Go.Proofs.Ytjmafbiklebjcaa
open Go.Proofs.Ytjmafbiklebjcaa.Eng
/-- The program's table. -/
def Tab (B b : Nat) (σ : AW) (v : Value) (l : List Hd) (most : Nat) : Prop := σ.get b = some (.cells [.bool true, v, .int .i64 (most : Nat), .int .i64 (total l : Nat)] 64 false) ∧ Own B σ v 56 3 l.length (l.flatMap Hd.cs)
/-- The reference's. -/
def RTab (B b : Nat) (σ : AW) (v : Value) (l : List Hd) (most : Nat) : Prop := σ.get b = some (.cells [.int .i64 (most : Nat), v] 60 false) ∧ Own B σ v 56 3 l.length (l.reverse.flatMap Hd.cs)
theorem Tab.ext {B b : Nat} {σ τ : AW} {v : Value} {l : List Hd} {most : Nat} (h : Tab B b σ v l most) (hb : b < σ.next) (k : Ext σ τ) : Tab B b τ v l most := ⟨by rw [k.2 b hb]; exact h.1, h.2.ext k⟩
theorem RTab.ext {B b : Nat} {σ τ : AW} {v : Value} {l : List Hd} {most : Nat} (h : RTab B b σ v l most) (hb : b < σ.next) (k : Ext σ τ) : RTab B b τ v l most := ⟨by rw [k.2 b hb]; exact h.1, h.2.ext k⟩
theorem own_val {B : Nat} {σ : AW} {v : Value} {e : TypeId} {z n : Nat} {vs : List Value} (h : Own B σ v e z n vs) : v.cells = #[v] ∧ isCell v = true := by
  obtain ⟨a, c, rfl⟩ := h.sl.form
  exact ⟨rfl, rfl⟩
section
variable {σ : AW} {k : Nat} {Q : Value → AW → Prop}
theorem rbytes_spec {b : Nat} {v : Value} {l : List Hd} {m : Value} (hb : σ.get b = some (.cells [m, v] 60 false)) (hbn : b < σ.next) (hv : Sl σ v 3 l.length (l.flatMap Hd.cs)) (ht : total l ≤ 65536) (hk : 5000 ≤ k) :
    wpA (callN Try.prog k 11 [ptr b]) σ fun r τ => Ext σ τ ∧ r = .int .i64 (total l : Nat) := by
  rw [callN_at (by omega), R11.eq]
  have hbig : 4999 ≤ k - 1 := by omega
  generalize hk1 : k - 1 = k1 at hbig
  have hlen := total_len l
  simp [R11.top]
  refine aw_loop2 (fun r u x υ => ∃ i : Nat, u = .int .i64 (total (l.take i) : Nat) ∧ x = .int .i64 i ∧ i ≤ l.length ∧ r = l.length - i ∧ Ext σ υ) ?_ k1 l.length _ _ σ ⟨0, rfl, rfl, by omega, rfl, Ext.refl _⟩ (by omega)
  rintro r rec u x υ ⟨i, rfl, rfl, hi, rfl, ex⟩ hrec
  have hbU : υ.get b = some (.cells [m, v] 60 false) := by rw [ex.2 b hbn]; exact hb
  have hsl := hv.ext ex
  by_cases hlt : i < l.length
  · obtain ⟨h, hh⟩ : ∃ h, l[i]? = some h := ⟨_, List.getElem?_eq_getElem hlt⟩
    have htk : l.take (i + 1) = l.take i ++ [h] := by rw [List.take_add_one, hh]; rfl
    have h1 := total_app (l.take i) [h]
    have h2 : total [h] = hsize h := by simp [total]
    have h3 := total_app (l.take (i + 1)) (l.drop (i + 1))
    rw [List.take_append_drop] at h3
    rw [← htk] at h1
    have hws : IntKind.i64.wrap ((total (l.take i) : Int) + (hsize h : Int)) = ((total (l.take (i + 1)) : Nat) : Int) := by rw [wrap64 (by omega) (by omega)]; omega
    have hwi : IntKind.i64.wrap ((i : Int) + 1) = ((i + 1 : Nat) : Int) := wrap64 (by omega) (by omega)
    simp [R11.b_34, hbU, len_iff hsl, hlt, ↓atS_all Hd.len (by omega) hsl hh, -Int.natCast_add]
    refine (rsize_spec' (by omega) (by omega)).mono ?_
    rintro w τ ⟨he, rfl⟩
    simp [hws, hwi, -Int.natCast_add]
    exact hrec (l.length - (i + 1)) _ _ _ (by omega) ⟨i + 1, rfl, rfl, by omega, rfl, ex.trans he⟩
  · have e : i = l.length := by omega
    subst e
    simp [R11.b_34, hbU, len_iff hsl, -Int.natCast_add]
    exact ex
theorem rfall_spec {B b : Nat} {v : Value} {l : List Hd} {most n : Nat} (hT : RTab B b σ v l most) (hbB : b < B) (hB : B ≤ σ.next) (ht : total l ≤ 65536) (hm : most ≤ 65536) (hn : n ≤ 16777216) (hk : 6000 ≤ k) :
    wpA (callN Try.prog k 27 [ptr b, .int .i64 n]) σ fun r τ => r = .tuple #[] ∧ ∃ v', RTab B b τ v' (fallL l ((most : Int) - n)) most ∧ Fr b v v' σ τ := by
  rw [callN_at (by omega), R27.eq]
  have hbig : 5999 ≤ k - 1 := by omega
  generalize hk1 : k - 1 = k1 at hbig
  have hlen := total_len l
  simp [R27.top]
  refine aw_loop0 (fun r υ => ∃ (j : Nat) (w : Value), j ≤ l.length ∧ r = l.length - j ∧ RTab B b υ w (l.drop j) most ∧ Fr b v w σ υ ∧ fallL (l.drop j) ((most : Int) - n) = fallL l ((most : Int) - n)) ?_ k1 l.length σ ⟨0, v, by omega, rfl, by simpa using hT, ext_fr (Ext.refl σ), rfl⟩ (by omega)
  rintro r rec υ ⟨j, w, hj, rfl, ⟨hbU, ownU⟩, hfr, hf⟩ hrec
  have hfn := hfr.1
  have hsl := ownU.sl
  have hdl : (l.drop j).length = l.length - j := List.length_drop
  have done : fallL (l.drop j) ((most : Int) - n) = l.drop j → ∀ υ', Ext υ υ' → ∃ v', RTab B b υ' v' (fallL l ((most : Int) - n)) most ∧ Fr b v v' σ υ' := by
    intro hd υ' ex
    rw [hf] at hd
    rw [hd]
    exact ⟨w, RTab.ext ⟨hbU, ownU⟩ (by omega) ex, hfr.trans (ext_fr ex)⟩
  by_cases hlt : j < l.length
  · obtain ⟨h, hh⟩ : ∃ h, l[j]? = some h := ⟨_, List.getElem?_eq_getElem hlt⟩
    have hdr : l.drop j = h :: l.drop (j + 1) := by
      obtain ⟨h1, h2⟩ := List.getElem?_eq_some_iff.1 hh
      rw [List.drop_eq_getElem_cons h1, h2]
    have htl : total (l.drop j) ≤ total l := by
      have := congrArg total (List.take_append_drop j l)
      rw [total_app] at this
      omega
    have hpos : (0 : Int) < ((l.drop j).length : Int) := by omega
    have hpos' : 0 < (l.drop j).length := by omega
    have hwt : IntKind.i64.wrap ((total (l.drop j) : Int) + (n : Int)) = ((total (l.drop j) + n : Nat) : Int) := wrap64 (by omega) (by omega)
    have hrb := fun (k : Nat) (hk : 5000 ≤ k) => rbytes_spec (σ := υ) (k := k) (b := b) (v := w) (l := (l.drop j).reverse) (m := .int .i64 (most : Nat)) hbU (by omega) (by rw [List.length_reverse]; exact hsl) (by rw [total_rev]; omega) hk
    rw [total_rev] at hrb
    have hne : ¬ l.length ≤ j := by omega
    simp [R27.b_40, hbU, len_iff hsl, hlt, hpos, hpos', hne, -List.length_drop]
    refine (hrb k1 (by omega)).mono ?_
    rintro u τ ⟨he, rfl⟩
    have hen := he.1
    have hbT : τ.get b = some (.cells [.int .i64 (most : Nat), w] 60 false) := by rw [he.2 b (by omega)]; exact hbU
    have ownT := ownU.ext he
    by_cases hgt : most < total (l.drop j) + n
    · have hgt' : (most : Int) < ((total (l.drop j) + n : Nat) : Int) := by omega
      have hwl : IntKind.i64.wrap (((l.drop j).length : Int) - 1) = (((l.drop j).length - 1 : Nat) : Int) := by rw [wrap64 (by omega) (by omega)]; omega
      simp [there_iff, hbT, hbU, hwt, hgt, hgt', R27.d_20, len_iff ownT.sl, hwl, -Int.natCast_add, -List.length_drop]
      refine own_prefix ownT (by omega) fun v' ow hin => ?_
      have hvc := own_val ow
      have e : (((l.drop j).reverse.flatMap Hd.cs).take (((l.drop j).length - 1) * 3)) = (l.drop (j + 1)).reverse.flatMap Hd.cs := by
        rw [take_flatMap Hd.len, hdr]
        simp
      rw [e] at ow
      simp [hbT, hvc.1, hvc.2]
      refine hrec (l.length - (j + 1)) _ (by omega) ⟨j + 1, v', by omega, rfl, ⟨by simp, ?_⟩, ?_, ?_⟩
      · have e2 : (l.drop (j + 1)).length = (l.drop j).length - 1 := by rw [List.length_drop, List.length_drop]; omega
        rw [e2]
        refine own_still ow (by simp) fun c h1 h2 => ?_
        have c1 : ¬ c = b := by omega
        simp [c1]
      · refine hfr.trans ⟨by simp; omega, fun c h1 h2 h3 => ?_, fun c h1 => .inl (hin c h1)⟩
        simp [h2]
        exact he.2 c h1
      · rw [← hf, hdr, fallL, ← hdr, if_pos (by omega)]
    · have hgt' : ¬ (most : Int) < ((total (l.drop j) + n : Nat) : Int) := by omega
      simp [there_iff, hbT, hbU, hwt, hgt, hgt', R27.d_20, -Int.natCast_add, -List.length_drop]
      exact done (fall_same _ _ (by omega)) τ he
  · have e : j = l.length := by omega
    subst e
    have h0 : l.drop l.length = [] := by simp
    have hz : ¬ (0 : Int) < ((l.drop l.length).length : Int) := by rw [h0]; simp
    simp [R27.b_40, hbU, len_iff hsl, R27.d_20]
    exact done (by rw [h0]; rfl) υ (Ext.refl _)
end
end Go.Proofs.Ytjmafbiklebjcaa

namespace Go.Proofs.Ytjmafbiklebjcaa
open Go.Proofs.Ytjmafbiklebjcaa.Eng
section
variable {σ : AW} {k : Nat} {Q : Value → AW → Prop}
theorem aw_appE {B : Nat} {e : TypeId} {z bytes n : Nat} {s : Value} {us vs : List Value} (hs : Own B σ s e z n vs) (hz : us.length = z) (hx : cellsOk us = true) (hb : 0 < bytes) (hroom : (n + 1) * bytes ≤ 2 ^ 47) (hB : B ≤ σ.next)
    (h : ∀ v τ, Own B τ v e z (n + 1) (vs ++ us) → σ.next ≤ τ.next → (∀ c, c < σ.next → ¬ InBlk s c → τ.get c = σ.get c) → (∀ c, InBlk v c → σ.next ≤ c) → Q v τ) : wpA (appendA e z bytes s (.slice (some ⟨σ.next, 0, some z⟩) 1 1)) (σ.push (.cells us e false)) Q := by
  have hE : Ext σ (σ.push (.cells us e false)) := Ext.push _ _
  refine aw_append (hs.ext hE) (own_new (B := σ.next) (n := 1) (Nat.le_refl _) (by simpa using hz)).sl (by omega) (by rw [cellsOk_eq]; exact hx) hb hroom (by simp; omega) fun v τ h1 h2 h3 h4 => ?_
  refine h v τ h1 (by rw [h4]; simp; omega) (fun c hc hn => ?_) fun c hc => ?_
  · rw [h2.2 c (by simp; omega) hn]
    exact hE.2 c hc
  · obtain ⟨o, s', m, c', rfl⟩ := h3
    obtain ⟨o2, s2, m2, c2, he⟩ := hc
    injection he with he; injection he with he; injection he with he
    simp at he
    omega
theorem add_spec {B b : Nat} {v : Value} {l : List Hd} {most : Nat} {x : Hd} (hT : Tab B b σ v l most) (hbB : b < B) (hB : B ≤ σ.next) (ok : TOk l most) (hx : hsize x ≤ 16777216) (hk : 7000 ≤ k)
    (hq : ∀ v' τ, Tab B b τ v' (addL l most x) most → Fr b v v' σ τ → Q (.int .i64 0) τ) : wpA (callN Try.prog k 33 [ptr b, .agg x.cs.toArray]) σ Q := by
  rw [callN_at (by omega), R33.eq]
  have hbig : 6999 ≤ k - 1 := by omega
  generalize hk1 : k - 1 = k1 at hbig
  have hxn : x.name.length ≤ 2 ^ 40 := by unfold hsize at hx; omega
  have hxv : x.value.length ≤ 2 ^ 40 := by unfold hsize at hx; omega
  have hbne : ¬ b = σ.next := by omega
  have hle := ok.le
  have hby := ok.bytes
  simp [R33.top, R33.j_27, Hd.cs]
  rw [none_iff (v := v) (m := .int .i64 (most : Nat)) (n := .int .i64 (total l : Nat)) (by simp [hbne]; exact hT.1) (by omega)]
  simp
  generalize hP : (σ.push (.cells [Tx x.name, Tx x.value, .bool x.secret] 56 false)).put σ.next (some (.cells [Tx x.name, Tx x.value, .bool false] 56 false)) = P
  have hPx : P.get σ.next = some (.cells [Tx x.name, Tx x.value, .bool false] 56 false) := by rw [← hP]; simp
  have hPn : P.next = σ.next + 1 := by rw [← hP]; simp
  have hPe : Ext σ P := by rw [← hP]; exact ((Ext.push σ _).kept (Nat.le_refl _)).put (Nat.le_refl _) _
  clear hP
  refine (clone_spec hxn (by omega)).mono ?_
  rintro _ τ1 ⟨he1, rfl⟩
  have h1x : τ1.get σ.next = some (.cells [Tx x.name, Tx x.value, .bool false] 56 false) := by rw [he1.2 _ (by omega)]; exact hPx
  simp [there_iff, hPx, h1x]
  refine ⟨by simp [same, Tx], (clone_spec hxv (by omega)).mono ?_⟩
  rintro _ τ2 ⟨he2, rfl⟩
  have h12 := he1.1
  have h2x : τ2.get σ.next = some (.cells [Tx x.name, Tx x.value, .bool false] 56 false) := by rw [he2.2 _ (by omega)]; exact h1x
  simp [h2x]
  rw [put_same h2x]
  have e2 : Ext σ τ2 := (hPe.trans he1).trans he2
  refine (size_spec' (h := plain x) hx (by omega)).mono ?_
  rintro _ τ3 ⟨he3, rfl⟩
  have h23 := he2.1
  have e3 : Ext σ τ3 := e2.trans he3
  have e3n := he3.1
  have hT3 := hT.ext (by omega) e3
  have h3x : τ3.get σ.next = some (.cells [Tx x.name, Tx x.value, .bool false] 56 false) := by rw [he3.2 _ (by omega)]; exact h2x
  rw [plain_size]
  have hwl : IntKind.i64.wrap ((most : Int) - (hsize x : Int)) = (most : Int) - (hsize x : Int) := wrap64 (by omega) (by omega)
  simp [hT3.1, hwl]
  refine (fall_spec hT3.1 hT3.2 hbB (by omega) (by omega) (by omega)).mono ?_
  rintro _ τ4 ⟨rfl, v', hb4, own4, fr4⟩
  have h4n := fr4.1
  have h4x : τ4.get σ.next = some (.cells [Tx x.name, Tx x.value, .bool false] 56 false) := by
    rw [fr4.2.1 _ (by omega) (fun e => hbne e.symm) fun h => ?_]
    · exact h3x
    · have := own_new_lt hT.2 h
      omega
  have hfr : Fr b v v' σ τ4 := (ext_fr e3).trans fr4
  by_cases hfit : hsize x ≤ most
  · have hfit' : (hsize x : Int) ≤ (most : Int) := by omega
    have e : addL l most x = fallL l ((most : Int) - hsize x) ++ [plain x] := by unfold addL; rw [if_pos hfit]
    have htt := fall_ok l ((most : Int) - hsize x) (by omega)
    have hll := total_len (fallL l ((most : Int) - hsize x))
    have hta := total_app (fallL l ((most : Int) - hsize x)) [plain x]
    have ht1 : total [plain x] = hsize x := by simp [total, plain_size]
    generalize hF : fallL l ((most : Int) - hsize x) = F at *
    have hwa : IntKind.i64.wrap ((total F : Int) + (hsize x : Int)) = ((total (F ++ [plain x]) : Nat) : Int) := by rw [wrap64 (by omega) (by omega)]; omega
    rw [e] at hq
    simp [hb4, hfit, hfit', h4x, zeros, List.range_succ, here_iff, hbne]
    have hb4n : ¬ b = τ4.next := by omega
    have hsx : ¬ σ.next = τ4.next := by omega
    simp [hb4n, hb4, same_sl own4.sl]
    refine aw_appE own4 (us := (plain x).cs) rfl rfl (by omega) (by omega) (by omega) fun w τ5 h5 h6 h7 h8 => ?_
    have hb5 : τ5.get b = some (.cells [.bool true, v', .int .i64 (most : Nat), .int .i64 (total F : Nat)] 64 false) := by rw [h7 b (by omega) (own_sl_ne own4 hbB)]; exact hb4
    have hwc := own_val h5
    simp [hb5, hwc.1, hwc.2, hwa]
    refine hq w _ ⟨by simp, ?_⟩ (hfr.trans ⟨by simp; omega, fun c h1 h2 h3 => ?_, fun c h1 => .inr (h8 c h1)⟩)
    · refine own_still (by simpa using h5) (by simp) fun c h1 h2 => ?_
      have c1 : ¬ c = b := by omega
      simp [c1]
    · simp [h2]
      exact h7 c h1 h3
  · have hfit' : ¬ (hsize x : Int) ≤ (most : Int) := by omega
    have e : addL l most x = fallL l ((most : Int) - hsize x) := by unfold addL; rw [if_neg hfit]
    rw [e] at hq
    simp [hb4, hfit, hfit']
    exact hq v' _ ⟨hb4, own4⟩ hfr
end
end Go.Proofs.Ytjmafbiklebjcaa
