/- The program's settings and the reference's, side by side. -/
import Derived.Test.YtlgeeibaohdjhaaSettingY
set_option linter.unusedVariables false
set_option linter.unusedSimpArgs false
namespace Go.Proofs.Ytlgeeibaohdjhaa
open Go.Proofs.Ytlgeeibaohdjhaa.Eng
section
variable {σ υ τ : AW} {k : Nat} {Q : Value → AW → Prop} {b m rb vb : Nat} {f f' g : Int → Int} {q rq q' : Value} {ps rps ps' : List (Value × List St)}
structure Both (σ υ : AW) (b m rb vb : Nat) (f f' : Int → Int) (q rq : Value) (ps rps : List (Value × List St)) : Prop where
  ext : Ext σ υ
  sets : Sets υ b m f q
  rsets : RSets υ rb vb f' rq
  line : Line υ q ps
  rline : Line υ rq rps
  qn : ∀ c, InBlk q c → σ.next ≤ c
  rqn : ∀ c, InBlk rq c → σ.next ≤ c
  disj : ∀ c, InBlk q c → ¬ InBlk rq c
  nb : σ.next ≤ b
  nm : σ.next ≤ m
  nrb : σ.next ≤ rb
  nvb : σ.next ≤ vb
theorem diff {c d : Nat} {ws ws' : List Value} {e e' : TypeId} {ro ro' : Bool} (h1 : σ.get c = some (.cells ws e ro)) (h2 : σ.get d = some (.cells ws' e' ro')) (he : e ≠ e') : c ≠ d := fun h => by
  rw [h, h2] at h1
  injection h1 with h1
  injection h1 with _ h1 _
  exact he h1.symm
theorem line_same (h : Line υ q ps) (hn : υ.next ≤ τ.next) (hg : ∀ c, c < υ.next → (∃ ws, υ.get c = some (.cells ws 36 false) ∧ InBlk q c) ∨ (∃ ws, υ.get c = some (.cells ws 24 false)) → τ.get c = υ.get c) : Line τ q ps :=
  ⟨ownO_same h.own hn fun c hc => by
    obtain ⟨h1, ws, h2⟩ := ownO_blk h.own c hc
    exact hg c h1 (.inl ⟨ws, h2, hc⟩), fun p hp => ownO_same (h.each p hp) hn fun c hc => by
    obtain ⟨h1, ws, h2⟩ := ownO_blk (h.each p hp) c hc
    exact hg c h1 (.inr ⟨ws, h2⟩)⟩
theorem rsets_kept (h : RSets υ rb vb f q) (hn : υ.next ≤ τ.next) (h1 : τ.get rb = υ.get rb) (h2 : τ.get vb = υ.get vb) : RSets τ rb vb f q :=
  ⟨h1.trans h.cells, h2.trans h.vals, h.ne, Nat.lt_of_lt_of_le h.hb hn, Nat.lt_of_lt_of_le h.hv hn⟩
theorem both_ext (h : Both σ υ b m rb vb f f' q rq ps rps) (he : Ext υ τ) : Both σ τ b m rb vb f f' q rq ps rps :=
  ⟨h.ext.trans he, sets_ext h.sets he, rsets_kept h.rsets he.1 (he.2 _ h.rsets.hb) (he.2 _ h.rsets.hv), line_ext h.line he, line_ext h.rline he, h.qn, h.rqn, h.disj, h.nb, h.nm, h.nrb, h.nvb⟩
theorem both_upe (h : Both σ υ b m rb vb f f' q rq ps rps) (hu : Upe m (.map (vlist g)) υ τ) : Both σ τ b m rb vb g f' q rq ps rps := by
  have ne : ∀ {c ws e ro}, υ.get c = some (.cells ws e ro) → c ≠ m := fun hc e => by rw [e, h.sets.vals] at hc; cases hc
  refine ⟨Ext.upe h.ext hu h.nm, h.sets.upe hu, rsets_kept h.rsets hu.1 (hu.2.2 _ (ne h.rsets.cells) h.rsets.hb) (hu.2.2 _ (ne h.rsets.vals) h.rsets.hv), line_same h.line hu.1 fun c hc hh => ?_, line_same h.rline hu.1 fun c hc hh => ?_, h.qn, h.rqn, h.disj, h.nb, h.nm, h.nrb, h.nvb⟩
  · rcases hh with ⟨ws, h1, _⟩ | ⟨ws, h1⟩ <;> exact hu.2.2 c (ne h1) hc
  · rcases hh with ⟨ws, h1, _⟩ | ⟨ws, h1⟩ <;> exact hu.2.2 c (ne h1) hc
theorem both_rupe (h : Both σ υ b m rb vb f f' q rq ps rps) (hu : Upe vb (.cells (rlist g) 22 false) υ τ) : Both σ τ b m rb vb f g q rq ps rps := by
  have hv := h.rsets.vals
  refine ⟨Ext.upe h.ext hu h.nvb, sets_kept h.sets hu.1 (hu.2.2 _ (diff h.sets.cells hv (by decide)) h.sets.hb) (hu.2.2 _ (fun e => by rw [← e, h.sets.vals] at hv; cases hv) h.sets.hm), rsets_upe h.rsets hu, line_same h.line hu.1 fun c hc hh => ?_, line_same h.rline hu.1 fun c hc hh => ?_, h.qn, h.rqn, h.disj, h.nb, h.nm, h.nrb, h.nvb⟩
  · rcases hh with ⟨ws, h1, _⟩ | ⟨ws, h1⟩ <;> exact hu.2.2 c (diff h1 hv (by decide)) hc
  · rcases hh with ⟨ws, h1, _⟩ | ⟨ws, h1⟩ <;> exact hu.2.2 c (diff h1 hv (by decide)) hc
theorem both_line (h : Both σ υ b m rb vb f f' q rq ps rps) (ho : Off b q υ τ) (hs : Sets τ b m f q') (hl : Line τ q' ps') (hq : ∀ c, InBlk q' c → InBlk q c ∨ υ.next ≤ c) : Both σ τ b m rb vb f f' q' rq ps' rps := by
  have hc := h.sets.cells
  have hqb : ∀ {c ws e ro}, υ.get c = some (.cells ws e ro) → e ≠ 36 → ¬ InBlk q c := fun hc he hh => by
    obtain ⟨_, ws, h2⟩ := ownO_blk h.line.own _ hh
    exact diff hc h2 he rfl
  have h1 := h.ext.1
  refine ⟨⟨Nat.le_trans h1 ho.1, fun c hc' => (ho.2 c (by omega) (fun e => by have := h.nb; omega) fun hh => by have := h.qn c hh; omega).trans (h.ext.2 c hc')⟩, hs, rsets_kept h.rsets ho.1 (ho.2 _ h.rsets.hb (diff h.rsets.cells hc (by decide)) (hqb h.rsets.cells (by decide))) (ho.2 _ h.rsets.hv (diff h.rsets.vals hc (by decide)) (hqb h.rsets.vals (by decide))), hl, line_same h.rline ho.1 fun c hcc hh => ?_, fun c hc' => ?_, h.rqn, fun c hc' hr => ?_, h.nb, h.nm, h.nrb, h.nvb⟩
  · rcases hh with ⟨ws, g1, g2⟩ | ⟨ws, g1⟩
    · exact ho.2 c hcc (diff g1 hc (by decide)) fun hh => h.disj c hh g2
    · exact ho.2 c hcc (diff g1 hc (by decide)) (hqb g1 (by decide))
  · rcases hq c hc' with hh | hh
    · exact h.qn c hh
    · omega
  · rcases hq c hc' with hh | hh
    · exact h.disj c hh hr
    · have := (ownO_blk h.rline.own c hr).1
      omega
theorem both_rline (h : Both σ υ b m rb vb f f' q rq ps rps) (ho : Off rb rq υ τ) (hs : RSets τ rb vb f' q') (hl : Line τ q' ps') (hq : ∀ c, InBlk q' c → InBlk rq c ∨ υ.next ≤ c) : Both σ τ b m rb vb f f' q q' ps ps' := by
  have hc := h.rsets.cells
  have hqb : ∀ {c ws e ro}, υ.get c = some (.cells ws e ro) → e ≠ 36 → ¬ InBlk rq c := fun hc he hh => by
    obtain ⟨_, ws, h2⟩ := ownO_blk h.rline.own _ hh
    exact diff hc h2 he rfl
  have hmq : ¬ InBlk rq m := fun hh => by
    obtain ⟨_, ws, h2⟩ := ownO_blk h.rline.own _ hh
    rw [h.sets.vals] at h2
    cases h2
  have hmb : m ≠ rb := fun e => by rw [← e, h.sets.vals] at hc; cases hc
  have h1 := h.ext.1
  refine ⟨⟨Nat.le_trans h1 ho.1, fun c hc' => (ho.2 c (by omega) (fun e => by have := h.nrb; omega) fun hh => by have := h.rqn c hh; omega).trans (h.ext.2 c hc')⟩, sets_kept h.sets ho.1 (ho.2 _ h.sets.hb (diff h.sets.cells hc (by decide)) (hqb h.sets.cells (by decide))) (ho.2 _ h.sets.hm hmb hmq), hs, line_same h.line ho.1 fun c hcc hh => ?_, hl, h.qn, fun c hc' => ?_, fun c hc' hr => ?_, h.nb, h.nm, h.nrb, h.nvb⟩
  · rcases hh with ⟨ws, g1, g2⟩ | ⟨ws, g1⟩
    · exact ho.2 c hcc (diff g1 hc (by decide)) fun hh => h.disj c g2 hh
    · exact ho.2 c hcc (diff g1 hc (by decide)) (hqb g1 (by decide))
  · rcases hq c hc' with hh | hh
    · exact h.rqn c hh
    · omega
  · rcases hq c hr with hh | hh
    · exact h.disj c hc' hh
    · have := (ownO_blk h.line.own c hc').1
      omega
end
end Go.Proofs.Ytlgeeibaohdjhaa

namespace Go.Proofs.Ytlgeeibaohdjhaa
open Go.Proofs.Ytlgeeibaohdjhaa.Eng
/-- A call of the script. -/
structure Op9 where
  what : Int
  v : Value
  l : List St
def Op9.cs (o : Op9) : List Value := [.int .i64 o.what, o.v]
theorem Op9.len (o : Op9) : o.cs.length = 2 := rfl
section
variable {σ υ : AW} {k : Nat} {Q : Value → AW → Prop} {b m rb vb : Nat} {f : Int → Int} {q rq : Value} {ps rps : List (Value × List St)}
theorem aw_cloneW {x : Value} {n : Nat} {l : List St} (hx : Sl σ x 2 n (l.flatMap St.cs)) (hr : l.length ≤ 1048576) (hq : ∀ v τ, OwnO τ v 24 2 l.length (l.flatMap St.cs) → Ext σ τ → Q v τ) :
    wpA (appendA 24 2 16 (.slice (some ⟨σ.next, 0, some 2⟩) 0 0) x) (σ.push (.cells [] 24 false)) Q := by
  have hE := Ext.push σ (.cells [] 24 false)
  refine aw_copy' (s := .slice (some ⟨σ.next, 0, some 2⟩) 0 0) ⟨by simp, .inr ⟨σ.next, 0, 0, [], rfl, Nat.le_refl _, by simp, by simp, by simp, by simp⟩⟩ (hx.ext hE) hr fun v τ h1 h2 h3 => hq v τ h1 ⟨Nat.le_trans hE.1 h2, fun c hc => (h3 c (by simp; omega) ?_).trans (hE.2 c hc)⟩
  rintro ⟨o, s, n, cc, he⟩
  injection he with he
  injection he with he
  injection he with he
  omega
theorem round_end {i : Nat} {rec : Value → AM Value} (h : Both σ υ b m rb vb f f q rq ps rps) (hlen : ps.length = rps.length) (hk : 50 ≤ k) (hi : i ≤ 1048576) (hr : wpA (rec (.int .i64 (i + 1 : Nat))) υ Q) : wpA (R8.j_45 (cl k) k rec (ptr b) (ptr rb) (.int .i64 (i : Nat))) υ Q := by
  have hwi : IntKind.i64.wrap ((i : Int) + 1) = ((i + 1 : Nat) : Int) := wrap64 (by omega) (by omega)
  simp only [R8.j_45]
  refine aw_bindV (aw_ret ?_)
  refine aw_loop1 (fun r u τ => ∃ j : Nat, u = .int .i64 ((j : Int) - 1) ∧ j ≤ 13 ∧ r = 13 - j ∧ τ = υ) ?_ k 13 _ υ ⟨0, rfl, by omega, rfl, rfl⟩ (by omega)
  rintro r rec2 u τ ⟨j, rfl, hj, rfl, rfl⟩ hrec
  by_cases hlt : j < 13
  · have hlt' : (j : Int) - 1 < 12 := by omega
    have hwj : IntKind.i64.wrap (j : Int) = (j : Int) := wrap64 (by omega) (by omega)
    simp [R8.b_44, hlt', get_spec h.sets (show 2 ≤ k by omega), rget_spec h.rsets (show 2 ≤ k by omega), hwj, -Int.natCast_add]
    exact hrec (13 - (j + 1)) _ _ (by omega) ⟨j + 1, by congr 1; omega, by omega, rfl, rfl⟩
  · have hlt' : ¬ (j : Int) - 1 < 12 := by omega
    obtain ⟨qa, qc, hqf⟩ := (ownO_sl h.line.own).form
    have hs2 := h.sets
    rw [hqf] at hs2
    have hsame : same rq rq = true := same_sl (ownO_sl h.rline.own)
    simp [R8.b_44, hlt', open_spec hs2 (show 2 ≤ k by omega), h.rsets.cells, len_iff (ownO_sl h.rline.own), hlen, hwi, hsame, -Int.natCast_add]
    exact hr
theorem law_SettingPlays {v : Value} {L : List Op9} {n : Nat} (hv : Sl σ v 2 n (L.flatMap Op9.cs)) (hL : ∀ o ∈ L, LiesAt σ (o.v, o.l) ∧ o.l.length ≤ 1048576) (hn : L.length ≤ 1048576) (hk : 1048576 + 200 ≤ k) : wpA (cl k 8 [v]) σ fun v _ => v = .bool true := by
  rw [cl_at (by omega) (by decide), R8.eq]
  have h8 : 1048576 + 199 ≤ k - 1 := by omega
  generalize k - 1 = k1 at h8
  have hn2 : n = L.length := by
    have h1 := hv.1
    rw [length_flatMap Op9.len] at h1
    omega
  subst hn2
  have z1 : ¬ σ.next = σ.next + 1 := by omega
  have z2 : ¬ σ.next + 1 = σ.next + 1 + 1 := by omega
  have z3 : ¬ σ.next = σ.next + 1 + 1 := by omega
  have z4 : ¬ σ.next = σ.next + 1 + 1 + 1 := by omega
  have z5 : ¬ σ.next + 1 = σ.next + 1 + 1 + 1 := by omega
  have z6 : ¬ σ.next + 1 + 1 = σ.next + 1 + 1 + 1 := by omega
  simp [R8.top, new_spec (show 1 ≤ k1 by omega), rnew_spec (show 1 ≤ k1 by omega), und29, eqPtrU]
  generalize hT : (((σ.push (.map newL)).push (.cells [.map (some σ.next), .slice none 0 0] 49 false)).push (.cells (rlist first) 22 false)).push (.cells [V9 (σ.next + 1 + 1), .slice none 0 0] 61 false) = T
  have hTn : T.next = σ.next + 4 := by rw [← hT]; simp
  have hB : Both σ T (σ.next + 1) σ.next (σ.next + 1 + 1 + 1) (σ.next + 1 + 1) first first (.slice none 0 0) (.slice none 0 0) [] [] := by
    refine ⟨by rw [← hT]; exact (((Ext.push _ _).trans (Ext.push _ _)).trans (Ext.push _ _)).trans (Ext.push _ _), ⟨by rw [← hT]; simp [z2, z5], by rw [← hT]; simp [newL_v, z1, z3, z4], by omega, by omega, by omega⟩, ⟨by rw [← hT]; simp, by rw [← hT]; simp [z6], by omega, by omega, by omega⟩, ⟨⟨by simp, .inl ⟨rfl, rfl⟩⟩, fun p hp => by cases hp⟩, ⟨⟨by simp, .inl ⟨rfl, rfl⟩⟩, fun p hp => by cases hp⟩, fun c hc => (not_nil c _ _ hc).elim, fun c hc => (not_nil c _ _ hc).elim, fun c hc => (not_nil c _ _ hc).elim, by omega, by omega, by omega, by omega⟩
  clear hT
  generalize hm : σ.next = m at *
  generalize hb : m + 1 = b at *
  generalize hvb : b + 1 = vb at *
  generalize hrb : vb + 1 = rb at *
  refine aw_loop1 (fun r u υ => ∃ (i : Nat) (f : Int → Int) (q rq : Value) (ps rps : List (Value × List St)), u = .int .i64 i ∧ i ≤ L.length ∧ r = L.length - i ∧ Fok f ∧ Both σ υ b m rb vb f f q rq ps rps ∧ ps.map (·.2) = rps.map (·.2) ∧ ps.length ≤ i ∧ ∀ p ∈ ps, p.2.length ≤ 1048576) ?_ k1 L.length _ T ⟨0, first, _, _, [], [], rfl, by omega, rfl, first_ok, hB, rfl, by simp, fun p hp => by cases hp⟩ (by omega)
  rintro r rec u υ ⟨i, f, q, rq, ps, rps, rfl, hi, rfl, hf, B, hps, hpl, hpb⟩ hrec
  have hvu := hv.ext B.ext
  by_cases hlt : i < L.length
  · obtain ⟨o, ho⟩ : ∃ o, L[i]? = some o := ⟨_, List.getElem?_eq_getElem hlt⟩
    obtain ⟨⟨hx, hxv, hxm⟩, hx1⟩ := hL o (List.mem_of_getElem? ho)
    simp only at hx hxv hxm
    have hxb := sl_blk hx
    have hlen : ps.length = rps.length := by simpa using congrArg List.length hps
    have aw := atF_all (k := .i64) Op9.len hvu ho (off := 0) (w := .int .i64 o.what) rfl
    have hz0 : zeros [Value.int .i64 0, Value.int .u32 0] 0 = [] := rfl
    by_cases e0 : o.what = 0
    · have hE := Ext.push υ (.cells [] 24 false)
      have a1 := atF_all (k := .i64) Op9.len (hvu.ext hE) ho (off := 1) (w := o.v) rfl
      simp [R8.b_145, len_iff hvu, hlt, ↓aw, e0, hz0, ↓a1, -Int.natCast_add]
      refine aw_cloneW (hx.ext B.ext) hx1 fun w τ how he => ?_
      have B1 := both_ext B he
      refine apply_spec B1.sets hf (ownO_sl how) hxv hxm (by omega) fun τ2 hu => ?_
      have B2 := both_upe B1 hu
      have hg := Fok.play o.l hf hxv
      obtain ⟨G, hG⟩ : ∃ G, playF f o.l = G := ⟨_, rfl⟩
      rw [hG] at hu B2 hg ⊢
      simp [applyRes_eq, -Int.natCast_add]
      generalize hZ : (τ2.push (.cells [.bool false, .int .i64 0, .int .i64 0] 33 false)).put τ2.next (some (.cells [.bool !decide (G.2 = 0), .int .i64 0, .int .i64 G.2] 33 false)) = Z
      have zc : Z.get τ2.next = some (.cells [.bool !decide (G.2 = 0), .int .i64 0, .int .i64 G.2] 33 false) := by rw [← hZ]; simp
      have zn : Z.next = τ2.next + 1 := by rw [← hZ]; simp
      have ze : Ext τ2 Z := by rw [← hZ]; exact ((Ext.push τ2 _).kept (Nat.le_refl _)).put (Nat.le_refl _) _
      clear hZ
      have B3 := both_ext B2 ze
      have a2 := atF_all (k := .i64) Op9.len (hv.ext B3.ext) ho (off := 1) (w := o.v) rfl
      simp [↓a2, -Int.natCast_add]
      refine rapply_spec B3.rsets hf (hx.ext B3.ext) (fun c hc => by have := hxb c hc; have := B3.nvb; omega) hxv hxm (by omega) fun τ4 hu4 => ?_
      rw [hG] at hu4 ⊢
      have B4 := both_rupe B3 hu4
      have hvt := B2.rsets.hv
      have h44 := hu4.1
      have z7 : τ4.get τ2.next = some (.cells [.bool !decide (G.2 = 0), .int .i64 0, .int .i64 G.2] 33 false) := (hu4.2.2 _ (by omega) (by omega)).trans zc
      have z8 : ¬ τ2.next = τ4.next := by omega
      simp [applyRes_eq, z7, z8, R8.g_88, ft_neq, -Int.natCast_add]
      have we : Ext τ4 ((τ4.push (.cells [.bool false, .int .i64 0, .int .i64 0] 33 false)).put τ4.next (some (.cells [.bool !decide (G.2 = 0), .int .i64 0, .int .i64 G.2] 33 false))) := ((Ext.push τ4 _).kept (Nat.le_refl _)).put (Nat.le_refl _) _
      have B5 := both_ext B4 we
      exact round_end B5 hlen (by omega) (by omega) (hrec (L.length - (i + 1)) _ _ (by omega) ⟨i + 1, G.1, q, rq, ps, rps, rfl, by omega, rfl, hg, B5, hps, by omega, hpb⟩)
    by_cases e1 : o.what = 1
    · have a1 := atF_all (k := .i64) Op9.len hvu ho (off := 1) (w := o.v) rfl
      simp [R8.b_145, len_iff hvu, hlt, ↓aw, e0, e1, ↓a1, hz0, -Int.natCast_add]
      refine roffer_spec B.rsets B.rline (hx.ext B.ext) hx1 (by omega) (by omega) fun τ rq' p' hp2 hs' hl' hoff hqn => ?_
      have B1 := both_rline B hoff hs' hl' fun c hc => .inr (hqn c hc)
      have a2 := atF_all (k := .i64) Op9.len ((hv.ext B1.ext).ext (Ext.push τ (.cells [] 24 false))) ho (off := 1) (w := o.v) rfl
      simp [↓a2, hz0, -Int.natCast_add]
      refine aw_cloneW (hx.ext B1.ext) hx1 fun w τ1 how he => ?_
      have B2 := both_ext B1 he
      refine offer_spec B2.sets B2.line (ownO_sl how) hx1 (by omega) (by omega) fun τ3 q' p hp hs3 hl3 hoff3 hqn3 => ?_
      have B3 := both_line B2 hoff3 hs3 hl3 fun c hc => .inr (hqn3 c hc)
      simp [-Int.natCast_add]
      exact round_end B3 (by simp [hlen]) (by omega) (by omega) (hrec (L.length - (i + 1)) _ _ (by omega) ⟨i + 1, f, q', rq', ps ++ [p], rps ++ [p'], rfl, by omega, rfl, hf, B3, by simp [hps, hp, hp2], by simp; omega, fun p1 hp1 => by
        rcases List.mem_append.1 hp1 with h | h
        · exact hpb p1 h
        · simp at h; subst h; rw [hp]; exact hx1⟩)
    · simp [R8.b_145, len_iff hvu, hlt, ↓aw, e0, e1, -Int.natCast_add]
      cases ps with
      | nil =>
        have hr0 : rps = [] := List.length_eq_zero_iff.1 (by simpa using hlen.symm)
        subst hr0
        simp [ack_nil B.sets B.line (show 3 ≤ k1 by omega), rack_nil B.rsets B.rline (show 1 ≤ k1 by omega), -Int.natCast_add]
        have snil : Sl υ (.slice none 0 0) 2 0 (([] : List St).flatMap St.cs) := ⟨by simp, .inl ⟨rfl, rfl⟩⟩
        refine lists_true (l := []) snil snil (by simp) (by simp; omega) ?_
        simp [R8.g_136, -Int.natCast_add]
        exact round_end B rfl (by omega) (by omega) (hrec (L.length - (i + 1)) _ _ (by omega) ⟨i + 1, f, q, rq, [], [], rfl, by omega, rfl, hf, B, rfl, by simp, fun p hp => by cases hp⟩)
      | cons p ps' =>
        cases rps with
        | nil => simp at hps
        | cons rp rps' =>
          simp only [List.map_cons, List.cons.injEq] at hps
          obtain ⟨hp2, hps'⟩ := hps
          simp only [List.length_cons] at hlen hpl
          refine ack_spec B.sets B.line (by omega) (by omega) fun τ q' hs1 hl1 hn1 hg1 hqb1 => ?_
          have B1 := both_line B (⟨by omega, fun c hc hb _ => hg1 c hb⟩ : Off b q υ τ) hs1 hl1 fun c hc => .inl (hqb1 c hc)
          have o1 : OwnO τ p.1 24 2 p.2.length (p.2.flatMap St.cs) := ownO_same (B.line.each p (by simp)) (by omega) fun c hc => hg1 c (by
            obtain ⟨_, ws, h2⟩ := ownO_blk (B.line.each p (by simp)) c hc
            exact diff h2 B.sets.cells (by decide))
          have o2 := B1.rline.each rp (by simp)
          simp [-Int.natCast_add]
          refine rack_spec B1.rsets B1.rline (by omega) (by omega) fun τ2 rq' hs2 hl2 hn2 hg2 hqb2 => ?_
          have B2 := both_rline B1 (⟨by omega, fun c hc hb _ => hg2 c hb⟩ : Off rb rq τ τ2) hs2 hl2 fun c hc => .inl (hqb2 c hc)
          have t1 : OwnO τ2 p.1 24 2 p.2.length (p.2.flatMap St.cs) := ownO_same o1 (by omega) fun c hc => hg2 c (by
            obtain ⟨_, ws, h2⟩ := ownO_blk o1 c hc
            exact diff h2 B1.rsets.cells (by decide))
          have t2 : OwnO τ2 rp.1 24 2 rp.2.length (rp.2.flatMap St.cs) := ownO_same o2 (by omega) fun c hc => hg2 c (by
            obtain ⟨_, ws, h2⟩ := ownO_blk o2 c hc
            exact diff h2 B1.rsets.cells (by decide))
          rw [← hp2] at t2
          simp [-Int.natCast_add]
          have hpb1 := hpb p (by simp)
          refine lists_true (ownO_sl t1) (ownO_sl t2) hpb1 (by omega) ?_
          simp [R8.g_136, -Int.natCast_add]
          exact round_end B2 (by omega) (by omega) (by omega) (hrec (L.length - (i + 1)) _ _ (by omega) ⟨i + 1, f, q', rq', ps', rps', rfl, by omega, rfl, hf, B2, hps', by omega, fun p1 hp1 => hpb p1 (by simp [hp1])⟩)
  · have e : i = L.length := by omega
    subst e
    simp [R8.b_145, len_iff hvu, -Int.natCast_add]
    exact awake_spec (by omega)
end
end Go.Proofs.Ytlgeeibaohdjhaa
