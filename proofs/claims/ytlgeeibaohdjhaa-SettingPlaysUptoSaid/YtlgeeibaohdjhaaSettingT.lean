/- Offers are acknowledged in the order in which they were made. -/
import Derived.Test.YtlgeeibaohdjhaaSettingS
set_option linter.unusedVariables false
set_option linter.unusedSimpArgs false
namespace Go.Proofs.Ytlgeeibaohdjhaa
open Go.Proofs.Ytlgeeibaohdjhaa.Eng
section
variable {σ : AW} {k : Nat} {Q : Value → AW → Prop} {b m : Nat} {f : Int → Int} {q : Value} {ps : List (Value × List St)}
theorem line_ext {τ : AW} (h : Line σ q ps) (he : Ext σ τ) : Line τ q ps :=
  ⟨ownO_same h.own he.1 fun c hc => he.2 c (ownO_blk h.own c hc).1, fun p hp => ownO_same (h.each p hp) he.1 fun c hc => he.2 c (ownO_blk (h.each p hp) c hc).1⟩
theorem off_ext {τ υ : AW} (he : Ext σ τ) (h : Off b q τ υ) : Off b q σ υ := ⟨Nat.le_trans he.1 h.1, fun c hc hb hq => (h.2 c (Nat.lt_of_lt_of_le hc he.1) hb hq).trans (he.2 c hc)⟩
theorem offer_spec {x : Value} {n : Nat} {l : List St} (hs : Sets σ b m f q) (hl : Line σ q ps) (hx : Sl σ x 2 n (l.flatMap St.cs)) (hr1 : l.length ≤ 1048576) (hr2 : ps.length ≤ 1048576) (hk : 3 ≤ k)
    (hq : ∀ τ q' p, p.2 = l → Sets τ b m f q' → Line τ q' (ps ++ [p]) → Off b q σ τ → (∀ c, InBlk q' c → σ.next ≤ c) → Q (.int .i64 0) τ) : wpA (cl k 21 [ptr b, x]) σ Q := by
  rw [cl_at (by omega) (by decide), R21.eq]
  simp [R21.top, none_no hs (show 1 ≤ k - 1 by omega)]
  refine aw_copy hx hr1 fun v τ ho he => ?_
  refine put_spec (p := (v, l)) (sets_ext hs he) (line_ext hl he) ho hr2 (by omega) fun υ q' h1 h2 h3 h4 => ?_
  exact hq υ q' (v, l) rfl h1 h2 (off_ext he h3) fun c hc => Nat.le_trans he.1 (h4 c hc)
theorem ack_nil (hs : Sets σ b m f q) (hl : Line σ q []) (hk : 3 ≤ k) : wpA (cl k 23 [ptr b]) σ Q ↔ Q (.tuple #[.slice none 0 0, .int .i64 5]) σ := by
  rw [cl_at (by omega) (by decide), R23.eq]
  simp [R23.top, none_no hs (show 1 ≤ k - 1 by omega), take_nil hs hl (show 1 ≤ k - 1 by omega)]
theorem ack_spec {p : Value × List St} (hs : Sets σ b m f q) (hl : Line σ q (p :: ps)) (hk : 3 ≤ k) (hlen : ps.length < 1048577)
    (hq : ∀ τ q', Sets τ b m f q' → Line τ q' ps → τ.next = σ.next → (∀ c, c ≠ b → τ.get c = σ.get c) → (∀ c, InBlk q' c → InBlk q c) → Q (.tuple #[p.1, .int .i64 0]) τ) : wpA (cl k 23 [ptr b]) σ Q := by
  rw [cl_at (by omega) (by decide), R23.eq]
  simp [R23.top, none_no hs (show 1 ≤ k - 1 by omega)]
  refine take_spec hs hl (by omega) hlen fun τ q' h1 h2 h3 h4 h5 => ?_
  simp
  exact hq τ q' h1 h2 h3 h4 h5
theorem lists_true {x y : Value} {n n' : Nat} {l : List St} (hx : Sl σ x 2 n (l.flatMap St.cs)) (hy : Sl σ y 2 n' (l.flatMap St.cs)) (hlen : l.length ≤ 1048576) (hk : l.length + 10 ≤ k) (hq : Q (.bool true) σ) : wpA (cl k 24 [x, y]) σ Q := by
  rw [cl_at (by omega) (by decide), R24.eq]
  have h8 : l.length + 9 ≤ k - 1 := by omega
  generalize k - 1 = k1 at h8
  have hn : n = l.length := by
    have h1 := hx.1
    rw [length_flatMap St.len] at h1
    omega
  have hn' : n' = l.length := by
    have h1 := hy.1
    rw [length_flatMap St.len] at h1
    omega
  subst hn; subst hn'
  simp [R24.top, len_iff hx, len_iff hy]
  refine aw_loop1 (fun r u υ => ∃ i : Nat, u = .int .i64 i ∧ i ≤ l.length ∧ r = l.length - i ∧ υ = σ) ?_ k1 l.length _ σ ⟨0, rfl, by omega, rfl, rfl⟩ (by omega)
  rintro r rec u υ ⟨i, rfl, hi, rfl, rfl⟩ hrec
  by_cases hlt : i < l.length
  · obtain ⟨s, hs⟩ : ∃ s, l[i]? = some s := ⟨_, List.getElem?_eq_getElem hlt⟩
    have hwi : IntKind.i64.wrap ((i : Int) + 1) = ((i + 1 : Nat) : Int) := wrap64 (by omega) (by omega)
    simp [R24.b_25, len_iff hx, hlt, ↓atS_all St.len (by omega) hx hs, ↓atS_all St.len (by omega) hy hs, St.cs, st_neq, hwi, -Int.natCast_add]
    exact hrec (l.length - (i + 1)) _ _ (by omega) ⟨i + 1, rfl, by omega, rfl, rfl⟩
  · have e : i = l.length := by omega
    subst e
    simp [R24.b_25, len_iff hx, -Int.natCast_add]
    exact hq
theorem law_SettingAcks {v : Value} {L : List (Value × List St)} {n : Nat} (hv : Sl σ v 1 n (L.map (·.1))) (hL : ∀ p ∈ L, LiesAt σ p ∧ p.2.length ≤ 1048576) (hn : L.length ≤ 1048576) (hk : 1048576 + 200 ≤ k) : wpA (cl k 6 [v]) σ fun v _ => v = .bool true := by
  rw [cl_at (by omega) (by decide), R6.eq]
  have h8 : 1048576 + 199 ≤ k - 1 := by omega
  generalize k - 1 = k1 at h8
  have hn2 : n = L.length := by
    have h1 := hv.1
    simp at h1
    omega
  subst hn2
  have z1 : ¬ σ.next = σ.next + 1 := by omega
  simp [R6.top, new_spec (show 1 ≤ k1 by omega), und29, eqPtrU]
  generalize hT : (σ.push (.map newL)).push (.cells [.map (some σ.next), .slice none 0 0] 49 false) = T
  have hTn : T.next = σ.next + 2 := by rw [← hT]; simp
  have hTe : Ext σ T := by rw [← hT]; exact (Ext.push _ _).trans (Ext.push _ _)
  have hS : Sets T (σ.next + 1) σ.next first (.slice none 0 0) := ⟨by rw [← hT]; simp, by rw [← hT]; simp [newL_v, z1], by omega, by omega, by omega⟩
  clear hT
  refine aw_loop1 (fun r u υ => ∃ (i : Nat) (q : Value) (ps : List (Value × List St)), u = .int .i64 i ∧ i ≤ L.length ∧ r = L.length - i ∧ Ext σ υ ∧ Sets υ (σ.next + 1) σ.next first q ∧ Line υ q ps ∧ ps.map (·.2) = (L.take i).map (·.2) ∧ (∀ c, InBlk q c → σ.next ≤ c)) ?_ k1 L.length _ T
    ⟨0, _, [], rfl, by omega, rfl, hTe, hS, ⟨⟨by simp, .inl ⟨rfl, rfl⟩⟩, fun p hp => by cases hp⟩, by simp, fun c hc => (not_nil c _ _ hc).elim⟩ (by omega)
  rintro r rec u υ ⟨i, q, ps, rfl, hi, rfl, he, hs, hl, hps, hqb⟩ hrec
  have hvu := hv.ext he
  have hpl : ps.length = i := by
    have := congrArg List.length hps
    simp at this
    omega
  by_cases hlt : i < L.length
  · obtain ⟨p, hp⟩ : ∃ p, L[i]? = some p := ⟨_, List.getElem?_eq_getElem hlt⟩
    obtain ⟨⟨hx, hpv, hpml⟩, hp1⟩ := hL p (List.mem_of_getElem? hp)
    have hxu := hx.ext he
    have hwi : IntKind.i64.wrap ((i : Int) + 1) = ((i + 1 : Nat) : Int) := wrap64 (by omega) (by omega)
    simp [R6.b_96, len_iff hvu, hlt, ↓at1_all hvu hp, -Int.natCast_add]
    refine offer_spec hs hl hxu hp1 (by omega) (by omega) fun τ q' p' hp2 hs' hl' hoff hqn => ?_
    have hlen : (ps ++ [p']).length = i + 1 := by simp [hpl]
    obtain ⟨qa, qc, hqf⟩ := (ownO_sl hl'.own).form
    have hs2 := hs'
    rw [hqf] at hs2
    have e1 : (ps ++ [p']).length = i + 1 := hlen
    rw [List.length_append] at e1
    have hop := open_spec (Q := fun v τ => v = .int .i64 (i + 1 : Nat)) hs2 (show 2 ≤ k1 by omega)
    simp [R6.g_21, R6.g_23, R6.g_50, R6.g_85, R6.top, open_spec hs2 (show 2 ≤ k1 by omega), hpl, hwi, -Int.natCast_add]
    refine hrec (L.length - (i + 1)) _ _ (by omega) ⟨i + 1, q', ps ++ [p'], rfl, by omega, rfl, ⟨Nat.le_trans he.1 hoff.1, fun c hc => (hoff.2 c (Nat.lt_of_lt_of_le hc he.1) (by omega) fun h => by have := hqb c h; omega).trans (he.2 c hc)⟩, hs', hl', ?_, fun c hc => Nat.le_trans he.1 (hqn c hc)⟩
    rw [List.map_append, hps, List.take_add_one, hp]
    simp [hp2]
  · have e : i = L.length := by omega
    subst e
    simp [R6.b_96, len_iff hvu, -Int.natCast_add]
    rw [List.take_length] at hps
    refine aw_loop1 (fun r u υ => ∃ (i : Nat) (q : Value) (ps : List (Value × List St)), u = .int .i64 i ∧ i ≤ L.length ∧ r = L.length - i ∧ Ext σ υ ∧ Sets υ (σ.next + 1) σ.next first q ∧ Line υ q ps ∧ ps.map (·.2) = (L.drop i).map (·.2)) ?_ k1 L.length _ υ ⟨0, q, ps, rfl, by omega, rfl, he, hs, hl, hps⟩ (by omega)
    clear hrec hvu he hs hl hps hqb hpl υ q ps
    rintro r rec u υ ⟨i, q, ps, rfl, hi, rfl, he, hs, hl, hps⟩ hrec
    have hvu := hv.ext he
    have hpl : ps.length = L.length - i := by
      have := congrArg List.length hps
      simpa using this
    by_cases hlt : i < L.length
    · obtain ⟨p, hp⟩ : ∃ p, L[i]? = some p := ⟨_, List.getElem?_eq_getElem hlt⟩
      obtain ⟨⟨hx, hpv, hpml⟩, hp1⟩ := hL p (List.mem_of_getElem? hp)
      have hwi : IntKind.i64.wrap ((i : Int) + 1) = ((i + 1 : Nat) : Int) := wrap64 (by omega) (by omega)
      rw [drop_some hp, List.map_cons] at hps
      obtain ⟨p', ps', rfl, hp2, hps'⟩ := List.map_eq_cons_iff.1 hps
      simp [R6.b_63, len_iff hvu, hlt, -Int.natCast_add]
      refine ack_spec hs hl (by omega) (by simp at hpl; omega) fun τ q' hs' hl' hnx hg hqb' => ?_
      have heτ : Ext σ τ := ⟨by rw [hnx]; exact he.1, fun c hc => (hg c (by omega)).trans (he.2 c hc)⟩
      have hop' : OwnO τ p'.1 24 2 p'.2.length (p'.2.flatMap St.cs) := ownO_same (hl.each p' (by simp)) (by omega) fun c hc => hg c fun e => by
        obtain ⟨_, ws, h2⟩ := ownO_blk (hl.each p' (by simp)) c hc
        rw [e, hs.cells] at h2
        cases h2
      rw [hp2] at hop'
      simp [R6.g_21, R6.g_23, R6.g_50, R6.g_85, R6.top, ↓at1_all (hv.ext heτ) hp, -Int.natCast_add]
      refine lists_true (ownO_sl hop') (hx.ext heτ) hp1 (by omega) ?_
      simp [hwi, -Int.natCast_add]
      exact hrec (L.length - (i + 1)) _ _ (by omega) ⟨i + 1, q', ps', rfl, by omega, rfl, heτ, hs', hl', hps'⟩
    · have e : i = L.length := by omega
      subst e
      have h0 : ps = [] := List.length_eq_zero_iff.1 (by omega)
      subst h0
      obtain ⟨qa, qc, hqf⟩ := (ownO_sl hl.own).form
      have hs2 := hs
      rw [hqf] at hs2
      simp [R6.g_21, R6.g_23, R6.g_50, R6.g_85, R6.top, R6.b_63, len_iff hvu, ack_nil hs hl (show 3 ≤ k1 by omega), open_spec hs2 (show 2 ≤ k1 by omega), -Int.natCast_add]
      exact awake_spec (by omega)
end
end Go.Proofs.Ytlgeeibaohdjhaa
