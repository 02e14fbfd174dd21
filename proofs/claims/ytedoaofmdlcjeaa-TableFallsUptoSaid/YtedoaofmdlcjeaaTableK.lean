/- TableFinds. -/
import Derived.Test.YtedoaofmdlcjeaaTableJ
set_option linter.unusedVariables false
set_option linter.unusedSimpArgs false
namespace Go.Proofs.Ytedoaofmdlcjeaa
open Go.Proofs.Ytedoaofmdlcjeaa.Eng
def both (x h : Hd) : Prop := x.name = h.name ∧ x.value = h.value
structure FindOk (xs : List Hd) (i0 named : Nat) (h : Hd) (r : Nat) (b : Bool) : Prop where
  hit : b = true → i0 ≤ r ∧ r < i0 + xs.length
  miss : b = false → r = named ∨ i0 ≤ r ∧ r < i0 + xs.length
  keep : named ≠ 0 → b = false → r = named
  at1 : ∀ (j : Nat) (x : Hd), xs[j]? = some x → b = true → i0 + j ≤ r → (i0 + j = r ↔ both x h)
  at2 : ∀ (j : Nat) (x : Hd), xs[j]? = some x → b = false → ¬ both x h
  at3 : ∀ (j : Nat) (x : Hd), xs[j]? = some x → i0 + j = r → x.name = h.name
  at4 : ∀ (j : Nat) (x : Hd), xs[j]? = some x → b = false → x.name = h.name → r ≠ 0 ∧ r ≤ i0 + j
theorem find_ok : ∀ (xs : List Hd) (i0 named : Nat) (h : Hd), 1 ≤ i0 → named < i0 → FindOk xs i0 named h (findA xs i0 named h).1 (findA xs i0 named h).2
  | [], i0, named, h, _, _ => by
    refine ⟨fun e => ?_, fun _ => .inl rfl, fun _ _ => rfl, ?_, ?_, ?_, ?_⟩
    · simp [findA] at e
    all_goals (intro j x hx; simp at hx)
  | y :: ys, i0, named, h, h1, h2 => by
    by_cases hb : both y h
    · have e : findA (y :: ys) i0 named h = (i0, true) := findA_hit hb
      rw [e]
      refine ⟨fun _ => ⟨Nat.le_refl _, by simp⟩, fun h => by simp at h, fun _ h => by simp at h, fun j x hx _ hle => ?_, fun j x hx e => by simp at e, fun j x hx he => ?_, fun j x hx e => by simp at e⟩
      · have : j = 0 := by simp only at hle; omega
        subst this
        simp at hx
        subst hx
        exact ⟨fun _ => hb, fun _ => rfl⟩
      · have : j = 0 := by simp only at he; omega
        subst this
        simp at hx
        subst hx
        exact hb.1
    · have e : findA (y :: ys) i0 named h = findA ys (i0 + 1) (if named = 0 ∧ y.name = h.name then i0 else named) h := findA_miss hb
      rw [e]
      have hn' : (if named = 0 ∧ y.name = h.name then i0 else named) < i0 + 1 := by split <;> omega
      have ih := find_ok ys (i0 + 1) (if named = 0 ∧ y.name = h.name then i0 else named) h (by omega) hn'
      generalize hN : (if named = 0 ∧ y.name = h.name then i0 else named) = N at *
      have hNc : N = i0 ∧ named = 0 ∧ y.name = h.name ∨ N = named := by
        by_cases c : named = 0 ∧ y.name = h.name
        · rw [if_pos c] at hN; exact .inl ⟨hN.symm, c.1, c.2⟩
        · rw [if_neg c] at hN; exact .inr hN.symm
      generalize findA ys (i0 + 1) N h = R at *
      obtain ⟨r, b⟩ := R
      obtain ⟨k1, k2, k3, k4, k5, k6, k7⟩ := ih
      simp only at *
      refine ⟨fun hb' => ?_, fun hb' => ?_, fun hn hb' => ?_, fun j x hx hb' hle => ?_, fun j x hx hb' => ?_, fun j x hx he => ?_, fun j x hx hb' hn => ?_⟩
      · have := k1 hb'
        simp only [List.length_cons]
        omega
      · simp only [List.length_cons]
        rcases k2 hb' with c | c
        · rcases hNc with ⟨d, _⟩ | d <;> omega
        · omega
      · have : N = named := by rcases hNc with ⟨_, d, _⟩ | d <;> omega
        rw [← this]
        exact k3 (by omega) hb'
      · cases j with
        | zero =>
          simp at hx
          subst hx
          have := k1 hb'
          exact ⟨fun h => by omega, fun h => absurd h hb⟩
        | succ j =>
          have := k4 j x (by simpa using hx) hb' (by omega)
          rw [← this]
          omega
      · cases j with
        | zero => simp at hx; subst hx; exact hb
        | succ j => exact k5 j x (by simpa using hx) hb'
      · cases j with
        | zero =>
          simp at hx
          subst hx
          cases hbb : b with
          | true => have := k1 hbb; omega
          | false =>
            rcases k2 hbb with c | c
            · rcases hNc with ⟨_, _, d⟩ | d
              · exact d
              · omega
            · omega
        | succ j => exact k6 j x (by simpa using hx) (by omega)
      · cases j with
        | zero =>
          simp at hx
          subst hx
          by_cases h0 : named = 0
          · have hNi : N = i0 := by rw [← hN, if_pos ⟨h0, hn⟩]
            have := k3 (by omega) hb'
            omega
          · have hNi : N = named := by rcases hNc with ⟨_, d, _⟩ | d <;> omega
            have := k3 (by omega) hb'
            omega
        | succ j =>
          have := k7 j x (by simpa using hx) hb' hn
          omega
section
variable {σ : AW} {k : Nat} {Q : Value → AW → Prop}
theorem aw_part {α : Type} {v : Value} {cs : α → List Value} {z off m n i : Nat} {l : List α} {x : α} {k : IntKind} (hz : ∀ a, (cs a).length = z) (hm : 0 < m) (hom : off + m ≤ z) (h : Sl σ v z n (l.flatMap cs)) (hi : l[i]? = some x) (hq : Q (.agg (((cs x).drop off).take m).toArray) σ) :
    wpA (indexAddrA z v (.int k (i : Nat))) σ fun p τ => wpA (fieldAddrA off p) τ fun q τ => wpA (loadA (some m) q) τ Q := by
  have hn : n = l.length := by
    have h1 := h.1
    rw [length_flatMap hz] at h1
    exact Nat.eq_of_mul_eq_mul_right (by omega) h1.symm
  have hlt : i < l.length := (List.getElem?_eq_some_iff.1 hi).1
  refine aw_indexSl h (by omega) (by omega) fun b o ws e ro hb _ hl hww => ?_
  refine wpA_fieldAddr.2 (aw_loads hb (by omega) ?_)
  have e2 : (ws.drop (o + off)).take m = ((cs x).drop off).take m := by
    apply List.ext_getElem?
    intro j
    by_cases hj : j < m
    · have := hww (off + j) (by omega)
      rw [Int.toNat_natCast, getElem?_flatMap hz _ _ _ (by omega), hi] at this
      rw [List.getElem?_take_of_lt hj, List.getElem?_take_of_lt hj, List.getElem?_drop, List.getElem?_drop, Nat.add_assoc, this]
      rfl
    · rw [List.getElem?_eq_none (by simp; omega), List.getElem?_eq_none (by simp; omega)]
  rw [e2]
  exact hq
theorem finds_rest {b X : Nat} {v : Value} {l : List Hd} {m : Nat} {h : Hd} (hT : Tab (b + 1) b σ v l m) (hb : b < σ.next) (ok : TOk l m) (hX : σ.get X = some (.cells [Tx h.name, Tx h.value, .bool h.secret] 23 false)) (hXn : X < σ.next) (hk : 5000 ≤ k) :
    wpA (loop1 (R7.b_177 (callN Try.prog k) k (ptr X) (ptr b) (.int .i64 ((findH l h).1 : Nat)) (.bool (findH l h).2)) k (.int .i64 1)) σ fun v _ => v = .bool true := by
  have hawk : ∀ τ, wpA (callN Try.prog k 11 []) τ fun v _ => v = .bool true := fun τ => awake_spec (by omega)
  have hl2 := ok.len
  have hal := allL_len l
  have fo := find_ok (allL l) 1 0 h (by omega) (by omega)
  rw [show findA (allL l) 1 0 h = findH l h from rfl] at fo
  generalize findH l h = R at *
  obtain ⟨r, wh⟩ := R
  simp only at fo ⊢
  have hwl : IntKind.i64.wrap (61 + (l.length : Int)) = 61 + (l.length : Int) := wrap64 (by omega) (by omega)
  refine aw_loop1 (fun rr u υ => ∃ j : Nat, u = .int .i64 ((j + 1 : Nat) : Int) ∧ j ≤ 61 + l.length ∧ rr = 61 + l.length - j ∧ Ext σ υ) ?_ k (61 + l.length) _ σ ⟨0, rfl, by omega, rfl, Ext.refl _⟩ (by omega)
  rintro rr rec u υ ⟨j, rfl, hj, rfl, ex⟩ hrec
  have exn := ex.1
  have hU := hT.ext hb ex
  by_cases hlt : j < 61 + l.length
  · obtain ⟨x, hx⟩ : ∃ x, (allL l)[j]? = some x := ⟨_, List.getElem?_eq_getElem (by omega)⟩
    have hle : ((j + 1 : Nat) : Int) ≤ 61 + (l.length : Int) := by omega
    have hwi : IntKind.i64.wrap (((j + 1 : Nat) : Int) + 1) = ((j + 1 + 1 : Nat) : Int) := wrap64 (by omega) (by omega)
    simp [R7.b_177, len_iff17 hU (show 2 ≤ k by omega), hwl, hle, -Int.natCast_add]
    refine (get_spec hU (by omega) (by omega) hl2 (by omega)).mono ?_
    rintro _ τ ⟨he, rfl⟩
    rw [getV_all hx]
    have hen := he.1
    have q1 : ¬ X = τ.next := by omega
    have hXT : τ.get X = some (.cells [Tx h.name, Tx h.value, .bool h.secret] 23 false) := by rw [he.2 _ (by omega), ex.2 _ hXn]; exact hX
    have eF : Ext σ ((τ.push (.cells [.string ⟨#[]⟩, .string ⟨#[]⟩, .bool false] 23 false)).put τ.next (some (.cells [Tx x.name, Tx x.value, .bool x.secret] 23 false))) := (((ex.trans he).trans (Ext.push _ _)).kept (Nat.le_refl _)).put (by omega) _
    have fin := hrec (61 + l.length - (j + 1)) (.int .i64 ((j + 1 + 1 : Nat) : Int)) _ (by omega) ⟨j + 1, rfl, by omega, rfl, eF⟩
    have a1 := fo.at1 j x hx
    have a2 := fo.at2 j x hx
    have a3 := fo.at3 j x hx
    have a4 := fo.at4 j x hx
    rw [Nat.add_comm 1 j] at a1 a3 a4
    clear fo hrec
    generalize hi : j + 1 = i at *
    unfold both at a1 a2
    have n1 : (i : Int) = (r : Int) ↔ i = r := by omega
    have n2 : (i : Int) ≤ (r : Int) ↔ i ≤ r := by omega
    have n3 : (i : Int) < (r : Int) ↔ i < r := by omega
    have n4 : (r : Int) = 0 ↔ r = 0 := by omega
    cases wh with
    | true =>
      by_cases hn : x.name = h.name
      · by_cases hv : x.value = h.value
        · by_cases hir : i ≤ r
          · have hie : i = r := (a1 rfl hir).2 ⟨hn, hv⟩
            subst hie
            simp [R7.g_32, R7.g_34, R7.g_36, R7.g_39, R7.g_43, R7.g_95, R7.g_97, R7.g_99, R7.g_103, R7.g_107, R7.g_110, R7.g_116, R7.g_120, R7.g_122, R7.g_128, R7.g_133, R7.g_135, R7.g_137, R7.g_141, R7.g_145, R7.g_161, R7.top, Hd.cs, hXT, q1, eqStr_iff, neStr_iff, hn, hv, neBoolU, und4', hwi, n1, n2, n3, n4, -Int.natCast_add]
            simpa [hn, hv, -Int.natCast_add] using fin
          · have hie : ¬ i = r := by omega
            simp [R7.g_32, R7.g_34, R7.g_36, R7.g_39, R7.g_43, R7.g_95, R7.g_97, R7.g_99, R7.g_103, R7.g_107, R7.g_110, R7.g_116, R7.g_120, R7.g_122, R7.g_128, R7.g_133, R7.g_135, R7.g_137, R7.g_141, R7.g_145, R7.g_161, R7.top, Hd.cs, hXT, q1, eqStr_iff, neStr_iff, hn, hv, hie, hir, neBoolU, und4', hwi, n1, n2, n3, n4, -Int.natCast_add]
            simpa [hn, hv, -Int.natCast_add] using fin
        · by_cases hir : i ≤ r
          · have hie : ¬ i = r := fun e => hv ((a1 rfl hir).1 e).2
            simp [R7.g_32, R7.g_34, R7.g_36, R7.g_39, R7.g_43, R7.g_95, R7.g_97, R7.g_99, R7.g_103, R7.g_107, R7.g_110, R7.g_116, R7.g_120, R7.g_122, R7.g_128, R7.g_133, R7.g_135, R7.g_137, R7.g_141, R7.g_145, R7.g_161, R7.top, Hd.cs, hXT, q1, eqStr_iff, neStr_iff, hn, hv, hie, hir, neBoolU, und4', hwi, n1, n2, n3, n4, -Int.natCast_add]
            simpa [hn, hv, -Int.natCast_add] using fin
          · have hie : ¬ i = r := by omega
            simp [R7.g_32, R7.g_34, R7.g_36, R7.g_39, R7.g_43, R7.g_95, R7.g_97, R7.g_99, R7.g_103, R7.g_107, R7.g_110, R7.g_116, R7.g_120, R7.g_122, R7.g_128, R7.g_133, R7.g_135, R7.g_137, R7.g_141, R7.g_145, R7.g_161, R7.top, Hd.cs, hXT, q1, eqStr_iff, neStr_iff, hn, hv, hie, hir, neBoolU, und4', hwi, n1, n2, n3, n4, -Int.natCast_add]
            simpa [hn, hv, -Int.natCast_add] using fin
      · have hie : ¬ i = r := fun e => hn (a3 e)
        simp [R7.g_32, R7.g_34, R7.g_36, R7.g_39, R7.g_43, R7.g_95, R7.g_97, R7.g_99, R7.g_103, R7.g_107, R7.g_110, R7.g_116, R7.g_120, R7.g_122, R7.g_128, R7.g_133, R7.g_135, R7.g_137, R7.g_141, R7.g_145, R7.g_161, R7.top, Hd.cs, hXT, q1, eqStr_iff, neStr_iff, hn, hie, neBoolU, und4', hwi, n1, n2, n3, n4, -Int.natCast_add]
        simpa [hn, -Int.natCast_add] using fin
    | false =>
      have hnb := a2 rfl
      by_cases hn : x.name = h.name
      · have hv : ¬ x.value = h.value := fun e => hnb ⟨hn, e⟩
        obtain ⟨r0, rle⟩ := a4 rfl hn
        have hlt2 : ¬ i < r := by omega
        by_cases hie : i = r
        · subst hie
          simp [R7.g_32, R7.g_34, R7.g_36, R7.g_39, R7.g_43, R7.g_95, R7.g_97, R7.g_99, R7.g_103, R7.g_107, R7.g_110, R7.g_116, R7.g_120, R7.g_122, R7.g_128, R7.g_133, R7.g_135, R7.g_137, R7.g_141, R7.g_145, R7.g_161, R7.top, Hd.cs, hXT, q1, eqStr_iff, neStr_iff, hn, hv, r0, hlt2, neBoolU, und4', hwi, n1, n2, n3, n4, -Int.natCast_add]
          simpa [hn, hv, -Int.natCast_add] using fin
        · simp [R7.g_32, R7.g_34, R7.g_36, R7.g_39, R7.g_43, R7.g_95, R7.g_97, R7.g_99, R7.g_103, R7.g_107, R7.g_110, R7.g_116, R7.g_120, R7.g_122, R7.g_128, R7.g_133, R7.g_135, R7.g_137, R7.g_141, R7.g_145, R7.g_161, R7.top, Hd.cs, hXT, q1, eqStr_iff, neStr_iff, hn, hv, r0, hlt2, hie, neBoolU, und4', hwi, n1, n2, n3, n4, -Int.natCast_add]
          simpa [hn, hv, -Int.natCast_add] using fin
      · have hie : ¬ i = r := fun e => hn (a3 e)
        simp [R7.g_32, R7.g_34, R7.g_36, R7.g_39, R7.g_43, R7.g_95, R7.g_97, R7.g_99, R7.g_103, R7.g_107, R7.g_110, R7.g_116, R7.g_120, R7.g_122, R7.g_128, R7.g_133, R7.g_135, R7.g_137, R7.g_141, R7.g_145, R7.g_161, R7.top, Hd.cs, hXT, q1, eqStr_iff, neStr_iff, hn, hie, neBoolU, und4', hwi, n1, n2, n3, n4, -Int.natCast_add]
        simpa [hn, -Int.natCast_add] using fin
  · have e : j = 61 + l.length := by omega
    subst e
    have hle : ¬ ((61 + l.length + 1 : Nat) : Int) ≤ 61 + (l.length : Int) := by omega
    have hr : r ≤ 61 + l.length ∧ (wh = true → 0 < r) := by
      cases wh with
      | true => have := fo.hit rfl; rw [hal] at this; omega
      | false => have := fo.miss rfl; rw [hal] at this; exact ⟨by omega, fun h => by simp at h⟩
    have g1 : (0 : Int) ≤ (r : Int) := by omega
    have g2 : (r : Int) ≤ 61 + (l.length : Int) := by omega
    cases wh with
    | true =>
      have g3 : (0 : Int) < (r : Int) := by have := hr.2 rfl; omega
      have g3' : 0 < r := hr.2 rfl
      simp [R7.b_177, R7.g_32, R7.g_34, R7.g_36, R7.g_39, R7.g_43, R7.g_95, R7.g_97, R7.g_99, R7.g_103, R7.g_107, R7.g_110, R7.g_116, R7.g_120, R7.g_122, R7.g_128, R7.g_133, R7.g_135, R7.g_137, R7.g_141, R7.g_145, R7.g_161, R7.top, len_iff17 hU (show 2 ≤ k by omega), hwl, hle, g1, g2, g3, g3', -Int.natCast_add]
      exact hawk _
    | false =>
      by_cases g3 : 0 < r
      · have g3' : (0 : Int) < (r : Int) := by omega
        simp [R7.b_177, R7.g_32, R7.g_34, R7.g_36, R7.g_39, R7.g_43, R7.g_95, R7.g_97, R7.g_99, R7.g_103, R7.g_107, R7.g_110, R7.g_116, R7.g_120, R7.g_122, R7.g_128, R7.g_133, R7.g_135, R7.g_137, R7.g_141, R7.g_145, R7.g_161, R7.top, len_iff17 hU (show 2 ≤ k by omega), hwl, hle, g1, g2, g3, g3', -Int.natCast_add]
        exact hawk _
      · have g3' : ¬ (0 : Int) < (r : Int) := by omega
        simp [R7.b_177, R7.g_32, R7.g_34, R7.g_36, R7.g_39, R7.g_43, R7.g_95, R7.g_97, R7.g_99, R7.g_103, R7.g_107, R7.g_110, R7.g_116, R7.g_120, R7.g_122, R7.g_128, R7.g_133, R7.g_135, R7.g_137, R7.g_141, R7.g_145, R7.g_161, R7.top, len_iff17 hU (show 2 ≤ k by omega), hwl, hle, g1, g2, g3, g3', -Int.natCast_add]
        exact hawk _
theorem law_TableFinds {n : Nat} {x : Value} {l : List OpT} {h : Hd} (hx : Sl σ x 5 n (l.flatMap OpT.cs)) (ho : ∀ o ∈ l, hsize o.h ≤ 16777216) (hl : l.length ≤ 1048576) (hk : 2097152 ≤ k) : wpA (callN Try.prog k 7 [x, .agg h.cs.toArray]) σ fun v _ => v = .bool true := by
  have e1 : n = l.length := by have := hx.1; rw [length_flatMap OpT.len] at this; omega
  subst e1
  rw [callN_at (by omega), R7.eq]
  have hbig : 2097151 ≤ k - 1 := by omega
  generalize hk1 : k - 1 = k1 at hbig
  simp [R7.top, Hd.cs, new_iff (k := k1) (m := 500) (by omega) (by omega), und35, eqPtrU]
  generalize hP : (σ.push (.cells [Tx h.name, Tx h.value, .bool h.secret] 23 false)).push (.cells [.bool true, .slice none 0 0, .int .i64 500, .int .i64 0] 59 false) = P
  have z1 : ¬ σ.next = σ.next + 1 := by omega
  have hP1 : P.get σ.next = some (.cells [Tx h.name, Tx h.value, .bool h.secret] 23 false) := by rw [← hP]; simp [z1]
  have hP2 : P.get (σ.next + 1) = some (.cells [.bool true, .slice none 0 0, .int .i64 500, .int .i64 0] 59 false) := by rw [← hP]; simp
  have hPn : P.next = σ.next + 2 := by rw [← hP]; simp
  have hPe : Ext σ P := by rw [← hP]; exact (Ext.push _ _).trans (Ext.push _ _)
  clear hP
  refine aw_loop1 (fun r u υ => ∃ (i : Nat) (v : Value) (T : List Hd), u = .int .i64 i ∧ i ≤ l.length ∧ r = l.length - i ∧ Tab (σ.next + 1 + 1) (σ.next + 1) υ v T 500 ∧ TOk T 500 ∧ P.next ≤ υ.next ∧ ∀ c, c < σ.next + 1 → υ.get c = P.get c) ?_ k1 l.length _ P ⟨0, .slice none 0 0, [], rfl, by omega, rfl, ⟨by simpa [total] using hP2, by simpa using Own.nil _ _ _ _⟩, ⟨by omega, by simp [total], by simp⟩, Nat.le_refl _, fun _ _ => rfl⟩ (by omega)
  rintro r rec u υ ⟨i, v, T, rfl, hi, rfl, hT, ok, hn, hc⟩ hrec
  have hxU : Sl υ x 5 l.length (l.flatMap OpT.cs) := hx.ext ⟨by omega, fun c hcc => by rw [hc c (by omega)]; exact hPe.2 c hcc⟩
  have hXU : υ.get σ.next = some (.cells [Tx h.name, Tx h.value, .bool h.secret] 23 false) := by rw [hc _ (by omega)]; exact hP1
  by_cases hlt : i < l.length
  · obtain ⟨o, hoi⟩ : ∃ o, l[i]? = some o := ⟨_, List.getElem?_eq_getElem hlt⟩
    have hoh := ho o (List.mem_of_getElem? hoi)
    have hwi : IntKind.i64.wrap ((i : Int) + 1) = ((i + 1 : Nat) : Int) := wrap64 (by omega) (by omega)
    have at0 := atF_all (k := .i64) (off := 0) (w := .int .i64 o.what) OpT.len hxU hoi rfl
    by_cases w0 : o.what = 0
    · simp [R7.b_204, len_iff hxU, hlt, ↓at0, w0, -Int.natCast_add]
      refine aw_part OpT.len (by omega) (by omega) hxU hoi ?_
      simp [OpT.cs]
      refine add_spec (x := o.h) hT (by omega) (by omega) ok hoh (by omega) fun v' τ t1 f1 => ?_
      have kp := f1.kept hT.2 (B' := σ.next + 1) (Nat.le_refl _) (by omega) (by omega)
      have kpn := kp.1
      simp [R7.j_185, hwi, -Int.natCast_add]
      exact hrec (l.length - (i + 1)) _ _ (by omega) ⟨i + 1, v', _, rfl, by omega, rfl, t1, ok.add o.h, by omega, fun c h => by rw [kp.2 c h]; exact hc c h⟩
    · simp [R7.b_204, R7.j_185, len_iff hxU, hlt, ↓at0, w0, hwi, -Int.natCast_add]
      exact hrec (l.length - (i + 1)) _ _ (by omega) ⟨i + 1, v, T, rfl, by omega, rfl, hT, ok, hn, hc⟩
  · have e : i = l.length := by omega
    subst e
    simp [R7.b_204, len_iff hxU, hXU]
    refine (find_spec (h := h) hT (by omega) (by omega) ok (by omega)).mono ?_
    rintro _ τ ⟨he, rfl⟩
    have hen := he.1
    simp
    exact finds_rest (hT.ext (by omega) he) (by omega) ok (by rw [he.2 _ (by omega)]; exact hXU) (by omega) (by omega)
end
end Go.Proofs.Ytedoaofmdlcjeaa
