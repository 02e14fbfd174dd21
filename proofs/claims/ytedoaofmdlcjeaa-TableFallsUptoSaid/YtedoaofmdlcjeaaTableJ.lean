/- TableBound. -/
import Derived.Test.YtedoaofmdlcjeaaTableI
set_option linter.unusedVariables false
set_option linter.unusedSimpArgs false
namespace Go.Proofs.Ytedoaofmdlcjeaa
open Go.Proofs.Ytedoaofmdlcjeaa.Eng
section
variable {σ : AW} {k : Nat} {Q : Value → AW → Prop}
theorem getV_rev {l : List Hd} {i : Nat} {x : Hd} (hx : l.reverse[i]? = some x) : getV l (62 + (i : Int)) = .tuple #[.agg x.cs.toArray, .int .i64 0] := by
  have hi : i < l.length := by have := (List.getElem?_eq_some_iff.1 hx).1; simpa using this
  rw [List.getElem?_reverse hi] at hx
  exact getV_at (i := l.length - 1 - i) (by omega) (by omega) (by omega) hx
theorem sum_spec {b i : Nat} {v : Value} {l : List Hd} {m : Nat} {rec : Value → AM Value} (hT : Tab (b + 1) b σ v l m) (hb : b < σ.next) (ok : TOk l m) (hi : i < 1099511627776) (hk : 5000 ≤ k) (hrec : ∀ τ, Ext σ τ → wpA (rec (.int .i64 ((i + 1 : Nat) : Int))) τ Q) : wpA (R6.j_75 (callN Try.prog k) k rec (ptr b) (.int .i64 i)) σ Q := by
  have hl2 := ok.len
  have hle := ok.le
  have hby := ok.bytes
  simp [R6.j_75]
  refine aw_loop2 (fun r u x υ => ∃ j : Nat, u = .int .i64 (total (l.reverse.take j) : Nat) ∧ x = .int .i64 j ∧ j ≤ l.length ∧ r = l.length - j ∧ Ext σ υ) ?_ k l.length _ _ σ ⟨0, rfl, rfl, by omega, rfl, Ext.refl _⟩ (by omega)
  rintro r rec2 u x υ ⟨j, rfl, rfl, hj, rfl, ex⟩ hrec2
  have hU := hT.ext hb ex
  have exn := ex.1
  have htr : total (l.reverse.take j) ≤ total l := by
    have := congrArg total (List.take_append_drop j l.reverse)
    rw [total_app, total_rev] at this
    omega
  by_cases hlt : j < l.length
  · obtain ⟨x, hx⟩ : ∃ x, l.reverse[j]? = some x := ⟨_, List.getElem?_eq_getElem (by rw [List.length_reverse]; exact hlt)⟩
    have hw1 : IntKind.i64.wrap (62 + (j : Int)) = 62 + (j : Int) := wrap64 (by omega) (by omega)
    have hwi : IntKind.i64.wrap ((j : Int) + 1) = ((j + 1 : Nat) : Int) := wrap64 (by omega) (by omega)
    have htk : l.reverse.take (j + 1) = l.reverse.take j ++ [x] := by rw [List.take_add_one, hx]; rfl
    have h1 := total_app (l.reverse.take j) [x]
    have h2 : total [x] = hsize x := by simp [total]
    have h3 := congrArg total (List.take_append_drop (j + 1) l.reverse)
    rw [total_app, total_rev] at h3
    rw [← htk] at h1
    have hws : IntKind.i64.wrap ((total (l.reverse.take j) : Int) + (hsize x : Int)) = ((total (l.reverse.take (j + 1)) : Nat) : Int) := by rw [wrap64 (by omega) (by omega)]; omega
    simp [R6.b_74, len_iff17 hU (show 2 ≤ k by omega), hlt, hw1, -Int.natCast_add]
    refine (get_spec hU (by omega) (by omega) hl2 (by omega)).mono ?_
    rintro _ τ ⟨he, rfl⟩
    rw [getV_rev hx]
    simp [Hd.cs]
    have eF : Ext σ ((τ.push (.cells [.string ⟨#[]⟩, .string ⟨#[]⟩, .bool false] 23 false)).put τ.next (some (.cells [Tx x.name, Tx x.value, .bool x.secret] 23 false))) := (((ex.trans he).trans (Ext.push _ _)).kept (Nat.le_refl _)).put (by have := he.1; omega) _
    refine (size_spec' (h := x) (by omega) (by omega)).mono ?_
    rintro _ τ2 ⟨he2, rfl⟩
    simp [hws, hwi, -Int.natCast_add]
    exact hrec2 (l.length - (j + 1)) _ _ _ (by omega) ⟨j + 1, rfl, rfl, by omega, rfl, eF.trans he2⟩
  · have e : j = l.length := by omega
    subst e
    have e2 : l.reverse.take l.length = l.reverse := List.take_of_length_le (by simp)
    have hwi : IntKind.i64.wrap ((i : Int) + 1) = ((i + 1 : Nat) : Int) := wrap64 (by omega) (by omega)
    have hng : ¬ (m : Int) < (total l : Int) := by omega
    have hng' : ¬ m < total l := by omega
    rw [e2, total_rev]
    simp [R6.b_74, R6.g_36, R6.g_113, R6.g_115, R6.g_117, R6.g_120, R6.g_123, R6.g_130, R6.g_138, R6.top, len_iff17 hU (show 2 ≤ k by omega), bytes_iff hU (show 2 ≤ k by omega), most_iff hU (show 2 ≤ k by omega), hng, hng', hwi, -Int.natCast_add]
    exact hrec υ ex
theorem law_TableBound {m n : Nat} {x : Value} {l : List OpT} (hx : Sl σ x 5 n (l.flatMap OpT.cs)) (ho : ∀ o ∈ l, hsize o.h ≤ 16777216) (hl : l.length ≤ 1048576) (hm : m < 65536) (hk : 2097152 ≤ k) : wpA (callN Try.prog k 6 [.int .u16 m, x]) σ fun v _ => v = .bool true := by
  have e1 : n = l.length := by have := hx.1; rw [length_flatMap OpT.len] at this; omega
  subst e1
  rw [callN_at (by omega), R6.eq]
  have hbig : 2097151 ≤ k - 1 := by omega
  generalize hk1 : k - 1 = k1 at hbig
  have hawk : ∀ τ, wpA (callN Try.prog k1 11 []) τ fun v _ => v = .bool true := fun τ => awake_spec (by omega)
  have hwm : IntKind.i64.wrap (m : Int) = (m : Int) := wrap64 (by omega) (by omega)
  have hm2 : 0 ≤ (m : Int) ∧ (m : Int) ≤ 65536 := by omega
  have hE : Ext σ (σ.push (.cells [.bool true, .slice none 0 0, .int .i64 (m : Int), .int .i64 0] 59 false)) := Ext.push _ _
  have hxE := hx.ext hE
  simp [R6.top, hwm, new_iff (k := k1) (by omega) hm2, und35, eqPtrU]
  have hxb : ∀ c, InBlk x c → c < σ.next := fun c hc => sl_blk hx hc
  have slk : ∀ {τ : AW}, σ.next ≤ τ.next → (∀ c, c < σ.next → τ.get c = σ.get c) → Sl τ x 5 l.length (l.flatMap OpT.cs) := fun {τ} hn hc => hx.ext ⟨hn, hc⟩
  refine aw_loop1 (fun r u υ => ∃ (i : Nat) (v : Value) (T : List Hd) (m' : Nat), u = .int .i64 i ∧ i ≤ l.length ∧ r = l.length - i ∧ Tab (σ.next + 1) σ.next υ v T m' ∧ TOk T m' ∧ σ.next + 1 ≤ υ.next ∧ ∀ c, c < σ.next → υ.get c = σ.get c) ?_ k1 l.length _ _ ⟨0, .slice none 0 0, [], m, rfl, by omega, rfl, ⟨by simp [total], by simpa using Own.nil _ _ _ _⟩, ⟨by omega, by simp [total], by simp⟩, by simp, fun c hc => hE.2 c hc⟩ (by omega)
  rintro r rec u υ ⟨i, v, T, m', rfl, hi, rfl, hT, ok, hn, hc⟩ hrec
  have hxU := slk (by omega) hc
  by_cases hlt : i < l.length
  · obtain ⟨o, hoi⟩ : ∃ o, l[i]? = some o := ⟨_, List.getElem?_eq_getElem hlt⟩
    have hoh := ho o (List.mem_of_getElem? hoi)
    simp [R6.b_150, len_iff hxU, hlt, ↓atS_all OpT.len (by omega) hxU hoi, OpT.cs, -Int.natCast_add]
    generalize hP : (υ.push (.cells [.int .i64 0, .int .i64 0, .string ⟨#[]⟩, .string ⟨#[]⟩, .bool false] 43 false)).put υ.next (some (.cells [.int .i64 o.what, .int .i64 o.n, Tx o.h.name, Tx o.h.value, .bool o.h.secret] 43 false)) = P
    have hPx : P.get υ.next = some (.cells [.int .i64 o.what, .int .i64 o.n, Tx o.h.name, Tx o.h.value, .bool o.h.secret] 43 false) := by rw [← hP]; simp
    have hPn : P.next = υ.next + 1 := by rw [← hP]; simp
    have hPe : Ext υ P := by rw [← hP]; exact ((Ext.push υ _).kept (Nat.le_refl _)).put (Nat.le_refl _) _
    clear hP
    have hTP := hT.ext (by omega) hPe
    have nextS : ∀ {v' : Value} {T' : List Hd} {m2 : Nat} {τ : AW}, Tab (σ.next + 1) σ.next τ v' T' m2 → TOk T' m2 → Fr σ.next v v' P τ → ∀ τ', Ext τ τ' → wpA (rec (.int .i64 ((i + 1 : Nat) : Int))) τ' fun v _ => v = .bool true := by
      intro v' T' m2 τ t1 ok1 f1 τ' ex
      have kp := f1.kept hTP.2 (B' := σ.next) (Nat.le_refl _) (by omega) (by omega)
      have kpn := kp.1
      have exn := ex.1
      exact hrec (l.length - (i + 1)) _ _ (by omega) ⟨i + 1, v', T', m2, rfl, by omega, rfl, t1.ext (by omega) ex, ok1, by omega, fun c h => by rw [ex.2 c (by omega), kp.2 c h, hPe.2 c (by omega)]; exact hc c h⟩
    have ocs : [Tx o.h.name, Tx o.h.value, Value.bool o.h.secret] = o.h.cs := rfl
    by_cases w0 : o.what = 0
    · simp [w0]
      refine add_spec (x := o.h) hTP (by omega) (by omega) ok hoh (by omega) fun v' τ t1 f1 => ?_
      have ok1 := ok.add o.h
      have f1n := f1.1
      have hOx : τ.get υ.next = _ := (f1.2.1 υ.next (by omega) (by omega) (fun h => by have := own_new_lt hT.2 h; omega)).trans hPx
      refine (get_spec t1 (by omega) (by omega) ok1.len (by omega)).mono ?_
      rintro _ τ2 ⟨he2, rfl⟩
      have he2n := he2.1
      have q1 : ¬ υ.next = τ2.next := by omega
      have hO2 : τ2.get υ.next = some (.cells [.int .i64 o.what, .int .i64 o.n, Tx o.h.name, Tx o.h.value, .bool o.h.secret] 43 false) := by rw [he2.2 _ (by omega)]; exact hOx
      by_cases hfit : hsize o.h ≤ m'
      · have e : addL T m' o.h = fallL T ((m' : Int) - hsize o.h) ++ [plain o.h] := by unfold addL; rw [if_pos hfit]
        have hgv : getV (addL T m' o.h) 62 = .tuple #[.agg (plain o.h).cs.toArray, .int .i64 0] := by
          rw [e]
          refine getV_at (i := (fallL T ((m' : Int) - hsize o.h)).length) (by omega) (by simp; omega) (by simp; omega) ?_
          rw [List.getElem?_append_right (Nat.le_refl _)]; simp
        rw [hgv]
        have hfit' : (hsize o.h : Int) ≤ (m' : Int) := by omega
        simp [Hd.cs, hO2, q1]
        have eS : Ext τ2 ((τ2.push (.cells [.string ⟨#[]⟩, .string ⟨#[]⟩, .bool false] 23 false)).put τ2.next (some (.cells [Tx (plain o.h).name, Tx (plain o.h).value, .bool (plain o.h).secret] 23 false))) := ((Ext.push _ _).kept (Nat.le_refl _)).put (Nat.le_refl _) _
        refine (size_spec' (h := o.h) hoh (by omega)).mono ?_
        rintro _ τ3 ⟨he3, rfl⟩
        have he3n := he3.1
        simp at he3n
        have ex3 := (he2.trans eS).trans he3
        have t3 := t1.ext (by omega) ex3
        have hO3 : τ3.get υ.next = some (.cells [.int .i64 o.what, .int .i64 o.n, Tx o.h.name, Tx o.h.value, .bool o.h.secret] 43 false) := by rw [he3.2 _ (by simp; omega), eS.2 _ (by omega)]; exact hO2
        have hS3 : τ3.get τ2.next = some (.cells [Tx o.h.name, Tx o.h.value, .bool false] 23 false) := by rw [he3.2 _ (by simp)]; simp [plain]
        simp [most_iff t3 (show 2 ≤ k1 by omega), hfit, hfit', neBoolU, und4', R6.g_36, R6.g_113, R6.g_115, R6.g_117, R6.g_120, R6.g_123, R6.g_130, R6.g_138, R6.top, hS3, hO3, neStr_iff]
        exact sum_spec t3 (by omega) ok1 (by omega) (by omega) fun τ' ex => nextS t1 ok1 f1 τ' (ex3.trans ex)
      · have e : addL T m' o.h = fallL T ((m' : Int) - hsize o.h) := by unfold addL; rw [if_neg hfit]
        have e2 : addL T m' o.h = [] := by rw [e]; exact fall_neg _ _ (by omega)
        have hgv : getV (addL T m' o.h) 62 = .tuple #[.agg Hd.none.cs.toArray, .int .i64 50] := by
          rw [e2]
          exact getV_none (by simp)
        rw [hgv]
        have hfit' : ¬ (hsize o.h : Int) ≤ (m' : Int) := by omega
        simp [Hd.cs, hO2, q1]
        have eS : ∀ oo, Ext τ2 ((τ2.push (.cells [.string ⟨#[]⟩, .string ⟨#[]⟩, .bool false] 23 false)).put τ2.next oo) := fun oo => ((Ext.push _ _).kept (Nat.le_refl _)).put (Nat.le_refl _) _
        refine (size_spec' (h := o.h) hoh (by omega)).mono ?_
        rintro _ τ3 ⟨he3, rfl⟩
        have ex3 := (he2.trans (eS _)).trans he3
        have t3 := t1.ext (by omega) ex3
        have ex3n := ex3.1
        simp [most_iff t3 (show 2 ≤ k1 by omega), hfit, hfit', neBoolU, und4', R6.g_36, R6.g_113, R6.g_115, R6.g_117, R6.g_120, R6.g_123, R6.g_130, R6.g_138, R6.top]
        exact sum_spec t3 (by omega) ok1 (by omega) (by omega) fun τ' ex => nextS t1 ok1 f1 τ' (ex3.trans ex)
    · simp [w0]
      refine resize_spec hTP (by omega) (by omega) ok (by omega) fun v' τ t1 f1 => ?_
      have f1n := f1.1
      exact sum_spec t1 (by omega) (ok.res o.n) (by omega) (by omega) fun τ' ex => nextS t1 (ok.res o.n) f1 τ' ex
  · have e : i = l.length := by omega
    subst e
    simp [R6.b_150, len_iff hxU]
    exact hawk _
end
end Go.Proofs.Ytedoaofmdlcjeaa
