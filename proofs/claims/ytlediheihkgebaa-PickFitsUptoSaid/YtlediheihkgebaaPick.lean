/- Plain laws of what Pick computes: no program in sight but what Res18 prints. -/
import Derived.Test.YtlediheihkgebaaRes18
import Derived.Test.YtlediheihkgebaaEngT
set_option linter.unusedVariables false
set_option linter.unusedSimpArgs false
namespace Go.Proofs.Ytlediheihkgebaa
open Go.Proofs.Ytlediheihkgebaa.Eng

/-- The steps that are there at all. -/
def big : Nat := 4194304
def I (n : Int) : Value := .int .i64 n
structure Bk where
  up : Bool
  slots : Int
  load : Int
def Bk.cs (b : Bk) : List Value := [.bool b.up, .int .i64 b.slots, .int .i64 b.load]
theorem Bk.len (b : Bk) : b.cs.length = 3 := rfl
def nth (n : Nat) : Value := .int .i64 (n : Int)

theorem ints_spec {σ : AW} {x y : Value} {l m : List Nat} {call : FuncId → List Value → AM Value} {k n1 n2 : Nat} (hx : Sl σ x 1 n1 (l.map nth)) (hy : Sl σ y 1 n2 (m.map nth)) (hb : ∀ a ∈ l, a < big) (hb' : ∀ a ∈ m, a < big) (hl : l.length < big) (hk : big ≤ k) :
    wpA (R13.top call k x y) σ fun v τ => v = .bool (decide (l = m)) ∧ τ = σ := by
  have e1 : n1 = l.length := by have := hx.1; simp at this; omega
  have e2 : n2 = m.length := by have := hy.1; simp at this; omega
  subst e1; subst e2
  unfold R13.top
  refine aw_bindV (aw_lenSl hx (aw_bindV (aw_lenSl hy ?_)))
  simp only [wpA_bindV, wpA_neq, wpA_cond, wpA_ret, decide_eq_true_eq]
  split
  · rename_i hne
    refine ⟨?_, trivial⟩
    rw [decide_eq_false]
    rintro rfl
    exact hne rfl
  · rename_i hlen
    have hlen' : l.length = m.length := by omega
    refine aw_loop1 (fun r v τ => τ = σ ∧ ∃ i : Nat, v = nth i ∧ i ≤ l.length ∧ r = l.length - i ∧ l.take i = m.take i) ?_ k l.length _ σ ⟨rfl, 0, rfl, by omega, by omega, by simp⟩ (by omega)
    rintro r rec v τ ⟨rfl, i, rfl, hi, rfl, heq⟩ hrec
    unfold R13.b_13
    refine aw_bindV (aw_lenSl hx ?_)
    simp only [nth, wpA_bindV, wpA_lss, wpA_cond, wpA_ret, decide_eq_true_eq]
    split
    · rename_i hlt
      have hlt' : i < l.length := by omega
      have h1 : l[i]? = some l[i] := List.getElem?_eq_getElem hlt'
      have h2 : m[i]? = some (m[i]'(by omega)) := List.getElem?_eq_getElem _
      simp only [← wpA_bindV]
      refine aw_at1 hx (by omega) (by rw [Int.toNat_natCast]; exact h1) (aw_at1 hy (by omega) (by rw [Int.toNat_natCast]; exact h2) ?_)
      simp only [nth, wpA_bindV, wpA_neq, wpA_cond, wpA_ret, wpA_add, decide_eq_true_eq]
      split
      · rename_i hne
        refine ⟨?_, trivial⟩
        rw [decide_eq_false]
        rintro rfl
        exact hne rfl
      · rename_i heq2
        have heq3 : l[i] = m[i]'(by omega) := by omega
        rw [wrap64 (by omega) (by unfold big at hl; omega)]
        exact hrec (l.length - (i + 1)) _ _ (by omega) ⟨rfl, i + 1, rfl, by omega, rfl, by rw [List.take_add_one, List.take_add_one, heq, h1, h2, heq3]⟩
    · rename_i hge
      have : i = l.length := by omega
      subst this
      refine ⟨?_, trivial⟩
      rw [List.take_length, hlen', List.take_length] at heq
      simp [heq]


/-! ### what is fit -/
def Bk.ok (b : Bk) : Bool := b.up && decide (0 < b.slots)
def okAt (l : List Bk) (i : Nat) : Bool := match l[i]? with
  | some b => b.ok
  | none => false
def fitUp (l : List Bk) (i : Nat) : List Nat := (List.range i).filter (okAt l)
def fitL (l : List Bk) : List Nat := fitUp l l.length
theorem fitUp_succ (l : List Bk) (i : Nat) : fitUp l (i + 1) = fitUp l i ++ (if okAt l i = true then [i] else []) := by
  unfold fitUp
  rw [List.range_succ, List.filter_append]
  congr 1
  cases h : okAt l i <;> simp [h]
theorem fitUp_len (l : List Bk) (i : Nat) : (fitUp l i).length ≤ i := by
  unfold fitUp
  exact Nat.le_trans (List.length_filter_le _ _) (by simp)
def BkOk (b : Bk) : Prop := (Lit.int .i64 b.slots).wf = true ∧ (Lit.int .i64 b.load).wf = true

theorem one_fill (v : Value) (hv : v.cells = #[v]) (hc : isCell v = true) : fillA (fun i => some (i * 1, 1)) (zeros [Value.int .i64 0] (1 * 1)) [(0, v)] = some [v] := by
  simp [fillA, zeros, hv, hc, splice]

theorem rfit_spec {σ : AW} {x : Value} {l : List Bk} {call : FuncId → List Value → AM Value} {k n : Nat} (hx : Sl σ x 3 n (l.flatMap Bk.cs)) (hl : l.length < big) (hk : big ≤ k) :
    wpA (R15.top call k x) σ fun v τ => Ext σ τ ∧ Own σ.next τ v 3 1 (fitL l).length ((fitL l).map nth) := by
  have e1 : n = l.length := by have h := hx.1; rw [length_flatMap Bk.len] at h; omega
  subst e1
  unfold R15.top
  refine aw_loop2 (fun r u v τ => Kept σ.next σ τ ∧ ∃ i : Nat, v = nth i ∧ i ≤ l.length ∧ r = l.length - i ∧ Own σ.next τ u 3 1 (fitUp l i).length ((fitUp l i).map nth)) ?_ k l.length _ _ σ ⟨Kept.refl _ _, 0, rfl, by omega, by omega, Own.nil _ _ _ _⟩ (by omega)
  rintro r rec u v τ ⟨hext, i, rfl, hi, rfl, hown⟩ hrec
  have hx' := hx.kept (Nat.le_refl _) hext
  unfold R15.b_25
  refine aw_bindV (aw_lenSl hx' ?_)
  simp only [nth, wpA_bindV, wpA_lss, wpA_cond, wpA_ret, decide_eq_true_eq]
  have hB : σ.next ≤ τ.next := hext.1
  have step : ∀ (w : Value) (τ' : AW), Own σ.next τ' w 3 1 (fitUp l (i + 1)).length ((fitUp l (i + 1)).map nth) → Kept σ.next σ τ' → i < l.length → wpA (R15.j_7 call k rec (nth i) w) τ' fun v τ => Ext σ τ ∧ Own σ.next τ v 3 1 (fitL l).length ((fitL l).map nth) := fun w τ' h1 h2 hlt => by
    unfold R15.j_7
    simp only [nth, wpA_bindV, wpA_add]
    rw [wrap64 (by omega) (by unfold big at hl; omega)]
    exact hrec (l.length - (i + 1)) _ _ _ (by omega) ⟨h2, i + 1, rfl, by omega, rfl, h1⟩
  split
  · rename_i hlt
    have hlt' : i < l.length := by omega
    have h1 : l[(i : Int).toNat]? = some l[i] := by rw [Int.toNat_natCast]; exact List.getElem?_eq_getElem hlt'
    have hok : okAt l i = l[i].ok := by unfold okAt; rw [List.getElem?_eq_getElem hlt']
    simp only [← wpA_bindV]
    refine aw_atF Bk.len hx' (by omega) h1 (by omega) (w := .bool l[i].up) rfl ?_
    have fin : ∀ b : Bool, b = l[i].ok → wpA (condA (.bool b) (bindV (buildSliceA 3 1 1 [.int .i64 0] [(0, nth i)]) fun v26 => bindV (appendA 3 1 8 u v26) fun v27 => R15.j_7 call k rec (nth i) v27) (R15.j_7 call k rec (nth i) u)) τ
        fun v τ => Ext σ τ ∧ Own σ.next τ v 3 1 (fitL l).length ((fitL l).map nth) := fun b hb => by
      refine aw_condB (fun ht => ?_) (fun hf => ?_)
      · have hs : fitUp l (i + 1) = fitUp l i ++ [i] := by rw [fitUp_succ, hok, ← hb, ht]; rfl
        have hlen := fitUp_len l i
        refine aw_push1 hown (one_fill (nth i) rfl rfl) rfl (by decide) rfl rfl (by decide) (by unfold big at hl; omega) hB fun w τ' h2 h3 => step w τ' ?_ (hext.trans (h3.kept hown hB)) hlt'
        rw [hs]
        simpa using h2
      · have hs : fitUp l (i + 1) = fitUp l i := by rw [fitUp_succ, hok, ← hb, hf]; simp
        exact step u τ (by rw [hs]; exact hown) hext hlt'
    simp only [wpA_guardT]
    split
    · rename_i hup
      refine aw_atF Bk.len hx' (by omega) h1 (by omega) (w := .int .i64 l[i].slots) rfl ?_
      unfold R15.g_17
      simp only [wpA_bindV, wpA_gtr, wpA_pick]
      rw [if_pos hup]
      exact fin _ (by simp [Bk.ok, hup])
    · rename_i hup
      unfold R15.g_17
      simp only [wpA_bindV, wpA_pick]
      rw [if_neg hup]
      exact fin _ (by simp [Bk.ok, hup])
  · rename_i hge
    have : i = l.length := by omega
    subst this
    exact ⟨hext, hown⟩


/-- Whole numbers, one behind the other, are appended to. -/
theorem push_nth {B : Nat} {σ : AW} {s : Value} {n : Nat} {l : List Nat} {a : Nat} {K : Value → AM Value} {Q : Value → AW → Prop} (hs : Own B σ s 3 1 n (l.map nth)) (hn : n < big) (hB : B ≤ σ.next)
    (h : ∀ v τ, Own B τ v 3 1 (l ++ [a]).length ((l ++ [a]).map nth) → ExtBut s σ τ → wpA (K v) τ Q) : wpA (bindV (buildSliceA 3 1 1 [.int .i64 0] [(0, nth a)]) fun x => bindV (appendA 3 1 8 s x) K) σ Q := by
  refine aw_push1 hs (one_fill (nth a) rfl rfl) rfl (by decide) rfl rfl (by decide) (by unfold big at hn; omega) hB fun v τ h1 h2 => h v τ ?_ h2
  have : n = l.length := by have := hs.1; simp at this; omega
  subst this
  simpa using h1

theorem filter_spec {σ : AW} {x : Value} {l : List Nat} {n : Nat} {f : FuncId} {cap : List Value} {p : Nat → Bool} {call : FuncId → List Value → AM Value} {k : Nat} (hx : Sl σ x 1 n (l.map nth)) (hl : l.length < big) (hb : ∀ a ∈ l, a < big) (hk : big ≤ k)
    (hf : ∀ a ∈ l, ∀ τ, Kept σ.next σ τ → wpA (call f (nth a :: cap)) τ fun v υ => v = .bool (p a) ∧ υ = τ) :
    wpA (R33.top call k x (.func (.func f) #[] ⟨cap⟩)) σ fun v τ => Ext σ τ ∧ Own σ.next τ v 3 1 (l.filter p).length ((l.filter p).map nth) := by
  have e1 : n = l.length := by have h := hx.1; simp at h; omega
  subst e1
  unfold R33.top
  refine aw_bindV (aw_lenSl hx ?_)
  refine aw_loop2 (fun r u v τ => Kept σ.next σ τ ∧ ∃ i : Nat, v = nth i ∧ i ≤ l.length ∧ r = l.length - i ∧ Own σ.next τ u 3 1 ((l.take i).filter p).length (((l.take i).filter p).map nth)) ?_ k l.length _ _ σ ⟨Kept.refl _ _, 0, rfl, by omega, by omega, Own.nil _ _ _ _⟩ (by omega)
  rintro r rec u v τ ⟨hext, i, rfl, hi, rfl, hown⟩ hrec
  have hx' := hx.kept (Nat.le_refl _) hext
  have hB : σ.next ≤ τ.next := hext.1
  unfold R33.b_16
  simp only [nth, wpA_bindV, wpA_lss, wpA_cond, wpA_ret, decide_eq_true_eq]
  have step : ∀ (w : Value) (τ' : AW), Own σ.next τ' w 3 1 ((l.take (i + 1)).filter p).length (((l.take (i + 1)).filter p).map nth) → Kept σ.next σ τ' → i < l.length → wpA (R33.j_9 call k rec (nth i) w) τ' fun v τ => Ext σ τ ∧ Own σ.next τ v 3 1 (l.filter p).length ((l.filter p).map nth) := fun w τ' h1 h2 hlt => by
    unfold R33.j_9
    simp only [nth, wpA_bindV, wpA_add]
    rw [wrap64 (by omega) (by unfold big at hl; omega)]
    exact hrec (l.length - (i + 1)) _ _ _ (by omega) ⟨h2, i + 1, rfl, by omega, rfl, h1⟩
  split
  · rename_i hlt
    have hlt' : i < l.length := by omega
    have h1 : l[i]? = some l[i] := List.getElem?_eq_getElem hlt'
    have h1' : l[(i : Int).toNat]? = some l[i] := by rw [Int.toNat_natCast]; exact h1
    have htk : l.take (i + 1) = l.take i ++ [l[i]] := by rw [List.take_add_one, h1]; rfl
    simp only [← wpA_bindV]
    refine aw_at1 hx' (by omega) h1' (aw_bindV (aw_callA ?_))
    refine (hf l[i] (List.getElem_mem _) τ hext).mono fun v υ ⟨hv, hυ⟩ => ?_
    subst hv; subst hυ
    refine aw_condB (fun ht => ?_) (fun hf => ?_)
    · have hfl : (l.take (i + 1)).filter p = (l.take i).filter p ++ [l[i]] := by rw [htk, List.filter_append]; simp [ht]
      refine push_nth hown (Nat.lt_of_le_of_lt (List.length_filter_le _ _) (by simp; omega)) hB fun w τ' h2 h3 => step w τ' (by rw [hfl]; exact h2) (hext.trans (h3.kept hown hB)) hlt'
    · have hfl : (l.take (i + 1)).filter p = (l.take i).filter p := by rw [htk, List.filter_append]; simp [hf]
      exact step u υ (by rw [hfl]; exact hown) hext hlt'
  · rename_i hge
    have : i = l.length := by omega
    subst this
    rw [List.take_length] at hown
    exact ⟨hext, hown⟩

/-- The closure of Fit: what it is held to stands in a cell. -/
theorem fit1_spec {σ : AW} {x : Value} {b : Nat} {e : TypeId} {ro : Bool} {l : List Bk} {n a : Nat} {call : FuncId → List Value → AM Value} {k : Nat} (hb : σ.get b = some (.cells [x] e ro)) (hx : Sl σ x 3 n (l.flatMap Bk.cs)) (ha : a < l.length) :
    wpA (R34.top call k (nth a) (.pointer (some ⟨b, 0, none⟩))) σ fun v τ => v = .bool (okAt l a) ∧ τ = σ := by
  have h1 : l[((a : Nat) : Int).toNat]? = some l[a] := by rw [Int.toNat_natCast]; exact List.getElem?_eq_getElem ha
  have hok : okAt l a = l[a].ok := by unfold okAt; rw [List.getElem?_eq_getElem ha]
  unfold R34.top
  refine aw_bindV (aw_load hb (v := x) rfl ?_)
  refine aw_atF Bk.len hx (by omega) h1 (by omega) (w := .bool l[a].up) rfl ?_
  simp only [wpA_guardT]
  split
  · rename_i hup
    refine aw_bindV (aw_load hb (v := x) rfl ?_)
    refine aw_atF Bk.len hx (by omega) h1 (by omega) (w := .int .i64 l[a].slots) rfl ?_
    unfold R34.g_8
    simp only [wpA_bindV, wpA_gtr, wpA_pick, wpA_ret]
    rw [if_pos hup, hok]
    exact ⟨by simp [Bk.ok, hup], trivial⟩
  · rename_i hup
    unfold R34.g_8
    simp only [wpA_bindV, wpA_pick, wpA_ret]
    rw [if_neg hup, hok]
    exact ⟨by simp [Bk.ok, hup], trivial⟩

theorem callN_eq (P : Program) (n : Nat) (f : FuncId) (args : List Value) : callN P (n + 1) f args = funcA P (callN P n) n f args := rfl

theorem sl_one {σ : AW} {x : Value} {z n : Nat} {vs : List Value} (h : Sl σ x z n vs) : x.cells = #[x] ∧ isCell x = true := by
  obtain ⟨a, c, rfl⟩ := h.form
  exact ⟨rfl, rfl⟩

theorem fit_spec {σ : AW} {x : Value} {l : List Bk} {n k : Nat} (hx : Sl σ x 3 n (l.flatMap Bk.cs)) (hl : l.length < big) (hk : big + 10 ≤ k) :
    wpA (callN Try.prog k 14 [x]) σ fun v τ => Ext σ τ ∧ Own σ.next τ v 3 1 (fitL l).length ((fitL l).map nth) := by
  have e1 : n = l.length := by have h := hx.1; rw [length_flatMap Bk.len] at h; omega
  subst e1
  obtain ⟨k, rfl⟩ : ∃ m, k = m + 1 := ⟨k - 1, by omega⟩
  rw [callN_eq, R14.eq]
  obtain ⟨hc1, hc2⟩ := sl_one hx
  unfold R14.top
  refine aw_bindV (aw_box (by simp [hc1, hc2]) ?_)
  rw [hc1]
  generalize hσ1 : σ.push (.cells [x] 22 false) = σ1
  have hb1 : σ1.get σ.next = some (.cells [x] 22 false) := by rw [← hσ1, AW.get_push, if_pos rfl]
  have hex1 : Ext σ σ1 := hσ1 ▸ Ext.push σ _
  have hn1 : σ1.next = σ.next + 1 := by rw [← hσ1]; simp
  have hx1 := hx.ext hex1
  refine aw_bindV (aw_load hb1 (v := x) rfl (aw_bindV (aw_lenSl hx1 ?_)))
  refine aw_loop2 (fun r u v τ => Kept σ1.next σ1 τ ∧ ∃ i : Nat, v = nth i ∧ i ≤ l.length ∧ r = l.length - i ∧ Own σ1.next τ u 3 1 (List.range i).length ((List.range i).map nth)) ?_ k l.length _ _ σ1 ⟨Kept.refl _ _, 0, rfl, by omega, by omega, Own.nil _ _ _ _⟩ (by omega)
  rintro r rec u v τ ⟨hext, i, rfl, hi, rfl, hown⟩ hrec
  have hB : σ1.next ≤ τ.next := hext.1
  unfold R14.b_16
  simp only [nth, wpA_bindV, wpA_lss, wpA_cond, wpA_ret, decide_eq_true_eq]
  split
  · rename_i hlt
    simp only [← wpA_bindV]
    refine push_nth hown (by simp; omega) hB fun w τ' h2 h3 => ?_
    simp only [wpA_bindV, wpA_add]
    rw [wrap64 (by omega) (by unfold big at hl; omega)]
    exact hrec (l.length - (i + 1)) _ _ _ (by omega) ⟨hext.trans (h3.kept hown hB), i + 1, rfl, by omega, rfl, by rw [List.range_succ]; exact h2⟩
  · rename_i hge
    have : i = l.length := by omega
    subst this
    obtain ⟨k, rfl⟩ : ∃ m, k = m + 1 := ⟨k - 1, by omega⟩
    rw [callN_eq, R33.eq]
    have hsl := hown.sl
    refine (filter_spec (p := okAt l) hsl (by simp; exact hl) (by simp; omega) (by omega) fun a ha τ' hk' => ?_).mono fun v υ ⟨h1, h2⟩ => ?_
    · obtain ⟨k, rfl⟩ : ∃ m, k = m + 1 := ⟨k - 1, by omega⟩
      rw [callN_eq, R34.eq]
      have hkk : Kept σ1.next σ1 τ' := hext.trans (hk'.mono hB)
      exact fit1_spec (by rw [hkk.2 _ (by omega)]; exact hb1) (hx1.kept (Nat.le_refl _) hkk) (by simpa using ha)
    · refine ⟨hex1.trans (Ext.trans hext h1), ?_⟩
      exact h2.mono (by have := hex1.1; omega)
theorem rfit_call {σ : AW} {x : Value} {l : List Bk} {n k : Nat} (hx : Sl σ x 3 n (l.flatMap Bk.cs)) (hl : l.length < big) (hk : big + 1 ≤ k) :
    wpA (callN Try.prog k 15 [x]) σ fun v τ => Ext σ τ ∧ Own σ.next τ v 3 1 (fitL l).length ((fitL l).map nth) := by
  obtain ⟨k, rfl⟩ : ∃ m, k = m + 1 := ⟨k - 1, by omega⟩
  rw [callN_eq, R15.eq]
  exact rfit_spec hx hl (by omega)


/-! ### ties -/
def loadAt (l : List Bk) (i : Nat) : Int := match l[i]? with
  | some b => b.load
  | none => 0
def tiesL (l : List Bk) : List Nat := (fitL l).filter fun i => (fitL l).all fun j => decide (loadAt l i ≤ loadAt l j)
theorem fit_lt {l : List Bk} {i : Nat} (h : i ∈ fitL l) : i < l.length := by
  unfold fitL fitUp at h
  exact List.mem_range.1 (List.mem_filter.1 h).1
theorem fit_le (l : List Bk) : (fitL l).length ≤ l.length := fitUp_len l _

theorem ties1_spec {σ : AW} {x : Value} {b c : Nat} {e e' : TypeId} {ro ro' : Bool} {l : List Bk} {n a : Nat} {least : Int} {call : FuncId → List Value → AM Value} {k : Nat} (hb : σ.get b = some (.cells [x] e ro)) (hc : σ.get c = some (.cells [.int .i64 least] e' ro')) (hx : Sl σ x 3 n (l.flatMap Bk.cs)) (ha : a < l.length) :
    wpA (R35.top call k (nth a) (.pointer (some ⟨b, 0, none⟩)) (.pointer (some ⟨c, 0, none⟩))) σ fun v τ => v = .bool (decide (loadAt l a = least)) ∧ τ = σ := by
  have h1 : l[((a : Nat) : Int).toNat]? = some l[a] := by rw [Int.toNat_natCast]; exact List.getElem?_eq_getElem ha
  have hla : loadAt l a = l[a].load := by unfold loadAt; rw [List.getElem?_eq_getElem ha]
  unfold R35.top
  refine aw_bindV (aw_load hb (v := x) rfl ?_)
  refine aw_atF Bk.len hx (by omega) h1 (by omega) (w := .int .i64 l[a].load) rfl ?_
  refine aw_bindV (aw_load hc (v := .int .i64 least) rfl ?_)
  simp only [wpA_bindV, wpA_eql, wpA_ret]
  rw [hla]
  exact ⟨rfl, trivial⟩

theorem least_ties {l : List Bk} {least : Int} (h1 : ∀ j ∈ fitL l, least ≤ loadAt l j) (h2 : ∃ j ∈ fitL l, least = loadAt l j) : (fitL l).filter (fun i => decide (loadAt l i = least)) = tiesL l := by
  unfold tiesL
  refine List.filter_congr fun i hi => ?_
  obtain ⟨j, hj, hjl⟩ := h2
  rw [Bool.eq_iff_iff]
  simp only [decide_eq_true_eq, List.all_eq_true]
  constructor
  · intro he k hk
    rw [he]; exact h1 k hk
  · intro hall
    have := hall j hj
    have := h1 i hi
    omega

theorem ties_spec {σ : AW} {x : Value} {l : List Bk} {n k : Nat} (hx : Sl σ x 3 n (l.flatMap Bk.cs)) (hl : l.length < big) (hk : big + 20 ≤ k) :
    wpA (callN Try.prog k 17 [x]) σ fun v τ => Ext σ τ ∧ Own σ.next τ v 3 1 (tiesL l).length ((tiesL l).map nth) := by
  obtain ⟨k, rfl⟩ : ∃ m, k = m + 1 := ⟨k - 1, by omega⟩
  rw [callN_eq, R17.eq]
  obtain ⟨hc1, hc2⟩ := sl_one hx
  unfold R17.top
  refine aw_bindV (aw_box (by simp [hc1, hc2]) ?_)
  rw [hc1]
  generalize hσ1 : σ.push (.cells [x] 22 false) = σ1
  have hb1 : σ1.get σ.next = some (.cells [x] 22 false) := by rw [← hσ1, AW.get_push, if_pos rfl]
  have hex1 : Ext σ σ1 := hσ1 ▸ Ext.push σ _
  have hn1 : σ1.next = σ.next + 1 := by rw [← hσ1]; simp
  have hx1 := hx.ext hex1
  refine aw_bindV (aw_load hb1 (v := x) rfl (aw_bindV ((fit_spec hx1 hl (by omega)).mono fun f τ ⟨he, hf⟩ => aw_bindV (aw_lenSl hf.sl ?_))))
  simp only [wpA_bindV, wpA_eql, wpA_cond, wpA_ret, decide_eq_true_eq]
  split
  · rename_i h0
    have h0' : fitL l = [] := List.length_eq_zero_iff.1 (by omega)
    have ht : tiesL l = [] := by unfold tiesL; rw [h0']; rfl
    rw [ht]
    exact ⟨hex1.trans he, Own.nil _ _ _ _⟩
  · rename_i h0
    have hpos : 0 < (fitL l).length := by omega
    have hb2 : τ.get σ.next = some (.cells [x] 22 false) := by rw [he.2 _ (by omega)]; exact hb1
    have hx2 := hx1.ext he
    have hf0 : (fitL l)[0]? = some (fitL l)[0] := List.getElem?_eq_getElem hpos
    have hlt0 : (fitL l)[0] < l.length := fit_lt (List.getElem_mem _)
    refine aw_load hb2 (v := x) rfl ?_
    refine aw_indexSl hf.sl (i := 0) (by omega) (by omega) fun b o ws e' ro hfb hltb ho hfw => ?_
    have hfv : ws[o]? = some (nth (fitL l)[0]) := by
      have := hfw 0 (by omega)
      simpa [hf0] using this
    refine aw_load hfb hfv ?_
    refine aw_indexSl hx2 (i := ((fitL l)[0] : Nat)) (by omega) (by
      have h := hx2.1
      rw [length_flatMap Bk.len] at h
      omega) fun b' o' ws' e'' ro' hxb hltb' ho' hxw => ?_
    have hlv : ws'[o' + 2]? = some (.int .i64 (loadAt l (fitL l)[0])) := by
      rw [hxw 2 (by omega), Int.toNat_natCast, getElem?_flatMap Bk.len _ _ _ (by omega), List.getElem?_eq_getElem hlt0]
      simp [Bk.cs, loadAt, List.getElem?_eq_getElem hlt0]
    refine aw_fieldAddr (aw_load hxb hlv ?_)
    refine aw_new (by rfl) ?_
    generalize hσ2 : τ.push (.cells [.int .i64 0] 3 false) = σ2
    have hc3 : σ2.get τ.next = some (.cells [.int .i64 0] 3 false) := by rw [← hσ2, AW.get_push, if_pos rfl]
    have hex2 : Ext τ σ2 := hσ2 ▸ Ext.push τ _
    have hn2 : σ2.next = τ.next + 1 := by rw [← hσ2]; simp
    have hbig : ∀ b o, τ.get b = some o → b < τ.next → σ2.get b = some o := fun b o h1 h2 => by rw [hex2.2 _ h2]; exact h1
    have hsl2 := hf.sl.ext hex2
    have hx3 := hx2.ext hex2
    refine aw_hereCons (aw_load (hbig _ _ hxb hltb') hlv rfl) same_int (aw_hereCons (aw_load (hbig _ _ hfb hltb) hfv rfl) same_int (aw_hereCons (aw_load (hbig _ _ hb2 (by have := he.1; omega)) (v := x) rfl rfl) (same_sl hx) ?_))
    simp only [wpA_hereNil, wpA_bindV]
    refine aw_store hc3 rfl (by simp) rfl ?_
    generalize hσ3 : σ2.put τ.next (some (.cells (splice [.int .i64 0] 0 (Value.int .i64 (loadAt l (fitL l)[0])).cells.toList) 3 false)) = σ3
    have hc4 : σ3.get τ.next = some (.cells [.int .i64 (loadAt l (fitL l)[0])] 3 false) := by rw [← hσ3, AW.get_put, if_pos rfl]; rfl
    have hex3 : Ext τ σ3 := ⟨by rw [← hσ3]; simp [hn2], fun b hb => by rw [← hσ3, AW.get_put, if_neg (by omega)]; exact hex2.2 b hb⟩
    have hn3 : σ3.next = τ.next + 1 := by rw [← hσ3]; simp [hn2]
    have hsl3 := hf.sl.ext hex3
    have hx4 := hx2.ext hex3
    refine aw_lenSl hsl3 ?_
    refine aw_loop1 (fun r v υ => Ext τ υ ∧ υ.next = σ3.next ∧ ∃ (i : Nat) (least : Int), v = nth i ∧ i ≤ (fitL l).length ∧ r = (fitL l).length - i ∧ υ.get τ.next = some (.cells [.int .i64 least] 3 false) ∧ (∀ j ∈ (fitL l).take i, least ≤ loadAt l j) ∧ (∃ j ∈ fitL l, least = loadAt l j)) ?_ k (fitL l).length _ σ3
      ⟨hex3, rfl, 0, _, rfl, by omega, by omega, hc4, by simp, ⟨(fitL l)[0], List.getElem_mem _, rfl⟩⟩ (by have := fit_le l; omega)
    rintro r rec v υ ⟨hext, hnu, i, least, rfl, hi, rfl, hcu, hle, hex⟩ hrec
    have hslu := hf.sl.ext hext
    have hxu := hx2.ext hext
    have hbu : υ.get σ.next = some (.cells [x] 22 false) := by rw [hext.2 _ (by have := he.1; omega)]; exact hb2
    unfold R17.b_30
    simp only [nth, wpA_bindV, wpA_lss, wpA_cond, wpA_ret, decide_eq_true_eq]
    split
    · rename_i hlt
      have hlt' : i < (fitL l).length := by omega
      have h1 : (fitL l)[((i : Nat) : Int).toNat]? = some (fitL l)[i] := by rw [Int.toNat_natCast]; exact List.getElem?_eq_getElem hlt'
      have hlt2 : (fitL l)[i] < l.length := fit_lt (List.getElem_mem _)
      have h2 : l[((fitL l)[i] : Int).toNat]? = some l[(fitL l)[i]] := by rw [Int.toNat_natCast]; exact List.getElem?_eq_getElem hlt2
      have hla : loadAt l (fitL l)[i] = l[(fitL l)[i]].load := by unfold loadAt; rw [List.getElem?_eq_getElem hlt2]
      simp only [← wpA_bindV]
      refine aw_at1 hslu (by omega) h1 (aw_bindV (aw_load hcu (v := .int .i64 least) rfl (aw_bindV (aw_load hbu (v := x) rfl ?_))))
      refine aw_atF Bk.len hxu (by omega) h2 (by omega) (w := .int .i64 l[(fitL l)[i]].load) rfl ?_
      simp only [wpA_bindV, wpA_min]
      refine aw_store hcu rfl (by simp) rfl ?_
      simp only [wpA_bindV, wpA_add]
      rw [wrap64 (by omega) (by have := fit_le l; unfold big at hl; omega)]
      refine hrec ((fitL l).length - (i + 1)) _ _ (by omega) ⟨⟨by simp; exact hext.1, fun b hb => by rw [AW.get_put, if_neg (by omega)]; exact hext.2 b hb⟩, by simp [hnu], i + 1, _, rfl, by omega, rfl, by rw [AW.get_put, if_pos rfl]; rfl, ?_, ?_⟩
      · intro j hj
        rw [List.take_add_one, List.getElem?_eq_getElem hlt', List.mem_append] at hj
        rcases hj with hj | hj
        · have := hle j hj
          split <;> omega
        · simp at hj
          subst hj
          rw [hla]
          split <;> omega
      · split
        · exact ⟨_, List.getElem_mem hlt', hla.symm⟩
        · exact hex
    · rename_i hge
      have : i = (fitL l).length := by omega
      subst this
      rw [List.take_length] at hle
      obtain ⟨k, rfl⟩ : ∃ m, k = m + 1 := ⟨k - 1, by omega⟩
      rw [callN_eq, R33.eq]
      refine (filter_spec (p := fun i => decide (loadAt l i = least)) hslu (by have := fit_le l; omega) (fun a ha => by have := fit_lt ha; omega) (by omega) fun a ha τ' hk' => ?_).mono fun v υ' ⟨h1, h2⟩ => ?_
      · obtain ⟨k, rfl⟩ : ∃ m, k = m + 1 := ⟨k - 1, by omega⟩
        rw [callN_eq, R35.eq]
        have hnb : σ.next < υ.next := by have := hext.1; have := he.1; omega
        exact ties1_spec (by rw [hk'.2 _ hnb]; exact hbu) (by rw [hk'.2 _ (by omega)]; exact hcu) (hxu.kept (Nat.le_refl _) hk') (fit_lt ha)
      · rw [least_ties hle hex] at h2
        exact ⟨hex1.trans (he.trans (hext.trans h1)), h2.mono (by have := hex1.1; have := he.1; have := hext.1; omega)⟩


theorem tie_mem {l : List Bk} {i : Nat} (h : i ∈ tiesL l) : i ∈ fitL l := by unfold tiesL at h; exact (List.mem_filter.1 h).1
theorem ties_le (l : List Bk) : (tiesL l).length ≤ l.length := Nat.le_trans (List.length_filter_le _ _) (fit_le l)
def chooseL (l : List Bk) (draw : Int) : Nat × Int := match (tiesL l)[((draw.tmod ((tiesL l).length : Int) + (tiesL l).length).tmod ((tiesL l).length : Int)).toNat]? with
  | some i => (i, 0)
  | none => (0, 6)
theorem wrap_at {n draw : Int} (hn : 0 < n) : 0 ≤ (draw.tmod n + n).tmod n ∧ (draw.tmod n + n).tmod n < n ∧ -n < draw.tmod n ∧ draw.tmod n < n := by
  have h1 : draw.tmod n < n := Int.tmod_lt_of_pos _ hn
  have h2 : -n < draw.tmod n := by
    have h3 := Int.tmod_lt_of_pos (-draw) hn
    rw [Int.neg_tmod] at h3
    omega
  have h3 : 0 ≤ draw.tmod n + n := by omega
  refine ⟨?_, Int.tmod_lt_of_pos _ hn, h2, h1⟩
  rw [Int.tmod_eq_emod_of_nonneg h3]
  exact Int.emod_nonneg _ (by omega)
theorem wrap_at2 {n draw : Int} (hn : 0 < n) : (draw.tmod n + n).tmod n = if draw.tmod n < 0 then draw.tmod n + n else draw.tmod n := by
  obtain ⟨_, _, h3, h4⟩ := wrap_at (draw := draw) hn
  rw [Int.tmod_eq_emod_of_nonneg (by omega)]
  split
  · rw [Int.emod_eq_of_lt (by omega) (by omega)]
  · rw [Int.add_emod_right, Int.emod_eq_of_lt (by omega) (by omega)]

def pairV (a b : Int) : Value := .tuple #[.int .i64 a, .int .i64 b]
theorem choose_spec {σ : AW} {x : Value} {l : List Bk} {n k : Nat} {draw : Int} (hx : Sl σ x 3 n (l.flatMap Bk.cs)) (hl : l.length < big) (hk : big + 30 ≤ k) :
    wpA (callN Try.prog k 19 [x, .int .i64 draw]) σ fun v τ => Ext σ τ ∧ v = pairV (chooseL l draw).1 (chooseL l draw).2 := by
  obtain ⟨k, rfl⟩ : ∃ m, k = m + 1 := ⟨k - 1, by omega⟩
  rw [callN_eq, R19.eq]
  unfold R19.top
  refine aw_bindV ((ties_spec hx hl (by omega)).mono fun t τ ⟨he, ht⟩ => aw_bindV (aw_lenSl ht.sl ?_))
  have htl := ties_le l
  simp only [wpA_bindV, wpA_eql, wpA_cond, wpA_ret, decide_eq_true_eq]
  split
  · rename_i h0
    have h0' : tiesL l = [] := List.length_eq_zero_iff.1 (by omega)
    refine ⟨he, ?_⟩
    simp [chooseL, h0', pairV]
  · rename_i h0
    have hpos : (0 : Int) < ((tiesL l).length : Int) := by omega
    obtain ⟨w1, w2, w3, w4⟩ := wrap_at (draw := draw) hpos
    rw [wpA_rem (by omega)]
    simp only [wpA_add]
    rw [wrap64 (by omega) (by unfold big at hl; omega), wpA_rem (by omega)]
    have hi : ((draw.tmod ((tiesL l).length : Int) + (tiesL l).length).tmod ((tiesL l).length : Int)).toNat < (tiesL l).length := by omega
    refine aw_at1w ht.sl w1 (List.getElem?_eq_getElem hi) ⟨he, ?_⟩
    simp [chooseL, List.getElem?_eq_getElem hi, pairV, nth]

theorem awake_spec {σ : AW} {k : Nat} (hk : big + 40 ≤ k) : wpA (callN Try.prog k 16 []) σ fun v τ => v = .bool true ∧ Ext σ τ := by
  obtain ⟨k, rfl⟩ : ∃ m, k = m + 1 := ⟨k - 1, by omega⟩
  rw [callN_eq, R16.eq]
  unfold R16.top
  refine aw_bindV (aw_build (cs := [.bool false, .int .i64 0, .int .i64 0]) rfl (aw_bindV (aw_build (cs := [.bool true, .int .i64 1, .int .i64 0]) (by simp [fillA, Value.cells, splice, isCell]) (aw_bindV
    (aw_buildSlice (cs := [.bool false, .int .i64 0, .int .i64 0, .bool true, .int .i64 1, .int .i64 0]) (by simp [fillA, Value.cells, splice, isCell, zeros, List.range_succ]) (by decide) rfl rfl (aw_bindV ?_))))))
  let L : List Bk := [⟨false, 0, 0⟩, ⟨true, 1, 0⟩]
  have hL : chooseL L 5 = (1, 0) := by decide
  refine (choose_spec (l := L) (n := 2) ⟨rfl, .inr ⟨σ.next, 0, 2, _, 35, false, rfl, by simp, .inr ⟨by rw [AW.get_push, if_pos rfl], by decide, rfl⟩⟩⟩ (by decide) (by omega)).mono fun v τ ⟨he, hv⟩ => ?_
  subst hv
  rw [hL]
  simp [pairV, R16.g_11]
  exact (Ext.push _ _).trans he

theorem law_PickFits {σ : AW} {x : Value} {l : List Bk} {n k : Nat} (hx : Sl σ x 3 n (l.flatMap Bk.cs)) (hl : l.length < big) (hk : big + 50 ≤ k) : wpA (callN Try.prog k 3 [x]) σ fun v _ => v = .bool true := by
  obtain ⟨k, rfl⟩ : ∃ m, k = m + 1 := ⟨k - 1, by omega⟩
  rw [callN_eq, R3.eq]
  unfold R3.top
  refine aw_bindV ((fit_spec hx hl (by omega)).mono fun u τ ⟨he, hu⟩ => aw_bindV ((rfit_call (hx.ext he) hl (by omega)).mono fun w υ ⟨hf, hw⟩ => aw_bindV ?_))
  obtain ⟨k, rfl⟩ : ∃ m, k = m + 1 := ⟨k - 1, by omega⟩
  rw [callN_eq, R13.eq]
  have hb : ∀ a ∈ fitL l, a < big := fun a ha => by have := fit_lt ha; omega
  refine (ints_spec (hu.sl.ext hf) hw.sl hb hb (by have := fit_le l; omega) (by omega)).mono fun v χ ⟨hv, hχ⟩ => ?_
  subst hv; subst hχ
  simp only [decide_true, wpA_guardT, if_true, wpA_bindV]
  refine (awake_spec (by omega)).mono fun v χ' ⟨hv, _⟩ => ?_
  subst hv
  simp [R3.g_7]
end Go.Proofs.Ytlediheihkgebaa
