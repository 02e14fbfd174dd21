/- Plain laws of what Pick computes: no program in sight but what Res18 prints. -/
import Derived.Test.YtlediheihkgebaaRes18
import Derived.Test.YtlediheihkgebaaEngT
set_option linter.unusedVariables false
set_option linter.unusedSimpArgs false
namespace Go.Proofs.Ytlediheihkgebaa
open Go.Proofs.Ytlediheihkgebaa.Eng

/-- The steps that are there at all. -/
def big : Nat := 4194304
def I (n : Int) : Value := .int .i64 n
structure Bk where
  up : Bool
  slots : Int
  load : Int
def Bk.cs (b : Bk) : List Value := [.bool b.up, .int .i64 b.slots, .int .i64 b.load]
theorem Bk.len (b : Bk) : b.cs.length = 3 := rfl
def nth (n : Nat) : Value := .int .i64 (n : Int)

theorem ints_spec {σ : AW} {x y : Value} {l m : List Nat} {call : FuncId → List Value → AM Value} {k n1 n2 : Nat} (hx : Sl σ x 1 n1 (l.map nth)) (hy : Sl σ y 1 n2 (m.map nth)) (hb : ∀ a ∈ l, a < big) (hb' : ∀ a ∈ m, a < big) (hl : l.length < big) (hk : big ≤ k) :
    wpA (R13.top call k x y) σ fun v τ => v = .bool (decide (l = m)) ∧ τ = σ := by
  have e1 : n1 = l.length := by have := hx.1; simp at this; omega
  have e2 : n2 = m.length := by have := hy.1; simp at this; omega
  subst e1; subst e2
  unfold R13.top
  refine aw_bindV (aw_lenSl hx (aw_bindV (aw_lenSl hy ?_)))
  simp only [wpA_bindV, wpA_neq, wpA_cond, wpA_ret, decide_eq_true_eq]
  split
  · rename_i hne
    refine ⟨?_, trivial⟩
    rw [decide_eq_false]
    rintro rfl
    exact hne rfl
  · rename_i hlen
    have hlen' : l.length = m.length := by omega
    refine aw_loop1 (fun r v τ => τ = σ ∧ ∃ i : Nat, v = nth i ∧ i ≤ l.length ∧ r = l.length - i ∧ l.take i = m.take i) ?_ k l.length _ σ ⟨rfl, 0, rfl, by omega, by omega, by simp⟩ (by omega)
    rintro r rec v τ ⟨rfl, i, rfl, hi, rfl, heq⟩ hrec
    unfold R13.b_13
    refine aw_bindV (aw_lenSl hx ?_)
    simp only [nth, wpA_bindV, wpA_lss, wpA_cond, wpA_ret, decide_eq_true_eq]
    split
    · rename_i hlt
      have hlt' : i < l.length := by omega
      have h1 : l[i]? = some l[i] := List.getElem?_eq_getElem hlt'
      have h2 : m[i]? = some (m[i]'(by omega)) := List.getElem?_eq_getElem _
      simp only [← wpA_bindV]
      refine aw_at1 hx (by omega) (by rw [Int.toNat_natCast]; exact h1) (aw_at1 hy (by omega) (by rw [Int.toNat_natCast]; exact h2) ?_)
      simp only [nth, wpA_bindV, wpA_neq, wpA_cond, wpA_ret, wpA_add, decide_eq_true_eq]
      split
      · rename_i hne
        refine ⟨?_, trivial⟩
        rw [decide_eq_false]
        rintro rfl
        exact hne rfl
      · rename_i heq2
        have heq3 : l[i] = m[i]'(by omega) := by omega
        rw [wrap64 (by omega) (by unfold big at hl; omega)]
        exact hrec (l.length - (i + 1)) _ _ (by omega) ⟨rfl, i + 1, rfl, by omega, rfl, by rw [List.take_add_one, List.take_add_one, heq, h1, h2, heq3]⟩
    · rename_i hge
      have : i = l.length := by omega
      subst this
      refine ⟨?_, trivial⟩
      rw [List.take_length, hlen', List.take_length] at heq
      simp [heq]


/-! ### what is fit -/
def Bk.ok (b : Bk) : Bool := b.up && decide (0 < b.slots)
def okAt (l : List Bk) (i : Nat) : Bool := match l[i]? with
  | some b => b.ok
  | none => false
def fitUp (l : List Bk) (i : Nat) : List Nat := (List.range i).filter (okAt l)
def fitL (l : List Bk) : List Nat := fitUp l l.length
theorem fitUp_succ (l : List Bk) (i : Nat) : fitUp l (i + 1) = fitUp l i ++ (if okAt l i = true then [i] else []) := by
  unfold fitUp
  rw [List.range_succ, List.filter_append]
  congr 1
  cases h : okAt l i <;> simp [h]
theorem fitUp_len (l : List Bk) (i : Nat) : (fitUp l i).length ≤ i := by
  unfold fitUp
  exact Nat.le_trans (List.length_filter_le _ _) (by simp)
def BkOk (b : Bk) : Prop := (Lit.int .i64 b.slots).wf = true ∧ (Lit.int .i64 b.load).wf = true

theorem one_fill (v : Value) (hv : v.cells = #[v]) (hc : isCell v = true) : fillA (fun i => some (i * 1, 1)) (zeros [Value.int .i64 0] (1 * 1)) [(0, v)] = some [v] := by
  simp [fillA, zeros, hv, hc, splice]

theorem rfit_spec {σ : AW} {x : Value} {l : List Bk} {call : FuncId → List Value → AM Value} {k n : Nat} (hx : Sl σ x 3 n (l.flatMap Bk.cs)) (hl : l.length < big) (hk : big ≤ k) :
    wpA (R15.top call k x) σ fun v τ => Ext σ τ ∧ Own σ.next τ v 3 1 (fitL l).length ((fitL l).map nth) := by
  have e1 : n = l.length := by have h := hx.1; rw [length_flatMap Bk.len] at h; omega
  subst e1
  unfold R15.top
  refine aw_loop2 (fun r u v τ => Kept σ.next σ τ ∧ ∃ i : Nat, v = nth i ∧ i ≤ l.length ∧ r = l.length - i ∧ Own σ.next τ u 3 1 (fitUp l i).length ((fitUp l i).map nth)) ?_ k l.length _ _ σ ⟨Kept.refl _ _, 0, rfl, by omega, by omega, Own.nil _ _ _ _⟩ (by omega)
  rintro r rec u v τ ⟨hext, i, rfl, hi, rfl, hown⟩ hrec
  have hx' := hx.kept (Nat.le_refl _) hext
  unfold R15.b_25
  refine aw_bindV (aw_lenSl hx' ?_)
  simp only [nth, wpA_bindV, wpA_lss, wpA_cond, wpA_ret, decide_eq_true_eq]
  have hB : σ.next ≤ τ.next := hext.1
  have step : ∀ (w : Value) (τ' : AW), Own σ.next τ' w 3 1 (fitUp l (i + 1)).length ((fitUp l (i + 1)).map nth) → Kept σ.next σ τ' → i < l.length → wpA (R15.j_7 call k rec (nth i) w) τ' fun v τ => Ext σ τ ∧ Own σ.next τ v 3 1 (fitL l).length ((fitL l).map nth) := fun w τ' h1 h2 hlt => by
    unfold R15.j_7
    simp only [nth, wpA_bindV, wpA_add]
    rw [wrap64 (by omega) (by unfold big at hl; omega)]
    exact hrec (l.length - (i + 1)) _ _ _ (by omega) ⟨h2, i + 1, rfl, by omega, rfl, h1⟩
  split
  · rename_i hlt
    have hlt' : i < l.length := by omega
    have h1 : l[(i : Int).toNat]? = some l[i] := by rw [Int.toNat_natCast]; exact List.getElem?_eq_getElem hlt'
    have hok : okAt l i = l[i].ok := by unfold okAt; rw [List.getElem?_eq_getElem hlt']
    simp only [← wpA_bindV]
    refine aw_atF Bk.len hx' (by omega) h1 (by omega) (w := .bool l[i].up) rfl ?_
    have fin : ∀ b : Bool, b = l[i].ok → wpA (condA (.bool b) (bindV (buildSliceA 3 1 1 [.int .i64 0] [(0, nth i)]) fun v26 => bindV (appendA 3 1 8 u v26) fun v27 => R15.j_7 call k rec (nth i) v27) (R15.j_7 call k rec (nth i) u)) τ
        fun v τ => Ext σ τ ∧ Own σ.next τ v 3 1 (fitL l).length ((fitL l).map nth) := fun b hb => by
      refine aw_condB (fun ht => ?_) (fun hf => ?_)
      · have hs : fitUp l (i + 1) = fitUp l i ++ [i] := by rw [fitUp_succ, hok, ← hb, ht]; rfl
        have hlen := fitUp_len l i
        refine aw_push1 hown (one_fill (nth i) rfl rfl) rfl (by decide) rfl rfl (by decide) (by unfold big at hl; omega) hB fun w τ' h2 h3 => step w τ' ?_ (hext.trans (h3.kept hown hB)) hlt'
        rw [hs]
        simpa using h2
      · have hs : fitUp l (i + 1) = fitUp l i := by rw [fitUp_succ, hok, ← hb, hf]; simp
        exact step u τ (by rw [hs]; exact hown) hext hlt'
    simp only [wpA_guardT]
    split
    · rename_i hup
      refine aw_atF Bk.len hx' (by omega) h1 (by omega) (w := .int .i64 l[i].slots) rfl ?_
      unfold R15.g_17
      simp only [wpA_bindV, wpA_gtr, wpA_pick]
      rw [if_pos hup]
      exact fin _ (by simp [Bk.ok, hup])
    · rename_i hup
      unfold R15.g_17
      simp only [wpA_bindV, wpA_pick]
      rw [if_neg hup]
      exact fin _ (by simp [Bk.ok, hup])
  · rename_i hge
    have : i = l.length := by omega
    subst this
    exact ⟨hext, hown⟩


/-- Whole numbers, one behind the other, are appended to. -/
theorem push_nth {B : Nat} {σ : AW} {s : Value} {n : Nat} {l : List Nat} {a : Nat} {K : Value → AM Value} {Q : Value → AW → Prop} (hs : Own B σ s 3 1 n (l.map nth)) (hn : n < big) (hB : B ≤ σ.next)
    (h : ∀ v τ, Own B τ v 3 1 (l ++ [a]).length ((l ++ [a]).map nth) → ExtBut s σ τ → wpA (K v) τ Q) : wpA (bindV (buildSliceA 3 1 1 [.int .i64 0] [(0, nth a)]) fun x => bindV (appendA 3 1 8 s x) K) σ Q := by
  refine aw_push1 hs (one_fill (nth a) rfl rfl) rfl (by decide) rfl rfl (by decide) (by unfold big at hn; omega) hB fun v τ h1 h2 => h v τ ?_ h2
  have : n = l.length := by have := hs.1; simp at this; omega
  subst this
  simpa using h1

theorem filter_spec {σ : AW} {x : Value} {l : List Nat} {n : Nat} {f : FuncId} {cap : List Value} {p : Nat → Bool} {call : FuncId → List Value → AM Value} {k : Nat} (hx : Sl σ x 1 n (l.map nth)) (hl : l.length < big) (hb : ∀ a ∈ l, a < big) (hk : big ≤ k)
    (hf : ∀ a ∈ l, ∀ τ, Kept σ.next σ τ → wpA (call f (nth a :: cap)) τ fun v υ => v = .bool (p a) ∧ υ = τ) :
    wpA (R33.top call k x (.func (.func f) #[] ⟨cap⟩)) σ fun v τ => Ext σ τ ∧ Own σ.next τ v 3 1 (l.filter p).length ((l.filter p).map nth) := by
  have e1 : n = l.length := by have h := hx.1; simp at h; omega
  subst e1
  unfold R33.top
  refine aw_bindV (aw_lenSl hx ?_)
  refine aw_loop2 (fun r u v τ => Kept σ.next σ τ ∧ ∃ i : Nat, v = nth i ∧ i ≤ l.length ∧ r = l.length - i ∧ Own σ.next τ u 3 1 ((l.take i).filter p).length (((l.take i).filter p).map nth)) ?_ k l.length _ _ σ ⟨Kept.refl _ _, 0, rfl, by omega, by omega, Own.nil _ _ _ _⟩ (by omega)
  rintro r rec u v τ ⟨hext, i, rfl, hi, rfl, hown⟩ hrec
  have hx' := hx.kept (Nat.le_refl _) hext
  have hB : σ.next ≤ τ.next := hext.1
  unfold R33.b_16
  simp only [nth, wpA_bindV, wpA_lss, wpA_cond, wpA_ret, decide_eq_true_eq]
  have step : ∀ (w : Value) (τ' : AW), Own σ.next τ' w 3 1 ((l.take (i + 1)).filter p).length (((l.take (i + 1)).filter p).map nth) → Kept σ.next σ τ' → i < l.length → wpA (R33.j_9 call k rec (nth i) w) τ' fun v τ => Ext σ τ ∧ Own σ.next τ v 3 1 (l.filter p).length ((l.filter p).map nth) := fun w τ' h1 h2 hlt => by
    unfold R33.j_9
    simp only [nth, wpA_bindV, wpA_add]
    rw [wrap64 (by omega) (by unfold big at hl; omega)]
    exact hrec (l.length - (i + 1)) _ _ _ (by omega) ⟨h2, i + 1, rfl, by omega, rfl, h1⟩
  split
  · rename_i hlt
    have hlt' : i < l.length := by omega
    have h1 : l[i]? = some l[i] := List.getElem?_eq_getElem hlt'
    have h1' : l[(i : Int).toNat]? = some l[i] := by rw [Int.toNat_natCast]; exact h1
    have htk : l.take (i + 1) = l.take i ++ [l[i]] := by rw [List.take_add_one, h1]; rfl
    simp only [← wpA_bindV]
    refine aw_at1 hx' (by omega) h1' (aw_bindV (aw_callA ?_))
    refine (hf l[i] (List.getElem_mem _) τ hext).mono fun v υ ⟨hv, hυ⟩ => ?_
    subst hv; subst hυ
    refine aw_condB (fun ht => ?_) (fun hf => ?_)
    · have hfl : (l.take (i + 1)).filter p = (l.take i).filter p ++ [l[i]] := by rw [htk, List.filter_append]; simp [ht]
      refine push_nth hown (Nat.lt_of_le_of_lt (List.length_filter_le _ _) (by simp; omega)) hB fun w τ' h2 h3 => step w τ' (by rw [hfl]; exact h2) (hext.trans (h3.kept hown hB)) hlt'
    · have hfl : (l.take (i + 1)).filter p = (l.take i).filter p := by rw [htk, List.filter_append]; simp [hf]
      exact step u υ (by rw [hfl]; exact hown) hext hlt'
  · rename_i hge
    have : i = l.length := by omega
    subst this
    rw [List.take_length] at hown
    exact ⟨hext, hown⟩

/-- The closure of Fit: what it is held to stands in a cell. -/
theorem fit1_spec {σ : AW} {x : Value} {b : Nat} {e : TypeId} {ro : Bool} {l : List Bk} {n a : Nat} {call : FuncId → List Value → AM Value} {k : Nat} (hb : σ.get b = some (.cells [x] e ro)) (hx : Sl σ x 3 n (l.flatMap Bk.cs)) (ha : a < l.length) :
    wpA (R34.top call k (nth a) (.pointer (some ⟨b, 0, none⟩))) σ fun v τ => v = .bool (okAt l a) ∧ τ = σ := by
  have h1 : l[((a : Nat) : Int).toNat]? = some l[a] := by rw [Int.toNat_natCast]; exact List.getElem?_eq_getElem ha
  have hok : okAt l a = l[a].ok := by unfold okAt; rw [List.getElem?_eq_getElem ha]
  unfold R34.top
  refine aw_bindV (aw_load hb (v := x) rfl ?_)
  refine aw_atF Bk.len hx (by omega) h1 (by omega) (w := .bool l[a].up) rfl ?_
  simp only [wpA_guardT]
  split
  · rename_i hup
    refine aw_bindV (aw_load hb (v := x) rfl ?_)
    refine aw_atF Bk.len hx (by omega) h1 (by omega) (w := .int .i64 l[a].slots) rfl ?_
    unfold R34.g_8
    simp only [wpA_bindV, wpA_gtr, wpA_pick, wpA_ret]
    rw [if_pos hup, hok]
    exact ⟨by simp [Bk.ok, hup], trivial⟩
  · rename_i hup
    unfold R34.g_8
    simp only [wpA_bindV, wpA_pick, wpA_ret]
    rw [if_neg hup, hok]
    exact ⟨by simp [Bk.ok, hup], trivial⟩

theorem callN_eq (P : Program) (n : Nat) (f : FuncId) (args : List Value) : callN P (n + 1) f args = funcA P (callN P n) n f args := rfl

theorem sl_one {σ : AW} {x : Value} {z n : Nat} {vs : List Value} (h : Sl σ x z n vs) : x.cells = #[x] ∧ isCell x = true := by
  obtain ⟨a, c, rfl⟩ := h.form
  exact ⟨rfl, rfl⟩

theorem fit_spec {σ : AW} {x : Value} {l : List Bk} {n k : Nat} (hx : Sl σ x 3 n (l.flatMap Bk.cs)) (hl : l.length < big) (hk : big + 10 ≤ k) :
    wpA (callN Try.prog k 14 [x]) σ fun v τ => Ext σ τ ∧ Own σ.next τ v 3 1 (fitL l).length ((fitL l).map nth) := by
  have e1 : n = l.length := by have h := hx.1; rw [length_flatMap Bk.len] at h; omega
  subst e1
  obtain ⟨k, rfl⟩ : ∃ m, k = m + 1 := ⟨k - 1, by omega⟩
  rw [callN_eq, R14.eq]
  obtain ⟨hc1, hc2⟩ := sl_one hx
  unfold R14.top
  refine aw_bindV (aw_box (by simp [hc1, hc2]) ?_)
  rw [hc1]
  generalize hσ1 : σ.push (.cells [x] 22 false) = σ1
  have hb1 : σ1.get σ.next = some (.cells [x] 22 false) := by rw [← hσ1, AW.get_push, if_pos rfl]
  have hex1 : Ext σ σ1 := hσ1 ▸ Ext.push σ _
  have hn1 : σ1.next = σ.next + 1 := by rw [← hσ1]; simp
  have hx1 := hx.ext hex1
  refine aw_bindV (aw_load hb1 (v := x) rfl (aw_bindV (aw_lenSl hx1 ?_)))
  refine aw_loop2 (fun r u v τ => Kept σ1.next σ1 τ ∧ ∃ i : Nat, v = nth i ∧ i ≤ l.length ∧ r = l.length - i ∧ Own σ1.next τ u 3 1 (List.range i).length ((List.range i).map nth)) ?_ k l.length _ _ σ1 ⟨Kept.refl _ _, 0, rfl, by omega, by omega, Own.nil _ _ _ _⟩ (by omega)
  rintro r rec u v τ ⟨hext, i, rfl, hi, rfl, hown⟩ hrec
  have hB : σ1.next ≤ τ.next := hext.1
  unfold R14.b_16
  simp only [nth, wpA_bindV, wpA_lss, wpA_cond, wpA_ret, decide_eq_true_eq]
  split
  · rename_i hlt
    simp only [← wpA_bindV]
    refine push_nth hown (by simp; omega) hB fun w τ' h2 h3 => ?_
    simp only [wpA_bindV, wpA_add]
    rw [wrap64 (by omega) (by unfold big at hl; omega)]
    exact hrec (l.length - (i + 1)) _ _ _ (by omega) ⟨hext.trans (h3.kept hown hB), i + 1, rfl, by omega, rfl, by rw [List.range_succ]; exact h2⟩
  · rename_i hge
    have : i = l.length := by omega
    subst this
    obtain ⟨k, rfl⟩ : ∃ m, k = m + 1 := ⟨k - 1, by omega⟩
    rw [callN_eq, R33.eq]
    have hsl := hown.sl
    refine (filter_spec (p := okAt l) hsl (by simp; exact hl) (by simp; omega) (by omega) fun a ha τ' hk' => ?_).mono fun v υ ⟨h1, h2⟩ => ?_
    · obtain ⟨k, rfl⟩ : ∃ m, k = m + 1 := ⟨k - 1, by omega⟩
      rw [callN_eq, R34.eq]
      have hkk : Kept σ1.next σ1 τ' := hext.trans (hk'.mono hB)
      exact fit1_spec (by rw [hkk.2 _ (by omega)]; exact hb1) (hx1.kept (Nat.le_refl _) hkk) (by simpa using ha)
    · refine ⟨hex1.trans (Ext.trans hext h1), ?_⟩
      exact h2.mono (by have := hex1.1; omega)
theorem rfit_call {σ : AW} {x : Value} {l : List Bk} {n k : Nat} (hx : Sl σ x 3 n (l.flatMap Bk.cs)) (hl : l.length < big) (hk : big + 1 ≤ k) :
    wpA (callN Try.prog k 15 [x]) σ fun v τ => Ext σ τ ∧ Own σ.next τ v 3 1 (fitL l).length ((fitL l).map nth) := by
  obtain ⟨k, rfl⟩ : ∃ m, k = m + 1 := ⟨k - 1, by omega⟩
  rw [callN_eq, R15.eq]
  exact rfit_spec hx hl (by omega)


/-! ### ties -/
def loadAt (l : List Bk) (i : Nat) : Int := match l[i]? with
  | some b => b.load
  | none => 0
def tiesL (l : List Bk) : List Nat := (fitL l).filter fun i => (fitL l).all fun j => decide (loadAt l i ≤ loadAt l j)
theorem fit_lt {l : List Bk} {i : Nat} (h : i ∈ fitL l) : i < l.length := by
  unfold fitL fitUp at h
  exact List.mem_range.1 (List.mem_filter.1 h).1
theorem fit_le (l : List Bk) : (fitL l).length ≤ l.length := fitUp_len l _

theorem ties1_spec {σ : AW} {x : Value} {b c : Nat} {e e' : TypeId} {ro ro' : Bool} {l : List Bk} {n a : Nat} {least : Int} {call : FuncId → List Value → AM Value} {k : Nat} (hb : σ.get b = some (.cells [x] e ro)) (hc : σ.get c = some (.cells [.int .i64 least] e' ro')) (hx : Sl σ x 3 n (l.flatMap Bk.cs)) (ha : a < l.length) :
    wpA (R35.top call k (nth a) (.pointer (some ⟨b, 0, none⟩)) (.pointer (some ⟨c, 0, none⟩))) σ fun v τ => v = .bool (decide (loadAt l a = least)) ∧ τ = σ := by
  have h1 : l[((a : Nat) : Int).toNat]? = some l[a] := by rw [Int.toNat_natCast]; exact List.getElem?_eq_getElem ha
  have hla : loadAt l a = l[a].load := by unfold loadAt; rw [List.getElem?_eq_getElem ha]
  unfold R35.top
  refine aw_bindV (aw_load hb (v := x) rfl ?_)
  refine aw_atF Bk.len hx (by omega) h1 (by omega) (w := .int .i64 l[a].load) rfl ?_
  refine aw_bindV (aw_load hc (v := .int .i64 least) rfl ?_)
  simp only [wpA_bindV, wpA_eql, wpA_ret]
  rw [hla]
  exact ⟨rfl, trivial⟩

theorem least_ties {l : List Bk} {least : Int} (h1 : ∀ j ∈ fitL l, least ≤ loadAt l j) (h2 : ∃ j ∈ fitL l, least = loadAt l j) : (fitL l).filter (fun i => decide (loadAt l i = least)) = tiesL l := by
  unfold tiesL
  refine List.filter_congr fun i hi => ?_
  obtain ⟨j, hj, hjl⟩ := h2
  rw [Bool.eq_iff_iff]
  simp only [decide_eq_true_eq, List.all_eq_true]
  constructor
  · intro he k hk
    rw [he]; exact h1 k hk
  · intro hall
    have := hall j hj
    have := h1 i hi
    omega

theorem ties_spec {σ : AW} {x : Value} {l : List Bk} {n k : Nat} (hx : Sl σ x 3 n (l.flatMap Bk.cs)) (hl : l.length < big) (hk : big + 20 ≤ k) :
    wpA (callN Try.prog k 17 [x]) σ fun v τ => Ext σ τ ∧ Own σ.next τ v 3 1 (tiesL l).length ((tiesL l).map nth) := by
  obtain ⟨k, rfl⟩ : ∃ m, k = m + 1 := ⟨k - 1, by omega⟩
  rw [callN_eq, R17.eq]
  obtain ⟨hc1, hc2⟩ := sl_one hx
  unfold R17.top
  refine aw_bindV (aw_box (by simp [hc1, hc2]) ?_)
  rw [hc1]
  generalize hσ1 : σ.push (.cells [x] 22 false) = σ1
  have hb1 : σ1.get σ.next = some (.cells [x] 22 false) := by rw [← hσ1, AW.get_push, if_pos rfl]
  have hex1 : Ext σ σ1 := hσ1 ▸ Ext.push σ _
  have hn1 : σ1.next = σ.next + 1 := by rw [← hσ1]; simp
  have hx1 := hx.ext hex1
  refine aw_bindV (aw_load hb1 (v := x) rfl (aw_bindV ((fit_spec hx1 hl (by omega)).mono fun f τ ⟨he, hf⟩ => aw_bindV (aw_lenSl hf.sl ?_))))
  simp only [wpA_bindV, wpA_eql, wpA_cond, wpA_ret, decide_eq_true_eq]
  split
  · rename_i h0
    have h0' : fitL l = [] := List.length_eq_zero_iff.1 (by omega)
    have ht : tiesL l = [] := by unfold tiesL; rw [h0']; rfl
    rw [ht]
    exact ⟨hex1.trans he, Own.nil _ _ _ _⟩
  · rename_i h0
    have hpos : 0 < (fitL l).length := by omega
    have hb2 : τ.get σ.next = some (.cells [x] 22 false) := by rw [he.2 _ (by omega)]; exact hb1
    have hx2 := hx1.ext he
    have hf0 : (fitL l)[0]? = some (fitL l)[0] := List.getElem?_eq_getElem hpos
    have hlt0 : (fitL l)[0] < l.length := fit_lt (List.getElem_mem _)
    refine aw_load hb2 (v := x) rfl ?_
    refine aw_indexSl hf.sl (i := 0) (by omega) (by omega) fun b o ws e' ro hfb hltb ho hfw => ?_
    have hfv : ws[o]? = some (nth (fitL l)[0]) := by
      have := hfw 0 (by omega)
      simpa [hf0] using this
    refine aw_load hfb hfv ?_
    refine aw_indexSl hx2 (i := ((fitL l)[0] : Nat)) (by omega) (by
      have h := hx2.1
      rw [length_flatMap Bk.len] at h
      omega) fun b' o' ws' e'' ro' hxb hltb' ho' hxw => ?_
    have hlv : ws'[o' + 2]? = some (.int .i64 (loadAt l (fitL l)[0])) := by
      rw [hxw 2 (by omega), Int.toNat_natCast, getElem?_flatMap Bk.len _ _ _ (by omega), List.getElem?_eq_getElem hlt0]
      simp [Bk.cs, loadAt, List.getElem?_eq_getElem hlt0]
    refine aw_fieldAddr (aw_load hxb hlv ?_)
    refine aw_new (by rfl) ?_
    generalize hσ2 : τ.push (.cells [.int .i64 0] 3 false) = σ2
    have hc3 : σ2.get τ.next = some (.cells [.int .i64 0] 3 false) := by rw [← hσ2, AW.get_push, if_pos rfl]
    have hex2 : Ext τ σ2 := hσ2 ▸ Ext.push τ _
    have hn2 : σ2.next = τ.next + 1 := by rw [← hσ2]; simp
    have hbig : ∀ b o, τ.get b = some o → b < τ.next → σ2.get b = some o := fun b o h1 h2 => by rw [hex2.2 _ h2]; exact h1
    have hsl2 := hf.sl.ext hex2
    have hx3 := hx2.ext hex2
    refine aw_hereCons (aw_load (hbig _ _ hxb hltb') hlv rfl) same_int (aw_hereCons (aw_load (hbig _ _ hfb hltb) hfv rfl) same_int (aw_hereCons (aw_load (hbig _ _ hb2 (by have := he.1; omega)) (v := x) rfl rfl) (same_sl hx) ?_))
    simp only [wpA_hereNil, wpA_bindV]
    refine aw_store hc3 rfl (by simp) rfl ?_
    generalize hσ3 : σ2.put τ.next (some (.cells (splice [.int .i64 0] 0 (Value.int .i64 (loadAt l (fitL l)[0])).cells.toList) 3 false)) = σ3
    have hc4 : σ3.get τ.next = some (.cells [.int .i64 (loadAt l (fitL l)[0])] 3 false) := by rw [← hσ3, AW.get_put, if_pos rfl]; rfl
    have hex3 : Ext τ σ3 := ⟨by rw [← hσ3]; simp [hn2], fun b hb => by rw [← hσ3, AW.get_put, if_neg (by omega)]; exact hex2.2 b hb⟩
    have hn3 : σ3.next = τ.next + 1 := by rw [← hσ3]; simp [hn2]
    have hsl3 := hf.sl.ext hex3
    have hx4 := hx2.ext hex3
    refine aw_lenSl hsl3 ?_
    refine aw_loop1 (fun r v υ => Ext τ υ ∧ υ.next = σ3.next ∧ ∃ (i : Nat) (least : Int), v = nth i ∧ i ≤ (fitL l).length ∧ r = (fitL l).length - i ∧ υ.get τ.next = some (.cells [.int .i64 least] 3 false) ∧ (∀ j ∈ (fitL l).take i, least ≤ loadAt l j) ∧ (∃ j ∈ fitL l, least = loadAt l j)) ?_ k (fitL l).length _ σ3
      ⟨hex3, rfl, 0, _, rfl, by omega, by omega, hc4, by simp, ⟨(fitL l)[0], List.getElem_mem _, rfl⟩⟩ (by have := fit_le l; omega)
    rintro r rec v υ ⟨hext, hnu, i, least, rfl, hi, rfl, hcu, hle, hex⟩ hrec
    have hslu := hf.sl.ext hext
    have hxu := hx2.ext hext
    have hbu : υ.get σ.next = some (.cells [x] 22 false) := by rw [hext.2 _ (by have := he.1; omega)]; exact hb2
    unfold R17.b_30
    simp only [nth, wpA_bindV, wpA_lss, wpA_cond, wpA_ret, decide_eq_true_eq]
    split
    · rename_i hlt
      have hlt' : i < (fitL l).length := by omega
      have h1 : (fitL l)[((i : Nat) : Int).toNat]? = some (fitL l)[i] := by rw [Int.toNat_natCast]; exact List.getElem?_eq_getElem hlt'
      have hlt2 : (fitL l)[i] < l.length := fit_lt (List.getElem_mem _)
      have h2 : l[((fitL l)[i] : Int).toNat]? = some l[(fitL l)[i]] := by rw [Int.toNat_natCast]; exact List.getElem?_eq_getElem hlt2
      have hla : loadAt l (fitL l)[i] = l[(fitL l)[i]].load := by unfold loadAt; rw [List.getElem?_eq_getElem hlt2]
      simp only [← wpA_bindV]
      refine aw_at1 hslu (by omega) h1 (aw_bindV (aw_load hcu (v := .int .i64 least) rfl (aw_bindV (aw_load hbu (v := x) rfl ?_))))
      refine aw_atF Bk.len hxu (by omega) h2 (by omega) (w := .int .i64 l[(fitL l)[i]].load) rfl ?_
      simp only [wpA_bindV, wpA_min]
      refine aw_store hcu rfl (by simp) rfl ?_
      simp only [wpA_bindV, wpA_add]
      rw [wrap64 (by omega) (by have := fit_le l; unfold big at hl; omega)]
      refine hrec ((fitL l).length - (i + 1)) _ _ (by omega) ⟨⟨by simp; exact hext.1, fun b hb => by rw [AW.get_put, if_neg (by omega)]; exact hext.2 b hb⟩, by simp [hnu], i + 1, _, rfl, by omega, rfl, by rw [AW.get_put, if_pos rfl]; rfl, ?_, ?_⟩
      · intro j hj
        rw [List.take_add_one, List.getElem?_eq_getElem hlt', List.mem_append] at hj
        rcases hj with hj | hj
        · have := hle j hj
          split <;> omega
        · simp at hj
          subst hj
          rw [hla]
          split <;> omega
      · split
        · exact ⟨_, List.getElem_mem hlt', hla.symm⟩
        · exact hex
    · rename_i hge
      have : i = (fitL l).length := by omega
      subst this
      rw [List.take_length] at hle
      obtain ⟨k, rfl⟩ : ∃ m, k = m + 1 := ⟨k - 1, by omega⟩
      rw [callN_eq, R33.eq]
      refine (filter_spec (p := fun i => decide (loadAt l i = least)) hslu (by have := fit_le l; omega) (fun a ha => by have := fit_lt ha; omega) (by omega) fun a ha τ' hk' => ?_).mono fun v υ' ⟨h1, h2⟩ => ?_
      · obtain ⟨k, rfl⟩ : ∃ m, k = m + 1 := ⟨k - 1, by omega⟩
        rw [callN_eq, R35.eq]
        have hnb : σ.next < υ.next := by have := hext.1; have := he.1; omega
        exact ties1_spec (by rw [hk'.2 _ hnb]; exact hbu) (by rw [hk'.2 _ (by omega)]; exact hcu) (hxu.kept (Nat.le_refl _) hk') (fit_lt ha)
      · rw [least_ties hle hex] at h2
        exact ⟨hex1.trans (he.trans (hext.trans h1)), h2.mono (by have := hex1.1; have := he.1; have := hext.1; omega)⟩


theorem tie_mem {l : List Bk} {i : Nat} (h : i ∈ tiesL l) : i ∈ fitL l := by unfold tiesL at h; exact (List.mem_filter.1 h).1
theorem ties_le (l : List Bk) : (tiesL l).length ≤ l.length := Nat.le_trans (List.length_filter_le _ _) (fit_le l)
def chooseL (l : List Bk) (draw : Int) : Nat × Int := match (tiesL l)[((draw.tmod ((tiesL l).length : Int) + (tiesL l).length).tmod ((tiesL l).length : Int)).toNat]? with
  | some i => (i, 0)
  | none => (0, 6)
theorem wrap_at {n draw : Int} (hn : 0 < n) : 0 ≤ (draw.tmod n + n).tmod n ∧ (draw.tmod n + n).tmod n < n ∧ -n < draw.tmod n ∧ draw.tmod n < n := by
  have h1 : draw.tmod n < n := Int.tmod_lt_of_pos _ hn
  have h2 : -n < draw.tmod n := by
    have h3 := Int.tmod_lt_of_pos (-draw) hn
    rw [Int.neg_tmod] at h3
    omega
  have h3 : 0 ≤ draw.tmod n + n := by omega
  refine ⟨?_, Int.tmod_lt_of_pos _ hn, h2, h1⟩
  rw [Int.tmod_eq_emod_of_nonneg h3]
  exact Int.emod_nonneg _ (by omega)
theorem wrap_at2 {n draw : Int} (hn : 0 < n) : (draw.tmod n + n).tmod n = if draw.tmod n < 0 then draw.tmod n + n else draw.tmod n := by
  obtain ⟨_, _, h3, h4⟩ := wrap_at (draw := draw) hn
  rw [Int.tmod_eq_emod_of_nonneg (by omega)]
  split
  · rw [Int.emod_eq_of_lt (by omega) (by omega)]
  · rw [Int.add_emod_right, Int.emod_eq_of_lt (by omega) (by omega)]

def pairV (a b : Int) : Value := .tuple #[.int .i64 a, .int .i64 b]
theorem choose_spec {σ : AW} {x : Value} {l : List Bk} {n k : Nat} {draw : Int} (hx : Sl σ x 3 n (l.flatMap Bk.cs)) (hl : l.length < big) (hk : big + 30 ≤ k) :
    wpA (callN Try.prog k 19 [x, .int .i64 draw]) σ fun v τ => Ext σ τ ∧ v = pairV (chooseL l draw).1 (chooseL l draw).2 := by
  obtain ⟨k, rfl⟩ : ∃ m, k = m + 1 := ⟨k - 1, by omega⟩
  rw [callN_eq, R19.eq]
  unfold R19.top
  refine aw_bindV ((ties_spec hx hl (by omega)).mono fun t τ ⟨he, ht⟩ => aw_bindV (aw_lenSl ht.sl ?_))
  have htl := ties_le l
  simp only [wpA_bindV, wpA_eql, wpA_cond, wpA_ret, decide_eq_true_eq]
  split
  · rename_i h0
    have h0' : tiesL l = [] := List.length_eq_zero_iff.1 (by omega)
    refine ⟨he, ?_⟩
    simp [chooseL, h0', pairV]
  · rename_i h0
    have hpos : (0 : Int) < ((tiesL l).length : Int) := by omega
    obtain ⟨w1, w2, w3, w4⟩ := wrap_at (draw := draw) hpos
    rw [wpA_rem (by omega)]
    simp only [wpA_add]
    rw [wrap64 (by omega) (by unfold big at hl; omega), wpA_rem (by omega)]
    have hi : ((draw.tmod ((tiesL l).length : Int) + (tiesL l).length).tmod ((tiesL l).length : Int)).toNat < (tiesL l).length := by omega
    refine aw_at1w ht.sl w1 (List.getElem?_eq_getElem hi) ⟨he, ?_⟩
    simp [chooseL, List.getElem?_eq_getElem hi, pairV, nth]

theorem awake_spec {σ : AW} {k : Nat} (hk : big + 40 ≤ k) : wpA (callN Try.prog k 16 []) σ fun v τ => v = .bool true ∧ Ext σ τ := by
  obtain ⟨k, rfl⟩ : ∃ m, k = m + 1 := ⟨k - 1, by omega⟩
  rw [callN_eq, R16.eq]
  unfold R16.top
  refine aw_bindV (aw_build (cs := [.bool false, .int .i64 0, .int .i64 0]) rfl (aw_bindV (aw_build (cs := [.bool true, .int .i64 1, .int .i64 0]) (by simp [fillA, Value.cells, splice, isCell]) (aw_bindV
    (aw_buildSlice (cs := [.bool false, .int .i64 0, .int .i64 0, .bool true, .int .i64 1, .int .i64 0]) (by simp [fillA, Value.cells, splice, isCell, zeros, List.range_succ]) (by decide) rfl rfl (aw_bindV ?_))))))
  let L : List Bk := [⟨false, 0, 0⟩, ⟨true, 1, 0⟩]
  have hL : chooseL L 5 = (1, 0) := by decide
  refine (choose_spec (l := L) (n := 2) ⟨rfl, .inr ⟨σ.next, 0, 2, _, 35, false, rfl, Nat.le_refl _, by simp, .inr ⟨by rw [AW.get_push, if_pos rfl], by decide, rfl⟩⟩⟩ (by decide) (by omega)).mono fun v τ ⟨he, hv⟩ => ?_
  subst hv
  rw [hL]
  simp [pairV, R16.g_11]
  exact (Ext.push _ _).trans he

theorem law_PickFits {σ : AW} {x : Value} {l : List Bk} {n k : Nat} (hx : Sl σ x 3 n (l.flatMap Bk.cs)) (hl : l.length < big) (hk : big + 50 ≤ k) : wpA (callN Try.prog k 3 [x]) σ fun v _ => v = .bool true := by
  obtain ⟨k, rfl⟩ : ∃ m, k = m + 1 := ⟨k - 1, by omega⟩
  rw [callN_eq, R3.eq]
  unfold R3.top
  refine aw_bindV ((fit_spec hx hl (by omega)).mono fun u τ ⟨he, hu⟩ => aw_bindV ((rfit_call (hx.ext he) hl (by omega)).mono fun w υ ⟨hf, hw⟩ => aw_bindV ?_))
  obtain ⟨k, rfl⟩ : ∃ m, k = m + 1 := ⟨k - 1, by omega⟩
  rw [callN_eq, R13.eq]
  have hb : ∀ a ∈ fitL l, a < big := fun a ha => by have := fit_lt ha; omega
  refine (ints_spec (hu.sl.ext hf) hw.sl hb hb (by have := fit_le l; omega) (by omega)).mono fun v χ ⟨hv, hχ⟩ => ?_
  subst hv; subst hχ
  simp only [decide_true, wpA_guardT, if_true, wpA_bindV]
  refine (awake_spec (by omega)).mono fun v χ' ⟨hv, _⟩ => ?_
  subst hv
  simp [R3.g_7]


theorem load_at {l : List Bk} {a : Nat} (h : a < l.length) : l[((a : Nat) : Int).toNat]? = some l[a] ∧ loadAt l a = l[a].load := by
  refine ⟨by rw [Int.toNat_natCast]; exact List.getElem?_eq_getElem h, ?_⟩
  unfold loadAt; rw [List.getElem?_eq_getElem h]
def leastUp (l : List Bk) (i m : Nat) : Bool := ((fitL l).take m).all fun j => decide (loadAt l i ≤ loadAt l j)
def tiesUp (l : List Bk) (i : Nat) : List Nat := ((fitL l).take i).filter fun i => (fitL l).all fun j => decide (loadAt l i ≤ loadAt l j)

theorem rties_spec {σ : AW} {x : Value} {l : List Bk} {n k : Nat} (hx : Sl σ x 3 n (l.flatMap Bk.cs)) (hl : l.length < big) (hk : big + 20 ≤ k) :
    wpA (callN Try.prog k 18 [x]) σ fun v τ => Ext σ τ ∧ Own σ.next τ v 3 1 (tiesL l).length ((tiesL l).map nth) := by
  obtain ⟨k, rfl⟩ : ∃ m, k = m + 1 := ⟨k - 1, by omega⟩
  rw [callN_eq, R18.eq]
  unfold R18.top
  refine aw_bindV ((rfit_call hx hl (by omega)).mono fun f σ1 ⟨he, hf⟩ => ?_)
  have hfl := fit_le l
  refine aw_loop2 (fun r u v τ => Kept σ1.next σ1 τ ∧ ∃ i : Nat, v = nth i ∧ i ≤ (fitL l).length ∧ r = (fitL l).length - i ∧ Own σ1.next τ u 3 1 (tiesUp l i).length ((tiesUp l i).map nth)) ?_ k (fitL l).length _ _ σ1 ⟨Kept.refl _ _, 0, rfl, by omega, by omega, Own.nil _ _ _ _⟩ (by omega)
  rintro r rec u v τ ⟨hext, i, rfl, hi, rfl, hown⟩ hrec
  have hf' := hf.sl.kept (Nat.le_refl _) hext
  have hx' := (hx.ext he).kept (Nat.le_refl _) hext
  have hB : σ1.next ≤ τ.next := hext.1
  unfold R18.b_43
  refine aw_bindV (aw_lenSl hf' ?_)
  simp only [nth, wpA_bindV, wpA_lss, wpA_cond, wpA_ret, decide_eq_true_eq]
  split
  · rename_i hlt
    have hlt' : i < (fitL l).length := by omega
    have hfi : (fitL l)[((i : Nat) : Int).toNat]? = some (fitL l)[i] := by rw [Int.toNat_natCast]; exact List.getElem?_eq_getElem hlt'
    have hbi : (fitL l)[i] < l.length := fit_lt (List.getElem_mem _)
    obtain ⟨hli, hlai⟩ := load_at hbi
    refine aw_loop2 (fun r b v υ => υ = τ ∧ ∃ j : Nat, b = .bool (leastUp l (fitL l)[i] j) ∧ v = nth j ∧ j ≤ (fitL l).length ∧ r = (fitL l).length - j) ?_ k (fitL l).length _ _ τ ⟨rfl, 0, rfl, rfl, by omega, by omega⟩ (by omega)
    rintro r2 rec2 b v υ ⟨rfl, j, rfl, rfl, hj, rfl⟩ hrec2
    unfold R18.b_39
    refine aw_bindV (aw_lenSl hf' ?_)
    simp only [nth, wpA_bindV, wpA_lss, wpA_cond, wpA_ret, wpA_guardT, decide_eq_true_eq]
    have step2 : j < (fitL l).length → ∀ c : Bool, c = leastUp l (fitL l)[i] (j + 1) → wpA (R18.d_22 (callN Try.prog k) k rec2 (nth j) (.bool c)) υ fun v τ => Ext σ τ ∧ Own σ.next τ v 3 1 (tiesL l).length ((tiesL l).map nth) := fun hlt2 c hc => by
      unfold R18.d_22
      simp only [nth, wpA_bindV, wpA_add]
      rw [wrap64 (by omega) (by unfold big at hl; omega)]
      exact hrec2 ((fitL l).length - (j + 1)) _ _ _ (by omega) ⟨rfl, j + 1, by rw [hc], rfl, by omega, rfl⟩
    have step : ∀ (w : Value) (τ' : AW), Own σ1.next τ' w 3 1 (tiesUp l (i + 1)).length ((tiesUp l (i + 1)).map nth) → Kept σ1.next σ1 τ' → wpA (R18.j_8 (callN Try.prog k) k rec (nth i) w) τ' fun v τ => Ext σ τ ∧ Own σ.next τ v 3 1 (tiesL l).length ((tiesL l).map nth) := fun w τ' h1 h2 => by
      unfold R18.j_8
      simp only [nth, wpA_bindV, wpA_add]
      rw [wrap64 (by omega) (by unfold big at hl; omega)]
      exact hrec ((fitL l).length - (i + 1)) _ _ _ (by omega) ⟨h2, i + 1, rfl, by omega, rfl, h1⟩
    split
    · rename_i hltj
      have hltj' : j < (fitL l).length := by omega
      have hfj : (fitL l)[((j : Nat) : Int).toNat]? = some (fitL l)[j] := by rw [Int.toNat_natCast]; exact List.getElem?_eq_getElem hltj'
      have hbj : (fitL l)[j] < l.length := fit_lt (List.getElem_mem _)
      obtain ⟨hlj, hlaj⟩ := load_at hbj
      have hup : leastUp l (fitL l)[i] (j + 1) = (leastUp l (fitL l)[i] j && decide (loadAt l (fitL l)[i] ≤ loadAt l (fitL l)[j])) := by
        unfold leastUp
        rw [List.take_add_one, List.getElem?_eq_getElem hltj', List.all_append]
        simp
      split
      · rename_i hT
        refine aw_at1w hf' (by omega) hfi (aw_atFw Bk.len hx' (by omega) hli (by omega) (w := .int .i64 l[(fitL l)[i]].load) rfl (aw_at1w hf' (by omega) hfj (aw_atFw Bk.len hx' (by omega) hlj (by omega) (w := .int .i64 l[(fitL l)[j]].load) rfl ?_)))
        simp only [wpA_leq, wpA_pick]
        rw [if_pos hT]
        exact step2 hltj' _ (by rw [hup, hT, hlai, hlaj]; rfl)
      · rename_i hF
        simp only [wpA_pick]
        rw [if_neg hF]
        exact step2 hltj' _ (by rw [hup]; simp [hF])
    · rename_i hgej
      have : j = (fitL l).length := by omega
      subst this
      have hall : leastUp l (fitL l)[i] (fitL l).length = (fitL l).all fun j => decide (loadAt l (fitL l)[i] ≤ loadAt l j) := by unfold leastUp; rw [List.take_length]
      have htu : tiesUp l (i + 1) = tiesUp l i ++ (if leastUp l (fitL l)[i] (fitL l).length = true then [(fitL l)[i]] else []) := by
        unfold tiesUp
        rw [List.take_add_one, List.getElem?_eq_getElem hlt', List.filter_append, hall]
        congr 1
        simp only [Option.toList, List.filter_cons, List.filter_nil]
      split
      · rename_i hT
        simp only [← wpA_bindV]
        refine aw_at1 hf' (by omega) hfi ?_
        refine push_nth hown (Nat.lt_of_le_of_lt (List.length_filter_le _ _) (by simp; omega)) hB fun w τ' h2 h3 => step w τ' ?_ (hext.trans (h3.kept hown hB))
        rw [htu, if_pos hT]; exact h2
      · rename_i hF
        exact step u _ (by rw [htu, if_neg hF]; simpa using hown) hext
  · rename_i hge
    have : i = (fitL l).length := by omega
    subst this
    unfold tiesUp at hown
    rw [List.take_length] at hown
    exact ⟨he.trans hext, hown.mono (by have := he.1; omega)⟩

theorem rchoose_spec {σ : AW} {x : Value} {l : List Bk} {n k : Nat} {draw : Int} (hx : Sl σ x 3 n (l.flatMap Bk.cs)) (hl : l.length < big) (hk : big + 30 ≤ k) :
    wpA (callN Try.prog k 20 [x, .int .i64 draw]) σ fun v τ => Ext σ τ ∧ v = pairV (chooseL l draw).1 (chooseL l draw).2 := by
  obtain ⟨k, rfl⟩ : ∃ m, k = m + 1 := ⟨k - 1, by omega⟩
  rw [callN_eq, R20.eq]
  unfold R20.top
  refine aw_bindV ((rties_spec hx hl (by omega)).mono fun t τ ⟨he, ht⟩ => aw_bindV (aw_lenSl ht.sl ?_))
  have htl := ties_le l
  simp only [wpA_bindV, wpA_eql, wpA_cond, wpA_ret, decide_eq_true_eq]
  split
  · rename_i h0
    have h0' : tiesL l = [] := List.length_eq_zero_iff.1 (by omega)
    refine ⟨he, ?_⟩
    simp [chooseL, h0', pairV]
  · rename_i h0
    have hpos : (0 : Int) < ((tiesL l).length : Int) := by omega
    obtain ⟨w1, w2, w3, w4⟩ := wrap_at (draw := draw) hpos
    have w5 := wrap_at2 (draw := draw) hpos
    refine aw_lenSl ht.sl ?_
    rw [wpA_rem (by omega)]
    simp only [wpA_lss, wpA_cond, decide_eq_true_eq]
    have hi : ((draw.tmod ((tiesL l).length : Int) + (tiesL l).length).tmod ((tiesL l).length : Int)).toNat < (tiesL l).length := by omega
    have fin : ∀ z : Int, z = (draw.tmod ((tiesL l).length : Int) + (tiesL l).length).tmod ((tiesL l).length : Int) → wpA (R20.j_6 (callN Try.prog k) k t (.int .i64 z)) τ fun v τ => Ext σ τ ∧ v = pairV (chooseL l draw).1 (chooseL l draw).2 := fun z hz => by
      subst hz
      unfold R20.j_6
      simp only [wpA_bindV, wpA_ret]
      refine aw_at1w ht.sl w1 (List.getElem?_eq_getElem hi) ⟨he, ?_⟩
      simp [chooseL, List.getElem?_eq_getElem hi, pairV, nth]
    split
    · rename_i hneg
      refine aw_bindV (aw_lenSl ht.sl ?_)
      simp only [wpA_bindV, wpA_add]
      rw [wrap64 (by omega) (by unfold big at hl; omega)]
      exact fin _ (by rw [w5, if_pos hneg])
    · rename_i hpos'
      exact fin _ (by rw [w5, if_neg hpos'])


/-- At most so many of them. -/
theorem first_spec {σ : AW} {x : Value} {l : List Bk} {n : Nat} {K : Value → AM Value} {Q : Value → AW → Prop} (hx : Sl σ x 3 n (l.flatMap Bk.cs)) (h : ∀ (m : List Bk) (y : Value) (j : Nat), m.length ≤ l.length → Sl σ y 3 j (m.flatMap Bk.cs) → wpA (K y) σ Q) :
    wpA (bindV (lenA x) fun v4 => bindV (binA Try.prog .gtr 3 v4 (.int .i64 2000)) fun v5 => condA v5 (bindV (sliceA 3 x none (some (.int .i64 2000))) fun v7 => K v7) (K x)) σ Q := by
  have e1 : n = l.length := by have h := hx.1; rw [length_flatMap Bk.len] at h; omega
  subst e1
  refine aw_bindV (aw_lenSl hx ?_)
  simp only [wpA_bindV, wpA_gtr, wpA_cond, decide_eq_true_eq]
  split
  · rename_i hgt
    refine aw_slice (lo := 0) (hi := 2000) hx (.inl ⟨rfl, rfl⟩) (.inr ⟨_, rfl⟩) (by omega) (by omega) fun w hw => ?_
    simp only [Nat.zero_mul, List.drop_zero, Nat.sub_zero] at hw
    rw [take_flatMap Bk.len] at hw
    exact h (l.take 2000) w 2000 (by simp; omega) hw
  · exact h l x _ (Nat.le_refl _) hx

theorem law_PickTies {σ : AW} {x : Value} {l : List Bk} {n k : Nat} (hx : Sl σ x 3 n (l.flatMap Bk.cs)) (hl : l.length < big) (hk : big + 50 ≤ k) : wpA (callN Try.prog k 4 [x]) σ fun v _ => v = .bool true := by
  obtain ⟨k, rfl⟩ : ∃ m, k = m + 1 := ⟨k - 1, by omega⟩
  rw [callN_eq, R4.eq]
  unfold R4.top
  refine first_spec (K := fun v => R4.j_10 (callN Try.prog k) k v) hx fun m y j hm hy => ?_
  unfold R4.j_10
  refine aw_bindV ((ties_spec hy (by omega) (by omega)).mono fun u τ ⟨he, hu⟩ => aw_bindV ((rties_spec (hy.ext he) (by omega) (by omega)).mono fun w υ ⟨hf, hw⟩ => aw_bindV ?_))
  obtain ⟨k, rfl⟩ : ∃ m, k = m + 1 := ⟨k - 1, by omega⟩
  rw [callN_eq, R13.eq]
  have hb : ∀ a ∈ tiesL m, a < big := fun a ha => by have := fit_lt (tie_mem ha); omega
  refine (ints_spec (hu.sl.ext hf) hw.sl hb hb (by have := ties_le m; omega) (by omega)).mono fun v χ ⟨hv, hχ⟩ => ?_
  subst hv; subst hχ
  simp only [decide_true, wpA_guardT, if_true, wpA_bindV]
  refine (awake_spec (by omega)).mono fun v χ' ⟨hv, _⟩ => ?_
  subst hv
  simp [R4.g_8]

theorem law_PickChooses {σ : AW} {x : Value} {l : List Bk} {n k : Nat} {draw : Int} (hx : Sl σ x 3 n (l.flatMap Bk.cs)) (hl : l.length < big) (hk : big + 50 ≤ k) : wpA (callN Try.prog k 5 [x, .int .i64 draw]) σ fun v _ => v = .bool true := by
  obtain ⟨k, rfl⟩ : ∃ m, k = m + 1 := ⟨k - 1, by omega⟩
  rw [callN_eq, R5.eq]
  unfold R5.top
  refine first_spec (K := fun v => R5.j_18 (callN Try.prog k) k (.int .i64 draw) v) hx fun m y j hm hy => ?_
  unfold R5.j_18
  refine aw_bindV ((choose_spec hy (by omega) (by omega)).mono fun u τ ⟨he, hu⟩ => ?_)
  subst hu
  simp only [pairV, wpA_bindV, wpA_extract]
  refine ⟨_, rfl, _, rfl, ?_⟩
  refine (rchoose_spec (hy.ext he) (by omega) (by omega)).mono fun w υ ⟨hf, hw⟩ => ?_
  subst hw
  simp only [pairV, wpA_extract]
  refine ⟨_, rfl, _, rfl, ?_⟩
  simp only [wpA_eql, decide_true, wpA_guardT, if_true, wpA_bindV, R5.g_16, wpA_pick]
  refine (awake_spec (by omega)).mono fun v χ' ⟨hv, _⟩ => ?_
  subst hv
  simp [R5.g_14]


theorem exists_least (g : Nat → Int) : ∀ (l : List Nat), l ≠ [] → ∃ i ∈ l, ∀ j ∈ l, g i ≤ g j
  | [], h => absurd rfl h
  | [a], _ => ⟨a, by simp, by simp⟩
  | a :: b :: l, _ => by
    obtain ⟨i, hi, hle⟩ := exists_least g (b :: l) (by simp)
    by_cases h : g a ≤ g i
    · exact ⟨a, by simp, fun j hj => by
        rcases List.mem_cons.1 hj with rfl | hj
        · exact Int.le_refl _
        · have := hle j hj; omega⟩
    · exact ⟨i, List.mem_cons_of_mem _ hi, fun j hj => by
        rcases List.mem_cons.1 hj with rfl | hj
        · omega
        · exact hle j hj⟩
theorem ties_nil {l : List Bk} (h : tiesL l = []) : fitL l = [] := by
  cases hf : fitL l with
  | nil => rfl
  | cons a r =>
    obtain ⟨i, hi, hle⟩ := exists_least (loadAt l) (fitL l) (by rw [hf]; simp)
    have : i ∈ tiesL l := by
      unfold tiesL
      exact List.mem_filter.2 ⟨hi, by simpa using hle⟩
    rw [h] at this
    cases this
theorem choose_cases (l : List Bk) (draw : Int) : (∃ n, chooseL l draw = (n, 0) ∧ n ∈ tiesL l) ∨ (chooseL l draw = (0, 6) ∧ tiesL l = []) := by
  unfold chooseL
  cases h : tiesL l with
  | nil => exact .inr ⟨by simp, rfl⟩
  | cons a r =>
    have hpos : (0 : Int) < (((a :: r).length : Nat) : Int) := by simp only [List.length_cons]; omega
    obtain ⟨w1, w2, _, _⟩ := wrap_at (draw := draw) hpos
    have hi : ((draw.tmod ((a :: r).length : Int) + (a :: r).length).tmod ((a :: r).length : Int)).toNat < (a :: r).length := by omega
    rw [List.getElem?_eq_getElem hi]
    exact .inl ⟨_, rfl, List.getElem_mem _⟩
theorem mem_fit {l : List Bk} {i : Nat} (h : i < l.length) : i ∈ fitL l ↔ l[i].ok = true := by
  unfold fitL fitUp
  rw [List.mem_filter, List.mem_range]
  unfold okAt
  rw [List.getElem?_eq_getElem h]
  simp [h]
theorem tie_least {l : List Bk} {i j : Nat} (hi : i ∈ tiesL l) (hj : j ∈ fitL l) : loadAt l i ≤ loadAt l j := by
  unfold tiesL at hi
  have := (List.mem_filter.1 hi).2
  simp only [List.all_eq_true, decide_eq_true_eq] at this
  exact this j hj
def someUp (l : List Bk) (i : Nat) : Bool := (l.take i).any Bk.ok
theorem someUp_succ {l : List Bk} {i : Nat} (h : i < l.length) : someUp l (i + 1) = (someUp l i || l[i].ok) := by
  unfold someUp
  rw [List.take_add_one, List.getElem?_eq_getElem h, List.any_append]
  simp

theorem law_PickLeast {σ : AW} {x : Value} {l : List Bk} {n k : Nat} {draw : Int} (hx : Sl σ x 3 n (l.flatMap Bk.cs)) (hl : l.length < big) (hk : big + 50 ≤ k) : wpA (callN Try.prog k 6 [x, .int .i64 draw]) σ fun v _ => v = .bool true := by
  have e1 : n = l.length := by have h := hx.1; rw [length_flatMap Bk.len] at h; omega
  subst e1
  obtain ⟨k, rfl⟩ : ∃ m, k = m + 1 := ⟨k - 1, by omega⟩
  rw [callN_eq, R6.eq]
  unfold R6.top
  refine aw_bindV ((choose_spec hx hl (by omega)).mono fun u τ ⟨he, hu⟩ => ?_)
  subst hu
  have hx' := hx.ext he
  simp only [pairV, wpA_bindV, wpA_extract]
  refine ⟨_, rfl, _, rfl, ?_⟩
  refine aw_loop2 (fun r u v υ => υ = τ ∧ ∃ i : Nat, u = .bool (someUp l i) ∧ v = nth i ∧ i ≤ l.length ∧ r = l.length - i) ?_ k l.length _ _ τ ⟨rfl, 0, rfl, rfl, by omega, by omega⟩ (by omega)
  rintro r rec u v υ ⟨rfl, i, rfl, rfl, hi, rfl⟩ hrec
  unfold R6.b_168
  refine aw_bindV (aw_lenSl hx' ?_)
  simp only [nth, wpA_bindV, wpA_lss, wpA_cond, wpA_ret, decide_eq_true_eq]
  split
  · rename_i hlt
    have hlt' : i < l.length := by omega
    obtain ⟨hli, hlai⟩ := load_at hlt'
    have next : ∀ s : Bool, s = someUp l (i + 1) → wpA (R6.d_57 (callN Try.prog k) k rec (.bool s) (nth i) (.bool false)) υ fun v _ => v = .bool true := fun s hs => by
      unfold R6.d_57
      simp only [nth, wpA_cond, wpA_bindV, wpA_add, Bool.false_eq_true, if_false]
      rw [wrap64 (by omega) (by unfold big at hl; omega)]
      exact hrec (l.length - (i + 1)) _ _ _ (by omega) ⟨rfl, i + 1, by rw [hs], rfl, by omega, rfl⟩
    -- behind 'fit'
    have rest : ∀ f : Bool, f = l[i].ok → ∀ w : Value, (someUp l i = false → w = .bool f) → wpA (R6.g_153 (callN Try.prog k) k rec x (.int .i64 ((chooseL l draw).1 : Nat)) (.int .i64 (chooseL l draw).2) (.bool (someUp l i)) (nth i) (.bool f) w) υ fun v _ => v = .bool true := fun f hf w hw => by
      unfold R6.g_153
      have hs : (if someUp l i = true then Value.bool true else w) = .bool (someUp l (i + 1)) := by
        rw [someUp_succ hlt', ← hf]
        cases h : someUp l i with
        | true => rfl
        | false => rw [hw h]; rfl
      simp only [wpA_bindV, wpA_pick, hs]
      rcases choose_cases l draw with ⟨m, hc, hm⟩ | ⟨hc, hm⟩
      · have hml : m < l.length := fit_lt (tie_mem hm)
        obtain ⟨hlm, hlam⟩ := load_at hml
        rw [hc]
        simp only [wpA_eql, wpA_geq, wpA_guardT, wpA_pick, decide_eq_true_eq, wpA_bindV]
        rw [if_pos trivial]
        have h0 : (0 : Int) ≤ (m : Int) := by omega
        simp only [h0, decide_true, if_true, wpA_guardT, wpA_bindV, wpA_pick]
        refine aw_lenSl hx' ?_
        have h1 : (m : Int) < (l.length : Int) := by omega
        simp only [wpA_lss, h1, decide_true, if_true, wpA_pick, wpA_guardT, wpA_bindV]
        cases f with
        | false =>
          simp only [Bool.false_eq_true, if_false]
          exact next _ rfl
        | true =>
          simp only [if_true]
          refine aw_atFw Bk.len hx' (by omega) hli (by omega) (w := .int .i64 l[i].load) rfl (aw_atFw Bk.len hx' (by omega) hlm (by omega) (w := .int .i64 l[m].load) rfl ?_)
          have hle := tie_least hm ((mem_fit hlt').2 hf.symm)
          rw [hlai, hlam] at hle
          have hn : ¬ l[i].load < l[m].load := by omega
          simp only [wpA_lss, wpA_pick, hn, decide_false, if_true]
          exact next _ rfl
      · have hfn := ties_nil hm
        have hff : f = false := by
          cases f with
          | false => rfl
          | true =>
            have := (mem_fit hlt').2 hf.symm
            rw [hfn] at this; cases this
        subst hff
        rw [hc]
        simp only [wpA_eql, wpA_guardT, wpA_pick, wpA_bindV]
        have h6 : ¬ ((6 : Int) = 0) := by decide
        simp only [h6, decide_false, Bool.false_eq_true, if_false, wpA_guardT, wpA_bindV, wpA_pick]
        exact next _ rfl
    have fin : ∀ w : Value, (if l[i].up = true then w else Value.bool false) = .bool l[i].ok → wpA (R6.g_160 (callN Try.prog k) k rec x (.int .i64 ((chooseL l draw).1 : Nat)) (.int .i64 (chooseL l draw).2) (.bool l[i].up) (.bool (someUp l i)) (nth i) w) υ fun v _ => v = .bool true := fun w hw => by
      unfold R6.g_160
      simp only [wpA_bindV, wpA_pick, hw, wpA_guardF]
      split
      · rename_i ht
        exact rest _ rfl _ fun h => by rw [ht] at h; cases h
      · exact rest _ rfl _ fun _ => rfl
    refine aw_atFw Bk.len hx' (by omega) hli (by omega) (w := .bool l[i].up) rfl ?_
    simp only [wpA_guardT]
    split
    · rename_i hup
      simp only [wpA_bindV]
      refine aw_atFw Bk.len hx' (by omega) hli (by omega) (w := .int .i64 l[i].slots) rfl ?_
      simp only [wpA_gtr]
      exact fin _ (by rw [if_pos hup]; simp [Bk.ok, hup])
    · rename_i hup
      exact fin _ (by rw [if_neg hup]; simp [Bk.ok, hup])
  · rename_i hge
    have : i = l.length := by omega
    subst this
    rcases choose_cases l draw with ⟨m, hc, hm⟩ | ⟨hc, hm⟩
    · have hml : m < l.length := fit_lt (tie_mem hm)
      obtain ⟨hlm, hlam⟩ := load_at hml
      have hok := (mem_fit hml).1 (tie_mem hm)
      have hok' := hok
      simp only [Bk.ok, Bool.and_eq_true, decide_eq_true_eq] at hok'
      have hs : someUp l l.length = true := by
        unfold someUp
        rw [List.take_length, List.any_eq_true]
        exact ⟨l[m], List.getElem_mem _, hok⟩
      have h0 : (0 : Int) ≤ (m : Int) := by omega
      have h1 : (m : Int) < (l.length : Int) := by omega
      rw [hc, hs]
      simp only [wpA_neq, wpA_cond, wpA_guardT, wpA_geq, h0, decide_true, if_true, wpA_bindV, ne_eq, not_true_eq_false, decide_false, Bool.false_eq_true, if_false]
      unfold R6.g_30
      simp only [wpA_pick, wpA_guardT, if_true, wpA_bindV]
      refine aw_lenSl hx' ?_
      unfold R6.g_27
      simp only [wpA_lss, h1, decide_true, wpA_pick, wpA_guardT, if_true, wpA_bindV]
      refine aw_atFw Bk.len hx' (by omega) hlm (by omega) (w := .bool l[m].up) rfl ?_
      unfold R6.g_23
      simp only [hok'.1, wpA_pick, wpA_guardT, if_true, wpA_bindV]
      refine aw_atFw Bk.len hx' (by omega) hlm (by omega) (w := .int .i64 l[m].slots) rfl ?_
      unfold R6.g_18
      simp only [wpA_gtr, hok'.2, decide_true, wpA_pick, wpA_guardT, if_true, wpA_bindV]
      refine (awake_spec (by omega)).mono fun v χ' ⟨hv, _⟩ => ?_
      subst hv
      simp [R6.g_16]
    · have hfn := ties_nil hm
      have hs : someUp l l.length = false := by
        unfold someUp
        rw [List.take_length, List.any_eq_false]
        intro b hb
        obtain ⟨j, hj, rfl⟩ := List.mem_iff_getElem.1 hb
        intro hok
        have := (mem_fit hj).2 hok
        rw [hfn] at this; cases this
      have h6 : ¬ ((6 : Int) = 0) := by decide
      rw [hc, hs]
      simp only [wpA_neq, wpA_cond, wpA_not, wpA_guardT, wpA_eql, h6, not_false_eq_true, decide_true, if_true, wpA_bindV, ne_eq, Bool.not_false]
      unfold R6.g_43
      simp only [wpA_pick, wpA_guardT, if_true, wpA_bindV]
      refine (awake_spec (by omega)).mono fun v χ' ⟨hv, _⟩ => ?_
      subst hv
      simp [R6.g_41]


theorem choose_at {l : List Bk} {i : Nat} (h : i < (tiesL l).length) : chooseL l (i : Int) = ((tiesL l)[i], 0) := by
  have h1 : (i : Int).tmod ((tiesL l).length : Int) = i := by rw [Int.tmod_eq_emod_of_nonneg (by omega), Int.emod_eq_of_lt (by omega) (by omega)]
  have h2 : ((i : Int).tmod ((tiesL l).length : Int) + (tiesL l).length).tmod ((tiesL l).length : Int) = i := by
    rw [wrap_at2 (by omega), h1, if_neg (by omega)]
  unfold chooseL
  rw [h2, Int.toNat_natCast, List.getElem?_eq_getElem h]

theorem law_PickDraws {σ : AW} {x : Value} {l : List Bk} {n k : Nat} {draw : Int} (hx : Sl σ x 3 n (l.flatMap Bk.cs)) (hl : l.length < big) (hk : big + 50 ≤ k) : wpA (callN Try.prog k 7 [x, .int .i64 draw]) σ fun v _ => v = .bool true := by
  obtain ⟨k, rfl⟩ : ∃ m, k = m + 1 := ⟨k - 1, by omega⟩
  rw [callN_eq, R7.eq]
  unfold R7.top
  refine aw_bindV ((ties_spec hx hl (by omega)).mono fun t τ0 ⟨he, ht⟩ => ?_)
  have htl := ties_le l
  refine aw_loop1 (fun r v τ => Ext τ0 τ ∧ ∃ i : Nat, v = nth i ∧ i ≤ (tiesL l).length ∧ r = (tiesL l).length - i) ?_ k (tiesL l).length _ τ0 ⟨Ext.refl _, 0, rfl, by omega, by omega⟩ (by omega)
  rintro r rec v τ ⟨hext, i, rfl, hi, rfl⟩ hrec
  have ht' := ht.sl.ext hext
  have hx' := (hx.ext he).ext hext
  -- behind the rounds
  have out : ∀ w : Value, w = .bool false → wpA (condA w (bindV (callN Try.prog k 19 [x, nth i]) fun v28_51 =>
    bindV (extractA v28_51 0) fun v29_52 =>
    bindV (extractA v28_51 1) fun v30_53 =>
    bindV (binA Try.prog .neq 28 v30_53 (.int .i64 0)) fun v32_56 =>
    guardA false v32_56 (bindV (indexAddrA 1 t (nth i)) fun v37_60 =>
    bindV (loadA none v37_60) fun v38_61 =>
    bindV (binA Try.prog .neq 3 v29_52 v38_61) fun v39_62 =>
    R7.g_59 (callN Try.prog k) k rec v32_56 (nth i) v39_62)
    (R7.g_59 (callN Try.prog k) k rec v32_56 (nth i) (.tuple #[])))
    (bindV (callN Try.prog k 19 [x, .int .i64 draw]) fun v44_1 =>
    bindV (extractA v44_1 0) fun v45_2 =>
    bindV (extractA v44_1 1) fun v46_3 =>
    bindV (lenA t) fun v48_33 =>
    bindV (binA Try.prog .eql 3 v48_33 (.int .i64 0)) fun v49_34 =>
    condA v49_34 (bindV (binA Try.prog .eql 28 v46_3 (.int .i64 6)) fun v51_37 =>
    guardA true v51_37 (bindV (binA Try.prog .eql 3 v45_2 (.int .i64 0)) fun v54_45 =>
    R7.g_44 (callN Try.prog k) k v51_37 v54_45)
    (R7.g_44 (callN Try.prog k) k v51_37 (.tuple #[])))
    (loop2 (R7.b_31 (callN Try.prog k) k t v45_2 v46_3) k (.bool false) (.int .i64 0)))) τ fun v _ => v = .bool true := fun w hw => by
    subst hw
    refine aw_condF (aw_bindV ((choose_spec hx' hl (by omega)).mono fun u υ ⟨hf, hu⟩ => ?_))
    subst hu
    have ht2 := ht'.ext hf
    simp only [pairV, wpA_bindV, wpA_extract]
    refine ⟨_, rfl, _, rfl, ?_⟩
    refine aw_lenSl ht2 ?_
    simp only [wpA_bindV, wpA_eql, wpA_cond, wpA_ret, decide_eq_true_eq]
    rcases choose_cases l draw with ⟨m, hc, hm⟩ | ⟨hc, hm⟩
    · have hne : ¬ (((tiesL l).length : Nat) : Int) = 0 := by
        have := List.length_pos_of_mem hm
        omega
      rw [if_neg hne, hc]
      refine aw_loop2 (fun r b v χ => χ = υ ∧ ∃ j : Nat, b = .bool (((tiesL l).take j).any fun a => decide (a = m)) ∧ v = nth j ∧ j ≤ (tiesL l).length ∧ r = (tiesL l).length - j) ?_ k (tiesL l).length _ _ υ ⟨rfl, 0, rfl, rfl, by omega, by omega⟩ (by omega)
      rintro r2 rec2 b v χ ⟨rfl, j, rfl, rfl, hj, rfl⟩ hrec2
      unfold R7.b_31
      refine aw_bindV (aw_lenSl ht2 ?_)
      simp only [nth, wpA_bindV, wpA_lss, wpA_cond, wpA_guardF, decide_eq_true_eq]
      split
      · rename_i hlt
        have hlt' : j < (tiesL l).length := by omega
        have hup : ((tiesL l).take (j + 1)).any (fun a => decide (a = m)) = (((tiesL l).take j).any (fun a => decide (a = m)) || decide ((tiesL l)[j] = m)) := by
          rw [List.take_add_one, List.getElem?_eq_getElem hlt', List.any_append]
          simp
        have step : ∀ w : Value, (if ((tiesL l).take j).any (fun a => decide (a = m)) = true then Value.bool true else w) = .bool (((tiesL l).take (j + 1)).any fun a => decide (a = m)) → wpA (R7.g_24 (callN Try.prog k) k rec2 (.bool (((tiesL l).take j).any fun a => decide (a = m))) (nth j) w) χ fun v _ => v = .bool true := fun w hw => by
          unfold R7.g_24
          simp only [nth, wpA_bindV, wpA_pick, hw, wpA_add]
          rw [wrap64 (by omega) (by unfold big at hl; omega)]
          exact hrec2 ((tiesL l).length - (j + 1)) _ _ _ (by omega) ⟨rfl, j + 1, rfl, rfl, by omega, rfl⟩
        split
        · rename_i hT
          exact step _ (by rw [if_pos hT, hup, hT]; rfl)
        · rename_i hF
          refine aw_at1w ht2 (by omega) (by rw [Int.toNat_natCast]; exact List.getElem?_eq_getElem hlt') ?_
          simp only [nth, wpA_eql]
          refine step _ ?_
          rw [if_neg hF, hup]
          have : ((((tiesL l)[j] : Nat) : Int) = (m : Int)) ↔ (tiesL l)[j] = m := by omega
          simp [hF, this]
      · rename_i hge
        have : j = (tiesL l).length := by omega
        subst this
        have hall : ((tiesL l).take (tiesL l).length).any (fun a => decide (a = m)) = true := by
          rw [List.take_length, List.any_eq_true]
          exact ⟨m, hm, by simp⟩
        rw [hall]
        simp only [wpA_eql, decide_true, wpA_guardT, if_true, R7.g_14, wpA_bindV, wpA_pick]
        refine (awake_spec (by omega)).mono fun v χ' ⟨hv, _⟩ => ?_
        subst hv
        simp [R7.g_12]
    · rw [hm, hc]
      simp only [List.length_nil, decide_true, wpA_guardT, if_true, R7.g_44, wpA_bindV, wpA_pick, wpA_eql, Int.ofNat_zero]
      refine (awake_spec (by omega)).mono fun v χ' ⟨hv, _⟩ => ?_
      subst hv
      simp [R7.g_42]
  unfold R7.b_72
  refine aw_bindV (aw_lenSl ht' ?_)
  simp only [nth, wpA_bindV, wpA_lss, wpA_guardT, decide_eq_true_eq]
  split
  · rename_i hlt
    have hlt' : i < (tiesL l).length := by omega
    unfold R7.g_70
    simp only [wpA_bindV, wpA_pick, hlt, decide_true, if_true]
    by_cases h100 : (i : Int) < 100
    · simp only [h100, decide_true, wpA_cond, if_true]
      refine aw_bindV ((choose_spec hx' hl (by omega)).mono fun u υ ⟨hf, hu⟩ => ?_)
      subst hu
      rw [choose_at hlt']
      simp only [pairV, wpA_bindV, wpA_extract]
      refine ⟨_, rfl, _, rfl, ?_⟩
      simp only [wpA_neq, ne_eq, not_true_eq_false, decide_false, wpA_guardF, Bool.false_eq_true, if_false, wpA_bindV]
      refine aw_at1w (ht'.ext hf) (by omega) (by rw [Int.toNat_natCast]; exact List.getElem?_eq_getElem hlt') ?_
      unfold R7.g_59
      simp only [nth, wpA_neq, ne_eq, not_true_eq_false, decide_false, wpA_pick, Bool.false_eq_true, if_false, wpA_bindV, wpA_cond, wpA_add]
      rw [wrap64 (by omega) (by unfold big at hl; omega)]
      exact hrec ((tiesL l).length - (i + 1)) _ _ (by omega) ⟨hext.trans hf, i + 1, rfl, by omega, rfl⟩
    · simp only [h100, decide_false]
      exact out _ rfl
  · rename_i hge
    unfold R7.g_70
    simp only [wpA_bindV, wpA_pick, hge, decide_false, Bool.false_eq_true, if_false]
    exact out _ rfl
end Go.Proofs.Ytlediheihkgebaa
