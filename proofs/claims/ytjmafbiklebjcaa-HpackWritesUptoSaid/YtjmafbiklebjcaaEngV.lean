/- Rules by which 'simp' goes through loads, stores, new objects. -/
import Derived.Test.YtjmafbiklebjcaaEngU
set_option linter.unusedVariables false
set_option linter.unusedSimpArgs false
namespace Go.Proofs.Ytjmafbiklebjcaa.Eng
section
variable {σ : AW} {Q : Value → AW → Prop}
attribute [simp] AW.get_put AW.get_push
theorem setF_setF : ∀ (f : Nat) (t : Trie) (n : Nat) (x y : Option AObj), Trie.setF f (Trie.setF f t n x) n y = Trie.setF f t n y
  | 0, _, _, _, _ => rfl
  | f + 1, .nil, n, x, y => by
    simp only [Trie.setF]
    by_cases h0 : n = 0
    · simp [h0, Trie.setF]
    · by_cases h1 : n % 2 = 1
      · simp [h0, h1, Trie.setF, setF_setF f]
      · simp [h0, h1, Trie.setF, setF_setF f]
  | f + 1, .node l v r, n, x, y => by
    simp only [Trie.setF]
    by_cases h0 : n = 0
    · simp [h0, Trie.setF]
    · by_cases h1 : n % 2 = 1
      · simp [h0, h1, Trie.setF, setF_setF f]
      · simp [h0, h1, Trie.setF, setF_setF f]
@[simp] theorem put_put (σ : AW) (b : Nat) (x y : Option AObj) : (σ.put b x).put b y = σ.put b y := by
  simp only [AW.put, setF_setF]
theorem splice_def (vs : List Value) (off : Nat) (new : List Value) : splice vs off new = vs.take off ++ new ++ vs.drop (off + new.length) := by rw [splice]
attribute [simp 100] splice_def
@[simp] theorem splice_zero (a b : Value) (vs : List Value) : splice (a :: vs) 0 [b] = b :: vs := by simp
@[simp] theorem splice_succ (a b : Value) (vs : List Value) (n : Nat) : splice (a :: vs) (n + 1) [b] = a :: splice vs n [b] := by simp
/-- First the list. -/
def letL (l : List Value) (Q : List Value → Prop) : Prop := Q l
theorem letL_def (l : List Value) (Q : List Value → Prop) : letL l Q = Q l := by rw [letL]
@[simp] theorem letL_nil (Q : List Value → Prop) : letL [] Q = Q [] := by rw [letL]
@[simp] theorem letL_cons (a : Value) (l : List Value) (Q : List Value → Prop) : letL (a :: l) Q = Q (a :: l) := by rw [letL]
@[congr] theorem letL_congr {l l' : List Value} {Q : List Value → Prop} (h : l = l') : letL l Q = letL l' Q := by rw [h]
def cellsOk : List Value → Bool
  | [] => true
  | v :: vs => isCell v && cellsOk vs
theorem cellsOk_eq (l : List Value) : l.all isCell = cellsOk l := by induction l with
  | nil => rfl
  | cons a l ih => simp only [List.all_cons, cellsOk, ih]
@[simp] theorem cellsOk_nil : cellsOk [] = true := rfl
@[simp] theorem cellsOk_cons (v : Value) (vs : List Value) : cellsOk (v :: vs) = (isCell v && cellsOk vs) := rfl
theorem cellsOk_append (l m : List Value) : cellsOk (l ++ m) = (cellsOk l && cellsOk m) := by rw [← cellsOk_eq, ← cellsOk_eq, ← cellsOk_eq, List.all_append]
@[simp] theorem fillA_nil {place : Nat → Option (Nat × Nat)} {cs : List Value} : fillA place cs [] = some cs := rfl
@[simp] theorem fillA_cons {place : Nat → Option (Nat × Nat)} {cs : List Value} {i : Nat} {v : Value} {rest : List (Nat × Value)} : fillA place cs ((i, v) :: rest) = match place i with
    | none => none
    | some (off, size) => if v.cells.size = size ∧ off + size ≤ cs.length ∧ cellsOk v.cells.toList = true then fillA place (splice cs off v.cells.toList) rest else none := by
  simp only [← cellsOk_eq]
  rfl
/-- What a place holds, and then. -/
def loadQ (o : Option Value) (Q : Value → Prop) : Prop := match o with
  | some v => Q v
  | none => False
@[simp] theorem loadQ_some {v : Value} {Q : Value → Prop} : loadQ (some v) Q = Q v := rfl
def storeQ (o : Option AObj) (off n : Nat) (cs : List Value) (Q : AObj → Prop) : Prop := match o with
  | some (.cells vs e false) => cs.length = n ∧ off + n ≤ vs.length ∧ cellsOk cs = true ∧ letL (splice vs off cs) fun ws => Q (.cells ws e false)
  | _ => False
@[simp] theorem storeQ_some {vs : List Value} {e : TypeId} {off n : Nat} {cs : List Value} {Q : AObj → Prop} : storeQ (some (.cells vs e false)) off n cs Q = (cs.length = n ∧ off + n ≤ vs.length ∧ cellsOk cs = true ∧ letL (splice vs off cs) fun ws => Q (.cells ws e false)) := rfl
def nthV : List Value → Nat → Option Value
  | [], _ => none
  | v :: _, 0 => some v
  | _ :: vs, n + 1 => nthV vs n
@[simp] theorem nthV_zero (v : Value) (vs : List Value) : nthV (v :: vs) 0 = some v := by unfold nthV; exact Eq.trans rfl rfl
@[simp] theorem nthV_succ (v : Value) (vs : List Value) (n : Nat) : nthV (v :: vs) (n + 1) = nthV vs n := by rw [nthV]
theorem nthV_eq : ∀ (vs : List Value) (n : Nat), nthV vs n = vs[n]?
  | [], _ => by simp [nthV]
  | v :: vs, 0 => by simp
  | v :: vs, n + 1 => by simp [nthV_eq vs n]
def objAt (o : Option AObj) (off : Nat) : Option Value := match o with
  | some (.cells vs _ _) => nthV vs off
  | _ => none
@[simp] theorem objAt_some {vs : List Value} {e : TypeId} {ro : Bool} {off : Nat} : objAt (some (.cells vs e ro)) off = nthV vs off := by rw [objAt]
theorem rd_def (b off : Nat) : σ.rd b off = objAt (σ.get b) off := by
  unfold AW.rd objAt
  cases σ.get b with
  | none => rfl
  | some o => cases o <;> simp [nthV_eq]
theorem rd_of {b off : Nat} {vs : List Value} {e : TypeId} {ro : Bool} (h : σ.get b = some (.cells vs e ro)) : σ.rd b off = vs[off]? := by simp [AW.rd, h]
theorem wpA_loadQ {b off : Nat} : wpA (loadA none (.pointer (some ⟨b, off, none⟩))) σ Q ↔ loadQ (objAt (σ.get b) off) fun v => Q v σ := by
  rw [wpA_load]
  simp only [rd_def]
  cases objAt (σ.get b) off with
  | none => simp [loadQ]
  | some v => simp
theorem wpA_storeQ {b off n : Nat} {v : Value} : wpA (storeA n (.pointer (some ⟨b, off, none⟩)) v) σ Q ↔ storeQ (σ.get b) off n v.cells.toList fun o => Q (.tuple #[]) (σ.put b (some o)) := by
  rw [wpA_store]
  constructor
  · rintro ⟨vs, e, h1, h2, h3⟩
    rw [h1]
    rw [cellsOk_eq] at h3
    exact ⟨by simpa using h2, h3⟩
  · intro h
    unfold storeQ at h
    split at h
    · rename_i vs e hb
      rw [← cellsOk_eq] at h
      exact ⟨vs, e, hb, by simpa using h.1, h.2⟩
    · exact h.elim
theorem wpA_new {vs : List Value} {e : TypeId} : wpA (newA vs e) σ Q ↔ cellsOk vs = true ∧ Q (.pointer (some ⟨σ.next, 0, none⟩)) (σ.push (.cells vs e false)) := by
  rw [← cellsOk_eq]
  constructor
  · rintro ⟨v, τ, h1, h2⟩
    simp only [newA] at h1
    split at h1
    · rename_i hc
      simp only [Option.some.injEq, Prod.mk.injEq] at h1
      obtain ⟨rfl, rfl⟩ := h1
      exact ⟨hc, h2⟩
    · cases h1
  · rintro ⟨h1, h2⟩
    exact aw_new h1 h2
@[simp] theorem wpA_box {v : Value} {e : TypeId} : wpA (boxA e v) σ Q ↔ cellsOk v.cells.toList = true ∧ Q (.pointer (some ⟨σ.next, 0, none⟩)) (σ.push (.cells v.cells.toList e false)) := wpA_new
@[simp] theorem cells_int {k : IntKind} {n : Int} : (Value.int k n).cells = #[.int k n] := rfl
@[simp] theorem cells_bool {b : Bool} : (Value.bool b).cells = #[.bool b] := rfl
@[simp] theorem cells_str {s : ByteArray} : (Value.string s).cells = #[.string s] := rfl
@[simp] theorem cells_ptr {a : Option Addr} : (Value.pointer a).cells = #[.pointer a] := rfl
@[simp] theorem cells_slice {a : Option Addr} {n c : Nat} : (Value.slice a n c).cells = #[.slice a n c] := rfl
@[simp] theorem cells_map {a : Option Nat} : (Value.map a).cells = #[.map a] := rfl
@[simp] theorem cells_func {f : Go.Fn} {a b : Array Value} : (Value.func f a b).cells = #[.func f a b] := rfl
@[simp] theorem cells_agg {vs : Array Value} : (Value.agg vs).cells = vs := rfl
@[simp] theorem isCell_int {k : IntKind} {n : Int} : isCell (Value.int k n) = true := rfl
@[simp] theorem isCell_bool {b : Bool} : isCell (Value.bool b) = true := rfl
@[simp] theorem isCell_str {s : ByteArray} : isCell (Value.string s) = true := rfl
@[simp] theorem isCell_ptr {a : Option Addr} : isCell (Value.pointer a) = true := rfl
@[simp] theorem isCell_slice {a : Option Addr} {n c : Nat} : isCell (Value.slice a n c) = true := rfl

def buildQ (o : Option (List Value)) (Q : List Value → Prop) : Prop := match o with
  | some v => Q v
  | none => False
@[simp] theorem buildQ_some {v : List Value} {Q : List Value → Prop} : buildQ (some v) Q = Q v := rfl
def loadsQ (o : Option AObj) (off n : Nat) (Q : List Value → Prop) : Prop := match o with
  | some (.cells vs _ _) => off + n ≤ vs.length ∧ letL ((vs.drop off).take n) Q
  | _ => False
@[simp] theorem loadsQ_some {vs : List Value} {e : TypeId} {ro : Bool} {off n : Nat} {Q : List Value → Prop} : loadsQ (some (.cells vs e ro)) off n Q = (off + n ≤ vs.length ∧ letL ((vs.drop off).take n) Q) := rfl
@[simp] theorem wpA_loadsQ {b off n : Nat} : wpA (loadA (some n) (.pointer (some ⟨b, off, none⟩))) σ Q ↔ loadsQ (σ.get b) off n fun vs => Q (.agg vs.toArray) σ := by
  constructor
  · rintro ⟨v, τ, h1, h2⟩
    simp only [loadA] at h1
    split at h1
    · rename_i vs hc
      simp only [Option.some.injEq, Prod.mk.injEq] at h1
      obtain ⟨rfl, rfl⟩ := h1
      simp only [AW.cells] at hc
      unfold loadsQ
      split at hc
      · rename_i ws e ro hb
        rw [hb]
        split at hc
        · rename_i hl
          simp only [Option.some.injEq] at hc
          subst hc
          exact ⟨hl, h2⟩
        · cases hc
      · cases hc
    · cases h1
  · intro h
    unfold loadsQ at h
    split at h
    · rename_i vs e ro hb
      exact aw_loads hb h.1 h.2
    · exact h.elim
attribute [simp] wpA_loadQ wpA_storeQ wpA_new
theorem wpA_buildSlice {e : TypeId} {size len : Nat} {zero : List Value} {parts : List (Nat × Value)} : wpA (buildSliceA e size len zero parts) σ Q ↔ buildQ (fillA (fun i => some (i * size, size)) (zeros zero (len * size)) parts) fun cs => (len * size ≤ 2 ^ 24 ∧ cellsOk cs = true ∧ zero.length = size) ∧ Q (.slice (some ⟨σ.next, 0, some size⟩) len len) (σ.push (.cells cs e false)) := by
  simp only [← cellsOk_eq]
  constructor
  · rintro ⟨v, τ, h1, h2⟩
    cases hc : fillA (fun i => some (i * size, size)) (zeros zero (len * size)) parts with
    | none => simp only [buildSliceA, need2, hc] at h1; cases h1
    | some cs =>
      simp only [buildSliceA, need2, hc] at h1
      by_cases hh : len * size ≤ 2 ^ 24 ∧ cs.all isCell = true ∧ zero.length = size
      · rw [if_pos hh] at h1
        simp only [Option.some.injEq, Prod.mk.injEq] at h1
        obtain ⟨rfl, rfl⟩ := h1
        exact ⟨hh, h2⟩
      · rw [if_neg hh] at h1
        cases h1
  · intro h
    cases hc : fillA (fun i => some (i * size, size)) (zeros zero (len * size)) parts with
    | none => rw [hc] at h; exact h.elim
    | some cs => rw [hc] at h; exact aw_buildSlice hc h.1.1 h.1.2.1 h.1.2.2 h.2

/-! ### parts of aggregates, built values -/
@[simp] theorem wpA_field1 {off : Nat} {cs : Array Value} : wpA (fieldA none off (.agg cs)) σ Q ↔ loadQ (nthV cs.toList off) fun v => Q v σ := by
  rw [nthV_eq]
  cases h : cs.toList[off]? with
  | none =>
    simp only [loadQ]
    refine ⟨fun ⟨v, τ, h1, h2⟩ => ?_, False.elim⟩
    simp only [fieldA, partA, liftO, h] at h1
    cases h1
  | some v => exact wpA_iff (by simp only [fieldA, partA, liftO, h])
@[simp] theorem wpA_fieldN {off n : Nat} {cs : Array Value} : wpA (fieldA (some n) off (.agg cs)) σ Q ↔ Q (.agg ((cs.toList.drop off).take n).toArray) σ := wpA_iff rfl
@[simp] theorem wpA_build {places : List (Nat × Nat)} {zero : List Value} {parts : List (Nat × Value)} : wpA (buildA places zero parts) σ Q ↔ buildQ (fillA (places[·]?) zero parts) fun cs => Q (.agg cs.toArray) σ := by
  cases h : fillA (places[·]?) zero parts with
  | none =>
    refine ⟨fun ⟨v, τ, h1, h2⟩ => ?_, False.elim⟩
    simp only [buildA, need2, h] at h1
    cases h1
  | some v => exact wpA_iff (by simp only [buildA, need2, h]; rfl)
@[simp] theorem wpA_buildArr {size : Nat} {zero : List Value} {parts : List (Nat × Value)} : wpA (buildArrA size zero parts) σ Q ↔ buildQ (fillA (fun i => some (i * size, size)) zero parts) fun cs => Q (.agg cs.toArray) σ := by
  cases h : fillA (fun i => some (i * size, size)) zero parts with
  | none =>
    refine ⟨fun ⟨v, τ, h1, h2⟩ => ?_, False.elim⟩
    simp only [buildArrA, need2, h] at h1
    cases h1
  | some v => exact wpA_iff (by simp only [buildArrA, need2, h]; rfl)
theorem there_iff {s : AW} {m : AM Value} {v : Value} {l : List AW} {K : AM Value} : wpA (thereV (s :: l) m v K) σ Q ↔ wpA m s (fun u _ => same u v = true) ∧ wpA (thereV l m v K) σ Q := by
  have key : ∀ w υ, thereV (s :: l) m v K σ = some (w, υ) ↔ (∃ u τ, m s = some (u, τ) ∧ same u v = true) ∧ thereV l m v K σ = some (w, υ) := fun w υ => by
    show bind (there s m v) (fun _ => thereAll l m v K) σ = some (w, υ) ↔ _
    cases hm : m s with
    | none => simp [bind, there, hm]
    | some p =>
      obtain ⟨u, τ⟩ := p
      by_cases hs : same u v = true
      · simp [bind, there, hm, hs, thereV]
      · simp [bind, there, hm, hs]
  constructor
  · rintro ⟨w, υ, h1, h2⟩
    obtain ⟨⟨u, τ, h3, h4⟩, h5⟩ := (key w υ).1 h1
    exact ⟨⟨u, τ, h3, h4⟩, w, υ, h5, h2⟩
  · rintro ⟨⟨u, τ, h3, h4⟩, w, υ, h5, h2⟩
    exact ⟨w, υ, (key w υ).2 ⟨⟨u, τ, h3, h4⟩, h5⟩, h2⟩
theorem here_iff {m : AM Value} {v : Value} {l : List (AM Value × Value)} {K : AM Value} : wpA (hereV ((m, v) :: l) K) σ Q ↔ wpA m σ (fun u _ => same u v = true) ∧ wpA (hereV l K) σ Q := by
  have key : ∀ w υ, hereV ((m, v) :: l) K σ = some (w, υ) ↔ (∃ u τ, m σ = some (u, τ) ∧ same u v = true) ∧ hereV l K σ = some (w, υ) := fun w υ => by
    show bind (here m v) (fun _ => hereAll l K) σ = some (w, υ) ↔ _
    cases hm : m σ with
    | none => simp [bind, here, there, hm]
    | some p =>
      obtain ⟨u, τ⟩ := p
      by_cases hs : same u v = true
      · simp [bind, here, there, hm, hs, hereV]
      · simp [bind, here, there, hm, hs]
  constructor
  · rintro ⟨w, υ, h1, h2⟩
    obtain ⟨⟨u, τ, h3, h4⟩, h5⟩ := (key w υ).1 h1
    exact ⟨⟨u, τ, h3, h4⟩, w, υ, h5, h2⟩
  · rintro ⟨⟨u, τ, h3, h4⟩, w, υ, h5, h2⟩
    exact ⟨w, υ, (key w υ).2 ⟨⟨u, τ, h3, h4⟩, h5⟩, h2⟩
attribute [simp] there_iff here_iff
@[simp] theorem same_i {j k : IntKind} {a b : Int} : same (.int j a) (.int k b) = (decide (j = k) && decide (a = b)) := rfl
@[simp] theorem same_b {a b : Bool} : same (.bool a) (.bool b) = (a == b) := rfl
@[simp] theorem same_s {a b : ByteArray} : same (.string a) (.string b) = decide (a = b) := rfl
@[simp] theorem same_p {a b : Option Addr} : same (.pointer a) (.pointer b) = decide (a = b) := rfl
@[simp] theorem same_l {a b : Option Addr} {m n c d : Nat} : same (.slice a m c) (.slice b n d) = (decide (a = b) && decide (m = n) && decide (c = d)) := rfl

/-! ### what is there already -/
theorem setF_same : ∀ (f : Nat) (t : Trie) (n : Nat) (o : AObj), t.get n = some o → n < f → Trie.setF f t n (some o) = t
  | 0, _, _, _, _, h => absurd h (Nat.not_lt_zero _)
  | f + 1, .nil, n, o, h, _ => by simp [Trie.get] at h
  | f + 1, .node l v r, n, o, h, hn => by
    simp only [Trie.get] at h
    simp only [Trie.setF]
    by_cases h0 : n = 0
    · rw [if_pos h0] at h ⊢; rw [h]
    · rw [if_neg h0] at h ⊢
      by_cases h1 : n % 2 = 1
      · rw [if_pos h1] at h ⊢
        rw [setF_same f l (n / 2) o h (by omega)]
      · rw [if_neg h1] at h ⊢
        rw [setF_same f r (n / 2 - 1) o h (by omega)]
theorem put_same {σ : AW} {b : Nat} {o : AObj} (h : σ.get b = some o) : σ.put b (some o) = σ := by
  unfold AW.put
  rw [setF_same (b + 1) σ.heap b o h (by omega)]
/-- Two operations as one. -/
theorem bindV_assoc {m : AM Value} {f : Value → AM Value} {g : Value → AM Value} : wpA (bindV m fun p => bindV (f p) g) σ Q ↔ wpA (bindV m f) σ fun v τ => wpA (g v) τ Q := by
  simp only [wpA_bindV]
theorem det_iff {m : AM Value} {a : Value} {τ : AW} (h : wpA m σ fun v υ => v = a ∧ υ = τ) : wpA m σ Q ↔ Q a τ := by
  obtain ⟨v, υ, h1, rfl, rfl⟩ := h
  exact wpA_iff h1
theorem len_iff {τ : AW} {v : Value} {z n : Nat} {vs : List Value} (h : Sl τ v z n vs) : wpA (lenA v) σ Q ↔ Q (.int .i64 n) σ := by
  obtain ⟨a, c, rfl⟩ := h.form
  exact wpA_len
theorem at1_iff {α : Type} {v : Value} {f : α → Value} {l : List α} {n i : Nat} {x : α} {k : IntKind} {K : Value → AM Value} (h : Sl σ v 1 n (l.map f)) (hi : l[i]? = some x) :
    wpA (bindV (indexAddrA 1 v (.int k (i : Nat))) fun p => bindV (loadA none p) K) σ Q ↔ wpA (K (f x)) σ Q := by
  rw [bindV_assoc]
  exact det_iff (aw_bindV (aw_at1w h (by omega) (by simpa using hi) ⟨rfl, rfl⟩))
theorem atF_iff {α : Type} {v w : Value} {cs : α → List Value} {z off n i : Nat} {l : List α} {x : α} {k : IntKind} {K : Value → AM Value} (hz : ∀ a, (cs a).length = z) (h : Sl σ v z n (l.flatMap cs)) (hi : l[i]? = some x) (hw : nthV (cs x) off = some w) :
    wpA (bindV (indexAddrA z v (.int k (i : Nat))) fun p => bindV (fieldAddrA off p) fun q => bindV (loadA none q) K) σ Q ↔ wpA (K w) σ Q := by
  rw [nthV_eq] at hw
  have hzp : 0 < z := by
    rw [← hz x]
    rcases Nat.eq_zero_or_pos (cs x).length with g | g
    · rw [List.getElem?_eq_none (by omega)] at hw; cases hw
    · exact g
  have h1 : wpA (bindV (indexAddrA z v (.int k (i : Nat))) fun p => bindV (fieldAddrA off p) fun q => loadA none q) σ fun u τ => u = w ∧ τ = σ :=
    aw_bindV ((aw_atFw hz h (by omega) (by simpa using hi) hzp hw ⟨rfl, rfl⟩).mono fun _ _ g => aw_bindV g)
  have h2 := det_iff (Q := fun v τ => wpA (K v) τ Q) h1
  rw [← h2]
  simp only [wpA_bindV]
theorem atS_iff {α : Type} {v : Value} {cs : α → List Value} {z n i : Nat} {l : List α} {x : α} {k : IntKind} {K : Value → AM Value} (hz : ∀ a, (cs a).length = z) (hzp : 0 < z) (h : Sl σ v z n (l.flatMap cs)) (hi : l[i]? = some x) :
    wpA (bindV (indexAddrA z v (.int k (i : Nat))) fun p => bindV (loadA (some z) p) K) σ Q ↔ wpA (K (.agg (cs x).toArray)) σ Q := by
  rw [bindV_assoc]
  have hn : n = l.length := by
    have h1 := h.1
    rw [length_flatMap hz] at h1
    exact Nat.eq_of_mul_eq_mul_right hzp h1.symm
  have hlt : i < l.length := by
    rcases Nat.lt_or_ge i l.length with g | g
    · exact g
    · rw [List.getElem?_eq_none g] at hi; cases hi
  refine det_iff (aw_bindV (aw_indexSl h (by omega) (by omega) fun b o ws e ro hb _ hl hww => aw_loads hb hl ⟨?_, rfl⟩))
  congr 2
  apply List.ext_getElem?
  intro j
  by_cases hj : j < z
  · rw [List.getElem?_take_of_lt hj, List.getElem?_drop, hww j hj, Int.toNat_natCast, getElem?_flatMap hz _ _ _ hj, hi]; rfl
  · rw [List.getElem?_eq_none (by simp; omega), List.getElem?_eq_none (by rw [hz]; omega)]
/-- An element, wherever it is asked for. -/
theorem at1_all {α : Type} {v : Value} {f : α → Value} {l : List α} {n i : Nat} {x : α} {k : IntKind} (h : Sl σ v 1 n (l.map f)) (hi : l[i]? = some x) :
    (∀ (K : Value → AM Value) Q, wpA (bindV (indexAddrA 1 v (.int k (i : Nat))) fun p => bindV (loadA none p) K) σ Q ↔ wpA (K (f x)) σ Q) ∧
    (∀ (Q : Value → AW → Prop), (wpA (indexAddrA 1 v (.int k (i : Nat))) σ fun p τ => wpA (loadA none p) τ Q) ↔ Q (f x) σ) ∧
    (∀ (K : Value → AM Value) Q, (wpA (indexAddrA 1 v (.int k (i : Nat))) σ fun p τ => wpA (bindV (loadA none p) K) τ Q) ↔ wpA (K (f x)) σ Q) := by
  have h1 := fun (K : Value → AM Value) (Q : Value → AW → Prop) => at1_iff (k := k) (K := K) (Q := Q) h hi
  refine ⟨h1, fun Q => ?_, fun K Q => ?_⟩
  · exact (wpA_bindV (f := fun p => loadA none p) (Q := Q)).symm.trans (det_iff (aw_bindV (aw_at1w h (by omega) (by simpa using hi) ⟨rfl, rfl⟩)))
  · exact wpA_bindV.symm.trans (h1 K Q)
theorem atF_all {α : Type} {v w : Value} {cs : α → List Value} {z off n i : Nat} {l : List α} {x : α} {k : IntKind} (hz : ∀ a, (cs a).length = z) (h : Sl σ v z n (l.flatMap cs)) (hi : l[i]? = some x) (hw : nthV (cs x) off = some w) :
    (∀ (K : Value → AM Value) Q, wpA (bindV (indexAddrA z v (.int k (i : Nat))) fun p => bindV (fieldAddrA off p) fun q => bindV (loadA none q) K) σ Q ↔ wpA (K w) σ Q) ∧
    (∀ (Q : Value → AW → Prop), (wpA (indexAddrA z v (.int k (i : Nat))) σ fun p τ => wpA (fieldAddrA off p) τ fun q υ => wpA (loadA none q) υ Q) ↔ Q w σ) ∧
    (∀ (K : Value → AM Value) Q, (wpA (indexAddrA z v (.int k (i : Nat))) σ fun p τ => wpA (bindV (fieldAddrA off p) fun q => bindV (loadA none q) K) τ Q) ↔ wpA (K w) σ Q) := by
  have h1 := fun (K : Value → AM Value) (Q : Value → AW → Prop) => atF_iff (k := k) (K := K) (Q := Q) hz h hi hw
  refine ⟨h1, fun Q => ?_, fun K Q => wpA_bindV.symm.trans (h1 K Q)⟩
  rw [nthV_eq] at hw
  have hzp : 0 < z := by
    rw [← hz x]
    rcases Nat.eq_zero_or_pos (cs x).length with g | g
    · rw [List.getElem?_eq_none (by omega)] at hw; cases hw
    · exact g
  have h2 : wpA (bindV (indexAddrA z v (.int k (i : Nat))) fun p => bindV (fieldAddrA off p) fun q => loadA none q) σ fun u τ => u = w ∧ τ = σ :=
    aw_bindV ((aw_atFw hz h (by omega) (by simpa using hi) hzp hw ⟨rfl, rfl⟩).mono fun _ _ g => aw_bindV g)
  have h3 := det_iff (Q := Q) h2
  simp only [wpA_bindV] at h3
  exact h3
theorem atS_all {α : Type} {v : Value} {cs : α → List Value} {z n i : Nat} {l : List α} {x : α} {k : IntKind} (hz : ∀ a, (cs a).length = z) (hzp : 0 < z) (h : Sl σ v z n (l.flatMap cs)) (hi : l[i]? = some x) :
    (∀ (K : Value → AM Value) Q, wpA (bindV (indexAddrA z v (.int k (i : Nat))) fun p => bindV (loadA (some z) p) K) σ Q ↔ wpA (K (.agg (cs x).toArray)) σ Q) ∧
    (∀ (Q : Value → AW → Prop), (wpA (indexAddrA z v (.int k (i : Nat))) σ fun p τ => wpA (loadA (some z) p) τ Q) ↔ Q (.agg (cs x).toArray) σ) ∧
    (∀ (K : Value → AM Value) Q, (wpA (indexAddrA z v (.int k (i : Nat))) σ fun p τ => wpA (bindV (loadA (some z) p) K) τ Q) ↔ wpA (K (.agg (cs x).toArray)) σ Q) := by
  have h1 := fun (K : Value → AM Value) (Q : Value → AW → Prop) => atS_iff (k := k) (K := K) (Q := Q) hz hzp h hi
  refine ⟨h1, fun Q => ?_, fun K Q => wpA_bindV.symm.trans (h1 K Q)⟩
  have h2 := h1 (fun v => ret v) Q
  rw [wpA_ret] at h2
  rw [← h2]
  simp only [wpA_bindV, wpA_ret]
/-! ### what is compared -/
def undP (P : Program) (t : TypeId) (f : TypeDesc → Bool) : Bool := match P.underlying t with
  | some d => f d
  | none => false
theorem undP_of {P : Program} {t : TypeId} {f : TypeDesc → Bool} {d : TypeDesc} (h : P.underlying t = some d) : undP P t f = f d := by simp only [undP, h]
theorem ifU_of {P : Program} {t : TypeId} {f : TypeDesc → Bool} {m : AM Value} (h : undP P t f = true) : ifU P t f m = m := by
  unfold undP at h
  unfold ifU
  cases hu : P.underlying t with
  | none => rw [hu] at h; cases h
  | some d => rw [hu] at h; simp only at h; simp only [h, if_true]
section
variable {P : Program} {t : TypeId}
theorem eqBoolU {x y : Bool} (ht : undP P t isBoolT = true) : wpA (binA P .eql t (.bool x) (.bool y)) σ Q ↔ Q (.bool (x == y)) σ := wpA_iff (by simp only [binA]; rw [ifU_of ht]; rfl)
theorem neBoolU {x y : Bool} (ht : undP P t isBoolT = true) : wpA (binA P .neq t (.bool x) (.bool y)) σ Q ↔ Q (.bool !(x == y)) σ := wpA_iff (by simp only [binA]; rw [ifU_of ht]; rfl)
theorem eqPtrU {a : Option Addr} (ht : undP P t isPtrT = true) : wpA (binA P .eql t (.pointer a) (.pointer none)) σ Q ↔ Q (.bool a.isNone) σ := wpA_iff (by cases a <;> (simp only [binA]; rw [ifU_of ht]; rfl))
theorem nePtrU {a : Option Addr} (ht : undP P t isPtrT = true) : wpA (binA P .neq t (.pointer a) (.pointer none)) σ Q ↔ Q (.bool !a.isNone) σ := wpA_iff (by cases a <;> (simp only [binA]; rw [ifU_of ht]; rfl))
theorem eqSlcU {a : Option Addr} {n c n' c' : Nat} (ht : undP P t isSliceT = true) : wpA (binA P .eql t (.slice a n c) (.slice none n' c')) σ Q ↔ Q (.bool a.isNone) σ := wpA_iff (by simp only [binA]; rw [ifU_of ht]; rfl)
theorem neSlcU {a : Option Addr} {n c n' c' : Nat} (ht : undP P t isSliceT = true) : wpA (binA P .neq t (.slice a n c) (.slice none n' c')) σ Q ↔ Q (.bool !a.isNone) σ := wpA_iff (by simp only [binA]; rw [ifU_of ht]; rfl)
@[simp] theorem isBoolT_b : isBoolT .bool = true := rfl
@[simp] theorem isPtrT_p {e : TypeId} : isPtrT (.pointer e) = true := rfl
@[simp] theorem isSliceT_s {e : TypeId} : isSliceT (.slice e) = true := rfl
attribute [simp ↓] eqBoolU neBoolU eqPtrU nePtrU eqSlcU neSlcU
attribute [simp ↓] wpA_eqStr wpA_neStr
end

theorem wpA_indexArr {len z b o : Nat} {k : IntKind} {i : Int} : wpA (indexArrAddrA len z (.pointer (some ⟨b, o, none⟩)) (.int k i)) σ Q ↔ (0 ≤ i ∧ i < (len : Int)) ∧ Q (.pointer (some ⟨b, o + i.toNat * z, none⟩)) σ := by
  constructor
  · rintro ⟨v, τ, h1, h2⟩
    simp only [indexArrAddrA] at h1
    split at h1
    · rename_i hc
      simp only [ret, Option.some.injEq, Prod.mk.injEq] at h1
      obtain ⟨rfl, rfl⟩ := h1
      exact ⟨hc, h2⟩
    · cases h1
  · rintro ⟨h1, h2⟩
    exact aw_indexArrAddr h1.1 h1.2 h2
theorem wpA_callF {call : FuncId → List Value → AM Value} {f : FuncId} {args : List Value} : wpA (callA call (.func (.func f) #[] #[]) args) σ Q ↔ wpA (call f args) σ Q := by
  show wpA (call f ([] ++ args ++ [])) σ Q ↔ _
  simp only [List.nil_append, List.append_nil]
@[simp] theorem cells_nilFunc : Value.nilFunc.cells = #[.nilFunc] := rfl
@[simp] theorem isCell_nilFunc : isCell Value.nilFunc = true := rfl
@[simp] theorem isCell_func {f : Go.Fn} {a b : Array Value} : isCell (Value.func f a b) = true := rfl
@[simp] theorem isCell_map {a : Option Nat} : isCell (Value.map a) = true := rfl
attribute [simp ↓] wpA_indexArr wpA_callF
attribute [simp ↓] wpA_rem wpA_quo wpA_shl wpA_shr

theorem wpA_indexSl {z s b o n c : Nat} {k : IntKind} {i : Int} : wpA (indexAddrA z (.slice (some ⟨b, o, some s⟩) n c) (.int k i)) σ Q ↔ (0 ≤ i ∧ i < (n : Int)) ∧ Q (.pointer (some ⟨b, o + i.toNat * z, none⟩)) σ := by
  constructor
  · rintro ⟨v, τ, h1, h2⟩
    simp only [indexAddrA] at h1
    split at h1
    · rename_i hc
      simp only [ret, Option.some.injEq, Prod.mk.injEq] at h1
      obtain ⟨rfl, rfl⟩ := h1
      exact ⟨hc, h2⟩
    · cases h1
  · rintro ⟨h1, h2⟩
    exact aw_indexAddr h1.1 h1.2 rfl h2
attribute [simp ↓] wpA_indexSl wpA_buildSlice
theorem loop1_at {F : (Value → AM Value) → Value → AM Value} {k : Nat} {a : Value} (h : 1 ≤ k) : loop1 F k a = F (loop1 F (k - 1)) a := by
  obtain ⟨m, rfl⟩ : ∃ m, k = m + 1 := ⟨k - 1, by omega⟩
  rfl
/-- One object is another; what was there is there still; there may be more. -/
def Upe (b : Nat) (o : AObj) (σ τ : AW) : Prop := σ.next ≤ τ.next ∧ τ.get b = some o ∧ ∀ c, c ≠ b → c < σ.next → τ.get c = σ.get c
theorem Upe.kept {b B : Nat} {o : AObj} {σ τ : AW} (h : Upe b o σ τ) (hb : B ≤ b) (hB : B ≤ σ.next) : Kept B σ τ := ⟨h.1, fun c hc => h.2.2 c (by omega) (by omega)⟩

/-! ### from without to within -/
attribute [simp ↓ 900] wpA_bindV
attribute [simp ↓] wpA_bindS wpA_ret wpA_len wpA_lenStr wpA_pick wpA_cond wpA_guardT wpA_guardF wpA_guardU wpA_not wpA_neg wpA_conv wpA_convStr wpA_fieldAddr wpA_nilCheck wpA_min wpA_max wpA_callA wpA_extract
attribute [simp ↓] wpA_add wpA_sub wpA_mul wpA_eql wpA_neq wpA_lss wpA_leq wpA_gtr wpA_geq wpA_hereNil wpA_thereNil there_iff here_iff
attribute [simp ↓] wpA_loadQ wpA_storeQ wpA_new wpA_loadsQ wpA_box wpA_field1 wpA_fieldN wpA_build wpA_buildArr
attribute [simp ↓] loadQ_some storeQ_some loadsQ_some buildQ_some
@[congr] theorem wpA_congr {m m' : AM Value} {σ σ' : AW} {Q : Value → AW → Prop} (h : m = m') (k : σ = σ') : wpA m σ Q = wpA m' σ' Q := by rw [h, k]
@[congr] theorem loadQ_congr {o o' : Option Value} {Q : Value → Prop} (h : o = o') : loadQ o Q = loadQ o' Q := by rw [h]
@[congr] theorem storeQ_congr {o o' : Option AObj} {off n : Nat} {cs cs' : List Value} {Q : AObj → Prop} (h : o = o') (k : cs = cs') : storeQ o off n cs Q = storeQ o' off n cs' Q := by rw [h, k]
@[congr] theorem loadsQ_congr {o o' : Option AObj} {off n : Nat} {Q : List Value → Prop} (h : o = o') : loadsQ o off n Q = loadsQ o' off n Q := by rw [h]
@[congr] theorem buildQ_congr {o o' : Option (List Value)} {Q : List Value → Prop} (h : o = o') : buildQ o Q = buildQ o' Q := by rw [h]
end
theorem callN_eq (P : Program) (n : Nat) (f : FuncId) (args : List Value) : callN P (n + 1) f args = funcA P (callN P n) n f args := rfl
theorem callN_at {P : Program} {n : Nat} {f : FuncId} {args : List Value} (h : 1 ≤ n) : callN P n f args = funcA P (callN P (n - 1)) (n - 1) f args := by
  obtain ⟨k, rfl⟩ : ∃ m, n = m + 1 := ⟨n - 1, by omega⟩
  rfl
/-- A pointer to an object. -/
abbrev ptr (b : Nat) : Value := .pointer (some ⟨b, 0, none⟩)
theorem Upd.refl {b : Nat} {o : AObj} {σ : AW} (h : σ.get b = some o) : Upd b o σ σ := ⟨rfl, h, fun _ _ => rfl⟩
theorem Upd.put {b : Nat} {o o' : AObj} {σ τ : AW} (h : Upd b o σ τ) : Upd b o' σ (τ.put b (some o')) := ⟨by simpa using h.1, by simp, fun c hc => by rw [AW.get_put, if_neg hc]; exact h.2.2 c hc⟩
@[simp] theorem Upd.put0 {b : Nat} {o' : AObj} {σ : AW} : Upd b o' σ (σ.put b (some o')) := ⟨by simp, by simp, fun c hc => by rw [AW.get_put, if_neg hc]⟩
end Go.Proofs.Ytjmafbiklebjcaa.Eng
