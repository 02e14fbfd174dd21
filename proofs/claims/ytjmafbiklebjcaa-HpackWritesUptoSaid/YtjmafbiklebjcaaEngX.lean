/- Texts; literals; new slices. -/
import Derived.Test.YtjmafbiklebjcaaEngW
set_option linter.unusedVariables false
set_option linter.unusedSimpArgs false
namespace Go.Proofs.Ytjmafbiklebjcaa.Eng
section
variable {σ : AW} {Q : Value → AW → Prop}
/-- A text. -/
def Tx (l : List UInt8) : Value := .string (strOf l)
@[simp] theorem strOf_size (l : List UInt8) : (strOf l).size = l.length := by simp [strOf, ByteArray.size]
theorem strOf_data (l : List UInt8) : (strOf l).data = l.toArray := rfl
theorem strOf_inj {a b : List UInt8} : strOf a = strOf b ↔ a = b := by
  constructor
  · intro h
    have := congrArg (fun x : ByteArray => x.data.toList) h
    simpa [strOf] using this
  · rintro rfl; rfl
theorem strOf_extract (l : List UInt8) (a b : Nat) : (strOf l).extract a b = strOf ((l.drop a).take (b - a)) := by
  apply ByteArray.ext
  rw [ByteArray.data_extract, strOf_data, strOf_data]
  simp
theorem strOf_get {l : List UInt8} {i : Nat} {x : UInt8} (h : l[i]? = some x) : (strOf l)[i]? = some x := by
  have hlt : i < l.length := by
    rcases Nat.lt_or_ge i l.length with g | g
    · exact g
    · rw [List.getElem?_eq_none g] at h; cases h
  have hs : i < (strOf l).size := by simpa using hlt
  rw [getElem?_pos (strOf l) i hs]
  have : (strOf l)[i] = l[i] := by
    rfl
  rw [this]
  rw [List.getElem?_eq_getElem hlt] at h
  exact h
theorem strOf_get! {l : List UInt8} {i : Nat} {x : UInt8} (h : l[i]? = some x) : (strOf l).get! i = x := by
  have hlt : i < l.length := by
    rcases Nat.lt_or_ge i l.length with g | g
    · exact g
    · rw [List.getElem?_eq_none g] at h; cases h
  show (strOf l).data[i]! = x
  rw [List.getElem?_eq_getElem hlt] at h
  injection h with h
  simp [strOf, hlt, h]
theorem lenStr_iff {l : List UInt8} : wpA (lenStrA (Tx l)) σ Q ↔ Q (.int .i64 l.length) σ := by
  unfold Tx
  rw [wpA_lenStr, strOf_size]
theorem indexStr_iff {l : List UInt8} {k : IntKind} {i : Nat} {x : UInt8} (h : l[i]? = some x) : wpA (indexStrA (Tx l) (.int k (i : Nat))) σ Q ↔ Q (Bt x) σ := by
  refine wpA_iff ?_
  have hg : (strOf l)[((i : Nat) : Int).toNat]? = some x := by rw [Int.toNat_natCast]; exact strOf_get h
  simp only [indexStrA, Tx, hg, Option.map_some, liftO]
  rw [if_pos (by omega)]
  rfl
theorem sliceStrTo_iff {l : List UInt8} {k : IntKind} {h : Nat} (hh : h ≤ l.length) : wpA (sliceStrA (Tx l) none (some (.int k (h : Nat)))) σ Q ↔ Q (Tx (l.take h)) σ := by
  refine wpA_iff ?_
  have b1 : bound (some (.int k (h : Nat))) (strOf l).size (strOf l).size = some h := by simp only [bound, strOf_size]; rw [if_pos ⟨by omega, by omega⟩]; rfl
  simp only [sliceStrA, Tx, b1, bound, need2, ret, strOf_extract]
  simp [hh]
  rfl
theorem sliceStrFrom_iff {l : List UInt8} {k : IntKind} {a : Nat} (ha : a ≤ l.length) : wpA (sliceStrA (Tx l) (some (.int k (a : Nat))) none) σ Q ↔ Q (Tx (l.drop a)) σ := by
  refine wpA_iff ?_
  have b1 : bound (some (.int k (a : Nat))) 0 (strOf l).size = some a := by simp only [bound, strOf_size]; rw [if_pos ⟨by omega, by omega⟩]; rfl
  simp only [sliceStrA, Tx, bound, b1, need2, ret, strOf_extract, strOf_size]
  have e : (l.drop a).take (l.length - a) = l.drop a := List.take_of_length_le (by simp)
  rw [if_pos ⟨by omega, by omega⟩]
  simp only [need2]
  rw [Int.toNat_natCast, e]
  rfl
theorem eqStr_iff {P : Program} {t : TypeId} {a b : List UInt8} : wpA (binA P .eql t (Tx a) (Tx b)) σ Q ↔ Q (.bool (decide (a = b))) σ := by
  refine (wpA_eqStr (P := P) (t := t)).trans ?_
  have : ((strOf a).toList == (strOf b).toList) = decide (a = b) := by
    by_cases h : a = b
    · subst h; simp
    · have hne : (strOf a).toList ≠ (strOf b).toList := by
        intro he
        apply h
        have e1 : (strOf a).toList = a := by rw [ByteArray.toList_eq]; rfl
        have e2 : (strOf b).toList = b := by rw [ByteArray.toList_eq]; rfl
        rw [e1, e2] at he
        exact he
      simp [h, hne]
  rw [this]
@[simp] theorem cells_Tx {l : List UInt8} : (Tx l).cells = #[Tx l] := rfl
@[simp] theorem isCell_Tx {l : List UInt8} : isCell (Tx l) = true := rfl

/-! ### a range over a text -/
theorem wpA_range {s : ByteArray} : wpA (rangeA (.string s)) σ Q ↔ Q (.pointer (some ⟨σ.next, 0, none⟩)) (σ.push (.iter s 0)) := wpA_iff rfl
theorem next_ascii {l : List UInt8} {b p : Nat} {x : UInt8} (hb : σ.get b = some (.iter (strOf l) p)) (hx : l[p]? = some x) (h : x.toNat < 128) : wpA (nextA (.pointer (some ⟨b, 0, none⟩))) σ Q ↔ Q (.tuple #[.bool true, .int .i64 (p : Nat), .int .i32 (x.toNat : Nat)]) (σ.put b (some (.iter (strOf l) (p + 1)))) := by
  refine wpA_iff ?_
  have hlt : p < l.length := by
    rcases Nat.lt_or_ge p l.length with g | g
    · exact g
    · rw [List.getElem?_eq_none g] at hx; cases hx
  have hd : Utf8.decode (strOf l) p = (x.toNat, 1) := by
    have hg : ((strOf l).get! (p + 0)).toNat = x.toNat := by rw [Nat.add_zero, strOf_get! hx]
    unfold Utf8.decode
    simp only [hg]
    rw [if_pos h]
  simp only [nextA, hb, strOf_size, hlt, if_true, hd]
theorem next_end {l : List UInt8} {b p : Nat} (hb : σ.get b = some (.iter (strOf l) p)) (h : l.length ≤ p) : wpA (nextA (.pointer (some ⟨b, 0, none⟩))) σ Q ↔ Q (.tuple #[.bool false]) σ := by
  refine wpA_iff ?_
  simp only [nextA, hb, strOf_size]
  rw [if_neg (by omega)]

/-! ### literals -/
def enumV : Nat → List Value → List (Nat × Value)
  | _, [] => []
  | i, v :: vs => (i, v) :: enumV (i + 1) vs
theorem fill_enum : ∀ (vs pre rest : List Value) (i : Nat), pre.length = i → rest.length = vs.length → (∀ v ∈ vs, v.cells = #[v] ∧ isCell v = true) → fillA (fun i => some (i * 1, 1)) (pre ++ rest) (enumV i vs) = some (pre ++ vs)
  | [], pre, rest, i, _, hr, _ => by
    have : rest = [] := by simpa using hr
    subst this
    simp [enumV]
  | v :: vs, pre, rest, i, hp, hr, hc => by
    obtain ⟨r, rest, rfl⟩ : ∃ r rs, rest = r :: rs := by cases rest with
      | nil => simp at hr
      | cons r rs => exact ⟨r, rs, rfl⟩
    obtain ⟨h1, h2⟩ := hc v (by simp)
    simp only [enumV, fillA_cons, h1]
    have hsp : splice (pre ++ r :: rest) (i * 1) [v] = (pre ++ [v]) ++ rest := by
      rw [Nat.mul_one, ← hp]
      simp [splice_def]
    have := fill_enum vs (pre ++ [v]) rest (i + 1) (by simp [hp]) (by simpa using hr) (fun v hv => hc v (by simp [hv]))
    rw [if_pos ⟨rfl, by simp [hp], by simp [h2]⟩]
    show fillA _ (splice (pre ++ r :: rest) (i * 1) [v]) _ = _
    rw [hsp, this]
    simp
theorem zeros_len (z : List Value) (n : Nat) : (zeros z n).length = n := by simp [zeros]
/-- A slice of single cells, given one by one. -/
theorem aw_literal {e : TypeId} {n : Nat} {z : Value} {vs : List Value} {parts : List (Nat × Value)} (hp : parts = enumV 0 vs) (hn : vs.length = n) (hc : ∀ v ∈ vs, v.cells = #[v] ∧ isCell v = true) (hs : n ≤ 2 ^ 24)
    (h : Q (.slice (some ⟨σ.next, 0, some 1⟩) n n) (σ.push (.cells vs e false))) : wpA (buildSliceA e 1 n [z] parts) σ Q := by
  have hf := fill_enum vs [] (zeros [z] (n * 1)) 0 rfl (by rw [zeros_len]; omega) hc
  simp only [List.nil_append] at hf
  rw [wpA_buildSlice, hp, hf]
  refine ⟨⟨by omega, ?_, rfl⟩, h⟩
  rw [← cellsOk_eq]
  exact List.all_eq_true.2 fun v hv => (hc v hv).2
theorem aw_arrLit {vs zero : List Value} {parts : List (Nat × Value)} (hp : parts = enumV 0 vs) (hn : zero.length = vs.length) (hc : ∀ v ∈ vs, v.cells = #[v] ∧ isCell v = true) (h : Q (.agg vs.toArray) σ) : wpA (buildArrA 1 zero parts) σ Q := by
  have hf := fill_enum vs [] zero 0 rfl hn hc
  simp only [List.nil_append] at hf
  rw [wpA_buildArr, hp, hf]
  exact h
theorem splice_whole {vs new : List Value} (h : vs.length = new.length) : splice vs 0 new = new := by
  simp [splice_def, ← h]
theorem aw_makeSlice {e : TypeId} {size bytes : Nat} {zero : List Value} {j k : IntKind} {l c : Nat} (h1 : l ≤ c) (h2 : bytes * c ≤ 2 ^ 47) (h3 : c < 2 ^ 63) (hz : zero.length = size) (hc : cellsOk zero = true) (hs : 0 < size)
    (h : ∀ vs, vs.length = c * size → cellsOk vs = true → vs = zeros zero (c * size) → Q (.slice (some ⟨σ.next, 0, some size⟩) l c) (σ.push (.cells vs e false))) : wpA (makeSliceA e size bytes zero (.int j (l : Nat)) (.int k (c : Nat))) σ Q := by
  have hok : cellsOk (zeros zero (c * size)) = true := by
    rw [← cellsOk_eq] at hc ⊢
    refine List.all_eq_true.2 fun v hv => ?_
    simp only [zeros, List.mem_map, List.mem_range] at hv
    obtain ⟨i, hi, rfl⟩ := hv
    have hlt : i % zero.length < zero.length := Nat.mod_lt _ (by omega)
    rw [List.getD_eq_getElem?_getD, List.getElem?_eq_getElem hlt]
    exact List.all_eq_true.1 hc _ (List.getElem_mem _)
  refine ⟨_, _, ?_, h _ (zeros_len _ _) hok rfl⟩
  simp only [makeSliceA, Int.toNat_natCast]
  rw [if_pos]
  refine ⟨by omega, by omega, ?_, ?_, by rw [cellsOk_eq]; exact hok, hz⟩
  · have : ((bytes : Int) * (c : Int)) = ((bytes * c : Nat) : Int) := by simp
    rw [this]; omega
  · omega
theorem wpA_index {len z : Nat} {cs : Array Value} {k : IntKind} {i : Nat} {v : Value} (hi : i < len) (hv : cs.toList[i * z]? = some v) : wpA (indexA len z none (.agg cs) (.int k (i : Nat))) σ Q ↔ Q v σ := by
  refine wpA_iff ?_
  simp only [indexA, partA, Int.toNat_natCast]
  rw [if_pos ⟨by omega, by omega⟩]
  simp only [hv, liftO]
end
end Go.Proofs.Ytjmafbiklebjcaa.Eng
