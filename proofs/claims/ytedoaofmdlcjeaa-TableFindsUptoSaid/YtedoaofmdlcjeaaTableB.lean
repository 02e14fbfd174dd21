/- A dynamic table, as a list; what its small functions compute. -/
import Derived.Test.YtedoaofmdlcjeaaTable
set_option linter.unusedVariables false
set_option linter.unusedSimpArgs false
namespace Go.Proofs.Ytedoaofmdlcjeaa
open Go.Proofs.Ytedoaofmdlcjeaa.Eng
/-! ### the list -/
def hsize (h : Hd) : Nat := h.name.length + h.value.length + 32
def total (l : List Hd) : Nat := (l.map hsize).sum
theorem total_cons (h : Hd) (l : List Hd) : total (h :: l) = hsize h + total l := by simp [total]
theorem total_app (a b : List Hd) : total (a ++ b) = total a + total b := by simp [total]
theorem total_rev (l : List Hd) : total l.reverse = total l := by
  induction l with
  | nil => rfl
  | cons h l ih => rw [List.reverse_cons, total_app, ih, total_cons]; simp [total]; omega
theorem total_len : ∀ (l : List Hd), 32 * l.length ≤ total l
  | [] => by simp [total]
  | h :: l => by
    have := total_len l
    rw [total_cons, List.length_cons]
    unfold hsize
    omega
/-- The oldest fall, until no more than so many bytes are left. -/
def fallL : List Hd → Int → List Hd
  | [], _ => []
  | h :: l, left => if left < (total (h :: l) : Int) then fallL l left else h :: l
theorem fall_le : ∀ (l : List Hd) (left : Int), total (fallL l left) ≤ total l
  | [], _ => Nat.le_refl _
  | h :: l, left => by
    unfold fallL
    split
    · have := fall_le l left
      rw [total_cons]
      omega
    · exact Nat.le_refl _
theorem fall_ok : ∀ (l : List Hd) (left : Int), 0 ≤ left → (total (fallL l left) : Int) ≤ left
  | [], left, h => by simpa [fallL, total] using h
  | x :: l, left, h => by
    unfold fallL
    split
    · exact fall_ok l left h
    · omega
theorem fall_same : ∀ (l : List Hd) (left : Int), (total l : Int) ≤ left → fallL l left = l
  | [], _, _ => rfl
  | x :: l, left, h => by
    unfold fallL
    rw [if_neg (by omega)]
theorem fall_sub : ∀ (l : List Hd) (left : Int), ∀ x ∈ fallL l left, x ∈ l
  | [], _, x, h => h
  | y :: l, left, x, h => by
    unfold fallL at h
    split at h
    · exact List.mem_cons_of_mem _ (fall_sub l left x h)
    · exact h
def plain (h : Hd) : Hd := { h with secret := false }
theorem plain_size (h : Hd) : hsize (plain h) = hsize h := rfl
def addL (l : List Hd) (most : Nat) (h : Hd) : List Hd := if hsize h ≤ most then fallL l ((most : Int) - hsize h) ++ [plain h] else fallL l ((most : Int) - hsize h)
/-- What holds of a table. -/
structure TOk (l : List Hd) (most : Nat) : Prop where
  le : most ≤ 65536
  bytes : total l ≤ most
  flat : ∀ x ∈ l, x.secret = false
theorem TOk.len {l : List Hd} {most : Nat} (h : TOk l most) : l.length ≤ 2048 := by
  have := total_len l
  have := h.bytes
  have := h.le
  omega
theorem TOk.fall {l : List Hd} {most most' : Nat} (h : TOk l most) (hm : most' ≤ 65536) : TOk (fallL l most') most' :=
  ⟨hm, by have := fall_ok l most' (by omega); omega, fun x hx => h.flat x (fall_sub _ _ x hx)⟩
theorem TOk.add {l : List Hd} {most : Nat} (h : TOk l most) (x : Hd) : TOk (addL l most x) most := by
  refine ⟨h.le, ?_, ?_⟩
  · unfold addL
    split
    · have := fall_ok l ((most : Int) - hsize x) (by omega)
      rw [total_app]
      simp only [total, List.map_cons, List.map_nil, List.sum_cons, List.sum_nil] at *
      rw [plain_size]
      omega
    · have := fall_le l ((most : Int) - hsize x)
      have := h.bytes
      omega
  · unfold addL
    split
    · intro y hy
      rcases List.mem_append.1 hy with hy | hy
      · exact h.flat y (fall_sub _ _ y hy)
      · have : y = plain x := by simpa using hy
        rw [this]; rfl
    · exact fun y hy => h.flat y (fall_sub _ _ y hy)
/-! ### what changes -/
theorem own_still {B : Nat} {σ τ : AW} {v : Value} {e : TypeId} {z n : Nat} {vs : List Value} (h : Own B σ v e z n vs) (hn : σ.next ≤ τ.next) (k : ∀ b, B ≤ b → b < σ.next → τ.get b = σ.get b) : Own B τ v e z n vs := by
  obtain ⟨h1, h | ⟨b, c, ws, h2, hc, h3', h4, h5, h6⟩⟩ := h
  · exact ⟨h1, .inl h⟩
  · exact ⟨h1, .inr ⟨b, c, ws, h2, hc, h3', by omega, by rw [k b h3' h4]; exact h5, h6⟩⟩
/-- But for the table's object and its list's block all is as it was; the list is in that block or in a new one. -/
def Fr (b : Nat) (v v' : Value) (σ τ : AW) : Prop := σ.next ≤ τ.next ∧ (∀ c, c < σ.next → c ≠ b → ¬ InBlk v c → τ.get c = σ.get c) ∧ ∀ c, InBlk v' c → InBlk v c ∨ σ.next ≤ c
theorem Fr.trans {b : Nat} {v v' v'' : Value} {σ τ υ : AW} (h : Fr b v v' σ τ) (k : Fr b v' v'' τ υ) : Fr b v v'' σ υ := by
  refine ⟨Nat.le_trans h.1 k.1, fun c hc hb hv => ?_, fun c hc => ?_⟩
  · have h1 := h.1
    rw [k.2.1 c (by omega) hb fun hv' => ?_, h.2.1 c hc hb hv]
    rcases h.2.2 c hv' with g | g
    · exact hv g
    · omega
  · rcases k.2.2 c hc with g | g
    · exact h.2.2 c g
    · have := h.1
      exact .inr (by omega)
theorem ext_fr {b : Nat} {v : Value} {σ τ : AW} (h : Ext σ τ) : Fr b v v σ τ := ⟨h.1, fun c hc _ _ => h.2 c hc, fun c hc => .inl hc⟩
theorem Fr.kept {b B B' : Nat} {v v' : Value} {e : TypeId} {z n : Nat} {vs : List Value} {σ τ : AW} (h : Fr b v v' σ τ) (o : Own B σ v e z n vs) (hb : B' ≤ b) (hB : B' ≤ B) (hn : B' ≤ σ.next) : Kept B' σ τ := by
  refine ⟨h.1, fun c hc => h.2.1 c (by omega) (by omega) ?_⟩
  rintro ⟨o', s, m, c', hv⟩
  obtain ⟨_, ⟨h1, _⟩ | ⟨b', c', ws, h1, _, h2, _⟩⟩ := o
  · rw [hv] at h1; cases h1
  · rw [hv] at h1; injection h1 with h1; injection h1 with h1; injection h1 with h1; omega
section
variable {σ : AW} {k : Nat} {Q : Value → AW → Prop}
theorem own_from {B i n z : Nat} {e : TypeId} {v : Value} {vs : List Value} {j : IntKind} (h : Own B σ v e z n vs) (hi : i ≤ n) (hq : ∀ s, σ.source z s = some (n - i, vs.drop (i * z)) → Q s σ) : wpA (sliceA z v (some (.int j (i : Nat))) none) σ Q := by
  obtain ⟨hl, ⟨rfl, rfl⟩ | ⟨b, c, ws, rfl, hc, hB, h4, h5, h6, h7⟩⟩ := h
  · have e1 : i = 0 := by omega
    subst e1
    have e2 : vs = [] := List.length_eq_zero_iff.1 (by simpa using hl)
    subst e2
    refine ⟨.slice none 0 0, σ, ?_, hq _ (by simp [AW.source])⟩
    simp [sliceA, bound, need2, ret]
  · refine ⟨.slice (some ⟨b, 0 + i * z, some z⟩) (n - i) (c - i), σ, ?_, hq _ ?_⟩
    · have b2 : bound (some (.int j (i : Nat))) 0 n = some i := by
        simp only [bound]; rw [if_pos ⟨by omega, by omega⟩]; rfl
      have b1 : bound none n c = some n := rfl
      simp only [sliceA, b1, b2, need2]
      rw [if_pos hc, if_pos trivial]; rfl
    · have hm3 : (n - i) * z = n * z - i * z := Nat.sub_mul ..
      have hm2 : i * z ≤ n * z := Nat.mul_le_mul_right z hi
      simp only [AW.source, Nat.zero_add]
      by_cases h0 : n - i = 0
      · have : i = n := by omega
        subst this
        simp [hl]
      · rw [if_neg h0, if_pos trivial]
        simp only [AW.cells, h5]
        rw [if_pos (by omega), ← h7, List.drop_take, ← hm3]
theorem own_copy {B m n z : Nat} {e : TypeId} {v s : Value} {vs us : List Value} (h : Own B σ v e z n vs) (hs : σ.source z s = some (m, us)) (hm : m ≤ n) (hu : us.length = m * z) (hok : us.all isCell = true)
    (hq : ∀ τ, Own B τ v e z n (us ++ vs.drop (m * z)) → (∀ c, ¬ InBlk v c → τ.get c = σ.get c) → τ.next = σ.next → Q (.int .i64 (m : Nat)) τ) : wpA (copyA z v s) σ Q := by
  obtain ⟨hl, ⟨rfl, rfl⟩ | ⟨b, c, ws, rfl, hc, hB, h4, h5, h6, h7⟩⟩ := h
  · have e1 : m = 0 := by omega
    subst e1
    have e2 : us = [] := List.length_eq_zero_iff.1 (by simpa using hu)
    subst e2
    refine ⟨.int .i64 0, σ, ?_, hq σ ⟨by simpa using hl, .inl ⟨rfl, rfl⟩⟩ (fun _ _ => rfl) rfl⟩
    simp [copyA, hs]
  · have hmz : m * z ≤ n * z := Nat.mul_le_mul_right z hm
    have hmin : min m n = m := Nat.min_eq_left hm
    by_cases h0 : m = 0
    · subst h0
      have e2 : us = [] := List.length_eq_zero_iff.1 (by simpa using hu)
      subst e2
      refine ⟨.int .i64 0, σ, ?_, hq σ ⟨by simpa using hl, .inr ⟨b, c, ws, rfl, hc, hB, h4, h5, h6, by simpa using h7⟩⟩ (fun _ _ => rfl) rfl⟩
      simp [copyA, hs]
    · refine ⟨.int .i64 (m : Nat), σ.put b (some (.cells (splice ws 0 us) e false)), ?_, hq _ ⟨?_, .inr ⟨b, c, splice ws 0 us, rfl, hc, hB, by simpa using h4, by simp, ?_, ?_⟩⟩ (fun d hd => ?_) rfl⟩
      · have hst : σ.storeAt b 0 us = some (σ.put b (some (.cells (splice ws 0 us) e false))) := by
          simp only [AW.storeAt, h5]
          rw [if_pos ⟨by omega, hok⟩]
        simp only [copyA, hs]
        rw [if_pos hu, hmin, if_neg h0, if_pos trivial, List.take_of_length_le (by omega), hst]
      · simp [hu, hl]; omega
      · rw [splice_def]; simp [hu]; omega
      · rw [splice_def, hu, ← h7]
        simp only [List.take_zero, List.nil_append, Nat.zero_add]
        rw [List.take_append, hu, List.take_of_length_le (by omega), List.drop_take]
      · rw [AW.get_put, if_neg]
        rintro rfl
        exact hd ⟨_, _, _, _, rfl⟩
theorem own_prefix {B m n z : Nat} {e : TypeId} {v : Value} {vs : List Value} {j : IntKind} (h : Own B σ v e z n vs) (hm : m ≤ n) (hq : ∀ v', Own B σ v' e z m (vs.take (m * z)) → (∀ c, InBlk v' c → InBlk v c) → Q v' σ) : wpA (sliceA z v none (some (.int j (m : Nat)))) σ Q := by
  obtain ⟨hl, ⟨rfl, rfl⟩ | ⟨b, c, ws, rfl, hc, hB, h4, h5, h6, h7⟩⟩ := h
  · have e1 : m = 0 := by omega
    subst e1
    refine ⟨.slice none 0 0, σ, ?_, hq _ ⟨by simp, .inl ⟨rfl, rfl⟩⟩ fun _ h => h⟩
    simp [sliceA, bound, need2, ret]
  · have hmz : m * z ≤ n * z := Nat.mul_le_mul_right z hm
    refine ⟨.slice (some ⟨b, 0 + 0 * z, some z⟩) (m - 0) (c - 0), σ, ?_, hq _ ⟨?_, .inr ⟨b, c, ws, by simp, by omega, hB, h4, h5, by omega, ?_⟩⟩ ?_⟩
    · have b2 : bound (some (.int j (m : Nat))) n c = some m := by
        simp only [bound]; rw [if_pos ⟨by omega, by omega⟩]; rfl
      have b1 : bound none 0 m = some 0 := rfl
      simp only [sliceA, b1, b2, need2]
      rw [if_pos (by omega), if_pos trivial]; rfl
    · rw [List.length_take]; omega
    · rw [← h7, List.take_take, Nat.min_eq_left hmz]
    · rintro c' ⟨o, s, n', cc, he⟩
      injection he with he; injection he with he; injection he with he
      subst he
      exact ⟨_, _, _, _, rfl⟩
end
/-! ### small ones -/
theorem und35 : undP Try.prog 35 isPtrT = true := undP_of Try.underlying35
theorem und49 : undP Try.prog 49 isPtrT = true := undP_of Try.underlying49
theorem und4' : undP Try.prog 4 isBoolT = true := undP_of Try.underlying4
section
variable {σ : AW} {k : Nat} {Q : Value → AW → Prop}
theorem none_iff {b : Nat} {v m n : Value} (hb : σ.get b = some (.cells [.bool true, v, m, n] 59 false)) (hk : 1 ≤ k) : wpA (callN Try.prog k 28 [ptr b]) σ Q ↔ Q (.bool false) σ := by
  rw [callN_at hk, R28.eq]
  simp [R28.g_9, R28.top, und35, hb, eqPtrU]
theorem may_iff {m : Int} (hk : 1 ≤ k) : wpA (callN Try.prog k 27 [.int .i64 m]) σ Q ↔ Q (.bool (decide (0 ≤ m ∧ m ≤ 65536))) σ := by
  rw [callN_at hk, R27.eq]
  by_cases h1 : 0 ≤ m
  · by_cases h2 : m ≤ 65536 <;> simp [R27.g_9, R27.top, h1, h2]
  · simp [R27.g_9, R27.top, h1]
theorem copy_str {b n : Nat} {l : List UInt8} {vs : List Value} (hb : σ.get b = some (.cells vs 5 false)) (hv : vs.length = n) (hn : n = l.length) (h0 : 0 < n) : wpA (copyA 1 (.slice (some ⟨b, 0, some 1⟩) n n) (Tx l)) σ Q ↔ Q (.int .i64 (n : Nat)) (σ.put b (some (.cells (l.map Bt) 5 false))) := by
  refine wpA_iff ?_
  subst hn
  have hsrc : σ.source 1 (Tx l) = some (l.length, l.map Bt) := by
    have e : ((⟨l.toArray⟩ : ByteArray).data.toList.map fun b : UInt8 => Value.int .u8 b.toNat) = l.map Bt := by simp [Bt]
    show some (_, _) = _
    rw [← e]
    rfl
  have hst : σ.storeAt b 0 (l.map Bt) = some (σ.put b (some (.cells (l.map Bt) 5 false))) := by
    have hok := Bt_cell l
    rw [← cellsOk_eq] at hok
    simp only [AW.storeAt, hb]
    simp only [hok, splice_whole (vs := vs) (new := l.map Bt) (by simp [hv])]
    simp [hv]
  simp only [copyA, hsrc]
  simp [h0, hst]
  have hne : ¬ l = [] := fun e => by rw [e] at h0; simp at h0
  rw [if_neg hne, List.take_of_length_le (by simp), hst]
theorem bytesStr_iff {b n : Nat} {l : List UInt8} (hb : σ.get b = some (.cells (l.map Bt) 5 false)) (hn : n = l.length) (h0 : 0 < n) (h40 : n ≤ 2 ^ 40) : wpA (bytesStrA 5 (.pointer (some ⟨b, 0, none⟩)) (.int .i64 (n : Nat))) σ Q ↔ Q (Tx l) (σ.put b none) := by
  refine wpA_iff ?_
  subst hn
  have h1 : 0 < (l.length : Int) ∧ (l.length : Int) ≤ 281474976710656 := by omega
  simp only [bytesStrA, hb]
  rw [if_pos h1]
  simp [ofBytes_Bt, List.take_of_length_le]
  rfl
theorem clone_spec {l : List UInt8} (hl : l.length ≤ 2 ^ 40) (hk : 2 ≤ k) : wpA (callN Try.prog k 29 [Tx l]) σ fun v τ => Ext σ τ ∧ v = Tx l := by
  rw [callN_at (by omega), R29.eq]
  generalize hk1 : k - 1 = k1
  simp [R29.top]
  rw [callN_at (by omega), R38.eq]
  by_cases h0 : l.length = 0
  · have : l = [] := List.length_eq_zero_iff.1 h0
    subst this
    simp [R38.top, lenStr_iff]
    exact ⟨Ext.refl _, rfl⟩
  · have h0' : ¬ (l.length : Int) = 0 := by omega
    have hne : ¬ l = [] := fun e => h0 (by rw [e]; rfl)
    simp [R38.top, lenStr_iff, h0, h0', hne]
    refine aw_makeSlice (l := l.length) (c := l.length) (by omega) (by omega) (by omega) rfl rfl (by omega) fun vs hl' hok _ => ?_
    simp only [Nat.mul_one] at hl'
    rw [copy_str (by simp) hl' rfl (by omega)]
    simp [hne]
    refine ⟨by omega, ?_⟩
    rw [bytesStr_iff (by simp) rfl (by omega) hl]
    exact ⟨((((Ext.push σ (.cells vs 5 false)).kept (Nat.le_refl _)).put (Nat.le_refl _) _).put (Nat.le_refl _) _), rfl⟩
end
end Go.Proofs.Ytedoaofmdlcjeaa
