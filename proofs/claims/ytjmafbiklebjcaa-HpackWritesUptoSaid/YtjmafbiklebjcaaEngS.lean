/- Slices: what is only read, what is one's own. -/
import Derived.Test.YtjmafbiklebjcaaEngR
set_option linter.unusedVariables false
set_option linter.unusedSimpArgs false
namespace Go.Proofs.Ytjmafbiklebjcaa.Eng

/-- All that was there is there still. -/
def Ext (σ τ : AW) : Prop := σ.next ≤ τ.next ∧ ∀ b, b < σ.next → τ.get b = σ.get b
theorem Ext.refl (σ : AW) : Ext σ σ := ⟨Nat.le_refl _, fun _ _ => rfl⟩
theorem Ext.trans {σ τ υ : AW} (h : Ext σ τ) (k : Ext τ υ) : Ext σ υ := ⟨Nat.le_trans h.1 k.1, fun b hb => (k.2 b (Nat.lt_of_lt_of_le hb h.1)).trans (h.2 b hb)⟩
theorem Ext.push (σ : AW) (o : AObj) : Ext σ (σ.push o) := ⟨by simp, fun b hb => by rw [AW.get_push, if_neg (by omega)]⟩
/-- Below that number. -/
def Kept (B : Nat) (σ τ : AW) : Prop := σ.next ≤ τ.next ∧ ∀ b, b < B → τ.get b = σ.get b
theorem Kept.refl (B : Nat) (σ : AW) : Kept B σ σ := ⟨Nat.le_refl _, fun _ _ => rfl⟩
theorem Kept.trans {B : Nat} {σ τ υ : AW} (h : Kept B σ τ) (k : Kept B τ υ) : Kept B σ υ := ⟨Nat.le_trans h.1 k.1, fun b hb => (k.2 b hb).trans (h.2 b hb)⟩
theorem Ext.kept {σ τ : AW} (h : Ext σ τ) {B : Nat} (hB : B ≤ σ.next) : Kept B σ τ := ⟨h.1, fun b hb => h.2 b (by omega)⟩
theorem Kept.ext {σ τ : AW} (h : Kept σ.next σ τ) : Ext σ τ := h
theorem Kept.mono {B B' : Nat} {σ τ : AW} (h : Kept B σ τ) (k : B' ≤ B) : Kept B' σ τ := ⟨h.1, fun b hb => h.2 b (by omega)⟩
theorem Kept.push {B : Nat} {σ τ : AW} (h : Kept B σ τ) (hB : B ≤ τ.next) (o : AObj) : Kept B σ (τ.push o) := h.trans ((Ext.push τ o).kept hB)
theorem Kept.put {B : Nat} {σ τ : AW} (h : Kept B σ τ) {b : Nat} (hb : B ≤ b) (o : Option AObj) : Kept B σ (τ.put b o) := ⟨by simpa using h.1, fun c hc => by rw [AW.get_put, if_neg (by omega)]; exact h.2 c hc⟩

/-- A slice of n elements of z cells each. -/
def Sl (σ : AW) (v : Value) (z n : Nat) (vs : List Value) : Prop :=
  vs.length = n * z ∧ ((v = .slice none 0 0 ∧ n = 0) ∨
    ∃ b o c ws e ro, v = .slice (some ⟨b, o, some z⟩) n c ∧ n ≤ c ∧ b < σ.next ∧ (n = 0 ∨ (σ.get b = some (.cells ws e ro) ∧ o + n * z ≤ ws.length ∧ (ws.drop o).take (n * z) = vs)))
theorem Sl.ext {σ τ : AW} {v : Value} {z n : Nat} {vs : List Value} (h : Sl σ v z n vs) (k : Ext σ τ) : Sl τ v z n vs := by
  obtain ⟨h1, h | ⟨b, o, c, ws, e, ro, h2, hc, h3, h4⟩⟩ := h
  · exact ⟨h1, .inl h⟩
  · refine ⟨h1, .inr ⟨b, o, c, ws, e, ro, h2, hc, Nat.lt_of_lt_of_le h3 k.1, ?_⟩⟩
    rcases h4 with h4 | h4
    · exact .inl h4
    · exact .inr ⟨by rw [k.2 b h3]; exact h4.1, h4.2⟩
theorem Sl.kept {B : Nat} {σ τ : AW} {v : Value} {z n : Nat} {vs : List Value} (h : Sl σ v z n vs) (hB : σ.next ≤ B) (k : Kept B σ τ) : Sl τ v z n vs := h.ext ⟨k.1, fun b hb => k.2 b (by omega)⟩
theorem Sl.form {σ : AW} {v : Value} {z n : Nat} {vs : List Value} (h : Sl σ v z n vs) : ∃ a c, v = .slice a n c := by
  obtain ⟨_, ⟨h, rfl⟩ | ⟨b, o, c, _, _, _, h, _⟩⟩ := h
  · exact ⟨_, _, h⟩
  · exact ⟨_, _, h⟩
theorem aw_lenSl {σ : AW} {v : Value} {z n : Nat} {vs : List Value} {Q : Value → AW → Prop} (h : Sl σ v z n vs) (k : Q (.int .i64 n) σ) : wpA (lenA v) σ Q := by
  obtain ⟨a, c, rfl⟩ := h.form
  exact aw_len k
theorem aw_indexSl {σ : AW} {v : Value} {z n : Nat} {vs : List Value} {Q : Value → AW → Prop} {k : IntKind} {i : Int} (h : Sl σ v z n vs) (h0 : 0 ≤ i) (h1 : i < (n : Int))
    (hq : ∀ b o ws e ro, σ.get b = some (.cells ws e ro) → b < σ.next → o + z ≤ ws.length → (∀ j, j < z → ws[o + j]? = vs[i.toNat * z + j]?) → Q (.pointer (some ⟨b, o, none⟩)) σ) : wpA (indexAddrA z v (.int k i)) σ Q := by
  obtain ⟨hl, ⟨h, hn⟩ | ⟨b, o, c, ws, e, ro, rfl, hc, h3, h4⟩⟩ := h
  · omega
  · refine aw_indexAddr h0 h1 rfl ?_
    rcases h4 with h4 | ⟨h4, h5, h6⟩
    · omega
    · have hi : i.toNat < n := by omega
      have hb : (i.toNat + 1) * z ≤ n * z := Nat.mul_le_mul_right z hi
      rw [Nat.add_mul] at hb
      refine hq b (o + i.toNat * z) ws e ro h4 h3 (by omega) fun j hj => ?_
      rw [← h6, List.getElem?_take_of_lt (by omega), List.getElem?_drop]
      congr 1
      omega

/-- A slice of one's own. -/
def Own (B : Nat) (σ : AW) (v : Value) (e : TypeId) (z n : Nat) (vs : List Value) : Prop :=
  vs.length = n * z ∧ ((v = .slice none 0 0 ∧ n = 0) ∨
    ∃ b c ws, v = .slice (some ⟨b, 0, some z⟩) n c ∧ n ≤ c ∧ B ≤ b ∧ b < σ.next ∧ σ.get b = some (.cells ws e false) ∧ n * z ≤ ws.length ∧ ws.take (n * z) = vs)
theorem Own.nil (B : Nat) (σ : AW) (e : TypeId) (z : Nat) : Own B σ (.slice none 0 0) e z 0 [] := ⟨by simp, .inl ⟨rfl, rfl⟩⟩
theorem Own.sl {B : Nat} {σ : AW} {v : Value} {e : TypeId} {z n : Nat} {vs : List Value} (h : Own B σ v e z n vs) : Sl σ v z n vs := by
  obtain ⟨h1, h | ⟨b, c, ws, h2, hc, _, h4, h5, h6, h7⟩⟩ := h
  · exact ⟨h1, .inl h⟩
  · exact ⟨h1, .inr ⟨b, 0, c, ws, e, false, h2, hc, h4, .inr ⟨h5, by omega, by simpa using h7⟩⟩⟩
theorem Own.ext {B : Nat} {σ τ : AW} {v : Value} {e : TypeId} {z n : Nat} {vs : List Value} (h : Own B σ v e z n vs) (k : Ext σ τ) : Own B τ v e z n vs := by
  obtain ⟨h1, h | ⟨b, c, ws, h2, h3, h3', h4, h5, h6⟩⟩ := h
  · exact ⟨h1, .inl h⟩
  · exact ⟨h1, .inr ⟨b, c, ws, h2, h3, h3', Nat.lt_of_lt_of_le h4 k.1, by rw [k.2 b h4]; exact h5, h6⟩⟩
theorem Own.mono {B B' : Nat} {σ : AW} {v : Value} {e : TypeId} {z n : Nat} {vs : List Value} (h : Own B σ v e z n vs) (k : B' ≤ B) : Own B' σ v e z n vs := by
  obtain ⟨h1, h | ⟨b, c, ws, h2, h3, h3', h4⟩⟩ := h
  · exact ⟨h1, .inl h⟩
  · exact ⟨h1, .inr ⟨b, c, ws, h2, h3, by omega, h4⟩⟩
/-- In that block. -/
def InBlk (v : Value) (b : Nat) : Prop := ∃ o s n c, v = .slice (some ⟨b, o, s⟩) n c
/-- All but the block of that slice. -/
def ExtBut (v : Value) (σ τ : AW) : Prop := σ.next ≤ τ.next ∧ ∀ b, b < σ.next → ¬ InBlk v b → τ.get b = σ.get b
theorem ExtBut.kept {B : Nat} {v : Value} {e : TypeId} {z n : Nat} {vs : List Value} {σ τ : AW} (h : ExtBut v σ τ) (k : Own B σ v e z n vs) (hB : B ≤ σ.next) : Kept B σ τ := by
  refine ⟨h.1, fun b hb => h.2 b (by omega) ?_⟩
  rintro ⟨o, s, m, c, hv⟩
  obtain ⟨_, ⟨h1, _⟩ | ⟨b', c', ws, h1, _, h2, _⟩⟩ := k
  · rw [h1] at hv; injection hv with hv; cases hv
  · rw [h1] at hv; injection hv with hv; injection hv with hv; injection hv with hv; omega
theorem source_sl {σ : AW} {x : Value} {z m : Nat} {us : List Value} (h : Sl σ x z m us) (hm : 0 < m) : σ.source z x = some (m, us) := by
  obtain ⟨hl, ⟨_, h⟩ | ⟨b, o, c, ws, e, ro, rfl, hc, h3, h4⟩⟩ := h
  · omega
  · rcases h4 with h4 | ⟨h4, h5, h6⟩
    · omega
    · have : σ.cells b o (m * z) = some us := by simp only [AW.cells, h4]; rw [if_pos h5, h6]
      have hm0 : ¬ m = 0 := by omega
      simp only [AW.source, if_true, this, if_neg hm0]

theorem aw_append {B : Nat} {σ : AW} {e : TypeId} {z bytes n m : Nat} {s x : Value} {vs us : List Value} {Q : Value → AW → Prop} (hs : Own B σ s e z n vs) (hx : Sl σ x z m us) (hm : 0 < m) (hc : us.all isCell = true) (hb : 0 < bytes) (hroom : (n + m) * bytes ≤ 2 ^ 47) (hB : B ≤ σ.next)
    (h : ∀ v τ, Own B τ v e z (n + m) (vs ++ us) → ExtBut s σ τ → InBlk v σ.next → τ.next = σ.next + 1 → Q v τ) : wpA (appendA e z bytes s x) σ Q := by
  have hsrc := source_sl hx hm
  have hl := hx.1
  have hm0 : m ≠ 0 := by omega
  obtain ⟨h1, ⟨rfl, rfl⟩ | ⟨b, c, ws, rfl, h3, h3', h4, h5, h6, h7⟩⟩ := hs
  · have hvs : vs = [] := by simpa using h1
    subst hvs
    refine ⟨.slice (some ⟨σ.next, 0, some z⟩) m m, σ.push (.cells us e false), ?_, h _ _ ⟨?_, .inr ⟨σ.next, m, us, by simp, by omega, hB, by simp, ?_, by simp [hl], by simp [← hl]⟩⟩ ⟨by simp, fun b hb' _ => (Ext.push σ _).2 b hb'⟩ ⟨_, _, _, _, rfl⟩ rfl⟩
    · simp only [appendA, hsrc]
      rw [if_pos hl, if_neg hm0, if_pos ⟨hb, hc⟩, if_pos ⟨trivial, trivial, by simpa using hroom⟩]
    · simp [hl]
    · rw [AW.get_push, if_pos rfl]
  · refine ⟨.slice (some ⟨σ.next, 0, some z⟩) (n + m) (n + m), (σ.put b none).push (.cells ((ws.drop 0).take (n * z) ++ us) e false), ?_, h _ _ ⟨?_, .inr ⟨σ.next, n + m, vs ++ us, rfl, by omega, hB, by simp, ?_, ?_, ?_⟩⟩ ⟨by simp, fun b' hb' hnb => ?_⟩ ⟨_, _, _, _, rfl⟩ rfl⟩
    · simp only [appendA, hsrc, h5]
      rw [if_pos hl, if_neg hm0, if_pos ⟨hb, hc⟩, if_pos ⟨trivial, trivial, hroom, by omega⟩]
    · simp [h1, hl, Nat.add_mul]
    · rw [AW.get_push]
      simp [h7]
    · simp [h1, hl, Nat.add_mul]
    · rw [List.take_of_length_le (by simp [h1, hl, Nat.add_mul])]
    · rw [AW.get_push, AW.get_put, if_neg (by simp; omega), if_neg]
      rintro rfl
      exact hnb ⟨0, some z, n, c, rfl⟩
/-- A slice of few elements, and then it is appended. -/
theorem aw_push1 {B : Nat} {σ : AW} {e : TypeId} {z bytes n : Nat} {s : Value} {zero vs us : List Value} {parts : List (Nat × Value)} {K : Value → AM Value} {Q : Value → AW → Prop} (hs : Own B σ s e z n vs)
    (hf : fillA (fun i => some (i * z, z)) (zeros zero (1 * z)) parts = some us) (hz : zero.length = z) (hzs : 1 * z ≤ 2 ^ 24) (hu : us.length = z) (hc : us.all isCell = true) (hb : 0 < bytes) (hroom : (n + 1) * bytes ≤ 2 ^ 47) (hB : B ≤ σ.next)
    (h : ∀ v τ, Own B τ v e z (n + 1) (vs ++ us) → ExtBut s σ τ → wpA (K v) τ Q) : wpA (bindV (buildSliceA e z 1 zero parts) fun x => bindV (appendA e z bytes s x) K) σ Q := by
  refine aw_bindV (aw_buildSlice hf hzs hc hz (aw_bindV ?_))
  refine aw_append (hs.ext (Ext.push σ _)) (m := 1) (us := us) ⟨by simp [hu], .inr ⟨σ.next, 0, 1, us, e, false, rfl, Nat.le_refl _, by simp, .inr ⟨by rw [AW.get_push, if_pos rfl], by simp [hu], by simp [← hu]⟩⟩⟩ (by omega) hc hb hroom (by simp; omega) fun v τ h1 h2 h3 h4 => h v τ h1 ?_
  exact ⟨by rw [h4]; simp; omega, fun b hb' hn => by rw [h2.2 b (by simp; omega) hn]; exact (Ext.push σ _).2 b hb'⟩

/-- A part of a slice. -/
theorem aw_slice {σ : AW} {v : Value} {z n lo hi : Nat} {vs : List Value} {Q : Value → AW → Prop} {lo' hi' : Option Value} (h : Sl σ v z n vs) (hlo : lo' = none ∧ lo = 0 ∨ ∃ k, lo' = some (.int k lo)) (hhi : hi' = none ∧ hi = n ∨ ∃ k, hi' = some (.int k hi)) (h1 : lo ≤ hi) (h2 : hi ≤ n)
    (hq : ∀ w, Sl σ w z (hi - lo) ((vs.drop (lo * z)).take ((hi - lo) * z)) → Q w σ) : wpA (sliceA z v lo' hi') σ Q := by
  have hlen : ((vs.drop (lo * z)).take ((hi - lo) * z)).length = (hi - lo) * z := by
    have := h.1
    have hm : hi * z ≤ n * z := Nat.mul_le_mul_right z h2
    have hm2 : lo * z ≤ hi * z := Nat.mul_le_mul_right z h1
    have hm3 : (hi - lo) * z = hi * z - lo * z := Nat.sub_mul ..
    rw [List.length_take, List.length_drop]
    omega
  obtain ⟨hl, ⟨rfl, rfl⟩ | ⟨b, o, c, ws, e, ro, rfl, hc, h3, h4⟩⟩ := h
  · have e1 : hi = 0 := by omega
    have e2 : lo = 0 := by omega
    subst e1; subst e2
    have b1 : bound hi' 0 0 = some 0 := by rcases hhi with ⟨rfl, _⟩ | ⟨k, rfl⟩ <;> simp [bound]
    have b2 : bound lo' 0 0 = some 0 := by rcases hlo with ⟨rfl, _⟩ | ⟨k, rfl⟩ <;> simp [bound]
    refine ⟨.slice none 0 0, σ, ?_, hq _ ⟨hlen, .inl ⟨rfl, rfl⟩⟩⟩
    simp [sliceA, b1, b2, need2, ret]
  · have b1 : bound hi' n c = some hi := by
      rcases hhi with ⟨rfl, rfl⟩ | ⟨k, rfl⟩
      · rfl
      · simp only [bound]; rw [if_pos ⟨by omega, by omega⟩]; rfl
    have b2 : bound lo' 0 hi = some lo := by
      rcases hlo with ⟨rfl, rfl⟩ | ⟨k, rfl⟩
      · rfl
      · simp only [bound]; rw [if_pos ⟨by omega, by omega⟩]; rfl
    refine ⟨.slice (some ⟨b, o + lo * z, some z⟩) (hi - lo) (c - lo), σ, ?_, hq _ ⟨hlen, .inr ⟨b, o + lo * z, c - lo, ws, e, ro, rfl, by omega, h3, ?_⟩⟩⟩
    · simp only [sliceA, b1, b2, need2]
      rw [if_pos (by omega), if_pos trivial]; rfl
    · rcases h4 with h4 | ⟨h4, h5, h6⟩
      · exact .inl (by omega)
      · have hm : hi * z ≤ n * z := Nat.mul_le_mul_right z h2
        have hm2 : lo * z ≤ hi * z := Nat.mul_le_mul_right z h1
        have hm3 : (hi - lo) * z = hi * z - lo * z := Nat.sub_mul ..
        refine .inr ⟨h4, by omega, ?_⟩
        rw [← h6, List.drop_take, List.drop_drop, List.take_take]
        congr 1
        omega
theorem getElem?_flatMap {α : Type} {f : α → List Value} {z : Nat} (hf : ∀ a, (f a).length = z) : ∀ (l : List α) (i j : Nat), j < z → (l.flatMap f)[i * z + j]? = (l[i]?).bind fun a => (f a)[j]?
  | [], i, j, _ => by simp
  | a :: l, 0, j, hj => by
    simp only [List.flatMap_cons, Nat.zero_mul, Nat.zero_add, List.getElem?_cons_zero, Option.bind_some]
    rw [List.getElem?_append_left (by rw [hf]; exact hj)]
  | a :: l, i + 1, j, hj => by
    simp only [List.flatMap_cons, List.getElem?_cons_succ]
    rw [List.getElem?_append_right (by rw [hf, Nat.add_mul]; omega), hf, ← getElem?_flatMap hf l i j hj]
    congr 1
    rw [Nat.add_mul]
    omega
theorem length_flatMap {α : Type} {f : α → List Value} {z : Nat} (hf : ∀ a, (f a).length = z) : ∀ (l : List α), (l.flatMap f).length = l.length * z
  | [] => by simp
  | a :: l => by simp only [List.flatMap_cons, List.length_append, hf, length_flatMap hf l, List.length_cons, Nat.add_mul]; omega

theorem take_flatMap {α : Type} {f : α → List Value} {z : Nat} (hf : ∀ a, (f a).length = z) : ∀ (l : List α) (m : Nat), (l.flatMap f).take (m * z) = (l.take m).flatMap f
  | [], m => by simp
  | a :: l, 0 => by simp
  | a :: l, m + 1 => by
    simp only [List.flatMap_cons, List.take_succ_cons]
    rw [List.take_append, hf, List.take_of_length_le (by rw [hf, Nat.add_mul]; omega), ← take_flatMap hf l m]
    congr 2
    rw [Nat.add_mul]; omega
theorem drop_flatMap {α : Type} {f : α → List Value} {z : Nat} (hf : ∀ a, (f a).length = z) : ∀ (l : List α) (m : Nat), (l.flatMap f).drop (m * z) = (l.drop m).flatMap f
  | [], m => by simp
  | a :: l, 0 => by simp
  | a :: l, m + 1 => by
    simp only [List.flatMap_cons, List.drop_succ_cons]
    rw [List.drop_append, hf, List.drop_of_length_le (by rw [hf, Nat.add_mul]; omega), ← drop_flatMap hf l m, List.nil_append]
    congr 1
    rw [Nat.add_mul]; omega

/-! ### what is laid -/
variable {P : Program} {H : Type}
theorem layAll_flat {α : Type} {f : DataW H → AW → Option (List Value × AW)} {cs : α → List Value} (hf : ∀ d σ vs τ, f d σ = some (vs, τ) → τ = σ ∧ ∃ a, vs = cs a) : ∀ (ds : List (DataW H)) (σ : AW) (vs : List Value) (τ : AW), layAll f ds σ = some (vs, τ) → τ = σ ∧ ∃ l : List α, vs = l.flatMap cs ∧ l.length = ds.length
  | [], σ, vs, τ, h => by
    simp only [layAll, Option.some.injEq, Prod.mk.injEq] at h
    obtain ⟨rfl, rfl⟩ := h
    exact ⟨rfl, [], rfl, rfl⟩
  | d :: ds, σ, vs, τ, h => by
    unfold layAll at h
    split at h
    · cases h
    · rename_i us σ' h1
      split at h
      · cases h
      · rename_i ws σ'' h2
        simp only [Option.some.injEq, Prod.mk.injEq] at h
        obtain ⟨rfl, rfl⟩ := h
        obtain ⟨rfl, a, rfl⟩ := hf _ _ _ _ h1
        obtain ⟨rfl, l, rfl, hl⟩ := layAll_flat hf ds _ _ _ h2
        exact ⟨rfl, a :: l, by simp, by simp [hl]⟩
/-- A slice of flat elements, as it is laid. -/
theorem lay_slice {α : Type} {cs : α → List Value} {z n : Nat} {t e : TypeId} {d : DataW H} {σ τ : AW} {vs : List Value} (ht : P.underlying t = some (.slice e)) (hz : P.cellsOf e = z) (hcs : ∀ a, (cs a).length = z)
    (hf : ∀ (m : Nat) (d : DataW H) (σ : AW) (vs : List Value) (τ : AW), lay P m e d σ = some (vs, τ) → τ = σ ∧ ∃ a, vs = cs a) (h : lay P n t d σ = some (vs, τ)) :
    Ext σ τ ∧ ∃ (l : List α) (v : Value), vs = [v] ∧ Sl τ v z l.length (l.flatMap cs) ∧ ((d = .nil ∧ l = []) ∨ ∃ elems spare, d = .slice elems spare ∧ elems.length = l.length) ∧ l.length ≤ maxLen := by
  cases n with
  | zero => simp [lay] at h
  | succ n =>
    unfold lay at h
    rw [ht] at h
    split at h <;> try (simp at *; done)
    · simp only [Option.some.injEq, Prod.mk.injEq] at h
      obtain ⟨rfl, rfl⟩ := h
      exact ⟨Ext.refl _, [], _, rfl, ⟨by simp, .inl ⟨rfl, rfl⟩⟩, .inl ⟨rfl, rfl⟩, by simp⟩
    · rename_i e' elems spare he
      injection he with he
      injection he with he
      subst he
      split at h
      · cases h
      · rename_i us υ h1
        obtain ⟨rfl, l, rfl, hl⟩ := layAll_flat (hf n) _ _ _ _ h1
        split at h
        · cases h
        rename_i hml
        split at h
        · rename_i hemp
          simp only [Option.some.injEq, Prod.mk.injEq] at h
          obtain ⟨rfl, rfl⟩ := h
          have : elems = [] := by simpa using hemp
          subst this
          have hl0 : l = [] := by simpa using hl
          subst hl0
          refine ⟨⟨by simp, fun b _ => rfl⟩, [], _, rfl, ⟨by simp, .inr ⟨υ.next, 0, 0, [], 0, false, by simp [hz], Nat.le_refl _, by simp, .inl rfl⟩⟩, .inr ⟨[], spare, rfl, rfl⟩, by simp⟩
        · simp only [Option.some.injEq, Prod.mk.injEq] at h
          obtain ⟨rfl, rfl⟩ := h
          have hlen := length_flatMap hcs l
          refine ⟨Ext.push _ _, l, _, rfl, ⟨hlen, .inr ⟨υ.next, 0, elems.length, l.flatMap cs, e, true, by simp [hz, hl], by omega, by simp, .inr ⟨by rw [AW.get_push, if_pos rfl], by omega, by rw [List.drop_zero, List.take_of_length_le (by omega)]⟩⟩⟩, .inr ⟨elems, spare, rfl, hl.symm⟩, by omega⟩
end Go.Proofs.Ytjmafbiklebjcaa.Eng
