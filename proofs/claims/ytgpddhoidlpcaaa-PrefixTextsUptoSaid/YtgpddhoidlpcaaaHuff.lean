/- Plain laws of what Huff computes: the codes. -/
import Derived.Test.YtgpddhoidlpcaaaRes03
import Derived.Test.YtgpddhoidlpcaaaEngY
set_option linter.unusedVariables false
set_option linter.unusedSimpArgs false
namespace Go.Proofs.Ytgpddhoidlpcaaa
open Go.Proofs.Ytgpddhoidlpcaaa.Eng
/-- How many bits, and whose codes have so many. -/
def G : List (Nat × List Nat) := [(5, [48, 49, 50, 97, 99, 101, 105, 111, 115, 116]),
  (6, [32, 37, 45, 46, 47, 51, 52, 53, 54, 55, 56, 57, 61, 65, 95, 98, 100, 102, 103, 104, 108, 109, 110, 112, 114, 117]),
  (7, [58, 66, 67, 68, 69, 70, 71, 72, 73, 74, 75, 76, 77, 78, 79, 80, 81, 82, 83, 84, 85, 86, 87, 89, 106, 107, 113, 118, 119, 120, 121, 122]),
  (8, [38, 42, 44, 59, 88, 90]),
  (10, [33, 34, 40, 41, 63]),
  (11, [39, 43, 124]),
  (12, [35, 62]),
  (13, [0, 36, 64, 91, 93, 126]),
  (14, [94, 125]),
  (15, [60, 96, 123]),
  (19, [92, 195, 208]),
  (20, [128, 130, 131, 162, 184, 194, 224, 226]),
  (21, [153, 161, 167, 172, 176, 177, 179, 209, 216, 217, 227, 229, 230]),
  (22, [129, 132, 133, 134, 136, 146, 154, 156, 160, 163, 164, 169, 170, 173, 178, 181, 185, 186, 187, 189, 190, 196, 198, 228, 232, 233]),
  (23, [1, 135, 137, 138, 139, 140, 141, 143, 147, 149, 150, 151, 152, 155, 157, 158, 165, 166, 168, 174, 175, 180, 182, 183, 188, 191, 197, 231, 239]),
  (24, [9, 142, 144, 145, 148, 159, 171, 206, 215, 225, 236, 237]),
  (25, [199, 207, 234, 235]),
  (26, [192, 193, 200, 201, 202, 205, 210, 213, 218, 219, 238, 240, 242, 243, 255]),
  (27, [203, 204, 211, 212, 214, 221, 222, 223, 241, 244, 245, 246, 247, 248, 250, 251, 252, 253, 254]),
  (28, [2, 3, 4, 5, 6, 7, 8, 11, 12, 14, 15, 16, 17, 18, 19, 20, 21, 23, 24, 25, 26, 27, 28, 29, 30, 31, 127, 220, 249]),
  (30, [10, 13, 22, 256])]
structure Rw where
  bits : Nat
  s : Value
def Rw.cs (r : Rw) : List Value := [.int .i64 r.bits, r.s]
theorem Rw.len (r : Rw) : r.cs.length = 2 := rfl
def U16 (a : Nat) : Value := .int .u16 a
def I64 (a : Nat) : Value := .int .i64 a
/-- The groups as they lie in memory, all of it from block B on. -/
def GOk (B : Nat) (τ : AW) (v : Value) (f : Nat → Value) (e e2 : TypeId) (rows : List Rw) : Prop :=
  rows.length = 21 ∧ Own B τ v e2 2 21 (rows.flatMap Rw.cs) ∧ ∀ (j : Nat) (g : Nat × List Nat), G[j]? = some g → ∃ s, rows[j]? = some ⟨g.1, s⟩ ∧ Own B τ s e 1 g.2.length (g.2.map f)
/-- From B to C all is as it was. -/
theorem own_still {B : Nat} {σ τ : AW} {v : Value} {e : TypeId} {z n : Nat} {vs : List Value} (h : Own B σ v e z n vs) (hn : σ.next ≤ τ.next) (k : ∀ b, B ≤ b → b < σ.next → τ.get b = σ.get b) : Own B τ v e z n vs := by
  obtain ⟨h1, h | ⟨b, c, ws, h2, hc, h3', h4, h5, h6⟩⟩ := h
  · exact ⟨h1, .inl h⟩
  · exact ⟨h1, .inr ⟨b, c, ws, h2, hc, h3', by omega, by rw [k b h3' h4]; exact h5, h6⟩⟩
theorem gok_still {B : Nat} {σ τ : AW} {v : Value} {f : Nat → Value} {e e2 : TypeId} {rows : List Rw} (h : GOk B σ v f e e2 rows) (hn : σ.next ≤ τ.next) (k : ∀ b, B ≤ b → b < σ.next → τ.get b = σ.get b) : GOk B τ v f e e2 rows := by
  refine ⟨h.1, own_still h.2.1 hn k, fun j g hg => ?_⟩
  obtain ⟨s, h1, h2⟩ := h.2.2 j g hg
  exact ⟨s, h1, own_still h2 hn k⟩
theorem one_cells {f : Nat → Value} (hf : ∀ a, (f a).cells = #[f a] ∧ isCell (f a) = true) (l : List Nat) : ∀ v ∈ l.map f, v.cells = #[v] ∧ isCell v = true := by
  intro v hv
  obtain ⟨a, _, rfl⟩ := List.mem_map.1 hv
  exact hf a
theorem fill_aggs {z : Nat} : ∀ (us : List (List Value)) (pre rest : List Value) (i : Nat), pre.length = i * z → rest.length = us.length * z → (∀ u ∈ us, u.length = z ∧ cellsOk u = true) → fillA (fun i => some (i * z, z)) (pre ++ rest) (enumV i (us.map fun u => .agg u.toArray)) = some (pre ++ us.flatten)
  | [], pre, rest, i, _, hr, _ => by
    have : rest = [] := by simpa using hr
    subst this
    simp [enumV]
  | u :: us, pre, rest, i, hp, hr, hc => by
    obtain ⟨h1, h2⟩ := hc u (by simp)
    have hz : z ≤ rest.length := by rw [hr]; simp only [List.length_cons, Nat.add_mul]; omega
    have hsp : splice (pre ++ rest) (i * z) u = (pre ++ u) ++ rest.drop z := by
      rw [splice_def, ← hp, List.take_left, h1, List.drop_append, List.drop_of_length_le (by omega), List.nil_append]
      congr 2
      omega
    have := fill_aggs us (pre ++ u) (rest.drop z) (i + 1) (by simp [hp, h1, Nat.add_mul]) (by rw [List.length_drop, hr]; simp [Nat.add_mul]) (fun v hv => hc v (by simp [hv]))
    simp only [List.map_cons, enumV, fillA_cons]
    rw [if_pos ⟨by simp [h1], by rw [List.length_append]; omega, by simpa using h2⟩]
    show fillA _ (splice (pre ++ rest) (i * z) u) _ = _
    rw [hsp, this]
    simp
/-- One literal behind the other. -/
def litsM (f : Nat → Value) (e : TypeId) (z : Value) : List (Nat × List Nat) → List Value → (List Value → AM Value) → AM Value
  | [], acc, K => K acc
  | g :: gs, acc, K => bindV (buildSliceA e 1 g.2.length [z] (enumV 0 (g.2.map f))) fun v => bindV (buildA [(0, 1), (1, 1)] [.int .i64 0, .slice none 0 0] [(0, .int .i64 g.1), (1, v)]) fun w => litsM f e z gs (acc ++ [w]) K
theorem lits_spec {f : Nat → Value} {e : TypeId} {z : Value} {B : Nat} {K : List Value → AM Value} {Q : Value → AW → Prop} (hf : ∀ a, (f a).cells = #[f a] ∧ isCell (f a) = true) : ∀ (gs : List (Nat × List Nat)) (acc : List Value) (σ : AW), B ≤ σ.next → (∀ g ∈ gs, g.2.length ≤ 1000) →
    (∀ (τ : AW) (rows : List Rw), Ext σ τ → rows.length = gs.length → (∀ (j : Nat) (g : Nat × List Nat), gs[j]? = some g → ∃ s, rows[j]? = some (⟨g.1, s⟩ : Rw) ∧ Own B τ s e 1 g.2.length (g.2.map f)) → (∀ r ∈ rows, cellsOk r.cs = true) → wpA (K (acc ++ rows.map fun r => .agg r.cs.toArray)) τ Q) → wpA (litsM f e z gs acc K) σ Q
  | [], acc, σ, _, _, h => by
    have := h σ [] (Ext.refl _) rfl (fun j g hg => by simp at hg) (by simp)
    simpa [litsM] using this
  | g :: gs, acc, σ, hB, hs, h => by
    unfold litsM
    refine aw_bindV (aw_literal (vs := g.2.map f) rfl (by simp) (one_cells hf _) (by have := hs g (by simp); omega) ?_)
    have hE : Ext σ (σ.push (.cells (g.2.map f) e false)) := Ext.push _ _
    have hO : Own B (σ.push (.cells (g.2.map f) e false)) (.slice (some ⟨σ.next, 0, some 1⟩) g.2.length g.2.length) e 1 g.2.length (g.2.map f) := own_new hB (by simp)
    refine aw_bindV (aw_build (cs := Rw.cs ⟨g.1, .slice (some ⟨σ.next, 0, some 1⟩) g.2.length g.2.length⟩) (by simp [Rw.cs]) ?_)
    have hB2 : B ≤ (σ.push (.cells (g.2.map f) e false)).next := by simp; omega
    refine lits_spec hf gs _ _ hB2 (fun g' hg' => hs g' (by simp [hg'])) fun τ rows h1 h2 h3 h4 => ?_
    have := h τ (⟨g.1, .slice (some ⟨σ.next, 0, some 1⟩) g.2.length g.2.length⟩ :: rows) (hE.trans h1) (by simp [h2]) (fun j g' hg' => ?_) (fun r hr => ?_)
    · simpa using this
    · cases j with
      | zero =>
        simp at hg'
        subst hg'
        exact ⟨_, rfl, hO.ext h1⟩
      | succ j =>
        obtain ⟨s, q1, q2⟩ := h3 j g' (by simpa using hg')
        exact ⟨s, by simpa using q1, q2⟩
    · rcases List.mem_cons.1 hr with rfl | hr
      · rfl
      · exact h4 r hr
theorem G_small : ∀ g ∈ G, g.2.length ≤ 1000 := by decide +kernel
section
variable {σ : AW} {k : Nat}
/-- The list of all of them. -/
def listM (e2 : TypeId) (ws : List Value) : AM Value := bindV (buildSliceA e2 2 21 [.int .i64 0, .slice none 0 0] (enumV 0 ws)) fun r => bindV (ret r) fun r => ret r
theorem list_spec {f : Nat → Value} {e e2 : TypeId} {z : Value} (hf : ∀ a, (f a).cells = #[f a] ∧ isCell (f a) = true) : wpA (litsM f e z G [] (listM e2)) σ fun v τ => Ext σ τ ∧ ∃ rows, GOk σ.next τ v f e e2 rows := by
  refine lits_spec (B := σ.next) hf G [] σ (Nat.le_refl _) G_small fun τ rows h1 h2 h3 h4 => ?_
  have hlen : rows.length = 21 := by rw [h2]; rfl
  have hfill := fill_aggs (z := 2) (rows.map Rw.cs) [] (zeros [.int .i64 0, .slice none 0 0] (21 * 2)) 0 rfl (by rw [zeros_len, List.length_map, hlen]) (by
    intro u hu
    obtain ⟨r, hr, rfl⟩ := List.mem_map.1 hu
    exact ⟨rfl, h4 r hr⟩)
  have e1 : (rows.map Rw.cs).map (fun u => Value.agg u.toArray) = rows.map fun r => .agg r.cs.toArray := by simp
  have e3 : (rows.map Rw.cs).flatten = rows.flatMap Rw.cs := rfl
  rw [e1, e3] at hfill
  simp only [List.nil_append] at hfill ⊢
  unfold listM
  refine aw_bindV ((wpA_buildSlice).2 ?_)
  rw [hfill]
  have hfl : (rows.flatMap Rw.cs).length = 42 := by rw [length_flatMap Rw.len, hlen]
  have hcok : cellsOk (rows.flatMap Rw.cs) = true := by
    rw [← cellsOk_eq]
    refine List.all_eq_true.2 fun v hv => ?_
    obtain ⟨r, hr, hv⟩ := List.mem_flatMap.1 hv
    have := h4 r hr
    rw [← cellsOk_eq] at this
    exact List.all_eq_true.1 this v hv
  refine ⟨⟨by omega, hcok, rfl⟩, ?_⟩
  refine aw_bindV (aw_ret (aw_ret ⟨h1.trans (Ext.push _ _), rows, hlen, own_new h1.1 hfl, fun j g hg => ?_⟩))
  obtain ⟨s, q1, q2⟩ := h3 j g hg
  exact ⟨s, q1, q2.ext (Ext.push _ _)⟩
theorem groups_eq (call : FuncId → List Value → AM Value) : R34.top call k = bindV (ret (.slice none 0 0)) fun _ => litsM U16 30 (.int .u16 0) G [] (listM 72) := by kernel_rfl
theorem rows_eq (call : FuncId → List Value → AM Value) : R31.top call k = bindV (ret (.slice none 0 0)) fun _ => litsM I64 3 (.int .i64 0) G [] (listM 66) := by kernel_rfl
theorem groups_spec (hk : 1 ≤ k) : wpA (callN Try.prog k 34 []) σ fun v τ => Ext σ τ ∧ ∃ rows, GOk σ.next τ v U16 30 72 rows := by
  rw [callN_at hk, R34.eq, groups_eq]
  exact aw_bindV (aw_ret (list_spec fun _ => ⟨rfl, rfl⟩))
theorem rows_spec (hk : 1 ≤ k) : wpA (callN Try.prog k 31 []) σ fun v τ => Ext σ τ ∧ ∃ rows, GOk σ.next τ v I64 3 66 rows := by
  rw [callN_at hk, R31.eq, rows_eq]
  exact aw_bindV (aw_ret (list_spec fun _ => ⟨rfl, rfl⟩))
end
end Go.Proofs.Ytgpddhoidlpcaaa
