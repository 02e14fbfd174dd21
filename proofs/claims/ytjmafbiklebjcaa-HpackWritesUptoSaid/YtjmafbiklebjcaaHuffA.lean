/- Plain laws of what Huff computes: the codes. -/
import Derived.Test.YtjmafbiklebjcaaResH
import Derived.Test.YtjmafbiklebjcaaEngY
set_option linter.unusedVariables false
set_option linter.unusedSimpArgs false
namespace Go.Proofs.Ytjmafbiklebjcaa
open Go.Proofs.Ytjmafbiklebjcaa.Eng
/-- How many bits, and whose codes have so many. -/
def G : List (Nat × List Nat) := [(5, [48, 49, 50, 97, 99, 101, 105, 111, 115, 116]),
  (6, [32, 37, 45, 46, 47, 51, 52, 53, 54, 55, 56, 57, 61, 65, 95, 98, 100, 102, 103, 104, 108, 109, 110, 112, 114, 117]),
  (7, [58, 66, 67, 68, 69, 70, 71, 72, 73, 74, 75, 76, 77, 78, 79, 80, 81, 82, 83, 84, 85, 86, 87, 89, 106, 107, 113, 118, 119, 120, 121, 122]),
  (8, [38, 42, 44, 59, 88, 90]),
  (10, [33, 34, 40, 41, 63]),
  (11, [39, 43, 124]),
  (12, [35, 62]),
  (13, [0, 36, 64, 91, 93, 126]),
  (14, [94, 125]),
  (15, [60, 96, 123]),
  (19, [92, 195, 208]),
  (20, [128, 130, 131, 162, 184, 194, 224, 226]),
  (21, [153, 161, 167, 172, 176, 177, 179, 209, 216, 217, 227, 229, 230]),
  (22, [129, 132, 133, 134, 136, 146, 154, 156, 160, 163, 164, 169, 170, 173, 178, 181, 185, 186, 187, 189, 190, 196, 198, 228, 232, 233]),
  (23, [1, 135, 137, 138, 139, 140, 141, 143, 147, 149, 150, 151, 152, 155, 157, 158, 165, 166, 168, 174, 175, 180, 182, 183, 188, 191, 197, 231, 239]),
  (24, [9, 142, 144, 145, 148, 159, 171, 206, 215, 225, 236, 237]),
  (25, [199, 207, 234, 235]),
  (26, [192, 193, 200, 201, 202, 205, 210, 213, 218, 219, 238, 240, 242, 243, 255]),
  (27, [203, 204, 211, 212, 214, 221, 222, 223, 241, 244, 245, 246, 247, 248, 250, 251, 252, 253, 254]),
  (28, [2, 3, 4, 5, 6, 7, 8, 11, 12, 14, 15, 16, 17, 18, 19, 20, 21, 23, 24, 25, 26, 27, 28, 29, 30, 31, 127, 220, 249]),
  (30, [10, 13, 22, 256])]
structure Rw where
  bits : Nat
  s : Value
def Rw.cs (r : Rw) : List Value := [.int .i64 r.bits, r.s]
theorem Rw.len (r : Rw) : r.cs.length = 2 := rfl
def U16 (a : Nat) : Value := .int .u16 a
def I64 (a : Nat) : Value := .int .i64 a
/-- The groups as they lie in memory, all of it from block B on. -/
def GOk (B : Nat) (τ : AW) (v : Value) (f : Nat → Value) (e e2 : TypeId) (rows : List Rw) : Prop :=
  rows.length = 21 ∧ Own B τ v e2 2 21 (rows.flatMap Rw.cs) ∧ ∀ (j : Nat) (g : Nat × List Nat), G[j]? = some g → ∃ s, rows[j]? = some ⟨g.1, s⟩ ∧ Own B τ s e 1 g.2.length (g.2.map f)
/-- From B to C all is as it was. -/
theorem own_still {B : Nat} {σ τ : AW} {v : Value} {e : TypeId} {z n : Nat} {vs : List Value} (h : Own B σ v e z n vs) (hn : σ.next ≤ τ.next) (k : ∀ b, B ≤ b → b < σ.next → τ.get b = σ.get b) : Own B τ v e z n vs := by
  obtain ⟨h1, h | ⟨b, c, ws, h2, hc, h3', h4, h5, h6⟩⟩ := h
  · exact ⟨h1, .inl h⟩
  · exact ⟨h1, .inr ⟨b, c, ws, h2, hc, h3', by omega, by rw [k b h3' h4]; exact h5, h6⟩⟩
theorem gok_still {B : Nat} {σ τ : AW} {v : Value} {f : Nat → Value} {e e2 : TypeId} {rows : List Rw} (h : GOk B σ v f e e2 rows) (hn : σ.next ≤ τ.next) (k : ∀ b, B ≤ b → b < σ.next → τ.get b = σ.get b) : GOk B τ v f e e2 rows := by
  refine ⟨h.1, own_still h.2.1 hn k, fun j g hg => ?_⟩
  obtain ⟨s, h1, h2⟩ := h.2.2 j g hg
  exact ⟨s, h1, own_still h2 hn k⟩
theorem one_cells {f : Nat → Value} (hf : ∀ a, (f a).cells = #[f a] ∧ isCell (f a) = true) (l : List Nat) : ∀ v ∈ l.map f, v.cells = #[v] ∧ isCell v = true := by
  intro v hv
  obtain ⟨a, _, rfl⟩ := List.mem_map.1 hv
  exact hf a
theorem fill_aggs {z : Nat} : ∀ (us : List (List Value)) (pre rest : List Value) (i : Nat), pre.length = i * z → rest.length = us.length * z → (∀ u ∈ us, u.length = z ∧ cellsOk u = true) → fillA (fun i => some (i * z, z)) (pre ++ rest) (enumV i (us.map fun u => .agg u.toArray)) = some (pre ++ us.flatten)
  | [], pre, rest, i, _, hr, _ => by
    have : rest = [] := by simpa using hr
    subst this
    simp [enumV]
  | u :: us, pre, rest, i, hp, hr, hc => by
    obtain ⟨h1, h2⟩ := hc u (by simp)
    have hz : z ≤ rest.length := by rw [hr]; simp only [List.length_cons, Nat.add_mul]; omega
    have hsp : splice (pre ++ rest) (i * z) u = (pre ++ u) ++ rest.drop z := by
      rw [splice_def, ← hp, List.take_left, h1, List.drop_append, List.drop_of_length_le (by omega), List.nil_append]
      congr 2
      omega
    have := fill_aggs us (pre ++ u) (rest.drop z) (i + 1) (by simp [hp, h1, Nat.add_mul]) (by rw [List.length_drop, hr]; simp [Nat.add_mul]) (fun v hv => hc v (by simp [hv]))
    simp only [List.map_cons, enumV, fillA_cons]
    rw [if_pos ⟨by simp [h1], by rw [List.length_append]; omega, by simpa using h2⟩]
    show fillA _ (splice (pre ++ rest) (i * z) u) _ = _
    rw [hsp, this]
    simp
/-- One literal behind the other. -/
def litsM (f : Nat → Value) (e : TypeId) (z : Value) : List (Nat × List Nat) → List Value → (List Value → AM Value) → AM Value
  | [], acc, K => K acc
  | g :: gs, acc, K => bindV (buildSliceA e 1 g.2.length [z] (enumV 0 (g.2.map f))) fun v => bindV (buildA [(0, 1), (1, 1)] [.int .i64 0, .slice none 0 0] [(0, .int .i64 g.1), (1, v)]) fun w => litsM f e z gs (acc ++ [w]) K
theorem lits_spec {f : Nat → Value} {e : TypeId} {z : Value} {B : Nat} {K : List Value → AM Value} {Q : Value → AW → Prop} (hf : ∀ a, (f a).cells = #[f a] ∧ isCell (f a) = true) : ∀ (gs : List (Nat × List Nat)) (acc : List Value) (σ : AW), B ≤ σ.next → (∀ g ∈ gs, g.2.length ≤ 1000) →
    (∀ (τ : AW) (rows : List Rw), Ext σ τ → rows.length = gs.length → (∀ (j : Nat) (g : Nat × List Nat), gs[j]? = some g → ∃ s, rows[j]? = some (⟨g.1, s⟩ : Rw) ∧ Own B τ s e 1 g.2.length (g.2.map f)) → (∀ r ∈ rows, cellsOk r.cs = true) → wpA (K (acc ++ rows.map fun r => .agg r.cs.toArray)) τ Q) → wpA (litsM f e z gs acc K) σ Q
  | [], acc, σ, _, _, h => by
    have := h σ [] (Ext.refl _) rfl (fun j g hg => by simp at hg) (by simp)
    simpa [litsM] using this
  | g :: gs, acc, σ, hB, hs, h => by
    unfold litsM
    refine aw_bindV (aw_literal (vs := g.2.map f) rfl (by simp) (one_cells hf _) (by have := hs g (by simp); omega) ?_)
    have hE : Ext σ (σ.push (.cells (g.2.map f) e false)) := Ext.push _ _
    have hO : Own B (σ.push (.cells (g.2.map f) e false)) (.slice (some ⟨σ.next, 0, some 1⟩) g.2.length g.2.length) e 1 g.2.length (g.2.map f) := own_new hB (by simp)
    refine aw_bindV (aw_build (cs := Rw.cs ⟨g.1, .slice (some ⟨σ.next, 0, some 1⟩) g.2.length g.2.length⟩) (by simp [Rw.cs]) ?_)
    have hB2 : B ≤ (σ.push (.cells (g.2.map f) e false)).next := by simp; omega
    refine lits_spec hf gs _ _ hB2 (fun g' hg' => hs g' (by simp [hg'])) fun τ rows h1 h2 h3 h4 => ?_
    have := h τ (⟨g.1, .slice (some ⟨σ.next, 0, some 1⟩) g.2.length g.2.length⟩ :: rows) (hE.trans h1) (by simp [h2]) (fun j g' hg' => ?_) (fun r hr => ?_)
    · simpa using this
    · cases j with
      | zero =>
        simp at hg'
        subst hg'
        exact ⟨_, rfl, hO.ext h1⟩
      | succ j =>
        obtain ⟨s, q1, q2⟩ := h3 j g' (by simpa using hg')
        exact ⟨s, by simpa using q1, q2⟩
    · rcases List.mem_cons.1 hr with rfl | hr
      · rfl
      · exact h4 r hr
theorem G_small : ∀ g ∈ G, g.2.length ≤ 1000 := by decide +kernel
section
variable {σ : AW} {k : Nat}
/-- The list of all of them. -/
def listM (e2 : TypeId) (ws : List Value) : AM Value := bindV (buildSliceA e2 2 21 [.int .i64 0, .slice none 0 0] (enumV 0 ws)) fun r => bindV (ret r) fun r => ret r
theorem list_spec {f : Nat → Value} {e e2 : TypeId} {z : Value} (hf : ∀ a, (f a).cells = #[f a] ∧ isCell (f a) = true) : wpA (litsM f e z G [] (listM e2)) σ fun v τ => Ext σ τ ∧ ∃ rows, GOk σ.next τ v f e e2 rows := by
  refine lits_spec (B := σ.next) hf G [] σ (Nat.le_refl _) G_small fun τ rows h1 h2 h3 h4 => ?_
  have hlen : rows.length = 21 := by rw [h2]; rfl
  have hfill := fill_aggs (z := 2) (rows.map Rw.cs) [] (zeros [.int .i64 0, .slice none 0 0] (21 * 2)) 0 rfl (by rw [zeros_len, List.length_map, hlen]) (by
    intro u hu
    obtain ⟨r, hr, rfl⟩ := List.mem_map.1 hu
    exact ⟨rfl, h4 r hr⟩)
  have e1 : (rows.map Rw.cs).map (fun u => Value.agg u.toArray) = rows.map fun r => .agg r.cs.toArray := by simp
  have e3 : (rows.map Rw.cs).flatten = rows.flatMap Rw.cs := rfl
  rw [e1, e3] at hfill
  simp only [List.nil_append] at hfill ⊢
  unfold listM
  refine aw_bindV ((wpA_buildSlice).2 ?_)
  rw [hfill]
  have hfl : (rows.flatMap Rw.cs).length = 42 := by rw [length_flatMap Rw.len, hlen]
  have hcok : cellsOk (rows.flatMap Rw.cs) = true := by
    rw [← cellsOk_eq]
    refine List.all_eq_true.2 fun v hv => ?_
    obtain ⟨r, hr, hv⟩ := List.mem_flatMap.1 hv
    have := h4 r hr
    rw [← cellsOk_eq] at this
    exact List.all_eq_true.1 this v hv
  refine ⟨⟨by omega, hcok, rfl⟩, ?_⟩
  refine aw_bindV (aw_ret (aw_ret ⟨h1.trans (Ext.push _ _), rows, hlen, own_new h1.1 hfl, fun j g hg => ?_⟩))
  obtain ⟨s, q1, q2⟩ := h3 j g hg
  exact ⟨s, q1, q2.ext (Ext.push _ _)⟩
theorem groups_eq (call : FuncId → List Value → AM Value) : R56.top call k = bindV (ret (.slice none 0 0)) fun _ => litsM U16 102 (.int .u16 0) G [] (listM 101) := by kernel_rfl
theorem rows_eq (call : FuncId → List Value → AM Value) : R58.top call k = bindV (ret (.slice none 0 0)) fun _ => litsM I64 3 (.int .i64 0) G [] (listM 111) := by kernel_rfl
theorem groups_spec (hk : 1 ≤ k) : wpA (callN Try.prog k 56 []) σ fun v τ => Ext σ τ ∧ ∃ rows, GOk σ.next τ v U16 102 101 rows := by
  rw [callN_at hk, R56.eq, groups_eq]
  exact aw_bindV (aw_ret (list_spec fun _ => ⟨rfl, rfl⟩))
theorem rows_spec (hk : 1 ≤ k) : wpA (callN Try.prog k 58 []) σ fun v τ => Ext σ τ ∧ ∃ rows, GOk σ.next τ v I64 3 111 rows := by
  rw [callN_at hk, R58.eq, rows_eq]
  exact aw_bindV (aw_ret (list_spec fun _ => ⟨rfl, rfl⟩))
end
end Go.Proofs.Ytjmafbiklebjcaa

namespace Go.Proofs.Ytjmafbiklebjcaa
open Go.Proofs.Ytjmafbiklebjcaa.Eng
def pairC (p : Nat × Nat) : List Value := [.int .u32 p.1, .int .i64 p.2]
def arrC (a : List (Nat × Nat)) : List Value := a.flatMap pairC
theorem pairC_len (p : Nat × Nat) : (pairC p).length = 2 := rfl
theorem arrC_len (a : List (Nat × Nat)) : (arrC a).length = a.length * 2 := length_flatMap pairC_len a
theorem arrC_set : ∀ (a : List (Nat × Nat)) (s : Nat) (p : Nat × Nat), s < a.length → splice (arrC a) (s * 2) (pairC p) = arrC (a.set s p)
  | [], s, p, h => by simp at h
  | q :: a, 0, p, _ => by
    rw [splice_def]
    show List.take 0 (arrC (q :: a)) ++ pairC p ++ List.drop (0 + 2) (pairC q ++ arrC a) = pairC p ++ arrC a
    rfl
  | q :: a, s + 1, p, h => by
    have ih := arrC_set a s p (by simpa using h)
    rw [splice_def] at ih ⊢
    have e : (s + 1) * 2 = s * 2 + 2 := by omega
    rw [e]
    show List.take (s * 2 + 2) (pairC q ++ arrC a) ++ pairC p ++ List.drop (s * 2 + 2 + 2) (pairC q ++ arrC a) = pairC q ++ arrC (a.set s p)
    rw [← ih]
    have l2 : (pairC p).length = 2 := rfl
    rw [l2]
    show (.int .u32 q.1) :: (.int .i64 q.2) :: List.take (s * 2) (arrC a) ++ pairC p ++ List.drop (s * 2 + 2) (arrC a) = pairC q ++ (List.take (s * 2) (arrC a) ++ pairC p ++ List.drop (s * 2 + 2) (arrC a))
    simp [pairC]
def setAll (n b : Nat) (a : List (Nat × Nat)) : List Nat → List (Nat × Nat)
  | [] => a
  | s :: l => setAll (n + 1) b (a.set s (n, b)) l
theorem setAll_len : ∀ (l : List Nat) (n b : Nat) (a : List (Nat × Nat)), (setAll n b a l).length = a.length
  | [], _, _, _ => rfl
  | s :: l, n, b, a => by unfold setAll; rw [setAll_len l]; simp
/-- Group i. -/
def gr (i : Nat) : Nat × List Nat := G.getD i (0, [])
/-- The first number and the bits behind i groups. -/
def start : Nat → Nat × Nat
  | 0 => (0, 0)
  | i + 1 => ((start i).1 * 2 ^ ((gr i).1 - (start i).2) + (gr i).2.length, (gr i).1)
def first (i : Nat) : Nat := (start i).1 * 2 ^ ((gr i).1 - (start i).2)
def arrI : Nat → List (Nat × Nat)
  | 0 => List.replicate 257 (0, 0)
  | i + 1 => setAll (first i) (gr i).1 (arrI i) (gr i).2
def codesL : List (Nat × Nat) := arrI 21
theorem start_ok : ∀ i : Fin 21, (start i.1).2 ≤ (gr i.1).1 ∧ (gr i.1).1 - (start i.1).2 ≤ 31 ∧ first i.1 + (gr i.1).2.length < 1073741825 ∧ (gr i.1).1 ≤ 30 ∧ ((gr i.1).2.all fun s => decide (s < 257)) = true := by decide +kernel
theorem arrI_len : ∀ i, (arrI i).length = 257
  | 0 => by unfold arrI; exact List.length_replicate
  | i + 1 => by unfold arrI; rw [setAll_len, arrI_len i]
theorem gr_at {i : Nat} (h : i < 21) : G[i]? = some (gr i) := by
  have : i < G.length := h
  unfold gr
  rw [List.getD_eq_getElem?_getD, List.getElem?_eq_getElem this]; rfl
section
variable {σ : AW} {k : Nat} {Q : Value → AW → Prop}
theorem zero514 : cellsOk (arrC (arrI 0)) = true := by decide +kernel
set_option maxRecDepth 100000 in
theorem top_eq (call : FuncId → List Value → AM Value) : R52.top call k = bindV (newA (arrC (arrI 0)) 91) fun v0 => bindV (newA (arrC (arrI 0)) 91) fun v1 =>
    bindV (buildA [(0, 1), (1, 1)] [.int .u32 0, .int .i64 0] []) fun v7 => bindV (newA [.int .u32 0, .int .i64 0] 90) fun v2 => bindV (storeA 2 v2 v7) fun _ => bindV (call 56 []) fun v8 => bindV (lenA v8) fun v9 => bindV (ret (.int .i64 0)) fun v10 => loop1 (R52.b_54 call k v0 v1 v2 v8 v9) k v10 := by kernel_rfl
theorem shl_u32 {n s : Nat} (h : n * 2 ^ s < 4294967296) (hs : s ≤ 31) : IntKind.u32.wrap ((n : Int) * 2 ^ min s 32) = ((n * 2 ^ s : Nat) : Int) := by
  rw [Nat.min_eq_left (by omega)]
  have e : (n : Int) * 2 ^ s = ((n * 2 ^ s : Nat) : Int) := by simp
  rw [e]
  exact wrap_id (by simp [Lit.wf, IntKind.min, IntKind.max, IntKind.signed, IntKind.bits]; omega)
theorem wrap_u32 {n : Nat} (h : n < 4294967296) : IntKind.u32.wrap (n : Int) = (n : Int) := wrap_id (by simp [Lit.wf, IntKind.min, IntKind.max, IntKind.signed, IntKind.bits]; omega)
/-- One group's symbols. -/
theorem codes_inner {rec : Value → AM Value} {i b1 b2 x : Nat} {sv : Value} {l : List Nat} {n0 b : Nat} {k1 : Nat} {fin : List (Nat × Nat)} (hl : ∀ s ∈ l, s < 257) (hn : n0 + l.length < 1073741825) (hlen : l.length ≤ 1000) (hi : i < 21) (hk : 1100 ≤ k1) (h12 : ¬ b1 = b2) (h21 : ¬ b2 = b1)
    (e1 e2 : TypeId) (P : AW → Prop) (hP : ∀ τ a n, P τ → P ((τ.put b1 (some (.cells (arrC a) e1 false))).put b2 (some (.cells [.int .u32 n, .int .i64 b] e2 false)))) (hS : ∀ τ, P τ → Sl τ sv 1 l.length (l.map U16))
    (hdone : ∀ τ, P τ → τ.get b1 = some (.cells (arrC fin) e1 false) → τ.get b2 = some (.cells [.int .u32 ((n0 + l.length : Nat) : Int), .int .i64 b] e2 false) → wpA (rec (.int .i64 ((i + 1 : Nat) : Int))) τ Q) :
    ∀ (τ : AW) (a : List (Nat × Nat)), P τ → a.length = 257 → setAll n0 b a l = fin → τ.get b1 = some (.cells (arrC a) e1 false) → τ.get b2 = some (.cells [.int .u32 n0, .int .i64 b] e2 false) →
      wpA (loop1 (R52.b_52 (callN Try.prog k1) k1 rec (.int .i64 i) (ptr b1) sv (.int .i64 l.length) (ptr b2)) k1 (.int .i64 0)) τ Q := by
  intro τ a hp ha hfin h1 h2
  refine aw_loop1 (fun r v τ' => ∃ (j : Nat) (a : List (Nat × Nat)), v = .int .i64 j ∧ j ≤ l.length ∧ r = l.length - j ∧ P τ' ∧ a.length = 257 ∧ setAll (n0 + j) b a (l.drop j) = fin ∧ τ'.get b1 = some (.cells (arrC a) e1 false) ∧ τ'.get b2 = some (.cells [.int .u32 ((n0 + j : Nat) : Int), .int .i64 b] e2 false)) ?_ k1 l.length _ τ ⟨0, a, rfl, by omega, rfl, hp, ha, hfin, h1, h2⟩ (by omega)
  rintro r rec1 v τ' ⟨j, a, rfl, hj, rfl, hp, ha, hfin, h1, h2⟩ hrec
  have hsl := hS τ' hp
  by_cases hlt : j < l.length
  · obtain ⟨s, hs⟩ : ∃ s, l[j]? = some s := ⟨_, List.getElem?_eq_getElem hlt⟩
    have hs257 := hl s (List.mem_of_getElem? hs)
    have hwj : IntKind.i64.wrap ((j : Int) + 1) = ((j + 1 : Nat) : Int) := wrap64 (by omega) (by omega)
    have hwn : IntKind.u32.wrap (((n0 + j : Nat) : Int) + 1) = ((n0 + (j + 1) : Nat) : Int) := by rw [show ((n0 + j : Nat) : Int) + 1 = ((n0 + (j + 1) : Nat) : Int) by omega]; exact wrap_u32 (by omega)
    have hset := arrC_set a s (n0 + j, b) (by omega)
    have hpc : pairC (n0 + j, b) = [.int .u32 ((n0 + j : Nat) : Int), .int .i64 b] := rfl
    rw [hpc] at hset
    have hal := arrC_len a
    have hs2 : s * 2 + 2 ≤ (arrC a).length := by omega
    have hdrop : l.drop j = s :: l.drop (j + 1) := by
      rw [List.drop_eq_getElem_cons hlt]
      rw [List.getElem?_eq_getElem hlt] at hs
      injection hs with hs
      rw [hs]
    rw [hdrop] at hfin
    have hs0 : (0 : Int) ≤ (s : Int) := by omega
    have hs1 : (s : Int) < 257 := by omega
    simp [R52.b_52, hlt, ↓at1_all hsl hs, U16, h1, h2, h12, h21, hs2, hs257, hwj, hwn, -Int.natCast_add, -splice_def]
    rw [hset, letL_def]
    refine ⟨hs1, hrec (l.length - (j + 1)) _ _ (by omega) ⟨j + 1, a.set s (n0 + j, b), rfl, by omega, rfl, hP _ _ _ hp, by simp [ha], hfin, ?_, ?_⟩⟩
    · simp [h12]
    · simp
  · have e : j = l.length := by omega
    subst e
    have hwi : IntKind.i64.wrap ((i : Int) + 1) = ((i + 1 : Nat) : Int) := wrap64 (by omega) (by omega)
    rw [List.drop_length] at hfin
    simp [R52.b_52, hwi, -Int.natCast_add]
    have hf : a = fin := hfin
    rw [hf] at h1
    exact hdone τ' hp h1 h2
theorem codes_spec (hk : 1200 ≤ k) : wpA (callN Try.prog k 52 []) σ fun v τ => Ext σ τ ∧ v = .agg (arrC codesL).toArray := by
  rw [callN_at (by omega), R52.eq, top_eq]
  have hbig : 1199 ≤ k - 1 := by omega
  generalize hk1 : k - 1 = k1 at hbig
  have hz : (arrC (arrI 0)).all isCell = true := by rw [cellsOk_eq]; exact zero514
  refine aw_bindV (aw_new hz (aw_bindV (aw_new hz ?_)))
  simp only [AW.next_push]
  generalize hS : (σ.push (.cells (arrC (arrI 0)) 91 false)).push (.cells (arrC (arrI 0)) 91 false) = S
  have hSn : S.next = σ.next + 2 := by rw [← hS]; simp
  have hS0 : S.get σ.next = some (.cells (arrC (arrI 0)) 91 false) := by rw [← hS]; simp
  have hS1 : S.get (σ.next + 1) = some (.cells (arrC (arrI 0)) 91 false) := by rw [← hS]; simp
  have hSe : Ext σ S := by rw [← hS]; exact (Ext.push _ _).trans (Ext.push _ _)
  simp
  generalize hT : (S.push (.cells [.int .u32 0, .int .i64 0] 90 false)).put S.next (some (.cells [.int .u32 0, .int .i64 0] 90 false)) = T
  have hTn : T.next = σ.next + 3 := by rw [← hT]; simp [hSn]
  have hn1 : ¬ σ.next = S.next := by omega
  have hn2 : ¬ σ.next + 1 = S.next := by omega
  have hT0 : T.get σ.next = some (.cells (arrC (arrI 0)) 91 false) := by rw [← hT]; simp [hn1, hS0]
  have hT1 : T.get (σ.next + 1) = some (.cells (arrC (arrI 0)) 91 false) := by rw [← hT]; simp [hn2, hS1]
  have hT2 : T.get S.next = some (.cells [.int .u32 0, .int .i64 0] 90 false) := by rw [← hT]; simp
  have hTk : Kept σ.next σ T := by rw [← hT]; exact ((hSe.kept (Nat.le_refl _)).push (by omega) _).put (by omega) _
  refine (groups_spec (by omega)).mono ?_
  rintro v τ ⟨he, rows, hG⟩
  have hlen := hG.2.1.sl
  simp [len_iff hlen]
  have hE : ∀ b, b < σ.next + 3 → τ.get b = T.get b := fun b hb => he.2 b (by omega)
  refine aw_loop1 (fun r x τ' => ∃ i : Nat, x = .int .i64 i ∧ i ≤ 21 ∧ r = 21 - i ∧ Kept σ.next σ τ' ∧ T.next ≤ τ'.next ∧ τ'.get σ.next = some (.cells (arrC (arrI 0)) 91 false) ∧ τ'.get (σ.next + 1) = some (.cells (arrC (arrI i)) 91 false) ∧ τ'.get S.next = some (.cells [.int .u32 (start i).1, .int .i64 (start i).2] 90 false) ∧ GOk T.next τ' v U16 102 101 rows) ?_ k1 21 _ τ
    ⟨0, rfl, by omega, rfl, hTk.trans (he.kept (by omega)), he.1, by rw [hE _ (by omega)]; exact hT0, by rw [hE _ (by omega)]; exact hT1, by rw [hE _ (by omega)]; exact hT2, hG⟩ (by omega)
  rintro r rec x τ' ⟨i, rfl, hi, rfl, hki, hnx, h0, h1, h2, hg⟩ hrec
  have m1 : ¬ σ.next = σ.next + 1 := by omega
  by_cases hlt : i < 21
  · have hlt' : (i : Int) < 21 := by omega
    obtain ⟨k1', k2', k3', k4', k5'⟩ := start_ok ⟨i, hlt⟩
    simp only at k1' k2' k3' k4' k5'
    obtain ⟨s, hr, hs⟩ := hg.2.2 i (gr i) (gr_at hlt)
    have hcs : (Rw.mk (gr i).1 s).cs = [.int .i64 (gr i).1, s] := rfl
    have q1 : ¬ σ.next + 1 = τ'.next := by omega
    have q2 : ¬ S.next = τ'.next := by omega
    have q3 : ¬ τ'.next = S.next := by omega
    have q4 : ¬ σ.next = τ'.next := by omega
    obtain ⟨a, c, hsv⟩ := hs.sl.form
    have hsc : s.cells = #[s] ∧ isCell s = true := by rw [hsv]; exact ⟨rfl, rfl⟩
    have hwb : IntKind.i64.wrap (((gr i).1 : Int) - ((start i).2 : Int)) = (((gr i).1 - (start i).2 : Nat) : Int) := by rw [wrap64 (by omega) (by omega)]; omega
    have hb32 : IntKind.u32.bits = 32 := rfl
    have hfi : first i = (start i).1 * 2 ^ ((gr i).1 - (start i).2) := rfl
    have hsh := shl_u32 (n := (start i).1) (s := (gr i).1 - (start i).2) (by rw [← hfi]; omega) k2'
    have hsb0 : (0 : Int) ≤ (((gr i).1 - (start i).2 : Nat) : Int) := by omega
    have hla := hs.sl
    simp [R52.b_54, hlt', ↓atS_all Rw.len (by omega) hg.2.1.sl hr, hcs, hsc.1, hsc.2, h2, q1, q2, q3, hwb, hb32, hsh, -Int.natCast_pow, -Int.natCast_mul, len_iff hla]
    generalize hR : ((τ'.push (.cells [.int .i64 0, .slice none 0 0] 101 false)).put τ'.next (some (.cells [.int .i64 (gr i).1, s] 101 false))).put S.next (some (.cells [.int .u32 ((start i).1 * 2 ^ ((gr i).1 - (start i).2) : Nat), .int .i64 (gr i).1] 90 false)) = R
    have hk5 : ∀ s ∈ (gr i).2, s < 257 := fun s hs => by
      have := List.all_eq_true.1 k5' s hs
      simpa using this
    have hRn : R.next = τ'.next + 1 := by rw [← hR]; simp
    have hRk : Kept σ.next σ R := by rw [← hR]; exact (((hki.push hki.1 _).put hki.1 _).put (by omega) _)
    have q5 : ¬ σ.next = S.next := by omega
    have q6 : ¬ S.next = σ.next + 1 := by omega
    have q7 : ¬ σ.next + 1 = S.next := by omega
    have hR0 : R.get σ.next = some (.cells (arrC (arrI 0)) 91 false) := by rw [← hR]; simp [q4, q5, h0]
    have hR1 : R.get (σ.next + 1) = some (.cells (arrC (arrI i)) 91 false) := by rw [← hR]; simp [q1, q7, h1]
    have hR2 : R.get S.next = some (.cells [.int .u32 (first i), .int .i64 (gr i).1] 90 false) := by rw [← hR]; simp [first]
    have hRg : GOk T.next R v U16 102 101 rows := gok_still hg (by omega) fun b hb1 hb2 => by
      rw [← hR]
      have c1 : ¬ b = S.next := by omega
      have c2 : ¬ b = τ'.next := by omega
      simp [c1, c2]
    have hsm : (gr i).2.length ≤ 1000 := G_small _ (List.mem_of_getElem? (gr_at hlt))
    refine codes_inner (k1 := k1) (b := (gr i).1) (n0 := first i) (l := (gr i).2) (fin := arrI (i + 1)) (b1 := σ.next + 1) (b2 := S.next) (x := 0) hk5 k3' hsm hlt (by omega) q7 q6 91 90
      (fun τ2 => Kept σ.next σ τ2 ∧ T.next ≤ τ2.next ∧ τ2.get σ.next = some (.cells (arrC (arrI 0)) 91 false) ∧ GOk T.next τ2 v U16 102 101 rows ∧ Own T.next τ2 s 102 1 (gr i).2.length ((gr i).2.map U16)) ?_ ?_ ?_ R (arrI i) ⟨hRk, by omega, hR0, hRg, ?_⟩ (arrI_len i) rfl hR1 hR2
    · rintro τ2 a n ⟨p1, p2, p3, p4, p5⟩
      have far : ∀ b, T.next ≤ b → ((τ2.put (σ.next + 1) (some (.cells (arrC a) 91 false))).put S.next (some (.cells [.int .u32 n, .int .i64 (gr i).1] 90 false))).get b = τ2.get b := fun b hb => by
        have c1 : ¬ b = S.next := by omega
        have c2 : ¬ b = σ.next + 1 := by omega
        simp [c1, c2]
      refine ⟨(p1.put (by omega) _).put (by omega) _, by simp; omega, by simp [q5, m1, p3], gok_still p4 (by simp) fun b hb _ => far b hb, own_still p5 (by simp) fun b hb _ => far b hb⟩
    · rintro τ2 ⟨_, _, _, _, p5⟩
      exact p5.sl
    · rintro τ2 ⟨p1, p2, p3, p4, p5⟩ p6 p7
      refine hrec (21 - (i + 1)) _ _ (by omega) ⟨i + 1, rfl, by omega, rfl, p1, p2, p3, p6, ?_, p4⟩
      exact p7
    · obtain ⟨s', hr', hs'⟩ := hRg.2.2 i (gr i) (gr_at hlt)
      rw [hr] at hr'
      injection hr' with hr'
      injection hr' with _ hr'
      rw [hr']
      exact hs'
  · have e : i = 21 := by omega
    subst e
    have hl514 : (arrC (arrI 21)).length = 514 := by rw [arrC_len, arrI_len]
    have hl514' : (arrC (arrI 0)).length = 514 := by rw [arrC_len, arrI_len]
    have hok : cellsOk (arrC (arrI 21)) = true := by decide +kernel
    simp [R52.b_54, h0, h1, hl514, hl514', letL_def, -splice_def, List.take_of_length_le, hok]
    rw [splice_whole (by rw [hl514, hl514'])]
    rw [List.take_of_length_le (by omega)]
    exact ⟨by omega, hki.put (Nat.le_refl _) _, rfl⟩
end
end Go.Proofs.Ytjmafbiklebjcaa

namespace Go.Proofs.Ytjmafbiklebjcaa
open Go.Proofs.Ytjmafbiklebjcaa.Eng
def codesLit : List (Nat × Nat) := [(8184, 13), (8388568, 23), (268435426, 28), (268435427, 28), (268435428, 28), (268435429, 28), (268435430, 28), (268435431, 28), (268435432, 28), (16777194, 24), (1073741820, 30), (268435433, 28), (268435434, 28), (1073741821, 30), (268435435, 28), (268435436, 28), (268435437, 28), (268435438, 28), (268435439, 28), (268435440, 28), (268435441, 28), (268435442, 28), (1073741822, 30), (268435443, 28), (268435444, 28), (268435445, 28), (268435446, 28), (268435447, 28), (268435448, 28), (268435449, 28), (268435450, 28), (268435451, 28), (20, 6), (1016, 10), (1017, 10), (4090, 12), (8185, 13), (21, 6), (248, 8), (2042, 11), (1018, 10), (1019, 10), (249, 8), (2043, 11), (250, 8), (22, 6), (23, 6), (24, 6), (0, 5), (1, 5), (2, 5), (25, 6), (26, 6), (27, 6), (28, 6), (29, 6), (30, 6), (31, 6), (92, 7), (251, 8), (32764, 15), (32, 6), (4091, 12), (1020, 10), (8186, 13), (33, 6), (93, 7), (94, 7), (95, 7), (96, 7), (97, 7), (98, 7), (99, 7), (100, 7), (101, 7), (102, 7), (103, 7), (104, 7), (105, 7), (106, 7), (107, 7), (108, 7), (109, 7), (110, 7), (111, 7), (112, 7), (113, 7), (114, 7), (252, 8), (115, 7), (253, 8), (8187, 13), (524272, 19), (8188, 13), (16380, 14), (34, 6), (32765, 15), (3, 5), (35, 6), (4, 5), (36, 6), (5, 5), (37, 6), (38, 6), (39, 6), (6, 5), (116, 7), (117, 7), (40, 6), (41, 6), (42, 6), (7, 5), (43, 6), (118, 7), (44, 6), (8, 5), (9, 5), (45, 6), (119, 7), (120, 7), (121, 7), (122, 7), (123, 7), (32766, 15), (2044, 11), (16381, 14), (8189, 13), (268435452, 28), (1048550, 20), (4194258, 22), (1048551, 20), (1048552, 20), (4194259, 22), (4194260, 22), (4194261, 22), (8388569, 23), (4194262, 22), (8388570, 23), (8388571, 23), (8388572, 23), (8388573, 23), (8388574, 23), (16777195, 24), (8388575, 23), (16777196, 24), (16777197, 24), (4194263, 22), (8388576, 23), (16777198, 24), (8388577, 23), (8388578, 23), (8388579, 23), (8388580, 23), (2097116, 21), (4194264, 22), (8388581, 23), (4194265, 22), (8388582, 23), (8388583, 23), (16777199, 24), (4194266, 22), (2097117, 21), (1048553, 20), (4194267, 22), (4194268, 22), (8388584, 23), (8388585, 23), (2097118, 21), (8388586, 23), (4194269, 22), (4194270, 22), (16777200, 24), (2097119, 21), (4194271, 22), (8388587, 23), (8388588, 23), (2097120, 21), (2097121, 21), (4194272, 22), (2097122, 21), (8388589, 23), (4194273, 22), (8388590, 23), (8388591, 23), (1048554, 20), (4194274, 22), (4194275, 22), (4194276, 22), (8388592, 23), (4194277, 22), (4194278, 22), (8388593, 23), (67108832, 26), (67108833, 26), (1048555, 20), (524273, 19), (4194279, 22), (8388594, 23), (4194280, 22), (33554412, 25), (67108834, 26), (67108835, 26), (67108836, 26), (134217694, 27), (134217695, 27), (67108837, 26), (16777201, 24), (33554413, 25), (524274, 19), (2097123, 21), (67108838, 26), (134217696, 27), (134217697, 27), (67108839, 26), (134217698, 27), (16777202, 24), (2097124, 21), (2097125, 21), (67108840, 26), (67108841, 26), (268435453, 28), (134217699, 27), (134217700, 27), (134217701, 27), (1048556, 20), (16777203, 24), (1048557, 20), (2097126, 21), (4194281, 22), (2097127, 21), (2097128, 21), (8388595, 23), (4194282, 22), (4194283, 22), (33554414, 25), (33554415, 25), (16777204, 24), (16777205, 24), (67108842, 26), (8388596, 23), (67108843, 26), (134217702, 27), (67108844, 26), (67108845, 26), (134217703, 27), (134217704, 27), (134217705, 27), (134217706, 27), (134217707, 27), (268435454, 28), (134217708, 27), (134217709, 27), (134217710, 27), (134217711, 27), (134217712, 27), (67108846, 26), (1073741823, 30)]

set_option maxRecDepth 100000 in
theorem codes_lit : codesL = codesLit := by decide +kernel
theorem lit_len : codesLit.length = 257 := by decide +kernel
def codeOf (s : Nat) : Nat × Nat := codesLit.getD s (0, 0)
/-- Each group's symbols have the numbers one behind the other. -/
theorem groups_codes : ∀ i : Fin 21, (((gr i.1).2.zipIdx).all fun p => decide (codeOf p.1 = (first i.1 + p.2, (gr i.1).1))) = true := by decide +kernel
theorem all_there : ((List.range 257).all fun s => (List.range 21).any fun i => (gr i).2.contains s) = true := by decide +kernel
def codeV (sym : Int) : Value := if 0 ≤ sym ∧ sym ≤ 256 then .tuple #[.int .u32 (codeOf sym.toNat).1, .int .i64 (codeOf sym.toNat).2, .int .i64 0] else .tuple #[.int .u32 0, .int .i64 0, .int .i64 1]
theorem wpA_indexN {σ : AW} {Q : Value → AW → Prop} {len z n : Nat} {cs : Array Value} {k : IntKind} {i : Nat} (hi : i < len) : wpA (indexA len z (some n) (.agg cs) (.int k (i : Nat))) σ Q ↔ Q (.agg ((cs.toList.drop (i * z)).take n).toArray) σ := by
  refine wpA_iff ?_
  simp only [indexA, partA, Int.toNat_natCast]
  rw [if_pos ⟨by omega, by omega⟩]
  rfl
theorem arr_at {a : List (Nat × Nat)} {s : Nat} {p : Nat × Nat} (h : a[s]? = some p) : ((arrC a).drop (s * 2)).take 2 = pairC p := by
  unfold arrC
  rw [drop_flatMap pairC_len]
  have hlt : s < a.length := by
    rcases Nat.lt_or_ge s a.length with g | g
    · exact g
    · rw [List.getElem?_eq_none g] at h; cases h
  rw [List.drop_eq_getElem_cons hlt]
  rw [List.getElem?_eq_getElem hlt] at h
  injection h with h
  rw [h]
  simp [pairC]
section
variable {σ : AW} {k : Nat} {Q : Value → AW → Prop}
theorem gc {i j s : Nat} (hi : i < 21) (hs : (gr i).2[j]? = some s) : codeOf s = (first i + j, (gr i).1) ∧ s < 257 := by
  have h1 := List.all_eq_true.1 (groups_codes ⟨i, hi⟩) (s, j) (List.mem_zipIdx_iff_getElem?.2 hs)
  have h2 := List.all_eq_true.1 (start_ok ⟨i, hi⟩).2.2.2.2 s (List.mem_of_getElem? hs)
  exact ⟨by simpa using h1, by simpa using h2⟩
theorem wrap_u64 {n : Nat} (h : n < 18446744073709551616) : IntKind.u64.wrap (n : Int) = (n : Int) := wrap_id (by simp [Lit.wf, IntKind.min, IntKind.max, IntKind.signed, IntKind.bits]; omega)
def refV (sym : Int) : Value := codeV sym
/-- One group, as the reference goes through it. -/
theorem rinner {sym : Int} {i : Nat} {k1 : Nat} {v : Value} {s : Value} {rows : List Rw} {rec : Value → Value → Value → AM Value} {B : Nat} {τ : AW} {R : Value → AW → Prop} (hi : i < 21) (hk : 1100 ≤ k1) (hr : rows[i]? = some ⟨(gr i).1, s⟩) (hv : Sl τ v 2 21 (rows.flatMap Rw.cs)) (hs : Sl τ s 1 (gr i).2.length ((gr i).2.map I64))
    (hfound : 0 ≤ sym → sym ≤ 256 → R (codeV sym) τ) (hnext : (∀ a ∈ (gr i).2, (a : Int) ≠ sym) → wpA (rec (.int .u64 ((start (i + 1)).1 : Nat)) (.int .i64 ((start (i + 1)).2 : Nat)) (.int .i64 ((i + 1 : Nat) : Int))) τ R) :
    wpA (loop2 (R57.b_62 (callN Try.prog k1) k1 rec (.int .i64 sym) (.int .i64 (gr i).1) v (.int .i64 i)) k1 (.int .u64 (first i)) (.int .i64 0)) τ R := by
  obtain ⟨k1', k2', k3', k4', k5'⟩ := start_ok ⟨i, hi⟩
  simp only at k1' k2' k3' k4' k5'
  have hsm : (gr i).2.length ≤ 1000 := G_small _ (List.mem_of_getElem? (gr_at hi))
  refine aw_loop2 (fun r u w τ' => ∃ j : Nat, u = .int .u64 ((first i + j : Nat) : Int) ∧ w = .int .i64 j ∧ j ≤ (gr i).2.length ∧ r = (gr i).2.length - j ∧ τ' = τ ∧ ∀ j' a, j' < j → (gr i).2[j']? = some a → (a : Int) ≠ sym) ?_ k1 (gr i).2.length _ _ τ ⟨0, rfl, rfl, by omega, rfl, rfl, fun j' a h => by omega⟩ (by omega)
  rintro r rec1 u w τ' ⟨j, rfl, rfl, hj, rfl, rfl, hno⟩ hrec
  have hat := atF_all (σ := τ') (k := .i64) (off := 1) (w := s) Rw.len hv hr rfl
  by_cases hlt : j < (gr i).2.length
  · obtain ⟨a, ha⟩ : ∃ a, (gr i).2[j]? = some a := ⟨_, List.getElem?_eq_getElem hlt⟩
    obtain ⟨c1, c2⟩ := gc hi ha
    have hwj : IntKind.i64.wrap ((j : Int) + 1) = ((j + 1 : Nat) : Int) := wrap64 (by omega) (by omega)
    have hwn : IntKind.u64.wrap (((first i + j : Nat) : Int) + 1) = ((first i + (j + 1) : Nat) : Int) := by rw [show ((first i + j : Nat) : Int) + 1 = ((first i + (j + 1) : Nat) : Int) by omega]; exact wrap_u64 (by omega)
    by_cases he : (a : Int) = sym
    · subst he
      have hw3 : IntKind.u32.wrap ((first i + j : Nat) : Int) = ((first i + j : Nat) : Int) := wrap_u32 (by omega)
      have hcv : codeV (a : Int) = .tuple #[.int .u32 ((first i + j : Nat) : Int), .int .i64 (gr i).1, .int .i64 0] := by
        unfold codeV
        rw [if_pos (by omega), Int.toNat_natCast, c1]
      have := hfound (by omega) (by omega)
      rw [hcv] at this
      simp [R57.b_62, ↓hat, len_iff hs, hlt, ↓at1_all hs ha, I64, hw3, -Int.natCast_add]
      exact this
    · simp [R57.b_62, ↓hat, len_iff hs, hlt, ↓at1_all hs ha, I64, he, hwj, hwn, -Int.natCast_add]
      refine hrec ((gr i).2.length - (j + 1)) _ _ _ (by omega) ⟨j + 1, rfl, rfl, by omega, rfl, rfl, fun j' a' h1 h2 => ?_⟩
      rcases Nat.lt_or_ge j' j with g | g
      · exact hno j' a' g h2
      · have e : j' = j := by omega
        subst e
        rw [ha] at h2
        injection h2 with h2
        rw [← h2]; exact he
  · have e : j = (gr i).2.length := by omega
    subst e
    have hwi : IntKind.i64.wrap ((i : Int) + 1) = ((i + 1 : Nat) : Int) := wrap64 (by omega) (by omega)
    simp [R57.b_62, ↓hat, len_iff hs, hwi, -Int.natCast_add]
    refine hnext fun a ha => ?_
    obtain ⟨j', hj', rfl⟩ := List.getElem_of_mem ha
    exact hno j' _ hj' (List.getElem?_eq_getElem hj')
theorem rcode_spec {sym : Int} (hk : 1210 ≤ k) : wpA (callN Try.prog k 57 [.int .i64 sym]) σ fun v τ => Ext σ τ ∧ v = codeV sym := by
  rw [callN_at (by omega), R57.eq]
  have hbig : 1209 ≤ k - 1 := by omega
  generalize hk1 : k - 1 = k1 at hbig
  simp [R57.top]
  refine (rows_spec (by omega)).mono ?_
  rintro v τ ⟨he, rows, hG⟩
  have hv := hG.2.1.sl
  refine aw_loop3 (fun r u w x τ' => ∃ i : Nat, u = .int .u64 ((start i).1 : Nat) ∧ w = .int .i64 ((start i).2 : Nat) ∧ x = .int .i64 i ∧ i ≤ 21 ∧ r = 21 - i ∧ τ' = τ ∧ ∀ i' a, i' < i → a ∈ (gr i').2 → (a : Int) ≠ sym) ?_ k1 21 _ _ _ τ ⟨0, rfl, rfl, rfl, by omega, rfl, rfl, fun i' a h => by omega⟩ (by omega)
  rintro r rec u w x τ' ⟨i, rfl, rfl, rfl, hi, rfl, rfl, hno⟩ hrec
  by_cases hlt : i < 21
  · have hlt' : (i : Int) < 21 := by omega
    obtain ⟨k1', k2', k3', k4', k5'⟩ := start_ok ⟨i, hlt⟩
    simp only at k1' k2' k3' k4' k5'
    obtain ⟨s, hr, hs⟩ := hG.2.2 i (gr i) (gr_at hlt)
    have hat := atF_all (σ := τ') (k := .i64) (off := 0) (w := .int .i64 (gr i).1) Rw.len hv hr rfl
    have hfi : first i = (start i).1 * 2 ^ ((gr i).1 - (start i).2) := rfl
    simp [R57.b_87, len_iff hv, hlt']
    refine aw_loop2 (fun r u w τ2 => ∃ d : Nat, (start i).2 + d ≤ (gr i).1 ∧ u = .int .u64 (((start i).1 * 2 ^ d : Nat) : Int) ∧ w = .int .i64 (((start i).2 + d : Nat) : Int) ∧ r = 31 - d ∧ τ2 = τ') ?_ k1 31 _ _ τ' ⟨0, by omega, by simp, rfl, rfl, rfl⟩ (by omega)
    rintro r2 rec2 u w τ2 ⟨d, hd, rfl, rfl, rfl, rfl⟩ hrec2
    by_cases hlt2 : (start i).2 + d < (gr i).1
    · have hlt2' : (((start i).2 + d : Nat) : Int) < ((gr i).1 : Int) := by omega
      have hpow : (start i).1 * 2 ^ d ≤ first i := by rw [hfi]; exact Nat.mul_le_mul_left _ (Nat.pow_le_pow_right (by omega) (by omega))
      have hw1 : IntKind.u64.wrap ((((start i).1 * 2 ^ d : Nat) : Int) * 2) = (((start i).1 * 2 ^ (d + 1) : Nat) : Int) := by
        have e : (((start i).1 * 2 ^ d : Nat) : Int) * 2 = (((start i).1 * 2 ^ (d + 1) : Nat) : Int) := by rw [Nat.pow_succ, ← Nat.mul_assoc]; omega
        rw [e]
        exact wrap_u64 (by rw [Nat.pow_succ, ← Nat.mul_assoc]; omega)
      have hw2 : IntKind.i64.wrap ((((start i).2 + d : Nat) : Int) + 1) = (((start i).2 + (d + 1) : Nat) : Int) := by rw [wrap64 (by omega) (by omega)]; omega
      simp only [R57.b_81]
      simp [↓hat, hlt2', hw1, hw2, -Int.natCast_add, -Int.natCast_mul, -Int.natCast_pow]
      exact hrec2 (31 - (d + 1)) _ _ _ (by omega) ⟨d + 1, by omega, rfl, rfl, rfl, rfl⟩
    · have hde : (start i).2 + d = (gr i).1 := by omega
      have hd2 : d = (gr i).1 - (start i).2 := by omega
      have hlt2' : ¬ (((start i).2 + d : Nat) : Int) < ((gr i).1 : Int) := by omega
      have hin := rinner (sym := sym) (i := i) (k1 := k1) (v := v) (s := s) (rows := rows) (rec := rec) (τ := τ2) (B := 0) (R := fun v τ => Ext σ τ ∧ v = codeV sym) hlt (by omega) hr hv hs.sl (fun _ _ => ⟨he, rfl⟩) (fun hno2 => hrec (21 - (i + 1)) _ _ _ _ (by omega) ⟨i + 1, rfl, rfl, rfl, by omega, rfl, rfl, fun i' a h1 h2 => by
        rcases Nat.lt_or_ge i' i with g | g
        · exact hno i' a g h2
        · have e : i' = i := by omega
          subst e
          exact hno2 a h2⟩)
      simp only [R57.b_81]
      rw [hfi, ← hd2, ← hde] at hin
      simp [↓hat, hlt2', -Int.natCast_add, -Int.natCast_mul, -Int.natCast_pow]
      exact hin
  · have e : i = 21 := by omega
    subst e
    have hc : codeV sym = .tuple #[.int .u32 0, .int .i64 0, .int .i64 1] := by
      unfold codeV
      refine if_neg fun h => ?_
      obtain ⟨s, rfl⟩ : ∃ s : Nat, sym = s := ⟨sym.toNat, by omega⟩
      have h1 := List.all_eq_true.1 all_there s (List.mem_range.2 (by omega))
      obtain ⟨i, h2, h3⟩ := List.any_eq_true.1 h1
      exact hno i s (List.mem_range.1 h2) (by simpa using h3) rfl
    rw [hc]
    simp [R57.b_87, len_iff hv]
    exact he
end
end Go.Proofs.Ytjmafbiklebjcaa
