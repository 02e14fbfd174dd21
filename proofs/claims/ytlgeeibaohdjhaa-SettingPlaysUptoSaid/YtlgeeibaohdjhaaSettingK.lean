/- Settings: their values, read. -/
import Derived.Test.YtlgeeibaohdjhaaSettingJ
set_option linter.unusedVariables false
set_option linter.unusedSimpArgs false
namespace Go.Proofs.Ytlgeeibaohdjhaa
open Go.Proofs.Ytlgeeibaohdjhaa.Eng
def ovs (f : FuncId) : Option (List Value → AM Value) := if f = 18 then some ovNew else if f = 15 then some ovCheck else none
theorem ovs_ok : ∀ f m, ovs f = some m → OvOk Try.prog f m := by
  intro f m h
  unfold ovs at h
  split at h
  · rename_i e; cases h; subst e; exact ov_new
  split at h
  · rename_i e; cases h; subst e; exact ov_check
  · cases h
noncomputable abbrev cl (n : Nat) : FuncId → List Value → AM Value := callO Try.prog ovs n
section
variable {σ : AW} {k : Nat} {Q : Value → AW → Prop}
theorem cl_at {f : FuncId} {args : List Value} (hk : 1 ≤ k) (h : f ≠ 18 ∧ f ≠ 15) : cl k f args = funcA Try.prog (cl (k - 1)) (k - 1) f args := callO_at hk (by simp [ovs, h.1, h.2])
theorem new_spec (hk : 1 ≤ k) : wpA (cl k 18 []) σ Q ↔ Q (ptr (σ.next + 1)) ((σ.push (.map newL)).push (.cells [.map (some σ.next), .slice none 0 0] 49 false)) := by
  rw [cl, callO_ov hk (m := ovNew) rfl]
  exact wpA_iff rfl
theorem check_spec {x y : Int} (hk : 1 ≤ k) (hy : 0 ≤ y) : wpA (cl k 15 [.agg #[.int .i64 x, .int .u32 y]]) σ Q ↔ Q (.int .i64 (checkOf x y)) σ := by
  rw [cl, callO_ov hk (m := ovCheck) rfl]
  exact wpA_iff (by simp only [ovCheck, hy, if_true])
theorem wpA_lookup {r : Nat} {es : List (Value × Value)} {j : IntKind} {n : Int} {z : Value} {ok : Bool} {o : Option Value} (hg : σ.get r = some (.map es)) (hf : findA j n es = some o) :
    wpA (lookupA z ok (.map (some r)) (.int j n)) σ Q ↔ Q (if ok then .tuple #[o.getD z, .bool o.isSome] else o.getD z) σ := by
  refine wpA_iff ?_
  cases o <;> simp only [lookupA, hg, hf] <;> rfl
/-- The numbers that are known. -/
def Known (x : Int) : Prop := x = 1 ∨ x = 2 ∨ x = 3 ∨ x = 4 ∨ x = 5 ∨ x = 6 ∨ x = 8
instance (x : Int) : Decidable (Known x) := by unfold Known; infer_instance
def vlist (f : Int → Int) : List (Value × Value) := [1, 2, 3, 4, 5, 6, 8].map fun (x : Int) => (.int .i64 x, .int .u32 (f x))
def first (x : Int) : Int := if x = 1 then 4096 else if x = 2 then 1 else if x = 3 then 4294967295 else if x = 4 then 65535 else if x = 5 then 16384 else if x = 6 then 4294967295 else 0
theorem newL_v : newL = vlist first := by simp [newL, vlist, first7, first]
theorem find_v (f : Int → Int) (x : Int) : findA .i64 x (vlist f) = some (if Known x then some (.int .u32 (f x)) else none) := by
  by_cases h1 : x = 1
  · subst h1; rfl
  by_cases h2 : x = 2
  · subst h2; rfl
  by_cases h3 : x = 3
  · subst h3; rfl
  by_cases h4 : x = 4
  · subst h4; rfl
  by_cases h5 : x = 5
  · subst h5; rfl
  by_cases h6 : x = 6
  · subst h6; rfl
  by_cases h8 : x = 8
  · subst h8; rfl
  · simp [vlist, findA, Known, h1, h2, h3, h4, h5, h6, h8]
def upd (f : Int → Int) (x v : Int) : Int → Int := fun j => if j = x then v else f j
theorem set_v (f : Int → Int) (x v : Int) (h : Known x) : setA .i64 x (.int .u32 v) (vlist f) = vlist (upd f x v) := by
  rcases h with rfl | rfl | rfl | rfl | rfl | rfl | rfl <;> simp [vlist, setA, upd]
/-- Settings, and their offers. -/
structure Sets (σ : AW) (b m : Nat) (f : Int → Int) (offers : Value) : Prop where
  cells : σ.get b = some (.cells [.map (some m), offers] 49 false)
  vals : σ.get m = some (.map (vlist f))
  ne : b ≠ m
  hb : b < σ.next
  hm : m < σ.next
variable {b m : Nat} {f : Int → Int} {o : Value}
theorem none_no (h : Sets σ b m f o) (hk : 1 ≤ k) : wpA (cl k 51 [ptr b]) σ Q ↔ Q (.bool false) σ := by
  rw [cl_at hk (by decide), R51.eq]
  simp [R51.g_9, R51.top, und29, und45, eqPtrU, eqMapU, h.cells]
def valOf (f : Int → Int) (x : Int) : Int := if Known x then f x else 0
theorem get_spec {x : Int} (h : Sets σ b m f o) (hk : 2 ≤ k) : wpA (cl k 19 [ptr b, .int .i64 x]) σ Q ↔ Q (.int .u32 (valOf f x)) σ := by
  rw [cl_at (by omega) (by decide), R19.eq]
  simp [R19.top, none_no h (show 1 ≤ k - 1 by omega), h.cells, wpA_lookup h.vals (find_v f x)]
  by_cases hx : Known x <;> simp [valOf, hx]
theorem open_spec {a : Option Addr} {n c : Nat} (h : Sets σ b m f (.slice a n c)) (hk : 2 ≤ k) : wpA (cl k 22 [ptr b]) σ Q ↔ Q (.int .i64 n) σ := by
  rw [cl_at (by omega) (by decide), R22.eq]
  simp [R22.top, none_no h (show 1 ≤ k - 1 by omega), h.cells]
theorem awake_spec (hk : 3 ≤ k) : wpA (cl k 17 []) σ fun v _ => v = .bool true := by
  rw [cl_at (by omega) (by decide), R17.eq]
  have h2 : 2 ≤ k - 1 := by omega
  generalize k - 1 = k1 at h2
  simp [R17.g_11, R17.top, new_spec (show 1 ≤ k1 by omega), und29, nePtrU]
  have hS : Sets ((σ.push (.map newL)).push (.cells [.map (some σ.next), .slice none 0 0] 49 false)) (σ.next + 1) σ.next first (.slice none 0 0) := ⟨by simp, by simp [newL_v], by omega, by simp, by simp; omega⟩
  simp [get_spec hS h2]
  rfl
theorem ref_check {x y : Int} (hk : 1 ≤ k) (hy : 0 ≤ y) : wpA (cl k 16 [.agg #[.int .i64 x, .int .u32 y]]) σ Q ↔ Q (.int .i64 (checkOf x y)) (σ.push (.cells [.int .i64 x, .int .u32 y] 24 false)) := by
  rw [cl_at hk (by decide), R16.eq]
  by_cases h2 : x = 2
  · subst h2
    by_cases h : 1 < y <;> simp [R16.j_3, R16.g_28, R16.j_32, R16.top, checkOf, h]
  by_cases h8 : x = 8
  · subst h8
    by_cases h : 1 < y <;> simp [R16.j_3, R16.g_28, R16.j_32, R16.top, checkOf, h]
  by_cases h4 : x = 4
  · subst h4
    by_cases h : 2147483647 < y <;> simp [R16.j_3, R16.g_28, R16.j_32, R16.top, checkOf, h]
  by_cases h5 : x = 5
  · subst h5
    by_cases h : y < 16384 <;> by_cases h' : 16777215 < y <;> simp [R16.j_3, R16.g_28, R16.j_32, R16.top, checkOf, h, h']
  simp [R16.j_3, R16.g_28, R16.j_32, R16.top, checkOf, h2, h8, h4, h5]
end
end Go.Proofs.Ytlgeeibaohdjhaa
