/- Settings that nobody made. -/
import Derived.Test.YtlgeeibaohdjhaaRes09
import Derived.Test.YtlgeeibaohdjhaaEngY
set_option linter.unusedVariables false
set_option linter.unusedSimpArgs false
namespace Go.Proofs.Ytlgeeibaohdjhaa
open Go.Proofs.Ytlgeeibaohdjhaa.Eng
theorem und29 : undP Try.prog 29 isPtrT = true := undP_of Try.underlying29
theorem und45 : undP Try.prog 45 isMapT = true := undP_of Try.underlying45
section
variable {σ : AW} {k : Nat} {Q : Value → AW → Prop}
theorem eqMapU {P : Program} {t : TypeId} {a : Option Nat} (ht : undP P t isMapT = true) : wpA (binA P .eql t (.map a) (.map none)) σ Q ↔ Q (.bool a.isNone) σ := wpA_iff (by cases a <;> (simp only [binA]; rw [ifU_of ht]; rfl))
theorem none_nil (hk : 1 ≤ k) : wpA (callN Try.prog k 51 [.pointer none]) σ Q ↔ Q (.bool true) σ := by
  rw [callN_at hk, R51.eq]
  simp [R51.g_9, R51.top, und29, eqPtrU]
theorem none_zero {b : Nat} {v : Value} (hb : σ.get b = some (.cells [.map none, v] 49 false)) (hk : 1 ≤ k) : wpA (callN Try.prog k 51 [ptr b]) σ Q ↔ Q (.bool true) σ := by
  rw [callN_at hk, R51.eq]
  simp [R51.g_9, R51.top, und29, und45, eqPtrU, eqMapU, hb]
theorem apply_nil {x : Value} (hk : 2 ≤ k) : wpA (callN Try.prog k 20 [.pointer none, x]) σ Q ↔ Q (.tuple #[.int .i64 0, .agg #[.bool true, .int .i64 0, .int .i64 2]]) ((σ.push (.cells [.bool false, .int .i64 0, .int .i64 0] 33 false)).put σ.next (some (.cells [.bool true, .int .i64 0, .int .i64 2] 33 false))) := by
  rw [callN_at (by omega), R20.eq]
  simp [R20.d_71, R20.top, none_nil (show 1 ≤ k - 1 by omega)]
theorem ack_zero {b : Nat} {v : Value} (hb : σ.get b = some (.cells [.map none, v] 49 false)) (hk : 2 ≤ k) : wpA (callN Try.prog k 23 [ptr b]) σ Q ↔ Q (.tuple #[.slice none 0 0, .int .i64 7]) σ := by
  rw [callN_at (by omega), R23.eq]
  simp [R23.top, none_zero hb (show 1 ≤ k - 1 by omega)]
theorem offer_nil {x : Value} (hk : 2 ≤ k) : wpA (callN Try.prog k 21 [.pointer none, x]) σ Q ↔ Q (.int .i64 7) σ := by
  rw [callN_at (by omega), R21.eq]
  simp [R21.top, none_nil (show 1 ≤ k - 1 by omega)]
theorem offer_zero {x : Value} {b : Nat} {v : Value} (hb : σ.get b = some (.cells [.map none, v] 49 false)) (hk : 2 ≤ k) : wpA (callN Try.prog k 21 [ptr b, x]) σ Q ↔ Q (.int .i64 7) σ := by
  rw [callN_at (by omega), R21.eq]
  simp [R21.top, none_zero hb (show 1 ≤ k - 1 by omega)]
theorem get_nil {x : Value} (hk : 2 ≤ k) : wpA (callN Try.prog k 19 [.pointer none, x]) σ Q ↔ Q (.int .u32 0) σ := by
  rw [callN_at (by omega), R19.eq]
  simp [R19.top, none_nil (show 1 ≤ k - 1 by omega)]
theorem open_zero {b : Nat} {v : Value} (hb : σ.get b = some (.cells [.map none, v] 49 false)) (hk : 2 ≤ k) : wpA (callN Try.prog k 22 [ptr b]) σ Q ↔ Q (.int .i64 0) σ := by
  rw [callN_at (by omega), R22.eq]
  simp [R22.top, none_zero hb (show 1 ≤ k - 1 by omega)]
theorem law_SettingZero {x : Value} {id : Int} (hk : 100 ≤ k) : wpA (callN Try.prog k 7 [x, .int .i64 id]) σ fun v _ => v = .bool true := by
  rw [callN_at (by omega), R7.eq]
  have h2 : 2 ≤ k - 1 := by omega
  generalize hk1 : k - 1 = k1 at h2
  have z1 : ¬ σ.next = σ.next + 1 := by omega
  have z2 : ¬ σ.next = σ.next + 1 + 1 := by omega
  have z3 : ¬ σ.next + 1 = σ.next + 1 + 1 := by omega
  simp [R7.g_43, R7.g_46, R7.g_51, R7.g_55, R7.g_60, R7.g_63, R7.g_67, R7.top, apply_nil h2, offer_nil h2, get_nil h2, z1]
  rw [ack_zero (v := .slice none 0 0) (by simp [z1, z2]) h2]
  simp [z3, offer_nil h2]
  rw [offer_zero (v := .slice none 0 0) (by simp [z1, z2]) h2]
  simp [get_nil h2]
  rw [open_zero (v := .slice none 0 0) (by simp [z1, z2]) h2]
  simp
end
end Go.Proofs.Ytlgeeibaohdjhaa
