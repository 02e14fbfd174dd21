/- HuffEncodes. -/
import Derived.Test.YtgpddhoidlpcaaaHuffM
set_option linter.unusedVariables false
set_option linter.unusedSimpArgs false
namespace Go.Proofs.Ytgpddhoidlpcaaa
open Go.Proofs.Ytgpddhoidlpcaaa.Eng
section
variable {σ : AW} {k : Nat} {Q : Value → AW → Prop}
theorem all_Bt (l : List UInt8) : (l.map Bt).all isCell = true := by rw [cellsOk_eq]; exact Bt_cell l
/-- A copy of bytes. -/
theorem aw_copy {x : Value} {l : List UInt8} {n : Nat} (hx : Sl σ x 1 n (l.map Bt)) (hn : n ≤ 2 ^ 40) : wpA (appendA 5 1 1 (.slice (some ⟨σ.next, 0, some 1⟩) 0 0) x) (σ.push (.cells [] 5 false)) fun v τ => Ext σ τ ∧ Own σ.next τ v 5 1 n (l.map Bt) := by
  refine aw_appAny (B := σ.next) (n := 0) (vs := []) (own_new (Nat.le_refl _) rfl) (hx.ext (Ext.push _ _)) (all_Bt l) (by omega) (by omega) (by simp) fun v τ h1 h2 => ?_
  rw [Nat.zero_add, List.nil_append] at h1
  exact ⟨((Ext.push σ (.cells [] 5 false)).kept (Nat.le_refl _)).trans h2, h1⟩
theorem law_HuffEncodes {x : Value} {l : List UInt8} {n : Nat} (hx : Sl σ x 1 n (l.map Bt)) (hl : l.length < bigH) (hk : 8 * bigH * 4 + 1600 ≤ k) : wpA (callN Try.prog k 6 [x]) σ fun v _ => v = .bool true := by
  have e1 : n = l.length := by have := hx.1; simp at this; omega
  subst e1
  rw [callN_at (by omega), R6.eq]
  have hbH : bigH = 4194304 := rfl
  have hbig : 8 * bigH * 4 + 1599 ≤ k - 1 := by omega
  generalize hk1 : k - 1 = k1 at hbig
  have hl2 : l.length < 4194304 := hl
  have hen : bigH + 1400 ≤ k1 := by omega
  have hre : 8 * bigH * 4 + 1500 ≤ k1 := by omega
  have hle : bigH + 1300 ≤ k1 := by omega
  have hawk : ∀ τ, wpA (callN Try.prog k1 16 []) τ fun v _ => v = .bool true := fun τ => awake3_spec (by omega)
  have h40 : l.length ≤ 2 ^ 40 := by omega
  clear hbig hbH hk hk1
  simp [R6.d_9, R6.top, zeros]
  refine (aw_copy hx h40).mono ?_
  rintro c τ ⟨he, oc⟩
  refine (encode_spec oc.sl hl hen).mono ?_
  rintro w τ2 ⟨he2, ow⟩
  simp [toStr_own ow]
  have hx2 := (hx.ext he).ext he2
  refine (rencode_spec hx2 hl hre).mono ?_
  rintro u τ3 ⟨he3, ou⟩
  simp [here_iff, toStr_own (ow.ext he3), toStr_own ou, wpA_eqStr, toList_strOf]
  refine (length_spec (hx2.ext he3) hl hle).mono ?_
  rintro z τ4 ⟨he4, rfl⟩
  have e := encL_len l
  simp [len_iff ow.sl, e, -Int.natCast_ediv, -Int.natCast_add]
  refine (hawk _).mono ?_
  rintro _ _ rfl
  simp
end
end Go.Proofs.Ytgpddhoidlpcaaa
