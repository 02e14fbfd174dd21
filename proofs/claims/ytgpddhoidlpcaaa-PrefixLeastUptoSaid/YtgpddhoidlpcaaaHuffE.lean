/- How long codes are. -/
import Derived.Test.YtgpddhoidlpcaaaHuffD
set_option linter.unusedVariables false
set_option linter.unusedSimpArgs false
namespace Go.Proofs.Ytgpddhoidlpcaaa
open Go.Proofs.Ytgpddhoidlpcaaa.Eng
theorem und4 : undP Try.prog 4 isBoolT = true := undP_of Try.underlying4
def bigH : Nat := 4194304
def bitsOf (l : List UInt8) : Nat := (l.map fun c => (codeOf c.toNat).2).sum
theorem bits_snoc (l : List UInt8) (c : UInt8) : bitsOf (l ++ [c]) = bitsOf l + (codeOf c.toNat).2 := by simp [bitsOf]
theorem bits_le : ∀ (l : List UInt8), 5 * l.length ≤ bitsOf l ∧ bitsOf l ≤ 30 * l.length
  | [] => by simp [bitsOf]
  | c :: l => by
    have ih := bits_le l
    have hc := size_at (s := c.toNat) (by have := c.toNat_lt; omega)
    have e : bitsOf (c :: l) = (codeOf c.toNat).2 + bitsOf l := by simp [bitsOf]
    rw [e]
    simp only [List.length_cons]
    omega
theorem nth_code {s : Nat} (h : s < 257) : nthV (arrC codesLit) (s * 2 + 1) = some (.int .i64 (codeOf s).2) ∧ nthV (arrC codesLit) (s * 2) = some (.int .u32 (codeOf s).1) := by
  have h1 := getElem?_flatMap pairC_len codesLit s 1 (by omega)
  have h0 := getElem?_flatMap pairC_len codesLit s 0 (by omega)
  rw [code_at h] at h1 h0
  rw [nthV_eq, nthV_eq]
  exact ⟨h1, h0⟩
section
variable {σ : AW} {k : Nat} {Q : Value → AW → Prop}
theorem len17_eq (call : FuncId → List Value → AM Value) (x : Value) : R17.top call k x = bindV (ret (.int .i64 0)) fun v2 => bindV (call 30 []) fun v7 => bindV (newA (arrC (arrI 0)) 59) fun v3 => bindV (storeA 514 v3 v7) fun _ => bindV (ret (.int .i64 0)) fun v4 => bindV (ret x) fun v8 => bindV (lenA v8) fun v9 => bindV (ret (.int .i64 0)) fun v10 => loop2 (R17.b_32 call k v3 v8 v9) k v4 v10 := by kernel_rfl
theorem lit514 : (arrC codesLit).length = 514 := by rw [arrC_len, lit_len]
theorem lit_ok : cellsOk (arrC codesLit) = true := by decide +kernel
theorem length_spec {x : Value} {l : List UInt8} {n : Nat} (hx : Sl σ x 1 n (l.map Bt)) (hl : l.length < bigH) (hk : bigH + 1300 ≤ k) : wpA (callN Try.prog k 17 [x]) σ fun v τ => Ext σ τ ∧ v = .int .i64 (((bitsOf l + 7) / 8 : Nat) : Int) := by
  have e1 : n = l.length := by have := hx.1; simp at this; omega
  subst e1
  rw [callN_at (by omega), R17.eq, len17_eq]
  have hbig : bigH + 1299 ≤ k - 1 := by omega
  generalize hk1 : k - 1 = k1 at hbig
  have hbH : bigH = 4194304 := rfl
  simp [-splice_def, -Int.natCast_add, -Int.natCast_ediv]
  refine (codes_spec (by omega)).mono ?_
  rintro v τ ⟨he, rfl⟩
  rw [codes_lit]
  have hz : (arrC (arrI 0)).length = 514 := by rw [arrC_len, arrI_len]
  simp [zero514, lit514, hz, lit_ok, -splice_def, -Int.natCast_add, -Int.natCast_ediv]
  rw [splice_whole (by rw [hz, lit514]), letL_def]
  have hl2 : l.length < 4194304 := hl
  have hbig2 : 4194304 + 1299 ≤ k1 := hbig
  clear hz hbH hbig hl hk hk1
  generalize hT : (τ.push (.cells (arrC (arrI 0)) 59 false)).put τ.next (some (.cells (arrC codesLit) 59 false)) = T
  have hTb : T.get τ.next = some (.cells (arrC codesLit) 59 false) := by rw [← hT]; simp
  have hTk : Kept σ.next σ T := by rw [← hT]; exact ((he.kept (Nat.le_refl _)).push he.1 _).put he.1 _
  clear hT
  have hxT := hx.kept (Nat.le_refl _) hTk
  simp [len_iff hx, -Int.natCast_add, -Int.natCast_ediv]
  refine aw_loop2 (fun r u w τ' => ∃ i : Nat, u = .int .i64 (bitsOf (l.take i) : Nat) ∧ w = .int .i64 i ∧ i ≤ l.length ∧ r = l.length - i ∧ τ' = T) ?_ k1 l.length _ _ T ⟨0, rfl, rfl, by omega, rfl, rfl⟩ (by omega)
  rintro r rec u w τ' ⟨i, rfl, rfl, hi, rfl, rfl⟩ hrec
  by_cases hlt : i < l.length
  · obtain ⟨c, hc⟩ : ∃ c, l[i]? = some c := ⟨_, List.getElem?_eq_getElem hlt⟩
    have hc256 : c.toNat < 256 := c.toNat_lt
    have hcz : (c.toNat : Int) < 257 := by omega
    obtain ⟨q1, q2⟩ := nth_code (s := c.toNat) (by omega)
    have htk : l.take (i + 1) = l.take i ++ [c] := by rw [List.take_add_one, hc]; rfl
    have hb := bits_le (l.take i)
    have hlen : (l.take i).length = i := by rw [List.length_take]; omega
    have hs := size_at (s := c.toNat) (by omega)
    have hwi : IntKind.i64.wrap ((i : Int) + 1) = ((i + 1 : Nat) : Int) := wrap64 (by omega) (by omega)
    have hwb : IntKind.i64.wrap ((bitsOf (l.take i) : Int) + ((codeOf c.toNat).2 : Int)) = ((bitsOf (l.take (i + 1)) : Nat) : Int) := by rw [htk, bits_snoc, wrap64 (by omega) (by omega)]; omega
    simp [R17.b_32, hlt, ↓at1_all hxT hc, Bt, hTb, q1, hcz, hwi, hwb, -Int.natCast_add]
    exact hrec (l.length - (i + 1)) _ _ _ (by omega) ⟨i + 1, rfl, rfl, by omega, rfl, rfl⟩
  · have e : i = l.length := by omega
    subst e
    have hb := bits_le l
    have hw7 : IntKind.i64.wrap ((bitsOf l : Int) + 7) = ((bitsOf l + 7 : Nat) : Int) := by rw [wrap64 (by omega) (by omega)]; omega
    have hw8 : IntKind.i64.wrap (((bitsOf l + 7 : Nat) : Int) / 8) = (((bitsOf l + 7) / 8 : Nat) : Int) := by rw [show ((bitsOf l + 7 : Nat) : Int) / 8 = (((bitsOf l + 7) / 8 : Nat) : Int) by omega]; exact wrap64 (by omega) (by omega)
    rw [List.take_length]
    simp [R17.b_32, hw7, hw8, -Int.natCast_add, -Int.natCast_ediv]
    exact hTk
theorem law_HuffSizes {x : Value} {l : List UInt8} {n : Nat} (hx : Sl σ x 1 n (l.map Bt)) (hl : l.length < bigH) (hk : bigH + 1400 ≤ k) : wpA (callN Try.prog k 5 [x]) σ fun v _ => v = .bool true := by
  have e1 : n = l.length := by have := hx.1; simp at this; omega
  subst e1
  rw [callN_at (by omega), R5.eq]
  have hbig : bigH + 1399 ≤ k - 1 := by omega
  generalize hk1 : k - 1 = k1 at hbig
  have hbH : bigH = 4194304 := rfl
  simp [R5.g_22, R5.g_24, R5.g_31, R5.top]
  refine (length_spec hx hl (by omega)).mono ?_
  rintro v τ ⟨he, rfl⟩
  have hb := bits_le l
  have hx' := hx
  have hawk : ∀ τ, wpA (callN Try.prog k1 16 []) τ fun v _ => v = .bool true := fun τ => awake3_spec (by omega)
  have hl2 : l.length < 4194304 := hl
  clear hbH hbig hk hk1 hl he hx
  generalize bitsOf l = b at hb ⊢
  have w1 : IntKind.i64.wrap (8 * (((b + 7) / 8 : Nat) : Int)) = 8 * (((b + 7) / 8 : Nat) : Int) := wrap64 (by omega) (by omega)
  have w2 : IntKind.i64.wrap (5 * (l.length : Int)) = 5 * (l.length : Int) := wrap64 (by omega) (by omega)
  have w3 : IntKind.i64.wrap (30 * (l.length : Int)) = 30 * (l.length : Int) := wrap64 (by omega) (by omega)
  have w4 : IntKind.i64.wrap (30 * (l.length : Int) + 7) = 30 * (l.length : Int) + 7 := wrap64 (by omega) (by omega)
  have c1 : 5 * (l.length : Int) ≤ 8 * (((b + 7) / 8 : Nat) : Int) := by omega
  have c2 : 8 * (((b + 7) / 8 : Nat) : Int) ≤ 30 * (l.length : Int) + 7 := by omega
  have c3 : decide ((((b + 7) / 8 : Nat) : Int) = 0) = decide ((l.length : Int) = 0) := by
    rw [decide_eq_decide]
    omega
  generalize hN : (((b + 7) / 8 : Nat) : Int) = N at *
  simp [R5.g_22, R5.g_24, R5.g_31, R5.top, und4, len_iff hx', w1, w2, w3, w4, c1, c2, c3]
  refine (hawk _).mono ?_
  rintro v _ rfl
  simp
end
end Go.Proofs.Ytgpddhoidlpcaaa
