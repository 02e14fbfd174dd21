/- Bytes, texts, lists that grow. -/
import Derived.Test.YtjmafbiklebjcaaEngV
set_option linter.unusedVariables false
set_option linter.unusedSimpArgs false
namespace Go.Proofs.Ytjmafbiklebjcaa.Eng
section
variable {σ : AW} {Q : Value → AW → Prop}
/-- A byte. -/
def Bt (a : UInt8) : Value := .int .u8 (a.toNat : Int)
theorem Bt_cell (l : List UInt8) : cellsOk (l.map Bt) = true := by
  induction l with
  | nil => rfl
  | cons a l ih => simp [Bt, ih]
theorem ofBytes_Bt : ∀ (l : List UInt8), ofBytes (l.map Bt) = some l
  | [] => rfl
  | a :: l => by simp [Bt, ofBytes, ofBytes_Bt l]
def strOf (l : List UInt8) : ByteArray := ⟨l.toArray⟩
theorem toStr_nil {n c : Nat} : wpA (toStrA (.slice none n c)) σ Q ↔ Q (.string .empty) σ := wpA_iff rfl
theorem toStr_own {B : Nat} {e : TypeId} {v : Value} {n : Nat} {l : List UInt8} (h : Own B σ v e 1 n (l.map Bt)) : wpA (toStrA v) σ Q ↔ Q (.string (strOf l)) σ := by
  obtain ⟨hl, ⟨rfl, rfl⟩ | ⟨b, c, ws, rfl, hc, hB, hlt, hg, hw, ht⟩⟩ := h
  · have : l = [] := by simpa using hl
    subst this
    exact wpA_iff rfl
  · refine wpA_iff ?_
    have hcs : σ.cells0 b 0 n = some (l.map Bt) := by
      have hll : l.length = n := by simpa using hl
      unfold AW.cells0
      by_cases h0 : n = 0
      · rw [if_pos h0]
        have : l = [] := List.length_eq_zero_iff.1 (by omega)
        rw [this]; rfl
      rw [if_neg h0]
      simp only [AW.cells, hg]
      rw [if_pos (by omega), List.drop_zero, ← ht, Nat.mul_one]
    simp only [toStrA, hcs, ofBytes_Bt]
    rfl
theorem toStr_sl {v : Value} {n : Nat} {l : List UInt8} (h : Sl σ v 1 n (l.map Bt)) : wpA (toStrA v) σ Q ↔ Q (.string (strOf l)) σ := by
  obtain ⟨hl, ⟨rfl, rfl⟩ | ⟨b, o, c, ws, e, ro, rfl, hc, hlt, h4⟩⟩ := h
  · have : l = [] := by simpa using hl
    subst this
    exact wpA_iff rfl
  · have hll : l.length = n := by simpa using hl
    refine wpA_iff ?_
    have hcs : σ.cells0 b o n = some (l.map Bt) := by
      unfold AW.cells0
      by_cases h0 : n = 0
      · rw [if_pos h0]
        have : l = [] := List.length_eq_zero_iff.1 (by omega)
        rw [this]; rfl
      rw [if_neg h0]
      rcases h4 with h4 | ⟨hg, hw, ht⟩
      · exact absurd h4 h0
      simp only [AW.cells, hg]
      rw [if_pos (by omega), ← ht, Nat.mul_one]
    simp only [toStrA, hcs, ofBytes_Bt]
    rfl
/-- Whatever is appended, nothing at all among it. -/
theorem aw_appAny {B : Nat} {e : TypeId} {z bytes n m : Nat} {s x : Value} {vs us : List Value} (hs : Own B σ s e z n vs) (hx : Sl σ x z m us) (hc : us.all isCell = true) (hb : 0 < bytes) (hroom : (n + m) * bytes ≤ 2 ^ 47) (hB : B ≤ σ.next)
    (h : ∀ v τ, Own B τ v e z (n + m) (vs ++ us) → Kept B σ τ → Q v τ) : wpA (appendA e z bytes s x) σ Q := by
  rcases Nat.eq_zero_or_pos m with h0 | hm
  · subst h0
    have hu : us = [] := by have := hx.1; exact List.length_eq_zero_iff.1 (by simpa using this)
    subst hu
    have hsrc : σ.source z x = some (0, []) := by
      obtain ⟨_, ⟨rfl, _⟩ | ⟨b, o, c, ws, e, ro, rfl, _⟩⟩ := hx
      · rfl
      · simp [AW.source]
    refine ⟨s, σ, ?_, h s σ (by simpa using hs) (Kept.refl _ _)⟩
    obtain ⟨_, ⟨rfl, rfl⟩ | ⟨b, c, ws, rfl, hcl, _⟩⟩ := hs
    · simp [appendA, hsrc]
    · simp [appendA, hsrc, hcl]
  · exact aw_append hs hx hm hc hb hroom hB fun v τ h1 h2 _ _ => h v τ h1 (h2.kept hs hB)
theorem aw_app1 {B : Nat} {e : TypeId} {bytes n : Nat} {s x : Value} {vs : List Value} (hs : Own B σ s e 1 n vs) (hx : isCell x = true) (hb : 0 < bytes) (hroom : (n + 1) * bytes ≤ 2 ^ 47) (hB : B ≤ σ.next)
    (h : ∀ v τ, Own B τ v e 1 (n + 1) (vs ++ [x]) → Kept B σ τ → Q v τ) : wpA (appendA e 1 bytes s (.slice (some ⟨σ.next, 0, some 1⟩) 1 1)) (σ.push (.cells [x] e false)) Q := by
  have hs' := hs.ext (Ext.push σ (.cells [x] e false))
  refine aw_append hs' (m := 1) (us := [x]) ⟨rfl, .inr ⟨σ.next, 0, 1, [x], e, false, rfl, Nat.le_refl _, by simp, .inr ⟨by simp, by simp, rfl⟩⟩⟩ (by omega) (by simp [hx]) hb hroom (by simp; omega) fun v τ h1 h2 _ _ => h v τ h1 ?_
  exact ((Ext.push σ _).kept hB).trans (h2.kept hs' (by simp; omega))
/-- Elements of many cells. -/
theorem aw_appz {B : Nat} {e : TypeId} {z bytes n : Nat} {s : Value} {us vs : List Value} (hs : Own B σ s e z n vs) (hz : us.length = z) (hx : cellsOk us = true) (hb : 0 < bytes) (hroom : (n + 1) * bytes ≤ 2 ^ 47) (hB : B ≤ σ.next)
    (h : ∀ v τ, Own B τ v e z (n + 1) (vs ++ us) → Kept B σ τ → Q v τ) : wpA (appendA e z bytes s (.slice (some ⟨σ.next, 0, some z⟩) 1 1)) (σ.push (.cells us e false)) Q := by
  have hs' := hs.ext (Ext.push σ (.cells us e false))
  refine aw_append hs' (m := 1) (us := us) ⟨by omega, .inr ⟨σ.next, 0, 1, us, e, false, rfl, Nat.le_refl _, by simp, .inr ⟨by simp, by simp; omega, by rw [List.drop_zero, List.take_of_length_le (by omega)]⟩⟩⟩ (by omega) (by rw [cellsOk_eq]; exact hx) hb hroom (by simp; omega) fun v τ h1 h2 _ _ => h v τ h1 ?_
  exact ((Ext.push σ _).kept hB).trans (h2.kept hs' (by simp; omega))
/-- A slice that has just been made. -/
theorem own_new {B : Nat} {e : TypeId} {z n : Nat} {vs : List Value} (hB : B ≤ σ.next) (hl : vs.length = n * z) : Own B (σ.push (.cells vs e false)) (.slice (some ⟨σ.next, 0, some z⟩) n n) e z n vs :=
  ⟨hl, .inr ⟨σ.next, n, vs, rfl, Nat.le_refl _, hB, by simp, by simp, by omega, by rw [List.take_of_length_le (by omega)]⟩⟩

/-! ### numbers of bytes -/
theorem u8_or {a c : Nat} (ha : a < 256) (hc : c < 256) : IntKind.u8.wrap ((BitVec.ofInt IntKind.u8.bits (a : Int) ||| BitVec.ofInt IntKind.u8.bits (c : Int)).toNat : Int) = ((a ||| c : Nat) : Int) := by
  have h8 : IntKind.u8.bits = 8 := rfl
  have hlt : a ||| c < 2 ^ 8 := Nat.or_lt_two_pow ha hc
  rw [h8, BitVec.ofInt_natCast, BitVec.ofInt_natCast, BitVec.toNat_or, BitVec.toNat_ofNat, BitVec.toNat_ofNat, Nat.mod_eq_of_lt ha, Nat.mod_eq_of_lt hc]
  exact wrap_id (by simp [Lit.wf, IntKind.min, IntKind.max, IntKind.signed, IntKind.bits]; omega)
theorem u8_and {a c : Nat} (ha : a < 256) (hc : c < 256) : IntKind.u8.wrap ((BitVec.ofInt IntKind.u8.bits (a : Int) &&& BitVec.ofInt IntKind.u8.bits (c : Int)).toNat : Int) = ((a &&& c : Nat) : Int) := by
  have h8 : IntKind.u8.bits = 8 := rfl
  have hlt : a &&& c < 2 ^ 8 := Nat.and_lt_two_pow a hc
  rw [h8, BitVec.ofInt_natCast, BitVec.ofInt_natCast, BitVec.toNat_and, BitVec.toNat_ofNat, BitVec.toNat_ofNat, Nat.mod_eq_of_lt ha, Nat.mod_eq_of_lt hc]
  exact wrap_id (by simp [Lit.wf, IntKind.min, IntKind.max, IntKind.signed, IntKind.bits]; omega)
theorem wpA_orU8 {P : Program} {t : TypeId} {a c : Nat} (ha : a < 256) (hc : c < 256) : wpA (binA P .or t (.int .u8 (a : Int)) (.int .u8 (c : Int))) σ Q ↔ Q (.int .u8 ((a ||| c : Nat) : Int)) σ := by
  rw [wpA_or, u8_or ha hc]
theorem wpA_andU8 {P : Program} {t : TypeId} {a c : Nat} (ha : a < 256) (hc : c < 256) : wpA (binA P .and t (.int .u8 (a : Int)) (.int .u8 (c : Int))) σ Q ↔ Q (.int .u8 ((a &&& c : Nat) : Int)) σ := by
  rw [wpA_and, u8_and ha hc]
theorem u8_wrap (a : Nat) : IntKind.u8.wrap (a : Int) = ((a % 256 : Nat) : Int) := by
  simp [IntKind.wrap, IntKind.signed, IntKind.bits]
theorem Bt_lt {a : Nat} (h : a < 256) : (Value.int .u8 (a : Int)) = Bt (UInt8.ofNat a) := by
  simp [Bt]
  omega
theorem u8_of (a : Nat) : (Value.int .u8 ((a % 256 : Nat) : Int)) = Bt (UInt8.ofNat a) := by
  simp [Bt]
end
end Go.Proofs.Ytjmafbiklebjcaa.Eng
