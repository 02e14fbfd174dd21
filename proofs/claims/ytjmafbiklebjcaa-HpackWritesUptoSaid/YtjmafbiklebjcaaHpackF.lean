/- New encoders, limits, sizes, of both; the first call. -/
import Derived.Test.YtjmafbiklebjcaaHpackD
set_option linter.unusedVariables false
set_option linter.unusedSimpArgs false
namespace Go.Proofs.Ytjmafbiklebjcaa
open Go.Proofs.Ytjmafbiklebjcaa.Eng
def limL (least : Nat) (m : Int) : Nat := if 0 ≤ m ∧ m ≤ 65536 then min least m.toNat else least
theorem lim_le {least : Nat} (h : least ≤ 65537) (m : Int) : limL least m ≤ 65537 := by unfold limL; split <;> omega
theorem min_int {least a : Nat} : (if (a : Int) < (least : Int) then (a : Int) else (least : Int)) = ((min least a : Nat) : Int) := by split <;> omega
section
variable {σ : AW} {k : Nat} {Q : Value → AW → Prop}
theorem limit_spec {B b0 b1 told least most : Nat} {v : Value} {l : List Hd} {m : Int} (hE : EncAt 52 b0 b1 σ told least) (hT : Tab B b1 σ v l most) (hb0 : b0 < B) (hb1 : b1 < B) (hne : ¬ b0 = b1) (hB : B ≤ σ.next) (ok : TOk l most) (hk : 7100 ≤ k)
    (hq : ∀ v' τ, EncAt 52 b0 b1 τ told (limL least m) → Tab B b1 τ v' (resL l most m).1 (resL l most m).2 → Fe b0 b1 v v' σ τ → Q (.int .i64 (resE m)) τ) : wpA (callN Try.prog k 6 [ptr b0, .int .i64 m]) σ Q := by
  rw [callN_at (by omega), R6.eq]
  have hbig : 7099 ≤ k - 1 := by omega
  generalize hk1 : k - 1 = k1 at hbig
  have hEg : σ.get b0 = some (.cells [ptr b1, .int .i64 (told : Nat), .int .i64 (least : Nat)] 52 false) := hE
  simp [R6.top, enone_iff hE (show 1 ≤ k1 by omega), hEg]
  refine resize_spec hT hb1 hB ok (by omega) fun v' τ ht fr => ?_
  have frn := fr.1
  have hET : τ.get b0 = some (.cells [ptr b1, .int .i64 (told : Nat), .int .i64 (least : Nat)] 52 false) := by
    rw [fr.2.1 b0 (by omega) hne fun hc => by have := own_in hT.2 hc; omega]
    exact hEg
  by_cases hm : 0 ≤ m ∧ m ≤ 65536
  · obtain ⟨a, rfl⟩ : ∃ a : Nat, m = a := ⟨m.toNat, by omega⟩
    have e2 : resE (a : Int) = 0 := by unfold resE; rw [if_pos hm]
    have e3 : limL least (a : Int) = min least a := by unfold limL; rw [if_pos hm]; rfl
    rw [e2, e3] at hq
    rw [e2]
    simp [hET, R6.j_11, min_int]
    have hput : ∀ o, Fe b0 b1 v v' σ (τ.put b0 o) := fun o => ⟨by simpa using frn, fun c h1 h2 h3 h4 => by simp [h2]; exact fr.2.1 c h1 h3 h4, fun c hc => fr.2.2 c hc⟩
    refine hq v' _ (by simp [EncAt]; split <;> omega) (tab_same ht (by simp) (by have : ¬ b1 = b0 := fun h => hne h.symm; simp [this]) fun c h1 h2 => ?_) (hput _)
    have := own_in ht.2 h2
    have : ¬ c = b0 := by omega
    simp [this]
  · have e2 : resE m = 1 := by unfold resE; rw [if_neg hm]
    have e3 : limL least m = least := by unfold limL; rw [if_neg hm]
    rw [e2, e3] at hq
    rw [e2]
    simp [R6.j_11]
    exact hq v' τ hET ht (fr_fe fr)
theorem rlimit_spec {B b0 b1 told least most : Nat} {v : Value} {l : List Hd} {m : Int} (hE : EncAt 43 b0 b1 σ told least) (hT : RTab B b1 σ v l most) (hb0 : b0 < B) (hb1 : b1 < B) (hne : ¬ b0 = b1) (hB : B ≤ σ.next) (ok : TOk l most) (hk : 7100 ≤ k)
    (hq : ∀ v' τ, EncAt 43 b0 b1 τ told (limL least m) → RTab B b1 τ v' (resL l most m).1 (resL l most m).2 → Fe b0 b1 v v' σ τ → Q (.int .i64 (resE m)) τ) : wpA (callN Try.prog k 7 [ptr b0, .int .i64 m]) σ Q := by
  rw [callN_at (by omega), R7.eq]
  have hbig : 7099 ≤ k - 1 := by omega
  generalize hk1 : k - 1 = k1 at hbig
  have hEg : σ.get b0 = some (.cells [ptr b1, .int .i64 (told : Nat), .int .i64 (least : Nat)] 43 false) := hE
  simp [R7.top, hEg]
  refine rresize_spec hT hb1 hB ok (by omega) fun v' τ ht fr => ?_
  have frn := fr.1
  have hET : τ.get b0 = some (.cells [ptr b1, .int .i64 (told : Nat), .int .i64 (least : Nat)] 43 false) := by
    rw [fr.2.1 b0 (by omega) hne fun hc => by have := own_in hT.2 hc; omega]
    exact hEg
  by_cases hm : 0 ≤ m ∧ m ≤ 65536
  · obtain ⟨a, rfl⟩ : ∃ a : Nat, m = a := ⟨m.toNat, by omega⟩
    have e2 : resE (a : Int) = 0 := by unfold resE; rw [if_pos hm]
    have e3 : limL least (a : Int) = min least a := by unfold limL; rw [if_pos hm]; rfl
    rw [e2, e3] at hq
    rw [e2]
    simp [hET, min_int]
    have hput : ∀ o, Fe b0 b1 v v' σ (τ.put b0 o) := fun o => ⟨by simpa using frn, fun c h1 h2 h3 h4 => by simp [h2]; exact fr.2.1 c h1 h3 h4, fun c hc => fr.2.2 c hc⟩
    refine hq v' _ (by simp [EncAt]; split <;> omega) (rtab_same ht (by simp) (by have : ¬ b1 = b0 := fun h => hne h.symm; simp [this]) fun c h1 h2 => ?_) (hput _)
    have := own_in ht.2 h2
    have : ¬ c = b0 := by omega
    simp [this]
  · have e2 : resE m = 1 := by unfold resE; rw [if_neg hm]
    have e3 : limL least m = least := by unfold limL; rw [if_neg hm]
    rw [e2, e3] at hq
    rw [e2]
    simp
    exact hq v' τ hET ht (fr_fe fr)
theorem ebytes_iff {B b0 b1 told least most : Nat} {v : Value} {l : List Hd} (hE : EncAt 52 b0 b1 σ told least) (hT : Tab B b1 σ v l most) (hk : 5 ≤ k) : wpA (callN Try.prog k 10 [ptr b0]) σ Q ↔ Q (.int .i64 (total l : Nat)) σ := by
  have hEg : σ.get b0 = some (.cells [ptr b1, .int .i64 (told : Nat), .int .i64 (least : Nat)] 52 false) := hE
  have h22 : ∀ (k : Nat) (Q : Value → AW → Prop), 4 ≤ k → (wpA (callN Try.prog k 22 [ptr b0]) σ Q ↔ Q (.int .i64 (total l : Nat)) σ) := fun k Q hk => by
    rw [callN_at (by omega), R22.eq]
    simp [R22.top, und73, eqPtrU, hEg, bytes_iff hT (show 2 ≤ k - 1 by omega)]
  rw [callN_at (by omega), R10.eq]
  simp [R10.top, enone_iff hE (show 1 ≤ k - 1 by omega), h22 (k - 1) _ (by omega)]
theorem enew_iff {m : Int} (hk : 5 ≤ k) (hm : 0 ≤ m ∧ m ≤ 65536) : wpA (callN Try.prog k 4 [.int .i64 m]) σ Q ↔ Q (.tuple #[ptr (σ.next + 1), .int .i64 0]) ((σ.push (.cells [.bool true, .slice none 0 0, .int .i64 m, .int .i64 0] 64 false)).push (.cells [ptr σ.next, .int .i64 m, .int .i64 65537] 52 false)) := by
  rw [callN_at (by omega), R4.eq]
  simp [R4.top, new_iff (k := k - 1) (by omega) hm]
theorem enew_not {m : Int} (hk : 5 ≤ k) (hm : ¬ (0 ≤ m ∧ m ≤ 65536)) : wpA (callN Try.prog k 4 [.int .i64 m]) σ Q ↔ Q (.tuple #[.pointer none, .int .i64 1]) σ := by
  rw [callN_at (by omega), R4.eq]
  simp [R4.top, new_not (k := k - 1) (by omega) hm]
theorem renew_iff {m : Int} (hk : 5 ≤ k) (hm : 0 ≤ m ∧ m ≤ 65536) : wpA (callN Try.prog k 5 [.int .i64 m]) σ Q ↔ Q (.tuple #[ptr (σ.next + 1), .int .i64 0]) ((σ.push (.cells [.int .i64 m, .slice none 0 0] 60 false)).push (.cells [ptr σ.next, .int .i64 m, .int .i64 65537] 43 false)) := by
  rw [callN_at (by omega), R5.eq]
  simp [R5.top, rnew_iff (k := k - 1) (by omega) hm]
theorem renew_not {m : Int} (hk : 5 ≤ k) (hm : ¬ (0 ≤ m ∧ m ≤ 65536)) : wpA (callN Try.prog k 5 [.int .i64 m]) σ Q ↔ Q (.tuple #[.pointer none, .int .i64 1]) σ := by
  rw [callN_at (by omega), R5.eq]
  simp [R5.top, rnew_not (k := k - 1) (by omega) hm]
/-! ### the first call -/
def getH1 : Hd := ⟨[58, 109, 101, 116, 104, 111, 100], [71, 69, 84], false⟩
theorem get_find : findH [] getH1 = (2, true) := by decide +kernel
theorem whole_get : wholeL 100 65537 [] 100 [getH1] = [130] := by
  have e1 : sizesL 100 65537 100 = [] := by decide +kernel
  have e2 : (oneL [] 100 getH1).1 = [130] := by
    rw [one_whole rfl (by rw [get_find]), get_find]
    decide +kernel
  unfold wholeL
  rw [e1, blockL, blockL, e2]
  rfl
theorem awake_spec (hk : bigK + 300 ≤ k) : wpA (callN Try.prog k 12 []) σ fun v _ => v = .bool true := by
  rw [callN_at (by omega), R12.eq]
  have hbig : bigK + 299 ≤ k - 1 := by omega
  generalize hk1 : k - 1 = k1 at hbig
  have hk5 : 5 ≤ k1 := by unfold bigK at hbig; omega
  simp [R12.top, R12.g_45, enew_iff (m := 100) hk5 (by omega), und23, eqPtrU, zeros, List.range_succ]
  have z1 : ¬ σ.next + 1 = σ.next := by omega
  have z2 : ¬ σ.next = σ.next + 1 := by omega
  have z3 : ¬ σ.next + 1 = σ.next + 1 + 1 := by omega
  have z4 : ¬ σ.next = σ.next + 1 + 1 := by omega
  generalize hS : (((σ.push (.cells [.bool true, .slice none 0 0, .int .i64 100, .int .i64 0] 64 false)).push (.cells [ptr σ.next, .int .i64 100, .int .i64 65537] 52 false)).push (.cells [.string ⟨#[58, 109, 101, 116, 104, 111, 100]⟩, .string ⟨#[71, 69, 84]⟩, .bool false] 56 false)) = S
  have s0 : S.get σ.next = some (.cells [.bool true, .slice none 0 0, .int .i64 100, .int .i64 0] 64 false) := by rw [← hS]; simp [z2, z4]
  have s1 : S.get (σ.next + 1) = some (.cells [ptr σ.next, .int .i64 100, .int .i64 65537] 52 false) := by rw [← hS]; simp [z3]
  have s2 : S.get (σ.next + 1 + 1) = some (.cells (getH1.cs) 56 false) := by rw [← hS]; simp; rfl
  have sn : S.next = σ.next + 3 := by rw [← hS]; simp
  clear hS
  have hT : Tab (σ.next + 2) σ.next S (.slice none 0 0) [] 100 := ⟨by simpa [total] using s0, by simpa using Own.nil _ _ _ _⟩
  have hx : Sl S (.slice (some ⟨σ.next + 1 + 1, 0, some 3⟩) 1 1) 3 [getH1].length ([getH1].flatMap Hd.cs) := ⟨rfl, .inr ⟨_, 0, 1, getH1.cs, 56, false, rfl, Nat.le_refl _, by omega, .inr ⟨s2, by simp [Hd.cs], by simp [Hd.cs]⟩⟩⟩
  refine enc_spec (told := 100) (least := 65537) (b1 := σ.next) (hs := [getH1]) s1 hT (by omega) (by omega) z1 (by omega) ⟨by omega, by simp [total], by simp⟩ (by omega) hx (fun c hc => ?_) (by simp) (by omega) ⟨fun hb => ?_, fun hb r v' τ m => ?_⟩
  · obtain ⟨o, s, n, cc, he⟩ := hc
    injection he with he; injection he with he; injection he with he
    refine ⟨by omega, by omega, ?_⟩
    rintro ⟨o', s', n', cc', he'⟩
    cases he'
  · exact absurd hb (by decide)
  · have ow := m.own
    rw [whole_get] at ow
    have hsl := ow.sl
    have g0 := (at1_all (σ := τ) (k := .i64) (i := 0) (x := 130) hsl rfl)
    have e0 : ((0 : Nat) : Int) = 0 := rfl
    rw [e0] at g0
    simp [R12.g_27, R12.g_32, len_iff hsl, ↓g0, Bt]
end
end Go.Proofs.Ytjmafbiklebjcaa

namespace Go.Proofs.Ytjmafbiklebjcaa
open Go.Proofs.Ytjmafbiklebjcaa.Eng
/-- A call of a script, as it lies. -/
structure OpE where
  what : Int
  n : Int
  x : Value
  hs : List Hd
def OpE.cs (o : OpE) : List Value := [.int .i64 o.what, .int .i64 o.n, o.x]
theorem OpE.len (o : OpE) : o.cs.length = 3 := rfl
def OpAt (σ : AW) (o : OpE) : Prop := Sl σ o.x 3 o.hs.length (o.hs.flatMap Hd.cs) ∧ o.hs.length ≤ 1048576
theorem OpAt.ext {σ τ : AW} {o : OpE} (h : OpAt σ o) (k : Ext σ τ) : OpAt τ o := ⟨h.1.ext k, h.2⟩
structure Both (B b0 b1 c0 c1 : Nat) (σ : AW) (v w : Value) (l : List Hd) (most told least : Nat) : Prop where
  e : EncAt 52 b0 b1 σ told least
  f : EncAt 43 c0 c1 σ told least
  t : Tab B b1 σ v l most
  r : RTab B c1 σ w l most
  hb0 : b0 < B
  hb1 : b1 < B
  hc0 : c0 < B
  hc1 : c1 < B
  d1 : ¬ b0 = b1
  d2 : ¬ c0 = c1
  d3 : ¬ c0 = b0
  d4 : ¬ c0 = b1
  d5 : ¬ c1 = b0
  d6 : ¬ c1 = b1
  le : B ≤ σ.next
  ap : ∀ c, InBlk v c → ¬ InBlk w c
  ok : TOk l most
  ll : least ≤ 65537
/-- What is beside is as it was. -/
theorem other_fe {T : Nat → Nat → AW → Value → List Hd → Nat → Prop} (ts : TSame T) (to : TOwn T) {e : TypeId} {B b0 b1 c0 c1 told least most : Nat} {σ τ : AW} {v v' w : Value} {l : List Hd} (hT : T B c1 σ w l most) (hE : EncAt e c0 c1 σ told least) (low : ∀ c, InBlk v c → B ≤ c) (hc0 : c0 < B) (hc1 : c1 < B) (hB : B ≤ σ.next)
    (d3 : ¬ c0 = b0) (d4 : ¬ c0 = b1) (d5 : ¬ c1 = b0) (d6 : ¬ c1 = b1) (hb0 : b0 < B) (hb1 : b1 < B) (ap : ∀ c, InBlk v c → ¬ InBlk w c) (f : Fe b0 b1 v v' σ τ) : EncAt e c0 c1 τ told least ∧ T B c1 τ w l most ∧ ∀ c, InBlk v' c → ¬ InBlk w c := by
  refine ⟨?_, ts hT f.1 (f.2.1 c1 (by omega) d5 d6 fun h => by have := low c1 h; omega) (fun c h1 h2 => ?_), fun c h1 h2 => ?_⟩
  · show τ.get c0 = _
    rw [f.2.1 c0 (by omega) d3 d4 fun h => by have := low c0 h; omega]
    exact hE
  · have := to hT c h2
    exact f.2.1 c h1 (by omega) (by omega) fun h => ap c h h2
  · rcases f.2.2 c h1 with g | g
    · exact ap c g h2
    · have := to hT c h2
      omega
theorem fe_kept {B B0 b0 b1 : Nat} {v v' : Value} {σ τ : AW} (f : Fe b0 b1 v v' σ τ) (low : ∀ c, InBlk v c → B ≤ c) (h0 : B0 ≤ b0) (h1 : B0 ≤ b1) (hB : B0 ≤ B) (hn : B0 ≤ σ.next) : Kept B0 σ τ := ⟨f.1, fun c hc => f.2.1 c (by omega) (by omega) (by omega) fun h => by have := low c h; omega⟩
theorem Both.ext {B b0 b1 c0 c1 : Nat} {σ τ : AW} {v w : Value} {l : List Hd} {most told least : Nat} (h : Both B b0 b1 c0 c1 σ v w l most told least) (k : Ext σ τ) : Both B b0 b1 c0 c1 τ v w l most told least :=
  { h with
    e := by show τ.get b0 = _; rw [k.2 b0 (by have := h.hb0; have := h.le; omega)]; exact h.e
    f := by show τ.get c0 = _; rw [k.2 c0 (by have := h.hc0; have := h.le; omega)]; exact h.f
    t := h.t.ext (by have := h.hb1; have := h.le; omega) k
    r := h.r.ext (by have := h.hc1; have := h.le; omega) k
    le := by have := h.le; have := k.1; omega }
section
variable {σ : AW} {k : Nat} {Q : Value → AW → Prop}
/-- An element's place. -/
theorem idx_iff {α : Type} {cs : α → List Value} {z n i : Nat} {y : Value} {l : List α} {x : α} {j : IntKind} (hz : ∀ a, (cs a).length = z) (hzp : 0 < z) (hy : Sl σ y z n (l.flatMap cs)) (hx : l[i]? = some x) :
    ∃ b o ws e ro, InBlk y b ∧ b < σ.next ∧ σ.get b = some (.cells ws e ro) ∧ (∀ q, q < z → nthV ws (o + q) = nthV (cs x) q) ∧ ∀ (τ : AW) (Q : Value → AW → Prop), wpA (indexAddrA z y (.int j (i : Nat))) τ Q ↔ Q (.pointer (some ⟨b, o, none⟩)) τ := by
  have hn : n = l.length := by
    have h1 := hy.1
    rw [length_flatMap hz] at h1
    exact Nat.eq_of_mul_eq_mul_right hzp h1.symm
  have hlt : i < l.length := (List.getElem?_eq_some_iff.1 hx).1
  obtain ⟨hl, ⟨h, h0⟩ | ⟨b, o, c, ws, e, ro, rfl, hc, h3, h4⟩⟩ := hy
  · omega
  · rcases h4 with h4 | ⟨h4, h5, h6⟩
    · omega
    · refine ⟨b, o + i * z, ws, e, ro, ⟨_, _, _, _, rfl⟩, h3, h4, fun q hq => ?_, fun τ Q => wpA_iff ?_⟩
      · have hb : (i + 1) * z ≤ n * z := Nat.mul_le_mul_right z (by omega)
        rw [Nat.add_mul] at hb
        have h7 := getElem?_flatMap hz l i q hq
        rw [hx, ← h6, List.getElem?_take_of_lt (by omega), List.getElem?_drop] at h7
        rw [nthV_eq, nthV_eq, show o + i * z + q = o + (i * z + q) by omega, h7]
        rfl
      · have : (0 : Int) ≤ ((i : Nat) : Int) ∧ ((i : Nat) : Int) < (n : Int) := by omega
        simp only [indexAddrA]
        rw [if_pos this]
        rfl
end
end Go.Proofs.Ytjmafbiklebjcaa

namespace Go.Proofs.Ytjmafbiklebjcaa
open Go.Proofs.Ytjmafbiklebjcaa.Eng
section
variable {σ : AW} {k : Nat} {Q : Value → AW → Prop}
theorem neStr_iff {P : Program} {t : TypeId} {a b : List UInt8} : wpA (binA P .neq t (.string (strOf a)) (.string (strOf b))) σ Q ↔ Q (.bool !(decide (a = b))) σ := by
  rw [wpA_neStr, toList_strOf]
/-- Behind each call: both sizes. -/
theorem after_spec {B b0 b1 c0 c1 most told least i : Nat} {v w : Value} {l : List Hd} {rec : Value → AM Value} (h : Both B b0 b1 c0 c1 σ v w l most told least) (hi : i < 1048576) (hk : 7000 ≤ k)
    (hrec : ∀ τ, Ext σ τ → wpA (rec (.int .i64 ((i + 1 : Nat) : Int))) τ Q) : wpA (R3.j_36 (callN Try.prog k) k rec (ptr b0) (ptr c0) (.int .i64 i)) σ Q := by
  have hwi : IntKind.i64.wrap ((i : Int) + 1) = ((i + 1 : Nat) : Int) := wrap64 (by omega) (by omega)
  have hFg : σ.get c0 = some (.cells [ptr c1, .int .i64 (told : Nat), .int .i64 (least : Nat)] 43 false) := h.f
  have hle := h.ok.le
  have hby := h.ok.bytes
  have hrb := rbytes_spec (σ := σ) (k := k) (b := c1) (v := w) (l := l.reverse) (m := .int .i64 (most : Nat)) h.r.1 (by have := h.hc1; have := h.le; omega) (by rw [List.length_reverse]; exact h.r.2.sl) (by rw [total_rev]; omega) (by omega)
  rw [total_rev] at hrb
  simp [R3.j_36, ebytes_iff h.e h.t (show 5 ≤ k by omega), hFg, there_iff]
  refine hrb.mono ?_
  rintro _ τ ⟨he, rfl⟩
  simp [hwi, -Int.natCast_add]
  exact hrec τ he
theorem step_spec {B b0 b1 c0 c1 most told least i n : Nat} {v w y : Value} {l : List Hd} {rec : Value → AM Value} {ops : List OpE} {o : OpE} (h : Both B b0 b1 c0 c1 σ v w l most told least) (hy : Sl σ y 3 n (ops.flatMap OpE.cs)) (hyb : ∀ c, InBlk y c → c < B ∧ c ≠ b0 ∧ c ≠ b1 ∧ c ≠ c0 ∧ c ≠ c1) (hx : ops[i]? = some o) (ho : OpAt σ o) (hob : ∀ c, InBlk o.x c → c < B ∧ c ≠ b0 ∧ c ≠ b1 ∧ c ≠ c0 ∧ c ≠ c1)
    (hi : i < 1048576) (hk : bigK + 300 ≤ k) (hrec : ∀ τ v' w' l' most' told' least', Both B b0 b1 c0 c1 τ v' w' l' most' told' least' → (∀ c, c < B → c ≠ b0 → c ≠ b1 → c ≠ c0 → c ≠ c1 → τ.get c = σ.get c) → σ.next ≤ τ.next → wpA (rec (.int .i64 ((i + 1 : Nat) : Int))) τ Q) :
    wpA (R3.g_110 (callN Try.prog k) k rec y (.bool true) (ptr b0) (ptr c0) (.int .i64 i) (.bool true)) σ Q := by
  have hk7 : 7100 ≤ k := by unfold bigK at hk; omega
  obtain ⟨hE, hF, hT, hR, hb0, hb1, hc0, hc1, d1, d2, d3, d4, d5, d6, hB, ap, ok, hll⟩ := h
  obtain ⟨ib, io, ws, ie, iro, i1, i2, i3, i4, i5⟩ := idx_iff (j := .i64) OpE.len (by omega) hy hx
  obtain ⟨j1, j2, j3, j4, j5⟩ := hyb ib i1
  have q0 : nthV ws io = some (.int .i64 o.what) := i4 0 (by omega)
  have q1 : nthV ws (io + 1) = some (.int .i64 o.n) := i4 1 (by omega)
  have q2 : nthV ws (io + 2) = some o.x := i4 2 (by omega)
  have tlow : ∀ c, InBlk v c → B ≤ c := fun c hc => (own_in hT.2 hc).1
  have rlow : ∀ c, InBlk w c → B ≤ c := fun c hc => (own_in hR.2 hc).1
  -- both are as they may be, and then
  have after : ∀ (τ : AW) (v' w' : Value) (l' : List Hd) (most' told' least' : Nat), Both B b0 b1 c0 c1 τ v' w' l' most' told' least' → (∀ c, c < B → c ≠ b0 → c ≠ b1 → c ≠ c0 → c ≠ c1 → τ.get c = σ.get c) → σ.next ≤ τ.next → wpA (R3.j_36 (callN Try.prog k) k rec (ptr b0) (ptr c0) (.int .i64 i)) τ Q := by
    intro τ v' w' l' most' told' least' hb hg hn
    refine after_spec hb hi (by omega) fun υ ex => ?_
    have hbl := hb.le
    have exn := ex.1
    exact hrec υ v' w' l' most' told' least' (hb.ext ex) (fun c h1 h2 h3 h4 h5 => by rw [ex.2 c (by omega)]; exact hg c h1 h2 h3 h4 h5) (by omega)
  by_cases hw : o.what = 1
  · simp [R3.g_110, i5, i3, q0, hw, q1]
    refine limit_spec (m := o.n) hE hT hb0 hb1 d1 hB ok hk7 fun v' τ e1 t1 f1 => ?_
    have f1n := f1.1
    obtain ⟨e2, r2, ap2⟩ := other_fe (T := RTab) rtab_tsame rtab_town hR hF tlow hc0 hc1 hB d3 d4 d5 d6 hb0 hb1 ap f1
    have hiT : τ.get ib = some (.cells ws ie iro) := by
      rw [f1.2.1 ib i2 j2 j3 fun hc => by have := tlow ib hc; omega]
      exact i3
    simp [i5, hiT, i3, q1, there_iff]
    refine rlimit_spec (m := o.n) e2 r2 hc0 hc1 d2 (by omega) ok hk7 fun w' τ2 e3 r3 f2 => ?_
    have f2n := f2.1
    have tlow' : ∀ c, InBlk v' c → B ≤ c := fun c hc => (own_in t1.2 hc).1
    obtain ⟨e4, t4, ap4⟩ := other_fe (T := Tab) tab_tsame tab_town t1 e1 rlow hb0 hb1 (by omega) (fun h => d3 h.symm) (fun h => d5 h.symm) (fun h => d4 h.symm) (fun h => d6 h.symm) hc0 hc1 (fun c h1 h2 => ap2 c h2 h1) f2
    simp
    exact after τ2 v' w' _ _ _ _ ⟨e4, e3, t4, r3, hb0, hb1, hc0, hc1, d1, d2, d3, d4, d5, d6, by omega, fun c h1 h2 => ap4 c h2 h1, ok.res o.n, lim_le hll _⟩ (fun c h1 h2 h3 h4 h5 => by rw [f2.2.1 c (by omega) h4 h5 fun hc => by have := rlow c hc; omega]; exact f1.2.1 c (by omega) h2 h3 fun hc => by have := tlow c hc; omega) (by omega)
  · obtain ⟨ho1, ho2⟩ := ho
    have z1 : ¬ ib = σ.next := by omega
    simp [R3.g_110, i5, i3, q0, hw, zeros, z1, q2]
    have hE0 : Ext σ (σ.push (.cells [] 56 false)) := Ext.push _ _
    have own0 : Own σ.next (σ.push (.cells [] 56 false)) (.slice (some ⟨σ.next, 0, some 3⟩) 0 0) 56 3 0 [] := own_new (Nat.le_refl _) rfl
    refine aw_appAny own0 (ho1.ext hE0) (cs_ok _) (by omega) (by omega) (by simp) fun a τ oa ka => ?_
    have ex : Ext σ τ := Kept.ext ((hE0.kept (Nat.le_refl _)).trans ka)
    have exn := ex.1
    rw [Nat.zero_add, List.nil_append] at oa
    have hET : EncAt 52 b0 b1 τ told least := by show τ.get b0 = _; rw [ex.2 b0 (by omega)]; exact hE
    have hFT : EncAt 43 c0 c1 τ told least := by show τ.get c0 = _; rw [ex.2 c0 (by omega)]; exact hF
    have hTT := hT.ext (by omega) ex
    have hRT := hR.ext (by omega) ex
    have hoT := ho1.ext ex
    have hiT : τ.get ib = some (.cells ws ie iro) := by rw [ex.2 ib i2]; exact i3
    -- the reference's call, behind the program's
    refine enc_spec hET hTT hb0 hb1 d1 (by omega) ok hll oa.sl (fun c hc => ?_) ho2 (by omega) ⟨fun hbad τ2 ex2 => ?_, fun hbad r v' τ2 m => ?_⟩
    · have := own_in oa hc
      exact ⟨by omega, by omega, fun hin => by have := own_in hT.2 hin; omega⟩
    · have ex2n := ex2.1
      have hi2 : τ2.get ib = some (.cells ws ie iro) := by rw [ex2.2 ib (by omega)]; exact hiT
      simp [hi2, q2]
      refine renc_spec (by show τ2.get c0 = _; rw [ex2.2 c0 (by omega)]; exact hFT) (hRT.ext (by omega) ex2) hc0 hc1 d2 (by omega) ok hll (hoT.ext ex2) (fun c hc => ?_) ho2 (by omega) ⟨fun _ τ3 ex3 => ?_, fun hgood => absurd (hbad.symm.trans hgood) (by simp)⟩
      · obtain ⟨g1, g2, g3, g4, g5⟩ := hob c hc
        exact ⟨g4, g5, fun hin => by have := rlow c hin; omega⟩
      · have exF := (ex.trans ex2).trans ex3
        have exFn := exF.1
        have hB3 : Both B b0 b1 c0 c1 σ v w l most told least := ⟨hE, hF, hT, hR, hb0, hb1, hc0, hc1, d1, d2, d3, d4, d5, d6, hB, ap, ok, hll⟩
        have := after τ3 v w l most told least (hB3.ext exF) (fun c h1 _ _ _ _ => exF.2 c (by omega)) exFn
        simp [toStr_nil, R3.g_98]
        exact this
    · have f1n := m.fe.1
      have f1 := m.fe
      obtain ⟨e2, r2, ap2⟩ := other_fe (T := RTab) rtab_tsame rtab_town hRT hFT tlow hc0 hc1 (by omega) d3 d4 d5 d6 hb0 hb1 ap f1
      have hi2 : τ2.get ib = some (.cells ws ie iro) := by
        rw [f1.2.1 ib (by omega) j2 j3 fun hc => by have := tlow ib hc; omega]
        exact hiT
      have tlow' : ∀ c, InBlk v' c → B ≤ c := fun c hc => (own_in m.tab.2 hc).1
      simp [hi2, q2]
      refine renc_spec e2 r2 hc0 hc1 d2 (by omega) ok hll (sl_same hoT f1n fun c h1 h2 => ?_) (fun c hc => ?_) ho2 (by omega) ⟨fun hb2 => absurd (hb2.symm.trans hbad) (by simp), fun _ r' w' τ3 m2 => ?_⟩
      · obtain ⟨g1, g2, g3, g4, g5⟩ := hob c h2
        exact f1.2.1 c h1 g2 g3 fun hin => by have := tlow c hin; omega
      · obtain ⟨g1, g2, g3, g4, g5⟩ := hob c hc
        exact ⟨g4, g5, fun hin => by have := rlow c hin; omega⟩
      · have f2 := m2.fe
        have f2n := f2.1
        obtain ⟨e4, t4, ap4⟩ := other_fe (T := Tab) tab_tsame tab_town m.tab m.enc rlow hb0 hb1 (by omega) (fun h => d3 h.symm) (fun h => d5 h.symm) (fun h => d4 h.symm) (fun h => d6 h.symm) hc0 hc1 (fun c h1 h2 => ap2 c h2 h1) f2
        have or : Own τ.next τ3 r 5 1 (wholeL told least l most o.hs).length ((wholeL told least l most o.hs).map Bt) := own_fr m.own f2n fun c h1 h2 h3 => f2.2.1 c h2 (by omega) (by omega) fun hin => by have := own_in hR.2 hin; omega
        have := after τ3 v' w' _ _ _ _ ⟨e4, m2.enc, t4, m2.tab, hb0, hb1, hc0, hc1, d1, d2, d3, d4, d5, d6, by omega, fun c h1 h2 => ap4 c h2 h1, m2.ok, by omega⟩ (fun c h1 h2 h3 h4 h5 => by
          rw [f2.2.1 c (by omega) h4 h5 fun hc => by have := rlow c hc; omega, f1.2.1 c (by omega) h2 h3 fun hc => by have := tlow c hc; omega]
          exact ex.2 c (by omega)) (by omega)
        simp [toStr_own or, toStr_own m2.own, neStr_iff, R3.g_98]
        exact this
theorem law_HpackWrites {most : Int} {y : Value} {ops : List OpE} {n : Nat} (hy : Sl σ y 3 n (ops.flatMap OpE.cs)) (ho : ∀ o ∈ ops, OpAt σ o) (hl : ops.length ≤ 1048576) (hk : bigK + 500 ≤ k) : wpA (callN Try.prog k 3 [.int .i64 most, y]) σ fun v _ => v = .bool true := by
  have e1 : n = ops.length := by have := hy.1; rw [length_flatMap OpE.len] at this; omega
  subst e1
  rw [callN_at (by omega), R3.eq]
  have hbig : bigK + 499 ≤ k - 1 := by omega
  generalize hk1 : k - 1 = k1 at hbig
  have hawk : ∀ τ, wpA (callN Try.prog k1 12 []) τ fun v _ => v = .bool true := fun τ => awake_spec (by omega)
  have hk5 : 5 ≤ k1 := by unfold bigK at hbig; omega
  have hkl : 1048576 < k1 := by unfold bigK at hbig; omega
  by_cases hm : 0 ≤ most ∧ most ≤ 65536
  · obtain ⟨a, rfl⟩ : ∃ a : Nat, most = a := ⟨most.toNat, by omega⟩
    simp [R3.top, R3.g_126, enew_iff (σ := σ) hk5 hm, renew_iff hk5 hm, und23, und27, und4', eqPtrU, neBoolU]
    have z1 : ¬ σ.next = σ.next + 1 := by omega
    have z2 : ¬ σ.next = σ.next + 1 + 1 := by omega
    have z3 : ¬ σ.next = σ.next + 1 + 1 + 1 := by omega
    have z4 : ¬ σ.next + 1 = σ.next + 1 + 1 := by omega
    have z5 : ¬ σ.next + 1 = σ.next + 1 + 1 + 1 := by omega
    have z6 : ¬ σ.next + 1 + 1 = σ.next + 1 + 1 + 1 := by omega
    generalize hS : ((((σ.push (.cells [.bool true, .slice none 0 0, .int .i64 (a : Int), .int .i64 0] 64 false)).push (.cells [ptr σ.next, .int .i64 (a : Int), .int .i64 65537] 52 false)).push (.cells [.int .i64 (a : Int), .slice none 0 0] 60 false)).push (.cells [ptr (σ.next + 1 + 1), .int .i64 (a : Int), .int .i64 65537] 43 false)) = S
    have s0 : S.get σ.next = some (.cells [.bool true, .slice none 0 0, .int .i64 (a : Int), .int .i64 0] 64 false) := by rw [← hS]; simp [z1, z2, z3]
    have s1 : S.get (σ.next + 1) = some (.cells [ptr σ.next, .int .i64 (a : Int), .int .i64 65537] 52 false) := by rw [← hS]; simp [z4, z5]
    have s2 : S.get (σ.next + 1 + 1) = some (.cells [.int .i64 (a : Int), .slice none 0 0] 60 false) := by rw [← hS]; simp [z6]
    have s3 : S.get (σ.next + 1 + 1 + 1) = some (.cells [ptr (σ.next + 1 + 1), .int .i64 (a : Int), .int .i64 65537] 43 false) := by rw [← hS]; simp
    have sn : S.next = σ.next + 4 := by rw [← hS]; simp
    have se : Ext σ S := by rw [← hS]; exact (((Ext.push _ _).trans (Ext.push _ _)).trans (Ext.push _ _)).trans (Ext.push _ _)
    clear hS
    have start : Both (σ.next + 4) (σ.next + 1) σ.next (σ.next + 1 + 1 + 1) (σ.next + 1 + 1) S (.slice none 0 0) (.slice none 0 0) [] a a 65537 :=
      ⟨s1, s3, ⟨by simpa [total] using s0, by simpa using Own.nil _ _ _ _⟩, ⟨by simpa using s2, by simpa using Own.nil _ _ _ _⟩, by omega, by omega, by omega, by omega, by omega, by omega, by omega, by omega, by omega, by omega, by omega, (by rintro c ⟨o, s, n, c', h⟩; cases h), ⟨by omega, by simp [total], by simp⟩, by omega⟩
    refine aw_loop1 (fun r u υ => ∃ (i : Nat) (v w : Value) (l : List Hd) (most told least : Nat), u = .int .i64 i ∧ i ≤ ops.length ∧ r = ops.length - i ∧ Both (σ.next + 4) (σ.next + 1) σ.next (σ.next + 1 + 1 + 1) (σ.next + 1 + 1) υ v w l most told least ∧ Ext σ υ) ?_ k1 ops.length _ S ⟨0, _, _, _, _, _, _, rfl, by omega, rfl, start, se⟩ (by omega)
    rintro r rec u υ ⟨i, v, w, l, most, told, least, rfl, hi, rfl, hb, ex⟩ hrec
    have exn := ex.1
    have hyU := hy.ext ex
    by_cases hlt : i < ops.length
    · obtain ⟨o, hoi⟩ : ∃ o, ops[i]? = some o := ⟨_, List.getElem?_eq_getElem hlt⟩
      have hom := ho o (List.mem_of_getElem? hoi)
      have hlt' : (i : Int) < (ops.length : Int) := by omega
      have := step_spec (Q := fun v _ => v = .bool true) (rec := rec) hb hyU (fun c hc => by have := sl_blk hy hc; omega) hoi (hom.ext ex) (fun c hc => by have := sl_blk hom.1 hc; omega) (by omega) (show bigK + 300 ≤ k1 by omega) fun τ v' w' l' most' told' least' hb' hg hn => hrec (ops.length - (i + 1)) _ _ (by omega) ⟨i + 1, v', w', l', most', told', least', rfl, by omega, rfl, hb', ⟨by omega, fun c hc => by rw [hg c (by omega) (by omega) (by omega) (by omega) (by omega)]; exact ex.2 c hc⟩⟩
      simp [R3.b_115, und27, nePtrU, len_iff hyU, hlt, hlt']
      exact this
    · have e : i = ops.length := by omega
      subst e
      simp [R3.b_115, R3.g_110, und27, nePtrU, len_iff hyU]
      exact hawk _
  · simp [R3.top, R3.g_126, enew_not (σ := σ) hk5 hm, renew_not hk5 hm, und23, und27, und4', eqPtrU, neBoolU]
    refine aw_loop1 (fun r u υ => True) ?_ k1 0 _ σ trivial (by omega)
    rintro r rec u υ _ _
    simp [R3.b_115, R3.g_110, und27, nePtrU]
    exact hawk _
end
end Go.Proofs.Ytjmafbiklebjcaa
