/- Rules by which 'simp' goes through a printed text. -/
import Derived.Test.YtjmafbiklebjcaaEngS
set_option linter.unusedVariables false
set_option linter.unusedSimpArgs false
namespace Go.Proofs.Ytjmafbiklebjcaa.Eng
section
variable {α β : Type} {σ : AW} {Q : Value → AW → Prop}
theorem wpA_iff {m : AM α} {Q : α → AW → Prop} {v : α} {τ : AW} (h : m σ = some (v, τ)) : wpA m σ Q ↔ Q v τ :=
  ⟨fun ⟨u, υ, h1, h2⟩ => by rw [h] at h1; cases h1; exact h2, fun hq => ⟨v, τ, h, hq⟩⟩
@[simp] theorem wpA_bindV {m : AM Value} {f : Value → AM Value} : wpA (bindV m f) σ Q ↔ wpA m σ fun v τ => wpA (f v) τ Q := by
  refine ⟨fun ⟨u, υ, h1, h2⟩ => ?_, aw_bindV⟩
  obtain ⟨v, τ, h3, h4⟩ := bind_some h1
  exact ⟨v, τ, h3, u, υ, h4, h2⟩
@[simp] theorem wpA_bindS {f : AW → AM Value} : wpA (bindS f) σ Q ↔ wpA (f σ) σ Q := Iff.rfl
@[simp] theorem wpA_ret {v : Value} : wpA (ret v) σ Q ↔ Q v σ := wpA_iff rfl
@[simp] theorem wpA_len {a : Option Addr} {n c : Nat} : wpA (lenA (.slice a n c)) σ Q ↔ Q (.int .i64 n) σ := wpA_iff rfl
@[simp] theorem wpA_lenStr {s : ByteArray} : wpA (lenStrA (.string s)) σ Q ↔ Q (.int .i64 s.size) σ := wpA_iff rfl
@[simp] theorem wpA_pick {b : Bool} {x y : Value} : wpA (pickA (.bool b) x y) σ Q ↔ Q (if b = true then x else y) σ := by cases b <;> exact wpA_iff rfl
@[simp] theorem wpA_cond {b : Bool} {x y : AM Value} : wpA (condA (.bool b) x y) σ Q ↔ if b = true then wpA x σ Q else wpA y σ Q := by cases b <;> simp [condA]
@[simp] theorem wpA_guardT {b : Bool} {x y : AM Value} : wpA (guardA true (.bool b) x y) σ Q ↔ if b = true then wpA x σ Q else wpA y σ Q := by cases b <;> simp [guardA]
@[simp] theorem wpA_guardF {b : Bool} {x y : AM Value} : wpA (guardA false (.bool b) x y) σ Q ↔ if b = true then wpA y σ Q else wpA x σ Q := by cases b <;> simp [guardA]
@[simp] theorem wpA_guardU {w : Bool} {vs : Array Value} {x y : AM Value} : wpA (guardA w (.tuple vs) x y) σ Q ↔ wpA y σ Q := Iff.rfl
@[simp] theorem wpA_not {b : Bool} : wpA (unA .not (.bool b)) σ Q ↔ Q (.bool !b) σ := wpA_iff rfl
@[simp] theorem wpA_neg {k : IntKind} {n : Int} : wpA (unA .neg (.int k n)) σ Q ↔ Q (.int k (k.wrap (0 - n))) σ := wpA_iff rfl
@[simp] theorem wpA_conv {k j : IntKind} {n : Int} : wpA (convIntA k (.int j n)) σ Q ↔ Q (.int k (k.wrap n)) σ := wpA_iff rfl
@[simp] theorem wpA_convStr {s : ByteArray} : wpA (convStrA (.string s)) σ Q ↔ Q (.string s) σ := wpA_iff rfl
@[simp] theorem wpA_fieldAddr {off b o : Nat} : wpA (fieldAddrA off (.pointer (some ⟨b, o, none⟩))) σ Q ↔ Q (.pointer (some ⟨b, o + off, none⟩)) σ := wpA_iff rfl
@[simp] theorem wpA_nilCheck {a : Addr} : wpA (nilCheckA (.pointer (some a))) σ Q ↔ Q (.pointer (some a)) σ := wpA_iff rfl
@[simp] theorem wpA_min {j k : IntKind} {a b : Int} : wpA (min2A (.int k a) (.int j b)) σ Q ↔ Q (.int k (if b < a then b else a)) σ := wpA_iff rfl
@[simp] theorem wpA_max {j k : IntKind} {a b : Int} : wpA (max2A (.int k a) (.int j b)) σ Q ↔ Q (.int k (if b > a then b else a)) σ := wpA_iff rfl
@[simp] theorem wpA_callA {call : FuncId → List Value → AM Value} {f : FuncId} {cap args : List Value} : wpA (callA call (.func (.func f) #[] ⟨cap⟩) args) σ Q ↔ wpA (call f (args ++ cap)) σ Q := Iff.rfl
@[simp] theorem wpA_extract {vs : List Value} {i : Nat} : wpA (extractA (.tuple ⟨vs⟩) i) σ Q ↔ ∃ v, vs[i]? = some v ∧ Q v σ := by
  constructor
  · rintro ⟨v, τ, h1, h2⟩
    simp only [extractA] at h1
    obtain ⟨h3, rfl⟩ := liftO_some h1
    exact ⟨v, by simpa using h3, h2⟩
  · rintro ⟨v, h1, h2⟩
    exact aw_extract (by simpa using h1) h2
theorem intBin_wp {P : Program} {op : BinOp} {t : TypeId} {k : IntKind} {a b : Int} {v : Value} (hop : (match op with | .shl | .shr => false | _ => true) = true) (hv : intBin op k a b = some v) : wpA (binA P op t (.int k a) (.int k b)) σ Q ↔ Q v σ :=
  wpA_iff (by cases op <;> simp_all [binA, liftO])
variable {P : Program} {t : TypeId} {k j : IntKind} {a b : Int}
@[simp] theorem wpA_add : wpA (binA P .add t (.int k a) (.int k b)) σ Q ↔ Q (.int k (k.wrap (a + b))) σ := intBin_wp rfl rfl
@[simp] theorem wpA_sub : wpA (binA P .sub t (.int k a) (.int k b)) σ Q ↔ Q (.int k (k.wrap (a - b))) σ := intBin_wp rfl rfl
@[simp] theorem wpA_mul : wpA (binA P .mul t (.int k a) (.int k b)) σ Q ↔ Q (.int k (k.wrap (a * b))) σ := intBin_wp rfl rfl
theorem wpA_and : wpA (binA P .and t (.int k a) (.int k b)) σ Q ↔ Q (.int k (k.wrap (BitVec.ofInt k.bits a &&& BitVec.ofInt k.bits b).toNat)) σ := intBin_wp rfl rfl
theorem wpA_or : wpA (binA P .or t (.int k a) (.int k b)) σ Q ↔ Q (.int k (k.wrap (BitVec.ofInt k.bits a ||| BitVec.ofInt k.bits b).toNat)) σ := intBin_wp rfl rfl
theorem wpA_xor : wpA (binA P .xor t (.int k a) (.int k b)) σ Q ↔ Q (.int k (k.wrap (BitVec.ofInt k.bits a ^^^ BitVec.ofInt k.bits b).toNat)) σ := intBin_wp rfl rfl
@[simp] theorem wpA_eql : wpA (binA P .eql t (.int k a) (.int k b)) σ Q ↔ Q (.bool (decide (a = b))) σ := intBin_wp rfl (by by_cases h : a = b <;> simp [intBin, h])
@[simp] theorem wpA_neq : wpA (binA P .neq t (.int k a) (.int k b)) σ Q ↔ Q (.bool (decide (a ≠ b))) σ := intBin_wp rfl (by by_cases h : a = b <;> simp [intBin, h])
@[simp] theorem wpA_lss : wpA (binA P .lss t (.int k a) (.int k b)) σ Q ↔ Q (.bool (decide (a < b))) σ := intBin_wp rfl rfl
@[simp] theorem wpA_leq : wpA (binA P .leq t (.int k a) (.int k b)) σ Q ↔ Q (.bool (decide (a ≤ b))) σ := intBin_wp rfl rfl
@[simp] theorem wpA_gtr : wpA (binA P .gtr t (.int k a) (.int k b)) σ Q ↔ Q (.bool (decide (b < a))) σ := intBin_wp rfl rfl
@[simp] theorem wpA_geq : wpA (binA P .geq t (.int k a) (.int k b)) σ Q ↔ Q (.bool (decide (b ≤ a))) σ := intBin_wp rfl rfl
theorem wpA_quo (h : b ≠ 0) : wpA (binA P .quo t (.int k a) (.int k b)) σ Q ↔ Q (.int k (k.wrap (a.tdiv b))) σ := intBin_wp rfl (by simp [intBin, h])
theorem wpA_rem (h : b ≠ 0) : wpA (binA P .rem t (.int k a) (.int k b)) σ Q ↔ Q (.int k (a.tmod b)) σ := intBin_wp rfl (by simp [intBin, h])
theorem wpA_shl (h : 0 ≤ b) : wpA (binA P .shl t (.int k a) (.int j b)) σ Q ↔ Q (.int k (k.wrap (a * 2 ^ (min b.toNat k.bits)))) σ := wpA_iff (by simp [binA, shiftBin, liftO, Int.not_lt.2 h])
theorem wpA_shr (h : 0 ≤ b) : wpA (binA P .shr t (.int k a) (.int j b)) σ Q ↔ Q (.int k (a.fdiv (2 ^ (min b.toNat k.bits)))) σ := wpA_iff (by simp [binA, shiftBin, liftO, Int.not_lt.2 h])
theorem wpA_eqBool {x y : Bool} (ht : P.underlying t = some .bool) : wpA (binA P .eql t (.bool x) (.bool y)) σ Q ↔ Q (.bool (x == y)) σ := wpA_iff (by simp [binA, ifU, ht, isBoolT, eqA, ret])
theorem wpA_neBool {x y : Bool} (ht : P.underlying t = some .bool) : wpA (binA P .neq t (.bool x) (.bool y)) σ Q ↔ Q (.bool !(x == y)) σ := wpA_iff (by simp [binA, ifU, ht, isBoolT, eqA, ret])
theorem wpA_eqNil {a : Option Addr} {e : TypeId} (ht : P.underlying t = some (.pointer e)) : wpA (binA P .eql t (.pointer a) (.pointer none)) σ Q ↔ Q (.bool a.isNone) σ := wpA_iff (by simp [binA, ifU, ht, isPtrT, eqA, ret])
theorem wpA_neNil {a : Option Addr} {e : TypeId} (ht : P.underlying t = some (.pointer e)) : wpA (binA P .neq t (.pointer a) (.pointer none)) σ Q ↔ Q (.bool !a.isNone) σ := wpA_iff (by simp [binA, ifU, ht, isPtrT, eqA, ret])
theorem wpA_eqNilS {a : Option Addr} {n c n' c' : Nat} {e : TypeId} (ht : P.underlying t = some (.slice e)) : wpA (binA P .eql t (.slice a n c) (.slice none n' c')) σ Q ↔ Q (.bool a.isNone) σ := wpA_iff (by simp [binA, ifU, ht, isSliceT, eqA, ret])
theorem wpA_neNilS {a : Option Addr} {n c n' c' : Nat} {e : TypeId} (ht : P.underlying t = some (.slice e)) : wpA (binA P .neq t (.slice a n c) (.slice none n' c')) σ Q ↔ Q (.bool !a.isNone) σ := wpA_iff (by simp [binA, ifU, ht, isSliceT, eqA, ret])
theorem wpA_eqStr {x y : ByteArray} : wpA (binA P .eql t (.string x) (.string y)) σ Q ↔ Q (.bool (x.toList == y.toList)) σ := wpA_iff rfl
theorem wpA_neStr {x y : ByteArray} : wpA (binA P .neq t (.string x) (.string y)) σ Q ↔ Q (.bool !(x.toList == y.toList)) σ := wpA_iff rfl

/-! ### an element, loaded -/
variable {α : Type}
theorem aw_at1w {v : Value} {f : α → Value} {l : List α} {n : Nat} {x : α} {i : Int} (h : Sl σ v 1 n (l.map f)) (h0 : 0 ≤ i) (hi : l[i.toNat]? = some x) (hq : Q (f x) σ) : wpA (indexAddrA 1 v (.int k i)) σ fun p τ => wpA (loadA none p) τ Q := by
  have hn : n = l.length := by have := h.1; simp at this; omega
  have hlt : i.toNat < l.length := by
    rcases Nat.lt_or_ge i.toNat l.length with g | g
    · exact g
    · rw [List.getElem?_eq_none g] at hi; cases hi
  refine aw_indexSl h h0 (by omega) fun b o ws e ro hb _ _ hw => aw_load hb (v := f x) ?_ hq
  have := hw 0 (by omega)
  simp only [Nat.add_zero, Nat.mul_one] at this
  rw [this, List.getElem?_map, hi]; rfl
theorem aw_at1 {v : Value} {f : α → Value} {l : List α} {n : Nat} {x : α} {i : Int} {K : Value → AM Value} (h : Sl σ v 1 n (l.map f)) (h0 : 0 ≤ i) (hi : l[i.toNat]? = some x) (hq : wpA (K (f x)) σ Q) : wpA (bindV (indexAddrA 1 v (.int k i)) fun p => bindV (loadA none p) K) σ Q :=
  aw_bindV ((aw_at1w (Q := fun v τ => wpA (K v) τ Q) h h0 hi hq).mono fun _ _ h => aw_bindV h)
theorem aw_atFw {v w : Value} {cs : α → List Value} {z off n : Nat} {l : List α} {x : α} {i : Int} (hz : ∀ a, (cs a).length = z) (h : Sl σ v z n (l.flatMap cs)) (h0 : 0 ≤ i) (hi : l[i.toNat]? = some x) (hzp : 0 < z) (hw : (cs x)[off]? = some w) (hq : Q w σ) :
    wpA (indexAddrA z v (.int k i)) σ fun p τ => wpA (fieldAddrA off p) τ fun q υ => wpA (loadA none q) υ Q := by
  have hn : n = l.length := by
    have h1 := h.1
    rw [length_flatMap hz] at h1
    exact Nat.eq_of_mul_eq_mul_right hzp h1.symm
  have hlt : i.toNat < l.length := by
    rcases Nat.lt_or_ge i.toNat l.length with g | g
    · exact g
    · rw [List.getElem?_eq_none g] at hi; cases hi
  have hoff : off < z := by
    rcases Nat.lt_or_ge off (cs x).length with g | g
    · rw [hz] at g; exact g
    · rw [List.getElem?_eq_none g] at hw; cases hw
  refine aw_indexSl h h0 (by omega) fun b o ws e ro hb _ _ hww => aw_fieldAddr (aw_load hb (v := w) ?_ hq)
  rw [hww off hoff, getElem?_flatMap hz _ _ _ hoff, hi]
  exact hw
theorem aw_atF {v w : Value} {cs : α → List Value} {z off n : Nat} {l : List α} {x : α} {i : Int} {K : Value → AM Value} (hz : ∀ a, (cs a).length = z) (h : Sl σ v z n (l.flatMap cs)) (h0 : 0 ≤ i) (hi : l[i.toNat]? = some x) (hzp : 0 < z) (hw : (cs x)[off]? = some w) (hq : wpA (K w) σ Q) :
    wpA (bindV (indexAddrA z v (.int k i)) fun p => bindV (fieldAddrA off p) fun q => bindV (loadA none q) K) σ Q :=
  aw_bindV ((aw_atFw (Q := fun v τ => wpA (K v) τ Q) hz h h0 hi hzp hw hq).mono fun _ _ h => aw_bindV (h.mono fun _ _ h => aw_bindV h))
end
end Go.Proofs.Ytjmafbiklebjcaa.Eng
namespace Go.Proofs.Ytjmafbiklebjcaa.Eng
section
variable {σ : AW} {Q : Value → AW → Prop}
@[simp] theorem wpA_hereNil {K : AM Value} : wpA (hereV [] K) σ Q ↔ wpA K σ Q := Iff.rfl
theorem aw_hereCons {m : AM Value} {v : Value} {l : List (AM Value × Value)} {K : AM Value} (h : wpA m σ fun u _ => u = v) (hs : same v v = true) (hk : wpA (hereV l K) σ Q) : wpA (hereV ((m, v) :: l) K) σ Q := by
  obtain ⟨u, τ, h1, rfl⟩ := h
  obtain ⟨w, υ, h2, h3⟩ := hk
  refine ⟨w, υ, ?_, h3⟩
  have ht : here m u σ = some ((), σ) := by simp [here, there, h1, hs]
  show bind (here m u) (fun _ => hereAll l K) σ = some (w, υ)
  simp only [bind, ht]
  exact h2
@[simp] theorem wpA_thereNil {m : AM Value} {v : Value} {K : AM Value} : wpA (thereV [] m v K) σ Q ↔ wpA K σ Q := Iff.rfl
theorem aw_thereCons {s : AW} {m : AM Value} {v : Value} {l : List AW} {K : AM Value} (h : wpA m s fun u _ => u = v) (hs : same v v = true) (hk : wpA (thereV l m v K) σ Q) : wpA (thereV (s :: l) m v K) σ Q := by
  obtain ⟨u, τ, h1, rfl⟩ := h
  obtain ⟨w, υ, h2, h3⟩ := hk
  refine ⟨w, υ, ?_, h3⟩
  have ht : there s m u σ = some ((), σ) := by simp [there, h1, hs]
  show bind (there s m u) (fun _ => thereAll l m u K) σ = some (w, υ)
  simp only [bind, ht]
  exact h2
theorem same_sl {x : Value} {z n : Nat} {vs : List Value} (h : Sl σ x z n vs) : same x x = true := by
  obtain ⟨a, c, rfl⟩ := h.form
  simp [same]
theorem same_int {k : IntKind} {n : Int} : same (.int k n) (.int k n) = true := by simp [same]
theorem splice_one (a b : Value) : splice [a] 0 [b] = [b] := by simp [splice]
end
end Go.Proofs.Ytjmafbiklebjcaa.Eng
namespace Go.Proofs.Ytjmafbiklebjcaa.Eng
/-- What a place holds. -/
def AW.rd (σ : AW) (b off : Nat) : Option Value := match σ.get b with
  | some (.cells vs _ _) => vs[off]?
  | _ => none
section
variable {σ : AW} {Q : Value → AW → Prop}
theorem wpA_load {b off : Nat} : wpA (loadA none (.pointer (some ⟨b, off, none⟩))) σ Q ↔ ∃ v, σ.rd b off = some v ∧ Q v σ := by
  constructor
  · rintro ⟨v, τ, h1, h2⟩
    simp only [loadA] at h1
    split at h1
    · rename_i u hc
      simp only [Option.some.injEq, Prod.mk.injEq] at h1
      obtain ⟨rfl, rfl⟩ := h1
      refine ⟨u, ?_, h2⟩
      simp only [AW.cells] at hc
      unfold AW.rd
      split at hc
      · rename_i vs e ro hb
        rw [hb]
        split at hc
        · rename_i hl
          simp only [Option.some.injEq] at hc
          have : (List.take 1 (List.drop off vs))[0]? = some u := by rw [hc]; rfl
          simpa using this
        · cases hc
      · cases hc
    · cases h1
  · rintro ⟨v, h1, h2⟩
    unfold AW.rd at h1
    split at h1
    · rename_i vs e ro hb
      exact aw_load hb h1 h2
    · cases h1
theorem wpA_store {b off n : Nat} {v : Value} : wpA (storeA n (.pointer (some ⟨b, off, none⟩)) v) σ Q ↔
    ∃ vs e, σ.get b = some (.cells vs e false) ∧ v.cells.size = n ∧ off + n ≤ vs.length ∧ v.cells.toList.all isCell = true ∧ Q (.tuple #[]) (σ.put b (some (.cells (splice vs off v.cells.toList) e false))) := by
  constructor
  · rintro ⟨u, τ, h1, h2⟩
    simp only [storeA, AW.storeAt] at h1
    split at h1
    · rename_i hn
      split at h1
      · rename_i σ' hs
        simp only [Option.some.injEq, Prod.mk.injEq] at h1
        obtain ⟨rfl, rfl⟩ := h1
        split at hs
        · rename_i vs e hb
          split at hs
          · rename_i hc
            simp only [Option.some.injEq] at hs
            subst hs
            have hl : v.cells.toList.length = n := by simpa using hn
            exact ⟨vs, e, hb, hn, by rw [← hl]; exact hc.1, hc.2, h2⟩
          · cases hs
        · cases hs
      · cases h1
    · cases h1
  · rintro ⟨vs, e, hb, hn, hl, hc, hq⟩
    exact aw_store hb hn hl hc hq
/-- One object is another; all else is as it was. -/
def Upd (b : Nat) (o : AObj) (σ τ : AW) : Prop := τ.next = σ.next ∧ τ.get b = some o ∧ ∀ c, c ≠ b → τ.get c = σ.get c
theorem Upd.kept {b B : Nat} {o : AObj} {σ τ : AW} (h : Upd b o σ τ) (hb : B ≤ b) : Kept B σ τ := ⟨Nat.le_of_eq h.1.symm, fun c hc => h.2.2 c (by omega)⟩
theorem Upd.trans {b : Nat} {o o' : AObj} {σ τ υ : AW} (h : Upd b o σ τ) (k : Upd b o' τ υ) : Upd b o' σ υ := ⟨k.1.trans h.1, k.2.1, fun c hc => (k.2.2 c hc).trans (h.2.2 c hc)⟩
end
end Go.Proofs.Ytjmafbiklebjcaa.Eng
