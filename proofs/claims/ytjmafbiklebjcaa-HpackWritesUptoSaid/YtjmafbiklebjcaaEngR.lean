/- Reasoning on what the abstract machine does. -/
import Derived.Test.YtjmafbiklebjcaaEngQ
set_option linter.unusedVariables false
set_option linter.unusedSimpArgs false
namespace Go.Proofs.Ytjmafbiklebjcaa.Eng

/-- It answers, and then. -/
def wpA {α : Type} (m : AM α) (σ : AW) (Q : α → AW → Prop) : Prop := ∃ v τ, m σ = some (v, τ) ∧ Q v τ

section rules
variable {α β : Type} {σ : AW} {Q : Value → AW → Prop}
theorem wpA.mono {m : AM α} {Q Q' : α → AW → Prop} (h : wpA m σ Q) (k : ∀ v τ, Q v τ → Q' v τ) : wpA m σ Q' := by
  obtain ⟨v, τ, h1, h2⟩ := h
  exact ⟨v, τ, h1, k v τ h2⟩
theorem aw_bind {m : AM α} {f : α → AM β} {Q : β → AW → Prop} (h : wpA m σ fun v τ => wpA (f v) τ Q) : wpA (bind m f) σ Q := by
  obtain ⟨v, τ, h1, u, υ, h2, h3⟩ := h
  exact ⟨u, υ, by simp only [bind, h1, h2], h3⟩
theorem aw_bindV {m : AM Value} {f : Value → AM Value} : wpA m σ (fun v τ => wpA (f v) τ Q) → wpA (bindV m f) σ Q := aw_bind
theorem aw_bindS {f : AW → AM Value} (h : wpA (f σ) σ Q) : wpA (bindS f) σ Q := aw_bind ⟨σ, σ, rfl, h⟩
theorem aw_ret {v : α} {Q : α → AW → Prop} (h : Q v σ) : wpA (ret v) σ Q := ⟨v, σ, rfl, h⟩
theorem aw_condA {b : Bool} {x y : AM Value} (h : if b = true then wpA x σ Q else wpA y σ Q) : wpA (condA (.bool b) x y) σ Q := by
  cases b with
  | true => simpa [condA] using h
  | false => simpa [condA] using h
theorem aw_condT {x y : AM Value} (h : wpA x σ Q) : wpA (condA (.bool true) x y) σ Q := h
theorem aw_condF {x y : AM Value} (h : wpA y σ Q) : wpA (condA (.bool false) x y) σ Q := h
theorem aw_condB {b : Bool} {x y : AM Value} (ht : b = true → wpA x σ Q) (hf : b = false → wpA y σ Q) : wpA (condA (.bool b) x y) σ Q := by
  cases b with
  | true => exact ht rfl
  | false => exact hf rfl
theorem aw_condP {p : Prop} [Decidable p] {x y : AM Value} (ht : p → wpA x σ Q) (hf : ¬ p → wpA y σ Q) : wpA (condA (.bool (decide p)) x y) σ Q := by
  by_cases h : p
  · simp only [h, decide_true]; exact ht h
  · simp only [h, decide_false]; exact hf h
theorem aw_guard {w b : Bool} {x y : AM Value} (ht : b = w → wpA x σ Q) (hf : b ≠ w → wpA y σ Q) : wpA (guardA w (.bool b) x y) σ Q := by
  show wpA (if b = w then x else y) σ Q
  by_cases h : b = w
  · rw [if_pos h]; exact ht h
  · rw [if_neg h]; exact hf h
theorem aw_len {a : Option Addr} {n c : Nat} (h : Q (.int .i64 n) σ) : wpA (lenA (.slice a n c)) σ Q := ⟨_, _, rfl, h⟩
theorem aw_lenStr {s : ByteArray} (h : Q (.int .i64 s.size) σ) : wpA (lenStrA (.string s)) σ Q := ⟨_, _, rfl, h⟩
theorem aw_pick {b : Bool} {x y : Value} (h : Q (if b = true then x else y) σ) : wpA (pickA (.bool b) x y) σ Q := by cases b <;> exact ⟨_, _, rfl, h⟩
theorem aw_int {P : Program} {op : BinOp} {t : TypeId} {k : IntKind} {a b : Int} {v : Value} (hop : (match op with | .shl | .shr => false | _ => true) = true) (hv : intBin op k a b = some v) (h : Q v σ) : wpA (binA P op t (.int k a) (.int k b)) σ Q := by
  refine ⟨v, σ, ?_, h⟩
  cases op <;> simp_all [binA, liftO]
theorem aw_shift {P : Program} {op : BinOp} {t : TypeId} {k j : IntKind} {a b : Int} {v : Value} (hop : (match op with | .shl | .shr => true | _ => false) = true) (hv : shiftBin op k a b = some v) (h : Q v σ) : wpA (binA P op t (.int k a) (.int j b)) σ Q := by
  refine ⟨v, σ, ?_, h⟩
  cases op <;> simp_all [binA, liftO]
theorem aw_str {P : Program} {op : BinOp} {t : TypeId} {a b : ByteArray} {v : Value} (hv : strBin op a b = some v) (h : Q v σ) : wpA (binA P op t (.string a) (.string b)) σ Q := ⟨v, σ, by simp [binA, liftO, hv], h⟩
theorem aw_not {b : Bool} (h : Q (.bool !b) σ) : wpA (unA .not (.bool b)) σ Q := ⟨_, _, rfl, h⟩
theorem aw_neg {k : IntKind} {n : Int} (h : Q (.int k (k.wrap (0 - n))) σ) : wpA (unA .neg (.int k n)) σ Q := ⟨_, _, rfl, h⟩
theorem aw_conv {k j : IntKind} {n : Int} (h : Q (.int k (k.wrap n)) σ) : wpA (convIntA k (.int j n)) σ Q := ⟨_, _, rfl, h⟩
theorem aw_extract {vs : Array Value} {i : Nat} {v : Value} (hv : vs[i]? = some v) (h : Q v σ) : wpA (extractA (.tuple vs) i) σ Q := ⟨v, σ, by simp [extractA, liftO, hv], h⟩
theorem aw_fieldAddr {off b o : Nat} (h : Q (.pointer (some ⟨b, o + off, none⟩)) σ) : wpA (fieldAddrA off (.pointer (some ⟨b, o, none⟩))) σ Q := ⟨_, _, rfl, h⟩
theorem aw_indexAddr {z b o : Nat} {s : Option Nat} {n c : Nat} {k : IntKind} {i : Int} (h0 : 0 ≤ i) (h1 : i < (n : Int)) (hs : s.isSome = true) (h : Q (.pointer (some ⟨b, o + i.toNat * z, none⟩)) σ) : wpA (indexAddrA z (.slice (some ⟨b, o, s⟩) n c) (.int k i)) σ Q := by
  cases s with
  | none => cases hs
  | some s => exact ⟨_, _, by simp [indexAddrA, h0, h1, ret], h⟩
theorem aw_indexArrAddr {z b o len : Nat} {k : IntKind} {i : Int} (h0 : 0 ≤ i) (h1 : i < (len : Int)) (h : Q (.pointer (some ⟨b, o + i.toNat * z, none⟩)) σ) : wpA (indexArrAddrA len z (.pointer (some ⟨b, o, none⟩)) (.int k i)) σ Q :=
  ⟨_, _, by simp [indexArrAddrA, h0, h1, ret], h⟩
theorem aw_nilCheck {a : Addr} (h : Q (.pointer (some a)) σ) : wpA (nilCheckA (.pointer (some a))) σ Q := ⟨_, _, rfl, h⟩
theorem aw_min {j k : IntKind} {a b : Int} (h : Q (.int k (if b < a then b else a)) σ) : wpA (min2A (.int k a) (.int j b)) σ Q := ⟨_, _, rfl, h⟩
theorem aw_max {j k : IntKind} {a b : Int} (h : Q (.int k (if b > a then b else a)) σ) : wpA (max2A (.int k a) (.int j b)) σ Q := ⟨_, _, rfl, h⟩
theorem aw_field {k : Option Nat} {off : Nat} {cs : Array Value} {v : Value} (hv : (match k with | none => cs.toList[off]? | some n => some (.agg ((cs.toList.drop off).take n).toArray)) = some v) (h : Q v σ) : wpA (fieldA k off (.agg cs)) σ Q := by
  refine ⟨v, σ, ?_, h⟩
  cases k with
  | none => simp only at hv; simp only [fieldA, partA, liftO, hv]
  | some n => simp only at hv; injection hv with hv; subst hv; rfl
theorem aw_callA {call : FuncId → List Value → AM Value} {f : FuncId} {cap : List Value} {args : List Value} (h : wpA (call f (args ++ cap)) σ Q) : wpA (callA call (.func (.func f) #[] ⟨cap⟩) args) σ Q := h

/-! ### memory -/
theorem aw_load {b off : Nat} {vs : List Value} {e : TypeId} {ro : Bool} {v : Value} (hb : σ.get b = some (.cells vs e ro)) (hv : vs[off]? = some v) (h : Q v σ) : wpA (loadA none (.pointer (some ⟨b, off, none⟩))) σ Q := by
  refine ⟨v, σ, ?_, h⟩
  have hlt : off < vs.length := by
    rcases Nat.lt_or_ge off vs.length with g | g
    · exact g
    · rw [List.getElem?_eq_none g] at hv; cases hv
  have hd : (vs.drop off).take 1 = [v] := by
    rw [List.drop_eq_getElem_cons hlt]
    rw [List.getElem?_eq_getElem hlt] at hv
    injection hv with hv
    rw [hv]; rfl
  have : σ.cells b off 1 = some [v] := by simp only [AW.cells, hb]; rw [if_pos (by omega), hd]
  simp only [loadA, this]
theorem aw_loads {b off n : Nat} {vs : List Value} {e : TypeId} {ro : Bool} (hb : σ.get b = some (.cells vs e ro)) (hv : off + n ≤ vs.length) (h : Q (.agg ((vs.drop off).take n).toArray) σ) : wpA (loadA (some n) (.pointer (some ⟨b, off, none⟩))) σ Q := by
  refine ⟨_, σ, ?_, h⟩
  have : σ.cells b off n = some ((vs.drop off).take n) := by simp only [AW.cells, hb]; rw [if_pos hv]
  simp only [loadA, this]
theorem aw_new {vs : List Value} {e : TypeId} (hvs : vs.all isCell = true) (h : Q (.pointer (some ⟨σ.next, 0, none⟩)) (σ.push (.cells vs e false))) : wpA (newA vs e) σ Q := ⟨_, _, by simp only [newA, hvs, if_true], h⟩
theorem aw_box {v : Value} {e : TypeId} (hvs : v.cells.toList.all isCell = true) (h : Q (.pointer (some ⟨σ.next, 0, none⟩)) (σ.push (.cells v.cells.toList e false))) : wpA (boxA e v) σ Q := aw_new hvs h
theorem aw_store {b off n : Nat} {vs : List Value} {e : TypeId} {v : Value} (hb : σ.get b = some (.cells vs e false)) (hn : v.cells.size = n) (hlen : off + n ≤ vs.length) (hc : v.cells.toList.all isCell = true)
    (h : Q (.tuple #[]) (σ.put b (some (.cells (splice vs off v.cells.toList) e false)))) : wpA (storeA n (.pointer (some ⟨b, off, none⟩)) v) σ Q := by
  refine ⟨_, _, ?_, h⟩
  have hl : v.cells.toList.length = n := by simpa using hn
  simp only [storeA, hn, if_true, AW.storeAt, hb, hl, hc, hlen, and_self]
/-- A slice of what is given. -/
theorem aw_buildSlice {e : TypeId} {size len : Nat} {zero : List Value} {parts : List (Nat × Value)} {cs : List Value} (hf : fillA (fun i => some (i * size, size)) (zeros zero (len * size)) parts = some cs) (hlen : len * size ≤ 2 ^ 24) (hc : cs.all isCell = true) (hz : zero.length = size)
    (h : Q (.slice (some ⟨σ.next, 0, some size⟩) len len) (σ.push (.cells cs e false))) : wpA (buildSliceA e size len zero parts) σ Q := by
  refine ⟨_, _, ?_, h⟩
  simp only [buildSliceA, need2, hf]
  rw [if_pos ⟨hlen, hc, hz⟩]
theorem aw_build {places : List (Nat × Nat)} {zero cs : List Value} {parts : List (Nat × Value)} (hf : fillA (places[·]?) zero parts = some cs) (h : Q (.agg cs.toArray) σ) : wpA (buildA places zero parts) σ Q := ⟨_, _, by simp only [buildA, need2, hf, ret], h⟩

/-! ### loops -/
theorem aw_loop0 {F : (AM Value) → AM Value} (I : Nat → AW → Prop) (h : ∀ m rec σ, I m σ → (∀ m' σ', m' < m → I m' σ' → wpA (rec) σ' Q) → wpA (F rec) σ Q) :
    ∀ (k m : Nat) (σ : AW), I m σ → m < k → wpA (loop0 F k) σ Q := by
  intro k
  induction k with
  | zero => intro m σ _ hk; omega
  | succ k ih => exact fun m σ hI hk => h m (loop0 F k) σ hI fun m' σ' hm hI' => ih m' σ' hI' (by omega)
theorem aw_loop1 {F : (Value → AM Value) → Value → AM Value} (I : Nat → Value → AW → Prop) (h : ∀ m rec u σ, I m u σ → (∀ m' u' σ', m' < m → I m' u' σ' → wpA (rec u') σ' Q) → wpA (F rec u) σ Q) :
    ∀ (k m : Nat) (u : Value) (σ : AW), I m u σ → m < k → wpA (loop1 F k u) σ Q := by
  intro k
  induction k with
  | zero => intro m u σ _ hk; omega
  | succ k ih => exact fun m u σ hI hk => h m (loop1 F k) u σ hI fun m' u' σ' hm hI' => ih m' u' σ' hI' (by omega)
theorem aw_loop2 {F : (Value → Value → AM Value) → Value → Value → AM Value} (I : Nat → Value → Value → AW → Prop) (h : ∀ m rec u v σ, I m u v σ → (∀ m' u' v' σ', m' < m → I m' u' v' σ' → wpA (rec u' v') σ' Q) → wpA (F rec u v) σ Q) :
    ∀ (k m : Nat) (u v : Value) (σ : AW), I m u v σ → m < k → wpA (loop2 F k u v) σ Q := by
  intro k
  induction k with
  | zero => intro m u v σ _ hk; omega
  | succ k ih => exact fun m u v σ hI hk => h m (loop2 F k) u v σ hI fun m' u' v' σ' hm hI' => ih m' u' v' σ' hI' (by omega)
theorem aw_loop3 {F : (Value → Value → Value → AM Value) → Value → Value → Value → AM Value} (I : Nat → Value → Value → Value → AW → Prop) (h : ∀ m rec u v x σ, I m u v x σ → (∀ m' u' v' x' σ', m' < m → I m' u' v' x' σ' → wpA (rec u' v' x') σ' Q) → wpA (F rec u v x) σ Q) :
    ∀ (k m : Nat) (u v x : Value) (σ : AW), I m u v x σ → m < k → wpA (loop3 F k u v x) σ Q := by
  intro k
  induction k with
  | zero => intro m u v x σ _ hk; omega
  | succ k ih => exact fun m u v x σ hI hk => h m (loop3 F k) u v x σ hI fun m' u' v' x' σ' hm hI' => ih m' u' v' x' σ' hI' (by omega)
theorem aw_loop4 {F : (Value → Value → Value → Value → AM Value) → Value → Value → Value → Value → AM Value} (I : Nat → Value → Value → Value → Value → AW → Prop) (h : ∀ m rec u v x y σ, I m u v x y σ → (∀ m' u' v' x' y' σ', m' < m → I m' u' v' x' y' σ' → wpA (rec u' v' x' y') σ' Q) → wpA (F rec u v x y) σ Q) :
    ∀ (k m : Nat) (u v x y : Value) (σ : AW), I m u v x y σ → m < k → wpA (loop4 F k u v x y) σ Q := by
  intro k
  induction k with
  | zero => intro m u v x y σ _ hk; omega
  | succ k ih => exact fun m u v x y σ hI hk => h m (loop4 F k) u v x y σ hI fun m' u' v' x' y' σ' hm hI' => ih m' u' v' x' y' σ' hI' (by omega)
theorem aw_loop5 {F : (Value → Value → Value → Value → Value → AM Value) → Value → Value → Value → Value → Value → AM Value} (I : Nat → Value → Value → Value → Value → Value → AW → Prop) (h : ∀ m rec u v x y z σ, I m u v x y z σ → (∀ m' u' v' x' y' z' σ', m' < m → I m' u' v' x' y' z' σ' → wpA (rec u' v' x' y' z') σ' Q) → wpA (F rec u v x y z) σ Q) :
    ∀ (k m : Nat) (u v x y z : Value) (σ : AW), I m u v x y z σ → m < k → wpA (loop5 F k u v x y z) σ Q := by
  intro k
  induction k with
  | zero => intro m u v x y z σ _ hk; omega
  | succ k ih => exact fun m u v x y z σ hI hk => h m (loop5 F k) u v x y z σ hI fun m' u' v' x' y' z' σ' hm hI' => ih m' u' v' x' y' z' σ' hI' (by omega)
theorem aw_loop6 {F : (Value → Value → Value → Value → Value → Value → AM Value) → Value → Value → Value → Value → Value → Value → AM Value} (I : Nat → Value → Value → Value → Value → Value → Value → AW → Prop) (h : ∀ m rec u v x y z q σ, I m u v x y z q σ → (∀ m' u' v' x' y' z' q' σ', m' < m → I m' u' v' x' y' z' q' σ' → wpA (rec u' v' x' y' z' q') σ' Q) → wpA (F rec u v x y z q) σ Q) :
    ∀ (k m : Nat) (u v x y z q : Value) (σ : AW), I m u v x y z q σ → m < k → wpA (loop6 F k u v x y z q) σ Q := by
  intro k
  induction k with
  | zero => intro m u v x y z q σ _ hk; omega
  | succ k ih => exact fun m u v x y z q σ hI hk => h m (loop6 F k) u v x y z q σ hI fun m' u' v' x' y' z' q' σ' hm hI' => ih m' u' v' x' y' z' q' σ' hI' (by omega)
end rules

/-! ### calls -/
theorem aw_call {P : Program} {n : Nat} {f : FuncId} {args : List Value} {σ : AW} {Q : Value → AW → Prop} (h : ∀ m, n = m + 1 → wpA (funcA P (callN P m) m f args) σ Q) (hn : 0 < n) : wpA (callN P n f args) σ Q := by
  cases n with
  | zero => omega
  | succ n => exact h n rfl

/-! ### numbers -/
theorem wrap_id {k : IntKind} {n : Int} (h : (Lit.int k n).wf = true) : k.wrap n = n := by
  simp only [Lit.wf, Bool.and_eq_true, decide_eq_true_eq] at h
  obtain ⟨h1, h2⟩ := h
  cases k <;> simp [IntKind.wrap, IntKind.min, IntKind.max, IntKind.signed, IntKind.bits] at * <;> omega
theorem wrap64 {n : Int} (h1 : -9223372036854775808 ≤ n) (h2 : n ≤ 9223372036854775807) : IntKind.i64.wrap n = n := wrap_id (by simp [Lit.wf, IntKind.min, IntKind.max, IntKind.signed, IntKind.bits]; omega)
end Go.Proofs.Ytjmafbiklebjcaa.Eng
