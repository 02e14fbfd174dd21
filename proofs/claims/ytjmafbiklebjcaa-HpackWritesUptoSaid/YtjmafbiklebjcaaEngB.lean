/- How the abstract machine's values and heap stand for the model's. -/
import Derived.Test.YtjmafbiklebjcaaEngA
import Derived.Laws.Sem
import Derived.Laws.Entries
set_option linter.unusedVariables false
set_option linter.unusedSimpArgs false
namespace Go.Proofs.Ytjmafbiklebjcaa.Eng

structure Place where
  blk : Nat
  off : Nat
  room : Nat
abbrev Phi := Nat → Option Place
def Phi.le (φ ψ : Phi) : Prop := ∀ b p, φ b = some p → ψ b = some p
theorem Phi.le_refl (φ : Phi) : φ.le φ := fun _ _ h => h
theorem Phi.le_trans {φ ψ χ : Phi} (h : φ.le ψ) (k : ψ.le χ) : φ.le χ := fun b p hb => k b p (h b p hb)

mutual
def VR (φ : Phi) : Value → Value → Prop
  | .chan none, _ => True
  | .chan (some _), _ => False
  | .bool b, v => v = .bool b
  | .int k n, v => v = .int k n
  | .string s, v => v = .string s
  | .nilFunc, v => v = .nilFunc
  | .nilIface, v => v = .nilIface
  | .float _ _, _ => False
  | .complex _ _ _, _ => False
  | .pointer none, v => v = .pointer none
  | .pointer (some a), v => ∃ p, φ a.block = some p ∧ a.spot = none ∧ v = .pointer (some ⟨p.blk, p.off + a.off, none⟩)
  | .slice none l c, v => v = .slice none l c
  | .slice (some a) l c, v => (∃ p c' z, φ a.block = some p ∧ a.spot = some z ∧ a.off + c' * z ≤ p.room ∧ c ≤ c' ∧ v = .slice (some ⟨p.blk, p.off + a.off, none⟩) l c') ∨ (l = 0 ∧ c = 0 ∧ ∃ a', v = .slice (some a') 0 0)
  | .map none, v => v = .map none
  | .map (some r), v => ∃ p, φ r = some p ∧ p.off = 0 ∧ v = .map (some p.blk)
  | .func f ⟨fs⟩ ⟨cs⟩, v => ∃ fs' cs', v = .func f ⟨fs'⟩ ⟨cs'⟩ ∧ VRs φ fs fs' ∧ VRs φ cs cs'
  | .iface t x, v => ∃ x', v = .iface t x' ∧ VR φ x x'
  | .agg ⟨cs⟩, v => ∃ cs', v = .agg ⟨cs'⟩ ∧ VRs φ cs cs'
  | .tuple ⟨cs⟩, v => ∃ cs', v = .tuple ⟨cs'⟩ ∧ VRs φ cs cs'
def VRs (φ : Phi) : List Value → List Value → Prop
  | [], l => l = []
  | v :: vs, l => ∃ v' vs', l = v' :: vs' ∧ VR φ v v' ∧ VRs φ vs vs'
end

theorem VR_unk (φ : Phi) (v : Value) : VR φ unk v := by simp [unk, VR]

mutual
theorem VR.mono {φ ψ : Phi} (h : φ.le ψ) : ∀ (v v' : Value), VR φ v v' → VR ψ v v'
  | .chan none, _, _ => by simp [VR]
  | .chan (some _), _, hv => by simp [VR] at hv
  | .bool _, _, hv => by simpa [VR] using hv
  | .int _ _, _, hv => by simpa [VR] using hv
  | .string _, _, hv => by simpa [VR] using hv
  | .nilFunc, _, hv => by simpa [VR] using hv
  | .nilIface, _, hv => by simpa [VR] using hv
  | .float _ _, _, hv => by simp [VR] at hv
  | .complex _ _ _, _, hv => by simp [VR] at hv
  | .pointer none, _, hv => by simpa [VR] using hv
  | .pointer (some a), _, hv => by
    simp only [VR] at hv ⊢
    obtain ⟨p, h1, h2⟩ := hv
    exact ⟨p, h _ _ h1, h2⟩
  | .slice none _ _, _, hv => by simpa [VR] using hv
  | .slice (some a) _ _, _, hv => by
    simp only [VR] at hv ⊢
    rcases hv with ⟨p, c', z, h1, h2⟩ | hv
    · exact .inl ⟨p, c', z, h _ _ h1, h2⟩
    · exact .inr hv
  | .map none, _, hv => by simpa [VR] using hv
  | .map (some r), _, hv => by
    simp only [VR] at hv ⊢
    obtain ⟨p, h1, h2⟩ := hv
    exact ⟨p, h _ _ h1, h2⟩
  | .func f ⟨fs⟩ ⟨cs⟩, _, hv => by
    simp only [VR] at hv ⊢
    obtain ⟨fs', cs', h1, h2, h3⟩ := hv
    exact ⟨fs', cs', h1, VRs.mono h _ _ h2, VRs.mono h _ _ h3⟩
  | .iface t x, _, hv => by
    simp only [VR] at hv ⊢
    obtain ⟨x', h1, h2⟩ := hv
    exact ⟨x', h1, VR.mono h _ _ h2⟩
  | .agg ⟨cs⟩, _, hv => by
    simp only [VR] at hv ⊢
    obtain ⟨cs', h1, h2⟩ := hv
    exact ⟨cs', h1, VRs.mono h _ _ h2⟩
  | .tuple ⟨cs⟩, _, hv => by
    simp only [VR] at hv ⊢
    obtain ⟨cs', h1, h2⟩ := hv
    exact ⟨cs', h1, VRs.mono h _ _ h2⟩
theorem VRs.mono {φ ψ : Phi} (h : φ.le ψ) : ∀ (l l' : List Value), VRs φ l l' → VRs ψ l l'
  | [], _, hv => by simpa [VRs] using hv
  | v :: vs, _, hv => by
    simp only [VRs] at hv ⊢
    obtain ⟨v', vs', h1, h2, h3⟩ := hv
    exact ⟨v', vs', h1, VR.mono h _ _ h2, VRs.mono h _ _ h3⟩
end

mutual
theorem VR.of_flat {φ : Phi} : ∀ (v : Value), flat v = true → ∀ v', VR φ v v' ↔ v' = v
  | .chan none, h, _ => by simp [flat] at h
  | .chan (some _), h, _ => by simp [flat] at h
  | .bool _, _, _ => by simp [VR]
  | .int _ _, _, _ => by simp [VR]
  | .string _, _, _ => by simp [VR]
  | .nilFunc, _, _ => by simp [VR]
  | .nilIface, _, _ => by simp [VR]
  | .float _ _, h, _ => by simp [flat] at h
  | .complex _ _ _, h, _ => by simp [flat] at h
  | .pointer none, _, _ => by simp [VR]
  | .pointer (some a), h, _ => by simp [flat] at h
  | .slice none _ _, _, _ => by simp [VR]
  | .slice (some a) _ _, h, _ => by simp [flat] at h
  | .map none, _, _ => by simp [VR]
  | .map (some r), h, _ => by simp [flat] at h
  | .func f fs cs, h, _ => by simp [flat] at h
  | .iface t x, h, v' => by
    simp only [flat] at h
    simp only [VR]
    constructor
    · rintro ⟨x', h1, h2⟩
      rw [(VR.of_flat x h x').1 h2] at h1
      exact h1
    · rintro rfl
      exact ⟨x, rfl, (VR.of_flat x h x).2 rfl⟩
  | .agg ⟨cs⟩, h, v' => by
    simp only [flat] at h
    simp only [VR]
    constructor
    · rintro ⟨x', h1, h2⟩
      rw [(VRs.of_flat cs h x').1 h2] at h1
      exact h1
    · rintro rfl
      exact ⟨cs, rfl, (VRs.of_flat cs h cs).2 rfl⟩
  | .tuple ⟨cs⟩, h, v' => by
    simp only [flat] at h
    simp only [VR]
    constructor
    · rintro ⟨x', h1, h2⟩
      rw [(VRs.of_flat cs h x').1 h2] at h1
      exact h1
    · rintro rfl
      exact ⟨cs, rfl, (VRs.of_flat cs h cs).2 rfl⟩
theorem VRs.of_flat {φ : Phi} : ∀ (l : List Value), flatL l = true → ∀ l', VRs φ l l' ↔ l' = l
  | [], _, _ => by simp [VRs]
  | v :: vs, h, l' => by
    simp only [flatL, Bool.and_eq_true] at h
    simp only [VRs]
    constructor
    · rintro ⟨v', vs', h1, h2, h3⟩
      rw [(VR.of_flat v h.1 v').1 h2, (VRs.of_flat vs h.2 vs').1 h3] at h1
      exact h1
    · rintro rfl
      exact ⟨v, vs, rfl, (VR.of_flat v h.1 v).2 rfl, (VRs.of_flat vs h.2 vs).2 rfl⟩
end
theorem VR.flat_refl {φ : Phi} {v : Value} (h : flat v = true) : VR φ v v := (VR.of_flat v h v).2 rfl
theorem VR.flat_eq {φ : Phi} {v v' : Value} (h : flat v = true) (hv : VR φ v v') : v' = v := (VR.of_flat v h v').1 hv
theorem VRs.flat_eq {φ : Phi} {l l' : List Value} (h : flatL l = true) (hv : VRs φ l l') : l' = l := (VRs.of_flat l h l').1 hv
theorem VRs.flat_refl {φ : Phi} {l : List Value} (h : flatL l = true) : VRs φ l l := (VRs.of_flat l h l).2 rfl

theorem VRs.length {φ : Phi} : ∀ {l l' : List Value}, VRs φ l l' → l'.length = l.length
  | [], _, h => by simp [VRs] at h; simp [h]
  | v :: vs, _, h => by
    simp only [VRs] at h
    obtain ⟨v', vs', rfl, _, h3⟩ := h
    simp [VRs.length h3]
theorem VRs.at {φ : Phi} : ∀ {l l' : List Value}, VRs φ l l' → ∀ (i : Nat) (v : Value), l[i]? = some v → ∃ v', l'[i]? = some v' ∧ VR φ v v'
  | [], _, _, i, v, hi => by simp at hi
  | x :: vs, _, h, i, v, hi => by
    simp only [VRs] at h
    obtain ⟨v', vs', rfl, h2, h3⟩ := h
    cases i with
    | zero => simp at hi; subst hi; exact ⟨v', by simp, h2⟩
    | succ i => simp at hi; simpa using VRs.at h3 i v hi
theorem VRs.mk {φ : Phi} : ∀ (l l' : List Value), l'.length = l.length → (∀ (i : Nat) (v v' : Value), l[i]? = some v → l'[i]? = some v' → VR φ v v') → VRs φ l l'
  | [], l', h, _ => by simp [VRs]; exact List.eq_nil_of_length_eq_zero (by simpa using h)
  | x :: vs, [], h, _ => by simp at h
  | x :: vs, y :: l', h, k => by
    simp only [VRs]
    exact ⟨y, l', rfl, k 0 x y (by simp) (by simp), VRs.mk vs l' (by simpa using h) fun i v v' h1 h2 => k (i + 1) v v' (by simpa using h1) (by simpa using h2)⟩
theorem VRs.cons {φ : Phi} {v v' : Value} {l l' : List Value} (h : VR φ v v') (k : VRs φ l l') : VRs φ (v :: l) (v' :: l') := by
  simp only [VRs]; exact ⟨v', l', rfl, h, k⟩
theorem VRs.nil {φ : Phi} : VRs φ [] [] := by simp [VRs]
theorem VRs.append {φ : Phi} : ∀ {l l' m m' : List Value}, VRs φ l l' → VRs φ m m' → VRs φ (l ++ m) (l' ++ m')
  | [], _, _, _, h, k => by simp [VRs] at h; subst h; simpa using k
  | v :: vs, _, _, _, h, k => by
    simp only [VRs] at h
    obtain ⟨v', vs', rfl, h2, h3⟩ := h
    exact VRs.cons h2 (VRs.append h3 k)
theorem VRs.take {φ : Phi} : ∀ {l l' : List Value} (n : Nat), VRs φ l l' → VRs φ (l.take n) (l'.take n)
  | [], _, n, h => by simp [VRs] at h; subst h; simp [VRs]
  | v :: vs, _, 0, h => by simp [VRs]
  | v :: vs, _, n + 1, h => by
    simp only [VRs] at h
    obtain ⟨v', vs', rfl, h2, h3⟩ := h
    simpa using VRs.cons h2 (VRs.take n h3)
theorem VRs.drop {φ : Phi} : ∀ {l l' : List Value} (n : Nat), VRs φ l l' → VRs φ (l.drop n) (l'.drop n)
  | [], _, n, h => by simp [VRs] at h; subst h; simp [VRs]
  | v :: vs, _, 0, h => by simpa using h
  | v :: vs, _, n + 1, h => by
    simp only [VRs] at h
    obtain ⟨v', vs', rfl, h2, h3⟩ := h
    simpa using VRs.drop n h3
theorem VRs.map {α : Type} {φ : Phi} {f g : α → Value} : ∀ (l : List α), (∀ x ∈ l, VR φ (f x) (g x)) → VRs φ (l.map f) (l.map g)
  | [], _ => by simp [VRs]
  | x :: l, h => by simpa using VRs.cons (h x (by simp)) (VRs.map l fun y hy => h y (by simp [hy]))

/-! ### one cell -/
theorem VR.agg_form {φ : Phi} {cs : Array Value} {v' : Value} (h : VR φ (.agg cs) v') : ∃ cs' : Array Value, v' = .agg cs' ∧ VRs φ cs.toList cs'.toList := by
  obtain ⟨l⟩ := cs
  simp only [VR] at h
  obtain ⟨cs', h1, h2⟩ := h
  exact ⟨⟨cs'⟩, h1, h2⟩
theorem VR.agg_mk {φ : Phi} {cs cs' : Array Value} (h : VRs φ cs.toList cs'.toList) : VR φ (.agg cs) (.agg cs') := by
  obtain ⟨l⟩ := cs
  obtain ⟨l'⟩ := cs'
  simp only [VR]
  exact ⟨l', rfl, h⟩
theorem VR.tuple_form {φ : Phi} {cs : Array Value} {v' : Value} (h : VR φ (.tuple cs) v') : ∃ cs' : Array Value, v' = .tuple cs' ∧ VRs φ cs.toList cs'.toList := by
  obtain ⟨l⟩ := cs
  simp only [VR] at h
  obtain ⟨cs', h1, h2⟩ := h
  exact ⟨⟨cs'⟩, h1, h2⟩
theorem VR.tuple_mk {φ : Phi} {cs cs' : Array Value} (h : VRs φ cs.toList cs'.toList) : VR φ (.tuple cs) (.tuple cs') := by
  obtain ⟨l⟩ := cs
  obtain ⟨l'⟩ := cs'
  simp only [VR]
  exact ⟨l', rfl, h⟩

/-- The model's word for a value of one cell. -/
def one (v : Value) : Bool := match v with
  | .agg _ | .tuple _ => false
  | _ => true
theorem VR.cell1 {φ : Phi} : ∀ {v v' : Value}, VR φ v v' → isCell v = true → one v' = true ∧ v'.cells = #[v'] ∧ v.cells = #[v]
  | .chan c, _, _, hc => by simp [Eng.isCell] at hc
  | .bool _, _, h, _ => by simp [VR] at h; subst h; simp [one, Value.cells]
  | .int _ _, _, h, _ => by simp [VR] at h; subst h; simp [one, Value.cells]
  | .string _, _, h, _ => by simp [VR] at h; subst h; simp [one, Value.cells]
  | .nilFunc, _, h, _ => by simp [VR] at h; subst h; simp [one, Value.cells]
  | .nilIface, _, h, _ => by simp [VR] at h; subst h; simp [one, Value.cells]
  | .float _ _, _, h, hc => by simp [Eng.isCell] at hc
  | .complex _ _ _, _, h, hc => by simp [Eng.isCell] at hc
  | .pointer none, _, h, _ => by simp [VR] at h; subst h; simp [one, Value.cells]
  | .pointer (some a), _, h, _ => by simp only [VR] at h; obtain ⟨p, _, _, rfl⟩ := h; simp [one, Value.cells]
  | .slice none _ _, _, h, _ => by simp [VR] at h; subst h; simp [one, Value.cells]
  | .slice (some a) _ _, _, h, _ => by
    simp only [VR] at h
    rcases h with ⟨p, c', z, _, _, _, _, rfl⟩ | ⟨_, _, a', rfl⟩ <;> simp [one, Value.cells]
  | .map none, _, h, _ => by simp [VR] at h; subst h; simp [one, Value.cells]
  | .map (some r), _, h, _ => by simp only [VR] at h; obtain ⟨p, _, _, rfl⟩ := h; simp [one, Value.cells]
  | .func f ⟨fs⟩ ⟨cs⟩, _, h, _ => by simp only [VR] at h; obtain ⟨_, _, rfl, _⟩ := h; simp [one, Value.cells]
  | .iface t x, _, h, _ => by simp only [VR] at h; obtain ⟨_, rfl, _⟩ := h; simp [one, Value.cells]
  | .agg _, _, _, hc => by simp [Eng.isCell] at hc
  | .tuple _, _, _, hc => by simp [Eng.isCell] at hc

/-- Known to its cells. -/
theorem VR.cells {φ : Phi} {v v' : Value} (h : VR φ v v') (hc : v.cells.toList.all isCell = true) : VRs φ v.cells.toList v'.cells.toList := by
  cases v with
  | agg cs =>
    obtain ⟨cs', rfl, h2⟩ := h.agg_form
    exact h2
  | _ =>
    all_goals
      have hk := h.cell1 (by simpa [Value.cells] using hc)
      rw [hk.2.1, hk.2.2]
      exact VRs.cons h VRs.nil
theorem VRs.one {φ : Phi} : ∀ {l l' : List Value}, VRs φ l l' → l.all isCell = true → ∀ x ∈ l', Eng.one x = true
  | [], _, h, _, x, hx => by simp [VRs] at h; subst h; simp at hx
  | v :: vs, _, h, hc, x, hx => by
    simp only [VRs] at h
    obtain ⟨v', vs', rfl, h2, h3⟩ := h
    simp only [List.all_cons, Bool.and_eq_true] at hc
    rcases List.mem_cons.1 hx with rfl | hx
    · exact (h2.cell1 hc.1).1
    · exact VRs.one h3 hc.2 x hx

/-! ### the trie -/
theorem Trie.get_setF : ∀ (f : Nat) (t : Trie) (n : Nat) (o : Option AObj) (m : Nat), n < f → (Trie.setF f t n o).get m = if m = n then o else t.get m
  | 0, _, _, _, _, h => by omega
  | f + 1, .nil, n, o, m, h => by
    unfold Trie.setF
    by_cases h0 : n = 0
    · subst h0
      simp only [if_pos, Trie.get]
      by_cases hm : m = 0 <;> simp [hm]
    · rw [if_neg h0]
      by_cases h1 : n % 2 = 1
      · rw [if_pos h1]
        simp only [Trie.get]
        by_cases hm : m = 0
        · rw [if_pos hm, if_neg (by omega)]
        · rw [if_neg hm]
          by_cases hm1 : m % 2 = 1
          · rw [if_pos hm1, Trie.get_setF f .nil (n / 2) o (m / 2) (by omega)]
            by_cases e : m = n
            · rw [if_pos (by omega), if_pos e]
            · rw [if_neg (by omega), if_neg e]; simp [Trie.get]
          · rw [if_neg hm1, if_neg (by omega)]
      · rw [if_neg h1]
        simp only [Trie.get]
        by_cases hm : m = 0
        · rw [if_pos hm, if_neg (by omega)]
        · rw [if_neg hm]
          by_cases hm1 : m % 2 = 1
          · rw [if_pos hm1, if_neg (by omega)]
          · rw [if_neg hm1, Trie.get_setF f .nil (n / 2 - 1) o (m / 2 - 1) (by omega)]
            by_cases e : m = n
            · rw [if_pos (by omega), if_pos e]
            · rw [if_neg (by omega), if_neg e]; simp [Trie.get]
  | f + 1, .node l v r, n, o, m, h => by
    unfold Trie.setF
    by_cases h0 : n = 0
    · subst h0
      simp only [if_pos, Trie.get]
      by_cases hm : m = 0 <;> simp [hm]
    · rw [if_neg h0]
      by_cases h1 : n % 2 = 1
      · rw [if_pos h1]
        simp only [Trie.get]
        by_cases hm : m = 0
        · rw [if_pos hm, if_neg (by omega), if_pos hm]
        · rw [if_neg hm]
          by_cases hm1 : m % 2 = 1
          · rw [if_pos hm1, Trie.get_setF f l (n / 2) o (m / 2) (by omega)]
            by_cases e : m = n
            · rw [if_pos (by omega), if_pos e]
            · rw [if_neg (by omega), if_neg e, if_neg hm, if_pos hm1]
          · rw [if_neg hm1, if_neg (by omega), if_neg hm, if_neg hm1]
      · rw [if_neg h1]
        simp only [Trie.get]
        by_cases hm : m = 0
        · rw [if_pos hm, if_neg (by omega), if_pos hm]
        · rw [if_neg hm]
          by_cases hm1 : m % 2 = 1
          · rw [if_pos hm1, if_neg (by omega), if_neg hm, if_pos hm1]
          · rw [if_neg hm1, Trie.get_setF f r (n / 2 - 1) o (m / 2 - 1) (by omega)]
            by_cases e : m = n
            · rw [if_pos (by omega), if_pos e]
            · rw [if_neg (by omega), if_neg e, if_neg hm, if_neg hm1]

theorem AW.get_put (σ : AW) (b : Nat) (o : Option AObj) (c : Nat) : (σ.put b o).get c = if c = b then o else σ.get c := by
  unfold AW.get AW.put
  exact Trie.get_setF _ _ _ _ _ (by omega)
theorem AW.get_push (σ : AW) (o : AObj) (c : Nat) : (σ.push o).get c = if c = σ.next then some o else σ.get c := by
  unfold AW.get AW.push
  exact Trie.get_setF _ _ _ _ _ (by omega)
@[simp] theorem AW.next_put (σ : AW) (b : Nat) (o : Option AObj) : (σ.put b o).next = σ.next := rfl
@[simp] theorem AW.next_push (σ : AW) (o : AObj) : (σ.push o).next = σ.next + 1 := rfl

/-! ### the heap -/
def AObj.rw : AObj → Bool
  | .cells _ _ ro => !ro
  | _ => true

/-- Whole numbers of one kind, each once. -/
def KeysOk (es : List (Value × Value)) : Prop := ∃ k, (∀ x ∈ es, ∃ n, x.1 = .int k n) ∧ (es.map (·.1)).Nodup
/-- What stands for an object in the model's heap. -/
def OR (P : Program) (φ : Phi) (p : Place) (w : World) : AObj → Prop
  | .cells vs _ true => ∀ i v, vs[i]? = some v → ∃ v', w.cell? ⟨p.blk, p.off + i, none⟩ = some v' ∧ VR φ v v'
  | .cells vs e false => ∃ c lo hi, w.heap[p.blk]? = some (.cells c e (lo, hi)) ∧ (hi ≤ lo ∨ c.size ≤ lo) ∧ p.off + p.room = c.size ∧ vs.length ≤ p.room ∧
      vs.all isCell = true ∧ (∀ i v, vs[i]? = some v → ∃ v', c[p.off + i]? = some v' ∧ VR φ v v')
  | .iter s pos => p.off = 0 ∧ w.heap[p.blk]? = some (.stringIter s pos)
  | .map es => p.off = 0 ∧ KeysOk es ∧ ∃ es' ms clock, es.Perm es' ∧ w.heap[p.blk]? = some (.map ms clock) ∧ VRs φ (es'.map (·.1)) (ms.toList.map (·.key)) ∧ VRs φ (es'.map (·.2)) (ms.toList.map (·.val)) ∧ (∀ m ∈ ms.toList, m.born < clock) ∧ (ms.toList.map (·.born)).Nodup

structure WR (P : Program) (φ : Phi) (σ : AW) (w : World) : Prop where
  fresh : ∀ b p, φ b = some p → b < σ.next
  blk : ∀ b p, φ b = some p → p.blk < w.heap.size
  dom : ∀ b o, σ.get b = some o → ∃ p, φ b = some p ∧ OR P φ p w o
  inj : ∀ b c x y p q, σ.get b = some x → σ.get c = some y → x.rw = true → φ b = some p → φ c = some q → p.blk = q.blk → b = c

/-- Blocks that may be written. -/
def owned (φ : Phi) (σ : AW) (k : Nat) : Prop := ∃ b o p, σ.get b = some o ∧ o.rw = true ∧ φ b = some p ∧ p.blk = k

/-- What has become of the world. -/
structure FR (φ : Phi) (σ : AW) (w : World) (ψ : Phi) (τ : AW) (w' : World) : Prop where
  le : φ.le ψ
  size : w.heap.size ≤ w'.heap.size
  keep : ∀ k, k < w.heap.size → ¬ owned φ σ k → w'.heap[k]? = w.heap[k]? ∧ ¬ owned ψ τ k
  os : w'.os = w.os
  tape : w'.tape = w.tape
  output : w'.output = w.output

theorem FR.refl (φ : Phi) (σ : AW) (w : World) : FR φ σ w φ σ w := ⟨Phi.le_refl _, Nat.le_refl _, fun _ _ h => ⟨rfl, h⟩, rfl, rfl, rfl⟩
theorem FR.trans {φ ψ χ : Phi} {σ τ υ : AW} {w w' w'' : World} (h : FR φ σ w ψ τ w') (k : FR ψ τ w' χ υ w'') : FR φ σ w χ υ w'' :=
  ⟨Phi.le_trans h.le k.le, Nat.le_trans h.size k.size, fun i hi ho => by
    obtain ⟨h1, h2⟩ := h.keep i hi ho
    obtain ⟨h3, h4⟩ := k.keep i (Nat.lt_of_lt_of_le hi h.size) h2
    exact ⟨h3.trans h1, h4⟩, k.os.trans h.os, k.tape.trans h.tape, k.output.trans h.output⟩

theorem OR.mono {P : Program} {φ ψ : Phi} (h : φ.le ψ) {p : Place} {w : World} : ∀ {o : AObj}, OR P φ p w o → OR P ψ p w o
  | .cells vs e true, k => by
    intro i v hi
    obtain ⟨v', h1, h2⟩ := k i v hi
    exact ⟨v', h1, h2.mono h⟩
  | .cells vs e false, k => by
    obtain ⟨c, lo, hi, h1, h2, h4, h5, h6, h7⟩ := k
    exact ⟨c, lo, hi, h1, h2, h4, h5, h6, fun i v hi => by
      obtain ⟨v', g1, g2⟩ := h7 i v hi
      exact ⟨v', g1, g2.mono h⟩⟩
  | .iter s pos, k => k
  | .map es, k => by
    obtain ⟨h0, ho, es', ms, clock, hp, h1, h2, h3, h4⟩ := k
    exact ⟨h0, ho, es', ms, clock, hp, h1, h2.mono h, h3.mono h, h4⟩

/-- An object hangs on its own block alone. -/
theorem OR.block {P : Program} {φ : Phi} {p : Place} {w w' : World} (h : w'.heap[p.blk]? = w.heap[p.blk]?) : ∀ {o : AObj}, OR P φ p w o → OR P φ p w' o
  | .cells vs e true, k => by
    intro i v hi
    obtain ⟨v', h1, h2⟩ := k i v hi
    refine ⟨v', ?_, h2⟩
    rw [← h1]
    simp only [World.cell?, h]
  | .cells vs e false, k => by
    obtain ⟨c, lo, hi, h1, h2⟩ := k
    exact ⟨c, lo, hi, by rw [h]; exact h1, h2⟩
  | .iter s pos, k => by
    obtain ⟨h0, h1⟩ := k
    exact ⟨h0, by rw [h]; exact h1⟩
  | .map es, k => by
    obtain ⟨h0, ho, es', ms, clock, hp, h1, h2⟩ := k
    exact ⟨h0, ho, es', ms, clock, hp, by rw [h]; exact h1, h2⟩

/-- Draws change nothing. -/
theorem WR.heap {P : Program} {φ : Phi} {σ : AW} {w w' : World} (h : WR P φ σ w) (hh : w'.heap = w.heap) : WR P φ σ w' :=
  ⟨h.fresh, fun b p hb => by rw [hh]; exact h.blk b p hb, fun b o ho => by
    obtain ⟨p, h1, h2⟩ := h.dom b o ho
    exact ⟨p, h1, h2.block (by rw [hh])⟩, h.inj⟩

end Go.Proofs.Ytjmafbiklebjcaa.Eng
