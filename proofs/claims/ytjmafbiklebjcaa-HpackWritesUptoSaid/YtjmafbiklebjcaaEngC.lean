/- The heap's four moves: a new block, a write, an append in place; reads. -/
import Derived.Test.YtjmafbiklebjcaaEngB
set_option linter.unusedVariables false
set_option linter.unusedSimpArgs false
namespace Go.Proofs.Ytjmafbiklebjcaa.Eng
variable {P : Program}

def AW.ok (_σ : AW) (φ : Phi) (b : Nat) (p : Place) : Phi := fun c => if c = b then some p else φ c

theorem ext_le {P : Program} {φ : Phi} {σ : AW} {w : World} (h : WR P φ σ w) (p : Place) : φ.le (σ.ok φ σ.next p) := by
  intro b q hb
  unfold AW.ok
  rw [if_neg (by have := h.fresh b q hb; omega)]
  exact hb
theorem ext_new (φ : Phi) (σ : AW) (b : Nat) (p : Place) : σ.ok φ b p b = some p := by simp [AW.ok]

theorem getElem?_push_lt' {α : Type} (a : Array α) (x : α) (i : Nat) (h : i < a.size) : (a.push x)[i]? = a[i]? := by
  simp [Array.getElem?_push, Nat.ne_of_lt h]

/-- A new block. -/
theorem WR.push {φ : Phi} {σ : AW} {w : World} (h : WR P φ σ w) (o : AObj) (x : Obj) (p : Place) (hp : p.blk = w.heap.size)
    (ho : OR P (σ.ok φ σ.next p) p { w with heap := w.heap.push x } o) :
    WR P (σ.ok φ σ.next p) (σ.push o) { w with heap := w.heap.push x } ∧ FR φ σ w (σ.ok φ σ.next p) (σ.push o) { w with heap := w.heap.push x } := by
  have hle := ext_le h p
  have hsame : ∀ q b, φ b = some q → ({ w with heap := w.heap.push x } : World).heap[q.blk]? = w.heap[q.blk]? := fun q b hb => getElem?_push_lt' _ _ _ (h.blk b q hb)
  refine ⟨⟨?_, ?_, ?_, ?_⟩, ⟨hle, by simp, ?_, rfl, rfl, rfl⟩⟩
  · intro b q hb
    unfold AW.ok at hb
    split at hb
    · subst_vars; simp
    · have := h.fresh b q hb; simp; omega
  · intro b q hb
    unfold AW.ok at hb
    split at hb
    · injection hb with hb; subst hb; simp [hp]
    · have := h.blk b q hb; simp; omega
  · intro b o' hb
    rw [AW.get_push] at hb
    split at hb
    · rename_i e
      injection hb with hb
      subst hb; subst e
      exact ⟨p, ext_new _ _ _ _, ho⟩
    · obtain ⟨q, h1, h2⟩ := h.dom b o' hb
      exact ⟨q, hle b q h1, (h2.mono hle).block (hsame q b h1)⟩
  · intro b c y z q r hb hc hrw hq hr he
    rw [AW.get_push] at hb hc
    unfold AW.ok at hq hr
    split at hb <;> split at hc
    · omega
    · rename_i e1 e2
      rw [if_pos e1] at hq
      rw [if_neg e2] at hr
      injection hq with hq
      subst hq
      have := h.blk c r hr
      omega
    · rename_i e1 e2
      rw [if_neg e1] at hq
      rw [if_pos e2] at hr
      injection hr with hr
      subst hr
      have := h.blk b q hq
      omega
    · rename_i e1 e2
      rw [if_neg e1] at hq
      rw [if_neg e2] at hr
      exact h.inj b c y z q r hb hc hrw hq hr he
  · intro k hk hno
    refine ⟨getElem?_push_lt' _ _ _ hk, ?_⟩
    rintro ⟨b, o', q, hb, hrw, hq, rfl⟩
    rw [AW.get_push] at hb
    unfold AW.ok at hq
    split at hb
    · rename_i e
      rw [if_pos e] at hq
      injection hq with hq
      subst hq
      omega
    · rename_i e
      rw [if_neg e] at hq
      exact hno ⟨b, o', q, hb, hrw, hq, rfl⟩

/-- A block is written. -/
theorem WR.update {φ : Phi} {σ : AW} {w : World} (h : WR P φ σ w) {b : Nat} {o o' : AObj} {p : Place} (hb : σ.get b = some o) (hrw : o.rw = true) (hp : φ b = some p) (x : Obj)
    (ho : OR P φ p { w with heap := w.heap.setIfInBounds p.blk x } o') (_hrw' : o'.rw = true) :
    WR P φ (σ.put b (some o')) { w with heap := w.heap.setIfInBounds p.blk x } ∧ FR φ σ w φ (σ.put b (some o')) { w with heap := w.heap.setIfInBounds p.blk x } := by
  refine ⟨⟨?_, ?_, ?_, ?_⟩, ⟨Phi.le_refl _, by simp, ?_, rfl, rfl, rfl⟩⟩
  · exact h.fresh
  · intro c q hc; simpa using h.blk c q hc
  · intro c y hc
    rw [AW.get_put] at hc
    split at hc
    · rename_i e
      injection hc with hc
      subst hc; subst e
      exact ⟨p, hp, ho⟩
    · rename_i e
      obtain ⟨q, h1, h2⟩ := h.dom c y hc
      refine ⟨q, h1, h2.block ?_⟩
      have hne : p.blk ≠ q.blk := fun he => e (h.inj b c o y p q hb hc hrw hp h1 he).symm
      simp [Array.getElem?_setIfInBounds_ne hne]
  · intro c d y z q r hc hd hy hq hr he
    rw [AW.get_put] at hc hd
    have : ∀ c y, (if c = b then some o' else σ.get c) = some y → ∃ y', σ.get c = some y' ∧ (y.rw = true → y'.rw = true) := by
      intro c y hc
      split at hc
      · rename_i e; subst e; exact ⟨o, hb, fun _ => hrw⟩
      · exact ⟨y, hc, id⟩
    obtain ⟨y', h1, h2⟩ := this c y hc
    obtain ⟨z', h3, _⟩ := this d z hd
    exact h.inj c d y' z' q r h1 h3 (h2 hy) hq hr he
  · intro k hk hno
    have hne : p.blk ≠ k := fun he => hno ⟨b, o, p, hb, hrw, hp, he⟩
    refine ⟨by simp [Array.getElem?_setIfInBounds_ne hne], ?_⟩
    rintro ⟨c, y, q, hc, hy, hq, rfl⟩
    rw [AW.get_put] at hc
    split at hc
    · rename_i e; subst e
      rw [hp] at hq; injection hq with hq; subst hq
      exact hne rfl
    · exact hno ⟨c, y, q, hc, hy, hq, rfl⟩

/-- An object goes. -/
theorem WR.drop {φ : Phi} {σ : AW} {w : World} (h : WR P φ σ w) (b : Nat) : WR P φ (σ.put b none) w ∧ FR φ σ w φ (σ.put b none) w := by
  have hget : ∀ c y, (σ.put b none).get c = some y → σ.get c = some y := by
    intro c y hc
    rw [AW.get_put] at hc
    split at hc
    · cases hc
    · exact hc
  refine ⟨⟨h.fresh, h.blk, fun c y hc => h.dom c y (hget c y hc), fun c d y z q r hc hd => h.inj c d y z q r (hget _ _ hc) (hget _ _ hd)⟩, ⟨Phi.le_refl _, Nat.le_refl _, ?_, rfl, rfl, rfl⟩⟩
  intro k hk hno
  refine ⟨rfl, ?_⟩
  rintro ⟨c, y, q, hc, hy, hq, e⟩
  exact hno ⟨c, y, q, hget _ _ hc, hy, hq, e⟩

/-- An object goes, and what it stood for may be anything. -/
theorem WR.dropAt {φ : Phi} {σ : AW} {w w' : World} (h : WR P φ σ w) {b : Nat} {o : AObj} {p : Place} (hb : σ.get b = some o) (hrw : o.rw = true) (hp : φ b = some p) (hs : w'.heap.size = w.heap.size)
    (hh : ∀ k, k ≠ p.blk → w'.heap[k]? = w.heap[k]?) (h1 : w'.os = w.os) (h2 : w'.tape = w.tape) (h3 : w'.output = w.output) : WR P φ (σ.put b none) w' ∧ FR φ σ w φ (σ.put b none) w' := by
  have hget : ∀ c y, (σ.put b none).get c = some y → c ≠ b ∧ σ.get c = some y := by
    intro c y hc
    rw [AW.get_put] at hc
    split at hc
    · cases hc
    · rename_i e; exact ⟨e, hc⟩
  refine ⟨⟨h.fresh, fun c q hc => by rw [hs]; exact h.blk c q hc, fun c y hc => ?_, fun c d y z q r hc hd => h.inj c d y z q r (hget _ _ hc).2 (hget _ _ hd).2⟩, ⟨Phi.le_refl _, by omega, ?_, h1, h2, h3⟩⟩
  · obtain ⟨hcb, hc⟩ := hget c y hc
    obtain ⟨q, g1, g2⟩ := h.dom c y hc
    refine ⟨q, g1, g2.block (hh _ fun he => ?_)⟩
    exact hcb (h.inj b c o y p q hb hc hrw hp g1 he.symm).symm
  · intro k hk hno
    refine ⟨hh k fun he => hno ⟨b, o, p, hb, hrw, hp, he.symm⟩, ?_⟩
    rintro ⟨c, y, q, hc, hy, hq, e⟩
    exact hno ⟨c, y, q, (hget _ _ hc).2, hy, hq, e⟩

/-- An object goes, another one takes its block. -/
theorem WR.move {φ : Phi} {σ : AW} {w : World} (h : WR P φ σ w) {b : Nat} {o o' : AObj} {p p' : Place} (hb : σ.get b = some o) (hrw : o.rw = true) (hp : φ b = some p) (hpp : p'.blk = p.blk) (x : Obj)
    (ho : OR P (σ.ok φ σ.next p') p' { w with heap := w.heap.setIfInBounds p.blk x } o') :
    WR P (σ.ok φ σ.next p') ((σ.put b none).push o') { w with heap := w.heap.setIfInBounds p.blk x } ∧
      FR φ σ w (σ.ok φ σ.next p') ((σ.put b none).push o') { w with heap := w.heap.setIfInBounds p.blk x } := by
  have hle := ext_le h p'
  have hlt : b < σ.next := h.fresh b p hp
  refine ⟨⟨?_, ?_, ?_, ?_⟩, ⟨hle, by simp, ?_, rfl, rfl, rfl⟩⟩
  · intro c q hc
    unfold AW.ok at hc
    split at hc
    · subst_vars; simp
    · have := h.fresh c q hc; simp; omega
  · intro c q hc
    unfold AW.ok at hc
    split at hc
    · injection hc with hc; subst hc; rw [hpp]; simpa using h.blk b p hp
    · simpa using h.blk c q hc
  · intro c y hc
    rw [AW.get_push] at hc
    split at hc
    · rename_i e
      injection hc with hc
      subst hc
      simp only [AW.next_put] at e
      subst e
      exact ⟨p', ext_new _ _ _ _, ho⟩
    · rw [AW.get_put] at hc
      split at hc
      · cases hc
      · rename_i e2
        obtain ⟨q, h1, h2⟩ := h.dom c y hc
        refine ⟨q, hle _ _ h1, (h2.mono hle).block ?_⟩
        have hne : p.blk ≠ q.blk := fun he => e2 (h.inj b c o y p q hb hc hrw hp h1 he).symm
        simp [Array.getElem?_setIfInBounds_ne hne]
  · intro c d y z q r hc hd hy hq hr he
    rw [AW.get_push] at hc hd
    simp only [AW.next_put, AW.get_put] at hc hd
    unfold AW.ok at hq hr
    have old : ∀ c y q, c ≠ σ.next → (if c = b then none else σ.get c) = some y → φ c = some q → q.blk ≠ p.blk := by
      intro c y q _ hc hq he
      split at hc
      · cases hc
      · rename_i e; exact e (h.inj b c o y p q hb hc hrw hp hq he.symm).symm
    split at hc <;> split at hd
    · omega
    · rename_i e1 e2
      rw [if_pos e1] at hq
      rw [if_neg e2] at hr
      injection hq with hq
      subst hq
      exact absurd (he.symm.trans hpp) (old d z r e2 hd hr)
    · rename_i e1 e2
      rw [if_neg e1] at hq
      rw [if_pos e2] at hr
      injection hr with hr
      subst hr
      exact absurd (he.trans hpp) (old c y q e1 hc hq)
    · rename_i e1 e2
      rw [if_neg e1] at hq
      rw [if_neg e2] at hr
      split at hc
      · cases hc
      split at hd
      · cases hd
      exact h.inj c d y z q r hc hd hy hq hr he
  · intro k hk hno
    have hne : p.blk ≠ k := fun he => hno ⟨b, o, p, hb, hrw, hp, he⟩
    refine ⟨by simp [Array.getElem?_setIfInBounds_ne hne], ?_⟩
    rintro ⟨c, y, q, hc, hy, hq, rfl⟩
    rw [AW.get_push] at hc
    simp only [AW.next_put, AW.get_put] at hc
    unfold AW.ok at hq
    split at hc
    · rename_i e
      rw [if_pos e] at hq
      injection hq with hq
      subst hq
      exact hne hpp.symm
    · rename_i e
      rw [if_neg e] at hq
      split at hc
      · cases hc
      · exact hno ⟨c, y, q, hc, hy, hq, rfl⟩

/-! ### reads -/
theorem add_off (a : Addr) (n : Nat) (hs : a.spot = none) : a.add n = ⟨a.block, a.off + n, none⟩ := by
  unfold Addr.add
  split
  · rename_i h; subst h; cases a; simp_all
  · rfl

theorem cells_some {σ : AW} {b off n : Nat} {l : List Value} (h : σ.cells b off n = some l) :
    ∃ vs e ro, σ.get b = some (.cells vs e ro) ∧ off + n ≤ vs.length ∧ l = (vs.drop off).take n := by
  unfold AW.cells at h
  split at h
  · rename_i vs e ro hg
    split at h
    · rename_i hc
      injection h with h
      exact ⟨vs, e, ro, hg, hc, h.symm⟩
    · cases h
  · cases h
theorem cells_length {σ : AW} {b off n : Nat} {l : List Value} (h : σ.cells b off n = some l) : l.length = n := by
  obtain ⟨vs, e, ro, _, h2, rfl⟩ := cells_some h
  simp; omega

/-- The cells that are read, in the model's heap. -/
theorem WR.cells {φ : Phi} {σ : AW} {w : World} (h : WR P φ σ w) {b off n : Nat} {l : List Value} (hc : σ.cells b off n = some l) (p : Place) (hp : φ b = some p) :
    ∃ l', VRs φ l l' ∧ ∀ j, j < n → ∃ v, l'[j]? = some v ∧ w.cell? ⟨p.blk, p.off + off + j, none⟩ = some v := by
  obtain ⟨vs, e, ro, hg, hlen, rfl⟩ := cells_some hc
  obtain ⟨q, hq, ho⟩ := h.dom _ _ hg
  rw [hp] at hq; injection hq with hq; subst hq
  have key : ∀ i v, vs[i]? = some v → ∃ v', w.cell? ⟨p.blk, p.off + i, none⟩ = some v' ∧ VR φ v v' := by
    cases ro with
    | true => exact ho
    | false =>
      obtain ⟨c, lo, hi, h1, _, _, _, _, h7⟩ := ho
      intro i v hi
      obtain ⟨v', g1, g2⟩ := h7 i v hi
      exact ⟨v', by simp [World.cell?, h1, g1], g2⟩
  have hsome : ∀ j, j < n → ∃ v v', vs[off + j]? = some v ∧ w.cell? ⟨p.blk, p.off + off + j, none⟩ = some v' ∧ VR φ v v' := by
    intro j hj
    have hlt : off + j < vs.length := by omega
    obtain ⟨v', g1, g2⟩ := key (off + j) vs[off + j] (by simp [hlt])
    exact ⟨vs[off + j], v', by simp [hlt], by rw [← g1, Nat.add_assoc], g2⟩
  refine ⟨(List.range n).map fun j => (w.cell? ⟨p.blk, p.off + off + j, none⟩).getD unk, ?_, ?_⟩
  · refine VRs.mk _ _ (by simp; omega) ?_
    intro i v v' hi hi'
    have hin : i < n := by
      rcases Nat.lt_or_ge i n with h | h
      · exact h
      · simp [List.getElem?_eq_none (show (List.map _ (List.range n)).length ≤ i by simpa using h)] at hi'
    obtain ⟨u, u', g1, g2, g3⟩ := hsome i hin
    have e1 : v = u := by
      rw [List.getElem?_take, if_pos hin, List.getElem?_drop, g1] at hi
      injection hi with hi
      exact hi.symm
    have e2 : v' = u' := by
      simp [hin, g2] at hi'
      exact hi'.symm
    rw [e1, e2]; exact g3
  · intro j hj
    obtain ⟨u, u', g1, g2, g3⟩ := hsome j hj
    exact ⟨u', by simp [hj, g2], g2⟩

theorem run_loadCellsFrom {w : World} {a : Addr} : ∀ (n i : Nat) (acc : Array Value) (l : List Value), l.length = n → (∀ j v, l[j]? = some v → w.cell? (a.add (i + j)) = some v) →
    (loadCellsFrom a i n acc).run P w = .ok (acc ++ l.toArray) w
  | 0, i, acc, l, hl, _ => by
    obtain rfl := List.eq_nil_of_length_eq_zero hl
    simp [loadCellsFrom]
  | n + 1, i, acc, [], hl, _ => by simp at hl
  | n + 1, i, acc, v :: l, hl, h => by
    simp only [loadCellsFrom, Sem.run_bind]
    have h0 := h 0 v (by simp)
    simp only [Nat.add_zero] at h0
    rw [run_load, h0]
    simp only [Result.andThen_ok]
    rw [run_loadCellsFrom n (i + 1) (acc.push v) l (by simpa using hl) (fun j u hj => by
      have := h (j + 1) u (by simpa using hj)
      rwa [show i + (j + 1) = i + 1 + j by omega] at this)]
    simp

/-- A load of so many cells. -/
theorem WR.loadCells {φ : Phi} {σ : AW} {w : World} (h : WR P φ σ w) {b off n : Nat} {l : List Value} (hc : σ.cells b off n = some l) (p : Place) (hp : φ b = some p) :
    ∃ l', VRs φ l l' ∧ (Go.loadCells ⟨p.blk, p.off + off, none⟩ n).run P w = .ok l'.toArray w := by
  obtain ⟨l', h1, h2⟩ := h.cells hc p hp
  refine ⟨l', h1, ?_⟩
  unfold Go.loadCells
  have hlen : l'.length = n := h1.length.trans (cells_length hc)
  rw [run_loadCellsFrom n 0 #[] l' hlen ?_]
  · simp
  · intro j v hj
    have hjn : j < n := by
      rcases Nat.lt_or_ge j n with g | g
      · exact g
      · rw [List.getElem?_eq_none (by omega)] at hj; cases hj
    obtain ⟨u, g1, g2⟩ := h2 j hjn
    rw [g1] at hj; injection hj with hj; subst hj
    rw [add_off _ _ rfl, Nat.zero_add]
    exact g2

/-! ### writes -/
theorem modify_eq {α : Type} (a : Array α) (i : Nat) (f : α → α) (x : α) (h : a[i]? = some x) : a.modify i f = a.setIfInBounds i (f x) := by
  apply Array.ext_getElem?
  intro j
  have hi : i < a.size := (Array.getElem?_eq_some_iff.1 h).1
  simp only [Array.getElem?_modify, Array.getElem?_setIfInBounds]
  by_cases e : i = j
  · subst e; rw [Array.getElem?_eq_getElem hi] at h; injection h with h; simp [h, hi]
  · simp [e]

theorem setSame {α : Type} (a : Array α) (i : Nat) (x : α) (h : a[i]? = some x) : a.setIfInBounds i x = a := by
  apply Array.ext_getElem?
  intro j
  rw [Array.getElem?_setIfInBounds]
  split
  · rename_i e; subst e
    split
    · exact h.symm
    · rename_i hh; simp at hh; rw [Array.getElem?_eq_none hh]
  · rfl

theorem run_store_one {w : World} {a : Addr} {v u : Value} (hv : one v = true) (hc : w.cell? a = some u) (hf : w.frozen? a = false) : (Go.store a v).run P w = .ok () (w.setCell a v) := by
  unfold Go.store
  cases v <;> first
    | simp [one] at hv; done
    | simp [Sem.run, hc, hf]

theorem run_storeCells {w : World} {a : Addr} (hs : a.spot = none) {e : TypeId} {lo hi : Nat} : ∀ (l : List Value) (i : Nat) (c : Array Value), w.heap[a.block]? = some (.cells c e (lo, hi)) →
    (hi ≤ lo ∨ c.size ≤ lo) → a.off + i + l.length ≤ c.size → (∀ x ∈ l, one x = true) → ∀ w0 : World, w0 = w →
    ∃ c' : Array Value, c'.size = c.size ∧ (∀ k, c'[k]? = if a.off + i ≤ k ∧ k < a.off + i + l.length then l[k - (a.off + i)]? else c[k]?) ∧
      (storeCells a l i).run P w = .ok () { w with heap := w.heap.setIfInBounds a.block (.cells c' e (lo, hi)) }
  | [], i, c, hg, _, _, _, w0, _ => ⟨c, rfl, fun k => by rw [if_neg (by simp only [List.length_nil]; omega)], by simp [storeCells, setSame _ _ _ hg]⟩
  | v :: l, i, c, hg, hfr, hlen, hone, w0, hw0 => by
    simp only [List.length_cons] at hlen
    have hlt : a.off + i < c.size := by omega
    have hblk : a.block < w.heap.size := (Array.getElem?_eq_some_iff.1 hg).1
    have haddr : a.add i = ⟨a.block, a.off + i, none⟩ := add_off a i hs
    have hcell : w.cell? (a.add i) = some c[a.off + i] := by rw [haddr]; simp [World.cell?, hg, hlt]
    have hfro : w.frozen? (a.add i) = false := by
      rw [haddr]; simp only [World.frozen?, hg]
      simp only [Bool.and_eq_false_iff, decide_eq_false_iff_not]
      omega
    have hset : w.setCell (a.add i) v = { w with heap := w.heap.setIfInBounds a.block (.cells (c.setIfInBounds (a.off + i) v) e (lo, hi)) } := by
      rw [haddr]
      unfold World.setCell
      rw [modify_eq _ _ _ _ hg]
      simp
    let w1 : World := { w with heap := w.heap.setIfInBounds a.block (.cells (c.setIfInBounds (a.off + i) v) e (lo, hi)) }
    have hg1 : w1.heap[a.block]? = some (.cells (c.setIfInBounds (a.off + i) v) e (lo, hi)) := by simp [w1, hblk]
    obtain ⟨c', h1, h2, h3⟩ := run_storeCells (w := w1) hs l (i + 1) _ hg1 (by simpa using hfr) (by simp; omega) (fun x hx => hone x (by simp [hx])) w1 rfl
    refine ⟨c', by simpa using h1, ?_, ?_⟩
    · intro k
      rw [h2 k]
      simp only [List.length_cons]
      by_cases hk : a.off + i = k
      · rw [if_neg (by omega), if_pos (by omega)]
        subst hk
        simp [hlt]
      · by_cases hk2 : a.off + (i + 1) ≤ k ∧ k < a.off + (i + 1) + l.length
        · rw [if_pos hk2, if_pos (by omega), show k - (a.off + i) = (k - (a.off + (i + 1))) + 1 by omega]
          simp
        · rw [if_neg hk2, if_neg (by omega)]
          simp [hk]
    · simp only [storeCells, Sem.run_bind]
      rw [run_store_one (hone v (by simp)) hcell hfro]
      simp only [Result.andThen_ok]
      rw [hset]
      have : (storeCells a l (i + 1)).run P w1 = _ := h3
      rw [this]
      simp [w1]

theorem splice_length (vs : List Value) (off : Nat) (new : List Value) (h : off + new.length ≤ vs.length) : (splice vs off new).length = vs.length := by
  unfold splice; simp; omega
theorem splice_at (vs : List Value) (off : Nat) (new : List Value) (h : off + new.length ≤ vs.length) (i : Nat) :
    (splice vs off new)[i]? = if off ≤ i ∧ i < off + new.length then new[i - off]? else vs[i]? := by
  unfold splice
  rw [List.append_assoc, List.getElem?_append]
  simp only [List.length_take, Nat.min_eq_left (show off ≤ vs.length by omega)]
  by_cases h1 : i < off
  · rw [if_pos h1, if_neg (by omega), List.getElem?_take, if_pos h1]
  · rw [if_neg h1, List.getElem?_append]
    by_cases h2 : i - off < new.length
    · rw [if_pos h2, if_pos (by omega)]
    · rw [if_neg h2, if_neg (by omega), List.getElem?_drop]
      congr 1; omega
theorem splice_all {f : Value → Bool} (vs : List Value) (off : Nat) (new : List Value) (h : vs.all f = true) (k : new.all f = true) : (splice vs off new).all f = true := by
  unfold splice
  simp only [List.all_append, Bool.and_eq_true]
  rw [List.all_eq_true] at h
  refine ⟨⟨List.all_eq_true.2 fun x hx => h x (List.mem_of_mem_take hx), k⟩, ?_⟩
  exact List.all_eq_true.2 fun x hx => h x (List.mem_of_mem_drop hx)

/-- A write into an object, in the model. -/
theorem WR.store {φ : Phi} {σ τ : AW} {w : World} (h : WR P φ σ w) {b off : Nat} {new new' : List Value} (hst : σ.storeAt b off new = some τ) (p : Place) (hp : φ b = some p) (hn : VRs φ new new') :
    ∃ w', (storeCells ⟨p.blk, p.off + off, none⟩ new').run P w = .ok () w' ∧ WR P φ τ w' ∧ FR φ σ w φ τ w' := by
  unfold AW.storeAt at hst
  split at hst
  · rename_i vs e hg
    split at hst
    · rename_i hc
      obtain ⟨hlen, hcell⟩ := hc
      injection hst with hst
      subst hst
      obtain ⟨q, hq, ho⟩ := h.dom _ _ hg
      rw [hp] at hq; injection hq with hq; subst hq
      obtain ⟨c, lo, hi, h1, h2, h4, h5, h6, h7⟩ := ho
      have hl' := hn.length
      obtain ⟨c', g1, g2, g3⟩ := run_storeCells (P := P) (w := w) (a := ⟨p.blk, p.off + off, none⟩) rfl new' 0 c h1 h2 (by simp; omega) (hn.one hcell) w rfl
      simp only [Nat.add_zero] at g2
      refine ⟨_, g3, ?_⟩
      refine h.update hg rfl hp _ ?_ rfl
      refine ⟨c', lo, hi, by simp [h.blk _ _ hp], by rw [g1]; exact h2, by rw [g1]; exact h4, by rw [splice_length _ _ _ hlen]; exact h5, splice_all _ _ _ h6 hcell, ?_⟩
      intro i v hi
      rw [splice_at _ _ _ hlen] at hi
      rw [g2]
      split at hi
      · rename_i hin
        obtain ⟨v', k1, k2⟩ := hn.at _ _ hi
        exact ⟨v', by rw [if_pos (by omega), ← k1]; congr 1; omega, k2⟩
      · rename_i hin
        obtain ⟨v', k1, k2⟩ := h7 i v hi
        exact ⟨v', by rw [if_neg (by omega)]; exact k1, k2⟩
    · cases hst
  · cases hst

end Go.Proofs.Ytjmafbiklebjcaa.Eng
