/- From a reading to the abstract heap: what the arguments lead to, laid as objects that are only read. -/
import Derived.Test.YtjmafbiklebjcaaEngN
import GoSem.ClaimChange
set_option linter.unusedVariables false
set_option linter.unusedSimpArgs false
namespace Go.Proofs.Ytjmafbiklebjcaa.Eng
variable {P : Program} {H : Type}

theorem mapM_some {α β : Type} {f : α → Option β} : ∀ {xs : List α} {ys : List β}, xs.mapM f = some ys → ys.length = xs.length ∧ ∀ (i : Nat) (x : α), xs[i]? = some x → ∃ y, ys[i]? = some y ∧ f x = some y
  | [], ys, h => by
    simp at h; subst h; simp
  | x :: xs, ys, h => by
    simp only [List.mapM_cons, Option.bind_eq_bind, Option.bind_eq_some_iff, Option.pure_def, Option.some.injEq] at h
    obtain ⟨y, h1, zs, h2, rfl⟩ := h
    obtain ⟨h3, h4⟩ := mapM_some h2
    refine ⟨by simp [h3], fun i x' hi => ?_⟩
    cases i with
    | zero => simp at hi; subst hi; exact ⟨y, rfl, h1⟩
    | succ i => simpa using h4 i x' (by simpa using hi)

def layAll (f : DataW H → AW → Option (List Value × AW)) : List (DataW H) → AW → Option (List Value × AW)
  | [], σ => some ([], σ)
  | d :: ds, σ => match f d σ with
    | none => none
    | some (vs, σ') => match layAll f ds σ' with
      | none => none
      | some (us, σ'') => some (vs ++ us, σ'')
def layFields (f : TypeId → DataW H → AW → Option (List Value × AW)) : List TypeId → List (DataW H) → AW → Option (List Value × AW)
  | [], [], σ => some ([], σ)
  | t :: ts, d :: ds, σ => match f t d σ with
    | none => none
    | some (vs, σ') => match layFields f ts ds σ' with
      | none => none
      | some (us, σ'') => some (vs ++ us, σ'')
  | _, _, _ => none
/-- A reading's cells, and behind them what they lead to. -/
def lay (P : Program) : Nat → TypeId → DataW H → AW → Option (List Value × AW)
  | 0, _, _, _ => none
  | n + 1, t, d, σ => match P.underlying t, d with
    | some .bool, .lit (.bool b) => some ([.bool b], σ)
    | some (.int k), .lit (.int k' x) => if k' = k ∧ (Lit.int k x).wf = true then some ([.int k x], σ) else none
    | some .string, .lit (.string l) => if l.length ≤ maxLen then some ([.string ⟨l.toArray⟩], σ) else none
    | some (.slice _), .nil => some ([.slice none 0 0], σ)
    | some (.slice e), .slice elems _ => match layAll (lay P n e) elems σ with
      | none => none
      | some (vs, τ) =>
        if maxLen < elems.length then none
        else if elems.isEmpty then some ([.slice (some ⟨τ.next, 0, some (P.cellsOf e)⟩) 0 0], { τ with next := τ.next + 1 })
        else some ([.slice (some ⟨τ.next, 0, some (P.cellsOf e)⟩) elems.length elems.length], τ.push (.cells vs e true))
    | some (.struct fs), .agg parts => layFields (lay P n) (fs.toList.map (·.type)) parts σ
    | _, _ => none

/-- Types that are served: fields one behind the other, elements of some size. -/
def contig (P : Program) : Nat → List Field → Option Nat
  | o, [] => some o
  | o, f :: fs => if f.offset = o then contig P (o + P.cellsOf f.type) fs else none
def tyOk (P : Program) : Nat → TypeId → Bool
  | 0, _ => false
  | n + 1, t => match P.underlying t with
    | some .bool | some (.int _) | some .string => decide (P.cellsOf t = 1)
    | some (.slice e) => decide (P.cellsOf t = 1) && decide (0 < P.cellsOf e) && tyOk P n e
    | some (.struct fs) => decide (contig P 0 fs.toList = some (P.cellsOf t)) && fs.toList.all fun f => tyOk P n f.type
    | _ => false

def RO (σ : AW) : Prop := ∀ b o, σ.get b = some o → o.rw = false

theorem WR.skipOne {φ : Phi} {σ : AW} {w : World} (h : WR P φ σ w) : WR P φ { σ with next := σ.next + 1 } w :=
  ⟨fun b p hb => Nat.lt_succ_of_lt (h.fresh b p hb), h.blk, h.dom, h.inj⟩
def Phi.set (φ : Phi) (b : Nat) (p : Place) : Phi := fun c => if c = b then some p else φ c
theorem Phi.le_set {φ : Phi} {σ : AW} {w : World} (h : WR P φ σ w) (p : Place) : φ.le (φ.set σ.next p) := fun b q hb => by
  have : b ≠ σ.next := Nat.ne_of_lt (h.fresh b q hb)
  simp [Phi.set, this, hb]
theorem WR.setSkip {φ : Phi} {σ : AW} {w : World} (h : WR P φ σ w) (hr : RO σ) (p : Place) (hp : p.blk < w.heap.size) : WR P (φ.set σ.next p) { σ with next := σ.next + 1 } w := by
  have hle := Phi.le_set h p
  refine ⟨fun b q hb => ?_, fun b q hb => ?_, fun b o ho => ?_, fun b c x y q r hx hy hrw => ?_⟩
  · unfold Phi.set at hb
    split at hb
    · rename_i e; subst e; exact Nat.lt_succ_self _
    · exact Nat.lt_succ_of_lt (h.fresh b q hb)
  · unfold Phi.set at hb
    split at hb
    · injection hb with hb; subst hb; exact hp
    · exact h.blk b q hb
  · obtain ⟨q, h1, h2⟩ := h.dom b o ho
    exact ⟨q, hle _ _ h1, h2.mono hle⟩
  · have := hr b x hx
    rw [hrw] at this; cases this
theorem WR.pushRo {φ : Phi} {σ : AW} {w : World} (h : WR P φ σ w) (hr : RO σ) (p : Place) (hp : p.blk < w.heap.size) {vs : List Value} {e : TypeId} (ho : OR P φ p w (.cells vs e true)) :
    WR P (φ.set σ.next p) (σ.push (.cells vs e true)) w ∧ RO (σ.push (.cells vs e true)) := by
  have hle := Phi.le_set h p
  have hro : RO (σ.push (.cells vs e true)) := fun b o hb => by
    rw [AW.get_push] at hb
    split at hb
    · injection hb with hb; subst hb; rfl
    · exact hr b o hb
  refine ⟨⟨fun b q hb => ?_, fun b q hb => ?_, fun b o hb => ?_, fun b c x y q r hx hy hrw => ?_⟩, hro⟩
  · unfold Phi.set at hb
    split at hb
    · rename_i e; subst e; exact Nat.lt_succ_self _
    · exact Nat.lt_succ_of_lt (h.fresh b q hb)
  · unfold Phi.set at hb
    split at hb
    · injection hb with hb; subst hb; exact hp
    · exact h.blk b q hb
  · rw [AW.get_push] at hb
    split at hb
    · rename_i e
      subst e
      injection hb with hb; subst hb
      exact ⟨p, by simp [Phi.set], ho.mono hle⟩
    · obtain ⟨q, h1, h2⟩ := h.dom b o hb
      exact ⟨q, hle _ _ h1, h2.mono hle⟩
  · have := hro b x hx
    rw [hrw] at this; cases this

section
variable {enc : TypeId × Value → H} {w : World} {sp : Nat → Bool} {held : Bool}

/-- What a layer answers. -/
def LayOk (P : Program) (w : World) (f : AW → Option (List Value × AW)) (cs : List Value) : Prop :=
  ∀ φ σ, WR P φ σ w → RO σ → ∃ vs τ ψ, f σ = some (vs, τ) ∧ VRs ψ vs cs ∧ WR P ψ τ w ∧ RO τ ∧ φ.le ψ

theorem addr_add_add (a : Addr) (m n : Nat) : (a.add m).add n = a.add (m + n) := by
  unfold Addr.add
  by_cases hm : m = 0
  · simp [hm]
  · by_cases hn : n = 0
    · simp [hn]
    · simp [hm, hn, Nat.add_assoc]
theorem cell_add_block {w : World} {a : Addr} {n : Nat} {v : Value} (h : w.cell? (a.add n) = some v) : (a.add n).block = a.block := by
  unfold Addr.add
  split <;> rfl
theorem cellsRow {z : Nat} {a : Addr} {l : List Value} (h : w.cells? 0 a z = some l) : l.length = z ∧ ∀ j, j < z → w.cell? (a.add j) = l[j]? := by
  unfold World.cells? at h
  simp only [Nat.zero_le, if_true] at h
  obtain ⟨h1, h2⟩ := mapM_some h
  simp only [List.length_range] at h1
  refine ⟨h1, fun j hj => ?_⟩
  obtain ⟨y, h3, h4⟩ := h2 j j (by simp [hj])
  rw [h3]
  exact h4

theorem layAll_rel {n z : Nat} {e : TypeId} {a : Addr} (ih : ∀ cs d ps, DataW.trod enc P w 0 sp held n e cs = some (d, ps) → LayOk P w (lay P n e d) cs) :
    ∀ (len s : Nat) (xs : List (DataW H × List MemPlace)), (List.range' s len).mapM (fun i => (w.cells? 0 (a.add (i * z)) z).bind (DataW.trod enc P w 0 sp held n e)) = some xs →
      ∃ ES, ES.length = len * z ∧ (∀ i, i < len * z → w.cell? (a.add (s * z + i)) = ES[i]?) ∧ LayOk P w (layAll (lay P n e) (xs.map (·.1))) ES
  | 0, s, xs, h => by
    simp at h; subst h
    exact ⟨[], by simp, by simp, fun φ σ hw hr => ⟨[], σ, φ, rfl, VRs.nil, hw, hr, Phi.le_refl _⟩⟩
  | len + 1, s, xs, h => by
    simp only [List.range'_succ, List.mapM_cons, Option.bind_eq_bind, Option.bind_eq_some_iff, Option.pure_def, Option.some.injEq] at h
    obtain ⟨y, ⟨cs, hc, ht⟩, ys, h2, rfl⟩ := h
    obtain ⟨d, ps⟩ := y
    obtain ⟨c1, c2⟩ := cellsRow hc
    obtain ⟨ES, e1, e2, e3⟩ := layAll_rel ih len (s + 1) ys h2
    refine ⟨cs ++ ES, by simp [c1, e1, Nat.succ_mul]; omega, fun i hi => ?_, fun φ σ hw hr => ?_⟩
    · by_cases hlt : i < z
      · rw [List.getElem?_append_left (by omega), ← c2 i hlt]
        rw [addr_add_add]
      · rw [List.getElem?_append_right (by omega), c1, ← e2 (i - z) (by rw [Nat.succ_mul] at hi; omega)]
        have : s * z + i = (s + 1) * z + (i - z) := by rw [Nat.succ_mul]; omega
        rw [this]
    · obtain ⟨vs, τ, ψ, f1, f2, f3, f4, f5⟩ := ih cs d ps ht φ σ hw hr
      obtain ⟨us, υ, χ, g1, g2, g3, g4, g5⟩ := e3 ψ τ f3 f4
      exact ⟨vs ++ us, υ, χ, by simp only [List.map_cons, layAll, f1, g1], (f2.mono g5).append g2, g3, g4, Phi.le_trans f5 g5⟩

theorem layFields_rel {n : Nat} {cs : List Value} {tot : Nat} (hcs : cs.length = tot) : ∀ (fs : List Field) (o : Nat) (xs : List (DataW H × List MemPlace)), contig P o fs = some tot →
    (∀ f ∈ fs, ∀ cs d ps, DataW.trod enc P w 0 sp held n f.type cs = some (d, ps) → LayOk P w (lay P n f.type d) cs) →
    fs.mapM (fun f => DataW.trod enc P w 0 sp held n f.type ((cs.drop f.offset).take (P.cellsOf f.type))) = some xs → LayOk P w (layFields (lay P n) (fs.map (·.type)) (xs.map (·.1))) (cs.drop o)
  | [], o, xs, hc, _, h => by
    simp at h; subst h
    simp only [contig, Option.some.injEq] at hc
    intro φ σ hw hr
    refine ⟨[], σ, φ, rfl, ?_, hw, hr, Phi.le_refl _⟩
    rw [List.drop_eq_nil_of_le (by omega)]
    exact VRs.nil
  | f :: fs, o, xs, hc, ih, h => by
    simp only [contig] at hc
    split at hc
    · rename_i ho
      simp only [List.mapM_cons, Option.bind_eq_bind, Option.bind_eq_some_iff, Option.pure_def, Option.some.injEq] at h
      obtain ⟨⟨d, ps⟩, ht, ys, h2, rfl⟩ := h
      rw [ho] at ht
      have rest := layFields_rel hcs fs (o + P.cellsOf f.type) ys hc (fun f hf => ih f (by simp [hf])) h2
      intro φ σ hw hr
      obtain ⟨vs, τ, ψ, f1, f2, f3, f4, f5⟩ := ih f (by simp) _ d ps ht φ σ hw hr
      obtain ⟨us, υ, χ, g1, g2, g3, g4, g5⟩ := rest ψ τ f3 f4
      refine ⟨vs ++ us, υ, χ, by simp only [List.map_cons, layFields, f1, g1], ?_, g3, g4, Phi.le_trans f5 g5⟩
      have : cs.drop o = (cs.drop o).take (P.cellsOf f.type) ++ cs.drop (o + P.cellsOf f.type) := by
        rw [← List.drop_drop, List.take_append_drop]
      rw [this]
      exact (f2.mono g5).append g2
    · cases hc

theorem cell_block {a : Addr} {v : Value} (h : w.cell? a = some v) : a.block < w.heap.size ∧ a.spot = none := by
  unfold World.cell? at h
  split at h
  · rename_i hh
    split at h
    · cases h
    · rename_i hs
      refine ⟨?_, by cases hsp : a.spot <;> simp_all⟩
      rcases Nat.lt_or_ge a.block w.heap.size with g | g
      · exact g
      · rw [Array.getElem?_eq_none g] at hh; cases hh
  · cases h

theorem lay_rel : ∀ (n : Nat) (m : Nat) (t : TypeId) (cs : List Value) (d : DataW H) (ps : List MemPlace), tyOk P m t = true → DataW.trod enc P w 0 (fun _ => true) held n t cs = some (d, ps) → LayOk P w (lay P n t d) cs := by
  intro n
  induction n with
  | zero => intro m t cs d ps _ h; simp [DataW.trod] at h
  | succ n ih =>
    intro m t cs d ps hm h
    cases m with
    | zero => simp [tyOk] at hm
    | succ m =>
      unfold tyOk at hm
      unfold DataW.trod at h
      cases hu : P.underlying t with
      | none => rw [hu] at hm; cases hm
      | some desc =>
        rw [hu] at hm h
        have flatOne : ∀ v, flat v = true → cs = [v] → (∀ σ, lay P (n + 1) t d σ = some ([v], σ)) → LayOk P w (lay P (n + 1) t d) cs := fun v hf hcs hl φ σ hw hr =>
          ⟨[v], σ, φ, hl σ, by rw [hcs]; exact VRs.flat_refl (by simp [flatL, hf]), hw, hr, Phi.le_refl _⟩
        cases desc <;> simp only [Bool.false_eq_true] at hm
        case bool =>
          split at h <;> try (simp at *; done)
          rename_i b hb
          injection hb with hb
          simp only [Option.some.injEq, Prod.mk.injEq] at h
          obtain ⟨rfl, _⟩ := h
          exact flatOne (.bool b) rfl rfl fun σ => by simp [lay, hu]
        case int k =>
          split at h <;> try (simp at *; done)
          rename_i k1 k' x hk
          injection hk with hk
          injection hk with hk
          subst hk
          split at h
          · rename_i hc
            obtain ⟨rfl, hwf⟩ := hc
            simp only [Option.some.injEq, Prod.mk.injEq] at h
            obtain ⟨rfl, _⟩ := h
            exact flatOne (.int k' x) rfl rfl fun σ => by simp [lay, hu, hwf]
          · cases h
        case string =>
          split at h <;> try (simp at *; done)
          rename_i s hs
          split at h
          · rename_i hc
            simp only [Option.some.injEq, Prod.mk.injEq] at h
            obtain ⟨rfl, _⟩ := h
            exact flatOne (.string s) rfl rfl fun σ => by
              have : s.data.toList.length ≤ maxLen := by simpa using hc
              simp only [lay, hu, this, if_true]
          · cases h
        case slice e =>
          simp only [Bool.and_eq_true, decide_eq_true_eq] at hm
          obtain ⟨⟨_, hz⟩, hme⟩ := hm
          split at h <;> try (simp at *; done)
          · simp only [Option.some.injEq, Prod.mk.injEq] at h
            obtain ⟨rfl, _⟩ := h
            exact flatOne (.slice none 0 0) rfl rfl fun σ => by simp [lay, hu]
          · rename_i e' _ a len cap he
            injection he with he
            injection he with he
            subst he
            simp only [Nat.zero_le, true_and, if_true] at h
            split at h
            · rename_i hlen
              simp only [Option.bind_eq_some_iff, Option.map_eq_some_iff, Prod.mk.injEq] at h
              obtain ⟨elems, h1, rest, h2, rfl, _⟩ := h
              rw [List.range_eq_range'] at h1
              have hlenE : elems.length = len := by simpa using (mapM_some h1).1
              obtain ⟨ES, e1, e2, e3⟩ := layAll_rel (fun cs d ps ht => ih m e cs d ps hme ht) len 0 elems h1
              simp only [Nat.zero_mul, Nat.zero_add] at e2
              intro φ σ hw hr
              obtain ⟨vs, τ, ψ, g1, g2, g3, g4, g5⟩ := e3 φ σ hw hr
              rcases Nat.eq_zero_or_pos len with hl0 | hlp
              · subst hl0
                have hel : elems = [] := List.length_eq_zero_iff.1 hlenE
                subst hel
                simp only [List.map_nil, layAll, Option.some.injEq, Prod.mk.injEq] at g1
                obtain ⟨rfl, rfl⟩ := g1
                have hlay : lay P (n + 1) t (DataW.slice ([] : List (DataW H)) (rest.map (·.1))) σ = some ([.slice (some ⟨σ.next, 0, some (P.cellsOf e)⟩) 0 0], { σ with next := σ.next + 1 }) := by
                  simp [lay, hu, layAll]
                rcases Nat.eq_zero_or_pos cap with hc0 | hcp
                · subst hc0
                  refine ⟨_, _, ψ, hlay, VRs.cons ?_ VRs.nil, g3.skipOne, g4, g5⟩
                  simp only [VR]
                  exact .inr ⟨trivial, trivial, a, rfl⟩
                · -- there is room: its first place
                  obtain ⟨_, h3⟩ := mapM_some h2
                  obtain ⟨y, _, hy⟩ := h3 0 0 (by rw [List.getElem?_range (by omega)])
                  simp only [Option.bind_eq_some_iff] at hy
                  obtain ⟨cs0, hcs0, _⟩ := hy
                  obtain ⟨k1, k2⟩ := cellsRow hcs0
                  have k3 := k2 0 hz
                  cases hv0 : cs0[0]? with
                  | none => rw [List.getElem?_eq_none_iff] at hv0; omega
                  | some v0 =>
                    rw [hv0] at k3
                    obtain ⟨k4, k5⟩ : a.block < w.heap.size ∧ a.spot = none := by
                      have hz : ∀ b : Addr, b.add 0 = b := fun b => rfl
                      rw [Nat.zero_add, Nat.zero_mul, hz, hz] at k3
                      exact cell_block k3
                    refine ⟨_, _, ψ.set σ.next ⟨a.block, a.off, cap * P.cellsOf e⟩, hlay, VRs.cons ?_ VRs.nil, g3.setSkip g4 _ k4, g4, Phi.le_trans g5 (Phi.le_set g3 _)⟩
                    simp only [VR]
                    refine .inl ⟨⟨a.block, a.off, cap * P.cellsOf e⟩, cap, P.cellsOf e, by simp [Phi.set], rfl, by simp, Nat.zero_le _, ?_⟩
                    obtain ⟨ab, ao, asp⟩ := a
                    subst k5
                    rfl
              · have hne : (elems.map (·.1)).isEmpty = false := by cases elems with
                  | nil => simp at hlenE; omega
                  | cons _ _ => rfl
                have hlay : lay P (n + 1) t (DataW.slice (elems.map (·.1)) (rest.map (·.1))) σ = some ([.slice (some ⟨τ.next, 0, some (P.cellsOf e)⟩) len len], τ.push (.cells vs e true)) := by
                  have hml : ¬ maxLen < len := by omega
                  simp only [lay, hu, g1, hne, Bool.false_eq_true, if_false, List.length_map, hlenE, hml]
                have hpos : 0 < len * P.cellsOf e := Nat.mul_pos hlp hz
                have k3 := e2 0 hpos
                cases hv0 : ES[0]? with
                | none => rw [List.getElem?_eq_none_iff] at hv0; omega
                | some v0 =>
                  rw [hv0] at k3
                  obtain ⟨k4, k5⟩ : a.block < w.heap.size ∧ a.spot = none := cell_block k3
                  obtain ⟨ab, ao, asp⟩ := a
                  subst k5
                  have addOff : ∀ i, Addr.add ⟨ab, ao, none⟩ i = ⟨ab, ao + i, none⟩ := fun i => by
                    unfold Addr.add
                    split
                    · rename_i h0; subst h0; rfl
                    · rfl
                  obtain ⟨p1, p2⟩ := g3.pushRo g4 ⟨ab, ao, cap * P.cellsOf e⟩ k4 (vs := vs) (e := e) (fun i v hv => by
                    obtain ⟨v', q1, q2⟩ := g2.at i v hv
                    refine ⟨v', ?_, q2⟩
                    have hi : i < len * P.cellsOf e := by
                      rcases Nat.lt_or_ge i ES.length with g | g
                      · omega
                      · rw [List.getElem?_eq_none g] at q1; cases q1
                    rw [← q1, ← e2 i hi, addOff])
                  refine ⟨_, _, ψ.set τ.next ⟨ab, ao, cap * P.cellsOf e⟩, hlay, VRs.cons ?_ VRs.nil, p1, p2, Phi.le_trans g5 (Phi.le_set g3 _)⟩
                  simp only [VR]
                  exact .inl ⟨⟨ab, ao, cap * P.cellsOf e⟩, cap, P.cellsOf e, by simp [Phi.set], rfl, by simp, hlen.1, rfl⟩
            · cases h
        case struct fs =>
          simp only [Bool.and_eq_true, decide_eq_true_eq, List.all_eq_true] at hm
          obtain ⟨hct, hfs⟩ := hm
          simp only at h
          split at h
          · rename_i hlen
            simp only [Option.map_eq_some_iff, Prod.mk.injEq] at h
            obtain ⟨xs, h1, rfl, _⟩ := h
            have := layFields_rel hlen fs.toList 0 xs hct (fun f hf cs d ps ht => ih m f.type cs d ps (hfs f hf) ht) h1
            intro φ σ hw hr
            obtain ⟨vs, τ, ψ, g1, g2⟩ := this φ σ hw hr
            exact ⟨vs, τ, ψ, by simp only [lay, hu]; exact g1, by simpa using g2⟩
          · cases h
end
end Go.Proofs.Ytjmafbiklebjcaa.Eng
