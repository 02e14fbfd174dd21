/- Regions that draw their order: sound. -/
import Derived.Test.YtjmafbiklebjcaaEngK
set_option linter.unusedVariables false
set_option linter.unusedSimpArgs false
namespace Go.Proofs.Ytjmafbiklebjcaa.Eng
variable {P : Program} {call : FuncId → List Value → AM Value} {ops : Array Oper}

/-! ### what goes before -/
def maskOf (acc : Array Nat) (o : Oper) : Nat := o.after.foldl (fun s e => if Region.binds .any e = true then s ||| 2 ^ e.on ||| acc.getD e.on 0 else s) 0
theorem maskOf_bit {acc : Array Nat} {o : Oper} {i : Nat} (h : (maskOf acc o).testBit i = true) : ∃ e ∈ o.after, Region.binds .any e = true ∧ (i = e.on ∨ (acc.getD e.on 0).testBit i = true) := by
  unfold maskOf at h
  rw [← Array.foldl_toList] at h
  have key : ∀ (l : List Edge) (s : Nat), (l.foldl (fun s e => if Region.binds .any e = true then s ||| 2 ^ e.on ||| acc.getD e.on 0 else s) s).testBit i = true →
      s.testBit i = true ∨ ∃ e ∈ l, Region.binds .any e = true ∧ (i = e.on ∨ (acc.getD e.on 0).testBit i = true) := by
    intro l
    induction l with
    | nil => intro s h; exact .inl h
    | cons e l ih =>
      intro s h
      rcases ih _ h with h | ⟨e', h1, h2⟩
      · simp only at h
        split at h
        · rename_i hb
          simp only [Nat.testBit_or, Bool.or_eq_true, Nat.testBit_two_pow, decide_eq_true_eq] at h
          rcases h with (h | h) | h
          · exact .inl h
          · exact .inr ⟨e, by simp, hb, .inl h.symm⟩
          · exact .inr ⟨e, by simp, hb, .inr h⟩
        · exact .inl h
      · exact .inr ⟨e', by simp [h1], h2⟩
  rcases key _ _ h with h | ⟨e, h1, h2⟩
  · simp at h
  · exact ⟨e, by simpa using h1, h2⟩
theorem before_eq (ops : Array Oper) : Region.before ops = ops.foldl (fun acc o => acc.push (maskOf acc o)) #[] := rfl
theorem before_spec {i j : Nat} (h : isBefore (Region.before ops) i j = true) : ∃ o, ops[j]? = some o ∧ ∃ e ∈ o.after, Region.binds .any e = true ∧ (i = e.on ∨ isBefore (Region.before ops) i e.on = true) := by
  let Inv (n : Nat) (acc : Array Nat) : Prop := acc.size = n ∧ ∀ i j, (acc.getD j 0).testBit i = true → ∃ o, ops[j]? = some o ∧ ∃ e ∈ o.after, Region.binds .any e = true ∧ (i = e.on ∨ (acc.getD e.on 0).testBit i = true)
  have inv : Inv ops.size (Region.before ops) := by
    rw [before_eq]
    refine Array.foldl_induction (motive := Inv) ⟨rfl, fun i j h => by simp at h⟩ ?_
    intro n acc ⟨h1, h2⟩
    refine ⟨by simp [h1], fun i j h => ?_⟩
    have keep : ∀ k, (acc.getD k 0).testBit i = true → (acc.push (maskOf acc ops[n])).getD k 0 = acc.getD k 0 := fun k hk => by
      have : k < acc.size := by
        rcases Nat.lt_or_ge k acc.size with g | g
        · exact g
        · simp [Array.getD_eq_getD_getElem?, Array.getElem?_eq_none g] at hk
      simp [Array.getD_eq_getD_getElem?, Array.getElem?_push, Nat.ne_of_lt this]
    by_cases hj : j = acc.size
    · have hm : (acc.push (maskOf acc ops[n])).getD j 0 = maskOf acc ops[n] := by simp [Array.getD_eq_getD_getElem?, hj]
      rw [hm] at h
      obtain ⟨e, e1, e2, e3⟩ := maskOf_bit h
      refine ⟨ops[n], by have : j = n.val := hj.trans h1; subst this; simp, e, e1, e2, ?_⟩
      rcases e3 with e3 | e3
      · exact .inl e3
      · exact .inr (by rw [keep _ e3]; exact e3)
    · have hm : (acc.push (maskOf acc ops[n])).getD j 0 = acc.getD j 0 := by simp [Array.getD_eq_getD_getElem?, Array.getElem?_push, hj]
      rw [hm] at h
      obtain ⟨o, o1, e, e1, e2, e3⟩ := h2 i j h
      refine ⟨o, o1, e, e1, e2, ?_⟩
      rcases e3 with e3 | e3
      · exact .inl e3
      · exact .inr (by rw [keep _ e3]; exact e3)
  exact inv.2 i j h

theorem mem_indexed_iff {x : IOp} : x ∈ indexed ops ↔ ops[x.1]? = some x.2 := by
  refine ⟨mem_indexed, fun h => ?_⟩
  unfold indexed
  have hlt : x.1 < ops.size := (Array.getElem?_eq_some_iff.1 h).1
  refine List.mem_iff_getElem?.2 ⟨x.1, ?_⟩
  rw [List.getElem?_zip_eq_some]
  exact ⟨by simp [hlt], by simpa using h⟩

section
variable (hok : drawOk P ops (Region.before ops) = true)
include hok
theorem ok_edge {j : Nat} {o : Oper} (ho : ops[j]? = some o) {e : Edge} (he : e ∈ o.after) (hb : Region.binds .any e = true) : e.on < j := by
  unfold drawOk at hok
  have h := List.all_eq_true.1 hok (j, o) (mem_indexed_iff.2 ho)
  simp only [Bool.and_eq_true, Array.all_eq_true_iff_forall_mem] at h
  have := h.1.1 e he
  simpa [hb] using this
theorem before_lt : ∀ (j i : Nat), isBefore (Region.before ops) i j = true → i < j := by
  intro j
  induction j using Nat.strongRecOn with
  | ind j ih =>
    intro i h
    obtain ⟨o, ho, e, he, hb, h⟩ := before_spec h
    have hlt := ok_edge hok ho he hb
    rcases h with rfl | h
    · exact hlt
    · exact Nat.lt_trans (ih _ hlt _ h) hlt
theorem ok_guard {j : Nat} {o : Oper} (ho : ops[j]? = some o) {g : Nat × Bool} (hg : o.guard = some g) : isBefore (Region.before ops) g.1 j = true := by
  unfold drawOk at hok
  have h := List.all_eq_true.1 hok (j, o) (mem_indexed_iff.2 ho)
  simp only [Bool.and_eq_true] at h
  have := h.1.2
  simpa [hg] using this
theorem ok_apart {x y : Ent} (hx : ops[x.i]? = some x.o) (hy : ops[y.i]? = some y.o) (hne : x.i ≠ y.i) : Apart P ops (Region.before ops) x y := by
  unfold drawOk at hok
  have h := List.all_eq_true.1 hok (y.i, y.o) (mem_indexed_iff.2 hy)
  simp only [Bool.and_eq_true] at h
  have h := List.all_eq_true.1 h.2 (x.i, x.o) (mem_indexed_iff.2 hx)
  simp only [Bool.or_eq_true, decide_eq_true_eq, hne, false_or, Bool.and_eq_true] at h
  obtain ⟨h1, h2⟩ := h
  refine ⟨fun d hd hn => ?_, fun a b => ?_⟩
  · simp only [hd, Bool.or_eq_true, Bool.not_eq_true'] at h1
    rcases h1 with (h1 | h1) | h1
    · simp at h1; exact absurd hn h1
    · exact .inl h1
    · exact .inr h1
  · simp only [Ent.hv, Bool.and_eq_true, decide_eq_true_eq] at a b
    simp only [a.2, b.2, ne_eq, not_true_eq_false, false_or] at h2
    exact h2
end

def doneOf (listed : Array Bool) (i : Nat) : Bool := listed.getD i false
theorem doneOf_set {listed : Array Bool} {j : Nat} (hj : j < listed.size) : doneOf (listed.setIfInBounds j true) = with1 (doneOf listed) j := by
  funext i
  unfold doneOf with1
  simp only [Array.getD_eq_getD_getElem?, Array.getElem?_setIfInBounds]
  by_cases h : j = i
  · subst h; simp [hj]
  · have h2 : (i == j) = false := beq_eq_false_iff_ne.2 fun h' => h h'.symm
    simp [h, h2]

def leftOf (listed : Array Bool) (n : Nat) : Nat := ((List.range n).filter fun i => !doneOf listed i).length
theorem leftOf_set {listed : Array Bool} {j n : Nat} (hj : j < listed.size) (hn : j < n) (h : doneOf listed j = false) : leftOf (listed.setIfInBounds j true) n + 1 ≤ leftOf listed n := by
  unfold leftOf
  rw [doneOf_set hj]
  have key : ∀ l : List Nat, j ∈ l → (l.filter fun i => !with1 (doneOf listed) j i).length + 1 ≤ (l.filter fun i => !doneOf listed i).length := by
    intro l
    have le : ∀ l : List Nat, (l.filter fun i => !with1 (doneOf listed) j i).length ≤ (l.filter fun i => !doneOf listed i).length := by
      intro l
      induction l with
      | nil => simp
      | cons x l ih =>
        simp only [List.filter_cons, with1]
        cases doneOf listed x <;> cases hxj : (x == j) <;> simp <;> simp [with1] at ih <;> omega
    induction l with
    | nil => simp
    | cons x l ih =>
      intro hm
      by_cases hxj : x = j
      · subst hxj
        have := le l
        simp only [List.filter_cons, with1, h, beq_self_eq_true, Bool.or_true, Bool.not_true, Bool.false_eq_true, if_false, Bool.not_false, if_true, List.length_cons]
        simp only [with1] at this
        omega
      · have hm' : j ∈ l := by rcases List.mem_cons.1 hm with h | h; exact absurd h.symm hxj; exact h
        have := ih hm'
        simp only [List.filter_cons, with1, beq_eq_false_iff_ne.2 hxj, Bool.or_false] at this ⊢
        cases doneOf listed x <;> simp at this ⊢ <;> omega
  exact key _ (List.mem_range.2 hn)

theorem drawn_sound {β : Type} (hc : CallsOk P call) (hok : drawOk P ops (Region.before ops) = true) {Q : Exit → Act → World → Prop} {K : Env → AM β} {r : β × AW} {T : List Ent} {e0 : Env} {σ0 : AW} {φ0 : Phi} {a0 : Act} {w0 : World} (W : List Nat)
    (hTm : T.map (fun x => (x.i, x.o)) = indexed ops) (hT : Tr P call ops (Region.before ops) T [] [] e0 σ0 fun _ _ e σ => K e σ = some r)
    (hW : ∀ x ∈ T, ∀ d, x.o.dst = some d → d < a0.tmps.size ∧ d ∈ W) (hQ : ∀ a' w', After P W φ0 σ0 w0 a0 K r a' w' → Q .normal a' w') :
    ∀ (fuel : Nat) (listed : Array Bool) (a : Act) (w : World) (φ : Phi), listed.size = ops.size → Down (Region.before ops) (doneOf listed) → leftOf listed ops.size ≤ fuel →
      ER φ (eD T (doneOf listed) e0) a.tmps → WR P φ (sD P T (doneOf listed) σ0) w → Fr W φ0 σ0 w0 a0 φ (sD P T (doneOf listed) σ0) w a → wpAny P .any ops Q fuel listed a w := by
  have inT : ∀ x ∈ T, ops[x.i]? = some x.o := fun x hx => by
    have : (x.i, x.o) ∈ indexed ops := hTm ▸ List.mem_map.2 ⟨x, hx, rfl⟩
    exact mem_indexed this
  have idx : T.map (·.i) = List.range ops.size := by
    rw [← indexed_map, ← hTm, List.map_map]; rfl
  -- when none is left
  have full : ∀ (listed : Array Bool) (a : Act) (w : World) (φ : Phi), (∀ i, i < ops.size → doneOf listed i = true) →
      ER φ (eD T (doneOf listed) e0) a.tmps → WR P φ (sD P T (doneOf listed) σ0) w → Fr W φ0 σ0 w0 a0 φ (sD P T (doneOf listed) σ0) w a → Q .normal a w := fun listed a w φ hall her hwr hfr => by
    obtain ⟨_, _, _, _, _, _, hK⟩ := Tr.canon T hT
    have hi : ∀ x ∈ T, doneOf listed x.i = true := fun x hx => hall _ (by
      have := inT x hx
      exact (Array.getElem?_eq_some_iff.1 this).1)
    rw [sD_same T (doneOf listed) (fun _ => true) σ0 fun x hx _ => hi x hx] at hwr hfr
    refine hQ a w ⟨φ, _, _, ⟨fun t => ?_, hwr⟩, hfr, hK⟩
    rw [← eD_get T (doneOf listed) (fun _ => true) e0 e0 (fun x hx _ => hi x hx) rfl]
    exact her t
  have none_left : ∀ (listed : Array Bool), listed.size = ops.size → Region.ready .any ops listed = [] → ∀ i, i < ops.size → doneOf listed i = true := fun listed hsz hr i => by
    induction i using Nat.strongRecOn with
    | ind i ih =>
      intro hi
      cases hd : doneOf listed i with
      | true => rfl
      | false =>
        exfalso
        have : i ∈ Region.ready .any ops listed := by
          rw [mem_ready]
          refine ⟨?_, ops[i], by simp [hi], fun e he hb => ?_⟩
          · unfold doneOf at hd
            simp only [Array.getD_eq_getD_getElem?] at hd ⊢
            have : i < listed.size := by omega
            simp [this] at hd ⊢
            exact hd
          · have hlt := ok_edge hok (o := ops[i]) (j := i) (by simp [hi]) he hb
            exact ih _ hlt (by omega)
        rw [hr] at this
        cases this
  intro fuel
  induction fuel with
  | zero =>
    intro listed a w φ hsz hdn hleft her hwr hfr
    have hall : ∀ i, i < ops.size → doneOf listed i = true := fun i hi => by
      cases hd : doneOf listed i with
      | true => rfl
      | false =>
        unfold leftOf at hleft
        have : i ∈ (List.range ops.size).filter fun i => !doneOf listed i := List.mem_filter.2 ⟨List.mem_range.2 hi, by simp [hd]⟩
        rw [List.length_eq_zero_iff.1 (Nat.le_zero.1 hleft)] at this
        cases this
    refine ⟨?_, full listed a w φ hall her hwr hfr⟩
    cases hr : Region.ready .any ops listed with
    | nil => rfl
    | cons j l =>
      have : j ∈ Region.ready .any ops listed := by rw [hr]; simp
      obtain ⟨h0, o, ho, _⟩ := mem_ready.1 this
      have hj := (Array.getElem?_eq_some_iff.1 ho).1
      have h1 := hall j hj
      unfold doneOf at h1
      simp only [Array.getD_eq_getD_getElem?] at h0 h1
      have : j < listed.size := by omega
      simp [this] at h0 h1
      rw [h0] at h1; cases h1
  | succ fuel ih =>
    intro listed a w φ hsz hdn hleft her hwr hfr
    refine ⟨fun hr => full listed a w φ (none_left listed hsz hr) her hwr hfr, fun j hj => ?_⟩
    obtain ⟨h0, o, ho, hafter⟩ := mem_ready.1 hj
    have hjs := (Array.getElem?_eq_some_iff.1 ho).1
    have hjl : j < listed.size := by omega
    have hjd : doneOf listed j = false := by
      unfold doneOf
      simp only [Array.getD_eq_getD_getElem?] at h0 ⊢
      simp [hjl] at h0 ⊢
      exact h0
    -- its entry
    have hmem : (j, o) ∈ indexed ops := mem_indexed_iff.2 ho
    rw [← hTm] at hmem
    obtain ⟨y, hyT, hyj⟩ := List.mem_map.1 hmem
    injection hyj with hyi hyo
    subst hyi
    subst hyo
    obtain ⟨A, B, rfl⟩ := List.append_of_mem hyT
    have hsorted : (A ++ y :: B).Pairwise fun x z => x.i < z.i := by
      have : ((A ++ y :: B).map (·.i)).Pairwise (· < ·) := by rw [idx]; exact List.pairwise_lt_range
      exact List.pairwise_map.1 this
    have hps := List.pairwise_append.1 hsorted
    have hpy := List.pairwise_cons.1 hps.2.1
    have hAlt : ∀ x ∈ A, x.i < y.i := fun x hx => hps.2.2 x hx y (by simp)
    have hBlt : ∀ x ∈ B, y.i < x.i := fun x hx => hpy.1 x hx
    have hnot : ∀ {i k : Nat}, i < k → isBefore (Region.before ops) k i = false := fun {i k} h => by
      cases hb : isBefore (Region.before ops) k i with
      | false => rfl
      | true => have := before_lt hok _ _ hb; omega
    have hA : ∀ x ∈ A, Apart P ops (Region.before ops) x y ∧ isBefore (Region.before ops) y.i x.i = false := fun x hx =>
      ⟨ok_apart hok (inT x (by simp [hx])) ho (Nat.ne_of_lt (hAlt x hx)), hnot (hAlt x hx)⟩
    have hB : ∀ x ∈ B, Apart P ops (Region.before ops) x y ∧ isBefore (Region.before ops) x.i y.i = false := fun x hx =>
      ⟨ok_apart hok (inT x (by simp [hx])) ho (Nat.ne_of_gt (hBlt x hx)), hnot (hBlt x hx)⟩
    have hAA : ∀ A1 z A2, A = A1 ++ z :: A2 → ∀ x ∈ A2, Apart P ops (Region.before ops) z x ∧ isBefore (Region.before ops) x.i z.i = false := fun A1 z A2 hAe x hx => by
      have hlt : z.i < x.i := by
        rw [hAe] at hps
        exact (List.pairwise_cons.1 (List.pairwise_append.1 hps.1).2.1).1 x hx
      exact ⟨ok_apart hok (inT z (by simp [hAe])) (inT x (by simp [hAe, hx])) (Nat.ne_of_lt hlt), hnot hlt⟩
    have hr : ∀ i, isBefore (Region.before ops) i y.i = true → doneOf listed i = true := fun i hb => by
      obtain ⟨o', ho', e, he, heb, h⟩ := before_spec hb
      rw [ho] at ho'; injection ho' with ho'; subst ho'
      have hd : doneOf listed e.on = true := hafter e he heb
      rcases h with rfl | h
      · exact hd
      · exact hdn _ _ h hd
    have hnames : ∀ t ∈ namesOf ops y.o, (eD (A ++ y :: B) (doneOf listed) e0).get t = y.e.get t := fun t ht => names_stand hT hA hB hdn hjd hr ht
    have hguard : ∀ g, y.o.guard = some g → ∀ s, slotOf ops g.1 = some s → s ∈ namesOf ops y.o := fun g hg s hs => by
      unfold namesOf
      simp [hg, hs]
    -- then
    have next : ∀ ψ v' w', VR ψ y.v v' → WR P ψ (if y.hv P then y.s' else sD P (A ++ y :: B) (doneOf listed) σ0) w' → FR φ (sD P (A ++ y :: B) (doneOf listed) σ0) w ψ (if y.hv P then y.s' else sD P (A ++ y :: B) (doneOf listed) σ0) w' →
        wpAny P .any ops Q fuel (listed.setIfInBounds y.i true) (a.put y.o.dst v') w' := fun ψ v' w' hv hwr' hfr' => by
      have hW' : ∀ d, y.o.dst = some d → d < a.tmps.size ∧ d ∈ W := fun d hd => by
        obtain ⟨h1, h2⟩ := hW y (by simp) d hd
        exact ⟨by rw [hfr.size]; exact h1, h2⟩
      have hBn : ∀ x ∈ B, x.i ≠ y.i ∧ Apart P ops (Region.before ops) x y ∧ isBefore (Region.before ops) x.i y.i = false := fun x hx => ⟨Nat.ne_of_gt (hBlt x hx), hB x hx⟩
      have hAn : ∀ x ∈ A, x.i ≠ y.i := fun x hx => Nat.ne_of_lt (hAlt x hx)
      refine ih (listed.setIfInBounds y.i true) (a.put y.o.dst v') w' ψ (by simp [hsz]) ?_ ?_ ?_ ?_ ?_
      · rw [doneOf_set hjl]
        intro i k hb hk
        simp only [with1, Bool.or_eq_true, beq_iff_eq] at hk ⊢
        rcases hk with hk | rfl
        · exact .inl (hdn _ _ hb hk)
        · exact .inl (hr _ hb)
      · have := leftOf_set hjl hjs hjd
        omega
      · rw [doneOf_set hjl]
        intro t
        rw [eD_with hAn hBn hdn hjd]
        exact (her.mono hfr'.le).put hv (fun d hd => (hW' d hd).1) t
      · rw [doneOf_set hjl, sD_with hAn hBn hdn hjd]; exact hwr'
      · rw [doneOf_set hjl, sD_with hAn hBn hdn hjd]
        exact hfr.trans (Fr.put hfr' hW')
    unfold wpOp
    simp only [ho]
    obtain ⟨_, _, _, _, _, _, hye, hys, hstep, _⟩ := Tr.canon A ((Tr.append ..).1 hT)
    rcases hstep with ⟨hex, hv, hs, g, s, hg, hslot, hne⟩ | ⟨hex, hgi, _⟩
    · have hwant : Region.wanted y.o (yielded ops a.tmps) = false := by
        unfold Region.wanted
        rw [hg]
        simp only [beq_eq_false_iff_ne]
        unfold yielded
        have : ((ops[g.1]?).bind (·.dst)) = some s := hslot
        rw [this]
        simp only [Option.bind_some]
        intro hh
        have hvr := her s
        rw [hnames s (hguard g hg s hslot)] at hvr
        apply hne _ _ hvr
        simp only [Array.getD_eq_getD_getElem?]
        split at hh
        · rename_i b hb
          injection hh with hh
          subst hh
          rw [hb]; rfl
        · cases hh
      rw [if_neg (by simp [hwant])]
      have hhv : y.hv P = false := by simp [Ent.hv, hex]
      refine next φ undef w (by rw [hv]; exact VR.flat_refl rfl) ?_ ?_
      · rw [hhv]; exact hwr
      · rw [hhv]; exact FR.refl _ _ _
    · have hwant : Region.wanted y.o (yielded ops a.tmps) = true := by
        unfold Region.wanted
        cases hg : y.o.guard with
        | none => rfl
        | some g =>
          obtain ⟨s, hslot, hb⟩ := hgi g hg
          have hvr := her s
          rw [hnames s (hguard g hg s hslot), hb] at hvr
          simp only [VR] at hvr
          have : yielded ops a.tmps g.1 = some g.2 := by
            unfold yielded
            have : ((ops[g.1]?).bind (·.dst)) = some s := hslot
            rw [this]
            simp only [Option.bind_some]
            have hs : a.tmps[s]? = some (.bool g.2) := by
              simp only [Array.getD_eq_getD_getElem?] at hvr
              cases hh : a.tmps[s]? with
              | none => rw [hh] at hvr; simp [undef] at hvr
              | some u => rw [hh] at hvr; simp at hvr; rw [hvr]
            rw [hs]
          simp [this]
      rw [if_pos hwant]
      left
      obtain ⟨τ, hrun, hτ⟩ := step_stands hT hA hB hAA hdn hjd hr hex
      have hcong : execA P call y.o (eD (A ++ y :: B) (doneOf listed) e0).eval = execA P call y.o y.e.eval := execA_congr fun x hx => by
        cases x with
        | tmp t =>
          exact hnames t (by
            unfold namesOf tmpsOf
            simp only [List.mem_append, List.mem_filterMap]
            exact .inl (.inl ⟨.tmp t, hx, rfl⟩))
        | _ => rfl
      rw [← hcong] at hrun
      refine exec_sound hc hwr hrun her.eval _ _ fun ψ v' w' h1 h2 h3 => ?_
      rw [hτ] at h2 h3
      exact next ψ v' w' h1 h2 h3
end Go.Proofs.Ytjmafbiklebjcaa.Eng
