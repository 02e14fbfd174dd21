/- Regions that draw their order: where the run stands when these are done. -/
import Derived.Test.YtjmafbiklebjcaaEngJ
set_option linter.unusedVariables false
set_option linter.unusedSimpArgs false
namespace Go.Proofs.Ytjmafbiklebjcaa.Eng
variable {P : Program} {call : FuncId → List Value → AM Value} {ops : Array Oper} {bf : Array Nat}

def eD : List Ent → (Nat → Bool) → Env → Env
  | [], _, e => e
  | x :: T, D, e => eD T D (if D x.i then e.put x.o.dst x.v else e)
def sD (P : Program) : List Ent → (Nat → Bool) → AW → AW
  | [], _, s => s
  | x :: T, D, s => sD P T D (if D x.i && x.hv P then x.s' else s)

theorem eD_append : ∀ (T U : List Ent) (D : Nat → Bool) (e : Env), eD (T ++ U) D e = eD U D (eD T D e)
  | [], _, _, _ => rfl
  | x :: T, U, D, e => eD_append T U D _
theorem sD_append : ∀ (T U : List Ent) (D : Nat → Bool) (s : AW), sD P (T ++ U) D s = sD P U D (sD P T D s)
  | [], _, _, _ => rfl
  | x :: T, U, D, s => sD_append T U D _
theorem eD_get {t : Nat} : ∀ (T : List Ent) (D D' : Nat → Bool) (e e' : Env), (∀ x ∈ T, x.o.dst = some t → D x.i = D' x.i) → e.get t = e'.get t → (eD T D e).get t = (eD T D' e').get t
  | [], _, _, _, _, _, h => h
  | x :: T, D, D', e, e', hT, h => by
    refine eD_get T D D' _ _ (fun y hy => hT y (by simp [hy])) ?_
    by_cases hx : x.o.dst = some t
    · rw [hT x (by simp) hx]
      split
      · rw [hx]; simp [Env.put, Env.get]
      · exact h
    · have put : ∀ e : Env, (e.put x.o.dst x.v).get t = e.get t := fun e => by
        cases hd : x.o.dst with
        | none => rfl
        | some d =>
          simp only [Env.put, Env.get]
          rw [if_neg]
          rintro rfl
          exact hx hd
      split <;> split <;> simp [put, h]
theorem eD_none {t : Nat} : ∀ (T : List Ent) (D : Nat → Bool) (e : Env), (∀ x ∈ T, x.o.dst = some t → D x.i = false) → (eD T D e).get t = e.get t
  | [], _, _, _ => rfl
  | x :: T, D, e, hT => by
    have : ∀ e : Env, eD T (fun _ => false) e = e := by
      intro e
      induction T with
      | nil => rfl
      | cons y T ih => exact ih fun z hz => hT z (by rcases List.mem_cons.1 hz with rfl | hz <;> simp [*])
    have h := eD_get (x :: T) D (fun _ => false) e e hT rfl
    rw [h]
    show ((eD T (fun _ => false) e)).get t = _
    rw [this]
theorem sD_same : ∀ (T : List Ent) (D D' : Nat → Bool) (s : AW), (∀ x ∈ T, x.hv P = true → D x.i = D' x.i) → sD P T D s = sD P T D' s
  | [], _, _, _, _ => rfl
  | x :: T, D, D', s, hT => by
    simp only [sD]
    rw [sD_same T D D' _ fun y hy => hT y (by simp [hy])]
    cases hx : x.hv P with
    | false => simp
    | true => rw [hT x (by simp) hx]
theorem sD_none : ∀ (T : List Ent) (D : Nat → Bool) (s : AW), (∀ x ∈ T, x.hv P = true → D x.i = false) → sD P T D s = s
  | [], _, _, _ => rfl
  | x :: T, D, s, hT => by
    simp only [sD]
    rw [sD_none T D _ fun y hy => hT y (by simp [hy])]
    cases hx : x.hv P with
    | false => simp
    | true => simp [hT x (by simp) hx]

/-- The same through all. -/
theorem Tr.canon {G : List (Nat × AW) → List (Nat × AM Value × Value) → Env → AW → Prop} : ∀ (T : List Ent) {hs : List (Nat × AW)} {rs : List (Nat × AM Value × Value)} {e : Env} {σ : AW}, Tr P call ops bf T hs rs e σ G →
    ∃ hs' rs', (∀ h ∈ hs, h ∈ hs') ∧ (∀ x ∈ T, x.hv P = true → (x.i, x.s) ∈ hs') ∧ (∀ r ∈ rs, r ∈ rs') ∧ (∀ x ∈ T, x.rd P = true → (x.i, execA P call x.o x.e.eval, x.v) ∈ rs') ∧
      G hs' rs' (eD T (fun _ => true) e) (sD P T (fun _ => true) σ)
  | [], hs, rs, e, σ, h => ⟨hs, rs, fun _ h => h, by simp, fun _ h => h, by simp, h⟩
  | x :: T, hs, rs, e, σ, ⟨h1, h2, h3, h4⟩ => by
    obtain ⟨hs', rs', u1, u2, u3, u4, u5⟩ := Tr.canon T h4
    have hst : (if x.hv P then x.s' else σ) = x.s' := by
      cases hx : x.hv P with
      | true => rfl
      | false =>
        simp only [Bool.false_eq_true, if_false]
        rw [← h2]
        rcases h3 with ⟨_, _, h, _⟩ | ⟨h5, _, h6, _⟩
        · exact h.symm
        · simp only [Ent.hv, h5, Bool.true_and, decide_eq_false_iff_not] at hx
          cases hc : classOf P x.o.op with
          | heavy => exact absurd hc hx
          | pure => exact ((pure_const hc _ x.s _ _ h6).1).symm
          | read => exact (read_same hc _ _ _ h6).symm
    refine ⟨hs', rs', fun h hh => u1 h (by unfold addH; split <;> simp [hh]), fun y hy hv => ?_, fun r hr => u3 r (by unfold addR; split <;> simp [hr]), fun y hy hv => ?_, ?_⟩
    · rcases List.mem_cons.1 hy with rfl | hy
      · exact u1 _ (by simp [addH, hv])
      · exact u2 y hy hv
    · rcases List.mem_cons.1 hy with rfl | hy
      · exact u3 _ (by simp [addR, hv])
      · exact u4 y hy hv
    · simp only [eD, sD, if_true, Bool.true_and]
      rw [hst]
      exact u5

theorem first {α : Type} (p : α → Bool) : ∀ (l : List α), (∀ x ∈ l, p x = false) ∨ ∃ A z B, l = A ++ z :: B ∧ p z = true ∧ ∀ x ∈ A, p x = false
  | [] => .inl (by simp)
  | x :: l => by
    cases hx : p x with
    | true => exact .inr ⟨[], x, l, rfl, hx, by simp⟩
    | false =>
      rcases first p l with h | ⟨A, z, B, h1, h2, h3⟩
      · exact .inl (by simpa [hx] using h)
      · exact .inr ⟨x :: A, z, B, by simp [h1], h2, by simpa [hx] using h3⟩
theorem last {α : Type} (p : α → Bool) : ∀ (l : List α), (∀ x ∈ l, p x = false) ∨ ∃ A z B, l = A ++ z :: B ∧ p z = true ∧ ∀ x ∈ B, p x = false
  | [] => .inl (by simp)
  | x :: l => by
    rcases last p l with h | ⟨A, z, B, h1, h2, h3⟩
    · cases hx : p x with
      | true => exact .inr ⟨[], x, l, rfl, hx, h⟩
      | false => exact .inl (by simpa [hx] using h)
    · exact .inr ⟨x :: A, z, B, by simp [h1], h2, h3⟩

/-- What the text of the region grants, for one entry among the others. -/
structure Apart (P : Program) (ops : Array Oper) (bf : Array Nat) (x y : Ent) : Prop where
  names : ∀ d, x.o.dst = some d → d ∈ namesOf ops y.o → isBefore bf x.i y.i = true ∨ isBefore bf y.i x.i = true
  heavy : x.hv P = true → y.hv P = true → isBefore bf x.i y.i = true ∨ isBefore bf y.i x.i = true

/-- What is done: closed downwards. -/
def Down (bf : Array Nat) (D : Nat → Bool) : Prop := ∀ i j, isBefore bf i j = true → D j = true → D i = true

section
variable {A B : List Ent} {y : Ent} {D : Nat → Bool} {hs : List (Nat × AW)} {rs : List (Nat × AM Value × Value)} {e : Env} {σ : AW} {G : List (Nat × AW) → List (Nat × AM Value × Value) → Env → AW → Prop}

theorem names_stand (hT : Tr P call ops bf (A ++ y :: B) hs rs e σ G) (hA : ∀ x ∈ A, Apart P ops bf x y ∧ isBefore bf y.i x.i = false) (hB : ∀ x ∈ B, Apart P ops bf x y ∧ isBefore bf x.i y.i = false)
    (hD : Down bf D) (hy : D y.i = false) (hr : ∀ i, isBefore bf i y.i = true → D i = true) {t : Nat} (ht : t ∈ namesOf ops y.o) : (eD (A ++ y :: B) D e).get t = y.e.get t := by
  obtain ⟨_, _, _, _, _, _, h, _⟩ := Tr.canon A ((Tr.append ..).1 hT)
  rw [h, eD_append]
  simp only [eD, hy, Bool.false_eq_true, if_false]
  rw [eD_none B D _ fun x hx hd => ?_]
  · refine eD_get A _ _ _ _ (fun x hx hd => ?_) rfl
    obtain ⟨h1, h2⟩ := hA x hx
    exact hr _ ((h1.names t hd ht).resolve_right (by simp [h2]))
  · obtain ⟨h1, h2⟩ := hB x hx
    have h3 := (h1.names t hd ht).resolve_left (by simp [h2])
    cases h4 : D x.i with
    | false => rfl
    | true => rw [hD _ _ h3 h4] at hy; cases hy

/-- What it yields is what it yields in its turn; and where it leaves the heap. -/
theorem step_stands (hT : Tr P call ops bf (A ++ y :: B) hs rs e σ G) (hA : ∀ x ∈ A, Apart P ops bf x y ∧ isBefore bf y.i x.i = false) (hB : ∀ x ∈ B, Apart P ops bf x y ∧ isBefore bf x.i y.i = false)
    (hAA : ∀ A1 z A2, A = A1 ++ z :: A2 → ∀ x ∈ A2, Apart P ops bf z x ∧ isBefore bf x.i z.i = false)
    (hD : Down bf D) (hy : D y.i = false) (hr : ∀ i, isBefore bf i y.i = true → D i = true) (hex : y.ex = true) :
    ∃ τ, execA P call y.o y.e.eval (sD P (A ++ y :: B) D σ) = some (y.v, τ) ∧ τ = if y.hv P then y.s' else sD P (A ++ y :: B) D σ := by
  obtain ⟨hsA, rsA, _, hsA2, _, _, he, hs0, hstep, hTB⟩ := Tr.canon A ((Tr.append ..).1 hT)
  obtain ⟨hsB, rsB, _, _, hsB3, _, _⟩ := Tr.canon B hTB
  rcases hstep with ⟨h, _⟩ | ⟨_, _, hrun, hearly, _⟩
  · rw [hex] at h; cases h
  cases hc : classOf P y.o.op with
  | pure =>
    have hv : y.hv P = false := by simp [Ent.hv, hc]
    rw [hv]
    exact ⟨_, (pure_const hc _ _ _ _ hrun).2, rfl⟩
  | heavy =>
    have hv : y.hv P = true := by simp [Ent.hv, hc, hex]
    rw [hv]
    have : sD P (A ++ y :: B) D σ = y.s := by
      rw [hs0, sD_append]
      simp only [sD, hy, Bool.false_and, Bool.false_eq_true, if_false]
      rw [sD_none B D _ fun x hx hd => ?_]
      · refine sD_same A _ _ _ fun x hx hd => ?_
        obtain ⟨h1, h2⟩ := hA x hx
        exact hr _ ((h1.heavy hd hv).resolve_right (by simp [h2]))
      · obtain ⟨h1, h2⟩ := hB x hx
        have h3 := (h1.heavy hd hv).resolve_left (by simp [h2])
        cases h4 : D x.i with
        | false => rfl
        | true => rw [hD _ _ h3 h4] at hy; cases hy
    rw [this]
    exact ⟨_, hrun, rfl⟩
  | read =>
    have hv : y.hv P = false := by simp [Ent.hv, hc]
    rw [hv]
    suffices h : ∃ τ, execA P call y.o y.e.eval (sD P (A ++ y :: B) D σ) = some (y.v, τ) by
      obtain ⟨τ, h⟩ := h
      exact ⟨τ, h, read_same hc _ _ _ h⟩
    rcases last (fun z : Ent => D z.i && z.hv P) B with hl | ⟨B1, z, B2, rfl, hz, hl⟩
    · have hBn : ∀ s, sD P B D s = s := fun s => sD_none B D s fun x hx hd => by
        have := hl x hx
        simpa [hd] using this
      rw [sD_append]
      simp only [sD, hy, Bool.false_and, Bool.false_eq_true, if_false]
      rw [hBn]
      rcases first (fun z : Ent => !D z.i && z.hv P) A with hf | ⟨A1, z, A2, rfl, hz, hf⟩
      · have : sD P A D σ = y.s := by
          rw [hs0]
          refine sD_same A _ _ _ fun x hx hd => ?_
          have := hf x hx
          simpa [hd] using this
        rw [this]
        exact ⟨_, hrun⟩
      · simp only [Bool.and_eq_true, Bool.not_eq_true'] at hz
        have hzs : sD P (A1 ++ z :: A2) D σ = z.s := by
          obtain ⟨_, _, _, _, _, _, _, hzs, _⟩ := Tr.canon A1 (((Tr.append ..).1 ((Tr.append ..).1 hT)) : Tr P call ops bf A1 hs rs e σ _)
          rw [hzs, sD_append]
          simp only [sD, hz.1, Bool.false_and, Bool.false_eq_true, if_false]
          rw [sD_none A2 D _ fun x hx hd => ?_]
          · refine sD_same A1 _ _ _ fun x hx hd => ?_
            have := hf x hx
            simpa [hd] using this
          · obtain ⟨h1, h2⟩ := hAA A1 z A2 rfl x hx
            have h3 := (h1.heavy hz.2 hd).resolve_right (by simp [h2])
            cases h4 : D x.i with
            | false => rfl
            | true => rw [hD _ _ h3 h4] at hz; cases hz.1
        rw [hzs]
        refine hearly hc (z.i, z.s) (hsA2 z (by simp) hz.2) ?_
        cases h4 : isBefore bf z.i y.i with
        | false => rfl
        | true => rw [hr _ h4] at hz; cases hz.1
    · simp only [Bool.and_eq_true] at hz
      have hzs : sD P (A ++ y :: (B1 ++ z :: B2)) D σ = z.s' := by
        rw [show A ++ y :: (B1 ++ z :: B2) = (A ++ y :: B1) ++ z :: B2 by simp, sD_append]
        simp only [sD, hz.1, hz.2, Bool.and_self, if_true]
        exact sD_none B2 D _ fun x hx hd => by
          have := hl x hx
          simpa [hd] using this
      rw [hzs]
      obtain ⟨_, _, _, _, b3, _, hze, _, hzstep, _⟩ := Tr.canon B1 ((Tr.append ..).1 hTB)
      rcases hzstep with ⟨h, _⟩ | ⟨_, _, _, _, hlate⟩
      · have := hz.2
        simp [Ent.hv, h] at this
      · have hzc : classOf P z.o.op = .heavy := by
          have := hz.2
          simp only [Ent.hv, Bool.and_eq_true, decide_eq_true_eq] at this
          exact this.2
        have hmem : (y.i, execA P call y.o y.e.eval, y.v) ∈ addR P call rsA y := by simp [addR, Ent.rd, hex, hc]
        exact hlate hzc _ (b3 _ hmem) (by
          cases h4 : isBefore bf y.i z.i with
          | false => rfl
          | true => rw [hD _ _ h4 hz.1] at hy; cases hy)

def with1 (D : Nat → Bool) (j : Nat) : Nat → Bool := fun i => D i || i == j

theorem eD_with (hA : ∀ x ∈ A, x.i ≠ y.i) (hB : ∀ x ∈ B, x.i ≠ y.i ∧ Apart P ops bf x y ∧ isBefore bf x.i y.i = false) (hD : Down bf D) (hy : D y.i = false) (e : Env) (t : Nat) :
    (eD (A ++ y :: B) (with1 D y.i) e).get t = ((eD (A ++ y :: B) D e).put y.o.dst y.v).get t := by
  have hsame : ∀ x : Ent, x.i ≠ y.i → with1 D y.i x.i = D x.i := fun x hx => by simp [with1, hx]
  have hA' : ∀ e, ∀ t, (eD A (with1 D y.i) e).get t = (eD A D e).get t := fun e t => eD_get A _ _ e e (fun x hx _ => hsame x (hA x hx)) rfl
  rw [eD_append, eD_append]
  simp only [eD, hy, Bool.false_eq_true, if_false]
  rw [if_pos (by simp [with1])]
  by_cases ht : y.o.dst = some t
  · have hBn : ∀ e : Env, (eD B (with1 D y.i) e).get t = e.get t := fun e => eD_none B _ e fun x hx hd => by
      obtain ⟨h0, h1, h2⟩ := hB x hx
      rw [hsame x h0]
      have h3 := (h1.names t hd (by simp [namesOf, ht])).resolve_left (by simp [h2])
      cases h4 : D x.i with
      | false => rfl
      | true => rw [hD _ _ h3 h4] at hy; cases hy
    rw [hBn, ht]
    simp [Env.put, Env.get]
  · have put : ∀ e : Env, (e.put y.o.dst y.v).get t = e.get t := fun e => by
      cases hd : y.o.dst with
      | none => rfl
      | some d =>
        simp only [Env.put, Env.get]
        rw [if_neg]
        rintro rfl
        exact ht hd
    rw [put]
    refine eD_get B _ _ _ _ (fun x hx _ => hsame x (hB x hx).1) ?_
    rw [put]
    exact hA' e t
theorem sD_with (hA : ∀ x ∈ A, x.i ≠ y.i) (hB : ∀ x ∈ B, x.i ≠ y.i ∧ Apart P ops bf x y ∧ isBefore bf x.i y.i = false) (hD : Down bf D) (hy : D y.i = false) (σ : AW) :
    sD P (A ++ y :: B) (with1 D y.i) σ = if y.hv P then y.s' else sD P (A ++ y :: B) D σ := by
  have hsame : ∀ x : Ent, x.i ≠ y.i → with1 D y.i x.i = D x.i := fun x hx => by simp [with1, hx]
  rw [sD_append, sD_append]
  simp only [sD, hy, Bool.false_and, Bool.false_eq_true, if_false]
  have h1 : with1 D y.i y.i = true := by simp [with1]
  rw [h1, sD_same A (with1 D y.i) D σ fun x hx _ => hsame x (hA x hx), sD_same B (with1 D y.i) D _ fun x hx _ => hsame x (hB x hx).1]
  cases hv : y.hv P with
  | false => simp
  | true =>
    simp only [Bool.and_self, if_true]
    exact sD_none B D _ fun x hx hd => by
      obtain ⟨_, h1, h2⟩ := hB x hx
      have h3 := (h1.heavy hd hv).resolve_left (by simp [h2])
      cases h4 : D x.i with
      | false => rfl
      | true => rw [hD _ _ h3 h4] at hy; cases hy
end
end Go.Proofs.Ytjmafbiklebjcaa.Eng
