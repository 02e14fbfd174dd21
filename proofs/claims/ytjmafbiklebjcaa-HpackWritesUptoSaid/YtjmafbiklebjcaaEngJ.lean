/- Regions that draw their order: the run in the text's order stands for every other. -/
import Derived.Test.YtjmafbiklebjcaaEngI
set_option linter.unusedVariables false
set_option linter.unusedSimpArgs false
namespace Go.Proofs.Ytjmafbiklebjcaa.Eng
variable {P : Program}

theorem execA_congr {call : FuncId → List Value → AM Value} {o : Oper} {ρ ρ' : Operand → Value} (h : ∀ x ∈ o.op.operands.toList, ρ x = ρ' x) : execA P call o ρ = execA P call o ρ' := by
  unfold execA
  generalize o.op = op at h
  have one : ∀ {x : Operand}, x ∈ op.operands.toList → ρ x = ρ' x := fun hx => h _ hx
  cases op with
  | build t ps =>
    have : (ps.toList.map fun x => (x.1, ρ x.2)) = (ps.toList.map fun x => (x.1, ρ' x.2)) := List.map_congr_left fun x hx => by
      rw [h x.2 (by simp only [Op.operands]; exact List.mem_map.2 ⟨x, hx, rfl⟩)]
    simp only [this]
  | buildSlice t n ps =>
    have : (ps.toList.map fun x => (x.1, ρ x.2)) = (ps.toList.map fun x => (x.1, ρ' x.2)) := List.map_congr_left fun x hx => by
      rw [h x.2 (by simp only [Op.operands]; exact List.mem_map.2 ⟨x, hx, rfl⟩)]
    simp only [this]
  | makeFunc fn first cap =>
    have h1 : first.toList.map ρ = first.toList.map ρ' := List.map_congr_left fun x hx => h x (by simp [Op.operands]; exact .inl (by simpa using hx))
    have h2 : cap.toList.map ρ = cap.toList.map ρ' := List.map_congr_left fun x hx => h x (by simp [Op.operands]; exact .inr (by simpa using hx))
    simp only [h1, h2]
  | slice t x lo hi mx =>
    have h0 : ρ x = ρ' x := h x (by simp [Op.operands])
    have h1 : lo.map ρ = lo.map ρ' := by cases lo with
      | none => rfl
      | some y => simp [h y (by simp [Op.operands])]
    have h2 : hi.map ρ = hi.map ρ' := by cases hi with
      | none => rfl
      | some y => simp [h y (by simp [Op.operands])]
    cases mx <;> simp only [h0, h1, h2]
  | call c =>
    have h1 : c.args.toList.map ρ = c.args.toList.map ρ' := List.map_congr_left fun x hx => h x (by simp only [Op.operands, Call.operands]; simp; exact .inr (by simpa using hx))
    simp only [h1]
    cases hc : c.callee with
    | value f => simp only [h f (by simp [Op.operands, Call.operands, hc])]
    | _ => rfl
  | makeMap t r => cases r <;> rfl
  | next it b =>
    have h0 : ρ it = ρ' it := h it (by simp [Op.operands])
    cases b <;> simp only [h0]
  | _ => simp only [Op.operands, List.mem_cons, List.not_mem_nil, or_false, forall_eq_or_imp, forall_eq] at h <;> simp only [h]

/-! ### entries -/
structure Ent where
  i : Nat
  o : Oper
  e : Env
  s : AW
  v : Value
  s' : AW
  ex : Bool

/-- Heavy, and done. -/
def Ent.hv (P : Program) (x : Ent) : Bool := x.ex && decide (classOf P x.o.op = .heavy)
def Ent.rd (P : Program) (x : Ent) : Bool := x.ex && decide (classOf P x.o.op = .read)

def GuardIs (ops : Array Oper) (o : Oper) (e : Env) : Prop := ∀ g, o.guard = some g → ∃ s, slotOf ops g.1 = some s ∧ e.get s = .bool g.2
def GuardNot (ops : Array Oper) (o : Oper) (e : Env) : Prop := ∃ g s, o.guard = some g ∧ slotOf ops g.1 = some s ∧ ∀ φ c', VR φ (e.get s) c' → c' ≠ .bool g.2

def StepOk (P : Program) (call : FuncId → List Value → AM Value) (ops : Array Oper) (bf : Array Nat) (hs : List (Nat × AW)) (rs : List (Nat × AM Value × Value)) (x : Ent) : Prop :=
  (x.ex = false ∧ x.v = .tuple #[] ∧ x.s' = x.s ∧ GuardNot ops x.o x.e) ∨
  (x.ex = true ∧ GuardIs ops x.o x.e ∧ execA P call x.o x.e.eval x.s = some (x.v, x.s') ∧
    (classOf P x.o.op = .read → ∀ h ∈ hs, isBefore bf h.1 x.i = false → ∃ τ, execA P call x.o x.e.eval h.2 = some (x.v, τ)) ∧
    (classOf P x.o.op = .heavy → ∀ r ∈ rs, isBefore bf r.1 x.i = false → ∃ τ, r.2.1 x.s' = some (r.2.2, τ)))

def addH (P : Program) (hs : List (Nat × AW)) (x : Ent) : List (Nat × AW) := if x.hv P then (x.i, x.s) :: hs else hs
def addR (P : Program) (call : FuncId → List Value → AM Value) (rs : List (Nat × AM Value × Value)) (x : Ent) : List (Nat × AM Value × Value) := if x.rd P then (x.i, execA P call x.o x.e.eval, x.v) :: rs else rs

def Tr (P : Program) (call : FuncId → List Value → AM Value) (ops : Array Oper) (bf : Array Nat) : List Ent → List (Nat × AW) → List (Nat × AM Value × Value) → Env → AW → (List (Nat × AW) → List (Nat × AM Value × Value) → Env → AW → Prop) → Prop
  | [], hs, rs, e, σ, F => F hs rs e σ
  | x :: T, hs, rs, e, σ, F => x.e = e ∧ x.s = σ ∧ StepOk P call ops bf hs rs x ∧ Tr P call ops bf T (addH P hs x) (addR P call rs x) (e.put x.o.dst x.v) x.s' F

section
variable {call : FuncId → List Value → AM Value} {ops : Array Oper} {bf : Array Nat}

theorem Tr.append : ∀ (T U : List Ent) (hs : List (Nat × AW)) (rs : List (Nat × AM Value × Value)) (e : Env) (σ : AW) (F : List (Nat × AW) → List (Nat × AM Value × Value) → Env → AW → Prop),
    Tr P call ops bf (T ++ U) hs rs e σ F ↔ Tr P call ops bf T hs rs e σ fun hs rs e σ => Tr P call ops bf U hs rs e σ F
  | [], _, _, _, _, _, _ => Iff.rfl
  | x :: T, U, hs, rs, e, σ, F => by
    simp only [List.cons_append, Tr]
    rw [Tr.append T U]
theorem Tr.mono : ∀ (T : List Ent) {hs : List (Nat × AW)} {rs : List (Nat × AM Value × Value)} {e : Env} {σ : AW} {F G : List (Nat × AW) → List (Nat × AM Value × Value) → Env → AW → Prop},
    Tr P call ops bf T hs rs e σ F → (∀ hs rs e σ, F hs rs e σ → G hs rs e σ) → Tr P call ops bf T hs rs e σ G
  | [], _, _, _, _, _, _, h, k => k _ _ _ _ h
  | x :: T, _, _, _, _, _, _, ⟨h1, h2, h3, h4⟩, k => ⟨h1, h2, h3, Tr.mono T h4 k⟩

theorem thereAll_some {β : Type} {m : AM Value} {v : Value} {K : AM β} {σ : AW} {r : β × AW} : ∀ (l : List AW), thereAll l m v K σ = some r → (∀ s ∈ l, ∃ τ, m s = some (v, τ)) ∧ K σ = some r
  | [], h => ⟨by simp, h⟩
  | s :: l, h => by
    obtain ⟨u, τ, h1, h2⟩ := bind_some h
    unfold there at h1
    split at h1
    · rename_i u' τ' hm
      split at h1
      · rename_i hs
        simp only [Option.some.injEq, Prod.mk.injEq] at h1
        obtain ⟨_, rfl⟩ := h1
        obtain ⟨h3, h4⟩ := thereAll_some l h2
        refine ⟨fun s' hs' => ?_, h4⟩
        rcases List.mem_cons.1 hs' with rfl | hs'
        · exact ⟨τ', by rw [hm, same_eq _ _ hs]⟩
        · exact h3 s' hs'
      · cases h1
    · cases h1
theorem hereAll_some {β : Type} {K : AM β} {σ : AW} {r : β × AW} : ∀ (l : List (AM Value × Value)), hereAll l K σ = some r → (∀ x ∈ l, ∃ τ, x.1 σ = some (x.2, τ)) ∧ K σ = some r
  | [], h => ⟨by simp, h⟩
  | x :: l, h => by
    obtain ⟨u, τ, h1, h2⟩ := bind_some h
    unfold here there at h1
    split at h1
    · rename_i u' τ' hm
      split at h1
      · rename_i hs
        simp only [Option.some.injEq, Prod.mk.injEq] at h1
        obtain ⟨_, rfl⟩ := h1
        obtain ⟨h3, h4⟩ := hereAll_some l h2
        refine ⟨fun s' hs' => ?_, h4⟩
        rcases List.mem_cons.1 hs' with rfl | hs'
        · exact ⟨τ', by rw [hm, same_eq _ _ hs]⟩
        · exact h3 s' hs'
      · cases h1
    · cases h1

theorem draw_trace {β : Type} {K : Env → List (Nat × AW) → List (Nat × AM Value × Value) → AM β} {r : β × AW} : ∀ (l : List IOp) (hs : List (Nat × AW)) (rs : List (Nat × AM Value × Value)) (e : Env) (σ : AW),
    (∀ x ∈ l, ∀ g, x.2.guard = some g → ∃ s, slotOf ops g.1 = some s ∧ e.get s = .bool g.2 ∧ ∀ y ∈ l, y.2.dst ≠ some s) →
    drawA P call bf l e hs rs K σ = some r → ∃ T : List Ent, T.map (fun x => (x.i, x.o)) = l ∧ Tr P call ops bf T hs rs e σ fun hs rs e σ => K e hs rs σ = some r
  | [], hs, rs, e, σ, _, h => ⟨[], rfl, h⟩
  | x :: l, hs, rs, e, σ, hg, h => by
    have hgi : GuardIs ops x.2 e := fun g hgx => by
      obtain ⟨s, h1, h2, _⟩ := hg x (by simp) g hgx
      exact ⟨s, h1, h2⟩
    have hgn : ∀ v, ∀ y ∈ l, ∀ g, y.2.guard = some g → ∃ s, slotOf ops g.1 = some s ∧ (e.put x.2.dst v).get s = .bool g.2 ∧ ∀ z ∈ l, z.2.dst ≠ some s := fun v y hy g hgy => by
      obtain ⟨s, h1, h2, h3⟩ := hg y (by simp [hy]) g hgy
      refine ⟨s, h1, ?_, fun z hz => h3 z (by simp [hz])⟩
      cases hd : x.2.dst with
      | none => exact h2
      | some d =>
        simp only [Env.put, Env.get]
        rw [if_neg, h2]
        rintro rfl
        exact h3 x (by simp) hd
    unfold drawA at h
    cases hc : classOf P x.2.op with
    | pure =>
      rw [hc] at h
      obtain ⟨v, τ, h1, h2⟩ := bind_some h
      obtain ⟨T, t1, t2⟩ := draw_trace l hs rs _ τ (hgn v) h2
      refine ⟨⟨x.1, x.2, e, σ, v, τ, true⟩ :: T, by simp [t1], rfl, rfl, .inr ⟨rfl, hgi, h1, by simp [hc], by simp [hc]⟩, ?_⟩
      simpa [addH, addR, Ent.hv, Ent.rd, hc] using t2
    | read =>
      rw [hc] at h
      obtain ⟨v, τ, h1, h2⟩ := bind_some h
      obtain ⟨h3, h4⟩ := thereAll_some _ h2
      obtain ⟨T, t1, t2⟩ := draw_trace l hs _ _ τ (hgn v) h4
      refine ⟨⟨x.1, x.2, e, σ, v, τ, true⟩ :: T, by simp [t1], rfl, rfl, .inr ⟨rfl, hgi, h1, fun _ h hh hb => h3 h.2 (List.mem_map.2 ⟨h, List.mem_filter.2 ⟨hh, by simp only at hb; simp [hb]⟩, rfl⟩), by simp [hc]⟩, ?_⟩
      simpa [addH, addR, Ent.hv, Ent.rd, hc] using t2
    | heavy =>
      rw [hc] at h
      obtain ⟨s, τ0, h0, h⟩ := bind_some h
      simp only [getS, Option.some.injEq, Prod.mk.injEq] at h0
      obtain ⟨rfl, rfl⟩ := h0
      obtain ⟨v, τ, h1, h2⟩ := bind_some h
      obtain ⟨h3, h4⟩ := hereAll_some _ h2
      obtain ⟨T, t1, t2⟩ := draw_trace l _ rs _ τ (hgn v) h4
      refine ⟨⟨x.1, x.2, e, σ, v, τ, true⟩ :: T, by simp [t1], rfl, rfl, .inr ⟨rfl, hgi, h1, by simp [hc], fun _ r hr hb => h3 r.2 (List.mem_map.2 ⟨r, List.mem_filter.2 ⟨hr, by simp only at hb; simp [hb]⟩, rfl⟩)⟩, ?_⟩
      simpa [addH, addR, Ent.hv, Ent.rd, hc] using t2

theorem skip_trace {F : List (Nat × AW) → List (Nat × AM Value × Value) → Env → AW → Prop} : ∀ (l : List IOp) (hs : List (Nat × AW)) (rs : List (Nat × AM Value × Value)) (e : Env) (σ : AW),
    (∀ x ∈ l, ∃ g s, x.2.guard = some g ∧ slotOf ops g.1 = some s ∧ (∀ φ c', VR φ (e.get s) c' → c' ≠ .bool g.2) ∧ ∀ y ∈ l, y.2.dst ≠ some s) →
    F hs rs (skipE l e) σ → ∃ T : List Ent, T.map (fun x => (x.i, x.o)) = l ∧ Tr P call ops bf T hs rs e σ F
  | [], hs, rs, e, σ, _, h => ⟨[], rfl, h⟩
  | x :: l, hs, rs, e, σ, hg, h => by
    obtain ⟨g, s, g1, g2, g3, g4⟩ := hg x (by simp)
    obtain ⟨T, t1, t2⟩ := skip_trace (F := F) l hs rs (e.put x.2.dst (.tuple #[])) σ (fun y hy => by
      obtain ⟨g, s, h1, h2, h3, h4⟩ := hg y (by simp [hy])
      refine ⟨g, s, h1, h2, ?_, fun z hz => h4 z (by simp [hz])⟩
      have : (e.put x.2.dst (.tuple #[])).get s = e.get s := by
        cases hd : x.2.dst with
        | none => rfl
        | some d =>
          simp only [Env.put, Env.get]
          rw [if_neg]
          rintro rfl
          exact h4 x (by simp) hd
      rw [this]; exact h3) h
    exact ⟨⟨x.1, x.2, e, σ, .tuple #[], σ, false⟩ :: T, by simp [t1], rfl, rfl, .inl ⟨rfl, rfl, rfl, g, s, g1, g2, g3⟩, by simpa [addH, addR, Ent.hv, Ent.rd] using t2⟩

theorem runD_trace {β : Type} {K : Env → AM β} {r : β × AW} : ∀ (gs : List (Option (Nat × Bool) × List IOp)) (hs : List (Nat × AW)) (rs : List (Nat × AM Value × Value)) (e : Env) (σ : AW),
    (∀ g m, (g, m) ∈ gs → ∀ x ∈ m, x.2.guard = g) → runD P call ops bf gs e hs rs K σ = some r → ∃ T : List Ent, T.map (fun x => (x.i, x.o)) = gs.flatMap (·.2) ∧ Tr P call ops bf T hs rs e σ fun _ _ e σ => K e σ = some r
  | [], hs, rs, e, σ, _, h => ⟨[], rfl, h⟩
  | (none, l) :: gs, hs, rs, e, σ, hg, h => by
    unfold runD at h
    obtain ⟨T, t1, t2⟩ := draw_trace (ops := ops) l hs rs e σ (fun x hx g hgx => by rw [hg none l (by simp) x hx] at hgx; cases hgx) h
    -- the rest hangs on where the first part ends
    have ends : ∃ hs' rs' e' σ', (∀ F : List (Nat × AW) → List (Nat × AM Value × Value) → Env → AW → Prop, F hs' rs' e' σ' → Tr P call ops bf T hs rs e σ F) ∧ runD P call ops bf gs e' hs' rs' K σ' = some r := Tr.ends T t2
    obtain ⟨hs', rs', e', σ', u1, u2⟩ := ends
    obtain ⟨U, v1, v2⟩ := runD_trace gs hs' rs' e' σ' (fun g m hm => hg g m (by simp [hm])) u2
    exact ⟨T ++ U, by simp [t1, v1], (Tr.append ..).2 (u1 _ v2)⟩
  | (some g, l) :: gs, hs, rs, e, σ, hg, h => by
    unfold runD at h
    cases hs' : slotOf ops g.1 with
    | none => rw [hs'] at h; exact (fail_none h).elim
    | some s =>
      rw [hs'] at h
      simp only at h
      split at h
      · exact (fail_none h).elim
      · rename_i hns
        have hns' : ∀ y ∈ l, y.2.dst ≠ some s := fun y hy hd => hns (by simpa using mem_writesOps (l.map (·.2)) y.2 (List.mem_map.2 ⟨y, hy, rfl⟩) hd)
        rcases guardA_some h with ⟨hb, h⟩ | ⟨hb, h⟩
        · obtain ⟨T, t1, t2⟩ := draw_trace (ops := ops) l hs rs e σ (fun x hx g' hgx => by
            rw [hg (some g) l (by simp) x hx] at hgx; injection hgx with hgx; subst hgx
            exact ⟨s, hs', hb, hns'⟩) h
          obtain ⟨hs', rs', e', σ', u1, u2⟩ := Tr.ends T t2
          obtain ⟨U, v1, v2⟩ := runD_trace gs hs' rs' e' σ' (fun g m hm => hg g m (by simp [hm])) u2
          exact ⟨T ++ U, by simp [t1, v1], (Tr.append ..).2 (u1 _ v2)⟩
        · obtain ⟨U, v1, v2⟩ := runD_trace gs hs rs _ σ (fun g m hm => hg g m (by simp [hm])) h
          obtain ⟨T, t1, t2⟩ := skip_trace (P := P) (call := call) (ops := ops) (bf := bf) (F := fun hs rs e σ => Tr P call ops bf U hs rs e σ fun _ _ e σ => K e σ = some r) l hs rs e σ (fun x hx => ⟨g, s, hg (some g) l (by simp) x hx, hs', hb, hns'⟩) v2
          exact ⟨T ++ U, by simp [t1, v1], (Tr.append ..).2 t2⟩
where
  Tr.ends : ∀ (T : List Ent) {hs : List (Nat × AW)} {rs : List (Nat × AM Value × Value)} {e : Env} {σ : AW} {G : List (Nat × AW) → List (Nat × AM Value × Value) → Env → AW → Prop}, Tr P call ops bf T hs rs e σ G →
      ∃ hs' rs' e' σ', (∀ F : List (Nat × AW) → List (Nat × AM Value × Value) → Env → AW → Prop, F hs' rs' e' σ' → Tr P call ops bf T hs rs e σ F) ∧ G hs' rs' e' σ'
    | [], hs, rs, e, σ, _, h => ⟨hs, rs, e, σ, fun _ h => h, h⟩
    | x :: T, _, _, _, _, _, ⟨h1, h2, h3, h4⟩ => by
      obtain ⟨hs', rs', e', σ', u1, u2⟩ := Tr.ends T h4
      exact ⟨hs', rs', e', σ', fun F hF => ⟨h1, h2, h3, u1 F hF⟩, u2⟩
end
end Go.Proofs.Ytjmafbiklebjcaa.Eng
