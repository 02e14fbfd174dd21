/- Code, and functions: what the abstract machine answers, the model answers. -/
import Derived.Test.YtjmafbiklebjcaaEngL
set_option linter.unusedVariables false
set_option linter.unusedSimpArgs false
namespace Go.Proofs.Ytjmafbiklebjcaa.Eng
variable {P : Program} {call : FuncId → List Value → AM Value}

theorem WR.drawn {φ : Phi} {σ : AW} {w : World} (h : WR P φ σ w) (n : Nat) : WR P φ σ { w with drawn := n } := ⟨h.fresh, h.blk, h.dom, h.inj⟩
theorem FR.drawn (φ : Phi) (σ : AW) (w : World) (n : Nat) : FR φ σ w φ σ { w with drawn := n } := ⟨Phi.le_refl _, Nat.le_refl _, fun _ _ h => ⟨rfl, h⟩, rfl, rfl, rfl⟩

def fine : Exit → Prop
  | .panic _ | .outgrown => False
  | _ => True
def Aft {β : Type} (P : Program) (W : List Nat) (φ : Phi) (σ : AW) (w : World) (a : Act) (K : Exit → Env → AM β) (r : β × AW) (x : Exit) (a' : Act) (w' : World) : Prop :=
  fine x ∧ After P W φ σ w a (K x) r a' w'
theorem After.wide {β : Type} {W W' : List Nat} {φ ψ : Phi} {σ τ : AW} {w w' : World} {a a' : Act} {K : Env → AM β} {r : β × AW} {a'' : Act} {w'' : World} (h : After P W ψ τ w' a' K r a'' w'') (f : Fr W' φ σ w a ψ τ w' a') (k : ∀ t, t ∈ W → t ∈ W') : After P W' φ σ w a K r a'' w'' := by
  obtain ⟨χ, e, υ, h1, h2, h3⟩ := h
  exact ⟨χ, e, υ, h1, f.trans (h2.wide k), h3⟩
theorem Fr.start (W : List Nat) (φ : Phi) (σ : AW) (w : World) (a : Act) : Fr W φ σ w a φ σ w a := Fr.refl ..

theorem wp_loop_fuel {c : Code} {Q : Exit → Act → World → Prop} (I : Nat → Act → World → Prop) (zero : ∀ a w, ¬ I 0 a w) (round : ∀ n a w, I (n + 1) a w → c.wp P (Exit.then (I n) Q) a w) {n : Nat} {a : Act} {w : World} (h : I n a w) : (Code.loop c).wp P Q a w := by
  intro b k cs
  suffices key : ∀ n a w, I n a w → ∃ e a' w', Q e a' w' ∧ Arrives P (lone (b.at a (.code c :: .inLoop c :: k)) cs w) b k cs e a' w' by
    obtain ⟨e, a', w', hq, harr⟩ := key n a w h
    exact ⟨e, a', w', hq, .of_steps (.one step_loop) harr⟩
  intro n
  induction n with
  | zero => exact fun a w h => (zero a w h).elim
  | succ n ih =>
    intro a w h
    obtain ⟨e, a₁, w₁, hq, harr⟩ := round n a w h b (.inLoop c :: k) cs
    cases e with
    | normal =>
      obtain ⟨e₂, a₂, w₂, hq₂, harr₂⟩ := ih a₁ w₁ hq
      exact ⟨e₂, a₂, w₂, hq₂, .of_steps (Steps.trans harr (.one step_inLoop)) harr₂⟩
    | _ => exact ⟨_, a₁, w₁, hq, .pass (x := .inLoop c) rfl (fun _ _ => .inl (by simp)) harr⟩

theorem condA_some {β : Type} {c : Value} {x y : AM β} {σ : AW} {r : β × AW} (h : condA c x y σ = some r) : (c = .bool true ∧ x σ = some r) ∨ (c = .bool false ∧ y σ = some r) := by
  unfold condA at h
  split at h
  · exact .inl ⟨rfl, h⟩
  · exact .inr ⟨rfl, h⟩
  · exact (fail_none h).elim

def tgt (c : Code) : Option Nat → Option Code
  | none => some c
  | some l => findLabel c l

theorem runC_sound {β : Type} (hm : P.follows .mixedOrders = true) (hc : CallsOk P call) (k n : Nat) : ∀ (c : Code) (st : Option Nat) (cx : Ctx) (e : Env) (K : Exit → Env → AM β) (r : β × AW) (σ : AW) (φ : Phi) (a : Act) (w : World) (c' : Code),
    tgt c st = some c' → dstOk n c = true → n ≤ a.tmps.size → runC P call k c st cx e K σ = some r → St P φ e σ a w → c'.wp P (Aft P (writes c) φ σ w a K r) a w := by
  intro c
  induction c with
  | skip =>
    intro st cx e K r σ φ a w c' ht _ _ h hst
    cases st with
    | some l => simp [tgt, findLabel] at ht
    | none => injection ht with ht; subst ht; exact wp_skip ⟨trivial, φ, e, σ, hst, Fr.refl .., h⟩
  | label l' =>
    intro st cx e K r σ φ a w c' ht _ _ h hst
    cases st with
    | none => injection ht with ht; subst ht; exact wp_label ⟨trivial, φ, e, σ, hst, Fr.refl .., h⟩
    | some l =>
      simp only [tgt, findLabel] at ht
      split at ht
      · injection ht with ht; subst ht; exact wp_skip ⟨trivial, φ, e, σ, hst, Fr.refl .., h⟩
      · cases ht
  | region id ops draw =>
    intro st cx e K r σ φ a w c' ht hd hsz h hst
    cases st with
    | some l => simp [tgt, findLabel] at ht
    | none =>
      injection ht with ht; subst ht
      simp only [dstOk, List.all_eq_true] at hd
      have hdst : ∀ (o : Oper), o ∈ ops → ∀ d, o.dst = some d → d < a.tmps.size ∧ d ∈ writes (.region id ops draw) := fun o ho d hod => by
        have := hd o (by simpa using ho)
        rw [hod] at this
        simp at this
        exact ⟨Nat.lt_of_lt_of_le this hsz, mem_writesOps ops.toList o (by simpa using ho) hod⟩
      unfold runC at h
      cases draw with
      | false =>
        simp only [Bool.false_eq_true, if_false] at h
        have hfl := groups_flat (indexed ops)
        have hr := indexed_map ops
        refine wp_region ?_
        rw [← hr, ← hfl]
        refine runG_sound hc (writes (.region id ops false)) (groups (indexed ops)) e σ φ a w (fun g m hgm x hx => ?_) h hst fun a' w' ha => ⟨trivial, ha⟩
        have hxi : x ∈ indexed ops := hfl ▸ List.mem_flatMap.2 ⟨(g, m), hgm, hx⟩
        exact ⟨mem_indexed hxi, groups_guard _ _ _ hgm x hx, fun d hd => hdst x.2 (Array.mem_of_getElem? (mem_indexed hxi)) d hd⟩
      | true =>
        simp only [if_true] at h
        split at h
        · rename_i hok
          unfold Eng.join at h
          obtain ⟨T, t1, t2⟩ := runD_trace (groups (indexed ops)) [] [] e σ (fun g m hgm x hx => groups_guard _ _ _ hgm x hx) h
          rw [groups_flat] at t1
          have inT : ∀ x ∈ T, ops[x.i]? = some x.o := fun x hx => by
            have : (x.i, x.o) ∈ indexed ops := t1 ▸ List.mem_map.2 ⟨x, hx, rfl⟩
            exact mem_indexed this
          refine wp_region_any hm ?_
          have none_done : doneOf (Array.replicate ops.size false) = fun _ => false := by
            funext i
            unfold doneOf
            simp only [Array.getD_eq_getD_getElem?, Array.getElem?_replicate]
            split <;> rfl
          have e0 : ∀ (T : List Ent) (e : Env), eD T (fun _ => false) e = e := by
            intro T
            induction T with
            | nil => intro e; rfl
            | cons x T ih => intro e; exact ih e
          refine drawn_sound hc hok (writes (.region id ops true)) t1 t2 (φ0 := φ) (a0 := a) (w0 := w) (fun x hx d hxd => hdst x.o (Array.mem_of_getElem? (inT x hx)) d hxd) ?_ _ _ a _ φ (by simp) ?_ ?_ ?_ ?_ ?_
          · intro a' w' ⟨ψ, e', τ, s1, s2, s3⟩
            rw [app_lam] at s3
            exact ⟨trivial, ψ, _, τ, ⟨hst.er.join s1.er s2.fr.le s2.keep _, s1.wr⟩, s2, s3⟩
          · intro i j _ hj; rw [none_done] at hj; cases hj
          · unfold leftOf
            exact Nat.le_trans (List.length_filter_le _ _) (by simp)
          · rw [none_done, e0]; exact hst.er
          · rw [none_done, sD_none T _ _ fun _ _ _ => rfl]; exact hst.wr.drawn _
          · rw [none_done, sD_none T _ _ fun _ _ _ => rfl]; exact ⟨FR.drawn .., rfl, rfl, fun _ _ => rfl⟩
        · exact (fail_none h).elim
  | seq x y ihx ihy =>
    intro st cx e K r σ φ a w c' ht hd hsz h hst
    simp only [dstOk, Bool.and_eq_true] at hd
    have wx : ∀ t, t ∈ writes x → t ∈ writes (.seq x y) := fun t ht => by simp only [writes]; exact (mem_insAll ..).2 (.inl ht)
    have wy : ∀ t, t ∈ writes y → t ∈ writes (.seq x y) := fun t ht => by simp only [writes]; exact (mem_insAll ..).2 (.inr ht)
    -- what follows
    have after : ∀ (ψ : Phi) (τ : AW) (w' : World) (a' : Act) (e' : Env) (cx' : Ctx), St P ψ e' τ a' w' → Fr (writes x) φ σ w a ψ τ w' a' → runC P call k y none cx' e' K τ = some r → y.wp P (Aft P (writes (.seq x y)) φ σ w a K r) a' w' :=
      fun ψ τ w' a' e' cx' s1 s2 s3 => wp_mono (ihy none cx' e' K r τ ψ a' w' y rfl hd.2 (by rw [s2.size]; exact hsz) s3 s1) fun x' a'' w'' ⟨f1, f2⟩ => ⟨f1, f2.wide (s2.wide wx) wy⟩
    have both : ∀ (x' : Code) (st' : Option Nat) (cx1 cx2 : Ctx), tgt x st' = some x' → runC P call k x st' cx1 e (fun q e' => match q with
          | .normal => runC P call k y none cx2 e' K
          | q => K q e') σ = some r → (Code.seq x' y).wp P (Aft P (writes (.seq x y)) φ σ w a K r) a w := by
      intro x' st' cx1 cx2 ht' h'
      refine wp_seq (wp_mono (ihx st' cx1 e _ r σ φ a w x' ht' hd.1 hsz h' hst) fun q a' w' ⟨f1, ψ, e', τ, s1, s2, s3⟩ => ?_)
      cases q with
      | normal => exact after ψ τ w' a' e' cx2 s1 s2 s3
      | exit id => exact ⟨trivial, ψ, e', τ, s1, s2.wide wx, s3⟩
      | goto l => exact ⟨trivial, ψ, e', τ, s1, s2.wide wx, s3⟩
      | ret => exact ⟨trivial, ψ, e', τ, s1, s2.wide wx, s3⟩
      | panic _ => exact f1.elim
      | outgrown => exact f1.elim
    cases st with
    | some l =>
      simp only [tgt, findLabel] at ht
      unfold runC at h
      cases hf : findLabel x l with
      | some rest =>
        rw [hf] at ht
        simp only [Option.some.injEq] at ht
        subst ht
        simp only [hf, Option.isSome_some, if_true] at h
        exact both rest (some l) _ _ hf h
      | none =>
        rw [hf] at ht
        simp only at ht
        simp only [hf, Option.isSome_none, Bool.false_eq_true, if_false] at h
        exact wp_mono (ihy (some l) cx e K r σ φ a w c' ht hd.2 hsz h hst) fun q a' w' ⟨f1, f2⟩ => ⟨f1, f2.wide (Fr.refl ..) wy⟩
    | none =>
      injection ht with ht; subst ht
      unfold runC at h
      simp only at h
      split at h
      · exact both x none _ _ rfl h
      · unfold Eng.join at h
        refine wp_seq (wp_mono (ihx none _ e _ r σ φ a w x rfl hd.1 hsz h hst) fun q a' w' ⟨f1, ψ, e', τ, s1, s2, s3⟩ => ?_)
        cases q with
        | normal =>
          simp only [app_lam] at s3
          exact after ψ τ w' a' _ _ ⟨hst.er.join s1.er s2.fr.le s2.keep _, s1.wr⟩ s2 s3
        | exit id => exact ⟨trivial, ψ, e', τ, s1, s2.wide wx, s3⟩
        | goto l => exact ⟨trivial, ψ, e', τ, s1, s2.wide wx, s3⟩
        | ret => exact ⟨trivial, ψ, e', τ, s1, s2.wide wx, s3⟩
        | panic _ => exact f1.elim
        | outgrown => exact f1.elim
  | cond c x y ihx ihy =>
    intro st cx e K r σ φ a w c' ht hd hsz h hst
    cases st with
    | some l => simp [tgt, findLabel] at ht
    | none =>
      injection ht with ht; subst ht
      simp only [dstOk, Bool.and_eq_true] at hd
      unfold runC at h
      have hv := hst.er.eval c
      rcases condA_some h with ⟨hb, h⟩ | ⟨hb, h⟩
      · rw [hb] at hv
        simp only [VR] at hv
        exact wp_cond_true hv (wp_mono (ihx none cx e K r σ φ a w x rfl hd.1 hsz h hst) fun q a' w' ⟨f1, f2⟩ => ⟨f1, f2.wide (Fr.refl ..) fun t ht => by simp only [writes]; exact (mem_insAll ..).2 (.inl ht)⟩)
      · rw [hb] at hv
        simp only [VR] at hv
        exact wp_cond_false hv (wp_mono (ihy none cx e K r σ φ a w y rfl hd.2 hsz h hst) fun q a' w' ⟨f1, f2⟩ => ⟨f1, f2.wide (Fr.refl ..) fun t ht => by simp only [writes]; exact (mem_insAll ..).2 (.inr ht)⟩)
  | block id b ih =>
    intro st cx e K r σ φ a w c' ht hd hsz h hst
    cases st with
    | some l => simp [tgt, findLabel] at ht
    | none =>
      injection ht with ht; subst ht
      unfold runC at h
      refine wp_block (wp_mono (ih none _ e _ r σ φ a w b rfl hd hsz h hst) fun q a' w' ⟨f1, ψ, e', τ, s1, s2, s3⟩ => ?_)
      cases q with
      | exit id' =>
        simp only [Exit.inBlock]
        simp only at s3
        split
        · rename_i hid
          rw [if_pos hid] at s3
          exact ⟨trivial, ψ, e', τ, s1, s2, s3⟩
        · rename_i hid
          rw [if_neg hid] at s3
          exact ⟨trivial, ψ, e', τ, s1, s2, s3⟩
      | normal => exact ⟨trivial, ψ, e', τ, s1, s2, s3⟩
      | goto l => exact ⟨trivial, ψ, e', τ, s1, s2, s3⟩
      | ret => exact ⟨trivial, ψ, e', τ, s1, s2, s3⟩
      | panic _ => exact f1.elim
      | outgrown => exact f1.elim
  | loop b ih =>
    intro st cx e K r σ φ a w c' ht hd hsz h hst
    cases st with
    | some l => simp [tgt, findLabel] at ht
    | none =>
      injection ht with ht; subst ht
      unfold runC at h
      simp only at h
      generalize hjs : inter (writes b) (useFrom b none cx.toLive []) = js at h
      generalize hcx : ({ cx with lo := useFrom b none cx.toLive [] } : Ctx) = cx2 at h
      let F : Fn js.length (AM β) → Fn js.length (AM β) := fun rec => lam js (kill (writes b) e) fun e' => runC P call k b none cx2 e' fun x e'' => match x with
        | .normal => app js rec e''
        | x => K x e''
      refine wp_loop_fuel (fun m a' w' => ∃ ψ e' τ, St P ψ e' τ a' w' ∧ Fr (writes b) φ σ w a ψ τ w' a' ∧ app js (loopK js.length F m) e' τ = some r) ?_ ?_ (n := k) ⟨φ, e, σ, hst, Fr.refl .., h⟩
      · rintro a' w' ⟨ψ, e', τ, _, _, h3⟩
        simp only [loopK] at h3
        rw [app_failN] at h3
        exact fail_none h3
      · rintro m a' w' ⟨ψ, e', τ, s1, s2, s3⟩
        simp only [loopK] at s3
        have s4 : runC P call k b none cx2 (envJoin js e' (kill (writes b) e)) (fun x e'' => match x with
            | .normal => app js (loopK js.length F m) e''
            | x => K x e'') τ = some r := by
          have := s3
          simp only [F] at this
          rw [app_lam] at this
          exact this
        refine wp_mono (ih none cx2 _ _ r τ ψ a' w' b rfl hd (by rw [s2.size]; exact hsz) s4 ⟨hst.er.join s1.er s2.fr.le s2.keep _, s1.wr⟩) fun q a'' w'' ⟨f1, χ, e'', υ, t1, t2, t3⟩ => ?_
        cases q with
        | normal => exact ⟨χ, e'', υ, t1, s2.trans t2, t3⟩
        | exit id => exact ⟨trivial, χ, e'', υ, t1, s2.trans t2, t3⟩
        | goto l => exact ⟨trivial, χ, e'', υ, t1, s2.trans t2, t3⟩
        | ret => exact ⟨trivial, χ, e'', υ, t1, s2.trans t2, t3⟩
        | panic _ => exact f1.elim
        | outgrown => exact f1.elim
  | scope b ih =>
    intro st cx e K r σ φ a w c' ht hd hsz h hst
    cases st with
    | some l => simp [tgt, findLabel] at ht
    | none =>
      injection ht with ht; subst ht
      unfold runC at h
      simp only at h
      generalize gotosOf b = gs at h
      rcases gs with _ | ⟨l, _ | ⟨l2, gs⟩⟩
      · refine wp_scope_straight (wp_mono (ih none _ e _ r σ φ a w b rfl hd hsz h hst) fun q a' w' ⟨f1, ψ, e', τ, s1, s2, s3⟩ => ?_)
        cases q with
        | normal => exact ⟨trivial, ψ, e', τ, s1, s2, s3⟩
        | exit id => exact ⟨trivial, ψ, e', τ, s1, s2, s3⟩
        | goto l => exact fail_none s3
        | ret => exact ⟨trivial, ψ, e', τ, s1, s2, s3⟩
        | panic _ => exact f1.elim
        | outgrown => exact f1.elim
      · simp only at h
        split at h
        · rename_i hsome
          cases hf : findLabel b l with
          | none => rw [hf] at hsome; cases hsome
          | some rest =>
            unfold Eng.join at h
            generalize hjs : inter (writes b) (useFrom b (some l) cx.toLive cx.lo) = js at h
            refine wp_scope_jumps l (fun a' w' => ∃ ψ e' τ, St P ψ e' τ a' w' ∧ Fr (writes b) φ σ w a ψ τ w' a' ∧ runC P call k b (some l) cx e' (fun x e'' => match x with
                | .goto _ => fail
                | x => K x e'') τ = some r) (fun _ _ => 0) hf ?_ ?_
            · refine wp_mono (ih none _ e _ r σ φ a w b rfl hd hsz h hst) fun q a' w' ⟨f1, ψ, e', τ, s1, s2, s3⟩ => ?_
              cases q with
              | normal => exact ⟨trivial, ψ, e', τ, s1, s2, s3⟩
              | exit id => exact ⟨trivial, ψ, e', τ, s1, s2, s3⟩
              | goto l' =>
                simp only at s3
                split at s3
                · rename_i hll
                  rw [app_lam] at s3
                  exact ⟨hll, ψ, _, τ, ⟨hst.er.join s1.er s2.fr.le s2.keep _, s1.wr⟩, s2, s3⟩
                · exact (fail_none s3).elim
              | ret => exact ⟨trivial, ψ, e', τ, s1, s2, s3⟩
              | panic _ => exact f1.elim
              | outgrown => exact f1.elim
            · rintro a' w' ⟨ψ, e', τ, s1, s2, s3⟩
              refine wp_mono (ih (some l) cx e' _ r τ ψ a' w' rest hf hd (by rw [s2.size]; exact hsz) s3 s1) fun q a'' w'' ⟨f1, χ, e'', υ, t1, t2, t3⟩ => ?_
              cases q with
              | normal => exact ⟨trivial, χ, e'', υ, t1, s2.trans t2, t3⟩
              | exit id => exact ⟨trivial, χ, e'', υ, t1, s2.trans t2, t3⟩
              | goto l' => exact (fail_none t3).elim
              | ret => exact ⟨trivial, χ, e'', υ, t1, s2.trans t2, t3⟩
              | panic _ => exact f1.elim
              | outgrown => exact f1.elim
        · exact (fail_none h).elim
      · exact (fail_none h).elim
  | exit id =>
    intro st cx e K r σ φ a w c' ht _ _ h hst
    cases st with
    | some l => simp [tgt, findLabel] at ht
    | none => injection ht with ht; subst ht; exact wp_exit ⟨trivial, φ, e, σ, hst, Fr.refl .., h⟩
  | goto l' =>
    intro st cx e K r σ φ a w c' ht _ _ h hst
    cases st with
    | some l => simp [tgt, findLabel] at ht
    | none => injection ht with ht; subst ht; exact wp_goto ⟨trivial, φ, e, σ, hst, Fr.refl .., h⟩
  | ret =>
    intro st cx e K r σ φ a w c' ht _ _ h hst
    cases st with
    | some l => simp [tgt, findLabel] at ht
    | none => injection ht with ht; subst ht; exact wp_ret ⟨trivial, φ, e, σ, hst, Fr.refl .., h⟩
  | _ =>
    intro st cx e K r σ φ a w c' ht _ _ h hst
    cases st with
    | some l => simp [tgt, findLabel] at ht
    | none => exact (fail_none h).elim
end Go.Proofs.Ytjmafbiklebjcaa.Eng
