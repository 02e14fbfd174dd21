/- Environments; operations in order; groups under a guard. -/
import Derived.Test.YtjmafbiklebjcaaEngG
set_option linter.unusedVariables false
set_option linter.unusedSimpArgs false
namespace Go.Proofs.Ytjmafbiklebjcaa.Eng
variable {P : Program}

def ER (φ : Phi) (e : Env) (tmps : Array Value) : Prop := ∀ t, VR φ (e.get t) (tmps.getD t undef)
theorem ER.eval {φ : Phi} {e : Env} {a : Act} (h : ER φ e a.tmps) (x : Operand) : VR φ (e.eval x) (a.eval x) := by
  cases x with
  | tmp t => exact h t
  | const v =>
    simp only [Env.eval, Act.eval]
    split
    · rename_i hf; exact VR.flat_refl hf
    · exact VR_unk _ _
  | global g => exact VR_unk _ _
  | func f => simp [Env.eval, Act.eval, VR, VRs]
theorem ER.mono {φ ψ : Phi} {e : Env} {tmps : Array Value} (h : ER φ e tmps) (k : φ.le ψ) : ER ψ e tmps := fun t => (h t).mono k

theorem getD_put {a : Act} {d t : Nat} {v : Value} (hd : d < a.tmps.size) : (a.put (some d) v).tmps.getD t undef = if d = t then v else a.tmps.getD t undef := by
  simp only [Act.put, Array.getD_eq_getD_getElem?, Array.getElem?_setIfInBounds]
  split
  · rename_i h; subst h; simp [hd]
  · rfl
theorem ER.put {φ : Phi} {e : Env} {a : Act} (h : ER φ e a.tmps) {dst : Option Tmp} {v v' : Value} (hv : VR φ v v') (hd : ∀ d, dst = some d → d < a.tmps.size) : ER φ (e.put dst v) (a.put dst v').tmps := by
  cases dst with
  | none => exact h
  | some d =>
    intro t
    rw [getD_put (hd d rfl)]
    simp only [Env.put, Env.get]
    split
    · exact hv
    · exact h t
theorem put_size (a : Act) (dst : Option Tmp) (v : Value) : (a.put dst v).tmps.size = a.tmps.size := by cases dst <;> simp [Act.put]
theorem put_defers (a : Act) (dst : Option Tmp) (v : Value) : (a.put dst v).defers = a.defers := by cases dst <;> rfl

/-- Where the run stands. -/
structure St (P : Program) (φ : Phi) (e : Env) (σ : AW) (a : Act) (w : World) : Prop where
  er : ER φ e a.tmps
  wr : WR P φ σ w
/-- What has become of it. -/
structure Fr (W : List Nat) (φ : Phi) (σ : AW) (w : World) (a : Act) (ψ : Phi) (τ : AW) (w' : World) (a' : Act) : Prop where
  fr : FR φ σ w ψ τ w'
  defers : a'.defers = a.defers
  size : a'.tmps.size = a.tmps.size
  keep : ∀ t, t ∉ W → a'.tmps.getD t undef = a.tmps.getD t undef
theorem Fr.refl (W : List Nat) (φ : Phi) (σ : AW) (w : World) (a : Act) : Fr W φ σ w a φ σ w a := ⟨FR.refl _ _ _, rfl, rfl, fun _ _ => rfl⟩
theorem Fr.trans {W : List Nat} {φ ψ χ : Phi} {σ τ υ : AW} {w w' w'' : World} {a a' a'' : Act} (h : Fr W φ σ w a ψ τ w' a') (k : Fr W ψ τ w' a' χ υ w'' a'') : Fr W φ σ w a χ υ w'' a'' :=
  ⟨h.fr.trans k.fr, k.defers.trans h.defers, k.size.trans h.size, fun t ht => (k.keep t ht).trans (h.keep t ht)⟩
theorem Fr.wide {W W' : List Nat} {φ ψ : Phi} {σ τ : AW} {w w' : World} {a a' : Act} (h : Fr W φ σ w a ψ τ w' a') (k : ∀ t, t ∈ W → t ∈ W') : Fr W' φ σ w a ψ τ w' a' :=
  ⟨h.fr, h.defers, h.size, fun t ht => h.keep t fun hh => ht (k t hh)⟩
theorem Fr.put {W : List Nat} {φ ψ : Phi} {σ τ : AW} {w w' : World} {a : Act} {dst : Option Tmp} {v : Value} (h : FR φ σ w ψ τ w') (hd : ∀ d, dst = some d → d < a.tmps.size ∧ d ∈ W) : Fr W φ σ w a ψ τ w' (a.put dst v) :=
  ⟨h, put_defers _ _ _, put_size _ _ _, fun t ht => by
    cases dst with
    | none => rfl
    | some d =>
      rw [getD_put (hd d rfl).1, if_neg]
      rintro rfl
      exact ht (hd _ rfl).2⟩

/-! ### lists of slots -/
theorem mem_ins {t x : Nat} : ∀ (l : List Nat), x ∈ ins t l ↔ x = t ∨ x ∈ l
  | [] => by simp [ins]
  | y :: l => by
    unfold ins
    split
    · simp
    · split
      · rename_i h; subst h; simp
      · simp only [List.mem_cons, mem_ins l]
        constructor
        · rintro (h | h | h) <;> simp [h]
        · rintro (h | h | h) <;> simp [h]
theorem mem_insAll {x : Nat} : ∀ (l m : List Nat), x ∈ insAll l m ↔ x ∈ l ∨ x ∈ m
  | [], m => by simp [insAll]
  | y :: l, m => by
    have := mem_insAll (x := x) l (ins y m)
    simp only [insAll, List.foldl_cons] at this ⊢
    rw [this, mem_ins]
    simp only [List.mem_cons]
    constructor
    · rintro (h | h | h) <;> simp [h]
    · rintro ((h | h) | h) <;> simp [h]
theorem mem_writesOps {d : Nat} : ∀ (l : List Oper) (o : Oper), o ∈ l → o.dst = some d → d ∈ writesOps l
  | [], _, h, _ => by simp at h
  | x :: l, o, h, hd => by
    have ih := mem_writesOps (d := d) l o
    simp only [writesOps, List.foldr_cons] at ih ⊢
    rcases List.mem_cons.1 h with rfl | h
    · rw [hd]; simp [mem_ins]
    · cases hx : x.dst with
      | none => exact ih h hd
      | some d' => simp only [mem_ins]; exact .inr (ih h hd)

/-! ### joins -/
def envJoin : List Nat → Env → Env → Env
  | [], _, b => b
  | k :: ks, e', b => envJoin ks e' ((k, e'.get k) :: b)
theorem app_lam {β : Type} (f : Env → β) (e' : Env) : ∀ (ks : List Nat) (b : Env), app ks (lam ks b f) e' = f (envJoin ks e' b)
  | [], _ => rfl
  | k :: ks, b => app_lam f e' ks _
theorem app_failN {β : Type} (e : Env) : ∀ (ks : List Nat), app ks (failN (β := β) ks.length) e = fail
  | [] => rfl
  | _ :: ks => app_failN e ks
theorem get_kill (e : Env) (t : Nat) : ∀ (ks : List Nat), (kill ks e).get t = if t ∈ ks then unk else e.get t
  | [] => by simp [kill]
  | k :: ks => by
    have ih := get_kill e t ks
    simp only [kill, List.foldr_cons, Env.get] at ih ⊢
    by_cases h : k = t
    · simp [h]
    · rw [if_neg h, ih]
      have : t ≠ k := fun hh => h hh.symm
      simp [this]
theorem get_envJoin (e' : Env) (t : Nat) : ∀ (ks : List Nat) (b : Env), (envJoin ks e' b).get t = if t ∈ ks then e'.get t else b.get t
  | [], b => by simp [envJoin]
  | k :: ks, b => by
    simp only [envJoin]
    rw [get_envJoin e' t ks]
    by_cases h : t ∈ ks
    · simp [h]
    · rw [if_neg h]
      simp only [Env.get]
      by_cases hk : k = t
      · simp [hk]
      · have : t ≠ k := fun hh => hk hh.symm
        simp [hk, this, h]
theorem ER.join {φ ψ : Phi} {e e' : Env} {a a' : Act} {W : List Nat} (h : ER φ e a.tmps) (h' : ER ψ e' a'.tmps) (hle : φ.le ψ) (hk : ∀ t, t ∉ W → a'.tmps.getD t undef = a.tmps.getD t undef) (js : List Nat) :
    ER ψ (envJoin js e' (kill W e)) a'.tmps := by
  intro t
  rw [get_envJoin]
  split
  · exact h' t
  · rw [get_kill]
    split
    · exact VR_unk _ _
    · rename_i ht
      rw [hk t ht]
      exact (h t).mono hle

/-! ### operations in order -/
theorem bind_some {α β : Type} {m : AM α} {f : α → AM β} {σ : AW} {r : β × AW} (h : bind m f σ = some r) : ∃ a τ, m σ = some (a, τ) ∧ f a τ = some r := by
  unfold bind at h
  cases hm : m σ with
  | none => simp [hm] at h
  | some x => obtain ⟨a, τ⟩ := x; simp only [hm] at h; exact ⟨a, τ, rfl, h⟩

def After (P : Program) (W : List Nat) (φ : Phi) (σ : AW) (w : World) (a : Act) {β : Type} (K : Env → AM β) (r : β × AW) (a' : Act) (w' : World) : Prop :=
  ∃ ψ e' τ, St P ψ e' τ a' w' ∧ Fr W φ σ w a ψ τ w' a' ∧ K e' τ = some r

theorem seqA_sound {β : Type} {call : FuncId → List Value → AM Value} (hc : CallsOk P call) {ops : Array Oper} {Q : Exit → Act → World → Prop} {K : Env → AM β} {r : β × AW} {rest : List Nat} (g : Option (Nat × Bool)) (W : List Nat)
    (hg : ∀ g', g = some g' → ∃ s, slotOf ops g'.1 = some s ∧ s ∉ W) :
    ∀ (l : List IOp) (e : Env) (σ : AW) (φ : Phi) (a : Act) (w : World), (∀ x ∈ l, ops[x.1]? = some x.2 ∧ x.2.guard = g ∧ ∀ d, x.2.dst = some d → d < a.tmps.size ∧ d ∈ W) →
      (∀ g', g = some g' → ∀ s, slotOf ops g'.1 = some s → a.tmps.getD s undef = .bool g'.2) →
      seqA P call l e K σ = some r → St P φ e σ a w → (∀ a' w', After P W φ σ w a K r a' w' → wpOps P ops Q rest a' w') → wpOps P ops Q (l.map (·.1) ++ rest) a w
  | [], e, σ, φ, a, w, _, _, h, hst, hk => hk a w ⟨φ, e, σ, hst, Fr.refl _ _ _ _ _, h⟩
  | x :: l, e, σ, φ, a, w, hl, hsl, h, hst, hk => by
    obtain ⟨hx1, hx2, hx3⟩ := hl x (by simp)
    obtain ⟨v, τ, h1, h2⟩ := bind_some h
    have hop := exec_sound hc hst.wr h1 hst.er.eval
    simp only [List.map_cons, List.cons_append, wpOps, hx1]
    have hwant : Region.wanted x.2 (yielded ops a.tmps) = true := by
      unfold Region.wanted
      cases hgx : x.2.guard with
      | none => rfl
      | some g' =>
        rw [hgx] at hx2
        obtain ⟨s, hs1, hs2⟩ := hg g' hx2.symm
        have hv := hsl g' hx2.symm s hs1
        have : yielded ops a.tmps g'.1 = some g'.2 := by
          unfold yielded
          have : ((ops[g'.1]?).bind (·.dst)) = some s := hs1
          rw [this]
          simp only [Option.bind_some]
          have hs : a.tmps[s]? = some (.bool g'.2) := by
            simp only [Array.getD_eq_getD_getElem?] at hv
            cases hh : a.tmps[s]? with
            | none => rw [hh] at hv; simp [undef] at hv
            | some u => rw [hh] at hv; simp at hv; rw [hv]
          rw [hs]
        simp [this]
    rw [if_pos hwant]
    left
    refine hop _ _ fun ψ v' w' hv hwr hfr => ?_
    refine seqA_sound hc g W hg l (e.put x.2.dst v) τ ψ (a.put x.2.dst v') w' (fun y hy => by
      obtain ⟨y1, y2, y3⟩ := hl y (by simp [hy])
      exact ⟨y1, y2, fun d hd => by rw [put_size]; exact y3 d hd⟩) (fun g' hg' s hs => ?_) h2 ⟨(hst.er.mono hfr.le).put hv fun d hd => (hx3 d hd).1, hwr⟩ fun a' w'' ⟨χ, e', υ, s1, s2, s3⟩ => ?_
    · obtain ⟨s', hs1, hs2⟩ := hg g' hg'
      rw [hs1] at hs; injection hs with hs; subst hs
      rw [(Fr.put (W := W) (a := a) (v := v') hfr fun d hd => hx3 d hd).keep _ hs2]
      exact hsl g' hg' _ hs1
    · exact hk a' w'' ⟨χ, e', υ, s1, (Fr.put hfr fun d hd => hx3 d hd).trans s2, s3⟩

theorem skip_sound {ops : Array Oper} {Q : Exit → Act → World → Prop} {rest : List Nat} (W : List Nat) (g : Nat × Bool) (s : Nat) (hs : slotOf ops g.1 = some s) (hsW : s ∉ W) :
    ∀ (l : List IOp) (e : Env) (σ : AW) (φ : Phi) (a : Act) (w : World), (∀ x ∈ l, ops[x.1]? = some x.2 ∧ x.2.guard = some g ∧ ∀ d, x.2.dst = some d → d < a.tmps.size ∧ d ∈ W) →
      (a.tmps.getD s undef ≠ .bool g.2) → St P φ e σ a w →
      (∀ a', St P φ (skipE l e) σ a' w → Fr W φ σ w a φ σ w a' → wpOps P ops Q rest a' w) → wpOps P ops Q (l.map (·.1) ++ rest) a w
  | [], e, σ, φ, a, w, _, _, hst, hk => hk a hst (Fr.refl _ _ _ _ _)
  | x :: l, e, σ, φ, a, w, hl, hne, hst, hk => by
    obtain ⟨hx1, hx2, hx3⟩ := hl x (by simp)
    simp only [List.map_cons, List.cons_append, wpOps, hx1]
    have hwant : Region.wanted x.2 (yielded ops a.tmps) = false := by
      unfold Region.wanted
      rw [hx2]
      simp only [beq_eq_false_iff_ne]
      unfold yielded
      have : ((ops[g.1]?).bind (·.dst)) = some s := hs
      rw [this]
      simp only [Option.bind_some]
      intro hh
      apply hne
      simp only [Array.getD_eq_getD_getElem?]
      split at hh
      · rename_i b hb
        injection hh with hh
        subst hh
        rw [hb]; rfl
      · cases hh
    rw [if_neg (by simp [hwant])]
    have hf : Fr W φ σ w a φ σ w (a.put x.2.dst undef) := Fr.put (FR.refl _ _ _) fun d hd => hx3 d hd
    refine skip_sound W g s hs hsW l (e.put x.2.dst (.tuple #[])) σ φ _ w (fun y hy => by
      obtain ⟨y1, y2, y3⟩ := hl y (by simp [hy])
      exact ⟨y1, y2, fun d hd => by rw [put_size]; exact y3 d hd⟩) (by rw [hf.keep _ hsW]; exact hne) ⟨hst.er.put (VR.flat_refl rfl) fun d hd => (hx3 d hd).1, hst.wr⟩ fun a' s1 s2 => ?_
    exact hk a' s1 (hf.trans s2)

/-! ### groups -/
theorem groups_flat : ∀ (l : List IOp), (groups l).flatMap (·.2) = l
  | [] => rfl
  | x :: l => by
    have ih := groups_flat l
    unfold groups
    split
    · rename_i g m r hgr
      rw [hgr] at ih
      split
      · simpa using ih
      · simpa using ih
    · rename_i hgr
      rw [hgr] at ih
      simpa using ih
theorem groups_guard : ∀ (l : List IOp) (g : Option (Nat × Bool)) (m : List IOp), (g, m) ∈ groups l → ∀ x ∈ m, x.2.guard = g
  | [], g, m, h, x, hx => by simp [groups] at h
  | y :: l, g, m, h, x, hx => by
    have ih := groups_guard l
    unfold groups at h
    split at h
    · rename_i g' m' r hgr
      rw [hgr] at ih
      split at h
      · rename_i hs
        have hs' : y.2.guard = g' := by simpa [sameGuard] using hs
        rcases List.mem_cons.1 h with h | h
        · injection h with h1 h2
          subst h1; subst h2
          rcases List.mem_cons.1 hx with rfl | hx
          · exact hs'
          · exact ih _ _ (by simp) x hx
        · exact ih g m (by simp [h]) x hx
      · rcases List.mem_cons.1 h with h | h
        · injection h with h1 h2
          subst h1; subst h2
          simp at hx; subst hx; rfl
        · exact ih g m h x hx
    · rcases List.mem_cons.1 h with h | h
      · injection h with h1 h2
        subst h1; subst h2
        simp at hx; subst hx; rfl
      · simp at h

theorem mem_indexed {ops : Array Oper} {x : IOp} (h : x ∈ indexed ops) : ops[x.1]? = some x.2 := by
  unfold indexed at h
  obtain ⟨i, hi⟩ := List.mem_iff_getElem?.1 h
  rw [List.getElem?_zip_eq_some] at hi
  obtain ⟨h1, h2⟩ := hi
  have : i < ops.size := by
    rcases Nat.lt_or_ge i ops.size with g | g
    · exact g
    · rw [List.getElem?_eq_none (by simpa using g)] at h1; cases h1
  rw [List.getElem?_range this] at h1
  injection h1 with h1
  rw [← h1]
  simpa using h2
theorem indexed_map (ops : Array Oper) : (indexed ops).map (·.1) = List.range ops.size := by
  unfold indexed
  rw [List.map_fst_zip]
  simp

theorem guardA_some {β : Type} {want : Bool} {c : Value} {x y : AM β} {σ : AW} {r : β × AW} (h : guardA want c x y σ = some r) :
    (c = .bool want ∧ x σ = some r) ∨ ((∀ φ c', VR φ c c' → c' ≠ .bool want) ∧ y σ = some r) := by
  unfold guardA at h
  split at h
  · rename_i b
    split at h
    · rename_i hb; subst hb; exact .inl ⟨rfl, h⟩
    · rename_i hb
      refine .inr ⟨fun φ c' hv => ?_, h⟩
      simp only [VR] at hv; subst hv
      intro hh; injection hh with hh; exact hb hh
  · refine .inr ⟨fun φ c' hv => ?_, h⟩
    obtain ⟨cs', rfl, _⟩ := hv.tuple_form
    simp
  · exact (fail_none h).elim

theorem runG_sound {β : Type} {call : FuncId → List Value → AM Value} (hc : CallsOk P call) {ops : Array Oper} {Q : Exit → Act → World → Prop} {K : Env → AM β} {r : β × AW} {lo : List Nat} (W : List Nat) :
    ∀ (gs : List (Option (Nat × Bool) × List IOp)) (e : Env) (σ : AW) (φ : Phi) (a : Act) (w : World), (∀ g m, (g, m) ∈ gs → ∀ x ∈ m, ops[x.1]? = some x.2 ∧ x.2.guard = g ∧ ∀ d, x.2.dst = some d → d < a.tmps.size ∧ d ∈ W) →
      runG P call ops lo gs e K σ = some r → St P φ e σ a w → (∀ a' w', After P W φ σ w a K r a' w' → Q .normal a' w') → wpOps P ops Q ((gs.flatMap (·.2)).map (·.1)) a w
  | [], e, σ, φ, a, w, _, h, hst, hk => hk a w ⟨φ, e, σ, hst, Fr.refl _ _ _ _ _, h⟩
  | (none, l) :: gs, e, σ, φ, a, w, hl, h, hst, hk => by
    simp only [List.flatMap_cons, List.map_append]
    refine seqA_sound hc none W (fun g' hg' => by cases hg') l e σ φ a w (hl none l (by simp)) (fun g' hg' => by cases hg') h hst fun a' w' ⟨ψ, e', τ, s1, s2, s3⟩ => ?_
    exact runG_sound hc W gs e' τ ψ a' w' (fun g m hm x hx => by
      obtain ⟨y1, y2, y3⟩ := hl g m (by simp [hm]) x hx
      exact ⟨y1, y2, fun d hd => by rw [s2.size]; exact y3 d hd⟩) s3 s1 fun a'' w'' ⟨χ, e'', υ, t1, t2, t3⟩ => hk a'' w'' ⟨χ, e'', υ, t1, s2.trans t2, t3⟩
  | (some g, l) :: gs, e, σ, φ, a, w, hl, h, hst, hk => by
    simp only [List.flatMap_cons, List.map_append]
    have hll := hl (some g) l (by simp)
    unfold runG at h
    cases hs : slotOf ops g.1 with
    | none => rw [hs] at h; exact (fail_none h).elim
    | some s =>
      rw [hs] at h
      simp only at h
      split at h
      · exact (fail_none h).elim
      · rename_i hns
        have hns' : s ∉ writesOps (l.map (·.2)) := by simpa using hns
        let W1 := writesOps (l.map (·.2))
        have hW1 : ∀ x ∈ l, ∀ d, x.2.dst = some d → d ∈ W1 := fun x hx d hd => mem_writesOps _ x.2 (List.mem_map.2 ⟨x, hx, rfl⟩) hd
        have hll1 : ∀ x ∈ l, ops[x.1]? = some x.2 ∧ x.2.guard = some g ∧ ∀ d, x.2.dst = some d → d < a.tmps.size ∧ d ∈ W1 := fun x hx => by
          obtain ⟨y1, y2, y3⟩ := hll x hx
          exact ⟨y1, y2, fun d hd => ⟨(y3 d hd).1, hW1 x hx d hd⟩⟩
        -- what only these write
        have hW1W : ∀ {ψ : Phi} {τ : AW} {w' : World} {a' : Act}, Fr W1 φ σ w a ψ τ w' a' → Fr W φ σ w a ψ τ w' a' := fun hf => hf.wide fun t ht => by
          have : ∃ x ∈ l, x.2.dst = some t := by
            have key : ∀ (m : List Oper), t ∈ writesOps m → ∃ o ∈ m, o.dst = some t := by
              intro m
              induction m with
              | nil => intro h; simp [writesOps] at h
              | cons o m ih =>
                intro h
                simp only [writesOps, List.foldr_cons] at h ih
                cases ho : o.dst with
                | none => rw [ho] at h; obtain ⟨o', h1, h2⟩ := ih h; exact ⟨o', by simp [h1], h2⟩
                | some d =>
                  rw [ho] at h
                  simp only [mem_ins] at h
                  rcases h with rfl | h
                  · exact ⟨o, by simp, ho⟩
                  · obtain ⟨o', h1, h2⟩ := ih h; exact ⟨o', by simp [h1], h2⟩
            obtain ⟨o, h1, h2⟩ := key _ ht
            obtain ⟨x, h3, rfl⟩ := List.mem_map.1 h1
            exact ⟨x, h3, h2⟩
          obtain ⟨x, hx, hd⟩ := this
          exact ((hll x hx).2.2 t hd).2
        have next : ∀ ψ e' τ a' w', St P ψ e' τ a' w' → Fr W1 φ σ w a ψ τ w' a' → runG P call ops lo gs (envJoin (inter W1 (useOps ops (gs.flatMap fun x => x.2.map (·.2)) lo)) e' (kill W1 e)) K τ = some r →
            wpOps P ops Q ((gs.flatMap (·.2)).map (·.1)) a' w' := by
          intro ψ e' τ a' w' s1 s2 s3
          exact runG_sound hc W gs _ τ ψ a' w' (fun g m hm x hx => by
            obtain ⟨y1, y2, y3⟩ := hl g m (by simp [hm]) x hx
            exact ⟨y1, y2, fun d hd => by rw [s2.size]; exact y3 d hd⟩) s3 ⟨hst.er.join s1.er s2.fr.le s2.keep _, s1.wr⟩ fun a'' w'' ⟨χ, e'', υ, t1, t2, t3⟩ => hk a'' w'' ⟨χ, e'', υ, t1, (hW1W s2).trans t2, t3⟩
        unfold Eng.join at h
        rcases guardA_some h with ⟨hb, h⟩ | ⟨hb, h⟩
        · have hv := hst.er s
          rw [hb] at hv
          simp only [VR] at hv
          refine seqA_sound hc (some g) W1 (fun g' hg' => by injection hg' with hg'; subst hg'; exact ⟨s, hs, hns'⟩) l e σ φ a w hll1 (fun g' hg' s' hs' => by
            injection hg' with hg'; subst hg'
            rw [hs] at hs'; injection hs' with hs'; subst hs'
            exact hv) h hst fun a' w' ⟨ψ, e', τ, s1, s2, s3⟩ => ?_
          simp only [app_lam] at s3
          exact next ψ e' τ a' w' s1 s2 s3
        · refine skip_sound W1 g s hs hns' l e σ φ a w hll1 (hb φ _ (hst.er s)) hst fun a' s1 s2 => ?_
          simp only [app_lam] at h
          exact next φ _ σ a' w s1 s2 h

end Go.Proofs.Ytjmafbiklebjcaa.Eng
