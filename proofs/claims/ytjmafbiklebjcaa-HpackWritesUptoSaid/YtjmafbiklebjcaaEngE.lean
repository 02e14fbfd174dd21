/- Operations on memory; '==' and arithmetic. -/
import Derived.Test.YtjmafbiklebjcaaEngD
set_option linter.unusedVariables false
set_option linter.unusedSimpArgs false
namespace Go.Proofs.Ytjmafbiklebjcaa.Eng
variable {P : Program}

/-! ### arithmetic and comparisons -/
theorem purely_run {α : Type} : ∀ (s : Sem α) (a : α), purely P s = some a → ∀ w : World, s.run P w = .ok a w
  | .pure b, a, h, w => by simp only [purely] at h; injection h with h; subst h; rfl
  | .program k, a, h, w => by simp only [purely] at h; simp only [Sem.run]; exact purely_run (k P) a h w
  | .load _ _ _, _, h, _ => by simp [purely] at h
  | .store _ _ _ _, _, h, _ => by simp [purely] at h
  | .new _ _, _, h, _ => by simp [purely] at h
  | .shape _ _, _, h, _ => by simp [purely] at h
  | .freeze _ _ _, _, h, _ => by simp [purely] at h
  | .frozen _ _, _, h, _ => by simp [purely] at h
  | .getObj _ _, _, h, _ => by simp [purely] at h
  | .setObj _ _ _, _, h, _ => by simp [purely] at h
  | .choose _ _, _, h, _ => by simp [purely] at h
  | .sys _ _, _, h, _ => by simp [purely] at h
  | .mark _ _, _, h, _ => by simp [purely] at h
  | .halt _, _, h, _ => by simp [purely] at h

theorem flatO_some {o : Option Value} {v : Value} (h : flatO o = some v) : o = some v ∧ flat v = true := by
  unfold flatO at h
  cases o with
  | none => simp at h
  | some u =>
    simp only at h
    split at h
    · rename_i hf; injection h with h; subst h; exact ⟨rfl, hf⟩
    · cases h
theorem intBin_run {w : World} {op : BinOp} {t : TypeId} {k : IntKind} {a b : Int} {v : Value} (h : intBin op k a b = some v) : (binOp op t (.int k a) (.int k b)).run P w = .ok v w := by
  cases op <;> simp only [intBin] at h
  case quo =>
    split at h
    · cases h
    · rename_i hb; injection h with h; subst h; simp [binOp, Op.intDiv, hb]
  case rem =>
    split at h
    · cases h
    · rename_i hb; injection h with h; subst h; simp [binOp, Op.intDiv, hb]
  all_goals first
    | (injection h with h; subst h; simp [binOp, Op.intArith, Op.intBits, Op.intCmp]; done)
    | cases h
theorem shiftBin_run {w : World} {op : BinOp} {t : TypeId} {j k : IntKind} {a b : Int} {v : Value} (h : shiftBin op j a b = some v) : (binOp op t (.int j a) (.int k b)).run P w = .ok v w := by
  cases op <;> simp only [shiftBin] at h
  case shl =>
    split at h
    · cases h
    · rename_i hb; injection h with h; subst h; simp [binOp, Op.shift, hb]
  case shr =>
    split at h
    · cases h
    · rename_i hb; injection h with h; subst h; simp [binOp, Op.shift, hb]
  all_goals cases h
theorem strBin_run {w : World} {op : BinOp} {t : TypeId} {a b : ByteArray} {v : Value} (h : strBin op a b = some v) : (binOp op t (.string a) (.string b)).run P w = .ok v w := by
  cases op <;> simp only [strBin] at h
  case add =>
    split at h
    · cases h
    · rename_i hb
      injection h with h; subst h
      have : binOp .add t (.string a) (.string b) = Op.stringOp .add a b := by simp [binOp]
      rw [this]
      simp only [Op.stringOp, if_neg hb, Sem.run_pure]
  all_goals first
    | (injection h with h; subst h; simp [binOp, Op.stringOp]; done)
    | cases h

theorem intBin_flat {op : BinOp} {k : IntKind} {a b : Int} {v : Value} (h : intBin op k a b = some v) : flat v = true := by
  cases op <;> simp [intBin] at h <;> first
    | (subst h; rfl)
    | (obtain ⟨_, h⟩ := h; subst h; rfl)
theorem shiftBin_flat {op : BinOp} {k : IntKind} {a b : Int} {v : Value} (h : shiftBin op k a b = some v) : flat v = true := by
  cases op <;> simp [shiftBin] at h <;> (obtain ⟨_, h⟩ := h; subst h; rfl)
theorem strBin_flat {op : BinOp} {a b : ByteArray} {v : Value} (h : strBin op a b = some v) : flat v = true := by
  cases op <;> simp [strBin] at h <;> first
    | (subst h; rfl)
    | (obtain ⟨_, h⟩ := h; subst h; rfl)

theorem eqGuard_not {op : BinOp} {t : TypeId} {x y : Operand} {u v : Value} (h : ¬ (u = .nilIface ∧ v = .nilIface)) (k : ∀ a b, ¬ (u = .agg a ∧ v = .agg b)) : eqGuard op t x y u v = pure () := by
  cases op <;> first
    | rfl
    | (cases u <;> cases v <;> first
        | rfl
        | exact absurd ⟨rfl, rfl⟩ h
        | exact absurd ⟨rfl, rfl⟩ (k _ _))

theorem ifU_some {t : TypeId} {f : TypeDesc → Bool} {m : AM Value} {σ : AW} {r : Value × AW} (h : ifU P t f m σ = some r) : ∃ d, P.underlying t = some d ∧ f d = true ∧ m σ = some r := by
  unfold ifU at h
  cases hd : P.underlying t with
  | none => simp [hd, fail] at h
  | some d =>
    simp only [hd] at h
    split at h
    · rename_i hf; exact ⟨d, rfl, hf, h⟩
    · exact (fail_none h).elim
theorem eqA_some {op : BinOp} {b : Bool} {σ τ : AW} {v : Value} (h : eqA op b σ = some (v, τ)) : τ = σ ∧ ((op = .eql ∧ v = .bool b) ∨ (op = .neq ∧ v = .bool !b)) := by
  unfold eqA at h
  split at h
  · obtain ⟨rfl, rfl⟩ := ret_some h; exact ⟨rfl, .inl ⟨rfl, rfl⟩⟩
  · obtain ⟨rfl, rfl⟩ := ret_some h; exact ⟨rfl, .inr ⟨rfl, rfl⟩⟩
  · exact (fail_none h).elim

section
variable {t : TypeId} (n : Nat) (w : World)
theorem eq_bool (hu : P.underlying t = some .bool) (a b : Bool) : (Op.equalIn (n + 1) t (.bool a) (.bool b)).run P w = .ok (a == b) w := by
  simp [Op.equalIn, run_underlying hu]
theorem eq_ptr_nil {e : TypeId} (hu : P.underlying t = some (.pointer e)) (a : Option Addr) : (Op.equalIn (n + 1) t (.pointer a) (.pointer none)).run P w = .ok a.isNone w := by
  cases a <;> simp [Op.equalIn, run_underlying hu]
theorem eq_nil_ptr {e : TypeId} (hu : P.underlying t = some (.pointer e)) (a : Option Addr) : (Op.equalIn (n + 1) t (.pointer none) (.pointer a)).run P w = .ok a.isNone w := by
  cases a <;> simp [Op.equalIn, run_underlying hu]
theorem eq_slice_nil {e : TypeId} (hu : P.underlying t = some (.slice e)) (a : Option Addr) (l c m d : Nat) : (Op.equalIn (n + 1) t (.slice a l c) (.slice none m d)).run P w = .ok a.isNone w := by
  cases a <;> simp [Op.equalIn, run_underlying hu]
theorem eq_map_nil {k e : TypeId} (hu : P.underlying t = some (.map k e)) (a : Option Nat) : (Op.equalIn (n + 1) t (.map a) (.map none)).run P w = .ok a.isNone w := by
  cases a <;> simp [Op.equalIn, run_underlying hu]
end

theorem run_eq {w : World} {op : BinOp} {t : TypeId} {x y : Value} {b : Bool} (hx : ∀ k n, x ≠ .int k n) (hs : ∀ s, x ≠ .string s) (hf : ∀ k n, x ≠ .float k n) (hc : ∀ k n m, x ≠ .complex k n m)
    (he : (Op.equalIn 10000 t x y).run P w = .ok b w) : (op = .eql → (binOp op t x y).run P w = .ok (.bool b) w) ∧ (op = .neq → (binOp op t x y).run P w = .ok (.bool !b) w) := by
  constructor <;> rintro rfl
  · have : binOp .eql t x y = (do pure (.bool (← Op.equal t x y))) := by
      cases x <;> first
        | exact absurd rfl (hx _ _)
        | exact absurd rfl (hs _)
        | exact absurd rfl (hf _ _)
        | exact absurd rfl (hc _ _ _)
        | rfl
    rw [this]
    simp [Op.equal, Op.maxDepth, he]
  · have : binOp .neq t x y = (do pure (.bool (!(← Op.equal t x y)))) := by
      cases x <;> first
        | exact absurd rfl (hx _ _)
        | exact absurd rfl (hs _)
        | exact absurd rfl (hf _ _)
        | exact absurd rfl (hc _ _ _)
        | rfl
    rw [this]
    simp [Op.equal, Op.maxDepth, he]

theorem bin_sound {φ : Phi} {σ τ : AW} {w : World} {op : BinOp} {t : TypeId} {X Y : Operand} {x y x' y' v : Value} (hw : WR P φ σ w) (h : binA P op t x y σ = some (v, τ)) (hx : VR φ x x') (hy : VR φ y y') :
    DoneV P φ σ w v τ ((do eqGuard op t X Y x' y'; binOp op t x' y' : Sem Value).run P w) := by
  have fin : ∀ b, eqGuard op t X Y x' y' = pure () → (∀ k n, x' ≠ .int k n) → (∀ s, x' ≠ .string s) → (∀ k n, x' ≠ .float k n) → (∀ k n m, x' ≠ .complex k n m) → (Op.equalIn 10000 t x' y').run P w = .ok b w → eqA op b σ = some (v, τ) →
      DoneV P φ σ w v τ ((do eqGuard op t X Y x' y'; binOp op t x' y' : Sem Value).run P w) := by
    intro b hg h1 h2 h3 h4 h5 h6
    obtain ⟨e0, h7⟩ := eqA_some h6
    subst e0
    obtain ⟨g1, g2⟩ := run_eq (op := op) h1 h2 h3 h4 h5
    rw [hg]
    rcases h7 with ⟨e, e2⟩ | ⟨e, e2⟩ <;> subst e2
    · exact .still hw (by simpa using g1 e) (by simp [VR])
    · exact .still hw (by simpa using g2 e) (by simp [VR])
  unfold binA at h
  split at h
  · rename_i j a k b
    simp only [VR] at hx hy; subst hx; subst hy
    rw [eqGuard_not (by simp) (by simp)]
    split at h
    · obtain ⟨h1, rfl⟩ := liftO_some h
      exact .still hw (by simpa using shiftBin_run h1) (VR.flat_refl (shiftBin_flat h1))
    · obtain ⟨h1, rfl⟩ := liftO_some h
      exact .still hw (by simpa using shiftBin_run h1) (VR.flat_refl (shiftBin_flat h1))
    · split at h
      · rename_i hjk
        subst hjk
        obtain ⟨h1, rfl⟩ := liftO_some h
        exact .still hw (by simpa using intBin_run h1) (VR.flat_refl (intBin_flat h1))
      · exact (fail_none h).elim
  · rename_i a b
    simp only [VR] at hx hy; subst hx; subst hy
    rw [eqGuard_not (by simp) (by simp)]
    obtain ⟨h1, rfl⟩ := liftO_some h
    exact .still hw (by simpa using strBin_run h1) (VR.flat_refl (strBin_flat h1))
  · rename_i a b
    simp only [VR] at hx hy; subst hx; subst hy
    obtain ⟨d, hu, hd, h⟩ := ifU_some h
    cases d <;> simp only [isBoolT, Bool.false_eq_true] at hd
    exact fin _ (eqGuard_not (by simp) (by simp)) (by simp) (by simp) (by simp) (by simp) (eq_bool 9999 w hu _ _) h
  · rename_i a
    simp only [VR] at hy; subst hy
    obtain ⟨d, hu, hd, h⟩ := ifU_some h
    cases d <;> simp only [isPtrT, Bool.false_eq_true] at hd
    cases a with
    | none =>
      simp only [VR] at hx; subst hx
      exact fin _ (eqGuard_not (by simp) (by simp)) (by simp) (by simp) (by simp) (by simp) (eq_ptr_nil 9999 w hu none) h
    | some a =>
      simp only [VR] at hx
      obtain ⟨p, _, _, rfl⟩ := hx
      exact fin _ (eqGuard_not (by simp) (by simp)) (by simp) (by simp) (by simp) (by simp) (eq_ptr_nil 9999 w hu (some _)) h
  · rename_i b _
    simp only [VR] at hx; subst hx
    obtain ⟨d, hu, hd, h⟩ := ifU_some h
    cases d <;> simp only [isPtrT, Bool.false_eq_true] at hd
    cases b with
    | none =>
      simp only [VR] at hy; subst hy
      exact fin _ (eqGuard_not (by simp) (by simp)) (by simp) (by simp) (by simp) (by simp) (eq_nil_ptr 9999 w hu none) h
    | some a =>
      simp only [VR] at hy
      obtain ⟨p, _, _, rfl⟩ := hy
      exact fin _ (eqGuard_not (by simp) (by simp)) (by simp) (by simp) (by simp) (by simp) (eq_nil_ptr 9999 w hu (some _)) h
  · rename_i a l c m d
    simp only [VR] at hy; subst hy
    obtain ⟨d, hu, hd, h⟩ := ifU_some h
    cases d <;> simp only [isSliceT, Bool.false_eq_true] at hd
    cases a with
    | none =>
      simp only [VR] at hx; subst hx
      exact fin _ (eqGuard_not (by simp) (by simp)) (by simp) (by simp) (by simp) (by simp) (eq_slice_nil 9999 w hu none _ _ _ _) h
    | some a =>
      simp only [VR] at hx
      rcases hx with ⟨p, c', z, _, _, _, _, rfl⟩ | ⟨rfl, _, a', rfl⟩
      · exact fin _ (eqGuard_not (by simp) (by simp)) (by simp) (by simp) (by simp) (by simp) (eq_slice_nil 9999 w hu (some _) _ _ _ _) h
      · exact fin _ (eqGuard_not (by simp) (by simp)) (by simp) (by simp) (by simp) (by simp) (eq_slice_nil 9999 w hu (some _) _ _ _ _) h
  · rename_i a
    simp only [VR] at hy; subst hy
    obtain ⟨d, hu, hd, h⟩ := ifU_some h
    cases d <;> simp only [isMapT, Bool.false_eq_true] at hd
    cases a with
    | none =>
      simp only [VR] at hx; subst hx
      exact fin _ (eqGuard_not (by simp) (by simp)) (by simp) (by simp) (by simp) (by simp) (eq_map_nil 9999 w hu none) h
    | some a =>
      simp only [VR] at hx
      obtain ⟨p, _, _, rfl⟩ := hx
      exact fin _ (eqGuard_not (by simp) (by simp)) (by simp) (by simp) (by simp) (by simp) (eq_map_nil 9999 w hu (some _)) h
  · rename_i xs ys
    split at h
    · rename_i hfl
      simp only [Bool.and_eq_true] at hfl
      rw [VR.flat_eq hfl.1 hx, VR.flat_eq hfl.2 hy]
      obtain ⟨h1, rfl⟩ := liftO_some h
      obtain ⟨h1, hv⟩ := flatO_some h1
      have hX : eqGuard op t X Y (.agg xs) (.agg ys) = eqGuard op t (.tmp 0) (.tmp 0) (.agg xs) (.agg ys) := by cases op <;> rfl
      rw [hX]
      have hr := purely_run _ _ h1 w
      exact .still hw hr (VR.flat_refl hv)
    · exact (fail_none h).elim
  · exact (fail_none h).elim

end Go.Proofs.Ytjmafbiklebjcaa.Eng
