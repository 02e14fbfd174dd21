/- Regions that draw their order: every order comes to the same. -/
import Derived.Test.YtjmafbiklebjcaaEngH
set_option linter.unusedVariables false
set_option linter.unusedSimpArgs false
namespace Go.Proofs.Ytjmafbiklebjcaa.Eng
variable {P : Program}

mutual
theorem same_eq : ∀ (u v : Value), same u v = true → u = v
  | .bool a, .bool b, h => by simp only [same, beq_iff_eq] at h; rw [h]
  | .int j a, .int k b, h => by simp only [same, Bool.and_eq_true, decide_eq_true_eq] at h; rw [h.1, h.2]
  | .string a, .string b, h => by simp only [same, decide_eq_true_eq] at h; rw [h]
  | .nilFunc, .nilFunc, _ => rfl
  | .nilIface, .nilIface, _ => rfl
  | .pointer a, .pointer b, h => by simp only [same, decide_eq_true_eq] at h; rw [h]
  | .slice a l c, .slice b m d, h => by simp only [same, Bool.and_eq_true, decide_eq_true_eq] at h; rw [h.1.1, h.1.2, h.2]
  | .map a, .map b, h => by simp only [same, decide_eq_true_eq] at h; rw [h]
  | .iface t v, .iface u w, h => by
    simp only [same, Bool.and_eq_true, decide_eq_true_eq] at h
    rw [h.1, same_eq v w h.2]
  | .agg ⟨a⟩, .agg ⟨b⟩, h => by
    simp only [same] at h
    rw [sameL_eq a b h]
  | .tuple ⟨a⟩, .tuple ⟨b⟩, h => by
    simp only [same] at h
    rw [sameL_eq a b h]
  | .func f ⟨a⟩ ⟨b⟩, .func g ⟨c⟩ ⟨d⟩, h => by
    simp only [same, Bool.and_eq_true, decide_eq_true_eq] at h
    rw [h.1.1, sameL_eq a c h.1.2, sameL_eq b d h.2]
  | .float _ _, _, h => by simp [same] at h
  | .complex _ _ _, _, h => by simp [same] at h
  | .chan _, _, h => by simp [same] at h
  | .bool _, .int _ _, h | .bool _, .float _ _, h | .bool _, .complex _ _ _, h | .bool _, .string _, h | .bool _, .pointer _, h | .bool _, .slice _ _ _, h | .bool _, .map _, h | .bool _, .chan _, h | .bool _, .func _ _ _, h | .bool _, .nilFunc, h | .bool _, .iface _ _, h | .bool _, .nilIface, h | .bool _, .agg _, h | .bool _, .tuple _, h => by simp [same] at h
  | .int _ _, .bool _, h | .int _ _, .float _ _, h | .int _ _, .complex _ _ _, h | .int _ _, .string _, h | .int _ _, .pointer _, h | .int _ _, .slice _ _ _, h | .int _ _, .map _, h | .int _ _, .chan _, h | .int _ _, .func _ _ _, h | .int _ _, .nilFunc, h | .int _ _, .iface _ _, h | .int _ _, .nilIface, h | .int _ _, .agg _, h | .int _ _, .tuple _, h => by simp [same] at h
  | .string _, .bool _, h | .string _, .int _ _, h | .string _, .float _ _, h | .string _, .complex _ _ _, h | .string _, .pointer _, h | .string _, .slice _ _ _, h | .string _, .map _, h | .string _, .chan _, h | .string _, .func _ _ _, h | .string _, .nilFunc, h | .string _, .iface _ _, h | .string _, .nilIface, h | .string _, .agg _, h | .string _, .tuple _, h => by simp [same] at h
  | .nilFunc, .bool _, h | .nilFunc, .int _ _, h | .nilFunc, .float _ _, h | .nilFunc, .complex _ _ _, h | .nilFunc, .string _, h | .nilFunc, .pointer _, h | .nilFunc, .slice _ _ _, h | .nilFunc, .map _, h | .nilFunc, .chan _, h | .nilFunc, .func _ _ _, h | .nilFunc, .iface _ _, h | .nilFunc, .nilIface, h | .nilFunc, .agg _, h | .nilFunc, .tuple _, h => by simp [same] at h
  | .nilIface, .bool _, h | .nilIface, .int _ _, h | .nilIface, .float _ _, h | .nilIface, .complex _ _ _, h | .nilIface, .string _, h | .nilIface, .pointer _, h | .nilIface, .slice _ _ _, h | .nilIface, .map _, h | .nilIface, .chan _, h | .nilIface, .func _ _ _, h | .nilIface, .nilFunc, h | .nilIface, .iface _ _, h | .nilIface, .agg _, h | .nilIface, .tuple _, h => by simp [same] at h
  | .pointer _, .bool _, h | .pointer _, .int _ _, h | .pointer _, .float _ _, h | .pointer _, .complex _ _ _, h | .pointer _, .string _, h | .pointer _, .slice _ _ _, h | .pointer _, .map _, h | .pointer _, .chan _, h | .pointer _, .func _ _ _, h | .pointer _, .nilFunc, h | .pointer _, .iface _ _, h | .pointer _, .nilIface, h | .pointer _, .agg _, h | .pointer _, .tuple _, h => by simp [same] at h
  | .slice _ _ _, .bool _, h | .slice _ _ _, .int _ _, h | .slice _ _ _, .float _ _, h | .slice _ _ _, .complex _ _ _, h | .slice _ _ _, .string _, h | .slice _ _ _, .pointer _, h | .slice _ _ _, .map _, h | .slice _ _ _, .chan _, h | .slice _ _ _, .func _ _ _, h | .slice _ _ _, .nilFunc, h | .slice _ _ _, .iface _ _, h | .slice _ _ _, .nilIface, h | .slice _ _ _, .agg _, h | .slice _ _ _, .tuple _, h => by simp [same] at h
  | .map _, .bool _, h | .map _, .int _ _, h | .map _, .float _ _, h | .map _, .complex _ _ _, h | .map _, .string _, h | .map _, .pointer _, h | .map _, .slice _ _ _, h | .map _, .chan _, h | .map _, .func _ _ _, h | .map _, .nilFunc, h | .map _, .iface _ _, h | .map _, .nilIface, h | .map _, .agg _, h | .map _, .tuple _, h => by simp [same] at h
  | .iface _ _, .bool _, h | .iface _ _, .int _ _, h | .iface _ _, .float _ _, h | .iface _ _, .complex _ _ _, h | .iface _ _, .string _, h | .iface _ _, .pointer _, h | .iface _ _, .slice _ _ _, h | .iface _ _, .map _, h | .iface _ _, .chan _, h | .iface _ _, .func _ _ _, h | .iface _ _, .nilFunc, h | .iface _ _, .nilIface, h | .iface _ _, .agg _, h | .iface _ _, .tuple _, h => by simp [same] at h
  | .agg _, .bool _, h | .agg _, .int _ _, h | .agg _, .float _ _, h | .agg _, .complex _ _ _, h | .agg _, .string _, h | .agg _, .pointer _, h | .agg _, .slice _ _ _, h | .agg _, .map _, h | .agg _, .chan _, h | .agg _, .func _ _ _, h | .agg _, .nilFunc, h | .agg _, .iface _ _, h | .agg _, .nilIface, h | .agg _, .tuple _, h => by simp [same] at h
  | .tuple _, .bool _, h | .tuple _, .int _ _, h | .tuple _, .float _ _, h | .tuple _, .complex _ _ _, h | .tuple _, .string _, h | .tuple _, .pointer _, h | .tuple _, .slice _ _ _, h | .tuple _, .map _, h | .tuple _, .chan _, h | .tuple _, .func _ _ _, h | .tuple _, .nilFunc, h | .tuple _, .iface _ _, h | .tuple _, .nilIface, h | .tuple _, .agg _, h => by simp [same] at h
  | .func _ _ _, .bool _, h | .func _ _ _, .int _ _, h | .func _ _ _, .float _ _, h | .func _ _ _, .complex _ _ _, h | .func _ _ _, .string _, h | .func _ _ _, .pointer _, h | .func _ _ _, .slice _ _ _, h | .func _ _ _, .map _, h | .func _ _ _, .chan _, h | .func _ _ _, .nilFunc, h | .func _ _ _, .iface _ _, h | .func _ _ _, .nilIface, h | .func _ _ _, .agg _, h | .func _ _ _, .tuple _, h => by simp [same] at h
theorem sameL_eq : ∀ (u v : List Value), sameL u v = true → u = v
  | [], [], _ => rfl
  | a :: x, b :: y, h => by
    simp only [sameL, Bool.and_eq_true] at h
    rw [same_eq a b h.1, sameL_eq x y h.2]
  | [], _ :: _, h => by simp [sameL] at h
  | _ :: _, [], h => by simp [sameL] at h
end

/-! ### what hangs on no state -/
def Const (m : AM Value) : Prop := ∀ σ σ2 v τ, m σ = some (v, τ) → τ = σ ∧ m σ2 = some (v, σ2)
theorem Const.ret (v : Value) : Const (ret v) := by intro σ σ2 u τ h; obtain ⟨rfl, rfl⟩ := ret_some h; exact ⟨rfl, rfl⟩
theorem Const.fail : Const fail := by intro σ σ2 u τ h; exact (fail_none h).elim
theorem Const.liftO (o : Option Value) : Const (liftO o) := by
  intro σ σ2 u τ h
  obtain ⟨rfl, rfl⟩ := liftO_some h
  exact ⟨rfl, rfl⟩
theorem Const.need {α : Type} (o : Option α) (f : α → AM Value) (h : ∀ a, Const (f a)) : Const (need o f) := by
  cases o with
  | none => exact Const.fail
  | some a => exact h a
theorem Const.need2 {α : Type} (o : Option α) (f : α → AM Value) (h : ∀ a, Const (f a)) : Const (need2 o f) := by
  cases o with
  | none => exact Const.fail
  | some a => exact h a
theorem Const.ite {c : Prop} [Decidable c] {x y : AM Value} (h : Const x) (k : Const y) : Const (if c then x else y) := by split <;> assumption
theorem Const.eqA (op : BinOp) (b : Bool) : Const (eqA op b) := by cases op <;> first | exact Const.fail | exact Const.ret _
theorem Const.ifU (t : TypeId) (f : TypeDesc → Bool) (m : AM Value) (h : Const m) : Const (ifU P t f m) := by
  unfold Eng.ifU
  cases P.underlying t with
  | none => exact Const.fail
  | some d => exact Const.ite h Const.fail
theorem Const.partA (k : Option Nat) (cs : List Value) (off : Nat) : Const (partA k cs off) := by
  cases k with
  | none => exact Const.liftO _
  | some n => exact Const.ret _

theorem pure_const {call : FuncId → List Value → AM Value} {o : Oper} {ρ : Operand → Value} (h : classOf P o.op = .pure) : Const (execA P call o ρ) := by
  unfold execA
  generalize o.op = op at h
  cases op with
  | move x => exact Const.ret _
  | assign x => exact Const.ret _
  | pick c x y => show Const (pickA _ _ _); unfold pickA; split <;> first | exact Const.ret _ | exact Const.fail
  | build t parts =>
    show Const (match P.underlying t with | _ => _)
    cases P.underlying t with
    | none => exact Const.fail
    | some d =>
      cases d <;> first
        | exact Const.fail
        | exact Const.need _ _ fun _ => Const.need _ _ fun _ => Const.need2 _ _ fun _ => Const.ret _
  | nilCheck x => show Const (nilCheckA _); unfold nilCheckA; split <;> first | exact Const.ret _ | exact Const.fail
  | binOp op t x y yt =>
    show Const (binA P op t _ _)
    unfold binA
    split <;> first
      | exact Const.fail
      | exact Const.liftO _
      | exact Const.ifU _ _ _ (Const.eqA _ _)
      | exact Const.ite (Const.liftO _) Const.fail
      | (split <;> first | exact Const.liftO _ | exact Const.ite (Const.liftO _) Const.fail)
  | unOp op t x => show Const (unA _ _); unfold unA; split <;> first | exact Const.ret _ | exact Const.fail
  | convert s d x =>
    simp only [classOf] at h
    show Const (match P.underlying s, P.underlying d with | _, _ => _)
    cases hs : P.underlying s with
    | none => exact Const.fail
    | some ds =>
      cases hd : P.underlying d with
      | none => cases ds <;> exact Const.fail
      | some dd =>
        rw [hs, hd] at h
        cases ds <;> cases dd <;> first
          | exact Const.fail
          | (simp at h; done)
          | (show Const (convIntA _ _); unfold convIntA; split <;> first | exact Const.ret _ | exact Const.fail)
          | (show Const (convStrA _); unfold convStrA; split <;> first | exact Const.ret _ | exact Const.fail)
  | makeInterface t x =>
    show Const (match P.underlying t with | _ => _)
    cases P.underlying t with
    | none => exact Const.fail
    | some d => cases d <;> first | exact Const.fail | exact Const.ite (Const.ret _) Const.fail
  | makeFunc fn first cap => cases fn <;> first | exact Const.fail | exact Const.ret _
  | slice t x lo hi mx =>
    cases mx with
    | some _ => exact Const.fail
    | none =>
      show Const (match P.underlying t with | _ => _)
      cases P.underlying t with
      | none => exact Const.fail
      | some d =>
        cases d <;> first
          | exact Const.fail
          | (show Const (sliceStrA _ _ _); unfold sliceStrA; split <;> first | exact Const.fail | exact Const.need2 _ _ fun _ => Const.need2 _ _ fun _ => Const.ret _)
          | (refine Const.need _ _ fun _ => ?_; unfold sliceA; split <;> first | exact Const.fail | (refine Const.need2 _ _ fun _ => Const.need2 _ _ fun _ => Const.ite ?_ Const.fail; split <;> first | exact Const.ret _ | exact Const.fail | exact Const.ite (Const.ret _) Const.fail))
  | fieldAddr s x f =>
    show Const (match P.underlying s with | _ => _)
    cases P.underlying s with
    | none => exact Const.fail
    | some d =>
      cases d <;> first
        | exact Const.fail
        | (refine Const.need _ _ fun fl => ?_
           cases sizeA P fl.type with
           | none => exact Const.fail
           | some n =>
             cases n with
             | zero => exact Const.fail
             | succ n => show Const (fieldAddrA _ _); unfold fieldAddrA; split <;> first | exact Const.ret _ | exact Const.fail)
  | field t x f =>
    show Const (match P.underlying t with | _ => _)
    cases P.underlying t with
    | none => exact Const.fail
    | some d =>
      cases d <;> first
        | exact Const.fail
        | exact Const.need _ _ fun fl => Const.need _ _ fun k => by unfold fieldA; split <;> first | exact Const.partA _ _ _ | exact Const.fail
  | indexAddr t x i =>
    show Const (match P.underlying t with | _ => _)
    cases P.underlying t with
    | none => exact Const.fail
    | some d =>
      cases d <;> first
        | exact Const.fail
        | exact Const.need _ _ fun n => by unfold indexAddrA; split <;> first | exact Const.ite (Const.ret _) Const.fail | exact Const.fail
        | exact Const.need _ _ fun n => by unfold indexArrAddrA; split <;> first | exact Const.ite (Const.ret _) Const.fail | exact Const.fail
  | index t x i =>
    show Const (match P.underlying t with | _ => _)
    cases P.underlying t with
    | none => exact Const.fail
    | some d =>
      cases d <;> first
        | exact Const.fail
        | (show Const (indexStrA _ _); unfold indexStrA; split <;> first | exact Const.ite (Const.liftO _) Const.fail | exact Const.fail)
        | exact Const.need _ _ fun n => Const.need _ _ fun k => by unfold indexA; split <;> first | exact Const.ite (Const.partA _ _ _) Const.fail | exact Const.fail
  | extract t i => show Const (extractA _ _); unfold extractA; split <;> first | exact Const.liftO _ | exact Const.fail
  | call c =>
    obtain ⟨cal, as, ts⟩ := c
    cases cal with
    | value f => simp [classOf] at h
    | invoke r m => simp [classOf] at h
    | builtin b =>
      show Const (builtinA P b ts (as.toList.map ρ))
      generalize as.toList.map ρ = l
      cases b <;> simp only [classOf, reduceCtorEq] at h
      · rcases l with _ | ⟨x, _ | ⟨y, l⟩⟩
        · exact Const.fail
        · show Const (match (ts[0]?).bind P.underlying with | some .string => lenStrA x | some (.slice _) => lenA x | _ => Eng.fail)
          cases (ts[0]?).bind P.underlying with
          | none => exact Const.fail
          | some d =>
            cases d <;> first
              | exact Const.fail
              | (show Const (lenA _); unfold lenA; split <;> first | exact Const.ret _ | exact Const.fail)
              | (show Const (lenStrA _); unfold lenStrA; split <;> first | exact Const.ret _ | exact Const.fail)
        · exact Const.fail
      · rcases l with _ | ⟨x, _ | ⟨y, _ | ⟨z, l⟩⟩⟩
        · exact Const.fail
        · exact Const.fail
        · show Const (max2A _ _); unfold max2A; split <;> first | exact Const.ret _ | exact Const.fail
        · exact Const.fail
      · rcases l with _ | ⟨x, _ | ⟨y, _ | ⟨z, l⟩⟩⟩
        · exact Const.fail
        · exact Const.fail
        · show Const (min2A _ _); unfold min2A; split <;> first | exact Const.ret _ | exact Const.fail
        · exact Const.fail
  | _ => simp [classOf] at h

/-! ### what only reads -/
def Reads (m : AM Value) : Prop := ∀ σ v τ, m σ = some (v, τ) → τ = σ
theorem Reads.fail : Reads fail := by intro σ u τ h; exact (fail_none h).elim
theorem toStrA_reads (x : Value) : Reads (toStrA x) := by
  intro σ v τ h
  unfold toStrA at h
  split at h
  · simp only [Option.some.injEq, Prod.mk.injEq] at h; exact h.2.symm
  · split at h
    · split at h
      · simp only [Option.some.injEq, Prod.mk.injEq] at h; exact h.2.symm
      · cases h
    · cases h
  · cases h
theorem read_same {call : FuncId → List Value → AM Value} {o : Oper} {ρ : Operand → Value} (h : classOf P o.op = .read) : Reads (execA P call o ρ) := by
  unfold execA
  generalize o.op = op at h
  cases op with
  | load t x =>
    intro σ v τ h
    obtain ⟨k, _, h⟩ := need_some h
    unfold loadA at h
    split at h
    · split at h
      · simp only [Option.some.injEq, Prod.mk.injEq] at h; exact h.2.symm
      · cases h
    · split at h
      · simp only [Option.some.injEq, Prod.mk.injEq] at h; exact h.2.symm
      · cases h
    · cases h
  | lookup t x i ok =>
    show Reads (match P.underlying t with | _ => _)
    cases P.underlying t with
    | none => exact Reads.fail
    | some d =>
      cases d <;> first
        | exact Reads.fail
        | skip
      case map kt e =>
        show Reads (match P.underlying kt with | _ => _)
        cases P.underlying kt with
        | none => exact Reads.fail
        | some dk =>
          cases dk <;> first
            | exact Reads.fail
            | skip
          intro σ v τ h
          obtain ⟨z, _, h⟩ := need_some h
          unfold lookupA at h
          split at h
          · simp only at h
            split at h
            · simp only [Option.some.injEq, Prod.mk.injEq] at h; exact h.2.symm
            · simp only [Option.some.injEq, Prod.mk.injEq] at h; exact h.2.symm
            · cases h
          · cases h
  | convert s d x =>
    simp only [classOf] at h
    show Reads (match P.underlying s, P.underlying d with | _, _ => _)
    cases hs : P.underlying s with
    | none => exact Reads.fail
    | some ds =>
      cases hd : P.underlying d with
      | none => cases ds <;> exact Reads.fail
      | some dd =>
        rw [hs, hd] at h
        cases ds <;> cases dd <;> first
          | exact Reads.fail
          | (simp at h; done)
          | skip
        case slice.string e =>
          show Reads (match P.underlying e with | _ => _)
          cases P.underlying e with
          | none => exact Reads.fail
          | some de =>
            cases de <;> first
              | exact Reads.fail
              | skip
            case int k =>
              cases k <;> first
                | exact Reads.fail
                | skip
              exact toStrA_reads _
  | call c =>
    obtain ⟨cal, as, ts⟩ := c
    cases cal with
    | value f => simp [classOf] at h
    | invoke r m => simp [classOf] at h
    | builtin b => cases b <;> simp [classOf] at h
  | _ => simp [classOf] at h

end Go.Proofs.Ytjmafbiklebjcaa.Eng
