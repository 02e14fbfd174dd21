/- Structs compared. -/
import Derived.Test.YtjmafbiklebjcaaEngX
import Derived.Laws.StructEq
set_option linter.unusedVariables false
set_option linter.unusedSimpArgs false
namespace Go.Proofs.Ytjmafbiklebjcaa.Eng
section
variable {P : Program} {α β : Type}
theorem purely_pure (a : α) : purely P (Pure.pure a : Sem α) = some a := rfl
theorem purely_bind : ∀ (m : Sem α) (f : α → Sem β), purely P (m >>= f) = (purely P m).bind fun a => purely P (f a)
  | .pure a, f => rfl
  | .program k, f => by
    show purely P ((k P).bind f) = _
    exact purely_bind (k P) f
  | .load _ _ _, _ => rfl
  | .store _ _ _ _, _ => rfl
  | .new _ _, _ => rfl
  | .shape _ _, _ => rfl
  | .freeze _ _ _, _ => rfl
  | .frozen _ _, _ => rfl
  | .getObj _ _, _ => rfl
  | .setObj _ _ _, _ => rfl
  | .choose _ _, _ => rfl
  | .sys _ _, _ => rfl
  | .mark _ _, _ => rfl
  | .halt _, _ => rfl
theorem purely_program : purely P program = some P := rfl
theorem purely_ite {c : Prop} [Decidable c] (a b : Sem α) : purely P (if c then a else b) = if c then purely P a else purely P b := by split <;> rfl
theorem purely_underlying {t : TypeId} {d : TypeDesc} (h : P.underlying t = some d) : purely P (underlying t) = some d := by
  simp only [underlying, purely_bind, purely_program, Option.bind_some, h]
  rfl
theorem purely_struct (d : Nat) (t : TypeId) (xs ys : Array Value) (ht : P.underlying t = some (.struct (P.fieldsOf t))) (hp : P.stoodInHeld t = false) :
    purely P (Op.equalIn (d + 1) t (.agg xs) (.agg ys)) = purely P (Op.eqFields d xs ys (P.fieldsOf t).toList) := by
  simp only [Op.equalIn, purely_bind, purely_underlying ht, Option.bind_some, purely_program, hp, Bool.false_eq_true, if_false]
  rw [← Array.forIn_toList]
  generalize (P.fieldsOf t).toList = fs
  clear ht
  induction fs with
  | nil => rfl
  | cons f fs ih =>
    simp only [List.forIn_cons, Op.eqFields, purely_bind, purely_ite]
    split
    · generalize purely P (part f.type xs f.offset) = r1
      cases r1 with
      | none => rfl
      | some a =>
        simp only [Option.bind_some]
        generalize purely P (part f.type ys f.offset) = r2
        cases r2 with
        | none => rfl
        | some b =>
          simp only [Option.bind_some]
          generalize purely P (Op.equalIn d f.type a b) = r3
          cases r3 with
          | none => rfl
          | some r =>
            cases r
            · rfl
            · simp only [Option.bind_some, Bool.not_true, Bool.false_eq_true, if_false, purely_pure]
              exact ih
    · simp only [purely_pure, Option.bind_some]
      exact ih
theorem purely_eqStr (d : Nat) (t : TypeId) (a b : ByteArray) (h : P.underlying t = some .string) : purely P (Op.equalIn (d + 1) t (.string a) (.string b)) = some (a.toList == b.toList) := by
  simp only [Op.equalIn, purely_bind, purely_underlying h, Option.bind_some, purely_pure, beq_toListBytes]
theorem purely_eqBool (d : Nat) (t : TypeId) (a b : Bool) (h : P.underlying t = some .bool) : purely P (Op.equalIn (d + 1) t (.bool a) (.bool b)) = some (a == b) := by
  simp only [Op.equalIn, purely_bind, purely_underlying h, Option.bind_some, purely_pure]
theorem purely_eqInt (d : Nat) (t : TypeId) (k k' : IntKind) (a b : Int) (h : P.underlying t = some (.int k')) : purely P (Op.equalIn (d + 1) t (.int k a) (.int k b)) = some (a == b) := by
  simp only [Op.equalIn, purely_bind, purely_underlying h, Option.bind_some, if_true, purely_pure]
theorem toList_strOf (a b : List UInt8) : ((strOf a).toList == (strOf b).toList) = decide (a = b) := by
  have e1 : (strOf a).toList = a := by rw [ByteArray.toList_eq]; rfl
  have e2 : (strOf b).toList = b := by rw [ByteArray.toList_eq]; rfl
  rw [e1, e2]
  by_cases h : a = b <;> simp [h]
theorem purely_eql {t : TypeId} {xs ys : Array Value} {b : Bool} (hg : P.eqGuardType P.depth t = false) (ht : P.underlying t = some (.struct (P.fieldsOf t))) (hp : P.stoodInHeld t = false) (h : purely P (Op.eqFields 9999 xs ys (P.fieldsOf t).toList) = some b) :
    purely P (do eqGuard .eql t (.tmp 0) (.tmp 0) (.agg xs) (.agg ys); binOp .eql t (.agg xs) (.agg ys)) = some (.bool b) := by
  have h1 : purely P (eqGuard .eql t (.tmp 0) (.tmp 0) (.agg xs) (.agg ys)) = some () := by
    simp only [eqGuard, Bool.not_true, Bool.false_eq_true, if_false, purely_bind, purely_program, Option.bind_some, hg, Bool.not_false, if_true]
    rfl
  rw [purely_bind, h1, Option.bind_some]
  have h2 : binOp .eql t (.agg xs) (.agg ys) = (do let b ← Op.equal t (.agg xs) (.agg ys); Pure.pure (.bool b)) := rfl
  rw [h2, purely_bind]
  have h3 : Op.equal t (.agg xs) (.agg ys) = Op.equalIn (9999 + 1) t (.agg xs) (.agg ys) := rfl
  rw [h3, purely_struct 9999 t xs ys ht hp, h]
  rfl
theorem purely_neq {t : TypeId} {xs ys : Array Value} {b : Bool} (hg : P.eqGuardType P.depth t = false) (ht : P.underlying t = some (.struct (P.fieldsOf t))) (hp : P.stoodInHeld t = false) (h : purely P (Op.eqFields 9999 xs ys (P.fieldsOf t).toList) = some b) :
    purely P (do eqGuard .neq t (.tmp 0) (.tmp 0) (.agg xs) (.agg ys); binOp .neq t (.agg xs) (.agg ys)) = some (.bool !b) := by
  have h1 : purely P (eqGuard .neq t (.tmp 0) (.tmp 0) (.agg xs) (.agg ys)) = some () := by
    simp only [eqGuard, Bool.not_true, Bool.false_eq_true, if_false, purely_bind, purely_program, Option.bind_some, hg, Bool.not_false, if_true]
    rfl
  rw [purely_bind, h1, Option.bind_some]
  have h2 : binOp .neq t (.agg xs) (.agg ys) = (do let b ← Op.equal t (.agg xs) (.agg ys); Pure.pure (.bool !b)) := rfl
  rw [h2, purely_bind]
  have h3 : Op.equal t (.agg xs) (.agg ys) = Op.equalIn (9999 + 1) t (.agg xs) (.agg ys) := rfl
  rw [h3, purely_struct 9999 t xs ys ht hp, h]
  rfl
end
end Go.Proofs.Ytjmafbiklebjcaa.Eng
