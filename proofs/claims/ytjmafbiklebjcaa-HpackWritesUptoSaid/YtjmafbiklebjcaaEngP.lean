/- From the abstract machine to the row: the contract of a law that answers true and changes nothing. -/
import Derived.Test.YtjmafbiklebjcaaEngO
import Derived.ProofKit
import Derived.JoinedCond
set_option linter.unusedVariables false
set_option linter.unusedSimpArgs false
namespace Go.Proofs.Ytjmafbiklebjcaa.Eng
open Go.ChangeShapes Go.WideShapes Go.RowKit
variable {P : Program} {H : Type}

def argOf (P : Program) (t : TypeId) (vs : List Value) : Value := match P.underlying t with
  | some (.struct _) => .agg vs.toArray
  | _ => vs.headD unk
def LaidAll (P : Program) : List TypeId → List (DataW H) → AW → List Value → AW → Prop
  | [], [], σ, args, τ => args = [] ∧ τ = σ
  | t :: ts, d :: ds, σ, args, τ => ∃ n vs σ' rest, lay P n t d σ = some (vs, σ') ∧ LaidAll P ts ds σ' rest τ ∧ args = argOf P t vs :: rest
  | _, _, _, _, _ => False

theorem laid_length : ∀ {ts : List TypeId} {ds : List (DataW H)} {σ : AW} {args : List Value} {τ : AW}, LaidAll P ts ds σ args τ → ds.length = ts.length
  | [], [], _, _, _, _ => rfl
  | t :: ts, d :: ds, _, _, _, ⟨_, _, _, _, _, h, _⟩ => by simp [laid_length h]
  | [], _ :: _, _, _, _, h => h.elim
  | _ :: _, [], _, _, _, h => h.elim

section
variable {enc : TypeId × Value → H} {W : World}

theorem arg_rel {φ : Phi} {m base : Nat} {t : TypeId} {v : Value} {vs : List Value} (hm : tyOk P m t = true) (hok : Value.okWide P W .any base t v) (h : VRs φ vs v.cells.toList) : VR φ (argOf P t vs) v := by
  cases m with
  | zero => simp [tyOk] at hm
  | succ m =>
    unfold tyOk at hm
    unfold argOf
    unfold Value.okWide at hok
    cases hu : P.underlying t with
    | none => rw [hu] at hm; cases hm
    | some d =>
      rw [hu] at hm hok
      have one : (∀ cs, v ≠ .agg cs) → VR φ (vs.headD unk) v := fun hv => by
        have hc : v.cells = #[v] := by cases v <;> first | rfl | exact absurd rfl (hv _)
        rw [hc] at h
        cases vs with
        | nil => simp [VRs] at h
        | cons u us =>
          simp only [VRs] at h
          obtain ⟨v', vs', h1, h2, _⟩ := h
          injection h1 with h1
          subst h1
          exact h2
      cases d <;> simp only [Bool.false_eq_true] at hm
      case bool => exact one fun cs hv => by subst hv; simp [Cell.okWide, Cell.ok, hu] at hok
      case int => exact one fun cs hv => by subst hv; simp [Cell.okWide, Cell.ok, hu] at hok
      case string => exact one fun cs hv => by subst hv; simp [Cell.okWide, Cell.ok, hu] at hok
      case slice => exact one fun cs hv => by subst hv; simp [Cell.okWide, Cell.ok, hu] at hok
      case struct fs =>
        obtain ⟨cs, rfl, _, _⟩ := hok
        simp only [VR]
        exact ⟨cs.toList, rfl, h⟩

theorem args_rel {m : Nat} {base : Nat} : ∀ (ts : List TypeId) (vs : List Value) (ds : List (DataW H)) (ps : List MemPlace) (φ : Phi) (σ : AW), DataW.TrodAll enc P W 0 (fun _ => true) true ts vs ds ps → (∀ t ∈ ts, tyOk P m t = true) →
    (∀ (j : Nat) t v, ts[j]? = some t → vs[j]? = some v → Value.okWide P W .any base t v) → WR P φ σ W → RO σ → ∃ args τ ψ, LaidAll P ts ds σ args τ ∧ VRs ψ args vs ∧ WR P ψ τ W ∧ RO τ ∧ φ.le ψ
  | [], vs, ds, ps, φ, σ, h, _, _, hw, hr => by
    obtain ⟨rfl, rfl, rfl⟩ := trodAll_nil h
    exact ⟨[], σ, φ, ⟨rfl, rfl⟩, VRs.nil, hw, hr, Phi.le_refl _⟩
  | t :: ts, vs, ds, ps, φ, σ, h, hm, hok, hw, hr => by
    obtain ⟨v, vs, d, ds, p, q, rfl, rfl, rfl, h1, h2⟩ := trodAll_cons h
    obtain ⟨n, h1⟩ := h1
    obtain ⟨us, σ', ψ, l1, l2, l3, l4, l5⟩ := lay_rel n m t _ d p (hm t (by simp)) h1 φ σ hw hr
    obtain ⟨args, τ, χ, k1, k2, k3, k4, k5⟩ := args_rel ts vs ds q ψ σ' h2 (fun t ht => hm t (by simp [ht])) (fun j t v h3 h4 => hok (j + 1) t v (by simpa using h3) (by simpa using h4)) l3 l4
    exact ⟨argOf P t us :: args, τ, χ, ⟨n, us, σ', args, l1, k1, rfl⟩, VRs.cons ((arg_rel (hm t (by simp)) (hok 0 t v rfl rfl) l2).mono k5) k2, k3, k4, Phi.le_trans l5 k5⟩

theorem trodAll_stays {W' : World} {sp : Nat → Bool} (hl : laidOutB P = true) : ∀ (ts : List TypeId) (vs : List Value) (ds : List (DataW H)) (ps : List MemPlace), (∀ t ∈ ts, P.readableRec t = true ∧ t < P.types.size) →
    DataW.TrodAll enc P W 0 (fun _ => true) true ts vs ds ps → (∀ p ∈ ps, W.sameAt W' p) → (∀ p ∈ ps, sp p.block = true) → DataW.TrodAll enc P W' 0 sp true ts vs ds ps
  | [], vs, ds, ps, _, h, _, _ => by
    obtain ⟨rfl, rfl, rfl⟩ := trodAll_nil h
    exact trodAll_mk0
  | t :: ts, vs, ds, ps, ht, h, h1, h2 => by
    obtain ⟨v, vs, d, ds, p, q, rfl, rfl, rfl, h3, h4⟩ := trodAll_cons h
    obtain ⟨r1, r2⟩ := ht t (by simp)
    exact ⟨p, q, WideElems.Trod_stays hl r1 r2 h3 (fun x hx => h1 x (by simp [hx])) (fun x hx => h2 x (by simp [hx])), trodAll_stays hl ts vs ds q (fun t hx => ht t (by simp [hx])) h4 (fun x hx => h1 x (by simp [hx])) fun x hx => h2 x (by simp [hx]), rfl⟩

theorem FR.below {φ ψ : Phi} {σ τ : AW} {W' : World} (h : FR φ σ W ψ τ W') (hr : RO σ) : Below W.heap.size W W' :=
  ⟨h.os, h.tape, h.output, h.size, fun k hk => (h.keep k hk fun ⟨b, o, p, h1, h2, _⟩ => by rw [hr b o h1] at h2; cases h2).1⟩

theorem post_true {f : Func} {s : ChangeSpec} {apart fresh handsOn again : Bool} {W' : World} {args : Array Value} {ds gs : List (DataW H)} {before : List MemPlace} {bt : TypeId} (hl : laidOutB P = true)
    (hty : ∀ t ∈ f.params.toList, P.readableRec t = true ∧ t < P.types.size) (hbt : f.resultTypes = #[bt]) (hub : P.underlying bt = some .bool) (hv : s.vars = []) (hs : s.fn H (ds ++ gs) = { results := [.lit (.bool true)], args := ds })
    (hW : DataW.Whole enc P f.params.toList s.vars apart W args.toList ds gs before) (hb : Below W.heap.size W W') : s.post enc P f apart fresh handsOn again W args (.bool true) W' := by
  have hlt := hW.lt
  have hW' := hW
  obtain ⟨p, q, hA, hV, rfl, hfz, hnd⟩ := hW
  rw [hv] at hV
  obtain ⟨rfl, rfl⟩ := trodVars_none hV
  have hlp : ∀ x ∈ p, x.block < W.heap.size := fun x hx => hlt x (by simp [hx])
  have hargs : ∀ sp : Nat → Bool, (∀ x ∈ p, sp x.block = true) → DataW.TrodAll enc P W' 0 sp true f.params.toList args.toList ds p := fun sp hsp =>
    trodAll_stays hl _ _ _ _ hty hA (fun x hx => hb.same (hlp x hx)) hsp
  have hres : ∀ (b : Nat) (sp : Nat → Bool) (hd : Bool), DataW.TrodAll enc P W' b sp hd f.resultTypes.toList ((Value.bool true).resultList f.resultTypes.size) [.lit (.bool true)] [] := fun b sp hd => by
    rw [hbt]
    exact trodAll_mk1 (shut_bool hub true)
  have hold : ∀ x ∈ p, (fun b => decide (b < W.heap.size)) x.block = true := fun x hx => by simpa using hlp x hx
  have hvars : ∀ sp : Nat → Bool, DataW.TrodVars enc P W' sp s.vars ([] : List (DataW H)) [] := fun sp => by rw [hv]; rfl
  refine ⟨ds, [], p ++ [], [], p, [], hW', ?_, ?_, ?_, hb.frame _, fun _ => ⟨?_, .lit (.bool true) :: ds, [], p ++ [], ⟨p, [], ?_, hvars _, rfl, ?_, ?_⟩, ?_⟩⟩
  · rw [hs]; exact hres _ _ _
  · rw [hs]; exact hargs _ hold
  · rw [hs]; exact hvars _
  · exact ok_one hbt rfl (okWide_bool_mk hub true)
  · have := trodAll_append (hargs _ fun _ _ => rfl) (hres 0 (fun _ => true) true)
    simpa using this
  · intro b off hp
    have hp' : MemPlace.cell b off ∈ p := by simpa using hp
    rw [hb.frozen (p := ⟨b, off, none⟩) (hlp _ hp')]
    exact hfz b off (by simpa using hp')
  · intro ha
    exact hnd ha
  · intro x hx _
    exact hx

/-- THE CONTRACT: what the abstract machine says of what is laid. -/
theorem contract_of {f : FuncId} {fn : Func} {s : ChangeSpec} {apart fresh handsOn again : Bool} {bt : TypeId} (hm : P.follows .mixedOrders = true) (hl : laidOutB P = true)
    (hty : (fn.params.toList.all fun t => tyOk P 8 t && P.readableRec t && decide (t < P.types.size)) = true) (hbt : fn.resultTypes = #[bt]) (hub : P.underlying bt = some .bool) (hv : s.vars = [])
    {base : Nat} {args : Array Value} {ds gs : List (DataW H)} {before : List MemPlace}
    (hs : ds.length = fn.params.toList.length → s.fn H (ds ++ []) = { results := [.lit (.bool true)], args := ds })
    (law : ∀ args τ, LaidAll P fn.params.toList ds ⟨.nil, 0⟩ args τ → ∃ k υ, callN P k f args τ = some (.bool true, υ))
    (hval : ∀ (j : Nat) t v, fn.params[j]? = some t → args[j]? = some v → Value.okWide P W .any base t v)
    (hW : DataW.Whole enc P fn.params.toList s.vars apart W args.toList ds gs before) :
    Calls P f args W fun e W' => ∃ v, e = .returned v ∧ s.post enc P fn apart fresh handsOn again W args v W' := by
  have hty' : ∀ t ∈ fn.params.toList, tyOk P 8 t = true ∧ P.readableRec t = true ∧ t < P.types.size := fun t ht => by
    have := List.all_eq_true.1 hty t ht
    simpa [and_assoc] using this
  have hW' := hW
  obtain ⟨p, q, hA, hV, rfl, hfz, hnd⟩ := hW
  rw [hv] at hV
  obtain ⟨rfl, rfl⟩ := trodVars_none hV
  have h0 : WR P (fun _ => none) ⟨.nil, 0⟩ W := ⟨fun _ _ h => (by cases h), fun _ _ h => (by cases h), fun b o h => (by cases h), fun b c x y p q h => (by cases h)⟩
  obtain ⟨as, τ, ψ, l1, l2, l3, l4, _⟩ := args_rel (m := 8) (base := base) fn.params.toList args.toList ds p _ _ hA (fun t ht => (hty' t ht).1) (fun j t v h1 h2 => hval j t v (by simpa using h1) (by simpa using h2)) h0 (fun b o h => by cases h)
  obtain ⟨k, υ, hk⟩ := law as τ l1
  refine ((callN_sound hm k f as τ _ υ hk).2 ψ W args l3 l2).mono fun e W' ⟨χ, v', he, hvr, hwr, hfr⟩ => ?_
  simp only [VR] at hvr
  subst hvr
  exact ⟨_, he, post_true hl (fun t ht => (hty' t ht).2) hbt hub hv (hs (laid_length l1)) hW' (hfr.below l4)⟩
end
end Go.Proofs.Ytjmafbiklebjcaa.Eng
