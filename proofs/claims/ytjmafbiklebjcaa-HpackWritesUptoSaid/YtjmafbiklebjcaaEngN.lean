/- Functions. -/
import Derived.Test.YtjmafbiklebjcaaEngM
set_option linter.unusedVariables false
set_option linter.unusedSimpArgs false
namespace Go.Proofs.Ytjmafbiklebjcaa.Eng
variable {P : Program} {call : FuncId → List Value → AM Value}

def resOf (tmps : Array Value) : ResultVar → Sem Value
  | .tmp t => pure (tmps.getD t undef)
  | .cell a t => do loadVar t (← asAddr (tmps.getD a undef))

theorem loadVar_sound {φ : Phi} {σ τ : AW} {w : World} {t : TypeId} {k : Option Nat} {x x' v : Value} (hw : WR P φ σ w) (hk : aggOf P t = some k) (h : loadA k x σ = some (v, τ)) (hx : VR φ x x') :
    τ = σ ∧ ∃ v', (do loadVar t (← asAddr x') : Sem Value).run P w = .ok v' w ∧ VR φ v v' := by
  obtain ⟨d, i, hd, hi, ha⟩ := agg_some hk
  obtain ⟨ha1, ha2⟩ := ha w
  unfold loadA at h
  split at h
  · rename_i b off
    obtain ⟨p, hp, rfl⟩ := hx.ptr
    split at h
    · rename_i u hc
      simp only [Option.some.injEq, Prod.mk.injEq] at h
      obtain ⟨rfl, rfl⟩ := h
      obtain ⟨l', g1, g2⟩ := hw.cells hc p hp
      obtain ⟨u', k1, k2⟩ := g2 0 (by omega)
      obtain ⟨u'', k3, k4⟩ := g1.at 0 u rfl
      rw [k1] at k3; injection k3 with k3; subst k3
      refine ⟨rfl, u', ?_, k4⟩
      simp only [Nat.add_zero] at k2
      simp [asAddr, loadVar, ha1, k2]
    · cases h
  · rename_i b off n
    obtain ⟨p, hp, rfl⟩ := hx.ptr
    split at h
    · rename_i vs hc
      simp only [Option.some.injEq, Prod.mk.injEq] at h
      obtain ⟨rfl, rfl⟩ := h
      obtain ⟨l', g1, g2⟩ := hw.loadCells hc p hp
      refine ⟨rfl, .agg l'.toArray, ?_, VR.agg_mk (by simpa using g1)⟩
      simp [asAddr, loadVar, ha1, run_size hi, ha2 n rfl, g2]
    · cases h
  · cases h

theorem collect_sound {φ : Phi} {e : Env} {tmps : Array Value} (her : ER φ e tmps) {r : Value × AW} {σ : AW} {w : World} (hw : WR P φ σ w) : ∀ (l : List ResultVar) (K : List Value → AM Value), collect P l e K σ = some r →
    ∃ vs us, (l.mapM (resOf tmps)).run P w = .ok us w ∧ VRs φ vs us ∧ K vs σ = some r
  | [], K, h => ⟨[], [], rfl, VRs.nil, h⟩
  | .tmp t :: l, K, h => by
    obtain ⟨vs, us, h1, h2, h3⟩ := collect_sound her hw l _ h
    refine ⟨e.get t :: vs, tmps.getD t undef :: us, ?_, VRs.cons (her t) h2, h3⟩
    simp only [List.mapM_cons, resOf, Sem.run_bind, Sem.run_pure, Result.andThen, h1]
  | .cell a t :: l, K, h => by
    obtain ⟨k, hk, h⟩ := need_some h
    obtain ⟨v, τ, h1, h2⟩ := bind_some h
    obtain ⟨rfl, v', h3, h4⟩ := loadVar_sound hw hk h1 (her a)
    obtain ⟨vs, us, h5, h6, h7⟩ := collect_sound her hw l _ h2
    refine ⟨v :: vs, v' :: us, ?_, VRs.cons h4 h6, h7⟩
    simp only [List.mapM_cons]
    rw [Sem.run_bind]
    have : (resOf tmps (.cell a t)).run P w = .ok v' w := h3
    rw [this]
    simp only [Sem.run_bind, Sem.run_pure, Result.andThen, h5]

theorem results_run {fn : Func} {tmps : Array Value} {w : World} {us : List Value} (h : (fn.results.toList.mapM (resOf tmps)).run P w = .ok us w) :
    (results fn tmps).run P w = .ok (if h : us.toArray.size = 1 then us.toArray[0] else .tuple us.toArray) w := by
  have he : results fn tmps = (fn.results.mapM (resOf tmps) >>= fun vs => pure (if h : vs.size = 1 then vs[0] else .tuple vs)) := by
    unfold results
    congr 1
  rw [he, Array.mapM_eq_mapM_toList]
  simp only [Sem.run_bind, Sem.run_map, h, Result.andThen, Sem.run_pure]

theorem tupleOf_sound {φ : Phi} {vs us : List Value} (h : VRs φ vs us) {σ τ : AW} {v : Value} (ht : tupleOf vs σ = some (v, τ)) : τ = σ ∧ VR φ v (if h : us.toArray.size = 1 then us.toArray[0] else .tuple us.toArray) := by
  rcases vs with _ | ⟨x, _ | ⟨y, vs⟩⟩
  · simp only [VRs] at h
    subst h
    obtain ⟨rfl, rfl⟩ := ret_some ht
    exact ⟨rfl, by simp [VR, VRs]⟩
  · simp only [VRs] at h
    obtain ⟨x', _, rfl, h1, rfl⟩ := h
    obtain ⟨rfl, rfl⟩ := ret_some ht
    exact ⟨rfl, by simpa using h1⟩
  · have h0 := h
    simp only [VRs] at h
    obtain ⟨x', _, rfl, _, y', us, rfl, _⟩ := h
    obtain ⟨rfl, rfl⟩ := ret_some ht
    refine ⟨rfl, ?_⟩
    rw [dif_neg (by simp)]
    simp only [VR]
    exact ⟨_, rfl, h0⟩

theorem argsEnv_get : ∀ (vs : List Value) (i : Nat) (e : Env) (t : Nat), (argsEnv i vs e).get t = if i ≤ t then (match vs[t - i]? with | some v => v | none => e.get t) else e.get t
  | [], i, e, t => by simp [argsEnv]
  | v :: vs, i, e, t => by
    rw [argsEnv, argsEnv_get vs (i + 1) _ t]
    by_cases h : i = t
    · subst h
      have h1 : ¬ i + 1 ≤ i := by omega
      simp [Env.get, h1]
    · by_cases hlt : i ≤ t
      · have h1 : i + 1 ≤ t := by omega
        have h2 : t - i = (t - (i + 1)) + 1 := by omega
        simp only [h1, hlt, if_true, h2, List.getElem?_cons_succ]
        cases vs[t - (i + 1)]? <;> simp [Env.get, h]
      · have h1 : ¬ i + 1 ≤ t := by omega
        simp [h1, hlt, Env.get, h]

theorem args_er {φ : Phi} {args : List Value} {args' : Array Value} (h : VRs φ args args'.toList) (n : Nat) : ER φ (argsEnv 0 args []) (args' ++ Array.replicate n undef) := by
  intro t
  rw [argsEnv_get]
  simp only [Nat.zero_le, if_true, Nat.sub_zero]
  cases hv : args[t]? with
  | none =>
    simp only [Env.get]
    exact VR_unk _ _
  | some v =>
    obtain ⟨v', h1, h2⟩ := h.at t v hv
    have hlt : t < args'.size := by
      rcases Nat.lt_or_ge t args'.size with g | g
      · exact g
      · rw [List.getElem?_eq_none (by simpa using g)] at h1; cases h1
    have : (args' ++ Array.replicate n undef).getD t undef = v' := by
      simp only [Array.getD_eq_getD_getElem?, Array.getElem?_append, hlt, if_true]
      have : args'[t]? = some v' := by simpa using h1
      rw [this]; rfl
    rw [this]
    exact h2

theorem funcA_sound (hm : P.follows .mixedOrders = true) (hc : CallsOk P call) (k : Nat) : CallsOk P (funcA P call k) := by
  intro f args σ v τ h
  unfold funcA at h
  cases hf : P.funcs[f]? with
  | none => rw [hf] at h; exact (fail_none h).elim
  | some fn =>
    rw [hf] at h
    simp only at h
    cases hb : fn.body with
    | none => rw [hb] at h; exact (fail_none h).elim
    | some body =>
      rw [hb] at h
      simp only at h
      split at h
      · rename_i hok
        simp only [Bool.and_eq_true, Bool.not_eq_true'] at hok
        refine ⟨⟨fn, rfl, by simp [hb], hok.2⟩, fun φ w args' hw hv => ?_⟩
        refine calls_of_wp hf hb (wp_mono (runC_sound hm hc k fn.ntmps body none _ _ _ (v, τ) σ φ _ w body rfl hok.1 (by simp; omega) h ⟨args_er hv _, hw⟩) fun q a' w' ⟨f1, ψ, e', υ, s1, s2, s3⟩ => ?_)
        have fin : collect P fn.results.toList e' tupleOf υ = some (v, τ) → a'.defers = [] ∧ ∃ v', (results fn a'.tmps).run P w' = .ok v' w' ∧ ∃ ψ v'', Ending.returned v' = .returned v'' ∧ VR ψ v v'' ∧ WR P ψ τ w' ∧ FR φ σ w ψ τ w' := fun s3 => by
          obtain ⟨vs, us, h1, h2, h3⟩ := collect_sound s1.er s1.wr _ _ s3
          obtain ⟨rfl, h4⟩ := tupleOf_sound h2 h3
          exact ⟨s2.defers, _, results_run h1, ψ, _, rfl, h4, s1.wr, s2.fr⟩
        cases q with
        | normal => exact fin s3
        | ret => exact fin s3
        | exit id => exact (fail_none s3).elim
        | goto l => exact (fail_none s3).elim
        | panic _ => exact f1.elim
        | outgrown => exact f1.elim
      · exact (fail_none h).elim

theorem callN_sound (hm : P.follows .mixedOrders = true) : ∀ n, CallsOk P (callN P n)
  | 0 => fun _ _ _ _ _ h => (fail_none h).elim
  | n + 1 => funcA_sound hm (callN_sound hm n) n
end Go.Proofs.Ytjmafbiklebjcaa.Eng
