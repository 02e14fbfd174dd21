/- Each operation of the abstract machine stands for the model's. -/
import Derived.Test.YtjmafbiklebjcaaEngC
import Derived.Laws.Tables
import Derived.Laws.Append
import Derived.Laws.BytesArg
import Derived.Laws.Strings
set_option linter.unusedVariables false
set_option linter.unusedSimpArgs false
namespace Go.Proofs.Ytjmafbiklebjcaa.Eng
variable {P : Program}

def DoneV (P : Program) (φ : Phi) (σ : AW) (w : World) (v : Value) (τ : AW) (r : Result Value) : Prop :=
  ∃ ψ v' w', r = .ok v' w' ∧ VR ψ v v' ∧ WR P ψ τ w' ∧ FR φ σ w ψ τ w'
theorem DoneV.still {φ : Phi} {σ : AW} {w : World} (hw : WR P φ σ w) {v v' : Value} {r : Result Value} (hr : r = .ok v' w) (hv : VR φ v v') : DoneV P φ σ w v σ r :=
  ⟨φ, v', w, hr, hv, hw, FR.refl _ _ _⟩

theorem run_info {t : TypeId} {i : TypeInfo} (h : P.info? t = some i) (w : World) : (typeInfo t).run P w = .ok i w := by simp [typeInfo, h]
theorem run_size {t : TypeId} {i : TypeInfo} (h : P.info? t = some i) (w : World) : (sizeOf t).run P w = .ok i.size w := by simp [sizeOf, typeInfo, h]
theorem run_zero {t : TypeId} {i : TypeInfo} {z : Value} (h : P.info? t = some i) (hz : i.zero = some z) (w : World) : (zeroValue t).run P w = .ok z w := by simp [zeroValue, typeInfo, h, hz]
theorem size_some {t : TypeId} {n : Nat} (h : sizeA P t = some n) : ∃ i, P.info? t = some i ∧ i.size = n := by
  unfold sizeA at h
  cases hi : P.info? t with
  | none => simp [hi] at h
  | some i => simp [hi] at h; exact ⟨i, rfl, h⟩
theorem zero_some {t : TypeId} {z : Value} (h : zeroA P t = some z) : ∃ i, P.info? t = some i ∧ i.zero = some z ∧ flat z = true ∧ z.cells.toList.all isCell = true := by
  unfold zeroA at h
  cases hi : P.info? t with
  | none => simp [hi] at h
  | some i =>
    simp only [hi] at h
    cases hz : i.zero with
    | none => simp [hz] at h
    | some z' =>
      simp only [hz] at h
      split at h
      · rename_i hc
        injection h with h
        subst h
        simp only [Bool.and_eq_true] at hc
        exact ⟨i, rfl, hz, hc.1, hc.2⟩
      · cases h
theorem need_some {α β : Type} {o : Option α} {f : α → AM β} {σ : AW} {r : β × AW} (h : need o f σ = some r) : ∃ a, o = some a ∧ f a σ = some r := by
  unfold need at h
  cases o with
  | none => simp [fail] at h
  | some a => exact ⟨a, rfl, h⟩
theorem ret_some {α : Type} {a : α} {σ τ : AW} {b : α} (h : ret a σ = some (b, τ)) : b = a ∧ τ = σ := by
  simp [ret] at h
  exact ⟨h.1.symm, h.2.symm⟩
theorem fail_none {α : Type} {σ : AW} {r : α × AW} (h : (fail : AM α) σ = some r) : False := by simp [fail] at h

theorem agg_some {t : TypeId} {k : Option Nat} (h : aggOf P t = some k) : ∃ d i, P.underlying t = some d ∧ P.info? t = some i ∧
    ∀ w : World, (isAgg t).run P w = .ok k.isSome w ∧ (∀ n, k = some n → i.size = n) := by
  unfold aggOf at h
  cases hd : P.underlying t with
  | none => simp [hd] at h
  | some d =>
    cases hi : P.info? t with
    | none => cases d <;> simp [hd, hi] at h
    | some i =>
      refine ⟨d, i, rfl, rfl, fun w => ?_⟩
      cases d <;> simp [hd, hi] at h <;> subst h <;> simp [isAgg, run_underlying hd]

/-! ### pure ones -/
theorem pick_sound {φ : Phi} {σ τ : AW} {w : World} {c a b v c' a' b' : Value} (hw : WR P φ σ w) (h : pickA c a b σ = some (v, τ)) (hc : VR φ c c') (ha : VR φ a a') (hb : VR φ b b') :
    DoneV P φ σ w v τ ((do pure (if ← asBool c' then a' else b') : Sem Value).run P w) := by
  unfold pickA at h
  split at h
  · obtain ⟨rfl, rfl⟩ := ret_some h
    simp only [VR] at hc; subst hc
    exact .still hw (by simp [asBool]) ha
  · obtain ⟨rfl, rfl⟩ := ret_some h
    simp only [VR] at hc; subst hc
    exact .still hw (by simp [asBool]) hb
  · exact (fail_none h).elim

theorem liftO_some {α : Type} {o : Option α} {σ τ : AW} {a : α} (h : liftO o σ = some (a, τ)) : o = some a ∧ τ = σ := by
  unfold liftO at h
  cases o with
  | none => simp at h
  | some b => simp at h; exact ⟨by rw [h.1], h.2.symm⟩
theorem need2_some {α β : Type} {o : Option α} {f : α → AM β} {σ : AW} {r : β × AW} (h : need2 o f σ = some r) : ∃ a, o = some a ∧ f a σ = some r := by
  unfold need2 at h
  cases o with
  | none => simp [fail] at h
  | some a => exact ⟨a, rfl, h⟩
theorem VR.ptr {φ : Phi} {b o : Nat} {v : Value} (h : VR φ (.pointer (some ⟨b, o, none⟩)) v) : ∃ p, φ b = some p ∧ v = .pointer (some ⟨p.blk, p.off + o, none⟩) := by
  simp only [VR] at h
  obtain ⟨p, h1, _, h2⟩ := h
  exact ⟨p, h1, h2⟩
theorem VR.ptr_mk {φ : Phi} {b o : Nat} {p : Place} (h : φ b = some p) : VR φ (.pointer (some ⟨b, o, none⟩)) (.pointer (some ⟨p.blk, p.off + o, none⟩)) := by
  simp only [VR]
  exact ⟨p, h, trivial, rfl⟩

theorem fieldAddr_sound {φ : Phi} {σ τ : AW} {w : World} {s : TypeId} {x x' v : Value} {f : Nat} {fs : Array Field} {fl : Field} {n : Nat} (hw : WR P φ σ w) (hu : P.underlying s = some (.struct fs)) (hf : fs[f]? = some fl)
    (hn : sizeA P fl.type = some n) (h0 : n ≠ 0) (h : fieldAddrA fl.offset x σ = some (v, τ)) (hx : VR φ x x') : DoneV P φ σ w v τ ((Instr.fieldAt s x' f).run P w) := by
  unfold fieldAddrA at h
  split at h
  · rename_i b o
    obtain ⟨rfl, rfl⟩ := ret_some h
    obtain ⟨p, h1, rfl⟩ := hx.ptr
    obtain ⟨i, hi, hsz⟩ := size_some hn
    refine .still hw (v' := .pointer (some ⟨p.blk, p.off + (o + fl.offset), none⟩)) ?_ (VR.ptr_mk h1)
    simp [Instr.fieldAt, run_underlying hu, hf, Instr.sureAddr, fieldPlace, run_size hi, hsz, h0, add_off, Nat.add_assoc]
  · exact (fail_none h).elim

theorem indexAddr_sound {φ : Phi} {σ τ : AW} {w : World} {t e : TypeId} {x i x' i' v : Value} {n : Nat} (hw : WR P φ σ w) (hu : P.underlying t = some (.slice e)) (hn : sizeA P e = some n)
    (h : indexAddrA n x i σ = some (v, τ)) (hx : VR φ x x') (hi : VR φ i i') : DoneV P φ σ w v τ ((Instr.indexAt t x' i').run P w) := by
  unfold indexAddrA at h
  split at h
  · rename_i b o z len cap k m
    split at h
    · rename_i hb
      obtain ⟨rfl, rfl⟩ := ret_some h
      simp only [VR] at hi; subst hi
      obtain ⟨ie, hie, hsz⟩ := size_some hn
      simp only [VR] at hx
      rcases hx with ⟨p, c', z', h1, h2, _, _, rfl⟩ | ⟨rfl, _⟩
      · refine .still hw (v' := .pointer (some ⟨p.blk, p.off + (o + m.toNat * n), none⟩)) ?_ (VR.ptr_mk h1)
        have hel : P.elem t = e := by simp [Program.elem, hu]
        rw [run_indexAt_slice w t _ len c' k m (by rw [hel]; exact hu), if_pos hb, hel, run_size hie]
        simp [hsz, add_off, Nat.add_assoc]
      · have h1 := hb.1; have h2 := hb.2; simp at h2; omega
    · exact (fail_none h).elim
  · exact (fail_none h).elim

theorem indexArrAddr_sound {φ : Phi} {σ τ : AW} {w : World} {t e : TypeId} {x i x' i' v : Value} {n len : Nat} (hw : WR P φ σ w) (hu : P.underlying t = some (.array len e)) (hn : sizeA P e = some n)
    (h : indexArrAddrA len n x i σ = some (v, τ)) (hx : VR φ x x') (hi : VR φ i i') : DoneV P φ σ w v τ ((Instr.indexAt t x' i').run P w) := by
  unfold indexArrAddrA at h
  split at h
  · rename_i b o k m
    split at h
    · rename_i hb
      obtain ⟨rfl, rfl⟩ := ret_some h
      simp only [VR] at hi; subst hi
      obtain ⟨ie, hie, hsz⟩ := size_some hn
      obtain ⟨p, h1, rfl⟩ := hx.ptr
      refine .still hw (v' := .pointer (some ⟨p.blk, p.off + (o + m.toNat * n), none⟩)) ?_ (VR.ptr_mk h1)
      have hel : P.elem t = e := by simp [Program.elem, hu]
      have hal : P.arrayLen t = len := by simp [Program.arrayLen, hu]
      rw [run_indexAt_array w t _ k m (by rw [hel, hal]; exact hu), hal, if_pos hb, hel, run_size hie]
      simp [hsz, add_off, Nat.add_assoc]
    · exact (fail_none h).elim
  · exact (fail_none h).elim

theorem part_sound {φ : Phi} {σ τ : AW} {w : World} {t : TypeId} {k : Option Nat} {cs cs' : Array Value} {off : Nat} {v : Value} (hw : WR P φ σ w) (hk : aggOf P t = some k) (h : partA k cs.toList off σ = some (v, τ))
    (hc : VRs φ cs.toList cs'.toList) : DoneV P φ σ w v τ ((part t cs' off).run P w) := by
  obtain ⟨d, i, hd, hi, ha⟩ := agg_some hk
  obtain ⟨ha1, ha2⟩ := ha w
  unfold partA at h
  cases k with
  | none =>
    obtain ⟨hu, rfl⟩ := liftO_some h
    obtain ⟨u', g1, g2⟩ := hc.at _ _ hu
    refine .still hw (v' := u') ?_ g2
    have g1' : cs'[off]? = some u' := by simpa using g1
    simp [part, ha1, g1']
  | some n =>
    obtain ⟨rfl, rfl⟩ := ret_some h
    refine .still hw (v' := .agg (cs'.extract off (off + n))) ?_ ?_
    · simp [part, ha1, run_size hi, ha2 n rfl]
    · refine VR.agg_mk ?_
      have e2 : (cs'.extract off (off + n)).toList = (cs'.toList.drop off).take n := by simp
      rw [e2]
      simpa using (hc.drop off).take n

theorem field_sound {φ : Phi} {σ τ : AW} {w : World} {s : TypeId} {x x' v : Value} {f : Nat} {fs : Array Field} {fl : Field} {k : Option Nat} (hw : WR P φ σ w) (hu : P.underlying s = some (.struct fs)) (hf : fs[f]? = some fl)
    (hk : aggOf P fl.type = some k) (h : fieldA k fl.offset x σ = some (v, τ)) (hx : VR φ x x') : DoneV P φ σ w v τ ((Instr.field s x' f).run P w) := by
  unfold fieldA at h
  split at h
  · rename_i cs
    obtain ⟨cs', rfl, hc⟩ := hx.agg_form
    obtain ⟨ψ, v', w', g1, g2⟩ := part_sound hw hk h hc
    exact ⟨ψ, v', w', by simp [Instr.field, run_underlying hu, hf, asAgg, g1], g2⟩
  · exact (fail_none h).elim

theorem index_sound {φ : Phi} {σ τ : AW} {w : World} {t e : TypeId} {x i x' i' v : Value} {n len : Nat} {k : Option Nat} (hw : WR P φ σ w) (hu : P.underlying t = some (.array len e)) (hn : sizeA P e = some n) (hk : aggOf P e = some k)
    (h : indexA len n k x i σ = some (v, τ)) (hx : VR φ x x') (hi : VR φ i i') : DoneV P φ σ w v τ ((Instr.index t x' i').run P w) := by
  unfold indexA at h
  split at h
  · rename_i cs j m
    split at h
    · rename_i hb
      simp only [VR] at hi; subst hi
      obtain ⟨cs', rfl, hc⟩ := hx.agg_form
      obtain ⟨ie, hie, hsz⟩ := size_some hn
      obtain ⟨ψ, v', w', g1, g2⟩ := part_sound hw hk h hc
      refine ⟨ψ, v', w', ?_, g2⟩
      simp [Instr.index, asIntOf, run_underlying hu, hb, run_size hie, hsz, g1]
    · exact (fail_none h).elim
  · exact (fail_none h).elim

theorem indexStr_sound {φ : Phi} {σ τ : AW} {w : World} {t : TypeId} {x i x' i' v : Value} (hw : WR P φ σ w) (hu : P.underlying t = some .string)
    (h : indexStrA x i σ = some (v, τ)) (hx : VR φ x x') (hi : VR φ i i') : DoneV P φ σ w v τ ((Instr.index t x' i').run P w) := by
  unfold indexStrA at h
  split at h
  · rename_i s j m
    split at h
    · rename_i h0
      obtain ⟨hb, rfl⟩ := liftO_some h
      obtain ⟨b, hb1, rfl⟩ := Option.map_eq_some_iff.1 hb
      simp only [VR] at hi hx; subst hi; subst hx
      refine .still hw (v' := .int .u8 b.toNat) ?_ (by simp [VR])
      simp [Instr.index, asIntOf, run_underlying hu, h0, hb1]
    · exact (fail_none h).elim
  · exact (fail_none h).elim

theorem extract_sound {φ : Phi} {σ τ : AW} {w : World} {x x' v : Value} {i : Nat} (hw : WR P φ σ w) (h : extractA x i σ = some (v, τ)) (hx : VR φ x x') : DoneV P φ σ w v τ ((Instr.extract x' i).run P w) := by
  unfold extractA at h
  split at h
  · rename_i cs
    obtain ⟨hu, rfl⟩ := liftO_some h
    obtain ⟨cs', rfl, hc⟩ := hx.tuple_form
    obtain ⟨u', g1, g2⟩ := hc.at i v (by simpa using hu)
    refine .still hw (v' := u') ?_ g2
    have g1' : cs'[i]? = some u' := by simpa using g1
    simp [Instr.extract, g1']
  · exact (fail_none h).elim

/-! ### slices -/
def Opt2 (φ : Phi) (x y : Option Value) : Prop := match x, y with
  | none, none => True
  | some v, some v' => VR φ v v'
  | _, _ => False
theorem bound_some {φ : Phi} {x : Option Value} {y : Option Value} {d m h : Nat} (hb : bound x d m = some h) (hxy : Opt2 φ x y) :
    (x = none ∧ y = none ∧ h = d) ∨ (∃ k n, y = some (.int k n) ∧ 0 ≤ n ∧ n ≤ (m : Int) ∧ h = n.toNat) := by
  unfold bound at hb
  split at hb
  · injection hb with hb
    cases y with
    | none => exact .inl ⟨rfl, rfl, hb.symm⟩
    | some v => simp [Opt2] at hxy
  · rename_i k n
    split at hb
    · rename_i hc
      injection hb with hb
      cases y with
      | none => simp [Opt2] at hxy
      | some v =>
        simp only [Opt2, VR] at hxy
        subst hxy
        exact .inr ⟨k, n, rfl, hc.1, hc.2, hb.symm⟩
    · cases hb
  · cases hb
theorem run_bound {w : World} {k : IntKind} {n : Int} {m : Nat} {code : BoundsCode} (h0 : 0 ≤ n) (h1 : n ≤ (m : Int)) : (Instr.sliceBound (.int k n) m code).run P w = .ok n.toNat w := by
  simp [Instr.sliceBound, asIntOf, h0, h1]
theorem run_bounds {φ : Phi} {w : World} {lo hi lo' hi' : Option Value} {len cap cap' h l : Nat} {b : Bool} (hh : bound hi len cap = some h) (hl : bound lo 0 h = some l) (hcap : cap ≤ cap')
    (hhi : Opt2 φ hi hi') (hlo : Opt2 φ lo lo') : (Instr.sliceBounds b len cap' lo' hi' none).run P w = .ok (l, h, cap') w := by
  rcases bound_some hh hhi with ⟨_, e1, e2⟩ | ⟨k, n, e1, e2, e3, e4⟩ <;> rcases bound_some hl hlo with ⟨_, f1, f2⟩ | ⟨j, m, f1, f2, f3, f4⟩ <;> subst_vars
  · simp [Instr.sliceBounds]
  · simp [Instr.sliceBounds, run_bound f2 f3]
  · simp [Instr.sliceBounds, run_bound e2 (show n ≤ (cap' : Int) by omega)]
  · simp [Instr.sliceBounds, run_bound e2 (show n ≤ (cap' : Int) by omega), run_bound f2 f3]
theorem bound_le {φ : Phi} {x y : Option Value} {m l : Nat} (hl : bound x 0 m = some l) (hxy : Opt2 φ x y) : l ≤ m := by
  rcases bound_some hl hxy with ⟨_, _, rfl⟩ | ⟨k, n, _, h1, h2, rfl⟩ <;> omega

theorem slice_sound {φ : Phi} {σ τ : AW} {w : World} {t e : TypeId} {x x' v : Value} {lo hi lo' hi' : Option Value} {n : Nat} (hw : WR P φ σ w) (hu : P.underlying t = some (.slice e)) (hn : sizeA P e = some n)
    (h : sliceA n x lo hi σ = some (v, τ)) (hx : VR φ x x') (hhi : Opt2 φ hi hi') (hlo : Opt2 φ lo lo') : DoneV P φ σ w v τ ((Instr.sliceAt t x' lo' hi' none).run P w) := by
  unfold sliceA at h
  split at h
  · rename_i a len cap
    obtain ⟨hh, hbh, h0⟩ := need2_some h
    obtain ⟨ll, hbl, h00⟩ := need2_some h0
    clear h h0
    have h := h00
    clear h00
    split at h
    · rename_i hcap
      obtain ⟨ie, hie, hs⟩ := size_some hn
      have hlh : ll ≤ hh := bound_le hbl hlo
      split at h
      · obtain ⟨rfl, rfl⟩ := ret_some h
        simp only [VR] at hx; subst hx
        refine .still hw (v' := .slice none (hh - ll) (cap - ll)) ?_ ?_
        · simp [Instr.sliceAt, Instr.slice, run_underlying hu, run_bounds hbh hbl (Nat.le_refl cap) hhi hlo, run_size hie]
        · simp [VR]
      · rename_i b o z
        split at h
        · rename_i hz
          subst hz
          obtain ⟨rfl, rfl⟩ := ret_some h
          simp only [VR] at hx
          have hrun : ∀ (a' : Addr) (c' : Nat), cap ≤ c' → (Instr.sliceAt t (.slice (some a') len c') lo' hi' none).run P w =
              .ok (.slice (some (if c' = ll then a' else a'.add (ll * z))) (hh - ll) (c' - ll)) w := by
            intro a' c' hc'
            simp only [Instr.sliceAt, Instr.slice, Sem.run_bind, run_underlying hu, Result.andThen_ok, run_bounds hbh hbl hc' hhi hlo, run_size hie, hs, Sem.run_pure, Option.map_some]
            split <;> rfl
          rcases hx with ⟨p, c', z', h1, h2, h3, h4, rfl⟩ | ⟨rfl, rfl, a', rfl⟩
          · simp at h2; subst h2
            refine .still hw (hrun _ c' h4) ?_
            simp only [VR]
            by_cases hc : c' = ll
            · right
              rw [if_pos hc]
              exact ⟨by omega, by omega, _, by rw [show hh - ll = 0 by omega, show c' - ll = 0 by omega]⟩
            · left
              rw [if_neg hc]
              refine ⟨p, c' - ll, z, h1, rfl, ?_, by omega, by simp [add_off, Nat.add_assoc]⟩
              have : ll * z + (c' - ll) * z = c' * z := by rw [← Nat.add_mul]; congr 1; omega
              show o + ll * z + (c' - ll) * z ≤ p.room
              have h3' : o + c' * z ≤ p.room := h3
              omega
          · refine .still hw (hrun a' 0 (Nat.le_refl _)) ?_
            simp only [VR]
            right
            exact ⟨by omega, by omega, _, by rw [show hh - ll = 0 by omega, show 0 - ll = 0 by omega]⟩
        · exact (fail_none h).elim
      · exact (fail_none h).elim
    · exact (fail_none h).elim
  · exact (fail_none h).elim

theorem sliceStr_sound {φ : Phi} {σ τ : AW} {w : World} {t : TypeId} {x x' v : Value} {lo hi lo' hi' : Option Value} (hw : WR P φ σ w) (hu : P.underlying t = some .string)
    (h : sliceStrA x lo hi σ = some (v, τ)) (hx : VR φ x x') (hhi : Opt2 φ hi hi') (hlo : Opt2 φ lo lo') : DoneV P φ σ w v τ ((Instr.sliceAt t x' lo' hi' none).run P w) := by
  unfold sliceStrA at h
  split at h
  · rename_i s
    obtain ⟨hh, hbh, h⟩ := need2_some h
    obtain ⟨ll, hbl, h⟩ := need2_some h
    obtain ⟨rfl, rfl⟩ := ret_some h
    simp only [VR] at hx; subst hx
    refine .still hw (v' := .string (s.extract ll hh)) ?_ (by simp [VR])
    simp [Instr.sliceAt, Instr.slice, run_underlying hu, run_bounds hbh hbl (Nat.le_refl _) hhi hlo]
  · exact (fail_none h).elim

/-! ### lengths, arithmetic, conversions -/
theorem slice_form {φ : Phi} {a : Option Addr} {n c : Nat} {x' : Value} (hx : VR φ (.slice a n c) x') : ∃ a' c', x' = .slice a' n c' := by
  cases a with
  | none => simp only [VR] at hx; exact ⟨_, _, hx⟩
  | some a =>
    simp only [VR] at hx
    rcases hx with ⟨p, c', z, _, _, _, _, rfl⟩ | ⟨rfl, _, a', rfl⟩
    · exact ⟨_, _, rfl⟩
    · exact ⟨_, _, rfl⟩
theorem len_sound {φ : Phi} {σ τ : AW} {w : World} {t ty e : TypeId} {ts : Array TypeId} {x x' v : Value} (hw : WR P φ σ w) (ht : ts[0]? = some t) (hu : P.underlying t = some (.slice e))
    (h : lenA x σ = some (v, τ)) (hx : VR φ x x') : DoneV P φ σ w v τ ((Builtin.len_ ts ty #[x']).run P w) := by
  unfold lenA at h
  split at h
  · rename_i a n c
    obtain ⟨rfl, rfl⟩ := ret_some h
    obtain ⟨a', c', rfl⟩ := slice_form hx
    refine .still hw (v' := .int .i64 n) ?_ (by simp [VR])
    simp [Builtin.len_, ht, run_underlying hu, goInt]
  · exact (fail_none h).elim
theorem lenStr_sound {φ : Phi} {σ τ : AW} {w : World} {t ty : TypeId} {ts : Array TypeId} {x x' v : Value} (hw : WR P φ σ w) (ht : ts[0]? = some t) (hu : P.underlying t = some .string)
    (h : lenStrA x σ = some (v, τ)) (hx : VR φ x x') : DoneV P φ σ w v τ ((Builtin.len_ ts ty #[x']).run P w) := by
  unfold lenStrA at h
  split at h
  · rename_i s
    obtain ⟨rfl, rfl⟩ := ret_some h
    simp only [VR] at hx; subst hx
    refine .still hw (v' := .int .i64 s.size) ?_ (by simp [VR])
    simp [Builtin.len_, ht, run_underlying hu, goInt]
  · exact (fail_none h).elim

theorem min_sound {φ : Phi} {σ τ : AW} {w : World} {ty : TypeId} {ts : Array TypeId} {x y x' y' v : Value} (hw : WR P φ σ w) (h : min2A x y σ = some (v, τ)) (hx : VR φ x x') (hy : VR φ y y') :
    DoneV P φ σ w v τ ((Builtin.min_ ts ty #[x', y']).run P w) := by
  unfold min2A at h
  split at h
  · rename_i k a _ b
    obtain ⟨rfl, rfl⟩ := ret_some h
    simp only [VR] at hx hy; subst hx; subst hy
    exact .still hw (v' := .int k (if b < a then b else a)) (by simp [Builtin.min_, Builtin.min2, List.foldlM]) (by simp [VR])
  · exact (fail_none h).elim
theorem max_sound {φ : Phi} {σ τ : AW} {w : World} {ty : TypeId} {ts : Array TypeId} {x y x' y' v : Value} (hw : WR P φ σ w) (h : max2A x y σ = some (v, τ)) (hx : VR φ x x') (hy : VR φ y y') :
    DoneV P φ σ w v τ ((Builtin.max_ ts ty #[x', y']).run P w) := by
  unfold max2A at h
  split at h
  · rename_i k a _ b
    obtain ⟨rfl, rfl⟩ := ret_some h
    simp only [VR] at hx hy; subst hx; subst hy
    exact .still hw (v' := .int k (if b > a then b else a)) (by simp [Builtin.max_, Builtin.max2, List.foldlM]) (by simp [VR])
  · exact (fail_none h).elim

theorem un_sound {φ : Phi} {σ τ : AW} {w : World} {op : UnOp} {x x' v : Value} (hw : WR P φ σ w) (h : unA op x σ = some (v, τ)) (hx : VR φ x x') : DoneV P φ σ w v τ ((Op.unary op x').run P w) := by
  unfold unA at h
  split at h
  · obtain ⟨rfl, rfl⟩ := ret_some h
    simp only [VR] at hx; subst hx
    exact .still hw (by simp [Op.unary, Op.intArith]; rfl) (by simp [VR])
  · obtain ⟨rfl, rfl⟩ := ret_some h
    simp only [VR] at hx; subst hx
    exact .still hw (by simp [Op.unary]; rfl) (by simp [VR])
  · exact (fail_none h).elim

theorem convInt_sound {φ : Phi} {σ τ : AW} {w : World} {s d : TypeId} {j k : IntKind} {x x' v : Value} (hw : WR P φ σ w) (hs : P.underlying s = some (.int j)) (hd : P.underlying d = some (.int k))
    (h : convIntA k x σ = some (v, τ)) (hx : VR φ x x') : DoneV P φ σ w v τ ((convert s d x').run P w) := by
  unfold convIntA at h
  split at h
  · obtain ⟨rfl, rfl⟩ := ret_some h
    simp only [VR] at hx; subst hx
    exact .still hw (by simp [convert, run_underlying hs, run_underlying hd, Conv.intToInt]; rfl) (by simp [VR])
  · exact (fail_none h).elim
theorem convStr_sound {φ : Phi} {σ τ : AW} {w : World} {s d : TypeId} {x x' v : Value} (hw : WR P φ σ w) (hs : P.underlying s = some .string) (hd : P.underlying d = some .string)
    (h : convStrA x σ = some (v, τ)) (hx : VR φ x x') : DoneV P φ σ w v τ ((convert s d x').run P w) := by
  unfold convStrA at h
  split at h
  · obtain ⟨rfl, rfl⟩ := ret_some h
    simp only [VR] at hx; subst hx
    exact .still hw (by simp [convert, run_underlying hs, run_underlying hd]; rfl) (by simp [VR])
  · exact (fail_none h).elim

theorem ofBytes_nums : ∀ {vs : List Value} {l : List UInt8}, ofBytes vs = some l → ∃ ns : List Int, vs = ns.map (Value.int .u8) ∧ l = ns.map fun n => UInt8.ofNat n.toNat
  | [], l, h => by simp [ofBytes] at h; exact ⟨[], rfl, by simp [h]⟩
  | v :: vs, l, h => by
    unfold ofBytes at h
    split at h
    · rename_i h1; cases h1
    · rename_i n vs' h1
      injection h1 with h1 h2
      subst h1; subst h2
      obtain ⟨l', h3, rfl⟩ := Option.map_eq_some_iff.1 h
      obtain ⟨ns, rfl, rfl⟩ := ofBytes_nums h3
      exact ⟨n :: ns, rfl, rfl⟩
    · cases h

theorem flatL_ints {k : IntKind} : ∀ (ns : List Int), flatL (ns.map (Value.int k)) = true
  | [] => rfl
  | n :: ns => by simp [flatL, flat, flatL_ints ns]

theorem toStr_sound {φ : Phi} {σ τ : AW} {w : World} {s d e : TypeId} {x x' v : Value} (hw : WR P φ σ w) (hs : P.underlying s = some (.slice e)) (he : P.underlying e = some (.int .u8)) (hd : P.underlying d = some .string)
    (h : toStrA x σ = some (v, τ)) (hx : VR φ x x') : DoneV P φ σ w v τ ((convert s d x').run P w) := by
  unfold toStrA at h
  split at h
  · rename_i l c
    simp only [Option.some.injEq, Prod.mk.injEq] at h
    obtain ⟨rfl, rfl⟩ := h
    simp only [VR] at hx; subst hx
    exact .still hw (run_convert_bytes_nil w s e hs he l c d hd) (by simp [VR])
  · rename_i b o len cap
    split at h
    · rename_i vs hc
      split at h
      · rename_i l hl
        simp only [Option.some.injEq, Prod.mk.injEq] at h
        obtain ⟨rfl, rfl⟩ := h
        obtain ⟨ns, rfl, rfl⟩ := ofBytes_nums hl
        have hc0 : len = 0 ∧ ns = [] ∨ σ.cells b o len = some (ns.map (Value.int .u8)) := by
          unfold AW.cells0 at hc
          by_cases h0 : len = 0
          · rw [if_pos h0] at hc
            injection hc with hc
            exact .inl ⟨h0, by cases ns with
              | nil => rfl
              | cons a l => cases hc⟩
          · rw [if_neg h0] at hc
            exact .inr hc
        have hlen : ns.length = len := by
          rcases hc0 with ⟨rfl, rfl⟩ | hc
          · rfl
          · simpa using cells_length hc
        simp only [VR] at hx
        have key : ∀ p, φ b = some p → ∀ c', (convert s d (.slice (some ⟨p.blk, p.off + o, none⟩) len c')).run P w = .ok (.string (strOfNums ns)) w := by
          intro p h1 c'
          rcases hc0 with ⟨h0, hn⟩ | hc
          · exact run_convert_bytes_arg w s e hs he p.blk (p.off + o) len c' ns hlen (fun i hi => by omega) d hd
          obtain ⟨l', g1, g2⟩ := hw.cells hc p h1
          have hl' : l' = ns.map (Value.int .u8) := VRs.flat_eq (flatL_ints ns) g1
          subst hl'
          refine run_convert_bytes_arg w s e hs he p.blk (p.off + o) len c' ns hlen (fun i hi => ?_) d hd
          obtain ⟨u, k1, k2⟩ := g2 i hi
          have : u = .int .u8 (ns.getD i 0) := by
            simp [List.getElem?_map] at k1
            obtain ⟨a, k1, rfl⟩ := k1
            simp [k1]
          subst this
          exact k2
        rcases hx with ⟨p, c', z, h1, h2, h3, h4, rfl⟩ | ⟨rfl, rfl, a', rfl⟩
        · exact .still hw (key p h1 c') (by simp [VR, strOfNums])
        · have hn : ns = [] := List.eq_nil_of_length_eq_zero hlen
          subst hn
          refine .still hw (v' := .string ByteArray.empty) ?_ (by simp [VR]; rfl)
          simp [convert, run_underlying hs, run_underlying hd, run_underlying he, Conv.bytesToString, Go.loadCells, loadCellsFrom]
      · cases h
    · cases h
  · cases h

theorem iface_sound {φ : Phi} {σ τ : AW} {w : World} {t : TypeId} {x x' v : Value} {d : TypeDesc} (hw : WR P φ σ w) (hd : P.underlying t = some d) (hni : ∀ ms, d ≠ .interface ms)
    (h : ifaceA t x σ = some (v, τ)) (hx : VR φ x x') : DoneV P φ σ w v τ ((Instr.makeInterface t x').run P w) := by
  unfold ifaceA at h
  split at h
  · obtain ⟨rfl, rfl⟩ := ret_some h
    refine .still hw (v' := .iface t x') ?_ (by simp only [VR]; exact ⟨x', rfl, hx⟩)
    simp only [Instr.makeInterface, Sem.run_bind, run_underlying hd, Result.andThen_ok]
    cases d <;> simp_all
  · exact (fail_none h).elim

end Go.Proofs.Ytjmafbiklebjcaa.Eng
