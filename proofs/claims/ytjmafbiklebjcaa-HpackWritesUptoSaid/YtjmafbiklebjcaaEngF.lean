/- New blocks, loads, stores, literals, make, append, copy, iterators. -/
import Derived.Test.YtjmafbiklebjcaaEngE
import Derived.Great.FillDense
set_option linter.unusedVariables false
set_option linter.unusedSimpArgs false
namespace Go.Proofs.Ytjmafbiklebjcaa.Eng
variable {P : Program}

theorem WR.alloc {φ : Phi} {σ : AW} {w : World} (hw : WR P φ σ w) (vs : List Value) (c : Array Value) (e : TypeId) (lo hi : Nat) (hfr : hi ≤ lo ∨ c.size ≤ lo) (hall : vs.all isCell = true) (hlen : vs.length ≤ c.size)
    (hrel : ∀ (i : Nat) (v : Value), vs[i]? = some v → ∃ v', c[i]? = some v' ∧ VR φ v v') :
    ∃ ψ, ψ σ.next = some ⟨w.heap.size, 0, c.size⟩ ∧ φ.le ψ ∧ WR P ψ (σ.push (.cells vs e false)) { w with heap := w.heap.push (.cells c e (lo, hi)) } ∧
      FR φ σ w ψ (σ.push (.cells vs e false)) { w with heap := w.heap.push (.cells c e (lo, hi)) } := by
  have hle := ext_le hw ⟨w.heap.size, 0, c.size⟩
  obtain ⟨h1, h2⟩ := hw.push (.cells vs e false) (.cells c e (lo, hi)) ⟨w.heap.size, 0, c.size⟩ rfl
    ⟨c, lo, hi, by simp, hfr, by simp, hlen, hall, fun i v hi => by
      obtain ⟨v', g1, g2⟩ := hrel i v hi
      exact ⟨v', by simpa using g1, g2.mono hle⟩⟩
  exact ⟨_, ext_new _ _ _ _, hle, h1, h2⟩

theorem run_newRow (w : World) (e : TypeId) (c : Array Value) : (newRow e c).run P w = .ok ⟨w.heap.size, 0, none⟩ { w with heap := w.heap.push (.cells c e (0, 0)) } := rfl
theorem VRs.to_at {φ : Phi} {vs : List Value} {c : Array Value} (h : VRs φ vs c.toList) : ∀ (i : Nat) (v : Value), vs[i]? = some v → ∃ v', c[i]? = some v' ∧ VR φ v v' := by
  intro i v hi
  obtain ⟨v', g1, g2⟩ := h.at i v hi
  exact ⟨v', by simpa using g1, g2⟩

theorem new_sound {φ : Phi} {σ τ : AW} {w : World} {e : TypeId} {vs : List Value} {c : Array Value} {v : Value} (hw : WR P φ σ w) (h : newA vs e σ = some (v, τ)) (hv : VRs φ vs c.toList) :
    DoneV P φ σ w v τ ((do pure (.pointer (some (← newRow e c))) : Sem Value).run P w) := by
  unfold newA at h
  split at h
  · rename_i hall
    simp only [Option.some.injEq, Prod.mk.injEq] at h
    obtain ⟨rfl, rfl⟩ := h
    obtain ⟨ψ, h1, h2, h3, h4⟩ := hw.alloc vs c e 0 0 (.inl (Nat.le_refl _)) hall (by have := hv.length; simp at this; omega) hv.to_at
    exact ⟨ψ, .pointer (some ⟨w.heap.size, 0, none⟩), _, by simp [newRow, newObj, Sem.run], by simpa using VR.ptr_mk (o := 0) h1, h3, h4⟩
  · cases h

theorem alloc_sound {φ : Phi} {σ τ : AW} {w : World} {e : TypeId} {z v : Value} (hw : WR P φ σ w) (hz : zeroA P e = some z) (h : newA z.cells.toList e σ = some (v, τ)) :
    DoneV P φ σ w v τ ((Instr.alloc e true (.tuple #[])).run P w) := by
  obtain ⟨i, hi, hz1, hz2, hz3⟩ := zero_some hz
  obtain ⟨ψ, v', w', h1, h2⟩ := new_sound (c := z.cells) hw h ((VR.flat_refl hz2).cells hz3)
  refine ⟨ψ, v', w', ?_, h2⟩
  rw [← h1]
  simp [Instr.alloc, run_zero hi hz1, newVar]

theorem box_sound {φ : Phi} {σ τ : AW} {w : World} {e : TypeId} {x x' v : Value} (hw : WR P φ σ w) (h : boxA e x σ = some (v, τ)) (hx : VR φ x x') :
    DoneV P φ σ w v τ ((Instr.box e x').run P w) := by
  have hall : x.cells.toList.all isCell = true := by
    unfold boxA newA at h
    split at h
    · assumption
    · cases h
  obtain ⟨ψ, v', w', h1, h2⟩ := new_sound (c := x'.cells) hw h (hx.cells hall)
  refine ⟨ψ, v', w', ?_, h2⟩
  rw [← h1]
  simp [Instr.box, newVar]

theorem load_sound {φ : Phi} {σ τ : AW} {w : World} {t : TypeId} {k : Option Nat} {x x' v : Value} (hw : WR P φ σ w) (hk : aggOf P t = some k) (h : loadA k x σ = some (v, τ)) (hx : VR φ x x') :
    DoneV P φ σ w v τ ((Instr.loadAt t x').run P w) := by
  obtain ⟨d, i, hd, hi, ha⟩ := agg_some hk
  obtain ⟨ha1, ha2⟩ := ha w
  unfold loadA at h
  split at h
  · rename_i b off
    obtain ⟨p, hp, rfl⟩ := hx.ptr
    split at h
    · rename_i u hc
      simp only [Option.some.injEq, Prod.mk.injEq] at h
      obtain ⟨rfl, rfl⟩ := h
      obtain ⟨l', g1, g2⟩ := hw.cells hc p hp
      obtain ⟨u', k1, k2⟩ := g2 0 (by omega)
      obtain ⟨u'', k3, k4⟩ := g1.at 0 u rfl
      rw [k1] at k3; injection k3 with k3; subst k3
      refine .still hw (v' := u') ?_ k4
      simp only [Nat.add_zero] at k2
      simp [Instr.loadAt, Instr.sureAddr, loadVar, ha1, k2]
    · cases h
  · rename_i b off n
    obtain ⟨p, hp, rfl⟩ := hx.ptr
    split at h
    · rename_i vs hc
      simp only [Option.some.injEq, Prod.mk.injEq] at h
      obtain ⟨rfl, rfl⟩ := h
      obtain ⟨l', g1, g2⟩ := hw.loadCells hc p hp
      refine .still hw (v' := .agg l'.toArray) ?_ (VR.agg_mk (by simpa using g1))
      simp [Instr.loadAt, Instr.sureAddr, loadVar, ha1, run_size hi, ha2 n rfl, g2]
    · cases h
  · cases h

theorem store_sound {φ : Phi} {σ τ : AW} {w : World} {t : TypeId} {n : Nat} {x y x' y' v : Value} (hw : WR P φ σ w) (hn : sizeA P t = some n) (h : storeA n x y σ = some (v, τ)) (hx : VR φ x x') (hy : VR φ y y') :
    ∃ w', (Instr.storeAt t x' y').run P w = .ok () w' ∧ v = .tuple #[] ∧ WR P φ τ w' ∧ FR φ σ w φ τ w' := by
  obtain ⟨i, hi, hs⟩ := size_some hn
  unfold storeA at h
  split at h
  · rename_i b off
    split at h
    · rename_i hsz
      split at h
      · rename_i σ' hst
        simp only [Option.some.injEq, Prod.mk.injEq] at h
        obtain ⟨rfl, rfl⟩ := h
        obtain ⟨p, hp, rfl⟩ := hx.ptr
        have hall : y.cells.toList.all isCell = true := by
          unfold AW.storeAt at hst
          split at hst
          · split at hst
            · rename_i hc; exact hc.2
            · cases hst
          · cases hst
        have hc := hy.cells hall
        obtain ⟨w', g1, g2, g3⟩ := hw.store hst p hp hc
        refine ⟨w', ?_, rfl, g2, g3⟩
        have hsz' : y'.cells.size = n := by
          have := hc.length
          simp only [Array.length_toList] at this
          omega
        simp [Instr.storeAt, Instr.sureAddr, storeVar, run_size hi, hs, hsz', g1]
      · cases h
    · cases h
  · cases h

/-! ### literals -/
def PartsR (φ : Phi) : List (Nat × Value) → List (Nat × Value) → Prop
  | [], l => l = []
  | x :: r, l => ∃ y l', l = y :: l' ∧ y.1 = x.1 ∧ VR φ x.2 y.2 ∧ PartsR φ r l'

theorem setFold (off : Nat) (l : Array Value) (cs : Array Value) (h : off + l.size ≤ cs.size) :
    (l.zipIdx.foldl (fun cs (x : Value × Nat) => cs.setIfInBounds (off + x.2) x.1) cs).toList = splice cs.toList off l.toList := by
  have e : l.zipIdx.foldl (fun cs (x : Value × Nat) => cs.setIfInBounds (off + x.2) x.1) cs = (l.toList.zipIdx 0).foldl (fun cs (x : Value × Nat) => cs.setIfInBounds (off + x.2) x.1) cs := by
    rw [← Array.foldl_toList]; simp
  rw [e]
  obtain ⟨g1, g2⟩ := Great.foldl_set off l.toList 0 cs
  apply List.ext_getElem?
  intro k
  rw [splice_at _ _ _ (by simpa using h)]
  have := g2 k
  simp only [Nat.add_zero] at this
  rw [Array.getElem?_toList, this]
  simp only [Array.length_toList]
  by_cases hk : off ≤ k ∧ k < off + l.size
  · rw [if_pos hk, if_pos ⟨hk.1, hk.2, by omega⟩]
  · rw [if_neg hk, if_neg (by omega)]
    simp

theorem fill_rel {φ : Phi} (place : Nat → Option (Nat × Nat)) : ∀ (parts parts' : List (Nat × Value)) (cs r : List Value) (cs' : Array Value), fillA place cs parts = some r → VRs φ cs cs'.toList → PartsR φ parts parts' →
    ∃ r' : Array Value, Instr.fill place cs' parts' = some r' ∧ VRs φ r r'.toList
  | [], parts', cs, r, cs', h, hc, hp => by
    simp only [PartsR] at hp; subst hp
    simp only [fillA, Option.some.injEq] at h; subst h
    exact ⟨cs', rfl, hc⟩
  | (i, v) :: rest, parts', cs, r, cs', h, hc, hp => by
    simp only [PartsR] at hp
    obtain ⟨⟨j, v'⟩, l', rfl, rfl, hv, hr⟩ := hp
    unfold fillA at h
    simp only at hv ⊢
    unfold Instr.fill
    cases hpl : place j with
    | none => simp [hpl] at h
    | some os =>
      obtain ⟨off, size⟩ := os
      simp only [hpl] at h ⊢
      split at h
      · rename_i hcnd
        obtain ⟨c1, c2, c3⟩ := hcnd
        have hvc := hv.cells c3
        have hl1 : v'.cells.size = size := by have := hvc.length; simp only [Array.length_toList] at this; omega
        have hl2 : cs'.size = cs.length := by have := hc.length; simpa using this
        rw [if_neg (by simp [hl1]; omega)]
        refine fill_rel place rest l' _ r _ h ?_ hr
        rw [setFold _ _ _ (by rw [hl1, hl2]; exact c2)]
        unfold splice
        have hlen : v.cells.toList.length = v'.cells.toList.length := hvc.length.symm
        rw [hlen]
        exact ((hc.take off).append hvc).append (hc.drop _)
      · cases h

theorem fill_len (place : Nat → Option (Nat × Nat)) : ∀ (parts : List (Nat × Value)) (cs r : List Value), fillA place cs parts = some r → r.length = cs.length
  | [], cs, r, h => by simp only [fillA, Option.some.injEq] at h; rw [h]
  | (i, v) :: rest, cs, r, h => by
    unfold fillA at h
    cases hpl : place i with
    | none => simp [hpl] at h
    | some os =>
      obtain ⟨off, size⟩ := os
      simp only [hpl] at h
      split at h
      · rename_i hc
        rw [fill_len place rest _ r h, splice_length _ _ _ (by simp only [Array.length_toList]; omega)]
      · cases h

theorem parts_rel {φ : Phi} {ρ ρ' : Operand → Value} (h : ∀ x, VR φ (ρ x) (ρ' x)) : ∀ (l : List (Nat × Operand)), PartsR φ (l.map fun x => (x.1, ρ x.2)) (l.map fun x => (x.1, ρ' x.2))
  | [] => by simp [PartsR]
  | x :: l => by
    simp only [List.map_cons, PartsR]
    exact ⟨_, _, rfl, rfl, h x.2, parts_rel h l⟩

theorem build_sound {φ : Phi} {σ τ : AW} {w : World} {t : TypeId} {fs : Array Field} {places : List (Nat × Nat)} {z v : Value} {parts parts' : List (Nat × Value)} (hw : WR P φ σ w) (hu : P.underlying t = some (.struct fs))
    (hp : (fs.toList.mapM fun f => (sizeA P f.type).map fun n => (f.offset, n)) = some places) (hz : zeroA P t = some z) (h : buildA places z.cells.toList parts σ = some (v, τ)) (hr : PartsR φ parts parts') :
    DoneV P φ σ w v τ ((Instr.build t parts'.toArray).run P w) := by
  obtain ⟨i, hi, hz1, hz2, hz3⟩ := zero_some hz
  unfold buildA at h
  obtain ⟨cs, hf, h0⟩ := need2_some h
  clear h
  · obtain ⟨rfl, rfl⟩ := ret_some h0
    obtain ⟨r', g1, g2⟩ := fill_rel _ parts parts' _ _ z.cells hf (VRs.flat_refl (by
      cases z <;> simp_all [Value.cells, flat, flatL])) hr
    refine .still hw (v' := .agg r') ?_ (VR.agg_mk (by simpa using g2))
    refine run_build w t _ _ ?_
    unfold Program.built
    have hp' : (fs.toList.mapM fun f => (P.info? f.type).map fun i => (f.offset, i.size)) = some places := by
      rw [← hp]; congr 1; funext f; unfold sizeA; cases P.info? f.type <;> rfl
    simp only [hi, hu, hz1, hp']
    simpa using g1
theorem buildArr_sound {φ : Phi} {σ τ : AW} {w : World} {t e : TypeId} {n len : Nat} {z v : Value} {parts parts' : List (Nat × Value)} (hw : WR P φ σ w) (hu : P.underlying t = some (.array len e))
    (hn : sizeA P e = some n) (hz : zeroA P t = some z) (h : buildArrA n z.cells.toList parts σ = some (v, τ)) (hr : PartsR φ parts parts') :
    DoneV P φ σ w v τ ((Instr.build t parts'.toArray).run P w) := by
  obtain ⟨i, hi, hz1, hz2, hz3⟩ := zero_some hz
  obtain ⟨j, hj, hs⟩ := size_some hn
  unfold buildArrA at h
  obtain ⟨cs, hf, h0⟩ := need2_some h
  clear h
  · obtain ⟨rfl, rfl⟩ := ret_some h0
    obtain ⟨r', g1, g2⟩ := fill_rel _ parts parts' _ _ z.cells hf (VRs.flat_refl (by
      cases z <;> simp_all [Value.cells, flat, flatL])) hr
    refine .still hw (v' := .agg r') ?_ (VR.agg_mk (by simpa using g2))
    refine run_build w t _ _ ?_
    unfold Program.built
    simp only [hi, hu, hz1, hj, hs]
    simpa using g1

theorem zeros_flat {φ : Phi} {z : Value} (hz : flat z = true) (n : Nat) (hpos : n = 0 ∨ 0 < z.cells.size) : VRs φ (zeros z.cells.toList n) ((Array.range n).map (z.cells[· % z.cells.size]!)).toList := by
  have hfl : flatL z.cells.toList = true := by cases z <;> simp_all [Value.cells, flat, flatL]
  have hall : ∀ (l : List Value), flatL l = true → ∀ x ∈ l, flat x = true := by
    intro l
    induction l with
    | nil => intro _ x hx; simp at hx
    | cons a l ih =>
      intro h x hx
      simp only [flatL, Bool.and_eq_true] at h
      rcases List.mem_cons.1 hx with rfl | hx
      · exact h.1
      · exact ih h.2 x hx
  refine VRs.mk _ _ (by simp [zeros]) ?_
  intro i v v' h1 h2
  have hi : i < n := by
    rcases Nat.lt_or_ge i n with h | h
    · exact h
    · rw [List.getElem?_eq_none (by simp [zeros]; exact h)] at h1; cases h1
  have hsz : 0 < z.cells.size := by omega
  have hm : i % z.cells.size < z.cells.size := Nat.mod_lt _ hsz
  simp only [zeros, List.getElem?_map, List.getElem?_range hi, Option.map_some, Option.some.injEq, Array.length_toList] at h1
  simp only [Array.toList_map, Array.toList_range, List.getElem?_map, List.getElem?_range hi, Option.map_some, Option.some.injEq] at h2
  have e1 : v = z.cells[i % z.cells.size] := by
    rw [← h1, List.getD_eq_getElem?_getD]
    simp [hm]
  have e2 : v' = z.cells[i % z.cells.size] := by
    rw [← h2]
    simp [hm]
  rw [e1, e2]
  exact VR.flat_refl (hall _ hfl _ (by simp))

theorem buildSlice_sound {φ : Phi} {σ τ : AW} {w : World} {t e : TypeId} {n len : Nat} {z v : Value} {parts parts' : List (Nat × Value)} (hw : WR P φ σ w) (hu : P.underlying t = some (.slice e))
    (hn : sizeA P e = some n) (hz : zeroA P e = some z) (h : buildSliceA e n len z.cells.toList parts σ = some (v, τ)) (hr : PartsR φ parts parts') :
    DoneV P φ σ w v τ ((Instr.buildSlice t len parts'.toArray).run P w) := by
  obtain ⟨i, hi, hz1, hz2, hz3⟩ := zero_some hz
  obtain ⟨j, hj, hs⟩ := size_some hn
  rw [hi] at hj; injection hj with hj; subst hj
  unfold buildSliceA at h
  obtain ⟨cs, hf, h0⟩ := need2_some h
  clear h
  split at h0
  · rename_i hc
    obtain ⟨hsm, hall, hzl⟩ := hc
    simp only [Array.length_toList] at hzl
    simp only [Option.some.injEq, Prod.mk.injEq] at h0
    obtain ⟨rfl, rfl⟩ := h0
    let zc : Array Value := if len * n = 0 then #[] else z.cells
    have hzc : (Array.range (len * n)).map (zc[· % zc.size]!) = (Array.range (len * n)).map (z.cells[· % z.cells.size]!) := by
      by_cases h0 : len * n = 0
      · rw [h0]; simp
      · simp only [zc, if_neg h0]
    have hpos : len * n = 0 ∨ 0 < z.cells.size := by
      rcases Nat.eq_zero_or_pos n with h0 | h0
      · left; rw [h0]; simp
      · right; omega
    obtain ⟨r', g1, g2⟩ := fill_rel _ parts parts' _ _ _ hf (zeros_flat hz2 (len * n) hpos) hr
    obtain ⟨ψ, k1, k2, k3, k4⟩ := hw.alloc cs r' e 0 0 (.inl (Nat.le_refl _)) hall (by have := g2.length; simp at this; omega) g2.to_at
    have hlen : cs.length = len * n := by
      have := fill_len _ _ _ _ hf
      rw [this]; simp [zeros]
    have hrs : r'.size = len * n := by have := g2.length; simp at this; omega
    refine ⟨ψ, .slice (some ⟨w.heap.size, 0, none⟩) len len, _, ?_, ?_, k3, k4⟩
    · have g1' : Instr.fill (fun i => some (i * n, n)) ((Array.range (len * n)).map (zc[· % zc.size]!)) parts' = some r' := by rw [hzc]; exact g1
      simp only [Instr.buildSlice, Sem.run_bind, run_underlying hu, Result.andThen_ok, run_size hi, hs]
      rw [if_neg (by omega)]
      by_cases h0 : len * n = 0
      · rw [if_pos h0]
        simp only [zc, if_pos h0] at g1'
        simp only [Sem.run_bind, Sem.run_pure, Result.andThen_ok, g1']
        simp [newRow, newObj, Sem.run]
      · rw [if_neg h0]
        simp only [Sem.run_bind, Sem.run_pure, Result.andThen_ok, run_zero hi hz1, g1]
        simp [newRow, newObj, Sem.run]
    · simp only [VR]
      left
      exact ⟨_, len, n, k1, rfl, by simp [hrs], Nat.le_refl _, by simp⟩
  · cases h0

/-! ### make, []byte(s) -/
theorem makeSlice_sound {φ : Phi} {σ τ : AW} {w : World} {t e : TypeId} {i : TypeInfo} {z v x y x' y' : Value} (hw : WR P φ σ w) (hu : P.underlying t = some (.slice e))
    (hi : P.info? e = some i) (hz : zeroA P e = some z) (h : makeSliceA e i.size i.bytes z.cells.toList x y σ = some (v, τ)) (hx : VR φ x x') (hy : VR φ y y') :
    DoneV P φ σ w v τ ((Instr.makeSlice t x' y').run P w) := by
  obtain ⟨j, hj, hz1, hz2, hz3⟩ := zero_some hz
  rw [hi] at hj; injection hj with hj; subst hj
  unfold makeSliceA at h
  split at h
  · rename_i k l k' c
    split at h
    · rename_i hc
      obtain ⟨c1, c2, c3, c4, c5, c6⟩ := hc
      simp only [Option.some.injEq, Prod.mk.injEq] at h
      obtain ⟨rfl, rfl⟩ := h
      simp only [VR] at hx hy; subst hx; subst hy
      simp only [Array.length_toList] at c6
      have hpos : c.toNat * i.size = 0 ∨ 0 < z.cells.size := by
        rcases Nat.eq_zero_or_pos i.size with h0 | h0
        · left; rw [h0]; simp
        · right; omega
      let cs := (Array.range (c.toNat * i.size)).map (z.cells[· % z.cells.size]!)
      have hrel := zeros_flat (φ := φ) hz2 (c.toNat * i.size) hpos
      obtain ⟨ψ, k1, k2, k3, k4⟩ := hw.alloc _ cs e 0 0 (.inl (Nat.le_refl _)) c5 (by simp [zeros, cs]) (VRs.to_at hrel)
      have hwl : IntKind.i64.wrap l = l := by simp [IntKind.wrap, IntKind.bits, IntKind.signed]; omega
      have hwc : IntKind.i64.wrap c = c := by simp [IntKind.wrap, IntKind.bits, IntKind.signed]; omega
      refine ⟨ψ, .slice (some ⟨w.heap.size, 0, none⟩) l.toNat c.toNat, _, ?_, ?_, k3, k4⟩
      · simp only [Instr.makeSlice, Sem.run_bind, run_underlying hu, Result.andThen_ok, asInt, asIntOf, Sem.run_pure, run_info hi, hwl, hwc]
        have g1 : ¬ (c < 0) := by omega
        have g2 : ¬ ((i.bytes : Int) * c > 2 ^ 48) := by omega
        have g3 : ¬ (l < 0) := by omega
        have g4 : ¬ (l > c) := by omega
        have g5 : ¬ (c.toNat * i.bytes > roomBytes) := by
          unfold roomBytes
          have : ((c.toNat * i.bytes : Nat) : Int) = (i.bytes : Int) * c := by rw [Int.natCast_mul, Int.toNat_of_nonneg (by omega), Int.mul_comm]
          omega
        simp only [g1, g2, g3, g4, decide_false, Bool.or_self, Bool.false_eq_true, if_false]
        simp only [askRoom, if_neg g5, Sem.run_bind, Sem.run_pure, Result.andThen_ok, run_size hi]
        by_cases h0 : c.toNat * i.size = 0
        · rw [if_pos h0]
          have : cs = #[] := by simp [cs, h0]
          simp only [Sem.run_bind, Sem.run_pure, Result.andThen_ok]
          rw [this, h0, show (Array.map (fun x => (#[] : Array Value)[x % (#[] : Array Value).size]!) (Array.range 0)) = #[] by simp, run_newRow]
          rfl
        · rw [if_neg h0]
          simp only [Sem.run_bind, Sem.run_pure, Result.andThen_ok, run_zero hi hz1]
          simp [newRow, newObj, Sem.run, cs]
      · simp only [VR]
        left
        refine ⟨_, c.toNat, i.size, k1, rfl, by simp [cs], Nat.le_refl _, by simp⟩
    · cases h
  · cases h

theorem toBytes_sound {φ : Phi} {σ τ : AW} {w : World} {s d e : TypeId} {x x' v : Value} (hw : WR P φ σ w) (hs : P.underlying s = some .string) (hd : P.underlying d = some (.slice e)) (he : P.underlying e = some (.int .u8))
    (h : toBytesA e x σ = some (v, τ)) (hx : VR φ x x') : DoneV P φ σ w v τ ((convert s d x').run P w) := by
  unfold toBytesA at h
  split at h
  · rename_i b
    simp only [Option.some.injEq, Prod.mk.injEq] at h
    obtain ⟨rfl, rfl⟩ := h
    simp only [VR] at hx; subst hx
    let w1 : World := { w with drawn := w.drawn + 1 }
    let cap := (Question.appendCap b.size 0 e).cut (w.tape w.drawn (.appendCap b.size 0 e))
    have hcap : b.size ≤ cap := by simp [cap, Question.cut]
    let c : Array Value := (b.data.map fun x => Value.int .u8 x.toNat) ++ Array.replicate (cap - b.size) (.int .u8 0)
    have hcs : c.size = cap := by simp [c]; have : b.data.size = b.size := rfl; omega
    have hw1 : WR P φ σ w1 := hw.heap rfl
    have hrel : ∀ (i : Nat) (u : Value), (b.data.toList.map fun x => Value.int .u8 x.toNat)[i]? = some u → ∃ u', c[i]? = some u' ∧ VR φ u u' := by
      intro i u hi
      have hlt : i < b.data.size := by
        rcases Nat.lt_or_ge i b.data.size with g | g
        · exact g
        · rw [List.getElem?_eq_none (by simpa using g)] at hi; cases hi
      refine ⟨u, ?_, ?_⟩
      · simp only [c]
        rw [Array.getElem?_append_left (by simpa using hlt)]
        rw [← hi]; simp
      · simp at hi
        obtain ⟨q, _, rfl⟩ := hi
        simp [VR]
    obtain ⟨ψ, k1, k2, k3, k4⟩ := hw1.alloc _ c e c.size (c.size + 1) (.inr (Nat.le_refl _)) (List.all_eq_true.2 (by intro u hu; obtain ⟨q, _, rfl⟩ := List.mem_map.1 hu; rfl)) (by rw [hcs]; simpa using hcap) hrel
    refine ⟨ψ, .slice (some ⟨w.heap.size, 0, none⟩) b.size cap, _, ?_, ?_, k3, ⟨k4.le, k4.size, k4.keep, k4.os, k4.tape, k4.output⟩⟩
    · simp only [convert, Sem.run_bind, run_underlying hs, run_underlying hd, run_underlying he, Result.andThen_ok, Conv.stringToBytes]
      have hch : (choose (.appendCap b.size 0 e)).run P w = .ok cap w1 := by simp [choose, Sem.run, Question.forced, cap, w1]
      rw [hch]
      simp only [Result.andThen_ok]
      have hnew : (newRow e c).run P w1 = .ok ⟨w.heap.size, 0, none⟩ { w1 with heap := w1.heap.push (.cells c e (0, 0)) } := rfl
      rw [show ((b.data.map fun b => Value.int .u8 b.toNat) ++ Array.replicate (cap - b.size) (Value.int .u8 0)) = c from rfl, hnew]
      simp only [Result.andThen_ok]
      have hshape : (shape w.heap.size).run P ({ w1 with heap := w1.heap.push (.cells c e (0, 0)) } : World) = .ok (some (e, c.size)) { w1 with heap := w1.heap.push (.cells c e (0, 0)) } := by
        simp [shape, Sem.run, World.shape?, w1]
      have hfreeze : ({ w1 with heap := w1.heap.push (.cells c e (0, 0)) } : World).freeze ⟨w.heap.size, c.size, none⟩ 1 = { w1 with heap := w1.heap.push (.cells c e (c.size, c.size + 1)) } := by
        unfold World.freeze
        rw [if_neg (by omega)]
        have hg : (w1.heap.push (Obj.cells c e (0, 0)))[w.heap.size]? = some (.cells c e (0, 0)) := by simp [w1]
        simp only
        rw [modify_eq _ _ _ _ hg]
        simp only [beq_self_eq_true, if_true]
        congr 1
        apply Array.ext_getElem?
        intro j
        simp only [Array.getElem?_setIfInBounds, Array.getElem?_push, Array.size_push, w1]
        by_cases e1 : w.heap.size = j
        · subst e1; simp
        · rw [if_neg e1]
          have : ¬ j = w.heap.size := fun h => e1 h.symm
          simp [this]
      simp only [markStringish, Sem.run_bind, hshape, Result.andThen_ok]
      simp only [freeze, Sem.run, hfreeze, Result.andThen_ok, Sem.run_pure]
    · simp only [VR]
      left
      refine ⟨_, cap, 1, k1, rfl, by simp [hcs], hcap, by simp; rfl⟩
  · cases h

/-! ### append, copy -/
/-- What is appended or copied, in the model. -/
theorem source_sound {φ : Phi} {σ : AW} {w : World} (hw : WR P φ σ w) {size n : Nat} {new : List Value} {x x' : Value} (h : σ.source size x = some (n, new)) (hx : VR φ x x') (hnl : new.length = n * size) (h0 : 0 < size) :
    ∃ new', VRs φ new new' ∧ (Builtin.lenOf x').run P w = .ok n w ∧ ∀ k, k ≤ n → ∀ w' : World, w'.heap = w.heap → (Builtin.firstCells size k x').run P w' = .ok (new'.take (k * size)).toArray w' := by
  unfold AW.source at h
  split at h
  · rename_i l c
    split at h
    · rename_i hl
      subst hl
      simp only [Option.some.injEq, Prod.mk.injEq] at h
      obtain ⟨rfl, rfl⟩ := h
      simp only [VR] at hx; subst hx
      exact ⟨[], VRs.nil, by simp [Builtin.lenOf], fun k hk w' _ => by simp [Builtin.firstCells]⟩
    · cases h
  · rename_i b o z m c
    split at h
    · rename_i hm0
      subst hm0
      simp only [Option.some.injEq, Prod.mk.injEq] at h
      obtain ⟨rfl, rfl⟩ := h
      simp only [VR] at hx
      rcases hx with ⟨p, c', z', h1, h2, h3, h4, rfl⟩ | ⟨_, _, a', rfl⟩
      · refine ⟨[], VRs.nil, by simp [Builtin.lenOf], fun k hk w' _ => ?_⟩
        obtain rfl : k = 0 := by omega
        simp [Builtin.firstCells, Go.loadCells, loadCellsFrom]
      · refine ⟨[], VRs.nil, by simp [Builtin.lenOf], fun k hk w' _ => ?_⟩
        obtain rfl : k = 0 := by omega
        simp [Builtin.firstCells, Go.loadCells, loadCellsFrom]
    split at h
    · rename_i hz
      subst hz
      split at h
      · rename_i vs hc
        simp only [Option.some.injEq, Prod.mk.injEq] at h
        obtain ⟨rfl, rfl⟩ := h
        simp only [VR] at hx
        rcases hx with ⟨p, c', z', h1, h2, h3, h4, rfl⟩ | ⟨rfl, rfl, a', rfl⟩
        · obtain ⟨l', g1, g2⟩ := hw.cells hc p h1
          refine ⟨l', g1, by simp [Builtin.lenOf], fun k hk w' hh => ?_⟩
          have hlen : l'.length = m * z := g1.length.trans hnl
          have hkz : k * z ≤ m * z := Nat.mul_le_mul_right _ hk
          simp only [Builtin.firstCells, Go.loadCells]
          rw [run_loadCellsFrom (k * z) 0 #[] (l'.take (k * z)) (by simp; omega) ?_]
          · simp
          · intro j u hj
            have hjk : j < k * z := by
              rcases Nat.lt_or_ge j (k * z) with g | g
              · exact g
              · rw [List.getElem?_eq_none (by simp; omega)] at hj; cases hj
            obtain ⟨u', k1, k2⟩ := g2 j (by omega)
            rw [List.getElem?_take, if_pos hjk, k1] at hj
            injection hj with hj; subst hj
            rw [add_off _ _ rfl, Nat.zero_add]
            rw [← k2]
            simp only [World.cell?, hh]
        · have : vs = [] := List.eq_nil_of_length_eq_zero (by simpa using hnl)
          subst this
          refine ⟨[], VRs.nil, by simp [Builtin.lenOf], fun k hk w' _ => ?_⟩
          obtain rfl : k = 0 := by omega
          simp [Builtin.firstCells, Go.loadCells, loadCellsFrom]
      · cases h
    · cases h
  · rename_i s
    simp only [Option.some.injEq, Prod.mk.injEq] at h
    obtain ⟨rfl, rfl⟩ := h
    simp only [VR] at hx; subst hx
    have hz : s.size = 0 ∨ size = 1 := by
      simp at hnl
      have hh : s.size * 1 = s.size * size := by rw [Nat.mul_one]; exact hnl
      rcases Nat.eq_zero_or_pos s.size with g | g
      · exact .inl g
      · exact .inr (Nat.eq_of_mul_eq_mul_left g hh).symm
    refine ⟨_, VRs.flat_refl (l := s.data.toList.map fun b => .int .u8 b.toNat) ?_, by simp [Builtin.lenOf], fun k hk w' _ => ?_⟩
    · have : ∀ l : List UInt8, flatL (l.map fun b => Value.int .u8 b.toNat) = true := by
        intro l; induction l with
        | nil => rfl
        | cons a l ih => simp [flatL, flat, ih]
      exact this _
    · simp only [Builtin.firstCells, Sem.run_pure]
      congr 1
      apply Array.ext'
      have hd : (s.extract 0 k).data.toList = s.data.toList.take k := by simp [ByteArray.data_extract]
      simp only [Array.toList_map, hd]
      rcases hz with g | g
      · have : s.data.toList = [] := List.eq_nil_of_length_eq_zero (by simpa using g)
        simp [this]
      · subst g; simp [List.map_take]
  · cases h

theorem copy_sound {φ : Phi} {σ τ : AW} {w : World} {t ty e : TypeId} {ts : Array TypeId} {n : Nat} {x y x' y' v : Value} (hw : WR P φ σ w) (ht : ts[0]? = some t) (hu : P.underlying t = some (.slice e)) (hn : sizeA P e = some n) (h0 : 0 < n)
    (h : copyA n x y σ = some (v, τ)) (hx : VR φ x x') (hy : VR φ y y') : DoneV P φ σ w v τ ((Builtin.copy_ ts ty #[x', y']).run P w) := by
  obtain ⟨i, hi, hs⟩ := size_some hn
  unfold copyA at h
  split at h
  · cases h
  · rename_i m new hsrc
    split at h
    · rename_i hnl
      obtain ⟨new', g1, g2, g3⟩ := source_sound hw hsrc hy hnl h0
      have hmin : ∀ l, Nat.min m l = min m l := fun _ => rfl
      split at h
      · rename_i base len c
        split at h
        · rename_i hl
          simp only [Option.some.injEq, Prod.mk.injEq] at h
          obtain ⟨rfl, rfl⟩ := h
          obtain ⟨a', c', rfl⟩ := slice_form hx
          refine .still hw (v' := .int .i64 0) ?_ (by simp [VR])
          have := g3 0 (Nat.zero_le _) w rfl
          cases a' <;> simp [Builtin.copy_, ht, run_underlying hu, g2, run_size hi, hs, hmin, hl, this, goInt, storeCells]
        · rename_i hl
          split at h
          · rename_i b o z
            split at h
            · rename_i hz
              subst hz
              split at h
              · rename_i σ' hst
                simp only [Option.some.injEq, Prod.mk.injEq] at h
                obtain ⟨rfl, rfl⟩ := h
                simp only [VR] at hx
                rcases hx with ⟨p, c', z', h1, h2, h3, h4, rfl⟩ | ⟨rfl, rfl, a', rfl⟩
                · obtain ⟨w', k1, k2, k3⟩ := hw.store hst p h1 (g1.take _)
                  refine ⟨φ, .int .i64 (min m len : Nat), w', ?_, by simp [VR], k2, k3⟩
                  simp [Builtin.copy_, ht, run_underlying hu, g2, run_size hi, hs, hmin, g3 _ (Nat.min_le_left _ _) w rfl, k1, goInt]
                · simp at hl
              · cases h
            · cases h
          · cases h
      · cases h
    · cases h
  
theorem run_append_fits {w : World} {t ty e u : TypeId} {ts : Array TypeId} {i : TypeInfo} {du : TypeDesc} (ht : ts[0]? = some t) (hu : P.underlying t = some (.slice e)) (ht1 : ts[1]? = some u) (hdu : P.underlying u = some du) (hni : ∀ k, du ≠ .int k)
    (hi : P.info? e = some i) {base : Option Addr} {len cap n : Nat} {y' : Value} {new : List Value} (hl : (Builtin.lenOf y').run P w = .ok n w) (hf : (Builtin.firstCells i.size n y').run P w = .ok new.toArray w) (hfit : len + n ≤ cap) :
    (Builtin.append_ ts ty #[.slice base len cap, y']).run P w = match base with
      | none => .ok (.slice none (len + n) cap) w
      | some a => ((storeCells (a.add (len * i.size)) new).run P w).andThen fun _ w' => .ok (.slice (some a) (len + n) cap) w' := by
  have hz : ((match du with | .int _ => true | _ => false) : Bool) = false := by cases du with | int k => exact absurd rfl (hni k) | _ => rfl
  cases base <;> simp [Builtin.append_, ht, ht1, run_underlying hu, run_underlying hdu, run_size hi, hz, hl, hf, hfit]

theorem run_append_grows {w : World} {t ty e u : TypeId} {ts : Array TypeId} {i : TypeInfo} {du : TypeDesc} {z : Value} (ht : ts[0]? = some t) (hu : P.underlying t = some (.slice e)) (ht1 : ts[1]? = some u) (hdu : P.underlying u = some du) (hni : ∀ k, du ≠ .int k)
    (hi : P.info? e = some i) (hz : i.zero = some z) (hb : 0 < i.bytes) {base : Option Addr} {len cap n : Nat} {y' : Value} {old new : List Value} (hl : (Builtin.lenOf y').run P w = .ok n w)
    (hf : ∀ w' : World, w'.heap = w.heap → (Builtin.firstCells i.size n y').run P w' = .ok new.toArray w') (ho : ∀ w' : World, w'.heap = w.heap → (Builtin.firstCells i.size len (.slice base len cap)).run P w' = .ok old.toArray w')
    (hfit : cap < len + n) (hsm : (len + n) * i.bytes ≤ 2 ^ 47) :
    ∃ nc, len + n ≤ nc ∧ (Builtin.append_ ts ty #[.slice base len cap, y']).run P w = .ok (.slice (some ⟨w.heap.size, 0, none⟩) (len + n) nc)
      { w with drawn := w.drawn + 1, heap := w.heap.push (.cells (old.toArray ++ new.toArray ++ Builtin.zeroCells z.cells (nc - (len + n))) e (0, 0)) } := by
  have hzb : ((match du with | .int _ => true | _ => false) : Bool) = false := by cases du with | int k => exact absurd rfl (hni k) | _ => rfl
  let nc := (Question.appendCap (len + n) cap e).cut (w.tape w.drawn (.appendCap (len + n) cap e))
  have hnc : len + n ≤ nc := by simp [nc, Question.cut]
  refine ⟨nc, hnc, ?_⟩
  let w1 : World := { w with drawn := w.drawn + 1 }
  have hch : (choose (.appendCap (len + n) cap e)).run P w = .ok nc w1 := by simp only [choose, Sem.run, Question.forced]; rfl
  have hg := growslice_fits (bytes := i.bytes) hfit hsm
  have c1 : ¬ (len + n ≤ cap) := by omega
  have c2 : ¬ (Builtin.nextslicecap (len + n) cap * i.bytes > 2 ^ 48) := by omega
  have c3 : ¬ (i.bytes = 0) := by omega
  have hask : ∀ (m : Nat) (w' : World), (askRoom m).run P w' = .ok () w' := by
    intro m w'
    unfold askRoom
    split <;> simp [mark, Sem.run]
  have h1 := hf w1 rfl
  have h2 := ho w1 rfl
  simp only [Builtin.append_, List.getElem?_toArray, List.getElem?_cons_zero, List.getElem?_cons_succ, ht, ht1]
  simp only [Sem.run_bind, run_underlying hu, run_underlying hdu, run_size hi, run_info hi, Result.andThen_ok, Sem.run_pure, hzb, Bool.false_eq_true, if_false, hl, c1]
  rw [if_neg (by rintro ⟨_, h | h⟩; exact h; exact c3 h)]
  simp only [Sem.run_bind, run_info hi, Result.andThen_ok]
  rw [if_neg c2]
  simp only [Sem.run_bind, hch, Result.andThen_ok, run_info hi, hask, h2, Bool.not_false, if_true, h1, run_zero hi hz, run_newRow, Sem.run_pure]
  rfl

theorem zeroCells_size (z : Array Value) (n : Nat) : (Builtin.zeroCells z n).size = n * z.size := by simp [Builtin.zeroCells]

theorem append_sound {φ : Phi} {σ τ : AW} {w : World} {t ty e u : TypeId} {ts : Array TypeId} {i : TypeInfo} {z v x y x' y' : Value} {du : TypeDesc} (hw : WR P φ σ w) (ht : ts[0]? = some t) (hu : P.underlying t = some (.slice e))
    (ht1 : ts[1]? = some u) (hdu : P.underlying u = some du) (hni : ∀ k, du ≠ .int k) (hi : P.info? e = some i) (hz : i.zero = some z) (hzs : z.cells.size = i.size) (h0 : 0 < i.size)
    (h : appendA e i.size i.bytes x y σ = some (v, τ)) (hx : VR φ x x') (hy : VR φ y y') : DoneV P φ σ w v τ ((Builtin.append_ ts ty #[x', y']).run P w) := by
  unfold appendA at h
  split at h
  · cases h
  · rename_i n new hsrc
    split at h
    · rename_i hnl
      obtain ⟨new', g1, g2, g3⟩ := source_sound hw hsrc hy hnl h0
      have hnl' : new'.length = n * i.size := g1.length.trans hnl
      have g3' : ∀ w' : World, w'.heap = w.heap → (Builtin.firstCells i.size n y').run P w' = .ok new'.toArray w' := by
        intro w' hw'
        have e1 := g3 n (Nat.le_refl _) w' hw'
        rwa [List.take_of_length_le (by omega)] at e1
      have g3n := g3' w rfl
      split at h
      · rename_i hn0
        subst hn0
        split at h
        · rename_i base len cap
          split at h
          · rename_i hlc
            simp only [Option.some.injEq, Prod.mk.injEq] at h
            obtain ⟨rfl, rfl⟩ := h
            have hn' : new' = [] := List.eq_nil_of_length_eq_zero (by simpa using hnl')
            subst hn'
            obtain ⟨a', c', rfl⟩ := slice_form hx
            have hfit : len + 0 ≤ c' := by
              cases base with
              | none => simp only [VR] at hx; injection hx with _ _ h3; omega
              | some b =>
                simp only [VR] at hx
                rcases hx with ⟨p, c'', z', _, _, _, h4, h5⟩ | ⟨h4, h5, a'', h6⟩
                · injection h5 with _ _ h6; omega
                · injection h6 with _ _ h7; omega
            refine .still hw (v' := .slice a' len c') ?_ hx
            rw [run_append_fits ht hu ht1 hdu hni hi g2 g3n hfit]
            cases a' <;> simp [storeCells]
          · cases h
        · cases h
      · rename_i hn0
        split at h
        · rename_i hbc
          obtain ⟨hb, hall⟩ := hbc
          split at h
          · rename_i len cap
            split at h
            · rename_i hc
              obtain ⟨rfl, rfl, hsm⟩ := hc
              simp only [Option.some.injEq, Prod.mk.injEq] at h
              obtain ⟨rfl, rfl⟩ := h
              simp only [VR] at hx; subst hx
              obtain ⟨nc, hnc, hrun⟩ := run_append_grows (old := []) ht hu ht1 hdu hni hi hz hb (base := none) (len := 0) (cap := 0) g2 g3' (fun w' _ => by simp [Builtin.firstCells]) (by omega) (by simpa using hsm)
              let c := (#[] : Array Value) ++ new'.toArray ++ Builtin.zeroCells z.cells (nc - (0 + n))
              have hcs : c.size = n * i.size + (nc - (0 + n)) * i.size := by simp [c, zeroCells_size, hnl', hzs]
              have hw1 : WR P φ σ { w with drawn := w.drawn + 1 } := hw.heap rfl
              obtain ⟨ψ, k1, k2, k3, k4⟩ := hw1.alloc new c e 0 0 (.inl (Nat.le_refl _)) hall (by omega) (fun j q hj => by
                obtain ⟨q', m1, m2⟩ := g1.at j q hj
                refine ⟨q', ?_, m2⟩
                have hjl : j < new'.length := by
                  rcases Nat.lt_or_ge j new'.length with g | g
                  · exact g
                  · rw [List.getElem?_eq_none g] at m1; cases m1
                simp only [c]
                rw [Array.getElem?_append_left (by simpa using hjl)]
                simpa using m1)
              refine ⟨ψ, _, _, hrun, ?_, k3, ⟨k4.le, k4.size, k4.keep, k4.os, k4.tape, k4.output⟩⟩
              simp only [VR]
              left
              have : nc * i.size = n * i.size + (nc - (0 + n)) * i.size := by rw [← Nat.add_mul]; congr 1; omega
              exact ⟨_, nc, i.size, k1, rfl, by simp only [hcs]; omega, by omega, by simp⟩
            · cases h
          · rename_i b o z' len cap
            split at h
            · rename_i vs e' hg
              split at h
              · rename_i hc
                obtain ⟨rfl, rfl, hsm, hvl⟩ := hc
                simp only [Option.some.injEq, Prod.mk.injEq] at h
                obtain ⟨rfl, rfl⟩ := h
                obtain ⟨p, hp, ho⟩ := hw.dom _ _ hg
                obtain ⟨c, lo, hi', h1, h2, h4, h5, h6, h7⟩ := ho
                have hsrc2 : σ.cells b o (len * i.size) = some ((vs.drop o).take (len * i.size)) := by
                  unfold AW.cells; rw [hg]; simp [hvl]
                have hall2 : ((vs.drop o).take (len * i.size) ++ new).all isCell = true := by
                  rw [List.all_append, Bool.and_eq_true]
                  rw [List.all_eq_true] at h6
                  exact ⟨List.all_eq_true.2 fun x hx => h6 x (List.mem_of_mem_drop (List.mem_of_mem_take hx)), hall⟩
                have hlen2 : ((vs.drop o).take (len * i.size) ++ new).length = (len + n) * i.size := by
                  rw [List.length_append, hnl, Nat.add_mul]; simp; omega
                obtain ⟨old', o1, o2⟩ := hw.cells hsrc2 p hp
                have hol : old'.length = len * i.size := o1.length.trans (by simp; omega)
                -- the new object's cells over a row
                have hnew : ∀ (c2 : Array Value) (off2 : Nat), (∀ j, j < len * i.size → c2[off2 + j]? = old'[j]?) → (∀ j, j < n * i.size → c2[off2 + len * i.size + j]? = new'[j]?) →
                    ∀ (j : Nat) (q : Value), ((vs.drop o).take (len * i.size) ++ new)[j]? = some q → ∃ q', c2[off2 + j]? = some q' ∧ VR φ q q' := by
                  intro c2 off2 hc1 hc2 j q hj
                  obtain ⟨q', m1, m2⟩ := (o1.append g1).at j q hj
                  refine ⟨q', ?_, m2⟩
                  by_cases hjl : j < len * i.size
                  · rw [List.getElem?_append_left (by omega)] at m1
                    rw [hc1 j hjl, m1]
                  · rw [List.getElem?_append_right (by omega), hol] at m1
                    have hjn : j - len * i.size < n * i.size := by
                      rcases Nat.lt_or_ge (j - len * i.size) new'.length with g | g
                      · omega
                      · rw [List.getElem?_eq_none g] at m1; cases m1
                    have := hc2 (j - len * i.size) hjn
                    rw [show off2 + len * i.size + (j - len * i.size) = off2 + j by omega] at this
                    rw [this, m1]
                -- it grows
                have grow : ∀ (base : Option Addr) (c' : Nat), c' < len + n → (∀ w' : World, w'.heap = w.heap → (Builtin.firstCells i.size len (.slice base len c')).run P w' = .ok old'.toArray w') →
                    DoneV P φ σ w (.slice (some ⟨σ.next, 0, some i.size⟩) (len + n) (len + n)) ((σ.put b none).push (.cells ((vs.drop o).take (len * i.size) ++ new) e' false)) ((Builtin.append_ ts ty #[.slice base len c', y']).run P w) := by
                  intro base c' hc' hold
                  obtain ⟨nc, hnc, hrun⟩ := run_append_grows ht hu ht1 hdu hni hi hz hb g2 g3' hold hc' (by simpa using hsm)
                  let c2 := old'.toArray ++ new'.toArray ++ Builtin.zeroCells z.cells (nc - (len + n))
                  have hcs : c2.size = (len + n) * i.size + (nc - (len + n)) * i.size := by simp [c2, zeroCells_size, hnl', hol, hzs, Nat.add_mul]; omega
                  obtain ⟨hwd, hfd⟩ := hw.drop b
                  have hw1 : WR P φ (σ.put b none) { w with drawn := w.drawn + 1 } := hwd.heap rfl
                  have hc2a : ∀ j, j < len * i.size → c2[0 + j]? = old'[j]? := by
                    intro j hj
                    simp only [c2, Nat.zero_add]
                    rw [Array.getElem?_append_left (by simp [hol, hnl']; omega), Array.getElem?_append_left (by simpa [hol] using hj)]
                    simp
                  have hc2b : ∀ j, j < n * i.size → c2[0 + len * i.size + j]? = new'[j]? := by
                    intro j hj
                    simp only [c2, Nat.zero_add]
                    rw [Array.getElem?_append_left (by simp [hol, hnl']; omega), Array.getElem?_append_right (by simp [hol])]
                    simp [hol]
                  obtain ⟨ψ, k1, k2, k3, k4⟩ := hw1.alloc _ c2 e' 0 0 (.inl (Nat.le_refl _)) hall2 (by omega) (fun j q hj => by simpa using hnew c2 0 hc2a hc2b j q hj)
                  refine ⟨ψ, _, _, hrun, ?_, k3, hfd.trans ⟨k4.le, k4.size, k4.keep, k4.os, k4.tape, k4.output⟩⟩
                  simp only [VR]
                  left
                  have : nc * i.size = (len + n) * i.size + (nc - (len + n)) * i.size := by rw [← Nat.add_mul]; congr 1; omega
                  exact ⟨_, nc, i.size, k1, rfl, by simp only [hcs]; omega, by omega, by simp⟩
                simp only [VR] at hx
                rcases hx with ⟨p2, c', zz, q1, q2, q3, q4, rfl⟩ | ⟨rfl, rfl, a', rfl⟩
                · rw [hp] at q1; injection q1 with q1; subst q1
                  simp only [Option.some.injEq] at q2; subst q2
                  by_cases hfit : len + n ≤ c'
                  · -- in place
                    have haddr : (⟨p.blk, p.off + o, none⟩ : Addr).add (len * i.size) = ⟨p.blk, p.off + (o + len * i.size), none⟩ := by rw [add_off _ _ rfl]; simp [Nat.add_assoc]
                    have hroom : o + (len + n) * i.size ≤ p.room := by
                      have : (len + n) * i.size ≤ c' * i.size := Nat.mul_le_mul_right _ hfit
                      have q3' : o + c' * i.size ≤ p.room := q3
                      omega
                    have hmul : (len + n) * i.size = len * i.size + n * i.size := Nat.add_mul _ _ _
                    obtain ⟨c2, k1, k2, k3⟩ := run_storeCells (P := P) (w := w) (a := ⟨p.blk, p.off + (o + len * i.size), none⟩) rfl new' 0 c h1 h2 (by simp; omega) (g1.one hall) w rfl
                    simp only [Nat.add_zero] at k2
                    have hrun := run_append_fits (ty := ty) (base := some ⟨p.blk, p.off + o, none⟩) (len := len) (cap := c') ht hu ht1 hdu hni hi g2 g3n hfit
                    simp only [haddr, k3, Result.andThen_ok] at hrun
                    have holdc : ∀ j, j < len * i.size → c[p.off + o + j]? = old'[j]? := by
                      intro j hj
                      obtain ⟨u', m1, m2⟩ := o2 j hj
                      simp [World.cell?, h1] at m2
                      rw [m1, ← m2]
                    let p' : Place := ⟨p.blk, p.off + o, p.room - o⟩
                    have hle := ext_le hw p'
                    obtain ⟨r1, r2⟩ := hw.move (o' := .cells ((vs.drop o).take (len * i.size) ++ new) e' false) (p' := p') hg rfl hp rfl (.cells c2 e' (lo, hi'))
                      ⟨c2, lo, hi', by simp [p', hw.blk _ _ hp], by rw [k1]; exact h2, by rw [k1]; simp only [p']; omega, by simp only [p']; omega, hall2, fun j q hj => by
                        obtain ⟨q', m1, m2⟩ := hnew c2 (p.off + o) (fun j hj => by rw [k2, if_neg (by omega)]; exact holdc j hj)
                          (fun j hj => by rw [k2, if_pos (by omega)]; congr 1; omega) j q hj
                        exact ⟨q', m1, m2.mono hle⟩⟩
                    refine ⟨_, _, _, hrun, ?_, r1, r2⟩
                    simp only [VR]
                    left
                    exact ⟨p', c', i.size, ext_new _ _ _ _, rfl, by have q3' : o + c' * i.size ≤ p.room := q3; show 0 + c' * i.size ≤ p.room - o; omega, hfit, by simp [p']⟩
                  · refine grow _ c' (by omega) fun w' hh => ?_
                    simp only [Builtin.firstCells, Go.loadCells]
                    rw [run_loadCellsFrom (len * i.size) 0 #[] old' hol ?_]
                    · simp
                    · intro j u hj
                      have hjl : j < len * i.size := by
                        rcases Nat.lt_or_ge j old'.length with g | g
                        · omega
                        · rw [List.getElem?_eq_none g] at hj; cases hj
                      obtain ⟨u', m1, m2⟩ := o2 j hjl
                      rw [m1] at hj; injection hj with hj; subst hj
                      rw [add_off _ _ rfl, Nat.zero_add, ← m2]
                      simp only [World.cell?, hh]
                · have hold : old' = [] := List.eq_nil_of_length_eq_zero (by simpa using hol)
                  refine grow (some a') 0 (by omega) fun w' hh => ?_
                  rw [hold]
                  simp [Builtin.firstCells, Go.loadCells, loadCellsFrom]
              · cases h
            · cases h
          · cases h
        · cases h
    · cases h

/-! ### bytes as a text -/
theorem run_bytes_at (w : World) : ∀ (ns : List Int) (blk off : Nat) (acc : ByteArray), (∀ j n, ns[j]? = some n → w.cell? ⟨blk, off + j, none⟩ = some (.int .u8 n)) →
    (loadBytes ⟨blk, off, none⟩ acc ns.length).run P w = .ok ⟨acc.data ++ (ns.map fun n => UInt8.ofNat n.toNat).toArray⟩ w
  | [], blk, off, acc, _ => by simp [loadBytes]
  | n :: ns, blk, off, acc, h => by
    have h0 : w.cell? ⟨blk, off, none⟩ = some (.int .u8 n) := by
      have := h 0 n rfl
      simpa using this
    have ih := run_bytes_at w ns blk (off + 1) (acc.push n.toNat.toUInt8) (fun j m hm => by
      have := h (j + 1) m (by simpa using hm)
      rw [← this]
      congr 2
      omega)
    have ha : (⟨blk, off, none⟩ : Addr).add 1 = ⟨blk, off + 1, none⟩ := by simp [Addr.add]
    simp only [List.length_cons, loadBytes, Sem.run_bind, run_load, h0, Result.andThen, ha]
    rw [ih]
    congr 1
    apply ByteArray.ext
    simp [ByteArray.push]
theorem lies_row {e : TypeId} (hc : P.cellsOf e = 1) (count off n : Nat) (hn : off + n ≤ count) : liesAt P P.depth e count off e n = true := by
  have hd : P.depth = (2 * (P.types.size + Made.depth) + 1) + 1 := rfl
  rw [hd]
  simp only [liesAt, Bool.or_eq_true]
  left
  rw [hd]
  simp [rowAt, hc, hn, sameLayout, Nat.mod_one]
theorem unsafe_match {motive : Array Value → Type} (p : Option Addr) (l : Value) (h1 : (p : Option Addr) → (l : Value) → motive #[.pointer p, l]) (h2 : (x : Array Value) → motive x) : Builtin.unsafeString_.match_3 motive #[.pointer p, l] h1 h2 = h1 p l := rfl
theorem bytesStr_sound {φ : Phi} {σ τ : AW} {w : World} {t ty e : TypeId} {ts : Array TypeId} {p x p' x' v : Value} (hw : WR P φ σ w) (ht : ts[0]? = some t) (hu : P.underlying t = some (.pointer e)) (hn : sizeA P e = some 1)
    (h : bytesStrA e p x σ = some (v, τ)) (hp : VR φ p p') (hx : VR φ x x') : DoneV P φ σ w v τ ((Builtin.unsafeString_ ts ty #[p', x']).run P w) := by
  have hco : P.cellsOf e = 1 := by
    obtain ⟨i, hi, hs⟩ := size_some hn
    simp [Program.cellsOf, hi, hs]
  unfold bytesStrA at h
  split at h
  · rename_i b o kx n
    split at h
    · rename_i hn0
      split at h
      · rename_i vs e' hg
        split at h
        · rename_i hc
          obtain ⟨rfl, hlen⟩ := hc
          split at h
          · rename_i l hl
            simp only [Option.some.injEq, Prod.mk.injEq] at h
            obtain ⟨rfl, rfl⟩ := h
            obtain ⟨ns, hns, rfl⟩ := ofBytes_nums hl
            obtain ⟨q, hq, rfl⟩ := hp.ptr
            simp only [VR] at hx
            subst hx
            have hnl : ns.length = n.toNat := by
              have := congrArg List.length hns
              simp at this
              omega
            obtain ⟨q', hq', ho⟩ := hw.dom _ _ hg
            rw [hq] at hq'
            injection hq' with hq'
            subst hq'
            obtain ⟨c, lo, hi, h1, _, h3, h4, _, h6⟩ := ho
            have hcell : ∀ j m, ns[j]? = some m → w.cell? ⟨q.blk, q.off + o + j, none⟩ = some (.int .u8 m) := by
              intro j m hm
              have hj : j < n.toNat := by have := (List.getElem?_eq_some_iff.1 hm).1; omega
              have hv : vs[o + j]? = some (.int .u8 m) := by
                have e1 : ((vs.drop o).take n.toNat)[j]? = vs[o + j]? := by rw [List.getElem?_take, if_pos hj, List.getElem?_drop]
                rw [← e1, hns, List.getElem?_map, hm]; rfl
              obtain ⟨v', g1, g2⟩ := h6 _ _ hv
              simp only [VR] at g2
              subst g2
              simp [World.cell?, h1, ← g1, Nat.add_assoc]
            have hlb := run_bytes_at (P := P) w ns q.blk (q.off + o) .empty hcell
            rw [hnl] at hlb
            have hlies := lies_row (P := P) hco c.size (q.off + o) n.toNat (by omega)
            have hsh : w.shape? q.blk = some (e', c.size) := by simp [World.shape?, h1]
            have hmax : IntKind.i64.max = 9223372036854775807 := rfl
            have hneg : ¬ n < 0 := by omega
            have h63 : ¬ (9223372036854775807 : Int) < n := by omega
            have hz : ¬ n = 0 := by omega
            have hrun : (Builtin.unsafeString_ ts ty #[.pointer (some ⟨q.blk, q.off + o, none⟩), .int kx n]).run P w = .ok (.string ⟨(ns.map fun n => UInt8.ofNat n.toNat).toArray⟩) (w.freeze ⟨q.blk, q.off + o, none⟩ n.toNat) := by
              unfold Builtin.unsafeString_
              rw [unsafe_match]
              simp [ht, asInt, asIntOf, hmax, h63, hneg, hz, variablesAt, hsh, elemOf, run_underlying hu, hco, hlies, hlb]
            obtain ⟨k1, k2⟩ := hw.dropAt (w' := w.freeze ⟨q.blk, q.off + o, none⟩ n.toNat) hg rfl hq (by unfold World.freeze; split <;> simp) (fun k hk => by
              unfold World.freeze
              split
              · rfl
              · simp only [Array.getElem?_modify]
                rw [if_neg (fun e => hk e.symm)]) (by unfold World.freeze; split <;> rfl) (by unfold World.freeze; split <;> rfl) (by unfold World.freeze; split <;> rfl)
            exact ⟨φ, _, _, hrun, by simp [VR], k1, k2⟩
          · cases h
        · cases h
      · cases h
    · cases h
  · cases h

end Go.Proofs.Ytjmafbiklebjcaa.Eng
