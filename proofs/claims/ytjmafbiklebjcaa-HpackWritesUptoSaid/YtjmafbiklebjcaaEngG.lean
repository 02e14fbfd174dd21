/- Iterators, maps; an operation as a whole. -/
import Derived.Test.YtjmafbiklebjcaaEngF
set_option linter.unusedVariables false
set_option linter.unusedSimpArgs false
namespace Go.Proofs.Ytjmafbiklebjcaa.Eng
variable {P : Program}

theorem range_sound {φ : Phi} {σ τ : AW} {w : World} {t : TypeId} {x x' v : Value} (hw : WR P φ σ w) (hu : P.underlying t = some .string) (h : rangeA x σ = some (v, τ)) (hx : VR φ x x') :
    DoneV P φ σ w v τ ((Instr.range t x').run P w) := by
  unfold rangeA at h
  split at h
  · rename_i s
    simp only [Option.some.injEq, Prod.mk.injEq] at h
    obtain ⟨rfl, rfl⟩ := h
    simp only [VR] at hx; subst hx
    let p : Place := ⟨w.heap.size, 0, 0⟩
    obtain ⟨h1, h2⟩ := hw.push (.iter s 0) (.stringIter s 0) p rfl ⟨rfl, by simp [p]⟩
    refine ⟨_, .pointer (some ⟨w.heap.size, 0, none⟩), _, ?_, ?_, h1, h2⟩
    · simp only [Instr.range, Sem.run_bind, run_underlying hu, Result.andThen_ok, Sem.run_pure]
      rfl
    · simpa [p] using VR.ptr_mk (o := 0) (ext_new φ σ σ.next p)
  · cases h

theorem next_sound {φ : Phi} {σ τ : AW} {w : World} {ty : TypeId} {x x' v : Value} (hw : WR P φ σ w) (h : nextA x σ = some (v, τ)) (hx : VR φ x x') :
    DoneV P φ σ w v τ ((Instr.next x' true ty).run P w) := by
  unfold nextA at h
  split at h
  · rename_i b
    obtain ⟨p, hp, rfl⟩ := hx.ptr
    split at h
    · rename_i s pos hg
      obtain ⟨q, hq, ho⟩ := hw.dom _ _ hg
      rw [hp] at hq; injection hq with hq; subst hq
      obtain ⟨ho1, ho2⟩ := ho
      have hget : (getObj p.blk).run P w = .ok (.stringIter s pos) w := by simp [getObj, Sem.run, ho2]
      have hset : ∀ o : Obj, (setObj p.blk o).run P w = .ok () { w with heap := w.heap.setIfInBounds p.blk o } := by intro o; simp [setObj, Sem.run, ho2]
      have e0 : p.off + 0 = 0 := by omega
      split at h
      · rename_i hlt
        simp only [Option.some.injEq, Prod.mk.injEq] at h
        obtain ⟨rfl, rfl⟩ := h
        obtain ⟨r1, r2⟩ := hw.update (o' := .iter s (pos + (Utf8.decode s pos).2)) hg rfl hp (.stringIter s (pos + (Utf8.decode s pos).2)) ⟨ho1, by simp [hw.blk _ _ hp]⟩ rfl
        refine ⟨φ, .tuple #[.bool true, .int .i64 pos, .int .i32 (Utf8.decode s pos).1], _, ?_, ?_, r1, r2⟩
        · rw [e0]
          simp only [Instr.next, Sem.run_bind, hget, Result.andThen_ok, if_pos hlt, hset, Sem.run_pure]
          rfl
        · exact VR.flat_refl rfl
      · rename_i hlt
        simp only [Option.some.injEq, Prod.mk.injEq] at h
        obtain ⟨rfl, rfl⟩ := h
        refine .still hw (v' := .tuple #[.bool false]) ?_ (VR.flat_refl rfl)
        rw [e0]
        simp only [Instr.next, Sem.run_bind, hget, Result.andThen_ok, if_neg hlt, Sem.run_pure]
    · cases h
  · cases h

theorem nilCheck_sound {φ : Phi} {σ τ : AW} {x x' v : Value} (h : nilCheckA x σ = some (v, τ)) (hx : VR φ x x') : τ = σ ∧ VR φ v x' ∧ ∃ a, x' = .pointer (some a) := by
  unfold nilCheckA at h
  split at h
  · obtain ⟨rfl, rfl⟩ := ret_some h
    refine ⟨rfl, hx, ?_⟩
    simp only [VR] at hx
    obtain ⟨p, _, _, rfl⟩ := hx
    exact ⟨_, rfl⟩
  · exact (fail_none h).elim

/-! ### maps with whole numbers as keys -/
theorem newMap_sound {φ : Phi} {σ τ : AW} {w : World} {t : TypeId} {v : Value} (hw : WR P φ σ w) (h : newMapA σ = some (v, τ)) : DoneV P φ σ w v τ ((Instr.makeMap t none).run P w) := by
  unfold newMapA at h
  simp only [Option.some.injEq, Prod.mk.injEq] at h
  obtain ⟨rfl, rfl⟩ := h
  let p : Place := ⟨w.heap.size, 0, 0⟩
  obtain ⟨h1, h2⟩ := hw.push (.map []) (.map #[] 0) p rfl ⟨rfl, ⟨.i64, by simp, by simp⟩, [], #[], 0, .refl _, by simp [p], by simp [VRs], by simp [VRs], by simp, by simp⟩
  refine ⟨_, .map (some w.heap.size), _, ?_, ?_, h1, h2⟩
  · simp only [Instr.makeMap, Sem.run_bind]
    rfl
  · simp only [VR]
    exact ⟨p, ext_new _ _ _ _, rfl, by simp [p]⟩

theorem findNow_at {φ : Phi} {k : IntKind} {n : Int} {t : IntKind} : ∀ (es : List (Value × Value)) (ms : List MapEntry) (r : Option Value) (i : Nat), findA k n es = some r → VRs φ (es.map (·.1)) (ms.map (·.key)) → VRs φ (es.map (·.2)) (ms.map (·.val)) →
    (r = none ∧ Instr.findNow (.int t) (.int k n) ms i = some none) ∨ (∃ v v' j m, r = some v ∧ Instr.findNow (.int t) (.int k n) ms i = some (some (i + j, v')) ∧ VR φ v v' ∧ ms[j]? = some m ∧ m.key = .int k n ∧
      VRs φ ((setA k n v es).map (·.1)) (ms.map (·.key)) ∧ (∀ u u', VR φ u u' → VRs φ ((setA k n u es).map (·.2)) ((ms.modify j fun e => { e with key := .int k n, val := u' }).map (·.val))) ∧
      (∀ u u', VRs φ ((setA k n u es).map (·.1)) ((ms.modify j fun e => { e with key := .int k n, val := u' }).map (·.key))))
  | [], ms, r, i, h, h1, h2 => by
    simp only [List.map_nil, VRs] at h1
    have : ms = [] := by simpa using h1
    subst this
    simp only [findA, Option.some.injEq] at h
    exact .inl ⟨h.symm, rfl⟩
  | (x, y) :: es, [], r, i, h, h1, h2 => by
    simp [VRs] at h1
  | (x, y) :: es, m :: ms, r, i, h, h1, h2 => by
    simp only [List.map_cons, VRs] at h1 h2
    obtain ⟨k1, ks, e1, h3, h4⟩ := h1
    obtain ⟨v1, vs, e2, h5, h6⟩ := h2
    injection e1 with e1 e1'; injection e2 with e2 e2'
    subst e1; subst e1'; subst e2; subst e2'
    unfold findA at h
    split at h
    · rename_i heq; cases heq
    · rename_i j q v es' heq
      injection heq with heq1 heq2
      injection heq1 with heq1 heq3
      subst heq1; subst heq2; subst heq3
      simp only [VR] at h3
      split at h
      · rename_i hjk
        subst hjk
        split at h
        · rename_i hnq
          subst hnq
          injection h with h
          subst h
          right
          refine ⟨y, m.val, 0, m, rfl, ?_, h5, rfl, h3, ?_, ?_, ?_⟩
          · simp [Instr.findNow, Instr.sameNow, h3]
          · simp only [setA, if_pos rfl, List.map_cons]
            exact VRs.cons (by simp [VR, h3]) h4
          · intro u u' hu
            simp only [setA, if_pos rfl, List.map_cons, List.modify_zero_cons]
            exact VRs.cons hu h6
          · intro u u'
            simp only [setA, if_pos rfl, List.map_cons, List.modify_zero_cons]
            exact VRs.cons (by simp [VR]) h4
        · rename_i hnq
          have hrec := findNow_at (t := t) es ms r (i + 1) h h4 h6
          have hstep : Instr.findNow (.int t) (.int j n) (m :: ms) i = Instr.findNow (.int t) (.int j n) ms (i + 1) := by
            have hb : (n == q) = false := by simp [hnq]
            simp [Instr.findNow, Instr.sameNow, h3, hb]
          rw [hstep]
          rcases hrec with hrec | ⟨v, v', jj, mm, a1, a2, a3, a4, a5, a6, a7, a8⟩
          · exact .inl hrec
          · right
            refine ⟨v, v', jj + 1, mm, a1, by rw [a2, Nat.add_assoc, Nat.add_comm 1], a3, by simpa using a4, a5, ?_, ?_, ?_⟩
            · simp only [setA, if_neg hnq, List.map_cons]
              exact VRs.cons (by simp [VR, h3]) a6
            · intro u u' hu
              simp only [setA, if_neg hnq, List.map_cons, List.modify_succ_cons]
              exact VRs.cons h5 (a7 u u' hu)
            · intro u u'
              simp only [setA, if_neg hnq, List.map_cons, List.modify_succ_cons]
              exact VRs.cons (by simp [VR, h3]) (a8 u u')
      · cases h
    · cases h

theorem setA_new {k : IntKind} {n : Int} {v : Value} : ∀ (es : List (Value × Value)), findA k n es = some none → setA k n v es = es ++ [(.int k n, v)]
  | [], _ => rfl
  | (x, y) :: es, h => by
    unfold findA at h
    split at h
    · rename_i heq; cases heq
    · rename_i j q v' es' heq
      injection heq with heq1 heq2
      injection heq1 with heq1 heq3
      subst heq1; subst heq2; subst heq3
      split at h
      · split at h
        · simp at h
        · rename_i hnq
          simp only [setA, if_neg hnq, List.cons_append]
          rw [setA_new es h]
      · cases h
    · cases h

/-! ### in whatever order -/
def keyK (k : IntKind) (es : List (Value × Value)) : Prop := (∀ x ∈ es, ∃ n, x.1 = .int k n) ∧ (es.map (·.1)).Nodup
theorem keyK_tail {k : IntKind} {x : Value × Value} {es : List (Value × Value)} (h : keyK k (x :: es)) : keyK k es := ⟨fun y hy => h.1 y (by simp [hy]), by have := h.2; simp at this; exact this.2⟩
theorem keyK_perm {k : IntKind} {es es' : List (Value × Value)} (h : keyK k es) (p : es.Perm es') : keyK k es' := ⟨fun x hx => h.1 x (p.mem_iff.2 hx), (p.map _).nodup_iff.1 h.2⟩
theorem findA_none {k : IntKind} {n : Int} : ∀ (es : List (Value × Value)), keyK k es → (findA k n es = some none ↔ ∀ x ∈ es, x.1 ≠ .int k n)
  | [], _ => by simp [findA]
  | (x, y) :: es, h => by
    obtain ⟨m, hm⟩ := h.1 (x, y) (by simp)
    simp only at hm
    subst hm
    have ih := findA_none (n := n) es (keyK_tail h)
    simp only [findA, if_pos]
    by_cases hnm : n = m
    · subst hnm
      simp
    · rw [if_neg hnm, ih]
      simp [Ne.symm hnm]
theorem findA_some {k : IntKind} {n : Int} {v : Value} : ∀ (es : List (Value × Value)), keyK k es → (findA k n es = some (some v) ↔ (.int k n, v) ∈ es)
  | [], _ => by simp [findA]
  | (x, y) :: es, h => by
    obtain ⟨m, hm⟩ := h.1 (x, y) (by simp)
    simp only at hm
    subst hm
    have ih := findA_some (n := n) (v := v) es (keyK_tail h)
    simp only [findA, if_pos]
    by_cases hnm : n = m
    · subst hnm
      rw [if_pos rfl]
      have hnd := h.2
      simp only [List.map_cons, List.nodup_cons] at hnd
      constructor
      · intro e; injection e with e; injection e with e; subst e; simp
      · intro e
        rcases List.mem_cons.1 e with e | e
        · injection e with _ e; rw [e]
        · exact absurd (List.mem_map.2 ⟨_, e, rfl⟩) hnd.1
    · rw [if_neg hnm, ih]
      simp [hnm]
theorem findA_perm {k : IntKind} {n : Int} {r : Option Value} {es es' : List (Value × Value)} (h : keyK k es) (p : es.Perm es') (hf : findA k n es = some r) : findA k n es' = some r := by
  have h' := keyK_perm h p
  cases r with
  | none => rw [findA_none _ h'] ; rw [findA_none _ h] at hf; exact fun x hx => hf x (p.mem_iff.2 hx)
  | some v => rw [findA_some _ h']; rw [findA_some _ h] at hf; exact p.mem_iff.1 hf
def setF (k : IntKind) (n : Int) (u : Value) (x : Value × Value) : Value × Value := match x.1 with
  | .int _ m => if n = m then (.int k n, u) else x
  | _ => x
theorem setF_id {k : IntKind} {n : Int} {u : Value} : ∀ (es : List (Value × Value)), (∀ x ∈ es, ∃ m, x.1 = .int k m) → (∀ x ∈ es, x.1 ≠ .int k n) → es.map (setF k n u) = es
  | [], _, _ => rfl
  | (x, y) :: es, h, hn => by
    obtain ⟨m, hm⟩ := h (x, y) (by simp)
    simp only at hm
    subst hm
    have hnm : n ≠ m := fun e => hn (.int k m, y) (by simp) (by rw [e])
    rw [List.map_cons, setF_id es (fun z hz => h z (by simp [hz])) (fun z hz => hn z (by simp [hz]))]
    simp only [setF, if_neg hnm]
theorem setA_map {k : IntKind} {n : Int} {u : Value} : ∀ (es : List (Value × Value)), keyK k es → (∃ v, findA k n es = some (some v)) → setA k n u es = es.map (setF k n u)
  | [], _, h => by obtain ⟨v, h⟩ := h; simp [findA] at h
  | (x, y) :: es, h, ⟨v, hv⟩ => by
    obtain ⟨m, hm⟩ := h.1 (x, y) (by simp)
    simp only at hm
    subst hm
    simp only [findA, if_pos] at hv
    by_cases hnm : n = m
    · subst hnm
      have hnd := h.2
      simp only [List.map_cons, List.nodup_cons] at hnd
      have hid := setF_id (k := k) (n := n) (u := u) es (keyK_tail h).1 (fun z hz e => hnd.1 (List.mem_map.2 ⟨z, hz, e⟩))
      rw [List.map_cons, hid]
      simp only [setA, setF, if_pos]
    · rw [if_neg hnm] at hv
      rw [List.map_cons, ← setA_map es (keyK_tail h) ⟨v, hv⟩]
      simp only [setA, setF, if_neg hnm]
theorem setA_perm {k : IntKind} {n : Int} {u : Value} {r : Option Value} {es es' : List (Value × Value)} (h : keyK k es) (p : es.Perm es') (hf : findA k n es = some r) : (setA k n u es).Perm (setA k n u es') := by
  have h' := keyK_perm h p
  have hf' := findA_perm h p hf
  cases r with
  | none => rw [setA_new es hf, setA_new es' hf']; exact p.append (.refl _)
  | some v => rw [setA_map es h ⟨v, hf⟩, setA_map es' h' ⟨v, hf'⟩]; exact p.map _
theorem setF_key {k : IntKind} {n : Int} {u : Value} {x : Value × Value} (h : ∃ m, x.1 = .int k m) : (setF k n u x).1 = x.1 := by
  obtain ⟨m, hm⟩ := h
  unfold setF
  rw [hm]
  simp only
  split
  · rename_i e; subst e; rfl
  · exact hm
theorem setA_keys {k : IntKind} {n : Int} {u : Value} {r : Option Value} {es : List (Value × Value)} (h : keyK k es) (hf : findA k n es = some r) : keyK k (setA k n u es) := by
  cases r with
  | none =>
    rw [setA_new es hf]
    rw [findA_none _ h] at hf
    refine ⟨fun x hx => ?_, ?_⟩
    · rcases List.mem_append.1 hx with hx | hx
      · exact h.1 x hx
      · have : x = (.int k n, u) := by simpa using hx
        exact ⟨n, by rw [this]⟩
    · rw [List.map_append, List.nodup_append]
      refine ⟨h.2, by simp, fun a ha b hb => ?_⟩
      obtain ⟨x, hx, rfl⟩ := List.mem_map.1 ha
      have : b = .int k n := by simpa using hb
      rw [this]
      exact hf x hx
  | some v =>
    have e : (setA k n u es).map (·.1) = es.map (·.1) := by
      rw [setA_map es h ⟨v, hf⟩, List.map_map]
      refine List.map_congr_left fun x hx => ?_
      exact setF_key (h.1 x hx)
    refine ⟨fun x hx => ?_, by rw [e]; exact h.2⟩
    have : x.1 ∈ es.map (·.1) := by rw [← e]; exact List.mem_map.2 ⟨x, hx, rfl⟩
    obtain ⟨y, hy, hyx⟩ := List.mem_map.1 this
    rw [← hyx]
    exact h.1 y hy
/-- The kind is the one that is looked for. -/
theorem keys_kind {k : IntKind} {n : Int} {r : Option Value} {es : List (Value × Value)} (h : KeysOk es) (hf : findA k n es = some r) : keyK k es := by
  obtain ⟨j, h1, h2⟩ := h
  cases es with
  | nil => exact ⟨by simp, by simp⟩
  | cons x es =>
    obtain ⟨m, hm⟩ := h1 x (by simp)
    obtain ⟨a, b⟩ := x
    simp only at hm
    subst hm
    by_cases hjk : j = k
    · subst hjk; exact ⟨h1, h2⟩
    · simp [findA, hjk] at hf
theorem run_checkKey {w : World} {b : Bool} {n : Nat} {t : TypeId} {j k : IntKind} {m : Int} (hu : P.underlying t = some (.int j)) : (Instr.checkKey b (n + 1) t (.int k m)).run P w = .ok () w := by
  simp [Instr.checkKey, run_underlying hu]

def lookRes (z : Value) (ok : Bool) (res : Option (Nat × Value)) : Value := match res with
  | some (_, v) => if ok then .tuple #[v, .bool true] else v
  | none => if ok then .tuple #[z, .bool false] else z
theorem run_lookup {w : World} {t kt e : TypeId} {jk : IntKind} {ok : Bool} {z : Value} {i : TypeInfo} {k : IntKind} {n : Int} (hu : P.underlying t = some (.map kt e)) (hk : P.underlying kt = some (.int jk)) (hi : P.info? e = some i) (hz : i.zero = some z)
    (x' : Option Nat) (ms : Array MapEntry) (hms : (x' = none ∧ ms = #[]) ∨ ∃ r clock, x' = some r ∧ w.heap[r]? = some (.map ms clock)) (res : Option (Nat × Value)) (hres : Instr.findNow (.int jk) (.int k n) ms.toList 0 = some res) :
    (Instr.lookup t (.map x') (.int k n) ok).run P w = .ok (lookRes z ok res) w := by
  have hck := run_checkKey (P := P) (w := w) (b := ms.isEmpty) (n := 9999) (k := k) (m := n) hk
  have hf : (Instr.findKey kt (.int k n) ms.toList).run P w = .ok res w := by
    simp only [Instr.findKey, Sem.run_bind, run_underlying hk, Result.andThen_ok, hres, Sem.run_pure]
  rcases hms with ⟨rfl, rfl⟩ | ⟨r, clock, rfl, hg⟩
  · simp only [Instr.lookup, Sem.run_bind, run_underlying hu, Result.andThen_ok, Sem.run_pure, hck, hf]
    cases res with
    | none => simp only [Sem.run_bind, run_zero hi hz, Result.andThen_ok, Sem.run_pure, lookRes]
    | some x => simp only [Sem.run_bind, Sem.run_pure, Result.andThen_ok, lookRes]
  · have hget : (getObj r).run P w = .ok (.map ms clock) w := by simp [getObj, Sem.run, hg]
    simp only [Instr.lookup, Sem.run_bind, run_underlying hu, Result.andThen_ok, hget, Sem.run_pure, hck, hf]
    cases res with
    | none => simp only [Sem.run_bind, run_zero hi hz, Result.andThen_ok, Sem.run_pure, lookRes]
    | some x => simp only [Sem.run_bind, Sem.run_pure, Result.andThen_ok, lookRes]

theorem lookup_sound {φ : Phi} {σ τ : AW} {w : World} {t kt e : TypeId} {jk : IntKind} {ok : Bool} {x y x' y' z v : Value} (hw : WR P φ σ w) (hu : P.underlying t = some (.map kt e)) (hk : P.underlying kt = some (.int jk)) (hz : zeroA P e = some z)
    (h : lookupA z ok x y σ = some (v, τ)) (hx : VR φ x x') (hy : VR φ y y') : DoneV P φ σ w v τ ((Instr.lookup t x' y' ok).run P w) := by
  obtain ⟨i, hi, hz1, hz2, hz3⟩ := zero_some hz
  unfold lookupA at h
  split at h
  · rename_i k n
    simp only [VR] at hy; subst hy
    have znone : VR φ (if ok then .tuple #[z, .bool false] else z) (lookRes z ok none) := by
      cases ok
      · exact VR.flat_refl hz2
      · exact VR.flat_refl (by simp [flat, flatL, hz2])
    have zsome : ∀ u u' j, VR φ u u' → VR φ (if ok then .tuple #[u, .bool true] else u) (lookRes z ok (some (j, u'))) := by
      intro u u' j hvr
      cases ok
      · exact hvr
      · exact VR.tuple_mk (VRs.cons hvr (VRs.cons (by simp [VR]) VRs.nil))
    cases x with
    | map r =>
      cases r with
      | none =>
        simp only [VR] at hx; subst hx
        simp only [Option.some.injEq, Prod.mk.injEq] at h
        obtain ⟨rfl, rfl⟩ := h
        exact .still hw (run_lookup hu hk hi hz1 none #[] (.inl ⟨rfl, rfl⟩) none rfl) znone
      | some r =>
        simp only [VR] at hx
        obtain ⟨p, hp, hp0, rfl⟩ := hx
        cases hg : σ.get r with
        | none => simp [hg] at h
        | some o =>
          cases o with
          | cells _ _ _ => simp [hg] at h
          | iter _ _ => simp [hg] at h
          | map es =>
            obtain ⟨q, hq, ho⟩ := hw.dom _ _ hg
            rw [hp] at hq; injection hq with hq; subst hq
            obtain ⟨_, hko, es', ms, clock, hperm, g1, g2, g3, g4, g5⟩ := ho
            simp only [hg] at h
            cases hf : findA k n es with
            | none => simp [hf] at h
            | some r' =>
              simp only [hf] at h
              have hf' := findA_perm (keys_kind hko hf) hperm hf
              rcases findNow_at (t := jk) es' ms.toList r' 0 hf' g2 g3 with ⟨rfl, a1⟩ | ⟨u, u', j, m, rfl, a1, a2, _⟩
              · simp only [Option.some.injEq, Prod.mk.injEq] at h
                obtain ⟨rfl, rfl⟩ := h
                exact .still hw (run_lookup hu hk hi hz1 (some p.blk) ms (.inr ⟨_, clock, rfl, g1⟩) none a1) znone
              · simp only [Option.some.injEq, Prod.mk.injEq] at h
                obtain ⟨rfl, rfl⟩ := h
                exact .still hw (run_lookup hu hk hi hz1 (some p.blk) ms (.inr ⟨_, clock, rfl, g1⟩) _ a1) (zsome u u' _ a2)
    | _ => simp at h
  · cases h

theorem mapSet_sound {φ : Phi} {σ τ : AW} {w : World} {t kt e : TypeId} {jk : IntKind} {x y u x' y' u' v : Value} (hw : WR P φ σ w) (hu : P.underlying t = some (.map kt e)) (hk : P.underlying kt = some (.int jk))
    (h : mapSetA x y u σ = some (v, τ)) (hx : VR φ x x') (hy : VR φ y y') (hvu : VR φ u u') : ∃ w', (Instr.mapUpdate t x' y' u').run P w = .ok () w' ∧ v = .tuple #[] ∧ WR P φ τ w' ∧ FR φ σ w φ τ w' := by
  unfold mapSetA at h
  split at h
  · rename_i r k n
    simp only [VR] at hx hy
    subst hy
    obtain ⟨p, hp, hp0, rfl⟩ := hx
    cases hg : σ.get r with
    | none => simp [hg] at h
    | some o =>
      cases o with
      | cells _ _ _ => simp [hg] at h
      | iter _ _ => simp [hg] at h
      | map es =>
        obtain ⟨q, hq, ho⟩ := hw.dom _ _ hg
        rw [hp] at hq; injection hq with hq; subst hq
        obtain ⟨_, hko, es', ms, clock, hperm, g1, g2, g3, g4, g5⟩ := ho
        simp only [hg] at h
        have hget : (getObj p.blk).run P w = .ok (.map ms clock) w := by simp [getObj, Sem.run, g1]
        have hset : ∀ o : Obj, (setObj p.blk o).run P w = .ok () { w with heap := w.heap.setIfInBounds p.blk o } := by intro o; simp [setObj, Sem.run, g1]
        have hck := run_checkKey (P := P) (w := w) (b := false) (n := 9999) (k := k) (m := n) hk
        cases hf : findA k n es with
        | none => simp [hf] at h
        | some r' =>
          simp only [hf] at h
          split at h
          · simp only [Option.some.injEq, Prod.mk.injEq] at h
            obtain ⟨rfl, rfl⟩ := h
            have hkk := keys_kind hko hf
            have hf' := findA_perm hkk hperm hf
            have hks : KeysOk (setA k n u es) := ⟨k, (setA_keys hkk hf).1, (setA_keys hkk hf).2⟩
            have hps : (setA k n u es).Perm (setA k n u es') := setA_perm hkk hperm hf
            rcases findNow_at (t := jk) es' ms.toList r' 0 hf' g2 g3 with ⟨rfl, a1⟩ | ⟨q, q', j, m, rfl, a1, a2, a3, a4, _, a6, a7⟩
            · have hfk : (Instr.findKey kt (.int k n) ms.toList).run P w = .ok none w := by
                simp only [Instr.findKey, Sem.run_bind, run_underlying hk, Result.andThen_ok, a1, Sem.run_pure]
              obtain ⟨r1, r2⟩ := hw.update (o' := .map (setA k n u es)) hg rfl hp (.map (ms.push { key := .int k n, val := u', born := clock }) (clock + 1))
                ⟨hp0, hks, setA k n u es', ms.push { key := .int k n, val := u', born := clock }, clock + 1, hps, by simp [hw.blk _ _ hp], by
                  rw [setA_new es' hf']
                  simpa using g2.append (VRs.cons (show VR φ (.int k n) (.int k n) by simp [VR]) VRs.nil), by
                  rw [setA_new es' hf']
                  simpa using g3.append (VRs.cons hvu VRs.nil), by
                  intro m hm
                  simp at hm
                  rcases hm with hm | rfl
                  · have := g4 m (by simpa using hm); omega
                  · simp, by
                  rw [Array.toList_push, List.map_append, List.nodup_append]
                  refine ⟨g5, by simp, fun a ha b hb => ?_⟩
                  obtain ⟨m, hm, rfl⟩ := List.mem_map.1 ha
                  have := g4 m hm
                  have hbc : b = clock := by simpa using hb
                  omega⟩ rfl
              refine ⟨_, ?_, rfl, r1, r2⟩
              simp only [Instr.mapUpdate, Sem.run_bind, run_underlying hu, Result.andThen_ok, hget, hck, hfk, hset]
            · have hfk : (Instr.findKey kt (.int k n) ms.toList).run P w = .ok (some (0 + j, q')) w := by
                simp only [Instr.findKey, Sem.run_bind, run_underlying hk, Result.andThen_ok, a1, Sem.run_pure]
              have hmj : ms[j]? = some m := by simpa using a3
              have hky : (Instr.keyThatStays (((ms[0 + j]?).map (·.key)).getD (.int k n)) (.int k n)).run P w = .ok (.int k n) w := by
                rw [Nat.zero_add, hmj]
                simp [Instr.keyThatStays, a4, Instr.sameBits]
              have hmod : (ms.modify (0 + j) fun e => { e with key := .int k n, val := u' }).toList = ms.toList.modify j fun e => { e with key := .int k n, val := u' } := by
                rw [Nat.zero_add]; simp
              obtain ⟨r1, r2⟩ := hw.update (o' := .map (setA k n u es)) hg rfl hp (.map (ms.modify (0 + j) fun e => { e with key := .int k n, val := u' }) clock)
                ⟨hp0, hks, setA k n u es', ms.modify (0 + j) fun e => { e with key := .int k n, val := u' }, clock, hps, by simp [hw.blk _ _ hp], by rw [hmod]; exact a7 u u', by rw [hmod]; exact a6 u u' hvu, by
                  rw [hmod]
                  intro m' hm'
                  obtain ⟨jj, hjj⟩ := List.mem_iff_getElem?.1 hm'
                  rw [List.getElem?_modify] at hjj
                  cases hmm : ms.toList[jj]? with
                  | none => rw [hmm] at hjj; simp at hjj
                  | some m0 =>
                    rw [hmm] at hjj
                    have := g4 m0 (List.mem_of_getElem? hmm)
                    split at hjj
                    · simp at hjj; subst hjj; exact this
                    · simp at hjj; subst hjj; exact this, by
                  rw [hmod]
                  have eb : ∀ (l : List MapEntry) (j : Nat), (l.modify j fun e => { e with key := .int k n, val := u' }).map (·.born) = l.map (·.born) := by
                    intro l
                    induction l with
                    | nil => intro j; cases j <;> rfl
                    | cons a l ih =>
                      intro j
                      cases j with
                      | zero => rfl
                      | succ j => simp [List.modify_succ_cons, ih j]
                  rw [eb]
                  exact g5⟩ rfl
              refine ⟨_, ?_, rfl, r1, r2⟩
              simp only [Instr.mapUpdate, Sem.run_bind, run_underlying hu, Result.andThen_ok, hget, hck, hfk, hky, hset]
          · cases h
  · cases h

/-! ### an operation -/
/-- What a call of a function yields, whatever the model's heap. -/
def CallsOk (P : Program) (call : FuncId → List Value → AM Value) : Prop :=
  ∀ f args σ v τ, call f args σ = some (v, τ) → (∃ fn, P.funcs[f]? = some fn ∧ fn.body.isSome = true ∧ (fn.name == "runtime.NumGoroutine") = false) ∧
    ∀ φ w (args' : Array Value), WR P φ σ w → VRs φ args args'.toList →
      Calls P f args' w fun e w' => ∃ ψ v', e = .returned v' ∧ VR ψ v v' ∧ WR P ψ τ w' ∧ FR φ σ w ψ τ w'

/-- An operation that stands for the model's. -/
def OpOk (P : Program) (o : Oper) (φ : Phi) (σ : AW) (w : World) (v : Value) (τ : AW) (a : Act) : Prop :=
  ∀ (next : Act → World → Prop) (Q : Exit → Act → World → Prop), (∀ ψ v' w', VR ψ v v' → WR P ψ τ w' → FR φ σ w ψ τ w' → next (a.put o.dst v') w') → o.wp P a w next Q

theorem OpOk.of_value {o : Oper} {φ : Phi} {σ τ : AW} {w : World} {v : Value} {a : Act} {s : Sem Value} (he : execOp a.eval o = (do pure (.value (← s)))) (h : DoneV P φ σ w v τ (s.run P w)) : OpOk P o φ σ w v τ a := by
  obtain ⟨ψ, v', w', h1, h2, h3, h4⟩ := h
  intro next Q hn
  unfold Oper.wp
  rw [he]
  simp only [Sem.run_bind, h1, Result.andThen_ok, Sem.run_pure]
  exact hn ψ v' w' h2 h3 h4
theorem OpOk.of_unit {o : Oper} {φ : Phi} {σ τ : AW} {w : World} {v : Value} {a : Act} {s : Sem Unit} (he : execOp a.eval o = (do s; pure .skip)) (h : ∃ w', s.run P w = .ok () w' ∧ v = .tuple #[] ∧ WR P φ τ w' ∧ FR φ σ w φ τ w') : OpOk P o φ σ w v τ a := by
  obtain ⟨w', h1, rfl, h3, h4⟩ := h
  intro next Q hn
  unfold Oper.wp
  rw [he]
  simp only [Sem.run_bind, h1, Result.andThen_ok, Sem.run_pure]
  exact hn φ _ w' (VR.flat_refl rfl) h3 h4
theorem OpOk.same {o : Oper} {φ : Phi} {σ : AW} {w : World} {v v' : Value} {a : Act} (hw : WR P φ σ w) (he : execOp a.eval o = pure (.value v')) (h : VR φ v v') : OpOk P o φ σ w v σ a := by
  intro next Q hn
  unfold Oper.wp
  rw [he]
  simp only [Sem.run_pure]
  exact hn φ v' w h hw (FR.refl _ _ _)

theorem call_sound {call : FuncId → List Value → AM Value} (hc : CallsOk P call) {o : Oper} {φ : Phi} {σ τ : AW} {w : World} {f f' v : Value} {args : List Value} {args' : Array Value} {a : Act} (hw : WR P φ σ w)
    (he : execOp a.eval o = (do let d ← Deferred.ofValue f' args'; invoke d.target d.args)) (h : callA call f args σ = some (v, τ)) (hf : VR φ f f') (ha : VRs φ args args'.toList) : OpOk P o φ σ w v τ a := by
  unfold callA at h
  split at h
  · rename_i g first cap
    simp only [VR] at hf
    obtain ⟨fs', cs', rfl, h1, h2⟩ := hf
    obtain ⟨⟨fn, hfn, hb, hnm⟩, hcall⟩ := hc _ _ _ _ _ h
    intro next Q hn
    unfold Oper.wp
    rw [he]
    have hrun : ((do let d ← Deferred.ofValue (.func (.func g) ⟨fs'⟩ ⟨cs'⟩) args'; invoke d.target d.args : Sem Next)).run P w = .ok (.enter g ((⟨fs'⟩ ++ args') ++ ⟨cs'⟩)) w := by
      have hb' : ¬ fn.body = none := by intro hx; simp [hx] at hb
      have hn' : ¬ fn.name = "runtime.NumGoroutine" := by simpa using hnm
      simp [Deferred.ofValue, invoke, callFunc, hfn, hn', hb']
    rw [hrun]
    simp only [Oper.upon]
    refine Calls.mono (hcall φ w _ hw ?_) ?_
    · simpa using (h1.append ha).append h2
    · rintro e w' ⟨ψ, v', rfl, h3, h4, h5⟩
      exact hn ψ v' w' h3 h4 h5
  · exact (fail_none h).elim

theorem VRs.ofMap {φ : Phi} {ρ ρ' : Operand → Value} (h : ∀ x, VR φ (ρ x) (ρ' x)) (l : List Operand) : VRs φ (l.map ρ) (l.map ρ') := VRs.map l fun x _ => h x
theorem Opt2.map {φ : Phi} {ρ ρ' : Operand → Value} (h : ∀ x, VR φ (ρ x) (ρ' x)) (o : Option Operand) : Opt2 φ (o.map ρ) (o.map ρ') := by
  cases o <;> simp [Opt2, h]

theorem needU_some {t : TypeId} {r : Value × AW} {σ : AW} {f : TypeDesc → AM Value} {g : AM Value} (h : (match P.underlying t with | some d => f d | none => g) σ = some r) (hg : g = fail) : ∃ d, P.underlying t = some d ∧ f d σ = some r := by
  cases hd : P.underlying t with
  | none => rw [hd] at h; simp only at h; rw [hg] at h; exact (fail_none h).elim
  | some d => rw [hd] at h; exact ⟨d, rfl, h⟩

theorem exec_sound {call : FuncId → List Value → AM Value} (hc : CallsOk P call) {o : Oper} {φ : Phi} {σ τ : AW} {w : World} {v : Value} {a : Act} {ρ : Operand → Value} (hw : WR P φ σ w)
    (h : execA P call o ρ σ = some (v, τ)) (hρ : ∀ x, VR φ (ρ x) (a.eval x)) : OpOk P o φ σ w v τ a := by
  unfold execA at h
  generalize ho : o.op = op at h
  cases op with
  | move x => obtain ⟨rfl, rfl⟩ := ret_some h; exact OpOk.same hw (by simp [execOp, ho]) (hρ x)
  | assign x => obtain ⟨rfl, rfl⟩ := ret_some h; exact OpOk.same hw (by simp [execOp, ho]) (hρ x)
  | pick c x y => exact OpOk.of_value (s := do pure (if ← asBool (a.eval c) then a.eval x else a.eval y)) (by simp [execOp, ho]) (pick_sound hw h (hρ c) (hρ x) (hρ y))
  | alloc e =>
    obtain ⟨z, hz, h⟩ := need_some h
    exact OpOk.of_value (by simp only [execOp, ho]) (alloc_sound hw hz h)
  | box e x => exact OpOk.of_value (by simp only [execOp, ho]) (box_sound hw h (hρ x))
  | build t parts =>
    have hp : (parts.map fun (i, x) => (i, a.eval x)) = (parts.toList.map fun x => (x.1, a.eval x.2)).toArray := by
      apply Array.ext'; simp
    cases hu : P.underlying t with
    | none => simp only [hu] at h; exact (fail_none h).elim
    | some d =>
      cases d <;> simp only [hu] at h <;> first
        | exact (fail_none h).elim
        | skip
      case array len e =>
        obtain ⟨n, hn, h⟩ := need_some h
        obtain ⟨z, hz, h⟩ := need_some h
        exact OpOk.of_value (by simp only [execOp, ho, hp]) (buildArr_sound hw hu hn hz h (parts_rel hρ _))
      case struct fs =>
        obtain ⟨pl, hpl, h⟩ := need_some h
        obtain ⟨z, hz, h⟩ := need_some h
        exact OpOk.of_value (by simp only [execOp, ho, hp]) (build_sound hw hu hpl hz h (parts_rel hρ _))
  | buildSlice t len parts =>
    have hp : (parts.map fun (i, x) => (i, a.eval x)) = (parts.toList.map fun x => (x.1, a.eval x.2)).toArray := by
      apply Array.ext'; simp
    cases hu : P.underlying t with
    | none => simp only [hu] at h; exact (fail_none h).elim
    | some d =>
      cases d <;> simp only [hu] at h <;> first
        | exact (fail_none h).elim
        | skip
      case slice e =>
        obtain ⟨n, hn, h⟩ := need_some h
        obtain ⟨z, hz, h⟩ := need_some h
        exact OpOk.of_value (by simp only [execOp, ho, hp]) (buildSlice_sound hw hu hn hz h (parts_rel hρ _))
  | insert t m k x =>
    cases hu : P.underlying t with
    | none => simp only [hu] at h; exact (fail_none h).elim
    | some d =>
      cases d <;> simp only [hu] at h <;> first
        | exact (fail_none h).elim
        | skip
      case map kt e =>
        cases hk : P.underlying kt with
        | none => simp only [hk] at h; exact (fail_none h).elim
        | some dk =>
          cases dk <;> simp only [hk] at h <;> first
            | exact (fail_none h).elim
            | exact OpOk.of_unit (by simp only [execOp, ho]) (mapSet_sound hw hu hk h (hρ m) (hρ k) (hρ x))
  | load t x =>
    obtain ⟨k, hk, h⟩ := need_some h
    exact OpOk.of_value (by simp only [execOp, ho]) (load_sound hw hk h (hρ x))
  | store t x y =>
    obtain ⟨n, hn, h⟩ := need_some h
    exact OpOk.of_unit (by simp only [execOp, ho]) (store_sound hw hn h (hρ x) (hρ y))
  | nilCheck x =>
    obtain ⟨rfl, h2, b, hb⟩ := nilCheck_sound h (hρ x)
    exact OpOk.same hw (by simp only [execOp, ho, hb]) (hb ▸ h2)
  | binOp op t x y yt => exact OpOk.of_value (s := do eqGuard op t x y (a.eval x) (a.eval y); binOp op t (a.eval x) (a.eval y)) (by simp only [execOp, ho]) (bin_sound hw h (hρ x) (hρ y))
  | unOp op t x => exact OpOk.of_value (by simp only [execOp, ho]) (un_sound hw h (hρ x))
  | convert s d x =>
    cases hs : P.underlying s with
    | none => simp only [hs] at h; exact (fail_none h).elim
    | some ds =>
      cases hd : P.underlying d with
      | none => cases ds <;> simp only [hs, hd] at h <;> exact (fail_none h).elim
      | some dd =>
        cases ds <;> cases dd <;> simp only [hs, hd] at h <;> first
          | exact (fail_none h).elim
          | exact OpOk.of_value (by simp only [execOp, ho]) (convInt_sound hw hs hd h (hρ x))
          | exact OpOk.of_value (by simp only [execOp, ho]) (convStr_sound hw hs hd h (hρ x))
          | skip
        case string.slice e =>
          cases he : P.underlying e with
          | none => simp only [he] at h; exact (fail_none h).elim
          | some de =>
            cases de <;> simp only [he] at h <;> first
              | exact (fail_none h).elim
              | skip
            case int k =>
              cases k <;> simp only at h <;> first
                | exact (fail_none h).elim
                | exact OpOk.of_value (by simp only [execOp, ho]) (toBytes_sound hw hs hd he h (hρ x))
        case slice.string e =>
          cases he : P.underlying e with
          | none => simp only [he] at h; exact (fail_none h).elim
          | some de =>
            cases de <;> simp only [he] at h <;> first
              | exact (fail_none h).elim
              | skip
            case int k =>
              cases k <;> simp only at h <;> first
                | exact (fail_none h).elim
                | exact OpOk.of_value (by simp only [execOp, ho]) (toStr_sound hw hs he hd h (hρ x))
  | makeInterface t x =>
    cases hu : P.underlying t with
    | none => simp only [hu] at h; exact (fail_none h).elim
    | some d =>
      cases d <;> simp only [hu] at h <;> first
        | exact (fail_none h).elim
        | exact OpOk.of_value (by simp only [execOp, ho]) (iface_sound hw hu (by intro ms hh; cases hh) h (hρ x))
  | makeFunc fn first cap =>
    cases fn with
    | func g =>
      obtain ⟨rfl, rfl⟩ := ret_some h
      refine OpOk.same hw (v' := .func (.func g) (first.map a.eval) (cap.map a.eval)) (by simp [execOp, ho, Instr.makeFunc]) ?_
      simp only [VR]
      exact ⟨first.toList.map a.eval, cap.toList.map a.eval, by congr 1 <;> (apply Array.ext'; simp), VRs.ofMap hρ _, VRs.ofMap hρ _⟩
    | _ => exact (fail_none h).elim
  | makeMap t r =>
    cases r with
    | none => exact OpOk.of_value (by simp only [execOp, ho]; rfl) (newMap_sound hw h)
    | some _ => exact (fail_none h).elim
  | makeSlice t l c =>
    cases hu : P.underlying t with
    | none => simp only [hu] at h; exact (fail_none h).elim
    | some d =>
      cases d <;> simp only [hu] at h <;> first
        | exact (fail_none h).elim
        | skip
      case slice e =>
        obtain ⟨i, hi, h⟩ := need_some h
        obtain ⟨z, hz, h⟩ := need_some h
        exact OpOk.of_value (by simp only [execOp, ho]) (makeSlice_sound hw hu hi hz h (hρ l) (hρ c))
  | slice t x lo hi mx =>
    cases mx with
    | some _ => exact (fail_none h).elim
    | none =>
      cases hu : P.underlying t with
      | none => simp only [hu] at h; exact (fail_none h).elim
      | some d =>
        cases d <;> simp only [hu] at h <;> first
          | exact (fail_none h).elim
          | exact OpOk.of_value (by simp only [execOp, ho, Option.map_none]) (sliceStr_sound hw hu h (hρ x) (Opt2.map hρ hi) (Opt2.map hρ lo))
          | skip
        case slice e =>
          obtain ⟨n, hn, h⟩ := need_some h
          exact OpOk.of_value (by simp only [execOp, ho, Option.map_none]) (slice_sound hw hu hn h (hρ x) (Opt2.map hρ hi) (Opt2.map hρ lo))
  | fieldAddr s x f =>
    cases hu : P.underlying s with
    | none => simp only [hu] at h; exact (fail_none h).elim
    | some d =>
      cases d <;> simp only [hu] at h <;> first
        | exact (fail_none h).elim
        | skip
      case struct fs =>
        obtain ⟨fl, hfl, h⟩ := need_some h
        cases hn : sizeA P fl.type with
        | none => simp only [hn] at h; exact (fail_none h).elim
        | some n =>
          cases n with
          | zero => simp only [hn] at h; exact (fail_none h).elim
          | succ n =>
            simp only [hn] at h
            exact OpOk.of_value (by simp only [execOp, ho]) (fieldAddr_sound hw hu hfl hn (by omega) h (hρ x))
  | field t x f =>
    cases hu : P.underlying t with
    | none => simp only [hu] at h; exact (fail_none h).elim
    | some d =>
      cases d <;> simp only [hu] at h <;> first
        | exact (fail_none h).elim
        | skip
      case struct fs =>
        obtain ⟨fl, hfl, h⟩ := need_some h
        obtain ⟨k, hk, h⟩ := need_some h
        exact OpOk.of_value (by simp only [execOp, ho]) (field_sound hw hu hfl hk h (hρ x))
  | indexAddr t x i =>
    cases hu : P.underlying t with
    | none => simp only [hu] at h; exact (fail_none h).elim
    | some d =>
      cases d <;> simp only [hu] at h <;> first
        | exact (fail_none h).elim
        | skip
      case slice e =>
        obtain ⟨n, hn, h⟩ := need_some h
        exact OpOk.of_value (by simp only [execOp, ho]) (indexAddr_sound hw hu hn h (hρ x) (hρ i))
      case array len e =>
        obtain ⟨n, hn, h⟩ := need_some h
        exact OpOk.of_value (by simp only [execOp, ho]) (indexArrAddr_sound hw hu hn h (hρ x) (hρ i))
  | index t x i =>
    cases hu : P.underlying t with
    | none => simp only [hu] at h; exact (fail_none h).elim
    | some d =>
      cases d <;> simp only [hu] at h <;> first
        | exact (fail_none h).elim
        | exact OpOk.of_value (by simp only [execOp, ho]) (indexStr_sound hw hu h (hρ x) (hρ i))
        | skip
      case array len e =>
        obtain ⟨n, hn, h⟩ := need_some h
        obtain ⟨k, hk, h⟩ := need_some h
        exact OpOk.of_value (by simp only [execOp, ho]) (index_sound hw hu hn hk h (hρ x) (hρ i))
  | lookup t x i ok =>
    cases hu : P.underlying t with
    | none => simp only [hu] at h; exact (fail_none h).elim
    | some d =>
      cases d <;> simp only [hu] at h <;> first
        | exact (fail_none h).elim
        | skip
      case map kt e =>
        cases hk : P.underlying kt with
        | none => simp only [hk] at h; exact (fail_none h).elim
        | some dk =>
          cases dk <;> simp only [hk] at h <;> first
            | exact (fail_none h).elim
            | skip
          case int k =>
            obtain ⟨z, hz, h⟩ := need_some h
            exact OpOk.of_value (by simp only [execOp, ho]) (lookup_sound hw hu hk hz h (hρ x) (hρ i))
  | mapUpdate t m k x =>
    cases hu : P.underlying t with
    | none => simp only [hu] at h; exact (fail_none h).elim
    | some d =>
      cases d <;> simp only [hu] at h <;> first
        | exact (fail_none h).elim
        | skip
      case map kt e =>
        cases hk : P.underlying kt with
        | none => simp only [hk] at h; exact (fail_none h).elim
        | some dk =>
          cases dk <;> simp only [hk] at h <;> first
            | exact (fail_none h).elim
            | exact OpOk.of_unit (by simp only [execOp, ho]) (mapSet_sound hw hu hk h (hρ m) (hρ k) (hρ x))
  | range t x =>
    cases hu : P.underlying t with
    | none => simp only [hu] at h; exact (fail_none h).elim
    | some d =>
      cases d <;> simp only [hu] at h <;> first
        | exact (fail_none h).elim
        | exact OpOk.of_value (by simp only [execOp, ho]) (range_sound hw hu h (hρ x))
  | next it isString =>
    cases isString with
    | false => exact (fail_none h).elim
    | true => exact OpOk.of_value (s := Instr.next (a.eval it) true o.type) (by simp only [execOp, ho]) (next_sound hw h (hρ it))
  | extract t i => exact OpOk.of_value (by simp only [execOp, ho]) (extract_sound hw h (hρ t))
  | call c =>
    cases hcal : c.callee with
    | value f =>
      simp only [hcal] at h
      have hp : c.args.map a.eval = (c.args.toList.map a.eval).toArray := by apply Array.ext'; simp
      exact call_sound hc hw (f' := a.eval f) (args' := (c.args.toList.map a.eval).toArray) (by simp only [execOp, ho, resolve, hcal, hp]) h (hρ f) (by simpa using VRs.ofMap hρ c.args.toList)
    | invoke r m => simp only [hcal] at h; exact (fail_none h).elim
    | builtin b =>
      simp only [hcal] at h
      have hp : c.args.map a.eval = (c.args.toList.map a.eval).toArray := by apply Array.ext'; simp
      have hex : execOp a.eval o = builtin b c.argTypes o.type (c.args.map fun | .const _ => true | _ => false) (c.args.toList.map a.eval).toArray := by
        simp only [execOp, ho, resolve, hcal, hp]
        rfl
      have hrel := VRs.ofMap hρ c.args.toList
      generalize c.args.toList.map ρ = as at h hrel
      generalize c.args.toList.map a.eval = as' at hex hrel
      unfold builtinA at h
      split at h
      · -- len
        rename_i x
        simp only [VRs] at hrel
        obtain ⟨x', _, rfl, hx, rfl⟩ := hrel
        cases ht : c.argTypes[0]? with
        | none => simp only [ht, Option.bind_none] at h; exact (fail_none h).elim
        | some t =>
          simp only [ht, Option.bind_some] at h
          cases hu : P.underlying t with
          | none => simp only [hu] at h; exact (fail_none h).elim
          | some d =>
            cases d <;> simp only [hu] at h <;> first
              | exact (fail_none h).elim
              | exact OpOk.of_value (s := Builtin.len_ c.argTypes o.type #[x']) (by rw [hex]; rfl) (len_sound hw ht hu h hx)
              | exact OpOk.of_value (s := Builtin.len_ c.argTypes o.type #[x']) (by rw [hex]; rfl) (lenStr_sound hw ht hu h hx)
      · -- append
        rename_i x y
        simp only [VRs] at hrel
        obtain ⟨x', _, rfl, hx, y', _, rfl, hy, rfl⟩ := hrel
        cases ht : c.argTypes[0]? with
        | none => simp only [ht, Option.bind_none] at h; exact (fail_none h).elim
        | some t =>
          cases ht1 : c.argTypes[1]? with
          | none =>
            simp only [ht, ht1, Option.bind_some, Option.bind_none] at h
            cases hu : P.underlying t with
            | none => simp only [hu] at h; exact (fail_none h).elim
            | some d => cases d <;> simp only [hu] at h <;> exact (fail_none h).elim
          | some u =>
            simp only [ht, ht1, Option.bind_some] at h
            cases hu : P.underlying t with
            | none => simp only [hu] at h; exact (fail_none h).elim
            | some d =>
              cases hdu : P.underlying u with
              | none => cases d <;> simp only [hu, hdu] at h <;> exact (fail_none h).elim
              | some du =>
                cases d <;> cases du <;> simp only [hu, hdu] at h <;> first
                  | exact (fail_none h).elim
                  | (obtain ⟨i, hi, h⟩ := need_some h
                     obtain ⟨z, hz, h⟩ := need_some h
                     split at h
                     · rename_i hcnd
                       exact OpOk.of_value (s := Builtin.append_ c.argTypes o.type #[x', y']) (by rw [hex]; rfl) (append_sound hw ht hu ht1 hdu (by intro k hk; cases hk) hi hz hcnd.1 hcnd.2 h hx hy)
                     · exact (fail_none h).elim)
      · -- copy
        rename_i x y
        simp only [VRs] at hrel
        obtain ⟨x', _, rfl, hx, y', _, rfl, hy, rfl⟩ := hrel
        cases ht : c.argTypes[0]? with
        | none => simp only [ht, Option.bind_none] at h; exact (fail_none h).elim
        | some t =>
          simp only [ht, Option.bind_some] at h
          cases hu : P.underlying t with
          | none => simp only [hu] at h; exact (fail_none h).elim
          | some d =>
            cases d <;> simp only [hu] at h <;> first
              | exact (fail_none h).elim
              | (obtain ⟨n, hn, h⟩ := need_some h
                 split at h
                 · rename_i h0
                   exact OpOk.of_value (s := Builtin.copy_ c.argTypes o.type #[x', y']) (by rw [hex]; rfl) (copy_sound hw ht hu hn h0 h hx hy)
                 · exact (fail_none h).elim)
      · rename_i x y
        simp only [VRs] at hrel
        obtain ⟨x', _, rfl, hx, y', _, rfl, hy, rfl⟩ := hrel
        exact OpOk.of_value (s := Builtin.min_ c.argTypes o.type #[x', y']) (by rw [hex]; rfl) (min_sound hw h hx hy)
      · rename_i x y
        simp only [VRs] at hrel
        obtain ⟨x', _, rfl, hx, y', _, rfl, hy, rfl⟩ := hrel
        exact OpOk.of_value (s := Builtin.max_ c.argTypes o.type #[x', y']) (by rw [hex]; rfl) (max_sound hw h hx hy)
      · -- unsafe.String
        rename_i x y
        simp only [VRs] at hrel
        obtain ⟨x', _, rfl, hx, y', _, rfl, hy, rfl⟩ := hrel
        cases ht : c.argTypes[0]? with
        | none => simp only [ht, Option.bind_none] at h; exact (fail_none h).elim
        | some t =>
          simp only [ht, Option.bind_some] at h
          cases hu : P.underlying t with
          | none => simp only [hu] at h; exact (fail_none h).elim
          | some d =>
            cases d <;> simp only [hu] at h <;> first
              | exact (fail_none h).elim
              | (obtain ⟨n, hn, h⟩ := need_some h
                 split at h
                 · rename_i h0
                   subst h0
                   exact OpOk.of_value (s := Builtin.unsafeString_ c.argTypes o.type #[x', y']) (by rw [hex]; rfl) (bytesStr_sound hw ht hu hn h hx hy)
                 · exact (fail_none h).elim)
      · exact (fail_none h).elim
  | _ => exact (fail_none h).elim

end Go.Proofs.Ytjmafbiklebjcaa.Eng
