/- New, in the model. -/
import Derived.Test.YtlgeeibaohdjhaaSettingC
import Derived.Laws.EntriesVeiled
set_option linter.unusedVariables false
set_option linter.unusedSimpArgs false
namespace Go.Proofs.Ytlgeeibaohdjhaa
open Go.Proofs.Ytlgeeibaohdjhaa.Eng
open Go.RowKit Go.ChangeMaps
def doneOf (S : List MapEntry) : List (Value × Value) := S.map fun e => (.int .i64 (ruleOf e).1, .int .u32 (ruleOf e).2)
/-- The loop's world. -/
structure Mid (N R m : Nat) (ms : Array MapEntry) (clock : Nat) (w wr : World) (S : List MapEntry) (seen : Array Nat) : Prop where
  below : Below N w wr
  mapAt : OR Try.prog (fun _ => none) ⟨N, 0, 0⟩ wr (.map (doneOf S))
  box : wr.heap[N + 1]? = some (.cells #[.map (some N), .slice none 0 0] 49)
  rules : wr.heap[m]? = some (.map ms clock)
  iter : ∃ c0, clock ≤ c0 ∧ wr.heap[R]? = some (.mapIter (some m) clock seen c0)
  size : R < wr.heap.size
  seen : seen.toList = S.map (·.born)
  sub : ∀ e ∈ S, e ∈ ms.toList
  nd : (S.map (·.born)).Nodup
def phi3 (N M : Nat) : Phi := fun b => if b = 0 then some ⟨N, 0, 0⟩ else if b = 1 then some ⟨N + 1, 0, 0⟩ else if b = 2 then some ⟨M, 0, 0⟩ else none
def sig3 (D : List (Value × Value)) (n : Int) : AW := (((⟨.nil, 0⟩ : AW).push (.map D)).push (.cells [.map (some 0), .slice none 0 0] 49 true)).push (.cells [.int .u32 n] 99 true)
theorem get_sig3 {D : List (Value × Value)} {n : Int} {b : Nat} {o : AObj} (h : (sig3 D n).get b = some o) : (b = 0 ∧ o = .map D) ∨ (b = 1 ∧ o = .cells [.map (some 0), .slice none 0 0] 49 true) ∨ (b = 2 ∧ o = .cells [.int .u32 n] 99 true) := by
  simp only [sig3, AW.get_push, AW.next_push] at h
  split at h
  · exact .inr (.inr ⟨by omega, by cases h; rfl⟩)
  split at h
  · exact .inr (.inl ⟨by omega, by cases h; rfl⟩)
  split at h
  · exact .inl ⟨by omega, by cases h; rfl⟩
  · simp [AW.get, Trie.get] at h
theorem wr3 {w : World} {N M : Nat} {D : List (Value × Value)} {n : Int} {f : Value} (hmap : OR Try.prog (phi3 N M) ⟨N, 0, 0⟩ w (.map D)) (hbox : w.heap[N + 1]? = some (.cells #[.map (some N), .slice none 0 0] 49)) (hr : w.heap[M]? = some (.cells #[.int .u32 n, f] 99)) (hNM : N + 1 < M) :
    WR Try.prog (phi3 N M) (sig3 D n) w := by
  have hM : M < w.heap.size := by
    rcases Nat.lt_or_ge M w.heap.size with h | h
    · exact h
    · rw [Array.getElem?_eq_none h] at hr; cases hr
  refine ⟨fun b p hb => ?_, fun b p hb => ?_, fun b o ho => ?_, fun b c x y p q hb hc hx hp hq he => ?_⟩
  · simp only [phi3] at hb
    simp only [sig3, AW.next_push]
    split at hb
    · omega
    split at hb
    · omega
    split at hb
    · omega
    · cases hb
  · simp only [phi3] at hb
    split at hb
    · cases hb; show N < _; omega
    split at hb
    · cases hb; show N + 1 < _; omega
    split at hb
    · cases hb; exact hM
    · cases hb
  · rcases get_sig3 ho with ⟨rfl, rfl⟩ | ⟨rfl, rfl⟩ | ⟨rfl, rfl⟩
    · exact ⟨_, rfl, hmap⟩
    · refine ⟨_, rfl, fun i v hi => ?_⟩
      match i with
      | 0 => injection hi with hi; subst hi; exact ⟨.map (some N), by simp [World.cell?, hbox], by simp [VR, phi3]⟩
      | 1 => injection hi with hi; subst hi; exact ⟨.slice none 0 0, by simp [World.cell?, hbox], by simp [VR]⟩
      | i + 2 => simp at hi
    · refine ⟨_, rfl, fun i v hi => ?_⟩
      match i with
      | 0 => injection hi with hi; subst hi; exact ⟨.int .u32 n, by simp [World.cell?, hr], by simp [VR]⟩
      | i + 1 => simp at hi
  · have hb0 : b = 0 := by
      rcases get_sig3 hb with ⟨rfl, rfl⟩ | ⟨rfl, rfl⟩ | ⟨rfl, rfl⟩
      · rfl
      · cases hx
      · cases hx
    subst hb0
    have e0 : p = ⟨N, 0, 0⟩ := by simp [phi3] at hp; exact hp.symm
    subst e0
    simp only [phi3] at hq
    split at hq
    · omega
    split at hq
    · cases hq; simp at he
    split at hq
    · cases hq; simp at he; omega
    · cases hq
theorem vrs_flat {φ ψ : Phi} {l l' : List Value} (h : flatL l = true) (k : VRs φ l l') : VRs ψ l l' := (VRs.of_flat l h l').2 ((VRs.of_flat l h l').1 k)
theorem flatL_iff : ∀ (l : List Value), (∀ v ∈ l, flat v = true) → flatL l = true
  | [], _ => rfl
  | v :: l, h => by simp [flatL, h v (by simp), flatL_iff l fun x hx => h x (by simp [hx])]
/-- Flat entries are what they are, whatever stands for what. -/
theorem or_flat {φ ψ : Phi} {p : Go.Proofs.Ytlgeeibaohdjhaa.Eng.Place} {w : World} {D : List (Value × Value)} (hf : ∀ x ∈ D, flat x.1 = true ∧ flat x.2 = true) (h : OR Try.prog φ p w (.map D)) : OR Try.prog ψ p w (.map D) := by
  obtain ⟨h1, h2, es', ms, clock, hp, hh, hk, hv, hr⟩ := h
  refine ⟨h1, h2, es', ms, clock, hp, hh, vrs_flat (flatL_iff _ ?_) hk, vrs_flat (flatL_iff _ ?_) hv, hr⟩
  · simp only [List.mem_map]
    rintro v ⟨x, hx, rfl⟩
    exact (hf x (hp.mem_iff.2 hx)).1
  · simp only [List.mem_map]
    rintro v ⟨x, hx, rfl⟩
    exact (hf x (hp.mem_iff.2 hx)).2
theorem done_flat (S : List MapEntry) : ∀ x ∈ doneOf S, flat x.1 = true ∧ flat x.2 = true := by
  simp only [doneOf, List.mem_map]
  rintro x ⟨e, _, rfl⟩
  exact ⟨rfl, rfl⟩
theorem tmps22 (l : Array Value) (h : l.size = 22) : l = #[l.getD 0 undef, l.getD 1 undef, l.getD 2 undef, l.getD 3 undef, l.getD 4 undef, l.getD 5 undef, l.getD 6 undef, l.getD 7 undef, l.getD 8 undef, l.getD 9 undef, l.getD 10 undef, l.getD 11 undef, l.getD 12 undef, l.getD 13 undef, l.getD 14 undef, l.getD 15 undef, l.getD 16 undef, l.getD 17 undef, l.getD 18 undef, l.getD 19 undef, l.getD 20 undef, l.getD 21 undef] := by
  obtain ⟨l⟩ := l
  simp only [List.size_toArray] at h
  match l, h with
  | [_, _, _, _, _, _, _, _, _, _, _, _, _, _, _, _, _, _, _, _, _, _], _ => rfl
theorem own3 {N M k : Nat} {D : List (Value × Value)} {n : Int} (h : owned (phi3 N M) (sig3 D n) k) : k = N := by
  obtain ⟨b, o, p, hb, ho, hp, he⟩ := h
  rcases get_sig3 hb with ⟨rfl, rfl⟩ | ⟨rfl, rfl⟩ | ⟨rfl, rfl⟩
  · simp [phi3] at hp; subst hp; exact he.symm
  · cases ho
  · cases ho
theorem find_done {k : Int} : ∀ (S : List MapEntry), (∀ e ∈ S, (ruleOf e).1 ≠ k) → findA .i64 k (doneOf S) = some none
  | [], _ => rfl
  | e :: S, h => by
    have h1 : ¬ k = (ruleOf e).1 := fun he => h e (by simp) he.symm
    have := find_done S fun x hx => h x (by simp [hx])
    simp only [doneOf] at this
    simp [doneOf, findA, h1, this]
theorem nodup_inj {α β : Type} {f : α → β} : ∀ {l : List α}, (l.map f).Nodup → ∀ {x y}, x ∈ l → y ∈ l → f x = f y → x = y
  | [], _, _, _, h, _, _ => by cases h
  | a :: l, h, x, y, hx, hy, he => by
    simp only [List.map_cons, List.nodup_cons, List.mem_map, not_exists, not_and] at h
    rcases List.mem_cons.1 hx with hx1 | hx1 <;> rcases List.mem_cons.1 hy with hy1 | hy1
    · rw [hx1, hy1]
    · exact (h.1 y hy1 (by rw [← he, hx1])).elim
    · exact (h.1 x hx1 (by rw [he, hy1])).elim
    · exact nodup_inj h.2 hx1 hy1 he
theorem alloc_size (w : World) (o : Obj) : (w.alloc o).heap.size = w.heap.size + 1 := Array.size_push _
theorem run5 {D : List (Value × Value)} {k n : Int} (hf : findA .i64 k D = some none) : wpA (bindV (ret (ptr 1)) fun v14 => bindV (nilCheckA v14) fun v15 => bindV (fieldAddrA 0 v15) fun v16 => bindV (loadA none v16) fun v17 => bindV (ret (.int .i64 k)) fun v18 => bindV (fieldAddrA 0 (ptr 2)) fun v19 => bindV (loadA none v19) fun v20 => bindV (mapSetA v17 v18 v20) fun _ => ret (Value.tuple #[])) (sig3 D n)
    fun v τ => v = Value.tuple #[] ∧ τ = (sig3 D n).put 0 (some (.map (D ++ [(.int .i64 k, .int .u32 n)]))) := by
  have g0 : (sig3 D n).get 0 = some (.map D) := by simp [sig3, AW.get_push]
  have g1 : (sig3 D n).get 1 = some (.cells [.map (some 0), .slice none 0 0] 49 true) := by simp [sig3, AW.get_push]
  have g2 : (sig3 D n).get 2 = some (.cells [.int .u32 n] 99 true) := by simp [sig3, AW.get_push]
  refine aw_bindV (aw_ret ?_)
  refine aw_bindV (aw_nilCheck ?_)
  refine aw_bindV (aw_fieldAddr ?_)
  refine aw_bindV (aw_load g1 rfl ?_)
  refine aw_bindV (aw_ret ?_)
  refine aw_bindV (aw_fieldAddr ?_)
  refine aw_bindV (aw_load g2 rfl ?_)
  refine aw_bindV ((wpA_mapSet g0 hf rfl).2 (aw_ret ⟨rfl, ?_⟩))
  rw [setA_new _ hf]
set_option maxRecDepth 1000000 in
theorem new_real (w : World) : Calls Try.prog 18 #[] w fun e w' => e = .returned (.pointer (some ⟨w.heap.size + 1, 0, none⟩)) ∧ ∃ R m ms clock S seen, Mid w.heap.size R m ms clock w w' S seen ∧ (∀ x ∈ ms.toList, seen.contains x.born = true) ∧ (ms.toList.map ruleOf).Perm first7 ∧ (ms.toList.map (·.born)).Nodup := by
  have hmm := @run_makeMap Try.prog
  generalize hN : w.heap.size = N
  go_enter Try.func18, Try.ntmps18
  go_wp2_with (go_at_call 50; refine (rules_real _).mono ?_)
  rintro e w2 ⟨m, ms, clock, rfl, hm1, hm2, hmm2, hborn, hnd, hrl, hpm, hbel⟩
  have hrg := run_range_map (P := Try.prog) w2 101 3 99 m ms clock Try.underlying101 hmm2
  go_wp2
  generalize hR : w2.heap.size = R
  simp only [alloc_size, hN] at hm1 hbel
  rw [hR] at hm2
  go_loopw [] (fun w' => ∃ S seen, Mid N R m ms clock w w' S seen) (fun w' => (leftOf ms (w'.iterSeen R)).size)
  case atStart =>
    have ha : ∀ i, i < R → (w2.alloc (.mapIter (some m) clock #[] clock)).heap[i]? = w2.heap[i]? := fun i hi => heap_alloc_old _ _ (by omega)
    have hw : ∀ i, i < N → ((w.alloc (.map #[] 0)).alloc (.cells #[.map (some N), .slice none 0 0] 49)).heap[i]? = w.heap[i]? := fun i hi => (heap_alloc_old _ _ (by rw [alloc_size]; omega)).trans (heap_alloc_old _ _ (by omega))
    have hsz := hbel.size
    simp only [alloc_size, hN] at hsz
    refine ⟨[], #[], ⟨hbel.os, hbel.tape, hbel.output, by rw [alloc_size]; omega, fun i hi => ((ha i (by omega)).trans (hbel.block i (by omega))).trans (hw i hi)⟩, ?_, ?_, (ha m (by omega)).trans hmm2, ⟨clock, Nat.le_refl _, ?_⟩, by rw [alloc_size]; omega, rfl, fun e he => (by cases he), by simp⟩
    · refine ⟨rfl, ⟨.i64, fun x hx => (by cases hx), by simp [doneOf]⟩, [], #[], 0, .refl _, ?_, rfl, rfl, fun x hx => (by cases hx), by simp⟩
      show (w2.alloc _).heap[N]? = _
      rw [ha N (by omega), hbel.block N (by omega), heap_alloc_old _ _ (by rw [alloc_size]; omega), ← hN, heap_alloc_new]
    · rw [ha _ (by omega), hbel.block _ (by omega)]
      have := heap_alloc_new (w.alloc (.map #[] 0)) (.cells #[.map (some N), .slice none 0 0] 49)
      rw [alloc_size, hN] at this
      exact this
    · rw [← hR]
      exact heap_alloc_new _ _
  case round =>
    obtain ⟨S, seen, hM⟩ := hrel
    obtain ⟨c0, hc0, hit⟩ := hM.iter
    rcases run_next_at (P := Try.prog) wr 0 R m clock c0 seen ms clock hit hM.rules hborn hc0 with ⟨h0, hrun⟩ | ⟨e, he, w1, hal2, hrun⟩
    · go_wp2
      go_ret
      exact ⟨rfl, R, m, ms, clock, S, seen, hM, all_seen ms seen h0, hpm, hnd⟩
    · obtain ⟨k, n, g, fs, cs, hk, hv⟩ := hrl e (mem_left he).1
      rw [hk, hv] at hrun
      generalize hw3 : setBlock w1 R (.mapIter (some m) clock (seen.push e.born) clock) = w3 at hrun
      have hM3 : w3.heap[R]? = some (.mapIter (some m) clock (seen.push e.born) clock) ∧ (∀ i, i ≠ R → w3.heap[i]? = wr.heap[i]?) ∧ w3.heap.size = wr.heap.size ∧ w3.os = wr.os ∧ w3.tape = wr.tape ∧ w3.output = wr.output := by
        have h1 : w1.heap = wr.heap ∧ w1.os = wr.os ∧ w1.tape = wr.tape ∧ w1.output = wr.output := by
          rcases hal2 with rfl | rfl <;> exact ⟨rfl, rfl, rfl, rfl⟩
        have hsz := hM.size
        rw [← hw3]
        refine ⟨?_, fun i hi => ?_, ?_, h1.2.1, h1.2.2.1, h1.2.2.2⟩
        · simp [setBlock, h1.1, hsz]
        · simp [setBlock, h1.1, Ne.symm hi]
        · simp [setBlock, h1.1]
      have hmR : m ≠ R := by omega
      have hen := run_entry_at (P := Try.prog) w3 R m clock seen ms clock e hM3.1 ((hM3.2.1 m hmR).trans hM.rules) (mem_left he).1 hnd
      rw [hk, hv] at hen
      go_wp2
      have hMs := hM.size
      have hes : seen.contains e.born = false := (mem_left he).2
      have hne : ∀ x ∈ S, x.born ≠ e.born := fun x hx hb => by
        have : e.born ∈ seen.toList := by rw [hM.seen, ← hb]; exact List.mem_map.2 ⟨x, hx, rfl⟩
        have h2 : seen.contains e.born = true := Array.contains_iff_mem.2 (Array.mem_toList_iff.1 this)
        rw [hes] at h2
        cases h2
      have hrk : (ruleOf e).1 = k ∧ (ruleOf e).2 = n := by simp [ruleOf, hk, hv]
      have hfd : findA .i64 k (doneOf S) = some none := find_done S fun x hx he' => by
        have h7 : (ms.toList.map fun x => (ruleOf x).1).Nodup := by
          have : (ms.toList.map fun x => (ruleOf x).1) = (ms.toList.map ruleOf).map (·.1) := by simp
          rw [this, (hpm.map _).nodup_iff]
          decide
        exact hne x hx (by rw [nodup_inj h7 (hM.sub x hx) (mem_left he).1 (he'.trans hrk.1.symm)])
      generalize hw4 : w3.alloc (.cells #[.int .u32 n, .func g fs cs] 99) = w4
      have h4 : ∀ i, i < wr.heap.size → w4.heap[i]? = w3.heap[i]? := fun i hi => by rw [← hw4]; exact heap_alloc_old _ _ (by omega)
      have h4M : w4.heap[wr.heap.size]? = some (.cells #[.int .u32 n, .func g fs cs] 99) := by rw [← hw4, ← hM3.2.2.1]; exact heap_alloc_new _ _
      have h4s : w4.heap.size = wr.heap.size + 1 := by rw [← hw4, alloc_size, hM3.2.2.1]
      have h4N : w4.heap[N]? = wr.heap[N]? := (h4 N (by omega)).trans (hM3.2.1 N (by omega))
      have h4b : w4.heap[N + 1]? = some (.cells #[.map (some N), .slice none 0 0] 49) := ((h4 _ (by omega)).trans (hM3.2.1 _ (by omega))).trans hM.box
      have h4o : w4.os = wr.os ∧ w4.tape = wr.tape ∧ w4.output = wr.output := by rw [← hw4]; exact ⟨hM3.2.2.2.1, hM3.2.2.2.2.1, hM3.2.2.2.2.2⟩
      refine wp_mono (runC_sound mixedM (callN_sound mixedM 0) 0 22 _ none ⟨⟨[], [], []⟩, []⟩ [(1, ptr 1), (2, .int .i64 k), (3, ptr 2)] (fun x _ => match x with | .normal => ret (Value.tuple #[]) | _ => fail) (Value.tuple #[], (sig3 (doneOf S) n).put 0 (some (.map (doneOf S ++ [(.int .i64 k, .int .u32 n)])))) (sig3 (doneOf S) n) (phi3 N wr.heap.size) _ _ _ rfl (by rfl) (Nat.le_refl _) ?hrun ⟨?er, ?wr⟩) fun q a' w5 hq => ?after
      case hrun =>
        obtain ⟨v, τ, h1, rfl, rfl⟩ := run5 (D := doneOf S) (k := k) (n := n) hfd
        refine Eq.trans (congrFun (?_ : _ = bindV (ret (ptr 1)) fun v14 => bindV (nilCheckA v14) fun v15 => bindV (fieldAddrA 0 v15) fun v16 => bindV (loadA none v16) fun v17 => bindV (ret (.int .i64 k)) fun v18 => bindV (fieldAddrA 0 (ptr 2)) fun v19 => bindV (loadA none v19) fun v20 => bindV (mapSetA v17 v18 v20) fun _ => ret (Value.tuple #[])) _) h1
        kernel_rfl
      case er =>
        intro t
        match t with
        | 1 => exact ⟨_, rfl, rfl, rfl⟩
        | 2 => exact rfl
        | 3 => exact ⟨_, rfl, rfl, rfl⟩
        | 0 => exact VR_unk _ _
        | t + 4 => exact VR_unk _ _
      case wr => exact wr3 (or_flat (done_flat S) (OR.block h4N hM.mapAt)) h4b h4M (by omega)
      case after =>
        obtain ⟨hfine, ψ, e', τ, hs1, hfr, hk5⟩ := hq
        cases q with
        | normal =>
          have hk6 : some (Value.tuple #[], τ) = some (Value.tuple #[], _) := hk5
          have hτ := (Prod.mk.inj (Option.some.inj hk6)).2
          obtain ⟨tm, df⟩ := a'
          have hd : df = [] := hfr.defers
          have hsz : tm.size = 22 := hfr.size
          have hkeep := hfr.keep
          have k0 : tm.getD 0 undef = _ := hkeep 0 (by decide +kernel)
          have k1 : tm.getD 1 undef = _ := hkeep 1 (by decide +kernel)
          have k4 : tm.getD 4 undef = _ := hkeep 4 (by decide +kernel)
          have k5 : tm.getD 5 undef = _ := hkeep 5 (by decide +kernel)
          have k6 : tm.getD 6 undef = _ := hkeep 6 (by decide +kernel)
          have k7 : tm.getD 7 undef = _ := hkeep 7 (by decide +kernel)
          have k8 : tm.getD 8 undef = _ := hkeep 8 (by decide +kernel)
          have k21 : tm.getD 21 undef = _ := hkeep 21 (by decide +kernel)
          rw [tmps22 tm hsz, k0, k1, k4, k5, k6, k7, k8, k21, hd]
          have hkp : ∀ i, i < w4.heap.size → i ≠ N → w5.heap[i]? = w4.heap[i]? := fun i hi hn => (hfr.fr.keep i hi fun ho => hn (own3 ho)).1
          have hkr : ∀ i, i < wr.heap.size → i ≠ N → i ≠ R → w5.heap[i]? = wr.heap[i]? := fun i hi hn hr => ((hkp i (by omega) hn).trans (h4 i hi)).trans (hM3.2.1 i hr)
          have hit5 : w5.heap[R]? = some (.mapIter (some m) clock (seen.push e.born) clock) := ((hkp R (by omega) (by omega)).trans (h4 R (by omega))).trans hM3.1
          have hmem := (mem_left he).1
          refine ⟨⟨_, _, _, _, _, _, _, _, _, _, _, _, _, _, ?rel, rfl⟩, ?measure⟩
          case rel =>
            refine ⟨S ++ [e], seen.push e.born, ⟨hfr.fr.os.trans (h4o.1.trans hM.below.os), hfr.fr.tape.trans (h4o.2.1.trans hM.below.tape), hfr.fr.output.trans (h4o.2.2.trans hM.below.output), ?_, fun i hi => (hkr i (by omega) (by omega) (by omega)).trans (hM.below.block i hi)⟩, ?_, (hkr _ (by omega) (by omega) (by omega)).trans hM.box, (hkr m (by omega) (by omega) hmR).trans hM.rules, ⟨clock, Nat.le_refl _, hit5⟩, ?_, ?_, ?_, ?_⟩
            · have := hM.below.size
              have := hfr.fr.size
              omega
            · obtain ⟨p, hp, ho⟩ := hs1.wr.dom 0 (.map (doneOf S ++ [(.int .i64 k, .int .u32 n)])) (by rw [hτ, AW.get_put, if_pos rfl])
              have hp0 : ψ 0 = some ⟨N, 0, 0⟩ := hfr.fr.le 0 _ rfl
              rw [hp0] at hp
              injection hp with hp
              subst hp
              have hdn : doneOf (S ++ [e]) = doneOf S ++ [(.int .i64 k, .int .u32 n)] := by simp [doneOf, hrk]
              rw [hdn]
              refine or_flat (fun x hx => ?_) ho
              rw [← hdn] at hx
              exact done_flat _ x hx
            · have := hfr.fr.size
              omega
            · simp [hM.seen]
            · intro x hx
              rcases List.mem_append.1 hx with hx | hx
              · exact hM.sub x hx
              · simp at hx; subst hx; exact hmem
            · rw [List.map_append, List.nodup_append]
              refine ⟨hM.nd, by simp, ?_⟩
              intro a ha b hb
              simp at hb ha
              obtain ⟨x, hx, rfl⟩ := ha
              subst hb
              exact hne x hx
          case measure =>
            have i1 : w5.iterSeen R = seen.push e.born := by simp only [World.iterSeen, hit5]
            have i2 : wr.iterSeen R = seen := by simp only [World.iterSeen, hit]
            rw [i1, i2]
            exact left_shrinks ms seen e he
        | _ => first | exact hfine.elim | exact (fail_none hk5).elim
end Go.Proofs.Ytlgeeibaohdjhaa
