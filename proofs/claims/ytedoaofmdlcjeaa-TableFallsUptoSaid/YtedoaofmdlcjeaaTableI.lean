/- TableFalls. -/
import Derived.Test.YtedoaofmdlcjeaaTableH
set_option linter.unusedVariables false
set_option linter.unusedSimpArgs false
namespace Go.Proofs.Ytedoaofmdlcjeaa
open Go.Proofs.Ytedoaofmdlcjeaa.Eng
theorem fall_neg : ∀ (l : List Hd) (left : Int), left < 0 → fallL l left = []
  | [], _, _ => rfl
  | x :: l, left, h => by
    unfold fallL
    rw [if_pos (by omega)]
    exact fall_neg l left h
theorem fall_fall : ∀ (l : List Hd) (m left : Int), left ≤ m → fallL (fallL l m) left = fallL l left
  | [], _, _, _ => rfl
  | x :: l, m, left, h => by
    by_cases c : m < (total (x :: l) : Int)
    · rw [show fallL (x :: l) m = fallL l m by rw [fallL, if_pos c], fall_fall l m left h, fallL, if_pos (by omega)]
    · rw [show fallL (x :: l) m = x :: l by rw [fallL, if_neg c]]
theorem fall_snoc (x : Hd) : ∀ (l : List Hd) (m : Int), fallL (l ++ [x]) m = if (hsize x : Int) ≤ m then fallL l (m - hsize x) ++ [x] else []
  | [], m => by
    have e : total [x] = hsize x := by simp [total]
    show (if m < (total [x] : Int) then fallL [] m else [x]) = _
    rw [e]
    by_cases c : (hsize x : Int) ≤ m
    · rw [if_neg (by omega), if_pos c]; rfl
    · rw [if_pos (by omega), if_neg c]; rfl
  | y :: l, m => by
    have e : total (y :: (l ++ [x])) = total (y :: l) + hsize x := by rw [← List.cons_append, total_app]; simp [total]
    show fallL (y :: (l ++ [x])) m = _
    rw [fallL, e]
    by_cases c : m < ((total (y :: l) + hsize x : Nat) : Int)
    · rw [if_pos c, fall_snoc x l m]
      by_cases d : (hsize x : Int) ≤ m
      · rw [if_pos d, if_pos d, fallL, if_pos (by omega)]
      · rw [if_neg d, if_neg d]
    · rw [if_neg c, if_pos (by omega), fallL, if_neg (by omega)]; rfl
theorem add_fall (l : List Hd) (most : Nat) (x : Hd) : addL (fallL l most) most x = fallL (l ++ [plain x]) most := by
  unfold addL
  rw [fall_snoc, plain_size]
  by_cases c : hsize x ≤ most
  · rw [if_pos c, if_pos (by omega), fall_fall _ _ _ (by omega)]
  · rw [if_neg c, if_neg (by omega)]
    exact fall_neg _ _ (by omega)
theorem fall_at : ∀ (l : List Hd) (m : Int) (s : Nat), s ≤ l.length → (total (l.drop s) : Int) ≤ m → (s = 0 ∨ m < (total (l.drop (s - 1)) : Int)) → fallL l m = l.drop s
  | [], m, s, hs, _, _ => by
    have : s = 0 := by simpa using hs
    subst this; rfl
  | x :: l, m, 0, _, h, _ => by rw [List.drop_zero] at h ⊢; exact fall_same _ _ h
  | x :: l, m, s + 1, hs, h, h' => by
    rcases h' with h' | h'
    · omega
    · rw [Nat.add_sub_cancel] at h'
      have hle : total ((x :: l).drop s) ≤ total (x :: l) := by
        have := congrArg total (List.take_append_drop s (x :: l))
        rw [total_app] at this
        omega
      rw [fallL, if_pos (by omega)]
      refine fall_at l m s (by simpa using hs) h ?_
      cases s with
      | zero => exact .inl rfl
      | succ s => exact .inr (by simpa using h')
theorem fall_keep : ∀ (l : List Hd) (m : Int) (s : Nat), (total (l.drop s) : Int) ≤ m → ∃ pre, fallL l m = pre ++ l.drop s
  | [], m, s, _ => ⟨[], by simp [fallL]⟩
  | x :: l, m, s, h => by
    by_cases c : m < (total (x :: l) : Int)
    · cases s with
      | zero => rw [List.drop_zero] at h; omega
      | succ s =>
        obtain ⟨pre, hp⟩ := fall_keep l m s (by simpa using h)
        exact ⟨pre, by rw [fallL, if_pos c, hp]; rfl⟩
    · exact ⟨(x :: l).take s, by rw [fallL, if_neg c, List.take_append_drop]⟩
theorem total_plain (l : List Hd) : total (l.map plain) = total l := by
  induction l with
  | nil => rfl
  | cons x l ih => rw [List.map_cons, total_cons, total_cons, ih, plain_size]
section
variable {σ : AW} {k : Nat} {Q : Value → AW → Prop}
theorem neStr_iff {P : Program} {t : TypeId} {a b : List UInt8} : wpA (binA P .neq t (Tx a) (Tx b)) σ Q ↔ Q (.bool !(decide (a = b))) σ := by
  show wpA (binA P .neq t (.string (strOf a)) (.string (strOf b))) σ Q ↔ _
  rw [wpA_neStr, toList_strOf]
theorem falls_rest {b m : Nat} {y : Value} {l : List Hd} {most : Nat} (hb : σ.get b = some (.cells [.bool true, .slice none 0 0, .int .i64 (m : Nat), .int .i64 0] 59 false)) (hbn : b < σ.next) (hy : Sl σ y 3 l.length (l.flatMap Hd.cs)) (hyb : ∀ c, InBlk y c → c < b) (hl : l.length ≤ 300) (ho : ∀ x ∈ l, hsize x ≤ 16777216) (hm : m < 65536) (hk : 8000 ≤ k) :
    wpA (R5.j_152 (callN Try.prog k) k (.int .u16 m) (ptr b) y) σ fun v _ => v = .bool true := by
  have hawk : ∀ τ, wpA (callN Try.prog k 11 []) τ fun v _ => v = .bool true := fun τ => awake_spec (by omega)
  have hlen : l.length < 1048576 := by omega
  have slk : ∀ {τ : AW}, σ.next ≤ τ.next → (∀ c, c < b → τ.get c = σ.get c) → Sl τ y 3 l.length (l.flatMap Hd.cs) := by
    intro τ hn hc
    obtain ⟨h1, h | ⟨b', off, c, ws, e, ro, h2, hcc, h3, h4⟩⟩ := hy
    · exact ⟨h1, .inl h⟩
    · refine ⟨h1, .inr ⟨b', off, c, ws, e, ro, h2, hcc, by omega, ?_⟩⟩
      have := hyb b' ⟨_, _, _, _, h2⟩
      rcases h4 with h4 | h4
      · exact .inl h4
      · rw [hc b' this]; exact .inr h4
  simp [R5.j_152]
  refine aw_loop1 (fun r u υ => ∃ (i : Nat) (v : Value), u = .int .i64 i ∧ i ≤ l.length ∧ r = l.length - i ∧ Tab (b + 1) b υ v (fallL ((l.take i).map plain) m) m ∧ TOk (fallL ((l.take i).map plain) m) m ∧ σ.next ≤ υ.next ∧ ∀ c, c < b → υ.get c = σ.get c) ?_ k l.length _ σ ⟨0, _, rfl, by omega, rfl, ⟨by simpa [fallL, total] using hb, by simpa [fallL] using Own.nil _ _ _ _⟩, ⟨by omega, by simp [fallL, total], by simp [fallL]⟩, Nat.le_refl _, fun _ _ => rfl⟩ (by omega)
  rintro r rec u υ ⟨i, v, rfl, hi, rfl, hT, ok, hn, hc⟩ hrec
  have hyU := slk hn hc
  by_cases hlt : i < l.length
  · obtain ⟨x, hx⟩ : ∃ x, l[i]? = some x := ⟨_, List.getElem?_eq_getElem hlt⟩
    have htk : l.take (i + 1) = l.take i ++ [x] := by rw [List.take_add_one, hx]; rfl
    have hwi : IntKind.i64.wrap ((i : Int) + 1) = ((i + 1 : Nat) : Int) := wrap64 (by omega) (by omega)
    simp [R5.b_151, len_iff hyU, hlt, ↓atS_all Hd.len (by omega) hyU hx, -Int.natCast_add]
    refine add_spec hT (by omega) (by omega) ok (ho x (List.mem_of_getElem? hx)) (by omega) fun v' τ hT' fr => ?_
    have e : addL (fallL ((l.take i).map plain) m) m x = fallL ((l.take (i + 1)).map plain) m := by rw [add_fall, htk, List.map_append]; rfl
    have ok' := ok.add x
    rw [e] at hT' ok'
    have kp := fr.kept hT.2 (B' := b) (Nat.le_refl _) (by omega) (by omega)
    have kpn := kp.1
    simp [hwi, -Int.natCast_add]
    exact hrec (l.length - (i + 1)) _ _ (by omega) ⟨i + 1, v', rfl, by omega, rfl, hT', ok', by omega, fun c h => by rw [kp.2 c h]; exact hc c h⟩
  · have e : i = l.length := by omega
    subst e
    rw [List.take_length] at hT ok
    have hwm : IntKind.i64.wrap (m : Int) = (m : Int) := wrap64 (by omega) (by omega)
    have hwl : IntKind.i64.wrap ((l.length : Int) - 1) = (l.length : Int) - 1 := wrap64 (by omega) (by omega)
    simp [R5.b_151, len_iff hyU, hwm, hwl]
    generalize hF : fallL (l.map plain) m = F at *
    have hl2 := ok.len
    have hdl : ∀ s, total (l.drop s) = total ((l.map plain).drop s) := fun s => by rw [← List.map_drop, total_plain]
    refine aw_loop3 (fun r left nn ii υ2 => ∃ s : Nat, s ≤ l.length ∧ r = s ∧ (total (l.drop s) : Int) ≤ m ∧ left = .int .i64 ((m : Int) - total (l.drop s)) ∧ nn = .int .i64 ((l.length - s : Nat) : Int) ∧ ii = .int .i64 ((s : Int) - 1) ∧ Ext υ υ2) ?_ k l.length _ _ _ υ ⟨l.length, Nat.le_refl _, rfl, by simp [total], by simp [total], by simp, rfl, Ext.refl _⟩ (by omega)
    rintro r rec2 left nn ii υ2 ⟨s, hs, hr, hfit, rfl, rfl, rfl, ex⟩ hrec2
    have exn := ex.1
    have hT2 := hT.ext (by omega) ex
    have hy2 := hyU.ext ex
    have done : F = (l.map plain).drop s → F.length = l.length - s ∧ total F = total (l.drop s) := fun e => ⟨by rw [e]; simp, by rw [e, hdl]⟩
    have hbound : (total (l.drop s) : Int) ≤ 65536 := by omega
    by_cases h0 : s = 0
    · subst h0
      have e : F = (l.map plain).drop 0 := by rw [← hF]; exact fall_at _ _ 0 (by omega) (by rw [← hdl]; exact hfit) (.inl rfl)
      obtain ⟨d1, d2⟩ := done e
      have hw : IntKind.i64.wrap ((m : Int) - ((m : Int) - (total (l.drop 0) : Int))) = (total (l.drop 0) : Int) := by rw [wrap64 (by omega) (by omega)]; omega
      simp [R5.b_131, R5.g_29, R5.g_31, R5.d_79, R5.g_123, R5.top, len_iff17 hT2 (show 2 ≤ k by omega), bytes_iff hT2 (show 2 ≤ k by omega), d1, d2, hwm, hw, -List.drop_zero]
      exact hawk _
    · obtain ⟨s, rfl⟩ : ∃ s', s = s' + 1 := ⟨s - 1, by omega⟩
      have ei : ((s + 1 : Nat) : Int) - 1 = (s : Int) := by omega
      obtain ⟨x, hx⟩ : ∃ x, l[s]? = some x := ⟨_, List.getElem?_eq_getElem (by omega)⟩
      have hxo := ho x (List.mem_of_getElem? hx)
      have hdr : l.drop s = x :: l.drop (s + 1) := by
        obtain ⟨h1, h2⟩ := List.getElem?_eq_some_iff.1 hx
        rw [List.drop_eq_getElem_cons h1, h2]
      have htc := total_cons x (l.drop (s + 1))
      rw [← hdr] at htc
      rw [ei]
      simp [R5.b_131, ↓atS_all Hd.len (by omega) hy2 hx, -Int.natCast_add]
      refine (size_spec' hxo (by omega)).mono ?_
      rintro _ τ ⟨he, rfl⟩
      have hen := he.1
      have exT := ex.trans he
      have hT3 := hT2.ext (by omega) he
      have hy3 := hy2.ext he
      by_cases hfit2 : (hsize x : Int) ≤ (m : Int) - (total (l.drop (s + 1)) : Int)
      · have hw1 : IntKind.i64.wrap ((m : Int) - (total (l.drop (s + 1)) : Int) - (hsize x : Int)) = (m : Int) - (total (l.drop s) : Int) := by rw [wrap64 (by omega) (by omega)]; omega
        have hw2 : IntKind.i64.wrap (62 + ((l.length - (s + 1) : Nat) : Int)) = 62 + ((l.length - (s + 1) : Nat) : Int) := wrap64 (by omega) (by omega)
        have hw3 : IntKind.i64.wrap (((l.length - (s + 1) : Nat) : Int) + 1) = ((l.length - s : Nat) : Int) := by rw [wrap64 (by omega) (by omega)]; omega
        have hw4 : IntKind.i64.wrap ((s : Int) - 1) = (s : Int) - 1 := wrap64 (by omega) (by omega)
        obtain ⟨pre, hpre⟩ := fall_keep (l.map plain) m s (by rw [← hdl]; omega)
        rw [hF] at hpre
        have hFl : F.length = pre.length + (l.length - s) := by rw [hpre]; simp
        have hat : F[pre.length]? = some (plain x) := by
          rw [hpre, List.getElem?_append_right (Nat.le_refl _), Nat.sub_self, List.getElem?_drop, List.getElem?_map, Nat.add_zero, hx]; rfl
        have hgv : getV F (62 + ((l.length - (s + 1) : Nat) : Int)) = .tuple #[.agg (plain x).cs.toArray, .int .i64 0] := getV_at (i := pre.length) (by omega) (by omega) (by omega) hat
        have hpn : (plain x).name = x.name := rfl
        have hpv : (plain x).value = x.value := rfl
        simp [R5.g_123, hfit2, ↓atS_all Hd.len (by omega) hy3 hx, -Int.natCast_add]
        refine (size_spec' hxo (by omega)).mono ?_
        rintro _ τ2 ⟨he2, rfl⟩
        have hen2 := he2.1
        have hT4 := hT3.ext (by omega) he2
        simp [hw1, hw2, -Int.natCast_add]
        refine (get_spec hT4 (by omega) (by omega) hl2 (by omega)).mono ?_
        rintro _ τ3 ⟨he3, rfl⟩
        rw [hgv]
        have ex3 := (exT.trans he2).trans he3
        have eF : ∀ oo, Ext υ ((τ3.push (.cells [.string ⟨#[]⟩, .string ⟨#[]⟩, .bool false] 23 false)).put τ3.next oo) := fun oo => ((ex3.trans (Ext.push _ _)).kept (Nat.le_refl _)).put ex3.1 _
        have hy4 := hyU.ext (eF (some (.cells [Tx x.name, Tx x.value, .bool false] 23 false)))
        have at0 := atF_all (k := .i64) (off := 0) (w := Tx x.name) Hd.len hy4 hx rfl
        have at1 := atF_all (k := .i64) (off := 1) (w := Tx x.value) Hd.len hy4 hx rfl
        simp [Hd.cs, plain, ↓at0, ↓at1, neStr_iff, R5.d_79, hw3, hw4, -Int.natCast_add]
        exact hrec2 s _ _ _ _ (by omega) ⟨s, by omega, rfl, by omega, rfl, rfl, rfl, eF _⟩
      · have e : F = (l.map plain).drop (s + 1) := by rw [← hF]; exact fall_at _ _ (s + 1) (by simpa using hs) (by rw [← hdl]; exact hfit) (.inr (by rw [Nat.add_sub_cancel, ← hdl]; omega))
        obtain ⟨d1, d2⟩ := done e
        have hw : IntKind.i64.wrap ((m : Int) - ((m : Int) - (total (l.drop (s + 1)) : Int))) = (total (l.drop (s + 1)) : Int) := by rw [wrap64 (by omega) (by omega)]; omega
        simp [R5.g_29, R5.g_31, R5.d_79, R5.g_123, R5.top, hfit2, len_iff17 hT3 (show 2 ≤ k by omega), bytes_iff hT3 (show 2 ≤ k by omega), d1, d2, hwm, hw, -Int.natCast_add]
        exact hawk _
theorem sl_prefix {z n m : Nat} {v : Value} {vs : List Value} {j : IntKind} (h : Sl σ v z n vs) (hm : m ≤ n) (hq : ∀ w, Sl σ w z m (vs.take (m * z)) → (∀ c, InBlk w c → InBlk v c) → Q w σ) : wpA (sliceA z v none (some (.int j (m : Nat)))) σ Q := by
  obtain ⟨hl, ⟨rfl, rfl⟩ | ⟨b, o, c, ws, e, ro, rfl, hc, h3, h4⟩⟩ := h
  · have e1 : m = 0 := by omega
    subst e1
    refine ⟨.slice none 0 0, σ, ?_, hq _ ⟨by simp, .inl ⟨rfl, rfl⟩⟩ fun _ h => h⟩
    simp [sliceA, bound, need2, ret]
  · have hmz : m * z ≤ n * z := Nat.mul_le_mul_right z hm
    refine ⟨.slice (some ⟨b, o + 0 * z, some z⟩) (m - 0) (c - 0), σ, ?_, hq _ ⟨?_, .inr ⟨b, o + 0 * z, c - 0, ws, e, ro, by simp, by omega, h3, ?_⟩⟩ ?_⟩
    · have b2 : bound (some (.int j (m : Nat))) n c = some m := by
        simp only [bound]; rw [if_pos ⟨by omega, by omega⟩]; rfl
      have b1 : bound none 0 m = some 0 := rfl
      simp only [sliceA, b1, b2, need2]
      rw [if_pos (by omega), if_pos trivial]; rfl
    · rw [List.length_take]; omega
    · rcases h4 with h4 | ⟨h4, h5, h6⟩
      · exact .inl (by omega)
      · refine .inr ⟨h4, by omega, ?_⟩
        rw [← h6, List.take_take, Nat.min_eq_left hmz]
        simp
    · rintro c' ⟨o', s, n', cc, he⟩
      injection he with he; injection he with he; injection he with he
      subst he
      exact ⟨_, _, _, _, rfl⟩
theorem law_TableFalls {m n : Nat} {x : Value} {l : List Hd} (hx : Sl σ x 3 n (l.flatMap Hd.cs)) (ho : ∀ x ∈ l, hsize x ≤ 16777216) (hl : l.length ≤ 1048576) (hm : m < 65536) (hk : 9000 ≤ k) : wpA (callN Try.prog k 5 [.int .u16 m, x]) σ fun v _ => v = .bool true := by
  have e1 : n = l.length := by have := hx.1; rw [length_flatMap Hd.len] at this; omega
  subst e1
  rw [callN_at (by omega), R5.eq]
  have hbig : 8999 ≤ k - 1 := by omega
  generalize hk1 : k - 1 = k1 at hbig
  have hwm : IntKind.i64.wrap (m : Int) = (m : Int) := wrap64 (by omega) (by omega)
  have hm2 : 0 ≤ (m : Int) ∧ (m : Int) ≤ 65536 := by omega
  have hE : Ext σ (σ.push (.cells [.bool true, .slice none 0 0, .int .i64 (m : Int), .int .i64 0] 59 false)) := Ext.push _ _
  have hxE := hx.ext hE
  by_cases h300 : 300 < l.length
  · have h3 : (300 : Int) < (l.length : Int) := by omega
    simp [R5.top, hwm, new_iff (k := k1) (by omega) hm2, und35, eqPtrU, len_iff hxE, h300, h3]
    refine sl_prefix (m := 300) hxE (by omega) fun w hw hin => ?_
    rw [take_flatMap Hd.len] at hw
    have hl3 : (l.take 300).length = 300 := by rw [List.length_take]; omega
    exact falls_rest (l := l.take 300) (most := 0) (by simp) (by simp) (by rw [hl3]; exact hw) (fun c hc => sl_blk hx (hin c hc)) (by omega) (fun y hy => ho y (List.mem_of_mem_take hy)) hm (by omega)
  · have h3 : ¬ (300 : Int) < (l.length : Int) := by omega
    simp [R5.top, hwm, new_iff (k := k1) (by omega) hm2, und35, eqPtrU, len_iff hxE, h300, h3]
    exact falls_rest (l := l) (most := 0) (by simp) (by simp) hxE (fun c hc => sl_blk hx hc) (by omega) ho hm (by omega)
end
end Go.Proofs.Ytedoaofmdlcjeaa
