/- A call of both; whether both tell the same; TablePlays. -/
import Derived.Test.YtedoaofmdlcjeaaTableG
set_option linter.unusedVariables false
set_option linter.unusedSimpArgs false
namespace Go.Proofs.Ytedoaofmdlcjeaa
open Go.Proofs.Ytedoaofmdlcjeaa.Eng
structure OpT where
  what : Int
  n : Int
  h : Hd
def OpT.cs (o : OpT) : List Value := [.int .i64 o.what, .int .i64 o.n, Tx o.h.name, Tx o.h.value, .bool o.h.secret]
theorem OpT.len (o : OpT) : o.cs.length = 5 := rfl
/-- Both tables, side by side. -/
structure Two (B b1 b2 : Nat) (σ : AW) (v w : Value) (l : List Hd) (most : Nat) : Prop where
  t : Tab B b1 σ v l most
  r : RTab B b2 σ w l most
  l1 : b1 < B
  l2 : b2 < B
  ne : ¬ b1 = b2
  le : B ≤ σ.next
  apart : ∀ c, InBlk v c → ¬ InBlk w c
  ok : TOk l most
theorem own_fr {B : Nat} {σ τ : AW} {v : Value} {e : TypeId} {z n : Nat} {vs : List Value} (h : Own B σ v e z n vs) (hn : σ.next ≤ τ.next) (k : ∀ c, B ≤ c → c < σ.next → InBlk v c → τ.get c = σ.get c) : Own B τ v e z n vs := by
  obtain ⟨h1, h | ⟨b, c, ws, h2, hc, h3', h4, h5, h6⟩⟩ := h
  · exact ⟨h1, .inl h⟩
  · exact ⟨h1, .inr ⟨b, c, ws, h2, hc, h3', by omega, by rw [k b h3' h4 ⟨_, _, _, _, h2⟩]; exact h5, h6⟩⟩
theorem Two.ext {B b1 b2 : Nat} {σ τ : AW} {v w : Value} {l : List Hd} {most : Nat} (h : Two B b1 b2 σ v w l most) (k : Ext σ τ) : Two B b1 b2 τ v w l most :=
  ⟨h.t.ext (by have := h.l1; have := h.le; omega) k, h.r.ext (by have := h.l2; have := h.le; omega) k, h.l1, h.l2, h.ne, by have := h.le; have := k.1; omega, h.apart, h.ok⟩
/-- The program's part has changed. -/
theorem rtab_fr {B b1 b2 : Nat} {σ τ : AW} {v v' w : Value} {l l' : List Hd} {most most' : Nat} (ht : Tab B b1 σ v l most) (hr : RTab B b2 σ w l' most') (h1 : b1 < B) (h2 : b2 < B) (ne : ¬ b1 = b2) (hl : B ≤ σ.next) (ap : ∀ c, InBlk v c → ¬ InBlk w c) (f : Fr b1 v v' σ τ) : RTab B b2 τ w l' most' ∧ ∀ c, InBlk v' c → ¬ InBlk w c := by
  refine ⟨⟨?_, own_fr hr.2 f.1 fun c c1 c2 c3 => f.2.1 c c2 (by omega) fun hv => ap c hv c3⟩, fun c hc hw => ?_⟩
  · rw [f.2.1 b2 (by omega) (fun e => ne e.symm) (own_sl_ne ht.2 h2)]
    exact hr.1
  · rcases f.2.2 c hc with g | g
    · exact ap c g hw
    · have := own_new_lt hr.2 hw
      omega
/-- The reference's part has changed. -/
theorem tab_fr {B b1 b2 : Nat} {σ τ : AW} {v w w' : Value} {l l' : List Hd} {most most' : Nat} (ht : Tab B b1 σ v l most) (hr : RTab B b2 σ w l' most') (h1 : b1 < B) (h2 : b2 < B) (ne : ¬ b1 = b2) (hl : B ≤ σ.next) (ap : ∀ c, InBlk v c → ¬ InBlk w c) (f : Fr b2 w w' σ τ) : Tab B b1 τ v l most ∧ ∀ c, InBlk v c → ¬ InBlk w' c := by
  refine ⟨⟨?_, own_fr ht.2 f.1 fun c c1 c2 c3 => f.2.1 c c2 (by omega) fun hv => ap c c3 hv⟩, fun c hc hw => ?_⟩
  · rw [f.2.1 b1 (by omega) ne (own_sl_ne hr.2 h1)]
    exact ht.1
  · rcases f.2.2 c hw with g | g
    · exact ap c hc g
    · have := own_new_lt ht.2 hc
      omega
/-- All that is older is as it was. -/
def Old (B b1 b2 : Nat) (σ τ : AW) : Prop := σ.next ≤ τ.next ∧ ∀ c, c < B → c ≠ b1 → c ≠ b2 → τ.get c = σ.get c
theorem Old.trans {B b1 b2 : Nat} {σ τ υ : AW} (h : Old B b1 b2 σ τ) (k : Old B b1 b2 τ υ) : Old B b1 b2 σ υ := ⟨Nat.le_trans h.1 k.1, fun c c1 c2 c3 => (k.2 c c1 c2 c3).trans (h.2 c c1 c2 c3)⟩
theorem ext_old {B b1 b2 : Nat} {σ τ : AW} (h : Ext σ τ) (hB : B ≤ σ.next) : Old B b1 b2 σ τ := ⟨h.1, fun c hc _ _ => h.2 c (by omega)⟩
theorem fr_old1 {B b1 b2 : Nat} {σ τ : AW} {v v' : Value} {e : TypeId} {z n : Nat} {vs : List Value} (f : Fr b1 v v' σ τ) (o : Own B σ v e z n vs) (hB : B ≤ σ.next) : Old B b1 b2 σ τ := ⟨f.1, fun c c1 c2 _ => f.2.1 c (by omega) c2 (own_sl_ne o c1)⟩
theorem fr_old2 {B b1 b2 : Nat} {σ τ : AW} {v v' : Value} {e : TypeId} {z n : Nat} {vs : List Value} (f : Fr b2 v v' σ τ) (o : Own B σ v e z n vs) (hB : B ≤ σ.next) : Old B b1 b2 σ τ := ⟨f.1, fun c c1 _ c2 => f.2.1 c (by omega) c2 (own_sl_ne o c1)⟩
section
variable {σ : AW} {k : Nat} {Q : Value → AW → Prop}
theorem getV_form (l : List Hd) (idx : Int) : ∃ (x : Hd) (e : Int), getV l idx = .tuple #[.agg x.cs.toArray, .int .i64 e] := ⟨_, _, rfl⟩
theorem same_spec {B b1 b2 : Nat} {v w : Value} {l : List Hd} {most : Nat} (h : Two B b1 b2 σ v w l most) (hk : 7000 ≤ k) : wpA (callN Try.prog k 24 [ptr b1, ptr b2]) σ fun r τ => Ext σ τ ∧ r = .bool true := by
  rw [callN_at (by omega), R24.eq]
  have hbig : 6999 ≤ k - 1 := by omega
  generalize hk1 : k - 1 = k1 at hbig
  have hl2 := h.ok.len
  have hle := h.ok.le
  have hby := h.ok.bytes
  simp [R24.top]
  refine aw_loop1 (fun r x υ => ∃ i : Nat, x = .int .i64 i ∧ i ≤ l.length + 1 ∧ r = l.length + 1 - i ∧ Ext σ υ) ?_ k1 (l.length + 1) _ σ ⟨0, rfl, by omega, rfl, Ext.refl _⟩ (by omega)
  rintro r rec x υ ⟨i, rfl, hi, rfl, ex⟩ hrec
  have hU := h.ext ex
  have hUle := hU.le
  have hU1 := hU.l1
  have hU2 := hU.l2
  by_cases hlt : i ≤ l.length
  · have hw1 : IntKind.i64.wrap (62 + (i : Int)) = 62 + (i : Int) := wrap64 (by omega) (by omega)
    have hwi : IntKind.i64.wrap ((i : Int) + 1) = ((i + 1 : Nat) : Int) := wrap64 (by omega) (by omega)
    simp [R24.b_97, hU.r.1, len_iff hU.r.2.sl, hlt, hw1, -Int.natCast_add]
    refine (get_spec hU.t hU1 hUle hl2 (by omega)).mono ?_
    rintro _ τ ⟨he, rfl⟩
    obtain ⟨x, e, hx⟩ := getV_form l (62 + (i : Int))
    rw [hx]
    simp [Hd.cs]
    generalize hP : (τ.push (.cells [.string ⟨#[]⟩, .string ⟨#[]⟩, .bool false] 23 false)).put τ.next (some (.cells [Tx x.name, Tx x.value, .bool x.secret] 23 false)) = P
    have hPx : P.get τ.next = some (.cells [Tx x.name, Tx x.value, .bool x.secret] 23 false) := by rw [← hP]; simp
    have hPn : P.next = τ.next + 1 := by rw [← hP]; simp
    have hPe : Ext τ P := by rw [← hP]; exact ((Ext.push τ _).kept (Nat.le_refl _)).put (Nat.le_refl _) _
    clear hP
    have hen := he.1
    have hUP := (hU.ext he).ext hPe
    refine (rget_spec hUP.r hU2 hUP.le hl2 (by omega)).mono ?_
    rintro _ τ2 ⟨he2, rfl⟩
    have hen2 := he2.1
    rw [hx]
    have hx2 : τ2.get τ.next = some (.cells [Tx x.name, Tx x.value, .bool x.secret] 23 false) := by rw [he2.2 _ (by omega)]; exact hPx
    have q1 : ¬ τ.next = τ2.next := by omega
    have hsame := same_refl x
    simp [Hd.cs, hx2, q1, hd_neqE, same_refl, R24.d_4, R24.g_85, R24.top, hwi, -Int.natCast_add]
    exact hrec (l.length + 1 - (i + 1)) _ _ (by omega) ⟨i + 1, rfl, by omega, rfl, (((((ex.trans he).trans hPe).trans he2).trans (Ext.push _ _)).kept (Nat.le_refl _)).put (by have := ex.1; omega) _⟩
  · have e : i = l.length + 1 := by omega
    subst e
    have hn : ¬ l.length + 1 ≤ l.length := by omega
    have hn' : ¬ ((l.length + 1 : Nat) : Int) ≤ (l.length : Int) := by omega
    have hsm := same_sl hU.r.2.sl
    have hrb := rbytes_spec (σ := υ) (k := k1) (b := b2) (v := w) (l := l.reverse) (m := .int .i64 (most : Nat)) hU.r.1 (by omega) (by rw [List.length_reverse]; exact hU.r.2.sl) (by rw [total_rev]; omega) (by omega)
    rw [total_rev] at hrb
    simp [R24.b_97, hU.r.1, len_iff hU.r.2.sl, hn, hn', len_iff17 hU.t (show 2 ≤ k1 by omega), bytes_iff hU.t (show 2 ≤ k1 by omega), there_iff, hsm, -Int.natCast_add]
    refine hrb.mono ?_
    rintro _ τ ⟨he, rfl⟩
    have hUT := hU.ext he
    simp [hUT.r.1, most_iff hUT.t (show 2 ≤ k1 by omega), there_iff, R24.d_4]
    exact ex.trans he
theorem play_spec {B b1 b2 : Nat} {v w : Value} {l : List Hd} {most : Nat} {o : OpT} (h : Two B b1 b2 σ v w l most) (ho : hsize o.h ≤ 16777216) (hk : 8000 ≤ k)
    (hq : ∀ v' w' l' most' τ, Two B b1 b2 τ v' w' l' most' → Old B b1 b2 σ τ → Q (.bool true) τ) : wpA (callN Try.prog k 23 [ptr b1, ptr b2, .agg o.cs.toArray]) σ Q := by
  rw [callN_at (by omega), R23.eq]
  have hbig : 7999 ≤ k - 1 := by omega
  generalize hk1 : k - 1 = k1 at hbig
  have hB := h.le
  have h1 := h.l1
  have h2 := h.l2
  have hne := h.ne
  have hl2 := h.ok.len
  simp [R23.top, OpT.cs]
  generalize hP : σ.push (.cells [.int .i64 o.what, .int .i64 o.n, Tx o.h.name, Tx o.h.value, .bool o.h.secret] 43 false) = P
  have hPx : P.get σ.next = some (.cells [.int .i64 o.what, .int .i64 o.n, Tx o.h.name, Tx o.h.value, .bool o.h.secret] 43 false) := by rw [← hP]; simp
  have hPn : P.next = σ.next + 1 := by rw [← hP]; simp
  have hPe : Ext σ P := by rw [← hP]; exact Ext.push σ _
  clear hP
  have hT := h.ext hPe
  have hTle := hT.le
  have ocs : [Tx o.h.name, Tx o.h.value, Value.bool o.h.secret] = o.h.cs := rfl
  have oO := ext_old (b1 := b1) (b2 := b2) hPe hB
  have keepR : ∀ {v v' : Value} {b : Nat} {τ : AW} {e : TypeId} {n : Nat} {vs : List Value}, Fr b v v' P τ → Own B σ v e 3 n vs → b < B → τ.get σ.next = P.get σ.next := by
    intro v v' b τ e n vs f ow hb
    refine f.2.1 _ (by omega) (by omega) fun hin => ?_
    have := own_new_lt ow hin
    omega
  by_cases w0 : o.what = 0
  · simp [hPx, w0]
    refine radd_spec (x := o.h) hT.r h2 hTle hT.ok ho (by omega) fun w' τ hr fr => ?_
    have hx2 : τ.get σ.next = _ := (keepR fr h.r.2 h2).trans hPx
    obtain ⟨tt, ap⟩ := tab_fr hT.t hT.r h1 h2 hne hTle hT.apart fr
    have hfn := fr.1
    simp [hx2]
    refine add_spec (x := o.h) tt h1 (by omega) hT.ok ho (by omega) fun v' τ2 ht f2 => ?_
    obtain ⟨rr, ap2⟩ := rtab_fr tt hr h1 h2 hne (by omega) ap f2
    have hfn2 := f2.1
    simp
    exact hq v' w' _ _ τ2 ⟨ht, rr, h1, h2, hne, by omega, ap2, hT.ok.add o.h⟩ ((oO.trans (fr_old2 fr hT.r.2 hTle)).trans (fr_old1 f2 tt.2 (by omega)))
  · by_cases w1 : o.what = 1
    · simp [hPx, w0, w1]
      refine resize_spec hT.t h1 hTle hT.ok (by omega) fun v' τ ht fr => ?_
      have hx2 : τ.get σ.next = _ := (keepR fr h.t.2 h1).trans hPx
      obtain ⟨rr, ap⟩ := rtab_fr hT.t hT.r h1 h2 hne hTle hT.apart fr
      have hfn := fr.1
      simp [hx2, there_iff, hPx]
      refine rresize_spec rr h2 (by omega) hT.ok (by omega) fun w' τ2 hr f2 => ?_
      obtain ⟨tt, ap2⟩ := tab_fr ht rr h1 h2 hne (by omega) ap f2
      have hfn2 := f2.1
      simp
      exact hq v' w' _ _ τ2 ⟨tt, hr, h1, h2, hne, by omega, ap2, hT.ok.res o.n⟩ ((oO.trans (fr_old1 fr hT.t.2 hTle)).trans (fr_old2 f2 rr.2 (by omega)))
    · by_cases w2 : o.what = 2
      · simp [hPx, w0, w1, w2]
        refine (find_spec (h := o.h) hT.t h1 hTle hT.ok (by omega)).mono ?_
        rintro _ τ ⟨he, rfl⟩
        have hx2 : τ.get σ.next = some (.cells [.int .i64 o.what, .int .i64 o.n, Tx o.h.name, Tx o.h.value, .bool o.h.secret] 43 false) := by rw [he.2 _ (by omega)]; exact hPx
        have hTT := hT.ext he
        simp [hx2]
        refine (rfind_spec (h := o.h) hTT.r h2 hTT.le hT.ok (by omega)).mono ?_
        rintro _ τ2 ⟨he2, rfl⟩
        simp [R23.g_29, R23.g_91, R23.top, eqBoolU, und4']
        exact hq v w l most τ2 (hTT.ext he2) (oO.trans (ext_old (he.trans he2) hTle))
      · simp [hPx, w0, w1, w2]
        refine (get_spec hT.t h1 hTle hl2 (by omega)).mono ?_
        rintro _ τ ⟨he, rfl⟩
        obtain ⟨x, e, hx⟩ := getV_form l o.n
        have q0 : ¬ σ.next = τ.next := by have := he.1; omega
        have hxt : τ.get σ.next = some (.cells [.int .i64 o.what, .int .i64 o.n, Tx o.h.name, Tx o.h.value, .bool o.h.secret] 43 false) := by rw [he.2 _ (by omega)]; exact hPx
        rw [hx]
        simp [Hd.cs, q0, hxt]
        generalize hS : (τ.push (.cells [.string ⟨#[]⟩, .string ⟨#[]⟩, .bool false] 23 false)).put τ.next (some (.cells [Tx x.name, Tx x.value, .bool x.secret] 23 false)) = S
        have hSx : S.get τ.next = some (.cells [Tx x.name, Tx x.value, .bool x.secret] 23 false) := by rw [← hS]; simp
        have hSn : S.next = τ.next + 1 := by rw [← hS]; simp
        have hSe : Ext τ S := by rw [← hS]; exact ((Ext.push τ _).kept (Nat.le_refl _)).put (Nat.le_refl _) _
        clear hS
        have hen := he.1
        have hTS := (hT.ext he).ext hSe
        have hx2 : S.get σ.next = some (.cells [.int .i64 o.what, .int .i64 o.n, Tx o.h.name, Tx o.h.value, .bool o.h.secret] 43 false) := by rw [hSe.2 _ (by omega), he.2 _ (by omega)]; exact hPx
        refine (rget_spec hTS.r h2 hTS.le hl2 (by omega)).mono ?_
        rintro _ τ2 ⟨he2, rfl⟩
        have hen2 := he2.1
        rw [hx]
        have hx3 : τ2.get τ.next = some (.cells [Tx x.name, Tx x.value, .bool x.secret] 23 false) := by rw [he2.2 _ (by omega)]; exact hSx
        have q1 : ¬ τ.next = τ2.next := by omega
        simp [Hd.cs, hx3, q1, hd_eqlE, same_refl, R23.g_29, R23.g_91, R23.top]
        have eF : ∀ oo, Ext P ((τ2.push (.cells [.string ⟨#[]⟩, .string ⟨#[]⟩, .bool false] 23 false)).put τ2.next oo) := fun oo => (((((he.trans hSe).trans he2).trans (Ext.push _ _)).kept (Nat.le_refl _)).put (by omega) _)
        exact hq v w l most _ (hT.ext (eF _)) (oO.trans (ext_old (eF _) hTle))
theorem slice_old {B b1 b2 z n : Nat} {σ τ : AW} {x : Value} {vs : List Value} (h : Sl σ x z n vs) (o : Old B b1 b2 σ τ) (hx : ∀ c, InBlk x c → c < B ∧ c ≠ b1 ∧ c ≠ b2) : Sl τ x z n vs := by
  obtain ⟨h1, h | ⟨b, off, c, ws, e, ro, h2, hc, h3, h4⟩⟩ := h
  · exact ⟨h1, .inl h⟩
  · refine ⟨h1, .inr ⟨b, off, c, ws, e, ro, h2, hc, Nat.lt_of_lt_of_le h3 o.1, ?_⟩⟩
    obtain ⟨c1, c2, c3⟩ := hx b ⟨_, _, _, _, h2⟩
    rcases h4 with h4 | h4
    · exact .inl h4
    · rw [o.2 b c1 c2 c3]; exact .inr h4
theorem sl_blk {σ : AW} {x : Value} {z n : Nat} {vs : List Value} (h : Sl σ x z n vs) {c : Nat} (hc : InBlk x c) : c < σ.next := by
  obtain ⟨o, s, m, c', rfl⟩ := hc
  obtain ⟨_, ⟨h, _⟩ | ⟨b, off, c', ws, e, ro, h, _, h1, _⟩⟩ := h
  · cases h
  · injection h with h; injection h with h; injection h with h; omega
theorem law_TablePlays {most : Int} {x : Value} {l : List OpT} {n : Nat} (hx : Sl σ x 5 n (l.flatMap OpT.cs)) (hl : l.length ≤ 1048576) (ho : ∀ o ∈ l, hsize o.h ≤ 16777216) (hk : 2097152 ≤ k) : wpA (callN Try.prog k 8 [.int .i64 most, x]) σ fun v _ => v = .bool true := by
  have e1 : n = l.length := by have := hx.1; rw [length_flatMap OpT.len] at this; omega
  subst e1
  rw [callN_at (by omega), R8.eq]
  have hbig : 2097151 ≤ k - 1 := by omega
  generalize hk1 : k - 1 = k1 at hbig
  have hawk : ∀ τ, wpA (callN Try.prog k1 11 []) τ fun v _ => v = .bool true := fun τ => awake_spec (by omega)
  by_cases hm : 0 ≤ most ∧ most ≤ 65536
  · obtain ⟨a, rfl⟩ : ∃ a : Nat, most = a := ⟨most.toNat, by omega⟩
    simp [R8.g_39, R8.g_52, R8.g_68, R8.top, new_iff (σ := σ) (k := k1) (by omega) hm, rnew_iff (k := k1) (by omega) hm, und35, und49, eqPtrU, neBoolU, und4']
    generalize hP : (σ.push (.cells [.bool true, .slice none 0 0, .int .i64 a, .int .i64 0] 59 false)).push (.cells [.int .i64 a, .slice none 0 0] 64 false) = P
    have z1 : ¬ σ.next = σ.next + 1 := by omega
    have hP1 : P.get σ.next = some (.cells [.bool true, .slice none 0 0, .int .i64 a, .int .i64 0] 59 false) := by rw [← hP]; simp [z1]
    have hP2 : P.get (σ.next + 1) = some (.cells [.int .i64 a, .slice none 0 0] 64 false) := by rw [← hP]; simp
    have hPn : P.next = σ.next + 2 := by rw [← hP]; simp
    have hPe : Ext σ P := by rw [← hP]; exact (Ext.push _ _).trans (Ext.push _ _)
    clear hP
    have two : Two (σ.next + 2) σ.next (σ.next + 1) P (.slice none 0 0) (.slice none 0 0) [] a := ⟨⟨hP1, Own.nil _ _ _ _⟩, ⟨hP2, Own.nil _ _ _ _⟩, by omega, by omega, z1, by omega, fun c hc => (by obtain ⟨o, s, m, c', h⟩ := hc; cases h), ⟨by omega, by simp [total], by simp⟩⟩
    have hxP := hx.ext hPe
    have hxb : ∀ c, InBlk x c → c < σ.next + 2 ∧ c ≠ σ.next ∧ c ≠ σ.next + 1 := fun c hc => by
      have := sl_blk hx hc
      omega
    refine aw_loop1 (fun r u υ => ∃ (i : Nat) (v w : Value) (l' : List Hd) (m' : Nat), u = .int .i64 i ∧ i ≤ l.length ∧ r = l.length - i ∧ Two (σ.next + 2) σ.next (σ.next + 1) υ v w l' m' ∧ Old (σ.next + 2) σ.next (σ.next + 1) P υ) ?_ k1 l.length _ P ⟨0, _, _, [], a, rfl, by omega, rfl, two, Nat.le_refl _, fun _ _ _ _ => rfl⟩ (by omega)
    rintro r rec u υ ⟨i, v, w, l', m', rfl, hi, rfl, tw, od⟩ hrec
    have hxU := slice_old hxP od hxb
    by_cases hlt : i < l.length
    · obtain ⟨o, hoi⟩ : ∃ o, l[i]? = some o := ⟨_, List.getElem?_eq_getElem hlt⟩
      have hoh := ho o (List.mem_of_getElem? hoi)
      have hwi : IntKind.i64.wrap ((i : Int) + 1) = ((i + 1 : Nat) : Int) := wrap64 (by omega) (by omega)
      simp [R8.b_57, R8.g_39, R8.g_52, R8.g_68, R8.top, nePtrU, und49, len_iff hxU, hlt, ↓atS_all OpT.len (by omega) hxU hoi, -Int.natCast_add]
      refine play_spec tw hoh (by omega) fun v' w' l2 m2 τ tw2 od2 => ?_
      simp
      refine (same_spec tw2 (by omega)).mono ?_
      rintro _ τ2 ⟨he, rfl⟩
      simp [hwi, -Int.natCast_add]
      exact hrec (l.length - (i + 1)) _ _ (by omega) ⟨i + 1, v', w', l2, m2, rfl, by omega, rfl, tw2.ext he, (od.trans od2).trans (ext_old he tw2.le)⟩
    · have e : i = l.length := by omega
      subst e
      simp [R8.b_57, R8.g_39, R8.g_52, R8.g_68, R8.top, nePtrU, und49, len_iff hxU]
      refine (hawk _).mono ?_
      rintro _ _ rfl
      simp
  · simp [R8.g_39, R8.g_52, R8.g_68, R8.top, new_not (σ := σ) (k := k1) (by omega) hm, rnew_not (k := k1) (by omega) hm, und35, und49, eqPtrU, neBoolU, und4']
    rw [loop1_at (by omega)]
    simp [R8.b_57, R8.g_39, R8.g_52, R8.g_68, R8.top, nePtrU, und49]
    refine (hawk _).mono ?_
    rintro _ _ rfl
    simp
end
end Go.Proofs.Ytedoaofmdlcjeaa
