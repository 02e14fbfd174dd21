/- What an encoder writes, as lists; a literal of both. -/
import Derived.Test.YtjmafbiklebjcaaPrefixA
import Derived.Test.YtjmafbiklebjcaaTableF
import Derived.Test.YtjmafbiklebjcaaResE
set_option linter.unusedVariables false
set_option linter.unusedSimpArgs false
namespace Go.Proofs.Ytjmafbiklebjcaa
open Go.Proofs.Ytjmafbiklebjcaa.Eng
def textsL (h : Hd) (idx : Nat) : List (List UInt8) := if idx = 0 then [h.name, h.value] else [h.value]
def bytesT (ts : List (List UInt8)) : List UInt8 := ts.flatMap fun s => putTextL s true
def litL (h : Hd) (f b idx : Nat) : List UInt8 := putL f b idx ++ bytesT (textsL h idx)
def oneL (l : List Hd) (most : Nat) (h : Hd) : List UInt8 × List Hd :=
  if h.secret = true then (litL h 16 4 (findH l h).1, l) else if (findH l h).2 = true then (putL 128 7 (findH l h).1, l)
  else if hsize h ≤ most then (litL h 64 6 (findH l h).1, addL l most h) else (litL h 0 4 (findH l h).1, l)
def blockL : List Hd → Nat → List Hd → List UInt8 × List Hd
  | l, _, [] => ([], l)
  | l, most, h :: hs => ((oneL l most h).1 ++ (blockL (oneL l most h).2 most hs).1, (blockL (oneL l most h).2 most hs).2)
def sizesL (told least most : Nat) : List UInt8 := (if least < told ∧ least < most then putL 32 5 least else []) ++ (if (least < told ∧ least < most) ∨ ¬ most = told then putL 32 5 most else [])
def badH (h : Hd) : Bool := decide (16384 < h.name.length) || decide (16384 < h.value.length)
def badL (hs : List Hd) : Bool := decide (1024 < hs.length) || hs.any badH
theorem findA_le : ∀ (xs : List Hd) (i named : Nat) (h : Hd), named ≤ i + xs.length → (findA xs i named h).1 ≤ i + xs.length
  | [], i, named, h, hn => by simpa [findA] using hn
  | x :: xs, i, named, h, hn => by
    unfold findA
    split
    · simp
    · have hle : (if named = 0 ∧ x.name = h.name then i else named) ≤ i + 1 + xs.length := by
        simp only [List.length_cons] at hn
        split <;> omega
      have := findA_le xs (i + 1) (if named = 0 ∧ x.name = h.name then i else named) h hle
      simp only [List.length_cons]
      omega
theorem find_le {l : List Hd} {most : Nat} (ok : TOk l most) (h : Hd) : (findH l h).1 ≤ 2110 := by
  have h1 := findA_le (allL l) 1 0 h (by omega)
  have h2 := allL_len l
  have h3 := ok.len
  unfold findH
  omega
theorem one_ok {l : List Hd} {most : Nat} (ok : TOk l most) (h : Hd) : TOk (oneL l most h).2 most := by
  unfold oneL
  split
  · exact ok
  · split
    · exact ok
    · split
      · exact ok.add h
      · exact ok
theorem block_ok : ∀ (hs : List Hd) {l : List Hd} {most : Nat}, TOk l most → TOk (blockL l most hs).2 most
  | [], _, _, ok => ok
  | h :: hs, l, most, ok => by
    unfold blockL
    exact block_ok hs (one_ok ok h)
theorem putText_le {s : List UInt8} {sh : Bool} (h : s.length ≤ 16384) : (putTextL s sh).length ≤ 32770 := by
  unfold putTextL
  split
  · rename_i hc
    have := putL_le 128 7 (encL s).length
    rw [List.length_append]
    omega
  · have := putL_le 0 7 s.length
    rw [List.length_append]
    omega
theorem texts_le {h : Hd} {idx : Nat} (hn : h.name.length ≤ 16384) (hv : h.value.length ≤ 16384) : (textsL h idx).length ≤ 2 ∧ ∀ t ∈ textsL h idx, t.length ≤ 16384 := by
  unfold textsL
  split
  · exact ⟨by simp, by intro t ht; simp at ht; rcases ht with rfl | rfl <;> assumption⟩
  · exact ⟨by simp, by intro t ht; simp at ht; subst ht; exact hv⟩
theorem bytesT_le : ∀ (ts : List (List UInt8)), (∀ t ∈ ts, t.length ≤ 16384) → (bytesT ts).length ≤ ts.length * 32770
  | [], _ => by simp [bytesT]
  | t :: ts, h => by
    have h1 := putText_le (sh := true) (h t (by simp))
    have h2 := bytesT_le ts fun t ht => h t (by simp [ht])
    unfold bytesT at *
    rw [List.flatMap_cons, List.length_append, List.length_cons]
    omega
theorem lit_le {h : Hd} {f b idx : Nat} (hn : h.name.length ≤ 16384) (hv : h.value.length ≤ 16384) : (litL h f b idx).length ≤ idx + 2 + 65540 := by
  obtain ⟨t1, t2⟩ := texts_le (idx := idx) hn hv
  have h1 := bytesT_le _ t2
  have h2 := putL_le f b idx
  have h3 : (textsL h idx).length * 32770 ≤ 2 * 32770 := Nat.mul_le_mul_right _ t1
  unfold litL
  rw [List.length_append]
  omega
theorem one_le {l : List Hd} {most : Nat} (ok : TOk l most) {h : Hd} (hn : h.name.length ≤ 16384) (hv : h.value.length ≤ 16384) : (oneL l most h).1.length ≤ 70000 := by
  have h0 := find_le ok h
  have h1 := fun f b => lit_le (f := f) (b := b) (idx := (findH l h).1) hn hv
  have h2 := putL_le 128 7 (findH l h).1
  unfold oneL
  split
  · have := h1 16 4; simp only; omega
  · split
    · simp only; omega
    · split
      · have := h1 64 6; simp only; omega
      · have := h1 0 4; simp only; omega
theorem sizes_le {told least most : Nat} (h1 : least ≤ 65537) (h2 : most ≤ 65537) : (sizesL told least most).length ≤ 140000 := by
  have a1 := putL_le 32 5 least
  have a2 := putL_le 32 5 most
  unfold sizesL
  rw [List.length_append]
  split <;> split <;> first | omega | (simp only [List.length_nil]; omega) | simp
/-! ### frames -/
theorem own_fr {B : Nat} {σ τ : AW} {v : Value} {e : TypeId} {z n : Nat} {vs : List Value} (h : Own B σ v e z n vs) (hn : σ.next ≤ τ.next) (k : ∀ c, B ≤ c → c < σ.next → InBlk v c → τ.get c = σ.get c) : Own B τ v e z n vs := by
  obtain ⟨h1, h | ⟨b, c, ws, h2, hc, h3', h4, h5, h6⟩⟩ := h
  · exact ⟨h1, .inl h⟩
  · exact ⟨h1, .inr ⟨b, c, ws, h2, hc, h3', by omega, by rw [k b h3' h4 ⟨_, _, _, _, h2⟩]; exact h5, h6⟩⟩
theorem sl_blk {σ : AW} {x : Value} {z n : Nat} {vs : List Value} (h : Sl σ x z n vs) {c : Nat} (hc : InBlk x c) : c < σ.next := by
  obtain ⟨o, s, m, c', rfl⟩ := hc
  obtain ⟨_, ⟨h, _⟩ | ⟨b, off, c'', ws, e, ro, h, _, h1, _⟩⟩ := h
  · cases h
  · injection h with h; injection h with h; injection h with h; omega
def Fe (b0 b1 : Nat) (v v' : Value) (σ τ : AW) : Prop := σ.next ≤ τ.next ∧ (∀ c, c < σ.next → c ≠ b0 → c ≠ b1 → ¬ InBlk v c → τ.get c = σ.get c) ∧ ∀ c, InBlk v' c → InBlk v c ∨ σ.next ≤ c
theorem Fe.trans {b0 b1 : Nat} {v v' v'' : Value} {σ τ υ : AW} (h : Fe b0 b1 v v' σ τ) (k : Fe b0 b1 v' v'' τ υ) : Fe b0 b1 v v'' σ υ := by
  have h1 := h.1
  refine ⟨Nat.le_trans h.1 k.1, fun c hc hb hb' hv => ?_, fun c hc => ?_⟩
  · rw [k.2.1 c (by omega) hb hb' fun hv' => ?_, h.2.1 c hc hb hb' hv]
    rcases h.2.2 c hv' with g | g
    · exact hv g
    · omega
  · rcases k.2.2 c hc with g | g
    · exact h.2.2 c g
    · exact .inr (by omega)
theorem fr_fe {b0 b1 : Nat} {v v' : Value} {σ τ : AW} (h : Fr b1 v v' σ τ) : Fe b0 b1 v v' σ τ := ⟨h.1, fun c hc _ hb hv => h.2.1 c hc hb hv, h.2.2⟩
theorem ext_fe {b0 b1 : Nat} {v : Value} {σ τ : AW} (h : Ext σ τ) : Fe b0 b1 v v σ τ := ⟨h.1, fun c hc _ _ _ => h.2 c hc, fun c hc => .inl hc⟩
theorem sl_same {z n : Nat} {σ τ : AW} {x : Value} {vs : List Value} (h : Sl σ x z n vs) (hn : σ.next ≤ τ.next) (hx : ∀ c, c < σ.next → InBlk x c → τ.get c = σ.get c) : Sl τ x z n vs := by
  obtain ⟨h1, h | ⟨b, off, c, ws, e, ro, h2, hc, h3, h4⟩⟩ := h
  · exact ⟨h1, .inl h⟩
  · refine ⟨h1, .inr ⟨b, off, c, ws, e, ro, h2, hc, by omega, ?_⟩⟩
    rcases h4 with h4 | h4
    · exact .inl h4
    · rw [hx b h3 ⟨_, _, _, _, h2⟩]; exact .inr h4
theorem tab_same {B b : Nat} {σ τ : AW} {v : Value} {l : List Hd} {most : Nat} (h : Tab B b σ v l most) (hn : σ.next ≤ τ.next) (hb : τ.get b = σ.get b) (hv : ∀ c, c < σ.next → InBlk v c → τ.get c = σ.get c) : Tab B b τ v l most := ⟨by rw [hb]; exact h.1, own_fr h.2 hn fun c _ h2 h3 => hv c h2 h3⟩
theorem rtab_same {B b : Nat} {σ τ : AW} {v : Value} {l : List Hd} {most : Nat} (h : RTab B b σ v l most) (hn : σ.next ≤ τ.next) (hb : τ.get b = σ.get b) (hv : ∀ c, c < σ.next → InBlk v c → τ.get c = σ.get c) : RTab B b τ v l most := ⟨by rw [hb]; exact h.1, own_fr h.2 hn fun c _ h2 h3 => hv c h2 h3⟩
section
variable {σ : AW} {k : Nat} {Q : Value → AW → Prop}
/-- What is appended to: nothing else has changed. -/
theorem aw_appF {B : Nat} {e : TypeId} {z bytes n m : Nat} {s x : Value} {vs us : List Value} (hs : Own B σ s e z n vs) (hx : Sl σ x z m us) (hc : us.all isCell = true) (hb : 0 < bytes) (hroom : (n + m) * bytes ≤ 2 ^ 47) (hB : B ≤ σ.next)
    (h : ∀ v τ, Own B τ v e z (n + m) (vs ++ us) → σ.next ≤ τ.next → (∀ c, c < σ.next → ¬ InBlk s c → τ.get c = σ.get c) → (∀ c, InBlk v c → InBlk s c ∨ σ.next ≤ c) → Q v τ) : wpA (appendA e z bytes s x) σ Q := by
  rcases Nat.eq_zero_or_pos m with h0 | hm
  · subst h0
    have hu : us = [] := by have := hx.1; exact List.length_eq_zero_iff.1 (by simpa using this)
    subst hu
    have hsrc : σ.source z x = some (0, []) := by
      obtain ⟨_, ⟨rfl, _⟩ | ⟨b, o, c, ws, e, ro, rfl, _⟩⟩ := hx
      · rfl
      · simp [AW.source]
    refine ⟨s, σ, ?_, h s σ (by simpa using hs) (Nat.le_refl _) (fun _ _ _ => rfl) fun c hc => .inl hc⟩
    obtain ⟨_, ⟨rfl, rfl⟩ | ⟨b, c, ws, rfl, hcl, _⟩⟩ := hs
    · simp [appendA, hsrc]
    · simp [appendA, hsrc, hcl]
  · refine aw_append hs hx hm hc hb hroom hB fun v τ h1 h2 h3 h4 => h v τ h1 h2.1 h2.2 fun c hc => .inr ?_
    obtain ⟨o, s', m, c', rfl⟩ := h3
    obtain ⟨o2, s2, m2, c2, he⟩ := hc
    injection he with he; injection he with he; injection he with he
    omega
theorem integer_spec {b m first : Nat} (hf : first < 256) (h1 : 1 ≤ b) (h2 : b ≤ 8) (hm : m ≤ 2147483647) (h0 : first % 2 ^ b = 0) (hk : bigP + 30 ≤ k) :
    wpA (callN Try.prog k 29 [.int .u8 first, .int .i64 b, .int .i64 m]) σ fun v τ => Ext σ τ ∧ Own σ.next τ v 5 1 (putL first b m).length ((putL first b m).map Bt) := by
  rw [callN_at (by omega), R29.eq]
  simp [R29.top]
  refine (put_good hf h1 h2 hm h0 (by omega)).mono ?_
  rintro _ τ ⟨he, s, rfl, ow⟩
  simp
  exact ⟨he, ow⟩
theorem lit_spec {h : Hd} {f b idx : Nat} (hf : f < 256) (h1 : 1 ≤ b) (h2 : b ≤ 8) (h0 : f % 2 ^ b = 0) (hi : idx ≤ 65536) (hn : h.name.length ≤ 16384) (hv : h.value.length ≤ 16384) (hk : bigK + 50 ≤ k) :
    wpA (callN Try.prog k 31 [.agg h.cs.toArray, .int .u8 f, .int .i64 b, .int .i64 idx]) σ fun v τ => Ext σ τ ∧ Own σ.next τ v 5 1 (litL h f b idx).length ((litL h f b idx).map Bt) := by
  rw [callN_at (by omega), R31.eq]
  have hbig : bigK + 49 ≤ k - 1 := by omega
  generalize hk1 : k - 1 = k1 at hbig
  have hP : bigP + 30 ≤ k1 := by unfold bigP; unfold bigK at hbig; omega
  obtain ⟨t1, t2⟩ := texts_le (idx := idx) hn hv
  have hpl := putL_le f b idx
  simp [R31.top, Hd.cs]
  generalize hP' : σ.push (.cells [Tx h.name, Tx h.value, .bool h.secret] 56 false) = P
  have hPx : P.get σ.next = some (.cells [Tx h.name, Tx h.value, .bool h.secret] 56 false) := by rw [← hP']; simp
  have hPe : Ext σ P := by rw [← hP']; exact Ext.push σ _
  have hPn : P.next = σ.next + 1 := by rw [← hP']; simp
  clear hP'
  refine (integer_spec hf h1 h2 (by omega) h0 hP).mono ?_
  rintro a τ ⟨he, ow⟩
  have hen := he.1
  have hxT : τ.get σ.next = some (.cells [Tx h.name, Tx h.value, .bool h.secret] 56 false) := by rw [he.2 _ (by omega)]; exact hPx
  have rest : ∀ (υ : AW) (w : Value), Ext τ υ → Sl υ w 1 (textsL h idx).length ((textsL h idx).map Tx) → (∀ c, InBlk w c → τ.next ≤ c) → wpA (R31.j_43 (callN Try.prog k1) k1 a w) υ fun v τ => Ext σ τ ∧ Own σ.next τ v 5 1 (litL h f b idx).length ((litL h f b idx).map Bt) := by
    intro υ w ex hw hwb
    have owU := (ow.ext ex).mono (B' := σ.next) (by omega)
    simp [R31.j_43, len_iff hw]
    refine aw_loop2 (fun r u x υ' => ∃ (i : Nat) (acc : List UInt8), x = .int .i64 i ∧ i ≤ (textsL h idx).length ∧ r = (textsL h idx).length - i ∧ Ext σ υ' ∧ Own σ.next υ' u 5 1 acc.length (acc.map Bt) ∧ Sl υ' w 1 (textsL h idx).length ((textsL h idx).map Tx) ∧ (∀ c, InBlk u c → ¬ InBlk w c) ∧ acc.length ≤ 65538 + i * 32770 ∧ acc ++ bytesT ((textsL h idx).drop i) = litL h f b idx) ?_ k1 (textsL h idx).length _ _ υ ⟨0, _, rfl, by omega, rfl, (hPe.trans he).trans ex, owU, hw, fun c h3 h4 => by have := own_new_lt ow h3; have := hwb c h4; omega, by omega, rfl⟩ (by unfold bigP at hP; omega)
    rintro r rec u x υ' ⟨i, acc, rfl, hile, rfl, ex', owA, hwA, ap, hal, hacc⟩ hrec
    have exn := ex'.1
    by_cases hlt : i < (textsL h idx).length
    · obtain ⟨t, ht⟩ : ∃ t, (textsL h idx)[i]? = some t := ⟨_, List.getElem?_eq_getElem hlt⟩
      have htl := t2 t (List.mem_of_getElem? ht)
      have hpt := putText_le (sh := true) htl
      have hdr : (textsL h idx).drop i = t :: (textsL h idx).drop (i + 1) := by
        obtain ⟨g1, g2⟩ := List.getElem?_eq_some_iff.1 ht
        rw [List.drop_eq_getElem_cons g1, g2]
      have hwi : IntKind.i64.wrap ((i : Int) + 1) = ((i + 1 : Nat) : Int) := wrap64 (by omega) (by omega)
      simp [R31.b_42, hlt, ↓at1_all hwA ht, -Int.natCast_add]
      refine (puttext_spec (s := t) (sh := true) (by omega) (by omega)).mono ?_
      rintro _ τ2 ⟨he2, hv2⟩
      have he2n := he2.1
      rcases hv2 with ⟨_, p, rfl, op⟩ | ⟨hbad, _⟩
      · simp
        refine aw_appF (owA.ext he2) op.sl (all_Bt _) (by omega) (by omega) (by omega) fun z τ3 h3 h4 h5 h6 => ?_
        simp [hwi, -Int.natCast_add]
        have exF : Ext σ τ3 := ⟨by omega, fun c hc => by rw [h5 c (by omega) (own_sl_ne owA hc), he2.2 c (by omega)]; exact ex'.2 c hc⟩
        refine hrec ((textsL h idx).length - (i + 1)) _ _ _ (by omega) ⟨i + 1, acc ++ putTextL t true, rfl, by omega, rfl, exF, by rw [List.length_append, List.map_append]; exact h3, sl_same hwA (by omega) (fun c hc hin => by rw [h5 c (by omega) (fun hu => ap c hu hin)]; exact he2.2 c hc), fun c h7 h8 => ?_, by rw [List.length_append]; omega, ?_⟩
        · have hlt2 := sl_blk hwA h8
          rcases h6 c h7 with g | g
          · exact ap c g h8
          · omega
        · rw [← hacc, hdr]
          simp [bytesT]
      · omega
    · have e : i = (textsL h idx).length := by omega
      subst e
      have hd : (textsL h idx).drop (textsL h idx).length = [] := by simp
      rw [hd] at hacc
      have hacc' : acc = litL h f b idx := by rw [← hacc]; simp [bytesT]
      simp [R31.b_42]
      rw [← hacc']
      exact ⟨ex', owA⟩
  have e1 : Ext τ (τ.push (.cells [Tx h.value] 9 false)) := Ext.push _ _
  by_cases hz : idx = 0
  · subst hz
    have e2 : textsL h 0 = [h.name, h.value] := rfl
    have hne : ¬ σ.next = τ.next := by omega
    simp [hxT, hne, zeros, List.range_succ]
    have := rest ((τ.push (.cells [Tx h.value] 9 false)).push (.cells [Tx h.name, Tx h.value] 9 false)) (.slice (some ⟨τ.next + 1, 0, some 1⟩) 2 2) (e1.trans (Ext.push _ _)) (by rw [e2]; have := (own_new (σ := τ.push (.cells [Tx h.value] 9 false)) (B := 0) (e := 9) (z := 1) (n := 2) (vs := [Tx h.name, Tx h.value]) (by omega) rfl).sl; simpa using this) (by
      rintro c ⟨o, s, n, cc, he⟩
      injection he with he; injection he with he; injection he with he
      omega)
    simpa using this
  · have e2 : textsL h idx = [h.value] := by unfold textsL; rw [if_neg hz]
    have hz' : ¬ (idx : Int) = 0 := by omega
    simp [hxT, zeros, List.range_succ, hz, hz']
    have := rest (τ.push (.cells [Tx h.value] 9 false)) (.slice (some ⟨τ.next, 0, some 1⟩) 1 1) e1 (by rw [e2]; have := (own_new (σ := τ) (B := 0) (e := 9) (z := 1) (n := 1) (vs := [Tx h.value]) (by omega) rfl).sl; simpa using this) (by
      rintro c ⟨o, s, n, cc, he⟩
      injection he with he; injection he with he; injection he with he
      omega)
    simpa using this
end
end Go.Proofs.Ytjmafbiklebjcaa

namespace Go.Proofs.Ytjmafbiklebjcaa
open Go.Proofs.Ytjmafbiklebjcaa.Eng
section
variable {σ : AW} {k : Nat} {Q : Value → AW → Prop}
theorem rlit_spec {h : Hd} {f b idx : Nat} (hf : f < 256) (h1 : 1 ≤ b) (h2 : b ≤ 8) (h0 : f % 2 ^ b = 0) (hi : idx ≤ 65536) (hn : h.name.length ≤ 16384) (hv : h.value.length ≤ 16384) (hk : bigK + 50 ≤ k) :
    wpA (callN Try.prog k 36 [.agg h.cs.toArray, .int .u8 f, .int .i64 b, .int .i64 idx]) σ fun v τ => Ext σ τ ∧ Own σ.next τ v 5 1 (litL h f b idx).length ((litL h f b idx).map Bt) := by
  rw [callN_at (by omega), R36.eq]
  have hbig : bigK + 49 ≤ k - 1 := by omega
  generalize hk1 : k - 1 = k1 at hbig
  have hP : bigP + 30 ≤ k1 := by unfold bigP; unfold bigK at hbig; omega
  have hpl := putL_le f b idx
  simp [R36.top, Hd.cs]
  generalize hP' : σ.push (.cells [Tx h.name, Tx h.value, .bool h.secret] 56 false) = P
  have hPx : P.get σ.next = some (.cells [Tx h.name, Tx h.value, .bool h.secret] 56 false) := by rw [← hP']; simp
  have hPe : Ext σ P := by rw [← hP']; exact Ext.push σ _
  have hPn : P.next = σ.next + 1 := by rw [← hP']; simp
  clear hP'
  refine (rput_good hf h1 h2 (by omega) h0 (by omega)).mono ?_
  rintro _ τ ⟨he, a, rfl, ow⟩
  have hen := he.1
  have hxT : τ.get σ.next = some (.cells [Tx h.name, Tx h.value, .bool h.secret] 56 false) := by rw [he.2 _ (by omega)]; exact hPx
  have rest : ∀ (υ : AW) (w : Value) (acc : List UInt8), Ext P υ → Own P.next υ w 5 1 acc.length (acc.map Bt) → acc.length ≤ 200000 → acc ++ putTextL h.value true = litL h f b idx → wpA (R36.j_24 (callN Try.prog k1) k1 (ptr σ.next) w) υ fun v τ => Ext σ τ ∧ Own σ.next τ v 5 1 (litL h f b idx).length ((litL h f b idx).map Bt) := by
    intro υ w acc ex owA hal hacc
    have exn := ex.1
    have hxU : υ.get σ.next = some (.cells [Tx h.name, Tx h.value, .bool h.secret] 56 false) := by rw [ex.2 _ (by omega)]; exact hPx
    have hpt := putText_le (sh := true) hv
    simp [R36.j_24, hxU]
    refine (rputtext_spec (s := h.value) (sh := true) (by omega) (by omega)).mono ?_
    rintro _ τ2 ⟨he2, hv2⟩
    have he2n := he2.1
    rcases hv2 with ⟨_, p, rfl, op⟩ | ⟨hbad, _⟩
    · simp
      refine aw_appF (owA.ext he2) op.sl (all_Bt _) (by omega) (by omega) (by omega) fun z τ3 h3 h4 h5 h6 => ?_
      try simp
      refine ⟨⟨by omega, fun c hc => by rw [h5 c (by omega) (own_sl_ne owA (by omega)), he2.2 c (by omega), ex.2 c (by omega)]; exact hPe.2 c hc⟩, ?_⟩
      rw [← hacc, List.length_append, List.map_append]
      exact h3.mono (by omega)
    · omega
  by_cases hz : idx = 0
  · subst hz
    have hpt := putText_le (sh := true) hn
    simp [hxT]
    refine (rputtext_spec (s := h.name) (sh := true) (by omega) (by omega)).mono ?_
    rintro _ τ2 ⟨he2, hv2⟩
    have he2n := he2.1
    rcases hv2 with ⟨_, p, rfl, op⟩ | ⟨hbad, _⟩
    · simp
      refine aw_appF (ow.ext he2) op.sl (all_Bt _) (by omega) (by omega) (by omega) fun z τ3 h3 h4 h5 h6 => ?_
      try simp
      refine rest τ3 z (putL f b 0 ++ putTextL h.name true) ⟨by omega, fun c hc => by rw [h5 c (by omega) (own_sl_ne ow hc), he2.2 c (by omega)]; exact he.2 c hc⟩ (by rw [List.length_append, List.map_append]; exact h3) (by rw [List.length_append]; omega) ?_
      simp [litL, textsL, bytesT]
    · omega
  · have hz' : ¬ (idx : Int) = 0 := by omega
    simp [hz, hz']
    exact rest τ a (putL f b idx) he ow (by omega) (by simp [litL, textsL, bytesT, hz])
/-- An encoder's own numbers. -/
def EncAt (e : TypeId) (b0 b1 : Nat) (σ : AW) (told least : Nat) : Prop := σ.get b0 = some (.cells [ptr b1, .int .i64 (told : Nat), .int .i64 (least : Nat)] e false)
def SizesV (e : TypeId) (b0 b1 : Nat) (σ : AW) (told least most : Nat) (r : Value) (τ : AW) : Prop :=
  Own σ.next τ r 5 1 (sizesL told least most).length ((sizesL told least most).map Bt) ∧ EncAt e b0 b1 τ most 65537 ∧ σ.next ≤ τ.next ∧ ∀ c, c < σ.next → c ≠ b0 → τ.get c = σ.get c
theorem sizes_spec {B b0 b1 told least most : Nat} {v : Value} {l : List Hd} (hE : EncAt 52 b0 b1 σ told least) (hT : Tab B b1 σ v l most) (hb0 : b0 < σ.next) (hm : most ≤ 65536) (hl : least ≤ 65537) (hk : bigP + 50 ≤ k) :
    wpA (callN Try.prog k 18 [ptr b0]) σ (SizesV 52 b0 b1 σ told least most) := by
  rw [callN_at (by omega), R18.eq]
  have hbig : bigP + 49 ≤ k - 1 := by omega
  generalize hk1 : k - 1 = k1 at hbig
  have hEg : σ.get b0 = some (.cells [ptr b1, .int .i64 (told : Nat), .int .i64 (least : Nat)] 52 false) := hE
  have a1 := putL_le 32 5 least
  have a2 := putL_le 32 5 most
  have fin : ∀ (υ : AW) (w : Value) (bs : List UInt8), Ext σ υ → Own σ.next υ w 5 1 bs.length (bs.map Bt) → bs = sizesL told least most → wpA (R18.j_21 (callN Try.prog k1) k1 (ptr b0) (.int .i64 most) w) υ (SizesV 52 b0 b1 σ told least most) := by
    intro υ w bs ex ow e
    have exn := ex.1
    have hU : υ.get b0 = some (.cells [ptr b1, .int .i64 (told : Nat), .int .i64 (least : Nat)] 52 false) := by rw [ex.2 _ hb0]; exact hEg
    simp [R18.j_21, hU]
    refine ⟨?_, by simp [EncAt], by simpa using exn, fun c hc h0 => by simp [h0]; exact ex.2 c hc⟩
    rw [← e]
    refine own_fr ow (by simp) fun c h1 h2 _ => ?_
    have c1 : ¬ c = b0 := by omega
    simp [c1]
  have mid : ∀ (dip : Bool) (υ : AW) (w : Value) (bs : List UInt8), Ext σ υ → Own σ.next υ w 5 1 bs.length (bs.map Bt) → bs.length ≤ 70000 → (dip = true ↔ (least < told ∧ least < most)) → bs = (if least < told ∧ least < most then putL 32 5 least else []) → wpA (R18.j_40 (callN Try.prog k1) k1 (ptr b0) (.int .i64 most) (.bool dip) w) υ (SizesV 52 b0 b1 σ told least most) := by
    intro dip υ w bs ex ow hbl hdip hbs
    have exn := ex.1
    have hU : υ.get b0 = some (.cells [ptr b1, .int .i64 (told : Nat), .int .i64 (least : Nat)] 52 false) := by rw [ex.2 _ hb0]; exact hEg
    have yes : ((least < told ∧ least < most) ∨ ¬ most = told) → wpA (callN Try.prog k1 29 [.int .u8 32, .int .i64 5, .int .i64 most]) υ fun p τ => wpA (appendA 5 1 1 w p) τ fun z τ => wpA (R18.j_21 (callN Try.prog k1) k1 (ptr b0) (.int .i64 most) z) τ (SizesV 52 b0 b1 σ told least most) := by
      intro hc
      refine (integer_spec (first := 32) (b := 5) (m := most) (by omega) (by omega) (by omega) (by omega) rfl (by omega)).mono ?_
      rintro p τ ⟨he, op⟩
      refine aw_appF (ow.ext he) op.sl (all_Bt _) (by omega) (by omega) (by have := he.1; omega) fun z τ3 h3 h4 h5 h6 => ?_
      have hen := he.1
      refine fin τ3 z (bs ++ putL 32 5 most) ⟨by omega, fun c hc => by rw [h5 c (by omega) (own_sl_ne ow hc), he.2 c (by omega)]; exact ex.2 c hc⟩ (by rw [List.length_append, List.map_append]; exact h3) ?_
      unfold sizesL
      rw [if_pos hc, hbs]
    by_cases hd : least < told ∧ least < most
    · have : dip = true := hdip.2 hd
      subst this
      simp [R18.j_40, R18.g_33]
      exact yes (.inl hd)
    · have : dip = false := by cases dip with
        | false => rfl
        | true => exact absurd (hdip.1 rfl) hd
      subst this
      by_cases hne : most = told
      · have hne' : (most : Int) = (told : Int) := by omega
        simp [R18.j_40, R18.g_33, hU, hne, hne']
        have := fin υ w bs ex ow (by rw [hbs]; unfold sizesL; rw [if_neg hd, if_neg (by omega)]; rfl)
        rw [hne] at this
        simpa [hne] using this
      · have hne' : ¬ (most : Int) = (told : Int) := by omega
        simp [R18.j_40, R18.g_33, hU, hne, hne']
        exact yes (.inr hne)
  have own0 : Own σ.next σ (.slice none 0 0) 5 1 ([] : List UInt8).length (([] : List UInt8).map Bt) := Own.nil _ _ _ _
  simp [R18.top, hEg, most_iff hT (show 2 ≤ k1 by unfold bigP at hbig; omega)]
  by_cases h1 : least < told
  · have h1' : (least : Int) < (told : Int) := by omega
    by_cases h2 : least < most
    · have h2' : (least : Int) < (most : Int) := by omega
      simp [h1, h1', h2, h2', R18.d_52, hEg]
      refine (integer_spec (first := 32) (b := 5) (m := least) (by omega) (by omega) (by omega) (by omega) rfl (by omega)).mono ?_
      rintro p τ ⟨he, op⟩
      have hen := he.1
      refine aw_appF ((own0.ext he)) op.sl (all_Bt _) (by omega) (by simp; omega) (by omega) fun z τ3 h3 h4 h5 h6 => ?_
      refine mid true τ3 z (putL 32 5 least) ⟨by omega, fun c hc => by rw [h5 c (by omega) (own_sl_ne own0 hc)]; exact he.2 c hc⟩ (by simpa using h3) (by omega) (by simp [h1, h2]) (by rw [if_pos ⟨h1, h2⟩])
    · have h2' : ¬ (least : Int) < (most : Int) := by omega
      simp [h1, h1', h2, h2', R18.d_52, hEg]
      exact mid false σ _ [] (Ext.refl _) own0 (by simp) (by simp [h2]) (by rw [if_neg (by omega)])
  · have h1' : ¬ (least : Int) < (told : Int) := by omega
    simp [h1, h1', R18.d_52, hEg]
    exact mid false σ _ [] (Ext.refl _) own0 (by simp) (by simp [h1]) (by rw [if_neg (by omega)])
theorem updates_spec {B b0 b1 told least most : Nat} {v : Value} {l : List Hd} (hE : EncAt 43 b0 b1 σ told least) (hT : RTab B b1 σ v l most) (hb0 : b0 < σ.next) (hm : most ≤ 65536) (hl : least ≤ 65537) (hk : bigP + 50 ≤ k) :
    wpA (callN Try.prog k 20 [ptr b0]) σ (SizesV 43 b0 b1 σ told least most) := by
  rw [callN_at (by omega), R20.eq]
  have hbig : bigP + 49 ≤ k - 1 := by omega
  generalize hk1 : k - 1 = k1 at hbig
  have hEg : σ.get b0 = some (.cells [ptr b1, .int .i64 (told : Nat), .int .i64 (least : Nat)] 43 false) := hE
  have a1 := putL_le 32 5 least
  have a2 := putL_le 32 5 most
  have fin : ∀ (υ : AW) (w : Value) (bs : List UInt8), Ext σ υ → Own σ.next υ w 5 1 bs.length (bs.map Bt) → bs = sizesL told least most → wpA (R20.j_22 (callN Try.prog k1) k1 (ptr b0) (.int .i64 most) w) υ (SizesV 43 b0 b1 σ told least most) := by
    intro υ w bs ex ow e
    have exn := ex.1
    have hU : υ.get b0 = some (.cells [ptr b1, .int .i64 (told : Nat), .int .i64 (least : Nat)] 43 false) := by rw [ex.2 _ hb0]; exact hEg
    simp [R20.j_22, hU]
    refine ⟨?_, by simp [EncAt], by simpa using exn, fun c hc h0 => by simp [h0]; exact ex.2 c hc⟩
    rw [← e]
    refine own_fr ow (by simp) fun c h1 h2 _ => ?_
    have c1 : ¬ c = b0 := by omega
    simp [c1]
  have mid : ∀ (dip : Bool) (υ : AW) (w : Value) (bs : List UInt8), Ext σ υ → Own σ.next υ w 5 1 bs.length (bs.map Bt) → bs.length ≤ 70000 → (dip = true ↔ (least < told ∧ least < most)) → bs = (if least < told ∧ least < most then putL 32 5 least else []) → wpA (R20.j_47 (callN Try.prog k1) k1 (ptr b0) (.int .i64 most) (.bool dip) w) υ (SizesV 43 b0 b1 σ told least most) := by
    intro dip υ w bs ex ow hbl hdip hbs
    have exn := ex.1
    have hU : υ.get b0 = some (.cells [ptr b1, .int .i64 (told : Nat), .int .i64 (least : Nat)] 43 false) := by rw [ex.2 _ hb0]; exact hEg
    have yes : ((least < told ∧ least < most) ∨ ¬ most = told) → wpA (callN Try.prog k1 34 [.int .u8 32, .int .i64 5, .int .i64 most]) υ fun r τ => wpA (extractA r 0) τ fun p τ => wpA (extractA r 1) τ fun _ τ => wpA (appendA 5 1 1 w p) τ fun z τ => wpA (R20.j_22 (callN Try.prog k1) k1 (ptr b0) (.int .i64 most) z) τ (SizesV 43 b0 b1 σ told least most) := by
      intro hc
      refine (rput_good (first := 32) (b := 5) (m := most) (by omega) (by omega) (by omega) (by omega) rfl (by omega)).mono ?_
      rintro _ τ ⟨he, p, rfl, op⟩
      simp
      refine aw_appF (ow.ext he) op.sl (all_Bt _) (by omega) (by omega) (by have := he.1; omega) fun z τ3 h3 h4 h5 h6 => ?_
      have hen := he.1
      refine fin τ3 z (bs ++ putL 32 5 most) ⟨by omega, fun c hc => by rw [h5 c (by omega) (own_sl_ne ow hc), he.2 c (by omega)]; exact ex.2 c hc⟩ (by rw [List.length_append, List.map_append]; exact h3) ?_
      unfold sizesL
      rw [if_pos hc, hbs]
    by_cases hne : most = told
    · have hne' : (most : Int) = (told : Int) := by omega
      by_cases hd : least < told ∧ least < most
      · have : dip = true := hdip.2 hd
        subst this
        simp [R20.j_47, R20.g_45, hU, hne, hne']
        have := yes (.inl hd)
        simpa [hne] using this
      · have : dip = false := by cases dip with
          | false => rfl
          | true => exact absurd (hdip.1 rfl) hd
        subst this
        simp [R20.j_47, R20.g_45, hU, hne, hne']
        have := fin υ w bs ex ow (by rw [hbs]; unfold sizesL; rw [if_neg hd, if_neg (by omega)]; rfl)
        rw [hne] at this
        simpa [hne] using this
    · have hne' : ¬ (most : Int) = (told : Int) := by omega
      simp [R20.j_47, R20.g_45, hU, hne, hne']
      have := yes (.inr hne)
      simpa using this
  have own0 : Own σ.next σ (.slice none 0 0) 5 1 ([] : List UInt8).length (([] : List UInt8).map Bt) := Own.nil _ _ _ _
  simp [R20.top, hEg, hT.1]
  by_cases h1 : least < told
  · have h1' : (least : Int) < (told : Int) := by omega
    by_cases h2 : least < most
    · have h2' : (least : Int) < (most : Int) := by omega
      simp [h1, h1', h2, h2', R20.d_65, hEg]
      refine (rput_good (first := 32) (b := 5) (m := least) (by omega) (by omega) (by omega) (by omega) rfl (by omega)).mono ?_
      rintro _ τ ⟨he, p, rfl, op⟩
      have hen := he.1
      simp
      refine aw_appF ((own0.ext he)) op.sl (all_Bt _) (by omega) (by simp; omega) (by omega) fun z τ3 h3 h4 h5 h6 => ?_
      refine mid true τ3 z (putL 32 5 least) ⟨by omega, fun c hc => by rw [h5 c (by omega) (own_sl_ne own0 hc)]; exact he.2 c hc⟩ (by simpa using h3) (by omega) (by simp [h1, h2]) (by rw [if_pos ⟨h1, h2⟩])
    · have h2' : ¬ (least : Int) < (most : Int) := by omega
      simp [h1, h1', h2, h2', R20.d_65, hEg]
      exact mid false σ _ [] (Ext.refl _) own0 (by simp) (by simp [h2]) (by rw [if_neg (by omega)])
  · have h1' : ¬ (least : Int) < (told : Int) := by omega
    simp [h1, h1', R20.d_65, hEg]
    exact mid false σ _ [] (Ext.refl _) own0 (by simp) (by simp [h1]) (by rw [if_neg (by omega)])
end
end Go.Proofs.Ytjmafbiklebjcaa

namespace Go.Proofs.Ytjmafbiklebjcaa
open Go.Proofs.Ytjmafbiklebjcaa.Eng
theorem one_secret {l : List Hd} {most : Nat} {h : Hd} (hs : h.secret = true) : oneL l most h = (litL h 16 4 (findH l h).1, l) := by unfold oneL; rw [if_pos hs]
theorem one_whole {l : List Hd} {most : Nat} {h : Hd} (hs : h.secret = false) (hw : (findH l h).2 = true) : oneL l most h = (putL 128 7 (findH l h).1, l) := by unfold oneL; rw [if_neg (by simp [hs]), if_pos hw]
theorem one_large {l : List Hd} {most : Nat} {h : Hd} (hs : h.secret = false) (hw : (findH l h).2 = false) (hm : ¬ hsize h ≤ most) : oneL l most h = (litL h 0 4 (findH l h).1, l) := by unfold oneL; rw [if_neg (by simp [hs]), if_neg (by simp [hw]), if_neg hm]
theorem one_adds {l : List Hd} {most : Nat} {h : Hd} (hs : h.secret = false) (hw : (findH l h).2 = false) (hm : hsize h ≤ most) : oneL l most h = (litL h 64 6 (findH l h).1, addL l most h) := by unfold oneL; rw [if_neg (by simp [hs]), if_neg (by simp [hw]), if_pos hm]
/-- What a header's bytes come to, with the table behind them. -/
def OneV (T : Nat → Nat → AW → Value → List Hd → Nat → Prop) (B b1 : Nat) (σ : AW) (v : Value) (l : List Hd) (most : Nat) (h : Hd) (r : Value) (v' : Value) (τ : AW) : Prop :=
  Own σ.next τ r 5 1 (oneL l most h).1.length ((oneL l most h).1.map Bt) ∧ T B b1 τ v' (oneL l most h).2 most ∧ Fr b1 v v' σ τ ∧ ∀ c, InBlk r c → ¬ InBlk v' c
section
variable {σ : AW} {k : Nat} {Q : Value → AW → Prop}
theorem header_spec {B b0 b1 told least most : Nat} {v : Value} {l : List Hd} {h : Hd} (hE : EncAt 52 b0 b1 σ told least) (hT : Tab B b1 σ v l most) (hb0 : b0 < B) (hb1 : b1 < B) (hne : ¬ b0 = b1) (hB : B ≤ σ.next) (ok : TOk l most) (hn : h.name.length ≤ 16384) (hv : h.value.length ≤ 16384) (hk : bigK + 80 ≤ k)
    (hq : ∀ r v' τ, OneV Tab B b1 σ v l most h r v' τ → Q r τ) : wpA (callN Try.prog k 19 [ptr b0, .agg h.cs.toArray]) σ Q := by
  rw [callN_at (by omega), R19.eq]
  have hbig : bigK + 79 ≤ k - 1 := by omega
  generalize hk1 : k - 1 = k1 at hbig
  have hP : bigP + 30 ≤ k1 := by unfold bigP; unfold bigK at hbig; omega
  have hK : 7000 ≤ k1 := by unfold bigK at hbig; omega
  have hEg : σ.get b0 = some (.cells [ptr b1, .int .i64 (told : Nat), .int .i64 (least : Nat)] 52 false) := hE
  have hfl := find_le ok h
  have hs : hsize h ≤ 16777216 := by unfold hsize; omega
  have hb0n : ¬ b0 = σ.next := by omega
  simp [R19.top, Hd.cs, hb0n, hEg]
  generalize hP' : σ.push (.cells [Tx h.name, Tx h.value, .bool h.secret] 56 false) = P
  have hPx : P.get σ.next = some (.cells [Tx h.name, Tx h.value, .bool h.secret] 56 false) := by rw [← hP']; simp
  have hPe : Ext σ P := by rw [← hP']; exact Ext.push σ _
  have hPn : P.next = σ.next + 1 := by rw [← hP']; simp
  clear hP'
  have hcs : [Tx h.name, Tx h.value, Value.bool h.secret] = h.cs := rfl
  refine (find_spec (h := h) (hT.ext (by omega) hPe) hb1 (by omega) ok (by omega)).mono ?_
  rintro _ τ ⟨he, rfl⟩
  have hen := he.1
  have hxT : τ.get σ.next = some (.cells [Tx h.name, Tx h.value, .bool h.secret] 56 false) := by rw [he.2 _ (by omega)]; exact hPx
  have ex : Ext σ τ := hPe.trans he
  have hTT := hT.ext (by omega) ex
  have hET : τ.get b0 = some (.cells [ptr b1, .int .i64 (told : Nat), .int .i64 (least : Nat)] 52 false) := by rw [ex.2 _ (by omega)]; exact hEg
  -- nothing is added
  have plainly : ∀ (bs : List UInt8) (r : Value) (υ : AW), oneL l most h = (bs, l) → Ext τ υ → Own τ.next υ r 5 1 bs.length (bs.map Bt) → Q r υ := by
    intro bs r υ e ex2 ow
    refine hq r v υ ⟨by rw [e]; exact ow.mono (by omega), by rw [e]; exact hTT.ext (by omega) ex2, ext_fr (ex.trans ex2), fun c hc hin => ?_⟩
    have := own_new_lt hT.2 hin
    exact own_sl_ne ow (by omega) hc
  obtain ⟨nm, vl, sc⟩ := h
  dsimp only at *
  generalize hF : findH l ⟨nm, vl, sc⟩ = F at *
  obtain ⟨idx, whole⟩ := F
  dsimp only at *
  cases sc with
  | true =>
    simp [hxT]
    refine (lit_spec (h := ⟨nm, vl, true⟩) (f := 16) (b := 4) (idx := idx) (by omega) (by omega) (by omega) rfl (by omega) hn hv (by omega)).mono ?_
    rintro r υ ⟨he2, ow⟩
    try simp
    exact plainly _ r υ (by rw [one_secret rfl, hF]) he2 ow
  | false =>
    cases whole with
    | true =>
      simp [hxT]
      refine (integer_spec (first := 128) (b := 7) (m := idx) (by omega) (by omega) (by omega) (by omega) rfl hP).mono ?_
      rintro r υ ⟨he2, ow⟩
      try simp
      exact plainly _ r υ (by rw [one_whole rfl (by rw [hF]), hF]) he2 ow
    | false =>
      simp [hxT]
      refine (size_spec' (h := ⟨nm, vl, false⟩) hs (by omega)).mono ?_
      rintro _ υ ⟨he2, rfl⟩
      have he2n := he2.1
      have hxU : υ.get σ.next = some (.cells [Tx nm, Tx vl, .bool false] 56 false) := by rw [he2.2 _ (by omega)]; exact hxT
      have hEU : υ.get b0 = some (.cells [ptr b1, .int .i64 (told : Nat), .int .i64 (least : Nat)] 52 false) := by rw [he2.2 _ (by omega)]; exact hET
      have hTU := hTT.ext (by omega) he2
      simp [hEU, there_iff, hET, most_iff hTU (show 2 ≤ k1 by omega)]
      by_cases hm : hsize ⟨nm, vl, false⟩ ≤ most
      · have hm' : ¬ (most : Int) < (hsize ⟨nm, vl, false⟩ : Int) := by omega
        have hm2 : ¬ most < hsize ⟨nm, vl, false⟩ := by omega
        simp [hm', hm2, hEU, hxU]
        refine add_spec (x := ⟨nm, vl, false⟩) hTU hb1 (by omega) ok hs (by omega) fun v' υ2 ht fr => ?_
        have frn := fr.1
        have hxV : υ2.get σ.next = some (.cells [Tx nm, Tx vl, .bool false] 56 false) := by
          rw [fr.2.1 _ (by omega) (by omega) fun hin => ?_]
          · exact hxU
          · have := own_new_lt hT.2 hin
            omega
        simp [hxV]
        refine (lit_spec (h := ⟨nm, vl, false⟩) (f := 64) (b := 6) (idx := idx) (by omega) (by omega) (by omega) rfl (by omega) hn hv (by omega)).mono ?_
        rintro r υ3 ⟨he3, ow⟩
        have he3n := he3.1
        try simp
        have e : oneL l most ⟨nm, vl, false⟩ = (litL ⟨nm, vl, false⟩ 64 6 idx, addL l most ⟨nm, vl, false⟩) := by rw [one_adds rfl (by rw [hF]) hm, hF]
        refine hq r v' υ3 ⟨by rw [e]; exact ow.mono (by omega), by rw [e]; exact ht.ext (by omega) he3, ((ext_fr (ex.trans he2)).trans fr).trans (ext_fr he3), fun c hc hin => ?_⟩
        have := own_new_lt ht.2 hin
        exact own_sl_ne ow (by omega) hc
      · have hm' : (most : Int) < (hsize ⟨nm, vl, false⟩ : Int) := by omega
        have hm2 : most < hsize ⟨nm, vl, false⟩ := by omega
        simp [hm', hm2, hxU]
        refine (lit_spec (h := ⟨nm, vl, false⟩) (f := 0) (b := 4) (idx := idx) (by omega) (by omega) (by omega) rfl (by omega) hn hv (by omega)).mono ?_
        rintro r υ3 ⟨he3, ow⟩
        try simp
        exact plainly _ r υ3 (by rw [one_large rfl (by rw [hF]) hm, hF]) (he2.trans he3) (ow.mono (by omega))
theorem one_spec {B b0 b1 told least most : Nat} {v : Value} {l : List Hd} {h : Hd} (hE : EncAt 43 b0 b1 σ told least) (hT : RTab B b1 σ v l most) (hb0 : b0 < B) (hb1 : b1 < B) (hne : ¬ b0 = b1) (hB : B ≤ σ.next) (ok : TOk l most) (hn : h.name.length ≤ 16384) (hv : h.value.length ≤ 16384) (hk : bigK + 80 ≤ k)
    (hq : ∀ r v' τ, OneV RTab B b1 σ v l most h r v' τ → Q r τ) : wpA (callN Try.prog k 21 [ptr b0, .agg h.cs.toArray]) σ Q := by
  rw [callN_at (by omega), R21.eq]
  have hbig : bigK + 79 ≤ k - 1 := by omega
  generalize hk1 : k - 1 = k1 at hbig
  have hP : bigP + 30 ≤ k1 := by unfold bigP; unfold bigK at hbig; omega
  have hK : 7000 ≤ k1 := by unfold bigK at hbig; omega
  have hEg : σ.get b0 = some (.cells [ptr b1, .int .i64 (told : Nat), .int .i64 (least : Nat)] 43 false) := hE
  have hfl := find_le ok h
  have hs : hsize h ≤ 16777216 := by unfold hsize; omega
  have hb0n : ¬ b0 = σ.next := by omega
  simp [R21.top, Hd.cs, hb0n, hEg]
  generalize hP' : σ.push (.cells [Tx h.name, Tx h.value, .bool h.secret] 56 false) = P
  have hPx : P.get σ.next = some (.cells [Tx h.name, Tx h.value, .bool h.secret] 56 false) := by rw [← hP']; simp
  have hPe : Ext σ P := by rw [← hP']; exact Ext.push σ _
  have hPn : P.next = σ.next + 1 := by rw [← hP']; simp
  clear hP'
  refine (rfind_spec (h := h) (hT.ext (by omega) hPe) hb1 (by omega) ok (by omega)).mono ?_
  rintro _ τ ⟨he, rfl⟩
  have hen := he.1
  have hxT : τ.get σ.next = some (.cells [Tx h.name, Tx h.value, .bool h.secret] 56 false) := by rw [he.2 _ (by omega)]; exact hPx
  have ex : Ext σ τ := hPe.trans he
  have hTT := hT.ext (by omega) ex
  have hET : τ.get b0 = some (.cells [ptr b1, .int .i64 (told : Nat), .int .i64 (least : Nat)] 43 false) := by rw [ex.2 _ (by omega)]; exact hEg
  have plainly : ∀ (bs : List UInt8) (r : Value) (υ : AW), oneL l most h = (bs, l) → Ext τ υ → Own τ.next υ r 5 1 bs.length (bs.map Bt) → Q r υ := by
    intro bs r υ e ex2 ow
    refine hq r v υ ⟨by rw [e]; exact ow.mono (by omega), by rw [e]; exact hTT.ext (by omega) ex2, ext_fr (ex.trans ex2), fun c hc hin => ?_⟩
    have := own_new_lt hT.2 hin
    exact own_sl_ne ow (by omega) hc
  obtain ⟨nm, vl, sc⟩ := h
  dsimp only at *
  generalize hF : findH l ⟨nm, vl, sc⟩ = F at *
  obtain ⟨idx, whole⟩ := F
  dsimp only at *
  cases sc with
  | true =>
    simp [hxT]
    refine (rlit_spec (h := ⟨nm, vl, true⟩) (f := 16) (b := 4) (idx := idx) (by omega) (by omega) (by omega) rfl (by omega) hn hv (by omega)).mono ?_
    rintro r υ ⟨he2, ow⟩
    try simp
    exact plainly _ r υ (by rw [one_secret rfl, hF]) he2 ow
  | false =>
    cases whole with
    | true =>
      simp [hxT]
      refine (rput_good (first := 128) (b := 7) (m := idx) (by omega) (by omega) (by omega) (by omega) rfl (by omega)).mono ?_
      rintro _ υ ⟨he2, r, rfl, ow⟩
      try simp
      exact plainly _ r υ (by rw [one_whole rfl (by rw [hF]), hF]) he2 ow
    | false =>
      simp [hxT]
      refine (rsize_spec' (h := ⟨nm, vl, false⟩) hs (by omega)).mono ?_
      rintro _ υ ⟨he2, rfl⟩
      have he2n := he2.1
      have hxU : υ.get σ.next = some (.cells [Tx nm, Tx vl, .bool false] 56 false) := by rw [he2.2 _ (by omega)]; exact hxT
      have hEU : υ.get b0 = some (.cells [ptr b1, .int .i64 (told : Nat), .int .i64 (least : Nat)] 43 false) := by rw [he2.2 _ (by omega)]; exact hET
      have hTU := hTT.ext (by omega) he2
      simp [hEU, there_iff, hET, hTU.1, hTT.1]
      by_cases hm : hsize ⟨nm, vl, false⟩ ≤ most
      · have hm' : (hsize ⟨nm, vl, false⟩ : Int) ≤ (most : Int) := by omega
        simp [hm', hm, hxU]
        refine (rlit_spec (h := ⟨nm, vl, false⟩) (f := 64) (b := 6) (idx := idx) (by omega) (by omega) (by omega) rfl (by omega) hn hv (by omega)).mono ?_
        rintro r υ3 ⟨he3, ow⟩
        have he3n := he3.1
        have hxV : υ3.get σ.next = some (.cells [Tx nm, Tx vl, .bool false] 56 false) := by rw [he3.2 _ (by omega)]; exact hxU
        have hEV : υ3.get b0 = some (.cells [ptr b1, .int .i64 (told : Nat), .int .i64 (least : Nat)] 43 false) := by rw [he3.2 _ (by omega)]; exact hEU
        simp [hEV, hxV]
        refine radd_spec (x := ⟨nm, vl, false⟩) (hTU.ext (by omega) he3) hb1 (by omega) ok hs (by omega) fun v' υ4 ht fr => ?_
        have frn := fr.1
        try simp
        have e : oneL l most ⟨nm, vl, false⟩ = (litL ⟨nm, vl, false⟩ 64 6 idx, addL l most ⟨nm, vl, false⟩) := by rw [one_adds rfl (by rw [hF]) hm, hF]
        have apart : ∀ c, InBlk r c → ¬ InBlk v c := fun c hc hin => by
          have := own_new_lt hT.2 hin
          exact own_sl_ne ow (by omega) hc
        refine hq r v' υ4 ⟨by rw [e]; exact (own_fr ow frn fun c h1 h2 h3 => fr.2.1 c h2 (by omega) (apart c h3)).mono (by omega), by rw [e]; exact ht, (ext_fr ((ex.trans he2).trans he3)).trans fr, fun c hc hin => ?_⟩
        rcases fr.2.2 c hin with g | g
        · exact apart c hc g
        · have := own_new_lt ow hc
          omega
      · have hm' : ¬ (hsize ⟨nm, vl, false⟩ : Int) ≤ (most : Int) := by omega
        simp [hm', hm, hxU]
        refine (rlit_spec (h := ⟨nm, vl, false⟩) (f := 0) (b := 4) (idx := idx) (by omega) (by omega) (by omega) rfl (by omega) hn hv (by omega)).mono ?_
        rintro r υ3 ⟨he3, ow⟩
        try simp
        exact plainly _ r υ3 (by rw [one_large rfl (by rw [hF]) hm, hF]) (he2.trans he3) (ow.mono (by omega))
end
end Go.Proofs.Ytjmafbiklebjcaa
