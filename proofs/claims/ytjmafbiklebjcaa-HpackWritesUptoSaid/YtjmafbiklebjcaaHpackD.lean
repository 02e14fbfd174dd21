/- A list's block, of both encoders. -/
import Derived.Test.YtjmafbiklebjcaaHpackA
set_option linter.unusedVariables false
set_option linter.unusedSimpArgs false
namespace Go.Proofs.Ytjmafbiklebjcaa
open Go.Proofs.Ytjmafbiklebjcaa.Eng
def wholeL (told least : Nat) (l : List Hd) (most : Nat) (hs : List Hd) : List UInt8 := sizesL told least most ++ (blockL l most hs).1
/-- In the middle of a block. -/
structure Mid (T : Nat → Nat → AW → Value → List Hd → Nat → Prop) (e : TypeId) (B b0 b1 told least most : Nat) (σ : AW) (v : Value) (υ : AW) (w v' : Value) (acc : List UInt8) (l' : List Hd) : Prop where
  enc : EncAt e b0 b1 υ told least
  tab : T B b1 υ v' l' most
  ok : TOk l' most
  fe : Fe b0 b1 v v' σ υ
  own : Own σ.next υ w 5 1 acc.length (acc.map Bt)
  ap : ∀ c, InBlk w c → ¬ InBlk v' c
def TSame (T : Nat → Nat → AW → Value → List Hd → Nat → Prop) : Prop := ∀ {B b : Nat} {σ τ : AW} {v : Value} {l : List Hd} {most : Nat}, T B b σ v l most → σ.next ≤ τ.next → τ.get b = σ.get b → (∀ c, c < σ.next → InBlk v c → τ.get c = σ.get c) → T B b τ v l most
def TOwn (T : Nat → Nat → AW → Value → List Hd → Nat → Prop) : Prop := ∀ {B b : Nat} {σ : AW} {v : Value} {l : List Hd} {most : Nat}, T B b σ v l most → ∀ c, InBlk v c → B ≤ c ∧ c < σ.next
theorem own_in {B : Nat} {σ : AW} {v : Value} {e : TypeId} {z n : Nat} {vs : List Value} (h : Own B σ v e z n vs) {c : Nat} (hc : InBlk v c) : B ≤ c ∧ c < σ.next := by
  refine ⟨?_, own_new_lt h hc⟩
  rcases Nat.lt_or_ge c B with g | g
  · exact absurd hc (own_sl_ne h g)
  · exact g
theorem tab_tsame : TSame Tab := fun h a b c => tab_same h a b c
theorem rtab_tsame : TSame RTab := fun h a b c => rtab_same h a b c
theorem tab_town : TOwn Tab := fun h c hc => own_in h.2 hc
theorem rtab_town : TOwn RTab := fun h c hc => own_in h.2 hc
theorem mid_step {T : Nat → Nat → AW → Value → List Hd → Nat → Prop} (ts : TSame T) (to : TOwn T) {e : TypeId} {B b0 b1 told least most : Nat} {σ υ P τ : AW} {v w v' v'' r : Value} {acc : List UInt8} {l' : List Hd} {h : Hd} (hb0 : b0 < B) (hb1 : b1 < B) (hne : ¬ b0 = b1) (hB : B ≤ σ.next)
    (m : Mid T e B b0 b1 told least most σ v υ w v' acc l') (ex : Ext υ P) (ho : OneV T B b1 P v' l' most h r v'' τ) :
    Own σ.next τ w 5 1 acc.length (acc.map Bt) ∧ ∀ z τ3, Own σ.next τ3 z 5 1 (acc.length + (oneL l' most h).1.length) (acc.map Bt ++ (oneL l' most h).1.map Bt) → τ.next ≤ τ3.next → (∀ c, c < τ.next → ¬ InBlk w c → τ3.get c = τ.get c) → (∀ c, InBlk z c → InBlk w c ∨ τ.next ≤ c) →
      Mid T e B b0 b1 told least most σ v τ3 z v'' (acc ++ (oneL l' most h).1) (oneL l' most h).2 := by
  obtain ⟨o1, o2, o3, o4⟩ := ho
  have fn := m.fe.1
  have exn := ex.1
  have frn := o3.1
  have wlow : ∀ c, InBlk w c → σ.next ≤ c ∧ c < υ.next := fun c hc => own_in m.own hc
  have w2 : ∀ c, InBlk w c → ¬ InBlk v'' c := fun c hc hin => by
    rcases o3.2.2 c hin with g | g
    · exact m.ap c hc g
    · have := wlow c hc; omega
  refine ⟨own_fr (m.own.ext ex) frn fun c h1 h2 h3 => o3.2.1 c h2 (by omega) (m.ap c h3), fun z τ3 hz hn3 hg hz2 => ?_⟩
  have vlow := to o2
  refine ⟨?_, ts o2 hn3 (hg b1 (by omega) fun hc => by have := wlow b1 hc; omega) (fun c h1 h2 => hg c h1 fun hc => w2 c hc h2), one_ok m.ok h, ?_, by rw [List.length_append, List.map_append]; exact hz, fun c hc hin => ?_⟩
  · show τ3.get b0 = _
    rw [hg b0 (by omega) fun hc => by have := wlow b0 hc; omega, o3.2.1 b0 (by omega) hne fun hc => ?_, ex.2 b0 (by omega)]
    · exact m.enc
    · have := to m.tab b0 hc
      omega
  · have f : Fe b0 b1 v v'' σ τ := m.fe.trans ((ext_fe ex).trans (fr_fe o3))
    exact ⟨by omega, fun c h1 h2 h3 h4 => by rw [hg c (by omega) fun hc => by have := wlow c hc; omega]; exact f.2.1 c h1 h2 h3 h4, f.2.2⟩
  · rcases hz2 c hc with g | g
    · exact w2 c g hin
    · have := vlow c hin
      omega
theorem mid_start {T : Nat → Nat → AW → Value → List Hd → Nat → Prop} (ts : TSame T) (to : TOwn T) {e : TypeId} {B b0 b1 told least most : Nat} {σ υ τ : AW} {v r : Value} {l : List Hd} (hb0 : b0 < B) (hb1 : b1 < B) (hne : ¬ b0 = b1) (hB : B ≤ σ.next) (hT : T B b1 σ v l most) (ok : TOk l most)
    (ex : Ext σ υ) (hs : SizesV e b0 b1 υ told least most r τ) : Mid T e B b0 b1 most 65537 most σ v τ r v (sizesL told least most) l := by
  obtain ⟨s1, s2, s3, s4⟩ := hs
  have exn := ex.1
  refine ⟨s2, ts hT (by omega) (by rw [s4 b1 (by omega) (fun h => hne h.symm), ex.2 b1 (by omega)]) (fun c h1 h2 => ?_), ok, ⟨by omega, fun c h1 h2 _ _ => by rw [s4 c (by omega) h2]; exact ex.2 c h1, fun c hc => .inl hc⟩, s1.mono exn, fun c hc hin => ?_⟩
  · have := to hT c h2
    rw [s4 c (by omega) (by omega)]
    exact ex.2 c h1
  · have := to hT c hin
    have := own_in s1 hc
    omega
theorem sl_fe {b0 b1 z n : Nat} {v v' x : Value} {vs : List Value} {σ τ : AW} (h : Sl σ x z n vs) (f : Fe b0 b1 v v' σ τ) (hx : ∀ c, InBlk x c → c ≠ b0 ∧ c ≠ b1 ∧ ¬ InBlk v c) : Sl τ x z n vs := sl_same h f.1 fun c h1 h2 => f.2.1 c h1 (hx c h2).1 (hx c h2).2.1 (hx c h2).2.2
theorem badL_all {hs : List Hd} (h : badL hs = false) : hs.length ≤ 1024 ∧ ∀ x ∈ hs, x.name.length ≤ 16384 ∧ x.value.length ≤ 16384 := by
  unfold badL at h
  rw [Bool.or_eq_false_iff] at h
  refine ⟨by simpa using h.1, fun x hx => ?_⟩
  have := List.any_eq_false.1 h.2 x hx
  simpa [badH] using this
theorem und23 : undP Try.prog 23 isPtrT = true := undP_of Try.underlying23
theorem und27 : undP Try.prog 27 isPtrT = true := undP_of Try.underlying27
theorem und73 : undP Try.prog 73 isPtrT = true := undP_of Try.underlying73
section
variable {σ : AW} {k : Nat} {Q : Value → AW → Prop}
theorem enone_iff {b0 b1 told least : Nat} (h : EncAt 52 b0 b1 σ told least) (hk : 1 ≤ k) : wpA (callN Try.prog k 15 [ptr b0]) σ Q ↔ Q (.bool false) σ := by
  have hg : σ.get b0 = some (.cells [ptr b1, .int .i64 (told : Nat), .int .i64 (least : Nat)] 52 false) := h
  rw [callN_at hk, R15.eq]
  simp [R15.g_9, R15.top, und23, und46, eqPtrU, hg]
theorem enc_loop {B b0 b1 told most : Nat} {least : Nat} {v x r0 : Value} {l hs : List Hd} {first : List UInt8} {υ : AW} (hb0 : b0 < B) (hb1 : b1 < B) (hne : ¬ b0 = b1) (hB : B ≤ σ.next) (hx : Sl σ x 3 hs.length (hs.flatMap Hd.cs)) (hxa : ∀ c, InBlk x c → c ≠ b0 ∧ c ≠ b1 ∧ ¬ InBlk v c)
    (hbad : badL hs = false) (hf : first.length ≤ 140000) (m : Mid Tab 52 B b0 b1 told least most σ v υ r0 v first l) (hk : bigK + 100 ≤ k)
    (hq : ∀ r v' τ, Mid Tab 52 B b0 b1 told least most σ v τ r v' (first ++ (blockL l most hs).1) (blockL l most hs).2 → Q (.tuple #[r, .int .i64 0]) τ) :
    wpA (loop2 (R8.b_36 (callN Try.prog k) k (ptr b0) x (.int .i64 hs.length)) k r0 (.int .i64 0)) υ Q := by
  obtain ⟨b1k, b2k⟩ := badL_all hbad
  refine aw_loop2 (fun rr u y υ' => ∃ (i : Nat) (acc : List UInt8) (v' : Value) (l' : List Hd), y = .int .i64 i ∧ i ≤ hs.length ∧ rr = hs.length - i ∧ Mid Tab 52 B b0 b1 told least most σ v υ' u v' acc l' ∧ acc.length ≤ 140000 + i * 70000 ∧ acc ++ (blockL l' most (hs.drop i)).1 = first ++ (blockL l most hs).1 ∧ (blockL l' most (hs.drop i)).2 = (blockL l most hs).2) ?_ k hs.length _ _ υ ⟨0, first, v, l, rfl, by omega, rfl, m, by omega, rfl, rfl⟩ (by unfold bigK at hk; omega)
  rintro rr rec u y υ' ⟨i, acc, v', l', rfl, hi, rfl, mi, hal, hacc, hfin⟩ hrec
  have hxU := sl_fe hx mi.fe hxa
  have fn := mi.fe.1
  by_cases hlt : i < hs.length
  · obtain ⟨h, hh⟩ : ∃ h, hs[i]? = some h := ⟨_, List.getElem?_eq_getElem hlt⟩
    obtain ⟨n1, n2⟩ := b2k h (List.mem_of_getElem? hh)
    have hdr : hs.drop i = h :: hs.drop (i + 1) := by
      obtain ⟨g1, g2⟩ := List.getElem?_eq_some_iff.1 hh
      rw [List.drop_eq_getElem_cons g1, g2]
    have hwi : IntKind.i64.wrap ((i : Int) + 1) = ((i + 1 : Nat) : Int) := wrap64 (by omega) (by omega)
    have h1 := one_le mi.ok n1 n2
    simp [R8.b_36, hlt, ↓atS_all Hd.len (by omega) hxU hh, Hd.cs, -Int.natCast_add]
    generalize hP' : (υ'.push (.cells [.string ⟨#[]⟩, .string ⟨#[]⟩, .bool false] 56 false)).put υ'.next (some (.cells [Tx h.name, Tx h.value, .bool h.secret] 56 false)) = P
    have hPe : Ext υ' P := by rw [← hP']; exact ((Ext.push υ' _).kept (Nat.le_refl _)).put (Nat.le_refl _) _
    have hPn : P.next = υ'.next + 1 := by rw [← hP']; simp
    clear hP'
    have hEP : EncAt 52 b0 b1 P told least := by
      show P.get b0 = _
      rw [hPe.2 b0 (by omega)]
      exact mi.enc
    refine header_spec (h := h) hEP (mi.tab.ext (by omega) hPe) hb0 hb1 hne (by omega) mi.ok n1 n2 (by omega) fun p v'' τ ho => ?_
    obtain ⟨s1, s2⟩ := mid_step (T := Tab) tab_tsame tab_town hb0 hb1 hne hB mi hPe ho
    refine aw_appF s1 ho.1.sl (all_Bt _) (by omega) (by omega) (by have := ho.2.2.1.1; omega) fun z τ3 h3 h4 h5 h6 => ?_
    have mz := s2 z τ3 h3 h4 h5 h6
    simp [hwi, -Int.natCast_add]
    refine hrec (hs.length - (i + 1)) _ _ _ (by omega) ⟨i + 1, _, v'', _, rfl, by omega, rfl, mz, by rw [List.length_append]; omega, ?_, ?_⟩
    · rw [← hacc, hdr, blockL, List.append_assoc]
    · rw [← hfin, hdr, blockL]
  · have e : i = hs.length := by omega
    subst e
    have hd : hs.drop hs.length = [] := by simp
    rw [hd] at hacc hfin
    simp only [blockL, List.append_nil] at hacc hfin
    simp [R8.b_36]
    rw [← hacc, ← hfin] at hq
    exact hq u v' υ' mi
end
end Go.Proofs.Ytjmafbiklebjcaa

namespace Go.Proofs.Ytjmafbiklebjcaa
open Go.Proofs.Ytjmafbiklebjcaa.Eng
/-- What a call of Encode comes to. -/
structure EncHow (T : Nat → Nat → AW → Value → List Hd → Nat → Prop) (e : TypeId) (B b0 b1 told least most : Nat) (σ : AW) (v : Value) (l hs : List Hd) (Q : Value → AW → Prop) : Prop where
  bad : badL hs = true → ∀ τ, Ext σ τ → Q (.tuple #[.slice none 0 0, .int .i64 2]) τ
  good : badL hs = false → ∀ r v' τ, Mid T e B b0 b1 most 65537 most σ v τ r v' (wholeL told least l most hs) (blockL l most hs).2 → Q (.tuple #[r, .int .i64 0]) τ
theorem any_take {hs : List Hd} {i : Nat} {h : Hd} (hh : hs[i]? = some h) : (hs.take (i + 1)).any badH = ((hs.take i).any badH || badH h) := by
  rw [List.take_add_one, hh]; simp
section
variable {σ : AW} {k : Nat} {Q : Value → AW → Prop}
theorem renc_loop {B b0 b1 told most : Nat} {least : Nat} {v x r0 : Value} {l hs : List Hd} {first : List UInt8} {υ : AW} (hb0 : b0 < B) (hb1 : b1 < B) (hne : ¬ b0 = b1) (hB : B ≤ σ.next) (hx : Sl σ x 3 hs.length (hs.flatMap Hd.cs)) (hxa : ∀ c, InBlk x c → c ≠ b0 ∧ c ≠ b1 ∧ ¬ InBlk v c)
    (hbad : badL hs = false) (hf : first.length ≤ 140000) (m : Mid RTab 43 B b0 b1 told least most σ v υ r0 v first l) (hk : bigK + 100 ≤ k)
    (hq : ∀ r v' τ, Mid RTab 43 B b0 b1 told least most σ v τ r v' (first ++ (blockL l most hs).1) (blockL l most hs).2 → Q (.tuple #[r, .int .i64 0]) τ) :
    wpA (loop2 (R9.b_33 (callN Try.prog k) k (ptr b0) x) k r0 (.int .i64 0)) υ Q := by
  obtain ⟨b1k, b2k⟩ := badL_all hbad
  refine aw_loop2 (fun rr u y υ' => ∃ (i : Nat) (acc : List UInt8) (v' : Value) (l' : List Hd), y = .int .i64 i ∧ i ≤ hs.length ∧ rr = hs.length - i ∧ Mid RTab 43 B b0 b1 told least most σ v υ' u v' acc l' ∧ acc.length ≤ 140000 + i * 70000 ∧ acc ++ (blockL l' most (hs.drop i)).1 = first ++ (blockL l most hs).1 ∧ (blockL l' most (hs.drop i)).2 = (blockL l most hs).2) ?_ k hs.length _ _ υ ⟨0, first, v, l, rfl, by omega, rfl, m, by omega, rfl, rfl⟩ (by unfold bigK at hk; omega)
  rintro rr rec u y υ' ⟨i, acc, v', l', rfl, hi, rfl, mi, hal, hacc, hfin⟩ hrec
  have hxU := sl_fe hx mi.fe hxa
  have fn := mi.fe.1
  by_cases hlt : i < hs.length
  · obtain ⟨h, hh⟩ : ∃ h, hs[i]? = some h := ⟨_, List.getElem?_eq_getElem hlt⟩
    obtain ⟨n1, n2⟩ := b2k h (List.mem_of_getElem? hh)
    have hdr : hs.drop i = h :: hs.drop (i + 1) := by
      obtain ⟨g1, g2⟩ := List.getElem?_eq_some_iff.1 hh
      rw [List.drop_eq_getElem_cons g1, g2]
    have hwi : IntKind.i64.wrap ((i : Int) + 1) = ((i + 1 : Nat) : Int) := wrap64 (by omega) (by omega)
    have h1 := one_le mi.ok n1 n2
    simp [R9.b_33, len_iff hxU, hlt, ↓atS_all Hd.len (by omega) hxU hh, -Int.natCast_add]
    refine one_spec (h := h) mi.enc mi.tab hb0 hb1 hne (by omega) mi.ok n1 n2 (by omega) fun p v'' τ ho => ?_
    obtain ⟨s1, s2⟩ := mid_step (T := RTab) rtab_tsame rtab_town hb0 hb1 hne hB mi (Ext.refl _) ho
    refine aw_appF s1 ho.1.sl (all_Bt _) (by omega) (by omega) (by have := ho.2.2.1.1; omega) fun z τ3 h3 h4 h5 h6 => ?_
    have mz := s2 z τ3 h3 h4 h5 h6
    simp [hwi, -Int.natCast_add]
    refine hrec (hs.length - (i + 1)) _ _ _ (by omega) ⟨i + 1, _, v'', _, rfl, by omega, rfl, mz, by rw [List.length_append]; omega, ?_, ?_⟩
    · rw [← hacc, hdr, blockL, List.append_assoc]
    · rw [← hfin, hdr, blockL]
  · have e : i = hs.length := by omega
    subst e
    have hd : hs.drop hs.length = [] := by simp
    rw [hd] at hacc hfin
    simp only [blockL, List.append_nil] at hacc hfin
    simp [R9.b_33, len_iff hxU]
    rw [← hacc, ← hfin] at hq
    exact hq u v' υ' mi
theorem enc_spec {B b0 b1 told least most : Nat} {v x : Value} {l hs : List Hd} (hE : EncAt 52 b0 b1 σ told least) (hT : Tab B b1 σ v l most) (hb0 : b0 < B) (hb1 : b1 < B) (hne : ¬ b0 = b1) (hB : B ≤ σ.next) (ok : TOk l most) (hl : least ≤ 65537)
    (hx : Sl σ x 3 hs.length (hs.flatMap Hd.cs)) (hxa : ∀ c, InBlk x c → c ≠ b0 ∧ c ≠ b1 ∧ ¬ InBlk v c) (hlen : hs.length ≤ 1048576) (hk : bigK + 200 ≤ k) (hq : EncHow Tab 52 B b0 b1 told least most σ v l hs Q) : wpA (callN Try.prog k 8 [ptr b0, x]) σ Q := by
  rw [callN_at (by omega), R8.eq]
  have hbig : bigK + 199 ≤ k - 1 := by omega
  generalize hk1 : k - 1 = k1 at hbig
  have hP : bigP + 100 ≤ k1 := by unfold bigP; unfold bigK at hbig; omega
  have hmo := ok.le
  have start : wpA (loop2 (R8.b_75 (callN Try.prog k1) k1 (ptr b0) x (.int .i64 hs.length) x) k1 (.bool (decide (1024 < hs.length))) (.int .i64 0)) σ Q := by
    refine aw_loop2 (fun rr u y υ => ∃ i : Nat, u = .bool (decide (1024 < hs.length) || (hs.take i).any badH) ∧ y = .int .i64 i ∧ i ≤ hs.length ∧ rr = hs.length - i ∧ Ext σ υ) ?_ k1 hs.length _ _ σ ⟨0, by simp, rfl, by omega, rfl, Ext.refl _⟩ (by unfold bigK at hbig; omega)
    rintro rr rec u y υ ⟨i, rfl, rfl, hi, rfl, ex⟩ hrec
    have hxU := hx.ext ex
    have exn := ex.1
    by_cases hlt : i < hs.length
    · obtain ⟨h, hh⟩ : ∃ h, hs[i]? = some h := ⟨_, List.getElem?_eq_getElem hlt⟩
      have hwi : IntKind.i64.wrap ((i : Int) + 1) = ((i + 1 : Nat) : Int) := wrap64 (by omega) (by omega)
      have eF : Ext σ ((υ.push (.cells [.string ⟨#[]⟩, .string ⟨#[]⟩, .bool false] 56 false)).put υ.next (some (.cells [Tx h.name, Tx h.value, .bool h.secret] 56 false))) := ex.trans (((Ext.push υ _).kept (Nat.le_refl _)).put (Nat.le_refl _) _)
      have go : ∀ f : Bool, f = (decide (1024 < hs.length) || (hs.take (i + 1)).any badH) → wpA (rec (.bool f) (.int .i64 ((i + 1 : Nat) : Int))) ((υ.push (.cells [.string ⟨#[]⟩, .string ⟨#[]⟩, .bool false] 56 false)).put υ.next (some (.cells [Tx h.name, Tx h.value, .bool h.secret] 56 false))) Q :=
        fun f hf => hrec (hs.length - (i + 1)) _ _ _ (by omega) ⟨i + 1, by rw [hf], rfl, by omega, rfl, eF⟩
      rw [any_take hh] at go
      generalize hfl : (decide (1024 < hs.length) || (hs.take i).any badH) = fl at *
      have hgo2 : (decide (1024 < hs.length) || ((hs.take i).any badH || badH h)) = (fl || badH h) := by rw [← Bool.or_assoc, hfl]
      rw [hgo2] at go
      cases fl with
      | true =>
        have := go true rfl
        simp [R8.b_75, R8.g_64, R8.g_69, hlt, ↓atS_all Hd.len (by omega) hxU hh, Hd.cs, hwi, -Int.natCast_add]
        simpa using this
      | false =>
        by_cases c1 : 16384 < h.name.length
        · have c1' : (16384 : Int) < (h.name.length : Int) := by omega
          have := go true (by simp [badH, c1])
          simp [R8.b_75, R8.g_64, R8.g_69, hlt, ↓atS_all Hd.len (by omega) hxU hh, Hd.cs, lenStr_iff, c1, c1', hwi, -Int.natCast_add]
          simpa using this
        · have c1' : ¬ (16384 : Int) < (h.name.length : Int) := by omega
          by_cases c2 : 16384 < h.value.length
          · have c2' : (16384 : Int) < (h.value.length : Int) := by omega
            have := go true (by simp [badH, c2])
            simp [R8.b_75, R8.g_64, R8.g_69, hlt, ↓atS_all Hd.len (by omega) hxU hh, Hd.cs, lenStr_iff, c1, c1', c2, c2', hwi, -Int.natCast_add]
            simpa using this
          · have c2' : ¬ (16384 : Int) < (h.value.length : Int) := by omega
            have := go false (by simp [badH, c1, c2])
            simp [R8.b_75, R8.g_64, R8.g_69, hlt, ↓atS_all Hd.len (by omega) hxU hh, Hd.cs, lenStr_iff, c1, c1', c2, c2', hwi, -Int.natCast_add]
            simpa using this
    · have e : i = hs.length := by omega
      subst e
      rw [List.take_length]
      have hbl : (decide (1024 < hs.length) || hs.any badH) = badL hs := rfl
      rw [hbl]
      cases hb : badL hs with
      | true =>
        simp [R8.b_75]
        exact hq.bad hb υ ex
      | false =>
        have hEU : EncAt 52 b0 b1 υ told least := by
          show υ.get b0 = _
          rw [ex.2 b0 (by omega)]; exact hE
        simp [R8.b_75]
        refine (sizes_spec hEU (hT.ext (by omega) ex) (by omega) hmo hl (by omega)).mono ?_
        intro r τ hs'
        have m := mid_start (T := Tab) tab_tsame tab_town hb0 hb1 hne hB hT ok ex hs'
        simp [len_iff (sl_fe hx m.fe hxa)]
        exact enc_loop hb0 hb1 hne hB hx hxa hb (sizes_le hl (by omega)) m (by omega) fun r v' τ2 m2 => hq.good hb r v' τ2 m2
  have hlc : (decide ((1024 : Int) < (hs.length : Int))) = decide (1024 < hs.length) := by
    by_cases h : 1024 < hs.length
    · have h' : (1024 : Int) < (hs.length : Int) := by omega
      simp [h, h']
    · have h' : ¬ (1024 : Int) < (hs.length : Int) := by omega
      rw [decide_eq_false h, decide_eq_false h']
  simp [R8.top, enone_iff hE (show 1 ≤ k1 by unfold bigK at hbig; omega), len_iff hx, hlc]
  exact start
theorem renc_spec {B b0 b1 told least most : Nat} {v x : Value} {l hs : List Hd} (hE : EncAt 43 b0 b1 σ told least) (hT : RTab B b1 σ v l most) (hb0 : b0 < B) (hb1 : b1 < B) (hne : ¬ b0 = b1) (hB : B ≤ σ.next) (ok : TOk l most) (hl : least ≤ 65537)
    (hx : Sl σ x 3 hs.length (hs.flatMap Hd.cs)) (hxa : ∀ c, InBlk x c → c ≠ b0 ∧ c ≠ b1 ∧ ¬ InBlk v c) (hlen : hs.length ≤ 1048576) (hk : bigK + 200 ≤ k) (hq : EncHow RTab 43 B b0 b1 told least most σ v l hs Q) : wpA (callN Try.prog k 9 [ptr b0, x]) σ Q := by
  rw [callN_at (by omega), R9.eq]
  have hbig : bigK + 199 ≤ k - 1 := by omega
  generalize hk1 : k - 1 = k1 at hbig
  have hP : bigP + 100 ≤ k1 := by unfold bigP; unfold bigK at hbig; omega
  have hmo := ok.le
  by_cases hlong : 1024 < hs.length
  · have hlong' : (1024 : Int) < (hs.length : Int) := by omega
    simp [R9.top, len_iff hx, hlong, hlong']
    exact hq.bad (by simp [badL, hlong]) σ (Ext.refl _)
  · have hlong' : ¬ (1024 : Int) < (hs.length : Int) := by omega
    simp [R9.top, len_iff hx, hlong, hlong']
    refine aw_loop1 (fun rr y υ => ∃ i : Nat, (hs.take i).any badH = false ∧ y = .int .i64 i ∧ i ≤ hs.length ∧ rr = hs.length - i ∧ υ = σ) ?_ k1 hs.length _ σ ⟨0, by simp, rfl, by omega, rfl, rfl⟩ (by unfold bigK at hbig; omega)
    rintro rr rec y υ ⟨i, hnb, rfl, hi, rfl, rfl⟩ hrec
    by_cases hlt : i < hs.length
    · obtain ⟨h, hh⟩ : ∃ h, hs[i]? = some h := ⟨_, List.getElem?_eq_getElem hlt⟩
      have hwi : IntKind.i64.wrap ((i : Int) + 1) = ((i + 1 : Nat) : Int) := wrap64 (by omega) (by omega)
      have at0 := atF_all (k := .i64) (off := 0) (w := Tx h.name) Hd.len hx hh rfl
      have at1 := atF_all (k := .i64) (off := 1) (w := Tx h.value) Hd.len hx hh rfl
      have isbad : badH h = true → badL hs = true := fun hb => by
        unfold badL
        rw [Bool.or_eq_true]
        exact .inr (List.any_eq_true.2 ⟨h, List.mem_of_getElem? hh, hb⟩)
      have ht := any_take hh
      rw [hnb] at ht
      by_cases c1 : 16384 < h.name.length
      · have c1' : (16384 : Int) < (h.name.length : Int) := by omega
        simp [R9.b_69, R9.g_56, len_iff hx, hlt, ↓at0, ↓at1, lenStr_iff, c1, c1', hwi, -Int.natCast_add]
        exact hq.bad (isbad (by simp [badH, c1])) υ (Ext.refl _)
      · have c1' : ¬ (16384 : Int) < (h.name.length : Int) := by omega
        by_cases c2 : 16384 < h.value.length
        · have c2' : (16384 : Int) < (h.value.length : Int) := by omega
          simp [R9.b_69, R9.g_56, len_iff hx, hlt, ↓at0, ↓at1, lenStr_iff, c1, c1', c2, c2', hwi, -Int.natCast_add]
          exact hq.bad (isbad (by simp [badH, c2])) υ (Ext.refl _)
        · have c2' : ¬ (16384 : Int) < (h.value.length : Int) := by omega
          simp [R9.b_69, R9.g_56, len_iff hx, hlt, ↓at0, ↓at1, lenStr_iff, c1, c1', c2, c2', hwi, -Int.natCast_add]
          exact hrec (hs.length - (i + 1)) _ _ (by omega) ⟨i + 1, by rw [ht]; simp [badH, c1, c2], rfl, by omega, rfl, rfl⟩
    · have e : i = hs.length := by omega
      subst e
      rw [List.take_length] at hnb
      have hb : badL hs = false := by unfold badL; rw [hnb]; simp [hlong]
      simp [R9.b_69, len_iff hx]
      refine (updates_spec hE hT (by omega) hmo hl (by omega)).mono ?_
      intro r τ hs'
      have m := mid_start (T := RTab) rtab_tsame rtab_town hb0 hb1 hne hB hT ok (Ext.refl _) hs'
      try simp
      exact renc_loop hb0 hb1 hne hB hx hxa hb (sizes_le hl (by omega)) m (by omega) fun r v' τ2 m2 => hq.good hb r v' τ2 m2
end
end Go.Proofs.Ytjmafbiklebjcaa
