/- The program's Encode: encode_spec. -/
import Derived.Test.YtgpddhoidlpcaaaHuffH
set_option linter.unusedVariables false
set_option linter.unusedSimpArgs false
namespace Go.Proofs.Ytgpddhoidlpcaaa
open Go.Proofs.Ytgpddhoidlpcaaa.Eng
theorem codes_small : ((List.range 257).all fun s => decide ((codeOf s).1 < 2 ^ (codeOf s).2)) = true := by decide +kernel
theorem code_lt {s : Nat} (h : s < 257) : (codeOf s).1 < 2 ^ (codeOf s).2 := by
  have := List.all_eq_true.1 codes_small s (List.mem_range.2 h)
  simpa using this
theorem encBits_snoc (l : List UInt8) (c : UInt8) : encBits (l ++ [c]) = encBits l ++ codeBits c.toNat := by simp [encBits]
theorem But.trans {B hb nb ob : Nat} {σ τ υ : AW} (h : But B hb nb ob σ τ) (k : But B hb nb ob τ υ) : But B hb nb ob σ υ :=
  ⟨Nat.le_trans h.1 k.1, fun b h1 h2 h3 h4 => (k.2 b h1 h2 h3 h4).trans (h.2 b h1 h2 h3 h4)⟩
theorem But.refl (B hb nb ob : Nat) (σ : AW) : But B hb nb ob σ σ := ⟨Nat.le_refl _, fun _ _ _ _ _ => rfl⟩
theorem loadP {σ : AW} {Q : Value → AW → Prop} {b n : Nat} {s : Value} {e : TypeId} (g : σ.get b = some (.cells [s] e false)) (hc : isCell s = true) (h : Q s σ) : wpA (loadA none (ptr b)) σ Q := by
  have hc2 : cellsOk [s] = true := by simp [cellsOk_eq, hc]
  simp [g, hc]
  exact h
section
variable {σ : AW} {k : Nat} {Q : Value → AW → Prop}
theorem encode_spec {x : Value} {l : List UInt8} {n : Nat} (hx : Sl σ x 1 n (l.map Bt)) (hl : l.length < bigH) (hk : bigH + 1400 ≤ k) : wpA (callN Try.prog k 18 [x]) σ fun v τ => Ext σ τ ∧ Own σ.next τ v 5 1 (encL l).length ((encL l).map Bt) := by
  have e1 : n = l.length := by have := hx.1; simp at this; omega
  subst e1
  rw [callN_at (by omega), R18.eq, enc18_eq]
  have hbig : bigH + 1399 ≤ k - 1 := by omega
  generalize hk1 : k - 1 = k1 at hbig
  have hbH : bigH = 4194304 := rfl
  simp [-splice_def, -Int.natCast_add, -Int.natCast_ediv]
  refine (codes_spec (by omega)).mono ?_
  rintro v τ ⟨he, rfl⟩
  rw [codes_lit]
  have hz : (arrC (arrI 0)).length = 514 := by rw [arrC_len, arrI_len]
  have hen : σ.next + 1 ≤ τ.next := by have := he.1; simpa using this
  have heo : τ.get σ.next = some (.cells [.slice none 0 0] 33 false) := by rw [he.2 _ (by simp)]; simp
  have hel : ∀ b, b < σ.next → τ.get b = σ.get b := fun b hb => by
    have c1 : ¬ b = σ.next := by omega
    rw [he.2 b (by simp; omega)]; simp [c1]
  simp [zero514, lit514, hz, lit_ok, -splice_def, -Int.natCast_add, -Int.natCast_ediv]
  rw [splice_whole (by rw [hz, lit514]), letL_def]
  have hl2 : l.length < 4194304 := hl
  have hbig2 : 4194304 + 1399 ≤ k1 := hbig
  clear hz hbH hbig hl hk hk1
  generalize hT : (τ.push (.cells (arrC (arrI 0)) 59 false)).put τ.next (some (.cells (arrC codesLit) 59 false)) = T
  have hTb : T.get τ.next = some (.cells (arrC codesLit) 59 false) := by rw [← hT]; simp
  have hTn : T.next = τ.next + 1 := by rw [← hT]; simp
  have hTl : ∀ b, b < τ.next → T.get b = τ.get b := fun b hb => by
    have c1 : ¬ b = τ.next := by omega
    rw [← hT]; simp [c1]
  clear hT
  have q1 : ¬ T.next = T.next + 1 := by omega
  have q2 : ¬ T.next + 1 = T.next := by omega
  simp [len_iff hx, q1, q2, -Int.natCast_add, -Int.natCast_ediv]
  have q3 : ¬ τ.next + 1 = τ.next + 1 + 1 := by omega
  generalize hU : (((T.push (.cells [.int .u64 0] 61 false)).push (.cells [.int .i64 0] 3 false)).put (τ.next + 1) (some (.cells [.int .u64 0] 61 false))).put (τ.next + 1 + 1) (some (.cells [.int .i64 0] 3 false)) = U
  have hUn : U.next = τ.next + 3 := by rw [← hU]; simp [hTn]
  have hU1 : U.get (τ.next + 1) = some (.cells [.int .u64 0] 61 false) := by rw [← hU]; simp
  have hU2 : U.get (τ.next + 1 + 1) = some (.cells [.int .i64 0] 3 false) := by rw [← hU]; simp
  have hUl : ∀ b, b < τ.next + 1 → U.get b = T.get b := fun b hb => by
    have c1 : ¬ b = τ.next + 1 := by omega
    have c2 : ¬ b = τ.next + 1 + 1 := by omega
    have c3 : ¬ b = T.next := by omega
    have c4 : ¬ b = T.next + 1 := by omega
    rw [← hU]; simp [c1, c2, c3, c4]
  clear hU
  have hUo : U.get σ.next = some (.cells [.slice none 0 0] 33 false) := by rw [hUl _ (by omega), hTl _ (by omega)]; exact heo
  have hUa : U.get τ.next = some (.cells (arrC codesLit) 59 false) := by rw [hUl _ (by omega)]; exact hTb
  have hUσ : ∀ b, b < σ.next → U.get b = σ.get b := fun b hb => by rw [hUl _ (by omega), hTl _ (by omega)]; exact hel b hb
  clear he heo hel hTb hTl q1 q2
  have fin : ∀ {υ : AW} {acc : List UInt8} {pend : List Bool}, PutSt (τ.next + 3) (τ.next + 1) (τ.next + 1 + 1) σ.next υ acc pend → But (τ.next + 3) (τ.next + 1) (τ.next + 1 + 1) σ.next U υ → acc = encL l →
      wpA (R18.j_10 (callN Try.prog k1) k1 (ptr σ.next)) υ fun v τ => Ext σ τ ∧ Own σ.next τ v 5 1 (encL l).length ((encL l).map Bt) := by
    intro υ acc pend st bt e
    obtain ⟨_, _, ⟨s, g3, own⟩, hB⟩ := st
    subst e
    obtain ⟨a0, c0, hvf⟩ := own.sl.form
    have hvc : s.cells = #[s] ∧ isCell s = true := by rw [hvf]; exact ⟨rfl, rfl⟩
    simp [R18.j_10, g3, hvc.1, hvc.2]
    refine ⟨⟨by have := bt.1; omega, fun b hb => ?_⟩, own.mono (by omega)⟩
    rw [bt.2 b (by omega) (by omega) (by omega) (by omega)]
    exact hUσ b hb
  refine aw_loop1 (fun r u υ => ∃ i : Nat, u = .int .i64 i ∧ i ≤ l.length ∧ r = l.length - i ∧ PutSt (τ.next + 3) (τ.next + 1) (τ.next + 1 + 1) σ.next υ (accOf (encBits (l.take i))) (pendOf (encBits (l.take i))) ∧ But (τ.next + 3) (τ.next + 1) (τ.next + 1 + 1) σ.next U υ) ?_ k1 l.length _ U ⟨0, rfl, by omega, rfl, ?_, But.refl _ _ _ _ _⟩ (by omega)
  · rintro r rec u υ ⟨i, rfl, hi, rfl, st, bt⟩ hrec
    have hxU : Sl υ x 1 l.length (l.map Bt) := hx.ext ⟨by have := bt.1; omega, fun b hb => by rw [bt.2 b (by omega) (by omega) (by omega) (by omega)]; exact hUσ b hb⟩
    have hUa' : υ.get τ.next = some (.cells (arrC codesLit) 59 false) := by rw [bt.2 _ (by omega) (by omega) (by omega) (by omega)]; exact hUa
    by_cases hlt : i < l.length
    · obtain ⟨c, hc⟩ : ∃ c, l[i]? = some c := ⟨_, List.getElem?_eq_getElem hlt⟩
      have hc256 : c.toNat < 256 := c.toNat_lt
      have hcz : (c.toNat : Int) < 257 := by omega
      have htk : l.take (i + 1) = l.take i ++ [c] := by rw [List.take_add_one, hc]; rfl
      have hwi : IntKind.i64.wrap ((i : Int) + 1) = ((i + 1 : Nat) : Int) := wrap64 (by omega) (by omega)
      have harr := arr_at (code_at (s := c.toNat) (by omega))
      have hs := size_at (s := c.toNat) (by omega)
      have hcl := code_lt (s := c.toNat) (by omega)
      simp [R18.b_42, hlt, ↓at1_all hxU hc, Bt, hUa', hcz, hwi, -Int.natCast_add]
      rw [harr, letL_def]
      have hb := bits_le (l.take i)
      have hlen : (l.take i).length = i := by rw [List.length_take]; omega
      refine ⟨by rw [lit514]; omega, ?_⟩
      have hac := acc_len (encBits (l.take i))
      rw [encBits_len] at hac
      have hst := put_spec (k := k1) (c := (codeOf c.toNat).1) (w := (codeOf c.toNat).2) st (by omega) (by omega) (by omega) (by omega) (by omega) (by omega) (pend_lt _) hs.2.1 hcl (by omega) (by omega)
      refine hst.mono ?_
      rintro v υ2 ⟨st2, bt2⟩
      obtain ⟨a1, a2⟩ := acc_step (encBits (l.take i)) (codeBits c.toNat)
      rw [show natBits (codeOf c.toNat).1 (codeOf c.toNat).2 = codeBits c.toNat from rfl, a1, a2, ← encBits_snoc, ← htk] at st2
      exact hrec (l.length - (i + 1)) _ _ (by omega) ⟨i + 1, rfl, by omega, rfl, st2, bt.trans bt2⟩
    · have e : i = l.length := by omega
      subst e
      rw [List.take_length] at st
      have hnum := st.num
      have hpl := pend_lt (encBits l)
      by_cases hp : (pendOf (encBits l)).length = 0
      · have hp' : ((pendOf (encBits l)).length : Int) = 0 := by omega
        rw [hp'] at hnum
        simp [R18.b_42, hnum, -Int.natCast_add]
        refine fin st bt ?_
        rw [acc_whole _ hp, encBits_len]; rfl
      · have hp' : (0 : Int) < ((pendOf (encBits l)).length : Nat) := by omega
        generalize hm : (pendOf (encBits l)).length = m at *
        have w1 : IntKind.i64.wrap (8 - (m : Int)) = ((8 - m : Nat) : Int) := by rw [wrap64 (by omega) (by omega)]; omega
        have w0 : (0 : Int) ≤ ((8 - m : Nat) : Int) := by omega
        have hb32 : IntKind.u32.bits = 32 := rfl
        have hpw : 2 ^ (8 - m) ≤ 2 ^ 8 := Nat.pow_le_pow_right (by omega) (by omega)
        have hp1 : 1 ≤ 2 ^ (8 - m) := Nat.one_le_two_pow
        have w2 : IntKind.u32.wrap (2 ^ min (8 - m) 32) = ((2 ^ (8 - m) : Nat) : Int) := by
          have := shl_u32 (n := 1) (s := 8 - m) (by omega) (by omega)
          simpa using this
        have w3 : IntKind.u32.wrap (((2 ^ (8 - m) : Nat) : Int) - 1) = ((2 ^ (8 - m) - 1 : Nat) : Int) := by
          rw [show ((2 ^ (8 - m) : Nat) : Int) - 1 = ((2 ^ (8 - m) - 1 : Nat) : Int) by omega]; exact wrap_u32 (by omega)
        simp [R18.b_42, hnum, hp', w1, w0, hb32, w2, w3, -Int.natCast_add, -Int.natCast_pow]
        rw [if_pos (by omega)]
        have hac := acc_len (encBits l)
        rw [encBits_len] at hac
        have hb := bits_le l
        have hst := put_spec (k := k1) (c := 2 ^ (8 - m) - 1) (w := 8 - m) st (by omega) (by omega) (by omega) (by omega) (by omega) (by omega) (by omega) (by omega) (by omega) (by omega) (by omega)
        refine hst.mono ?_
        rintro v υ2 ⟨st2, bt2⟩
        refine fin st2 (bt.trans bt2) ?_
        rw [ones_bits, ← hm]
        have he := acc_end (encBits l)
        rcases he with he | he
        · rw [he, encBits_len]; rfl
        · omega
  · refine ⟨⟨0, by omega, by simp [pendOf, encBits, val], by simpa using hU1⟩, by simpa [pendOf, encBits] using hU2, ⟨.slice none 0 0, hUo, ?_⟩, by omega⟩
    have e0 : accOf (encBits (l.take 0)) = [] := by simp [accOf, encBits, pack]
    rw [e0]
    exact Own.nil _ _ _ _
end
end Go.Proofs.Ytgpddhoidlpcaaa
