/- Both tables' Add. -/
import Derived.Test.YtedoaofmdlcjeaaTableD
set_option linter.unusedVariables false
set_option linter.unusedSimpArgs false
namespace Go.Proofs.Ytedoaofmdlcjeaa
open Go.Proofs.Ytedoaofmdlcjeaa.Eng
section
variable {σ : AW} {k : Nat} {Q : Value → AW → Prop}
theorem aw_appE {B : Nat} {e : TypeId} {z bytes n : Nat} {s : Value} {us vs : List Value} (hs : Own B σ s e z n vs) (hz : us.length = z) (hx : cellsOk us = true) (hb : 0 < bytes) (hroom : (n + 1) * bytes ≤ 2 ^ 47) (hB : B ≤ σ.next)
    (h : ∀ v τ, Own B τ v e z (n + 1) (vs ++ us) → σ.next ≤ τ.next → (∀ c, c < σ.next → ¬ InBlk s c → τ.get c = σ.get c) → (∀ c, InBlk v c → σ.next ≤ c) → Q v τ) : wpA (appendA e z bytes s (.slice (some ⟨σ.next, 0, some z⟩) 1 1)) (σ.push (.cells us e false)) Q := by
  have hE : Ext σ (σ.push (.cells us e false)) := Ext.push _ _
  refine aw_append (hs.ext hE) (own_new (B := σ.next) (n := 1) (Nat.le_refl _) (by simpa using hz)).sl (by omega) (by rw [cellsOk_eq]; exact hx) hb hroom (by simp; omega) fun v τ h1 h2 h3 h4 => ?_
  refine h v τ h1 (by rw [h4]; simp; omega) (fun c hc hn => ?_) fun c hc => ?_
  · rw [h2.2 c (by simp; omega) hn]
    exact hE.2 c hc
  · obtain ⟨o, s', m, c', rfl⟩ := h3
    obtain ⟨o2, s2, m2, c2, he⟩ := hc
    injection he with he; injection he with he; injection he with he
    simp at he
    omega
theorem add_spec {B b : Nat} {v : Value} {l : List Hd} {most : Nat} {x : Hd} (hT : Tab B b σ v l most) (hbB : b < B) (hB : B ≤ σ.next) (ok : TOk l most) (hx : hsize x ≤ 16777216) (hk : 7000 ≤ k)
    (hq : ∀ v' τ, Tab B b τ v' (addL l most x) most → Fr b v v' σ τ → Q (.int .i64 0) τ) : wpA (callN Try.prog k 15 [ptr b, .agg x.cs.toArray]) σ Q := by
  rw [callN_at (by omega), R15.eq]
  have hbig : 6999 ≤ k - 1 := by omega
  generalize hk1 : k - 1 = k1 at hbig
  have hxn : x.name.length ≤ 2 ^ 40 := by unfold hsize at hx; omega
  have hxv : x.value.length ≤ 2 ^ 40 := by unfold hsize at hx; omega
  have hbne : ¬ b = σ.next := by omega
  have hle := ok.le
  have hby := ok.bytes
  simp [R15.top, R15.j_27, Hd.cs]
  rw [none_iff (v := v) (m := .int .i64 (most : Nat)) (n := .int .i64 (total l : Nat)) (by simp [hbne]; exact hT.1) (by omega)]
  simp
  generalize hP : (σ.push (.cells [Tx x.name, Tx x.value, .bool x.secret] 23 false)).put σ.next (some (.cells [Tx x.name, Tx x.value, .bool false] 23 false)) = P
  have hPx : P.get σ.next = some (.cells [Tx x.name, Tx x.value, .bool false] 23 false) := by rw [← hP]; simp
  have hPn : P.next = σ.next + 1 := by rw [← hP]; simp
  have hPe : Ext σ P := by rw [← hP]; exact ((Ext.push σ _).kept (Nat.le_refl _)).put (Nat.le_refl _) _
  clear hP
  refine (clone_spec hxn (by omega)).mono ?_
  rintro _ τ1 ⟨he1, rfl⟩
  have h1x : τ1.get σ.next = some (.cells [Tx x.name, Tx x.value, .bool false] 23 false) := by rw [he1.2 _ (by omega)]; exact hPx
  simp [there_iff, hPx, h1x]
  refine ⟨by simp [same, Tx], (clone_spec hxv (by omega)).mono ?_⟩
  rintro _ τ2 ⟨he2, rfl⟩
  have h12 := he1.1
  have h2x : τ2.get σ.next = some (.cells [Tx x.name, Tx x.value, .bool false] 23 false) := by rw [he2.2 _ (by omega)]; exact h1x
  simp [h2x]
  rw [put_same h2x]
  have e2 : Ext σ τ2 := (hPe.trans he1).trans he2
  refine (size_spec' (h := plain x) hx (by omega)).mono ?_
  rintro _ τ3 ⟨he3, rfl⟩
  have h23 := he2.1
  have e3 : Ext σ τ3 := e2.trans he3
  have e3n := he3.1
  have hT3 := hT.ext (by omega) e3
  have h3x : τ3.get σ.next = some (.cells [Tx x.name, Tx x.value, .bool false] 23 false) := by rw [he3.2 _ (by omega)]; exact h2x
  rw [plain_size]
  have hwl : IntKind.i64.wrap ((most : Int) - (hsize x : Int)) = (most : Int) - (hsize x : Int) := wrap64 (by omega) (by omega)
  simp [hT3.1, hwl]
  refine (fall_spec hT3.1 hT3.2 hbB (by omega) (by omega) (by omega)).mono ?_
  rintro _ τ4 ⟨rfl, v', hb4, own4, fr4⟩
  have h4n := fr4.1
  have h4x : τ4.get σ.next = some (.cells [Tx x.name, Tx x.value, .bool false] 23 false) := by
    rw [fr4.2.1 _ (by omega) (fun e => hbne e.symm) fun h => ?_]
    · exact h3x
    · have := own_new_lt hT.2 h
      omega
  have hfr : Fr b v v' σ τ4 := (ext_fr e3).trans fr4
  by_cases hfit : hsize x ≤ most
  · have hfit' : (hsize x : Int) ≤ (most : Int) := by omega
    have e : addL l most x = fallL l ((most : Int) - hsize x) ++ [plain x] := by unfold addL; rw [if_pos hfit]
    have htt := fall_ok l ((most : Int) - hsize x) (by omega)
    have hll := total_len (fallL l ((most : Int) - hsize x))
    have hta := total_app (fallL l ((most : Int) - hsize x)) [plain x]
    have ht1 : total [plain x] = hsize x := by simp [total, plain_size]
    generalize hF : fallL l ((most : Int) - hsize x) = F at *
    have hwa : IntKind.i64.wrap ((total F : Int) + (hsize x : Int)) = ((total (F ++ [plain x]) : Nat) : Int) := by rw [wrap64 (by omega) (by omega)]; omega
    rw [e] at hq
    simp [hb4, hfit, hfit', h4x, zeros, List.range_succ, here_iff, hbne]
    have hb4n : ¬ b = τ4.next := by omega
    have hsx : ¬ σ.next = τ4.next := by omega
    simp [hb4n, hb4, same_sl own4.sl]
    refine aw_appE own4 (us := (plain x).cs) rfl rfl (by omega) (by omega) (by omega) fun w τ5 h5 h6 h7 h8 => ?_
    have hb5 : τ5.get b = some (.cells [.bool true, v', .int .i64 (most : Nat), .int .i64 (total F : Nat)] 59 false) := by rw [h7 b (by omega) (own_sl_ne own4 hbB)]; exact hb4
    have hwc := own_val h5
    simp [hb5, hwc.1, hwc.2, hwa]
    refine hq w _ ⟨by simp, ?_⟩ (hfr.trans ⟨by simp; omega, fun c h1 h2 h3 => ?_, fun c h1 => .inr (h8 c h1)⟩)
    · refine own_still (by simpa using h5) (by simp) fun c h1 h2 => ?_
      have c1 : ¬ c = b := by omega
      simp [c1]
    · simp [h2]
      exact h7 c h1 h3
  · have hfit' : ¬ (hsize x : Int) ≤ (most : Int) := by omega
    have e : addL l most x = fallL l ((most : Int) - hsize x) := by unfold addL; rw [if_neg hfit]
    rw [e] at hq
    simp [hb4, hfit, hfit']
    exact hq v' _ ⟨hb4, own4⟩ hfr
end
end Go.Proofs.Ytedoaofmdlcjeaa
