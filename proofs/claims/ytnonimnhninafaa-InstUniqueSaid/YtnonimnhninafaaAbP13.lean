/- The plain laws of InstEncodes, InstBack and InstUnique. -/
import Derived.Test.YtnonimnhninafaaAbP12
import Derived.Test.YtnonimnhninafaaAbP7
namespace Go.Proofs.Ytnonimnhninafaa.Ab
open Go
set_option linter.unusedVariables false
set_option linter.unusedSimpArgs false
namespace PL
theorem enc_len (i : M.Inst) : (X.R06_Encode i).1.length < 4 := by
  cases hv : X.R06_Valid i with
  | false => rw [enc_false hv]; decide
  | true =>
    rw [enc_true hv, wds_len]
    cases X.R05_Extended i.Src <;> cases X.R05_Extended i.Dst <;> decide

theorem encodes (i : M.Inst) : X.L06_InstEncodes i = some (true, ()) := by
  unfold X.L06_InstEncodes
  have hl := enc_len i
  rw [encode_eq, valid_eq, length_eq, ends_eq, priv_eq, alive]
  simp only [same_ints (a := (X.R06_Encode i).1) (b := (X.R06_Encode i).1) (by omega), decide_true, Bool.not_true, cond_false, cond_true, bne_self_eq_false, beq_self_eq_true]

theorem refdec_words {i : M.Inst} (hv : X.R06_Valid i = true) (rest : List Int) : X.inst_Decode (wds i ++ rest) = some (i, ((wds i).length : Int), ()) := by
  have v := valid_inv hv
  obtain ⟨f, hf⟩ := byOp_ex v.op
  obtain ⟨h1, h2, h3, h4⟩ := word_shape hf v
  obtain ⟨r, k1, k2⟩ := decode_eq (wds i ++ rest)
  rw [k1, ← k2]
  exact refdec v hv ⟨h2, h3⟩ h4 rest

theorem unique (i j : M.Inst) : X.L06_InstUnique i j = some (true, ()) := by
  unfold X.L06_InstUnique
  rw [valid_eq, valid_eq, alive, encode_eq, encode_eq]
  cases hi : X.R06_Valid i with
  | false => rfl
  | true =>
    cases hj : X.R06_Valid j with
    | false => rfl
    | true =>
      have hl : (wds i).length < 4 := by
        have := enc_len i
        rw [enc_true hi] at this
        exact this
      simp only [enc_true hi, enc_true hj, same_ints (a := wds i) (b := wds j) (by omega), Bool.not_true, cond_false]
      have e : (decide (wds i = wds j) == vEqB (Ty.st SId.sInst) i j) = true := by
        have key : vEqB (Ty.st SId.sInst) i j = true ↔ i = j := vEqB_dec
        rw [beq_iff_eq, Bool.eq_iff_iff, decide_eq_true_iff]
        refine Iff.trans ?_ key.symm
        constructor
        · intro h
          have h1 := refdec_words hi []
          have h2 := refdec_words hj []
          rw [h, h2] at h1
          simp only [Option.some.injEq, Prod.mk.injEq] at h1
          exact h1.1.symm
        · rintro rfl; rfl
      rw [e]
      rfl

theorem refdec_less {i : M.Inst} (hv : X.R06_Valid i = true) : ∃ j, X.inst_Decode (List.drop 0 (List.take ((wds i).length - 1) (wds i))) = some (j, 0, ()) := by
  have v := valid_inv hv
  obtain ⟨f, hf⟩ := byOp_ex v.op
  obtain ⟨h1, h2, h3, h4⟩ := word_shape hf v
  have hw := isw ⟨h2, h3⟩
  have ps := partS v
  have pd := partD v
  have ws : X.R06_Isword i.Src.Ext = true := isw (by have := v.ovs.ext; omega)
  have e0 : decide ((0 : Int) ≤ (0 : Int)) = true := by decide
  obtain ⟨r, k1, k2⟩ := decode_eq (List.drop 0 (List.take ((wds i).length - 1) (wds i)))
  suffices h : ∃ j, X.R06_Decode (List.drop 0 (List.take ((wds i).length - 1) (wds i))) = some (j, 0, ()) by
    obtain ⟨j, h⟩ := h
    exact ⟨j, by rw [k1, ← k2]; exact h⟩
  rw [wds_len]
  unfold wds exs
  cases hS : X.R05_Extended i.Src with
  | false =>
    cases hD : X.R05_Extended i.Dst with
    | false => exact ⟨_, rfl⟩
    | true =>
      show ∃ j, X.R06_Decode [X.R06_first i] = _
      unfold X.R06_Decode
      have g0 : List.getD [X.R06_first i] (0 : Nat) (dflt (Ty.int IntKind.i64)) = X.R06_first i := rfl
      rw [hS] at ps
      rw [hD] at pd
      rw [g0]
      simp only [h4, ext_z0, ps, pd, hS, hD, hw, Bool.not_true, cond_false, cond_true, List.length_cons, List.length_nil]
      exact ⟨_, rfl⟩
  | true =>
    cases hD : X.R05_Extended i.Dst with
    | false =>
      show ∃ j, X.R06_Decode [X.R06_first i] = _
      unfold X.R06_Decode
      have g0 : List.getD [X.R06_first i] (0 : Nat) (dflt (Ty.int IntKind.i64)) = X.R06_first i := rfl
      rw [hS] at ps
      rw [hD] at pd
      rw [g0]
      simp only [h4, ext_z0, ps, pd, hS, hD, hw, Bool.not_true, cond_false, cond_true, List.length_cons, List.length_nil]
      exact ⟨_, rfl⟩
    | true =>
      show ∃ j, X.R06_Decode [X.R06_first i, i.Src.Ext] = _
      unfold X.R06_Decode
      have g0 : List.getD [X.R06_first i, i.Src.Ext] (0 : Nat) (dflt (Ty.int IntKind.i64)) = X.R06_first i := rfl
      have g1 : List.getD [X.R06_first i, i.Src.Ext] (1 : Nat) (dflt (Ty.int IntKind.i64)) = i.Src.Ext := rfl
      rw [hS] at ps
      rw [hD] at pd
      rw [g0, g1]
      simp only [h4, ext_z0, ps, pd, hS, hD, hw, ws, Bool.not_true, cond_false, cond_true, List.length_cons, List.length_nil]
      exact ⟨_, rfl⟩

theorem capOK_small {n : Nat} (h : n < 16) : capOK n 8 = true := by
  have : (List.range 16).all (fun n => capOK n 8) = true := by kernel_rfl
  rw [List.all_eq_true] at this
  exact this n (List.mem_range.2 h)

theorem back (i : M.Inst) (b : List Int) : X.L06_InstBack i b = some (true, ()) := by
  unfold X.L06_InstBack
  rw [valid_eq, alive, encode_eq, length_eq]
  by_cases hb : (b.length : Int) > 4
  · simp only [hb, decide_true, cond_true]
  · simp only [hb, decide_false, cond_false]
    cases hi : X.R06_Valid i with
    | false => rfl
    | true =>
      have hl : (wds i).length < 4 := by
        have := enc_len i
        rw [enc_true hi] at this
        exact this
      have hl1 : 1 ≤ (wds i).length := by rw [wds_len]; omega
      obtain ⟨j, hj⟩ := refdec_less hi
      have hr : X.R06_Length i = ((wds i).length : Int) := by unfold X.R06_Length; rw [enc_true hi]
      have e1 : decide (((wds i).length : Int) < 1) = false := by simp; omega
      have e2 : IntKind.wrap IntKind.i64 (((wds i).length : Int) - 1) = (((wds i).length - 1 : Nat) : Int) := by rw [wrap64 (by omega) (by omega)]; omega
      have e3 : decide ((0 : Int) ≤ (0 : Int)) = true := by decide
      have e4 : decide ((0 : Int) ≤ (((wds i).length - 1 : Nat) : Int)) = true := by simp
      have e5 : decide ((((wds i).length - 1 : Nat) : Int) ≤ ((wds i).length : Int)) = true := by simp
      have e6 : vEqB (Ty.st SId.sInst) i i = true := vEqB_dec.2 rfl
      simp only [enc_true hi, hr, refdec_words hi, bne_self_eq_false, Bool.not_true, cond_false, cond_true, capOK_small (show (wds i).length < 16 by omega), capOK_small (show (wds i).length + b.length < 16 by omega), e1, e2, e3, e4, e5, Bool.and_self, Int.toNat_natCast, hj, e6, beq_self_eq_true]
end PL
end Go.Proofs.Ytnonimnhninafaa.Ab
