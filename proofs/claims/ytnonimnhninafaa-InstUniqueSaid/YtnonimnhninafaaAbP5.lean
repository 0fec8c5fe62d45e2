/- What the reference's Valid says of an instruction of a form. -/
import Derived.Test.YtnonimnhninafaaAbP4
namespace Go.Proofs.Ytnonimnhninafaa.Ab
open Go
namespace PL

theorem ext_eq (o : M.Operand) : X.operand_Extended o = X.R05_Extended o := by
  unfold X.operand_Extended X.R05_Extended X.operand_mode X.operand_reg X.R05_Mode X.R05_Register
  simp only [mask3]
  have h : o.Mode % 8 = 0 ∨ o.Mode % 8 = 1 ∨ o.Mode % 8 = 2 ∨ o.Mode % 8 = 3 ∨ o.Mode % 8 = 4 ∨ o.Mode % 8 = 5 ∨ o.Mode % 8 = 6 ∨ o.Mode % 8 = 7 := by omega
  rcases h with h | h | h | h | h | h | h | h <;> rw [h] <;> simp

def Ex (o s : M.Operand) : Prop := s.Mode = o.Mode ∧ s.Reg = o.Reg ∧ 0 ≤ s.Ext ∧ s.Ext ≤ 65535 ∧ (s.Ext = 0 ∨ X.R05_Extended o = true)

theorem ext_same {o s : M.Operand} (k : Ex o s) : X.R05_Extended s = X.R05_Extended o := by
  unfold X.R05_Extended X.R05_Mode X.R05_Register
  rw [k.1, k.2.1]

theorem valid05 {o s : M.Operand} (h : opd o) (k : Ex o s) : X.R05_Valid s = true := by
  have hx := ext_same k
  obtain ⟨h1, h2, h3, h4, h5⟩ := h
  obtain ⟨k1, k2, k3, k4, k5⟩ := k
  have e1 : decide (s.Mode < 0) = false := by simp; omega
  have e2 : decide (s.Mode > 7) = false := by simp; omega
  have e3 : decide (s.Reg < 0) = false := by simp; omega
  have e4 : decide (s.Reg > 7) = false := by simp; omega
  have e5 : decide (s.Ext < 0) = false := by simp; omega
  have e6 : decide (s.Ext > 65535) = false := by simp; omega
  unfold X.R05_Valid
  simp only [e1, e2, e3, e4, e5, e6, cond_false]
  rcases k5 with k | k
  · simp [k]
  · rw [hx, k]; cases (s.Ext == 0) <;> rfl

theorem zero_ext {s : M.Operand} (k : Ex ⟨0, 0, 0⟩ s) : s = ⟨0, 0, 0⟩ := by
  obtain ⟨k1, k2, k3, k4, k5⟩ := k
  have z : X.R05_Extended ⟨0, 0, 0⟩ = false := by decide
  rw [z] at k5
  cases s
  simp_all

theorem vz : vEqB (Ty.st SId.sOperand) (⟨0, 0, 0⟩ : M.Operand) (⟨0, 0, 0⟩ : M.Operand) = true := by decide

theorem opd_part {h : Bool} {o s : M.Operand} (g : h = true ∧ opd o ∨ h = false ∧ o = ⟨0, 0, 0⟩) (k : Ex o s) : (bif h then (bif (!(X.R05_Valid s)) then true else (bif (!h) then (!(vEqB (Ty.st SId.sOperand) s (⟨(0 : Int), (0 : Int), (0 : Int)⟩ : M.Operand))) else false)) else (bif (!h) then (!(vEqB (Ty.st SId.sOperand) s (⟨(0 : Int), (0 : Int), (0 : Int)⟩ : M.Operand))) else false)) = false := by
  rcases g with ⟨rfl, g⟩ | ⟨rfl, rfl⟩
  · rw [valid05 g k]; rfl
  · rw [zero_ext k, vz]; rfl

theorem valid_good {f : M.Inst_form} {i : M.Inst} (g : Good f i) {s d : M.Operand} (hs : Ex i.Src s) (hd : Ex i.Dst d) : X.R06_Valid ⟨i.Op, i.Byte, s, d, i.Reg, i.Num⟩ = alw i := by
  obtain ⟨⟨o1, o2⟩, gb, gs, gd, ⟨r1, r2⟩, g2, ⟨n1, n2⟩, _⟩ := g
  have e1 : decide (i.Op < 1) = false := by simp; omega
  have e2 : decide (i.Op > 56) = false := by simp; omega
  have e3 : (bif i.Byte then (!(X.R06_Hasbyte i.Op)) else false) = false := by
    cases h : i.Byte with
    | false => rfl
    | true => rw [gb h]; rfl
  have e4 : decide (i.Reg < 0) = false := by simp; omega
  have e5 : decide (i.Reg > 7) = false := by simp; omega
  have e6 : decide (i.Num < X.R06_least i.Op) = false := by simp; omega
  have e7 : decide (i.Num > X.R06_greatest i.Op) = false := by simp; omega
  have e8 : (bif (i.Reg != (0 : Int)) then (bif (!(X.R06_Hasreg i.Op)) then true else false) else false) = false := by
    rcases g2 with h | h
    · rw [h]; rfl
    · rw [h]; cases (i.Reg != (0 : Int)) <;> rfl
  have hm : d.Mode = i.Dst.Mode := hd.1
  unfold X.R06_Valid alw
  simp only [e1, e2, e3, e4, e5, e6, e7, e8, opd_part gs hs, opd_part gd hd, cond_false, hm]
  cases h9 : (i.Op == 9) <;> cases h41 : (i.Op == 41) <;> cases h42 : (i.Op == 42) <;> simp_all
end PL
end Go.Proofs.Ytnonimnhninafaa.Ab
