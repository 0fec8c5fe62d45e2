/- What an instruction of a form is; printed by a program of the session. -/
import Derived.Test.YtnonimnhninafaaAbP3
namespace Go.Proofs.Ytnonimnhninafaa.Ab
open Go
namespace PL
set_option maxRecDepth 100000

def opd (o : M.Operand) : Prop := 0 ≤ o.Mode ∧ o.Mode ≤ 7 ∧ 0 ≤ o.Reg ∧ o.Reg ≤ 7 ∧ o.Ext = 0
theorem opd_frm (a : Int) : opd (frm a) := by unfold opd frm; dsimp only; omega
def alw (i : M.Inst) : Bool := (bif (i.Op == 41 || i.Op == 42) then i.Dst.Mode != 0 else true) && !(i.Op == 9 && (Int.tmod i.Reg 2 == 1))
structure Good (f : M.Inst_form) (i : M.Inst) : Prop where
  op : 1 ≤ i.Op ∧ i.Op ≤ 56
  byte : i.Byte = true → X.R06_Hasbyte i.Op = true
  src : X.R06_Hassrc i.Op = true ∧ opd i.Src ∨ X.R06_Hassrc i.Op = false ∧ i.Src = ⟨0, 0, 0⟩
  dst : X.R06_Hasdst i.Op = true ∧ opd i.Dst ∨ X.R06_Hasdst i.Op = false ∧ i.Dst = ⟨0, 0, 0⟩
  reg : 0 ≤ i.Reg ∧ i.Reg ≤ 7
  reg2 : i.Reg = 0 ∨ X.R06_Hasreg i.Op = true
  num : X.R06_least i.Op ≤ i.Num ∧ i.Num ≤ X.R06_greatest i.Op
  al : X.inst_form_allowed f i = alw i
section
variable {w : Int}

theorem g0 {b : Bool} : Good ⟨4096, 12, 1, 1, true⟩ (mk ⟨4096, 12, 1, 1, true⟩ b w) := by
  have e : mk ⟨4096, 12, 1, 1, true⟩ b w = ⟨1, b, frm (w / 64), frm w, 0, 0⟩ := by unfold mk; rw [F1]
  rw [e]
  refine ⟨(by dsimp only; omega), (fun _ => rfl), .inl ⟨rfl, opd_frm _⟩, .inl ⟨rfl, opd_frm _⟩, (by dsimp only; omega), .inl rfl, ?_, ?_⟩
  · dsimp only; rw [show X.R06_least 1 = 0 from rfl, show X.R06_greatest 1 = 0 from rfl]; first | omega | (unfold sgn; split <;> omega)
  · simp [X.inst_form_allowed, alw]
theorem g1 {b : Bool} : Good ⟨8192, 12, 2, 1, true⟩ (mk ⟨8192, 12, 2, 1, true⟩ b w) := by
  have e : mk ⟨8192, 12, 2, 1, true⟩ b w = ⟨2, b, frm (w / 64), frm w, 0, 0⟩ := by unfold mk; rw [F1]
  rw [e]
  refine ⟨(by dsimp only; omega), (fun _ => rfl), .inl ⟨rfl, opd_frm _⟩, .inl ⟨rfl, opd_frm _⟩, (by dsimp only; omega), .inl rfl, ?_, ?_⟩
  · dsimp only; rw [show X.R06_least 2 = 0 from rfl, show X.R06_greatest 2 = 0 from rfl]; first | omega | (unfold sgn; split <;> omega)
  · simp [X.inst_form_allowed, alw]
theorem g2 {b : Bool} : Good ⟨12288, 12, 3, 1, true⟩ (mk ⟨12288, 12, 3, 1, true⟩ b w) := by
  have e : mk ⟨12288, 12, 3, 1, true⟩ b w = ⟨3, b, frm (w / 64), frm w, 0, 0⟩ := by unfold mk; rw [F1]
  rw [e]
  refine ⟨(by dsimp only; omega), (fun _ => rfl), .inl ⟨rfl, opd_frm _⟩, .inl ⟨rfl, opd_frm _⟩, (by dsimp only; omega), .inl rfl, ?_, ?_⟩
  · dsimp only; rw [show X.R06_least 3 = 0 from rfl, show X.R06_greatest 3 = 0 from rfl]; first | omega | (unfold sgn; split <;> omega)
  · simp [X.inst_form_allowed, alw]
theorem g3 {b : Bool} : Good ⟨16384, 12, 4, 1, true⟩ (mk ⟨16384, 12, 4, 1, true⟩ b w) := by
  have e : mk ⟨16384, 12, 4, 1, true⟩ b w = ⟨4, b, frm (w / 64), frm w, 0, 0⟩ := by unfold mk; rw [F1]
  rw [e]
  refine ⟨(by dsimp only; omega), (fun _ => rfl), .inl ⟨rfl, opd_frm _⟩, .inl ⟨rfl, opd_frm _⟩, (by dsimp only; omega), .inl rfl, ?_, ?_⟩
  · dsimp only; rw [show X.R06_least 4 = 0 from rfl, show X.R06_greatest 4 = 0 from rfl]; first | omega | (unfold sgn; split <;> omega)
  · simp [X.inst_form_allowed, alw]
theorem g4 {b : Bool} : Good ⟨20480, 12, 5, 1, true⟩ (mk ⟨20480, 12, 5, 1, true⟩ b w) := by
  have e : mk ⟨20480, 12, 5, 1, true⟩ b w = ⟨5, b, frm (w / 64), frm w, 0, 0⟩ := by unfold mk; rw [F1]
  rw [e]
  refine ⟨(by dsimp only; omega), (fun _ => rfl), .inl ⟨rfl, opd_frm _⟩, .inl ⟨rfl, opd_frm _⟩, (by dsimp only; omega), .inl rfl, ?_, ?_⟩
  · dsimp only; rw [show X.R06_least 5 = 0 from rfl, show X.R06_greatest 5 = 0 from rfl]; first | omega | (unfold sgn; split <;> omega)
  · simp [X.inst_form_allowed, alw]
theorem g5 : Good ⟨24576, 12, 6, 1, false⟩ (mk ⟨24576, 12, 6, 1, false⟩ false w) := by
  have e : mk ⟨24576, 12, 6, 1, false⟩ false w = ⟨6, false, frm (w / 64), frm w, 0, 0⟩ := by unfold mk; rw [F1]
  rw [e]
  refine ⟨(by dsimp only; omega), (fun h => by cases h), .inl ⟨rfl, opd_frm _⟩, .inl ⟨rfl, opd_frm _⟩, (by dsimp only; omega), .inl rfl, ?_, ?_⟩
  · dsimp only; rw [show X.R06_least 6 = 0 from rfl, show X.R06_greatest 6 = 0 from rfl]; first | omega | (unfold sgn; split <;> omega)
  · simp [X.inst_form_allowed, alw]
theorem g6 : Good ⟨57344, 12, 7, 1, false⟩ (mk ⟨57344, 12, 7, 1, false⟩ false w) := by
  have e : mk ⟨57344, 12, 7, 1, false⟩ false w = ⟨7, false, frm (w / 64), frm w, 0, 0⟩ := by unfold mk; rw [F1]
  rw [e]
  refine ⟨(by dsimp only; omega), (fun h => by cases h), .inl ⟨rfl, opd_frm _⟩, .inl ⟨rfl, opd_frm _⟩, (by dsimp only; omega), .inl rfl, ?_, ?_⟩
  · dsimp only; rw [show X.R06_least 7 = 0 from rfl, show X.R06_greatest 7 = 0 from rfl]; first | omega | (unfold sgn; split <;> omega)
  · simp [X.inst_form_allowed, alw]
theorem g7 : Good ⟨28672, 9, 8, 5, false⟩ (mk ⟨28672, 9, 8, 5, false⟩ false w) := by
  have e : mk ⟨28672, 9, 8, 5, false⟩ false w = ⟨8, false, frm w, (⟨0, 0, 0⟩ : M.Operand), w / 64 % 8, 0⟩ := by unfold mk; rw [F5]
  rw [e]
  refine ⟨(by dsimp only; omega), (fun h => by cases h), .inl ⟨rfl, opd_frm _⟩, .inr ⟨rfl, rfl⟩, (by dsimp only; omega), .inr rfl, ?_, ?_⟩
  · dsimp only; rw [show X.R06_least 8 = 0 from rfl, show X.R06_greatest 8 = 0 from rfl]; first | omega | (unfold sgn; split <;> omega)
  · simp [X.inst_form_allowed, alw]
theorem g8 : Good ⟨29184, 9, 9, 5, false⟩ (mk ⟨29184, 9, 9, 5, false⟩ false w) := by
  have e : mk ⟨29184, 9, 9, 5, false⟩ false w = ⟨9, false, frm w, (⟨0, 0, 0⟩ : M.Operand), w / 64 % 8, 0⟩ := by unfold mk; rw [F5]
  rw [e]
  refine ⟨(by dsimp only; omega), (fun h => by cases h), .inl ⟨rfl, opd_frm _⟩, .inr ⟨rfl, rfl⟩, (by dsimp only; omega), .inr rfl, ?_, ?_⟩
  · dsimp only; rw [show X.R06_least 9 = 0 from rfl, show X.R06_greatest 9 = 0 from rfl]; first | omega | (unfold sgn; split <;> omega)
  · have h : Int.tmod (w / 64 % 8) 2 = w / 64 % 8 % 2 := Int.tmod_eq_emod_of_nonneg (by omega)
    simp only [X.inst_form_allowed, alw, h]
    have : w / 64 % 8 % 2 = 0 ∨ w / 64 % 8 % 2 = 1 := by omega
    rcases this with h | h <;> rw [h] <;> rfl
theorem g9 : Good ⟨29696, 9, 10, 5, false⟩ (mk ⟨29696, 9, 10, 5, false⟩ false w) := by
  have e : mk ⟨29696, 9, 10, 5, false⟩ false w = ⟨10, false, frm w, (⟨0, 0, 0⟩ : M.Operand), w / 64 % 8, 0⟩ := by unfold mk; rw [F5]
  rw [e]
  refine ⟨(by dsimp only; omega), (fun h => by cases h), .inl ⟨rfl, opd_frm _⟩, .inr ⟨rfl, rfl⟩, (by dsimp only; omega), .inr rfl, ?_, ?_⟩
  · dsimp only; rw [show X.R06_least 10 = 0 from rfl, show X.R06_greatest 10 = 0 from rfl]; first | omega | (unfold sgn; split <;> omega)
  · simp [X.inst_form_allowed, alw]
theorem g10 : Good ⟨30720, 9, 11, 6, false⟩ (mk ⟨30720, 9, 11, 6, false⟩ false w) := by
  have e : mk ⟨30720, 9, 11, 6, false⟩ false w = ⟨11, false, (⟨0, 0, 0⟩ : M.Operand), frm w, w / 64 % 8, 0⟩ := by unfold mk; rw [F6]
  rw [e]
  refine ⟨(by dsimp only; omega), (fun h => by cases h), .inr ⟨rfl, rfl⟩, .inl ⟨rfl, opd_frm _⟩, (by dsimp only; omega), .inr rfl, ?_, ?_⟩
  · dsimp only; rw [show X.R06_least 11 = 0 from rfl, show X.R06_greatest 11 = 0 from rfl]; first | omega | (unfold sgn; split <;> omega)
  · simp [X.inst_form_allowed, alw]
theorem g11 {b : Bool} : Good ⟨2560, 6, 12, 3, true⟩ (mk ⟨2560, 6, 12, 3, true⟩ b w) := by
  have e : mk ⟨2560, 6, 12, 3, true⟩ b w = ⟨12, b, (⟨0, 0, 0⟩ : M.Operand), frm w, 0, 0⟩ := by unfold mk; rw [F3]
  rw [e]
  refine ⟨(by dsimp only; omega), (fun _ => rfl), .inr ⟨rfl, rfl⟩, .inl ⟨rfl, opd_frm _⟩, (by dsimp only; omega), .inl rfl, ?_, ?_⟩
  · dsimp only; rw [show X.R06_least 12 = 0 from rfl, show X.R06_greatest 12 = 0 from rfl]; first | omega | (unfold sgn; split <;> omega)
  · simp [X.inst_form_allowed, alw]
theorem g12 {b : Bool} : Good ⟨2624, 6, 13, 3, true⟩ (mk ⟨2624, 6, 13, 3, true⟩ b w) := by
  have e : mk ⟨2624, 6, 13, 3, true⟩ b w = ⟨13, b, (⟨0, 0, 0⟩ : M.Operand), frm w, 0, 0⟩ := by unfold mk; rw [F3]
  rw [e]
  refine ⟨(by dsimp only; omega), (fun _ => rfl), .inr ⟨rfl, rfl⟩, .inl ⟨rfl, opd_frm _⟩, (by dsimp only; omega), .inl rfl, ?_, ?_⟩
  · dsimp only; rw [show X.R06_least 13 = 0 from rfl, show X.R06_greatest 13 = 0 from rfl]; first | omega | (unfold sgn; split <;> omega)
  · simp [X.inst_form_allowed, alw]
theorem g13 {b : Bool} : Good ⟨2688, 6, 14, 3, true⟩ (mk ⟨2688, 6, 14, 3, true⟩ b w) := by
  have e : mk ⟨2688, 6, 14, 3, true⟩ b w = ⟨14, b, (⟨0, 0, 0⟩ : M.Operand), frm w, 0, 0⟩ := by unfold mk; rw [F3]
  rw [e]
  refine ⟨(by dsimp only; omega), (fun _ => rfl), .inr ⟨rfl, rfl⟩, .inl ⟨rfl, opd_frm _⟩, (by dsimp only; omega), .inl rfl, ?_, ?_⟩
  · dsimp only; rw [show X.R06_least 14 = 0 from rfl, show X.R06_greatest 14 = 0 from rfl]; first | omega | (unfold sgn; split <;> omega)
  · simp [X.inst_form_allowed, alw]
theorem g14 {b : Bool} : Good ⟨2752, 6, 15, 3, true⟩ (mk ⟨2752, 6, 15, 3, true⟩ b w) := by
  have e : mk ⟨2752, 6, 15, 3, true⟩ b w = ⟨15, b, (⟨0, 0, 0⟩ : M.Operand), frm w, 0, 0⟩ := by unfold mk; rw [F3]
  rw [e]
  refine ⟨(by dsimp only; omega), (fun _ => rfl), .inr ⟨rfl, rfl⟩, .inl ⟨rfl, opd_frm _⟩, (by dsimp only; omega), .inl rfl, ?_, ?_⟩
  · dsimp only; rw [show X.R06_least 15 = 0 from rfl, show X.R06_greatest 15 = 0 from rfl]; first | omega | (unfold sgn; split <;> omega)
  · simp [X.inst_form_allowed, alw]
theorem g15 {b : Bool} : Good ⟨2816, 6, 16, 3, true⟩ (mk ⟨2816, 6, 16, 3, true⟩ b w) := by
  have e : mk ⟨2816, 6, 16, 3, true⟩ b w = ⟨16, b, (⟨0, 0, 0⟩ : M.Operand), frm w, 0, 0⟩ := by unfold mk; rw [F3]
  rw [e]
  refine ⟨(by dsimp only; omega), (fun _ => rfl), .inr ⟨rfl, rfl⟩, .inl ⟨rfl, opd_frm _⟩, (by dsimp only; omega), .inl rfl, ?_, ?_⟩
  · dsimp only; rw [show X.R06_least 16 = 0 from rfl, show X.R06_greatest 16 = 0 from rfl]; first | omega | (unfold sgn; split <;> omega)
  · simp [X.inst_form_allowed, alw]
theorem g16 {b : Bool} : Good ⟨2880, 6, 17, 3, true⟩ (mk ⟨2880, 6, 17, 3, true⟩ b w) := by
  have e : mk ⟨2880, 6, 17, 3, true⟩ b w = ⟨17, b, (⟨0, 0, 0⟩ : M.Operand), frm w, 0, 0⟩ := by unfold mk; rw [F3]
  rw [e]
  refine ⟨(by dsimp only; omega), (fun _ => rfl), .inr ⟨rfl, rfl⟩, .inl ⟨rfl, opd_frm _⟩, (by dsimp only; omega), .inl rfl, ?_, ?_⟩
  · dsimp only; rw [show X.R06_least 17 = 0 from rfl, show X.R06_greatest 17 = 0 from rfl]; first | omega | (unfold sgn; split <;> omega)
  · simp [X.inst_form_allowed, alw]
theorem g17 {b : Bool} : Good ⟨2944, 6, 18, 3, true⟩ (mk ⟨2944, 6, 18, 3, true⟩ b w) := by
  have e : mk ⟨2944, 6, 18, 3, true⟩ b w = ⟨18, b, (⟨0, 0, 0⟩ : M.Operand), frm w, 0, 0⟩ := by unfold mk; rw [F3]
  rw [e]
  refine ⟨(by dsimp only; omega), (fun _ => rfl), .inr ⟨rfl, rfl⟩, .inl ⟨rfl, opd_frm _⟩, (by dsimp only; omega), .inl rfl, ?_, ?_⟩
  · dsimp only; rw [show X.R06_least 18 = 0 from rfl, show X.R06_greatest 18 = 0 from rfl]; first | omega | (unfold sgn; split <;> omega)
  · simp [X.inst_form_allowed, alw]
theorem g18 {b : Bool} : Good ⟨3008, 6, 19, 3, true⟩ (mk ⟨3008, 6, 19, 3, true⟩ b w) := by
  have e : mk ⟨3008, 6, 19, 3, true⟩ b w = ⟨19, b, (⟨0, 0, 0⟩ : M.Operand), frm w, 0, 0⟩ := by unfold mk; rw [F3]
  rw [e]
  refine ⟨(by dsimp only; omega), (fun _ => rfl), .inr ⟨rfl, rfl⟩, .inl ⟨rfl, opd_frm _⟩, (by dsimp only; omega), .inl rfl, ?_, ?_⟩
  · dsimp only; rw [show X.R06_least 19 = 0 from rfl, show X.R06_greatest 19 = 0 from rfl]; first | omega | (unfold sgn; split <;> omega)
  · simp [X.inst_form_allowed, alw]
theorem g19 {b : Bool} : Good ⟨3072, 6, 20, 3, true⟩ (mk ⟨3072, 6, 20, 3, true⟩ b w) := by
  have e : mk ⟨3072, 6, 20, 3, true⟩ b w = ⟨20, b, (⟨0, 0, 0⟩ : M.Operand), frm w, 0, 0⟩ := by unfold mk; rw [F3]
  rw [e]
  refine ⟨(by dsimp only; omega), (fun _ => rfl), .inr ⟨rfl, rfl⟩, .inl ⟨rfl, opd_frm _⟩, (by dsimp only; omega), .inl rfl, ?_, ?_⟩
  · dsimp only; rw [show X.R06_least 20 = 0 from rfl, show X.R06_greatest 20 = 0 from rfl]; first | omega | (unfold sgn; split <;> omega)
  · simp [X.inst_form_allowed, alw]
theorem g20 {b : Bool} : Good ⟨3136, 6, 21, 3, true⟩ (mk ⟨3136, 6, 21, 3, true⟩ b w) := by
  have e : mk ⟨3136, 6, 21, 3, true⟩ b w = ⟨21, b, (⟨0, 0, 0⟩ : M.Operand), frm w, 0, 0⟩ := by unfold mk; rw [F3]
  rw [e]
  refine ⟨(by dsimp only; omega), (fun _ => rfl), .inr ⟨rfl, rfl⟩, .inl ⟨rfl, opd_frm _⟩, (by dsimp only; omega), .inl rfl, ?_, ?_⟩
  · dsimp only; rw [show X.R06_least 21 = 0 from rfl, show X.R06_greatest 21 = 0 from rfl]; first | omega | (unfold sgn; split <;> omega)
  · simp [X.inst_form_allowed, alw]
theorem g21 {b : Bool} : Good ⟨3200, 6, 22, 3, true⟩ (mk ⟨3200, 6, 22, 3, true⟩ b w) := by
  have e : mk ⟨3200, 6, 22, 3, true⟩ b w = ⟨22, b, (⟨0, 0, 0⟩ : M.Operand), frm w, 0, 0⟩ := by unfold mk; rw [F3]
  rw [e]
  refine ⟨(by dsimp only; omega), (fun _ => rfl), .inr ⟨rfl, rfl⟩, .inl ⟨rfl, opd_frm _⟩, (by dsimp only; omega), .inl rfl, ?_, ?_⟩
  · dsimp only; rw [show X.R06_least 22 = 0 from rfl, show X.R06_greatest 22 = 0 from rfl]; first | omega | (unfold sgn; split <;> omega)
  · simp [X.inst_form_allowed, alw]
theorem g22 {b : Bool} : Good ⟨3264, 6, 23, 3, true⟩ (mk ⟨3264, 6, 23, 3, true⟩ b w) := by
  have e : mk ⟨3264, 6, 23, 3, true⟩ b w = ⟨23, b, (⟨0, 0, 0⟩ : M.Operand), frm w, 0, 0⟩ := by unfold mk; rw [F3]
  rw [e]
  refine ⟨(by dsimp only; omega), (fun _ => rfl), .inr ⟨rfl, rfl⟩, .inl ⟨rfl, opd_frm _⟩, (by dsimp only; omega), .inl rfl, ?_, ?_⟩
  · dsimp only; rw [show X.R06_least 23 = 0 from rfl, show X.R06_greatest 23 = 0 from rfl]; first | omega | (unfold sgn; split <;> omega)
  · simp [X.inst_form_allowed, alw]
theorem g23 : Good ⟨192, 6, 24, 3, false⟩ (mk ⟨192, 6, 24, 3, false⟩ false w) := by
  have e : mk ⟨192, 6, 24, 3, false⟩ false w = ⟨24, false, (⟨0, 0, 0⟩ : M.Operand), frm w, 0, 0⟩ := by unfold mk; rw [F3]
  rw [e]
  refine ⟨(by dsimp only; omega), (fun h => by cases h), .inr ⟨rfl, rfl⟩, .inl ⟨rfl, opd_frm _⟩, (by dsimp only; omega), .inl rfl, ?_, ?_⟩
  · dsimp only; rw [show X.R06_least 24 = 0 from rfl, show X.R06_greatest 24 = 0 from rfl]; first | omega | (unfold sgn; split <;> omega)
  · simp [X.inst_form_allowed, alw]
theorem g24 : Good ⟨3520, 6, 25, 3, false⟩ (mk ⟨3520, 6, 25, 3, false⟩ false w) := by
  have e : mk ⟨3520, 6, 25, 3, false⟩ false w = ⟨25, false, (⟨0, 0, 0⟩ : M.Operand), frm w, 0, 0⟩ := by unfold mk; rw [F3]
  rw [e]
  refine ⟨(by dsimp only; omega), (fun h => by cases h), .inr ⟨rfl, rfl⟩, .inl ⟨rfl, opd_frm _⟩, (by dsimp only; omega), .inl rfl, ?_, ?_⟩
  · dsimp only; rw [show X.R06_least 25 = 0 from rfl, show X.R06_greatest 25 = 0 from rfl]; first | omega | (unfold sgn; split <;> omega)
  · simp [X.inst_form_allowed, alw]
theorem g25 : Good ⟨3392, 6, 55, 2, false⟩ (mk ⟨3392, 6, 55, 2, false⟩ false w) := by
  have e : mk ⟨3392, 6, 55, 2, false⟩ false w = ⟨55, false, frm w, (⟨0, 0, 0⟩ : M.Operand), 0, 0⟩ := by unfold mk; rw [F2]
  rw [e]
  refine ⟨(by dsimp only; omega), (fun h => by cases h), .inl ⟨rfl, opd_frm _⟩, .inr ⟨rfl, rfl⟩, (by dsimp only; omega), .inl rfl, ?_, ?_⟩
  · dsimp only; rw [show X.R06_least 55 = 0 from rfl, show X.R06_greatest 55 = 0 from rfl]; first | omega | (unfold sgn; split <;> omega)
  · simp [X.inst_form_allowed, alw]
theorem g26 : Good ⟨3456, 6, 56, 3, false⟩ (mk ⟨3456, 6, 56, 3, false⟩ false w) := by
  have e : mk ⟨3456, 6, 56, 3, false⟩ false w = ⟨56, false, (⟨0, 0, 0⟩ : M.Operand), frm w, 0, 0⟩ := by unfold mk; rw [F3]
  rw [e]
  refine ⟨(by dsimp only; omega), (fun h => by cases h), .inr ⟨rfl, rfl⟩, .inl ⟨rfl, opd_frm _⟩, (by dsimp only; omega), .inl rfl, ?_, ?_⟩
  · dsimp only; rw [show X.R06_least 56 = 0 from rfl, show X.R06_greatest 56 = 0 from rfl]; first | omega | (unfold sgn; split <;> omega)
  · simp [X.inst_form_allowed, alw]
theorem g27 : Good ⟨64, 6, 41, 4, false⟩ (mk ⟨64, 6, 41, 4, false⟩ false w) := by
  have e : mk ⟨64, 6, 41, 4, false⟩ false w = ⟨41, false, (⟨0, 0, 0⟩ : M.Operand), frm w, 0, 0⟩ := by unfold mk; rw [F4]
  rw [e]
  refine ⟨(by dsimp only; omega), (fun h => by cases h), .inr ⟨rfl, rfl⟩, .inl ⟨rfl, opd_frm _⟩, (by dsimp only; omega), .inl rfl, ?_, ?_⟩
  · dsimp only; rw [show X.R06_least 41 = 0 from rfl, show X.R06_greatest 41 = 0 from rfl]; first | omega | (unfold sgn; split <;> omega)
  · simp [X.inst_form_allowed, alw]
theorem g28 : Good ⟨2048, 9, 42, 7, false⟩ (mk ⟨2048, 9, 42, 7, false⟩ false w) := by
  have e : mk ⟨2048, 9, 42, 7, false⟩ false w = ⟨42, false, (⟨0, 0, 0⟩ : M.Operand), frm w, w / 64 % 8, 0⟩ := by unfold mk; rw [F7]
  rw [e]
  refine ⟨(by dsimp only; omega), (fun h => by cases h), .inr ⟨rfl, rfl⟩, .inl ⟨rfl, opd_frm _⟩, (by dsimp only; omega), .inr rfl, ?_, ?_⟩
  · dsimp only; rw [show X.R06_least 42 = 0 from rfl, show X.R06_greatest 42 = 0 from rfl]; first | omega | (unfold sgn; split <;> omega)
  · simp [X.inst_form_allowed, alw]
theorem g29 : Good ⟨128, 3, 43, 8, false⟩ (mk ⟨128, 3, 43, 8, false⟩ false w) := by
  have e : mk ⟨128, 3, 43, 8, false⟩ false w = ⟨43, false, (⟨0, 0, 0⟩ : M.Operand), (⟨0, 0, 0⟩ : M.Operand), w % 8, 0⟩ := by unfold mk; rw [F8]
  rw [e]
  refine ⟨(by dsimp only; omega), (fun h => by cases h), .inr ⟨rfl, rfl⟩, .inr ⟨rfl, rfl⟩, (by dsimp only; omega), .inr rfl, ?_, ?_⟩
  · dsimp only; rw [show X.R06_least 43 = 0 from rfl, show X.R06_greatest 43 = 0 from rfl]; first | omega | (unfold sgn; split <;> omega)
  · simp [X.inst_form_allowed, alw]
theorem g30 : Good ⟨32256, 9, 44, 10, false⟩ (mk ⟨32256, 9, 44, 10, false⟩ false w) := by
  have e : mk ⟨32256, 9, 44, 10, false⟩ false w = ⟨44, false, (⟨0, 0, 0⟩ : M.Operand), (⟨0, 0, 0⟩ : M.Operand), w / 64 % 8, w % 64⟩ := by unfold mk; rw [F10]
  rw [e]
  refine ⟨(by dsimp only; omega), (fun h => by cases h), .inr ⟨rfl, rfl⟩, .inr ⟨rfl, rfl⟩, (by dsimp only; omega), .inr rfl, ?_, ?_⟩
  · dsimp only; rw [show X.R06_least 44 = 0 from rfl, show X.R06_greatest 44 = 63 from rfl]; first | omega | (unfold sgn; split <;> omega)
  · simp [X.inst_form_allowed, alw]
theorem g31 : Good ⟨256, 8, 26, 9, false⟩ (mk ⟨256, 8, 26, 9, false⟩ false w) := by
  have e : mk ⟨256, 8, 26, 9, false⟩ false w = ⟨26, false, (⟨0, 0, 0⟩ : M.Operand), (⟨0, 0, 0⟩ : M.Operand), 0, sgn (w % 256)⟩ := by unfold mk; rw [F9]
  rw [e]
  refine ⟨(by dsimp only; omega), (fun h => by cases h), .inr ⟨rfl, rfl⟩, .inr ⟨rfl, rfl⟩, (by dsimp only; omega), .inl rfl, ?_, ?_⟩
  · dsimp only; rw [show X.R06_least 26 = -128 from rfl, show X.R06_greatest 26 = 127 from rfl]; first | omega | (unfold sgn; split <;> omega)
  · simp [X.inst_form_allowed, alw]
theorem g32 : Good ⟨512, 8, 27, 9, false⟩ (mk ⟨512, 8, 27, 9, false⟩ false w) := by
  have e : mk ⟨512, 8, 27, 9, false⟩ false w = ⟨27, false, (⟨0, 0, 0⟩ : M.Operand), (⟨0, 0, 0⟩ : M.Operand), 0, sgn (w % 256)⟩ := by unfold mk; rw [F9]
  rw [e]
  refine ⟨(by dsimp only; omega), (fun h => by cases h), .inr ⟨rfl, rfl⟩, .inr ⟨rfl, rfl⟩, (by dsimp only; omega), .inl rfl, ?_, ?_⟩
  · dsimp only; rw [show X.R06_least 27 = -128 from rfl, show X.R06_greatest 27 = 127 from rfl]; first | omega | (unfold sgn; split <;> omega)
  · simp [X.inst_form_allowed, alw]
theorem g33 : Good ⟨768, 8, 28, 9, false⟩ (mk ⟨768, 8, 28, 9, false⟩ false w) := by
  have e : mk ⟨768, 8, 28, 9, false⟩ false w = ⟨28, false, (⟨0, 0, 0⟩ : M.Operand), (⟨0, 0, 0⟩ : M.Operand), 0, sgn (w % 256)⟩ := by unfold mk; rw [F9]
  rw [e]
  refine ⟨(by dsimp only; omega), (fun h => by cases h), .inr ⟨rfl, rfl⟩, .inr ⟨rfl, rfl⟩, (by dsimp only; omega), .inl rfl, ?_, ?_⟩
  · dsimp only; rw [show X.R06_least 28 = -128 from rfl, show X.R06_greatest 28 = 127 from rfl]; first | omega | (unfold sgn; split <;> omega)
  · simp [X.inst_form_allowed, alw]
theorem g34 : Good ⟨1024, 8, 29, 9, false⟩ (mk ⟨1024, 8, 29, 9, false⟩ false w) := by
  have e : mk ⟨1024, 8, 29, 9, false⟩ false w = ⟨29, false, (⟨0, 0, 0⟩ : M.Operand), (⟨0, 0, 0⟩ : M.Operand), 0, sgn (w % 256)⟩ := by unfold mk; rw [F9]
  rw [e]
  refine ⟨(by dsimp only; omega), (fun h => by cases h), .inr ⟨rfl, rfl⟩, .inr ⟨rfl, rfl⟩, (by dsimp only; omega), .inl rfl, ?_, ?_⟩
  · dsimp only; rw [show X.R06_least 29 = -128 from rfl, show X.R06_greatest 29 = 127 from rfl]; first | omega | (unfold sgn; split <;> omega)
  · simp [X.inst_form_allowed, alw]
theorem g35 : Good ⟨1280, 8, 30, 9, false⟩ (mk ⟨1280, 8, 30, 9, false⟩ false w) := by
  have e : mk ⟨1280, 8, 30, 9, false⟩ false w = ⟨30, false, (⟨0, 0, 0⟩ : M.Operand), (⟨0, 0, 0⟩ : M.Operand), 0, sgn (w % 256)⟩ := by unfold mk; rw [F9]
  rw [e]
  refine ⟨(by dsimp only; omega), (fun h => by cases h), .inr ⟨rfl, rfl⟩, .inr ⟨rfl, rfl⟩, (by dsimp only; omega), .inl rfl, ?_, ?_⟩
  · dsimp only; rw [show X.R06_least 30 = -128 from rfl, show X.R06_greatest 30 = 127 from rfl]; first | omega | (unfold sgn; split <;> omega)
  · simp [X.inst_form_allowed, alw]
theorem g36 : Good ⟨1536, 8, 31, 9, false⟩ (mk ⟨1536, 8, 31, 9, false⟩ false w) := by
  have e : mk ⟨1536, 8, 31, 9, false⟩ false w = ⟨31, false, (⟨0, 0, 0⟩ : M.Operand), (⟨0, 0, 0⟩ : M.Operand), 0, sgn (w % 256)⟩ := by unfold mk; rw [F9]
  rw [e]
  refine ⟨(by dsimp only; omega), (fun h => by cases h), .inr ⟨rfl, rfl⟩, .inr ⟨rfl, rfl⟩, (by dsimp only; omega), .inl rfl, ?_, ?_⟩
  · dsimp only; rw [show X.R06_least 31 = -128 from rfl, show X.R06_greatest 31 = 127 from rfl]; first | omega | (unfold sgn; split <;> omega)
  · simp [X.inst_form_allowed, alw]
theorem g37 : Good ⟨1792, 8, 32, 9, false⟩ (mk ⟨1792, 8, 32, 9, false⟩ false w) := by
  have e : mk ⟨1792, 8, 32, 9, false⟩ false w = ⟨32, false, (⟨0, 0, 0⟩ : M.Operand), (⟨0, 0, 0⟩ : M.Operand), 0, sgn (w % 256)⟩ := by unfold mk; rw [F9]
  rw [e]
  refine ⟨(by dsimp only; omega), (fun h => by cases h), .inr ⟨rfl, rfl⟩, .inr ⟨rfl, rfl⟩, (by dsimp only; omega), .inl rfl, ?_, ?_⟩
  · dsimp only; rw [show X.R06_least 32 = -128 from rfl, show X.R06_greatest 32 = 127 from rfl]; first | omega | (unfold sgn; split <;> omega)
  · simp [X.inst_form_allowed, alw]
theorem g38 : Good ⟨32768, 8, 33, 9, false⟩ (mk ⟨32768, 8, 33, 9, false⟩ false w) := by
  have e : mk ⟨32768, 8, 33, 9, false⟩ false w = ⟨33, false, (⟨0, 0, 0⟩ : M.Operand), (⟨0, 0, 0⟩ : M.Operand), 0, sgn (w % 256)⟩ := by unfold mk; rw [F9]
  rw [e]
  refine ⟨(by dsimp only; omega), (fun h => by cases h), .inr ⟨rfl, rfl⟩, .inr ⟨rfl, rfl⟩, (by dsimp only; omega), .inl rfl, ?_, ?_⟩
  · dsimp only; rw [show X.R06_least 33 = -128 from rfl, show X.R06_greatest 33 = 127 from rfl]; first | omega | (unfold sgn; split <;> omega)
  · simp [X.inst_form_allowed, alw]
theorem g39 : Good ⟨33024, 8, 34, 9, false⟩ (mk ⟨33024, 8, 34, 9, false⟩ false w) := by
  have e : mk ⟨33024, 8, 34, 9, false⟩ false w = ⟨34, false, (⟨0, 0, 0⟩ : M.Operand), (⟨0, 0, 0⟩ : M.Operand), 0, sgn (w % 256)⟩ := by unfold mk; rw [F9]
  rw [e]
  refine ⟨(by dsimp only; omega), (fun h => by cases h), .inr ⟨rfl, rfl⟩, .inr ⟨rfl, rfl⟩, (by dsimp only; omega), .inl rfl, ?_, ?_⟩
  · dsimp only; rw [show X.R06_least 34 = -128 from rfl, show X.R06_greatest 34 = 127 from rfl]; first | omega | (unfold sgn; split <;> omega)
  · simp [X.inst_form_allowed, alw]
theorem g40 : Good ⟨33280, 8, 35, 9, false⟩ (mk ⟨33280, 8, 35, 9, false⟩ false w) := by
  have e : mk ⟨33280, 8, 35, 9, false⟩ false w = ⟨35, false, (⟨0, 0, 0⟩ : M.Operand), (⟨0, 0, 0⟩ : M.Operand), 0, sgn (w % 256)⟩ := by unfold mk; rw [F9]
  rw [e]
  refine ⟨(by dsimp only; omega), (fun h => by cases h), .inr ⟨rfl, rfl⟩, .inr ⟨rfl, rfl⟩, (by dsimp only; omega), .inl rfl, ?_, ?_⟩
  · dsimp only; rw [show X.R06_least 35 = -128 from rfl, show X.R06_greatest 35 = 127 from rfl]; first | omega | (unfold sgn; split <;> omega)
  · simp [X.inst_form_allowed, alw]
theorem g41 : Good ⟨33536, 8, 36, 9, false⟩ (mk ⟨33536, 8, 36, 9, false⟩ false w) := by
  have e : mk ⟨33536, 8, 36, 9, false⟩ false w = ⟨36, false, (⟨0, 0, 0⟩ : M.Operand), (⟨0, 0, 0⟩ : M.Operand), 0, sgn (w % 256)⟩ := by unfold mk; rw [F9]
  rw [e]
  refine ⟨(by dsimp only; omega), (fun h => by cases h), .inr ⟨rfl, rfl⟩, .inr ⟨rfl, rfl⟩, (by dsimp only; omega), .inl rfl, ?_, ?_⟩
  · dsimp only; rw [show X.R06_least 36 = -128 from rfl, show X.R06_greatest 36 = 127 from rfl]; first | omega | (unfold sgn; split <;> omega)
  · simp [X.inst_form_allowed, alw]
theorem g42 : Good ⟨33792, 8, 37, 9, false⟩ (mk ⟨33792, 8, 37, 9, false⟩ false w) := by
  have e : mk ⟨33792, 8, 37, 9, false⟩ false w = ⟨37, false, (⟨0, 0, 0⟩ : M.Operand), (⟨0, 0, 0⟩ : M.Operand), 0, sgn (w % 256)⟩ := by unfold mk; rw [F9]
  rw [e]
  refine ⟨(by dsimp only; omega), (fun h => by cases h), .inr ⟨rfl, rfl⟩, .inr ⟨rfl, rfl⟩, (by dsimp only; omega), .inl rfl, ?_, ?_⟩
  · dsimp only; rw [show X.R06_least 37 = -128 from rfl, show X.R06_greatest 37 = 127 from rfl]; first | omega | (unfold sgn; split <;> omega)
  · simp [X.inst_form_allowed, alw]
theorem g43 : Good ⟨34048, 8, 38, 9, false⟩ (mk ⟨34048, 8, 38, 9, false⟩ false w) := by
  have e : mk ⟨34048, 8, 38, 9, false⟩ false w = ⟨38, false, (⟨0, 0, 0⟩ : M.Operand), (⟨0, 0, 0⟩ : M.Operand), 0, sgn (w % 256)⟩ := by unfold mk; rw [F9]
  rw [e]
  refine ⟨(by dsimp only; omega), (fun h => by cases h), .inr ⟨rfl, rfl⟩, .inr ⟨rfl, rfl⟩, (by dsimp only; omega), .inl rfl, ?_, ?_⟩
  · dsimp only; rw [show X.R06_least 38 = -128 from rfl, show X.R06_greatest 38 = 127 from rfl]; first | omega | (unfold sgn; split <;> omega)
  · simp [X.inst_form_allowed, alw]
theorem g44 : Good ⟨34304, 8, 39, 9, false⟩ (mk ⟨34304, 8, 39, 9, false⟩ false w) := by
  have e : mk ⟨34304, 8, 39, 9, false⟩ false w = ⟨39, false, (⟨0, 0, 0⟩ : M.Operand), (⟨0, 0, 0⟩ : M.Operand), 0, sgn (w % 256)⟩ := by unfold mk; rw [F9]
  rw [e]
  refine ⟨(by dsimp only; omega), (fun h => by cases h), .inr ⟨rfl, rfl⟩, .inr ⟨rfl, rfl⟩, (by dsimp only; omega), .inl rfl, ?_, ?_⟩
  · dsimp only; rw [show X.R06_least 39 = -128 from rfl, show X.R06_greatest 39 = 127 from rfl]; first | omega | (unfold sgn; split <;> omega)
  · simp [X.inst_form_allowed, alw]
theorem g45 : Good ⟨34560, 8, 40, 9, false⟩ (mk ⟨34560, 8, 40, 9, false⟩ false w) := by
  have e : mk ⟨34560, 8, 40, 9, false⟩ false w = ⟨40, false, (⟨0, 0, 0⟩ : M.Operand), (⟨0, 0, 0⟩ : M.Operand), 0, sgn (w % 256)⟩ := by unfold mk; rw [F9]
  rw [e]
  refine ⟨(by dsimp only; omega), (fun h => by cases h), .inr ⟨rfl, rfl⟩, .inr ⟨rfl, rfl⟩, (by dsimp only; omega), .inl rfl, ?_, ?_⟩
  · dsimp only; rw [show X.R06_least 40 = -128 from rfl, show X.R06_greatest 40 = 127 from rfl]; first | omega | (unfold sgn; split <;> omega)
  · simp [X.inst_form_allowed, alw]
theorem g46 : Good ⟨34816, 8, 45, 11, false⟩ (mk ⟨34816, 8, 45, 11, false⟩ false w) := by
  have e : mk ⟨34816, 8, 45, 11, false⟩ false w = ⟨45, false, (⟨0, 0, 0⟩ : M.Operand), (⟨0, 0, 0⟩ : M.Operand), 0, w % 256⟩ := by unfold mk; rw [F11]
  rw [e]
  refine ⟨(by dsimp only; omega), (fun h => by cases h), .inr ⟨rfl, rfl⟩, .inr ⟨rfl, rfl⟩, (by dsimp only; omega), .inl rfl, ?_, ?_⟩
  · dsimp only; rw [show X.R06_least 45 = 0 from rfl, show X.R06_greatest 45 = 255 from rfl]; first | omega | (unfold sgn; split <;> omega)
  · simp [X.inst_form_allowed, alw]
theorem g47 : Good ⟨35072, 8, 46, 11, false⟩ (mk ⟨35072, 8, 46, 11, false⟩ false w) := by
  have e : mk ⟨35072, 8, 46, 11, false⟩ false w = ⟨46, false, (⟨0, 0, 0⟩ : M.Operand), (⟨0, 0, 0⟩ : M.Operand), 0, w % 256⟩ := by unfold mk; rw [F11]
  rw [e]
  refine ⟨(by dsimp only; omega), (fun h => by cases h), .inr ⟨rfl, rfl⟩, .inr ⟨rfl, rfl⟩, (by dsimp only; omega), .inl rfl, ?_, ?_⟩
  · dsimp only; rw [show X.R06_least 46 = 0 from rfl, show X.R06_greatest 46 = 255 from rfl]; first | omega | (unfold sgn; split <;> omega)
  · simp [X.inst_form_allowed, alw]
theorem g48 : Good ⟨160, 4, 53, 12, false⟩ (mk ⟨160, 4, 53, 12, false⟩ false w) := by
  have e : mk ⟨160, 4, 53, 12, false⟩ false w = ⟨53, false, (⟨0, 0, 0⟩ : M.Operand), (⟨0, 0, 0⟩ : M.Operand), 0, w % 16⟩ := by unfold mk; rw [F12]
  rw [e]
  refine ⟨(by dsimp only; omega), (fun h => by cases h), .inr ⟨rfl, rfl⟩, .inr ⟨rfl, rfl⟩, (by dsimp only; omega), .inl rfl, ?_, ?_⟩
  · dsimp only; rw [show X.R06_least 53 = 0 from rfl, show X.R06_greatest 53 = 15 from rfl]; first | omega | (unfold sgn; split <;> omega)
  · simp [X.inst_form_allowed, alw]
theorem g49 : Good ⟨176, 4, 54, 12, false⟩ (mk ⟨176, 4, 54, 12, false⟩ false w) := by
  have e : mk ⟨176, 4, 54, 12, false⟩ false w = ⟨54, false, (⟨0, 0, 0⟩ : M.Operand), (⟨0, 0, 0⟩ : M.Operand), 0, w % 16⟩ := by unfold mk; rw [F12]
  rw [e]
  refine ⟨(by dsimp only; omega), (fun h => by cases h), .inr ⟨rfl, rfl⟩, .inr ⟨rfl, rfl⟩, (by dsimp only; omega), .inl rfl, ?_, ?_⟩
  · dsimp only; rw [show X.R06_least 54 = 0 from rfl, show X.R06_greatest 54 = 15 from rfl]; first | omega | (unfold sgn; split <;> omega)
  · simp [X.inst_form_allowed, alw]
theorem g50 : Good ⟨0, 0, 50, 0, false⟩ (mk ⟨0, 0, 50, 0, false⟩ false w) := by
  have e : mk ⟨0, 0, 50, 0, false⟩ false w = ⟨50, false, (⟨0, 0, 0⟩ : M.Operand), (⟨0, 0, 0⟩ : M.Operand), 0, 0⟩ := by unfold mk; rw [F0]
  rw [e]
  refine ⟨(by dsimp only; omega), (fun h => by cases h), .inr ⟨rfl, rfl⟩, .inr ⟨rfl, rfl⟩, (by dsimp only; omega), .inl rfl, ?_, ?_⟩
  · dsimp only; rw [show X.R06_least 50 = 0 from rfl, show X.R06_greatest 50 = 0 from rfl]; first | omega | (unfold sgn; split <;> omega)
  · simp [X.inst_form_allowed, alw]
theorem g51 : Good ⟨1, 0, 51, 0, false⟩ (mk ⟨1, 0, 51, 0, false⟩ false w) := by
  have e : mk ⟨1, 0, 51, 0, false⟩ false w = ⟨51, false, (⟨0, 0, 0⟩ : M.Operand), (⟨0, 0, 0⟩ : M.Operand), 0, 0⟩ := by unfold mk; rw [F0]
  rw [e]
  refine ⟨(by dsimp only; omega), (fun h => by cases h), .inr ⟨rfl, rfl⟩, .inr ⟨rfl, rfl⟩, (by dsimp only; omega), .inl rfl, ?_, ?_⟩
  · dsimp only; rw [show X.R06_least 51 = 0 from rfl, show X.R06_greatest 51 = 0 from rfl]; first | omega | (unfold sgn; split <;> omega)
  · simp [X.inst_form_allowed, alw]
theorem g52 : Good ⟨2, 0, 49, 0, false⟩ (mk ⟨2, 0, 49, 0, false⟩ false w) := by
  have e : mk ⟨2, 0, 49, 0, false⟩ false w = ⟨49, false, (⟨0, 0, 0⟩ : M.Operand), (⟨0, 0, 0⟩ : M.Operand), 0, 0⟩ := by unfold mk; rw [F0]
  rw [e]
  refine ⟨(by dsimp only; omega), (fun h => by cases h), .inr ⟨rfl, rfl⟩, .inr ⟨rfl, rfl⟩, (by dsimp only; omega), .inl rfl, ?_, ?_⟩
  · dsimp only; rw [show X.R06_least 49 = 0 from rfl, show X.R06_greatest 49 = 0 from rfl]; first | omega | (unfold sgn; split <;> omega)
  · simp [X.inst_form_allowed, alw]
theorem g53 : Good ⟨3, 0, 47, 0, false⟩ (mk ⟨3, 0, 47, 0, false⟩ false w) := by
  have e : mk ⟨3, 0, 47, 0, false⟩ false w = ⟨47, false, (⟨0, 0, 0⟩ : M.Operand), (⟨0, 0, 0⟩ : M.Operand), 0, 0⟩ := by unfold mk; rw [F0]
  rw [e]
  refine ⟨(by dsimp only; omega), (fun h => by cases h), .inr ⟨rfl, rfl⟩, .inr ⟨rfl, rfl⟩, (by dsimp only; omega), .inl rfl, ?_, ?_⟩
  · dsimp only; rw [show X.R06_least 47 = 0 from rfl, show X.R06_greatest 47 = 0 from rfl]; first | omega | (unfold sgn; split <;> omega)
  · simp [X.inst_form_allowed, alw]
theorem g54 : Good ⟨4, 0, 48, 0, false⟩ (mk ⟨4, 0, 48, 0, false⟩ false w) := by
  have e : mk ⟨4, 0, 48, 0, false⟩ false w = ⟨48, false, (⟨0, 0, 0⟩ : M.Operand), (⟨0, 0, 0⟩ : M.Operand), 0, 0⟩ := by unfold mk; rw [F0]
  rw [e]
  refine ⟨(by dsimp only; omega), (fun h => by cases h), .inr ⟨rfl, rfl⟩, .inr ⟨rfl, rfl⟩, (by dsimp only; omega), .inl rfl, ?_, ?_⟩
  · dsimp only; rw [show X.R06_least 48 = 0 from rfl, show X.R06_greatest 48 = 0 from rfl]; first | omega | (unfold sgn; split <;> omega)
  · simp [X.inst_form_allowed, alw]
theorem g55 : Good ⟨5, 0, 52, 0, false⟩ (mk ⟨5, 0, 52, 0, false⟩ false w) := by
  have e : mk ⟨5, 0, 52, 0, false⟩ false w = ⟨52, false, (⟨0, 0, 0⟩ : M.Operand), (⟨0, 0, 0⟩ : M.Operand), 0, 0⟩ := by unfold mk; rw [F0]
  rw [e]
  refine ⟨(by dsimp only; omega), (fun h => by cases h), .inr ⟨rfl, rfl⟩, .inr ⟨rfl, rfl⟩, (by dsimp only; omega), .inl rfl, ?_, ?_⟩
  · dsimp only; rw [show X.R06_least 52 = 0 from rfl, show X.R06_greatest 52 = 0 from rfl]; first | omega | (unfold sgn; split <;> omega)
  · simp [X.inst_form_allowed, alw]
def G (w : Int) (f : M.Inst_form) : Prop := ∀ b, (b = true → f.bytes = true) → Good f (mk f b w)
theorem g_all : ∀ f ∈ forms, G w f := by
  unfold forms
  exact List.forall_mem_cons.2 ⟨(fun b _ => g0), List.forall_mem_cons.2 ⟨(fun b _ => g1), List.forall_mem_cons.2 ⟨(fun b _ => g2), List.forall_mem_cons.2 ⟨(fun b _ => g3), List.forall_mem_cons.2 ⟨(fun b _ => g4), List.forall_mem_cons.2 ⟨(fun b hb => by cases b with | false => exact g5 | true => cases hb rfl), List.forall_mem_cons.2 ⟨(fun b hb => by cases b with | false => exact g6 | true => cases hb rfl), List.forall_mem_cons.2 ⟨(fun b hb => by cases b with | false => exact g7 | true => cases hb rfl), List.forall_mem_cons.2 ⟨(fun b hb => by cases b with | false => exact g8 | true => cases hb rfl), List.forall_mem_cons.2 ⟨(fun b hb => by cases b with | false => exact g9 | true => cases hb rfl), List.forall_mem_cons.2 ⟨(fun b hb => by cases b with | false => exact g10 | true => cases hb rfl), List.forall_mem_cons.2 ⟨(fun b _ => g11), List.forall_mem_cons.2 ⟨(fun b _ => g12), List.forall_mem_cons.2 ⟨(fun b _ => g13), List.forall_mem_cons.2 ⟨(fun b _ => g14), List.forall_mem_cons.2 ⟨(fun b _ => g15), List.forall_mem_cons.2 ⟨(fun b _ => g16), List.forall_mem_cons.2 ⟨(fun b _ => g17), List.forall_mem_cons.2 ⟨(fun b _ => g18), List.forall_mem_cons.2 ⟨(fun b _ => g19), List.forall_mem_cons.2 ⟨(fun b _ => g20), List.forall_mem_cons.2 ⟨(fun b _ => g21), List.forall_mem_cons.2 ⟨(fun b _ => g22), List.forall_mem_cons.2 ⟨(fun b hb => by cases b with | false => exact g23 | true => cases hb rfl), List.forall_mem_cons.2 ⟨(fun b hb => by cases b with | false => exact g24 | true => cases hb rfl), List.forall_mem_cons.2 ⟨(fun b hb => by cases b with | false => exact g25 | true => cases hb rfl), List.forall_mem_cons.2 ⟨(fun b hb => by cases b with | false => exact g26 | true => cases hb rfl), List.forall_mem_cons.2 ⟨(fun b hb => by cases b with | false => exact g27 | true => cases hb rfl), List.forall_mem_cons.2 ⟨(fun b hb => by cases b with | false => exact g28 | true => cases hb rfl), List.forall_mem_cons.2 ⟨(fun b hb => by cases b with | false => exact g29 | true => cases hb rfl), List.forall_mem_cons.2 ⟨(fun b hb => by cases b with | false => exact g30 | true => cases hb rfl), List.forall_mem_cons.2 ⟨(fun b hb => by cases b with | false => exact g31 | true => cases hb rfl), List.forall_mem_cons.2 ⟨(fun b hb => by cases b with | false => exact g32 | true => cases hb rfl), List.forall_mem_cons.2 ⟨(fun b hb => by cases b with | false => exact g33 | true => cases hb rfl), List.forall_mem_cons.2 ⟨(fun b hb => by cases b with | false => exact g34 | true => cases hb rfl), List.forall_mem_cons.2 ⟨(fun b hb => by cases b with | false => exact g35 | true => cases hb rfl), List.forall_mem_cons.2 ⟨(fun b hb => by cases b with | false => exact g36 | true => cases hb rfl), List.forall_mem_cons.2 ⟨(fun b hb => by cases b with | false => exact g37 | true => cases hb rfl), List.forall_mem_cons.2 ⟨(fun b hb => by cases b with | false => exact g38 | true => cases hb rfl), List.forall_mem_cons.2 ⟨(fun b hb => by cases b with | false => exact g39 | true => cases hb rfl), List.forall_mem_cons.2 ⟨(fun b hb => by cases b with | false => exact g40 | true => cases hb rfl), List.forall_mem_cons.2 ⟨(fun b hb => by cases b with | false => exact g41 | true => cases hb rfl), List.forall_mem_cons.2 ⟨(fun b hb => by cases b with | false => exact g42 | true => cases hb rfl), List.forall_mem_cons.2 ⟨(fun b hb => by cases b with | false => exact g43 | true => cases hb rfl), List.forall_mem_cons.2 ⟨(fun b hb => by cases b with | false => exact g44 | true => cases hb rfl), List.forall_mem_cons.2 ⟨(fun b hb => by cases b with | false => exact g45 | true => cases hb rfl), List.forall_mem_cons.2 ⟨(fun b hb => by cases b with | false => exact g46 | true => cases hb rfl), List.forall_mem_cons.2 ⟨(fun b hb => by cases b with | false => exact g47 | true => cases hb rfl), List.forall_mem_cons.2 ⟨(fun b hb => by cases b with | false => exact g48 | true => cases hb rfl), List.forall_mem_cons.2 ⟨(fun b hb => by cases b with | false => exact g49 | true => cases hb rfl), List.forall_mem_cons.2 ⟨(fun b hb => by cases b with | false => exact g50 | true => cases hb rfl), List.forall_mem_cons.2 ⟨(fun b hb => by cases b with | false => exact g51 | true => cases hb rfl), List.forall_mem_cons.2 ⟨(fun b hb => by cases b with | false => exact g52 | true => cases hb rfl), List.forall_mem_cons.2 ⟨(fun b hb => by cases b with | false => exact g53 | true => cases hb rfl), List.forall_mem_cons.2 ⟨(fun b hb => by cases b with | false => exact g54 | true => cases hb rfl), List.forall_mem_cons.2 ⟨(fun b hb => by cases b with | false => exact g55 | true => cases hb rfl), fun _ h => absurd h List.not_mem_nil⟩⟩⟩⟩⟩⟩⟩⟩⟩⟩⟩⟩⟩⟩⟩⟩⟩⟩⟩⟩⟩⟩⟩⟩⟩⟩⟩⟩⟩⟩⟩⟩⟩⟩⟩⟩⟩⟩⟩⟩⟩⟩⟩⟩⟩⟩⟩⟩⟩⟩⟩⟩⟩⟩⟩⟩
theorem good_of {f : M.Inst_form} {b : Bool} (h : search w forms = some (f, b)) : Good f (mk f b w) := by
  obtain ⟨hm, hc⟩ := search_some h
  refine g_all f hm b fun hb => ?_
  rcases hc with ⟨rfl, _⟩ | ⟨_, hb, _⟩
  · cases hb
  · exact hb
end
end PL
end Go.Proofs.Ytnonimnhninafaa.Ab
