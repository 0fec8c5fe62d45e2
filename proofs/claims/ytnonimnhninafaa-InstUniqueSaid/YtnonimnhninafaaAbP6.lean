/- Decode agrees with the reference. -/
import Derived.Test.YtnonimnhninafaaAbP5
namespace Go.Proofs.Ytnonimnhninafaa.Ab
open Go
namespace PL
set_option maxRecDepth 100000

theorem isw_eq (w : Int) : (bitOf BinOp.and IntKind.i64 w (65535 : Int) != w) = !(X.R06_Isword w) := by
  rw [mask16]
  unfold X.R06_Isword
  by_cases h : 0 ≤ w ∧ w < 65536
  · have e : w % 65536 = w := by omega
    rw [e]
    simp [h.1, h.2]
  · have e : (w % 65536 != w) = true := by simp; omega
    rw [e]
    by_cases h0 : 0 ≤ w
    · have : ¬ w < 65536 := fun h1 => h ⟨h0, h1⟩
      simp [h0, this]
    · simp [h0]
theorem isw_iff {w : Int} (h : X.R06_Isword w = true) : 0 ≤ w ∧ w < 65536 := by
  unfold X.R06_Isword at h
  by_cases h0 : w ≥ 0
  · simp only [h0, decide_true, cond_true, decide_eq_true_eq] at h; exact ⟨h0, h⟩
  · simp [h0] at h

theorem ex_self {h : Bool} {o : M.Operand} (g : h = true ∧ opd o ∨ h = false ∧ o = ⟨0, 0, 0⟩) : Ex o o := by
  rcases g with ⟨_, _, _, _, _, h⟩ | ⟨_, rfl⟩
  · exact ⟨rfl, rfl, by omega, by omega, .inl h⟩
  · exact ⟨rfl, rfl, by decide, by decide, .inl rfl⟩
theorem ex_new {o : M.Operand} {x : Int} (h : X.R05_Extended o = true) (hx : X.R06_Isword x = true) : Ex o ⟨o.Mode, o.Reg, x⟩ := by
  obtain ⟨h0, h1⟩ := isw_iff hx
  exact ⟨rfl, rfl, h0, by show x ≤ 65535; omega, .inr h⟩
theorem part_ext {h : Bool} {o : M.Operand} (g : h = true ∧ opd o ∨ h = false ∧ o = ⟨0, 0, 0⟩) : (bif h then X.R05_Extended o else false) = X.R05_Extended o := by
  rcases g with ⟨rfl, _⟩ | ⟨rfl, rfl⟩ <;> rfl

theorem decode_eq (a : List Int) : ∃ r, X.inst_Decode a = some r ∧ X.R06_Decode a = some r := by
  cases a with
  | nil => exact ⟨_, rfl, rfl⟩
  | cons w l =>
    unfold X.inst_Decode X.R06_Decode
    generalize h0 : List.getD (w :: l) (0 : Nat) (dflt (Ty.int IntKind.i64)) = w'
    obtain rfl : w = w' := h0
    rw [show IntKind.wrap IntKind.i64 ((1 : Int) + (1 : Int)) = 2 from rfl]
    generalize List.getD (w :: l) (1 : Nat) (dflt (Ty.int IntKind.i64)) = x
    generalize List.getD (w :: l) (Int.toNat 2) (dflt (Ty.int IntKind.i64)) = y
    have hn : 1 ≤ (Nat.cast (List.length (w :: l)) : Int) := by rw [List.length_cons]; omega
    generalize (Nat.cast (List.length (w :: l)) : Int) = n at hn ⊢
    have e0 : (n == (0 : Int)) = false := by simp; omega
    have e1 : decide ((0 : Int) < n) = true := by simp; omega
    have e2 : decide ((0 : Int) ≤ (0 : Int)) = true := by decide
    have e3 : decide ((0 : Int) ≤ (1 : Int)) = true := by decide
    have e4 : decide ((0 : Int) ≤ (2 : Int)) = true := by decide
    simp only [e0, e1, e2, e3, e4, isw_eq, cond_false, cond_true, Bool.and_self, Bool.true_and]
    have g1 : decide ((1 : Int) ≥ n) = !decide ((1 : Int) < n) := by rw [← decide_not]; exact decide_eq_decide.2 (by omega)
    have g2 : decide ((2 : Int) ≥ n) = !decide ((2 : Int) < n) := by rw [← decide_not]; exact decide_eq_decide.2 (by omega)
    simp only [g1, g2]
    generalize decide ((1 : Int) < n) = n1
    generalize decide ((2 : Int) < n) = n2
    cases hw : X.R06_Isword w with
    | false => exact ⟨_, rfl, rfl⟩
    | true =>
      obtain ⟨w0, w1⟩ := isw_iff hw
      rw [formOf_eq w]
      cases hs : search w forms with
      | none =>
        rw [shape_none w0 w1 hs]
        exact ⟨_, rfl, rfl⟩
      | some p =>
        obtain ⟨f, b⟩ := p
        rw [shape_hit w0 w1 hs]
        have g := good_of (w := w) hs
        generalize hi : mk f b w = i at g ⊢
        have f1 : (X.inst_form_fields f w).Op = i.Op := by rw [← hi]; rfl
        have f2 : (X.inst_form_fields f w).Src = i.Src := by rw [← hi]; rfl
        have f3 : (X.inst_form_fields f w).Dst = i.Dst := by rw [← hi]; rfl
        have f4 : (X.inst_form_fields f w).Reg = i.Reg := by rw [← hi]; rfl
        have f5 : (X.inst_form_fields f w).Num = i.Num := by rw [← hi]; rfl
        have fb : b = i.Byte := by rw [← hi]; rfl
        have al : X.inst_form_allowed f ⟨i.Op, i.Byte, i.Src, i.Dst, i.Reg, i.Num⟩ = alw i := g.al
        have v00 : X.R06_Valid i = alw i := valid_good g (ex_self g.src) (ex_self g.dst)
        simp only [f1, f2, f3, f4, f5, fb, al, ext_eq, Bool.not_true, cond_false, part_ext g.src, part_ext g.dst]
        cases hS : X.R05_Extended i.Src with
        | false =>
          cases hD : X.R05_Extended i.Dst with
          | false =>
            rw [v00]
            cases alw i <;> exact ⟨_, rfl, rfl⟩
          | true =>
            cases hx : X.R06_Isword x with
            | false => cases alw i <;> cases n1 <;> exact ⟨_, rfl, rfl⟩
            | true =>
              have v : X.R06_Valid ⟨i.Op, i.Byte, i.Src, ⟨i.Dst.Mode, i.Dst.Reg, x⟩, i.Reg, i.Num⟩ = alw i := valid_good g (ex_self g.src) (ex_new hD hx)
              rw [v]
              cases alw i <;> cases n1 <;> exact ⟨_, rfl, rfl⟩
        | true =>
          cases hx : X.R06_Isword x with
          | false => cases alw i <;> cases n1 <;> exact ⟨_, rfl, rfl⟩
          | true =>
            cases hD : X.R05_Extended i.Dst with
            | false =>
              have v : X.R06_Valid ⟨i.Op, i.Byte, ⟨i.Src.Mode, i.Src.Reg, x⟩, i.Dst, i.Reg, i.Num⟩ = alw i := valid_good g (ex_new hS hx) (ex_self g.dst)
              rw [v]
              cases alw i <;> cases n1 <;> exact ⟨_, rfl, rfl⟩
            | true =>
              cases hy : X.R06_Isword y with
              | false => cases alw i <;> cases n1 <;> cases n2 <;> exact ⟨_, rfl, rfl⟩
              | true =>
                have v : X.R06_Valid ⟨i.Op, i.Byte, ⟨i.Src.Mode, i.Src.Reg, x⟩, ⟨i.Dst.Mode, i.Dst.Reg, y⟩, i.Reg, i.Num⟩ = alw i := valid_good g (ex_new hS hx) (ex_new hD hy)
                rw [v]
                cases alw i <;> cases n1 <;> cases n2 <;> exact ⟨_, rfl, rfl⟩
end PL
end Go.Proofs.Ytnonimnhninafaa.Ab
