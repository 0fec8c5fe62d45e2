/- A word's form and the reference's shape of it; printed by a program of the session. -/
import Derived.Test.YtnonimnhninafaaAbP2
namespace Go.Proofs.Ytnonimnhninafaa.Ab
open Go
set_option linter.unusedVariables false
set_option linter.unusedSimpArgs false
namespace PL
set_option maxRecDepth 100000

theorem hit0 {w a o s : Int} {y : Bool} (h0 : 0 ≤ w) (h1 : w < 65536) : hit ⟨a, 0, o, s, y⟩ w = w / 1 * 1 := by
  unfold hit
  rw [show ((2 : Int) ^ (Min.min (Int.toNat 0) (IntKind.bits IntKind.i64))) = 1 from rfl, Int.fdiv_eq_ediv_of_nonneg _ (by decide), wrap64 (by omega) (by omega)]
theorem hit3 {w a o s : Int} {y : Bool} (h0 : 0 ≤ w) (h1 : w < 65536) : hit ⟨a, 3, o, s, y⟩ w = w / 8 * 8 := by
  unfold hit
  rw [show ((2 : Int) ^ (Min.min (Int.toNat 3) (IntKind.bits IntKind.i64))) = 8 from rfl, Int.fdiv_eq_ediv_of_nonneg _ (by decide), wrap64 (by omega) (by omega)]
theorem hit4 {w a o s : Int} {y : Bool} (h0 : 0 ≤ w) (h1 : w < 65536) : hit ⟨a, 4, o, s, y⟩ w = w / 16 * 16 := by
  unfold hit
  rw [show ((2 : Int) ^ (Min.min (Int.toNat 4) (IntKind.bits IntKind.i64))) = 16 from rfl, Int.fdiv_eq_ediv_of_nonneg _ (by decide), wrap64 (by omega) (by omega)]
theorem hit6 {w a o s : Int} {y : Bool} (h0 : 0 ≤ w) (h1 : w < 65536) : hit ⟨a, 6, o, s, y⟩ w = w / 64 * 64 := by
  unfold hit
  rw [show ((2 : Int) ^ (Min.min (Int.toNat 6) (IntKind.bits IntKind.i64))) = 64 from rfl, Int.fdiv_eq_ediv_of_nonneg _ (by decide), wrap64 (by omega) (by omega)]
theorem hit8 {w a o s : Int} {y : Bool} (h0 : 0 ≤ w) (h1 : w < 65536) : hit ⟨a, 8, o, s, y⟩ w = w / 256 * 256 := by
  unfold hit
  rw [show ((2 : Int) ^ (Min.min (Int.toNat 8) (IntKind.bits IntKind.i64))) = 256 from rfl, Int.fdiv_eq_ediv_of_nonneg _ (by decide), wrap64 (by omega) (by omega)]
theorem hit9 {w a o s : Int} {y : Bool} (h0 : 0 ≤ w) (h1 : w < 65536) : hit ⟨a, 9, o, s, y⟩ w = w / 512 * 512 := by
  unfold hit
  rw [show ((2 : Int) ^ (Min.min (Int.toNat 9) (IntKind.bits IntKind.i64))) = 512 from rfl, Int.fdiv_eq_ediv_of_nonneg _ (by decide), wrap64 (by omega) (by omega)]
theorem hit12 {w a o s : Int} {y : Bool} (h0 : 0 ≤ w) (h1 : w < 65536) : hit ⟨a, 12, o, s, y⟩ w = w / 4096 * 4096 := by
  unfold hit
  rw [show ((2 : Int) ^ (Min.min (Int.toNat 12) (IntKind.bits IntKind.i64))) = 4096 from rfl, Int.fdiv_eq_ediv_of_nonneg _ (by decide), wrap64 (by omega) (by omega)]
theorem or2560 : bitOf BinOp.or IntKind.i64 2560 32768 = 35328 := by kernel_rfl
theorem or2624 : bitOf BinOp.or IntKind.i64 2624 32768 = 35392 := by kernel_rfl
theorem or2688 : bitOf BinOp.or IntKind.i64 2688 32768 = 35456 := by kernel_rfl
theorem or2752 : bitOf BinOp.or IntKind.i64 2752 32768 = 35520 := by kernel_rfl
theorem or2816 : bitOf BinOp.or IntKind.i64 2816 32768 = 35584 := by kernel_rfl
theorem or2880 : bitOf BinOp.or IntKind.i64 2880 32768 = 35648 := by kernel_rfl
theorem or2944 : bitOf BinOp.or IntKind.i64 2944 32768 = 35712 := by kernel_rfl
theorem or3008 : bitOf BinOp.or IntKind.i64 3008 32768 = 35776 := by kernel_rfl
theorem or3072 : bitOf BinOp.or IntKind.i64 3072 32768 = 35840 := by kernel_rfl
theorem or3136 : bitOf BinOp.or IntKind.i64 3136 32768 = 35904 := by kernel_rfl
theorem or3200 : bitOf BinOp.or IntKind.i64 3200 32768 = 35968 := by kernel_rfl
theorem or3264 : bitOf BinOp.or IntKind.i64 3264 32768 = 36032 := by kernel_rfl
theorem or4096 : bitOf BinOp.or IntKind.i64 4096 32768 = 36864 := by kernel_rfl
theorem or8192 : bitOf BinOp.or IntKind.i64 8192 32768 = 40960 := by kernel_rfl
theorem or12288 : bitOf BinOp.or IntKind.i64 12288 32768 = 45056 := by kernel_rfl
theorem or16384 : bitOf BinOp.or IntKind.i64 16384 32768 = 49152 := by kernel_rfl
theorem or20480 : bitOf BinOp.or IntKind.i64 20480 32768 = 53248 := by kernel_rfl
theorem i8 (w : Int) : IntKind.wrap IntKind.i64 (IntKind.wrap IntKind.i8 w) = sgn (w % 256) := by
  have h : IntKind.wrap IntKind.i8 w = sgn (w % 256) := by
    unfold sgn
    simp only [IntKind.wrap, IntKind.bits, IntKind.signed, Bool.true_and]
    split <;> split <;> simp_all <;> omega
  rw [h]
  refine wrap64 ?_ ?_ <;> (unfold sgn; split <;> omega)
def mk (f : M.Inst_form) (b : Bool) (w : Int) : M.Inst := ⟨(X.inst_form_fields f w).Op, b, (X.inst_form_fields f w).Src, (X.inst_form_fields f w).Dst, (X.inst_form_fields f w).Reg, (X.inst_form_fields f w).Num⟩
theorem F0 {f n o w : Int} {y : Bool} : X.inst_form_fields ⟨f, n, o, 0, y⟩ w = (⟨o, false, (⟨0, 0, 0⟩ : M.Operand), (⟨0, 0, 0⟩ : M.Operand), 0, 0⟩ : M.Inst) := by
  simp only [X.inst_form_fields, Int.reduceBEq, cond_true, cond_false, from_, fd6, mask3, mask4, mask6, mask8, i8]
theorem F1 {f n o w : Int} {y : Bool} : X.inst_form_fields ⟨f, n, o, 1, y⟩ w = (⟨o, false, frm (w / 64), frm w, 0, 0⟩ : M.Inst) := by
  simp only [X.inst_form_fields, Int.reduceBEq, cond_true, cond_false, from_, fd6, mask3, mask4, mask6, mask8, i8]
theorem F2 {f n o w : Int} {y : Bool} : X.inst_form_fields ⟨f, n, o, 2, y⟩ w = (⟨o, false, frm w, (⟨0, 0, 0⟩ : M.Operand), 0, 0⟩ : M.Inst) := by
  simp only [X.inst_form_fields, Int.reduceBEq, cond_true, cond_false, from_, fd6, mask3, mask4, mask6, mask8, i8]
theorem F3 {f n o w : Int} {y : Bool} : X.inst_form_fields ⟨f, n, o, 3, y⟩ w = (⟨o, false, (⟨0, 0, 0⟩ : M.Operand), frm w, 0, 0⟩ : M.Inst) := by
  simp only [X.inst_form_fields, Int.reduceBEq, cond_true, cond_false, from_, fd6, mask3, mask4, mask6, mask8, i8]
theorem F4 {f n o w : Int} {y : Bool} : X.inst_form_fields ⟨f, n, o, 4, y⟩ w = (⟨o, false, (⟨0, 0, 0⟩ : M.Operand), frm w, 0, 0⟩ : M.Inst) := by
  simp only [X.inst_form_fields, Int.reduceBEq, cond_true, cond_false, from_, fd6, mask3, mask4, mask6, mask8, i8]
theorem F5 {f n o w : Int} {y : Bool} : X.inst_form_fields ⟨f, n, o, 5, y⟩ w = (⟨o, false, frm w, (⟨0, 0, 0⟩ : M.Operand), w / 64 % 8, 0⟩ : M.Inst) := by
  simp only [X.inst_form_fields, Int.reduceBEq, cond_true, cond_false, from_, fd6, mask3, mask4, mask6, mask8, i8]
theorem F6 {f n o w : Int} {y : Bool} : X.inst_form_fields ⟨f, n, o, 6, y⟩ w = (⟨o, false, (⟨0, 0, 0⟩ : M.Operand), frm w, w / 64 % 8, 0⟩ : M.Inst) := by
  simp only [X.inst_form_fields, Int.reduceBEq, cond_true, cond_false, from_, fd6, mask3, mask4, mask6, mask8, i8]
theorem F7 {f n o w : Int} {y : Bool} : X.inst_form_fields ⟨f, n, o, 7, y⟩ w = (⟨o, false, (⟨0, 0, 0⟩ : M.Operand), frm w, w / 64 % 8, 0⟩ : M.Inst) := by
  simp only [X.inst_form_fields, Int.reduceBEq, cond_true, cond_false, from_, fd6, mask3, mask4, mask6, mask8, i8]
theorem F8 {f n o w : Int} {y : Bool} : X.inst_form_fields ⟨f, n, o, 8, y⟩ w = (⟨o, false, (⟨0, 0, 0⟩ : M.Operand), (⟨0, 0, 0⟩ : M.Operand), w % 8, 0⟩ : M.Inst) := by
  simp only [X.inst_form_fields, Int.reduceBEq, cond_true, cond_false, from_, fd6, mask3, mask4, mask6, mask8, i8]
theorem F9 {f n o w : Int} {y : Bool} : X.inst_form_fields ⟨f, n, o, 9, y⟩ w = (⟨o, false, (⟨0, 0, 0⟩ : M.Operand), (⟨0, 0, 0⟩ : M.Operand), 0, sgn (w % 256)⟩ : M.Inst) := by
  simp only [X.inst_form_fields, Int.reduceBEq, cond_true, cond_false, from_, fd6, mask3, mask4, mask6, mask8, i8]
theorem F10 {f n o w : Int} {y : Bool} : X.inst_form_fields ⟨f, n, o, 10, y⟩ w = (⟨o, false, (⟨0, 0, 0⟩ : M.Operand), (⟨0, 0, 0⟩ : M.Operand), w / 64 % 8, w % 64⟩ : M.Inst) := by
  simp only [X.inst_form_fields, Int.reduceBEq, cond_true, cond_false, from_, fd6, mask3, mask4, mask6, mask8, i8]
theorem F11 {f n o w : Int} {y : Bool} : X.inst_form_fields ⟨f, n, o, 11, y⟩ w = (⟨o, false, (⟨0, 0, 0⟩ : M.Operand), (⟨0, 0, 0⟩ : M.Operand), 0, w % 256⟩ : M.Inst) := by
  simp only [X.inst_form_fields, Int.reduceBEq, cond_true, cond_false, from_, fd6, mask3, mask4, mask6, mask8, i8]
theorem F12 {f n o w : Int} {y : Bool} : X.inst_form_fields ⟨f, n, o, 12, y⟩ w = (⟨o, false, (⟨0, 0, 0⟩ : M.Operand), (⟨0, 0, 0⟩ : M.Operand), 0, w % 16⟩ : M.Inst) := by
  simp only [X.inst_form_fields, Int.reduceBEq, cond_true, cond_false, from_, fd6, mask3, mask4, mask6, mask8, i8]
def Q (w : Int) (f : M.Inst_form) : Prop := (hit f w = f.first → shp w = mk f false w) ∧ (f.bytes = true → hit f w = bitOf BinOp.or IntKind.i64 f.first 32768 → shp w = mk f true w)
section
variable {w : Int} (h0 : 0 ≤ w) (h1 : w < 65536)
include h0 h1
theorem q0 : Q w ⟨4096, 12, 1, 1, true⟩ :=
  ⟨fun h => by
    have h' := (hit12 h0 h1).symm.trans h
    unfold mk; rw [F1]; exact s0 h', fun _ h => by
    have h' := (hit12 h0 h1).symm.trans (h.trans or4096)
    unfold mk; rw [F1]; exact s0w h'⟩
theorem q1 : Q w ⟨8192, 12, 2, 1, true⟩ :=
  ⟨fun h => by
    have h' := (hit12 h0 h1).symm.trans h
    unfold mk; rw [F1]; exact s1 h', fun _ h => by
    have h' := (hit12 h0 h1).symm.trans (h.trans or8192)
    unfold mk; rw [F1]; exact s1w h'⟩
theorem q2 : Q w ⟨12288, 12, 3, 1, true⟩ :=
  ⟨fun h => by
    have h' := (hit12 h0 h1).symm.trans h
    unfold mk; rw [F1]; exact s2 h', fun _ h => by
    have h' := (hit12 h0 h1).symm.trans (h.trans or12288)
    unfold mk; rw [F1]; exact s2w h'⟩
theorem q3 : Q w ⟨16384, 12, 4, 1, true⟩ :=
  ⟨fun h => by
    have h' := (hit12 h0 h1).symm.trans h
    unfold mk; rw [F1]; exact s3 h', fun _ h => by
    have h' := (hit12 h0 h1).symm.trans (h.trans or16384)
    unfold mk; rw [F1]; exact s3w h'⟩
theorem q4 : Q w ⟨20480, 12, 5, 1, true⟩ :=
  ⟨fun h => by
    have h' := (hit12 h0 h1).symm.trans h
    unfold mk; rw [F1]; exact s4 h', fun _ h => by
    have h' := (hit12 h0 h1).symm.trans (h.trans or20480)
    unfold mk; rw [F1]; exact s4w h'⟩
theorem q5 : Q w ⟨24576, 12, 6, 1, false⟩ :=
  ⟨fun h => by
    have h' := (hit12 h0 h1).symm.trans h
    unfold mk; rw [F1]; exact s5 h', fun hb => by cases hb⟩
theorem q6 : Q w ⟨57344, 12, 7, 1, false⟩ :=
  ⟨fun h => by
    have h' := (hit12 h0 h1).symm.trans h
    unfold mk; rw [F1]; exact s6 h', fun hb => by cases hb⟩
theorem q7 : Q w ⟨28672, 9, 8, 5, false⟩ :=
  ⟨fun h => by
    have h' := (hit9 h0 h1).symm.trans h
    unfold mk; rw [F5]; exact s7 h', fun hb => by cases hb⟩
theorem q8 : Q w ⟨29184, 9, 9, 5, false⟩ :=
  ⟨fun h => by
    have h' := (hit9 h0 h1).symm.trans h
    unfold mk; rw [F5]; exact s8 h', fun hb => by cases hb⟩
theorem q9 : Q w ⟨29696, 9, 10, 5, false⟩ :=
  ⟨fun h => by
    have h' := (hit9 h0 h1).symm.trans h
    unfold mk; rw [F5]; exact s9 h', fun hb => by cases hb⟩
theorem q10 : Q w ⟨30720, 9, 11, 6, false⟩ :=
  ⟨fun h => by
    have h' := (hit9 h0 h1).symm.trans h
    unfold mk; rw [F6]; exact s10 h', fun hb => by cases hb⟩
theorem q11 : Q w ⟨2560, 6, 12, 3, true⟩ :=
  ⟨fun h => by
    have h' := (hit6 h0 h1).symm.trans h
    unfold mk; rw [F3]; exact s11 h', fun _ h => by
    have h' := (hit6 h0 h1).symm.trans (h.trans or2560)
    unfold mk; rw [F3]; exact s11w h'⟩
theorem q12 : Q w ⟨2624, 6, 13, 3, true⟩ :=
  ⟨fun h => by
    have h' := (hit6 h0 h1).symm.trans h
    unfold mk; rw [F3]; exact s12 h', fun _ h => by
    have h' := (hit6 h0 h1).symm.trans (h.trans or2624)
    unfold mk; rw [F3]; exact s12w h'⟩
theorem q13 : Q w ⟨2688, 6, 14, 3, true⟩ :=
  ⟨fun h => by
    have h' := (hit6 h0 h1).symm.trans h
    unfold mk; rw [F3]; exact s13 h', fun _ h => by
    have h' := (hit6 h0 h1).symm.trans (h.trans or2688)
    unfold mk; rw [F3]; exact s13w h'⟩
theorem q14 : Q w ⟨2752, 6, 15, 3, true⟩ :=
  ⟨fun h => by
    have h' := (hit6 h0 h1).symm.trans h
    unfold mk; rw [F3]; exact s14 h', fun _ h => by
    have h' := (hit6 h0 h1).symm.trans (h.trans or2752)
    unfold mk; rw [F3]; exact s14w h'⟩
theorem q15 : Q w ⟨2816, 6, 16, 3, true⟩ :=
  ⟨fun h => by
    have h' := (hit6 h0 h1).symm.trans h
    unfold mk; rw [F3]; exact s15 h', fun _ h => by
    have h' := (hit6 h0 h1).symm.trans (h.trans or2816)
    unfold mk; rw [F3]; exact s15w h'⟩
theorem q16 : Q w ⟨2880, 6, 17, 3, true⟩ :=
  ⟨fun h => by
    have h' := (hit6 h0 h1).symm.trans h
    unfold mk; rw [F3]; exact s16 h', fun _ h => by
    have h' := (hit6 h0 h1).symm.trans (h.trans or2880)
    unfold mk; rw [F3]; exact s16w h'⟩
theorem q17 : Q w ⟨2944, 6, 18, 3, true⟩ :=
  ⟨fun h => by
    have h' := (hit6 h0 h1).symm.trans h
    unfold mk; rw [F3]; exact s17 h', fun _ h => by
    have h' := (hit6 h0 h1).symm.trans (h.trans or2944)
    unfold mk; rw [F3]; exact s17w h'⟩
theorem q18 : Q w ⟨3008, 6, 19, 3, true⟩ :=
  ⟨fun h => by
    have h' := (hit6 h0 h1).symm.trans h
    unfold mk; rw [F3]; exact s18 h', fun _ h => by
    have h' := (hit6 h0 h1).symm.trans (h.trans or3008)
    unfold mk; rw [F3]; exact s18w h'⟩
theorem q19 : Q w ⟨3072, 6, 20, 3, true⟩ :=
  ⟨fun h => by
    have h' := (hit6 h0 h1).symm.trans h
    unfold mk; rw [F3]; exact s19 h', fun _ h => by
    have h' := (hit6 h0 h1).symm.trans (h.trans or3072)
    unfold mk; rw [F3]; exact s19w h'⟩
theorem q20 : Q w ⟨3136, 6, 21, 3, true⟩ :=
  ⟨fun h => by
    have h' := (hit6 h0 h1).symm.trans h
    unfold mk; rw [F3]; exact s20 h', fun _ h => by
    have h' := (hit6 h0 h1).symm.trans (h.trans or3136)
    unfold mk; rw [F3]; exact s20w h'⟩
theorem q21 : Q w ⟨3200, 6, 22, 3, true⟩ :=
  ⟨fun h => by
    have h' := (hit6 h0 h1).symm.trans h
    unfold mk; rw [F3]; exact s21 h', fun _ h => by
    have h' := (hit6 h0 h1).symm.trans (h.trans or3200)
    unfold mk; rw [F3]; exact s21w h'⟩
theorem q22 : Q w ⟨3264, 6, 23, 3, true⟩ :=
  ⟨fun h => by
    have h' := (hit6 h0 h1).symm.trans h
    unfold mk; rw [F3]; exact s22 h', fun _ h => by
    have h' := (hit6 h0 h1).symm.trans (h.trans or3264)
    unfold mk; rw [F3]; exact s22w h'⟩
theorem q23 : Q w ⟨192, 6, 24, 3, false⟩ :=
  ⟨fun h => by
    have h' := (hit6 h0 h1).symm.trans h
    unfold mk; rw [F3]; exact s23 h', fun hb => by cases hb⟩
theorem q24 : Q w ⟨3520, 6, 25, 3, false⟩ :=
  ⟨fun h => by
    have h' := (hit6 h0 h1).symm.trans h
    unfold mk; rw [F3]; exact s24 h', fun hb => by cases hb⟩
theorem q25 : Q w ⟨3392, 6, 55, 2, false⟩ :=
  ⟨fun h => by
    have h' := (hit6 h0 h1).symm.trans h
    unfold mk; rw [F2]; exact s25 h', fun hb => by cases hb⟩
theorem q26 : Q w ⟨3456, 6, 56, 3, false⟩ :=
  ⟨fun h => by
    have h' := (hit6 h0 h1).symm.trans h
    unfold mk; rw [F3]; exact s26 h', fun hb => by cases hb⟩
theorem q27 : Q w ⟨64, 6, 41, 4, false⟩ :=
  ⟨fun h => by
    have h' := (hit6 h0 h1).symm.trans h
    unfold mk; rw [F4]; exact s27 h', fun hb => by cases hb⟩
theorem q28 : Q w ⟨2048, 9, 42, 7, false⟩ :=
  ⟨fun h => by
    have h' := (hit9 h0 h1).symm.trans h
    unfold mk; rw [F7]; exact s28 h', fun hb => by cases hb⟩
theorem q29 : Q w ⟨128, 3, 43, 8, false⟩ :=
  ⟨fun h => by
    have h' := (hit3 h0 h1).symm.trans h
    unfold mk; rw [F8]; exact s29 h', fun hb => by cases hb⟩
theorem q30 : Q w ⟨32256, 9, 44, 10, false⟩ :=
  ⟨fun h => by
    have h' := (hit9 h0 h1).symm.trans h
    unfold mk; rw [F10]; exact s30 h', fun hb => by cases hb⟩
theorem q31 : Q w ⟨256, 8, 26, 9, false⟩ :=
  ⟨fun h => by
    have h' := (hit8 h0 h1).symm.trans h
    unfold mk; rw [F9]; exact s31 h', fun hb => by cases hb⟩
theorem q32 : Q w ⟨512, 8, 27, 9, false⟩ :=
  ⟨fun h => by
    have h' := (hit8 h0 h1).symm.trans h
    unfold mk; rw [F9]; exact s32 h', fun hb => by cases hb⟩
theorem q33 : Q w ⟨768, 8, 28, 9, false⟩ :=
  ⟨fun h => by
    have h' := (hit8 h0 h1).symm.trans h
    unfold mk; rw [F9]; exact s33 h', fun hb => by cases hb⟩
theorem q34 : Q w ⟨1024, 8, 29, 9, false⟩ :=
  ⟨fun h => by
    have h' := (hit8 h0 h1).symm.trans h
    unfold mk; rw [F9]; exact s34 h', fun hb => by cases hb⟩
theorem q35 : Q w ⟨1280, 8, 30, 9, false⟩ :=
  ⟨fun h => by
    have h' := (hit8 h0 h1).symm.trans h
    unfold mk; rw [F9]; exact s35 h', fun hb => by cases hb⟩
theorem q36 : Q w ⟨1536, 8, 31, 9, false⟩ :=
  ⟨fun h => by
    have h' := (hit8 h0 h1).symm.trans h
    unfold mk; rw [F9]; exact s36 h', fun hb => by cases hb⟩
theorem q37 : Q w ⟨1792, 8, 32, 9, false⟩ :=
  ⟨fun h => by
    have h' := (hit8 h0 h1).symm.trans h
    unfold mk; rw [F9]; exact s37 h', fun hb => by cases hb⟩
theorem q38 : Q w ⟨32768, 8, 33, 9, false⟩ :=
  ⟨fun h => by
    have h' := (hit8 h0 h1).symm.trans h
    unfold mk; rw [F9]; exact s38 h', fun hb => by cases hb⟩
theorem q39 : Q w ⟨33024, 8, 34, 9, false⟩ :=
  ⟨fun h => by
    have h' := (hit8 h0 h1).symm.trans h
    unfold mk; rw [F9]; exact s39 h', fun hb => by cases hb⟩
theorem q40 : Q w ⟨33280, 8, 35, 9, false⟩ :=
  ⟨fun h => by
    have h' := (hit8 h0 h1).symm.trans h
    unfold mk; rw [F9]; exact s40 h', fun hb => by cases hb⟩
theorem q41 : Q w ⟨33536, 8, 36, 9, false⟩ :=
  ⟨fun h => by
    have h' := (hit8 h0 h1).symm.trans h
    unfold mk; rw [F9]; exact s41 h', fun hb => by cases hb⟩
theorem q42 : Q w ⟨33792, 8, 37, 9, false⟩ :=
  ⟨fun h => by
    have h' := (hit8 h0 h1).symm.trans h
    unfold mk; rw [F9]; exact s42 h', fun hb => by cases hb⟩
theorem q43 : Q w ⟨34048, 8, 38, 9, false⟩ :=
  ⟨fun h => by
    have h' := (hit8 h0 h1).symm.trans h
    unfold mk; rw [F9]; exact s43 h', fun hb => by cases hb⟩
theorem q44 : Q w ⟨34304, 8, 39, 9, false⟩ :=
  ⟨fun h => by
    have h' := (hit8 h0 h1).symm.trans h
    unfold mk; rw [F9]; exact s44 h', fun hb => by cases hb⟩
theorem q45 : Q w ⟨34560, 8, 40, 9, false⟩ :=
  ⟨fun h => by
    have h' := (hit8 h0 h1).symm.trans h
    unfold mk; rw [F9]; exact s45 h', fun hb => by cases hb⟩
theorem q46 : Q w ⟨34816, 8, 45, 11, false⟩ :=
  ⟨fun h => by
    have h' := (hit8 h0 h1).symm.trans h
    unfold mk; rw [F11]; exact s46 h', fun hb => by cases hb⟩
theorem q47 : Q w ⟨35072, 8, 46, 11, false⟩ :=
  ⟨fun h => by
    have h' := (hit8 h0 h1).symm.trans h
    unfold mk; rw [F11]; exact s47 h', fun hb => by cases hb⟩
theorem q48 : Q w ⟨160, 4, 53, 12, false⟩ :=
  ⟨fun h => by
    have h' := (hit4 h0 h1).symm.trans h
    unfold mk; rw [F12]; exact s48 h', fun hb => by cases hb⟩
theorem q49 : Q w ⟨176, 4, 54, 12, false⟩ :=
  ⟨fun h => by
    have h' := (hit4 h0 h1).symm.trans h
    unfold mk; rw [F12]; exact s49 h', fun hb => by cases hb⟩
theorem q50 : Q w ⟨0, 0, 50, 0, false⟩ :=
  ⟨fun h => by
    have h' := (hit0 h0 h1).symm.trans h
    unfold mk; rw [F0]; exact s50 h', fun hb => by cases hb⟩
theorem q51 : Q w ⟨1, 0, 51, 0, false⟩ :=
  ⟨fun h => by
    have h' := (hit0 h0 h1).symm.trans h
    unfold mk; rw [F0]; exact s51 h', fun hb => by cases hb⟩
theorem q52 : Q w ⟨2, 0, 49, 0, false⟩ :=
  ⟨fun h => by
    have h' := (hit0 h0 h1).symm.trans h
    unfold mk; rw [F0]; exact s52 h', fun hb => by cases hb⟩
theorem q53 : Q w ⟨3, 0, 47, 0, false⟩ :=
  ⟨fun h => by
    have h' := (hit0 h0 h1).symm.trans h
    unfold mk; rw [F0]; exact s53 h', fun hb => by cases hb⟩
theorem q54 : Q w ⟨4, 0, 48, 0, false⟩ :=
  ⟨fun h => by
    have h' := (hit0 h0 h1).symm.trans h
    unfold mk; rw [F0]; exact s54 h', fun hb => by cases hb⟩
theorem q55 : Q w ⟨5, 0, 52, 0, false⟩ :=
  ⟨fun h => by
    have h' := (hit0 h0 h1).symm.trans h
    unfold mk; rw [F0]; exact s55 h', fun hb => by cases hb⟩
theorem q_all : ∀ f ∈ forms, Q w f := by
  unfold forms
  exact List.forall_mem_cons.2 ⟨q0 h0 h1, List.forall_mem_cons.2 ⟨q1 h0 h1, List.forall_mem_cons.2 ⟨q2 h0 h1, List.forall_mem_cons.2 ⟨q3 h0 h1, List.forall_mem_cons.2 ⟨q4 h0 h1, List.forall_mem_cons.2 ⟨q5 h0 h1, List.forall_mem_cons.2 ⟨q6 h0 h1, List.forall_mem_cons.2 ⟨q7 h0 h1, List.forall_mem_cons.2 ⟨q8 h0 h1, List.forall_mem_cons.2 ⟨q9 h0 h1, List.forall_mem_cons.2 ⟨q10 h0 h1, List.forall_mem_cons.2 ⟨q11 h0 h1, List.forall_mem_cons.2 ⟨q12 h0 h1, List.forall_mem_cons.2 ⟨q13 h0 h1, List.forall_mem_cons.2 ⟨q14 h0 h1, List.forall_mem_cons.2 ⟨q15 h0 h1, List.forall_mem_cons.2 ⟨q16 h0 h1, List.forall_mem_cons.2 ⟨q17 h0 h1, List.forall_mem_cons.2 ⟨q18 h0 h1, List.forall_mem_cons.2 ⟨q19 h0 h1, List.forall_mem_cons.2 ⟨q20 h0 h1, List.forall_mem_cons.2 ⟨q21 h0 h1, List.forall_mem_cons.2 ⟨q22 h0 h1, List.forall_mem_cons.2 ⟨q23 h0 h1, List.forall_mem_cons.2 ⟨q24 h0 h1, List.forall_mem_cons.2 ⟨q25 h0 h1, List.forall_mem_cons.2 ⟨q26 h0 h1, List.forall_mem_cons.2 ⟨q27 h0 h1, List.forall_mem_cons.2 ⟨q28 h0 h1, List.forall_mem_cons.2 ⟨q29 h0 h1, List.forall_mem_cons.2 ⟨q30 h0 h1, List.forall_mem_cons.2 ⟨q31 h0 h1, List.forall_mem_cons.2 ⟨q32 h0 h1, List.forall_mem_cons.2 ⟨q33 h0 h1, List.forall_mem_cons.2 ⟨q34 h0 h1, List.forall_mem_cons.2 ⟨q35 h0 h1, List.forall_mem_cons.2 ⟨q36 h0 h1, List.forall_mem_cons.2 ⟨q37 h0 h1, List.forall_mem_cons.2 ⟨q38 h0 h1, List.forall_mem_cons.2 ⟨q39 h0 h1, List.forall_mem_cons.2 ⟨q40 h0 h1, List.forall_mem_cons.2 ⟨q41 h0 h1, List.forall_mem_cons.2 ⟨q42 h0 h1, List.forall_mem_cons.2 ⟨q43 h0 h1, List.forall_mem_cons.2 ⟨q44 h0 h1, List.forall_mem_cons.2 ⟨q45 h0 h1, List.forall_mem_cons.2 ⟨q46 h0 h1, List.forall_mem_cons.2 ⟨q47 h0 h1, List.forall_mem_cons.2 ⟨q48 h0 h1, List.forall_mem_cons.2 ⟨q49 h0 h1, List.forall_mem_cons.2 ⟨q50 h0 h1, List.forall_mem_cons.2 ⟨q51 h0 h1, List.forall_mem_cons.2 ⟨q52 h0 h1, List.forall_mem_cons.2 ⟨q53 h0 h1, List.forall_mem_cons.2 ⟨q54 h0 h1, List.forall_mem_cons.2 ⟨q55 h0 h1, fun _ h => absurd h List.not_mem_nil⟩⟩⟩⟩⟩⟩⟩⟩⟩⟩⟩⟩⟩⟩⟩⟩⟩⟩⟩⟩⟩⟩⟩⟩⟩⟩⟩⟩⟩⟩⟩⟩⟩⟩⟩⟩⟩⟩⟩⟩⟩⟩⟩⟩⟩⟩⟩⟩⟩⟩⟩⟩⟩⟩⟩⟩
theorem shape_hit {f : M.Inst_form} {b : Bool} (h : search w forms = some (f, b)) : X.R06_shape w = mk f b w := by
  rw [shape_eq h0 h1]
  obtain ⟨hm, hc⟩ := search_some h
  rcases hc with ⟨rfl, hc⟩ | ⟨rfl, hb, hc⟩
  · exact (q_all h0 h1 f hm).1 hc
  · exact (q_all h0 h1 f hm).2 hb hc
end
theorem c0 {a : Int} (n0 : ¬ a / 4096 * 4096 = 4096) (n1 : ¬ a / 4096 * 4096 = 8192) (n2 : ¬ a / 4096 * 4096 = 12288) (n3 : ¬ a / 4096 * 4096 = 16384) (n4 : ¬ a / 4096 * 4096 = 20480) : ¬ ((a / 4096) ≥ 1 ∧ (a / 4096) ≤ 5) := by omega
theorem c1 {a : Int} (n0w : ¬ a / 4096 * 4096 = 36864) (n1w : ¬ a / 4096 * 4096 = 40960) (n2w : ¬ a / 4096 * 4096 = 45056) (n3w : ¬ a / 4096 * 4096 = 49152) (n4w : ¬ a / 4096 * 4096 = 53248) : ¬ ((a / 4096) ≥ 9 ∧ (a / 4096) ≤ 13) := by omega
theorem c2 {a : Int} (n5 : ¬ a / 4096 * 4096 = 24576) : ¬ ((a / 4096) = 6) := by omega
theorem c3 {a : Int} (n6 : ¬ a / 4096 * 4096 = 57344) : ¬ ((a / 4096) = 14) := by omega
theorem c4 {a : Int} (n7 : ¬ a / 512 * 512 = 28672) (n8 : ¬ a / 512 * 512 = 29184) (n9 : ¬ a / 512 * 512 = 29696) : ¬ ((a / 512) ≥ 56 ∧ (a / 512) ≤ 58) := by omega
theorem c5 {a : Int} (n10 : ¬ a / 512 * 512 = 30720) : ¬ ((a / 512) = 60) := by omega
theorem c6 {a : Int} (n30 : ¬ a / 512 * 512 = 32256) : ¬ ((a / 512) = 63) := by omega
theorem c7 {a : Int} (n11 : ¬ a / 64 * 64 = 2560) (n12 : ¬ a / 64 * 64 = 2624) (n13 : ¬ a / 64 * 64 = 2688) (n14 : ¬ a / 64 * 64 = 2752) (n15 : ¬ a / 64 * 64 = 2816) (n16 : ¬ a / 64 * 64 = 2880) (n17 : ¬ a / 64 * 64 = 2944) (n18 : ¬ a / 64 * 64 = 3008) : ¬ ((a / 64) ≥ 40 ∧ (a / 64) ≤ 47) := by omega
theorem c8 {a : Int} (n11w : ¬ a / 64 * 64 = 35328) (n12w : ¬ a / 64 * 64 = 35392) (n13w : ¬ a / 64 * 64 = 35456) (n14w : ¬ a / 64 * 64 = 35520) (n15w : ¬ a / 64 * 64 = 35584) (n16w : ¬ a / 64 * 64 = 35648) (n17w : ¬ a / 64 * 64 = 35712) (n18w : ¬ a / 64 * 64 = 35776) : ¬ ((a / 64) ≥ 552 ∧ (a / 64) ≤ 559) := by omega
theorem c9 {a : Int} (n19 : ¬ a / 64 * 64 = 3072) (n20 : ¬ a / 64 * 64 = 3136) (n21 : ¬ a / 64 * 64 = 3200) (n22 : ¬ a / 64 * 64 = 3264) : ¬ ((a / 64) ≥ 48 ∧ (a / 64) ≤ 51) := by omega
theorem c10 {a : Int} (n19w : ¬ a / 64 * 64 = 35840) (n20w : ¬ a / 64 * 64 = 35904) (n21w : ¬ a / 64 * 64 = 35968) (n22w : ¬ a / 64 * 64 = 36032) : ¬ ((a / 64) ≥ 560 ∧ (a / 64) ≤ 563) := by omega
theorem c11 {a : Int} (n23 : ¬ a / 64 * 64 = 192) : ¬ ((a / 64) = 3) := by omega
theorem c12 {a : Int} (n24 : ¬ a / 64 * 64 = 3520) : ¬ ((a / 64) = 55) := by omega
theorem c13 {a : Int} (n25 : ¬ a / 64 * 64 = 3392) : ¬ ((a / 64) = 53) := by omega
theorem c14 {a : Int} (n26 : ¬ a / 64 * 64 = 3456) : ¬ ((a / 64) = 54) := by omega
theorem c15 {a : Int} (n27 : ¬ a / 64 * 64 = 64) : ¬ ((a / 64) = 1) := by omega
theorem c16 {a : Int} (n28 : ¬ a / 512 * 512 = 2048) : ¬ ((a / 512) = 4) := by omega
theorem c17 {a : Int} (n29 : ¬ a / 8 * 8 = 128) : ¬ ((a / 8) = 16) := by omega
theorem c18 {a : Int} (n31 : ¬ a / 256 * 256 = 256) (n32 : ¬ a / 256 * 256 = 512) (n33 : ¬ a / 256 * 256 = 768) (n34 : ¬ a / 256 * 256 = 1024) (n35 : ¬ a / 256 * 256 = 1280) (n36 : ¬ a / 256 * 256 = 1536) (n37 : ¬ a / 256 * 256 = 1792) : ¬ ((a / 256) ≥ 1 ∧ (a / 256) ≤ 7) := by omega
theorem c19 {a : Int} (n38 : ¬ a / 256 * 256 = 32768) (n39 : ¬ a / 256 * 256 = 33024) (n40 : ¬ a / 256 * 256 = 33280) (n41 : ¬ a / 256 * 256 = 33536) (n42 : ¬ a / 256 * 256 = 33792) (n43 : ¬ a / 256 * 256 = 34048) (n44 : ¬ a / 256 * 256 = 34304) (n45 : ¬ a / 256 * 256 = 34560) : ¬ ((a / 256) ≥ 128 ∧ (a / 256) ≤ 135) := by omega
theorem c20 {a : Int} (n46 : ¬ a / 256 * 256 = 34816) : ¬ ((a / 256) = 136) := by omega
theorem c21 {a : Int} (n47 : ¬ a / 256 * 256 = 35072) : ¬ ((a / 256) = 137) := by omega
theorem c22 {a : Int} (n48 : ¬ a / 16 * 16 = 160) : ¬ ((a / 16) = 10) := by omega
theorem c23 {a : Int} (n49 : ¬ a / 16 * 16 = 176) : ¬ ((a / 16) = 11) := by omega
theorem c24 {a : Int} (n50 : ¬ a / 1 * 1 = 0) : ¬ (a = 0) := by omega
theorem c25 {a : Int} (n51 : ¬ a / 1 * 1 = 1) : ¬ (a = 1) := by omega
theorem c26 {a : Int} (n52 : ¬ a / 1 * 1 = 2) : ¬ (a = 2) := by omega
theorem c27 {a : Int} (n53 : ¬ a / 1 * 1 = 3) : ¬ (a = 3) := by omega
theorem c28 {a : Int} (n54 : ¬ a / 1 * 1 = 4) : ¬ (a = 4) := by omega
theorem c29 {a : Int} (n55 : ¬ a / 1 * 1 = 5) : ¬ (a = 5) := by omega
theorem shape_none {w : Int} (h0 : 0 ≤ w) (h1 : w < 65536) (h : search w forms = none) : X.R06_shape w = ⟨0, false, ⟨0, 0, 0⟩, ⟨0, 0, 0⟩, 0, 0⟩ := by
  rw [shape_eq h0 h1]
  have hn := search_none h
  unfold forms at hn
  obtain ⟨m0, hn⟩ := List.forall_mem_cons.1 hn
  have n0 : ¬ w / 4096 * 4096 = 4096 := fun e => m0.1 ((hit12 h0 h1).trans e)
  have n0w : ¬ w / 4096 * 4096 = 36864 := fun e => m0.2 rfl ((hit12 h0 h1).trans (e.trans or4096.symm))
  obtain ⟨m1, hn⟩ := List.forall_mem_cons.1 hn
  have n1 : ¬ w / 4096 * 4096 = 8192 := fun e => m1.1 ((hit12 h0 h1).trans e)
  have n1w : ¬ w / 4096 * 4096 = 40960 := fun e => m1.2 rfl ((hit12 h0 h1).trans (e.trans or8192.symm))
  obtain ⟨m2, hn⟩ := List.forall_mem_cons.1 hn
  have n2 : ¬ w / 4096 * 4096 = 12288 := fun e => m2.1 ((hit12 h0 h1).trans e)
  have n2w : ¬ w / 4096 * 4096 = 45056 := fun e => m2.2 rfl ((hit12 h0 h1).trans (e.trans or12288.symm))
  obtain ⟨m3, hn⟩ := List.forall_mem_cons.1 hn
  have n3 : ¬ w / 4096 * 4096 = 16384 := fun e => m3.1 ((hit12 h0 h1).trans e)
  have n3w : ¬ w / 4096 * 4096 = 49152 := fun e => m3.2 rfl ((hit12 h0 h1).trans (e.trans or16384.symm))
  obtain ⟨m4, hn⟩ := List.forall_mem_cons.1 hn
  have n4 : ¬ w / 4096 * 4096 = 20480 := fun e => m4.1 ((hit12 h0 h1).trans e)
  have n4w : ¬ w / 4096 * 4096 = 53248 := fun e => m4.2 rfl ((hit12 h0 h1).trans (e.trans or20480.symm))
  obtain ⟨m5, hn⟩ := List.forall_mem_cons.1 hn
  have n5 : ¬ w / 4096 * 4096 = 24576 := fun e => m5.1 ((hit12 h0 h1).trans e)
  obtain ⟨m6, hn⟩ := List.forall_mem_cons.1 hn
  have n6 : ¬ w / 4096 * 4096 = 57344 := fun e => m6.1 ((hit12 h0 h1).trans e)
  obtain ⟨m7, hn⟩ := List.forall_mem_cons.1 hn
  have n7 : ¬ w / 512 * 512 = 28672 := fun e => m7.1 ((hit9 h0 h1).trans e)
  obtain ⟨m8, hn⟩ := List.forall_mem_cons.1 hn
  have n8 : ¬ w / 512 * 512 = 29184 := fun e => m8.1 ((hit9 h0 h1).trans e)
  obtain ⟨m9, hn⟩ := List.forall_mem_cons.1 hn
  have n9 : ¬ w / 512 * 512 = 29696 := fun e => m9.1 ((hit9 h0 h1).trans e)
  obtain ⟨m10, hn⟩ := List.forall_mem_cons.1 hn
  have n10 : ¬ w / 512 * 512 = 30720 := fun e => m10.1 ((hit9 h0 h1).trans e)
  obtain ⟨m11, hn⟩ := List.forall_mem_cons.1 hn
  have n11 : ¬ w / 64 * 64 = 2560 := fun e => m11.1 ((hit6 h0 h1).trans e)
  have n11w : ¬ w / 64 * 64 = 35328 := fun e => m11.2 rfl ((hit6 h0 h1).trans (e.trans or2560.symm))
  obtain ⟨m12, hn⟩ := List.forall_mem_cons.1 hn
  have n12 : ¬ w / 64 * 64 = 2624 := fun e => m12.1 ((hit6 h0 h1).trans e)
  have n12w : ¬ w / 64 * 64 = 35392 := fun e => m12.2 rfl ((hit6 h0 h1).trans (e.trans or2624.symm))
  obtain ⟨m13, hn⟩ := List.forall_mem_cons.1 hn
  have n13 : ¬ w / 64 * 64 = 2688 := fun e => m13.1 ((hit6 h0 h1).trans e)
  have n13w : ¬ w / 64 * 64 = 35456 := fun e => m13.2 rfl ((hit6 h0 h1).trans (e.trans or2688.symm))
  obtain ⟨m14, hn⟩ := List.forall_mem_cons.1 hn
  have n14 : ¬ w / 64 * 64 = 2752 := fun e => m14.1 ((hit6 h0 h1).trans e)
  have n14w : ¬ w / 64 * 64 = 35520 := fun e => m14.2 rfl ((hit6 h0 h1).trans (e.trans or2752.symm))
  obtain ⟨m15, hn⟩ := List.forall_mem_cons.1 hn
  have n15 : ¬ w / 64 * 64 = 2816 := fun e => m15.1 ((hit6 h0 h1).trans e)
  have n15w : ¬ w / 64 * 64 = 35584 := fun e => m15.2 rfl ((hit6 h0 h1).trans (e.trans or2816.symm))
  obtain ⟨m16, hn⟩ := List.forall_mem_cons.1 hn
  have n16 : ¬ w / 64 * 64 = 2880 := fun e => m16.1 ((hit6 h0 h1).trans e)
  have n16w : ¬ w / 64 * 64 = 35648 := fun e => m16.2 rfl ((hit6 h0 h1).trans (e.trans or2880.symm))
  obtain ⟨m17, hn⟩ := List.forall_mem_cons.1 hn
  have n17 : ¬ w / 64 * 64 = 2944 := fun e => m17.1 ((hit6 h0 h1).trans e)
  have n17w : ¬ w / 64 * 64 = 35712 := fun e => m17.2 rfl ((hit6 h0 h1).trans (e.trans or2944.symm))
  obtain ⟨m18, hn⟩ := List.forall_mem_cons.1 hn
  have n18 : ¬ w / 64 * 64 = 3008 := fun e => m18.1 ((hit6 h0 h1).trans e)
  have n18w : ¬ w / 64 * 64 = 35776 := fun e => m18.2 rfl ((hit6 h0 h1).trans (e.trans or3008.symm))
  obtain ⟨m19, hn⟩ := List.forall_mem_cons.1 hn
  have n19 : ¬ w / 64 * 64 = 3072 := fun e => m19.1 ((hit6 h0 h1).trans e)
  have n19w : ¬ w / 64 * 64 = 35840 := fun e => m19.2 rfl ((hit6 h0 h1).trans (e.trans or3072.symm))
  obtain ⟨m20, hn⟩ := List.forall_mem_cons.1 hn
  have n20 : ¬ w / 64 * 64 = 3136 := fun e => m20.1 ((hit6 h0 h1).trans e)
  have n20w : ¬ w / 64 * 64 = 35904 := fun e => m20.2 rfl ((hit6 h0 h1).trans (e.trans or3136.symm))
  obtain ⟨m21, hn⟩ := List.forall_mem_cons.1 hn
  have n21 : ¬ w / 64 * 64 = 3200 := fun e => m21.1 ((hit6 h0 h1).trans e)
  have n21w : ¬ w / 64 * 64 = 35968 := fun e => m21.2 rfl ((hit6 h0 h1).trans (e.trans or3200.symm))
  obtain ⟨m22, hn⟩ := List.forall_mem_cons.1 hn
  have n22 : ¬ w / 64 * 64 = 3264 := fun e => m22.1 ((hit6 h0 h1).trans e)
  have n22w : ¬ w / 64 * 64 = 36032 := fun e => m22.2 rfl ((hit6 h0 h1).trans (e.trans or3264.symm))
  obtain ⟨m23, hn⟩ := List.forall_mem_cons.1 hn
  have n23 : ¬ w / 64 * 64 = 192 := fun e => m23.1 ((hit6 h0 h1).trans e)
  obtain ⟨m24, hn⟩ := List.forall_mem_cons.1 hn
  have n24 : ¬ w / 64 * 64 = 3520 := fun e => m24.1 ((hit6 h0 h1).trans e)
  obtain ⟨m25, hn⟩ := List.forall_mem_cons.1 hn
  have n25 : ¬ w / 64 * 64 = 3392 := fun e => m25.1 ((hit6 h0 h1).trans e)
  obtain ⟨m26, hn⟩ := List.forall_mem_cons.1 hn
  have n26 : ¬ w / 64 * 64 = 3456 := fun e => m26.1 ((hit6 h0 h1).trans e)
  obtain ⟨m27, hn⟩ := List.forall_mem_cons.1 hn
  have n27 : ¬ w / 64 * 64 = 64 := fun e => m27.1 ((hit6 h0 h1).trans e)
  obtain ⟨m28, hn⟩ := List.forall_mem_cons.1 hn
  have n28 : ¬ w / 512 * 512 = 2048 := fun e => m28.1 ((hit9 h0 h1).trans e)
  obtain ⟨m29, hn⟩ := List.forall_mem_cons.1 hn
  have n29 : ¬ w / 8 * 8 = 128 := fun e => m29.1 ((hit3 h0 h1).trans e)
  obtain ⟨m30, hn⟩ := List.forall_mem_cons.1 hn
  have n30 : ¬ w / 512 * 512 = 32256 := fun e => m30.1 ((hit9 h0 h1).trans e)
  obtain ⟨m31, hn⟩ := List.forall_mem_cons.1 hn
  have n31 : ¬ w / 256 * 256 = 256 := fun e => m31.1 ((hit8 h0 h1).trans e)
  obtain ⟨m32, hn⟩ := List.forall_mem_cons.1 hn
  have n32 : ¬ w / 256 * 256 = 512 := fun e => m32.1 ((hit8 h0 h1).trans e)
  obtain ⟨m33, hn⟩ := List.forall_mem_cons.1 hn
  have n33 : ¬ w / 256 * 256 = 768 := fun e => m33.1 ((hit8 h0 h1).trans e)
  obtain ⟨m34, hn⟩ := List.forall_mem_cons.1 hn
  have n34 : ¬ w / 256 * 256 = 1024 := fun e => m34.1 ((hit8 h0 h1).trans e)
  obtain ⟨m35, hn⟩ := List.forall_mem_cons.1 hn
  have n35 : ¬ w / 256 * 256 = 1280 := fun e => m35.1 ((hit8 h0 h1).trans e)
  obtain ⟨m36, hn⟩ := List.forall_mem_cons.1 hn
  have n36 : ¬ w / 256 * 256 = 1536 := fun e => m36.1 ((hit8 h0 h1).trans e)
  obtain ⟨m37, hn⟩ := List.forall_mem_cons.1 hn
  have n37 : ¬ w / 256 * 256 = 1792 := fun e => m37.1 ((hit8 h0 h1).trans e)
  obtain ⟨m38, hn⟩ := List.forall_mem_cons.1 hn
  have n38 : ¬ w / 256 * 256 = 32768 := fun e => m38.1 ((hit8 h0 h1).trans e)
  obtain ⟨m39, hn⟩ := List.forall_mem_cons.1 hn
  have n39 : ¬ w / 256 * 256 = 33024 := fun e => m39.1 ((hit8 h0 h1).trans e)
  obtain ⟨m40, hn⟩ := List.forall_mem_cons.1 hn
  have n40 : ¬ w / 256 * 256 = 33280 := fun e => m40.1 ((hit8 h0 h1).trans e)
  obtain ⟨m41, hn⟩ := List.forall_mem_cons.1 hn
  have n41 : ¬ w / 256 * 256 = 33536 := fun e => m41.1 ((hit8 h0 h1).trans e)
  obtain ⟨m42, hn⟩ := List.forall_mem_cons.1 hn
  have n42 : ¬ w / 256 * 256 = 33792 := fun e => m42.1 ((hit8 h0 h1).trans e)
  obtain ⟨m43, hn⟩ := List.forall_mem_cons.1 hn
  have n43 : ¬ w / 256 * 256 = 34048 := fun e => m43.1 ((hit8 h0 h1).trans e)
  obtain ⟨m44, hn⟩ := List.forall_mem_cons.1 hn
  have n44 : ¬ w / 256 * 256 = 34304 := fun e => m44.1 ((hit8 h0 h1).trans e)
  obtain ⟨m45, hn⟩ := List.forall_mem_cons.1 hn
  have n45 : ¬ w / 256 * 256 = 34560 := fun e => m45.1 ((hit8 h0 h1).trans e)
  obtain ⟨m46, hn⟩ := List.forall_mem_cons.1 hn
  have n46 : ¬ w / 256 * 256 = 34816 := fun e => m46.1 ((hit8 h0 h1).trans e)
  obtain ⟨m47, hn⟩ := List.forall_mem_cons.1 hn
  have n47 : ¬ w / 256 * 256 = 35072 := fun e => m47.1 ((hit8 h0 h1).trans e)
  obtain ⟨m48, hn⟩ := List.forall_mem_cons.1 hn
  have n48 : ¬ w / 16 * 16 = 160 := fun e => m48.1 ((hit4 h0 h1).trans e)
  obtain ⟨m49, hn⟩ := List.forall_mem_cons.1 hn
  have n49 : ¬ w / 16 * 16 = 176 := fun e => m49.1 ((hit4 h0 h1).trans e)
  obtain ⟨m50, hn⟩ := List.forall_mem_cons.1 hn
  have n50 : ¬ w / 1 * 1 = 0 := fun e => m50.1 ((hit0 h0 h1).trans e)
  obtain ⟨m51, hn⟩ := List.forall_mem_cons.1 hn
  have n51 : ¬ w / 1 * 1 = 1 := fun e => m51.1 ((hit0 h0 h1).trans e)
  obtain ⟨m52, hn⟩ := List.forall_mem_cons.1 hn
  have n52 : ¬ w / 1 * 1 = 2 := fun e => m52.1 ((hit0 h0 h1).trans e)
  obtain ⟨m53, hn⟩ := List.forall_mem_cons.1 hn
  have n53 : ¬ w / 1 * 1 = 3 := fun e => m53.1 ((hit0 h0 h1).trans e)
  obtain ⟨m54, hn⟩ := List.forall_mem_cons.1 hn
  have n54 : ¬ w / 1 * 1 = 4 := fun e => m54.1 ((hit0 h0 h1).trans e)
  obtain ⟨m55, hn⟩ := List.forall_mem_cons.1 hn
  have n55 : ¬ w / 1 * 1 = 5 := fun e => m55.1 ((hit0 h0 h1).trans e)
  rw [shp, if_neg (c0 n0 n1 n2 n3 n4), if_neg (c1 n0w n1w n2w n3w n4w), if_neg (c2 n5), if_neg (c3 n6), if_neg (c4 n7 n8 n9), if_neg (c5 n10), if_neg (c6 n30), if_neg (c7 n11 n12 n13 n14 n15 n16 n17 n18), if_neg (c8 n11w n12w n13w n14w n15w n16w n17w n18w), if_neg (c9 n19 n20 n21 n22), if_neg (c10 n19w n20w n21w n22w), if_neg (c11 n23), if_neg (c12 n24), if_neg (c13 n25), if_neg (c14 n26), if_neg (c15 n27), if_neg (c16 n28), if_neg (c17 n29), if_neg (c18 n31 n32 n33 n34 n35 n36 n37), if_neg (c19 n38 n39 n40 n41 n42 n43 n44 n45), if_neg (c20 n46), if_neg (c21 n47), if_neg (c22 n48), if_neg (c23 n49), if_neg (c24 n50), if_neg (c25 n51), if_neg (c26 n52), if_neg (c27 n53), if_neg (c28 n54), if_neg (c29 n55)]
end PL
end Go.Proofs.Ytnonimnhninafaa.Ab
