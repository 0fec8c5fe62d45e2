/- The words of a valid instruction are decoded back to it. -/
import Derived.Test.YtnonimnhninafaaAbP10
namespace Go.Proofs.Ytnonimnhninafaa.Ab
open Go
set_option linter.unusedVariables false
set_option linter.unusedSimpArgs false
namespace PL
set_option maxRecDepth 100000

def z0 (o : M.Operand) : M.Operand := ⟨o.Mode, o.Reg, 0⟩

theorem off_r {f : M.Inst_form} (t : TF f) {i : M.Inst} (v : VI i) (ho : f.op = i.Op) : 0 ≤ off f.shape i ∧ off f.shape i < bitS f.shape := by
  have hs := fld_r v.ovs
  have hd := fld_r v.ovd
  have hr := v.reg
  have hn := v.num
  rw [← ho, t.lo, t.hi] at hn
  have ht := t.shape
  have hc : f.shape = 0 ∨ f.shape = 1 ∨ f.shape = 2 ∨ f.shape = 3 ∨ f.shape = 4 ∨ f.shape = 5 ∨ f.shape = 6 ∨ f.shape = 7 ∨ f.shape = 8 ∨ f.shape = 9 ∨ f.shape = 10 ∨ f.shape = 11 ∨ f.shape = 12 := by omega
  rcases hc with h | h | h | h | h | h | h | h | h | h | h | h | h <;> rw [h] at hn ⊢ <;>
    simp only [off, bitS, loS, hiS, Int.reduceEq, if_true, if_false, or_self, or_true, true_or, or_false, false_or] at hn ⊢ <;> omega

/-- The parts of an instruction that a form has not are nought. -/
theorem src0 {f : M.Inst_form} (t : TF f) {i : M.Inst} (v : VI i) (ho : f.op = i.Op) (h : srcS f.shape = false) : i.Src = ⟨0, 0, 0⟩ := by
  rcases v.src with ⟨k, _⟩ | ⟨_, k⟩
  · rw [← ho, t.src, h] at k; cases k
  · exact k
theorem dst0 {f : M.Inst_form} (t : TF f) {i : M.Inst} (v : VI i) (ho : f.op = i.Op) (h : dstS f.shape = false) : i.Dst = ⟨0, 0, 0⟩ := by
  rcases v.dst with ⟨k, _⟩ | ⟨_, k⟩
  · rw [← ho, t.dst, h] at k; cases k
  · exact k
theorem reg0 {f : M.Inst_form} (t : TF f) {i : M.Inst} (v : VI i) (ho : f.op = i.Op) (h : regS f.shape = false) : i.Reg = 0 := by
  rcases v.reg2 with k | k
  · exact k
  · rw [← ho, t.reg, h] at k; cases k

theorem hitE {f : M.Inst_form} (t : TF f) {w : Int} (h0 : 0 ≤ w) (h1 : w < 65536) {F q : Int} (hw : w = F + q) (hF : F % bitS f.shape = 0) (hq : 0 ≤ q ∧ q < bitS f.shape) : hit f w = F := by
  unfold hit
  rw [show IntKind.bits IntKind.i64 = 64 from rfl, t.bits]
  have hb : 0 < bitS f.shape := by omega
  have hb2 : bitS f.shape ≤ 4096 := by unfold bitS; repeat' split <;> omega
  rw [Int.fdiv_eq_ediv_of_nonneg _ (by omega)]
  have e : w / bitS f.shape * bitS f.shape = F := by
    have h2 : (F + q) / bitS f.shape = F / bitS f.shape := by
      rw [Int.add_ediv_of_dvd_left (Int.dvd_of_emod_eq_zero hF), Int.ediv_eq_zero_of_lt hq.1 hq.2, Int.add_zero]
    rw [hw, h2]
    exact Int.ediv_mul_cancel (Int.dvd_of_emod_eq_zero hF)
  rw [e]
  exact wrap64 (by omega) (by omega)

theorem frmE {o : M.Operand} (h : OV o) {x : Int} (k : Int) (hx : x = 64 * k + fld o) : frm x = z0 o := by
  have h1 := h.mode
  have h2 := h.reg
  unfold frm z0
  unfold fld at hx
  congr 1 <;> omega
theorem or_first {f : M.Inst_form} (t : TF f) {i : M.Inst} (v : VI i) (ho : f.op = i.Op) : (bif i.Byte then bitOf BinOp.or IntKind.i64 f.first 32768 else f.first) = f.first + bb i.Byte ∧ 0 ≤ f.first + bb i.Byte ∧ f.first + bb i.Byte + bitS f.shape ≤ 65536 ∧ (f.first + bb i.Byte) % bitS f.shape = 0 := by
  have h := t.first
  cases hb : i.Byte with
  | false => simp only [bb, cond_false, Int.add_zero]; exact ⟨trivial, h⟩
  | true =>
    have k := v.byte hb
    rw [← ho, t.byte] at k
    obtain ⟨k1, k2, k3⟩ := t.bytes k
    simp only [bb, cond_true]
    refine ⟨k3, by omega, by omega, ?_⟩
    rw [Int.add_emod, h.2.2, k2]; simp
section
variable {F n o op r m : Int} {y : Bool} {s d : M.Operand}
theorem W0 : X.inst_form_word ⟨F, n, o, 0, y⟩ ⟨op, false, s, d, r, m⟩ = bitOf BinOp.or IntKind.i64 (bitOf BinOp.or IntKind.i64 F (X.operand_Field d)) m := by kernel_rfl
theorem W1 : X.inst_form_word ⟨F, n, o, 1, y⟩ ⟨op, false, s, d, r, m⟩ = bitOf BinOp.or IntKind.i64 (bitOf BinOp.or IntKind.i64 F (IntKind.wrap IntKind.i64 (X.operand_Field s * 64))) (X.operand_Field d) := by kernel_rfl
theorem W2 : X.inst_form_word ⟨F, n, o, 2, y⟩ ⟨op, false, s, d, r, m⟩ = bitOf BinOp.or IntKind.i64 F (X.operand_Field s) := by kernel_rfl
theorem W3 : X.inst_form_word ⟨F, n, o, 3, y⟩ ⟨op, false, s, d, r, m⟩ = bitOf BinOp.or IntKind.i64 (bitOf BinOp.or IntKind.i64 F (X.operand_Field d)) m := by kernel_rfl
theorem W4 : X.inst_form_word ⟨F, n, o, 4, y⟩ ⟨op, false, s, d, r, m⟩ = bitOf BinOp.or IntKind.i64 (bitOf BinOp.or IntKind.i64 F (X.operand_Field d)) m := by kernel_rfl
theorem W5 : X.inst_form_word ⟨F, n, o, 5, y⟩ ⟨op, false, s, d, r, m⟩ = bitOf BinOp.or IntKind.i64 (bitOf BinOp.or IntKind.i64 F (IntKind.wrap IntKind.i64 (r * 64))) (X.operand_Field s) := by kernel_rfl
theorem W6 : X.inst_form_word ⟨F, n, o, 6, y⟩ ⟨op, false, s, d, r, m⟩ = bitOf BinOp.or IntKind.i64 (bitOf BinOp.or IntKind.i64 (bitOf BinOp.or IntKind.i64 F (IntKind.wrap IntKind.i64 (r * 64))) (X.operand_Field d)) m := by kernel_rfl
theorem W7 : X.inst_form_word ⟨F, n, o, 7, y⟩ ⟨op, false, s, d, r, m⟩ = bitOf BinOp.or IntKind.i64 (bitOf BinOp.or IntKind.i64 (bitOf BinOp.or IntKind.i64 F (IntKind.wrap IntKind.i64 (r * 64))) (X.operand_Field d)) m := by kernel_rfl
theorem W8 : X.inst_form_word ⟨F, n, o, 8, y⟩ ⟨op, false, s, d, r, m⟩ = bitOf BinOp.or IntKind.i64 F r := by kernel_rfl
theorem W9 : X.inst_form_word ⟨F, n, o, 9, y⟩ ⟨op, false, s, d, r, m⟩ = bitOf BinOp.or IntKind.i64 F (bitOf BinOp.and IntKind.i64 m 255) := by kernel_rfl
theorem W10 : X.inst_form_word ⟨F, n, o, 10, y⟩ ⟨op, false, s, d, r, m⟩ = bitOf BinOp.or IntKind.i64 (bitOf BinOp.or IntKind.i64 F (IntKind.wrap IntKind.i64 (r * 64))) m := by kernel_rfl
theorem W11 : X.inst_form_word ⟨F, n, o, 11, y⟩ ⟨op, false, s, d, r, m⟩ = bitOf BinOp.or IntKind.i64 (bitOf BinOp.or IntKind.i64 F (X.operand_Field d)) m := by kernel_rfl
theorem W12 : X.inst_form_word ⟨F, n, o, 12, y⟩ ⟨op, false, s, d, r, m⟩ = bitOf BinOp.or IntKind.i64 (bitOf BinOp.or IntKind.i64 F (X.operand_Field d)) m := by kernel_rfl
end
theorem or0 {x : Int} (h0 : 0 ≤ x) (h1 : x < 65536) : bitOf BinOp.or IntKind.i64 x 0 = x := by
  show IntKind.i64.wrap ((BitVec.ofInt IntKind.i64.bits x ||| BitVec.ofInt IntKind.i64.bits 0).toNat) = x
  have e : (BitVec.ofInt IntKind.i64.bits x ||| BitVec.ofInt IntKind.i64.bits 0) = BitVec.ofInt IntKind.i64.bits x := by
    rw [show BitVec.ofInt IntKind.i64.bits 0 = 0#_ from rfl, BitVec.or_zero]
  rw [e, BitVec.toNat_ofInt, Int.emod_eq_of_lt h0 (by simp only [IntKind.bits]; omega)]
  rw [Int.toNat_of_nonneg h0]
  exact wrap64 (by omega) (by omega)
theorem f0 : X.operand_Field ⟨0, 0, 0⟩ = 0 := (fieldP ov0).trans rfl
section
variable {F n o op r m : Int} {y : Bool} {s d : M.Operand}
theorem V0 (e2 : 0 ≤ F) (e3 : F + bitS 0 ≤ 65536) (e4 : F % bitS 0 = 0) (hs : 0 ≤ fld s ∧ fld s < 64) (hd : 0 ≤ fld d ∧ fld d < 64) (hr : 0 ≤ r ∧ r ≤ 7) (hn : loS 0 ≤ m ∧ m ≤ hiS 0) (es : X.operand_Field s = fld s) (ed : X.operand_Field d = fld d) (d0 : dstS 0 = false → d = ⟨0, 0, 0⟩) : X.inst_form_word ⟨F, n, o, 0, y⟩ ⟨op, false, s, d, r, m⟩ = F + off 0 ⟨op, false, s, d, r, m⟩ := by
  simp only [off, bitS, loS, hiS, Int.reduceEq, if_true, if_false, or_self, or_true, true_or, or_false, false_or] at hn e3 e4 ⊢
  rw [W0, d0 rfl, f0, or0 e2 (by omega), show m = 0 by omega, or0 e2 (by omega)] <;> omega
theorem V1 (e2 : 0 ≤ F) (e3 : F + bitS 1 ≤ 65536) (e4 : F % bitS 1 = 0) (hs : 0 ≤ fld s ∧ fld s < 64) (hd : 0 ≤ fld d ∧ fld d < 64) (hr : 0 ≤ r ∧ r ≤ 7) (hn : loS 1 ≤ m ∧ m ≤ hiS 1) (es : X.operand_Field s = fld s) (ed : X.operand_Field d = fld d) (d0 : dstS 1 = false → d = ⟨0, 0, 0⟩) : X.inst_form_word ⟨F, n, o, 1, y⟩ ⟨op, false, s, d, r, m⟩ = F + off 1 ⟨op, false, s, d, r, m⟩ := by
  simp only [off, bitS, loS, hiS, Int.reduceEq, if_true, if_false, or_self, or_true, true_or, or_false, false_or] at hn e3 e4 ⊢
  rw [W1, es, ed, wrap64 (by omega) (by omega), or_add 12 (x := F) (y := fld s * 64) (by omega) (by omega) (by first | (simp; done) | (simp; omega)) (by omega) (by first | (simp; done) | (simp; omega)) (by omega), or_add 6 (x := F + fld s * 64) (y := fld d) (by omega) (by omega) (by first | (simp; done) | (simp; omega)) (by omega) (by first | (simp; done) | (simp; omega)) (by omega)] <;> omega
theorem V2 (e2 : 0 ≤ F) (e3 : F + bitS 2 ≤ 65536) (e4 : F % bitS 2 = 0) (hs : 0 ≤ fld s ∧ fld s < 64) (hd : 0 ≤ fld d ∧ fld d < 64) (hr : 0 ≤ r ∧ r ≤ 7) (hn : loS 2 ≤ m ∧ m ≤ hiS 2) (es : X.operand_Field s = fld s) (ed : X.operand_Field d = fld d) (d0 : dstS 2 = false → d = ⟨0, 0, 0⟩) : X.inst_form_word ⟨F, n, o, 2, y⟩ ⟨op, false, s, d, r, m⟩ = F + off 2 ⟨op, false, s, d, r, m⟩ := by
  simp only [off, bitS, loS, hiS, Int.reduceEq, if_true, if_false, or_self, or_true, true_or, or_false, false_or] at hn e3 e4 ⊢
  rw [W2, es, or_add 6 (x := F) (y := fld s) (by omega) (by omega) (by first | (simp; done) | (simp; omega)) (by omega) (by first | (simp; done) | (simp; omega)) (by omega)]
theorem V3 (e2 : 0 ≤ F) (e3 : F + bitS 3 ≤ 65536) (e4 : F % bitS 3 = 0) (hs : 0 ≤ fld s ∧ fld s < 64) (hd : 0 ≤ fld d ∧ fld d < 64) (hr : 0 ≤ r ∧ r ≤ 7) (hn : loS 3 ≤ m ∧ m ≤ hiS 3) (es : X.operand_Field s = fld s) (ed : X.operand_Field d = fld d) (d0 : dstS 3 = false → d = ⟨0, 0, 0⟩) : X.inst_form_word ⟨F, n, o, 3, y⟩ ⟨op, false, s, d, r, m⟩ = F + off 3 ⟨op, false, s, d, r, m⟩ := by
  simp only [off, bitS, loS, hiS, Int.reduceEq, if_true, if_false, or_self, or_true, true_or, or_false, false_or] at hn e3 e4 ⊢
  rw [W3, ed, show m = 0 by omega, or_add 6 (x := F) (y := fld d) (by omega) (by omega) (by first | (simp; done) | (simp; omega)) (by omega) (by first | (simp; done) | (simp; omega)) (by omega), or0 (by omega) (by omega)] <;> omega
theorem V4 (e2 : 0 ≤ F) (e3 : F + bitS 4 ≤ 65536) (e4 : F % bitS 4 = 0) (hs : 0 ≤ fld s ∧ fld s < 64) (hd : 0 ≤ fld d ∧ fld d < 64) (hr : 0 ≤ r ∧ r ≤ 7) (hn : loS 4 ≤ m ∧ m ≤ hiS 4) (es : X.operand_Field s = fld s) (ed : X.operand_Field d = fld d) (d0 : dstS 4 = false → d = ⟨0, 0, 0⟩) : X.inst_form_word ⟨F, n, o, 4, y⟩ ⟨op, false, s, d, r, m⟩ = F + off 4 ⟨op, false, s, d, r, m⟩ := by
  simp only [off, bitS, loS, hiS, Int.reduceEq, if_true, if_false, or_self, or_true, true_or, or_false, false_or] at hn e3 e4 ⊢
  rw [W4, ed, show m = 0 by omega, or_add 6 (x := F) (y := fld d) (by omega) (by omega) (by first | (simp; done) | (simp; omega)) (by omega) (by first | (simp; done) | (simp; omega)) (by omega), or0 (by omega) (by omega)] <;> omega
theorem V5 (e2 : 0 ≤ F) (e3 : F + bitS 5 ≤ 65536) (e4 : F % bitS 5 = 0) (hs : 0 ≤ fld s ∧ fld s < 64) (hd : 0 ≤ fld d ∧ fld d < 64) (hr : 0 ≤ r ∧ r ≤ 7) (hn : loS 5 ≤ m ∧ m ≤ hiS 5) (es : X.operand_Field s = fld s) (ed : X.operand_Field d = fld d) (d0 : dstS 5 = false → d = ⟨0, 0, 0⟩) : X.inst_form_word ⟨F, n, o, 5, y⟩ ⟨op, false, s, d, r, m⟩ = F + off 5 ⟨op, false, s, d, r, m⟩ := by
  simp only [off, bitS, loS, hiS, Int.reduceEq, if_true, if_false, or_self, or_true, true_or, or_false, false_or] at hn e3 e4 ⊢
  rw [W5, es, wrap64 (by omega) (by omega), or_add 9 (x := F) (y := r * 64) (by omega) (by omega) (by first | (simp; done) | (simp; omega)) (by omega) (by first | (simp; done) | (simp; omega)) (by omega), or_add 6 (x := F + r * 64) (y := fld s) (by omega) (by omega) (by first | (simp; done) | (simp; omega)) (by omega) (by first | (simp; done) | (simp; omega)) (by omega)] <;> omega
theorem V6 (e2 : 0 ≤ F) (e3 : F + bitS 6 ≤ 65536) (e4 : F % bitS 6 = 0) (hs : 0 ≤ fld s ∧ fld s < 64) (hd : 0 ≤ fld d ∧ fld d < 64) (hr : 0 ≤ r ∧ r ≤ 7) (hn : loS 6 ≤ m ∧ m ≤ hiS 6) (es : X.operand_Field s = fld s) (ed : X.operand_Field d = fld d) (d0 : dstS 6 = false → d = ⟨0, 0, 0⟩) : X.inst_form_word ⟨F, n, o, 6, y⟩ ⟨op, false, s, d, r, m⟩ = F + off 6 ⟨op, false, s, d, r, m⟩ := by
  simp only [off, bitS, loS, hiS, Int.reduceEq, if_true, if_false, or_self, or_true, true_or, or_false, false_or] at hn e3 e4 ⊢
  rw [W6, ed, show m = 0 by omega, wrap64 (by omega) (by omega), or_add 9 (x := F) (y := r * 64) (by omega) (by omega) (by first | (simp; done) | (simp; omega)) (by omega) (by first | (simp; done) | (simp; omega)) (by omega), or_add 6 (x := F + r * 64) (y := fld d) (by omega) (by omega) (by first | (simp; done) | (simp; omega)) (by omega) (by first | (simp; done) | (simp; omega)) (by omega), or0 (by omega) (by omega)] <;> omega
theorem V7 (e2 : 0 ≤ F) (e3 : F + bitS 7 ≤ 65536) (e4 : F % bitS 7 = 0) (hs : 0 ≤ fld s ∧ fld s < 64) (hd : 0 ≤ fld d ∧ fld d < 64) (hr : 0 ≤ r ∧ r ≤ 7) (hn : loS 7 ≤ m ∧ m ≤ hiS 7) (es : X.operand_Field s = fld s) (ed : X.operand_Field d = fld d) (d0 : dstS 7 = false → d = ⟨0, 0, 0⟩) : X.inst_form_word ⟨F, n, o, 7, y⟩ ⟨op, false, s, d, r, m⟩ = F + off 7 ⟨op, false, s, d, r, m⟩ := by
  simp only [off, bitS, loS, hiS, Int.reduceEq, if_true, if_false, or_self, or_true, true_or, or_false, false_or] at hn e3 e4 ⊢
  rw [W7, ed, show m = 0 by omega, wrap64 (by omega) (by omega), or_add 9 (x := F) (y := r * 64) (by omega) (by omega) (by first | (simp; done) | (simp; omega)) (by omega) (by first | (simp; done) | (simp; omega)) (by omega), or_add 6 (x := F + r * 64) (y := fld d) (by omega) (by omega) (by first | (simp; done) | (simp; omega)) (by omega) (by first | (simp; done) | (simp; omega)) (by omega), or0 (by omega) (by omega)] <;> omega
theorem V8 (e2 : 0 ≤ F) (e3 : F + bitS 8 ≤ 65536) (e4 : F % bitS 8 = 0) (hs : 0 ≤ fld s ∧ fld s < 64) (hd : 0 ≤ fld d ∧ fld d < 64) (hr : 0 ≤ r ∧ r ≤ 7) (hn : loS 8 ≤ m ∧ m ≤ hiS 8) (es : X.operand_Field s = fld s) (ed : X.operand_Field d = fld d) (d0 : dstS 8 = false → d = ⟨0, 0, 0⟩) : X.inst_form_word ⟨F, n, o, 8, y⟩ ⟨op, false, s, d, r, m⟩ = F + off 8 ⟨op, false, s, d, r, m⟩ := by
  simp only [off, bitS, loS, hiS, Int.reduceEq, if_true, if_false, or_self, or_true, true_or, or_false, false_or] at hn e3 e4 ⊢
  rw [W8, or_add 3 (x := F) (y := r) (by omega) (by omega) (by first | (simp; done) | (simp; omega)) (by omega) (by first | (simp; done) | (simp; omega)) (by omega)]
theorem V9 (e2 : 0 ≤ F) (e3 : F + bitS 9 ≤ 65536) (e4 : F % bitS 9 = 0) (hs : 0 ≤ fld s ∧ fld s < 64) (hd : 0 ≤ fld d ∧ fld d < 64) (hr : 0 ≤ r ∧ r ≤ 7) (hn : loS 9 ≤ m ∧ m ≤ hiS 9) (es : X.operand_Field s = fld s) (ed : X.operand_Field d = fld d) (d0 : dstS 9 = false → d = ⟨0, 0, 0⟩) : X.inst_form_word ⟨F, n, o, 9, y⟩ ⟨op, false, s, d, r, m⟩ = F + off 9 ⟨op, false, s, d, r, m⟩ := by
  simp only [off, bitS, loS, hiS, Int.reduceEq, if_true, if_false, or_self, or_true, true_or, or_false, false_or] at hn e3 e4 ⊢
  rw [W9, mask8, or_add 8 (x := F) (y := m % 256) (by omega) (by omega) (by first | (simp; done) | (simp; omega)) (by omega) (by first | (simp; done) | (simp; omega)) (by omega)]
theorem V10 (e2 : 0 ≤ F) (e3 : F + bitS 10 ≤ 65536) (e4 : F % bitS 10 = 0) (hs : 0 ≤ fld s ∧ fld s < 64) (hd : 0 ≤ fld d ∧ fld d < 64) (hr : 0 ≤ r ∧ r ≤ 7) (hn : loS 10 ≤ m ∧ m ≤ hiS 10) (es : X.operand_Field s = fld s) (ed : X.operand_Field d = fld d) (d0 : dstS 10 = false → d = ⟨0, 0, 0⟩) : X.inst_form_word ⟨F, n, o, 10, y⟩ ⟨op, false, s, d, r, m⟩ = F + off 10 ⟨op, false, s, d, r, m⟩ := by
  simp only [off, bitS, loS, hiS, Int.reduceEq, if_true, if_false, or_self, or_true, true_or, or_false, false_or] at hn e3 e4 ⊢
  rw [W10, wrap64 (by omega) (by omega), or_add 9 (x := F) (y := r * 64) (by omega) (by omega) (by first | (simp; done) | (simp; omega)) (by omega) (by first | (simp; done) | (simp; omega)) (by omega), or_add 6 (x := F + r * 64) (y := m) (by omega) (by omega) (by first | (simp; done) | (simp; omega)) (by omega) (by first | (simp; done) | (simp; omega)) (by omega)] <;> omega
theorem V11 (e2 : 0 ≤ F) (e3 : F + bitS 11 ≤ 65536) (e4 : F % bitS 11 = 0) (hs : 0 ≤ fld s ∧ fld s < 64) (hd : 0 ≤ fld d ∧ fld d < 64) (hr : 0 ≤ r ∧ r ≤ 7) (hn : loS 11 ≤ m ∧ m ≤ hiS 11) (es : X.operand_Field s = fld s) (ed : X.operand_Field d = fld d) (d0 : dstS 11 = false → d = ⟨0, 0, 0⟩) : X.inst_form_word ⟨F, n, o, 11, y⟩ ⟨op, false, s, d, r, m⟩ = F + off 11 ⟨op, false, s, d, r, m⟩ := by
  simp only [off, bitS, loS, hiS, Int.reduceEq, if_true, if_false, or_self, or_true, true_or, or_false, false_or] at hn e3 e4 ⊢
  rw [W11, d0 rfl, f0, or0 e2 (by omega), or_add 8 (x := F) (y := m) (by omega) (by omega) (by first | (simp; done) | (simp; omega)) (by omega) (by first | (simp; done) | (simp; omega)) (by omega)]
theorem V12 (e2 : 0 ≤ F) (e3 : F + bitS 12 ≤ 65536) (e4 : F % bitS 12 = 0) (hs : 0 ≤ fld s ∧ fld s < 64) (hd : 0 ≤ fld d ∧ fld d < 64) (hr : 0 ≤ r ∧ r ≤ 7) (hn : loS 12 ≤ m ∧ m ≤ hiS 12) (es : X.operand_Field s = fld s) (ed : X.operand_Field d = fld d) (d0 : dstS 12 = false → d = ⟨0, 0, 0⟩) : X.inst_form_word ⟨F, n, o, 12, y⟩ ⟨op, false, s, d, r, m⟩ = F + off 12 ⟨op, false, s, d, r, m⟩ := by
  simp only [off, bitS, loS, hiS, Int.reduceEq, if_true, if_false, or_self, or_true, true_or, or_false, false_or] at hn e3 e4 ⊢
  rw [W12, d0 rfl, f0, or0 e2 (by omega), or_add 4 (x := F) (y := m) (by omega) (by omega) (by first | (simp; done) | (simp; omega)) (by omega) (by first | (simp; done) | (simp; omega)) (by omega)]
end
theorem wordB (f : M.Inst_form) (i : M.Inst) : X.inst_form_word f i = X.inst_form_word ⟨(bif i.Byte then bitOf BinOp.or IntKind.i64 f.first 32768 else f.first), f.bits, f.op, f.shape, f.bytes⟩ ⟨i.Op, false, i.Src, i.Dst, i.Reg, i.Num⟩ := by
  unfold X.inst_form_word
  cases i.Byte <;> simp only [cond_true, cond_false]
theorem wordE {f : M.Inst_form} (t : TF f) {i : M.Inst} (v : VI i) (ho : f.op = i.Op) : X.inst_form_word f i = f.first + bb i.Byte + off f.shape i := by
  have hs := fld_r v.ovs
  have hd := fld_r v.ovd
  have hr := v.reg
  have hn := v.num
  rw [← ho, t.lo, t.hi] at hn
  have ht := t.shape
  obtain ⟨e1, e2, e3, e4⟩ := or_first t v ho
  rw [wordB, e1]
  have d0 := dst0 t v ho
  have es := fieldP v.ovs
  have ed := fieldP v.ovd
  clear t v e1
  generalize f.first + bb i.Byte = F at e2 e3 e4 ⊢
  obtain ⟨first, bits, op, shape, bytes⟩ := f
  have ho : off shape i = off shape ⟨i.Op, false, i.Src, i.Dst, i.Reg, i.Num⟩ := rfl
  simp only at hn ht e3 e4 d0 ⊢
  rw [ho]
  have hc : shape = 0 ∨ shape = 1 ∨ shape = 2 ∨ shape = 3 ∨ shape = 4 ∨ shape = 5 ∨ shape = 6 ∨ shape = 7 ∨ shape = 8 ∨ shape = 9 ∨ shape = 10 ∨ shape = 11 ∨ shape = 12 := by omega
  rcases hc with h | h | h | h | h | h | h | h | h | h | h | h | h <;> subst h
  · exact V0 e2 e3 e4 hs hd hr hn es ed d0
  · exact V1 e2 e3 e4 hs hd hr hn es ed d0
  · exact V2 e2 e3 e4 hs hd hr hn es ed d0
  · exact V3 e2 e3 e4 hs hd hr hn es ed d0
  · exact V4 e2 e3 e4 hs hd hr hn es ed d0
  · exact V5 e2 e3 e4 hs hd hr hn es ed d0
  · exact V6 e2 e3 e4 hs hd hr hn es ed d0
  · exact V7 e2 e3 e4 hs hd hr hn es ed d0
  · exact V8 e2 e3 e4 hs hd hr hn es ed d0
  · exact V9 e2 e3 e4 hs hd hr hn es ed d0
  · exact V10 e2 e3 e4 hs hd hr hn es ed d0
  · exact V11 e2 e3 e4 hs hd hr hn es ed d0
  · exact V12 e2 e3 e4 hs hd hr hn es ed d0

theorem mkE {f : M.Inst_form} (t : TF f) {i : M.Inst} (v : VI i) (ho : f.op = i.Op) : mk f i.Byte (f.first + bb i.Byte + off f.shape i) = ⟨i.Op, i.Byte, z0 i.Src, z0 i.Dst, i.Reg, i.Num⟩ := by
  have hs := fld_r v.ovs
  have hd := fld_r v.ovd
  have hr := v.reg
  have hn := v.num
  rw [← ho, t.lo, t.hi] at hn
  have ht := t.shape
  obtain ⟨e1, e2, e3, e4⟩ := or_first t v ho
  have s0 := src0 t v ho
  have d0 := dst0 t v ho
  have r0 := reg0 t v ho
  have vs := v.ovs
  have vd := v.ovd
  clear t v
  generalize hF : f.first + bb i.Byte = F at e2 e3 e4 ⊢
  obtain ⟨first, bits, op, shape, bytes⟩ := f
  simp only at ho hn ht e2 e3 e4 s0 d0 r0 ⊢
  clear e1
  have hc : shape = 0 ∨ shape = 1 ∨ shape = 2 ∨ shape = 3 ∨ shape = 4 ∨ shape = 5 ∨ shape = 6 ∨ shape = 7 ∨ shape = 8 ∨ shape = 9 ∨ shape = 10 ∨ shape = 11 ∨ shape = 12 := by omega
  have zz : (⟨0, 0, 0⟩ : M.Operand) = z0 ⟨0, 0, 0⟩ := rfl
  rcases hc with h | h | h | h | h | h | h | h | h | h | h | h | h <;> subst h <;>
    simp only [srcS, dstS, regS, Int.reduceBEq, Bool.or_self, Bool.or_true, Bool.or_false, Bool.true_or, reduceCtorEq, false_imp_iff, true_imp_iff, forall_const] at s0 d0 r0 <;>
    simp only [off, bitS, loS, hiS, Int.reduceEq, if_true, if_false, or_self, or_true, true_or, or_false, false_or] at hn e3 e4 ⊢ <;> unfold mk
  · rw [F0]; dsimp only; exact inst_ext ho (by rw [s0, ← zz]) (by rw [d0, ← zz]) r0.symm (by omega)
  · rw [F1]; dsimp only; exact inst_ext ho (frmE vs (F / 64 / 64) (by omega)) (frmE vd (F / 64 + fld i.Src) (by omega)) r0.symm (by omega)
  · rw [F2]; dsimp only; exact inst_ext ho (frmE vs (F / 64) (by omega)) (by rw [d0, ← zz]) r0.symm (by omega)
  · rw [F3]; dsimp only; exact inst_ext ho (by rw [s0, ← zz]) (frmE vd (F / 64) (by omega)) r0.symm (by omega)
  · rw [F4]; dsimp only; exact inst_ext ho (by rw [s0, ← zz]) (frmE vd (F / 64) (by omega)) r0.symm (by omega)
  · rw [F5]; dsimp only; exact inst_ext ho (frmE vs (F / 64 + i.Reg) (by omega)) (by rw [d0, ← zz]) (by show (_ : Int) = _; omega) (by omega)
  · rw [F6]; dsimp only; exact inst_ext ho (by rw [s0, ← zz]) (frmE vd (F / 64 + i.Reg) (by omega)) (by show (_ : Int) = _; omega) (by omega)
  · rw [F7]; dsimp only; exact inst_ext ho (by rw [s0, ← zz]) (frmE vd (F / 64 + i.Reg) (by omega)) (by show (_ : Int) = _; omega) (by omega)
  · rw [F8]; dsimp only; exact inst_ext ho (by rw [s0, ← zz]) (by rw [d0, ← zz]) (by show (_ : Int) = _; omega) (by omega)
  · rw [F9]; dsimp only; exact inst_ext ho (by rw [s0, ← zz]) (by rw [d0, ← zz]) r0.symm (by show sgn _ = _; unfold sgn; split <;> omega)
  · rw [F10]; dsimp only; exact inst_ext ho (by rw [s0, ← zz]) (by rw [d0, ← zz]) (by show (_ : Int) = _; omega) (by show (_ : Int) = _; omega)
  · rw [F11]; dsimp only; exact inst_ext ho (by rw [s0, ← zz]) (by rw [d0, ← zz]) r0.symm (by show (_ : Int) = _; omega)
  · rw [F12]; dsimp only; exact inst_ext ho (by rw [s0, ← zz]) (by rw [d0, ← zz]) r0.symm (by show (_ : Int) = _; omega)

/-- The word of a valid instruction and what it is. -/
theorem word_shape {f : M.Inst_form} {i : M.Inst} (hf : byOp i.Op forms = some f) (v : VI i) :
    bitOf BinOp.and IntKind.i64 (X.inst_form_word f i) 65535 = X.R06_first i ∧ 0 ≤ X.R06_first i ∧ X.R06_first i < 65536 ∧ X.R06_shape (X.R06_first i) = ⟨i.Op, i.Byte, z0 i.Src, z0 i.Dst, i.Reg, i.Num⟩ := by
  obtain ⟨hm, ho⟩ := byOp_some hf
  have t := tf_of hm
  have e1 := wordE t v ho
  have e2 : X.R06_first i = _ := fs_all f hm i ho.symm v
  have e3 := mkE t v ho
  have q := off_r t v ho
  obtain ⟨k1, k2, k3, k4⟩ := or_first t v ho
  have b0 : 0 ≤ X.R06_first i := by omega
  have b1 : X.R06_first i < 65536 := by omega
  have hh := hitE t b0 b1 e2 k4 q
  refine ⟨by rw [e1, ← e2, mask16]; omega, b0, b1, ?_⟩
  rw [shape_eq b0 b1]
  have qq := q_all b0 b1 f hm
  rw [← e3, ← e2]
  cases hb : i.Byte with
  | false =>
    rw [hb] at hh
    exact qq.1 (by rw [hh]; simp [bb])
  | true =>
    have k := v.byte hb
    rw [← ho, t.byte] at k
    rw [hb] at hh
    exact qq.2 k (by rw [hh, (t.bytes k).2.2]; rfl)
end PL
end Go.Proofs.Ytnonimnhninafaa.Ab
