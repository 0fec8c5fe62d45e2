/- The first word of a valid instruction; printed by a program of the session. -/
import Derived.Test.YtnonimnhninafaaAbP9
namespace Go.Proofs.Ytnonimnhninafaa.Ab
open Go
set_option linter.unusedVariables false
set_option linter.unusedSimpArgs false
namespace PL
set_option maxRecDepth 100000

def fld (o : M.Operand) : Int := o.Mode * 8 + o.Reg
def srcS (s : Int) : Bool := s == 1 || (s == 2 || s == 5)
def dstS (s : Int) : Bool := s == 1 || (s == 3 || (s == 4 || (s == 6 || s == 7)))
def regS (s : Int) : Bool := s == 5 || (s == 6 || (s == 7 || (s == 8 || s == 10)))
def bitS (s : Int) : Int := if s = 1 then 4096 else if s = 5 ∨ s = 6 ∨ s = 7 ∨ s = 10 then 512 else if s = 9 ∨ s = 11 then 256 else if s = 8 then 8 else if s = 12 then 16 else if s = 0 then 1 else 64
def loS (s : Int) : Int := if s = 9 then -128 else 0
def hiS (s : Int) : Int := if s = 9 then 127 else if s = 10 then 63 else if s = 11 then 255 else if s = 12 then 15 else 0
def off (s : Int) (i : M.Inst) : Int :=
  if s = 1 then 64 * fld i.Src + fld i.Dst else if s = 5 then 64 * i.Reg + fld i.Src else if s = 9 then i.Num % 256 else if s = 10 then 64 * i.Reg + i.Num else if s = 8 then i.Reg
  else if s = 2 then fld i.Src else if s = 6 ∨ s = 7 then 64 * i.Reg + fld i.Dst else if s = 3 ∨ s = 4 then fld i.Dst else i.Num
def bb (b : Bool) : Int := bif b then 32768 else 0
instance : BEq M.Inst_form := ⟨fun a b => decide (a.first = b.first ∧ a.bits = b.bits ∧ a.op = b.op ∧ a.shape = b.shape ∧ a.bytes = b.bytes)⟩
def tf (f : M.Inst_form) : Bool :=
  decide (0 ≤ f.shape ∧ f.shape ≤ 12) && (decide ((2 : Int) ^ (Min.min (Int.toNat f.bits) 64) = bitS f.shape) && (decide (0 ≤ f.first ∧ f.first + bitS f.shape ≤ 65536 ∧ f.first % bitS f.shape = 0) &&
  ((!f.bytes || decide (f.first + bitS f.shape ≤ 32768 ∧ 32768 % bitS f.shape = 0 ∧ bitOf BinOp.or IntKind.i64 f.first 32768 = f.first + 32768)) && ((X.R06_Hassrc f.op == srcS f.shape) && ((X.R06_Hasdst f.op == dstS f.shape) && ((X.R06_Hasreg f.op == regS f.shape) &&
  ((X.R06_Hasbyte f.op == f.bytes) && (decide (X.R06_least f.op = loS f.shape) && (decide (X.R06_greatest f.op = hiS f.shape) && ((byOp f.op forms == some f)))))))))))

theorem tf_all : forms.all tf = true := by kernel_rfl
theorem ops_all : (List.range 56).all (fun n => (byOp ((n : Int) + 1) forms).isSome) = true := by kernel_rfl
theorem byOp_ex {o : Int} (h : 1 ≤ o ∧ o ≤ 56) : ∃ f, byOp o forms = some f := by
  have := ops_all
  rw [List.all_eq_true] at this
  have h2 := this (o - 1).toNat (by rw [List.mem_range]; omega)
  rw [show (((o - 1).toNat : Nat) : Int) + 1 = o by omega] at h2
  exact Option.isSome_iff_exists.1 h2
theorem byOp_no {o : Int} {f : M.Inst_form} (h : byOp o forms = some f) : 1 ≤ o ∧ o ≤ 56 := by
  obtain ⟨h1, rfl⟩ := byOp_some h
  have : forms.all (fun f => decide (1 ≤ f.op ∧ f.op ≤ 56)) = true := by decide
  rw [List.all_eq_true] at this
  exact of_decide_eq_true (this f h1)

structure TF (f : M.Inst_form) : Prop where
  shape : 0 ≤ f.shape ∧ f.shape ≤ 12
  bits : (2 : Int) ^ (Min.min (Int.toNat f.bits) 64) = bitS f.shape
  first : 0 ≤ f.first ∧ f.first + bitS f.shape ≤ 65536 ∧ f.first % bitS f.shape = 0
  bytes : f.bytes = true → f.first + bitS f.shape ≤ 32768 ∧ 32768 % bitS f.shape = 0 ∧ bitOf BinOp.or IntKind.i64 f.first 32768 = f.first + 32768
  src : X.R06_Hassrc f.op = srcS f.shape
  dst : X.R06_Hasdst f.op = dstS f.shape
  reg : X.R06_Hasreg f.op = regS f.shape
  byte : X.R06_Hasbyte f.op = f.bytes
  lo : X.R06_least f.op = loS f.shape
  hi : X.R06_greatest f.op = hiS f.shape
theorem tf_of {f : M.Inst_form} (h : f ∈ forms) : TF f := by
  have := tf_all
  rw [List.all_eq_true] at this
  have h := this f h
  unfold tf at h
  simp only [Bool.and_eq_true, decide_eq_true_eq, Bool.or_eq_true, Bool.not_eq_true', beq_iff_eq] at h
  obtain ⟨h1, h2, h3, h4, h5, h6, h7, h8, h9, h10, _⟩ := h
  refine ⟨h1, h2, h3, fun hb => ?_, h5, h6, h7, h8, h9, h10⟩
  rcases h4 with h4 | h4
  · rw [hb] at h4; cases h4
  · exact h4

theorem fld_r {o : M.Operand} (h : OV o) : 0 ≤ fld o ∧ fld o < 64 := by have := h.mode; have := h.reg; unfold fld; omega
theorem fieldP {o : M.Operand} (h : OV o) : X.operand_Field o = fld o := by
  have h1 := h.mode
  have h2 := h.reg
  unfold X.operand_Field X.operand_mode X.operand_reg fld
  rw [mask3, mask3, show ((2 : Int) ^ (3 : Nat)) = 8 from rfl]
  have e1 : o.Mode % 8 = o.Mode := by omega
  have e2 : o.Reg % 8 = o.Reg := by omega
  rw [e1, e2, wrap64 (by omega) (by omega)]
  exact or_add 3 (by omega) (by omega) (by first | (simp; done) | (simp; omega)) (by omega) (by first | (simp; done) | (simp; omega)) (by omega)
theorem fieldR {o : M.Operand} (h : OV o) : X.R05_Field o = fld o := by
  have h1 := h.mode
  have h2 := h.reg
  unfold X.R05_Field X.R05_Mode X.R05_Register fld
  rw [mask3, mask3]
  have e1 : o.Mode % 8 = o.Mode := by omega
  have e2 : o.Reg % 8 = o.Reg := by omega
  rw [e1, e2, wrap64 (x := 8 * o.Mode) (by omega) (by omega), wrap64 (by omega) (by omega)]
  omega
theorem ov0 : OV ⟨0, 0, 0⟩ := ⟨by decide, by decide, by decide, .inl rfl⟩
theorem VI.ovs {i : M.Inst} (v : VI i) : OV i.Src := by
  rcases v.src with ⟨_, h⟩ | ⟨_, h⟩
  · exact h
  · rw [h]; exact ov0
theorem VI.ovd {i : M.Inst} (v : VI i) : OV i.Dst := by
  rcases v.dst with ⟨_, h⟩ | ⟨_, h⟩
  · exact h
  · rw [h]; exact ov0

theorem fs0 {i : M.Inst} (ho : i.Op = 1) (v : VI i) : X.R06_first i = 4096 + bb i.Byte + off 1 i := by
  have es := fieldR v.ovs
  have ed := fieldR v.ovd
  obtain ⟨s0, s1⟩ := fld_r v.ovs
  obtain ⟨d0, d1⟩ := fld_r v.ovd
  obtain ⟨r0, r1⟩ := v.reg
  have hn := v.num
  have hb := v.byte
  rw [ho] at hn hb
  have hn : 0 ≤ i.Num ∧ i.Num ≤ 0 := hn
  unfold X.R06_first
  rw [ho, es, ed]
  simp only [X.R06_Islong, ge_iff_le, Int.reduceLE, decide_true, decide_false, cond_true, cond_false, Int.reduceBEq, Int.reduceSub, Int.reduceAdd, Int.reduceMul, off, Int.reduceEq, if_true, if_false, or_self, or_true, true_or, or_false, false_or]
  cases i.Byte <;> simp only [bb, cond_true, cond_false]
  · (try simp (disch := omega) only [wrap64, Int.tmod_eq_emod_of_nonneg]) <;> omega
  · (try simp (disch := omega) only [wrap64, Int.tmod_eq_emod_of_nonneg]) <;> omega
theorem fs1 {i : M.Inst} (ho : i.Op = 2) (v : VI i) : X.R06_first i = 8192 + bb i.Byte + off 1 i := by
  have es := fieldR v.ovs
  have ed := fieldR v.ovd
  obtain ⟨s0, s1⟩ := fld_r v.ovs
  obtain ⟨d0, d1⟩ := fld_r v.ovd
  obtain ⟨r0, r1⟩ := v.reg
  have hn := v.num
  have hb := v.byte
  rw [ho] at hn hb
  have hn : 0 ≤ i.Num ∧ i.Num ≤ 0 := hn
  unfold X.R06_first
  rw [ho, es, ed]
  simp only [X.R06_Islong, ge_iff_le, Int.reduceLE, decide_true, decide_false, cond_true, cond_false, Int.reduceBEq, Int.reduceSub, Int.reduceAdd, Int.reduceMul, off, Int.reduceEq, if_true, if_false, or_self, or_true, true_or, or_false, false_or]
  cases i.Byte <;> simp only [bb, cond_true, cond_false]
  · (try simp (disch := omega) only [wrap64, Int.tmod_eq_emod_of_nonneg]) <;> omega
  · (try simp (disch := omega) only [wrap64, Int.tmod_eq_emod_of_nonneg]) <;> omega
theorem fs2 {i : M.Inst} (ho : i.Op = 3) (v : VI i) : X.R06_first i = 12288 + bb i.Byte + off 1 i := by
  have es := fieldR v.ovs
  have ed := fieldR v.ovd
  obtain ⟨s0, s1⟩ := fld_r v.ovs
  obtain ⟨d0, d1⟩ := fld_r v.ovd
  obtain ⟨r0, r1⟩ := v.reg
  have hn := v.num
  have hb := v.byte
  rw [ho] at hn hb
  have hn : 0 ≤ i.Num ∧ i.Num ≤ 0 := hn
  unfold X.R06_first
  rw [ho, es, ed]
  simp only [X.R06_Islong, ge_iff_le, Int.reduceLE, decide_true, decide_false, cond_true, cond_false, Int.reduceBEq, Int.reduceSub, Int.reduceAdd, Int.reduceMul, off, Int.reduceEq, if_true, if_false, or_self, or_true, true_or, or_false, false_or]
  cases i.Byte <;> simp only [bb, cond_true, cond_false]
  · (try simp (disch := omega) only [wrap64, Int.tmod_eq_emod_of_nonneg]) <;> omega
  · (try simp (disch := omega) only [wrap64, Int.tmod_eq_emod_of_nonneg]) <;> omega
theorem fs3 {i : M.Inst} (ho : i.Op = 4) (v : VI i) : X.R06_first i = 16384 + bb i.Byte + off 1 i := by
  have es := fieldR v.ovs
  have ed := fieldR v.ovd
  obtain ⟨s0, s1⟩ := fld_r v.ovs
  obtain ⟨d0, d1⟩ := fld_r v.ovd
  obtain ⟨r0, r1⟩ := v.reg
  have hn := v.num
  have hb := v.byte
  rw [ho] at hn hb
  have hn : 0 ≤ i.Num ∧ i.Num ≤ 0 := hn
  unfold X.R06_first
  rw [ho, es, ed]
  simp only [X.R06_Islong, ge_iff_le, Int.reduceLE, decide_true, decide_false, cond_true, cond_false, Int.reduceBEq, Int.reduceSub, Int.reduceAdd, Int.reduceMul, off, Int.reduceEq, if_true, if_false, or_self, or_true, true_or, or_false, false_or]
  cases i.Byte <;> simp only [bb, cond_true, cond_false]
  · (try simp (disch := omega) only [wrap64, Int.tmod_eq_emod_of_nonneg]) <;> omega
  · (try simp (disch := omega) only [wrap64, Int.tmod_eq_emod_of_nonneg]) <;> omega
theorem fs4 {i : M.Inst} (ho : i.Op = 5) (v : VI i) : X.R06_first i = 20480 + bb i.Byte + off 1 i := by
  have es := fieldR v.ovs
  have ed := fieldR v.ovd
  obtain ⟨s0, s1⟩ := fld_r v.ovs
  obtain ⟨d0, d1⟩ := fld_r v.ovd
  obtain ⟨r0, r1⟩ := v.reg
  have hn := v.num
  have hb := v.byte
  rw [ho] at hn hb
  have hn : 0 ≤ i.Num ∧ i.Num ≤ 0 := hn
  unfold X.R06_first
  rw [ho, es, ed]
  simp only [X.R06_Islong, ge_iff_le, Int.reduceLE, decide_true, decide_false, cond_true, cond_false, Int.reduceBEq, Int.reduceSub, Int.reduceAdd, Int.reduceMul, off, Int.reduceEq, if_true, if_false, or_self, or_true, true_or, or_false, false_or]
  cases i.Byte <;> simp only [bb, cond_true, cond_false]
  · (try simp (disch := omega) only [wrap64, Int.tmod_eq_emod_of_nonneg]) <;> omega
  · (try simp (disch := omega) only [wrap64, Int.tmod_eq_emod_of_nonneg]) <;> omega
theorem fs5 {i : M.Inst} (ho : i.Op = 6) (v : VI i) : X.R06_first i = 24576 + bb i.Byte + off 1 i := by
  have es := fieldR v.ovs
  have ed := fieldR v.ovd
  obtain ⟨s0, s1⟩ := fld_r v.ovs
  obtain ⟨d0, d1⟩ := fld_r v.ovd
  obtain ⟨r0, r1⟩ := v.reg
  have hn := v.num
  have hb := v.byte
  rw [ho] at hn hb
  have hn : 0 ≤ i.Num ∧ i.Num ≤ 0 := hn
  have hb : i.Byte = false := Bool.eq_false_iff.2 fun h => absurd (hb h) (by decide)
  unfold X.R06_first
  rw [ho, es, ed]
  simp only [X.R06_Islong, ge_iff_le, Int.reduceLE, decide_true, decide_false, cond_true, cond_false, Int.reduceBEq, Int.reduceSub, Int.reduceAdd, Int.reduceMul, off, Int.reduceEq, if_true, if_false, or_self, or_true, true_or, or_false, false_or]
  rw [hb]
  simp only [bb, cond_false]
  (try simp (disch := omega) only [wrap64, Int.tmod_eq_emod_of_nonneg]) <;> omega
theorem fs6 {i : M.Inst} (ho : i.Op = 7) (v : VI i) : X.R06_first i = 57344 + bb i.Byte + off 1 i := by
  have es := fieldR v.ovs
  have ed := fieldR v.ovd
  obtain ⟨s0, s1⟩ := fld_r v.ovs
  obtain ⟨d0, d1⟩ := fld_r v.ovd
  obtain ⟨r0, r1⟩ := v.reg
  have hn := v.num
  have hb := v.byte
  rw [ho] at hn hb
  have hn : 0 ≤ i.Num ∧ i.Num ≤ 0 := hn
  have hb : i.Byte = false := Bool.eq_false_iff.2 fun h => absurd (hb h) (by decide)
  unfold X.R06_first
  rw [ho, es, ed]
  simp only [X.R06_Islong, ge_iff_le, Int.reduceLE, decide_true, decide_false, cond_true, cond_false, Int.reduceBEq, Int.reduceSub, Int.reduceAdd, Int.reduceMul, off, Int.reduceEq, if_true, if_false, or_self, or_true, true_or, or_false, false_or]
  rw [hb]
  simp only [bb, cond_false]
  (try simp (disch := omega) only [wrap64, Int.tmod_eq_emod_of_nonneg]) <;> omega
theorem fs7 {i : M.Inst} (ho : i.Op = 8) (v : VI i) : X.R06_first i = 28672 + bb i.Byte + off 5 i := by
  have es := fieldR v.ovs
  have ed := fieldR v.ovd
  obtain ⟨s0, s1⟩ := fld_r v.ovs
  obtain ⟨d0, d1⟩ := fld_r v.ovd
  obtain ⟨r0, r1⟩ := v.reg
  have hn := v.num
  have hb := v.byte
  rw [ho] at hn hb
  have hn : 0 ≤ i.Num ∧ i.Num ≤ 0 := hn
  have hb : i.Byte = false := Bool.eq_false_iff.2 fun h => absurd (hb h) (by decide)
  unfold X.R06_first
  rw [ho, es, ed]
  simp only [X.R06_Islong, ge_iff_le, Int.reduceLE, decide_true, decide_false, cond_true, cond_false, Int.reduceBEq, Int.reduceSub, Int.reduceAdd, Int.reduceMul, off, Int.reduceEq, if_true, if_false, or_self, or_true, true_or, or_false, false_or]
  rw [hb]
  simp only [bb, cond_false]
  (try simp (disch := omega) only [wrap64, Int.tmod_eq_emod_of_nonneg]) <;> omega
theorem fs8 {i : M.Inst} (ho : i.Op = 9) (v : VI i) : X.R06_first i = 29184 + bb i.Byte + off 5 i := by
  have es := fieldR v.ovs
  have ed := fieldR v.ovd
  obtain ⟨s0, s1⟩ := fld_r v.ovs
  obtain ⟨d0, d1⟩ := fld_r v.ovd
  obtain ⟨r0, r1⟩ := v.reg
  have hn := v.num
  have hb := v.byte
  rw [ho] at hn hb
  have hn : 0 ≤ i.Num ∧ i.Num ≤ 0 := hn
  have hb : i.Byte = false := Bool.eq_false_iff.2 fun h => absurd (hb h) (by decide)
  unfold X.R06_first
  rw [ho, es, ed]
  simp only [X.R06_Islong, ge_iff_le, Int.reduceLE, decide_true, decide_false, cond_true, cond_false, Int.reduceBEq, Int.reduceSub, Int.reduceAdd, Int.reduceMul, off, Int.reduceEq, if_true, if_false, or_self, or_true, true_or, or_false, false_or]
  rw [hb]
  simp only [bb, cond_false]
  (try simp (disch := omega) only [wrap64, Int.tmod_eq_emod_of_nonneg]) <;> omega
theorem fs9 {i : M.Inst} (ho : i.Op = 10) (v : VI i) : X.R06_first i = 29696 + bb i.Byte + off 5 i := by
  have es := fieldR v.ovs
  have ed := fieldR v.ovd
  obtain ⟨s0, s1⟩ := fld_r v.ovs
  obtain ⟨d0, d1⟩ := fld_r v.ovd
  obtain ⟨r0, r1⟩ := v.reg
  have hn := v.num
  have hb := v.byte
  rw [ho] at hn hb
  have hn : 0 ≤ i.Num ∧ i.Num ≤ 0 := hn
  have hb : i.Byte = false := Bool.eq_false_iff.2 fun h => absurd (hb h) (by decide)
  unfold X.R06_first
  rw [ho, es, ed]
  simp only [X.R06_Islong, ge_iff_le, Int.reduceLE, decide_true, decide_false, cond_true, cond_false, Int.reduceBEq, Int.reduceSub, Int.reduceAdd, Int.reduceMul, off, Int.reduceEq, if_true, if_false, or_self, or_true, true_or, or_false, false_or]
  rw [hb]
  simp only [bb, cond_false]
  (try simp (disch := omega) only [wrap64, Int.tmod_eq_emod_of_nonneg]) <;> omega
theorem fs10 {i : M.Inst} (ho : i.Op = 11) (v : VI i) : X.R06_first i = 30720 + bb i.Byte + off 6 i := by
  have es := fieldR v.ovs
  have ed := fieldR v.ovd
  obtain ⟨s0, s1⟩ := fld_r v.ovs
  obtain ⟨d0, d1⟩ := fld_r v.ovd
  obtain ⟨r0, r1⟩ := v.reg
  have hn := v.num
  have hb := v.byte
  rw [ho] at hn hb
  have hn : 0 ≤ i.Num ∧ i.Num ≤ 0 := hn
  have hb : i.Byte = false := Bool.eq_false_iff.2 fun h => absurd (hb h) (by decide)
  unfold X.R06_first
  rw [ho, es, ed]
  simp only [X.R06_Islong, ge_iff_le, Int.reduceLE, decide_true, decide_false, cond_true, cond_false, Int.reduceBEq, Int.reduceSub, Int.reduceAdd, Int.reduceMul, off, Int.reduceEq, if_true, if_false, or_self, or_true, true_or, or_false, false_or]
  rw [hb]
  simp only [bb, cond_false]
  (try simp (disch := omega) only [wrap64, Int.tmod_eq_emod_of_nonneg]) <;> omega
theorem fs11 {i : M.Inst} (ho : i.Op = 12) (v : VI i) : X.R06_first i = 2560 + bb i.Byte + off 3 i := by
  have es := fieldR v.ovs
  have ed := fieldR v.ovd
  obtain ⟨s0, s1⟩ := fld_r v.ovs
  obtain ⟨d0, d1⟩ := fld_r v.ovd
  obtain ⟨r0, r1⟩ := v.reg
  have hn := v.num
  have hb := v.byte
  rw [ho] at hn hb
  have hn : 0 ≤ i.Num ∧ i.Num ≤ 0 := hn
  unfold X.R06_first
  rw [ho, es, ed]
  simp only [X.R06_Islong, ge_iff_le, Int.reduceLE, decide_true, decide_false, cond_true, cond_false, Int.reduceBEq, Int.reduceSub, Int.reduceAdd, Int.reduceMul, off, Int.reduceEq, if_true, if_false, or_self, or_true, true_or, or_false, false_or]
  cases i.Byte <;> simp only [bb, cond_true, cond_false]
  · (try simp (disch := omega) only [wrap64, Int.tmod_eq_emod_of_nonneg]) <;> omega
  · (try simp (disch := omega) only [wrap64, Int.tmod_eq_emod_of_nonneg]) <;> omega
theorem fs12 {i : M.Inst} (ho : i.Op = 13) (v : VI i) : X.R06_first i = 2624 + bb i.Byte + off 3 i := by
  have es := fieldR v.ovs
  have ed := fieldR v.ovd
  obtain ⟨s0, s1⟩ := fld_r v.ovs
  obtain ⟨d0, d1⟩ := fld_r v.ovd
  obtain ⟨r0, r1⟩ := v.reg
  have hn := v.num
  have hb := v.byte
  rw [ho] at hn hb
  have hn : 0 ≤ i.Num ∧ i.Num ≤ 0 := hn
  unfold X.R06_first
  rw [ho, es, ed]
  simp only [X.R06_Islong, ge_iff_le, Int.reduceLE, decide_true, decide_false, cond_true, cond_false, Int.reduceBEq, Int.reduceSub, Int.reduceAdd, Int.reduceMul, off, Int.reduceEq, if_true, if_false, or_self, or_true, true_or, or_false, false_or]
  cases i.Byte <;> simp only [bb, cond_true, cond_false]
  · (try simp (disch := omega) only [wrap64, Int.tmod_eq_emod_of_nonneg]) <;> omega
  · (try simp (disch := omega) only [wrap64, Int.tmod_eq_emod_of_nonneg]) <;> omega
theorem fs13 {i : M.Inst} (ho : i.Op = 14) (v : VI i) : X.R06_first i = 2688 + bb i.Byte + off 3 i := by
  have es := fieldR v.ovs
  have ed := fieldR v.ovd
  obtain ⟨s0, s1⟩ := fld_r v.ovs
  obtain ⟨d0, d1⟩ := fld_r v.ovd
  obtain ⟨r0, r1⟩ := v.reg
  have hn := v.num
  have hb := v.byte
  rw [ho] at hn hb
  have hn : 0 ≤ i.Num ∧ i.Num ≤ 0 := hn
  unfold X.R06_first
  rw [ho, es, ed]
  simp only [X.R06_Islong, ge_iff_le, Int.reduceLE, decide_true, decide_false, cond_true, cond_false, Int.reduceBEq, Int.reduceSub, Int.reduceAdd, Int.reduceMul, off, Int.reduceEq, if_true, if_false, or_self, or_true, true_or, or_false, false_or]
  cases i.Byte <;> simp only [bb, cond_true, cond_false]
  · (try simp (disch := omega) only [wrap64, Int.tmod_eq_emod_of_nonneg]) <;> omega
  · (try simp (disch := omega) only [wrap64, Int.tmod_eq_emod_of_nonneg]) <;> omega
theorem fs14 {i : M.Inst} (ho : i.Op = 15) (v : VI i) : X.R06_first i = 2752 + bb i.Byte + off 3 i := by
  have es := fieldR v.ovs
  have ed := fieldR v.ovd
  obtain ⟨s0, s1⟩ := fld_r v.ovs
  obtain ⟨d0, d1⟩ := fld_r v.ovd
  obtain ⟨r0, r1⟩ := v.reg
  have hn := v.num
  have hb := v.byte
  rw [ho] at hn hb
  have hn : 0 ≤ i.Num ∧ i.Num ≤ 0 := hn
  unfold X.R06_first
  rw [ho, es, ed]
  simp only [X.R06_Islong, ge_iff_le, Int.reduceLE, decide_true, decide_false, cond_true, cond_false, Int.reduceBEq, Int.reduceSub, Int.reduceAdd, Int.reduceMul, off, Int.reduceEq, if_true, if_false, or_self, or_true, true_or, or_false, false_or]
  cases i.Byte <;> simp only [bb, cond_true, cond_false]
  · (try simp (disch := omega) only [wrap64, Int.tmod_eq_emod_of_nonneg]) <;> omega
  · (try simp (disch := omega) only [wrap64, Int.tmod_eq_emod_of_nonneg]) <;> omega
theorem fs15 {i : M.Inst} (ho : i.Op = 16) (v : VI i) : X.R06_first i = 2816 + bb i.Byte + off 3 i := by
  have es := fieldR v.ovs
  have ed := fieldR v.ovd
  obtain ⟨s0, s1⟩ := fld_r v.ovs
  obtain ⟨d0, d1⟩ := fld_r v.ovd
  obtain ⟨r0, r1⟩ := v.reg
  have hn := v.num
  have hb := v.byte
  rw [ho] at hn hb
  have hn : 0 ≤ i.Num ∧ i.Num ≤ 0 := hn
  unfold X.R06_first
  rw [ho, es, ed]
  simp only [X.R06_Islong, ge_iff_le, Int.reduceLE, decide_true, decide_false, cond_true, cond_false, Int.reduceBEq, Int.reduceSub, Int.reduceAdd, Int.reduceMul, off, Int.reduceEq, if_true, if_false, or_self, or_true, true_or, or_false, false_or]
  cases i.Byte <;> simp only [bb, cond_true, cond_false]
  · (try simp (disch := omega) only [wrap64, Int.tmod_eq_emod_of_nonneg]) <;> omega
  · (try simp (disch := omega) only [wrap64, Int.tmod_eq_emod_of_nonneg]) <;> omega
theorem fs16 {i : M.Inst} (ho : i.Op = 17) (v : VI i) : X.R06_first i = 2880 + bb i.Byte + off 3 i := by
  have es := fieldR v.ovs
  have ed := fieldR v.ovd
  obtain ⟨s0, s1⟩ := fld_r v.ovs
  obtain ⟨d0, d1⟩ := fld_r v.ovd
  obtain ⟨r0, r1⟩ := v.reg
  have hn := v.num
  have hb := v.byte
  rw [ho] at hn hb
  have hn : 0 ≤ i.Num ∧ i.Num ≤ 0 := hn
  unfold X.R06_first
  rw [ho, es, ed]
  simp only [X.R06_Islong, ge_iff_le, Int.reduceLE, decide_true, decide_false, cond_true, cond_false, Int.reduceBEq, Int.reduceSub, Int.reduceAdd, Int.reduceMul, off, Int.reduceEq, if_true, if_false, or_self, or_true, true_or, or_false, false_or]
  cases i.Byte <;> simp only [bb, cond_true, cond_false]
  · (try simp (disch := omega) only [wrap64, Int.tmod_eq_emod_of_nonneg]) <;> omega
  · (try simp (disch := omega) only [wrap64, Int.tmod_eq_emod_of_nonneg]) <;> omega
theorem fs17 {i : M.Inst} (ho : i.Op = 18) (v : VI i) : X.R06_first i = 2944 + bb i.Byte + off 3 i := by
  have es := fieldR v.ovs
  have ed := fieldR v.ovd
  obtain ⟨s0, s1⟩ := fld_r v.ovs
  obtain ⟨d0, d1⟩ := fld_r v.ovd
  obtain ⟨r0, r1⟩ := v.reg
  have hn := v.num
  have hb := v.byte
  rw [ho] at hn hb
  have hn : 0 ≤ i.Num ∧ i.Num ≤ 0 := hn
  unfold X.R06_first
  rw [ho, es, ed]
  simp only [X.R06_Islong, ge_iff_le, Int.reduceLE, decide_true, decide_false, cond_true, cond_false, Int.reduceBEq, Int.reduceSub, Int.reduceAdd, Int.reduceMul, off, Int.reduceEq, if_true, if_false, or_self, or_true, true_or, or_false, false_or]
  cases i.Byte <;> simp only [bb, cond_true, cond_false]
  · (try simp (disch := omega) only [wrap64, Int.tmod_eq_emod_of_nonneg]) <;> omega
  · (try simp (disch := omega) only [wrap64, Int.tmod_eq_emod_of_nonneg]) <;> omega
theorem fs18 {i : M.Inst} (ho : i.Op = 19) (v : VI i) : X.R06_first i = 3008 + bb i.Byte + off 3 i := by
  have es := fieldR v.ovs
  have ed := fieldR v.ovd
  obtain ⟨s0, s1⟩ := fld_r v.ovs
  obtain ⟨d0, d1⟩ := fld_r v.ovd
  obtain ⟨r0, r1⟩ := v.reg
  have hn := v.num
  have hb := v.byte
  rw [ho] at hn hb
  have hn : 0 ≤ i.Num ∧ i.Num ≤ 0 := hn
  unfold X.R06_first
  rw [ho, es, ed]
  simp only [X.R06_Islong, ge_iff_le, Int.reduceLE, decide_true, decide_false, cond_true, cond_false, Int.reduceBEq, Int.reduceSub, Int.reduceAdd, Int.reduceMul, off, Int.reduceEq, if_true, if_false, or_self, or_true, true_or, or_false, false_or]
  cases i.Byte <;> simp only [bb, cond_true, cond_false]
  · (try simp (disch := omega) only [wrap64, Int.tmod_eq_emod_of_nonneg]) <;> omega
  · (try simp (disch := omega) only [wrap64, Int.tmod_eq_emod_of_nonneg]) <;> omega
theorem fs19 {i : M.Inst} (ho : i.Op = 20) (v : VI i) : X.R06_first i = 3072 + bb i.Byte + off 3 i := by
  have es := fieldR v.ovs
  have ed := fieldR v.ovd
  obtain ⟨s0, s1⟩ := fld_r v.ovs
  obtain ⟨d0, d1⟩ := fld_r v.ovd
  obtain ⟨r0, r1⟩ := v.reg
  have hn := v.num
  have hb := v.byte
  rw [ho] at hn hb
  have hn : 0 ≤ i.Num ∧ i.Num ≤ 0 := hn
  unfold X.R06_first
  rw [ho, es, ed]
  simp only [X.R06_Islong, ge_iff_le, Int.reduceLE, decide_true, decide_false, cond_true, cond_false, Int.reduceBEq, Int.reduceSub, Int.reduceAdd, Int.reduceMul, off, Int.reduceEq, if_true, if_false, or_self, or_true, true_or, or_false, false_or]
  cases i.Byte <;> simp only [bb, cond_true, cond_false]
  · (try simp (disch := omega) only [wrap64, Int.tmod_eq_emod_of_nonneg]) <;> omega
  · (try simp (disch := omega) only [wrap64, Int.tmod_eq_emod_of_nonneg]) <;> omega
theorem fs20 {i : M.Inst} (ho : i.Op = 21) (v : VI i) : X.R06_first i = 3136 + bb i.Byte + off 3 i := by
  have es := fieldR v.ovs
  have ed := fieldR v.ovd
  obtain ⟨s0, s1⟩ := fld_r v.ovs
  obtain ⟨d0, d1⟩ := fld_r v.ovd
  obtain ⟨r0, r1⟩ := v.reg
  have hn := v.num
  have hb := v.byte
  rw [ho] at hn hb
  have hn : 0 ≤ i.Num ∧ i.Num ≤ 0 := hn
  unfold X.R06_first
  rw [ho, es, ed]
  simp only [X.R06_Islong, ge_iff_le, Int.reduceLE, decide_true, decide_false, cond_true, cond_false, Int.reduceBEq, Int.reduceSub, Int.reduceAdd, Int.reduceMul, off, Int.reduceEq, if_true, if_false, or_self, or_true, true_or, or_false, false_or]
  cases i.Byte <;> simp only [bb, cond_true, cond_false]
  · (try simp (disch := omega) only [wrap64, Int.tmod_eq_emod_of_nonneg]) <;> omega
  · (try simp (disch := omega) only [wrap64, Int.tmod_eq_emod_of_nonneg]) <;> omega
theorem fs21 {i : M.Inst} (ho : i.Op = 22) (v : VI i) : X.R06_first i = 3200 + bb i.Byte + off 3 i := by
  have es := fieldR v.ovs
  have ed := fieldR v.ovd
  obtain ⟨s0, s1⟩ := fld_r v.ovs
  obtain ⟨d0, d1⟩ := fld_r v.ovd
  obtain ⟨r0, r1⟩ := v.reg
  have hn := v.num
  have hb := v.byte
  rw [ho] at hn hb
  have hn : 0 ≤ i.Num ∧ i.Num ≤ 0 := hn
  unfold X.R06_first
  rw [ho, es, ed]
  simp only [X.R06_Islong, ge_iff_le, Int.reduceLE, decide_true, decide_false, cond_true, cond_false, Int.reduceBEq, Int.reduceSub, Int.reduceAdd, Int.reduceMul, off, Int.reduceEq, if_true, if_false, or_self, or_true, true_or, or_false, false_or]
  cases i.Byte <;> simp only [bb, cond_true, cond_false]
  · (try simp (disch := omega) only [wrap64, Int.tmod_eq_emod_of_nonneg]) <;> omega
  · (try simp (disch := omega) only [wrap64, Int.tmod_eq_emod_of_nonneg]) <;> omega
theorem fs22 {i : M.Inst} (ho : i.Op = 23) (v : VI i) : X.R06_first i = 3264 + bb i.Byte + off 3 i := by
  have es := fieldR v.ovs
  have ed := fieldR v.ovd
  obtain ⟨s0, s1⟩ := fld_r v.ovs
  obtain ⟨d0, d1⟩ := fld_r v.ovd
  obtain ⟨r0, r1⟩ := v.reg
  have hn := v.num
  have hb := v.byte
  rw [ho] at hn hb
  have hn : 0 ≤ i.Num ∧ i.Num ≤ 0 := hn
  unfold X.R06_first
  rw [ho, es, ed]
  simp only [X.R06_Islong, ge_iff_le, Int.reduceLE, decide_true, decide_false, cond_true, cond_false, Int.reduceBEq, Int.reduceSub, Int.reduceAdd, Int.reduceMul, off, Int.reduceEq, if_true, if_false, or_self, or_true, true_or, or_false, false_or]
  cases i.Byte <;> simp only [bb, cond_true, cond_false]
  · (try simp (disch := omega) only [wrap64, Int.tmod_eq_emod_of_nonneg]) <;> omega
  · (try simp (disch := omega) only [wrap64, Int.tmod_eq_emod_of_nonneg]) <;> omega
theorem fs23 {i : M.Inst} (ho : i.Op = 24) (v : VI i) : X.R06_first i = 192 + bb i.Byte + off 3 i := by
  have es := fieldR v.ovs
  have ed := fieldR v.ovd
  obtain ⟨s0, s1⟩ := fld_r v.ovs
  obtain ⟨d0, d1⟩ := fld_r v.ovd
  obtain ⟨r0, r1⟩ := v.reg
  have hn := v.num
  have hb := v.byte
  rw [ho] at hn hb
  have hn : 0 ≤ i.Num ∧ i.Num ≤ 0 := hn
  have hb : i.Byte = false := Bool.eq_false_iff.2 fun h => absurd (hb h) (by decide)
  unfold X.R06_first
  rw [ho, es, ed]
  simp only [X.R06_Islong, ge_iff_le, Int.reduceLE, decide_true, decide_false, cond_true, cond_false, Int.reduceBEq, Int.reduceSub, Int.reduceAdd, Int.reduceMul, off, Int.reduceEq, if_true, if_false, or_self, or_true, true_or, or_false, false_or]
  rw [hb]
  simp only [bb, cond_false]
  (try simp (disch := omega) only [wrap64, Int.tmod_eq_emod_of_nonneg]) <;> omega
theorem fs24 {i : M.Inst} (ho : i.Op = 25) (v : VI i) : X.R06_first i = 3520 + bb i.Byte + off 3 i := by
  have es := fieldR v.ovs
  have ed := fieldR v.ovd
  obtain ⟨s0, s1⟩ := fld_r v.ovs
  obtain ⟨d0, d1⟩ := fld_r v.ovd
  obtain ⟨r0, r1⟩ := v.reg
  have hn := v.num
  have hb := v.byte
  rw [ho] at hn hb
  have hn : 0 ≤ i.Num ∧ i.Num ≤ 0 := hn
  have hb : i.Byte = false := Bool.eq_false_iff.2 fun h => absurd (hb h) (by decide)
  unfold X.R06_first
  rw [ho, es, ed]
  simp only [X.R06_Islong, ge_iff_le, Int.reduceLE, decide_true, decide_false, cond_true, cond_false, Int.reduceBEq, Int.reduceSub, Int.reduceAdd, Int.reduceMul, off, Int.reduceEq, if_true, if_false, or_self, or_true, true_or, or_false, false_or]
  rw [hb]
  simp only [bb, cond_false]
  (try simp (disch := omega) only [wrap64, Int.tmod_eq_emod_of_nonneg]) <;> omega
theorem fs25 {i : M.Inst} (ho : i.Op = 55) (v : VI i) : X.R06_first i = 3392 + bb i.Byte + off 2 i := by
  have es := fieldR v.ovs
  have ed := fieldR v.ovd
  obtain ⟨s0, s1⟩ := fld_r v.ovs
  obtain ⟨d0, d1⟩ := fld_r v.ovd
  obtain ⟨r0, r1⟩ := v.reg
  have hn := v.num
  have hb := v.byte
  rw [ho] at hn hb
  have hn : 0 ≤ i.Num ∧ i.Num ≤ 0 := hn
  have hb : i.Byte = false := Bool.eq_false_iff.2 fun h => absurd (hb h) (by decide)
  unfold X.R06_first
  rw [ho, es, ed]
  simp only [X.R06_Islong, ge_iff_le, Int.reduceLE, decide_true, decide_false, cond_true, cond_false, Int.reduceBEq, Int.reduceSub, Int.reduceAdd, Int.reduceMul, off, Int.reduceEq, if_true, if_false, or_self, or_true, true_or, or_false, false_or]
  rw [hb]
  simp only [bb, cond_false]
  (try simp (disch := omega) only [wrap64, Int.tmod_eq_emod_of_nonneg]) <;> omega
theorem fs26 {i : M.Inst} (ho : i.Op = 56) (v : VI i) : X.R06_first i = 3456 + bb i.Byte + off 3 i := by
  have es := fieldR v.ovs
  have ed := fieldR v.ovd
  obtain ⟨s0, s1⟩ := fld_r v.ovs
  obtain ⟨d0, d1⟩ := fld_r v.ovd
  obtain ⟨r0, r1⟩ := v.reg
  have hn := v.num
  have hb := v.byte
  rw [ho] at hn hb
  have hn : 0 ≤ i.Num ∧ i.Num ≤ 0 := hn
  have hb : i.Byte = false := Bool.eq_false_iff.2 fun h => absurd (hb h) (by decide)
  unfold X.R06_first
  rw [ho, es, ed]
  simp only [X.R06_Islong, ge_iff_le, Int.reduceLE, decide_true, decide_false, cond_true, cond_false, Int.reduceBEq, Int.reduceSub, Int.reduceAdd, Int.reduceMul, off, Int.reduceEq, if_true, if_false, or_self, or_true, true_or, or_false, false_or]
  rw [hb]
  simp only [bb, cond_false]
  (try simp (disch := omega) only [wrap64, Int.tmod_eq_emod_of_nonneg]) <;> omega
theorem fs27 {i : M.Inst} (ho : i.Op = 41) (v : VI i) : X.R06_first i = 64 + bb i.Byte + off 4 i := by
  have es := fieldR v.ovs
  have ed := fieldR v.ovd
  obtain ⟨s0, s1⟩ := fld_r v.ovs
  obtain ⟨d0, d1⟩ := fld_r v.ovd
  obtain ⟨r0, r1⟩ := v.reg
  have hn := v.num
  have hb := v.byte
  rw [ho] at hn hb
  have hn : 0 ≤ i.Num ∧ i.Num ≤ 0 := hn
  have hb : i.Byte = false := Bool.eq_false_iff.2 fun h => absurd (hb h) (by decide)
  unfold X.R06_first
  rw [ho, es, ed]
  simp only [X.R06_Islong, ge_iff_le, Int.reduceLE, decide_true, decide_false, cond_true, cond_false, Int.reduceBEq, Int.reduceSub, Int.reduceAdd, Int.reduceMul, off, Int.reduceEq, if_true, if_false, or_self, or_true, true_or, or_false, false_or]
  rw [hb]
  simp only [bb, cond_false]
  (try simp (disch := omega) only [wrap64, Int.tmod_eq_emod_of_nonneg]) <;> omega
theorem fs28 {i : M.Inst} (ho : i.Op = 42) (v : VI i) : X.R06_first i = 2048 + bb i.Byte + off 7 i := by
  have es := fieldR v.ovs
  have ed := fieldR v.ovd
  obtain ⟨s0, s1⟩ := fld_r v.ovs
  obtain ⟨d0, d1⟩ := fld_r v.ovd
  obtain ⟨r0, r1⟩ := v.reg
  have hn := v.num
  have hb := v.byte
  rw [ho] at hn hb
  have hn : 0 ≤ i.Num ∧ i.Num ≤ 0 := hn
  have hb : i.Byte = false := Bool.eq_false_iff.2 fun h => absurd (hb h) (by decide)
  unfold X.R06_first
  rw [ho, es, ed]
  simp only [X.R06_Islong, ge_iff_le, Int.reduceLE, decide_true, decide_false, cond_true, cond_false, Int.reduceBEq, Int.reduceSub, Int.reduceAdd, Int.reduceMul, off, Int.reduceEq, if_true, if_false, or_self, or_true, true_or, or_false, false_or]
  rw [hb]
  simp only [bb, cond_false]
  (try simp (disch := omega) only [wrap64, Int.tmod_eq_emod_of_nonneg]) <;> omega
theorem fs29 {i : M.Inst} (ho : i.Op = 43) (v : VI i) : X.R06_first i = 128 + bb i.Byte + off 8 i := by
  have es := fieldR v.ovs
  have ed := fieldR v.ovd
  obtain ⟨s0, s1⟩ := fld_r v.ovs
  obtain ⟨d0, d1⟩ := fld_r v.ovd
  obtain ⟨r0, r1⟩ := v.reg
  have hn := v.num
  have hb := v.byte
  rw [ho] at hn hb
  have hn : 0 ≤ i.Num ∧ i.Num ≤ 0 := hn
  have hb : i.Byte = false := Bool.eq_false_iff.2 fun h => absurd (hb h) (by decide)
  unfold X.R06_first
  rw [ho, es, ed]
  simp only [X.R06_Islong, ge_iff_le, Int.reduceLE, decide_true, decide_false, cond_true, cond_false, Int.reduceBEq, Int.reduceSub, Int.reduceAdd, Int.reduceMul, off, Int.reduceEq, if_true, if_false, or_self, or_true, true_or, or_false, false_or]
  rw [hb]
  simp only [bb, cond_false]
  (try simp (disch := omega) only [wrap64, Int.tmod_eq_emod_of_nonneg]) <;> omega
theorem fs30 {i : M.Inst} (ho : i.Op = 44) (v : VI i) : X.R06_first i = 32256 + bb i.Byte + off 10 i := by
  have es := fieldR v.ovs
  have ed := fieldR v.ovd
  obtain ⟨s0, s1⟩ := fld_r v.ovs
  obtain ⟨d0, d1⟩ := fld_r v.ovd
  obtain ⟨r0, r1⟩ := v.reg
  have hn := v.num
  have hb := v.byte
  rw [ho] at hn hb
  have hn : 0 ≤ i.Num ∧ i.Num ≤ 63 := hn
  have hb : i.Byte = false := Bool.eq_false_iff.2 fun h => absurd (hb h) (by decide)
  unfold X.R06_first
  rw [ho, es, ed]
  simp only [X.R06_Islong, ge_iff_le, Int.reduceLE, decide_true, decide_false, cond_true, cond_false, Int.reduceBEq, Int.reduceSub, Int.reduceAdd, Int.reduceMul, off, Int.reduceEq, if_true, if_false, or_self, or_true, true_or, or_false, false_or]
  rw [hb]
  simp only [bb, cond_false]
  (try simp (disch := omega) only [wrap64, Int.tmod_eq_emod_of_nonneg]) <;> omega
theorem fs31 {i : M.Inst} (ho : i.Op = 26) (v : VI i) : X.R06_first i = 256 + bb i.Byte + off 9 i := by
  have es := fieldR v.ovs
  have ed := fieldR v.ovd
  obtain ⟨s0, s1⟩ := fld_r v.ovs
  obtain ⟨d0, d1⟩ := fld_r v.ovd
  obtain ⟨r0, r1⟩ := v.reg
  have hn := v.num
  have hb := v.byte
  rw [ho] at hn hb
  have hn : -128 ≤ i.Num ∧ i.Num ≤ 127 := hn
  have hb : i.Byte = false := Bool.eq_false_iff.2 fun h => absurd (hb h) (by decide)
  unfold X.R06_first
  rw [ho, es, ed]
  simp only [X.R06_Islong, ge_iff_le, Int.reduceLE, decide_true, decide_false, cond_true, cond_false, Int.reduceBEq, Int.reduceSub, Int.reduceAdd, Int.reduceMul, off, Int.reduceEq, if_true, if_false, or_self, or_true, true_or, or_false, false_or]
  rw [hb]
  simp only [bb, cond_false]
  (try simp (disch := omega) only [wrap64, Int.tmod_eq_emod_of_nonneg]) <;> omega
theorem fs32 {i : M.Inst} (ho : i.Op = 27) (v : VI i) : X.R06_first i = 512 + bb i.Byte + off 9 i := by
  have es := fieldR v.ovs
  have ed := fieldR v.ovd
  obtain ⟨s0, s1⟩ := fld_r v.ovs
  obtain ⟨d0, d1⟩ := fld_r v.ovd
  obtain ⟨r0, r1⟩ := v.reg
  have hn := v.num
  have hb := v.byte
  rw [ho] at hn hb
  have hn : -128 ≤ i.Num ∧ i.Num ≤ 127 := hn
  have hb : i.Byte = false := Bool.eq_false_iff.2 fun h => absurd (hb h) (by decide)
  unfold X.R06_first
  rw [ho, es, ed]
  simp only [X.R06_Islong, ge_iff_le, Int.reduceLE, decide_true, decide_false, cond_true, cond_false, Int.reduceBEq, Int.reduceSub, Int.reduceAdd, Int.reduceMul, off, Int.reduceEq, if_true, if_false, or_self, or_true, true_or, or_false, false_or]
  rw [hb]
  simp only [bb, cond_false]
  (try simp (disch := omega) only [wrap64, Int.tmod_eq_emod_of_nonneg]) <;> omega
theorem fs33 {i : M.Inst} (ho : i.Op = 28) (v : VI i) : X.R06_first i = 768 + bb i.Byte + off 9 i := by
  have es := fieldR v.ovs
  have ed := fieldR v.ovd
  obtain ⟨s0, s1⟩ := fld_r v.ovs
  obtain ⟨d0, d1⟩ := fld_r v.ovd
  obtain ⟨r0, r1⟩ := v.reg
  have hn := v.num
  have hb := v.byte
  rw [ho] at hn hb
  have hn : -128 ≤ i.Num ∧ i.Num ≤ 127 := hn
  have hb : i.Byte = false := Bool.eq_false_iff.2 fun h => absurd (hb h) (by decide)
  unfold X.R06_first
  rw [ho, es, ed]
  simp only [X.R06_Islong, ge_iff_le, Int.reduceLE, decide_true, decide_false, cond_true, cond_false, Int.reduceBEq, Int.reduceSub, Int.reduceAdd, Int.reduceMul, off, Int.reduceEq, if_true, if_false, or_self, or_true, true_or, or_false, false_or]
  rw [hb]
  simp only [bb, cond_false]
  (try simp (disch := omega) only [wrap64, Int.tmod_eq_emod_of_nonneg]) <;> omega
theorem fs34 {i : M.Inst} (ho : i.Op = 29) (v : VI i) : X.R06_first i = 1024 + bb i.Byte + off 9 i := by
  have es := fieldR v.ovs
  have ed := fieldR v.ovd
  obtain ⟨s0, s1⟩ := fld_r v.ovs
  obtain ⟨d0, d1⟩ := fld_r v.ovd
  obtain ⟨r0, r1⟩ := v.reg
  have hn := v.num
  have hb := v.byte
  rw [ho] at hn hb
  have hn : -128 ≤ i.Num ∧ i.Num ≤ 127 := hn
  have hb : i.Byte = false := Bool.eq_false_iff.2 fun h => absurd (hb h) (by decide)
  unfold X.R06_first
  rw [ho, es, ed]
  simp only [X.R06_Islong, ge_iff_le, Int.reduceLE, decide_true, decide_false, cond_true, cond_false, Int.reduceBEq, Int.reduceSub, Int.reduceAdd, Int.reduceMul, off, Int.reduceEq, if_true, if_false, or_self, or_true, true_or, or_false, false_or]
  rw [hb]
  simp only [bb, cond_false]
  (try simp (disch := omega) only [wrap64, Int.tmod_eq_emod_of_nonneg]) <;> omega
theorem fs35 {i : M.Inst} (ho : i.Op = 30) (v : VI i) : X.R06_first i = 1280 + bb i.Byte + off 9 i := by
  have es := fieldR v.ovs
  have ed := fieldR v.ovd
  obtain ⟨s0, s1⟩ := fld_r v.ovs
  obtain ⟨d0, d1⟩ := fld_r v.ovd
  obtain ⟨r0, r1⟩ := v.reg
  have hn := v.num
  have hb := v.byte
  rw [ho] at hn hb
  have hn : -128 ≤ i.Num ∧ i.Num ≤ 127 := hn
  have hb : i.Byte = false := Bool.eq_false_iff.2 fun h => absurd (hb h) (by decide)
  unfold X.R06_first
  rw [ho, es, ed]
  simp only [X.R06_Islong, ge_iff_le, Int.reduceLE, decide_true, decide_false, cond_true, cond_false, Int.reduceBEq, Int.reduceSub, Int.reduceAdd, Int.reduceMul, off, Int.reduceEq, if_true, if_false, or_self, or_true, true_or, or_false, false_or]
  rw [hb]
  simp only [bb, cond_false]
  (try simp (disch := omega) only [wrap64, Int.tmod_eq_emod_of_nonneg]) <;> omega
theorem fs36 {i : M.Inst} (ho : i.Op = 31) (v : VI i) : X.R06_first i = 1536 + bb i.Byte + off 9 i := by
  have es := fieldR v.ovs
  have ed := fieldR v.ovd
  obtain ⟨s0, s1⟩ := fld_r v.ovs
  obtain ⟨d0, d1⟩ := fld_r v.ovd
  obtain ⟨r0, r1⟩ := v.reg
  have hn := v.num
  have hb := v.byte
  rw [ho] at hn hb
  have hn : -128 ≤ i.Num ∧ i.Num ≤ 127 := hn
  have hb : i.Byte = false := Bool.eq_false_iff.2 fun h => absurd (hb h) (by decide)
  unfold X.R06_first
  rw [ho, es, ed]
  simp only [X.R06_Islong, ge_iff_le, Int.reduceLE, decide_true, decide_false, cond_true, cond_false, Int.reduceBEq, Int.reduceSub, Int.reduceAdd, Int.reduceMul, off, Int.reduceEq, if_true, if_false, or_self, or_true, true_or, or_false, false_or]
  rw [hb]
  simp only [bb, cond_false]
  (try simp (disch := omega) only [wrap64, Int.tmod_eq_emod_of_nonneg]) <;> omega
theorem fs37 {i : M.Inst} (ho : i.Op = 32) (v : VI i) : X.R06_first i = 1792 + bb i.Byte + off 9 i := by
  have es := fieldR v.ovs
  have ed := fieldR v.ovd
  obtain ⟨s0, s1⟩ := fld_r v.ovs
  obtain ⟨d0, d1⟩ := fld_r v.ovd
  obtain ⟨r0, r1⟩ := v.reg
  have hn := v.num
  have hb := v.byte
  rw [ho] at hn hb
  have hn : -128 ≤ i.Num ∧ i.Num ≤ 127 := hn
  have hb : i.Byte = false := Bool.eq_false_iff.2 fun h => absurd (hb h) (by decide)
  unfold X.R06_first
  rw [ho, es, ed]
  simp only [X.R06_Islong, ge_iff_le, Int.reduceLE, decide_true, decide_false, cond_true, cond_false, Int.reduceBEq, Int.reduceSub, Int.reduceAdd, Int.reduceMul, off, Int.reduceEq, if_true, if_false, or_self, or_true, true_or, or_false, false_or]
  rw [hb]
  simp only [bb, cond_false]
  (try simp (disch := omega) only [wrap64, Int.tmod_eq_emod_of_nonneg]) <;> omega
theorem fs38 {i : M.Inst} (ho : i.Op = 33) (v : VI i) : X.R06_first i = 32768 + bb i.Byte + off 9 i := by
  have es := fieldR v.ovs
  have ed := fieldR v.ovd
  obtain ⟨s0, s1⟩ := fld_r v.ovs
  obtain ⟨d0, d1⟩ := fld_r v.ovd
  obtain ⟨r0, r1⟩ := v.reg
  have hn := v.num
  have hb := v.byte
  rw [ho] at hn hb
  have hn : -128 ≤ i.Num ∧ i.Num ≤ 127 := hn
  have hb : i.Byte = false := Bool.eq_false_iff.2 fun h => absurd (hb h) (by decide)
  unfold X.R06_first
  rw [ho, es, ed]
  simp only [X.R06_Islong, ge_iff_le, Int.reduceLE, decide_true, decide_false, cond_true, cond_false, Int.reduceBEq, Int.reduceSub, Int.reduceAdd, Int.reduceMul, off, Int.reduceEq, if_true, if_false, or_self, or_true, true_or, or_false, false_or]
  rw [hb]
  simp only [bb, cond_false]
  (try simp (disch := omega) only [wrap64, Int.tmod_eq_emod_of_nonneg]) <;> omega
theorem fs39 {i : M.Inst} (ho : i.Op = 34) (v : VI i) : X.R06_first i = 33024 + bb i.Byte + off 9 i := by
  have es := fieldR v.ovs
  have ed := fieldR v.ovd
  obtain ⟨s0, s1⟩ := fld_r v.ovs
  obtain ⟨d0, d1⟩ := fld_r v.ovd
  obtain ⟨r0, r1⟩ := v.reg
  have hn := v.num
  have hb := v.byte
  rw [ho] at hn hb
  have hn : -128 ≤ i.Num ∧ i.Num ≤ 127 := hn
  have hb : i.Byte = false := Bool.eq_false_iff.2 fun h => absurd (hb h) (by decide)
  unfold X.R06_first
  rw [ho, es, ed]
  simp only [X.R06_Islong, ge_iff_le, Int.reduceLE, decide_true, decide_false, cond_true, cond_false, Int.reduceBEq, Int.reduceSub, Int.reduceAdd, Int.reduceMul, off, Int.reduceEq, if_true, if_false, or_self, or_true, true_or, or_false, false_or]
  rw [hb]
  simp only [bb, cond_false]
  (try simp (disch := omega) only [wrap64, Int.tmod_eq_emod_of_nonneg]) <;> omega
theorem fs40 {i : M.Inst} (ho : i.Op = 35) (v : VI i) : X.R06_first i = 33280 + bb i.Byte + off 9 i := by
  have es := fieldR v.ovs
  have ed := fieldR v.ovd
  obtain ⟨s0, s1⟩ := fld_r v.ovs
  obtain ⟨d0, d1⟩ := fld_r v.ovd
  obtain ⟨r0, r1⟩ := v.reg
  have hn := v.num
  have hb := v.byte
  rw [ho] at hn hb
  have hn : -128 ≤ i.Num ∧ i.Num ≤ 127 := hn
  have hb : i.Byte = false := Bool.eq_false_iff.2 fun h => absurd (hb h) (by decide)
  unfold X.R06_first
  rw [ho, es, ed]
  simp only [X.R06_Islong, ge_iff_le, Int.reduceLE, decide_true, decide_false, cond_true, cond_false, Int.reduceBEq, Int.reduceSub, Int.reduceAdd, Int.reduceMul, off, Int.reduceEq, if_true, if_false, or_self, or_true, true_or, or_false, false_or]
  rw [hb]
  simp only [bb, cond_false]
  (try simp (disch := omega) only [wrap64, Int.tmod_eq_emod_of_nonneg]) <;> omega
theorem fs41 {i : M.Inst} (ho : i.Op = 36) (v : VI i) : X.R06_first i = 33536 + bb i.Byte + off 9 i := by
  have es := fieldR v.ovs
  have ed := fieldR v.ovd
  obtain ⟨s0, s1⟩ := fld_r v.ovs
  obtain ⟨d0, d1⟩ := fld_r v.ovd
  obtain ⟨r0, r1⟩ := v.reg
  have hn := v.num
  have hb := v.byte
  rw [ho] at hn hb
  have hn : -128 ≤ i.Num ∧ i.Num ≤ 127 := hn
  have hb : i.Byte = false := Bool.eq_false_iff.2 fun h => absurd (hb h) (by decide)
  unfold X.R06_first
  rw [ho, es, ed]
  simp only [X.R06_Islong, ge_iff_le, Int.reduceLE, decide_true, decide_false, cond_true, cond_false, Int.reduceBEq, Int.reduceSub, Int.reduceAdd, Int.reduceMul, off, Int.reduceEq, if_true, if_false, or_self, or_true, true_or, or_false, false_or]
  rw [hb]
  simp only [bb, cond_false]
  (try simp (disch := omega) only [wrap64, Int.tmod_eq_emod_of_nonneg]) <;> omega
theorem fs42 {i : M.Inst} (ho : i.Op = 37) (v : VI i) : X.R06_first i = 33792 + bb i.Byte + off 9 i := by
  have es := fieldR v.ovs
  have ed := fieldR v.ovd
  obtain ⟨s0, s1⟩ := fld_r v.ovs
  obtain ⟨d0, d1⟩ := fld_r v.ovd
  obtain ⟨r0, r1⟩ := v.reg
  have hn := v.num
  have hb := v.byte
  rw [ho] at hn hb
  have hn : -128 ≤ i.Num ∧ i.Num ≤ 127 := hn
  have hb : i.Byte = false := Bool.eq_false_iff.2 fun h => absurd (hb h) (by decide)
  unfold X.R06_first
  rw [ho, es, ed]
  simp only [X.R06_Islong, ge_iff_le, Int.reduceLE, decide_true, decide_false, cond_true, cond_false, Int.reduceBEq, Int.reduceSub, Int.reduceAdd, Int.reduceMul, off, Int.reduceEq, if_true, if_false, or_self, or_true, true_or, or_false, false_or]
  rw [hb]
  simp only [bb, cond_false]
  (try simp (disch := omega) only [wrap64, Int.tmod_eq_emod_of_nonneg]) <;> omega
theorem fs43 {i : M.Inst} (ho : i.Op = 38) (v : VI i) : X.R06_first i = 34048 + bb i.Byte + off 9 i := by
  have es := fieldR v.ovs
  have ed := fieldR v.ovd
  obtain ⟨s0, s1⟩ := fld_r v.ovs
  obtain ⟨d0, d1⟩ := fld_r v.ovd
  obtain ⟨r0, r1⟩ := v.reg
  have hn := v.num
  have hb := v.byte
  rw [ho] at hn hb
  have hn : -128 ≤ i.Num ∧ i.Num ≤ 127 := hn
  have hb : i.Byte = false := Bool.eq_false_iff.2 fun h => absurd (hb h) (by decide)
  unfold X.R06_first
  rw [ho, es, ed]
  simp only [X.R06_Islong, ge_iff_le, Int.reduceLE, decide_true, decide_false, cond_true, cond_false, Int.reduceBEq, Int.reduceSub, Int.reduceAdd, Int.reduceMul, off, Int.reduceEq, if_true, if_false, or_self, or_true, true_or, or_false, false_or]
  rw [hb]
  simp only [bb, cond_false]
  (try simp (disch := omega) only [wrap64, Int.tmod_eq_emod_of_nonneg]) <;> omega
theorem fs44 {i : M.Inst} (ho : i.Op = 39) (v : VI i) : X.R06_first i = 34304 + bb i.Byte + off 9 i := by
  have es := fieldR v.ovs
  have ed := fieldR v.ovd
  obtain ⟨s0, s1⟩ := fld_r v.ovs
  obtain ⟨d0, d1⟩ := fld_r v.ovd
  obtain ⟨r0, r1⟩ := v.reg
  have hn := v.num
  have hb := v.byte
  rw [ho] at hn hb
  have hn : -128 ≤ i.Num ∧ i.Num ≤ 127 := hn
  have hb : i.Byte = false := Bool.eq_false_iff.2 fun h => absurd (hb h) (by decide)
  unfold X.R06_first
  rw [ho, es, ed]
  simp only [X.R06_Islong, ge_iff_le, Int.reduceLE, decide_true, decide_false, cond_true, cond_false, Int.reduceBEq, Int.reduceSub, Int.reduceAdd, Int.reduceMul, off, Int.reduceEq, if_true, if_false, or_self, or_true, true_or, or_false, false_or]
  rw [hb]
  simp only [bb, cond_false]
  (try simp (disch := omega) only [wrap64, Int.tmod_eq_emod_of_nonneg]) <;> omega
theorem fs45 {i : M.Inst} (ho : i.Op = 40) (v : VI i) : X.R06_first i = 34560 + bb i.Byte + off 9 i := by
  have es := fieldR v.ovs
  have ed := fieldR v.ovd
  obtain ⟨s0, s1⟩ := fld_r v.ovs
  obtain ⟨d0, d1⟩ := fld_r v.ovd
  obtain ⟨r0, r1⟩ := v.reg
  have hn := v.num
  have hb := v.byte
  rw [ho] at hn hb
  have hn : -128 ≤ i.Num ∧ i.Num ≤ 127 := hn
  have hb : i.Byte = false := Bool.eq_false_iff.2 fun h => absurd (hb h) (by decide)
  unfold X.R06_first
  rw [ho, es, ed]
  simp only [X.R06_Islong, ge_iff_le, Int.reduceLE, decide_true, decide_false, cond_true, cond_false, Int.reduceBEq, Int.reduceSub, Int.reduceAdd, Int.reduceMul, off, Int.reduceEq, if_true, if_false, or_self, or_true, true_or, or_false, false_or]
  rw [hb]
  simp only [bb, cond_false]
  (try simp (disch := omega) only [wrap64, Int.tmod_eq_emod_of_nonneg]) <;> omega
theorem fs46 {i : M.Inst} (ho : i.Op = 45) (v : VI i) : X.R06_first i = 34816 + bb i.Byte + off 11 i := by
  have es := fieldR v.ovs
  have ed := fieldR v.ovd
  obtain ⟨s0, s1⟩ := fld_r v.ovs
  obtain ⟨d0, d1⟩ := fld_r v.ovd
  obtain ⟨r0, r1⟩ := v.reg
  have hn := v.num
  have hb := v.byte
  rw [ho] at hn hb
  have hn : 0 ≤ i.Num ∧ i.Num ≤ 255 := hn
  have hb : i.Byte = false := Bool.eq_false_iff.2 fun h => absurd (hb h) (by decide)
  unfold X.R06_first
  rw [ho, es, ed]
  simp only [X.R06_Islong, ge_iff_le, Int.reduceLE, decide_true, decide_false, cond_true, cond_false, Int.reduceBEq, Int.reduceSub, Int.reduceAdd, Int.reduceMul, off, Int.reduceEq, if_true, if_false, or_self, or_true, true_or, or_false, false_or]
  rw [hb]
  simp only [bb, cond_false]
  (try simp (disch := omega) only [wrap64, Int.tmod_eq_emod_of_nonneg]) <;> omega
theorem fs47 {i : M.Inst} (ho : i.Op = 46) (v : VI i) : X.R06_first i = 35072 + bb i.Byte + off 11 i := by
  have es := fieldR v.ovs
  have ed := fieldR v.ovd
  obtain ⟨s0, s1⟩ := fld_r v.ovs
  obtain ⟨d0, d1⟩ := fld_r v.ovd
  obtain ⟨r0, r1⟩ := v.reg
  have hn := v.num
  have hb := v.byte
  rw [ho] at hn hb
  have hn : 0 ≤ i.Num ∧ i.Num ≤ 255 := hn
  have hb : i.Byte = false := Bool.eq_false_iff.2 fun h => absurd (hb h) (by decide)
  unfold X.R06_first
  rw [ho, es, ed]
  simp only [X.R06_Islong, ge_iff_le, Int.reduceLE, decide_true, decide_false, cond_true, cond_false, Int.reduceBEq, Int.reduceSub, Int.reduceAdd, Int.reduceMul, off, Int.reduceEq, if_true, if_false, or_self, or_true, true_or, or_false, false_or]
  rw [hb]
  simp only [bb, cond_false]
  (try simp (disch := omega) only [wrap64, Int.tmod_eq_emod_of_nonneg]) <;> omega
theorem fs48 {i : M.Inst} (ho : i.Op = 53) (v : VI i) : X.R06_first i = 160 + bb i.Byte + off 12 i := by
  have es := fieldR v.ovs
  have ed := fieldR v.ovd
  obtain ⟨s0, s1⟩ := fld_r v.ovs
  obtain ⟨d0, d1⟩ := fld_r v.ovd
  obtain ⟨r0, r1⟩ := v.reg
  have hn := v.num
  have hb := v.byte
  rw [ho] at hn hb
  have hn : 0 ≤ i.Num ∧ i.Num ≤ 15 := hn
  have hb : i.Byte = false := Bool.eq_false_iff.2 fun h => absurd (hb h) (by decide)
  unfold X.R06_first
  rw [ho, es, ed]
  simp only [X.R06_Islong, ge_iff_le, Int.reduceLE, decide_true, decide_false, cond_true, cond_false, Int.reduceBEq, Int.reduceSub, Int.reduceAdd, Int.reduceMul, off, Int.reduceEq, if_true, if_false, or_self, or_true, true_or, or_false, false_or]
  rw [hb]
  simp only [bb, cond_false]
  (try simp (disch := omega) only [wrap64, Int.tmod_eq_emod_of_nonneg]) <;> omega
theorem fs49 {i : M.Inst} (ho : i.Op = 54) (v : VI i) : X.R06_first i = 176 + bb i.Byte + off 12 i := by
  have es := fieldR v.ovs
  have ed := fieldR v.ovd
  obtain ⟨s0, s1⟩ := fld_r v.ovs
  obtain ⟨d0, d1⟩ := fld_r v.ovd
  obtain ⟨r0, r1⟩ := v.reg
  have hn := v.num
  have hb := v.byte
  rw [ho] at hn hb
  have hn : 0 ≤ i.Num ∧ i.Num ≤ 15 := hn
  have hb : i.Byte = false := Bool.eq_false_iff.2 fun h => absurd (hb h) (by decide)
  unfold X.R06_first
  rw [ho, es, ed]
  simp only [X.R06_Islong, ge_iff_le, Int.reduceLE, decide_true, decide_false, cond_true, cond_false, Int.reduceBEq, Int.reduceSub, Int.reduceAdd, Int.reduceMul, off, Int.reduceEq, if_true, if_false, or_self, or_true, true_or, or_false, false_or]
  rw [hb]
  simp only [bb, cond_false]
  (try simp (disch := omega) only [wrap64, Int.tmod_eq_emod_of_nonneg]) <;> omega
theorem fs50 {i : M.Inst} (ho : i.Op = 50) (v : VI i) : X.R06_first i = 0 + bb i.Byte + off 0 i := by
  have es := fieldR v.ovs
  have ed := fieldR v.ovd
  obtain ⟨s0, s1⟩ := fld_r v.ovs
  obtain ⟨d0, d1⟩ := fld_r v.ovd
  obtain ⟨r0, r1⟩ := v.reg
  have hn := v.num
  have hb := v.byte
  rw [ho] at hn hb
  have hn : 0 ≤ i.Num ∧ i.Num ≤ 0 := hn
  have hb : i.Byte = false := Bool.eq_false_iff.2 fun h => absurd (hb h) (by decide)
  unfold X.R06_first
  rw [ho, es, ed]
  simp only [X.R06_Islong, ge_iff_le, Int.reduceLE, decide_true, decide_false, cond_true, cond_false, Int.reduceBEq, Int.reduceSub, Int.reduceAdd, Int.reduceMul, off, Int.reduceEq, if_true, if_false, or_self, or_true, true_or, or_false, false_or]
  rw [hb]
  simp only [bb, cond_false]
  (try simp (disch := omega) only [wrap64, Int.tmod_eq_emod_of_nonneg]) <;> omega
theorem fs51 {i : M.Inst} (ho : i.Op = 51) (v : VI i) : X.R06_first i = 1 + bb i.Byte + off 0 i := by
  have es := fieldR v.ovs
  have ed := fieldR v.ovd
  obtain ⟨s0, s1⟩ := fld_r v.ovs
  obtain ⟨d0, d1⟩ := fld_r v.ovd
  obtain ⟨r0, r1⟩ := v.reg
  have hn := v.num
  have hb := v.byte
  rw [ho] at hn hb
  have hn : 0 ≤ i.Num ∧ i.Num ≤ 0 := hn
  have hb : i.Byte = false := Bool.eq_false_iff.2 fun h => absurd (hb h) (by decide)
  unfold X.R06_first
  rw [ho, es, ed]
  simp only [X.R06_Islong, ge_iff_le, Int.reduceLE, decide_true, decide_false, cond_true, cond_false, Int.reduceBEq, Int.reduceSub, Int.reduceAdd, Int.reduceMul, off, Int.reduceEq, if_true, if_false, or_self, or_true, true_or, or_false, false_or]
  rw [hb]
  simp only [bb, cond_false]
  (try simp (disch := omega) only [wrap64, Int.tmod_eq_emod_of_nonneg]) <;> omega
theorem fs52 {i : M.Inst} (ho : i.Op = 49) (v : VI i) : X.R06_first i = 2 + bb i.Byte + off 0 i := by
  have es := fieldR v.ovs
  have ed := fieldR v.ovd
  obtain ⟨s0, s1⟩ := fld_r v.ovs
  obtain ⟨d0, d1⟩ := fld_r v.ovd
  obtain ⟨r0, r1⟩ := v.reg
  have hn := v.num
  have hb := v.byte
  rw [ho] at hn hb
  have hn : 0 ≤ i.Num ∧ i.Num ≤ 0 := hn
  have hb : i.Byte = false := Bool.eq_false_iff.2 fun h => absurd (hb h) (by decide)
  unfold X.R06_first
  rw [ho, es, ed]
  simp only [X.R06_Islong, ge_iff_le, Int.reduceLE, decide_true, decide_false, cond_true, cond_false, Int.reduceBEq, Int.reduceSub, Int.reduceAdd, Int.reduceMul, off, Int.reduceEq, if_true, if_false, or_self, or_true, true_or, or_false, false_or]
  rw [hb]
  simp only [bb, cond_false]
  (try simp (disch := omega) only [wrap64, Int.tmod_eq_emod_of_nonneg]) <;> omega
theorem fs53 {i : M.Inst} (ho : i.Op = 47) (v : VI i) : X.R06_first i = 3 + bb i.Byte + off 0 i := by
  have es := fieldR v.ovs
  have ed := fieldR v.ovd
  obtain ⟨s0, s1⟩ := fld_r v.ovs
  obtain ⟨d0, d1⟩ := fld_r v.ovd
  obtain ⟨r0, r1⟩ := v.reg
  have hn := v.num
  have hb := v.byte
  rw [ho] at hn hb
  have hn : 0 ≤ i.Num ∧ i.Num ≤ 0 := hn
  have hb : i.Byte = false := Bool.eq_false_iff.2 fun h => absurd (hb h) (by decide)
  unfold X.R06_first
  rw [ho, es, ed]
  simp only [X.R06_Islong, ge_iff_le, Int.reduceLE, decide_true, decide_false, cond_true, cond_false, Int.reduceBEq, Int.reduceSub, Int.reduceAdd, Int.reduceMul, off, Int.reduceEq, if_true, if_false, or_self, or_true, true_or, or_false, false_or]
  rw [hb]
  simp only [bb, cond_false]
  (try simp (disch := omega) only [wrap64, Int.tmod_eq_emod_of_nonneg]) <;> omega
theorem fs54 {i : M.Inst} (ho : i.Op = 48) (v : VI i) : X.R06_first i = 4 + bb i.Byte + off 0 i := by
  have es := fieldR v.ovs
  have ed := fieldR v.ovd
  obtain ⟨s0, s1⟩ := fld_r v.ovs
  obtain ⟨d0, d1⟩ := fld_r v.ovd
  obtain ⟨r0, r1⟩ := v.reg
  have hn := v.num
  have hb := v.byte
  rw [ho] at hn hb
  have hn : 0 ≤ i.Num ∧ i.Num ≤ 0 := hn
  have hb : i.Byte = false := Bool.eq_false_iff.2 fun h => absurd (hb h) (by decide)
  unfold X.R06_first
  rw [ho, es, ed]
  simp only [X.R06_Islong, ge_iff_le, Int.reduceLE, decide_true, decide_false, cond_true, cond_false, Int.reduceBEq, Int.reduceSub, Int.reduceAdd, Int.reduceMul, off, Int.reduceEq, if_true, if_false, or_self, or_true, true_or, or_false, false_or]
  rw [hb]
  simp only [bb, cond_false]
  (try simp (disch := omega) only [wrap64, Int.tmod_eq_emod_of_nonneg]) <;> omega
theorem fs55 {i : M.Inst} (ho : i.Op = 52) (v : VI i) : X.R06_first i = 5 + bb i.Byte + off 0 i := by
  have es := fieldR v.ovs
  have ed := fieldR v.ovd
  obtain ⟨s0, s1⟩ := fld_r v.ovs
  obtain ⟨d0, d1⟩ := fld_r v.ovd
  obtain ⟨r0, r1⟩ := v.reg
  have hn := v.num
  have hb := v.byte
  rw [ho] at hn hb
  have hn : 0 ≤ i.Num ∧ i.Num ≤ 0 := hn
  have hb : i.Byte = false := Bool.eq_false_iff.2 fun h => absurd (hb h) (by decide)
  unfold X.R06_first
  rw [ho, es, ed]
  simp only [X.R06_Islong, ge_iff_le, Int.reduceLE, decide_true, decide_false, cond_true, cond_false, Int.reduceBEq, Int.reduceSub, Int.reduceAdd, Int.reduceMul, off, Int.reduceEq, if_true, if_false, or_self, or_true, true_or, or_false, false_or]
  rw [hb]
  simp only [bb, cond_false]
  (try simp (disch := omega) only [wrap64, Int.tmod_eq_emod_of_nonneg]) <;> omega
def FP (f : M.Inst_form) : Prop := ∀ i : M.Inst, i.Op = f.op → VI i → X.R06_first i = f.first + bb i.Byte + off f.shape i
theorem fs_all : ∀ f ∈ forms, FP f := by
  unfold forms
  exact List.forall_mem_cons.2 ⟨(fun _ h v => fs0 h v), List.forall_mem_cons.2 ⟨(fun _ h v => fs1 h v), List.forall_mem_cons.2 ⟨(fun _ h v => fs2 h v), List.forall_mem_cons.2 ⟨(fun _ h v => fs3 h v), List.forall_mem_cons.2 ⟨(fun _ h v => fs4 h v), List.forall_mem_cons.2 ⟨(fun _ h v => fs5 h v), List.forall_mem_cons.2 ⟨(fun _ h v => fs6 h v), List.forall_mem_cons.2 ⟨(fun _ h v => fs7 h v), List.forall_mem_cons.2 ⟨(fun _ h v => fs8 h v), List.forall_mem_cons.2 ⟨(fun _ h v => fs9 h v), List.forall_mem_cons.2 ⟨(fun _ h v => fs10 h v), List.forall_mem_cons.2 ⟨(fun _ h v => fs11 h v), List.forall_mem_cons.2 ⟨(fun _ h v => fs12 h v), List.forall_mem_cons.2 ⟨(fun _ h v => fs13 h v), List.forall_mem_cons.2 ⟨(fun _ h v => fs14 h v), List.forall_mem_cons.2 ⟨(fun _ h v => fs15 h v), List.forall_mem_cons.2 ⟨(fun _ h v => fs16 h v), List.forall_mem_cons.2 ⟨(fun _ h v => fs17 h v), List.forall_mem_cons.2 ⟨(fun _ h v => fs18 h v), List.forall_mem_cons.2 ⟨(fun _ h v => fs19 h v), List.forall_mem_cons.2 ⟨(fun _ h v => fs20 h v), List.forall_mem_cons.2 ⟨(fun _ h v => fs21 h v), List.forall_mem_cons.2 ⟨(fun _ h v => fs22 h v), List.forall_mem_cons.2 ⟨(fun _ h v => fs23 h v), List.forall_mem_cons.2 ⟨(fun _ h v => fs24 h v), List.forall_mem_cons.2 ⟨(fun _ h v => fs25 h v), List.forall_mem_cons.2 ⟨(fun _ h v => fs26 h v), List.forall_mem_cons.2 ⟨(fun _ h v => fs27 h v), List.forall_mem_cons.2 ⟨(fun _ h v => fs28 h v), List.forall_mem_cons.2 ⟨(fun _ h v => fs29 h v), List.forall_mem_cons.2 ⟨(fun _ h v => fs30 h v), List.forall_mem_cons.2 ⟨(fun _ h v => fs31 h v), List.forall_mem_cons.2 ⟨(fun _ h v => fs32 h v), List.forall_mem_cons.2 ⟨(fun _ h v => fs33 h v), List.forall_mem_cons.2 ⟨(fun _ h v => fs34 h v), List.forall_mem_cons.2 ⟨(fun _ h v => fs35 h v), List.forall_mem_cons.2 ⟨(fun _ h v => fs36 h v), List.forall_mem_cons.2 ⟨(fun _ h v => fs37 h v), List.forall_mem_cons.2 ⟨(fun _ h v => fs38 h v), List.forall_mem_cons.2 ⟨(fun _ h v => fs39 h v), List.forall_mem_cons.2 ⟨(fun _ h v => fs40 h v), List.forall_mem_cons.2 ⟨(fun _ h v => fs41 h v), List.forall_mem_cons.2 ⟨(fun _ h v => fs42 h v), List.forall_mem_cons.2 ⟨(fun _ h v => fs43 h v), List.forall_mem_cons.2 ⟨(fun _ h v => fs44 h v), List.forall_mem_cons.2 ⟨(fun _ h v => fs45 h v), List.forall_mem_cons.2 ⟨(fun _ h v => fs46 h v), List.forall_mem_cons.2 ⟨(fun _ h v => fs47 h v), List.forall_mem_cons.2 ⟨(fun _ h v => fs48 h v), List.forall_mem_cons.2 ⟨(fun _ h v => fs49 h v), List.forall_mem_cons.2 ⟨(fun _ h v => fs50 h v), List.forall_mem_cons.2 ⟨(fun _ h v => fs51 h v), List.forall_mem_cons.2 ⟨(fun _ h v => fs52 h v), List.forall_mem_cons.2 ⟨(fun _ h v => fs53 h v), List.forall_mem_cons.2 ⟨(fun _ h v => fs54 h v), List.forall_mem_cons.2 ⟨(fun _ h v => fs55 h v), fun _ h => absurd h List.not_mem_nil⟩⟩⟩⟩⟩⟩⟩⟩⟩⟩⟩⟩⟩⟩⟩⟩⟩⟩⟩⟩⟩⟩⟩⟩⟩⟩⟩⟩⟩⟩⟩⟩⟩⟩⟩⟩⟩⟩⟩⟩⟩⟩⟩⟩⟩⟩⟩⟩⟩⟩⟩⟩⟩⟩⟩⟩
end PL
end Go.Proofs.Ytnonimnhninafaa.Ab
