/- The reference's shape of a word, in a plain form; printed by a program of the session. -/
import Derived.Test.YtnonimnhninafaaAbP1
namespace Go.Proofs.Ytnonimnhninafaa.Ab
open Go
set_option linter.unusedVariables false
set_option linter.unusedSimpArgs false
namespace PL
set_option maxRecDepth 100000

def frm (a : Int) : M.Operand := ⟨a / 8 % 8, a % 8, 0⟩
def sgn (a : Int) : Int := if a > 127 then a - 256 else a
theorem frm_mod (a : Int) : frm (a % 64) = frm a := by unfold frm; congr 1 <;> omega
theorem mask3 (x : Int) : bitOf BinOp.and IntKind.i64 x 7 = x % 8 := and_mask x 3 (by decide)
theorem mask4 (x : Int) : bitOf BinOp.and IntKind.i64 x 15 = x % 16 := and_mask x 4 (by decide)
theorem mask6 (x : Int) : bitOf BinOp.and IntKind.i64 x 63 = x % 64 := and_mask x 6 (by decide)
theorem mask8 (x : Int) : bitOf BinOp.and IntKind.i64 x 255 = x % 256 := and_mask x 8 (by decide)
theorem mask16 (x : Int) : bitOf BinOp.and IntKind.i64 x 65535 = x % 65536 := and_mask x 16 (by decide)
theorem from05 {a : Int} : X.R05_From a = frm a := by
  unfold X.R05_From frm
  rw [mask6]
  simp (disch := omega) only [Int.tdiv_eq_ediv_of_nonneg, Int.tmod_eq_emod_of_nonneg, wrap64]
  congr 1 <;> omega
theorem from_ {a : Int} : X.operand_From a = frm a := by
  unfold X.operand_From frm
  rw [mask3, mask3]
  have : Int.fdiv a ((2 : Int) ^ (3 : Nat)) = a / 8 := by rw [show ((2 : Int) ^ (3 : Nat)) = 8 from rfl, Int.fdiv_eq_ediv_of_nonneg _ (by decide)]
  rw [this]
theorem fd6 (a : Int) : Int.fdiv a ((2 : Int) ^ (6 : Nat)) = a / 64 := by rw [show ((2 : Int) ^ (6 : Nat)) = 64 from rfl, Int.fdiv_eq_ediv_of_nonneg _ (by decide)]
theorem signed05 {a : Int} (h0 : 0 ≤ a) (h1 : a < 65536) : X.R06_signed a = sgn a := by
  unfold X.R06_signed sgn
  by_cases h : a > 127
  · rw [if_pos h]; simp only [h, decide_true, cond_true]; exact wrap64 (by omega) (by omega)
  · rw [if_neg h]; simp only [h, decide_false, cond_false]
theorem bif_if {α : Type} {c : Bool} {p : Prop} [Decidable p] {x y x' y' : α} (hc : c = true ↔ p) (hx : x = x') (hy : y = y') : (bif c then x else y) = if p then x' else y' := by
  cases c with
  | true => rw [if_pos (hc.1 rfl), ← hx]; rfl
  | false => rw [if_neg (fun h => by cases hc.2 h), ← hy]; rfl
theorem inst_ext {o o' : Int} {b : Bool} {s s' d d' : M.Operand} {r r' n n' : Int} (h1 : o = o') (h2 : s = s') (h3 : d = d') (h4 : r = r') (h5 : n = n') : (⟨o, b, s, d, r, n⟩ : M.Inst) = ⟨o', b, s', d', r', n'⟩ := by
  subst h1; subst h2; subst h3; subst h4; subst h5; rfl

def shp (a : Int) : M.Inst :=
  if (a / 4096) ≥ 1 ∧ (a / 4096) ≤ 5 then (⟨(1 + ((a / 4096) - 1)), false, (frm (a / 64)), (frm a), 0, 0⟩ : M.Inst)
  else if (a / 4096) ≥ 9 ∧ (a / 4096) ≤ 13 then (⟨(1 + ((a / 4096) - 9)), true, (frm (a / 64)), (frm a), 0, 0⟩ : M.Inst)
  else if (a / 4096) = 6 then (⟨6, false, (frm (a / 64)), (frm a), 0, 0⟩ : M.Inst)
  else if (a / 4096) = 14 then (⟨7, false, (frm (a / 64)), (frm a), 0, 0⟩ : M.Inst)
  else if (a / 512) ≥ 56 ∧ (a / 512) ≤ 58 then (⟨(8 + ((a / 512) - 56)), false, (frm a), (⟨0, 0, 0⟩ : M.Operand), ((a / 64) % 8), 0⟩ : M.Inst)
  else if (a / 512) = 60 then (⟨11, false, (⟨0, 0, 0⟩ : M.Operand), (frm a), ((a / 64) % 8), 0⟩ : M.Inst)
  else if (a / 512) = 63 then (⟨44, false, (⟨0, 0, 0⟩ : M.Operand), (⟨0, 0, 0⟩ : M.Operand), ((a / 64) % 8), (a % 64)⟩ : M.Inst)
  else if (a / 64) ≥ 40 ∧ (a / 64) ≤ 47 then (⟨(12 + ((a / 64) - 40)), false, (⟨0, 0, 0⟩ : M.Operand), (frm a), 0, 0⟩ : M.Inst)
  else if (a / 64) ≥ 552 ∧ (a / 64) ≤ 559 then (⟨(12 + ((a / 64) - 552)), true, (⟨0, 0, 0⟩ : M.Operand), (frm a), 0, 0⟩ : M.Inst)
  else if (a / 64) ≥ 48 ∧ (a / 64) ≤ 51 then (⟨(20 + ((a / 64) - 48)), false, (⟨0, 0, 0⟩ : M.Operand), (frm a), 0, 0⟩ : M.Inst)
  else if (a / 64) ≥ 560 ∧ (a / 64) ≤ 563 then (⟨(20 + ((a / 64) - 560)), true, (⟨0, 0, 0⟩ : M.Operand), (frm a), 0, 0⟩ : M.Inst)
  else if (a / 64) = 3 then (⟨24, false, (⟨0, 0, 0⟩ : M.Operand), (frm a), 0, 0⟩ : M.Inst)
  else if (a / 64) = 55 then (⟨25, false, (⟨0, 0, 0⟩ : M.Operand), (frm a), 0, 0⟩ : M.Inst)
  else if (a / 64) = 53 then (⟨55, false, (frm a), (⟨0, 0, 0⟩ : M.Operand), 0, 0⟩ : M.Inst)
  else if (a / 64) = 54 then (⟨56, false, (⟨0, 0, 0⟩ : M.Operand), (frm a), 0, 0⟩ : M.Inst)
  else if (a / 64) = 1 then (⟨41, false, (⟨0, 0, 0⟩ : M.Operand), (frm a), 0, 0⟩ : M.Inst)
  else if (a / 512) = 4 then (⟨42, false, (⟨0, 0, 0⟩ : M.Operand), (frm a), ((a / 64) % 8), 0⟩ : M.Inst)
  else if (a / 8) = 16 then (⟨43, false, (⟨0, 0, 0⟩ : M.Operand), (⟨0, 0, 0⟩ : M.Operand), (a % 8), 0⟩ : M.Inst)
  else if (a / 256) ≥ 1 ∧ (a / 256) ≤ 7 then (⟨(26 + ((a / 256) - 1)), false, (⟨0, 0, 0⟩ : M.Operand), (⟨0, 0, 0⟩ : M.Operand), 0, (sgn (a % 256))⟩ : M.Inst)
  else if (a / 256) ≥ 128 ∧ (a / 256) ≤ 135 then (⟨(33 + ((a / 256) - 128)), false, (⟨0, 0, 0⟩ : M.Operand), (⟨0, 0, 0⟩ : M.Operand), 0, (sgn (a % 256))⟩ : M.Inst)
  else if (a / 256) = 136 then (⟨45, false, (⟨0, 0, 0⟩ : M.Operand), (⟨0, 0, 0⟩ : M.Operand), 0, (a % 256)⟩ : M.Inst)
  else if (a / 256) = 137 then (⟨46, false, (⟨0, 0, 0⟩ : M.Operand), (⟨0, 0, 0⟩ : M.Operand), 0, (a % 256)⟩ : M.Inst)
  else if (a / 16) = 10 then (⟨53, false, (⟨0, 0, 0⟩ : M.Operand), (⟨0, 0, 0⟩ : M.Operand), 0, (a % 16)⟩ : M.Inst)
  else if (a / 16) = 11 then (⟨54, false, (⟨0, 0, 0⟩ : M.Operand), (⟨0, 0, 0⟩ : M.Operand), 0, (a % 16)⟩ : M.Inst)
  else if a = 0 then (⟨50, false, (⟨0, 0, 0⟩ : M.Operand), (⟨0, 0, 0⟩ : M.Operand), 0, 0⟩ : M.Inst)
  else if a = 1 then (⟨51, false, (⟨0, 0, 0⟩ : M.Operand), (⟨0, 0, 0⟩ : M.Operand), 0, 0⟩ : M.Inst)
  else if a = 2 then (⟨49, false, (⟨0, 0, 0⟩ : M.Operand), (⟨0, 0, 0⟩ : M.Operand), 0, 0⟩ : M.Inst)
  else if a = 3 then (⟨47, false, (⟨0, 0, 0⟩ : M.Operand), (⟨0, 0, 0⟩ : M.Operand), 0, 0⟩ : M.Inst)
  else if a = 4 then (⟨48, false, (⟨0, 0, 0⟩ : M.Operand), (⟨0, 0, 0⟩ : M.Operand), 0, 0⟩ : M.Inst)
  else if a = 5 then (⟨52, false, (⟨0, 0, 0⟩ : M.Operand), (⟨0, 0, 0⟩ : M.Operand), 0, 0⟩ : M.Inst)
  else (⟨0, false, (⟨0, 0, 0⟩ : M.Operand), (⟨0, 0, 0⟩ : M.Operand), 0, 0⟩ : M.Inst)

theorem shape_eq {a : Int} (h0 : 0 ≤ a) (h1 : a < 65536) : X.R06_shape a = shp a := by
  unfold X.R06_shape shp
  refine bif_if (by first | (simp (disch := omega) only [Int.tdiv_eq_ediv_of_nonneg, wrap64]; simp) | simp) (by simp (disch := omega) only [Int.tdiv_eq_ediv_of_nonneg, Int.tmod_eq_emod_of_nonneg, wrap64, from05, frm_mod, signed05]) ?_
  refine bif_if (by first | (simp (disch := omega) only [Int.tdiv_eq_ediv_of_nonneg, wrap64]; simp) | simp) (by simp (disch := omega) only [Int.tdiv_eq_ediv_of_nonneg, Int.tmod_eq_emod_of_nonneg, wrap64, from05, frm_mod, signed05]) ?_
  refine bif_if (by first | (simp (disch := omega) only [Int.tdiv_eq_ediv_of_nonneg, wrap64]; simp) | simp) (by simp (disch := omega) only [Int.tdiv_eq_ediv_of_nonneg, Int.tmod_eq_emod_of_nonneg, wrap64, from05, frm_mod, signed05]) ?_
  refine bif_if (by first | (simp (disch := omega) only [Int.tdiv_eq_ediv_of_nonneg, wrap64]; simp) | simp) (by simp (disch := omega) only [Int.tdiv_eq_ediv_of_nonneg, Int.tmod_eq_emod_of_nonneg, wrap64, from05, frm_mod, signed05]) ?_
  refine bif_if (by first | (simp (disch := omega) only [Int.tdiv_eq_ediv_of_nonneg, wrap64]; simp) | simp) (by simp (disch := omega) only [Int.tdiv_eq_ediv_of_nonneg, Int.tmod_eq_emod_of_nonneg, wrap64, from05, frm_mod, signed05]) ?_
  refine bif_if (by first | (simp (disch := omega) only [Int.tdiv_eq_ediv_of_nonneg, wrap64]; simp) | simp) (by simp (disch := omega) only [Int.tdiv_eq_ediv_of_nonneg, Int.tmod_eq_emod_of_nonneg, wrap64, from05, frm_mod, signed05]) ?_
  refine bif_if (by first | (simp (disch := omega) only [Int.tdiv_eq_ediv_of_nonneg, wrap64]; simp) | simp) (by simp (disch := omega) only [Int.tdiv_eq_ediv_of_nonneg, Int.tmod_eq_emod_of_nonneg, wrap64, from05, frm_mod, signed05]) ?_
  refine bif_if (by first | (simp (disch := omega) only [Int.tdiv_eq_ediv_of_nonneg, wrap64]; simp) | simp) (by simp (disch := omega) only [Int.tdiv_eq_ediv_of_nonneg, Int.tmod_eq_emod_of_nonneg, wrap64, from05, frm_mod, signed05]) ?_
  refine bif_if (by first | (simp (disch := omega) only [Int.tdiv_eq_ediv_of_nonneg, wrap64]; simp) | simp) (by simp (disch := omega) only [Int.tdiv_eq_ediv_of_nonneg, Int.tmod_eq_emod_of_nonneg, wrap64, from05, frm_mod, signed05]) ?_
  refine bif_if (by first | (simp (disch := omega) only [Int.tdiv_eq_ediv_of_nonneg, wrap64]; simp) | simp) (by simp (disch := omega) only [Int.tdiv_eq_ediv_of_nonneg, Int.tmod_eq_emod_of_nonneg, wrap64, from05, frm_mod, signed05]) ?_
  refine bif_if (by first | (simp (disch := omega) only [Int.tdiv_eq_ediv_of_nonneg, wrap64]; simp) | simp) (by simp (disch := omega) only [Int.tdiv_eq_ediv_of_nonneg, Int.tmod_eq_emod_of_nonneg, wrap64, from05, frm_mod, signed05]) ?_
  refine bif_if (by first | (simp (disch := omega) only [Int.tdiv_eq_ediv_of_nonneg, wrap64]; simp) | simp) (by simp (disch := omega) only [Int.tdiv_eq_ediv_of_nonneg, Int.tmod_eq_emod_of_nonneg, wrap64, from05, frm_mod, signed05]) ?_
  refine bif_if (by first | (simp (disch := omega) only [Int.tdiv_eq_ediv_of_nonneg, wrap64]; simp) | simp) (by simp (disch := omega) only [Int.tdiv_eq_ediv_of_nonneg, Int.tmod_eq_emod_of_nonneg, wrap64, from05, frm_mod, signed05]) ?_
  refine bif_if (by first | (simp (disch := omega) only [Int.tdiv_eq_ediv_of_nonneg, wrap64]; simp) | simp) (by simp (disch := omega) only [Int.tdiv_eq_ediv_of_nonneg, Int.tmod_eq_emod_of_nonneg, wrap64, from05, frm_mod, signed05]) ?_
  refine bif_if (by first | (simp (disch := omega) only [Int.tdiv_eq_ediv_of_nonneg, wrap64]; simp) | simp) (by simp (disch := omega) only [Int.tdiv_eq_ediv_of_nonneg, Int.tmod_eq_emod_of_nonneg, wrap64, from05, frm_mod, signed05]) ?_
  refine bif_if (by first | (simp (disch := omega) only [Int.tdiv_eq_ediv_of_nonneg, wrap64]; simp) | simp) (by simp (disch := omega) only [Int.tdiv_eq_ediv_of_nonneg, Int.tmod_eq_emod_of_nonneg, wrap64, from05, frm_mod, signed05]) ?_
  refine bif_if (by first | (simp (disch := omega) only [Int.tdiv_eq_ediv_of_nonneg, wrap64]; simp) | simp) (by simp (disch := omega) only [Int.tdiv_eq_ediv_of_nonneg, Int.tmod_eq_emod_of_nonneg, wrap64, from05, frm_mod, signed05]) ?_
  refine bif_if (by first | (simp (disch := omega) only [Int.tdiv_eq_ediv_of_nonneg, wrap64]; simp) | simp) (by simp (disch := omega) only [Int.tdiv_eq_ediv_of_nonneg, Int.tmod_eq_emod_of_nonneg, wrap64, from05, frm_mod, signed05]) ?_
  refine bif_if (by first | (simp (disch := omega) only [Int.tdiv_eq_ediv_of_nonneg, wrap64]; simp) | simp) (by simp (disch := omega) only [Int.tdiv_eq_ediv_of_nonneg, Int.tmod_eq_emod_of_nonneg, wrap64, from05, frm_mod, signed05]) ?_
  refine bif_if (by first | (simp (disch := omega) only [Int.tdiv_eq_ediv_of_nonneg, wrap64]; simp) | simp) (by simp (disch := omega) only [Int.tdiv_eq_ediv_of_nonneg, Int.tmod_eq_emod_of_nonneg, wrap64, from05, frm_mod, signed05]) ?_
  refine bif_if (by first | (simp (disch := omega) only [Int.tdiv_eq_ediv_of_nonneg, wrap64]; simp) | simp) (by simp (disch := omega) only [Int.tdiv_eq_ediv_of_nonneg, Int.tmod_eq_emod_of_nonneg, wrap64, from05, frm_mod, signed05]) ?_
  refine bif_if (by first | (simp (disch := omega) only [Int.tdiv_eq_ediv_of_nonneg, wrap64]; simp) | simp) (by simp (disch := omega) only [Int.tdiv_eq_ediv_of_nonneg, Int.tmod_eq_emod_of_nonneg, wrap64, from05, frm_mod, signed05]) ?_
  refine bif_if (by first | (simp (disch := omega) only [Int.tdiv_eq_ediv_of_nonneg, wrap64]; simp) | simp) (by simp (disch := omega) only [Int.tdiv_eq_ediv_of_nonneg, Int.tmod_eq_emod_of_nonneg, wrap64, from05, frm_mod, signed05]) ?_
  refine bif_if (by first | (simp (disch := omega) only [Int.tdiv_eq_ediv_of_nonneg, wrap64]; simp) | simp) (by simp (disch := omega) only [Int.tdiv_eq_ediv_of_nonneg, Int.tmod_eq_emod_of_nonneg, wrap64, from05, frm_mod, signed05]) ?_
  refine bif_if (by first | (simp (disch := omega) only [Int.tdiv_eq_ediv_of_nonneg, wrap64]; simp) | simp) (by simp (disch := omega) only [Int.tdiv_eq_ediv_of_nonneg, Int.tmod_eq_emod_of_nonneg, wrap64, from05, frm_mod, signed05]) ?_
  refine bif_if (by first | (simp (disch := omega) only [Int.tdiv_eq_ediv_of_nonneg, wrap64]; simp) | simp) (by simp (disch := omega) only [Int.tdiv_eq_ediv_of_nonneg, Int.tmod_eq_emod_of_nonneg, wrap64, from05, frm_mod, signed05]) ?_
  refine bif_if (by first | (simp (disch := omega) only [Int.tdiv_eq_ediv_of_nonneg, wrap64]; simp) | simp) (by simp (disch := omega) only [Int.tdiv_eq_ediv_of_nonneg, Int.tmod_eq_emod_of_nonneg, wrap64, from05, frm_mod, signed05]) ?_
  refine bif_if (by first | (simp (disch := omega) only [Int.tdiv_eq_ediv_of_nonneg, wrap64]; simp) | simp) (by simp (disch := omega) only [Int.tdiv_eq_ediv_of_nonneg, Int.tmod_eq_emod_of_nonneg, wrap64, from05, frm_mod, signed05]) ?_
  refine bif_if (by first | (simp (disch := omega) only [Int.tdiv_eq_ediv_of_nonneg, wrap64]; simp) | simp) (by simp (disch := omega) only [Int.tdiv_eq_ediv_of_nonneg, Int.tmod_eq_emod_of_nonneg, wrap64, from05, frm_mod, signed05]) ?_
  refine bif_if (by first | (simp (disch := omega) only [Int.tdiv_eq_ediv_of_nonneg, wrap64]; simp) | simp) (by simp (disch := omega) only [Int.tdiv_eq_ediv_of_nonneg, Int.tmod_eq_emod_of_nonneg, wrap64, from05, frm_mod, signed05]) ?_
  rfl

theorem s0 {a : Int} (h : a / 4096 * 4096 = 4096) : shp a = (⟨1, false, frm (a / 64), frm a, 0, 0⟩ : M.Inst) := by
  rw [shp, if_pos (by omega)] <;>
  first | rfl | exact inst_ext (by omega) rfl rfl rfl rfl
theorem s0w {a : Int} (h : a / 4096 * 4096 = 36864) : shp a = (⟨1, true, frm (a / 64), frm a, 0, 0⟩ : M.Inst) := by
  rw [shp, if_neg (by omega), if_pos (by omega)] <;>
  first | rfl | exact inst_ext (by omega) rfl rfl rfl rfl
theorem s1 {a : Int} (h : a / 4096 * 4096 = 8192) : shp a = (⟨2, false, frm (a / 64), frm a, 0, 0⟩ : M.Inst) := by
  rw [shp, if_pos (by omega)] <;>
  first | rfl | exact inst_ext (by omega) rfl rfl rfl rfl
theorem s1w {a : Int} (h : a / 4096 * 4096 = 40960) : shp a = (⟨2, true, frm (a / 64), frm a, 0, 0⟩ : M.Inst) := by
  rw [shp, if_neg (by omega), if_pos (by omega)] <;>
  first | rfl | exact inst_ext (by omega) rfl rfl rfl rfl
theorem s2 {a : Int} (h : a / 4096 * 4096 = 12288) : shp a = (⟨3, false, frm (a / 64), frm a, 0, 0⟩ : M.Inst) := by
  rw [shp, if_pos (by omega)] <;>
  first | rfl | exact inst_ext (by omega) rfl rfl rfl rfl
theorem s2w {a : Int} (h : a / 4096 * 4096 = 45056) : shp a = (⟨3, true, frm (a / 64), frm a, 0, 0⟩ : M.Inst) := by
  rw [shp, if_neg (by omega), if_pos (by omega)] <;>
  first | rfl | exact inst_ext (by omega) rfl rfl rfl rfl
theorem s3 {a : Int} (h : a / 4096 * 4096 = 16384) : shp a = (⟨4, false, frm (a / 64), frm a, 0, 0⟩ : M.Inst) := by
  rw [shp, if_pos (by omega)] <;>
  first | rfl | exact inst_ext (by omega) rfl rfl rfl rfl
theorem s3w {a : Int} (h : a / 4096 * 4096 = 49152) : shp a = (⟨4, true, frm (a / 64), frm a, 0, 0⟩ : M.Inst) := by
  rw [shp, if_neg (by omega), if_pos (by omega)] <;>
  first | rfl | exact inst_ext (by omega) rfl rfl rfl rfl
theorem s4 {a : Int} (h : a / 4096 * 4096 = 20480) : shp a = (⟨5, false, frm (a / 64), frm a, 0, 0⟩ : M.Inst) := by
  rw [shp, if_pos (by omega)] <;>
  first | rfl | exact inst_ext (by omega) rfl rfl rfl rfl
theorem s4w {a : Int} (h : a / 4096 * 4096 = 53248) : shp a = (⟨5, true, frm (a / 64), frm a, 0, 0⟩ : M.Inst) := by
  rw [shp, if_neg (by omega), if_pos (by omega)] <;>
  first | rfl | exact inst_ext (by omega) rfl rfl rfl rfl
theorem s5 {a : Int} (h : a / 4096 * 4096 = 24576) : shp a = (⟨6, false, frm (a / 64), frm a, 0, 0⟩ : M.Inst) := by
  rw [shp, if_neg (by omega), if_neg (by omega), if_pos (by omega)] <;>
  first | rfl | exact inst_ext (by omega) rfl rfl rfl rfl
theorem s6 {a : Int} (h : a / 4096 * 4096 = 57344) : shp a = (⟨7, false, frm (a / 64), frm a, 0, 0⟩ : M.Inst) := by
  rw [shp, if_neg (by omega), if_neg (by omega), if_neg (by omega), if_pos (by omega)] <;>
  first | rfl | exact inst_ext (by omega) rfl rfl rfl rfl
theorem s7 {a : Int} (h : a / 512 * 512 = 28672) : shp a = (⟨8, false, frm a, (⟨0, 0, 0⟩ : M.Operand), a / 64 % 8, 0⟩ : M.Inst) := by
  rw [shp, if_neg (by omega), if_neg (by omega), if_neg (by omega), if_neg (by omega), if_pos (by omega)] <;>
  first | rfl | exact inst_ext (by omega) rfl rfl rfl rfl
theorem s8 {a : Int} (h : a / 512 * 512 = 29184) : shp a = (⟨9, false, frm a, (⟨0, 0, 0⟩ : M.Operand), a / 64 % 8, 0⟩ : M.Inst) := by
  rw [shp, if_neg (by omega), if_neg (by omega), if_neg (by omega), if_neg (by omega), if_pos (by omega)] <;>
  first | rfl | exact inst_ext (by omega) rfl rfl rfl rfl
theorem s9 {a : Int} (h : a / 512 * 512 = 29696) : shp a = (⟨10, false, frm a, (⟨0, 0, 0⟩ : M.Operand), a / 64 % 8, 0⟩ : M.Inst) := by
  rw [shp, if_neg (by omega), if_neg (by omega), if_neg (by omega), if_neg (by omega), if_pos (by omega)] <;>
  first | rfl | exact inst_ext (by omega) rfl rfl rfl rfl
theorem s10 {a : Int} (h : a / 512 * 512 = 30720) : shp a = (⟨11, false, (⟨0, 0, 0⟩ : M.Operand), frm a, a / 64 % 8, 0⟩ : M.Inst) := by
  rw [shp, if_neg (by omega), if_neg (by omega), if_neg (by omega), if_neg (by omega), if_neg (by omega), if_pos (by omega)] <;>
  first | rfl | exact inst_ext (by omega) rfl rfl rfl rfl
theorem s11 {a : Int} (h : a / 64 * 64 = 2560) : shp a = (⟨12, false, (⟨0, 0, 0⟩ : M.Operand), frm a, 0, 0⟩ : M.Inst) := by
  rw [shp, if_neg (by omega), if_neg (by omega), if_neg (by omega), if_neg (by omega), if_neg (by omega), if_neg (by omega), if_neg (by omega), if_pos (by omega)] <;>
  first | rfl | exact inst_ext (by omega) rfl rfl rfl rfl
theorem s11w {a : Int} (h : a / 64 * 64 = 35328) : shp a = (⟨12, true, (⟨0, 0, 0⟩ : M.Operand), frm a, 0, 0⟩ : M.Inst) := by
  rw [shp, if_neg (by omega), if_neg (by omega), if_neg (by omega), if_neg (by omega), if_neg (by omega), if_neg (by omega), if_neg (by omega), if_neg (by omega), if_pos (by omega)] <;>
  first | rfl | exact inst_ext (by omega) rfl rfl rfl rfl
theorem s12 {a : Int} (h : a / 64 * 64 = 2624) : shp a = (⟨13, false, (⟨0, 0, 0⟩ : M.Operand), frm a, 0, 0⟩ : M.Inst) := by
  rw [shp, if_neg (by omega), if_neg (by omega), if_neg (by omega), if_neg (by omega), if_neg (by omega), if_neg (by omega), if_neg (by omega), if_pos (by omega)] <;>
  first | rfl | exact inst_ext (by omega) rfl rfl rfl rfl
theorem s12w {a : Int} (h : a / 64 * 64 = 35392) : shp a = (⟨13, true, (⟨0, 0, 0⟩ : M.Operand), frm a, 0, 0⟩ : M.Inst) := by
  rw [shp, if_neg (by omega), if_neg (by omega), if_neg (by omega), if_neg (by omega), if_neg (by omega), if_neg (by omega), if_neg (by omega), if_neg (by omega), if_pos (by omega)] <;>
  first | rfl | exact inst_ext (by omega) rfl rfl rfl rfl
theorem s13 {a : Int} (h : a / 64 * 64 = 2688) : shp a = (⟨14, false, (⟨0, 0, 0⟩ : M.Operand), frm a, 0, 0⟩ : M.Inst) := by
  rw [shp, if_neg (by omega), if_neg (by omega), if_neg (by omega), if_neg (by omega), if_neg (by omega), if_neg (by omega), if_neg (by omega), if_pos (by omega)] <;>
  first | rfl | exact inst_ext (by omega) rfl rfl rfl rfl
theorem s13w {a : Int} (h : a / 64 * 64 = 35456) : shp a = (⟨14, true, (⟨0, 0, 0⟩ : M.Operand), frm a, 0, 0⟩ : M.Inst) := by
  rw [shp, if_neg (by omega), if_neg (by omega), if_neg (by omega), if_neg (by omega), if_neg (by omega), if_neg (by omega), if_neg (by omega), if_neg (by omega), if_pos (by omega)] <;>
  first | rfl | exact inst_ext (by omega) rfl rfl rfl rfl
theorem s14 {a : Int} (h : a / 64 * 64 = 2752) : shp a = (⟨15, false, (⟨0, 0, 0⟩ : M.Operand), frm a, 0, 0⟩ : M.Inst) := by
  rw [shp, if_neg (by omega), if_neg (by omega), if_neg (by omega), if_neg (by omega), if_neg (by omega), if_neg (by omega), if_neg (by omega), if_pos (by omega)] <;>
  first | rfl | exact inst_ext (by omega) rfl rfl rfl rfl
theorem s14w {a : Int} (h : a / 64 * 64 = 35520) : shp a = (⟨15, true, (⟨0, 0, 0⟩ : M.Operand), frm a, 0, 0⟩ : M.Inst) := by
  rw [shp, if_neg (by omega), if_neg (by omega), if_neg (by omega), if_neg (by omega), if_neg (by omega), if_neg (by omega), if_neg (by omega), if_neg (by omega), if_pos (by omega)] <;>
  first | rfl | exact inst_ext (by omega) rfl rfl rfl rfl
theorem s15 {a : Int} (h : a / 64 * 64 = 2816) : shp a = (⟨16, false, (⟨0, 0, 0⟩ : M.Operand), frm a, 0, 0⟩ : M.Inst) := by
  rw [shp, if_neg (by omega), if_neg (by omega), if_neg (by omega), if_neg (by omega), if_neg (by omega), if_neg (by omega), if_neg (by omega), if_pos (by omega)] <;>
  first | rfl | exact inst_ext (by omega) rfl rfl rfl rfl
theorem s15w {a : Int} (h : a / 64 * 64 = 35584) : shp a = (⟨16, true, (⟨0, 0, 0⟩ : M.Operand), frm a, 0, 0⟩ : M.Inst) := by
  rw [shp, if_neg (by omega), if_neg (by omega), if_neg (by omega), if_neg (by omega), if_neg (by omega), if_neg (by omega), if_neg (by omega), if_neg (by omega), if_pos (by omega)] <;>
  first | rfl | exact inst_ext (by omega) rfl rfl rfl rfl
theorem s16 {a : Int} (h : a / 64 * 64 = 2880) : shp a = (⟨17, false, (⟨0, 0, 0⟩ : M.Operand), frm a, 0, 0⟩ : M.Inst) := by
  rw [shp, if_neg (by omega), if_neg (by omega), if_neg (by omega), if_neg (by omega), if_neg (by omega), if_neg (by omega), if_neg (by omega), if_pos (by omega)] <;>
  first | rfl | exact inst_ext (by omega) rfl rfl rfl rfl
theorem s16w {a : Int} (h : a / 64 * 64 = 35648) : shp a = (⟨17, true, (⟨0, 0, 0⟩ : M.Operand), frm a, 0, 0⟩ : M.Inst) := by
  rw [shp, if_neg (by omega), if_neg (by omega), if_neg (by omega), if_neg (by omega), if_neg (by omega), if_neg (by omega), if_neg (by omega), if_neg (by omega), if_pos (by omega)] <;>
  first | rfl | exact inst_ext (by omega) rfl rfl rfl rfl
theorem s17 {a : Int} (h : a / 64 * 64 = 2944) : shp a = (⟨18, false, (⟨0, 0, 0⟩ : M.Operand), frm a, 0, 0⟩ : M.Inst) := by
  rw [shp, if_neg (by omega), if_neg (by omega), if_neg (by omega), if_neg (by omega), if_neg (by omega), if_neg (by omega), if_neg (by omega), if_pos (by omega)] <;>
  first | rfl | exact inst_ext (by omega) rfl rfl rfl rfl
theorem s17w {a : Int} (h : a / 64 * 64 = 35712) : shp a = (⟨18, true, (⟨0, 0, 0⟩ : M.Operand), frm a, 0, 0⟩ : M.Inst) := by
  rw [shp, if_neg (by omega), if_neg (by omega), if_neg (by omega), if_neg (by omega), if_neg (by omega), if_neg (by omega), if_neg (by omega), if_neg (by omega), if_pos (by omega)] <;>
  first | rfl | exact inst_ext (by omega) rfl rfl rfl rfl
theorem s18 {a : Int} (h : a / 64 * 64 = 3008) : shp a = (⟨19, false, (⟨0, 0, 0⟩ : M.Operand), frm a, 0, 0⟩ : M.Inst) := by
  rw [shp, if_neg (by omega), if_neg (by omega), if_neg (by omega), if_neg (by omega), if_neg (by omega), if_neg (by omega), if_neg (by omega), if_pos (by omega)] <;>
  first | rfl | exact inst_ext (by omega) rfl rfl rfl rfl
theorem s18w {a : Int} (h : a / 64 * 64 = 35776) : shp a = (⟨19, true, (⟨0, 0, 0⟩ : M.Operand), frm a, 0, 0⟩ : M.Inst) := by
  rw [shp, if_neg (by omega), if_neg (by omega), if_neg (by omega), if_neg (by omega), if_neg (by omega), if_neg (by omega), if_neg (by omega), if_neg (by omega), if_pos (by omega)] <;>
  first | rfl | exact inst_ext (by omega) rfl rfl rfl rfl
theorem s19 {a : Int} (h : a / 64 * 64 = 3072) : shp a = (⟨20, false, (⟨0, 0, 0⟩ : M.Operand), frm a, 0, 0⟩ : M.Inst) := by
  rw [shp, if_neg (by omega), if_neg (by omega), if_neg (by omega), if_neg (by omega), if_neg (by omega), if_neg (by omega), if_neg (by omega), if_neg (by omega), if_neg (by omega), if_pos (by omega)] <;>
  first | rfl | exact inst_ext (by omega) rfl rfl rfl rfl
theorem s19w {a : Int} (h : a / 64 * 64 = 35840) : shp a = (⟨20, true, (⟨0, 0, 0⟩ : M.Operand), frm a, 0, 0⟩ : M.Inst) := by
  rw [shp, if_neg (by omega), if_neg (by omega), if_neg (by omega), if_neg (by omega), if_neg (by omega), if_neg (by omega), if_neg (by omega), if_neg (by omega), if_neg (by omega), if_neg (by omega), if_pos (by omega)] <;>
  first | rfl | exact inst_ext (by omega) rfl rfl rfl rfl
theorem s20 {a : Int} (h : a / 64 * 64 = 3136) : shp a = (⟨21, false, (⟨0, 0, 0⟩ : M.Operand), frm a, 0, 0⟩ : M.Inst) := by
  rw [shp, if_neg (by omega), if_neg (by omega), if_neg (by omega), if_neg (by omega), if_neg (by omega), if_neg (by omega), if_neg (by omega), if_neg (by omega), if_neg (by omega), if_pos (by omega)] <;>
  first | rfl | exact inst_ext (by omega) rfl rfl rfl rfl
theorem s20w {a : Int} (h : a / 64 * 64 = 35904) : shp a = (⟨21, true, (⟨0, 0, 0⟩ : M.Operand), frm a, 0, 0⟩ : M.Inst) := by
  rw [shp, if_neg (by omega), if_neg (by omega), if_neg (by omega), if_neg (by omega), if_neg (by omega), if_neg (by omega), if_neg (by omega), if_neg (by omega), if_neg (by omega), if_neg (by omega), if_pos (by omega)] <;>
  first | rfl | exact inst_ext (by omega) rfl rfl rfl rfl
theorem s21 {a : Int} (h : a / 64 * 64 = 3200) : shp a = (⟨22, false, (⟨0, 0, 0⟩ : M.Operand), frm a, 0, 0⟩ : M.Inst) := by
  rw [shp, if_neg (by omega), if_neg (by omega), if_neg (by omega), if_neg (by omega), if_neg (by omega), if_neg (by omega), if_neg (by omega), if_neg (by omega), if_neg (by omega), if_pos (by omega)] <;>
  first | rfl | exact inst_ext (by omega) rfl rfl rfl rfl
theorem s21w {a : Int} (h : a / 64 * 64 = 35968) : shp a = (⟨22, true, (⟨0, 0, 0⟩ : M.Operand), frm a, 0, 0⟩ : M.Inst) := by
  rw [shp, if_neg (by omega), if_neg (by omega), if_neg (by omega), if_neg (by omega), if_neg (by omega), if_neg (by omega), if_neg (by omega), if_neg (by omega), if_neg (by omega), if_neg (by omega), if_pos (by omega)] <;>
  first | rfl | exact inst_ext (by omega) rfl rfl rfl rfl
theorem s22 {a : Int} (h : a / 64 * 64 = 3264) : shp a = (⟨23, false, (⟨0, 0, 0⟩ : M.Operand), frm a, 0, 0⟩ : M.Inst) := by
  rw [shp, if_neg (by omega), if_neg (by omega), if_neg (by omega), if_neg (by omega), if_neg (by omega), if_neg (by omega), if_neg (by omega), if_neg (by omega), if_neg (by omega), if_pos (by omega)] <;>
  first | rfl | exact inst_ext (by omega) rfl rfl rfl rfl
theorem s22w {a : Int} (h : a / 64 * 64 = 36032) : shp a = (⟨23, true, (⟨0, 0, 0⟩ : M.Operand), frm a, 0, 0⟩ : M.Inst) := by
  rw [shp, if_neg (by omega), if_neg (by omega), if_neg (by omega), if_neg (by omega), if_neg (by omega), if_neg (by omega), if_neg (by omega), if_neg (by omega), if_neg (by omega), if_neg (by omega), if_pos (by omega)] <;>
  first | rfl | exact inst_ext (by omega) rfl rfl rfl rfl
theorem s23 {a : Int} (h : a / 64 * 64 = 192) : shp a = (⟨24, false, (⟨0, 0, 0⟩ : M.Operand), frm a, 0, 0⟩ : M.Inst) := by
  rw [shp, if_neg (by omega), if_neg (by omega), if_neg (by omega), if_neg (by omega), if_neg (by omega), if_neg (by omega), if_neg (by omega), if_neg (by omega), if_neg (by omega), if_neg (by omega), if_neg (by omega), if_pos (by omega)] <;>
  first | rfl | exact inst_ext (by omega) rfl rfl rfl rfl
theorem s24 {a : Int} (h : a / 64 * 64 = 3520) : shp a = (⟨25, false, (⟨0, 0, 0⟩ : M.Operand), frm a, 0, 0⟩ : M.Inst) := by
  rw [shp, if_neg (by omega), if_neg (by omega), if_neg (by omega), if_neg (by omega), if_neg (by omega), if_neg (by omega), if_neg (by omega), if_neg (by omega), if_neg (by omega), if_neg (by omega), if_neg (by omega), if_neg (by omega), if_pos (by omega)] <;>
  first | rfl | exact inst_ext (by omega) rfl rfl rfl rfl
theorem s25 {a : Int} (h : a / 64 * 64 = 3392) : shp a = (⟨55, false, frm a, (⟨0, 0, 0⟩ : M.Operand), 0, 0⟩ : M.Inst) := by
  rw [shp, if_neg (by omega), if_neg (by omega), if_neg (by omega), if_neg (by omega), if_neg (by omega), if_neg (by omega), if_neg (by omega), if_neg (by omega), if_neg (by omega), if_neg (by omega), if_neg (by omega), if_neg (by omega), if_neg (by omega), if_pos (by omega)] <;>
  first | rfl | exact inst_ext (by omega) rfl rfl rfl rfl
theorem s26 {a : Int} (h : a / 64 * 64 = 3456) : shp a = (⟨56, false, (⟨0, 0, 0⟩ : M.Operand), frm a, 0, 0⟩ : M.Inst) := by
  rw [shp, if_neg (by omega), if_neg (by omega), if_neg (by omega), if_neg (by omega), if_neg (by omega), if_neg (by omega), if_neg (by omega), if_neg (by omega), if_neg (by omega), if_neg (by omega), if_neg (by omega), if_neg (by omega), if_neg (by omega), if_neg (by omega), if_pos (by omega)] <;>
  first | rfl | exact inst_ext (by omega) rfl rfl rfl rfl
theorem s27 {a : Int} (h : a / 64 * 64 = 64) : shp a = (⟨41, false, (⟨0, 0, 0⟩ : M.Operand), frm a, 0, 0⟩ : M.Inst) := by
  rw [shp, if_neg (by omega), if_neg (by omega), if_neg (by omega), if_neg (by omega), if_neg (by omega), if_neg (by omega), if_neg (by omega), if_neg (by omega), if_neg (by omega), if_neg (by omega), if_neg (by omega), if_neg (by omega), if_neg (by omega), if_neg (by omega), if_neg (by omega), if_pos (by omega)] <;>
  first | rfl | exact inst_ext (by omega) rfl rfl rfl rfl
theorem s28 {a : Int} (h : a / 512 * 512 = 2048) : shp a = (⟨42, false, (⟨0, 0, 0⟩ : M.Operand), frm a, a / 64 % 8, 0⟩ : M.Inst) := by
  rw [shp, if_neg (by omega), if_neg (by omega), if_neg (by omega), if_neg (by omega), if_neg (by omega), if_neg (by omega), if_neg (by omega), if_neg (by omega), if_neg (by omega), if_neg (by omega), if_neg (by omega), if_neg (by omega), if_neg (by omega), if_neg (by omega), if_neg (by omega), if_neg (by omega), if_pos (by omega)] <;>
  first | rfl | exact inst_ext (by omega) rfl rfl rfl rfl
theorem s29 {a : Int} (h : a / 8 * 8 = 128) : shp a = (⟨43, false, (⟨0, 0, 0⟩ : M.Operand), (⟨0, 0, 0⟩ : M.Operand), a % 8, 0⟩ : M.Inst) := by
  rw [shp, if_neg (by omega), if_neg (by omega), if_neg (by omega), if_neg (by omega), if_neg (by omega), if_neg (by omega), if_neg (by omega), if_neg (by omega), if_neg (by omega), if_neg (by omega), if_neg (by omega), if_neg (by omega), if_neg (by omega), if_neg (by omega), if_neg (by omega), if_neg (by omega), if_neg (by omega), if_pos (by omega)] <;>
  first | rfl | exact inst_ext (by omega) rfl rfl rfl rfl
theorem s30 {a : Int} (h : a / 512 * 512 = 32256) : shp a = (⟨44, false, (⟨0, 0, 0⟩ : M.Operand), (⟨0, 0, 0⟩ : M.Operand), a / 64 % 8, a % 64⟩ : M.Inst) := by
  rw [shp, if_neg (by omega), if_neg (by omega), if_neg (by omega), if_neg (by omega), if_neg (by omega), if_neg (by omega), if_pos (by omega)] <;>
  first | rfl | exact inst_ext (by omega) rfl rfl rfl rfl
theorem s31 {a : Int} (h : a / 256 * 256 = 256) : shp a = (⟨26, false, (⟨0, 0, 0⟩ : M.Operand), (⟨0, 0, 0⟩ : M.Operand), 0, sgn (a % 256)⟩ : M.Inst) := by
  rw [shp, if_neg (by omega), if_neg (by omega), if_neg (by omega), if_neg (by omega), if_neg (by omega), if_neg (by omega), if_neg (by omega), if_neg (by omega), if_neg (by omega), if_neg (by omega), if_neg (by omega), if_neg (by omega), if_neg (by omega), if_neg (by omega), if_neg (by omega), if_neg (by omega), if_neg (by omega), if_neg (by omega), if_pos (by omega)] <;>
  first | rfl | exact inst_ext (by omega) rfl rfl rfl rfl
theorem s32 {a : Int} (h : a / 256 * 256 = 512) : shp a = (⟨27, false, (⟨0, 0, 0⟩ : M.Operand), (⟨0, 0, 0⟩ : M.Operand), 0, sgn (a % 256)⟩ : M.Inst) := by
  rw [shp, if_neg (by omega), if_neg (by omega), if_neg (by omega), if_neg (by omega), if_neg (by omega), if_neg (by omega), if_neg (by omega), if_neg (by omega), if_neg (by omega), if_neg (by omega), if_neg (by omega), if_neg (by omega), if_neg (by omega), if_neg (by omega), if_neg (by omega), if_neg (by omega), if_neg (by omega), if_neg (by omega), if_pos (by omega)] <;>
  first | rfl | exact inst_ext (by omega) rfl rfl rfl rfl
theorem s33 {a : Int} (h : a / 256 * 256 = 768) : shp a = (⟨28, false, (⟨0, 0, 0⟩ : M.Operand), (⟨0, 0, 0⟩ : M.Operand), 0, sgn (a % 256)⟩ : M.Inst) := by
  rw [shp, if_neg (by omega), if_neg (by omega), if_neg (by omega), if_neg (by omega), if_neg (by omega), if_neg (by omega), if_neg (by omega), if_neg (by omega), if_neg (by omega), if_neg (by omega), if_neg (by omega), if_neg (by omega), if_neg (by omega), if_neg (by omega), if_neg (by omega), if_neg (by omega), if_neg (by omega), if_neg (by omega), if_pos (by omega)] <;>
  first | rfl | exact inst_ext (by omega) rfl rfl rfl rfl
theorem s34 {a : Int} (h : a / 256 * 256 = 1024) : shp a = (⟨29, false, (⟨0, 0, 0⟩ : M.Operand), (⟨0, 0, 0⟩ : M.Operand), 0, sgn (a % 256)⟩ : M.Inst) := by
  rw [shp, if_neg (by omega), if_neg (by omega), if_neg (by omega), if_neg (by omega), if_neg (by omega), if_neg (by omega), if_neg (by omega), if_neg (by omega), if_neg (by omega), if_neg (by omega), if_neg (by omega), if_neg (by omega), if_neg (by omega), if_neg (by omega), if_neg (by omega), if_neg (by omega), if_neg (by omega), if_neg (by omega), if_pos (by omega)] <;>
  first | rfl | exact inst_ext (by omega) rfl rfl rfl rfl
theorem s35 {a : Int} (h : a / 256 * 256 = 1280) : shp a = (⟨30, false, (⟨0, 0, 0⟩ : M.Operand), (⟨0, 0, 0⟩ : M.Operand), 0, sgn (a % 256)⟩ : M.Inst) := by
  rw [shp, if_neg (by omega), if_neg (by omega), if_neg (by omega), if_neg (by omega), if_neg (by omega), if_neg (by omega), if_neg (by omega), if_neg (by omega), if_neg (by omega), if_neg (by omega), if_neg (by omega), if_neg (by omega), if_neg (by omega), if_neg (by omega), if_neg (by omega), if_neg (by omega), if_neg (by omega), if_neg (by omega), if_pos (by omega)] <;>
  first | rfl | exact inst_ext (by omega) rfl rfl rfl rfl
theorem s36 {a : Int} (h : a / 256 * 256 = 1536) : shp a = (⟨31, false, (⟨0, 0, 0⟩ : M.Operand), (⟨0, 0, 0⟩ : M.Operand), 0, sgn (a % 256)⟩ : M.Inst) := by
  rw [shp, if_neg (by omega), if_neg (by omega), if_neg (by omega), if_neg (by omega), if_neg (by omega), if_neg (by omega), if_neg (by omega), if_neg (by omega), if_neg (by omega), if_neg (by omega), if_neg (by omega), if_neg (by omega), if_neg (by omega), if_neg (by omega), if_neg (by omega), if_neg (by omega), if_neg (by omega), if_neg (by omega), if_pos (by omega)] <;>
  first | rfl | exact inst_ext (by omega) rfl rfl rfl rfl
theorem s37 {a : Int} (h : a / 256 * 256 = 1792) : shp a = (⟨32, false, (⟨0, 0, 0⟩ : M.Operand), (⟨0, 0, 0⟩ : M.Operand), 0, sgn (a % 256)⟩ : M.Inst) := by
  rw [shp, if_neg (by omega), if_neg (by omega), if_neg (by omega), if_neg (by omega), if_neg (by omega), if_neg (by omega), if_neg (by omega), if_neg (by omega), if_neg (by omega), if_neg (by omega), if_neg (by omega), if_neg (by omega), if_neg (by omega), if_neg (by omega), if_neg (by omega), if_neg (by omega), if_neg (by omega), if_neg (by omega), if_pos (by omega)] <;>
  first | rfl | exact inst_ext (by omega) rfl rfl rfl rfl
theorem s38 {a : Int} (h : a / 256 * 256 = 32768) : shp a = (⟨33, false, (⟨0, 0, 0⟩ : M.Operand), (⟨0, 0, 0⟩ : M.Operand), 0, sgn (a % 256)⟩ : M.Inst) := by
  rw [shp, if_neg (by omega), if_neg (by omega), if_neg (by omega), if_neg (by omega), if_neg (by omega), if_neg (by omega), if_neg (by omega), if_neg (by omega), if_neg (by omega), if_neg (by omega), if_neg (by omega), if_neg (by omega), if_neg (by omega), if_neg (by omega), if_neg (by omega), if_neg (by omega), if_neg (by omega), if_neg (by omega), if_neg (by omega), if_pos (by omega)] <;>
  first | rfl | exact inst_ext (by omega) rfl rfl rfl rfl
theorem s39 {a : Int} (h : a / 256 * 256 = 33024) : shp a = (⟨34, false, (⟨0, 0, 0⟩ : M.Operand), (⟨0, 0, 0⟩ : M.Operand), 0, sgn (a % 256)⟩ : M.Inst) := by
  rw [shp, if_neg (by omega), if_neg (by omega), if_neg (by omega), if_neg (by omega), if_neg (by omega), if_neg (by omega), if_neg (by omega), if_neg (by omega), if_neg (by omega), if_neg (by omega), if_neg (by omega), if_neg (by omega), if_neg (by omega), if_neg (by omega), if_neg (by omega), if_neg (by omega), if_neg (by omega), if_neg (by omega), if_neg (by omega), if_pos (by omega)] <;>
  first | rfl | exact inst_ext (by omega) rfl rfl rfl rfl
theorem s40 {a : Int} (h : a / 256 * 256 = 33280) : shp a = (⟨35, false, (⟨0, 0, 0⟩ : M.Operand), (⟨0, 0, 0⟩ : M.Operand), 0, sgn (a % 256)⟩ : M.Inst) := by
  rw [shp, if_neg (by omega), if_neg (by omega), if_neg (by omega), if_neg (by omega), if_neg (by omega), if_neg (by omega), if_neg (by omega), if_neg (by omega), if_neg (by omega), if_neg (by omega), if_neg (by omega), if_neg (by omega), if_neg (by omega), if_neg (by omega), if_neg (by omega), if_neg (by omega), if_neg (by omega), if_neg (by omega), if_neg (by omega), if_pos (by omega)] <;>
  first | rfl | exact inst_ext (by omega) rfl rfl rfl rfl
theorem s41 {a : Int} (h : a / 256 * 256 = 33536) : shp a = (⟨36, false, (⟨0, 0, 0⟩ : M.Operand), (⟨0, 0, 0⟩ : M.Operand), 0, sgn (a % 256)⟩ : M.Inst) := by
  rw [shp, if_neg (by omega), if_neg (by omega), if_neg (by omega), if_neg (by omega), if_neg (by omega), if_neg (by omega), if_neg (by omega), if_neg (by omega), if_neg (by omega), if_neg (by omega), if_neg (by omega), if_neg (by omega), if_neg (by omega), if_neg (by omega), if_neg (by omega), if_neg (by omega), if_neg (by omega), if_neg (by omega), if_neg (by omega), if_pos (by omega)] <;>
  first | rfl | exact inst_ext (by omega) rfl rfl rfl rfl
theorem s42 {a : Int} (h : a / 256 * 256 = 33792) : shp a = (⟨37, false, (⟨0, 0, 0⟩ : M.Operand), (⟨0, 0, 0⟩ : M.Operand), 0, sgn (a % 256)⟩ : M.Inst) := by
  rw [shp, if_neg (by omega), if_neg (by omega), if_neg (by omega), if_neg (by omega), if_neg (by omega), if_neg (by omega), if_neg (by omega), if_neg (by omega), if_neg (by omega), if_neg (by omega), if_neg (by omega), if_neg (by omega), if_neg (by omega), if_neg (by omega), if_neg (by omega), if_neg (by omega), if_neg (by omega), if_neg (by omega), if_neg (by omega), if_pos (by omega)] <;>
  first | rfl | exact inst_ext (by omega) rfl rfl rfl rfl
theorem s43 {a : Int} (h : a / 256 * 256 = 34048) : shp a = (⟨38, false, (⟨0, 0, 0⟩ : M.Operand), (⟨0, 0, 0⟩ : M.Operand), 0, sgn (a % 256)⟩ : M.Inst) := by
  rw [shp, if_neg (by omega), if_neg (by omega), if_neg (by omega), if_neg (by omega), if_neg (by omega), if_neg (by omega), if_neg (by omega), if_neg (by omega), if_neg (by omega), if_neg (by omega), if_neg (by omega), if_neg (by omega), if_neg (by omega), if_neg (by omega), if_neg (by omega), if_neg (by omega), if_neg (by omega), if_neg (by omega), if_neg (by omega), if_pos (by omega)] <;>
  first | rfl | exact inst_ext (by omega) rfl rfl rfl rfl
theorem s44 {a : Int} (h : a / 256 * 256 = 34304) : shp a = (⟨39, false, (⟨0, 0, 0⟩ : M.Operand), (⟨0, 0, 0⟩ : M.Operand), 0, sgn (a % 256)⟩ : M.Inst) := by
  rw [shp, if_neg (by omega), if_neg (by omega), if_neg (by omega), if_neg (by omega), if_neg (by omega), if_neg (by omega), if_neg (by omega), if_neg (by omega), if_neg (by omega), if_neg (by omega), if_neg (by omega), if_neg (by omega), if_neg (by omega), if_neg (by omega), if_neg (by omega), if_neg (by omega), if_neg (by omega), if_neg (by omega), if_neg (by omega), if_pos (by omega)] <;>
  first | rfl | exact inst_ext (by omega) rfl rfl rfl rfl
theorem s45 {a : Int} (h : a / 256 * 256 = 34560) : shp a = (⟨40, false, (⟨0, 0, 0⟩ : M.Operand), (⟨0, 0, 0⟩ : M.Operand), 0, sgn (a % 256)⟩ : M.Inst) := by
  rw [shp, if_neg (by omega), if_neg (by omega), if_neg (by omega), if_neg (by omega), if_neg (by omega), if_neg (by omega), if_neg (by omega), if_neg (by omega), if_neg (by omega), if_neg (by omega), if_neg (by omega), if_neg (by omega), if_neg (by omega), if_neg (by omega), if_neg (by omega), if_neg (by omega), if_neg (by omega), if_neg (by omega), if_neg (by omega), if_pos (by omega)] <;>
  first | rfl | exact inst_ext (by omega) rfl rfl rfl rfl
theorem s46 {a : Int} (h : a / 256 * 256 = 34816) : shp a = (⟨45, false, (⟨0, 0, 0⟩ : M.Operand), (⟨0, 0, 0⟩ : M.Operand), 0, a % 256⟩ : M.Inst) := by
  rw [shp, if_neg (by omega), if_neg (by omega), if_neg (by omega), if_neg (by omega), if_neg (by omega), if_neg (by omega), if_neg (by omega), if_neg (by omega), if_neg (by omega), if_neg (by omega), if_neg (by omega), if_neg (by omega), if_neg (by omega), if_neg (by omega), if_neg (by omega), if_neg (by omega), if_neg (by omega), if_neg (by omega), if_neg (by omega), if_neg (by omega), if_pos (by omega)] <;>
  first | rfl | exact inst_ext (by omega) rfl rfl rfl rfl
theorem s47 {a : Int} (h : a / 256 * 256 = 35072) : shp a = (⟨46, false, (⟨0, 0, 0⟩ : M.Operand), (⟨0, 0, 0⟩ : M.Operand), 0, a % 256⟩ : M.Inst) := by
  rw [shp, if_neg (by omega), if_neg (by omega), if_neg (by omega), if_neg (by omega), if_neg (by omega), if_neg (by omega), if_neg (by omega), if_neg (by omega), if_neg (by omega), if_neg (by omega), if_neg (by omega), if_neg (by omega), if_neg (by omega), if_neg (by omega), if_neg (by omega), if_neg (by omega), if_neg (by omega), if_neg (by omega), if_neg (by omega), if_neg (by omega), if_neg (by omega), if_pos (by omega)] <;>
  first | rfl | exact inst_ext (by omega) rfl rfl rfl rfl
theorem s48 {a : Int} (h : a / 16 * 16 = 160) : shp a = (⟨53, false, (⟨0, 0, 0⟩ : M.Operand), (⟨0, 0, 0⟩ : M.Operand), 0, a % 16⟩ : M.Inst) := by
  rw [shp, if_neg (by omega), if_neg (by omega), if_neg (by omega), if_neg (by omega), if_neg (by omega), if_neg (by omega), if_neg (by omega), if_neg (by omega), if_neg (by omega), if_neg (by omega), if_neg (by omega), if_neg (by omega), if_neg (by omega), if_neg (by omega), if_neg (by omega), if_neg (by omega), if_neg (by omega), if_neg (by omega), if_neg (by omega), if_neg (by omega), if_neg (by omega), if_neg (by omega), if_pos (by omega)] <;>
  first | rfl | exact inst_ext (by omega) rfl rfl rfl rfl
theorem s49 {a : Int} (h : a / 16 * 16 = 176) : shp a = (⟨54, false, (⟨0, 0, 0⟩ : M.Operand), (⟨0, 0, 0⟩ : M.Operand), 0, a % 16⟩ : M.Inst) := by
  rw [shp, if_neg (by omega), if_neg (by omega), if_neg (by omega), if_neg (by omega), if_neg (by omega), if_neg (by omega), if_neg (by omega), if_neg (by omega), if_neg (by omega), if_neg (by omega), if_neg (by omega), if_neg (by omega), if_neg (by omega), if_neg (by omega), if_neg (by omega), if_neg (by omega), if_neg (by omega), if_neg (by omega), if_neg (by omega), if_neg (by omega), if_neg (by omega), if_neg (by omega), if_neg (by omega), if_pos (by omega)] <;>
  first | rfl | exact inst_ext (by omega) rfl rfl rfl rfl
theorem s50 {a : Int} (h : a / 1 * 1 = 0) : shp a = (⟨50, false, (⟨0, 0, 0⟩ : M.Operand), (⟨0, 0, 0⟩ : M.Operand), 0, 0⟩ : M.Inst) := by
  rw [shp, if_neg (by omega), if_neg (by omega), if_neg (by omega), if_neg (by omega), if_neg (by omega), if_neg (by omega), if_neg (by omega), if_neg (by omega), if_neg (by omega), if_neg (by omega), if_neg (by omega), if_neg (by omega), if_neg (by omega), if_neg (by omega), if_neg (by omega), if_neg (by omega), if_neg (by omega), if_neg (by omega), if_neg (by omega), if_neg (by omega), if_neg (by omega), if_neg (by omega), if_neg (by omega), if_neg (by omega), if_pos (by omega)] <;>
  first | rfl | exact inst_ext (by omega) rfl rfl rfl rfl
theorem s51 {a : Int} (h : a / 1 * 1 = 1) : shp a = (⟨51, false, (⟨0, 0, 0⟩ : M.Operand), (⟨0, 0, 0⟩ : M.Operand), 0, 0⟩ : M.Inst) := by
  rw [shp, if_neg (by omega), if_neg (by omega), if_neg (by omega), if_neg (by omega), if_neg (by omega), if_neg (by omega), if_neg (by omega), if_neg (by omega), if_neg (by omega), if_neg (by omega), if_neg (by omega), if_neg (by omega), if_neg (by omega), if_neg (by omega), if_neg (by omega), if_neg (by omega), if_neg (by omega), if_neg (by omega), if_neg (by omega), if_neg (by omega), if_neg (by omega), if_neg (by omega), if_neg (by omega), if_neg (by omega), if_neg (by omega), if_pos (by omega)] <;>
  first | rfl | exact inst_ext (by omega) rfl rfl rfl rfl
theorem s52 {a : Int} (h : a / 1 * 1 = 2) : shp a = (⟨49, false, (⟨0, 0, 0⟩ : M.Operand), (⟨0, 0, 0⟩ : M.Operand), 0, 0⟩ : M.Inst) := by
  rw [shp, if_neg (by omega), if_neg (by omega), if_neg (by omega), if_neg (by omega), if_neg (by omega), if_neg (by omega), if_neg (by omega), if_neg (by omega), if_neg (by omega), if_neg (by omega), if_neg (by omega), if_neg (by omega), if_neg (by omega), if_neg (by omega), if_neg (by omega), if_neg (by omega), if_neg (by omega), if_neg (by omega), if_neg (by omega), if_neg (by omega), if_neg (by omega), if_neg (by omega), if_neg (by omega), if_neg (by omega), if_neg (by omega), if_neg (by omega), if_pos (by omega)] <;>
  first | rfl | exact inst_ext (by omega) rfl rfl rfl rfl
theorem s53 {a : Int} (h : a / 1 * 1 = 3) : shp a = (⟨47, false, (⟨0, 0, 0⟩ : M.Operand), (⟨0, 0, 0⟩ : M.Operand), 0, 0⟩ : M.Inst) := by
  rw [shp, if_neg (by omega), if_neg (by omega), if_neg (by omega), if_neg (by omega), if_neg (by omega), if_neg (by omega), if_neg (by omega), if_neg (by omega), if_neg (by omega), if_neg (by omega), if_neg (by omega), if_neg (by omega), if_neg (by omega), if_neg (by omega), if_neg (by omega), if_neg (by omega), if_neg (by omega), if_neg (by omega), if_neg (by omega), if_neg (by omega), if_neg (by omega), if_neg (by omega), if_neg (by omega), if_neg (by omega), if_neg (by omega), if_neg (by omega), if_neg (by omega), if_pos (by omega)] <;>
  first | rfl | exact inst_ext (by omega) rfl rfl rfl rfl
theorem s54 {a : Int} (h : a / 1 * 1 = 4) : shp a = (⟨48, false, (⟨0, 0, 0⟩ : M.Operand), (⟨0, 0, 0⟩ : M.Operand), 0, 0⟩ : M.Inst) := by
  rw [shp, if_neg (by omega), if_neg (by omega), if_neg (by omega), if_neg (by omega), if_neg (by omega), if_neg (by omega), if_neg (by omega), if_neg (by omega), if_neg (by omega), if_neg (by omega), if_neg (by omega), if_neg (by omega), if_neg (by omega), if_neg (by omega), if_neg (by omega), if_neg (by omega), if_neg (by omega), if_neg (by omega), if_neg (by omega), if_neg (by omega), if_neg (by omega), if_neg (by omega), if_neg (by omega), if_neg (by omega), if_neg (by omega), if_neg (by omega), if_neg (by omega), if_neg (by omega), if_pos (by omega)] <;>
  first | rfl | exact inst_ext (by omega) rfl rfl rfl rfl
theorem s55 {a : Int} (h : a / 1 * 1 = 5) : shp a = (⟨52, false, (⟨0, 0, 0⟩ : M.Operand), (⟨0, 0, 0⟩ : M.Operand), 0, 0⟩ : M.Inst) := by
  rw [shp, if_neg (by omega), if_neg (by omega), if_neg (by omega), if_neg (by omega), if_neg (by omega), if_neg (by omega), if_neg (by omega), if_neg (by omega), if_neg (by omega), if_neg (by omega), if_neg (by omega), if_neg (by omega), if_neg (by omega), if_neg (by omega), if_neg (by omega), if_neg (by omega), if_neg (by omega), if_neg (by omega), if_neg (by omega), if_neg (by omega), if_neg (by omega), if_neg (by omega), if_neg (by omega), if_neg (by omega), if_neg (by omega), if_neg (by omega), if_neg (by omega), if_neg (by omega), if_neg (by omega), if_pos (by omega)] <;>
  first | rfl | exact inst_ext (by omega) rfl rfl rfl rfl
end PL
end Go.Proofs.Ytnonimnhninafaa.Ab
