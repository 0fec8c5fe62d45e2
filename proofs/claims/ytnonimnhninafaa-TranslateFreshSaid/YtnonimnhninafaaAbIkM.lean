/- Models of functions, printed by a program of the session. -/
import Derived.Test.YtnonimnhninafaaAbPkV2

namespace Go.Proofs.Ytnonimnhninafaa.Ab
open Go
set_option linter.unusedVariables false
set_option maxRecDepth 100000

def X.inst_forms  : (Vector M.Inst_form 56) :=
  (Vector.setIfInBounds (Vector.setIfInBounds (Vector.setIfInBounds (Vector.setIfInBounds (Vector.setIfInBounds (Vector.setIfInBounds (Vector.setIfInBounds (Vector.setIfInBounds (Vector.setIfInBounds (Vector.setIfInBounds (Vector.setIfInBounds (Vector.setIfInBounds (Vector.setIfInBounds (Vector.setIfInBounds (Vector.setIfInBounds (Vector.setIfInBounds (Vector.setIfInBounds (Vector.setIfInBounds (Vector.setIfInBounds (Vector.setIfInBounds (Vector.setIfInBounds (Vector.setIfInBounds (Vector.setIfInBounds (Vector.setIfInBounds (Vector.setIfInBounds (Vector.setIfInBounds (Vector.setIfInBounds (Vector.setIfInBounds (Vector.setIfInBounds (Vector.setIfInBounds (Vector.setIfInBounds (Vector.setIfInBounds (Vector.setIfInBounds (Vector.setIfInBounds (Vector.setIfInBounds (Vector.setIfInBounds (Vector.setIfInBounds (Vector.setIfInBounds (Vector.setIfInBounds (Vector.setIfInBounds (Vector.setIfInBounds (Vector.setIfInBounds (Vector.setIfInBounds (Vector.setIfInBounds (Vector.setIfInBounds (Vector.setIfInBounds (Vector.setIfInBounds (Vector.setIfInBounds (Vector.setIfInBounds (Vector.setIfInBounds (Vector.setIfInBounds (Vector.setIfInBounds (Vector.setIfInBounds (Vector.setIfInBounds (Vector.setIfInBounds (Vector.setIfInBounds (dflt (Ty.arr 56 (Ty.st SId.sInst_form))) 0 (⟨(4096 : Int), (12 : Int), (1 : Int), (1 : Int), true⟩ : M.Inst_form)) 1 (⟨(8192 : Int), (12 : Int), (2 : Int), (1 : Int), true⟩ : M.Inst_form)) 2 (⟨(12288 : Int), (12 : Int), (3 : Int), (1 : Int), true⟩ : M.Inst_form)) 3 (⟨(16384 : Int), (12 : Int), (4 : Int), (1 : Int), true⟩ : M.Inst_form)) 4 (⟨(20480 : Int), (12 : Int), (5 : Int), (1 : Int), true⟩ : M.Inst_form)) 5 (⟨(24576 : Int), (12 : Int), (6 : Int), (1 : Int), false⟩ : M.Inst_form)) 6 (⟨(57344 : Int), (12 : Int), (7 : Int), (1 : Int), false⟩ : M.Inst_form)) 7 (⟨(28672 : Int), (9 : Int), (8 : Int), (5 : Int), false⟩ : M.Inst_form)) 8 (⟨(29184 : Int), (9 : Int), (9 : Int), (5 : Int), false⟩ : M.Inst_form)) 9 (⟨(29696 : Int), (9 : Int), (10 : Int), (5 : Int), false⟩ : M.Inst_form)) 10 (⟨(30720 : Int), (9 : Int), (11 : Int), (6 : Int), false⟩ : M.Inst_form)) 11 (⟨(2560 : Int), (6 : Int), (12 : Int), (3 : Int), true⟩ : M.Inst_form)) 12 (⟨(2624 : Int), (6 : Int), (13 : Int), (3 : Int), true⟩ : M.Inst_form)) 13 (⟨(2688 : Int), (6 : Int), (14 : Int), (3 : Int), true⟩ : M.Inst_form)) 14 (⟨(2752 : Int), (6 : Int), (15 : Int), (3 : Int), true⟩ : M.Inst_form)) 15 (⟨(2816 : Int), (6 : Int), (16 : Int), (3 : Int), true⟩ : M.Inst_form)) 16 (⟨(2880 : Int), (6 : Int), (17 : Int), (3 : Int), true⟩ : M.Inst_form)) 17 (⟨(2944 : Int), (6 : Int), (18 : Int), (3 : Int), true⟩ : M.Inst_form)) 18 (⟨(3008 : Int), (6 : Int), (19 : Int), (3 : Int), true⟩ : M.Inst_form)) 19 (⟨(3072 : Int), (6 : Int), (20 : Int), (3 : Int), true⟩ : M.Inst_form)) 20 (⟨(3136 : Int), (6 : Int), (21 : Int), (3 : Int), true⟩ : M.Inst_form)) 21 (⟨(3200 : Int), (6 : Int), (22 : Int), (3 : Int), true⟩ : M.Inst_form)) 22 (⟨(3264 : Int), (6 : Int), (23 : Int), (3 : Int), true⟩ : M.Inst_form)) 23 (⟨(192 : Int), (6 : Int), (24 : Int), (3 : Int), false⟩ : M.Inst_form)) 24 (⟨(3520 : Int), (6 : Int), (25 : Int), (3 : Int), false⟩ : M.Inst_form)) 25 (⟨(3392 : Int), (6 : Int), (55 : Int), (2 : Int), false⟩ : M.Inst_form)) 26 (⟨(3456 : Int), (6 : Int), (56 : Int), (3 : Int), false⟩ : M.Inst_form)) 27 (⟨(64 : Int), (6 : Int), (41 : Int), (4 : Int), false⟩ : M.Inst_form)) 28 (⟨(2048 : Int), (9 : Int), (42 : Int), (7 : Int), false⟩ : M.Inst_form)) 29 (⟨(128 : Int), (3 : Int), (43 : Int), (8 : Int), false⟩ : M.Inst_form)) 30 (⟨(32256 : Int), (9 : Int), (44 : Int), (10 : Int), false⟩ : M.Inst_form)) 31 (⟨(256 : Int), (8 : Int), (26 : Int), (9 : Int), false⟩ : M.Inst_form)) 32 (⟨(512 : Int), (8 : Int), (27 : Int), (9 : Int), false⟩ : M.Inst_form)) 33 (⟨(768 : Int), (8 : Int), (28 : Int), (9 : Int), false⟩ : M.Inst_form)) 34 (⟨(1024 : Int), (8 : Int), (29 : Int), (9 : Int), false⟩ : M.Inst_form)) 35 (⟨(1280 : Int), (8 : Int), (30 : Int), (9 : Int), false⟩ : M.Inst_form)) 36 (⟨(1536 : Int), (8 : Int), (31 : Int), (9 : Int), false⟩ : M.Inst_form)) 37 (⟨(1792 : Int), (8 : Int), (32 : Int), (9 : Int), false⟩ : M.Inst_form)) 38 (⟨(32768 : Int), (8 : Int), (33 : Int), (9 : Int), false⟩ : M.Inst_form)) 39 (⟨(33024 : Int), (8 : Int), (34 : Int), (9 : Int), false⟩ : M.Inst_form)) 40 (⟨(33280 : Int), (8 : Int), (35 : Int), (9 : Int), false⟩ : M.Inst_form)) 41 (⟨(33536 : Int), (8 : Int), (36 : Int), (9 : Int), false⟩ : M.Inst_form)) 42 (⟨(33792 : Int), (8 : Int), (37 : Int), (9 : Int), false⟩ : M.Inst_form)) 43 (⟨(34048 : Int), (8 : Int), (38 : Int), (9 : Int), false⟩ : M.Inst_form)) 44 (⟨(34304 : Int), (8 : Int), (39 : Int), (9 : Int), false⟩ : M.Inst_form)) 45 (⟨(34560 : Int), (8 : Int), (40 : Int), (9 : Int), false⟩ : M.Inst_form)) 46 (⟨(34816 : Int), (8 : Int), (45 : Int), (11 : Int), false⟩ : M.Inst_form)) 47 (⟨(35072 : Int), (8 : Int), (46 : Int), (11 : Int), false⟩ : M.Inst_form)) 48 (⟨(160 : Int), (4 : Int), (53 : Int), (12 : Int), false⟩ : M.Inst_form)) 49 (⟨(176 : Int), (4 : Int), (54 : Int), (12 : Int), false⟩ : M.Inst_form)) 50 (⟨(0 : Int), (0 : Int), (50 : Int), (0 : Int), false⟩ : M.Inst_form)) 51 (⟨(1 : Int), (0 : Int), (51 : Int), (0 : Int), false⟩ : M.Inst_form)) 52 (⟨(2 : Int), (0 : Int), (49 : Int), (0 : Int), false⟩ : M.Inst_form)) 53 (⟨(3 : Int), (0 : Int), (47 : Int), (0 : Int), false⟩ : M.Inst_form)) 54 (⟨(4 : Int), (0 : Int), (48 : Int), (0 : Int), false⟩ : M.Inst_form)) 55 (⟨(5 : Int), (0 : Int), (52 : Int), (0 : Int), false⟩ : M.Inst_form))

def X.inst_formOf_b2 (x : ((Int × (Vector M.Inst_form 56) × Int × Unit) × (M.Inst_form × Unit))) : Option (Out ((Int × (Vector M.Inst_form 56) × Int × Unit) × (M.Inst_form × Unit)) ((Unit) × (M.Inst_form × Unit)) ((Unit) × (Unit)) ((Bool × Bool × Unit) × (M.Inst_form × Unit))) :=
  bif (decide (x.1.2.2.1 < (56 : Int))) then bif ((decide ((0 : Int) ≤ x.1.2.2.1)) && (decide (x.1.2.2.1 < (Nat.cast 56 : Int)))) then bif (decide ((0 : Int) ≤ (List.getD (Vector.toList x.1.2.1) (Int.toNat x.1.2.2.1) (dflt (Ty.st SId.sInst_form))).bits)) then bif (decide ((0 : Int) ≤ (List.getD (Vector.toList x.1.2.1) (Int.toNat x.1.2.2.1) (dflt (Ty.st SId.sInst_form))).bits)) then bif ((IntKind.wrap IntKind.i64 ((Int.fdiv x.1.1 ((2 : Int) ^ (Min.min (Int.toNat (List.getD (Vector.toList x.1.2.1) (Int.toNat x.1.2.2.1) (dflt (Ty.st SId.sInst_form))).bits) (IntKind.bits IntKind.i64)))) * ((2 : Int) ^ (Min.min (Int.toNat (List.getD (Vector.toList x.1.2.1) (Int.toNat x.1.2.2.1) (dflt (Ty.st SId.sInst_form))).bits) (IntKind.bits IntKind.i64))))) == (List.getD (Vector.toList x.1.2.1) (Int.toNat x.1.2.2.1) (dflt (Ty.st SId.sInst_form))).first) then some (Out.ret ((false, (true, ())), ((List.getD (Vector.toList x.1.2.1) (Int.toNat x.1.2.2.1) (dflt (Ty.st SId.sInst_form))), ())))
          else bif ((IntKind.wrap IntKind.i64 ((Int.fdiv x.1.1 ((2 : Int) ^ (Min.min (Int.toNat (List.getD (Vector.toList x.1.2.1) (Int.toNat x.1.2.2.1) (dflt (Ty.st SId.sInst_form))).bits) (IntKind.bits IntKind.i64)))) * ((2 : Int) ^ (Min.min (Int.toNat (List.getD (Vector.toList x.1.2.1) (Int.toNat x.1.2.2.1) (dflt (Ty.st SId.sInst_form))).bits) (IntKind.bits IntKind.i64))))) == (bitOf BinOp.or IntKind.i64 (List.getD (Vector.toList x.1.2.1) (Int.toNat x.1.2.2.1) (dflt (Ty.st SId.sInst_form))).first (32768 : Int))) then bif (List.getD (Vector.toList x.1.2.1) (Int.toNat x.1.2.2.1) (dflt (Ty.st SId.sInst_form))).bytes then some (Out.ret ((true, (true, ())), ((List.getD (Vector.toList x.1.2.1) (Int.toNat x.1.2.2.1) (dflt (Ty.st SId.sInst_form))), ())))
            else some (Out.next ((x.1.1, (x.1.2.1, ((IntKind.wrap IntKind.i64 (x.1.2.2.1 + (1 : Int))), ()))), (x.2.1, ())))
          else some (Out.next ((x.1.1, (x.1.2.1, ((IntKind.wrap IntKind.i64 (x.1.2.2.1 + (1 : Int))), ()))), (x.2.1, ())))
        else none
      else none
    else none
  else some (Out.brk ((), (x.2.1, ())))

def X.inst_formOf_l2 (x : ((Int × (Vector M.Inst_form 56) × Int × Unit) × (M.Inst_form × Unit))) : Option (Out ((Int × (Vector M.Inst_form 56) × Int × Unit) × (M.Inst_form × Unit)) ((Unit) × (M.Inst_form × Unit)) ((Unit) × (Unit)) ((Bool × Bool × Unit) × (M.Inst_form × Unit))) := iterO X.inst_formOf_b2 (100 + Int.toNat x.1.1 + Int.toNat x.1.2.2.1) x

def X.inst_formOf (a : Int) : Option (M.Inst_form × Bool × Bool × Unit) :=
  match (X.inst_formOf_l2 ((a, (X.inst_forms, ((0 : Int), Unit.unit))), ((⟨(0 : Int), (0 : Int), (0 : Int), (0 : Int), false⟩ : M.Inst_form), Unit.unit))) with
  | some y0 => match y0 with
    | .next w1 => none
    | .brk w2 => some ((⟨(0 : Int), (0 : Int), (0 : Int), (0 : Int), false⟩ : M.Inst_form), false, false, ())
    | .brk2 w3 => none
    | .ret w4 => some (w4.2.1, w4.1.1, w4.1.2.1, ())
  | none => none

def X.operand_From (a : Int) : M.Operand :=
  (⟨(bitOf BinOp.and IntKind.i64 (Int.fdiv a ((2 : Int) ^ (3 : Nat))) (7 : Int)), (bitOf BinOp.and IntKind.i64 a (7 : Int)), (0 : Int)⟩ : M.Operand)

def X.inst_form_fields (a : M.Inst_form) (b : Int) : M.Inst :=
  bif (a.shape == (1 : Int)) then (⟨a.op, false, (X.operand_From (Int.fdiv b ((2 : Int) ^ (6 : Nat)))), (X.operand_From b), (0 : Int), (0 : Int)⟩ : M.Inst)
  else bif (a.shape == (2 : Int)) then (⟨a.op, false, (X.operand_From b), (⟨(0 : Int), (0 : Int), (0 : Int)⟩ : M.Operand), (0 : Int), (0 : Int)⟩ : M.Inst)
  else bif (a.shape == (3 : Int)) then (⟨a.op, false, (⟨(0 : Int), (0 : Int), (0 : Int)⟩ : M.Operand), (X.operand_From b), (0 : Int), (0 : Int)⟩ : M.Inst)
  else bif (a.shape == (4 : Int)) then (⟨a.op, false, (⟨(0 : Int), (0 : Int), (0 : Int)⟩ : M.Operand), (X.operand_From b), (0 : Int), (0 : Int)⟩ : M.Inst)
  else bif (a.shape == (5 : Int)) then (⟨a.op, false, (X.operand_From b), (⟨(0 : Int), (0 : Int), (0 : Int)⟩ : M.Operand), (bitOf BinOp.and IntKind.i64 (Int.fdiv b ((2 : Int) ^ (6 : Nat))) (7 : Int)), (0 : Int)⟩ : M.Inst)
  else bif (a.shape == (6 : Int)) then (⟨a.op, false, (⟨(0 : Int), (0 : Int), (0 : Int)⟩ : M.Operand), (X.operand_From b), (bitOf BinOp.and IntKind.i64 (Int.fdiv b ((2 : Int) ^ (6 : Nat))) (7 : Int)), (0 : Int)⟩ : M.Inst)
  else bif (a.shape == (7 : Int)) then (⟨a.op, false, (⟨(0 : Int), (0 : Int), (0 : Int)⟩ : M.Operand), (X.operand_From b), (bitOf BinOp.and IntKind.i64 (Int.fdiv b ((2 : Int) ^ (6 : Nat))) (7 : Int)), (0 : Int)⟩ : M.Inst)
  else bif (a.shape == (8 : Int)) then (⟨a.op, false, (⟨(0 : Int), (0 : Int), (0 : Int)⟩ : M.Operand), (⟨(0 : Int), (0 : Int), (0 : Int)⟩ : M.Operand), (bitOf BinOp.and IntKind.i64 b (7 : Int)), (0 : Int)⟩ : M.Inst)
  else bif (a.shape == (9 : Int)) then (⟨a.op, false, (⟨(0 : Int), (0 : Int), (0 : Int)⟩ : M.Operand), (⟨(0 : Int), (0 : Int), (0 : Int)⟩ : M.Operand), (0 : Int), (IntKind.wrap IntKind.i64 (IntKind.wrap IntKind.i8 b))⟩ : M.Inst)
  else bif (a.shape == (10 : Int)) then (⟨a.op, false, (⟨(0 : Int), (0 : Int), (0 : Int)⟩ : M.Operand), (⟨(0 : Int), (0 : Int), (0 : Int)⟩ : M.Operand), (bitOf BinOp.and IntKind.i64 (Int.fdiv b ((2 : Int) ^ (6 : Nat))) (7 : Int)), (bitOf BinOp.and IntKind.i64 b (63 : Int))⟩ : M.Inst)
  else bif (a.shape == (11 : Int)) then (⟨a.op, false, (⟨(0 : Int), (0 : Int), (0 : Int)⟩ : M.Operand), (⟨(0 : Int), (0 : Int), (0 : Int)⟩ : M.Operand), (0 : Int), (bitOf BinOp.and IntKind.i64 b (255 : Int))⟩ : M.Inst)
  else bif (a.shape == (12 : Int)) then (⟨a.op, false, (⟨(0 : Int), (0 : Int), (0 : Int)⟩ : M.Operand), (⟨(0 : Int), (0 : Int), (0 : Int)⟩ : M.Operand), (0 : Int), (bitOf BinOp.and IntKind.i64 b (15 : Int))⟩ : M.Inst)
  else (⟨a.op, false, (⟨(0 : Int), (0 : Int), (0 : Int)⟩ : M.Operand), (⟨(0 : Int), (0 : Int), (0 : Int)⟩ : M.Operand), (0 : Int), (0 : Int)⟩ : M.Inst)

def X.inst_form_allowed (a : M.Inst_form) (b : M.Inst) : Bool :=
  bif (a.shape == (4 : Int)) then (b.Dst.Mode != (0 : Int))
  else bif (a.shape == (7 : Int)) then (b.Dst.Mode != (0 : Int))
  else (bif (a.op != (9 : Int)) then true else ((Int.tmod b.Reg (2 : Int)) == (0 : Int)))

def X.operand_mode (a : M.Operand) : Int :=
  (bitOf BinOp.and IntKind.i64 a.Mode (7 : Int))

def X.operand_reg (a : M.Operand) : Int :=
  (bitOf BinOp.and IntKind.i64 a.Reg (7 : Int))

def X.operand_Extended (a : M.Operand) : Bool :=
  bif ((X.operand_mode a) == (2 : Int)) then ((X.operand_reg a) == (7 : Int))
  else bif ((X.operand_mode a) == (3 : Int)) then ((X.operand_reg a) == (7 : Int))
  else (decide ((X.operand_mode a) ≥ (6 : Int)))

def X.inst_Decode (a : List Int) : Option (M.Inst × Int × Unit) :=
  bif ((Nat.cast (List.length a) : Int) == (0 : Int)) then some ((⟨(0 : Int), false, (⟨(0 : Int), (0 : Int), (0 : Int)⟩ : M.Operand), (⟨(0 : Int), (0 : Int), (0 : Int)⟩ : M.Operand), (0 : Int), (0 : Int)⟩ : M.Inst), (0 : Int), ())
  else bif ((decide ((0 : Int) ≤ (0 : Int))) && (decide ((0 : Int) < (Nat.cast (List.length a) : Int)))) then bif ((decide ((0 : Int) ≤ (0 : Int))) && (decide ((0 : Int) < (Nat.cast (List.length a) : Int)))) then bif ((bitOf BinOp.and IntKind.i64 (List.getD a (0 : Nat) (dflt (Ty.int IntKind.i64))) (65535 : Int)) != (List.getD a (0 : Nat) (dflt (Ty.int IntKind.i64)))) then some ((⟨(0 : Int), false, (⟨(0 : Int), (0 : Int), (0 : Int)⟩ : M.Operand), (⟨(0 : Int), (0 : Int), (0 : Int)⟩ : M.Operand), (0 : Int), (0 : Int)⟩ : M.Inst), (0 : Int), ())
      else bif ((decide ((0 : Int) ≤ (0 : Int))) && (decide ((0 : Int) < (Nat.cast (List.length a) : Int)))) then match (X.inst_formOf (List.getD a (0 : Nat) (dflt (Ty.int IntKind.i64)))) with
        | some y0 => bif (!y0.2.2.1) then some ((⟨(0 : Int), false, (⟨(0 : Int), (0 : Int), (0 : Int)⟩ : M.Operand), (⟨(0 : Int), (0 : Int), (0 : Int)⟩ : M.Operand), (0 : Int), (0 : Int)⟩ : M.Inst), (0 : Int), ())
          else bif ((decide ((0 : Int) ≤ (0 : Int))) && (decide ((0 : Int) < (Nat.cast (List.length a) : Int)))) then bif (!(X.inst_form_allowed y0.1 (⟨(X.inst_form_fields y0.1 (List.getD a (0 : Nat) (dflt (Ty.int IntKind.i64)))).Op, y0.2.1, (X.inst_form_fields y0.1 (List.getD a (0 : Nat) (dflt (Ty.int IntKind.i64)))).Src, (X.inst_form_fields y0.1 (List.getD a (0 : Nat) (dflt (Ty.int IntKind.i64)))).Dst, (X.inst_form_fields y0.1 (List.getD a (0 : Nat) (dflt (Ty.int IntKind.i64)))).Reg, (X.inst_form_fields y0.1 (List.getD a (0 : Nat) (dflt (Ty.int IntKind.i64)))).Num⟩ : M.Inst))) then some ((⟨(0 : Int), false, (⟨(0 : Int), (0 : Int), (0 : Int)⟩ : M.Operand), (⟨(0 : Int), (0 : Int), (0 : Int)⟩ : M.Operand), (0 : Int), (0 : Int)⟩ : M.Inst), (0 : Int), ())
            else bif (!(X.operand_Extended (X.inst_form_fields y0.1 (List.getD a (0 : Nat) (dflt (Ty.int IntKind.i64)))).Src)) then bif (!(X.operand_Extended (X.inst_form_fields y0.1 (List.getD a (0 : Nat) (dflt (Ty.int IntKind.i64)))).Dst)) then some ((⟨(X.inst_form_fields y0.1 (List.getD a (0 : Nat) (dflt (Ty.int IntKind.i64)))).Op, y0.2.1, (X.inst_form_fields y0.1 (List.getD a (0 : Nat) (dflt (Ty.int IntKind.i64)))).Src, (X.inst_form_fields y0.1 (List.getD a (0 : Nat) (dflt (Ty.int IntKind.i64)))).Dst, (X.inst_form_fields y0.1 (List.getD a (0 : Nat) (dflt (Ty.int IntKind.i64)))).Reg, (X.inst_form_fields y0.1 (List.getD a (0 : Nat) (dflt (Ty.int IntKind.i64)))).Num⟩ : M.Inst), (1 : Int), ())
              else bif (decide ((1 : Int) ≥ (Nat.cast (List.length a) : Int))) then some ((⟨(0 : Int), false, (⟨(0 : Int), (0 : Int), (0 : Int)⟩ : M.Operand), (⟨(0 : Int), (0 : Int), (0 : Int)⟩ : M.Operand), (0 : Int), (0 : Int)⟩ : M.Inst), (0 : Int), ())
              else bif ((decide ((0 : Int) ≤ (1 : Int))) && (decide ((1 : Int) < (Nat.cast (List.length a) : Int)))) then bif ((decide ((0 : Int) ≤ (1 : Int))) && (decide ((1 : Int) < (Nat.cast (List.length a) : Int)))) then bif ((bitOf BinOp.and IntKind.i64 (List.getD a (1 : Nat) (dflt (Ty.int IntKind.i64))) (65535 : Int)) != (List.getD a (1 : Nat) (dflt (Ty.int IntKind.i64)))) then some ((⟨(0 : Int), false, (⟨(0 : Int), (0 : Int), (0 : Int)⟩ : M.Operand), (⟨(0 : Int), (0 : Int), (0 : Int)⟩ : M.Operand), (0 : Int), (0 : Int)⟩ : M.Inst), (0 : Int), ())
                  else bif ((decide ((0 : Int) ≤ (1 : Int))) && (decide ((1 : Int) < (Nat.cast (List.length a) : Int)))) then some ((⟨(X.inst_form_fields y0.1 (List.getD a (0 : Nat) (dflt (Ty.int IntKind.i64)))).Op, y0.2.1, (X.inst_form_fields y0.1 (List.getD a (0 : Nat) (dflt (Ty.int IntKind.i64)))).Src, (⟨(X.inst_form_fields y0.1 (List.getD a (0 : Nat) (dflt (Ty.int IntKind.i64)))).Dst.Mode, (X.inst_form_fields y0.1 (List.getD a (0 : Nat) (dflt (Ty.int IntKind.i64)))).Dst.Reg, (List.getD a (1 : Nat) (dflt (Ty.int IntKind.i64)))⟩ : M.Operand), (X.inst_form_fields y0.1 (List.getD a (0 : Nat) (dflt (Ty.int IntKind.i64)))).Reg, (X.inst_form_fields y0.1 (List.getD a (0 : Nat) (dflt (Ty.int IntKind.i64)))).Num⟩ : M.Inst), (IntKind.wrap IntKind.i64 ((1 : Int) + (1 : Int))), ())
                  else none
                else none
              else none
            else bif (decide ((1 : Int) ≥ (Nat.cast (List.length a) : Int))) then some ((⟨(0 : Int), false, (⟨(0 : Int), (0 : Int), (0 : Int)⟩ : M.Operand), (⟨(0 : Int), (0 : Int), (0 : Int)⟩ : M.Operand), (0 : Int), (0 : Int)⟩ : M.Inst), (0 : Int), ())
            else bif ((decide ((0 : Int) ≤ (1 : Int))) && (decide ((1 : Int) < (Nat.cast (List.length a) : Int)))) then bif ((decide ((0 : Int) ≤ (1 : Int))) && (decide ((1 : Int) < (Nat.cast (List.length a) : Int)))) then bif ((bitOf BinOp.and IntKind.i64 (List.getD a (1 : Nat) (dflt (Ty.int IntKind.i64))) (65535 : Int)) != (List.getD a (1 : Nat) (dflt (Ty.int IntKind.i64)))) then some ((⟨(0 : Int), false, (⟨(0 : Int), (0 : Int), (0 : Int)⟩ : M.Operand), (⟨(0 : Int), (0 : Int), (0 : Int)⟩ : M.Operand), (0 : Int), (0 : Int)⟩ : M.Inst), (0 : Int), ())
                else bif ((decide ((0 : Int) ≤ (1 : Int))) && (decide ((1 : Int) < (Nat.cast (List.length a) : Int)))) then bif (!(X.operand_Extended (X.inst_form_fields y0.1 (List.getD a (0 : Nat) (dflt (Ty.int IntKind.i64)))).Dst)) then some ((⟨(X.inst_form_fields y0.1 (List.getD a (0 : Nat) (dflt (Ty.int IntKind.i64)))).Op, y0.2.1, (⟨(X.inst_form_fields y0.1 (List.getD a (0 : Nat) (dflt (Ty.int IntKind.i64)))).Src.Mode, (X.inst_form_fields y0.1 (List.getD a (0 : Nat) (dflt (Ty.int IntKind.i64)))).Src.Reg, (List.getD a (1 : Nat) (dflt (Ty.int IntKind.i64)))⟩ : M.Operand), (X.inst_form_fields y0.1 (List.getD a (0 : Nat) (dflt (Ty.int IntKind.i64)))).Dst, (X.inst_form_fields y0.1 (List.getD a (0 : Nat) (dflt (Ty.int IntKind.i64)))).Reg, (X.inst_form_fields y0.1 (List.getD a (0 : Nat) (dflt (Ty.int IntKind.i64)))).Num⟩ : M.Inst), (IntKind.wrap IntKind.i64 ((1 : Int) + (1 : Int))), ())
                  else bif (decide ((IntKind.wrap IntKind.i64 ((1 : Int) + (1 : Int))) ≥ (Nat.cast (List.length a) : Int))) then some ((⟨(0 : Int), false, (⟨(0 : Int), (0 : Int), (0 : Int)⟩ : M.Operand), (⟨(0 : Int), (0 : Int), (0 : Int)⟩ : M.Operand), (0 : Int), (0 : Int)⟩ : M.Inst), (0 : Int), ())
                  else bif ((decide ((0 : Int) ≤ (IntKind.wrap IntKind.i64 ((1 : Int) + (1 : Int))))) && (decide ((IntKind.wrap IntKind.i64 ((1 : Int) + (1 : Int))) < (Nat.cast (List.length a) : Int)))) then bif ((decide ((0 : Int) ≤ (IntKind.wrap IntKind.i64 ((1 : Int) + (1 : Int))))) && (decide ((IntKind.wrap IntKind.i64 ((1 : Int) + (1 : Int))) < (Nat.cast (List.length a) : Int)))) then bif ((bitOf BinOp.and IntKind.i64 (List.getD a (Int.toNat (IntKind.wrap IntKind.i64 ((1 : Int) + (1 : Int)))) (dflt (Ty.int IntKind.i64))) (65535 : Int)) != (List.getD a (Int.toNat (IntKind.wrap IntKind.i64 ((1 : Int) + (1 : Int)))) (dflt (Ty.int IntKind.i64)))) then some ((⟨(0 : Int), false, (⟨(0 : Int), (0 : Int), (0 : Int)⟩ : M.Operand), (⟨(0 : Int), (0 : Int), (0 : Int)⟩ : M.Operand), (0 : Int), (0 : Int)⟩ : M.Inst), (0 : Int), ())
                      else bif ((decide ((0 : Int) ≤ (IntKind.wrap IntKind.i64 ((1 : Int) + (1 : Int))))) && (decide ((IntKind.wrap IntKind.i64 ((1 : Int) + (1 : Int))) < (Nat.cast (List.length a) : Int)))) then some ((⟨(X.inst_form_fields y0.1 (List.getD a (0 : Nat) (dflt (Ty.int IntKind.i64)))).Op, y0.2.1, (⟨(X.inst_form_fields y0.1 (List.getD a (0 : Nat) (dflt (Ty.int IntKind.i64)))).Src.Mode, (X.inst_form_fields y0.1 (List.getD a (0 : Nat) (dflt (Ty.int IntKind.i64)))).Src.Reg, (List.getD a (1 : Nat) (dflt (Ty.int IntKind.i64)))⟩ : M.Operand), (⟨(X.inst_form_fields y0.1 (List.getD a (0 : Nat) (dflt (Ty.int IntKind.i64)))).Dst.Mode, (X.inst_form_fields y0.1 (List.getD a (0 : Nat) (dflt (Ty.int IntKind.i64)))).Dst.Reg, (List.getD a (Int.toNat (IntKind.wrap IntKind.i64 ((1 : Int) + (1 : Int)))) (dflt (Ty.int IntKind.i64)))⟩ : M.Operand), (X.inst_form_fields y0.1 (List.getD a (0 : Nat) (dflt (Ty.int IntKind.i64)))).Reg, (X.inst_form_fields y0.1 (List.getD a (0 : Nat) (dflt (Ty.int IntKind.i64)))).Num⟩ : M.Inst), (IntKind.wrap IntKind.i64 ((IntKind.wrap IntKind.i64 ((1 : Int) + (1 : Int))) + (1 : Int))), ())
                      else none
                    else none
                  else none
                else none
              else none
            else none
          else none
        | none => none
      else none
    else none
  else none

def X.operand_Valid (a : M.Operand) : Bool :=
  (bif (a.Mode == (X.operand_mode a)) then (bif (a.Reg == (X.operand_reg a)) then (bif ((bitOf BinOp.and IntKind.i64 a.Ext (65535 : Int)) == a.Ext) then (bif (X.operand_Extended a) then true else (a.Ext == (0 : Int))) else false) else false) else false)

def X.operand_Field (a : M.Operand) : Int :=
  (bitOf BinOp.or IntKind.i64 (IntKind.wrap IntKind.i64 ((X.operand_mode a) * ((2 : Int) ^ (3 : Nat)))) (X.operand_reg a))

def X.inst_form_word (a : M.Inst_form) (b : M.Inst) : Int :=
  bif b.Byte then bif (a.shape == (1 : Int)) then (bitOf BinOp.or IntKind.i64 (bitOf BinOp.or IntKind.i64 (bitOf BinOp.or IntKind.i64 a.first (32768 : Int)) (IntKind.wrap IntKind.i64 ((X.operand_Field b.Src) * ((2 : Int) ^ (6 : Nat))))) (X.operand_Field b.Dst))
    else bif (a.shape == (5 : Int)) then (bitOf BinOp.or IntKind.i64 (bitOf BinOp.or IntKind.i64 (bitOf BinOp.or IntKind.i64 a.first (32768 : Int)) (IntKind.wrap IntKind.i64 (b.Reg * ((2 : Int) ^ (6 : Nat))))) (X.operand_Field b.Src))
    else bif (a.shape == (9 : Int)) then (bitOf BinOp.or IntKind.i64 (bitOf BinOp.or IntKind.i64 a.first (32768 : Int)) (bitOf BinOp.and IntKind.i64 b.Num (255 : Int)))
    else bif (a.shape == (10 : Int)) then (bitOf BinOp.or IntKind.i64 (bitOf BinOp.or IntKind.i64 (bitOf BinOp.or IntKind.i64 a.first (32768 : Int)) (IntKind.wrap IntKind.i64 (b.Reg * ((2 : Int) ^ (6 : Nat))))) b.Num)
    else bif (a.shape == (8 : Int)) then (bitOf BinOp.or IntKind.i64 (bitOf BinOp.or IntKind.i64 a.first (32768 : Int)) b.Reg)
    else bif (a.shape == (2 : Int)) then (bitOf BinOp.or IntKind.i64 (bitOf BinOp.or IntKind.i64 a.first (32768 : Int)) (X.operand_Field b.Src))
    else bif (a.shape == (6 : Int)) then (bitOf BinOp.or IntKind.i64 (bitOf BinOp.or IntKind.i64 (bitOf BinOp.or IntKind.i64 (bitOf BinOp.or IntKind.i64 a.first (32768 : Int)) (IntKind.wrap IntKind.i64 (b.Reg * ((2 : Int) ^ (6 : Nat))))) (X.operand_Field b.Dst)) b.Num)
    else bif (a.shape == (7 : Int)) then (bitOf BinOp.or IntKind.i64 (bitOf BinOp.or IntKind.i64 (bitOf BinOp.or IntKind.i64 (bitOf BinOp.or IntKind.i64 a.first (32768 : Int)) (IntKind.wrap IntKind.i64 (b.Reg * ((2 : Int) ^ (6 : Nat))))) (X.operand_Field b.Dst)) b.Num)
    else (bitOf BinOp.or IntKind.i64 (bitOf BinOp.or IntKind.i64 (bitOf BinOp.or IntKind.i64 a.first (32768 : Int)) (X.operand_Field b.Dst)) b.Num)
  else bif (a.shape == (1 : Int)) then (bitOf BinOp.or IntKind.i64 (bitOf BinOp.or IntKind.i64 a.first (IntKind.wrap IntKind.i64 ((X.operand_Field b.Src) * ((2 : Int) ^ (6 : Nat))))) (X.operand_Field b.Dst))
  else bif (a.shape == (5 : Int)) then (bitOf BinOp.or IntKind.i64 (bitOf BinOp.or IntKind.i64 a.first (IntKind.wrap IntKind.i64 (b.Reg * ((2 : Int) ^ (6 : Nat))))) (X.operand_Field b.Src))
  else bif (a.shape == (9 : Int)) then (bitOf BinOp.or IntKind.i64 a.first (bitOf BinOp.and IntKind.i64 b.Num (255 : Int)))
  else bif (a.shape == (10 : Int)) then (bitOf BinOp.or IntKind.i64 (bitOf BinOp.or IntKind.i64 a.first (IntKind.wrap IntKind.i64 (b.Reg * ((2 : Int) ^ (6 : Nat))))) b.Num)
  else bif (a.shape == (8 : Int)) then (bitOf BinOp.or IntKind.i64 a.first b.Reg)
  else bif (a.shape == (2 : Int)) then (bitOf BinOp.or IntKind.i64 a.first (X.operand_Field b.Src))
  else bif (a.shape == (6 : Int)) then (bitOf BinOp.or IntKind.i64 (bitOf BinOp.or IntKind.i64 (bitOf BinOp.or IntKind.i64 a.first (IntKind.wrap IntKind.i64 (b.Reg * ((2 : Int) ^ (6 : Nat))))) (X.operand_Field b.Dst)) b.Num)
  else bif (a.shape == (7 : Int)) then (bitOf BinOp.or IntKind.i64 (bitOf BinOp.or IntKind.i64 (bitOf BinOp.or IntKind.i64 a.first (IntKind.wrap IntKind.i64 (b.Reg * ((2 : Int) ^ (6 : Nat))))) (X.operand_Field b.Dst)) b.Num)
  else (bitOf BinOp.or IntKind.i64 (bitOf BinOp.or IntKind.i64 a.first (X.operand_Field b.Dst)) b.Num)

def X.inst_words_b2 (x : (((Vector M.Inst_form 56) × Int × Unit) × (M.Inst × Unit))) : Option (Out (((Vector M.Inst_form 56) × Int × Unit) × (M.Inst × Unit)) ((Unit) × (Unit)) ((Unit) × (Unit)) (((List Int) × Bool × Unit) × (Unit))) :=
  bif (decide (x.1.2.1 < (56 : Int))) then bif ((decide ((0 : Int) ≤ x.1.2.1)) && (decide (x.1.2.1 < (Nat.cast 56 : Int)))) then bif ((List.getD (Vector.toList x.1.1) (Int.toNat x.1.2.1) (dflt (Ty.st SId.sInst_form))).op != x.2.1.Op) then some (Out.next ((x.1.1, ((IntKind.wrap IntKind.i64 (x.1.2.1 + (1 : Int))), ())), (x.2.1, ())))
      else bif (bif x.2.1.Byte then (bif (!(List.getD (Vector.toList x.1.1) (Int.toNat x.1.2.1) (dflt (Ty.st SId.sInst_form))).bytes) then true else (bif (!(X.operand_Valid x.2.1.Src)) then true else (bif (!(X.operand_Valid x.2.1.Dst)) then true else ((bitOf BinOp.and IntKind.i64 x.2.1.Reg (7 : Int)) != x.2.1.Reg)))) else (bif (!(X.operand_Valid x.2.1.Src)) then true else (bif (!(X.operand_Valid x.2.1.Dst)) then true else ((bitOf BinOp.and IntKind.i64 x.2.1.Reg (7 : Int)) != x.2.1.Reg)))) then some (Out.ret (((List.nil), (false, ())), ()))
      else bif (X.operand_Extended x.2.1.Src) then bif (X.operand_Extended x.2.1.Dst) then match (X.inst_Decode (HAppend.hAppend (HAppend.hAppend (List.cons (bitOf BinOp.and IntKind.i64 (X.inst_form_word (List.getD (Vector.toList x.1.1) (Int.toNat x.1.2.1) (dflt (Ty.st SId.sInst_form))) x.2.1) (65535 : Int)) (List.nil)) (List.cons x.2.1.Src.Ext (List.nil))) (List.cons x.2.1.Dst.Ext (List.nil)))) with
          | some y0 => bif (y0.2.1 == (Nat.cast ((1 + (List.length (List.cons x.2.1.Src.Ext (List.nil)))) + (List.length (List.cons x.2.1.Dst.Ext (List.nil)))) : Int)) then some (Out.ret (((HAppend.hAppend (HAppend.hAppend (List.cons (bitOf BinOp.and IntKind.i64 (X.inst_form_word (List.getD (Vector.toList x.1.1) (Int.toNat x.1.2.1) (dflt (Ty.st SId.sInst_form))) x.2.1) (65535 : Int)) (List.nil)) (List.cons x.2.1.Src.Ext (List.nil))) (List.cons x.2.1.Dst.Ext (List.nil))), ((vEqB (Ty.st SId.sInst) x.2.1 y0.1), ())), ()))
            else some (Out.ret (((HAppend.hAppend (HAppend.hAppend (List.cons (bitOf BinOp.and IntKind.i64 (X.inst_form_word (List.getD (Vector.toList x.1.1) (Int.toNat x.1.2.1) (dflt (Ty.st SId.sInst_form))) x.2.1) (65535 : Int)) (List.nil)) (List.cons x.2.1.Src.Ext (List.nil))) (List.cons x.2.1.Dst.Ext (List.nil))), (false, ())), ()))
          | none => none
        else match (X.inst_Decode (HAppend.hAppend (List.cons (bitOf BinOp.and IntKind.i64 (X.inst_form_word (List.getD (Vector.toList x.1.1) (Int.toNat x.1.2.1) (dflt (Ty.st SId.sInst_form))) x.2.1) (65535 : Int)) (List.nil)) (List.cons x.2.1.Src.Ext (List.nil)))) with
        | some y1 => bif (y1.2.1 == (Nat.cast (1 + (List.length (List.cons x.2.1.Src.Ext (List.nil)))) : Int)) then some (Out.ret (((HAppend.hAppend (List.cons (bitOf BinOp.and IntKind.i64 (X.inst_form_word (List.getD (Vector.toList x.1.1) (Int.toNat x.1.2.1) (dflt (Ty.st SId.sInst_form))) x.2.1) (65535 : Int)) (List.nil)) (List.cons x.2.1.Src.Ext (List.nil))), ((vEqB (Ty.st SId.sInst) x.2.1 y1.1), ())), ()))
          else some (Out.ret (((HAppend.hAppend (List.cons (bitOf BinOp.and IntKind.i64 (X.inst_form_word (List.getD (Vector.toList x.1.1) (Int.toNat x.1.2.1) (dflt (Ty.st SId.sInst_form))) x.2.1) (65535 : Int)) (List.nil)) (List.cons x.2.1.Src.Ext (List.nil))), (false, ())), ()))
        | none => none
      else bif (X.operand_Extended x.2.1.Dst) then match (X.inst_Decode (HAppend.hAppend (List.cons (bitOf BinOp.and IntKind.i64 (X.inst_form_word (List.getD (Vector.toList x.1.1) (Int.toNat x.1.2.1) (dflt (Ty.st SId.sInst_form))) x.2.1) (65535 : Int)) (List.nil)) (List.cons x.2.1.Dst.Ext (List.nil)))) with
        | some y2 => bif (y2.2.1 == (Nat.cast (1 + (List.length (List.cons x.2.1.Dst.Ext (List.nil)))) : Int)) then some (Out.ret (((HAppend.hAppend (List.cons (bitOf BinOp.and IntKind.i64 (X.inst_form_word (List.getD (Vector.toList x.1.1) (Int.toNat x.1.2.1) (dflt (Ty.st SId.sInst_form))) x.2.1) (65535 : Int)) (List.nil)) (List.cons x.2.1.Dst.Ext (List.nil))), ((vEqB (Ty.st SId.sInst) x.2.1 y2.1), ())), ()))
          else some (Out.ret (((HAppend.hAppend (List.cons (bitOf BinOp.and IntKind.i64 (X.inst_form_word (List.getD (Vector.toList x.1.1) (Int.toNat x.1.2.1) (dflt (Ty.st SId.sInst_form))) x.2.1) (65535 : Int)) (List.nil)) (List.cons x.2.1.Dst.Ext (List.nil))), (false, ())), ()))
        | none => none
      else match (X.inst_Decode (List.cons (bitOf BinOp.and IntKind.i64 (X.inst_form_word (List.getD (Vector.toList x.1.1) (Int.toNat x.1.2.1) (dflt (Ty.st SId.sInst_form))) x.2.1) (65535 : Int)) (List.nil))) with
      | some y3 => bif (y3.2.1 == (Nat.cast 1 : Int)) then some (Out.ret (((List.cons (bitOf BinOp.and IntKind.i64 (X.inst_form_word (List.getD (Vector.toList x.1.1) (Int.toNat x.1.2.1) (dflt (Ty.st SId.sInst_form))) x.2.1) (65535 : Int)) (List.nil)), ((vEqB (Ty.st SId.sInst) x.2.1 y3.1), ())), ()))
        else some (Out.ret (((List.cons (bitOf BinOp.and IntKind.i64 (X.inst_form_word (List.getD (Vector.toList x.1.1) (Int.toNat x.1.2.1) (dflt (Ty.st SId.sInst_form))) x.2.1) (65535 : Int)) (List.nil)), (false, ())), ()))
      | none => none
    else none
  else some (Out.brk ((), ()))

def X.inst_words_l2 (x : (((Vector M.Inst_form 56) × Int × Unit) × (M.Inst × Unit))) : Option (Out (((Vector M.Inst_form 56) × Int × Unit) × (M.Inst × Unit)) ((Unit) × (Unit)) ((Unit) × (Unit)) (((List Int) × Bool × Unit) × (Unit))) := iterO X.inst_words_b2 (100 + Int.toNat x.1.2.1) x

def X.inst_words (a : M.Inst) : Option ((List Int) × Bool × Unit) :=
  match (X.inst_words_l2 ((X.inst_forms, ((0 : Int), Unit.unit)), (a, Unit.unit))) with
  | some y0 => match y0 with
    | .next w1 => none
    | .brk w2 => some ((List.nil), false, ())
    | .brk2 w3 => none
    | .ret w4 => some (w4.1.1, w4.1.2.1, ())
  | none => none

def X.inst_Length (a : M.Inst) : Option (Int × Unit) :=
  match (X.inst_words a) with
  | some y0 => bif y0.2.1 then some ((Nat.cast (List.length y0.1) : Int), ())
    else some ((0 : Int), ())
  | none => none

def X.inst_Valid (a : M.Inst) : Option (Bool × Unit) :=
  match (X.inst_words a) with
  | some y0 => some (y0.2.1, ())
  | none => none

def X.inst_Ends (a : M.Inst) : Option (Bool × Unit) :=
  match (X.inst_Valid a) with
  | some y0 => bif (!y0.1) then some (false, ())
    else bif (a.Op == (2 : Int)) then some (false, ())
    else bif (a.Op == (3 : Int)) then some (false, ())
    else bif (a.Op == (19 : Int)) then some (false, ())
    else bif (a.Op == (55 : Int)) then some (false, ())
    else bif (a.Op == (53 : Int)) then some (false, ())
    else bif (a.Op == (54 : Int)) then some (false, ())
    else bif (a.Op == (8 : Int)) then some ((decide (a.Reg ≥ (6 : Int))), ())
    else bif (a.Op == (9 : Int)) then some ((decide (a.Reg ≥ (6 : Int))), ())
    else bif (a.Op == (10 : Int)) then some ((decide (a.Reg ≥ (6 : Int))), ())
    else bif (a.Op == (56 : Int)) then some (true, ())
    else some ((bif (decide (a.Op ≥ (26 : Int))) then true else (vEqB (Ty.st SId.sOperand) a.Dst (⟨(0 : Int), (7 : Int), (0 : Int)⟩ : M.Operand))), ())
  | none => none

def X.inst_Privileged (a : M.Inst) : Option (Bool × Unit) :=
  match (X.inst_Valid a) with
  | some y0 => bif y0.1 then bif (a.Op == (50 : Int)) then some (true, ())
      else bif (a.Op == (51 : Int)) then some (true, ())
      else some ((a.Op == (52 : Int)), ())
    else some (false, ())
  | none => none

def X.L06_alive  : Option (Bool × Unit) :=
  match (X.inst_Decode (List.cons (5569 : Int) (List.cons (5 : Int) (List.nil)))) with
  | some y0 => match (X.inst_Decode (List.cons (5569 : Int) (List.nil))) with
    | some y1 => match (X.inst_Decode (List.cons (511 : Int) (List.nil))) with
      | some y2 => match (X.inst_Decode (List.cons (64 : Int) (List.nil))) with
        | some y3 => match (X.inst_Decode (List.cons (29250 : Int) (List.nil))) with
          | some y4 => match (X.inst_Decode (List.cons (29186 : Int) (List.nil))) with
            | some y5 => match (X.inst_Decode (List.cons (7647 : Int) (List.cons (4 : Int) (List.cons (6 : Int) (List.nil))))) with
              | some y6 => bif (bif (y0.2.1 != (2 : Int)) then true else (bif (y1.2.1 != (0 : Int)) then true else (bif (y3.2.1 != (0 : Int)) then true else (bif (y4.2.1 != (0 : Int)) then true else (y6.2.1 != (3 : Int)))))) then some (false, ())
                else bif (bif (!(vEqB (Ty.st SId.sInst) y0.1 (⟨(1 : Int), false, (⟨(2 : Int), (7 : Int), (5 : Int)⟩ : M.Operand), (⟨(0 : Int), (1 : Int), (0 : Int)⟩ : M.Operand), (0 : Int), (0 : Int)⟩ : M.Inst))) then true else (!(vEqB (Ty.st SId.sInst) y2.1 (⟨(26 : Int), false, (⟨(0 : Int), (0 : Int), (0 : Int)⟩ : M.Operand), (⟨(0 : Int), (0 : Int), (0 : Int)⟩ : M.Operand), (0 : Int), (-1 : Int)⟩ : M.Inst)))) then some (false, ())
                else bif (vEqB (Ty.st SId.sInst) y5.1 (⟨(9 : Int), false, (⟨(0 : Int), (2 : Int), (0 : Int)⟩ : M.Operand), (⟨(0 : Int), (0 : Int), (0 : Int)⟩ : M.Operand), (0 : Int), (0 : Int)⟩ : M.Inst)) then bif (vEqB (Ty.st SId.sOperand) y6.1.Src (⟨(6 : Int), (7 : Int), (4 : Int)⟩ : M.Operand)) then bif (vEqB (Ty.st SId.sOperand) y6.1.Dst (⟨(3 : Int), (7 : Int), (6 : Int)⟩ : M.Operand)) then match (X.inst_Ends y2.1) with
                      | some y7 => bif y7.1 then match (X.inst_Ends y0.1) with
                          | some y8 => bif (!y8.1) then match (X.inst_Privileged y0.1) with
                              | some y9 => bif (!y9.1) then match (X.inst_Length y6.1) with
                                  | some y10 => some ((y10.1 == (3 : Int)), ())
                                  | none => none
                                else some (false, ())
                              | none => none
                            else some (false, ())
                          | none => none
                        else some (false, ())
                      | none => none
                    else some (false, ())
                  else some (false, ())
                else some (false, ())
              | none => none
            | none => none
          | none => none
        | none => none
      | none => none
    | none => none
  | none => none

def X.R06_Isdouble (a : Int) : Bool :=
  (bif (decide (a ≥ (1 : Int))) then (decide (a ≤ (7 : Int))) else false)

def X.R06_Islong (a : Int) : Bool :=
  (bif (decide (a ≥ (8 : Int))) then (decide (a ≤ (10 : Int))) else false)

def X.R06_Hassrc (a : Int) : Bool :=
  (bif (X.R06_Isdouble a) then true else (bif (X.R06_Islong a) then true else (a == (55 : Int))))

def X.R06_Issingle (a : Int) : Bool :=
  (bif (decide (a ≥ (12 : Int))) then (decide (a ≤ (25 : Int))) else false)

def X.R06_Hasdst (a : Int) : Bool :=
  (bif (X.R06_Isdouble a) then true else (bif (a == (11 : Int)) then true else (bif (X.R06_Issingle a) then true else (bif (a == (41 : Int)) then true else (bif (a == (42 : Int)) then true else (a == (56 : Int)))))))

def X.R06_Hasbyte (a : Int) : Bool :=
  (bif (decide (a ≥ (1 : Int))) then (bif (decide (a ≤ (5 : Int))) then true else (bif (decide (a ≥ (12 : Int))) then (decide (a ≤ (23 : Int))) else false)) else (bif (decide (a ≥ (12 : Int))) then (decide (a ≤ (23 : Int))) else false))

def X.R05_Mode (a : M.Operand) : Int :=
  (bitOf BinOp.and IntKind.i64 a.Mode (7 : Int))

def X.R05_Register (a : M.Operand) : Int :=
  (bitOf BinOp.and IntKind.i64 a.Reg (7 : Int))

def X.R05_Extended (a : M.Operand) : Bool :=
  (bif ((X.R05_Mode a) == (6 : Int)) then true else (bif ((X.R05_Mode a) == (7 : Int)) then true else (bif ((X.R05_Mode a) == (2 : Int)) then ((X.R05_Register a) == (7 : Int)) else (bif ((X.R05_Mode a) == (3 : Int)) then ((X.R05_Register a) == (7 : Int)) else false))))

def X.R05_Valid (a : M.Operand) : Bool :=
  bif (bif (decide (a.Mode < (0 : Int))) then true else (bif (decide (a.Mode > (7 : Int))) then true else (bif (decide (a.Reg < (0 : Int))) then true else (bif (decide (a.Reg > (7 : Int))) then true else (bif (decide (a.Ext < (0 : Int))) then true else (decide (a.Ext > (65535 : Int)))))))) then false
  else (bif (a.Ext == (0 : Int)) then true else (X.R05_Extended a))

def X.R06_Hasreg (a : Int) : Bool :=
  (bif (X.R06_Islong a) then true else (bif (a == (11 : Int)) then true else (bif (a == (42 : Int)) then true else (bif (a == (43 : Int)) then true else (a == (44 : Int))))))

def X.R06_Isbranch (a : Int) : Bool :=
  (bif (decide (a ≥ (26 : Int))) then (decide (a ≤ (40 : Int))) else false)

def X.R06_least (a : Int) : Int :=
  bif (X.R06_Isbranch a) then (-128 : Int)
  else (0 : Int)

def X.R06_greatest (a : Int) : Int :=
  bif (X.R06_Isbranch a) then (127 : Int)
  else bif (a == (44 : Int)) then (63 : Int)
  else bif (bif (a == (45 : Int)) then true else (a == (46 : Int))) then (255 : Int)
  else bif (bif (a == (53 : Int)) then true else (a == (54 : Int))) then (15 : Int)
  else (0 : Int)

def X.R06_Valid (a : M.Inst) : Bool :=
  bif (bif (decide (a.Op < (1 : Int))) then true else (bif (decide (a.Op > (56 : Int))) then true else (bif a.Byte then (!(X.R06_Hasbyte a.Op)) else false))) then false
  else bif (bif (X.R06_Hassrc a.Op) then (bif (!(X.R05_Valid a.Src)) then true else (bif (!(X.R06_Hassrc a.Op)) then (!(vEqB (Ty.st SId.sOperand) a.Src (⟨(0 : Int), (0 : Int), (0 : Int)⟩ : M.Operand))) else false)) else (bif (!(X.R06_Hassrc a.Op)) then (!(vEqB (Ty.st SId.sOperand) a.Src (⟨(0 : Int), (0 : Int), (0 : Int)⟩ : M.Operand))) else false)) then false
  else bif (bif (X.R06_Hasdst a.Op) then (bif (!(X.R05_Valid a.Dst)) then true else (bif (!(X.R06_Hasdst a.Op)) then (!(vEqB (Ty.st SId.sOperand) a.Dst (⟨(0 : Int), (0 : Int), (0 : Int)⟩ : M.Operand))) else false)) else (bif (!(X.R06_Hasdst a.Op)) then (!(vEqB (Ty.st SId.sOperand) a.Dst (⟨(0 : Int), (0 : Int), (0 : Int)⟩ : M.Operand))) else false)) then false
  else bif (bif (decide (a.Reg < (0 : Int))) then true else (bif (decide (a.Reg > (7 : Int))) then true else (bif (a.Reg != (0 : Int)) then (bif (!(X.R06_Hasreg a.Op)) then true else (bif (decide (a.Num < (X.R06_least a.Op))) then true else (decide (a.Num > (X.R06_greatest a.Op))))) else (bif (decide (a.Num < (X.R06_least a.Op))) then true else (decide (a.Num > (X.R06_greatest a.Op))))))) then false
  else bif (bif (a.Op == (9 : Int)) then ((Int.tmod a.Reg (2 : Int)) == (1 : Int)) else false) then false
  else (bif (a.Op != (41 : Int)) then (bif (a.Op != (42 : Int)) then true else (a.Dst.Mode != (0 : Int))) else (a.Dst.Mode != (0 : Int)))

def X.R06_Isword (a : Int) : Bool :=
  (bif (decide (a ≥ (0 : Int))) then (decide (a < (65536 : Int))) else false)

def X.R05_From (a : Int) : M.Operand :=
  (⟨(IntKind.wrap IntKind.i64 (Int.tdiv (bitOf BinOp.and IntKind.i64 a (63 : Int)) (8 : Int))), (Int.tmod (bitOf BinOp.and IntKind.i64 a (63 : Int)) (8 : Int)), (0 : Int)⟩ : M.Operand)

def X.R06_signed (a : Int) : Int :=
  bif (decide (a > (127 : Int))) then (IntKind.wrap IntKind.i64 (a - (256 : Int)))
  else a

def X.R06_shape (a : Int) : M.Inst :=
  bif (bif (decide ((IntKind.wrap IntKind.i64 (Int.tdiv a (4096 : Int))) ≥ (1 : Int))) then (decide ((IntKind.wrap IntKind.i64 (Int.tdiv a (4096 : Int))) ≤ (5 : Int))) else false) then (⟨(IntKind.wrap IntKind.i64 ((1 : Int) + (IntKind.wrap IntKind.i64 ((IntKind.wrap IntKind.i64 (Int.tdiv a (4096 : Int))) - (1 : Int))))), false, (X.R05_From (Int.tmod (IntKind.wrap IntKind.i64 (Int.tdiv a (64 : Int))) (64 : Int))), (X.R05_From (Int.tmod a (64 : Int))), (0 : Int), (0 : Int)⟩ : M.Inst)
  else bif (bif (decide ((IntKind.wrap IntKind.i64 (Int.tdiv a (4096 : Int))) ≥ (9 : Int))) then (decide ((IntKind.wrap IntKind.i64 (Int.tdiv a (4096 : Int))) ≤ (13 : Int))) else false) then (⟨(IntKind.wrap IntKind.i64 ((1 : Int) + (IntKind.wrap IntKind.i64 ((IntKind.wrap IntKind.i64 (Int.tdiv a (4096 : Int))) - (9 : Int))))), true, (X.R05_From (Int.tmod (IntKind.wrap IntKind.i64 (Int.tdiv a (64 : Int))) (64 : Int))), (X.R05_From (Int.tmod a (64 : Int))), (0 : Int), (0 : Int)⟩ : M.Inst)
  else bif ((IntKind.wrap IntKind.i64 (Int.tdiv a (4096 : Int))) == (6 : Int)) then (⟨(6 : Int), false, (X.R05_From (Int.tmod (IntKind.wrap IntKind.i64 (Int.tdiv a (64 : Int))) (64 : Int))), (X.R05_From (Int.tmod a (64 : Int))), (0 : Int), (0 : Int)⟩ : M.Inst)
  else bif ((IntKind.wrap IntKind.i64 (Int.tdiv a (4096 : Int))) == (14 : Int)) then (⟨(7 : Int), false, (X.R05_From (Int.tmod (IntKind.wrap IntKind.i64 (Int.tdiv a (64 : Int))) (64 : Int))), (X.R05_From (Int.tmod a (64 : Int))), (0 : Int), (0 : Int)⟩ : M.Inst)
  else bif (bif (decide ((IntKind.wrap IntKind.i64 (Int.tdiv a (512 : Int))) ≥ (56 : Int))) then (decide ((IntKind.wrap IntKind.i64 (Int.tdiv a (512 : Int))) ≤ (58 : Int))) else false) then (⟨(IntKind.wrap IntKind.i64 ((8 : Int) + (IntKind.wrap IntKind.i64 ((IntKind.wrap IntKind.i64 (Int.tdiv a (512 : Int))) - (56 : Int))))), false, (X.R05_From (Int.tmod a (64 : Int))), (⟨(0 : Int), (0 : Int), (0 : Int)⟩ : M.Operand), (Int.tmod (IntKind.wrap IntKind.i64 (Int.tdiv a (64 : Int))) (8 : Int)), (0 : Int)⟩ : M.Inst)
  else bif ((IntKind.wrap IntKind.i64 (Int.tdiv a (512 : Int))) == (60 : Int)) then (⟨(11 : Int), false, (⟨(0 : Int), (0 : Int), (0 : Int)⟩ : M.Operand), (X.R05_From (Int.tmod a (64 : Int))), (Int.tmod (IntKind.wrap IntKind.i64 (Int.tdiv a (64 : Int))) (8 : Int)), (0 : Int)⟩ : M.Inst)
  else bif ((IntKind.wrap IntKind.i64 (Int.tdiv a (512 : Int))) == (63 : Int)) then (⟨(44 : Int), false, (⟨(0 : Int), (0 : Int), (0 : Int)⟩ : M.Operand), (⟨(0 : Int), (0 : Int), (0 : Int)⟩ : M.Operand), (Int.tmod (IntKind.wrap IntKind.i64 (Int.tdiv a (64 : Int))) (8 : Int)), (Int.tmod a (64 : Int))⟩ : M.Inst)
  else bif (bif (decide ((IntKind.wrap IntKind.i64 (Int.tdiv a (64 : Int))) ≥ (40 : Int))) then (decide ((IntKind.wrap IntKind.i64 (Int.tdiv a (64 : Int))) ≤ (47 : Int))) else false) then (⟨(IntKind.wrap IntKind.i64 ((12 : Int) + (IntKind.wrap IntKind.i64 ((IntKind.wrap IntKind.i64 (Int.tdiv a (64 : Int))) - (40 : Int))))), false, (⟨(0 : Int), (0 : Int), (0 : Int)⟩ : M.Operand), (X.R05_From (Int.tmod a (64 : Int))), (0 : Int), (0 : Int)⟩ : M.Inst)
  else bif (bif (decide ((IntKind.wrap IntKind.i64 (Int.tdiv a (64 : Int))) ≥ (552 : Int))) then (decide ((IntKind.wrap IntKind.i64 (Int.tdiv a (64 : Int))) ≤ (559 : Int))) else false) then (⟨(IntKind.wrap IntKind.i64 ((12 : Int) + (IntKind.wrap IntKind.i64 ((IntKind.wrap IntKind.i64 (Int.tdiv a (64 : Int))) - (552 : Int))))), true, (⟨(0 : Int), (0 : Int), (0 : Int)⟩ : M.Operand), (X.R05_From (Int.tmod a (64 : Int))), (0 : Int), (0 : Int)⟩ : M.Inst)
  else bif (bif (decide ((IntKind.wrap IntKind.i64 (Int.tdiv a (64 : Int))) ≥ (48 : Int))) then (decide ((IntKind.wrap IntKind.i64 (Int.tdiv a (64 : Int))) ≤ (51 : Int))) else false) then (⟨(IntKind.wrap IntKind.i64 ((20 : Int) + (IntKind.wrap IntKind.i64 ((IntKind.wrap IntKind.i64 (Int.tdiv a (64 : Int))) - (48 : Int))))), false, (⟨(0 : Int), (0 : Int), (0 : Int)⟩ : M.Operand), (X.R05_From (Int.tmod a (64 : Int))), (0 : Int), (0 : Int)⟩ : M.Inst)
  else bif (bif (decide ((IntKind.wrap IntKind.i64 (Int.tdiv a (64 : Int))) ≥ (560 : Int))) then (decide ((IntKind.wrap IntKind.i64 (Int.tdiv a (64 : Int))) ≤ (563 : Int))) else false) then (⟨(IntKind.wrap IntKind.i64 ((20 : Int) + (IntKind.wrap IntKind.i64 ((IntKind.wrap IntKind.i64 (Int.tdiv a (64 : Int))) - (560 : Int))))), true, (⟨(0 : Int), (0 : Int), (0 : Int)⟩ : M.Operand), (X.R05_From (Int.tmod a (64 : Int))), (0 : Int), (0 : Int)⟩ : M.Inst)
  else bif ((IntKind.wrap IntKind.i64 (Int.tdiv a (64 : Int))) == (3 : Int)) then (⟨(24 : Int), false, (⟨(0 : Int), (0 : Int), (0 : Int)⟩ : M.Operand), (X.R05_From (Int.tmod a (64 : Int))), (0 : Int), (0 : Int)⟩ : M.Inst)
  else bif ((IntKind.wrap IntKind.i64 (Int.tdiv a (64 : Int))) == (55 : Int)) then (⟨(25 : Int), false, (⟨(0 : Int), (0 : Int), (0 : Int)⟩ : M.Operand), (X.R05_From (Int.tmod a (64 : Int))), (0 : Int), (0 : Int)⟩ : M.Inst)
  else bif ((IntKind.wrap IntKind.i64 (Int.tdiv a (64 : Int))) == (53 : Int)) then (⟨(55 : Int), false, (X.R05_From (Int.tmod a (64 : Int))), (⟨(0 : Int), (0 : Int), (0 : Int)⟩ : M.Operand), (0 : Int), (0 : Int)⟩ : M.Inst)
  else bif ((IntKind.wrap IntKind.i64 (Int.tdiv a (64 : Int))) == (54 : Int)) then (⟨(56 : Int), false, (⟨(0 : Int), (0 : Int), (0 : Int)⟩ : M.Operand), (X.R05_From (Int.tmod a (64 : Int))), (0 : Int), (0 : Int)⟩ : M.Inst)
  else bif ((IntKind.wrap IntKind.i64 (Int.tdiv a (64 : Int))) == (1 : Int)) then (⟨(41 : Int), false, (⟨(0 : Int), (0 : Int), (0 : Int)⟩ : M.Operand), (X.R05_From (Int.tmod a (64 : Int))), (0 : Int), (0 : Int)⟩ : M.Inst)
  else bif ((IntKind.wrap IntKind.i64 (Int.tdiv a (512 : Int))) == (4 : Int)) then (⟨(42 : Int), false, (⟨(0 : Int), (0 : Int), (0 : Int)⟩ : M.Operand), (X.R05_From (Int.tmod a (64 : Int))), (Int.tmod (IntKind.wrap IntKind.i64 (Int.tdiv a (64 : Int))) (8 : Int)), (0 : Int)⟩ : M.Inst)
  else bif ((IntKind.wrap IntKind.i64 (Int.tdiv a (8 : Int))) == (16 : Int)) then (⟨(43 : Int), false, (⟨(0 : Int), (0 : Int), (0 : Int)⟩ : M.Operand), (⟨(0 : Int), (0 : Int), (0 : Int)⟩ : M.Operand), (Int.tmod a (8 : Int)), (0 : Int)⟩ : M.Inst)
  else bif (bif (decide ((IntKind.wrap IntKind.i64 (Int.tdiv a (256 : Int))) ≥ (1 : Int))) then (decide ((IntKind.wrap IntKind.i64 (Int.tdiv a (256 : Int))) ≤ (7 : Int))) else false) then (⟨(IntKind.wrap IntKind.i64 ((26 : Int) + (IntKind.wrap IntKind.i64 ((IntKind.wrap IntKind.i64 (Int.tdiv a (256 : Int))) - (1 : Int))))), false, (⟨(0 : Int), (0 : Int), (0 : Int)⟩ : M.Operand), (⟨(0 : Int), (0 : Int), (0 : Int)⟩ : M.Operand), (0 : Int), (X.R06_signed (Int.tmod a (256 : Int)))⟩ : M.Inst)
  else bif (bif (decide ((IntKind.wrap IntKind.i64 (Int.tdiv a (256 : Int))) ≥ (128 : Int))) then (decide ((IntKind.wrap IntKind.i64 (Int.tdiv a (256 : Int))) ≤ (135 : Int))) else false) then (⟨(IntKind.wrap IntKind.i64 ((33 : Int) + (IntKind.wrap IntKind.i64 ((IntKind.wrap IntKind.i64 (Int.tdiv a (256 : Int))) - (128 : Int))))), false, (⟨(0 : Int), (0 : Int), (0 : Int)⟩ : M.Operand), (⟨(0 : Int), (0 : Int), (0 : Int)⟩ : M.Operand), (0 : Int), (X.R06_signed (Int.tmod a (256 : Int)))⟩ : M.Inst)
  else bif ((IntKind.wrap IntKind.i64 (Int.tdiv a (256 : Int))) == (136 : Int)) then (⟨(45 : Int), false, (⟨(0 : Int), (0 : Int), (0 : Int)⟩ : M.Operand), (⟨(0 : Int), (0 : Int), (0 : Int)⟩ : M.Operand), (0 : Int), (Int.tmod a (256 : Int))⟩ : M.Inst)
  else bif ((IntKind.wrap IntKind.i64 (Int.tdiv a (256 : Int))) == (137 : Int)) then (⟨(46 : Int), false, (⟨(0 : Int), (0 : Int), (0 : Int)⟩ : M.Operand), (⟨(0 : Int), (0 : Int), (0 : Int)⟩ : M.Operand), (0 : Int), (Int.tmod a (256 : Int))⟩ : M.Inst)
  else bif ((IntKind.wrap IntKind.i64 (Int.tdiv a (16 : Int))) == (10 : Int)) then (⟨(53 : Int), false, (⟨(0 : Int), (0 : Int), (0 : Int)⟩ : M.Operand), (⟨(0 : Int), (0 : Int), (0 : Int)⟩ : M.Operand), (0 : Int), (Int.tmod a (16 : Int))⟩ : M.Inst)
  else bif ((IntKind.wrap IntKind.i64 (Int.tdiv a (16 : Int))) == (11 : Int)) then (⟨(54 : Int), false, (⟨(0 : Int), (0 : Int), (0 : Int)⟩ : M.Operand), (⟨(0 : Int), (0 : Int), (0 : Int)⟩ : M.Operand), (0 : Int), (Int.tmod a (16 : Int))⟩ : M.Inst)
  else bif (a == (0 : Int)) then (⟨(50 : Int), false, (⟨(0 : Int), (0 : Int), (0 : Int)⟩ : M.Operand), (⟨(0 : Int), (0 : Int), (0 : Int)⟩ : M.Operand), (0 : Int), (0 : Int)⟩ : M.Inst)
  else bif (a == (1 : Int)) then (⟨(51 : Int), false, (⟨(0 : Int), (0 : Int), (0 : Int)⟩ : M.Operand), (⟨(0 : Int), (0 : Int), (0 : Int)⟩ : M.Operand), (0 : Int), (0 : Int)⟩ : M.Inst)
  else bif (a == (2 : Int)) then (⟨(49 : Int), false, (⟨(0 : Int), (0 : Int), (0 : Int)⟩ : M.Operand), (⟨(0 : Int), (0 : Int), (0 : Int)⟩ : M.Operand), (0 : Int), (0 : Int)⟩ : M.Inst)
  else bif (a == (3 : Int)) then (⟨(47 : Int), false, (⟨(0 : Int), (0 : Int), (0 : Int)⟩ : M.Operand), (⟨(0 : Int), (0 : Int), (0 : Int)⟩ : M.Operand), (0 : Int), (0 : Int)⟩ : M.Inst)
  else bif (a == (4 : Int)) then (⟨(48 : Int), false, (⟨(0 : Int), (0 : Int), (0 : Int)⟩ : M.Operand), (⟨(0 : Int), (0 : Int), (0 : Int)⟩ : M.Operand), (0 : Int), (0 : Int)⟩ : M.Inst)
  else bif (a == (5 : Int)) then (⟨(52 : Int), false, (⟨(0 : Int), (0 : Int), (0 : Int)⟩ : M.Operand), (⟨(0 : Int), (0 : Int), (0 : Int)⟩ : M.Operand), (0 : Int), (0 : Int)⟩ : M.Inst)
  else (⟨(0 : Int), false, (⟨(0 : Int), (0 : Int), (0 : Int)⟩ : M.Operand), (⟨(0 : Int), (0 : Int), (0 : Int)⟩ : M.Operand), (0 : Int), (0 : Int)⟩ : M.Inst)

def X.R06_Decode (a : List Int) : Option (M.Inst × Int × Unit) :=
  bif ((Nat.cast (List.length a) : Int) == (0 : Int)) then some ((⟨(0 : Int), false, (⟨(0 : Int), (0 : Int), (0 : Int)⟩ : M.Operand), (⟨(0 : Int), (0 : Int), (0 : Int)⟩ : M.Operand), (0 : Int), (0 : Int)⟩ : M.Inst), (0 : Int), ())
  else bif ((decide ((0 : Int) ≤ (0 : Int))) && (decide ((0 : Int) < (Nat.cast (List.length a) : Int)))) then bif (!(X.R06_Isword (List.getD a (0 : Nat) (dflt (Ty.int IntKind.i64))))) then some ((⟨(0 : Int), false, (⟨(0 : Int), (0 : Int), (0 : Int)⟩ : M.Operand), (⟨(0 : Int), (0 : Int), (0 : Int)⟩ : M.Operand), (0 : Int), (0 : Int)⟩ : M.Inst), (0 : Int), ())
    else bif ((decide ((0 : Int) ≤ (0 : Int))) && (decide ((0 : Int) < (Nat.cast (List.length a) : Int)))) then bif (bif (X.R06_Hassrc (X.R06_shape (List.getD a (0 : Nat) (dflt (Ty.int IntKind.i64)))).Op) then (X.R05_Extended (X.R06_shape (List.getD a (0 : Nat) (dflt (Ty.int IntKind.i64)))).Src) else false) then bif (decide ((1 : Int) ≥ (Nat.cast (List.length a) : Int))) then some ((⟨(0 : Int), false, (⟨(0 : Int), (0 : Int), (0 : Int)⟩ : M.Operand), (⟨(0 : Int), (0 : Int), (0 : Int)⟩ : M.Operand), (0 : Int), (0 : Int)⟩ : M.Inst), (0 : Int), ())
        else bif ((decide ((0 : Int) ≤ (1 : Int))) && (decide ((1 : Int) < (Nat.cast (List.length a) : Int)))) then bif (!(X.R06_Isword (List.getD a (1 : Nat) (dflt (Ty.int IntKind.i64))))) then some ((⟨(0 : Int), false, (⟨(0 : Int), (0 : Int), (0 : Int)⟩ : M.Operand), (⟨(0 : Int), (0 : Int), (0 : Int)⟩ : M.Operand), (0 : Int), (0 : Int)⟩ : M.Inst), (0 : Int), ())
          else bif ((decide ((0 : Int) ≤ (1 : Int))) && (decide ((1 : Int) < (Nat.cast (List.length a) : Int)))) then bif (bif (X.R06_Hasdst (X.R06_shape (List.getD a (0 : Nat) (dflt (Ty.int IntKind.i64)))).Op) then (X.R05_Extended (X.R06_shape (List.getD a (0 : Nat) (dflt (Ty.int IntKind.i64)))).Dst) else false) then bif (decide ((IntKind.wrap IntKind.i64 ((1 : Int) + (1 : Int))) ≥ (Nat.cast (List.length a) : Int))) then some ((⟨(0 : Int), false, (⟨(0 : Int), (0 : Int), (0 : Int)⟩ : M.Operand), (⟨(0 : Int), (0 : Int), (0 : Int)⟩ : M.Operand), (0 : Int), (0 : Int)⟩ : M.Inst), (0 : Int), ())
              else bif ((decide ((0 : Int) ≤ (IntKind.wrap IntKind.i64 ((1 : Int) + (1 : Int))))) && (decide ((IntKind.wrap IntKind.i64 ((1 : Int) + (1 : Int))) < (Nat.cast (List.length a) : Int)))) then bif (!(X.R06_Isword (List.getD a (Int.toNat (IntKind.wrap IntKind.i64 ((1 : Int) + (1 : Int)))) (dflt (Ty.int IntKind.i64))))) then some ((⟨(0 : Int), false, (⟨(0 : Int), (0 : Int), (0 : Int)⟩ : M.Operand), (⟨(0 : Int), (0 : Int), (0 : Int)⟩ : M.Operand), (0 : Int), (0 : Int)⟩ : M.Inst), (0 : Int), ())
                else bif ((decide ((0 : Int) ≤ (IntKind.wrap IntKind.i64 ((1 : Int) + (1 : Int))))) && (decide ((IntKind.wrap IntKind.i64 ((1 : Int) + (1 : Int))) < (Nat.cast (List.length a) : Int)))) then bif (!(X.R06_Valid (⟨(X.R06_shape (List.getD a (0 : Nat) (dflt (Ty.int IntKind.i64)))).Op, (X.R06_shape (List.getD a (0 : Nat) (dflt (Ty.int IntKind.i64)))).Byte, (⟨(X.R06_shape (List.getD a (0 : Nat) (dflt (Ty.int IntKind.i64)))).Src.Mode, (X.R06_shape (List.getD a (0 : Nat) (dflt (Ty.int IntKind.i64)))).Src.Reg, (List.getD a (1 : Nat) (dflt (Ty.int IntKind.i64)))⟩ : M.Operand), (⟨(X.R06_shape (List.getD a (0 : Nat) (dflt (Ty.int IntKind.i64)))).Dst.Mode, (X.R06_shape (List.getD a (0 : Nat) (dflt (Ty.int IntKind.i64)))).Dst.Reg, (List.getD a (Int.toNat (IntKind.wrap IntKind.i64 ((1 : Int) + (1 : Int)))) (dflt (Ty.int IntKind.i64)))⟩ : M.Operand), (X.R06_shape (List.getD a (0 : Nat) (dflt (Ty.int IntKind.i64)))).Reg, (X.R06_shape (List.getD a (0 : Nat) (dflt (Ty.int IntKind.i64)))).Num⟩ : M.Inst))) then some ((⟨(0 : Int), false, (⟨(0 : Int), (0 : Int), (0 : Int)⟩ : M.Operand), (⟨(0 : Int), (0 : Int), (0 : Int)⟩ : M.Operand), (0 : Int), (0 : Int)⟩ : M.Inst), (0 : Int), ())
                  else some ((⟨(X.R06_shape (List.getD a (0 : Nat) (dflt (Ty.int IntKind.i64)))).Op, (X.R06_shape (List.getD a (0 : Nat) (dflt (Ty.int IntKind.i64)))).Byte, (⟨(X.R06_shape (List.getD a (0 : Nat) (dflt (Ty.int IntKind.i64)))).Src.Mode, (X.R06_shape (List.getD a (0 : Nat) (dflt (Ty.int IntKind.i64)))).Src.Reg, (List.getD a (1 : Nat) (dflt (Ty.int IntKind.i64)))⟩ : M.Operand), (⟨(X.R06_shape (List.getD a (0 : Nat) (dflt (Ty.int IntKind.i64)))).Dst.Mode, (X.R06_shape (List.getD a (0 : Nat) (dflt (Ty.int IntKind.i64)))).Dst.Reg, (List.getD a (Int.toNat (IntKind.wrap IntKind.i64 ((1 : Int) + (1 : Int)))) (dflt (Ty.int IntKind.i64)))⟩ : M.Operand), (X.R06_shape (List.getD a (0 : Nat) (dflt (Ty.int IntKind.i64)))).Reg, (X.R06_shape (List.getD a (0 : Nat) (dflt (Ty.int IntKind.i64)))).Num⟩ : M.Inst), (IntKind.wrap IntKind.i64 ((IntKind.wrap IntKind.i64 ((1 : Int) + (1 : Int))) + (1 : Int))), ())
                else none
              else none
            else bif (!(X.R06_Valid (⟨(X.R06_shape (List.getD a (0 : Nat) (dflt (Ty.int IntKind.i64)))).Op, (X.R06_shape (List.getD a (0 : Nat) (dflt (Ty.int IntKind.i64)))).Byte, (⟨(X.R06_shape (List.getD a (0 : Nat) (dflt (Ty.int IntKind.i64)))).Src.Mode, (X.R06_shape (List.getD a (0 : Nat) (dflt (Ty.int IntKind.i64)))).Src.Reg, (List.getD a (1 : Nat) (dflt (Ty.int IntKind.i64)))⟩ : M.Operand), (X.R06_shape (List.getD a (0 : Nat) (dflt (Ty.int IntKind.i64)))).Dst, (X.R06_shape (List.getD a (0 : Nat) (dflt (Ty.int IntKind.i64)))).Reg, (X.R06_shape (List.getD a (0 : Nat) (dflt (Ty.int IntKind.i64)))).Num⟩ : M.Inst))) then some ((⟨(0 : Int), false, (⟨(0 : Int), (0 : Int), (0 : Int)⟩ : M.Operand), (⟨(0 : Int), (0 : Int), (0 : Int)⟩ : M.Operand), (0 : Int), (0 : Int)⟩ : M.Inst), (0 : Int), ())
            else some ((⟨(X.R06_shape (List.getD a (0 : Nat) (dflt (Ty.int IntKind.i64)))).Op, (X.R06_shape (List.getD a (0 : Nat) (dflt (Ty.int IntKind.i64)))).Byte, (⟨(X.R06_shape (List.getD a (0 : Nat) (dflt (Ty.int IntKind.i64)))).Src.Mode, (X.R06_shape (List.getD a (0 : Nat) (dflt (Ty.int IntKind.i64)))).Src.Reg, (List.getD a (1 : Nat) (dflt (Ty.int IntKind.i64)))⟩ : M.Operand), (X.R06_shape (List.getD a (0 : Nat) (dflt (Ty.int IntKind.i64)))).Dst, (X.R06_shape (List.getD a (0 : Nat) (dflt (Ty.int IntKind.i64)))).Reg, (X.R06_shape (List.getD a (0 : Nat) (dflt (Ty.int IntKind.i64)))).Num⟩ : M.Inst), (IntKind.wrap IntKind.i64 ((1 : Int) + (1 : Int))), ())
          else none
        else none
      else bif (bif (X.R06_Hasdst (X.R06_shape (List.getD a (0 : Nat) (dflt (Ty.int IntKind.i64)))).Op) then (X.R05_Extended (X.R06_shape (List.getD a (0 : Nat) (dflt (Ty.int IntKind.i64)))).Dst) else false) then bif (decide ((1 : Int) ≥ (Nat.cast (List.length a) : Int))) then some ((⟨(0 : Int), false, (⟨(0 : Int), (0 : Int), (0 : Int)⟩ : M.Operand), (⟨(0 : Int), (0 : Int), (0 : Int)⟩ : M.Operand), (0 : Int), (0 : Int)⟩ : M.Inst), (0 : Int), ())
        else bif ((decide ((0 : Int) ≤ (1 : Int))) && (decide ((1 : Int) < (Nat.cast (List.length a) : Int)))) then bif (!(X.R06_Isword (List.getD a (1 : Nat) (dflt (Ty.int IntKind.i64))))) then some ((⟨(0 : Int), false, (⟨(0 : Int), (0 : Int), (0 : Int)⟩ : M.Operand), (⟨(0 : Int), (0 : Int), (0 : Int)⟩ : M.Operand), (0 : Int), (0 : Int)⟩ : M.Inst), (0 : Int), ())
          else bif ((decide ((0 : Int) ≤ (1 : Int))) && (decide ((1 : Int) < (Nat.cast (List.length a) : Int)))) then bif (!(X.R06_Valid (⟨(X.R06_shape (List.getD a (0 : Nat) (dflt (Ty.int IntKind.i64)))).Op, (X.R06_shape (List.getD a (0 : Nat) (dflt (Ty.int IntKind.i64)))).Byte, (X.R06_shape (List.getD a (0 : Nat) (dflt (Ty.int IntKind.i64)))).Src, (⟨(X.R06_shape (List.getD a (0 : Nat) (dflt (Ty.int IntKind.i64)))).Dst.Mode, (X.R06_shape (List.getD a (0 : Nat) (dflt (Ty.int IntKind.i64)))).Dst.Reg, (List.getD a (1 : Nat) (dflt (Ty.int IntKind.i64)))⟩ : M.Operand), (X.R06_shape (List.getD a (0 : Nat) (dflt (Ty.int IntKind.i64)))).Reg, (X.R06_shape (List.getD a (0 : Nat) (dflt (Ty.int IntKind.i64)))).Num⟩ : M.Inst))) then some ((⟨(0 : Int), false, (⟨(0 : Int), (0 : Int), (0 : Int)⟩ : M.Operand), (⟨(0 : Int), (0 : Int), (0 : Int)⟩ : M.Operand), (0 : Int), (0 : Int)⟩ : M.Inst), (0 : Int), ())
            else some ((⟨(X.R06_shape (List.getD a (0 : Nat) (dflt (Ty.int IntKind.i64)))).Op, (X.R06_shape (List.getD a (0 : Nat) (dflt (Ty.int IntKind.i64)))).Byte, (X.R06_shape (List.getD a (0 : Nat) (dflt (Ty.int IntKind.i64)))).Src, (⟨(X.R06_shape (List.getD a (0 : Nat) (dflt (Ty.int IntKind.i64)))).Dst.Mode, (X.R06_shape (List.getD a (0 : Nat) (dflt (Ty.int IntKind.i64)))).Dst.Reg, (List.getD a (1 : Nat) (dflt (Ty.int IntKind.i64)))⟩ : M.Operand), (X.R06_shape (List.getD a (0 : Nat) (dflt (Ty.int IntKind.i64)))).Reg, (X.R06_shape (List.getD a (0 : Nat) (dflt (Ty.int IntKind.i64)))).Num⟩ : M.Inst), (IntKind.wrap IntKind.i64 ((1 : Int) + (1 : Int))), ())
          else none
        else none
      else bif (!(X.R06_Valid (X.R06_shape (List.getD a (0 : Nat) (dflt (Ty.int IntKind.i64)))))) then some ((⟨(0 : Int), false, (⟨(0 : Int), (0 : Int), (0 : Int)⟩ : M.Operand), (⟨(0 : Int), (0 : Int), (0 : Int)⟩ : M.Operand), (0 : Int), (0 : Int)⟩ : M.Inst), (0 : Int), ())
      else some ((X.R06_shape (List.getD a (0 : Nat) (dflt (Ty.int IntKind.i64)))), (1 : Int), ())
    else none
  else none

def X.L06_InstDecodes (a : List Int) : Option (Bool × Unit) :=
  bif (decide ((Nat.cast (List.length a) : Int) > (8 : Int))) then match X.L06_alive with
    | some y0 => some (y0.1, ())
    | none => none
  else match (X.inst_Decode a) with
  | some y1 => match (X.R06_Decode a) with
    | some y2 => bif (vEqB (Ty.st SId.sInst) y1.1 y2.1) then bif (y1.2.1 == y2.2.1) then match X.L06_alive with
          | some y3 => some (y3.1, ())
          | none => none
        else some (false, ())
      else some (false, ())
    | none => none
  | none => none

def X.inst_Encode (a : M.Inst) : Option ((List Int) × Int × Unit) :=
  match (X.inst_words a) with
  | some y0 => bif y0.2.1 then some (y0.1, (0 : Int), ())
    else some ((List.nil), (1 : Int), ())
  | none => none

def X.R05_Field (a : M.Operand) : Int :=
  (IntKind.wrap IntKind.i64 ((IntKind.wrap IntKind.i64 ((8 : Int) * (X.R05_Mode a))) + (X.R05_Register a)))

def X.R06_first (a : M.Inst) : Int :=
  bif a.Byte then bif (bif (decide (a.Op ≥ (1 : Int))) then (decide (a.Op ≤ (5 : Int))) else false) then (IntKind.wrap IntKind.i64 ((IntKind.wrap IntKind.i64 ((IntKind.wrap IntKind.i64 ((32768 : Int) + (IntKind.wrap IntKind.i64 ((4096 : Int) * (IntKind.wrap IntKind.i64 ((IntKind.wrap IntKind.i64 (a.Op - (1 : Int))) + (1 : Int))))))) + (IntKind.wrap IntKind.i64 ((64 : Int) * (X.R05_Field a.Src))))) + (X.R05_Field a.Dst)))
    else bif (a.Op == (6 : Int)) then (IntKind.wrap IntKind.i64 ((IntKind.wrap IntKind.i64 ((24576 : Int) + (IntKind.wrap IntKind.i64 ((64 : Int) * (X.R05_Field a.Src))))) + (X.R05_Field a.Dst)))
    else bif (a.Op == (7 : Int)) then (IntKind.wrap IntKind.i64 ((IntKind.wrap IntKind.i64 ((57344 : Int) + (IntKind.wrap IntKind.i64 ((64 : Int) * (X.R05_Field a.Src))))) + (X.R05_Field a.Dst)))
    else bif (X.R06_Islong a.Op) then (IntKind.wrap IntKind.i64 ((IntKind.wrap IntKind.i64 ((IntKind.wrap IntKind.i64 ((28672 : Int) + (IntKind.wrap IntKind.i64 ((512 : Int) * (IntKind.wrap IntKind.i64 (a.Op - (8 : Int))))))) + (IntKind.wrap IntKind.i64 ((64 : Int) * a.Reg)))) + (X.R05_Field a.Src)))
    else bif (a.Op == (11 : Int)) then (IntKind.wrap IntKind.i64 ((IntKind.wrap IntKind.i64 ((30720 : Int) + (IntKind.wrap IntKind.i64 ((64 : Int) * a.Reg)))) + (X.R05_Field a.Dst)))
    else bif (bif (decide (a.Op ≥ (12 : Int))) then (decide (a.Op ≤ (19 : Int))) else false) then (IntKind.wrap IntKind.i64 ((IntKind.wrap IntKind.i64 ((IntKind.wrap IntKind.i64 ((32768 : Int) + (2560 : Int))) + (IntKind.wrap IntKind.i64 ((64 : Int) * (IntKind.wrap IntKind.i64 (a.Op - (12 : Int))))))) + (X.R05_Field a.Dst)))
    else bif (bif (decide (a.Op ≥ (20 : Int))) then (decide (a.Op ≤ (23 : Int))) else false) then (IntKind.wrap IntKind.i64 ((IntKind.wrap IntKind.i64 ((IntKind.wrap IntKind.i64 ((32768 : Int) + (3072 : Int))) + (IntKind.wrap IntKind.i64 ((64 : Int) * (IntKind.wrap IntKind.i64 (a.Op - (20 : Int))))))) + (X.R05_Field a.Dst)))
    else bif (a.Op == (24 : Int)) then (IntKind.wrap IntKind.i64 ((192 : Int) + (X.R05_Field a.Dst)))
    else bif (a.Op == (25 : Int)) then (IntKind.wrap IntKind.i64 ((3520 : Int) + (X.R05_Field a.Dst)))
    else bif (bif (decide (a.Op ≥ (26 : Int))) then (decide (a.Op ≤ (32 : Int))) else false) then (IntKind.wrap IntKind.i64 ((IntKind.wrap IntKind.i64 ((256 : Int) * (IntKind.wrap IntKind.i64 ((IntKind.wrap IntKind.i64 (a.Op - (26 : Int))) + (1 : Int))))) + (Int.tmod (IntKind.wrap IntKind.i64 (a.Num + (256 : Int))) (256 : Int))))
    else bif (bif (decide (a.Op ≥ (33 : Int))) then (decide (a.Op ≤ (40 : Int))) else false) then (IntKind.wrap IntKind.i64 ((IntKind.wrap IntKind.i64 ((32768 : Int) + (IntKind.wrap IntKind.i64 ((256 : Int) * (IntKind.wrap IntKind.i64 (a.Op - (33 : Int))))))) + (Int.tmod (IntKind.wrap IntKind.i64 (a.Num + (256 : Int))) (256 : Int))))
    else bif (a.Op == (41 : Int)) then (IntKind.wrap IntKind.i64 ((64 : Int) + (X.R05_Field a.Dst)))
    else bif (a.Op == (42 : Int)) then (IntKind.wrap IntKind.i64 ((IntKind.wrap IntKind.i64 ((2048 : Int) + (IntKind.wrap IntKind.i64 ((64 : Int) * a.Reg)))) + (X.R05_Field a.Dst)))
    else bif (a.Op == (43 : Int)) then (IntKind.wrap IntKind.i64 ((128 : Int) + a.Reg))
    else bif (a.Op == (44 : Int)) then (IntKind.wrap IntKind.i64 ((IntKind.wrap IntKind.i64 ((32256 : Int) + (IntKind.wrap IntKind.i64 ((64 : Int) * a.Reg)))) + a.Num))
    else bif (a.Op == (45 : Int)) then (IntKind.wrap IntKind.i64 ((34816 : Int) + a.Num))
    else bif (a.Op == (46 : Int)) then (IntKind.wrap IntKind.i64 ((35072 : Int) + a.Num))
    else bif (a.Op == (53 : Int)) then (IntKind.wrap IntKind.i64 ((160 : Int) + a.Num))
    else bif (a.Op == (54 : Int)) then (IntKind.wrap IntKind.i64 ((176 : Int) + a.Num))
    else bif (a.Op == (55 : Int)) then (IntKind.wrap IntKind.i64 ((3392 : Int) + (X.R05_Field a.Src)))
    else bif (a.Op == (56 : Int)) then (IntKind.wrap IntKind.i64 ((3456 : Int) + (X.R05_Field a.Dst)))
    else bif (a.Op == (50 : Int)) then (0 : Int)
    else bif (a.Op == (51 : Int)) then (1 : Int)
    else bif (a.Op == (49 : Int)) then (2 : Int)
    else bif (a.Op == (47 : Int)) then (3 : Int)
    else bif (a.Op == (48 : Int)) then (4 : Int)
    else (5 : Int)
  else bif (bif (decide (a.Op ≥ (1 : Int))) then (decide (a.Op ≤ (5 : Int))) else false) then (IntKind.wrap IntKind.i64 ((IntKind.wrap IntKind.i64 ((IntKind.wrap IntKind.i64 ((0 : Int) + (IntKind.wrap IntKind.i64 ((4096 : Int) * (IntKind.wrap IntKind.i64 ((IntKind.wrap IntKind.i64 (a.Op - (1 : Int))) + (1 : Int))))))) + (IntKind.wrap IntKind.i64 ((64 : Int) * (X.R05_Field a.Src))))) + (X.R05_Field a.Dst)))
  else bif (a.Op == (6 : Int)) then (IntKind.wrap IntKind.i64 ((IntKind.wrap IntKind.i64 ((24576 : Int) + (IntKind.wrap IntKind.i64 ((64 : Int) * (X.R05_Field a.Src))))) + (X.R05_Field a.Dst)))
  else bif (a.Op == (7 : Int)) then (IntKind.wrap IntKind.i64 ((IntKind.wrap IntKind.i64 ((57344 : Int) + (IntKind.wrap IntKind.i64 ((64 : Int) * (X.R05_Field a.Src))))) + (X.R05_Field a.Dst)))
  else bif (X.R06_Islong a.Op) then (IntKind.wrap IntKind.i64 ((IntKind.wrap IntKind.i64 ((IntKind.wrap IntKind.i64 ((28672 : Int) + (IntKind.wrap IntKind.i64 ((512 : Int) * (IntKind.wrap IntKind.i64 (a.Op - (8 : Int))))))) + (IntKind.wrap IntKind.i64 ((64 : Int) * a.Reg)))) + (X.R05_Field a.Src)))
  else bif (a.Op == (11 : Int)) then (IntKind.wrap IntKind.i64 ((IntKind.wrap IntKind.i64 ((30720 : Int) + (IntKind.wrap IntKind.i64 ((64 : Int) * a.Reg)))) + (X.R05_Field a.Dst)))
  else bif (bif (decide (a.Op ≥ (12 : Int))) then (decide (a.Op ≤ (19 : Int))) else false) then (IntKind.wrap IntKind.i64 ((IntKind.wrap IntKind.i64 ((IntKind.wrap IntKind.i64 ((0 : Int) + (2560 : Int))) + (IntKind.wrap IntKind.i64 ((64 : Int) * (IntKind.wrap IntKind.i64 (a.Op - (12 : Int))))))) + (X.R05_Field a.Dst)))
  else bif (bif (decide (a.Op ≥ (20 : Int))) then (decide (a.Op ≤ (23 : Int))) else false) then (IntKind.wrap IntKind.i64 ((IntKind.wrap IntKind.i64 ((IntKind.wrap IntKind.i64 ((0 : Int) + (3072 : Int))) + (IntKind.wrap IntKind.i64 ((64 : Int) * (IntKind.wrap IntKind.i64 (a.Op - (20 : Int))))))) + (X.R05_Field a.Dst)))
  else bif (a.Op == (24 : Int)) then (IntKind.wrap IntKind.i64 ((192 : Int) + (X.R05_Field a.Dst)))
  else bif (a.Op == (25 : Int)) then (IntKind.wrap IntKind.i64 ((3520 : Int) + (X.R05_Field a.Dst)))
  else bif (bif (decide (a.Op ≥ (26 : Int))) then (decide (a.Op ≤ (32 : Int))) else false) then (IntKind.wrap IntKind.i64 ((IntKind.wrap IntKind.i64 ((256 : Int) * (IntKind.wrap IntKind.i64 ((IntKind.wrap IntKind.i64 (a.Op - (26 : Int))) + (1 : Int))))) + (Int.tmod (IntKind.wrap IntKind.i64 (a.Num + (256 : Int))) (256 : Int))))
  else bif (bif (decide (a.Op ≥ (33 : Int))) then (decide (a.Op ≤ (40 : Int))) else false) then (IntKind.wrap IntKind.i64 ((IntKind.wrap IntKind.i64 ((32768 : Int) + (IntKind.wrap IntKind.i64 ((256 : Int) * (IntKind.wrap IntKind.i64 (a.Op - (33 : Int))))))) + (Int.tmod (IntKind.wrap IntKind.i64 (a.Num + (256 : Int))) (256 : Int))))
  else bif (a.Op == (41 : Int)) then (IntKind.wrap IntKind.i64 ((64 : Int) + (X.R05_Field a.Dst)))
  else bif (a.Op == (42 : Int)) then (IntKind.wrap IntKind.i64 ((IntKind.wrap IntKind.i64 ((2048 : Int) + (IntKind.wrap IntKind.i64 ((64 : Int) * a.Reg)))) + (X.R05_Field a.Dst)))
  else bif (a.Op == (43 : Int)) then (IntKind.wrap IntKind.i64 ((128 : Int) + a.Reg))
  else bif (a.Op == (44 : Int)) then (IntKind.wrap IntKind.i64 ((IntKind.wrap IntKind.i64 ((32256 : Int) + (IntKind.wrap IntKind.i64 ((64 : Int) * a.Reg)))) + a.Num))
  else bif (a.Op == (45 : Int)) then (IntKind.wrap IntKind.i64 ((34816 : Int) + a.Num))
  else bif (a.Op == (46 : Int)) then (IntKind.wrap IntKind.i64 ((35072 : Int) + a.Num))
  else bif (a.Op == (53 : Int)) then (IntKind.wrap IntKind.i64 ((160 : Int) + a.Num))
  else bif (a.Op == (54 : Int)) then (IntKind.wrap IntKind.i64 ((176 : Int) + a.Num))
  else bif (a.Op == (55 : Int)) then (IntKind.wrap IntKind.i64 ((3392 : Int) + (X.R05_Field a.Src)))
  else bif (a.Op == (56 : Int)) then (IntKind.wrap IntKind.i64 ((3456 : Int) + (X.R05_Field a.Dst)))
  else bif (a.Op == (50 : Int)) then (0 : Int)
  else bif (a.Op == (51 : Int)) then (1 : Int)
  else bif (a.Op == (49 : Int)) then (2 : Int)
  else bif (a.Op == (47 : Int)) then (3 : Int)
  else bif (a.Op == (48 : Int)) then (4 : Int)
  else (5 : Int)

def X.R06_Encode (a : M.Inst) : (List Int) × Int :=
  bif (!(X.R06_Valid a)) then ((List.nil), (1 : Int))
  else bif (bif (X.R06_Hassrc a.Op) then (X.R05_Extended a.Src) else false) then bif (bif (X.R06_Hasdst a.Op) then (X.R05_Extended a.Dst) else false) then ((HAppend.hAppend (HAppend.hAppend (List.cons (X.R06_first a) (List.nil)) (List.cons a.Src.Ext (List.nil))) (List.cons a.Dst.Ext (List.nil))), (0 : Int))
    else ((HAppend.hAppend (List.cons (X.R06_first a) (List.nil)) (List.cons a.Src.Ext (List.nil))), (0 : Int))
  else bif (bif (X.R06_Hasdst a.Op) then (X.R05_Extended a.Dst) else false) then ((HAppend.hAppend (List.cons (X.R06_first a) (List.nil)) (List.cons a.Dst.Ext (List.nil))), (0 : Int))
  else ((List.cons (X.R06_first a) (List.nil)), (0 : Int))

def X.R03_SameInts_b4 (x : (((List Int) × (List Int) × Int × Unit) × (Unit))) : Option (Out (((List Int) × (List Int) × Int × Unit) × (Unit)) ((Unit) × (Unit)) ((Unit) × (Unit)) ((Bool × Unit) × (Unit))) :=
  bif (decide (x.1.2.2.1 < (Nat.cast (List.length x.1.1) : Int))) then bif ((decide ((0 : Int) ≤ x.1.2.2.1)) && (decide (x.1.2.2.1 < (Nat.cast (List.length x.1.1) : Int)))) then bif ((decide ((0 : Int) ≤ x.1.2.2.1)) && (decide (x.1.2.2.1 < (Nat.cast (List.length x.1.2.1) : Int)))) then bif ((List.getD x.1.1 (Int.toNat x.1.2.2.1) (dflt (Ty.int IntKind.i64))) != (List.getD x.1.2.1 (Int.toNat x.1.2.2.1) (dflt (Ty.int IntKind.i64)))) then some (Out.ret ((false, ()), ()))
        else some (Out.next ((x.1.1, (x.1.2.1, ((IntKind.wrap IntKind.i64 (x.1.2.2.1 + (1 : Int))), ()))), ()))
      else none
    else none
  else some (Out.brk ((), ()))

def X.R03_SameInts_l4 (x : (((List Int) × (List Int) × Int × Unit) × (Unit))) : Option (Out (((List Int) × (List Int) × Int × Unit) × (Unit)) ((Unit) × (Unit)) ((Unit) × (Unit)) ((Bool × Unit) × (Unit))) := iterO X.R03_SameInts_b4 (100 + List.length x.1.1 + List.length x.1.2.1 + Int.toNat x.1.2.2.1) x

def X.R03_SameInts (a : List Int) (b : List Int) : Option (Bool × Unit) :=
  bif ((Nat.cast (List.length a) : Int) != (Nat.cast (List.length b) : Int)) then some (false, ())
  else match (X.R03_SameInts_l4 ((a, (b, ((0 : Int), Unit.unit))), Unit.unit)) with
  | some y0 => match y0 with
    | .next w1 => none
    | .brk w2 => some (true, ())
    | .brk2 w3 => none
    | .ret w4 => some (w4.1.1, ())
  | none => none

def X.R06_Length (a : M.Inst) : Int :=
  (Nat.cast (List.length (X.R06_Encode a).1) : Int)

def X.R06_Ends (a : M.Inst) : Bool :=
  bif (!(X.R06_Valid a)) then false
  else bif (a.Op == (41 : Int)) then true
  else bif (a.Op == (42 : Int)) then true
  else bif (a.Op == (43 : Int)) then true
  else bif (a.Op == (44 : Int)) then true
  else bif (a.Op == (45 : Int)) then true
  else bif (a.Op == (46 : Int)) then true
  else bif (a.Op == (47 : Int)) then true
  else bif (a.Op == (48 : Int)) then true
  else bif (a.Op == (49 : Int)) then true
  else bif (a.Op == (50 : Int)) then true
  else bif (a.Op == (51 : Int)) then true
  else bif (a.Op == (52 : Int)) then true
  else bif (a.Op == (56 : Int)) then true
  else bif (a.Op == (2 : Int)) then false
  else bif (a.Op == (3 : Int)) then false
  else bif (a.Op == (19 : Int)) then false
  else bif (a.Op == (8 : Int)) then (decide (a.Reg ≥ (6 : Int)))
  else bif (a.Op == (10 : Int)) then (decide (a.Reg ≥ (6 : Int)))
  else bif (a.Op == (9 : Int)) then (decide (a.Reg ≥ (6 : Int)))
  else (bif (X.R06_Isbranch a.Op) then true else (bif (X.R06_Hasdst a.Op) then (bif (a.Dst.Mode == (0 : Int)) then (a.Dst.Reg == (7 : Int)) else false) else false))

def X.R06_Privileged (a : M.Inst) : Bool :=
  (bif (X.R06_Valid a) then (bif (a.Op == (50 : Int)) then true else (bif (a.Op == (51 : Int)) then true else (a.Op == (52 : Int)))) else false)

def X.L06_InstEncodes (a : M.Inst) : Option (Bool × Unit) :=
  match (X.inst_Encode a) with
  | some y0 => match (X.R03_SameInts y0.1 (X.R06_Encode a).1) with
    | some y1 => bif (!y1.1) then some (false, ())
      else bif (y0.2.1 != (X.R06_Encode a).2) then some (false, ())
      else match (X.inst_Valid a) with
      | some y2 => bif (!(y2.1 == (X.R06_Valid a))) then some (false, ())
        else match (X.inst_Length a) with
        | some y3 => bif (y3.1 != (X.R06_Length a)) then some (false, ())
          else match (X.inst_Ends a) with
          | some y4 => bif (y4.1 == (X.R06_Ends a)) then match (X.inst_Privileged a) with
              | some y5 => bif (y5.1 == (X.R06_Privileged a)) then match X.L06_alive with
                  | some y6 => some (y6.1, ())
                  | none => none
                else some (false, ())
              | none => none
            else some (false, ())
          | none => none
        | none => none
      | none => none
    | none => none
  | none => none

def X.L06_InstWords (a : Int) (b : Int) (c : Int) : Option (Bool × Unit) :=
  match (X.inst_Decode (List.cons (IntKind.wrap IntKind.i64 a) (List.cons (IntKind.wrap IntKind.i64 b) (List.cons (IntKind.wrap IntKind.i64 c) (List.nil))))) with
  | some y0 => bif (y0.2.1 == (0 : Int)) then bif (vEqB (Ty.st SId.sInst) y0.1 (⟨(0 : Int), false, (⟨(0 : Int), (0 : Int), (0 : Int)⟩ : M.Operand), (⟨(0 : Int), (0 : Int), (0 : Int)⟩ : M.Operand), (0 : Int), (0 : Int)⟩ : M.Inst)) then match X.L06_alive with
        | some y1 => some (y1.1, ())
        | none => none
      else some (false, ())
    else bif (bif (decide (y0.2.1 < (1 : Int))) then true else (decide (y0.2.1 > (3 : Int)))) then some (false, ())
    else match (X.inst_Encode y0.1) with
    | some y2 => bif (y2.2.1 == (0 : Int)) then bif ((decide ((0 : Int) ≤ (0 : Int))) && ((decide ((0 : Int) ≤ y0.2.1)) && (decide (y0.2.1 ≤ (Nat.cast (List.length (List.cons (IntKind.wrap IntKind.i64 a) (List.cons (IntKind.wrap IntKind.i64 b) (List.cons (IntKind.wrap IntKind.i64 c) (List.nil))))) : Int))))) then match (X.R03_SameInts y2.1 (List.drop (0 : Nat) (List.take (Int.toNat y0.2.1) (List.cons (IntKind.wrap IntKind.i64 a) (List.cons (IntKind.wrap IntKind.i64 b) (List.cons (IntKind.wrap IntKind.i64 c) (List.nil))))))) with
          | some y3 => bif y3.1 then match (X.inst_Valid y0.1) with
              | some y4 => bif y4.1 then match (X.inst_Length y0.1) with
                  | some y5 => bif (y5.1 == y0.2.1) then match X.L06_alive with
                      | some y6 => some (y6.1, ())
                      | none => none
                    else some (false, ())
                  | none => none
                else some (false, ())
              | none => none
            else some (false, ())
          | none => none
        else none
      else some (false, ())
    | none => none
  | none => none

def X.L06_InstBack (a : M.Inst) (b : List Int) : Option (Bool × Unit) :=
  bif (decide ((Nat.cast (List.length b) : Int) > (4 : Int))) then match X.L06_alive with
    | some y0 => some (y0.1, ())
    | none => none
  else match (X.inst_Valid a) with
  | some y1 => bif (!y1.1) then match X.L06_alive with
      | some y2 => some (y2.1, ())
      | none => none
    else match (X.inst_Encode a) with
    | some y3 => bif (y3.2.1 != (0 : Int)) then some (false, ())
      else bif (decide ((Nat.cast (List.length y3.1) : Int) < (1 : Int))) then some (false, ())
      else match (X.inst_Length a) with
      | some y4 => bif ((Nat.cast (List.length y3.1) : Int) != y4.1) then some (false, ())
        else bif (capOK (List.length y3.1) 8) then bif (capOK ((List.length y3.1) + (List.length b)) 8) then match (X.inst_Decode (HAppend.hAppend y3.1 b)) with
            | some y5 => bif ((decide ((0 : Int) ≤ (0 : Int))) && ((decide ((0 : Int) ≤ (IntKind.wrap IntKind.i64 ((Nat.cast (List.length y3.1) : Int) - (1 : Int))))) && (decide ((IntKind.wrap IntKind.i64 ((Nat.cast (List.length y3.1) : Int) - (1 : Int))) ≤ (Nat.cast (List.length y3.1) : Int))))) then match (X.inst_Decode (List.drop (0 : Nat) (List.take (Int.toNat (IntKind.wrap IntKind.i64 ((Nat.cast (List.length y3.1) : Int) - (1 : Int)))) y3.1))) with
                | some y6 => bif (vEqB (Ty.st SId.sInst) y5.1 a) then bif (y5.2.1 == (Nat.cast (List.length y3.1) : Int)) then bif (y6.2.1 == (0 : Int)) then match X.L06_alive with
                        | some y7 => some (y7.1, ())
                        | none => none
                      else some (false, ())
                    else some (false, ())
                  else some (false, ())
                | none => none
              else none
            | none => none
          else none
        else none
      | none => none
    | none => none
  | none => none

def X.L06_InstUnique (a : M.Inst) (b : M.Inst) : Option (Bool × Unit) :=
  match (X.inst_Valid a) with
  | some y0 => bif (!y0.1) then match X.L06_alive with
      | some y1 => some (y1.1, ())
      | none => none
    else match (X.inst_Valid b) with
    | some y2 => bif (!y2.1) then match X.L06_alive with
        | some y3 => some (y3.1, ())
        | none => none
      else match (X.inst_Encode a) with
      | some y4 => match (X.inst_Encode b) with
        | some y5 => bif (y4.2.1 == (0 : Int)) then bif (y5.2.1 == (0 : Int)) then match (X.R03_SameInts y4.1 y5.1) with
              | some y6 => bif (y6.1 == (vEqB (Ty.st SId.sInst) a b)) then match X.L06_alive with
                  | some y7 => some (y7.1, ())
                  | none => none
                else some (false, ())
              | none => none
            else some (false, ())
          else some (false, ())
        | none => none
      | none => none
    | none => none
  | none => none

def X.R08_Size (a : Int) : Bool :=
  (bif (decide (a ≥ (256 : Int))) then (bif (decide (a ≤ (32768 : Int))) then ((Int.tmod a (64 : Int)) == (0 : Int)) else false) else false)

def X.R08_Right_b9 (x : (((List Int) × (List Int) × Int × Unit) × (Unit))) : Option (Out (((List Int) × (List Int) × Int × Unit) × (Unit)) ((Unit) × (Unit)) ((Unit) × (Unit)) ((Bool × Unit) × (Unit))) :=
  bif (decide (x.1.2.2.1 < (Nat.cast (List.length x.1.2.1) : Int))) then bif ((decide ((0 : Int) ≤ x.1.2.2.1)) && (decide (x.1.2.2.1 < (Nat.cast (List.length x.1.2.1) : Int)))) then bif (decide ((List.getD x.1.2.1 (Int.toNat x.1.2.2.1) (dflt (Ty.int IntKind.i64))) < (0 : Int))) then some (Out.ret ((false, ()), ()))
      else bif ((decide ((0 : Int) ≤ x.1.2.2.1)) && (decide (x.1.2.2.1 < (Nat.cast (List.length x.1.2.1) : Int)))) then bif (decide ((List.getD x.1.2.1 (Int.toNat x.1.2.2.1) (dflt (Ty.int IntKind.i64))) ≥ (IntKind.wrap IntKind.i64 ((2 : Int) * (Nat.cast (List.length x.1.1) : Int))))) then some (Out.ret ((false, ()), ()))
        else bif ((decide ((0 : Int) ≤ x.1.2.2.1)) && (decide (x.1.2.2.1 < (Nat.cast (List.length x.1.2.1) : Int)))) then bif ((Int.tmod (List.getD x.1.2.1 (Int.toNat x.1.2.2.1) (dflt (Ty.int IntKind.i64))) (2 : Int)) != (0 : Int)) then some (Out.ret ((false, ()), ()))
          else bif (decide (x.1.2.2.1 > (0 : Int))) then bif ((decide ((0 : Int) ≤ x.1.2.2.1)) && (decide (x.1.2.2.1 < (Nat.cast (List.length x.1.2.1) : Int)))) then bif ((decide ((0 : Int) ≤ (IntKind.wrap IntKind.i64 (x.1.2.2.1 - (1 : Int))))) && (decide ((IntKind.wrap IntKind.i64 (x.1.2.2.1 - (1 : Int))) < (Nat.cast (List.length x.1.2.1) : Int)))) then bif (decide ((List.getD x.1.2.1 (Int.toNat x.1.2.2.1) (dflt (Ty.int IntKind.i64))) ≤ (List.getD x.1.2.1 (Int.toNat (IntKind.wrap IntKind.i64 (x.1.2.2.1 - (1 : Int)))) (dflt (Ty.int IntKind.i64))))) then some (Out.ret ((false, ()), ()))
                else some (Out.next ((x.1.1, (x.1.2.1, ((IntKind.wrap IntKind.i64 (x.1.2.2.1 + (1 : Int))), ()))), ()))
              else none
            else none
          else some (Out.next ((x.1.1, (x.1.2.1, ((IntKind.wrap IntKind.i64 (x.1.2.2.1 + (1 : Int))), ()))), ()))
        else none
      else none
    else none
  else some (Out.brk ((), ()))

def X.R08_Right_l9 (x : (((List Int) × (List Int) × Int × Unit) × (Unit))) : Option (Out (((List Int) × (List Int) × Int × Unit) × (Unit)) ((Unit) × (Unit)) ((Unit) × (Unit)) ((Bool × Unit) × (Unit))) := iterO X.R08_Right_b9 (100 + List.length x.1.1 + List.length x.1.2.1 + Int.toNat x.1.2.2.1) x

def X.R08_Right_b4 (x : (((List Int) × (List Int) × Int × Unit) × (Unit))) : Option (Out (((List Int) × (List Int) × Int × Unit) × (Unit)) (((List Int) × (List Int) × Unit) × (Unit)) ((Unit) × (Unit)) ((Bool × Unit) × (Unit))) :=
  bif (decide (x.1.2.2.1 < (Nat.cast (List.length x.1.1) : Int))) then bif ((decide ((0 : Int) ≤ x.1.2.2.1)) && (decide (x.1.2.2.1 < (Nat.cast (List.length x.1.1) : Int)))) then bif (decide ((List.getD x.1.1 (Int.toNat x.1.2.2.1) (dflt (Ty.int IntKind.i64))) < (0 : Int))) then some (Out.ret ((false, ()), ()))
      else bif ((decide ((0 : Int) ≤ x.1.2.2.1)) && (decide (x.1.2.2.1 < (Nat.cast (List.length x.1.1) : Int)))) then bif (decide ((List.getD x.1.1 (Int.toNat x.1.2.2.1) (dflt (Ty.int IntKind.i64))) > (65535 : Int))) then some (Out.ret ((false, ()), ()))
        else some (Out.next ((x.1.1, (x.1.2.1, ((IntKind.wrap IntKind.i64 (x.1.2.2.1 + (1 : Int))), ()))), ()))
      else none
    else none
  else some (Out.brk ((x.1.1, (x.1.2.1, ())), ()))

def X.R08_Right_l4 (x : (((List Int) × (List Int) × Int × Unit) × (Unit))) : Option (Out (((List Int) × (List Int) × Int × Unit) × (Unit)) (((List Int) × (List Int) × Unit) × (Unit)) ((Unit) × (Unit)) ((Bool × Unit) × (Unit))) := iterO X.R08_Right_b4 (100 + List.length x.1.1 + List.length x.1.2.1 + Int.toNat x.1.2.2.1) x

def X.R08_Right (a : List Int) (b : List Int) : Option (Bool × Unit) :=
  bif (!(X.R08_Size (IntKind.wrap IntKind.i64 ((2 : Int) * (Nat.cast (List.length a) : Int))))) then some (false, ())
  else match (X.R08_Right_l4 ((a, (b, ((0 : Int), Unit.unit))), Unit.unit)) with
  | some y0 => match y0 with
    | .next w1 => none
    | .brk w2 => match (X.R08_Right_l9 ((w2.1.1, (w2.1.2.1, ((0 : Int), Unit.unit))), Unit.unit)) with
      | some y3 => match y3 with
        | .next w4 => none
        | .brk w5 => some (true, ())
        | .brk2 w6 => none
        | .ret w7 => some (w7.1.1, ())
      | none => none
    | .brk2 w8 => none
    | .ret w9 => some (w9.1.1, ())
  | none => none

def X.L21_Memory_good (a : M.Emulatorlaw21_Memory) : Option (Bool × Unit) :=
  bif (decide ((Nat.cast (List.length a.Mem) : Int) ≤ (512 : Int))) then bif (decide ((Nat.cast (List.length a.Bad) : Int) ≤ (512 : Int))) then match (X.R08_Right a.Mem a.Bad) with
      | some y0 => some (y0.1, ())
      | none => none
    else some (false, ())
  else some (false, ())

def X.translate_upTo_b5 (x : ((Int × Int × (List Int) × Int × Int × Unit) × (M.Machine × Unit))) : Option (Out ((Int × Int × (List Int) × Int × Int × Unit) × (M.Machine × Unit)) ((Int × Int × Unit) × (M.Machine × Unit)) ((Unit) × (Unit)) ((Unit) × (Unit))) :=
  bif (decide (x.1.2.2.2.2.1 < x.1.2.2.2.1)) then bif ((decide ((0 : Int) ≤ x.1.2.2.2.2.1)) && (decide (x.1.2.2.2.2.1 < (Nat.cast (List.length x.1.2.2.1) : Int)))) then bif (bif (decide ((List.getD x.1.2.2.1 (Int.toNat x.1.2.2.2.2.1) (dflt (Ty.int IntKind.i64))) ≥ x.1.1)) then (decide ((List.getD x.1.2.2.1 (Int.toNat x.1.2.2.2.2.1) (dflt (Ty.int IntKind.i64))) < x.1.2.1)) else false) then some (Out.next ((x.1.1, ((List.getD x.1.2.2.1 (Int.toNat x.1.2.2.2.2.1) (dflt (Ty.int IntKind.i64))), (x.1.2.2.1, (x.1.2.2.2.1, ((IntKind.wrap IntKind.i64 (x.1.2.2.2.2.1 + (1 : Int))), ()))))), (x.2.1, ())))
      else some (Out.next ((x.1.1, (x.1.2.1, (x.1.2.2.1, (x.1.2.2.2.1, ((IntKind.wrap IntKind.i64 (x.1.2.2.2.2.1 + (1 : Int))), ()))))), (x.2.1, ())))
    else none
  else some (Out.brk ((x.1.1, (x.1.2.1, ())), (x.2.1, ())))

def X.translate_upTo_l5 (x : ((Int × Int × (List Int) × Int × Int × Unit) × (M.Machine × Unit))) : Option (Out ((Int × Int × (List Int) × Int × Int × Unit) × (M.Machine × Unit)) ((Int × Int × Unit) × (M.Machine × Unit)) ((Unit) × (Unit)) ((Unit) × (Unit))) := iterO X.translate_upTo_b5 (100 + Int.toNat x.1.1 + Int.toNat x.1.2.1 + List.length x.1.2.2.1 + Int.toNat x.1.2.2.2.1 + Int.toNat x.1.2.2.2.2.1 + List.length x.2.1.Mem + List.length x.2.1.Bad + List.length x.2.1.Lines + List.length x.2.1.Tape.Records) x

def X.translate_upTo (a : M.Machine) (b : Int) : Option ((List Int) × Unit) :=
  bif (bif (decide (b < (0 : Int))) then true else (bif ((Int.tmod b (2 : Int)) != (0 : Int)) then true else (decide ((IntKind.wrap IntKind.i64 (Int.tdiv b (2 : Int))) ≥ (Nat.cast (List.length a.Mem) : Int))))) then some ((List.nil), ())
  else match (X.translate_upTo_l5 ((b, ((IntKind.wrap IntKind.i64 ((IntKind.wrap IntKind.i64 (b - (Int.tmod b (64 : Int)))) + (64 : Int))), (a.Bad, ((Nat.cast (List.length a.Bad) : Int), ((0 : Int), Unit.unit))))), (a, Unit.unit))) with
  | some y0 => match y0 with
    | .next w1 => none
    | .brk w2 => bif ((decide ((0 : Int) ≤ (IntKind.wrap IntKind.i64 (Int.tdiv w2.1.1 (2 : Int))))) && ((decide ((IntKind.wrap IntKind.i64 (Int.tdiv w2.1.1 (2 : Int))) ≤ (Min.min (IntKind.wrap IntKind.i64 (Int.tdiv w2.1.2.1 (2 : Int))) (Nat.cast (List.length w2.2.1.Mem) : Int)))) && (decide ((Min.min (IntKind.wrap IntKind.i64 (Int.tdiv w2.1.2.1 (2 : Int))) (Nat.cast (List.length w2.2.1.Mem) : Int)) ≤ (Nat.cast (List.length w2.2.1.Mem) : Int))))) then some ((List.drop (Int.toNat (IntKind.wrap IntKind.i64 (Int.tdiv w2.1.1 (2 : Int)))) (List.take (Int.toNat (Min.min (IntKind.wrap IntKind.i64 (Int.tdiv w2.1.2.1 (2 : Int))) (Nat.cast (List.length w2.2.1.Mem) : Int))) w2.2.1.Mem)), ())
      else none
    | .brk2 w3 => none
    | .ret w4 => none
  | none => none

def X.slices_Clone (a : List Int) : Option ((List Int) × Unit) :=
  bif (capOK (0 + (List.length a)) 8) then some ((HAppend.hAppend (List.nil) a), ())
  else none

def X.translate_Block_b4 (x : (((List Int) × Int × Unit) × (M.Block × M.Block × Unit))) : Option (Out (((List Int) × Int × Unit) × (M.Block × M.Block × Unit)) ((Unit) × (M.Block × M.Block × Unit)) ((Unit) × (Unit)) ((Unit) × (Unit))) :=
  bif (decide ((Nat.cast (List.length x.2.2.1.Code) : Int) < (16 : Int))) then match (X.inst_Decode x.1.1) with
    | some y0 => bif (y0.2.1 == (0 : Int)) then some (Out.brk ((), (x.2.1, ((⟨x.2.2.1.Start, x.2.2.1.Code⟩ : M.Block), ()))))
      else match (X.inst_Ends y0.1) with
      | some y1 => bif y1.1 then bif ((decide ((0 : Int) ≤ (0 : Int))) && ((decide ((0 : Int) ≤ y0.2.1)) && (decide (y0.2.1 ≤ (Nat.cast (List.length x.1.1) : Int))))) then match (X.slices_Clone (List.drop (0 : Nat) (List.take (Int.toNat y0.2.1) x.1.1))) with
            | some y2 => bif (capOK ((List.length x.2.2.1.Code) + (List.length (List.cons (⟨x.1.2.1, y2.1, y0.1⟩ : M.Micro) (List.nil)))) 112) then some (Out.brk ((), (x.2.1, ((⟨x.2.2.1.Start, (HAppend.hAppend x.2.2.1.Code (List.cons (⟨x.1.2.1, y2.1, y0.1⟩ : M.Micro) (List.nil)))⟩ : M.Block), ()))))
              else none
            | none => none
          else none
        else bif ((decide ((0 : Int) ≤ (0 : Int))) && ((decide ((0 : Int) ≤ y0.2.1)) && (decide (y0.2.1 ≤ (Nat.cast (List.length x.1.1) : Int))))) then match (X.slices_Clone (List.drop (0 : Nat) (List.take (Int.toNat y0.2.1) x.1.1))) with
          | some y3 => bif (capOK ((List.length x.2.2.1.Code) + (List.length (List.cons (⟨x.1.2.1, y3.1, y0.1⟩ : M.Micro) (List.nil)))) 112) then bif ((decide ((0 : Int) ≤ y0.2.1)) && ((decide (y0.2.1 ≤ (Nat.cast (List.length x.1.1) : Int))) && (decide ((Nat.cast (List.length x.1.1) : Int) ≤ (Nat.cast (List.length x.1.1) : Int))))) then some (Out.next (((List.drop (Int.toNat y0.2.1) (List.take (Int.toNat (Nat.cast (List.length x.1.1) : Int)) x.1.1)), ((IntKind.wrap IntKind.i64 (x.1.2.1 + (IntKind.wrap IntKind.i64 ((2 : Int) * y0.2.1)))), ())), (x.2.1, ((⟨x.2.2.1.Start, (HAppend.hAppend x.2.2.1.Code (List.cons (⟨x.1.2.1, y3.1, y0.1⟩ : M.Micro) (List.nil)))⟩ : M.Block), ()))))
              else none
            else none
          | none => none
        else none
      | none => none
    | none => none
  else some (Out.brk ((), (x.2.1, ((⟨x.2.2.1.Start, x.2.2.1.Code⟩ : M.Block), ()))))

def X.translate_Block_l4 (x : (((List Int) × Int × Unit) × (M.Block × M.Block × Unit))) : Option (Out (((List Int) × Int × Unit) × (M.Block × M.Block × Unit)) ((Unit) × (M.Block × M.Block × Unit)) ((Unit) × (Unit)) ((Unit) × (Unit))) := iterO X.translate_Block_b4 (100 + List.length x.1.1 + Int.toNat x.1.2.1 + List.length x.2.1.Code + List.length x.2.2.1.Code) x

def X.translate_Block (a : M.Machine) (b : Int) : Option (M.Block × Unit) :=
  match (X.translate_upTo a b) with
  | some y0 => match (X.translate_Block_l4 ((y0.1, (b, Unit.unit)), ((⟨(0 : Int), (List.nil)⟩ : M.Block), ((⟨b, (List.nil)⟩ : M.Block), Unit.unit)))) with
    | some y1 => match y1 with
      | .next w2 => none
      | .brk w3 => bif ((Nat.cast (List.length w3.2.2.1.Code) : Int) == (0 : Int)) then some ((⟨(0 : Int), (List.nil)⟩ : M.Block), ())
        else some ((⟨w3.2.2.1.Start, w3.2.2.1.Code⟩ : M.Block), ())
      | .brk2 w4 => none
      | .ret w5 => none
    | none => none
  | none => none

def X.L21_Memory_machine (a : M.Emulatorlaw21_Memory) : M.Machine :=
  (⟨(⟨(Vector.replicate 6 (0 : Int)), (Vector.replicate 2 (0 : Int)), (0 : Int), (0 : Int)⟩ : M.Cpu), a.Mem, a.Bad, (⟨false, (Vector.replicate 2 (Vector.replicate 8 M.Page.zero)), (0 : Int), (0 : Int)⟩ : M.Mmu), (⟨false, false, (0 : Int), (0 : Int)⟩ : M.Clock), (List.nil), (⟨(⟨(List.nil), (List.nil)⟩ : M.Drive), false, false, false, (0 : Int), (0 : Int), (0 : Int), (0 : Int), (0 : Int)⟩ : M.Disk), (⟨(List.nil), (0 : Int), false, false, false, false, false, (0 : Int), (0 : Int), (0 : Int), (0 : Int)⟩ : M.Tape), (0 : Int), false, false, (0 : Int), false⟩ : M.Machine)

def X.L21_example  : M.Emulatorlaw21_Memory :=
  (⟨(List.set (List.set (List.set (List.set (List.set (List.set (List.set (List.replicate (128 : Nat) (dflt (Ty.int IntKind.i64))) (0 : Nat) (5569 : Int)) (1 : Nat) (5 : Int)) (2 : Nat) (160 : Int)) (3 : Nat) (511 : Int)) (4 : Nat) (160 : Int)) (31 : Nat) (5569 : Int)) (32 : Nat) (5 : Int)), (List.nil)⟩ : M.Emulatorlaw21_Memory)

def X.L21_alive  : Option (Bool × Unit) :=
  match (X.translate_Block (X.L21_Memory_machine X.L21_example) (0 : Int)) with
  | some y0 => match (X.translate_Block (X.L21_Memory_machine X.L21_example) (2 : Int)) with
    | some y1 => match (X.translate_Block (X.L21_Memory_machine X.L21_example) (62 : Int)) with
      | some y2 => match (X.translate_Block (X.L21_Memory_machine (⟨X.L21_example.Mem, (List.cons (4 : Int) (List.nil))⟩ : M.Emulatorlaw21_Memory)) (0 : Int)) with
        | some y3 => match (X.translate_Block (X.L21_Memory_machine (⟨X.L21_example.Mem, (List.cons (4 : Int) (List.nil))⟩ : M.Emulatorlaw21_Memory)) (4 : Int)) with
          | some y4 => bif ((Nat.cast (List.length y0.1.Code) : Int) != (3 : Int)) then some (false, ())
            else bif ((decide ((0 : Int) ≤ (1 : Int))) && (decide ((1 : Int) < (Nat.cast (List.length y0.1.Code) : Int)))) then bif ((List.getD y0.1.Code (1 : Nat) (dflt (Ty.st SId.sMicro))).At != (4 : Int)) then some (false, ())
              else bif ((decide ((0 : Int) ≤ (2 : Int))) && (decide ((2 : Int) < (Nat.cast (List.length y0.1.Code) : Int)))) then bif ((List.getD y0.1.Code (2 : Nat) (dflt (Ty.st SId.sMicro))).Inst.Num != (-1 : Int)) then some (false, ())
                else bif ((Nat.cast (List.length y1.1.Code) : Int) != (1 : Int)) then some (false, ())
                else bif ((decide ((0 : Int) ≤ (0 : Int))) && (decide ((0 : Int) < (Nat.cast (List.length y1.1.Code) : Int)))) then bif ((List.getD y1.1.Code (0 : Nat) (dflt (Ty.st SId.sMicro))).Inst.Op != (52 : Int)) then some (false, ())
                  else bif ((Nat.cast (List.length y2.1.Code) : Int) == (0 : Int)) then bif ((Nat.cast (List.length y3.1.Code) : Int) == (1 : Int)) then bif ((decide ((0 : Int) ≤ (0 : Int))) && (decide ((0 : Int) < (Nat.cast (List.length y3.1.Code) : Int)))) then bif ((Nat.cast (List.length (List.getD y3.1.Code (0 : Nat) (dflt (Ty.st SId.sMicro))).Words) : Int) == (2 : Int)) then some (((Nat.cast (List.length y4.1.Code) : Int) == (0 : Int)), ())
                        else some (false, ())
                      else none
                    else some (false, ())
                  else some (false, ())
                else none
              else none
            else none
          | none => none
        | none => none
      | none => none
    | none => none
  | none => none

def X.R21_SameMicro_b4 (x : ((Int × Unit) × (M.Micro × M.Micro × Unit))) : Option (Out ((Int × Unit) × (M.Micro × M.Micro × Unit)) ((Unit) × (Unit)) ((Unit) × (Unit)) ((Bool × Unit) × (Unit))) :=
  bif (decide (x.1.1 < (Nat.cast (List.length x.2.1.Words) : Int))) then bif ((decide ((0 : Int) ≤ x.1.1)) && (decide (x.1.1 < (Nat.cast (List.length x.2.1.Words) : Int)))) then bif ((decide ((0 : Int) ≤ x.1.1)) && (decide (x.1.1 < (Nat.cast (List.length x.2.2.1.Words) : Int)))) then bif ((List.getD x.2.1.Words (Int.toNat x.1.1) (dflt (Ty.int IntKind.i64))) != (List.getD x.2.2.1.Words (Int.toNat x.1.1) (dflt (Ty.int IntKind.i64)))) then some (Out.ret ((false, ()), ()))
        else some (Out.next (((IntKind.wrap IntKind.i64 (x.1.1 + (1 : Int))), ()), (x.2.1, (x.2.2.1, ()))))
      else none
    else none
  else some (Out.brk ((), ()))

def X.R21_SameMicro_l4 (x : ((Int × Unit) × (M.Micro × M.Micro × Unit))) : Option (Out ((Int × Unit) × (M.Micro × M.Micro × Unit)) ((Unit) × (Unit)) ((Unit) × (Unit)) ((Bool × Unit) × (Unit))) := iterO X.R21_SameMicro_b4 (100 + Int.toNat x.1.1 + List.length x.2.1.Words + List.length x.2.2.1.Words) x

def X.R21_SameMicro (a : M.Micro) (b : M.Micro) : Option (Bool × Unit) :=
  bif (bif (a.At != b.At) then true else (bif (!(vEqB (Ty.st SId.sInst) a.Inst b.Inst)) then true else ((Nat.cast (List.length a.Words) : Int) != (Nat.cast (List.length b.Words) : Int)))) then some (false, ())
  else match (X.R21_SameMicro_l4 (((0 : Int), Unit.unit), (a, (b, Unit.unit)))) with
  | some y0 => match y0 with
    | .next w1 => none
    | .brk w2 => some (true, ())
    | .brk2 w3 => none
    | .ret w4 => some (w4.1.1, ())
  | none => none

def X.R21_SameBlock_b4 (x : ((Int × Unit) × (M.Block × M.Block × Unit))) : Option (Out ((Int × Unit) × (M.Block × M.Block × Unit)) ((Unit) × (Unit)) ((Unit) × (Unit)) ((Bool × Unit) × (Unit))) :=
  bif (decide (x.1.1 < (Nat.cast (List.length x.2.1.Code) : Int))) then bif ((decide ((0 : Int) ≤ x.1.1)) && (decide (x.1.1 < (Nat.cast (List.length x.2.1.Code) : Int)))) then bif ((decide ((0 : Int) ≤ x.1.1)) && (decide (x.1.1 < (Nat.cast (List.length x.2.2.1.Code) : Int)))) then match (X.R21_SameMicro (List.getD x.2.1.Code (Int.toNat x.1.1) (dflt (Ty.st SId.sMicro))) (List.getD x.2.2.1.Code (Int.toNat x.1.1) (dflt (Ty.st SId.sMicro)))) with
        | some y0 => bif (!y0.1) then some (Out.ret ((false, ()), ()))
          else some (Out.next (((IntKind.wrap IntKind.i64 (x.1.1 + (1 : Int))), ()), (x.2.1, (x.2.2.1, ()))))
        | none => none
      else none
    else none
  else some (Out.brk ((), ()))

def X.R21_SameBlock_l4 (x : ((Int × Unit) × (M.Block × M.Block × Unit))) : Option (Out ((Int × Unit) × (M.Block × M.Block × Unit)) ((Unit) × (Unit)) ((Unit) × (Unit)) ((Bool × Unit) × (Unit))) := iterO X.R21_SameBlock_b4 (100 + Int.toNat x.1.1 + List.length x.2.1.Code + List.length x.2.2.1.Code) x

def X.R21_SameBlock (a : M.Block) (b : M.Block) : Option (Bool × Unit) :=
  bif (bif (a.Start != b.Start) then true else ((Nat.cast (List.length a.Code) : Int) != (Nat.cast (List.length b.Code) : Int))) then some (false, ())
  else match (X.R21_SameBlock_l4 (((0 : Int), Unit.unit), (a, (b, Unit.unit)))) with
  | some y0 => match y0 with
    | .next w1 => none
    | .brk w2 => some (true, ())
    | .brk2 w3 => none
    | .ret w4 => some (w4.1.1, ())
  | none => none

def X.R21_inside (a : M.Machine) (b : Int) : Bool :=
  (bif (decide (b ≥ (0 : Int))) then (bif ((Int.tmod b (2 : Int)) == (0 : Int)) then (decide ((IntKind.wrap IntKind.i64 (Int.tdiv b (2 : Int))) < (Nat.cast (List.length a.Mem) : Int))) else false) else false)

def X.R21_has_b2 (x : (((List Int) × Int × Int × Unit) × (Unit))) : Option (Out (((List Int) × Int × Int × Unit) × (Unit)) ((Unit) × (Unit)) ((Unit) × (Unit)) ((Bool × Unit) × (Unit))) :=
  bif (decide (x.1.2.2.1 < (Nat.cast (List.length x.1.1) : Int))) then bif ((decide ((0 : Int) ≤ x.1.2.2.1)) && (decide (x.1.2.2.1 < (Nat.cast (List.length x.1.1) : Int)))) then bif ((List.getD x.1.1 (Int.toNat x.1.2.2.1) (dflt (Ty.int IntKind.i64))) == x.1.2.1) then some (Out.ret ((true, ()), ()))
      else some (Out.next ((x.1.1, (x.1.2.1, ((IntKind.wrap IntKind.i64 (x.1.2.2.1 + (1 : Int))), ()))), ()))
    else none
  else some (Out.brk ((), ()))

def X.R21_has_l2 (x : (((List Int) × Int × Int × Unit) × (Unit))) : Option (Out (((List Int) × Int × Int × Unit) × (Unit)) ((Unit) × (Unit)) ((Unit) × (Unit)) ((Bool × Unit) × (Unit))) := iterO X.R21_has_b2 (100 + List.length x.1.1 + Int.toNat x.1.2.1 + Int.toNat x.1.2.2.1) x

def X.R21_has (a : List Int) (b : Int) : Option (Bool × Unit) :=
  match (X.R21_has_l2 ((a, (b, ((0 : Int), Unit.unit))), Unit.unit)) with
  | some y0 => match y0 with
    | .next w1 => none
    | .brk w2 => some (false, ())
    | .brk2 w3 => none
    | .ret w4 => some (w4.1.1, ())
  | none => none

def X.R21_words_b3 (x : ((Int × (List Int) × Int × Unit) × (M.Machine × Unit))) : Option (Out ((Int × (List Int) × Int × Unit) × (M.Machine × Unit)) (((List Int) × Unit) × (Unit)) ((Unit) × (Unit)) ((Unit) × (Unit))) :=
  bif ((IntKind.wrap IntKind.i64 (Int.tdiv x.1.2.2.1 (64 : Int))) == (IntKind.wrap IntKind.i64 (Int.tdiv x.1.1 (64 : Int)))) then bif (decide ((IntKind.wrap IntKind.i64 (Int.tdiv x.1.2.2.1 (2 : Int))) < (Nat.cast (List.length x.2.1.Mem) : Int))) then match (X.R21_has x.2.1.Bad x.1.2.2.1) with
      | some y0 => bif (!y0.1) then bif ((decide ((0 : Int) ≤ (IntKind.wrap IntKind.i64 (Int.tdiv x.1.2.2.1 (2 : Int))))) && (decide ((IntKind.wrap IntKind.i64 (Int.tdiv x.1.2.2.1 (2 : Int))) < (Nat.cast (List.length x.2.1.Mem) : Int)))) then bif (capOK ((List.length x.1.2.1) + (List.length (List.cons (List.getD x.2.1.Mem (Int.toNat (IntKind.wrap IntKind.i64 (Int.tdiv x.1.2.2.1 (2 : Int)))) (dflt (Ty.int IntKind.i64))) (List.nil)))) 8) then some (Out.next ((x.1.1, ((HAppend.hAppend x.1.2.1 (List.cons (List.getD x.2.1.Mem (Int.toNat (IntKind.wrap IntKind.i64 (Int.tdiv x.1.2.2.1 (2 : Int)))) (dflt (Ty.int IntKind.i64))) (List.nil))), ((IntKind.wrap IntKind.i64 (x.1.2.2.1 + (2 : Int))), ()))), (x.2.1, ())))
            else none
          else none
        else some (Out.brk ((x.1.2.1, ()), ()))
      | none => none
    else some (Out.brk ((x.1.2.1, ()), ()))
  else some (Out.brk ((x.1.2.1, ()), ()))

def X.R21_words_l3 (x : ((Int × (List Int) × Int × Unit) × (M.Machine × Unit))) : Option (Out ((Int × (List Int) × Int × Unit) × (M.Machine × Unit)) (((List Int) × Unit) × (Unit)) ((Unit) × (Unit)) ((Unit) × (Unit))) := iterO X.R21_words_b3 (100 + Int.toNat x.1.1 + List.length x.1.2.1 + Int.toNat x.1.2.2.1 + List.length x.2.1.Mem + List.length x.2.1.Bad + List.length x.2.1.Lines + List.length x.2.1.Tape.Records) x

def X.R21_words (a : M.Machine) (b : Int) : Option ((List Int) × Unit) :=
  match (X.R21_words_l3 ((b, ((List.nil), (b, Unit.unit))), (a, Unit.unit))) with
  | some y0 => match y0 with
    | .next w1 => none
    | .brk w2 => some (w2.1.1, ())
    | .brk2 w3 => none
    | .ret w4 => none
  | none => none

def X.R21_Block_b6 (x : ((Int × (List Int) × Int × Unit) × (M.Block × M.Block × Unit))) : Option (Out ((Int × (List Int) × Int × Unit) × (M.Block × M.Block × Unit)) ((Unit) × (M.Block × M.Block × Unit)) ((Unit) × (Unit)) ((Unit) × (Unit))) :=
  bif (decide ((Nat.cast (List.length x.2.2.1.Code) : Int) < (16 : Int))) then bif ((decide ((0 : Int) ≤ x.1.2.2.1)) && ((decide (x.1.2.2.1 ≤ (Nat.cast (List.length x.1.2.1) : Int))) && (decide ((Nat.cast (List.length x.1.2.1) : Int) ≤ (Nat.cast (List.length x.1.2.1) : Int))))) then match (X.R06_Decode (List.drop (Int.toNat x.1.2.2.1) (List.take (Int.toNat (Nat.cast (List.length x.1.2.1) : Int)) x.1.2.1))) with
      | some y0 => bif (y0.2.1 == (0 : Int)) then some (Out.brk ((), (x.2.1, ((⟨x.2.2.1.Start, x.2.2.1.Code⟩ : M.Block), ()))))
        else bif ((decide ((0 : Int) ≤ x.1.2.2.1)) && ((decide (x.1.2.2.1 ≤ (IntKind.wrap IntKind.i64 (x.1.2.2.1 + y0.2.1)))) && (decide ((IntKind.wrap IntKind.i64 (x.1.2.2.1 + y0.2.1)) ≤ (Nat.cast (List.length x.1.2.1) : Int))))) then bif (capOK (0 + (List.length (List.drop (Int.toNat x.1.2.2.1) (List.take (Int.toNat (IntKind.wrap IntKind.i64 (x.1.2.2.1 + y0.2.1))) x.1.2.1)))) 8) then bif (capOK ((List.length x.2.2.1.Code) + (List.length (List.cons (⟨(IntKind.wrap IntKind.i64 (x.1.1 + (IntKind.wrap IntKind.i64 ((2 : Int) * x.1.2.2.1)))), (HAppend.hAppend (List.nil) (List.drop (Int.toNat x.1.2.2.1) (List.take (Int.toNat (IntKind.wrap IntKind.i64 (x.1.2.2.1 + y0.2.1))) x.1.2.1))), y0.1⟩ : M.Micro) (List.nil)))) 112) then bif (X.R06_Ends y0.1) then some (Out.brk ((), (x.2.1, ((⟨x.2.2.1.Start, (HAppend.hAppend x.2.2.1.Code (List.cons (⟨(IntKind.wrap IntKind.i64 (x.1.1 + (IntKind.wrap IntKind.i64 ((2 : Int) * x.1.2.2.1)))), (HAppend.hAppend (List.nil) (List.drop (Int.toNat x.1.2.2.1) (List.take (Int.toNat (IntKind.wrap IntKind.i64 (x.1.2.2.1 + y0.2.1))) x.1.2.1))), y0.1⟩ : M.Micro) (List.nil)))⟩ : M.Block), ()))))
              else some (Out.next ((x.1.1, (x.1.2.1, ((IntKind.wrap IntKind.i64 (x.1.2.2.1 + y0.2.1)), ()))), (x.2.1, ((⟨x.2.2.1.Start, (HAppend.hAppend x.2.2.1.Code (List.cons (⟨(IntKind.wrap IntKind.i64 (x.1.1 + (IntKind.wrap IntKind.i64 ((2 : Int) * x.1.2.2.1)))), (HAppend.hAppend (List.nil) (List.drop (Int.toNat x.1.2.2.1) (List.take (Int.toNat (IntKind.wrap IntKind.i64 (x.1.2.2.1 + y0.2.1))) x.1.2.1))), y0.1⟩ : M.Micro) (List.nil)))⟩ : M.Block), ()))))
            else none
          else none
        else none
      | none => none
    else none
  else some (Out.brk ((), (x.2.1, ((⟨x.2.2.1.Start, x.2.2.1.Code⟩ : M.Block), ()))))

def X.R21_Block_l6 (x : ((Int × (List Int) × Int × Unit) × (M.Block × M.Block × Unit))) : Option (Out ((Int × (List Int) × Int × Unit) × (M.Block × M.Block × Unit)) ((Unit) × (M.Block × M.Block × Unit)) ((Unit) × (Unit)) ((Unit) × (Unit))) := iterO X.R21_Block_b6 (100 + Int.toNat x.1.1 + List.length x.1.2.1 + Int.toNat x.1.2.2.1 + List.length x.2.1.Code + List.length x.2.2.1.Code) x

def X.R21_Block (a : M.Machine) (b : Int) : Option (M.Block × Unit) :=
  bif (!(X.R21_inside a b)) then some ((⟨(0 : Int), (List.nil)⟩ : M.Block), ())
  else match (X.R21_words a b) with
  | some y0 => match (X.R21_Block_l6 ((b, (y0.1, ((0 : Int), Unit.unit))), ((⟨(0 : Int), (List.nil)⟩ : M.Block), ((⟨b, (List.nil)⟩ : M.Block), Unit.unit)))) with
    | some y1 => match y1 with
      | .next w2 => none
      | .brk w3 => bif ((Nat.cast (List.length w3.2.2.1.Code) : Int) == (0 : Int)) then some ((⟨(0 : Int), (List.nil)⟩ : M.Block), ())
        else some ((⟨w3.2.2.1.Start, w3.2.2.1.Code⟩ : M.Block), ())
      | .brk2 w4 => none
      | .ret w5 => none
    | none => none
  | none => none

def X.L21_TranslateBlocks (a : M.Emulatorlaw21_Memory) (b : Int) : Option (Bool × Unit) :=
  match (X.L21_Memory_good a) with
  | some y0 => bif (!y0.1) then match X.L21_alive with
      | some y1 => some (y1.1, ())
      | none => none
    else match (X.translate_Block (X.L21_Memory_machine a) b) with
    | some y2 => match (X.R21_Block (X.L21_Memory_machine a) b) with
      | some y3 => match (X.R21_SameBlock y2.1 y3.1) with
        | some y4 => bif y4.1 then match X.L21_alive with
            | some y5 => some (y5.1, ())
            | none => none
          else some (false, ())
        | none => none
      | none => none
    | none => none
  | none => none

def X.L21_TranslateStops_b8 (x : ((Int × Int × Int × Unit) × (M.Emulatorlaw21_Memory × M.Block × Unit))) : Option (Out ((Int × Int × Int × Unit) × (M.Emulatorlaw21_Memory × M.Block × Unit)) ((Int × Int × Unit) × (M.Emulatorlaw21_Memory × M.Block × Unit)) ((Unit) × (Unit)) ((Bool × Unit) × (Unit))) :=
  bif (decide (x.1.2.2.1 < (Nat.cast (List.length x.2.2.1.Code) : Int))) then bif ((decide ((0 : Int) ≤ x.1.2.2.1)) && (decide (x.1.2.2.1 < (Nat.cast (List.length x.2.2.1.Code) : Int)))) then bif ((List.getD x.2.2.1.Code (Int.toNat x.1.2.2.1) (dflt (Ty.st SId.sMicro))).At != x.1.2.1) then some (Out.ret ((false, ()), ()))
      else bif ((decide ((0 : Int) ≤ x.1.2.2.1)) && (decide (x.1.2.2.1 < (Nat.cast (List.length x.2.2.1.Code) : Int)))) then bif (decide ((Nat.cast (List.length (List.getD x.2.2.1.Code (Int.toNat x.1.2.2.1) (dflt (Ty.st SId.sMicro))).Words) : Int) < (1 : Int))) then some (Out.ret ((false, ()), ()))
        else bif ((decide ((0 : Int) ≤ x.1.2.2.1)) && (decide (x.1.2.2.1 < (Nat.cast (List.length x.2.2.1.Code) : Int)))) then bif (decide (x.1.2.2.1 < (IntKind.wrap IntKind.i64 ((Nat.cast (List.length x.2.2.1.Code) : Int) - (1 : Int))))) then bif ((decide ((0 : Int) ≤ x.1.2.2.1)) && (decide (x.1.2.2.1 < (Nat.cast (List.length x.2.2.1.Code) : Int)))) then match (X.inst_Ends (List.getD x.2.2.1.Code (Int.toNat x.1.2.2.1) (dflt (Ty.st SId.sMicro))).Inst) with
              | some y0 => bif y0.1 then some (Out.ret ((false, ()), ()))
                else some (Out.next ((x.1.1, ((IntKind.wrap IntKind.i64 (x.1.2.1 + (IntKind.wrap IntKind.i64 ((2 : Int) * (Nat.cast (List.length (List.getD x.2.2.1.Code (Int.toNat x.1.2.2.1) (dflt (Ty.st SId.sMicro))).Words) : Int))))), ((IntKind.wrap IntKind.i64 (x.1.2.2.1 + (1 : Int))), ()))), (x.2.1, (x.2.2.1, ()))))
              | none => none
            else none
          else some (Out.next ((x.1.1, ((IntKind.wrap IntKind.i64 (x.1.2.1 + (IntKind.wrap IntKind.i64 ((2 : Int) * (Nat.cast (List.length (List.getD x.2.2.1.Code (Int.toNat x.1.2.2.1) (dflt (Ty.st SId.sMicro))).Words) : Int))))), ((IntKind.wrap IntKind.i64 (x.1.2.2.1 + (1 : Int))), ()))), (x.2.1, (x.2.2.1, ()))))
        else none
      else none
    else none
  else some (Out.brk ((x.1.1, (x.1.2.1, ())), (x.2.1, (x.2.2.1, ()))))

def X.L21_TranslateStops_l8 (x : ((Int × Int × Int × Unit) × (M.Emulatorlaw21_Memory × M.Block × Unit))) : Option (Out ((Int × Int × Int × Unit) × (M.Emulatorlaw21_Memory × M.Block × Unit)) ((Int × Int × Unit) × (M.Emulatorlaw21_Memory × M.Block × Unit)) ((Unit) × (Unit)) ((Bool × Unit) × (Unit))) := iterO X.L21_TranslateStops_b8 (100 + Int.toNat x.1.1 + Int.toNat x.1.2.1 + Int.toNat x.1.2.2.1 + List.length x.2.1.Mem + List.length x.2.1.Bad + List.length x.2.2.1.Code) x

def X.L21_TranslateStops (a : M.Emulatorlaw21_Memory) (b : Int) : Option (Bool × Unit) :=
  match (X.L21_Memory_good (⟨a.Mem, (List.nil)⟩ : M.Emulatorlaw21_Memory)) with
  | some y0 => bif (!y0.1) then match X.L21_alive with
      | some y1 => some (y1.1, ())
      | none => none
    else bif (!(decide ((IntKind.wrap IntKind.i64 ((2 : Int) * (Nat.cast (List.length a.Mem) : Int))) = (0 : Int)))) then match (X.translate_Block (X.L21_Memory_machine (⟨a.Mem, (List.nil)⟩ : M.Emulatorlaw21_Memory)) (IntKind.wrap IntKind.i64 ((IntKind.wrap IntKind.i64 (Int.tdiv (Int.tmod (IntKind.wrap IntKind.i64 b) (IntKind.wrap IntKind.i64 ((2 : Int) * (Nat.cast (List.length a.Mem) : Int)))) (2 : Int))) * (2 : Int)))) with
      | some y2 => match (X.L21_TranslateStops_l8 (((IntKind.wrap IntKind.i64 ((IntKind.wrap IntKind.i64 (Int.tdiv (Int.tmod (IntKind.wrap IntKind.i64 b) (IntKind.wrap IntKind.i64 ((2 : Int) * (Nat.cast (List.length a.Mem) : Int)))) (2 : Int))) * (2 : Int))), ((IntKind.wrap IntKind.i64 ((IntKind.wrap IntKind.i64 (Int.tdiv (Int.tmod (IntKind.wrap IntKind.i64 b) (IntKind.wrap IntKind.i64 ((2 : Int) * (Nat.cast (List.length a.Mem) : Int)))) (2 : Int))) * (2 : Int))), ((0 : Int), Unit.unit))), ((⟨a.Mem, (List.nil)⟩ : M.Emulatorlaw21_Memory), (y2.1, Unit.unit)))) with
        | some y3 => match y3 with
          | .next w4 => none
          | .brk w5 => bif (decide (w5.1.2.1 > (IntKind.wrap IntKind.i64 ((IntKind.wrap IntKind.i64 ((IntKind.wrap IntKind.i64 (Int.tdiv w5.1.1 (64 : Int))) * (64 : Int))) + (64 : Int))))) then some (false, ())
            else bif (w5.1.2.1 == (IntKind.wrap IntKind.i64 ((IntKind.wrap IntKind.i64 ((IntKind.wrap IntKind.i64 (Int.tdiv w5.1.1 (64 : Int))) * (64 : Int))) + (64 : Int)))) then match X.L21_alive with
              | some y6 => some (y6.1, ())
              | none => none
            else bif ((Nat.cast (List.length w5.2.2.1.Code) : Int) == (16 : Int)) then match X.L21_alive with
              | some y7 => some (y7.1, ())
              | none => none
            else bif (decide ((Nat.cast (List.length w5.2.2.1.Code) : Int) > (0 : Int))) then bif ((decide ((0 : Int) ≤ (IntKind.wrap IntKind.i64 ((Nat.cast (List.length w5.2.2.1.Code) : Int) - (1 : Int))))) && (decide ((IntKind.wrap IntKind.i64 ((Nat.cast (List.length w5.2.2.1.Code) : Int) - (1 : Int))) < (Nat.cast (List.length w5.2.2.1.Code) : Int)))) then match (X.inst_Ends (List.getD w5.2.2.1.Code (Int.toNat (IntKind.wrap IntKind.i64 ((Nat.cast (List.length w5.2.2.1.Code) : Int) - (1 : Int)))) (dflt (Ty.st SId.sMicro))).Inst) with
                | some y8 => bif y8.1 then match X.L21_alive with
                    | some y9 => some (y9.1, ())
                    | none => none
                  else bif ((decide ((0 : Int) ≤ (IntKind.wrap IntKind.i64 (Int.tdiv w5.1.2.1 (2 : Int))))) && ((decide ((IntKind.wrap IntKind.i64 (Int.tdiv w5.1.2.1 (2 : Int))) ≤ (IntKind.wrap IntKind.i64 (Int.tdiv (IntKind.wrap IntKind.i64 ((IntKind.wrap IntKind.i64 ((IntKind.wrap IntKind.i64 (Int.tdiv w5.1.1 (64 : Int))) * (64 : Int))) + (64 : Int))) (2 : Int))))) && (decide ((IntKind.wrap IntKind.i64 (Int.tdiv (IntKind.wrap IntKind.i64 ((IntKind.wrap IntKind.i64 ((IntKind.wrap IntKind.i64 (Int.tdiv w5.1.1 (64 : Int))) * (64 : Int))) + (64 : Int))) (2 : Int))) ≤ (Nat.cast (List.length w5.2.1.Mem) : Int))))) then match (X.R06_Decode (List.drop (Int.toNat (IntKind.wrap IntKind.i64 (Int.tdiv w5.1.2.1 (2 : Int)))) (List.take (Int.toNat (IntKind.wrap IntKind.i64 (Int.tdiv (IntKind.wrap IntKind.i64 ((IntKind.wrap IntKind.i64 ((IntKind.wrap IntKind.i64 (Int.tdiv w5.1.1 (64 : Int))) * (64 : Int))) + (64 : Int))) (2 : Int)))) w5.2.1.Mem))) with
                    | some y10 => bif (y10.2.1 == (0 : Int)) then match X.L21_alive with
                        | some y11 => some (y11.1, ())
                        | none => none
                      else some (false, ())
                    | none => none
                  else none
                | none => none
              else none
            else bif ((decide ((0 : Int) ≤ (IntKind.wrap IntKind.i64 (Int.tdiv w5.1.2.1 (2 : Int))))) && ((decide ((IntKind.wrap IntKind.i64 (Int.tdiv w5.1.2.1 (2 : Int))) ≤ (IntKind.wrap IntKind.i64 (Int.tdiv (IntKind.wrap IntKind.i64 ((IntKind.wrap IntKind.i64 ((IntKind.wrap IntKind.i64 (Int.tdiv w5.1.1 (64 : Int))) * (64 : Int))) + (64 : Int))) (2 : Int))))) && (decide ((IntKind.wrap IntKind.i64 (Int.tdiv (IntKind.wrap IntKind.i64 ((IntKind.wrap IntKind.i64 ((IntKind.wrap IntKind.i64 (Int.tdiv w5.1.1 (64 : Int))) * (64 : Int))) + (64 : Int))) (2 : Int))) ≤ (Nat.cast (List.length w5.2.1.Mem) : Int))))) then match (X.R06_Decode (List.drop (Int.toNat (IntKind.wrap IntKind.i64 (Int.tdiv w5.1.2.1 (2 : Int)))) (List.take (Int.toNat (IntKind.wrap IntKind.i64 (Int.tdiv (IntKind.wrap IntKind.i64 ((IntKind.wrap IntKind.i64 ((IntKind.wrap IntKind.i64 (Int.tdiv w5.1.1 (64 : Int))) * (64 : Int))) + (64 : Int))) (2 : Int)))) w5.2.1.Mem))) with
              | some y12 => bif (y12.2.1 == (0 : Int)) then match X.L21_alive with
                  | some y13 => some (y13.1, ())
                  | none => none
                else some (false, ())
              | none => none
            else none
          | .brk2 w14 => none
          | .ret w15 => some (w15.1.1, ())
        | none => none
      | none => none
    else none
  | none => none

def X.slices_Equal_b4 (x : (((List Int) × (List Int) × Int × Int × Unit) × (Unit))) : Option (Out (((List Int) × (List Int) × Int × Int × Unit) × (Unit)) ((Unit) × (Unit)) ((Unit) × (Unit)) ((Bool × Unit) × (Unit))) :=
  bif (decide (x.1.2.2.2.1 < x.1.2.2.1)) then bif ((decide ((0 : Int) ≤ x.1.2.2.2.1)) && (decide (x.1.2.2.2.1 < (Nat.cast (List.length x.1.1) : Int)))) then bif ((decide ((0 : Int) ≤ x.1.2.2.2.1)) && (decide (x.1.2.2.2.1 < (Nat.cast (List.length x.1.2.1) : Int)))) then bif ((List.getD x.1.1 (Int.toNat x.1.2.2.2.1) (dflt (Ty.int IntKind.i64))) != (List.getD x.1.2.1 (Int.toNat x.1.2.2.2.1) (dflt (Ty.int IntKind.i64)))) then some (Out.ret ((false, ()), ()))
        else some (Out.next ((x.1.1, (x.1.2.1, (x.1.2.2.1, ((IntKind.wrap IntKind.i64 (x.1.2.2.2.1 + (1 : Int))), ())))), ()))
      else none
    else none
  else some (Out.brk ((), ()))

def X.slices_Equal_l4 (x : (((List Int) × (List Int) × Int × Int × Unit) × (Unit))) : Option (Out (((List Int) × (List Int) × Int × Int × Unit) × (Unit)) ((Unit) × (Unit)) ((Unit) × (Unit)) ((Bool × Unit) × (Unit))) := iterO X.slices_Equal_b4 (100 + List.length x.1.1 + List.length x.1.2.1 + Int.toNat x.1.2.2.1 + Int.toNat x.1.2.2.2.1) x

def X.slices_Equal (a : List Int) (b : List Int) : Option (Bool × Unit) :=
  bif ((Nat.cast (List.length a) : Int) != (Nat.cast (List.length b) : Int)) then some (false, ())
  else match (X.slices_Equal_l4 ((a, (b, ((Nat.cast (List.length a) : Int), ((0 : Int), Unit.unit)))), Unit.unit)) with
  | some y0 => match y0 with
    | .next w1 => none
    | .brk w2 => some (true, ())
    | .brk2 w3 => none
    | .ret w4 => some (w4.1.1, ())
  | none => none

def X.Fresh_1 (a : Int) (b : M.Micro) (c : Int) : Option ((Bool × Unit) × (M.Micro × Int × Unit)) :=
  bif (decide (a ≥ b.At)) then some (((decide (a < (Go.IntKind.wrap Go.IntKind.i64 (b.At + (Go.IntKind.wrap Go.IntKind.i64 ((2 : Int) * c)))))), Unit.unit), b, c, ())
  else some ((false, Unit.unit), b, c, ())

def X.IndexFunc_b2 (x : (((List Int) × Int × Int × Unit) × (M.Micro × Int × Unit))) : Option (Out (((List Int) × Int × Int × Unit) × (M.Micro × Int × Unit)) ((Unit) × (M.Micro × Int × Unit)) ((Unit) × (Unit)) ((Int × Unit) × (M.Micro × Int × Unit))) :=
  bif (decide (x.1.2.2.1 < x.1.2.1)) then bif ((decide ((0 : Int) ≤ x.1.2.2.1)) && (decide (x.1.2.2.1 < (Nat.cast (List.length x.1.1) : Int)))) then match (X.Fresh_1 (List.getD x.1.1 (Int.toNat x.1.2.2.1) (dflt (Ty.int IntKind.i64))) x.2.1 x.2.2.1) with
      | some y0 => bif y0.1.1 then some (Out.ret ((x.1.2.2.1, ()), (y0.2.1, (y0.2.2.1, ()))))
        else some (Out.next ((x.1.1, (x.1.2.1, ((IntKind.wrap IntKind.i64 (x.1.2.2.1 + (1 : Int))), ()))), (y0.2.1, (y0.2.2.1, ()))))
      | none => none
    else none
  else some (Out.brk ((), (x.2.1, (x.2.2.1, ()))))

def X.IndexFunc_l2 (x : (((List Int) × Int × Int × Unit) × (M.Micro × Int × Unit))) : Option (Out (((List Int) × Int × Int × Unit) × (M.Micro × Int × Unit)) ((Unit) × (M.Micro × Int × Unit)) ((Unit) × (Unit)) ((Int × Unit) × (M.Micro × Int × Unit))) := iterO X.IndexFunc_b2 (100 + List.length x.1.1) x

def X.IndexFunc (a : List Int) (b : M.Micro) (c : Int) : Option ((Int × Unit) × (M.Micro × Int × Unit)) :=
  match (X.IndexFunc_l2 ((a, ((Nat.cast (List.length a) : Int), ((0 : Int), Unit.unit))), (b, (c, Unit.unit)))) with
  | some y0 => match y0 with
    | .next w1 => none
    | .brk w2 => some (((-1 : Int), Unit.unit), w2.2.1, w2.2.2.1, ())
    | .brk2 w3 => none
    | .ret w4 => some ((w4.1.1, Unit.unit), w4.2.1, w4.2.2.1, ())
  | none => none

def X.ContainsFunc (a : List Int) (b : M.Micro) (c : Int) : Option ((Bool × Unit) × (M.Micro × Int × Unit)) :=
  match (X.IndexFunc a b c) with
  | some y0 => some (((decide (y0.1.1 ≥ (0 : Int))), Unit.unit), y0.2.1, y0.2.2.1, ())
  | none => none

def X.translate_Fresh (a : M.Machine) (b : M.Micro) : Option (Bool × Unit) :=
  bif (decide (b.At < (0 : Int))) then some (false, ())
  else bif ((Int.tmod b.At (2 : Int)) != (0 : Int)) then some (false, ())
  else bif (decide ((IntKind.wrap IntKind.i64 (Int.tdiv b.At (2 : Int))) > (Nat.cast (List.length a.Mem) : Int))) then some (false, ())
  else bif (decide ((Nat.cast (List.length b.Words) : Int) > (IntKind.wrap IntKind.i64 ((Nat.cast (List.length a.Mem) : Int) - (IntKind.wrap IntKind.i64 (Int.tdiv b.At (2 : Int))))))) then some (false, ())
  else bif ((decide ((0 : Int) ≤ (IntKind.wrap IntKind.i64 (Int.tdiv b.At (2 : Int))))) && ((decide ((IntKind.wrap IntKind.i64 (Int.tdiv b.At (2 : Int))) ≤ (Nat.cast (List.length a.Mem) : Int))) && (decide ((Nat.cast (List.length a.Mem) : Int) ≤ (Nat.cast (List.length a.Mem) : Int))))) then bif ((decide ((0 : Int) ≤ (0 : Int))) && ((decide ((0 : Int) ≤ (Nat.cast (List.length b.Words) : Int))) && (decide ((Nat.cast (List.length b.Words) : Int) ≤ (Nat.cast (List.length (List.drop (Int.toNat (IntKind.wrap IntKind.i64 (Int.tdiv b.At (2 : Int)))) (List.take (Int.toNat (Nat.cast (List.length a.Mem) : Int)) a.Mem))) : Int))))) then match (X.slices_Equal (List.drop (0 : Nat) (List.take (Int.toNat (Nat.cast (List.length b.Words) : Int)) (List.drop (Int.toNat (IntKind.wrap IntKind.i64 (Int.tdiv b.At (2 : Int)))) (List.take (Int.toNat (Nat.cast (List.length a.Mem) : Int)) a.Mem)))) b.Words) with
      | some y0 => bif (!y0.1) then some (false, ())
        else match (X.ContainsFunc a.Bad b (Nat.cast (List.length b.Words) : Int)) with
        | some y1 => bif y1.1.1 then some (false, ())
          else match (X.inst_Decode y1.2.1.Words) with
          | some y2 => some ((bif (decide (y2.2.1 > (0 : Int))) then (bif (y2.2.1 == y1.2.2.1) then (vEqB (Ty.st SId.sInst) y2.1 y1.2.1.Inst) else false) else false), ())
          | none => none
        | none => none
      | none => none
    else none
  else none

def X.R21_Fresh_b4 (x : ((Int × Unit) × (M.Machine × M.Micro × Unit))) : Option (Out ((Int × Unit) × (M.Machine × M.Micro × Unit)) ((Unit) × (M.Micro × Unit)) ((Unit) × (Unit)) ((Bool × Unit) × (Unit))) :=
  bif (decide (x.1.1 < (Nat.cast (List.length x.2.2.1.Words) : Int))) then bif ((decide ((0 : Int) ≤ (IntKind.wrap IntKind.i64 ((IntKind.wrap IntKind.i64 (Int.tdiv x.2.2.1.At (2 : Int))) + x.1.1)))) && (decide ((IntKind.wrap IntKind.i64 ((IntKind.wrap IntKind.i64 (Int.tdiv x.2.2.1.At (2 : Int))) + x.1.1)) < (Nat.cast (List.length x.2.1.Mem) : Int)))) then bif ((decide ((0 : Int) ≤ x.1.1)) && (decide (x.1.1 < (Nat.cast (List.length x.2.2.1.Words) : Int)))) then bif ((List.getD x.2.1.Mem (Int.toNat (IntKind.wrap IntKind.i64 ((IntKind.wrap IntKind.i64 (Int.tdiv x.2.2.1.At (2 : Int))) + x.1.1))) (dflt (Ty.int IntKind.i64))) != (List.getD x.2.2.1.Words (Int.toNat x.1.1) (dflt (Ty.int IntKind.i64)))) then some (Out.ret ((false, ()), ()))
        else match (X.R21_has x.2.1.Bad (IntKind.wrap IntKind.i64 (x.2.2.1.At + (IntKind.wrap IntKind.i64 ((2 : Int) * x.1.1))))) with
        | some y0 => bif y0.1 then some (Out.ret ((false, ()), ()))
          else some (Out.next (((IntKind.wrap IntKind.i64 (x.1.1 + (1 : Int))), ()), (x.2.1, (x.2.2.1, ()))))
        | none => none
      else none
    else none
  else some (Out.brk ((), (x.2.2.1, ())))

def X.R21_Fresh_l4 (x : ((Int × Unit) × (M.Machine × M.Micro × Unit))) : Option (Out ((Int × Unit) × (M.Machine × M.Micro × Unit)) ((Unit) × (M.Micro × Unit)) ((Unit) × (Unit)) ((Bool × Unit) × (Unit))) := iterO X.R21_Fresh_b4 (100 + Int.toNat x.1.1 + List.length x.2.1.Mem + List.length x.2.1.Bad + List.length x.2.1.Lines + List.length x.2.1.Tape.Records + List.length x.2.2.1.Words) x

def X.R21_Fresh (a : M.Machine) (b : M.Micro) : Option (Bool × Unit) :=
  bif (bif (!(X.R21_inside a b.At)) then true else (decide ((Nat.cast (List.length b.Words) : Int) > (IntKind.wrap IntKind.i64 ((Nat.cast (List.length a.Mem) : Int) - (IntKind.wrap IntKind.i64 (Int.tdiv b.At (2 : Int)))))))) then some (false, ())
  else match (X.R21_Fresh_l4 (((0 : Int), Unit.unit), (a, (b, Unit.unit)))) with
  | some y0 => match y0 with
    | .next w1 => none
    | .brk w2 => match (X.R06_Decode w2.2.1.Words) with
      | some y3 => some ((bif (decide (y3.2.1 > (0 : Int))) then (bif (y3.2.1 == (Nat.cast (List.length w2.2.1.Words) : Int)) then (vEqB (Ty.st SId.sInst) y3.1 w2.2.1.Inst) else false) else false), ())
      | none => none
    | .brk2 w4 => none
    | .ret w5 => some (w5.1.1, ())
  | none => none

def X.L21_TranslateFresh (a : M.Emulatorlaw21_Memory) (b : M.Micro) : Option (Bool × Unit) :=
  match (X.L21_Memory_good a) with
  | some y0 => bif (!y0.1) then match X.L21_alive with
      | some y1 => some (y1.1, ())
      | none => none
    else bif (decide ((Nat.cast (List.length b.Words) : Int) > (8 : Int))) then match X.L21_alive with
      | some y2 => some (y2.1, ())
      | none => none
    else match (X.translate_Fresh (X.L21_Memory_machine a) b) with
    | some y3 => match (X.R21_Fresh (X.L21_Memory_machine a) b) with
      | some y4 => bif (y3.1 == y4.1) then match X.L21_alive with
          | some y5 => some (y5.1, ())
          | none => none
        else some (false, ())
      | none => none
    | none => none
  | none => none

def X.L21_few_b4 (x : ((Int × Unit) × (M.Block × Unit))) : Option (Out ((Int × Unit) × (M.Block × Unit)) ((Unit) × (Unit)) ((Unit) × (Unit)) ((Bool × Unit) × (Unit))) :=
  bif (decide (x.1.1 < (Nat.cast (List.length x.2.1.Code) : Int))) then bif ((decide ((0 : Int) ≤ x.1.1)) && (decide (x.1.1 < (Nat.cast (List.length x.2.1.Code) : Int)))) then bif (decide ((Nat.cast (List.length (List.getD x.2.1.Code (Int.toNat x.1.1) (dflt (Ty.st SId.sMicro))).Words) : Int) > (4 : Int))) then some (Out.ret ((false, ()), ()))
      else some (Out.next (((IntKind.wrap IntKind.i64 (x.1.1 + (1 : Int))), ()), (x.2.1, ())))
    else none
  else some (Out.brk ((), ()))

def X.L21_few_l4 (x : ((Int × Unit) × (M.Block × Unit))) : Option (Out ((Int × Unit) × (M.Block × Unit)) ((Unit) × (Unit)) ((Unit) × (Unit)) ((Bool × Unit) × (Unit))) := iterO X.L21_few_b4 (100 + Int.toNat x.1.1 + List.length x.2.1.Code) x

def X.L21_few (a : M.Block) : Option (Bool × Unit) :=
  bif (decide ((Nat.cast (List.length a.Code) : Int) > (20 : Int))) then some (false, ())
  else match (X.L21_few_l4 (((0 : Int), Unit.unit), (a, Unit.unit))) with
  | some y0 => match y0 with
    | .next w1 => none
    | .brk w2 => some (true, ())
    | .brk2 w3 => none
    | .ret w4 => some (w4.1.1, ())
  | none => none

def X.L21_small_b4 (x : ((Int × Unit) × (M.Cache × Unit))) : Option (Out ((Int × Unit) × (M.Cache × Unit)) ((Unit) × (Unit)) ((Unit) × (Unit)) ((Bool × Unit) × (Unit))) :=
  bif (decide (x.1.1 < (Nat.cast (List.length x.2.1.Blocks) : Int))) then bif ((decide ((0 : Int) ≤ x.1.1)) && (decide (x.1.1 < (Nat.cast (List.length x.2.1.Blocks) : Int)))) then match (X.L21_few (List.getD x.2.1.Blocks (Int.toNat x.1.1) (dflt (Ty.st SId.sBlock)))) with
      | some y0 => bif (!y0.1) then some (Out.ret ((false, ()), ()))
        else some (Out.next (((IntKind.wrap IntKind.i64 (x.1.1 + (1 : Int))), ()), (x.2.1, ())))
      | none => none
    else none
  else some (Out.brk ((), ()))

def X.L21_small_l4 (x : ((Int × Unit) × (M.Cache × Unit))) : Option (Out ((Int × Unit) × (M.Cache × Unit)) ((Unit) × (Unit)) ((Unit) × (Unit)) ((Bool × Unit) × (Unit))) := iterO X.L21_small_b4 (100 + Int.toNat x.1.1 + List.length x.2.1.Blocks) x

def X.L21_small (a : M.Cache) : Option (Bool × Unit) :=
  bif (bif (decide ((Nat.cast (List.length a.Blocks) : Int) > (70 : Int))) then true else (bif (decide (a.Dropped > (1000000000 : Int))) then true else (bif (decide (a.Made > (1000000000 : Int))) then true else (bif (decide (a.Used > (1000000000 : Int))) then true else (bif (decide (a.Dropped < (-1000000000 : Int))) then true else (decide (a.Made < (-1000000000 : Int)))))))) then some (false, ())
  else match (X.L21_small_l4 (((0 : Int), Unit.unit), (a, Unit.unit))) with
  | some y0 => match y0 with
    | .next w1 => none
    | .brk w2 => some (true, ())
    | .brk2 w3 => none
    | .ret w4 => some (w4.1.1, ())
  | none => none

def X.translate_Find_b5 (x : ((Int × (List M.Block) × Int × Int × (List M.Micro) × Int × Int × Unit) × (M.Micro × Unit))) : Option (Out ((Int × (List M.Block) × Int × Int × (List M.Micro) × Int × Int × Unit) × (M.Micro × Unit)) ((Int × (List M.Block) × Int × Int × Unit) × (M.Micro × Unit)) ((Unit) × (Unit)) ((Bool × Unit) × (M.Micro × Unit))) :=
  bif (decide (x.1.2.2.2.2.2.2.1 < x.1.2.2.2.2.2.1)) then bif ((decide ((0 : Int) ≤ x.1.2.2.2.2.2.2.1)) && (decide (x.1.2.2.2.2.2.2.1 < (Nat.cast (List.length x.1.2.2.2.2.1) : Int)))) then bif ((List.getD x.1.2.2.2.2.1 (Int.toNat x.1.2.2.2.2.2.2.1) (dflt (Ty.st SId.sMicro))).At == x.1.1) then some (Out.ret ((true, ()), ((List.getD x.1.2.2.2.2.1 (Int.toNat x.1.2.2.2.2.2.2.1) (dflt (Ty.st SId.sMicro))), ())))
      else some (Out.next ((x.1.1, (x.1.2.1, (x.1.2.2.1, (x.1.2.2.2.1, (x.1.2.2.2.2.1, (x.1.2.2.2.2.2.1, ((IntKind.wrap IntKind.i64 (x.1.2.2.2.2.2.2.1 + (1 : Int))), ()))))))), (x.2.1, ())))
    else none
  else some (Out.brk ((x.1.1, (x.1.2.1, (x.1.2.2.1, (x.1.2.2.2.1, ())))), (x.2.1, ())))

def X.translate_Find_l5 (x : ((Int × (List M.Block) × Int × Int × (List M.Micro) × Int × Int × Unit) × (M.Micro × Unit))) : Option (Out ((Int × (List M.Block) × Int × Int × (List M.Micro) × Int × Int × Unit) × (M.Micro × Unit)) ((Int × (List M.Block) × Int × Int × Unit) × (M.Micro × Unit)) ((Unit) × (Unit)) ((Bool × Unit) × (M.Micro × Unit))) := iterO X.translate_Find_b5 (100 + Int.toNat x.1.1 + List.length x.1.2.1 + Int.toNat x.1.2.2.1 + Int.toNat x.1.2.2.2.1 + List.length x.1.2.2.2.2.1 + Int.toNat x.1.2.2.2.2.2.1 + Int.toNat x.1.2.2.2.2.2.2.1 + List.length x.2.1.Words) x

def X.translate_Find_b2 (x : ((Int × (List M.Block) × Int × Int × Unit) × (M.Micro × Unit))) : Option (Out ((Int × (List M.Block) × Int × Int × Unit) × (M.Micro × Unit)) ((Unit) × (M.Micro × Unit)) ((Unit) × (Unit)) ((Bool × Unit) × (M.Micro × Unit))) :=
  bif (decide (x.1.2.2.2.1 < x.1.2.2.1)) then bif ((decide ((0 : Int) ≤ x.1.2.2.2.1)) && (decide (x.1.2.2.2.1 < (Nat.cast (List.length x.1.2.1) : Int)))) then match (X.translate_Find_l5 ((x.1.1, (x.1.2.1, (x.1.2.2.1, (x.1.2.2.2.1, ((List.getD x.1.2.1 (Int.toNat x.1.2.2.2.1) (dflt (Ty.st SId.sBlock))).Code, ((Nat.cast (List.length (List.getD x.1.2.1 (Int.toNat x.1.2.2.2.1) (dflt (Ty.st SId.sBlock))).Code) : Int), ((0 : Int), Unit.unit))))))), (x.2.1, Unit.unit))) with
      | some y0 => match y0 with
        | .next w1 => none
        | .brk w2 => some (Out.next ((w2.1.1, (w2.1.2.1, (w2.1.2.2.1, ((IntKind.wrap IntKind.i64 (w2.1.2.2.2.1 + (1 : Int))), ())))), (w2.2.1, ())))
        | .brk2 w3 => some (Out.brk2 ((), ()))
        | .ret w4 => some (Out.ret ((w4.1.1, ()), (w4.2.1, ())))
      | none => none
    else none
  else some (Out.brk ((), (x.2.1, ())))

def X.translate_Find_l2 (x : ((Int × (List M.Block) × Int × Int × Unit) × (M.Micro × Unit))) : Option (Out ((Int × (List M.Block) × Int × Int × Unit) × (M.Micro × Unit)) ((Unit) × (M.Micro × Unit)) ((Unit) × (Unit)) ((Bool × Unit) × (M.Micro × Unit))) := iterO X.translate_Find_b2 (100 + Int.toNat x.1.1 + List.length x.1.2.1 + Int.toNat x.1.2.2.1 + Int.toNat x.1.2.2.2.1 + List.length x.2.1.Words) x

def X.translate_Find (a : M.Cache) (b : Int) : Option (M.Micro × Bool × Unit) :=
  match (X.translate_Find_l2 ((b, (a.Blocks, ((Nat.cast (List.length a.Blocks) : Int), ((0 : Int), Unit.unit)))), ((⟨(0 : Int), (List.nil), (⟨(0 : Int), false, M.Operand.zero, M.Operand.zero, (0 : Int), (0 : Int)⟩ : M.Inst)⟩ : M.Micro), Unit.unit))) with
  | some y0 => match y0 with
    | .next w1 => none
    | .brk w2 => some ((⟨(0 : Int), (List.nil), (⟨(0 : Int), false, M.Operand.zero, M.Operand.zero, (0 : Int), (0 : Int)⟩ : M.Inst)⟩ : M.Micro), false, ())
    | .brk2 w3 => none
    | .ret w4 => some (w4.2.1, w4.1.1, ())
  | none => none

def X.R21_Find_b5 (x : ((Int × Int × Int × Unit) × (M.Cache × M.Micro × Unit))) : Option (Out ((Int × Int × Int × Unit) × (M.Cache × M.Micro × Unit)) ((Int × Int × Unit) × (M.Cache × M.Micro × Unit)) ((Unit) × (Unit)) ((Bool × Unit) × (M.Micro × Unit))) :=
  bif ((decide ((0 : Int) ≤ x.1.2.1)) && (decide (x.1.2.1 < (Nat.cast (List.length x.2.1.Blocks) : Int)))) then bif (decide (x.1.2.2.1 < (Nat.cast (List.length (List.getD x.2.1.Blocks (Int.toNat x.1.2.1) (dflt (Ty.st SId.sBlock))).Code) : Int))) then bif ((decide ((0 : Int) ≤ x.1.2.1)) && (decide (x.1.2.1 < (Nat.cast (List.length x.2.1.Blocks) : Int)))) then bif ((decide ((0 : Int) ≤ x.1.2.2.1)) && (decide (x.1.2.2.1 < (Nat.cast (List.length (List.getD x.2.1.Blocks (Int.toNat x.1.2.1) (dflt (Ty.st SId.sBlock))).Code) : Int)))) then bif ((List.getD (List.getD x.2.1.Blocks (Int.toNat x.1.2.1) (dflt (Ty.st SId.sBlock))).Code (Int.toNat x.1.2.2.1) (dflt (Ty.st SId.sMicro))).At == x.1.1) then bif ((decide ((0 : Int) ≤ x.1.2.1)) && (decide (x.1.2.1 < (Nat.cast (List.length x.2.1.Blocks) : Int)))) then bif ((decide ((0 : Int) ≤ x.1.2.2.1)) && (decide (x.1.2.2.1 < (Nat.cast (List.length (List.getD x.2.1.Blocks (Int.toNat x.1.2.1) (dflt (Ty.st SId.sBlock))).Code) : Int)))) then some (Out.ret ((true, ()), ((List.getD (List.getD x.2.1.Blocks (Int.toNat x.1.2.1) (dflt (Ty.st SId.sBlock))).Code (Int.toNat x.1.2.2.1) (dflt (Ty.st SId.sMicro))), ())))
              else none
            else none
          else some (Out.next ((x.1.1, (x.1.2.1, ((IntKind.wrap IntKind.i64 (x.1.2.2.1 + (1 : Int))), ()))), (x.2.1, (x.2.2.1, ()))))
        else none
      else none
    else some (Out.brk ((x.1.1, (x.1.2.1, ())), (x.2.1, (x.2.2.1, ()))))
  else none

def X.R21_Find_l5 (x : ((Int × Int × Int × Unit) × (M.Cache × M.Micro × Unit))) : Option (Out ((Int × Int × Int × Unit) × (M.Cache × M.Micro × Unit)) ((Int × Int × Unit) × (M.Cache × M.Micro × Unit)) ((Unit) × (Unit)) ((Bool × Unit) × (M.Micro × Unit))) := iterO X.R21_Find_b5 (100 + Int.toNat x.1.1 + Int.toNat x.1.2.1 + Int.toNat x.1.2.2.1 + List.length x.2.1.Blocks + List.length x.2.2.1.Words) x

def X.R21_Find_b2 (x : ((Int × Int × Unit) × (M.Cache × M.Micro × Unit))) : Option (Out ((Int × Int × Unit) × (M.Cache × M.Micro × Unit)) ((Unit) × (M.Micro × Unit)) ((Unit) × (Unit)) ((Bool × Unit) × (M.Micro × Unit))) :=
  bif (decide (x.1.2.1 < (Nat.cast (List.length x.2.1.Blocks) : Int))) then match (X.R21_Find_l5 ((x.1.1, (x.1.2.1, ((0 : Int), Unit.unit))), (x.2.1, (x.2.2.1, Unit.unit)))) with
    | some y0 => match y0 with
      | .next w1 => none
      | .brk w2 => some (Out.next ((w2.1.1, ((IntKind.wrap IntKind.i64 (w2.1.2.1 + (1 : Int))), ())), (w2.2.1, (w2.2.2.1, ()))))
      | .brk2 w3 => some (Out.brk2 ((), ()))
      | .ret w4 => some (Out.ret ((w4.1.1, ()), (w4.2.1, ())))
    | none => none
  else some (Out.brk ((), (x.2.2.1, ())))

def X.R21_Find_l2 (x : ((Int × Int × Unit) × (M.Cache × M.Micro × Unit))) : Option (Out ((Int × Int × Unit) × (M.Cache × M.Micro × Unit)) ((Unit) × (M.Micro × Unit)) ((Unit) × (Unit)) ((Bool × Unit) × (M.Micro × Unit))) := iterO X.R21_Find_b2 (100 + Int.toNat x.1.1 + Int.toNat x.1.2.1 + List.length x.2.1.Blocks + List.length x.2.2.1.Words) x

def X.R21_Find (a : M.Cache) (b : Int) : Option (M.Micro × Bool × Unit) :=
  match (X.R21_Find_l2 ((b, ((0 : Int), Unit.unit)), (a, ((⟨(0 : Int), (List.nil), (⟨(0 : Int), false, M.Operand.zero, M.Operand.zero, (0 : Int), (0 : Int)⟩ : M.Inst)⟩ : M.Micro), Unit.unit)))) with
  | some y0 => match y0 with
    | .next w1 => none
    | .brk w2 => some ((⟨(0 : Int), (List.nil), (⟨(0 : Int), false, M.Operand.zero, M.Operand.zero, (0 : Int), (0 : Int)⟩ : M.Inst)⟩ : M.Micro), false, ())
    | .brk2 w3 => none
    | .ret w4 => some (w4.2.1, w4.1.1, ())
  | none => none

def X.translate_whole_b5 (x : ((Int × (List M.Micro) × Int × Int × Unit) × (M.Machine × M.Block × Unit))) : Option (Out ((Int × (List M.Micro) × Int × Int × Unit) × (M.Machine × M.Block × Unit)) ((Int × Unit) × (M.Block × Unit)) ((Unit) × (Unit)) ((Bool × Unit) × (Unit))) :=
  bif (decide (x.1.2.2.2.1 < x.1.2.2.1)) then bif ((decide ((0 : Int) ≤ x.1.2.2.2.1)) && (decide (x.1.2.2.2.1 < (Nat.cast (List.length x.1.2.1) : Int)))) then bif ((List.getD x.1.2.1 (Int.toNat x.1.2.2.2.1) (dflt (Ty.st SId.sMicro))).At != x.1.1) then some (Out.ret ((false, ()), ()))
      else match (X.translate_Fresh x.2.1 (List.getD x.1.2.1 (Int.toNat x.1.2.2.2.1) (dflt (Ty.st SId.sMicro)))) with
      | some y0 => bif (!y0.1) then some (Out.ret ((false, ()), ()))
        else bif (!(x.1.2.2.2.1 == (IntKind.wrap IntKind.i64 ((Nat.cast (List.length x.2.2.1.Code) : Int) - (1 : Int))))) then match (X.inst_Ends (List.getD x.1.2.1 (Int.toNat x.1.2.2.2.1) (dflt (Ty.st SId.sMicro))).Inst) with
          | some y1 => bif y1.1 then some (Out.ret ((false, ()), ()))
            else some (Out.next (((IntKind.wrap IntKind.i64 (x.1.1 + (IntKind.wrap IntKind.i64 ((2 : Int) * (Nat.cast (List.length (List.getD x.1.2.1 (Int.toNat x.1.2.2.2.1) (dflt (Ty.st SId.sMicro))).Words) : Int))))), (x.1.2.1, (x.1.2.2.1, ((IntKind.wrap IntKind.i64 (x.1.2.2.2.1 + (1 : Int))), ())))), (x.2.1, (x.2.2.1, ()))))
          | none => none
        else some (Out.next (((IntKind.wrap IntKind.i64 (x.1.1 + (IntKind.wrap IntKind.i64 ((2 : Int) * (Nat.cast (List.length (List.getD x.1.2.1 (Int.toNat x.1.2.2.2.1) (dflt (Ty.st SId.sMicro))).Words) : Int))))), (x.1.2.1, (x.1.2.2.1, ((IntKind.wrap IntKind.i64 (x.1.2.2.2.1 + (1 : Int))), ())))), (x.2.1, (x.2.2.1, ()))))
      | none => none
    else none
  else some (Out.brk ((x.1.1, ()), (x.2.2.1, ())))

def X.translate_whole_l5 (x : ((Int × (List M.Micro) × Int × Int × Unit) × (M.Machine × M.Block × Unit))) : Option (Out ((Int × (List M.Micro) × Int × Int × Unit) × (M.Machine × M.Block × Unit)) ((Int × Unit) × (M.Block × Unit)) ((Unit) × (Unit)) ((Bool × Unit) × (Unit))) := iterO X.translate_whole_b5 (100 + Int.toNat x.1.1 + List.length x.1.2.1 + Int.toNat x.1.2.2.1 + Int.toNat x.1.2.2.2.1 + List.length x.2.1.Mem + List.length x.2.1.Bad + List.length x.2.1.Lines + List.length x.2.1.Tape.Records + List.length x.2.2.1.Code) x

def X.translate_whole (a : M.Machine) (b : M.Block) : Option (Bool × Unit) :=
  bif (bif ((Nat.cast (List.length b.Code) : Int) == (0 : Int)) then true else (decide ((Nat.cast (List.length b.Code) : Int) > (16 : Int)))) then some (false, ())
  else match (X.translate_whole_l5 ((b.Start, (b.Code, ((Nat.cast (List.length b.Code) : Int), ((0 : Int), Unit.unit)))), (a, (b, Unit.unit)))) with
  | some y0 => match y0 with
    | .next w1 => none
    | .brk w2 => some (((IntKind.wrap IntKind.i64 (Int.tdiv (IntKind.wrap IntKind.i64 (w2.1.1 - (1 : Int))) (64 : Int))) == (IntKind.wrap IntKind.i64 (Int.tdiv w2.2.1.Start (64 : Int)))), ())
    | .brk2 w3 => none
    | .ret w4 => some (w4.1.1, ())
  | none => none

def X.translate_Right_b4 (x : (((List M.Block) × Int × Int × Unit) × (M.Machine × M.Cache × Unit))) : Option (Out (((List M.Block) × Int × Int × Unit) × (M.Machine × M.Cache × Unit)) ((Unit) × (Unit)) ((Unit) × (Unit)) ((Bool × Unit) × (Unit))) :=
  bif (decide (x.1.2.2.1 < x.1.2.1)) then bif ((decide ((0 : Int) ≤ x.1.2.2.1)) && (decide (x.1.2.2.1 < (Nat.cast (List.length x.1.1) : Int)))) then bif (decide (x.1.2.2.1 > (0 : Int))) then bif ((decide ((0 : Int) ≤ (IntKind.wrap IntKind.i64 (x.1.2.2.1 - (1 : Int))))) && (decide ((IntKind.wrap IntKind.i64 (x.1.2.2.1 - (1 : Int))) < (Nat.cast (List.length x.2.2.1.Blocks) : Int)))) then bif (decide ((List.getD x.1.1 (Int.toNat x.1.2.2.1) (dflt (Ty.st SId.sBlock))).Start ≤ (List.getD x.2.2.1.Blocks (Int.toNat (IntKind.wrap IntKind.i64 (x.1.2.2.1 - (1 : Int)))) (dflt (Ty.st SId.sBlock))).Start)) then some (Out.ret ((false, ()), ()))
          else match (X.translate_whole x.2.1 (List.getD x.1.1 (Int.toNat x.1.2.2.1) (dflt (Ty.st SId.sBlock)))) with
          | some y0 => bif (!y0.1) then some (Out.ret ((false, ()), ()))
            else some (Out.next ((x.1.1, (x.1.2.1, ((IntKind.wrap IntKind.i64 (x.1.2.2.1 + (1 : Int))), ()))), (x.2.1, (x.2.2.1, ()))))
          | none => none
        else none
      else match (X.translate_whole x.2.1 (List.getD x.1.1 (Int.toNat x.1.2.2.1) (dflt (Ty.st SId.sBlock)))) with
      | some y1 => bif (!y1.1) then some (Out.ret ((false, ()), ()))
        else some (Out.next ((x.1.1, (x.1.2.1, ((IntKind.wrap IntKind.i64 (x.1.2.2.1 + (1 : Int))), ()))), (x.2.1, (x.2.2.1, ()))))
      | none => none
    else none
  else some (Out.brk ((), ()))

def X.translate_Right_l4 (x : (((List M.Block) × Int × Int × Unit) × (M.Machine × M.Cache × Unit))) : Option (Out (((List M.Block) × Int × Int × Unit) × (M.Machine × M.Cache × Unit)) ((Unit) × (Unit)) ((Unit) × (Unit)) ((Bool × Unit) × (Unit))) := iterO X.translate_Right_b4 (100 + List.length x.1.1 + Int.toNat x.1.2.1 + Int.toNat x.1.2.2.1 + List.length x.2.1.Mem + List.length x.2.1.Bad + List.length x.2.1.Lines + List.length x.2.1.Tape.Records + List.length x.2.2.1.Blocks) x

def X.translate_Right (a : M.Machine) (b : M.Cache) : Option (Bool × Unit) :=
  bif (bif (decide ((Nat.cast (List.length b.Blocks) : Int) > (64 : Int))) then true else (bif (decide (b.Made < (0 : Int))) then true else (bif (decide (b.Used < (0 : Int))) then true else (decide (b.Dropped < (0 : Int)))))) then some (false, ())
  else match (X.translate_Right_l4 ((b.Blocks, ((Nat.cast (List.length b.Blocks) : Int), ((0 : Int), Unit.unit))), (a, (b, Unit.unit)))) with
  | some y0 => match y0 with
    | .next w1 => none
    | .brk w2 => some (true, ())
    | .brk2 w3 => none
    | .ret w4 => some (w4.1.1, ())
  | none => none

def X.R21_rightBlock_b5 (x : ((Int × Int × Unit) × (M.Machine × M.Block × Unit))) : Option (Out ((Int × Int × Unit) × (M.Machine × M.Block × Unit)) ((Unit) × (Unit)) ((Unit) × (Unit)) ((Bool × Unit) × (Unit))) :=
  bif (decide (x.1.2.1 < (Nat.cast (List.length x.2.2.1.Code) : Int))) then bif ((decide ((0 : Int) ≤ x.1.2.1)) && (decide (x.1.2.1 < (Nat.cast (List.length x.2.2.1.Code) : Int)))) then bif ((List.getD x.2.2.1.Code (Int.toNat x.1.2.1) (dflt (Ty.st SId.sMicro))).At != x.1.1) then some (Out.ret ((false, ()), ()))
      else match (X.R21_Fresh x.2.1 (List.getD x.2.2.1.Code (Int.toNat x.1.2.1) (dflt (Ty.st SId.sMicro)))) with
      | some y0 => bif (!y0.1) then some (Out.ret ((false, ()), ()))
        else bif (bif ((IntKind.wrap IntKind.i64 (Int.tdiv (IntKind.wrap IntKind.i64 ((IntKind.wrap IntKind.i64 (x.1.1 + (IntKind.wrap IntKind.i64 ((2 : Int) * (Nat.cast (List.length (List.getD x.2.2.1.Code (Int.toNat x.1.2.1) (dflt (Ty.st SId.sMicro))).Words) : Int))))) - (1 : Int))) (64 : Int))) != (IntKind.wrap IntKind.i64 (Int.tdiv x.2.2.1.Start (64 : Int)))) then true else (bif (decide (x.1.2.1 < (IntKind.wrap IntKind.i64 ((Nat.cast (List.length x.2.2.1.Code) : Int) - (1 : Int))))) then (X.R06_Ends (List.getD x.2.2.1.Code (Int.toNat x.1.2.1) (dflt (Ty.st SId.sMicro))).Inst) else false)) then some (Out.ret ((false, ()), ()))
        else some (Out.next (((IntKind.wrap IntKind.i64 (x.1.1 + (IntKind.wrap IntKind.i64 ((2 : Int) * (Nat.cast (List.length (List.getD x.2.2.1.Code (Int.toNat x.1.2.1) (dflt (Ty.st SId.sMicro))).Words) : Int))))), ((IntKind.wrap IntKind.i64 (x.1.2.1 + (1 : Int))), ())), (x.2.1, (x.2.2.1, ()))))
      | none => none
    else none
  else some (Out.brk ((), ()))

def X.R21_rightBlock_l5 (x : ((Int × Int × Unit) × (M.Machine × M.Block × Unit))) : Option (Out ((Int × Int × Unit) × (M.Machine × M.Block × Unit)) ((Unit) × (Unit)) ((Unit) × (Unit)) ((Bool × Unit) × (Unit))) := iterO X.R21_rightBlock_b5 (100 + Int.toNat x.1.1 + Int.toNat x.1.2.1 + List.length x.2.1.Mem + List.length x.2.1.Bad + List.length x.2.1.Lines + List.length x.2.1.Tape.Records + List.length x.2.2.1.Code) x

def X.R21_rightBlock (a : M.Machine) (b : M.Block) : Option (Bool × Unit) :=
  bif (bif (decide ((Nat.cast (List.length b.Code) : Int) < (1 : Int))) then true else (decide ((Nat.cast (List.length b.Code) : Int) > (16 : Int)))) then some (false, ())
  else match (X.R21_rightBlock_l5 ((b.Start, ((0 : Int), Unit.unit)), (a, (b, Unit.unit)))) with
  | some y0 => match y0 with
    | .next w1 => none
    | .brk w2 => some (true, ())
    | .brk2 w3 => none
    | .ret w4 => some (w4.1.1, ())
  | none => none

def X.R21_Right_b4 (x : ((Int × Unit) × (M.Machine × M.Cache × Unit))) : Option (Out ((Int × Unit) × (M.Machine × M.Cache × Unit)) ((Unit) × (Unit)) ((Unit) × (Unit)) ((Bool × Unit) × (Unit))) :=
  bif (decide (x.1.1 < (Nat.cast (List.length x.2.2.1.Blocks) : Int))) then bif (decide (x.1.1 > (0 : Int))) then bif ((decide ((0 : Int) ≤ (IntKind.wrap IntKind.i64 (x.1.1 - (1 : Int))))) && (decide ((IntKind.wrap IntKind.i64 (x.1.1 - (1 : Int))) < (Nat.cast (List.length x.2.2.1.Blocks) : Int)))) then bif ((decide ((0 : Int) ≤ x.1.1)) && (decide (x.1.1 < (Nat.cast (List.length x.2.2.1.Blocks) : Int)))) then bif (decide ((List.getD x.2.2.1.Blocks (Int.toNat (IntKind.wrap IntKind.i64 (x.1.1 - (1 : Int)))) (dflt (Ty.st SId.sBlock))).Start ≥ (List.getD x.2.2.1.Blocks (Int.toNat x.1.1) (dflt (Ty.st SId.sBlock))).Start)) then some (Out.ret ((false, ()), ()))
          else bif ((decide ((0 : Int) ≤ x.1.1)) && (decide (x.1.1 < (Nat.cast (List.length x.2.2.1.Blocks) : Int)))) then match (X.R21_rightBlock x.2.1 (List.getD x.2.2.1.Blocks (Int.toNat x.1.1) (dflt (Ty.st SId.sBlock)))) with
            | some y0 => bif (!y0.1) then some (Out.ret ((false, ()), ()))
              else some (Out.next (((IntKind.wrap IntKind.i64 (x.1.1 + (1 : Int))), ()), (x.2.1, (x.2.2.1, ()))))
            | none => none
          else none
        else none
      else none
    else bif ((decide ((0 : Int) ≤ x.1.1)) && (decide (x.1.1 < (Nat.cast (List.length x.2.2.1.Blocks) : Int)))) then match (X.R21_rightBlock x.2.1 (List.getD x.2.2.1.Blocks (Int.toNat x.1.1) (dflt (Ty.st SId.sBlock)))) with
      | some y1 => bif (!y1.1) then some (Out.ret ((false, ()), ()))
        else some (Out.next (((IntKind.wrap IntKind.i64 (x.1.1 + (1 : Int))), ()), (x.2.1, (x.2.2.1, ()))))
      | none => none
    else none
  else some (Out.brk ((), ()))

def X.R21_Right_l4 (x : ((Int × Unit) × (M.Machine × M.Cache × Unit))) : Option (Out ((Int × Unit) × (M.Machine × M.Cache × Unit)) ((Unit) × (Unit)) ((Unit) × (Unit)) ((Bool × Unit) × (Unit))) := iterO X.R21_Right_b4 (100 + Int.toNat x.1.1 + List.length x.2.1.Mem + List.length x.2.1.Bad + List.length x.2.1.Lines + List.length x.2.1.Tape.Records + List.length x.2.2.1.Blocks) x

def X.R21_Right (a : M.Machine) (b : M.Cache) : Option (Bool × Unit) :=
  bif (bif (decide ((Nat.cast (List.length b.Blocks) : Int) > (64 : Int))) then true else (bif (decide (b.Made < (0 : Int))) then true else (bif (decide (b.Used < (0 : Int))) then true else (decide (b.Dropped < (0 : Int)))))) then some (false, ())
  else match (X.R21_Right_l4 (((0 : Int), Unit.unit), (a, (b, Unit.unit)))) with
  | some y0 => match y0 with
    | .next w1 => none
    | .brk w2 => some (true, ())
    | .brk2 w3 => none
    | .ret w4 => some (w4.1.1, ())
  | none => none

def X.L21_TranslateRights (a : M.Emulatorlaw21_Memory) (b : M.Cache) (c : Int) : Option (Bool × Unit) :=
  match (X.L21_Memory_good a) with
  | some y0 => bif (!y0.1) then match X.L21_alive with
      | some y1 => some (y1.1, ())
      | none => none
    else match (X.L21_small b) with
    | some y2 => bif (!y2.1) then match X.L21_alive with
        | some y3 => some (y3.1, ())
        | none => none
      else match (X.translate_Find b c) with
      | some y4 => match (X.R21_Find b c) with
        | some y5 => match (X.translate_Right (X.L21_Memory_machine a) b) with
          | some y6 => match (X.R21_Right (X.L21_Memory_machine a) b) with
            | some y7 => bif (y6.1 == y7.1) then match (X.R21_SameMicro y4.1 y5.1) with
                | some y8 => bif y8.1 then bif (y4.2.1 == y5.2.1) then match X.L21_alive with
                      | some y9 => some (y9.1, ())
                      | none => none
                    else some (false, ())
                  else some (false, ())
                | none => none
              else some (false, ())
            | none => none
          | none => none
        | none => none
      | none => none
    | none => none
  | none => none

def X.R21_SameCache_b4 (x : ((Int × Unit) × (M.Cache × M.Cache × Unit))) : Option (Out ((Int × Unit) × (M.Cache × M.Cache × Unit)) ((Unit) × (Unit)) ((Unit) × (Unit)) ((Bool × Unit) × (Unit))) :=
  bif (decide (x.1.1 < (Nat.cast (List.length x.2.1.Blocks) : Int))) then bif ((decide ((0 : Int) ≤ x.1.1)) && (decide (x.1.1 < (Nat.cast (List.length x.2.1.Blocks) : Int)))) then bif ((decide ((0 : Int) ≤ x.1.1)) && (decide (x.1.1 < (Nat.cast (List.length x.2.2.1.Blocks) : Int)))) then match (X.R21_SameBlock (List.getD x.2.1.Blocks (Int.toNat x.1.1) (dflt (Ty.st SId.sBlock))) (List.getD x.2.2.1.Blocks (Int.toNat x.1.1) (dflt (Ty.st SId.sBlock)))) with
        | some y0 => bif (!y0.1) then some (Out.ret ((false, ()), ()))
          else some (Out.next (((IntKind.wrap IntKind.i64 (x.1.1 + (1 : Int))), ()), (x.2.1, (x.2.2.1, ()))))
        | none => none
      else none
    else none
  else some (Out.brk ((), ()))

def X.R21_SameCache_l4 (x : ((Int × Unit) × (M.Cache × M.Cache × Unit))) : Option (Out ((Int × Unit) × (M.Cache × M.Cache × Unit)) ((Unit) × (Unit)) ((Unit) × (Unit)) ((Bool × Unit) × (Unit))) := iterO X.R21_SameCache_b4 (100 + Int.toNat x.1.1 + List.length x.2.1.Blocks + List.length x.2.2.1.Blocks) x

def X.R21_SameCache (a : M.Cache) (b : M.Cache) : Option (Bool × Unit) :=
  bif (bif ((Nat.cast (List.length a.Blocks) : Int) != (Nat.cast (List.length b.Blocks) : Int)) then true else (bif (a.Made != b.Made) then true else (bif (a.Used != b.Used) then true else (a.Dropped != b.Dropped)))) then some (false, ())
  else match (X.R21_SameCache_l4 (((0 : Int), Unit.unit), (a, (b, Unit.unit)))) with
  | some y0 => match y0 with
    | .next w1 => none
    | .brk w2 => some (true, ())
    | .brk2 w3 => none
    | .ret w4 => some (w4.1.1, ())
  | none => none

def X.translate_Drop_b6 (x : (((List M.Block) × (List M.Block) × Int × Int × (List M.Micro) × Int × Int × Unit) × (M.Machine × M.Cache × M.Cache × M.Block × Unit))) : Option (Out (((List M.Block) × (List M.Block) × Int × Int × (List M.Micro) × Int × Int × Unit) × (M.Machine × M.Cache × M.Cache × M.Block × Unit)) (((List M.Block) × (List M.Block) × Int × Int × Unit) × (M.Machine × M.Cache × M.Cache × Unit)) (((List M.Block) × (List M.Block) × Int × Int × Unit) × (M.Machine × M.Cache × M.Cache × M.Block × Unit)) ((Unit) × (Unit))) :=
  bif (decide (x.1.2.2.2.2.2.2.1 < x.1.2.2.2.2.2.1)) then bif ((decide ((0 : Int) ≤ x.1.2.2.2.2.2.2.1)) && (decide (x.1.2.2.2.2.2.2.1 < (Nat.cast (List.length x.1.2.2.2.2.1) : Int)))) then match (X.translate_Fresh x.2.1 (List.getD x.1.2.2.2.2.1 (Int.toNat x.1.2.2.2.2.2.2.1) (dflt (Ty.st SId.sMicro)))) with
      | some y0 => bif (!y0.1) then some (Out.brk ((x.1.1, (x.1.2.1, (x.1.2.2.1, (x.1.2.2.2.1, ())))), (x.2.1, ((⟨x.2.2.1.Blocks, x.2.2.1.Made, x.2.2.1.Used, (IntKind.wrap IntKind.i64 (x.2.2.1.Dropped + (1 : Int)))⟩ : M.Cache), (x.2.2.2.1, ())))))
        else some (Out.next ((x.1.1, (x.1.2.1, (x.1.2.2.1, (x.1.2.2.2.1, (x.1.2.2.2.2.1, (x.1.2.2.2.2.2.1, ((IntKind.wrap IntKind.i64 (x.1.2.2.2.2.2.2.1 + (1 : Int))), ()))))))), (x.2.1, (x.2.2.1, (x.2.2.2.1, (x.2.2.2.2.1, ()))))))
      | none => none
    else none
  else some (Out.brk2 ((x.1.1, (x.1.2.1, (x.1.2.2.1, (x.1.2.2.2.1, ())))), (x.2.1, (x.2.2.1, (x.2.2.2.1, (x.2.2.2.2.1, ()))))))

def X.translate_Drop_l6 (x : (((List M.Block) × (List M.Block) × Int × Int × (List M.Micro) × Int × Int × Unit) × (M.Machine × M.Cache × M.Cache × M.Block × Unit))) : Option (Out (((List M.Block) × (List M.Block) × Int × Int × (List M.Micro) × Int × Int × Unit) × (M.Machine × M.Cache × M.Cache × M.Block × Unit)) (((List M.Block) × (List M.Block) × Int × Int × Unit) × (M.Machine × M.Cache × M.Cache × Unit)) (((List M.Block) × (List M.Block) × Int × Int × Unit) × (M.Machine × M.Cache × M.Cache × M.Block × Unit)) ((Unit) × (Unit))) := iterO X.translate_Drop_b6 (100 + List.length x.1.1 + List.length x.1.2.1 + Int.toNat x.1.2.2.1 + Int.toNat x.1.2.2.2.1 + List.length x.1.2.2.2.2.1 + Int.toNat x.1.2.2.2.2.2.1 + Int.toNat x.1.2.2.2.2.2.2.1 + List.length x.2.1.Mem + List.length x.2.1.Bad + List.length x.2.1.Lines + List.length x.2.1.Tape.Records + List.length x.2.2.1.Blocks + List.length x.2.2.2.1.Blocks + List.length x.2.2.2.2.1.Code) x

def X.translate_Drop_b3 (x : (((List M.Block) × (List M.Block) × Int × Int × Unit) × (M.Machine × M.Cache × M.Cache × Unit))) : Option (Out (((List M.Block) × (List M.Block) × Int × Int × Unit) × (M.Machine × M.Cache × M.Cache × Unit)) (((List M.Block) × Unit) × (M.Cache × M.Cache × Unit)) ((Unit) × (Unit)) ((Unit) × (Unit))) :=
  bif (decide (x.1.2.2.2.1 < x.1.2.2.1)) then bif ((decide ((0 : Int) ≤ x.1.2.2.2.1)) && (decide (x.1.2.2.2.1 < (Nat.cast (List.length x.1.2.1) : Int)))) then match (X.translate_Drop_l6 ((x.1.1, (x.1.2.1, (x.1.2.2.1, (x.1.2.2.2.1, ((List.getD x.1.2.1 (Int.toNat x.1.2.2.2.1) (dflt (Ty.st SId.sBlock))).Code, ((Nat.cast (List.length (List.getD x.1.2.1 (Int.toNat x.1.2.2.2.1) (dflt (Ty.st SId.sBlock))).Code) : Int), ((0 : Int), Unit.unit))))))), (x.2.1, (x.2.2.1, (x.2.2.2.1, ((List.getD x.1.2.1 (Int.toNat x.1.2.2.2.1) (dflt (Ty.st SId.sBlock))), Unit.unit)))))) with
      | some y0 => match y0 with
        | .next w1 => none
        | .brk w2 => some (Out.next ((w2.1.1, (w2.1.2.1, (w2.1.2.2.1, ((IntKind.wrap IntKind.i64 (w2.1.2.2.2.1 + (1 : Int))), ())))), (w2.2.1, (w2.2.2.1, (w2.2.2.2.1, ())))))
        | .brk2 w3 => bif (capOK ((List.length w3.1.1) + (List.length (List.cons w3.2.2.2.2.1 (List.nil)))) 32) then some (Out.next (((HAppend.hAppend w3.1.1 (List.cons w3.2.2.2.2.1 (List.nil))), (w3.1.2.1, (w3.1.2.2.1, ((IntKind.wrap IntKind.i64 (w3.1.2.2.2.1 + (1 : Int))), ())))), (w3.2.1, (w3.2.2.1, (w3.2.2.2.1, ())))))
          else none
        | .ret w4 => some (Out.ret ((), ()))
      | none => none
    else none
  else some (Out.brk ((x.1.1, ()), (x.2.2.1, (x.2.2.2.1, ()))))

def X.translate_Drop_l3 (x : (((List M.Block) × (List M.Block) × Int × Int × Unit) × (M.Machine × M.Cache × M.Cache × Unit))) : Option (Out (((List M.Block) × (List M.Block) × Int × Int × Unit) × (M.Machine × M.Cache × M.Cache × Unit)) (((List M.Block) × Unit) × (M.Cache × M.Cache × Unit)) ((Unit) × (Unit)) ((Unit) × (Unit))) := iterO X.translate_Drop_b3 (100 + List.length x.1.1 + List.length x.1.2.1 + Int.toNat x.1.2.2.1 + Int.toNat x.1.2.2.2.1 + List.length x.2.1.Mem + List.length x.2.1.Bad + List.length x.2.1.Lines + List.length x.2.1.Tape.Records + List.length x.2.2.1.Blocks + List.length x.2.2.2.1.Blocks) x

def X.translate_Drop (a : M.Machine) (b : M.Cache) : Option (M.Cache × Unit) :=
  match (X.translate_Drop_l3 (((List.nil), (b.Blocks, ((Nat.cast (List.length b.Blocks) : Int), ((0 : Int), Unit.unit)))), (a, (b, ((⟨(List.nil), (0 : Int), (0 : Int), (0 : Int)⟩ : M.Cache), Unit.unit))))) with
  | some y0 => match y0 with
    | .next w1 => none
    | .brk w2 => some ((⟨w2.1.1, w2.2.1.Made, w2.2.1.Used, w2.2.1.Dropped⟩ : M.Cache), ())
    | .brk2 w3 => none
    | .ret w4 => none
  | none => none

def X.R21_Drop_b7 (x : (((List M.Block) × Int × Bool × Int × Unit) × (M.Machine × M.Cache × M.Cache × Unit))) : Option (Out (((List M.Block) × Int × Bool × Int × Unit) × (M.Machine × M.Cache × M.Cache × Unit)) (((List M.Block) × Int × Bool × Unit) × (M.Machine × M.Cache × M.Cache × Unit)) ((Unit) × (Unit)) ((Unit) × (Unit))) :=
  bif ((decide ((0 : Int) ≤ x.1.2.1)) && (decide (x.1.2.1 < (Nat.cast (List.length x.2.2.1.Blocks) : Int)))) then bif (decide (x.1.2.2.2.1 < (Nat.cast (List.length (List.getD x.2.2.1.Blocks (Int.toNat x.1.2.1) (dflt (Ty.st SId.sBlock))).Code) : Int))) then bif x.1.2.2.1 then bif ((decide ((0 : Int) ≤ x.1.2.1)) && (decide (x.1.2.1 < (Nat.cast (List.length x.2.2.1.Blocks) : Int)))) then bif ((decide ((0 : Int) ≤ x.1.2.2.2.1)) && (decide (x.1.2.2.2.1 < (Nat.cast (List.length (List.getD x.2.2.1.Blocks (Int.toNat x.1.2.1) (dflt (Ty.st SId.sBlock))).Code) : Int)))) then match (X.R21_Fresh x.2.1 (List.getD (List.getD x.2.2.1.Blocks (Int.toNat x.1.2.1) (dflt (Ty.st SId.sBlock))).Code (Int.toNat x.1.2.2.2.1) (dflt (Ty.st SId.sMicro)))) with
            | some y0 => some (Out.next ((x.1.1, (x.1.2.1, (y0.1, ((IntKind.wrap IntKind.i64 (x.1.2.2.2.1 + (1 : Int))), ())))), (x.2.1, (x.2.2.1, (x.2.2.2.1, ())))))
            | none => none
          else none
        else none
      else some (Out.next ((x.1.1, (x.1.2.1, (false, ((IntKind.wrap IntKind.i64 (x.1.2.2.2.1 + (1 : Int))), ())))), (x.2.1, (x.2.2.1, (x.2.2.2.1, ())))))
    else some (Out.brk ((x.1.1, (x.1.2.1, (x.1.2.2.1, ()))), (x.2.1, (x.2.2.1, (x.2.2.2.1, ())))))
  else none

def X.R21_Drop_l7 (x : (((List M.Block) × Int × Bool × Int × Unit) × (M.Machine × M.Cache × M.Cache × Unit))) : Option (Out (((List M.Block) × Int × Bool × Int × Unit) × (M.Machine × M.Cache × M.Cache × Unit)) (((List M.Block) × Int × Bool × Unit) × (M.Machine × M.Cache × M.Cache × Unit)) ((Unit) × (Unit)) ((Unit) × (Unit))) := iterO X.R21_Drop_b7 (100 + List.length x.1.1 + Int.toNat x.1.2.1 + Int.toNat x.1.2.2.2.1 + List.length x.2.1.Mem + List.length x.2.1.Bad + List.length x.2.1.Lines + List.length x.2.1.Tape.Records + List.length x.2.2.1.Blocks + List.length x.2.2.2.1.Blocks) x

def X.R21_Drop_b3 (x : (((List M.Block) × Int × Unit) × (M.Machine × M.Cache × M.Cache × Unit))) : Option (Out (((List M.Block) × Int × Unit) × (M.Machine × M.Cache × M.Cache × Unit)) (((List M.Block) × Unit) × (M.Cache × M.Cache × Unit)) ((Unit) × (Unit)) ((Unit) × (Unit))) :=
  bif (decide (x.1.2.1 < (Nat.cast (List.length x.2.2.1.Blocks) : Int))) then match (X.R21_Drop_l7 ((x.1.1, (x.1.2.1, (true, ((0 : Int), Unit.unit)))), (x.2.1, (x.2.2.1, (x.2.2.2.1, Unit.unit))))) with
    | some y0 => match y0 with
      | .next w1 => none
      | .brk w2 => bif w2.1.2.2.1 then bif ((decide ((0 : Int) ≤ w2.1.2.1)) && (decide (w2.1.2.1 < (Nat.cast (List.length w2.2.2.1.Blocks) : Int)))) then bif (capOK ((List.length w2.1.1) + (List.length (List.cons (List.getD w2.2.2.1.Blocks (Int.toNat w2.1.2.1) (dflt (Ty.st SId.sBlock))) (List.nil)))) 32) then some (Out.next (((HAppend.hAppend w2.1.1 (List.cons (List.getD w2.2.2.1.Blocks (Int.toNat w2.1.2.1) (dflt (Ty.st SId.sBlock))) (List.nil))), ((IntKind.wrap IntKind.i64 (w2.1.2.1 + (1 : Int))), ())), (w2.2.1, (w2.2.2.1, (w2.2.2.2.1, ())))))
            else none
          else none
        else some (Out.next ((w2.1.1, ((IntKind.wrap IntKind.i64 (w2.1.2.1 + (1 : Int))), ())), (w2.2.1, (w2.2.2.1, (w2.2.2.2.1, ())))))
      | .brk2 w3 => some (Out.brk2 ((), ()))
      | .ret w4 => some (Out.ret ((), ()))
    | none => none
  else some (Out.brk ((x.1.1, ()), (x.2.2.1, (x.2.2.2.1, ()))))

def X.R21_Drop_l3 (x : (((List M.Block) × Int × Unit) × (M.Machine × M.Cache × M.Cache × Unit))) : Option (Out (((List M.Block) × Int × Unit) × (M.Machine × M.Cache × M.Cache × Unit)) (((List M.Block) × Unit) × (M.Cache × M.Cache × Unit)) ((Unit) × (Unit)) ((Unit) × (Unit))) := iterO X.R21_Drop_b3 (100 + List.length x.1.1 + Int.toNat x.1.2.1 + List.length x.2.1.Mem + List.length x.2.1.Bad + List.length x.2.1.Lines + List.length x.2.1.Tape.Records + List.length x.2.2.1.Blocks + List.length x.2.2.2.1.Blocks) x

def X.R21_Drop (a : M.Machine) (b : M.Cache) : Option (M.Cache × Unit) :=
  match (X.R21_Drop_l3 (((List.nil), ((0 : Int), Unit.unit)), (a, (b, ((⟨(List.nil), (0 : Int), (0 : Int), (0 : Int)⟩ : M.Cache), Unit.unit))))) with
  | some y0 => match y0 with
    | .next w1 => none
    | .brk w2 => some ((⟨w2.1.1, w2.2.1.Made, w2.2.1.Used, (IntKind.wrap IntKind.i64 ((IntKind.wrap IntKind.i64 (w2.2.1.Dropped + (Nat.cast (List.length w2.2.1.Blocks) : Int))) - (Nat.cast (List.length w2.1.1) : Int)))⟩ : M.Cache), ())
    | .brk2 w3 => none
    | .ret w4 => none
  | none => none

def X.L21_TranslateDrops (a : M.Emulatorlaw21_Memory) (b : M.Cache) : Option (Bool × Unit) :=
  match (X.L21_Memory_good a) with
  | some y0 => bif (!y0.1) then match X.L21_alive with
      | some y1 => some (y1.1, ())
      | none => none
    else match (X.L21_small b) with
    | some y2 => bif (!y2.1) then match X.L21_alive with
        | some y3 => some (y3.1, ())
        | none => none
      else match (X.translate_Drop (X.L21_Memory_machine a) b) with
      | some y4 => match (X.R21_Drop (X.L21_Memory_machine a) b) with
        | some y5 => match (X.R21_SameCache y4.1 y5.1) with
          | some y6 => bif y6.1 then match X.L21_alive with
              | some y7 => some (y7.1, ())
              | none => none
            else some (false, ())
          | none => none
        | none => none
      | none => none
    | none => none
  | none => none

end Go.Proofs.Ytnonimnhninafaa.Ab
