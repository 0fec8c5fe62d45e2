/- Contracts of functions, printed by a program of the session. -/
import Derived.Test.YtnonimnhninafaaAbPkB1
import Derived.Test.YtnonimnhninafaaAbIkM

namespace Go.Proofs.Ytnonimnhninafaa.Ab
open Go
set_option maxRecDepth 100000
set_option linter.unusedVariables false
set_option linter.unusedSimpArgs false

noncomputable def K100 (m100 : Int → Bool) : Con := ⟨[(.int .i64)], [.bool], fun x => some ((m100 x.1), ())⟩
theorem ev100  (a : Int) : evF Θ tyOf (clist []) Try.f100.ntmps (lmap []) (jlist [(1, 2)]) (gnil) 70 (bodyOf Try.f100) Try.f100.results.toList [(.int .i64)] [.bool] (a, ()) =
  (some ((bif (decide (a ≥ (256 : Int))) then (bif (decide (a ≤ (32768 : Int))) then ((Int.tmod a (64 : Int)) == (0 : Int)) else false) else false), ()) : Option (Bool × Unit)) := by kernel_rfl
theorem tot100 (a : Int) : (some ((bif (decide (a ≥ (256 : Int))) then (bif (decide (a ≤ (32768 : Int))) then ((Int.tmod a (64 : Int)) == (0 : Int)) else false) else false), ()) : Option (Bool × Unit)) = some ((X.R08_Size a), ()) := by (unfold X.R08_Size; (try simp only [cond_some, cond_prod, cond_fst, cond_snd, cond_unit]); first | done | kernel_rfl)
theorem con100 : ConOK Try.prog 100 (K100 X.R08_Size) := con_of (C := clist []) (J := jlist [(1, 2)]) (G := gnil) (N := 70) (ℓ := (lmap [])) cl_nil (segsOK_nil _) rfl rfl Try.func100 rfl Try.call100 rfl fun x => (ev100 x.1).trans (by exact tot100 x.1)

noncomputable def K68 (m68 : (List Int) → (List Int) → Option (Bool × Unit)) : Con := ⟨[(.sl (.int .i64)), (.sl (.int .i64))], [.bool], fun x => m68 x.1 x.2.1⟩
def A68_9 : LAnn := ⟨⟨[(0, (.sl (.int .i64))), (1, (.sl (.int .i64))), (6, (.int .i64))], [], [], [], []⟩, 2, ⟨[], [], [], [], []⟩, 999992, ⟨[], [], [], [], []⟩, ⟨[(4, .bool)], [], [], [], []⟩⟩
def A68_4 : LAnn := ⟨⟨[(0, (.sl (.int .i64))), (1, (.sl (.int .i64))), (5, (.int .i64))], [], [], [], []⟩, 0, ⟨[(0, (.sl (.int .i64))), (1, (.sl (.int .i64)))], [], [], [], []⟩, 999992, ⟨[], [], [], [], []⟩, ⟨[(4, .bool)], [], [], [], []⟩⟩
theorem bev68_9 (m100 : Int → Bool) (x : (((List Int) × (List Int) × Int × Unit) × (Unit))) : evB Θ tyOf (clist [(100, .pure (K100 m100))]) Try.f68.ntmps (lmap []) (jlist []) (gnil) 70 A68_9 (loopBody (bodyOf Try.f68) 9) x =
  (bif (decide (x.1.2.2.1 < (Nat.cast (List.length x.1.2.1) : Int))) then bif ((decide ((0 : Int) ≤ x.1.2.2.1)) && (decide (x.1.2.2.1 < (Nat.cast (List.length x.1.2.1) : Int)))) then bif (decide ((List.getD x.1.2.1 (Int.toNat x.1.2.2.1) (dflt (Ty.int IntKind.i64))) < (0 : Int))) then some (Out.ret ((false, ()), ()))
      else bif ((decide ((0 : Int) ≤ x.1.2.2.1)) && (decide (x.1.2.2.1 < (Nat.cast (List.length x.1.2.1) : Int)))) then bif (decide ((List.getD x.1.2.1 (Int.toNat x.1.2.2.1) (dflt (Ty.int IntKind.i64))) ≥ (IntKind.wrap IntKind.i64 ((2 : Int) * (Nat.cast (List.length x.1.1) : Int))))) then some (Out.ret ((false, ()), ()))
        else bif ((decide ((0 : Int) ≤ x.1.2.2.1)) && (decide (x.1.2.2.1 < (Nat.cast (List.length x.1.2.1) : Int)))) then bif ((Int.tmod (List.getD x.1.2.1 (Int.toNat x.1.2.2.1) (dflt (Ty.int IntKind.i64))) (2 : Int)) != (0 : Int)) then some (Out.ret ((false, ()), ()))
          else bif (decide (x.1.2.2.1 > (0 : Int))) then bif ((decide ((0 : Int) ≤ x.1.2.2.1)) && (decide (x.1.2.2.1 < (Nat.cast (List.length x.1.2.1) : Int)))) then bif ((decide ((0 : Int) ≤ (IntKind.wrap IntKind.i64 (x.1.2.2.1 - (1 : Int))))) && (decide ((IntKind.wrap IntKind.i64 (x.1.2.2.1 - (1 : Int))) < (Nat.cast (List.length x.1.2.1) : Int)))) then bif (decide ((List.getD x.1.2.1 (Int.toNat x.1.2.2.1) (dflt (Ty.int IntKind.i64))) ≤ (List.getD x.1.2.1 (Int.toNat (IntKind.wrap IntKind.i64 (x.1.2.2.1 - (1 : Int)))) (dflt (Ty.int IntKind.i64))))) then some (Out.ret ((false, ()), ()))
                else some (Out.next ((x.1.1, (x.1.2.1, ((IntKind.wrap IntKind.i64 (x.1.2.2.1 + (1 : Int))), ()))), ()))
              else none
            else none
          else some (Out.next ((x.1.1, (x.1.2.1, ((IntKind.wrap IntKind.i64 (x.1.2.2.1 + (1 : Int))), ()))), ()))
        else none
      else none
    else none
  else some (Out.brk ((), ())) : Option (Out (((List Int) × (List Int) × Int × Unit) × (Unit)) ((Unit) × (Unit)) ((Unit) × (Unit)) ((Bool × Unit) × (Unit)))) := by kernel_rfl
theorem seg68_9 : SegOK Try.prog Try.f68.ntmps (.loop (loopBody (bodyOf Try.f68) 9)) (segL A68_9 X.R08_Right_l9) :=
  segL_ok (body := X.R08_Right_b9) (C := clist [(100, .pure (K100 X.R08_Size))]) (J := jlist []) (G := gnil) (N := 70) (base := (lmap [])) tabOK mixedOK typOK (cl_cons con100 cl_nil) (segsOK_nil _) (by kernel_rfl) (fun x => bev68_9 X.R08_Size x) (fun x y h => ⟨_, h⟩)
theorem bev68_4 (m100 : Int → Bool) (x : (((List Int) × (List Int) × Int × Unit) × (Unit))) : evB Θ tyOf (clist [(100, .pure (K100 m100))]) Try.f68.ntmps (lmap []) (jlist []) (gnil) 70 A68_4 (loopBody (bodyOf Try.f68) 4) x =
  (bif (decide (x.1.2.2.1 < (Nat.cast (List.length x.1.1) : Int))) then bif ((decide ((0 : Int) ≤ x.1.2.2.1)) && (decide (x.1.2.2.1 < (Nat.cast (List.length x.1.1) : Int)))) then bif (decide ((List.getD x.1.1 (Int.toNat x.1.2.2.1) (dflt (Ty.int IntKind.i64))) < (0 : Int))) then some (Out.ret ((false, ()), ()))
      else bif ((decide ((0 : Int) ≤ x.1.2.2.1)) && (decide (x.1.2.2.1 < (Nat.cast (List.length x.1.1) : Int)))) then bif (decide ((List.getD x.1.1 (Int.toNat x.1.2.2.1) (dflt (Ty.int IntKind.i64))) > (65535 : Int))) then some (Out.ret ((false, ()), ()))
        else some (Out.next ((x.1.1, (x.1.2.1, ((IntKind.wrap IntKind.i64 (x.1.2.2.1 + (1 : Int))), ()))), ()))
      else none
    else none
  else some (Out.brk ((x.1.1, (x.1.2.1, ())), ())) : Option (Out (((List Int) × (List Int) × Int × Unit) × (Unit)) (((List Int) × (List Int) × Unit) × (Unit)) ((Unit) × (Unit)) ((Bool × Unit) × (Unit)))) := by kernel_rfl
theorem seg68_4 : SegOK Try.prog Try.f68.ntmps (.loop (loopBody (bodyOf Try.f68) 4)) (segL A68_4 X.R08_Right_l4) :=
  segL_ok (body := X.R08_Right_b4) (C := clist [(100, .pure (K100 X.R08_Size))]) (J := jlist []) (G := gnil) (N := 70) (base := (lmap [])) tabOK mixedOK typOK (cl_cons con100 cl_nil) (segsOK_nil _) (by kernel_rfl) (fun x => bev68_4 X.R08_Size x) (fun x y h => ⟨_, h⟩)
theorem ev68 (m100 : Int → Bool) (r9 : (((List Int) × (List Int) × Int × Unit) × (Unit)) → Option (Out (((List Int) × (List Int) × Int × Unit) × (Unit)) ((Unit) × (Unit)) ((Unit) × (Unit)) ((Bool × Unit) × (Unit)))) (r4 : (((List Int) × (List Int) × Int × Unit) × (Unit)) → Option (Out (((List Int) × (List Int) × Int × Unit) × (Unit)) (((List Int) × (List Int) × Unit) × (Unit)) ((Unit) × (Unit)) ((Bool × Unit) × (Unit)))) (a : List Int) (b : List Int) : evF Θ tyOf (clist [(100, .pure (K100 m100))]) Try.f68.ntmps (lmap []) (jlist []) (glist [(9, segL A68_9 r9), (4, segL A68_4 r4)]) 70 (bodyOf Try.f68) Try.f68.results.toList [(.sl (.int .i64)), (.sl (.int .i64))] [.bool] (a, b, ()) =
  (bif (!(m100 (IntKind.wrap IntKind.i64 ((2 : Int) * (Nat.cast (List.length a) : Int))))) then some (false, ())
  else match (r4 ((a, (b, ((0 : Int), Unit.unit))), Unit.unit)) with
  | some y0 => match y0 with
    | .next w1 => none
    | .brk w2 => match (r9 ((w2.1.1, (w2.1.2.1, ((0 : Int), Unit.unit))), Unit.unit)) with
      | some y3 => match y3 with
        | .next w4 => none
        | .brk w5 => some (true, ())
        | .brk2 w6 => none
        | .ret w7 => some (w7.1.1, ())
      | none => none
    | .brk2 w8 => none
    | .ret w9 => some (w9.1.1, ())
  | none => none : Option (Bool × Unit)) := by kernel_rfl
theorem con68 : ConOK Try.prog 68 (K68 X.R08_Right) := con_of (C := clist [(100, .pure (K100 X.R08_Size))]) (J := jlist []) (G := glist [(9, segL A68_9 X.R08_Right_l9), (4, segL A68_4 X.R08_Right_l4)]) (N := 70) (ℓ := (lmap [])) (cl_cons con100 cl_nil) (segsOK_g (code := bodyOf Try.f68) (by kernel_rfl) ⟨seg68_9, seg68_4, trivial⟩) rfl rfl Try.func68 rfl Try.call68 rfl fun x => (ev68 X.R08_Size X.R08_Right_l9 X.R08_Right_l4 x.1 x.2.1).trans (by kernel_rfl)

noncomputable def K30 (m30 : M.Emulatorlaw21_Memory → Option (Bool × Unit)) : Con := ⟨[(.st .sEmulatorlaw21_Memory)], [.bool], fun x => m30 x.1⟩
theorem ev30 (m68 : (List Int) → (List Int) → Option (Bool × Unit)) (a : M.Emulatorlaw21_Memory) : evF Θ tyOf (clist [(68, .pure (K68 m68))]) Try.f30.ntmps (lmap []) (jlist []) (gnil) 70 (bodyOf Try.f30) Try.f30.results.toList [(.st .sEmulatorlaw21_Memory)] [.bool] (a, ()) =
  (bif (decide ((Nat.cast (List.length a.Mem) : Int) ≤ (512 : Int))) then bif (decide ((Nat.cast (List.length a.Bad) : Int) ≤ (512 : Int))) then match (m68 a.Mem a.Bad) with
      | some y0 => some (y0.1, ())
      | none => none
    else some (false, ())
  else some (false, ()) : Option (Bool × Unit)) := by kernel_rfl
theorem con30 : ConOK Try.prog 30 (K30 X.L21_Memory_good) := con_of (C := clist [(68, .pure (K68 X.R08_Right))]) (J := jlist []) (G := gnil) (N := 70) (ℓ := (lmap [])) (cl_cons con68 cl_nil) (segsOK_nil _) rfl rfl Try.func30 rfl Try.call30 rfl fun x => (ev30 X.R08_Right x.1).trans (by kernel_rfl)

noncomputable def K86 (m86 : (Vector M.Inst_form 56)) : Con := ⟨[], [(.arr 56 (.st .sInst_form))], fun x => some (m86, ())⟩
theorem ev86   : evF Θ tyOf (clist []) Try.f86.ntmps (lmap []) (jlist []) (gnil) 70 (bodyOf Try.f86) Try.f86.results.toList [] [(.arr 56 (.st .sInst_form))] (()) =
  (some ((Vector.setIfInBounds (Vector.setIfInBounds (Vector.setIfInBounds (Vector.setIfInBounds (Vector.setIfInBounds (Vector.setIfInBounds (Vector.setIfInBounds (Vector.setIfInBounds (Vector.setIfInBounds (Vector.setIfInBounds (Vector.setIfInBounds (Vector.setIfInBounds (Vector.setIfInBounds (Vector.setIfInBounds (Vector.setIfInBounds (Vector.setIfInBounds (Vector.setIfInBounds (Vector.setIfInBounds (Vector.setIfInBounds (Vector.setIfInBounds (Vector.setIfInBounds (Vector.setIfInBounds (Vector.setIfInBounds (Vector.setIfInBounds (Vector.setIfInBounds (Vector.setIfInBounds (Vector.setIfInBounds (Vector.setIfInBounds (Vector.setIfInBounds (Vector.setIfInBounds (Vector.setIfInBounds (Vector.setIfInBounds (Vector.setIfInBounds (Vector.setIfInBounds (Vector.setIfInBounds (Vector.setIfInBounds (Vector.setIfInBounds (Vector.setIfInBounds (Vector.setIfInBounds (Vector.setIfInBounds (Vector.setIfInBounds (Vector.setIfInBounds (Vector.setIfInBounds (Vector.setIfInBounds (Vector.setIfInBounds (Vector.setIfInBounds (Vector.setIfInBounds (Vector.setIfInBounds (Vector.setIfInBounds (Vector.setIfInBounds (Vector.setIfInBounds (Vector.setIfInBounds (Vector.setIfInBounds (Vector.setIfInBounds (Vector.setIfInBounds (Vector.setIfInBounds (dflt (Ty.arr 56 (Ty.st SId.sInst_form))) 0 (⟨(4096 : Int), (12 : Int), (1 : Int), (1 : Int), true⟩ : M.Inst_form)) 1 (⟨(8192 : Int), (12 : Int), (2 : Int), (1 : Int), true⟩ : M.Inst_form)) 2 (⟨(12288 : Int), (12 : Int), (3 : Int), (1 : Int), true⟩ : M.Inst_form)) 3 (⟨(16384 : Int), (12 : Int), (4 : Int), (1 : Int), true⟩ : M.Inst_form)) 4 (⟨(20480 : Int), (12 : Int), (5 : Int), (1 : Int), true⟩ : M.Inst_form)) 5 (⟨(24576 : Int), (12 : Int), (6 : Int), (1 : Int), false⟩ : M.Inst_form)) 6 (⟨(57344 : Int), (12 : Int), (7 : Int), (1 : Int), false⟩ : M.Inst_form)) 7 (⟨(28672 : Int), (9 : Int), (8 : Int), (5 : Int), false⟩ : M.Inst_form)) 8 (⟨(29184 : Int), (9 : Int), (9 : Int), (5 : Int), false⟩ : M.Inst_form)) 9 (⟨(29696 : Int), (9 : Int), (10 : Int), (5 : Int), false⟩ : M.Inst_form)) 10 (⟨(30720 : Int), (9 : Int), (11 : Int), (6 : Int), false⟩ : M.Inst_form)) 11 (⟨(2560 : Int), (6 : Int), (12 : Int), (3 : Int), true⟩ : M.Inst_form)) 12 (⟨(2624 : Int), (6 : Int), (13 : Int), (3 : Int), true⟩ : M.Inst_form)) 13 (⟨(2688 : Int), (6 : Int), (14 : Int), (3 : Int), true⟩ : M.Inst_form)) 14 (⟨(2752 : Int), (6 : Int), (15 : Int), (3 : Int), true⟩ : M.Inst_form)) 15 (⟨(2816 : Int), (6 : Int), (16 : Int), (3 : Int), true⟩ : M.Inst_form)) 16 (⟨(2880 : Int), (6 : Int), (17 : Int), (3 : Int), true⟩ : M.Inst_form)) 17 (⟨(2944 : Int), (6 : Int), (18 : Int), (3 : Int), true⟩ : M.Inst_form)) 18 (⟨(3008 : Int), (6 : Int), (19 : Int), (3 : Int), true⟩ : M.Inst_form)) 19 (⟨(3072 : Int), (6 : Int), (20 : Int), (3 : Int), true⟩ : M.Inst_form)) 20 (⟨(3136 : Int), (6 : Int), (21 : Int), (3 : Int), true⟩ : M.Inst_form)) 21 (⟨(3200 : Int), (6 : Int), (22 : Int), (3 : Int), true⟩ : M.Inst_form)) 22 (⟨(3264 : Int), (6 : Int), (23 : Int), (3 : Int), true⟩ : M.Inst_form)) 23 (⟨(192 : Int), (6 : Int), (24 : Int), (3 : Int), false⟩ : M.Inst_form)) 24 (⟨(3520 : Int), (6 : Int), (25 : Int), (3 : Int), false⟩ : M.Inst_form)) 25 (⟨(3392 : Int), (6 : Int), (55 : Int), (2 : Int), false⟩ : M.Inst_form)) 26 (⟨(3456 : Int), (6 : Int), (56 : Int), (3 : Int), false⟩ : M.Inst_form)) 27 (⟨(64 : Int), (6 : Int), (41 : Int), (4 : Int), false⟩ : M.Inst_form)) 28 (⟨(2048 : Int), (9 : Int), (42 : Int), (7 : Int), false⟩ : M.Inst_form)) 29 (⟨(128 : Int), (3 : Int), (43 : Int), (8 : Int), false⟩ : M.Inst_form)) 30 (⟨(32256 : Int), (9 : Int), (44 : Int), (10 : Int), false⟩ : M.Inst_form)) 31 (⟨(256 : Int), (8 : Int), (26 : Int), (9 : Int), false⟩ : M.Inst_form)) 32 (⟨(512 : Int), (8 : Int), (27 : Int), (9 : Int), false⟩ : M.Inst_form)) 33 (⟨(768 : Int), (8 : Int), (28 : Int), (9 : Int), false⟩ : M.Inst_form)) 34 (⟨(1024 : Int), (8 : Int), (29 : Int), (9 : Int), false⟩ : M.Inst_form)) 35 (⟨(1280 : Int), (8 : Int), (30 : Int), (9 : Int), false⟩ : M.Inst_form)) 36 (⟨(1536 : Int), (8 : Int), (31 : Int), (9 : Int), false⟩ : M.Inst_form)) 37 (⟨(1792 : Int), (8 : Int), (32 : Int), (9 : Int), false⟩ : M.Inst_form)) 38 (⟨(32768 : Int), (8 : Int), (33 : Int), (9 : Int), false⟩ : M.Inst_form)) 39 (⟨(33024 : Int), (8 : Int), (34 : Int), (9 : Int), false⟩ : M.Inst_form)) 40 (⟨(33280 : Int), (8 : Int), (35 : Int), (9 : Int), false⟩ : M.Inst_form)) 41 (⟨(33536 : Int), (8 : Int), (36 : Int), (9 : Int), false⟩ : M.Inst_form)) 42 (⟨(33792 : Int), (8 : Int), (37 : Int), (9 : Int), false⟩ : M.Inst_form)) 43 (⟨(34048 : Int), (8 : Int), (38 : Int), (9 : Int), false⟩ : M.Inst_form)) 44 (⟨(34304 : Int), (8 : Int), (39 : Int), (9 : Int), false⟩ : M.Inst_form)) 45 (⟨(34560 : Int), (8 : Int), (40 : Int), (9 : Int), false⟩ : M.Inst_form)) 46 (⟨(34816 : Int), (8 : Int), (45 : Int), (11 : Int), false⟩ : M.Inst_form)) 47 (⟨(35072 : Int), (8 : Int), (46 : Int), (11 : Int), false⟩ : M.Inst_form)) 48 (⟨(160 : Int), (4 : Int), (53 : Int), (12 : Int), false⟩ : M.Inst_form)) 49 (⟨(176 : Int), (4 : Int), (54 : Int), (12 : Int), false⟩ : M.Inst_form)) 50 (⟨(0 : Int), (0 : Int), (50 : Int), (0 : Int), false⟩ : M.Inst_form)) 51 (⟨(1 : Int), (0 : Int), (51 : Int), (0 : Int), false⟩ : M.Inst_form)) 52 (⟨(2 : Int), (0 : Int), (49 : Int), (0 : Int), false⟩ : M.Inst_form)) 53 (⟨(3 : Int), (0 : Int), (47 : Int), (0 : Int), false⟩ : M.Inst_form)) 54 (⟨(4 : Int), (0 : Int), (48 : Int), (0 : Int), false⟩ : M.Inst_form)) 55 (⟨(5 : Int), (0 : Int), (52 : Int), (0 : Int), false⟩ : M.Inst_form)), ()) : Option ((Vector M.Inst_form 56) × Unit)) := by kernel_rfl
theorem tot86  : (some ((Vector.setIfInBounds (Vector.setIfInBounds (Vector.setIfInBounds (Vector.setIfInBounds (Vector.setIfInBounds (Vector.setIfInBounds (Vector.setIfInBounds (Vector.setIfInBounds (Vector.setIfInBounds (Vector.setIfInBounds (Vector.setIfInBounds (Vector.setIfInBounds (Vector.setIfInBounds (Vector.setIfInBounds (Vector.setIfInBounds (Vector.setIfInBounds (Vector.setIfInBounds (Vector.setIfInBounds (Vector.setIfInBounds (Vector.setIfInBounds (Vector.setIfInBounds (Vector.setIfInBounds (Vector.setIfInBounds (Vector.setIfInBounds (Vector.setIfInBounds (Vector.setIfInBounds (Vector.setIfInBounds (Vector.setIfInBounds (Vector.setIfInBounds (Vector.setIfInBounds (Vector.setIfInBounds (Vector.setIfInBounds (Vector.setIfInBounds (Vector.setIfInBounds (Vector.setIfInBounds (Vector.setIfInBounds (Vector.setIfInBounds (Vector.setIfInBounds (Vector.setIfInBounds (Vector.setIfInBounds (Vector.setIfInBounds (Vector.setIfInBounds (Vector.setIfInBounds (Vector.setIfInBounds (Vector.setIfInBounds (Vector.setIfInBounds (Vector.setIfInBounds (Vector.setIfInBounds (Vector.setIfInBounds (Vector.setIfInBounds (Vector.setIfInBounds (Vector.setIfInBounds (Vector.setIfInBounds (Vector.setIfInBounds (Vector.setIfInBounds (Vector.setIfInBounds (dflt (Ty.arr 56 (Ty.st SId.sInst_form))) 0 (⟨(4096 : Int), (12 : Int), (1 : Int), (1 : Int), true⟩ : M.Inst_form)) 1 (⟨(8192 : Int), (12 : Int), (2 : Int), (1 : Int), true⟩ : M.Inst_form)) 2 (⟨(12288 : Int), (12 : Int), (3 : Int), (1 : Int), true⟩ : M.Inst_form)) 3 (⟨(16384 : Int), (12 : Int), (4 : Int), (1 : Int), true⟩ : M.Inst_form)) 4 (⟨(20480 : Int), (12 : Int), (5 : Int), (1 : Int), true⟩ : M.Inst_form)) 5 (⟨(24576 : Int), (12 : Int), (6 : Int), (1 : Int), false⟩ : M.Inst_form)) 6 (⟨(57344 : Int), (12 : Int), (7 : Int), (1 : Int), false⟩ : M.Inst_form)) 7 (⟨(28672 : Int), (9 : Int), (8 : Int), (5 : Int), false⟩ : M.Inst_form)) 8 (⟨(29184 : Int), (9 : Int), (9 : Int), (5 : Int), false⟩ : M.Inst_form)) 9 (⟨(29696 : Int), (9 : Int), (10 : Int), (5 : Int), false⟩ : M.Inst_form)) 10 (⟨(30720 : Int), (9 : Int), (11 : Int), (6 : Int), false⟩ : M.Inst_form)) 11 (⟨(2560 : Int), (6 : Int), (12 : Int), (3 : Int), true⟩ : M.Inst_form)) 12 (⟨(2624 : Int), (6 : Int), (13 : Int), (3 : Int), true⟩ : M.Inst_form)) 13 (⟨(2688 : Int), (6 : Int), (14 : Int), (3 : Int), true⟩ : M.Inst_form)) 14 (⟨(2752 : Int), (6 : Int), (15 : Int), (3 : Int), true⟩ : M.Inst_form)) 15 (⟨(2816 : Int), (6 : Int), (16 : Int), (3 : Int), true⟩ : M.Inst_form)) 16 (⟨(2880 : Int), (6 : Int), (17 : Int), (3 : Int), true⟩ : M.Inst_form)) 17 (⟨(2944 : Int), (6 : Int), (18 : Int), (3 : Int), true⟩ : M.Inst_form)) 18 (⟨(3008 : Int), (6 : Int), (19 : Int), (3 : Int), true⟩ : M.Inst_form)) 19 (⟨(3072 : Int), (6 : Int), (20 : Int), (3 : Int), true⟩ : M.Inst_form)) 20 (⟨(3136 : Int), (6 : Int), (21 : Int), (3 : Int), true⟩ : M.Inst_form)) 21 (⟨(3200 : Int), (6 : Int), (22 : Int), (3 : Int), true⟩ : M.Inst_form)) 22 (⟨(3264 : Int), (6 : Int), (23 : Int), (3 : Int), true⟩ : M.Inst_form)) 23 (⟨(192 : Int), (6 : Int), (24 : Int), (3 : Int), false⟩ : M.Inst_form)) 24 (⟨(3520 : Int), (6 : Int), (25 : Int), (3 : Int), false⟩ : M.Inst_form)) 25 (⟨(3392 : Int), (6 : Int), (55 : Int), (2 : Int), false⟩ : M.Inst_form)) 26 (⟨(3456 : Int), (6 : Int), (56 : Int), (3 : Int), false⟩ : M.Inst_form)) 27 (⟨(64 : Int), (6 : Int), (41 : Int), (4 : Int), false⟩ : M.Inst_form)) 28 (⟨(2048 : Int), (9 : Int), (42 : Int), (7 : Int), false⟩ : M.Inst_form)) 29 (⟨(128 : Int), (3 : Int), (43 : Int), (8 : Int), false⟩ : M.Inst_form)) 30 (⟨(32256 : Int), (9 : Int), (44 : Int), (10 : Int), false⟩ : M.Inst_form)) 31 (⟨(256 : Int), (8 : Int), (26 : Int), (9 : Int), false⟩ : M.Inst_form)) 32 (⟨(512 : Int), (8 : Int), (27 : Int), (9 : Int), false⟩ : M.Inst_form)) 33 (⟨(768 : Int), (8 : Int), (28 : Int), (9 : Int), false⟩ : M.Inst_form)) 34 (⟨(1024 : Int), (8 : Int), (29 : Int), (9 : Int), false⟩ : M.Inst_form)) 35 (⟨(1280 : Int), (8 : Int), (30 : Int), (9 : Int), false⟩ : M.Inst_form)) 36 (⟨(1536 : Int), (8 : Int), (31 : Int), (9 : Int), false⟩ : M.Inst_form)) 37 (⟨(1792 : Int), (8 : Int), (32 : Int), (9 : Int), false⟩ : M.Inst_form)) 38 (⟨(32768 : Int), (8 : Int), (33 : Int), (9 : Int), false⟩ : M.Inst_form)) 39 (⟨(33024 : Int), (8 : Int), (34 : Int), (9 : Int), false⟩ : M.Inst_form)) 40 (⟨(33280 : Int), (8 : Int), (35 : Int), (9 : Int), false⟩ : M.Inst_form)) 41 (⟨(33536 : Int), (8 : Int), (36 : Int), (9 : Int), false⟩ : M.Inst_form)) 42 (⟨(33792 : Int), (8 : Int), (37 : Int), (9 : Int), false⟩ : M.Inst_form)) 43 (⟨(34048 : Int), (8 : Int), (38 : Int), (9 : Int), false⟩ : M.Inst_form)) 44 (⟨(34304 : Int), (8 : Int), (39 : Int), (9 : Int), false⟩ : M.Inst_form)) 45 (⟨(34560 : Int), (8 : Int), (40 : Int), (9 : Int), false⟩ : M.Inst_form)) 46 (⟨(34816 : Int), (8 : Int), (45 : Int), (11 : Int), false⟩ : M.Inst_form)) 47 (⟨(35072 : Int), (8 : Int), (46 : Int), (11 : Int), false⟩ : M.Inst_form)) 48 (⟨(160 : Int), (4 : Int), (53 : Int), (12 : Int), false⟩ : M.Inst_form)) 49 (⟨(176 : Int), (4 : Int), (54 : Int), (12 : Int), false⟩ : M.Inst_form)) 50 (⟨(0 : Int), (0 : Int), (50 : Int), (0 : Int), false⟩ : M.Inst_form)) 51 (⟨(1 : Int), (0 : Int), (51 : Int), (0 : Int), false⟩ : M.Inst_form)) 52 (⟨(2 : Int), (0 : Int), (49 : Int), (0 : Int), false⟩ : M.Inst_form)) 53 (⟨(3 : Int), (0 : Int), (47 : Int), (0 : Int), false⟩ : M.Inst_form)) 54 (⟨(4 : Int), (0 : Int), (48 : Int), (0 : Int), false⟩ : M.Inst_form)) 55 (⟨(5 : Int), (0 : Int), (52 : Int), (0 : Int), false⟩ : M.Inst_form)), ()) : Option ((Vector M.Inst_form 56) × Unit)) = some (X.inst_forms, ()) := by (unfold X.inst_forms; (try simp only [cond_some, cond_prod, cond_fst, cond_snd, cond_unit]); first | done | kernel_rfl)
theorem con86 : ConOK Try.prog 86 (K86 X.inst_forms) := con_of (C := clist []) (J := jlist []) (G := gnil) (N := 70) (ℓ := (lmap [])) cl_nil (segsOK_nil _) rfl rfl Try.func86 rfl Try.call86 rfl fun x => (ev86).trans (by exact tot86 )

noncomputable def K51 (m51 : Int → Option (M.Inst_form × Bool × Bool × Unit)) : Con := ⟨[(.int .i64)], [(.st .sInst_form), .bool, .bool], fun x => m51 x.1⟩
def A51_2 : LAnn := ⟨⟨[(0, (.int .i64)), (7, (.arr 56 (.st .sInst_form))), (8, (.int .i64))], [(2, 2)], [(2, (.st .sInst_form))], [], []⟩, 0, ⟨[], [(2, 2)], [(2, (.st .sInst_form))], [], []⟩, 999992, ⟨[], [], [], [], []⟩, ⟨[(3, .bool), (4, .bool)], [(2, 2)], [(2, (.st .sInst_form))], [], []⟩⟩
theorem bev51_2 (m86 : (Vector M.Inst_form 56)) (x : ((Int × (Vector M.Inst_form 56) × Int × Unit) × (M.Inst_form × Unit))) : evB Θ tyOf (clist [(86, .pure (K86 m86))]) Try.f51.ntmps (lmap []) (jlist []) (gnil) 70 A51_2 (loopBody (bodyOf Try.f51) 2) x =
  (bif (decide (x.1.2.2.1 < (56 : Int))) then bif ((decide ((0 : Int) ≤ x.1.2.2.1)) && (decide (x.1.2.2.1 < (Nat.cast 56 : Int)))) then bif (decide ((0 : Int) ≤ (List.getD (Vector.toList x.1.2.1) (Int.toNat x.1.2.2.1) (dflt (Ty.st SId.sInst_form))).bits)) then bif (decide ((0 : Int) ≤ (List.getD (Vector.toList x.1.2.1) (Int.toNat x.1.2.2.1) (dflt (Ty.st SId.sInst_form))).bits)) then bif ((IntKind.wrap IntKind.i64 ((Int.fdiv x.1.1 ((2 : Int) ^ (Min.min (Int.toNat (List.getD (Vector.toList x.1.2.1) (Int.toNat x.1.2.2.1) (dflt (Ty.st SId.sInst_form))).bits) (IntKind.bits IntKind.i64)))) * ((2 : Int) ^ (Min.min (Int.toNat (List.getD (Vector.toList x.1.2.1) (Int.toNat x.1.2.2.1) (dflt (Ty.st SId.sInst_form))).bits) (IntKind.bits IntKind.i64))))) == (List.getD (Vector.toList x.1.2.1) (Int.toNat x.1.2.2.1) (dflt (Ty.st SId.sInst_form))).first) then some (Out.ret ((false, (true, ())), ((List.getD (Vector.toList x.1.2.1) (Int.toNat x.1.2.2.1) (dflt (Ty.st SId.sInst_form))), ())))
          else bif ((IntKind.wrap IntKind.i64 ((Int.fdiv x.1.1 ((2 : Int) ^ (Min.min (Int.toNat (List.getD (Vector.toList x.1.2.1) (Int.toNat x.1.2.2.1) (dflt (Ty.st SId.sInst_form))).bits) (IntKind.bits IntKind.i64)))) * ((2 : Int) ^ (Min.min (Int.toNat (List.getD (Vector.toList x.1.2.1) (Int.toNat x.1.2.2.1) (dflt (Ty.st SId.sInst_form))).bits) (IntKind.bits IntKind.i64))))) == (bitOf BinOp.or IntKind.i64 (List.getD (Vector.toList x.1.2.1) (Int.toNat x.1.2.2.1) (dflt (Ty.st SId.sInst_form))).first (32768 : Int))) then bif (List.getD (Vector.toList x.1.2.1) (Int.toNat x.1.2.2.1) (dflt (Ty.st SId.sInst_form))).bytes then some (Out.ret ((true, (true, ())), ((List.getD (Vector.toList x.1.2.1) (Int.toNat x.1.2.2.1) (dflt (Ty.st SId.sInst_form))), ())))
            else some (Out.next ((x.1.1, (x.1.2.1, ((IntKind.wrap IntKind.i64 (x.1.2.2.1 + (1 : Int))), ()))), (x.2.1, ())))
          else some (Out.next ((x.1.1, (x.1.2.1, ((IntKind.wrap IntKind.i64 (x.1.2.2.1 + (1 : Int))), ()))), (x.2.1, ())))
        else none
      else none
    else none
  else some (Out.brk ((), (x.2.1, ()))) : Option (Out ((Int × (Vector M.Inst_form 56) × Int × Unit) × (M.Inst_form × Unit)) ((Unit) × (M.Inst_form × Unit)) ((Unit) × (Unit)) ((Bool × Bool × Unit) × (M.Inst_form × Unit)))) := by kernel_rfl
theorem seg51_2 : SegOK Try.prog Try.f51.ntmps (.loop (loopBody (bodyOf Try.f51) 2)) (segL A51_2 X.inst_formOf_l2) :=
  segL_ok (body := X.inst_formOf_b2) (C := clist [(86, .pure (K86 X.inst_forms))]) (J := jlist []) (G := gnil) (N := 70) (base := (lmap [])) tabOK mixedOK typOK (cl_cons con86 cl_nil) (segsOK_nil _) (by kernel_rfl) (fun x => bev51_2 X.inst_forms x) (fun x y h => ⟨_, h⟩)
theorem ev51 (m86 : (Vector M.Inst_form 56)) (r2 : ((Int × (Vector M.Inst_form 56) × Int × Unit) × (M.Inst_form × Unit)) → Option (Out ((Int × (Vector M.Inst_form 56) × Int × Unit) × (M.Inst_form × Unit)) ((Unit) × (M.Inst_form × Unit)) ((Unit) × (Unit)) ((Bool × Bool × Unit) × (M.Inst_form × Unit)))) (a : Int) : evF Θ tyOf (clist [(86, .pure (K86 m86))]) Try.f51.ntmps (lmap []) (jlist []) (glist [(2, segL A51_2 r2)]) 70 (bodyOf Try.f51) Try.f51.results.toList [(.int .i64)] [(.st .sInst_form), .bool, .bool] (a, ()) =
  (match (r2 ((a, (m86, ((0 : Int), Unit.unit))), ((⟨(0 : Int), (0 : Int), (0 : Int), (0 : Int), false⟩ : M.Inst_form), Unit.unit))) with
  | some y0 => match y0 with
    | .next w1 => none
    | .brk w2 => some ((⟨(0 : Int), (0 : Int), (0 : Int), (0 : Int), false⟩ : M.Inst_form), false, false, ())
    | .brk2 w3 => none
    | .ret w4 => some (w4.2.1, w4.1.1, w4.1.2.1, ())
  | none => none : Option (M.Inst_form × Bool × Bool × Unit)) := by kernel_rfl
theorem con51 : ConOK Try.prog 51 (K51 X.inst_formOf) := con_of (C := clist [(86, .pure (K86 X.inst_forms))]) (J := jlist []) (G := glist [(2, segL A51_2 X.inst_formOf_l2)]) (N := 70) (ℓ := (lmap [])) (cl_cons con86 cl_nil) (segsOK_g (code := bodyOf Try.f51) (by kernel_rfl) ⟨seg51_2, trivial⟩) rfl rfl Try.func51 rfl Try.call51 rfl fun x => (ev51 X.inst_forms X.inst_formOf_l2 x.1).trans (by kernel_rfl)

noncomputable def K87 (m87 : Int → M.Operand) : Con := ⟨[(.int .i64)], [(.st .sOperand)], fun x => some ((m87 x.1), ())⟩
theorem ev87  (a : Int) : evF Θ tyOf (clist []) Try.f87.ntmps (lmap []) (jlist []) (gnil) 70 (bodyOf Try.f87) Try.f87.results.toList [(.int .i64)] [(.st .sOperand)] (a, ()) =
  (some ((⟨(bitOf BinOp.and IntKind.i64 (Int.fdiv a ((2 : Int) ^ (3 : Nat))) (7 : Int)), (bitOf BinOp.and IntKind.i64 a (7 : Int)), (0 : Int)⟩ : M.Operand), ()) : Option (M.Operand × Unit)) := by kernel_rfl
theorem tot87 (a : Int) : (some ((⟨(bitOf BinOp.and IntKind.i64 (Int.fdiv a ((2 : Int) ^ (3 : Nat))) (7 : Int)), (bitOf BinOp.and IntKind.i64 a (7 : Int)), (0 : Int)⟩ : M.Operand), ()) : Option (M.Operand × Unit)) = some ((X.operand_From a), ()) := by (unfold X.operand_From; (try simp only [cond_some, cond_prod, cond_fst, cond_snd, cond_unit]); first | done | kernel_rfl)
theorem con87 : ConOK Try.prog 87 (K87 X.operand_From) := con_of (C := clist []) (J := jlist []) (G := gnil) (N := 70) (ℓ := (lmap [])) cl_nil (segsOK_nil _) rfl rfl Try.func87 rfl Try.call87 rfl fun x => (ev87 x.1).trans (by exact tot87 x.1)

noncomputable def K52 (m52 : M.Inst_form → Int → M.Inst) : Con := ⟨[(.st .sInst_form), (.int .i64)], [(.st .sInst)], fun x => some ((m52 x.1 x.2.1), ())⟩
theorem ev52 (m87 : Int → M.Operand) (a : M.Inst_form) (b : Int) : evF Θ tyOf (clist [(87, .pure (K87 m87))]) Try.f52.ntmps (lmap []) (jlist []) (gnil) 70 (bodyOf Try.f52) Try.f52.results.toList [(.st .sInst_form), (.int .i64)] [(.st .sInst)] (a, b, ()) =
  (bif (a.shape == (1 : Int)) then some ((⟨a.op, false, (m87 (Int.fdiv b ((2 : Int) ^ (6 : Nat)))), (m87 b), (0 : Int), (0 : Int)⟩ : M.Inst), ())
  else bif (a.shape == (2 : Int)) then some ((⟨a.op, false, (m87 b), (⟨(0 : Int), (0 : Int), (0 : Int)⟩ : M.Operand), (0 : Int), (0 : Int)⟩ : M.Inst), ())
  else bif (a.shape == (3 : Int)) then some ((⟨a.op, false, (⟨(0 : Int), (0 : Int), (0 : Int)⟩ : M.Operand), (m87 b), (0 : Int), (0 : Int)⟩ : M.Inst), ())
  else bif (a.shape == (4 : Int)) then some ((⟨a.op, false, (⟨(0 : Int), (0 : Int), (0 : Int)⟩ : M.Operand), (m87 b), (0 : Int), (0 : Int)⟩ : M.Inst), ())
  else bif (a.shape == (5 : Int)) then some ((⟨a.op, false, (m87 b), (⟨(0 : Int), (0 : Int), (0 : Int)⟩ : M.Operand), (bitOf BinOp.and IntKind.i64 (Int.fdiv b ((2 : Int) ^ (6 : Nat))) (7 : Int)), (0 : Int)⟩ : M.Inst), ())
  else bif (a.shape == (6 : Int)) then some ((⟨a.op, false, (⟨(0 : Int), (0 : Int), (0 : Int)⟩ : M.Operand), (m87 b), (bitOf BinOp.and IntKind.i64 (Int.fdiv b ((2 : Int) ^ (6 : Nat))) (7 : Int)), (0 : Int)⟩ : M.Inst), ())
  else bif (a.shape == (7 : Int)) then some ((⟨a.op, false, (⟨(0 : Int), (0 : Int), (0 : Int)⟩ : M.Operand), (m87 b), (bitOf BinOp.and IntKind.i64 (Int.fdiv b ((2 : Int) ^ (6 : Nat))) (7 : Int)), (0 : Int)⟩ : M.Inst), ())
  else bif (a.shape == (8 : Int)) then some ((⟨a.op, false, (⟨(0 : Int), (0 : Int), (0 : Int)⟩ : M.Operand), (⟨(0 : Int), (0 : Int), (0 : Int)⟩ : M.Operand), (bitOf BinOp.and IntKind.i64 b (7 : Int)), (0 : Int)⟩ : M.Inst), ())
  else bif (a.shape == (9 : Int)) then some ((⟨a.op, false, (⟨(0 : Int), (0 : Int), (0 : Int)⟩ : M.Operand), (⟨(0 : Int), (0 : Int), (0 : Int)⟩ : M.Operand), (0 : Int), (IntKind.wrap IntKind.i64 (IntKind.wrap IntKind.i8 b))⟩ : M.Inst), ())
  else bif (a.shape == (10 : Int)) then some ((⟨a.op, false, (⟨(0 : Int), (0 : Int), (0 : Int)⟩ : M.Operand), (⟨(0 : Int), (0 : Int), (0 : Int)⟩ : M.Operand), (bitOf BinOp.and IntKind.i64 (Int.fdiv b ((2 : Int) ^ (6 : Nat))) (7 : Int)), (bitOf BinOp.and IntKind.i64 b (63 : Int))⟩ : M.Inst), ())
  else bif (a.shape == (11 : Int)) then some ((⟨a.op, false, (⟨(0 : Int), (0 : Int), (0 : Int)⟩ : M.Operand), (⟨(0 : Int), (0 : Int), (0 : Int)⟩ : M.Operand), (0 : Int), (bitOf BinOp.and IntKind.i64 b (255 : Int))⟩ : M.Inst), ())
  else bif (a.shape == (12 : Int)) then some ((⟨a.op, false, (⟨(0 : Int), (0 : Int), (0 : Int)⟩ : M.Operand), (⟨(0 : Int), (0 : Int), (0 : Int)⟩ : M.Operand), (0 : Int), (bitOf BinOp.and IntKind.i64 b (15 : Int))⟩ : M.Inst), ())
  else some ((⟨a.op, false, (⟨(0 : Int), (0 : Int), (0 : Int)⟩ : M.Operand), (⟨(0 : Int), (0 : Int), (0 : Int)⟩ : M.Operand), (0 : Int), (0 : Int)⟩ : M.Inst), ()) : Option (M.Inst × Unit)) := by kernel_rfl
theorem tot52 (a : M.Inst_form) (b : Int) : (bif (a.shape == (1 : Int)) then some ((⟨a.op, false, (X.operand_From (Int.fdiv b ((2 : Int) ^ (6 : Nat)))), (X.operand_From b), (0 : Int), (0 : Int)⟩ : M.Inst), ())
  else bif (a.shape == (2 : Int)) then some ((⟨a.op, false, (X.operand_From b), (⟨(0 : Int), (0 : Int), (0 : Int)⟩ : M.Operand), (0 : Int), (0 : Int)⟩ : M.Inst), ())
  else bif (a.shape == (3 : Int)) then some ((⟨a.op, false, (⟨(0 : Int), (0 : Int), (0 : Int)⟩ : M.Operand), (X.operand_From b), (0 : Int), (0 : Int)⟩ : M.Inst), ())
  else bif (a.shape == (4 : Int)) then some ((⟨a.op, false, (⟨(0 : Int), (0 : Int), (0 : Int)⟩ : M.Operand), (X.operand_From b), (0 : Int), (0 : Int)⟩ : M.Inst), ())
  else bif (a.shape == (5 : Int)) then some ((⟨a.op, false, (X.operand_From b), (⟨(0 : Int), (0 : Int), (0 : Int)⟩ : M.Operand), (bitOf BinOp.and IntKind.i64 (Int.fdiv b ((2 : Int) ^ (6 : Nat))) (7 : Int)), (0 : Int)⟩ : M.Inst), ())
  else bif (a.shape == (6 : Int)) then some ((⟨a.op, false, (⟨(0 : Int), (0 : Int), (0 : Int)⟩ : M.Operand), (X.operand_From b), (bitOf BinOp.and IntKind.i64 (Int.fdiv b ((2 : Int) ^ (6 : Nat))) (7 : Int)), (0 : Int)⟩ : M.Inst), ())
  else bif (a.shape == (7 : Int)) then some ((⟨a.op, false, (⟨(0 : Int), (0 : Int), (0 : Int)⟩ : M.Operand), (X.operand_From b), (bitOf BinOp.and IntKind.i64 (Int.fdiv b ((2 : Int) ^ (6 : Nat))) (7 : Int)), (0 : Int)⟩ : M.Inst), ())
  else bif (a.shape == (8 : Int)) then some ((⟨a.op, false, (⟨(0 : Int), (0 : Int), (0 : Int)⟩ : M.Operand), (⟨(0 : Int), (0 : Int), (0 : Int)⟩ : M.Operand), (bitOf BinOp.and IntKind.i64 b (7 : Int)), (0 : Int)⟩ : M.Inst), ())
  else bif (a.shape == (9 : Int)) then some ((⟨a.op, false, (⟨(0 : Int), (0 : Int), (0 : Int)⟩ : M.Operand), (⟨(0 : Int), (0 : Int), (0 : Int)⟩ : M.Operand), (0 : Int), (IntKind.wrap IntKind.i64 (IntKind.wrap IntKind.i8 b))⟩ : M.Inst), ())
  else bif (a.shape == (10 : Int)) then some ((⟨a.op, false, (⟨(0 : Int), (0 : Int), (0 : Int)⟩ : M.Operand), (⟨(0 : Int), (0 : Int), (0 : Int)⟩ : M.Operand), (bitOf BinOp.and IntKind.i64 (Int.fdiv b ((2 : Int) ^ (6 : Nat))) (7 : Int)), (bitOf BinOp.and IntKind.i64 b (63 : Int))⟩ : M.Inst), ())
  else bif (a.shape == (11 : Int)) then some ((⟨a.op, false, (⟨(0 : Int), (0 : Int), (0 : Int)⟩ : M.Operand), (⟨(0 : Int), (0 : Int), (0 : Int)⟩ : M.Operand), (0 : Int), (bitOf BinOp.and IntKind.i64 b (255 : Int))⟩ : M.Inst), ())
  else bif (a.shape == (12 : Int)) then some ((⟨a.op, false, (⟨(0 : Int), (0 : Int), (0 : Int)⟩ : M.Operand), (⟨(0 : Int), (0 : Int), (0 : Int)⟩ : M.Operand), (0 : Int), (bitOf BinOp.and IntKind.i64 b (15 : Int))⟩ : M.Inst), ())
  else some ((⟨a.op, false, (⟨(0 : Int), (0 : Int), (0 : Int)⟩ : M.Operand), (⟨(0 : Int), (0 : Int), (0 : Int)⟩ : M.Operand), (0 : Int), (0 : Int)⟩ : M.Inst), ()) : Option (M.Inst × Unit)) = some ((X.inst_form_fields a b), ()) := by (unfold X.inst_form_fields; (try simp only [cond_some, cond_prod, cond_fst, cond_snd, cond_unit]); first | done | kernel_rfl)
theorem con52 : ConOK Try.prog 52 (K52 X.inst_form_fields) := con_of (C := clist [(87, .pure (K87 X.operand_From))]) (J := jlist []) (G := gnil) (N := 70) (ℓ := (lmap [])) (cl_cons con87 cl_nil) (segsOK_nil _) rfl rfl Try.func52 rfl Try.call52 rfl fun x => (ev52 X.operand_From x.1 x.2.1).trans (by exact tot52 x.1 x.2.1)

noncomputable def K53 (m53 : M.Inst_form → M.Inst → Bool) : Con := ⟨[(.st .sInst_form), (.st .sInst)], [.bool], fun x => some ((m53 x.1 x.2.1), ())⟩
theorem ev53  (a : M.Inst_form) (b : M.Inst) : evF Θ tyOf (clist []) Try.f53.ntmps (lmap []) (jlist [(5, 4)]) (gnil) 70 (bodyOf Try.f53) Try.f53.results.toList [(.st .sInst_form), (.st .sInst)] [.bool] (a, b, ()) =
  (bif (a.shape == (4 : Int)) then some ((b.Dst.Mode != (0 : Int)), ())
  else bif (a.shape == (7 : Int)) then some ((b.Dst.Mode != (0 : Int)), ())
  else some ((bif (a.op != (9 : Int)) then true else ((Int.tmod b.Reg (2 : Int)) == (0 : Int))), ()) : Option (Bool × Unit)) := by kernel_rfl
theorem tot53 (a : M.Inst_form) (b : M.Inst) : (bif (a.shape == (4 : Int)) then some ((b.Dst.Mode != (0 : Int)), ())
  else bif (a.shape == (7 : Int)) then some ((b.Dst.Mode != (0 : Int)), ())
  else some ((bif (a.op != (9 : Int)) then true else ((Int.tmod b.Reg (2 : Int)) == (0 : Int))), ()) : Option (Bool × Unit)) = some ((X.inst_form_allowed a b), ()) := by (unfold X.inst_form_allowed; (try simp only [cond_some, cond_prod, cond_fst, cond_snd, cond_unit]); first | done | kernel_rfl)
theorem con53 : ConOK Try.prog 53 (K53 X.inst_form_allowed) := con_of (C := clist []) (J := jlist [(5, 4)]) (G := gnil) (N := 70) (ℓ := (lmap [])) cl_nil (segsOK_nil _) rfl rfl Try.func53 rfl Try.call53 rfl fun x => (ev53 x.1 x.2.1).trans (by exact tot53 x.1 x.2.1)

noncomputable def K88 (m88 : M.Operand → Int) : Con := ⟨[(.st .sOperand)], [(.int .i64)], fun x => some ((m88 x.1), ())⟩
theorem ev88  (a : M.Operand) : evF Θ tyOf (clist []) Try.f88.ntmps (lmap []) (jlist []) (gnil) 70 (bodyOf Try.f88) Try.f88.results.toList [(.st .sOperand)] [(.int .i64)] (a, ()) =
  (some ((bitOf BinOp.and IntKind.i64 a.Mode (7 : Int)), ()) : Option (Int × Unit)) := by kernel_rfl
theorem tot88 (a : M.Operand) : (some ((bitOf BinOp.and IntKind.i64 a.Mode (7 : Int)), ()) : Option (Int × Unit)) = some ((X.operand_mode a), ()) := by (unfold X.operand_mode; (try simp only [cond_some, cond_prod, cond_fst, cond_snd, cond_unit]); first | done | kernel_rfl)
theorem con88 : ConOK Try.prog 88 (K88 X.operand_mode) := con_of (C := clist []) (J := jlist []) (G := gnil) (N := 70) (ℓ := (lmap [])) cl_nil (segsOK_nil _) rfl rfl Try.func88 rfl Try.call88 rfl fun x => (ev88 x.1).trans (by exact tot88 x.1)

noncomputable def K89 (m89 : M.Operand → Int) : Con := ⟨[(.st .sOperand)], [(.int .i64)], fun x => some ((m89 x.1), ())⟩
theorem ev89  (a : M.Operand) : evF Θ tyOf (clist []) Try.f89.ntmps (lmap []) (jlist []) (gnil) 70 (bodyOf Try.f89) Try.f89.results.toList [(.st .sOperand)] [(.int .i64)] (a, ()) =
  (some ((bitOf BinOp.and IntKind.i64 a.Reg (7 : Int)), ()) : Option (Int × Unit)) := by kernel_rfl
theorem tot89 (a : M.Operand) : (some ((bitOf BinOp.and IntKind.i64 a.Reg (7 : Int)), ()) : Option (Int × Unit)) = some ((X.operand_reg a), ()) := by (unfold X.operand_reg; (try simp only [cond_some, cond_prod, cond_fst, cond_snd, cond_unit]); first | done | kernel_rfl)
theorem con89 : ConOK Try.prog 89 (K89 X.operand_reg) := con_of (C := clist []) (J := jlist []) (G := gnil) (N := 70) (ℓ := (lmap [])) cl_nil (segsOK_nil _) rfl rfl Try.func89 rfl Try.call89 rfl fun x => (ev89 x.1).trans (by exact tot89 x.1)

noncomputable def K54 (m54 : M.Operand → Bool) : Con := ⟨[(.st .sOperand)], [.bool], fun x => some ((m54 x.1), ())⟩
theorem ev54 (m88 : M.Operand → Int) (m89 : M.Operand → Int) (a : M.Operand) : evF Θ tyOf (clist [(88, .pure (K88 m88)), (89, .pure (K89 m89))]) Try.f54.ntmps (lmap []) (jlist []) (gnil) 70 (bodyOf Try.f54) Try.f54.results.toList [(.st .sOperand)] [.bool] (a, ()) =
  (bif ((m88 a) == (2 : Int)) then some (((m89 a) == (7 : Int)), ())
  else bif ((m88 a) == (3 : Int)) then some (((m89 a) == (7 : Int)), ())
  else some ((decide ((m88 a) ≥ (6 : Int))), ()) : Option (Bool × Unit)) := by kernel_rfl
theorem tot54 (a : M.Operand) : (bif ((X.operand_mode a) == (2 : Int)) then some (((X.operand_reg a) == (7 : Int)), ())
  else bif ((X.operand_mode a) == (3 : Int)) then some (((X.operand_reg a) == (7 : Int)), ())
  else some ((decide ((X.operand_mode a) ≥ (6 : Int))), ()) : Option (Bool × Unit)) = some ((X.operand_Extended a), ()) := by (unfold X.operand_Extended; (try simp only [cond_some, cond_prod, cond_fst, cond_snd, cond_unit]); first | done | kernel_rfl)
theorem con54 : ConOK Try.prog 54 (K54 X.operand_Extended) := con_of (C := clist [(88, .pure (K88 X.operand_mode)), (89, .pure (K89 X.operand_reg))]) (J := jlist []) (G := gnil) (N := 70) (ℓ := (lmap [])) (cl_cons con88 (cl_cons con89 cl_nil)) (segsOK_nil _) rfl rfl Try.func54 rfl Try.call54 rfl fun x => (ev54 X.operand_mode X.operand_reg x.1).trans (by exact tot54 x.1)

noncomputable def K17 (m17 : (List Int) → Option (M.Inst × Int × Unit)) : Con := ⟨[(.sl (.int .i64))], [(.st .sInst), (.int .i64)], fun x => m17 x.1⟩
theorem ev17 (m51 : Int → Option (M.Inst_form × Bool × Bool × Unit)) (m52 : M.Inst_form → Int → M.Inst) (m53 : M.Inst_form → M.Inst → Bool) (m54 : M.Operand → Bool) (a : List Int) : evF Θ tyOf (clist [(51, .pure (K51 m51)), (52, .pure (K52 m52)), (53, .pure (K53 m53)), (54, .pure (K54 m54))]) Try.f17.ntmps (lmap []) (jlist []) (gnil) 70 (bodyOf Try.f17) Try.f17.results.toList [(.sl (.int .i64))] [(.st .sInst), (.int .i64)] (a, ()) =
  (bif ((Nat.cast (List.length a) : Int) == (0 : Int)) then some ((⟨(0 : Int), false, (⟨(0 : Int), (0 : Int), (0 : Int)⟩ : M.Operand), (⟨(0 : Int), (0 : Int), (0 : Int)⟩ : M.Operand), (0 : Int), (0 : Int)⟩ : M.Inst), (0 : Int), ())
  else bif ((decide ((0 : Int) ≤ (0 : Int))) && (decide ((0 : Int) < (Nat.cast (List.length a) : Int)))) then bif ((decide ((0 : Int) ≤ (0 : Int))) && (decide ((0 : Int) < (Nat.cast (List.length a) : Int)))) then bif ((bitOf BinOp.and IntKind.i64 (List.getD a (0 : Nat) (dflt (Ty.int IntKind.i64))) (65535 : Int)) != (List.getD a (0 : Nat) (dflt (Ty.int IntKind.i64)))) then some ((⟨(0 : Int), false, (⟨(0 : Int), (0 : Int), (0 : Int)⟩ : M.Operand), (⟨(0 : Int), (0 : Int), (0 : Int)⟩ : M.Operand), (0 : Int), (0 : Int)⟩ : M.Inst), (0 : Int), ())
      else bif ((decide ((0 : Int) ≤ (0 : Int))) && (decide ((0 : Int) < (Nat.cast (List.length a) : Int)))) then match (m51 (List.getD a (0 : Nat) (dflt (Ty.int IntKind.i64)))) with
        | some y0 => bif (!y0.2.2.1) then some ((⟨(0 : Int), false, (⟨(0 : Int), (0 : Int), (0 : Int)⟩ : M.Operand), (⟨(0 : Int), (0 : Int), (0 : Int)⟩ : M.Operand), (0 : Int), (0 : Int)⟩ : M.Inst), (0 : Int), ())
          else bif ((decide ((0 : Int) ≤ (0 : Int))) && (decide ((0 : Int) < (Nat.cast (List.length a) : Int)))) then bif (!(m53 y0.1 (⟨(m52 y0.1 (List.getD a (0 : Nat) (dflt (Ty.int IntKind.i64)))).Op, y0.2.1, (m52 y0.1 (List.getD a (0 : Nat) (dflt (Ty.int IntKind.i64)))).Src, (m52 y0.1 (List.getD a (0 : Nat) (dflt (Ty.int IntKind.i64)))).Dst, (m52 y0.1 (List.getD a (0 : Nat) (dflt (Ty.int IntKind.i64)))).Reg, (m52 y0.1 (List.getD a (0 : Nat) (dflt (Ty.int IntKind.i64)))).Num⟩ : M.Inst))) then some ((⟨(0 : Int), false, (⟨(0 : Int), (0 : Int), (0 : Int)⟩ : M.Operand), (⟨(0 : Int), (0 : Int), (0 : Int)⟩ : M.Operand), (0 : Int), (0 : Int)⟩ : M.Inst), (0 : Int), ())
            else bif (!(m54 (m52 y0.1 (List.getD a (0 : Nat) (dflt (Ty.int IntKind.i64)))).Src)) then bif (!(m54 (m52 y0.1 (List.getD a (0 : Nat) (dflt (Ty.int IntKind.i64)))).Dst)) then some ((⟨(m52 y0.1 (List.getD a (0 : Nat) (dflt (Ty.int IntKind.i64)))).Op, y0.2.1, (m52 y0.1 (List.getD a (0 : Nat) (dflt (Ty.int IntKind.i64)))).Src, (m52 y0.1 (List.getD a (0 : Nat) (dflt (Ty.int IntKind.i64)))).Dst, (m52 y0.1 (List.getD a (0 : Nat) (dflt (Ty.int IntKind.i64)))).Reg, (m52 y0.1 (List.getD a (0 : Nat) (dflt (Ty.int IntKind.i64)))).Num⟩ : M.Inst), (1 : Int), ())
              else bif (decide ((1 : Int) ≥ (Nat.cast (List.length a) : Int))) then some ((⟨(0 : Int), false, (⟨(0 : Int), (0 : Int), (0 : Int)⟩ : M.Operand), (⟨(0 : Int), (0 : Int), (0 : Int)⟩ : M.Operand), (0 : Int), (0 : Int)⟩ : M.Inst), (0 : Int), ())
              else bif ((decide ((0 : Int) ≤ (1 : Int))) && (decide ((1 : Int) < (Nat.cast (List.length a) : Int)))) then bif ((decide ((0 : Int) ≤ (1 : Int))) && (decide ((1 : Int) < (Nat.cast (List.length a) : Int)))) then bif ((bitOf BinOp.and IntKind.i64 (List.getD a (1 : Nat) (dflt (Ty.int IntKind.i64))) (65535 : Int)) != (List.getD a (1 : Nat) (dflt (Ty.int IntKind.i64)))) then some ((⟨(0 : Int), false, (⟨(0 : Int), (0 : Int), (0 : Int)⟩ : M.Operand), (⟨(0 : Int), (0 : Int), (0 : Int)⟩ : M.Operand), (0 : Int), (0 : Int)⟩ : M.Inst), (0 : Int), ())
                  else bif ((decide ((0 : Int) ≤ (1 : Int))) && (decide ((1 : Int) < (Nat.cast (List.length a) : Int)))) then some ((⟨(m52 y0.1 (List.getD a (0 : Nat) (dflt (Ty.int IntKind.i64)))).Op, y0.2.1, (m52 y0.1 (List.getD a (0 : Nat) (dflt (Ty.int IntKind.i64)))).Src, (⟨(m52 y0.1 (List.getD a (0 : Nat) (dflt (Ty.int IntKind.i64)))).Dst.Mode, (m52 y0.1 (List.getD a (0 : Nat) (dflt (Ty.int IntKind.i64)))).Dst.Reg, (List.getD a (1 : Nat) (dflt (Ty.int IntKind.i64)))⟩ : M.Operand), (m52 y0.1 (List.getD a (0 : Nat) (dflt (Ty.int IntKind.i64)))).Reg, (m52 y0.1 (List.getD a (0 : Nat) (dflt (Ty.int IntKind.i64)))).Num⟩ : M.Inst), (IntKind.wrap IntKind.i64 ((1 : Int) + (1 : Int))), ())
                  else none
                else none
              else none
            else bif (decide ((1 : Int) ≥ (Nat.cast (List.length a) : Int))) then some ((⟨(0 : Int), false, (⟨(0 : Int), (0 : Int), (0 : Int)⟩ : M.Operand), (⟨(0 : Int), (0 : Int), (0 : Int)⟩ : M.Operand), (0 : Int), (0 : Int)⟩ : M.Inst), (0 : Int), ())
            else bif ((decide ((0 : Int) ≤ (1 : Int))) && (decide ((1 : Int) < (Nat.cast (List.length a) : Int)))) then bif ((decide ((0 : Int) ≤ (1 : Int))) && (decide ((1 : Int) < (Nat.cast (List.length a) : Int)))) then bif ((bitOf BinOp.and IntKind.i64 (List.getD a (1 : Nat) (dflt (Ty.int IntKind.i64))) (65535 : Int)) != (List.getD a (1 : Nat) (dflt (Ty.int IntKind.i64)))) then some ((⟨(0 : Int), false, (⟨(0 : Int), (0 : Int), (0 : Int)⟩ : M.Operand), (⟨(0 : Int), (0 : Int), (0 : Int)⟩ : M.Operand), (0 : Int), (0 : Int)⟩ : M.Inst), (0 : Int), ())
                else bif ((decide ((0 : Int) ≤ (1 : Int))) && (decide ((1 : Int) < (Nat.cast (List.length a) : Int)))) then bif (!(m54 (m52 y0.1 (List.getD a (0 : Nat) (dflt (Ty.int IntKind.i64)))).Dst)) then some ((⟨(m52 y0.1 (List.getD a (0 : Nat) (dflt (Ty.int IntKind.i64)))).Op, y0.2.1, (⟨(m52 y0.1 (List.getD a (0 : Nat) (dflt (Ty.int IntKind.i64)))).Src.Mode, (m52 y0.1 (List.getD a (0 : Nat) (dflt (Ty.int IntKind.i64)))).Src.Reg, (List.getD a (1 : Nat) (dflt (Ty.int IntKind.i64)))⟩ : M.Operand), (m52 y0.1 (List.getD a (0 : Nat) (dflt (Ty.int IntKind.i64)))).Dst, (m52 y0.1 (List.getD a (0 : Nat) (dflt (Ty.int IntKind.i64)))).Reg, (m52 y0.1 (List.getD a (0 : Nat) (dflt (Ty.int IntKind.i64)))).Num⟩ : M.Inst), (IntKind.wrap IntKind.i64 ((1 : Int) + (1 : Int))), ())
                  else bif (decide ((IntKind.wrap IntKind.i64 ((1 : Int) + (1 : Int))) ≥ (Nat.cast (List.length a) : Int))) then some ((⟨(0 : Int), false, (⟨(0 : Int), (0 : Int), (0 : Int)⟩ : M.Operand), (⟨(0 : Int), (0 : Int), (0 : Int)⟩ : M.Operand), (0 : Int), (0 : Int)⟩ : M.Inst), (0 : Int), ())
                  else bif ((decide ((0 : Int) ≤ (IntKind.wrap IntKind.i64 ((1 : Int) + (1 : Int))))) && (decide ((IntKind.wrap IntKind.i64 ((1 : Int) + (1 : Int))) < (Nat.cast (List.length a) : Int)))) then bif ((decide ((0 : Int) ≤ (IntKind.wrap IntKind.i64 ((1 : Int) + (1 : Int))))) && (decide ((IntKind.wrap IntKind.i64 ((1 : Int) + (1 : Int))) < (Nat.cast (List.length a) : Int)))) then bif ((bitOf BinOp.and IntKind.i64 (List.getD a (Int.toNat (IntKind.wrap IntKind.i64 ((1 : Int) + (1 : Int)))) (dflt (Ty.int IntKind.i64))) (65535 : Int)) != (List.getD a (Int.toNat (IntKind.wrap IntKind.i64 ((1 : Int) + (1 : Int)))) (dflt (Ty.int IntKind.i64)))) then some ((⟨(0 : Int), false, (⟨(0 : Int), (0 : Int), (0 : Int)⟩ : M.Operand), (⟨(0 : Int), (0 : Int), (0 : Int)⟩ : M.Operand), (0 : Int), (0 : Int)⟩ : M.Inst), (0 : Int), ())
                      else bif ((decide ((0 : Int) ≤ (IntKind.wrap IntKind.i64 ((1 : Int) + (1 : Int))))) && (decide ((IntKind.wrap IntKind.i64 ((1 : Int) + (1 : Int))) < (Nat.cast (List.length a) : Int)))) then some ((⟨(m52 y0.1 (List.getD a (0 : Nat) (dflt (Ty.int IntKind.i64)))).Op, y0.2.1, (⟨(m52 y0.1 (List.getD a (0 : Nat) (dflt (Ty.int IntKind.i64)))).Src.Mode, (m52 y0.1 (List.getD a (0 : Nat) (dflt (Ty.int IntKind.i64)))).Src.Reg, (List.getD a (1 : Nat) (dflt (Ty.int IntKind.i64)))⟩ : M.Operand), (⟨(m52 y0.1 (List.getD a (0 : Nat) (dflt (Ty.int IntKind.i64)))).Dst.Mode, (m52 y0.1 (List.getD a (0 : Nat) (dflt (Ty.int IntKind.i64)))).Dst.Reg, (List.getD a (Int.toNat (IntKind.wrap IntKind.i64 ((1 : Int) + (1 : Int)))) (dflt (Ty.int IntKind.i64)))⟩ : M.Operand), (m52 y0.1 (List.getD a (0 : Nat) (dflt (Ty.int IntKind.i64)))).Reg, (m52 y0.1 (List.getD a (0 : Nat) (dflt (Ty.int IntKind.i64)))).Num⟩ : M.Inst), (IntKind.wrap IntKind.i64 ((IntKind.wrap IntKind.i64 ((1 : Int) + (1 : Int))) + (1 : Int))), ())
                      else none
                    else none
                  else none
                else none
              else none
            else none
          else none
        | none => none
      else none
    else none
  else none : Option (M.Inst × Int × Unit)) := by kernel_rfl
theorem con17 : ConOK Try.prog 17 (K17 X.inst_Decode) := con_of (C := clist [(51, .pure (K51 X.inst_formOf)), (52, .pure (K52 X.inst_form_fields)), (53, .pure (K53 X.inst_form_allowed)), (54, .pure (K54 X.operand_Extended))]) (J := jlist []) (G := gnil) (N := 70) (ℓ := (lmap [])) (cl_cons con51 (cl_cons con52 (cl_cons con53 (cl_cons con54 cl_nil)))) (segsOK_nil _) rfl rfl Try.func17 rfl Try.call17 rfl fun x => (ev17 X.inst_formOf X.inst_form_fields X.inst_form_allowed X.operand_Extended x.1).trans (by kernel_rfl)

noncomputable def K97 (m97 : M.Operand → Bool) : Con := ⟨[(.st .sOperand)], [.bool], fun x => some ((m97 x.1), ())⟩
theorem ev97 (m54 : M.Operand → Bool) (m88 : M.Operand → Int) (m89 : M.Operand → Int) (a : M.Operand) : evF Θ tyOf (clist [(54, .pure (K54 m54)), (88, .pure (K88 m88)), (89, .pure (K89 m89))]) Try.f97.ntmps (lmap []) (jlist [(1, 2)]) (gnil) 70 (bodyOf Try.f97) Try.f97.results.toList [(.st .sOperand)] [.bool] (a, ()) =
  (some ((bif (a.Mode == (m88 a)) then (bif (a.Reg == (m89 a)) then (bif ((bitOf BinOp.and IntKind.i64 a.Ext (65535 : Int)) == a.Ext) then (bif (m54 a) then true else (a.Ext == (0 : Int))) else false) else false) else false), ()) : Option (Bool × Unit)) := by kernel_rfl
theorem tot97 (a : M.Operand) : (some ((bif (a.Mode == (X.operand_mode a)) then (bif (a.Reg == (X.operand_reg a)) then (bif ((bitOf BinOp.and IntKind.i64 a.Ext (65535 : Int)) == a.Ext) then (bif (X.operand_Extended a) then true else (a.Ext == (0 : Int))) else false) else false) else false), ()) : Option (Bool × Unit)) = some ((X.operand_Valid a), ()) := by (unfold X.operand_Valid; (try simp only [cond_some, cond_prod, cond_fst, cond_snd, cond_unit]); first | done | kernel_rfl)
theorem con97 : ConOK Try.prog 97 (K97 X.operand_Valid) := con_of (C := clist [(54, .pure (K54 X.operand_Extended)), (88, .pure (K88 X.operand_mode)), (89, .pure (K89 X.operand_reg))]) (J := jlist [(1, 2)]) (G := gnil) (N := 70) (ℓ := (lmap [])) (cl_cons con54 (cl_cons con88 (cl_cons con89 cl_nil))) (segsOK_nil _) rfl rfl Try.func97 rfl Try.call97 rfl fun x => (ev97 X.operand_Extended X.operand_mode X.operand_reg x.1).trans (by exact tot97 x.1)

noncomputable def K105 (m105 : M.Operand → Int) : Con := ⟨[(.st .sOperand)], [(.int .i64)], fun x => some ((m105 x.1), ())⟩
theorem ev105 (m88 : M.Operand → Int) (m89 : M.Operand → Int) (a : M.Operand) : evF Θ tyOf (clist [(88, .pure (K88 m88)), (89, .pure (K89 m89))]) Try.f105.ntmps (lmap []) (jlist []) (gnil) 70 (bodyOf Try.f105) Try.f105.results.toList [(.st .sOperand)] [(.int .i64)] (a, ()) =
  (some ((bitOf BinOp.or IntKind.i64 (IntKind.wrap IntKind.i64 ((m88 a) * ((2 : Int) ^ (3 : Nat)))) (m89 a)), ()) : Option (Int × Unit)) := by kernel_rfl
theorem tot105 (a : M.Operand) : (some ((bitOf BinOp.or IntKind.i64 (IntKind.wrap IntKind.i64 ((X.operand_mode a) * ((2 : Int) ^ (3 : Nat)))) (X.operand_reg a)), ()) : Option (Int × Unit)) = some ((X.operand_Field a), ()) := by (unfold X.operand_Field; (try simp only [cond_some, cond_prod, cond_fst, cond_snd, cond_unit]); first | done | kernel_rfl)
theorem con105 : ConOK Try.prog 105 (K105 X.operand_Field) := con_of (C := clist [(88, .pure (K88 X.operand_mode)), (89, .pure (K89 X.operand_reg))]) (J := jlist []) (G := gnil) (N := 70) (ℓ := (lmap [])) (cl_cons con88 (cl_cons con89 cl_nil)) (segsOK_nil _) rfl rfl Try.func105 rfl Try.call105 rfl fun x => (ev105 X.operand_mode X.operand_reg x.1).trans (by exact tot105 x.1)

noncomputable def K98 (m98 : M.Inst_form → M.Inst → Int) : Con := ⟨[(.st .sInst_form), (.st .sInst)], [(.int .i64)], fun x => some ((m98 x.1 x.2.1), ())⟩
theorem ev98 (m105 : M.Operand → Int) (a : M.Inst_form) (b : M.Inst) : evF Θ tyOf (clist [(105, .pure (K105 m105))]) Try.f98.ntmps (lmap []) (jlist []) (gnil) 70 (bodyOf Try.f98) Try.f98.results.toList [(.st .sInst_form), (.st .sInst)] [(.int .i64)] (a, b, ()) =
  (bif b.Byte then bif (a.shape == (1 : Int)) then some ((bitOf BinOp.or IntKind.i64 (bitOf BinOp.or IntKind.i64 (bitOf BinOp.or IntKind.i64 a.first (32768 : Int)) (IntKind.wrap IntKind.i64 ((m105 b.Src) * ((2 : Int) ^ (6 : Nat))))) (m105 b.Dst)), ())
    else bif (a.shape == (5 : Int)) then some ((bitOf BinOp.or IntKind.i64 (bitOf BinOp.or IntKind.i64 (bitOf BinOp.or IntKind.i64 a.first (32768 : Int)) (IntKind.wrap IntKind.i64 (b.Reg * ((2 : Int) ^ (6 : Nat))))) (m105 b.Src)), ())
    else bif (a.shape == (9 : Int)) then some ((bitOf BinOp.or IntKind.i64 (bitOf BinOp.or IntKind.i64 a.first (32768 : Int)) (bitOf BinOp.and IntKind.i64 b.Num (255 : Int))), ())
    else bif (a.shape == (10 : Int)) then some ((bitOf BinOp.or IntKind.i64 (bitOf BinOp.or IntKind.i64 (bitOf BinOp.or IntKind.i64 a.first (32768 : Int)) (IntKind.wrap IntKind.i64 (b.Reg * ((2 : Int) ^ (6 : Nat))))) b.Num), ())
    else bif (a.shape == (8 : Int)) then some ((bitOf BinOp.or IntKind.i64 (bitOf BinOp.or IntKind.i64 a.first (32768 : Int)) b.Reg), ())
    else bif (a.shape == (2 : Int)) then some ((bitOf BinOp.or IntKind.i64 (bitOf BinOp.or IntKind.i64 a.first (32768 : Int)) (m105 b.Src)), ())
    else bif (a.shape == (6 : Int)) then some ((bitOf BinOp.or IntKind.i64 (bitOf BinOp.or IntKind.i64 (bitOf BinOp.or IntKind.i64 (bitOf BinOp.or IntKind.i64 a.first (32768 : Int)) (IntKind.wrap IntKind.i64 (b.Reg * ((2 : Int) ^ (6 : Nat))))) (m105 b.Dst)) b.Num), ())
    else bif (a.shape == (7 : Int)) then some ((bitOf BinOp.or IntKind.i64 (bitOf BinOp.or IntKind.i64 (bitOf BinOp.or IntKind.i64 (bitOf BinOp.or IntKind.i64 a.first (32768 : Int)) (IntKind.wrap IntKind.i64 (b.Reg * ((2 : Int) ^ (6 : Nat))))) (m105 b.Dst)) b.Num), ())
    else some ((bitOf BinOp.or IntKind.i64 (bitOf BinOp.or IntKind.i64 (bitOf BinOp.or IntKind.i64 a.first (32768 : Int)) (m105 b.Dst)) b.Num), ())
  else bif (a.shape == (1 : Int)) then some ((bitOf BinOp.or IntKind.i64 (bitOf BinOp.or IntKind.i64 a.first (IntKind.wrap IntKind.i64 ((m105 b.Src) * ((2 : Int) ^ (6 : Nat))))) (m105 b.Dst)), ())
  else bif (a.shape == (5 : Int)) then some ((bitOf BinOp.or IntKind.i64 (bitOf BinOp.or IntKind.i64 a.first (IntKind.wrap IntKind.i64 (b.Reg * ((2 : Int) ^ (6 : Nat))))) (m105 b.Src)), ())
  else bif (a.shape == (9 : Int)) then some ((bitOf BinOp.or IntKind.i64 a.first (bitOf BinOp.and IntKind.i64 b.Num (255 : Int))), ())
  else bif (a.shape == (10 : Int)) then some ((bitOf BinOp.or IntKind.i64 (bitOf BinOp.or IntKind.i64 a.first (IntKind.wrap IntKind.i64 (b.Reg * ((2 : Int) ^ (6 : Nat))))) b.Num), ())
  else bif (a.shape == (8 : Int)) then some ((bitOf BinOp.or IntKind.i64 a.first b.Reg), ())
  else bif (a.shape == (2 : Int)) then some ((bitOf BinOp.or IntKind.i64 a.first (m105 b.Src)), ())
  else bif (a.shape == (6 : Int)) then some ((bitOf BinOp.or IntKind.i64 (bitOf BinOp.or IntKind.i64 (bitOf BinOp.or IntKind.i64 a.first (IntKind.wrap IntKind.i64 (b.Reg * ((2 : Int) ^ (6 : Nat))))) (m105 b.Dst)) b.Num), ())
  else bif (a.shape == (7 : Int)) then some ((bitOf BinOp.or IntKind.i64 (bitOf BinOp.or IntKind.i64 (bitOf BinOp.or IntKind.i64 a.first (IntKind.wrap IntKind.i64 (b.Reg * ((2 : Int) ^ (6 : Nat))))) (m105 b.Dst)) b.Num), ())
  else some ((bitOf BinOp.or IntKind.i64 (bitOf BinOp.or IntKind.i64 a.first (m105 b.Dst)) b.Num), ()) : Option (Int × Unit)) := by kernel_rfl
theorem tot98 (a : M.Inst_form) (b : M.Inst) : (bif b.Byte then bif (a.shape == (1 : Int)) then some ((bitOf BinOp.or IntKind.i64 (bitOf BinOp.or IntKind.i64 (bitOf BinOp.or IntKind.i64 a.first (32768 : Int)) (IntKind.wrap IntKind.i64 ((X.operand_Field b.Src) * ((2 : Int) ^ (6 : Nat))))) (X.operand_Field b.Dst)), ())
    else bif (a.shape == (5 : Int)) then some ((bitOf BinOp.or IntKind.i64 (bitOf BinOp.or IntKind.i64 (bitOf BinOp.or IntKind.i64 a.first (32768 : Int)) (IntKind.wrap IntKind.i64 (b.Reg * ((2 : Int) ^ (6 : Nat))))) (X.operand_Field b.Src)), ())
    else bif (a.shape == (9 : Int)) then some ((bitOf BinOp.or IntKind.i64 (bitOf BinOp.or IntKind.i64 a.first (32768 : Int)) (bitOf BinOp.and IntKind.i64 b.Num (255 : Int))), ())
    else bif (a.shape == (10 : Int)) then some ((bitOf BinOp.or IntKind.i64 (bitOf BinOp.or IntKind.i64 (bitOf BinOp.or IntKind.i64 a.first (32768 : Int)) (IntKind.wrap IntKind.i64 (b.Reg * ((2 : Int) ^ (6 : Nat))))) b.Num), ())
    else bif (a.shape == (8 : Int)) then some ((bitOf BinOp.or IntKind.i64 (bitOf BinOp.or IntKind.i64 a.first (32768 : Int)) b.Reg), ())
    else bif (a.shape == (2 : Int)) then some ((bitOf BinOp.or IntKind.i64 (bitOf BinOp.or IntKind.i64 a.first (32768 : Int)) (X.operand_Field b.Src)), ())
    else bif (a.shape == (6 : Int)) then some ((bitOf BinOp.or IntKind.i64 (bitOf BinOp.or IntKind.i64 (bitOf BinOp.or IntKind.i64 (bitOf BinOp.or IntKind.i64 a.first (32768 : Int)) (IntKind.wrap IntKind.i64 (b.Reg * ((2 : Int) ^ (6 : Nat))))) (X.operand_Field b.Dst)) b.Num), ())
    else bif (a.shape == (7 : Int)) then some ((bitOf BinOp.or IntKind.i64 (bitOf BinOp.or IntKind.i64 (bitOf BinOp.or IntKind.i64 (bitOf BinOp.or IntKind.i64 a.first (32768 : Int)) (IntKind.wrap IntKind.i64 (b.Reg * ((2 : Int) ^ (6 : Nat))))) (X.operand_Field b.Dst)) b.Num), ())
    else some ((bitOf BinOp.or IntKind.i64 (bitOf BinOp.or IntKind.i64 (bitOf BinOp.or IntKind.i64 a.first (32768 : Int)) (X.operand_Field b.Dst)) b.Num), ())
  else bif (a.shape == (1 : Int)) then some ((bitOf BinOp.or IntKind.i64 (bitOf BinOp.or IntKind.i64 a.first (IntKind.wrap IntKind.i64 ((X.operand_Field b.Src) * ((2 : Int) ^ (6 : Nat))))) (X.operand_Field b.Dst)), ())
  else bif (a.shape == (5 : Int)) then some ((bitOf BinOp.or IntKind.i64 (bitOf BinOp.or IntKind.i64 a.first (IntKind.wrap IntKind.i64 (b.Reg * ((2 : Int) ^ (6 : Nat))))) (X.operand_Field b.Src)), ())
  else bif (a.shape == (9 : Int)) then some ((bitOf BinOp.or IntKind.i64 a.first (bitOf BinOp.and IntKind.i64 b.Num (255 : Int))), ())
  else bif (a.shape == (10 : Int)) then some ((bitOf BinOp.or IntKind.i64 (bitOf BinOp.or IntKind.i64 a.first (IntKind.wrap IntKind.i64 (b.Reg * ((2 : Int) ^ (6 : Nat))))) b.Num), ())
  else bif (a.shape == (8 : Int)) then some ((bitOf BinOp.or IntKind.i64 a.first b.Reg), ())
  else bif (a.shape == (2 : Int)) then some ((bitOf BinOp.or IntKind.i64 a.first (X.operand_Field b.Src)), ())
  else bif (a.shape == (6 : Int)) then some ((bitOf BinOp.or IntKind.i64 (bitOf BinOp.or IntKind.i64 (bitOf BinOp.or IntKind.i64 a.first (IntKind.wrap IntKind.i64 (b.Reg * ((2 : Int) ^ (6 : Nat))))) (X.operand_Field b.Dst)) b.Num), ())
  else bif (a.shape == (7 : Int)) then some ((bitOf BinOp.or IntKind.i64 (bitOf BinOp.or IntKind.i64 (bitOf BinOp.or IntKind.i64 a.first (IntKind.wrap IntKind.i64 (b.Reg * ((2 : Int) ^ (6 : Nat))))) (X.operand_Field b.Dst)) b.Num), ())
  else some ((bitOf BinOp.or IntKind.i64 (bitOf BinOp.or IntKind.i64 a.first (X.operand_Field b.Dst)) b.Num), ()) : Option (Int × Unit)) = some ((X.inst_form_word a b), ()) := by (unfold X.inst_form_word; (try simp only [cond_some, cond_prod, cond_fst, cond_snd, cond_unit]); first | done | kernel_rfl)
theorem con98 : ConOK Try.prog 98 (K98 X.inst_form_word) := con_of (C := clist [(105, .pure (K105 X.operand_Field))]) (J := jlist []) (G := gnil) (N := 70) (ℓ := (lmap [])) (cl_cons con105 cl_nil) (segsOK_nil _) rfl rfl Try.func98 rfl Try.call98 rfl fun x => (ev98 X.operand_Field x.1 x.2.1).trans (by exact tot98 x.1 x.2.1)

noncomputable def K60 (m60 : M.Inst → Option ((List Int) × Bool × Unit)) : Con := ⟨[(.st .sInst)], [(.sl (.int .i64)), .bool], fun x => m60 x.1⟩
def A60_2 : LAnn := ⟨⟨[(11, (.arr 56 (.st .sInst_form))), (12, (.int .i64))], [(1, 1)], [(1, (.st .sInst))], [], []⟩, 0, ⟨[], [], [], [], []⟩, 999992, ⟨[], [], [], [], []⟩, ⟨[(2, (.sl (.int .i64))), (3, .bool)], [], [], [], []⟩⟩
theorem bev60_2 (m17 : (List Int) → Option (M.Inst × Int × Unit)) (m54 : M.Operand → Bool) (m86 : (Vector M.Inst_form 56)) (m97 : M.Operand → Bool) (m98 : M.Inst_form → M.Inst → Int) (x : (((Vector M.Inst_form 56) × Int × Unit) × (M.Inst × Unit))) : evB Θ tyOf (clist [(17, .pure (K17 m17)), (54, .pure (K54 m54)), (86, .pure (K86 m86)), (97, .pure (K97 m97)), (98, .pure (K98 m98))]) Try.f60.ntmps (lmap [(51, 6), (56, 1000056), (67, 1000067), (68, 6)]) (jlist [(5, 46)]) (gnil) 70 A60_2 (loopBody (bodyOf Try.f60) 2) x =
  (bif (decide (x.1.2.1 < (56 : Int))) then bif ((decide ((0 : Int) ≤ x.1.2.1)) && (decide (x.1.2.1 < (Nat.cast 56 : Int)))) then bif ((List.getD (Vector.toList x.1.1) (Int.toNat x.1.2.1) (dflt (Ty.st SId.sInst_form))).op != x.2.1.Op) then some (Out.next ((x.1.1, ((IntKind.wrap IntKind.i64 (x.1.2.1 + (1 : Int))), ())), (x.2.1, ())))
      else bif (bif x.2.1.Byte then (bif (!(List.getD (Vector.toList x.1.1) (Int.toNat x.1.2.1) (dflt (Ty.st SId.sInst_form))).bytes) then true else (bif (!(m97 x.2.1.Src)) then true else (bif (!(m97 x.2.1.Dst)) then true else ((bitOf BinOp.and IntKind.i64 x.2.1.Reg (7 : Int)) != x.2.1.Reg)))) else (bif (!(m97 x.2.1.Src)) then true else (bif (!(m97 x.2.1.Dst)) then true else ((bitOf BinOp.and IntKind.i64 x.2.1.Reg (7 : Int)) != x.2.1.Reg)))) then some (Out.ret (((List.nil), (false, ())), ()))
      else bif (m54 x.2.1.Src) then bif (m54 x.2.1.Dst) then match (m17 (HAppend.hAppend (HAppend.hAppend (List.cons (bitOf BinOp.and IntKind.i64 (m98 (List.getD (Vector.toList x.1.1) (Int.toNat x.1.2.1) (dflt (Ty.st SId.sInst_form))) x.2.1) (65535 : Int)) (List.nil)) (List.cons x.2.1.Src.Ext (List.nil))) (List.cons x.2.1.Dst.Ext (List.nil)))) with
          | some y0 => bif (y0.2.1 == (Nat.cast ((1 + (List.length (List.cons x.2.1.Src.Ext (List.nil)))) + (List.length (List.cons x.2.1.Dst.Ext (List.nil)))) : Int)) then some (Out.ret (((HAppend.hAppend (HAppend.hAppend (List.cons (bitOf BinOp.and IntKind.i64 (m98 (List.getD (Vector.toList x.1.1) (Int.toNat x.1.2.1) (dflt (Ty.st SId.sInst_form))) x.2.1) (65535 : Int)) (List.nil)) (List.cons x.2.1.Src.Ext (List.nil))) (List.cons x.2.1.Dst.Ext (List.nil))), ((vEqB (Ty.st SId.sInst) x.2.1 y0.1), ())), ()))
            else some (Out.ret (((HAppend.hAppend (HAppend.hAppend (List.cons (bitOf BinOp.and IntKind.i64 (m98 (List.getD (Vector.toList x.1.1) (Int.toNat x.1.2.1) (dflt (Ty.st SId.sInst_form))) x.2.1) (65535 : Int)) (List.nil)) (List.cons x.2.1.Src.Ext (List.nil))) (List.cons x.2.1.Dst.Ext (List.nil))), (false, ())), ()))
          | none => none
        else match (m17 (HAppend.hAppend (List.cons (bitOf BinOp.and IntKind.i64 (m98 (List.getD (Vector.toList x.1.1) (Int.toNat x.1.2.1) (dflt (Ty.st SId.sInst_form))) x.2.1) (65535 : Int)) (List.nil)) (List.cons x.2.1.Src.Ext (List.nil)))) with
        | some y1 => bif (y1.2.1 == (Nat.cast (1 + (List.length (List.cons x.2.1.Src.Ext (List.nil)))) : Int)) then some (Out.ret (((HAppend.hAppend (List.cons (bitOf BinOp.and IntKind.i64 (m98 (List.getD (Vector.toList x.1.1) (Int.toNat x.1.2.1) (dflt (Ty.st SId.sInst_form))) x.2.1) (65535 : Int)) (List.nil)) (List.cons x.2.1.Src.Ext (List.nil))), ((vEqB (Ty.st SId.sInst) x.2.1 y1.1), ())), ()))
          else some (Out.ret (((HAppend.hAppend (List.cons (bitOf BinOp.and IntKind.i64 (m98 (List.getD (Vector.toList x.1.1) (Int.toNat x.1.2.1) (dflt (Ty.st SId.sInst_form))) x.2.1) (65535 : Int)) (List.nil)) (List.cons x.2.1.Src.Ext (List.nil))), (false, ())), ()))
        | none => none
      else bif (m54 x.2.1.Dst) then match (m17 (HAppend.hAppend (List.cons (bitOf BinOp.and IntKind.i64 (m98 (List.getD (Vector.toList x.1.1) (Int.toNat x.1.2.1) (dflt (Ty.st SId.sInst_form))) x.2.1) (65535 : Int)) (List.nil)) (List.cons x.2.1.Dst.Ext (List.nil)))) with
        | some y2 => bif (y2.2.1 == (Nat.cast (1 + (List.length (List.cons x.2.1.Dst.Ext (List.nil)))) : Int)) then some (Out.ret (((HAppend.hAppend (List.cons (bitOf BinOp.and IntKind.i64 (m98 (List.getD (Vector.toList x.1.1) (Int.toNat x.1.2.1) (dflt (Ty.st SId.sInst_form))) x.2.1) (65535 : Int)) (List.nil)) (List.cons x.2.1.Dst.Ext (List.nil))), ((vEqB (Ty.st SId.sInst) x.2.1 y2.1), ())), ()))
          else some (Out.ret (((HAppend.hAppend (List.cons (bitOf BinOp.and IntKind.i64 (m98 (List.getD (Vector.toList x.1.1) (Int.toNat x.1.2.1) (dflt (Ty.st SId.sInst_form))) x.2.1) (65535 : Int)) (List.nil)) (List.cons x.2.1.Dst.Ext (List.nil))), (false, ())), ()))
        | none => none
      else match (m17 (List.cons (bitOf BinOp.and IntKind.i64 (m98 (List.getD (Vector.toList x.1.1) (Int.toNat x.1.2.1) (dflt (Ty.st SId.sInst_form))) x.2.1) (65535 : Int)) (List.nil))) with
      | some y3 => bif (y3.2.1 == (Nat.cast 1 : Int)) then some (Out.ret (((List.cons (bitOf BinOp.and IntKind.i64 (m98 (List.getD (Vector.toList x.1.1) (Int.toNat x.1.2.1) (dflt (Ty.st SId.sInst_form))) x.2.1) (65535 : Int)) (List.nil)), ((vEqB (Ty.st SId.sInst) x.2.1 y3.1), ())), ()))
        else some (Out.ret (((List.cons (bitOf BinOp.and IntKind.i64 (m98 (List.getD (Vector.toList x.1.1) (Int.toNat x.1.2.1) (dflt (Ty.st SId.sInst_form))) x.2.1) (65535 : Int)) (List.nil)), (false, ())), ()))
      | none => none
    else none
  else some (Out.brk ((), ())) : Option (Out (((Vector M.Inst_form 56) × Int × Unit) × (M.Inst × Unit)) ((Unit) × (Unit)) ((Unit) × (Unit)) (((List Int) × Bool × Unit) × (Unit)))) := by kernel_rfl
theorem seg60_2 : SegOK Try.prog Try.f60.ntmps (.loop (loopBody (bodyOf Try.f60) 2)) (segL A60_2 X.inst_words_l2) :=
  segL_ok (body := X.inst_words_b2) (C := clist [(17, .pure (K17 X.inst_Decode)), (54, .pure (K54 X.operand_Extended)), (86, .pure (K86 X.inst_forms)), (97, .pure (K97 X.operand_Valid)), (98, .pure (K98 X.inst_form_word))]) (J := jlist [(5, 46)]) (G := gnil) (N := 70) (base := (lmap [(51, 6), (56, 1000056), (67, 1000067), (68, 6)])) tabOK mixedOK typOK (cl_cons con17 (cl_cons con54 (cl_cons con86 (cl_cons con97 (cl_cons con98 cl_nil))))) (segsOK_nil _) (by kernel_rfl) (fun x => bev60_2 X.inst_Decode X.operand_Extended X.inst_forms X.operand_Valid X.inst_form_word x) (fun x y h => ⟨_, h⟩)
theorem ev60 (m17 : (List Int) → Option (M.Inst × Int × Unit)) (m54 : M.Operand → Bool) (m86 : (Vector M.Inst_form 56)) (m97 : M.Operand → Bool) (m98 : M.Inst_form → M.Inst → Int) (r2 : (((Vector M.Inst_form 56) × Int × Unit) × (M.Inst × Unit)) → Option (Out (((Vector M.Inst_form 56) × Int × Unit) × (M.Inst × Unit)) ((Unit) × (Unit)) ((Unit) × (Unit)) (((List Int) × Bool × Unit) × (Unit)))) (a : M.Inst) : evF Θ tyOf (clist [(17, .pure (K17 m17)), (54, .pure (K54 m54)), (86, .pure (K86 m86)), (97, .pure (K97 m97)), (98, .pure (K98 m98))]) Try.f60.ntmps (lmap [(51, 6), (56, 1000056), (67, 1000067), (68, 6)]) (jlist [(5, 46)]) (glist [(2, segL A60_2 r2)]) 70 (bodyOf Try.f60) Try.f60.results.toList [(.st .sInst)] [(.sl (.int .i64)), .bool] (a, ()) =
  (match (r2 ((m86, ((0 : Int), Unit.unit)), (a, Unit.unit))) with
  | some y0 => match y0 with
    | .next w1 => none
    | .brk w2 => some ((List.nil), false, ())
    | .brk2 w3 => none
    | .ret w4 => some (w4.1.1, w4.1.2.1, ())
  | none => none : Option ((List Int) × Bool × Unit)) := by kernel_rfl
theorem con60 : ConOK Try.prog 60 (K60 X.inst_words) := con_of (C := clist [(17, .pure (K17 X.inst_Decode)), (54, .pure (K54 X.operand_Extended)), (86, .pure (K86 X.inst_forms)), (97, .pure (K97 X.operand_Valid)), (98, .pure (K98 X.inst_form_word))]) (J := jlist [(5, 46)]) (G := glist [(2, segL A60_2 X.inst_words_l2)]) (N := 70) (ℓ := (lmap [(51, 6), (56, 1000056), (67, 1000067), (68, 6)])) (cl_cons con17 (cl_cons con54 (cl_cons con86 (cl_cons con97 (cl_cons con98 cl_nil))))) (segsOK_g (code := bodyOf Try.f60) (by kernel_rfl) ⟨seg60_2, trivial⟩) rfl rfl Try.func60 rfl Try.call60 rfl fun x => (ev60 X.inst_Decode X.operand_Extended X.inst_forms X.operand_Valid X.inst_form_word X.inst_words_l2 x.1).trans (by kernel_rfl)

noncomputable def K22 (m22 : M.Inst → Option (Bool × Unit)) : Con := ⟨[(.st .sInst)], [.bool], fun x => m22 x.1⟩
theorem ev22 (m60 : M.Inst → Option ((List Int) × Bool × Unit)) (a : M.Inst) : evF Θ tyOf (clist [(60, .pure (K60 m60))]) Try.f22.ntmps (lmap []) (jlist []) (gnil) 70 (bodyOf Try.f22) Try.f22.results.toList [(.st .sInst)] [.bool] (a, ()) =
  (match (m60 a) with
  | some y0 => some (y0.2.1, ())
  | none => none : Option (Bool × Unit)) := by kernel_rfl
theorem con22 : ConOK Try.prog 22 (K22 X.inst_Valid) := con_of (C := clist [(60, .pure (K60 X.inst_words))]) (J := jlist []) (G := gnil) (N := 70) (ℓ := (lmap [])) (cl_cons con60 cl_nil) (segsOK_nil _) rfl rfl Try.func22 rfl Try.call22 rfl fun x => (ev22 X.inst_words x.1).trans (by kernel_rfl)

noncomputable def K26 (m26 : M.Inst → Option (Bool × Unit)) : Con := ⟨[(.st .sInst)], [.bool], fun x => m26 x.1⟩
theorem ev26 (m22 : M.Inst → Option (Bool × Unit)) (a : M.Inst) : evF Θ tyOf (clist [(22, .pure (K22 m22))]) Try.f26.ntmps (lmap []) (jlist [(17, 2)]) (gnil) 70 (bodyOf Try.f26) Try.f26.results.toList [(.st .sInst)] [.bool] (a, ()) =
  (match (m22 a) with
  | some y0 => bif (!y0.1) then some (false, ())
    else bif (a.Op == (2 : Int)) then some (false, ())
    else bif (a.Op == (3 : Int)) then some (false, ())
    else bif (a.Op == (19 : Int)) then some (false, ())
    else bif (a.Op == (55 : Int)) then some (false, ())
    else bif (a.Op == (53 : Int)) then some (false, ())
    else bif (a.Op == (54 : Int)) then some (false, ())
    else bif (a.Op == (8 : Int)) then some ((decide (a.Reg ≥ (6 : Int))), ())
    else bif (a.Op == (9 : Int)) then some ((decide (a.Reg ≥ (6 : Int))), ())
    else bif (a.Op == (10 : Int)) then some ((decide (a.Reg ≥ (6 : Int))), ())
    else bif (a.Op == (56 : Int)) then some (true, ())
    else some ((bif (decide (a.Op ≥ (26 : Int))) then true else (vEqB (Ty.st SId.sOperand) a.Dst (⟨(0 : Int), (7 : Int), (0 : Int)⟩ : M.Operand))), ())
  | none => none : Option (Bool × Unit)) := by kernel_rfl
theorem con26 : ConOK Try.prog 26 (K26 X.inst_Ends) := con_of (C := clist [(22, .pure (K22 X.inst_Valid))]) (J := jlist [(17, 2)]) (G := gnil) (N := 70) (ℓ := (lmap [])) (cl_cons con22 cl_nil) (segsOK_nil _) rfl rfl Try.func26 rfl Try.call26 rfl fun x => (ev26 X.inst_Valid x.1).trans (by kernel_rfl)

noncomputable def K70 (m70 : M.Machine → Int → Option ((List Int) × Unit)) : Con := ⟨[(.st .sMachine), (.int .i64)], [(.sl (.int .i64))], fun x => m70 x.1 x.2.1⟩
def A70_5 : LAnn := ⟨⟨[(1, (.int .i64)), (5, (.int .i64)), (29, (.sl (.int .i64))), (30, (.int .i64)), (31, (.int .i64))], [(2, 2)], [(2, (.st .sMachine))], [], []⟩, 0, ⟨[(1, (.int .i64)), (5, (.int .i64))], [(2, 2)], [(2, (.st .sMachine))], [], []⟩, 999992, ⟨[], [], [], [], []⟩, ⟨[], [], [], [], []⟩⟩
theorem bev70_5  (x : ((Int × Int × (List Int) × Int × Int × Unit) × (M.Machine × Unit))) : evB Θ tyOf (clist []) Try.f70.ntmps (lmap []) (jlist [(1, 22), (7, 42)]) (gnil) 70 A70_5 (loopBody (bodyOf Try.f70) 5) x =
  (bif (decide (x.1.2.2.2.2.1 < x.1.2.2.2.1)) then bif ((decide ((0 : Int) ≤ x.1.2.2.2.2.1)) && (decide (x.1.2.2.2.2.1 < (Nat.cast (List.length x.1.2.2.1) : Int)))) then bif (bif (decide ((List.getD x.1.2.2.1 (Int.toNat x.1.2.2.2.2.1) (dflt (Ty.int IntKind.i64))) ≥ x.1.1)) then (decide ((List.getD x.1.2.2.1 (Int.toNat x.1.2.2.2.2.1) (dflt (Ty.int IntKind.i64))) < x.1.2.1)) else false) then some (Out.next ((x.1.1, ((List.getD x.1.2.2.1 (Int.toNat x.1.2.2.2.2.1) (dflt (Ty.int IntKind.i64))), (x.1.2.2.1, (x.1.2.2.2.1, ((IntKind.wrap IntKind.i64 (x.1.2.2.2.2.1 + (1 : Int))), ()))))), (x.2.1, ())))
      else some (Out.next ((x.1.1, (x.1.2.1, (x.1.2.2.1, (x.1.2.2.2.1, ((IntKind.wrap IntKind.i64 (x.1.2.2.2.2.1 + (1 : Int))), ()))))), (x.2.1, ())))
    else none
  else some (Out.brk ((x.1.1, (x.1.2.1, ())), (x.2.1, ()))) : Option (Out ((Int × Int × (List Int) × Int × Int × Unit) × (M.Machine × Unit)) ((Int × Int × Unit) × (M.Machine × Unit)) ((Unit) × (Unit)) ((Unit) × (Unit)))) := by kernel_rfl
theorem seg70_5 : SegOK Try.prog Try.f70.ntmps (.loop (loopBody (bodyOf Try.f70) 5)) (segL A70_5 X.translate_upTo_l5) :=
  segL_ok (body := X.translate_upTo_b5) (C := clist []) (J := jlist [(1, 22), (7, 42)]) (G := gnil) (N := 70) (base := (lmap [])) tabOK mixedOK typOK cl_nil (segsOK_nil _) (by kernel_rfl) (fun x => bev70_5 x) (fun x y h => ⟨_, h⟩)
theorem ev70 (r5 : ((Int × Int × (List Int) × Int × Int × Unit) × (M.Machine × Unit)) → Option (Out ((Int × Int × (List Int) × Int × Int × Unit) × (M.Machine × Unit)) ((Int × Int × Unit) × (M.Machine × Unit)) ((Unit) × (Unit)) ((Unit) × (Unit)))) (a : M.Machine) (b : Int) : evF Θ tyOf (clist []) Try.f70.ntmps (lmap []) (jlist [(1, 22), (7, 42)]) (glist [(5, segL A70_5 r5)]) 70 (bodyOf Try.f70) Try.f70.results.toList [(.st .sMachine), (.int .i64)] [(.sl (.int .i64))] (a, b, ()) =
  (bif (bif (decide (b < (0 : Int))) then true else (bif ((Int.tmod b (2 : Int)) != (0 : Int)) then true else (decide ((IntKind.wrap IntKind.i64 (Int.tdiv b (2 : Int))) ≥ (Nat.cast (List.length a.Mem) : Int))))) then some ((List.nil), ())
  else match (r5 ((b, ((IntKind.wrap IntKind.i64 ((IntKind.wrap IntKind.i64 (b - (Int.tmod b (64 : Int)))) + (64 : Int))), (a.Bad, ((Nat.cast (List.length a.Bad) : Int), ((0 : Int), Unit.unit))))), (a, Unit.unit))) with
  | some y0 => match y0 with
    | .next w1 => none
    | .brk w2 => bif ((decide ((0 : Int) ≤ (IntKind.wrap IntKind.i64 (Int.tdiv w2.1.1 (2 : Int))))) && ((decide ((IntKind.wrap IntKind.i64 (Int.tdiv w2.1.1 (2 : Int))) ≤ (Min.min (IntKind.wrap IntKind.i64 (Int.tdiv w2.1.2.1 (2 : Int))) (Nat.cast (List.length w2.2.1.Mem) : Int)))) && (decide ((Min.min (IntKind.wrap IntKind.i64 (Int.tdiv w2.1.2.1 (2 : Int))) (Nat.cast (List.length w2.2.1.Mem) : Int)) ≤ (Nat.cast (List.length w2.2.1.Mem) : Int))))) then some ((List.drop (Int.toNat (IntKind.wrap IntKind.i64 (Int.tdiv w2.1.1 (2 : Int)))) (List.take (Int.toNat (Min.min (IntKind.wrap IntKind.i64 (Int.tdiv w2.1.2.1 (2 : Int))) (Nat.cast (List.length w2.2.1.Mem) : Int))) w2.2.1.Mem)), ())
      else none
    | .brk2 w3 => none
    | .ret w4 => none
  | none => none : Option ((List Int) × Unit)) := by kernel_rfl
theorem con70 : ConOK Try.prog 70 (K70 X.translate_upTo) := con_of (C := clist []) (J := jlist [(1, 22), (7, 42)]) (G := glist [(5, segL A70_5 X.translate_upTo_l5)]) (N := 70) (ℓ := (lmap [])) cl_nil (segsOK_g (code := bodyOf Try.f70) (by kernel_rfl) ⟨seg70_5, trivial⟩) rfl rfl Try.func70 rfl Try.call70 rfl fun x => (ev70 X.translate_upTo_l5 x.1 x.2.1).trans (by kernel_rfl)

noncomputable def K71 (m71 : (List Int) → Option ((List Int) × Unit)) : Con := ⟨[(.sl (.int .i64))], [(.sl (.int .i64))], fun x => m71 x.1⟩
theorem con71 : ConOK Try.prog 71 (K71 X.slices_Clone) := clone_con (c := (.int .i64)) (ℓ := (lmap [(7, 1000007)])) (m := X.slices_Clone) rfl Try.func71 Try.call71 rfl (by decide) (by decide) (by decide) rfl rfl rfl rfl rfl rfl (hi := rfl) (hk := rfl) (fun x => by kernel_rfl) (by kernel_rfl) (fun x => by kernel_rfl)

noncomputable def K33 (m33 : M.Machine → Int → Option (M.Block × Unit)) : Con := ⟨[(.st .sMachine), (.int .i64)], [(.st .sBlock)], fun x => m33 x.1 x.2.1⟩
def A33_4 : LAnn := ⟨⟨[(5, (.sl (.int .i64))), (7, (.int .i64))], [(4, 4), (6, 6)], [(4, (.st .sBlock)), (6, (.st .sBlock))], [], [(6, 1, 50601, 74, (.st .sMicro))]⟩, 0, ⟨[], [(4, 4), (6, 6)], [(4, (.st .sBlock)), (6, (.st .sBlock))], [], [(6, 1, 50601, 74, (.st .sMicro))]⟩, 999992, ⟨[], [], [], [], []⟩, ⟨[], [], [], [], []⟩⟩
theorem bev33_4 (m17 : (List Int) → Option (M.Inst × Int × Unit)) (m26 : M.Inst → Option (Bool × Unit)) (m70 : M.Machine → Int → Option ((List Int) × Unit)) (m71 : (List Int) → Option ((List Int) × Unit)) (x : (((List Int) × Int × Unit) × (M.Block × M.Block × Unit))) : evB Θ tyOf (clist [(17, .pure (K17 m17)), (26, .pure (K26 m26)), (70, .pure (K70 m70)), (71, .pure (K71 m71))]) Try.f33.ntmps (lmap [(40, 1000040), (41, 50601), (52, 1000052), (53, 50601)]) (jlist []) (gnil) 70 A33_4 (loopBody (bodyOf Try.f33) 4) x =
  (bif (decide ((Nat.cast (List.length x.2.2.1.Code) : Int) < (16 : Int))) then match (m17 x.1.1) with
    | some y0 => bif (y0.2.1 == (0 : Int)) then some (Out.brk ((), (x.2.1, ((⟨x.2.2.1.Start, x.2.2.1.Code⟩ : M.Block), ()))))
      else match (m26 y0.1) with
      | some y1 => bif y1.1 then bif ((decide ((0 : Int) ≤ (0 : Int))) && ((decide ((0 : Int) ≤ y0.2.1)) && (decide (y0.2.1 ≤ (Nat.cast (List.length x.1.1) : Int))))) then match (m71 (List.drop (0 : Nat) (List.take (Int.toNat y0.2.1) x.1.1))) with
            | some y2 => bif (capOK ((List.length x.2.2.1.Code) + (List.length (List.cons (⟨x.1.2.1, y2.1, y0.1⟩ : M.Micro) (List.nil)))) 112) then some (Out.brk ((), (x.2.1, ((⟨x.2.2.1.Start, (HAppend.hAppend x.2.2.1.Code (List.cons (⟨x.1.2.1, y2.1, y0.1⟩ : M.Micro) (List.nil)))⟩ : M.Block), ()))))
              else none
            | none => none
          else none
        else bif ((decide ((0 : Int) ≤ (0 : Int))) && ((decide ((0 : Int) ≤ y0.2.1)) && (decide (y0.2.1 ≤ (Nat.cast (List.length x.1.1) : Int))))) then match (m71 (List.drop (0 : Nat) (List.take (Int.toNat y0.2.1) x.1.1))) with
          | some y3 => bif (capOK ((List.length x.2.2.1.Code) + (List.length (List.cons (⟨x.1.2.1, y3.1, y0.1⟩ : M.Micro) (List.nil)))) 112) then bif ((decide ((0 : Int) ≤ y0.2.1)) && ((decide (y0.2.1 ≤ (Nat.cast (List.length x.1.1) : Int))) && (decide ((Nat.cast (List.length x.1.1) : Int) ≤ (Nat.cast (List.length x.1.1) : Int))))) then some (Out.next (((List.drop (Int.toNat y0.2.1) (List.take (Int.toNat (Nat.cast (List.length x.1.1) : Int)) x.1.1)), ((IntKind.wrap IntKind.i64 (x.1.2.1 + (IntKind.wrap IntKind.i64 ((2 : Int) * y0.2.1)))), ())), (x.2.1, ((⟨x.2.2.1.Start, (HAppend.hAppend x.2.2.1.Code (List.cons (⟨x.1.2.1, y3.1, y0.1⟩ : M.Micro) (List.nil)))⟩ : M.Block), ()))))
              else none
            else none
          | none => none
        else none
      | none => none
    | none => none
  else some (Out.brk ((), (x.2.1, ((⟨x.2.2.1.Start, x.2.2.1.Code⟩ : M.Block), ())))) : Option (Out (((List Int) × Int × Unit) × (M.Block × M.Block × Unit)) ((Unit) × (M.Block × M.Block × Unit)) ((Unit) × (Unit)) ((Unit) × (Unit)))) := by kernel_rfl
theorem seg33_4 : SegOK Try.prog Try.f33.ntmps (.loop (loopBody (bodyOf Try.f33) 4)) (segL A33_4 X.translate_Block_l4) :=
  segL_ok (body := X.translate_Block_b4) (C := clist [(17, .pure (K17 X.inst_Decode)), (26, .pure (K26 X.inst_Ends)), (70, .pure (K70 X.translate_upTo)), (71, .pure (K71 X.slices_Clone))]) (J := jlist []) (G := gnil) (N := 70) (base := (lmap [(40, 1000040), (41, 50601), (52, 1000052), (53, 50601)])) tabOK mixedOK typOK (cl_cons con17 (cl_cons con26 (cl_cons con70 (cl_cons con71 cl_nil)))) (segsOK_nil _) (by kernel_rfl) (fun x => bev33_4 X.inst_Decode X.inst_Ends X.translate_upTo X.slices_Clone x) (fun x y h => ⟨_, h⟩)
theorem ev33 (m17 : (List Int) → Option (M.Inst × Int × Unit)) (m26 : M.Inst → Option (Bool × Unit)) (m70 : M.Machine → Int → Option ((List Int) × Unit)) (m71 : (List Int) → Option ((List Int) × Unit)) (r4 : (((List Int) × Int × Unit) × (M.Block × M.Block × Unit)) → Option (Out (((List Int) × Int × Unit) × (M.Block × M.Block × Unit)) ((Unit) × (M.Block × M.Block × Unit)) ((Unit) × (Unit)) ((Unit) × (Unit)))) (a : M.Machine) (b : Int) : evF Θ tyOf (clist [(17, .pure (K17 m17)), (26, .pure (K26 m26)), (70, .pure (K70 m70)), (71, .pure (K71 m71))]) Try.f33.ntmps (lmap [(40, 1000040), (41, 50601), (52, 1000052), (53, 50601)]) (jlist []) (glist [(4, segL A33_4 r4)]) 70 (bodyOf Try.f33) Try.f33.results.toList [(.st .sMachine), (.int .i64)] [(.st .sBlock)] (a, b, ()) =
  (match (m70 a b) with
  | some y0 => match (r4 ((y0.1, (b, Unit.unit)), ((⟨(0 : Int), (List.nil)⟩ : M.Block), ((⟨b, (List.nil)⟩ : M.Block), Unit.unit)))) with
    | some y1 => match y1 with
      | .next w2 => none
      | .brk w3 => bif ((Nat.cast (List.length w3.2.2.1.Code) : Int) == (0 : Int)) then some ((⟨(0 : Int), (List.nil)⟩ : M.Block), ())
        else some ((⟨w3.2.2.1.Start, w3.2.2.1.Code⟩ : M.Block), ())
      | .brk2 w4 => none
      | .ret w5 => none
    | none => none
  | none => none : Option (M.Block × Unit)) := by kernel_rfl
theorem con33 : ConOK Try.prog 33 (K33 X.translate_Block) := con_of (C := clist [(17, .pure (K17 X.inst_Decode)), (26, .pure (K26 X.inst_Ends)), (70, .pure (K70 X.translate_upTo)), (71, .pure (K71 X.slices_Clone))]) (J := jlist []) (G := glist [(4, segL A33_4 X.translate_Block_l4)]) (N := 70) (ℓ := (lmap [(40, 1000040), (41, 50601), (52, 1000052), (53, 50601)])) (cl_cons con17 (cl_cons con26 (cl_cons con70 (cl_cons con71 cl_nil)))) (segsOK_g (code := bodyOf Try.f33) (by kernel_rfl) ⟨seg33_4, trivial⟩) rfl rfl Try.func33 rfl Try.call33 rfl fun x => (ev33 X.inst_Decode X.inst_Ends X.translate_upTo X.slices_Clone X.translate_Block_l4 x.1 x.2.1).trans (by kernel_rfl)

noncomputable def K34 (m34 : M.Emulatorlaw21_Memory → M.Machine) : Con := ⟨[(.st .sEmulatorlaw21_Memory)], [(.st .sMachine)], fun x => some ((m34 x.1), ())⟩
theorem ev34  (a : M.Emulatorlaw21_Memory) : evF Θ tyOf (clist []) Try.f34.ntmps (lmap []) (jlist []) (gnil) 70 (bodyOf Try.f34) Try.f34.results.toList [(.st .sEmulatorlaw21_Memory)] [(.st .sMachine)] (a, ()) =
  (some ((⟨(⟨(Vector.replicate 6 (0 : Int)), (Vector.replicate 2 (0 : Int)), (0 : Int), (0 : Int)⟩ : M.Cpu), a.Mem, a.Bad, (⟨false, (Vector.replicate 2 (Vector.replicate 8 M.Page.zero)), (0 : Int), (0 : Int)⟩ : M.Mmu), (⟨false, false, (0 : Int), (0 : Int)⟩ : M.Clock), (List.nil), (⟨(⟨(List.nil), (List.nil)⟩ : M.Drive), false, false, false, (0 : Int), (0 : Int), (0 : Int), (0 : Int), (0 : Int)⟩ : M.Disk), (⟨(List.nil), (0 : Int), false, false, false, false, false, (0 : Int), (0 : Int), (0 : Int), (0 : Int)⟩ : M.Tape), (0 : Int), false, false, (0 : Int), false⟩ : M.Machine), ()) : Option (M.Machine × Unit)) := by kernel_rfl
theorem tot34 (a : M.Emulatorlaw21_Memory) : (some ((⟨(⟨(Vector.replicate 6 (0 : Int)), (Vector.replicate 2 (0 : Int)), (0 : Int), (0 : Int)⟩ : M.Cpu), a.Mem, a.Bad, (⟨false, (Vector.replicate 2 (Vector.replicate 8 M.Page.zero)), (0 : Int), (0 : Int)⟩ : M.Mmu), (⟨false, false, (0 : Int), (0 : Int)⟩ : M.Clock), (List.nil), (⟨(⟨(List.nil), (List.nil)⟩ : M.Drive), false, false, false, (0 : Int), (0 : Int), (0 : Int), (0 : Int), (0 : Int)⟩ : M.Disk), (⟨(List.nil), (0 : Int), false, false, false, false, false, (0 : Int), (0 : Int), (0 : Int), (0 : Int)⟩ : M.Tape), (0 : Int), false, false, (0 : Int), false⟩ : M.Machine), ()) : Option (M.Machine × Unit)) = some ((X.L21_Memory_machine a), ()) := by (unfold X.L21_Memory_machine; (try simp only [cond_some, cond_prod, cond_fst, cond_snd, cond_unit]); first | done | kernel_rfl)
theorem con34 : ConOK Try.prog 34 (K34 X.L21_Memory_machine) := con_of (C := clist []) (J := jlist []) (G := gnil) (N := 70) (ℓ := (lmap [])) cl_nil (segsOK_nil _) rfl rfl Try.func34 rfl Try.call34 rfl fun x => (ev34 x.1).trans (by exact tot34 x.1)

noncomputable def K69 (m69 : M.Emulatorlaw21_Memory) : Con := ⟨[], [(.st .sEmulatorlaw21_Memory)], fun x => some (m69, ())⟩
theorem ev69   : evF Θ tyOf (clist []) Try.f69.ntmps (lmap [(2, 1)]) (jlist []) (gnil) 70 (bodyOf Try.f69) Try.f69.results.toList [] [(.st .sEmulatorlaw21_Memory)] (()) =
  (some ((⟨(List.set (List.set (List.set (List.set (List.set (List.set (List.set (List.replicate (128 : Nat) (dflt (Ty.int IntKind.i64))) (0 : Nat) (5569 : Int)) (1 : Nat) (5 : Int)) (2 : Nat) (160 : Int)) (3 : Nat) (511 : Int)) (4 : Nat) (160 : Int)) (31 : Nat) (5569 : Int)) (32 : Nat) (5 : Int)), (List.nil)⟩ : M.Emulatorlaw21_Memory), ()) : Option (M.Emulatorlaw21_Memory × Unit)) := by kernel_rfl
theorem tot69  : (some ((⟨(List.set (List.set (List.set (List.set (List.set (List.set (List.set (List.replicate (128 : Nat) (dflt (Ty.int IntKind.i64))) (0 : Nat) (5569 : Int)) (1 : Nat) (5 : Int)) (2 : Nat) (160 : Int)) (3 : Nat) (511 : Int)) (4 : Nat) (160 : Int)) (31 : Nat) (5569 : Int)) (32 : Nat) (5 : Int)), (List.nil)⟩ : M.Emulatorlaw21_Memory), ()) : Option (M.Emulatorlaw21_Memory × Unit)) = some (X.L21_example, ()) := by (unfold X.L21_example; (try simp only [cond_some, cond_prod, cond_fst, cond_snd, cond_unit]); first | done | kernel_rfl)
theorem con69 : ConOK Try.prog 69 (K69 X.L21_example) := con_of (C := clist []) (J := jlist []) (G := gnil) (N := 70) (ℓ := (lmap [(2, 1)])) cl_nil (segsOK_nil _) rfl rfl Try.func69 rfl Try.call69 rfl fun x => (ev69).trans (by exact tot69 )

noncomputable def K31 (m31 : Option (Bool × Unit)) : Con := ⟨[], [.bool], fun x => m31⟩
theorem ev31 (m33 : M.Machine → Int → Option (M.Block × Unit)) (m34 : M.Emulatorlaw21_Memory → M.Machine) (m69 : M.Emulatorlaw21_Memory)  : evF Θ tyOf (clist [(33, .pure (K33 m33)), (34, .pure (K34 m34)), (69, .pure (K69 m69))]) Try.f31.ntmps (lmap [(17, 1000017)]) (jlist []) (gnil) 70 (bodyOf Try.f31) Try.f31.results.toList [] [.bool] (()) =
  (match (m33 (m34 m69) (0 : Int)) with
  | some y0 => match (m33 (m34 m69) (2 : Int)) with
    | some y1 => match (m33 (m34 m69) (62 : Int)) with
      | some y2 => match (m33 (m34 (⟨m69.Mem, (List.cons (4 : Int) (List.nil))⟩ : M.Emulatorlaw21_Memory)) (0 : Int)) with
        | some y3 => match (m33 (m34 (⟨m69.Mem, (List.cons (4 : Int) (List.nil))⟩ : M.Emulatorlaw21_Memory)) (4 : Int)) with
          | some y4 => bif ((Nat.cast (List.length y0.1.Code) : Int) != (3 : Int)) then some (false, ())
            else bif ((decide ((0 : Int) ≤ (1 : Int))) && (decide ((1 : Int) < (Nat.cast (List.length y0.1.Code) : Int)))) then bif ((List.getD y0.1.Code (1 : Nat) (dflt (Ty.st SId.sMicro))).At != (4 : Int)) then some (false, ())
              else bif ((decide ((0 : Int) ≤ (2 : Int))) && (decide ((2 : Int) < (Nat.cast (List.length y0.1.Code) : Int)))) then bif ((List.getD y0.1.Code (2 : Nat) (dflt (Ty.st SId.sMicro))).Inst.Num != (-1 : Int)) then some (false, ())
                else bif ((Nat.cast (List.length y1.1.Code) : Int) != (1 : Int)) then some (false, ())
                else bif ((decide ((0 : Int) ≤ (0 : Int))) && (decide ((0 : Int) < (Nat.cast (List.length y1.1.Code) : Int)))) then bif ((List.getD y1.1.Code (0 : Nat) (dflt (Ty.st SId.sMicro))).Inst.Op != (52 : Int)) then some (false, ())
                  else bif ((Nat.cast (List.length y2.1.Code) : Int) == (0 : Int)) then bif ((Nat.cast (List.length y3.1.Code) : Int) == (1 : Int)) then bif ((decide ((0 : Int) ≤ (0 : Int))) && (decide ((0 : Int) < (Nat.cast (List.length y3.1.Code) : Int)))) then bif ((Nat.cast (List.length (List.getD y3.1.Code (0 : Nat) (dflt (Ty.st SId.sMicro))).Words) : Int) == (2 : Int)) then some (((Nat.cast (List.length y4.1.Code) : Int) == (0 : Int)), ())
                        else some (false, ())
                      else none
                    else some (false, ())
                  else some (false, ())
                else none
              else none
            else none
          | none => none
        | none => none
      | none => none
    | none => none
  | none => none : Option (Bool × Unit)) := by kernel_rfl
theorem con31 : ConOK Try.prog 31 (K31 X.L21_alive) := con_of (C := clist [(33, .pure (K33 X.translate_Block)), (34, .pure (K34 X.L21_Memory_machine)), (69, .pure (K69 X.L21_example))]) (J := jlist []) (G := gnil) (N := 70) (ℓ := (lmap [(17, 1000017)])) (cl_cons con33 (cl_cons con34 (cl_cons con69 cl_nil))) (segsOK_nil _) rfl rfl Try.func31 rfl Try.call31 rfl fun x => (ev31 X.translate_Block X.L21_Memory_machine X.L21_example).trans (by kernel_rfl)

noncomputable def K46 (m46 : M.Micro → M.Micro → Option (Bool × Unit)) : Con := ⟨[(.st .sMicro), (.st .sMicro)], [.bool], fun x => m46 x.1 x.2.1⟩
def A46_4 : LAnn := ⟨⟨[(5, (.int .i64))], [(2, 2), (3, 3)], [(2, (.st .sMicro)), (3, (.st .sMicro))], [], []⟩, 0, ⟨[], [], [], [], []⟩, 999992, ⟨[], [], [], [], []⟩, ⟨[(4, .bool)], [], [], [], []⟩⟩
theorem bev46_4  (x : ((Int × Unit) × (M.Micro × M.Micro × Unit))) : evB Θ tyOf (clist []) Try.f46.ntmps (lmap []) (jlist [(1, 26)]) (gnil) 70 A46_4 (loopBody (bodyOf Try.f46) 4) x =
  (bif (decide (x.1.1 < (Nat.cast (List.length x.2.1.Words) : Int))) then bif ((decide ((0 : Int) ≤ x.1.1)) && (decide (x.1.1 < (Nat.cast (List.length x.2.1.Words) : Int)))) then bif ((decide ((0 : Int) ≤ x.1.1)) && (decide (x.1.1 < (Nat.cast (List.length x.2.2.1.Words) : Int)))) then bif ((List.getD x.2.1.Words (Int.toNat x.1.1) (dflt (Ty.int IntKind.i64))) != (List.getD x.2.2.1.Words (Int.toNat x.1.1) (dflt (Ty.int IntKind.i64)))) then some (Out.ret ((false, ()), ()))
        else some (Out.next (((IntKind.wrap IntKind.i64 (x.1.1 + (1 : Int))), ()), (x.2.1, (x.2.2.1, ()))))
      else none
    else none
  else some (Out.brk ((), ())) : Option (Out ((Int × Unit) × (M.Micro × M.Micro × Unit)) ((Unit) × (Unit)) ((Unit) × (Unit)) ((Bool × Unit) × (Unit)))) := by kernel_rfl
theorem seg46_4 : SegOK Try.prog Try.f46.ntmps (.loop (loopBody (bodyOf Try.f46) 4)) (segL A46_4 X.R21_SameMicro_l4) :=
  segL_ok (body := X.R21_SameMicro_b4) (C := clist []) (J := jlist [(1, 26)]) (G := gnil) (N := 70) (base := (lmap [])) tabOK mixedOK typOK cl_nil (segsOK_nil _) (by kernel_rfl) (fun x => bev46_4 x) (fun x y h => ⟨_, h⟩)
theorem ev46 (r4 : ((Int × Unit) × (M.Micro × M.Micro × Unit)) → Option (Out ((Int × Unit) × (M.Micro × M.Micro × Unit)) ((Unit) × (Unit)) ((Unit) × (Unit)) ((Bool × Unit) × (Unit)))) (a : M.Micro) (b : M.Micro) : evF Θ tyOf (clist []) Try.f46.ntmps (lmap []) (jlist [(1, 26)]) (glist [(4, segL A46_4 r4)]) 70 (bodyOf Try.f46) Try.f46.results.toList [(.st .sMicro), (.st .sMicro)] [.bool] (a, b, ()) =
  (bif (bif (a.At != b.At) then true else (bif (!(vEqB (Ty.st SId.sInst) a.Inst b.Inst)) then true else ((Nat.cast (List.length a.Words) : Int) != (Nat.cast (List.length b.Words) : Int)))) then some (false, ())
  else match (r4 (((0 : Int), Unit.unit), (a, (b, Unit.unit)))) with
  | some y0 => match y0 with
    | .next w1 => none
    | .brk w2 => some (true, ())
    | .brk2 w3 => none
    | .ret w4 => some (w4.1.1, ())
  | none => none : Option (Bool × Unit)) := by kernel_rfl
theorem con46 : ConOK Try.prog 46 (K46 X.R21_SameMicro) := con_of (C := clist []) (J := jlist [(1, 26)]) (G := glist [(4, segL A46_4 X.R21_SameMicro_l4)]) (N := 70) (ℓ := (lmap [])) cl_nil (segsOK_g (code := bodyOf Try.f46) (by kernel_rfl) ⟨seg46_4, trivial⟩) rfl rfl Try.func46 rfl Try.call46 rfl fun x => (ev46 X.R21_SameMicro_l4 x.1 x.2.1).trans (by kernel_rfl)

noncomputable def K32 (m32 : M.Block → M.Block → Option (Bool × Unit)) : Con := ⟨[(.st .sBlock), (.st .sBlock)], [.bool], fun x => m32 x.1 x.2.1⟩
def A32_4 : LAnn := ⟨⟨[(5, (.int .i64))], [(2, 2), (3, 3)], [(2, (.st .sBlock)), (3, (.st .sBlock))], [], []⟩, 0, ⟨[], [], [], [], []⟩, 999992, ⟨[], [], [], [], []⟩, ⟨[(4, .bool)], [], [], [], []⟩⟩
theorem bev32_4 (m46 : M.Micro → M.Micro → Option (Bool × Unit)) (x : ((Int × Unit) × (M.Block × M.Block × Unit))) : evB Θ tyOf (clist [(46, .pure (K46 m46))]) Try.f32.ntmps (lmap []) (jlist [(1, 19)]) (gnil) 70 A32_4 (loopBody (bodyOf Try.f32) 4) x =
  (bif (decide (x.1.1 < (Nat.cast (List.length x.2.1.Code) : Int))) then bif ((decide ((0 : Int) ≤ x.1.1)) && (decide (x.1.1 < (Nat.cast (List.length x.2.1.Code) : Int)))) then bif ((decide ((0 : Int) ≤ x.1.1)) && (decide (x.1.1 < (Nat.cast (List.length x.2.2.1.Code) : Int)))) then match (m46 (List.getD x.2.1.Code (Int.toNat x.1.1) (dflt (Ty.st SId.sMicro))) (List.getD x.2.2.1.Code (Int.toNat x.1.1) (dflt (Ty.st SId.sMicro)))) with
        | some y0 => bif (!y0.1) then some (Out.ret ((false, ()), ()))
          else some (Out.next (((IntKind.wrap IntKind.i64 (x.1.1 + (1 : Int))), ()), (x.2.1, (x.2.2.1, ()))))
        | none => none
      else none
    else none
  else some (Out.brk ((), ())) : Option (Out ((Int × Unit) × (M.Block × M.Block × Unit)) ((Unit) × (Unit)) ((Unit) × (Unit)) ((Bool × Unit) × (Unit)))) := by kernel_rfl
theorem seg32_4 : SegOK Try.prog Try.f32.ntmps (.loop (loopBody (bodyOf Try.f32) 4)) (segL A32_4 X.R21_SameBlock_l4) :=
  segL_ok (body := X.R21_SameBlock_b4) (C := clist [(46, .pure (K46 X.R21_SameMicro))]) (J := jlist [(1, 19)]) (G := gnil) (N := 70) (base := (lmap [])) tabOK mixedOK typOK (cl_cons con46 cl_nil) (segsOK_nil _) (by kernel_rfl) (fun x => bev32_4 X.R21_SameMicro x) (fun x y h => ⟨_, h⟩)
theorem ev32 (m46 : M.Micro → M.Micro → Option (Bool × Unit)) (r4 : ((Int × Unit) × (M.Block × M.Block × Unit)) → Option (Out ((Int × Unit) × (M.Block × M.Block × Unit)) ((Unit) × (Unit)) ((Unit) × (Unit)) ((Bool × Unit) × (Unit)))) (a : M.Block) (b : M.Block) : evF Θ tyOf (clist [(46, .pure (K46 m46))]) Try.f32.ntmps (lmap []) (jlist [(1, 19)]) (glist [(4, segL A32_4 r4)]) 70 (bodyOf Try.f32) Try.f32.results.toList [(.st .sBlock), (.st .sBlock)] [.bool] (a, b, ()) =
  (bif (bif (a.Start != b.Start) then true else ((Nat.cast (List.length a.Code) : Int) != (Nat.cast (List.length b.Code) : Int))) then some (false, ())
  else match (r4 (((0 : Int), Unit.unit), (a, (b, Unit.unit)))) with
  | some y0 => match y0 with
    | .next w1 => none
    | .brk w2 => some (true, ())
    | .brk2 w3 => none
    | .ret w4 => some (w4.1.1, ())
  | none => none : Option (Bool × Unit)) := by kernel_rfl
theorem con32 : ConOK Try.prog 32 (K32 X.R21_SameBlock) := con_of (C := clist [(46, .pure (K46 X.R21_SameMicro))]) (J := jlist [(1, 19)]) (G := glist [(4, segL A32_4 X.R21_SameBlock_l4)]) (N := 70) (ℓ := (lmap [])) (cl_cons con46 cl_nil) (segsOK_g (code := bodyOf Try.f32) (by kernel_rfl) ⟨seg32_4, trivial⟩) rfl rfl Try.func32 rfl Try.call32 rfl fun x => (ev32 X.R21_SameMicro X.R21_SameBlock_l4 x.1 x.2.1).trans (by kernel_rfl)

noncomputable def K92 (m92 : Int → Bool) : Con := ⟨[(.int .i64)], [.bool], fun x => some ((m92 x.1), ())⟩
theorem ev92  (a : Int) : evF Θ tyOf (clist []) Try.f92.ntmps (lmap []) (jlist [(1, 2)]) (gnil) 70 (bodyOf Try.f92) Try.f92.results.toList [(.int .i64)] [.bool] (a, ()) =
  (some ((bif (decide (a ≥ (1 : Int))) then (decide (a ≤ (7 : Int))) else false), ()) : Option (Bool × Unit)) := by kernel_rfl
theorem tot92 (a : Int) : (some ((bif (decide (a ≥ (1 : Int))) then (decide (a ≤ (7 : Int))) else false), ()) : Option (Bool × Unit)) = some ((X.R06_Isdouble a), ()) := by (unfold X.R06_Isdouble; (try simp only [cond_some, cond_prod, cond_fst, cond_snd, cond_unit]); first | done | kernel_rfl)
theorem con92 : ConOK Try.prog 92 (K92 X.R06_Isdouble) := con_of (C := clist []) (J := jlist [(1, 2)]) (G := gnil) (N := 70) (ℓ := (lmap [])) cl_nil (segsOK_nil _) rfl rfl Try.func92 rfl Try.call92 rfl fun x => (ev92 x.1).trans (by exact tot92 x.1)

noncomputable def K93 (m93 : Int → Bool) : Con := ⟨[(.int .i64)], [.bool], fun x => some ((m93 x.1), ())⟩
theorem ev93  (a : Int) : evF Θ tyOf (clist []) Try.f93.ntmps (lmap []) (jlist [(1, 2)]) (gnil) 70 (bodyOf Try.f93) Try.f93.results.toList [(.int .i64)] [.bool] (a, ()) =
  (some ((bif (decide (a ≥ (8 : Int))) then (decide (a ≤ (10 : Int))) else false), ()) : Option (Bool × Unit)) := by kernel_rfl
theorem tot93 (a : Int) : (some ((bif (decide (a ≥ (8 : Int))) then (decide (a ≤ (10 : Int))) else false), ()) : Option (Bool × Unit)) = some ((X.R06_Islong a), ()) := by (unfold X.R06_Islong; (try simp only [cond_some, cond_prod, cond_fst, cond_snd, cond_unit]); first | done | kernel_rfl)
theorem con93 : ConOK Try.prog 93 (K93 X.R06_Islong) := con_of (C := clist []) (J := jlist [(1, 2)]) (G := gnil) (N := 70) (ℓ := (lmap [])) cl_nil (segsOK_nil _) rfl rfl Try.func93 rfl Try.call93 rfl fun x => (ev93 x.1).trans (by exact tot93 x.1)

noncomputable def K57 (m57 : Int → Bool) : Con := ⟨[(.int .i64)], [.bool], fun x => some ((m57 x.1), ())⟩
theorem ev57 (m92 : Int → Bool) (m93 : Int → Bool) (a : Int) : evF Θ tyOf (clist [(92, .pure (K92 m92)), (93, .pure (K93 m93))]) Try.f57.ntmps (lmap []) (jlist [(1, 2)]) (gnil) 70 (bodyOf Try.f57) Try.f57.results.toList [(.int .i64)] [.bool] (a, ()) =
  (some ((bif (m92 a) then true else (bif (m93 a) then true else (a == (55 : Int)))), ()) : Option (Bool × Unit)) := by kernel_rfl
theorem tot57 (a : Int) : (some ((bif (X.R06_Isdouble a) then true else (bif (X.R06_Islong a) then true else (a == (55 : Int)))), ()) : Option (Bool × Unit)) = some ((X.R06_Hassrc a), ()) := by (unfold X.R06_Hassrc; (try simp only [cond_some, cond_prod, cond_fst, cond_snd, cond_unit]); first | done | kernel_rfl)
theorem con57 : ConOK Try.prog 57 (K57 X.R06_Hassrc) := con_of (C := clist [(92, .pure (K92 X.R06_Isdouble)), (93, .pure (K93 X.R06_Islong))]) (J := jlist [(1, 2)]) (G := gnil) (N := 70) (ℓ := (lmap [])) (cl_cons con92 (cl_cons con93 cl_nil)) (segsOK_nil _) rfl rfl Try.func57 rfl Try.call57 rfl fun x => (ev57 X.R06_Isdouble X.R06_Islong x.1).trans (by exact tot57 x.1)

noncomputable def K96 (m96 : Int → Bool) : Con := ⟨[(.int .i64)], [.bool], fun x => some ((m96 x.1), ())⟩
theorem ev96  (a : Int) : evF Θ tyOf (clist []) Try.f96.ntmps (lmap []) (jlist [(1, 2)]) (gnil) 70 (bodyOf Try.f96) Try.f96.results.toList [(.int .i64)] [.bool] (a, ()) =
  (some ((bif (decide (a ≥ (12 : Int))) then (decide (a ≤ (25 : Int))) else false), ()) : Option (Bool × Unit)) := by kernel_rfl
theorem tot96 (a : Int) : (some ((bif (decide (a ≥ (12 : Int))) then (decide (a ≤ (25 : Int))) else false), ()) : Option (Bool × Unit)) = some ((X.R06_Issingle a), ()) := by (unfold X.R06_Issingle; (try simp only [cond_some, cond_prod, cond_fst, cond_snd, cond_unit]); first | done | kernel_rfl)
theorem con96 : ConOK Try.prog 96 (K96 X.R06_Issingle) := con_of (C := clist []) (J := jlist [(1, 2)]) (G := gnil) (N := 70) (ℓ := (lmap [])) cl_nil (segsOK_nil _) rfl rfl Try.func96 rfl Try.call96 rfl fun x => (ev96 x.1).trans (by exact tot96 x.1)

noncomputable def K59 (m59 : Int → Bool) : Con := ⟨[(.int .i64)], [.bool], fun x => some ((m59 x.1), ())⟩
theorem ev59 (m92 : Int → Bool) (m96 : Int → Bool) (a : Int) : evF Θ tyOf (clist [(92, .pure (K92 m92)), (96, .pure (K96 m96))]) Try.f59.ntmps (lmap []) (jlist [(1, 2)]) (gnil) 70 (bodyOf Try.f59) Try.f59.results.toList [(.int .i64)] [.bool] (a, ()) =
  (some ((bif (m92 a) then true else (bif (a == (11 : Int)) then true else (bif (m96 a) then true else (bif (a == (41 : Int)) then true else (bif (a == (42 : Int)) then true else (a == (56 : Int))))))), ()) : Option (Bool × Unit)) := by kernel_rfl
theorem tot59 (a : Int) : (some ((bif (X.R06_Isdouble a) then true else (bif (a == (11 : Int)) then true else (bif (X.R06_Issingle a) then true else (bif (a == (41 : Int)) then true else (bif (a == (42 : Int)) then true else (a == (56 : Int))))))), ()) : Option (Bool × Unit)) = some ((X.R06_Hasdst a), ()) := by (unfold X.R06_Hasdst; (try simp only [cond_some, cond_prod, cond_fst, cond_snd, cond_unit]); first | done | kernel_rfl)
theorem con59 : ConOK Try.prog 59 (K59 X.R06_Hasdst) := con_of (C := clist [(92, .pure (K92 X.R06_Isdouble)), (96, .pure (K96 X.R06_Issingle))]) (J := jlist [(1, 2)]) (G := gnil) (N := 70) (ℓ := (lmap [])) (cl_cons con92 (cl_cons con96 cl_nil)) (segsOK_nil _) rfl rfl Try.func59 rfl Try.call59 rfl fun x => (ev59 X.R06_Isdouble X.R06_Issingle x.1).trans (by exact tot59 x.1)

noncomputable def K62 (m62 : Int → Bool) : Con := ⟨[(.int .i64)], [.bool], fun x => some ((m62 x.1), ())⟩
theorem ev62  (a : Int) : evF Θ tyOf (clist []) Try.f62.ntmps (lmap []) (jlist [(1, 2)]) (gnil) 70 (bodyOf Try.f62) Try.f62.results.toList [(.int .i64)] [.bool] (a, ()) =
  (some ((bif (decide (a ≥ (1 : Int))) then (bif (decide (a ≤ (5 : Int))) then true else (bif (decide (a ≥ (12 : Int))) then (decide (a ≤ (23 : Int))) else false)) else (bif (decide (a ≥ (12 : Int))) then (decide (a ≤ (23 : Int))) else false)), ()) : Option (Bool × Unit)) := by kernel_rfl
theorem tot62 (a : Int) : (some ((bif (decide (a ≥ (1 : Int))) then (bif (decide (a ≤ (5 : Int))) then true else (bif (decide (a ≥ (12 : Int))) then (decide (a ≤ (23 : Int))) else false)) else (bif (decide (a ≥ (12 : Int))) then (decide (a ≤ (23 : Int))) else false)), ()) : Option (Bool × Unit)) = some ((X.R06_Hasbyte a), ()) := by (unfold X.R06_Hasbyte; (try simp only [cond_some, cond_prod, cond_fst, cond_snd, cond_unit]); first | done | kernel_rfl)
theorem con62 : ConOK Try.prog 62 (K62 X.R06_Hasbyte) := con_of (C := clist []) (J := jlist [(1, 2)]) (G := gnil) (N := 70) (ℓ := (lmap [])) cl_nil (segsOK_nil _) rfl rfl Try.func62 rfl Try.call62 rfl fun x => (ev62 x.1).trans (by exact tot62 x.1)

noncomputable def K94 (m94 : M.Operand → Int) : Con := ⟨[(.st .sOperand)], [(.int .i64)], fun x => some ((m94 x.1), ())⟩
theorem ev94  (a : M.Operand) : evF Θ tyOf (clist []) Try.f94.ntmps (lmap []) (jlist []) (gnil) 70 (bodyOf Try.f94) Try.f94.results.toList [(.st .sOperand)] [(.int .i64)] (a, ()) =
  (some ((bitOf BinOp.and IntKind.i64 a.Mode (7 : Int)), ()) : Option (Int × Unit)) := by kernel_rfl
theorem tot94 (a : M.Operand) : (some ((bitOf BinOp.and IntKind.i64 a.Mode (7 : Int)), ()) : Option (Int × Unit)) = some ((X.R05_Mode a), ()) := by (unfold X.R05_Mode; (try simp only [cond_some, cond_prod, cond_fst, cond_snd, cond_unit]); first | done | kernel_rfl)
theorem con94 : ConOK Try.prog 94 (K94 X.R05_Mode) := con_of (C := clist []) (J := jlist []) (G := gnil) (N := 70) (ℓ := (lmap [])) cl_nil (segsOK_nil _) rfl rfl Try.func94 rfl Try.call94 rfl fun x => (ev94 x.1).trans (by exact tot94 x.1)

noncomputable def K95 (m95 : M.Operand → Int) : Con := ⟨[(.st .sOperand)], [(.int .i64)], fun x => some ((m95 x.1), ())⟩
theorem ev95  (a : M.Operand) : evF Θ tyOf (clist []) Try.f95.ntmps (lmap []) (jlist []) (gnil) 70 (bodyOf Try.f95) Try.f95.results.toList [(.st .sOperand)] [(.int .i64)] (a, ()) =
  (some ((bitOf BinOp.and IntKind.i64 a.Reg (7 : Int)), ()) : Option (Int × Unit)) := by kernel_rfl
theorem tot95 (a : M.Operand) : (some ((bitOf BinOp.and IntKind.i64 a.Reg (7 : Int)), ()) : Option (Int × Unit)) = some ((X.R05_Register a), ()) := by (unfold X.R05_Register; (try simp only [cond_some, cond_prod, cond_fst, cond_snd, cond_unit]); first | done | kernel_rfl)
theorem con95 : ConOK Try.prog 95 (K95 X.R05_Register) := con_of (C := clist []) (J := jlist []) (G := gnil) (N := 70) (ℓ := (lmap [])) cl_nil (segsOK_nil _) rfl rfl Try.func95 rfl Try.call95 rfl fun x => (ev95 x.1).trans (by exact tot95 x.1)

noncomputable def K58 (m58 : M.Operand → Bool) : Con := ⟨[(.st .sOperand)], [.bool], fun x => some ((m58 x.1), ())⟩
theorem ev58 (m94 : M.Operand → Int) (m95 : M.Operand → Int) (a : M.Operand) : evF Θ tyOf (clist [(94, .pure (K94 m94)), (95, .pure (K95 m95))]) Try.f58.ntmps (lmap []) (jlist [(2, 2)]) (gnil) 70 (bodyOf Try.f58) Try.f58.results.toList [(.st .sOperand)] [.bool] (a, ()) =
  (some ((bif ((m94 a) == (6 : Int)) then true else (bif ((m94 a) == (7 : Int)) then true else (bif ((m94 a) == (2 : Int)) then ((m95 a) == (7 : Int)) else (bif ((m94 a) == (3 : Int)) then ((m95 a) == (7 : Int)) else false)))), ()) : Option (Bool × Unit)) := by kernel_rfl
theorem tot58 (a : M.Operand) : (some ((bif ((X.R05_Mode a) == (6 : Int)) then true else (bif ((X.R05_Mode a) == (7 : Int)) then true else (bif ((X.R05_Mode a) == (2 : Int)) then ((X.R05_Register a) == (7 : Int)) else (bif ((X.R05_Mode a) == (3 : Int)) then ((X.R05_Register a) == (7 : Int)) else false)))), ()) : Option (Bool × Unit)) = some ((X.R05_Extended a), ()) := by (unfold X.R05_Extended; (try simp only [cond_some, cond_prod, cond_fst, cond_snd, cond_unit]); first | done | kernel_rfl)
theorem con58 : ConOK Try.prog 58 (K58 X.R05_Extended) := con_of (C := clist [(94, .pure (K94 X.R05_Mode)), (95, .pure (K95 X.R05_Register))]) (J := jlist [(2, 2)]) (G := gnil) (N := 70) (ℓ := (lmap [])) (cl_cons con94 (cl_cons con95 cl_nil)) (segsOK_nil _) rfl rfl Try.func58 rfl Try.call58 rfl fun x => (ev58 X.R05_Mode X.R05_Register x.1).trans (by exact tot58 x.1)

noncomputable def K63 (m63 : M.Operand → Bool) : Con := ⟨[(.st .sOperand)], [.bool], fun x => some ((m63 x.1), ())⟩
theorem ev63 (m58 : M.Operand → Bool) (a : M.Operand) : evF Θ tyOf (clist [(58, .pure (K58 m58))]) Try.f63.ntmps (lmap []) (jlist [(1, 30), (3, 2)]) (gnil) 70 (bodyOf Try.f63) Try.f63.results.toList [(.st .sOperand)] [.bool] (a, ()) =
  (bif (bif (decide (a.Mode < (0 : Int))) then true else (bif (decide (a.Mode > (7 : Int))) then true else (bif (decide (a.Reg < (0 : Int))) then true else (bif (decide (a.Reg > (7 : Int))) then true else (bif (decide (a.Ext < (0 : Int))) then true else (decide (a.Ext > (65535 : Int)))))))) then some (false, ())
  else some ((bif (a.Ext == (0 : Int)) then true else (m58 a)), ()) : Option (Bool × Unit)) := by kernel_rfl
theorem tot63 (a : M.Operand) : (bif (bif (decide (a.Mode < (0 : Int))) then true else (bif (decide (a.Mode > (7 : Int))) then true else (bif (decide (a.Reg < (0 : Int))) then true else (bif (decide (a.Reg > (7 : Int))) then true else (bif (decide (a.Ext < (0 : Int))) then true else (decide (a.Ext > (65535 : Int)))))))) then some (false, ())
  else some ((bif (a.Ext == (0 : Int)) then true else (X.R05_Extended a)), ()) : Option (Bool × Unit)) = some ((X.R05_Valid a), ()) := by (unfold X.R05_Valid; (try simp only [cond_some, cond_prod, cond_fst, cond_snd, cond_unit]); first | done | kernel_rfl)
theorem con63 : ConOK Try.prog 63 (K63 X.R05_Valid) := con_of (C := clist [(58, .pure (K58 X.R05_Extended))]) (J := jlist [(1, 30), (3, 2)]) (G := gnil) (N := 70) (ℓ := (lmap [])) (cl_cons con58 cl_nil) (segsOK_nil _) rfl rfl Try.func63 rfl Try.call63 rfl fun x => (ev63 X.R05_Extended x.1).trans (by exact tot63 x.1)

noncomputable def K64 (m64 : Int → Bool) : Con := ⟨[(.int .i64)], [.bool], fun x => some ((m64 x.1), ())⟩
theorem ev64 (m93 : Int → Bool) (a : Int) : evF Θ tyOf (clist [(93, .pure (K93 m93))]) Try.f64.ntmps (lmap []) (jlist [(1, 2)]) (gnil) 70 (bodyOf Try.f64) Try.f64.results.toList [(.int .i64)] [.bool] (a, ()) =
  (some ((bif (m93 a) then true else (bif (a == (11 : Int)) then true else (bif (a == (42 : Int)) then true else (bif (a == (43 : Int)) then true else (a == (44 : Int)))))), ()) : Option (Bool × Unit)) := by kernel_rfl
theorem tot64 (a : Int) : (some ((bif (X.R06_Islong a) then true else (bif (a == (11 : Int)) then true else (bif (a == (42 : Int)) then true else (bif (a == (43 : Int)) then true else (a == (44 : Int)))))), ()) : Option (Bool × Unit)) = some ((X.R06_Hasreg a), ()) := by (unfold X.R06_Hasreg; (try simp only [cond_some, cond_prod, cond_fst, cond_snd, cond_unit]); first | done | kernel_rfl)
theorem con64 : ConOK Try.prog 64 (K64 X.R06_Hasreg) := con_of (C := clist [(93, .pure (K93 X.R06_Islong))]) (J := jlist [(1, 2)]) (G := gnil) (N := 70) (ℓ := (lmap [])) (cl_cons con93 cl_nil) (segsOK_nil _) rfl rfl Try.func64 rfl Try.call64 rfl fun x => (ev64 X.R06_Islong x.1).trans (by exact tot64 x.1)

noncomputable def K67 (m67 : Int → Bool) : Con := ⟨[(.int .i64)], [.bool], fun x => some ((m67 x.1), ())⟩
theorem ev67  (a : Int) : evF Θ tyOf (clist []) Try.f67.ntmps (lmap []) (jlist [(1, 2)]) (gnil) 70 (bodyOf Try.f67) Try.f67.results.toList [(.int .i64)] [.bool] (a, ()) =
  (some ((bif (decide (a ≥ (26 : Int))) then (decide (a ≤ (40 : Int))) else false), ()) : Option (Bool × Unit)) := by kernel_rfl
theorem tot67 (a : Int) : (some ((bif (decide (a ≥ (26 : Int))) then (decide (a ≤ (40 : Int))) else false), ()) : Option (Bool × Unit)) = some ((X.R06_Isbranch a), ()) := by (unfold X.R06_Isbranch; (try simp only [cond_some, cond_prod, cond_fst, cond_snd, cond_unit]); first | done | kernel_rfl)
theorem con67 : ConOK Try.prog 67 (K67 X.R06_Isbranch) := con_of (C := clist []) (J := jlist [(1, 2)]) (G := gnil) (N := 70) (ℓ := (lmap [])) cl_nil (segsOK_nil _) rfl rfl Try.func67 rfl Try.call67 rfl fun x => (ev67 x.1).trans (by exact tot67 x.1)

noncomputable def K65 (m65 : Int → Int) : Con := ⟨[(.int .i64)], [(.int .i64)], fun x => some ((m65 x.1), ())⟩
theorem ev65 (m67 : Int → Bool) (a : Int) : evF Θ tyOf (clist [(67, .pure (K67 m67))]) Try.f65.ntmps (lmap []) (jlist []) (gnil) 70 (bodyOf Try.f65) Try.f65.results.toList [(.int .i64)] [(.int .i64)] (a, ()) =
  (bif (m67 a) then some ((-128 : Int), ())
  else some ((0 : Int), ()) : Option (Int × Unit)) := by kernel_rfl
theorem tot65 (a : Int) : (bif (X.R06_Isbranch a) then some ((-128 : Int), ())
  else some ((0 : Int), ()) : Option (Int × Unit)) = some ((X.R06_least a), ()) := by (unfold X.R06_least; (try simp only [cond_some, cond_prod, cond_fst, cond_snd, cond_unit]); first | done | kernel_rfl)
theorem con65 : ConOK Try.prog 65 (K65 X.R06_least) := con_of (C := clist [(67, .pure (K67 X.R06_Isbranch))]) (J := jlist []) (G := gnil) (N := 70) (ℓ := (lmap [])) (cl_cons con67 cl_nil) (segsOK_nil _) rfl rfl Try.func65 rfl Try.call65 rfl fun x => (ev65 X.R06_Isbranch x.1).trans (by exact tot65 x.1)

noncomputable def K66 (m66 : Int → Int) : Con := ⟨[(.int .i64)], [(.int .i64)], fun x => some ((m66 x.1), ())⟩
theorem ev66 (m67 : Int → Bool) (a : Int) : evF Θ tyOf (clist [(67, .pure (K67 m67))]) Try.f66.ntmps (lmap []) (jlist [(5, 9), (7, 16)]) (gnil) 70 (bodyOf Try.f66) Try.f66.results.toList [(.int .i64)] [(.int .i64)] (a, ()) =
  (bif (m67 a) then some ((127 : Int), ())
  else bif (a == (44 : Int)) then some ((63 : Int), ())
  else bif (bif (a == (45 : Int)) then true else (a == (46 : Int))) then some ((255 : Int), ())
  else bif (bif (a == (53 : Int)) then true else (a == (54 : Int))) then some ((15 : Int), ())
  else some ((0 : Int), ()) : Option (Int × Unit)) := by kernel_rfl
theorem tot66 (a : Int) : (bif (X.R06_Isbranch a) then some ((127 : Int), ())
  else bif (a == (44 : Int)) then some ((63 : Int), ())
  else bif (bif (a == (45 : Int)) then true else (a == (46 : Int))) then some ((255 : Int), ())
  else bif (bif (a == (53 : Int)) then true else (a == (54 : Int))) then some ((15 : Int), ())
  else some ((0 : Int), ()) : Option (Int × Unit)) = some ((X.R06_greatest a), ()) := by (unfold X.R06_greatest; (try simp only [cond_some, cond_prod, cond_fst, cond_snd, cond_unit]); first | done | kernel_rfl)
theorem con66 : ConOK Try.prog 66 (K66 X.R06_greatest) := con_of (C := clist [(67, .pure (K67 X.R06_Isbranch))]) (J := jlist [(5, 9), (7, 16)]) (G := gnil) (N := 70) (ℓ := (lmap [])) (cl_cons con67 cl_nil) (segsOK_nil _) rfl rfl Try.func66 rfl Try.call66 rfl fun x => (ev66 X.R06_Isbranch x.1).trans (by exact tot66 x.1)

noncomputable def K23 (m23 : M.Inst → Bool) : Con := ⟨[(.st .sInst)], [.bool], fun x => some ((m23 x.1), ())⟩
theorem ev23 (m57 : Int → Bool) (m59 : Int → Bool) (m62 : Int → Bool) (m63 : M.Operand → Bool) (m64 : Int → Bool) (m65 : Int → Int) (m66 : Int → Int) (a : M.Inst) : evF Θ tyOf (clist [(57, .pure (K57 m57)), (59, .pure (K59 m59)), (62, .pure (K62 m62)), (63, .pure (K63 m63)), (64, .pure (K64 m64)), (65, .pure (K65 m65)), (66, .pure (K66 m66))]) Try.f23.ntmps (lmap []) (jlist [(1, 20), (3, 41), (5, 62), (7, 97), (9, 106), (11, 2)]) (gnil) 70 (bodyOf Try.f23) Try.f23.results.toList [(.st .sInst)] [.bool] (a, ()) =
  (bif (bif (decide (a.Op < (1 : Int))) then true else (bif (decide (a.Op > (56 : Int))) then true else (bif a.Byte then (!(m62 a.Op)) else false))) then some (false, ())
  else bif (bif (m57 a.Op) then (bif (!(m63 a.Src)) then true else (bif (!(m57 a.Op)) then (!(vEqB (Ty.st SId.sOperand) a.Src (⟨(0 : Int), (0 : Int), (0 : Int)⟩ : M.Operand))) else false)) else (bif (!(m57 a.Op)) then (!(vEqB (Ty.st SId.sOperand) a.Src (⟨(0 : Int), (0 : Int), (0 : Int)⟩ : M.Operand))) else false)) then some (false, ())
  else bif (bif (m59 a.Op) then (bif (!(m63 a.Dst)) then true else (bif (!(m59 a.Op)) then (!(vEqB (Ty.st SId.sOperand) a.Dst (⟨(0 : Int), (0 : Int), (0 : Int)⟩ : M.Operand))) else false)) else (bif (!(m59 a.Op)) then (!(vEqB (Ty.st SId.sOperand) a.Dst (⟨(0 : Int), (0 : Int), (0 : Int)⟩ : M.Operand))) else false)) then some (false, ())
  else bif (bif (decide (a.Reg < (0 : Int))) then true else (bif (decide (a.Reg > (7 : Int))) then true else (bif (a.Reg != (0 : Int)) then (bif (!(m64 a.Op)) then true else (bif (decide (a.Num < (m65 a.Op))) then true else (decide (a.Num > (m66 a.Op))))) else (bif (decide (a.Num < (m65 a.Op))) then true else (decide (a.Num > (m66 a.Op))))))) then some (false, ())
  else bif (bif (a.Op == (9 : Int)) then ((Int.tmod a.Reg (2 : Int)) == (1 : Int)) else false) then some (false, ())
  else some ((bif (a.Op != (41 : Int)) then (bif (a.Op != (42 : Int)) then true else (a.Dst.Mode != (0 : Int))) else (a.Dst.Mode != (0 : Int))), ()) : Option (Bool × Unit)) := by kernel_rfl
theorem tot23 (a : M.Inst) : (bif (bif (decide (a.Op < (1 : Int))) then true else (bif (decide (a.Op > (56 : Int))) then true else (bif a.Byte then (!(X.R06_Hasbyte a.Op)) else false))) then some (false, ())
  else bif (bif (X.R06_Hassrc a.Op) then (bif (!(X.R05_Valid a.Src)) then true else (bif (!(X.R06_Hassrc a.Op)) then (!(vEqB (Ty.st SId.sOperand) a.Src (⟨(0 : Int), (0 : Int), (0 : Int)⟩ : M.Operand))) else false)) else (bif (!(X.R06_Hassrc a.Op)) then (!(vEqB (Ty.st SId.sOperand) a.Src (⟨(0 : Int), (0 : Int), (0 : Int)⟩ : M.Operand))) else false)) then some (false, ())
  else bif (bif (X.R06_Hasdst a.Op) then (bif (!(X.R05_Valid a.Dst)) then true else (bif (!(X.R06_Hasdst a.Op)) then (!(vEqB (Ty.st SId.sOperand) a.Dst (⟨(0 : Int), (0 : Int), (0 : Int)⟩ : M.Operand))) else false)) else (bif (!(X.R06_Hasdst a.Op)) then (!(vEqB (Ty.st SId.sOperand) a.Dst (⟨(0 : Int), (0 : Int), (0 : Int)⟩ : M.Operand))) else false)) then some (false, ())
  else bif (bif (decide (a.Reg < (0 : Int))) then true else (bif (decide (a.Reg > (7 : Int))) then true else (bif (a.Reg != (0 : Int)) then (bif (!(X.R06_Hasreg a.Op)) then true else (bif (decide (a.Num < (X.R06_least a.Op))) then true else (decide (a.Num > (X.R06_greatest a.Op))))) else (bif (decide (a.Num < (X.R06_least a.Op))) then true else (decide (a.Num > (X.R06_greatest a.Op))))))) then some (false, ())
  else bif (bif (a.Op == (9 : Int)) then ((Int.tmod a.Reg (2 : Int)) == (1 : Int)) else false) then some (false, ())
  else some ((bif (a.Op != (41 : Int)) then (bif (a.Op != (42 : Int)) then true else (a.Dst.Mode != (0 : Int))) else (a.Dst.Mode != (0 : Int))), ()) : Option (Bool × Unit)) = some ((X.R06_Valid a), ()) := by (unfold X.R06_Valid; (try simp only [cond_some, cond_prod, cond_fst, cond_snd, cond_unit]); first | done | kernel_rfl)
theorem con23 : ConOK Try.prog 23 (K23 X.R06_Valid) := con_of (C := clist [(57, .pure (K57 X.R06_Hassrc)), (59, .pure (K59 X.R06_Hasdst)), (62, .pure (K62 X.R06_Hasbyte)), (63, .pure (K63 X.R05_Valid)), (64, .pure (K64 X.R06_Hasreg)), (65, .pure (K65 X.R06_least)), (66, .pure (K66 X.R06_greatest))]) (J := jlist [(1, 20), (3, 41), (5, 62), (7, 97), (9, 106), (11, 2)]) (G := gnil) (N := 70) (ℓ := (lmap [])) (cl_cons con57 (cl_cons con59 (cl_cons con62 (cl_cons con63 (cl_cons con64 (cl_cons con65 (cl_cons con66 cl_nil))))))) (segsOK_nil _) rfl rfl Try.func23 rfl Try.call23 rfl fun x => (ev23 X.R06_Hassrc X.R06_Hasdst X.R06_Hasbyte X.R05_Valid X.R06_Hasreg X.R06_least X.R06_greatest x.1).trans (by exact tot23 x.1)

noncomputable def K55 (m55 : Int → Bool) : Con := ⟨[(.int .i64)], [.bool], fun x => some ((m55 x.1), ())⟩
theorem ev55  (a : Int) : evF Θ tyOf (clist []) Try.f55.ntmps (lmap []) (jlist [(1, 2)]) (gnil) 70 (bodyOf Try.f55) Try.f55.results.toList [(.int .i64)] [.bool] (a, ()) =
  (some ((bif (decide (a ≥ (0 : Int))) then (decide (a < (65536 : Int))) else false), ()) : Option (Bool × Unit)) := by kernel_rfl
theorem tot55 (a : Int) : (some ((bif (decide (a ≥ (0 : Int))) then (decide (a < (65536 : Int))) else false), ()) : Option (Bool × Unit)) = some ((X.R06_Isword a), ()) := by (unfold X.R06_Isword; (try simp only [cond_some, cond_prod, cond_fst, cond_snd, cond_unit]); first | done | kernel_rfl)
theorem con55 : ConOK Try.prog 55 (K55 X.R06_Isword) := con_of (C := clist []) (J := jlist [(1, 2)]) (G := gnil) (N := 70) (ℓ := (lmap [])) cl_nil (segsOK_nil _) rfl rfl Try.func55 rfl Try.call55 rfl fun x => (ev55 x.1).trans (by exact tot55 x.1)

noncomputable def K90 (m90 : Int → M.Operand) : Con := ⟨[(.int .i64)], [(.st .sOperand)], fun x => some ((m90 x.1), ())⟩
theorem ev90  (a : Int) : evF Θ tyOf (clist []) Try.f90.ntmps (lmap []) (jlist []) (gnil) 70 (bodyOf Try.f90) Try.f90.results.toList [(.int .i64)] [(.st .sOperand)] (a, ()) =
  (some ((⟨(IntKind.wrap IntKind.i64 (Int.tdiv (bitOf BinOp.and IntKind.i64 a (63 : Int)) (8 : Int))), (Int.tmod (bitOf BinOp.and IntKind.i64 a (63 : Int)) (8 : Int)), (0 : Int)⟩ : M.Operand), ()) : Option (M.Operand × Unit)) := by kernel_rfl
theorem tot90 (a : Int) : (some ((⟨(IntKind.wrap IntKind.i64 (Int.tdiv (bitOf BinOp.and IntKind.i64 a (63 : Int)) (8 : Int))), (Int.tmod (bitOf BinOp.and IntKind.i64 a (63 : Int)) (8 : Int)), (0 : Int)⟩ : M.Operand), ()) : Option (M.Operand × Unit)) = some ((X.R05_From a), ()) := by (unfold X.R05_From; (try simp only [cond_some, cond_prod, cond_fst, cond_snd, cond_unit]); first | done | kernel_rfl)
theorem con90 : ConOK Try.prog 90 (K90 X.R05_From) := con_of (C := clist []) (J := jlist []) (G := gnil) (N := 70) (ℓ := (lmap [])) cl_nil (segsOK_nil _) rfl rfl Try.func90 rfl Try.call90 rfl fun x => (ev90 x.1).trans (by exact tot90 x.1)

noncomputable def K91 (m91 : Int → Int) : Con := ⟨[(.int .i64)], [(.int .i64)], fun x => some ((m91 x.1), ())⟩
theorem ev91  (a : Int) : evF Θ tyOf (clist []) Try.f91.ntmps (lmap []) (jlist []) (gnil) 70 (bodyOf Try.f91) Try.f91.results.toList [(.int .i64)] [(.int .i64)] (a, ()) =
  (bif (decide (a > (127 : Int))) then some ((IntKind.wrap IntKind.i64 (a - (256 : Int))), ())
  else some (a, ()) : Option (Int × Unit)) := by kernel_rfl
theorem tot91 (a : Int) : (bif (decide (a > (127 : Int))) then some ((IntKind.wrap IntKind.i64 (a - (256 : Int))), ())
  else some (a, ()) : Option (Int × Unit)) = some ((X.R06_signed a), ()) := by (unfold X.R06_signed; (try simp only [cond_some, cond_prod, cond_fst, cond_snd, cond_unit]); first | done | kernel_rfl)
theorem con91 : ConOK Try.prog 91 (K91 X.R06_signed) := con_of (C := clist []) (J := jlist []) (G := gnil) (N := 70) (ℓ := (lmap [])) cl_nil (segsOK_nil _) rfl rfl Try.func91 rfl Try.call91 rfl fun x => (ev91 x.1).trans (by exact tot91 x.1)

noncomputable def K56 (m56 : Int → M.Inst) : Con := ⟨[(.int .i64)], [(.st .sInst)], fun x => some ((m56 x.1), ())⟩
theorem ev56 (m90 : Int → M.Operand) (m91 : Int → Int) (a : Int) : evF Θ tyOf (clist [(90, .pure (K90 m90)), (91, .pure (K91 m91))]) Try.f56.ntmps (lmap []) (jlist [(3, 22), (5, 35), (11, 60), (17, 91), (19, 103), (21, 115), (23, 127), (39, 178), (41, 195)]) (gnil) 70 (bodyOf Try.f56) Try.f56.results.toList [(.int .i64)] [(.st .sInst)] (a, ()) =
  (bif (bif (decide ((IntKind.wrap IntKind.i64 (Int.tdiv a (4096 : Int))) ≥ (1 : Int))) then (decide ((IntKind.wrap IntKind.i64 (Int.tdiv a (4096 : Int))) ≤ (5 : Int))) else false) then some ((⟨(IntKind.wrap IntKind.i64 ((1 : Int) + (IntKind.wrap IntKind.i64 ((IntKind.wrap IntKind.i64 (Int.tdiv a (4096 : Int))) - (1 : Int))))), false, (m90 (Int.tmod (IntKind.wrap IntKind.i64 (Int.tdiv a (64 : Int))) (64 : Int))), (m90 (Int.tmod a (64 : Int))), (0 : Int), (0 : Int)⟩ : M.Inst), ())
  else bif (bif (decide ((IntKind.wrap IntKind.i64 (Int.tdiv a (4096 : Int))) ≥ (9 : Int))) then (decide ((IntKind.wrap IntKind.i64 (Int.tdiv a (4096 : Int))) ≤ (13 : Int))) else false) then some ((⟨(IntKind.wrap IntKind.i64 ((1 : Int) + (IntKind.wrap IntKind.i64 ((IntKind.wrap IntKind.i64 (Int.tdiv a (4096 : Int))) - (9 : Int))))), true, (m90 (Int.tmod (IntKind.wrap IntKind.i64 (Int.tdiv a (64 : Int))) (64 : Int))), (m90 (Int.tmod a (64 : Int))), (0 : Int), (0 : Int)⟩ : M.Inst), ())
  else bif ((IntKind.wrap IntKind.i64 (Int.tdiv a (4096 : Int))) == (6 : Int)) then some ((⟨(6 : Int), false, (m90 (Int.tmod (IntKind.wrap IntKind.i64 (Int.tdiv a (64 : Int))) (64 : Int))), (m90 (Int.tmod a (64 : Int))), (0 : Int), (0 : Int)⟩ : M.Inst), ())
  else bif ((IntKind.wrap IntKind.i64 (Int.tdiv a (4096 : Int))) == (14 : Int)) then some ((⟨(7 : Int), false, (m90 (Int.tmod (IntKind.wrap IntKind.i64 (Int.tdiv a (64 : Int))) (64 : Int))), (m90 (Int.tmod a (64 : Int))), (0 : Int), (0 : Int)⟩ : M.Inst), ())
  else bif (bif (decide ((IntKind.wrap IntKind.i64 (Int.tdiv a (512 : Int))) ≥ (56 : Int))) then (decide ((IntKind.wrap IntKind.i64 (Int.tdiv a (512 : Int))) ≤ (58 : Int))) else false) then some ((⟨(IntKind.wrap IntKind.i64 ((8 : Int) + (IntKind.wrap IntKind.i64 ((IntKind.wrap IntKind.i64 (Int.tdiv a (512 : Int))) - (56 : Int))))), false, (m90 (Int.tmod a (64 : Int))), (⟨(0 : Int), (0 : Int), (0 : Int)⟩ : M.Operand), (Int.tmod (IntKind.wrap IntKind.i64 (Int.tdiv a (64 : Int))) (8 : Int)), (0 : Int)⟩ : M.Inst), ())
  else bif ((IntKind.wrap IntKind.i64 (Int.tdiv a (512 : Int))) == (60 : Int)) then some ((⟨(11 : Int), false, (⟨(0 : Int), (0 : Int), (0 : Int)⟩ : M.Operand), (m90 (Int.tmod a (64 : Int))), (Int.tmod (IntKind.wrap IntKind.i64 (Int.tdiv a (64 : Int))) (8 : Int)), (0 : Int)⟩ : M.Inst), ())
  else bif ((IntKind.wrap IntKind.i64 (Int.tdiv a (512 : Int))) == (63 : Int)) then some ((⟨(44 : Int), false, (⟨(0 : Int), (0 : Int), (0 : Int)⟩ : M.Operand), (⟨(0 : Int), (0 : Int), (0 : Int)⟩ : M.Operand), (Int.tmod (IntKind.wrap IntKind.i64 (Int.tdiv a (64 : Int))) (8 : Int)), (Int.tmod a (64 : Int))⟩ : M.Inst), ())
  else bif (bif (decide ((IntKind.wrap IntKind.i64 (Int.tdiv a (64 : Int))) ≥ (40 : Int))) then (decide ((IntKind.wrap IntKind.i64 (Int.tdiv a (64 : Int))) ≤ (47 : Int))) else false) then some ((⟨(IntKind.wrap IntKind.i64 ((12 : Int) + (IntKind.wrap IntKind.i64 ((IntKind.wrap IntKind.i64 (Int.tdiv a (64 : Int))) - (40 : Int))))), false, (⟨(0 : Int), (0 : Int), (0 : Int)⟩ : M.Operand), (m90 (Int.tmod a (64 : Int))), (0 : Int), (0 : Int)⟩ : M.Inst), ())
  else bif (bif (decide ((IntKind.wrap IntKind.i64 (Int.tdiv a (64 : Int))) ≥ (552 : Int))) then (decide ((IntKind.wrap IntKind.i64 (Int.tdiv a (64 : Int))) ≤ (559 : Int))) else false) then some ((⟨(IntKind.wrap IntKind.i64 ((12 : Int) + (IntKind.wrap IntKind.i64 ((IntKind.wrap IntKind.i64 (Int.tdiv a (64 : Int))) - (552 : Int))))), true, (⟨(0 : Int), (0 : Int), (0 : Int)⟩ : M.Operand), (m90 (Int.tmod a (64 : Int))), (0 : Int), (0 : Int)⟩ : M.Inst), ())
  else bif (bif (decide ((IntKind.wrap IntKind.i64 (Int.tdiv a (64 : Int))) ≥ (48 : Int))) then (decide ((IntKind.wrap IntKind.i64 (Int.tdiv a (64 : Int))) ≤ (51 : Int))) else false) then some ((⟨(IntKind.wrap IntKind.i64 ((20 : Int) + (IntKind.wrap IntKind.i64 ((IntKind.wrap IntKind.i64 (Int.tdiv a (64 : Int))) - (48 : Int))))), false, (⟨(0 : Int), (0 : Int), (0 : Int)⟩ : M.Operand), (m90 (Int.tmod a (64 : Int))), (0 : Int), (0 : Int)⟩ : M.Inst), ())
  else bif (bif (decide ((IntKind.wrap IntKind.i64 (Int.tdiv a (64 : Int))) ≥ (560 : Int))) then (decide ((IntKind.wrap IntKind.i64 (Int.tdiv a (64 : Int))) ≤ (563 : Int))) else false) then some ((⟨(IntKind.wrap IntKind.i64 ((20 : Int) + (IntKind.wrap IntKind.i64 ((IntKind.wrap IntKind.i64 (Int.tdiv a (64 : Int))) - (560 : Int))))), true, (⟨(0 : Int), (0 : Int), (0 : Int)⟩ : M.Operand), (m90 (Int.tmod a (64 : Int))), (0 : Int), (0 : Int)⟩ : M.Inst), ())
  else bif ((IntKind.wrap IntKind.i64 (Int.tdiv a (64 : Int))) == (3 : Int)) then some ((⟨(24 : Int), false, (⟨(0 : Int), (0 : Int), (0 : Int)⟩ : M.Operand), (m90 (Int.tmod a (64 : Int))), (0 : Int), (0 : Int)⟩ : M.Inst), ())
  else bif ((IntKind.wrap IntKind.i64 (Int.tdiv a (64 : Int))) == (55 : Int)) then some ((⟨(25 : Int), false, (⟨(0 : Int), (0 : Int), (0 : Int)⟩ : M.Operand), (m90 (Int.tmod a (64 : Int))), (0 : Int), (0 : Int)⟩ : M.Inst), ())
  else bif ((IntKind.wrap IntKind.i64 (Int.tdiv a (64 : Int))) == (53 : Int)) then some ((⟨(55 : Int), false, (m90 (Int.tmod a (64 : Int))), (⟨(0 : Int), (0 : Int), (0 : Int)⟩ : M.Operand), (0 : Int), (0 : Int)⟩ : M.Inst), ())
  else bif ((IntKind.wrap IntKind.i64 (Int.tdiv a (64 : Int))) == (54 : Int)) then some ((⟨(56 : Int), false, (⟨(0 : Int), (0 : Int), (0 : Int)⟩ : M.Operand), (m90 (Int.tmod a (64 : Int))), (0 : Int), (0 : Int)⟩ : M.Inst), ())
  else bif ((IntKind.wrap IntKind.i64 (Int.tdiv a (64 : Int))) == (1 : Int)) then some ((⟨(41 : Int), false, (⟨(0 : Int), (0 : Int), (0 : Int)⟩ : M.Operand), (m90 (Int.tmod a (64 : Int))), (0 : Int), (0 : Int)⟩ : M.Inst), ())
  else bif ((IntKind.wrap IntKind.i64 (Int.tdiv a (512 : Int))) == (4 : Int)) then some ((⟨(42 : Int), false, (⟨(0 : Int), (0 : Int), (0 : Int)⟩ : M.Operand), (m90 (Int.tmod a (64 : Int))), (Int.tmod (IntKind.wrap IntKind.i64 (Int.tdiv a (64 : Int))) (8 : Int)), (0 : Int)⟩ : M.Inst), ())
  else bif ((IntKind.wrap IntKind.i64 (Int.tdiv a (8 : Int))) == (16 : Int)) then some ((⟨(43 : Int), false, (⟨(0 : Int), (0 : Int), (0 : Int)⟩ : M.Operand), (⟨(0 : Int), (0 : Int), (0 : Int)⟩ : M.Operand), (Int.tmod a (8 : Int)), (0 : Int)⟩ : M.Inst), ())
  else bif (bif (decide ((IntKind.wrap IntKind.i64 (Int.tdiv a (256 : Int))) ≥ (1 : Int))) then (decide ((IntKind.wrap IntKind.i64 (Int.tdiv a (256 : Int))) ≤ (7 : Int))) else false) then some ((⟨(IntKind.wrap IntKind.i64 ((26 : Int) + (IntKind.wrap IntKind.i64 ((IntKind.wrap IntKind.i64 (Int.tdiv a (256 : Int))) - (1 : Int))))), false, (⟨(0 : Int), (0 : Int), (0 : Int)⟩ : M.Operand), (⟨(0 : Int), (0 : Int), (0 : Int)⟩ : M.Operand), (0 : Int), (m91 (Int.tmod a (256 : Int)))⟩ : M.Inst), ())
  else bif (bif (decide ((IntKind.wrap IntKind.i64 (Int.tdiv a (256 : Int))) ≥ (128 : Int))) then (decide ((IntKind.wrap IntKind.i64 (Int.tdiv a (256 : Int))) ≤ (135 : Int))) else false) then some ((⟨(IntKind.wrap IntKind.i64 ((33 : Int) + (IntKind.wrap IntKind.i64 ((IntKind.wrap IntKind.i64 (Int.tdiv a (256 : Int))) - (128 : Int))))), false, (⟨(0 : Int), (0 : Int), (0 : Int)⟩ : M.Operand), (⟨(0 : Int), (0 : Int), (0 : Int)⟩ : M.Operand), (0 : Int), (m91 (Int.tmod a (256 : Int)))⟩ : M.Inst), ())
  else bif ((IntKind.wrap IntKind.i64 (Int.tdiv a (256 : Int))) == (136 : Int)) then some ((⟨(45 : Int), false, (⟨(0 : Int), (0 : Int), (0 : Int)⟩ : M.Operand), (⟨(0 : Int), (0 : Int), (0 : Int)⟩ : M.Operand), (0 : Int), (Int.tmod a (256 : Int))⟩ : M.Inst), ())
  else bif ((IntKind.wrap IntKind.i64 (Int.tdiv a (256 : Int))) == (137 : Int)) then some ((⟨(46 : Int), false, (⟨(0 : Int), (0 : Int), (0 : Int)⟩ : M.Operand), (⟨(0 : Int), (0 : Int), (0 : Int)⟩ : M.Operand), (0 : Int), (Int.tmod a (256 : Int))⟩ : M.Inst), ())
  else bif ((IntKind.wrap IntKind.i64 (Int.tdiv a (16 : Int))) == (10 : Int)) then some ((⟨(53 : Int), false, (⟨(0 : Int), (0 : Int), (0 : Int)⟩ : M.Operand), (⟨(0 : Int), (0 : Int), (0 : Int)⟩ : M.Operand), (0 : Int), (Int.tmod a (16 : Int))⟩ : M.Inst), ())
  else bif ((IntKind.wrap IntKind.i64 (Int.tdiv a (16 : Int))) == (11 : Int)) then some ((⟨(54 : Int), false, (⟨(0 : Int), (0 : Int), (0 : Int)⟩ : M.Operand), (⟨(0 : Int), (0 : Int), (0 : Int)⟩ : M.Operand), (0 : Int), (Int.tmod a (16 : Int))⟩ : M.Inst), ())
  else bif (a == (0 : Int)) then some ((⟨(50 : Int), false, (⟨(0 : Int), (0 : Int), (0 : Int)⟩ : M.Operand), (⟨(0 : Int), (0 : Int), (0 : Int)⟩ : M.Operand), (0 : Int), (0 : Int)⟩ : M.Inst), ())
  else bif (a == (1 : Int)) then some ((⟨(51 : Int), false, (⟨(0 : Int), (0 : Int), (0 : Int)⟩ : M.Operand), (⟨(0 : Int), (0 : Int), (0 : Int)⟩ : M.Operand), (0 : Int), (0 : Int)⟩ : M.Inst), ())
  else bif (a == (2 : Int)) then some ((⟨(49 : Int), false, (⟨(0 : Int), (0 : Int), (0 : Int)⟩ : M.Operand), (⟨(0 : Int), (0 : Int), (0 : Int)⟩ : M.Operand), (0 : Int), (0 : Int)⟩ : M.Inst), ())
  else bif (a == (3 : Int)) then some ((⟨(47 : Int), false, (⟨(0 : Int), (0 : Int), (0 : Int)⟩ : M.Operand), (⟨(0 : Int), (0 : Int), (0 : Int)⟩ : M.Operand), (0 : Int), (0 : Int)⟩ : M.Inst), ())
  else bif (a == (4 : Int)) then some ((⟨(48 : Int), false, (⟨(0 : Int), (0 : Int), (0 : Int)⟩ : M.Operand), (⟨(0 : Int), (0 : Int), (0 : Int)⟩ : M.Operand), (0 : Int), (0 : Int)⟩ : M.Inst), ())
  else bif (a == (5 : Int)) then some ((⟨(52 : Int), false, (⟨(0 : Int), (0 : Int), (0 : Int)⟩ : M.Operand), (⟨(0 : Int), (0 : Int), (0 : Int)⟩ : M.Operand), (0 : Int), (0 : Int)⟩ : M.Inst), ())
  else some ((⟨(0 : Int), false, (⟨(0 : Int), (0 : Int), (0 : Int)⟩ : M.Operand), (⟨(0 : Int), (0 : Int), (0 : Int)⟩ : M.Operand), (0 : Int), (0 : Int)⟩ : M.Inst), ()) : Option (M.Inst × Unit)) := by kernel_rfl
theorem tot56 (a : Int) : (bif (bif (decide ((IntKind.wrap IntKind.i64 (Int.tdiv a (4096 : Int))) ≥ (1 : Int))) then (decide ((IntKind.wrap IntKind.i64 (Int.tdiv a (4096 : Int))) ≤ (5 : Int))) else false) then some ((⟨(IntKind.wrap IntKind.i64 ((1 : Int) + (IntKind.wrap IntKind.i64 ((IntKind.wrap IntKind.i64 (Int.tdiv a (4096 : Int))) - (1 : Int))))), false, (X.R05_From (Int.tmod (IntKind.wrap IntKind.i64 (Int.tdiv a (64 : Int))) (64 : Int))), (X.R05_From (Int.tmod a (64 : Int))), (0 : Int), (0 : Int)⟩ : M.Inst), ())
  else bif (bif (decide ((IntKind.wrap IntKind.i64 (Int.tdiv a (4096 : Int))) ≥ (9 : Int))) then (decide ((IntKind.wrap IntKind.i64 (Int.tdiv a (4096 : Int))) ≤ (13 : Int))) else false) then some ((⟨(IntKind.wrap IntKind.i64 ((1 : Int) + (IntKind.wrap IntKind.i64 ((IntKind.wrap IntKind.i64 (Int.tdiv a (4096 : Int))) - (9 : Int))))), true, (X.R05_From (Int.tmod (IntKind.wrap IntKind.i64 (Int.tdiv a (64 : Int))) (64 : Int))), (X.R05_From (Int.tmod a (64 : Int))), (0 : Int), (0 : Int)⟩ : M.Inst), ())
  else bif ((IntKind.wrap IntKind.i64 (Int.tdiv a (4096 : Int))) == (6 : Int)) then some ((⟨(6 : Int), false, (X.R05_From (Int.tmod (IntKind.wrap IntKind.i64 (Int.tdiv a (64 : Int))) (64 : Int))), (X.R05_From (Int.tmod a (64 : Int))), (0 : Int), (0 : Int)⟩ : M.Inst), ())
  else bif ((IntKind.wrap IntKind.i64 (Int.tdiv a (4096 : Int))) == (14 : Int)) then some ((⟨(7 : Int), false, (X.R05_From (Int.tmod (IntKind.wrap IntKind.i64 (Int.tdiv a (64 : Int))) (64 : Int))), (X.R05_From (Int.tmod a (64 : Int))), (0 : Int), (0 : Int)⟩ : M.Inst), ())
  else bif (bif (decide ((IntKind.wrap IntKind.i64 (Int.tdiv a (512 : Int))) ≥ (56 : Int))) then (decide ((IntKind.wrap IntKind.i64 (Int.tdiv a (512 : Int))) ≤ (58 : Int))) else false) then some ((⟨(IntKind.wrap IntKind.i64 ((8 : Int) + (IntKind.wrap IntKind.i64 ((IntKind.wrap IntKind.i64 (Int.tdiv a (512 : Int))) - (56 : Int))))), false, (X.R05_From (Int.tmod a (64 : Int))), (⟨(0 : Int), (0 : Int), (0 : Int)⟩ : M.Operand), (Int.tmod (IntKind.wrap IntKind.i64 (Int.tdiv a (64 : Int))) (8 : Int)), (0 : Int)⟩ : M.Inst), ())
  else bif ((IntKind.wrap IntKind.i64 (Int.tdiv a (512 : Int))) == (60 : Int)) then some ((⟨(11 : Int), false, (⟨(0 : Int), (0 : Int), (0 : Int)⟩ : M.Operand), (X.R05_From (Int.tmod a (64 : Int))), (Int.tmod (IntKind.wrap IntKind.i64 (Int.tdiv a (64 : Int))) (8 : Int)), (0 : Int)⟩ : M.Inst), ())
  else bif ((IntKind.wrap IntKind.i64 (Int.tdiv a (512 : Int))) == (63 : Int)) then some ((⟨(44 : Int), false, (⟨(0 : Int), (0 : Int), (0 : Int)⟩ : M.Operand), (⟨(0 : Int), (0 : Int), (0 : Int)⟩ : M.Operand), (Int.tmod (IntKind.wrap IntKind.i64 (Int.tdiv a (64 : Int))) (8 : Int)), (Int.tmod a (64 : Int))⟩ : M.Inst), ())
  else bif (bif (decide ((IntKind.wrap IntKind.i64 (Int.tdiv a (64 : Int))) ≥ (40 : Int))) then (decide ((IntKind.wrap IntKind.i64 (Int.tdiv a (64 : Int))) ≤ (47 : Int))) else false) then some ((⟨(IntKind.wrap IntKind.i64 ((12 : Int) + (IntKind.wrap IntKind.i64 ((IntKind.wrap IntKind.i64 (Int.tdiv a (64 : Int))) - (40 : Int))))), false, (⟨(0 : Int), (0 : Int), (0 : Int)⟩ : M.Operand), (X.R05_From (Int.tmod a (64 : Int))), (0 : Int), (0 : Int)⟩ : M.Inst), ())
  else bif (bif (decide ((IntKind.wrap IntKind.i64 (Int.tdiv a (64 : Int))) ≥ (552 : Int))) then (decide ((IntKind.wrap IntKind.i64 (Int.tdiv a (64 : Int))) ≤ (559 : Int))) else false) then some ((⟨(IntKind.wrap IntKind.i64 ((12 : Int) + (IntKind.wrap IntKind.i64 ((IntKind.wrap IntKind.i64 (Int.tdiv a (64 : Int))) - (552 : Int))))), true, (⟨(0 : Int), (0 : Int), (0 : Int)⟩ : M.Operand), (X.R05_From (Int.tmod a (64 : Int))), (0 : Int), (0 : Int)⟩ : M.Inst), ())
  else bif (bif (decide ((IntKind.wrap IntKind.i64 (Int.tdiv a (64 : Int))) ≥ (48 : Int))) then (decide ((IntKind.wrap IntKind.i64 (Int.tdiv a (64 : Int))) ≤ (51 : Int))) else false) then some ((⟨(IntKind.wrap IntKind.i64 ((20 : Int) + (IntKind.wrap IntKind.i64 ((IntKind.wrap IntKind.i64 (Int.tdiv a (64 : Int))) - (48 : Int))))), false, (⟨(0 : Int), (0 : Int), (0 : Int)⟩ : M.Operand), (X.R05_From (Int.tmod a (64 : Int))), (0 : Int), (0 : Int)⟩ : M.Inst), ())
  else bif (bif (decide ((IntKind.wrap IntKind.i64 (Int.tdiv a (64 : Int))) ≥ (560 : Int))) then (decide ((IntKind.wrap IntKind.i64 (Int.tdiv a (64 : Int))) ≤ (563 : Int))) else false) then some ((⟨(IntKind.wrap IntKind.i64 ((20 : Int) + (IntKind.wrap IntKind.i64 ((IntKind.wrap IntKind.i64 (Int.tdiv a (64 : Int))) - (560 : Int))))), true, (⟨(0 : Int), (0 : Int), (0 : Int)⟩ : M.Operand), (X.R05_From (Int.tmod a (64 : Int))), (0 : Int), (0 : Int)⟩ : M.Inst), ())
  else bif ((IntKind.wrap IntKind.i64 (Int.tdiv a (64 : Int))) == (3 : Int)) then some ((⟨(24 : Int), false, (⟨(0 : Int), (0 : Int), (0 : Int)⟩ : M.Operand), (X.R05_From (Int.tmod a (64 : Int))), (0 : Int), (0 : Int)⟩ : M.Inst), ())
  else bif ((IntKind.wrap IntKind.i64 (Int.tdiv a (64 : Int))) == (55 : Int)) then some ((⟨(25 : Int), false, (⟨(0 : Int), (0 : Int), (0 : Int)⟩ : M.Operand), (X.R05_From (Int.tmod a (64 : Int))), (0 : Int), (0 : Int)⟩ : M.Inst), ())
  else bif ((IntKind.wrap IntKind.i64 (Int.tdiv a (64 : Int))) == (53 : Int)) then some ((⟨(55 : Int), false, (X.R05_From (Int.tmod a (64 : Int))), (⟨(0 : Int), (0 : Int), (0 : Int)⟩ : M.Operand), (0 : Int), (0 : Int)⟩ : M.Inst), ())
  else bif ((IntKind.wrap IntKind.i64 (Int.tdiv a (64 : Int))) == (54 : Int)) then some ((⟨(56 : Int), false, (⟨(0 : Int), (0 : Int), (0 : Int)⟩ : M.Operand), (X.R05_From (Int.tmod a (64 : Int))), (0 : Int), (0 : Int)⟩ : M.Inst), ())
  else bif ((IntKind.wrap IntKind.i64 (Int.tdiv a (64 : Int))) == (1 : Int)) then some ((⟨(41 : Int), false, (⟨(0 : Int), (0 : Int), (0 : Int)⟩ : M.Operand), (X.R05_From (Int.tmod a (64 : Int))), (0 : Int), (0 : Int)⟩ : M.Inst), ())
  else bif ((IntKind.wrap IntKind.i64 (Int.tdiv a (512 : Int))) == (4 : Int)) then some ((⟨(42 : Int), false, (⟨(0 : Int), (0 : Int), (0 : Int)⟩ : M.Operand), (X.R05_From (Int.tmod a (64 : Int))), (Int.tmod (IntKind.wrap IntKind.i64 (Int.tdiv a (64 : Int))) (8 : Int)), (0 : Int)⟩ : M.Inst), ())
  else bif ((IntKind.wrap IntKind.i64 (Int.tdiv a (8 : Int))) == (16 : Int)) then some ((⟨(43 : Int), false, (⟨(0 : Int), (0 : Int), (0 : Int)⟩ : M.Operand), (⟨(0 : Int), (0 : Int), (0 : Int)⟩ : M.Operand), (Int.tmod a (8 : Int)), (0 : Int)⟩ : M.Inst), ())
  else bif (bif (decide ((IntKind.wrap IntKind.i64 (Int.tdiv a (256 : Int))) ≥ (1 : Int))) then (decide ((IntKind.wrap IntKind.i64 (Int.tdiv a (256 : Int))) ≤ (7 : Int))) else false) then some ((⟨(IntKind.wrap IntKind.i64 ((26 : Int) + (IntKind.wrap IntKind.i64 ((IntKind.wrap IntKind.i64 (Int.tdiv a (256 : Int))) - (1 : Int))))), false, (⟨(0 : Int), (0 : Int), (0 : Int)⟩ : M.Operand), (⟨(0 : Int), (0 : Int), (0 : Int)⟩ : M.Operand), (0 : Int), (X.R06_signed (Int.tmod a (256 : Int)))⟩ : M.Inst), ())
  else bif (bif (decide ((IntKind.wrap IntKind.i64 (Int.tdiv a (256 : Int))) ≥ (128 : Int))) then (decide ((IntKind.wrap IntKind.i64 (Int.tdiv a (256 : Int))) ≤ (135 : Int))) else false) then some ((⟨(IntKind.wrap IntKind.i64 ((33 : Int) + (IntKind.wrap IntKind.i64 ((IntKind.wrap IntKind.i64 (Int.tdiv a (256 : Int))) - (128 : Int))))), false, (⟨(0 : Int), (0 : Int), (0 : Int)⟩ : M.Operand), (⟨(0 : Int), (0 : Int), (0 : Int)⟩ : M.Operand), (0 : Int), (X.R06_signed (Int.tmod a (256 : Int)))⟩ : M.Inst), ())
  else bif ((IntKind.wrap IntKind.i64 (Int.tdiv a (256 : Int))) == (136 : Int)) then some ((⟨(45 : Int), false, (⟨(0 : Int), (0 : Int), (0 : Int)⟩ : M.Operand), (⟨(0 : Int), (0 : Int), (0 : Int)⟩ : M.Operand), (0 : Int), (Int.tmod a (256 : Int))⟩ : M.Inst), ())
  else bif ((IntKind.wrap IntKind.i64 (Int.tdiv a (256 : Int))) == (137 : Int)) then some ((⟨(46 : Int), false, (⟨(0 : Int), (0 : Int), (0 : Int)⟩ : M.Operand), (⟨(0 : Int), (0 : Int), (0 : Int)⟩ : M.Operand), (0 : Int), (Int.tmod a (256 : Int))⟩ : M.Inst), ())
  else bif ((IntKind.wrap IntKind.i64 (Int.tdiv a (16 : Int))) == (10 : Int)) then some ((⟨(53 : Int), false, (⟨(0 : Int), (0 : Int), (0 : Int)⟩ : M.Operand), (⟨(0 : Int), (0 : Int), (0 : Int)⟩ : M.Operand), (0 : Int), (Int.tmod a (16 : Int))⟩ : M.Inst), ())
  else bif ((IntKind.wrap IntKind.i64 (Int.tdiv a (16 : Int))) == (11 : Int)) then some ((⟨(54 : Int), false, (⟨(0 : Int), (0 : Int), (0 : Int)⟩ : M.Operand), (⟨(0 : Int), (0 : Int), (0 : Int)⟩ : M.Operand), (0 : Int), (Int.tmod a (16 : Int))⟩ : M.Inst), ())
  else bif (a == (0 : Int)) then some ((⟨(50 : Int), false, (⟨(0 : Int), (0 : Int), (0 : Int)⟩ : M.Operand), (⟨(0 : Int), (0 : Int), (0 : Int)⟩ : M.Operand), (0 : Int), (0 : Int)⟩ : M.Inst), ())
  else bif (a == (1 : Int)) then some ((⟨(51 : Int), false, (⟨(0 : Int), (0 : Int), (0 : Int)⟩ : M.Operand), (⟨(0 : Int), (0 : Int), (0 : Int)⟩ : M.Operand), (0 : Int), (0 : Int)⟩ : M.Inst), ())
  else bif (a == (2 : Int)) then some ((⟨(49 : Int), false, (⟨(0 : Int), (0 : Int), (0 : Int)⟩ : M.Operand), (⟨(0 : Int), (0 : Int), (0 : Int)⟩ : M.Operand), (0 : Int), (0 : Int)⟩ : M.Inst), ())
  else bif (a == (3 : Int)) then some ((⟨(47 : Int), false, (⟨(0 : Int), (0 : Int), (0 : Int)⟩ : M.Operand), (⟨(0 : Int), (0 : Int), (0 : Int)⟩ : M.Operand), (0 : Int), (0 : Int)⟩ : M.Inst), ())
  else bif (a == (4 : Int)) then some ((⟨(48 : Int), false, (⟨(0 : Int), (0 : Int), (0 : Int)⟩ : M.Operand), (⟨(0 : Int), (0 : Int), (0 : Int)⟩ : M.Operand), (0 : Int), (0 : Int)⟩ : M.Inst), ())
  else bif (a == (5 : Int)) then some ((⟨(52 : Int), false, (⟨(0 : Int), (0 : Int), (0 : Int)⟩ : M.Operand), (⟨(0 : Int), (0 : Int), (0 : Int)⟩ : M.Operand), (0 : Int), (0 : Int)⟩ : M.Inst), ())
  else some ((⟨(0 : Int), false, (⟨(0 : Int), (0 : Int), (0 : Int)⟩ : M.Operand), (⟨(0 : Int), (0 : Int), (0 : Int)⟩ : M.Operand), (0 : Int), (0 : Int)⟩ : M.Inst), ()) : Option (M.Inst × Unit)) = some ((X.R06_shape a), ()) := by (unfold X.R06_shape; (try simp only [cond_some, cond_prod, cond_fst, cond_snd, cond_unit]); first | done | kernel_rfl)
theorem con56 : ConOK Try.prog 56 (K56 X.R06_shape) := con_of (C := clist [(90, .pure (K90 X.R05_From)), (91, .pure (K91 X.R06_signed))]) (J := jlist [(3, 22), (5, 35), (11, 60), (17, 91), (19, 103), (21, 115), (23, 127), (39, 178), (41, 195)]) (G := gnil) (N := 70) (ℓ := (lmap [])) (cl_cons con90 (cl_cons con91 cl_nil)) (segsOK_nil _) rfl rfl Try.func56 rfl Try.call56 rfl fun x => (ev56 X.R05_From X.R06_signed x.1).trans (by exact tot56 x.1)

noncomputable def K18 (m18 : (List Int) → Option (M.Inst × Int × Unit)) : Con := ⟨[(.sl (.int .i64))], [(.st .sInst), (.int .i64)], fun x => m18 x.1⟩
theorem ev18 (m23 : M.Inst → Bool) (m55 : Int → Bool) (m56 : Int → M.Inst) (m57 : Int → Bool) (m58 : M.Operand → Bool) (m59 : Int → Bool) (a : List Int) : evF Θ tyOf (clist [(23, .pure (K23 m23)), (55, .pure (K55 m55)), (56, .pure (K56 m56)), (57, .pure (K57 m57)), (58, .pure (K58 m58)), (59, .pure (K59 m59))]) Try.f18.ntmps (lmap []) (jlist [(5, 28), (10, 57)]) (gnil) 70 (bodyOf Try.f18) Try.f18.results.toList [(.sl (.int .i64))] [(.st .sInst), (.int .i64)] (a, ()) =
  (bif ((Nat.cast (List.length a) : Int) == (0 : Int)) then some ((⟨(0 : Int), false, (⟨(0 : Int), (0 : Int), (0 : Int)⟩ : M.Operand), (⟨(0 : Int), (0 : Int), (0 : Int)⟩ : M.Operand), (0 : Int), (0 : Int)⟩ : M.Inst), (0 : Int), ())
  else bif ((decide ((0 : Int) ≤ (0 : Int))) && (decide ((0 : Int) < (Nat.cast (List.length a) : Int)))) then bif (!(m55 (List.getD a (0 : Nat) (dflt (Ty.int IntKind.i64))))) then some ((⟨(0 : Int), false, (⟨(0 : Int), (0 : Int), (0 : Int)⟩ : M.Operand), (⟨(0 : Int), (0 : Int), (0 : Int)⟩ : M.Operand), (0 : Int), (0 : Int)⟩ : M.Inst), (0 : Int), ())
    else bif ((decide ((0 : Int) ≤ (0 : Int))) && (decide ((0 : Int) < (Nat.cast (List.length a) : Int)))) then bif (bif (m57 (m56 (List.getD a (0 : Nat) (dflt (Ty.int IntKind.i64)))).Op) then (m58 (m56 (List.getD a (0 : Nat) (dflt (Ty.int IntKind.i64)))).Src) else false) then bif (decide ((1 : Int) ≥ (Nat.cast (List.length a) : Int))) then some ((⟨(0 : Int), false, (⟨(0 : Int), (0 : Int), (0 : Int)⟩ : M.Operand), (⟨(0 : Int), (0 : Int), (0 : Int)⟩ : M.Operand), (0 : Int), (0 : Int)⟩ : M.Inst), (0 : Int), ())
        else bif ((decide ((0 : Int) ≤ (1 : Int))) && (decide ((1 : Int) < (Nat.cast (List.length a) : Int)))) then bif (!(m55 (List.getD a (1 : Nat) (dflt (Ty.int IntKind.i64))))) then some ((⟨(0 : Int), false, (⟨(0 : Int), (0 : Int), (0 : Int)⟩ : M.Operand), (⟨(0 : Int), (0 : Int), (0 : Int)⟩ : M.Operand), (0 : Int), (0 : Int)⟩ : M.Inst), (0 : Int), ())
          else bif ((decide ((0 : Int) ≤ (1 : Int))) && (decide ((1 : Int) < (Nat.cast (List.length a) : Int)))) then bif (bif (m59 (m56 (List.getD a (0 : Nat) (dflt (Ty.int IntKind.i64)))).Op) then (m58 (m56 (List.getD a (0 : Nat) (dflt (Ty.int IntKind.i64)))).Dst) else false) then bif (decide ((IntKind.wrap IntKind.i64 ((1 : Int) + (1 : Int))) ≥ (Nat.cast (List.length a) : Int))) then some ((⟨(0 : Int), false, (⟨(0 : Int), (0 : Int), (0 : Int)⟩ : M.Operand), (⟨(0 : Int), (0 : Int), (0 : Int)⟩ : M.Operand), (0 : Int), (0 : Int)⟩ : M.Inst), (0 : Int), ())
              else bif ((decide ((0 : Int) ≤ (IntKind.wrap IntKind.i64 ((1 : Int) + (1 : Int))))) && (decide ((IntKind.wrap IntKind.i64 ((1 : Int) + (1 : Int))) < (Nat.cast (List.length a) : Int)))) then bif (!(m55 (List.getD a (Int.toNat (IntKind.wrap IntKind.i64 ((1 : Int) + (1 : Int)))) (dflt (Ty.int IntKind.i64))))) then some ((⟨(0 : Int), false, (⟨(0 : Int), (0 : Int), (0 : Int)⟩ : M.Operand), (⟨(0 : Int), (0 : Int), (0 : Int)⟩ : M.Operand), (0 : Int), (0 : Int)⟩ : M.Inst), (0 : Int), ())
                else bif ((decide ((0 : Int) ≤ (IntKind.wrap IntKind.i64 ((1 : Int) + (1 : Int))))) && (decide ((IntKind.wrap IntKind.i64 ((1 : Int) + (1 : Int))) < (Nat.cast (List.length a) : Int)))) then bif (!(m23 (⟨(m56 (List.getD a (0 : Nat) (dflt (Ty.int IntKind.i64)))).Op, (m56 (List.getD a (0 : Nat) (dflt (Ty.int IntKind.i64)))).Byte, (⟨(m56 (List.getD a (0 : Nat) (dflt (Ty.int IntKind.i64)))).Src.Mode, (m56 (List.getD a (0 : Nat) (dflt (Ty.int IntKind.i64)))).Src.Reg, (List.getD a (1 : Nat) (dflt (Ty.int IntKind.i64)))⟩ : M.Operand), (⟨(m56 (List.getD a (0 : Nat) (dflt (Ty.int IntKind.i64)))).Dst.Mode, (m56 (List.getD a (0 : Nat) (dflt (Ty.int IntKind.i64)))).Dst.Reg, (List.getD a (Int.toNat (IntKind.wrap IntKind.i64 ((1 : Int) + (1 : Int)))) (dflt (Ty.int IntKind.i64)))⟩ : M.Operand), (m56 (List.getD a (0 : Nat) (dflt (Ty.int IntKind.i64)))).Reg, (m56 (List.getD a (0 : Nat) (dflt (Ty.int IntKind.i64)))).Num⟩ : M.Inst))) then some ((⟨(0 : Int), false, (⟨(0 : Int), (0 : Int), (0 : Int)⟩ : M.Operand), (⟨(0 : Int), (0 : Int), (0 : Int)⟩ : M.Operand), (0 : Int), (0 : Int)⟩ : M.Inst), (0 : Int), ())
                  else some ((⟨(m56 (List.getD a (0 : Nat) (dflt (Ty.int IntKind.i64)))).Op, (m56 (List.getD a (0 : Nat) (dflt (Ty.int IntKind.i64)))).Byte, (⟨(m56 (List.getD a (0 : Nat) (dflt (Ty.int IntKind.i64)))).Src.Mode, (m56 (List.getD a (0 : Nat) (dflt (Ty.int IntKind.i64)))).Src.Reg, (List.getD a (1 : Nat) (dflt (Ty.int IntKind.i64)))⟩ : M.Operand), (⟨(m56 (List.getD a (0 : Nat) (dflt (Ty.int IntKind.i64)))).Dst.Mode, (m56 (List.getD a (0 : Nat) (dflt (Ty.int IntKind.i64)))).Dst.Reg, (List.getD a (Int.toNat (IntKind.wrap IntKind.i64 ((1 : Int) + (1 : Int)))) (dflt (Ty.int IntKind.i64)))⟩ : M.Operand), (m56 (List.getD a (0 : Nat) (dflt (Ty.int IntKind.i64)))).Reg, (m56 (List.getD a (0 : Nat) (dflt (Ty.int IntKind.i64)))).Num⟩ : M.Inst), (IntKind.wrap IntKind.i64 ((IntKind.wrap IntKind.i64 ((1 : Int) + (1 : Int))) + (1 : Int))), ())
                else none
              else none
            else bif (!(m23 (⟨(m56 (List.getD a (0 : Nat) (dflt (Ty.int IntKind.i64)))).Op, (m56 (List.getD a (0 : Nat) (dflt (Ty.int IntKind.i64)))).Byte, (⟨(m56 (List.getD a (0 : Nat) (dflt (Ty.int IntKind.i64)))).Src.Mode, (m56 (List.getD a (0 : Nat) (dflt (Ty.int IntKind.i64)))).Src.Reg, (List.getD a (1 : Nat) (dflt (Ty.int IntKind.i64)))⟩ : M.Operand), (m56 (List.getD a (0 : Nat) (dflt (Ty.int IntKind.i64)))).Dst, (m56 (List.getD a (0 : Nat) (dflt (Ty.int IntKind.i64)))).Reg, (m56 (List.getD a (0 : Nat) (dflt (Ty.int IntKind.i64)))).Num⟩ : M.Inst))) then some ((⟨(0 : Int), false, (⟨(0 : Int), (0 : Int), (0 : Int)⟩ : M.Operand), (⟨(0 : Int), (0 : Int), (0 : Int)⟩ : M.Operand), (0 : Int), (0 : Int)⟩ : M.Inst), (0 : Int), ())
            else some ((⟨(m56 (List.getD a (0 : Nat) (dflt (Ty.int IntKind.i64)))).Op, (m56 (List.getD a (0 : Nat) (dflt (Ty.int IntKind.i64)))).Byte, (⟨(m56 (List.getD a (0 : Nat) (dflt (Ty.int IntKind.i64)))).Src.Mode, (m56 (List.getD a (0 : Nat) (dflt (Ty.int IntKind.i64)))).Src.Reg, (List.getD a (1 : Nat) (dflt (Ty.int IntKind.i64)))⟩ : M.Operand), (m56 (List.getD a (0 : Nat) (dflt (Ty.int IntKind.i64)))).Dst, (m56 (List.getD a (0 : Nat) (dflt (Ty.int IntKind.i64)))).Reg, (m56 (List.getD a (0 : Nat) (dflt (Ty.int IntKind.i64)))).Num⟩ : M.Inst), (IntKind.wrap IntKind.i64 ((1 : Int) + (1 : Int))), ())
          else none
        else none
      else bif (bif (m59 (m56 (List.getD a (0 : Nat) (dflt (Ty.int IntKind.i64)))).Op) then (m58 (m56 (List.getD a (0 : Nat) (dflt (Ty.int IntKind.i64)))).Dst) else false) then bif (decide ((1 : Int) ≥ (Nat.cast (List.length a) : Int))) then some ((⟨(0 : Int), false, (⟨(0 : Int), (0 : Int), (0 : Int)⟩ : M.Operand), (⟨(0 : Int), (0 : Int), (0 : Int)⟩ : M.Operand), (0 : Int), (0 : Int)⟩ : M.Inst), (0 : Int), ())
        else bif ((decide ((0 : Int) ≤ (1 : Int))) && (decide ((1 : Int) < (Nat.cast (List.length a) : Int)))) then bif (!(m55 (List.getD a (1 : Nat) (dflt (Ty.int IntKind.i64))))) then some ((⟨(0 : Int), false, (⟨(0 : Int), (0 : Int), (0 : Int)⟩ : M.Operand), (⟨(0 : Int), (0 : Int), (0 : Int)⟩ : M.Operand), (0 : Int), (0 : Int)⟩ : M.Inst), (0 : Int), ())
          else bif ((decide ((0 : Int) ≤ (1 : Int))) && (decide ((1 : Int) < (Nat.cast (List.length a) : Int)))) then bif (!(m23 (⟨(m56 (List.getD a (0 : Nat) (dflt (Ty.int IntKind.i64)))).Op, (m56 (List.getD a (0 : Nat) (dflt (Ty.int IntKind.i64)))).Byte, (m56 (List.getD a (0 : Nat) (dflt (Ty.int IntKind.i64)))).Src, (⟨(m56 (List.getD a (0 : Nat) (dflt (Ty.int IntKind.i64)))).Dst.Mode, (m56 (List.getD a (0 : Nat) (dflt (Ty.int IntKind.i64)))).Dst.Reg, (List.getD a (1 : Nat) (dflt (Ty.int IntKind.i64)))⟩ : M.Operand), (m56 (List.getD a (0 : Nat) (dflt (Ty.int IntKind.i64)))).Reg, (m56 (List.getD a (0 : Nat) (dflt (Ty.int IntKind.i64)))).Num⟩ : M.Inst))) then some ((⟨(0 : Int), false, (⟨(0 : Int), (0 : Int), (0 : Int)⟩ : M.Operand), (⟨(0 : Int), (0 : Int), (0 : Int)⟩ : M.Operand), (0 : Int), (0 : Int)⟩ : M.Inst), (0 : Int), ())
            else some ((⟨(m56 (List.getD a (0 : Nat) (dflt (Ty.int IntKind.i64)))).Op, (m56 (List.getD a (0 : Nat) (dflt (Ty.int IntKind.i64)))).Byte, (m56 (List.getD a (0 : Nat) (dflt (Ty.int IntKind.i64)))).Src, (⟨(m56 (List.getD a (0 : Nat) (dflt (Ty.int IntKind.i64)))).Dst.Mode, (m56 (List.getD a (0 : Nat) (dflt (Ty.int IntKind.i64)))).Dst.Reg, (List.getD a (1 : Nat) (dflt (Ty.int IntKind.i64)))⟩ : M.Operand), (m56 (List.getD a (0 : Nat) (dflt (Ty.int IntKind.i64)))).Reg, (m56 (List.getD a (0 : Nat) (dflt (Ty.int IntKind.i64)))).Num⟩ : M.Inst), (IntKind.wrap IntKind.i64 ((1 : Int) + (1 : Int))), ())
          else none
        else none
      else bif (!(m23 (m56 (List.getD a (0 : Nat) (dflt (Ty.int IntKind.i64)))))) then some ((⟨(0 : Int), false, (⟨(0 : Int), (0 : Int), (0 : Int)⟩ : M.Operand), (⟨(0 : Int), (0 : Int), (0 : Int)⟩ : M.Operand), (0 : Int), (0 : Int)⟩ : M.Inst), (0 : Int), ())
      else some ((m56 (List.getD a (0 : Nat) (dflt (Ty.int IntKind.i64)))), (1 : Int), ())
    else none
  else none : Option (M.Inst × Int × Unit)) := by kernel_rfl
theorem con18 : ConOK Try.prog 18 (K18 X.R06_Decode) := con_of (C := clist [(23, .pure (K23 X.R06_Valid)), (55, .pure (K55 X.R06_Isword)), (56, .pure (K56 X.R06_shape)), (57, .pure (K57 X.R06_Hassrc)), (58, .pure (K58 X.R05_Extended)), (59, .pure (K59 X.R06_Hasdst))]) (J := jlist [(5, 28), (10, 57)]) (G := gnil) (N := 70) (ℓ := (lmap [])) (cl_cons con23 (cl_cons con55 (cl_cons con56 (cl_cons con57 (cl_cons con58 (cl_cons con59 cl_nil)))))) (segsOK_nil _) rfl rfl Try.func18 rfl Try.call18 rfl fun x => (ev18 X.R06_Valid X.R06_Isword X.R06_shape X.R06_Hassrc X.R05_Extended X.R06_Hasdst x.1).trans (by kernel_rfl)

noncomputable def K27 (m27 : M.Inst → Bool) : Con := ⟨[(.st .sInst)], [.bool], fun x => some ((m27 x.1), ())⟩
theorem ev27 (m23 : M.Inst → Bool) (m59 : Int → Bool) (m67 : Int → Bool) (a : M.Inst) : evF Θ tyOf (clist [(23, .pure (K23 m23)), (59, .pure (K59 m59)), (67, .pure (K67 m67))]) Try.f27.ntmps (lmap []) (jlist [(26, 2)]) (gnil) 70 (bodyOf Try.f27) Try.f27.results.toList [(.st .sInst)] [.bool] (a, ()) =
  (bif (!(m23 a)) then some (false, ())
  else bif (a.Op == (41 : Int)) then some (true, ())
  else bif (a.Op == (42 : Int)) then some (true, ())
  else bif (a.Op == (43 : Int)) then some (true, ())
  else bif (a.Op == (44 : Int)) then some (true, ())
  else bif (a.Op == (45 : Int)) then some (true, ())
  else bif (a.Op == (46 : Int)) then some (true, ())
  else bif (a.Op == (47 : Int)) then some (true, ())
  else bif (a.Op == (48 : Int)) then some (true, ())
  else bif (a.Op == (49 : Int)) then some (true, ())
  else bif (a.Op == (50 : Int)) then some (true, ())
  else bif (a.Op == (51 : Int)) then some (true, ())
  else bif (a.Op == (52 : Int)) then some (true, ())
  else bif (a.Op == (56 : Int)) then some (true, ())
  else bif (a.Op == (2 : Int)) then some (false, ())
  else bif (a.Op == (3 : Int)) then some (false, ())
  else bif (a.Op == (19 : Int)) then some (false, ())
  else bif (a.Op == (8 : Int)) then some ((decide (a.Reg ≥ (6 : Int))), ())
  else bif (a.Op == (10 : Int)) then some ((decide (a.Reg ≥ (6 : Int))), ())
  else bif (a.Op == (9 : Int)) then some ((decide (a.Reg ≥ (6 : Int))), ())
  else some ((bif (m67 a.Op) then true else (bif (m59 a.Op) then (bif (a.Dst.Mode == (0 : Int)) then (a.Dst.Reg == (7 : Int)) else false) else false)), ()) : Option (Bool × Unit)) := by kernel_rfl
theorem tot27 (a : M.Inst) : (bif (!(X.R06_Valid a)) then some (false, ())
  else bif (a.Op == (41 : Int)) then some (true, ())
  else bif (a.Op == (42 : Int)) then some (true, ())
  else bif (a.Op == (43 : Int)) then some (true, ())
  else bif (a.Op == (44 : Int)) then some (true, ())
  else bif (a.Op == (45 : Int)) then some (true, ())
  else bif (a.Op == (46 : Int)) then some (true, ())
  else bif (a.Op == (47 : Int)) then some (true, ())
  else bif (a.Op == (48 : Int)) then some (true, ())
  else bif (a.Op == (49 : Int)) then some (true, ())
  else bif (a.Op == (50 : Int)) then some (true, ())
  else bif (a.Op == (51 : Int)) then some (true, ())
  else bif (a.Op == (52 : Int)) then some (true, ())
  else bif (a.Op == (56 : Int)) then some (true, ())
  else bif (a.Op == (2 : Int)) then some (false, ())
  else bif (a.Op == (3 : Int)) then some (false, ())
  else bif (a.Op == (19 : Int)) then some (false, ())
  else bif (a.Op == (8 : Int)) then some ((decide (a.Reg ≥ (6 : Int))), ())
  else bif (a.Op == (10 : Int)) then some ((decide (a.Reg ≥ (6 : Int))), ())
  else bif (a.Op == (9 : Int)) then some ((decide (a.Reg ≥ (6 : Int))), ())
  else some ((bif (X.R06_Isbranch a.Op) then true else (bif (X.R06_Hasdst a.Op) then (bif (a.Dst.Mode == (0 : Int)) then (a.Dst.Reg == (7 : Int)) else false) else false)), ()) : Option (Bool × Unit)) = some ((X.R06_Ends a), ()) := by (unfold X.R06_Ends; (try simp only [cond_some, cond_prod, cond_fst, cond_snd, cond_unit]); first | done | kernel_rfl)
theorem con27 : ConOK Try.prog 27 (K27 X.R06_Ends) := con_of (C := clist [(23, .pure (K23 X.R06_Valid)), (59, .pure (K59 X.R06_Hasdst)), (67, .pure (K67 X.R06_Isbranch))]) (J := jlist [(26, 2)]) (G := gnil) (N := 70) (ℓ := (lmap [])) (cl_cons con23 (cl_cons con59 (cl_cons con67 cl_nil))) (segsOK_nil _) rfl rfl Try.func27 rfl Try.call27 rfl fun x => (ev27 X.R06_Valid X.R06_Hasdst X.R06_Isbranch x.1).trans (by exact tot27 x.1)

noncomputable def K72 (m72 : M.Machine → Int → Bool) : Con := ⟨[(.st .sMachine), (.int .i64)], [.bool], fun x => some ((m72 x.1 x.2.1), ())⟩
theorem ev72  (a : M.Machine) (b : Int) : evF Θ tyOf (clist []) Try.f72.ntmps (lmap []) (jlist [(1, 4)]) (gnil) 70 (bodyOf Try.f72) Try.f72.results.toList [(.st .sMachine), (.int .i64)] [.bool] (a, b, ()) =
  (some ((bif (decide (b ≥ (0 : Int))) then (bif ((Int.tmod b (2 : Int)) == (0 : Int)) then (decide ((IntKind.wrap IntKind.i64 (Int.tdiv b (2 : Int))) < (Nat.cast (List.length a.Mem) : Int))) else false) else false), ()) : Option (Bool × Unit)) := by kernel_rfl
theorem tot72 (a : M.Machine) (b : Int) : (some ((bif (decide (b ≥ (0 : Int))) then (bif ((Int.tmod b (2 : Int)) == (0 : Int)) then (decide ((IntKind.wrap IntKind.i64 (Int.tdiv b (2 : Int))) < (Nat.cast (List.length a.Mem) : Int))) else false) else false), ()) : Option (Bool × Unit)) = some ((X.R21_inside a b), ()) := by (unfold X.R21_inside; (try simp only [cond_some, cond_prod, cond_fst, cond_snd, cond_unit]); first | done | kernel_rfl)
theorem con72 : ConOK Try.prog 72 (K72 X.R21_inside) := con_of (C := clist []) (J := jlist [(1, 4)]) (G := gnil) (N := 70) (ℓ := (lmap [])) cl_nil (segsOK_nil _) rfl rfl Try.func72 rfl Try.call72 rfl fun x => (ev72 x.1 x.2.1).trans (by exact tot72 x.1 x.2.1)

noncomputable def K77 (m77 : (List Int) → Int → Option (Bool × Unit)) : Con := ⟨[(.sl (.int .i64)), (.int .i64)], [.bool], fun x => m77 x.1 x.2.1⟩
def A77_2 : LAnn := ⟨⟨[(0, (.sl (.int .i64))), (1, (.int .i64)), (5, (.int .i64))], [], [], [], []⟩, 0, ⟨[], [], [], [], []⟩, 999992, ⟨[], [], [], [], []⟩, ⟨[(4, .bool)], [], [], [], []⟩⟩
theorem bev77_2  (x : (((List Int) × Int × Int × Unit) × (Unit))) : evB Θ tyOf (clist []) Try.f77.ntmps (lmap []) (jlist []) (gnil) 70 A77_2 (loopBody (bodyOf Try.f77) 2) x =
  (bif (decide (x.1.2.2.1 < (Nat.cast (List.length x.1.1) : Int))) then bif ((decide ((0 : Int) ≤ x.1.2.2.1)) && (decide (x.1.2.2.1 < (Nat.cast (List.length x.1.1) : Int)))) then bif ((List.getD x.1.1 (Int.toNat x.1.2.2.1) (dflt (Ty.int IntKind.i64))) == x.1.2.1) then some (Out.ret ((true, ()), ()))
      else some (Out.next ((x.1.1, (x.1.2.1, ((IntKind.wrap IntKind.i64 (x.1.2.2.1 + (1 : Int))), ()))), ()))
    else none
  else some (Out.brk ((), ())) : Option (Out (((List Int) × Int × Int × Unit) × (Unit)) ((Unit) × (Unit)) ((Unit) × (Unit)) ((Bool × Unit) × (Unit)))) := by kernel_rfl
theorem seg77_2 : SegOK Try.prog Try.f77.ntmps (.loop (loopBody (bodyOf Try.f77) 2)) (segL A77_2 X.R21_has_l2) :=
  segL_ok (body := X.R21_has_b2) (C := clist []) (J := jlist []) (G := gnil) (N := 70) (base := (lmap [])) tabOK mixedOK typOK cl_nil (segsOK_nil _) (by kernel_rfl) (fun x => bev77_2 x) (fun x y h => ⟨_, h⟩)
theorem ev77 (r2 : (((List Int) × Int × Int × Unit) × (Unit)) → Option (Out (((List Int) × Int × Int × Unit) × (Unit)) ((Unit) × (Unit)) ((Unit) × (Unit)) ((Bool × Unit) × (Unit)))) (a : List Int) (b : Int) : evF Θ tyOf (clist []) Try.f77.ntmps (lmap []) (jlist []) (glist [(2, segL A77_2 r2)]) 70 (bodyOf Try.f77) Try.f77.results.toList [(.sl (.int .i64)), (.int .i64)] [.bool] (a, b, ()) =
  (match (r2 ((a, (b, ((0 : Int), Unit.unit))), Unit.unit)) with
  | some y0 => match y0 with
    | .next w1 => none
    | .brk w2 => some (false, ())
    | .brk2 w3 => none
    | .ret w4 => some (w4.1.1, ())
  | none => none : Option (Bool × Unit)) := by kernel_rfl
theorem con77 : ConOK Try.prog 77 (K77 X.R21_has) := con_of (C := clist []) (J := jlist []) (G := glist [(2, segL A77_2 X.R21_has_l2)]) (N := 70) (ℓ := (lmap [])) cl_nil (segsOK_g (code := bodyOf Try.f77) (by kernel_rfl) ⟨seg77_2, trivial⟩) rfl rfl Try.func77 rfl Try.call77 rfl fun x => (ev77 X.R21_has_l2 x.1 x.2.1).trans (by kernel_rfl)

noncomputable def K73 (m73 : M.Machine → Int → Option ((List Int) × Unit)) : Con := ⟨[(.st .sMachine), (.int .i64)], [(.sl (.int .i64))], fun x => m73 x.1 x.2.1⟩
def A73_3 : LAnn := ⟨⟨[(1, (.int .i64)), (5, (.sl (.int .i64))), (6, (.int .i64))], [(2, 2)], [(2, (.st .sMachine))], [(5, 5, 3, (.int .i64))], []⟩, 0, ⟨[(5, (.sl (.int .i64)))], [], [], [(5, 5, 3, (.int .i64))], []⟩, 999992, ⟨[], [], [], [], []⟩, ⟨[], [], [], [], []⟩⟩
theorem bev73_3 (m77 : (List Int) → Int → Option (Bool × Unit)) (x : ((Int × (List Int) × Int × Unit) × (M.Machine × Unit))) : evB Θ tyOf (clist [(77, .pure (K77 m77))]) Try.f73.ntmps (lmap [(37, 1000037), (38, 5)]) (jlist []) (gnil) 70 A73_3 (loopBody (bodyOf Try.f73) 3) x =
  (bif ((IntKind.wrap IntKind.i64 (Int.tdiv x.1.2.2.1 (64 : Int))) == (IntKind.wrap IntKind.i64 (Int.tdiv x.1.1 (64 : Int)))) then bif (decide ((IntKind.wrap IntKind.i64 (Int.tdiv x.1.2.2.1 (2 : Int))) < (Nat.cast (List.length x.2.1.Mem) : Int))) then match (m77 x.2.1.Bad x.1.2.2.1) with
      | some y0 => bif (!y0.1) then bif ((decide ((0 : Int) ≤ (IntKind.wrap IntKind.i64 (Int.tdiv x.1.2.2.1 (2 : Int))))) && (decide ((IntKind.wrap IntKind.i64 (Int.tdiv x.1.2.2.1 (2 : Int))) < (Nat.cast (List.length x.2.1.Mem) : Int)))) then bif (capOK ((List.length x.1.2.1) + (List.length (List.cons (List.getD x.2.1.Mem (Int.toNat (IntKind.wrap IntKind.i64 (Int.tdiv x.1.2.2.1 (2 : Int)))) (dflt (Ty.int IntKind.i64))) (List.nil)))) 8) then some (Out.next ((x.1.1, ((HAppend.hAppend x.1.2.1 (List.cons (List.getD x.2.1.Mem (Int.toNat (IntKind.wrap IntKind.i64 (Int.tdiv x.1.2.2.1 (2 : Int)))) (dflt (Ty.int IntKind.i64))) (List.nil))), ((IntKind.wrap IntKind.i64 (x.1.2.2.1 + (2 : Int))), ()))), (x.2.1, ())))
            else none
          else none
        else some (Out.brk ((x.1.2.1, ()), ()))
      | none => none
    else some (Out.brk ((x.1.2.1, ()), ()))
  else some (Out.brk ((x.1.2.1, ()), ())) : Option (Out ((Int × (List Int) × Int × Unit) × (M.Machine × Unit)) (((List Int) × Unit) × (Unit)) ((Unit) × (Unit)) ((Unit) × (Unit)))) := by kernel_rfl
theorem seg73_3 : SegOK Try.prog Try.f73.ntmps (.loop (loopBody (bodyOf Try.f73) 3)) (segL A73_3 X.R21_words_l3) :=
  segL_ok (body := X.R21_words_b3) (C := clist [(77, .pure (K77 X.R21_has))]) (J := jlist []) (G := gnil) (N := 70) (base := (lmap [(37, 1000037), (38, 5)])) tabOK mixedOK typOK (cl_cons con77 cl_nil) (segsOK_nil _) (by kernel_rfl) (fun x => bev73_3 X.R21_has x) (fun x y h => ⟨_, h⟩)
theorem ev73 (m77 : (List Int) → Int → Option (Bool × Unit)) (r3 : ((Int × (List Int) × Int × Unit) × (M.Machine × Unit)) → Option (Out ((Int × (List Int) × Int × Unit) × (M.Machine × Unit)) (((List Int) × Unit) × (Unit)) ((Unit) × (Unit)) ((Unit) × (Unit)))) (a : M.Machine) (b : Int) : evF Θ tyOf (clist [(77, .pure (K77 m77))]) Try.f73.ntmps (lmap [(37, 1000037), (38, 5)]) (jlist []) (glist [(3, segL A73_3 r3)]) 70 (bodyOf Try.f73) Try.f73.results.toList [(.st .sMachine), (.int .i64)] [(.sl (.int .i64))] (a, b, ()) =
  (match (r3 ((b, ((List.nil), (b, Unit.unit))), (a, Unit.unit))) with
  | some y0 => match y0 with
    | .next w1 => none
    | .brk w2 => some (w2.1.1, ())
    | .brk2 w3 => none
    | .ret w4 => none
  | none => none : Option ((List Int) × Unit)) := by kernel_rfl
theorem con73 : ConOK Try.prog 73 (K73 X.R21_words) := con_of (C := clist [(77, .pure (K77 X.R21_has))]) (J := jlist []) (G := glist [(3, segL A73_3 X.R21_words_l3)]) (N := 70) (ℓ := (lmap [(37, 1000037), (38, 5)])) (cl_cons con77 cl_nil) (segsOK_g (code := bodyOf Try.f73) (by kernel_rfl) ⟨seg73_3, trivial⟩) rfl rfl Try.func73 rfl Try.call73 rfl fun x => (ev73 X.R21_has X.R21_words_l3 x.1 x.2.1).trans (by kernel_rfl)

noncomputable def K35 (m35 : M.Machine → Int → Option (M.Block × Unit)) : Con := ⟨[(.st .sMachine), (.int .i64)], [(.st .sBlock)], fun x => m35 x.1 x.2.1⟩
def A35_6 : LAnn := ⟨⟨[(1, (.int .i64)), (5, (.sl (.int .i64))), (7, (.int .i64))], [(4, 4), (6, 6)], [(4, (.st .sBlock)), (6, (.st .sBlock))], [], [(6, 1, 50601, 74, (.st .sMicro))]⟩, 0, ⟨[], [(4, 4), (6, 6)], [(4, (.st .sBlock)), (6, (.st .sBlock))], [], [(6, 1, 50601, 74, (.st .sMicro))]⟩, 999992, ⟨[], [], [], [], []⟩, ⟨[], [], [], [], []⟩⟩
theorem bev35_6 (m18 : (List Int) → Option (M.Inst × Int × Unit)) (m27 : M.Inst → Bool) (m72 : M.Machine → Int → Bool) (m73 : M.Machine → Int → Option ((List Int) × Unit)) (x : ((Int × (List Int) × Int × Unit) × (M.Block × M.Block × Unit))) : evB Θ tyOf (clist [(18, .pure (K18 m18)), (27, .pure (K27 m27)), (72, .pure (K72 m72)), (73, .pure (K73 m73))]) Try.f35.ntmps (lmap [(46, 1000046), (49, 1000049), (50, 50601)]) (jlist []) (gnil) 70 A35_6 (loopBody (bodyOf Try.f35) 6) x =
  (bif (decide ((Nat.cast (List.length x.2.2.1.Code) : Int) < (16 : Int))) then bif ((decide ((0 : Int) ≤ x.1.2.2.1)) && ((decide (x.1.2.2.1 ≤ (Nat.cast (List.length x.1.2.1) : Int))) && (decide ((Nat.cast (List.length x.1.2.1) : Int) ≤ (Nat.cast (List.length x.1.2.1) : Int))))) then match (m18 (List.drop (Int.toNat x.1.2.2.1) (List.take (Int.toNat (Nat.cast (List.length x.1.2.1) : Int)) x.1.2.1))) with
      | some y0 => bif (y0.2.1 == (0 : Int)) then some (Out.brk ((), (x.2.1, ((⟨x.2.2.1.Start, x.2.2.1.Code⟩ : M.Block), ()))))
        else bif ((decide ((0 : Int) ≤ x.1.2.2.1)) && ((decide (x.1.2.2.1 ≤ (IntKind.wrap IntKind.i64 (x.1.2.2.1 + y0.2.1)))) && (decide ((IntKind.wrap IntKind.i64 (x.1.2.2.1 + y0.2.1)) ≤ (Nat.cast (List.length x.1.2.1) : Int))))) then bif (capOK (0 + (List.length (List.drop (Int.toNat x.1.2.2.1) (List.take (Int.toNat (IntKind.wrap IntKind.i64 (x.1.2.2.1 + y0.2.1))) x.1.2.1)))) 8) then bif (capOK ((List.length x.2.2.1.Code) + (List.length (List.cons (⟨(IntKind.wrap IntKind.i64 (x.1.1 + (IntKind.wrap IntKind.i64 ((2 : Int) * x.1.2.2.1)))), (HAppend.hAppend (List.nil) (List.drop (Int.toNat x.1.2.2.1) (List.take (Int.toNat (IntKind.wrap IntKind.i64 (x.1.2.2.1 + y0.2.1))) x.1.2.1))), y0.1⟩ : M.Micro) (List.nil)))) 112) then bif (m27 y0.1) then some (Out.brk ((), (x.2.1, ((⟨x.2.2.1.Start, (HAppend.hAppend x.2.2.1.Code (List.cons (⟨(IntKind.wrap IntKind.i64 (x.1.1 + (IntKind.wrap IntKind.i64 ((2 : Int) * x.1.2.2.1)))), (HAppend.hAppend (List.nil) (List.drop (Int.toNat x.1.2.2.1) (List.take (Int.toNat (IntKind.wrap IntKind.i64 (x.1.2.2.1 + y0.2.1))) x.1.2.1))), y0.1⟩ : M.Micro) (List.nil)))⟩ : M.Block), ()))))
              else some (Out.next ((x.1.1, (x.1.2.1, ((IntKind.wrap IntKind.i64 (x.1.2.2.1 + y0.2.1)), ()))), (x.2.1, ((⟨x.2.2.1.Start, (HAppend.hAppend x.2.2.1.Code (List.cons (⟨(IntKind.wrap IntKind.i64 (x.1.1 + (IntKind.wrap IntKind.i64 ((2 : Int) * x.1.2.2.1)))), (HAppend.hAppend (List.nil) (List.drop (Int.toNat x.1.2.2.1) (List.take (Int.toNat (IntKind.wrap IntKind.i64 (x.1.2.2.1 + y0.2.1))) x.1.2.1))), y0.1⟩ : M.Micro) (List.nil)))⟩ : M.Block), ()))))
            else none
          else none
        else none
      | none => none
    else none
  else some (Out.brk ((), (x.2.1, ((⟨x.2.2.1.Start, x.2.2.1.Code⟩ : M.Block), ())))) : Option (Out ((Int × (List Int) × Int × Unit) × (M.Block × M.Block × Unit)) ((Unit) × (M.Block × M.Block × Unit)) ((Unit) × (Unit)) ((Unit) × (Unit)))) := by kernel_rfl
theorem seg35_6 : SegOK Try.prog Try.f35.ntmps (.loop (loopBody (bodyOf Try.f35) 6)) (segL A35_6 X.R21_Block_l6) :=
  segL_ok (body := X.R21_Block_b6) (C := clist [(18, .pure (K18 X.R06_Decode)), (27, .pure (K27 X.R06_Ends)), (72, .pure (K72 X.R21_inside)), (73, .pure (K73 X.R21_words))]) (J := jlist []) (G := gnil) (N := 70) (base := (lmap [(46, 1000046), (49, 1000049), (50, 50601)])) tabOK mixedOK typOK (cl_cons con18 (cl_cons con27 (cl_cons con72 (cl_cons con73 cl_nil)))) (segsOK_nil _) (by kernel_rfl) (fun x => bev35_6 X.R06_Decode X.R06_Ends X.R21_inside X.R21_words x) (fun x y h => ⟨_, h⟩)
theorem ev35 (m18 : (List Int) → Option (M.Inst × Int × Unit)) (m27 : M.Inst → Bool) (m72 : M.Machine → Int → Bool) (m73 : M.Machine → Int → Option ((List Int) × Unit)) (r6 : ((Int × (List Int) × Int × Unit) × (M.Block × M.Block × Unit)) → Option (Out ((Int × (List Int) × Int × Unit) × (M.Block × M.Block × Unit)) ((Unit) × (M.Block × M.Block × Unit)) ((Unit) × (Unit)) ((Unit) × (Unit)))) (a : M.Machine) (b : Int) : evF Θ tyOf (clist [(18, .pure (K18 m18)), (27, .pure (K27 m27)), (72, .pure (K72 m72)), (73, .pure (K73 m73))]) Try.f35.ntmps (lmap [(46, 1000046), (49, 1000049), (50, 50601)]) (jlist []) (glist [(6, segL A35_6 r6)]) 70 (bodyOf Try.f35) Try.f35.results.toList [(.st .sMachine), (.int .i64)] [(.st .sBlock)] (a, b, ()) =
  (bif (!(m72 a b)) then some ((⟨(0 : Int), (List.nil)⟩ : M.Block), ())
  else match (m73 a b) with
  | some y0 => match (r6 ((b, (y0.1, ((0 : Int), Unit.unit))), ((⟨(0 : Int), (List.nil)⟩ : M.Block), ((⟨b, (List.nil)⟩ : M.Block), Unit.unit)))) with
    | some y1 => match y1 with
      | .next w2 => none
      | .brk w3 => bif ((Nat.cast (List.length w3.2.2.1.Code) : Int) == (0 : Int)) then some ((⟨(0 : Int), (List.nil)⟩ : M.Block), ())
        else some ((⟨w3.2.2.1.Start, w3.2.2.1.Code⟩ : M.Block), ())
      | .brk2 w4 => none
      | .ret w5 => none
    | none => none
  | none => none : Option (M.Block × Unit)) := by kernel_rfl
theorem con35 : ConOK Try.prog 35 (K35 X.R21_Block) := con_of (C := clist [(18, .pure (K18 X.R06_Decode)), (27, .pure (K27 X.R06_Ends)), (72, .pure (K72 X.R21_inside)), (73, .pure (K73 X.R21_words))]) (J := jlist []) (G := glist [(6, segL A35_6 X.R21_Block_l6)]) (N := 70) (ℓ := (lmap [(46, 1000046), (49, 1000049), (50, 50601)])) (cl_cons con18 (cl_cons con27 (cl_cons con72 (cl_cons con73 cl_nil)))) (segsOK_g (code := bodyOf Try.f35) (by kernel_rfl) ⟨seg35_6, trivial⟩) rfl rfl Try.func35 rfl Try.call35 rfl fun x => (ev35 X.R06_Decode X.R06_Ends X.R21_inside X.R21_words X.R21_Block_l6 x.1 x.2.1).trans (by kernel_rfl)

noncomputable def K8 (m8 : M.Emulatorlaw21_Memory → Int → Option (Bool × Unit)) : Con := ⟨[(.st .sEmulatorlaw21_Memory), (.int .i64)], [.bool], fun x => m8 x.1 x.2.1⟩
theorem ev8 (m30 : M.Emulatorlaw21_Memory → Option (Bool × Unit)) (m31 : Option (Bool × Unit)) (m32 : M.Block → M.Block → Option (Bool × Unit)) (m33 : M.Machine → Int → Option (M.Block × Unit)) (m34 : M.Emulatorlaw21_Memory → M.Machine) (m35 : M.Machine → Int → Option (M.Block × Unit)) (a : M.Emulatorlaw21_Memory) (b : Int) : evF Θ tyOf (clist [(30, .pure (K30 m30)), (31, .pure (K31 m31)), (32, .pure (K32 m32)), (33, .pure (K33 m33)), (34, .pure (K34 m34)), (35, .pure (K35 m35))]) Try.f8.ntmps (lmap []) (jlist []) (gnil) 70 (bodyOf Try.f8) Try.f8.results.toList [(.st .sEmulatorlaw21_Memory), (.int .i64)] [.bool] (a, b, ()) =
  (match (m30 a) with
  | some y0 => bif (!y0.1) then match m31 with
      | some y1 => some (y1.1, ())
      | none => none
    else match (m33 (m34 a) b) with
    | some y2 => match (m35 (m34 a) b) with
      | some y3 => match (m32 y2.1 y3.1) with
        | some y4 => bif y4.1 then match m31 with
            | some y5 => some (y5.1, ())
            | none => none
          else some (false, ())
        | none => none
      | none => none
    | none => none
  | none => none : Option (Bool × Unit)) := by kernel_rfl
theorem con8 : ConOK Try.prog 8 (K8 X.L21_TranslateBlocks) := con_of (C := clist [(30, .pure (K30 X.L21_Memory_good)), (31, .pure (K31 X.L21_alive)), (32, .pure (K32 X.R21_SameBlock)), (33, .pure (K33 X.translate_Block)), (34, .pure (K34 X.L21_Memory_machine)), (35, .pure (K35 X.R21_Block))]) (J := jlist []) (G := gnil) (N := 70) (ℓ := (lmap [])) (cl_cons con30 (cl_cons con31 (cl_cons con32 (cl_cons con33 (cl_cons con34 (cl_cons con35 cl_nil)))))) (segsOK_nil _) rfl rfl Try.func8 rfl Try.call8 rfl fun x => (ev8 X.L21_Memory_good X.L21_alive X.R21_SameBlock X.translate_Block X.L21_Memory_machine X.R21_Block x.1 x.2.1).trans (by kernel_rfl)

noncomputable def K9 (m9 : M.Emulatorlaw21_Memory → Int → Option (Bool × Unit)) : Con := ⟨[(.st .sEmulatorlaw21_Memory), (.int .u16)], [.bool], fun x => m9 x.1 x.2.1⟩
def A9_8 : LAnn := ⟨⟨[(5, (.int .i64)), (7, (.int .i64)), (8, (.int .i64))], [(2, 2), (6, 6)], [(2, (.st .sEmulatorlaw21_Memory)), (6, (.st .sBlock))], [], []⟩, 0, ⟨[(5, (.int .i64)), (7, (.int .i64))], [(2, 2), (6, 6)], [(2, (.st .sEmulatorlaw21_Memory)), (6, (.st .sBlock))], [], []⟩, 999992, ⟨[], [], [], [], []⟩, ⟨[(4, .bool)], [], [], [], []⟩⟩
theorem bev9_8 (m18 : (List Int) → Option (M.Inst × Int × Unit)) (m26 : M.Inst → Option (Bool × Unit)) (m30 : M.Emulatorlaw21_Memory → Option (Bool × Unit)) (m31 : Option (Bool × Unit)) (m33 : M.Machine → Int → Option (M.Block × Unit)) (m34 : M.Emulatorlaw21_Memory → M.Machine) (x : ((Int × Int × Int × Unit) × (M.Emulatorlaw21_Memory × M.Block × Unit))) : evB Θ tyOf (clist [(18, .pure (K18 m18)), (26, .pure (K26 m26)), (30, .pure (K30 m30)), (31, .pure (K31 m31)), (33, .pure (K33 m33)), (34, .pure (K34 m34))]) Try.f9.ntmps (lmap []) (jlist []) (gnil) 70 A9_8 (loopBody (bodyOf Try.f9) 8) x =
  (bif (decide (x.1.2.2.1 < (Nat.cast (List.length x.2.2.1.Code) : Int))) then bif ((decide ((0 : Int) ≤ x.1.2.2.1)) && (decide (x.1.2.2.1 < (Nat.cast (List.length x.2.2.1.Code) : Int)))) then bif ((List.getD x.2.2.1.Code (Int.toNat x.1.2.2.1) (dflt (Ty.st SId.sMicro))).At != x.1.2.1) then some (Out.ret ((false, ()), ()))
      else bif ((decide ((0 : Int) ≤ x.1.2.2.1)) && (decide (x.1.2.2.1 < (Nat.cast (List.length x.2.2.1.Code) : Int)))) then bif (decide ((Nat.cast (List.length (List.getD x.2.2.1.Code (Int.toNat x.1.2.2.1) (dflt (Ty.st SId.sMicro))).Words) : Int) < (1 : Int))) then some (Out.ret ((false, ()), ()))
        else bif ((decide ((0 : Int) ≤ x.1.2.2.1)) && (decide (x.1.2.2.1 < (Nat.cast (List.length x.2.2.1.Code) : Int)))) then bif (decide (x.1.2.2.1 < (IntKind.wrap IntKind.i64 ((Nat.cast (List.length x.2.2.1.Code) : Int) - (1 : Int))))) then bif ((decide ((0 : Int) ≤ x.1.2.2.1)) && (decide (x.1.2.2.1 < (Nat.cast (List.length x.2.2.1.Code) : Int)))) then match (m26 (List.getD x.2.2.1.Code (Int.toNat x.1.2.2.1) (dflt (Ty.st SId.sMicro))).Inst) with
              | some y0 => bif y0.1 then some (Out.ret ((false, ()), ()))
                else some (Out.next ((x.1.1, ((IntKind.wrap IntKind.i64 (x.1.2.1 + (IntKind.wrap IntKind.i64 ((2 : Int) * (Nat.cast (List.length (List.getD x.2.2.1.Code (Int.toNat x.1.2.2.1) (dflt (Ty.st SId.sMicro))).Words) : Int))))), ((IntKind.wrap IntKind.i64 (x.1.2.2.1 + (1 : Int))), ()))), (x.2.1, (x.2.2.1, ()))))
              | none => none
            else none
          else some (Out.next ((x.1.1, ((IntKind.wrap IntKind.i64 (x.1.2.1 + (IntKind.wrap IntKind.i64 ((2 : Int) * (Nat.cast (List.length (List.getD x.2.2.1.Code (Int.toNat x.1.2.2.1) (dflt (Ty.st SId.sMicro))).Words) : Int))))), ((IntKind.wrap IntKind.i64 (x.1.2.2.1 + (1 : Int))), ()))), (x.2.1, (x.2.2.1, ()))))
        else none
      else none
    else none
  else some (Out.brk ((x.1.1, (x.1.2.1, ())), (x.2.1, (x.2.2.1, ())))) : Option (Out ((Int × Int × Int × Unit) × (M.Emulatorlaw21_Memory × M.Block × Unit)) ((Int × Int × Unit) × (M.Emulatorlaw21_Memory × M.Block × Unit)) ((Unit) × (Unit)) ((Bool × Unit) × (Unit)))) := by kernel_rfl
theorem seg9_8 : SegOK Try.prog Try.f9.ntmps (.loop (loopBody (bodyOf Try.f9) 8)) (segL A9_8 X.L21_TranslateStops_l8) :=
  segL_ok (body := X.L21_TranslateStops_b8) (C := clist [(18, .pure (K18 X.R06_Decode)), (26, .pure (K26 X.inst_Ends)), (30, .pure (K30 X.L21_Memory_good)), (31, .pure (K31 X.L21_alive)), (33, .pure (K33 X.translate_Block)), (34, .pure (K34 X.L21_Memory_machine))]) (J := jlist []) (G := gnil) (N := 70) (base := (lmap [])) tabOK mixedOK typOK (cl_cons con18 (cl_cons con26 (cl_cons con30 (cl_cons con31 (cl_cons con33 (cl_cons con34 cl_nil)))))) (segsOK_nil _) (by kernel_rfl) (fun x => bev9_8 X.R06_Decode X.inst_Ends X.L21_Memory_good X.L21_alive X.translate_Block X.L21_Memory_machine x) (fun x y h => ⟨_, h⟩)
theorem ev9 (m18 : (List Int) → Option (M.Inst × Int × Unit)) (m26 : M.Inst → Option (Bool × Unit)) (m30 : M.Emulatorlaw21_Memory → Option (Bool × Unit)) (m31 : Option (Bool × Unit)) (m33 : M.Machine → Int → Option (M.Block × Unit)) (m34 : M.Emulatorlaw21_Memory → M.Machine) (r8 : ((Int × Int × Int × Unit) × (M.Emulatorlaw21_Memory × M.Block × Unit)) → Option (Out ((Int × Int × Int × Unit) × (M.Emulatorlaw21_Memory × M.Block × Unit)) ((Int × Int × Unit) × (M.Emulatorlaw21_Memory × M.Block × Unit)) ((Unit) × (Unit)) ((Bool × Unit) × (Unit)))) (a : M.Emulatorlaw21_Memory) (b : Int) : evF Θ tyOf (clist [(18, .pure (K18 m18)), (26, .pure (K26 m26)), (30, .pure (K30 m30)), (31, .pure (K31 m31)), (33, .pure (K33 m33)), (34, .pure (K34 m34))]) Try.f9.ntmps (lmap []) (jlist []) (glist [(8, segL A9_8 r8)]) 70 (bodyOf Try.f9) Try.f9.results.toList [(.st .sEmulatorlaw21_Memory), (.int .u16)] [.bool] (a, b, ()) =
  (match (m30 (⟨a.Mem, (List.nil)⟩ : M.Emulatorlaw21_Memory)) with
  | some y0 => bif (!y0.1) then match m31 with
      | some y1 => some (y1.1, ())
      | none => none
    else bif (!(decide ((IntKind.wrap IntKind.i64 ((2 : Int) * (Nat.cast (List.length a.Mem) : Int))) = (0 : Int)))) then match (m33 (m34 (⟨a.Mem, (List.nil)⟩ : M.Emulatorlaw21_Memory)) (IntKind.wrap IntKind.i64 ((IntKind.wrap IntKind.i64 (Int.tdiv (Int.tmod (IntKind.wrap IntKind.i64 b) (IntKind.wrap IntKind.i64 ((2 : Int) * (Nat.cast (List.length a.Mem) : Int)))) (2 : Int))) * (2 : Int)))) with
      | some y2 => match (r8 (((IntKind.wrap IntKind.i64 ((IntKind.wrap IntKind.i64 (Int.tdiv (Int.tmod (IntKind.wrap IntKind.i64 b) (IntKind.wrap IntKind.i64 ((2 : Int) * (Nat.cast (List.length a.Mem) : Int)))) (2 : Int))) * (2 : Int))), ((IntKind.wrap IntKind.i64 ((IntKind.wrap IntKind.i64 (Int.tdiv (Int.tmod (IntKind.wrap IntKind.i64 b) (IntKind.wrap IntKind.i64 ((2 : Int) * (Nat.cast (List.length a.Mem) : Int)))) (2 : Int))) * (2 : Int))), ((0 : Int), Unit.unit))), ((⟨a.Mem, (List.nil)⟩ : M.Emulatorlaw21_Memory), (y2.1, Unit.unit)))) with
        | some y3 => match y3 with
          | .next w4 => none
          | .brk w5 => bif (decide (w5.1.2.1 > (IntKind.wrap IntKind.i64 ((IntKind.wrap IntKind.i64 ((IntKind.wrap IntKind.i64 (Int.tdiv w5.1.1 (64 : Int))) * (64 : Int))) + (64 : Int))))) then some (false, ())
            else bif (w5.1.2.1 == (IntKind.wrap IntKind.i64 ((IntKind.wrap IntKind.i64 ((IntKind.wrap IntKind.i64 (Int.tdiv w5.1.1 (64 : Int))) * (64 : Int))) + (64 : Int)))) then match m31 with
              | some y6 => some (y6.1, ())
              | none => none
            else bif ((Nat.cast (List.length w5.2.2.1.Code) : Int) == (16 : Int)) then match m31 with
              | some y7 => some (y7.1, ())
              | none => none
            else bif (decide ((Nat.cast (List.length w5.2.2.1.Code) : Int) > (0 : Int))) then bif ((decide ((0 : Int) ≤ (IntKind.wrap IntKind.i64 ((Nat.cast (List.length w5.2.2.1.Code) : Int) - (1 : Int))))) && (decide ((IntKind.wrap IntKind.i64 ((Nat.cast (List.length w5.2.2.1.Code) : Int) - (1 : Int))) < (Nat.cast (List.length w5.2.2.1.Code) : Int)))) then match (m26 (List.getD w5.2.2.1.Code (Int.toNat (IntKind.wrap IntKind.i64 ((Nat.cast (List.length w5.2.2.1.Code) : Int) - (1 : Int)))) (dflt (Ty.st SId.sMicro))).Inst) with
                | some y8 => bif y8.1 then match m31 with
                    | some y9 => some (y9.1, ())
                    | none => none
                  else bif ((decide ((0 : Int) ≤ (IntKind.wrap IntKind.i64 (Int.tdiv w5.1.2.1 (2 : Int))))) && ((decide ((IntKind.wrap IntKind.i64 (Int.tdiv w5.1.2.1 (2 : Int))) ≤ (IntKind.wrap IntKind.i64 (Int.tdiv (IntKind.wrap IntKind.i64 ((IntKind.wrap IntKind.i64 ((IntKind.wrap IntKind.i64 (Int.tdiv w5.1.1 (64 : Int))) * (64 : Int))) + (64 : Int))) (2 : Int))))) && (decide ((IntKind.wrap IntKind.i64 (Int.tdiv (IntKind.wrap IntKind.i64 ((IntKind.wrap IntKind.i64 ((IntKind.wrap IntKind.i64 (Int.tdiv w5.1.1 (64 : Int))) * (64 : Int))) + (64 : Int))) (2 : Int))) ≤ (Nat.cast (List.length w5.2.1.Mem) : Int))))) then match (m18 (List.drop (Int.toNat (IntKind.wrap IntKind.i64 (Int.tdiv w5.1.2.1 (2 : Int)))) (List.take (Int.toNat (IntKind.wrap IntKind.i64 (Int.tdiv (IntKind.wrap IntKind.i64 ((IntKind.wrap IntKind.i64 ((IntKind.wrap IntKind.i64 (Int.tdiv w5.1.1 (64 : Int))) * (64 : Int))) + (64 : Int))) (2 : Int)))) w5.2.1.Mem))) with
                    | some y10 => bif (y10.2.1 == (0 : Int)) then match m31 with
                        | some y11 => some (y11.1, ())
                        | none => none
                      else some (false, ())
                    | none => none
                  else none
                | none => none
              else none
            else bif ((decide ((0 : Int) ≤ (IntKind.wrap IntKind.i64 (Int.tdiv w5.1.2.1 (2 : Int))))) && ((decide ((IntKind.wrap IntKind.i64 (Int.tdiv w5.1.2.1 (2 : Int))) ≤ (IntKind.wrap IntKind.i64 (Int.tdiv (IntKind.wrap IntKind.i64 ((IntKind.wrap IntKind.i64 ((IntKind.wrap IntKind.i64 (Int.tdiv w5.1.1 (64 : Int))) * (64 : Int))) + (64 : Int))) (2 : Int))))) && (decide ((IntKind.wrap IntKind.i64 (Int.tdiv (IntKind.wrap IntKind.i64 ((IntKind.wrap IntKind.i64 ((IntKind.wrap IntKind.i64 (Int.tdiv w5.1.1 (64 : Int))) * (64 : Int))) + (64 : Int))) (2 : Int))) ≤ (Nat.cast (List.length w5.2.1.Mem) : Int))))) then match (m18 (List.drop (Int.toNat (IntKind.wrap IntKind.i64 (Int.tdiv w5.1.2.1 (2 : Int)))) (List.take (Int.toNat (IntKind.wrap IntKind.i64 (Int.tdiv (IntKind.wrap IntKind.i64 ((IntKind.wrap IntKind.i64 ((IntKind.wrap IntKind.i64 (Int.tdiv w5.1.1 (64 : Int))) * (64 : Int))) + (64 : Int))) (2 : Int)))) w5.2.1.Mem))) with
              | some y12 => bif (y12.2.1 == (0 : Int)) then match m31 with
                  | some y13 => some (y13.1, ())
                  | none => none
                else some (false, ())
              | none => none
            else none
          | .brk2 w14 => none
          | .ret w15 => some (w15.1.1, ())
        | none => none
      | none => none
    else none
  | none => none : Option (Bool × Unit)) := by kernel_rfl
theorem con9 : ConOK Try.prog 9 (K9 X.L21_TranslateStops) := con_of (C := clist [(18, .pure (K18 X.R06_Decode)), (26, .pure (K26 X.inst_Ends)), (30, .pure (K30 X.L21_Memory_good)), (31, .pure (K31 X.L21_alive)), (33, .pure (K33 X.translate_Block)), (34, .pure (K34 X.L21_Memory_machine))]) (J := jlist []) (G := glist [(8, segL A9_8 X.L21_TranslateStops_l8)]) (N := 70) (ℓ := (lmap [])) (cl_cons con18 (cl_cons con26 (cl_cons con30 (cl_cons con31 (cl_cons con33 (cl_cons con34 cl_nil)))))) (segsOK_g (code := bodyOf Try.f9) (by kernel_rfl) ⟨seg9_8, trivial⟩) rfl rfl Try.func9 rfl Try.call9 rfl fun x => (ev9 X.R06_Decode X.inst_Ends X.L21_Memory_good X.L21_alive X.translate_Block X.L21_Memory_machine X.L21_TranslateStops_l8 x.1 x.2.1).trans (by kernel_rfl)

end Go.Proofs.Ytnonimnhninafaa.Ab
