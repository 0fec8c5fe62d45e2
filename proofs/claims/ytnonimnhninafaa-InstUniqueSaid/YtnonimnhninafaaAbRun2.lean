/- More ways to use a contract. -/
import Derived.Test.YtnonimnhninafaaAbRun
namespace Go.Proofs.Ytnonimnhninafaa.Ab
open Go

section
variable {P : Program} {Θ : Tab} {nt base : Nat} {k : Stk} {T : Nat → Tr} {H : Heap} {ops : List (Option Tmp)} {l : List Oper} {dst : Option Tmp} {D : Drw}

theorem frz_none_args (H0 : Heap) {args : List Tr} (hlf : lfL args = true) : args = args.map (frz H0 fun _ => false) := by
  conv => lhs; rw [← List.map_id args]
  exact List.map_congr_left fun x hx => (frz_lf H0 _ x ((lfL_iff _).1 hlf x hx)).symm

/-- A contract that tells what the result shows: it is held as what never changes. -/
theorem callX_frz {f : FuncId} {args : List Tr} {v : Tr} (h : ACall P f args fun r H' => frz H' (fun _ => true) r = v) (hlf : lfL args = true) (hv : v.lf = true) (hn : GoR P Θ nt base ops (nxtD D [] none) l k (putT T dst v) H) :
    callX P D f args H (GoA P Θ nt base ops dst l k T) := by
  refine callX_val [] (fun H' _ => ?_) hn
  refine (CallSem.pure (fun _ => false) (R' := fun r => r = v) h (frz_none_args H' hlf) hlf fun r H1 hr => ?_).mono fun r H1 hr => ⟨hr.1, by rw [hr.2, kill_none]⟩
  rw [hr]
  exact ⟨hv, rfl⟩

/-- A contract whose arguments show own rows, which stay as they are; the result leads to no memory. -/
theorem callX_borrow {f : FuncId} {args args' : List Tr} {v : Tr} (h : ACall P f args' fun r _ => r = v) (hargs : args' = args.map (frz H fun _ => true)) (hlf : lfL args' = true) (hv : v.nosl = true)
    (hn : GoR P Θ nt base ops none l k (putT T dst v) H) : callX P none f args H (GoA P Θ nt base ops dst l k T) := by
  refine callX_use (CallSem.borrow (fun _ => true) (R' := fun r => r = v) h hargs hlf fun r H1 hr => ?_) ?_
  · subst hr; exact ⟨hv, rfl⟩
  · rintro r H' ⟨rfl, rfl⟩
    exact hn
end
end Go.Proofs.Ytnonimnhninafaa.Ab
