/- The plain law of InstDecodes. -/
import Derived.Test.YtnonimnhninafaaAbP6
import Derived.Test.YtnonimnhninafaaAbRow1
namespace Go.Proofs.Ytnonimnhninafaa.Ab
open Go
namespace PL
theorem alive : X.L06_alive = some (true, ()) := by kernel_rfl
theorem vEqB_refl (c : Ty) (x : den c) : vEqB c x x = true := by
  unfold vEqB
  exact @decide_eq_true _ (decDen c x x) rfl
theorem decodes (a : List Int) : X.L06_InstDecodes a = some (true, ()) := by
  unfold X.L06_InstDecodes
  rw [alive]
  obtain ⟨r, h1, h2⟩ := decode_eq a
  rw [h1, h2]
  cases decide ((Nat.cast (List.length a) : Int) > (8 : Int)) with
  | true => rfl
  | false =>
    show (bif vEqB (Ty.st SId.sInst) r.1 r.1 then bif (r.2.1 == r.2.1) then some (true, ()) else some (false, ()) else some (false, ())) = _
    have e : vEqB (Ty.st SId.sInst) r.1 r.1 = true := vEqB_refl _ _
    rw [e, beq_self_eq_true]
    rfl
end PL
end Go.Proofs.Ytnonimnhninafaa.Ab
