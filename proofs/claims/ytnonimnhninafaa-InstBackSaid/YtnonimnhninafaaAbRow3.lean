/- The row's own small facts. -/
import Derived.Test.YtnonimnhninafaaAbRow2
import Derived.Test.YtnonimnhninafaaAbTyp
namespace Go.Proofs.Ytnonimnhninafaa.Ab
open Go
theorem shutBool {P : Program} {H : Type} {enc : TypeId × Value → H} {W : World} {base : Nat} {sp : Nat → Bool} {held : Bool} {t : TypeId} (ht : P.underlying t = some .bool) (b : Bool) : DataW.Trod enc P W base sp held t (.bool b) (.lit (.bool b)) [] :=
  ⟨1, by simp [DataW.trod, Value.cells, ht]⟩
theorem tyPos : ∀ t c, tyOf t = some c → 0 < tsz c := by
  intro t c h
  unfold tyOf at h
  split at h <;> first | (cases h; decide) | cases h
end Go.Proofs.Ytnonimnhninafaa.Ab
