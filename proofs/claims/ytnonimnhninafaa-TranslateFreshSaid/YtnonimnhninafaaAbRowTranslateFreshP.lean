/- The row of TranslateFresh: out of its contract and its plain law. -/
import Derived.Test.YtnonimnhninafaaAbPkAbRowTranslateFreshP2
import Derived.Test.YtnonimnhninafaaAbJkC
import Derived.Test.YtnonimnhninafaaAbPkB1
import Derived.Test.YtnonimnhninafaaRows
import Derived.ChangeShapes
import Derived.SizedLaws
import Derived.WalkKit
import Derived.ProofKit
namespace Go.Proofs.Ytnonimnhninafaa.translateFreshRow
open Go Go.ChangeShapes Go.WideShapes Go.RowKit Go.Proofs.Ytnonimnhninafaa.Ab
theorem own : ownKnob Try.prog.godebug = none := by kernel_rfl
theorem laidOut : laidOutB Try.prog = true := by kernel_rfl
theorem plain (x : HL [.st .sEmulatorlaw21_Memory, .st .sMicro]) (hx : OKH [.st .sEmulatorlaw21_Memory, .st .sMicro] x) : (K10 X.L21_TranslateFresh).m x = some (true, ()) := PL.fresh x.1 x.2.1 (okMicro (okh2st hx))
set_option maxHeartbeats 4000000 in
set_option maxRecDepth 100000 in
theorem lifted (os : Os) (started : os.Started) (H : Type) (enc : TypeId × Value → H) :
    ReturnsInHanded {} Try.checked os 10 .any (Rows.translateFreshSpec.pre6 enc Try.prog Try.f10 Rows.translateFreshRow.domain false) (Rows.translateFreshSpec.post enc Try.prog Try.f10 false true false false) := by
  refine returnsInHanded_of_change_sized (C := Try.checked) own started (by kernel_rfl) Try.func10
    (ChangeSpec.witness6 (enc := enc) (C := Try.checked) false ⟨#[], #[((Try.prog.info? 43).bind (·.zero)).getD undef, ((Try.prog.info? 74).bind (·.zero)).getD undef], []⟩ 8 (by kernel_rfl) (by kernel_rfl) (by kernel_rfl) (by kernel_rfl)) ?_
  intro W base args ds gs before hval hW hcnd hsz _
  have hW' := hW
  obtain ⟨p, q, hA, hV, rfl, hfz, hnd⟩ := hW
  have hp : Try.f10.params.toList = [43, 74] := rfl
  rw [hp] at hA
  obtain ⟨rfl, rfl⟩ := trodVars_none hV
  have hv : ∀ (j : Nat) t v, ([43, 74] : List TypeId)[j]? = some t → args.toList[j]? = some v → Value.okWide Try.prog W .any base t v := fun j t v ht hv =>
    hval j t v (by rw [← Array.getElem?_toList, hp]; exact ht) (by rw [← Array.getElem?_toList]; exact hv)
  refine (law_run tabOK typOK tyPos (ps := [.st .sEmulatorlaw21_Memory, .st .sMicro]) (m := (K10 X.L21_TranslateFresh).m) con10 plain (ts := [43, 74]) rfl hv hA).mono fun e W' ⟨he, bel⟩ => ?_
  subst he
  have back := args_back laidOut bel _ _ _ _ (by kernel_rfl) hA
  obtain ⟨v0, vs0, d0, ds0, p0, q0, hargs, rfl, rfl, h0, r0⟩ := trodAll_cons hA
  obtain ⟨v1, vs1, d1, ds1, p1, q1, rfl, rfl, rfl, h1, r1⟩ := trodAll_cons r0
  obtain ⟨rfl, rfl, rfl⟩ := trodAll_nil r1
  exact ⟨_, rfl, _, _, _, [], _, [], hW', trodAll_mk1 (shutBool Try.underlying4 _), back, rfl, bel.frame _, fun h => by cases h⟩
theorem over : Rows.translateFreshRow.holds Try.pinned (OpenSpec.ofChange Rows.translateFreshSpec) :=
  OpenClaim.holds_of_wide 10 Try.f10 rfl rfl rfl rfl rfl rfl rfl ⟨rfl, rfl, rfl, rfl, rfl⟩ rfl rfl rfl rfl rfl (by kernel_rfl) Try.func10 (by kernel_rfl)
    (of_decide_eq_true (by kernel_rfl)) (by unfold Func.isWrapper; first | (rw [if_pos (by decide +kernel)]; kernel_rfl) | (rw [if_neg (by decide +kernel)]; exact ⟨rfl, rfl⟩))
    (fun os started H enc _ => lifted os started H enc)
theorem proved : Rows.TranslateFreshSaid := over
end Go.Proofs.Ytnonimnhninafaa.translateFreshRow
namespace Go.Proofs.Ytnonimnhninafaa
theorem translateFresh_holds : Rows.TranslateFreshSaid := translateFreshRow.proved
#print axioms translateFresh_holds
end Go.Proofs.Ytnonimnhninafaa
