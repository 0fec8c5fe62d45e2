/-
  No cell of these rows narrows 'for every input' (looked for: loops, veiled, ifaces, maps, wideKeys, modest, calm, conditions, laid).
  DERIVED. THE GIVEN ROWS OF THIS SEAT. 13 by the template 'for every input the law returns true; each argument reads behind the call as it read before'; 0 by the template 'total and deterministic' (their statements: YtnonimnhninafaaTotals.lean).
  GIVEN WITH THE SEED: the statements are not yours to turn. If you find one false, say at which input.
  Laid BY PROGRAM, IN A SANDBOX (cutbox-rows.mjs): the forced cells as the released guide's own fill.sh prints them over the translation f03dbb8bc7eeef30… (all of the seat's roots in one cut). By AI agents, Wed Nov 11 2026. No macro, syntax, notation, axiom, sorry.
-/
import Derived.Test.YtnonimnhninafaaChecked
import GoSem.Claim
import GoSem.ClaimJoined
import GoSem.ClaimMapViews
import Derived.JoinedTies
import Derived.KernelRfl
namespace Go.Proofs.Ytnonimnhninafaa
/- THE CELL 'sum', in the pinned program and in every row, IS THE sha256 OF THE DUMP (.gsa) THAT YtnonimnhninafaaProg.lean LOADS. Nothing in Lean hashes anything: it is a label: what it is worth is what the hold of that sum in a sandbox is worth. -/
noncomputable def Try.pinned : Pinned := { name := "ytnonimnhninafaa", sum := "f03dbb8bc7eeef30ca4e616182204048c28916fb44b4c74ac2d9dcd75d268e49", checked := Try.checked }
namespace Rows
def none {H : Type} : Left H := { results := [], args := [] }

/-- 'emulatorlaw06.InstDecodes': WHATEVER THE INPUT: true; the input reads as it did. -/
def instDecodesSpec : ChangeSpec := { name := "instDecodes", fn := fun _ => fun
  | [d] => { results := [.lit (.bool true)], args := [d] }
  | _ => none }
def instDecodesRow : OpenClaim := { program := "ytnonimnhninafaa", sum := "f03dbb8bc7eeef30ca4e616182204048c28916fb44b4c74ac2d9dcd75d268e49", func := "emulator/emulatorlaw06.InstDecodes", spec := "instDecodes", apart := false }
def InstDecodesSaid : Prop := instDecodesRow.holds Try.pinned (OpenSpec.ofChange instDecodesSpec)

/-- ITS FALSE NEIGHBOUR: 'it returns false'. Refute it at one input. -/
def instDecodesWrong : ChangeSpec := { name := "instDecodes", fn := fun _ => fun
  | [d] => { results := [.lit (.bool false)], args := [d] }
  | _ => none }
def InstDecodesWrongFalsely : Prop := instDecodesRow.holds Try.pinned (OpenSpec.ofChange instDecodesWrong)

/-- 'emulatorlaw06.InstEncodes': WHATEVER THE INPUT: true; the input reads as it did. -/
def instEncodesSpec : ChangeSpec := { name := "instEncodes", fn := fun _ => fun
  | [d] => { results := [.lit (.bool true)], args := [d] }
  | _ => none }
def instEncodesRow : OpenClaim := { program := "ytnonimnhninafaa", sum := "f03dbb8bc7eeef30ca4e616182204048c28916fb44b4c74ac2d9dcd75d268e49", func := "emulator/emulatorlaw06.InstEncodes", spec := "instEncodes", apart := false }
def InstEncodesSaid : Prop := instEncodesRow.holds Try.pinned (OpenSpec.ofChange instEncodesSpec)

/-- ITS FALSE NEIGHBOUR: 'it returns false'. Refute it at one input. -/
def instEncodesWrong : ChangeSpec := { name := "instEncodes", fn := fun _ => fun
  | [d] => { results := [.lit (.bool false)], args := [d] }
  | _ => none }
def InstEncodesWrongFalsely : Prop := instEncodesRow.holds Try.pinned (OpenSpec.ofChange instEncodesWrong)

/-- 'emulatorlaw06.InstWords': WHATEVER THE INPUT: true; the input reads as it did. -/
def instWordsSpec : ChangeSpec := { name := "instWords", fn := fun _ => fun
  | [d1, d2, d3] => { results := [.lit (.bool true)], args := [d1, d2, d3] }
  | _ => none }
def instWordsRow : OpenClaim := { program := "ytnonimnhninafaa", sum := "f03dbb8bc7eeef30ca4e616182204048c28916fb44b4c74ac2d9dcd75d268e49", func := "emulator/emulatorlaw06.InstWords", spec := "instWords", apart := false }
def InstWordsSaid : Prop := instWordsRow.holds Try.pinned (OpenSpec.ofChange instWordsSpec)

/-- ITS FALSE NEIGHBOUR: 'it returns false'. Refute it at one input. -/
def instWordsWrong : ChangeSpec := { name := "instWords", fn := fun _ => fun
  | [d1, d2, d3] => { results := [.lit (.bool false)], args := [d1, d2, d3] }
  | _ => none }
def InstWordsWrongFalsely : Prop := instWordsRow.holds Try.pinned (OpenSpec.ofChange instWordsWrong)

/-- 'emulatorlaw06.InstBack': WHATEVER THE INPUT: true; the input reads as it did. -/
def instBackSpec : ChangeSpec := { name := "instBack", fn := fun _ => fun
  | [d1, d2] => { results := [.lit (.bool true)], args := [d1, d2] }
  | _ => none }
def instBackRow : OpenClaim := { program := "ytnonimnhninafaa", sum := "f03dbb8bc7eeef30ca4e616182204048c28916fb44b4c74ac2d9dcd75d268e49", func := "emulator/emulatorlaw06.InstBack", spec := "instBack", apart := false }
def InstBackSaid : Prop := instBackRow.holds Try.pinned (OpenSpec.ofChange instBackSpec)

/-- ITS FALSE NEIGHBOUR: 'it returns false'. Refute it at one input. -/
def instBackWrong : ChangeSpec := { name := "instBack", fn := fun _ => fun
  | [d1, d2] => { results := [.lit (.bool false)], args := [d1, d2] }
  | _ => none }
def InstBackWrongFalsely : Prop := instBackRow.holds Try.pinned (OpenSpec.ofChange instBackWrong)

/-- 'emulatorlaw06.InstUnique': WHATEVER THE INPUT: true; the input reads as it did. -/
def instUniqueSpec : ChangeSpec := { name := "instUnique", fn := fun _ => fun
  | [d1, d2] => { results := [.lit (.bool true)], args := [d1, d2] }
  | _ => none }
def instUniqueRow : OpenClaim := { program := "ytnonimnhninafaa", sum := "f03dbb8bc7eeef30ca4e616182204048c28916fb44b4c74ac2d9dcd75d268e49", func := "emulator/emulatorlaw06.InstUnique", spec := "instUnique", apart := false }
def InstUniqueSaid : Prop := instUniqueRow.holds Try.pinned (OpenSpec.ofChange instUniqueSpec)

/-- ITS FALSE NEIGHBOUR: 'it returns false'. Refute it at one input. -/
def instUniqueWrong : ChangeSpec := { name := "instUnique", fn := fun _ => fun
  | [d1, d2] => { results := [.lit (.bool false)], args := [d1, d2] }
  | _ => none }
def InstUniqueWrongFalsely : Prop := instUniqueRow.holds Try.pinned (OpenSpec.ofChange instUniqueWrong)

/-- 'emulatorlaw21.TranslateBlocks': WHATEVER THE INPUT: true; the input reads as it did. -/
def translateBlocksSpec : ChangeSpec := { name := "translateBlocks", fn := fun _ => fun
  | [d1, d2] => { results := [.lit (.bool true)], args := [d1, d2] }
  | _ => none }
def translateBlocksRow : OpenClaim := { program := "ytnonimnhninafaa", sum := "f03dbb8bc7eeef30ca4e616182204048c28916fb44b4c74ac2d9dcd75d268e49", func := "emulator/emulatorlaw21.TranslateBlocks", spec := "translateBlocks", apart := false }
def TranslateBlocksSaid : Prop := translateBlocksRow.holds Try.pinned (OpenSpec.ofChange translateBlocksSpec)

/-- ITS FALSE NEIGHBOUR: 'it returns false'. Refute it at one input. -/
def translateBlocksWrong : ChangeSpec := { name := "translateBlocks", fn := fun _ => fun
  | [d1, d2] => { results := [.lit (.bool false)], args := [d1, d2] }
  | _ => none }
def TranslateBlocksWrongFalsely : Prop := translateBlocksRow.holds Try.pinned (OpenSpec.ofChange translateBlocksWrong)

/-- 'emulatorlaw21.TranslateStops': WHATEVER THE INPUT: true; the input reads as it did. -/
def translateStopsSpec : ChangeSpec := { name := "translateStops", fn := fun _ => fun
  | [d1, d2] => { results := [.lit (.bool true)], args := [d1, d2] }
  | _ => none }
def translateStopsRow : OpenClaim := { program := "ytnonimnhninafaa", sum := "f03dbb8bc7eeef30ca4e616182204048c28916fb44b4c74ac2d9dcd75d268e49", func := "emulator/emulatorlaw21.TranslateStops", spec := "translateStops", apart := false }
def TranslateStopsSaid : Prop := translateStopsRow.holds Try.pinned (OpenSpec.ofChange translateStopsSpec)

/-- ITS FALSE NEIGHBOUR: 'it returns false'. Refute it at one input. -/
def translateStopsWrong : ChangeSpec := { name := "translateStops", fn := fun _ => fun
  | [d1, d2] => { results := [.lit (.bool false)], args := [d1, d2] }
  | _ => none }
def TranslateStopsWrongFalsely : Prop := translateStopsRow.holds Try.pinned (OpenSpec.ofChange translateStopsWrong)

/-- 'emulatorlaw21.TranslateFresh': WHATEVER THE INPUT: true; the input reads as it did. -/
def translateFreshSpec : ChangeSpec := { name := "translateFresh", fn := fun _ => fun
  | [d1, d2] => { results := [.lit (.bool true)], args := [d1, d2] }
  | _ => none }
def translateFreshRow : OpenClaim := { program := "ytnonimnhninafaa", sum := "f03dbb8bc7eeef30ca4e616182204048c28916fb44b4c74ac2d9dcd75d268e49", func := "emulator/emulatorlaw21.TranslateFresh", spec := "translateFresh", unfollowed := true, recurses := true, apart := false }
def TranslateFreshSaid : Prop := translateFreshRow.holds Try.pinned (OpenSpec.ofChange translateFreshSpec)

/-- ITS FALSE NEIGHBOUR: 'it returns false'. Refute it at one input. -/
def translateFreshWrong : ChangeSpec := { name := "translateFresh", fn := fun _ => fun
  | [d1, d2] => { results := [.lit (.bool false)], args := [d1, d2] }
  | _ => none }
def TranslateFreshWrongFalsely : Prop := translateFreshRow.holds Try.pinned (OpenSpec.ofChange translateFreshWrong)

/-- 'emulatorlaw21.TranslateDrops': WHATEVER THE INPUT: true; the input reads as it did. -/
def translateDropsSpec : ChangeSpec := { name := "translateDrops", fn := fun _ => fun
  | [d1, d2] => { results := [.lit (.bool true)], args := [d1, d2] }
  | _ => none }
def translateDropsRow : OpenClaim := { program := "ytnonimnhninafaa", sum := "f03dbb8bc7eeef30ca4e616182204048c28916fb44b4c74ac2d9dcd75d268e49", func := "emulator/emulatorlaw21.TranslateDrops", spec := "translateDrops", unfollowed := true, recurses := true, apart := false }
def TranslateDropsSaid : Prop := translateDropsRow.holds Try.pinned (OpenSpec.ofChange translateDropsSpec)

/-- ITS FALSE NEIGHBOUR: 'it returns false'. Refute it at one input. -/
def translateDropsWrong : ChangeSpec := { name := "translateDrops", fn := fun _ => fun
  | [d1, d2] => { results := [.lit (.bool false)], args := [d1, d2] }
  | _ => none }
def TranslateDropsWrongFalsely : Prop := translateDropsRow.holds Try.pinned (OpenSpec.ofChange translateDropsWrong)

/-- 'emulatorlaw21.TranslateRights': WHATEVER THE INPUT: true; the input reads as it did. -/
def translateRightsSpec : ChangeSpec := { name := "translateRights", fn := fun _ => fun
  | [d1, d2, d3] => { results := [.lit (.bool true)], args := [d1, d2, d3] }
  | _ => none }
def translateRightsRow : OpenClaim := { program := "ytnonimnhninafaa", sum := "f03dbb8bc7eeef30ca4e616182204048c28916fb44b4c74ac2d9dcd75d268e49", func := "emulator/emulatorlaw21.TranslateRights", spec := "translateRights", unfollowed := true, recurses := true, apart := false }
def TranslateRightsSaid : Prop := translateRightsRow.holds Try.pinned (OpenSpec.ofChange translateRightsSpec)

/-- ITS FALSE NEIGHBOUR: 'it returns false'. Refute it at one input. -/
def translateRightsWrong : ChangeSpec := { name := "translateRights", fn := fun _ => fun
  | [d1, d2, d3] => { results := [.lit (.bool false)], args := [d1, d2, d3] }
  | _ => none }
def TranslateRightsWrongFalsely : Prop := translateRightsRow.holds Try.pinned (OpenSpec.ofChange translateRightsWrong)

/-- 'emulatorlaw21.TranslateAdds': WHATEVER THE INPUT: true; the input reads as it did. -/
def translateAddsSpec : ChangeSpec := { name := "translateAdds", fn := fun _ => fun
  | [d1, d2] => { results := [.lit (.bool true)], args := [d1, d2] }
  | _ => none }
def translateAddsRow : OpenClaim := { program := "ytnonimnhninafaa", sum := "f03dbb8bc7eeef30ca4e616182204048c28916fb44b4c74ac2d9dcd75d268e49", func := "emulator/emulatorlaw21.TranslateAdds", spec := "translateAdds", inPlace := ["slices.overlaps[emulator/api.Block]"], unfollowed := true, recurses := true, apart := false }
def TranslateAddsSaid : Prop := translateAddsRow.holds Try.pinned (OpenSpec.ofChange translateAddsSpec)

/-- ITS FALSE NEIGHBOUR: 'it returns false'. Refute it at one input. -/
def translateAddsWrong : ChangeSpec := { name := "translateAdds", fn := fun _ => fun
  | [d1, d2] => { results := [.lit (.bool false)], args := [d1, d2] }
  | _ => none }
def TranslateAddsWrongFalsely : Prop := translateAddsRow.holds Try.pinned (OpenSpec.ofChange translateAddsWrong)

/-- 'emulatorlaw21.TranslateChanges': WHATEVER THE INPUT: true; the input reads as it did. -/
def translateChangesSpec : ChangeSpec := { name := "translateChanges", fn := fun _ => fun
  | [d1, d2, d3] => { results := [.lit (.bool true)], args := [d1, d2, d3] }
  | _ => none }
def translateChangesRow : OpenClaim := { program := "ytnonimnhninafaa", sum := "f03dbb8bc7eeef30ca4e616182204048c28916fb44b4c74ac2d9dcd75d268e49", func := "emulator/emulatorlaw21.TranslateChanges", spec := "translateChanges", inPlace := ["slices.overlaps[emulator/api.Block]"], unfollowed := true, recurses := true, apart := false }
def TranslateChangesSaid : Prop := translateChangesRow.holds Try.pinned (OpenSpec.ofChange translateChangesSpec)

/-- ITS FALSE NEIGHBOUR: 'it returns false'. Refute it at one input. -/
def translateChangesWrong : ChangeSpec := { name := "translateChanges", fn := fun _ => fun
  | [d1, d2, d3] => { results := [.lit (.bool false)], args := [d1, d2, d3] }
  | _ => none }
def TranslateChangesWrongFalsely : Prop := translateChangesRow.holds Try.pinned (OpenSpec.ofChange translateChangesWrong)

/-- 'emulatorlaw21.TranslateGrows': WHATEVER THE INPUT: true; the input reads as it did. -/
def translateGrowsSpec : ChangeSpec := { name := "translateGrows", fn := fun _ => fun
  | [d1, d2] => { results := [.lit (.bool true)], args := [d1, d2] }
  | _ => none }
def translateGrowsRow : OpenClaim := { program := "ytnonimnhninafaa", sum := "f03dbb8bc7eeef30ca4e616182204048c28916fb44b4c74ac2d9dcd75d268e49", func := "emulator/emulatorlaw21.TranslateGrows", spec := "translateGrows", inPlace := ["slices.overlaps[emulator/api.Block]"], unfollowed := true, recurses := true, apart := false }
def TranslateGrowsSaid : Prop := translateGrowsRow.holds Try.pinned (OpenSpec.ofChange translateGrowsSpec)

/-- ITS FALSE NEIGHBOUR: 'it returns false'. Refute it at one input. -/
def translateGrowsWrong : ChangeSpec := { name := "translateGrows", fn := fun _ => fun
  | [d1, d2] => { results := [.lit (.bool false)], args := [d1, d2] }
  | _ => none }
def TranslateGrowsWrongFalsely : Prop := translateGrowsRow.holds Try.pinned (OpenSpec.ofChange translateGrowsWrong)

/- THE SECOND FORM. 'bulk': how many values and letters a reading holds, each counted each time it is reached (what is shared counts as often as it is met; a slice's spare places count too). A statement '..UptoSaid' is the law's where the arguments, and the package variables that the reading takes, are together of bulk at most 1048576: NARROWER than '..Said'. Prove '..Said' where nothing that the law and all that it calls make is longer than what came in: it says more and counts as full. Else prove '..UptoSaid'. A law counts once. -/
mutual
def uptoBulk {H : Type} : DataW H → Nat
  | .lit (.string bytes) => bytes.length + 1
  | .lit _ => 1
  | .nil => 1
  | .ptr d => uptoBulk d + 1
  | .slice elems spare => uptoBulkAll elems + uptoBulkAll spare + 1
  | .agg parts => uptoBulkAll parts + 1
  | .iface _ d => uptoBulk d + 1
  | .map entries => uptoBulkEntries entries + 1
  | .held _ => 1
def uptoBulkAll {H : Type} : List (DataW H) → Nat
  | [] => 0
  | d :: r => uptoBulk d + uptoBulkAll r
def uptoBulkEntries {H : Type} : List (Lit × DataW H) → Nat
  | [] => 0
  | x :: r => uptoBulkEntry x + uptoBulkEntries r
def uptoBulkEntry {H : Type} : Lit × DataW H → Nat
  | (.string bytes, d) => bytes.length + uptoBulk d + 1
  | (_, d) => uptoBulk d + 1
 end
def uptoSmall : (H : Type) → List (DataW H) → Bool := fun _ ds => decide (uptoBulkAll ds ≤ 1048576)
def OpenSpec.upto (s : _root_.Go.ChangeSpec) : _root_.Go.OpenSpec := { _root_.Go.OpenSpec.ofChange s with cond := some uptoSmall }

/-- 'emulatorlaw06.InstDecodes', WHERE WHAT IT READS IS OF BULK AT MOST 1048576: true; the input reads as it did. -/
def instDecodesUptoRow : OpenClaim := { program := "ytnonimnhninafaa", sum := "f03dbb8bc7eeef30ca4e616182204048c28916fb44b4c74ac2d9dcd75d268e49", func := "emulator/emulatorlaw06.InstDecodes", spec := "instDecodes", apart := false, narrowed := true }
def InstDecodesUptoSaid : Prop := instDecodesUptoRow.holds Try.pinned (OpenSpec.upto instDecodesSpec)

/-- 'emulatorlaw06.InstEncodes', WHERE WHAT IT READS IS OF BULK AT MOST 1048576: true; the input reads as it did. -/
def instEncodesUptoRow : OpenClaim := { program := "ytnonimnhninafaa", sum := "f03dbb8bc7eeef30ca4e616182204048c28916fb44b4c74ac2d9dcd75d268e49", func := "emulator/emulatorlaw06.InstEncodes", spec := "instEncodes", apart := false, narrowed := true }
def InstEncodesUptoSaid : Prop := instEncodesUptoRow.holds Try.pinned (OpenSpec.upto instEncodesSpec)

/-- 'emulatorlaw06.InstWords', WHERE WHAT IT READS IS OF BULK AT MOST 1048576: true; the input reads as it did. -/
def instWordsUptoRow : OpenClaim := { program := "ytnonimnhninafaa", sum := "f03dbb8bc7eeef30ca4e616182204048c28916fb44b4c74ac2d9dcd75d268e49", func := "emulator/emulatorlaw06.InstWords", spec := "instWords", apart := false, narrowed := true }
def InstWordsUptoSaid : Prop := instWordsUptoRow.holds Try.pinned (OpenSpec.upto instWordsSpec)

/-- 'emulatorlaw06.InstBack', WHERE WHAT IT READS IS OF BULK AT MOST 1048576: true; the input reads as it did. -/
def instBackUptoRow : OpenClaim := { program := "ytnonimnhninafaa", sum := "f03dbb8bc7eeef30ca4e616182204048c28916fb44b4c74ac2d9dcd75d268e49", func := "emulator/emulatorlaw06.InstBack", spec := "instBack", apart := false, narrowed := true }
def InstBackUptoSaid : Prop := instBackUptoRow.holds Try.pinned (OpenSpec.upto instBackSpec)

/-- 'emulatorlaw06.InstUnique', WHERE WHAT IT READS IS OF BULK AT MOST 1048576: true; the input reads as it did. -/
def instUniqueUptoRow : OpenClaim := { program := "ytnonimnhninafaa", sum := "f03dbb8bc7eeef30ca4e616182204048c28916fb44b4c74ac2d9dcd75d268e49", func := "emulator/emulatorlaw06.InstUnique", spec := "instUnique", apart := false, narrowed := true }
def InstUniqueUptoSaid : Prop := instUniqueUptoRow.holds Try.pinned (OpenSpec.upto instUniqueSpec)

/-- 'emulatorlaw21.TranslateBlocks', WHERE WHAT IT READS IS OF BULK AT MOST 1048576: true; the input reads as it did. -/
def translateBlocksUptoRow : OpenClaim := { program := "ytnonimnhninafaa", sum := "f03dbb8bc7eeef30ca4e616182204048c28916fb44b4c74ac2d9dcd75d268e49", func := "emulator/emulatorlaw21.TranslateBlocks", spec := "translateBlocks", apart := false, narrowed := true }
def TranslateBlocksUptoSaid : Prop := translateBlocksUptoRow.holds Try.pinned (OpenSpec.upto translateBlocksSpec)

/-- 'emulatorlaw21.TranslateStops', WHERE WHAT IT READS IS OF BULK AT MOST 1048576: true; the input reads as it did. -/
def translateStopsUptoRow : OpenClaim := { program := "ytnonimnhninafaa", sum := "f03dbb8bc7eeef30ca4e616182204048c28916fb44b4c74ac2d9dcd75d268e49", func := "emulator/emulatorlaw21.TranslateStops", spec := "translateStops", apart := false, narrowed := true }
def TranslateStopsUptoSaid : Prop := translateStopsUptoRow.holds Try.pinned (OpenSpec.upto translateStopsSpec)

/-- 'emulatorlaw21.TranslateFresh', WHERE WHAT IT READS IS OF BULK AT MOST 1048576: true; the input reads as it did. -/
def translateFreshUptoRow : OpenClaim := { program := "ytnonimnhninafaa", sum := "f03dbb8bc7eeef30ca4e616182204048c28916fb44b4c74ac2d9dcd75d268e49", func := "emulator/emulatorlaw21.TranslateFresh", spec := "translateFresh", unfollowed := true, recurses := true, apart := false, narrowed := true }
def TranslateFreshUptoSaid : Prop := translateFreshUptoRow.holds Try.pinned (OpenSpec.upto translateFreshSpec)

/-- 'emulatorlaw21.TranslateDrops', WHERE WHAT IT READS IS OF BULK AT MOST 1048576: true; the input reads as it did. -/
def translateDropsUptoRow : OpenClaim := { program := "ytnonimnhninafaa", sum := "f03dbb8bc7eeef30ca4e616182204048c28916fb44b4c74ac2d9dcd75d268e49", func := "emulator/emulatorlaw21.TranslateDrops", spec := "translateDrops", unfollowed := true, recurses := true, apart := false, narrowed := true }
def TranslateDropsUptoSaid : Prop := translateDropsUptoRow.holds Try.pinned (OpenSpec.upto translateDropsSpec)

/-- 'emulatorlaw21.TranslateRights', WHERE WHAT IT READS IS OF BULK AT MOST 1048576: true; the input reads as it did. -/
def translateRightsUptoRow : OpenClaim := { program := "ytnonimnhninafaa", sum := "f03dbb8bc7eeef30ca4e616182204048c28916fb44b4c74ac2d9dcd75d268e49", func := "emulator/emulatorlaw21.TranslateRights", spec := "translateRights", unfollowed := true, recurses := true, apart := false, narrowed := true }
def TranslateRightsUptoSaid : Prop := translateRightsUptoRow.holds Try.pinned (OpenSpec.upto translateRightsSpec)

/-- 'emulatorlaw21.TranslateAdds', WHERE WHAT IT READS IS OF BULK AT MOST 1048576: true; the input reads as it did. -/
def translateAddsUptoRow : OpenClaim := { program := "ytnonimnhninafaa", sum := "f03dbb8bc7eeef30ca4e616182204048c28916fb44b4c74ac2d9dcd75d268e49", func := "emulator/emulatorlaw21.TranslateAdds", spec := "translateAdds", inPlace := ["slices.overlaps[emulator/api.Block]"], unfollowed := true, recurses := true, apart := false, narrowed := true }
def TranslateAddsUptoSaid : Prop := translateAddsUptoRow.holds Try.pinned (OpenSpec.upto translateAddsSpec)

/-- 'emulatorlaw21.TranslateChanges', WHERE WHAT IT READS IS OF BULK AT MOST 1048576: true; the input reads as it did. -/
def translateChangesUptoRow : OpenClaim := { program := "ytnonimnhninafaa", sum := "f03dbb8bc7eeef30ca4e616182204048c28916fb44b4c74ac2d9dcd75d268e49", func := "emulator/emulatorlaw21.TranslateChanges", spec := "translateChanges", inPlace := ["slices.overlaps[emulator/api.Block]"], unfollowed := true, recurses := true, apart := false, narrowed := true }
def TranslateChangesUptoSaid : Prop := translateChangesUptoRow.holds Try.pinned (OpenSpec.upto translateChangesSpec)

/-- 'emulatorlaw21.TranslateGrows', WHERE WHAT IT READS IS OF BULK AT MOST 1048576: true; the input reads as it did. -/
def translateGrowsUptoRow : OpenClaim := { program := "ytnonimnhninafaa", sum := "f03dbb8bc7eeef30ca4e616182204048c28916fb44b4c74ac2d9dcd75d268e49", func := "emulator/emulatorlaw21.TranslateGrows", spec := "translateGrows", inPlace := ["slices.overlaps[emulator/api.Block]"], unfollowed := true, recurses := true, apart := false, narrowed := true }
def TranslateGrowsUptoSaid : Prop := translateGrowsUptoRow.holds Try.pinned (OpenSpec.upto translateGrowsSpec)

end Rows
end Go.Proofs.Ytnonimnhninafaa
