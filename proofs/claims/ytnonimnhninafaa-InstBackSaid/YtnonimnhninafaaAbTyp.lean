/- The codes of the types of the translation; by a program of the session (gentyp.py). -/
import Derived.Test.YtnonimnhninafaaAbTab
import Derived.Test.YtnonimnhninafaaAbV14
namespace Go.Proofs.Ytnonimnhninafaa.Ab
open Go
set_option maxRecDepth 20000

def tyOf : TypeId → Option Ty := fun t => match t with
  | 2 => some (.int .i64)
  | 3 => some (.int .i64)
  | 4 => some .bool
  | 5 => some (.int .u8)
  | 6 => some (.int .u8)
  | 9 => some .str
  | 10 => some .str
  | 11 => some .str
  | 12 => some (.int .u64)
  | 21 => some (.int .i32)
  | 22 => some (.sl (.int .i64))
  | 24 => some (.int .i64)
  | 26 => some (.st .sOperand)
  | 28 => some (.st .sInst)
  | 32 => some (.int .i64)
  | 38 => some (.int .u16)
  | 43 => some (.st .sEmulatorlaw21_Memory)
  | 45 => some (.sl (.st .sMicro))
  | 47 => some (.st .sBlock)
  | 49 => some (.arr 6 (.int .i64))
  | 50 => some (.arr 2 (.int .i64))
  | 52 => some (.st .sCpu)
  | 54 => some (.st .sPage)
  | 55 => some (.arr 8 (.st .sPage))
  | 56 => some (.arr 2 (.arr 8 (.st .sPage)))
  | 58 => some (.st .sMmu)
  | 60 => some (.st .sClock)
  | 61 => some (.sl (.st .sLine))
  | 62 => some (.sl .str)
  | 64 => some (.st .sDrive)
  | 66 => some (.st .sDisk)
  | 68 => some (.st .sTape)
  | 70 => some (.st .sMachine)
  | 74 => some (.st .sMicro)
  | 78 => some (.sl (.st .sBlock))
  | 80 => some (.st .sCache)
  | 93 => some (.sl (.int .u16))
  | 94 => some (.sl (.st .sEmulatorlaw21_Change))
  | 95 => some (.sl .bool)
  | 97 => some (.st .sEmulatorlaw21_Change)
  | 100 => some (.int .i64)
  | 102 => some (.st .sInst_form)
  | 128 => some (.arr 56 (.st .sInst_form))
  | 130 => some (.int .u64)
  | 132 => some (.int .i8)
  | 135 => some (.sl (.st .sOperand))
  | 147 => some (.int .u32)
  | 148 => some (.int .u8)
  | 149 => some (.int .u8)
  | 152 => some (.int .i32)
  | 153 => some (.int .i32)
  | 157 => some (.st .sLine)
  | _ => none

theorem tc2 : TyC Θ tyOf 2 (.int .i64) (Option.get (Θ 2) rfl) := ⟨th2, by kernel_rfl, by kernel_rfl, by kernel_rfl, by kernel_rfl, rfl⟩
theorem tc3 : TyC Θ tyOf 3 (.int .i64) (Option.get (Θ 3) rfl) := ⟨th3, by kernel_rfl, by kernel_rfl, by kernel_rfl, by kernel_rfl, rfl⟩
theorem tc4 : TyC Θ tyOf 4 .bool (Option.get (Θ 4) rfl) := ⟨th4, by kernel_rfl, by kernel_rfl, by kernel_rfl, by kernel_rfl, rfl⟩
theorem tc5 : TyC Θ tyOf 5 (.int .u8) (Option.get (Θ 5) rfl) := ⟨th5, by kernel_rfl, by kernel_rfl, by kernel_rfl, by kernel_rfl, rfl⟩
theorem tc6 : TyC Θ tyOf 6 (.int .u8) (Option.get (Θ 6) rfl) := ⟨th6, by kernel_rfl, by kernel_rfl, by kernel_rfl, by kernel_rfl, rfl⟩
theorem tc9 : TyC Θ tyOf 9 .str (Option.get (Θ 9) rfl) := ⟨th9, by kernel_rfl, by kernel_rfl, by kernel_rfl, by kernel_rfl, rfl⟩
theorem tc10 : TyC Θ tyOf 10 .str (Option.get (Θ 10) rfl) := ⟨th10, by kernel_rfl, by kernel_rfl, by kernel_rfl, by kernel_rfl, rfl⟩
theorem tc11 : TyC Θ tyOf 11 .str (Option.get (Θ 11) rfl) := ⟨th11, by kernel_rfl, by kernel_rfl, by kernel_rfl, by kernel_rfl, rfl⟩
theorem tc12 : TyC Θ tyOf 12 (.int .u64) (Option.get (Θ 12) rfl) := ⟨th12, by kernel_rfl, by kernel_rfl, by kernel_rfl, by kernel_rfl, rfl⟩
theorem tc21 : TyC Θ tyOf 21 (.int .i32) (Option.get (Θ 21) rfl) := ⟨th21, by kernel_rfl, by kernel_rfl, by kernel_rfl, by kernel_rfl, rfl⟩
theorem tc22 : TyC Θ tyOf 22 (.sl (.int .i64)) (Option.get (Θ 22) rfl) := ⟨th22, by kernel_rfl, by kernel_rfl, by kernel_rfl, by kernel_rfl, ⟨_, rfl, rfl⟩⟩
theorem tc24 : TyC Θ tyOf 24 (.int .i64) (Option.get (Θ 24) rfl) := ⟨th24, by kernel_rfl, by kernel_rfl, by kernel_rfl, by kernel_rfl, rfl⟩
theorem tc26 : TyC Θ tyOf 26 (.st .sOperand) (Option.get (Θ 26) rfl) := ⟨th26, by kernel_rfl, by kernel_rfl, by kernel_rfl, by kernel_rfl, ⟨_, rfl, rfl⟩⟩
theorem tc28 : TyC Θ tyOf 28 (.st .sInst) (Option.get (Θ 28) rfl) := ⟨th28, by kernel_rfl, by kernel_rfl, by kernel_rfl, by kernel_rfl, ⟨_, rfl, rfl⟩⟩
theorem tc32 : TyC Θ tyOf 32 (.int .i64) (Option.get (Θ 32) rfl) := ⟨th32, by kernel_rfl, by kernel_rfl, by kernel_rfl, by kernel_rfl, rfl⟩
theorem tc38 : TyC Θ tyOf 38 (.int .u16) (Option.get (Θ 38) rfl) := ⟨th38, by kernel_rfl, by kernel_rfl, by kernel_rfl, by kernel_rfl, rfl⟩
theorem tc43 : TyC Θ tyOf 43 (.st .sEmulatorlaw21_Memory) (Option.get (Θ 43) rfl) := ⟨th43, by kernel_rfl, by kernel_rfl, by kernel_rfl, by kernel_rfl, ⟨_, rfl, rfl⟩⟩
theorem tc45 : TyC Θ tyOf 45 (.sl (.st .sMicro)) (Option.get (Θ 45) rfl) := ⟨th45, by kernel_rfl, by kernel_rfl, by kernel_rfl, by kernel_rfl, ⟨_, rfl, rfl⟩⟩
theorem tc47 : TyC Θ tyOf 47 (.st .sBlock) (Option.get (Θ 47) rfl) := ⟨th47, by kernel_rfl, by kernel_rfl, by kernel_rfl, by kernel_rfl, ⟨_, rfl, rfl⟩⟩
theorem tc49 : TyC Θ tyOf 49 (.arr 6 (.int .i64)) (Option.get (Θ 49) rfl) := ⟨th49, by kernel_rfl, by kernel_rfl, by kernel_rfl, by kernel_rfl, ⟨_, rfl, rfl⟩⟩
theorem tc50 : TyC Θ tyOf 50 (.arr 2 (.int .i64)) (Option.get (Θ 50) rfl) := ⟨th50, by kernel_rfl, by kernel_rfl, by kernel_rfl, by kernel_rfl, ⟨_, rfl, rfl⟩⟩
theorem tc52 : TyC Θ tyOf 52 (.st .sCpu) (Option.get (Θ 52) rfl) := ⟨th52, by kernel_rfl, by kernel_rfl, by kernel_rfl, by kernel_rfl, ⟨_, rfl, rfl⟩⟩
theorem tc54 : TyC Θ tyOf 54 (.st .sPage) (Option.get (Θ 54) rfl) := ⟨th54, by kernel_rfl, by kernel_rfl, by kernel_rfl, by kernel_rfl, ⟨_, rfl, rfl⟩⟩
theorem tc55 : TyC Θ tyOf 55 (.arr 8 (.st .sPage)) (Option.get (Θ 55) rfl) := ⟨th55, by kernel_rfl, by kernel_rfl, by kernel_rfl, by kernel_rfl, ⟨_, rfl, rfl⟩⟩
theorem tc56 : TyC Θ tyOf 56 (.arr 2 (.arr 8 (.st .sPage))) (Option.get (Θ 56) rfl) := ⟨th56, by kernel_rfl, by kernel_rfl, by kernel_rfl, by kernel_rfl, ⟨_, rfl, rfl⟩⟩
theorem tc58 : TyC Θ tyOf 58 (.st .sMmu) (Option.get (Θ 58) rfl) := ⟨th58, by kernel_rfl, by kernel_rfl, by kernel_rfl, by kernel_rfl, ⟨_, rfl, rfl⟩⟩
theorem tc60 : TyC Θ tyOf 60 (.st .sClock) (Option.get (Θ 60) rfl) := ⟨th60, by kernel_rfl, by kernel_rfl, by kernel_rfl, by kernel_rfl, ⟨_, rfl, rfl⟩⟩
theorem tc61 : TyC Θ tyOf 61 (.sl (.st .sLine)) (Option.get (Θ 61) rfl) := ⟨th61, by kernel_rfl, by kernel_rfl, by kernel_rfl, by kernel_rfl, ⟨_, rfl, rfl⟩⟩
theorem tc62 : TyC Θ tyOf 62 (.sl .str) (Option.get (Θ 62) rfl) := ⟨th62, by kernel_rfl, by kernel_rfl, by kernel_rfl, by kernel_rfl, ⟨_, rfl, rfl⟩⟩
theorem tc64 : TyC Θ tyOf 64 (.st .sDrive) (Option.get (Θ 64) rfl) := ⟨th64, by kernel_rfl, by kernel_rfl, by kernel_rfl, by kernel_rfl, ⟨_, rfl, rfl⟩⟩
theorem tc66 : TyC Θ tyOf 66 (.st .sDisk) (Option.get (Θ 66) rfl) := ⟨th66, by kernel_rfl, by kernel_rfl, by kernel_rfl, by kernel_rfl, ⟨_, rfl, rfl⟩⟩
theorem tc68 : TyC Θ tyOf 68 (.st .sTape) (Option.get (Θ 68) rfl) := ⟨th68, by kernel_rfl, by kernel_rfl, by kernel_rfl, by kernel_rfl, ⟨_, rfl, rfl⟩⟩
theorem tc70 : TyC Θ tyOf 70 (.st .sMachine) (Option.get (Θ 70) rfl) := ⟨th70, by kernel_rfl, by kernel_rfl, by kernel_rfl, by kernel_rfl, ⟨_, rfl, rfl⟩⟩
theorem tc74 : TyC Θ tyOf 74 (.st .sMicro) (Option.get (Θ 74) rfl) := ⟨th74, by kernel_rfl, by kernel_rfl, by kernel_rfl, by kernel_rfl, ⟨_, rfl, rfl⟩⟩
theorem tc78 : TyC Θ tyOf 78 (.sl (.st .sBlock)) (Option.get (Θ 78) rfl) := ⟨th78, by kernel_rfl, by kernel_rfl, by kernel_rfl, by kernel_rfl, ⟨_, rfl, rfl⟩⟩
theorem tc80 : TyC Θ tyOf 80 (.st .sCache) (Option.get (Θ 80) rfl) := ⟨th80, by kernel_rfl, by kernel_rfl, by kernel_rfl, by kernel_rfl, ⟨_, rfl, rfl⟩⟩
theorem tc93 : TyC Θ tyOf 93 (.sl (.int .u16)) (Option.get (Θ 93) rfl) := ⟨th93, by kernel_rfl, by kernel_rfl, by kernel_rfl, by kernel_rfl, ⟨_, rfl, rfl⟩⟩
theorem tc94 : TyC Θ tyOf 94 (.sl (.st .sEmulatorlaw21_Change)) (Option.get (Θ 94) rfl) := ⟨th94, by kernel_rfl, by kernel_rfl, by kernel_rfl, by kernel_rfl, ⟨_, rfl, rfl⟩⟩
theorem tc95 : TyC Θ tyOf 95 (.sl .bool) (Option.get (Θ 95) rfl) := ⟨th95, by kernel_rfl, by kernel_rfl, by kernel_rfl, by kernel_rfl, ⟨_, rfl, rfl⟩⟩
theorem tc97 : TyC Θ tyOf 97 (.st .sEmulatorlaw21_Change) (Option.get (Θ 97) rfl) := ⟨th97, by kernel_rfl, by kernel_rfl, by kernel_rfl, by kernel_rfl, ⟨_, rfl, rfl⟩⟩
theorem tc100 : TyC Θ tyOf 100 (.int .i64) (Option.get (Θ 100) rfl) := ⟨th100, by kernel_rfl, by kernel_rfl, by kernel_rfl, by kernel_rfl, rfl⟩
theorem tc102 : TyC Θ tyOf 102 (.st .sInst_form) (Option.get (Θ 102) rfl) := ⟨th102, by kernel_rfl, by kernel_rfl, by kernel_rfl, by kernel_rfl, ⟨_, rfl, rfl⟩⟩
theorem tc128 : TyC Θ tyOf 128 (.arr 56 (.st .sInst_form)) (Option.get (Θ 128) rfl) := ⟨th128, by kernel_rfl, by kernel_rfl, by kernel_rfl, by kernel_rfl, ⟨_, rfl, rfl⟩⟩
theorem tc130 : TyC Θ tyOf 130 (.int .u64) (Option.get (Θ 130) rfl) := ⟨th130, by kernel_rfl, by kernel_rfl, by kernel_rfl, by kernel_rfl, rfl⟩
theorem tc132 : TyC Θ tyOf 132 (.int .i8) (Option.get (Θ 132) rfl) := ⟨th132, by kernel_rfl, by kernel_rfl, by kernel_rfl, by kernel_rfl, rfl⟩
theorem tc135 : TyC Θ tyOf 135 (.sl (.st .sOperand)) (Option.get (Θ 135) rfl) := ⟨th135, by kernel_rfl, by kernel_rfl, by kernel_rfl, by kernel_rfl, ⟨_, rfl, rfl⟩⟩
theorem tc147 : TyC Θ tyOf 147 (.int .u32) (Option.get (Θ 147) rfl) := ⟨th147, by kernel_rfl, by kernel_rfl, by kernel_rfl, by kernel_rfl, rfl⟩
theorem tc148 : TyC Θ tyOf 148 (.int .u8) (Option.get (Θ 148) rfl) := ⟨th148, by kernel_rfl, by kernel_rfl, by kernel_rfl, by kernel_rfl, rfl⟩
theorem tc149 : TyC Θ tyOf 149 (.int .u8) (Option.get (Θ 149) rfl) := ⟨th149, by kernel_rfl, by kernel_rfl, by kernel_rfl, by kernel_rfl, rfl⟩
theorem tc152 : TyC Θ tyOf 152 (.int .i32) (Option.get (Θ 152) rfl) := ⟨th152, by kernel_rfl, by kernel_rfl, by kernel_rfl, by kernel_rfl, rfl⟩
theorem tc153 : TyC Θ tyOf 153 (.int .i32) (Option.get (Θ 153) rfl) := ⟨th153, by kernel_rfl, by kernel_rfl, by kernel_rfl, by kernel_rfl, rfl⟩
theorem tc157 : TyC Θ tyOf 157 (.st .sLine) (Option.get (Θ 157) rfl) := ⟨th157, by kernel_rfl, by kernel_rfl, by kernel_rfl, by kernel_rfl, ⟨_, rfl, rfl⟩⟩

theorem typOK : TypOK Θ tyOf := by
  intro t c h
  unfold tyOf at h
  split at h
  · cases h; exact ⟨_, tc2⟩
  · cases h; exact ⟨_, tc3⟩
  · cases h; exact ⟨_, tc4⟩
  · cases h; exact ⟨_, tc5⟩
  · cases h; exact ⟨_, tc6⟩
  · cases h; exact ⟨_, tc9⟩
  · cases h; exact ⟨_, tc10⟩
  · cases h; exact ⟨_, tc11⟩
  · cases h; exact ⟨_, tc12⟩
  · cases h; exact ⟨_, tc21⟩
  · cases h; exact ⟨_, tc22⟩
  · cases h; exact ⟨_, tc24⟩
  · cases h; exact ⟨_, tc26⟩
  · cases h; exact ⟨_, tc28⟩
  · cases h; exact ⟨_, tc32⟩
  · cases h; exact ⟨_, tc38⟩
  · cases h; exact ⟨_, tc43⟩
  · cases h; exact ⟨_, tc45⟩
  · cases h; exact ⟨_, tc47⟩
  · cases h; exact ⟨_, tc49⟩
  · cases h; exact ⟨_, tc50⟩
  · cases h; exact ⟨_, tc52⟩
  · cases h; exact ⟨_, tc54⟩
  · cases h; exact ⟨_, tc55⟩
  · cases h; exact ⟨_, tc56⟩
  · cases h; exact ⟨_, tc58⟩
  · cases h; exact ⟨_, tc60⟩
  · cases h; exact ⟨_, tc61⟩
  · cases h; exact ⟨_, tc62⟩
  · cases h; exact ⟨_, tc64⟩
  · cases h; exact ⟨_, tc66⟩
  · cases h; exact ⟨_, tc68⟩
  · cases h; exact ⟨_, tc70⟩
  · cases h; exact ⟨_, tc74⟩
  · cases h; exact ⟨_, tc78⟩
  · cases h; exact ⟨_, tc80⟩
  · cases h; exact ⟨_, tc93⟩
  · cases h; exact ⟨_, tc94⟩
  · cases h; exact ⟨_, tc95⟩
  · cases h; exact ⟨_, tc97⟩
  · cases h; exact ⟨_, tc100⟩
  · cases h; exact ⟨_, tc102⟩
  · cases h; exact ⟨_, tc128⟩
  · cases h; exact ⟨_, tc130⟩
  · cases h; exact ⟨_, tc132⟩
  · cases h; exact ⟨_, tc135⟩
  · cases h; exact ⟨_, tc147⟩
  · cases h; exact ⟨_, tc148⟩
  · cases h; exact ⟨_, tc149⟩
  · cases h; exact ⟨_, tc152⟩
  · cases h; exact ⟨_, tc153⟩
  · cases h; exact ⟨_, tc157⟩
  · cases h

end Go.Proofs.Ytnonimnhninafaa.Ab
