/- The struct types of the program as Lean structures, and what the typed calculus knows of them; by a program of the session (genreg.py). -/
import Derived.Test.YtnonimnhninafaaAbRun2
namespace Go.Proofs.Ytnonimnhninafaa
open Go

structure M.Operand where
  Mode : Int
  Reg : Int
  Ext : Int
  deriving DecidableEq
def M.Operand.zero : M.Operand := ⟨0, 0, 0⟩

structure M.Inst where
  Op : Int
  Byte : Bool
  Src : M.Operand
  Dst : M.Operand
  Reg : Int
  Num : Int
  deriving DecidableEq
def M.Inst.zero : M.Inst := ⟨0, false, M.Operand.zero, M.Operand.zero, 0, 0⟩

structure M.Emulatorlaw21_Memory where
  Mem : List Int
  Bad : List Int
  deriving DecidableEq
def M.Emulatorlaw21_Memory.zero : M.Emulatorlaw21_Memory := ⟨[], []⟩

structure M.Micro where
  At : Int
  Words : List Int
  Inst : M.Inst
  deriving DecidableEq
def M.Micro.zero : M.Micro := ⟨0, [], M.Inst.zero⟩

structure M.Block where
  Start : Int
  Code : List M.Micro
  deriving DecidableEq
def M.Block.zero : M.Block := ⟨0, []⟩

structure M.Cpu where
  R : Vector Int 6
  SP : Vector Int 2
  PC : Int
  PSW : Int
  deriving DecidableEq
def M.Cpu.zero : M.Cpu := ⟨Vector.replicate 6 0, Vector.replicate 2 0, 0, 0⟩

structure M.Page where
  Base : Int
  Length : Int
  Access : Int
  Written : Bool
  deriving DecidableEq
def M.Page.zero : M.Page := ⟨0, 0, 0, false⟩

structure M.Mmu where
  On : Bool
  Pages : Vector (Vector M.Page 8) 2
  Status : Int
  Addr : Int
  deriving DecidableEq
def M.Mmu.zero : M.Mmu := ⟨false, Vector.replicate 2 (Vector.replicate 8 M.Page.zero), 0, 0⟩

structure M.Clock where
  Enable : Bool
  Ready : Bool
  Period : Int
  Left : Int
  deriving DecidableEq
def M.Clock.zero : M.Clock := ⟨false, false, 0, 0⟩

structure M.Line where
  RxEnable : Bool
  RxReady : Bool
  Overrun : Bool
  RxData : Int
  TxEnable : Bool
  TxReady : Bool
  TxData : Int
  TxLeft : Int
  Out : ByteArray
  deriving DecidableEq
def M.Line.zero : M.Line := ⟨false, false, false, 0, false, false, 0, 0, ByteArray.empty⟩

structure M.Drive where
  Sectors : List ByteArray
  Bad : List Int
  deriving DecidableEq
def M.Drive.zero : M.Drive := ⟨[], []⟩

structure M.Disk where
  Drive : M.Drive
  Enable : Bool
  Ready : Bool
  Error : Bool
  Command : Int
  Words : Int
  Addr : Int
  Start : Int
  Left : Int
  deriving DecidableEq
def M.Disk.zero : M.Disk := ⟨M.Drive.zero, false, false, false, 0, 0, 0, 0, 0⟩

structure M.Tape where
  Records : List ByteArray
  Pos : Int
  Enable : Bool
  Ready : Bool
  Error : Bool
  Mark : Bool
  End : Bool
  Command : Int
  Count : Int
  Addr : Int
  Left : Int
  deriving DecidableEq
def M.Tape.zero : M.Tape := ⟨[], 0, false, false, false, false, false, 0, 0, 0, 0⟩

structure M.Machine where
  Cpu : M.Cpu
  Mem : List Int
  Bad : List Int
  Mmu : M.Mmu
  Clock : M.Clock
  Lines : List M.Line
  Disk : M.Disk
  Tape : M.Tape
  Now : Int
  Halted : Bool
  Waiting : Bool
  Power : Int
  PowerTrap : Bool
  deriving DecidableEq
def M.Machine.zero : M.Machine := ⟨M.Cpu.zero, [], [], M.Mmu.zero, M.Clock.zero, [], M.Disk.zero, M.Tape.zero, 0, false, false, 0, false⟩

structure M.Cache where
  Blocks : List M.Block
  Made : Int
  Used : Int
  Dropped : Int
  deriving DecidableEq
def M.Cache.zero : M.Cache := ⟨[], 0, 0, 0⟩

structure M.Emulatorlaw21_Change where
  At : Int
  V : Int
  deriving DecidableEq
def M.Emulatorlaw21_Change.zero : M.Emulatorlaw21_Change := ⟨0, 0⟩

structure M.Inst_form where
  first : Int
  bits : Int
  op : Int
  shape : Int
  bytes : Bool
  deriving DecidableEq
def M.Inst_form.zero : M.Inst_form := ⟨0, 0, 0, 0, false⟩

namespace Ab
inductive SId where
  | sOperand
  | sInst
  | sEmulatorlaw21_Memory
  | sMicro
  | sBlock
  | sCpu
  | sPage
  | sMmu
  | sClock
  | sLine
  | sDrive
  | sDisk
  | sTape
  | sMachine
  | sCache
  | sEmulatorlaw21_Change
  | sInst_form
  deriving DecidableEq

inductive Ty where
  | int (k : IntKind)
  | bool
  | str
  | sl (c : Ty)
  | arr (n : Nat) (c : Ty)
  | st (s : SId)
  deriving DecidableEq

def SDen : SId → Type
  | .sOperand => M.Operand
  | .sInst => M.Inst
  | .sEmulatorlaw21_Memory => M.Emulatorlaw21_Memory
  | .sMicro => M.Micro
  | .sBlock => M.Block
  | .sCpu => M.Cpu
  | .sPage => M.Page
  | .sMmu => M.Mmu
  | .sClock => M.Clock
  | .sLine => M.Line
  | .sDrive => M.Drive
  | .sDisk => M.Disk
  | .sTape => M.Tape
  | .sMachine => M.Machine
  | .sCache => M.Cache
  | .sEmulatorlaw21_Change => M.Emulatorlaw21_Change
  | .sInst_form => M.Inst_form

def den : Ty → Type
  | .int _ => Int
  | .bool => Bool
  | .str => ByteArray
  | .sl c => List (den c)
  | .arr n c => Vector (den c) n
  | .st s => SDen s

def tys : SId → List Ty
  | .sOperand => [(.int .i64), (.int .i64), (.int .i64)]
  | .sInst => [(.int .i64), .bool, (.st .sOperand), (.st .sOperand), (.int .i64), (.int .i64)]
  | .sEmulatorlaw21_Memory => [(.sl (.int .i64)), (.sl (.int .i64))]
  | .sMicro => [(.int .i64), (.sl (.int .i64)), (.st .sInst)]
  | .sBlock => [(.int .i64), (.sl (.st .sMicro))]
  | .sCpu => [(.arr 6 (.int .i64)), (.arr 2 (.int .i64)), (.int .i64), (.int .i64)]
  | .sPage => [(.int .i64), (.int .i64), (.int .i64), .bool]
  | .sMmu => [.bool, (.arr 2 (.arr 8 (.st .sPage))), (.int .i64), (.int .i64)]
  | .sClock => [.bool, .bool, (.int .i64), (.int .i64)]
  | .sLine => [.bool, .bool, .bool, (.int .i64), .bool, .bool, (.int .i64), (.int .i64), .str]
  | .sDrive => [(.sl .str), (.sl (.int .i64))]
  | .sDisk => [(.st .sDrive), .bool, .bool, .bool, (.int .i64), (.int .i64), (.int .i64), (.int .i64), (.int .i64)]
  | .sTape => [(.sl .str), (.int .i64), .bool, .bool, .bool, .bool, .bool, (.int .i64), (.int .i64), (.int .i64), (.int .i64)]
  | .sMachine => [(.st .sCpu), (.sl (.int .i64)), (.sl (.int .i64)), (.st .sMmu), (.st .sClock), (.sl (.st .sLine)), (.st .sDisk), (.st .sTape), (.int .i64), .bool, .bool, (.int .i64), .bool]
  | .sCache => [(.sl (.st .sBlock)), (.int .i64), (.int .i64), (.int .i64)]
  | .sEmulatorlaw21_Change => [(.int .u16), (.int .u16)]
  | .sInst_form => [(.int .i64), (.int .i64), (.int .i64), (.int .i64), .bool]

def soffs : SId → List Nat
  | .sOperand => [0, 1, 2]
  | .sInst => [0, 1, 2, 5, 8, 9]
  | .sEmulatorlaw21_Memory => [0, 1]
  | .sMicro => [0, 1, 2]
  | .sBlock => [0, 1]
  | .sCpu => [0, 6, 8, 9]
  | .sPage => [0, 1, 2, 3]
  | .sMmu => [0, 1, 65, 66]
  | .sClock => [0, 1, 2, 3]
  | .sLine => [0, 1, 2, 3, 4, 5, 6, 7, 8]
  | .sDrive => [0, 1]
  | .sDisk => [0, 2, 3, 4, 5, 6, 7, 8, 9]
  | .sTape => [0, 1, 2, 3, 4, 5, 6, 7, 8, 9, 10]
  | .sMachine => [0, 10, 11, 12, 79, 83, 84, 94, 105, 106, 107, 108, 109]
  | .sCache => [0, 1, 2, 3]
  | .sEmulatorlaw21_Change => [0, 1]
  | .sInst_form => [0, 1, 2, 3, 4]

def ssz : SId → Nat
  | .sOperand => 3
  | .sInst => 10
  | .sEmulatorlaw21_Memory => 2
  | .sMicro => 12
  | .sBlock => 2
  | .sCpu => 10
  | .sPage => 4
  | .sMmu => 67
  | .sClock => 4
  | .sLine => 9
  | .sDrive => 2
  | .sDisk => 10
  | .sTape => 11
  | .sMachine => 110
  | .sCache => 4
  | .sEmulatorlaw21_Change => 2
  | .sInst_form => 5

def HL : List Ty → Type
  | [] => Unit
  | c :: cs => den c × HL cs

def toH : (s : SId) → SDen s → HL (tys s)
  | .sOperand => fun (x : M.Operand) => (x.Mode, x.Reg, x.Ext, ())
  | .sInst => fun (x : M.Inst) => (x.Op, x.Byte, x.Src, x.Dst, x.Reg, x.Num, ())
  | .sEmulatorlaw21_Memory => fun (x : M.Emulatorlaw21_Memory) => (x.Mem, x.Bad, ())
  | .sMicro => fun (x : M.Micro) => (x.At, x.Words, x.Inst, ())
  | .sBlock => fun (x : M.Block) => (x.Start, x.Code, ())
  | .sCpu => fun (x : M.Cpu) => (x.R, x.SP, x.PC, x.PSW, ())
  | .sPage => fun (x : M.Page) => (x.Base, x.Length, x.Access, x.Written, ())
  | .sMmu => fun (x : M.Mmu) => (x.On, x.Pages, x.Status, x.Addr, ())
  | .sClock => fun (x : M.Clock) => (x.Enable, x.Ready, x.Period, x.Left, ())
  | .sLine => fun (x : M.Line) => (x.RxEnable, x.RxReady, x.Overrun, x.RxData, x.TxEnable, x.TxReady, x.TxData, x.TxLeft, x.Out, ())
  | .sDrive => fun (x : M.Drive) => (x.Sectors, x.Bad, ())
  | .sDisk => fun (x : M.Disk) => (x.Drive, x.Enable, x.Ready, x.Error, x.Command, x.Words, x.Addr, x.Start, x.Left, ())
  | .sTape => fun (x : M.Tape) => (x.Records, x.Pos, x.Enable, x.Ready, x.Error, x.Mark, x.End, x.Command, x.Count, x.Addr, x.Left, ())
  | .sMachine => fun (x : M.Machine) => (x.Cpu, x.Mem, x.Bad, x.Mmu, x.Clock, x.Lines, x.Disk, x.Tape, x.Now, x.Halted, x.Waiting, x.Power, x.PowerTrap, ())
  | .sCache => fun (x : M.Cache) => (x.Blocks, x.Made, x.Used, x.Dropped, ())
  | .sEmulatorlaw21_Change => fun (x : M.Emulatorlaw21_Change) => (x.At, x.V, ())
  | .sInst_form => fun (x : M.Inst_form) => (x.first, x.bits, x.op, x.shape, x.bytes, ())

def ofH : (s : SId) → HL (tys s) → SDen s
  | .sOperand => fun (a0, a1, a2, _) => (⟨a0, a1, a2⟩ : M.Operand)
  | .sInst => fun (a0, a1, a2, a3, a4, a5, _) => (⟨a0, a1, a2, a3, a4, a5⟩ : M.Inst)
  | .sEmulatorlaw21_Memory => fun (a0, a1, _) => (⟨a0, a1⟩ : M.Emulatorlaw21_Memory)
  | .sMicro => fun (a0, a1, a2, _) => (⟨a0, a1, a2⟩ : M.Micro)
  | .sBlock => fun (a0, a1, _) => (⟨a0, a1⟩ : M.Block)
  | .sCpu => fun (a0, a1, a2, a3, _) => (⟨a0, a1, a2, a3⟩ : M.Cpu)
  | .sPage => fun (a0, a1, a2, a3, _) => (⟨a0, a1, a2, a3⟩ : M.Page)
  | .sMmu => fun (a0, a1, a2, a3, _) => (⟨a0, a1, a2, a3⟩ : M.Mmu)
  | .sClock => fun (a0, a1, a2, a3, _) => (⟨a0, a1, a2, a3⟩ : M.Clock)
  | .sLine => fun (a0, a1, a2, a3, a4, a5, a6, a7, a8, _) => (⟨a0, a1, a2, a3, a4, a5, a6, a7, a8⟩ : M.Line)
  | .sDrive => fun (a0, a1, _) => (⟨a0, a1⟩ : M.Drive)
  | .sDisk => fun (a0, a1, a2, a3, a4, a5, a6, a7, a8, _) => (⟨a0, a1, a2, a3, a4, a5, a6, a7, a8⟩ : M.Disk)
  | .sTape => fun (a0, a1, a2, a3, a4, a5, a6, a7, a8, a9, a10, _) => (⟨a0, a1, a2, a3, a4, a5, a6, a7, a8, a9, a10⟩ : M.Tape)
  | .sMachine => fun (a0, a1, a2, a3, a4, a5, a6, a7, a8, a9, a10, a11, a12, _) => (⟨a0, a1, a2, a3, a4, a5, a6, a7, a8, a9, a10, a11, a12⟩ : M.Machine)
  | .sCache => fun (a0, a1, a2, a3, _) => (⟨a0, a1, a2, a3⟩ : M.Cache)
  | .sEmulatorlaw21_Change => fun (a0, a1, _) => (⟨a0, a1⟩ : M.Emulatorlaw21_Change)
  | .sInst_form => fun (a0, a1, a2, a3, a4, _) => (⟨a0, a1, a2, a3, a4⟩ : M.Inst_form)

theorem toH_ofH : ∀ (s : SId) (h : HL (tys s)), toH s (ofH s h) = h := by
  intro s h
  cases s <;> rfl
theorem ofH_toH : ∀ (s : SId) (x : SDen s), ofH s (toH s x) = x := by
  intro s x
  cases s <;> rfl

def sdflt : (s : SId) → SDen s
  | .sOperand => M.Operand.zero
  | .sInst => M.Inst.zero
  | .sEmulatorlaw21_Memory => M.Emulatorlaw21_Memory.zero
  | .sMicro => M.Micro.zero
  | .sBlock => M.Block.zero
  | .sCpu => M.Cpu.zero
  | .sPage => M.Page.zero
  | .sMmu => M.Mmu.zero
  | .sClock => M.Clock.zero
  | .sLine => M.Line.zero
  | .sDrive => M.Drive.zero
  | .sDisk => M.Disk.zero
  | .sTape => M.Tape.zero
  | .sMachine => M.Machine.zero
  | .sCache => M.Cache.zero
  | .sEmulatorlaw21_Change => M.Emulatorlaw21_Change.zero
  | .sInst_form => M.Inst_form.zero

def dflt : (c : Ty) → den c
  | .int _ => (0 : Int)
  | .bool => false
  | .str => ByteArray.empty
  | .sl _ => []
  | .arr n c => Vector.replicate n (dflt c)
  | .st s => sdflt s

def hdflt : (cs : List Ty) → HL cs
  | [] => ()
  | c :: cs => (dflt c, hdflt cs)
theorem toH_dflt : ∀ s : SId, toH s (sdflt s) = hdflt (tys s) := by
  intro s
  cases s <;> rfl

instance sdec : (s : SId) → DecidableEq (SDen s)
  | .sOperand => inferInstanceAs (DecidableEq M.Operand)
  | .sInst => inferInstanceAs (DecidableEq M.Inst)
  | .sEmulatorlaw21_Memory => inferInstanceAs (DecidableEq M.Emulatorlaw21_Memory)
  | .sMicro => inferInstanceAs (DecidableEq M.Micro)
  | .sBlock => inferInstanceAs (DecidableEq M.Block)
  | .sCpu => inferInstanceAs (DecidableEq M.Cpu)
  | .sPage => inferInstanceAs (DecidableEq M.Page)
  | .sMmu => inferInstanceAs (DecidableEq M.Mmu)
  | .sClock => inferInstanceAs (DecidableEq M.Clock)
  | .sLine => inferInstanceAs (DecidableEq M.Line)
  | .sDrive => inferInstanceAs (DecidableEq M.Drive)
  | .sDisk => inferInstanceAs (DecidableEq M.Disk)
  | .sTape => inferInstanceAs (DecidableEq M.Tape)
  | .sMachine => inferInstanceAs (DecidableEq M.Machine)
  | .sCache => inferInstanceAs (DecidableEq M.Cache)
  | .sEmulatorlaw21_Change => inferInstanceAs (DecidableEq M.Emulatorlaw21_Change)
  | .sInst_form => inferInstanceAs (DecidableEq M.Inst_form)

end Ab
end Go.Proofs.Ytnonimnhninafaa
