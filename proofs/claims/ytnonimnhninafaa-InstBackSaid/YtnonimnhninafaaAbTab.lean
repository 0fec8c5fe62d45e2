/- The types of the translation, as the calculus knows them; by a program of the session (gentab.py). -/
import Derived.Test.YtnonimnhninafaaAbChk
import Derived.Test.YtnonimnhninafaaChecked
namespace Go.Proofs.Ytnonimnhninafaa.Ab
open Go

def z1 : Tr := .nilf
def z2 : Tr := .int .i64 0
def z3 : Tr := .int .i64 0
def z4 : Tr := .bool false
def z5 : Tr := .int .u8 0
def z6 : Tr := .int .u8 0
def z9 : Tr := .str ByteArray.empty
def z10 : Tr := .str ByteArray.empty
def z11 : Tr := .str ByteArray.empty
def z12 : Tr := .int .u64 0
def z15 : Tr := .nilp
def z16 : Tr := .nilp
def z17 : Tr := .nilp
def z21 : Tr := .int .i32 0
def z22 : Tr := .nils
def z23 : Tr := .nilf
def z24 : Tr := .int .i64 0
def z25 : Tr := .node 3 [0, 1, 2] [z3, z3, z3]
def z26 : Tr := .node 3 [0, 1, 2] [z3, z3, z3]
def z27 : Tr := .node 10 [0, 1, 2, 5, 8, 9] [z24, z4, z26, z26, z3, z3]
def z28 : Tr := .node 10 [0, 1, 2, 5, 8, 9] [z24, z4, z26, z26, z3, z3]
def z30 : Tr := .nilf
def z31 : Tr := .nilf
def z32 : Tr := .int .i64 0
def z34 : Tr := .nilf
def z35 : Tr := .nilf
def z36 : Tr := .nilf
def z37 : Tr := .nilf
def z38 : Tr := .int .u16 0
def z39 : Tr := .nilf
def z40 : Tr := .nilf
def z41 : Tr := .nilf
def z42 : Tr := .node 2 [0, 1] [z22, z22]
def z43 : Tr := .node 2 [0, 1] [z22, z22]
def z44 : Tr := .nilf
def z45 : Tr := .nils
def z46 : Tr := .node 2 [0, 1] [z3, z45]
def z47 : Tr := .node 2 [0, 1] [z3, z45]
def z48 : Tr := .nilf
def z49 : Tr := .arr 1 (List.replicate 6 z3)
def z50 : Tr := .arr 1 (List.replicate 2 z3)
def z51 : Tr := .node 10 [0, 6, 8, 9] [z49, z50, z3, z3]
def z52 : Tr := .node 10 [0, 6, 8, 9] [z49, z50, z3, z3]
def z53 : Tr := .node 4 [0, 1, 2, 3] [z3, z3, z3, z4]
def z54 : Tr := .node 4 [0, 1, 2, 3] [z3, z3, z3, z4]
def z55 : Tr := .arr 4 (List.replicate 8 z54)
def z56 : Tr := .arr 32 (List.replicate 2 z55)
def z57 : Tr := .node 67 [0, 1, 65, 66] [z4, z56, z3, z3]
def z58 : Tr := .node 67 [0, 1, 65, 66] [z4, z56, z3, z3]
def z59 : Tr := .node 4 [0, 1, 2, 3] [z4, z4, z3, z3]
def z60 : Tr := .node 4 [0, 1, 2, 3] [z4, z4, z3, z3]
def z61 : Tr := .nils
def z62 : Tr := .nils
def z63 : Tr := .node 2 [0, 1] [z62, z22]
def z64 : Tr := .node 2 [0, 1] [z62, z22]
def z65 : Tr := .node 10 [0, 2, 3, 4, 5, 6, 7, 8, 9] [z64, z4, z4, z4, z3, z3, z3, z3, z3]
def z66 : Tr := .node 10 [0, 2, 3, 4, 5, 6, 7, 8, 9] [z64, z4, z4, z4, z3, z3, z3, z3, z3]
def z67 : Tr := .node 11 [0, 1, 2, 3, 4, 5, 6, 7, 8, 9, 10] [z62, z3, z4, z4, z4, z4, z4, z3, z3, z3, z3]
def z68 : Tr := .node 11 [0, 1, 2, 3, 4, 5, 6, 7, 8, 9, 10] [z62, z3, z4, z4, z4, z4, z4, z3, z3, z3, z3]
def z69 : Tr := .node 110 [0, 10, 11, 12, 79, 83, 84, 94, 105, 106, 107, 108, 109] [z52, z22, z22, z58, z60, z61, z66, z68, z3, z4, z4, z3, z4]
def z70 : Tr := .node 110 [0, 10, 11, 12, 79, 83, 84, 94, 105, 106, 107, 108, 109] [z52, z22, z22, z58, z60, z61, z66, z68, z3, z4, z4, z3, z4]
def z71 : Tr := .nilf
def z72 : Tr := .nilf
def z73 : Tr := .node 12 [0, 1, 2] [z3, z22, z28]
def z74 : Tr := .node 12 [0, 1, 2] [z3, z22, z28]
def z75 : Tr := .nilf
def z76 : Tr := .nilf
def z77 : Tr := .nilf
def z78 : Tr := .nils
def z79 : Tr := .node 4 [0, 1, 2, 3] [z78, z3, z3, z3]
def z80 : Tr := .node 4 [0, 1, 2, 3] [z78, z3, z3, z3]
def z81 : Tr := .nilf
def z82 : Tr := .nilf
def z83 : Tr := .nilf
def z84 : Tr := .nilf
def z86 : Tr := .nilf
def z87 : Tr := .nilf
def z88 : Tr := .nilf
def z89 : Tr := .nilf
def z90 : Tr := .nilf
def z91 : Tr := .nilf
def z92 : Tr := .nilf
def z93 : Tr := .nils
def z94 : Tr := .nils
def z95 : Tr := .nils
def z96 : Tr := .node 2 [0, 1] [z38, z38]
def z97 : Tr := .node 2 [0, 1] [z38, z38]
def z98 : Tr := .nilf
def z99 : Tr := .nilf
def z100 : Tr := .int .i64 0
def z101 : Tr := .node 5 [0, 1, 2, 3, 4] [z3, z3, z24, z100, z4]
def z102 : Tr := .node 5 [0, 1, 2, 3, 4] [z3, z3, z24, z100, z4]
def z104 : Tr := .nilf
def z105 : Tr := .nilf
def z106 : Tr := .nilp
def z107 : Tr := .nils
def z108 : Tr := .nilf
def z109 : Tr := .nilf
def z110 : Tr := .nilf
def z112 : Tr := .nilf
def z113 : Tr := .nilf
def z114 : Tr := .nilf
def z115 : Tr := .nilf
def z116 : Tr := .nilf
def z117 : Tr := .nilf
def z118 : Tr := .nilf
def z119 : Tr := .nilf
def z120 : Tr := .nilf
def z121 : Tr := .nilf
def z123 : Tr := .nilf
def z124 : Tr := .nilf
def z125 : Tr := .nilf
def z126 : Tr := .nilf
def z127 : Tr := .nilf
def z128 : Tr := .arr 5 (List.replicate 56 z102)
def z129 : Tr := .nilf
def z130 : Tr := .int .u64 0
def z131 : Tr := .nilf
def z132 : Tr := .int .i8 0
def z133 : Tr := .nilf
def z134 : Tr := .nilf
def z135 : Tr := .nils
def z136 : Tr := .nilf
def z137 : Tr := .nilf
def z138 : Tr := .nilf
def z139 : Tr := .nilf
def z140 : Tr := .nilf
def z143 : Tr := .arr 1 (List.replicate 0 z16)
def z146 : Tr := .nilf
def z147 : Tr := .int .u32 0
def z148 : Tr := .int .u8 0
def z149 : Tr := .int .u8 0
def z150 : Tr := .nilf
def z151 : Tr := .nilp
def z152 : Tr := .int .i32 0
def z153 : Tr := .int .i32 0
def z156 : Tr := .node 9 [0, 1, 2, 3, 4, 5, 6, 7, 8] [z4, z4, z4, z3, z4, z4, z3, z3, z9]
def z157 : Tr := .node 9 [0, 1, 2, 3, 4, 5, 6, 7, 8] [z4, z4, z4, z3, z4, z4, z3, z3, z9]

def Θ : Tab := fun t => match t with
  | 0 => some ⟨.tuple, 1, 0, .any⟩
  | 1 => some ⟨.func, 1, 8, z1⟩
  | 2 => some ⟨.int .i64, 1, 8, z2⟩
  | 3 => some ⟨.int .i64, 1, 8, z3⟩
  | 4 => some ⟨.bool, 1, 1, z4⟩
  | 5 => some ⟨.int .u8, 1, 1, z5⟩
  | 6 => some ⟨.int .u8, 1, 1, z6⟩
  | 9 => some ⟨.str, 1, 16, z9⟩
  | 10 => some ⟨.str, 1, 16, z10⟩
  | 11 => some ⟨.str, 1, 16, z11⟩
  | 12 => some ⟨.int .u64, 1, 8, z12⟩
  | 15 => some ⟨.ptr 142, 1, 8, z15⟩
  | 16 => some ⟨.ptr 145, 1, 8, z16⟩
  | 17 => some ⟨.ptr 155, 1, 8, z17⟩
  | 20 => some ⟨.other, 1, 16, .any⟩
  | 21 => some ⟨.int .i32, 1, 4, z21⟩
  | 22 => some ⟨.slice 3, 1, 24, z22⟩
  | 23 => some ⟨.func, 1, 8, z23⟩
  | 24 => some ⟨.int .i64, 1, 8, z24⟩
  | 25 => some ⟨.struct [0, 1, 2] [3, 3, 3], 3, 24, z25⟩
  | 26 => some ⟨.struct [0, 1, 2] [3, 3, 3], 3, 24, z26⟩
  | 27 => some ⟨.struct [0, 1, 2, 5, 8, 9] [24, 4, 26, 26, 3, 3], 10, 80, z27⟩
  | 28 => some ⟨.struct [0, 1, 2, 5, 8, 9] [24, 4, 26, 26, 3, 3], 10, 80, z28⟩
  | 29 => some ⟨.tuple, 1, 0, .any⟩
  | 30 => some ⟨.func, 1, 8, z30⟩
  | 31 => some ⟨.func, 1, 8, z31⟩
  | 32 => some ⟨.int .i64, 1, 8, z32⟩
  | 33 => some ⟨.tuple, 1, 0, .any⟩
  | 34 => some ⟨.func, 1, 8, z34⟩
  | 35 => some ⟨.func, 1, 8, z35⟩
  | 36 => some ⟨.func, 1, 8, z36⟩
  | 37 => some ⟨.func, 1, 8, z37⟩
  | 38 => some ⟨.int .u16, 1, 2, z38⟩
  | 39 => some ⟨.func, 1, 8, z39⟩
  | 40 => some ⟨.func, 1, 8, z40⟩
  | 41 => some ⟨.func, 1, 8, z41⟩
  | 42 => some ⟨.struct [0, 1] [22, 22], 2, 48, z42⟩
  | 43 => some ⟨.struct [0, 1] [22, 22], 2, 48, z43⟩
  | 44 => some ⟨.func, 1, 8, z44⟩
  | 45 => some ⟨.slice 74, 1, 24, z45⟩
  | 46 => some ⟨.struct [0, 1] [3, 45], 2, 32, z46⟩
  | 47 => some ⟨.struct [0, 1] [3, 45], 2, 32, z47⟩
  | 48 => some ⟨.func, 1, 8, z48⟩
  | 49 => some ⟨.array 6 3, 6, 48, z49⟩
  | 50 => some ⟨.array 2 3, 2, 16, z50⟩
  | 51 => some ⟨.struct [0, 6, 8, 9] [49, 50, 3, 3], 10, 80, z51⟩
  | 52 => some ⟨.struct [0, 6, 8, 9] [49, 50, 3, 3], 10, 80, z52⟩
  | 53 => some ⟨.struct [0, 1, 2, 3] [3, 3, 3, 4], 4, 32, z53⟩
  | 54 => some ⟨.struct [0, 1, 2, 3] [3, 3, 3, 4], 4, 32, z54⟩
  | 55 => some ⟨.array 8 54, 32, 256, z55⟩
  | 56 => some ⟨.array 2 55, 64, 512, z56⟩
  | 57 => some ⟨.struct [0, 1, 65, 66] [4, 56, 3, 3], 67, 536, z57⟩
  | 58 => some ⟨.struct [0, 1, 65, 66] [4, 56, 3, 3], 67, 536, z58⟩
  | 59 => some ⟨.struct [0, 1, 2, 3] [4, 4, 3, 3], 4, 24, z59⟩
  | 60 => some ⟨.struct [0, 1, 2, 3] [4, 4, 3, 3], 4, 24, z60⟩
  | 61 => some ⟨.slice 157, 1, 24, z61⟩
  | 62 => some ⟨.slice 9, 1, 24, z62⟩
  | 63 => some ⟨.struct [0, 1] [62, 22], 2, 48, z63⟩
  | 64 => some ⟨.struct [0, 1] [62, 22], 2, 48, z64⟩
  | 65 => some ⟨.struct [0, 2, 3, 4, 5, 6, 7, 8, 9] [64, 4, 4, 4, 3, 3, 3, 3, 3], 10, 96, z65⟩
  | 66 => some ⟨.struct [0, 2, 3, 4, 5, 6, 7, 8, 9] [64, 4, 4, 4, 3, 3, 3, 3, 3], 10, 96, z66⟩
  | 67 => some ⟨.struct [0, 1, 2, 3, 4, 5, 6, 7, 8, 9, 10] [62, 3, 4, 4, 4, 4, 4, 3, 3, 3, 3], 11, 72, z67⟩
  | 68 => some ⟨.struct [0, 1, 2, 3, 4, 5, 6, 7, 8, 9, 10] [62, 3, 4, 4, 4, 4, 4, 3, 3, 3, 3], 11, 72, z68⟩
  | 69 => some ⟨.struct [0, 10, 11, 12, 79, 83, 84, 94, 105, 106, 107, 108, 109] [52, 22, 22, 58, 60, 61, 66, 68, 3, 4, 4, 3, 4], 110, 912, z69⟩
  | 70 => some ⟨.struct [0, 10, 11, 12, 79, 83, 84, 94, 105, 106, 107, 108, 109] [52, 22, 22, 58, 60, 61, 66, 68, 3, 4, 4, 3, 4], 110, 912, z70⟩
  | 71 => some ⟨.func, 1, 8, z71⟩
  | 72 => some ⟨.func, 1, 8, z72⟩
  | 73 => some ⟨.struct [0, 1, 2] [3, 22, 28], 12, 112, z73⟩
  | 74 => some ⟨.struct [0, 1, 2] [3, 22, 28], 12, 112, z74⟩
  | 75 => some ⟨.func, 1, 8, z75⟩
  | 76 => some ⟨.func, 1, 8, z76⟩
  | 77 => some ⟨.func, 1, 8, z77⟩
  | 78 => some ⟨.slice 47, 1, 24, z78⟩
  | 79 => some ⟨.struct [0, 1, 2, 3] [78, 3, 3, 3], 4, 48, z79⟩
  | 80 => some ⟨.struct [0, 1, 2, 3] [78, 3, 3, 3], 4, 48, z80⟩
  | 81 => some ⟨.func, 1, 8, z81⟩
  | 82 => some ⟨.func, 1, 8, z82⟩
  | 83 => some ⟨.func, 1, 8, z83⟩
  | 84 => some ⟨.func, 1, 8, z84⟩
  | 85 => some ⟨.tuple, 1, 0, .any⟩
  | 86 => some ⟨.func, 1, 8, z86⟩
  | 87 => some ⟨.func, 1, 8, z87⟩
  | 88 => some ⟨.func, 1, 8, z88⟩
  | 89 => some ⟨.func, 1, 8, z89⟩
  | 90 => some ⟨.func, 1, 8, z90⟩
  | 91 => some ⟨.func, 1, 8, z91⟩
  | 92 => some ⟨.func, 1, 8, z92⟩
  | 93 => some ⟨.slice 38, 1, 24, z93⟩
  | 94 => some ⟨.slice 97, 1, 24, z94⟩
  | 95 => some ⟨.slice 4, 1, 24, z95⟩
  | 96 => some ⟨.struct [0, 1] [38, 38], 2, 4, z96⟩
  | 97 => some ⟨.struct [0, 1] [38, 38], 2, 4, z97⟩
  | 98 => some ⟨.func, 1, 8, z98⟩
  | 99 => some ⟨.func, 1, 8, z99⟩
  | 100 => some ⟨.int .i64, 1, 8, z100⟩
  | 101 => some ⟨.struct [0, 1, 2, 3, 4] [3, 3, 24, 100, 4], 5, 40, z101⟩
  | 102 => some ⟨.struct [0, 1, 2, 3, 4] [3, 3, 24, 100, 4], 5, 40, z102⟩
  | 103 => some ⟨.tuple, 1, 0, .any⟩
  | 104 => some ⟨.func, 1, 8, z104⟩
  | 105 => some ⟨.func, 1, 8, z105⟩
  | 106 => some ⟨.ptr 26, 1, 8, z106⟩
  | 107 => some ⟨.slice 106, 1, 24, z107⟩
  | 108 => some ⟨.func, 1, 8, z108⟩
  | 109 => some ⟨.func, 1, 8, z109⟩
  | 110 => some ⟨.func, 1, 8, z110⟩
  | 111 => some ⟨.tuple, 1, 0, .any⟩
  | 112 => some ⟨.func, 1, 8, z112⟩
  | 113 => some ⟨.func, 1, 8, z113⟩
  | 114 => some ⟨.func, 1, 8, z114⟩
  | 115 => some ⟨.func, 1, 8, z115⟩
  | 116 => some ⟨.func, 1, 8, z116⟩
  | 117 => some ⟨.func, 1, 8, z117⟩
  | 118 => some ⟨.func, 1, 8, z118⟩
  | 119 => some ⟨.func, 1, 8, z119⟩
  | 120 => some ⟨.func, 1, 8, z120⟩
  | 121 => some ⟨.func, 1, 8, z121⟩
  | 122 => some ⟨.tuple, 1, 0, .any⟩
  | 123 => some ⟨.func, 1, 8, z123⟩
  | 124 => some ⟨.func, 1, 8, z124⟩
  | 125 => some ⟨.func, 1, 8, z125⟩
  | 126 => some ⟨.func, 1, 8, z126⟩
  | 127 => some ⟨.func, 1, 8, z127⟩
  | 128 => some ⟨.array 56 102, 280, 2240, z128⟩
  | 129 => some ⟨.func, 1, 8, z129⟩
  | 130 => some ⟨.int .u64, 1, 8, z130⟩
  | 131 => some ⟨.func, 1, 8, z131⟩
  | 132 => some ⟨.int .i8, 1, 1, z132⟩
  | 133 => some ⟨.func, 1, 8, z133⟩
  | 134 => some ⟨.func, 1, 8, z134⟩
  | 135 => some ⟨.slice 26, 1, 24, z135⟩
  | 136 => some ⟨.func, 1, 8, z136⟩
  | 137 => some ⟨.func, 1, 8, z137⟩
  | 138 => some ⟨.func, 1, 8, z138⟩
  | 139 => some ⟨.func, 1, 8, z139⟩
  | 140 => some ⟨.func, 1, 8, z140⟩
  | 143 => some ⟨.array 0 16, 0, 0, z143⟩
  | 146 => some ⟨.func, 1, 8, z146⟩
  | 147 => some ⟨.int .u32, 1, 4, z147⟩
  | 148 => some ⟨.int .u8, 1, 1, z148⟩
  | 149 => some ⟨.int .u8, 1, 1, z149⟩
  | 150 => some ⟨.func, 1, 8, z150⟩
  | 151 => some ⟨.ptr 5, 1, 8, z151⟩
  | 152 => some ⟨.int .i32, 1, 4, z152⟩
  | 153 => some ⟨.int .i32, 1, 4, z153⟩
  | 156 => some ⟨.struct [0, 1, 2, 3, 4, 5, 6, 7, 8] [4, 4, 4, 3, 4, 4, 3, 3, 9], 9, 56, z156⟩
  | 157 => some ⟨.struct [0, 1, 2, 3, 4, 5, 6, 7, 8] [4, 4, 4, 3, 4, 4, 3, 3, 9], 9, 56, z157⟩
  | 158 => some ⟨.other, 1, 8, .any⟩
  | _ => none

@[go_sem] theorem th0 : Θ 0 = some ⟨.tuple, 1, 0, .any⟩ := rfl
@[go_sem] theorem th1 : Θ 1 = some ⟨.func, 1, 8, z1⟩ := rfl
@[go_sem] theorem z1_good : z1.good = true := by kernel_rfl
@[go_sem] theorem z1_size : z1.size = 1 := by kernel_rfl
@[go_sem] theorem z1_agg : z1.isAgg = false := rfl
attribute [go_sem] z1
@[go_sem] theorem th2 : Θ 2 = some ⟨.int .i64, 1, 8, z2⟩ := rfl
@[go_sem] theorem z2_good : z2.good = true := by kernel_rfl
@[go_sem] theorem z2_size : z2.size = 1 := by kernel_rfl
@[go_sem] theorem z2_agg : z2.isAgg = false := rfl
attribute [go_sem] z2
@[go_sem] theorem th3 : Θ 3 = some ⟨.int .i64, 1, 8, z3⟩ := rfl
@[go_sem] theorem z3_good : z3.good = true := by kernel_rfl
@[go_sem] theorem z3_size : z3.size = 1 := by kernel_rfl
@[go_sem] theorem z3_agg : z3.isAgg = false := rfl
attribute [go_sem] z3
@[go_sem] theorem th4 : Θ 4 = some ⟨.bool, 1, 1, z4⟩ := rfl
@[go_sem] theorem z4_good : z4.good = true := by kernel_rfl
@[go_sem] theorem z4_size : z4.size = 1 := by kernel_rfl
@[go_sem] theorem z4_agg : z4.isAgg = false := rfl
attribute [go_sem] z4
@[go_sem] theorem th5 : Θ 5 = some ⟨.int .u8, 1, 1, z5⟩ := rfl
@[go_sem] theorem z5_good : z5.good = true := by kernel_rfl
@[go_sem] theorem z5_size : z5.size = 1 := by kernel_rfl
@[go_sem] theorem z5_agg : z5.isAgg = false := rfl
attribute [go_sem] z5
@[go_sem] theorem th6 : Θ 6 = some ⟨.int .u8, 1, 1, z6⟩ := rfl
@[go_sem] theorem z6_good : z6.good = true := by kernel_rfl
@[go_sem] theorem z6_size : z6.size = 1 := by kernel_rfl
@[go_sem] theorem z6_agg : z6.isAgg = false := rfl
attribute [go_sem] z6
@[go_sem] theorem th9 : Θ 9 = some ⟨.str, 1, 16, z9⟩ := rfl
@[go_sem] theorem z9_good : z9.good = true := by kernel_rfl
@[go_sem] theorem z9_size : z9.size = 1 := by kernel_rfl
@[go_sem] theorem z9_agg : z9.isAgg = false := rfl
attribute [go_sem] z9
@[go_sem] theorem th10 : Θ 10 = some ⟨.str, 1, 16, z10⟩ := rfl
@[go_sem] theorem z10_good : z10.good = true := by kernel_rfl
@[go_sem] theorem z10_size : z10.size = 1 := by kernel_rfl
@[go_sem] theorem z10_agg : z10.isAgg = false := rfl
attribute [go_sem] z10
@[go_sem] theorem th11 : Θ 11 = some ⟨.str, 1, 16, z11⟩ := rfl
@[go_sem] theorem z11_good : z11.good = true := by kernel_rfl
@[go_sem] theorem z11_size : z11.size = 1 := by kernel_rfl
@[go_sem] theorem z11_agg : z11.isAgg = false := rfl
attribute [go_sem] z11
@[go_sem] theorem th12 : Θ 12 = some ⟨.int .u64, 1, 8, z12⟩ := rfl
@[go_sem] theorem z12_good : z12.good = true := by kernel_rfl
@[go_sem] theorem z12_size : z12.size = 1 := by kernel_rfl
@[go_sem] theorem z12_agg : z12.isAgg = false := rfl
attribute [go_sem] z12
@[go_sem] theorem th15 : Θ 15 = some ⟨.ptr 142, 1, 8, z15⟩ := rfl
@[go_sem] theorem z15_good : z15.good = true := by kernel_rfl
@[go_sem] theorem z15_size : z15.size = 1 := by kernel_rfl
@[go_sem] theorem z15_agg : z15.isAgg = false := rfl
attribute [go_sem] z15
@[go_sem] theorem th16 : Θ 16 = some ⟨.ptr 145, 1, 8, z16⟩ := rfl
@[go_sem] theorem z16_good : z16.good = true := by kernel_rfl
@[go_sem] theorem z16_size : z16.size = 1 := by kernel_rfl
@[go_sem] theorem z16_agg : z16.isAgg = false := rfl
attribute [go_sem] z16
@[go_sem] theorem th17 : Θ 17 = some ⟨.ptr 155, 1, 8, z17⟩ := rfl
@[go_sem] theorem z17_good : z17.good = true := by kernel_rfl
@[go_sem] theorem z17_size : z17.size = 1 := by kernel_rfl
@[go_sem] theorem z17_agg : z17.isAgg = false := rfl
attribute [go_sem] z17
@[go_sem] theorem th20 : Θ 20 = some ⟨.other, 1, 16, .any⟩ := rfl
@[go_sem] theorem th21 : Θ 21 = some ⟨.int .i32, 1, 4, z21⟩ := rfl
@[go_sem] theorem z21_good : z21.good = true := by kernel_rfl
@[go_sem] theorem z21_size : z21.size = 1 := by kernel_rfl
@[go_sem] theorem z21_agg : z21.isAgg = false := rfl
attribute [go_sem] z21
@[go_sem] theorem th22 : Θ 22 = some ⟨.slice 3, 1, 24, z22⟩ := rfl
@[go_sem] theorem z22_good : z22.good = true := by kernel_rfl
@[go_sem] theorem z22_size : z22.size = 1 := by kernel_rfl
@[go_sem] theorem z22_agg : z22.isAgg = false := rfl
attribute [go_sem] z22
@[go_sem] theorem th23 : Θ 23 = some ⟨.func, 1, 8, z23⟩ := rfl
@[go_sem] theorem z23_good : z23.good = true := by kernel_rfl
@[go_sem] theorem z23_size : z23.size = 1 := by kernel_rfl
@[go_sem] theorem z23_agg : z23.isAgg = false := rfl
attribute [go_sem] z23
@[go_sem] theorem th24 : Θ 24 = some ⟨.int .i64, 1, 8, z24⟩ := rfl
@[go_sem] theorem z24_good : z24.good = true := by kernel_rfl
@[go_sem] theorem z24_size : z24.size = 1 := by kernel_rfl
@[go_sem] theorem z24_agg : z24.isAgg = false := rfl
attribute [go_sem] z24
@[go_sem] theorem th25 : Θ 25 = some ⟨.struct [0, 1, 2] [3, 3, 3], 3, 24, z25⟩ := rfl
@[go_sem] theorem z25_good : z25.good = true := by kernel_rfl
@[go_sem] theorem z25_size : z25.size = 3 := by kernel_rfl
@[go_sem] theorem z25_agg : z25.isAgg = true := rfl
attribute [go_sem] z25
@[go_sem] theorem th26 : Θ 26 = some ⟨.struct [0, 1, 2] [3, 3, 3], 3, 24, z26⟩ := rfl
@[go_sem] theorem z26_good : z26.good = true := by kernel_rfl
@[go_sem] theorem z26_size : z26.size = 3 := by kernel_rfl
@[go_sem] theorem z26_agg : z26.isAgg = true := rfl
attribute [go_sem] z26
@[go_sem] theorem th27 : Θ 27 = some ⟨.struct [0, 1, 2, 5, 8, 9] [24, 4, 26, 26, 3, 3], 10, 80, z27⟩ := rfl
@[go_sem] theorem z27_good : z27.good = true := by kernel_rfl
@[go_sem] theorem z27_size : z27.size = 10 := by kernel_rfl
@[go_sem] theorem z27_agg : z27.isAgg = true := rfl
attribute [go_sem] z27
@[go_sem] theorem th28 : Θ 28 = some ⟨.struct [0, 1, 2, 5, 8, 9] [24, 4, 26, 26, 3, 3], 10, 80, z28⟩ := rfl
@[go_sem] theorem z28_good : z28.good = true := by kernel_rfl
@[go_sem] theorem z28_size : z28.size = 10 := by kernel_rfl
@[go_sem] theorem z28_agg : z28.isAgg = true := rfl
attribute [go_sem] z28
@[go_sem] theorem th29 : Θ 29 = some ⟨.tuple, 1, 0, .any⟩ := rfl
@[go_sem] theorem th30 : Θ 30 = some ⟨.func, 1, 8, z30⟩ := rfl
@[go_sem] theorem z30_good : z30.good = true := by kernel_rfl
@[go_sem] theorem z30_size : z30.size = 1 := by kernel_rfl
@[go_sem] theorem z30_agg : z30.isAgg = false := rfl
attribute [go_sem] z30
@[go_sem] theorem th31 : Θ 31 = some ⟨.func, 1, 8, z31⟩ := rfl
@[go_sem] theorem z31_good : z31.good = true := by kernel_rfl
@[go_sem] theorem z31_size : z31.size = 1 := by kernel_rfl
@[go_sem] theorem z31_agg : z31.isAgg = false := rfl
attribute [go_sem] z31
@[go_sem] theorem th32 : Θ 32 = some ⟨.int .i64, 1, 8, z32⟩ := rfl
@[go_sem] theorem z32_good : z32.good = true := by kernel_rfl
@[go_sem] theorem z32_size : z32.size = 1 := by kernel_rfl
@[go_sem] theorem z32_agg : z32.isAgg = false := rfl
attribute [go_sem] z32
@[go_sem] theorem th33 : Θ 33 = some ⟨.tuple, 1, 0, .any⟩ := rfl
@[go_sem] theorem th34 : Θ 34 = some ⟨.func, 1, 8, z34⟩ := rfl
@[go_sem] theorem z34_good : z34.good = true := by kernel_rfl
@[go_sem] theorem z34_size : z34.size = 1 := by kernel_rfl
@[go_sem] theorem z34_agg : z34.isAgg = false := rfl
attribute [go_sem] z34
@[go_sem] theorem th35 : Θ 35 = some ⟨.func, 1, 8, z35⟩ := rfl
@[go_sem] theorem z35_good : z35.good = true := by kernel_rfl
@[go_sem] theorem z35_size : z35.size = 1 := by kernel_rfl
@[go_sem] theorem z35_agg : z35.isAgg = false := rfl
attribute [go_sem] z35
@[go_sem] theorem th36 : Θ 36 = some ⟨.func, 1, 8, z36⟩ := rfl
@[go_sem] theorem z36_good : z36.good = true := by kernel_rfl
@[go_sem] theorem z36_size : z36.size = 1 := by kernel_rfl
@[go_sem] theorem z36_agg : z36.isAgg = false := rfl
attribute [go_sem] z36
@[go_sem] theorem th37 : Θ 37 = some ⟨.func, 1, 8, z37⟩ := rfl
@[go_sem] theorem z37_good : z37.good = true := by kernel_rfl
@[go_sem] theorem z37_size : z37.size = 1 := by kernel_rfl
@[go_sem] theorem z37_agg : z37.isAgg = false := rfl
attribute [go_sem] z37
@[go_sem] theorem th38 : Θ 38 = some ⟨.int .u16, 1, 2, z38⟩ := rfl
@[go_sem] theorem z38_good : z38.good = true := by kernel_rfl
@[go_sem] theorem z38_size : z38.size = 1 := by kernel_rfl
@[go_sem] theorem z38_agg : z38.isAgg = false := rfl
attribute [go_sem] z38
@[go_sem] theorem th39 : Θ 39 = some ⟨.func, 1, 8, z39⟩ := rfl
@[go_sem] theorem z39_good : z39.good = true := by kernel_rfl
@[go_sem] theorem z39_size : z39.size = 1 := by kernel_rfl
@[go_sem] theorem z39_agg : z39.isAgg = false := rfl
attribute [go_sem] z39
@[go_sem] theorem th40 : Θ 40 = some ⟨.func, 1, 8, z40⟩ := rfl
@[go_sem] theorem z40_good : z40.good = true := by kernel_rfl
@[go_sem] theorem z40_size : z40.size = 1 := by kernel_rfl
@[go_sem] theorem z40_agg : z40.isAgg = false := rfl
attribute [go_sem] z40
@[go_sem] theorem th41 : Θ 41 = some ⟨.func, 1, 8, z41⟩ := rfl
@[go_sem] theorem z41_good : z41.good = true := by kernel_rfl
@[go_sem] theorem z41_size : z41.size = 1 := by kernel_rfl
@[go_sem] theorem z41_agg : z41.isAgg = false := rfl
attribute [go_sem] z41
@[go_sem] theorem th42 : Θ 42 = some ⟨.struct [0, 1] [22, 22], 2, 48, z42⟩ := rfl
@[go_sem] theorem z42_good : z42.good = true := by kernel_rfl
@[go_sem] theorem z42_size : z42.size = 2 := by kernel_rfl
@[go_sem] theorem z42_agg : z42.isAgg = true := rfl
attribute [go_sem] z42
@[go_sem] theorem th43 : Θ 43 = some ⟨.struct [0, 1] [22, 22], 2, 48, z43⟩ := rfl
@[go_sem] theorem z43_good : z43.good = true := by kernel_rfl
@[go_sem] theorem z43_size : z43.size = 2 := by kernel_rfl
@[go_sem] theorem z43_agg : z43.isAgg = true := rfl
attribute [go_sem] z43
@[go_sem] theorem th44 : Θ 44 = some ⟨.func, 1, 8, z44⟩ := rfl
@[go_sem] theorem z44_good : z44.good = true := by kernel_rfl
@[go_sem] theorem z44_size : z44.size = 1 := by kernel_rfl
@[go_sem] theorem z44_agg : z44.isAgg = false := rfl
attribute [go_sem] z44
@[go_sem] theorem th45 : Θ 45 = some ⟨.slice 74, 1, 24, z45⟩ := rfl
@[go_sem] theorem z45_good : z45.good = true := by kernel_rfl
@[go_sem] theorem z45_size : z45.size = 1 := by kernel_rfl
@[go_sem] theorem z45_agg : z45.isAgg = false := rfl
attribute [go_sem] z45
@[go_sem] theorem th46 : Θ 46 = some ⟨.struct [0, 1] [3, 45], 2, 32, z46⟩ := rfl
@[go_sem] theorem z46_good : z46.good = true := by kernel_rfl
@[go_sem] theorem z46_size : z46.size = 2 := by kernel_rfl
@[go_sem] theorem z46_agg : z46.isAgg = true := rfl
attribute [go_sem] z46
@[go_sem] theorem th47 : Θ 47 = some ⟨.struct [0, 1] [3, 45], 2, 32, z47⟩ := rfl
@[go_sem] theorem z47_good : z47.good = true := by kernel_rfl
@[go_sem] theorem z47_size : z47.size = 2 := by kernel_rfl
@[go_sem] theorem z47_agg : z47.isAgg = true := rfl
attribute [go_sem] z47
@[go_sem] theorem th48 : Θ 48 = some ⟨.func, 1, 8, z48⟩ := rfl
@[go_sem] theorem z48_good : z48.good = true := by kernel_rfl
@[go_sem] theorem z48_size : z48.size = 1 := by kernel_rfl
@[go_sem] theorem z48_agg : z48.isAgg = false := rfl
attribute [go_sem] z48
@[go_sem] theorem th49 : Θ 49 = some ⟨.array 6 3, 6, 48, z49⟩ := rfl
@[go_sem] theorem z49_good : z49.good = true := by kernel_rfl
@[go_sem] theorem z49_size : z49.size = 6 := by kernel_rfl
@[go_sem] theorem z49_agg : z49.isAgg = true := rfl
attribute [go_sem] z49
@[go_sem] theorem th50 : Θ 50 = some ⟨.array 2 3, 2, 16, z50⟩ := rfl
@[go_sem] theorem z50_good : z50.good = true := by kernel_rfl
@[go_sem] theorem z50_size : z50.size = 2 := by kernel_rfl
@[go_sem] theorem z50_agg : z50.isAgg = true := rfl
attribute [go_sem] z50
@[go_sem] theorem th51 : Θ 51 = some ⟨.struct [0, 6, 8, 9] [49, 50, 3, 3], 10, 80, z51⟩ := rfl
@[go_sem] theorem z51_good : z51.good = true := by kernel_rfl
@[go_sem] theorem z51_size : z51.size = 10 := by kernel_rfl
@[go_sem] theorem z51_agg : z51.isAgg = true := rfl
attribute [go_sem] z51
@[go_sem] theorem th52 : Θ 52 = some ⟨.struct [0, 6, 8, 9] [49, 50, 3, 3], 10, 80, z52⟩ := rfl
@[go_sem] theorem z52_good : z52.good = true := by kernel_rfl
@[go_sem] theorem z52_size : z52.size = 10 := by kernel_rfl
@[go_sem] theorem z52_agg : z52.isAgg = true := rfl
attribute [go_sem] z52
@[go_sem] theorem th53 : Θ 53 = some ⟨.struct [0, 1, 2, 3] [3, 3, 3, 4], 4, 32, z53⟩ := rfl
@[go_sem] theorem z53_good : z53.good = true := by kernel_rfl
@[go_sem] theorem z53_size : z53.size = 4 := by kernel_rfl
@[go_sem] theorem z53_agg : z53.isAgg = true := rfl
attribute [go_sem] z53
@[go_sem] theorem th54 : Θ 54 = some ⟨.struct [0, 1, 2, 3] [3, 3, 3, 4], 4, 32, z54⟩ := rfl
@[go_sem] theorem z54_good : z54.good = true := by kernel_rfl
@[go_sem] theorem z54_size : z54.size = 4 := by kernel_rfl
@[go_sem] theorem z54_agg : z54.isAgg = true := rfl
attribute [go_sem] z54
@[go_sem] theorem th55 : Θ 55 = some ⟨.array 8 54, 32, 256, z55⟩ := rfl
@[go_sem] theorem z55_good : z55.good = true := by kernel_rfl
@[go_sem] theorem z55_size : z55.size = 32 := by kernel_rfl
@[go_sem] theorem z55_agg : z55.isAgg = true := rfl
attribute [go_sem] z55
@[go_sem] theorem th56 : Θ 56 = some ⟨.array 2 55, 64, 512, z56⟩ := rfl
@[go_sem] theorem z56_good : z56.good = true := by kernel_rfl
@[go_sem] theorem z56_size : z56.size = 64 := by kernel_rfl
@[go_sem] theorem z56_agg : z56.isAgg = true := rfl
attribute [go_sem] z56
@[go_sem] theorem th57 : Θ 57 = some ⟨.struct [0, 1, 65, 66] [4, 56, 3, 3], 67, 536, z57⟩ := rfl
@[go_sem] theorem z57_good : z57.good = true := by kernel_rfl
@[go_sem] theorem z57_size : z57.size = 67 := by kernel_rfl
@[go_sem] theorem z57_agg : z57.isAgg = true := rfl
attribute [go_sem] z57
@[go_sem] theorem th58 : Θ 58 = some ⟨.struct [0, 1, 65, 66] [4, 56, 3, 3], 67, 536, z58⟩ := rfl
@[go_sem] theorem z58_good : z58.good = true := by kernel_rfl
@[go_sem] theorem z58_size : z58.size = 67 := by kernel_rfl
@[go_sem] theorem z58_agg : z58.isAgg = true := rfl
attribute [go_sem] z58
@[go_sem] theorem th59 : Θ 59 = some ⟨.struct [0, 1, 2, 3] [4, 4, 3, 3], 4, 24, z59⟩ := rfl
@[go_sem] theorem z59_good : z59.good = true := by kernel_rfl
@[go_sem] theorem z59_size : z59.size = 4 := by kernel_rfl
@[go_sem] theorem z59_agg : z59.isAgg = true := rfl
attribute [go_sem] z59
@[go_sem] theorem th60 : Θ 60 = some ⟨.struct [0, 1, 2, 3] [4, 4, 3, 3], 4, 24, z60⟩ := rfl
@[go_sem] theorem z60_good : z60.good = true := by kernel_rfl
@[go_sem] theorem z60_size : z60.size = 4 := by kernel_rfl
@[go_sem] theorem z60_agg : z60.isAgg = true := rfl
attribute [go_sem] z60
@[go_sem] theorem th61 : Θ 61 = some ⟨.slice 157, 1, 24, z61⟩ := rfl
@[go_sem] theorem z61_good : z61.good = true := by kernel_rfl
@[go_sem] theorem z61_size : z61.size = 1 := by kernel_rfl
@[go_sem] theorem z61_agg : z61.isAgg = false := rfl
attribute [go_sem] z61
@[go_sem] theorem th62 : Θ 62 = some ⟨.slice 9, 1, 24, z62⟩ := rfl
@[go_sem] theorem z62_good : z62.good = true := by kernel_rfl
@[go_sem] theorem z62_size : z62.size = 1 := by kernel_rfl
@[go_sem] theorem z62_agg : z62.isAgg = false := rfl
attribute [go_sem] z62
@[go_sem] theorem th63 : Θ 63 = some ⟨.struct [0, 1] [62, 22], 2, 48, z63⟩ := rfl
@[go_sem] theorem z63_good : z63.good = true := by kernel_rfl
@[go_sem] theorem z63_size : z63.size = 2 := by kernel_rfl
@[go_sem] theorem z63_agg : z63.isAgg = true := rfl
attribute [go_sem] z63
@[go_sem] theorem th64 : Θ 64 = some ⟨.struct [0, 1] [62, 22], 2, 48, z64⟩ := rfl
@[go_sem] theorem z64_good : z64.good = true := by kernel_rfl
@[go_sem] theorem z64_size : z64.size = 2 := by kernel_rfl
@[go_sem] theorem z64_agg : z64.isAgg = true := rfl
attribute [go_sem] z64
@[go_sem] theorem th65 : Θ 65 = some ⟨.struct [0, 2, 3, 4, 5, 6, 7, 8, 9] [64, 4, 4, 4, 3, 3, 3, 3, 3], 10, 96, z65⟩ := rfl
@[go_sem] theorem z65_good : z65.good = true := by kernel_rfl
@[go_sem] theorem z65_size : z65.size = 10 := by kernel_rfl
@[go_sem] theorem z65_agg : z65.isAgg = true := rfl
attribute [go_sem] z65
@[go_sem] theorem th66 : Θ 66 = some ⟨.struct [0, 2, 3, 4, 5, 6, 7, 8, 9] [64, 4, 4, 4, 3, 3, 3, 3, 3], 10, 96, z66⟩ := rfl
@[go_sem] theorem z66_good : z66.good = true := by kernel_rfl
@[go_sem] theorem z66_size : z66.size = 10 := by kernel_rfl
@[go_sem] theorem z66_agg : z66.isAgg = true := rfl
attribute [go_sem] z66
@[go_sem] theorem th67 : Θ 67 = some ⟨.struct [0, 1, 2, 3, 4, 5, 6, 7, 8, 9, 10] [62, 3, 4, 4, 4, 4, 4, 3, 3, 3, 3], 11, 72, z67⟩ := rfl
@[go_sem] theorem z67_good : z67.good = true := by kernel_rfl
@[go_sem] theorem z67_size : z67.size = 11 := by kernel_rfl
@[go_sem] theorem z67_agg : z67.isAgg = true := rfl
attribute [go_sem] z67
@[go_sem] theorem th68 : Θ 68 = some ⟨.struct [0, 1, 2, 3, 4, 5, 6, 7, 8, 9, 10] [62, 3, 4, 4, 4, 4, 4, 3, 3, 3, 3], 11, 72, z68⟩ := rfl
@[go_sem] theorem z68_good : z68.good = true := by kernel_rfl
@[go_sem] theorem z68_size : z68.size = 11 := by kernel_rfl
@[go_sem] theorem z68_agg : z68.isAgg = true := rfl
attribute [go_sem] z68
@[go_sem] theorem th69 : Θ 69 = some ⟨.struct [0, 10, 11, 12, 79, 83, 84, 94, 105, 106, 107, 108, 109] [52, 22, 22, 58, 60, 61, 66, 68, 3, 4, 4, 3, 4], 110, 912, z69⟩ := rfl
@[go_sem] theorem z69_good : z69.good = true := by kernel_rfl
@[go_sem] theorem z69_size : z69.size = 110 := by kernel_rfl
@[go_sem] theorem z69_agg : z69.isAgg = true := rfl
attribute [go_sem] z69
@[go_sem] theorem th70 : Θ 70 = some ⟨.struct [0, 10, 11, 12, 79, 83, 84, 94, 105, 106, 107, 108, 109] [52, 22, 22, 58, 60, 61, 66, 68, 3, 4, 4, 3, 4], 110, 912, z70⟩ := rfl
@[go_sem] theorem z70_good : z70.good = true := by kernel_rfl
@[go_sem] theorem z70_size : z70.size = 110 := by kernel_rfl
@[go_sem] theorem z70_agg : z70.isAgg = true := rfl
attribute [go_sem] z70
@[go_sem] theorem th71 : Θ 71 = some ⟨.func, 1, 8, z71⟩ := rfl
@[go_sem] theorem z71_good : z71.good = true := by kernel_rfl
@[go_sem] theorem z71_size : z71.size = 1 := by kernel_rfl
@[go_sem] theorem z71_agg : z71.isAgg = false := rfl
attribute [go_sem] z71
@[go_sem] theorem th72 : Θ 72 = some ⟨.func, 1, 8, z72⟩ := rfl
@[go_sem] theorem z72_good : z72.good = true := by kernel_rfl
@[go_sem] theorem z72_size : z72.size = 1 := by kernel_rfl
@[go_sem] theorem z72_agg : z72.isAgg = false := rfl
attribute [go_sem] z72
@[go_sem] theorem th73 : Θ 73 = some ⟨.struct [0, 1, 2] [3, 22, 28], 12, 112, z73⟩ := rfl
@[go_sem] theorem z73_good : z73.good = true := by kernel_rfl
@[go_sem] theorem z73_size : z73.size = 12 := by kernel_rfl
@[go_sem] theorem z73_agg : z73.isAgg = true := rfl
attribute [go_sem] z73
@[go_sem] theorem th74 : Θ 74 = some ⟨.struct [0, 1, 2] [3, 22, 28], 12, 112, z74⟩ := rfl
@[go_sem] theorem z74_good : z74.good = true := by kernel_rfl
@[go_sem] theorem z74_size : z74.size = 12 := by kernel_rfl
@[go_sem] theorem z74_agg : z74.isAgg = true := rfl
attribute [go_sem] z74
@[go_sem] theorem th75 : Θ 75 = some ⟨.func, 1, 8, z75⟩ := rfl
@[go_sem] theorem z75_good : z75.good = true := by kernel_rfl
@[go_sem] theorem z75_size : z75.size = 1 := by kernel_rfl
@[go_sem] theorem z75_agg : z75.isAgg = false := rfl
attribute [go_sem] z75
@[go_sem] theorem th76 : Θ 76 = some ⟨.func, 1, 8, z76⟩ := rfl
@[go_sem] theorem z76_good : z76.good = true := by kernel_rfl
@[go_sem] theorem z76_size : z76.size = 1 := by kernel_rfl
@[go_sem] theorem z76_agg : z76.isAgg = false := rfl
attribute [go_sem] z76
@[go_sem] theorem th77 : Θ 77 = some ⟨.func, 1, 8, z77⟩ := rfl
@[go_sem] theorem z77_good : z77.good = true := by kernel_rfl
@[go_sem] theorem z77_size : z77.size = 1 := by kernel_rfl
@[go_sem] theorem z77_agg : z77.isAgg = false := rfl
attribute [go_sem] z77
@[go_sem] theorem th78 : Θ 78 = some ⟨.slice 47, 1, 24, z78⟩ := rfl
@[go_sem] theorem z78_good : z78.good = true := by kernel_rfl
@[go_sem] theorem z78_size : z78.size = 1 := by kernel_rfl
@[go_sem] theorem z78_agg : z78.isAgg = false := rfl
attribute [go_sem] z78
@[go_sem] theorem th79 : Θ 79 = some ⟨.struct [0, 1, 2, 3] [78, 3, 3, 3], 4, 48, z79⟩ := rfl
@[go_sem] theorem z79_good : z79.good = true := by kernel_rfl
@[go_sem] theorem z79_size : z79.size = 4 := by kernel_rfl
@[go_sem] theorem z79_agg : z79.isAgg = true := rfl
attribute [go_sem] z79
@[go_sem] theorem th80 : Θ 80 = some ⟨.struct [0, 1, 2, 3] [78, 3, 3, 3], 4, 48, z80⟩ := rfl
@[go_sem] theorem z80_good : z80.good = true := by kernel_rfl
@[go_sem] theorem z80_size : z80.size = 4 := by kernel_rfl
@[go_sem] theorem z80_agg : z80.isAgg = true := rfl
attribute [go_sem] z80
@[go_sem] theorem th81 : Θ 81 = some ⟨.func, 1, 8, z81⟩ := rfl
@[go_sem] theorem z81_good : z81.good = true := by kernel_rfl
@[go_sem] theorem z81_size : z81.size = 1 := by kernel_rfl
@[go_sem] theorem z81_agg : z81.isAgg = false := rfl
attribute [go_sem] z81
@[go_sem] theorem th82 : Θ 82 = some ⟨.func, 1, 8, z82⟩ := rfl
@[go_sem] theorem z82_good : z82.good = true := by kernel_rfl
@[go_sem] theorem z82_size : z82.size = 1 := by kernel_rfl
@[go_sem] theorem z82_agg : z82.isAgg = false := rfl
attribute [go_sem] z82
@[go_sem] theorem th83 : Θ 83 = some ⟨.func, 1, 8, z83⟩ := rfl
@[go_sem] theorem z83_good : z83.good = true := by kernel_rfl
@[go_sem] theorem z83_size : z83.size = 1 := by kernel_rfl
@[go_sem] theorem z83_agg : z83.isAgg = false := rfl
attribute [go_sem] z83
@[go_sem] theorem th84 : Θ 84 = some ⟨.func, 1, 8, z84⟩ := rfl
@[go_sem] theorem z84_good : z84.good = true := by kernel_rfl
@[go_sem] theorem z84_size : z84.size = 1 := by kernel_rfl
@[go_sem] theorem z84_agg : z84.isAgg = false := rfl
attribute [go_sem] z84
@[go_sem] theorem th85 : Θ 85 = some ⟨.tuple, 1, 0, .any⟩ := rfl
@[go_sem] theorem th86 : Θ 86 = some ⟨.func, 1, 8, z86⟩ := rfl
@[go_sem] theorem z86_good : z86.good = true := by kernel_rfl
@[go_sem] theorem z86_size : z86.size = 1 := by kernel_rfl
@[go_sem] theorem z86_agg : z86.isAgg = false := rfl
attribute [go_sem] z86
@[go_sem] theorem th87 : Θ 87 = some ⟨.func, 1, 8, z87⟩ := rfl
@[go_sem] theorem z87_good : z87.good = true := by kernel_rfl
@[go_sem] theorem z87_size : z87.size = 1 := by kernel_rfl
@[go_sem] theorem z87_agg : z87.isAgg = false := rfl
attribute [go_sem] z87
@[go_sem] theorem th88 : Θ 88 = some ⟨.func, 1, 8, z88⟩ := rfl
@[go_sem] theorem z88_good : z88.good = true := by kernel_rfl
@[go_sem] theorem z88_size : z88.size = 1 := by kernel_rfl
@[go_sem] theorem z88_agg : z88.isAgg = false := rfl
attribute [go_sem] z88
@[go_sem] theorem th89 : Θ 89 = some ⟨.func, 1, 8, z89⟩ := rfl
@[go_sem] theorem z89_good : z89.good = true := by kernel_rfl
@[go_sem] theorem z89_size : z89.size = 1 := by kernel_rfl
@[go_sem] theorem z89_agg : z89.isAgg = false := rfl
attribute [go_sem] z89
@[go_sem] theorem th90 : Θ 90 = some ⟨.func, 1, 8, z90⟩ := rfl
@[go_sem] theorem z90_good : z90.good = true := by kernel_rfl
@[go_sem] theorem z90_size : z90.size = 1 := by kernel_rfl
@[go_sem] theorem z90_agg : z90.isAgg = false := rfl
attribute [go_sem] z90
@[go_sem] theorem th91 : Θ 91 = some ⟨.func, 1, 8, z91⟩ := rfl
@[go_sem] theorem z91_good : z91.good = true := by kernel_rfl
@[go_sem] theorem z91_size : z91.size = 1 := by kernel_rfl
@[go_sem] theorem z91_agg : z91.isAgg = false := rfl
attribute [go_sem] z91
@[go_sem] theorem th92 : Θ 92 = some ⟨.func, 1, 8, z92⟩ := rfl
@[go_sem] theorem z92_good : z92.good = true := by kernel_rfl
@[go_sem] theorem z92_size : z92.size = 1 := by kernel_rfl
@[go_sem] theorem z92_agg : z92.isAgg = false := rfl
attribute [go_sem] z92
@[go_sem] theorem th93 : Θ 93 = some ⟨.slice 38, 1, 24, z93⟩ := rfl
@[go_sem] theorem z93_good : z93.good = true := by kernel_rfl
@[go_sem] theorem z93_size : z93.size = 1 := by kernel_rfl
@[go_sem] theorem z93_agg : z93.isAgg = false := rfl
attribute [go_sem] z93
@[go_sem] theorem th94 : Θ 94 = some ⟨.slice 97, 1, 24, z94⟩ := rfl
@[go_sem] theorem z94_good : z94.good = true := by kernel_rfl
@[go_sem] theorem z94_size : z94.size = 1 := by kernel_rfl
@[go_sem] theorem z94_agg : z94.isAgg = false := rfl
attribute [go_sem] z94
@[go_sem] theorem th95 : Θ 95 = some ⟨.slice 4, 1, 24, z95⟩ := rfl
@[go_sem] theorem z95_good : z95.good = true := by kernel_rfl
@[go_sem] theorem z95_size : z95.size = 1 := by kernel_rfl
@[go_sem] theorem z95_agg : z95.isAgg = false := rfl
attribute [go_sem] z95
@[go_sem] theorem th96 : Θ 96 = some ⟨.struct [0, 1] [38, 38], 2, 4, z96⟩ := rfl
@[go_sem] theorem z96_good : z96.good = true := by kernel_rfl
@[go_sem] theorem z96_size : z96.size = 2 := by kernel_rfl
@[go_sem] theorem z96_agg : z96.isAgg = true := rfl
attribute [go_sem] z96
@[go_sem] theorem th97 : Θ 97 = some ⟨.struct [0, 1] [38, 38], 2, 4, z97⟩ := rfl
@[go_sem] theorem z97_good : z97.good = true := by kernel_rfl
@[go_sem] theorem z97_size : z97.size = 2 := by kernel_rfl
@[go_sem] theorem z97_agg : z97.isAgg = true := rfl
attribute [go_sem] z97
@[go_sem] theorem th98 : Θ 98 = some ⟨.func, 1, 8, z98⟩ := rfl
@[go_sem] theorem z98_good : z98.good = true := by kernel_rfl
@[go_sem] theorem z98_size : z98.size = 1 := by kernel_rfl
@[go_sem] theorem z98_agg : z98.isAgg = false := rfl
attribute [go_sem] z98
@[go_sem] theorem th99 : Θ 99 = some ⟨.func, 1, 8, z99⟩ := rfl
@[go_sem] theorem z99_good : z99.good = true := by kernel_rfl
@[go_sem] theorem z99_size : z99.size = 1 := by kernel_rfl
@[go_sem] theorem z99_agg : z99.isAgg = false := rfl
attribute [go_sem] z99
@[go_sem] theorem th100 : Θ 100 = some ⟨.int .i64, 1, 8, z100⟩ := rfl
@[go_sem] theorem z100_good : z100.good = true := by kernel_rfl
@[go_sem] theorem z100_size : z100.size = 1 := by kernel_rfl
@[go_sem] theorem z100_agg : z100.isAgg = false := rfl
attribute [go_sem] z100
@[go_sem] theorem th101 : Θ 101 = some ⟨.struct [0, 1, 2, 3, 4] [3, 3, 24, 100, 4], 5, 40, z101⟩ := rfl
@[go_sem] theorem z101_good : z101.good = true := by kernel_rfl
@[go_sem] theorem z101_size : z101.size = 5 := by kernel_rfl
@[go_sem] theorem z101_agg : z101.isAgg = true := rfl
attribute [go_sem] z101
@[go_sem] theorem th102 : Θ 102 = some ⟨.struct [0, 1, 2, 3, 4] [3, 3, 24, 100, 4], 5, 40, z102⟩ := rfl
@[go_sem] theorem z102_good : z102.good = true := by kernel_rfl
@[go_sem] theorem z102_size : z102.size = 5 := by kernel_rfl
@[go_sem] theorem z102_agg : z102.isAgg = true := rfl
attribute [go_sem] z102
@[go_sem] theorem th103 : Θ 103 = some ⟨.tuple, 1, 0, .any⟩ := rfl
@[go_sem] theorem th104 : Θ 104 = some ⟨.func, 1, 8, z104⟩ := rfl
@[go_sem] theorem z104_good : z104.good = true := by kernel_rfl
@[go_sem] theorem z104_size : z104.size = 1 := by kernel_rfl
@[go_sem] theorem z104_agg : z104.isAgg = false := rfl
attribute [go_sem] z104
@[go_sem] theorem th105 : Θ 105 = some ⟨.func, 1, 8, z105⟩ := rfl
@[go_sem] theorem z105_good : z105.good = true := by kernel_rfl
@[go_sem] theorem z105_size : z105.size = 1 := by kernel_rfl
@[go_sem] theorem z105_agg : z105.isAgg = false := rfl
attribute [go_sem] z105
@[go_sem] theorem th106 : Θ 106 = some ⟨.ptr 26, 1, 8, z106⟩ := rfl
@[go_sem] theorem z106_good : z106.good = true := by kernel_rfl
@[go_sem] theorem z106_size : z106.size = 1 := by kernel_rfl
@[go_sem] theorem z106_agg : z106.isAgg = false := rfl
attribute [go_sem] z106
@[go_sem] theorem th107 : Θ 107 = some ⟨.slice 106, 1, 24, z107⟩ := rfl
@[go_sem] theorem z107_good : z107.good = true := by kernel_rfl
@[go_sem] theorem z107_size : z107.size = 1 := by kernel_rfl
@[go_sem] theorem z107_agg : z107.isAgg = false := rfl
attribute [go_sem] z107
@[go_sem] theorem th108 : Θ 108 = some ⟨.func, 1, 8, z108⟩ := rfl
@[go_sem] theorem z108_good : z108.good = true := by kernel_rfl
@[go_sem] theorem z108_size : z108.size = 1 := by kernel_rfl
@[go_sem] theorem z108_agg : z108.isAgg = false := rfl
attribute [go_sem] z108
@[go_sem] theorem th109 : Θ 109 = some ⟨.func, 1, 8, z109⟩ := rfl
@[go_sem] theorem z109_good : z109.good = true := by kernel_rfl
@[go_sem] theorem z109_size : z109.size = 1 := by kernel_rfl
@[go_sem] theorem z109_agg : z109.isAgg = false := rfl
attribute [go_sem] z109
@[go_sem] theorem th110 : Θ 110 = some ⟨.func, 1, 8, z110⟩ := rfl
@[go_sem] theorem z110_good : z110.good = true := by kernel_rfl
@[go_sem] theorem z110_size : z110.size = 1 := by kernel_rfl
@[go_sem] theorem z110_agg : z110.isAgg = false := rfl
attribute [go_sem] z110
@[go_sem] theorem th111 : Θ 111 = some ⟨.tuple, 1, 0, .any⟩ := rfl
@[go_sem] theorem th112 : Θ 112 = some ⟨.func, 1, 8, z112⟩ := rfl
@[go_sem] theorem z112_good : z112.good = true := by kernel_rfl
@[go_sem] theorem z112_size : z112.size = 1 := by kernel_rfl
@[go_sem] theorem z112_agg : z112.isAgg = false := rfl
attribute [go_sem] z112
@[go_sem] theorem th113 : Θ 113 = some ⟨.func, 1, 8, z113⟩ := rfl
@[go_sem] theorem z113_good : z113.good = true := by kernel_rfl
@[go_sem] theorem z113_size : z113.size = 1 := by kernel_rfl
@[go_sem] theorem z113_agg : z113.isAgg = false := rfl
attribute [go_sem] z113
@[go_sem] theorem th114 : Θ 114 = some ⟨.func, 1, 8, z114⟩ := rfl
@[go_sem] theorem z114_good : z114.good = true := by kernel_rfl
@[go_sem] theorem z114_size : z114.size = 1 := by kernel_rfl
@[go_sem] theorem z114_agg : z114.isAgg = false := rfl
attribute [go_sem] z114
@[go_sem] theorem th115 : Θ 115 = some ⟨.func, 1, 8, z115⟩ := rfl
@[go_sem] theorem z115_good : z115.good = true := by kernel_rfl
@[go_sem] theorem z115_size : z115.size = 1 := by kernel_rfl
@[go_sem] theorem z115_agg : z115.isAgg = false := rfl
attribute [go_sem] z115
@[go_sem] theorem th116 : Θ 116 = some ⟨.func, 1, 8, z116⟩ := rfl
@[go_sem] theorem z116_good : z116.good = true := by kernel_rfl
@[go_sem] theorem z116_size : z116.size = 1 := by kernel_rfl
@[go_sem] theorem z116_agg : z116.isAgg = false := rfl
attribute [go_sem] z116
@[go_sem] theorem th117 : Θ 117 = some ⟨.func, 1, 8, z117⟩ := rfl
@[go_sem] theorem z117_good : z117.good = true := by kernel_rfl
@[go_sem] theorem z117_size : z117.size = 1 := by kernel_rfl
@[go_sem] theorem z117_agg : z117.isAgg = false := rfl
attribute [go_sem] z117
@[go_sem] theorem th118 : Θ 118 = some ⟨.func, 1, 8, z118⟩ := rfl
@[go_sem] theorem z118_good : z118.good = true := by kernel_rfl
@[go_sem] theorem z118_size : z118.size = 1 := by kernel_rfl
@[go_sem] theorem z118_agg : z118.isAgg = false := rfl
attribute [go_sem] z118
@[go_sem] theorem th119 : Θ 119 = some ⟨.func, 1, 8, z119⟩ := rfl
@[go_sem] theorem z119_good : z119.good = true := by kernel_rfl
@[go_sem] theorem z119_size : z119.size = 1 := by kernel_rfl
@[go_sem] theorem z119_agg : z119.isAgg = false := rfl
attribute [go_sem] z119
@[go_sem] theorem th120 : Θ 120 = some ⟨.func, 1, 8, z120⟩ := rfl
@[go_sem] theorem z120_good : z120.good = true := by kernel_rfl
@[go_sem] theorem z120_size : z120.size = 1 := by kernel_rfl
@[go_sem] theorem z120_agg : z120.isAgg = false := rfl
attribute [go_sem] z120
@[go_sem] theorem th121 : Θ 121 = some ⟨.func, 1, 8, z121⟩ := rfl
@[go_sem] theorem z121_good : z121.good = true := by kernel_rfl
@[go_sem] theorem z121_size : z121.size = 1 := by kernel_rfl
@[go_sem] theorem z121_agg : z121.isAgg = false := rfl
attribute [go_sem] z121
@[go_sem] theorem th122 : Θ 122 = some ⟨.tuple, 1, 0, .any⟩ := rfl
@[go_sem] theorem th123 : Θ 123 = some ⟨.func, 1, 8, z123⟩ := rfl
@[go_sem] theorem z123_good : z123.good = true := by kernel_rfl
@[go_sem] theorem z123_size : z123.size = 1 := by kernel_rfl
@[go_sem] theorem z123_agg : z123.isAgg = false := rfl
attribute [go_sem] z123
@[go_sem] theorem th124 : Θ 124 = some ⟨.func, 1, 8, z124⟩ := rfl
@[go_sem] theorem z124_good : z124.good = true := by kernel_rfl
@[go_sem] theorem z124_size : z124.size = 1 := by kernel_rfl
@[go_sem] theorem z124_agg : z124.isAgg = false := rfl
attribute [go_sem] z124
@[go_sem] theorem th125 : Θ 125 = some ⟨.func, 1, 8, z125⟩ := rfl
@[go_sem] theorem z125_good : z125.good = true := by kernel_rfl
@[go_sem] theorem z125_size : z125.size = 1 := by kernel_rfl
@[go_sem] theorem z125_agg : z125.isAgg = false := rfl
attribute [go_sem] z125
@[go_sem] theorem th126 : Θ 126 = some ⟨.func, 1, 8, z126⟩ := rfl
@[go_sem] theorem z126_good : z126.good = true := by kernel_rfl
@[go_sem] theorem z126_size : z126.size = 1 := by kernel_rfl
@[go_sem] theorem z126_agg : z126.isAgg = false := rfl
attribute [go_sem] z126
@[go_sem] theorem th127 : Θ 127 = some ⟨.func, 1, 8, z127⟩ := rfl
@[go_sem] theorem z127_good : z127.good = true := by kernel_rfl
@[go_sem] theorem z127_size : z127.size = 1 := by kernel_rfl
@[go_sem] theorem z127_agg : z127.isAgg = false := rfl
attribute [go_sem] z127
@[go_sem] theorem th128 : Θ 128 = some ⟨.array 56 102, 280, 2240, z128⟩ := rfl
@[go_sem] theorem z128_good : z128.good = true := by kernel_rfl
@[go_sem] theorem z128_size : z128.size = 280 := by kernel_rfl
@[go_sem] theorem z128_agg : z128.isAgg = true := rfl
@[go_sem] theorem th129 : Θ 129 = some ⟨.func, 1, 8, z129⟩ := rfl
@[go_sem] theorem z129_good : z129.good = true := by kernel_rfl
@[go_sem] theorem z129_size : z129.size = 1 := by kernel_rfl
@[go_sem] theorem z129_agg : z129.isAgg = false := rfl
attribute [go_sem] z129
@[go_sem] theorem th130 : Θ 130 = some ⟨.int .u64, 1, 8, z130⟩ := rfl
@[go_sem] theorem z130_good : z130.good = true := by kernel_rfl
@[go_sem] theorem z130_size : z130.size = 1 := by kernel_rfl
@[go_sem] theorem z130_agg : z130.isAgg = false := rfl
attribute [go_sem] z130
@[go_sem] theorem th131 : Θ 131 = some ⟨.func, 1, 8, z131⟩ := rfl
@[go_sem] theorem z131_good : z131.good = true := by kernel_rfl
@[go_sem] theorem z131_size : z131.size = 1 := by kernel_rfl
@[go_sem] theorem z131_agg : z131.isAgg = false := rfl
attribute [go_sem] z131
@[go_sem] theorem th132 : Θ 132 = some ⟨.int .i8, 1, 1, z132⟩ := rfl
@[go_sem] theorem z132_good : z132.good = true := by kernel_rfl
@[go_sem] theorem z132_size : z132.size = 1 := by kernel_rfl
@[go_sem] theorem z132_agg : z132.isAgg = false := rfl
attribute [go_sem] z132
@[go_sem] theorem th133 : Θ 133 = some ⟨.func, 1, 8, z133⟩ := rfl
@[go_sem] theorem z133_good : z133.good = true := by kernel_rfl
@[go_sem] theorem z133_size : z133.size = 1 := by kernel_rfl
@[go_sem] theorem z133_agg : z133.isAgg = false := rfl
attribute [go_sem] z133
@[go_sem] theorem th134 : Θ 134 = some ⟨.func, 1, 8, z134⟩ := rfl
@[go_sem] theorem z134_good : z134.good = true := by kernel_rfl
@[go_sem] theorem z134_size : z134.size = 1 := by kernel_rfl
@[go_sem] theorem z134_agg : z134.isAgg = false := rfl
attribute [go_sem] z134
@[go_sem] theorem th135 : Θ 135 = some ⟨.slice 26, 1, 24, z135⟩ := rfl
@[go_sem] theorem z135_good : z135.good = true := by kernel_rfl
@[go_sem] theorem z135_size : z135.size = 1 := by kernel_rfl
@[go_sem] theorem z135_agg : z135.isAgg = false := rfl
attribute [go_sem] z135
@[go_sem] theorem th136 : Θ 136 = some ⟨.func, 1, 8, z136⟩ := rfl
@[go_sem] theorem z136_good : z136.good = true := by kernel_rfl
@[go_sem] theorem z136_size : z136.size = 1 := by kernel_rfl
@[go_sem] theorem z136_agg : z136.isAgg = false := rfl
attribute [go_sem] z136
@[go_sem] theorem th137 : Θ 137 = some ⟨.func, 1, 8, z137⟩ := rfl
@[go_sem] theorem z137_good : z137.good = true := by kernel_rfl
@[go_sem] theorem z137_size : z137.size = 1 := by kernel_rfl
@[go_sem] theorem z137_agg : z137.isAgg = false := rfl
attribute [go_sem] z137
@[go_sem] theorem th138 : Θ 138 = some ⟨.func, 1, 8, z138⟩ := rfl
@[go_sem] theorem z138_good : z138.good = true := by kernel_rfl
@[go_sem] theorem z138_size : z138.size = 1 := by kernel_rfl
@[go_sem] theorem z138_agg : z138.isAgg = false := rfl
attribute [go_sem] z138
@[go_sem] theorem th139 : Θ 139 = some ⟨.func, 1, 8, z139⟩ := rfl
@[go_sem] theorem z139_good : z139.good = true := by kernel_rfl
@[go_sem] theorem z139_size : z139.size = 1 := by kernel_rfl
@[go_sem] theorem z139_agg : z139.isAgg = false := rfl
attribute [go_sem] z139
@[go_sem] theorem th140 : Θ 140 = some ⟨.func, 1, 8, z140⟩ := rfl
@[go_sem] theorem z140_good : z140.good = true := by kernel_rfl
@[go_sem] theorem z140_size : z140.size = 1 := by kernel_rfl
@[go_sem] theorem z140_agg : z140.isAgg = false := rfl
attribute [go_sem] z140
@[go_sem] theorem th143 : Θ 143 = some ⟨.array 0 16, 0, 0, z143⟩ := rfl
@[go_sem] theorem z143_good : z143.good = true := by kernel_rfl
@[go_sem] theorem z143_size : z143.size = 0 := by kernel_rfl
@[go_sem] theorem z143_agg : z143.isAgg = true := rfl
attribute [go_sem] z143
@[go_sem] theorem th146 : Θ 146 = some ⟨.func, 1, 8, z146⟩ := rfl
@[go_sem] theorem z146_good : z146.good = true := by kernel_rfl
@[go_sem] theorem z146_size : z146.size = 1 := by kernel_rfl
@[go_sem] theorem z146_agg : z146.isAgg = false := rfl
attribute [go_sem] z146
@[go_sem] theorem th147 : Θ 147 = some ⟨.int .u32, 1, 4, z147⟩ := rfl
@[go_sem] theorem z147_good : z147.good = true := by kernel_rfl
@[go_sem] theorem z147_size : z147.size = 1 := by kernel_rfl
@[go_sem] theorem z147_agg : z147.isAgg = false := rfl
attribute [go_sem] z147
@[go_sem] theorem th148 : Θ 148 = some ⟨.int .u8, 1, 1, z148⟩ := rfl
@[go_sem] theorem z148_good : z148.good = true := by kernel_rfl
@[go_sem] theorem z148_size : z148.size = 1 := by kernel_rfl
@[go_sem] theorem z148_agg : z148.isAgg = false := rfl
attribute [go_sem] z148
@[go_sem] theorem th149 : Θ 149 = some ⟨.int .u8, 1, 1, z149⟩ := rfl
@[go_sem] theorem z149_good : z149.good = true := by kernel_rfl
@[go_sem] theorem z149_size : z149.size = 1 := by kernel_rfl
@[go_sem] theorem z149_agg : z149.isAgg = false := rfl
attribute [go_sem] z149
@[go_sem] theorem th150 : Θ 150 = some ⟨.func, 1, 8, z150⟩ := rfl
@[go_sem] theorem z150_good : z150.good = true := by kernel_rfl
@[go_sem] theorem z150_size : z150.size = 1 := by kernel_rfl
@[go_sem] theorem z150_agg : z150.isAgg = false := rfl
attribute [go_sem] z150
@[go_sem] theorem th151 : Θ 151 = some ⟨.ptr 5, 1, 8, z151⟩ := rfl
@[go_sem] theorem z151_good : z151.good = true := by kernel_rfl
@[go_sem] theorem z151_size : z151.size = 1 := by kernel_rfl
@[go_sem] theorem z151_agg : z151.isAgg = false := rfl
attribute [go_sem] z151
@[go_sem] theorem th152 : Θ 152 = some ⟨.int .i32, 1, 4, z152⟩ := rfl
@[go_sem] theorem z152_good : z152.good = true := by kernel_rfl
@[go_sem] theorem z152_size : z152.size = 1 := by kernel_rfl
@[go_sem] theorem z152_agg : z152.isAgg = false := rfl
attribute [go_sem] z152
@[go_sem] theorem th153 : Θ 153 = some ⟨.int .i32, 1, 4, z153⟩ := rfl
@[go_sem] theorem z153_good : z153.good = true := by kernel_rfl
@[go_sem] theorem z153_size : z153.size = 1 := by kernel_rfl
@[go_sem] theorem z153_agg : z153.isAgg = false := rfl
attribute [go_sem] z153
@[go_sem] theorem th156 : Θ 156 = some ⟨.struct [0, 1, 2, 3, 4, 5, 6, 7, 8] [4, 4, 4, 3, 4, 4, 3, 3, 9], 9, 56, z156⟩ := rfl
@[go_sem] theorem z156_good : z156.good = true := by kernel_rfl
@[go_sem] theorem z156_size : z156.size = 9 := by kernel_rfl
@[go_sem] theorem z156_agg : z156.isAgg = true := rfl
attribute [go_sem] z156
@[go_sem] theorem th157 : Θ 157 = some ⟨.struct [0, 1, 2, 3, 4, 5, 6, 7, 8] [4, 4, 4, 3, 4, 4, 3, 3, 9], 9, 56, z157⟩ := rfl
@[go_sem] theorem z157_good : z157.good = true := by kernel_rfl
@[go_sem] theorem z157_size : z157.size = 9 := by kernel_rfl
@[go_sem] theorem z157_agg : z157.isAgg = true := rfl
attribute [go_sem] z157
@[go_sem] theorem th158 : Θ 158 = some ⟨.other, 1, 8, .any⟩ := rfl

theorem ty0 : TyOK Try.prog 0 ⟨.tuple, 1, 0, .any⟩ := ⟨TyOK.info_any (inf := Try.t0) (by kernel_rfl) rfl rfl rfl, ⟨_, Try.underlying0⟩⟩
theorem ty1 : TyOK Try.prog 1 ⟨.func, 1, 8, z1⟩ := ⟨TyOK.info_of (inf := Try.t1) (by kernel_rfl) rfl rfl (by kernel_rfl) rfl (by kernel_rfl), ⟨_, _, _, Try.underlying1⟩⟩
theorem ty2 : TyOK Try.prog 2 ⟨.int .i64, 1, 8, z2⟩ := ⟨TyOK.info_of (inf := Try.t2) (by kernel_rfl) rfl rfl (by kernel_rfl) rfl (by kernel_rfl), Try.underlying2⟩
theorem ty3 : TyOK Try.prog 3 ⟨.int .i64, 1, 8, z3⟩ := ⟨TyOK.info_of (inf := Try.t3) (by kernel_rfl) rfl rfl (by kernel_rfl) rfl (by kernel_rfl), Try.underlying3⟩
theorem ty4 : TyOK Try.prog 4 ⟨.bool, 1, 1, z4⟩ := ⟨TyOK.info_of (inf := Try.t4) (by kernel_rfl) rfl rfl (by kernel_rfl) rfl (by kernel_rfl), Try.underlying4⟩
theorem ty5 : TyOK Try.prog 5 ⟨.int .u8, 1, 1, z5⟩ := ⟨TyOK.info_of (inf := Try.t5) (by kernel_rfl) rfl rfl (by kernel_rfl) rfl (by kernel_rfl), Try.underlying5⟩
theorem ty6 : TyOK Try.prog 6 ⟨.int .u8, 1, 1, z6⟩ := ⟨TyOK.info_of (inf := Try.t6) (by kernel_rfl) rfl rfl (by kernel_rfl) rfl (by kernel_rfl), Try.underlying6⟩
theorem ty9 : TyOK Try.prog 9 ⟨.str, 1, 16, z9⟩ := ⟨TyOK.info_of (inf := Try.t9) (by kernel_rfl) rfl rfl (by kernel_rfl) rfl (by kernel_rfl), Try.underlying9⟩
theorem ty10 : TyOK Try.prog 10 ⟨.str, 1, 16, z10⟩ := ⟨TyOK.info_of (inf := Try.t10) (by kernel_rfl) rfl rfl (by kernel_rfl) rfl (by kernel_rfl), Try.underlying10⟩
theorem ty11 : TyOK Try.prog 11 ⟨.str, 1, 16, z11⟩ := ⟨TyOK.info_of (inf := Try.t11) (by kernel_rfl) rfl rfl (by kernel_rfl) rfl (by kernel_rfl), Try.underlying11⟩
theorem ty12 : TyOK Try.prog 12 ⟨.int .u64, 1, 8, z12⟩ := ⟨TyOK.info_of (inf := Try.t12) (by kernel_rfl) rfl rfl (by kernel_rfl) rfl (by kernel_rfl), Try.underlying12⟩
theorem ty15 : TyOK Try.prog 15 ⟨.ptr 142, 1, 8, z15⟩ := ⟨TyOK.info_of (inf := Try.t15) (by kernel_rfl) rfl rfl (by kernel_rfl) rfl (by kernel_rfl), Try.underlying15⟩
theorem ty16 : TyOK Try.prog 16 ⟨.ptr 145, 1, 8, z16⟩ := ⟨TyOK.info_of (inf := Try.t16) (by kernel_rfl) rfl rfl (by kernel_rfl) rfl (by kernel_rfl), Try.underlying16⟩
theorem ty17 : TyOK Try.prog 17 ⟨.ptr 155, 1, 8, z17⟩ := ⟨TyOK.info_of (inf := Try.t17) (by kernel_rfl) rfl rfl (by kernel_rfl) rfl (by kernel_rfl), Try.underlying17⟩
theorem ty20 : TyOK Try.prog 20 ⟨.other, 1, 16, .any⟩ := ⟨TyOK.info_any (inf := Try.t20) (by kernel_rfl) rfl rfl rfl, ⟨_, Try.underlying20, rfl⟩⟩
theorem ty21 : TyOK Try.prog 21 ⟨.int .i32, 1, 4, z21⟩ := ⟨TyOK.info_of (inf := Try.t21) (by kernel_rfl) rfl rfl (by kernel_rfl) rfl (by kernel_rfl), Try.underlying21⟩
theorem ty22 : TyOK Try.prog 22 ⟨.slice 3, 1, 24, z22⟩ := ⟨TyOK.info_of (inf := Try.t22) (by kernel_rfl) rfl rfl (by kernel_rfl) rfl (by kernel_rfl), Try.underlying22⟩
theorem ty23 : TyOK Try.prog 23 ⟨.func, 1, 8, z23⟩ := ⟨TyOK.info_of (inf := Try.t23) (by kernel_rfl) rfl rfl (by kernel_rfl) rfl (by kernel_rfl), ⟨_, _, _, Try.underlying23⟩⟩
theorem ty24 : TyOK Try.prog 24 ⟨.int .i64, 1, 8, z24⟩ := ⟨TyOK.info_of (inf := Try.t24) (by kernel_rfl) rfl rfl (by kernel_rfl) rfl (by kernel_rfl), Try.underlying24⟩
theorem ty25 : TyOK Try.prog 25 ⟨.struct [0, 1, 2] [3, 3, 3], 3, 24, z25⟩ := ⟨TyOK.info_of (inf := Try.t25) (by kernel_rfl) rfl rfl (by kernel_rfl) rfl (by kernel_rfl), ⟨_, Try.underlying25, rfl, rfl, by kernel_rfl, by decide, by kernel_rfl⟩⟩
theorem ty26 : TyOK Try.prog 26 ⟨.struct [0, 1, 2] [3, 3, 3], 3, 24, z26⟩ := ⟨TyOK.info_of (inf := Try.t26) (by kernel_rfl) rfl rfl (by kernel_rfl) rfl (by kernel_rfl), ⟨_, Try.underlying26, rfl, rfl, by kernel_rfl, by decide, by kernel_rfl⟩⟩
theorem ty27 : TyOK Try.prog 27 ⟨.struct [0, 1, 2, 5, 8, 9] [24, 4, 26, 26, 3, 3], 10, 80, z27⟩ := ⟨TyOK.info_of (inf := Try.t27) (by kernel_rfl) rfl rfl (by kernel_rfl) rfl (by kernel_rfl), ⟨_, Try.underlying27, rfl, rfl, by kernel_rfl, by decide, by kernel_rfl⟩⟩
theorem ty28 : TyOK Try.prog 28 ⟨.struct [0, 1, 2, 5, 8, 9] [24, 4, 26, 26, 3, 3], 10, 80, z28⟩ := ⟨TyOK.info_of (inf := Try.t28) (by kernel_rfl) rfl rfl (by kernel_rfl) rfl (by kernel_rfl), ⟨_, Try.underlying28, rfl, rfl, by kernel_rfl, by decide, by kernel_rfl⟩⟩
theorem ty29 : TyOK Try.prog 29 ⟨.tuple, 1, 0, .any⟩ := ⟨TyOK.info_any (inf := Try.t29) (by kernel_rfl) rfl rfl rfl, ⟨_, Try.underlying29⟩⟩
theorem ty30 : TyOK Try.prog 30 ⟨.func, 1, 8, z30⟩ := ⟨TyOK.info_of (inf := Try.t30) (by kernel_rfl) rfl rfl (by kernel_rfl) rfl (by kernel_rfl), ⟨_, _, _, Try.underlying30⟩⟩
theorem ty31 : TyOK Try.prog 31 ⟨.func, 1, 8, z31⟩ := ⟨TyOK.info_of (inf := Try.t31) (by kernel_rfl) rfl rfl (by kernel_rfl) rfl (by kernel_rfl), ⟨_, _, _, Try.underlying31⟩⟩
theorem ty32 : TyOK Try.prog 32 ⟨.int .i64, 1, 8, z32⟩ := ⟨TyOK.info_of (inf := Try.t32) (by kernel_rfl) rfl rfl (by kernel_rfl) rfl (by kernel_rfl), Try.underlying32⟩
theorem ty33 : TyOK Try.prog 33 ⟨.tuple, 1, 0, .any⟩ := ⟨TyOK.info_any (inf := Try.t33) (by kernel_rfl) rfl rfl rfl, ⟨_, Try.underlying33⟩⟩
theorem ty34 : TyOK Try.prog 34 ⟨.func, 1, 8, z34⟩ := ⟨TyOK.info_of (inf := Try.t34) (by kernel_rfl) rfl rfl (by kernel_rfl) rfl (by kernel_rfl), ⟨_, _, _, Try.underlying34⟩⟩
theorem ty35 : TyOK Try.prog 35 ⟨.func, 1, 8, z35⟩ := ⟨TyOK.info_of (inf := Try.t35) (by kernel_rfl) rfl rfl (by kernel_rfl) rfl (by kernel_rfl), ⟨_, _, _, Try.underlying35⟩⟩
theorem ty36 : TyOK Try.prog 36 ⟨.func, 1, 8, z36⟩ := ⟨TyOK.info_of (inf := Try.t36) (by kernel_rfl) rfl rfl (by kernel_rfl) rfl (by kernel_rfl), ⟨_, _, _, Try.underlying36⟩⟩
theorem ty37 : TyOK Try.prog 37 ⟨.func, 1, 8, z37⟩ := ⟨TyOK.info_of (inf := Try.t37) (by kernel_rfl) rfl rfl (by kernel_rfl) rfl (by kernel_rfl), ⟨_, _, _, Try.underlying37⟩⟩
theorem ty38 : TyOK Try.prog 38 ⟨.int .u16, 1, 2, z38⟩ := ⟨TyOK.info_of (inf := Try.t38) (by kernel_rfl) rfl rfl (by kernel_rfl) rfl (by kernel_rfl), Try.underlying38⟩
theorem ty39 : TyOK Try.prog 39 ⟨.func, 1, 8, z39⟩ := ⟨TyOK.info_of (inf := Try.t39) (by kernel_rfl) rfl rfl (by kernel_rfl) rfl (by kernel_rfl), ⟨_, _, _, Try.underlying39⟩⟩
theorem ty40 : TyOK Try.prog 40 ⟨.func, 1, 8, z40⟩ := ⟨TyOK.info_of (inf := Try.t40) (by kernel_rfl) rfl rfl (by kernel_rfl) rfl (by kernel_rfl), ⟨_, _, _, Try.underlying40⟩⟩
theorem ty41 : TyOK Try.prog 41 ⟨.func, 1, 8, z41⟩ := ⟨TyOK.info_of (inf := Try.t41) (by kernel_rfl) rfl rfl (by kernel_rfl) rfl (by kernel_rfl), ⟨_, _, _, Try.underlying41⟩⟩
theorem ty42 : TyOK Try.prog 42 ⟨.struct [0, 1] [22, 22], 2, 48, z42⟩ := ⟨TyOK.info_of (inf := Try.t42) (by kernel_rfl) rfl rfl (by kernel_rfl) rfl (by kernel_rfl), ⟨_, Try.underlying42, rfl, rfl, by kernel_rfl, by decide, by kernel_rfl⟩⟩
theorem ty43 : TyOK Try.prog 43 ⟨.struct [0, 1] [22, 22], 2, 48, z43⟩ := ⟨TyOK.info_of (inf := Try.t43) (by kernel_rfl) rfl rfl (by kernel_rfl) rfl (by kernel_rfl), ⟨_, Try.underlying43, rfl, rfl, by kernel_rfl, by decide, by kernel_rfl⟩⟩
theorem ty44 : TyOK Try.prog 44 ⟨.func, 1, 8, z44⟩ := ⟨TyOK.info_of (inf := Try.t44) (by kernel_rfl) rfl rfl (by kernel_rfl) rfl (by kernel_rfl), ⟨_, _, _, Try.underlying44⟩⟩
theorem ty45 : TyOK Try.prog 45 ⟨.slice 74, 1, 24, z45⟩ := ⟨TyOK.info_of (inf := Try.t45) (by kernel_rfl) rfl rfl (by kernel_rfl) rfl (by kernel_rfl), Try.underlying45⟩
theorem ty46 : TyOK Try.prog 46 ⟨.struct [0, 1] [3, 45], 2, 32, z46⟩ := ⟨TyOK.info_of (inf := Try.t46) (by kernel_rfl) rfl rfl (by kernel_rfl) rfl (by kernel_rfl), ⟨_, Try.underlying46, rfl, rfl, by kernel_rfl, by decide, by kernel_rfl⟩⟩
theorem ty47 : TyOK Try.prog 47 ⟨.struct [0, 1] [3, 45], 2, 32, z47⟩ := ⟨TyOK.info_of (inf := Try.t47) (by kernel_rfl) rfl rfl (by kernel_rfl) rfl (by kernel_rfl), ⟨_, Try.underlying47, rfl, rfl, by kernel_rfl, by decide, by kernel_rfl⟩⟩
theorem ty48 : TyOK Try.prog 48 ⟨.func, 1, 8, z48⟩ := ⟨TyOK.info_of (inf := Try.t48) (by kernel_rfl) rfl rfl (by kernel_rfl) rfl (by kernel_rfl), ⟨_, _, _, Try.underlying48⟩⟩
theorem ty49 : TyOK Try.prog 49 ⟨.array 6 3, 6, 48, z49⟩ := ⟨TyOK.info_of (inf := Try.t49) (by kernel_rfl) rfl rfl (by kernel_rfl) rfl (by kernel_rfl), ⟨Try.underlying49, by kernel_rfl⟩⟩
theorem ty50 : TyOK Try.prog 50 ⟨.array 2 3, 2, 16, z50⟩ := ⟨TyOK.info_of (inf := Try.t50) (by kernel_rfl) rfl rfl (by kernel_rfl) rfl (by kernel_rfl), ⟨Try.underlying50, by kernel_rfl⟩⟩
theorem ty51 : TyOK Try.prog 51 ⟨.struct [0, 6, 8, 9] [49, 50, 3, 3], 10, 80, z51⟩ := ⟨TyOK.info_of (inf := Try.t51) (by kernel_rfl) rfl rfl (by kernel_rfl) rfl (by kernel_rfl), ⟨_, Try.underlying51, rfl, rfl, by kernel_rfl, by decide, by kernel_rfl⟩⟩
theorem ty52 : TyOK Try.prog 52 ⟨.struct [0, 6, 8, 9] [49, 50, 3, 3], 10, 80, z52⟩ := ⟨TyOK.info_of (inf := Try.t52) (by kernel_rfl) rfl rfl (by kernel_rfl) rfl (by kernel_rfl), ⟨_, Try.underlying52, rfl, rfl, by kernel_rfl, by decide, by kernel_rfl⟩⟩
theorem ty53 : TyOK Try.prog 53 ⟨.struct [0, 1, 2, 3] [3, 3, 3, 4], 4, 32, z53⟩ := ⟨TyOK.info_of (inf := Try.t53) (by kernel_rfl) rfl rfl (by kernel_rfl) rfl (by kernel_rfl), ⟨_, Try.underlying53, rfl, rfl, by kernel_rfl, by decide, by kernel_rfl⟩⟩
theorem ty54 : TyOK Try.prog 54 ⟨.struct [0, 1, 2, 3] [3, 3, 3, 4], 4, 32, z54⟩ := ⟨TyOK.info_of (inf := Try.t54) (by kernel_rfl) rfl rfl (by kernel_rfl) rfl (by kernel_rfl), ⟨_, Try.underlying54, rfl, rfl, by kernel_rfl, by decide, by kernel_rfl⟩⟩
theorem ty55 : TyOK Try.prog 55 ⟨.array 8 54, 32, 256, z55⟩ := ⟨TyOK.info_of (inf := Try.t55) (by kernel_rfl) rfl rfl (by kernel_rfl) rfl (by kernel_rfl), ⟨Try.underlying55, by kernel_rfl⟩⟩
theorem ty56 : TyOK Try.prog 56 ⟨.array 2 55, 64, 512, z56⟩ := ⟨TyOK.info_of (inf := Try.t56) (by kernel_rfl) rfl rfl (by kernel_rfl) rfl (by kernel_rfl), ⟨Try.underlying56, by kernel_rfl⟩⟩
theorem ty57 : TyOK Try.prog 57 ⟨.struct [0, 1, 65, 66] [4, 56, 3, 3], 67, 536, z57⟩ := ⟨TyOK.info_of (inf := Try.t57) (by kernel_rfl) rfl rfl (by kernel_rfl) rfl (by kernel_rfl), ⟨_, Try.underlying57, rfl, rfl, by kernel_rfl, by decide, by kernel_rfl⟩⟩
theorem ty58 : TyOK Try.prog 58 ⟨.struct [0, 1, 65, 66] [4, 56, 3, 3], 67, 536, z58⟩ := ⟨TyOK.info_of (inf := Try.t58) (by kernel_rfl) rfl rfl (by kernel_rfl) rfl (by kernel_rfl), ⟨_, Try.underlying58, rfl, rfl, by kernel_rfl, by decide, by kernel_rfl⟩⟩
theorem ty59 : TyOK Try.prog 59 ⟨.struct [0, 1, 2, 3] [4, 4, 3, 3], 4, 24, z59⟩ := ⟨TyOK.info_of (inf := Try.t59) (by kernel_rfl) rfl rfl (by kernel_rfl) rfl (by kernel_rfl), ⟨_, Try.underlying59, rfl, rfl, by kernel_rfl, by decide, by kernel_rfl⟩⟩
theorem ty60 : TyOK Try.prog 60 ⟨.struct [0, 1, 2, 3] [4, 4, 3, 3], 4, 24, z60⟩ := ⟨TyOK.info_of (inf := Try.t60) (by kernel_rfl) rfl rfl (by kernel_rfl) rfl (by kernel_rfl), ⟨_, Try.underlying60, rfl, rfl, by kernel_rfl, by decide, by kernel_rfl⟩⟩
theorem ty61 : TyOK Try.prog 61 ⟨.slice 157, 1, 24, z61⟩ := ⟨TyOK.info_of (inf := Try.t61) (by kernel_rfl) rfl rfl (by kernel_rfl) rfl (by kernel_rfl), Try.underlying61⟩
theorem ty62 : TyOK Try.prog 62 ⟨.slice 9, 1, 24, z62⟩ := ⟨TyOK.info_of (inf := Try.t62) (by kernel_rfl) rfl rfl (by kernel_rfl) rfl (by kernel_rfl), Try.underlying62⟩
theorem ty63 : TyOK Try.prog 63 ⟨.struct [0, 1] [62, 22], 2, 48, z63⟩ := ⟨TyOK.info_of (inf := Try.t63) (by kernel_rfl) rfl rfl (by kernel_rfl) rfl (by kernel_rfl), ⟨_, Try.underlying63, rfl, rfl, by kernel_rfl, by decide, by kernel_rfl⟩⟩
theorem ty64 : TyOK Try.prog 64 ⟨.struct [0, 1] [62, 22], 2, 48, z64⟩ := ⟨TyOK.info_of (inf := Try.t64) (by kernel_rfl) rfl rfl (by kernel_rfl) rfl (by kernel_rfl), ⟨_, Try.underlying64, rfl, rfl, by kernel_rfl, by decide, by kernel_rfl⟩⟩
theorem ty65 : TyOK Try.prog 65 ⟨.struct [0, 2, 3, 4, 5, 6, 7, 8, 9] [64, 4, 4, 4, 3, 3, 3, 3, 3], 10, 96, z65⟩ := ⟨TyOK.info_of (inf := Try.t65) (by kernel_rfl) rfl rfl (by kernel_rfl) rfl (by kernel_rfl), ⟨_, Try.underlying65, rfl, rfl, by kernel_rfl, by decide, by kernel_rfl⟩⟩
theorem ty66 : TyOK Try.prog 66 ⟨.struct [0, 2, 3, 4, 5, 6, 7, 8, 9] [64, 4, 4, 4, 3, 3, 3, 3, 3], 10, 96, z66⟩ := ⟨TyOK.info_of (inf := Try.t66) (by kernel_rfl) rfl rfl (by kernel_rfl) rfl (by kernel_rfl), ⟨_, Try.underlying66, rfl, rfl, by kernel_rfl, by decide, by kernel_rfl⟩⟩
theorem ty67 : TyOK Try.prog 67 ⟨.struct [0, 1, 2, 3, 4, 5, 6, 7, 8, 9, 10] [62, 3, 4, 4, 4, 4, 4, 3, 3, 3, 3], 11, 72, z67⟩ := ⟨TyOK.info_of (inf := Try.t67) (by kernel_rfl) rfl rfl (by kernel_rfl) rfl (by kernel_rfl), ⟨_, Try.underlying67, rfl, rfl, by kernel_rfl, by decide, by kernel_rfl⟩⟩
theorem ty68 : TyOK Try.prog 68 ⟨.struct [0, 1, 2, 3, 4, 5, 6, 7, 8, 9, 10] [62, 3, 4, 4, 4, 4, 4, 3, 3, 3, 3], 11, 72, z68⟩ := ⟨TyOK.info_of (inf := Try.t68) (by kernel_rfl) rfl rfl (by kernel_rfl) rfl (by kernel_rfl), ⟨_, Try.underlying68, rfl, rfl, by kernel_rfl, by decide, by kernel_rfl⟩⟩
theorem ty69 : TyOK Try.prog 69 ⟨.struct [0, 10, 11, 12, 79, 83, 84, 94, 105, 106, 107, 108, 109] [52, 22, 22, 58, 60, 61, 66, 68, 3, 4, 4, 3, 4], 110, 912, z69⟩ := ⟨TyOK.info_of (inf := Try.t69) (by kernel_rfl) rfl rfl (by kernel_rfl) rfl (by kernel_rfl), ⟨_, Try.underlying69, rfl, rfl, by kernel_rfl, by decide, by kernel_rfl⟩⟩
theorem ty70 : TyOK Try.prog 70 ⟨.struct [0, 10, 11, 12, 79, 83, 84, 94, 105, 106, 107, 108, 109] [52, 22, 22, 58, 60, 61, 66, 68, 3, 4, 4, 3, 4], 110, 912, z70⟩ := ⟨TyOK.info_of (inf := Try.t70) (by kernel_rfl) rfl rfl (by kernel_rfl) rfl (by kernel_rfl), ⟨_, Try.underlying70, rfl, rfl, by kernel_rfl, by decide, by kernel_rfl⟩⟩
theorem ty71 : TyOK Try.prog 71 ⟨.func, 1, 8, z71⟩ := ⟨TyOK.info_of (inf := Try.t71) (by kernel_rfl) rfl rfl (by kernel_rfl) rfl (by kernel_rfl), ⟨_, _, _, Try.underlying71⟩⟩
theorem ty72 : TyOK Try.prog 72 ⟨.func, 1, 8, z72⟩ := ⟨TyOK.info_of (inf := Try.t72) (by kernel_rfl) rfl rfl (by kernel_rfl) rfl (by kernel_rfl), ⟨_, _, _, Try.underlying72⟩⟩
theorem ty73 : TyOK Try.prog 73 ⟨.struct [0, 1, 2] [3, 22, 28], 12, 112, z73⟩ := ⟨TyOK.info_of (inf := Try.t73) (by kernel_rfl) rfl rfl (by kernel_rfl) rfl (by kernel_rfl), ⟨_, Try.underlying73, rfl, rfl, by kernel_rfl, by decide, by kernel_rfl⟩⟩
theorem ty74 : TyOK Try.prog 74 ⟨.struct [0, 1, 2] [3, 22, 28], 12, 112, z74⟩ := ⟨TyOK.info_of (inf := Try.t74) (by kernel_rfl) rfl rfl (by kernel_rfl) rfl (by kernel_rfl), ⟨_, Try.underlying74, rfl, rfl, by kernel_rfl, by decide, by kernel_rfl⟩⟩
theorem ty75 : TyOK Try.prog 75 ⟨.func, 1, 8, z75⟩ := ⟨TyOK.info_of (inf := Try.t75) (by kernel_rfl) rfl rfl (by kernel_rfl) rfl (by kernel_rfl), ⟨_, _, _, Try.underlying75⟩⟩
theorem ty76 : TyOK Try.prog 76 ⟨.func, 1, 8, z76⟩ := ⟨TyOK.info_of (inf := Try.t76) (by kernel_rfl) rfl rfl (by kernel_rfl) rfl (by kernel_rfl), ⟨_, _, _, Try.underlying76⟩⟩
theorem ty77 : TyOK Try.prog 77 ⟨.func, 1, 8, z77⟩ := ⟨TyOK.info_of (inf := Try.t77) (by kernel_rfl) rfl rfl (by kernel_rfl) rfl (by kernel_rfl), ⟨_, _, _, Try.underlying77⟩⟩
theorem ty78 : TyOK Try.prog 78 ⟨.slice 47, 1, 24, z78⟩ := ⟨TyOK.info_of (inf := Try.t78) (by kernel_rfl) rfl rfl (by kernel_rfl) rfl (by kernel_rfl), Try.underlying78⟩
theorem ty79 : TyOK Try.prog 79 ⟨.struct [0, 1, 2, 3] [78, 3, 3, 3], 4, 48, z79⟩ := ⟨TyOK.info_of (inf := Try.t79) (by kernel_rfl) rfl rfl (by kernel_rfl) rfl (by kernel_rfl), ⟨_, Try.underlying79, rfl, rfl, by kernel_rfl, by decide, by kernel_rfl⟩⟩
theorem ty80 : TyOK Try.prog 80 ⟨.struct [0, 1, 2, 3] [78, 3, 3, 3], 4, 48, z80⟩ := ⟨TyOK.info_of (inf := Try.t80) (by kernel_rfl) rfl rfl (by kernel_rfl) rfl (by kernel_rfl), ⟨_, Try.underlying80, rfl, rfl, by kernel_rfl, by decide, by kernel_rfl⟩⟩
theorem ty81 : TyOK Try.prog 81 ⟨.func, 1, 8, z81⟩ := ⟨TyOK.info_of (inf := Try.t81) (by kernel_rfl) rfl rfl (by kernel_rfl) rfl (by kernel_rfl), ⟨_, _, _, Try.underlying81⟩⟩
theorem ty82 : TyOK Try.prog 82 ⟨.func, 1, 8, z82⟩ := ⟨TyOK.info_of (inf := Try.t82) (by kernel_rfl) rfl rfl (by kernel_rfl) rfl (by kernel_rfl), ⟨_, _, _, Try.underlying82⟩⟩
theorem ty83 : TyOK Try.prog 83 ⟨.func, 1, 8, z83⟩ := ⟨TyOK.info_of (inf := Try.t83) (by kernel_rfl) rfl rfl (by kernel_rfl) rfl (by kernel_rfl), ⟨_, _, _, Try.underlying83⟩⟩
theorem ty84 : TyOK Try.prog 84 ⟨.func, 1, 8, z84⟩ := ⟨TyOK.info_of (inf := Try.t84) (by kernel_rfl) rfl rfl (by kernel_rfl) rfl (by kernel_rfl), ⟨_, _, _, Try.underlying84⟩⟩
theorem ty85 : TyOK Try.prog 85 ⟨.tuple, 1, 0, .any⟩ := ⟨TyOK.info_any (inf := Try.t85) (by kernel_rfl) rfl rfl rfl, ⟨_, Try.underlying85⟩⟩
theorem ty86 : TyOK Try.prog 86 ⟨.func, 1, 8, z86⟩ := ⟨TyOK.info_of (inf := Try.t86) (by kernel_rfl) rfl rfl (by kernel_rfl) rfl (by kernel_rfl), ⟨_, _, _, Try.underlying86⟩⟩
theorem ty87 : TyOK Try.prog 87 ⟨.func, 1, 8, z87⟩ := ⟨TyOK.info_of (inf := Try.t87) (by kernel_rfl) rfl rfl (by kernel_rfl) rfl (by kernel_rfl), ⟨_, _, _, Try.underlying87⟩⟩
theorem ty88 : TyOK Try.prog 88 ⟨.func, 1, 8, z88⟩ := ⟨TyOK.info_of (inf := Try.t88) (by kernel_rfl) rfl rfl (by kernel_rfl) rfl (by kernel_rfl), ⟨_, _, _, Try.underlying88⟩⟩
theorem ty89 : TyOK Try.prog 89 ⟨.func, 1, 8, z89⟩ := ⟨TyOK.info_of (inf := Try.t89) (by kernel_rfl) rfl rfl (by kernel_rfl) rfl (by kernel_rfl), ⟨_, _, _, Try.underlying89⟩⟩
theorem ty90 : TyOK Try.prog 90 ⟨.func, 1, 8, z90⟩ := ⟨TyOK.info_of (inf := Try.t90) (by kernel_rfl) rfl rfl (by kernel_rfl) rfl (by kernel_rfl), ⟨_, _, _, Try.underlying90⟩⟩
theorem ty91 : TyOK Try.prog 91 ⟨.func, 1, 8, z91⟩ := ⟨TyOK.info_of (inf := Try.t91) (by kernel_rfl) rfl rfl (by kernel_rfl) rfl (by kernel_rfl), ⟨_, _, _, Try.underlying91⟩⟩
theorem ty92 : TyOK Try.prog 92 ⟨.func, 1, 8, z92⟩ := ⟨TyOK.info_of (inf := Try.t92) (by kernel_rfl) rfl rfl (by kernel_rfl) rfl (by kernel_rfl), ⟨_, _, _, Try.underlying92⟩⟩
theorem ty93 : TyOK Try.prog 93 ⟨.slice 38, 1, 24, z93⟩ := ⟨TyOK.info_of (inf := Try.t93) (by kernel_rfl) rfl rfl (by kernel_rfl) rfl (by kernel_rfl), Try.underlying93⟩
theorem ty94 : TyOK Try.prog 94 ⟨.slice 97, 1, 24, z94⟩ := ⟨TyOK.info_of (inf := Try.t94) (by kernel_rfl) rfl rfl (by kernel_rfl) rfl (by kernel_rfl), Try.underlying94⟩
theorem ty95 : TyOK Try.prog 95 ⟨.slice 4, 1, 24, z95⟩ := ⟨TyOK.info_of (inf := Try.t95) (by kernel_rfl) rfl rfl (by kernel_rfl) rfl (by kernel_rfl), Try.underlying95⟩
theorem ty96 : TyOK Try.prog 96 ⟨.struct [0, 1] [38, 38], 2, 4, z96⟩ := ⟨TyOK.info_of (inf := Try.t96) (by kernel_rfl) rfl rfl (by kernel_rfl) rfl (by kernel_rfl), ⟨_, Try.underlying96, rfl, rfl, by kernel_rfl, by decide, by kernel_rfl⟩⟩
theorem ty97 : TyOK Try.prog 97 ⟨.struct [0, 1] [38, 38], 2, 4, z97⟩ := ⟨TyOK.info_of (inf := Try.t97) (by kernel_rfl) rfl rfl (by kernel_rfl) rfl (by kernel_rfl), ⟨_, Try.underlying97, rfl, rfl, by kernel_rfl, by decide, by kernel_rfl⟩⟩
theorem ty98 : TyOK Try.prog 98 ⟨.func, 1, 8, z98⟩ := ⟨TyOK.info_of (inf := Try.t98) (by kernel_rfl) rfl rfl (by kernel_rfl) rfl (by kernel_rfl), ⟨_, _, _, Try.underlying98⟩⟩
theorem ty99 : TyOK Try.prog 99 ⟨.func, 1, 8, z99⟩ := ⟨TyOK.info_of (inf := Try.t99) (by kernel_rfl) rfl rfl (by kernel_rfl) rfl (by kernel_rfl), ⟨_, _, _, Try.underlying99⟩⟩
theorem ty100 : TyOK Try.prog 100 ⟨.int .i64, 1, 8, z100⟩ := ⟨TyOK.info_of (inf := Try.t100) (by kernel_rfl) rfl rfl (by kernel_rfl) rfl (by kernel_rfl), Try.underlying100⟩
theorem ty101 : TyOK Try.prog 101 ⟨.struct [0, 1, 2, 3, 4] [3, 3, 24, 100, 4], 5, 40, z101⟩ := ⟨TyOK.info_of (inf := Try.t101) (by kernel_rfl) rfl rfl (by kernel_rfl) rfl (by kernel_rfl), ⟨_, Try.underlying101, rfl, rfl, by kernel_rfl, by decide, by kernel_rfl⟩⟩
theorem ty102 : TyOK Try.prog 102 ⟨.struct [0, 1, 2, 3, 4] [3, 3, 24, 100, 4], 5, 40, z102⟩ := ⟨TyOK.info_of (inf := Try.t102) (by kernel_rfl) rfl rfl (by kernel_rfl) rfl (by kernel_rfl), ⟨_, Try.underlying102, rfl, rfl, by kernel_rfl, by decide, by kernel_rfl⟩⟩
theorem ty103 : TyOK Try.prog 103 ⟨.tuple, 1, 0, .any⟩ := ⟨TyOK.info_any (inf := Try.t103) (by kernel_rfl) rfl rfl rfl, ⟨_, Try.underlying103⟩⟩
theorem ty104 : TyOK Try.prog 104 ⟨.func, 1, 8, z104⟩ := ⟨TyOK.info_of (inf := Try.t104) (by kernel_rfl) rfl rfl (by kernel_rfl) rfl (by kernel_rfl), ⟨_, _, _, Try.underlying104⟩⟩
theorem ty105 : TyOK Try.prog 105 ⟨.func, 1, 8, z105⟩ := ⟨TyOK.info_of (inf := Try.t105) (by kernel_rfl) rfl rfl (by kernel_rfl) rfl (by kernel_rfl), ⟨_, _, _, Try.underlying105⟩⟩
theorem ty106 : TyOK Try.prog 106 ⟨.ptr 26, 1, 8, z106⟩ := ⟨TyOK.info_of (inf := Try.t106) (by kernel_rfl) rfl rfl (by kernel_rfl) rfl (by kernel_rfl), Try.underlying106⟩
theorem ty107 : TyOK Try.prog 107 ⟨.slice 106, 1, 24, z107⟩ := ⟨TyOK.info_of (inf := Try.t107) (by kernel_rfl) rfl rfl (by kernel_rfl) rfl (by kernel_rfl), Try.underlying107⟩
theorem ty108 : TyOK Try.prog 108 ⟨.func, 1, 8, z108⟩ := ⟨TyOK.info_of (inf := Try.t108) (by kernel_rfl) rfl rfl (by kernel_rfl) rfl (by kernel_rfl), ⟨_, _, _, Try.underlying108⟩⟩
theorem ty109 : TyOK Try.prog 109 ⟨.func, 1, 8, z109⟩ := ⟨TyOK.info_of (inf := Try.t109) (by kernel_rfl) rfl rfl (by kernel_rfl) rfl (by kernel_rfl), ⟨_, _, _, Try.underlying109⟩⟩
theorem ty110 : TyOK Try.prog 110 ⟨.func, 1, 8, z110⟩ := ⟨TyOK.info_of (inf := Try.t110) (by kernel_rfl) rfl rfl (by kernel_rfl) rfl (by kernel_rfl), ⟨_, _, _, Try.underlying110⟩⟩
theorem ty111 : TyOK Try.prog 111 ⟨.tuple, 1, 0, .any⟩ := ⟨TyOK.info_any (inf := Try.t111) (by kernel_rfl) rfl rfl rfl, ⟨_, Try.underlying111⟩⟩
theorem ty112 : TyOK Try.prog 112 ⟨.func, 1, 8, z112⟩ := ⟨TyOK.info_of (inf := Try.t112) (by kernel_rfl) rfl rfl (by kernel_rfl) rfl (by kernel_rfl), ⟨_, _, _, Try.underlying112⟩⟩
theorem ty113 : TyOK Try.prog 113 ⟨.func, 1, 8, z113⟩ := ⟨TyOK.info_of (inf := Try.t113) (by kernel_rfl) rfl rfl (by kernel_rfl) rfl (by kernel_rfl), ⟨_, _, _, Try.underlying113⟩⟩
theorem ty114 : TyOK Try.prog 114 ⟨.func, 1, 8, z114⟩ := ⟨TyOK.info_of (inf := Try.t114) (by kernel_rfl) rfl rfl (by kernel_rfl) rfl (by kernel_rfl), ⟨_, _, _, Try.underlying114⟩⟩
theorem ty115 : TyOK Try.prog 115 ⟨.func, 1, 8, z115⟩ := ⟨TyOK.info_of (inf := Try.t115) (by kernel_rfl) rfl rfl (by kernel_rfl) rfl (by kernel_rfl), ⟨_, _, _, Try.underlying115⟩⟩
theorem ty116 : TyOK Try.prog 116 ⟨.func, 1, 8, z116⟩ := ⟨TyOK.info_of (inf := Try.t116) (by kernel_rfl) rfl rfl (by kernel_rfl) rfl (by kernel_rfl), ⟨_, _, _, Try.underlying116⟩⟩
theorem ty117 : TyOK Try.prog 117 ⟨.func, 1, 8, z117⟩ := ⟨TyOK.info_of (inf := Try.t117) (by kernel_rfl) rfl rfl (by kernel_rfl) rfl (by kernel_rfl), ⟨_, _, _, Try.underlying117⟩⟩
theorem ty118 : TyOK Try.prog 118 ⟨.func, 1, 8, z118⟩ := ⟨TyOK.info_of (inf := Try.t118) (by kernel_rfl) rfl rfl (by kernel_rfl) rfl (by kernel_rfl), ⟨_, _, _, Try.underlying118⟩⟩
theorem ty119 : TyOK Try.prog 119 ⟨.func, 1, 8, z119⟩ := ⟨TyOK.info_of (inf := Try.t119) (by kernel_rfl) rfl rfl (by kernel_rfl) rfl (by kernel_rfl), ⟨_, _, _, Try.underlying119⟩⟩
theorem ty120 : TyOK Try.prog 120 ⟨.func, 1, 8, z120⟩ := ⟨TyOK.info_of (inf := Try.t120) (by kernel_rfl) rfl rfl (by kernel_rfl) rfl (by kernel_rfl), ⟨_, _, _, Try.underlying120⟩⟩
theorem ty121 : TyOK Try.prog 121 ⟨.func, 1, 8, z121⟩ := ⟨TyOK.info_of (inf := Try.t121) (by kernel_rfl) rfl rfl (by kernel_rfl) rfl (by kernel_rfl), ⟨_, _, _, Try.underlying121⟩⟩
theorem ty122 : TyOK Try.prog 122 ⟨.tuple, 1, 0, .any⟩ := ⟨TyOK.info_any (inf := Try.t122) (by kernel_rfl) rfl rfl rfl, ⟨_, Try.underlying122⟩⟩
theorem ty123 : TyOK Try.prog 123 ⟨.func, 1, 8, z123⟩ := ⟨TyOK.info_of (inf := Try.t123) (by kernel_rfl) rfl rfl (by kernel_rfl) rfl (by kernel_rfl), ⟨_, _, _, Try.underlying123⟩⟩
theorem ty124 : TyOK Try.prog 124 ⟨.func, 1, 8, z124⟩ := ⟨TyOK.info_of (inf := Try.t124) (by kernel_rfl) rfl rfl (by kernel_rfl) rfl (by kernel_rfl), ⟨_, _, _, Try.underlying124⟩⟩
theorem ty125 : TyOK Try.prog 125 ⟨.func, 1, 8, z125⟩ := ⟨TyOK.info_of (inf := Try.t125) (by kernel_rfl) rfl rfl (by kernel_rfl) rfl (by kernel_rfl), ⟨_, _, _, Try.underlying125⟩⟩
theorem ty126 : TyOK Try.prog 126 ⟨.func, 1, 8, z126⟩ := ⟨TyOK.info_of (inf := Try.t126) (by kernel_rfl) rfl rfl (by kernel_rfl) rfl (by kernel_rfl), ⟨_, _, _, Try.underlying126⟩⟩
theorem ty127 : TyOK Try.prog 127 ⟨.func, 1, 8, z127⟩ := ⟨TyOK.info_of (inf := Try.t127) (by kernel_rfl) rfl rfl (by kernel_rfl) rfl (by kernel_rfl), ⟨_, _, _, Try.underlying127⟩⟩
theorem ty128 : TyOK Try.prog 128 ⟨.array 56 102, 280, 2240, z128⟩ := ⟨TyOK.info_of (inf := Try.t128) (by kernel_rfl) rfl rfl (by kernel_rfl) rfl (by kernel_rfl), ⟨Try.underlying128, by kernel_rfl⟩⟩
theorem ty129 : TyOK Try.prog 129 ⟨.func, 1, 8, z129⟩ := ⟨TyOK.info_of (inf := Try.t129) (by kernel_rfl) rfl rfl (by kernel_rfl) rfl (by kernel_rfl), ⟨_, _, _, Try.underlying129⟩⟩
theorem ty130 : TyOK Try.prog 130 ⟨.int .u64, 1, 8, z130⟩ := ⟨TyOK.info_of (inf := Try.t130) (by kernel_rfl) rfl rfl (by kernel_rfl) rfl (by kernel_rfl), Try.underlying130⟩
theorem ty131 : TyOK Try.prog 131 ⟨.func, 1, 8, z131⟩ := ⟨TyOK.info_of (inf := Try.t131) (by kernel_rfl) rfl rfl (by kernel_rfl) rfl (by kernel_rfl), ⟨_, _, _, Try.underlying131⟩⟩
theorem ty132 : TyOK Try.prog 132 ⟨.int .i8, 1, 1, z132⟩ := ⟨TyOK.info_of (inf := Try.t132) (by kernel_rfl) rfl rfl (by kernel_rfl) rfl (by kernel_rfl), Try.underlying132⟩
theorem ty133 : TyOK Try.prog 133 ⟨.func, 1, 8, z133⟩ := ⟨TyOK.info_of (inf := Try.t133) (by kernel_rfl) rfl rfl (by kernel_rfl) rfl (by kernel_rfl), ⟨_, _, _, Try.underlying133⟩⟩
theorem ty134 : TyOK Try.prog 134 ⟨.func, 1, 8, z134⟩ := ⟨TyOK.info_of (inf := Try.t134) (by kernel_rfl) rfl rfl (by kernel_rfl) rfl (by kernel_rfl), ⟨_, _, _, Try.underlying134⟩⟩
theorem ty135 : TyOK Try.prog 135 ⟨.slice 26, 1, 24, z135⟩ := ⟨TyOK.info_of (inf := Try.t135) (by kernel_rfl) rfl rfl (by kernel_rfl) rfl (by kernel_rfl), Try.underlying135⟩
theorem ty136 : TyOK Try.prog 136 ⟨.func, 1, 8, z136⟩ := ⟨TyOK.info_of (inf := Try.t136) (by kernel_rfl) rfl rfl (by kernel_rfl) rfl (by kernel_rfl), ⟨_, _, _, Try.underlying136⟩⟩
theorem ty137 : TyOK Try.prog 137 ⟨.func, 1, 8, z137⟩ := ⟨TyOK.info_of (inf := Try.t137) (by kernel_rfl) rfl rfl (by kernel_rfl) rfl (by kernel_rfl), ⟨_, _, _, Try.underlying137⟩⟩
theorem ty138 : TyOK Try.prog 138 ⟨.func, 1, 8, z138⟩ := ⟨TyOK.info_of (inf := Try.t138) (by kernel_rfl) rfl rfl (by kernel_rfl) rfl (by kernel_rfl), ⟨_, _, _, Try.underlying138⟩⟩
theorem ty139 : TyOK Try.prog 139 ⟨.func, 1, 8, z139⟩ := ⟨TyOK.info_of (inf := Try.t139) (by kernel_rfl) rfl rfl (by kernel_rfl) rfl (by kernel_rfl), ⟨_, _, _, Try.underlying139⟩⟩
theorem ty140 : TyOK Try.prog 140 ⟨.func, 1, 8, z140⟩ := ⟨TyOK.info_of (inf := Try.t140) (by kernel_rfl) rfl rfl (by kernel_rfl) rfl (by kernel_rfl), ⟨_, _, _, Try.underlying140⟩⟩
theorem ty143 : TyOK Try.prog 143 ⟨.array 0 16, 0, 0, z143⟩ := ⟨TyOK.info_of (inf := Try.t143) (by kernel_rfl) rfl rfl (by kernel_rfl) rfl (by kernel_rfl), ⟨Try.underlying143, by kernel_rfl⟩⟩
theorem ty146 : TyOK Try.prog 146 ⟨.func, 1, 8, z146⟩ := ⟨TyOK.info_of (inf := Try.t146) (by kernel_rfl) rfl rfl (by kernel_rfl) rfl (by kernel_rfl), ⟨_, _, _, Try.underlying146⟩⟩
theorem ty147 : TyOK Try.prog 147 ⟨.int .u32, 1, 4, z147⟩ := ⟨TyOK.info_of (inf := Try.t147) (by kernel_rfl) rfl rfl (by kernel_rfl) rfl (by kernel_rfl), Try.underlying147⟩
theorem ty148 : TyOK Try.prog 148 ⟨.int .u8, 1, 1, z148⟩ := ⟨TyOK.info_of (inf := Try.t148) (by kernel_rfl) rfl rfl (by kernel_rfl) rfl (by kernel_rfl), Try.underlying148⟩
theorem ty149 : TyOK Try.prog 149 ⟨.int .u8, 1, 1, z149⟩ := ⟨TyOK.info_of (inf := Try.t149) (by kernel_rfl) rfl rfl (by kernel_rfl) rfl (by kernel_rfl), Try.underlying149⟩
theorem ty150 : TyOK Try.prog 150 ⟨.func, 1, 8, z150⟩ := ⟨TyOK.info_of (inf := Try.t150) (by kernel_rfl) rfl rfl (by kernel_rfl) rfl (by kernel_rfl), ⟨_, _, _, Try.underlying150⟩⟩
theorem ty151 : TyOK Try.prog 151 ⟨.ptr 5, 1, 8, z151⟩ := ⟨TyOK.info_of (inf := Try.t151) (by kernel_rfl) rfl rfl (by kernel_rfl) rfl (by kernel_rfl), Try.underlying151⟩
theorem ty152 : TyOK Try.prog 152 ⟨.int .i32, 1, 4, z152⟩ := ⟨TyOK.info_of (inf := Try.t152) (by kernel_rfl) rfl rfl (by kernel_rfl) rfl (by kernel_rfl), Try.underlying152⟩
theorem ty153 : TyOK Try.prog 153 ⟨.int .i32, 1, 4, z153⟩ := ⟨TyOK.info_of (inf := Try.t153) (by kernel_rfl) rfl rfl (by kernel_rfl) rfl (by kernel_rfl), Try.underlying153⟩
theorem ty156 : TyOK Try.prog 156 ⟨.struct [0, 1, 2, 3, 4, 5, 6, 7, 8] [4, 4, 4, 3, 4, 4, 3, 3, 9], 9, 56, z156⟩ := ⟨TyOK.info_of (inf := Try.t156) (by kernel_rfl) rfl rfl (by kernel_rfl) rfl (by kernel_rfl), ⟨_, Try.underlying156, rfl, rfl, by kernel_rfl, by decide, by kernel_rfl⟩⟩
theorem ty157 : TyOK Try.prog 157 ⟨.struct [0, 1, 2, 3, 4, 5, 6, 7, 8] [4, 4, 4, 3, 4, 4, 3, 3, 9], 9, 56, z157⟩ := ⟨TyOK.info_of (inf := Try.t157) (by kernel_rfl) rfl rfl (by kernel_rfl) rfl (by kernel_rfl), ⟨_, Try.underlying157, rfl, rfl, by kernel_rfl, by decide, by kernel_rfl⟩⟩
theorem ty158 : TyOK Try.prog 158 ⟨.other, 1, 8, .any⟩ := ⟨TyOK.info_any (inf := Try.t158) (by kernel_rfl) rfl rfl rfl, ⟨_, Try.underlying158, rfl⟩⟩

theorem tabOK : TabOK Try.prog Θ := by
  intro t i h
  unfold Θ at h
  split at h
  · cases h; exact ty0
  · cases h; exact ty1
  · cases h; exact ty2
  · cases h; exact ty3
  · cases h; exact ty4
  · cases h; exact ty5
  · cases h; exact ty6
  · cases h; exact ty9
  · cases h; exact ty10
  · cases h; exact ty11
  · cases h; exact ty12
  · cases h; exact ty15
  · cases h; exact ty16
  · cases h; exact ty17
  · cases h; exact ty20
  · cases h; exact ty21
  · cases h; exact ty22
  · cases h; exact ty23
  · cases h; exact ty24
  · cases h; exact ty25
  · cases h; exact ty26
  · cases h; exact ty27
  · cases h; exact ty28
  · cases h; exact ty29
  · cases h; exact ty30
  · cases h; exact ty31
  · cases h; exact ty32
  · cases h; exact ty33
  · cases h; exact ty34
  · cases h; exact ty35
  · cases h; exact ty36
  · cases h; exact ty37
  · cases h; exact ty38
  · cases h; exact ty39
  · cases h; exact ty40
  · cases h; exact ty41
  · cases h; exact ty42
  · cases h; exact ty43
  · cases h; exact ty44
  · cases h; exact ty45
  · cases h; exact ty46
  · cases h; exact ty47
  · cases h; exact ty48
  · cases h; exact ty49
  · cases h; exact ty50
  · cases h; exact ty51
  · cases h; exact ty52
  · cases h; exact ty53
  · cases h; exact ty54
  · cases h; exact ty55
  · cases h; exact ty56
  · cases h; exact ty57
  · cases h; exact ty58
  · cases h; exact ty59
  · cases h; exact ty60
  · cases h; exact ty61
  · cases h; exact ty62
  · cases h; exact ty63
  · cases h; exact ty64
  · cases h; exact ty65
  · cases h; exact ty66
  · cases h; exact ty67
  · cases h; exact ty68
  · cases h; exact ty69
  · cases h; exact ty70
  · cases h; exact ty71
  · cases h; exact ty72
  · cases h; exact ty73
  · cases h; exact ty74
  · cases h; exact ty75
  · cases h; exact ty76
  · cases h; exact ty77
  · cases h; exact ty78
  · cases h; exact ty79
  · cases h; exact ty80
  · cases h; exact ty81
  · cases h; exact ty82
  · cases h; exact ty83
  · cases h; exact ty84
  · cases h; exact ty85
  · cases h; exact ty86
  · cases h; exact ty87
  · cases h; exact ty88
  · cases h; exact ty89
  · cases h; exact ty90
  · cases h; exact ty91
  · cases h; exact ty92
  · cases h; exact ty93
  · cases h; exact ty94
  · cases h; exact ty95
  · cases h; exact ty96
  · cases h; exact ty97
  · cases h; exact ty98
  · cases h; exact ty99
  · cases h; exact ty100
  · cases h; exact ty101
  · cases h; exact ty102
  · cases h; exact ty103
  · cases h; exact ty104
  · cases h; exact ty105
  · cases h; exact ty106
  · cases h; exact ty107
  · cases h; exact ty108
  · cases h; exact ty109
  · cases h; exact ty110
  · cases h; exact ty111
  · cases h; exact ty112
  · cases h; exact ty113
  · cases h; exact ty114
  · cases h; exact ty115
  · cases h; exact ty116
  · cases h; exact ty117
  · cases h; exact ty118
  · cases h; exact ty119
  · cases h; exact ty120
  · cases h; exact ty121
  · cases h; exact ty122
  · cases h; exact ty123
  · cases h; exact ty124
  · cases h; exact ty125
  · cases h; exact ty126
  · cases h; exact ty127
  · cases h; exact ty128
  · cases h; exact ty129
  · cases h; exact ty130
  · cases h; exact ty131
  · cases h; exact ty132
  · cases h; exact ty133
  · cases h; exact ty134
  · cases h; exact ty135
  · cases h; exact ty136
  · cases h; exact ty137
  · cases h; exact ty138
  · cases h; exact ty139
  · cases h; exact ty140
  · cases h; exact ty143
  · cases h; exact ty146
  · cases h; exact ty147
  · cases h; exact ty148
  · cases h; exact ty149
  · cases h; exact ty150
  · cases h; exact ty151
  · cases h; exact ty152
  · cases h; exact ty153
  · cases h; exact ty156
  · cases h; exact ty157
  · cases h; exact ty158
  · cases h

theorem mixedOK : Try.prog.follows .mixedOrders = true := Try.checked.mixed

end Go.Proofs.Ytnonimnhninafaa.Ab
