/- A part of the proof of a law over a given program: Ty. -/
import Derived.KernelRfl
import Derived.Test.YtckgcmgnpblnaaaGreatDoorProg
import Derived.Test.YtckgcmgnpblnaaaGreatDoorT10
set_option linter.unusedVariables false
set_option linter.unusedSimpArgs false
namespace Go.Ab
open Go.Proofs
@[push_cast] theorem ty1 : tiOf Tryz.prog 1 = some { k := .fn, size := 1, bytes := 8, zero := [.nilFunc], eqok := false } := by kernel_rfl
@[push_cast] theorem ty2 : tiOf Tryz.prog 2 = some { k := .int .i64, size := 1, bytes := 8, zero := [.int .i64 0], eqok := false } := by kernel_rfl
@[push_cast] theorem ty3 : tiOf Tryz.prog 3 = some { k := .int .i64, size := 1, bytes := 8, zero := [.int .i64 0], eqok := false } := by kernel_rfl
@[push_cast] theorem ty4 : tiOf Tryz.prog 4 = some { k := .bool, size := 1, bytes := 1, zero := [.bool false], eqok := false } := by kernel_rfl
@[push_cast] theorem ty5 : tiOf Tryz.prog 5 = some { k := .int .u8, size := 1, bytes := 1, zero := [.int .u8 0], eqok := false } := by kernel_rfl
@[push_cast] theorem ty6 : tiOf Tryz.prog 6 = some { k := .int .u8, size := 1, bytes := 1, zero := [.int .u8 0], eqok := false } := by kernel_rfl
@[push_cast] theorem ty7 : tiOf Tryz.prog 7 = some { k := .st [(0, 2), (1, 3), (2, 4), (3, 6)], size := 4, bytes := 24, zero := [.int .i64 0, .int .i64 0, .bool false, .int .u8 0], eqok := true } := by kernel_rfl
@[push_cast] theorem ty8 : tiOf Tryz.prog 8 = some { k := .st [(0, 2), (1, 3), (2, 4), (3, 6)], size := 4, bytes := 24, zero := [.int .i64 0, .int .i64 0, .bool false, .int .u8 0], eqok := true } := by kernel_rfl
@[push_cast] theorem ty9 : tiOf Tryz.prog 9 = some { k := .str, size := 1, bytes := 16, zero := [.string ByteArray.empty], eqok := false } := by kernel_rfl
@[push_cast] theorem ty10 : tiOf Tryz.prog 10 = some { k := .str, size := 1, bytes := 16, zero := [.string ByteArray.empty], eqok := false } := by kernel_rfl
@[push_cast] theorem ty11 : tiOf Tryz.prog 11 = some { k := .str, size := 1, bytes := 16, zero := [.string ByteArray.empty], eqok := false } := by kernel_rfl
@[push_cast] theorem ty12 : tiOf Tryz.prog 12 = some { k := .int .u64, size := 1, bytes := 8, zero := [.int .u64 0], eqok := false } := by kernel_rfl
@[push_cast] theorem ty13 : tiOf Tryz.prog 13 = some { k := .st [(0, 9), (1, 12)], size := 2, bytes := 24, zero := [.string ByteArray.empty, .int .u64 0], eqok := false } := by kernel_rfl
@[push_cast] theorem ty14 : tiOf Tryz.prog 14 = some { k := .st [(0, 9), (1, 12)], size := 2, bytes := 24, zero := [.string ByteArray.empty, .int .u64 0], eqok := false } := by kernel_rfl
@[push_cast] theorem ty15 : tiOf Tryz.prog 15 = some { k := .ptr 270, size := 1, bytes := 8, zero := [.pointer none], eqok := false } := by kernel_rfl
@[push_cast] theorem ty16 : tiOf Tryz.prog 16 = some { k := .ptr 273, size := 1, bytes := 8, zero := [.pointer none], eqok := false } := by kernel_rfl
@[push_cast] theorem ty17 : tiOf Tryz.prog 17 = some { k := .ptr 281, size := 1, bytes := 8, zero := [.pointer none], eqok := false } := by kernel_rfl
@[push_cast] theorem ty18 : tiOf Tryz.prog 18 = some { k := .st [(0, 17)], size := 1, bytes := 8, zero := [.pointer none], eqok := false } := by kernel_rfl
@[push_cast] theorem ty19 : tiOf Tryz.prog 19 = some { k := .st [(0, 17)], size := 1, bytes := 8, zero := [.pointer none], eqok := false } := by kernel_rfl
@[push_cast] theorem ty20 : tiOf Tryz.prog 20 = some { k := .ifc true, size := 1, bytes := 16, zero := [.nilIface], eqok := false } := by kernel_rfl
@[push_cast] theorem ty21 : tiOf Tryz.prog 21 = some { k := .int .i32, size := 1, bytes := 4, zero := [.int .i32 0], eqok := false } := by kernel_rfl
@[push_cast] theorem ty22 : tiOf Tryz.prog 22 = some { k := .sl 3, size := 1, bytes := 24, zero := [.slice none 0 0], eqok := false } := by kernel_rfl
@[push_cast] theorem ty23 : tiOf Tryz.prog 23 = some { k := .st [(0, 3), (1, 3)], size := 2, bytes := 16, zero := [.int .i64 0, .int .i64 0], eqok := true } := by kernel_rfl
@[push_cast] theorem ty24 : tiOf Tryz.prog 24 = some { k := .st [(0, 3), (1, 3)], size := 2, bytes := 16, zero := [.int .i64 0, .int .i64 0], eqok := true } := by kernel_rfl
@[push_cast] theorem ty25 : tiOf Tryz.prog 25 = some { k := .st [(0, 22), (1, 3), (2, 3), (3, 22), (4, 24)], size := 6, bytes := 80, zero := [.slice none 0 0, .int .i64 0, .int .i64 0, .slice none 0 0, .int .i64 0, .int .i64 0], eqok := true } := by kernel_rfl
@[push_cast] theorem ty26 : tiOf Tryz.prog 26 = some { k := .st [(0, 22), (1, 3), (2, 3), (3, 22), (4, 24)], size := 6, bytes := 80, zero := [.slice none 0 0, .int .i64 0, .int .i64 0, .slice none 0 0, .int .i64 0, .int .i64 0], eqok := true } := by kernel_rfl
@[push_cast] theorem ty27 : tiOf Tryz.prog 27 = some { k := .fn, size := 1, bytes := 8, zero := [.nilFunc], eqok := false } := by kernel_rfl
@[push_cast] theorem ty28 : tiOf Tryz.prog 28 = some { k := .fn, size := 1, bytes := 8, zero := [.nilFunc], eqok := false } := by kernel_rfl
@[push_cast] theorem ty29 : tiOf Tryz.prog 29 = some { k := .fn, size := 1, bytes := 8, zero := [.nilFunc], eqok := false } := by kernel_rfl
@[push_cast] theorem ty30 : tiOf Tryz.prog 30 = some { k := .ptr 26, size := 1, bytes := 8, zero := [.pointer none], eqok := false } := by kernel_rfl
@[push_cast] theorem ty31 : tiOf Tryz.prog 31 = some { k := .sl 41, size := 1, bytes := 24, zero := [.slice none 0 0], eqok := false } := by kernel_rfl
@[push_cast] theorem ty32 : tiOf Tryz.prog 32 = some { k := .int .i64, size := 1, bytes := 8, zero := [.int .i64 0], eqok := false } := by kernel_rfl
@[push_cast] theorem ty33 : tiOf Tryz.prog 33 = some { k := .fn, size := 1, bytes := 8, zero := [.nilFunc], eqok := false } := by kernel_rfl
@[push_cast] theorem ty34 : tiOf Tryz.prog 34 = some { k := .fn, size := 1, bytes := 8, zero := [.nilFunc], eqok := false } := by kernel_rfl
@[push_cast] theorem ty35 : tiOf Tryz.prog 35 = some { k := .sl 69, size := 1, bytes := 24, zero := [.slice none 0 0], eqok := false } := by kernel_rfl
@[push_cast] theorem ty37 : tiOf Tryz.prog 37 = some { k := .fn, size := 1, bytes := 8, zero := [.nilFunc], eqok := false } := by kernel_rfl
@[push_cast] theorem ty38 : tiOf Tryz.prog 38 = some { k := .ptr 58, size := 1, bytes := 8, zero := [.pointer none], eqok := false } := by kernel_rfl
@[push_cast] theorem ty39 : tiOf Tryz.prog 39 = some { k := .fn, size := 1, bytes := 8, zero := [.nilFunc], eqok := false } := by kernel_rfl
@[push_cast] theorem ty40 : tiOf Tryz.prog 40 = some { k := .ptr 35, size := 1, bytes := 8, zero := [.pointer none], eqok := false } := by kernel_rfl
@[push_cast] theorem ty41 : tiOf Tryz.prog 41 = some { k := .fn, size := 1, bytes := 8, zero := [.nilFunc], eqok := false } := by kernel_rfl
@[push_cast] theorem ty43 : tiOf Tryz.prog 43 = some { k := .fn, size := 1, bytes := 8, zero := [.nilFunc], eqok := false } := by kernel_rfl
@[push_cast] theorem ty45 : tiOf Tryz.prog 45 = some { k := .fn, size := 1, bytes := 8, zero := [.nilFunc], eqok := false } := by kernel_rfl
@[push_cast] theorem ty46 : tiOf Tryz.prog 46 = some { k := .fn, size := 1, bytes := 8, zero := [.nilFunc], eqok := false } := by kernel_rfl
@[push_cast] theorem ty47 : tiOf Tryz.prog 47 = some { k := .ptr 22, size := 1, bytes := 8, zero := [.pointer none], eqok := false } := by kernel_rfl
@[push_cast] theorem ty48 : tiOf Tryz.prog 48 = some { k := .fn, size := 1, bytes := 8, zero := [.nilFunc], eqok := false } := by kernel_rfl
@[push_cast] theorem ty50 : tiOf Tryz.prog 50 = some { k := .fn, size := 1, bytes := 8, zero := [.nilFunc], eqok := false } := by kernel_rfl
@[push_cast] theorem ty52 : tiOf Tryz.prog 52 = some { k := .fn, size := 1, bytes := 8, zero := [.nilFunc], eqok := false } := by kernel_rfl
@[push_cast] theorem ty53 : tiOf Tryz.prog 53 = some { k := .sl 34, size := 1, bytes := 24, zero := [.slice none 0 0], eqok := false } := by kernel_rfl
@[push_cast] theorem ty54 : tiOf Tryz.prog 54 = some { k := .fn, size := 1, bytes := 8, zero := [.nilFunc], eqok := false } := by kernel_rfl
@[push_cast] theorem ty55 : tiOf Tryz.prog 55 = some { k := .fn, size := 1, bytes := 8, zero := [.nilFunc], eqok := false } := by kernel_rfl
@[push_cast] theorem ty56 : tiOf Tryz.prog 56 = some { k := .sl 9, size := 1, bytes := 24, zero := [.slice none 0 0], eqok := false } := by kernel_rfl
@[push_cast] theorem ty57 : tiOf Tryz.prog 57 = some { k := .st [(0, 22), (1, 56), (2, 4), (3, 3)], size := 4, bytes := 64, zero := [.slice none 0 0, .slice none 0 0, .bool false, .int .i64 0], eqok := true } := by kernel_rfl
@[push_cast] theorem ty58 : tiOf Tryz.prog 58 = some { k := .st [(0, 22), (1, 56), (2, 4), (3, 3)], size := 4, bytes := 64, zero := [.slice none 0 0, .slice none 0 0, .bool false, .int .i64 0], eqok := true } := by kernel_rfl
@[push_cast] theorem ty59 : tiOf Tryz.prog 59 = some { k := .sl 58, size := 1, bytes := 24, zero := [.slice none 0 0], eqok := false } := by kernel_rfl
@[push_cast] theorem ty60 : tiOf Tryz.prog 60 = some { k := .fn, size := 1, bytes := 8, zero := [.nilFunc], eqok := false } := by kernel_rfl
@[push_cast] theorem ty61 : tiOf Tryz.prog 61 = some { k := .fn, size := 1, bytes := 8, zero := [.nilFunc], eqok := false } := by kernel_rfl
@[push_cast] theorem ty62 : tiOf Tryz.prog 62 = some { k := .fn, size := 1, bytes := 8, zero := [.nilFunc], eqok := false } := by kernel_rfl
@[push_cast] theorem ty63 : tiOf Tryz.prog 63 = some { k := .fn, size := 1, bytes := 8, zero := [.nilFunc], eqok := false } := by kernel_rfl
@[push_cast] theorem ty64 : tiOf Tryz.prog 64 = some { k := .fn, size := 1, bytes := 8, zero := [.nilFunc], eqok := false } := by kernel_rfl
@[push_cast] theorem ty65 : tiOf Tryz.prog 65 = some { k := .ptr 3, size := 1, bytes := 8, zero := [.pointer none], eqok := false } := by kernel_rfl
@[push_cast] theorem ty66 : tiOf Tryz.prog 66 = some { k := .fn, size := 1, bytes := 8, zero := [.nilFunc], eqok := false } := by kernel_rfl
@[push_cast] theorem ty67 : tiOf Tryz.prog 67 = some { k := .ptr 24, size := 1, bytes := 8, zero := [.pointer none], eqok := false } := by kernel_rfl
@[push_cast] theorem ty68 : tiOf Tryz.prog 68 = some { k := .fn, size := 1, bytes := 8, zero := [.nilFunc], eqok := false } := by kernel_rfl
@[push_cast] theorem ty69 : tiOf Tryz.prog 69 = some { k := .arr 2 3, size := 2, bytes := 16, zero := [.int .i64 0, .int .i64 0], eqok := true } := by kernel_rfl
@[push_cast] theorem ty71 : tiOf Tryz.prog 71 = some { k := .fn, size := 1, bytes := 8, zero := [.nilFunc], eqok := false } := by kernel_rfl
@[push_cast] theorem ty72 : tiOf Tryz.prog 72 = some { k := .fn, size := 1, bytes := 8, zero := [.nilFunc], eqok := false } := by kernel_rfl
@[push_cast] theorem ty73 : tiOf Tryz.prog 73 = some { k := .fn, size := 1, bytes := 8, zero := [.nilFunc], eqok := false } := by kernel_rfl
@[push_cast] theorem ty74 : tiOf Tryz.prog 74 = some { k := .st [(0, 3), (1, 22), (2, 4)], size := 3, bytes := 40, zero := [.int .i64 0, .slice none 0 0, .bool false], eqok := true } := by kernel_rfl
@[push_cast] theorem ty75 : tiOf Tryz.prog 75 = some { k := .st [(0, 3), (1, 22), (2, 4)], size := 3, bytes := 40, zero := [.int .i64 0, .slice none 0 0, .bool false], eqok := true } := by kernel_rfl
@[push_cast] theorem ty76 : tiOf Tryz.prog 76 = some { k := .fn, size := 1, bytes := 8, zero := [.nilFunc], eqok := false } := by kernel_rfl
@[push_cast] theorem ty77 : tiOf Tryz.prog 77 = some { k := .fn, size := 1, bytes := 8, zero := [.nilFunc], eqok := false } := by kernel_rfl
@[push_cast] theorem ty78 : tiOf Tryz.prog 78 = some { k := .fn, size := 1, bytes := 8, zero := [.nilFunc], eqok := false } := by kernel_rfl
@[push_cast] theorem ty79 : tiOf Tryz.prog 79 = some { k := .fn, size := 1, bytes := 8, zero := [.nilFunc], eqok := false } := by kernel_rfl
@[push_cast] theorem ty80 : tiOf Tryz.prog 80 = some { k := .fn, size := 1, bytes := 8, zero := [.nilFunc], eqok := false } := by kernel_rfl
@[push_cast] theorem ty81 : tiOf Tryz.prog 81 = some { k := .fn, size := 1, bytes := 8, zero := [.nilFunc], eqok := false } := by kernel_rfl
@[push_cast] theorem ty83 : tiOf Tryz.prog 83 = some { k := .fn, size := 1, bytes := 8, zero := [.nilFunc], eqok := false } := by kernel_rfl
@[push_cast] theorem ty84 : tiOf Tryz.prog 84 = some { k := .ptr 69, size := 1, bytes := 8, zero := [.pointer none], eqok := false } := by kernel_rfl
@[push_cast] theorem ty85 : tiOf Tryz.prog 85 = some { k := .fn, size := 1, bytes := 8, zero := [.nilFunc], eqok := false } := by kernel_rfl
@[push_cast] theorem ty86 : tiOf Tryz.prog 86 = some { k := .sl 22, size := 1, bytes := 24, zero := [.slice none 0 0], eqok := false } := by kernel_rfl
@[push_cast] theorem ty88 : tiOf Tryz.prog 88 = some { k := .fn, size := 1, bytes := 8, zero := [.nilFunc], eqok := false } := by kernel_rfl
@[push_cast] theorem ty89 : tiOf Tryz.prog 89 = some { k := .fn, size := 1, bytes := 8, zero := [.nilFunc], eqok := false } := by kernel_rfl
@[push_cast] theorem ty90 : tiOf Tryz.prog 90 = some { k := .fn, size := 1, bytes := 8, zero := [.nilFunc], eqok := false } := by kernel_rfl
@[push_cast] theorem ty91 : tiOf Tryz.prog 91 = some { k := .st [(0, 3), (1, 86)], size := 2, bytes := 32, zero := [.int .i64 0, .slice none 0 0], eqok := true } := by kernel_rfl
@[push_cast] theorem ty92 : tiOf Tryz.prog 92 = some { k := .st [(0, 3), (1, 86)], size := 2, bytes := 32, zero := [.int .i64 0, .slice none 0 0], eqok := true } := by kernel_rfl
@[push_cast] theorem ty93 : tiOf Tryz.prog 93 = some { k := .fn, size := 1, bytes := 8, zero := [.nilFunc], eqok := false } := by kernel_rfl
@[push_cast] theorem ty94 : tiOf Tryz.prog 94 = some { k := .st [(0, 22), (1, 9)], size := 2, bytes := 40, zero := [.slice none 0 0, .string ByteArray.empty], eqok := true } := by kernel_rfl
@[push_cast] theorem ty95 : tiOf Tryz.prog 95 = some { k := .st [(0, 22), (1, 9)], size := 2, bytes := 40, zero := [.slice none 0 0, .string ByteArray.empty], eqok := true } := by kernel_rfl
@[push_cast] theorem ty96 : tiOf Tryz.prog 96 = some { k := .fn, size := 1, bytes := 8, zero := [.nilFunc], eqok := false } := by kernel_rfl
@[push_cast] theorem ty97 : tiOf Tryz.prog 97 = some { k := .fn, size := 1, bytes := 8, zero := [.nilFunc], eqok := false } := by kernel_rfl
@[push_cast] theorem ty98 : tiOf Tryz.prog 98 = some { k := .st [(0, 3), (1, 3), (2, 3)], size := 3, bytes := 24, zero := [.int .i64 0, .int .i64 0, .int .i64 0], eqok := true } := by kernel_rfl
@[push_cast] theorem ty99 : tiOf Tryz.prog 99 = some { k := .st [(0, 3), (1, 3), (2, 3)], size := 3, bytes := 24, zero := [.int .i64 0, .int .i64 0, .int .i64 0], eqok := true } := by kernel_rfl
@[push_cast] theorem ty100 : tiOf Tryz.prog 100 = some { k := .sl 99, size := 1, bytes := 24, zero := [.slice none 0 0], eqok := false } := by kernel_rfl
@[push_cast] theorem ty101 : tiOf Tryz.prog 101 = some { k := .fn, size := 1, bytes := 8, zero := [.nilFunc], eqok := false } := by kernel_rfl
@[push_cast] theorem ty103 : tiOf Tryz.prog 103 = some { k := .fn, size := 1, bytes := 8, zero := [.nilFunc], eqok := false } := by kernel_rfl
@[push_cast] theorem ty104 : tiOf Tryz.prog 104 = some { k := .fn, size := 1, bytes := 8, zero := [.nilFunc], eqok := false } := by kernel_rfl
@[push_cast] theorem ty105 : tiOf Tryz.prog 105 = some { k := .st [(0, 3), (1, 86)], size := 2, bytes := 32, zero := [.int .i64 0, .slice none 0 0], eqok := true } := by kernel_rfl
@[push_cast] theorem ty106 : tiOf Tryz.prog 106 = some { k := .st [(0, 3), (1, 86)], size := 2, bytes := 32, zero := [.int .i64 0, .slice none 0 0], eqok := true } := by kernel_rfl
@[push_cast] theorem ty107 : tiOf Tryz.prog 107 = some { k := .fn, size := 1, bytes := 8, zero := [.nilFunc], eqok := false } := by kernel_rfl
@[push_cast] theorem ty108 : tiOf Tryz.prog 108 = some { k := .st [(0, 3), (1, 35)], size := 2, bytes := 32, zero := [.int .i64 0, .slice none 0 0], eqok := true } := by kernel_rfl
@[push_cast] theorem ty109 : tiOf Tryz.prog 109 = some { k := .st [(0, 3), (1, 35)], size := 2, bytes := 32, zero := [.int .i64 0, .slice none 0 0], eqok := true } := by kernel_rfl
@[push_cast] theorem ty110 : tiOf Tryz.prog 110 = some { k := .fn, size := 1, bytes := 8, zero := [.nilFunc], eqok := false } := by kernel_rfl
@[push_cast] theorem ty111 : tiOf Tryz.prog 111 = some { k := .fn, size := 1, bytes := 8, zero := [.nilFunc], eqok := false } := by kernel_rfl
@[push_cast] theorem ty112 : tiOf Tryz.prog 112 = some { k := .fn, size := 1, bytes := 8, zero := [.nilFunc], eqok := false } := by kernel_rfl
@[push_cast] theorem ty113 : tiOf Tryz.prog 113 = some { k := .st [(0, 3), (1, 3)], size := 2, bytes := 16, zero := [.int .i64 0, .int .i64 0], eqok := true } := by kernel_rfl
@[push_cast] theorem ty114 : tiOf Tryz.prog 114 = some { k := .st [(0, 3), (1, 3)], size := 2, bytes := 16, zero := [.int .i64 0, .int .i64 0], eqok := true } := by kernel_rfl
@[push_cast] theorem ty115 : tiOf Tryz.prog 115 = some { k := .sl 114, size := 1, bytes := 24, zero := [.slice none 0 0], eqok := false } := by kernel_rfl
@[push_cast] theorem ty116 : tiOf Tryz.prog 116 = some { k := .int .u64, size := 1, bytes := 8, zero := [.int .u64 0], eqok := false } := by kernel_rfl
@[push_cast] theorem ty117 : tiOf Tryz.prog 117 = some { k := .fn, size := 1, bytes := 8, zero := [.nilFunc], eqok := false } := by kernel_rfl
@[push_cast] theorem ty118 : tiOf Tryz.prog 118 = some { k := .fn, size := 1, bytes := 8, zero := [.nilFunc], eqok := false } := by kernel_rfl
@[push_cast] theorem ty119 : tiOf Tryz.prog 119 = some { k := .fn, size := 1, bytes := 8, zero := [.nilFunc], eqok := false } := by kernel_rfl
@[push_cast] theorem ty120 : tiOf Tryz.prog 120 = some { k := .fn, size := 1, bytes := 8, zero := [.nilFunc], eqok := false } := by kernel_rfl
@[push_cast] theorem ty121 : tiOf Tryz.prog 121 = some { k := .fn, size := 1, bytes := 8, zero := [.nilFunc], eqok := false } := by kernel_rfl
@[push_cast] theorem ty122 : tiOf Tryz.prog 122 = some { k := .int .u8, size := 1, bytes := 1, zero := [.int .u8 0], eqok := false } := by kernel_rfl
@[push_cast] theorem ty124 : tiOf Tryz.prog 124 = some { k := .fn, size := 1, bytes := 8, zero := [.nilFunc], eqok := false } := by kernel_rfl
@[push_cast] theorem ty126 : tiOf Tryz.prog 126 = some { k := .fn, size := 1, bytes := 8, zero := [.nilFunc], eqok := false } := by kernel_rfl
@[push_cast] theorem ty127 : tiOf Tryz.prog 127 = some { k := .fn, size := 1, bytes := 8, zero := [.nilFunc], eqok := false } := by kernel_rfl
@[push_cast] theorem ty128 : tiOf Tryz.prog 128 = some { k := .fn, size := 1, bytes := 8, zero := [.nilFunc], eqok := false } := by kernel_rfl
@[push_cast] theorem ty129 : tiOf Tryz.prog 129 = some { k := .fn, size := 1, bytes := 8, zero := [.nilFunc], eqok := false } := by kernel_rfl
@[push_cast] theorem ty130 : tiOf Tryz.prog 130 = some { k := .fn, size := 1, bytes := 8, zero := [.nilFunc], eqok := false } := by kernel_rfl
@[push_cast] theorem ty131 : tiOf Tryz.prog 131 = some { k := .fn, size := 1, bytes := 8, zero := [.nilFunc], eqok := false } := by kernel_rfl
@[push_cast] theorem ty132 : tiOf Tryz.prog 132 = some { k := .fn, size := 1, bytes := 8, zero := [.nilFunc], eqok := false } := by kernel_rfl
@[push_cast] theorem ty133 : tiOf Tryz.prog 133 = some { k := .st [(0, 4), (1, 3)], size := 2, bytes := 16, zero := [.bool false, .int .i64 0], eqok := true } := by kernel_rfl
@[push_cast] theorem ty134 : tiOf Tryz.prog 134 = some { k := .st [(0, 4), (1, 3)], size := 2, bytes := 16, zero := [.bool false, .int .i64 0], eqok := true } := by kernel_rfl
@[push_cast] theorem ty135 : tiOf Tryz.prog 135 = some { k := .st [(0, 3), (1, 3), (2, 4), (3, 134)], size := 5, bytes := 40, zero := [.int .i64 0, .int .i64 0, .bool false, .bool false, .int .i64 0], eqok := true } := by kernel_rfl
@[push_cast] theorem ty136 : tiOf Tryz.prog 136 = some { k := .st [(0, 3), (1, 3), (2, 4), (3, 134)], size := 5, bytes := 40, zero := [.int .i64 0, .int .i64 0, .bool false, .bool false, .int .i64 0], eqok := true } := by kernel_rfl
@[push_cast] theorem ty137 : tiOf Tryz.prog 137 = some { k := .arr 13 136, size := 65, bytes := 520, zero := [.int .i64 0, .int .i64 0, .bool false, .bool false, .int .i64 0, .int .i64 0, .int .i64 0, .bool false, .bool false, .int .i64 0, .int .i64 0, .int .i64 0, .bool false, .bool false, .int .i64 0, .int .i64 0, .int .i64 0, .bool false, .bool false, .int .i64 0, .int .i64 0, .int .i64 0, .bool false, .bool false, .int .i64 0, .int .i64 0, .int .i64 0, .bool false, .bool false, .int .i64 0, .int .i64 0, .int .i64 0, .bool false, .bool false, .int .i64 0, .int .i64 0, .int .i64 0, .bool false, .bool false, .int .i64 0, .int .i64 0, .int .i64 0, .bool false, .bool false, .int .i64 0, .int .i64 0, .int .i64 0, .bool false, .bool false, .int .i64 0, .int .i64 0, .int .i64 0, .bool false, .bool false, .int .i64 0, .int .i64 0, .int .i64 0, .bool false, .bool false, .int .i64 0, .int .i64 0, .int .i64 0, .bool false, .bool false, .int .i64 0], eqok := true } := by kernel_rfl
@[push_cast] theorem ty138 : tiOf Tryz.prog 138 = some { k := .ptr 187, size := 1, bytes := 8, zero := [.pointer none], eqok := false } := by kernel_rfl
@[push_cast] theorem ty139 : tiOf Tryz.prog 139 = some { k := .fn, size := 1, bytes := 8, zero := [.nilFunc], eqok := false } := by kernel_rfl
@[push_cast] theorem ty140 : tiOf Tryz.prog 140 = some { k := .fn, size := 1, bytes := 8, zero := [.nilFunc], eqok := false } := by kernel_rfl
@[push_cast] theorem ty141 : tiOf Tryz.prog 141 = some { k := .sl 145, size := 1, bytes := 24, zero := [.slice none 0 0], eqok := false } := by kernel_rfl
@[push_cast] theorem ty142 : tiOf Tryz.prog 142 = some { k := .fn, size := 1, bytes := 8, zero := [.nilFunc], eqok := false } := by kernel_rfl
@[push_cast] theorem ty143 : tiOf Tryz.prog 143 = some { k := .fn, size := 1, bytes := 8, zero := [.nilFunc], eqok := false } := by kernel_rfl
@[push_cast] theorem ty144 : tiOf Tryz.prog 144 = some { k := .st [(0, 3), (1, 143)], size := 2, bytes := 16, zero := [.int .i64 0, .nilFunc], eqok := true } := by kernel_rfl
@[push_cast] theorem ty145 : tiOf Tryz.prog 145 = some { k := .st [(0, 3), (1, 143)], size := 2, bytes := 16, zero := [.int .i64 0, .nilFunc], eqok := true } := by kernel_rfl
@[push_cast] theorem ty146 : tiOf Tryz.prog 146 = some { k := .fn, size := 1, bytes := 8, zero := [.nilFunc], eqok := false } := by kernel_rfl
@[push_cast] theorem ty147 : tiOf Tryz.prog 147 = some { k := .fn, size := 1, bytes := 8, zero := [.nilFunc], eqok := false } := by kernel_rfl
@[push_cast] theorem ty148 : tiOf Tryz.prog 148 = some { k := .fn, size := 1, bytes := 8, zero := [.nilFunc], eqok := false } := by kernel_rfl
@[push_cast] theorem ty149 : tiOf Tryz.prog 149 = some { k := .fn, size := 1, bytes := 8, zero := [.nilFunc], eqok := false } := by kernel_rfl
@[push_cast] theorem ty150 : tiOf Tryz.prog 150 = some { k := .fn, size := 1, bytes := 8, zero := [.nilFunc], eqok := false } := by kernel_rfl
@[push_cast] theorem ty151 : tiOf Tryz.prog 151 = some { k := .arr 8 5, size := 8, bytes := 8, zero := [.int .u8 0, .int .u8 0, .int .u8 0, .int .u8 0, .int .u8 0, .int .u8 0, .int .u8 0, .int .u8 0], eqok := true } := by kernel_rfl
@[push_cast] theorem ty152 : tiOf Tryz.prog 152 = some { k := .arr 8 5, size := 8, bytes := 8, zero := [.int .u8 0, .int .u8 0, .int .u8 0, .int .u8 0, .int .u8 0, .int .u8 0, .int .u8 0, .int .u8 0], eqok := true } := by kernel_rfl
@[push_cast] theorem ty153 : tiOf Tryz.prog 153 = some { k := .fn, size := 1, bytes := 8, zero := [.nilFunc], eqok := false } := by kernel_rfl
@[push_cast] theorem ty154 : tiOf Tryz.prog 154 = some { k := .arr 6 116, size := 6, bytes := 48, zero := [.int .u64 0, .int .u64 0, .int .u64 0, .int .u64 0, .int .u64 0, .int .u64 0], eqok := true } := by kernel_rfl
@[push_cast] theorem ty155 : tiOf Tryz.prog 155 = some { k := .arr 6 116, size := 6, bytes := 48, zero := [.int .u64 0, .int .u64 0, .int .u64 0, .int .u64 0, .int .u64 0, .int .u64 0], eqok := true } := by kernel_rfl
@[push_cast] theorem ty157 : tiOf Tryz.prog 157 = some { k := .fn, size := 1, bytes := 8, zero := [.nilFunc], eqok := false } := by kernel_rfl
@[push_cast] theorem ty158 : tiOf Tryz.prog 158 = some { k := .arr 14 116, size := 14, bytes := 112, zero := [.int .u64 0, .int .u64 0, .int .u64 0, .int .u64 0, .int .u64 0, .int .u64 0, .int .u64 0, .int .u64 0, .int .u64 0, .int .u64 0, .int .u64 0, .int .u64 0, .int .u64 0, .int .u64 0], eqok := true } := by kernel_rfl
@[push_cast] theorem ty159 : tiOf Tryz.prog 159 = some { k := .fn, size := 1, bytes := 8, zero := [.nilFunc], eqok := false } := by kernel_rfl
@[push_cast] theorem ty160 : tiOf Tryz.prog 160 = some { k := .map 116 3, size := 1, bytes := 8, zero := [.map none], eqok := false } := by kernel_rfl
@[push_cast] theorem ty161 : tiOf Tryz.prog 161 = some { k := .fn, size := 1, bytes := 8, zero := [.nilFunc], eqok := false } := by kernel_rfl
@[push_cast] theorem ty162 : tiOf Tryz.prog 162 = some { k := .fn, size := 1, bytes := 8, zero := [.nilFunc], eqok := false } := by kernel_rfl
@[push_cast] theorem ty163 : tiOf Tryz.prog 163 = some { k := .fn, size := 1, bytes := 8, zero := [.nilFunc], eqok := false } := by kernel_rfl
@[push_cast] theorem ty164 : tiOf Tryz.prog 164 = some { k := .arr 3 3, size := 3, bytes := 24, zero := [.int .i64 0, .int .i64 0, .int .i64 0], eqok := true } := by kernel_rfl
@[push_cast] theorem ty165 : tiOf Tryz.prog 165 = some { k := .fn, size := 1, bytes := 8, zero := [.nilFunc], eqok := false } := by kernel_rfl
@[push_cast] theorem ty166 : tiOf Tryz.prog 166 = some { k := .fn, size := 1, bytes := 8, zero := [.nilFunc], eqok := false } := by kernel_rfl
@[push_cast] theorem ty167 : tiOf Tryz.prog 167 = some { k := .fn, size := 1, bytes := 8, zero := [.nilFunc], eqok := false } := by kernel_rfl
@[push_cast] theorem ty168 : tiOf Tryz.prog 168 = some { k := .fn, size := 1, bytes := 8, zero := [.nilFunc], eqok := false } := by kernel_rfl
@[push_cast] theorem ty169 : tiOf Tryz.prog 169 = some { k := .fn, size := 1, bytes := 8, zero := [.nilFunc], eqok := false } := by kernel_rfl
@[push_cast] theorem ty170 : tiOf Tryz.prog 170 = some { k := .map 122 4, size := 1, bytes := 8, zero := [.map none], eqok := false } := by kernel_rfl
@[push_cast] theorem ty171 : tiOf Tryz.prog 171 = some { k := .sl 122, size := 1, bytes := 24, zero := [.slice none 0 0], eqok := false } := by kernel_rfl
@[push_cast] theorem ty172 : tiOf Tryz.prog 172 = some { k := .fn, size := 1, bytes := 8, zero := [.nilFunc], eqok := false } := by kernel_rfl
@[push_cast] theorem ty173 : tiOf Tryz.prog 173 = some { k := .ifc false, size := 1, bytes := 16, zero := [.nilIface], eqok := false } := by kernel_rfl
@[push_cast] theorem ty174 : tiOf Tryz.prog 174 = some { k := .ifc false, size := 1, bytes := 16, zero := [.nilIface], eqok := false } := by kernel_rfl
@[push_cast] theorem ty175 : tiOf Tryz.prog 175 = some { k := .fn, size := 1, bytes := 8, zero := [.nilFunc], eqok := false } := by kernel_rfl
@[push_cast] theorem ty176 : tiOf Tryz.prog 176 = some { k := .fn, size := 1, bytes := 8, zero := [.nilFunc], eqok := false } := by kernel_rfl
@[push_cast] theorem ty177 : tiOf Tryz.prog 177 = some { k := .fn, size := 1, bytes := 8, zero := [.nilFunc], eqok := false } := by kernel_rfl
@[push_cast] theorem ty178 : tiOf Tryz.prog 178 = some { k := .fn, size := 1, bytes := 8, zero := [.nilFunc], eqok := false } := by kernel_rfl
@[push_cast] theorem ty179 : tiOf Tryz.prog 179 = some { k := .ptr 227, size := 1, bytes := 8, zero := [.pointer none], eqok := false } := by kernel_rfl
@[push_cast] theorem ty180 : tiOf Tryz.prog 180 = some { k := .fn, size := 1, bytes := 8, zero := [.nilFunc], eqok := false } := by kernel_rfl
@[push_cast] theorem ty181 : tiOf Tryz.prog 181 = some { k := .arr 7 3, size := 7, bytes := 56, zero := [.int .i64 0, .int .i64 0, .int .i64 0, .int .i64 0, .int .i64 0, .int .i64 0, .int .i64 0], eqok := true } := by kernel_rfl
@[push_cast] theorem ty182 : tiOf Tryz.prog 182 = some { k := .arr 7 3, size := 7, bytes := 56, zero := [.int .i64 0, .int .i64 0, .int .i64 0, .int .i64 0, .int .i64 0, .int .i64 0, .int .i64 0], eqok := true } := by kernel_rfl
@[push_cast] theorem ty183 : tiOf Tryz.prog 183 = some { k := .fn, size := 1, bytes := 8, zero := [.nilFunc], eqok := false } := by kernel_rfl
@[push_cast] theorem ty184 : tiOf Tryz.prog 184 = some { k := .fn, size := 1, bytes := 8, zero := [.nilFunc], eqok := false } := by kernel_rfl
@[push_cast] theorem ty185 : tiOf Tryz.prog 185 = some { k := .fn, size := 1, bytes := 8, zero := [.nilFunc], eqok := false } := by kernel_rfl
@[push_cast] theorem ty188 : tiOf Tryz.prog 188 = some { k := .ptr 136, size := 1, bytes := 8, zero := [.pointer none], eqok := false } := by kernel_rfl
@[push_cast] theorem ty189 : tiOf Tryz.prog 189 = some { k := .fn, size := 1, bytes := 8, zero := [.nilFunc], eqok := false } := by kernel_rfl
@[push_cast] theorem ty190 : tiOf Tryz.prog 190 = some { k := .fn, size := 1, bytes := 8, zero := [.nilFunc], eqok := false } := by kernel_rfl
@[push_cast] theorem ty191 : tiOf Tryz.prog 191 = some { k := .fn, size := 1, bytes := 8, zero := [.nilFunc], eqok := false } := by kernel_rfl
@[push_cast] theorem ty193 : tiOf Tryz.prog 193 = some { k := .fn, size := 1, bytes := 8, zero := [.nilFunc], eqok := false } := by kernel_rfl
@[push_cast] theorem ty194 : tiOf Tryz.prog 194 = some { k := .fn, size := 1, bytes := 8, zero := [.nilFunc], eqok := false } := by kernel_rfl
@[push_cast] theorem ty195 : tiOf Tryz.prog 195 = some { k := .fn, size := 1, bytes := 8, zero := [.nilFunc], eqok := false } := by kernel_rfl
@[push_cast] theorem ty196 : tiOf Tryz.prog 196 = some { k := .fn, size := 1, bytes := 8, zero := [.nilFunc], eqok := false } := by kernel_rfl
@[push_cast] theorem ty197 : tiOf Tryz.prog 197 = some { k := .fn, size := 1, bytes := 8, zero := [.nilFunc], eqok := false } := by kernel_rfl
@[push_cast] theorem ty198 : tiOf Tryz.prog 198 = some { k := .fn, size := 1, bytes := 8, zero := [.nilFunc], eqok := false } := by kernel_rfl
@[push_cast] theorem ty199 : tiOf Tryz.prog 199 = some { k := .arr 61 4, size := 61, bytes := 61, zero := [.bool false, .bool false, .bool false, .bool false, .bool false, .bool false, .bool false, .bool false, .bool false, .bool false, .bool false, .bool false, .bool false, .bool false, .bool false, .bool false, .bool false, .bool false, .bool false, .bool false, .bool false, .bool false, .bool false, .bool false, .bool false, .bool false, .bool false, .bool false, .bool false, .bool false, .bool false, .bool false, .bool false, .bool false, .bool false, .bool false, .bool false, .bool false, .bool false, .bool false, .bool false, .bool false, .bool false, .bool false, .bool false, .bool false, .bool false, .bool false, .bool false, .bool false, .bool false, .bool false, .bool false, .bool false, .bool false, .bool false, .bool false, .bool false, .bool false, .bool false, .bool false], eqok := true } := by kernel_rfl
@[push_cast] theorem ty200 : tiOf Tryz.prog 200 = some { k := .fn, size := 1, bytes := 8, zero := [.nilFunc], eqok := false } := by kernel_rfl
@[push_cast] theorem ty201 : tiOf Tryz.prog 201 = some { k := .fn, size := 1, bytes := 8, zero := [.nilFunc], eqok := false } := by kernel_rfl
@[push_cast] theorem ty202 : tiOf Tryz.prog 202 = some { k := .fn, size := 1, bytes := 8, zero := [.nilFunc], eqok := false } := by kernel_rfl
@[push_cast] theorem ty203 : tiOf Tryz.prog 203 = some { k := .ptr 206, size := 1, bytes := 8, zero := [.pointer none], eqok := false } := by kernel_rfl
@[push_cast] theorem ty204 : tiOf Tryz.prog 204 = some { k := .fn, size := 1, bytes := 8, zero := [.nilFunc], eqok := false } := by kernel_rfl
@[push_cast] theorem ty205 : tiOf Tryz.prog 205 = some { k := .st [(0, 115), (1, 204)], size := 2, bytes := 32, zero := [.slice none 0 0, .nilFunc], eqok := true } := by kernel_rfl
@[push_cast] theorem ty206 : tiOf Tryz.prog 206 = some { k := .st [(0, 115), (1, 204)], size := 2, bytes := 32, zero := [.slice none 0 0, .nilFunc], eqok := true } := by kernel_rfl
@[push_cast] theorem ty207 : tiOf Tryz.prog 207 = some { k := .fn, size := 1, bytes := 8, zero := [.nilFunc], eqok := false } := by kernel_rfl
@[push_cast] theorem ty209 : tiOf Tryz.prog 209 = some { k := .fn, size := 1, bytes := 8, zero := [.nilFunc], eqok := false } := by kernel_rfl
@[push_cast] theorem ty210 : tiOf Tryz.prog 210 = some { k := .fn, size := 1, bytes := 8, zero := [.nilFunc], eqok := false } := by kernel_rfl
@[push_cast] theorem ty211 : tiOf Tryz.prog 211 = some { k := .int .i64, size := 1, bytes := 8, zero := [.int .i64 0], eqok := false } := by kernel_rfl
@[push_cast] theorem ty212 : tiOf Tryz.prog 212 = some { k := .sl 3, size := 1, bytes := 24, zero := [.slice none 0 0], eqok := false } := by kernel_rfl
@[push_cast] theorem ty213 : tiOf Tryz.prog 213 = some { k := .fn, size := 1, bytes := 8, zero := [.nilFunc], eqok := false } := by kernel_rfl
@[push_cast] theorem ty214 : tiOf Tryz.prog 214 = some { k := .fn, size := 1, bytes := 8, zero := [.nilFunc], eqok := false } := by kernel_rfl
@[push_cast] theorem ty215 : tiOf Tryz.prog 215 = some { k := .fn, size := 1, bytes := 8, zero := [.nilFunc], eqok := false } := by kernel_rfl
@[push_cast] theorem ty219 : tiOf Tryz.prog 219 = some { k := .fn, size := 1, bytes := 8, zero := [.nilFunc], eqok := false } := by kernel_rfl
@[push_cast] theorem ty220 : tiOf Tryz.prog 220 = some { k := .fn, size := 1, bytes := 8, zero := [.nilFunc], eqok := false } := by kernel_rfl
@[push_cast] theorem ty221 : tiOf Tryz.prog 221 = some { k := .ptr 217, size := 1, bytes := 8, zero := [.pointer none], eqok := false } := by kernel_rfl
@[push_cast] theorem ty222 : tiOf Tryz.prog 222 = some { k := .map 69 22, size := 1, bytes := 8, zero := [.map none], eqok := false } := by kernel_rfl
@[push_cast] theorem ty223 : tiOf Tryz.prog 223 = some { k := .st [(0, 3), (1, 3)], size := 2, bytes := 16, zero := [.int .i64 0, .int .i64 0], eqok := true } := by kernel_rfl
@[push_cast] theorem ty224 : tiOf Tryz.prog 224 = some { k := .st [(0, 3), (1, 3)], size := 2, bytes := 16, zero := [.int .i64 0, .int .i64 0], eqok := true } := by kernel_rfl
@[push_cast] theorem ty225 : tiOf Tryz.prog 225 = some { k := .arr 7 224, size := 14, bytes := 112, zero := [.int .i64 0, .int .i64 0, .int .i64 0, .int .i64 0, .int .i64 0, .int .i64 0, .int .i64 0, .int .i64 0, .int .i64 0, .int .i64 0, .int .i64 0, .int .i64 0, .int .i64 0, .int .i64 0], eqok := true } := by kernel_rfl
@[push_cast] theorem ty226 : tiOf Tryz.prog 226 = some { k := .st [(0, 225), (14, 181), (21, 222)], size := 22, bytes := 176, zero := [.int .i64 0, .int .i64 0, .int .i64 0, .int .i64 0, .int .i64 0, .int .i64 0, .int .i64 0, .int .i64 0, .int .i64 0, .int .i64 0, .int .i64 0, .int .i64 0, .int .i64 0, .int .i64 0, .int .i64 0, .int .i64 0, .int .i64 0, .int .i64 0, .int .i64 0, .int .i64 0, .int .i64 0, .map none], eqok := true } := by kernel_rfl
@[push_cast] theorem ty227 : tiOf Tryz.prog 227 = some { k := .st [(0, 225), (14, 181), (21, 222)], size := 22, bytes := 176, zero := [.int .i64 0, .int .i64 0, .int .i64 0, .int .i64 0, .int .i64 0, .int .i64 0, .int .i64 0, .int .i64 0, .int .i64 0, .int .i64 0, .int .i64 0, .int .i64 0, .int .i64 0, .int .i64 0, .int .i64 0, .int .i64 0, .int .i64 0, .int .i64 0, .int .i64 0, .int .i64 0, .int .i64 0, .map none], eqok := true } := by kernel_rfl
@[push_cast] theorem ty228 : tiOf Tryz.prog 228 = some { k := .ptr 231, size := 1, bytes := 8, zero := [.pointer none], eqok := false } := by kernel_rfl
@[push_cast] theorem ty229 : tiOf Tryz.prog 229 = some { k := .sl 5, size := 1, bytes := 24, zero := [.slice none 0 0], eqok := false } := by kernel_rfl
@[push_cast] theorem ty230 : tiOf Tryz.prog 230 = some { k := .st [(0, 228), (1, 229)], size := 2, bytes := 32, zero := [.pointer none, .slice none 0 0], eqok := true } := by kernel_rfl
@[push_cast] theorem ty231 : tiOf Tryz.prog 231 = some { k := .st [(0, 228), (1, 229)], size := 2, bytes := 32, zero := [.pointer none, .slice none 0 0], eqok := true } := by kernel_rfl
@[push_cast] theorem ty232 : tiOf Tryz.prog 232 = some { k := .ifc false, size := 1, bytes := 16, zero := [.nilIface], eqok := false } := by kernel_rfl
@[push_cast] theorem ty233 : tiOf Tryz.prog 233 = some { k := .ifc false, size := 1, bytes := 16, zero := [.nilIface], eqok := false } := by kernel_rfl
@[push_cast] theorem ty234 : tiOf Tryz.prog 234 = some { k := .fn, size := 1, bytes := 8, zero := [.nilFunc], eqok := false } := by kernel_rfl
@[push_cast] theorem ty235 : tiOf Tryz.prog 235 = some { k := .fn, size := 1, bytes := 8, zero := [.nilFunc], eqok := false } := by kernel_rfl
@[push_cast] theorem ty236 : tiOf Tryz.prog 236 = some { k := .fn, size := 1, bytes := 8, zero := [.nilFunc], eqok := false } := by kernel_rfl
@[push_cast] theorem ty237 : tiOf Tryz.prog 237 = some { k := .fn, size := 1, bytes := 8, zero := [.nilFunc], eqok := false } := by kernel_rfl
@[push_cast] theorem ty238 : tiOf Tryz.prog 238 = some { k := .fn, size := 1, bytes := 8, zero := [.nilFunc], eqok := false } := by kernel_rfl
@[push_cast] theorem ty239 : tiOf Tryz.prog 239 = some { k := .fn, size := 1, bytes := 8, zero := [.nilFunc], eqok := false } := by kernel_rfl
@[push_cast] theorem ty240 : tiOf Tryz.prog 240 = some { k := .fn, size := 1, bytes := 8, zero := [.nilFunc], eqok := false } := by kernel_rfl
@[push_cast] theorem ty241 : tiOf Tryz.prog 241 = some { k := .fn, size := 1, bytes := 8, zero := [.nilFunc], eqok := false } := by kernel_rfl
@[push_cast] theorem ty242 : tiOf Tryz.prog 242 = some { k := .fn, size := 1, bytes := 8, zero := [.nilFunc], eqok := false } := by kernel_rfl
@[push_cast] theorem ty243 : tiOf Tryz.prog 243 = some { k := .fn, size := 1, bytes := 8, zero := [.nilFunc], eqok := false } := by kernel_rfl
@[push_cast] theorem ty244 : tiOf Tryz.prog 244 = some { k := .fn, size := 1, bytes := 8, zero := [.nilFunc], eqok := false } := by kernel_rfl
@[push_cast] theorem ty245 : tiOf Tryz.prog 245 = some { k := .fn, size := 1, bytes := 8, zero := [.nilFunc], eqok := false } := by kernel_rfl
@[push_cast] theorem ty246 : tiOf Tryz.prog 246 = some { k := .fn, size := 1, bytes := 8, zero := [.nilFunc], eqok := false } := by kernel_rfl
@[push_cast] theorem ty247 : tiOf Tryz.prog 247 = some { k := .fn, size := 1, bytes := 8, zero := [.nilFunc], eqok := false } := by kernel_rfl
@[push_cast] theorem ty248 : tiOf Tryz.prog 248 = some { k := .arr 10 4, size := 10, bytes := 10, zero := [.bool false, .bool false, .bool false, .bool false, .bool false, .bool false, .bool false, .bool false, .bool false, .bool false], eqok := true } := by kernel_rfl
@[push_cast] theorem ty249 : tiOf Tryz.prog 249 = some { k := .fn, size := 1, bytes := 8, zero := [.nilFunc], eqok := false } := by kernel_rfl
@[push_cast] theorem ty251 : tiOf Tryz.prog 251 = some { k := .fn, size := 1, bytes := 8, zero := [.nilFunc], eqok := false } := by kernel_rfl
@[push_cast] theorem ty252 : tiOf Tryz.prog 252 = some { k := .fn, size := 1, bytes := 8, zero := [.nilFunc], eqok := false } := by kernel_rfl
@[push_cast] theorem ty253 : tiOf Tryz.prog 253 = some { k := .ptr 5, size := 1, bytes := 8, zero := [.pointer none], eqok := false } := by kernel_rfl
@[push_cast] theorem ty254 : tiOf Tryz.prog 254 = some { k := .fn, size := 1, bytes := 8, zero := [.nilFunc], eqok := false } := by kernel_rfl
@[push_cast] theorem ty255 : tiOf Tryz.prog 255 = some { k := .fn, size := 1, bytes := 8, zero := [.nilFunc], eqok := false } := by kernel_rfl
@[push_cast] theorem ty256 : tiOf Tryz.prog 256 = some { k := .fn, size := 1, bytes := 8, zero := [.nilFunc], eqok := false } := by kernel_rfl
@[push_cast] theorem ty257 : tiOf Tryz.prog 257 = some { k := .fn, size := 1, bytes := 8, zero := [.nilFunc], eqok := false } := by kernel_rfl
@[push_cast] theorem ty258 : tiOf Tryz.prog 258 = some { k := .fn, size := 1, bytes := 8, zero := [.nilFunc], eqok := false } := by kernel_rfl
@[push_cast] theorem ty259 : tiOf Tryz.prog 259 = some { k := .oth, size := 1, bytes := 8, zero := [.pointer none], eqok := false } := by kernel_rfl
@[push_cast] theorem ty260 : tiOf Tryz.prog 260 = some { k := .fn, size := 1, bytes := 8, zero := [.nilFunc], eqok := false } := by kernel_rfl
@[push_cast] theorem ty262 : tiOf Tryz.prog 262 = some { k := .st [(0, 5), (1, 5)], size := 2, bytes := 2, zero := [.int .u8 0, .int .u8 0], eqok := true } := by kernel_rfl
@[push_cast] theorem ty263 : tiOf Tryz.prog 263 = some { k := .st [(0, 5), (1, 5)], size := 2, bytes := 2, zero := [.int .u8 0, .int .u8 0], eqok := true } := by kernel_rfl
@[push_cast] theorem ty264 : tiOf Tryz.prog 264 = some { k := .arr 16 263, size := 32, bytes := 32, zero := [.int .u8 0, .int .u8 0, .int .u8 0, .int .u8 0, .int .u8 0, .int .u8 0, .int .u8 0, .int .u8 0, .int .u8 0, .int .u8 0, .int .u8 0, .int .u8 0, .int .u8 0, .int .u8 0, .int .u8 0, .int .u8 0, .int .u8 0, .int .u8 0, .int .u8 0, .int .u8 0, .int .u8 0, .int .u8 0, .int .u8 0, .int .u8 0, .int .u8 0, .int .u8 0, .int .u8 0, .int .u8 0, .int .u8 0, .int .u8 0, .int .u8 0, .int .u8 0], eqok := true } := by kernel_rfl
@[push_cast] theorem ty265 : tiOf Tryz.prog 265 = some { k := .fn, size := 1, bytes := 8, zero := [.nilFunc], eqok := false } := by kernel_rfl
@[push_cast] theorem ty266 : tiOf Tryz.prog 266 = some { k := .fn, size := 1, bytes := 8, zero := [.nilFunc], eqok := false } := by kernel_rfl
@[push_cast] theorem ty267 : tiOf Tryz.prog 267 = some { k := .fn, size := 1, bytes := 8, zero := [.nilFunc], eqok := false } := by kernel_rfl
@[push_cast] theorem ty268 : tiOf Tryz.prog 268 = some { k := .fn, size := 1, bytes := 8, zero := [.nilFunc], eqok := false } := by kernel_rfl
@[push_cast] theorem ty269 : tiOf Tryz.prog 269 = some { k := .st [(0, 17), (1, 17), (2, 17), (3, 9)], size := 4, bytes := 40, zero := [.pointer none, .pointer none, .pointer none, .string ByteArray.empty], eqok := false } := by kernel_rfl
@[push_cast] theorem ty270 : tiOf Tryz.prog 270 = some { k := .st [(0, 17), (1, 17), (2, 17), (3, 9)], size := 4, bytes := 40, zero := [.pointer none, .pointer none, .pointer none, .string ByteArray.empty], eqok := false } := by kernel_rfl
@[push_cast] theorem ty271 : tiOf Tryz.prog 271 = some { k := .arr 0 16, size := 0, bytes := 0, zero := [], eqok := true } := by kernel_rfl
@[push_cast] theorem ty272 : tiOf Tryz.prog 272 = some { k := .st [(0, 271)], size := 0, bytes := 0, zero := [], eqok := false } := by kernel_rfl
@[push_cast] theorem ty273 : tiOf Tryz.prog 273 = some { k := .st [(0, 271)], size := 0, bytes := 0, zero := [], eqok := false } := by kernel_rfl
@[push_cast] theorem ty274 : tiOf Tryz.prog 274 = some { k := .int .u32, size := 1, bytes := 4, zero := [.int .u32 0], eqok := false } := by kernel_rfl
@[push_cast] theorem ty275 : tiOf Tryz.prog 275 = some { k := .int .u8, size := 1, bytes := 1, zero := [.int .u8 0], eqok := false } := by kernel_rfl
@[push_cast] theorem ty276 : tiOf Tryz.prog 276 = some { k := .int .u8, size := 1, bytes := 1, zero := [.int .u8 0], eqok := false } := by kernel_rfl
@[push_cast] theorem ty277 : tiOf Tryz.prog 277 = some { k := .fn, size := 1, bytes := 8, zero := [.nilFunc], eqok := false } := by kernel_rfl
@[push_cast] theorem ty278 : tiOf Tryz.prog 278 = some { k := .int .i32, size := 1, bytes := 4, zero := [.int .i32 0], eqok := false } := by kernel_rfl
@[push_cast] theorem ty279 : tiOf Tryz.prog 279 = some { k := .int .i32, size := 1, bytes := 4, zero := [.int .i32 0], eqok := false } := by kernel_rfl
@[push_cast] theorem ty280 : tiOf Tryz.prog 280 = some { k := .st [(0, 12), (1, 12), (2, 274), (3, 275), (4, 5), (5, 5), (6, 276), (7, 277), (8, 253), (9, 278), (10, 279)], size := 11, bytes := 48, zero := [.int .u64 0, .int .u64 0, .int .u32 0, .int .u8 0, .int .u8 0, .int .u8 0, .int .u8 0, .nilFunc, .pointer none, .int .i32 0, .int .i32 0], eqok := false } := by kernel_rfl
@[push_cast] theorem ty281 : tiOf Tryz.prog 281 = some { k := .st [(0, 12), (1, 12), (2, 274), (3, 275), (4, 5), (5, 5), (6, 276), (7, 277), (8, 253), (9, 278), (10, 279)], size := 11, bytes := 48, zero := [.int .u64 0, .int .u64 0, .int .u32 0, .int .u8 0, .int .u8 0, .int .u8 0, .int .u8 0, .nilFunc, .pointer none, .int .i32 0, .int .i32 0], eqok := false } := by kernel_rfl
@[push_cast] theorem ty282 : tiOf Tryz.prog 282 = some { k := .fn, size := 1, bytes := 8, zero := [.nilFunc], eqok := false } := by kernel_rfl
@[push_cast] theorem ty283 : tiOf Tryz.prog 283 = some { k := .fn, size := 1, bytes := 8, zero := [.nilFunc], eqok := false } := by kernel_rfl
@[push_cast] theorem ty284 : tiOf Tryz.prog 284 = some { k := .fn, size := 1, bytes := 8, zero := [.nilFunc], eqok := false } := by kernel_rfl
@[push_cast] theorem ty285 : tiOf Tryz.prog 285 = some { k := .fn, size := 1, bytes := 8, zero := [.nilFunc], eqok := false } := by kernel_rfl
@[push_cast] theorem ty286 : tiOf Tryz.prog 286 = some { k := .st [(0, 3), (1, 3), (2, 3), (3, 3)], size := 4, bytes := 32, zero := [.int .i64 0, .int .i64 0, .int .i64 0, .int .i64 0], eqok := true } := by kernel_rfl
@[push_cast] theorem ty287 : tiOf Tryz.prog 287 = some { k := .st [(0, 3), (1, 3), (2, 3), (3, 3)], size := 4, bytes := 32, zero := [.int .i64 0, .int .i64 0, .int .i64 0, .int .i64 0], eqok := true } := by kernel_rfl
@[push_cast] theorem ty288 : tiOf Tryz.prog 288 = some { k := .fn, size := 1, bytes := 8, zero := [.nilFunc], eqok := false } := by kernel_rfl
@[push_cast] theorem ty289 : tiOf Tryz.prog 289 = some { k := .fn, size := 1, bytes := 8, zero := [.nilFunc], eqok := false } := by kernel_rfl
end Go.Ab
