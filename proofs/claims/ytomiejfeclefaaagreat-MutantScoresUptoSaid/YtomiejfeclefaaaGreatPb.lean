import Derived.Test.YtomiejfeclefaaaGreatProg
import Derived.Test.YtomiejfeclefaaaGreatAnC
import Derived.Test.YtomiejfeclefaaaGreatAnH
import Derived.Test.YtomiejfeclefaaaGreatPa
/-
  The types of the seat: facts that steps look for.
-/
set_option linter.unusedVariables false
namespace Go.Proofs.YtomiejfeclefaaaGreat
open Go.AM
-- 2: int64 (1)
instance : PlT Tryz.prog 2 := ⟨by kernel_rfl⟩
instance : IntT Tryz.prog 2 .i64 := ⟨by kernel_rfl⟩
instance : OneT Tryz.prog 2 := ⟨by kernel_rfl⟩
instance : ZrT Tryz.prog 2 [(.int .i64 0)] := ⟨by kernel_rfl, by kernel_rfl⟩
-- 3: int (1)
instance : PlT Tryz.prog 3 := ⟨by kernel_rfl⟩
instance : IntT Tryz.prog 3 .i64 := ⟨by kernel_rfl⟩
instance : OneT Tryz.prog 3 := ⟨by kernel_rfl⟩
instance : ZrT Tryz.prog 3 [(.int .i64 0)] := ⟨by kernel_rfl, by kernel_rfl⟩
-- 4: bool (1)
instance : PlT Tryz.prog 4 := ⟨by kernel_rfl⟩
instance : OneT Tryz.prog 4 := ⟨by kernel_rfl⟩
instance : ZrT Tryz.prog 4 [(.bool false)] := ⟨by kernel_rfl, by kernel_rfl⟩
-- 5: uint8 (1)
instance : PlT Tryz.prog 5 := ⟨by kernel_rfl⟩
instance : IntT Tryz.prog 5 .u8 := ⟨by kernel_rfl⟩
instance : OneT Tryz.prog 5 := ⟨by kernel_rfl⟩
instance : ZrT Tryz.prog 5 [(.int .u8 0)] := ⟨by kernel_rfl, by kernel_rfl⟩
-- 6: abi.BoundsErrorCode (1)
instance : PlT Tryz.prog 6 := ⟨by kernel_rfl⟩
instance : IntT Tryz.prog 6 .u8 := ⟨by kernel_rfl⟩
instance : OneT Tryz.prog 6 := ⟨by kernel_rfl⟩
instance : ZrT Tryz.prog 6 [(.int .u8 0)] := ⟨by kernel_rfl, by kernel_rfl⟩
-- 7: struct { x int64; y int; signed bool; code abi.BoundsErrorCode } (4)
instance : RwT Tryz.prog 7 4 := ⟨by kernel_rfl⟩
instance : ZrT Tryz.prog 7 [(.int .i64 0), (.int .i64 0), (.bool false), (.int .u8 0)] := ⟨by kernel_rfl, by kernel_rfl⟩
instance : FdT Tryz.prog 7 0 0 2 := ⟨by kernel_rfl⟩ -- x
instance : FdT Tryz.prog 7 1 1 3 := ⟨by kernel_rfl⟩ -- y
instance : FdT Tryz.prog 7 2 2 4 := ⟨by kernel_rfl⟩ -- signed
instance : FdT Tryz.prog 7 3 3 6 := ⟨by kernel_rfl⟩ -- code
-- 8: runtime.boundsError (4)
instance : RwT Tryz.prog 8 4 := ⟨by kernel_rfl⟩
instance : ZrT Tryz.prog 8 [(.int .i64 0), (.int .i64 0), (.bool false), (.int .u8 0)] := ⟨by kernel_rfl, by kernel_rfl⟩
instance : FdT Tryz.prog 8 0 0 2 := ⟨by kernel_rfl⟩ -- x
instance : FdT Tryz.prog 8 1 1 3 := ⟨by kernel_rfl⟩ -- y
instance : FdT Tryz.prog 8 2 2 4 := ⟨by kernel_rfl⟩ -- signed
instance : FdT Tryz.prog 8 3 3 6 := ⟨by kernel_rfl⟩ -- code
-- 9: string (1)
instance : PlT Tryz.prog 9 := ⟨by kernel_rfl⟩
instance : StrT Tryz.prog 9 := ⟨by kernel_rfl⟩
instance : OneT Tryz.prog 9 := ⟨by kernel_rfl⟩
instance : ZrT Tryz.prog 9 [(.string ⟨#[]⟩)] := ⟨by kernel_rfl, by kernel_rfl⟩
-- 10: runtime.errorString (1)
instance : PlT Tryz.prog 10 := ⟨by kernel_rfl⟩
instance : StrT Tryz.prog 10 := ⟨by kernel_rfl⟩
instance : OneT Tryz.prog 10 := ⟨by kernel_rfl⟩
instance : ZrT Tryz.prog 10 [(.string ⟨#[]⟩)] := ⟨by kernel_rfl, by kernel_rfl⟩
-- 11: runtime.plainError (1)
instance : PlT Tryz.prog 11 := ⟨by kernel_rfl⟩
instance : StrT Tryz.prog 11 := ⟨by kernel_rfl⟩
instance : OneT Tryz.prog 11 := ⟨by kernel_rfl⟩
instance : ZrT Tryz.prog 11 [(.string ⟨#[]⟩)] := ⟨by kernel_rfl, by kernel_rfl⟩
-- 12: uintptr (1)
instance : PlT Tryz.prog 12 := ⟨by kernel_rfl⟩
instance : IntT Tryz.prog 12 .u64 := ⟨by kernel_rfl⟩
instance : OneT Tryz.prog 12 := ⟨by kernel_rfl⟩
instance : ZrT Tryz.prog 12 [(.int .u64 0)] := ⟨by kernel_rfl, by kernel_rfl⟩
-- 13: struct { msg string; addr uintptr } (2)
instance : RwT Tryz.prog 13 2 := ⟨by kernel_rfl⟩
instance : ZrT Tryz.prog 13 [(.string ⟨#[]⟩), (.int .u64 0)] := ⟨by kernel_rfl, by kernel_rfl⟩
instance : FdT Tryz.prog 13 0 0 9 := ⟨by kernel_rfl⟩ -- msg
instance : FdT Tryz.prog 13 1 1 12 := ⟨by kernel_rfl⟩ -- addr
-- 14: runtime.errorAddressString (2)
instance : RwT Tryz.prog 14 2 := ⟨by kernel_rfl⟩
instance : ZrT Tryz.prog 14 [(.string ⟨#[]⟩), (.int .u64 0)] := ⟨by kernel_rfl, by kernel_rfl⟩
instance : FdT Tryz.prog 14 0 0 9 := ⟨by kernel_rfl⟩ -- msg
instance : FdT Tryz.prog 14 1 1 12 := ⟨by kernel_rfl⟩ -- addr
-- 15: *runtime.TypeAssertionError (1)
instance : PlT Tryz.prog 15 := ⟨by kernel_rfl⟩
instance : OneT Tryz.prog 15 := ⟨by kernel_rfl⟩
instance : ZrT Tryz.prog 15 [(.pointer none)] := ⟨by kernel_rfl, by kernel_rfl⟩
-- 16: *runtime.PanicNilError (1)
instance : PlT Tryz.prog 16 := ⟨by kernel_rfl⟩
instance : OneT Tryz.prog 16 := ⟨by kernel_rfl⟩
instance : ZrT Tryz.prog 16 [(.pointer none)] := ⟨by kernel_rfl, by kernel_rfl⟩
-- 17: *abi.Type (1)
instance : PlT Tryz.prog 17 := ⟨by kernel_rfl⟩
instance : OneT Tryz.prog 17 := ⟨by kernel_rfl⟩
instance : ZrT Tryz.prog 17 [(.pointer none)] := ⟨by kernel_rfl, by kernel_rfl⟩
-- 18: struct { typ *abi.Type } (1)
instance : RwT Tryz.prog 18 1 := ⟨by kernel_rfl⟩
instance : OneT Tryz.prog 18 := ⟨by kernel_rfl⟩
instance : ZrT Tryz.prog 18 [(.pointer none)] := ⟨by kernel_rfl, by kernel_rfl⟩
instance : FdT Tryz.prog 18 0 0 17 := ⟨by kernel_rfl⟩ -- typ
-- 19: maps.unhashableTypeError (1)
instance : RwT Tryz.prog 19 1 := ⟨by kernel_rfl⟩
instance : OneT Tryz.prog 19 := ⟨by kernel_rfl⟩
instance : ZrT Tryz.prog 19 [(.pointer none)] := ⟨by kernel_rfl, by kernel_rfl⟩
instance : FdT Tryz.prog 19 0 0 17 := ⟨by kernel_rfl⟩ -- typ
-- 21: int32 (1)
instance : PlT Tryz.prog 21 := ⟨by kernel_rfl⟩
instance : IntT Tryz.prog 21 .i32 := ⟨by kernel_rfl⟩
instance : OneT Tryz.prog 21 := ⟨by kernel_rfl⟩
instance : ZrT Tryz.prog 21 [(.int .i32 0)] := ⟨by kernel_rfl, by kernel_rfl⟩
-- 22: []api.MachineStep (1)
instance : SlT Tryz.prog 22 87 4 32 := ⟨by kernel_rfl⟩
instance : PlT Tryz.prog 22 := ⟨by kernel_rfl⟩
instance : OneT Tryz.prog 22 := ⟨by kernel_rfl⟩
instance : ZrT Tryz.prog 22 [(.slice none 0 0)] := ⟨by kernel_rfl, by kernel_rfl⟩
-- 23: struct { States int; Inputs int; Outputs int; Start int; Steps []api.MachineStep (5)
instance : RwT Tryz.prog 23 5 := ⟨by kernel_rfl⟩
instance : ZrT Tryz.prog 23 [(.int .i64 0), (.int .i64 0), (.int .i64 0), (.int .i64 0), (.slice none 0 0)] := ⟨by kernel_rfl, by kernel_rfl⟩
instance : FdT Tryz.prog 23 0 0 3 := ⟨by kernel_rfl⟩ -- States
instance : FdT Tryz.prog 23 1 1 3 := ⟨by kernel_rfl⟩ -- Inputs
instance : FdT Tryz.prog 23 2 2 3 := ⟨by kernel_rfl⟩ -- Outputs
instance : FdT Tryz.prog 23 3 3 3 := ⟨by kernel_rfl⟩ -- Start
instance : FdT Tryz.prog 23 4 4 22 := ⟨by kernel_rfl⟩ -- Steps
-- 24: api.Machine (5)
instance : RwT Tryz.prog 24 5 := ⟨by kernel_rfl⟩
instance : ZrT Tryz.prog 24 [(.int .i64 0), (.int .i64 0), (.int .i64 0), (.int .i64 0), (.slice none 0 0)] := ⟨by kernel_rfl, by kernel_rfl⟩
instance : FdT Tryz.prog 24 0 0 3 := ⟨by kernel_rfl⟩ -- States
instance : FdT Tryz.prog 24 1 1 3 := ⟨by kernel_rfl⟩ -- Inputs
instance : FdT Tryz.prog 24 2 2 3 := ⟨by kernel_rfl⟩ -- Outputs
instance : FdT Tryz.prog 24 3 3 3 := ⟨by kernel_rfl⟩ -- Start
instance : FdT Tryz.prog 24 4 4 22 := ⟨by kernel_rfl⟩ -- Steps
-- 25: [][]api.Mutation (1)
instance : SlT Tryz.prog 25 47 1 24 := ⟨by kernel_rfl⟩
instance : PlT Tryz.prog 25 := ⟨by kernel_rfl⟩
instance : OneT Tryz.prog 25 := ⟨by kernel_rfl⟩
instance : ZrT Tryz.prog 25 [(.slice none 0 0)] := ⟨by kernel_rfl, by kernel_rfl⟩
-- 26: [][]int (1)
instance : SlT Tryz.prog 26 31 1 24 := ⟨by kernel_rfl⟩
instance : PlT Tryz.prog 26 := ⟨by kernel_rfl⟩
instance : OneT Tryz.prog 26 := ⟨by kernel_rfl⟩
instance : ZrT Tryz.prog 26 [(.slice none 0 0)] := ⟨by kernel_rfl, by kernel_rfl⟩
-- 31: []int (1)
instance : SlT Tryz.prog 31 3 1 8 := ⟨by kernel_rfl⟩
instance : PlT Tryz.prog 31 := ⟨by kernel_rfl⟩
instance : OneT Tryz.prog 31 := ⟨by kernel_rfl⟩
instance : ZrT Tryz.prog 31 [(.slice none 0 0)] := ⟨by kernel_rfl, by kernel_rfl⟩
-- 32: struct { Killed int; Equivalent int; Alive []int } (3)
instance : RwT Tryz.prog 32 3 := ⟨by kernel_rfl⟩
instance : ZrT Tryz.prog 32 [(.int .i64 0), (.int .i64 0), (.slice none 0 0)] := ⟨by kernel_rfl, by kernel_rfl⟩
instance : FdT Tryz.prog 32 0 0 3 := ⟨by kernel_rfl⟩ -- Killed
instance : FdT Tryz.prog 32 1 1 3 := ⟨by kernel_rfl⟩ -- Equivalent
instance : FdT Tryz.prog 32 2 2 31 := ⟨by kernel_rfl⟩ -- Alive
-- 33: api.MutantScore (3)
instance : RwT Tryz.prog 33 3 := ⟨by kernel_rfl⟩
instance : ZrT Tryz.prog 33 [(.int .i64 0), (.int .i64 0), (.slice none 0 0)] := ⟨by kernel_rfl, by kernel_rfl⟩
instance : FdT Tryz.prog 33 0 0 3 := ⟨by kernel_rfl⟩ -- Killed
instance : FdT Tryz.prog 33 1 1 3 := ⟨by kernel_rfl⟩ -- Equivalent
instance : FdT Tryz.prog 33 2 2 31 := ⟨by kernel_rfl⟩ -- Alive
-- 34: api.Errno (1)
instance : PlT Tryz.prog 34 := ⟨by kernel_rfl⟩
instance : IntT Tryz.prog 34 .i64 := ⟨by kernel_rfl⟩
instance : OneT Tryz.prog 34 := ⟨by kernel_rfl⟩
instance : ZrT Tryz.prog 34 [(.int .i64 0)] := ⟨by kernel_rfl, by kernel_rfl⟩
-- 47: []api.Mutation (1)
instance : SlT Tryz.prog 47 52 3 24 := ⟨by kernel_rfl⟩
instance : PlT Tryz.prog 47 := ⟨by kernel_rfl⟩
instance : OneT Tryz.prog 47 := ⟨by kernel_rfl⟩
instance : ZrT Tryz.prog 47 [(.slice none 0 0)] := ⟨by kernel_rfl, by kernel_rfl⟩
-- 51: struct { Kind int; Step int; To int } (3)
instance : RwT Tryz.prog 51 3 := ⟨by kernel_rfl⟩
instance : ZrT Tryz.prog 51 [(.int .i64 0), (.int .i64 0), (.int .i64 0)] := ⟨by kernel_rfl, by kernel_rfl⟩
instance : FdT Tryz.prog 51 0 0 3 := ⟨by kernel_rfl⟩ -- Kind
instance : FdT Tryz.prog 51 1 1 3 := ⟨by kernel_rfl⟩ -- Step
instance : FdT Tryz.prog 51 2 2 3 := ⟨by kernel_rfl⟩ -- To
-- 52: api.Mutation (3)
instance : RwT Tryz.prog 52 3 := ⟨by kernel_rfl⟩
instance : ZrT Tryz.prog 52 [(.int .i64 0), (.int .i64 0), (.int .i64 0)] := ⟨by kernel_rfl, by kernel_rfl⟩
instance : FdT Tryz.prog 52 0 0 3 := ⟨by kernel_rfl⟩ -- Kind
instance : FdT Tryz.prog 52 1 1 3 := ⟨by kernel_rfl⟩ -- Step
instance : FdT Tryz.prog 52 2 2 3 := ⟨by kernel_rfl⟩ -- To
-- 55: [2]int (2)
instance : RwT Tryz.prog 55 2 := ⟨by kernel_rfl⟩
instance : ZrT Tryz.prog 55 [(.int .i64 0), (.int .i64 0)] := ⟨by kernel_rfl, by kernel_rfl⟩
-- 56: [][2]int (1)
instance : SlT Tryz.prog 56 55 2 16 := ⟨by kernel_rfl⟩
instance : PlT Tryz.prog 56 := ⟨by kernel_rfl⟩
instance : OneT Tryz.prog 56 := ⟨by kernel_rfl⟩
instance : ZrT Tryz.prog 56 [(.slice none 0 0)] := ⟨by kernel_rfl, by kernel_rfl⟩
-- 73: []examinerref37.Pair (1)
instance : SlT Tryz.prog 73 115 3 40 := ⟨by kernel_rfl⟩
instance : PlT Tryz.prog 73 := ⟨by kernel_rfl⟩
instance : OneT Tryz.prog 73 := ⟨by kernel_rfl⟩
instance : ZrT Tryz.prog 73 [(.slice none 0 0)] := ⟨by kernel_rfl, by kernel_rfl⟩
-- 76: []api.Machine (1)
instance : SlT Tryz.prog 76 24 5 56 := ⟨by kernel_rfl⟩
instance : PlT Tryz.prog 76 := ⟨by kernel_rfl⟩
instance : OneT Tryz.prog 76 := ⟨by kernel_rfl⟩
instance : ZrT Tryz.prog 76 [(.slice none 0 0)] := ⟨by kernel_rfl, by kernel_rfl⟩
-- 86: struct { From int; Input int; Output int; To int } (4)
instance : RwT Tryz.prog 86 4 := ⟨by kernel_rfl⟩
instance : ZrT Tryz.prog 86 [(.int .i64 0), (.int .i64 0), (.int .i64 0), (.int .i64 0)] := ⟨by kernel_rfl, by kernel_rfl⟩
instance : FdT Tryz.prog 86 0 0 3 := ⟨by kernel_rfl⟩ -- From
instance : FdT Tryz.prog 86 1 1 3 := ⟨by kernel_rfl⟩ -- Input
instance : FdT Tryz.prog 86 2 2 3 := ⟨by kernel_rfl⟩ -- Output
instance : FdT Tryz.prog 86 3 3 3 := ⟨by kernel_rfl⟩ -- To
-- 87: api.MachineStep (4)
instance : RwT Tryz.prog 87 4 := ⟨by kernel_rfl⟩
instance : ZrT Tryz.prog 87 [(.int .i64 0), (.int .i64 0), (.int .i64 0), (.int .i64 0)] := ⟨by kernel_rfl, by kernel_rfl⟩
instance : FdT Tryz.prog 87 0 0 3 := ⟨by kernel_rfl⟩ -- From
instance : FdT Tryz.prog 87 1 1 3 := ⟨by kernel_rfl⟩ -- Input
instance : FdT Tryz.prog 87 2 2 3 := ⟨by kernel_rfl⟩ -- Output
instance : FdT Tryz.prog 87 3 3 3 := ⟨by kernel_rfl⟩ -- To
-- 100: []api.Errno (1)
instance : SlT Tryz.prog 100 34 1 8 := ⟨by kernel_rfl⟩
instance : PlT Tryz.prog 100 := ⟨by kernel_rfl⟩
instance : OneT Tryz.prog 100 := ⟨by kernel_rfl⟩
instance : ZrT Tryz.prog 100 [(.slice none 0 0)] := ⟨by kernel_rfl, by kernel_rfl⟩
-- 108: [][]*api.MachineStep (1)
instance : SlT Tryz.prog 108 112 1 24 := ⟨by kernel_rfl⟩
instance : PlT Tryz.prog 108 := ⟨by kernel_rfl⟩
instance : OneT Tryz.prog 108 := ⟨by kernel_rfl⟩
instance : ZrT Tryz.prog 108 [(.slice none 0 0)] := ⟨by kernel_rfl, by kernel_rfl⟩
-- 109: model.table (1)
instance : SlT Tryz.prog 109 112 1 24 := ⟨by kernel_rfl⟩
instance : PlT Tryz.prog 109 := ⟨by kernel_rfl⟩
instance : OneT Tryz.prog 109 := ⟨by kernel_rfl⟩
instance : ZrT Tryz.prog 109 [(.slice none 0 0)] := ⟨by kernel_rfl, by kernel_rfl⟩
-- 111: *api.MachineStep (1)
instance : PlT Tryz.prog 111 := ⟨by kernel_rfl⟩
instance : OneT Tryz.prog 111 := ⟨by kernel_rfl⟩
instance : ZrT Tryz.prog 111 [(.pointer none)] := ⟨by kernel_rfl, by kernel_rfl⟩
-- 112: []*api.MachineStep (1)
instance : SlT Tryz.prog 112 111 1 8 := ⟨by kernel_rfl⟩
instance : PlT Tryz.prog 112 := ⟨by kernel_rfl⟩
instance : OneT Tryz.prog 112 := ⟨by kernel_rfl⟩
instance : ZrT Tryz.prog 112 [(.slice none 0 0)] := ⟨by kernel_rfl, by kernel_rfl⟩
-- 114: struct { A int; B int; Word []int } (3)
instance : RwT Tryz.prog 114 3 := ⟨by kernel_rfl⟩
instance : ZrT Tryz.prog 114 [(.int .i64 0), (.int .i64 0), (.slice none 0 0)] := ⟨by kernel_rfl, by kernel_rfl⟩
instance : FdT Tryz.prog 114 0 0 3 := ⟨by kernel_rfl⟩ -- A
instance : FdT Tryz.prog 114 1 1 3 := ⟨by kernel_rfl⟩ -- B
instance : FdT Tryz.prog 114 2 2 31 := ⟨by kernel_rfl⟩ -- Word
-- 115: examinerref37.Pair (3)
instance : RwT Tryz.prog 115 3 := ⟨by kernel_rfl⟩
instance : ZrT Tryz.prog 115 [(.int .i64 0), (.int .i64 0), (.slice none 0 0)] := ⟨by kernel_rfl, by kernel_rfl⟩
instance : FdT Tryz.prog 115 0 0 3 := ⟨by kernel_rfl⟩ -- A
instance : FdT Tryz.prog 115 1 1 3 := ⟨by kernel_rfl⟩ -- B
instance : FdT Tryz.prog 115 2 2 31 := ⟨by kernel_rfl⟩ -- Word
-- 118: uint (1)
instance : PlT Tryz.prog 118 := ⟨by kernel_rfl⟩
instance : IntT Tryz.prog 118 .u64 := ⟨by kernel_rfl⟩
instance : OneT Tryz.prog 118 := ⟨by kernel_rfl⟩
instance : ZrT Tryz.prog 118 [(.int .u64 0)] := ⟨by kernel_rfl, by kernel_rfl⟩
-- 119: [][][]int (1)
instance : SlT Tryz.prog 119 26 1 24 := ⟨by kernel_rfl⟩
instance : PlT Tryz.prog 119 := ⟨by kernel_rfl⟩
instance : OneT Tryz.prog 119 := ⟨by kernel_rfl⟩
instance : ZrT Tryz.prog 119 [(.slice none 0 0)] := ⟨by kernel_rfl, by kernel_rfl⟩
-- 134: slices.sortedHint (1)
instance : PlT Tryz.prog 134 := ⟨by kernel_rfl⟩
instance : IntT Tryz.prog 134 .i64 := ⟨by kernel_rfl⟩
instance : OneT Tryz.prog 134 := ⟨by kernel_rfl⟩
instance : ZrT Tryz.prog 134 [(.int .i64 0)] := ⟨by kernel_rfl, by kernel_rfl⟩
-- 142: uint32 (1)
instance : PlT Tryz.prog 142 := ⟨by kernel_rfl⟩
instance : IntT Tryz.prog 142 .u32 := ⟨by kernel_rfl⟩
instance : OneT Tryz.prog 142 := ⟨by kernel_rfl⟩
instance : ZrT Tryz.prog 142 [(.int .u32 0)] := ⟨by kernel_rfl, by kernel_rfl⟩
-- 144: uint64 (1)
instance : PlT Tryz.prog 144 := ⟨by kernel_rfl⟩
instance : IntT Tryz.prog 144 .u64 := ⟨by kernel_rfl⟩
instance : OneT Tryz.prog 144 := ⟨by kernel_rfl⟩
instance : ZrT Tryz.prog 144 [(.int .u64 0)] := ⟨by kernel_rfl, by kernel_rfl⟩
-- 154: slices.xorshift (1)
instance : PlT Tryz.prog 154 := ⟨by kernel_rfl⟩
instance : IntT Tryz.prog 154 .u64 := ⟨by kernel_rfl⟩
instance : OneT Tryz.prog 154 := ⟨by kernel_rfl⟩
instance : ZrT Tryz.prog 154 [(.int .u64 0)] := ⟨by kernel_rfl, by kernel_rfl⟩
-- 158: *int (1)
instance : PlT Tryz.prog 158 := ⟨by kernel_rfl⟩
instance : OneT Tryz.prog 158 := ⟨by kernel_rfl⟩
instance : ZrT Tryz.prog 158 [(.pointer none)] := ⟨by kernel_rfl, by kernel_rfl⟩
-- 165: *slices.xorshift (1)
instance : PlT Tryz.prog 165 := ⟨by kernel_rfl⟩
instance : OneT Tryz.prog 165 := ⟨by kernel_rfl⟩
instance : ZrT Tryz.prog 165 [(.pointer none)] := ⟨by kernel_rfl, by kernel_rfl⟩
-- 170: struct { _interface *abi.Type; concrete *abi.Type; asserted *abi.Type; missingMe (4)
instance : RwT Tryz.prog 170 4 := ⟨by kernel_rfl⟩
instance : ZrT Tryz.prog 170 [(.pointer none), (.pointer none), (.pointer none), (.string ⟨#[]⟩)] := ⟨by kernel_rfl, by kernel_rfl⟩
instance : FdT Tryz.prog 170 0 0 17 := ⟨by kernel_rfl⟩ -- _interface
instance : FdT Tryz.prog 170 1 1 17 := ⟨by kernel_rfl⟩ -- concrete
instance : FdT Tryz.prog 170 2 2 17 := ⟨by kernel_rfl⟩ -- asserted
instance : FdT Tryz.prog 170 3 3 9 := ⟨by kernel_rfl⟩ -- missingMethod
-- 171: runtime.TypeAssertionError (4)
instance : RwT Tryz.prog 171 4 := ⟨by kernel_rfl⟩
instance : ZrT Tryz.prog 171 [(.pointer none), (.pointer none), (.pointer none), (.string ⟨#[]⟩)] := ⟨by kernel_rfl, by kernel_rfl⟩
instance : FdT Tryz.prog 171 0 0 17 := ⟨by kernel_rfl⟩ -- _interface
instance : FdT Tryz.prog 171 1 1 17 := ⟨by kernel_rfl⟩ -- concrete
instance : FdT Tryz.prog 171 2 2 17 := ⟨by kernel_rfl⟩ -- asserted
instance : FdT Tryz.prog 171 3 3 9 := ⟨by kernel_rfl⟩ -- missingMethod
-- 172: [0]*runtime.PanicNilError (0)
-- 173: struct { _ [0]*runtime.PanicNilError } (0)
-- 174: runtime.PanicNilError (0)
-- 176: abi.TFlag (1)
instance : PlT Tryz.prog 176 := ⟨by kernel_rfl⟩
instance : IntT Tryz.prog 176 .u8 := ⟨by kernel_rfl⟩
instance : OneT Tryz.prog 176 := ⟨by kernel_rfl⟩
instance : ZrT Tryz.prog 176 [(.int .u8 0)] := ⟨by kernel_rfl, by kernel_rfl⟩
-- 177: abi.Kind (1)
instance : PlT Tryz.prog 177 := ⟨by kernel_rfl⟩
instance : IntT Tryz.prog 177 .u8 := ⟨by kernel_rfl⟩
instance : OneT Tryz.prog 177 := ⟨by kernel_rfl⟩
instance : ZrT Tryz.prog 177 [(.int .u8 0)] := ⟨by kernel_rfl, by kernel_rfl⟩
-- 179: *uint8 (1)
instance : PlT Tryz.prog 179 := ⟨by kernel_rfl⟩
instance : OneT Tryz.prog 179 := ⟨by kernel_rfl⟩
instance : ZrT Tryz.prog 179 [(.pointer none)] := ⟨by kernel_rfl, by kernel_rfl⟩
-- 180: abi.NameOff (1)
instance : PlT Tryz.prog 180 := ⟨by kernel_rfl⟩
instance : IntT Tryz.prog 180 .i32 := ⟨by kernel_rfl⟩
instance : OneT Tryz.prog 180 := ⟨by kernel_rfl⟩
instance : ZrT Tryz.prog 180 [(.int .i32 0)] := ⟨by kernel_rfl, by kernel_rfl⟩
-- 181: abi.TypeOff (1)
instance : PlT Tryz.prog 181 := ⟨by kernel_rfl⟩
instance : IntT Tryz.prog 181 .i32 := ⟨by kernel_rfl⟩
instance : OneT Tryz.prog 181 := ⟨by kernel_rfl⟩
instance : ZrT Tryz.prog 181 [(.int .i32 0)] := ⟨by kernel_rfl, by kernel_rfl⟩
-- 182: struct { Size_ uintptr; PtrBytes uintptr; Hash uint32; TFlag abi.TFlag; Align_ u (11)
instance : RwT Tryz.prog 182 11 := ⟨by kernel_rfl⟩
instance : ZrT Tryz.prog 182 [(.int .u64 0), (.int .u64 0), (.int .u32 0), (.int .u8 0), (.int .u8 0), (.int .u8 0), (.int .u8 0), .nilFunc, (.pointer none), (.int .i32 0), (.int .i32 0)] := ⟨by kernel_rfl, by kernel_rfl⟩
instance : FdT Tryz.prog 182 0 0 12 := ⟨by kernel_rfl⟩ -- Size_
instance : FdT Tryz.prog 182 1 1 12 := ⟨by kernel_rfl⟩ -- PtrBytes
instance : FdT Tryz.prog 182 2 2 142 := ⟨by kernel_rfl⟩ -- Hash
instance : FdT Tryz.prog 182 3 3 176 := ⟨by kernel_rfl⟩ -- TFlag
instance : FdT Tryz.prog 182 4 4 5 := ⟨by kernel_rfl⟩ -- Align_
instance : FdT Tryz.prog 182 5 5 5 := ⟨by kernel_rfl⟩ -- FieldAlign_
instance : FdT Tryz.prog 182 6 6 177 := ⟨by kernel_rfl⟩ -- Kind_
instance : FdT Tryz.prog 182 7 7 178 := ⟨by kernel_rfl⟩ -- Equal
instance : FdT Tryz.prog 182 8 8 179 := ⟨by kernel_rfl⟩ -- GCData
instance : FdT Tryz.prog 182 9 9 180 := ⟨by kernel_rfl⟩ -- Str
instance : FdT Tryz.prog 182 10 10 181 := ⟨by kernel_rfl⟩ -- PtrToThis
-- 183: abi.Type (11)
instance : RwT Tryz.prog 183 11 := ⟨by kernel_rfl⟩
instance : ZrT Tryz.prog 183 [(.int .u64 0), (.int .u64 0), (.int .u32 0), (.int .u8 0), (.int .u8 0), (.int .u8 0), (.int .u8 0), .nilFunc, (.pointer none), (.int .i32 0), (.int .i32 0)] := ⟨by kernel_rfl, by kernel_rfl⟩
instance : FdT Tryz.prog 183 0 0 12 := ⟨by kernel_rfl⟩ -- Size_
instance : FdT Tryz.prog 183 1 1 12 := ⟨by kernel_rfl⟩ -- PtrBytes
instance : FdT Tryz.prog 183 2 2 142 := ⟨by kernel_rfl⟩ -- Hash
instance : FdT Tryz.prog 183 3 3 176 := ⟨by kernel_rfl⟩ -- TFlag
instance : FdT Tryz.prog 183 4 4 5 := ⟨by kernel_rfl⟩ -- Align_
instance : FdT Tryz.prog 183 5 5 5 := ⟨by kernel_rfl⟩ -- FieldAlign_
instance : FdT Tryz.prog 183 6 6 177 := ⟨by kernel_rfl⟩ -- Kind_
instance : FdT Tryz.prog 183 7 7 178 := ⟨by kernel_rfl⟩ -- Equal
instance : FdT Tryz.prog 183 8 8 179 := ⟨by kernel_rfl⟩ -- GCData
instance : FdT Tryz.prog 183 9 9 180 := ⟨by kernel_rfl⟩ -- Str
instance : FdT Tryz.prog 183 10 10 181 := ⟨by kernel_rfl⟩ -- PtrToThis
-- 184: unsafe.Pointer (1)
instance : PlT Tryz.prog 184 := ⟨by kernel_rfl⟩
instance : OneT Tryz.prog 184 := ⟨by kernel_rfl⟩
instance : ZrT Tryz.prog 184 [(.pointer none)] := ⟨by kernel_rfl, by kernel_rfl⟩
end Go.Proofs.YtomiejfeclefaaaGreat

set_option linter.unusedSimpArgs false
set_option linter.unusedVariables false
set_option linter.unnecessarySimpa false
set_option maxRecDepth 100000
set_option maxHeartbeats 4000000
namespace Go.Proofs.YtomiejfeclefaaaGreat
open Go.AM
variable {h g : Heap}
/-! ### data -/
structure Stp where
  frm : Int
  inp : Int
  out : Int
  to : Int
  deriving DecidableEq
instance : Flat Stp := ⟨4, fun t => [.int .i64 t.frm, .int .i64 t.inp, .int .i64 t.out, .int .i64 t.to], fun _ => rfl, fun _ => rfl⟩
instance : Df Stp := ⟨⟨0, 0, 0, 0⟩⟩
structure Mut where
  kind : Int
  step : Int
  to : Int
  deriving DecidableEq
instance : Flat Mut := ⟨3, fun t => [.int .i64 t.kind, .int .i64 t.step, .int .i64 t.to], fun _ => rfl, fun _ => rfl⟩
instance : Df Mut := ⟨⟨0, 0, 0⟩⟩
structure Pr where
  a : Int
  b : Int
  deriving DecidableEq
instance : Flat Pr := ⟨2, fun t => [.int .i64 t.a, .int .i64 t.b], fun _ => rfl, fun _ => rfl⟩
instance : Df Pr := ⟨⟨0, 0⟩⟩
instance : ArT Tryz.prog 55 2 := ⟨3, by kernel_rfl, by kernel_rfl⟩
structure Mach where
  states : Int
  inputs : Int
  outputs : Int
  start : Int
  steps : List Stp
  deriving DecidableEq
def MacV (h : Heap) (v : Value) (x : Mach) : Prop := ∃ tv, v = .agg #[.int .i64 x.states, .int .i64 x.inputs, .int .i64 x.outputs, .int .i64 x.start, tv] ∧ L h tv x.steps
theorem MacV.mono {h h' : Heap} {v : Value} {x : Mach} (s : MacV h v x) (hs : Stab h h') : MacV h' v x := by
  obtain ⟨tv, e, l⟩ := s
  exact ⟨tv, e, l.mono hs⟩
/-! ### made values -/
theorem bd24_z  : aBuild Tryz.prog 24 [] = some (.agg #[(.int .i64 0), (.int .i64 0), (.int .i64 0), (.int .i64 0), (.slice none 0 0)]) := by kernel_rfl
theorem bd77_01 (a b : Int) : aBuild Tryz.prog 55 [(0, .int .i64 a), (1, .int .i64 b)] = some (fv (⟨a, b⟩ : Pr)) := by kernel_rfl
theorem bs36_0  (h : Heap) : aBuildSlice Tryz.prog 56 0 [] h = some (.slice (some ⟨h.length, 0, none⟩) 0 1, newArr h [] 2) := by kernel_rfl
theorem bs22_0  (h : Heap) : aBuildSlice Tryz.prog 22 0 [] h = some (.slice (some ⟨h.length, 0, none⟩) 0 1, newArr h [] 4) := by kernel_rfl
theorem bs51_1 (o1 : Option Addr) (no1 co1 : Nat) (h : Heap) : aBuildSlice Tryz.prog 25 1 [(0, (.slice o1 no1 co1))] h = some (.slice (some ⟨h.length, 0, none⟩) 1 2, newArr h [(.slice o1 no1 co1)] 1) := by kernel_rfl
theorem bs27_0  (h : Heap) : aBuildSlice Tryz.prog 47 0 [] h = some (.slice (some ⟨h.length, 0, none⟩) 0 1, newArr h [] 3) := by kernel_rfl
theorem bs53_2 (a1 : Int) (a2 : Int) (h : Heap) : aBuildSlice Tryz.prog 31 2 [(0, (.int .i64 a1)), (1, (.int .i64 a2))] h = some (.slice (some ⟨h.length, 0, none⟩) 2 3, newArr h [(.int .i64 a1), (.int .i64 a2)] 1) := by kernel_rfl
theorem bs141_3 (a1 : Int) (a2 : Int) (a3 : Int) (h : Heap) : aBuildSlice Tryz.prog 100 3 [(0, (.int .i64 a1)), (1, (.int .i64 a2)), (2, (.int .i64 a3))] h = some (.slice (some ⟨h.length, 0, none⟩) 3 4, newArr h [(.int .i64 a1), (.int .i64 a2), (.int .i64 a3)] 1) := by kernel_rfl
theorem bs53_3 (a1 : Int) (a2 : Int) (a3 : Int) (h : Heap) : aBuildSlice Tryz.prog 31 3 [(0, (.int .i64 a1)), (1, (.int .i64 a2)), (2, (.int .i64 a3))] h = some (.slice (some ⟨h.length, 0, none⟩) 3 4, newArr h [(.int .i64 a1), (.int .i64 a2), (.int .i64 a3)] 1) := by kernel_rfl
theorem bs53_1 (a1 : Int) (h : Heap) : aBuildSlice Tryz.prog 31 1 [(0, (.int .i64 a1))] h = some (.slice (some ⟨h.length, 0, none⟩) 1 2, newArr h [(.int .i64 a1)] 1) := by kernel_rfl
theorem eq77 (a b : Pr) : eqSt Tryz.prog 55 (Flat.cells a).toArray (Flat.cells b).toArray = cond (a.a == b.a) (cond (a.b == b.b) (some true) (some false)) (some false) := by kernel_rfl
theorem eq77' (a b : Pr) : eqSt Tryz.prog 55 (Flat.cells a).toArray (Flat.cells b).toArray = some (decide (a = b)) := by
  rw [eq77]
  obtain ⟨a1, a2⟩ := a; obtain ⟨b1, b2⟩ := b
  simp only [Pr.mk.injEq]
  by_cases h1 : a1 = b1 <;> by_cases h2 : a2 = b2 <;> simp [h1, h2, beq_eq_false_iff_ne.mpr]
theorem prq_i {K : Value → Heap → Prop} {a b : Pr} (h1 : a = b → K (.bool true) g) (h2 : ¬ a = b → K (.bool false) g) : vK (aBin Tryz.prog .eql 55 (fv a) (fv b)) g K := by
  refine vk_i (v := .bool (decide (a = b))) (by show (eqSt Tryz.prog 55 (Flat.cells a).toArray (Flat.cells b).toArray).map Value.bool = _; rw [eq77']; rfl) ?_
  by_cases e : a = b
  · subst e; simpa using h1 rfl
  · rw [decide_eq_false e]; exact h2 e
theorem vb_mac {h1 : Heap} {y : Value} {l : List Stp} {a b c d : Int} {Q : Prop} [S : Stb h1 h] (s : L h1 y l) (hq : Q) : VB h.length (.agg #[.int .i64 a, .int .i64 b, .int .i64 c, .int .i64 d, y]) ∧ Q := by
  refine ⟨fun q hc => ?_, hq⟩
  have hv := (s.mono S.st).vb
  obtain ⟨b', q', rfl, _⟩ := s.shape
  simp at hc
  rcases hc with rfl | rfl | rfl | rfl | rfl
  · trivial
  · trivial
  · trivial
  · trivial
  · exact hv
/-! ### small functions -/
theorem c48 (n lo hi : Int) : Runs Tryz.prog 54 [.int .i64 n, .int .i64 lo, .int .i64 hi] h (.bool (decide (lo ≤ n ∧ n ≤ hi))) h := by
  refine DetP.runs (w48 ?_)
  unfold n48
  ((with_reducible (refine mv_i ?_; refine mv_i ?_; refine mv_i ?_; refine leq_i (fun hc => ?_) (fun hc => ?_); refine mv_i ?_; refine gd_tt ?_; refine mv_i ?_; refine gd_tt ?_; refine mv_i ?_; refine gd_tt ?_; refine leq_i (fun hc => ?_) (fun hc => ?_); refine pick_t ?_; refine mv_i ?_; refine ret1 ?_)); (rotate_left); (with_reducible (refine pick_t ?_; refine mv_i ?_; refine ret1 ?_)); (rotate_left); (with_reducible (refine mv_i ?_; refine gd_ft ?_; refine gd_ft ?_; refine gd_ft ?_; refine pick_f ?_; refine mv_i ?_; refine ret1 ?_)); (rotate_left))
  all_goals exact ⟨by first | (simp_all; done) | (simp_all; omega), rfl⟩
theorem c53 (n lo hi : Int) : Runs Tryz.prog 64 [.int .i64 n, .int .i64 lo, .int .i64 hi] h (.bool (decide (lo ≤ n ∧ n ≤ hi))) h := by
  refine DetP.runs (w53 ?_)
  unfold n53
  ((with_reducible (refine mv_i ?_; refine mv_i ?_; refine mv_i ?_; refine leq_i (fun hc => ?_) (fun hc => ?_); refine mv_i ?_; refine gd_tt ?_; refine mv_i ?_; refine gd_tt ?_; refine mv_i ?_; refine gd_tt ?_; refine leq_i (fun hc => ?_) (fun hc => ?_); refine pick_t ?_; refine mv_i ?_; refine ret1 ?_)); (rotate_left); (with_reducible (refine pick_t ?_; refine mv_i ?_; refine ret1 ?_)); (rotate_left); (with_reducible (refine mv_i ?_; refine gd_ft ?_; refine gd_ft ?_; refine gd_ft ?_; refine pick_f ?_; refine mv_i ?_; refine ret1 ?_)); (rotate_left))
  all_goals exact ⟨by first | (simp_all; done) | (simp_all; omega), rfl⟩
theorem c96 (n lo hi : Int) : Runs Tryz.prog 91 [.int .i64 n, .int .i64 lo, .int .i64 hi] h (.bool (decide (lo ≤ n ∧ n ≤ hi))) h := by
  refine DetP.runs (w96 ?_)
  unfold n96
  ((with_reducible (refine mv_i ?_; refine mv_i ?_; refine mv_i ?_; refine leq_i (fun hc => ?_) (fun hc => ?_); refine mv_i ?_; refine gd_tt ?_; refine mv_i ?_; refine gd_tt ?_; refine mv_i ?_; refine gd_tt ?_; refine leq_i (fun hc => ?_) (fun hc => ?_); refine pick_t ?_; refine mv_i ?_; refine ret1 ?_)); (rotate_left); (with_reducible (refine pick_t ?_; refine mv_i ?_; refine ret1 ?_)); (rotate_left); (with_reducible (refine mv_i ?_; refine gd_ft ?_; refine gd_ft ?_; refine gd_ft ?_; refine pick_f ?_; refine mv_i ?_; refine ret1 ?_)); (rotate_left))
  all_goals exact ⟨by first | (simp_all; done) | (simp_all; omega), rfl⟩
theorem c72 (b : Bool) : Runs Tryz.prog 52 [.bool b] h (.int .i64 (if b then 1 else 0)) h := by
  refine DetP.runs (w72 ?_)
  unfold n72
  ((with_reducible (refine mv_i ?_; refine mv_i ?_; refine cnd_b (fun hb => ?_) (fun hb => ?_); refine mv_i ?_; refine ret1 ?_)); (rotate_left); (with_reducible (refine mv_i ?_; refine ret1 ?_)); (rotate_left))
  all_goals exact ⟨by first | (simp_all; done) | (simp_all; omega), rfl⟩
theorem c72t : Runs Tryz.prog 52 [.bool true] h (.int .i64 1) h := c72 true
theorem c72f : Runs Tryz.prog 52 [.bool false] h (.int .i64 0) h := c72 false
theorem mul_j {K : Value → Heap → Prop} {t : TypeId} {a b : Int} (h1 : -9223372036854775808 ≤ a * b) (h2 : a * b < 9223372036854775808) (hk : K (.int .i64 (a * b)) h) : vK (aBin Tryz.prog .mul t (.int .i64 a) (.int .i64 b)) h K := by
  refine mul_w ?_
  rw [wrap_i h1 h2]; exact hk
def unl (b : Bool) (e : Int) : Int := if b then 0 else e
theorem c77 (b : Bool) (e : Int) : Runs Tryz.prog 65 [.bool b, .int .i64 e] h (.int .i64 (unl b e)) h := by
  refine DetP.runs (w77 ?_)
  unfold n77
  ((with_reducible (refine mv_i ?_; refine mv_i ?_; refine cnd_b (fun hb => ?_) (fun hb => ?_); refine mv_i ?_; refine ret1 ?_)); (rotate_left); (with_reducible (refine mv_i ?_; refine mv_i ?_; refine ret1 ?_)); (rotate_left))
  all_goals exact ⟨by simp_all [unl], rfl⟩
theorem c91 (b : Bool) (e : Int) : Runs Tryz.prog 72 [.bool b, .int .i64 e] h (.int .i64 (unl b e)) h := by
  refine DetP.runs (w91 ?_)
  unfold n91
  ((with_reducible (refine mv_i ?_; refine mv_i ?_; refine cnd_b (fun hb => ?_) (fun hb => ?_); refine mv_i ?_; refine ret1 ?_)); (rotate_left); (with_reducible (refine mv_i ?_; refine mv_i ?_; refine ret1 ?_)); (rotate_left))
  all_goals exact ⟨by simp_all [unl], rfl⟩
theorem c107 (a : Int) : Runs Tryz.prog 79 [.int .i64 a] h (.bool false) h := by
  refine DetP.runs (w107 ?_)
  unfold n107
  ((with_reducible (refine mv_i ?_; refine mv_i ?_; refine mv_i ?_; refine neq_i (fun hc => ?_) (fun hc => ?_); refine mv_i ?_; refine ret1 ?_)); (rotate_left); (with_reducible (refine mv_i ?_; refine ret1 ?_)); (rotate_left))
  all_goals first | exact ⟨rfl, rfl⟩ | (exfalso; simp_all; done)
def cmpI (a b : Int) : Int := if a < b then -1 else if b < a then 1 else 0
theorem c81 (a b : Int) : Runs Tryz.prog 39 [.int .i64 a, .int .i64 b] h (.int .i64 (cmpI a b)) h := by
  refine DetP.runs (w81 ?_)
  unfold n81
  ((with_reducible (refine mv_i ?_; refine mv_i ?_)); (refine call_r (c107 _) ?_); (with_reducible (refine mv_i ?_; refine mv_i ?_)); (refine call_r (c107 _) ?_); (with_reducible (refine mv_i ?_; refine mv_i ?_; refine cnd_f ?_; refine mv_i ?_; refine cnd_f ?_; refine mv_i ?_; refine mv_i ?_; refine lss_i (fun hc => ?_) (fun hc => ?_); refine cnd_t ?_; refine mv_i ?_; refine ret1 ?_)); (rotate_left); (with_reducible (refine cnd_f ?_; refine mv_i ?_; refine mv_i ?_; refine gtr_i (fun hc => ?_) (fun hc => ?_); refine cnd_t ?_; refine mv_i ?_; refine ret1 ?_)); (rotate_left); (with_reducible (refine cnd_f ?_; refine mv_i ?_; refine ret1 ?_)); (rotate_left))
  all_goals exact ⟨by unfold cmpI; simp_all <;> omega, rfl⟩
theorem c76 {x : Value} {xs : List Int} (s : IntS h x xs) : Runs Tryz.prog 23 [x] h (.int .i64 (orOf xs)) h := by
  have lt := s.lt
  refine DetP.runs (w76 ?_)
  unfold n76
  ((with_reducible (refine mv_i ?_; refine mv_i ?_; refine mv_i ?_; refine leni_t (by assumption) ?_; refine mv_i ?_)))
  refine loop1 xs.length (fun k h2 => h = h2 ∧ ∀ j, j < k → xs.getD j 0 = 0) ⟨rfl, fun j hj => by omega⟩ ?_
  rintro k _ _ hk ⟨rfl, hJ⟩
  ((with_reducible (refine lss_i (fun hc => ?_) (fun hc => ?_); refine cnd_t ?_)); (refine idxi_t (by assumption) (by omega) ?_); (refine ldi_t (by assumption) (by omega) ?_); (with_reducible (refine mv_i ?_; refine mv_i ?_; refine mv_i ?_; refine neq_i (fun hc => ?_) (fun hc => ?_); refine cnd_f ?_; refine inc_i (by omega) ?_; refine mv_i ?_)); (rotate_left); (with_reducible (refine cnd_t ?_; refine mv_i ?_; refine mv_i ?_; refine ret1 ?_)); (rotate_left); (with_reducible (refine cnd_f ?_; refine mv_i ?_; refine mv_i ?_; refine ret1 ?_)); (rotate_left))
  · refine next1 (by omega) ⟨rfl, fun j hj => ?_⟩
    by_cases q : j = k
    · subst q; assumption
    · exact hJ j (by omega)
  · exact ⟨by rw [orOf_at (by omega) hJ (by assumption)], rfl⟩
  · exact ⟨by rw [orOf_no fun j hj => hJ j (by omega)], rfl⟩
theorem c80 {x : Value} {xs : List Int} (s : IntS h x xs) : Runs Tryz.prog 38 [x] h (.int .i64 (orOf xs)) h := by
  have lt := s.lt
  refine DetP.runs (w80 ?_)
  unfold n80
  ((with_reducible (refine mv_i ?_; refine mv_i ?_; refine mv_i ?_; refine leni_t (by assumption) ?_; refine mv_i ?_)))
  refine loop1 xs.length (fun k h2 => h = h2 ∧ ∀ j, j < k → xs.getD j 0 = 0) ⟨rfl, fun j hj => by omega⟩ ?_
  rintro k _ _ hk ⟨rfl, hJ⟩
  ((with_reducible (refine lss_i (fun hc => ?_) (fun hc => ?_); refine cnd_t ?_)); (refine idxi_t (by assumption) (by omega) ?_); (refine ldi_t (by assumption) (by omega) ?_); (with_reducible (refine mv_i ?_; refine mv_i ?_; refine mv_i ?_; refine neq_i (fun hc => ?_) (fun hc => ?_); refine cnd_f ?_; refine inc_i (by omega) ?_; refine mv_i ?_)); (rotate_left); (with_reducible (refine cnd_t ?_; refine mv_i ?_; refine mv_i ?_; refine ret1 ?_)); (rotate_left); (with_reducible (refine cnd_f ?_; refine mv_i ?_; refine mv_i ?_; refine ret1 ?_)); (rotate_left))
  · refine next1 (by omega) ⟨rfl, fun j hj => ?_⟩
    by_cases q : j = k
    · subst q; assumption
    · exact hJ j (by omega)
  · exact ⟨by rw [orOf_at (by omega) hJ (by assumption)], rfl⟩
  · exact ⟨by rw [orOf_no fun j hj => hJ j (by omega)], rfl⟩
def cmpM (a b : Mut) : Int := orOf [cmpI a.kind b.kind, cmpI a.step b.step, cmpI a.to b.to]
theorem c46 (a b : Mut) : Runs Tryz.prog 51 [fv a, fv b] h (.int .i64 (cmpM a b)) h := by
  have m := Mem.start h
  refine DetP.forget rfl ?_
  refine w46 ?_
  unfold n46
  ((with_reducible (refine box_a (by assumption) fun i h z p m => ?_; refine box_a (by assumption) fun i h z p m => ?_; refine mv_i ?_; refine fao ?_)); (refine ldoA ?_); (refine vbA ?_); (with_reducible (refine fao ?_)); (refine ldoA ?_); (refine vbA ?_); (refine calld_r (c81 _ _) ?_); (with_reducible (refine new_n ?_; refine fao ?_)); (refine ldoA ?_); (refine vbA ?_); (with_reducible (refine fao ?_)); (refine ldoA ?_); (refine vbA ?_); (refine calld_r (c81 _ _) ?_); (with_reducible (refine new_n ?_; refine fao ?_)); (refine ldoA ?_); (refine vbA ?_); (with_reducible (refine fao ?_)); (refine ldoA ?_); (refine vbA ?_); (refine calld_r (c81 _ _) ?_); (with_reducible (refine new_n ?_)); (refine bs_g (bs141_3 _ _ _ _) (by assumption) fun i h p m => ?_); (refine calld_r (c80 (own_ints (xs := [_, _, _]) (by assumption) (q := by infer_instance) rfl rfl (by decide))) ?_); (with_reducible (refine new_n ?_; refine mv_i ?_; refine ret1 ?_)))
  exact ⟨rfl, Mem.pre (by assumption)⟩
def cmpP (a b : Pr) : Int := orOf [cmpI a.a b.a, cmpI a.b b.b]
theorem c49 (a b : Pr) : Runs Tryz.prog 55 [fv a, fv b] h (.int .i64 (cmpP a b)) h := by
  have m := Mem.start h
  refine DetP.forget rfl ?_
  refine w49 ?_
  unfold n49
  ((with_reducible (refine box_a (by assumption) fun i h z p m => ?_; refine box_a (by assumption) fun i h z p m => ?_; refine mv_i ?_)); (refine ia_o (by omega) (by omega) ?_); (refine ldoA ?_); (refine vbA ?_); (refine ia_o (by omega) (by omega) ?_); (refine ldoA ?_); (refine vbA ?_); (refine calld_r (c81 _ _) ?_); (with_reducible (refine new_n ?_)); (refine ia_o (by omega) (by omega) ?_); (refine ldoA ?_); (refine vbA ?_); (refine ia_o (by omega) (by omega) ?_); (refine ldoA ?_); (refine vbA ?_); (refine calld_r (c81 _ _) ?_); (with_reducible (refine new_n ?_)); (refine bs_g (bs53_2 _ _ _) (by assumption) fun i h p m => ?_); (refine calld_r (c80 (own_ints (xs := [_, _]) (by assumption) (q := by infer_instance) rfl rfl (by decide))) ?_); (with_reducible (refine new_n ?_; refine mv_i ?_; refine ret1 ?_)))
  exact ⟨rfl, Mem.pre (by assumption)⟩
end Go.Proofs.YtomiejfeclefaaaGreat

set_option linter.unusedSimpArgs false
set_option linter.unusedVariables false
set_option linter.unnecessarySimpa false
set_option maxRecDepth 100000
set_option maxHeartbeats 4000000
namespace Go.Proofs.YtomiejfeclefaaaGreat
open Go.AM
variable {h g : Heap}
/-! ### the first error, the first index -/
def firstErr (f : Nat → Int) : Nat → Nat × Int
  | 0 => (0, 0)
  | n + 1 => if (firstErr f n).2 ≠ 0 then firstErr f n else if f n ≠ 0 then (n, f n) else (0, 0)
theorem firstErr_no {f : Nat → Int} {n : Nat} (hf : ∀ j, j < n → f j = 0) : firstErr f n = (0, 0) := by
  induction n with
  | zero => rfl
  | succ n ih =>
    unfold firstErr
    rw [ih fun j hj => hf j (by omega), hf n (by omega)]
    simp
theorem firstErr_at {f : Nat → Int} {n k : Nat} (hf : ∀ j, j < k → f j = 0) (hk : k < n) (he : f k ≠ 0) : firstErr f n = (k, f k) := by
  induction n with
  | zero => omega
  | succ n ih =>
    unfold firstErr
    by_cases q : k = n
    · subst q; rw [firstErr_no hf]; simp [he]
    · rw [ih (by omega)]; simp [he]
theorem firstErr_zero {f : Nat → Int} {n : Nat} (h0 : (firstErr f n).2 = 0) : ∀ j, j < n → f j = 0 := by
  induction n with
  | zero => intro j hj; omega
  | succ n ih =>
    unfold firstErr at h0
    split at h0
    · contradiction
    · rename_i h1
      split at h0
      · contradiction
      · rename_i h2
        intro j hj
        by_cases q : j = n
        · subst q; simpa using h2
        · exact ih (by simpa using h1) j (by omega)
theorem up_no {f : Nat → Int} {k : Nat} (hE : f k = 0) (hJ : ∀ j, j < k → f j = 0) : ∀ j, j < k + 1 → f j = 0 := by
  intro j hj
  by_cases q : j = k
  · subst q; exact hE
  · exact hJ j (by omega)
def idxOf {α : Type} (p : α → Bool) : List α → Int
  | [] => -1
  | t :: l => if p t = true then 0 else if idxOf p l < 0 then -1 else idxOf p l + 1
theorem idxOf_no {α : Type} [Df α] {p : α → Bool} {l : List α} (hf : ∀ j, j < l.length → p (gt l j) = false) : idxOf p l = -1 := by
  induction l with
  | nil => rfl
  | cons t l ih =>
    unfold idxOf
    have h0 := hf 0 (by simp)
    rw [show gt (t :: l) 0 = t from rfl] at h0
    rw [if_neg (by simp [h0]), ih fun j hj => hf (j + 1) (by simpa using hj)]
    rfl
theorem idxOf_at {α : Type} [Df α] {p : α → Bool} {l : List α} {k : Nat} (hf : ∀ j, j < k → p (gt l j) = false) (hk : k < l.length) (he : p (gt l k) = true) : idxOf p l = k := by
  induction l generalizing k with
  | nil => simp at hk
  | cons t l ih =>
    unfold idxOf
    cases k with
    | zero => rw [if_pos (by simpa [gt] using he)]; rfl
    | succ k =>
      have h0 := hf 0 (by omega)
      rw [show gt (t :: l) 0 = t from rfl] at h0
      rw [if_neg (by simp [h0]), ih (k := k) (fun j hj => hf (j + 1) (by omega)) (by simpa using hk) he]
      rw [if_neg (by omega)]
      push_cast; rfl
theorem idxOf_spec {α : Type} [Df α] (p : α → Bool) : ∀ (l : List α), (idxOf p l = -1 ∧ ∀ t ∈ l, p t = false) ∨ ∃ k, k < l.length ∧ idxOf p l = (k : Int) ∧ p (gt l k) = true ∧ ∀ j, j < k → p (gt l j) = false
  | [] => .inl ⟨rfl, fun t ht => by cases ht⟩
  | t :: l => by
    unfold idxOf
    by_cases e : p t = true
    · rw [if_pos e]
      exact .inr ⟨0, by simp, rfl, e, fun j hj => by omega⟩
    · rw [if_neg e]
      rcases idxOf_spec p l with ⟨e1, e2⟩ | ⟨k, h1, h2, h3, h4⟩
      · rw [e1, if_pos (by decide)]
        exact .inl ⟨rfl, fun u hu => by rcases List.mem_cons.mp hu with rfl | hu; simpa using e; exact e2 u hu⟩
      · rw [h2, if_neg (by omega)]
        refine .inr ⟨k + 1, by simpa using h1, by push_cast; rfl, h3, fun j hj => ?_⟩
        cases j with
        | zero => simpa [gt] using e
        | succ j => exact h4 j (by omega)
/-- Whether there is one. -/
theorem idxOf_any {α : Type} [Df α] (p : α → Bool) (l : List α) : 0 ≤ idxOf p l ↔ l.any p = true := by
  rcases idxOf_spec p l with ⟨e, h⟩ | ⟨k, h1, h2, h3, _⟩
  · rw [e, List.any_eq_true]
    constructor
    · intro q; omega
    · rintro ⟨t, ht, q⟩; rw [h t ht] at q; cases q
  · rw [h2, List.any_eq_true]
    exact ⟨fun _ => ⟨_, gd_mem _ h1, h3⟩, fun _ => by omega⟩
/-! ### a machine's error -/
def lexLt (a b : Stp) : Prop := a.frm < b.frm ∨ a.frm = b.frm ∧ a.inp < b.inp
instance (a b : Stp) : Decidable (lexLt a b) := by unfold lexLt; infer_instance
def inR (x : Mach) (s : Stp) : Prop := (0 ≤ s.frm ∧ s.frm ≤ x.states - 1) ∧ (0 ≤ s.to ∧ s.to ≤ x.states - 1) ∧ (0 ≤ s.inp ∧ s.inp ≤ x.inputs - 1) ∧ (0 ≤ s.out ∧ s.out ≤ x.outputs - 1)
instance (x : Mach) (s : Stp) : Decidable (inR x s) := by unfold inR; infer_instance
def stE (x : Mach) (k : Nat) : Int := if ¬ inR x (gt x.steps k) then 3 else if 0 < k ∧ ¬ lexLt (gt x.steps (k - 1)) (gt x.steps k) then 14 else 0
def headOK (x : Mach) : Prop := (1 ≤ x.states ∧ x.states ≤ 40) ∧ (1 ≤ x.inputs ∧ x.inputs ≤ 8) ∧ (1 ≤ x.outputs ∧ x.outputs ≤ 8) ∧ (0 ≤ x.start ∧ x.start ≤ x.states - 1)
instance (x : Mach) : Decidable (headOK x) := by unfold headOK; infer_instance
def chkM (x : Mach) : Nat × Int := if ¬ headOK x then (0, 3) else if x.states * x.inputs < x.steps.length then (0, 2) else firstErr (stE x) x.steps.length
/-- Lists of numbers in order. -/
def cmpL : List Int → List Int → Int
  | [], [] => 0
  | [], _ :: _ => -1
  | _ :: _, [] => 1
  | a :: l, b :: m => if a = b then cmpL l m else if b < a then 1 else -1
theorem cmpL_drop : ∀ (xs ys : List Int) (k : Nat), (∀ j, j < k → j < xs.length ∧ j < ys.length ∧ xs.getD j 0 = ys.getD j 0) → cmpL xs ys = cmpL (xs.drop k) (ys.drop k)
  | _, _, 0, _ => rfl
  | [], _, k + 1, hh => by have := (hh 0 (by omega)).1; simp at this
  | _ :: _, [], k + 1, hh => by have := (hh 0 (by omega)).2.1; simp at this
  | a :: l, b :: m, k + 1, hh => by
    have h0 := (hh 0 (by omega)).2.2
    simp at h0
    rw [cmpL, if_pos h0, List.drop_succ_cons, List.drop_succ_cons]
    exact cmpL_drop l m k fun j hj => by
      have := hh (j + 1) (by omega)
      simp only [List.length_cons, List.getD_cons_succ] at this
      exact ⟨by omega, by omega, this.2.2⟩
theorem cmpL_at {xs ys : List Int} {k : Nat} (h1 : k < xs.length) (h2 : k < ys.length) : cmpL (xs.drop k) (ys.drop k) = if xs.getD k 0 = ys.getD k 0 then cmpL (xs.drop (k + 1)) (ys.drop (k + 1)) else if ys.getD k 0 < xs.getD k 0 then 1 else -1 := by
  rw [List.drop_eq_getElem_cons h1, List.drop_eq_getElem_cons h2]
  simp [cmpL, List.getD, h1, h2]
theorem cmpL_end {xs ys : List Int} {k : Nat} (h : ¬ (k < xs.length ∧ k < ys.length)) : cmpL (xs.drop k) (ys.drop k) = if k < xs.length then 1 else if k < ys.length then -1 else 0 := by
  by_cases h1 : k < xs.length
  · rw [if_pos h1, List.drop_eq_nil_of_le (show ys.length ≤ k by omega), List.drop_eq_getElem_cons h1]; rfl
  · rw [if_neg h1, List.drop_eq_nil_of_le (show xs.length ≤ k by omega)]
    by_cases h2 : k < ys.length
    · rw [if_pos h2, List.drop_eq_getElem_cons h2]; rfl
    · rw [if_neg h2, List.drop_eq_nil_of_le (show ys.length ≤ k by omega)]; rfl
theorem c54 {x y : Value} {xs ys : List Int} (s : IntS h x xs) (t : IntS h y ys) : Runs Tryz.prog 61 [x, y] h (.int .i64 (cmpL xs ys)) h := by
  have lt := s.lt
  have lt2 := t.lt
  refine DetP.runs (w54 ?_)
  unfold n54
  ((with_reducible (refine mv_i ?_; refine mv_i ?_)))
  refine loop1 xs.length (fun k h2 => h = h2 ∧ ∀ j, j < k → j < xs.length ∧ j < ys.length ∧ xs.getD j 0 = ys.getD j 0) ⟨rfl, fun j hj => by omega⟩ ?_
  rintro k _ _ hk ⟨rfl, hJ⟩
  have hd := cmpL_drop xs ys k hJ
  ((with_reducible (refine mv_i ?_; refine mv_i ?_; refine leni_t (by assumption) ?_; refine lss_i (fun hc => ?_) (fun hc => ?_); refine mv_i ?_; refine gd_tt ?_; refine mv_i ?_; refine gd_tt ?_; refine mv_i ?_; refine gd_tt ?_; refine leni_t (by assumption) ?_; refine gd_tt ?_; refine lss_i (fun hc => ?_) (fun hc => ?_); refine pick_t ?_; refine cnd_t ?_; refine mv_i ?_; refine mv_i ?_)); (refine idxi_t (by assumption) (by omega) ?_); (refine ldi_t (by assumption) (by omega) ?_); (refine vbA ?_); (with_reducible (refine mv_i ?_; refine mv_i ?_)); (refine idxi_t (by assumption) (by omega) ?_); (refine ldi_t (by assumption) (by omega) ?_); (refine vbA ?_); (with_reducible (refine neq_i (fun hc => ?_) (fun hc => ?_); refine cnd_f ?_; refine mv_i ?_; refine inc_i (by omega) ?_; refine mv_i ?_)); (rotate_left); (with_reducible (refine cnd_t ?_; refine mv_i ?_; refine mv_i ?_)); (refine idxi_t (by assumption) (by omega) ?_); (refine ldi_t (by assumption) (by omega) ?_); (refine vbA ?_); (with_reducible (refine mv_i ?_; refine mv_i ?_)); (refine idxi_t (by assumption) (by omega) ?_); (refine ldi_t (by assumption) (by omega) ?_); (refine vbA ?_); (with_reducible (refine gtr_i (fun hc => ?_) (fun hc => ?_))); (refine calld_r c72t ?_); (with_reducible (refine new_n ?_)); (refine mul_j (by omega) (by omega) ?_); (with_reducible (refine sub_j (by omega) (by omega) ?_; refine mv_i ?_; refine ret1 ?_)); (rotate_left); (refine calld_r c72f ?_); (with_reducible (refine new_n ?_)); (refine mul_j (by omega) (by omega) ?_); (with_reducible (refine sub_j (by omega) (by omega) ?_; refine mv_i ?_; refine ret1 ?_)); (rotate_left); (with_reducible (refine pick_t ?_; refine cnd_f ?_; refine mv_i ?_; refine leni_t (by assumption) ?_; refine mv_i ?_; refine leni_t (by assumption) ?_; refine gtr_i (fun hc => ?_) (fun hc => ?_))); (refine call_r c72t ?_); (with_reducible (refine mv_i ?_; refine leni_t (by assumption) ?_; refine mv_i ?_; refine leni_t (by assumption) ?_; refine lss_i (fun hc => ?_) (fun hc => ?_))); (refine call_r c72t ?_); (with_reducible (refine sub_j (by omega) (by omega) ?_; refine mv_i ?_; refine ret1 ?_)); (rotate_left); (refine call_r c72f ?_); (with_reducible (refine sub_j (by omega) (by omega) ?_; refine mv_i ?_; refine ret1 ?_)); (rotate_left); (refine call_r c72f ?_); (with_reducible (refine mv_i ?_; refine leni_t (by assumption) ?_; refine mv_i ?_; refine leni_t (by assumption) ?_; refine lss_i (fun hc => ?_) (fun hc => ?_))); (refine call_r c72t ?_); (with_reducible (refine sub_j (by omega) (by omega) ?_; refine mv_i ?_; refine ret1 ?_)); (rotate_left); (refine call_r c72f ?_); (with_reducible (refine sub_j (by omega) (by omega) ?_; refine mv_i ?_; refine ret1 ?_)); (rotate_left); (with_reducible (refine mv_i ?_; refine gd_ft ?_; refine gd_ft ?_; refine gd_ft ?_; refine gd_ft ?_; refine pick_f ?_; refine cnd_f ?_; refine mv_i ?_; refine leni_t (by assumption) ?_; refine mv_i ?_; refine leni_t (by assumption) ?_; refine gtr_i (fun hc => ?_) (fun hc => ?_))); (refine call_r c72t ?_); (with_reducible (refine mv_i ?_; refine leni_t (by assumption) ?_; refine mv_i ?_; refine leni_t (by assumption) ?_; refine lss_i (fun hc => ?_) (fun hc => ?_))); (refine call_r c72t ?_); (with_reducible (refine sub_j (by omega) (by omega) ?_; refine mv_i ?_; refine ret1 ?_)); (rotate_left); (refine call_r c72f ?_); (with_reducible (refine sub_j (by omega) (by omega) ?_; refine mv_i ?_; refine ret1 ?_)); (rotate_left); (refine call_r c72f ?_); (with_reducible (refine mv_i ?_; refine leni_t (by assumption) ?_; refine mv_i ?_; refine leni_t (by assumption) ?_; refine lss_i (fun hc => ?_) (fun hc => ?_))); (refine call_r c72t ?_); (with_reducible (refine sub_j (by omega) (by omega) ?_; refine mv_i ?_; refine ret1 ?_)); (rotate_left); (refine call_r c72f ?_); (with_reducible (refine sub_j (by omega) (by omega) ?_; refine mv_i ?_; refine ret1 ?_)); (rotate_left))
  · refine next1 (by omega) ⟨rfl, fun j hj => ?_⟩
    by_cases q : j = k
    · subst q; exact ⟨by omega, by omega, hc⟩
    · exact hJ j (by omega)
  all_goals
    refine ⟨?_, rfl⟩
    rw [hd]
    have hk2 : k ≤ ys.length := by
      rcases Nat.eq_zero_or_pos k with q | q
      · omega
      · have := (hJ (k - 1) (by omega)).2.1; omega
    congr 1
    first
      | (rw [cmpL_at (by omega) (by omega), if_neg (by assumption), if_pos (by assumption)]; done)
      | (rw [cmpL_at (by omega) (by omega), if_neg (by assumption), if_pos (by assumption)]; rfl)
      | (rw [cmpL_at (by omega) (by omega), if_neg (by assumption), if_neg (by assumption)]; rfl)
      | (rw [cmpL_end (by omega)]
         split
         · omega
         · split <;> omega)
end Go.Proofs.YtomiejfeclefaaaGreat

set_option linter.unusedSimpArgs false
set_option linter.unusedVariables false
set_option linter.unnecessarySimpa false
set_option maxRecDepth 100000
set_option maxHeartbeats 4000000
namespace Go.Proofs.YtomiejfeclefaaaGreat
open Go.AM
variable {h g : Heap}
theorem prod_bd {x : Mach} (hh : headOK x) : 1 ≤ x.states * x.inputs ∧ x.states * x.inputs ≤ 320 := by
  obtain ⟨⟨a1, a2⟩, ⟨b1, b2⟩, _⟩ := hh
  have h1 := Int.mul_le_mul a2 b2 (by omega) (by omega : (0 : Int) ≤ 40)
  have h2 := Int.mul_le_mul a1 b1 (by omega) (by omega : (0 : Int) ≤ x.states)
  omega
theorem orOf_lex (a b : Stp) : 0 ≤ orOf [cmpI a.frm b.frm, cmpI a.inp b.inp] ↔ ¬ lexLt a b := by
  rw [orOf_cons, orOf_cons, orOf_nil]
  unfold lexLt cmpI
  repeat' split
  all_goals omega
theorem cmpL_lex (a b : Stp) : 0 ≤ cmpL [a.frm, a.inp] [b.frm, b.inp] ↔ ¬ lexLt a b := by
  unfold lexLt
  simp only [cmpL]
  repeat' split
  all_goals omega
def mk2 (i : Nat) (e : Int) : Value := .tuple #[.int .i64 (i : Int), .int .i64 e]
theorem chk_at {x : Mach} (hh : headOK x) (hl : ¬ x.states * x.inputs < x.steps.length) {k : Nat} {e : Int} (hE : stE x k = e) (hJ : ∀ j, j < k → stE x j = 0) (hk : k < x.steps.length) (he : e ≠ 0) : chkM x = (k, e) := by
  subst hE
  rw [chkM, if_neg (by simpa using hh), if_neg hl, firstErr_at hJ hk he]
theorem chk_no {x : Mach} (hh : headOK x) (hl : ¬ x.states * x.inputs < x.steps.length) (hJ : ∀ j, j < x.steps.length → stE x j = 0) : chkM x = (0, 0) := by
  rw [chkM, if_neg (by simpa using hh), if_neg hl, firstErr_no hJ]
theorem st_r {x : Mach} {k : Nat} (hr : ¬ inR x (gt x.steps k)) : stE x k = 3 := by rw [stE, if_pos hr]
theorem st_o {x : Mach} {k : Nat} (hr : inR x (gt x.steps k)) (h1 : 0 < k) (h2 : ¬ lexLt (gt x.steps (k - 1)) (gt x.steps k)) : stE x k = 14 := by rw [stE, if_neg (by simpa using hr), if_pos ⟨h1, h2⟩]
theorem st_n {x : Mach} {k : Nat} (hr : inR x (gt x.steps k)) (h1 : ¬ (0 < k ∧ ¬ lexLt (gt x.steps (k - 1)) (gt x.steps k))) : stE x k = 0 := by rw [stE, if_neg (by simpa using hr), if_neg h1]
theorem c73 {v : Value} {x : Mach} (s : MacV g v x) : Runs Tryz.prog 86 [v] g (mk2 (chkM x).1 (chkM x).2) g := by
  obtain ⟨tv, rfl, s⟩ := s
  have lt := s.lt
  have m := Mem.start g
  refine DetP.forget rfl ?_
  refine w73 ?_
  unfold n73
  by_cases hh : headOK x
  · obtain ⟨d1, d2⟩ := prod_bd hh
    have hh' := hh
    obtain ⟨a1, a2, a3, a4⟩ := hh
    ((with_reducible (refine box_a (by assumption) fun i h z p m => ?_; refine mv_i ?_; refine mv_i ?_; refine fao ?_)); (refine ldoA ?_); (refine call_r (c53 _ _ _) ?_); (with_reducible (refine not_dh (by assumption) ?_; refine mv_i ?_; refine gd_ff ?_; refine fao ?_; refine gd_ff ?_)); (refine ldoA ?_); (with_reducible (refine gd_ff ?_)); (refine call_r (c53 _ _ _) ?_); (with_reducible (refine gd_ff ?_; refine not_dh (by assumption) ?_; refine pick_f ?_; refine mv_i ?_; refine gd_ff ?_; refine fao ?_; refine gd_ff ?_)); (refine ldoA ?_); (with_reducible (refine gd_ff ?_)); (refine call_r (c53 _ _ _) ?_); (with_reducible (refine gd_ff ?_; refine not_dh (by assumption) ?_; refine pick_f ?_; refine mv_i ?_; refine gd_ff ?_; refine fao ?_; refine gd_ff ?_)); (refine ldoA ?_); (with_reducible (refine gd_ff ?_; refine fao ?_; refine gd_ff ?_)); (refine ldoA ?_); (with_reducible (refine gd_ff ?_; refine sub_a (by assumption) (by decide) (by decide) ?_; refine gd_ff ?_)); (refine call_r (c53 _ _ _) ?_); (with_reducible (refine gd_ff ?_; refine not_dh (by assumption) ?_; refine pick_f ?_; refine cnd_f ?_; refine fao ?_)); (refine ldoA ?_); (with_reducible (refine len_g (by assumption) ?_; refine fao ?_)); (refine ldoA ?_); (with_reducible (refine fao ?_)); (refine ldoA ?_); (refine mul_j (by omega) (by omega) ?_); (with_reducible (refine gtr_i (fun hc => ?_) (fun hc => ?_); refine cnd_t ?_; refine mv_i ?_; refine mv_i ?_; refine ret2 ?_)); (rotate_left); (with_reducible (refine cnd_f ?_; refine mv_i ?_)); (rotate_left))
    · have hl : chkM x = (0, 2) := by rw [chkM, if_neg (by simpa using hh'), if_pos (by omega)]
      rw [hl]
      exact ⟨rfl, Mem.pre (by assumption)⟩
    · have hlen := hc
      refine loop1 x.steps.length (fun k h2 => Prec h h2 ∧ Mem g h2 [⟨some i, [.int .i64 x.states, .int .i64 x.inputs, .int .i64 x.outputs, .int .i64 x.start, tv], z⟩] ∧ ∀ j, j < k → stE x j = 0) ⟨⟨Stab.refl _⟩, m, fun j hj => by omega⟩ ?_
      rintro k h2 _ hk ⟨p2, m, hJ⟩
      clear d1 d2
      by_cases hkl : k < x.steps.length
      · by_cases hr : inR x (gt x.steps k)
        · have hr' := hr
          obtain ⟨r1, r2, r3, r4⟩ := hr
          ((with_reducible (refine mv_i ?_; refine fao ?_)); (refine ldoA ?_); (with_reducible (refine len_g (by assumption) ?_; refine lss_i (fun hc => ?_) (fun hc => ?_); refine cnd_t ?_; refine fao ?_)); (refine ldoA ?_); (with_reducible (refine mv_i ?_)); (refine idxA fun p hp => ?_); (refine ldr_w (by assumption) (by with_unfolding_all rfl) ?_); (with_reducible (refine alloc_z (by assumption) fun i h z p m => ?_)); (refine st_w (by assumption) (by infer_instance) (by with_unfolding_all rfl) (by with_unfolding_all rfl) (by first | rfl | exact flat_ones (Flat.flat _)) (by infer_instance) fun h p m => ?_); (with_reducible (refine fao ?_)); (refine ldoA ?_); (with_reducible (refine fao ?_)); (refine ldoA ?_); (with_reducible (refine sub_a (by assumption) (by decide) (by decide) ?_)); (refine call_r (c53 _ _ _) ?_); (with_reducible (refine not_dh (by assumption) ?_; refine mv_i ?_; refine gd_ff ?_; refine fao ?_; refine gd_ff ?_)); (refine ldoA ?_); (with_reducible (refine gd_ff ?_; refine fao ?_; refine gd_ff ?_)); (refine ldoA ?_); (with_reducible (refine gd_ff ?_; refine sub_a (by assumption) (by decide) (by decide) ?_; refine gd_ff ?_)); (refine call_r (c53 _ _ _) ?_); (with_reducible (refine gd_ff ?_; refine not_dh (by assumption) ?_; refine pick_f ?_; refine mv_i ?_; refine gd_ff ?_; refine fao ?_; refine gd_ff ?_)); (refine ldoA ?_); (with_reducible (refine gd_ff ?_; refine fao ?_; refine gd_ff ?_)); (refine ldoA ?_); (with_reducible (refine gd_ff ?_; refine sub_a (by assumption) (by decide) (by decide) ?_; refine gd_ff ?_)); (refine call_r (c53 _ _ _) ?_); (with_reducible (refine gd_ff ?_; refine not_dh (by assumption) ?_; refine pick_f ?_; refine mv_i ?_; refine gd_ff ?_; refine fao ?_; refine gd_ff ?_)); (refine ldoA ?_); (with_reducible (refine gd_ff ?_; refine fao ?_; refine gd_ff ?_)); (refine ldoA ?_); (with_reducible (refine gd_ff ?_; refine sub_a (by assumption) (by decide) (by decide) ?_; refine gd_ff ?_)); (refine call_r (c53 _ _ _) ?_); (with_reducible (refine gd_ff ?_; refine not_dh (by assumption) ?_; refine pick_f ?_; refine cnd_f ?_; refine mv_i ?_; refine gtr_i (fun hc => ?_) (fun hc => ?_); refine mv_i ?_; refine gd_tt ?_; refine fao ?_; refine gd_tt ?_)); (refine ldoA ?_); (with_reducible (refine vb_l (by assumption) ?_; refine gd_tt ?_; refine mv_i ?_; refine gd_tt ?_; refine sub_j (by omega) (by omega) ?_; refine gd_tt ?_)); (refine idx_dp (by assumption) (by with_unfolding_all rfl) (by omega) (by omega) fun p hp => ?_); (with_reducible (refine gd_tt ?_; refine fa_g (by assumption) fun p hp => ?_; refine gd_tt ?_)); (refine ldgA ?_); (refine vbA ?_); (with_reducible (refine gd_tt ?_; refine fao ?_; refine gd_tt ?_)); (refine ldoA ?_); (with_reducible (refine vb_l (by assumption) ?_; refine gd_tt ?_; refine mv_i ?_; refine gd_tt ?_; refine sub_j (by omega) (by omega) ?_; refine gd_tt ?_)); (refine idx_dp (by assumption) (by with_unfolding_all rfl) (by omega) (by omega) fun p hp => ?_); (with_reducible (refine gd_tt ?_; refine fa_g (by assumption) fun p hp => ?_; refine gd_tt ?_)); (refine ldgA ?_); (refine vbA ?_); (with_reducible (refine gd_tt ?_)); (refine bs_g (bs53_2 _ _ _) (by assumption) fun i h p m => ?_); (with_reducible (refine gd_tt ?_; refine fao ?_; refine gd_tt ?_)); (refine ldoA ?_); (refine vbA ?_); (with_reducible (refine gd_tt ?_; refine fao ?_; refine gd_tt ?_)); (refine ldoA ?_); (refine vbA ?_); (with_reducible (refine gd_tt ?_)); (refine bs_g (bs53_2 _ _ _) (by assumption) fun i h p m => ?_); (with_reducible (refine gd_tt ?_)); (refine calld_r (c54 (own_ints (xs := [_, _]) (by assumption) (q := by infer_instance) rfl rfl (by decide)) (own_ints (xs := [_, _]) (by assumption) (q := by infer_instance) rfl rfl (by decide))) ?_); (with_reducible (refine new_n ?_; refine gd_tt ?_; refine geq_i (fun hc => ?_) (fun hc => ?_); refine pick_t ?_; refine cnd_t ?_; refine mv_i ?_; refine mv_i ?_; refine mv_i ?_; refine ret2 ?_)); (rotate_left); (with_reducible (refine pick_t ?_; refine cnd_f ?_; refine mv_i ?_; refine inc_i (by omega) ?_; refine mv_i ?_)); (rotate_left); (with_reducible (refine mv_i ?_; refine gd_ft ?_; refine gd_ft ?_; refine gd_ft ?_; refine gd_ft ?_; refine gd_ft ?_; refine gd_ft ?_; refine gd_ft ?_; refine gd_ft ?_; refine gd_ft ?_; refine gd_ft ?_; refine gd_ft ?_; refine gd_ft ?_; refine gd_ft ?_; refine gd_ft ?_; refine gd_ft ?_; refine gd_ft ?_; refine gd_ft ?_; refine gd_ft ?_; refine gd_ft ?_; refine gd_ft ?_; refine gd_ft ?_; refine gd_ft ?_; refine pick_f ?_; refine cnd_f ?_; refine mv_i ?_; refine inc_i (by omega) ?_; refine mv_i ?_)); (rotate_left); (with_reducible (refine cnd_f ?_; refine mv_i ?_; refine mv_i ?_; refine ret2 ?_)); (rotate_left))
          all_goals (try (exfalso; omega))
          all_goals first
            | exact ⟨by rw [chk_at hh' hlen (st_o hr' (by omega) (by first | exact (cmpL_lex _ _).mp (by assumption) | exact (orOf_lex _ _).mp (by assumption))) hJ hkl (by decide)]; rfl, Mem.pre (by assumption)⟩
            | exact next1 hkl ⟨⟨Stb.st⟩, m.sub (by simp), up_no (st_n hr' (by rintro ⟨q1, q2⟩; first | omega | exact absurd ((cmpL_lex _ _).mpr q2) (by assumption) | exact absurd ((orOf_lex _ _).mpr q2) (by assumption))) hJ⟩
        · ((with_reducible (refine mv_i ?_; refine fao ?_)); (refine ldoA ?_); (with_reducible (refine len_g (by assumption) ?_; refine lss_i (fun hc => ?_) (fun hc => ?_); refine cnd_t ?_; refine fao ?_)); (refine ldoA ?_); (with_reducible (refine mv_i ?_)); (refine idxA fun p hp => ?_); (refine ldr_w (by assumption) (by with_unfolding_all rfl) ?_); (with_reducible (refine alloc_z (by assumption) fun i h z p m => ?_)); (refine st_w (by assumption) (by infer_instance) (by with_unfolding_all rfl) (by with_unfolding_all rfl) (by first | rfl | exact flat_ones (Flat.flat _)) (by infer_instance) fun h p m => ?_); (with_reducible (refine fao ?_)); (refine ldoA ?_); (with_reducible (refine fao ?_)); (refine ldoA ?_); (with_reducible (refine sub_a (by assumption) (by decide) (by decide) ?_)); (refine call_r (c53 _ _ _) ?_); (with_reducible (refine not_d (fun hb => ?_) (fun hb => ?_); refine mv_i ?_; refine gd_ff ?_; refine fao ?_; refine gd_ff ?_)); (refine ldoA ?_); (with_reducible (refine gd_ff ?_; refine fao ?_; refine gd_ff ?_)); (refine ldoA ?_); (with_reducible (refine gd_ff ?_; refine sub_a (by assumption) (by decide) (by decide) ?_; refine gd_ff ?_)); (refine call_r (c53 _ _ _) ?_); (with_reducible (refine gd_ff ?_; refine not_d (fun hb => ?_) (fun hb => ?_); refine pick_f ?_; refine mv_i ?_; refine gd_ff ?_; refine fao ?_; refine gd_ff ?_)); (refine ldoA ?_); (with_reducible (refine gd_ff ?_; refine fao ?_; refine gd_ff ?_)); (refine ldoA ?_); (with_reducible (refine gd_ff ?_; refine sub_a (by assumption) (by decide) (by decide) ?_; refine gd_ff ?_)); (refine call_r (c53 _ _ _) ?_); (with_reducible (refine gd_ff ?_; refine not_d (fun hb => ?_) (fun hb => ?_); refine pick_f ?_; refine mv_i ?_; refine gd_ff ?_; refine fao ?_; refine gd_ff ?_)); (refine ldoA ?_); (with_reducible (refine gd_ff ?_; refine fao ?_; refine gd_ff ?_)); (refine ldoA ?_); (with_reducible (refine gd_ff ?_; refine sub_a (by assumption) (by decide) (by decide) ?_; refine gd_ff ?_)); (refine call_r (c53 _ _ _) ?_); (with_reducible (refine gd_ff ?_; refine not_d (fun hb => ?_) (fun hb => ?_); refine pick_f ?_; refine cnd_f ?_; refine mv_i ?_; refine gtr_i (fun hc => ?_) (fun hc => ?_); refine mv_i ?_; refine gd_tt ?_; refine fao ?_; refine gd_tt ?_)); (refine ldoA ?_); (with_reducible (refine vb_l (by assumption) ?_; refine gd_tt ?_; refine mv_i ?_; refine gd_tt ?_; refine sub_j (by omega) (by omega) ?_; refine gd_tt ?_)); (refine idx_dp (by assumption) (by with_unfolding_all rfl) (by omega) (by omega) fun p hp => ?_); (with_reducible (refine gd_tt ?_; refine fa_g (by assumption) fun p hp => ?_; refine gd_tt ?_)); (refine ldgA ?_); (refine vbA ?_); (with_reducible (refine gd_tt ?_; refine fao ?_; refine gd_tt ?_)); (refine ldoA ?_); (with_reducible (refine vb_l (by assumption) ?_; refine gd_tt ?_; refine mv_i ?_; refine gd_tt ?_; refine sub_j (by omega) (by omega) ?_; refine gd_tt ?_)); (refine idx_dp (by assumption) (by with_unfolding_all rfl) (by omega) (by omega) fun p hp => ?_); (with_reducible (refine gd_tt ?_; refine fa_g (by assumption) fun p hp => ?_; refine gd_tt ?_)); (refine ldgA ?_); (refine vbA ?_); (with_reducible (refine gd_tt ?_)); (refine bs_g (bs53_2 _ _ _) (by assumption) fun i h p m => ?_); (with_reducible (refine gd_tt ?_; refine fao ?_; refine gd_tt ?_)); (refine ldoA ?_); (refine vbA ?_); (with_reducible (refine gd_tt ?_; refine fao ?_; refine gd_tt ?_)); (refine ldoA ?_); (refine vbA ?_); (with_reducible (refine gd_tt ?_)); (refine bs_g (bs53_2 _ _ _) (by assumption) fun i h p m => ?_); (with_reducible (refine gd_tt ?_)); (refine calld_r (c54 (own_ints (xs := [_, _]) (by assumption) (q := by infer_instance) rfl rfl (by decide)) (own_ints (xs := [_, _]) (by assumption) (q := by infer_instance) rfl rfl (by decide))) ?_); (with_reducible (refine new_n ?_; refine gd_tt ?_; refine geq_i (fun hc => ?_) (fun hc => ?_); refine pick_t ?_; refine cnd_t ?_; refine mv_i ?_; refine mv_i ?_; refine mv_i ?_; refine ret2 ?_)); (rotate_left); (with_reducible (refine pick_t ?_; refine cnd_f ?_; refine mv_i ?_; refine inc_i (by omega) ?_; refine mv_i ?_)); (rotate_left); (with_reducible (refine mv_i ?_; refine gd_ft ?_; refine gd_ft ?_; refine gd_ft ?_; refine gd_ft ?_; refine gd_ft ?_; refine gd_ft ?_; refine gd_ft ?_; refine gd_ft ?_; refine gd_ft ?_; refine gd_ft ?_; refine gd_ft ?_; refine gd_ft ?_; refine gd_ft ?_; refine gd_ft ?_; refine gd_ft ?_; refine gd_ft ?_; refine gd_ft ?_; refine gd_ft ?_; refine gd_ft ?_; refine gd_ft ?_; refine gd_ft ?_; refine gd_ft ?_; refine pick_f ?_; refine cnd_f ?_; refine mv_i ?_; refine inc_i (by omega) ?_; refine mv_i ?_)); (rotate_left); (with_reducible (refine pick_f ?_; refine cnd_t ?_; refine mv_i ?_; refine mv_i ?_; refine mv_i ?_; refine ret2 ?_)); (rotate_left); (with_reducible (refine pick_f ?_; refine mv_i ?_; refine gd_tf ?_; refine gd_tf ?_; refine gd_tf ?_; refine gd_tf ?_; refine gd_tf ?_; refine gd_tf ?_; refine gd_tf ?_; refine pick_t ?_; refine cnd_t ?_; refine mv_i ?_; refine mv_i ?_; refine mv_i ?_; refine ret2 ?_)); (rotate_left); (with_reducible (refine pick_f ?_; refine mv_i ?_; refine gd_tf ?_; refine gd_tf ?_; refine gd_tf ?_; refine gd_tf ?_; refine gd_tf ?_; refine gd_tf ?_; refine gd_tf ?_; refine pick_t ?_; refine mv_i ?_; refine gd_tf ?_; refine gd_tf ?_; refine gd_tf ?_; refine gd_tf ?_; refine gd_tf ?_; refine gd_tf ?_; refine gd_tf ?_; refine pick_t ?_; refine cnd_t ?_; refine mv_i ?_; refine mv_i ?_; refine mv_i ?_; refine ret2 ?_)); (rotate_left); (with_reducible (refine mv_i ?_; refine gd_tf ?_; refine gd_tf ?_; refine gd_tf ?_; refine gd_tf ?_; refine gd_tf ?_; refine gd_tf ?_; refine gd_tf ?_; refine pick_t ?_; refine mv_i ?_; refine gd_tf ?_; refine gd_tf ?_; refine gd_tf ?_; refine gd_tf ?_; refine gd_tf ?_; refine gd_tf ?_; refine gd_tf ?_; refine pick_t ?_; refine mv_i ?_; refine gd_tf ?_; refine gd_tf ?_; refine gd_tf ?_; refine gd_tf ?_; refine gd_tf ?_; refine gd_tf ?_; refine gd_tf ?_; refine pick_t ?_; refine cnd_t ?_; refine mv_i ?_; refine mv_i ?_; refine mv_i ?_; refine ret2 ?_)); (rotate_left); (with_reducible (refine cnd_f ?_; refine mv_i ?_; refine mv_i ?_; refine ret2 ?_)); (rotate_left))
          all_goals first
            | (exfalso; omega)
            | exact (hr ⟨by assumption, by assumption, by assumption, by assumption⟩).elim
            | exact ⟨by rw [chk_at hh' hlen (st_r hr) hJ hkl (by decide)]; rfl, Mem.pre (by assumption)⟩
      · ((with_reducible (refine mv_i ?_; refine fao ?_)); (refine ldoA ?_); (with_reducible (refine len_g (by assumption) ?_; refine lss_i (fun hc => ?_) (fun hc => ?_); refine cnd_t ?_; refine fao ?_)); (refine ldoA ?_); (with_reducible (refine mv_i ?_)); (refine idxA fun p hp => ?_); (refine ldr_w (by assumption) (by with_unfolding_all rfl) ?_); (with_reducible (refine alloc_z (by assumption) fun i h z p m => ?_)); (refine st_w (by assumption) (by infer_instance) (by with_unfolding_all rfl) (by with_unfolding_all rfl) (by first | rfl | exact flat_ones (Flat.flat _)) (by infer_instance) fun h p m => ?_); (with_reducible (refine fao ?_)); (refine ldoA ?_); (with_reducible (refine fao ?_)); (refine ldoA ?_); (with_reducible (refine sub_a (by assumption) (by decide) (by decide) ?_)); (refine call_r (c53 _ _ _) ?_); (with_reducible (refine not_d (fun hb => ?_) (fun hb => ?_); refine mv_i ?_; refine gd_ff ?_; refine fao ?_; refine gd_ff ?_)); (refine ldoA ?_); (with_reducible (refine gd_ff ?_; refine fao ?_; refine gd_ff ?_)); (refine ldoA ?_); (with_reducible (refine gd_ff ?_; refine sub_a (by assumption) (by decide) (by decide) ?_; refine gd_ff ?_)); (refine call_r (c53 _ _ _) ?_); (with_reducible (refine gd_ff ?_; refine not_d (fun hb => ?_) (fun hb => ?_); refine pick_f ?_; refine mv_i ?_; refine gd_ff ?_; refine fao ?_; refine gd_ff ?_)); (refine ldoA ?_); (with_reducible (refine gd_ff ?_; refine fao ?_; refine gd_ff ?_)); (refine ldoA ?_); (with_reducible (refine gd_ff ?_; refine sub_a (by assumption) (by decide) (by decide) ?_; refine gd_ff ?_)); (refine call_r (c53 _ _ _) ?_); (with_reducible (refine gd_ff ?_; refine not_d (fun hb => ?_) (fun hb => ?_); refine pick_f ?_; refine mv_i ?_; refine gd_ff ?_; refine fao ?_; refine gd_ff ?_)); (refine ldoA ?_); (with_reducible (refine gd_ff ?_; refine fao ?_; refine gd_ff ?_)); (refine ldoA ?_); (with_reducible (refine gd_ff ?_; refine sub_a (by assumption) (by decide) (by decide) ?_; refine gd_ff ?_)); (refine call_r (c53 _ _ _) ?_); (with_reducible (refine gd_ff ?_; refine not_d (fun hb => ?_) (fun hb => ?_); refine pick_f ?_; refine cnd_f ?_; refine mv_i ?_; refine gtr_i (fun hc => ?_) (fun hc => ?_); refine mv_i ?_; refine gd_tt ?_; refine fao ?_; refine gd_tt ?_)); (refine ldoA ?_); (with_reducible (refine vb_l (by assumption) ?_; refine gd_tt ?_; refine mv_i ?_; refine gd_tt ?_; refine sub_j (by omega) (by omega) ?_; refine gd_tt ?_)); (refine idx_dp (by assumption) (by with_unfolding_all rfl) (by omega) (by omega) fun p hp => ?_); (with_reducible (refine gd_tt ?_; refine fa_g (by assumption) fun p hp => ?_; refine gd_tt ?_)); (refine ldgA ?_); (refine vbA ?_); (with_reducible (refine gd_tt ?_; refine fao ?_; refine gd_tt ?_)); (refine ldoA ?_); (with_reducible (refine vb_l (by assumption) ?_; refine gd_tt ?_; refine mv_i ?_; refine gd_tt ?_; refine sub_j (by omega) (by omega) ?_; refine gd_tt ?_)); (refine idx_dp (by assumption) (by with_unfolding_all rfl) (by omega) (by omega) fun p hp => ?_); (with_reducible (refine gd_tt ?_; refine fa_g (by assumption) fun p hp => ?_; refine gd_tt ?_)); (refine ldgA ?_); (refine vbA ?_); (with_reducible (refine gd_tt ?_)); (refine bs_g (bs53_2 _ _ _) (by assumption) fun i h p m => ?_); (with_reducible (refine gd_tt ?_; refine fao ?_; refine gd_tt ?_)); (refine ldoA ?_); (refine vbA ?_); (with_reducible (refine gd_tt ?_; refine fao ?_; refine gd_tt ?_)); (refine ldoA ?_); (refine vbA ?_); (with_reducible (refine gd_tt ?_)); (refine bs_g (bs53_2 _ _ _) (by assumption) fun i h p m => ?_); (with_reducible (refine gd_tt ?_)); (refine calld_r (c54 (own_ints (xs := [_, _]) (by assumption) (q := by infer_instance) rfl rfl (by decide)) (own_ints (xs := [_, _]) (by assumption) (q := by infer_instance) rfl rfl (by decide))) ?_); (with_reducible (refine new_n ?_; refine gd_tt ?_; refine geq_i (fun hc => ?_) (fun hc => ?_); refine pick_t ?_; refine cnd_t ?_; refine mv_i ?_; refine mv_i ?_; refine mv_i ?_; refine ret2 ?_)); (rotate_left); (with_reducible (refine pick_t ?_; refine cnd_f ?_; refine mv_i ?_; refine inc_i (by omega) ?_; refine mv_i ?_)); (rotate_left); (with_reducible (refine mv_i ?_; refine gd_ft ?_; refine gd_ft ?_; refine gd_ft ?_; refine gd_ft ?_; refine gd_ft ?_; refine gd_ft ?_; refine gd_ft ?_; refine gd_ft ?_; refine gd_ft ?_; refine gd_ft ?_; refine gd_ft ?_; refine gd_ft ?_; refine gd_ft ?_; refine gd_ft ?_; refine gd_ft ?_; refine gd_ft ?_; refine gd_ft ?_; refine gd_ft ?_; refine gd_ft ?_; refine gd_ft ?_; refine gd_ft ?_; refine gd_ft ?_; refine pick_f ?_; refine cnd_f ?_; refine mv_i ?_; refine inc_i (by omega) ?_; refine mv_i ?_)); (rotate_left); (with_reducible (refine pick_f ?_; refine cnd_t ?_; refine mv_i ?_; refine mv_i ?_; refine mv_i ?_; refine ret2 ?_)); (rotate_left); (with_reducible (refine pick_f ?_; refine mv_i ?_; refine gd_tf ?_; refine gd_tf ?_; refine gd_tf ?_; refine gd_tf ?_; refine gd_tf ?_; refine gd_tf ?_; refine gd_tf ?_; refine pick_t ?_; refine cnd_t ?_; refine mv_i ?_; refine mv_i ?_; refine mv_i ?_; refine ret2 ?_)); (rotate_left); (with_reducible (refine pick_f ?_; refine mv_i ?_; refine gd_tf ?_; refine gd_tf ?_; refine gd_tf ?_; refine gd_tf ?_; refine gd_tf ?_; refine gd_tf ?_; refine gd_tf ?_; refine pick_t ?_; refine mv_i ?_; refine gd_tf ?_; refine gd_tf ?_; refine gd_tf ?_; refine gd_tf ?_; refine gd_tf ?_; refine gd_tf ?_; refine gd_tf ?_; refine pick_t ?_; refine cnd_t ?_; refine mv_i ?_; refine mv_i ?_; refine mv_i ?_; refine ret2 ?_)); (rotate_left); (with_reducible (refine mv_i ?_; refine gd_tf ?_; refine gd_tf ?_; refine gd_tf ?_; refine gd_tf ?_; refine gd_tf ?_; refine gd_tf ?_; refine gd_tf ?_; refine pick_t ?_; refine mv_i ?_; refine gd_tf ?_; refine gd_tf ?_; refine gd_tf ?_; refine gd_tf ?_; refine gd_tf ?_; refine gd_tf ?_; refine gd_tf ?_; refine pick_t ?_; refine mv_i ?_; refine gd_tf ?_; refine gd_tf ?_; refine gd_tf ?_; refine gd_tf ?_; refine gd_tf ?_; refine gd_tf ?_; refine gd_tf ?_; refine pick_t ?_; refine cnd_t ?_; refine mv_i ?_; refine mv_i ?_; refine mv_i ?_; refine ret2 ?_)); (rotate_left); (with_reducible (refine cnd_f ?_; refine mv_i ?_; refine mv_i ?_; refine ret2 ?_)); (rotate_left))
        all_goals (try (exfalso; omega))
        exact ⟨by rw [chk_no hh' hlen fun j hj => hJ j (by omega)]; rfl, Mem.pre (by assumption)⟩
  · have hl : chkM x = (0, 3) := by rw [chkM, if_pos hh]
    rw [hl]
    ((with_reducible (refine box_a (by assumption) fun i h z p m => ?_; refine mv_i ?_; refine mv_i ?_; refine fao ?_)); (refine ldoA ?_); (refine call_r (c53 _ _ _) ?_); (with_reducible (refine not_d (fun hb => ?_) (fun hb => ?_); refine mv_i ?_; refine gd_ff ?_; refine fao ?_; refine gd_ff ?_)); (refine ldoA ?_); (with_reducible (refine gd_ff ?_)); (refine call_r (c53 _ _ _) ?_); (with_reducible (refine gd_ff ?_; refine not_d (fun hb => ?_) (fun hb => ?_); refine pick_f ?_; refine mv_i ?_; refine gd_ff ?_; refine fao ?_; refine gd_ff ?_)); (refine ldoA ?_); (with_reducible (refine gd_ff ?_)); (refine call_r (c53 _ _ _) ?_); (with_reducible (refine gd_ff ?_; refine not_d (fun hb => ?_) (fun hb => ?_); refine pick_f ?_; refine mv_i ?_; refine gd_ff ?_; refine fao ?_; refine gd_ff ?_)); (refine ldoA ?_); (with_reducible (refine gd_ff ?_; refine fao ?_; refine gd_ff ?_)); (refine ldoA ?_); (with_reducible (refine gd_ff ?_; refine sub_a (by assumption) (by decide) (by decide) ?_; refine gd_ff ?_)); (refine call_r (c53 _ _ _) ?_); (with_reducible (refine gd_ff ?_; refine not_d (fun hb => ?_) (fun hb => ?_); refine pick_f ?_; refine cnd_f ?_; refine fao ?_)); (refine ldoA ?_); (with_reducible (refine len_g (by assumption) ?_; refine fao ?_)); (refine ldoA ?_); (with_reducible (refine fao ?_)); (refine ldoA ?_); (rotate_left); (with_reducible (refine pick_f ?_; refine cnd_t ?_; refine mv_i ?_; refine mv_i ?_; refine ret2 ?_)); (rotate_left); (with_reducible (refine pick_f ?_; refine mv_i ?_; refine gd_tf ?_; refine gd_tf ?_; refine gd_tf ?_; refine gd_tf ?_; refine gd_tf ?_; refine gd_tf ?_; refine gd_tf ?_; refine pick_t ?_; refine cnd_t ?_; refine mv_i ?_; refine mv_i ?_; refine ret2 ?_)); (rotate_left); (with_reducible (refine pick_f ?_; refine mv_i ?_; refine gd_tf ?_; refine gd_tf ?_; refine gd_tf ?_; refine gd_tf ?_; refine pick_t ?_; refine mv_i ?_; refine gd_tf ?_; refine gd_tf ?_; refine gd_tf ?_; refine gd_tf ?_; refine gd_tf ?_; refine gd_tf ?_; refine gd_tf ?_; refine pick_t ?_; refine cnd_t ?_; refine mv_i ?_; refine mv_i ?_; refine ret2 ?_)); (rotate_left); (with_reducible (refine mv_i ?_; refine gd_tf ?_; refine gd_tf ?_; refine gd_tf ?_; refine gd_tf ?_; refine pick_t ?_; refine mv_i ?_; refine gd_tf ?_; refine gd_tf ?_; refine gd_tf ?_; refine gd_tf ?_; refine pick_t ?_; refine mv_i ?_; refine gd_tf ?_; refine gd_tf ?_; refine gd_tf ?_; refine gd_tf ?_; refine gd_tf ?_; refine gd_tf ?_; refine gd_tf ?_; refine pick_t ?_; refine cnd_t ?_; refine mv_i ?_; refine mv_i ?_; refine ret2 ?_)); (rotate_left))
    all_goals first
      | exact ⟨rfl, Mem.pre (by assumption)⟩
      | exact (hh ⟨by assumption, by assumption, by assumption, by assumption⟩).elim
theorem c75 {v : Value} {x : Mach} (s : MacV g v x) : Runs Tryz.prog 82 [v] g (mk2 (chkM x).1 (chkM x).2) g := by
  obtain ⟨tv, rfl, s⟩ := s
  have lt := s.lt
  have m := Mem.start g
  refine DetP.forget rfl ?_
  refine w75 ?_
  unfold n75
  by_cases hh : headOK x
  · obtain ⟨d1, d2⟩ := prod_bd hh
    have hh' := hh
    obtain ⟨a1, a2, a3, a4⟩ := hh
    ((with_reducible (refine box_a (by assumption) fun i h z p m => ?_; refine mv_i ?_; refine mv_i ?_; refine fao ?_)); (refine ldoA ?_); (refine call_r (c96 _ _ _) ?_); (with_reducible (refine not_dh (by assumption) ?_; refine mv_i ?_; refine gd_ff ?_; refine fao ?_; refine gd_ff ?_)); (refine ldoA ?_); (with_reducible (refine gd_ff ?_)); (refine call_r (c96 _ _ _) ?_); (with_reducible (refine gd_ff ?_; refine not_dh (by assumption) ?_; refine pick_f ?_; refine mv_i ?_; refine gd_ff ?_; refine fao ?_; refine gd_ff ?_)); (refine ldoA ?_); (with_reducible (refine gd_ff ?_)); (refine call_r (c96 _ _ _) ?_); (with_reducible (refine gd_ff ?_; refine not_dh (by assumption) ?_; refine pick_f ?_; refine mv_i ?_; refine gd_ff ?_; refine fao ?_; refine gd_ff ?_)); (refine ldoA ?_); (with_reducible (refine gd_ff ?_; refine fao ?_; refine gd_ff ?_)); (refine ldoA ?_); (with_reducible (refine gd_ff ?_; refine sub_a (by assumption) (by decide) (by decide) ?_; refine gd_ff ?_)); (refine call_r (c96 _ _ _) ?_); (with_reducible (refine gd_ff ?_; refine not_dh (by assumption) ?_; refine pick_f ?_; refine cnd_f ?_; refine fao ?_)); (refine ldoA ?_); (with_reducible (refine len_g (by assumption) ?_; refine fao ?_)); (refine ldoA ?_); (with_reducible (refine fao ?_)); (refine ldoA ?_); (refine mul_j (by omega) (by omega) ?_); (with_reducible (refine gtr_i (fun hc => ?_) (fun hc => ?_); refine cnd_t ?_; refine mv_i ?_; refine mv_i ?_; refine ret2 ?_)); (rotate_left); (with_reducible (refine cnd_f ?_; refine fao ?_)); (refine ldoA ?_); (with_reducible (refine len_g (by assumption) ?_; refine mv_i ?_)); (rotate_left))
    · have hl : chkM x = (0, 2) := by rw [chkM, if_neg (by simpa using hh'), if_pos (by omega)]
      rw [hl]
      exact ⟨rfl, Mem.pre (by assumption)⟩
    · have hlen := hc
      refine loop1 x.steps.length (fun k h2 => Prec h h2 ∧ Mem g h2 [⟨some i, [.int .i64 x.states, .int .i64 x.inputs, .int .i64 x.outputs, .int .i64 x.start, tv], z⟩] ∧ ∀ j, j < k → stE x j = 0) ⟨⟨Stab.refl _⟩, m, fun j hj => by omega⟩ ?_
      rintro k h2 _ hk ⟨p2, m, hJ⟩
      clear d1 d2
      by_cases hkl : k < x.steps.length
      · by_cases hr : inR x (gt x.steps k)
        · have hr' := hr
          obtain ⟨r1, r2, r3, r4⟩ := hr
          ((with_reducible (refine lss_i (fun hc => ?_) (fun hc => ?_); refine cnd_t ?_; refine mv_i ?_)); (refine idxA fun p hp => ?_); (refine ldr_w (by assumption) (by with_unfolding_all rfl) ?_); (with_reducible (refine alloc_z (by assumption) fun i h z p m => ?_; refine mv_i ?_)); (refine st_w (by assumption) (by infer_instance) (by with_unfolding_all rfl) (by with_unfolding_all rfl) (by first | rfl | exact flat_ones (Flat.flat _)) (by infer_instance) fun h p m => ?_); (with_reducible (refine fao ?_)); (refine ldoA ?_); (with_reducible (refine fao ?_)); (refine ldoA ?_); (with_reducible (refine sub_a (by assumption) (by decide) (by decide) ?_)); (refine call_r (c96 _ _ _) ?_); (with_reducible (refine not_dh (by assumption) ?_; refine mv_i ?_; refine gd_ff ?_; refine fao ?_; refine gd_ff ?_)); (refine ldoA ?_); (with_reducible (refine gd_ff ?_; refine fao ?_; refine gd_ff ?_)); (refine ldoA ?_); (with_reducible (refine gd_ff ?_; refine sub_a (by assumption) (by decide) (by decide) ?_; refine gd_ff ?_)); (refine call_r (c96 _ _ _) ?_); (with_reducible (refine gd_ff ?_; refine not_dh (by assumption) ?_; refine pick_f ?_; refine mv_i ?_; refine gd_ff ?_; refine fao ?_; refine gd_ff ?_)); (refine ldoA ?_); (with_reducible (refine gd_ff ?_; refine fao ?_; refine gd_ff ?_)); (refine ldoA ?_); (with_reducible (refine gd_ff ?_; refine sub_a (by assumption) (by decide) (by decide) ?_; refine gd_ff ?_)); (refine call_r (c96 _ _ _) ?_); (with_reducible (refine gd_ff ?_; refine not_dh (by assumption) ?_; refine pick_f ?_; refine mv_i ?_; refine gd_ff ?_; refine fao ?_; refine gd_ff ?_)); (refine ldoA ?_); (with_reducible (refine gd_ff ?_; refine fao ?_; refine gd_ff ?_)); (refine ldoA ?_); (with_reducible (refine gd_ff ?_; refine sub_a (by assumption) (by decide) (by decide) ?_; refine gd_ff ?_)); (refine call_r (c96 _ _ _) ?_); (with_reducible (refine gd_ff ?_; refine not_dh (by assumption) ?_; refine pick_f ?_; refine cnd_f ?_; refine mv_i ?_; refine gtr_i (fun hc => ?_) (fun hc => ?_); refine mv_i ?_; refine gd_tt ?_; refine fao ?_; refine gd_tt ?_)); (refine ldoA ?_); (with_reducible (refine vb_l (by assumption) ?_; refine gd_tt ?_; refine mv_i ?_; refine gd_tt ?_; refine sub_j (by omega) (by omega) ?_; refine gd_tt ?_)); (refine idx_dp (by assumption) (by with_unfolding_all rfl) (by omega) (by omega) fun p hp => ?_); (with_reducible (refine gd_tt ?_; refine fa_g (by assumption) fun p hp => ?_; refine gd_tt ?_)); (refine ldgA ?_); (refine vbA ?_); (with_reducible (refine gd_tt ?_; refine fao ?_; refine gd_tt ?_)); (refine ldoA ?_); (refine vbA ?_); (with_reducible (refine gd_tt ?_)); (refine calld_r (c81 _ _) ?_); (with_reducible (refine new_n ?_; refine gd_tt ?_; refine fao ?_; refine gd_tt ?_)); (refine ldoA ?_); (with_reducible (refine vb_l (by assumption) ?_; refine gd_tt ?_; refine mv_i ?_; refine gd_tt ?_; refine sub_j (by omega) (by omega) ?_; refine gd_tt ?_)); (refine idx_dp (by assumption) (by with_unfolding_all rfl) (by omega) (by omega) fun p hp => ?_); (with_reducible (refine gd_tt ?_; refine fa_g (by assumption) fun p hp => ?_; refine gd_tt ?_)); (refine ldgA ?_); (refine vbA ?_); (with_reducible (refine gd_tt ?_; refine fao ?_; refine gd_tt ?_)); (refine ldoA ?_); (refine vbA ?_); (with_reducible (refine gd_tt ?_)); (refine calld_r (c81 _ _) ?_); (with_reducible (refine new_n ?_; refine gd_tt ?_)); (refine bs_g (bs53_2 _ _ _) (by assumption) fun i h p m => ?_); (with_reducible (refine gd_tt ?_)); (refine calld_r (c80 (own_ints (xs := [_, _]) (by assumption) (q := by infer_instance) rfl rfl (by decide))) ?_); (with_reducible (refine new_n ?_; refine gd_tt ?_; refine geq_i (fun hc => ?_) (fun hc => ?_); refine pick_t ?_; refine cnd_t ?_; refine mv_i ?_; refine mv_i ?_; refine mv_i ?_; refine ret2 ?_)); (rotate_left); (with_reducible (refine pick_t ?_; refine cnd_f ?_; refine inc_i (by omega) ?_; refine mv_i ?_)); (rotate_left); (with_reducible (refine mv_i ?_; refine gd_ft ?_; refine gd_ft ?_; refine gd_ft ?_; refine gd_ft ?_; refine gd_ft ?_; refine gd_ft ?_; refine gd_ft ?_; refine gd_ft ?_; refine gd_ft ?_; refine gd_ft ?_; refine gd_ft ?_; refine gd_ft ?_; refine gd_ft ?_; refine gd_ft ?_; refine gd_ft ?_; refine gd_ft ?_; refine gd_ft ?_; refine gd_ft ?_; refine gd_ft ?_; refine gd_ft ?_; refine gd_ft ?_; refine gd_ft ?_; refine gd_ft ?_; refine pick_f ?_; refine cnd_f ?_; refine inc_i (by omega) ?_; refine mv_i ?_)); (rotate_left); (with_reducible (refine cnd_f ?_; refine mv_i ?_; refine mv_i ?_; refine ret2 ?_)); (rotate_left))
          all_goals (try (exfalso; omega))
          all_goals first
            | exact ⟨by rw [chk_at hh' hlen (st_o hr' (by omega) (by first | exact (cmpL_lex _ _).mp (by assumption) | exact (orOf_lex _ _).mp (by assumption))) hJ hkl (by decide)]; rfl, Mem.pre (by assumption)⟩
            | exact next1 hkl ⟨⟨Stb.st⟩, m.sub (by simp), up_no (st_n hr' (by rintro ⟨q1, q2⟩; first | omega | exact absurd ((cmpL_lex _ _).mpr q2) (by assumption) | exact absurd ((orOf_lex _ _).mpr q2) (by assumption))) hJ⟩
        · ((with_reducible (refine lss_i (fun hc => ?_) (fun hc => ?_); refine cnd_t ?_; refine mv_i ?_)); (refine idxA fun p hp => ?_); (refine ldr_w (by assumption) (by with_unfolding_all rfl) ?_); (with_reducible (refine alloc_z (by assumption) fun i h z p m => ?_; refine mv_i ?_)); (refine st_w (by assumption) (by infer_instance) (by with_unfolding_all rfl) (by with_unfolding_all rfl) (by first | rfl | exact flat_ones (Flat.flat _)) (by infer_instance) fun h p m => ?_); (with_reducible (refine fao ?_)); (refine ldoA ?_); (with_reducible (refine fao ?_)); (refine ldoA ?_); (with_reducible (refine sub_a (by assumption) (by decide) (by decide) ?_)); (refine call_r (c96 _ _ _) ?_); (with_reducible (refine not_d (fun hb => ?_) (fun hb => ?_); refine mv_i ?_; refine gd_ff ?_; refine fao ?_; refine gd_ff ?_)); (refine ldoA ?_); (with_reducible (refine gd_ff ?_; refine fao ?_; refine gd_ff ?_)); (refine ldoA ?_); (with_reducible (refine gd_ff ?_; refine sub_a (by assumption) (by decide) (by decide) ?_; refine gd_ff ?_)); (refine call_r (c96 _ _ _) ?_); (with_reducible (refine gd_ff ?_; refine not_d (fun hb => ?_) (fun hb => ?_); refine pick_f ?_; refine mv_i ?_; refine gd_ff ?_; refine fao ?_; refine gd_ff ?_)); (refine ldoA ?_); (with_reducible (refine gd_ff ?_; refine fao ?_; refine gd_ff ?_)); (refine ldoA ?_); (with_reducible (refine gd_ff ?_; refine sub_a (by assumption) (by decide) (by decide) ?_; refine gd_ff ?_)); (refine call_r (c96 _ _ _) ?_); (with_reducible (refine gd_ff ?_; refine not_d (fun hb => ?_) (fun hb => ?_); refine pick_f ?_; refine mv_i ?_; refine gd_ff ?_; refine fao ?_; refine gd_ff ?_)); (refine ldoA ?_); (with_reducible (refine gd_ff ?_; refine fao ?_; refine gd_ff ?_)); (refine ldoA ?_); (with_reducible (refine gd_ff ?_; refine sub_a (by assumption) (by decide) (by decide) ?_; refine gd_ff ?_)); (refine call_r (c96 _ _ _) ?_); (with_reducible (refine gd_ff ?_; refine not_d (fun hb => ?_) (fun hb => ?_); refine pick_f ?_; refine cnd_f ?_; refine mv_i ?_; refine gtr_i (fun hc => ?_) (fun hc => ?_); refine mv_i ?_; refine gd_tt ?_; refine fao ?_; refine gd_tt ?_)); (refine ldoA ?_); (with_reducible (refine vb_l (by assumption) ?_; refine gd_tt ?_; refine mv_i ?_; refine gd_tt ?_; refine sub_j (by omega) (by omega) ?_; refine gd_tt ?_)); (refine idx_dp (by assumption) (by with_unfolding_all rfl) (by omega) (by omega) fun p hp => ?_); (with_reducible (refine gd_tt ?_; refine fa_g (by assumption) fun p hp => ?_; refine gd_tt ?_)); (refine ldgA ?_); (refine vbA ?_); (with_reducible (refine gd_tt ?_; refine fao ?_; refine gd_tt ?_)); (refine ldoA ?_); (refine vbA ?_); (with_reducible (refine gd_tt ?_)); (refine calld_r (c81 _ _) ?_); (with_reducible (refine new_n ?_; refine gd_tt ?_; refine fao ?_; refine gd_tt ?_)); (refine ldoA ?_); (with_reducible (refine vb_l (by assumption) ?_; refine gd_tt ?_; refine mv_i ?_; refine gd_tt ?_; refine sub_j (by omega) (by omega) ?_; refine gd_tt ?_)); (refine idx_dp (by assumption) (by with_unfolding_all rfl) (by omega) (by omega) fun p hp => ?_); (with_reducible (refine gd_tt ?_; refine fa_g (by assumption) fun p hp => ?_; refine gd_tt ?_)); (refine ldgA ?_); (refine vbA ?_); (with_reducible (refine gd_tt ?_; refine fao ?_; refine gd_tt ?_)); (refine ldoA ?_); (refine vbA ?_); (with_reducible (refine gd_tt ?_)); (refine calld_r (c81 _ _) ?_); (with_reducible (refine new_n ?_; refine gd_tt ?_)); (refine bs_g (bs53_2 _ _ _) (by assumption) fun i h p m => ?_); (with_reducible (refine gd_tt ?_)); (refine calld_r (c80 (own_ints (xs := [_, _]) (by assumption) (q := by infer_instance) rfl rfl (by decide))) ?_); (with_reducible (refine new_n ?_; refine gd_tt ?_; refine geq_i (fun hc => ?_) (fun hc => ?_); refine pick_t ?_; refine cnd_t ?_; refine mv_i ?_; refine mv_i ?_; refine mv_i ?_; refine ret2 ?_)); (rotate_left); (with_reducible (refine pick_t ?_; refine cnd_f ?_; refine inc_i (by omega) ?_; refine mv_i ?_)); (rotate_left); (with_reducible (refine mv_i ?_; refine gd_ft ?_; refine gd_ft ?_; refine gd_ft ?_; refine gd_ft ?_; refine gd_ft ?_; refine gd_ft ?_; refine gd_ft ?_; refine gd_ft ?_; refine gd_ft ?_; refine gd_ft ?_; refine gd_ft ?_; refine gd_ft ?_; refine gd_ft ?_; refine gd_ft ?_; refine gd_ft ?_; refine gd_ft ?_; refine gd_ft ?_; refine gd_ft ?_; refine gd_ft ?_; refine gd_ft ?_; refine gd_ft ?_; refine gd_ft ?_; refine gd_ft ?_; refine pick_f ?_; refine cnd_f ?_; refine inc_i (by omega) ?_; refine mv_i ?_)); (rotate_left); (with_reducible (refine pick_f ?_; refine cnd_t ?_; refine mv_i ?_; refine mv_i ?_; refine mv_i ?_; refine ret2 ?_)); (rotate_left); (with_reducible (refine pick_f ?_; refine mv_i ?_; refine gd_tf ?_; refine gd_tf ?_; refine gd_tf ?_; refine gd_tf ?_; refine gd_tf ?_; refine gd_tf ?_; refine gd_tf ?_; refine pick_t ?_; refine cnd_t ?_; refine mv_i ?_; refine mv_i ?_; refine mv_i ?_; refine ret2 ?_)); (rotate_left); (with_reducible (refine pick_f ?_; refine mv_i ?_; refine gd_tf ?_; refine gd_tf ?_; refine gd_tf ?_; refine gd_tf ?_; refine gd_tf ?_; refine gd_tf ?_; refine gd_tf ?_; refine pick_t ?_; refine mv_i ?_; refine gd_tf ?_; refine gd_tf ?_; refine gd_tf ?_; refine gd_tf ?_; refine gd_tf ?_; refine gd_tf ?_; refine gd_tf ?_; refine pick_t ?_; refine cnd_t ?_; refine mv_i ?_; refine mv_i ?_; refine mv_i ?_; refine ret2 ?_)); (rotate_left); (with_reducible (refine mv_i ?_; refine gd_tf ?_; refine gd_tf ?_; refine gd_tf ?_; refine gd_tf ?_; refine gd_tf ?_; refine gd_tf ?_; refine gd_tf ?_; refine pick_t ?_; refine mv_i ?_; refine gd_tf ?_; refine gd_tf ?_; refine gd_tf ?_; refine gd_tf ?_; refine gd_tf ?_; refine gd_tf ?_; refine gd_tf ?_; refine pick_t ?_; refine mv_i ?_; refine gd_tf ?_; refine gd_tf ?_; refine gd_tf ?_; refine gd_tf ?_; refine gd_tf ?_; refine gd_tf ?_; refine gd_tf ?_; refine pick_t ?_; refine cnd_t ?_; refine mv_i ?_; refine mv_i ?_; refine mv_i ?_; refine ret2 ?_)); (rotate_left); (with_reducible (refine cnd_f ?_; refine mv_i ?_; refine mv_i ?_; refine ret2 ?_)); (rotate_left))
          all_goals first
            | (exfalso; omega)
            | exact (hr ⟨by assumption, by assumption, by assumption, by assumption⟩).elim
            | exact ⟨by rw [chk_at hh' hlen (st_r hr) hJ hkl (by decide)]; rfl, Mem.pre (by assumption)⟩
      · ((with_reducible (refine lss_i (fun hc => ?_) (fun hc => ?_); refine cnd_t ?_; refine mv_i ?_)); (refine idxA fun p hp => ?_); (refine ldr_w (by assumption) (by with_unfolding_all rfl) ?_); (with_reducible (refine alloc_z (by assumption) fun i h z p m => ?_; refine mv_i ?_)); (refine st_w (by assumption) (by infer_instance) (by with_unfolding_all rfl) (by with_unfolding_all rfl) (by first | rfl | exact flat_ones (Flat.flat _)) (by infer_instance) fun h p m => ?_); (with_reducible (refine fao ?_)); (refine ldoA ?_); (with_reducible (refine fao ?_)); (refine ldoA ?_); (with_reducible (refine sub_a (by assumption) (by decide) (by decide) ?_)); (refine call_r (c96 _ _ _) ?_); (with_reducible (refine not_d (fun hb => ?_) (fun hb => ?_); refine mv_i ?_; refine gd_ff ?_; refine fao ?_; refine gd_ff ?_)); (refine ldoA ?_); (with_reducible (refine gd_ff ?_; refine fao ?_; refine gd_ff ?_)); (refine ldoA ?_); (with_reducible (refine gd_ff ?_; refine sub_a (by assumption) (by decide) (by decide) ?_; refine gd_ff ?_)); (refine call_r (c96 _ _ _) ?_); (with_reducible (refine gd_ff ?_; refine not_d (fun hb => ?_) (fun hb => ?_); refine pick_f ?_; refine mv_i ?_; refine gd_ff ?_; refine fao ?_; refine gd_ff ?_)); (refine ldoA ?_); (with_reducible (refine gd_ff ?_; refine fao ?_; refine gd_ff ?_)); (refine ldoA ?_); (with_reducible (refine gd_ff ?_; refine sub_a (by assumption) (by decide) (by decide) ?_; refine gd_ff ?_)); (refine call_r (c96 _ _ _) ?_); (with_reducible (refine gd_ff ?_; refine not_d (fun hb => ?_) (fun hb => ?_); refine pick_f ?_; refine mv_i ?_; refine gd_ff ?_; refine fao ?_; refine gd_ff ?_)); (refine ldoA ?_); (with_reducible (refine gd_ff ?_; refine fao ?_; refine gd_ff ?_)); (refine ldoA ?_); (with_reducible (refine gd_ff ?_; refine sub_a (by assumption) (by decide) (by decide) ?_; refine gd_ff ?_)); (refine call_r (c96 _ _ _) ?_); (with_reducible (refine gd_ff ?_; refine not_d (fun hb => ?_) (fun hb => ?_); refine pick_f ?_; refine cnd_f ?_; refine mv_i ?_; refine gtr_i (fun hc => ?_) (fun hc => ?_); refine mv_i ?_; refine gd_tt ?_; refine fao ?_; refine gd_tt ?_)); (refine ldoA ?_); (with_reducible (refine vb_l (by assumption) ?_; refine gd_tt ?_; refine mv_i ?_; refine gd_tt ?_; refine sub_j (by omega) (by omega) ?_; refine gd_tt ?_)); (refine idx_dp (by assumption) (by with_unfolding_all rfl) (by omega) (by omega) fun p hp => ?_); (with_reducible (refine gd_tt ?_; refine fa_g (by assumption) fun p hp => ?_; refine gd_tt ?_)); (refine ldgA ?_); (refine vbA ?_); (with_reducible (refine gd_tt ?_; refine fao ?_; refine gd_tt ?_)); (refine ldoA ?_); (refine vbA ?_); (with_reducible (refine gd_tt ?_)); (refine calld_r (c81 _ _) ?_); (with_reducible (refine new_n ?_; refine gd_tt ?_; refine fao ?_; refine gd_tt ?_)); (refine ldoA ?_); (with_reducible (refine vb_l (by assumption) ?_; refine gd_tt ?_; refine mv_i ?_; refine gd_tt ?_; refine sub_j (by omega) (by omega) ?_; refine gd_tt ?_)); (refine idx_dp (by assumption) (by with_unfolding_all rfl) (by omega) (by omega) fun p hp => ?_); (with_reducible (refine gd_tt ?_; refine fa_g (by assumption) fun p hp => ?_; refine gd_tt ?_)); (refine ldgA ?_); (refine vbA ?_); (with_reducible (refine gd_tt ?_; refine fao ?_; refine gd_tt ?_)); (refine ldoA ?_); (refine vbA ?_); (with_reducible (refine gd_tt ?_)); (refine calld_r (c81 _ _) ?_); (with_reducible (refine new_n ?_; refine gd_tt ?_)); (refine bs_g (bs53_2 _ _ _) (by assumption) fun i h p m => ?_); (with_reducible (refine gd_tt ?_)); (refine calld_r (c80 (own_ints (xs := [_, _]) (by assumption) (q := by infer_instance) rfl rfl (by decide))) ?_); (with_reducible (refine new_n ?_; refine gd_tt ?_; refine geq_i (fun hc => ?_) (fun hc => ?_); refine pick_t ?_; refine cnd_t ?_; refine mv_i ?_; refine mv_i ?_; refine mv_i ?_; refine ret2 ?_)); (rotate_left); (with_reducible (refine pick_t ?_; refine cnd_f ?_; refine inc_i (by omega) ?_; refine mv_i ?_)); (rotate_left); (with_reducible (refine mv_i ?_; refine gd_ft ?_; refine gd_ft ?_; refine gd_ft ?_; refine gd_ft ?_; refine gd_ft ?_; refine gd_ft ?_; refine gd_ft ?_; refine gd_ft ?_; refine gd_ft ?_; refine gd_ft ?_; refine gd_ft ?_; refine gd_ft ?_; refine gd_ft ?_; refine gd_ft ?_; refine gd_ft ?_; refine gd_ft ?_; refine gd_ft ?_; refine gd_ft ?_; refine gd_ft ?_; refine gd_ft ?_; refine gd_ft ?_; refine gd_ft ?_; refine gd_ft ?_; refine pick_f ?_; refine cnd_f ?_; refine inc_i (by omega) ?_; refine mv_i ?_)); (rotate_left); (with_reducible (refine pick_f ?_; refine cnd_t ?_; refine mv_i ?_; refine mv_i ?_; refine mv_i ?_; refine ret2 ?_)); (rotate_left); (with_reducible (refine pick_f ?_; refine mv_i ?_; refine gd_tf ?_; refine gd_tf ?_; refine gd_tf ?_; refine gd_tf ?_; refine gd_tf ?_; refine gd_tf ?_; refine gd_tf ?_; refine pick_t ?_; refine cnd_t ?_; refine mv_i ?_; refine mv_i ?_; refine mv_i ?_; refine ret2 ?_)); (rotate_left); (with_reducible (refine pick_f ?_; refine mv_i ?_; refine gd_tf ?_; refine gd_tf ?_; refine gd_tf ?_; refine gd_tf ?_; refine gd_tf ?_; refine gd_tf ?_; refine gd_tf ?_; refine pick_t ?_; refine mv_i ?_; refine gd_tf ?_; refine gd_tf ?_; refine gd_tf ?_; refine gd_tf ?_; refine gd_tf ?_; refine gd_tf ?_; refine gd_tf ?_; refine pick_t ?_; refine cnd_t ?_; refine mv_i ?_; refine mv_i ?_; refine mv_i ?_; refine ret2 ?_)); (rotate_left); (with_reducible (refine mv_i ?_; refine gd_tf ?_; refine gd_tf ?_; refine gd_tf ?_; refine gd_tf ?_; refine gd_tf ?_; refine gd_tf ?_; refine gd_tf ?_; refine pick_t ?_; refine mv_i ?_; refine gd_tf ?_; refine gd_tf ?_; refine gd_tf ?_; refine gd_tf ?_; refine gd_tf ?_; refine gd_tf ?_; refine gd_tf ?_; refine pick_t ?_; refine mv_i ?_; refine gd_tf ?_; refine gd_tf ?_; refine gd_tf ?_; refine gd_tf ?_; refine gd_tf ?_; refine gd_tf ?_; refine gd_tf ?_; refine pick_t ?_; refine cnd_t ?_; refine mv_i ?_; refine mv_i ?_; refine mv_i ?_; refine ret2 ?_)); (rotate_left); (with_reducible (refine cnd_f ?_; refine mv_i ?_; refine mv_i ?_; refine ret2 ?_)); (rotate_left))
        all_goals (try (exfalso; omega))
        exact ⟨by rw [chk_no hh' hlen fun j hj => hJ j (by omega)]; rfl, Mem.pre (by assumption)⟩
  · have hl : chkM x = (0, 3) := by rw [chkM, if_pos hh]
    rw [hl]
    ((with_reducible (refine box_a (by assumption) fun i h z p m => ?_; refine mv_i ?_; refine mv_i ?_; refine fao ?_)); (refine ldoA ?_); (refine call_r (c96 _ _ _) ?_); (with_reducible (refine not_d (fun hb => ?_) (fun hb => ?_); refine mv_i ?_; refine gd_ff ?_; refine fao ?_; refine gd_ff ?_)); (refine ldoA ?_); (with_reducible (refine gd_ff ?_)); (refine call_r (c96 _ _ _) ?_); (with_reducible (refine gd_ff ?_; refine not_d (fun hb => ?_) (fun hb => ?_); refine pick_f ?_; refine mv_i ?_; refine gd_ff ?_; refine fao ?_; refine gd_ff ?_)); (refine ldoA ?_); (with_reducible (refine gd_ff ?_)); (refine call_r (c96 _ _ _) ?_); (with_reducible (refine gd_ff ?_; refine not_d (fun hb => ?_) (fun hb => ?_); refine pick_f ?_; refine mv_i ?_; refine gd_ff ?_; refine fao ?_; refine gd_ff ?_)); (refine ldoA ?_); (with_reducible (refine gd_ff ?_; refine fao ?_; refine gd_ff ?_)); (refine ldoA ?_); (with_reducible (refine gd_ff ?_; refine sub_a (by assumption) (by decide) (by decide) ?_; refine gd_ff ?_)); (refine call_r (c96 _ _ _) ?_); (with_reducible (refine gd_ff ?_; refine not_d (fun hb => ?_) (fun hb => ?_); refine pick_f ?_; refine cnd_f ?_; refine fao ?_)); (refine ldoA ?_); (with_reducible (refine len_g (by assumption) ?_; refine fao ?_)); (refine ldoA ?_); (with_reducible (refine fao ?_)); (refine ldoA ?_); (rotate_left); (with_reducible (refine pick_f ?_; refine cnd_t ?_; refine mv_i ?_; refine mv_i ?_; refine ret2 ?_)); (rotate_left); (with_reducible (refine pick_f ?_; refine mv_i ?_; refine gd_tf ?_; refine gd_tf ?_; refine gd_tf ?_; refine gd_tf ?_; refine gd_tf ?_; refine gd_tf ?_; refine gd_tf ?_; refine pick_t ?_; refine cnd_t ?_; refine mv_i ?_; refine mv_i ?_; refine ret2 ?_)); (rotate_left); (with_reducible (refine pick_f ?_; refine mv_i ?_; refine gd_tf ?_; refine gd_tf ?_; refine gd_tf ?_; refine gd_tf ?_; refine pick_t ?_; refine mv_i ?_; refine gd_tf ?_; refine gd_tf ?_; refine gd_tf ?_; refine gd_tf ?_; refine gd_tf ?_; refine gd_tf ?_; refine gd_tf ?_; refine pick_t ?_; refine cnd_t ?_; refine mv_i ?_; refine mv_i ?_; refine ret2 ?_)); (rotate_left); (with_reducible (refine mv_i ?_; refine gd_tf ?_; refine gd_tf ?_; refine gd_tf ?_; refine gd_tf ?_; refine pick_t ?_; refine mv_i ?_; refine gd_tf ?_; refine gd_tf ?_; refine gd_tf ?_; refine gd_tf ?_; refine pick_t ?_; refine mv_i ?_; refine gd_tf ?_; refine gd_tf ?_; refine gd_tf ?_; refine gd_tf ?_; refine gd_tf ?_; refine gd_tf ?_; refine gd_tf ?_; refine pick_t ?_; refine cnd_t ?_; refine mv_i ?_; refine mv_i ?_; refine ret2 ?_)); (rotate_left))
    all_goals first
      | exact ⟨rfl, Mem.pre (by assumption)⟩
      | exact (hh ⟨by assumption, by assumption, by assumption, by assumption⟩).elim
end Go.Proofs.YtomiejfeclefaaaGreat

set_option linter.unusedSimpArgs false
set_option linter.unusedVariables false
set_option linter.unnecessarySimpa false
set_option maxRecDepth 100000
set_option maxHeartbeats 4000000
namespace Go.Proofs.YtomiejfeclefaaaGreat
open Go.AM
variable {h g : Heap}
def atS (s i : Int) (t : Stp) : Bool := decide (t.frm = s ∧ t.inp = i)
theorem c74 {v : Value} {x : Mach} (s : MacV g v x) (q w : Int) : Runs Tryz.prog 87 [v, .int .i64 q, .int .i64 w] g (.int .i64 (idxOf (atS q w) x.steps)) g := by
  obtain ⟨tv, rfl, s⟩ := s
  have lt := s.lt
  have m := Mem.start g
  refine DetP.forget rfl ?_
  refine w74 ?_
  unfold n74
  ((with_reducible (refine box_a (by assumption) fun i h z p m => ?_; refine mv_i ?_; refine mv_i ?_)))
  refine loop1 x.steps.length (fun k h2 => h = h2 ∧ ∀ j, j < k → atS q w (gt x.steps j) = false) ⟨rfl, fun j hj => by omega⟩ ?_
  rintro k _ _ hk ⟨rfl, hJ⟩
  ((with_reducible (refine mv_i ?_; refine fao ?_)); (refine ldoA ?_); (with_reducible (refine len_g (by assumption) ?_; refine lss_i (fun hc => ?_) (fun hc => ?_); refine cnd_t ?_; refine fao ?_)); (refine ldoA ?_); (with_reducible (refine mv_i ?_)); (refine idxA fun p hp => ?_); (with_reducible (refine fa_g (by assumption) fun p hp => ?_)); (refine ldgA ?_); (with_reducible (refine mv_i ?_; refine eql_i (fun hc => ?_) (fun hc => ?_); refine mv_i ?_; refine gd_tt ?_; refine fao ?_; refine gd_tt ?_)); (refine ldoA ?_); (with_reducible (refine gd_tt ?_; refine mv_i ?_; refine gd_tt ?_)); (refine idxA fun p hp => ?_); (with_reducible (refine gd_tt ?_; refine fa_g (by assumption) fun p hp => ?_; refine gd_tt ?_)); (refine ldgA ?_); (with_reducible (refine gd_tt ?_; refine mv_i ?_; refine gd_tt ?_; refine eql_i (fun hc => ?_) (fun hc => ?_); refine pick_t ?_; refine cnd_t ?_; refine mv_i ?_; refine mv_i ?_; refine ret1 ?_)); (rotate_left); (with_reducible (refine pick_t ?_; refine cnd_f ?_; refine mv_i ?_; refine inc_i (by omega) ?_; refine mv_i ?_)); (rotate_left); (with_reducible (refine mv_i ?_; refine gd_ft ?_; refine gd_ft ?_; refine gd_ft ?_; refine gd_ft ?_; refine gd_ft ?_; refine gd_ft ?_; refine gd_ft ?_; refine gd_ft ?_; refine pick_f ?_; refine cnd_f ?_; refine mv_i ?_; refine inc_i (by omega) ?_; refine mv_i ?_)); (rotate_left); (with_reducible (refine cnd_f ?_; refine mv_i ?_; refine ret1 ?_)); (rotate_left))
  all_goals first
    | (refine next1 (by omega) ⟨rfl, fun j hj => ?_⟩
       by_cases e : j = k
       · subst e; simp [atS, *]
       · exact hJ j (by omega))
    | (refine ⟨?_, Mem.pre (by assumption)⟩
       rw [idxOf_at hJ (by omega) (by simp [atS, *])])
    | (refine ⟨?_, Mem.pre (by assumption)⟩
       rw [idxOf_no fun j hj => hJ j (by omega)])
/-! ### complete machines -/
def opn (x : Mach) : Prop := ∀ s : Nat, s < x.states.toNat → ∀ i : Nat, i < x.inputs.toNat → 0 ≤ idxOf (atS s i) x.steps
theorem chk_ok {x : Mach} (h0 : (chkM x).2 = 0) : headOK x ∧ (x.steps.length : Int) ≤ x.states * x.inputs ∧ ∀ j, j < x.steps.length → stE x j = 0 := by
  unfold chkM at h0
  split at h0
  · cases h0
  · rename_i h1
    split at h0
    · cases h0
    · exact ⟨by simpa using h1, by omega, firstErr_zero h0⟩
theorem st_ok {x : Mach} {k : Nat} (h0 : stE x k = 0) : inR x (gt x.steps k) ∧ (0 < k → lexLt (gt x.steps (k - 1)) (gt x.steps k)) := by
  unfold stE at h0
  split at h0
  · cases h0
  · rename_i h1
    split at h0
    · cases h0
    · rename_i h2
      refine ⟨by simpa using h1, fun hk => ?_⟩
      by_cases q : lexLt (gt x.steps (k - 1)) (gt x.steps k)
      · exact q
      · exact (h2 ⟨hk, q⟩).elim
/-- Where a step should stand. -/
def code (x : Mach) (k : Nat) : Int := (gt x.steps k).frm * x.inputs + (gt x.steps k).inp
theorem lex_code {x : Mach} {a b : Stp} (ha : inR x a) (hb : inR x b) (h : lexLt a b) : a.frm * x.inputs + a.inp < b.frm * x.inputs + b.inp := by
  obtain ⟨_, _, a3, _⟩ := ha
  obtain ⟨_, _, b3, _⟩ := hb
  rcases h with h | ⟨h1, h2⟩
  · have h3 : (a.frm + 1) * x.inputs ≤ b.frm * x.inputs := Int.mul_le_mul_of_nonneg_right (by omega) (by omega)
    rw [Int.add_mul, Int.one_mul] at h3
    omega
  · rw [h1]; omega
theorem code_up {x : Mach} (h0 : (chkM x).2 = 0) : ∀ j k, j < k → k < x.steps.length → code x j < code x k := by
  obtain ⟨_, _, hs⟩ := chk_ok h0
  intro j k
  induction k with
  | zero => intro hj; omega
  | succ k ih =>
    intro hj hl
    have h1 := lex_code (st_ok (hs k (by omega))).1 (st_ok (hs (k + 1) hl)).1 (by simpa using (st_ok (hs (k + 1) hl)).2 (by omega))
    by_cases q : j = k
    · subst q; exact h1
    · have := ih (by omega) (by omega)
      unfold code at *
      omega
theorem code_bd {x : Mach} (h0 : (chkM x).2 = 0) {k : Nat} (hk : k < x.steps.length) : 0 ≤ code x k ∧ code x k < x.states * x.inputs := by
  obtain ⟨hh, _, hs⟩ := chk_ok h0
  obtain ⟨⟨a1, _⟩, _, ⟨a3, a4⟩, _⟩ := (st_ok (hs k hk)).1
  obtain ⟨_, ⟨i1, _⟩, _⟩ := hh
  unfold code
  have h1 : 0 ≤ (gt x.steps k).frm * x.inputs := Int.mul_nonneg a1 (by omega)
  have h2 : ((gt x.steps k).frm + 1) * x.inputs ≤ x.states * x.inputs := Int.mul_le_mul_of_nonneg_right (by omega) (by omega)
  rw [Int.add_mul, Int.one_mul] at h2
  omega
theorem code_ge {x : Mach} (h0 : (chkM x).2 = 0) : ∀ k, k < x.steps.length → (k : Int) ≤ code x k := by
  intro k
  induction k with
  | zero => intro hk; exact (code_bd h0 hk).1
  | succ k ih =>
    intro hk
    have := ih (by omega)
    have := code_up h0 k (k + 1) (by omega) hk
    omega
theorem full_code {x : Mach} (h0 : (chkM x).2 = 0) (hl : (x.steps.length : Int) = x.states * x.inputs) {k : Nat} (hk : k < x.steps.length) : code x k = k := by
  have h1 := code_ge h0 k hk
  have h2 : ∀ d, k + d < x.steps.length → code x k + d ≤ code x (k + d) := by
    intro d
    induction d with
    | zero => intro _; simp
    | succ d ih =>
      intro hd
      have := ih (by omega)
      have := code_up h0 (k + d) (k + (d + 1)) (by omega) hd
      omega
  have h3 := h2 (x.steps.length - 1 - k) (by omega)
  have h4 := (code_bd h0 (k := k + (x.steps.length - 1 - k)) (by omega)).2
  omega
/-- One product, one sum. -/
theorem code_uniq {a b i j n : Int} (hi : 0 ≤ i ∧ i ≤ n - 1) (hj : 0 ≤ j ∧ j ≤ n - 1) (h : a * n + i = b * n + j) : a = b ∧ i = j := by
  have key : a = b := by
    rcases Int.lt_trichotomy a b with q | q | q
    · have h3 : (a + 1) * n ≤ b * n := Int.mul_le_mul_of_nonneg_right (by omega) (by omega)
      rw [Int.add_mul, Int.one_mul] at h3
      omega
    · exact q
    · have h3 : (b + 1) * n ≤ a * n := Int.mul_le_mul_of_nonneg_right (by omega) (by omega)
      rw [Int.add_mul, Int.one_mul] at h3
      omega
  subst key
  exact ⟨rfl, by omega⟩
/-- Step k of a complete machine. -/
theorem full_at {x : Mach} (h0 : (chkM x).2 = 0) (hl : (x.steps.length : Int) = x.states * x.inputs) {s i : Int} (hs : 0 ≤ s ∧ s ≤ x.states - 1) (hi : 0 ≤ i ∧ i ≤ x.inputs - 1) :
    0 ≤ s * x.inputs + i ∧ (s * x.inputs + i).toNat < x.steps.length ∧ (gt x.steps (s * x.inputs + i).toNat).frm = s ∧ (gt x.steps (s * x.inputs + i).toNat).inp = i := by
  obtain ⟨hh, _, hst⟩ := chk_ok h0
  have h1 : 0 ≤ s * x.inputs := Int.mul_nonneg hs.1 (by omega)
  have h2 : (s + 1) * x.inputs ≤ x.states * x.inputs := Int.mul_le_mul_of_nonneg_right (by omega) (by omega)
  rw [Int.add_mul, Int.one_mul] at h2
  have hk : (s * x.inputs + i).toNat < x.steps.length := by omega
  have hc := full_code h0 hl hk
  obtain ⟨_, _, a3, _⟩ := (st_ok (hst _ hk)).1
  have := code_uniq (n := x.inputs) a3 hi (a := (gt x.steps (s * x.inputs + i).toNat).frm) (b := s) (by unfold code at hc; omega)
  exact ⟨by omega, hk, this.1, this.2⟩
theorem opn_iff {x : Mach} (h0 : (chkM x).2 = 0) : opn x ↔ (x.steps.length : Int) = x.states * x.inputs := by
  obtain ⟨hh, hle, hst⟩ := chk_ok h0
  obtain ⟨⟨s1, s2⟩, ⟨i1, i2⟩, _⟩ := hh
  constructor
  · intro ho
    have hall : ∀ n : Nat, (n : Int) < x.states * x.inputs → n < x.steps.length ∧ code x n = n := by
      intro n
      induction n using Nat.strongRecOn with
      | _ n ih =>
        intro hn
        obtain ⟨q, hq⟩ : ∃ q : Nat, x.inputs = (q : Int) := ⟨x.inputs.toNat, by omega⟩
        have hq0 : 0 < q := by omega
        have hd := Nat.div_add_mod n q
        have hm := Nat.mod_lt n hq0
        have hs : n / q < x.states.toNat := by
          obtain ⟨p, hp⟩ : ∃ p : Nat, x.states = (p : Int) := ⟨x.states.toNat, by omega⟩
          rw [hp, hq] at hn
          have : n < p * q := by exact_mod_cast hn
          have := Nat.div_lt_of_lt_mul (by rw [Nat.mul_comm]; exact this : n < q * p)
          omega
        have hf := ho (n / q) hs (n % q) (by omega)
        rcases idxOf_spec (atS ((n / q : Nat) : Int) ((n % q : Nat) : Int)) x.steps with ⟨e, _⟩ | ⟨k, k1, _, k3, _⟩
        · omega
        · have hk : (gt x.steps k).frm = ((n / q : Nat) : Int) ∧ (gt x.steps k).inp = ((n % q : Nat) : Int) := by simpa [atS] using k3
          have hc : code x k = n := by
            unfold code
            rw [hk.1, hk.2, hq]
            have : ((n / q : Nat) : Int) * (q : Int) + ((n % q : Nat) : Int) = ((q * (n / q) + n % q : Nat) : Int) := by push_cast; rw [Int.mul_comm]
            rw [this, hd]
          have hkn : n ≤ k := by
            rcases Nat.lt_or_ge k n with q1 | q1
            · have := (ih k q1 (by omega)).2; omega
            · exact q1
          refine ⟨by omega, ?_⟩
          have g1 := code_ge h0 n (by omega)
          by_cases e : n = k
          · subst e; exact hc
          · have := code_up h0 n k (by omega) k1; omega
    rcases Int.lt_or_le (x.steps.length : Int) (x.states * x.inputs) with q | q
    · have := (hall x.steps.length q).1; omega
    · omega
  · intro hl s hs i hi
    have := full_at h0 hl (s := s) (i := i) (by omega) (by omega)
    rcases idxOf_spec (atS (s : Int) (i : Int)) x.steps with ⟨_, e⟩ | ⟨k, _, e, _⟩
    · have := e _ (gd_mem Df.d this.2.1)
      rw [show x.steps.getD ((s : Int) * x.inputs + i).toNat Df.d = gt x.steps ((s : Int) * x.inputs + i).toNat from rfl] at this
      simp_all [atS]
    · omega
end Go.Proofs.YtomiejfeclefaaaGreat

set_option linter.unusedSimpArgs false
set_option linter.unusedVariables false
set_option linter.unnecessarySimpa false
set_option maxRecDepth 100000
set_option maxHeartbeats 4000000
namespace Go.Proofs.YtomiejfeclefaaaGreat
open Go.AM
variable {h g : Heap}
theorem forgetE {P : Program} {f : FuncId} {args : List Value} {Q : Value → Prop} (hf : ∀ v, Q v → cloB v = true) (d : DetP P f args h fun v h' => Q v ∧ h <+: h') : ∃ v, Q v ∧ Runs P f args h v h := by
  obtain ⟨v, h', hr, hq, hp⟩ := d
  exact ⟨v, hq, DetP.forget (hf v hq) ⟨v, h', hr, rfl, hp⟩⟩
open Classical in
theorem c42 {v : Value} {x : Mach} (s : MacV g v x) (hh : headOK x) : ∃ k : Int, Runs Tryz.prog 59 [v] g (.tuple #[.int .i64 k, .int .i64 (if opn x then 0 else 39)]) g := by
  obtain ⟨tv, rfl, s⟩ := s
  have m := Mem.start g
  suffices hs : DetP Tryz.prog 59 [.agg #[.int .i64 x.states, .int .i64 x.inputs, .int .i64 x.outputs, .int .i64 x.start, tv]] g fun v' h' => (∃ k : Int, v' = .tuple #[.int .i64 k, .int .i64 (if opn x then 0 else 39)]) ∧ g <+: h' by
    obtain ⟨v', ⟨k, rfl⟩, hr⟩ := forgetE (fun v ⟨k, e⟩ => by rw [e]; rfl) hs
    exact ⟨k, hr⟩
  obtain ⟨⟨s1, s2⟩, ⟨i1, i2⟩, _⟩ := hh
  obtain ⟨S, hS⟩ : ∃ S : Nat, x.states = (S : Int) := ⟨x.states.toNat, by omega⟩
  obtain ⟨I, hI⟩ : ∃ I : Nat, x.inputs = (I : Int) := ⟨x.inputs.toNat, by omega⟩
  refine w42 ?_
  unfold n42
  ((with_reducible (refine box_a (by assumption) fun i h z p m => ?_; refine mv_i ?_; refine mv_i ?_; refine mv_i ?_)))
  refine loop1 S (fun k h2 => h = h2 ∧ ∀ s, s < k → ∀ i : Nat, i < I → 0 ≤ idxOf (atS (s : Int) (i : Int)) x.steps) ⟨rfl, fun j hj => by omega⟩ ?_
  rintro k _ _ hk ⟨rfl, hJ⟩
  ((with_reducible (refine mv_i ?_; refine fao ?_)); (refine ldoA ?_); (with_reducible (refine lss_i (fun hc => ?_) (fun hc => ?_); refine cnd_t ?_; refine mv_i ?_)); (rotate_left); (with_reducible (refine cnd_f ?_; refine mv_i ?_; refine mv_i ?_; refine ret2 ?_)); (rotate_left))
  · refine loop1 I (fun q h2 => h = h2 ∧ ∀ i : Nat, i < q → 0 ≤ idxOf (atS (k : Int) (i : Int)) x.steps) ⟨rfl, fun j hj => by omega⟩ ?_
    rintro q _ _ hq ⟨rfl, hJ2⟩
    ((with_reducible (refine mv_i ?_; refine fao ?_)); (refine ldoA ?_); (with_reducible (refine lss_i (fun hc => ?_) (fun hc => ?_); refine cnd_t ?_)); (refine ldwA ?_); (with_reducible (refine mv_i ?_; refine mv_i ?_)); (refine call_r (c74 ⟨_, by with_unfolding_all rfl, L.up (by assumption)⟩ _ _) ?_); (with_reducible (refine eql_i (fun hc => ?_) (fun hc => ?_); refine cnd_t ?_; refine mv_i ?_; refine mv_i ?_; refine mv_i ?_; refine ret2 ?_)); (rotate_left); (with_reducible (refine cnd_f ?_; refine mv_i ?_; refine inc_i (by omega) ?_; refine mv_i ?_)); (rotate_left); (with_reducible (refine cnd_f ?_; refine mv_i ?_; refine inc_i (by omega) ?_; refine mv_i ?_)); (rotate_left))
    · refine ⟨⟨(k : Int), ?_⟩, Mem.pre (by assumption)⟩
      rw [if_neg]
      intro ho
      have := ho k (by omega) q (by omega)
      omega
    · refine next1 (by omega) ⟨rfl, fun i hi => ?_⟩
      by_cases e : i = q
      · subst e
        rcases idxOf_spec (atS (k : Int) (i : Int)) x.steps with ⟨e1, _⟩ | ⟨_, _, e1, _⟩ <;> omega
      · exact hJ2 i (by omega)
    · refine next1 (by omega) ⟨rfl, fun s hs i hi => ?_⟩
      by_cases e : s = k
      · subst e; exact hJ2 i (by omega)
      · exact hJ s (by omega) i hi
  · refine ⟨⟨(0 : Int), ?_⟩, Mem.pre (by assumption)⟩
    rw [if_pos]
    intro s hs i hi
    exact hJ s (by omega) i (by omega)
/-! ### a machine's error in this chapter -/
open Classical in
noncomputable def errM (x : Mach) : Int := if (chkM x).2 ≠ 0 then (chkM x).2 else if 12 < x.states then 2 else if opn x then 0 else 39
theorem c41 {v : Value} {x : Mach} (s : MacV g v x) : Runs Tryz.prog 58 [v] g (.int .i64 (chkM x).2) g := by
  obtain ⟨tv, rfl, s⟩ := s
  have m := Mem.start g
  refine DetP.forget rfl ?_
  refine w41 ?_
  unfold n41
  ((with_reducible (refine box_a (by assumption) fun i h z p m => ?_; refine mv_i ?_)); (refine ldwA ?_); (refine call_r (c73 ⟨_, by with_unfolding_all rfl, L.up (by assumption)⟩) ?_); (with_reducible (refine mv_i ?_)))
  unfold mk2
  ((with_reducible (refine ex2_0 ?_; refine ex2_1 ?_; refine mv_i ?_; refine mv_i ?_; refine mv_i ?_; refine mv_i ?_; refine ret1 ?_)))
  exact ⟨rfl, Mem.pre (by assumption)⟩
open Classical in
theorem c12 {v : Value} {x : Mach} (s : MacV g v x) : Runs Tryz.prog 20 [v] g (.int .i64 (errM x)) g := by
  obtain ⟨tv, rfl, s⟩ := s
  have m := Mem.start g
  refine DetP.forget rfl ?_
  refine w12 ?_
  unfold n12
  by_cases h1 : (chkM x).2 = 0
  · by_cases h2 : 12 < x.states
    · have e : errM x = 2 := by rw [errM, if_neg (by simpa using h1), if_pos h2]
      ((with_reducible (refine box_a (by assumption) fun i h z p m => ?_; refine mv_i ?_)); (refine ldwA ?_); (refine call_r (c41 ⟨_, by with_unfolding_all rfl, L.up (by assumption)⟩) ?_); (with_reducible (refine mv_i ?_; refine mv_i ?_; refine neq_h (by first | assumption | decide) ?_; refine cnd_f ?_; refine fao ?_)); (refine ldoA ?_); (with_reducible (refine gtr_i (fun hc => ?_) (fun hc => ?_); refine cnd_t ?_; refine mv_i ?_; refine ret1 ?_)); (rotate_left); (with_reducible (refine cnd_f ?_)); (refine ldwA ?_); (rotate_left))
      · exact ⟨by rw [e], Mem.pre (by assumption)⟩
      · contradiction
    · have e : errM x = if opn x then 0 else 39 := by rw [errM, if_neg (by simpa using h1), if_neg h2]
      ((with_reducible (refine box_a (by assumption) fun i h z p m => ?_; refine mv_i ?_)); (refine ldwA ?_); (refine call_r (c41 ⟨_, by with_unfolding_all rfl, L.up (by assumption)⟩) ?_); (with_reducible (refine mv_i ?_; refine mv_i ?_; refine neq_h (by first | assumption | decide) ?_; refine cnd_f ?_; refine fao ?_)); (refine ldoA ?_); (with_reducible (refine gtr_i (fun hc => ?_) (fun hc => ?_); refine cnd_t ?_; refine mv_i ?_; refine ret1 ?_)); (rotate_left); (with_reducible (refine cnd_f ?_)); (refine ldwA ?_); (rotate_left))
      · contradiction
      · obtain ⟨k, hr⟩ := c42 (g := h) ⟨_, rfl, s.up⟩ (chk_ok h1).1
        refine call_r hr ?_
        ((with_reducible (refine mv_i ?_; refine ex2_0 ?_; refine ex2_1 ?_; refine mv_i ?_; refine mv_i ?_; refine mv_i ?_; refine mv_i ?_; refine ret1 ?_)))
        exact ⟨by rw [e], Mem.pre (by assumption)⟩
  · ((with_reducible (refine box_a (by assumption) fun i h z p m => ?_; refine mv_i ?_)); (refine ldwA ?_); (refine call_r (c41 ⟨_, by with_unfolding_all rfl, L.up (by assumption)⟩) ?_); (with_reducible (refine mv_i ?_; refine mv_i ?_; refine neq_n (by first | assumption | decide) ?_; refine cnd_t ?_; refine mv_i ?_; refine mv_i ?_; refine ret1 ?_)))
    exact ⟨by rw [errM, if_pos h1], Mem.pre (by assumption)⟩
open Classical in
theorem errM_or (x : Mach) (b1 b2 : Bool) (h1 : b1 = decide (x.states ≤ 12)) (h2 : b2 = decide ((x.steps.length : Int) = IntKind.i64.wrap (x.states * x.inputs))) : orOf [(chkM x).2, unl b1 2, unl b2 39] = errM x := by
  subst h1 h2
  rw [orOf_cons, orOf_cons, orOf_cons, orOf_nil]
  unfold errM
  by_cases h0 : (chkM x).2 = 0
  · have hp := prod_bd (chk_ok h0).1
    rw [wrap_i (by omega) (by omega)]
    simp only [h0, ne_eq, not_true, if_false, if_true]
    have ho := opn_iff h0
    unfold unl
    by_cases h3 : x.states ≤ 12
    · have : ¬ 12 < x.states := by omega
      by_cases h4 : opn x
      · have := ho.mp h4
        simp [h3, h4, this, *]
      · have h5 : ¬ (x.steps.length : Int) = x.states * x.inputs := fun q => h4 (ho.mpr q)
        simp [h3, h4, h5, *]
    · have : 12 < x.states := by omega
      simp [h3, this]
  · rw [if_neg h0, if_pos h0]
theorem c43 {v : Value} {x : Mach} (s : MacV g v x) : Runs Tryz.prog 48 [v] g (.int .i64 (errM x)) g := by
  obtain ⟨tv, rfl, s⟩ := s
  have lt := s.lt
  have m := Mem.start g
  refine DetP.forget rfl ?_
  refine w43 ?_
  unfold n43
  ((with_reducible (refine box_a (by assumption) fun i h z p m => ?_; refine mv_i ?_)); (refine ldwA ?_); (refine call_r (c75 ⟨_, by with_unfolding_all rfl, L.up (by assumption)⟩) ?_); (with_reducible (refine mv_i ?_)))
  unfold mk2
  ((with_reducible (refine ex2_0 ?_; refine ex2_1 ?_; refine mv_i ?_; refine mv_i ?_; refine mv_i ?_; refine fao ?_)); (refine ldoA ?_); (refine vbA ?_); (with_reducible (refine leq_i (fun hc => ?_) (fun hc => ?_))); (refine calld_r (c77 _ _) ?_); (with_reducible (refine new_n ?_; refine fao ?_)); (refine ldoA ?_); (with_reducible (refine vb_l (by assumption) ?_; refine len_g (by assumption) ?_; refine fao ?_)); (refine ldoA ?_); (refine vbA ?_); (with_reducible (refine fao ?_)); (refine ldoA ?_); (refine vbA ?_); (rotate_left); (refine calld_r (c77 _ _) ?_); (with_reducible (refine new_n ?_; refine fao ?_)); (refine ldoA ?_); (with_reducible (refine vb_l (by assumption) ?_; refine len_g (by assumption) ?_; refine fao ?_)); (refine ldoA ?_); (refine vbA ?_); (with_reducible (refine fao ?_)); (refine ldoA ?_); (refine vbA ?_); (rotate_left))
  all_goals
    refine mul_w ?_
    (repeat' (first|((with_reducible refine is_callf 54 ?_); refine call_r (c48 _ _ _) ?_)|((with_reducible refine is_calldf 54 ?_); refine calld_r (c48 _ _ _) ?_)|((with_reducible refine is_callf 64 ?_); refine call_r (c53 _ _ _) ?_)|((with_reducible refine is_calldf 64 ?_); refine calld_r (c53 _ _ _) ?_)|((with_reducible refine is_callf 91 ?_); refine call_r (c96 _ _ _) ?_)|((with_reducible refine is_calldf 91 ?_); refine calld_r (c96 _ _ _) ?_)|((with_reducible refine is_callf 52 ?_); refine call_r c72t ?_)|((with_reducible refine is_calldf 52 ?_); refine calld_r c72t ?_)|((with_reducible refine is_callf 52 ?_); refine call_r c72f ?_)|((with_reducible refine is_calldf 52 ?_); refine calld_r c72f ?_)|((with_reducible refine is_callf 52 ?_); refine call_r (c72 _) ?_)|((with_reducible refine is_calldf 52 ?_); refine calld_r (c72 _) ?_)|((with_reducible refine is_callf 65 ?_); refine call_r (c77 _ _) ?_)|((with_reducible refine is_calldf 65 ?_); refine calld_r (c77 _ _) ?_)|((with_reducible refine is_callf 72 ?_); refine call_r (c91 _ _) ?_)|((with_reducible refine is_calldf 72 ?_); refine calld_r (c91 _ _) ?_)|((with_reducible refine is_callf 79 ?_); refine call_r (c107 _) ?_)|((with_reducible refine is_calldf 79 ?_); refine calld_r (c107 _) ?_)|((with_reducible refine is_callf 39 ?_); refine call_r (c81 _ _) ?_)|((with_reducible refine is_calldf 39 ?_); refine calld_r (c81 _ _) ?_)|((with_reducible refine is_callf 23 ?_); refine call_r (c76 (own_ints (xs := [_, _, _]) (by assumption) (q := by infer_instance) rfl rfl (by decide))) ?_)|((with_reducible refine is_calldf 23 ?_); refine calld_r (c76 (own_ints (xs := [_, _, _]) (by assumption) (q := by infer_instance) rfl rfl (by decide))) ?_)|((with_reducible refine is_callf 38 ?_); refine call_r (c80 (own_ints (xs := [_, _, _]) (by assumption) (q := by infer_instance) rfl rfl (by decide))) ?_)|((with_reducible refine is_calldf 38 ?_); refine calld_r (c80 (own_ints (xs := [_, _, _]) (by assumption) (q := by infer_instance) rfl rfl (by decide))) ?_)|((with_reducible refine is_callf 38 ?_); refine call_r (c80 (own_ints (xs := [_, _]) (by assumption) (q := by infer_instance) rfl rfl (by decide))) ?_)|((with_reducible refine is_calldf 38 ?_); refine calld_r (c80 (own_ints (xs := [_, _]) (by assumption) (q := by infer_instance) rfl rfl (by decide))) ?_)|((with_reducible refine is_callf 51 ?_); refine call_r (c46 _ _) ?_)|((with_reducible refine is_calldf 51 ?_); refine calld_r (c46 _ _) ?_)|((with_reducible refine is_callf 55 ?_); refine call_r (c49 _ _) ?_)|((with_reducible refine is_calldf 55 ?_); refine calld_r (c49 _ _) ?_)|((with_reducible refine is_callf 61 ?_); refine call_r (c54 (own_ints (xs := [_, _]) (by assumption) (q := by infer_instance) rfl rfl (by decide)) (own_ints (xs := [_, _]) (by assumption) (q := by infer_instance) rfl rfl (by decide))) ?_)|((with_reducible refine is_calldf 61 ?_); refine calld_r (c54 (own_ints (xs := [_, _]) (by assumption) (q := by infer_instance) rfl rfl (by decide)) (own_ints (xs := [_, _]) (by assumption) (q := by infer_instance) rfl rfl (by decide))) ?_)|((with_reducible refine is_callf 87 ?_); refine call_r (c74 ⟨_, by with_unfolding_all rfl, L.up (by assumption)⟩ _ _) ?_)|((with_reducible refine is_calldf 87 ?_); refine calld_r (c74 ⟨_, by with_unfolding_all rfl, L.up (by assumption)⟩ _ _) ?_)|((with_reducible refine is_callf 86 ?_); refine call_r (c73 ⟨_, by with_unfolding_all rfl, L.up (by assumption)⟩) ?_)|((with_reducible refine is_callf 82 ?_); refine call_r (c75 ⟨_, by with_unfolding_all rfl, L.up (by assumption)⟩) ?_)|((with_reducible refine is_callf 58 ?_); refine call_r (c41 ⟨_, by with_unfolding_all rfl, L.up (by assumption)⟩) ?_)|((with_reducible refine is_rl1 ?_); first|(refine rt_w1 (by assumption) (by infer_instance) (by with_unfolding_all rfl) ?_)|(refine rt_11 (by assumption) (by infer_instance) (by with_unfolding_all rfl) ?_))|((with_reducible refine is_rl2 ?_); first|(refine rt_w2 (by assumption) (by infer_instance) (by with_unfolding_all rfl) ?_)|(refine rt_12 (by assumption) (by infer_instance) (by with_unfolding_all rfl) ?_))|((with_reducible refine is_vk ?_); first|(with_reducible refine not_dh (by assumption) ?_)|(with_reducible refine not_dn (by assumption) ?_)|(with_reducible refine not_d (fun hb => ?_) (fun hb => ?_))|(with_reducible refine pick_dh (by assumption) ?_)|(with_reducible refine pick_dn (by assumption) ?_)|(with_reducible refine pick_d (fun hb => ?_) (fun hb => ?_))|(with_reducible refine len_o (by assumption) ?_)|(with_reducible refine nil_i ?_)|(with_reducible refine ex2_0 ?_)|(with_reducible refine ex2_1 ?_)|(with_reducible refine ex3_0 ?_)|(with_reducible refine ex3_1 ?_)|(with_reducible refine ex3_2 ?_)|(with_reducible refine pick_t ?_)|(with_reducible refine pick_f ?_)|(with_reducible refine not_t ?_)|(with_reducible refine not_f ?_)|(with_reducible refine pick_h (by assumption) ?_)|(with_reducible refine pick_n (by assumption) ?_)|(with_reducible refine not_h (by assumption) ?_)|(with_reducible refine not_n (by assumption) ?_)|(with_reducible refine not_s (fun hb => ?_) (fun hb => ?_))|(with_reducible refine pick_s (fun hb => ?_) (fun hb => ?_))|(with_reducible refine len_g (by assumption) ?_)|(with_reducible refine slen_i ?_)|(with_reducible refine len_s ?_)|(refine fld_g (by with_unfolding_all rfl) ?_)|(with_reducible refine leni_t (by assumption) ?_))|((with_reducible refine is_gd ?_); first|(with_reducible refine gd_dht (by assumption) ?_)|(with_reducible refine gd_dnt (by assumption) ?_)|(with_reducible refine gd_dhf (by assumption) ?_)|(with_reducible refine gd_dnf (by assumption) ?_)|(with_reducible refine gd_dt (fun hb => ?_) (fun hb => ?_))|(with_reducible refine gd_df (fun hb => ?_) (fun hb => ?_))|(with_reducible refine gd_tt ?_)|(with_reducible refine gd_ff ?_)|(with_reducible refine gd_tf ?_)|(with_reducible refine gd_ft ?_)|(with_reducible refine gd_u ?_)|(with_reducible refine gd_ht (by assumption) ?_)|(with_reducible refine gd_hf (by assumption) ?_)|(with_reducible refine gd_nt (by assumption) ?_)|(with_reducible refine gd_nf (by assumption) ?_)|(with_reducible refine gd_st (fun hb => ?_) (fun hb => ?_))|(with_reducible refine gd_sf (fun hb => ?_) (fun hb => ?_)))|((with_reducible refine is_cnd ?_); first|(with_reducible refine cnd_dh (by assumption) ?_)|(with_reducible refine cnd_dn (by assumption) ?_)|(with_reducible refine cnd_d (fun hb => ?_) (fun hb => ?_))|(with_reducible refine cnd_t ?_)|(with_reducible refine cnd_f ?_)|(with_reducible refine cnd_h (by assumption) ?_)|(with_reducible refine cnd_n (by assumption) ?_)|(with_reducible refine cnd_b (fun hb => ?_) (fun hb => ?_)))|((with_reducible refine is_bin ?_); first|(with_reducible refine sub_a (by assumption) (by decide) (by decide) ?_)|(with_reducible refine snil_i (fun hn => ?_) (fun hn => ?_))|(with_reducible refine prq_i (fun hc => ?_) (fun hc => ?_))|(refine mul_j (by omega) (by omega) ?_)|(with_reducible refine eql_h (by first | assumption | decide) ?_)|(with_reducible refine eql_n (by first | assumption | decide) ?_)|(with_reducible refine neq_h (by first | assumption | decide) ?_)|(with_reducible refine neq_n (by first | assumption | decide) ?_)|(with_reducible refine lss_i (fun hc => ?_) (fun hc => ?_))|(with_reducible refine leq_i (fun hc => ?_) (fun hc => ?_))|(with_reducible refine gtr_i (fun hc => ?_) (fun hc => ?_))|(with_reducible refine geq_i (fun hc => ?_) (fun hc => ?_))|(with_reducible refine eql_i (fun hc => ?_) (fun hc => ?_))|(with_reducible refine neq_i (fun hc => ?_) (fun hc => ?_))|(with_reducible refine seq_s (fun hc => ?_) (fun hc => ?_))|(with_reducible refine sne_s (fun hc => ?_) (fun hc => ?_))|(with_reducible refine sls_i ?_)|(with_reducible refine inc_i (by omega) ?_)|(with_reducible refine sub_j (by omega) (by omega) ?_)|(with_reducible refine add_j (by omega) (by omega) ?_))|((with_reducible refine is_six ?_); first|(with_reducible refine sidx_0 (by omega) ?_))|((with_reducible refine is_idx ?_); first|(refine ia_g (by assumption) (by omega) (by omega) fun p hp => ?_)|(refine ia_o (by omega) (by omega) ?_)|(refine idxA fun p hp => ?_)|(refine idx_dp (by assumption) (by with_unfolding_all rfl) (by omega) (by omega) fun p hp => ?_)|(refine idx_dz (by assumption) (by with_unfolding_all rfl) (by omega) (by omega) fun p hp => ?_)|(refine idx_f (by assumption) (by with_unfolding_all rfl) (by omega) fun p hp => ?_)|(refine idx_fz (by assumption) (by with_unfolding_all rfl) (by omega) (by omega) fun p hp => ?_)|(refine idxi_t (by assumption) (by omega) ?_)|(refine idx_o (by assumption) (by omega) ?_)|(refine idx_oz (by assumption) (by omega) (by omega) ?_))|((with_reducible refine is_fa ?_); first|(with_reducible refine fa_g (by assumption) fun p hp => ?_)|(with_reducible refine fao_e ?_)|(with_reducible refine fao ?_))|((with_reducible refine is_ldo ?_); first|(refine ldoA ?_)|(refine ldwA ?_)|(refine ldor (by assumption) (q := by infer_instance) (by with_unfolding_all rfl) (by with_unfolding_all exact Nat.le_refl _) ?_)|(refine ldf_d (by assumption) (by infer_instance) (by with_unfolding_all rfl) (by omega) (by with_unfolding_all exact Nat.le_of_ble_eq_true rfl) (by with_unfolding_all rfl) ?_)|(refine ldw_d (by assumption) (by infer_instance) (by with_unfolding_all rfl) (by omega) ?_))|((with_reducible refine is_ld ?_); first|(refine ldgA ?_)|(refine ldr_w (by assumption) (by with_unfolding_all rfl) ?_)|(refine ldr_g (by assumption) (by with_unfolding_all rfl) (by with_unfolding_all exact Nat.le_refl _) ?_)|(refine ldi_t (by assumption) (by omega) ?_))|((with_reducible refine is_box ?_); first|(with_reducible refine box_a (by assumption) fun i h z p m => ?_)|(refine box_1 (by assumption) (by with_unfolding_all rfl) fun i h z p m => ?_))|((with_reducible refine is_ok ?_); first|(with_reducible refine alloc_z (by assumption) fun i h z p m => ?_))|((with_reducible refine is_st ?_); first|(refine sto (by assumption) (q := by infer_instance) (by with_unfolding_all exact Nat.le_of_ble_eq_true rfl) rfl rfl (u := by infer_instance) fun h p m => ?_)|(refine st_w (by assumption) (by infer_instance) (by with_unfolding_all rfl) (by with_unfolding_all rfl) (by first | rfl | exact flat_ones (Flat.flat _)) (by infer_instance) fun h p m => ?_)|(refine stw_o (by assumption) (by infer_instance) (by with_unfolding_all rfl) (by omega) (by infer_instance) fun h p m => ?_))|((with_reducible refine is_new ?_); first|(with_reducible refine new_n ?_)|(with_reducible refine new_p (by assumption) ?_))|((with_reducible refine is_pd ?_); first|(refine pd_p (by assumption) (by with_unfolding_all rfl) ?_)|(refine pd_c (by assumption) (by infer_instance) (by with_unfolding_all rfl) ?_)|(refine pd_o (by assumption) (by infer_instance) (by with_unfolding_all rfl) ?_))|((with_reducible refine is_vb ?_); first|(refine vb_mac (by assumption) ?_)|(with_reducible refine vb_f ?_)|(refine vbA ?_)|(with_reducible refine vb_l (by assumption) ?_)|(refine vb_as rfl (by assumption) ?_)|(refine vb_ao rfl (by assumption) (by assumption) (by infer_instance) ?_)|(refine IsSl.vb (by assumption) (by assumption) (by infer_instance) ?_))|((with_reducible refine is_tru ?_); first|(with_reducible refine ⟨trivial, ?_⟩))|((with_reducible refine is_ret ?_); first|(with_reducible refine ret1 ?_)|(with_reducible refine ret2 ?_)|(with_reducible refine ret3 ?_)|(with_reducible refine ret0 ?_))|((with_reducible refine is_bld ?_); first|(refine vk_i (bd24_z) ?_)|(refine vk_i (bd77_01 _ _) ?_))|((with_reducible refine is_bsl ?_); first|(refine bs_g (bs36_0 _) (by assumption) fun i h p m => ?_)|(refine bs_g (bs22_0 _) (by assumption) fun i h p m => ?_)|(refine bs_g (bs51_1 _ _ _ _) (by assumption) fun i h p m => ?_)|(refine bs_g (bs27_0 _) (by assumption) fun i h p m => ?_)|(refine bs_g (bs53_2 _ _ _) (by assumption) fun i h p m => ?_)|(refine bs_g (bs141_3 _ _ _ _) (by assumption) fun i h p m => ?_)|(refine bs_g (bs53_3 _ _ _ _) (by assumption) fun i h p m => ?_)|(refine bs_g (bs53_1 _ _) (by assumption) fun i h p m => ?_))|(with_reducible refine mv_i ?_)|(with_reducible refine seq_i ?_)|((with_reducible refine fun (_ : Tmps) => ?_); (try dsimp only [nth]))))
  all_goals
    refine ⟨?_, Mem.pre (by assumption)⟩
    rw [errM_or x _ _ (by first | exact (decide_eq_true (by assumption)).symm | exact (decide_eq_false (by assumption)).symm) (by first | exact (decide_eq_true (by assumption)).symm | exact (decide_eq_false (by assumption)).symm)]
end Go.Proofs.YtomiejfeclefaaaGreat

set_option linter.unusedSimpArgs false
set_option linter.unusedVariables false
set_option linter.unnecessarySimpa false
set_option maxRecDepth 100000
set_option maxHeartbeats 4000000
namespace Go.Proofs.YtomiejfeclefaaaGreat
open Go.AM
variable {h g : Heap}
/-! ### searches -/
theorem c113 {x : Value} {l : List Mut} {f : FuncId} {cap : Array Value} (s : L g x l) {p : Mut → Bool} (hpp : ∀ t, Runs Tryz.prog f ([fv t] ++ cap.toList) g (.bool (p t)) g) :
    Runs Tryz.prog 131 [x, .func (.func f) #[] cap] g (.int .i64 (idxOf p l)) g := by
  have lt := s.lt
  refine DetP.runs (w113 ?_)
  unfold n113
  ((with_reducible (refine mv_i ?_; refine mv_i ?_; refine len_g (by assumption) ?_; refine mv_i ?_)))
  refine loop1 l.length (fun k h2 => g = h2 ∧ ∀ j, j < k → p (gt l j) = false) ⟨rfl, fun j hj => by omega⟩ ?_
  rintro k _ _ hk ⟨rfl, hJ⟩
  ((with_reducible (refine lss_i (fun hc => ?_) (fun hc => ?_); refine cnd_t ?_; refine mv_i ?_; refine mv_i ?_; refine mv_i ?_; refine mv_i ?_; refine mv_i ?_)); (refine idxA fun p hp => ?_); (refine ldr_w (by assumption) (by with_unfolding_all rfl) ?_); (rotate_left); (with_reducible (refine cnd_f ?_; refine mv_i ?_; refine ret1 ?_)); (rotate_left))
  · refine call_r (hpp _) ?_
    ((with_reducible (refine cnd_b (fun hb => ?_) (fun hb => ?_); refine mv_i ?_; refine mv_i ?_; refine ret1 ?_)); (rotate_left); (with_reducible (refine inc_i (by omega) ?_; refine mv_i ?_)); (rotate_left))
    · exact ⟨by rw [idxOf_at hJ (by omega) hb], rfl⟩
    · refine next1 (by omega) ⟨rfl, fun j hj => ?_⟩
      by_cases q : j = k
      · subst q; exact hb
      · exact hJ j (by omega)
  · exact ⟨by rw [idxOf_no fun j hj => hJ j (by omega)], rfl⟩
theorem c128 {x : Value} {l : List Int} {f : FuncId} {cap : Array Value} (s : L g x l) {p : Int → Bool} (hpp : ∀ t, Runs Tryz.prog f ([.int .i64 t] ++ cap.toList) g (.bool (p t)) g) :
    Runs Tryz.prog 90 [x, .func (.func f) #[] cap] g (.int .i64 (idxOf p l)) g := by
  have lt := s.lt
  refine DetP.runs (w128 ?_)
  unfold n128
  ((with_reducible (refine mv_i ?_; refine mv_i ?_; refine len_g (by assumption) ?_; refine mv_i ?_)))
  refine loop1 l.length (fun k h2 => g = h2 ∧ ∀ j, j < k → p (gt l j) = false) ⟨rfl, fun j hj => by omega⟩ ?_
  rintro k _ _ hk ⟨rfl, hJ⟩
  ((with_reducible (refine lss_i (fun hc => ?_) (fun hc => ?_); refine cnd_t ?_; refine mv_i ?_; refine mv_i ?_; refine mv_i ?_; refine mv_i ?_; refine mv_i ?_)); (refine idxA fun p hp => ?_); (refine ldgA ?_); (rotate_left); (with_reducible (refine cnd_f ?_; refine mv_i ?_; refine ret1 ?_)); (rotate_left))
  · refine call_r (hpp _) ?_
    ((with_reducible (refine cnd_b (fun hb => ?_) (fun hb => ?_); refine mv_i ?_; refine mv_i ?_; refine ret1 ?_)); (rotate_left); (with_reducible (refine inc_i (by omega) ?_; refine mv_i ?_)); (rotate_left))
    · exact ⟨by rw [idxOf_at hJ (by omega) hb], rfl⟩
    · refine next1 (by omega) ⟨rfl, fun j hj => ?_⟩
      by_cases q : j = k
      · subst q; exact hb
      · exact hJ j (by omega)
  · exact ⟨by rw [idxOf_no fun j hj => hJ j (by omega)], rfl⟩
theorem c129 {x : Value} {l : List Int} (s : L g x l) (n : Int) : Runs Tryz.prog 134 [x, .int .i64 n] g (.int .i64 (idxOf (fun t => decide (n = t)) l)) g := by
  have lt := s.lt
  refine DetP.runs (w129 ?_)
  unfold n129
  ((with_reducible (refine mv_i ?_; refine mv_i ?_; refine len_g (by assumption) ?_; refine mv_i ?_)))
  refine loop1 l.length (fun k h2 => g = h2 ∧ ∀ j, j < k → (fun t => decide (n = t)) (gt l j) = false) ⟨rfl, fun j hj => by omega⟩ ?_
  rintro k _ _ hk ⟨rfl, hJ⟩
  ((with_reducible (refine lss_i (fun hc => ?_) (fun hc => ?_); refine cnd_t ?_; refine mv_i ?_; refine mv_i ?_; refine mv_i ?_; refine mv_i ?_; refine mv_i ?_)); (refine idxA fun p hp => ?_); (refine ldgA ?_); (with_reducible (refine eql_i (fun hc => ?_) (fun hc => ?_); refine cnd_t ?_; refine mv_i ?_; refine mv_i ?_; refine ret1 ?_)); (rotate_left); (with_reducible (refine cnd_f ?_; refine inc_i (by omega) ?_; refine mv_i ?_)); (rotate_left); (with_reducible (refine cnd_f ?_; refine mv_i ?_; refine ret1 ?_)); (rotate_left))
  · exact ⟨by rw [idxOf_at (p := fun t => decide (n = t)) hJ (by omega) (decide_eq_true hc)], rfl⟩
  · refine next1 (by omega) ⟨rfl, fun j hj => ?_⟩
    by_cases q : j = k
    · subst q; exact decide_eq_false hc
    · exact hJ j (by omega)
  · exact ⟨by rw [idxOf_no fun j hj => hJ j (by omega)], rfl⟩
theorem c112 {x : Value} {l : List Int} (s : L g x l) (n : Int) : Runs Tryz.prog 130 [x, .int .i64 n] g (.bool (decide (0 ≤ idxOf (fun t => decide (n = t)) l))) g := by
  have m := Mem.start g
  refine DetP.forget rfl ?_
  refine w112 ?_
  unfold n112
  ((with_reducible (refine mv_i ?_; refine mv_i ?_; refine mv_i ?_)))
  refine call_r (c129 s n) ?_
  ((with_reducible (refine geq_i (fun hc => ?_) (fun hc => ?_); refine mv_i ?_; refine ret1 ?_)); (rotate_left); (with_reducible (refine mv_i ?_; refine ret1 ?_)); (rotate_left))
  all_goals exact ⟨by simp [*], Mem.pre (by assumption)⟩
theorem c111 {i k z : Nat} {y : Value} {ys : List Int} {g0 : Heap} {Lm : List E} (m : Mem g0 g Lm) (q1 : Ent Lm i k [y] z) (t : L g y ys) (n : Int) : Runs Tryz.prog 129 [.int .i64 n, .pointer (some ⟨i, 0, none⟩)] g (.bool (decide (0 ≤ idxOf (fun t => decide (n = t)) ys))) g := by
  refine DetP.runs ?_
  refine w111 ?_
  unfold n111
  ((with_reducible (refine mv_i ?_)); (refine ldoA ?_); (with_reducible (refine mv_i ?_)))
  refine call_r (c112 t n) ?_
  ((with_reducible (refine mv_i ?_; refine ret1 ?_)))
  exact ⟨rfl, rfl⟩
theorem c110 {x : Value} {l : List Int} {f : FuncId} {cap : Array Value} (s : L g x l) {p : Int → Bool} (hpp : ∀ t, Runs Tryz.prog f ([.int .i64 t] ++ cap.toList) g (.bool (p t)) g) :
    Runs Tryz.prog 67 [x, .func (.func f) #[] cap] g (.bool (decide (0 ≤ idxOf p l))) g := by
  refine DetP.runs (w110 ?_)
  unfold n110
  ((with_reducible (refine mv_i ?_; refine mv_i ?_; refine mv_i ?_)))
  refine call_r (c128 s hpp) ?_
  ((with_reducible (refine geq_i (fun hc => ?_) (fun hc => ?_); refine mv_i ?_; refine ret1 ?_)); (rotate_left); (with_reducible (refine mv_i ?_; refine ret1 ?_)); (rotate_left))
  all_goals exact ⟨by simp [*], rfl⟩
theorem c87 {x : Value} {l : List Mut} {f : FuncId} {cap : Array Value} (s : L g x l) {p : Mut → Bool} (hpp : ∀ t, Runs Tryz.prog f ([fv t] ++ cap.toList) g (.bool (p t)) g) :
    Runs Tryz.prog 116 [x, .func (.func f) #[] cap] g (.bool (decide (0 ≤ idxOf p l))) g := by
  refine DetP.runs (w87 ?_)
  unfold n87
  ((with_reducible (refine mv_i ?_; refine mv_i ?_; refine mv_i ?_)))
  refine call_r (c113 s hpp) ?_
  ((with_reducible (refine geq_i (fun hc => ?_) (fun hc => ?_); refine mv_i ?_; refine ret1 ?_)); (rotate_left); (with_reducible (refine mv_i ?_; refine ret1 ?_)); (rotate_left))
  all_goals exact ⟨by simp [*], rfl⟩
def com (xs ys : List Int) : Bool := decide (0 ≤ idxOf (fun n => decide (0 ≤ idxOf (fun t => decide (n = t)) ys)) xs)
theorem c109 {x y : Value} {xs ys : List Int} (s : L g x xs) (t : L g y ys) : Runs Tryz.prog 128 [x, y] g (.bool (com xs ys)) g := by
  obtain ⟨b, c, rfl, _⟩ := t.shape
  have m := Mem.start g
  refine DetP.forget rfl ?_
  refine w109 ?_
  unfold n109
  ((refine box_1 (by assumption) (by with_unfolding_all rfl) fun i h z p m => ?_); (with_reducible (refine mv_i ?_; refine mv_i ?_; refine mv_i ?_)))
  refine call_r (c110 (p := fun n => decide (0 ≤ idxOf (fun t => decide (n = t)) ys)) s.up fun n => c111 m (by infer_instance) t.up n) ?_
  ((with_reducible (refine mv_i ?_; refine ret1 ?_)))
  exact ⟨rfl, Mem.pre (by assumption)⟩
/-! ### what mutations change -/
def tgs (m : Mut) : List Int := if m.kind = 0 then [] else if m.kind = 1 then [m.step] else if m.kind = 2 then [] else [m.step, m.to]
def ous (m : Mut) : List Int := if m.kind = 0 then [m.step] else []
def sms (m : Mut) : Bool := if m.kind = 0 then false else if m.kind = 1 then false else decide (m.kind = 2)
theorem c108 (t : Mut) : DetP Tryz.prog 127 [fv t] g fun v' h' => g <+: h' ∧ ∃ x y, v' = .tuple #[x, y, .bool (sms t)] ∧ L h' x (tgs t) ∧ L h' y (ous t) := by
  refine DetP.freeze ?_
  have m := Mem.start g
  refine w108 ?_
  unfold n108
  ((with_reducible (refine box_a (by assumption) fun i h z p m => ?_; refine mv_i ?_; refine mv_i ?_; refine mv_i ?_; refine fao ?_)); (refine ldoA ?_); (with_reducible (refine eql_i (fun hc => ?_) (fun hc => ?_); refine mv_i ?_; refine cnd_t ?_; refine fao ?_)); (refine ldoA ?_); (refine vbA ?_); (refine bs_g (bs53_1 _ _) (by assumption) fun i h p m => ?_); (with_reducible (refine mv_i ?_; refine mv_i ?_; refine mv_i ?_; refine ret3 ?_)); (rotate_left); (with_reducible (refine mv_i ?_; refine cnd_f ?_; refine eql_i (fun hc => ?_) (fun hc => ?_); refine mv_i ?_; refine cnd_t ?_; refine fao ?_)); (refine ldoA ?_); (refine bs_g (bs53_1 _ _) (by assumption) fun i h p m => ?_); (with_reducible (refine mv_i ?_; refine mv_i ?_; refine mv_i ?_; refine ret3 ?_)); (rotate_left); (with_reducible (refine mv_i ?_; refine cnd_f ?_; refine eql_i (fun hc => ?_) (fun hc => ?_); refine mv_i ?_; refine cnd_t ?_; refine mv_i ?_; refine mv_i ?_; refine mv_i ?_; refine ret3 ?_)); (rotate_left); (with_reducible (refine mv_i ?_; refine cnd_f ?_; refine fao ?_)); (refine ldoA ?_); (with_reducible (refine fao ?_)); (refine ldoA ?_); (refine bs_g (bs53_2 _ _ _) (by assumption) fun i h p m => ?_); (with_reducible (refine mv_i ?_; refine mv_i ?_; refine mv_i ?_; refine ret3 ?_)); (rotate_left))
  · rw [show sms t = false by simp [sms, *], show tgs t = [] by simp [tgs, *], show ous t = [t.step] by simp [ous, *]]
    exact ⟨m.pre, _, _, rfl, L.nil _, ret_flat (xs := [t.step]) (k := 0) m rfl (by simp) (.inr (by simp))⟩
  · rw [show sms t = false by simp [sms, *], show tgs t = [t.step] by simp [tgs, *], show ous t = [] by simp [ous, *]]
    exact ⟨m.pre, _, _, rfl, ret_flat (xs := [t.step]) (k := 0) m rfl (by simp) (.inr (by simp)), L.nil _⟩
  · rw [show sms t = true by simp [sms, *], show tgs t = [] by simp [tgs, *], show ous t = [] by simp [ous, *]]
    exact ⟨m.pre, _, _, rfl, L.nil _, L.nil _⟩
  · rw [show sms t = false by simp [sms, *], show tgs t = [t.step, t.to] by simp [tgs, *], show ous t = [] by simp [ous, *]]
    exact ⟨m.pre, _, _, rfl, ret_flat (xs := [t.step, t.to]) (k := 0) m rfl (by simp) (.inr (by simp)), L.nil _⟩
def meetS (a b : Mut) : Bool := com (tgs a) (tgs b) || (com (ous a) (ous b) || (sms a && sms b))
theorem c85 (a b : Mut) : Runs Tryz.prog 114 [fv a, fv b] g (.bool (meetS a b)) g := by
  have m := Mem.start g
  refine DetP.forget rfl ?_
  refine w85 ?_
  unfold n85
  ((with_reducible (refine box_a (by assumption) fun i h z p m => ?_; refine box_a (by assumption) fun i h z p m => ?_; refine mv_i ?_)); (refine ldwA ?_))
  refine call_d (c108 a) m fun v1 h1 p1 p2 m ⟨x1, y1, e1, s1, t1⟩ => ?_
  subst e1
  obtain ⟨b1, q1, rfl, _⟩ := s1.shape
  obtain ⟨b2, q2, rfl, _⟩ := t1.shape
  ((with_reducible (refine mv_i ?_; refine ex3_0 ?_; refine ex3_1 ?_; refine ex3_2 ?_; refine mv_i ?_; refine mv_i ?_; refine mv_i ?_)); (refine ldwA ?_))
  refine call_d (c108 b) m fun v2 h2 p3 p4 m ⟨x2, y2, e2, s2, t2⟩ => ?_
  subst e2
  obtain ⟨b3, q3, rfl, _⟩ := s2.shape
  obtain ⟨b4, q4, rfl, _⟩ := t2.shape
  ((with_reducible (refine mv_i ?_; refine ex3_0 ?_; refine ex3_1 ?_; refine ex3_2 ?_; refine mv_i ?_; refine mv_i ?_; refine mv_i ?_; refine mv_i ?_; refine mv_i ?_; refine mv_i ?_; refine mv_i ?_)))
  refine call_r (c109 s1.up s2.up) ?_
  ((with_reducible (refine mv_i ?_; refine gd_sf (fun hb => ?_) (fun hb => ?_); refine gd_nf (by assumption) ?_; refine gd_nf (by assumption) ?_; refine gd_nf (by assumption) ?_; refine pick_h (by assumption) ?_; refine mv_i ?_; refine gd_tf ?_; refine gd_tf ?_; refine gd_u ?_; refine gd_tf ?_; refine pick_t ?_; refine mv_i ?_; refine ret1 ?_)); (rotate_left); (with_reducible (refine mv_i ?_; refine gd_hf (by assumption) ?_; refine mv_i ?_; refine gd_hf (by assumption) ?_; refine mv_i ?_; refine gd_hf (by assumption) ?_)); (rotate_left))
  · exact ⟨by simp [meetS, *], Mem.pre (by assumption)⟩
  · refine call_r (c109 t1.up t2.up) ?_
    ((with_reducible (refine pick_n (by assumption) ?_; refine mv_i ?_; refine gd_sf (fun hb => ?_) (fun hb => ?_); refine gd_nf (by assumption) ?_; refine gd_u ?_; refine gd_nf (by assumption) ?_; refine pick_h (by assumption) ?_; refine mv_i ?_; refine ret1 ?_)); (rotate_left); (with_reducible (refine mv_i ?_; refine gd_hf (by assumption) ?_; refine mv_i ?_; refine gd_st (fun hb => ?_) (fun hb => ?_); refine mv_i ?_; refine gd_hf (by assumption) ?_; refine pick_h (by assumption) ?_; refine pick_n (by assumption) ?_; refine mv_i ?_; refine ret1 ?_)); (rotate_left); (with_reducible (refine gd_hf (by assumption) ?_; refine pick_n (by assumption) ?_; refine pick_n (by assumption) ?_; refine mv_i ?_; refine ret1 ?_)); (rotate_left))
    all_goals exact ⟨by simp [meetS, *], Mem.pre (by assumption)⟩
theorem c84 {i k z : Nat} {y : Mut} {g0 : Heap} {Lm : List E} (t : Mut) (m : Mem g0 g Lm) (q1 : Ent Lm i k (Flat.cells y) z) : Runs Tryz.prog 113 [fv t, .pointer (some ⟨i, 0, none⟩)] g (.bool (meetS t y)) g := by
  refine DetP.forget rfl ?_
  refine w84 ?_
  unfold n84
  refine box_ap m fun i2 h z pp p m => ?_
  ((with_reducible (refine mv_i ?_)); (refine ldwA ?_); (refine ldwA ?_))
  refine call_r (c85 t y) ?_
  ((with_reducible (refine mv_i ?_; refine ret1 ?_)))
  exact ⟨rfl, pp⟩
/-! ### the parts of a mutation -/
def within (lo n hi : Int) : Prop := lo ≤ n ∧ n ≤ hi
def rightS (x : Mach) (m : Mut) : Prop :=
  if m.kind = 0 then (0 ≤ m.step ∧ m.step ≤ x.steps.length - 1) ∧ (0 ≤ m.to ∧ m.to ≤ x.outputs - 1)
  else if m.kind = 1 then (0 ≤ m.step ∧ m.step ≤ x.steps.length - 1) ∧ (0 ≤ m.to ∧ m.to ≤ x.states - 1)
  else if m.kind = 2 then m.step = 0 ∧ (0 ≤ m.to ∧ m.to ≤ x.states - 1)
  else (0 ≤ m.step ∧ m.step ≤ x.steps.length - 1) ∧ (0 ≤ m.to ∧ m.to ≤ x.steps.length - 1)
instance (x : Mach) (m : Mut) : Decidable (rightS x m) := by unfold rightS; infer_instance
theorem c86 {v : Value} {x : Mach} (s : MacV g v x) (hh : headOK x) (t : Mut) : Runs Tryz.prog 115 [v, fv t] g (.bool (decide (rightS x t))) g := by
  obtain ⟨tv, rfl, s⟩ := s
  have lt := s.lt
  obtain ⟨a1, a2, a3, a4⟩ := hh
  have m := Mem.start g
  refine DetP.forget rfl ?_
  refine w86 ?_
  unfold n86
  ((with_reducible (refine box_a (by assumption) fun i h z p m => ?_; refine box_a (by assumption) fun i h z p m => ?_; refine mv_i ?_; refine fao ?_)); (refine ldoA ?_); (with_reducible (refine len_g (by assumption) ?_; refine mv_i ?_; refine fao ?_)); (refine ldoA ?_); (with_reducible (refine eql_i (fun hc => ?_) (fun hc => ?_); refine mv_i ?_; refine cnd_t ?_; refine fao ?_)); (refine ldoA ?_); (with_reducible (refine mv_i ?_; refine sub_j (by omega) (by omega) ?_)); (refine call_r (c48 _ _ _) ?_); (with_reducible (refine mv_i ?_; refine gd_dt (fun hb => ?_) (fun hb => ?_); refine fao ?_; refine gd_dht (by assumption) ?_)); (refine ldoA ?_); (with_reducible (refine gd_dht (by assumption) ?_; refine fao ?_; refine gd_dht (by assumption) ?_)); (refine ldoA ?_); (with_reducible (refine gd_dht (by assumption) ?_; refine sub_a (by assumption) (by decide) (by decide) ?_; refine gd_dht (by assumption) ?_)); (refine call_r (c48 _ _ _) ?_); (with_reducible (refine pick_dh (by assumption) ?_; refine mv_i ?_; refine ret1 ?_)); (rotate_left); (with_reducible (refine gd_dnt (by assumption) ?_; refine gd_dnt (by assumption) ?_; refine gd_dnt (by assumption) ?_; refine gd_dnt (by assumption) ?_; refine gd_dnt (by assumption) ?_; refine pick_dn (by assumption) ?_; refine mv_i ?_; refine ret1 ?_)); (rotate_left); (with_reducible (refine mv_i ?_; refine cnd_f ?_; refine eql_i (fun hc => ?_) (fun hc => ?_); refine mv_i ?_; refine cnd_t ?_; refine fao ?_)); (refine ldoA ?_); (with_reducible (refine mv_i ?_; refine sub_j (by omega) (by omega) ?_)); (refine call_r (c48 _ _ _) ?_); (with_reducible (refine mv_i ?_; refine gd_dt (fun hb => ?_) (fun hb => ?_); refine fao ?_; refine gd_dht (by assumption) ?_)); (refine ldoA ?_); (with_reducible (refine gd_dht (by assumption) ?_; refine fao ?_; refine gd_dht (by assumption) ?_)); (refine ldoA ?_); (with_reducible (refine gd_dht (by assumption) ?_; refine sub_a (by assumption) (by decide) (by decide) ?_; refine gd_dht (by assumption) ?_)); (refine call_r (c48 _ _ _) ?_); (with_reducible (refine pick_dh (by assumption) ?_; refine mv_i ?_; refine ret1 ?_)); (rotate_left); (with_reducible (refine gd_dnt (by assumption) ?_; refine gd_dnt (by assumption) ?_; refine gd_dnt (by assumption) ?_; refine gd_dnt (by assumption) ?_; refine gd_dnt (by assumption) ?_; refine pick_dn (by assumption) ?_; refine mv_i ?_; refine ret1 ?_)); (rotate_left); (with_reducible (refine mv_i ?_; refine cnd_f ?_; refine eql_i (fun hc => ?_) (fun hc => ?_); refine mv_i ?_; refine cnd_t ?_; refine fao ?_)); (refine ldoA ?_); (with_reducible (refine eql_i (fun hc => ?_) (fun hc => ?_); refine mv_i ?_; refine gd_tt ?_; refine fao ?_; refine gd_tt ?_)); (refine ldoA ?_); (with_reducible (refine gd_tt ?_; refine fao ?_; refine gd_tt ?_)); (refine ldoA ?_); (with_reducible (refine gd_tt ?_; refine sub_a (by assumption) (by decide) (by decide) ?_; refine gd_tt ?_)); (refine call_r (c48 _ _ _) ?_); (with_reducible (refine pick_t ?_; refine mv_i ?_; refine ret1 ?_)); (rotate_left); (with_reducible (refine mv_i ?_; refine gd_ft ?_; refine gd_ft ?_; refine gd_ft ?_; refine gd_ft ?_; refine gd_ft ?_; refine gd_ft ?_; refine pick_f ?_; refine mv_i ?_; refine ret1 ?_)); (rotate_left); (with_reducible (refine mv_i ?_; refine cnd_f ?_; refine fao ?_)); (refine ldoA ?_); (with_reducible (refine mv_i ?_; refine sub_j (by omega) (by omega) ?_)); (refine call_r (c48 _ _ _) ?_); (with_reducible (refine mv_i ?_; refine gd_dt (fun hb => ?_) (fun hb => ?_); refine fao ?_; refine gd_dht (by assumption) ?_)); (refine ldoA ?_); (with_reducible (refine gd_dht (by assumption) ?_; refine mv_i ?_; refine gd_dht (by assumption) ?_; refine sub_j (by omega) (by omega) ?_; refine gd_dht (by assumption) ?_)); (refine call_r (c48 _ _ _) ?_); (with_reducible (refine pick_dh (by assumption) ?_; refine mv_i ?_; refine ret1 ?_)); (rotate_left); (with_reducible (refine gd_dnt (by assumption) ?_; refine gd_dnt (by assumption) ?_; refine gd_dnt (by assumption) ?_; refine gd_dnt (by assumption) ?_; refine pick_dn (by assumption) ?_; refine mv_i ?_; refine ret1 ?_)); (rotate_left))
  all_goals exact ⟨by first | (simp [rightS, *]; done) | (simp_all [rightS]; done) | (simp_all [rightS]; omega), Mem.pre (by assumption)⟩
end Go.Proofs.YtomiejfeclefaaaGreat

set_option linter.unusedSimpArgs false
set_option linter.unusedVariables false
set_option linter.unnecessarySimpa false
set_option maxRecDepth 100000
set_option maxHeartbeats 4000000
namespace Go.Proofs.YtomiejfeclefaaaGreat
open Go.AM
variable {h g : Heap}
/-! ### a mutant's error -/
def ordS (l : List Mut) (k : Nat) : Prop := (k = 0 ∨ cmpM (gt l (k - 1)) (gt l k) < 0) ∧ ((gt l k).kind ≠ 3 ∨ (gt l k).step < (gt l k).to)
instance (l : List Mut) (k : Nat) : Decidable (ordS l k) := by unfold ordS; infer_instance
def agn (l : List Mut) (k : Nat) : Prop := 0 ≤ idxOf (fun o => meetS o (gt l k)) (l.take k)
instance (l : List Mut) (k : Nat) : Decidable (agn l k) := by unfold agn; infer_instance
def muE (x : Mach) (l : List Mut) (k : Nat) : Int :=
  if ¬ (0 ≤ (gt l k).kind ∧ (gt l k).kind ≤ 3) then 4 else if ¬ rightS x (gt l k) then 3 else if ¬ ordS l k then 14 else if agn l k then 13 else 0
def mutE (x : Mach) (l : List Mut) : Nat × Int := if 4 < l.length then (0, 2) else firstErr (muE x l) l.length
theorem muE_or (x : Mach) (l : List Mut) (k : Nat) (b1 b2 b3 : Bool) (h0 : 0 ≤ (gt l k).kind ∧ (gt l k).kind ≤ 3) (h1 : b1 = decide (rightS x (gt l k))) (h2 : b2 = decide (ordS l k)) (h3 : b3 = decide (¬ agn l k)) : orOf [unl b1 3, unl b2 14, unl b3 13] = muE x l k := by
  subst h1 h2 h3
  have e : muE x l k = if ¬ rightS x (gt l k) then 3 else if ¬ ordS l k then 14 else if agn l k then 13 else 0 := by rw [muE, if_neg (by simpa using h0)]
  rw [e, orOf_cons, orOf_cons, orOf_cons, orOf_nil]
  unfold unl
  by_cases q1 : rightS x (gt l k) <;> by_cases q2 : ordS l k <;> by_cases q3 : agn l k <;> simp [q1, q2, q3]
theorem c57 {v y : Value} {x : Mach} {l : List Mut} (s : MacV g v x) (t : L g y l) (hh : headOK x) : Runs Tryz.prog 84 [v, y] g (mk2 (mutE x l).1 (mutE x l).2) g := by
  obtain ⟨tv, rfl, s⟩ := s
  have lt := t.lt
  have m := Mem.start g
  refine DetP.forget rfl ?_
  refine w57 ?_
  unfold n57
  refine box_a m fun i0 h0 z0 p0 m => ?_
  ((with_reducible (refine mv_i ?_; refine mv_i ?_; refine mv_i ?_; refine len_g (by assumption) ?_; refine gtr_i (fun hc => ?_) (fun hc => ?_); refine cnd_t ?_; refine mv_i ?_; refine mv_i ?_; refine ret2 ?_)); (rotate_left); (with_reducible (refine cnd_f ?_; refine mv_i ?_; refine len_g (by assumption) ?_; refine mv_i ?_)); (rotate_left))
  · exact ⟨by rw [mutE, if_pos (by omega)]; rfl, Mem.pre (by assumption)⟩
  · have hlen := hc
    refine loop1 l.length (fun k h2 => Prec h0 h2 ∧ Mem g h2 [⟨some i0, [.int .i64 x.states, .int .i64 x.inputs, .int .i64 x.outputs, .int .i64 x.start, tv], z0⟩] ∧ ∀ j, j < k → muE x l j = 0) ⟨⟨Stab.refl _⟩, m, fun j hj => by omega⟩ ?_
    rintro k h2 _ hk ⟨p2, m, hJ⟩
    by_cases hkl : k < l.length
    · have hord : ∀ b, b = decide (ordS l k) → b = decide (ordS l k) := fun _ q => q
      ((with_reducible (refine lss_i (fun hc => ?_) (fun hc => ?_); refine cnd_t ?_; refine mv_i ?_)); (refine idxA fun p hp => ?_); (refine ldr_w (by assumption) (by with_unfolding_all rfl) ?_); (with_reducible (refine alloc_z (by assumption) fun i h z p m => ?_; refine mv_i ?_)); (refine st_w (by assumption) (by infer_instance) (by with_unfolding_all rfl) (by with_unfolding_all rfl) (by first | rfl | exact flat_ones (Flat.flat _)) (by infer_instance) fun h p m => ?_); (with_reducible (refine mv_i ?_; refine eql_i (fun hc => ?_) (fun hc => ?_); refine mv_i ?_; refine gd_tf ?_; refine gd_tf ?_; refine gd_tf ?_; refine gd_tf ?_; refine gd_tf ?_; refine gd_tf ?_; refine gd_tf ?_; refine gd_tf ?_; refine pick_t ?_; refine mv_i ?_; refine gd_tt ?_; refine fao ?_; refine gd_tt ?_)); (refine ldoA ?_); (refine vbA ?_); (with_reducible (refine gd_tt ?_; refine neq_i (fun hc => ?_) (fun hc => ?_); refine gd_tt ?_; refine mv_i ?_; refine gd_ff ?_; refine fao ?_; refine gd_ff ?_)); (refine ldoA ?_); (refine vbA ?_); (with_reducible (refine gd_ff ?_; refine fao ?_; refine gd_ff ?_)); (refine ldoA ?_); (refine vbA ?_); (with_reducible (refine gd_ff ?_; refine lss_i (fun hc => ?_) (fun hc => ?_); refine gd_tt ?_; refine pick_f ?_; refine pick_t ?_; refine mv_i ?_; refine mv_i ?_; refine mv_i ?_; refine fao ?_)); (refine ldoA ?_); (refine call_r (c48 _ _ _) ?_); (with_reducible (refine not_d (fun hb => ?_) (fun hb => ?_); refine cnd_f ?_)); (refine ldwA ?_); (refine vb_mac (by assumption) ?_); (refine ldwA ?_); (with_reducible (refine vb_f ?_)); (rotate_left); (with_reducible (refine cnd_t ?_; refine mv_i ?_; refine mv_i ?_; refine mv_i ?_; refine ret2 ?_)); (rotate_left); (with_reducible (refine gd_tt ?_; refine pick_f ?_; refine pick_t ?_; refine mv_i ?_; refine mv_i ?_; refine mv_i ?_; refine fao ?_)); (refine ldoA ?_); (refine call_r (c48 _ _ _) ?_); (with_reducible (refine not_d (fun hb => ?_) (fun hb => ?_); refine cnd_f ?_)); (refine ldwA ?_); (refine vb_mac (by assumption) ?_); (refine ldwA ?_); (with_reducible (refine vb_f ?_)); (rotate_left); (with_reducible (refine cnd_t ?_; refine mv_i ?_; refine mv_i ?_; refine mv_i ?_; refine ret2 ?_)); (rotate_left); (with_reducible (refine gd_tt ?_; refine mv_i ?_; refine gd_tf ?_; refine gd_tf ?_; refine gd_tf ?_; refine gd_tf ?_; refine gd_tf ?_; refine gd_tt ?_; refine pick_t ?_; refine pick_t ?_; refine mv_i ?_; refine mv_i ?_; refine mv_i ?_; refine fao ?_)); (refine ldoA ?_); (refine call_r (c48 _ _ _) ?_); (with_reducible (refine not_d (fun hb => ?_) (fun hb => ?_); refine cnd_f ?_)); (refine ldwA ?_); (refine vb_mac (by assumption) ?_); (refine ldwA ?_); (with_reducible (refine vb_f ?_)); (rotate_left); (with_reducible (refine cnd_t ?_; refine mv_i ?_; refine mv_i ?_; refine mv_i ?_; refine ret2 ?_)); (rotate_left); (with_reducible (refine mv_i ?_; refine gd_ff ?_; refine mv_i ?_; refine gd_ff ?_; refine mv_i ?_; refine gd_ff ?_; refine sub_j (by omega) (by omega) ?_; refine gd_ff ?_)); (refine idx_dp (by assumption) (by with_unfolding_all rfl) (by omega) (by omega) fun p hp => ?_); (with_reducible (refine gd_ff ?_)); (refine ldr_w (by assumption) (by with_unfolding_all rfl) ?_); (with_reducible (refine vb_f ?_; refine gd_ff ?_)); (refine ldwA ?_); (with_reducible (refine vb_f ?_; refine gd_ff ?_)); (refine calld_r (c46 _ _) ?_); (with_reducible (refine new_n ?_; refine gd_ff ?_; refine lss_i (fun hc => ?_) (fun hc => ?_); refine pick_f ?_; refine mv_i ?_; refine gd_tt ?_; refine fao ?_; refine gd_tt ?_)); (refine ldoA ?_); (refine vbA ?_); (with_reducible (refine gd_tt ?_; refine neq_i (fun hc => ?_) (fun hc => ?_); refine gd_tt ?_; refine mv_i ?_; refine gd_ff ?_; refine fao ?_; refine gd_ff ?_)); (refine ldoA ?_); (refine vbA ?_); (with_reducible (refine gd_ff ?_; refine fao ?_; refine gd_ff ?_)); (refine ldoA ?_); (refine vbA ?_); (with_reducible (refine gd_ff ?_; refine lss_i (fun hc => ?_) (fun hc => ?_); refine gd_tt ?_; refine pick_f ?_; refine pick_t ?_; refine mv_i ?_; refine mv_i ?_; refine mv_i ?_; refine fao ?_)); (refine ldoA ?_); (refine call_r (c48 _ _ _) ?_); (with_reducible (refine not_d (fun hb => ?_) (fun hb => ?_); refine cnd_f ?_)); (refine ldwA ?_); (refine vb_mac (by assumption) ?_); (refine ldwA ?_); (with_reducible (refine vb_f ?_)); (rotate_left); (with_reducible (refine cnd_t ?_; refine mv_i ?_; refine mv_i ?_; refine mv_i ?_; refine ret2 ?_)); (rotate_left); (with_reducible (refine gd_tt ?_; refine pick_f ?_; refine pick_t ?_; refine mv_i ?_; refine mv_i ?_; refine mv_i ?_; refine fao ?_)); (refine ldoA ?_); (refine call_r (c48 _ _ _) ?_); (with_reducible (refine not_d (fun hb => ?_) (fun hb => ?_); refine cnd_f ?_)); (refine ldwA ?_); (refine vb_mac (by assumption) ?_); (refine ldwA ?_); (with_reducible (refine vb_f ?_)); (rotate_left); (with_reducible (refine cnd_t ?_; refine mv_i ?_; refine mv_i ?_; refine mv_i ?_; refine ret2 ?_)); (rotate_left); (with_reducible (refine gd_tt ?_; refine mv_i ?_; refine gd_tf ?_; refine gd_tf ?_; refine gd_tf ?_; refine gd_tf ?_; refine gd_tf ?_; refine gd_tt ?_; refine pick_t ?_; refine pick_t ?_; refine mv_i ?_; refine mv_i ?_; refine mv_i ?_; refine fao ?_)); (refine ldoA ?_); (refine call_r (c48 _ _ _) ?_); (with_reducible (refine not_d (fun hb => ?_) (fun hb => ?_); refine cnd_f ?_)); (refine ldwA ?_); (refine vb_mac (by assumption) ?_); (refine ldwA ?_); (with_reducible (refine vb_f ?_)); (rotate_left); (with_reducible (refine cnd_t ?_; refine mv_i ?_; refine mv_i ?_; refine mv_i ?_; refine ret2 ?_)); (rotate_left); (with_reducible (refine pick_f ?_; refine mv_i ?_; refine gd_ft ?_; refine gd_ft ?_; refine gd_ft ?_; refine gd_ft ?_; refine gd_u ?_; refine gd_u ?_; refine gd_u ?_; refine gd_u ?_; refine gd_u ?_; refine gd_ft ?_; refine pick_f ?_; refine mv_i ?_; refine mv_i ?_; refine mv_i ?_; refine fao ?_)); (refine ldoA ?_); (refine call_r (c48 _ _ _) ?_); (with_reducible (refine not_d (fun hb => ?_) (fun hb => ?_); refine cnd_f ?_)); (refine ldwA ?_); (refine vb_mac (by assumption) ?_); (refine ldwA ?_); (with_reducible (refine vb_f ?_)); (rotate_left); (with_reducible (refine cnd_t ?_; refine mv_i ?_; refine mv_i ?_; refine mv_i ?_; refine ret2 ?_)); (rotate_left); (with_reducible (refine cnd_f ?_; refine mv_i ?_; refine mv_i ?_; refine ret2 ?_)); (rotate_left))
      all_goals first
        | (refine ⟨?_, Mem.pre (by assumption)⟩
           rw [mutE, if_neg (by omega), firstErr_at hJ hkl (by rw [muE, if_pos (by assumption)]; decide), muE, if_pos (by assumption)]
           rfl)
        | skip
      all_goals (try (exfalso; omega))
      all_goals
        have hm := m
        (repeat' (first|((with_reducible refine is_callf 54 ?_); refine call_r (c48 _ _ _) ?_)|((with_reducible refine is_calldf 54 ?_); refine calld_r (c48 _ _ _) ?_)|((with_reducible refine is_callf 64 ?_); refine call_r (c53 _ _ _) ?_)|((with_reducible refine is_calldf 64 ?_); refine calld_r (c53 _ _ _) ?_)|((with_reducible refine is_callf 91 ?_); refine call_r (c96 _ _ _) ?_)|((with_reducible refine is_calldf 91 ?_); refine calld_r (c96 _ _ _) ?_)|((with_reducible refine is_callf 52 ?_); refine call_r c72t ?_)|((with_reducible refine is_calldf 52 ?_); refine calld_r c72t ?_)|((with_reducible refine is_callf 52 ?_); refine call_r c72f ?_)|((with_reducible refine is_calldf 52 ?_); refine calld_r c72f ?_)|((with_reducible refine is_callf 52 ?_); refine call_r (c72 _) ?_)|((with_reducible refine is_calldf 52 ?_); refine calld_r (c72 _) ?_)|((with_reducible refine is_callf 65 ?_); refine call_r (c77 _ _) ?_)|((with_reducible refine is_calldf 65 ?_); refine calld_r (c77 _ _) ?_)|((with_reducible refine is_callf 72 ?_); refine call_r (c91 _ _) ?_)|((with_reducible refine is_calldf 72 ?_); refine calld_r (c91 _ _) ?_)|((with_reducible refine is_callf 79 ?_); refine call_r (c107 _) ?_)|((with_reducible refine is_calldf 79 ?_); refine calld_r (c107 _) ?_)|((with_reducible refine is_callf 39 ?_); refine call_r (c81 _ _) ?_)|((with_reducible refine is_calldf 39 ?_); refine calld_r (c81 _ _) ?_)|((with_reducible refine is_callf 23 ?_); refine call_r (c76 (own_ints (xs := [_, _, _]) (by assumption) (q := by infer_instance) rfl rfl (by decide))) ?_)|((with_reducible refine is_calldf 23 ?_); refine calld_r (c76 (own_ints (xs := [_, _, _]) (by assumption) (q := by infer_instance) rfl rfl (by decide))) ?_)|((with_reducible refine is_callf 38 ?_); refine call_r (c80 (own_ints (xs := [_, _, _]) (by assumption) (q := by infer_instance) rfl rfl (by decide))) ?_)|((with_reducible refine is_calldf 38 ?_); refine calld_r (c80 (own_ints (xs := [_, _, _]) (by assumption) (q := by infer_instance) rfl rfl (by decide))) ?_)|((with_reducible refine is_callf 38 ?_); refine call_r (c80 (own_ints (xs := [_, _]) (by assumption) (q := by infer_instance) rfl rfl (by decide))) ?_)|((with_reducible refine is_calldf 38 ?_); refine calld_r (c80 (own_ints (xs := [_, _]) (by assumption) (q := by infer_instance) rfl rfl (by decide))) ?_)|((with_reducible refine is_callf 51 ?_); refine call_r (c46 _ _) ?_)|((with_reducible refine is_calldf 51 ?_); refine calld_r (c46 _ _) ?_)|((with_reducible refine is_callf 55 ?_); refine call_r (c49 _ _) ?_)|((with_reducible refine is_calldf 55 ?_); refine calld_r (c49 _ _) ?_)|((with_reducible refine is_callf 61 ?_); refine call_r (c54 (own_ints (xs := [_, _]) (by assumption) (q := by infer_instance) rfl rfl (by decide)) (own_ints (xs := [_, _]) (by assumption) (q := by infer_instance) rfl rfl (by decide))) ?_)|((with_reducible refine is_calldf 61 ?_); refine calld_r (c54 (own_ints (xs := [_, _]) (by assumption) (q := by infer_instance) rfl rfl (by decide)) (own_ints (xs := [_, _]) (by assumption) (q := by infer_instance) rfl rfl (by decide))) ?_)|((with_reducible refine is_callf 87 ?_); refine call_r (c74 ⟨_, by with_unfolding_all rfl, L.up (by assumption)⟩ _ _) ?_)|((with_reducible refine is_calldf 87 ?_); refine calld_r (c74 ⟨_, by with_unfolding_all rfl, L.up (by assumption)⟩ _ _) ?_)|((with_reducible refine is_callf 86 ?_); refine call_r (c73 ⟨_, by with_unfolding_all rfl, L.up (by assumption)⟩) ?_)|((with_reducible refine is_callf 82 ?_); refine call_r (c75 ⟨_, by with_unfolding_all rfl, L.up (by assumption)⟩) ?_)|((with_reducible refine is_rl1 ?_); first|(refine rt_w1 (by assumption) (by infer_instance) (by with_unfolding_all rfl) ?_)|(refine rt_11 (by assumption) (by infer_instance) (by with_unfolding_all rfl) ?_))|((with_reducible refine is_rl2 ?_); first|(refine rt_w2 (by assumption) (by infer_instance) (by with_unfolding_all rfl) ?_)|(refine rt_12 (by assumption) (by infer_instance) (by with_unfolding_all rfl) ?_))|((with_reducible refine is_vk ?_); first|(with_reducible refine not_dh (by assumption) ?_)|(with_reducible refine not_dn (by assumption) ?_)|(with_reducible refine not_d (fun hb => ?_) (fun hb => ?_))|(with_reducible refine pick_dh (by assumption) ?_)|(with_reducible refine pick_dn (by assumption) ?_)|(with_reducible refine pick_d (fun hb => ?_) (fun hb => ?_))|(with_reducible refine len_o (by assumption) ?_)|(with_reducible refine nil_i ?_)|(with_reducible refine ex2_0 ?_)|(with_reducible refine ex2_1 ?_)|(with_reducible refine ex3_0 ?_)|(with_reducible refine ex3_1 ?_)|(with_reducible refine ex3_2 ?_)|(with_reducible refine pick_t ?_)|(with_reducible refine pick_f ?_)|(with_reducible refine not_t ?_)|(with_reducible refine not_f ?_)|(with_reducible refine pick_h (by assumption) ?_)|(with_reducible refine pick_n (by assumption) ?_)|(with_reducible refine not_h (by assumption) ?_)|(with_reducible refine not_n (by assumption) ?_)|(with_reducible refine not_s (fun hb => ?_) (fun hb => ?_))|(with_reducible refine pick_s (fun hb => ?_) (fun hb => ?_))|(with_reducible refine len_g (by assumption) ?_)|(with_reducible refine slen_i ?_)|(with_reducible refine len_s ?_)|(refine fld_g (by with_unfolding_all rfl) ?_)|(with_reducible refine leni_t (by assumption) ?_))|((with_reducible refine is_gd ?_); first|(with_reducible refine gd_dht (by assumption) ?_)|(with_reducible refine gd_dnt (by assumption) ?_)|(with_reducible refine gd_dhf (by assumption) ?_)|(with_reducible refine gd_dnf (by assumption) ?_)|(with_reducible refine gd_dt (fun hb => ?_) (fun hb => ?_))|(with_reducible refine gd_df (fun hb => ?_) (fun hb => ?_))|(with_reducible refine gd_tt ?_)|(with_reducible refine gd_ff ?_)|(with_reducible refine gd_tf ?_)|(with_reducible refine gd_ft ?_)|(with_reducible refine gd_u ?_)|(with_reducible refine gd_ht (by assumption) ?_)|(with_reducible refine gd_hf (by assumption) ?_)|(with_reducible refine gd_nt (by assumption) ?_)|(with_reducible refine gd_nf (by assumption) ?_)|(with_reducible refine gd_st (fun hb => ?_) (fun hb => ?_))|(with_reducible refine gd_sf (fun hb => ?_) (fun hb => ?_)))|((with_reducible refine is_cnd ?_); first|(with_reducible refine cnd_dh (by assumption) ?_)|(with_reducible refine cnd_dn (by assumption) ?_)|(with_reducible refine cnd_d (fun hb => ?_) (fun hb => ?_))|(with_reducible refine cnd_t ?_)|(with_reducible refine cnd_f ?_)|(with_reducible refine cnd_h (by assumption) ?_)|(with_reducible refine cnd_n (by assumption) ?_)|(with_reducible refine cnd_b (fun hb => ?_) (fun hb => ?_)))|((with_reducible refine is_bin ?_); first|(with_reducible refine sub_a (by assumption) (by decide) (by decide) ?_)|(with_reducible refine snil_i (fun hn => ?_) (fun hn => ?_))|(with_reducible refine prq_i (fun hc => ?_) (fun hc => ?_))|(refine mul_j (by omega) (by omega) ?_)|(with_reducible refine eql_h (by first | assumption | decide) ?_)|(with_reducible refine eql_n (by first | assumption | decide) ?_)|(with_reducible refine neq_h (by first | assumption | decide) ?_)|(with_reducible refine neq_n (by first | assumption | decide) ?_)|(with_reducible refine lss_i (fun hc => ?_) (fun hc => ?_))|(with_reducible refine leq_i (fun hc => ?_) (fun hc => ?_))|(with_reducible refine gtr_i (fun hc => ?_) (fun hc => ?_))|(with_reducible refine geq_i (fun hc => ?_) (fun hc => ?_))|(with_reducible refine eql_i (fun hc => ?_) (fun hc => ?_))|(with_reducible refine neq_i (fun hc => ?_) (fun hc => ?_))|(with_reducible refine seq_s (fun hc => ?_) (fun hc => ?_))|(with_reducible refine sne_s (fun hc => ?_) (fun hc => ?_))|(with_reducible refine sls_i ?_)|(with_reducible refine inc_i (by omega) ?_)|(with_reducible refine sub_j (by omega) (by omega) ?_)|(with_reducible refine add_j (by omega) (by omega) ?_))|((with_reducible refine is_six ?_); first|(with_reducible refine sidx_0 (by omega) ?_))|((with_reducible refine is_idx ?_); first|(refine ia_g (by assumption) (by omega) (by omega) fun p hp => ?_)|(refine ia_o (by omega) (by omega) ?_)|(refine idxA fun p hp => ?_)|(refine idx_dp (by assumption) (by with_unfolding_all rfl) (by omega) (by omega) fun p hp => ?_)|(refine idx_dz (by assumption) (by with_unfolding_all rfl) (by omega) (by omega) fun p hp => ?_)|(refine idx_f (by assumption) (by with_unfolding_all rfl) (by omega) fun p hp => ?_)|(refine idx_fz (by assumption) (by with_unfolding_all rfl) (by omega) (by omega) fun p hp => ?_)|(refine idxi_t (by assumption) (by omega) ?_)|(refine idx_o (by assumption) (by omega) ?_)|(refine idx_oz (by assumption) (by omega) (by omega) ?_))|((with_reducible refine is_fa ?_); first|(with_reducible refine fa_g (by assumption) fun p hp => ?_)|(with_reducible refine fao_e ?_)|(with_reducible refine fao ?_))|((with_reducible refine is_ldo ?_); first|(refine ldoA ?_)|(refine ldwA ?_)|(refine ldor (by assumption) (q := by infer_instance) (by with_unfolding_all rfl) (by with_unfolding_all exact Nat.le_refl _) ?_)|(refine ldf_d (by assumption) (by infer_instance) (by with_unfolding_all rfl) (by omega) (by with_unfolding_all exact Nat.le_of_ble_eq_true rfl) (by with_unfolding_all rfl) ?_)|(refine ldw_d (by assumption) (by infer_instance) (by with_unfolding_all rfl) (by omega) ?_))|((with_reducible refine is_ld ?_); first|(refine ldgA ?_)|(refine ldr_w (by assumption) (by with_unfolding_all rfl) ?_)|(refine ldr_g (by assumption) (by with_unfolding_all rfl) (by with_unfolding_all exact Nat.le_refl _) ?_)|(refine ldi_t (by assumption) (by omega) ?_))|((with_reducible refine is_box ?_); first|(with_reducible refine box_a (by assumption) fun i h z p m => ?_)|(refine box_1 (by assumption) (by with_unfolding_all rfl) fun i h z p m => ?_))|((with_reducible refine is_ok ?_); first|(with_reducible refine alloc_z (by assumption) fun i h z p m => ?_))|((with_reducible refine is_st ?_); first|(refine sto (by assumption) (q := by infer_instance) (by with_unfolding_all exact Nat.le_of_ble_eq_true rfl) rfl rfl (u := by infer_instance) fun h p m => ?_)|(refine st_w (by assumption) (by infer_instance) (by with_unfolding_all rfl) (by with_unfolding_all rfl) (by first | rfl | exact flat_ones (Flat.flat _)) (by infer_instance) fun h p m => ?_)|(refine stw_o (by assumption) (by infer_instance) (by with_unfolding_all rfl) (by omega) (by infer_instance) fun h p m => ?_))|((with_reducible refine is_new ?_); first|(with_reducible refine new_n ?_)|(with_reducible refine new_p (by assumption) ?_))|((with_reducible refine is_pd ?_); first|(refine pd_p (by assumption) (by with_unfolding_all rfl) ?_)|(refine pd_c (by assumption) (by infer_instance) (by with_unfolding_all rfl) ?_)|(refine pd_o (by assumption) (by infer_instance) (by with_unfolding_all rfl) ?_))|((with_reducible refine is_vb ?_); first|(refine vb_mac (by assumption) ?_)|(with_reducible refine vb_f ?_)|(refine vbA ?_)|(with_reducible refine vb_l (by assumption) ?_)|(refine vb_as rfl (by assumption) ?_)|(refine vb_ao rfl (by assumption) (by assumption) (by infer_instance) ?_)|(refine IsSl.vb (by assumption) (by assumption) (by infer_instance) ?_))|((with_reducible refine is_tru ?_); first|(with_reducible refine ⟨trivial, ?_⟩))|((with_reducible refine is_ret ?_); first|(with_reducible refine ret1 ?_)|(with_reducible refine ret2 ?_)|(with_reducible refine ret3 ?_)|(with_reducible refine ret0 ?_))|((with_reducible refine is_bld ?_); first|(refine vk_i (bd24_z) ?_)|(refine vk_i (bd77_01 _ _) ?_))|((with_reducible refine is_bsl ?_); first|(refine bs_g (bs36_0 _) (by assumption) fun i h p m => ?_)|(refine bs_g (bs22_0 _) (by assumption) fun i h p m => ?_)|(refine bs_g (bs51_1 _ _ _ _) (by assumption) fun i h p m => ?_)|(refine bs_g (bs27_0 _) (by assumption) fun i h p m => ?_)|(refine bs_g (bs53_2 _ _ _) (by assumption) fun i h p m => ?_)|(refine bs_g (bs141_3 _ _ _ _) (by assumption) fun i h p m => ?_)|(refine bs_g (bs53_3 _ _ _ _) (by assumption) fun i h p m => ?_)|(refine bs_g (bs53_1 _ _) (by assumption) fun i h p m => ?_))|(with_reducible refine mv_i ?_)|(with_reducible refine seq_i ?_)|((with_reducible refine fun (_ : Tmps) => ?_); (try dsimp only [nth]))))
        refine calld_r (c86 ⟨_, rfl, s.up⟩ hh (gt l k)) ?_
        (repeat' (first|((with_reducible refine is_callf 54 ?_); refine call_r (c48 _ _ _) ?_)|((with_reducible refine is_calldf 54 ?_); refine calld_r (c48 _ _ _) ?_)|((with_reducible refine is_callf 64 ?_); refine call_r (c53 _ _ _) ?_)|((with_reducible refine is_calldf 64 ?_); refine calld_r (c53 _ _ _) ?_)|((with_reducible refine is_callf 91 ?_); refine call_r (c96 _ _ _) ?_)|((with_reducible refine is_calldf 91 ?_); refine calld_r (c96 _ _ _) ?_)|((with_reducible refine is_callf 52 ?_); refine call_r c72t ?_)|((with_reducible refine is_calldf 52 ?_); refine calld_r c72t ?_)|((with_reducible refine is_callf 52 ?_); refine call_r c72f ?_)|((with_reducible refine is_calldf 52 ?_); refine calld_r c72f ?_)|((with_reducible refine is_callf 52 ?_); refine call_r (c72 _) ?_)|((with_reducible refine is_calldf 52 ?_); refine calld_r (c72 _) ?_)|((with_reducible refine is_callf 65 ?_); refine call_r (c77 _ _) ?_)|((with_reducible refine is_calldf 65 ?_); refine calld_r (c77 _ _) ?_)|((with_reducible refine is_callf 72 ?_); refine call_r (c91 _ _) ?_)|((with_reducible refine is_calldf 72 ?_); refine calld_r (c91 _ _) ?_)|((with_reducible refine is_callf 79 ?_); refine call_r (c107 _) ?_)|((with_reducible refine is_calldf 79 ?_); refine calld_r (c107 _) ?_)|((with_reducible refine is_callf 39 ?_); refine call_r (c81 _ _) ?_)|((with_reducible refine is_calldf 39 ?_); refine calld_r (c81 _ _) ?_)|((with_reducible refine is_callf 23 ?_); refine call_r (c76 (own_ints (xs := [_, _, _]) (by assumption) (q := by infer_instance) rfl rfl (by decide))) ?_)|((with_reducible refine is_calldf 23 ?_); refine calld_r (c76 (own_ints (xs := [_, _, _]) (by assumption) (q := by infer_instance) rfl rfl (by decide))) ?_)|((with_reducible refine is_callf 38 ?_); refine call_r (c80 (own_ints (xs := [_, _, _]) (by assumption) (q := by infer_instance) rfl rfl (by decide))) ?_)|((with_reducible refine is_calldf 38 ?_); refine calld_r (c80 (own_ints (xs := [_, _, _]) (by assumption) (q := by infer_instance) rfl rfl (by decide))) ?_)|((with_reducible refine is_callf 38 ?_); refine call_r (c80 (own_ints (xs := [_, _]) (by assumption) (q := by infer_instance) rfl rfl (by decide))) ?_)|((with_reducible refine is_calldf 38 ?_); refine calld_r (c80 (own_ints (xs := [_, _]) (by assumption) (q := by infer_instance) rfl rfl (by decide))) ?_)|((with_reducible refine is_callf 51 ?_); refine call_r (c46 _ _) ?_)|((with_reducible refine is_calldf 51 ?_); refine calld_r (c46 _ _) ?_)|((with_reducible refine is_callf 55 ?_); refine call_r (c49 _ _) ?_)|((with_reducible refine is_calldf 55 ?_); refine calld_r (c49 _ _) ?_)|((with_reducible refine is_callf 61 ?_); refine call_r (c54 (own_ints (xs := [_, _]) (by assumption) (q := by infer_instance) rfl rfl (by decide)) (own_ints (xs := [_, _]) (by assumption) (q := by infer_instance) rfl rfl (by decide))) ?_)|((with_reducible refine is_calldf 61 ?_); refine calld_r (c54 (own_ints (xs := [_, _]) (by assumption) (q := by infer_instance) rfl rfl (by decide)) (own_ints (xs := [_, _]) (by assumption) (q := by infer_instance) rfl rfl (by decide))) ?_)|((with_reducible refine is_callf 87 ?_); refine call_r (c74 ⟨_, by with_unfolding_all rfl, L.up (by assumption)⟩ _ _) ?_)|((with_reducible refine is_calldf 87 ?_); refine calld_r (c74 ⟨_, by with_unfolding_all rfl, L.up (by assumption)⟩ _ _) ?_)|((with_reducible refine is_callf 86 ?_); refine call_r (c73 ⟨_, by with_unfolding_all rfl, L.up (by assumption)⟩) ?_)|((with_reducible refine is_callf 82 ?_); refine call_r (c75 ⟨_, by with_unfolding_all rfl, L.up (by assumption)⟩) ?_)|((with_reducible refine is_rl1 ?_); first|(refine rt_w1 (by assumption) (by infer_instance) (by with_unfolding_all rfl) ?_)|(refine rt_11 (by assumption) (by infer_instance) (by with_unfolding_all rfl) ?_))|((with_reducible refine is_rl2 ?_); first|(refine rt_w2 (by assumption) (by infer_instance) (by with_unfolding_all rfl) ?_)|(refine rt_12 (by assumption) (by infer_instance) (by with_unfolding_all rfl) ?_))|((with_reducible refine is_vk ?_); first|(with_reducible refine not_dh (by assumption) ?_)|(with_reducible refine not_dn (by assumption) ?_)|(with_reducible refine not_d (fun hb => ?_) (fun hb => ?_))|(with_reducible refine pick_dh (by assumption) ?_)|(with_reducible refine pick_dn (by assumption) ?_)|(with_reducible refine pick_d (fun hb => ?_) (fun hb => ?_))|(with_reducible refine len_o (by assumption) ?_)|(with_reducible refine nil_i ?_)|(with_reducible refine ex2_0 ?_)|(with_reducible refine ex2_1 ?_)|(with_reducible refine ex3_0 ?_)|(with_reducible refine ex3_1 ?_)|(with_reducible refine ex3_2 ?_)|(with_reducible refine pick_t ?_)|(with_reducible refine pick_f ?_)|(with_reducible refine not_t ?_)|(with_reducible refine not_f ?_)|(with_reducible refine pick_h (by assumption) ?_)|(with_reducible refine pick_n (by assumption) ?_)|(with_reducible refine not_h (by assumption) ?_)|(with_reducible refine not_n (by assumption) ?_)|(with_reducible refine not_s (fun hb => ?_) (fun hb => ?_))|(with_reducible refine pick_s (fun hb => ?_) (fun hb => ?_))|(with_reducible refine len_g (by assumption) ?_)|(with_reducible refine slen_i ?_)|(with_reducible refine len_s ?_)|(refine fld_g (by with_unfolding_all rfl) ?_)|(with_reducible refine leni_t (by assumption) ?_))|((with_reducible refine is_gd ?_); first|(with_reducible refine gd_dht (by assumption) ?_)|(with_reducible refine gd_dnt (by assumption) ?_)|(with_reducible refine gd_dhf (by assumption) ?_)|(with_reducible refine gd_dnf (by assumption) ?_)|(with_reducible refine gd_dt (fun hb => ?_) (fun hb => ?_))|(with_reducible refine gd_df (fun hb => ?_) (fun hb => ?_))|(with_reducible refine gd_tt ?_)|(with_reducible refine gd_ff ?_)|(with_reducible refine gd_tf ?_)|(with_reducible refine gd_ft ?_)|(with_reducible refine gd_u ?_)|(with_reducible refine gd_ht (by assumption) ?_)|(with_reducible refine gd_hf (by assumption) ?_)|(with_reducible refine gd_nt (by assumption) ?_)|(with_reducible refine gd_nf (by assumption) ?_)|(with_reducible refine gd_st (fun hb => ?_) (fun hb => ?_))|(with_reducible refine gd_sf (fun hb => ?_) (fun hb => ?_)))|((with_reducible refine is_cnd ?_); first|(with_reducible refine cnd_dh (by assumption) ?_)|(with_reducible refine cnd_dn (by assumption) ?_)|(with_reducible refine cnd_d (fun hb => ?_) (fun hb => ?_))|(with_reducible refine cnd_t ?_)|(with_reducible refine cnd_f ?_)|(with_reducible refine cnd_h (by assumption) ?_)|(with_reducible refine cnd_n (by assumption) ?_)|(with_reducible refine cnd_b (fun hb => ?_) (fun hb => ?_)))|((with_reducible refine is_bin ?_); first|(with_reducible refine sub_a (by assumption) (by decide) (by decide) ?_)|(with_reducible refine snil_i (fun hn => ?_) (fun hn => ?_))|(with_reducible refine prq_i (fun hc => ?_) (fun hc => ?_))|(refine mul_j (by omega) (by omega) ?_)|(with_reducible refine eql_h (by first | assumption | decide) ?_)|(with_reducible refine eql_n (by first | assumption | decide) ?_)|(with_reducible refine neq_h (by first | assumption | decide) ?_)|(with_reducible refine neq_n (by first | assumption | decide) ?_)|(with_reducible refine lss_i (fun hc => ?_) (fun hc => ?_))|(with_reducible refine leq_i (fun hc => ?_) (fun hc => ?_))|(with_reducible refine gtr_i (fun hc => ?_) (fun hc => ?_))|(with_reducible refine geq_i (fun hc => ?_) (fun hc => ?_))|(with_reducible refine eql_i (fun hc => ?_) (fun hc => ?_))|(with_reducible refine neq_i (fun hc => ?_) (fun hc => ?_))|(with_reducible refine seq_s (fun hc => ?_) (fun hc => ?_))|(with_reducible refine sne_s (fun hc => ?_) (fun hc => ?_))|(with_reducible refine sls_i ?_)|(with_reducible refine inc_i (by omega) ?_)|(with_reducible refine sub_j (by omega) (by omega) ?_)|(with_reducible refine add_j (by omega) (by omega) ?_))|((with_reducible refine is_six ?_); first|(with_reducible refine sidx_0 (by omega) ?_))|((with_reducible refine is_idx ?_); first|(refine ia_g (by assumption) (by omega) (by omega) fun p hp => ?_)|(refine ia_o (by omega) (by omega) ?_)|(refine idxA fun p hp => ?_)|(refine idx_dp (by assumption) (by with_unfolding_all rfl) (by omega) (by omega) fun p hp => ?_)|(refine idx_dz (by assumption) (by with_unfolding_all rfl) (by omega) (by omega) fun p hp => ?_)|(refine idx_f (by assumption) (by with_unfolding_all rfl) (by omega) fun p hp => ?_)|(refine idx_fz (by assumption) (by with_unfolding_all rfl) (by omega) (by omega) fun p hp => ?_)|(refine idxi_t (by assumption) (by omega) ?_)|(refine idx_o (by assumption) (by omega) ?_)|(refine idx_oz (by assumption) (by omega) (by omega) ?_))|((with_reducible refine is_fa ?_); first|(with_reducible refine fa_g (by assumption) fun p hp => ?_)|(with_reducible refine fao_e ?_)|(with_reducible refine fao ?_))|((with_reducible refine is_ldo ?_); first|(refine ldoA ?_)|(refine ldwA ?_)|(refine ldor (by assumption) (q := by infer_instance) (by with_unfolding_all rfl) (by with_unfolding_all exact Nat.le_refl _) ?_)|(refine ldf_d (by assumption) (by infer_instance) (by with_unfolding_all rfl) (by omega) (by with_unfolding_all exact Nat.le_of_ble_eq_true rfl) (by with_unfolding_all rfl) ?_)|(refine ldw_d (by assumption) (by infer_instance) (by with_unfolding_all rfl) (by omega) ?_))|((with_reducible refine is_ld ?_); first|(refine ldgA ?_)|(refine ldr_w (by assumption) (by with_unfolding_all rfl) ?_)|(refine ldr_g (by assumption) (by with_unfolding_all rfl) (by with_unfolding_all exact Nat.le_refl _) ?_)|(refine ldi_t (by assumption) (by omega) ?_))|((with_reducible refine is_box ?_); first|(with_reducible refine box_a (by assumption) fun i h z p m => ?_)|(refine box_1 (by assumption) (by with_unfolding_all rfl) fun i h z p m => ?_))|((with_reducible refine is_ok ?_); first|(with_reducible refine alloc_z (by assumption) fun i h z p m => ?_))|((with_reducible refine is_st ?_); first|(refine sto (by assumption) (q := by infer_instance) (by with_unfolding_all exact Nat.le_of_ble_eq_true rfl) rfl rfl (u := by infer_instance) fun h p m => ?_)|(refine st_w (by assumption) (by infer_instance) (by with_unfolding_all rfl) (by with_unfolding_all rfl) (by first | rfl | exact flat_ones (Flat.flat _)) (by infer_instance) fun h p m => ?_)|(refine stw_o (by assumption) (by infer_instance) (by with_unfolding_all rfl) (by omega) (by infer_instance) fun h p m => ?_))|((with_reducible refine is_new ?_); first|(with_reducible refine new_n ?_)|(with_reducible refine new_p (by assumption) ?_))|((with_reducible refine is_pd ?_); first|(refine pd_p (by assumption) (by with_unfolding_all rfl) ?_)|(refine pd_c (by assumption) (by infer_instance) (by with_unfolding_all rfl) ?_)|(refine pd_o (by assumption) (by infer_instance) (by with_unfolding_all rfl) ?_))|((with_reducible refine is_vb ?_); first|(refine vb_mac (by assumption) ?_)|(with_reducible refine vb_f ?_)|(refine vbA ?_)|(with_reducible refine vb_l (by assumption) ?_)|(refine vb_as rfl (by assumption) ?_)|(refine vb_ao rfl (by assumption) (by assumption) (by infer_instance) ?_)|(refine IsSl.vb (by assumption) (by assumption) (by infer_instance) ?_))|((with_reducible refine is_tru ?_); first|(with_reducible refine ⟨trivial, ?_⟩))|((with_reducible refine is_ret ?_); first|(with_reducible refine ret1 ?_)|(with_reducible refine ret2 ?_)|(with_reducible refine ret3 ?_)|(with_reducible refine ret0 ?_))|((with_reducible refine is_bld ?_); first|(refine vk_i (bd24_z) ?_)|(refine vk_i (bd77_01 _ _) ?_))|((with_reducible refine is_bsl ?_); first|(refine bs_g (bs36_0 _) (by assumption) fun i h p m => ?_)|(refine bs_g (bs22_0 _) (by assumption) fun i h p m => ?_)|(refine bs_g (bs51_1 _ _ _ _) (by assumption) fun i h p m => ?_)|(refine bs_g (bs27_0 _) (by assumption) fun i h p m => ?_)|(refine bs_g (bs53_2 _ _ _) (by assumption) fun i h p m => ?_)|(refine bs_g (bs141_3 _ _ _ _) (by assumption) fun i h p m => ?_)|(refine bs_g (bs53_3 _ _ _ _) (by assumption) fun i h p m => ?_)|(refine bs_g (bs53_1 _ _) (by assumption) fun i h p m => ?_))|(with_reducible refine mv_i ?_)|(with_reducible refine seq_i ?_)|((with_reducible refine fun (_ : Tmps) => ?_); (try dsimp only [nth]))))
        refine pre_g (α := Mut) (h1 := g) t rfl (by omega) (by omega) fun y1 s1 => ?_
        obtain ⟨b1, q1, rfl, _⟩ := s1.shape
        (repeat' (first|((with_reducible refine is_callf 54 ?_); refine call_r (c48 _ _ _) ?_)|((with_reducible refine is_calldf 54 ?_); refine calld_r (c48 _ _ _) ?_)|((with_reducible refine is_callf 64 ?_); refine call_r (c53 _ _ _) ?_)|((with_reducible refine is_calldf 64 ?_); refine calld_r (c53 _ _ _) ?_)|((with_reducible refine is_callf 91 ?_); refine call_r (c96 _ _ _) ?_)|((with_reducible refine is_calldf 91 ?_); refine calld_r (c96 _ _ _) ?_)|((with_reducible refine is_callf 52 ?_); refine call_r c72t ?_)|((with_reducible refine is_calldf 52 ?_); refine calld_r c72t ?_)|((with_reducible refine is_callf 52 ?_); refine call_r c72f ?_)|((with_reducible refine is_calldf 52 ?_); refine calld_r c72f ?_)|((with_reducible refine is_callf 52 ?_); refine call_r (c72 _) ?_)|((with_reducible refine is_calldf 52 ?_); refine calld_r (c72 _) ?_)|((with_reducible refine is_callf 65 ?_); refine call_r (c77 _ _) ?_)|((with_reducible refine is_calldf 65 ?_); refine calld_r (c77 _ _) ?_)|((with_reducible refine is_callf 72 ?_); refine call_r (c91 _ _) ?_)|((with_reducible refine is_calldf 72 ?_); refine calld_r (c91 _ _) ?_)|((with_reducible refine is_callf 79 ?_); refine call_r (c107 _) ?_)|((with_reducible refine is_calldf 79 ?_); refine calld_r (c107 _) ?_)|((with_reducible refine is_callf 39 ?_); refine call_r (c81 _ _) ?_)|((with_reducible refine is_calldf 39 ?_); refine calld_r (c81 _ _) ?_)|((with_reducible refine is_callf 23 ?_); refine call_r (c76 (own_ints (xs := [_, _, _]) (by assumption) (q := by infer_instance) rfl rfl (by decide))) ?_)|((with_reducible refine is_calldf 23 ?_); refine calld_r (c76 (own_ints (xs := [_, _, _]) (by assumption) (q := by infer_instance) rfl rfl (by decide))) ?_)|((with_reducible refine is_callf 38 ?_); refine call_r (c80 (own_ints (xs := [_, _, _]) (by assumption) (q := by infer_instance) rfl rfl (by decide))) ?_)|((with_reducible refine is_calldf 38 ?_); refine calld_r (c80 (own_ints (xs := [_, _, _]) (by assumption) (q := by infer_instance) rfl rfl (by decide))) ?_)|((with_reducible refine is_callf 38 ?_); refine call_r (c80 (own_ints (xs := [_, _]) (by assumption) (q := by infer_instance) rfl rfl (by decide))) ?_)|((with_reducible refine is_calldf 38 ?_); refine calld_r (c80 (own_ints (xs := [_, _]) (by assumption) (q := by infer_instance) rfl rfl (by decide))) ?_)|((with_reducible refine is_callf 51 ?_); refine call_r (c46 _ _) ?_)|((with_reducible refine is_calldf 51 ?_); refine calld_r (c46 _ _) ?_)|((with_reducible refine is_callf 55 ?_); refine call_r (c49 _ _) ?_)|((with_reducible refine is_calldf 55 ?_); refine calld_r (c49 _ _) ?_)|((with_reducible refine is_callf 61 ?_); refine call_r (c54 (own_ints (xs := [_, _]) (by assumption) (q := by infer_instance) rfl rfl (by decide)) (own_ints (xs := [_, _]) (by assumption) (q := by infer_instance) rfl rfl (by decide))) ?_)|((with_reducible refine is_calldf 61 ?_); refine calld_r (c54 (own_ints (xs := [_, _]) (by assumption) (q := by infer_instance) rfl rfl (by decide)) (own_ints (xs := [_, _]) (by assumption) (q := by infer_instance) rfl rfl (by decide))) ?_)|((with_reducible refine is_callf 87 ?_); refine call_r (c74 ⟨_, by with_unfolding_all rfl, L.up (by assumption)⟩ _ _) ?_)|((with_reducible refine is_calldf 87 ?_); refine calld_r (c74 ⟨_, by with_unfolding_all rfl, L.up (by assumption)⟩ _ _) ?_)|((with_reducible refine is_callf 86 ?_); refine call_r (c73 ⟨_, by with_unfolding_all rfl, L.up (by assumption)⟩) ?_)|((with_reducible refine is_callf 82 ?_); refine call_r (c75 ⟨_, by with_unfolding_all rfl, L.up (by assumption)⟩) ?_)|((with_reducible refine is_rl1 ?_); first|(refine rt_w1 (by assumption) (by infer_instance) (by with_unfolding_all rfl) ?_)|(refine rt_11 (by assumption) (by infer_instance) (by with_unfolding_all rfl) ?_))|((with_reducible refine is_rl2 ?_); first|(refine rt_w2 (by assumption) (by infer_instance) (by with_unfolding_all rfl) ?_)|(refine rt_12 (by assumption) (by infer_instance) (by with_unfolding_all rfl) ?_))|((with_reducible refine is_vk ?_); first|(with_reducible refine not_dh (by assumption) ?_)|(with_reducible refine not_dn (by assumption) ?_)|(with_reducible refine not_d (fun hb => ?_) (fun hb => ?_))|(with_reducible refine pick_dh (by assumption) ?_)|(with_reducible refine pick_dn (by assumption) ?_)|(with_reducible refine pick_d (fun hb => ?_) (fun hb => ?_))|(with_reducible refine len_o (by assumption) ?_)|(with_reducible refine nil_i ?_)|(with_reducible refine ex2_0 ?_)|(with_reducible refine ex2_1 ?_)|(with_reducible refine ex3_0 ?_)|(with_reducible refine ex3_1 ?_)|(with_reducible refine ex3_2 ?_)|(with_reducible refine pick_t ?_)|(with_reducible refine pick_f ?_)|(with_reducible refine not_t ?_)|(with_reducible refine not_f ?_)|(with_reducible refine pick_h (by assumption) ?_)|(with_reducible refine pick_n (by assumption) ?_)|(with_reducible refine not_h (by assumption) ?_)|(with_reducible refine not_n (by assumption) ?_)|(with_reducible refine not_s (fun hb => ?_) (fun hb => ?_))|(with_reducible refine pick_s (fun hb => ?_) (fun hb => ?_))|(with_reducible refine len_g (by assumption) ?_)|(with_reducible refine slen_i ?_)|(with_reducible refine len_s ?_)|(refine fld_g (by with_unfolding_all rfl) ?_)|(with_reducible refine leni_t (by assumption) ?_))|((with_reducible refine is_gd ?_); first|(with_reducible refine gd_dht (by assumption) ?_)|(with_reducible refine gd_dnt (by assumption) ?_)|(with_reducible refine gd_dhf (by assumption) ?_)|(with_reducible refine gd_dnf (by assumption) ?_)|(with_reducible refine gd_dt (fun hb => ?_) (fun hb => ?_))|(with_reducible refine gd_df (fun hb => ?_) (fun hb => ?_))|(with_reducible refine gd_tt ?_)|(with_reducible refine gd_ff ?_)|(with_reducible refine gd_tf ?_)|(with_reducible refine gd_ft ?_)|(with_reducible refine gd_u ?_)|(with_reducible refine gd_ht (by assumption) ?_)|(with_reducible refine gd_hf (by assumption) ?_)|(with_reducible refine gd_nt (by assumption) ?_)|(with_reducible refine gd_nf (by assumption) ?_)|(with_reducible refine gd_st (fun hb => ?_) (fun hb => ?_))|(with_reducible refine gd_sf (fun hb => ?_) (fun hb => ?_)))|((with_reducible refine is_cnd ?_); first|(with_reducible refine cnd_dh (by assumption) ?_)|(with_reducible refine cnd_dn (by assumption) ?_)|(with_reducible refine cnd_d (fun hb => ?_) (fun hb => ?_))|(with_reducible refine cnd_t ?_)|(with_reducible refine cnd_f ?_)|(with_reducible refine cnd_h (by assumption) ?_)|(with_reducible refine cnd_n (by assumption) ?_)|(with_reducible refine cnd_b (fun hb => ?_) (fun hb => ?_)))|((with_reducible refine is_bin ?_); first|(with_reducible refine sub_a (by assumption) (by decide) (by decide) ?_)|(with_reducible refine snil_i (fun hn => ?_) (fun hn => ?_))|(with_reducible refine prq_i (fun hc => ?_) (fun hc => ?_))|(refine mul_j (by omega) (by omega) ?_)|(with_reducible refine eql_h (by first | assumption | decide) ?_)|(with_reducible refine eql_n (by first | assumption | decide) ?_)|(with_reducible refine neq_h (by first | assumption | decide) ?_)|(with_reducible refine neq_n (by first | assumption | decide) ?_)|(with_reducible refine lss_i (fun hc => ?_) (fun hc => ?_))|(with_reducible refine leq_i (fun hc => ?_) (fun hc => ?_))|(with_reducible refine gtr_i (fun hc => ?_) (fun hc => ?_))|(with_reducible refine geq_i (fun hc => ?_) (fun hc => ?_))|(with_reducible refine eql_i (fun hc => ?_) (fun hc => ?_))|(with_reducible refine neq_i (fun hc => ?_) (fun hc => ?_))|(with_reducible refine seq_s (fun hc => ?_) (fun hc => ?_))|(with_reducible refine sne_s (fun hc => ?_) (fun hc => ?_))|(with_reducible refine sls_i ?_)|(with_reducible refine inc_i (by omega) ?_)|(with_reducible refine sub_j (by omega) (by omega) ?_)|(with_reducible refine add_j (by omega) (by omega) ?_))|((with_reducible refine is_six ?_); first|(with_reducible refine sidx_0 (by omega) ?_))|((with_reducible refine is_idx ?_); first|(refine ia_g (by assumption) (by omega) (by omega) fun p hp => ?_)|(refine ia_o (by omega) (by omega) ?_)|(refine idxA fun p hp => ?_)|(refine idx_dp (by assumption) (by with_unfolding_all rfl) (by omega) (by omega) fun p hp => ?_)|(refine idx_dz (by assumption) (by with_unfolding_all rfl) (by omega) (by omega) fun p hp => ?_)|(refine idx_f (by assumption) (by with_unfolding_all rfl) (by omega) fun p hp => ?_)|(refine idx_fz (by assumption) (by with_unfolding_all rfl) (by omega) (by omega) fun p hp => ?_)|(refine idxi_t (by assumption) (by omega) ?_)|(refine idx_o (by assumption) (by omega) ?_)|(refine idx_oz (by assumption) (by omega) (by omega) ?_))|((with_reducible refine is_fa ?_); first|(with_reducible refine fa_g (by assumption) fun p hp => ?_)|(with_reducible refine fao_e ?_)|(with_reducible refine fao ?_))|((with_reducible refine is_ldo ?_); first|(refine ldoA ?_)|(refine ldwA ?_)|(refine ldor (by assumption) (q := by infer_instance) (by with_unfolding_all rfl) (by with_unfolding_all exact Nat.le_refl _) ?_)|(refine ldf_d (by assumption) (by infer_instance) (by with_unfolding_all rfl) (by omega) (by with_unfolding_all exact Nat.le_of_ble_eq_true rfl) (by with_unfolding_all rfl) ?_)|(refine ldw_d (by assumption) (by infer_instance) (by with_unfolding_all rfl) (by omega) ?_))|((with_reducible refine is_ld ?_); first|(refine ldgA ?_)|(refine ldr_w (by assumption) (by with_unfolding_all rfl) ?_)|(refine ldr_g (by assumption) (by with_unfolding_all rfl) (by with_unfolding_all exact Nat.le_refl _) ?_)|(refine ldi_t (by assumption) (by omega) ?_))|((with_reducible refine is_box ?_); first|(with_reducible refine box_a (by assumption) fun i h z p m => ?_)|(refine box_1 (by assumption) (by with_unfolding_all rfl) fun i h z p m => ?_))|((with_reducible refine is_ok ?_); first|(with_reducible refine alloc_z (by assumption) fun i h z p m => ?_))|((with_reducible refine is_st ?_); first|(refine sto (by assumption) (q := by infer_instance) (by with_unfolding_all exact Nat.le_of_ble_eq_true rfl) rfl rfl (u := by infer_instance) fun h p m => ?_)|(refine st_w (by assumption) (by infer_instance) (by with_unfolding_all rfl) (by with_unfolding_all rfl) (by first | rfl | exact flat_ones (Flat.flat _)) (by infer_instance) fun h p m => ?_)|(refine stw_o (by assumption) (by infer_instance) (by with_unfolding_all rfl) (by omega) (by infer_instance) fun h p m => ?_))|((with_reducible refine is_new ?_); first|(with_reducible refine new_n ?_)|(with_reducible refine new_p (by assumption) ?_))|((with_reducible refine is_pd ?_); first|(refine pd_p (by assumption) (by with_unfolding_all rfl) ?_)|(refine pd_c (by assumption) (by infer_instance) (by with_unfolding_all rfl) ?_)|(refine pd_o (by assumption) (by infer_instance) (by with_unfolding_all rfl) ?_))|((with_reducible refine is_vb ?_); first|(refine vb_mac (by assumption) ?_)|(with_reducible refine vb_f ?_)|(refine vbA ?_)|(with_reducible refine vb_l (by assumption) ?_)|(refine vb_as rfl (by assumption) ?_)|(refine vb_ao rfl (by assumption) (by assumption) (by infer_instance) ?_)|(refine IsSl.vb (by assumption) (by assumption) (by infer_instance) ?_))|((with_reducible refine is_tru ?_); first|(with_reducible refine ⟨trivial, ?_⟩))|((with_reducible refine is_ret ?_); first|(with_reducible refine ret1 ?_)|(with_reducible refine ret2 ?_)|(with_reducible refine ret3 ?_)|(with_reducible refine ret0 ?_))|((with_reducible refine is_bld ?_); first|(refine vk_i (bd24_z) ?_)|(refine vk_i (bd77_01 _ _) ?_))|((with_reducible refine is_bsl ?_); first|(refine bs_g (bs36_0 _) (by assumption) fun i h p m => ?_)|(refine bs_g (bs22_0 _) (by assumption) fun i h p m => ?_)|(refine bs_g (bs51_1 _ _ _ _) (by assumption) fun i h p m => ?_)|(refine bs_g (bs27_0 _) (by assumption) fun i h p m => ?_)|(refine bs_g (bs53_2 _ _ _) (by assumption) fun i h p m => ?_)|(refine bs_g (bs141_3 _ _ _ _) (by assumption) fun i h p m => ?_)|(refine bs_g (bs53_3 _ _ _ _) (by assumption) fun i h p m => ?_)|(refine bs_g (bs53_1 _ _) (by assumption) fun i h p m => ?_))|(with_reducible refine mv_i ?_)|(with_reducible refine seq_i ?_)|((with_reducible refine fun (_ : Tmps) => ?_); (try dsimp only [nth]))))
        refine calld_r (c87 (p := fun o => meetS o (gt l k)) s1.up fun o => c84 o m (by infer_instance)) ?_
        refine new_n ?_
        refine not_i ?_
        (repeat' (first|((with_reducible refine is_callf 54 ?_); refine call_r (c48 _ _ _) ?_)|((with_reducible refine is_calldf 54 ?_); refine calld_r (c48 _ _ _) ?_)|((with_reducible refine is_callf 64 ?_); refine call_r (c53 _ _ _) ?_)|((with_reducible refine is_calldf 64 ?_); refine calld_r (c53 _ _ _) ?_)|((with_reducible refine is_callf 91 ?_); refine call_r (c96 _ _ _) ?_)|((with_reducible refine is_calldf 91 ?_); refine calld_r (c96 _ _ _) ?_)|((with_reducible refine is_callf 52 ?_); refine call_r c72t ?_)|((with_reducible refine is_calldf 52 ?_); refine calld_r c72t ?_)|((with_reducible refine is_callf 52 ?_); refine call_r c72f ?_)|((with_reducible refine is_calldf 52 ?_); refine calld_r c72f ?_)|((with_reducible refine is_callf 52 ?_); refine call_r (c72 _) ?_)|((with_reducible refine is_calldf 52 ?_); refine calld_r (c72 _) ?_)|((with_reducible refine is_callf 65 ?_); refine call_r (c77 _ _) ?_)|((with_reducible refine is_calldf 65 ?_); refine calld_r (c77 _ _) ?_)|((with_reducible refine is_callf 72 ?_); refine call_r (c91 _ _) ?_)|((with_reducible refine is_calldf 72 ?_); refine calld_r (c91 _ _) ?_)|((with_reducible refine is_callf 79 ?_); refine call_r (c107 _) ?_)|((with_reducible refine is_calldf 79 ?_); refine calld_r (c107 _) ?_)|((with_reducible refine is_callf 39 ?_); refine call_r (c81 _ _) ?_)|((with_reducible refine is_calldf 39 ?_); refine calld_r (c81 _ _) ?_)|((with_reducible refine is_callf 23 ?_); refine call_r (c76 (own_ints (xs := [_, _, _]) (by assumption) (q := by infer_instance) rfl rfl (by decide))) ?_)|((with_reducible refine is_calldf 23 ?_); refine calld_r (c76 (own_ints (xs := [_, _, _]) (by assumption) (q := by infer_instance) rfl rfl (by decide))) ?_)|((with_reducible refine is_callf 38 ?_); refine call_r (c80 (own_ints (xs := [_, _, _]) (by assumption) (q := by infer_instance) rfl rfl (by decide))) ?_)|((with_reducible refine is_calldf 38 ?_); refine calld_r (c80 (own_ints (xs := [_, _, _]) (by assumption) (q := by infer_instance) rfl rfl (by decide))) ?_)|((with_reducible refine is_callf 38 ?_); refine call_r (c80 (own_ints (xs := [_, _]) (by assumption) (q := by infer_instance) rfl rfl (by decide))) ?_)|((with_reducible refine is_calldf 38 ?_); refine calld_r (c80 (own_ints (xs := [_, _]) (by assumption) (q := by infer_instance) rfl rfl (by decide))) ?_)|((with_reducible refine is_callf 51 ?_); refine call_r (c46 _ _) ?_)|((with_reducible refine is_calldf 51 ?_); refine calld_r (c46 _ _) ?_)|((with_reducible refine is_callf 55 ?_); refine call_r (c49 _ _) ?_)|((with_reducible refine is_calldf 55 ?_); refine calld_r (c49 _ _) ?_)|((with_reducible refine is_callf 61 ?_); refine call_r (c54 (own_ints (xs := [_, _]) (by assumption) (q := by infer_instance) rfl rfl (by decide)) (own_ints (xs := [_, _]) (by assumption) (q := by infer_instance) rfl rfl (by decide))) ?_)|((with_reducible refine is_calldf 61 ?_); refine calld_r (c54 (own_ints (xs := [_, _]) (by assumption) (q := by infer_instance) rfl rfl (by decide)) (own_ints (xs := [_, _]) (by assumption) (q := by infer_instance) rfl rfl (by decide))) ?_)|((with_reducible refine is_callf 87 ?_); refine call_r (c74 ⟨_, by with_unfolding_all rfl, L.up (by assumption)⟩ _ _) ?_)|((with_reducible refine is_calldf 87 ?_); refine calld_r (c74 ⟨_, by with_unfolding_all rfl, L.up (by assumption)⟩ _ _) ?_)|((with_reducible refine is_callf 86 ?_); refine call_r (c73 ⟨_, by with_unfolding_all rfl, L.up (by assumption)⟩) ?_)|((with_reducible refine is_callf 82 ?_); refine call_r (c75 ⟨_, by with_unfolding_all rfl, L.up (by assumption)⟩) ?_)|((with_reducible refine is_rl1 ?_); first|(refine rt_w1 (by assumption) (by infer_instance) (by with_unfolding_all rfl) ?_)|(refine rt_11 (by assumption) (by infer_instance) (by with_unfolding_all rfl) ?_))|((with_reducible refine is_rl2 ?_); first|(refine rt_w2 (by assumption) (by infer_instance) (by with_unfolding_all rfl) ?_)|(refine rt_12 (by assumption) (by infer_instance) (by with_unfolding_all rfl) ?_))|((with_reducible refine is_vk ?_); first|(with_reducible refine not_dh (by assumption) ?_)|(with_reducible refine not_dn (by assumption) ?_)|(with_reducible refine not_d (fun hb => ?_) (fun hb => ?_))|(with_reducible refine pick_dh (by assumption) ?_)|(with_reducible refine pick_dn (by assumption) ?_)|(with_reducible refine pick_d (fun hb => ?_) (fun hb => ?_))|(with_reducible refine len_o (by assumption) ?_)|(with_reducible refine nil_i ?_)|(with_reducible refine ex2_0 ?_)|(with_reducible refine ex2_1 ?_)|(with_reducible refine ex3_0 ?_)|(with_reducible refine ex3_1 ?_)|(with_reducible refine ex3_2 ?_)|(with_reducible refine pick_t ?_)|(with_reducible refine pick_f ?_)|(with_reducible refine not_t ?_)|(with_reducible refine not_f ?_)|(with_reducible refine pick_h (by assumption) ?_)|(with_reducible refine pick_n (by assumption) ?_)|(with_reducible refine not_h (by assumption) ?_)|(with_reducible refine not_n (by assumption) ?_)|(with_reducible refine not_s (fun hb => ?_) (fun hb => ?_))|(with_reducible refine pick_s (fun hb => ?_) (fun hb => ?_))|(with_reducible refine len_g (by assumption) ?_)|(with_reducible refine slen_i ?_)|(with_reducible refine len_s ?_)|(refine fld_g (by with_unfolding_all rfl) ?_)|(with_reducible refine leni_t (by assumption) ?_))|((with_reducible refine is_gd ?_); first|(with_reducible refine gd_dht (by assumption) ?_)|(with_reducible refine gd_dnt (by assumption) ?_)|(with_reducible refine gd_dhf (by assumption) ?_)|(with_reducible refine gd_dnf (by assumption) ?_)|(with_reducible refine gd_dt (fun hb => ?_) (fun hb => ?_))|(with_reducible refine gd_df (fun hb => ?_) (fun hb => ?_))|(with_reducible refine gd_tt ?_)|(with_reducible refine gd_ff ?_)|(with_reducible refine gd_tf ?_)|(with_reducible refine gd_ft ?_)|(with_reducible refine gd_u ?_)|(with_reducible refine gd_ht (by assumption) ?_)|(with_reducible refine gd_hf (by assumption) ?_)|(with_reducible refine gd_nt (by assumption) ?_)|(with_reducible refine gd_nf (by assumption) ?_)|(with_reducible refine gd_st (fun hb => ?_) (fun hb => ?_))|(with_reducible refine gd_sf (fun hb => ?_) (fun hb => ?_)))|((with_reducible refine is_cnd ?_); first|(with_reducible refine cnd_dh (by assumption) ?_)|(with_reducible refine cnd_dn (by assumption) ?_)|(with_reducible refine cnd_d (fun hb => ?_) (fun hb => ?_))|(with_reducible refine cnd_t ?_)|(with_reducible refine cnd_f ?_)|(with_reducible refine cnd_h (by assumption) ?_)|(with_reducible refine cnd_n (by assumption) ?_)|(with_reducible refine cnd_b (fun hb => ?_) (fun hb => ?_)))|((with_reducible refine is_bin ?_); first|(with_reducible refine sub_a (by assumption) (by decide) (by decide) ?_)|(with_reducible refine snil_i (fun hn => ?_) (fun hn => ?_))|(with_reducible refine prq_i (fun hc => ?_) (fun hc => ?_))|(refine mul_j (by omega) (by omega) ?_)|(with_reducible refine eql_h (by first | assumption | decide) ?_)|(with_reducible refine eql_n (by first | assumption | decide) ?_)|(with_reducible refine neq_h (by first | assumption | decide) ?_)|(with_reducible refine neq_n (by first | assumption | decide) ?_)|(with_reducible refine lss_i (fun hc => ?_) (fun hc => ?_))|(with_reducible refine leq_i (fun hc => ?_) (fun hc => ?_))|(with_reducible refine gtr_i (fun hc => ?_) (fun hc => ?_))|(with_reducible refine geq_i (fun hc => ?_) (fun hc => ?_))|(with_reducible refine eql_i (fun hc => ?_) (fun hc => ?_))|(with_reducible refine neq_i (fun hc => ?_) (fun hc => ?_))|(with_reducible refine seq_s (fun hc => ?_) (fun hc => ?_))|(with_reducible refine sne_s (fun hc => ?_) (fun hc => ?_))|(with_reducible refine sls_i ?_)|(with_reducible refine inc_i (by omega) ?_)|(with_reducible refine sub_j (by omega) (by omega) ?_)|(with_reducible refine add_j (by omega) (by omega) ?_))|((with_reducible refine is_six ?_); first|(with_reducible refine sidx_0 (by omega) ?_))|((with_reducible refine is_idx ?_); first|(refine ia_g (by assumption) (by omega) (by omega) fun p hp => ?_)|(refine ia_o (by omega) (by omega) ?_)|(refine idxA fun p hp => ?_)|(refine idx_dp (by assumption) (by with_unfolding_all rfl) (by omega) (by omega) fun p hp => ?_)|(refine idx_dz (by assumption) (by with_unfolding_all rfl) (by omega) (by omega) fun p hp => ?_)|(refine idx_f (by assumption) (by with_unfolding_all rfl) (by omega) fun p hp => ?_)|(refine idx_fz (by assumption) (by with_unfolding_all rfl) (by omega) (by omega) fun p hp => ?_)|(refine idxi_t (by assumption) (by omega) ?_)|(refine idx_o (by assumption) (by omega) ?_)|(refine idx_oz (by assumption) (by omega) (by omega) ?_))|((with_reducible refine is_fa ?_); first|(with_reducible refine fa_g (by assumption) fun p hp => ?_)|(with_reducible refine fao_e ?_)|(with_reducible refine fao ?_))|((with_reducible refine is_ldo ?_); first|(refine ldoA ?_)|(refine ldwA ?_)|(refine ldor (by assumption) (q := by infer_instance) (by with_unfolding_all rfl) (by with_unfolding_all exact Nat.le_refl _) ?_)|(refine ldf_d (by assumption) (by infer_instance) (by with_unfolding_all rfl) (by omega) (by with_unfolding_all exact Nat.le_of_ble_eq_true rfl) (by with_unfolding_all rfl) ?_)|(refine ldw_d (by assumption) (by infer_instance) (by with_unfolding_all rfl) (by omega) ?_))|((with_reducible refine is_ld ?_); first|(refine ldgA ?_)|(refine ldr_w (by assumption) (by with_unfolding_all rfl) ?_)|(refine ldr_g (by assumption) (by with_unfolding_all rfl) (by with_unfolding_all exact Nat.le_refl _) ?_)|(refine ldi_t (by assumption) (by omega) ?_))|((with_reducible refine is_box ?_); first|(with_reducible refine box_a (by assumption) fun i h z p m => ?_)|(refine box_1 (by assumption) (by with_unfolding_all rfl) fun i h z p m => ?_))|((with_reducible refine is_ok ?_); first|(with_reducible refine alloc_z (by assumption) fun i h z p m => ?_))|((with_reducible refine is_st ?_); first|(refine sto (by assumption) (q := by infer_instance) (by with_unfolding_all exact Nat.le_of_ble_eq_true rfl) rfl rfl (u := by infer_instance) fun h p m => ?_)|(refine st_w (by assumption) (by infer_instance) (by with_unfolding_all rfl) (by with_unfolding_all rfl) (by first | rfl | exact flat_ones (Flat.flat _)) (by infer_instance) fun h p m => ?_)|(refine stw_o (by assumption) (by infer_instance) (by with_unfolding_all rfl) (by omega) (by infer_instance) fun h p m => ?_))|((with_reducible refine is_new ?_); first|(with_reducible refine new_n ?_)|(with_reducible refine new_p (by assumption) ?_))|((with_reducible refine is_pd ?_); first|(refine pd_p (by assumption) (by with_unfolding_all rfl) ?_)|(refine pd_c (by assumption) (by infer_instance) (by with_unfolding_all rfl) ?_)|(refine pd_o (by assumption) (by infer_instance) (by with_unfolding_all rfl) ?_))|((with_reducible refine is_vb ?_); first|(refine vb_mac (by assumption) ?_)|(with_reducible refine vb_f ?_)|(refine vbA ?_)|(with_reducible refine vb_l (by assumption) ?_)|(refine vb_as rfl (by assumption) ?_)|(refine vb_ao rfl (by assumption) (by assumption) (by infer_instance) ?_)|(refine IsSl.vb (by assumption) (by assumption) (by infer_instance) ?_))|((with_reducible refine is_tru ?_); first|(with_reducible refine ⟨trivial, ?_⟩))|((with_reducible refine is_ret ?_); first|(with_reducible refine ret1 ?_)|(with_reducible refine ret2 ?_)|(with_reducible refine ret3 ?_)|(with_reducible refine ret0 ?_))|((with_reducible refine is_bld ?_); first|(refine vk_i (bd24_z) ?_)|(refine vk_i (bd77_01 _ _) ?_))|((with_reducible refine is_bsl ?_); first|(refine bs_g (bs36_0 _) (by assumption) fun i h p m => ?_)|(refine bs_g (bs22_0 _) (by assumption) fun i h p m => ?_)|(refine bs_g (bs51_1 _ _ _ _) (by assumption) fun i h p m => ?_)|(refine bs_g (bs27_0 _) (by assumption) fun i h p m => ?_)|(refine bs_g (bs53_2 _ _ _) (by assumption) fun i h p m => ?_)|(refine bs_g (bs141_3 _ _ _ _) (by assumption) fun i h p m => ?_)|(refine bs_g (bs53_3 _ _ _ _) (by assumption) fun i h p m => ?_)|(refine bs_g (bs53_1 _ _) (by assumption) fun i h p m => ?_))|(with_reducible refine mv_i ?_)|(with_reducible refine seq_i ?_)|((with_reducible refine fun (_ : Tmps) => ?_); (try dsimp only [nth]))))
      all_goals
        have hb3 : (!decide (0 ≤ idxOf (fun o => meetS o (gt l k)) (l.take k))) = decide (¬ agn l k) := by
          unfold agn
          by_cases q : 0 ≤ idxOf (fun o => meetS o (gt l k)) (l.take k) <;> simp [q]
      all_goals first
        | (have ho : true = decide (ordS l k) := (decide_eq_true ⟨by first | (left; omega) | (right; assumption), by first | (left; assumption) | (right; assumption)⟩).symm
           have hq := muE_or x l k _ true _ hb rfl ho hb3
           rw [hq] at hc
           first
             | exact next1 hkl ⟨⟨Stb.st⟩, m.sub (by simp), up_no hc hJ⟩
             | (refine ⟨?_, Mem.pre (by assumption)⟩
                rw [hq, mutE, if_neg (by omega), firstErr_at hJ hkl hc]
                rfl))
        | (have ho : false = decide (ordS l k) := (decide_eq_false (by
             rintro ⟨q1, q2⟩
             first
               | (rcases q2 with q2 | q2 <;> contradiction)
               | (rcases q1 with q1 | q1 <;> first | contradiction | omega))).symm
           have hq := muE_or x l k _ false _ hb rfl ho hb3
           rw [hq] at hc
           first
             | exact next1 hkl ⟨⟨Stb.st⟩, m.sub (by simp), up_no hc hJ⟩
             | (refine ⟨?_, Mem.pre (by assumption)⟩
                rw [hq, mutE, if_neg (by omega), firstErr_at hJ hkl hc]
                rfl))
    · ((with_reducible (refine lss_i (fun hc => ?_) (fun hc => ?_); refine cnd_t ?_; refine mv_i ?_)); (refine idxA fun p hp => ?_); (refine ldr_w (by assumption) (by with_unfolding_all rfl) ?_); (with_reducible (refine alloc_z (by assumption) fun i h z p m => ?_; refine mv_i ?_)); (refine st_w (by assumption) (by infer_instance) (by with_unfolding_all rfl) (by with_unfolding_all rfl) (by first | rfl | exact flat_ones (Flat.flat _)) (by infer_instance) fun h p m => ?_); (with_reducible (refine mv_i ?_; refine eql_i (fun hc => ?_) (fun hc => ?_); refine mv_i ?_; refine gd_tf ?_; refine gd_tf ?_; refine gd_tf ?_; refine gd_tf ?_; refine gd_tf ?_; refine gd_tf ?_; refine gd_tf ?_; refine gd_tf ?_; refine pick_t ?_; refine mv_i ?_; refine gd_tt ?_; refine fao ?_; refine gd_tt ?_)); (refine ldoA ?_); (refine vbA ?_); (with_reducible (refine gd_tt ?_; refine neq_i (fun hc => ?_) (fun hc => ?_); refine gd_tt ?_; refine mv_i ?_; refine gd_ff ?_; refine fao ?_; refine gd_ff ?_)); (refine ldoA ?_); (refine vbA ?_); (with_reducible (refine gd_ff ?_; refine fao ?_; refine gd_ff ?_)); (refine ldoA ?_); (refine vbA ?_); (with_reducible (refine gd_ff ?_; refine lss_i (fun hc => ?_) (fun hc => ?_); refine gd_tt ?_; refine pick_f ?_; refine pick_t ?_; refine mv_i ?_; refine mv_i ?_; refine mv_i ?_; refine fao ?_)); (refine ldoA ?_); (refine call_r (c48 _ _ _) ?_); (with_reducible (refine not_d (fun hb => ?_) (fun hb => ?_); refine cnd_f ?_)); (refine ldwA ?_); (refine vb_mac (by assumption) ?_); (refine ldwA ?_); (with_reducible (refine vb_f ?_)); (rotate_left); (with_reducible (refine cnd_t ?_; refine mv_i ?_; refine mv_i ?_; refine mv_i ?_; refine ret2 ?_)); (rotate_left); (with_reducible (refine gd_tt ?_; refine pick_f ?_; refine pick_t ?_; refine mv_i ?_; refine mv_i ?_; refine mv_i ?_; refine fao ?_)); (refine ldoA ?_); (refine call_r (c48 _ _ _) ?_); (with_reducible (refine not_d (fun hb => ?_) (fun hb => ?_); refine cnd_f ?_)); (refine ldwA ?_); (refine vb_mac (by assumption) ?_); (refine ldwA ?_); (with_reducible (refine vb_f ?_)); (rotate_left); (with_reducible (refine cnd_t ?_; refine mv_i ?_; refine mv_i ?_; refine mv_i ?_; refine ret2 ?_)); (rotate_left); (with_reducible (refine gd_tt ?_; refine mv_i ?_; refine gd_tf ?_; refine gd_tf ?_; refine gd_tf ?_; refine gd_tf ?_; refine gd_tf ?_; refine gd_tt ?_; refine pick_t ?_; refine pick_t ?_; refine mv_i ?_; refine mv_i ?_; refine mv_i ?_; refine fao ?_)); (refine ldoA ?_); (refine call_r (c48 _ _ _) ?_); (with_reducible (refine not_d (fun hb => ?_) (fun hb => ?_); refine cnd_f ?_)); (refine ldwA ?_); (refine vb_mac (by assumption) ?_); (refine ldwA ?_); (with_reducible (refine vb_f ?_)); (rotate_left); (with_reducible (refine cnd_t ?_; refine mv_i ?_; refine mv_i ?_; refine mv_i ?_; refine ret2 ?_)); (rotate_left); (with_reducible (refine mv_i ?_; refine gd_ff ?_; refine mv_i ?_; refine gd_ff ?_; refine mv_i ?_; refine gd_ff ?_; refine sub_j (by omega) (by omega) ?_; refine gd_ff ?_)); (refine idx_dp (by assumption) (by with_unfolding_all rfl) (by omega) (by omega) fun p hp => ?_); (with_reducible (refine gd_ff ?_)); (refine ldr_w (by assumption) (by with_unfolding_all rfl) ?_); (with_reducible (refine vb_f ?_; refine gd_ff ?_)); (refine ldwA ?_); (with_reducible (refine vb_f ?_; refine gd_ff ?_)); (refine calld_r (c46 _ _) ?_); (with_reducible (refine new_n ?_; refine gd_ff ?_; refine lss_i (fun hc => ?_) (fun hc => ?_); refine pick_f ?_; refine mv_i ?_; refine gd_tt ?_; refine fao ?_; refine gd_tt ?_)); (refine ldoA ?_); (refine vbA ?_); (with_reducible (refine gd_tt ?_; refine neq_i (fun hc => ?_) (fun hc => ?_); refine gd_tt ?_; refine mv_i ?_; refine gd_ff ?_; refine fao ?_; refine gd_ff ?_)); (refine ldoA ?_); (refine vbA ?_); (with_reducible (refine gd_ff ?_; refine fao ?_; refine gd_ff ?_)); (refine ldoA ?_); (refine vbA ?_); (with_reducible (refine gd_ff ?_; refine lss_i (fun hc => ?_) (fun hc => ?_); refine gd_tt ?_; refine pick_f ?_; refine pick_t ?_; refine mv_i ?_; refine mv_i ?_; refine mv_i ?_; refine fao ?_)); (refine ldoA ?_); (refine call_r (c48 _ _ _) ?_); (with_reducible (refine not_d (fun hb => ?_) (fun hb => ?_); refine cnd_f ?_)); (refine ldwA ?_); (refine vb_mac (by assumption) ?_); (refine ldwA ?_); (with_reducible (refine vb_f ?_)); (rotate_left); (with_reducible (refine cnd_t ?_; refine mv_i ?_; refine mv_i ?_; refine mv_i ?_; refine ret2 ?_)); (rotate_left); (with_reducible (refine gd_tt ?_; refine pick_f ?_; refine pick_t ?_; refine mv_i ?_; refine mv_i ?_; refine mv_i ?_; refine fao ?_)); (refine ldoA ?_); (refine call_r (c48 _ _ _) ?_); (with_reducible (refine not_d (fun hb => ?_) (fun hb => ?_); refine cnd_f ?_)); (refine ldwA ?_); (refine vb_mac (by assumption) ?_); (refine ldwA ?_); (with_reducible (refine vb_f ?_)); (rotate_left); (with_reducible (refine cnd_t ?_; refine mv_i ?_; refine mv_i ?_; refine mv_i ?_; refine ret2 ?_)); (rotate_left); (with_reducible (refine gd_tt ?_; refine mv_i ?_; refine gd_tf ?_; refine gd_tf ?_; refine gd_tf ?_; refine gd_tf ?_; refine gd_tf ?_; refine gd_tt ?_; refine pick_t ?_; refine pick_t ?_; refine mv_i ?_; refine mv_i ?_; refine mv_i ?_; refine fao ?_)); (refine ldoA ?_); (refine call_r (c48 _ _ _) ?_); (with_reducible (refine not_d (fun hb => ?_) (fun hb => ?_); refine cnd_f ?_)); (refine ldwA ?_); (refine vb_mac (by assumption) ?_); (refine ldwA ?_); (with_reducible (refine vb_f ?_)); (rotate_left); (with_reducible (refine cnd_t ?_; refine mv_i ?_; refine mv_i ?_; refine mv_i ?_; refine ret2 ?_)); (rotate_left); (with_reducible (refine pick_f ?_; refine mv_i ?_; refine gd_ft ?_; refine gd_ft ?_; refine gd_ft ?_; refine gd_ft ?_; refine gd_u ?_; refine gd_u ?_; refine gd_u ?_; refine gd_u ?_; refine gd_u ?_; refine gd_ft ?_; refine pick_f ?_; refine mv_i ?_; refine mv_i ?_; refine mv_i ?_; refine fao ?_)); (refine ldoA ?_); (refine call_r (c48 _ _ _) ?_); (with_reducible (refine not_d (fun hb => ?_) (fun hb => ?_); refine cnd_f ?_)); (refine ldwA ?_); (refine vb_mac (by assumption) ?_); (refine ldwA ?_); (with_reducible (refine vb_f ?_)); (rotate_left); (with_reducible (refine cnd_t ?_; refine mv_i ?_; refine mv_i ?_; refine mv_i ?_; refine ret2 ?_)); (rotate_left); (with_reducible (refine cnd_f ?_; refine mv_i ?_; refine mv_i ?_; refine ret2 ?_)); (rotate_left))
      all_goals (try (exfalso; omega))
      exact ⟨by rw [mutE, if_neg (by omega), firstErr_no fun j hj => hJ j (by omega)]; rfl, Mem.pre (by assumption)⟩
end Go.Proofs.YtomiejfeclefaaaGreat
