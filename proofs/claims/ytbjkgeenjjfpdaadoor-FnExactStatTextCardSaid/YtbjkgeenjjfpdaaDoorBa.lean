/- The ground of the seat: the table of its types. No statement is proved in this text. -/
import Derived.Test.YtbjkgeenjjfpdaaDoorProg
import Derived.KernelRfl
import Derived.Test.YtbjkgeenjjfpdaaDoorPa
import Derived.Test.YtbjkgeenjjfpdaaDoorVp
set_option linter.all false
set_option autoImplicit true
namespace Go.Vi
open Go Go.Proofs
set_option maxRecDepth 100000
theorem hm : Tryd.prog.follows .mixedOrders = true := by kernel_rfl
theorem C2 : mkC Tryd.prog 2 = some ⟨.int .i64, 1, 8, [.int .i64 0], []⟩ := by kernel_rfl
theorem C3 : mkC Tryd.prog 3 = some ⟨.int .i64, 1, 8, [.int .i64 0], []⟩ := by kernel_rfl
theorem C4 : mkC Tryd.prog 4 = some ⟨.bool, 1, 1, [.bool false], []⟩ := by kernel_rfl
theorem C5 : mkC Tryd.prog 5 = some ⟨.int .u8, 1, 1, [.int .u8 0], []⟩ := by kernel_rfl
theorem C6 : mkC Tryd.prog 6 = some ⟨.int .u8, 1, 1, [.int .u8 0], []⟩ := by kernel_rfl
theorem C7 : mkC Tryd.prog 7 = some ⟨.struct [(0, 1), (1, 1), (2, 1), (3, 1)], 4, 24, [.int .i64 0, .int .i64 0, .bool false, .int .u8 0], [.int .i64, .int .i64, .bool, .int .u8]⟩ := by kernel_rfl
theorem C8 : mkC Tryd.prog 8 = some ⟨.struct [(0, 1), (1, 1), (2, 1), (3, 1)], 4, 24, [.int .i64 0, .int .i64 0, .bool false, .int .u8 0], [.int .i64, .int .i64, .bool, .int .u8]⟩ := by kernel_rfl
theorem C9 : mkC Tryd.prog 9 = some ⟨.str, 1, 16, [.str []], []⟩ := by kernel_rfl
theorem C10 : mkC Tryd.prog 10 = some ⟨.str, 1, 16, [.str []], []⟩ := by kernel_rfl
theorem C11 : mkC Tryd.prog 11 = some ⟨.str, 1, 16, [.str []], []⟩ := by kernel_rfl
theorem C12 : mkC Tryd.prog 12 = some ⟨.int .u64, 1, 8, [.int .u64 0], []⟩ := by kernel_rfl
theorem C13 : mkC Tryd.prog 13 = some ⟨.struct [(0, 1), (1, 1)], 2, 24, [.str [], .int .u64 0], []⟩ := by kernel_rfl
theorem C14 : mkC Tryd.prog 14 = some ⟨.struct [(0, 1), (1, 1)], 2, 24, [.str [], .int .u64 0], []⟩ := by kernel_rfl
theorem C21 : mkC Tryd.prog 21 = some ⟨.int .i32, 1, 4, [.int .i32 0], []⟩ := by kernel_rfl
theorem C22 : mkC Tryd.prog 22 = some ⟨.slice 37, 1, 24, [.sl 3 []], []⟩ := by kernel_rfl
theorem C25 : mkC Tryd.prog 25 = some ⟨.slice 40, 1, 24, [.sl 3 []], []⟩ := by kernel_rfl
theorem C35 : mkC Tryd.prog 35 = some ⟨.slice 67, 1, 24, [.sl 3 []], []⟩ := by kernel_rfl
theorem C36 : mkC Tryd.prog 36 = some ⟨.struct [(0, 1), (1, 1), (2, 1)], 3, 48, [.str [], .int .i64 0, .sl 3 []], []⟩ := by kernel_rfl
theorem C37 : mkC Tryd.prog 37 = some ⟨.struct [(0, 1), (1, 1), (2, 1)], 3, 48, [.str [], .int .i64 0, .sl 3 []], []⟩ := by kernel_rfl
theorem C38 : mkC Tryd.prog 38 = some ⟨.slice 49, 1, 24, [.sl 3 []], []⟩ := by kernel_rfl
theorem C39 : mkC Tryd.prog 39 = some ⟨.struct [(0, 1), (1, 1), (2, 1)], 3, 48, [.str [], .int .i64 0, .sl 3 []], []⟩ := by kernel_rfl
theorem C40 : mkC Tryd.prog 40 = some ⟨.struct [(0, 1), (1, 1), (2, 1)], 3, 48, [.str [], .int .i64 0, .sl 3 []], []⟩ := by kernel_rfl
theorem C47 : mkC Tryd.prog 47 = some ⟨.slice 51, 1, 24, [.sl 2 []], []⟩ := by kernel_rfl
theorem C48 : mkC Tryd.prog 48 = some ⟨.struct [(0, 1), (1, 1), (2, 1)], 3, 40, [.int .i64 0, .int .i64 0, .sl 2 []], []⟩ := by kernel_rfl
theorem C49 : mkC Tryd.prog 49 = some ⟨.struct [(0, 1), (1, 1), (2, 1)], 3, 40, [.int .i64 0, .int .i64 0, .sl 2 []], []⟩ := by kernel_rfl
theorem C50 : mkC Tryd.prog 50 = some ⟨.struct [(0, 1), (1, 1)], 2, 24, [.int .i64 0, .str []], [.int .i64, .str]⟩ := by kernel_rfl
theorem C51 : mkC Tryd.prog 51 = some ⟨.struct [(0, 1), (1, 1)], 2, 24, [.int .i64 0, .str []], [.int .i64, .str]⟩ := by kernel_rfl
theorem C52 : mkC Tryd.prog 52 = some ⟨.array 4 3, 4, 32, [.int .i64 0, .int .i64 0, .int .i64 0, .int .i64 0], []⟩ := by kernel_rfl
theorem C62 : mkC Tryd.prog 62 = some ⟨.slice 5, 1, 24, [.sl 1 []], []⟩ := by kernel_rfl
theorem C65 : mkC Tryd.prog 65 = some ⟨.slice 99, 1, 24, [.sl 2 []], []⟩ := by kernel_rfl
theorem C66 : mkC Tryd.prog 66 = some ⟨.struct [(0, 1), (1, 1), (2, 1)], 3, 40, [.int .i64 0, .int .i64 0, .sl 2 []], []⟩ := by kernel_rfl
theorem C67 : mkC Tryd.prog 67 = some ⟨.struct [(0, 1), (1, 1), (2, 1)], 3, 40, [.int .i64 0, .int .i64 0, .sl 2 []], []⟩ := by kernel_rfl
theorem C72 : mkC Tryd.prog 72 = some ⟨.slice 9, 1, 24, [.sl 1 []], []⟩ := by kernel_rfl
theorem C92 : mkC Tryd.prog 92 = some ⟨.array 24 5, 24, 24, [.int .u8 0, .int .u8 0, .int .u8 0, .int .u8 0, .int .u8 0, .int .u8 0, .int .u8 0, .int .u8 0, .int .u8 0, .int .u8 0, .int .u8 0, .int .u8 0, .int .u8 0, .int .u8 0, .int .u8 0, .int .u8 0, .int .u8 0, .int .u8 0, .int .u8 0, .int .u8 0, .int .u8 0, .int .u8 0, .int .u8 0, .int .u8 0], []⟩ := by kernel_rfl
theorem C93 : mkC Tryd.prog 93 = some ⟨.int .u64, 1, 8, [.int .u64 0], []⟩ := by kernel_rfl
theorem C99 : mkC Tryd.prog 99 = some ⟨.struct [(0, 1), (1, 1)], 2, 24, [.int .i64 0, .str []], [.int .i64, .str]⟩ := by kernel_rfl
theorem C109 : mkC Tryd.prog 109 = some ⟨.array 20 93, 20, 160, [.int .u64 0, .int .u64 0, .int .u64 0, .int .u64 0, .int .u64 0, .int .u64 0, .int .u64 0, .int .u64 0, .int .u64 0, .int .u64 0, .int .u64 0, .int .u64 0, .int .u64 0, .int .u64 0, .int .u64 0, .int .u64 0, .int .u64 0, .int .u64 0, .int .u64 0, .int .u64 0], []⟩ := by kernel_rfl
theorem C110 : mkC Tryd.prog 110 = some ⟨.int .u32, 1, 4, [.int .u32 0], []⟩ := by kernel_rfl
theorem C113 : mkC Tryd.prog 113 = some ⟨.int .u64, 1, 8, [.int .u64 0], []⟩ := by kernel_rfl
theorem C120 : mkC Tryd.prog 120 = some ⟨.struct [(0, 1), (1, 1)], 2, 2, [.int .u8 0, .int .u8 0], [.int .u8, .int .u8]⟩ := by kernel_rfl
theorem C121 : mkC Tryd.prog 121 = some ⟨.struct [(0, 1), (1, 1)], 2, 2, [.int .u8 0, .int .u8 0], [.int .u8, .int .u8]⟩ := by kernel_rfl
theorem C122 : mkC Tryd.prog 122 = some ⟨.array 16 121, 32, 32, [.int .u8 0, .int .u8 0, .int .u8 0, .int .u8 0, .int .u8 0, .int .u8 0, .int .u8 0, .int .u8 0, .int .u8 0, .int .u8 0, .int .u8 0, .int .u8 0, .int .u8 0, .int .u8 0, .int .u8 0, .int .u8 0, .int .u8 0, .int .u8 0, .int .u8 0, .int .u8 0, .int .u8 0, .int .u8 0, .int .u8 0, .int .u8 0, .int .u8 0, .int .u8 0, .int .u8 0, .int .u8 0, .int .u8 0, .int .u8 0, .int .u8 0, .int .u8 0], []⟩ := by kernel_rfl
theorem C126 : mkC Tryd.prog 126 = some ⟨.array 32 5, 32, 32, [.int .u8 0, .int .u8 0, .int .u8 0, .int .u8 0, .int .u8 0, .int .u8 0, .int .u8 0, .int .u8 0, .int .u8 0, .int .u8 0, .int .u8 0, .int .u8 0, .int .u8 0, .int .u8 0, .int .u8 0, .int .u8 0, .int .u8 0, .int .u8 0, .int .u8 0, .int .u8 0, .int .u8 0, .int .u8 0, .int .u8 0, .int .u8 0, .int .u8 0, .int .u8 0, .int .u8 0, .int .u8 0, .int .u8 0, .int .u8 0, .int .u8 0, .int .u8 0], []⟩ := by kernel_rfl
theorem C133 : mkC Tryd.prog 133 = some ⟨.array 0 16, 0, 0, [], []⟩ := by kernel_rfl
theorem C134 : mkC Tryd.prog 134 = some ⟨.struct [(0, 0)], 0, 0, [], []⟩ := by kernel_rfl
theorem C135 : mkC Tryd.prog 135 = some ⟨.struct [(0, 0)], 0, 0, [], []⟩ := by kernel_rfl
theorem C137 : mkC Tryd.prog 137 = some ⟨.int .u8, 1, 1, [.int .u8 0], []⟩ := by kernel_rfl
theorem C138 : mkC Tryd.prog 138 = some ⟨.int .u8, 1, 1, [.int .u8 0], []⟩ := by kernel_rfl
theorem C141 : mkC Tryd.prog 141 = some ⟨.int .i32, 1, 4, [.int .i32 0], []⟩ := by kernel_rfl
theorem C142 : mkC Tryd.prog 142 = some ⟨.int .i32, 1, 4, [.int .i32 0], []⟩ := by kernel_rfl
attribute [go_sem] C2 C3 C4 C5 C6 C7 C8 C9 C10 C11 C12 C13 C14 C21 C22 C25 C35 C36 C37 C38 C39 C40 C47 C48 C49 C50 C51 C52 C62 C65 C66 C67 C72 C92 C93 C99 C109 C110 C113 C120 C121 C122 C126 C133 C134 C135 C137 C138 C141 C142 
end Go.Vi
