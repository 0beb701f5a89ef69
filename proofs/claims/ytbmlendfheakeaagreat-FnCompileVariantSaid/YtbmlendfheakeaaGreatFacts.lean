/-
  The types of this seat's program, as the abstract machine asks for them. Printed by wip/py/mkti.py.
-/
import Derived.Test.YtbmlendfheakeaaGreatAmL
import Derived.Test.YtbmlendfheakeaaGreatRows
namespace Go.Am
open Go.Proofs

theorem ti3 : tiOf Tryz.prog 3 = some ⟨1, 8, false, (some (.int .i64 0)), (.int .i64)⟩ := by kernel_rfl
theorem ti4 : tiOf Tryz.prog 4 = some ⟨1, 1, false, (some (.bool false)), .bool⟩ := by kernel_rfl
theorem ti5 : tiOf Tryz.prog 5 = some ⟨1, 1, false, (some (.int .u8 0)), (.int .u8)⟩ := by kernel_rfl
theorem ti9 : tiOf Tryz.prog 9 = some ⟨1, 16, false, (some (.str ⟨#[]⟩)), .string⟩ := by kernel_rfl
theorem ti22 : tiOf Tryz.prog 22 = some ⟨1, 24, false, (some (.imm 0 [] .full)), (.slice 5)⟩ := by kernel_rfl
theorem ti23 : tiOf Tryz.prog 23 = some ⟨1, 24, false, (some (.imm 0 [] .full)), (.slice 25)⟩ := by kernel_rfl
theorem ti25 : tiOf Tryz.prog 25 = some ⟨4, 56, true, (some (.agg [.int .i64 0, .int .i64 0, .str ⟨#[]⟩, .imm 0 [] .full])), (.struct [(0, 1, false), (1, 1, false), (2, 1, false), (3, 1, false)] none)⟩ := by kernel_rfl
theorem ti27 : tiOf Tryz.prog 27 = some ⟨5, 80, true, (some (.agg [.int .i64 0, .int .i64 0, .str ⟨#[]⟩, .imm 0 [] .full, .imm 0 [] .full])), (.struct [(0, 4, true), (4, 1, false)] none)⟩ := by kernel_rfl
theorem ti31 : tiOf Tryz.prog 31 = some ⟨1, 24, false, (some (.imm 0 [] .full)), (.slice 57)⟩ := by kernel_rfl
theorem ti36 : tiOf Tryz.prog 36 = some ⟨1, 24, false, (some (.imm 0 [] .full)), (.slice 27)⟩ := by kernel_rfl
theorem ti57 : tiOf Tryz.prog 57 = some ⟨4, 40, true, (some (.agg [.int .i64 0, .int .i64 0, .int .i64 0, .str ⟨#[]⟩])), (.struct [(0, 1, false), (1, 1, false), (2, 1, false), (3, 1, false)] (some [.i, .i, .i, .s]))⟩ := by kernel_rfl
theorem ti76 : tiOf Tryz.prog 76 = some ⟨1, 24, false, (some (.imm 0 [] .full)), (.slice 3)⟩ := by kernel_rfl
theorem ti88 : tiOf Tryz.prog 88 = some ⟨2, 32, true, (some (.agg [.imm 0 [] .full, .int .i64 0])), (.struct [(0, 1, false), (1, 1, false)] none)⟩ := by kernel_rfl
theorem ti91 : tiOf Tryz.prog 91 = some ⟨1, 24, false, (some (.imm 0 [] .full)), (.slice 9)⟩ := by kernel_rfl
theorem ti103 : tiOf Tryz.prog 103 = some ⟨3, 56, true, (some (.agg [.imm 0 [] .full, .int .i64 0, .imm 0 [] .full])), (.struct [(0, 1, false), (1, 1, false), (2, 1, false)] none)⟩ := by kernel_rfl
theorem ti114 : tiOf Tryz.prog 114 = some ⟨1, 8, false, (some .nilp), .pointer⟩ := by kernel_rfl
theorem ti132 : tiOf Tryz.prog 132 = some ⟨1, 8, false, (some .nilm), (.map 3 3)⟩ := by kernel_rfl
theorem ti134 : tiOf Tryz.prog 134 = some ⟨3, 40, true, (some (.agg [.nilm, .int .i64 0, .imm 0 [] .full])), (.struct [(0, 1, false), (1, 1, false), (2, 1, false)] none)⟩ := by kernel_rfl
theorem ti135 : tiOf Tryz.prog 135 = some ⟨1, 24, false, (some (.imm 0 [] .full)), (.slice 139)⟩ := by kernel_rfl
theorem ti139 : tiOf Tryz.prog 139 = some ⟨5, 64, true, (some (.agg [.int .i64 0, .int .i64 0, .str ⟨#[]⟩, .imm 0 [] .full, .int .i64 0])), (.struct [(0, 4, true), (4, 1, false)] none)⟩ := by kernel_rfl
theorem ti148 : tiOf Tryz.prog 148 = some ⟨1, 24, false, (some (.imm 0 [] .full)), (.slice 151)⟩ := by kernel_rfl
theorem ti151 : tiOf Tryz.prog 151 = some ⟨5, 64, true, (some (.agg [.int .i64 0, .int .i64 0, .str ⟨#[]⟩, .imm 0 [] .full, .int .i64 0])), (.struct [(0, 4, true), (4, 1, false)] none)⟩ := by kernel_rfl
theorem mixed : Tryz.prog.follows .mixedOrders = true := by kernel_rfl

end Go.Am
