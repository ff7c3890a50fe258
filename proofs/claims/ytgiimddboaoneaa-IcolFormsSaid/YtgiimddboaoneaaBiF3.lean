import Derived.Test.YtgiimddboaoneaaBiF1
/-! IcolForms, row by row. -/
namespace Go.Proofs.Bi
open Go Go.Sx
set_option maxRecDepth 100000
theorem form8 (which : Int) : fixT tab4 4000 8 2 6 38 8 [.int .i64 which] = some (idx23 which) := by kernel_rfl
theorem form9 (which : Int) : fixT tab4 4000 8 2 6 38 9 [.int .i64 which] = some (idx23 which) := by kernel_rfl
theorem form10 (which : Int) : fixT tab4 4000 8 2 6 38 10 [.int .i64 which] = some (idx23 which) := by kernel_rfl
theorem form11 (which : Int) : fixT tab4 4000 8 2 6 38 11 [.int .i64 which] = some (idx23 which) := by kernel_rfl
theorem form12 (which : Int) : fixT tab4 4000 8 2 6 38 12 [.int .i64 which] = some (idx23 which) := by kernel_rfl
theorem form13 (which : Int) : fixT tab4 4000 8 2 6 38 13 [.int .i64 which] = some (idx23 which) := by kernel_rfl
theorem form14 (which : Int) : fixT tab4 4000 8 2 6 38 14 [.int .i64 which] = some (idx23 which) := by kernel_rfl
theorem form15 (which : Int) : fixT tab4 4000 8 2 6 38 15 [.int .i64 which] = some (idx23 which) := by kernel_rfl
end Go.Proofs.Bi
