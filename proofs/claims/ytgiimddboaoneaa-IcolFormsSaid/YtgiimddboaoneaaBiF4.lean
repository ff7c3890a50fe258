import Derived.Test.YtgiimddboaoneaaBiF1
/-! IcolForms, row by row. -/
namespace Go.Proofs.Bi
open Go Go.Sx
set_option maxRecDepth 100000
theorem form16 (which : Int) : fixT tab4 4000 8 2 6 38 16 [.int .i64 which] = some (idx23 which) := by kernel_rfl
theorem form17 (which : Int) : fixT tab4 4000 8 2 6 38 17 [.int .i64 which] = some (idx23 which) := by kernel_rfl
theorem form18 (which : Int) : fixT tab4 4000 8 2 6 38 18 [.int .i64 which] = some (idx23 which) := by kernel_rfl
theorem form19 (which : Int) : fixT tab4 4000 8 2 6 38 19 [.int .i64 which] = some (idx23 which) := by kernel_rfl
theorem form20 (which : Int) : fixT tab4 4000 8 2 6 38 20 [.int .i64 which] = some (idx23 which) := by kernel_rfl
theorem form21 (which : Int) : fixT tab4 4000 8 2 6 38 21 [.int .i64 which] = some (idx23 which) := by kernel_rfl
theorem form22 (which : Int) : fixT tab4 4000 8 2 6 38 22 [.int .i64 which] = some (idx23 which) := by kernel_rfl
end Go.Proofs.Bi
