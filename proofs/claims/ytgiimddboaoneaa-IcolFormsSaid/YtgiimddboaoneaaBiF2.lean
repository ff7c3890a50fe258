import Derived.Test.YtgiimddboaoneaaBiF1
/-! IcolForms, row by row. -/
namespace Go.Proofs.Bi
open Go Go.Sx
set_option maxRecDepth 100000
theorem form0 (which : Int) : fixT tab4 4000 8 2 6 38 0 [.int .i64 which] = some (idx23 which) := by kernel_rfl
theorem form1 (which : Int) : fixT tab4 4000 8 2 6 38 1 [.int .i64 which] = some (idx23 which) := by kernel_rfl
theorem form2 (which : Int) : fixT tab4 4000 8 2 6 38 2 [.int .i64 which] = some (idx23 which) := by kernel_rfl
theorem form3 (which : Int) : fixT tab4 4000 8 2 6 38 3 [.int .i64 which] = some (idx23 which) := by kernel_rfl
theorem form4 (which : Int) : fixT tab4 4000 8 2 6 38 4 [.int .i64 which] = some (idx23 which) := by kernel_rfl
theorem form5 (which : Int) : fixT tab4 4000 8 2 6 38 5 [.int .i64 which] = some (idx23 which) := by kernel_rfl
theorem form6 (which : Int) : fixT tab4 4000 8 2 6 38 6 [.int .i64 which] = some (idx23 which) := by kernel_rfl
theorem form7 (which : Int) : fixT tab4 4000 8 2 6 38 7 [.int .i64 which] = some (idx23 which) := by kernel_rfl
end Go.Proofs.Bi
