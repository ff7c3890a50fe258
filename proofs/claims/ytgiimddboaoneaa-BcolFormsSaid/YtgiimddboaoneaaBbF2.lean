import Derived.Test.YtgiimddboaoneaaBbF1
/-! BcolForms, row by row. -/
namespace Go.Proofs.Bi
open Go Go.Sx
set_option maxRecDepth 100000
theorem formb0 (which : Int) : fixT tab5 4000 3 2 6 37 0 [.int .i64 which] = some (idx17 which) := by kernel_rfl
theorem formb1 (which : Int) : fixT tab5 4000 3 2 6 37 1 [.int .i64 which] = some (idx17 which) := by kernel_rfl
theorem formb2 (which : Int) : fixT tab5 4000 3 2 6 37 2 [.int .i64 which] = some (idx17 which) := by kernel_rfl
theorem formb3 (which : Int) : fixT tab5 4000 3 2 6 37 3 [.int .i64 which] = some (idx17 which) := by kernel_rfl
theorem formb4 (which : Int) : fixT tab5 4000 3 2 6 37 4 [.int .i64 which] = some (idx17 which) := by kernel_rfl
theorem formb5 (which : Int) : fixT tab5 4000 3 2 6 37 5 [.int .i64 which] = some (idx17 which) := by kernel_rfl
end Go.Proofs.Bi
