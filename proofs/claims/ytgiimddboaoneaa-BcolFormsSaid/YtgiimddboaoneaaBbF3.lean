import Derived.Test.YtgiimddboaoneaaBbF1
/-! BcolForms, row by row. -/
namespace Go.Proofs.Bi
open Go Go.Sx
set_option maxRecDepth 100000
theorem formb6 (which : Int) : fixT tab5 4000 3 2 6 37 6 [.int .i64 which] = some (idx17 which) := by kernel_rfl
theorem formb7 (which : Int) : fixT tab5 4000 3 2 6 37 7 [.int .i64 which] = some (idx17 which) := by kernel_rfl
theorem formb8 (which : Int) : fixT tab5 4000 3 2 6 37 8 [.int .i64 which] = some (idx17 which) := by kernel_rfl
theorem formb9 (which : Int) : fixT tab5 4000 3 2 6 37 9 [.int .i64 which] = some (idx17 which) := by kernel_rfl
theorem formb10 (which : Int) : fixT tab5 4000 3 2 6 37 10 [.int .i64 which] = some (idx17 which) := by kernel_rfl
theorem formb11 (which : Int) : fixT tab5 4000 3 2 6 37 11 [.int .i64 which] = some (idx17 which) := by kernel_rfl
end Go.Proofs.Bi
