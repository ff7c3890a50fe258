import Derived.Test.YtgiimddboaoneaaBbF1
/-! BcolForms, row by row. -/
namespace Go.Proofs.Bi
open Go Go.Sx
set_option maxRecDepth 100000
theorem formb12 (which : Int) : fixT tab5 4000 3 2 6 37 12 [.int .i64 which] = some (idx17 which) := by kernel_rfl
theorem formb13 (which : Int) : fixT tab5 4000 3 2 6 37 13 [.int .i64 which] = some (idx17 which) := by kernel_rfl
theorem formb14 (which : Int) : fixT tab5 4000 3 2 6 37 14 [.int .i64 which] = some (idx17 which) := by kernel_rfl
theorem formb15 (which : Int) : fixT tab5 4000 3 2 6 37 15 [.int .i64 which] = some (idx17 which) := by kernel_rfl
theorem formb16 (which : Int) : fixT tab5 4000 3 2 6 37 16 [.int .i64 which] = some (idx17 which) := by kernel_rfl
end Go.Proofs.Bi
