import Derived.Test.YtgiimddboaoneaaBbF2
import Derived.Test.YtgiimddboaoneaaBbF3
import Derived.Test.YtgiimddboaoneaaBbF4
import Derived.Test.YtgiimddboaoneaaBiN
/-! BcolForms. -/
namespace Go.Proofs.Bi
open Go Go.Sx
set_option maxRecDepth 100000
theorem idx17_in (x : Int) : 0 ≤ idx17 x ∧ idx17 x < 17 := by
  have h := and_le x 255 (by decide)
  unfold idx17
  show 0 ≤ (arithF .and .i64 x 255).tmod 17 ∧ (arithF .and .i64 x 255).tmod 17 < 17
  have h' : 0 ≤ arithF .and .i64 x 255 := h.1
  rw [Int.tmod_eq_emod_of_nonneg h']
  omega
theorem forms_b (which : Int) : Sx.Fn Try.prog 3 [.int .i64 which] [] fun d _ => d = .bool true := by
  have h := idx17_in which
  have hc : idx17 which = 0 ∨ idx17 which = 1 ∨ idx17 which = 2 ∨ idx17 which = 3 ∨ idx17 which = 4 ∨ idx17 which = 5 ∨ idx17 which = 6 ∨ idx17 which = 7 ∨ idx17 which = 8 ∨ idx17 which = 9 ∨ idx17 which = 10 ∨ idx17 which = 11 ∨ idx17 which = 12 ∨ idx17 which = 13 ∨ idx17 which = 14 ∨ idx17 which = 15 ∨ idx17 which = 16 := by omega
  rcases hc with h | h | h | h | h | h | h | h | h | h | h | h | h | h | h | h | h
  · exact fn_fix follows tab5_is 4000 h (formb0 which)
  · exact fn_fix follows tab5_is 4000 h (formb1 which)
  · exact fn_fix follows tab5_is 4000 h (formb2 which)
  · exact fn_fix follows tab5_is 4000 h (formb3 which)
  · exact fn_fix follows tab5_is 4000 h (formb4 which)
  · exact fn_fix follows tab5_is 4000 h (formb5 which)
  · exact fn_fix follows tab5_is 4000 h (formb6 which)
  · exact fn_fix follows tab5_is 4000 h (formb7 which)
  · exact fn_fix follows tab5_is 4000 h (formb8 which)
  · exact fn_fix follows tab5_is 4000 h (formb9 which)
  · exact fn_fix follows tab5_is 4000 h (formb10 which)
  · exact fn_fix follows tab5_is 4000 h (formb11 which)
  · exact fn_fix follows tab5_is 4000 h (formb12 which)
  · exact fn_fix follows tab5_is 4000 h (formb13 which)
  · exact fn_fix follows tab5_is 4000 h (formb14 which)
  · exact fn_fix follows tab5_is 4000 h (formb15 which)
  · exact fn_fix follows tab5_is 4000 h (formb16 which)
end Go.Proofs.Bi
