import Derived.Test.YtgiimddboaoneaaBiF2
import Derived.Test.YtgiimddboaoneaaBiF3
import Derived.Test.YtgiimddboaoneaaBiF4
/-! IcolForms. -/
namespace Go.Proofs.Bi
open Go Go.Sx
set_option maxRecDepth 100000
theorem and_le (x : Int) (m : Nat) (hm : m < 9223372036854775808) : 0 ≤ arithF .and .i64 x (m : Int) ∧ arithF .and .i64 x (m : Int) ≤ m := by
  have h1 : ((BitVec.ofInt 64 x) &&& (BitVec.ofInt 64 (m : Int))).toNat ≤ m := by
    rw [BitVec.toNat_and]
    refine Nat.le_trans Nat.and_le_right ?_
    rw [BitVec.toNat_ofInt]
    omega
  show 0 ≤ IntKind.i64.wrap ((((BitVec.ofInt 64 x) &&& (BitVec.ofInt 64 (m : Int))).toNat : Nat) : Int) ∧ IntKind.i64.wrap ((((BitVec.ofInt 64 x) &&& (BitVec.ofInt 64 (m : Int))).toNat : Nat) : Int) ≤ m
  rw [wrap_i64 (by omega) (by omega)]
  omega
theorem idx23_in (x : Int) : 0 ≤ idx23 x ∧ idx23 x < 23 := by
  have h := and_le x 255 (by decide)
  unfold idx23
  show 0 ≤ (arithF .and .i64 x 255).tmod 23 ∧ (arithF .and .i64 x 255).tmod 23 < 23
  have h' : 0 ≤ arithF .and .i64 x 255 := h.1
  rw [Int.tmod_eq_emod_of_nonneg h']
  omega
theorem forms_i (which : Int) : Sx.Fn Try.prog 8 [.int .i64 which] [] fun d _ => d = .bool true := by
  have h := idx23_in which
  have hc : idx23 which = 0 ∨ idx23 which = 1 ∨ idx23 which = 2 ∨ idx23 which = 3 ∨ idx23 which = 4 ∨ idx23 which = 5 ∨ idx23 which = 6 ∨ idx23 which = 7 ∨ idx23 which = 8 ∨ idx23 which = 9 ∨ idx23 which = 10 ∨ idx23 which = 11 ∨ idx23 which = 12 ∨ idx23 which = 13 ∨ idx23 which = 14 ∨ idx23 which = 15 ∨ idx23 which = 16 ∨ idx23 which = 17 ∨ idx23 which = 18 ∨ idx23 which = 19 ∨ idx23 which = 20 ∨ idx23 which = 21 ∨ idx23 which = 22 := by omega
  rcases hc with h | h | h | h | h | h | h | h | h | h | h | h | h | h | h | h | h | h | h | h | h | h | h
  · exact fn_fix follows tab4_is 4000 h (form0 which)
  · exact fn_fix follows tab4_is 4000 h (form1 which)
  · exact fn_fix follows tab4_is 4000 h (form2 which)
  · exact fn_fix follows tab4_is 4000 h (form3 which)
  · exact fn_fix follows tab4_is 4000 h (form4 which)
  · exact fn_fix follows tab4_is 4000 h (form5 which)
  · exact fn_fix follows tab4_is 4000 h (form6 which)
  · exact fn_fix follows tab4_is 4000 h (form7 which)
  · exact fn_fix follows tab4_is 4000 h (form8 which)
  · exact fn_fix follows tab4_is 4000 h (form9 which)
  · exact fn_fix follows tab4_is 4000 h (form10 which)
  · exact fn_fix follows tab4_is 4000 h (form11 which)
  · exact fn_fix follows tab4_is 4000 h (form12 which)
  · exact fn_fix follows tab4_is 4000 h (form13 which)
  · exact fn_fix follows tab4_is 4000 h (form14 which)
  · exact fn_fix follows tab4_is 4000 h (form15 which)
  · exact fn_fix follows tab4_is 4000 h (form16 which)
  · exact fn_fix follows tab4_is 4000 h (form17 which)
  · exact fn_fix follows tab4_is 4000 h (form18 which)
  · exact fn_fix follows tab4_is 4000 h (form19 which)
  · exact fn_fix follows tab4_is 4000 h (form20 which)
  · exact fn_fix follows tab4_is 4000 h (form21 which)
  · exact fn_fix follows tab4_is 4000 h (form22 which)
end Go.Proofs.Bi
