import Derived.Test.YtgiimddboaoneaaSxD
/-! Numbers. -/
namespace Go.Proofs.Bi
open Go Go.Sx
theorem and_le (x : Int) (m : Nat) (hm : m < 9223372036854775808) : 0 ≤ arithF .and .i64 x (m : Int) ∧ arithF .and .i64 x (m : Int) ≤ m := by
  have h1 : ((BitVec.ofInt 64 x) &&& (BitVec.ofInt 64 (m : Int))).toNat ≤ m := by
    rw [BitVec.toNat_and]
    refine Nat.le_trans Nat.and_le_right ?_
    rw [BitVec.toNat_ofInt]
    omega
  show 0 ≤ IntKind.i64.wrap ((((BitVec.ofInt 64 x) &&& (BitVec.ofInt 64 (m : Int))).toNat : Nat) : Int) ∧ IntKind.i64.wrap ((((BitVec.ofInt 64 x) &&& (BitVec.ofInt 64 (m : Int))).toNat : Nat) : Int) ≤ m
  rw [wrap_i64 (by omega) (by omega)]
  omega
end Go.Proofs.Bi
