import Derived.Test.YtppaakckfolhlaaStB
/-! slices.Sort of a few whole numbers. -/
namespace Go.Proofs.Stam
open Go Go.Sx
set_option maxRecDepth 100000

theorem pdq_fn (n : Nat) (g0 : Nat → Int) (bi li : Int) (hbi : IsN bi n) (hn : n ≤ 12) :
    Sx.Fn Try.prog 20 [.ref 100000 0 n, .int .i64 0, .int .i64 bi, .int .i64 li] [.arr 1 n (ints g0)] (fun d rs => d = .tup [] ∧ ∃ g, rs = [.arr 1 n (ints g)] ∧ SortedI g 0 n ∧ ∀ x, cntI g x n = cntI g0 x n) := by
  refine fn_at (md := md) (body := body20) Try.func20 (by kernel_rfl) (by kernel_rfl) (by kernel_rfl) follows draw20 ?_
  intro L hL Q' hQ
  cbv
  refine loop_j [0,1,2,3,8,9] [100000] Try.f20.ntmps (fun _ : Unit => [(0, .ref 100000 0 n), (1, .int .i64 0), (2, .int .i64 bi), (3, .int .i64 li), (8, .tt), (9, .tt)]) (fun _ => [(100000, .arr 1 n (ints g0))]) (fun _ => True) (fun _ => 0) () trivial ?_ ?_
  · cbv
  rintro ⟨⟩ -
  cbv
  refine brI hL (fun _ => ?_) (fun h => ?_)
  case refine_2 =>
    exfalso
    have e := hbi.out
    simp [hL, std, arithF, cmpF] at h
    rw [wrap64 (by omega) (by omega)] at h
    omega
  cbv
  refine refsI hL (insertion_fn n g0 0 n 0 bi (by exact rfl) hbi (by omega) (by omega) (by omega)) rfl rfl ?_
  rintro d rs ⟨rfl, g, rfl, hs, hc, _⟩
  cbv
  refine hQ _ _ ?_
  cbv
  exact ⟨g, rfl, hs, hc⟩

theorem wrapU8 {x : Int} (h1 : 0 ≤ x) (h2 : x ≤ 255) : IntKind.u8.wrap x = x := by
  simp [IntKind.wrap, IntKind.signed, IntKind.bits]; omega
theorem wrapU64 {x : Int} (h1 : 0 ≤ x) (h2 : x ≤ 9223372036854775807) : IntKind.u64.wrap x = x := by
  simp [IntKind.wrap, IntKind.signed, IntKind.bits]; omega
theorem len64_fn (x : Int) (hx : 0 ≤ x ∧ x ≤ 12) : Sx.Fn Try.prog 32 [.int .u64 x] [] (fun d _ => ∃ k, d = .int .i64 k) := by
  refine fn_at (md := md) (body := body32) Try.func32 (by kernel_rfl) (by kernel_rfl) (by kernel_rfl) follows draw32 ?_
  intro L hL Q' hQ
  cbv
  refine brI hL (fun h => ?_) (fun h => ?_)
  · exfalso; simp [hL, std, cmpF] at h; omega
  cbv
  refine brI hL (fun h => ?_) (fun h => ?_)
  · exfalso; simp [hL, std, cmpF] at h; omega
  cbv
  refine brI hL (fun h => ?_) (fun h => ?_)
  · exfalso; simp [hL, std, cmpF] at h; omega
  cbv
  refine ⟨?_, hQ _ _ ⟨_, rfl⟩⟩
  rw [hL, hL, hL]
  show 0 ≤ IntKind.u8.wrap x ∧ IntKind.u8.wrap x < ((256 : Nat) : Int)
  rw [wrapU8 hx.1 (by omega)]
  omega

theorem len_fn (x : Int) (hx : 0 ≤ x ∧ x ≤ 12) : Sx.Fn Try.prog 21 [.int .u64 x] [] (fun d _ => ∃ k, d = .int .i64 k) := by
  refine fn_at (md := md) (body := body21) Try.func21 (by kernel_rfl) (by kernel_rfl) (by kernel_rfl) follows draw21 ?_
  intro L hL Q' hQ
  cbv
  refine lendI hL (len64_fn x hx) rfl ?_
  rintro d rs ⟨k, rfl⟩
  refine ⟨rfl, ?_⟩
  cbv
  exact hQ _ _ ⟨_, rfl⟩
theorem sort_fn (n : Nat) (g0 : Nat → Int) (hn : n ≤ 12) :
    Sx.Fn Try.prog 16 [.ref 100000 0 n] [.arr 1 n (ints g0)] (fun d rs => d = .tup [] ∧ ∃ g, rs = [.arr 1 n (ints g)] ∧ SortedI g 0 n ∧ ∀ x, cntI g x n = cntI g0 x n) := by
  refine fn_at (md := md) (body := body16) Try.func16 (by kernel_rfl) (by kernel_rfl) (by kernel_rfl) follows draw16 ?_
  intro L hL Q' hQ
  cbv
  have hb : 0 ≤ L .wrap .u64 (L .ofNat n) ∧ L .wrap .u64 (L .ofNat n) ≤ 12 := by
    simp only [hL, std]
    rw [wrapU64 (by omega) (by omega)]; omega
  refine lendI hL (len_fn _ hb) rfl ?_
  rintro d rs ⟨k, rfl⟩
  refine ⟨rfl, ?_⟩
  cbv
  refine refsI hL (pdq_fn n g0 (L .ofNat n) k (by simp [IsN, hL, std]) hn) rfl rfl ?_
  rintro d rs ⟨rfl, g, rfl, hs, hc⟩
  cbv
  refine hQ _ _ ?_
  cbv
  exact ⟨g, rfl, hs, hc⟩
end Go.Proofs.Stam
