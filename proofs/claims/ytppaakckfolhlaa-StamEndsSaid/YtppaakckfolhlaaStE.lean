import Derived.Test.YtppaakckfolhlaaStD
/-! Sort and Compact of nil. -/
namespace Go.Proofs.Stam
open Go Go.Sx
set_option maxRecDepth 100000

theorem insertion_nil : Sx.Fn Try.prog 22 [.nils, .int .i64 0, .int .i64 0] [] (fun d _ => d = .tup []) := by
  refine fn_at (md := md) (body := body22) Try.func22 (by kernel_rfl) (by kernel_rfl) (by kernel_rfl) follows draw22 ?_
  intro L hL Q' hQ
  have e1 : L .arith .add .i64 0 1 = 1 := by
    simp [hL, std, arithF]; rw [wrap64 (by omega) (by omega)]
  cbv
  refine loop_j [0,1,2,6] [] Try.f22.ntmps (fun _ : Unit => [(0, .nils), (1, .int .i64 0), (2, .int .i64 0), (6, .int .i64 1)]) (fun _ => []) (fun _ => True) (fun _ => 0) () trivial ?_ ?_
  · cbv
    exact ⟨⟨by rw [e1], trivial⟩, trivial⟩
  rintro ⟨⟩ -
  cbv
  refine brI hL (fun h => ?_) (fun h => ?_)
  · exfalso; simp [hL, std, cmpF] at h
  cbv
  exact hQ _ _ rfl

theorem pdq_nil (li : Int) : Sx.Fn Try.prog 20 [.nils, .int .i64 0, .int .i64 0, .int .i64 li] [] (fun d _ => d = .tup []) := by
  refine fn_at (md := md) (body := body20) Try.func20 (by kernel_rfl) (by kernel_rfl) (by kernel_rfl) follows draw20 ?_
  intro L hL Q' hQ
  cbv
  refine loop_j [0,1,2,3,8,9] [] Try.f20.ntmps (fun _ : Unit => [(0, .nils), (1, .int .i64 0), (2, .int .i64 0), (3, .int .i64 li), (8, .tt), (9, .tt)]) (fun _ => []) (fun _ => True) (fun _ => 0) () trivial ?_ ?_
  · cbv
  rintro ⟨⟩ -
  cbv
  refine brI hL (fun _ => ?_) (fun h => ?_)
  case refine_2 =>
    exfalso
    simp [hL, std, arithF, cmpF] at h
    rw [wrap64 (by omega) (by omega)] at h
    omega
  cbv
  refine refsI hL insertion_nil rfl rfl ?_
  rintro d rs rfl
  cbv
  exact hQ _ _ rfl

theorem sort_nil : Sx.Fn Try.prog 16 [.nils] [] (fun d _ => d = .tup []) := by
  refine fn_at (md := md) (body := body16) Try.func16 (by kernel_rfl) (by kernel_rfl) (by kernel_rfl) follows draw16 ?_
  intro L hL Q' hQ
  have hb : 0 ≤ L .wrap .u64 0 ∧ L .wrap .u64 0 ≤ 12 := by
    simp only [hL, std]
    rw [wrapU64 (by omega) (by omega)]; omega
  cbv
  refine lendI hL (len_fn _ hb) rfl ?_
  rintro d rs ⟨k, rfl⟩
  refine ⟨rfl, ?_⟩
  cbv
  refine refsI hL (pdq_nil k) rfl rfl ?_
  rintro d rs rfl
  cbv
  exact hQ _ _ rfl

theorem compact_nil : Sx.Fn Try.prog 17 [.nils] [] (fun d _ => d = .nils) := by
  refine fn_at (md := md) (body := body17) Try.func17 (by kernel_rfl) (by kernel_rfl) (by kernel_rfl) follows draw17 ?_
  intro L hL Q' hQ
  cbv
  refine brI hL (fun _ => ?_) (fun h => ?_)
  · cbv
    exact hQ _ _ rfl
  · exfalso; simp [hL, std, cmpF] at h
end Go.Proofs.Stam
