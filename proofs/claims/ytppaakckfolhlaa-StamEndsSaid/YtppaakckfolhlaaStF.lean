import Derived.Test.YtppaakckfolhlaaStE
/-! Compact of one number and of two. -/
namespace Go.Proofs.Stam
open Go Go.Sx
set_option maxRecDepth 100000

theorem compact_one (f : Nat → DV) : Sx.Fn Try.prog 17 [.ref 100000 0 1] [.arr 1 1 f] (fun d rs => d = .ref 100000 0 1 ∧ rs = [.arr 1 1 f]) := by
  refine fn_at (md := md) (body := body17) Try.func17 (by kernel_rfl) (by kernel_rfl) (by kernel_rfl) follows draw17 ?_
  intro L hL Q' hQ
  cbv
  refine brI hL (fun _ => ?_) (fun h => ?_)
  · cbv
    exact hQ _ _ ⟨rfl, rfl⟩
  · exfalso; simp [hL, std, cmpF] at h

theorem compact_two (g : Nat → Int) : Sx.Fn Try.prog 17 [.ref 100000 0 2] [.arr 1 2 (ints g)] (fun d rs => ∃ h, rs = [.arr 1 2 (ints h)] ∧ h 0 = g 0 ∧ ((g 1 = g 0 ∧ d = .ref 100000 0 1) ∨ (g 1 ≠ g 0 ∧ d = .ref 100000 0 2 ∧ h = g))) := by
  refine fn_at (md := md) (body := body17) Try.func17 (by kernel_rfl) (by kernel_rfl) (by kernel_rfl) follows draw17 ?_
  intro L hL Q' hQ
  have e1 : L .arith .sub .i64 1 1 = 0 := by simp [hL, std, arithF]; rw [wrap64 (by omega) (by omega)]
  have e2 : L .arith .add .i64 1 1 = 2 := by simp [hL, std, arithF]; rw [wrap64 (by omega) (by omega)]
  have t0 : L .toNat 0 = 0 := by simp [hL, std]
  have t1 : L .toNat 1 = 1 := by simp [hL, std]
  cbv
  refine brI hL (fun h => ?_) (fun _ => ?_)
  · exfalso; simp [hL, std, cmpF] at h
  cbv
  refine loop_j [0,3] [100000] Try.f17.ntmps (fun k : Bool => [(0, .ref 100000 0 2), (3, .int .i64 (if k then 2 else 1))]) (fun _ => [(100000, .arr 1 2 (ints g))]) (fun k => k = true → g 1 ≠ g 0) (fun k => if k then 0 else 1) false ?_ ?_ ?_
  · exact fun h => by cases h
  · cbv
  intro k hk
  cases k with
  | true =>
    cbv
    refine brI hL (fun h => ?_) (fun _ => ?_)
    · exfalso; simp [hL, std, cmpF] at h
    cbv
    refine hQ _ _ ?_
    exact ⟨g, rfl, rfl, .inr ⟨hk rfl, rfl, rfl⟩⟩
  | false =>
    cbv
    refine brI hL (fun _ => ?_) (fun h => ?_)
    case refine_2 => exfalso; simp [hL, std, cmpF] at h
    cbv
    simp only [e1, t0, t1]
    refine ⟨by simp [hL, std], by simp [hL, std], brI hL (fun heq => ?_) (fun hne => ?_)⟩
    case refine_2 =>
      have hne' : g 1 ≠ g 0 := by simpa [hL, std, cmpF] using hne
      clear hne
      cbv
      refine ⟨true, Nat.zero_lt_one, fun _ => hne', ?_⟩
      cbv
      rw [e2]; exact ⟨⟨rfl, trivial⟩, trivial⟩
    have heq' : g 1 = g 0 := by simpa [hL, std, cmpF] using heq
    clear heq
    cbv
    simp only [t1]
    refine ⟨⟨by simp [hL, std], by simp [hL, std, orN], trivial⟩, ?_⟩
    refine loop_j [0,3,4,5] [100000] Try.f17.ntmps (fun _ : Unit => [(0, .ref 100000 0 2), (3, .int .i64 1), (4, .ref 100000 1 1), (5, .int .i64 1)]) (fun _ => [(100000, .arr 1 2 (ints g))]) (fun _ => True) (fun _ => 0) () trivial ?_ ?_
    · cbv
      exact ⟨⟨by simp [hL, std, orN], trivial⟩, trivial⟩
    rintro ⟨⟩ -
    cbv
    refine brI hL (fun h => ?_) (fun _ => ?_)
    · exfalso; simp [hL, std, cmpF] at h
    cbv
    simp only [t1]
    have hclr : L .clrF (L .nadd 0 1) (L .nsub (orN none 2) 1) (.int .i64 0) (ints g) = ints (updI g 1 0) := by
      funext i
      simp only [hL, std, orN, clrFF, ints, updI]
      by_cases hi : i = 1
      · subst hi; rfl
      · rw [if_neg (by omega), if_neg hi]
    refine ⟨⟨by simp [hL, std], by simp [hL, std, orN], trivial⟩, ⟨by simp [hL, std], by simp [hL, std, orN], trivial⟩, ?_⟩
    simp only [hclr]
    exact hQ _ _ ⟨updI g 1 0, rfl, rfl, .inl ⟨heq', rfl⟩⟩
end Go.Proofs.Stam
