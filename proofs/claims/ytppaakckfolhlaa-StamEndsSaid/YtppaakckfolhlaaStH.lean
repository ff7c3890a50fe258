import Derived.Test.YtppaakckfolhlaaStG
/-! Stamp, Txns. -/
namespace Go.Proofs.Stam
open Go Go.Sx
set_option maxRecDepth 100000

theorem stamp_fn (n : Int) : Sx.Fn Try.prog 5 [.int .i64 n] [] (fun d _ => ∃ x a, d = .agg [.int .i64 x, .int .i64 a]) := by
  refine fn_at (md := md) (body := body5) Try.func5 (by kernel_rfl) (by kernel_rfl) (by kernel_rfl) follows draw5 ?_
  intro L hL Q' hQ
  have e1 : L .okOp .shr 1 := by simp [hL, std]
  have e6 : L .okOp .rem 6 := by simp [hL, std]
  cbv
  refine brI hL (fun _ => ?_) (fun _ => ?_)
  · cbv
    exact ⟨e1, hQ _ _ ⟨_, _, rfl⟩⟩
  · cbv
    exact ⟨e1, e6, hQ _ _ ⟨_, _, rfl⟩⟩

theorem appFF_txs (n : Nat) (f : Nat → Tx) (t : Tx) : appFF n (txs f) (fun _ => .agg [.int .i64 t.id, .int .i64 t.state, .int .i64 t.beg, .int .i64 t.fin]) = txs (fun i => if i < n then f i else t) := by
  funext i
  simp only [appFF, txs]
  split <;> rfl
theorem txns_fn (n : Nat) (g : Nat → Int) (t : Bool) : Sx.Fn Try.prog 4 [.lst 1 t n (ints g)] [] (fun d _ => ∃ k f, d = .own 4 k (txs f) ∧ k ≤ 5 ∧ ∀ i j, i < j → j < k → (f i).id < (f j).id) := by
  refine fn_at (md := md) (body := body4) Try.func4 (by kernel_rfl) (by kernel_rfl) (by kernel_rfl) follows draw4 ?_
  intro L hL Q' hQ
  have tn : ∀ k, L .toNat (L .ofNat k) = k := fun k => by simp [hL, std]
  have o3 : L .okOp .shr 3 := by simp [hL, std]
  have o5 : L .okOp .shr 5 := by simp [hL, std]
  have o8 : L .okOp .shr 8 := by simp [hL, std]
  cbv
  refine loop_n [0,3,4] [55] [(3, 55, 4, txs fun _ => noTx)] Try.f4.ntmps (fun p : Nat × Nat × (Nat → Tx) => [(0, .lst 1 t n (ints g)), (3, .ref 55 0 p.2.1), (4, .int .i64 (L .ofNat p.1))]) (fun p => [(55, .arr 4 p.2.1 (txs p.2.2))])
    (fun p => p.1 ≤ 5 ∧ p.1 ≤ n ∧ p.2.1 ≤ p.1 ∧ (∀ i j, i < j → j < p.2.1 → (p.2.2 i).id < (p.2.2 j).id) ∧ ∀ j, j < p.2.1 → ∃ m, IsN (p.2.2 j).id m ∧ m ≤ p.1) (fun p => 5 - p.1) (0, 0, fun _ => noTx) ?_ ?_ ?_
  · refine ⟨by decide, Nat.zero_le _, Nat.le_refl _, fun i j h1 h2 => absurd h2 (Nat.not_lt_zero _), fun j h2 => absurd h2 (Nat.not_lt_zero _)⟩
  · cbv
    exact ⟨⟨by simp [hL, std], trivial⟩, trivial⟩
  rintro ⟨i, k, f⟩ ⟨h1, h2, h3, h4, h5⟩
  dsimp only at h1 h2 h3 h4 h5 ⊢
  cbv
  refine brI hL (fun hlt => ?_) (fun hge => ?_)
  case refine_2 =>
    cbv
    exact hQ _ _ ⟨k, f, rfl, by omega, h4⟩
  simp [hL, std, cmpF] at hlt
  have hlt' : i < n := by omega
  clear hlt
  cbv
  refine brI hL (fun hlt => ?_) (fun hge => ?_)
  case refine_2 =>
    cbv
    exact hQ _ _ ⟨k, f, rfl, by omega, h4⟩
  simp [hL, std, cmpF] at hlt
  have hlt5 : i < 5 := by omega
  clear hlt
  have inc : L .arith .add .i64 (L .ofNat i) 1 = L .ofNat (i + 1) := by
    simp [hL, std, arithF]
    rw [wrap64 (by omega) (by omega)]
  have inb : L .inb (L .ofNat i) n := by simp [hL, std]; omega
  have room : L .room (k + 1) 32 := by simp [hL, std]; omega
  have sh0 : ∀ f : Nat → DV, shift 0 f = f := fun _ => rfl
  have nk : L .nadd k 1 = k + 1 := by simp [hL, std]
  have hid : IsN (L .ofNat (i + 1)) (i + 1) := by simp [IsN, hL, std]
  cbv
  simp only [tn]
  refine ⟨inb, brI hL (fun _ => ?_) (fun _ => ?_)⟩
  · cbv
    refine ⟨(i + 1, k, f), ?_, ⟨?_, ?_, ?_, h4, fun j hj => ?_⟩, ?_⟩
    · dsimp only; omega
    · dsimp only; omega
    · dsimp only; omega
    · dsimp only; omega
    · obtain ⟨m, a, b⟩ := h5 j hj
      exact ⟨m, a, by dsimp only; omega⟩
    · cbv
      rw [inc]; trivial
  cbv
  simp only [tn, inc]
  refine ⟨inb, o3, inb, o5, brI hL (fun _ => ?_) (fun _ => ?_)⟩
  all_goals
    cbv
    simp only [tn, sh0, nk]
    first | refine ⟨inb, o8, ?_⟩ | skip
    refine ⟨room, (i + 1, k + 1, ?_), ?_, ?_, ?_⟩
    rotate_left 3
    · cbv
      rw [inc]
      refine ⟨⟨rfl, trivial⟩, ?_, trivial⟩
      rw [hL]
      exact appFF_txs k f ⟨_, _, _, _⟩
    · dsimp only; omega
    · refine ⟨by dsimp only; omega, by dsimp only; omega, by dsimp only; omega, fun a b hab hb => ?_, fun j hj => ?_⟩
      · dsimp only at hb ⊢
        by_cases hbk : b < k
        · rw [if_pos (by omega), if_pos hbk]; exact h4 a b hab hbk
        · rw [if_pos (by omega), if_neg hbk]
          obtain ⟨m, e, hm⟩ := h5 a (by omega)
          have e1 := e.out
          have e2 := hid.out
          dsimp only
          omega
      · dsimp only at hj ⊢
        by_cases hjk : j < k
        · rw [if_pos hjk]
          obtain ⟨m, e, hm⟩ := h5 j hjk
          exact ⟨m, e, by omega⟩
        · rw [if_neg hjk]
          exact ⟨i + 1, hid, Nat.le_refl _⟩
end Go.Proofs.Stam
