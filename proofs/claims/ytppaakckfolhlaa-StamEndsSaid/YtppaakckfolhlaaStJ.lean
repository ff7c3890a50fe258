import Derived.Test.YtppaakckfolhlaaStI
import Derived.Test.YtppaakckfolhlaaStR
/-! StamEnds. -/
namespace Go.Proofs.Stam
open Go Go.Sx
set_option maxRecDepth 100000

theorem awake_fn : Sx.Fn Try.prog 7 [] [] (fun d _ => d = .bool true) := by
  have h := awake_run
  unfold isTrue at h
  split at h
  · rename_i e
    refine (fn_run follows tab_is 2000 e).mono ?_
    rintro d rs ⟨rfl, rfl⟩
    rfl
  · cases h
theorem lend_ints (m : Nat) (g : Nat → Int) : lendOk1 (.own 1 m (ints g)) := by
  intro i _ j hj
  obtain rfl : j = 0 := by omega
  rfl
/-- At a round of the outer loop: the times, the transactions, the span, what was seen, on whom it hangs, how many, the place. -/
def tmE (L : Leafs) (k m : Nat) (a : Int) (r : Bool) (i : Nat) : List (Nat × DV) := [(2, .int .i64 a), (7, .ref 17 0 k), (8, .rptr 8 0 0), (9, .bool r), (10, .ref 2036 0 m), (40, .int .i64 (L .ofNat k)), (41, .int .i64 (L .ofNat i))]
def stE (bx ba ex ea : Int) (k m : Nat) (f : Nat → Tx) (g : Nat → Int) : Store := [(8, .box 4 (.agg [.int .i64 bx, .int .i64 ba, .int .i64 ex, .int .i64 ea])), (17, .arr 4 k (txs f)), (2036, .arr 1 m (ints g))]
/-- At a round of the inner loop. -/
def tmI (L : Leafs) (k m : Nat) (a : Int) (r : Bool) (i q : Nat) : List (Nat × DV) := [(2, .int .i64 a), (7, .ref 17 0 k), (8, .rptr 8 0 0), (9, .bool r), (10, .ref 2036 0 m), (11, .int .i64 (L .ofNat i)), (40, .int .i64 (L .ofNat k)), (41, .int .i64 (L .ofNat i)), (44, .ref 2036 0 m), (45, .int .i64 (L .ofNat m)), (46, .int .i64 (L .ofNat q))]
theorem turned_none (f : Nat → Tx) (g : Nat → Int) (m : Nat) : f = turned f g m 0 0 := by
  funext j
  simp [turned, hit]
theorem turned_miss {f : Nat → Tx} {g : Nat → Int} {m i q : Nat} (h : (f i).id ≠ g q) : turned f g m i q = turned f g m i (q + 1) := by
  funext j
  simp only [turned, hit]
  by_cases hj : j = i
  · subst hj
    have : ¬ g q = (f j).id := fun e => h e.symm
    simp [this]
  · simp [hj]
theorem turned_hit {f : Nat → Tx} {g : Nat → Int} {m i q : Nat} (h : (f i).id = g q) : setFF (txs (turned f g m i q)) i 1 [.int .i64 3] = txs (turned f g m i (q + 1)) := by
  funext j
  simp only [setFF, txs]
  by_cases hj : j = i
  · subst hj
    rw [if_pos rfl]
    have e : turned f g m j (q + 1) j = commit (f j) := by
      simp only [turned, hit, h]; simp
    have e2 : turned f g m j q j = commit (f j) ∨ turned f g m j q j = f j := by
      simp only [turned]; split
      · exact .inl rfl
      · exact .inr rfl
    rw [e]
    rcases e2 with e2 | e2 <;> (rw [e2]; rfl)
  · rw [if_neg hj]
    simp [turned, hit, hj]
theorem hang_facts {f : Nat → Tx} {k : Nat} {bx ba ex ea a : Int} {r : Bool} {m : Nat} {g : Nat → Int} {i q : Nat} (hinc : ∀ i j, i < j → j < k → (f i).id < (f j).id) (hl : LookIs f k bx ba ex ea a r m g) (hi : i < k) (hq : q < m) (h : (f i).id = g q) :
    turned f g m i q i = f i ∧ (f i).state = 2 ∧ (f i).fin ≤ a ∧ (bx = g q ∨ ex = g q) := by
  rcases hl with ⟨_, _, h3⟩ | ⟨_, _, h3⟩
  · omega
  have key : ∀ y, isH f k y a = true → g q = y → (f i).state = 2 ∧ (f i).fin ≤ a := by
    intro y hy e
    have hs := stateOf_at hinc hi
    rw [h, e] at hs
    simp only [isH] at hy
    split at hy
    · cases hy
    · rw [hs] at hy
      simp only [isAt, Bool.and_eq_true, beq_iff_eq, decide_eq_true_eq] at hy
      exact ⟨hy.2, hy.1.2⟩
  refine ⟨?_, ?_⟩
  · simp only [turned]
    rw [if_neg]
    intro hh
    simp only [Nat.lt_irrefl, decide_false, Bool.false_and, Bool.false_or, decide_true, Bool.true_and] at hh
    obtain ⟨p, h1, h2⟩ := hit_iff.1 hh
    exact h3.2.1 p q h1 hq (h2.trans h)
  · rcases h3.2.2.1 q hq with ⟨c, d⟩ | ⟨c, d⟩
    · obtain ⟨e1, e2⟩ := key bx c d
      exact ⟨e1, e2, .inl d.symm⟩
    · simp only [Bool.and_eq_true] at c
      obtain ⟨e1, e2⟩ := key ex c.1 d
      exact ⟨e1, e2, .inr d.symm⟩
theorem look_le {f : Nat → Tx} {k : Nat} {bx ba ex ea a : Int} {r : Bool} {m : Nat} {g : Nat → Int} (hl : LookIs f k bx ba ex ea a r m g) : m ≤ 2 := by
  rcases hl with ⟨_, _, h3⟩ | ⟨_, _, h3⟩
  · omega
  · exact h3.1
set_option maxHeartbeats 4000000 in
theorem ends_fn (n : Nat) (g : Nat → Int) (t : Bool) (v at0 : Int) : Sx.Fn Try.prog 3 [.lst 1 t n (ints g), .int .i64 v, .int .i64 at0] [] (fun d _ => d = .bool true) := by
  refine fn_at (md := md) (body := body3) Try.func3 (by kernel_rfl) (by kernel_rfl) (by kernel_rfl) follows draw3 ?_
  intro L hL Q' hQ
  have o8 : L .okOp .shr 8 := by simp [hL, std]
  have o16 : L .okOp .shr 16 := by simp [hL, std]
  have tn : ∀ k, L .toNat (L .ofNat k) = k := fun k => by simp [hL, std]
  cbv
  refine callI hL (txns_fn n g t) rfl ?_
  rintro d rs ⟨k, f, rfl, hk5, hinc⟩
  cbv
  refine callI hL (stamp_fn v) rfl ?_
  rintro d rs ⟨bx, ba, rfl⟩
  cbv
  refine ⟨o8, ?_⟩
  refine callI hL (stamp_fn _) rfl ?_
  rintro d rs ⟨ex, ea, rfl⟩
  cbv
  refine ⟨o16, ?_⟩
  obtain ⟨a, ha⟩ : ∃ a, a = L .arith .and .i64 at0 15 := ⟨_, rfl⟩
  rw [← ha]
  clear ha
  refine brI hL (fun _ => ?_) (fun _ => ?_)
  · cbv
    refine lendI hL (look_fn k f bx ba 0 0 a (by omega)) rfl ?_
    rintro d rs ⟨r, m, g, rfl, hl⟩
    refine ⟨⟨rfl, lend_ints m g, trivial⟩, ?_⟩
    have hm2 := look_le hl
    cbv
    refine loop_j [2,7,8,9,10,40,41] [8,17,2036] Try.f3.ntmps (tmE L k m a r) (fun i => stE bx ba 0 0 k m (turned f g m i 0) g) (fun i => i ≤ k) (fun i => k - i) 0 (Nat.zero_le _) ?_ ?_
    · rw [← turned_none]
      cbv
      exact ⟨⟨by simp [hL, std], trivial⟩, trivial⟩
    intro i hi
    obtain ⟨F, hF⟩ : ∃ F, F = turned f g m i 0 := ⟨_, rfl⟩
    rw [← hF]
    cbv
    refine brI hL (fun hlt => ?_) (fun hge => ?_)
    case refine_2 =>
      simp [hL, std, cmpF] at hge
      have hik : i = k := by omega
      clear hge
      subst hik
      cbv
      refine lendI hL (look_fn i F bx ba 0 0 a (by omega)) rfl ?_
      rintro d rs ⟨r', m', g', rfl, hl'⟩
      rw [hF] at hl'
      obtain ⟨rfl, rfl⟩ := again hinc hl hl'
      clear hl hl'
      refine ⟨⟨rfl, lend_ints _ _, trivial⟩, ?_⟩
      cbv
      refine brT hL (by simp [hL, std]) ?_
      cbv
      refine brT hL (by simp [hL, std, cmpF]) ?_
      cbv
      refine lendI hL awake_fn rfl ?_
      rintro d rs rfl
      refine ⟨rfl, ?_⟩
      cbv
      exact hQ _ _ rfl
    simp [hL, std, cmpF] at hlt
    have hik : i < k := by omega
    clear hlt
    cbv
    refine loop_j [2,7,8,9,10,11,40,41,44,45,46] [8,17,2036] Try.f3.ntmps (tmI L k m a r i) (fun q => stE bx ba 0 0 k m (turned f g m i q) g) (fun q => q ≤ m) (fun q => m - q) 0 (Nat.zero_le _) ?_ ?_
    · rw [← hF]
      cbv
      exact ⟨⟨by simp [hL, std], trivial⟩, trivial⟩
    clear hF F
    intro q hq
    obtain ⟨F, hF⟩ : ∃ F, F = turned f g m i q := ⟨_, rfl⟩
    rw [← hF]
    cbv
    refine brI hL (fun hlt => ?_) (fun hge => ?_)
    case refine_2 =>
      simp [hL, std, cmpF] at hge
      have hqm : q = m := by omega
      clear hge
      subst hqm
      have inc : L .arith .add .i64 (L .ofNat i) 1 = L .ofNat (i + 1) := by
        simp [hL, std, arithF]
        rw [wrap64 (by omega) (by omega)]
      rw [turned_next] at hF
      cbv
      refine ⟨i + 1, by omega, by omega, ?_⟩
      rw [← hF]
      cbv
      exact ⟨⟨by rw [inc], trivial⟩, trivial⟩
    simp [hL, std, cmpF] at hlt
    have hqm : q < m := by omega
    clear hlt
    have inc : L .arith .add .i64 (L .ofNat q) 1 = L .ofNat (q + 1) := by
      simp [hL, std, arithF]
      rw [wrap64 (by omega) (by omega)]
    have inq : L .inb (L .ofNat q) m := by simp [hL, std]; omega
    have ini : L .inb (L .ofNat i) k := by simp [hL, std]; omega
    have hid : (F i).id = (f i).id := by rw [hF]; simp only [turned]; split <;> rfl
    cbv
    simp only [tn]
    refine ⟨inq, ini, brI hL (fun hx => ?_) (fun hx => ?_)⟩
    case refine_2 =>
      have hne : (f i).id ≠ g q := by rw [← hid]; simpa [hL, std, cmpF] using hx
      rw [turned_miss hne] at hF
      clear hx hne
      cbv
      refine ⟨q + 1, by omega, by omega, ?_⟩
      rw [← hF]
      cbv
      exact ⟨⟨by rw [inc], trivial⟩, trivial⟩
    have hxq : (f i).id = g q := by rw [← hid]; simpa [hL, std, cmpF] using hx
    clear hx
    obtain ⟨hFi, hst, hfin, hor⟩ := hang_facts hinc hl hik hqm hxq
    rw [← hF] at hFi
    have e1 : L .cmp .neq (F i).state 2 = false := by rw [hFi, hst]; simp [hL, std, cmpF]
    have e2 : L .cmp .gtr (F i).fin a = false := by rw [hFi]; simp [hL, std, cmpF]; exact hfin
    have e3 : L .cmp .neq bx (g q) = true → L .cmp .neq 0 (g q) = false := by
      intro h
      simp [hL, std, cmpF] at h ⊢
      rcases hor with hor | hor
      · exact absurd hor h
      · exact hor
    obtain ⟨F', hF'⟩ : ∃ F', F' = turned f g m i (q + 1) := ⟨_, rfl⟩
    have hset : L .setF (txs F) i 1 [.int .i64 3] = txs F' := by
      rw [hL, hF, hF']; exact turned_hit hxq
    clear hor hfin hst hFi
    cbv
    simp only [tn]
    refine ⟨ini, brF hL e1 ?_⟩
    cbv
    simp only [tn]
    refine ⟨ini, brF hL e2 ?_⟩
    cbv
    refine brI hL (fun h4 => ?_) (fun _ => ?_)
    case' refine_1 =>
      cbv
      refine brF hL (e3 h4) ?_
    all_goals
      cbv
      simp only [tn]
      refine ⟨ini, q + 1, by omega, by omega, ?_⟩
      rw [← hF']
      cbv
      exact ⟨⟨by rw [inc], trivial⟩, hset, trivial⟩
  · cbv
    refine lendI hL (look_fn k f bx ba ex ea a (by omega)) rfl ?_
    rintro d rs ⟨r, m, g, rfl, hl⟩
    refine ⟨⟨rfl, lend_ints m g, trivial⟩, ?_⟩
    have hm2 := look_le hl
    cbv
    refine loop_j [2,7,8,9,10,40,41] [8,17,2036] Try.f3.ntmps (tmE L k m a r) (fun i => stE bx ba ex ea k m (turned f g m i 0) g) (fun i => i ≤ k) (fun i => k - i) 0 (Nat.zero_le _) ?_ ?_
    · rw [← turned_none]
      cbv
      exact ⟨⟨by simp [hL, std], trivial⟩, trivial⟩
    intro i hi
    obtain ⟨F, hF⟩ : ∃ F, F = turned f g m i 0 := ⟨_, rfl⟩
    rw [← hF]
    cbv
    refine brI hL (fun hlt => ?_) (fun hge => ?_)
    case refine_2 =>
      simp [hL, std, cmpF] at hge
      have hik : i = k := by omega
      clear hge
      subst hik
      cbv
      refine lendI hL (look_fn i F bx ba ex ea a (by omega)) rfl ?_
      rintro d rs ⟨r', m', g', rfl, hl'⟩
      rw [hF] at hl'
      obtain ⟨rfl, rfl⟩ := again hinc hl hl'
      clear hl hl'
      refine ⟨⟨rfl, lend_ints _ _, trivial⟩, ?_⟩
      cbv
      refine brT hL (by simp [hL, std]) ?_
      cbv
      refine brT hL (by simp [hL, std, cmpF]) ?_
      cbv
      refine lendI hL awake_fn rfl ?_
      rintro d rs rfl
      refine ⟨rfl, ?_⟩
      cbv
      exact hQ _ _ rfl
    simp [hL, std, cmpF] at hlt
    have hik : i < k := by omega
    clear hlt
    cbv
    refine loop_j [2,7,8,9,10,11,40,41,44,45,46] [8,17,2036] Try.f3.ntmps (tmI L k m a r i) (fun q => stE bx ba ex ea k m (turned f g m i q) g) (fun q => q ≤ m) (fun q => m - q) 0 (Nat.zero_le _) ?_ ?_
    · rw [← hF]
      cbv
      exact ⟨⟨by simp [hL, std], trivial⟩, trivial⟩
    clear hF F
    intro q hq
    obtain ⟨F, hF⟩ : ∃ F, F = turned f g m i q := ⟨_, rfl⟩
    rw [← hF]
    cbv
    refine brI hL (fun hlt => ?_) (fun hge => ?_)
    case refine_2 =>
      simp [hL, std, cmpF] at hge
      have hqm : q = m := by omega
      clear hge
      subst hqm
      have inc : L .arith .add .i64 (L .ofNat i) 1 = L .ofNat (i + 1) := by
        simp [hL, std, arithF]
        rw [wrap64 (by omega) (by omega)]
      rw [turned_next] at hF
      cbv
      refine ⟨i + 1, by omega, by omega, ?_⟩
      rw [← hF]
      cbv
      exact ⟨⟨by rw [inc], trivial⟩, trivial⟩
    simp [hL, std, cmpF] at hlt
    have hqm : q < m := by omega
    clear hlt
    have inc : L .arith .add .i64 (L .ofNat q) 1 = L .ofNat (q + 1) := by
      simp [hL, std, arithF]
      rw [wrap64 (by omega) (by omega)]
    have inq : L .inb (L .ofNat q) m := by simp [hL, std]; omega
    have ini : L .inb (L .ofNat i) k := by simp [hL, std]; omega
    have hid : (F i).id = (f i).id := by rw [hF]; simp only [turned]; split <;> rfl
    cbv
    simp only [tn]
    refine ⟨inq, ini, brI hL (fun hx => ?_) (fun hx => ?_)⟩
    case refine_2 =>
      have hne : (f i).id ≠ g q := by rw [← hid]; simpa [hL, std, cmpF] using hx
      rw [turned_miss hne] at hF
      clear hx hne
      cbv
      refine ⟨q + 1, by omega, by omega, ?_⟩
      rw [← hF]
      cbv
      exact ⟨⟨by rw [inc], trivial⟩, trivial⟩
    have hxq : (f i).id = g q := by rw [← hid]; simpa [hL, std, cmpF] using hx
    clear hx
    obtain ⟨hFi, hst, hfin, hor⟩ := hang_facts hinc hl hik hqm hxq
    rw [← hF] at hFi
    have e1 : L .cmp .neq (F i).state 2 = false := by rw [hFi, hst]; simp [hL, std, cmpF]
    have e2 : L .cmp .gtr (F i).fin a = false := by rw [hFi]; simp [hL, std, cmpF]; exact hfin
    have e3 : L .cmp .neq bx (g q) = true → L .cmp .neq ex (g q) = false := by
      intro h
      simp [hL, std, cmpF] at h ⊢
      rcases hor with hor | hor
      · exact absurd hor h
      · exact hor
    obtain ⟨F', hF'⟩ : ∃ F', F' = turned f g m i (q + 1) := ⟨_, rfl⟩
    have hset : L .setF (txs F) i 1 [.int .i64 3] = txs F' := by
      rw [hL, hF, hF']; exact turned_hit hxq
    clear hor hfin hst hFi
    cbv
    simp only [tn]
    refine ⟨ini, brF hL e1 ?_⟩
    cbv
    simp only [tn]
    refine ⟨ini, brF hL e2 ?_⟩
    cbv
    refine brI hL (fun h4 => ?_) (fun _ => ?_)
    case' refine_1 =>
      cbv
      refine brF hL (e3 h4) ?_
    all_goals
      cbv
      simp only [tn]
      refine ⟨ini, q + 1, by omega, by omega, ?_⟩
      rw [← hF']
      cbv
      exact ⟨⟨by rw [inc], trivial⟩, hset, trivial⟩
end Go.Proofs.Stam
