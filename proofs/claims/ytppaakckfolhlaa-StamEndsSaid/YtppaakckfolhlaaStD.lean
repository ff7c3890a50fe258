import Derived.Test.YtppaakckfolhlaaStC
/-! State, holds, Never. -/
namespace Go.Proofs.Stam
open Go Go.Sx
set_option maxRecDepth 100000

structure Tx where
  id : Int
  state : Int
  beg : Int
  fin : Int
def txD (t : Tx) : DV := .agg [.int .i64 t.id, .int .i64 t.state, .int .i64 t.beg, .int .i64 t.fin]
def txs (f : Nat → Tx) : Nat → DV := fun i => .agg [.int .i64 (f i).id, .int .i64 (f i).state, .int .i64 (f i).beg, .int .i64 (f i).fin]

theorem state1_fn (i s b e id : Int) (c : Bool) (hc : c = decide (i = id)) :
    Sx.Fn Try.prog 19 [.agg [.int .i64 i, .int .i64 s, .int .i64 b, .int .i64 e], .eptr 1 1 (fun _ => .int .i64 id) 0 0] [] (fun d _ => d = .bool c) := by
  refine fn_at (md := md) (body := body19) Try.func19 (by kernel_rfl) (by kernel_rfl) (by kernel_rfl) follows draw19 ?_
  intro L hL Q' hQ
  cbv
  refine hQ _ _ ?_
  cbv
  simp [hL, std, cmpF, hc]; rfl

/-- The first of the elements that p tells, or -1. -/
def firstI (p : Nat → Bool) : Nat → Nat → Int
  | 0, _ => -1
  | n + 1, i => if p i = true then (i : Int) else firstI p n (i + 1)

theorem index_fn (n : Nat) (f : Nat → Tx) (id : Int) (hn : n ≤ 4000000000000000000) (c : Nat → Bool) (hc : ∀ i, c i = decide ((f i).id = id)) (r : Int) (hr : r = firstI c n 0) :
    Sx.Fn Try.prog 18 [.lst 4 false n (txs f), .fn 19 [] [.eptr 1 1 (fun _ => .int .i64 id) 0 0]] [] (fun d _ => d = .int .i64 r) := by
  refine fn_at (md := md) (body := body18) Try.func18 (by kernel_rfl) (by kernel_rfl) (by kernel_rfl) follows draw18 ?_
  intro L hL Q' hQ
  cbv
  refine loop_j [0,1,7,8] [] Try.f18.ntmps (fun i : Nat => [(0, .lst 4 false n (txs f)), (1, .fn 19 [] [.eptr 1 1 (fun _ => .int .i64 id) 0 0]), (7, .int .i64 (L .ofNat n)), (8, .int .i64 (L .ofNat i))]) (fun _ => []) (fun i => i ≤ n ∧ firstI c n 0 = firstI c (n - i) i) (fun i => n - i) 0 ?_ ?_ ?_
  · exact ⟨Nat.zero_le _, rfl⟩
  · cbv
    exact ⟨⟨by simp [hL, std], trivial⟩, trivial⟩
  rintro i ⟨h1, h2⟩
  have tn : ∀ k, L .toNat (L .ofNat k) = k := fun k => by simp [hL, std]
  have inc : i < n → L .arith .add .i64 (L .ofNat i) 1 = L .ofNat (i + 1) := fun h => by
    simp [hL, std, arithF]
    rw [wrap64 (by omega) (by omega)]
  cbv
  refine brI hL (fun hlt => ?_) (fun hge => ?_)
  case refine_2 =>
    simp [hL, std, cmpF] at hge
    have e : i = n := by omega
    subst e
    clear hge
    cbv
    refine hQ _ _ ?_
    cbv
    rw [hr, h2, Nat.sub_self]; rfl
  simp [hL, std, cmpF] at hlt
  have hlt' : i < n := by omega
  clear hlt
  have hs : firstI c (n - i) i = if c i = true then (i : Int) else firstI c (n - (i + 1)) (i + 1) := by
    have : n - i = (n - (i + 1)) + 1 := by omega
    rw [this]; rfl
  rw [hs] at h2
  clear hs
  cbv
  simp only [tn]
  refine ⟨by simp [hL, std]; omega, ?_⟩
  refine callI hL (state1_fn (f i).id (f i).state (f i).beg (f i).fin id (c i) (hc i)) rfl ?_
  rintro d rs rfl
  cbv
  refine brI hL (fun ht => ?_) (fun hf => ?_)
  · cbv
    refine hQ _ _ ?_
    cbv
    rw [hr, h2, if_pos ht]
    simp [hL, std]
  · rw [if_neg (by rw [hf]; simp)] at h2
    cbv
    refine ⟨i + 1, ?_, ⟨by omega, h2⟩, ?_⟩
    · omega
    · cbv
      rw [inc hlt']; trivial

def noTx : Tx := ⟨0, 0, 0, 0⟩
/-- The transaction of an ID. -/
def stateOf (f : Nat → Tx) (n : Nat) (id : Int) : Tx := if firstI (fun i => decide ((f i).id = id)) n 0 < 0 then noTx else f (firstI (fun i => decide ((f i).id = id)) n 0).toNat
theorem firstI_spec (c : Nat → Bool) : ∀ (n i : Nat), (firstI c n i = -1 ∧ ∀ k, i ≤ k → k < i + n → c k = false) ∨ ∃ k : Nat, firstI c n i = (k : Int) ∧ i ≤ k ∧ k < i + n ∧ c k = true ∧ ∀ j, i ≤ j → j < k → c j = false
  | 0, i => .inl ⟨rfl, fun k h1 h2 => by omega⟩
  | n + 1, i => by
    simp only [firstI]
    by_cases hc : c i = true
    · rw [if_pos hc]
      exact .inr ⟨i, rfl, by omega, by omega, hc, fun j h1 h2 => by omega⟩
    · rw [if_neg hc]
      have hc' : c i = false := by simpa using hc
      rcases firstI_spec c n (i + 1) with ⟨h1, h2⟩ | ⟨k, h1, h2, h3, h4, h5⟩
      · refine .inl ⟨h1, fun k k1 k2 => ?_⟩
        by_cases hk : k = i
        · subst hk; exact hc'
        · exact h2 k (by omega) (by omega)
      · refine .inr ⟨k, h1, by omega, by omega, h4, fun j j1 j2 => ?_⟩
        by_cases hj : j = i
        · subst hj; exact hc'
        · exact h5 j (by omega) j2

theorem state_fn (n : Nat) (f : Nat → Tx) (id : Int) (hn : n ≤ 4000000000000000000) (t : Tx) (ht : t = stateOf f n id) :
    Sx.Fn Try.prog 13 [.int .i64 id, .lst 4 false n (txs f)] [] (fun d _ => d = .agg [.int .i64 t.id, .int .i64 t.state, .int .i64 t.beg, .int .i64 t.fin]) := by
  refine fn_at (md := md) (body := body13) Try.func13 (by kernel_rfl) (by kernel_rfl) (by kernel_rfl) follows draw13 ?_
  intro L hL Q' hQ
  obtain ⟨c, hc⟩ : ∃ c : Nat → Bool, c = fun i => decide ((f i).id = id) := ⟨_, rfl⟩
  obtain ⟨r, hr⟩ : ∃ r, r = firstI c n 0 := ⟨_, rfl⟩
  have hcc : ∀ i, c i = decide ((f i).id = id) := fun i => by rw [hc]
  rw [stateOf, ← hc, ← hr] at ht
  have hspec : 0 ≤ r → IsN r r.toNat ∧ r.toNat < n := by
    intro h0
    have := firstI_spec c n 0
    rw [← hr] at this
    rcases this with ⟨h1, _⟩ | ⟨k, h1, h2, h3, _⟩
    · omega
    · exact ⟨by show r = _; omega, by omega⟩
  clear hc
  cbv
  refine lendI hL (index_fn n f id hn c hcc r hr) rfl ?_
  rintro d rs rfl
  refine ⟨rfl, ?_⟩
  cbv
  refine brI hL (fun h => ?_) (fun h => ?_)
  · simp [hL, std, cmpF] at h
    rw [if_pos h] at ht
    cbv
    refine hQ _ _ ?_
    cbv
    rw [ht]; rfl
  · simp [hL, std, cmpF] at h
    rw [if_neg (by omega)] at ht
    have hin : L .inb r n := by
      obtain ⟨e1, e2⟩ := hspec h
      have e3 := e1.out
      simp [hL, std]
      omega
    cbv
    refine ⟨hin, hQ _ _ ?_⟩
    cbv
    rw [ht]
    simp [hL, std]

theorem never_fn (x a : Int) (c : Bool) (hc : c = decide (x = 0 ∧ a = 0)) : Sx.Fn Try.prog 15 [.agg [.int .i64 x, .int .i64 a]] [] (fun d _ => d = .bool c) := by
  refine fn_at (md := md) (body := body15) Try.func15 (by kernel_rfl) (by kernel_rfl) (by kernel_rfl) follows draw15 ?_
  intro L hL Q' hQ
  cbv
  refine hQ _ _ ?_
  cbv
  simp [hL, std, cmpF, hc]; rfl

/-- Is it so at a time, and does it hang? -/
def isAt (t : Tx) (at_ : Int) : Bool := (t.state == 2 || t.state == 3) && t.fin ≤ at_
theorem holds_fn (n : Nat) (f : Nat → Tx) (x a at_ : Int) (hn : n ≤ 4000000000000000000) (b h : Bool)
    (hb : b = if x = 0 then decide (a ≤ at_) else isAt (stateOf f n x) at_) (hh : h = if x = 0 then false else (isAt (stateOf f n x) at_ && ((stateOf f n x).state == 2))) :
    Sx.Fn Try.prog 14 [.agg [.int .i64 x, .int .i64 a], .int .i64 at_, .lst 4 false n (txs f)] [] (fun d _ => d = .tup [.bool b, .bool h]) := by
  refine fn_at (md := md) (body := body14) Try.func14 (by kernel_rfl) (by kernel_rfl) (by kernel_rfl) follows draw14 ?_
  intro L hL Q' hQ
  cbv
  refine brI hL (fun hx => ?_) (fun hx => ?_)
  · simp [hL, std, cmpF] at hx
    cbv
    refine hQ _ _ ?_
    cbv
    rw [if_pos hx] at hb hh
    rw [hb, hh]
    simp [hL, std, cmpF]
  · simp [hL, std, cmpF] at hx
    rw [if_neg hx] at hb hh
    obtain ⟨t, ht⟩ : ∃ t, t = stateOf f n x := ⟨_, rfl⟩
    rw [← ht] at hb hh
    cbv
    refine callI hL (state_fn n f x hn t ht) rfl ?_
    rintro d rs rfl
    have e : isAt t at_ = ((t.state == 2 || t.state == 3) && t.fin ≤ at_) := rfl
    rw [e] at hb hh
    clear e ht
    obtain ⟨b2, hb2⟩ : ∃ b2, b2 = L .cmp .eql t.state 2 := ⟨_, rfl⟩
    obtain ⟨b3, hb3⟩ : ∃ b3, b3 = L .cmp .eql t.state 3 := ⟨_, rfl⟩
    obtain ⟨b4, hb4⟩ : ∃ b4, b4 = L .cmp .leq t.fin at_ := ⟨_, rfl⟩
    have hB : b = ((b2 || b3) && b4) := by
      rw [hb, hb2, hb3, hb4]; simp [hL, std, cmpF]
    have hH : h = (((b2 || b3) && b4) && b2) := by
      rw [hh, hb2, hb3, hb4]; simp [hL, std, cmpF]
    clear hb hh
    cbv
    refine brI hL (fun h2 => ?_) (fun h2 => ?_)
    · replace h2 : b2 = true := hb2.trans h2
      cbv
      refine brI hL (fun h4 => ?_) (fun h4 => ?_)
      · replace h4 : b4 = true := hb4.trans h4
        have e2 : L .cmp .eql t.state 2 = true := hb2.symm.trans h2
        have e4 : L .cmp .leq t.fin at_ = true := hb4.symm.trans h4
        cbv
        refine hQ _ _ ?_
        cbv
        rw [hB, hH, h2, h4]
        simp [e2, e4]
      · replace h4 : b4 = false := hb4.trans h4
        have e4 : L .cmp .leq t.fin at_ = false := hb4.symm.trans h4
        cbv
        refine hQ _ _ ?_
        cbv
        rw [hB, hH, h2, h4]
        simp [e4]
    · replace h2 : b2 = false := hb2.trans h2
      cbv
      refine brI hL (fun h3 => ?_) (fun h3 => ?_)
      · replace h3 : b3 = true := hb3.trans h3
        cbv
        refine brI hL (fun h4 => ?_) (fun h4 => ?_)
        · replace h4 : b4 = true := hb4.trans h4
          have e2 : L .cmp .eql t.state 2 = false := hb2.symm.trans h2
          have e4 : L .cmp .leq t.fin at_ = true := hb4.symm.trans h4
          cbv
          refine hQ _ _ ?_
          cbv
          rw [hB, hH, h2, h3, h4]
          simp [e2, e4]
        · replace h4 : b4 = false := hb4.trans h4
          have e4 : L .cmp .leq t.fin at_ = false := hb4.symm.trans h4
          cbv
          refine hQ _ _ ?_
          cbv
          rw [hB, hH, h2, h3, h4]
          simp [e4]
      · replace h3 : b3 = false := hb3.trans h3
        cbv
        refine hQ _ _ ?_
        cbv
        rw [hB, hH, h2, h3]
        rfl
end Go.Proofs.Stam
