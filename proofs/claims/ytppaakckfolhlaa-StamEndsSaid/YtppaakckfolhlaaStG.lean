import Derived.Test.YtppaakckfolhlaaStF
/-! sees. -/
namespace Go.Proofs.Stam
open Go Go.Sx
set_option maxRecDepth 100000

/-- On whom it hangs: on bx, on ex, on both, on none. -/
def OnIs : Bool → Bool → Int → Int → DV → Prop
  | false, false, _, _, on => on = .nils
  | true, false, bx, _, on => ∃ g, on = .own 1 1 (ints g) ∧ g 0 = bx
  | false, true, _, ex, on => ∃ g, on = .own 1 1 (ints g) ∧ g 0 = ex
  | true, true, bx, ex, on => ∃ g, (bx = ex ∧ on = .own 1 1 (ints g) ∧ g 0 = bx) ∨ (bx ≠ ex ∧ on = .own 1 2 (ints g) ∧ (g 0 = bx ∧ g 1 = ex ∨ g 0 = ex ∧ g 1 = bx))
def SeesIs (b1 h1 b2 h2 nv : Bool) (bx ex : Int) (d : DV) : Prop :=
  (b1 = false ∧ d = .tup [.bool false, .nils]) ∨ (b1 = true ∧ ∃ on, d = .tup [.bool (!(b2 && !nv)), on] ∧ OnIs h1 (h2 && !nv) bx ex on)

theorem two_sorted {g0 g : Nat → Int} (hc : ∀ x, cntI g x 2 = cntI g0 x 2) : (g 0 = g0 0 ∧ g 1 = g0 1) ∨ (g 0 = g0 1 ∧ g 1 = g0 0) := by
  have h1 := hc (g0 0)
  have h2 := hc (g0 1)
  have h3 := hc (g 0)
  have h4 := hc (g 1)
  simp only [cntI] at h1 h2 h3 h4
  grind
theorem one_sorted {g0 g : Nat → Int} (hc : ∀ x, cntI g x 1 = cntI g0 x 1) : g 0 = g0 0 := by
  have h1 := hc (g0 0)
  simp only [cntI] at h1
  grind
set_option maxHeartbeats 4000000 in
theorem sees_fn (n : Nat) (f : Nat → Tx) (bx ba ex ea at_ : Int) (hn : n ≤ 4000000000000000000) (mine : Bool)
    (b1 h1 b2 h2 nv : Bool) (hb1 : b1 = if bx = 0 then decide (ba ≤ at_) else isAt (stateOf f n bx) at_) (hh1 : h1 = if bx = 0 then false else (isAt (stateOf f n bx) at_ && ((stateOf f n bx).state == 2)))
    (hb2 : b2 = if ex = 0 then decide (ea ≤ at_) else isAt (stateOf f n ex) at_) (hh2 : h2 = if ex = 0 then false else (isAt (stateOf f n ex) at_ && ((stateOf f n ex).state == 2))) (hnv : nv = decide (ex = 0 ∧ ea = 0)) :
    Sx.Fn Try.prog 8 [.agg [.int .i64 bx, .int .i64 ba, .int .i64 ex, .int .i64 ea], .int .i64 0, .int .i64 at_, .lst 4 false n (txs f), .bool mine] [] (fun d _ => SeesIs b1 h1 b2 h2 nv bx ex d) := by
  have p1 := (holds_fn n f bx ba at_ hn b1 h1 hb1 hh1).den
  have p2 := (holds_fn n f ex ea at_ hn b2 h2 hb2 hh2).den
  have p3 := (never_fn ex ea nv hnv).den
  have q12 : h1 = true → b1 = true := by
    intro h; rw [hh1] at h; rw [hb1]; split at h
    · cases h
    · rename_i hx; rw [if_neg hx]; simp only [Bool.and_eq_true] at h; exact h.1
  have q22 : h2 = true → b2 = true := by
    intro h; rw [hh2] at h; rw [hb2]; split at h
    · cases h
    · rename_i hx; rw [if_neg hx]; simp only [Bool.and_eq_true] at h; exact h.1
  clear hb1 hh1 hb2 hh2 hnv
  refine fn_at (md := md) (body := body8) Try.func8 (by kernel_rfl) (by kernel_rfl) (by kernel_rfl) follows draw8 ?_
  intro L hL Q' hQ
  have c0 : L .cmp .neq 0 0 = false := by simp [hL, std, cmpF]
  have room1 : L .room 1 8 := by simp [hL, std]
  have room2 : L .room (L .nadd 1 1) 8 := by simp [hL, std]
  have sh0 : ∀ f : Nat → DV, shift 0 f = f := fun _ => rfl
  have n2 : L .nadd 1 1 = 2 := by simp [hL, std]
  have a2 : L .appF 1 (fun _ => .int .i64 bx) (fun _ => .int .i64 ex) = ints (fun i => if i < 1 then bx else ex) := by
    rw [hL]; exact appFF_ints 1 (fun _ => bx) (fun _ => ex)
  cbv
  refine lendI hL p1 rfl ?_
  rintro d rs ⟨e, rfl, rfl⟩
  cases b1 <;> cases h1
  case false.true => cases q12 rfl
  case false.false =>
    refine ⟨⟨rfl, rfl, trivial⟩, ?_⟩
    cbv
    refine brI hL (fun _ => ?_) (fun _ => ?_)
    case' refine_1 => cbv; refine brI hL (fun h => absurd (c0.symm.trans h) (by decide)) (fun _ => ?_)
    all_goals cbv
    all_goals
      refine hQ _ _ (.inl ⟨rfl, ?_⟩)
      cbv
  case true.false =>
    refine ⟨⟨rfl, rfl, trivial⟩, ?_⟩
    cbv
    refine brI hL (fun _ => ?_) (fun _ => ?_)
    case' refine_1 => cbv; refine brI hL (fun h => absurd (c0.symm.trans h) (by decide)) (fun _ => ?_)
    all_goals cbv
    all_goals
      refine lendI hL p2 rfl ?_
      rintro d rs ⟨e, rfl, rfl⟩
      cases b2 <;> cases h2
      case false.true => cases q22 rfl
      all_goals
        refine ⟨⟨rfl, rfl, trivial⟩, ?_⟩
        cbv
        refine lendI hL p3 rfl ?_
        rintro d rs ⟨e, rfl, rfl⟩
        refine ⟨by cases nv <;> rfl, ?_⟩
        cases nv
      case false.false.false =>
        cbv
        refine brI hL (fun _ => ?_) (fun _ => ?_)
        case' refine_1 => cbv; refine brI hL (fun h => absurd (c0.symm.trans h) (by decide)) (fun _ => ?_)
        all_goals cbv
        all_goals
          refine refsI hL sort_nil rfl rfl ?_
          rintro d rs rfl
          cbv
          refine refsI hL compact_nil rfl rfl ?_
          rintro d rs rfl
          cbv
          exact hQ _ _ (.inr ⟨rfl, _, rfl, rfl⟩)
      case true.false.false =>
        cbv
        refine brI hL (fun _ => ?_) (fun _ => ?_)
        case' refine_1 => cbv; refine brI hL (fun h => absurd (c0.symm.trans h) (by decide)) (fun _ => ?_)
        all_goals cbv
        all_goals
          refine refsI hL sort_nil rfl rfl ?_
          rintro d rs rfl
          cbv
          refine refsI hL compact_nil rfl rfl ?_
          rintro d rs rfl
          cbv
          exact hQ _ _ (.inr ⟨rfl, _, rfl, rfl⟩)
      case true.true.true | false.false.true | true.false.true =>
        cbv
        refine refsI hL sort_nil rfl rfl ?_
        rintro d rs rfl
        cbv
        refine refsI hL compact_nil rfl rfl ?_
        rintro d rs rfl
        cbv
        exact hQ _ _ (.inr ⟨rfl, _, rfl, rfl⟩)
      case true.true.false =>
        cbv
        refine brI hL (fun _ => ?_) (fun _ => ?_)
        case' refine_1 => cbv; refine brI hL (fun h => absurd (c0.symm.trans h) (by decide)) (fun _ => ?_)
        all_goals cbv
        all_goals
          refine ⟨room1, ?_⟩
          refine refsI hL (sort_fn 1 (fun _ => ex) (by decide)) rfl rfl ?_
          rintro d rs ⟨rfl, g, rfl, -, hc⟩
          cbv
          refine refsI hL (compact_one (ints g)) rfl rfl ?_
          rintro d rs ⟨rfl, rfl⟩
          cbv
          exact hQ _ _ (.inr ⟨rfl, _, rfl, g, rfl, one_sorted hc⟩)
  case true.true =>
    refine ⟨⟨rfl, rfl, trivial⟩, ?_⟩
    cbv
    refine brI hL (fun _ => ?_) (fun _ => ?_)
    case' refine_1 => cbv; refine brI hL (fun h => absurd (c0.symm.trans h) (by decide)) (fun _ => ?_)
    all_goals cbv
    all_goals
      refine ⟨room1, ?_⟩
      refine lendI hL p2 rfl ?_
      rintro d rs ⟨e, rfl, rfl⟩
      cases b2 <;> cases h2
      case false.true => cases q22 rfl
      all_goals
        refine ⟨⟨rfl, rfl, trivial⟩, ?_⟩
        cbv
        refine lendI hL p3 rfl ?_
        rintro d rs ⟨e, rfl, rfl⟩
        refine ⟨by cases nv <;> rfl, ?_⟩
        cases nv
      case true.true.true | false.false.true | true.false.true =>
        cbv
        refine refsI hL (sort_fn 1 (fun _ => bx) (by decide)) rfl rfl ?_
        rintro d rs ⟨rfl, g, rfl, -, hc⟩
        cbv
        refine refsI hL (compact_one (ints g)) rfl rfl ?_
        rintro d rs ⟨rfl, rfl⟩
        cbv
        exact hQ _ _ (.inr ⟨rfl, _, rfl, g, rfl, one_sorted hc⟩)
      case false.false.false | true.false.false =>
        cbv
        refine brI hL (fun _ => ?_) (fun _ => ?_)
        case' refine_1 => cbv; refine brI hL (fun h => absurd (c0.symm.trans h) (by decide)) (fun _ => ?_)
        all_goals cbv
        all_goals
          refine refsI hL (sort_fn 1 (fun _ => bx) (by decide)) rfl rfl ?_
          rintro d rs ⟨rfl, g, rfl, -, hc⟩
          cbv
          refine refsI hL (compact_one (ints g)) rfl rfl ?_
          rintro d rs ⟨rfl, rfl⟩
          cbv
          exact hQ _ _ (.inr ⟨rfl, _, rfl, g, rfl, one_sorted hc⟩)
      case true.true.false =>
        cbv
        refine brI hL (fun _ => ?_) (fun _ => ?_)
        case' refine_1 => cbv; refine brI hL (fun h => absurd (c0.symm.trans h) (by decide)) (fun _ => ?_)
        all_goals cbv
        all_goals
          refine ⟨room2, ?_⟩
          simp only [n2, sh0, a2]
          refine refsI hL (sort_fn 2 (fun i => if i < 1 then bx else ex) (by decide)) rfl rfl ?_
          rintro d rs ⟨rfl, g, rfl, -, hc⟩
          have hs := two_sorted hc
          simp only [Nat.lt_irrefl, Nat.zero_lt_one, if_true, if_false] at hs
          clear hc
          cbv
          refine refsI hL (compact_two g) rfl rfl ?_
          rintro d rs ⟨h, rfl, h0, ⟨h1, rfl⟩ | ⟨h1, rfl, rfl⟩⟩
          · cbv
            refine hQ _ _ (.inr ⟨rfl, _, rfl, h, .inl ⟨?_, rfl, ?_⟩⟩) <;> grind
          · cbv
            refine hQ _ _ (.inr ⟨rfl, _, rfl, h, .inr ⟨?_, rfl, ?_⟩⟩) <;> grind
end Go.Proofs.Stam
