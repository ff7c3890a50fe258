import Derived.Test.YtppaakckfolhlaaStH
/-! Sees; what a second look sees. -/
namespace Go.Proofs.Stam
open Go Go.Sx
set_option maxRecDepth 100000

/-- The numbers on whom it hangs. -/
def OnAre (h1 h2 : Bool) (bx ex : Int) (k : Nat) (g : Nat → Int) : Prop :=
  k ≤ 2 ∧ (∀ i j, i < j → j < k → g i ≠ g j) ∧ (∀ i, i < k → (h1 = true ∧ g i = bx) ∨ (h2 = true ∧ g i = ex)) ∧ (h1 = true → ∃ i, i < k ∧ g i = bx) ∧ (h2 = true → ∃ i, i < k ∧ g i = ex)
theorem onAre_of {h1 h2 : Bool} {bx ex : Int} {on : DV} (h : OnIs h1 h2 bx ex on) : ∃ k g, nil1 (1, ints fun _ => 0) on = .own 1 k (ints g) ∧ OnAre h1 h2 bx ex k g := by
  have one : ∀ {g : Nat → Int}, (h1 = true → g 0 = bx) → (h2 = true → g 0 = ex) → (h1 = true ∨ h2 = true) → OnAre h1 h2 bx ex 1 g := by
    intro g a b c
    refine ⟨by omega, fun i j h1 h2 => by omega, fun i hi => ?_, fun h => ⟨0, by omega, a h⟩, fun h => ⟨0, by omega, b h⟩⟩
    obtain rfl : i = 0 := by omega
    rcases c with c | c
    · exact .inl ⟨c, a c⟩
    · exact .inr ⟨c, b c⟩
  cases h1 <;> cases h2
  · have h' : on = .nils := h
    subst h'
    exact ⟨0, fun _ => 0, rfl, by omega, fun i j h1 h2 => by omega, (fun i hi => by omega), (fun h => by cases h), (fun h => by cases h)⟩
  · obtain ⟨g, rfl, e⟩ := h
    exact ⟨1, g, rfl, one (fun h => by cases h) (fun _ => e) (.inr rfl)⟩
  · obtain ⟨g, rfl, e⟩ := h
    exact ⟨1, g, rfl, one (fun _ => e) (fun h => by cases h) (.inl rfl)⟩
  · obtain ⟨g, ⟨e, rfl, e1⟩ | ⟨hne, rfl, e1⟩⟩ := h
    · exact ⟨1, g, rfl, one (fun _ => e1) (fun _ => e1.trans e) (.inl rfl)⟩
    · refine ⟨2, g, rfl, by omega, fun i j h1 h2 => ?_, fun i hi => ?_, fun _ => ?_, fun _ => ?_⟩
      · obtain rfl : i = 0 := by omega
        obtain rfl : j = 1 := by omega
        rcases e1 with ⟨a, b⟩ | ⟨a, b⟩ <;> omega
      · have : i = 0 ∨ i = 1 := by omega
        rcases this with rfl | rfl <;> rcases e1 with ⟨a, b⟩ | ⟨a, b⟩ <;> simp [a, b]
      · rcases e1 with ⟨a, b⟩ | ⟨a, b⟩
        · exact ⟨0, by omega, a⟩
        · exact ⟨1, by omega, b⟩
      · rcases e1 with ⟨a, b⟩ | ⟨a, b⟩
        · exact ⟨1, by omega, b⟩
        · exact ⟨0, by omega, a⟩
/-- Is it begun, or ended, at a time? -/
def isB (f : Nat → Tx) (n : Nat) (x a at_ : Int) : Bool := if x = 0 then decide (a ≤ at_) else isAt (stateOf f n x) at_
/-- Does that hang? -/
def isH (f : Nat → Tx) (n : Nat) (x at_ : Int) : Bool := if x = 0 then false else (isAt (stateOf f n x) at_ && ((stateOf f n x).state == 2))
/-- What one sees, and on whom it hangs. -/
def LookIs (f : Nat → Tx) (n : Nat) (bx ba ex ea at_ : Int) (r : Bool) (m : Nat) (g : Nat → Int) : Prop :=
  (isB f n bx ba at_ = false ∧ r = false ∧ m = 0) ∨
  (isB f n bx ba at_ = true ∧ r = (!(isB f n ex ea at_ && !decide (ex = 0 ∧ ea = 0))) ∧ OnAre (isH f n bx at_) (isH f n ex at_ && !decide (ex = 0 ∧ ea = 0)) bx ex m g)
theorem look_fn (n : Nat) (f : Nat → Tx) (bx ba ex ea at_ : Int) (hn : n ≤ 4000000000000000000) :
    Sx.Fn Try.prog 6 [.agg [.int .i64 bx, .int .i64 ba, .int .i64 ex, .int .i64 ea], .int .i64 0, .int .i64 at_, .lst 4 false n (txs f)] []
      (fun d _ => ∃ r m g, d = .tup [.bool r, .own 1 m (ints g)] ∧ LookIs f n bx ba ex ea at_ r m g) := by
  have p := (sees_fn n f bx ba ex ea at_ hn true _ _ _ _ _ rfl rfl rfl rfl rfl).nil [(0, ints fun _ => 0), (1, ints fun _ => 0)]
  have q : Sx.Fn Try.prog 6 [.agg [.int .i64 bx, .int .i64 ba, .int .i64 ex, .int .i64 ea], .int .i64 0, .int .i64 at_, .lst 4 false n (txs f)] []
      (fun d _ => ∃ r m g, d = .tup [.bool r, .own 1 m (ints g)] ∧ LookIs f n bx ba ex ea at_ r m g) := by
    have p' : Sx.Fn Try.prog 8 [.agg [.int .i64 bx, .int .i64 ba, .int .i64 ex, .int .i64 ea], .int .i64 0, .int .i64 at_, .lst 4 false n (txs f), .bool true] []
        (fun d _ => ∃ r m g, d = .tup [.bool r, .own 1 m (ints g)] ∧ LookIs f n bx ba ex ea at_ r m g) := by
      refine p.mono ?_
      rintro d rs ⟨e, rfl, ⟨hb, rfl⟩ | ⟨hb, on, rfl, ho⟩⟩
      · exact ⟨false, 0, fun _ => 0, rfl, .inl ⟨hb, rfl, rfl⟩⟩
      · obtain ⟨k, g, hk, hon⟩ := onAre_of ho
        refine ⟨_, k, g, ?_, .inr ⟨hb, rfl, hon⟩⟩
        show DV.tup [.bool _, nil1 (1, ints fun _ => 0) on] = _
        rw [hk]
        rfl
    clear p
    generalize hP : (fun (d : DV) (_ : List Row) => ∃ r m g, d = .tup [.bool r, .own 1 m (ints g)] ∧ LookIs f n bx ba ex ea at_ r m g) = P at p'
    refine fn_at (md := md) (body := body6) Try.func6 (by kernel_rfl) (by kernel_rfl) (by kernel_rfl) follows draw6 ?_
    intro L hL Q' hQ
    have tt : ∀ {Q : DV → List Row → Prop}, Sx.Fn Try.prog 8 [.agg [.int .i64 bx, .int .i64 ba, .int .i64 ex, .int .i64 ea], .int .i64 0, .int .i64 at_, .lst 4 false n (txs f), .bool true] [] Q →
        Sx.Fn Try.prog 8 [.agg [.int .i64 bx, .int .i64 ba, .int .i64 ex, .int .i64 ea], .int .i64 0, .int .i64 at_, .lst 4 false n (txs f), .tt] [] Q := by
      intro Q h
      refine h.sub rfl ?_
      intro j hj I β v hr
      match j with
      | 0 => exact hr
      | 1 => exact hr
      | 2 => exact hr
      | 3 => exact hr
      | 4 =>
        have hr' : RepK I β .tt v := hr
        cases hr' with
        | pure h => cases h; exact .pure (.bool true)
      | j + 5 => simp at hj; omega
    have p2 := tt p'
    clear tt p'
    cbv
    refine lendI hL p2 rfl ?_
    subst hP
    rintro d rs ⟨r, m, g, rfl, hl⟩
    refine ⟨⟨rfl, fun i _ j hj => ?_, trivial⟩, ?_⟩
    · obtain rfl : j = 0 := by omega
      rfl
    clear p2
    cbv
    exact hQ _ _ ⟨r, m, g, rfl, hl⟩
  exact q

/-- Is a number among the first q? -/
def hit (g : Nat → Int) (x : Int) : Nat → Bool
  | 0 => false
  | q + 1 => hit g x q || decide (g q = x)
theorem hit_iff {g : Nat → Int} {x : Int} {q : Nat} : hit g x q = true ↔ ∃ p, p < q ∧ g p = x := by
  induction q with
  | zero => simp [hit]
  | succ q ih =>
    simp only [hit, Bool.or_eq_true, decide_eq_true_eq, ih]
    constructor
    · rintro (⟨p, h1, h2⟩ | h)
      · exact ⟨p, by omega, h2⟩
      · exact ⟨q, by omega, h⟩
    · rintro ⟨p, h1, h2⟩
      by_cases e : p = q
      · subst e; exact .inr h2
      · exact .inl ⟨p, by omega, h2⟩
def commit (t : Tx) : Tx := ⟨t.id, 3, t.beg, t.fin⟩
/-- The transactions, those below i looked at, that at i by the first q. -/
def turned (f : Nat → Tx) (g : Nat → Int) (m i q : Nat) : Nat → Tx := fun j =>
  if (decide (j < i) && hit g (f j).id m || decide (j = i) && hit g (f j).id q) = true then commit (f j) else f j
theorem turned_next (f : Nat → Tx) (g : Nat → Int) (m i : Nat) : turned f g m i m = turned f g m (i + 1) 0 := by
  funext j
  simp only [turned, hit]
  congr 1
  by_cases h1 : j < i
  · have : j < i + 1 := by omega
    have h2 : j ≠ i := by omega
    simp [h1, this, h2]
  · by_cases h2 : j = i
    · subst h2; simp
    · have : ¬ j < i + 1 := by omega
      simp [h1, h2, this]
theorem stateOf_cases (f : Nat → Tx) (n : Nat) (x : Int) : (stateOf f n x = noTx ∧ ∀ i < n, (f i).id ≠ x) ∨ ∃ i < n, (f i).id = x ∧ stateOf f n x = f i := by
  rcases firstI_spec (fun i => decide ((f i).id = x)) n 0 with ⟨h1, h2⟩ | ⟨k, h1, h2, h3, h4, h5⟩
  · refine .inl ⟨by simp only [stateOf]; rw [h1]; rfl, fun i hi => ?_⟩
    have := h2 i (by omega) (by omega)
    simpa using this
  · refine .inr ⟨k, by omega, by simpa using h4, ?_⟩
    simp only [stateOf]
    rw [h1, if_neg (by omega)]
    rfl
theorem stateOf_at {f : Nat → Tx} {n i : Nat} (hinc : ∀ i j, i < j → j < n → (f i).id < (f j).id) (hi : i < n) : stateOf f n (f i).id = f i := by
  rcases stateOf_cases f n (f i).id with ⟨_, h⟩ | ⟨j, h1, h2, h3⟩
  · exact absurd rfl (h i hi)
  · rw [h3]
    rcases Nat.lt_trichotomy i j with h | h | h
    · have := hinc i j h h1; omega
    · rw [h]
    · have := hinc j i h hi; omega
theorem stateOf_turned (f : Nat → Tx) (g : Nat → Int) (m n : Nat) (x : Int) (hinc : ∀ i j, i < j → j < n → (f i).id < (f j).id) :
    (stateOf f n x = noTx ∧ stateOf (turned f g m n 0) n x = noTx) ∨ ((∃ i < n, (f i).id = x) ∧ stateOf (turned f g m n 0) n x = if hit g x m = true then commit (stateOf f n x) else stateOf f n x) := by
  have hid : ∀ i, (turned f g m n 0 i).id = (f i).id := by
    intro i; simp only [turned]; split <;> rfl
  have hinc' : ∀ i j, i < j → j < n → (turned f g m n 0 i).id < (turned f g m n 0 j).id := by
    intro i j h1 h2; rw [hid, hid]; exact hinc i j h1 h2
  rcases stateOf_cases f n x with ⟨h1, h2⟩ | ⟨i, h1, h2, h3⟩
  · refine .inl ⟨h1, ?_⟩
    rcases stateOf_cases (turned f g m n 0) n x with ⟨k1, _⟩ | ⟨j, k1, k2, _⟩
    · exact k1
    · rw [hid] at k2; exact absurd k2 (h2 j k1)
  · refine .inr ⟨⟨i, h1, h2⟩, ?_⟩
    have e := stateOf_at hinc' h1
    rw [hid, h2] at e
    rw [e, h3]
    simp only [turned, hit, h1, h2]
    simp
/-- Behind the commits a second look sees the same, and hangs on nobody. -/
theorem again {f : Nat → Tx} {n : Nat} {bx ba ex ea at_ : Int} {r r' : Bool} {m m' : Nat} {g g' : Nat → Int} (hinc : ∀ i j, i < j → j < n → (f i).id < (f j).id)
    (h : LookIs f n bx ba ex ea at_ r m g) (h' : LookIs (turned f g m n 0) n bx ba ex ea at_ r' m' g') : r' = r ∧ m' = 0 := by
  have hang : ∀ x, hit g x m = true → x ≠ 0 ∧ isAt (stateOf f n x) at_ = true ∧ (stateOf f n x).state = 2 := by
    intro x hx
    obtain ⟨p, h1, h2⟩ := hit_iff.1 hx
    have key : ∀ y, isH f n y at_ = true → y ≠ 0 ∧ isAt (stateOf f n y) at_ = true ∧ (stateOf f n y).state = 2 := by
      intro y hy
      simp only [isH] at hy
      split at hy
      · cases hy
      · rename_i h0
        simp only [Bool.and_eq_true, beq_iff_eq] at hy
        exact ⟨h0, hy.1, hy.2⟩
    rcases h with ⟨_, _, h3⟩ | ⟨_, _, h3⟩
    · omega
    · rcases h3.2.2.1 p h1 with ⟨a, b⟩ | ⟨a, b⟩
      · rw [h2] at b; subst b; exact key _ a
      · rw [h2] at b; subst b
        simp only [Bool.and_eq_true] at a
        exact key _ a.1
  have same : ∀ x a, isB (turned f g m n 0) n x a at_ = isB f n x a at_ := by
    intro x a
    simp only [isB]
    split
    · rfl
    · rcases stateOf_turned f g m n x hinc with ⟨h1, h2⟩ | ⟨_, h2⟩
      · rw [h1, h2]
      · rw [h2]
        split
        · rename_i hx
          obtain ⟨_, h3, h4⟩ := hang x hx
          rw [h3]
          simp only [isAt, Bool.and_eq_true] at h3 ⊢
          exact ⟨rfl, h3.2⟩
        · rfl
  have none : ∀ x, isH (turned f g m n 0) n x at_ = true → isH f n x at_ = true ∧ hit g x m = false := by
    intro x hx
    simp only [isH] at hx ⊢
    split at hx
    · cases hx
    · rename_i h0
      rw [if_neg h0]
      rcases stateOf_turned f g m n x hinc with ⟨h1, h2⟩ | ⟨_, h2⟩
      · rw [h2] at hx; simp [isAt, noTx] at hx
      · rw [h2] at hx
        split at hx
        · simp [commit] at hx
        · rename_i hh
          exact ⟨hx, by simpa using hh⟩
  rcases h with ⟨a1, a2, a3⟩ | ⟨a1, a2, a3⟩
  · rcases h' with ⟨b1, b2, b3⟩ | ⟨b1, _⟩
    · exact ⟨by rw [a2, b2], b3⟩
    · rw [same, a1] at b1; cases b1
  · rcases h' with ⟨b1, _⟩ | ⟨b1, b2, b3⟩
    · rw [same, a1] at b1; cases b1
    · refine ⟨by rw [a2, b2, same], ?_⟩
      rcases Nat.eq_zero_or_pos m' with e | e
      · exact e
      · exfalso
        rcases b3.2.2.1 0 e with ⟨c1, _⟩ | ⟨c1, _⟩
        · obtain ⟨c2, c3⟩ := none bx c1
          obtain ⟨p, d1, d2⟩ := a3.2.2.2.1 c2
          rw [hit_iff.2 ⟨p, d1, d2⟩] at c3; cases c3
        · simp only [Bool.and_eq_true] at c1
          obtain ⟨c2, c3⟩ := none ex c1.1
          obtain ⟨p, d1, d2⟩ := a3.2.2.2.2 (by simp only [Bool.and_eq_true]; exact ⟨c2, c1.2⟩)
          rw [hit_iff.2 ⟨p, d1, d2⟩] at c3; cases c3
end Go.Proofs.Stam
