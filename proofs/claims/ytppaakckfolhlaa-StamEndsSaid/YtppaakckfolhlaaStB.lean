import Derived.Test.YtppaakckfolhlaaStA
/-! Sorting a few whole numbers. -/
namespace Go.Proofs.Stam
open Go Go.Sx
set_option maxRecDepth 100000

theorem isNaN_fn (x : Int) : Sx.Fn Try.prog 38 [.int .i64 x] [] (fun d _ => d = .bool false) := by
  refine fn_at (md := md) (body := body38) Try.func38 (by kernel_rfl) (by kernel_rfl) (by kernel_rfl) follows draw38 ?_
  intro L hL Q' hQ
  cbv
  refine hQ _ _ ?_
  cbv
  simp [hL, std, cmpF]

theorem less_fn (x y : Int) (c : Bool) (hc : c = decide (x < y)) : Sx.Fn Try.prog 28 [.int .i64 x, .int .i64 y] [] (fun d _ => d = .bool c) := by
  refine fn_at (md := md) (body := body28) Try.func28 (by kernel_rfl) (by kernel_rfl) (by kernel_rfl) follows draw28 ?_
  intro L hL Q' hQ
  cbv
  refine lendI hL (isNaN_fn x) rfl ?_
  rintro d rs rfl
  refine ⟨rfl, ?_⟩
  cbv
  refine brI hL (fun h => by cases h) (fun _ => ?_)
  cbv
  refine hQ _ _ ?_
  cbv
  simp [hL, std, cmpF, hc]

/-- How often a number stands among the first n. -/
def cntI (g : Nat → Int) (x : Int) : Nat → Nat
  | 0 => 0
  | n + 1 => cntI g x n + (if g n = x then 1 else 0)
def swapI (g : Nat → Int) (i j : Nat) : Nat → Int := updI (updI g i (g j)) j (g i)
theorem cntI_congr {g h : Nat → Int} {x : Int} : ∀ {n : Nat}, (∀ i < n, g i = h i) → cntI g x n = cntI h x n
  | 0, _ => rfl
  | n + 1, e => by
    simp only [cntI]
    rw [cntI_congr (n := n) (fun i hi => e i (by omega)), e n (by omega)]
theorem cntI_upd {g : Nat → Int} {x v : Int} {j : Nat} : ∀ {n : Nat}, j < n → cntI (updI g j v) x n + (if g j = x then 1 else 0) = cntI g x n + (if v = x then 1 else 0)
  | 0, h => by omega
  | n + 1, h => by
    simp only [cntI]
    by_cases hj : j = n
    · subst hj
      rw [cntI_congr (g := updI g j v) (h := g) (fun i hi => by simp only [updI]; rw [if_neg (by omega)])]
      simp only [updI, if_true]
      omega
    · have := cntI_upd (g := g) (x := x) (v := v) (j := j) (n := n) (by omega)
      have e : updI g j v n = g n := by simp only [updI]; rw [if_neg (fun h => hj h.symm)]
      rw [e]
      omega
theorem cntI_swap {g : Nat → Int} {x : Int} {n i j : Nat} (hi : i < n) (hj : j < n) : cntI (swapI g i j) x n = cntI g x n := by
  have h1 := cntI_upd (g := g) (x := x) (v := g j) hi
  have h2 := cntI_upd (g := updI g i (g j)) (x := x) (v := g i) hj
  have e : updI g i (g j) j = g j := by simp only [updI]; split <;> rfl
  rw [e] at h2
  simp only [swapI]
  omega

/-- Sorted from a on, below b. -/
def SortedI (g : Nat → Int) (a b : Nat) : Prop := ∀ p q, a ≤ p → p < q → q < b → g p ≤ g q
theorem insertion_fn (n : Nat) (g0 : Nat → Int) (a b : Nat) (ai bi : Int) (hai : IsN ai a) (hbi : IsN bi b) (hab : a ≤ b) (hb : b ≤ n) (hn : n ≤ 4000000000000000000) :
    Sx.Fn Try.prog 22 [.ref 100000 0 n, .int .i64 ai, .int .i64 bi] [.arr 1 n (ints g0)] (fun d rs => d = .tup [] ∧ ∃ g, rs = [.arr 1 n (ints g)] ∧ SortedI g a b ∧ (∀ x, cntI g x n = cntI g0 x n) ∧ ∀ i, i < a ∨ b ≤ i → g i = g0 i) := by
  refine fn_at (md := md) (body := body22) Try.func22 (by kernel_rfl) (by kernel_rfl) (by kernel_rfl) follows draw22 ?_
  intro L hL Q' hQ
  cbv
  refine loop_j [0,1,2,6] [100000] 49 (fun p : Nat × (Nat → Int) => [(0, .ref 100000 0 n), (1, .int .i64 ai), (2, .int .i64 bi), (6, .int .i64 (L .ofNat p.1))]) (fun p => [(100000, .arr 1 n (ints p.2))])
    (fun p => a + 1 ≤ p.1 ∧ (p.1 ≤ b ∨ p.1 = a + 1) ∧ SortedI p.2 a p.1 ∧ (∀ x, cntI p.2 x n = cntI g0 x n) ∧ ∀ i, i < a ∨ b ≤ i → p.2 i = g0 i) (fun p => b + 1 - p.1) (a + 1, g0) ?_ ?_ ?_
  · refine ⟨Nat.le_refl _, .inr rfl, fun p q h1 h2 h3 => by simp only at h3; omega, fun _ => rfl, fun _ _ => rfl⟩
  · cbv
    have ea := hai.out
    simp [hL, std, arithF]
    rw [wrap64 (by omega) (by omega)]; omega
  rintro ⟨i, g⟩ ⟨h1, h2, hs, hc, ho⟩
  dsimp only at h1 h2 hs hc ho ⊢
  cbv
  refine brI hL (fun hlt => ?_) (fun hge => ?_)
  case refine_2 =>
    simp [hL, std, cmpF] at hge
    have hge' : b ≤ i := by have := hbi.out; omega
    clear hge
    cbv
    refine hQ _ _ ?_
    cbv
    exact ⟨g, rfl, fun p q k1 k2 k3 => hs p q k1 k2 (by omega), hc, ho⟩
  simp [hL, std, cmpF] at hlt
  have hlt' : i < b := by have := hbi.out; omega
  clear hlt
  cbv
  refine loop_j [0,1,2,6,7] [100000] 49 (fun p : Nat × (Nat → Int) => [(0, .ref 100000 0 n), (1, .int .i64 ai), (2, .int .i64 bi), (6, .int .i64 (L .ofNat i)), (7, .int .i64 (L .ofNat p.1))]) (fun p => [(100000, .arr 1 n (ints p.2))])
    (fun p => a ≤ p.1 ∧ p.1 ≤ i ∧ (∀ x y, a ≤ x → x < y → y ≤ i → y ≠ p.1 → p.2 x ≤ p.2 y) ∧ (∀ x, cntI p.2 x n = cntI g0 x n) ∧ ∀ i, i < a ∨ b ≤ i → p.2 i = g0 i) (fun p => p.1) (i, g) ?_ ?_ ?_
  · exact ⟨by dsimp only; omega, Nat.le_refl _, fun x y k1 k2 k3 k4 => hs x y k1 k2 (by simp only at k4; omega), hc, ho⟩
  · cbv
    exact ⟨⟨rfl, trivial⟩, trivial⟩
  rintro ⟨j, f⟩ ⟨k1, k2, ks, kc, ko⟩
  dsimp only at k1 k2 ks kc ko ⊢
  cbv
  have stop : (j = a ∨ f (j - 1) ≤ f j) → SortedI f a (i + 1) := by
    intro hj x y m1 m2 m3
    by_cases hy : y = j
    · subst hy
      rcases hj with rfl | hj
      · omega
      · by_cases hx : x = y - 1
        · subst hx; exact hj
        · exact Int.le_trans (ks x (y - 1) m1 (by omega) (by omega) (by omega)) hj
    · exact ks x y m1 m2 (by omega) hy
  have inc : L .arith .add .i64 (L .ofNat i) 1 = L .ofNat (i + 1) := by
    simp [hL, std, arithF]
    rw [wrap64 (by omega) (by omega)]
  refine brI hL (fun hgt => ?_) (fun hle => ?_)
  case refine_2 =>
    simp [hL, std, cmpF] at hle
    have hja : j = a := by have := hai.out; omega
    clear hle
    cbv
    refine ⟨(i + 1, f), ?_, ?_, ?_⟩
    · dsimp only; omega
    · exact ⟨by dsimp only; omega, .inl (by dsimp only; omega), stop (.inl hja), kc, ko⟩
    · cbv
      rw [inc]; trivial
  simp [hL, std, cmpF] at hgt
  have hgt' : a < j := by have := hai.out; omega
  clear hgt
  obtain ⟨jm, hjm⟩ : ∃ jm, j = jm + 1 := ⟨j - 1, by omega⟩
  have dec : L .arith .sub .i64 (L .ofNat j) 1 = L .ofNat jm := by
    simp [hL, std, arithF]
    rw [wrap64 (by omega) (by omega)]; omega
  have tn : ∀ k, L .toNat (L .ofNat k) = k := fun k => by simp [hL, std]
  have bnd : ∀ k, k < n → L .inb (L .ofNat k) n := fun k hk => by simp [hL, std]; omega
  obtain ⟨c, hcc⟩ : ∃ c, c = decide (f j < f jm) := ⟨_, rfl⟩
  cbv
  simp only [dec, tn]
  refine ⟨bnd j (by omega), bnd jm (by omega), ?_⟩
  refine lendI hL (less_fn (f j) (f jm) c hcc) rfl ?_
  rintro d rs rfl
  refine ⟨rfl, ?_⟩
  cbv
  refine brI hL (fun hct => ?_) (fun hcf => ?_)
  case refine_2 =>
    have hle : f (j - 1) ≤ f j := by rw [hcc] at hcf; simp at hcf; rw [hjm] at hcf ⊢; exact hcf
    clear hcf
    cbv
    refine ⟨(i + 1, f), ?_, ?_, ?_⟩
    · dsimp only; omega
    · exact ⟨by dsimp only; omega, .inl (by dsimp only; omega), stop (.inr hle), kc, ko⟩
    · cbv
      rw [inc]; trivial
  have hlt2 : f j < f jm := by rw [hcc] at hct; simpa using hct
  clear hct
  cbv
  simp only [dec, tn]
  have hset : L .setF (L .setF (ints f) j 0 [.int .i64 (f jm)]) jm 0 [.int .i64 (f j)] = ints (swapI f j jm) := by
    rw [hL]; simp only [std, setFF_ints]; rfl
  have sw : ∀ x, swapI f j jm x = if x = jm then f j else if x = j then f jm else f x := fun x => by simp only [swapI, updI]
  refine ⟨bnd jm (by omega), bnd j (by omega), bnd j (by omega), bnd jm (by omega), (jm, swapI f j jm), ?_, ?_, ?_⟩
  · dsimp only; omega
  · refine ⟨by dsimp only; omega, by dsimp only; omega, ?_, ?_, ?_⟩
    · intro x y m1 m2 m3 m4
      dsimp only at m4 ⊢
      rw [sw, sw]
      have e1 := ks x y m1 m2 m3
      have e2 := ks x jm m1
      have e3 := ks jm y (by omega)
      have e4 := ks j y (by omega)
      by_cases hx : x = jm <;> by_cases hx2 : x = j <;> by_cases hy2 : y = j <;> simp [hx, hx2, hy2, m4] <;> grind
    · intro x
      dsimp only
      rw [cntI_swap (by omega) (by omega)]; exact kc x
    · intro x hx
      dsimp only
      rw [sw, if_neg (by omega), if_neg (by omega)]
      exact ko x hx
  · cbv
    rw [hset]
    exact ⟨⟨rfl, trivial⟩, ⟨rfl, trivial⟩⟩
end Go.Proofs.Stam
