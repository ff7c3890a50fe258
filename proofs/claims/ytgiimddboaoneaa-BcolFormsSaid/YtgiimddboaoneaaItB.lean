import Derived.Test.YtgiimddboaoneaaItA
import Derived.Test.YtgiimddboaoneaaSxD
/-! slices.Collect of slices.Values, as a contract. -/
namespace Go.Proofs.Iter
open Go Go.Sx Go.RowKit

/-- What a row of its own says, as a row of ours. -/
theorem owned_row {w w' : World} {I : Imm} (hI : I.inW w) {e : TypeId} {v : Value} {n : Nat} {f : Nat → DV} {V : Nat → Value} (hv : ∀ i < n, Rep I (f i) (V i) ∧ isCell (f i) = true) (hc : ∀ i < n, cells (f i) = [f i])
    (h : w'.ownsRow w.heap.size e 1 v n ((List.range n).map V)) (hb : Below w.heap.size w w') : Res I (fun _ => none) w.heap.size w' (.own 1 n f) v := by
  obtain ⟨hlen, ⟨rfl, rfl⟩ | ⟨g, cap, cur, rfl, hg, hheap, hn, hcap, hsz, htake⟩⟩ := h
  · exact ⟨⟨none, 0, 1, 0, 0⟩, ⟨rfl, rfl, Nat.succ_pos 0, (fun b hb => by cases hb), fun _ => rfl⟩, .refnil 0 _ none rfl rfl, fun b hb => by cases hb⟩
  · simp only [Nat.mul_one] at hsz htake
    have hglt : g < w'.heap.size := by
      rcases Nat.lt_or_ge g w'.heap.size with h | h
      · exact h
      · rw [Array.getElem?_eq_none h] at hheap; cases hheap
    refine ⟨⟨some g, 0, 1, n, cap⟩, ⟨rfl, rfl, Nat.succ_pos 0, fun b hb' => ?_, fun hb' => by cases hb'⟩, .ref 0 0 n cap _ g _ rfl rfl hn (by simp) (by simp) (fun _ => by simp), fun b hb' => ?_⟩
    · obtain rfl := Option.some.inj hb'
      have hcell : ∀ j, w'.cell? ⟨g, j, none⟩ = cur[j]? := fun j => by simp only [World.cell?, hheap]; simp
      exact {
        there := fun j hj => by
          rw [hcell]
          have : j < cur.size := by rw [hsz]; exact hj
          simp [this]
        val := fun i j hi hj => by
          simp only [Row.n, Row.sz, Row.f] at hi hj ⊢
          obtain rfl : j = 0 := by omega
          refine ⟨V i, ?_, ?_⟩
          · rw [hcell]
            simp only [Nat.mul_one, Nat.zero_add, Nat.add_zero]
            have e1 : cur.toList[i]? = ((List.range n).map V)[i]? := by rw [← htake, List.getElem?_take, if_pos hi]
            rw [← Array.getElem?_toList, e1]
            simp [hi]
          · rw [hc i hi]; exact (hv i hi).1
        free := fun o _ => by
          simp only [World.frozen?, hheap]
          simp
        fits := by simp only [Row.n, Row.sz]; omega
        apart := fun o => by
          cases hI' : I g o with
          | none => rfl
          | some u =>
            have := block_lt (by rw [hI _ _ _ hI']; rfl)
            omega
        elem := fun i hi => by
          simp only [Row.n] at hi
          refine ⟨by simp only [Row.f, hc i hi, Row.sz, List.length_singleton], fun j hj => ?_⟩
          obtain rfl : j = 0 := by simp only [Row.sz] at hj; omega
          simp only [Row.f, hc i hi, nth]
          exact (hv i hi).2
        mark := fun c ty fr h => by
          rw [hheap] at h
          cases h
          exact .inl rfl }
    · obtain rfl := Option.some.inj hb'
      exact ⟨hg, hglt⟩
theorem collect_i8 (n : Nat) (g : Nat → Int) (hn : n ≤ 1000000000000) : Sx.Fn Try.prog 116 [.fn 118 [] [.eptr 1 1 (fun _ => .lst 1 false n (iK .i64 g)) 0 0]] [] fun d _ => d = .own 1 n (iK .i64 g) := by
  refine ⟨⟨Try.f116, _, Try.func116, by kernel_rfl, rfl⟩, fun w I vs β h1 h2 h3 h4 => ?_⟩
  obtain rfl : β = fun _ => none := funext fun κ => h4.dom κ rfl
  have hv0 := h3 0 (by simp)
  have hvs : vs.size = 1 := by simpa using h2
  simp only [nth] at hv0
  have harg : vs = #[vs.getD 0 undef] := by
    apply Array.ext
    · simp [hvs]
    · intro i a b
      obtain rfl : i = 0 := by omega
      simp [Array.getD, hvs]
  generalize vs.getD 0 undef = v0 at hv0 harg
  subst harg
  have key : ∃ (Bs : Nat) (o : Nat) (sv : Value), v0 = .func (.func 118) #[] #[.pointer (some ⟨Bs, o, none⟩)] ∧ w.cell? ⟨Bs, o, none⟩ = some sv ∧ Rep I (.lst 1 false n (iK .i64 g)) sv := by
    have inner : ∀ {b : Array Value}, b.size = 1 → RepK I (fun _ => none) (.eptr 1 1 (fun _ => .lst 1 false n (iK .i64 g)) 0 0) (b.getD 0 undef) → ∃ (Bs : Nat) (o : Nat) (sv : Value), b = #[.pointer (some ⟨Bs, o, none⟩)] ∧ w.cell? ⟨Bs, o, none⟩ = some sv ∧ Rep I (.lst 1 false n (iK .i64 g)) sv := by
      intro b hb hr
      have e : b = #[b.getD 0 undef] := by
        apply Array.ext
        · simp [hb]
        · intro i x y
          obtain rfl : i = 0 := by omega
          simp [Array.getD, hb]
      generalize b.getD 0 undef = u at hr e
      cases hr with
      | pure h =>
        cases h with
        | eptr _ _ _ _ _ bb c val k1 k2 k3 k4 =>
          exact ⟨bb, c, val 0, by rw [e]; rfl, h1 _ _ _ (k3 0 (by omega)), by have := k4 0 (by omega); simpa [cells, nth] using this⟩
    cases hv0 with
    | pure h =>
      cases h with
      | fn _ _ _ a b k1 k2 k3 k4 =>
        have ha : a = #[] := by simpa using k1
        obtain ⟨Bs, o, sv, e1, e2, e3⟩ := inner (by simpa using k2) (.pure (k4 0 (by simp)))
        exact ⟨Bs, o, sv, by rw [ha, e1], e2, e3⟩
    | fn _ _ _ a b k1 k2 k3 k4 =>
      have ha : a = #[] := by simpa using k1
      obtain ⟨Bs, o, sv, e1, e2, e3⟩ := inner (by simpa using k2) (k4 0 (by simp))
      exact ⟨Bs, o, sv, by rw [ha, e1], e2, e3⟩
  obtain ⟨Bs, o, sv, rfl, hcell, hsv⟩ := key
  have hH : i8_Holds w.heap.size w sv n g := by
    cases hsv with
    | lst _ _ _ _ a cap b off val k1 k2 k3 k4 k5 k6 k7 =>
      rcases Nat.eq_zero_or_pos n with h0 | h0
      · subst h0
        exact .inl ⟨a, cap, rfl, rfl⟩
      · obtain rfl := k4 h0
        refine .inr ⟨b, off, cap, rfl, ?_, fun j hj => ?_⟩
        · exact block_lt (by rw [h1 _ _ _ (k6 0 0 h0 (by omega))]; rfl)
        · have e1 := h1 _ _ _ (k6 j 0 hj (by omega))
          have e2 : Rep I (.int .i64 (g j)) (val j 0) := by simpa [iK, cells, nth] using k7 j 0 hj (by omega)
          generalize val j 0 = u at e1 e2
          cases e2
          simpa using e1
  refine (callsIn_wide.1 (i8_collect Fence.wide 4 trivial trivial trivial rfl (Nat.le_refl _) Bs o sv n g (by omega) w (block_lt (by rw [hcell]; rfl)) hcell hH)).mono ?_
  rintro e w' ⟨v, rfl, hrow, hb⟩
  refine ⟨v, .own 1 n (iK .i64 g), [], I, rfl, Imm.le.refl I, ?_, fun _ _ _ => rfl, ?_, ?_, rfl, ?_, rfl⟩
  · exact h1.of_heap fun b o u hu => hb.block b (block_lt (by rw [h1 _ _ _ hu]; rfl))
  · have e : ((upto g n).map fun x => Value.int .i64 x) = (List.range n).map fun i => .int .i64 (g i) := by simp [upto]
    rw [e] at hrow
    exact owned_row h1 (fun i _ => ⟨.int _ _, rfl⟩) (fun i _ => rfl) hrow hb
  · exact rows_none I w'
  · exact ⟨hb.os, hb.tape, hb.output, hb.size, fun b hb' _ => hb.block b hb'⟩
/-- A row in a cell. -/
def isRowD : DV → Bool
  | .lst .. | .nils => true
  | _ => false
theorem isRowD_cells {d : DV} (h : isRowD d = true) : cells d = [d] := by
  unfold isRowD at h
  split at h <;> first | rfl | cases h
theorem isRowD_isCell {d : DV} (h : isRowD d = true) : isCell d = true := by
  unfold isRowD at h
  split at h <;> first | rfl | cases h
def partsV : Value → Option Addr × Nat × Nat
  | .slice a n c => (a, n, c)
  | _ => (none, 0, 0)
theorem isRowD_val {d : DV} (h : isRowD d = true) {I : Imm} {v : Value} (hr : Rep I d v) : slcV (partsV v) = v := by
  unfold isRowD at h
  split at h
  · cases hr; rfl
  · cases hr; rfl
  · cases h
theorem collect_ro (n : Nat) (g : Nat → DV) (hg : ∀ i < n, isRowD (g i) = true) (hn : n ≤ 1000000000000) : Sx.Fn Try.prog 110 [.fn 112 [] [.eptr 1 1 (fun _ => .lst 1 false n (g)) 0 0]] [] fun d _ => d = .own 1 n (g) := by
  refine ⟨⟨Try.f110, _, Try.func110, by kernel_rfl, rfl⟩, fun w I vs β h1 h2 h3 h4 => ?_⟩
  obtain rfl : β = fun _ => none := funext fun κ => h4.dom κ rfl
  have hv0 := h3 0 (by simp)
  have hvs : vs.size = 1 := by simpa using h2
  simp only [nth] at hv0
  have harg : vs = #[vs.getD 0 undef] := by
    apply Array.ext
    · simp [hvs]
    · intro i a b
      obtain rfl : i = 0 := by omega
      simp [Array.getD, hvs]
  generalize vs.getD 0 undef = v0 at hv0 harg
  subst harg
  have key : ∃ (Bs : Nat) (o : Nat) (sv : Value), v0 = .func (.func 112) #[] #[.pointer (some ⟨Bs, o, none⟩)] ∧ w.cell? ⟨Bs, o, none⟩ = some sv ∧ Rep I (.lst 1 false n g) sv := by
    have inner : ∀ {b : Array Value}, b.size = 1 → RepK I (fun _ => none) (.eptr 1 1 (fun _ => .lst 1 false n (g)) 0 0) (b.getD 0 undef) → ∃ (Bs : Nat) (o : Nat) (sv : Value), b = #[.pointer (some ⟨Bs, o, none⟩)] ∧ w.cell? ⟨Bs, o, none⟩ = some sv ∧ Rep I (.lst 1 false n g) sv := by
      intro b hb hr
      have e : b = #[b.getD 0 undef] := by
        apply Array.ext
        · simp [hb]
        · intro i x y
          obtain rfl : i = 0 := by omega
          simp [Array.getD, hb]
      generalize b.getD 0 undef = u at hr e
      cases hr with
      | pure h =>
        cases h with
        | eptr _ _ _ _ _ bb c val k1 k2 k3 k4 =>
          exact ⟨bb, c, val 0, by rw [e]; rfl, h1 _ _ _ (k3 0 (by omega)), by have := k4 0 (by omega); simpa [cells, nth] using this⟩
    cases hv0 with
    | pure h =>
      cases h with
      | fn _ _ _ a b k1 k2 k3 k4 =>
        have ha : a = #[] := by simpa using k1
        obtain ⟨Bs, o, sv, e1, e2, e3⟩ := inner (by simpa using k2) (.pure (k4 0 (by simp)))
        exact ⟨Bs, o, sv, by rw [ha, e1], e2, e3⟩
    | fn _ _ _ a b k1 k2 k3 k4 =>
      have ha : a = #[] := by simpa using k1
      obtain ⟨Bs, o, sv, e1, e2, e3⟩ := inner (by simpa using k2) (k4 0 (by simp))
      exact ⟨Bs, o, sv, by rw [ha, e1], e2, e3⟩
  obtain ⟨Bs, o, sv, rfl, hcell, hsv⟩ := key
  have hH : ∃ zs : Nat → Option Addr × Nat × Nat, (∀ i < n, Rep I (g i) (slcV (zs i))) ∧ ro_Holds w.heap.size w sv n zs := by
    cases hsv with
    | lst _ _ _ _ a cap b off val k1 k2 k3 k4 k5 k6 k7 =>
      rcases Nat.eq_zero_or_pos n with h0 | h0
      · subst h0
        exact ⟨fun _ => (none, 0, 0), fun i hi => absurd hi (Nat.not_lt_zero _), .inl ⟨a, cap, rfl, rfl⟩⟩
      · obtain rfl := k4 h0
        have hs : ∀ j < n, Rep I (g j) (slcV (partsV (val j 0))) ∧ w.cell? ⟨b, off + j, none⟩ = some (slcV (partsV (val j 0))) := by
          intro j hj
          have e1 := h1 _ _ _ (k6 j 0 hj (by omega))
          have e2 : Rep I (g j) (val j 0) := by have := k7 j 0 hj (by omega); rw [isRowD_cells (hg j hj)] at this; exact this
          have e3 := isRowD_val (hg j hj) e2
          rw [e3]
          exact ⟨e2, by simpa using e1⟩
        refine ⟨fun j => partsV (val j 0), fun i hi => (hs i hi).1, .inr ⟨b, off, cap, rfl, ?_, fun j hj => (hs j hj).2⟩⟩
        exact block_lt (by rw [h1 _ _ _ (k6 0 0 h0 (by omega))]; rfl)
  obtain ⟨zs, hz, hH⟩ := hH
  refine (callsIn_wide.1 (ro_collect Fence.wide 4 trivial trivial trivial rfl (Nat.le_refl _) Bs o sv n zs (by omega) w (block_lt (by rw [hcell]; rfl)) hcell hH)).mono ?_
  rintro e w' ⟨v, rfl, hrow, hb⟩
  refine ⟨v, .own 1 n g, [], I, rfl, Imm.le.refl I, ?_, fun _ _ _ => rfl, ?_, ?_, rfl, ?_, rfl⟩
  · exact h1.of_heap fun b o u hu => hb.block b (block_lt (by rw [h1 _ _ _ hu]; rfl))
  · have e : ((upto zs n).map fun x => slcV x) = (List.range n).map fun i => slcV (zs i) := by simp [upto]
    rw [e] at hrow
    exact owned_row h1 (fun i hi => ⟨hz i hi, isRowD_isCell (hg i hi)⟩) (fun i hi => isRowD_cells (hg i hi)) hrow hb
  · exact rows_none I w'
  · exact ⟨hb.os, hb.tape, hb.output, hb.size, fun b hb' _ => hb.block b hb'⟩
end Go.Proofs.Iter
