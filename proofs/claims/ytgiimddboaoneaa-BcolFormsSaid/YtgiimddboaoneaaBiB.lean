import Derived.Test.YtgiimddboaoneaaBiA
import Derived.Test.YtgiimddboaoneaaItB
/-! Small ones. -/
namespace Go.Proofs.Bi
open Go Go.Sx
set_option maxRecDepth 100000

theorem clone_fn (n : Nat) (t : Bool) (f : Nat → DV) (hn : n ≤ 140737488355328) : Sx.Fn Try.prog 55 [.lst 1 t n f] [] fun d _ => d = .own 1 n f := by
  have raw : Sx.Fn Try.prog 55 [.lst 1 t n f] [] fun d _ => (n = 0 ∧ d = .nils) ∨ d = .own 1 n f := by
    refine fn_at (md := md) (body := body55) Try.func55 (by kernel_rfl) (by kernel_rfl) (by kernel_rfl) follows draw55 ?_
    intro L hL Q' hQ
    cbv
    refine unkI hL fun b hb => ?_
    cbv
    refine brB hL (fun e => ?_) (fun _ => ?_)
    · cbv
      refine hQ _ _ (.inl ⟨?_, rfl⟩)
      rcases Nat.eq_zero_or_pos n with h | h
      · exact h
      · rw [hb h] at e; cases e
    · cbv
      refine ⟨roomI hL (by rw [naddI hL]; omega), ?_⟩
      simp only [app0 hL, naddI hL, Nat.zero_add]
      exact hQ _ _ (.inr rfl)
  refine (raw.nil [(1, f)]).mono ?_
  rintro d rs ⟨e, rfl, ⟨rfl, rfl⟩ | rfl⟩ <;> rfl
theorem clone_nil : Sx.Fn Try.prog 55 [.nils] [] fun d _ => d = .nils := by
  refine fn_at (md := md) (body := body55) Try.func55 (by kernel_rfl) (by kernel_rfl) (by kernel_rfl) follows draw55 ?_
  intro L hL Q' hQ
  cbv
  refine brB hL (fun _ => ?_) (fun e => by cases e)
  cbv
  exact hQ _ _ rfl
def cloneO : List DV → List Row → Option (DV × List Row)
  | [.lst 1 _ n f], [] => if n ≤ 140737488355328 then some (.own 1 n f, []) else none
  | [.nils], [] => some (.nils, [])
  | _, _ => none
theorem clone_is : ∀ ds rows d rs, cloneO ds rows = some (d, rs) → Sx.Fn Try.prog 55 ds rows fun d' rs' => d' = d ∧ rs' = rs := by
  intro ds rows d rs h
  unfold cloneO at h
  split at h
  · rename_i t n f
    split at h
    · rename_i hn
      simp only [Option.some.injEq, Prod.mk.injEq] at h
      obtain ⟨rfl, rfl⟩ := h
      exact (clone_fn n t f hn).norows
    · cases h
  · simp only [Option.some.injEq, Prod.mk.injEq] at h
    obtain ⟨rfl, rfl⟩ := h
    exact clone_nil.norows
  · cases h
theorem rep_lst_ext {I : Imm} {sz n : Nat} {t : Bool} {f f' : Nat → DV} {v : Value} (h : Rep I (.lst sz t n f) v) (e : ∀ i < n, f' i = f i) : Rep I (.lst sz false n f') v := by
  cases h with
  | lst _ _ _ _ a cap b o val h1 h2 h3 h4 h5 h6 h7 =>
    exact Rep.lst sz false n f' a cap b o val h1 h2 (fun h => by cases h) h4 (fun i hi => by rw [e i hi]; exact h5 i hi) h6 (fun i j hi hj => by rw [e i hi]; exact h7 i j hi hj)
theorem rep_nil_lst {I : Imm} {sz : Nat} {f : Nat → DV} {v : Value} (hsz : 0 < sz) (h : Rep I .nils v) : Rep I (.lst sz false 0 f) v := by
  cases h
  exact Rep.lst sz false 0 f none 0 0 0 (fun _ _ => undef) hsz (Nat.le_refl _) (fun _ => rfl) (fun h => absurd h (Nat.lt_irrefl _)) (fun i hi => absurd hi (Nat.not_lt_zero _)) (fun i j hi => absurd hi (Nat.not_lt_zero _)) (fun i j hi => absurd hi (Nat.not_lt_zero _))
/-- What a closure has captured, said otherwise. -/
theorem cap_ext {I : Imm} {β : Nat → Option Sx.Loc} {g : FuncId} {f f' : Nat → DV} {v : Value} (hc : isCell (f' 0) = true) (hcs : cells (f' 0) = [f' 0]) (hc0 : cells (f 0) = [f 0]) (e : ∀ u, Rep I (f 0) u → Rep I (f' 0) u)
    (h : RepK I β (.fn g [] [.eptr 1 1 f 0 0]) v) : RepK I β (.fn g [] [.eptr 1 1 f' 0 0]) v := by
  have inner : ∀ {u : Value}, Rep I (.eptr 1 1 f 0 0) u → Rep I (.eptr 1 1 f' 0 0) u := by
    intro u hr
    cases hr with
    | eptr _ _ _ _ _ bb c val k1 k2 k3 k4 =>
      refine Rep.eptr 1 1 f' 0 0 bb c val k1 ⟨by rw [hcs]; rfl, fun j hj => ?_⟩ k3 (fun j hj => ?_)
      · obtain rfl : j = 0 := by omega
        rw [hcs]; exact hc
      · obtain rfl : j = 0 := by omega
        have := k4 0 (by omega)
        rw [hc0] at this
        rw [hcs]; exact e _ this
  have innerK : ∀ {u : Value}, RepK I β (.eptr 1 1 f 0 0) u → RepK I β (.eptr 1 1 f' 0 0) u := by
    intro u hr
    cases hr with
    | pure h => exact .pure (inner h)
  cases h with
  | pure h =>
    cases h with
    | fn _ _ _ a b k1 k2 k3 k4 =>
      refine .pure (Rep.fn g [] _ a b k1 k2 k3 (fun j hj => ?_))
      obtain rfl : j = 0 := by simp at hj; omega
      exact inner (k4 0 (by simp))
  | fn _ _ _ a b k1 k2 k3 k4 =>
    refine .fn g [] _ a b k1 k2 k3 (fun j hj => ?_)
    obtain rfl : j = 0 := by simp at hj; omega
    exact innerK (k4 0 (by simp))
/-- The number in a cell. -/
def numD : DV → Int
  | .int _ x => x
  | _ => 0
def isI64 : DV → Bool
  | .int .i64 _ => true
  | _ => false
theorem isI64_eq {d : DV} (h : isI64 d = true) : .int .i64 (numD d) = d := by
  unfold isI64 at h
  split at h
  · rfl
  · cases h
def collectO : List DV → List Row → Option (DV × List Row)
  | [.fn 118 [] [.eptr 1 1 f 0 0]], [] => (match f 0 with
    | .lst 1 _ n g => if n ≤ 1000000000000 then (if allTo (fun i => isI64 (g i)) n = true then some (.own 1 n (iK .i64 fun i => numD (g i)), []) else none) else none
    | .nils => some (.own 1 0 (iK .i64 fun _ => 0), [])
    | _ => none)
  | _, _ => none
theorem collect_is : ∀ ds rows d rs, collectO ds rows = some (d, rs) → Sx.Fn Try.prog 116 ds rows fun d' rs' => d' = d ∧ rs' = rs := by
  intro ds rows d rs h
  unfold collectO at h
  split at h
  · rename_i f
    split at h
    · rename_i t n g e
      split at h
      · rename_i hn
        split at h
        · rename_i ha
          simp only [Option.some.injEq, Prod.mk.injEq] at h
          obtain ⟨rfl, rfl⟩ := h
          refine (Fn.sub (ds' := [.fn 118 [] [.eptr 1 1 f 0 0]]) (Iter.collect_i8 n (fun i => numD (g i)) hn) rfl ?_).norows
          intro j hj I β v hr
          obtain rfl : j = 0 := by simp at hj; omega
          refine cap_ext (f := f) rfl rfl (by rw [e]; rfl) ?_ hr
          intro u hu
          rw [e] at hu
          exact rep_lst_ext hu (fun i hi => isI64_eq (allTo_eq ha i hi))
        · cases h
      · cases h
    · rename_i e
      simp only [Option.some.injEq, Prod.mk.injEq] at h
      obtain ⟨rfl, rfl⟩ := h
      refine (Fn.sub (ds' := [.fn 118 [] [.eptr 1 1 f 0 0]]) (Iter.collect_i8 0 (fun _ => 0) (by omega)) rfl ?_).norows
      intro j hj I β v hr
      obtain rfl : j = 0 := by simp at hj; omega
      refine cap_ext (f := f) rfl rfl (by rw [e]; rfl) ?_ hr
      intro u hu
      rw [e] at hu
      exact rep_nil_lst (Nat.succ_pos 0) hu
    · cases h
  · cases h
end Go.Proofs.Bi
