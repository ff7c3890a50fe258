import Derived.Test.YtppaakckfolhlaaSxDraw3
namespace Go.Sx
open Classical

section
variable {P : Program} {md : Modes} {C : Ctx}

theorem Sim.nilrow {I : Imm} {β : Nat → Option Loc} {st : St} {a : Act} {w : World} (h : Sim C I β st a w) (t κ sz : Nat) (f : Nat → DV) : ∃ β', Sim C I β' (st.nilrow t κ sz f) a w := by
  unfold St.nilrow
  split
  · rename_i hT
    split
    · rename_i hκ
      split
      · rename_i hsz
        split
        · exact ⟨β, h⟩
        · rename_i hn
          obtain ⟨s1, _⟩ := h.newRow (κ := κ) (r := .arr sz 0 f) (l := ⟨none, 0, sz, 0, 0⟩) hκ hn (Frm.refl w _) (fun b hb => by cases hb) ⟨rfl, rfl, hsz, (fun b hb => by cases hb), fun _ => rfl⟩
          refine ⟨_, s1.retmp ?_⟩
          have ht := h.tmp t
          rw [hT] at ht
          generalize a.tmps.getD t undef = v at ht
          cases ht with
          | pure hr => cases hr; exact .refnil κ ⟨none, 0, sz, 0, 0⟩ none (by simp [updB]) rfl
      · exact ⟨β, h⟩
    · exact ⟨β, h⟩
  · exact ⟨β, h⟩
theorem Sim.nilrows {I : Imm} {a : Act} {w : World} : ∀ (ns : List (Nat × Nat × Nat × (Nat → DV))) {β : Nat → Option Loc} {st : St}, Sim C I β st a w → ∃ β', Sim C I β' (st.nilrows ns) a w
  | [], β, st, h => ⟨β, h⟩
  | (t, κ, sz, f) :: l, β, st, h => by
    obtain ⟨β1, h1⟩ := h.nilrow t κ sz f
    exact Sim.nilrows l h1
theorem least {p : Nat → Prop} (h : ∃ m, p m) : ∃ m, p m ∧ ∀ k, p k → m ≤ k := by
  obtain ⟨m, hm⟩ := h
  induction m using Nat.strongRecOn with
  | _ m ih =>
    by_cases hk : ∃ k, k < m ∧ p k
    · obtain ⟨k, h1, h2⟩ := hk; exact ih k h1 h2
    · exact ⟨m, hm, fun k hk' => Nat.le_of_not_lt fun hlt => hk ⟨k, hlt, hk'⟩⟩

theorem wps_sound (hm : P.follows .mixedOrders = true) : ∀ (c : Code) (Q : Ex → St → Prop) {I : Imm} {β : Nat → Option Loc} {st : St} {a : Act} {w : World}, okDraw P md c = true → wps (std P) (comp P md c) Q st → Sim C I β st a w → c.wp P (lift C Q) a w := by
  intro c
  induction c with
  | skip => intro Q I β st a w hd h hs; exact wp_skip ⟨I, β, st, hs, h⟩
  | ret => intro Q I β st a w hd h hs; exact wp_ret ⟨I, β, st, hs, h⟩
  | exit id => intro Q I β st a w hd h hs; exact wp_exit ⟨I, β, st, hs, h⟩
  | seq x y ihx ihy =>
    intro Q I β st a w hd h hs
    simp only [okDraw, Bool.and_eq_true] at hd
    have core : wps (std P) (comp P md x) (seqK (fun st => wps (std P) (comp P md y) Q st ∨ ∃ live keys, wps (std P) (comp P md y) Q (st.restr live keys)) Q) st → (Code.seq x y).wp P (lift C Q) a w := by
      intro h
      refine wp_seq (Code.wp_mono (fun e a w hq => ?_) (ihx _ hd.1 h hs))
      cases e <;> first | exact hq | skip
      obtain ⟨I, β, st, h1, h2⟩ := hq
      rcases h2 with h3 | ⟨live, keys, h3⟩
      · exact ihy _ hd.2 h3 h1
      · exact ihy _ hd.2 h3 (h1.restr live keys)
    have plain : wps (std P) (comp P md x) (seqK (wps (std P) (comp P md y) Q) Q) st → (Code.seq x y).wp P (lift C Q) a w := by
      intro h
      refine wp_seq (Code.wp_mono (fun e a w hq => ?_) (ihx _ hd.1 h hs))
      cases e <;> first | exact hq | skip
      obtain ⟨I, β, st, h1, h2⟩ := hq
      exact ihy _ hd.2 h2 h1
    simp only [comp, mkSeq] at h
    split at h
    · split at h
      · exact core h
      · exact plain h
    · exact plain h
  | block id x ih =>
    intro Q I β st a w hd h hs
    simp only [comp, wps] at h
    refine wp_block (Code.wp_mono (fun e a w hq => ?_) (ih _ hd h hs))
    cases e <;> first | exact hq | skip
    rename_i j
    obtain ⟨I, β, st, h1, h2⟩ := hq
    simp only [blockK] at h2
    simp only [Exit.inBlock]
    split at h2
    · rename_i e; subst e; rw [if_pos rfl]; exact ⟨I, β, st, h1, h2⟩
    · rename_i e; rw [if_neg e]; exact ⟨I, β, st, h1, h2⟩
  | cond c x y ihx ihy =>
    intro Q I β st a w hd h hs
    simp only [comp] at h
    simp only [okDraw, Bool.and_eq_true] at hd
    split at h
    · rename_i p hp
      simp only [wps] at h
      have hr := arg_rep hp hs
      split at h
      · rename_i hev; rw [hev] at hr; exact wp_cond (hr.inv_bool rfl) (ihx _ hd.1 h hs)
      · rename_i hev; rw [hev] at hr; exact wp_cond (hr.inv_bool rfl) (ihy _ hd.2 h hs)
      · rename_i t hev
        rw [hev] at hr
        simp only [std] at h
        refine wp_cond (hr.inv_bool rfl) ?_
        cases ht : t with
        | true => exact ihx _ hd.1 (h.1 ht) hs
        | false => exact ihy _ hd.2 (h.2 ht) hs
      · exact h.elim
    · exact h.elim
  | loop x ih =>
    intro Q I β st a w hd h hs
    simp only [comp, wps] at h
    obtain ⟨live, keys, ns, Inv, ⟨m0, h0⟩, hround⟩ := h
    obtain ⟨β0, hs0⟩ := hs.nilrows ns
    let J : Nat → Act → World → Prop := fun m a w => ∃ I β st, Sim C I β st a w ∧ Inv m st
    let μ : Act → World → Nat := fun a w => if h : ∃ m, J m a w then (least h).choose else 0
    have hμ : ∀ a w, (∃ m, J m a w) → J (μ a w) a w ∧ ∀ m, J m a w → μ a w ≤ m := by
      intro a w h
      have e : μ a w = (least h).choose := dif_pos h
      rw [e]
      exact (least h).choose_spec
    refine wp_loop (fun a w => ∃ m, J m a w) μ ⟨m0, _, _, _, hs0.restr live keys, h0⟩ ?_
    intro a w hJ
    obtain ⟨⟨I, β, st, h1, h2⟩, _⟩ := hμ a w hJ
    refine Code.wp_mono (fun e a' w' hq => ?_) (ih _ hd (hround _ st h2) h1)
    cases e <;> first | exact hq | skip
    obtain ⟨I', β', st', h3, m', hlt, h4⟩ := hq
    obtain ⟨β1, h5⟩ := h3.nilrows ns
    have hj : J m' a' w' := ⟨_, _, _, h5.restr live keys, h4⟩
    exact ⟨⟨m', hj⟩, Nat.lt_of_le_of_lt ((hμ a' w' ⟨m', hj⟩).2 m' hj) hlt⟩
  | region id ops draw =>
    intro Q I β st a w hd h hs
    cases draw with
    | false => 
      simp only [comp, wps] at h
      exact wp_region_list (list_sound (fun I β st a w h1 h2 => ⟨I, β, st, h1, h2⟩) _ hs h)
    | true =>
      simp only [comp, wps] at h
      exact region_any hm hd hs h
  | _ => intro Q I β st a w hd h hs; exact h.elim
end
end Go.Sx
