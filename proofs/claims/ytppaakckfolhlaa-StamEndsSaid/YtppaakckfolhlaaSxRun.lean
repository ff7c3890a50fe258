import Derived.Test.YtppaakckfolhlaaSxStep
import Derived.Tactics
namespace Go.Sx
open Classical

section
variable {P : Program} {md : Modes} {C : Ctx} {I : Imm} {β : Nat → Option Loc} {st : St} {a : Act} {w : World}

theorem stepV_sound (hs : Sim C I β st a w) {o : Oper} {r : ROp} (hc : cOp P md o.op = some r) {g : Option (Nat × Bool)} {K : St → Prop} (hK : stepV (std P) ⟨o.dst, r, g, false⟩ st K) : OpOk P C a w o fun d st => K (st.put o.dst d) := by
  unfold stepV stepV0 at hK
  dsimp only at hK
  split at hK
  · rename_i ob v hq
    obtain ⟨rv, h1, h2⟩ := quiet_sound hs hc hq hK.1 rfl
    exact .value rv w h1 ⟨I, β, v, st, hs, h2, hK.2⟩
  · rename_i hq
    exact loud_sound hs rfl hc hq hK

/-- A place's data may be said otherwise. -/
theorem Sim.retmp (hs : Sim C I β st a w) {t : Nat} {d : DV} (hd : RepK I β d (a.tmps.getD t undef)) : Sim C I β ⟨setN st.T t d, st.σ⟩ a w := by
  refine hs.weaken (setN_length _ _ _) (fun _ _ h => h) ?_ hs.rows.dom (fun κ r h => ⟨h, rfl⟩)
  intro i hi
  simp only [nth_setN]
  split
  · rename_i h; subst h
    rw [if_pos hi]; exact hd
  · exact hs.tmps i hi

def boolV : Value → Option Bool
  | .bool b => some b
  | _ => none
theorem yielded_at {ops : Array Oper} {j t : Nat} (hj : (ops[j]?).bind (·.dst) = some t) (hs : Sim C I β st a w) (hn : nth st.T t ≠ .junk) {v : Value} (hv : a.tmps.getD t undef = v) :
    yielded ops a.tmps j = boolV v := by
  have ht : t < st.T.length := by
    rcases Nat.lt_or_ge t st.T.length with h | h
    · exact h
    · exact absurd (nth_ge h) hn
  have hsz : t < a.tmps.size := by rw [hs.size]; exact ht
  have he : a.tmps[t]? = some v := by
    rw [← hv]; simp [Array.getD, hsz]
  unfold yielded
  rw [hj]
  simp only [Option.bind_some, he]
  cases v <;> rfl

/-- One operation of a region. -/
theorem oper_sound (hs : Sim C I β st a w) {ops : Array Oper} {o : Oper} {K : St → Prop} (hK : stepG (std P) (cOper P md ops o) st K) {next : Act → World → Prop} {Q : Exit → Act → World → Prop}
    (hn : ∀ I β st a w, Sim C I β st a w → K st → next a w) :
    if Region.wanted o (yielded ops a.tmps) then o.wp P a w next Q ∨ (o.asks P a w ∧ LetsOut Q) else next (a.put o.dst undef) w := by
  unfold cOper at hK
  have bad : ∀ st', stepV (std P) ⟨o.dst, .bad, none, false⟩ st' K → False := by
    intro st' h; simp [stepV, stepV0, quietV, loudV] at h
  split at hK
  · exact (bad st hK).elim
  · rename_i r hr
    split at hK
    · rename_i hg
      simp only [Region.wanted, hg, if_true]
      exact .inl ((stepV_sound hs hr (g := none) hK).wp hn)
    · rename_i j want hg
      split at hK
      · rename_i t hj
        have htr := hs.tmp t
        -- the operation is done, or passed over
        have yes : ∀ st', Sim C I β st' a w → a.tmps.getD t undef = .bool want → nth st.T t ≠ .junk → stepV (std P) ⟨o.dst, r, some (t, want), false⟩ st' K →
            if Region.wanted o (yielded ops a.tmps) then o.wp P a w next Q ∨ (o.asks P a w ∧ LetsOut Q) else next (a.put o.dst undef) w := by
          intro st' hs' hv hnj hk
          have := yielded_at hj hs hnj hv
          simp only [Region.wanted, hg, this, boolV, beq_self_eq_true, if_true]
          exact .inl ((stepV_sound hs' hr hk).wp hn)
        have no : ∀ st', Sim C I β st' a w → ∀ v, a.tmps.getD t undef = v → v ≠ .bool want → nth st.T t ≠ .junk → K (st'.put o.dst .und) →
            if Region.wanted o (yielded ops a.tmps) then o.wp P a w next Q ∨ (o.asks P a w ∧ LetsOut Q) else next (a.put o.dst undef) w := by
          intro st' hs' v hv hne hnj hk
          have hy := yielded_at hj hs hnj hv
          have : Region.wanted o (yielded ops a.tmps) = false := by
            simp only [Region.wanted, hg, hy]
            cases v <;> first | rfl | skip
            rename_i b
            cases b <;> cases want <;> first | rfl | exact absurd rfl hne
          simp only [this, Bool.false_eq_true, if_false]
          exact hn _ _ _ _ _ (hs'.put o.dst (.pure .und)) hk
        unfold stepG at hK
        dsimp only at hK
        split at hK
        · rename_i hev
          rw [hev] at htr
          have hb := htr.inv_bool rfl
          split at hK
          · exact yes st hs hb (by rw [hev]; exact fun h => by cases h) hK
          · exact no st hs _ hb (by simp) (by rw [hev]; exact fun h => by cases h) hK
        · rename_i hev
          rw [hev] at htr
          have hb := htr.inv_bool rfl
          split at hK
          · exact no st hs _ hb (by simp) (by rw [hev]; exact fun h => by cases h) hK
          · exact yes st hs hb (by rw [hev]; exact fun h => by cases h) hK
        · rename_i b hev
          rw [hev] at htr
          have hb := htr.inv_bool rfl
          have hnj : nth st.T t ≠ .junk := by rw [hev]; exact fun h => by cases h
          have htt : b = true → Sim C I β ⟨setN st.T t .tt, st.σ⟩ a w := fun h => hs.retmp (by rw [hb, h]; exact .pure .tt)
          have hff : b = false → Sim C I β ⟨setN st.T t .ff, st.σ⟩ a w := fun h => hs.retmp (by rw [hb, h]; exact .pure .ff)
          split at hK
          · simp only [std] at hK
            cases hbb : b with
            | true => exact yes _ (htt hbb) (by rw [hb, hbb]) hnj (hK.1 hbb)
            | false => exact no _ (hff hbb) _ hb (by rw [hbb]; simp) hnj (hK.2 hbb)
          · simp only [std] at hK
            cases hbb : b with
            | true => exact no _ (htt hbb) _ hb (by rw [hbb]; simp) hnj (hK.1 hbb)
            | false => exact yes _ (hff hbb) (by rw [hb, hbb]) hnj (hK.2 hbb)
        · rename_i hev
          rw [hev] at htr
          have hu : a.tmps.getD t undef = undef := by
            generalize a.tmps.getD t undef = v at htr
            cases htr with | pure h => cases h; rfl
          exact no st hs _ hu (by simp [undef]) (by rw [hev]; exact fun h => by cases h) hK
        · exact hK.elim
      · exact (bad st hK).elim

theorem list_sound {ops : Array Oper} {K : St → Prop} {Q : Exit → Act → World → Prop} (hn : ∀ I β st a w, Sim C I β st a w → K st → Q .normal a w) :
    ∀ (l : List Oper) {I : Imm} {β : Nat → Option Loc} {st : St} {a : Act} {w : World}, Sim C I β st a w → runV (std P) (cOpers P md ops l) st K → wpList P ops Q l a w
  | [], I, β, st, a, w, hs, hK => hn _ _ _ _ _ hs hK
  | o :: l, I, β, st, a, w, hs, hK => by
    unfold wpList
    exact oper_sound hs hK fun I β st a w hs' hk => list_sound hn l hs' hk

/-- What holds at an end, told of acts and worlds. -/
def lift (C : Ctx) (Q : Ex → St → Prop) : Exit → Act → World → Prop
  | .normal, a, w => ∃ I β st, Sim C I β st a w ∧ Q .normal st
  | .exit j, a, w => ∃ I β st, Sim C I β st a w ∧ Q (.exit j) st
  | .ret, a, w => ∃ I β st, Sim C I β st a w ∧ Q .ret st
  | _, _, _ => False

end
end Go.Sx
