import Derived.Test.YtppaakckfolhlaaSxDraw
namespace Go.Sx

section
variable {P : Program} {md : Modes} {C : Ctx} {I : Imm} {β : Nat → Option Loc} {st : St} {a : Act} {w : World}

theorem addRow_mono {st : St} {κ : Nat} {r : Row} {K K' : St → Prop} (h : addRow st κ r K) (hk : ∀ s, K s → K' s) : addRow st κ r K' := by
  unfold addRow at h ⊢
  split at h
  · rename_i hlt
    rw [if_pos hlt]
    cases hl : look st.σ κ with
    | some r' => simp only [hl] at h
    | none => simp only [hl] at h; exact hk _ h
  · exact h.elim
theorem bindL_mono {κ : Nat} : ∀ (ds : List DV) (j : Nat) (st : St) (K K' : List DV → St → Prop), bindL κ j ds st K → (∀ l s, K l s → K' l s) → bindL κ j ds st K'
  | [], _, _, _, _, h, hk => hk _ _ h
  | d :: l, j, st, K, K', h, hk => by
    by_cases hf : isFresh d = true
    · cases d <;> first
        | (cases hf; done)
        | (simp only [bindL] at h ⊢; exact addRow_mono h (fun s hs => bindL_mono l _ _ _ _ hs (fun _ _ => hk _ _)))
    · have hf : isFresh d = false := by simpa using hf
      rw [bindL_plain hf] at h ⊢
      exact bindL_mono l _ _ _ _ h (fun _ _ => hk _ _)
theorem bindR_mono {κ : Nat} {d : DV} {st : St} {K K' : DV → St → Prop} (h : bindR κ d st K) (hk : ∀ d s, K d s → K' d s) : bindR κ d st K' := by
  cases d
  case own => exact addRow_mono h (fun s hs => hk _ _ hs)
  case obox => exact addRow_mono h (fun s hs => hk _ _ hs)
  case tup => exact bindL_mono _ _ _ _ _ h (fun _ _ => hk _ _)
  all_goals exact hk _ _ h

theorem storeV_mono {st : St} {p : DV} {n : Nat} {vs : List DV} {K K' : DV → St → Prop} (h : storeV (std P) st p n vs K) (hk : ∀ d s, K d s → K' d s) : storeV (std P) st p n vs K' := by
  cases p <;> first | exact h.elim | skip
  rename_i k i off
  simp only [storeV] at h ⊢
  cases hl : look st.σ k with
  | none => simp only [hl] at h
  | some r =>
    cases r <;> simp only [hl] at h ⊢
    · split at h
      · rename_i hin; rw [if_pos hin]; exact hk _ _ h
      · exact h.elim
    · split at h
      · rename_i hin; rw [if_pos hin]; exact hk _ _ h
      · exact h.elim
theorem makeV_mono {n b κ : Nat} {z l c : DV} {st : St} {K K' : DV → St → Prop} (h : makeV (std P) n b z κ st l c K) (hk : ∀ d s, K d s → K' d s) : makeV (std P) n b z κ st l c K' := by
  cases l <;> first | exact h.elim | skip
  cases c <;> first | exact h.elim | skip
  exact ⟨h.1, addRow_mono h.2 (fun s hs => hk _ _ hs)⟩
theorem appendV_mono {n b κ : Nat} {x y : DV} {st : St} {K K' : DV → St → Prop} (h : appendV (std P) n b κ x y st K) (hk : ∀ d s, K d s → K' d s) : appendV (std P) n b κ x y st K' := by
  unfold appendV at h ⊢
  cases hc : cont (std P) st n y with
  | none => simp only [hc] at h
  | some p =>
    obtain ⟨m, g⟩ := p
    simp only [hc] at h ⊢
    cases x <;> first | exact h.elim | skip
    · exact ⟨h.1, addRow_mono h.2 (fun s hs => hk _ _ hs)⟩
    · exact ⟨h.1, h.2.1, h.2.2.1, h.2.2.2.1, addRow_mono h.2.2.2.2 (fun s hs => hk _ _ hs)⟩
    · rename_i k o n'
      dsimp only at h ⊢
      cases hl : look st.σ k with
      | none => simp only [hl] at h
      | some r =>
        cases r <;> simp only [hl] at h ⊢
        exact ⟨h.1, h.2.1, h.2.2.1, addRow_mono h.2.2.2 (fun s hs => hk _ _ hs)⟩

theorem clearV_mono {n : Nat} {z x : DV} {st : St} {K K' : DV → St → Prop} (h : clearV (std P) n z st x K) (hk : ∀ d s, K d s → K' d s) : clearV (std P) n z st x K' := by
  cases x <;> first | exact h.elim | skip
  rename_i k o n'
  simp only [clearV] at h ⊢
  cases hl : look st.σ k with
  | none => simp only [hl] at h
  | some r => cases r <;> simp only [hl] at h ⊢; exact ⟨h.1, hk _ _ h.2⟩
theorem loudV_mono {κ : Nat} {r : ROp} {st : St} {K K' : DV → St → Prop} (h : loudV (std P) κ r st K) (hk : ∀ d s, K d s → K' d s) : loudV (std P) κ r st K' := by
  cases r <;> simp only [loudV] at h ⊢
  case pick c x y =>
    cases hev : ev st c <;> simp only [hev] at h ⊢
    · exact ⟨fun hb => hk _ _ (h.1 hb), fun hb => hk _ _ (h.2 hb)⟩
    · exact hk _ _ h
    · exact hk _ _ h
  case alloc => exact addRow_mono h (fun s hs => hk _ _ hs)
  case box n x =>
    split at h
    · rename_i hok; rw [if_pos hok]; exact addRow_mono h (fun s hs => hk _ _ hs)
    · exact h.elim
  case build z ps =>
    generalize fillP (st.freeze (partKeys3 st ps)) ps z = q at h ⊢
    cases q
    · exact h.elim
    · exact hk _ _ h
  case buildSlice =>
    split at h
    · rename_i hok; rw [if_pos hok]; exact addRow_mono h (fun s hs => hk _ _ hs)
    · exact h.elim
  case store n x y =>
    split at h
    · rename_i hok; rw [if_pos hok]; exact storeV_mono h hk
    · exact h.elim
  case makeSlice => exact makeV_mono h hk
  case call f xs =>
    cases hev : ev st f <;> simp only [hev] at h ⊢
    exact ⟨h.1, h.2.mono fun d rs hb => bindR_mono hb hk⟩
  case lend f xs =>
    cases hev : ev st f <;> simp only [hev] at h ⊢
    exact ⟨h.1, h.2.mono fun d rs hb => ⟨hb.1, bindR_mono hb.2 hk⟩⟩
  case refs f xs =>
    cases hev : ev st f <;> simp only [hev] at h ⊢
    obtain ⟨rows, h1, h2⟩ := h
    exact ⟨rows, h1, h2.mono fun d rs hb => bindR_mono hb hk⟩
  case append n b x y => exact appendV_mono h hk
  case clear es z x => exact clearV_mono h hk

theorem stepV_mono {o : ROper} {st : St} {K K' : St → Prop} (h : stepV (std P) o st K) (hk : ∀ s, K s → K' s) : stepV (std P) o st K' := by
  unfold stepV stepV0 at h ⊢
  cases hs : o.strict <;> cases hq : quietV (std P) st o.op <;> simp only [hs, hq] at h ⊢
  · exact loudV_mono h (fun d s hs => hk _ hs)
  · exact ⟨h.1, hk _ h.2⟩
  · exact ⟨h.1, h.2.1, h.2.2.1, hk _ h.2.2.2⟩
theorem stepG_mono {o : ROper} {st : St} {K K' : St → Prop} (h : stepG (std P) o st K) (hk : ∀ s, K s → K' s) : stepG (std P) o st K' := by
  rw [stepG_gd] at h ⊢
  exact gd_mono h (fun s hs => stepV_mono hs hk) (fun s hs => hk _ hs)

end
end Go.Sx
