import Derived.Test.YtppaakckfolhlaaSxEq
namespace Go.Sx
section
variable {P : Program} {md : Modes} {C : Ctx} {I : Imm} {β : Nat → Option Loc} {st : St} {a : Act} {w : World}

theorem quiet_sound (hs : Sim C I β st a w) {op : Op} {r : ROp} (hc : cOp P md op = some r) {ob : Prop} {v : DV} (hq : quietV (std P) st r = some (ob, v)) (hob : ob) {o : Oper} (ho : o.op = op) : Good P I β w a o v := by
  cases op with
  | move x =>
    simp only [cOp, Option.map_eq_some_iff] at hc
    obtain ⟨y, hy, rfl⟩ := hc
    simp only [quietV, Option.some.injEq, Prod.mk.injEq] at hq
    obtain ⟨_, rfl⟩ := hq
    exact ⟨a.eval x, by simp [execOp, ho], arg_rep hy hs⟩
  | assign x =>
    simp only [cOp, Option.map_eq_some_iff] at hc
    obtain ⟨y, hy, rfl⟩ := hc
    simp only [quietV, Option.some.injEq, Prod.mk.injEq] at hq
    obtain ⟨_, rfl⟩ := hq
    exact ⟨a.eval x, by simp [execOp, ho], arg_rep hy hs⟩
  | load t x =>
    simp only [cOp] at hc
    split at hc
    · rename_i g n y ht hy
      obtain rfl := Option.some.inj hc
      simp only [quietV, Option.some.injEq] at hq
      obtain ⟨rv, h1, h2⟩ := load_good hs ht hq hob (arg_rep hy hs)
      exact ⟨rv, by simp [execOp, ho, h1], .pure h2⟩
    · cases hc
  | nilCheck x =>
    simp only [cOp, Option.map_eq_some_iff] at hc
    obtain ⟨y, hy, rfl⟩ := hc
    simp only [quietV, Option.some.injEq] at hq
    exact nilCheck_good ho hq hob (arg_rep hy hs)
  | binOp op t x y yt =>
    simp only [cOp] at hc
    split at hc
    · rename_i d e hx hy
      have plain : ∀ {c : Nat}, some (ROp.binOp c op d e) = some r → ClsOk P t c → Good P I β w a o v := by
        intro c h1 h2
        obtain rfl := Option.some.inj h1
        simp only [quietV, Option.some.injEq] at hq
        exact bin_good ho h2 hq hob (arg_rep hx hs) (arg_rep hy hs)
      split at hc
      · exact plain hc trivial
      · exact plain hc trivial
      · rename_i ht; exact plain hc ht
      · rename_i ht; exact plain hc ⟨_, ht⟩
      · rename_i fs ht
        split at hc
        · rename_i l hl
          split at hc
          · cases hc
          · rename_i hst
            have hst : P.stoodInHeld t = false := by simpa using hst
            split at hc
            · obtain rfl := Option.some.inj hc
              simp only [quietV, Option.some.injEq] at hq
              exact eqS_good ho (.inl ⟨rfl, rfl⟩) ht hl hst hq hob (arg_rep hx hs) (arg_rep hy hs)
            · obtain rfl := Option.some.inj hc
              simp only [quietV, Option.some.injEq] at hq
              exact eqS_good ho (.inr ⟨rfl, rfl⟩) ht hl hst hq hob (arg_rep hx hs) (arg_rep hy hs)
            · cases hc
        · cases hc
      · cases hc
    · cases hc
  | unOp op t x =>
    simp only [cOp, Option.map_eq_some_iff] at hc
    obtain ⟨y, hy, rfl⟩ := hc
    simp only [quietV, Option.some.injEq] at hq
    exact un_good ho hq hob (arg_rep hy hs)
  | convert s t x =>
    simp only [cOp] at hc
    split at hc
    · rename_i y hy
      have hr := arg_rep hy hs
      split at hc
      · rename_i k0 k h1 h2
        obtain rfl := Option.some.inj hc
        simp only [quietV, Option.some.injEq] at hq
        split at hq
        · rename_i k1 n he
          obtain ⟨_, rfl⟩ := Prod.mk.inj hq
          rw [he] at hr
          exact convI_good ho h1 h2 hr
        · exact (no_false hq hob).elim
      · rename_i h1 h2
        obtain rfl := Option.some.inj hc
        simp only [quietV, Option.some.injEq] at hq
        split at hq
        · rename_i z he
          obtain ⟨_, rfl⟩ := Prod.mk.inj hq
          rw [he] at hr
          exact convS_good ho h1 h2 hr
        · exact (no_false hq hob).elim
      · split at hc
        · obtain rfl := Option.some.inj hc
          cases hq
        · cases hc
      · rename_i el h1 h2
        split at hc
        · rename_i he
          obtain rfl := Option.some.inj hc
          simp only [quietV, Option.some.injEq] at hq
          have he' : P.underlying el = some (.int .u8) := by
            unfold tInt at he
            split at he
            · rename_i k hk; obtain rfl := Option.some.inj he; exact hk
            · cases he
          exact toStr_good hs ho h1 he' h2 hq hob hr
        · cases hc
      · cases hc
    · cases hc
  | slice t x lo hi mx =>
    simp only [cOp] at hc
    split at hc
    · rename_i y l h m hy hl hh hm
      split at hc
      · rename_i e he
        split at hc
        · rename_i i hi'
          split at hc
          · rename_i hcond
            obtain ⟨hpos, hmh⟩ := hcond
            obtain rfl := Option.some.inj hc
            simp only [quietV, Option.some.injEq] at hq
            refine slice_good hs ho hl hh hm ?_ (.inl ⟨e, i, he, hi', rfl, hpos⟩) hq hob (arg_rep hy hs)
            intro h1 h2
            subst h2
            cases mx with
            | none => exact h1 rfl
            | some _ => simp at hmh
          · cases hc
        · cases hc
      · rename_i he
        split at hc
        · rename_i hcond
          obtain rfl := Option.some.inj hc
          simp only [quietV, Option.some.injEq] at hq
          refine slice_good hs ho hl hh hm ?_ (.inr ⟨he, rfl⟩) hq hob (arg_rep hy hs)
          intro h1
          cases mx with
          | none => exact absurd rfl h1
          | some _ => simp at hcond
        · cases hc
      · cases hc
    · cases hc
  | fieldAddr s x j =>
    simp only [cOp] at hc
    split at hc
    · rename_i fs y hs' hy
      split at hc
      · rename_i f hf
        split at hc
        · rename_i i hi
          split at hc
          · rename_i hpos
            obtain rfl := Option.some.inj hc
            simp only [quietV, Option.some.injEq] at hq
            exact fieldAddr_good ho hs' hf hi hpos hq hob (arg_rep hy hs)
          · cases hc
        · cases hc
      · cases hc
    · cases hc
  | field s x j =>
    simp only [cOp] at hc
    split at hc
    · rename_i fs y hs' hy
      split at hc
      · rename_i f hf
        split at hc
        · rename_i g n hi
          obtain rfl := Option.some.inj hc
          simp only [quietV, Option.some.injEq] at hq
          have hr := arg_rep hy hs
          split at hq
          · rename_i cs he
            rw [he] at hr
            exact field_good ho hs' hf hi hq hob hr
          · exact (no_false hq hob).elim
        · cases hc
      · cases hc
    · cases hc
  | indexAddr t x i =>
    simp only [cOp] at hc
    split at hc
    · rename_i e y z ht hy hz
      split at hc
      · rename_i ti hti
        obtain rfl := Option.some.inj hc
        simp only [quietV, Option.some.injEq] at hq
        have ht' : P.underlying t = some (.slice e) := by
          unfold tElem at ht
          split at ht
          · rename_i k hk; obtain rfl := Option.some.inj ht; exact hk
          · cases ht
        exact indexAddr_good hs ho ht' hti hq hob (arg_rep hy hs) (arg_rep hz hs)
      · cases hc
    · cases hc
  | index t x i =>
    simp only [cOp] at hc
    split at hc
    · rename_i y z ht hy hz
      obtain rfl := Option.some.inj hc
      simp only [quietV, Option.some.injEq] at hq
      exact index_good ho ht hq hob (arg_rep hy hs) (arg_rep hz hs)
    · cases hc
  | extract x j =>
    simp only [cOp, Option.map_eq_some_iff] at hc
    obtain ⟨y, hy, rfl⟩ := hc
    simp only [quietV, Option.some.injEq] at hq
    have hr := arg_rep hy hs
    split at hq
    · rename_i ds he
      split at hq
      · rename_i hj
        obtain ⟨_, rfl⟩ := Prod.mk.inj hq
        rw [he] at hr
        rw [len_length] at hj
        exact extract_good ho hj hr
      · exact (no_false hq hob).elim
    · exact (no_false hq hob).elim
  | makeFunc f x y =>
    cases f with
    | func g =>
      simp only [cOp] at hc
      split at hc
      · rename_i p q hp hq'
        obtain rfl := Option.some.inj hc
        simp only [quietV, Option.some.injEq, Prod.mk.injEq] at hq
        obtain ⟨_, rfl⟩ := hq
        exact makeFunc_good hs ho hp hq'
      · cases hc
    | _ => simp only [cOp] at hc; cases hc
  | call c =>
    simp only [cOp] at hc
    split at hc
    · rename_i f hcal
      unfold cCall at hc
      split at hc
      · split at hc
        · obtain rfl := Option.some.inj hc
          split at hq <;> first | (cases hq; done) | (split at hq <;> cases hq)
        · obtain rfl := Option.some.inj hc
          cases hq
      · cases hc
    · rename_i hcal
      split at hc
      · rename_i x t ts hargs hts
        split at hc
        · rename_i y hy ht
          obtain rfl := Option.some.inj hc
          simp only [quietV, Option.some.injEq] at hq
          exact len_good hs ho hcal hargs hts (sb := true) ht hq hob (arg_rep hy hs)
        · rename_i y e hy ht
          obtain rfl := Option.some.inj hc
          simp only [quietV, Option.some.injEq] at hq
          exact len_good hs ho hcal hargs hts (sb := false) ⟨e, ht⟩ hq hob (arg_rep hy hs)
        · cases hc
      · cases hc
    · rename_i hcal
      simp only [Option.map_eq_some_iff] at hc
      obtain ⟨xs, hxs, rfl⟩ := hc
      simp only [quietV, Option.some.injEq] at hq
      exact max_good hs ho hcal hxs hq hob
    · rename_i hcal
      simp only [Option.map_eq_some_iff] at hc
      obtain ⟨xs, hxs, rfl⟩ := hc
      simp only [quietV, Option.some.injEq] at hq
      exact min_good hs ho hcal hxs hq hob
    · split at hc
      · split at hc
        · split at hc
          · split at hc
            · obtain rfl := Option.some.inj hc; cases hq
            · cases hc
          · split at hc
            · obtain rfl := Option.some.inj hc; cases hq
            · cases hc
          · cases hc
        · cases hc
      · cases hc
    · split at hc
      · split at hc
        · split at hc
          · obtain rfl := Option.some.inj hc; cases hq
          · cases hc
        · cases hc
      · cases hc
    · split at hc
      · split at hc
        · split at hc
          · obtain rfl := Option.some.inj hc; cases hq
          · cases hc
        · cases hc
      · cases hc
    · cases hc
  | pick c x y =>
    simp only [cOp] at hc
    split at hc
    · obtain rfl := Option.some.inj hc; cases hq
    · cases hc
  | alloc t =>
    simp only [cOp] at hc
    split at hc
    · obtain rfl := Option.some.inj hc; cases hq
    · cases hc
  | box t x =>
    simp only [cOp] at hc
    split at hc
    · split at hc
      · obtain rfl := Option.some.inj hc; cases hq
      · cases hc
    · cases hc
  | build t ps =>
    simp only [cOp] at hc
    split at hc
    · rename_i sz by_ cs fs hz hu
      split at hc
      · rename_i rs hr
        split at hr
        · rename_i hall
          split at hc
          · obtain rfl := Option.some.inj hc
            simp only [quietV, Option.some.injEq] at hq
            split at hq
            · rename_i cs' hf
              obtain ⟨_, rfl⟩ := Prod.mk.inj hq
              exact build_good hs ho hz hu hall hr hf
            · exact (no_false hq hob).elim
          · obtain rfl := Option.some.inj hc; cases hq
        · cases hr
      · cases hc
    · cases hc
  | buildSlice t n ps =>
    simp only [cOp] at hc
    split at hc
    · split at hc
      · split at hc
        · obtain rfl := Option.some.inj hc; cases hq
        · cases hc
      · cases hc
    · cases hc
  | store t x y =>
    simp only [cOp] at hc
    split at hc
    · split at hc
      · obtain rfl := Option.some.inj hc; cases hq
      · cases hc
    · cases hc
  | makeSlice t l c =>
    simp only [cOp] at hc
    split at hc
    · split at hc
      · split at hc
        · obtain rfl := Option.some.inj hc; cases hq
        · cases hc
      · cases hc
    · cases hc
  | _ => simp only [cOp] at hc; cases hc
end
end Go.Sx
