import Derived.Test.YtppaakckfolhlaaSxRefs
import Derived.Test.YtppaakckfolhlaaSxClear
namespace Go.Sx

section
variable {P : Program} {md : Modes} {C : Ctx} {I : Imm} {β : Nat → Option Loc} {st : St} {a : Act} {w : World}

/-- What an operation does. -/
inductive OpOk (P : Program) (C : Ctx) (a : Act) (w : World) (o : Oper) (K : DV → St → Prop) : Prop
  | value (v : Value) (w' : World) : (execOp a.eval o).run P w = .ok (.value v) w' → Lands C a K v w' → OpOk P C a w o K
  | skip (w' : World) : (execOp a.eval o).run P w = .ok .skip w' → Lands C a K undef w' → OpOk P C a w o K
  | enter (g : FuncId) (vs : Array Value) : (execOp a.eval o).run P w = .ok (.enter g vs) w → Upto P C a g vs w K → OpOk P C a w o K

theorem OpOk.of_value {o : Oper} {K : DV → St → Prop} (h : ∃ v w', (execOp a.eval o).run P w = .ok (.value v) w' ∧ Lands C a K v w') : OpOk P C a w o K :=
  let ⟨v, w', h1, h2⟩ := h; .value v w' h1 h2
theorem OpOk.of_skip {o : Oper} {K : DV → St → Prop} (h : ∃ w', (execOp a.eval o).run P w = .ok .skip w' ∧ Lands C a K undef w') : OpOk P C a w o K :=
  let ⟨w', h1, h2⟩ := h; .skip w' h1 h2

theorem OpOk.wp {o : Oper} {K : St → Prop} (h : OpOk P C a w o fun d st => K (st.put o.dst d)) {next : Act → World → Prop} {Q : Exit → Act → World → Prop}
    (hn : ∀ I β st a w, Sim C I β st a w → K st → next a w) : o.wp P a w next Q := by
  unfold Oper.wp
  have land : ∀ v w', Lands C a (fun d st => K (st.put o.dst d)) v w' → next (a.put o.dst v) w' := by
    rintro v w' ⟨I', β', d, st', h1, h2, h3⟩
    exact hn _ _ _ _ _ (h1.put o.dst h2) h3
  cases h with
  | value v w' h1 h2 => rw [h1, Oper.upon_value]; exact land v w' h2
  | skip w' h1 h2 => rw [h1, Oper.upon_skip]; exact land undef w' h2
  | enter g vs h1 h2 =>
    rw [h1, Oper.upon_enter]
    refine Calls.mono h2 ?_
    rintro e w' ⟨v, rfl, hl⟩
    exact land v w' hl

theorem loud_sound (hs : Sim C I β st a w) {o : Oper} {op : Op} (hop : o.op = op) {r : ROp} (hc : cOp P md op = some r) (hq : quietV (std P) st r = none) {κ : Nat} {K : DV → St → Prop} (hK : loudV (std P) κ r st K) : OpOk P C a w o K := by
  cases op with
  | pick c x y =>
    simp only [cOp] at hc
    split at hc
    · rename_i c' x' y' h1 h2 h3
      obtain rfl := Option.some.inj hc
      have hcr := arg_rep h1 hs
      have hgo : ∀ b : Bool, a.eval c = .bool b → K (ev st (if b then x' else y')) st → OpOk P C a w o K := by
        intro b hb hk
        refine .value (if b then a.eval x else a.eval y) w ?_ ⟨I, β, _, st, hs, ?_, hk⟩
        · simp [execOp, hop, hb, asBool]
        · cases b
          · exact arg_rep h3 hs
          · exact arg_rep h2 hs
      simp only [loudV] at hK
      split at hK
      · rename_i hev; rw [hev] at hcr; exact hgo true (hcr.inv_bool rfl) hK
      · rename_i hev; rw [hev] at hcr; exact hgo false (hcr.inv_bool rfl) hK
      · rename_i t hev
        rw [hev] at hcr
        simp only [std] at hK
        cases ht : t with
        | true => exact hgo true (by rw [hcr.inv_bool rfl, ht]) (hK.1 ht)
        | false => exact hgo false (by rw [hcr.inv_bool rfl, ht]) (hK.2 ht)
      · exact hK.elim
    · cases hc
  | alloc t =>
    simp only [cOp] at hc
    split at hc
    · rename_i sz by_ z hz
      obtain rfl := Option.some.inj hc
      exact .of_value (alloc_lands hs hop hz hK)
    · cases hc
  | box t x =>
    simp only [cOp] at hc
    split at hc
    · rename_i i y hi hy
      split at hc
      · rename_i hpos
        obtain rfl := Option.some.inj hc
        obtain ⟨J, γ, s1, _, _⟩ := hs.freeze (keysOf (ev st y))
        simp only [loudV] at hK
        split at hK
        · rename_i hok; exact .of_value (box_lands s1 hop hy hpos hok hK)
        · exact hK.elim
      · cases hc
    · cases hc
  | build t ps =>
    simp only [cOp] at hc
    split at hc
    · rename_i sz by_ cs fs hz hu
      split at hc
      · rename_i rs hr
        split at hc
        · obtain rfl := Option.some.inj hc; cases hq
        · obtain rfl := Option.some.inj hc
          split at hr
          · rename_i hall
            obtain ⟨J, γ, s1, _, _⟩ := hs.freeze (partKeys3 st rs)
            simp only [loudV] at hK
            split at hK
            · rename_i cs' hf; exact .of_value (build_lands s1 hop hz hu hall hr hf hK)
            · exact hK.elim
          · cases hr
      · cases hc
    · cases hc
  | buildSlice t n ps =>
    simp only [cOp] at hc
    split at hc
    · rename_i e he
      split at hc
      · rename_i sz by_ z r hz hr
        split at hc
        · rename_i hsm
          obtain rfl := Option.some.inj hc
          have ht : P.underlying t = some (.slice e) := by
            unfold tElem at he
            split at he
            · rename_i e' h; obtain rfl := Option.some.inj he; exact h
            · cases he
          obtain ⟨J, γ, s1, _, _⟩ := hs.freeze (partKeys st r)
          simp only [loudV] at hK
          split at hK
          · rename_i hok; exact .of_value (buildSlice_lands s1 hop ht hz hsm hr hok hK)
          · exact hK.elim
        · cases hc
      · cases hc
    · cases hc
  | store t x y =>
    simp only [cOp] at hc
    split at hc
    · rename_i i p q hi hp hq'
      split at hc
      · rename_i hpos
        obtain rfl := Option.some.inj hc
        obtain ⟨J, γ, s1, _, _⟩ := hs.freeze (keysOf (ev st q))
        simp only [loudV] at hK
        split at hK
        · rename_i hok; exact .of_skip (store_lands s1 hop hi hpos hp hq' hok hK)
        · exact hK.elim
      · cases hc
    · cases hc
  | makeSlice t l c =>
    simp only [cOp] at hc
    split at hc
    · rename_i e x y he hx hy
      split at hc
      · rename_i sz by_ z hz
        split at hc
        · rename_i hby
          obtain rfl := Option.some.inj hc
          have ht : P.underlying t = some (.slice e) := by
            unfold tElem at he
            split at he
            · rename_i e' h; obtain rfl := Option.some.inj he; exact h
            · cases he
          exact .of_value (makeSlice_lands hs hop ht hz hby hx hy hK)
        · cases hc
      · cases hc
    · cases hc
  | call c =>
    simp only [cOp] at hc
    split at hc
    · rename_i f hcal
      unfold cCall at hc
      split at hc
      · rename_i f' xs hf hxs
        have direct : r = .refs f' xs ∨ r = .lend f' xs ∨ r = .call f' xs := by
          split at hc
          · rename_i g
            have := Option.some.inj hc
            split at this
            · exact .inl this.symm
            · exact .inr (.inl this.symm)
            · exact .inr (.inr this.symm)
            · split at this
              · exact .inr (.inl this.symm)
              · exact .inr (.inr this.symm)
          · exact .inr (.inr (Option.some.inj hc).symm)
        rcases direct with rfl | rfl | rfl
        · simp only [loudV] at hK
          split at hK
          · rename_i g as_ bs hev
            have hen : Enters P g := by obtain ⟨rows, _, h2⟩ := hK; exact h2.1
            obtain ⟨vs, e1, e2, e3⟩ := call_enter hs hop hcal hf hxs hev hen
            exact .enter g vs e1 (refs_lands hs e2 e3 hK)
          · exact hK.elim
        · simp only [loudV] at hK
          split at hK
          · rename_i g as_ bs hev
            obtain ⟨vs, e1, e2, e3⟩ := call_enter hs hop hcal hf hxs hev hK.2.1
            exact .enter g vs e1 (lend_lands hs e2 e3 hK)
          · exact hK.elim
        · simp only [loudV] at hK
          split at hK
          · rename_i g as_ bs hev
            obtain ⟨vs, e1, e2, e3⟩ := call_enter hs hop hcal hf hxs hev hK.2.1
            exact .enter g vs e1 (call_lands hs e2 e3 hK)
          · exact hK.elim
      · cases hc
    · rename_i hcal
      split at hc
      · split at hc <;> first | (cases hc; done) | (obtain rfl := Option.some.inj hc; cases hq)
      · cases hc
    · rename_i hcal
      obtain ⟨xs, _, rfl⟩ := Option.map_eq_some_iff.1 hc; cases hq
    · rename_i hcal
      obtain ⟨xs, _, rfl⟩ := Option.map_eq_some_iff.1 hc; cases hq
    · rename_i hcal
      split at hc
      · rename_i xo yo t tx hargs htys
        split at hc
        · rename_i e p q he hp hq'
          have ht : P.underlying t = some (.slice e) := by
            unfold tElem at he
            split at he
            · rename_i e' h; obtain rfl := Option.some.inj he; exact h
            · cases he
          split at hc
          · rename_i es by_ z e' hz hu
            split at hc
            · rename_i hby
              obtain rfl := Option.some.inj hc
              exact .of_value (append_lands hs hop hcal hargs htys ht hz hby (.inl ⟨_, hu⟩) hp hq' hK)
            · cases hc
          · rename_i es by_ z hz hu
            split at hc
            · rename_i hby
              obtain rfl := Option.some.inj hc
              exact .of_value (append_lands hs hop hcal hargs htys ht hz hby (.inr hu) hp hq' hK)
            · cases hc
          · cases hc
        · cases hc
      · cases hc
    · split at hc
      · split at hc
        · split at hc
          · obtain rfl := Option.some.inj hc; exact hK.elim
          · cases hc
        · cases hc
      · cases hc
    · rename_i hcal
      split at hc
      · rename_i xo t hargs htys
        split at hc
        · rename_i e p he hp
          have ht : P.underlying t = some (.slice e) := by
            unfold tElem at he
            split at he
            · rename_i e' h; obtain rfl := Option.some.inj he; exact h
            · cases he
          split at hc
          · rename_i es by_ z hz
            obtain rfl := Option.some.inj hc
            exact .of_value (clear_lands hs hop hcal hargs htys ht hz hp hK)
          · cases hc
        · cases hc
      · cases hc
    · cases hc
  | move x => simp only [cOp, Option.map_eq_some_iff] at hc; obtain ⟨y, _, rfl⟩ := hc; cases hq
  | assign x => simp only [cOp, Option.map_eq_some_iff] at hc; obtain ⟨y, _, rfl⟩ := hc; cases hq
  | nilCheck x => simp only [cOp, Option.map_eq_some_iff] at hc; obtain ⟨y, _, rfl⟩ := hc; cases hq
  | unOp op t x => simp only [cOp, Option.map_eq_some_iff] at hc; obtain ⟨y, _, rfl⟩ := hc; cases hq
  | extract x j => simp only [cOp, Option.map_eq_some_iff] at hc; obtain ⟨y, _, rfl⟩ := hc; cases hq
  | load t x =>
    simp only [cOp] at hc
    split at hc
    · obtain rfl := Option.some.inj hc; cases hq
    · cases hc
  | binOp b t x y u =>
    simp only [cOp] at hc
    split at hc
    · split at hc <;> first | (cases hc; done) | (obtain rfl := Option.some.inj hc; cases hq; done) | skip
      split at hc
      · split at hc
        · cases hc
        · split at hc
          · obtain rfl := Option.some.inj hc; cases hq
          · obtain rfl := Option.some.inj hc; cases hq
          · cases hc
      · cases hc
    · cases hc
  | convert s d x =>
    simp only [cOp] at hc
    split at hc
    · split at hc
      · obtain rfl := Option.some.inj hc; cases hq
      · obtain rfl := Option.some.inj hc; cases hq
      · split at hc
        · obtain rfl := Option.some.inj hc; exact hK.elim
        · cases hc
      · split at hc
        · obtain rfl := Option.some.inj hc; cases hq
        · cases hc
      · cases hc
    · cases hc
  | slice t x lo hi mx =>
    simp only [cOp] at hc
    split at hc
    · split at hc
      · split at hc
        · split at hc
          · obtain rfl := Option.some.inj hc; cases hq
          · cases hc
        · cases hc
      · split at hc
        · obtain rfl := Option.some.inj hc; cases hq
        · cases hc
      · cases hc
    · cases hc
  | fieldAddr s x j =>
    simp only [cOp] at hc
    split at hc
    · split at hc
      · split at hc
        · split at hc
          · obtain rfl := Option.some.inj hc; cases hq
          · cases hc
        · cases hc
      · cases hc
    · cases hc
  | field s x j =>
    simp only [cOp] at hc
    split at hc
    · split at hc
      · split at hc
        · obtain rfl := Option.some.inj hc; cases hq
        · cases hc
      · cases hc
    · cases hc
  | indexAddr t x i =>
    simp only [cOp] at hc
    split at hc
    · split at hc
      · obtain rfl := Option.some.inj hc; cases hq
      · cases hc
    · cases hc
  | index t x i =>
    simp only [cOp] at hc
    split at hc
    · obtain rfl := Option.some.inj hc; cases hq
    · cases hc
  | makeFunc fn x y =>
    cases fn <;> simp only [cOp] at hc <;> try (cases hc; done)
    split at hc
    · obtain rfl := Option.some.inj hc; cases hq
    · cases hc
  | _ => simp only [cOp] at hc; cases hc
end
end Go.Sx
