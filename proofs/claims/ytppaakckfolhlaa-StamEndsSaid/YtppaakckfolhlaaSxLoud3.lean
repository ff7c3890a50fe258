import Derived.Test.YtppaakckfolhlaaSxLoud2
namespace Go.Sx

section
variable {P : Program} {md : Modes} {C : Ctx} {I : Imm} {β : Nat → Option Loc} {st : St} {a : Act} {w : World}

theorem mul_lt {i k sz j q : Nat} (h : i < k) (hj : j < sz) : i * sz + j < k * sz + q := by
  have := Nat.mul_le_mul_right sz (show i + 1 ≤ k by omega)
  rw [Nat.add_mul] at this
  omega

/-- Which cell is written. -/
theorem in_elem {lo i i' off n sz j : Nat} (hin : off + n ≤ sz) (hj : j < sz) :
    (lo + i * sz + off ≤ lo + i' * sz + j ∧ lo + i' * sz + j < lo + i * sz + off + n) ↔ (i' = i ∧ off ≤ j ∧ j < off + n) := by
  constructor
  · intro ⟨h1, h2⟩
    have : i' = i := by
      rcases Nat.lt_trichotomy i' i with h | h | h
      · have := mul_lt (sz := sz) (j := j) (q := 0) h hj; omega
      · exact h
      · have := mul_lt (sz := sz) (j := off + n - 1) (q := 0) h (by omega); omega
    subst this
    exact ⟨rfl, by omega, by omega⟩
  · rintro ⟨rfl, h1, h2⟩
    omega

theorem store_lands (hs : Sim C I β st a w) {t : TypeId} {x y : Operand} {o : Oper} (ho : o.op = .store t x y) {i : TypeInfo} (hi : P.info? t = some i) (hpos : 0 < i.size) {p q : Arg} (hp : cArg x = some p) (hq : cArg y = some q)
    (hok : okCells i.size (ev st q) = true) {K : DV → St → Prop} (hK : storeV (std P) st (ev st p) i.size (cells (ev st q)) K) :
    ∃ w', (execOp a.eval o).run P w = .ok .skip w' ∧ Lands C a K undef w' := by
  have hpx := arg_rep hp hs
  have hrep := (arg_rep hq hs).toRep (okCells_iff hok).2.2
  obtain ⟨k1, k2, _⟩ := okCells_iff hok
  obtain ⟨c1, c2, c3⟩ := hrep.cells hok
  unfold storeV at hK
  split at hK
  · rename_i k e off hev
    rw [hev] at hpx
    -- a row of whatever form
    have core : ∀ r r' : Row, look st.σ k = some r → r'.sz = r.sz → r'.n = r.n → off + i.size ≤ r.sz → (∀ i' < r.n, i' ≠ e → r'.f i' = r.f i') → (e < r.n → r'.f e = setCells (r.f e) off (cells (ev st q))) →
        K .und ⟨st.T, upd st.σ k r'⟩ → ∃ w', (execOp a.eval o).run P w = .ok .skip w' ∧ Lands C a K undef w' := by
      intro r r' hr hsz hn hin hoth hthis hk
      obtain ⟨l, hl, hrow⟩ := hs.rows.rows k r hr
      generalize hv : a.eval x = pv at hpx
      cases hpx with
      | pure h => cases h
      | rptr _ _ _ l' b g1 g2 g3 =>
        rw [hl] at g1
        obtain rfl := Option.some.inj g1
        have hA := hrow.at_ b g2
        have hln := hrow.n
        have hlsz := hrow.sz
        have hfit := hA.fits
        have hbound : l.off + e * r.sz + r.sz ≤ l.tot := by
          have := Nat.mul_le_mul_right r.sz (show e + 1 ≤ r.n by omega)
          rw [Nat.add_mul] at this
          omega
        have hvl : (a.eval y).cells.toList.length = i.size := by simp; exact c1
        have hst := run_storeAt_cells (P := P) (w := w) hi (b := b) (o := l.off + e * l.sz + off) c1 c3 (fun j hj => hA.there _ (by rw [hlsz]; omega)) (fun j hj => hA.free _ (by rw [hlsz]; omega))
        obtain ⟨s1, s2⟩ := setCells_elem (d := r.f e) (hA.elem e (by omega)) k1 (fun j hj => k2 j hj) hin hpos
        have hA' : RowAt I (w.setCells b (l.off + e * l.sz + off) (a.eval y).cells.toList) l r' b := by
          refine hA.write hsz hn (by rw [hvl, hlsz]; omega) ?_ ?_
          · intro i' hi'
            by_cases he : i' = e
            · subst he; rw [hthis (by omega)]; exact s1
            · rw [hoth i' hi' he]; exact hA.elem i' hi'
          · intro i' j hi' hj
            rw [hvl, hlsz, in_elem hin hj]
            constructor
            · rintro ⟨rfl, h1, h2⟩
              rw [hthis (by omega), s2 j hj, if_pos ⟨h1, h2⟩]
              have := c2 (j - off) (by omega)
              rw [show l.off + i' * r.sz + j - (l.off + i' * r.sz + off) = j - off by omega]
              simpa [Array.getD_eq_getD_getElem?, List.getD] using this
            · intro hno
              by_cases he : i' = e
              · subst he
                rw [hthis (by omega), s2 j hj, if_neg (fun h => hno ⟨rfl, h⟩)]
              · rw [hoth i' hi' he]
        refine ⟨_, by simp only [execOp, ho, Sem.run_bind, hv, hst, Result.andThen_ok]; rfl, I, β, .und, _, hs.setRow hl (Frm.setCells w b _ _ _ (.inr g2)) (hrow.write g2 hsz hn hA'), .pure .und, hk⟩
    split at hK
    · rename_i sz d hr
      split at hK
      · rename_i hin
        refine core (.box sz d) (.box sz (setCells d off (cells (ev st q)))) hr rfl rfl hin (fun i' hi' hne => ?_) (fun _ => rfl) hK
        have hrk := hs.rows.rows k _ hr
        obtain ⟨l, hl, hrow⟩ := hrk
        generalize a.eval x = pv at hpx
        cases hpx with
        | pure h => cases h
        | rptr _ _ _ l' b g1 g2 g3 =>
          rw [hl] at g1
          obtain rfl := Option.some.inj g1
          have := hrow.n
          simp only [Row.n] at hi' this
          omega
      · exact hK.elim
    · rename_i sz n f hr
      split at hK
      · rename_i hin
        refine core (.arr sz n f) (.arr sz n (setFF f e off (cells (ev st q)))) hr rfl rfl hin (fun i' hi' hne => ?_) (fun _ => ?_) hK
        · simp [Row.f, setFF, hne]
        · simp [Row.f, setFF]
      · exact hK.elim
    · exact hK.elim
  · exact hK.elim
end
end Go.Sx
