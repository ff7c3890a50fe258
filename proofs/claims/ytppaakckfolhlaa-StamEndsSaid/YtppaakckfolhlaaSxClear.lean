import Derived.Test.YtppaakckfolhlaaSxLoud5
namespace Go.Sx

section
variable {P : Program} {md : Modes} {C : Ctx} {I : Imm} {β : Nat → Option Loc} {st : St} {a : Act} {w : World}

theorem clear_lands (hs : Sim C I β st a w) {t e : TypeId} {c : Call} {o : Oper} (ho : o.op = .call c) (hcal : c.callee = .builtin .clear) {xo : Operand} (hargs : c.args.toList = [xo]) (htys : c.argTypes.toList = [t])
    (ht : P.underlying t = some (.slice e)) {es by_ : Nat} {zd : DV} (hz : cZero P e = some (es, by_, zd)) {p : Arg} (hp : cArg xo = some p) {K : DV → St → Prop} (hK : clearV (std P) es zd st (ev st p) K) :
    ∃ v w', (execOp a.eval o).run P w = .ok (.value v) w' ∧ Lands C a K v w' := by
  obtain ⟨i, z, h1, h2, rfl, rfl, h4, h5, h6⟩ := cZero_ok hz
  obtain ⟨z1, z2, z3⟩ := (h6 I).cells h5
  obtain ⟨q1, q2, _⟩ := okCells_iff h5
  have ha : c.args = #[xo] := by rw [← Array.toArray_toList (xs := c.args), hargs]
  have hta : c.argTypes = #[t] := by rw [← Array.toArray_toList (xs := c.argTypes), htys]
  have hgo : ∀ {w'}, (Builtin.clear_ #[t] o.type #[a.eval xo]).run P w = .ok undef w' → Lands C a K undef w' → ∃ v w', (execOp a.eval o).run P w = .ok (.value v) w' ∧ Lands C a K v w' := by
    intro w' e1 e2
    exact ⟨undef, w', by simp [execOp, ho, resolve, hcal, invoke, builtin, ha, hta, e1], e2⟩
  have hpx := arg_rep hp hs
  unfold clearV at hK
  split at hK
  · rename_i k o' n hev
    rw [hev] at hpx
    split at hK
    · rename_i sz n0 f hr
      obtain ⟨hsz, hk⟩ := hK
      subst hsz
      simp only [std] at hk
      obtain ⟨l, hl, hrow⟩ := hs.rows.rows k _ hr
      have nothing : n = 0 → ∀ ao cap, a.eval xo = .slice ao n cap → ∃ v w', (execOp a.eval o).run P w = .ok (.value v) w' ∧ Lands C a K v w' := by
        intro hn ao cap hv
        subst hn
        have hf : clrFF o' 0 zd f = f := by funext j; simp only [clrFF]; rw [if_neg (by omega)]
        rw [hf] at hk
        refine hgo (w' := w) ?_ ⟨I, β, .und, _, hs.setRow hl (Frm.refl w _) hrow, .pure .und, hk⟩
        cases ao <;> simp [Builtin.clear_, run_underlying ht, hv, undef]
      generalize hv : a.eval xo = pv at hpx
      cases hpx with
      | pure h => cases h
      | refnil _ l' ao g1 g2 => exact nothing rfl ao 0 hv
      | ref _ _ _ cap l' b ad g1 g2 g3 g4 g5 g6 =>
        by_cases hn : n = 0
        · exact nothing hn _ cap hv
        · rw [hl] at g1
          obtain rfl := Option.some.inj g1
          have hA := hrow.at_ b g2
          have hlsz : l.sz = i.size := hrow.sz
          have hln : l.n = n0 := hrow.n
          have had := g6 (by omega)
          rw [hlsz] at g5 had
          have hbd : l.off + o' * i.size + n * i.size ≤ l.tot := by
            have := Nat.mul_le_mul_right i.size (show o' + n ≤ o' + cap by omega)
            rw [Nat.add_mul] at this
            omega
          have hlen : (Builtin.zeroCells z.cells n).toList.length = n * i.size := by simp [size_zeroCells, z1]
          have hget : ∀ q j, q < n → j < i.size → (Builtin.zeroCells z.cells n).toList.getD (q * i.size + j) undef = z.cells.getD j undef := by
            intro q j hq hj
            have h0 := zero_cells (z := z.cells) (n := n) (sz := z.cells.size) rfl hq (by rw [z1]; exact hj)
            have e0 : ∀ (arr : Array Value) (k : Nat), arr.toList.getD k undef = arr.getD k undef := fun arr k => by simp [List.getD, Array.getD_eq_getD_getElem?]
            rw [e0, ← z1]
            exact h0
          have hst := run_storeCells_cells (P := P) b (l.off + o' * i.size) (Builtin.zeroCells z.cells n).toList 0 w (fun j hj => hA.there _ (by rw [hlen] at hj; omega)) (fun j hj => hA.free _ (by rw [hlen] at hj; omega)) (fun u hu => by
            obtain ⟨j, hj, rfl⟩ := List.mem_iff_getElem.1 hu
            rw [hlen] at hj
            obtain ⟨d1, d2, d3⟩ := divmod h4 hj
            have e1 := hget _ _ d1 d2
            rw [d3] at e1
            have e2 : (Builtin.zeroCells z.cells n).toList[j] = (Builtin.zeroCells z.cells n).toList.getD j undef := by
              simp [List.getD, List.getElem?_eq_getElem (show j < (Builtin.zeroCells z.cells n).toList.length by rw [hlen]; exact hj)]
            rw [e2, e1]
            exact z3 _ d2)
          simp only [Nat.add_zero] at hst
          have hA' : RowAt I (w.setCells b (l.off + o' * i.size) (Builtin.zeroCells z.cells n).toList) l (.arr i.size n0 (clrFF o' n zd f)) b := by
            refine hA.write (r' := .arr i.size n0 (clrFF o' n zd f)) rfl rfl (by rw [hlen]; omega) ?_ ?_
            · intro q hq
              simp only [Row.f, clrFF]
              split
              · exact ⟨q1, q2⟩
              · exact hA.elem q hq
            · intro q j hq hj
              simp only [Row.n, Row.sz] at hq hj
              simp only [Row.f, Row.sz, clrFF, hlen]
              have hmul : (o' * i.size ≤ q * i.size + j ∧ q * i.size + j < o' * i.size + n * i.size) ↔ (o' ≤ q ∧ q < o' + n) := by
                constructor
                · rintro ⟨c1, c2⟩
                  constructor
                  · rcases Nat.lt_or_ge q o' with h | h
                    · have := mul_lt (sz := i.size) (q := 0) h hj; omega
                    · exact h
                  · rcases Nat.lt_or_ge q (o' + n) with h | h
                    · exact h
                    · have := Nat.mul_le_mul_right i.size h
                      rw [Nat.add_mul] at this
                      omega
                · rintro ⟨c1, c2⟩
                  have e1 := Nat.mul_le_mul_right i.size c1
                  have e2 := mul_lt (sz := i.size) (q := 0) c2 hj
                  rw [Nat.add_mul] at e2
                  omega
              constructor
              · intro hc
                have hc' := hmul.1 (by omega)
                rw [if_pos hc']
                have e1 := hget (q - o') j (by omega) hj
                have e2 : (q - o') * i.size = q * i.size - o' * i.size := Nat.sub_mul _ _ _
                have e3 := Nat.mul_le_mul_right i.size hc'.1
                rw [show l.off + q * i.size + j - (l.off + o' * i.size) = (q - o') * i.size + j by omega, e1]
                exact z2 j hj
              · intro hc
                rw [if_neg (fun h => hc (by have := hmul.2 h; omega))]
          refine hgo (w' := w.setCells b (l.off + o' * i.size) (Builtin.zeroCells z.cells n).toList) ?_ ⟨I, β, .und, _, hs.setRow hl (Frm.setCells w b _ _ _ (.inr g2)) (hrow.write (r' := .arr i.size n0 (clrFF o' n zd f)) g2 rfl rfl hA'), .pure .und, hk⟩
          rw [hv, had]
          cases n with
          | zero => exact absurd rfl hn
          | succ n => simp [Builtin.clear_, run_underlying ht, zeroValue, typeInfo, h1, h2, hst, undef]
    · exact hK.elim
  · exact hK.elim
end
end Go.Sx
