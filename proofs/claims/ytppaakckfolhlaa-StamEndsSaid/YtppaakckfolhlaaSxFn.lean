import Derived.Test.YtppaakckfolhlaaSxRet
namespace Go.Sx
open Classical

section
variable {P : Program} {md : Modes} {C : Ctx} {I : Imm} {β : Nat → Option Loc} {st : St} {a : Act} {w : World}

theorem rowsOf_spec {σ : Store} : ∀ (k s : Nat) (rows : List Row), rowsOf σ s k = some rows → rows.length = k ∧ ∀ κ r, look (keyed s rows) κ = some r → look σ κ = some r ∧ s ≤ κ
  | 0, s, rows, h => by
    obtain rfl := Option.some.inj h
    exact ⟨rfl, fun κ r h => by simp [keyed, look] at h⟩
  | k + 1, s, rows, h => by
    simp only [rowsOf] at h
    split at h
    · rename_i r l hr hl
      obtain rfl := Option.some.inj h
      obtain ⟨h1, h2⟩ := rowsOf_spec k (s + 1) l hl
      refine ⟨by simp [h1], fun κ q hq => ?_⟩
      simp only [keyed, look] at hq
      split at hq
      · rename_i e; subst e; obtain rfl := Option.some.inj hq; exact ⟨hr, Nat.le_refl _⟩
      · obtain ⟨k1, k2⟩ := h2 κ q hq; exact ⟨k1, by omega⟩
    · cases h
theorem keyed_none : ∀ (l l' : List Row) (s κ : Nat), l.length = l'.length → look (keyed s l) κ = none → look (keyed s l') κ = none
  | [], [], _, _, _, h => h
  | r :: l, r' :: l', s, κ, hl, h => by
    simp only [keyed, look] at h ⊢
    split at h
    · cases h
    · rename_i hne
      rw [if_neg hne]
      exact keyed_none l l' (s + 1) κ (by simpa using hl) h
  | [], _ :: _, _, _, hl, _ => by simp at hl
  | _ :: _, [], _, _, hl, _ => by simp at hl
theorem keyed_ge : ∀ (l : List Row) (s κ : Nat), κ < s → look (keyed s l) κ = none
  | [], _, _, _ => rfl
  | r :: l, s, κ, h => by
    simp only [keyed, look]
    rw [if_neg (by omega)]
    exact keyed_ge l (s + 1) κ (by omega)

theorem single_res {n0 : Nat} {out : List DV} {vs : Array Value} {ls : Nat → Loc} (hsz : vs.size = out.length) (h1 : ∀ j < out.length, ResAt I β n0 w (ls j) (nth out j) (vs.getD j undef))
    (h2 : ∀ i j b, i < out.length → j < out.length → i ≠ j → isFresh (nth out i) = true → isFresh (nth out j) = true → (ls i).blk = some b → (ls j).blk ≠ some b) (hnt : ∀ ds, out ≠ [.tup ds]) :
    Res I β n0 w (single out) (if h : vs.size = 1 then vs[0] else .tuple vs) := by
  have many : vs.size ≠ 1 → Res I β n0 w (.tup out) (if h : vs.size = 1 then vs[0] else .tuple vs) := by
    intro hne
    rw [dif_neg hne]
    exact ⟨vs, ls, rfl, hsz, h1, h2⟩
  match out, hsz, h1, h2, hnt, many with
  | [], hsz, h1, h2, hnt, many => exact many (by rw [hsz]; simp)
  | [d], hsz, h1, h2, hnt, _ =>
    have h0 := h1 0 (by simp)
    have hs1 : vs.size = 1 := by simpa using hsz
    rw [dif_pos hs1]
    have e : vs.getD 0 undef = vs[0] := by simp [Array.getD, hs1]
    rw [e] at h0
    simp only [single, nth] at h0 ⊢
    cases d <;> first | exact absurd rfl (hnt _) | exact ⟨_, h0⟩
  | d :: e :: l, hsz, h1, h2, hnt, many => exact many (by rw [hsz]; simp)

theorem okOut_tup {out : List DV} (h : okOut out = true) : ∀ ds, out ≠ [.tup ds] := by
  rintro ds rfl
  simp [okOut, pureB] at h

theorem finish_sound (hs : Sim C I β st a w) {fn : Func} {ts : List RV} (hres : cRes P fn.results.toList = some ts) {rows0 : List Row} (h0 : Rows C.I0 C.β0 (keyed refKey rows0) C.w0) {Q : DV → List Row → Prop}
    (hob : resOb st ts) (hf : finish rows0.length Q (resDs st ts) st) : ∃ v, (results fn a.tmps).run P w = .ok v w ∧ ∃ d rows' I', Imm.le C.I0 I' ∧ I'.inW w ∧ (∀ b o, b < C.w0.heap.size → I' b o = C.I0 b o) ∧
      Res I' C.β0 C.w0.heap.size w d v ∧ Rows I' C.β0 (keyed refKey rows') w ∧ rows'.length = rows0.length ∧ Frm C.w0 w C.X ∧ Q d rows' := by
  obtain ⟨vs, hrun, hvl, hdl, hrep0⟩ := run_results (P := P) hs hres hob
  simp only [finish] at hf
  split at hf
  · rename_i hok
    split at hf
    · rename_i hnd
      split at hf
      · rename_i rows' hrows
        obtain ⟨J, γ, s1, hJ, hv⟩ := hs.freeze (frzF (keysOfL (resDs st ts)) (resDs st ts))
        generalize hF : frzF (keysOfL (resDs st ts)) (resDs st ts) = F at *
        generalize hd1 : viewL 100000 F st.σ (resDs st ts) = ds1 at *
        have hlen1 : ds1.length = ts.length := by rw [← hd1, viewL_length, hdl]
        have hout : (outL (st.freeze F).σ ds1).length = ts.length := by rw [outL_length, hlen1]
        refine ⟨_, hrun, single (outL (st.freeze F).σ ds1), rows', J, s1.le, s1.inw, s1.ext, ?_, ?_, (rowsOf_spec _ _ _ hrows).1, s1.frame, hf⟩
        · have hrep : ∀ j < ts.length, RepK J γ (nth ds1 j) (vs.toArray.getD j undef) := by
            intro j hj
            rw [← hd1, nth_viewL]
            have e : vs.toArray.getD j undef = vs.getD j undef := by simp [Array.getD_eq_getD_getElem?, List.getD]
            rw [e]
            exact hv _ _ (hrep0 j hj)
          have hat : ∀ j < ts.length, ∃ l, ResAt J C.β0 C.w0.heap.size w l (nth (outL (st.freeze F).σ ds1) j) (vs.toArray.getD j undef) ∧
              (isFresh (nth (outL (st.freeze F).σ ds1) j) = true → ∃ κ l0, κ ∈ keysOf (nth ds1 j) ∧ γ κ = some l0 ∧ l.blk = l0.blk) := by
            intro j hj
            have hok1 := okOut_nth hok (j := j) (by omega)
            rw [nth_outL _ _ (by omega)] at hok1 ⊢
            exact outD_res s1 (hrep j hj) hok1
          refine single_res (ls := fun j => if h : j < ts.length then (hat j h).choose else ⟨none, 0, 0, 0, 0⟩) (by simp [hout, hvl]) ?_ ?_ (okOut_tup hok)
          · intro j hj
            rw [hout] at hj
            rw [dif_pos hj]
            exact (hat j hj).choose_spec.1
          · intro i j b hi hj hij hfi hfj hbi hbj
            rw [hout] at hi hj
            rw [dif_pos hi] at hbi
            rw [dif_pos hj] at hbj
            obtain ⟨κ, l0, k1, k2, k3⟩ := (hat i hi).choose_spec.2 hfi
            obtain ⟨κ', l0', k1', k2', k3'⟩ := (hat j hj).choose_spec.2 hfj
            have hne : κ ≠ κ' := keysOfL_nodup (nodupB_iff hnd) hij k1 k1'
            exact s1.rows.sep κ κ' l0 l0' b hne k2 k2' (by rw [← k3]; exact hbi) (by rw [← k3']; exact hbj)
        · obtain ⟨r1, r2⟩ := rowsOf_spec _ _ _ hrows
          refine ⟨fun κ hκ => h0.dom κ (keyed_none rows' rows0 _ _ r1 hκ), ?_, h0.sep, fun κ l b h1 h2 => Nat.lt_of_lt_of_le (h0.lt κ l b h1 h2) s1.frame.size⟩
          intro κ r hr
          obtain ⟨q1, q2⟩ := r2 κ r hr
          obtain ⟨l, q3, q4⟩ := s1.rows.rows κ r q1
          exact ⟨l, s1.refs κ l q2 q3, q4⟩
      · exact hf.elim
    · exact hf.elim
  · exact hf.elim

theorem undL_length (n : Nat) : (undL n).length = n := by induction n <;> simp [undL, *]
theorem nth_undL {n j : Nat} (h : j < n) : nth (undL n) j = .und := by
  induction n generalizing j with
  | zero => omega
  | succ n ih => cases j with
    | zero => rfl
    | succ j => exact ih (by omega)

/-- A function's contract, from its body's conditions. -/
theorem fn_of_wps {g : FuncId} {fn : Func} {body : Code} {ts : List RV} {n : Nat} (hf : P.funcs[g]? = some fn) (hname : (fn.name == "runtime.NumGoroutine") = false) (hb : fn.body = some body) (hnt : fn.ntmps = n) (hres : cRes P fn.results.toList = some ts)
    (hm : P.follows .mixedOrders = true) (hd : okDraw P md body = true) {ds : List DV} {rows : List Row} {Q : DV → List Row → Prop}
    (h : wps (std P) (comp P md body) (retQ ts rows.length Q) ⟨initT n ds, keyed 100000 rows⟩) : Fn P g ds rows Q := by
  refine ⟨⟨fn, body, hf, hname, hb⟩, fun w I vs β h1 h2 h3 h4 => ?_⟩
  subst hnt
  refine calls_of_wp hf hb ?_
  have hlen : (initT fn.ntmps ds).length = ds.length + (fn.ntmps - ds.length) := by
    rw [initT, cat_append, List.length_append, undL_length, len_length]
  have hsim : Sim ⟨I, w, β⟩ I β ⟨initT fn.ntmps ds, keyed 100000 rows⟩ { tmps := vs ++ Array.replicate (fn.ntmps - vs.size) undef, defers := [] } w := by
    refine { le := Imm.le.refl _, inw := h1, ext := fun _ _ _ => rfl, defs := rfl, size := ?_, tmps := ?_, rows := h4, own := ?_, refs := fun _ _ _ h => h, frame := Frm.refl _ _ }
    · simp only [hlen, Array.size_append, Array.size_replicate, h2]
    · intro t ht
      rw [hlen] at ht
      simp only [initT, cat_append, nth_append, len_length]
      split
      · rename_i hlt
        have e : (vs ++ Array.replicate (fn.ntmps - vs.size) undef).getD t undef = vs.getD t undef := by
          rw [getD_append, if_pos (by omega)]
        rw [e]; exact h3 t hlt
      · rename_i hge
        have e : (vs ++ Array.replicate (fn.ntmps - vs.size) undef).getD t undef = undef := by
          rw [getD_append, if_neg (by omega)]
          simp only [Array.getD_eq_getD_getElem?, Array.getElem?_replicate]
          split <;> rfl
        rw [e, nth_undL (by omega)]
        exact .pure .und
    · intro κ l b hκ hl
      rw [h4.dom κ (keyed_ge rows refKey κ hκ)] at hl
      cases hl
  refine Code.wp_mono (fun e a w' hq => ?_) (wps_sound hm body _ hd h hsim)
  have fin : ∀ {I' β' st'}, Sim ⟨I, w, β⟩ I' β' st' a w' → (resOb st' ts ∧ finish rows.length Q (resDs st' ts) st') → a.defers = [] ∧ ∃ v, (results fn a.tmps).run P w' = .ok v w' ∧ ∃ v' d rows' I', Ending.returned v = .returned v' ∧ Imm.le I I' ∧ I'.inW w' ∧ (∀ b o, b < w.heap.size → I' b o = I b o) ∧
      Res I' β w.heap.size w' d v' ∧ Rows I' β (keyed refKey rows') w' ∧ rows'.length = rows.length ∧ Frm w w' (fun b => ∃ κ l, β κ = some l ∧ l.blk = some b) ∧ Q d rows' := by
    intro I' β' st' hs' hfin
    obtain ⟨v, r1, d, rows', J, r2, r3, r4, r5, r6, r7, r8, r9⟩ := finish_sound (P := P) hs' hres (rows0 := rows) h4 hfin.1 hfin.2
    exact ⟨hs'.defs, v, r1, v, d, rows', J, rfl, r2, r3, r4, r5, r6, r7, r8, r9⟩
  cases e with
  | normal => obtain ⟨I', β', st', hs', hfin⟩ := hq; exact fin hs' hfin
  | ret => obtain ⟨I', β', st', hs', hfin⟩ := hq; exact fin hs' hfin
  | exit id => obtain ⟨I', β', st', hs', hfin⟩ := hq; exact hfin.elim
  | goto l => exact hq.elim
  | panic c => exact hq.elim
  | outgrown => exact hq.elim
end
end Go.Sx
