import Derived.Test.YtppaakckfolhlaaSxSim
/-! Rows that are seen as data that stays; what calls hand back. -/
namespace Go.Sx
open Classical

/-- What stays, with the rows of these keys. -/
noncomputable def frzI (I : Imm) (β : Nat → Option Loc) (lim : Nat) (ks : List Nat) (w : World) : Imm := fun b o =>
  match I b o with
  | some v => some v
  | none => if (∃ κ l, κ ∈ ks ∧ κ < lim ∧ β κ = some l ∧ l.blk = some b) then w.cell? ⟨b, o, none⟩ else none

theorem frzI_le (I : Imm) (β : Nat → Option Loc) (lim : Nat) (ks : List Nat) (w : World) : Imm.le I (frzI I β lim ks w) := by
  intro b o v h
  simp [frzI, h]
theorem frzI_inW {I : Imm} {β : Nat → Option Loc} {lim : Nat} {ks : List Nat} {w : World} (h : I.inW w) : (frzI I β lim ks w).inW w := by
  intro b o v hv
  unfold frzI at hv
  split at hv
  · rename_i u hu
    obtain rfl := Option.some.inj hv
    exact h b o _ hu
  · split at hv
    · exact hv
    · cases hv
theorem frzI_at {I : Imm} {β : Nat → Option Loc} {lim : Nat} {ks : List Nat} {w : World} {κ : Nat} {l : Loc} {b : Nat} (hk : κ ∈ ks) (hl : κ < lim) (h : β κ = some l) (hb : l.blk = some b)
    (ha : ∀ o, I b o = none) (o : Nat) : frzI I β lim ks w b o = w.cell? ⟨b, o, none⟩ := by
  unfold frzI
  rw [ha o]
  simp only
  rw [if_pos ⟨κ, l, hk, hl, h, hb⟩]

theorem nth_viewL (lim : Nat) (ks : List Nat) (σ : Store) (l : List DV) (j : Nat) : nth (viewL lim ks σ l) j = view lim ks σ (nth l j) := by
  induction l generalizing j with
  | nil => simp [viewL, nth, view]
  | cons d r ih => cases j with
    | zero => simp [viewL, nth]
    | succ j => simp [viewL, nth, ih]
theorem viewL_length (lim : Nat) (ks : List Nat) (σ : Store) (l : List DV) : (viewL lim ks σ l).length = l.length := by
  induction l <;> simp [viewL, *]

theorem isCell_view {I : Imm} (lim : Nat) (ks : List Nat) (σ : Store) {d : DV} {v : Value} (r : Rep I d v) (h : isCell d = true) : isCell (view lim ks σ d) = true := by
  cases r <;> first | rfl | cases h

theorem Rep.view {I J : Imm} (hJ : Imm.le I J) (lim : Nat) (ks : List Nat) (σ : Store) {d : DV} {v : Value} (r : Rep I d v) : Rep J (view lim ks σ d) v := by
  induction r with
  | int k n => exact .int k n
  | bool b => exact .bool b
  | tt => exact .tt
  | ff => exact .ff
  | str s => exact .str s
  | nilp => exact .nilp
  | nilf => exact .nilf
  | nili => exact .nili
  | nils => exact .nils
  | lst sz t n f a cap b o val h1 h2 h3 h4 h5 h6 h7 _ => exact (Rep.lst sz t n f a cap b o val h1 h2 h3 h4 h5 h6 h7).mono hJ
  | eptr sz n f i off b c val h1 h2 h3 h4 _ => exact (Rep.eptr sz n f i off b c val h1 h2 h3 h4).mono hJ
  | agg cs vs h1 h2 h3 ih =>
    refine .agg _ vs (by rw [viewL_length]; exact h1) ?_ ?_
    · intro j hj
      rw [viewL_length] at hj
      rw [nth_viewL]
      exact isCell_view lim ks σ (h3 j hj) (h2 j hj)
    · intro j hj
      rw [viewL_length] at hj
      rw [nth_viewL]
      exact ih j hj
  | fn g fst cap a b h1 h2 h3 h4 ih1 ih2 =>
    refine .fn g _ _ a b (by rw [viewL_length]; exact h1) (by rw [viewL_length]; exact h2) ?_ ?_
    · intro j hj
      rw [viewL_length] at hj
      rw [nth_viewL]; exact ih1 j hj
    · intro j hj
      rw [viewL_length] at hj
      rw [nth_viewL]; exact ih2 j hj
  | und => exact .und

theorem shift_eq (o : Nat) (f : Nat → DV) (i : Nat) : shift o f i = f (o + i) := by
  cases o with
  | zero => simp [shift]
  | succ o => simp [shift]

/-- A row's elements, in a slice of it, as data that stays. -/
theorem RowOk.lst {I J : Imm} {w : World} {l : Loc} {r : Row} (h : RowOk I w l r) (hJ : Imm.le I J) {b : Nat} (hb : l.blk = some b) (hat : ∀ o, J b o = w.cell? ⟨b, o, none⟩)
    {o n cap : Nat} {a : Addr} (h1 : n ≤ cap) (h2 : o + n ≤ l.n) (h3 : 0 < cap → a = ⟨b, l.off + o * l.sz, none⟩) :
    Rep J (.lst r.sz false n (shift o r.f)) (.slice (some a) n cap) := by
  have hA := h.at_ b hb
  have hn := h.n
  have hs := h.sz
  have hcell : ∀ i j, i < n → j < r.sz → ∃ v, w.cell? ⟨b, l.off + o * l.sz + i * r.sz + j, none⟩ = some v ∧ Rep I (nth (cells (shift o r.f i)) j) v := by
    intro i j hi hj
    obtain ⟨v, h4, h5⟩ := hA.val (o + i) j (by omega) hj
    refine ⟨v, ?_, by rw [shift_eq]; exact h5⟩
    rw [← h4, hs]
    congr 2
    rw [Nat.add_mul]
    omega
  refine .lst r.sz false n _ _ cap b (l.off + o * l.sz) (fun i j => (w.cell? ⟨b, l.off + o * l.sz + i * r.sz + j, none⟩).getD undef) h.pos h1 (by simp) (fun hn0 => by rw [h3 (by omega)]) ?_ ?_ ?_
  · intro i hi
    rw [shift_eq]
    exact hA.elem _ (by omega)
  · intro i j hi hj
    obtain ⟨v, h4, _⟩ := hcell i j hi hj
    rw [hat, h4]; rfl
  · intro i j hi hj
    obtain ⟨v, h4, h5⟩ := hcell i j hi hj
    skip
    rw [h4]
    exact h5.mono hJ

theorem RowOk.eptr {I J : Imm} {w : World} {l : Loc} {r : Row} (h : RowOk I w l r) (hJ : Imm.le I J) {b : Nat} (hb : l.blk = some b) (hat : ∀ o, J b o = w.cell? ⟨b, o, none⟩)
    {i : Nat} (off : Nat) (hi : i < l.n) : Rep J (.eptr r.sz r.n r.f i off) (.pointer (some ⟨b, l.off + i * l.sz + off, none⟩)) := by
  have hA := h.at_ b hb
  have hn := h.n
  have hs := h.sz
  rw [hs]
  refine .eptr r.sz r.n r.f i off b (l.off + i * r.sz) (fun j => (w.cell? ⟨b, l.off + i * r.sz + j, none⟩).getD undef) h.pos (hA.elem i (by omega)) ?_ ?_
  · intro j hj
    obtain ⟨v, h4, _⟩ := hA.val i j (by omega) hj
    rw [hat, h4]; rfl
  · intro j hj
    obtain ⟨v, h4, h5⟩ := hA.val i j (by omega) hj
    skip
    rw [h4]
    exact h5.mono hJ

theorem RepK.view {I J : Imm} {β γ : Nat → Option Loc} {σ : Store} {w : World} (hR : Rows I β σ w) (lim : Nat) (ks : List Nat) (hJ : Imm.le I J)
    (hat : ∀ κ l b o, κ ∈ ks → κ < lim → β κ = some l → l.blk = some b → J b o = w.cell? ⟨b, o, none⟩) (hγ : ∀ κ, κ ∉ ks → γ κ = β κ)
    {d : DV} {v : Value} (r : RepK I β d v) : RepK J γ (view lim ks σ d) v := by
  induction r with
  | pure hr => exact .pure (hr.view hJ lim ks σ)
  | ref κ o n cap l b a h1 h2 h3 h4 h5 h6 =>
    simp only [Sx.view, viewRef]
    by_cases hm : mem ks κ = true
    · rw [if_pos hm]
      have hk := (mem_iff _ _).1 hm
      by_cases hlim : κ < lim
      · rw [if_pos hlim]
        cases hlook : look σ κ with
        | none => rw [hR.dom κ hlook] at h1; cases h1
        | some r =>
          obtain ⟨l', h7, h8⟩ := hR.rows κ r hlook
          rw [h1] at h7
          obtain rfl := Option.some.inj h7
          exact .pure (h8.lst hJ h2 (fun o => hat κ l b o hk hlim h1 h2) h3 h4 h6)
      · rw [if_neg hlim]; exact .junk _
    · rw [if_neg hm]
      have hk : κ ∉ ks := fun h => hm ((mem_iff _ _).2 h)
      exact .ref κ o n cap l b a ((hγ κ hk).trans h1) h2 h3 h4 h5 h6
  | refnil κ l ao h1 h2 =>
    simp only [Sx.view, viewRef]
    by_cases hm : mem ks κ = true
    · rw [if_pos hm]
      by_cases hlim : κ < lim
      · rw [if_pos hlim]
        cases hlook : look σ κ with
        | none => rw [hR.dom κ hlook] at h1; cases h1
        | some r =>
          obtain ⟨l', h7, h8⟩ := hR.rows κ r hlook
          exact .pure (.lst r.sz false 0 _ ao 0 0 0 (fun _ _ => undef) h8.pos (Nat.le_refl _) (by simp) (by simp) (fun i hi => by omega) (fun i j hi => by omega) (fun i j hi => by omega))
      · rw [if_neg hlim]; exact .junk _
    · rw [if_neg hm]
      have hk : κ ∉ ks := fun h => hm ((mem_iff _ _).2 h)
      exact .refnil κ l ao ((hγ κ hk).trans h1) h2
  | rptr κ i off l b h1 h2 h3 =>
    simp only [Sx.view, viewPtr]
    by_cases hm : mem ks κ = true
    · rw [if_pos hm]
      have hk := (mem_iff _ _).1 hm
      by_cases hlim : κ < lim
      · rw [if_pos hlim]
        cases hlook : look σ κ with
        | none => rw [hR.dom κ hlook] at h1; cases h1
        | some r =>
          obtain ⟨l', h7, h8⟩ := hR.rows κ r hlook
          rw [h1] at h7
          obtain rfl := Option.some.inj h7
          exact .pure (h8.eptr hJ h2 (fun o => hat κ l b o hk hlim h1 h2) off h3)
      · rw [if_neg hlim]; exact .junk _
    · rw [if_neg hm]
      have hk : κ ∉ ks := fun h => hm ((mem_iff _ _).2 h)
      exact .rptr κ i off l b ((hγ κ hk).trans h1) h2 h3
  | fn g fst cap a b h1 h2 _ _ ih1 ih2 =>
    simp only [Sx.view]
    refine .fn g _ _ a b (by rw [viewL_length]; exact h1) (by rw [viewL_length]; exact h2) ?_ ?_
    · intro j hj
      rw [viewL_length] at hj
      rw [nth_viewL]; exact ih1 j hj
    · intro j hj
      rw [viewL_length] at hj
      rw [nth_viewL]; exact ih2 j hj
  | tup ds vs h1 _ ih =>
    simp only [Sx.view]
    refine .tup _ vs (by rw [viewL_length]; exact h1) ?_
    intro j hj
    rw [viewL_length] at hj
    rw [nth_viewL]; exact ih j hj
  | junk v => exact .junk v

section
variable {C : Ctx} {I : Imm} {β : Nat → Option Loc} {st : St} {a : Act} {w : World}

theorem Sim.freeze (h : Sim C I β st a w) (ks : List Nat) : ∃ J γ, Sim C J γ (st.freeze ks) a w ∧ Imm.le I J ∧ (∀ d v, RepK I β d v → RepK J γ (view 100000 ks st.σ d) v) := by
  cases ks with
  | nil =>
    refine ⟨I, β, h, Imm.le.refl _, fun d v hd => hd.view h.rows 100000 [] (Imm.le.refl _) (fun κ l b o hk => by cases hk) (fun _ _ => rfl)⟩
  | cons k0 ks0 =>
    generalize hks : k0 :: ks0 = ks
    have hfz : st.freeze ks = ⟨viewL 100000 ks st.σ st.T, delL st.σ ks⟩ := by rw [← hks]; rfl
    have hJ := frzI_le I β 100000 ks w
    have hat : ∀ κ l b o, κ ∈ ks → κ < 100000 → β κ = some l → l.blk = some b → frzI I β 100000 ks w b o = w.cell? ⟨b, o, none⟩ := by
      intro κ l b o hk hlim h1 h2
      refine frzI_at hk hlim h1 h2 ?_ o
      have hlook : look st.σ κ ≠ none := fun e => by rw [h.rows.dom κ e] at h1; cases h1
      obtain ⟨r, hr⟩ := Option.ne_none_iff_exists'.1 hlook
      obtain ⟨l', h3, h4⟩ := h.rows.rows κ r hr
      rw [h1] at h3
      obtain rfl := Option.some.inj h3
      exact (h4.at_ b h2).apart
    have hv : ∀ d v, RepK I β d v → RepK (frzI I β 100000 ks w) (fun κ => if κ ∈ ks then none else β κ) (view 100000 ks st.σ d) v :=
      fun d v hd => hd.view h.rows 100000 ks hJ hat (fun κ hk => by rw [if_neg hk])
    refine ⟨frzI I β 100000 ks w, fun κ => if κ ∈ ks then none else β κ, ?_, hJ, hv⟩
    rw [hfz]
    refine { le := h.le.trans hJ, inw := frzI_inW h.inw, ext := ?_, defs := h.defs, size := by rw [viewL_length]; exact h.size, tmps := ?_, rows := ⟨?_, ?_, ?_, ?_⟩, own := ?_, refs := ?_, frame := h.frame }
    · intro b o hb
      rw [← h.ext b o hb]
      unfold frzI
      split
      · rename_i v hv; rw [hv]
      · rename_i hn
        rw [if_neg, hn]
        rintro ⟨κ, l, hk, hlim, h1, h2⟩
        have := h.own κ l b hlim h1 h2
        omega
    · intro t ht
      rw [viewL_length] at ht
      rw [nth_viewL]
      exact hv _ _ (h.tmps t ht)
    · intro κ hk
      rw [look_delL] at hk
      by_cases hm : κ ∈ ks
      · rw [if_pos hm]
      · rw [if_neg hm] at hk ⊢
        exact h.rows.dom κ hk
    · intro κ r hr
      rw [look_delL] at hr
      by_cases hm : κ ∈ ks
      · rw [if_pos hm] at hr; cases hr
      · rw [if_neg hm] at hr
        obtain ⟨l, h1, h2⟩ := h.rows.rows κ r hr
        refine ⟨l, by rw [if_neg hm]; exact h1, h2.of_heap (fun _ _ => rfl) hJ ?_⟩
        intro b o hb
        have ha := (h2.at_ b hb).apart o
        unfold frzI
        rw [ha]
        simp only
        rw [if_neg]
        rintro ⟨κ', l', hk', _, h3, h4⟩
        exact h.rows.sep κ κ' l l' b (fun e => hm (e ▸ hk')) h1 h3 hb h4
    · intro κ κ' l l' b hne h1 h2
      dsimp only at h1 h2
      split at h1
      · cases h1
      · split at h2
        · cases h2
        · exact h.rows.sep κ κ' l l' b hne h1 h2
    · intro κ l b h1
      split at h1
      · cases h1
      · exact h.rows.lt κ l b h1
    · intro κ l b hk h1
      split at h1
      · cases h1
      · exact h.own κ l b hk h1
    · intro κ l hk h1
      split at h1
      · cases h1
      · exact h.refs κ l hk h1

/-- The world has grown, and so has what stays. -/
theorem Sim.grow (h : Sim C I β st a w) {J : Imm} {w' : World} (hfrm : Frm w w' (fun _ => False)) (hJ : Imm.le I J) (hin : J.inW w') (hx : ∀ b o, b < w.heap.size → J b o = I b o) :
    Sim C J β st a w' where
  le := h.le.trans hJ
  inw := hin
  ext := fun b o hb => by rw [hx b o (Nat.lt_of_lt_of_le hb h.frame.size)]; exact h.ext b o hb
  defs := h.defs
  size := h.size
  tmps := fun t ht => (h.tmps t ht).mono hJ (fun _ _ => id)
  rows := ⟨h.rows.dom, fun κ r hr => by
    obtain ⟨l, h1, h2⟩ := h.rows.rows κ r hr
    exact ⟨l, h1, h2.of_heap (fun b hb => hfrm.block b (h.rows.lt _ _ _ h1 hb) id) hJ (fun b o hb => by rw [hx b o (h.rows.lt _ _ _ h1 hb)]; exact (h2.at_ b hb).apart o)⟩,
    h.rows.sep, fun κ l b h1 hb => Nat.lt_of_lt_of_le (h.rows.lt κ l b h1 hb) hfrm.size⟩
  own := h.own
  refs := h.refs
  frame := h.frame.trans hfrm (fun _ _ _ => id)
end

end Go.Sx
