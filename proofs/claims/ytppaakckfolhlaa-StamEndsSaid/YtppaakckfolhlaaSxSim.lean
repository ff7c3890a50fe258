import Derived.Test.YtppaakckfolhlaaSxBase
/-! States against the model's frames and worlds. -/
namespace Go.Sx
open Classical

structure Ctx where
  I0 : Imm
  w0 : World
  β0 : Nat → Option Loc

/-- A block of the caller's that may be written. -/
def Ctx.X (C : Ctx) (b : Nat) : Prop := ∃ κ l, C.β0 κ = some l ∧ l.blk = some b

structure Sim (C : Ctx) (I : Imm) (β : Nat → Option Loc) (st : St) (a : Act) (w : World) : Prop where
  le : Imm.le C.I0 I
  inw : I.inW w
  ext : ∀ b o, b < C.w0.heap.size → I b o = C.I0 b o
  defs : a.defers = []
  size : a.tmps.size = st.T.length
  tmps : ∀ t, t < st.T.length → RepK I β (nth st.T t) (a.tmps.getD t undef)
  rows : Rows I β st.σ w
  own : ∀ κ l b, κ < refKey → β κ = some l → l.blk = some b → C.w0.heap.size ≤ b
  refs : ∀ κ l, refKey ≤ κ → β κ = some l → C.β0 κ = some l
  frame : Frm C.w0 w C.X

section
variable {C : Ctx} {I : Imm} {β : Nat → Option Loc} {st : St} {a : Act} {w : World}

theorem Sim.tmp (h : Sim C I β st a w) (t : Nat) : RepK I β (nth st.T t) (a.tmps.getD t undef) := by
  by_cases ht : t < st.T.length
  · exact h.tmps t ht
  · rw [nth_ge (by omega)]; exact .junk _

theorem Sim.put (h : Sim C I β st a w) (dst : Option Nat) {d : DV} {v : Value} (hd : RepK I β d v) : Sim C I β (st.put dst d) (a.put dst v) w := by
  cases dst with
  | none => exact h
  | some t =>
    refine { h with defs := h.defs, size := ?_, tmps := ?_ }
    · simp [St.put, Act.put, setN_length, h.size]
    · intro i hi
      simp only [St.put, setN_length] at hi
      simp only [St.put, Act.put, nth_setN]
      by_cases hit : i = t
      · subst hit
        rw [if_pos rfl, if_pos hi]
        have : i < a.tmps.size := by rw [h.size]; exact hi
        simpa [Array.getD, this] using hd
      · rw [if_neg hit]
        have := h.tmps i hi
        have e : (a.tmps.setIfInBounds t v).getD i undef = a.tmps.getD i undef := by
          simp [Array.getD_eq_getD_getElem?, Ne.symm hit]
        rw [e]; exact this

/-- The tape has been asked. -/
theorem Sim.drew (h : Sim C I β st a w) : Sim C I β st a w.drew :=
  { h with
    inw := fun b o v hv => h.inw b o v hv
    rows := ⟨h.rows.dom, fun κ r hr => by
      obtain ⟨l, h1, h2⟩ := h.rows.rows κ r hr
      exact ⟨l, h1, h2.of_heap (fun _ _ => rfl) (Imm.le.refl _) (fun b o hb => (h2.at_ b hb).apart o)⟩, h.rows.sep, h.rows.lt⟩
    frame := h.frame.trans (Frm.drew _ (fun _ => False)) (fun _ _ _ => id) }

def updB (β : Nat → Option Loc) (κ : Nat) (l : Loc) : Nat → Option Loc := fun k => if k = κ then some l else β k

/-- A new block, and a row in it (or the empty row of nil). -/
theorem Sim.newRow (h : Sim C I β st a w) {κ : Nat} {r : Row} (hκ : κ < refKey) (hn : look st.σ κ = none) {w' : World} {l : Loc}
    (hfrm : Frm w w' (fun b => l.blk = some b)) (hnew : ∀ b, l.blk = some b → C.w0.heap.size ≤ b ∧ b < w'.heap.size ∧ ∀ κ' l', β κ' = some l' → l'.blk ≠ some b) (hr : RowOk I w' l r) :
    Sim C I (updB β κ l) ⟨st.T, ins st.σ κ r⟩ a w' ∧ ∀ κ' l', β κ' = some l' → updB β κ l κ' = some l' := by
  have hb0 : β κ = none := h.rows.dom κ hn
  have hext : ∀ κ' l', β κ' = some l' → updB β κ l κ' = some l' := by
    intro κ' l' hk
    unfold updB
    split
    · rename_i e; subst e; rw [hb0] at hk; cases hk
    · exact hk
  have hblk : ∀ b, b < w.heap.size → l.blk ≠ some b → w'.heap[b]? = w.heap[b]? := fun b hb hx => hfrm.block b hb hx
  refine ⟨{ le := h.le, inw := ?_, ext := h.ext, defs := h.defs, size := h.size, tmps := ?_, rows := ⟨?_, ?_, ?_, ?_⟩, own := ?_, refs := ?_, frame := ?_ }, hext⟩
  · refine h.inw.of_heap fun b o v hv => hblk b (block_lt (by rw [h.inw b o v hv]; rfl)) fun hb => ?_
    have := (hr.at_ b hb).apart o
    rw [this] at hv; cases hv
  · exact fun t ht => (h.tmps t ht).mono (Imm.le.refl _) hext
  · intro k hk
    rw [look_ins _ _ _ _ hn] at hk
    split at hk
    · cases hk
    · rename_i hne; unfold updB; rw [if_neg hne]; exact h.rows.dom k hk
  · intro k q hk
    rw [look_ins _ _ _ _ hn] at hk
    split at hk
    · rename_i e; subst e
      obtain rfl := Option.some.inj hk
      exact ⟨l, by simp [updB], hr⟩
    · rename_i hne
      obtain ⟨l', h1, h2⟩ := h.rows.rows k q hk
      exact ⟨l', hext _ _ h1, h2.of_heap (fun b hb => hblk b (h.rows.lt _ _ _ h1 hb) (fun hb' => (hnew b hb').2.2 _ _ h1 hb)) (Imm.le.refl _) (fun b o hb => (h2.at_ b hb).apart o)⟩
  · intro k k' l1 l2 b hne h1 h2 hb hb'
    unfold updB at h1 h2
    split at h1
    · rename_i e
      obtain rfl := Option.some.inj h1
      rw [if_neg (fun e' => hne (e.trans e'.symm))] at h2
      exact absurd hb' ((hnew b hb).2.2 _ _ h2)
    · split at h2
      · obtain rfl := Option.some.inj h2
        exact absurd hb ((hnew b hb').2.2 _ _ h1)
      · exact h.rows.sep k k' l1 l2 b hne h1 h2 hb hb'
  · intro k l1 b h1 hb
    unfold updB at h1
    split at h1
    · obtain rfl := Option.some.inj h1
      exact (hnew b hb).2.1
    · exact Nat.lt_of_lt_of_le (h.rows.lt _ _ _ h1 hb) hfrm.size
  · intro k l1 b hk h1 hb
    unfold updB at h1
    split at h1
    · obtain rfl := Option.some.inj h1
      exact (hnew b hb).1
    · exact h.own k l1 b hk h1 hb
  · intro k l1 hk h1
    unfold updB at h1
    split at h1
    · omega
    · exact h.refs k l1 hk h1
  · exact h.frame.trans hfrm (fun b hb _ hlb => by have := (hnew b hlb).1; omega)

/-- A row is written where it lies. -/
theorem Sim.setRow (h : Sim C I β st a w) {κ : Nat} {r : Row} {l : Loc} {w' : World} (hl : β κ = some l)
    (hfrm : Frm w w' (fun b => l.blk = some b)) (hr : RowOk I w' l r) :
    Sim C I β ⟨st.T, upd st.σ κ r⟩ a w' := by
  have hblk : ∀ b, b < w.heap.size → l.blk ≠ some b → w'.heap[b]? = w.heap[b]? := fun b hb hx => hfrm.block b hb hx
  refine { le := h.le, inw := ?_, ext := h.ext, defs := h.defs, size := h.size, tmps := h.tmps, rows := ⟨?_, ?_, h.rows.sep, ?_⟩, own := h.own, refs := h.refs, frame := ?_ }
  · refine h.inw.of_heap fun b o v hv => hblk b (block_lt (by rw [h.inw b o v hv]; rfl)) fun hb => ?_
    have := (hr.at_ b hb).apart o
    rw [this] at hv; cases hv
  · intro k hk
    rw [look_upd] at hk
    split at hk
    · rename_i e
      refine h.rows.dom k ?_
      cases hh : look st.σ k with
      | none => rfl
      | some q => rw [hh] at hk; cases hk
    · exact h.rows.dom k hk
  · intro k q hk
    rw [look_upd] at hk
    split at hk
    · rename_i e; subst e
      cases hh : look st.σ k with
      | none => rw [hh] at hk; cases hk
      | some q' => rw [hh] at hk; obtain rfl := Option.some.inj hk; exact ⟨l, hl, hr⟩
    · rename_i hne
      obtain ⟨l', h1, h2⟩ := h.rows.rows k q hk
      exact ⟨l', h1, h2.of_heap (fun b hb => hblk b (h.rows.lt _ _ _ h1 hb) (fun hb' => h.rows.sep κ k l l' b (Ne.symm hne) hl h1 hb' hb)) (Imm.le.refl _) (fun b o hb => (h2.at_ b hb).apart o)⟩
  · intro k l1 b h1 hb
    exact Nat.lt_of_lt_of_le (h.rows.lt _ _ _ h1 hb) hfrm.size
  · refine h.frame.trans hfrm fun b hb hx hlb => ?_
    rcases Nat.lt_or_ge κ refKey with hk | hk
    · have := h.own κ l b hk hl hlb
      omega
    · exact hx ⟨κ, l, h.refs κ l hk hl, hlb⟩

/-- Less is known. -/
theorem Sim.weaken (h : Sim C I β st a w) {γ : Nat → Option Loc} {st' : St} (hlen : st'.T.length = st.T.length) (hγ : ∀ κ l, γ κ = some l → β κ = some l)
    (hT : ∀ t, t < st.T.length → RepK I γ (nth st'.T t) (a.tmps.getD t undef))
    (hdom : ∀ κ, look st'.σ κ = none → γ κ = none) (hrows : ∀ κ r, look st'.σ κ = some r → look st.σ κ = some r ∧ γ κ = β κ) : Sim C I γ st' a w := by
  refine { le := h.le, inw := h.inw, ext := h.ext, defs := h.defs, size := by rw [h.size, hlen], tmps := fun t ht => hT t (by omega), rows := ⟨hdom, ?_, ?_, ?_⟩, own := ?_, refs := ?_, frame := h.frame }
  · intro k r hk
    obtain ⟨h1, h2⟩ := hrows k r hk
    obtain ⟨l, h3, h4⟩ := h.rows.rows k r h1
    exact ⟨l, h2.trans h3, h4⟩
  · exact fun κ κ' l l' b hne h1 h2 => h.rows.sep κ κ' l l' b hne (hγ _ _ h1) (hγ _ _ h2)
  · exact fun κ l b h1 => h.rows.lt κ l b (hγ _ _ h1)
  · exact fun κ l b hk h1 => h.own κ l b hk (hγ _ _ h1)
  · exact fun κ l hk h1 => h.refs κ l hk (hγ _ _ h1)
end

/-! ### keys that go -/
theorem nth_mem_keys {l : List DV} {j : Nat} {k : Nat} (hk : k ∈ keysOf (nth l j)) : k ∈ keysOfL l := by
  induction l generalizing j with
  | nil => simp [nth, keysOf] at hk
  | cons d r ih => cases j with
    | zero => simp only [nth] at hk; simp [keysOfL, hk]
    | succ j => simp only [nth] at hk; simp [keysOfL, ih hk]

/-- Of data, only the places of its own keys are asked. -/
theorem RepK.keys {I : Imm} {β γ : Nat → Option Loc} {d : DV} {v : Value} (r : RepK I β d v) (h : ∀ k ∈ keysOf d, γ k = β k) : RepK I γ d v := by
  induction r with
  | pure hr => exact .pure hr
  | ref κ o n cap l b a h1 h2 h3 h4 h5 h6 => exact .ref κ o n cap l b a ((h κ (by simp [keysOf])).trans h1) h2 h3 h4 h5 h6
  | refnil κ l ao h1 h2 => exact .refnil κ l ao ((h κ (by simp [keysOf])).trans h1) h2
  | rptr κ i off l b h1 h2 h3 => exact .rptr κ i off l b ((h κ (by simp [keysOf])).trans h1) h2 h3
  | fn g fst cap a b h1 h2 _ _ ih1 ih2 =>
    exact .fn g fst cap a b h1 h2 (fun j hj => ih1 j hj (fun k hk => h k (by simp [keysOf, nth_mem_keys hk]))) (fun j hj => ih2 j hj (fun k hk => h k (by simp [keysOf, nth_mem_keys hk])))
  | tup ds vs h1 _ ih => exact .tup ds vs h1 (fun j hj => ih j hj (fun k hk => h k (by simp [keysOf, nth_mem_keys hk])))
  | junk v => exact .junk v

theorem nth_killL (κ : Nat) (l : List DV) (j : Nat) : nth (killL κ l) j = if κ ∈ keysOf (nth l j) then .junk else nth l j := by
  induction l generalizing j with
  | nil => simp [killL, nth, keysOf]
  | cons d r ih => cases j with
    | zero =>
      simp only [killL, nth]
      by_cases h : κ ∈ keysOf d
      · simp [h, (mem_iff _ _).2 h]
      · have : mem (keysOf d) κ = false := by
          cases hm : mem (keysOf d) κ
          · rfl
          · exact absurd ((mem_iff _ _).1 hm) h
        simp [h, this]
    | succ j => simp only [killL, nth]; exact ih j
theorem killL_length (κ : Nat) (l : List DV) : (killL κ l).length = l.length := by induction l <;> simp [killL, *]

/-- A row is forgotten, and whatever leads to it. -/
theorem Sim.kill {C : Ctx} {I : Imm} {β : Nat → Option Loc} {st : St} {a : Act} {w : World} (h : Sim C I β st a w) (κ : Nat) :
    Sim C I (fun k => if k = κ then none else β k) ⟨killL κ st.T, del st.σ κ⟩ a w := by
  refine h.weaken (killL_length _ _) ?_ ?_ ?_ ?_
  · intro k l hk
    skip
    split at hk
    · cases hk
    · exact hk
  · intro t ht
    dsimp only
    rw [nth_killL]
    split
    · exact .junk _
    · rename_i hnk
      exact (h.tmps t ht).keys fun k hk => by
        skip
        rw [if_neg]
        rintro rfl
        exact hnk hk
  · intro k hk
    dsimp only at hk ⊢
    rw [look_del] at hk
    split
    · rfl
    · rename_i hne
      rw [if_neg hne] at hk
      exact h.rows.dom k hk
  · intro k r hk
    dsimp only at hk ⊢
    rw [look_del] at hk
    split at hk
    · cases hk
    · rename_i hne
      exact ⟨hk, by rw [if_neg hne]⟩

theorem subset_iff (l m : List Nat) : subset l m = true ↔ ∀ k ∈ l, k ∈ m := by
  induction l with
  | nil => simp [subset]
  | cons a l ih =>
    simp only [subset]
    by_cases h : mem m a = true
    · simp [h, ih, (mem_iff _ _).1 h]
    · have : a ∉ m := fun hm => h ((mem_iff _ _).2 hm)
      simp [h, this]

theorem keepT_length (live keys : List Nat) : ∀ (l : List DV) (i : Nat), (keepT live keys i l).length = l.length
  | [], _ => rfl
  | d :: l, i => by simp [keepT, keepT_length live keys l (i + 1)]
theorem nth_keepT (live keys : List Nat) : ∀ (l : List DV) (i j : Nat), nth (keepT live keys i l) j = .junk ∨ (nth (keepT live keys i l) j = nth l j ∧ ∀ k ∈ keysOf (nth l j), k ∈ keys)
  | [], _, _ => by simp [keepT, nth]
  | d :: l, i, 0 => by
    simp only [keepT, nth]
    split
    · split
      · rename_i h; exact .inr ⟨rfl, (subset_iff _ _).1 h⟩
      · exact .inl rfl
    · exact .inl rfl
  | d :: l, i, j + 1 => by simp only [keepT, nth]; exact nth_keepT live keys l (i + 1) j

theorem Sim.restr {C : Ctx} {I : Imm} {β : Nat → Option Loc} {st : St} {a : Act} {w : World} (h : Sim C I β st a w) (live keys : List Nat) :
    Sim C I (fun k => if k ∈ keys then β k else none) (st.restr live keys) a w := by
  refine h.weaken (keepT_length _ _ _ _) ?_ ?_ ?_ ?_
  · intro k l hk
    skip
    split at hk
    · exact hk
    · cases hk
  · intro t ht
    rcases nth_keepT live keys st.T 0 t with e | ⟨e, hk⟩
    · simp only [St.restr, e]; exact .junk _
    · simp only [St.restr, e]
      exact (h.tmps t ht).keys fun k hk' => by rw [if_pos (hk k hk')]
  · intro k hk
    simp only [St.restr, look_keepS] at hk
    skip
    split
    · rename_i hm; rw [if_pos hm] at hk; exact h.rows.dom k hk
    · rfl
  · intro k r hk
    simp only [St.restr, look_keepS] at hk
    split at hk
    · rename_i hm; exact ⟨hk, by rw [if_pos hm]⟩
    · cases hk

end Go.Sx
