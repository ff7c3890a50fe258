import Derived.Test.YtppaakckfolhlaaSxSem
import Derived.Deep.AppendSrc
import Derived.Deep.MidRow
import Derived.Laws.Slices
/-! Lists, stores, and what stays true of data when memory grows. -/
namespace Go.Sx

/-! ### lists -/
theorem nth_getD (l : List DV) (j : Nat) : nth l j = l.getD j .junk := by
  induction l generalizing j with
  | nil => simp [nth]
  | cons d r ih => cases j with
    | zero => simp [nth]
    | succ j => simp [nth, ih]
theorem nth_ge {l : List DV} {j : Nat} (h : l.length ≤ j) : nth l j = .junk := by
  rw [nth_getD]; simp [List.getD, List.getElem?_eq_none h]
theorem setN_set (l : List DV) (j : Nat) (v : DV) : setN l j v = l.set j v := by
  induction l generalizing j with
  | nil => simp [setN]
  | cons d r ih => cases j with
    | zero => simp [setN]
    | succ j => simp [setN, ih]
theorem setN_length (l : List DV) (j : Nat) (v : DV) : (setN l j v).length = l.length := by rw [setN_set]; simp
theorem nth_setN (l : List DV) (j i : Nat) (v : DV) : nth (setN l j v) i = if i = j then (if j < l.length then v else .junk) else nth l i := by
  rw [setN_set, nth_getD, nth_getD]
  by_cases h : i = j
  · subst h
    by_cases hl : i < l.length <;> simp [hl, List.getD]
  · simp [h, List.getD, Ne.symm h]
theorem len_length (l : List DV) : len l = l.length := by induction l <;> simp [len, *]
theorem dropN_drop (l : List DV) (n : Nat) : dropN l n = l.drop n := by
  induction n generalizing l with
  | zero => cases l <;> simp [dropN]
  | succ n ih => cases l <;> simp [dropN, ih]
theorem takeN_take (l : List DV) (n : Nat) : takeN l n = l.take n := by
  induction n generalizing l with
  | zero => cases l <;> simp [takeN]
  | succ n ih => cases l <;> simp [takeN, ih]
theorem cat_append (l m : List DV) : cat l m = l ++ m := by induction l <;> simp [cat, *]
theorem nth_append (l m : List DV) (j : Nat) : nth (l ++ m) j = if j < l.length then nth l j else nth m (j - l.length) := by
  simp only [nth_getD, List.getD, List.getElem?_append]
  split <;> rfl
theorem nth_drop_take (l : List DV) (o s j : Nat) (hj : j < s) : nth (takeN (dropN l o) s) j = nth l (o + j) := by
  rw [takeN_take, dropN_drop, nth_getD, nth_getD]
  simp [List.getD, hj]

theorem over_length (l : List DV) (o : Nat) (vs : List DV) : (over l o vs).length = l.length := by
  induction l generalizing o vs with
  | nil => simp [over]
  | cons d r ih => cases o with
    | zero => cases vs <;> simp [over, ih]
    | succ o => simp [over, ih]
theorem nth_over (l : List DV) (o : Nat) (vs : List DV) (j : Nat) (h : o + vs.length ≤ l.length) :
    nth (over l o vs) j = if o ≤ j ∧ j < o + vs.length then nth vs (j - o) else nth l j := by
  induction l generalizing o vs j with
  | nil =>
    simp only [List.length_nil] at h
    have : vs = [] := List.eq_nil_of_length_eq_zero (by omega)
    subst this
    simp [over, nth]
  | cons d r ih => cases o with
    | zero => cases vs with
      | nil => simp [over]
      | cons v vs =>
        simp only [over]
        cases j with
        | zero => simp [nth]
        | succ j =>
          simp only [nth]
          rw [ih 0 vs j (by simp at h; omega)]
          simp [nth]
    | succ o =>
      simp only [over]
      cases j with
      | zero => simp [nth]
      | succ j =>
        simp only [nth]
        rw [ih o vs j (by simp at h; omega)]
        simp only [Nat.add_le_add_iff_right, show o + 1 + vs.length = o + vs.length + 1 by omega, Nat.add_lt_add_iff_right, Nat.add_sub_add_right]

theorem mem_iff (l : List Nat) (k : Nat) : mem l k = true ↔ k ∈ l := by
  induction l with
  | nil => simp [mem]
  | cons a l ih =>
    simp only [mem, List.mem_cons]
    split
    · rename_i h; simp [h]
    · rename_i h; simp [ih, Ne.symm h]

/-! ### stores -/
theorem look_ins (σ : Store) (κ k : Nat) (r : Row) (h : look σ κ = none) : look (ins σ κ r) k = if k = κ then some r else look σ k := by
  induction σ with
  | nil => simp [ins, look, eq_comm]
  | cons p s ih =>
    obtain ⟨a, q⟩ := p
    simp only [look] at h
    split at h
    · cases h
    · rename_i hne
      simp only [ins]
      split
      · simp only [look, eq_comm]
      · simp only [look]
        by_cases hk : a = k
        · subst hk; simp [hne]
        · simp [hk, ih h]
theorem look_del (σ : Store) (κ k : Nat) : look (del σ κ) k = if k = κ then none else look σ k := by
  induction σ with
  | nil => simp [del, look]
  | cons p s ih =>
    obtain ⟨a, q⟩ := p
    simp only [del]
    split
    · rename_i h
      subst h
      rw [ih]
      by_cases hk : k = a
      · simp [hk]
      · simp [hk, look, Ne.symm hk]
    · rename_i h
      simp only [look, ih]
      by_cases hk : a = k
      · subst hk; simp [h]
      · simp [hk]
theorem look_upd (σ : Store) (κ k : Nat) (r : Row) : look (upd σ κ r) k = if k = κ then (look σ k).map (fun _ => r) else look σ k := by
  induction σ with
  | nil => simp [upd, look]
  | cons p s ih =>
    obtain ⟨a, q⟩ := p
    simp only [upd]
    split
    · rename_i h
      subst h
      simp only [look, ih]
      by_cases hk : a = k
      · subst hk; simp
      · simp [hk]
    · rename_i h
      simp only [look, ih]
      by_cases hk : a = k
      · subst hk; simp [h]
      · simp [hk]
theorem look_delL (ks : List Nat) : ∀ (σ : Store) (k : Nat), look (delL σ ks) k = if k ∈ ks then none else look σ k := by
  induction ks with
  | nil => intro σ k; cases σ <;> simp [delL]
  | cons a l ih =>
    intro σ k
    have : delL σ (a :: l) = delL (del σ a) l := by cases σ <;> rfl
    rw [this, ih, look_del]
    by_cases h1 : k = a
    · simp [h1]
    · simp [h1]
theorem look_keepS (keys : List Nat) (σ : Store) (k : Nat) : look (keepS keys σ) k = if k ∈ keys then look σ k else none := by
  induction σ with
  | nil => simp [keepS, look]
  | cons p s ih =>
    obtain ⟨a, q⟩ := p
    simp only [keepS]
    split
    · rename_i h
      rw [mem_iff] at h
      simp only [look, ih]
      by_cases hk : a = k
      · subst hk; simp [h]
      · simp [hk]
    · rename_i h
      rw [mem_iff] at h
      rw [ih]
      simp only [look]
      by_cases hk : a = k
      · subst hk; simp [h]
      · simp [hk]

/-! ### what stays -/
theorem Imm.le.refl (I : Imm) : Imm.le I I := fun _ _ _ h => h
theorem Imm.le.trans {I J K : Imm} (h : Imm.le I J) (k : Imm.le J K) : Imm.le I K := fun b o v hv => k b o v (h b o v hv)

theorem Rep.mono {I J : Imm} (h : Imm.le I J) {d : DV} {v : Value} (r : Rep I d v) : Rep J d v := by
  induction r with
  | int k n => exact .int k n
  | bool b => exact .bool b
  | tt => exact .tt
  | ff => exact .ff
  | str s => exact .str s
  | nilp => exact .nilp
  | nilf => exact .nilf
  | nili => exact .nili
  | nils => exact .nils
  | lst sz t n f a cap b o val h1 h2 h3 h4 h5 h6 _ ih => exact .lst sz t n f a cap b o val h1 h2 h3 h4 h5 (fun i j hi hj => h _ _ _ (h6 i j hi hj)) ih
  | eptr sz n f i off b c val h1 h2 h3 _ ih => exact .eptr sz n f i off b c val h1 h2 (fun j hj => h _ _ _ (h3 j hj)) ih
  | agg cs vs h1 h2 _ ih => exact .agg cs vs h1 h2 ih
  | fn g fst cap a b h1 h2 _ _ ih1 ih2 => exact .fn g fst cap a b h1 h2 ih1 ih2
  | und => exact .und

theorem RepK.mono {I J : Imm} {β γ : Nat → Option Loc} (h : Imm.le I J) (hb : ∀ κ l, β κ = some l → γ κ = some l) {d : DV} {v : Value} (r : RepK I β d v) : RepK J γ d v := by
  induction r with
  | pure hr => exact .pure (hr.mono h)
  | ref κ o n cap l b a h1 h2 h3 h4 h5 h6 => exact .ref κ o n cap l b a (hb _ _ h1) h2 h3 h4 h5 h6
  | refnil κ l ao h1 h2 => exact .refnil κ l ao (hb _ _ h1) h2
  | rptr κ i off l b h1 h2 h3 => exact .rptr κ i off l b (hb _ _ h1) h2 h3
  | fn g fst cap a b h1 h2 _ _ ih1 ih2 => exact .fn g fst cap a b h1 h2 ih1 ih2
  | tup ds vs h1 _ ih => exact .tup ds vs h1 ih
  | junk v => exact .junk v

/-- A value that fills one cell. -/
theorem Rep.one {I : Imm} {d : DV} {v : Value} (r : Rep I d v) (h : isCell d = true) : v.oneCell' = true ∧ v.cells = #[v] := by
  cases r <;> first | exact ⟨rfl, rfl⟩ | cases h

/-! ### the world -/
/-- Of block b the two worlds say the same. -/
theorem cell_of_heap {w w' : World} {b : Nat} (h : w'.heap[b]? = w.heap[b]?) (o : Nat) : w'.cell? ⟨b, o, none⟩ = w.cell? ⟨b, o, none⟩ := by
  unfold World.cell?; rw [h]
theorem frozen_of_heap {w w' : World} {b : Nat} (h : w'.heap[b]? = w.heap[b]?) (o : Nat) : w'.frozen? ⟨b, o, none⟩ = w.frozen? ⟨b, o, none⟩ := by
  unfold World.frozen?; rw [h]
theorem block_lt {w : World} {b o : Nat} (h : (w.cell? ⟨b, o, none⟩).isSome = true) : b < w.heap.size := by
  obtain ⟨v, hv⟩ := Option.isSome_iff_exists.1 h
  unfold World.cell? at hv
  rcases Nat.lt_or_ge b w.heap.size with hlt | hge
  · exact hlt
  · simp [Array.getElem?_eq_none hge] at hv

theorem RowAt.of_heap {I J : Imm} {w w' : World} {l : Loc} {r : Row} {b : Nat} (h : RowAt I w l r b) (hh : w'.heap[b]? = w.heap[b]?) (hi : Imm.le I J) (ha : ∀ o, J b o = none) : RowAt J w' l r b where
  there := fun j hj => by rw [cell_of_heap hh]; exact h.there j hj
  val := fun i j hi' hj => by
    obtain ⟨v, h1, h2⟩ := h.val i j hi' hj
    exact ⟨v, by rw [cell_of_heap hh]; exact h1, h2.mono hi⟩
  free := fun o ho => by rw [frozen_of_heap hh]; exact h.free o ho
  fits := h.fits
  apart := ha
  elem := h.elem

theorem RowOk.of_heap {I J : Imm} {w w' : World} {l : Loc} {r : Row} (h : RowOk I w l r) (hh : ∀ b, l.blk = some b → w'.heap[b]? = w.heap[b]?) (hi : Imm.le I J)
    (ha : ∀ b o, l.blk = some b → J b o = none) : RowOk J w' l r :=
  ⟨h.sz, h.n, h.pos, fun b hb => (h.at_ b hb).of_heap (hh b hb) hi (fun o => ha b o hb), h.nil⟩

theorem Imm.inW.of_heap {I : Imm} {w w' : World} (h : I.inW w) (hh : ∀ b o v, I b o = some v → w'.heap[b]? = w.heap[b]?) : I.inW w' :=
  fun b o v hv => by rw [cell_of_heap (hh b o v hv)]; exact h b o v hv

theorem Frm.refl (w : World) (X : Nat → Prop) : Frm w w X := ⟨rfl, rfl, rfl, Nat.le_refl _, fun _ _ _ => rfl⟩
theorem Frm.trans {w w1 w2 : World} {X Y : Nat → Prop} (h : Frm w w1 X) (k : Frm w1 w2 Y) (hY : ∀ b, b < w.heap.size → ¬ X b → ¬ Y b) : Frm w w2 X :=
  ⟨k.os.trans h.os, k.tape.trans h.tape, k.output.trans h.output, Nat.le_trans h.size k.size,
   fun b hb hx => (k.block b (Nat.lt_of_lt_of_le hb h.size) (hY b hb hx)).trans (h.block b hb hx)⟩
theorem Frm.alloc (w : World) (o : Obj) (X : Nat → Prop) : Frm w (w.alloc o) X :=
  ⟨rfl, rfl, rfl, by simp only [World.alloc, Array.size_push]; omega, fun b hb _ => by simp only [World.alloc, Array.getElem?_push]; rw [if_neg (by omega)]⟩
theorem Frm.drew (w : World) (X : Nat → Prop) : Frm w w.drew X := ⟨rfl, rfl, rfl, Nat.le_refl _, fun _ _ _ => rfl⟩
theorem heap_setCells (b : Nat) : ∀ (vs : List Value) (o : Nat) (w : World) (k : Nat), k ≠ b → (w.setCells b o vs).heap[k]? = w.heap[k]?
  | [], _, _, _, _ => rfl
  | v :: r, o, w, k, h => by
    rw [World.setCells, heap_setCells b r (o + 1) _ k h]
    simp only [World.setCell, Array.getElem?_modify]
    rw [if_neg (Ne.symm h)]
theorem setCells_size (b : Nat) : ∀ (vs : List Value) (o : Nat) (w : World), (w.setCells b o vs).heap.size = w.heap.size
  | [], _, _ => rfl
  | v :: r, o, w => by rw [World.setCells, setCells_size b r (o + 1) _]; simp [World.setCell]
theorem setCells_rest (b : Nat) : ∀ (vs : List Value) (o : Nat) (w : World), (w.setCells b o vs).os = w.os ∧ (w.setCells b o vs).tape = w.tape ∧ (w.setCells b o vs).output = w.output
  | [], _, _ => ⟨rfl, rfl, rfl⟩
  | v :: r, o, w => by rw [World.setCells]; exact setCells_rest b r (o + 1) _
theorem Frm.setCells (w : World) (b o : Nat) (vs : List Value) (X : Nat → Prop) (hX : w.heap.size ≤ b ∨ X b) : Frm w (w.setCells b o vs) X := by
  obtain ⟨h1, h2, h3⟩ := setCells_rest b vs o w
  refine ⟨h1, h2, h3, by rw [setCells_size]; exact Nat.le_refl _, fun k hk hx => heap_setCells b vs o w k ?_⟩
  rintro rfl
  rcases hX with h | h
  · omega
  · exact hx h

end Go.Sx
