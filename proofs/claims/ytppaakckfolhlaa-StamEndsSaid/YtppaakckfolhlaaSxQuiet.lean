import Derived.Test.YtppaakckfolhlaaSxView
import Derived.Laws.BytesArg
import Derived.Laws.StructEq
/-! The quiet operations do what their data says. -/
namespace Go.Sx

section
variable {P : Program} {md : Modes} {C : Ctx} {I : Imm} {β : Nat → Option Loc} {st : St} {a : Act} {w : World}

theorem allCell_iff (l : List DV) : allCell l = true ↔ ∀ j < l.length, isCell (nth l j) = true := by
  induction l with
  | nil => simp [allCell]
  | cons d r ih =>
    simp only [allCell]
    constructor
    · intro h j hj
      split at h
      · rename_i hd
        cases j with
        | zero => exact hd
        | succ j => exact ih.1 h j (by simpa using hj)
      · cases h
    · intro h
      have h0 := h 0 (by simp)
      simp only [nth] at h0
      rw [if_pos h0]
      exact ih.2 fun j hj => h (j + 1) (by simpa using hj)

theorem cdv0_rep {v : Value} (h : isCell (cdv0 v) = true) : Rep I (cdv0 v) v := by
  unfold cdv0 at h ⊢
  split at h <;> first | constructor | cases h
theorem cdv0_keys (v : Value) : keysOf (cdv0 v) = [] := by
  unfold cdv0
  split <;> rfl

theorem nth_cdvL (l : List Value) (j : Nat) (hj : j < l.length) : nth (cdvL l) j = cdv0 (l.getD j undef) := by
  induction l generalizing j with
  | nil => simp at hj
  | cons v r ih => cases j with
    | zero => simp [cdvL, nth]
    | succ j => simp only [cdvL, nth]; rw [ih j (by simpa using hj)]; simp
theorem cdvL_length (l : List Value) : (cdvL l).length = l.length := by induction l <;> simp [cdvL, *]
theorem cdvL_keys (l : List Value) : keysOfL (cdvL l) = [] := by
  induction l with
  | nil => rfl
  | cons v r ih => simp [cdvL, keysOfL, ih, cdv0_keys]

theorem cCon_rep {v : Value} {d : DV} (h : cCon v = some d) : Rep I d v ∧ keysOf d = [] := by
  unfold cCon at h
  split at h
  · rename_i cs
    split at h
    · rename_i hall
      obtain rfl := Option.some.inj h
      rw [allCell_iff, cdvL_length] at hall
      constructor
      · refine .agg _ cs (by rw [cdvL_length]; simp) (by rw [cdvL_length]; exact hall) ?_
        intro j hj
        rw [cdvL_length] at hj
        have hc := hall j hj
        rw [nth_cdvL _ _ hj] at hc ⊢
        have e : cs.toList.getD j undef = cs.getD j undef := by simp [Array.getD_eq_getD_getElem?, List.getD]
        rw [← e]
        exact cdv0_rep hc
      · exact cdvL_keys _
    · cases h
  · rename_i cs
    split at h
    · rename_i hz
      obtain rfl := Option.some.inj h
      have : cs = #[] := Array.eq_empty_of_size_eq_zero hz
      subst this
      exact ⟨.und, rfl⟩
    · cases h
  · split at h
    · rename_i hc
      obtain rfl := Option.some.inj h
      exact ⟨cdv0_rep hc, cdv0_keys _⟩
    · cases h

theorem arg_rep {x : Operand} {y : Arg} (h : cArg x = some y) (hs : Sim C I β st a w) : RepK I β (ev st y) (a.eval x) := by
  cases x with
  | tmp t => obtain rfl := Option.some.inj h; exact hs.tmp t
  | const v =>
    simp only [cArg] at h
    split at h
    · rename_i d hd
      obtain rfl := Option.some.inj h
      exact .pure (cCon_rep hd).1
    · cases h
  | global g => cases h
  | func g => obtain rfl := Option.some.inj h; exact .pure (.fn g [] [] #[] #[] rfl rfl (fun j hj => by simp at hj) (fun j hj => by simp at hj))

theorem args_rep : ∀ {xs : List Operand} {ys : List Arg}, cArgs xs = some ys → Sim C I β st a w →
    (evL st ys).length = xs.length ∧ ∀ j < xs.length, RepK I β (nth (evL st ys) j) ((xs.map a.eval).getD j undef)
  | [], ys, h, _ => by
    obtain rfl := Option.some.inj h
    exact ⟨rfl, fun j hj => by simp at hj⟩
  | x :: xs, ys, h, hs => by
    simp only [cArgs] at h
    split at h
    · rename_i y r hy hr
      obtain rfl := Option.some.inj h
      obtain ⟨h1, h2⟩ := args_rep hr hs
      refine ⟨by simp [evL, h1], ?_⟩
      intro j hj
      cases j with
      | zero => simpa [evL, nth] using arg_rep hy hs
      | succ j =>
        have := h2 j (by simpa using hj)
        simpa [evL, nth] using this
    · cases h

/-- Data of one cell, as a whole value. -/
theorem RepK.inv_int {k : IntKind} {n : Int} {v : Value} (h : RepK I β (.int k n) v) : v = .int k n := by
  cases h with | pure h => cases h; rfl
theorem RepK.inv_str {s : ByteArray} {v : Value} (h : RepK I β (.str s) v) : v = .string s := by
  cases h with | pure h => cases h; rfl
theorem RepK.inv_bool {d : DV} {b : Bool} {v : Value} (h : RepK I β d v) (hb : boolOf d = some b) : v = .bool b := by
  unfold boolOf at hb
  split at hb
  · obtain rfl := Option.some.inj hb
    cases h with | pure h => cases h; rfl
  · obtain rfl := Option.some.inj hb
    cases h with | pure h => cases h; rfl
  · obtain rfl := Option.some.inj hb
    cases h with | pure h => cases h; rfl
  · cases hb
theorem RepK.inv_agg {cs : List DV} {v : Value} (h : RepK I β (.agg cs) v) : Rep I (.agg cs) v := by
  cases h with | pure h => exact h

/-- Cells that lie there are loaded. -/
theorem run_part {t : TypeId} {g : Bool} {n : Nat} (ht : tAgg P t = some (g, n)) {d : DV} {off b c : Nat} (hin : off + n ≤ (cells d).length)
    (hcell : ∀ j < (cells d).length, isCell (nth (cells d) j) = true)
    (hv : ∀ j < (cells d).length, ∃ v, w.cell? ⟨b, c + j, none⟩ = some v ∧ Rep I (nth (cells d) j) v) :
    ∃ rv, (Instr.loadAt t (.pointer (some ⟨b, c + off, none⟩))).run P w = .ok rv w ∧ Rep I (part g n d off) rv := by
  have hadd : ∀ j, (⟨b, c + off, none⟩ : Addr).add j = ⟨b, c + (off + j), none⟩ := fun j => by
    unfold Addr.add; split
    · rename_i h; subst h; rfl
    · simp [Nat.add_assoc]
  have hload : (Instr.loadAt t (.pointer (some ⟨b, c + off, none⟩))).run P w = (loadVar t ⟨b, c + off, none⟩).run P w := by
    simp [Instr.loadAt, Instr.sureAddr]
  rw [hload]
  unfold tAgg at ht
  have agg : ∀ d', P.underlying t = some d' → (match d' with | .struct _ | .array _ _ => True | _ => False) → (∃ i, tInfo P t = some i ∧ n = i.size) → g = true →
      ∃ rv, (loadVar t ⟨b, c + off, none⟩).run P w = .ok rv w ∧ Rep I (part g n d off) rv := by
    rintro d' hd hm ⟨i, hi, rfl⟩ rfl
    have hl := run_loadCells (P := P) w ⟨b, c + off, none⟩ i.size (fun j => (w.cell? ⟨b, c + (off + j), none⟩).getD undef) (fun j hj => by
      rw [hadd]
      obtain ⟨v, h1, _⟩ := hv (off + j) (by omega)
      rw [h1]; rfl)
    have hagg : (isAgg t).run P w = .ok true w := by
      cases d' <;> simp at hm <;> simp [isAgg, run_underlying hd]
    refine ⟨.agg ((List.range i.size).map fun j => (w.cell? ⟨b, c + (off + j), none⟩).getD undef).toArray, by simp [loadVar, hagg, sizeOf, typeInfo, show P.info? t = some i from hi, hl], ?_⟩
    refine .agg _ _ ?_ ?_ ?_
    · simp only [takeN_take, dropN_drop]; simp; omega
    · intro j hj
      simp only [takeN_take, dropN_drop] at hj
      simp at hj
      rw [nth_drop_take _ _ _ _ (by omega)]
      exact hcell _ (by omega)
    · intro j hj
      simp only [takeN_take, dropN_drop] at hj
      simp at hj
      rw [nth_drop_take _ _ _ _ (by omega)]
      obtain ⟨v, h1, h2⟩ := hv (off + j) (by omega)
      have e : (((List.range i.size).map fun j => (w.cell? ⟨b, c + (off + j), none⟩).getD undef).toArray).getD j undef = v := by
        simp [Array.getD_eq_getD_getElem?, show j < i.size by omega, h1]
      rw [e]; exact h2
  split at ht
  · rename_i f i hd hi
    obtain ⟨rfl, rfl⟩ := Prod.mk.inj (Option.some.inj ht)
    exact agg _ hd trivial ⟨i, hi, rfl⟩ rfl
  · rename_i f i hd hi
    obtain ⟨rfl, rfl⟩ := Prod.mk.inj (Option.some.inj ht)
    exact agg _ hd trivial ⟨i, hi, rfl⟩ rfl
  · rename_i d' i hns hna hd hi
    split at ht
    · obtain ⟨rfl, rfl⟩ := Prod.mk.inj (Option.some.inj ht)
      obtain ⟨v, h1, h2⟩ := hv off (by omega)
      have hagg : (isAgg t).run P w = .ok false w := by
        cases d' <;> first | exact absurd rfl (hns _) | exact absurd rfl (hna _ _) | simp [isAgg, run_underlying hd]
      refine ⟨v, by simp [loadVar, hagg, h1], h2⟩
    · cases ht
  · cases ht

/-- A slice's elements lie there. -/
structure SlAt (I : Imm) (w : World) (es m : Nat) (g : Nat → DV) (ao : Option Addr) (cap : Nat) : Prop where
  le : m ≤ cap
  elem : ∀ i < m, elemOk es (g i)
  at_ : 0 < m → ∃ b o, ao = some ⟨b, o, none⟩ ∧ ∀ i j, i < m → j < es → ∃ u, w.cell? ⟨b, o + i * es + j, none⟩ = some u ∧ Rep I (nth (cells (g i)) j) u

theorem lst_at (hs : Sim C I β st a w) {sz n : Nat} {t : Bool} {f : Nat → DV} {v : Value} (h : RepK I β (.lst sz t n f) v) :
    ∃ ao cap, v = .slice ao n cap ∧ SlAt I w sz n f ao cap ∧ (t = true → cap = n) ∧ 0 < sz := by
  cases h with
  | pure h =>
    cases h with
    | lst _ _ _ _ ao cap b o val h1 h2 h3 h4 h5 h6 h7 =>
      refine ⟨ao, cap, rfl, ⟨h2, h5, fun hn => ⟨b, o, h4 hn, fun i j hi hj => ?_⟩⟩, h3, h1⟩
      exact ⟨val i j, hs.inw _ _ _ (h6 i j hi hj), h7 i j hi hj⟩

theorem ref_at (hs : Sim C I β st a w) {κ o n : Nat} {r : Row} (hr : look st.σ κ = some r) {v : Value} (h : RepK I β (.ref κ o n) v) :
    ∃ ao cap, v = .slice ao n cap ∧ SlAt I w r.sz n (shift o r.f) ao cap ∧ 0 < r.sz ∧ o + n ≤ r.n := by
  obtain ⟨l, hl, hok⟩ := hs.rows.rows κ r hr
  have hn := hok.n
  have hsz := hok.sz
  cases h with
  | pure h => cases h
  | ref _ _ _ cap l' b ad h1 h2 h3 h4 h5 h6 =>
    rw [hl] at h1
    obtain rfl := Option.some.inj h1
    have hA := hok.at_ b h2
    refine ⟨some ad, cap, rfl, ⟨h3, ?_, ?_⟩, hok.pos, by omega⟩
    · intro i hi; rw [shift_eq]; exact hA.elem _ (by omega)
    · intro hn0
      refine ⟨b, l.off + o * l.sz, by rw [h6 (by omega)], fun i j hi hj => ?_⟩
      obtain ⟨u, h7, h8⟩ := hA.val (o + i) j (by omega) hj
      refine ⟨u, ?_, by rw [shift_eq]; exact h8⟩
      rw [← h7, hsz]
      congr 2
      rw [Nat.add_mul]; omega
  | refnil _ l' ao h1 h2 =>
    exact ⟨ao, 0, rfl, ⟨Nat.le_refl _, fun i hi => by omega, fun h => by omega⟩, hok.pos, by omega⟩

theorem nils_val {v : Value} (h : RepK I β .nils v) : v = .slice none 0 0 := by
  cases h with | pure h => cases h; rfl

/-- What cont tells of a slice. -/
theorem cont_at (hs : Sim C I β st a w) {es m : Nat} {g : Nat → DV} {x : DV} {v : Value} (hx : ∀ s, x ≠ .str s) (hc : cont (std P) st es x = some (m, g)) (h : RepK I β x v) :
    ∃ ao cap, v = .slice ao m cap ∧ SlAt I w es m g ao cap := by
  cases x with
  | nils =>
    simp only [cont] at hc
    obtain ⟨rfl, rfl⟩ := Prod.mk.inj (Option.some.inj hc)
    exact ⟨none, 0, nils_val h, Nat.le_refl _, fun i hi => by omega, fun h => by omega⟩
  | lst sz t n f =>
    simp only [cont] at hc
    split at hc
    · rename_i hsz
      subst hsz
      obtain ⟨rfl, rfl⟩ := Prod.mk.inj (Option.some.inj hc)
      obtain ⟨ao, cap, h1, h2, _⟩ := lst_at hs h
      exact ⟨ao, cap, h1, h2⟩
    · cases hc
  | ref κ o n =>
    simp only [cont] at hc
    split at hc
    · rename_i r hr
      split at hc
      · rename_i hsz
        subst hsz
        obtain ⟨rfl, rfl⟩ := Prod.mk.inj (Option.some.inj hc)
        obtain ⟨ao, cap, h1, h2, _⟩ := ref_at hs hr h
        exact ⟨ao, cap, h1, h2⟩
      · cases hc
    · cases hc
  | str s => exact absurd rfl (hx s)
  | _ => simp only [cont] at hc; cases hc

abbrev Good (P : Program) (I : Imm) (β : Nat → Option Loc) (w : World) (a : Act) (o : Oper) (v : DV) : Prop :=
  ∃ rv, (execOp a.eval o).run P w = .ok (.value rv) w ∧ RepK I β v rv

theorem loadE_good {t : TypeId} {g : Bool} {n : Nat} (ht : tAgg P t = some (g, n)) {d v : DV} {ob : Prop} {off b c : Nat} {sz : Nat}
    (hq : loadE g n off d = (ob, v)) (hob : ob) (he : elemOk sz d) (hv : ∀ j < sz, ∃ u, w.cell? ⟨b, c + j, none⟩ = some u ∧ Rep I (nth (cells d) j) u) :
    ∃ rv, (Instr.loadAt t (.pointer (some ⟨b, c + off, none⟩))).run P w = .ok rv w ∧ Rep I v rv := by
  unfold loadE at hq
  split at hq
  · rename_i hin
    obtain ⟨_, rfl⟩ := Prod.mk.inj hq
    rw [len_length] at hin
    obtain ⟨h1, h2⟩ := he
    exact run_part ht hin (fun j hj => h2 j (by omega)) (fun j hj => hv j (by omega))
  · obtain ⟨rfl, _⟩ := Prod.mk.inj hq
    exact hob.elim

theorem load_good (hs : Sim C I β st a w) {t : TypeId} {g : Bool} {n : Nat} (ht : tAgg P t = some (g, n)) {d v : DV} {ob : Prop} {pv : Value}
    (hq : loadV g n st d = (ob, v)) (hob : ob) (hd : RepK I β d pv) :
    ∃ rv, (Instr.loadAt t pv).run P w = .ok rv w ∧ Rep I v rv := by
  unfold loadV at hq
  split at hq
  · rename_i κ i off
    split at hq
    · rename_i r hr
      obtain ⟨l, hl, hok⟩ := hs.rows.rows κ r hr
      cases hd with
      | pure h => cases h
      | rptr _ _ _ l' b h1 h2 h3 =>
        rw [hl] at h1
        obtain rfl := Option.some.inj h1
        have hA := hok.at_ b h2
        have hn := hok.n
        rw [hok.sz]
        exact loadE_good ht hq hob (hA.elem i (by omega)) (fun j hj => hA.val i j (by omega) hj)
    · obtain ⟨rfl, _⟩ := Prod.mk.inj hq
      exact hob.elim
  · rename_i sz n' f i off
    cases hd with
    | pure h =>
      cases h with
      | eptr _ _ _ _ _ b c val h1 h2 h3 h4 =>
        exact loadE_good ht hq hob h2 (fun j hj => ⟨val j, hs.inw _ _ _ (h3 j hj), h4 j hj⟩)
  · obtain ⟨rfl, _⟩ := Prod.mk.inj hq
    exact hob.elim

theorem nilCheck_good {d v : DV} {ob : Prop} {o : Oper} {x : Operand} (ho : o.op = .nilCheck x) (hq : nilV d = (ob, v)) (hob : ob)
    (hd : RepK I β d (a.eval x)) : Good P I β w a o v := by
  unfold nilV at hq
  split at hq
  · obtain ⟨_, rfl⟩ := Prod.mk.inj hq
    have hd' := hd
    generalize hv : a.eval x = pv at hd'
    cases hd' with
    | pure h => cases h
    | rptr _ _ _ l b h1 h2 h3 => exact ⟨a.eval x, by simp [execOp, ho, hv], hd⟩
  · obtain ⟨_, rfl⟩ := Prod.mk.inj hq
    have hd' := hd
    generalize hv : a.eval x = pv at hd'
    cases hd' with
    | pure h => cases h; exact ⟨a.eval x, by simp [execOp, ho, hv], hd⟩
  · obtain ⟨_, rfl⟩ := Prod.mk.inj hq
    have hd' := hd
    generalize hv : a.eval x = pv at hd'
    cases hd' with
    | pure h => cases h; exact ⟨a.eval x, by simp [execOp, ho, hv], hd⟩
    | fn => exact ⟨a.eval x, by simp [execOp, ho, hv], hd⟩
  · obtain ⟨rfl, _⟩ := Prod.mk.inj hq
    exact hob.elim

end
end Go.Sx
