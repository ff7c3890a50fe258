import Derived.Test.YtppaakckfolhlaaSxCall
namespace Go.Sx

section
variable {P : Program} {md : Modes} {C : Ctx} {I : Imm} {β : Nat → Option Loc} {st : St} {a : Act} {w : World}

theorem nth_renL (ks : List Nat) (l : List DV) (j : Nat) : nth (renL ks l) j = ren ks (nth l j) := by
  induction l generalizing j with
  | nil => simp [renL, nth, ren]
  | cons d r ih => cases j with
    | zero => simp [renL, nth]
    | succ j => simp [renL, nth, ih]
theorem renL_length (ks : List Nat) (l : List DV) : (renL ks l).length = l.length := by induction l <;> simp [renL, *]

theorem Rep.ren (ks : List Nat) {d : DV} {v : Value} (r : Rep I d v) : Rep I (ren ks d) v ∧ (isCell d = true → isCell (ren ks d) = true) := by
  induction r with
  | agg cs vs h1 h2 h3 ih =>
    refine ⟨.agg _ vs (by rw [renL_length]; exact h1) (fun j hj => ?_) (fun j hj => ?_), fun h => by cases h⟩
    · rw [renL_length] at hj; rw [nth_renL]; exact (ih j hj).2 (h2 j hj)
    · rw [renL_length] at hj; rw [nth_renL]; exact (ih j hj).1
  | fn g fst cap a b h1 h2 _ _ ih1 ih2 =>
    refine ⟨.fn g _ _ a b (by rw [renL_length]; exact h1) (by rw [renL_length]; exact h2) (fun j hj => ?_) (fun j hj => ?_), fun _ => rfl⟩
    · rw [renL_length] at hj; rw [nth_renL]; exact (ih1 j hj).1
    · rw [renL_length] at hj; rw [nth_renL]; exact (ih2 j hj).1
  | int k n => exact ⟨.int k n, fun _ => rfl⟩
  | bool b => exact ⟨.bool b, fun _ => rfl⟩
  | tt => exact ⟨.tt, fun _ => rfl⟩
  | ff => exact ⟨.ff, fun _ => rfl⟩
  | str s => exact ⟨.str s, fun _ => rfl⟩
  | nilp => exact ⟨.nilp, fun _ => rfl⟩
  | nilf => exact ⟨.nilf, fun _ => rfl⟩
  | nili => exact ⟨.nili, fun _ => rfl⟩
  | nils => exact ⟨.nils, fun _ => rfl⟩
  | lst sz t n f a cap b o val h1 h2 h3 h4 h5 h6 h7 _ => exact ⟨.lst sz t n f a cap b o val h1 h2 h3 h4 h5 h6 h7, fun _ => rfl⟩
  | eptr sz n f i off b c val h1 h2 h3 h4 _ => exact ⟨.eptr sz n f i off b c val h1 h2 h3 h4, fun _ => rfl⟩
  | und => exact ⟨.und, fun h => h⟩

theorem keyAt_idx {ks : List Nat} {κ : Nat} (h : κ ∈ ks) : keyAt ks (idx ks κ) = some κ := by
  induction ks with
  | nil => cases h
  | cons k l ih =>
    simp only [idx]
    split
    · rename_i e; subst e; rfl
    · rename_i hne
      exact ih (by rcases List.mem_cons.1 h with rfl | h; exact absurd rfl hne; exact h)
theorem keyAt_mem {ks : List Nat} {n k : Nat} (h : keyAt ks n = some k) : k ∈ ks := by
  induction ks generalizing n with
  | nil => cases h
  | cons a l ih => cases n with
    | zero => obtain rfl := Option.some.inj h; simp
    | succ n => exact List.mem_cons_of_mem _ (ih h)
theorem keyAt_inj {ks : List Nat} (hn : ks.Nodup) {n m k : Nat} (h1 : keyAt ks n = some k) (h2 : keyAt ks m = some k) : n = m := by
  induction ks generalizing n m with
  | nil => cases h1
  | cons a l ih =>
    obtain ⟨n1, n2⟩ := List.nodup_cons.1 hn
    cases n with
    | zero => cases m with
      | zero => rfl
      | succ m => obtain rfl := Option.some.inj h1; exact absurd (keyAt_mem (ks := l) (n := m) h2) n1
    | succ n => cases m with
      | zero => obtain rfl := Option.some.inj h2; exact absurd (keyAt_mem (ks := l) (n := n) h1) n1
      | succ m => rw [ih n2 h1 h2]

/-- Where the callee finds the caller's rows. -/
def refB (β : Nat → Option Loc) (ks : List Nat) : Nat → Option Loc := fun κ => if κ < refKey then none else match keyAt ks (κ - refKey) with | some k => β k | none => none
theorem refB_at {ks : List Nat} {κ : Nat} (h : κ ∈ ks) : refB β ks (refKey + idx ks κ) = β κ := by
  unfold refB
  rw [if_neg (by omega), show refKey + idx ks κ - refKey = idx ks κ by omega, keyAt_idx h]

theorem RepK.ren {ks : List Nat} {d : DV} {v : Value} (r : RepK I β d v) : (∀ k ∈ keysOf d, k ∈ ks) → RepK I (refB β ks) (ren ks d) v := by
  induction r with
  | pure h => exact fun _ => .pure (h.ren ks).1
  | ref κ o n cap l b a h1 h2 h3 h4 h5 h6 => exact fun hk => .ref _ o n cap l b a (by rw [refB_at (hk κ (by simp [keysOf]))]; exact h1) h2 h3 h4 h5 h6
  | refnil κ l ao h1 h2 => exact fun hk => .refnil _ l ao (by rw [refB_at (hk κ (by simp [keysOf]))]; exact h1) h2
  | rptr κ i off l b h1 h2 h3 => exact fun hk => .rptr _ i off l b (by rw [refB_at (hk κ (by simp [keysOf]))]; exact h1) h2 h3
  | fn g fst cap a b h1 h2 _ _ ih1 ih2 =>
    intro hk
    refine .fn g _ _ a b (by rw [renL_length]; exact h1) (by rw [renL_length]; exact h2) (fun j hj => ?_) (fun j hj => ?_)
    · rw [renL_length] at hj; rw [nth_renL]; exact ih1 j hj (fun k hk' => hk k (by simp [keysOf, nth_mem_keys hk']))
    · rw [renL_length] at hj; rw [nth_renL]; exact ih2 j hj (fun k hk' => hk k (by simp [keysOf, nth_mem_keys hk']))
  | tup ds vs h1 _ ih =>
    intro hk
    refine .tup _ vs (by rw [renL_length]; exact h1) (fun j hj => ?_)
    rw [renL_length] at hj; rw [nth_renL]; exact ih j hj (fun k hk' => hk k (by simp [keysOf, nth_mem_keys hk']))
  | junk v => exact fun _ => .junk v

theorem mem_cat1 {l : List Nat} {k x : Nat} : x ∈ nub.cat1 l k ↔ x ∈ l ∨ x = k := by
  induction l with
  | nil => simp [nub.cat1]
  | cons a l ih => simp [nub.cat1, ih, or_assoc]
theorem nodup_cat1 {l : List Nat} {k : Nat} (h : l.Nodup) (hk : k ∉ l) : (nub.cat1 l k).Nodup := by
  induction l with
  | nil => simp [nub.cat1]
  | cons a l ih =>
    obtain ⟨n1, n2⟩ := List.nodup_cons.1 h
    simp only [nub.cat1]
    refine List.nodup_cons.2 ⟨fun hm => ?_, ih n2 (fun hm => hk (by simp [hm]))⟩
    rcases mem_cat1.1 hm with hm | hm
    · exact n1 hm
    · exact hk (by simp [hm])
theorem nub_spec : ∀ (l acc : List Nat), acc.Nodup → (nub acc l).Nodup ∧ (∀ k ∈ acc, k ∈ nub acc l) ∧ ∀ k ∈ l, k ∈ nub acc l
  | [], acc, h => ⟨h, fun _ h => h, fun _ h => by cases h⟩
  | k :: l, acc, h => by
    simp only [nub]
    split
    · rename_i hm
      rw [mem_iff] at hm
      obtain ⟨h1, h2, h3⟩ := nub_spec l acc h
      refine ⟨h1, h2, fun x hx => ?_⟩
      rcases List.mem_cons.1 hx with rfl | hx
      · exact h2 _ hm
      · exact h3 _ hx
    · rename_i hm
      rw [mem_iff] at hm
      obtain ⟨h1, h2, h3⟩ := nub_spec l _ (nodup_cat1 h hm)
      refine ⟨h1, fun x hx => h2 _ (mem_cat1.2 (.inl hx)), fun x hx => ?_⟩
      rcases List.mem_cons.1 hx with rfl | hx
      · exact h2 _ (mem_cat1.2 (.inr rfl))
      · exact h3 _ hx

theorem lookL_spec {σ : Store} : ∀ (ks : List Nat) (rows : List Row) (s : Nat), lookL σ ks = some rows → rows.length = ks.length ∧ ∀ κ, look (keyed s rows) κ = if κ < s then none else match keyAt ks (κ - s) with | some k => look σ k | none => none
  | [], rows, s, h => by
    obtain rfl := Option.some.inj h
    refine ⟨rfl, fun κ => ?_⟩
    simp [keyed, look, keyAt]
  | k :: ks, rows, s, h => by
    simp only [lookL] at h
    split at h
    · rename_i r rs hr hrs
      obtain rfl := Option.some.inj h
      obtain ⟨h1, h2⟩ := lookL_spec ks rs (s + 1) hrs
      refine ⟨by simp [h1], fun κ => ?_⟩
      simp only [keyed, look]
      by_cases hs : s = κ
      · subst hs
        simp [keyAt, hr]
      · rw [if_neg hs, h2 κ]
        by_cases hlt : κ < s
        · rw [if_pos hlt, if_pos (by omega)]
        · rw [if_neg hlt, if_neg (by omega)]
          rw [show κ - s = (κ - (s + 1)) + 1 by omega]
          simp [keyAt]
    · cases h

theorem look_updL : ∀ (ks : List Nat) (rows : List Row) (σ : Store), ks.Nodup → rows.length = ks.length → (∀ k ∈ ks, look σ k ≠ none) →
    ∀ κ, look (updL σ ks rows) κ = if κ ∈ ks then look (keyed refKey rows) (refKey + idx ks κ) else look σ κ
  | [], rows, σ, _, _, _, κ => by simp [updL]
  | k :: ks, [], σ, _, hl, _, κ => by simp at hl
  | k :: ks, r :: rs, σ, hn, hl, hs, κ => by
    obtain ⟨n1, n2⟩ := List.nodup_cons.1 hn
    simp only [updL]
    have hsome : ∀ x ∈ ks, look (upd σ k r) x ≠ none := by
      intro x hx
      rw [look_upd]
      split
      · rename_i e; subst e; exact absurd hx n1
      · exact hs x (by simp [hx])
    rw [look_updL ks rs (upd σ k r) n2 (by simpa using hl) hsome κ]
    have keyedS : ∀ (l : List Row) (s x : Nat), look (keyed (s + 1) l) (x + 1) = look (keyed s l) x := by
      intro l
      induction l with
      | nil => intro s x; rfl
      | cons q l ih => intro s x; simp only [keyed, look, ih]; simp
    by_cases hκ : κ = k
    · subst hκ
      rw [if_neg n1, if_pos (by simp), look_upd, if_pos rfl]
      simp only [idx, if_pos, Nat.add_zero, keyed, look]
      cases hh : look σ κ with
      | none => exact absurd hh (hs κ (by simp))
      | some q => rfl
    · by_cases hm : κ ∈ ks
      · rw [if_pos hm, if_pos (by simp [hm])]
        simp only [idx, if_neg (fun e => hκ (Eq.symm e)), keyed, look]
        rw [if_neg (by omega), show refKey + (idx ks κ + 1) = refKey + idx ks κ + 1 by omega, keyedS]
      · rw [if_neg hm, if_neg (by simp [hκ, hm]), look_upd, if_neg hκ]

/-- The rows of these keys have been written by a call. -/
theorem Sim.setRows (h : Sim C I β st a w) {ks : List Nat} (hn : ks.Nodup) {rows rows' : List Row} (hl : lookL st.σ ks = some rows) (hlen : rows'.length = rows.length) {J : Imm} {w' : World}
    (hfrm : Frm w w' (fun b => ∃ κ l, refB β ks κ = some l ∧ l.blk = some b)) (hJ : Imm.le I J) (hin : J.inW w') (hx : ∀ b o, b < w.heap.size → J b o = I b o) (hr : Rows J (refB β ks) (keyed refKey rows') w') :
    Sim C J β ⟨st.T, updL st.σ ks rows'⟩ a w' := by
  obtain ⟨l1, l2⟩ := lookL_spec ks rows refKey hl
  have hsome : ∀ k ∈ ks, look st.σ k ≠ none := by
    intro k hk he
    have : ∀ (ks : List Nat) (rows : List Row), lookL st.σ ks = some rows → k ∈ ks → False := by
      intro ks
      induction ks with
      | nil => intro _ _ hk; cases hk
      | cons q l ih =>
        intro rows hl hk
        simp only [lookL] at hl
        split at hl
        · rename_i r rs hq hrs
          rcases List.mem_cons.1 hk with rfl | hk
          · rw [he] at hq; cases hq
          · exact ih rs hrs hk
        · cases hl
    exact this ks rows hl hk
  have hlook := look_updL ks rows' st.σ hn (by omega) hsome
  -- the blocks of these rows
  have hX : ∀ b, (∃ κ l, refB β ks κ = some l ∧ l.blk = some b) → ∃ k l, k ∈ ks ∧ β k = some l ∧ l.blk = some b := by
    rintro b ⟨κ, l, h1, h2⟩
    unfold refB at h1
    split at h1
    · cases h1
    · split at h1
      · rename_i k hk; exact ⟨k, l, keyAt_mem hk, h1, h2⟩
      · cases h1
  refine { le := h.le.trans hJ, inw := hin, ext := fun b o hb => by rw [hx b o (Nat.lt_of_lt_of_le hb h.frame.size)]; exact h.ext b o hb, defs := h.defs, size := h.size,
           tmps := fun t ht => (h.tmps t ht).mono hJ (fun _ _ => id), rows := ⟨?_, ?_, h.rows.sep, ?_⟩, own := h.own, refs := h.refs, frame := ?_ }
  · intro κ hκ
    rw [hlook] at hκ
    split at hκ
    · rename_i hm
      have := hr.dom _ hκ
      rw [refB_at hm] at this
      exact this
    · exact h.rows.dom κ hκ
  · intro κ r hκ
    rw [hlook] at hκ
    split at hκ
    · rename_i hm
      obtain ⟨l, h1, h2⟩ := hr.rows _ r hκ
      rw [refB_at hm] at h1
      exact ⟨l, h1, h2⟩
    · rename_i hm
      obtain ⟨l, h1, h2⟩ := h.rows.rows κ r hκ
      refine ⟨l, h1, h2.of_heap (fun b hb => hfrm.block b (h.rows.lt _ _ _ h1 hb) (fun hxb => ?_)) hJ (fun b o hb => by rw [hx b o (h.rows.lt _ _ _ h1 hb)]; exact (h2.at_ b hb).apart o)⟩
      obtain ⟨k, l', k1, k2, k3⟩ := hX b hxb
      exact h.rows.sep κ k l l' b (fun e => hm (e ▸ k1)) h1 k2 hb k3
  · exact fun κ l b h1 hb => Nat.lt_of_lt_of_le (h.rows.lt κ l b h1 hb) hfrm.size
  · refine h.frame.trans hfrm fun b hb hnx hxb => ?_
    obtain ⟨k, l, k1, k2, k3⟩ := hX b hxb
    rcases Nat.lt_or_ge k refKey with hk | hk
    · have := h.own k l b hk k2 k3
      omega
    · exact hnx ⟨k, l, h.refs k l hk k2, k3⟩

theorem unren_at {n0 : Nat} {ks : List Nat} {l : Loc} {d : DV} {v : Value} (h : ResAt I (refB β ks) n0 w l d v) : ResAt I β n0 w l (unren1 ks d) v := by
  cases d <;> first | exact h | skip
  rename_i κ o n
  have hb : ∀ l0, refB β ks κ = some l0 → ¬ κ < refKey ∧ ∃ k, keyAt ks (κ - refKey) = some k ∧ β k = some l0 := by
    intro l0 h
    unfold refB at h
    split at h
    · cases h
    · rename_i hlt
      split at h
      · rename_i k hk; exact ⟨hlt, k, hk, h⟩
      · cases h
  have h' : RepK I (refB β ks) (.ref κ o n) v := h
  simp only [unren1]
  cases h' with
  | pure h => cases h
  | ref _ _ _ cap l b a h1 h2 h3 h4 h5 h6 =>
    obtain ⟨c1, k, c2, c3⟩ := hb _ h1
    rw [if_neg c1, c2]
    exact RepK.ref k o n cap l b a c3 h2 h3 h4 h5 h6
  | refnil _ l ao h1 h2 =>
    obtain ⟨c1, k, c2, c3⟩ := hb _ h1
    rw [if_neg c1, c2]
    exact RepK.refnil k l ao c3 h2

theorem unrenL_length (ks : List Nat) (l : List DV) : (unrenL ks l).length = l.length := by induction l <;> simp [unrenL, *]
theorem nth_unrenL (ks : List Nat) (l : List DV) (j : Nat) : nth (unrenL ks l) j = unren1 ks (nth l j) := by
  induction l generalizing j with
  | nil => simp [unrenL, nth, unren1]
  | cons d r ih => cases j with
    | zero => rfl
    | succ j => exact ih j
theorem unren_fresh {n0 : Nat} {ks : List Nat} {l : Loc} {d : DV} {v : Value} (h : ResAt I (refB β ks) n0 w l d v) : isFresh (unren1 ks d) = isFresh d := by
  cases d <;> first | rfl | skip
  rename_i κ o n
  simp only [unren1]
  split
  · rfl
  · split <;> rfl

theorem Res.unren {n0 : Nat} {ks : List Nat} {d : DV} {v : Value} (h : Res I (refB β ks) n0 w d v) : Res I β n0 w (unren ks d) v := by
  have plain : (∀ ds, d ≠ .tup ds) → Res I β n0 w (Sx.unren ks d) v := by
    intro ht
    have hr : ∃ l, ResAt I (refB β ks) n0 w l d v := by cases d <;> first | exact (ht _ rfl).elim | exact h
    obtain ⟨l, hr⟩ := hr
    have h1 := unren_at hr
    have e : Sx.unren ks d = unren1 ks d := by cases d <;> first | exact (ht _ rfl).elim | rfl
    rw [e]
    have hnt : ∀ ds, unren1 ks d ≠ .tup ds := by
      intro ds hd
      cases d <;> first | exact (ht _ rfl).elim | (simp only [unren1] at hd; (first | (cases hd; done) | (split at hd <;> first | (cases hd; done) | (split at hd <;> cases hd))))
    generalize unren1 ks d = d' at h1 hnt
    cases d' <;> first | exact (hnt _ rfl).elim | exact ⟨l, h1⟩
  cases d with
  | tup ds =>
    obtain ⟨vs, ls, h1, h2, h3, h4⟩ := h
    refine ⟨vs, ls, h1, by rw [unrenL_length]; exact h2, fun j hj => ?_, fun i j b hi hj hij hfi hfj => ?_⟩
    · rw [unrenL_length] at hj; rw [nth_unrenL]; exact unren_at (h3 j hj)
    · rw [unrenL_length] at hi hj
      rw [nth_unrenL, unren_fresh (h3 i hi)] at hfi
      rw [nth_unrenL, unren_fresh (h3 j hj)] at hfj
      exact h4 i j b hi hj hij hfi hfj
  | _ => exact plain (fun ds h => by cases h)

theorem refs_lands (hs : Sim C I β st a w) {g : FuncId} {ds : List DV} {vs : Array Value} (hsz : vs.size = ds.length) (hrep : ∀ j < ds.length, RepK I β (nth ds j) (vs.getD j undef)) {κ : Nat} {K : DV → St → Prop}
    (hK : (std P Lf.refs) g ds κ st K) : Upto P C a g vs w K := by
  obtain ⟨rows, hl, _, hfn⟩ := hK
  obtain ⟨hn, _, hmem⟩ := nub_spec (keysOfL ds) [] List.nodup_nil
  generalize hks : nub [] (keysOfL ds) = ks at *
  obtain ⟨l1, l2⟩ := lookL_spec ks rows refKey hl
  have hR : Rows I (refB β ks) (keyed refKey rows) w := by
    refine ⟨?_, ?_, ?_, ?_⟩
    · intro κ hκ
      rw [l2] at hκ
      unfold refB
      split
      · rfl
      · rename_i hlt
        rw [if_neg hlt] at hκ
        split
        · rename_i k hk
          rw [hk] at hκ
          exact hs.rows.dom k hκ
        · rfl
    · intro κ r hκ
      rw [l2] at hκ
      split at hκ
      · cases hκ
      · rename_i hlt
        split at hκ
        · rename_i k hk
          obtain ⟨l, h1, h2⟩ := hs.rows.rows k r hκ
          exact ⟨l, by unfold refB; rw [if_neg hlt, hk]; exact h1, h2⟩
        · cases hκ
    · intro κ κ' l l' b hne h1 h2
      unfold refB at h1 h2
      split at h1
      · cases h1
      · split at h2
        · cases h2
        · split at h1
          · rename_i k hk
            split at h2
            · rename_i k' hk'
              refine hs.rows.sep k k' l l' b (fun e => hne ?_) h1 h2
              subst e
              have := keyAt_inj hn hk hk'
              omega
            · cases h2
          · cases h1
    · intro κ l b h1
      unfold refB at h1
      split at h1
      · cases h1
      · split at h1
        · rename_i k hk; exact hs.rows.lt k l b h1
        · cases h1
  refine (hfn w I vs (refB β ks) hs.inw (by rw [renL_length]; exact hsz) (fun j hj => ?_) hR).mono ?_
  · rw [renL_length] at hj
    rw [nth_renL]
    exact (hrep j hj).ren (fun k hk => hmem k (nth_mem_keys hk))
  · rintro e w' ⟨v, d, rows', I', a1, a2, a3, a4, a5, a6, a7, a8, a9⟩
    have s2 := hs.setRows hn hl a7 a8 a2 a3 a4 a6
    exact ⟨v, a1, bind_lands s2 hs.frame.size (fun κ l b h hb => hs.rows.lt κ l b h hb) a5.unren a9⟩
end
end Go.Sx
