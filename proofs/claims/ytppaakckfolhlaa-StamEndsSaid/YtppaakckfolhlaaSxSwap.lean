import Derived.Test.YtppaakckfolhlaaSxMono
namespace Go.Sx

/-! ### data without rows -/
mutual
theorem view_keyless (lim : Nat) (ks : List Nat) (σ : Store) : ∀ d : DV, keysOf d = [] → view lim ks σ d = d
  | .ref _ _ _, h => by simp [keysOf] at h
  | .rptr _ _ _, h => by simp [keysOf] at h
  | .agg cs, h => by simp only [view]; rw [viewL_keyless lim ks σ cs (by simpa [keysOf] using h)]
  | .tup cs, h => by simp only [view]; rw [viewL_keyless lim ks σ cs (by simpa [keysOf] using h)]
  | .fn g a b, h => by
    simp only [keysOf, List.append_eq_nil_iff] at h
    simp only [view]
    rw [viewL_keyless lim ks σ a h.1, viewL_keyless lim ks σ b h.2]
  | .int _ _, _ => rfl
  | .bool _, _ => rfl
  | .tt, _ => rfl
  | .ff, _ => rfl
  | .str _, _ => rfl
  | .nilp, _ => rfl
  | .nilf, _ => rfl
  | .nili, _ => rfl
  | .nils, _ => rfl
  | .lst _ _ _ _, _ => rfl
  | .eptr _ _ _ _ _, _ => rfl
  | .own _ _ _, _ => rfl
  | .obox _ _, _ => rfl
  | .und, _ => rfl
  | .junk, _ => rfl
theorem viewL_keyless (lim : Nat) (ks : List Nat) (σ : Store) : ∀ l : List DV, keysOfL l = [] → viewL lim ks σ l = l
  | [], _ => rfl
  | d :: l, h => by
    simp only [keysOfL, List.append_eq_nil_iff] at h
    simp only [viewL]
    rw [view_keyless lim ks σ d h.1, viewL_keyless lim ks σ l h.2]
end

section
variable {P : Program} {md : Modes}

theorem viewL_map (lim : Nat) (ks : List Nat) (σ : Store) (l : List DV) : viewL lim ks σ l = l.map (view lim ks σ) := by induction l <;> simp [viewL, *]
theorem killL_map (κ : Nat) (l : List DV) : killL κ l = l.map fun d => if mem (keysOf d) κ then .junk else d := by induction l <;> simp [killL, *]

/-- What freezing makes of a place, and of the store. -/
def frzD (ks : List Nat) (σ : Store) : DV → DV := match ks with | [] => fun d => d | k :: l => view 100000 (k :: l) σ
def frzS (ks : List Nat) (σ : Store) : Store := match ks with | [] => σ | k :: l => delL σ (k :: l)
theorem freeze_eq (T : List DV) (σ : Store) (ks : List Nat) : (⟨T, σ⟩ : St).freeze ks = ⟨T.map (frzD ks σ), frzS ks σ⟩ := by
  cases ks with
  | nil => simp [St.freeze, frzD, frzS]
  | cons k l => simp only [St.freeze, frzD, frzS, viewL_map]
theorem frzD_keyless (ks : List Nat) (σ : Store) (d : DV) (h : keysOf d = []) : frzD ks σ d = d := by
  cases ks with
  | nil => rfl
  | cons k l => exact view_keyless _ _ _ d h

theorem map_setN (f : DV → DV) (T : List DV) (t : Nat) (v : DV) : (setN T t v).map f = setN (T.map f) t (f v) := by
  rw [setN_set, setN_set, List.map_set]
theorem nth_map (f : DV → DV) (hf : f .junk = .junk) (T : List DV) (t : Nat) : nth (T.map f) t = f (nth T t) := by
  rw [nth_getD, nth_getD]
  simp only [List.getD, List.getElem?_map]
  cases T[t]? <;> simp [hf]

/-! ### what only changes the store -/
theorem addRow_T {T1 T2 : List DV} {σ : Store} {κ : Nat} {r : Row} {K : St → Prop} (h : addRow ⟨T1, σ⟩ κ r K) : addRow ⟨T2, σ⟩ κ r fun s => s.T = T2 ∧ (∀ k q, look σ k = some q → look s.σ k = some q) ∧ K ⟨T1, s.σ⟩ := by
  unfold addRow at h ⊢
  split at h
  · rename_i hlt
    rw [if_pos hlt]
    dsimp only at h ⊢
    cases hl : look σ κ with
    | some r' => simp only [hl] at h
    | none =>
      simp only [hl] at h
      refine ⟨rfl, fun k q hq => ?_, h⟩
      rw [look_ins _ _ _ _ hl]
      split
      · rename_i e; subst e; rw [hl] at hq; cases hq
      · exact hq
  · exact h.elim
theorem bindL_T {κ : Nat} : ∀ (ds : List DV) (j : Nat) (T1 T2 : List DV) (σ : Store) (K : List DV → St → Prop), bindL κ j ds ⟨T1, σ⟩ K → bindL κ j ds ⟨T2, σ⟩ fun l s => s.T = T2 ∧ (∀ k q, look σ k = some q → look s.σ k = some q) ∧ K l ⟨T1, s.σ⟩
  | [], _, _, _, _, _, h => ⟨rfl, fun _ _ h => h, h⟩
  | d :: l, j, T1, T2, σ, K, h => by
    by_cases hf : isFresh d = true
    · cases d <;> first
        | (cases hf; done)
        | (simp only [bindL] at h ⊢
           refine addRow_mono (addRow_T (T2 := T2) h) (fun s hs => ?_)
           obtain ⟨s1, s2⟩ := s
           obtain ⟨rfl, hg, hs⟩ := hs
           refine bindL_mono l _ _ _ _ (bindL_T l _ _ _ _ _ hs) (fun l s hs => ⟨hs.1, fun k q hq => hs.2.1 k q (hg k q hq), hs.2.2⟩))
    · have hf : isFresh d = false := by simpa using hf
      rw [bindL_plain hf] at h ⊢
      exact bindL_T l _ _ _ _ _ h
theorem bindR_T {κ : Nat} {d : DV} {T1 T2 : List DV} {σ : Store} {K : DV → St → Prop} (h : bindR κ d ⟨T1, σ⟩ K) : bindR κ d ⟨T2, σ⟩ fun d s => s.T = T2 ∧ (∀ k q, look σ k = some q → look s.σ k = some q) ∧ K d ⟨T1, s.σ⟩ := by
  cases d
  case own => exact addRow_mono (addRow_T (T2 := T2) h) (fun s hs => hs)
  case obox => exact addRow_mono (addRow_T (T2 := T2) h) (fun s hs => hs)
  case tup => exact bindL_T _ _ _ _ _ _ h
  all_goals exact ⟨rfl, fun _ _ h => h, h⟩
theorem storeV_T {T1 T2 : List DV} {σ : Store} {p : DV} {n : Nat} {vs : List DV} {K : DV → St → Prop} (h : storeV (std P) ⟨T1, σ⟩ p n vs K) : storeV (std P) ⟨T2, σ⟩ p n vs fun d s => s.T = T2 ∧ K d ⟨T1, s.σ⟩ := by
  cases p <;> first | exact h.elim | skip
  rename_i k i off
  simp only [storeV] at h ⊢
  cases hl : look σ k with
  | none => simp only [hl] at h
  | some r =>
    cases r <;> simp only [hl] at h ⊢
    · split at h
      · rename_i hin; rw [if_pos hin]; exact ⟨trivial, h⟩
      · exact h.elim
    · split at h
      · rename_i hin; rw [if_pos hin]; exact ⟨trivial, h⟩
      · exact h.elim

theorem clearV_T {T1 T2 : List DV} {σ : Store} {x z : DV} {n : Nat} {K : DV → St → Prop} (h : clearV (std P) n z ⟨T1, σ⟩ x K) : clearV (std P) n z ⟨T2, σ⟩ x fun d s => s.T = T2 ∧ K d ⟨T1, s.σ⟩ := by
  cases x <;> first | exact h.elim | skip
  rename_i k o n'
  simp only [clearV] at h ⊢
  cases hl : look σ k with
  | none => simp only [hl] at h
  | some r => cases r <;> simp only [hl] at h ⊢; exact ⟨h.1, trivial, h.2⟩

theorem ev_set {T : List DV} {σ : Store} {x : Arg} {t : Nat} {v : DV} (h : t ∉ argR x) : ev ⟨setN T t v, σ⟩ x = ev ⟨T, σ⟩ x :=
  ev_congr fun u hu => by rw [nth_setN, if_neg (by rintro rfl; exact h hu)]
theorem evL_set {T : List DV} {σ : Store} {xs : List Arg} {t : Nat} {v : DV} (h : t ∉ argsR xs) : evL ⟨setN T t v, σ⟩ xs = evL ⟨T, σ⟩ xs :=
  evL_congr fun u hu => by rw [nth_setN, if_neg (by rintro rfl; exact h hu)]

theorem fillP_set {T : List DV} {σ : Store} {t : Nat} {v : DV} : ∀ (ps : List (Nat × Nat × Arg)) (cs : List DV), t ∉ partsR3 ps → fillP ⟨setN T t v, σ⟩ ps cs = fillP ⟨T, σ⟩ ps cs
  | [], _, _ => rfl
  | (o, n, x) :: ps, cs, h => by
    simp only [partsR3, List.mem_append, not_or] at h
    simp only [fillP]
    rw [ev_set h.1]
    split
    · split
      · exact fillP_set ps _ h.2
      · rfl
    · rfl
theorem partKeys3_set {T : List DV} {σ : Store} {t : Nat} {v : DV} : ∀ (ps : List (Nat × Nat × Arg)), t ∉ partsR3 ps → partKeys3 ⟨setN T t v, σ⟩ ps = partKeys3 ⟨T, σ⟩ ps
  | [], _ => rfl
  | (o, n, x) :: ps, h => by
    simp only [partsR3, List.mem_append, not_or] at h
    simp only [partKeys3]
    rw [ev_set h.1, partKeys3_set ps h.2]
theorem partKeys_set {T : List DV} {σ : Store} {t : Nat} {v : DV} : ∀ (ps : List (Nat × Arg)), t ∉ partsR ps → partKeys ⟨setN T t v, σ⟩ ps = partKeys ⟨T, σ⟩ ps
  | [], _ => rfl
  | (n, x) :: ps, h => by
    simp only [partsR, List.mem_append, not_or] at h
    simp only [partKeys]
    rw [ev_set h.1, partKeys_set ps h.2]
theorem partsOk_set {T : List DV} {σ : Store} {t sz : Nat} {v : DV} : ∀ (ps : List (Nat × Arg)), t ∉ partsR ps → partsOk sz ⟨setN T t v, σ⟩ ps = partsOk sz ⟨T, σ⟩ ps
  | [], _ => rfl
  | (n, x) :: ps, h => by
    simp only [partsR, List.mem_append, not_or] at h
    simp only [partsOk]
    rw [ev_set h.1, partsOk_set ps h.2]
theorem elemD_set {T : List DV} {σ : Store} {t i : Nat} {v : DV} : ∀ (ps : List (Nat × Arg)) (d : DV), t ∉ partsR ps → elemD ⟨setN T t v, σ⟩ i d ps = elemD ⟨T, σ⟩ i d ps
  | [], _, _ => rfl
  | (n, x) :: ps, d, h => by
    simp only [partsR, List.mem_append, not_or] at h
    simp only [elemD]
    rw [ev_set h.1, elemD_set ps _ h.2]
theorem elems_set {T : List DV} {σ : Store} {t n : Nat} {z v : DV} {ps : List (Nat × Arg)} (h : t ∉ partsR ps) : elems z ⟨setN T t v, σ⟩ n ps = elems z ⟨T, σ⟩ n ps := by
  have : ∀ m i, elemsL z ⟨setN T t v, σ⟩ ps m i = elemsL z ⟨T, σ⟩ ps m i := by
    intro m
    induction m with
    | zero => intro i; rfl
    | succ m ih => intro i; simp only [elemsL]; rw [elemD_set ps _ h, ih]
  simp only [elems, this]

/-- A loud operation does the same where a place holds other data that it does not look at. -/
theorem loud_equi {κ : Nat} {r : ROp} {T : List DV} {σ : Store} {t : Nat} {v : DV} {K : DV → St → Prop} (ht : t ∉ opR r) (h : loudV (std P) κ r ⟨setN T t v, σ⟩ K) :
    ∃ f : DV → DV, (∀ d, keysOf d = [] → f d = d) ∧ (wild r = false → ∀ d, f d = d) ∧
      loudV (std P) κ r ⟨T, σ⟩ fun d s => s.T = T.map f ∧ (wild r = false → ∀ k q, look σ k = some q → look s.σ k = some q) ∧ K d ⟨setN s.T t (f v), s.σ⟩ := by
  have idT : T = T.map fun d => d := by simp
  cases r <;> first | exact h.elim | skip
  case pick c x y =>
    simp only [opR, List.mem_append, not_or] at ht
    refine ⟨fun d => d, fun _ _ => rfl, fun _ _ => rfl, ?_⟩
    simp only [loudV] at h ⊢
    rw [ev_set ht.1, ev_set ht.2.1, ev_set ht.2.2] at h
    have fin : ∀ d, K d ⟨setN T t v, σ⟩ → T = T.map (fun d => d) ∧ (wild (.pick c x y) = false → ∀ k q, look σ k = some q → look σ k = some q) ∧ K d ⟨setN T t v, σ⟩ := fun d hk => ⟨idT, fun _ _ _ h => h, hk⟩
    cases hev : ev ⟨T, σ⟩ c <;> simp only [hev] at h ⊢
    · exact ⟨fun hb => fin _ (h.1 hb), fun hb => fin _ (h.2 hb)⟩
    · exact fin _ h
    · exact fin _ h
  case alloc n z =>
    refine ⟨fun d => d, fun _ _ => rfl, fun _ _ => rfl, ?_⟩
    simp only [loudV] at h ⊢
    refine addRow_mono (addRow_T (T2 := T) h) (fun s hs => ?_)
    obtain ⟨s1, s2⟩ := s
    obtain ⟨rfl, h2, h3⟩ := hs
    exact ⟨idT, fun _ => h2, h3⟩
  case makeSlice es by_ z x y =>
    simp only [opR, List.mem_append, not_or] at ht
    refine ⟨fun d => d, fun _ _ => rfl, fun _ _ => rfl, ?_⟩
    simp only [loudV] at h ⊢
    rw [ev_set ht.1, ev_set ht.2] at h
    generalize ev ⟨T, σ⟩ x = dx at h ⊢
    generalize ev ⟨T, σ⟩ y = dy at h ⊢
    cases dx <;> first | exact h.elim | skip
    cases dy <;> first | exact h.elim | skip
    refine ⟨h.1, addRow_mono (addRow_T (T2 := T) h.2) (fun s hs => ?_)⟩
    obtain ⟨s1, s2⟩ := s
    obtain ⟨rfl, h2, h3⟩ := hs
    exact ⟨idT, fun _ => h2, h3⟩
  case lend f xs =>
    simp only [opR, List.mem_append, not_or] at ht
    refine ⟨fun d => d, fun _ _ => rfl, fun _ _ => rfl, ?_⟩
    simp only [loudV] at h ⊢
    rw [ev_set ht.1, evL_set ht.2] at h
    cases hev : ev ⟨T, σ⟩ f <;> simp only [hev] at h ⊢
    refine ⟨h.1, h.2.mono fun d rs hb => ⟨hb.1, ?_⟩⟩
    refine bindR_mono (bindR_T (T2 := T) hb.2) (fun d s hs => ?_)
    obtain ⟨s1, s2⟩ := s
    obtain ⟨rfl, h2, h3⟩ := hs
    exact ⟨idT, fun _ => h2, h3⟩
  case refs f xs =>
    simp only [opR, List.mem_append, not_or] at ht
    refine ⟨fun d => d, fun _ _ => rfl, fun _ _ => rfl, ?_⟩
    simp only [loudV] at h ⊢
    rw [ev_set ht.1, evL_set ht.2] at h
    cases hev : ev ⟨T, σ⟩ f <;> simp only [hev] at h ⊢
    obtain ⟨rows, h1, h2⟩ := h
    refine ⟨rows, h1, h2.mono fun d rs hb => ?_⟩
    refine bindR_mono (bindR_T (T2 := T) hb) (fun d s hs => ?_)
    obtain ⟨s1, s2⟩ := s
    obtain ⟨rfl, _, h3⟩ := hs
    exact ⟨idT, fun hw => (by cases hw), h3⟩
  case call f xs =>
    simp only [opR, List.mem_append, not_or] at ht
    simp only [loudV] at h
    rw [ev_set ht.1, evL_set ht.2] at h
    cases hev : ev ⟨T, σ⟩ f <;> simp only [hev] at h
    rename_i g as_ bs
    generalize hks : keysOfL (cat as_ (cat (evL ⟨T, σ⟩ xs) bs)) = ks at h
    refine ⟨frzD ks σ, frzD_keyless ks σ, fun hw => (by cases hw), ?_⟩
    simp only [loudV, hev, hks]
    refine ⟨h.1, h.2.mono fun d rs hb => ?_⟩
    rw [freeze_eq, map_setN] at hb
    rw [freeze_eq]
    refine bindR_mono (bindR_T (T2 := T.map (frzD ks σ)) hb) (fun d s hs => ?_)
    obtain ⟨s1, s2⟩ := s
    obtain ⟨rfl, _, h3⟩ := hs
    exact ⟨rfl, fun hw => (by cases hw), h3⟩
  case box n x =>
    simp only [opR] at ht
    simp only [loudV] at h
    rw [ev_set ht] at h
    generalize hks : keysOf (ev ⟨T, σ⟩ x) = ks at h
    rw [freeze_eq, map_setN, ev_set ht] at h
    refine ⟨frzD ks σ, frzD_keyless ks σ, fun hw => (by cases hw), ?_⟩
    simp only [loudV, hks]
    rw [freeze_eq]
    split at h
    · rename_i hok
      rw [if_pos hok]
      refine addRow_mono (addRow_T (T2 := T.map (frzD ks σ)) h) (fun s hs => ?_)
      obtain ⟨s1, s2⟩ := s
      obtain ⟨rfl, h2, h3⟩ := hs
      exact ⟨rfl, fun hw => (by cases hw), h3⟩
    · exact h.elim
  case build z ps =>
    simp only [opR] at ht
    simp only [loudV] at h
    rw [partKeys3_set ps ht] at h
    generalize hks : partKeys3 ⟨T, σ⟩ ps = ks at h
    rw [freeze_eq, map_setN, fillP_set ps _ ht] at h
    refine ⟨frzD ks σ, frzD_keyless ks σ, fun hw => (by cases hw), ?_⟩
    simp only [loudV, hks]
    rw [freeze_eq]
    cases hf : fillP ⟨T.map (frzD ks σ), frzS ks σ⟩ ps z <;> simp only [hf] at h ⊢
    exact ⟨trivial, fun hw => (by cases hw), h⟩
  case buildSlice es z n ps =>
    simp only [opR] at ht
    simp only [loudV] at h
    rw [partKeys_set ps ht] at h
    generalize hks : partKeys ⟨T, σ⟩ ps = ks at h
    rw [freeze_eq, map_setN, partsOk_set ps ht, elems_set ht] at h
    refine ⟨frzD ks σ, frzD_keyless ks σ, fun hw => (by cases hw), ?_⟩
    simp only [loudV, hks]
    rw [freeze_eq]
    split at h
    · rename_i hok
      rw [if_pos hok]
      refine addRow_mono (addRow_T (T2 := T.map (frzD ks σ)) h) (fun s hs => ?_)
      obtain ⟨s1, s2⟩ := s
      obtain ⟨rfl, h2, h3⟩ := hs
      exact ⟨rfl, fun hw => (by cases hw), h3⟩
    · exact h.elim
  case store n x y =>
    simp only [opR, List.mem_append, not_or] at ht
    simp only [loudV] at h
    rw [ev_set ht.2] at h
    generalize hks : keysOf (ev ⟨T, σ⟩ y) = ks at h
    rw [freeze_eq, map_setN, ev_set ht.2, ev_set ht.1] at h
    refine ⟨frzD ks σ, frzD_keyless ks σ, fun hw => (by cases hw), ?_⟩
    simp only [loudV, hks]
    rw [freeze_eq]
    split at h
    · rename_i hok
      rw [if_pos hok]
      refine storeV_mono (storeV_T (T2 := T.map (frzD ks σ)) h) (fun d s hs => ?_)
      obtain ⟨s1, s2⟩ := s
      obtain ⟨rfl, h3⟩ := hs
      exact ⟨rfl, fun hw => (by cases hw), h3⟩
    · exact h.elim
  case clear es z x =>
    simp only [opR] at ht
    refine ⟨fun d => d, fun _ _ => rfl, fun _ _ => rfl, ?_⟩
    simp only [loudV] at h ⊢
    rw [ev_set ht] at h
    refine clearV_mono (clearV_T (T2 := T) h) (fun d s hs => ?_)
    obtain ⟨s1, s2⟩ := s
    obtain ⟨rfl, h3⟩ := hs
    exact ⟨idT, fun hw => (by cases hw), h3⟩
  case append es by_ x y =>
    simp only [opR, List.mem_append, not_or] at ht
    simp only [loudV, appendV] at h ⊢
    rw [ev_set ht.1, ev_set ht.2] at h
    rw [cont_congr (T := T)] at h
    cases hc : cont (std P) ⟨T, σ⟩ es (ev ⟨T, σ⟩ y) with
    | none => simp only [hc] at h
    | some p =>
      obtain ⟨m, g⟩ := p
      simp only [hc] at h ⊢
      have keep : ∀ {rw_ : Row} {n : Nat}, addRow ⟨setN T t v, σ⟩ κ rw_ (fun st => K (.ref κ 0 n) st) → addRow ⟨T, σ⟩ κ rw_ (fun st => st.T = T.map (fun d => d) ∧ (wild (.append es by_ x y) = false → ∀ k q, look σ k = some q → look st.σ k = some q) ∧ K (.ref κ 0 n) ⟨setN st.T t v, st.σ⟩) := by
        intro rw_ n h
        refine addRow_mono (addRow_T (T2 := T) h) (fun s hs => ?_)
        obtain ⟨s1, s2⟩ := s
        obtain ⟨rfl, h2, h3⟩ := hs
        exact ⟨idT, fun _ => h2, h3⟩
      cases hx : ev ⟨T, σ⟩ x <;> simp only [hx] at h ⊢ <;> first | exact h.elim | skip
      · exact ⟨fun d => d, fun _ _ => rfl, fun hw => (by cases hw), h.1, keep h.2⟩
      · exact ⟨fun d => d, fun _ _ => rfl, fun hw => (by cases hw), h.1, h.2.1, h.2.2.1, h.2.2.2.1, keep h.2.2.2.2⟩
      · rename_i k o n
        cases hl : look σ k with
        | none => simp only [hl] at h
        | some q =>
          cases q <;> simp only [hl] at h ⊢
          refine ⟨fun d => if mem (keysOf d) k then .junk else d, fun d hd => by simp [hd, mem], fun hw => (by cases hw), h.1, h.2.1, h.2.2.1, ?_⟩
          have h4 := h.2.2.2
          rw [killL_map, map_setN] at h4
          refine addRow_mono (addRow_T (T2 := killL k T) h4) (fun s hs => ?_)
          obtain ⟨s1, s2⟩ := s
          obtain ⟨rfl, h2, h3⟩ := hs
          refine ⟨killL_map _ _, fun hw => (by cases hw), ?_⟩
          dsimp only
          rw [killL_map]
          exact h3

theorem quiet_loud {L : Leafs} {st : St} {r : ROp} (hq : isQ r = false) : quietV L st r = none := by
  cases r <;> first | (cases hq; done) | rfl

/-- More rows do not trouble a quiet operation. -/
theorem q_grow {T : List DV} {σ σ' : Store} {r : ROp} (hg : ∀ k q, look σ k = some q → look σ' k = some q) (hob : qob P r ⟨T, σ⟩) :
    qob P r ⟨T, σ'⟩ ∧ qv P r ⟨T, σ'⟩ = qv P r ⟨T, σ⟩ := by
  have evE : ∀ x, ev ⟨T, σ'⟩ x = ev ⟨T, σ⟩ x := fun x => by cases x <;> rfl
  have evLE : ∀ xs, evL ⟨T, σ'⟩ xs = evL ⟨T, σ⟩ xs := fun xs => by induction xs <;> simp [evL, *]
  have bndE : ∀ x, bnd (std P) ⟨T, σ'⟩ x = bnd (std P) ⟨T, σ⟩ x := fun x => by cases x <;> simp [bnd, evE]
  have same : quietV (std P) ⟨T, σ'⟩ r = quietV (std P) ⟨T, σ⟩ r → qob P r ⟨T, σ'⟩ ∧ qv P r ⟨T, σ'⟩ = qv P r ⟨T, σ⟩ := by
    intro e
    refine ⟨?_, by simp only [qv, e]⟩
    simp only [qob, e] at hob ⊢
    exact hob
  have fillE : ∀ (ps : List (Nat × Nat × Arg)) cs, fillP ⟨T, σ'⟩ ps cs = fillP ⟨T, σ⟩ ps cs := by
    intro ps
    induction ps with
    | nil => intro cs; rfl
    | cons p l ih => intro cs; obtain ⟨o, n, x⟩ := p; simp only [fillP, evE, ih]
  cases r <;> first | exact hob.elim | (apply same; simp only [quietV, evE, evLE, fillE]; done) | skip
  case load g n x =>
    apply same
    simp only [quietV, evE]
    simp only [qob, quietV] at hob
    cases hx : ev ⟨T, σ⟩ x <;> simp only [loadV]
    rename_i k i off
    simp only [hx, loadV] at hob
    cases hl : look σ k with
    | none => simp only [hl] at hob; exact hob.elim
    | some q => simp only [hg k q hl]
  case toStr x =>
    apply same
    simp only [quietV, evE]
    simp only [qob, quietV] at hob
    cases hx : ev ⟨T, σ⟩ x <;> simp only [toStrV, cont]
    rename_i k o n
    simp only [hx, toStrV, cont] at hob
    cases hl : look σ k with
    | none => simp only [hl] at hob; exact hob.elim
    | some q => simp only [hg k q hl]
  case slice n x l h m =>
    apply same
    simp only [quietV, evE, sliceV, bndE]
    simp only [qob, quietV, sliceV] at hob
    cases hx : ev ⟨T, σ⟩ x <;> simp only [sliceB]
    rename_i k o len
    simp only [hx, sliceB] at hob
    cases hl : look σ k with
    | none =>
      simp only [hl] at hob
      exact hob.2.2.2.elim
    | some q => simp only [hg k q hl]
  case indexAddr n x y =>
    apply same
    simp only [quietV, evE]
    simp only [qob, quietV] at hob
    cases hx : ev ⟨T, σ⟩ x <;> cases hy : ev ⟨T, σ⟩ y <;> simp only [indexAddrV]
    rename_i k o len kk j
    simp only [hx, hy, indexAddrV] at hob
    cases hl : look σ k with
    | none => simp only [hl] at hob; exact hob.elim
    | some q => simp only [hg k q hl]

theorem evL_append (st : St) (l m : List Arg) : evL st (l ++ m) = evL st l ++ evL st m := by induction l <;> simp [evL, *]
theorem evL_length (st : St) (l : List Arg) : (evL st l).length = l.length := by induction l <;> simp [evL, *]

/-- Without rows, a quiet operation looks at its operands alone. -/
theorem quiet_keyless {L : Leafs} {s s' : St} {r : ROp} (hq : isQ r = true) (he : evL s' (opArgs r) = evL s (opArgs r)) (hk : keysOfL (evL s (opArgs r)) = []) : quietV L s' r = quietV L s r := by
  have nk : ∀ {d : DV}, keysOf d = [] → (∀ k o n, d ≠ .ref k o n) ∧ (∀ k i o, d ≠ .rptr k i o) := by
    intro d h
    constructor
    · rintro k o n rfl; simp [keysOf] at h
    · rintro k i o rfl; simp [keysOf] at h
  cases r <;> first | (cases hq; done) | simp only [opArgs, evL, keysOfL, List.append_nil, List.append_eq_nil_iff, List.cons.injEq, and_true] at he hk
  case move x => simp only [quietV, he]
  case load g n x =>
    simp only [quietV, he]
    have := (nk hk).2
    generalize ev s x = d at this ⊢
    cases d <;> first | rfl | exact absurd rfl (this _ _ _)
  case nilCheck x => simp only [quietV, he]
  case binOp c o x y => simp only [quietV, he]
  case eqS b l x y => simp only [quietV, he]
  case buildQ z ps =>
    have : ∀ (ps : List (Nat × Nat × Arg)) cs, evL s' (partsA ps) = evL s (partsA ps) → fillP s' ps cs = fillP s ps cs := by
      intro ps
      induction ps with
      | nil => intro cs _; rfl
      | cons p l ih =>
        intro cs h
        obtain ⟨o, n, x⟩ := p
        simp only [partsA, evL, List.cons.injEq] at h
        simp only [fillP, h.1, ih _ h.2]
    simp only [quietV, this ps z he]
  case unOp o x => simp only [quietV, he]
  case convI k x => simp only [quietV, he]
  case convS x => simp only [quietV, he]
  case toStr x =>
    simp only [quietV, he]
    have := (nk hk).1
    generalize ev s x = d at this ⊢
    cases d <;> first | rfl | exact absurd rfl (this _ _ _)
  case slice n x l h m =>
    have hb : ∀ y : Option Arg, evL s' (optA y) = evL s (optA y) → bnd L s' y = bnd L s y := by
      intro y hy
      cases y with
      | none => rfl
      | some y => simp only [optA, evL, List.cons.injEq, and_true] at hy; simp only [bnd, hy]
    rw [evL_append, evL_append, evL_append, evL_append] at he
    have h1 := List.append_inj he.2 (by simp [evL_length])
    have h2 := List.append_inj h1.2 (by simp [evL_length])
    have := (nk hk.1).1
    have hs : ∀ l h m, sliceB L s' n (ev s x) l h m = sliceB L s n (ev s x) l h m := by
      intro l h m
      generalize ev s x = d at this ⊢
      cases d <;> first | rfl | exact absurd rfl (this _ _ _)
    simp only [quietV, sliceV, he.1, hb l h1.1, hb h h2.1, hb m h2.2, hs]
  case fieldAddr o x => simp only [quietV, he]
  case field g n o x => simp only [quietV, he]
  case indexAddr n x y =>
    simp only [quietV, he]
    have := (nk hk.1).1
    generalize ev s x = d at this ⊢
    generalize ev s y = e
    cases d <;> first | exact absurd rfl (this _ _ _) | (cases e <;> rfl)
  case index x y => simp only [quietV, he]
  case extract x j => simp only [quietV, he]
  case makeFunc g a b =>
    rw [evL_append, evL_append] at he
    have h1 := List.append_inj he (by simp [evL_length])
    simp only [quietV, h1.1, h1.2]
  case len b x => simp only [quietV, he]
  case max xs => simp only [quietV, he]
  case min xs => simp only [quietV, he]

theorem evL_map {T : List DV} {σ σ' : Store} {f : DV → DV} (hf : ∀ d, keysOf d = [] → f d = d) : ∀ (xs : List Arg), keysOfL (evL ⟨T, σ⟩ xs) = [] → evL ⟨T.map f, σ'⟩ xs = evL ⟨T, σ⟩ xs
  | [], _ => rfl
  | x :: xs, h => by
    simp only [evL, keysOfL, List.append_eq_nil_iff] at h ⊢
    rw [evL_map hf xs h.2]
    cases x with
    | con d => rfl
    | tmp t =>
      simp only [ev] at h ⊢
      rw [nth_map f (hf _ rfl), hf _ h.1]

/-- A quiet operation, behind one that is not. -/
theorem q_follow {x : ROper} (hq : isQ x.op = true) {T : List DV} {σ σ' : Store} {f : DV → DV} (hf : ∀ d, keysOf d = [] → f d = d) {wy : Bool} (hid : wy = false → ∀ d, f d = d) (hg : wy = false → ∀ k q, look σ k = some q → look σ' k = some q)
    (hc : wy = false ∨ x.strict = true ∨ isMove x.op = true) (hob : qos P x ⟨T, σ⟩) : qos P x ⟨T.map f, σ'⟩ ∧ qv P x.op ⟨T.map f, σ'⟩ = f (qv P x.op ⟨T, σ⟩) := by
  by_cases hst : x.strict = true
  · obtain ⟨k1, k2⟩ := hob.1 hst
    have he := evL_map (σ' := σ') hf (opArgs x.op) k1
    have hs := quiet_keyless (L := std P) hq he k1
    have hv : qv P x.op ⟨T.map f, σ'⟩ = qv P x.op ⟨T, σ⟩ := by simp only [qv, hs]
    refine ⟨⟨fun _ => by rw [he, hv]; exact ⟨k1, k2⟩, ?_⟩, by rw [hv, hf _ k2]⟩
    have := hob.2
    simp only [qob, hs] at this ⊢
    exact this
  · have hsf : x.strict = false := by simpa using hst
    rcases hc with hw | hs | hm
    · have hT : T.map f = T := by
        rw [show f = fun d => d from funext (hid hw)]; simp
      rw [hT]
      obtain ⟨h1, h2⟩ := q_grow (P := P) (hg hw) hob.2
      exact ⟨⟨fun h => absurd h hst, h1⟩, by rw [h2, hid hw]⟩
    · exact absurd hs hst
    · obtain ⟨xd, xo, xg, xs⟩ := x
      dsimp only at *
      cases xo <;> first | (cases hm; done) | skip
      rename_i y
      refine ⟨⟨fun h => absurd h hst, trivial⟩, ?_⟩
      simp only [qv, quietV]
      cases y with
      | tmp t => simp only [ev]; exact nth_map f (hf _ rfl) T t
      | con d =>
        simp only [ev]
        simp only [isMove] at hm
        rw [hf]
        split at hm
        · assumption
        · cases hm

theorem stepV_loud {o : ROper} (hq : isQ o.op = false) (hs : o.strict = false) (st : St) (K : St → Prop) :
    stepV (std P) o st K = loudV (std P) (match o.dst with | some t => t | none => 999) o.op st fun d st => K (st.put o.dst d) := by
  unfold stepV stepV0
  rw [hs]
  simp only [quiet_loud hq]
  rfl

theorem loud_put {κ : Nat} {r : ROp} {st : St} {x : Option Nat} {v : DV} {K : DV → St → Prop} (ht : ∀ t ∈ opR r, x ≠ some t) (h : loudV (std P) κ r (st.put x v) K) :
    ∃ f : DV → DV, (∀ d, keysOf d = [] → f d = d) ∧ (wild r = false → ∀ d, f d = d) ∧
      loudV (std P) κ r st fun d s => s.T = st.T.map f ∧ (wild r = false → ∀ k q, look st.σ k = some q → look s.σ k = some q) ∧ K d (s.put x (f v)) := by
  cases x with
  | none =>
    -- a place beyond all
    obtain ⟨T, σ⟩ := st
    have hset : ∀ (T : List DV) (t : Nat) (v : DV), T.length ≤ t → setN T t v = T := fun T t v h => by rw [setN_set]; exact List.set_eq_of_length_le h
    have hnot : ∃ t, t ∉ opR r ∧ T.length ≤ t := by
      have : ∀ l : List Nat, ∃ b, ∀ t ∈ l, t < b := by
        intro l
        induction l with
        | nil => exact ⟨0, fun t h => by cases h⟩
        | cons a l ih =>
          obtain ⟨b, hb⟩ := ih
          refine ⟨max b (a + 1), fun t h => ?_⟩
          rcases List.mem_cons.1 h with rfl | h
          · omega
          · have := hb t h; omega
      obtain ⟨b, hb⟩ := this (opR r)
      exact ⟨max b T.length, fun h => by have := hb _ h; omega, by omega⟩
    obtain ⟨t, h1, h2⟩ := hnot
    have h' : loudV (std P) κ r ⟨setN T t v, σ⟩ K := by rw [hset _ _ _ h2]; exact h
    obtain ⟨f, f1, f2, f3⟩ := loud_equi h1 h'
    refine ⟨f, f1, f2, loudV_mono f3 fun d s hs => ⟨hs.1, hs.2.1, ?_⟩⟩
    have := hs.2.2
    rw [hset _ _ _ (by rw [hs.1]; simpa using h2)] at this
    exact this
  | some t => exact loud_equi (fun h => ht t h rfl) h

theorem swapL {x y : ROper} {st : St} {K : St → Prop} (hc : commL x y = true) (h : stepG (std P) x st (fun s => stepG (std P) y s K)) : stepG (std P) y st (fun s => stepG (std P) x s K) := by
  simp only [commL, Bool.and_eq_true, Bool.or_eq_true, Bool.not_eq_true'] at hc
  obtain ⟨⟨⟨⟨⟨⟨⟨hqx, hqy⟩, hsy⟩, hxy⟩, hyx⟩, hgx⟩, hgy⟩, hcl⟩ := hc
  obtain ⟨hxy1, hxy2, hxy3⟩ := dstApart_iff hxy
  obtain ⟨hyx1, hyx2, hyx3⟩ := dstApart_iff hyx
  have hgx := guardApart_iff hgx
  have hgy := guardApart_iff hgy
  have hcl' : wild y.op = false ∨ x.strict = true ∨ isMove x.op = true := by
    rcases hcl with (h | h) | h
    · exact .inl h
    · exact .inr (.inl h)
    · exact .inr (.inr h)
  generalize hκ : (match y.dst with | some t => t | none => 999) = κ
  have hstep : ∀ s K, stepV (std P) y s K = loudV (std P) κ y.op s fun d s => K (s.put y.dst d) := by
    intro s K
    rw [stepV_loud hqy hsy, ← hκ]
  have h1 : gd x.guard st (fun s => gd y.guard s (fun s => qos P x s ∧ loudV (std P) κ y.op (s.put x.dst (qv P x.op s)) fun d s' => K (s'.put y.dst d)) (fun s => qos P x s ∧ K ((s.put x.dst (qv P x.op s)).put y.dst .und)))
      (fun s => gd y.guard s (fun s => loudV (std P) κ y.op (s.put x.dst .und) fun d s' => K (s'.put y.dst d)) (fun s => K ((s.put x.dst .und).put y.dst .und))) := by
    rw [stepG_gd] at h
    refine gd_monoR h (fun s _ hk => ?_) (fun s _ hk => ?_)
    · rw [stepV_quiet hqx, stepG_gd, gd_put hxy2] at hk
      refine gd_monoR hk.2 (fun s1 hr hk1 => ?_) (fun s1 hr hk1 => ?_)
      · rw [hstep] at hk1
        obtain ⟨e1, e2⟩ := hr.same (P := P) hqx (fun t w hg => (hgy t w hg).1)
        rw [e1, e2]
        exact ⟨hk.1, hk1⟩
      · obtain ⟨e1, e2⟩ := hr.same (P := P) hqx (fun t w hg => (hgy t w hg).1)
        rw [e1, e2]
        exact ⟨hk.1, hk1⟩
    · rw [stepG_gd, gd_put hxy2] at hk
      refine gd_monoR hk (fun s1 hr hk1 => ?_) (fun s1 hr hk1 => hk1)
      rw [hstep] at hk1
      exact hk1
  have h2 := gd_swap h1
  rw [stepG_gd]
  refine gd_monoR h2 (fun s _ hk => ?_) (fun s _ hk => ?_)
  · rw [hstep]
    -- what x does behind y
    have go : ∀ {s1 : St}, qos P x s1 → loudV (std P) κ y.op (s1.put x.dst (qv P x.op s1)) (fun d s' => K (s'.put y.dst d)) →
        ∃ f : DV → DV, (∀ d, keysOf d = [] → f d = d) ∧ loudV (std P) κ y.op s1 fun d s' => s'.T = s1.T.map f ∧ stepV (std P) x (s'.put y.dst d) K := by
      intro s1 hq hl
      obtain ⟨f, f1, f2, f3⟩ := loud_put hxy1 hl
      refine ⟨f, f1, loudV_mono f3 fun d s' hs => ?_⟩
      obtain ⟨g1, g2, g3⟩ := hs
      refine ⟨g1, ?_⟩
      rw [stepV_quiet hqx]
      obtain ⟨T1, σ1⟩ := s1
      obtain ⟨T', σ'⟩ := s'
      dsimp only at g1 g2
      subst g1
      obtain ⟨q1, q2⟩ := q_follow (P := P) (σ' := σ') hqx f1 (fun hw => f2 hw) (fun hw => g2 hw) hcl' hq
      obtain ⟨e3, e4⟩ := put_same (P := P) (s := ⟨T1.map f, σ'⟩) (x := y.dst) (d := d) hqx hyx1
      rw [e3, e4, q2, ← put_comm hxy3]
      exact ⟨q1, g3⟩
    have no : ∀ {s1 : St}, loudV (std P) κ y.op (s1.put x.dst .und) (fun d s' => K (s'.put y.dst d)) →
        ∃ f : DV → DV, (∀ d, keysOf d = [] → f d = d) ∧ loudV (std P) κ y.op s1 fun d s' => s'.T = s1.T.map f ∧ K ((s'.put y.dst d).put x.dst .und) := by
      intro s1 hl
      obtain ⟨f, f1, f2, f3⟩ := loud_put hxy1 hl
      refine ⟨f, f1, loudV_mono f3 fun d s' hs => ⟨hs.1, ?_⟩⟩
      have := hs.2.2
      rw [f1 .und rfl] at this
      rw [← put_comm hxy3]
      exact this
    -- by x's guard
    cases hg : x.guard with
    | none =>
      rw [hg] at hk
      obtain ⟨f, _, hl⟩ := go hk.1 hk.2
      refine loudV_mono hl fun d s' hs => ?_
      rw [stepG_gd, hg]
      exact hs.2
    | some gw =>
      obtain ⟨t, want⟩ := gw
      rw [hg] at hk
      obtain ⟨ht1, ht2⟩ := hgx t want hg
      have hyt : y.dst ≠ some t := hyx2 t want hg
      have key : ∀ {s' : St} {d : DV} {f : DV → DV}, (∀ d, keysOf d = [] → f d = d) → s'.T = s.T.map f → keysOf (nth s.T t) = [] → nth (s'.put y.dst d).T t = nth s.T t := by
        intro s' d f hf hT hk
        rw [put_nth hyt, hT, nth_map f (hf _ rfl), hf _ hk]
      unfold gd at hk
      dsimp only at hk
      -- the guard's place refined
      have refine_ : ∀ (b : DV) {Z : DV → St → Prop}, keysOf b = [] → (∃ f : DV → DV, (∀ d, keysOf d = [] → f d = d) ∧ loudV (std P) κ y.op ⟨setN s.T t b, s.σ⟩ fun d s' => s'.T = (setN s.T t b).map f ∧ Z d s') →
          ∃ f : DV → DV, (∀ d, keysOf d = [] → f d = d) ∧ loudV (std P) κ y.op s fun d s' => s'.T = s.T.map f ∧ Z d ⟨setN s'.T t b, s'.σ⟩ := by
        intro b Z hb ⟨f, f1, hl⟩
        obtain ⟨f', f1', _, hl'⟩ := loud_equi (T := s.T) (σ := s.σ) ht1 hl
        refine ⟨f', f1', loudV_mono hl' fun d s' hs => ⟨hs.1, ?_⟩⟩
        have := hs.2.2.2
        rw [f1' b hb] at this
        exact this
      cases hev : nth s.T t <;> simp only [hev] at hk
      case tt =>
        cases want
        · obtain ⟨f, f1, hl⟩ := no hk
          refine loudV_mono hl fun d s' hs => ?_
          rw [stepG_gd, hg]
          unfold gd
          simp only [key f1 hs.1 (by rw [hev]; rfl), hev]
          exact hs.2
        · obtain ⟨f, f1, hl⟩ := go hk.1 hk.2
          refine loudV_mono hl fun d s' hs => ?_
          rw [stepG_gd, hg]
          unfold gd
          simp only [key f1 hs.1 (by rw [hev]; rfl), hev]
          exact hs.2
      case ff =>
        cases want
        · obtain ⟨f, f1, hl⟩ := go hk.1 hk.2
          refine loudV_mono hl fun d s' hs => ?_
          rw [stepG_gd, hg]
          unfold gd
          simp only [key f1 hs.1 (by rw [hev]; rfl), hev]
          exact hs.2
        · obtain ⟨f, f1, hl⟩ := no hk
          refine loudV_mono hl fun d s' hs => ?_
          rw [stepG_gd, hg]
          unfold gd
          simp only [key f1 hs.1 (by rw [hev]; rfl), hev]
          exact hs.2
      case und =>
        obtain ⟨f, f1, hl⟩ := no hk
        refine loudV_mono hl fun d s' hs => ?_
        rw [stepG_gd, hg]
        unfold gd
        simp only [key f1 hs.1 (by rw [hev]; rfl), hev]
        exact hs.2
      case bool b =>
        have pc : ∀ (s' : St) (d c : DV), (⟨setN (s'.put y.dst d).T t c, (s'.put y.dst d).σ⟩ : St) = (⟨setN s'.T t c, s'.σ⟩ : St).put y.dst d := by
          intro s' d c
          have := put_comm (st := s') (x := some t) (y := y.dst) (u := c) (v := d) (fun a ha => by obtain rfl := Option.some.inj ha; exact hyt)
          exact this.symm
        cases want <;> cases b <;> dsimp only at hk
        · obtain ⟨f, f1, hl⟩ := refine_ .ff rfl (go (hk.2 rfl).1 (hk.2 rfl).2)
          refine loudV_mono hl fun d s' hs => ?_
          rw [stepG_gd, hg]
          unfold gd
          simp only [key f1 hs.1 (by rw [hev]; rfl), hev, pc]
          exact ⟨fun h => (by cases h), fun _ => hs.2⟩
        · obtain ⟨f, f1, hl⟩ := refine_ .tt rfl (no (hk.1 rfl))
          refine loudV_mono hl fun d s' hs => ?_
          rw [stepG_gd, hg]
          unfold gd
          simp only [key f1 hs.1 (by rw [hev]; rfl), hev, pc]
          exact ⟨fun _ => hs.2, fun h => (by cases h)⟩
        · obtain ⟨f, f1, hl⟩ := refine_ .ff rfl (no (hk.2 rfl))
          refine loudV_mono hl fun d s' hs => ?_
          rw [stepG_gd, hg]
          unfold gd
          simp only [key f1 hs.1 (by rw [hev]; rfl), hev, pc]
          exact ⟨fun h => (by cases h), fun _ => hs.2⟩
        · obtain ⟨f, f1, hl⟩ := refine_ .tt rfl (go (hk.1 rfl).1 (hk.1 rfl).2)
          refine loudV_mono hl fun d s' hs => ?_
          rw [stepG_gd, hg]
          unfold gd
          simp only [key f1 hs.1 (by rw [hev]; rfl), hev, pc]
          exact ⟨fun _ => hs.2, fun h => (by cases h)⟩
  · rw [stepG_gd, gd_put hyx2]
    refine gd_monoR hk (fun s1 hr hk1 => ?_) (fun s1 hr hk1 => ?_)
    · rw [stepV_quiet hqx]
      obtain ⟨e3, e4⟩ := put_same (P := P) (s := s1) (x := y.dst) (d := .und) hqx hyx1
      rw [e3, e4, ← put_comm hxy3]
      exact hk1
    · rw [← put_comm hxy3]
      exact hk1

theorem swap {x y : ROper} {st : St} {K : St → Prop} (hc : comm x y = true) (h : stepG (std P) x st (fun s => stepG (std P) y s K)) : stepG (std P) y st (fun s => stepG (std P) x s K) := by
  simp only [comm, Bool.or_eq_true] at hc
  rcases hc with hc | hc
  · exact swapQ hc h
  · exact swapL hc h
end
end Go.Sx
