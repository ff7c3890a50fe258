import Derived.Test.YtppaakckfolhlaaSxRun
namespace Go.Sx

section
variable {P : Program}

theorem ev_congr {T T' : List DV} {σ : Store} {x : Arg} (h : ∀ t ∈ argR x, nth T' t = nth T t) : ev ⟨T', σ⟩ x = ev ⟨T, σ⟩ x := by
  cases x with
  | tmp t => exact h t (by simp [argR])
  | con d => rfl
theorem evL_congr {T T' : List DV} {σ : Store} {xs : List Arg} (h : ∀ t ∈ argsR xs, nth T' t = nth T t) : evL ⟨T', σ⟩ xs = evL ⟨T, σ⟩ xs := by
  induction xs with
  | nil => rfl
  | cons x l ih =>
    simp only [evL]
    rw [ev_congr (x := x) (fun t ht => h t (by simp [argsR, ht])), ih (fun t ht => h t (by simp [argsR, ht]))]
theorem bnd_congr {L : Leafs} {T T' : List DV} {σ : Store} {x : Option Arg} (h : ∀ t ∈ optR x, nth T' t = nth T t) : bnd L ⟨T', σ⟩ x = bnd L ⟨T, σ⟩ x := by
  cases x with
  | none => rfl
  | some x => simp only [bnd]; rw [ev_congr (x := x) (fun t ht => h t (by simp [optR, ht]))]
theorem cont_congr {L : Leafs} {T T' : List DV} {σ : Store} {es : Nat} {d : DV} : cont L ⟨T', σ⟩ es d = cont L ⟨T, σ⟩ es d := by
  cases d <;> rfl

theorem fillP_congr {T T' : List DV} {σ : Store} : ∀ (ps : List (Nat × Nat × Arg)) (cs : List DV), (∀ t ∈ partsR3 ps, nth T' t = nth T t) → fillP ⟨T', σ⟩ ps cs = fillP ⟨T, σ⟩ ps cs
  | [], _, _ => rfl
  | (o, n, x) :: ps, cs, h => by
    simp only [partsR3, List.mem_append] at h
    simp only [fillP]
    rw [ev_congr (fun t ht => h t (.inl ht))]
    split
    · split
      · exact fillP_congr ps _ (fun t ht => h t (.inr ht))
      · rfl
    · rfl
/-- A quiet operation looks at its operands and at the store alone. -/
theorem quiet_congr {L : Leafs} {T T' : List DV} {σ : Store} {r : ROp} (hq : isQ r = true) (h : ∀ t ∈ opR r, nth T' t = nth T t) : quietV L ⟨T', σ⟩ r = quietV L ⟨T, σ⟩ r := by
  cases r <;> first | (cases hq; done) | simp only [quietV, opR, List.mem_append] at h ⊢
  case move x => rw [ev_congr h]
  case load a n x => rw [ev_congr h]; cases ev ⟨T, σ⟩ x <;> rfl
  case nilCheck x => rw [ev_congr h]
  case binOp c o x y => rw [ev_congr (fun t ht => h t (.inl ht)), ev_congr (fun t ht => h t (.inr ht))]
  case eqS b l x y => rw [ev_congr (fun t ht => h t (.inl ht)), ev_congr (fun t ht => h t (.inr ht))]
  case buildQ z ps => rw [fillP_congr ps z h]
  case unOp o x => rw [ev_congr h]
  case convI k x => rw [ev_congr h]
  case convS x => rw [ev_congr h]
  case toStr x => rw [ev_congr h]; cases ev ⟨T, σ⟩ x <;> rfl
  case slice n x l hh m =>
    rw [ev_congr (fun t ht => h t (.inl ht))]
    simp only [sliceV]
    rw [bnd_congr (fun t ht => h t (.inr (.inl ht))), bnd_congr (fun t ht => h t (.inr (.inr (.inl ht)))), bnd_congr (fun t ht => h t (.inr (.inr (.inr ht))))]
    cases ev ⟨T, σ⟩ x <;> rfl
  case fieldAddr o x => rw [ev_congr h]
  case field a n o x => rw [ev_congr h]
  case indexAddr n x y =>
    rw [ev_congr (fun t ht => h t (.inl ht)), ev_congr (fun t ht => h t (.inr ht))]
    cases ev ⟨T, σ⟩ x <;> rfl
  case index x y => rw [ev_congr (fun t ht => h t (.inl ht)), ev_congr (fun t ht => h t (.inr ht))]
  case extract x j => rw [ev_congr h]
  case makeFunc g x y => rw [evL_congr (fun t ht => h t (.inl ht)), evL_congr (fun t ht => h t (.inr ht))]
  case len s x => rw [ev_congr h]
  case max xs => rw [evL_congr h]
  case min xs => rw [evL_congr h]

theorem quiet_some {L : Leafs} {st : St} {r : ROp} (hq : isQ r = true) : ∃ q, quietV L st r = some q := by
  cases r <;> first | (cases hq; done) | exact ⟨_, rfl⟩

/-! guards -/
/-- What a guard lets happen. -/
def gd (g : Option (Nat × Bool)) (st : St) (A B : St → Prop) : Prop :=
  match g with
  | none => A st
  | some (t, want) => match nth st.T t with
      | .tt => (match want with | true => A st | false => B st)
      | .ff => (match want with | true => B st | false => A st)
      | .bool b => (match want with
        | true => (b = true → A ⟨setN st.T t .tt, st.σ⟩) ∧ (b = false → B ⟨setN st.T t .ff, st.σ⟩)
        | false => (b = true → B ⟨setN st.T t .tt, st.σ⟩) ∧ (b = false → A ⟨setN st.T t .ff, st.σ⟩))
      | .und => B st
      | _ => False

theorem stepG_gd (o : ROper) (st : St) (K : St → Prop) : stepG (std P) o st K = gd o.guard st (fun st => stepV (std P) o st K) (fun st => K (st.put o.dst .und)) := by
  unfold stepG gd
  cases o.guard with
  | none => rfl
  | some g => obtain ⟨t, want⟩ := g; rfl

theorem gd_mono {g : Option (Nat × Bool)} {st : St} {A B A' B' : St → Prop} (h : gd g st A B) (hA : ∀ s, A s → A' s) (hB : ∀ s, B s → B' s) : gd g st A' B' := by
  unfold gd at h ⊢
  cases g with
  | none => exact hA _ h
  | some g =>
    obtain ⟨t, want⟩ := g
    dsimp only at h ⊢
    cases hev : nth st.T t <;> simp only [hev] at h ⊢ <;> cases want <;> (try dsimp only at h ⊢) <;>
      first | exact hA _ h | exact hB _ h | exact ⟨fun hb => hA _ (h.1 hb), fun hb => hB _ (h.2 hb)⟩ | exact ⟨fun hb => hB _ (h.1 hb), fun hb => hA _ (h.2 hb)⟩ | exact h

/-- States that a guard may make of a state. -/
def Ref (g : Option (Nat × Bool)) (s s' : St) : Prop := s'.σ = s.σ ∧ ∀ t, (∀ w, g ≠ some (t, w)) → nth s'.T t = nth s.T t

theorem gd_monoR {g : Option (Nat × Bool)} {st : St} {A B A' B' : St → Prop} (h : gd g st A B) (hA : ∀ s, Ref g st s → A s → A' s) (hB : ∀ s, Ref g st s → B s → B' s) : gd g st A' B' := by
  have hr : Ref g st st := ⟨rfl, fun _ _ => rfl⟩
  unfold gd at h ⊢
  cases g with
  | none => exact hA _ hr h
  | some g =>
    obtain ⟨t, want⟩ := g
    have hs : ∀ d, Ref (some (t, want)) st ⟨setN st.T t d, st.σ⟩ := fun d => ⟨rfl, fun u hu => by
      simp only [nth_setN]; rw [if_neg]; intro e; exact hu want (by rw [e])⟩
    dsimp only at h ⊢
    cases hev : nth st.T t <;> simp only [hev] at h ⊢ <;> cases want <;> (try dsimp only at h ⊢) <;>
      first | exact hA _ hr h | exact hB _ hr h | exact ⟨fun hb => hA _ (hs _) (h.1 hb), fun hb => hB _ (hs _) (h.2 hb)⟩ | exact ⟨fun hb => hB _ (hs _) (h.1 hb), fun hb => hA _ (hs _) (h.2 hb)⟩ | exact h

theorem gd_out {g : Option (Nat × Bool)} {st : St} {A B : St → Prop} {p : Prop} (h : gd g st (fun s => p ∧ A s) (fun s => p ∧ B s)) : p ∧ gd g st A B := by
  unfold gd at h ⊢
  cases g with
  | none => exact h
  | some g =>
    obtain ⟨t, want⟩ := g
    dsimp only at h ⊢
    cases hev : nth st.T t <;> simp only [hev] at h ⊢ <;> cases want <;> (try dsimp only at h ⊢) <;>
      first
        | exact h
        | exact h.elim
        | (rename_i b; exact ⟨by cases b; exact (h.2 rfl).1; exact (h.1 rfl).1, fun hb => (h.1 hb).2, fun hb => (h.2 hb).2⟩)

theorem setN_comm {T : List DV} {a b : Nat} {u v : DV} (h : a ≠ b) : setN (setN T a u) b v = setN (setN T b v) a u := by
  rw [setN_set, setN_set, setN_set, setN_set, List.set_comm _ _ h]
theorem put_comm {st : St} {x y : Option Nat} {u v : DV} (h : ∀ a, x = some a → y ≠ some a) : (st.put x u).put y v = (st.put y v).put x u := by
  cases x <;> cases y <;> first | rfl | skip
  rename_i a b
  simp only [St.put]
  rw [setN_comm (fun e => h a rfl (by rw [e]))]

/-- A put elsewhere is not seen by a guard. -/
theorem gd_put {g : Option (Nat × Bool)} {st : St} {A B : St → Prop} {x : Option Nat} {d : DV} (h : ∀ t w, g = some (t, w) → x ≠ some t) :
    gd g (st.put x d) A B = gd g st (fun s => A (s.put x d)) (fun s => B (s.put x d)) := by
  cases x with
  | none => rfl
  | some a =>
    cases g with
    | none => rfl
    | some g =>
      obtain ⟨t, want⟩ := g
      have hne : t ≠ a := fun e => h t want rfl (by rw [e])
      unfold gd
      simp only [St.put, nth_setN, if_neg hne, setN_comm (T := st.T) (Ne.symm hne)]

theorem len_of_nth {T : List DV} {t : Nat} (h : nth T t ≠ .junk) : t < T.length := by
  rcases Nat.lt_or_ge t T.length with hl | hl
  · exact hl
  · exact absurd (nth_ge hl) h

theorem absurdB {b : Bool} {p : Prop} (h : (b = true → False) ∧ (b = false → False)) : p := by cases b; exact (h.2 rfl).elim; exact (h.1 rfl).elim

/-- Two guards, in either order. -/
theorem gd_swap {g1 g2 : Option (Nat × Bool)} {st : St} {A11 A12 A21 A22 : St → Prop} (h : gd g1 st (fun s => gd g2 s A11 A12) (fun s => gd g2 s A21 A22)) :
    gd g2 st (fun s => gd g1 s A11 A21) (fun s => gd g1 s A12 A22) := by
  cases g1 with
  | none => exact h
  | some g1 =>
    cases g2 with
    | none => exact h
    | some g2 =>
      obtain ⟨t1, w1⟩ := g1
      obtain ⟨t2, w2⟩ := g2
      by_cases ht : t1 = t2
      · subst ht
        unfold gd at h ⊢
        dsimp only at h ⊢
        cases hev : nth st.T t1 <;> simp only [hev] at h ⊢ <;> cases w1 <;> cases w2 <;> (try dsimp only at h ⊢) <;>
          first
            | exact h
            | (have hl : t1 < st.T.length := len_of_nth (by rw [hev]; exact fun h => by cases h)
               simp only [nth_setN, if_true, hl] at h ⊢
               first | exact h | exact ⟨fun hb => h.1 hb, fun hb => h.2 hb⟩)
      · unfold gd at h ⊢
        dsimp only at h ⊢
        have hne : t2 ≠ t1 := fun e => ht e.symm
        cases hev : nth st.T t1 <;> cases hev2 : nth st.T t2 <;> simp only [hev, hev2, nth_setN, if_neg ht, if_neg hne] at h ⊢ <;> cases w1 <;> cases w2 <;> (try dsimp only at h ⊢) <;>
          first
            | exact h
            | exact h.elim
            | exact absurdB h
            | exact ⟨fun _ => h, fun _ => h⟩
            | (refine ⟨fun hb2 => ⟨fun hb1 => ?_, fun hb1 => ?_⟩, fun hb2 => ⟨fun hb1 => ?_, fun hb1 => ?_⟩⟩
               · rw [setN_comm hne]; exact (h.1 hb1).1 hb2
               · rw [setN_comm hne]; exact (h.2 hb1).1 hb2
               · rw [setN_comm hne]; exact (h.1 hb1).2 hb2
               · rw [setN_comm hne]; exact (h.2 hb1).2 hb2)

def qob (P : Program) (r : ROp) (st : St) : Prop := match quietV (std P) st r with | some (p, _) => p | none => False
def qv (P : Program) (r : ROp) (st : St) : DV := match quietV (std P) st r with | some (_, v) => v | none => .junk

theorem q_same {r : ROp} (hq : isQ r = true) {s s' : St} (hσ : s'.σ = s.σ) (h : ∀ t ∈ opR r, nth s'.T t = nth s.T t) : qob P r s' = qob P r s ∧ qv P r s' = qv P r s := by
  obtain ⟨T, σ⟩ := s
  obtain ⟨T', σ'⟩ := s'
  dsimp only at hσ
  subst hσ
  have := quiet_congr (L := std P) (σ := σ') hq h
  simp only [qob, qv, this, and_self]

/-- What a quiet operation asks, as it stands in a region. -/
def qos (P : Program) (o : ROper) (st : St) : Prop := (o.strict = true → keysOfL (evL st (opArgs o.op)) = [] ∧ keysOf (qv P o.op st) = []) ∧ qob P o.op st
theorem stepV_quiet {o : ROper} (hq : isQ o.op = true) (st : St) (K : St → Prop) : stepV (std P) o st K = (qos P o st ∧ K (st.put o.dst (qv P o.op st))) := by
  obtain ⟨⟨ob, v⟩, h⟩ := quiet_some (L := std P) (st := st) hq
  unfold stepV qos
  cases o.strict <;> simp [stepV0, qob, qv, h, and_assoc]
theorem argsR_append (l m : List Arg) : argsR (l ++ m) = argsR l ++ argsR m := by induction l <;> simp [argsR, *]
theorem argsR_opt (x : Option Arg) : argsR (optA x) = optR x := by cases x <;> simp [optA, argsR, optR]
theorem argsR_parts (ps : List (Nat × Nat × Arg)) : argsR (partsA ps) = partsR3 ps := by
  induction ps with
  | nil => rfl
  | cons p l ih => obtain ⟨o, n, x⟩ := p; simp [partsA, argsR, partsR3, ih]
theorem opArgs_R {r : ROp} {t : Nat} (hq : isQ r = true) (h : t ∈ argsR (opArgs r)) : t ∈ opR r := by
  cases r <;> first | (cases hq; done) | (simpa [opArgs, opR, argsR, argsR_append, argsR_opt, argsR_parts] using h)
theorem qo_same {o : ROper} (hq : isQ o.op = true) {s s' : St} (hσ : s'.σ = s.σ) (h : ∀ t ∈ opR o.op, nth s'.T t = nth s.T t) : qos P o s' = qos P o s ∧ qv P o.op s' = qv P o.op s := by
  obtain ⟨h1, h2⟩ := q_same (P := P) hq hσ h
  refine ⟨?_, h2⟩
  have : evL s' (opArgs o.op) = evL s (opArgs o.op) := by
    obtain ⟨T, σ⟩ := s
    obtain ⟨T', σ'⟩ := s'
    dsimp only at hσ
    subst hσ
    exact evL_congr (fun t ht => h t (opArgs_R hq ht))
  simp only [qos, h1, h2, this]

theorem put_nth {st : St} {x : Option Nat} {d : DV} {t : Nat} (h : x ≠ some t) : nth (st.put x d).T t = nth st.T t := by
  cases x with
  | none => rfl
  | some a =>
    simp only [St.put, nth_setN]
    rw [if_neg (fun e => h (by rw [e]))]
theorem put_store (st : St) (x : Option Nat) (d : DV) : (st.put x d).σ = st.σ := by cases x <;> rfl

theorem dstNot_iff {d : Option Nat} {l : List Nat} (h : dstNot d l = true) : ∀ t ∈ l, d ≠ some t := by
  rintro t ht rfl
  simp only [dstNot, Bool.not_eq_true', ← Bool.not_eq_true, mem_iff] at h
  exact h ht

theorem dstApart_iff {x y : ROper} (h : dstApart x y = true) : (∀ t ∈ opR y.op, x.dst ≠ some t) ∧ (∀ t w, y.guard = some (t, w) → x.dst ≠ some t) ∧ (∀ a, x.dst = some a → y.dst ≠ some a) := by
  simp only [dstApart, Bool.and_eq_true] at h
  obtain ⟨⟨h1, h2⟩, h3⟩ := h
  refine ⟨dstNot_iff h1, fun t w hg => dstNot_iff h2 t (by simp [guardT, hg]), ?_⟩
  rintro a ha hb
  simp [ha, hb] at h3
theorem guardApart_iff {x y : ROper} (h : guardApart x y = true) : ∀ t w, x.guard = some (t, w) → t ∉ opR y.op ∧ t ∉ opR x.op := by
  intro t w hg
  simp only [guardApart, hg, Bool.and_eq_true, Bool.not_eq_true', ← Bool.not_eq_true, mem_iff] at h
  exact h

theorem Ref.same {r : ROper} (hq : isQ r.op = true) {g : Option (Nat × Bool)} {s s' : St} (h : Ref g s s') (hg : ∀ t w, g = some (t, w) → t ∉ opR r.op) : qos P r s' = qos P r s ∧ qv P r.op s' = qv P r.op s :=
  qo_same hq h.1 fun t ht => h.2 t fun w e => hg t w e ht
theorem put_same {r : ROper} (hq : isQ r.op = true) {s : St} {x : Option Nat} {d : DV} (h : ∀ t ∈ opR r.op, x ≠ some t) : qos P r (s.put x d) = qos P r s ∧ qv P r.op (s.put x d) = qv P r.op s :=
  qo_same hq (put_store _ _ _) fun t ht => put_nth (h t ht)

theorem swapQ {x y : ROper} {st : St} {K : St → Prop} (hc : commQ x y = true) (h : stepG (std P) x st (fun s => stepG (std P) y s K)) : stepG (std P) y st (fun s => stepG (std P) x s K) := by
  simp only [commQ, Bool.and_eq_true] at hc
  obtain ⟨⟨⟨⟨⟨hqx, hqy⟩, hxy⟩, hyx⟩, hgx⟩, hgy⟩ := hc
  obtain ⟨hxy1, hxy2, hxy3⟩ := dstApart_iff hxy
  obtain ⟨hyx1, hyx2, hyx3⟩ := dstApart_iff hyx
  have hgx := guardApart_iff hgx
  have hgy := guardApart_iff hgy
  have h1 : gd x.guard st (fun s => gd y.guard s (fun s => qos P x s ∧ qos P y s ∧ K ((s.put x.dst (qv P x.op s)).put y.dst (qv P y.op s))) (fun s => qos P x s ∧ K ((s.put x.dst (qv P x.op s)).put y.dst .und)))
      (fun s => gd y.guard s (fun s => qos P y s ∧ K ((s.put x.dst .und).put y.dst (qv P y.op s))) (fun s => K ((s.put x.dst .und).put y.dst .und))) := by
    rw [stepG_gd] at h
    refine gd_monoR h (fun s _ hk => ?_) (fun s _ hk => ?_)
    · rw [stepV_quiet hqx, stepG_gd, gd_put hxy2] at hk
      refine gd_monoR hk.2 (fun s1 hr hk1 => ?_) (fun s1 hr hk1 => ?_)
      · rw [stepV_quiet hqy] at hk1
        obtain ⟨e1, e2⟩ := hr.same (P := P) hqx (fun t w hg => (hgy t w hg).1)
        obtain ⟨e3, e4⟩ := put_same (P := P) (s := s1) (x := x.dst) (d := qv P x.op s) hqy hxy1
        rw [e3, e4] at hk1
        rw [e1, e2]
        exact ⟨hk.1, hk1.1, hk1.2⟩
      · obtain ⟨e1, e2⟩ := hr.same (P := P) hqx (fun t w hg => (hgy t w hg).1)
        rw [e1, e2]
        exact ⟨hk.1, hk1⟩
    · rw [stepG_gd, gd_put hxy2] at hk
      refine gd_monoR hk (fun s1 hr hk1 => ?_) (fun s1 hr hk1 => hk1)
      rw [stepV_quiet hqy] at hk1
      obtain ⟨e3, e4⟩ := put_same (P := P) (s := s1) (x := x.dst) (d := .und) hqy hxy1
      rw [e3, e4] at hk1
      exact hk1
  have h2 := gd_swap h1
  rw [stepG_gd]
  refine gd_monoR h2 (fun s _ hk => ?_) (fun s _ hk => ?_)
  · rw [stepV_quiet hqy]
    have hk' : gd x.guard s (fun s1 => qos P y s ∧ (qos P x s1 ∧ K ((s1.put x.dst (qv P x.op s1)).put y.dst (qv P y.op s)))) (fun s1 => qos P y s ∧ K ((s1.put x.dst .und).put y.dst (qv P y.op s))) := by
      refine gd_monoR hk (fun s1 hr hk1 => ?_) (fun s1 hr hk1 => ?_)
      · obtain ⟨e1, e2⟩ := hr.same (P := P) hqy (fun t w hg => (hgx t w hg).1)
        rw [e1, e2] at hk1
        exact ⟨hk1.2.1, hk1.1, hk1.2.2⟩
      · obtain ⟨e1, e2⟩ := hr.same (P := P) hqy (fun t w hg => (hgx t w hg).1)
        rw [e1, e2] at hk1
        exact hk1
    obtain ⟨k1, k2⟩ := gd_out hk'
    refine ⟨k1, ?_⟩
    rw [stepG_gd, gd_put hyx2]
    refine gd_monoR k2 (fun s1 hr hk1 => ?_) (fun s1 hr hk1 => ?_)
    · rw [stepV_quiet hqx]
      obtain ⟨e3, e4⟩ := put_same (P := P) (s := s1) (x := y.dst) (d := qv P y.op s) hqx hyx1
      rw [e3, e4, ← put_comm hxy3]
      exact hk1
    · rw [← put_comm hxy3]
      exact hk1
  · rw [stepG_gd, gd_put hyx2]
    refine gd_monoR hk (fun s1 hr hk1 => ?_) (fun s1 hr hk1 => ?_)
    · rw [stepV_quiet hqx]
      obtain ⟨e3, e4⟩ := put_same (P := P) (s := s1) (x := y.dst) (d := .und) hqx hyx1
      rw [e3, e4, ← put_comm hxy3]
      exact hk1
    · rw [← put_comm hxy3]
      exact hk1

end
end Go.Sx
