import Derived.Test.YtppaakckfolhlaaSxExec
namespace Go.Sx

def addRowE (st : St) (κ : Nat) (r : Row) : Option St :=
  match Nat.blt κ 100000 with
  | true => (match look st.σ κ with
    | some _ => none
    | none => some ⟨st.T, ins st.σ κ r⟩)
  | false => none
def bindLE (κ : Nat) : Nat → List DV → St → Option (List DV × St)
  | _, [], st => some ([], st)
  | j, d :: l, st => match d with
    | .own sz n f => (match addRowE st (κ + 1000 * j) (.arr sz n f) with
      | some st => (match bindLE κ (j + 1) l st with | some (ds, st) => some (.ref (κ + 1000 * j) 0 n :: ds, st) | none => none)
      | none => none)
    | .obox sz d => (match addRowE st (κ + 1000 * j) (.box sz d) with
      | some st => (match bindLE κ (j + 1) l st with | some (ds, st) => some (.rptr (κ + 1000 * j) 0 0 :: ds, st) | none => none)
      | none => none)
    | d => (match bindLE κ (j + 1) l st with | some (ds, st) => some (d :: ds, st) | none => none)
def bindRE (κ : Nat) (d : DV) (st : St) : Option (DV × St) :=
  match d with
  | .own sz n f => (match addRowE st κ (.arr sz n f) with | some st => some (.ref κ 0 n, st) | none => none)
  | .obox sz d => (match addRowE st κ (.box sz d) with | some st => some (.rptr κ 0 0, st) | none => none)
  | .tup ds => (match bindLE κ 1 ds st with | some (ds, st) => some (.tup ds, st) | none => none)
  | d => some (d, st)
theorem addRowE_eq {st st' : St} {κ : Nat} {r : Row} {K : St → Prop} (h : addRowE st κ r = some st') (hK : K st') : addRow st κ r K := by
  unfold addRowE at h
  unfold addRow
  split at h
  · rename_i h1
    have h2 : κ < 100000 := by simpa [Nat.blt_eq] using h1
    rw [if_pos h2]
    split at h
    · cases h
    · rename_i h3
      rw [h3]
      obtain rfl := Option.some.inj h
      exact hK
  · cases h
theorem bindLE_eq {κ : Nat} : ∀ {l : List DV} {j : Nat} {st : St} {ds : List DV} {st' : St} {K : List DV → St → Prop}, bindLE κ j l st = some (ds, st') → K ds st' → bindL κ j l st K
  | [], j, st, ds, st', K, h, hK => by
    simp only [bindLE, Option.some.injEq, Prod.mk.injEq] at h
    obtain ⟨rfl, rfl⟩ := h
    exact hK
  | d :: l, j, st, ds, st', K, h, hK => by
    have plain : (match bindLE κ (j + 1) l st with | some (ds, st) => some (d :: ds, st) | none => none) = some (ds, st') → bindL κ (j + 1) l st fun ds st => K (d :: ds) st := by
      intro h
      split at h
      · rename_i ds1 st1 e
        simp only [Option.some.injEq, Prod.mk.injEq] at h
        obtain ⟨rfl, rfl⟩ := h
        exact bindLE_eq e hK
      · cases h
    unfold bindLE at h
    unfold bindL
    cases d
    case own sz n f =>
      dsimp only at h ⊢
      split at h
      · rename_i st1 e1
        split at h
        · rename_i ds1 st2 e2
          simp only [Option.some.injEq, Prod.mk.injEq] at h
          obtain ⟨rfl, rfl⟩ := h
          exact addRowE_eq e1 (bindLE_eq e2 hK)
        · cases h
      · cases h
    case obox sz d =>
      dsimp only at h ⊢
      split at h
      · rename_i st1 e1
        split at h
        · rename_i ds1 st2 e2
          simp only [Option.some.injEq, Prod.mk.injEq] at h
          obtain ⟨rfl, rfl⟩ := h
          exact addRowE_eq e1 (bindLE_eq e2 hK)
        · cases h
      · cases h
    all_goals exact plain h
theorem bindRE_eq {κ : Nat} {d d' : DV} {st st' : St} {K : DV → St → Prop} (h : bindRE κ d st = some (d', st')) (hK : K d' st') : bindR κ d st K := by
  unfold bindRE at h
  unfold bindR
  cases d
  case own sz n f =>
    dsimp only at h ⊢
    split at h
    · rename_i st1 e1
      simp only [Option.some.injEq, Prod.mk.injEq] at h
      obtain ⟨rfl, rfl⟩ := h
      exact addRowE_eq e1 hK
    · cases h
  case obox sz n =>
    dsimp only at h ⊢
    split at h
    · rename_i st1 e1
      simp only [Option.some.injEq, Prod.mk.injEq] at h
      obtain ⟨rfl, rfl⟩ := h
      exact addRowE_eq e1 hK
    · cases h
  case tup ds =>
    dsimp only at h ⊢
    split at h
    · rename_i ds1 st1 e1
      simp only [Option.some.injEq, Prod.mk.injEq] at h
      obtain ⟨rfl, rfl⟩ := h
      exact bindLE_eq e1 hK
    · cases h
  all_goals
    (simp only [Option.some.injEq, Prod.mk.injEq] at h
     obtain ⟨rfl, rfl⟩ := h
     exact hK)

def lendOk1B : DV → Bool
  | .own sz n f => allTo (fun i => allTo (fun j => scalarD (nth (cells (f i)) j)) sz) n
  | .agg cs => scalarL cs
  | d => scalarD d
def lendOkLB : List DV → Bool
  | [] => true
  | d :: l => match lendOk1B d with | true => lendOkLB l | false => false
def lendOkB : DV → Bool
  | .tup l => lendOkLB l
  | d => lendOk1B d
theorem lendOk1B_eq {d : DV} (h : lendOk1B d = true) : lendOk1 d := by
  cases d <;> first | exact h | skip
  exact fun i hi j hj => allTo_eq (allTo_eq h i hi) j hj
theorem lendOkLB_eq : ∀ {l : List DV}, lendOkLB l = true → lendOkL l
  | [], _ => trivial
  | d :: l, h => by
    simp only [lendOkLB] at h
    split at h
    · rename_i h1; exact ⟨lendOk1B_eq h1, lendOkLB_eq h⟩
    · cases h
theorem lendOkB_eq {d : DV} (h : lendOkB d = true) : lendOk d := by
  have plain : (∀ l, d ≠ .tup l) → lendOkB d = lendOk1B d ∧ lendOk d = lendOk1 d := by
    intro hn
    cases d <;> first | exact ⟨rfl, rfl⟩ | exact absurd rfl (hn _)
  by_cases ht : ∃ l, d = .tup l
  · obtain ⟨l, rfl⟩ := ht; exact lendOkLB_eq (l := l) h
  · obtain ⟨h1, h2⟩ := plain (fun l e => ht ⟨l, e⟩)
    rw [h2]; rw [h1] at h; exact lendOk1B_eq h

abbrev CallE := FuncId → List DV → List Row → Option (DV × List Row)
def storeE (st : St) (a : DV) (size : Nat) (vs : List DV) : Option St :=
  match a with
  | .rptr k i off => (match look st.σ k with
    | some (.box sz d) => grd (Nat.ble (off + size) sz) ⟨st.T, upd st.σ k (.box sz (setCells d off vs))⟩
    | some (.arr sz n f) => grd (Nat.ble (off + size) sz) ⟨st.T, upd st.σ k (.arr sz n (setFF f i off vs))⟩
    | none => none)
  | _ => none
def roomB (n b : Nat) : Bool := Nat.ble (n * b) 140737488355328
/-- Contents told by a list. -/
def listF (n : Nat) (f : Nat → DV) : List DV := (List.range n).map f
def emptyKeys (l : List Nat) : Bool := match l with | [] => true | _ => false
def loudE (C : CallE) (κ : Nat) (op : ROp) (st : St) : Option (DV × St) :=
  match op with
  | .alloc size zero => (match addRowE st κ (.box size zero) with | some st => some (.rptr κ 0 0, st) | none => none)
  | .box size x =>
    let st1 := st.freeze (keysOf (ev st x))
    if okCells size (ev st1 x) then (match addRowE st1 κ (.box size (ev st1 x)) with | some st => some (.rptr κ 0 0, st) | none => none) else none
  | .build zero parts =>
    let st1 := st.freeze (partKeys3 st parts)
    match fillP st1 parts zero with
      | some cs => some (.agg cs, st1)
      | none => none
  | .buildSlice esize ezero n parts =>
    let st1 := st.freeze (partKeys st parts)
    if partsOk esize st1 parts then (match addRowE st1 κ (.arr esize n (elems ezero st1 n parts)) with | some st => some (.ref κ 0 n, st) | none => none) else none
  | .store size a x =>
    let st1 := st.freeze (keysOf (ev st x))
    if okCells size (ev st1 x) then (match storeE st1 (ev st1 a) size (cells (ev st1 x)) with | some st => some (.und, st) | none => none) else none
  | .makeSlice esize ebytes ezero l c => (match ev st l, ev st c with
    | .int _ ln, .int _ cn => if decide (0 ≤ ln ∧ ln ≤ cn ∧ cn * (ebytes : Int) ≤ 140737488355328) = true then
        (match addRowE st κ (.arr esize ln.toNat (fun _ => ezero)) with | some st => some (.ref κ 0 ln.toNat, st) | none => none) else none
    | _, _ => none)
  | .pick c a b => (match boolOf (ev st c) with
    | some true => some (ev st a, st)
    | some false => some (ev st b, st)
    | none => none)
  | .call f xs => (match ev st f with
      | .fn g a b =>
        let ds := cat a (cat (evL st xs) b)
        let ds' := viewL 100000 (keysOfL ds) st.σ ds
        if emptyKeys (keysOfL ds') = true then (match C g ds' [] with
          | some (d, _) => bindRE κ d (st.freeze (keysOfL ds))
          | none => none) else none
      | _ => none)
  | .lend f xs => (match ev st f with
      | .fn g a b =>
        let ds := cat a (cat (evL st xs) b)
        let ds' := viewL 1000000000 (keysOfL ds) st.σ ds
        if emptyKeys (keysOfL ds') = true then (match C g ds' [] with
          | some (d, _) => if lendOkB d = true then bindRE κ d st else none
          | none => none) else none
      | _ => none)
  | .refs f xs => (match ev st f with
      | .fn g a b =>
        let ds := cat a (cat (evL st xs) b)
        let ks := nub [] (keysOfL ds)
        (match lookL st.σ ks with
        | some rows => (match C g (renL ks ds) rows with
          | some (d, rows') => bindRE κ (unren ks d) ⟨st.T, updL st.σ ks rows'⟩
          | none => none)
        | none => none)
      | _ => none)
  | .append esize ebytes s x => (match contE st esize (ev st x) with
    | none => none
    | some (m, g) => (match ev st s with
      | .nils => if roomB m ebytes = true then (match addRowE st κ (.arr esize m g) with | some st => some (.ref κ 0 m, st) | none => none) else none
      | .lst sz t n f => if sz = esize ∧ t = true ∧ (n = 0 ∨ 0 < m) ∧ roomB (n + m) ebytes = true then
          (match addRowE st κ (.arr esize (n + m) (appFF n f g)) with | some st => some (.ref κ 0 (n + m), st) | none => none) else none
      | .ref k o n => (match look st.σ k with
        | some (.arr sz _ f) => if sz = esize ∧ k < 100000 ∧ roomB (n + m) ebytes = true then
            (match addRowE ⟨killL k st.T, del st.σ k⟩ κ (.arr esize (n + m) (appFF n (shift o f) g)) with | some st => some (.ref κ 0 (n + m), st) | none => none) else none
        | _ => none)
      | _ => none))
  | .clear es ezero s => (match ev st s with
    | .ref k o n => (match look st.σ k with
      | some (.arr sz n0 f) => if sz = es then some (.und, ⟨st.T, upd st.σ k (.arr sz n0 (clrFF o n ezero f))⟩) else none
      | _ => none)
    | _ => none)
  | _ => none

section
variable {P : Program}
theorem storeE_eq {st st' : St} {a : DV} {size : Nat} {vs : List DV} {K : DV → St → Prop} (h : storeE st a size vs = some st') (hK : K .und st') : storeV (std P) st a size vs K := by
  unfold storeE at h
  unfold storeV
  split at h
  · dsimp only
    split at h
    · rename_i e
      rw [e]
      obtain ⟨h1, rfl⟩ := grd_eq h
      dsimp only
      rw [if_pos (Nat.le_of_ble_eq_true h1)]
      exact hK
    · rename_i e
      rw [e]
      obtain ⟨h1, rfl⟩ := grd_eq h
      dsimp only
      rw [if_pos (Nat.le_of_ble_eq_true h1)]
      exact hK
    · cases h
  · cases h
theorem roomB_eq {n b : Nat} (h : roomB n b = true) : n * b ≤ 140737488355328 := Nat.le_of_ble_eq_true h
theorem emptyKeys_eq {l : List Nat} (h : emptyKeys l = true) : l = [] := by
  cases l with
  | nil => rfl
  | cons => cases h
def CallOk (P : Program) (C : CallE) : Prop := ∀ g ds rows d rs, C g ds rows = some (d, rs) → Fn P g ds rows fun d' rs' => d' = d ∧ rs' = rs
theorem some_row {o : Option St} {d d' : DV} {st' : St} (h : (match o with | some st => some (d, st) | none => none) = some (d', st')) : o = some st' ∧ d = d' := by
  split at h
  · rename_i e
    simp only [Option.some.injEq, Prod.mk.injEq] at h
    obtain ⟨rfl, rfl⟩ := h
    exact ⟨rfl, rfl⟩
  · cases h
theorem loudE_eq {C : CallE} (hC : CallOk P C) {κ : Nat} {op : ROp} {st st' : St} {d : DV} {K : DV → St → Prop} (h : loudE C κ op st = some (d, st')) (hK : K d st') : loudV (std P) κ op st K := by
  cases op <;> simp only [loudE] at h <;> first | (cases h; done) | simp only [loudV]
  case alloc =>
    obtain ⟨h1, rfl⟩ := some_row h
    exact addRowE_eq h1 hK
  case box =>
    split at h
    · rename_i hc
      rw [if_pos hc]
      obtain ⟨h1, rfl⟩ := some_row h
      exact addRowE_eq h1 hK
    · cases h
  case build =>
    split at h
    · rename_i e
      rw [e]
      simp only [Option.some.injEq, Prod.mk.injEq] at h
      obtain ⟨rfl, rfl⟩ := h
      exact hK
    · cases h
  case buildSlice =>
    split at h
    · rename_i hc
      rw [if_pos hc]
      obtain ⟨h1, rfl⟩ := some_row h
      exact addRowE_eq h1 hK
    · cases h
  case store =>
    split at h
    · rename_i hc
      rw [if_pos hc]
      obtain ⟨h1, rfl⟩ := some_row h
      exact storeE_eq h1 hK
    · cases h
  case makeSlice =>
    unfold makeV
    split at h
    · rename_i e1 e2
      rw [e1, e2]
      split at h
      · rename_i hc
        obtain ⟨h1, rfl⟩ := some_row h
        have h2 := of_decide_eq_true hc
        exact ⟨h2, addRowE_eq h1 hK⟩
      · cases h
    · cases h
  case pick c a b =>
    generalize ev st c = dc at h ⊢
    cases dc <;> first | (cases h; done) | skip
    case bool b =>
      cases b <;> (simp only [boolOf, Option.some.injEq, Prod.mk.injEq] at h; obtain ⟨rfl, rfl⟩ := h)
      · exact ⟨fun h => (by cases h), fun _ => hK⟩
      · exact ⟨fun _ => hK, fun h => (by cases h)⟩
    all_goals
      (simp only [boolOf, Option.some.injEq, Prod.mk.injEq] at h; obtain ⟨rfl, rfl⟩ := h; exact hK)
  case call f xs =>
    split at h
    · rename_i g a b e
      rw [e]
      split at h
      · rename_i hk
        split at h
        · rename_i d1 rs1 e1
          refine ⟨emptyKeys_eq hk, (hC _ _ _ _ _ e1).mono ?_⟩
          rintro d' rs' ⟨rfl, rfl⟩
          exact bindRE_eq h hK
        · cases h
      · cases h
    · cases h
  case lend f xs =>
    split at h
    · rename_i g a b e
      rw [e]
      split at h
      · rename_i hk
        split at h
        · rename_i d1 rs1 e1
          split at h
          · rename_i hl
            refine ⟨emptyKeys_eq hk, (hC _ _ _ _ _ e1).mono ?_⟩
            rintro d' rs' ⟨rfl, rfl⟩
            exact ⟨lendOkB_eq hl, bindRE_eq h hK⟩
          · cases h
        · cases h
      · cases h
    · cases h
  case refs f xs =>
    split at h
    · rename_i g a b e
      rw [e]
      split at h
      · rename_i rows e0
        split at h
        · rename_i d1 rs1 e1
          refine ⟨rows, e0, (hC _ _ _ _ _ e1).mono ?_⟩
          rintro d' rs' ⟨rfl, rfl⟩
          exact bindRE_eq h hK
        · cases h
      · cases h
    · cases h
  case append esize ebytes s x =>
    unfold appendV
    split at h
    · cases h
    · rename_i m g e
      rw [contE_eq (P := P) e]
      dsimp only
      split at h
      · rename_i e1
        rw [e1]
        split at h
        · rename_i hr
          obtain ⟨h1, rfl⟩ := some_row h
          exact ⟨roomB_eq hr, addRowE_eq h1 hK⟩
        · cases h
      · rename_i e1
        rw [e1]
        split at h
        · rename_i hr
          obtain ⟨h1, rfl⟩ := some_row h
          exact ⟨hr.1, hr.2.1, hr.2.2.1, roomB_eq hr.2.2.2, addRowE_eq h1 hK⟩
        · cases h
      · rename_i e1
        rw [e1]
        split at h
        · rename_i e2
          dsimp only
          rw [e2]
          split at h
          · rename_i hr
            obtain ⟨h1, rfl⟩ := some_row h
            exact ⟨hr.1, hr.2.1, roomB_eq hr.2.2, addRowE_eq h1 hK⟩
          · cases h
        · cases h
      · cases h
  case clear es ez s =>
    unfold clearV
    split at h
    · rename_i e1
      rw [e1]
      split at h
      · rename_i e2
        dsimp only
        rw [e2]
        split at h
        · rename_i hr
          simp only [Option.some.injEq, Prod.mk.injEq] at h
          obtain ⟨rfl, rfl⟩ := h
          exact ⟨hr, hK⟩
        · cases h
      · cases h
    · cases h
end
end Go.Sx
