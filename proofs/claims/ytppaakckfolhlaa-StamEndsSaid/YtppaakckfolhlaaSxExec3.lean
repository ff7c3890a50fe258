import Derived.Test.YtppaakckfolhlaaSxExec2
namespace Go.Sx

def stepE0 (C : CallE) (o : ROper) (st : St) : Option St :=
  match quietE st o.op with
  | some v => some (st.put o.dst v)
  | none => (match loudE C (match o.dst with | some t => t | none => 999) o.op st with
    | some (d, st) => some (st.put o.dst d)
    | none => none)
def stepE (C : CallE) (o : ROper) (st : St) : Option St :=
  match o.strict with
  | false => stepE0 C o st
  | true => (match quietE st o.op with
    | some v => (match emptyKeys (keysOfL (evL st (opArgs o.op))), emptyKeys (keysOf v) with | true, true => some (st.put o.dst v) | _, _ => none)
    | none => none)
def stepGE (C : CallE) (o : ROper) (st : St) : Option St :=
  match o.guard with
  | none => stepE C o st
  | some (t, want) => (match nth st.T t with
      | .tt => (match want with | true => stepE C o st | false => some (st.put o.dst .und))
      | .ff => (match want with | true => some (st.put o.dst .und) | false => stepE C o st)
      | .bool true => (match want with | true => stepE C o ⟨setN st.T t .tt, st.σ⟩ | false => some (St.put ⟨setN st.T t .tt, st.σ⟩ o.dst .und))
      | .bool false => (match want with | true => some (St.put ⟨setN st.T t .ff, st.σ⟩ o.dst .und) | false => stepE C o ⟨setN st.T t .ff, st.σ⟩)
      | .und => some (st.put o.dst .und)
      | _ => none)
def runE (C : CallE) : List ROper → St → Option St
  | [], st => some st
  | o :: r, st => match stepGE C o st with | some st => runE C r st | none => none

section
variable {P : Program}
theorem quiet_none {st : St} {op : ROp} {q : QV} (h : quietV (std P) st op = some q) (C : CallE) (κ : Nat) : loudE C κ op st = none := by
  cases op <;> first | rfl | cases h
theorem stepE0_eq {C : CallE} (hC : CallOk P C) {o : ROper} {st st' : St} {K : St → Prop} (h : stepE0 C o st = some st') (hK : K st') : stepV0 (std P) o st K := by
  unfold stepE0 at h
  unfold stepV0
  split at h
  · rename_i v e
    obtain ⟨q, h1, h2, h3⟩ := quietE_eq (P := P) e
    rw [h1]
    obtain rfl := Option.some.inj h
    subst h3
    exact ⟨h2, hK⟩
  · cases hq : quietV (std P) st o.op with
    | some q =>
      rw [quiet_none hq] at h
      cases h
    | none =>
      dsimp only
      split at h
      · rename_i d st1 e
        obtain rfl := Option.some.inj h
        exact loudE_eq hC e hK
      · cases h
theorem stepE_eq {C : CallE} (hC : CallOk P C) {o : ROper} {st st' : St} {K : St → Prop} (h : stepE C o st = some st') (hK : K st') : stepV (std P) o st K := by
  unfold stepE at h
  unfold stepV
  split at h
  · rename_i e
    rw [e]; exact stepE0_eq hC h hK
  · rename_i e
    rw [e]
    split at h
    · rename_i v e1
      split at h
      · rename_i e2 e3
        obtain ⟨q, h1, h2, h3⟩ := quietE_eq (P := P) e1
        rw [h1]
        obtain rfl := Option.some.inj h
        subst h3
        exact ⟨emptyKeys_eq e2, emptyKeys_eq e3, h2, hK⟩
      · cases h
    · cases h
theorem stepGE_eq {C : CallE} (hC : CallOk P C) {o : ROper} {st st' : St} {K : St → Prop} (h : stepGE C o st = some st') (hK : K st') : stepG (std P) o st K := by
  unfold stepGE at h
  unfold stepG
  split at h
  · rename_i e
    rw [e]; exact stepE_eq hC h hK
  · rename_i t want e
    rw [e]
    dsimp only
    generalize hd : nth st.T t = d at h ⊢
    cases d <;> first | (cases h; done) | skip
    case bool b =>
      cases b <;> cases want <;> dsimp only at h ⊢
      · exact ⟨fun h => (by cases h), fun _ => stepE_eq hC h hK⟩
      · obtain rfl := Option.some.inj h; exact ⟨fun h => (by cases h), fun _ => hK⟩
      · obtain rfl := Option.some.inj h; exact ⟨fun _ => hK, fun h => (by cases h)⟩
      · exact ⟨fun _ => stepE_eq hC h hK, fun h => (by cases h)⟩
    case tt =>
      cases want <;> dsimp only at h ⊢
      · obtain rfl := Option.some.inj h; exact hK
      · exact stepE_eq hC h hK
    case ff =>
      cases want <;> dsimp only at h ⊢
      · exact stepE_eq hC h hK
      · obtain rfl := Option.some.inj h; exact hK
    case und => obtain rfl := Option.some.inj h; exact hK
theorem runE_eq {C : CallE} (hC : CallOk P C) : ∀ {l : List ROper} {st st' : St} {K : St → Prop}, runE C l st = some st' → K st' → runV (std P) l st K
  | [], st, st', K, h, hK => by obtain rfl := Option.some.inj h; exact hK
  | o :: r, st, st', K, h, hK => by
    simp only [runE] at h
    split at h
    · rename_i st1 e
      exact stepGE_eq hC e (runE_eq hC h hK)
    · cases h
end

/-- A function, as it is run: how many places, the code, where the results are. -/
structure Ent where
  n : Nat
  rc : RCode
  ts : List RV
abbrev Tab := FuncId → Option Ent
def resE (st : St) : List RV → Option (List DV)
  | [] => some []
  | (t, none) :: l => (match resE st l with | some r => some (nth st.T t :: r) | none => none)
  | (t, some (g, n)) :: l => (match loadVE g n st (nth st.T t), resE st l with | some d, some r => some (d :: r) | _, _ => none)
def finE (k : Nat) (ds : List DV) (st : St) : Option (DV × List Row) :=
  let F := frzF (keysOfL ds) ds
  let ds1 := viewL 100000 F st.σ ds
  let st1 := st.freeze F
  let out := outL st1.σ ds1
  match okOut out, nodupB (keysOfL ds1) with
  | true, true => (match rowsOf st1.σ 100000 k with | some rows => some (single out, rows) | none => none)
  | _, _ => none
def outE (e : Ent) (k : Nat) : Option (Ex × St) → Option (DV × List Row)
  | some (.normal, st) => (match resE st e.ts with | some ds => finE k ds st | none => none)
  | some (.ret, st) => (match resE st e.ts with | some ds => finE k ds st | none => none)
  | _ => none
def codeE (tab : Tab) : Nat → RCode → St → Option (Ex × St)
  | 0, _, _ => none
  | _ + 1, .skip, st => some (.normal, st)
  | k + 1, .region ops, st => (match runE (fun g ds rows => match tab g with | some e => outE e rows.length (codeE tab k e.rc ⟨initT e.n ds, keyed 100000 rows⟩) | none => none) ops st with
    | some st => some (.normal, st)
    | none => none)
  | k + 1, .seq a b, st => (match codeE tab k a st with
    | some (.normal, st) => codeE tab k b st
    | r => r)
  | k + 1, .seqJ a b, st => (match codeE tab k a st with
    | some (.normal, st) => codeE tab k b st
    | r => r)
  | k + 1, .cond c a b, st => (match boolOf (ev st c) with
    | some true => codeE tab k a st
    | some false => codeE tab k b st
    | none => none)
  | k + 1, .block id a, st => (match codeE tab k a st with
    | some (.exit j, st) => if j = id then some (.normal, st) else some (.exit j, st)
    | r => r)
  | k + 1, .loop a, st => (match codeE tab k a st with
    | some (.normal, st) => codeE tab k (.loop a) st
    | r => r)
  | _ + 1, .exit id, st => some (.exit id, st)
  | _ + 1, .ret, st => some (.ret, st)
  | _ + 1, .bad, _ => none
def callE (tab : Tab) (k : Nat) : CallE := fun g ds rows => match tab g with | some e => outE e rows.length (codeE tab k e.rc ⟨initT e.n ds, keyed 100000 rows⟩) | none => none

theorem resE_eq {P : Program} {st : St} : ∀ {ts : List RV} {ds : List DV}, resE st ts = some ds → resOb st ts ∧ resDs st ts = ds
  | [], ds, h => by obtain rfl := Option.some.inj h; exact ⟨trivial, rfl⟩
  | (t, none) :: l, ds, h => by
    simp only [resE] at h
    split at h
    · rename_i r e
      obtain rfl := Option.some.inj h
      obtain ⟨h1, h2⟩ := resE_eq (P := P) e
      exact ⟨h1, by simp only [resDs, h2]⟩
    · cases h
  | (t, some (g, n)) :: l, ds, h => by
    simp only [resE] at h
    split at h
    · rename_i d r e1 e
      obtain rfl := Option.some.inj h
      obtain ⟨h1, h2⟩ := resE_eq (P := P) e
      obtain ⟨h3, h4⟩ := loadVE_eq e1
      exact ⟨⟨h3, h1⟩, by simp only [resDs, h2, h4]⟩
    · cases h
theorem finE_eq {k : Nat} {ds : List DV} {st : St} {d : DV} {rs : List Row} {Q : DV → List Row → Prop} (h : finE k ds st = some (d, rs)) (hQ : Q d rs) : finish k Q ds st := by
  unfold finE at h
  unfold finish
  dsimp only at h ⊢
  split at h
  · rename_i e1 e2
    rw [if_pos e1, if_pos e2]
    split at h
    · rename_i rows e3
      rw [e3]
      simp only [Option.some.injEq, Prod.mk.injEq] at h
      obtain ⟨rfl, rfl⟩ := h
      exact hQ
    · cases h
  · cases h

/-! A loop's heads keep all. -/
theorem keepT_self {live keys : List Nat} : ∀ {l : List DV} {i : Nat}, (∀ t, i ≤ t → t < i + l.length → mem live t = true) → (∀ k ∈ keysOfL l, mem keys k = true) → keepT live keys i l = l
  | [], _, _, _ => rfl
  | d :: l, i, h1, h2 => by
    have hs : ∀ ks : List Nat, (∀ k ∈ ks, mem keys k = true) → subset ks keys = true := by
      intro ks
      induction ks with
      | nil => intro _; rfl
      | cons k ks ih =>
        intro h
        simp only [subset]
        rw [if_pos (h k (by simp))]
        exact ih (fun k' hk' => h k' (by simp [hk']))
    simp only [keepT]
    rw [if_pos (h1 i (Nat.le_refl _) (by simp)), if_pos (hs _ (fun k hk => h2 k (by simp only [keysOfL, List.mem_append]; exact .inl hk))),
      keepT_self (fun t a b => h1 t (by omega) (by simp only [List.length_cons]; omega)) (fun k hk => h2 k (by simp only [keysOfL, List.mem_append]; exact .inr hk))]
theorem keepS_self {keys : List Nat} : ∀ {s : Store}, (∀ k ∈ keysS s, mem keys k = true) → keepS keys s = s
  | [], _ => rfl
  | (k, r) :: s, h => by
    simp only [keepS]
    rw [if_pos (h k (by simp [keysS])), keepS_self (fun k' hk' => h k' (by simp [keysS, hk']))]
theorem mem_of {l : List Nat} {k : Nat} (h : k ∈ l) : mem l k = true := by
  induction l with
  | nil => cases h
  | cons a l ih =>
    simp only [mem]
    split
    · rfl
    · rename_i hne
      rcases List.mem_cons.1 h with e | e
      · exact absurd e.symm hne
      · exact ih e
def heads (tab : Tab) (a : RCode) : Nat → St → List St
  | 0, st => [st]
  | k + 1, st => st :: (match codeE tab k a st with
    | some (.normal, st) => heads tab a k st
    | _ => [])
def allKeys : List St → List Nat
  | [] => []
  | st :: l => keysOfL st.T ++ keysS st.σ ++ allKeys l
def maxLen' : List St → Nat
  | [] => 0
  | st :: l => Nat.max st.T.length (maxLen' l)
theorem allKeys_mem {l : List St} {s : St} (h : s ∈ l) {k : Nat} (hk : k ∈ keysOfL s.T ∨ k ∈ keysS s.σ) : k ∈ allKeys l := by
  induction l with
  | nil => cases h
  | cons a l ih =>
    simp only [allKeys, List.mem_append]
    rcases List.mem_cons.1 h with e | e
    · subst e; exact .inl hk
    · exact .inr (ih e)
theorem maxLen_le {l : List St} {s : St} (h : s ∈ l) : s.T.length ≤ maxLen' l := by
  induction l with
  | nil => cases h
  | cons a l ih =>
    simp only [maxLen']
    rcases List.mem_cons.1 h with e | e
    · subst e; exact Nat.le_max_left _ _
    · exact Nat.le_trans (ih e) (Nat.le_max_right _ _)
theorem restr_self {l : List St} {s : St} (h : s ∈ l) : s.restr (List.range (maxLen' l)) (allKeys l) = s := by
  have h1 := keepT_self (live := List.range (maxLen' l)) (keys := allKeys l) (l := s.T) (i := 0) (fun t _ ht => mem_of (by have := maxLen_le h; simp; omega)) (fun k hk => mem_of (allKeys_mem h (.inl hk)))
  have h2 := keepS_self (keys := allKeys l) (s := s.σ) (fun k hk => mem_of (allKeys_mem h (.inr hk)))
  simp only [St.restr, h1, h2]

/-- What a table holds is what the program's functions are. -/
def TabIs (P : Program) (tab : Tab) : Prop := ∀ g e, tab g = some e → ∃ (md : Modes) (fn : Func) (body : Code), P.funcs[g]? = some fn ∧ (fn.name == "runtime.NumGoroutine") = false ∧ fn.body = some body ∧ fn.ntmps = e.n ∧ cRes P fn.results.toList = some e.ts ∧ okDraw P md body = true ∧ e.rc = comp P md body

section
variable {P : Program} {tab : Tab}
theorem codeE_eq (hm : P.follows .mixedOrders = true) (ht : TabIs P tab) : ∀ (k : Nat), (∀ (c : RCode) (st st' : St) (x : Ex) (Q : Ex → St → Prop), codeE tab k c st = some (x, st') → Q x st' → wps (std P) c Q st) ∧ CallOk P (callE tab k) := by
  intro k
  induction k using Nat.strongRecOn with
  | _ k ih =>
    have hcode : ∀ (c : RCode) (st st' : St) (x : Ex) (Q : Ex → St → Prop), codeE tab k c st = some (x, st') → Q x st' → wps (std P) c Q st := by
      cases k with
      | zero => intro c st st' x Q h; cases h
      | succ k =>
        have ihk := ih k (Nat.lt_succ_self _)
        intro c st st' x Q h hQ
        cases c with
        | skip =>
          simp only [codeE, Option.some.injEq, Prod.mk.injEq] at h
          obtain ⟨rfl, rfl⟩ := h
          exact hQ
        | exit id =>
          simp only [codeE, Option.some.injEq, Prod.mk.injEq] at h
          obtain ⟨rfl, rfl⟩ := h
          exact hQ
        | ret =>
          simp only [codeE, Option.some.injEq, Prod.mk.injEq] at h
          obtain ⟨rfl, rfl⟩ := h
          exact hQ
        | bad => cases h
        | region ops =>
          simp only [codeE] at h
          split at h
          · rename_i st1 e
            simp only [Option.some.injEq, Prod.mk.injEq] at h
            obtain ⟨rfl, rfl⟩ := h
            exact runE_eq ihk.2 e hQ
          · cases h
        | seq a b =>
          simp only [codeE] at h
          simp only [wps]
          split at h
          · rename_i st1 e
            exact ihk.1 a st st1 .normal _ e (ihk.1 b st1 st' x Q h hQ)
          · rename_i hne
            refine ihk.1 a st st' x _ h ?_
            cases x with
            | normal => exact absurd h (hne st')
            | exit j => exact hQ
            | ret => exact hQ
        | seqJ a b =>
          simp only [codeE] at h
          simp only [wps]
          split at h
          · rename_i st1 e
            exact ihk.1 a st st1 .normal _ e (.inl (ihk.1 b st1 st' x Q h hQ))
          · rename_i hne
            refine ihk.1 a st st' x _ h ?_
            cases x with
            | normal => exact absurd h (hne st')
            | exit j => exact hQ
            | ret => exact hQ
        | cond c a b =>
          simp only [codeE] at h
          simp only [wps]
          generalize ev st c = d at h ⊢
          cases d <;> first | (cases h; done) | skip
          case tt => exact ihk.1 a st st' x Q h hQ
          case ff => exact ihk.1 b st st' x Q h hQ
          case bool t =>
            cases t
            · exact ⟨fun h => (by cases h), fun _ => ihk.1 b st st' x Q h hQ⟩
            · exact ⟨fun _ => ihk.1 a st st' x Q h hQ, fun h => (by cases h)⟩
        | block id a =>
          simp only [codeE] at h
          simp only [wps]
          split at h
          · rename_i j st1 e
            refine ihk.1 a st st1 (.exit j) _ e ?_
            simp only [blockK]
            split at h
            · rename_i hj
              rw [if_pos hj]
              simp only [Option.some.injEq, Prod.mk.injEq] at h
              obtain ⟨rfl, rfl⟩ := h
              exact hQ
            · rename_i hj
              rw [if_neg hj]
              simp only [Option.some.injEq, Prod.mk.injEq] at h
              obtain ⟨rfl, rfl⟩ := h
              exact hQ
          · rename_i hne
            refine ihk.1 a st st' x _ h ?_
            cases x with
            | exit j => exact absurd h (hne j st')
            | normal => exact hQ
            | ret => exact hQ
        | loop a =>
          simp only [wps]
          have sub : ∀ (m : Nat) (s : St), codeE tab (m + 1) (.loop a) s = some (x, st') → ∀ s1, codeE tab m a s = some (.normal, s1) → codeE tab m (.loop a) s1 = some (x, st') ∧ ∀ y ∈ heads tab a m s1, y ∈ heads tab a (m + 1) s := by
            intro m s hs s1 e
            simp only [codeE, e] at hs
            refine ⟨hs, fun y hy => ?_⟩
            simp only [heads, e]
            exact List.mem_cons_of_mem _ hy
          have self : ∀ (m : Nat) (s : St), s ∈ heads tab a m s := by
            intro m s; cases m <;> simp [heads]
          refine ⟨List.range (maxLen' (heads tab a (k + 1) st)), allKeys (heads tab a (k + 1) st), [], fun m s => m ≤ k + 1 ∧ codeE tab m (.loop a) s = some (x, st') ∧ ∀ y ∈ heads tab a m s, y ∈ heads tab a (k + 1) st, ⟨k + 1, ?_⟩, ?_⟩
          · simp only [St.nilrows]
            rw [restr_self (self _ _)]
            exact ⟨Nat.le_refl _, h, fun y hy => hy⟩
          · rintro m s ⟨hle, h1, h2⟩
            cases m with
            | zero => cases h1
            | succ m =>
              have ihm := ih m (by omega)
              have h1' := h1
              simp only [codeE] at h1
              split at h1
              · rename_i s1 e
                obtain ⟨h3, h4⟩ := sub m s h1' s1 e
                refine ihm.1 a s s1 .normal _ e ?_
                refine ⟨m, by omega, ?_⟩
                simp only [St.nilrows]
                rw [restr_self (h2 _ (h4 _ (self _ _)))]
                exact ⟨by omega, h3, fun y hy => h2 y (h4 y hy)⟩
              · rename_i hne
                refine ihm.1 a s st' x _ h1 ?_
                cases x with
                | normal => exact absurd h1 (hne st')
                | exit j => exact hQ
                | ret => exact hQ
    refine ⟨hcode, ?_⟩
    intro g ds rows d rs h
    simp only [callE] at h
    split at h
    · rename_i e he
      obtain ⟨md, fn, body, h1, h2, h3, h4, h5, h6, h7⟩ := ht g e he
      refine fn_of_wps h1 h2 h3 h4 h5 hm h6 ?_
      rw [← h7]
      have fin : ∀ {s : St}, (match resE s e.ts with | some ds => finE rows.length ds s | none => none) = some (d, rs) → resOb s e.ts ∧ finish rows.length (fun d' rs' => d' = d ∧ rs' = rs) (resDs s e.ts) s := by
        intro s h
        split at h
        · rename_i ds1 e1
          obtain ⟨a1, a2⟩ := resE_eq (P := P) e1
          rw [a2]
          exact ⟨a1, finE_eq h ⟨rfl, rfl⟩⟩
        · cases h
      generalize hr : codeE tab k e.rc ⟨initT e.n ds, keyed 100000 rows⟩ = r at h
      unfold outE at h
      split at h
      · exact hcode _ _ _ .normal _ hr (fin h)
      · exact hcode _ _ _ .ret _ hr (fin h)
      · cases h
    · cases h
/-- What a call comes to. -/
theorem fn_run (hm : P.follows .mixedOrders = true) (ht : TabIs P tab) (k : Nat) {g : FuncId} {ds : List DV} {rows : List Row} {d : DV} {rs : List Row} (h : callE tab k g ds rows = some (d, rs)) : Fn P g ds rows fun d' rs' => d' = d ∧ rs' = rs :=
  (codeE_eq hm ht k).2 g ds rows d rs h
end
end Go.Sx
