import Derived.Test.YtppaakckfolhlaaSxFn
namespace Go.Sx

/-- Truth told one way. -/
def norm1 : DV → DV
  | .tt => .bool true
  | .ff => .bool false
  | d => d
def normL : List DV → List DV
  | [] => []
  | d :: l => norm1 d :: normL l
def normD : DV → DV
  | .tup l => .tup (normL l)
  | d => norm1 d
theorem nth_normL (l : List DV) (j : Nat) : nth (normL l) j = norm1 (nth l j) := by
  induction l generalizing j with
  | nil => rfl
  | cons d l ih => cases j with
    | zero => rfl
    | succ j => exact ih j
theorem normL_length (l : List DV) : (normL l).length = l.length := by induction l <;> simp [normL, *]
theorem ResAt.norm {I : Imm} {β : Nat → Option Loc} {n0 : Nat} {w : World} {l : Loc} {d : DV} {v : Value} (h : ResAt I β n0 w l d v) : ResAt I β n0 w l (norm1 d) v := by
  cases d <;> first
    | exact h
    | (cases h; exact Rep.bool _)
theorem fresh_norm (d : DV) : isFresh (norm1 d) = isFresh d := by cases d <;> rfl
theorem Res.norm {I : Imm} {β : Nat → Option Loc} {n0 : Nat} {w : World} {d : DV} {v : Value} (h : Res I β n0 w d v) : Res I β n0 w (normD d) v := by
  have plain : (∀ ds, d ≠ .tup ds) → normD d = norm1 d → Res I β n0 w (normD d) v := by
    intro ht e
    have hr : ∃ l, ResAt I β n0 w l d v := by cases d <;> first | exact (ht _ rfl).elim | exact h
    obtain ⟨l, hr⟩ := hr
    have := hr.norm
    rw [e]
    cases d <;> first | exact (ht _ rfl).elim | exact ⟨l, this⟩
  cases d with
  | tup ds =>
    obtain ⟨vs, ls, h1, h2, h3, h4⟩ := h
    refine ⟨vs, ls, h1, by rw [normL_length]; exact h2, fun j hj => ?_, fun i j b hi hj hij hfi hfj => ?_⟩
    · rw [nth_normL]; rw [normL_length] at hj; exact (h3 j hj).norm
    · rw [nth_normL, fresh_norm] at hfi hfj
      rw [normL_length] at hi hj
      exact h4 i j b hi hj hij hfi hfj
  | _ => exact plain (fun ds h => by cases h) rfl

theorem Fn.norm {P : Program} {g : FuncId} {ds : List DV} {rows : List Row} {Q : DV → List Row → Prop} (h : Fn P g ds rows fun d rs => Q (normD d) rs) : Fn P g ds rows Q := by
  refine ⟨h.1, fun w I vs β h1 h2 h3 h4 => ?_⟩
  refine (h.2 w I vs β h1 h2 h3 h4).mono ?_
  rintro e w' ⟨v, d, rows', I', a1, a2, a3, a4, a5, a6, a7, a8, a9⟩
  exact ⟨v, normD d, rows', I', a1, a2, a3, a4, a5.norm, a6, a7, a8, a9⟩

/-- Truth told the other way. -/
def den1 : DV → DV
  | .bool true => .tt
  | .bool false => .ff
  | d => d
def denL : List DV → List DV
  | [] => []
  | d :: l => den1 d :: denL l
def denD : DV → DV
  | .tup l => .tup (denL l)
  | d => den1 d
theorem nth_denL (l : List DV) (j : Nat) : nth (denL l) j = den1 (nth l j) := by
  induction l generalizing j with
  | nil => rfl
  | cons d l ih => cases j with
    | zero => rfl
    | succ j => exact ih j
theorem denL_length (l : List DV) : (denL l).length = l.length := by induction l <;> simp [denL, *]
theorem ResAt.den {I : Imm} {β : Nat → Option Loc} {n0 : Nat} {w : World} {l : Loc} {d : DV} {v : Value} (h : ResAt I β n0 w l d v) : ResAt I β n0 w l (den1 d) v := by
  cases d <;> first
    | exact h
    | (rename_i b; cases b <;> (cases h; constructor))
theorem fresh_den (d : DV) : isFresh (den1 d) = isFresh d := by
  cases d <;> first | rfl | (rename_i b; cases b <;> rfl)
theorem Res.den {I : Imm} {β : Nat → Option Loc} {n0 : Nat} {w : World} {d : DV} {v : Value} (h : Res I β n0 w d v) : Res I β n0 w (denD d) v := by
  have plain : (∀ ds, d ≠ .tup ds) → denD d = den1 d → Res I β n0 w (denD d) v := by
    intro ht e
    have hr : ∃ l, ResAt I β n0 w l d v := by cases d <;> first | exact (ht _ rfl).elim | exact h
    obtain ⟨l, hr⟩ := hr
    have := hr.den
    rw [e]
    cases d <;> first | exact (ht _ rfl).elim | exact ⟨l, this⟩ | skip
    rename_i b
    cases b <;> exact ⟨l, this⟩
  cases d with
  | tup ds =>
    obtain ⟨vs, ls, h1, h2, h3, h4⟩ := h
    refine ⟨vs, ls, h1, by rw [denL_length]; exact h2, fun j hj => ?_, fun i j b hi hj hij hfi hfj => ?_⟩
    · rw [nth_denL]; rw [denL_length] at hj; exact (h3 j hj).den
    · rw [nth_denL, fresh_den] at hfi hfj
      rw [denL_length] at hi hj
      exact h4 i j b hi hj hij hfi hfj
  | _ => exact plain (fun ds h => by cases h) rfl
theorem Fn.den {P : Program} {g : FuncId} {ds : List DV} {rows : List Row} {Q : DV → List Row → Prop} (h : Fn P g ds rows Q) : Fn P g ds rows fun d rs => ∃ e, d = denD e ∧ Q e rs := by
  refine ⟨h.1, fun w I vs β h1 h2 h3 h4 => ?_⟩
  refine (h.2 w I vs β h1 h2 h3 h4).mono ?_
  rintro e w' ⟨v, d, rows', I', a1, a2, a3, a4, a5, a6, a7, a8, a9⟩
  exact ⟨v, denD d, rows', I', a1, a2, a3, a4, a5.den, a6, a7, a8, d, rfl, a9⟩
/-- A result that is nil, told as an empty row; sizes by place, 0: it stays. -/
def nil1 (c : Nat × (Nat → DV)) (d : DV) : DV := match c with | (0, _) => d | (k + 1, f) => (match d with | .nils => .own (k + 1) 0 f | d => d)
def nilL : List (Nat × (Nat → DV)) → List DV → List DV
  | sz :: c, d :: l => nil1 sz d :: nilL c l
  | [], l => l
  | _, [] => []
def nilD (c : List (Nat × (Nat → DV))) : DV → DV
  | .tup l => .tup (nilL c l)
  | d => (match c with | sz :: _ => nil1 sz d | [] => d)
theorem nilL_length : ∀ (c : List (Nat × (Nat → DV))) (l : List DV), (nilL c l).length = l.length
  | sz :: c, d :: l => by simp [nilL, nilL_length c l]
  | [], l => by simp [nilL]
  | _ :: _, [] => by simp [nilL]
theorem nth_nilL : ∀ (c : List (Nat × (Nat → DV))) (l : List DV) (j : Nat), ∃ sz, nth (nilL c l) j = nil1 sz (nth l j)
  | sz :: c, d :: l, 0 => ⟨sz, rfl⟩
  | sz :: c, d :: l, j + 1 => nth_nilL c l j
  | [], l, j => ⟨(0, fun _ => .junk), by simp [nilL, nil1]⟩
  | _ :: _, [], j => ⟨(0, fun _ => .junk), by simp [nilL, nil1]⟩
theorem ResAt.nil {I : Imm} {β : Nat → Option Loc} {n0 : Nat} {w : World} {l : Loc} {d : DV} {v : Value} (sz : Nat × (Nat → DV)) (h : ResAt I β n0 w l d v) : ∃ l', ResAt I β n0 w l' (nil1 sz d) v ∧ (l' = l ∨ l'.blk = none) ∧ (isFresh (nil1 sz d) = true → isFresh d = true ∨ l'.blk = none) := by
  unfold nil1
  split
  · exact ⟨l, h, .inl rfl, fun h => .inl h⟩
  · rename_i k f
    split
    · refine ⟨⟨none, 0, k + 1, 0, 0⟩, ?_, .inr rfl, fun _ => .inr rfl⟩
      have h' : Rep I .nils v := h
      cases h'
      exact ⟨⟨rfl, rfl, Nat.succ_pos _, (fun b hb => by cases hb), fun _ => rfl⟩, .refnil 0 ⟨none, 0, k + 1, 0, 0⟩ none rfl rfl, fun b hb => by cases hb⟩
    · exact ⟨l, h, .inl rfl, fun h => .inl h⟩
theorem Res.nil {I : Imm} {β : Nat → Option Loc} {n0 : Nat} {w : World} {d : DV} {v : Value} (c : List (Nat × (Nat → DV))) (h : Res I β n0 w d v) : Res I β n0 w (nilD c d) v := by
  have plain : (∀ ds, d ≠ .tup ds) → (∃ sz, nilD c d = nil1 sz d) → Res I β n0 w (nilD c d) v := by
    rintro ht ⟨sz, e⟩
    have hr : ∃ l, ResAt I β n0 w l d v := by cases d <;> first | exact (ht _ rfl).elim | exact h
    obtain ⟨l, hr⟩ := hr
    obtain ⟨l', h1, _⟩ := hr.nil sz
    rw [e]
    have hn : ∀ ds, nil1 sz d ≠ .tup ds := by
      intro ds
      unfold nil1
      split
      · exact ht ds
      · split
        · intro h; cases h
        · exact ht ds
    generalize nil1 sz d = d' at h1 hn
    cases d' <;> first | exact (hn _ rfl).elim | exact ⟨l', h1⟩
  by_cases ht : ∃ ds, d = .tup ds
  · obtain ⟨ds, rfl⟩ := ht
    obtain ⟨vs, ls, h1, h2, h3, h4⟩ := h
    have hat : ∀ j < ds.length, ∃ l', ResAt I β n0 w l' (nth (nilL c ds) j) (vs.getD j undef) ∧ (l' = ls j ∨ l'.blk = none) ∧ (isFresh (nth (nilL c ds) j) = true → isFresh (nth ds j) = true ∨ l'.blk = none) := by
      intro j hj
      obtain ⟨sz, e⟩ := nth_nilL c ds j
      rw [e]
      exact (h3 j hj).nil sz
    open Classical in
    refine ⟨vs, fun j => if h : j < ds.length then (hat j h).choose else ls j, h1, by rw [nilL_length]; exact h2, fun j hj => ?_, fun i j b hi hj hij hfi hfj hbi => ?_⟩
    · rw [nilL_length] at hj
      dsimp only
      rw [dif_pos hj]
      exact (hat j hj).choose_spec.1
    · rw [nilL_length] at hi hj
      dsimp only at hbi ⊢
      rw [dif_pos hi] at hbi
      rw [dif_pos hj]
      obtain ⟨-, a1, a2⟩ := (hat i hi).choose_spec
      obtain ⟨-, b1, b2⟩ := (hat j hj).choose_spec
      intro hbj
      rcases a2 hfi with a3 | a3
      · rcases b2 hfj with b3 | b3
        · rcases a1 with a1 | a1
          · rcases b1 with b1 | b1
            · rw [a1] at hbi; rw [b1] at hbj; exact h4 i j b hi hj hij a3 b3 hbi hbj
            · rw [b1] at hbj; cases hbj
          · rw [a1] at hbi; cases hbi
        · rw [b3] at hbj; cases hbj
      · rw [a3] at hbi; cases hbi
  · refine plain (fun ds e => ht ⟨ds, e⟩) ?_
    cases d <;> first | exact (ht ⟨_, rfl⟩).elim | skip
    all_goals (cases c <;> first | exact ⟨_, rfl⟩ | exact ⟨(0, fun _ => .junk), rfl⟩)
theorem Fn.nil {P : Program} {g : FuncId} {ds : List DV} {rows : List Row} {Q : DV → List Row → Prop} (c : List (Nat × (Nat → DV))) (h : Fn P g ds rows Q) : Fn P g ds rows fun d rs => ∃ e, d = nilD c e ∧ Q e rs := by
  refine ⟨h.1, fun w I vs β h1 h2 h3 h4 => ?_⟩
  refine (h.2 w I vs β h1 h2 h3 h4).mono ?_
  rintro e w' ⟨v, d, rows', I', a1, a2, a3, a4, a5, a6, a7, a8, a9⟩
  exact ⟨v, nilD c d, rows', I', a1, a2, a3, a4, a5.nil c, a6, a7, a8, d, rfl, a9⟩
/-- The same for arguments that say more. -/
theorem Fn.sub {P : Program} {g : FuncId} {ds ds' : List DV} {rows : List Row} {Q : DV → List Row → Prop} (h : Fn P g ds rows Q) (hl : ds'.length = ds.length)
    (hs : ∀ j < ds.length, ∀ I β v, RepK I β (nth ds' j) v → RepK I β (nth ds j) v) : Fn P g ds' rows Q := by
  refine ⟨h.1, fun w I vs β h1 h2 h3 h4 => ?_⟩
  exact h.2 w I vs β h1 (by rw [h2, hl]) (fun j hj => hs j hj I β _ (h3 j (by rw [hl]; exact hj))) h4
theorem nil_lst {I : Imm} {β : Nat → Option Loc} {sz : Nat} {t : Bool} {f : Nat → DV} {v : Value} (hsz : 0 < sz) (h : RepK I β .nils v) : RepK I β (.lst sz t 0 f) v := by
  cases h with
  | pure hr =>
    cases hr
    exact .pure (Rep.lst sz t 0 f none 0 0 0 (fun _ _ => undef) hsz (Nat.le_refl _) (fun _ => rfl) (fun h => absurd h (Nat.lt_irrefl _)) (fun i hi => absurd hi (Nat.not_lt_zero _)) (fun i j hi => absurd hi (Nat.not_lt_zero _)) (fun i j hi => absurd hi (Nat.not_lt_zero _)))
theorem fn_of {P : Program} {md : Modes} {g : FuncId} {fn : Func} {body : Code} (ts : List RV) (n : Nat) (hf : P.funcs[g]? = some fn) (hname : (fn.name == "runtime.NumGoroutine") = false) (hb : fn.body = some body) (hnt : fn.ntmps = n)
    (hres : cRes P fn.results.toList = some ts) (hm : P.follows .mixedOrders = true) (hd : okDraw P md body = true) {ds : List DV} {rows : List Row} {Q : DV → List Row → Prop}
    (h : ∀ (L : Leafs), (∀ {α : Type} (x : Lf α), L x = std P x) → ∀ Q' : DV → List Row → Prop, (∀ d rs, Q (normD d) rs → Q' d rs) → wps L (comp P md body) (retQ ts rows.length Q') ⟨initT n ds, keyed 100000 rows⟩) : Fn P g ds rows Q :=
  Fn.norm (fn_of_wps hf hname hb hnt hres hm hd (h (std P) (fun _ => rfl) _ (fun _ _ h => h)))

def resT (P : Program) (l : List ResultVar) : List RV := match cRes P l with | some r => r | none => []
def allRes (P : Program) (l : List ResultVar) : Bool := match cRes P l with | some _ => true | none => false
theorem resT_all {P : Program} {l : List ResultVar} (h : allRes P l = true) : cRes P l = some (resT P l) := by
  unfold allRes at h
  unfold resT
  split at h
  · rename_i r hr; rw [hr]
  · cases h
/-- The same, the places of the results read off. -/
theorem fn_at {P : Program} {md : Modes} {g : FuncId} {fn : Func} {body : Code} (hf : P.funcs[g]? = some fn) (hname : (fn.name == "runtime.NumGoroutine") = false) (hb : fn.body = some body)
    (hres : allRes P fn.results.toList = true) (hm : P.follows .mixedOrders = true) (hd : okDraw P md body = true) {ds : List DV} {rows : List Row} {Q : DV → List Row → Prop}
    (h : ∀ (L : Leafs), (∀ {α : Type} (x : Lf α), L x = std P x) → ∀ Q' : DV → List Row → Prop, (∀ d rs, Q (normD d) rs → Q' d rs) → wps L (comp P md body) (retQ (resT P fn.results.toList) rows.length Q') ⟨initT fn.ntmps ds, keyed 100000 rows⟩) : Fn P g ds rows Q :=
  fn_of (resT P fn.results.toList) fn.ntmps hf hname hb rfl (resT_all hres) hm hd h

/-- Places and their data; nothing is known of the rest. -/
def getA : List (Nat × DV) → Nat → DV
  | [], _ => .junk
  | (k, v) :: l, t => if k = t then v else getA l t
def mkT : Nat → Nat → List (Nat × DV) → List DV
  | 0, _, _ => []
  | n + 1, t, l => getA l t :: mkT n (t + 1) l
def keysA : List (Nat × DV) → List Nat
  | [] => []
  | (k, _) :: l => k :: keysA l
def keysS : Store → List Nat
  | [] => []
  | (k, _) :: l => k :: keysS l
/-- Do two states agree there? -/
def SameT (T : List DV) : List (Nat × DV) → Prop
  | [] => True
  | (k, v) :: l => nth T k = v ∧ SameT T l
def SameS (σ : Store) : Store → Prop
  | [] => True
  | (k, r) :: l => look σ k = some r ∧ SameS σ l

theorem loop_i {L : Leafs} {a : RCode} {Q : Ex → St → Prop} {st : St} {G : Type} (live keys : List Nat) (ns : List (Nat × Nat × Nat × (Nat → DV))) (N : Nat) (tm : G → List (Nat × DV)) (σ : G → Store) (p : G → Prop) (μ : G → Nat) (g0 : G) (hp : p g0)
    (h0 : (st.nilrows ns).restr live keys = ⟨mkT N 0 (tm g0), σ g0⟩)
    (hround : ∀ g, p g → wps L a (seqK (fun st' => ∃ g', μ g' < μ g ∧ p g' ∧ (st'.nilrows ns).restr live keys = ⟨mkT N 0 (tm g'), σ g'⟩) Q) ⟨mkT N 0 (tm g), σ g⟩) :
    ∃ (live keys : List Nat) (ns : List (Nat × Nat × Nat × (Nat → DV))) (I : Nat → St → Prop), (∃ m, I m ((st.nilrows ns).restr live keys)) ∧ ∀ m st', I m st' → wps L a (seqK (fun st'' => ∃ m', m' < m ∧ I m' ((st''.nilrows ns).restr live keys)) Q) st' := by
  refine ⟨live, keys, ns, fun m s => ∃ g, m = μ g ∧ p g ∧ s = ⟨mkT N 0 (tm g), σ g⟩, ⟨μ g0, g0, rfl, hp, h0⟩, ?_⟩
  rintro m st' ⟨g, rfl, hpg, rfl⟩
  have e : (seqK (fun st'' => ∃ m', m' < μ g ∧ ∃ g', m' = μ g' ∧ p g' ∧ (st''.nilrows ns).restr live keys = ⟨mkT N 0 (tm g'), σ g'⟩) Q) = seqK (fun st' => ∃ g', μ g' < μ g ∧ p g' ∧ (st'.nilrows ns).restr live keys = ⟨mkT N 0 (tm g'), σ g'⟩) Q := by
    congr 1
    funext s
    apply propext
    constructor
    · rintro ⟨m', h1, g', rfl, h2, h3⟩; exact ⟨g', h1, h2, h3⟩
    · rintro ⟨g', h1, h2, h3⟩; exact ⟨μ g', h1, g', rfl, h2, h3⟩
  rw [e]
  exact hround g hpg

/-- Two lists of data are the same, place by place. -/
def AgT : List DV → List DV → Prop
  | [], [] => True
  | .junk :: l, .junk :: m => AgT l m
  | d :: l, e :: m => d = e ∧ AgT l m
  | _, _ => False
def AgR : Row → Row → Prop
  | .arr sz n f, .arr sz' n' f' => sz = sz' ∧ n = n' ∧ f = f'
  | .box sz d, .box sz' d' => sz = sz' ∧ d = d'
  | _, _ => False
def AgS : Store → Store → Prop
  | [], [] => True
  | (k, r) :: l, (k', r') :: m => k = k' ∧ AgR r r' ∧ AgS l m
  | _, _ => False
theorem AgT.eq : ∀ {l m : List DV}, AgT l m → l = m
  | [], [], _ => rfl
  | d :: l, e :: m, h => by
    by_cases hj : d = .junk ∧ e = .junk
    · obtain ⟨rfl, rfl⟩ := hj
      rw [AgT.eq (l := l) (m := m) h]
    · have : d = e ∧ AgT l m := by
        cases d <;> first | exact h | (cases e <;> first | exact absurd ⟨rfl, rfl⟩ hj | exact h)
      rw [this.1, AgT.eq this.2]
  | [], _ :: _, h => h.elim
  | _ :: _, [], h => by cases ‹DV› <;> exact h.elim
theorem AgR.eq : ∀ {r q : Row}, AgR r q → r = q
  | .arr _ _ _, .arr _ _ _, ⟨rfl, rfl, rfl⟩ => rfl
  | .box _ _, .box _ _, ⟨rfl, rfl⟩ => rfl
  | .arr _ _ _, .box _ _, h => h.elim
  | .box _ _, .arr _ _ _, h => h.elim
theorem AgS.eq : ∀ {l m : Store}, AgS l m → l = m
  | [], [], _ => rfl
  | (k, r) :: l, (k', r') :: m, h => by rw [h.1, h.2.1.eq, AgS.eq h.2.2]
  | [], _ :: _, h => h.elim
  | _ :: _, [], h => h.elim
/-- A state, seen at a loop's head. -/
def Head (live keys : List Nat) (st : St) (N : Nat) (l : List (Nat × DV)) (σ : Store) : Prop := AgT (keepT live keys 0 st.T) (mkT N 0 l) ∧ AgS (keepS keys st.σ) σ
theorem head_iff {live keys : List Nat} {N : Nat} {st : St} {l : List (Nat × DV)} {s : Store} : Head live keys st N l s = (st.restr live keys = ⟨mkT N 0 l, s⟩) := by
  apply propext
  constructor
  · rintro ⟨h1, h2⟩; simp only [St.restr, h1.eq, h2.eq]
  · intro h
    have refl : ∀ l : List DV, AgT l l := by
      intro l
      induction l with
      | nil => trivial
      | cons d l ih => cases d <;> first | exact ih | exact ⟨rfl, ih⟩
    have reflS : ∀ s : Store, AgS s s := by
      intro s
      induction s with
      | nil => trivial
      | cons q s ih => obtain ⟨k, r⟩ := q; refine ⟨rfl, ?_, ih⟩; cases r <;> simp [AgR]
    have h1 : keepT live keys 0 st.T = mkT N 0 l := congrArg St.T h
    have h2 : keepS keys st.σ = s := congrArg St.σ h
    exact ⟨by rw [h1]; exact refl _, by rw [h2]; exact reflS _⟩
/-- A loop; places ns that may hold nil are seen as empty rows at its head. -/
theorem loop_n {L : Leafs} {a : RCode} {Q : Ex → St → Prop} {st : St} {G : Type} (live keys : List Nat) (ns : List (Nat × Nat × Nat × (Nat → DV))) (N : Nat) (tm : G → List (Nat × DV)) (σ : G → Store) (p : G → Prop) (μ : G → Nat) (g0 : G) (hp : p g0)
    (h0 : Head live keys (st.nilrows ns) N (tm g0) (σ g0))
    (hround : ∀ g, p g → wps L a (seqK (fun st' => ∃ g', μ g' < μ g ∧ p g' ∧ Head live keys (st'.nilrows ns) N (tm g') (σ g')) Q) ⟨mkT N 0 (tm g), σ g⟩) :
    ∃ (live keys : List Nat) (ns : List (Nat × Nat × Nat × (Nat → DV))) (I : Nat → St → Prop), (∃ m, I m ((st.nilrows ns).restr live keys)) ∧ ∀ m st', I m st' → wps L a (seqK (fun st'' => ∃ m', m' < m ∧ I m' ((st''.nilrows ns).restr live keys)) Q) st' := by
  refine loop_i live keys ns N tm σ p μ g0 hp (by rw [← head_iff]; exact h0) (fun g hg => ?_)
  simp only [← head_iff]
  exact hround g hg
theorem loop_j {L : Leafs} {a : RCode} {Q : Ex → St → Prop} {st : St} {G : Type} (live keys : List Nat) (N : Nat) (tm : G → List (Nat × DV)) (σ : G → Store) (p : G → Prop) (μ : G → Nat) (g0 : G) (hp : p g0)
    (h0 : Head live keys st N (tm g0) (σ g0))
    (hround : ∀ g, p g → wps L a (seqK (fun st' => ∃ g', μ g' < μ g ∧ p g' ∧ Head live keys st' N (tm g') (σ g')) Q) ⟨mkT N 0 (tm g), σ g⟩) :
    ∃ (live keys : List Nat) (ns : List (Nat × Nat × Nat × (Nat → DV))) (I : Nat → St → Prop), (∃ m, I m ((st.nilrows ns).restr live keys)) ∧ ∀ m st', I m st' → wps L a (seqK (fun st'' => ∃ m', m' < m ∧ I m' ((st''.nilrows ns).restr live keys)) Q) st' :=
  loop_n live keys [] N tm σ p μ g0 hp h0 hround

theorem brI {P : Program} {L : Leafs} (hL : ∀ {α : Type} (x : Lf α), L x = std P x) {b : Bool} {A B : Unit → Prop} (h1 : b = true → A ()) (h2 : b = false → B ()) : L .br b A B := by
  rw [hL]; exact ⟨h1, h2⟩

theorem brF {P : Program} {L : Leafs} (hL : ∀ {α : Type} (x : Lf α), L x = std P x) {b : Bool} {A B : Unit → Prop} (e : b = false) (h2 : B ()) : L .br b A B := by
  rw [hL]; exact ⟨fun h => absurd (e.symm.trans h) (by decide), fun _ => h2⟩
theorem brT {P : Program} {L : Leafs} (hL : ∀ {α : Type} (x : Lf α), L x = std P x) {b : Bool} {A B : Unit → Prop} (e : b = true) (h1 : A ()) : L .br b A B := by
  rw [hL]; exact ⟨fun _ => h1, fun h => absurd (e.symm.trans h) (by decide)⟩
theorem joinW {P : Program} {L : Leafs} (hL : ∀ {α : Type} (x : Lf α), L x = std P x) {W : St → Prop} {st : St} (h : W st) : L .join W st := by
  rw [hL]; exact .inl h
theorem joinR {P : Program} {L : Leafs} (hL : ∀ {α : Type} (x : Lf α), L x = std P x) {W : St → Prop} {st : St} (live keys : List Nat) (h : W (st.restr live keys)) : L .join W st := by
  rw [hL]; exact .inr ⟨live, keys, h⟩
/-- What comes behind is shown once: of states that are alike at the live places. -/
theorem share {P : Program} {L : Leafs} (hL : ∀ {α : Type} (x : Lf α), L x = std P x) {W : St → Prop} {X : Prop} {G : Type} (live keys : List Nat) (N : Nat) (tm : G → List (Nat × DV)) (σ : G → Store) (p : G → Prop)
    (use : (∀ (g : G) (st : St), p g → Head live keys st N (tm g) (σ g) → L .join W st) → X) (rest : ∀ g, p g → W ⟨mkT N 0 (tm g), σ g⟩) : X := by
  refine use fun g st hp hh => joinR hL live keys ?_
  have e : st.restr live keys = ⟨mkT N 0 (tm g), σ g⟩ := by simp only [St.restr, hh.1.eq, hh.2.eq]
  rw [e]; exact rest g hp
theorem lendI {P : Program} {L : Leafs} (hL : ∀ {α : Type} (x : Lf α), L x = std P x) {g : FuncId} {ds : List DV} {κ : Nat} {st : St} {K : DV → St → Prop} {Q : DV → List Row → Prop} (hf : Fn P g ds [] Q) (hk : noKeys ds)
    (h : ∀ d rs, Q d rs → lendOk d ∧ bindR κ d st K) : L .lend g ds κ st K := by
  rw [hL]; exact ⟨hk, hf.mono h⟩
theorem callI {P : Program} {L : Leafs} (hL : ∀ {α : Type} (x : Lf α), L x = std P x) {g : FuncId} {ds : List DV} {κ : Nat} {st : St} {K : DV → St → Prop} {Q : DV → List Row → Prop} (hf : Fn P g ds [] Q) (hk : noKeys ds)
    (h : ∀ d rs, Q d rs → bindR κ d st K) : L .call g ds κ st K := by
  rw [hL]; exact ⟨hk, hf.mono h⟩
theorem refsI {P : Program} {L : Leafs} (hL : ∀ {α : Type} (x : Lf α), L x = std P x) {g : FuncId} {ds ds' : List DV} {rows : List Row} {κ : Nat} {st : St} {K : DV → St → Prop} {Q : DV → List Row → Prop} (hf : Fn P g ds' rows Q)
    (h1 : renL (nub [] (keysOfL ds)) ds = ds') (h2 : lookL st.σ (nub [] (keysOfL ds)) = some rows)
    (h : ∀ d rs, Q d rs → bindR κ (unren (nub [] (keysOfL ds)) d) ⟨st.T, updL st.σ (nub [] (keysOfL ds)) rs⟩ K) : L .refs g ds κ st K := by
  rw [hL]; subst h1; exact ⟨rows, h2, hf.mono h⟩

/-- Whole numbers, as a row's contents. -/
def ints (g : Nat → Int) : Nat → DV := fun i => .int .i64 (g i)
def updI (g : Nat → Int) (j : Nat) (v : Int) : Nat → Int := fun i => if i = j then v else g i
theorem setFF_ints (g : Nat → Int) (j : Nat) (v : Int) : setFF (ints g) j 0 [.int .i64 v] = ints (updI g j v) := by
  funext i
  simp only [setFF, ints, updI]
  split <;> simp [setCells, nth]
theorem appFF_ints (n : Nat) (g h : Nat → Int) : appFF n (ints g) (ints h) = ints (fun i => if i < n then g i else h (i - n)) := by
  funext i
  simp only [appFF, ints]
  split <;> rfl
end Go.Sx
