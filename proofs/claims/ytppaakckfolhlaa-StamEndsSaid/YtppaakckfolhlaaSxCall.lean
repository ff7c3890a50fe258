import Derived.Test.YtppaakckfolhlaaSxLoud5
namespace Go.Sx

section
variable {P : Program} {md : Modes} {C : Ctx} {I : Imm} {β : Nat → Option Loc} {st : St} {a : Act} {w : World}

theorem own_key {κ o n : Nat} {l : Loc} {v : Value} (h : RepK I (fun _ => some l) (.ref 0 o n) v) : RepK I (updB β κ l) (.ref κ o n) v := by
  cases h with
  | pure h => cases h
  | ref _ _ _ cap l' b a h1 h2 h3 h4 h5 h6 =>
    obtain rfl := Option.some.inj h1
    exact .ref κ o n cap l b a (by simp [updB]) h2 h3 h4 h5 h6
  | refnil _ l' ao h1 h2 =>
    obtain rfl := Option.some.inj h1
    exact .refnil κ l ao (by simp [updB]) h2
theorem own_ptr {κ i off : Nat} {l : Loc} {v : Value} (h : RepK I (fun _ => some l) (.rptr 0 i off) v) : RepK I (updB β κ l) (.rptr κ i off) v := by
  cases h with
  | pure h => cases h
  | rptr _ _ _ l' b h1 h2 h3 =>
    obtain rfl := Option.some.inj h1
    exact .rptr κ i off l b (by simp [updB]) h2 h3

/-- One fresh row of a call's result. -/
theorem Sim.bind1 (hs : Sim C I β st a w) {n0 : Nat} (h0 : C.w0.heap.size ≤ n0) {κ : Nat} {l : Loc} {r : Row} (hκ : κ < refKey) (hn : look st.σ κ = none) (hr : RowOk I w l r) (hb : ∀ b, l.blk = some b → n0 ≤ b ∧ b < w.heap.size)
    (hav : ∀ κ' l', β κ' = some l' → ∀ b, l.blk = some b → l'.blk ≠ some b) :
    Sim C I (updB β κ l) ⟨st.T, ins st.σ κ r⟩ a w ∧ ∀ κ' l', β κ' = some l' → updB β κ l κ' = some l' :=
  hs.newRow hκ hn (Frm.refl w _) (fun b hb' => ⟨by have := (hb b hb').1; omega, (hb b hb').2, fun κ' l' h => hav κ' l' h b hb'⟩) hr

theorem ResAt.rep {n0 : Nat} {l : Loc} {d : DV} {v : Value} (h : ResAt I β n0 w l d v) (hf : isFresh d = false) : RepK I β d v := by
  cases d <;> first | exact h | exact .pure h | cases hf

theorem bindL_plain {κ j : Nat} {d : DV} {ds : List DV} {st : St} {K : List DV → St → Prop} (hf : isFresh d = false) : bindL κ j (d :: ds) st K = bindL κ (j + 1) ds st fun ds st => K (d :: ds) st := by
  cases d <;> first | rfl | cases hf

theorem bindL_lands {n0 κ : Nat} {β0 : Nat → Option Loc} (h0 : C.w0.heap.size ≤ n0) : ∀ (ds : List DV) (j : Nat) (β : Nat → Option Loc) (st : St) (vs : Nat → Value) (ls : Nat → Loc) (K : List DV → St → Prop), Sim C I β st a w → (∀ κ' l', β0 κ' = some l' → β κ' = some l') →
    (∀ i < ds.length, ResAt I β0 n0 w (ls i) (nth ds i) (vs i)) →
    (∀ i i' b, i < ds.length → i' < ds.length → i ≠ i' → isFresh (nth ds i) = true → isFresh (nth ds i') = true → (ls i).blk = some b → (ls i').blk ≠ some b) →
    (∀ i < ds.length, isFresh (nth ds i) = true → ∀ κ' l', β κ' = some l' → ∀ b, (ls i).blk = some b → l'.blk ≠ some b) →
    bindL κ j ds st K → ∃ β' ds' st', Sim C I β' st' a w ∧ (∀ κ' l', β κ' = some l' → β' κ' = some l') ∧ ds'.length = ds.length ∧ (∀ i < ds.length, RepK I β' (nth ds' i) (vs i)) ∧ K ds' st'
  | [], j, β, st, vs, ls, K, hs, hb0, hr, hd, hav, hK => ⟨β, [], st, hs, fun _ _ h => h, rfl, fun i hi => (by simp at hi), hK⟩
  | d :: ds, j, β, st, vs, ls, K, hs, hb0, hr, hd, hav, hK => by
    have h00 := hr 0 (by simp)
    simp only [nth] at h00
    have htail : ∀ i < ds.length, ResAt I β0 n0 w (ls (i + 1)) (nth ds i) (vs (i + 1)) := fun i hi => hr (i + 1) (by simpa using hi)
    have hdt : ∀ i i' b, i < ds.length → i' < ds.length → i ≠ i' → isFresh (nth ds i) = true → isFresh (nth ds i') = true → (ls (i + 1)).blk = some b → (ls (i' + 1)).blk ≠ some b :=
      fun i i' b hi hi' hne => hd (i + 1) (i' + 1) b (by simpa using hi) (by simpa using hi') (by omega)
    -- a fresh row
    have fresh : ∀ (r : Row) (d' : DV), isFresh d = true → RowOk I w (ls 0) r → (∀ b, (ls 0).blk = some b → n0 ≤ b ∧ b < w.heap.size) → (∀ β', RepK I (updB β' (κ + 1000 * j) (ls 0)) d' (vs 0)) →
        addRow st (κ + 1000 * j) r (fun st => bindL κ (j + 1) ds st fun ds st => K (d' :: ds) st) →
        ∃ β' ds' st', Sim C I β' st' a w ∧ (∀ κ' l', β κ' = some l' → β' κ' = some l') ∧ ds'.length = (d :: ds).length ∧ (∀ i < (d :: ds).length, RepK I β' (nth ds' i) (vs i)) ∧ K ds' st' := by
      intro r d' hf hrow hb hrep hadd
      obtain ⟨k1, k2, k3⟩ := addRow_iff hadd
      obtain ⟨s1, s2⟩ := hs.bind1 h0 k1 k2 hrow hb (fun κ' l' hl => hav 0 (by simp) hf κ' l' hl)
      obtain ⟨β', ds', st', t1, t2, t3, t4, t5⟩ := bindL_lands (κ := κ) h0 ds (j + 1) _ _ (fun i => vs (i + 1)) (fun i => ls (i + 1)) _ s1 (fun κ' l' h => s2 _ _ (hb0 _ _ h)) htail hdt (by
        intro i hi hfi κ' l' hl b hb' hb''
        unfold updB at hl
        split at hl
        · obtain rfl := Option.some.inj hl
          exact hd 0 (i + 1) b (by simp) (by simpa using hi) (by omega) hf hfi hb'' hb'
        · exact hav (i + 1) (by simpa using hi) hfi κ' l' hl b hb' hb'') k3
      refine ⟨β', d' :: ds', st', t1, fun κ' l' hl => t2 _ _ (s2 _ _ hl), by simp [t3], ?_, t5⟩
      intro i hi
      cases i with
      | zero => exact (hrep β).mono (Imm.le.refl _) t2
      | succ i => exact t4 i (by simpa using hi)
    by_cases hf : isFresh d = true
    · cases d <;> first | (cases hf; done) | skip
      · rename_i sz n f
        obtain ⟨r1, r2, r3⟩ := h00
        exact fresh (.arr sz n f) (.ref (κ + 1000 * j) 0 n) hf r1 r3 (fun β' => own_key r2) hK
      · rename_i sz d
        obtain ⟨r1, r2, r3⟩ := h00
        exact fresh (.box sz d) (.rptr (κ + 1000 * j) 0 0) hf r1 r3 (fun β' => own_ptr r2) hK
    · have hf : isFresh d = false := by simpa using hf
      rw [bindL_plain hf] at hK
      obtain ⟨β', ds', st', t1, t2, t3, t4, t5⟩ := bindL_lands (κ := κ) h0 ds (j + 1) β st (fun i => vs (i + 1)) (fun i => ls (i + 1)) _ hs hb0 htail hdt (fun i hi hfi => hav (i + 1) (by simpa using hi) hfi) hK
      refine ⟨β', d :: ds', st', t1, t2, by simp [t3], ?_, t5⟩
      intro i hi
      cases i with
      | zero => exact (h00.rep hf).mono (Imm.le.refl _) (fun κ' l' h => t2 _ _ (hb0 _ _ h))
      | succ i => exact t4 i (by simpa using hi)

theorem ResAt.mono {γ : Nat → Option Loc} (h : ∀ κ l, β κ = some l → γ κ = some l) {n0 : Nat} {l : Loc} {d : DV} {v : Value} (hr : ResAt I β n0 w l d v) : ResAt I γ n0 w l d v := by
  cases d <;> first | exact hr | exact RepK.mono (Imm.le.refl _) h hr
theorem Res.mono {γ : Nat → Option Loc} {n0 : Nat} {d : DV} {v : Value} (hr : Res I β n0 w d v) (h : ∀ κ l, β κ = some l → γ κ = some l) : Res I γ n0 w d v := by
  cases d <;> first
    | (obtain ⟨vs, ls, h1, h2, h3, h4⟩ := hr; exact ⟨vs, ls, h1, h2, fun j hj => (h3 j hj).mono h, h4⟩)
    | (obtain ⟨l, hr⟩ := hr; exact ⟨l, hr.mono h⟩)

theorem bind_lands (hs : Sim C I β st a w) {n0 : Nat} (h0 : C.w0.heap.size ≤ n0) (hold : ∀ κ l b, β κ = some l → l.blk = some b → b < n0) {κ : Nat} {d : DV} {v : Value} {K : DV → St → Prop} (hres : Res I β n0 w d v) (hK : bindR κ d st K) : Lands C a K v w := by
  have plain : isFresh d = false → (∀ ds, d ≠ .tup ds) → Lands C a K v w := by
    intro hf ht
    have hr : ∃ l, ResAt I β n0 w l d v := by cases d <;> first | exact (ht _ rfl).elim | exact hres
    obtain ⟨l, hr⟩ := hr
    have hk : K d st := by cases d <;> first | exact (ht _ rfl).elim | (cases hf; done) | exact hK
    exact ⟨I, β, d, st, hs, hr.rep hf, hk⟩
  cases d with
  | own sz n f =>
    obtain ⟨l, r1, r2, r3⟩ := hres
    obtain ⟨k1, k2, k3⟩ := addRow_iff hK
    obtain ⟨s1, s2⟩ := hs.bind1 h0 k1 k2 r1 r3 (fun κ' l' hl b hb hb' => by have := hold κ' l' b hl hb'; have := (r3 b hb).1; omega)
    exact ⟨I, _, _, _, s1, own_key r2, k3⟩
  | obox sz d =>
    obtain ⟨l, r1, r2, r3⟩ := hres
    obtain ⟨k1, k2, k3⟩ := addRow_iff hK
    obtain ⟨s1, s2⟩ := hs.bind1 h0 k1 k2 r1 r3 (fun κ' l' hl b hb hb' => by have := hold κ' l' b hl hb'; have := (r3 b hb).1; omega)
    exact ⟨I, _, _, _, s1, own_ptr r2, k3⟩
  | tup ds =>
    obtain ⟨vs, ls, rfl, hsz, hr, hd⟩ := hres
    obtain ⟨β', ds', st', t1, t2, t3, t4, t5⟩ := bindL_lands (κ := κ) (β0 := β) h0 ds 1 β st (fun j => vs.getD j undef) ls _ hs (fun _ _ h => h) hr hd (by
      intro i hi hf κ' l' hl b hb hb'
      have h1 := hold κ' l' b hl hb'
      have h2 : n0 ≤ b := by
        have := hr i hi
        generalize nth ds i = e at this hf
        cases e <;> first | (cases hf) | skip
        · exact (this.2.2 b hb).1
        · exact (this.2.2 b hb).1
      omega) hK
    exact ⟨I, β', _, st', t1, .tup ds' vs (by omega) (fun j hj => t4 j (by omega)), t5⟩
  | _ => exact plain rfl (fun ds h => by cases h)

/-- The values of a call. -/
theorem fn_vals {g : FuncId} {as_ bs : List DV} {v : Value} (h : RepK I β (.fn g as_ bs) v) : ∃ x y : Array Value, v = .func (.func g) x y ∧ x.size = as_.length ∧ y.size = bs.length ∧
    (∀ j < as_.length, RepK I β (nth as_ j) (x.getD j undef)) ∧ (∀ j < bs.length, RepK I β (nth bs j) (y.getD j undef)) := by
  cases h with
  | pure h =>
    cases h with
    | fn _ _ _ x y h1 h2 h3 h4 => exact ⟨x, y, rfl, h1, h2, fun j hj => .pure (h3 j hj), fun j hj => .pure (h4 j hj)⟩
  | fn _ _ _ x y h1 h2 h3 h4 => exact ⟨x, y, rfl, h1, h2, h3, h4⟩

theorem getD_append (x y : Array Value) (j : Nat) : (x ++ y).getD j undef = if j < x.size then x.getD j undef else y.getD (j - x.size) undef := by
  simp only [Array.getD_eq_getD_getElem?]
  rw [Array.getElem?_append]
  split <;> rfl

theorem reps_append {ds es : List DV} {x y : Array Value} (hx : x.size = ds.length) (h1 : ∀ j < ds.length, RepK I β (nth ds j) (x.getD j undef)) (hy : y.size = es.length) (h2 : ∀ j < es.length, RepK I β (nth es j) (y.getD j undef)) :
    (x ++ y).size = (cat ds es).length ∧ ∀ j < (cat ds es).length, RepK I β (nth (cat ds es) j) ((x ++ y).getD j undef) := by
  rw [cat_append]
  refine ⟨by simp [hx, hy], fun j hj => ?_⟩
  rw [nth_append, getD_append, hx]
  simp only [List.length_append] at hj
  split
  · rename_i h; exact h1 j h
  · exact h2 _ (by omega)

theorem run_enter {f : FuncId} {fn : Func} {c : Code} (hf : P.funcs[f]? = some fn) (hname : (fn.name == "runtime.NumGoroutine") = false) (hb : fn.body = some c) (args : Array Value) (w : World) :
    (callFunc f args).run P w = .ok (.enter f args) w := by
  have h1 : fn.name ≠ "runtime.NumGoroutine" := by simpa using hname
  simp [callFunc, hf, h1, hb]

/-- A call of a function value enters it, with such data. -/
theorem call_enter (hs : Sim C I β st a w) {o : Oper} {c : Call} (ho : o.op = .call c) {fo : Operand} (hcal : c.callee = .value fo) {f : Arg} (hf : cArg fo = some f) {xs : List Arg} (hxs : cArgs c.args.toList = some xs) {g : FuncId} {as_ bs : List DV}
    (hev : ev st f = .fn g as_ bs) (hen : Enters P g) : ∃ vs : Array Value, (execOp a.eval o).run P w = .ok (.enter g vs) w ∧ vs.size = (cat as_ (cat (evL st xs) bs)).length ∧
      ∀ j < (cat as_ (cat (evL st xs) bs)).length, RepK I β (nth (cat as_ (cat (evL st xs) bs)) j) (vs.getD j undef) := by
  have hfr := arg_rep hf hs
  rw [hev] at hfr
  obtain ⟨x, y, hv, h1, h2, h3, h4⟩ := fn_vals hfr
  obtain ⟨fn, cd, e1, e2, e3⟩ := hen
  obtain ⟨ha1, ha2⟩ := args_rep hxs hs
  have hb := reps_append (ds := evL st xs) (es := bs) (x := (c.args.toList.map a.eval).toArray) (y := y) (by simp [ha1]) (fun j hj => by
    have := ha2 j (by omega)
    simpa [Array.getD_eq_getD_getElem?, List.getD] using this) h2 h4
  have hall := reps_append (ds := as_) (es := cat (evL st xs) bs) (x := x) h1 h3 hb.1 hb.2
  have hargs : (c.args.toList.map a.eval).toArray = c.args.map a.eval := by
    apply Array.ext'; simp
  rw [hargs] at hall
  refine ⟨x ++ (c.args.map a.eval ++ y), ?_, hall⟩
  have he := run_enter e1 e2 e3 (x ++ (c.args.map a.eval ++ y)) w
  simp [execOp, ho, resolve, hcal, hv, Deferred.ofValue, invoke, Array.append_assoc, he]

/-- What a call's contract gives, told of the operation. -/
def Upto (P : Program) (C : Ctx) (a : Act) (g : FuncId) (vs : Array Value) (w : World) (K : DV → St → Prop) : Prop :=
  Calls P g vs w fun e w' => ∃ v, e = .returned v ∧ Lands C a K v w'

theorem noKeys_nth {ds : List DV} (h : noKeys ds) (j : Nat) : keysOf (nth ds j) = [] := by
  cases hk : keysOf (nth ds j) with
  | nil => rfl
  | cons k l =>
    have : k ∈ keysOfL ds := nth_mem_keys (by rw [hk]; simp)
    rw [h] at this; cases this

theorem rows_none (I : Imm) (w : World) : Rows I (fun _ => none) (keyed refKey []) w :=
  ⟨fun _ _ => rfl, fun κ r h => (by simp [keyed, look] at h), fun _ _ _ _ _ _ h => (by cases h), fun _ _ _ h => (by cases h)⟩

theorem call_lands (hs : Sim C I β st a w) {g : FuncId} {ds : List DV} {vs : Array Value} (hsz : vs.size = ds.length) (hrep : ∀ j < ds.length, RepK I β (nth ds j) (vs.getD j undef)) {κ : Nat} {K : DV → St → Prop}
    (hK : (std P Lf.call) g (viewL 100000 (keysOfL ds) st.σ ds) κ (st.freeze (keysOfL ds)) K) : Upto P C a g vs w K := by
  obtain ⟨J, γ, s1, hJ, hv⟩ := hs.freeze (keysOfL ds)
  obtain ⟨hno, _, hfn⟩ := hK
  refine (hfn w J vs (fun _ => none) s1.inw (by rw [viewL_length]; exact hsz) (fun j hj => ?_) (rows_none J w)).mono ?_
  · rw [viewL_length] at hj
    have := hv _ _ (hrep j hj)
    rw [← nth_viewL] at this
    exact this.keys (fun k hk => by rw [noKeys_nth hno j] at hk; cases hk)
  · rintro e w' ⟨v, d, rows', I', a1, a2, a3, a4, a5, a6, a7, a8, a9⟩
    have hfrm : Frm w w' (fun _ => False) := ⟨a8.os, a8.tape, a8.output, a8.size, fun b hb _ => a8.block b hb (by rintro ⟨κ, l, h, _⟩; cases h)⟩
    have s2 := s1.grow hfrm a2 a3 a4
    exact ⟨v, a1, bind_lands s2 s1.frame.size (fun κ l b h hb => s1.rows.lt κ l b h hb) (a5.mono (fun _ _ h => by cases h)) a9⟩

theorem scalar_rep {I J : Imm} {d : DV} {v : Value} (h : RepK I β d v) (hd : scalarD d = true) : Rep J d v := by
  cases h <;> first | (cases hd; done) | (rename_i h; cases h <;> first | (cases hd; done) | constructor)
theorem scalarL_nth {ds : List DV} (h : scalarL ds = true) {j : Nat} (hj : j < ds.length) : scalarD (nth ds j) = true := by
  induction ds generalizing j with
  | nil => simp at hj
  | cons d r ih =>
    simp only [scalarL] at h
    split at h
    · rename_i hd
      cases j with
      | zero => exact hd
      | succ j => exact ih h (by simpa using hj)
    · cases h
theorem scalar_fresh {d : DV} (h : scalarD d = true) : isFresh d = false := by cases d <;> first | rfl | cases h

theorem lendOkL_nth {ds : List DV} (h : lendOkL ds) {j : Nat} (hj : j < ds.length) : lendOk1 (nth ds j) := by
  induction ds generalizing j with
  | nil => simp at hj
  | cons d r ih => cases j with
    | zero => exact h.1
    | succ j => exact ih h.2 (by simpa using hj)
theorem ResAt.lent {I J : Imm} {β γ : Nat → Option Loc} {n0 : Nat} {w : World} {l : Loc} {d : DV} {v : Value} (h : ResAt J β n0 w l d v) (hok : lendOk1 d) (hI : ∀ b o, n0 ≤ b → I b o = none) : ResAt I γ n0 w l d v := by
  have plain : scalarD d = true → ResAt I γ n0 w l d v := by
    intro hsd
    have hr := scalar_rep (J := I) (h.rep (scalar_fresh hsd)) hsd
    cases d <;> first | exact hr | (cases hsd; done)
  cases d with
  | own sz n f =>
    obtain ⟨h1, h2, h3⟩ := h
    refine ⟨⟨h1.sz, h1.n, h1.pos, fun b hb => ?_, h1.nil⟩, ?_, h3⟩
    · have hA := h1.at_ b hb
      exact { there := hA.there, free := hA.free, fits := hA.fits, elem := hA.elem, apart := fun o => hI b o (h3 b hb).1,
              val := fun i j hi hj => by
                obtain ⟨u, k1, k2⟩ := hA.val i j hi hj
                exact ⟨u, k1, scalar_rep (β := fun _ => none) (.pure k2) (hok i hi j hj)⟩ }
    · cases h2 with
      | pure h => cases h
      | ref _ _ _ cap l b a g1 g2 g3 g4 g5 g6 => exact .ref _ _ _ cap l b a g1 g2 g3 g4 g5 g6
      | refnil _ l ao g1 g2 => exact .refnil _ l ao g1 g2
  | agg cs =>
    have hr : Rep J (.agg cs) v := h
    cases hr with
    | agg _ vs k1 k2 k3 => exact Rep.agg cs vs k1 k2 (fun j hj => scalar_rep (β := fun _ => none) (.pure (k3 j hj)) (scalarL_nth hok hj))
  | _ => exact plain hok
theorem Res.lent {I J : Imm} {β γ : Nat → Option Loc} {n0 : Nat} {w : World} {d : DV} {v : Value} (h : Res J β n0 w d v) (hok : lendOk d) (hI : ∀ b o, n0 ≤ b → I b o = none) : Res I γ n0 w d v := by
  cases d <;> first
    | (obtain ⟨vs, ls, h1, h2, h3, h4⟩ := h; exact ⟨vs, ls, h1, h2, fun j hj => (h3 j hj).lent (lendOkL_nth hok hj) hI, h4⟩)
    | (obtain ⟨l, h⟩ := h; exact ⟨l, h.lent hok hI⟩)

theorem lend_lands (hs : Sim C I β st a w) {g : FuncId} {ds : List DV} {vs : Array Value} (hsz : vs.size = ds.length) (hrep : ∀ j < ds.length, RepK I β (nth ds j) (vs.getD j undef)) {κ : Nat} {K : DV → St → Prop}
    (hK : (std P Lf.lend) g (viewL 1000000000 (keysOfL ds) st.σ ds) κ st K) : Upto P C a g vs w K := by
  obtain ⟨hno, _, hfn⟩ := hK
  have hJ := frzI_le I β 1000000000 (keysOfL ds) w
  have hat : ∀ κ l b o, κ ∈ keysOfL ds → κ < 1000000000 → β κ = some l → l.blk = some b → frzI I β 1000000000 (keysOfL ds) w b o = w.cell? ⟨b, o, none⟩ := by
    intro κ l b o hk hlim h1 h2
    refine frzI_at hk hlim h1 h2 ?_ o
    have hlook : look st.σ κ ≠ none := fun e => by rw [hs.rows.dom κ e] at h1; cases h1
    obtain ⟨r, hr⟩ := Option.ne_none_iff_exists'.1 hlook
    obtain ⟨l', h3, h4⟩ := hs.rows.rows κ r hr
    rw [h1] at h3
    obtain rfl := Option.some.inj h3
    exact (h4.at_ b h2).apart
  refine (hfn w (frzI I β 1000000000 (keysOfL ds) w) vs (fun _ => none) (frzI_inW hs.inw) (by rw [viewL_length]; exact hsz) (fun j hj => ?_) (rows_none _ w)).mono ?_
  · rw [viewL_length] at hj
    have := (hrep j hj).view hs.rows 1000000000 (keysOfL ds) hJ hat (γ := β) (fun _ _ => rfl)
    rw [← nth_viewL] at this
    exact this.keys (fun k hk => by rw [noKeys_nth hno j] at hk; cases hk)
  · rintro e w' ⟨v, d, rows', I', a1, a2, a3, a4, a5, a6, a7, a8, hsc, a9⟩
    have hfrm : Frm w w' (fun _ => False) := ⟨a8.os, a8.tape, a8.output, a8.size, fun b hb _ => a8.block b hb (by rintro ⟨κ, l, h, _⟩; cases h)⟩
    have s2 := hs.grow hfrm (Imm.le.refl I) (hs.inw.of_heap fun b o v hv => hfrm.block b (block_lt (by rw [hs.inw b o v hv]; rfl)) id) (fun _ _ _ => rfl)
    refine ⟨v, a1, bind_lands s2 hs.frame.size (fun κ l b h hb => hs.rows.lt κ l b h hb) (a5.lent hsc (fun b o hb => ?_)) a9⟩
    cases hI : I b o with
    | none => rfl
    | some u =>
      have := block_lt (by rw [hs.inw b o u hI]; rfl)
      omega
end
end Go.Sx
