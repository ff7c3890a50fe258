import Derived.Test.YtppaakckfolhlaaSxQuiet3
/-! The operations that make or write memory. -/
namespace Go.Sx

section
variable {P : Program} {md : Modes} {C : Ctx} {I : Imm} {β : Nat → Option Loc} {st : St} {a : Act} {w : World}

theorem pureL_iff (l : List DV) : pureL l = true ↔ ∀ j < l.length, pureB (nth l j) = true := by
  induction l with
  | nil => simp [pureL]
  | cons d r ih =>
    simp only [pureL]
    constructor
    · intro h j hj
      split at h
      · rename_i hd
        cases j with
        | zero => exact hd
        | succ j => exact ih.1 h j (by simpa using hj)
      · cases h
    · intro h
      have h0 := h 0 (by simp)
      simp only [nth] at h0
      rw [if_pos h0]
      exact ih.2 fun j hj => h (j + 1) (by simpa using hj)

theorem RepK.toRep {d : DV} {v : Value} (r : RepK I β d v) (h : pureB d = true) : Rep I d v := by
  induction r with
  | pure hr => exact hr
  | ref => cases h
  | refnil => cases h
  | rptr => cases h
  | fn g fst cap a b h1 h2 _ _ ih1 ih2 =>
    simp only [pureB] at h
    split at h
    · rename_i hp
      rw [pureL_iff] at h hp
      exact .fn g fst cap a b h1 h2 (fun j hj => ih1 j hj (hp j hj)) (fun j hj => ih2 j hj (h j hj))
    · cases h
  | tup => cases h
  | junk => cases h

theorem okCells_iff {n : Nat} {d : DV} (h : okCells n d = true) : (cells d).length = n ∧ (∀ j < n, isCell (nth (cells d) j) = true) ∧ pureB d = true := by
  unfold okCells at h
  split at h
  · rename_i hl
    split at h
    · rename_i ha
      rw [len_length] at hl
      rw [allCell_iff, hl] at ha
      exact ⟨hl, ha, h⟩
    · cases h
  · cases h

/-- The cells of a value, and of its data. -/
theorem Rep.cells {d : DV} {v : Value} (r : Rep I d v) {n : Nat} (h : okCells n d = true) :
    v.cells.size = n ∧ (∀ j < n, Rep I (nth (cells d) j) (v.cells.getD j undef)) ∧ ∀ j < n, (v.cells.getD j undef).oneCell' = true := by
  obtain ⟨h1, h2, _⟩ := okCells_iff h
  have core : v.cells.size = n ∧ (∀ j < n, Rep I (nth (Sx.cells d) j) (v.cells.getD j undef)) := by
    cases r with
    | agg cs vs k1 k2 k3 =>
      simp only [Sx.cells] at h1 ⊢
      exact ⟨by simp only [Value.cells]; omega, fun j hj => k3 j (by omega)⟩
    | und =>
      simp only [Sx.cells] at h1 h2
      have : n = 1 := by simpa using h1.symm
      subst this
      have := h2 0 (by omega)
      cases this
    | _ =>
      simp only [Sx.cells] at h1
      have : n = 1 := by simpa using h1.symm
      subst this
      refine ⟨rfl, fun j hj => ?_⟩
      have : j = 0 := by omega
      subst this
      simp only [Sx.cells, nth, Value.cells]
      constructor <;> assumption
  refine ⟨core.1, core.2, fun j hj => ((core.2 j hj).one (h2 j hj)).1⟩

/-- What an operation leaves. -/
def Lands (C : Ctx) (a : Act) (K : DV → St → Prop) (v : Value) (w' : World) : Prop :=
  ∃ I' β' d st', Sim C I' β' st' a w' ∧ RepK I' β' d v ∧ K d st'

theorem cell_alloc (w : World) (arr : Array Value) (ty : TypeId) (j : Nat) : (w.alloc (.cells arr ty)).cell? ⟨w.heap.size, j, none⟩ = arr[j]? := by
  simp only [World.cell?, World.alloc]
  simp
theorem frozen_alloc (w : World) (arr : Array Value) (ty : TypeId) (j : Nat) : (w.alloc (.cells arr ty)).frozen? ⟨w.heap.size, j, none⟩ = false := by
  simp only [World.frozen?, World.alloc]
  simp

/-- A new block of cells is a new row. -/
theorem Sim.alloc (h : Sim C I β st a w) {κ : Nat} {r : Row} (hκ : κ < refKey) (hn : look st.σ κ = none) {arr : Array Value} {ty : TypeId} (hpos : 0 < r.sz) (hfit : r.n * r.sz ≤ arr.size)
    (helem : ∀ i < r.n, elemOk r.sz (r.f i)) (hval : ∀ i j, i < r.n → j < r.sz → ∃ v, arr[i * r.sz + j]? = some v ∧ Rep I (nth (cells (r.f i)) j) v) :
    Sim C I (updB β κ ⟨some w.heap.size, 0, r.sz, r.n, arr.size⟩) ⟨st.T, ins st.σ κ r⟩ a (w.alloc (.cells arr ty)) ∧
      ∀ κ' l', β κ' = some l' → updB β κ ⟨some w.heap.size, 0, r.sz, r.n, arr.size⟩ κ' = some l' := by
  refine h.newRow hκ hn (Frm.alloc _ _ _) ?_ ?_
  · intro b hb
    obtain rfl := Option.some.inj hb
    refine ⟨h.frame.size, by simp only [World.alloc, Array.size_push]; omega, fun κ' l' hl hb => ?_⟩
    exact absurd (h.rows.lt κ' l' _ hl hb) (by omega)
  · refine ⟨rfl, rfl, hpos, fun b hb => ?_, fun hb => by cases hb⟩
    obtain rfl := Option.some.inj hb
    exact {
      there := fun j hj => by rw [cell_alloc]; simp [hj]
      val := fun i j hi hj => by
        obtain ⟨v, h1, h2⟩ := hval i j hi hj
        exact ⟨v, by rw [cell_alloc]; simpa using h1, h2⟩
      free := fun o _ => frozen_alloc _ _ _ _
      fits := by simpa using hfit
      apart := fun o => by
        cases hI : I w.heap.size o with
        | none => rfl
        | some v =>
          have := block_lt (by rw [h.inw _ _ _ hI]; rfl)
          omega
      elem := helem }

theorem addRow_iff {st : St} {κ : Nat} {r : Row} {K : St → Prop} (h : addRow st κ r K) : κ < refKey ∧ look st.σ κ = none ∧ K ⟨st.T, ins st.σ κ r⟩ := by
  unfold addRow at h
  split at h
  · rename_i hk
    split at h
    · exact h.elim
    · rename_i hl; exact ⟨hk, hl, h⟩
  · exact h.elim

theorem refptr_new {κ : Nat} {r : Row} {b tot : Nat} (hn : 0 < r.n) : RepK I (updB β κ ⟨some b, 0, r.sz, r.n, tot⟩) (.rptr κ 0 0) (.pointer (some ⟨b, 0, none⟩)) := by
  have := RepK.rptr (I := I) (β := updB β κ ⟨some b, 0, r.sz, r.n, tot⟩) κ 0 0 ⟨some b, 0, r.sz, r.n, tot⟩ b (by simp [updB]) rfl hn
  simpa using this

/-- A box of a value. -/
theorem Sim.newBox (h : Sim C I β st a w) {κ n : Nat} {d : DV} {v : Value} {ty : TypeId} {K : DV → St → Prop} (hd : Rep I d v) (hok : okCells n d = true) (hn : 0 < n)
    (hK : addRow st κ (.box n d) fun st => K (.rptr κ 0 0) st) : Lands C a K (.pointer (some ⟨w.heap.size, 0, none⟩)) (w.alloc (.cells v.cells ty)) := by
  obtain ⟨hκ, hl, hk⟩ := addRow_iff hK
  obtain ⟨h1, h2, h3⟩ := okCells_iff hok
  obtain ⟨c1, c2, c3⟩ := hd.cells hok
  obtain ⟨s1, s2⟩ := h.alloc (r := .box n d) (arr := v.cells) (ty := ty) hκ hl hn (by simp [Row.n, Row.sz, c1]) (fun i hi => ⟨h1, h2⟩) (fun i j hi hj => by
    have hi0 : i = 0 := by simp only [Row.n] at hi; omega
    subst hi0
    simp only [Row.sz] at hj
    refine ⟨v.cells.getD j undef, ?_, c2 j hj⟩
    have : j < v.cells.size := by omega
    simp [Array.getD, this])
  exact ⟨_, _, _, _, s1, refptr_new (r := .box n d) (by simp [Row.n]), hk⟩

theorem cZero_ok {t : TypeId} {n by_ : Nat} {d : DV} (h : cZero P t = some (n, by_, d)) :
    ∃ i z, P.info? t = some i ∧ i.zero = some z ∧ n = i.size ∧ by_ = i.bytes ∧ 0 < n ∧ okCells n d = true ∧ ∀ I : Imm, Rep I d z := by
  unfold cZero at h
  split at h
  · rename_i i hi
    split at h
    · rename_i z hz
      split at h
      · rename_i d' hd
        split at h
        · rename_i hc
          obtain ⟨rfl, h2⟩ := Prod.mk.inj (Option.some.inj h)
          obtain ⟨rfl, rfl⟩ := Prod.mk.inj h2
          exact ⟨i, z, hi, hz, rfl, rfl, hc.2, hc.1, fun I => (cCon_rep hd).1⟩
        · cases h
      · cases h
    · cases h
  · cases h

theorem alloc_lands (h : Sim C I β st a w) {t : TypeId} {o : Oper} (ho : o.op = .alloc t) {n by_ : Nat} {z : DV} (hz : cZero P t = some (n, by_, z)) {κ : Nat} {K : DV → St → Prop}
    (hK : addRow st κ (.box n z) fun st => K (.rptr κ 0 0) st) : ∃ v w', (execOp a.eval o).run P w = .ok (.value v) w' ∧ Lands C a K v w' := by
  obtain ⟨i, zv, h1, h2, rfl, rfl, h4, h5, h6⟩ := cZero_ok hz
  exact ⟨_, _, by simp [execOp, ho, Instr.alloc, zeroValue, typeInfo, h1, h2, newVar, newRow], h.newBox (ty := t) (h6 I) h5 h4 hK⟩

theorem box_lands (h : Sim C I β st a w) {t : TypeId} {x : Operand} {o : Oper} (ho : o.op = .box t x) {n : Nat} {y : Arg} (hy : cArg x = some y) (hn : 0 < n) {κ : Nat} {K : DV → St → Prop}
    (hok : okCells n (ev st y) = true) (hK : addRow st κ (.box n (ev st y)) fun st => K (.rptr κ 0 0) st) : ∃ v w', (execOp a.eval o).run P w = .ok (.value v) w' ∧ Lands C a K v w' := by
  have hr := (arg_rep hy h).toRep (okCells_iff hok).2.2
  exact ⟨_, _, by simp [execOp, ho, Instr.box, newVar, newRow], h.newBox (ty := t) hr hok hn hK⟩

/-! ### literals of structs and slices -/
theorem foldl_set : ∀ (vs : List Value) (off s : Nat) (arr : Array Value),
    ((vs.zipIdx s).foldl (fun cs p => cs.setIfInBounds (off + p.2) p.1) arr).size = arr.size ∧
    (off + s + vs.length ≤ arr.size → ∀ k, ((vs.zipIdx s).foldl (fun cs p => cs.setIfInBounds (off + p.2) p.1) arr).getD k undef = if off + s ≤ k ∧ k < off + s + vs.length then vs.getD (k - (off + s)) undef else arr.getD k undef)
  | [], off, s, arr => by
    constructor
    · rfl
    · intro _ k
      rw [if_neg (by simp)]; rfl
  | v :: vs, off, s, arr => by
    obtain ⟨h1, h2⟩ := foldl_set vs off (s + 1) (arr.setIfInBounds (off + s) v)
    rw [List.zipIdx_cons, List.foldl_cons]
    constructor
    · rw [h1]; simp
    · intro hl k
      simp only [List.length_cons] at hl ⊢
      rw [h2 (by simp; omega)]
      by_cases hk : k = off + s
      · subst hk
        rw [if_neg (by omega), if_pos (by omega)]
        have : off + s < arr.size := by omega
        simp [Array.getD_eq_getD_getElem?, this]
      · by_cases hk2 : off + s ≤ k ∧ k < off + s + (vs.length + 1)
        · rw [if_pos (by omega), if_pos hk2]
          rw [show k - (off + s) = (k - (off + (s + 1))) + 1 by omega]
          simp
        · rw [if_neg (by omega), if_neg hk2]
          simp [Array.getD_eq_getD_getElem?, Ne.symm hk]

/-- Cells and their data. -/
structure CR (I : Imm) (cs : List DV) (arr : Array Value) : Prop where
  size : arr.size = cs.length
  rep : ∀ j < cs.length, Rep I (nth cs j) (arr.getD j undef)
  cell : ∀ j < cs.length, isCell (nth cs j) = true

theorem CR.put {cs : List DV} {arr : Array Value} (h : CR I cs arr) {d : DV} {v : Value} {n off : Nat} (hd : Rep I d v) (hok : okCells n d = true) (hoff : off + n ≤ cs.length) :
    CR I (over cs off (cells d)) (v.cells.zipIdx.foldl (fun cs p => cs.setIfInBounds (off + p.2) p.1) arr) := by
  obtain ⟨h1, h2, _⟩ := okCells_iff hok
  obtain ⟨c1, c2, _⟩ := hd.cells hok
  obtain ⟨f1, f2⟩ := foldl_set v.cells.toList off 0 arr
  have hl : v.cells.toList.length = n := by simpa using c1
  have e : v.cells.zipIdx.foldl (fun cs p => cs.setIfInBounds (off + p.2) p.1) arr = (v.cells.toList.zipIdx 0).foldl (fun cs p => cs.setIfInBounds (off + p.2) p.1) arr := by
    rw [← Array.foldl_toList]; simp
  rw [e]
  have hs := h.size
  refine ⟨by rw [f1, over_length]; exact hs, ?_, ?_⟩
  · intro j hj
    rw [over_length] at hj
    rw [f2 (by omega), nth_over _ _ _ _ (by omega)]
    by_cases hk : off ≤ j ∧ j < off + n
    · rw [if_pos (by omega), if_pos (by omega)]
      have := c2 (j - off) (by omega)
      simpa [Array.getD_eq_getD_getElem?, List.getD] using this
    · rw [if_neg (by omega), if_neg (by omega)]
      exact h.rep j hj
  · intro j hj
    rw [over_length] at hj
    rw [nth_over _ _ _ _ (by omega)]
    by_cases hk : off ≤ j ∧ j < off + n
    · rw [if_pos (by omega)]; exact h2 _ (by omega)
    · rw [if_neg (by omega)]; exact h.cell j hj

theorem fill_step {place : Nat → Option (Nat × Nat)} {arr : Array Value} {i off n : Nat} {v : Value} {rest : List (Nat × Value)} (hp : place i = some (off, n)) (hv : v.cells.size = n) (hin : off + n ≤ arr.size) :
    Instr.fill place arr ((i, v) :: rest) = Instr.fill place (v.cells.zipIdx.foldl (fun cs p => cs.setIfInBounds (off + p.2) p.1) arr) rest := by
  subst hv
  have h1 : ¬ (arr.size < off + v.cells.size) := by omega
  simp [Instr.fill, hp, h1]

theorem fillP_fill (hs : Sim C I β st a w) {fs : Array Field} {place : Nat → Option (Nat × Nat)} (hpl : ∀ j f i, fs[j]? = some f → P.info? f.type = some i → place j = some (f.offset, i.size)) :
    ∀ (ps : List (Nat × Operand)) (rs : List (Nat × Nat × Arg)) (cs cs' : List DV) (arr : Array Value), cFields P fs ps = some rs → fillP st rs cs = some cs' → CR I cs arr →
      ∃ arr', Instr.fill place arr (ps.map fun p => (p.1, a.eval p.2)) = some arr' ∧ CR I cs' arr'
  | [], rs, cs, cs', arr, hc, hf, hcr => by
    obtain rfl := Option.some.inj hc
    obtain rfl := Option.some.inj hf
    exact ⟨arr, rfl, hcr⟩
  | (j, x) :: ps, rs, cs, cs', arr, hc, hf, hcr => by
    simp only [cFields] at hc
    split at hc
    · rename_i f y r hfj hy hr
      split at hc
      · rename_i i hi
        obtain rfl := Option.some.inj hc
        simp only [fillP] at hf
        split at hf
        · rename_i hok
          split at hf
          · rename_i hin
            rw [len_length] at hin
            have hrep := (arg_rep hy hs).toRep (okCells_iff hok).2.2
            obtain ⟨arr', h1, h2⟩ := fillP_fill hs hpl ps r _ cs' _ hr hf (hcr.put hrep hok hin)
            refine ⟨arr', ?_, h2⟩
            rw [List.map_cons, fill_step (hpl j f i hfj hi) (hrep.cells hok).1 (by rw [hcr.size]; exact hin)]
            exact h1
          · cases hf
        · cases hf
      · cases hc
    · cases hc

theorem all_some_mapM {fs : List Field} (h : fs.all (fun f => (tInfo P f.type).isSome) = true) :
    ∃ places, fs.mapM (fun f => (P.info? f.type).map fun i => (f.offset, i.size)) = some places ∧ ∀ (j : Nat) (f : Field) (i : TypeInfo), fs[j]? = some f → P.info? f.type = some i → places[j]? = some (f.offset, i.size) := by
  induction fs with
  | nil => exact ⟨[], by simp, fun j f i hj => by simp at hj⟩
  | cons f fs ih =>
    simp only [List.all_cons, Bool.and_eq_true] at h
    obtain ⟨places, h1, h2⟩ := ih h.2
    obtain ⟨i, hi⟩ := Option.isSome_iff_exists.1 h.1
    refine ⟨(f.offset, i.size) :: places, by simp [List.mapM_cons, show P.info? f.type = some i from hi, h1], ?_⟩
    intro j g k hj hk
    cases j with
    | zero =>
      simp only [List.getElem?_cons_zero, Option.some.injEq] at hj
      subst hj
      rw [show P.info? f.type = some i from hi] at hk
      obtain rfl := Option.some.inj hk
      rfl
    | succ j => simpa using h2 j g k (by simpa using hj) hk

theorem build_good (hs : Sim C I β st a w) {t : TypeId} {ps : Array (Nat × Operand)} {o : Oper} (ho : o.op = .build t ps) {n by_ : Nat} {cs0 : List DV} (hz : cZero P t = some (n, by_, .agg cs0)) {fs : Array Field}
    (hu : P.underlying t = some (.struct fs)) (hall : fs.toList.all (fun f => (tInfo P f.type).isSome) = true) {rs : List (Nat × Nat × Arg)} (hc : cFields P fs ps.toList = some rs) {cs : List DV} (hf : fillP st rs cs0 = some cs) :
    Good P I β w a o (.agg cs) := by
  obtain ⟨i, zv, h1, h2, rfl, rfl, h4, h5, h6⟩ := cZero_ok hz
  obtain ⟨places, p1, p2⟩ := all_some_mapM hall
  have hzc : CR I cs0 zv.cells := by
    have hr := h6 I
    obtain ⟨q1, q2, _⟩ := okCells_iff h5
    obtain ⟨c1, c2, _⟩ := hr.cells h5
    simp only [cells] at q1 q2 c2
    exact ⟨by omega, fun j hj => c2 j (by omega), fun j hj => q2 j (by omega)⟩
  obtain ⟨arr', f1, f2⟩ := fillP_fill hs (place := (places.toArray[·]?)) (fun j f i hj hi => by simpa using p2 j f i (by simpa using hj) hi) ps.toList rs cs0 cs zv.cells hc hf hzc
  have hrun := run_build (P := P) w t (ps.map fun p => (p.1, a.eval p.2)) arr' (by simp only [Program.built, h1, hu, h2, p1]; simpa using f1)
  exact ⟨.agg arr', by simp [execOp, ho, hrun], .pure (.agg cs arr' f2.size f2.cell f2.rep)⟩

theorem build_lands (hs : Sim C I β st a w) {t : TypeId} {ps : Array (Nat × Operand)} {o : Oper} (ho : o.op = .build t ps) {n by_ : Nat} {cs0 : List DV} (hz : cZero P t = some (n, by_, .agg cs0)) {fs : Array Field}
    (hu : P.underlying t = some (.struct fs)) (hall : fs.toList.all (fun f => (tInfo P f.type).isSome) = true) {rs : List (Nat × Nat × Arg)} (hc : cFields P fs ps.toList = some rs) {cs : List DV} (hf : fillP st rs cs0 = some cs)
    {K : DV → St → Prop} (hK : K (.agg cs) st) : ∃ v w', (execOp a.eval o).run P w = .ok (.value v) w' ∧ Lands C a K v w' := by
  obtain ⟨rv, h1, h2⟩ := build_good hs ho hz hu hall hc hf
  exact ⟨rv, w, h1, I, β, _, st, hs, h2, hK⟩

theorem fillS_fill (hs : Sim C I β st a w) {sz n : Nat} : ∀ (ps : List (Nat × Operand)) (rs : List (Nat × Arg)) (el : Nat → DV) (arr : Array Value), cParts n ps = some rs → partsOk sz st rs = true → arr.size = n * sz →
    (∀ i < n, elemOk sz (el i)) → (∀ i j, i < n → j < sz → Rep I (nth (cells (el i)) j) (arr.getD (i * sz + j) undef)) →
    ∃ arr', Instr.fill (fun i => some (i * sz, sz)) arr (ps.map fun p => (p.1, a.eval p.2)) = some arr' ∧ arr'.size = n * sz ∧
      ∃ el' : Nat → DV, (∀ i, el' i = elemD st i (el i) rs) ∧ (∀ i < n, elemOk sz (el' i)) ∧ (∀ i j, i < n → j < sz → Rep I (nth (cells (el' i)) j) (arr'.getD (i * sz + j) undef))
  | [], rs, el, arr, hc, hok, hsz, he, hr => by
    obtain rfl := Option.some.inj hc
    exact ⟨arr, rfl, hsz, el, fun i => rfl, he, hr⟩
  | (j, x) :: ps, rs, el, arr, hc, hok, hsz, he, hr => by
    simp only [cParts] at hc
    split at hc
    · rename_i y r hy hr'
      split at hc
      · rename_i hj
        obtain rfl := Option.some.inj hc
        simp only [partsOk] at hok
        split at hok
        · rename_i hok1
          obtain ⟨k1, k2, k3⟩ := okCells_iff hok1
          have hrep := (arg_rep hy hs).toRep k3
          obtain ⟨c1, c2, _⟩ := hrep.cells hok1
          have hjn : j * sz + sz ≤ n * sz := by
            have := Nat.mul_le_mul_right sz (show j + 1 ≤ n by omega)
            rw [Nat.add_mul] at this
            omega
          obtain ⟨g1, g2⟩ := foldl_set (a.eval x).cells.toList (j * sz) 0 arr
          have e : (a.eval x).cells.zipIdx.foldl (fun cs p => cs.setIfInBounds (j * sz + p.2) p.1) arr = ((a.eval x).cells.toList.zipIdx 0).foldl (fun cs p => cs.setIfInBounds (j * sz + p.2) p.1) arr := by
            rw [← Array.foldl_toList]; simp
          have hcl : (a.eval x).cells.toList.length = sz := by simpa using c1
          have g3 := g2 (by omega)
          obtain ⟨arr', f1, f2, el', f3, f4, f5⟩ := fillS_fill hs ps r (fun i => if j = i then ev st y else el i) (((a.eval x).cells.toList.zipIdx 0).foldl (fun cs p => cs.setIfInBounds (j * sz + p.2) p.1) arr) hr' hok (by rw [g1]; exact hsz)
            (fun i hi => by split; exact ⟨k1, k2⟩; exact he i hi)
            (fun i q hi hq => by
              rw [g3]
              by_cases hij : j = i
              · subst hij
                rw [if_pos rfl, if_pos (by omega)]
                have := c2 q hq
                rw [show j * sz + q - (j * sz + 0) = q by omega]
                simpa [Array.getD_eq_getD_getElem?, List.getD] using this
              · rw [if_neg hij, if_neg]
                · exact hr i q hi hq
                · intro hcon
                  have h1 : j * sz ≤ i * sz + q ∧ i * sz + q < j * sz + sz := by omega
                  rcases Nat.lt_or_gt_of_ne hij with hlt | hgt
                  · have := Nat.mul_le_mul_right sz (show j + 1 ≤ i by omega)
                    rw [Nat.add_mul] at this
                    omega
                  · have := Nat.mul_le_mul_right sz (show i + 1 ≤ j by omega)
                    rw [Nat.add_mul] at this
                    omega)
          refine ⟨arr', ?_, f2, el', f3, f4, f5⟩
          rw [List.map_cons, fill_step (i := j) (off := j * sz) (n := sz) rfl c1 (by omega), e]
          exact f1
        · cases hok
      · cases hc
    · cases hc
end
end Go.Sx
