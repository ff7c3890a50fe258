import Derived.Test.YtppaakckfolhlaaSxQuiet4
import Derived.Great.BuildSlice
import Derived.Laws.MakeOwn
namespace Go.Sx

section
variable {P : Program} {md : Modes} {C : Ctx} {I : Imm} {β : Nat → Option Loc} {st : St} {a : Act} {w : World}

theorem nth_elemsL (zero : DV) (st : St) (ps : List (Nat × Arg)) : ∀ (n s i : Nat), i < n → nth (elemsL zero st ps n s) i = elemD st (s + i) zero ps
  | 0, _, _, h => by omega
  | n + 1, s, 0, _ => by simp [elemsL, nth]
  | n + 1, s, i + 1, h => by
    simp only [elemsL, nth]
    rw [nth_elemsL zero st ps n (s + 1) i (by omega)]
    congr 1
    omega
theorem elemsL_length (zero : DV) (st : St) (ps : List (Nat × Arg)) : ∀ (n s : Nat), (elemsL zero st ps n s).length = n
  | 0, _ => rfl
  | n + 1, s => by simp [elemsL, elemsL_length zero st ps n (s + 1)]
theorem elems_at (zero : DV) (st : St) (n : Nat) (ps : List (Nat × Arg)) {i : Nat} (h : i < n) : elems zero st n ps i = elemD st i zero ps := by
  have h1 := nth_elemsL zero st ps n 0 i h
  have h2 := elemsL_length zero st ps n 0
  unfold elems
  generalize elemsL zero st ps n 0 = l at h1 h2
  unfold elemsF
  split
  · rename_i d
    simp at h2
    have : i = 0 := by omega
    subst this
    simpa [nth] using h1
  · simpa using h1

theorem zero_cells {z : Array Value} {n sz i j : Nat} (hz : z.size = sz) (hi : i < n) (hj : j < sz) : ((Array.range (n * sz)).map fun k => z[k % z.size]!).getD (i * sz + j) undef = z.getD j undef := by
  have hlt : i * sz + j < n * sz := by
    have := Nat.mul_le_mul_right sz (show i + 1 ≤ n by omega)
    rw [Nat.add_mul] at this
    omega
  have hm : (i * sz + j) % z.size = j := by rw [hz, Nat.mul_comm, Nat.mul_add_mod, Nat.mod_eq_of_lt hj]
  simp [Array.getD_eq_getD_getElem?, hlt, hm, show j < z.size by omega]

theorem getElem?_of_getD {arr : Array Value} {k : Nat} (h : k < arr.size) : arr[k]? = some (arr.getD k undef) := by simp [Array.getD, h]

theorem ref_new {κ b sz n0 tot n cap : Nat} (h1 : n ≤ cap) (h2 : n ≤ n0) (h3 : cap * sz ≤ tot) : RepK I (updB β κ ⟨some b, 0, sz, n0, tot⟩) (.ref κ 0 n) (.slice (some ⟨b, 0, none⟩) n cap) :=
  .ref κ 0 n cap ⟨some b, 0, sz, n0, tot⟩ b _ (by simp [updB]) rfl h1 (by simpa using h2) (by simpa using h3) (fun _ => by simp)

theorem buildSlice_lands (hs : Sim C I β st a w) {t e : TypeId} {n : Nat} {ps : Array (Nat × Operand)} {o : Oper} (ho : o.op = .buildSlice t n ps) {sz by_ : Nat} {z : DV} (ht : P.underlying t = some (.slice e)) (hz : cZero P e = some (sz, by_, z))
    (hsmall : n * sz ≤ 100000) {rs : List (Nat × Arg)} (hc : cParts n ps.toList = some rs) (hok : partsOk sz st rs = true) {κ : Nat} {K : DV → St → Prop}
    (hK : addRow st κ (.arr sz n (elems z st n rs)) fun st => K (.ref κ 0 n) st) : ∃ v w', (execOp a.eval o).run P w = .ok (.value v) w' ∧ Lands C a K v w' := by
  obtain ⟨i, zv, h1, h2, rfl, rfl, h4, h5, h6⟩ := cZero_ok hz
  obtain ⟨hκ, hl, hk⟩ := addRow_iff hK
  obtain ⟨q1, q2, _⟩ := okCells_iff h5
  obtain ⟨c1, c2, _⟩ := (h6 I).cells h5
  have hsz0 : ((Array.range (n * i.size)).map fun k => zv.cells[k % zv.cells.size]!).size = n * i.size := by simp
  obtain ⟨arr', f1, f2, el', f3, f4, f5⟩ := fillS_fill hs ps.toList rs (fun _ => z) ((Array.range (n * i.size)).map fun k => zv.cells[k % zv.cells.size]!) hc hok hsz0 (fun _ _ => ⟨q1, q2⟩) (fun i' j hi hj => by
    rw [zero_cells c1 hi hj]; exact c2 j hj)
  have hrun : (Instr.buildSlice t n (ps.map fun p => (p.1, a.eval p.2))).run P w = .ok (.slice (some ⟨w.heap.size, 0, none⟩) n n) (w.alloc (.cells arr' e)) := by
    by_cases hp : n * i.size = 0
    · have hn0 : n = 0 := by
        rcases Nat.mul_eq_zero.1 hp with h | h
        · exact h
        · omega
      subst hn0
      have hps : ps = #[] := by
        have : ps.toList = [] := by
          cases hpl : ps.toList with
          | nil => rfl
          | cons p r =>
            obtain ⟨j, x⟩ := p
            rw [hpl] at hc
            simp only [cParts] at hc
            split at hc
            · split at hc
              · omega
              · cases hc
            · cases hc
        simpa using this
      subst hps
      have ha : arr' = #[] := Array.eq_empty_of_size_eq_zero (by omega)
      subst ha
      simp [Instr.buildSlice, run_underlying ht, sizeOf, typeInfo, h1, Instr.fill, newRow, Array.range_zero']
    · exact run_buildSlice w t e n _ arr' i zv ht h1 h2 (by omega) hp (by simpa using f1)
  obtain ⟨s1, s2⟩ := hs.alloc (r := .arr i.size n (elems z st n rs)) (arr := arr') (ty := e) hκ hl h4 (by simp only [Row.n, Row.sz]; omega) (fun k hk => by
      simp only [Row.n] at hk
      simp only [Row.sz, Row.f]
      rw [elems_at _ _ _ _ hk, ← f3]
      exact f4 k hk) (fun k j hk hj => by
      simp only [Row.n] at hk
      simp only [Row.sz] at hj ⊢
      simp only [Row.f]
      rw [elems_at _ _ _ _ hk, ← f3]
      have hlt : k * i.size + j < arr'.size := by
        have := Nat.mul_le_mul_right i.size (show k + 1 ≤ n by omega)
        rw [Nat.add_mul] at this
        omega
      exact ⟨_, getElem?_of_getD hlt, f5 k j hk hj⟩)
  refine ⟨.slice (some ⟨w.heap.size, 0, none⟩) n n, w.alloc (.cells arr' e), by simp [execOp, ho, hrun], _, _, _, _, s1, ?_, hk⟩
  exact ref_new (Nat.le_refl _) (Nat.le_refl _) (by simp only [Row.sz]; omega)

theorem makeSlice_lands (hs : Sim C I β st a w) {t e : TypeId} {l c : Operand} {o : Oper} (ho : o.op = .makeSlice t l c) {sz by_ : Nat} {z : DV} (ht : P.underlying t = some (.slice e)) (hz : cZero P e = some (sz, by_, z)) (hby : 0 < by_)
    {x y : Arg} (hx : cArg l = some x) (hy : cArg c = some y) {κ : Nat} {K : DV → St → Prop} (hK : makeV (std P) sz by_ z κ st (ev st x) (ev st y) K) :
    ∃ v w', (execOp a.eval o).run P w = .ok (.value v) w' ∧ Lands C a K v w' := by
  obtain ⟨i, zv, h1, h2, rfl, rfl, h4, h5, h6⟩ := cZero_ok hz
  unfold makeV at hK
  split at hK
  · rename_i kl ln kc cn e1 e2
    have hl := arg_rep hx hs
    have hc := arg_rep hy hs
    rw [e1] at hl
    rw [e2] at hc
    have v1 := hl.inv_int
    have v2 := hc.inv_int
    obtain ⟨hmk, hadd⟩ := hK
    obtain ⟨hκ, hlk, hk⟩ := addRow_iff hadd
    simp only [std] at hmk hlk hk hadd
    obtain ⟨g0, g1, g2⟩ := hmk
    obtain ⟨q1, q2, _⟩ := okCells_iff h5
    obtain ⟨c1, c2, _⟩ := (h6 I).cells h5
    have hcn : cn ≤ 140737488355328 := by
      have : cn * 1 ≤ cn * (i.bytes : Int) := Int.mul_le_mul_of_nonneg_left (by omega) (by omega)
      omega
    have hb : (i.bytes : Int) * cn ≤ 281474976710656 := by rw [Int.mul_comm]; omega
    have hrun := run_make (P := P) w t e i zv ht h1 h2 kl kc ln cn g0 g1 hb (by omega)
    have hln : ln.toNat ≤ cn.toNat := by omega
    have hms : (madeCells zv.cells (cn.toNat * i.size)).size = cn.toNat * i.size := size_madeCells _ _
    obtain ⟨s1, s2⟩ := hs.alloc (r := .arr i.size ln.toNat (fun _ => z)) (arr := madeCells zv.cells (cn.toNat * i.size)) (ty := e) hκ hlk h4 (by
        simp only [Row.n, Row.sz]
        rw [hms]; exact Nat.mul_le_mul_right _ hln) (fun k hk => ⟨q1, q2⟩) (fun k j hk hj => by
        simp only [Row.n] at hk
        simp only [Row.sz] at hj ⊢
        simp only [Row.f]
        have hlt : k * i.size + j < (madeCells zv.cells (cn.toNat * i.size)).size := by
          rw [hms]
          have := Nat.mul_le_mul_right i.size (show k + 1 ≤ cn.toNat by omega)
          rw [Nat.add_mul] at this
          omega
        refine ⟨_, getElem?_of_getD hlt, ?_⟩
        have := zero_cells (z := zv.cells) (n := cn.toNat) (sz := i.size) (i := k) (j := j) c1 (by omega) hj
        unfold madeCells
        rw [this]
        exact c2 j hj)
    refine ⟨.slice (some ⟨w.heap.size, 0, none⟩) ln.toNat cn.toNat, w.alloc (.cells (madeCells zv.cells (cn.toNat * i.size)) e), by simp [execOp, ho, v1, v2, hrun], _, _, _, _, s1, ?_, hk⟩
    exact ref_new hln (Nat.le_refl _) (by simp only [Row.sz]; rw [hms]; exact Nat.le_refl _)
  · exact hK.elim

/-- A row's cells, some of them written. -/
theorem RowAt.write {l : Loc} {r r' : Row} {b : Nat} (h : RowAt I w l r b) (hsz : r'.sz = r.sz) (hn : r'.n = r.n) {o : Nat} {vs : List Value} (hin : o + vs.length ≤ l.tot) (helem : ∀ i < r.n, elemOk r.sz (r'.f i))
    (hval : ∀ i j, i < r.n → j < r.sz → (o ≤ l.off + i * r.sz + j ∧ l.off + i * r.sz + j < o + vs.length → Rep I (nth (cells (r'.f i)) j) (vs.getD (l.off + i * r.sz + j - o) undef)) ∧
      (¬ (o ≤ l.off + i * r.sz + j ∧ l.off + i * r.sz + j < o + vs.length) → nth (cells (r'.f i)) j = nth (cells (r.f i)) j)) :
    RowAt I (w.setCells b o vs) l r' b where
  there := fun j hj => World.isSome_setCells b vs o w _ (h.there j hj)
  val := fun i j hi hj => by
    rw [hn] at hi
    rw [hsz] at hj ⊢
    obtain ⟨g1, g2⟩ := hval i j hi hj
    by_cases hk : o ≤ l.off + i * r.sz + j ∧ l.off + i * r.sz + j < o + vs.length
    · have hlt : l.off + i * r.sz + j - o < vs.length := by omega
      have := World.cell?_setCells_in b vs o w (fun q hq => h.there _ (by omega)) (l.off + i * r.sz + j - o) hlt
      rw [show o + (l.off + i * r.sz + j - o) = l.off + i * r.sz + j by omega] at this
      refine ⟨_, this, ?_⟩
      have := g1 hk
      simpa [List.getD, List.getElem?_eq_getElem hlt] using this
    · obtain ⟨v, h1, h2⟩ := h.val i j hi hj
      refine ⟨v, ?_, by rw [g2 hk]; exact h2⟩
      rw [World.cell?_setCells_out b vs o w _ (fun _ _ => by dsimp only; omega)]
      exact h1
  free := fun q hq => by rw [World.frozen?_setCells]; exact h.free q hq
  fits := by rw [hn, hsz]; exact h.fits
  apart := h.apart
  elem := fun i hi => by rw [hsz]; exact helem i (by omega)

theorem RowOk.write {l : Loc} {r r' : Row} {b : Nat} (h : RowOk I w l r) (hb : l.blk = some b) (hsz : r'.sz = r.sz) (hn : r'.n = r.n) {w' : World} (h' : RowAt I w' l r' b) : RowOk I w' l r' :=
  ⟨h.sz.trans hsz.symm, h.n.trans hn.symm, by rw [hsz]; exact h.pos, fun b' hb' => by rw [hb] at hb'; obtain rfl := Option.some.inj hb'; exact h', fun hb' => by rw [hb] at hb'; cases hb'⟩

theorem run_storeAt_cells {t : TypeId} {i : TypeInfo} (hi : P.info? t = some i) {b o : Nat} {v : Value} (hsz : v.cells.size = i.size) (h1 : ∀ j < i.size, (v.cells.getD j undef).oneCell' = true)
    (hc : ∀ j < i.size, (w.cell? ⟨b, o + j, none⟩).isSome = true) (hf : ∀ j < i.size, w.frozen? ⟨b, o + j, none⟩ = false) :
    (Instr.storeAt t (.pointer (some ⟨b, o, none⟩)) v).run P w = .ok () (w.setCells b o v.cells.toList) := by
  have hst := run_storeCells_cells (P := P) b o v.cells.toList 0 w (fun j hj => hc j (by simpa [hsz] using hj)) (fun j hj => hf j (by simpa [hsz] using hj)) (fun u hu => by
    obtain ⟨j, hj, rfl⟩ := List.mem_iff_getElem.1 hu
    have hj' : j < v.cells.size := by simpa using hj
    have := h1 j (by omega)
    simpa [Array.getD, hj'] using this)
  simp [Instr.storeAt, Instr.sureAddr, storeVar, sizeOf, typeInfo, hi, hsz, hst]

theorem setCells_elem {sz off n : Nat} {d : DV} {vs : List DV} (hd : elemOk sz d) (hvs : vs.length = n) (hc : ∀ j < n, isCell (nth vs j) = true) (hin : off + n ≤ sz) (hn : 0 < n) :
    elemOk sz (setCells d off vs) ∧ ∀ j < sz, nth (cells (setCells d off vs)) j = if off ≤ j ∧ j < off + n then nth vs (j - off) else nth (cells d) j := by
  obtain ⟨h1, h2⟩ := hd
  cases d with
  | agg cs =>
    simp only [setCells, cells] at h1 h2 ⊢
    have hover := fun j => nth_over cs off vs j (by omega)
    rw [hvs] at hover
    refine ⟨⟨by simp only [cells]; rw [over_length]; exact h1, fun j hj => ?_⟩, fun j hj => hover j⟩
    simp only [cells]
    rw [hover]
    split
    · exact hc _ (by omega)
    · exact h2 j hj
  | _ =>
    simp only [cells] at h1
    have hs1 : sz = 1 := by simpa using h1.symm
    have hoff : off = 0 := by omega
    have hn1 : n = 1 := by omega
    subst hs1 hoff hn1
    simp only [setCells]
    have hc0 := hc 0 (by omega)
    have hcells : cells (nth vs 0) = [nth vs 0] := by
      cases hv : nth vs 0 <;> first | rfl | (rw [hv] at hc0; cases hc0)
    refine ⟨⟨by rw [hcells]; rfl, fun j hj => ?_⟩, fun j hj => ?_⟩
    · have : j = 0 := by omega
      subst this
      rw [hcells]; simpa [nth] using hc0
    · have : j = 0 := by omega
      subst this
      rw [hcells]; simp [nth]
end
end Go.Sx
