import Derived.Test.YtgiimddboaoneaaSxA
import Derived.Great.BuildSlice
import Derived.Laws.MakeOwn
import Derived.Deep.Upon
import Derived.Laws.IdiomStrings
import Derived.Tactics
namespace Go.Sx
section
variable {P : Program} {md : Modes} {C : Ctx} {I : Imm} {β : Nat → Option Loc} {st : St} {a : Act} {w : World}

theorem quiet_sound (hs : Sim C I β st a w) {op : Op} {r : ROp} (hc : cOp P md op = some r) {ob : Prop} {v : DV} (hq : quietV (std P) st r = some (ob, v)) (hob : ob) {o : Oper} (ho : o.op = op) : Good P I β w a o v := by
  cases op with
  | move x =>
    simp only [cOp, Option.map_eq_some_iff] at hc
    obtain ⟨y, hy, rfl⟩ := hc
    simp only [quietV, Option.some.injEq, Prod.mk.injEq] at hq
    obtain ⟨_, rfl⟩ := hq
    exact ⟨a.eval x, by simp [execOp, ho], arg_rep hy hs⟩
  | assign x =>
    simp only [cOp, Option.map_eq_some_iff] at hc
    obtain ⟨y, hy, rfl⟩ := hc
    simp only [quietV, Option.some.injEq, Prod.mk.injEq] at hq
    obtain ⟨_, rfl⟩ := hq
    exact ⟨a.eval x, by simp [execOp, ho], arg_rep hy hs⟩
  | load t x =>
    simp only [cOp] at hc
    split at hc
    · rename_i g n y ht hy
      obtain rfl := Option.some.inj hc
      simp only [quietV, Option.some.injEq] at hq
      obtain ⟨rv, h1, h2⟩ := load_good hs ht hq hob (arg_rep hy hs)
      exact ⟨rv, by simp [execOp, ho, h1], .pure h2⟩
    · cases hc
  | nilCheck x =>
    simp only [cOp, Option.map_eq_some_iff] at hc
    obtain ⟨y, hy, rfl⟩ := hc
    simp only [quietV, Option.some.injEq] at hq
    exact nilCheck_good ho hq hob (arg_rep hy hs)
  | binOp op t x y yt =>
    simp only [cOp] at hc
    split at hc
    · rename_i d e hx hy
      have plain : ∀ {c : Nat}, some (ROp.binOp c op d e) = some r → ClsOk P t c → Good P I β w a o v := by
        intro c h1 h2
        obtain rfl := Option.some.inj h1
        simp only [quietV, Option.some.injEq] at hq
        exact bin_good ho h2 hq hob (arg_rep hx hs) (arg_rep hy hs)
      split at hc
      · exact plain hc trivial
      · exact plain hc trivial
      · rename_i ht; exact plain hc ht
      · rename_i ht; exact plain hc ⟨_, ht⟩
      · rename_i fs ht
        split at hc
        · rename_i l hl
          split at hc
          · cases hc
          · rename_i hst
            have hst : P.stoodInHeld t = false := by simpa using hst
            split at hc
            · obtain rfl := Option.some.inj hc
              simp only [quietV, Option.some.injEq] at hq
              exact eqS_good ho (.inl ⟨rfl, rfl⟩) ht hl hst hq hob (arg_rep hx hs) (arg_rep hy hs)
            · obtain rfl := Option.some.inj hc
              simp only [quietV, Option.some.injEq] at hq
              exact eqS_good ho (.inr ⟨rfl, rfl⟩) ht hl hst hq hob (arg_rep hx hs) (arg_rep hy hs)
            · cases hc
        · cases hc
      · split at hc
        · obtain rfl := Option.some.inj hc; cases hq
        · obtain rfl := Option.some.inj hc; cases hq
        · cases hc
      · cases hc
    · cases hc
  | unOp op t x =>
    simp only [cOp, Option.map_eq_some_iff] at hc
    obtain ⟨y, hy, rfl⟩ := hc
    simp only [quietV, Option.some.injEq] at hq
    exact un_good ho hq hob (arg_rep hy hs)
  | convert s t x =>
    simp only [cOp] at hc
    split at hc
    · rename_i y hy
      have hr := arg_rep hy hs
      split at hc
      · rename_i k0 k h1 h2
        obtain rfl := Option.some.inj hc
        simp only [quietV, Option.some.injEq] at hq
        split at hq
        · rename_i k1 n he
          obtain ⟨_, rfl⟩ := Prod.mk.inj hq
          rw [he] at hr
          exact convI_good ho h1 h2 hr
        · exact (no_false hq hob).elim
      · rename_i h1 h2
        obtain rfl := Option.some.inj hc
        simp only [quietV, Option.some.injEq] at hq
        split at hq
        · rename_i z he
          obtain ⟨_, rfl⟩ := Prod.mk.inj hq
          rw [he] at hr
          exact convS_good ho h1 h2 hr
        · exact (no_false hq hob).elim
      · split at hc
        · obtain rfl := Option.some.inj hc
          cases hq
        · cases hc
      · rename_i el h1 h2
        split at hc
        · rename_i he
          obtain rfl := Option.some.inj hc
          simp only [quietV, Option.some.injEq] at hq
          have he' : P.underlying el = some (.int .u8) := by
            unfold tInt at he
            split at he
            · rename_i k hk; obtain rfl := Option.some.inj he; exact hk
            · cases he
          exact toStr_good hs ho h1 he' h2 hq hob hr
        · cases hc
      · split at hc
        · split at hc
          · obtain rfl := Option.some.inj hc; cases hq
          · cases hc
        · cases hc
      · cases hc
    · cases hc
  | slice t x lo hi mx =>
    simp only [cOp] at hc
    split at hc
    · rename_i y l h m hy hl hh hm
      split at hc
      · rename_i e he
        split at hc
        · rename_i i hi'
          split at hc
          · rename_i hcond
            obtain ⟨hpos, hmh⟩ := hcond
            obtain rfl := Option.some.inj hc
            simp only [quietV, Option.some.injEq] at hq
            refine slice_good hs ho hl hh hm ?_ (.inl ⟨e, i, he, hi', rfl, hpos⟩) hq hob (arg_rep hy hs)
            intro h1 h2
            subst h2
            cases mx with
            | none => exact h1 rfl
            | some _ => simp at hmh
          · cases hc
        · cases hc
      · rename_i he
        split at hc
        · rename_i hcond
          obtain rfl := Option.some.inj hc
          simp only [quietV, Option.some.injEq] at hq
          refine slice_good hs ho hl hh hm ?_ (.inr ⟨he, rfl⟩) hq hob (arg_rep hy hs)
          intro h1
          cases mx with
          | none => exact absurd rfl h1
          | some _ => simp at hcond
        · cases hc
      · cases hc
    · cases hc
  | fieldAddr s x j =>
    simp only [cOp] at hc
    split at hc
    · rename_i fs y hs' hy
      split at hc
      · rename_i f hf
        split at hc
        · rename_i i hi
          split at hc
          · rename_i hpos
            obtain rfl := Option.some.inj hc
            simp only [quietV, Option.some.injEq] at hq
            exact fieldAddr_good ho hs' hf hi hpos hq hob (arg_rep hy hs)
          · cases hc
        · cases hc
      · cases hc
    · cases hc
  | field s x j =>
    simp only [cOp] at hc
    split at hc
    · rename_i fs y hs' hy
      split at hc
      · rename_i f hf
        split at hc
        · rename_i g n hi
          obtain rfl := Option.some.inj hc
          simp only [quietV, Option.some.injEq] at hq
          have hr := arg_rep hy hs
          split at hq
          · rename_i cs he
            rw [he] at hr
            exact field_good ho hs' hf hi hq hob hr
          · exact (no_false hq hob).elim
        · cases hc
      · cases hc
    · cases hc
  | indexAddr t x i =>
    simp only [cOp] at hc
    split at hc
    · rename_i e y z ht hy hz
      split at hc
      · rename_i ti hti
        obtain rfl := Option.some.inj hc
        simp only [quietV, Option.some.injEq] at hq
        have ht' : P.underlying t = some (.slice e) := by
          unfold tElem at ht
          split at ht
          · rename_i k hk; obtain rfl := Option.some.inj ht; exact hk
          · cases ht
        exact indexAddr_good hs ho ht' hti hq hob (arg_rep hy hs) (arg_rep hz hs)
      · cases hc
    · cases hc
  | index t x i =>
    simp only [cOp] at hc
    split at hc
    · rename_i y z ht hy hz
      obtain rfl := Option.some.inj hc
      simp only [quietV, Option.some.injEq] at hq
      exact index_good ho ht hq hob (arg_rep hy hs) (arg_rep hz hs)
    · cases hc
  | extract x j =>
    simp only [cOp, Option.map_eq_some_iff] at hc
    obtain ⟨y, hy, rfl⟩ := hc
    simp only [quietV, Option.some.injEq] at hq
    have hr := arg_rep hy hs
    split at hq
    · rename_i ds he
      split at hq
      · rename_i hj
        obtain ⟨_, rfl⟩ := Prod.mk.inj hq
        rw [he] at hr
        rw [len_length] at hj
        exact extract_good ho hj hr
      · exact (no_false hq hob).elim
    · exact (no_false hq hob).elim
  | makeFunc f x y =>
    cases f with
    | func g =>
      simp only [cOp] at hc
      split at hc
      · rename_i p q hp hq'
        obtain rfl := Option.some.inj hc
        simp only [quietV, Option.some.injEq, Prod.mk.injEq] at hq
        obtain ⟨_, rfl⟩ := hq
        exact makeFunc_good hs ho hp hq'
      · cases hc
    | _ => simp only [cOp] at hc; cases hc
  | call c =>
    simp only [cOp] at hc
    split at hc
    · rename_i f hcal
      unfold cCall at hc
      split at hc
      · split at hc
        · obtain rfl := Option.some.inj hc
          split at hq <;> first | (cases hq; done) | (split at hq <;> cases hq)
        · obtain rfl := Option.some.inj hc
          cases hq
      · cases hc
    · rename_i hcal
      split at hc
      · rename_i x t ts hargs hts
        split at hc
        · rename_i y hy ht
          obtain rfl := Option.some.inj hc
          simp only [quietV, Option.some.injEq] at hq
          exact len_good hs ho hcal hargs hts (sb := true) ht hq hob (arg_rep hy hs)
        · rename_i y e hy ht
          obtain rfl := Option.some.inj hc
          simp only [quietV, Option.some.injEq] at hq
          exact len_good hs ho hcal hargs hts (sb := false) ⟨e, ht⟩ hq hob (arg_rep hy hs)
        · cases hc
      · cases hc
    · rename_i hcal
      simp only [Option.map_eq_some_iff] at hc
      obtain ⟨xs, hxs, rfl⟩ := hc
      simp only [quietV, Option.some.injEq] at hq
      exact max_good hs ho hcal hxs hq hob
    · rename_i hcal
      simp only [Option.map_eq_some_iff] at hc
      obtain ⟨xs, hxs, rfl⟩ := hc
      simp only [quietV, Option.some.injEq] at hq
      exact min_good hs ho hcal hxs hq hob
    · split at hc
      · split at hc
        · split at hc
          · split at hc
            · obtain rfl := Option.some.inj hc; cases hq
            · cases hc
          · split at hc
            · obtain rfl := Option.some.inj hc; cases hq
            · cases hc
          · cases hc
        · cases hc
      · cases hc
    · split at hc
      · split at hc
        · split at hc
          · obtain rfl := Option.some.inj hc; cases hq
          · cases hc
        · cases hc
      · cases hc
    · split at hc
      · split at hc
        · split at hc
          · obtain rfl := Option.some.inj hc; cases hq
          · cases hc
        · cases hc
      · cases hc
    · cases hc
  | pick c x y =>
    simp only [cOp] at hc
    split at hc
    · obtain rfl := Option.some.inj hc; cases hq
    · cases hc
  | alloc t =>
    simp only [cOp] at hc
    split at hc
    · obtain rfl := Option.some.inj hc; cases hq
    · cases hc
  | box t x =>
    simp only [cOp] at hc
    split at hc
    · split at hc
      · obtain rfl := Option.some.inj hc; cases hq
      · cases hc
    · cases hc
  | build t ps =>
    simp only [cOp] at hc
    split at hc
    · rename_i sz by_ cs fs hz hu
      split at hc
      · rename_i rs hr
        split at hr
        · rename_i hall
          split at hc
          · obtain rfl := Option.some.inj hc
            simp only [quietV, Option.some.injEq] at hq
            split at hq
            · rename_i cs' hf
              obtain ⟨_, rfl⟩ := Prod.mk.inj hq
              exact build_good hs ho hz hu hall hr hf
            · exact (no_false hq hob).elim
          · obtain rfl := Option.some.inj hc; cases hq
        · cases hr
      · cases hc
    · cases hc
  | buildSlice t n ps =>
    simp only [cOp] at hc
    split at hc
    · split at hc
      · split at hc
        · obtain rfl := Option.some.inj hc; cases hq
        · cases hc
      · cases hc
    · cases hc
  | store t x y =>
    simp only [cOp] at hc
    split at hc
    · split at hc
      · obtain rfl := Option.some.inj hc; cases hq
      · cases hc
    · cases hc
  | makeSlice t l c =>
    simp only [cOp] at hc
    split at hc
    · split at hc
      · split at hc
        · obtain rfl := Option.some.inj hc; cases hq
        · cases hc
      · cases hc
    · cases hc
  | _ => simp only [cOp] at hc; cases hc
end
end Go.Sx
namespace Go.Sx

section
variable {P : Program} {md : Modes} {C : Ctx} {I : Imm} {β : Nat → Option Loc} {st : St} {a : Act} {w : World}

theorem nth_elemsL (zero : DV) (st : St) (ps : List (Nat × Arg)) : ∀ (n s i : Nat), i < n → nth (elemsL zero st ps n s) i = elemD st (s + i) zero ps
  | 0, _, _, h => by omega
  | n + 1, s, 0, _ => by simp [elemsL, nth]
  | n + 1, s, i + 1, h => by
    simp only [elemsL, nth]
    rw [nth_elemsL zero st ps n (s + 1) i (by omega)]
    congr 1
    omega
theorem elemsL_length (zero : DV) (st : St) (ps : List (Nat × Arg)) : ∀ (n s : Nat), (elemsL zero st ps n s).length = n
  | 0, _ => rfl
  | n + 1, s => by simp [elemsL, elemsL_length zero st ps n (s + 1)]
theorem elems_at (zero : DV) (st : St) (n : Nat) (ps : List (Nat × Arg)) {i : Nat} (h : i < n) : elems zero st n ps i = elemD st i zero ps := by
  have h1 := nth_elemsL zero st ps n 0 i h
  have h2 := elemsL_length zero st ps n 0
  unfold elems
  generalize elemsL zero st ps n 0 = l at h1 h2
  unfold elemsF
  split
  · rename_i d
    simp at h2
    have : i = 0 := by omega
    subst this
    simpa [nth] using h1
  · simpa using h1

theorem zero_cells {z : Array Value} {n sz i j : Nat} (hz : z.size = sz) (hi : i < n) (hj : j < sz) : ((Array.range (n * sz)).map fun k => z[k % z.size]!).getD (i * sz + j) undef = z.getD j undef := by
  have hlt : i * sz + j < n * sz := by
    have := Nat.mul_le_mul_right sz (show i + 1 ≤ n by omega)
    rw [Nat.add_mul] at this
    omega
  have hm : (i * sz + j) % z.size = j := by rw [hz, Nat.mul_comm, Nat.mul_add_mod, Nat.mod_eq_of_lt hj]
  simp [Array.getD_eq_getD_getElem?, hlt, hm, show j < z.size by omega]

theorem getElem?_of_getD {arr : Array Value} {k : Nat} (h : k < arr.size) : arr[k]? = some (arr.getD k undef) := by simp [Array.getD, h]

theorem ref_new {κ b sz n0 tot n cap : Nat} (h1 : n ≤ cap) (h2 : n ≤ n0) (h3 : cap * sz ≤ tot) : RepK I (updB β κ ⟨some b, 0, sz, n0, tot⟩) (.ref κ 0 n) (.slice (some ⟨b, 0, none⟩) n cap) :=
  .ref κ 0 n cap ⟨some b, 0, sz, n0, tot⟩ b _ (by simp [updB]) rfl h1 (by simpa using h2) (by simpa using h3) (fun _ => by simp)

theorem buildSlice_lands (hs : Sim C I β st a w) {t e : TypeId} {n : Nat} {ps : Array (Nat × Operand)} {o : Oper} (ho : o.op = .buildSlice t n ps) {sz by_ : Nat} {z : DV} (ht : P.underlying t = some (.slice e)) (hz : cZero P e = some (sz, by_, z))
    (hsmall : n * sz ≤ 100000) {rs : List (Nat × Arg)} (hc : cParts n ps.toList = some rs) (hok : partsOk sz st rs = true) {κ : Nat} {K : DV → St → Prop}
    (hK : addRow st κ (.arr sz n (elems z st n rs)) fun st => K (.ref κ 0 n) st) : ∃ v w', (execOp a.eval o).run P w = .ok (.value v) w' ∧ Lands C a K v w' := by
  obtain ⟨i, zv, h1, h2, rfl, rfl, h4, h5, h6⟩ := cZero_ok hz
  obtain ⟨hκ, hl, hk⟩ := addRow_iff hK
  obtain ⟨q1, q2, _⟩ := okCells_iff h5
  obtain ⟨c1, c2, _⟩ := (h6 I).cells h5
  have hsz0 : ((Array.range (n * i.size)).map fun k => zv.cells[k % zv.cells.size]!).size = n * i.size := by simp
  obtain ⟨arr', f1, f2, el', f3, f4, f5⟩ := fillS_fill hs ps.toList rs (fun _ => z) ((Array.range (n * i.size)).map fun k => zv.cells[k % zv.cells.size]!) hc hok hsz0 (fun _ _ => ⟨q1, q2⟩) (fun i' j hi hj => by
    rw [zero_cells c1 hi hj]; exact c2 j hj)
  have hrun : (Instr.buildSlice t n (ps.map fun p => (p.1, a.eval p.2))).run P w = .ok (.slice (some ⟨w.heap.size, 0, none⟩) n n) (w.alloc (.cells arr' e)) := by
    by_cases hp : n * i.size = 0
    · have hn0 : n = 0 := by
        rcases Nat.mul_eq_zero.1 hp with h | h
        · exact h
        · omega
      subst hn0
      have hps : ps = #[] := by
        have : ps.toList = [] := by
          cases hpl : ps.toList with
          | nil => rfl
          | cons p r =>
            obtain ⟨j, x⟩ := p
            rw [hpl] at hc
            simp only [cParts] at hc
            split at hc
            · split at hc
              · omega
              · cases hc
            · cases hc
        simpa using this
      subst hps
      have ha : arr' = #[] := Array.eq_empty_of_size_eq_zero (by omega)
      subst ha
      simp [Instr.buildSlice, run_underlying ht, sizeOf, typeInfo, h1, Instr.fill, newRow, Array.range_zero']
    · exact run_buildSlice w t e n _ arr' i zv ht h1 h2 (by omega) hp (by simpa using f1)
  obtain ⟨s1, s2⟩ := hs.alloc (r := .arr i.size n (elems z st n rs)) (arr := arr') (ty := e) hκ hl h4 (by simp only [Row.n, Row.sz]; omega) (fun k hk => by
      simp only [Row.n] at hk
      simp only [Row.sz, Row.f]
      rw [elems_at _ _ _ _ hk, ← f3]
      exact f4 k hk) (fun k j hk hj => by
      simp only [Row.n] at hk
      simp only [Row.sz] at hj ⊢
      simp only [Row.f]
      rw [elems_at _ _ _ _ hk, ← f3]
      have hlt : k * i.size + j < arr'.size := by
        have := Nat.mul_le_mul_right i.size (show k + 1 ≤ n by omega)
        rw [Nat.add_mul] at this
        omega
      exact ⟨_, getElem?_of_getD hlt, f5 k j hk hj⟩)
  refine ⟨.slice (some ⟨w.heap.size, 0, none⟩) n n, w.alloc (.cells arr' e), by simp [execOp, ho, hrun], _, _, _, _, s1, ?_, hk⟩
  exact ref_new (Nat.le_refl _) (Nat.le_refl _) (by simp only [Row.sz]; omega)

theorem makeSlice_lands (hs : Sim C I β st a w) {t e : TypeId} {l c : Operand} {o : Oper} (ho : o.op = .makeSlice t l c) {sz by_ : Nat} {z : DV} (ht : P.underlying t = some (.slice e)) (hz : cZero P e = some (sz, by_, z)) (hby : 0 < by_)
    {x y : Arg} (hx : cArg l = some x) (hy : cArg c = some y) {κ : Nat} {K : DV → St → Prop} (hK : makeV (std P) sz by_ z κ st (ev st x) (ev st y) K) :
    ∃ v w', (execOp a.eval o).run P w = .ok (.value v) w' ∧ Lands C a K v w' := by
  obtain ⟨i, zv, h1, h2, rfl, rfl, h4, h5, h6⟩ := cZero_ok hz
  unfold makeV at hK
  split at hK
  · rename_i kl ln kc cn e1 e2
    have hl := arg_rep hx hs
    have hc := arg_rep hy hs
    rw [e1] at hl
    rw [e2] at hc
    have v1 := hl.inv_int
    have v2 := hc.inv_int
    obtain ⟨hmk, hadd⟩ := hK
    obtain ⟨hκ, hlk, hk⟩ := addRow_iff hadd
    simp only [std] at hmk hlk hk hadd
    obtain ⟨g0, g1, g2⟩ := hmk
    obtain ⟨q1, q2, _⟩ := okCells_iff h5
    obtain ⟨c1, c2, _⟩ := (h6 I).cells h5
    have hcn : cn ≤ 140737488355328 := by
      have : cn * 1 ≤ cn * (i.bytes : Int) := Int.mul_le_mul_of_nonneg_left (by omega) (by omega)
      omega
    have hb : (i.bytes : Int) * cn ≤ 281474976710656 := by rw [Int.mul_comm]; omega
    have hrun := run_make (P := P) w t e i zv ht h1 h2 kl kc ln cn g0 g1 hb (by omega)
    have hln : ln.toNat ≤ cn.toNat := by omega
    have hms : (madeCells zv.cells (cn.toNat * i.size)).size = cn.toNat * i.size := size_madeCells _ _
    obtain ⟨s1, s2⟩ := hs.alloc (r := .arr i.size ln.toNat (fun _ => z)) (arr := madeCells zv.cells (cn.toNat * i.size)) (ty := e) hκ hlk h4 (by
        simp only [Row.n, Row.sz]
        rw [hms]; exact Nat.mul_le_mul_right _ hln) (fun k hk => ⟨q1, q2⟩) (fun k j hk hj => by
        simp only [Row.n] at hk
        simp only [Row.sz] at hj ⊢
        simp only [Row.f]
        have hlt : k * i.size + j < (madeCells zv.cells (cn.toNat * i.size)).size := by
          rw [hms]
          have := Nat.mul_le_mul_right i.size (show k + 1 ≤ cn.toNat by omega)
          rw [Nat.add_mul] at this
          omega
        refine ⟨_, getElem?_of_getD hlt, ?_⟩
        have := zero_cells (z := zv.cells) (n := cn.toNat) (sz := i.size) (i := k) (j := j) c1 (by omega) hj
        unfold madeCells
        rw [this]
        exact c2 j hj)
    refine ⟨.slice (some ⟨w.heap.size, 0, none⟩) ln.toNat cn.toNat, w.alloc (.cells (madeCells zv.cells (cn.toNat * i.size)) e), by simp [execOp, ho, v1, v2, hrun], _, _, _, _, s1, ?_, hk⟩
    exact ref_new hln (Nat.le_refl _) (by simp only [Row.sz]; rw [hms]; exact Nat.le_refl _)
  · exact hK.elim

/-- A row's cells, some of them written. -/
theorem RowAt.write {l : Loc} {r r' : Row} {b : Nat} (h : RowAt I w l r b) (hsz : r'.sz = r.sz) (hn : r'.n = r.n) {o : Nat} {vs : List Value} (hin : o + vs.length ≤ l.tot) (helem : ∀ i < r.n, elemOk r.sz (r'.f i))
    (hval : ∀ i j, i < r.n → j < r.sz → (o ≤ l.off + i * r.sz + j ∧ l.off + i * r.sz + j < o + vs.length → Rep I (nth (cells (r'.f i)) j) (vs.getD (l.off + i * r.sz + j - o) undef)) ∧
      (¬ (o ≤ l.off + i * r.sz + j ∧ l.off + i * r.sz + j < o + vs.length) → nth (cells (r'.f i)) j = nth (cells (r.f i)) j)) :
    RowAt I (w.setCells b o vs) l r' b where
  there := fun j hj => World.isSome_setCells b vs o w _ (h.there j hj)
  val := fun i j hi hj => by
    rw [hn] at hi
    rw [hsz] at hj ⊢
    obtain ⟨g1, g2⟩ := hval i j hi hj
    by_cases hk : o ≤ l.off + i * r.sz + j ∧ l.off + i * r.sz + j < o + vs.length
    · have hlt : l.off + i * r.sz + j - o < vs.length := by omega
      have := World.cell?_setCells_in b vs o w (fun q hq => h.there _ (by omega)) (l.off + i * r.sz + j - o) hlt
      rw [show o + (l.off + i * r.sz + j - o) = l.off + i * r.sz + j by omega] at this
      refine ⟨_, this, ?_⟩
      have := g1 hk
      simpa [List.getD, List.getElem?_eq_getElem hlt] using this
    · obtain ⟨v, h1, h2⟩ := h.val i j hi hj
      refine ⟨v, ?_, by rw [g2 hk]; exact h2⟩
      rw [World.cell?_setCells_out b vs o w _ (fun _ _ => by dsimp only; omega)]
      exact h1
  free := fun q hq => by rw [World.frozen?_setCells]; exact h.free q hq
  fits := by rw [hn, hsz]; exact h.fits
  apart := h.apart
  elem := fun i hi => by rw [hsz]; exact helem i (by omega)
  mark := fun c ty fr hc => by
    obtain ⟨c', h1⟩ := mark_setCells b b vs o w c ty fr hc
    exact h.mark c' ty fr h1

theorem RowOk.write {l : Loc} {r r' : Row} {b : Nat} (h : RowOk I w l r) (hb : l.blk = some b) (hsz : r'.sz = r.sz) (hn : r'.n = r.n) {w' : World} (h' : RowAt I w' l r' b) : RowOk I w' l r' :=
  ⟨h.sz.trans hsz.symm, h.n.trans hn.symm, by rw [hsz]; exact h.pos, fun b' hb' => by rw [hb] at hb'; obtain rfl := Option.some.inj hb'; exact h', fun hb' => by rw [hb] at hb'; cases hb'⟩

theorem run_storeAt_cells {t : TypeId} {i : TypeInfo} (hi : P.info? t = some i) {b o : Nat} {v : Value} (hsz : v.cells.size = i.size) (h1 : ∀ j < i.size, (v.cells.getD j undef).oneCell' = true)
    (hc : ∀ j < i.size, (w.cell? ⟨b, o + j, none⟩).isSome = true) (hf : ∀ j < i.size, w.frozen? ⟨b, o + j, none⟩ = false) :
    (Instr.storeAt t (.pointer (some ⟨b, o, none⟩)) v).run P w = .ok () (w.setCells b o v.cells.toList) := by
  have hst := run_storeCells_cells (P := P) b o v.cells.toList 0 w (fun j hj => hc j (by simpa [hsz] using hj)) (fun j hj => hf j (by simpa [hsz] using hj)) (fun u hu => by
    obtain ⟨j, hj, rfl⟩ := List.mem_iff_getElem.1 hu
    have hj' : j < v.cells.size := by simpa using hj
    have := h1 j (by omega)
    simpa [Array.getD, hj'] using this)
  simp [Instr.storeAt, Instr.sureAddr, storeVar, sizeOf, typeInfo, hi, hsz, hst]

theorem setCells_elem {sz off n : Nat} {d : DV} {vs : List DV} (hd : elemOk sz d) (hvs : vs.length = n) (hc : ∀ j < n, isCell (nth vs j) = true) (hin : off + n ≤ sz) (hn : 0 < n) :
    elemOk sz (setCells d off vs) ∧ ∀ j < sz, nth (cells (setCells d off vs)) j = if off ≤ j ∧ j < off + n then nth vs (j - off) else nth (cells d) j := by
  obtain ⟨h1, h2⟩ := hd
  cases d with
  | agg cs =>
    simp only [setCells, cells] at h1 h2 ⊢
    have hover := fun j => nth_over cs off vs j (by omega)
    rw [hvs] at hover
    refine ⟨⟨by simp only [cells]; rw [over_length]; exact h1, fun j hj => ?_⟩, fun j hj => hover j⟩
    simp only [cells]
    rw [hover]
    split
    · exact hc _ (by omega)
    · exact h2 j hj
  | _ =>
    simp only [cells] at h1
    have hs1 : sz = 1 := by simpa using h1.symm
    have hoff : off = 0 := by omega
    have hn1 : n = 1 := by omega
    subst hs1 hoff hn1
    simp only [setCells]
    have hc0 := hc 0 (by omega)
    have hcells : cells (nth vs 0) = [nth vs 0] := by
      cases hv : nth vs 0 <;> first | rfl | (rw [hv] at hc0; cases hc0)
    refine ⟨⟨by rw [hcells]; rfl, fun j hj => ?_⟩, fun j hj => ?_⟩
    · have : j = 0 := by omega
      subst this
      rw [hcells]; simpa [nth] using hc0
    · have : j = 0 := by omega
      subst this
      rw [hcells]; simp [nth]
end
end Go.Sx
namespace Go.Sx

section
variable {P : Program} {md : Modes} {C : Ctx} {I : Imm} {β : Nat → Option Loc} {st : St} {a : Act} {w : World}

theorem mul_lt {i k sz j q : Nat} (h : i < k) (hj : j < sz) : i * sz + j < k * sz + q := by
  have := Nat.mul_le_mul_right sz (show i + 1 ≤ k by omega)
  rw [Nat.add_mul] at this
  omega

/-- Which cell is written. -/
theorem in_elem {lo i i' off n sz j : Nat} (hin : off + n ≤ sz) (hj : j < sz) :
    (lo + i * sz + off ≤ lo + i' * sz + j ∧ lo + i' * sz + j < lo + i * sz + off + n) ↔ (i' = i ∧ off ≤ j ∧ j < off + n) := by
  constructor
  · intro ⟨h1, h2⟩
    have : i' = i := by
      rcases Nat.lt_trichotomy i' i with h | h | h
      · have := mul_lt (sz := sz) (j := j) (q := 0) h hj; omega
      · exact h
      · have := mul_lt (sz := sz) (j := off + n - 1) (q := 0) h (by omega); omega
    subst this
    exact ⟨rfl, by omega, by omega⟩
  · rintro ⟨rfl, h1, h2⟩
    omega

theorem store_lands (hs : Sim C I β st a w) {t : TypeId} {x y : Operand} {o : Oper} (ho : o.op = .store t x y) {i : TypeInfo} (hi : P.info? t = some i) (hpos : 0 < i.size) {p q : Arg} (hp : cArg x = some p) (hq : cArg y = some q)
    (hok : okCells i.size (ev st q) = true) {K : DV → St → Prop} (hK : storeV (std P) st (ev st p) i.size (cells (ev st q)) K) :
    ∃ w', (execOp a.eval o).run P w = .ok .skip w' ∧ Lands C a K undef w' := by
  have hpx := arg_rep hp hs
  have hrep := (arg_rep hq hs).toRep (okCells_iff hok).2.2
  obtain ⟨k1, k2, _⟩ := okCells_iff hok
  obtain ⟨c1, c2, c3⟩ := hrep.cells hok
  unfold storeV at hK
  split at hK
  · rename_i k e off hev
    rw [hev] at hpx
    -- a row of whatever form
    have core : ∀ r r' : Row, look st.σ k = some r → r'.sz = r.sz → r'.n = r.n → off + i.size ≤ r.sz → (∀ i' < r.n, i' ≠ e → r'.f i' = r.f i') → (e < r.n → r'.f e = setCells (r.f e) off (cells (ev st q))) →
        K .und ⟨st.T, upd st.σ k r'⟩ → ∃ w', (execOp a.eval o).run P w = .ok .skip w' ∧ Lands C a K undef w' := by
      intro r r' hr hsz hn hin hoth hthis hk
      obtain ⟨l, hl, hrow⟩ := hs.rows.rows k r hr
      generalize hv : a.eval x = pv at hpx
      cases hpx with
      | pure h => cases h
      | rptr _ _ _ l' b g1 g2 g3 =>
        rw [hl] at g1
        obtain rfl := Option.some.inj g1
        have hA := hrow.at_ b g2
        have hln := hrow.n
        have hlsz := hrow.sz
        have hfit := hA.fits
        have hbound : l.off + e * r.sz + r.sz ≤ l.tot := by
          have := Nat.mul_le_mul_right r.sz (show e + 1 ≤ r.n by omega)
          rw [Nat.add_mul] at this
          omega
        have hvl : (a.eval y).cells.toList.length = i.size := by simp; exact c1
        have hst := run_storeAt_cells (P := P) (w := w) hi (b := b) (o := l.off + e * l.sz + off) c1 c3 (fun j hj => hA.there _ (by rw [hlsz]; omega)) (fun j hj => hA.free _ (by rw [hlsz]; omega))
        obtain ⟨s1, s2⟩ := setCells_elem (d := r.f e) (hA.elem e (by omega)) k1 (fun j hj => k2 j hj) hin hpos
        have hA' : RowAt I (w.setCells b (l.off + e * l.sz + off) (a.eval y).cells.toList) l r' b := by
          refine hA.write hsz hn (by rw [hvl, hlsz]; omega) ?_ ?_
          · intro i' hi'
            by_cases he : i' = e
            · subst he; rw [hthis (by omega)]; exact s1
            · rw [hoth i' hi' he]; exact hA.elem i' hi'
          · intro i' j hi' hj
            rw [hvl, hlsz, in_elem hin hj]
            constructor
            · rintro ⟨rfl, h1, h2⟩
              rw [hthis (by omega), s2 j hj, if_pos ⟨h1, h2⟩]
              have := c2 (j - off) (by omega)
              rw [show l.off + i' * r.sz + j - (l.off + i' * r.sz + off) = j - off by omega]
              simpa [Array.getD_eq_getD_getElem?, List.getD] using this
            · intro hno
              by_cases he : i' = e
              · subst he
                rw [hthis (by omega), s2 j hj, if_neg (fun h => hno ⟨rfl, h⟩)]
              · rw [hoth i' hi' he]
        refine ⟨_, by simp only [execOp, ho, Sem.run_bind, hv, hst, Result.andThen_ok]; rfl, I, β, .und, _, hs.setRow hl (Frm.setCells w b _ _ _ (.inr g2)) (hrow.write g2 hsz hn hA'), .pure .und, hk⟩
    split at hK
    · rename_i sz d hr
      split at hK
      · rename_i hin
        refine core (.box sz d) (.box sz (setCells d off (cells (ev st q)))) hr rfl rfl hin (fun i' hi' hne => ?_) (fun _ => rfl) hK
        have hrk := hs.rows.rows k _ hr
        obtain ⟨l, hl, hrow⟩ := hrk
        generalize a.eval x = pv at hpx
        cases hpx with
        | pure h => cases h
        | rptr _ _ _ l' b g1 g2 g3 =>
          rw [hl] at g1
          obtain rfl := Option.some.inj g1
          have := hrow.n
          simp only [Row.n] at hi' this
          omega
      · exact hK.elim
    · rename_i sz n f hr
      split at hK
      · rename_i hin
        refine core (.arr sz n f) (.arr sz n (setFF f e off (cells (ev st q)))) hr rfl rfl hin (fun i' hi' hne => ?_) (fun _ => ?_) hK
        · simp [Row.f, setFF, hne]
        · simp [Row.f, setFF]
      · exact hK.elim
    · exact hK.elim
  · exact hK.elim
end
end Go.Sx
namespace Go.Sx

section
variable {P : Program} {md : Modes} {C : Ctx} {I : Imm} {β : Nat → Option Loc} {st : St} {a : Act} {w : World}

/-- Cells of elements, as a list. -/
structure CellsOf (I : Imm) (es m : Nat) (g : Nat → DV) (news : List Value) : Prop where
  len : news.length = m * es
  one : ∀ u ∈ news, u.oneCell' = true
  rep : ∀ i j, i < m → j < es → Rep I (nth (cells (g i)) j) (news.getD (i * es + j) undef)
  elem : ∀ i < m, elemOk es (g i)

theorem divmod {k es m : Nat} (hes : 0 < es) (h : k < m * es) : k / es < m ∧ k % es < es ∧ k / es * es + k % es = k := by
  refine ⟨(Nat.div_lt_iff_lt_mul hes).2 h, Nat.mod_lt _ hes, ?_⟩
  rw [Nat.mul_comm]; exact Nat.div_add_mod k es

theorem SlAt.cells {es m : Nat} {g : Nat → DV} {ao : Option Addr} {cap : Nat} (h : SlAt I w es m g ao cap) (hes : 0 < es) :
    ∃ news, CellsOf I es m g news ∧ (m = 0 → news = []) ∧ (∀ ad, ao = some ad → ∀ j u, news[j]? = some u → w.cell? (ad.add j) = some u) := by
  rcases Nat.eq_zero_or_pos m with h0 | h0
  · subst h0
    exact ⟨[], ⟨by simp, fun u hu => (by cases hu), fun i j hi => (by omega), fun i hi => (by omega)⟩, fun _ => rfl, fun ad _ j u hj => (by simp at hj)⟩
  · obtain ⟨b, o, rfl, hc⟩ := h.at_ h0
    refine ⟨(List.range (m * es)).map fun k => (w.cell? ⟨b, o + k, none⟩).getD undef, ⟨by simp, ?_, ?_, h.elem⟩, fun h => by omega, ?_⟩
    · intro u hu
      obtain ⟨k, hk, rfl⟩ := List.mem_map.1 hu
      obtain ⟨d1, d2, d3⟩ := divmod hes (by simpa using hk)
      obtain ⟨v, h1, h2⟩ := hc _ _ d1 d2
      rw [Nat.add_assoc, d3] at h1
      rw [h1]
      exact (h2.one ((h.elem _ d1).2 _ d2)).1
    · intro i j hi hj
      have hlt : i * es + j < m * es := mul_lt (q := 0) hi hj
      obtain ⟨v, h1, h2⟩ := hc i j hi hj
      rw [Nat.add_assoc] at h1
      simp only [List.getD, List.getElem?_map, List.getElem?_range hlt, Option.map_some, Option.getD_some, h1]
      exact h2
    · rintro ad had j u hj
      obtain rfl := Option.some.inj had
      rw [add_plain]
      have hlt : j < m * es := by
        rcases Nat.lt_or_ge j (m * es) with h | h
        · exact h
        · rw [List.getElem?_eq_none (by simpa using h)] at hj; cases hj
      simp only [List.getElem?_map, List.getElem?_range hlt, Option.map_some, Option.some.injEq] at hj
      obtain ⟨d1, d2, d3⟩ := divmod hes hlt
      obtain ⟨v, h1, _⟩ := hc _ _ d1 d2
      rw [Nat.add_assoc, d3] at h1
      rw [h1] at hj ⊢
      exact congrArg some hj

/-- What an append's second argument yields. -/
theorem cont_src (hs : Sim C I β st a w) {es m : Nat} {g : Nat → DV} {x : DV} {v : Value} (hes : 0 < es) (hc : cont (std P) st es x = some (m, g)) (h : RepK I β x v) {tx : TypeId}
    (htx : (∃ e', P.underlying tx = some (.slice e')) ∨ P.underlying tx = some .string) :
    ∃ news, Src P es tx v m news w ∧ CellsOf I es m g news := by
  by_cases hstr : ∃ s, x = .str s
  · obtain ⟨s, rfl⟩ := hstr
    simp only [cont] at hc
    split at hc
    · rename_i hes1
      subst hes1
      obtain ⟨rfl, rfl⟩ := Prod.mk.inj (Option.some.inj hc)
      obtain rfl := h.inv_str
      refine ⟨byteCells s, ⟨htx, fun _ => rfl, firstCells_string s w, firstCells_string s w.drew, by rw [byteCells_length, Nat.mul_one]; rfl, fun u hu => by
        obtain ⟨_, _, rfl⟩ := List.mem_map.1 hu
        rfl⟩, ⟨by rw [byteCells_length]; simp [std], ?_, ?_, ?_⟩⟩
      · intro u hu
        obtain ⟨_, _, rfl⟩ := List.mem_map.1 hu
        rfl
      · intro i j hi hj
        have hj0 : j = 0 := by omega
        subst hj0
        simp only [std] at hi ⊢
        have e : (byteCells s).getD (i * 1 + 0) undef = .int .u8 (byteF s i) := by
          have hi' : i < s.data.toList.length := by simpa using hi
          simp only [byteCells, Nat.mul_one, Nat.add_zero, List.getD, List.getElem?_map, List.getElem?_eq_getElem hi', Option.map_some, Option.getD_some, byteF]
          rw [dif_pos hi]
          rfl
        rw [e]
        exact .int _ _
      · intro i _
        exact ⟨rfl, fun j hj => by
          have : j = 0 := by omega
          subst this; rfl⟩
    · cases hc
  · have hx : ∀ s, x ≠ .str s := fun s e => hstr ⟨s, e⟩
    obtain ⟨ao, cap, rfl, hA⟩ := cont_at hs hx hc h
    obtain ⟨news, hcells, hnil, hat⟩ := hA.cells hes
    refine ⟨news, ?_, hcells⟩
    cases ao with
    | some ad => exact ⟨htx, fun _ => rfl, run_firstCells_some w es m ad m cap news hcells.len (fun j u hj => hat ad rfl j u hj), run_firstCells_some w.drew es m ad m cap news hcells.len (by simpa using hat ad rfl), hcells.len, hcells.one⟩
    | none =>
      have hm0 : m = 0 := by
        rcases Nat.eq_zero_or_pos m with h0 | h0
        · exact h0
        · obtain ⟨b, o, hh, _⟩ := hA.at_ h0; cases hh
      subst hm0
      rw [hnil rfl]
      exact ⟨htx, fun _ => rfl, run_firstCells_none w es 0 0 cap, run_firstCells_none w.drew es 0 0 cap, by simp, fun _ h => by cases h⟩

theorem nextcap_le (n c : Nat) (h : c < n) : Builtin.nextslicecap n c ≤ 2 * n := by
  unfold Builtin.nextslicecap
  split
  · omega
  · split
    · omega
    · have grow : ∀ k c, c < n → Builtin.growBy n k c ≤ 2 * n + 192 → True := fun _ _ _ _ => trivial
      have key : ∀ k c, c < n → 256 ≤ c → Builtin.growBy n k c ≤ 2 * n := by
        intro k
        induction k with
        | zero => intro c hc _; simp only [Builtin.growBy]; omega
        | succ k ih =>
          intro c hc h256
          simp only [Builtin.growBy]
          rw [if_neg (by omega)]
          rcases Nat.lt_or_ge (c + (c + 768) / 4) n with hlt | hge
          · exact ih _ hlt (by omega)
          · cases k with
            | zero => simp only [Builtin.growBy]; omega
            | succ k => simp only [Builtin.growBy]; rw [if_pos hge]; omega
      exact key 4 c h (by omega)

theorem getD_append_cells {olds news zeros : List Value} {k : Nat} (h : k < olds.length + news.length) : (((olds ++ news).toArray ++ zeros.toArray : Array Value)).getD k undef = if k < olds.length then olds.getD k undef else news.getD (k - olds.length) undef := by
  simp only [Array.getD_eq_getD_getElem?, List.append_toArray, List.getElem?_toArray, List.getD]
  rw [List.getElem?_append_left (by simpa using h), List.getElem?_append]
  split <;> rfl

/-- A new row of old elements and new ones. -/
theorem grown_row (hs : Sim C I β st a w) {κ : Nat} (hκ : κ < refKey) (hl : look st.σ κ = none) {es n m : Nat} (hes : 0 < es) {f g : Nat → DV} {olds news : List Value} (ho : CellsOf I es n f olds) (hn : CellsOf I es m g news)
    {rest : Array Value} {ty : TypeId} {cap : Nat} (hcap : n + m ≤ cap) (hrest : rest.size = (cap - (n + m)) * es) :
    let arr := (olds ++ news).toArray ++ rest
    Sim C I (updB β κ ⟨some w.heap.size, 0, es, n + m, arr.size⟩) ⟨st.T, ins st.σ κ (.arr es (n + m) (appFF n f g))⟩ a (w.alloc (.cells arr ty)) ∧
      RepK I (updB β κ ⟨some w.heap.size, 0, es, n + m, arr.size⟩) (.ref κ 0 (n + m)) (.slice (some ⟨w.heap.size, 0, none⟩) (n + m) cap) := by
  intro arr
  have hlo := ho.len
  have hln := hn.len
  have hsz : arr.size = cap * es := by
    have e1 : arr.size = (olds ++ news).toArray.size + rest.size := Array.size_append
    rw [e1, hrest]
    simp only [List.size_toArray, List.length_append, hlo, hln]
    rw [← Nat.add_mul, ← Nat.add_mul]
    congr 1; omega
  have hnm : (n + m) * es = olds.length + news.length := by rw [Nat.add_mul, hlo, hln]
  have hle : (n + m) * es ≤ cap * es := Nat.mul_le_mul_right _ hcap
  have hgetD : ∀ k, k < olds.length + news.length → arr.getD k undef = if k < olds.length then olds.getD k undef else news.getD (k - olds.length) undef := by
    intro k hk
    have : arr = (olds ++ news).toArray ++ rest.toList.toArray := by simp [arr]
    rw [this]
    exact getD_append_cells hk
  have helem : ∀ i < n + m, elemOk es (appFF n f g i) := by
    intro i hi
    unfold appFF
    split
    · rename_i h; exact ho.elem i h
    · exact hn.elem _ (by omega)
  refine ⟨(hs.alloc (r := .arr es (n + m) (appFF n f g)) (arr := arr) (ty := ty) hκ hl hes (by simp only [Row.n, Row.sz]; omega) helem ?_).1, ref_new hcap (Nat.le_refl _) (by omega)⟩
  intro i j hi hj
  simp only [Row.n] at hi
  simp only [Row.sz, Row.f] at hj ⊢
  have hlt : i * es + j < (n + m) * es := mul_lt (q := 0) hi hj
  refine ⟨_, getElem?_of_getD (by omega), ?_⟩
  rw [hgetD _ (by omega)]
  unfold appFF
  by_cases hin : i < n
  · rw [if_pos hin, if_pos (by rw [hlo]; exact mul_lt (q := 0) hin hj)]
    exact ho.rep i j hin hj
  · have hge : n * es ≤ i * es := Nat.mul_le_mul_right _ (by omega)
    rw [if_neg hin, if_neg (by omega)]
    have := hn.rep (i - n) j (by omega) hj
    rw [Nat.sub_mul] at this
    rw [hlo, show i * es + j - n * es = i * es - n * es + j by omega]
    exact this
end
end Go.Sx
namespace Go.Sx

section
variable {P : Program} {md : Modes} {C : Ctx} {I : Imm} {β : Nat → Option Loc} {st : St} {a : Act} {w : World}

theorem SlAt.first {es m : Nat} {g : Nat → DV} {ao : Option Addr} {cap : Nat} (h : SlAt I w es m g ao cap) (hes : 0 < es) (P : Program) :
    ∃ olds, CellsOf I es m g olds ∧ (Builtin.firstCells es m (.slice ao m cap)).run P w = .ok olds.toArray w ∧ (Builtin.firstCells es m (.slice ao m cap)).run P w.drew = .ok olds.toArray w.drew := by
  obtain ⟨olds, h1, h2, h3⟩ := h.cells hes
  refine ⟨olds, h1, ?_⟩
  cases ao with
  | some ad => exact ⟨run_firstCells_some w es m ad m cap olds h1.len (h3 ad rfl), run_firstCells_some w.drew es m ad m cap olds h1.len (by simpa using h3 ad rfl)⟩
  | none =>
    have hm0 : m = 0 := by
      rcases Nat.eq_zero_or_pos m with h0 | h0
      · exact h0
      · obtain ⟨b, o, hh, _⟩ := h.at_ h0; cases hh
    rw [h2 hm0]
    exact ⟨run_firstCells_none w es m m cap, run_firstCells_none w.drew es m m cap⟩

theorem append_grow (hs : Sim C I β st a w) {κ : Nat} (hκ : κ < refKey) (hl : look st.σ κ = none) {t tx ty e : TypeId} {i : TypeInfo} {z : Value} (ht : P.underlying t = some (.slice e)) (hi : P.info? e = some i) (hz : i.zero = some z)
    (hpos : 0 < i.size) (hby : 0 < i.bytes) (hzs : z.cells.size = i.size) {base : Option Addr} {n cap m : Nat} {f g : Nat → DV} (hA : SlAt I w i.size n f base cap) {x : Value} {news : List Value}
    (hsrc : Src P i.size tx x m news w) (hn : CellsOf I i.size m g news) (hg : cap < n + m) (hroom : (n + m) * i.bytes ≤ 140737488355328) {K : DV → St → Prop}
    (hK : K (.ref κ 0 (n + m)) ⟨st.T, ins st.σ κ (.arr i.size (n + m) (appFF n f g))⟩) :
    ∃ v w', (Builtin.append_ #[t, tx] ty #[.slice base n cap, x]).run P w = .ok v w' ∧ Lands C a K v w' := by
  obtain ⟨olds, ho, _, hold⟩ := hA.first hpos P
  have hle : (n + m) ≤ (n + m) * i.bytes := Nat.le_mul_of_pos_right _ hby
  have hnc := nextcap_le (n + m) cap hg
  have hfit : Builtin.nextslicecap (n + m) cap * i.bytes ≤ 281474976710656 := by
    have := Nat.mul_le_mul_right i.bytes hnc
    rw [Nat.mul_assoc] at this
    omega
  have hrun := run_append_grow_src (P := P) w t tx ty e i z ht hi hz base n cap olds hold x m news hsrc hg (by omega) hfit
  have hge := grownCap_ge w (n + m) cap e
  obtain ⟨g1, g2⟩ := grown_row (hs.drew) hκ hl hpos ho hn (rest := Builtin.zeroCells z.cells (grownCap w (n + m) cap e - (n + m))) (ty := e) hge (by rw [size_zeroCells, hzs])
  exact ⟨_, _, hrun, I, _, _, _, g1, g2, hK⟩

/-- The empty row of nil. -/
theorem Sim.nilRow (h : Sim C I β st a w) {κ es : Nat} {f : Nat → DV} (hκ : κ < refKey) (hn : look st.σ κ = none) (hes : 0 < es) {K : DV → St → Prop} (ao : Option Addr)
    (hK : K (.ref κ 0 0) ⟨st.T, ins st.σ κ (.arr es 0 f)⟩) : Lands C a K (.slice ao 0 0) w := by
  obtain ⟨s1, _⟩ := h.newRow (r := .arr es 0 f) (l := ⟨none, 0, es, 0, 0⟩) hκ hn (Frm.refl w _) (fun b hb => by cases hb)
    { sz := rfl, n := rfl, pos := hes, at_ := (fun b hb => by cases hb), nil := (fun _ => rfl) }
  exact ⟨I, _, _, _, s1, .refnil κ ⟨none, 0, es, 0, 0⟩ ao (by simp [updB]) rfl, hK⟩

theorem appFF_zero (f g : Nat → DV) : appFF 0 f g = g := by funext i; simp [appFF]

/-- In place. -/
theorem append_room (hs : Sim C I β st a w) {κ k : Nat} (hκ : κ < refKey) (hk : k < refKey) {t tx ty e : TypeId} {i : TypeInfo} (ht : P.underlying t = some (.slice e)) (hi : P.info? e = some i)
    {sz n0 : Nat} {f : Nat → DV} (hr : look st.σ k = some (.arr sz n0 f)) (hsz : sz = i.size) (hl : look (del st.σ k) κ = none) {l : Loc} (hβ : β k = some l) {b : Nat} (hb : l.blk = some b) {o n cap m : Nat} {ad : Addr} (_h3 : n ≤ cap) (h4 : o + n ≤ l.n) (h5 : l.off + (o + cap) * l.sz ≤ l.tot) (_hcap : 0 < cap) (had : ad = ⟨b, l.off + o * l.sz, none⟩)
    {x : Value} {news : List Value} {g : Nat → DV} (hsrc : Src P i.size tx x m news w) (hn : CellsOf I i.size m g news) (hg : n + m ≤ cap) {K : DV → St → Prop}
    (hK : K (.ref κ 0 (n + m)) ⟨killL k st.T, ins (del st.σ k) κ (.arr i.size (n + m) (appFF n (shift o f) g))⟩) :
    ∃ v w', (Builtin.append_ #[t, tx] ty #[.slice (some ad) n cap, x]).run P w = .ok v w' ∧ Lands C a K v w' := by
  subst hsz
  obtain ⟨l', hl', hrow⟩ := hs.rows.rows k _ hr
  rw [hβ] at hl'
  obtain rfl := Option.some.inj hl'
  have hA := hrow.at_ b hb
  have hlsz : l.sz = i.size := hrow.sz
  have hln : l.n = n0 := hrow.n
  rw [hlsz] at h5 had
  have hnl := hn.len
  have hbd : l.off + o * i.size + n * i.size + m * i.size ≤ l.tot := by
    have := Nat.mul_le_mul_right i.size (show o + n + m ≤ o + cap by omega)
    rw [Nat.add_mul, Nat.add_mul] at this
    omega
  have hrun := run_append_room_src (P := P) w t tx ty e i ht hi b (l.off + o * i.size) n cap x m news hsrc hg (fun j hj => hA.there _ (by omega)) (fun j hj => hA.free _ (by omega))
  rw [had]
  refine ⟨_, _, hrun, ?_⟩
  -- the new row
  have hin : ∀ j < news.length, (w.setCells b (l.off + o * i.size + n * i.size) news).cell? ⟨b, l.off + o * i.size + n * i.size + j, none⟩ = some (news.getD j undef) := by
    intro j hj
    rw [World.cell?_setCells_in b news _ w (fun j hj => hA.there _ (by omega)) j hj]
    simp [List.getD, hj]
  have hout : ∀ q, (q < l.off + o * i.size + n * i.size ∨ l.off + o * i.size + n * i.size + news.length ≤ q) → (w.setCells b (l.off + o * i.size + n * i.size) news).cell? ⟨b, q, none⟩ = w.cell? ⟨b, q, none⟩ := by
    intro q hq
    exact World.cell?_setCells_out b news _ w _ (fun _ _ => hq)
  have hposz := hrow.pos
  simp only [Row.sz] at hposz
  have hA' : RowAt I (w.setCells b (l.off + o * i.size + n * i.size) news) ⟨some b, l.off + o * i.size, i.size, n + m, l.tot⟩ (.arr i.size (n + m) (appFF n (shift o f) g)) b := by
    refine ⟨?_, ?_, ?_, ?_, hA.apart, ?_, ?_⟩
    · intro j hj
      by_cases hq : l.off + o * i.size + n * i.size ≤ j ∧ j < l.off + o * i.size + n * i.size + news.length
      · have := hin (j - (l.off + o * i.size + n * i.size)) (by omega)
        rw [show l.off + o * i.size + n * i.size + (j - (l.off + o * i.size + n * i.size)) = j by omega] at this
        rw [this]; rfl
      · rw [hout j (by omega)]; exact hA.there j hj
    · intro q j hq hj
      simp only [Row.n] at hq
      simp only [Row.sz, Row.f] at hj ⊢
      unfold appFF
      by_cases hqn : q < n
      · rw [if_pos hqn, shift_eq]
        obtain ⟨u, h7, h8⟩ := hA.val (o + q) j (by simp only [Row.n]; omega) hj
        refine ⟨u, ?_, h8⟩
        simp only [Row.sz] at h7
        have := mul_lt (sz := i.size) (q := 0) hqn hj
        rw [hout _ (by omega), ← h7]
        congr 2
        rw [Nat.add_mul]; omega
      · rw [if_neg hqn]
        have hge : n * i.size ≤ q * i.size := Nat.mul_le_mul_right _ (by omega)
        have hlt := mul_lt (sz := i.size) (q := 0) (show q - n < m by omega) hj
        have e1 : (q - n) * i.size = q * i.size - n * i.size := Nat.sub_mul _ _ _
        refine ⟨_, ?_, hn.rep (q - n) j (by omega) hj⟩
        rw [← hin _ (by omega)]
        congr 2
        omega
    · intro q hq
      rw [World.frozen?_setCells]
      exact hA.free q hq
    · simp only [Row.n, Row.sz, Nat.add_mul]; omega
    · intro q hq
      simp only [Row.n, Row.sz, Row.f] at hq ⊢
      unfold appFF
      split
      · rw [shift_eq]; exact hA.elem _ (by simp only [Row.n]; omega)
      · exact hn.elem _ (by omega)
    · intro c ty fr hc
      obtain ⟨c', h1⟩ := mark_setCells b b news _ w c ty fr hc
      exact hA.mark c' ty fr h1
  obtain ⟨s1, _⟩ := (hs.kill k).newRow (r := .arr i.size (n + m) (appFF n (shift o f) g)) (l := ⟨some b, l.off + o * i.size, i.size, n + m, l.tot⟩) hκ hl
    (w' := w.setCells b (l.off + o * i.size + n * i.size) news) (Frm.setCells w b _ _ _ (.inr rfl)) (fun b' hb' => by
      obtain rfl := Option.some.inj hb'
      refine ⟨hs.own k l b hk hβ hb, ?_, fun κ' l' h1 h2 => ?_⟩
      · rw [setCells_size]; exact hs.rows.lt k l b hβ hb
      · split at h1
        · cases h1
        · rename_i hne; exact hs.rows.sep κ' k l' l b hne h1 hβ h2 hb)
    ⟨rfl, rfl, hposz, fun b' hb' => by obtain rfl := Option.some.inj hb'; exact hA', fun hb' => by cases hb'⟩
  refine ⟨I, _, _, _, s1, ?_, hK⟩
  have := RepK.ref (I := I) (β := updB (fun k' => if k' = k then none else β k') κ ⟨some b, l.off + o * i.size, i.size, n + m, l.tot⟩) κ 0 (n + m) cap ⟨some b, l.off + o * i.size, i.size, n + m, l.tot⟩ b ⟨b, l.off + o * i.size, none⟩ (by simp [updB]) rfl hg (by simp)
    (by simp only [Nat.zero_add]; rw [Nat.add_mul] at h5; omega) (fun _ => by simp)
  exact this

theorem append_lands (hs : Sim C I β st a w) {t tx e : TypeId} {c : Call} {o : Oper} (ho : o.op = .call c) (hcal : c.callee = .builtin .append) {xo yo : Operand} (hargs : c.args.toList = [xo, yo]) (htys : c.argTypes.toList = [t, tx])
    (ht : P.underlying t = some (.slice e)) {es by_ : Nat} {zd : DV} (hz : cZero P e = some (es, by_, zd)) (hby : 0 < by_) (htx : (∃ e', P.underlying tx = some (.slice e')) ∨ P.underlying tx = some .string)
    {p q : Arg} (hp : cArg xo = some p) (hq : cArg yo = some q) {κ : Nat} {K : DV → St → Prop} (hK : appendV (std P) es by_ κ (ev st p) (ev st q) st K) :
    ∃ v w', (execOp a.eval o).run P w = .ok (.value v) w' ∧ Lands C a K v w' := by
  obtain ⟨i, z, h1, h2, rfl, rfl, h4, h5, h6⟩ := cZero_ok hz
  have hzs : z.cells.size = i.size := ((h6 I).cells h5).1
  have ha : c.args = #[xo, yo] := by rw [← Array.toArray_toList (xs := c.args), hargs]
  have hta : c.argTypes = #[t, tx] := by rw [← Array.toArray_toList (xs := c.argTypes), htys]
  have hgo : (∃ v w', (Builtin.append_ #[t, tx] o.type #[a.eval xo, a.eval yo]).run P w = .ok v w' ∧ Lands C a K v w') → ∃ v w', (execOp a.eval o).run P w = .ok (.value v) w' ∧ Lands C a K v w' := by
    rintro ⟨v, w', e1, e2⟩
    exact ⟨v, w', by simp [execOp, ho, resolve, hcal, invoke, builtin, ha, hta, e1], e2⟩
  apply hgo
  have hpx := arg_rep hp hs
  have hqx := arg_rep hq hs
  unfold appendV at hK
  split at hK
  · exact hK.elim
  · rename_i m g hc
    obtain ⟨news, hsrc, hn⟩ := cont_src (P := P) hs h4 hc hqx htx
    have hnil : m = 0 → news = [] := fun h => by
      have := hn.len
      rw [h, Nat.zero_mul] at this
      exact List.eq_nil_of_length_eq_zero this
    have nothing : ∀ (base : Option Addr) (st' : St) (f : Nat → DV), m = 0 → Sim C I β st' a w → addRow st' κ (.arr i.size m f) (fun st => K (.ref κ 0 m) st) →
        ∃ v w', (Builtin.append_ #[t, tx] o.type #[.slice base 0 0, a.eval yo]).run P w = .ok v w' ∧ Lands C a K v w' := by
      intro base st' f hm hs' hk
      have hn' := hnil hm
      subst hm
      rw [hn'] at hsrc
      obtain ⟨r1, r2, r3⟩ := addRow_iff hk
      exact ⟨_, _, run_append_nothing w t tx o.type e i ht h1 base 0 0 (Nat.le_refl _) _ hsrc, hs'.nilRow r1 r2 h4 base r3⟩
    split at hK
    · rename_i hev
      obtain ⟨hrm, hk⟩ := hK
      simp only [std] at hrm
      rw [hev] at hpx
      rw [nils_val hpx]
      by_cases hm : m = 0
      · exact nothing none st g hm hs hk
      · obtain ⟨r1, r2, r3⟩ := addRow_iff hk
        refine append_grow hs r1 r2 ht h1 h2 h4 hby hzs (f := fun _ => .junk) (n := 0) (cap := 0) ⟨Nat.le_refl _, fun i hi => by omega, fun h => by omega⟩ hsrc hn (by omega) (by simpa using hrm) ?_
        rw [appFF_zero, Nat.zero_add]
        exact r3
    · rename_i sz tg n f hev
      obtain ⟨hsz, htg, hokk, hrm, hk⟩ := hK
      simp only [std] at htg hokk hrm hk
      rw [hev] at hpx
      obtain ⟨ao, cap, hv, hA, hcap, _⟩ := lst_at hs hpx
      rw [hv]
      have hcn := hcap htg
      subst hsz
      by_cases hm : m = 0
      · obtain rfl : n = 0 := by omega
        subst hcn
        rw [Nat.zero_add] at hk
        exact nothing ao st _ hm hs hk
      · obtain ⟨r1, r2, r3⟩ := addRow_iff hk
        exact append_grow hs r1 r2 ht h1 h2 h4 hby hzs hA hsrc hn (by omega) hrm r3
    · rename_i k o' n hev
      split at hK
      · rename_i sz n0 f hr
        obtain ⟨hsz, hkk, hrm, hk⟩ := hK
        simp only [std] at hrm hk
        rw [hev] at hpx
        obtain ⟨r1, r2, r3⟩ := addRow_iff hk
        have grow : ∀ ao cap, a.eval xo = .slice ao n cap → SlAt I w i.size n (shift o' f) ao cap → cap < n + m → ∃ v w', (Builtin.append_ #[t, tx] o.type #[a.eval xo, a.eval yo]).run P w = .ok v w' ∧ Lands C a K v w' := by
          intro ao cap hv hA hlt
          rw [hv]
          exact append_grow (hs.kill k) r1 r2 ht h1 h2 h4 hby hzs hA hsrc hn hlt hrm r3
        obtain ⟨ao, cap, hv, hA, _, _⟩ := ref_at hs hr hpx
        rw [show (Row.arr sz n0 f).sz = i.size from hsz] at hA
        by_cases hlt : cap < n + m
        · exact grow ao cap hv hA hlt
        · rw [hv] at hpx ⊢
          cases hpx with
          | pure h => cases h
          | ref _ _ _ _ l b ad g1 g2 g3 g4 g5 g6 =>
            by_cases hc0 : cap = 0
            · subst hc0
              obtain ⟨rfl, hm⟩ : n = 0 ∧ m = 0 := by omega
              subst hm
              have hn' := hnil rfl
              rw [hn'] at hsrc
              exact ⟨_, _, run_append_nothing w t tx o.type e i ht h1 (some ad) 0 0 (Nat.le_refl _) _ hsrc, (hs.kill k).nilRow r1 r2 h4 (some ad) r3⟩
            · exact append_room hs r1 hkk ht h1 hr hsz r2 g1 g2 g3 g4 g5 (by omega) (g6 (by omega)) hsrc hn (by omega) r3
          | refnil _ l ao g1 g2 =>
            have hm : m = 0 := by omega
            subst hm
            have hn' := hnil rfl
            rw [hn'] at hsrc
            exact ⟨_, _, run_append_nothing w t tx o.type e i ht h1 ao 0 0 (Nat.le_refl _) _ hsrc, (hs.kill k).nilRow r1 r2 h4 ao r3⟩
      · exact hK.elim
    · exact hK.elim
end
end Go.Sx
namespace Go.Sx

section
variable {P : Program} {md : Modes} {C : Ctx} {I : Imm} {β : Nat → Option Loc} {st : St} {a : Act} {w : World}

theorem own_key {κ o n : Nat} {l : Loc} {v : Value} (h : RepK I (fun _ => some l) (.ref 0 o n) v) : RepK I (updB β κ l) (.ref κ o n) v := by
  cases h with
  | pure h => cases h
  | ref _ _ _ cap l' b a h1 h2 h3 h4 h5 h6 =>
    obtain rfl := Option.some.inj h1
    exact .ref κ o n cap l b a (by simp [updB]) h2 h3 h4 h5 h6
  | refnil _ l' ao h1 h2 =>
    obtain rfl := Option.some.inj h1
    exact .refnil κ l ao (by simp [updB]) h2
theorem own_ptr {κ i off : Nat} {l : Loc} {v : Value} (h : RepK I (fun _ => some l) (.rptr 0 i off) v) : RepK I (updB β κ l) (.rptr κ i off) v := by
  cases h with
  | pure h => cases h
  | rptr _ _ _ l' b h1 h2 h3 =>
    obtain rfl := Option.some.inj h1
    exact .rptr κ i off l b (by simp [updB]) h2 h3

/-- One fresh row of a call's result. -/
theorem Sim.bind1 (hs : Sim C I β st a w) {n0 : Nat} (h0 : C.w0.heap.size ≤ n0) {κ : Nat} {l : Loc} {r : Row} (hκ : κ < refKey) (hn : look st.σ κ = none) (hr : RowOk I w l r) (hb : ∀ b, l.blk = some b → n0 ≤ b ∧ b < w.heap.size)
    (hav : ∀ κ' l', β κ' = some l' → ∀ b, l.blk = some b → l'.blk ≠ some b) :
    Sim C I (updB β κ l) ⟨st.T, ins st.σ κ r⟩ a w ∧ ∀ κ' l', β κ' = some l' → updB β κ l κ' = some l' :=
  hs.newRow hκ hn (Frm.refl w _) (fun b hb' => ⟨by have := (hb b hb').1; omega, (hb b hb').2, fun κ' l' h => hav κ' l' h b hb'⟩) hr

theorem ResAt.rep {n0 : Nat} {l : Loc} {d : DV} {v : Value} (h : ResAt I β n0 w l d v) (hf : isFresh d = false) : RepK I β d v := by
  cases d <;> first | exact h | exact .pure h | cases hf

theorem bindL_plain {κ j : Nat} {d : DV} {ds : List DV} {st : St} {K : List DV → St → Prop} (hf : isFresh d = false) : bindL κ j (d :: ds) st K = bindL κ (j + 1) ds st fun ds st => K (d :: ds) st := by
  cases d <;> first | rfl | cases hf

theorem bindL_lands {n0 κ : Nat} {β0 : Nat → Option Loc} (h0 : C.w0.heap.size ≤ n0) : ∀ (ds : List DV) (j : Nat) (β : Nat → Option Loc) (st : St) (vs : Nat → Value) (ls : Nat → Loc) (K : List DV → St → Prop), Sim C I β st a w → (∀ κ' l', β0 κ' = some l' → β κ' = some l') →
    (∀ i < ds.length, ResAt I β0 n0 w (ls i) (nth ds i) (vs i)) →
    (∀ i i' b, i < ds.length → i' < ds.length → i ≠ i' → isFresh (nth ds i) = true → isFresh (nth ds i') = true → (ls i).blk = some b → (ls i').blk ≠ some b) →
    (∀ i < ds.length, isFresh (nth ds i) = true → ∀ κ' l', β κ' = some l' → ∀ b, (ls i).blk = some b → l'.blk ≠ some b) →
    bindL κ j ds st K → ∃ β' ds' st', Sim C I β' st' a w ∧ (∀ κ' l', β κ' = some l' → β' κ' = some l') ∧ ds'.length = ds.length ∧ (∀ i < ds.length, RepK I β' (nth ds' i) (vs i)) ∧ K ds' st'
  | [], j, β, st, vs, ls, K, hs, hb0, hr, hd, hav, hK => ⟨β, [], st, hs, fun _ _ h => h, rfl, fun i hi => (by simp at hi), hK⟩
  | d :: ds, j, β, st, vs, ls, K, hs, hb0, hr, hd, hav, hK => by
    have h00 := hr 0 (by simp)
    simp only [nth] at h00
    have htail : ∀ i < ds.length, ResAt I β0 n0 w (ls (i + 1)) (nth ds i) (vs (i + 1)) := fun i hi => hr (i + 1) (by simpa using hi)
    have hdt : ∀ i i' b, i < ds.length → i' < ds.length → i ≠ i' → isFresh (nth ds i) = true → isFresh (nth ds i') = true → (ls (i + 1)).blk = some b → (ls (i' + 1)).blk ≠ some b :=
      fun i i' b hi hi' hne => hd (i + 1) (i' + 1) b (by simpa using hi) (by simpa using hi') (by omega)
    -- a fresh row
    have fresh : ∀ (r : Row) (d' : DV), isFresh d = true → RowOk I w (ls 0) r → (∀ b, (ls 0).blk = some b → n0 ≤ b ∧ b < w.heap.size) → (∀ β', RepK I (updB β' (κ + 1000 * j) (ls 0)) d' (vs 0)) →
        addRow st (κ + 1000 * j) r (fun st => bindL κ (j + 1) ds st fun ds st => K (d' :: ds) st) →
        ∃ β' ds' st', Sim C I β' st' a w ∧ (∀ κ' l', β κ' = some l' → β' κ' = some l') ∧ ds'.length = (d :: ds).length ∧ (∀ i < (d :: ds).length, RepK I β' (nth ds' i) (vs i)) ∧ K ds' st' := by
      intro r d' hf hrow hb hrep hadd
      obtain ⟨k1, k2, k3⟩ := addRow_iff hadd
      obtain ⟨s1, s2⟩ := hs.bind1 h0 k1 k2 hrow hb (fun κ' l' hl => hav 0 (by simp) hf κ' l' hl)
      obtain ⟨β', ds', st', t1, t2, t3, t4, t5⟩ := bindL_lands (κ := κ) h0 ds (j + 1) _ _ (fun i => vs (i + 1)) (fun i => ls (i + 1)) _ s1 (fun κ' l' h => s2 _ _ (hb0 _ _ h)) htail hdt (by
        intro i hi hfi κ' l' hl b hb' hb''
        unfold updB at hl
        split at hl
        · obtain rfl := Option.some.inj hl
          exact hd 0 (i + 1) b (by simp) (by simpa using hi) (by omega) hf hfi hb'' hb'
        · exact hav (i + 1) (by simpa using hi) hfi κ' l' hl b hb' hb'') k3
      refine ⟨β', d' :: ds', st', t1, fun κ' l' hl => t2 _ _ (s2 _ _ hl), by simp [t3], ?_, t5⟩
      intro i hi
      cases i with
      | zero => exact (hrep β).mono (Imm.le.refl _) t2
      | succ i => exact t4 i (by simpa using hi)
    by_cases hf : isFresh d = true
    · cases d <;> first | (cases hf; done) | skip
      · rename_i sz n f
        obtain ⟨r1, r2, r3⟩ := h00
        exact fresh (.arr sz n f) (.ref (κ + 1000 * j) 0 n) hf r1 r3 (fun β' => own_key r2) hK
      · rename_i sz d
        obtain ⟨r1, r2, r3⟩ := h00
        exact fresh (.box sz d) (.rptr (κ + 1000 * j) 0 0) hf r1 r3 (fun β' => own_ptr r2) hK
    · have hf : isFresh d = false := by simpa using hf
      rw [bindL_plain hf] at hK
      obtain ⟨β', ds', st', t1, t2, t3, t4, t5⟩ := bindL_lands (κ := κ) h0 ds (j + 1) β st (fun i => vs (i + 1)) (fun i => ls (i + 1)) _ hs hb0 htail hdt (fun i hi hfi => hav (i + 1) (by simpa using hi) hfi) hK
      refine ⟨β', d :: ds', st', t1, t2, by simp [t3], ?_, t5⟩
      intro i hi
      cases i with
      | zero => exact (h00.rep hf).mono (Imm.le.refl _) (fun κ' l' h => t2 _ _ (hb0 _ _ h))
      | succ i => exact t4 i (by simpa using hi)

theorem ResAt.mono {γ : Nat → Option Loc} (h : ∀ κ l, β κ = some l → γ κ = some l) {n0 : Nat} {l : Loc} {d : DV} {v : Value} (hr : ResAt I β n0 w l d v) : ResAt I γ n0 w l d v := by
  cases d <;> first | exact hr | exact RepK.mono (Imm.le.refl _) h hr
theorem Res.mono {γ : Nat → Option Loc} {n0 : Nat} {d : DV} {v : Value} (hr : Res I β n0 w d v) (h : ∀ κ l, β κ = some l → γ κ = some l) : Res I γ n0 w d v := by
  cases d <;> first
    | (obtain ⟨vs, ls, h1, h2, h3, h4⟩ := hr; exact ⟨vs, ls, h1, h2, fun j hj => (h3 j hj).mono h, h4⟩)
    | (obtain ⟨l, hr⟩ := hr; exact ⟨l, hr.mono h⟩)

theorem bind_lands (hs : Sim C I β st a w) {n0 : Nat} (h0 : C.w0.heap.size ≤ n0) (hold : ∀ κ l b, β κ = some l → l.blk = some b → b < n0) {κ : Nat} {d : DV} {v : Value} {K : DV → St → Prop} (hres : Res I β n0 w d v) (hK : bindR κ d st K) : Lands C a K v w := by
  have plain : isFresh d = false → (∀ ds, d ≠ .tup ds) → Lands C a K v w := by
    intro hf ht
    have hr : ∃ l, ResAt I β n0 w l d v := by cases d <;> first | exact (ht _ rfl).elim | exact hres
    obtain ⟨l, hr⟩ := hr
    have hk : K d st := by cases d <;> first | exact (ht _ rfl).elim | (cases hf; done) | exact hK
    exact ⟨I, β, d, st, hs, hr.rep hf, hk⟩
  cases d with
  | own sz n f =>
    obtain ⟨l, r1, r2, r3⟩ := hres
    obtain ⟨k1, k2, k3⟩ := addRow_iff hK
    obtain ⟨s1, s2⟩ := hs.bind1 h0 k1 k2 r1 r3 (fun κ' l' hl b hb hb' => by have := hold κ' l' b hl hb'; have := (r3 b hb).1; omega)
    exact ⟨I, _, _, _, s1, own_key r2, k3⟩
  | obox sz d =>
    obtain ⟨l, r1, r2, r3⟩ := hres
    obtain ⟨k1, k2, k3⟩ := addRow_iff hK
    obtain ⟨s1, s2⟩ := hs.bind1 h0 k1 k2 r1 r3 (fun κ' l' hl b hb hb' => by have := hold κ' l' b hl hb'; have := (r3 b hb).1; omega)
    exact ⟨I, _, _, _, s1, own_ptr r2, k3⟩
  | tup ds =>
    obtain ⟨vs, ls, rfl, hsz, hr, hd⟩ := hres
    obtain ⟨β', ds', st', t1, t2, t3, t4, t5⟩ := bindL_lands (κ := κ) (β0 := β) h0 ds 1 β st (fun j => vs.getD j undef) ls _ hs (fun _ _ h => h) hr hd (by
      intro i hi hf κ' l' hl b hb hb'
      have h1 := hold κ' l' b hl hb'
      have h2 : n0 ≤ b := by
        have := hr i hi
        generalize nth ds i = e at this hf
        cases e <;> first | (cases hf) | skip
        · exact (this.2.2 b hb).1
        · exact (this.2.2 b hb).1
      omega) hK
    exact ⟨I, β', _, st', t1, .tup ds' vs (by omega) (fun j hj => t4 j (by omega)), t5⟩
  | _ => exact plain rfl (fun ds h => by cases h)

/-- The values of a call. -/
theorem fn_vals {g : FuncId} {as_ bs : List DV} {v : Value} (h : RepK I β (.fn g as_ bs) v) : ∃ x y : Array Value, v = .func (.func g) x y ∧ x.size = as_.length ∧ y.size = bs.length ∧
    (∀ j < as_.length, RepK I β (nth as_ j) (x.getD j undef)) ∧ (∀ j < bs.length, RepK I β (nth bs j) (y.getD j undef)) := by
  cases h with
  | pure h =>
    cases h with
    | fn _ _ _ x y h1 h2 h3 h4 => exact ⟨x, y, rfl, h1, h2, fun j hj => .pure (h3 j hj), fun j hj => .pure (h4 j hj)⟩
  | fn _ _ _ x y h1 h2 h3 h4 => exact ⟨x, y, rfl, h1, h2, h3, h4⟩

theorem getD_append (x y : Array Value) (j : Nat) : (x ++ y).getD j undef = if j < x.size then x.getD j undef else y.getD (j - x.size) undef := by
  simp only [Array.getD_eq_getD_getElem?]
  rw [Array.getElem?_append]
  split <;> rfl

theorem reps_append {ds es : List DV} {x y : Array Value} (hx : x.size = ds.length) (h1 : ∀ j < ds.length, RepK I β (nth ds j) (x.getD j undef)) (hy : y.size = es.length) (h2 : ∀ j < es.length, RepK I β (nth es j) (y.getD j undef)) :
    (x ++ y).size = (cat ds es).length ∧ ∀ j < (cat ds es).length, RepK I β (nth (cat ds es) j) ((x ++ y).getD j undef) := by
  rw [cat_append]
  refine ⟨by simp [hx, hy], fun j hj => ?_⟩
  rw [nth_append, getD_append, hx]
  simp only [List.length_append] at hj
  split
  · rename_i h; exact h1 j h
  · exact h2 _ (by omega)

theorem run_enter {f : FuncId} {fn : Func} {c : Code} (hf : P.funcs[f]? = some fn) (hname : (fn.name == "runtime.NumGoroutine") = false) (hb : fn.body = some c) (args : Array Value) (w : World) :
    (callFunc f args).run P w = .ok (.enter f args) w := by
  have h1 : fn.name ≠ "runtime.NumGoroutine" := by simpa using hname
  simp [callFunc, hf, h1, hb]

/-- A call of a function value enters it, with such data. -/
theorem call_enter (hs : Sim C I β st a w) {o : Oper} {c : Call} (ho : o.op = .call c) {fo : Operand} (hcal : c.callee = .value fo) {f : Arg} (hf : cArg fo = some f) {xs : List Arg} (hxs : cArgs c.args.toList = some xs) {g : FuncId} {as_ bs : List DV}
    (hev : ev st f = .fn g as_ bs) (hen : Enters P g) : ∃ vs : Array Value, (execOp a.eval o).run P w = .ok (.enter g vs) w ∧ vs.size = (cat as_ (cat (evL st xs) bs)).length ∧
      ∀ j < (cat as_ (cat (evL st xs) bs)).length, RepK I β (nth (cat as_ (cat (evL st xs) bs)) j) (vs.getD j undef) := by
  have hfr := arg_rep hf hs
  rw [hev] at hfr
  obtain ⟨x, y, hv, h1, h2, h3, h4⟩ := fn_vals hfr
  obtain ⟨fn, cd, e1, e2, e3⟩ := hen
  obtain ⟨ha1, ha2⟩ := args_rep hxs hs
  have hb := reps_append (ds := evL st xs) (es := bs) (x := (c.args.toList.map a.eval).toArray) (y := y) (by simp [ha1]) (fun j hj => by
    have := ha2 j (by omega)
    simpa [Array.getD_eq_getD_getElem?, List.getD] using this) h2 h4
  have hall := reps_append (ds := as_) (es := cat (evL st xs) bs) (x := x) h1 h3 hb.1 hb.2
  have hargs : (c.args.toList.map a.eval).toArray = c.args.map a.eval := by
    apply Array.ext'; simp
  rw [hargs] at hall
  refine ⟨x ++ (c.args.map a.eval ++ y), ?_, hall⟩
  have he := run_enter e1 e2 e3 (x ++ (c.args.map a.eval ++ y)) w
  simp [execOp, ho, resolve, hcal, hv, Deferred.ofValue, invoke, Array.append_assoc, he]

/-- What a call's contract gives, told of the operation. -/
def Upto (P : Program) (C : Ctx) (a : Act) (g : FuncId) (vs : Array Value) (w : World) (K : DV → St → Prop) : Prop :=
  Calls P g vs w fun e w' => ∃ v, e = .returned v ∧ Lands C a K v w'

theorem noKeys_nth {ds : List DV} (h : noKeys ds) (j : Nat) : keysOf (nth ds j) = [] := by
  cases hk : keysOf (nth ds j) with
  | nil => rfl
  | cons k l =>
    have : k ∈ keysOfL ds := nth_mem_keys (by rw [hk]; simp)
    rw [h] at this; cases this

theorem rows_none (I : Imm) (w : World) : Rows I (fun _ => none) (keyed refKey []) w :=
  ⟨fun _ _ => rfl, fun κ r h => (by simp [keyed, look] at h), fun _ _ _ _ _ _ h => (by cases h), fun _ _ _ h => (by cases h)⟩

theorem call_lands (hs : Sim C I β st a w) {g : FuncId} {ds : List DV} {vs : Array Value} (hsz : vs.size = ds.length) (hrep : ∀ j < ds.length, RepK I β (nth ds j) (vs.getD j undef)) {κ : Nat} {K : DV → St → Prop}
    (hK : (std P Lf.call) g (viewL 100000 (keysOfL ds) st.σ ds) κ (st.freeze (keysOfL ds)) K) : Upto P C a g vs w K := by
  obtain ⟨J, γ, s1, hJ, hv⟩ := hs.freeze (keysOfL ds)
  obtain ⟨hno, _, hfn⟩ := hK
  refine (hfn w J vs (fun _ => none) s1.inw (by rw [viewL_length]; exact hsz) (fun j hj => ?_) (rows_none J w)).mono ?_
  · rw [viewL_length] at hj
    have := hv _ _ (hrep j hj)
    rw [← nth_viewL] at this
    exact this.keys (fun k hk => by rw [noKeys_nth hno j] at hk; cases hk)
  · rintro e w' ⟨v, d, rows', I', a1, a2, a3, a4, a5, a6, a7, a8, a9⟩
    have hfrm : Frm w w' (fun _ => False) := ⟨a8.os, a8.tape, a8.output, a8.size, fun b hb _ => a8.block b hb (by rintro ⟨κ, l, h, _⟩; cases h)⟩
    have s2 := s1.grow hfrm a2 a3 a4
    exact ⟨v, a1, bind_lands s2 s1.frame.size (fun κ l b h hb => s1.rows.lt κ l b h hb) (a5.mono (fun _ _ h => by cases h)) a9⟩

theorem scalar_rep {I J : Imm} {d : DV} {v : Value} (h : RepK I β d v) (hd : scalarD d = true) : Rep J d v := by
  cases h <;> first | (cases hd; done) | (rename_i h; cases h <;> first | (cases hd; done) | constructor)
theorem scalarL_nth {ds : List DV} (h : scalarL ds = true) {j : Nat} (hj : j < ds.length) : scalarD (nth ds j) = true := by
  induction ds generalizing j with
  | nil => simp at hj
  | cons d r ih =>
    simp only [scalarL] at h
    split at h
    · rename_i hd
      cases j with
      | zero => exact hd
      | succ j => exact ih h (by simpa using hj)
    · cases h
theorem scalar_fresh {d : DV} (h : scalarD d = true) : isFresh d = false := by cases d <;> first | rfl | cases h

theorem lendOkL_nth {ds : List DV} (h : lendOkL ds) {j : Nat} (hj : j < ds.length) : lendOk1 (nth ds j) := by
  induction ds generalizing j with
  | nil => simp at hj
  | cons d r ih => cases j with
    | zero => exact h.1
    | succ j => exact ih h.2 (by simpa using hj)
theorem ResAt.lent {I J : Imm} {β γ : Nat → Option Loc} {n0 : Nat} {w : World} {l : Loc} {d : DV} {v : Value} (h : ResAt J β n0 w l d v) (hok : lendOk1 d) (hI : ∀ b o, n0 ≤ b → I b o = none) : ResAt I γ n0 w l d v := by
  have plain : scalarD d = true → ResAt I γ n0 w l d v := by
    intro hsd
    have hr := scalar_rep (J := I) (h.rep (scalar_fresh hsd)) hsd
    cases d <;> first | exact hr | (cases hsd; done)
  cases d with
  | own sz n f =>
    obtain ⟨h1, h2, h3⟩ := h
    refine ⟨⟨h1.sz, h1.n, h1.pos, fun b hb => ?_, h1.nil⟩, ?_, h3⟩
    · have hA := h1.at_ b hb
      exact { there := hA.there, free := hA.free, fits := hA.fits, elem := hA.elem, mark := hA.mark, apart := fun o => hI b o (h3 b hb).1,
              val := fun i j hi hj => by
                obtain ⟨u, k1, k2⟩ := hA.val i j hi hj
                exact ⟨u, k1, scalar_rep (β := fun _ => none) (.pure k2) (hok i hi j hj)⟩ }
    · cases h2 with
      | pure h => cases h
      | ref _ _ _ cap l b a g1 g2 g3 g4 g5 g6 => exact .ref _ _ _ cap l b a g1 g2 g3 g4 g5 g6
      | refnil _ l ao g1 g2 => exact .refnil _ l ao g1 g2
  | agg cs =>
    have hr : Rep J (.agg cs) v := h
    cases hr with
    | agg _ vs k1 k2 k3 => exact Rep.agg cs vs k1 k2 (fun j hj => scalar_rep (β := fun _ => none) (.pure (k3 j hj)) (scalarL_nth hok hj))
  | _ => exact plain hok
theorem Res.lent {I J : Imm} {β γ : Nat → Option Loc} {n0 : Nat} {w : World} {d : DV} {v : Value} (h : Res J β n0 w d v) (hok : lendOk d) (hI : ∀ b o, n0 ≤ b → I b o = none) : Res I γ n0 w d v := by
  cases d <;> first
    | (obtain ⟨vs, ls, h1, h2, h3, h4⟩ := h; exact ⟨vs, ls, h1, h2, fun j hj => (h3 j hj).lent (lendOkL_nth hok hj) hI, h4⟩)
    | (obtain ⟨l, h⟩ := h; exact ⟨l, h.lent hok hI⟩)

theorem lend_lands (hs : Sim C I β st a w) {g : FuncId} {ds : List DV} {vs : Array Value} (hsz : vs.size = ds.length) (hrep : ∀ j < ds.length, RepK I β (nth ds j) (vs.getD j undef)) {κ : Nat} {K : DV → St → Prop}
    (hK : (std P Lf.lend) g (viewL 1000000000 (keysOfL ds) st.σ ds) κ st K) : Upto P C a g vs w K := by
  obtain ⟨hno, _, hfn⟩ := hK
  have hJ := frzI_le I β 1000000000 (keysOfL ds) w
  have hat : ∀ κ l b o, κ ∈ keysOfL ds → κ < 1000000000 → β κ = some l → l.blk = some b → frzI I β 1000000000 (keysOfL ds) w b o = w.cell? ⟨b, o, none⟩ := by
    intro κ l b o hk hlim h1 h2
    refine frzI_at hk hlim h1 h2 ?_ o
    have hlook : look st.σ κ ≠ none := fun e => by rw [hs.rows.dom κ e] at h1; cases h1
    obtain ⟨r, hr⟩ := Option.ne_none_iff_exists'.1 hlook
    obtain ⟨l', h3, h4⟩ := hs.rows.rows κ r hr
    rw [h1] at h3
    obtain rfl := Option.some.inj h3
    exact (h4.at_ b h2).apart
  refine (hfn w (frzI I β 1000000000 (keysOfL ds) w) vs (fun _ => none) (frzI_inW hs.inw) (by rw [viewL_length]; exact hsz) (fun j hj => ?_) (rows_none _ w)).mono ?_
  · rw [viewL_length] at hj
    have := (hrep j hj).view hs.rows 1000000000 (keysOfL ds) hJ hat (γ := β) (fun _ _ => rfl)
    rw [← nth_viewL] at this
    exact this.keys (fun k hk => by rw [noKeys_nth hno j] at hk; cases hk)
  · rintro e w' ⟨v, d, rows', I', a1, a2, a3, a4, a5, a6, a7, a8, hsc, a9⟩
    have hfrm : Frm w w' (fun _ => False) := ⟨a8.os, a8.tape, a8.output, a8.size, fun b hb _ => a8.block b hb (by rintro ⟨κ, l, h, _⟩; cases h)⟩
    have s2 := hs.grow hfrm (Imm.le.refl I) (hs.inw.of_heap fun b o v hv => hfrm.block b (block_lt (by rw [hs.inw b o v hv]; rfl)) id) (fun _ _ _ => rfl)
    refine ⟨v, a1, bind_lands s2 hs.frame.size (fun κ l b h hb => hs.rows.lt κ l b h hb) (a5.lent hsc (fun b o hb => ?_)) a9⟩
    cases hI : I b o with
    | none => rfl
    | some u =>
      have := block_lt (by rw [hs.inw b o u hI]; rfl)
      omega
end
end Go.Sx
namespace Go.Sx

section
variable {P : Program} {md : Modes} {C : Ctx} {I : Imm} {β : Nat → Option Loc} {st : St} {a : Act} {w : World}

theorem nth_renL (ks : List Nat) (l : List DV) (j : Nat) : nth (renL ks l) j = ren ks (nth l j) := by
  induction l generalizing j with
  | nil => simp [renL, nth, ren]
  | cons d r ih => cases j with
    | zero => simp [renL, nth]
    | succ j => simp [renL, nth, ih]
theorem renL_length (ks : List Nat) (l : List DV) : (renL ks l).length = l.length := by induction l <;> simp [renL, *]

theorem Rep.ren (ks : List Nat) {d : DV} {v : Value} (r : Rep I d v) : Rep I (ren ks d) v ∧ (isCell d = true → isCell (ren ks d) = true) := by
  induction r with
  | agg cs vs h1 h2 h3 ih =>
    refine ⟨.agg _ vs (by rw [renL_length]; exact h1) (fun j hj => ?_) (fun j hj => ?_), fun h => by cases h⟩
    · rw [renL_length] at hj; rw [nth_renL]; exact (ih j hj).2 (h2 j hj)
    · rw [renL_length] at hj; rw [nth_renL]; exact (ih j hj).1
  | fn g fst cap a b h1 h2 _ _ ih1 ih2 =>
    refine ⟨.fn g _ _ a b (by rw [renL_length]; exact h1) (by rw [renL_length]; exact h2) (fun j hj => ?_) (fun j hj => ?_), fun _ => rfl⟩
    · rw [renL_length] at hj; rw [nth_renL]; exact (ih1 j hj).1
    · rw [renL_length] at hj; rw [nth_renL]; exact (ih2 j hj).1
  | int k n => exact ⟨.int k n, fun _ => rfl⟩
  | bool b => exact ⟨.bool b, fun _ => rfl⟩
  | tt => exact ⟨.tt, fun _ => rfl⟩
  | ff => exact ⟨.ff, fun _ => rfl⟩
  | str s => exact ⟨.str s, fun _ => rfl⟩
  | nilp => exact ⟨.nilp, fun _ => rfl⟩
  | nilf => exact ⟨.nilf, fun _ => rfl⟩
  | nili => exact ⟨.nili, fun _ => rfl⟩
  | nils => exact ⟨.nils, fun _ => rfl⟩
  | lst sz t n f a cap b o val h1 h2 h3 h4 h5 h6 h7 _ => exact ⟨.lst sz t n f a cap b o val h1 h2 h3 h4 h5 h6 h7, fun _ => rfl⟩
  | eptr sz n f i off b c val h1 h2 h3 h4 _ => exact ⟨.eptr sz n f i off b c val h1 h2 h3 h4, fun _ => rfl⟩
  | und => exact ⟨.und, fun h => h⟩

theorem keyAt_idx {ks : List Nat} {κ : Nat} (h : κ ∈ ks) : keyAt ks (idx ks κ) = some κ := by
  induction ks with
  | nil => cases h
  | cons k l ih =>
    simp only [idx]
    split
    · rename_i e; subst e; rfl
    · rename_i hne
      exact ih (by rcases List.mem_cons.1 h with rfl | h; exact absurd rfl hne; exact h)
theorem keyAt_mem {ks : List Nat} {n k : Nat} (h : keyAt ks n = some k) : k ∈ ks := by
  induction ks generalizing n with
  | nil => cases h
  | cons a l ih => cases n with
    | zero => obtain rfl := Option.some.inj h; simp
    | succ n => exact List.mem_cons_of_mem _ (ih h)
theorem keyAt_inj {ks : List Nat} (hn : ks.Nodup) {n m k : Nat} (h1 : keyAt ks n = some k) (h2 : keyAt ks m = some k) : n = m := by
  induction ks generalizing n m with
  | nil => cases h1
  | cons a l ih =>
    obtain ⟨n1, n2⟩ := List.nodup_cons.1 hn
    cases n with
    | zero => cases m with
      | zero => rfl
      | succ m => obtain rfl := Option.some.inj h1; exact absurd (keyAt_mem (ks := l) (n := m) h2) n1
    | succ n => cases m with
      | zero => obtain rfl := Option.some.inj h2; exact absurd (keyAt_mem (ks := l) (n := n) h1) n1
      | succ m => rw [ih n2 h1 h2]

/-- Where the callee finds the caller's rows. -/
def refB (β : Nat → Option Loc) (ks : List Nat) : Nat → Option Loc := fun κ => if κ < refKey then none else match keyAt ks (κ - refKey) with | some k => β k | none => none
theorem refB_at {ks : List Nat} {κ : Nat} (h : κ ∈ ks) : refB β ks (refKey + idx ks κ) = β κ := by
  unfold refB
  rw [if_neg (by omega), show refKey + idx ks κ - refKey = idx ks κ by omega, keyAt_idx h]

theorem RepK.ren {ks : List Nat} {d : DV} {v : Value} (r : RepK I β d v) : (∀ k ∈ keysOf d, k ∈ ks) → RepK I (refB β ks) (ren ks d) v := by
  induction r with
  | pure h => exact fun _ => .pure (h.ren ks).1
  | ref κ o n cap l b a h1 h2 h3 h4 h5 h6 => exact fun hk => .ref _ o n cap l b a (by rw [refB_at (hk κ (by simp [keysOf]))]; exact h1) h2 h3 h4 h5 h6
  | refnil κ l ao h1 h2 => exact fun hk => .refnil _ l ao (by rw [refB_at (hk κ (by simp [keysOf]))]; exact h1) h2
  | rptr κ i off l b h1 h2 h3 => exact fun hk => .rptr _ i off l b (by rw [refB_at (hk κ (by simp [keysOf]))]; exact h1) h2 h3
  | fn g fst cap a b h1 h2 _ _ ih1 ih2 =>
    intro hk
    refine .fn g _ _ a b (by rw [renL_length]; exact h1) (by rw [renL_length]; exact h2) (fun j hj => ?_) (fun j hj => ?_)
    · rw [renL_length] at hj; rw [nth_renL]; exact ih1 j hj (fun k hk' => hk k (by simp [keysOf, nth_mem_keys hk']))
    · rw [renL_length] at hj; rw [nth_renL]; exact ih2 j hj (fun k hk' => hk k (by simp [keysOf, nth_mem_keys hk']))
  | tup ds vs h1 _ ih =>
    intro hk
    refine .tup _ vs (by rw [renL_length]; exact h1) (fun j hj => ?_)
    rw [renL_length] at hj; rw [nth_renL]; exact ih j hj (fun k hk' => hk k (by simp [keysOf, nth_mem_keys hk']))
  | junk v => exact fun _ => .junk v

theorem mem_cat1 {l : List Nat} {k x : Nat} : x ∈ nub.cat1 l k ↔ x ∈ l ∨ x = k := by
  induction l with
  | nil => simp [nub.cat1]
  | cons a l ih => simp [nub.cat1, ih, or_assoc]
theorem nodup_cat1 {l : List Nat} {k : Nat} (h : l.Nodup) (hk : k ∉ l) : (nub.cat1 l k).Nodup := by
  induction l with
  | nil => simp [nub.cat1]
  | cons a l ih =>
    obtain ⟨n1, n2⟩ := List.nodup_cons.1 h
    simp only [nub.cat1]
    refine List.nodup_cons.2 ⟨fun hm => ?_, ih n2 (fun hm => hk (by simp [hm]))⟩
    rcases mem_cat1.1 hm with hm | hm
    · exact n1 hm
    · exact hk (by simp [hm])
theorem nub_spec : ∀ (l acc : List Nat), acc.Nodup → (nub acc l).Nodup ∧ (∀ k ∈ acc, k ∈ nub acc l) ∧ ∀ k ∈ l, k ∈ nub acc l
  | [], acc, h => ⟨h, fun _ h => h, fun _ h => by cases h⟩
  | k :: l, acc, h => by
    simp only [nub]
    split
    · rename_i hm
      rw [mem_iff] at hm
      obtain ⟨h1, h2, h3⟩ := nub_spec l acc h
      refine ⟨h1, h2, fun x hx => ?_⟩
      rcases List.mem_cons.1 hx with rfl | hx
      · exact h2 _ hm
      · exact h3 _ hx
    · rename_i hm
      rw [mem_iff] at hm
      obtain ⟨h1, h2, h3⟩ := nub_spec l _ (nodup_cat1 h hm)
      refine ⟨h1, fun x hx => h2 _ (mem_cat1.2 (.inl hx)), fun x hx => ?_⟩
      rcases List.mem_cons.1 hx with rfl | hx
      · exact h2 _ (mem_cat1.2 (.inr rfl))
      · exact h3 _ hx

theorem lookL_spec {σ : Store} : ∀ (ks : List Nat) (rows : List Row) (s : Nat), lookL σ ks = some rows → rows.length = ks.length ∧ ∀ κ, look (keyed s rows) κ = if κ < s then none else match keyAt ks (κ - s) with | some k => look σ k | none => none
  | [], rows, s, h => by
    obtain rfl := Option.some.inj h
    refine ⟨rfl, fun κ => ?_⟩
    simp [keyed, look, keyAt]
  | k :: ks, rows, s, h => by
    simp only [lookL] at h
    split at h
    · rename_i r rs hr hrs
      obtain rfl := Option.some.inj h
      obtain ⟨h1, h2⟩ := lookL_spec ks rs (s + 1) hrs
      refine ⟨by simp [h1], fun κ => ?_⟩
      simp only [keyed, look]
      by_cases hs : s = κ
      · subst hs
        simp [keyAt, hr]
      · rw [if_neg hs, h2 κ]
        by_cases hlt : κ < s
        · rw [if_pos hlt, if_pos (by omega)]
        · rw [if_neg hlt, if_neg (by omega)]
          rw [show κ - s = (κ - (s + 1)) + 1 by omega]
          simp [keyAt]
    · cases h

theorem look_updL : ∀ (ks : List Nat) (rows : List Row) (σ : Store), ks.Nodup → rows.length = ks.length → (∀ k ∈ ks, look σ k ≠ none) →
    ∀ κ, look (updL σ ks rows) κ = if κ ∈ ks then look (keyed refKey rows) (refKey + idx ks κ) else look σ κ
  | [], rows, σ, _, _, _, κ => by simp [updL]
  | k :: ks, [], σ, _, hl, _, κ => by simp at hl
  | k :: ks, r :: rs, σ, hn, hl, hs, κ => by
    obtain ⟨n1, n2⟩ := List.nodup_cons.1 hn
    simp only [updL]
    have hsome : ∀ x ∈ ks, look (upd σ k r) x ≠ none := by
      intro x hx
      rw [look_upd]
      split
      · rename_i e; subst e; exact absurd hx n1
      · exact hs x (by simp [hx])
    rw [look_updL ks rs (upd σ k r) n2 (by simpa using hl) hsome κ]
    have keyedS : ∀ (l : List Row) (s x : Nat), look (keyed (s + 1) l) (x + 1) = look (keyed s l) x := by
      intro l
      induction l with
      | nil => intro s x; rfl
      | cons q l ih => intro s x; simp only [keyed, look, ih]; simp
    by_cases hκ : κ = k
    · subst hκ
      rw [if_neg n1, if_pos (by simp), look_upd, if_pos rfl]
      simp only [idx, if_pos, Nat.add_zero, keyed, look]
      cases hh : look σ κ with
      | none => exact absurd hh (hs κ (by simp))
      | some q => rfl
    · by_cases hm : κ ∈ ks
      · rw [if_pos hm, if_pos (by simp [hm])]
        simp only [idx, if_neg (fun e => hκ (Eq.symm e)), keyed, look]
        rw [if_neg (by omega), show refKey + (idx ks κ + 1) = refKey + idx ks κ + 1 by omega, keyedS]
      · rw [if_neg hm, if_neg (by simp [hκ, hm]), look_upd, if_neg hκ]

/-- The rows of these keys have been written by a call. -/
theorem Sim.setRows (h : Sim C I β st a w) {ks : List Nat} (hn : ks.Nodup) {rows rows' : List Row} (hl : lookL st.σ ks = some rows) (hlen : rows'.length = rows.length) {J : Imm} {w' : World}
    (hfrm : Frm w w' (fun b => ∃ κ l, refB β ks κ = some l ∧ l.blk = some b)) (hJ : Imm.le I J) (hin : J.inW w') (hx : ∀ b o, b < w.heap.size → J b o = I b o) (hr : Rows J (refB β ks) (keyed refKey rows') w') :
    Sim C J β ⟨st.T, updL st.σ ks rows'⟩ a w' := by
  obtain ⟨l1, l2⟩ := lookL_spec ks rows refKey hl
  have hsome : ∀ k ∈ ks, look st.σ k ≠ none := by
    intro k hk he
    have : ∀ (ks : List Nat) (rows : List Row), lookL st.σ ks = some rows → k ∈ ks → False := by
      intro ks
      induction ks with
      | nil => intro _ _ hk; cases hk
      | cons q l ih =>
        intro rows hl hk
        simp only [lookL] at hl
        split at hl
        · rename_i r rs hq hrs
          rcases List.mem_cons.1 hk with rfl | hk
          · rw [he] at hq; cases hq
          · exact ih rs hrs hk
        · cases hl
    exact this ks rows hl hk
  have hlook := look_updL ks rows' st.σ hn (by omega) hsome
  -- the blocks of these rows
  have hX : ∀ b, (∃ κ l, refB β ks κ = some l ∧ l.blk = some b) → ∃ k l, k ∈ ks ∧ β k = some l ∧ l.blk = some b := by
    rintro b ⟨κ, l, h1, h2⟩
    unfold refB at h1
    split at h1
    · cases h1
    · split at h1
      · rename_i k hk; exact ⟨k, l, keyAt_mem hk, h1, h2⟩
      · cases h1
  refine { le := h.le.trans hJ, inw := hin, ext := fun b o hb => by rw [hx b o (Nat.lt_of_lt_of_le hb h.frame.size)]; exact h.ext b o hb, defs := h.defs, size := h.size,
           tmps := fun t ht => (h.tmps t ht).mono hJ (fun _ _ => id), rows := ⟨?_, ?_, h.rows.sep, ?_⟩, own := h.own, refs := h.refs, frame := ?_ }
  · intro κ hκ
    rw [hlook] at hκ
    split at hκ
    · rename_i hm
      have := hr.dom _ hκ
      rw [refB_at hm] at this
      exact this
    · exact h.rows.dom κ hκ
  · intro κ r hκ
    rw [hlook] at hκ
    split at hκ
    · rename_i hm
      obtain ⟨l, h1, h2⟩ := hr.rows _ r hκ
      rw [refB_at hm] at h1
      exact ⟨l, h1, h2⟩
    · rename_i hm
      obtain ⟨l, h1, h2⟩ := h.rows.rows κ r hκ
      refine ⟨l, h1, h2.of_heap (fun b hb => hfrm.block b (h.rows.lt _ _ _ h1 hb) (fun hxb => ?_)) hJ (fun b o hb => by rw [hx b o (h.rows.lt _ _ _ h1 hb)]; exact (h2.at_ b hb).apart o)⟩
      obtain ⟨k, l', k1, k2, k3⟩ := hX b hxb
      exact h.rows.sep κ k l l' b (fun e => hm (e ▸ k1)) h1 k2 hb k3
  · exact fun κ l b h1 hb => Nat.lt_of_lt_of_le (h.rows.lt κ l b h1 hb) hfrm.size
  · refine h.frame.trans hfrm fun b hb hnx hxb => ?_
    obtain ⟨k, l, k1, k2, k3⟩ := hX b hxb
    rcases Nat.lt_or_ge k refKey with hk | hk
    · have := h.own k l b hk k2 k3
      omega
    · exact hnx ⟨k, l, h.refs k l hk k2, k3⟩

theorem unren_at {n0 : Nat} {ks : List Nat} {l : Loc} {d : DV} {v : Value} (h : ResAt I (refB β ks) n0 w l d v) : ResAt I β n0 w l (unren1 ks d) v := by
  cases d <;> first | exact h | skip
  rename_i κ o n
  have hb : ∀ l0, refB β ks κ = some l0 → ¬ κ < refKey ∧ ∃ k, keyAt ks (κ - refKey) = some k ∧ β k = some l0 := by
    intro l0 h
    unfold refB at h
    split at h
    · cases h
    · rename_i hlt
      split at h
      · rename_i k hk; exact ⟨hlt, k, hk, h⟩
      · cases h
  have h' : RepK I (refB β ks) (.ref κ o n) v := h
  simp only [unren1]
  cases h' with
  | pure h => cases h
  | ref _ _ _ cap l b a h1 h2 h3 h4 h5 h6 =>
    obtain ⟨c1, k, c2, c3⟩ := hb _ h1
    rw [if_neg c1, c2]
    exact RepK.ref k o n cap l b a c3 h2 h3 h4 h5 h6
  | refnil _ l ao h1 h2 =>
    obtain ⟨c1, k, c2, c3⟩ := hb _ h1
    rw [if_neg c1, c2]
    exact RepK.refnil k l ao c3 h2

theorem unrenL_length (ks : List Nat) (l : List DV) : (unrenL ks l).length = l.length := by induction l <;> simp [unrenL, *]
theorem nth_unrenL (ks : List Nat) (l : List DV) (j : Nat) : nth (unrenL ks l) j = unren1 ks (nth l j) := by
  induction l generalizing j with
  | nil => simp [unrenL, nth, unren1]
  | cons d r ih => cases j with
    | zero => rfl
    | succ j => exact ih j
theorem unren_fresh {n0 : Nat} {ks : List Nat} {l : Loc} {d : DV} {v : Value} (h : ResAt I (refB β ks) n0 w l d v) : isFresh (unren1 ks d) = isFresh d := by
  cases d <;> first | rfl | skip
  rename_i κ o n
  simp only [unren1]
  split
  · rfl
  · split <;> rfl

theorem Res.unren {n0 : Nat} {ks : List Nat} {d : DV} {v : Value} (h : Res I (refB β ks) n0 w d v) : Res I β n0 w (unren ks d) v := by
  have plain : (∀ ds, d ≠ .tup ds) → Res I β n0 w (Sx.unren ks d) v := by
    intro ht
    have hr : ∃ l, ResAt I (refB β ks) n0 w l d v := by cases d <;> first | exact (ht _ rfl).elim | exact h
    obtain ⟨l, hr⟩ := hr
    have h1 := unren_at hr
    have e : Sx.unren ks d = unren1 ks d := by cases d <;> first | exact (ht _ rfl).elim | rfl
    rw [e]
    have hnt : ∀ ds, unren1 ks d ≠ .tup ds := by
      intro ds hd
      cases d <;> first | exact (ht _ rfl).elim | (simp only [unren1] at hd; (first | (cases hd; done) | (split at hd <;> first | (cases hd; done) | (split at hd <;> cases hd))))
    generalize unren1 ks d = d' at h1 hnt
    cases d' <;> first | exact (hnt _ rfl).elim | exact ⟨l, h1⟩
  cases d with
  | tup ds =>
    obtain ⟨vs, ls, h1, h2, h3, h4⟩ := h
    refine ⟨vs, ls, h1, by rw [unrenL_length]; exact h2, fun j hj => ?_, fun i j b hi hj hij hfi hfj => ?_⟩
    · rw [unrenL_length] at hj; rw [nth_unrenL]; exact unren_at (h3 j hj)
    · rw [unrenL_length] at hi hj
      rw [nth_unrenL, unren_fresh (h3 i hi)] at hfi
      rw [nth_unrenL, unren_fresh (h3 j hj)] at hfj
      exact h4 i j b hi hj hij hfi hfj
  | _ => exact plain (fun ds h => by cases h)

theorem refs_lands (hs : Sim C I β st a w) {g : FuncId} {ds : List DV} {vs : Array Value} (hsz : vs.size = ds.length) (hrep : ∀ j < ds.length, RepK I β (nth ds j) (vs.getD j undef)) {κ : Nat} {K : DV → St → Prop}
    (hK : (std P Lf.refs) g ds κ st K) : Upto P C a g vs w K := by
  obtain ⟨rows, hl, _, hfn⟩ := hK
  obtain ⟨hn, _, hmem⟩ := nub_spec (keysOfL ds) [] List.nodup_nil
  generalize hks : nub [] (keysOfL ds) = ks at *
  obtain ⟨l1, l2⟩ := lookL_spec ks rows refKey hl
  have hR : Rows I (refB β ks) (keyed refKey rows) w := by
    refine ⟨?_, ?_, ?_, ?_⟩
    · intro κ hκ
      rw [l2] at hκ
      unfold refB
      split
      · rfl
      · rename_i hlt
        rw [if_neg hlt] at hκ
        split
        · rename_i k hk
          rw [hk] at hκ
          exact hs.rows.dom k hκ
        · rfl
    · intro κ r hκ
      rw [l2] at hκ
      split at hκ
      · cases hκ
      · rename_i hlt
        split at hκ
        · rename_i k hk
          obtain ⟨l, h1, h2⟩ := hs.rows.rows k r hκ
          exact ⟨l, by unfold refB; rw [if_neg hlt, hk]; exact h1, h2⟩
        · cases hκ
    · intro κ κ' l l' b hne h1 h2
      unfold refB at h1 h2
      split at h1
      · cases h1
      · split at h2
        · cases h2
        · split at h1
          · rename_i k hk
            split at h2
            · rename_i k' hk'
              refine hs.rows.sep k k' l l' b (fun e => hne ?_) h1 h2
              subst e
              have := keyAt_inj hn hk hk'
              omega
            · cases h2
          · cases h1
    · intro κ l b h1
      unfold refB at h1
      split at h1
      · cases h1
      · split at h1
        · rename_i k hk; exact hs.rows.lt k l b h1
        · cases h1
  refine (hfn w I vs (refB β ks) hs.inw (by rw [renL_length]; exact hsz) (fun j hj => ?_) hR).mono ?_
  · rw [renL_length] at hj
    rw [nth_renL]
    exact (hrep j hj).ren (fun k hk => hmem k (nth_mem_keys hk))
  · rintro e w' ⟨v, d, rows', I', a1, a2, a3, a4, a5, a6, a7, a8, a9⟩
    have s2 := hs.setRows hn hl a7 a8 a2 a3 a4 a6
    exact ⟨v, a1, bind_lands s2 hs.frame.size (fun κ l b h hb => hs.rows.lt κ l b h hb) a5.unren a9⟩
end
end Go.Sx
namespace Go.Sx

section
variable {P : Program} {md : Modes} {C : Ctx} {I : Imm} {β : Nat → Option Loc} {st : St} {a : Act} {w : World}

theorem clear_lands (hs : Sim C I β st a w) {t e : TypeId} {c : Call} {o : Oper} (ho : o.op = .call c) (hcal : c.callee = .builtin .clear) {xo : Operand} (hargs : c.args.toList = [xo]) (htys : c.argTypes.toList = [t])
    (ht : P.underlying t = some (.slice e)) {es by_ : Nat} {zd : DV} (hz : cZero P e = some (es, by_, zd)) {p : Arg} (hp : cArg xo = some p) {K : DV → St → Prop} (hK : clearV (std P) es zd st (ev st p) K) :
    ∃ v w', (execOp a.eval o).run P w = .ok (.value v) w' ∧ Lands C a K v w' := by
  obtain ⟨i, z, h1, h2, rfl, rfl, h4, h5, h6⟩ := cZero_ok hz
  obtain ⟨z1, z2, z3⟩ := (h6 I).cells h5
  obtain ⟨q1, q2, _⟩ := okCells_iff h5
  have ha : c.args = #[xo] := by rw [← Array.toArray_toList (xs := c.args), hargs]
  have hta : c.argTypes = #[t] := by rw [← Array.toArray_toList (xs := c.argTypes), htys]
  have hgo : ∀ {w'}, (Builtin.clear_ #[t] o.type #[a.eval xo]).run P w = .ok undef w' → Lands C a K undef w' → ∃ v w', (execOp a.eval o).run P w = .ok (.value v) w' ∧ Lands C a K v w' := by
    intro w' e1 e2
    exact ⟨undef, w', by simp [execOp, ho, resolve, hcal, invoke, builtin, ha, hta, e1], e2⟩
  have hpx := arg_rep hp hs
  unfold clearV at hK
  split at hK
  · rename_i k o' n hev
    rw [hev] at hpx
    split at hK
    · rename_i sz n0 f hr
      obtain ⟨hsz, hk⟩ := hK
      subst hsz
      simp only [std] at hk
      obtain ⟨l, hl, hrow⟩ := hs.rows.rows k _ hr
      have nothing : n = 0 → ∀ ao cap, a.eval xo = .slice ao n cap → ∃ v w', (execOp a.eval o).run P w = .ok (.value v) w' ∧ Lands C a K v w' := by
        intro hn ao cap hv
        subst hn
        have hf : clrFF o' 0 zd f = f := by funext j; simp only [clrFF]; rw [if_neg (by omega)]
        rw [hf] at hk
        refine hgo (w' := w) ?_ ⟨I, β, .und, _, hs.setRow hl (Frm.refl w _) hrow, .pure .und, hk⟩
        cases ao <;> simp [Builtin.clear_, run_underlying ht, hv, undef]
      generalize hv : a.eval xo = pv at hpx
      cases hpx with
      | pure h => cases h
      | refnil _ l' ao g1 g2 => exact nothing rfl ao 0 hv
      | ref _ _ _ cap l' b ad g1 g2 g3 g4 g5 g6 =>
        by_cases hn : n = 0
        · exact nothing hn _ cap hv
        · rw [hl] at g1
          obtain rfl := Option.some.inj g1
          have hA := hrow.at_ b g2
          have hlsz : l.sz = i.size := hrow.sz
          have hln : l.n = n0 := hrow.n
          have had := g6 (by omega)
          rw [hlsz] at g5 had
          have hbd : l.off + o' * i.size + n * i.size ≤ l.tot := by
            have := Nat.mul_le_mul_right i.size (show o' + n ≤ o' + cap by omega)
            rw [Nat.add_mul] at this
            omega
          have hlen : (Builtin.zeroCells z.cells n).toList.length = n * i.size := by simp [size_zeroCells, z1]
          have hget : ∀ q j, q < n → j < i.size → (Builtin.zeroCells z.cells n).toList.getD (q * i.size + j) undef = z.cells.getD j undef := by
            intro q j hq hj
            have h0 := zero_cells (z := z.cells) (n := n) (sz := z.cells.size) rfl hq (by rw [z1]; exact hj)
            have e0 : ∀ (arr : Array Value) (k : Nat), arr.toList.getD k undef = arr.getD k undef := fun arr k => by simp [List.getD, Array.getD_eq_getD_getElem?]
            rw [e0, ← z1]
            exact h0
          have hst := run_storeCells_cells (P := P) b (l.off + o' * i.size) (Builtin.zeroCells z.cells n).toList 0 w (fun j hj => hA.there _ (by rw [hlen] at hj; omega)) (fun j hj => hA.free _ (by rw [hlen] at hj; omega)) (fun u hu => by
            obtain ⟨j, hj, rfl⟩ := List.mem_iff_getElem.1 hu
            rw [hlen] at hj
            obtain ⟨d1, d2, d3⟩ := divmod h4 hj
            have e1 := hget _ _ d1 d2
            rw [d3] at e1
            have e2 : (Builtin.zeroCells z.cells n).toList[j] = (Builtin.zeroCells z.cells n).toList.getD j undef := by
              simp [List.getD, List.getElem?_eq_getElem (show j < (Builtin.zeroCells z.cells n).toList.length by rw [hlen]; exact hj)]
            rw [e2, e1]
            exact z3 _ d2)
          simp only [Nat.add_zero] at hst
          have hA' : RowAt I (w.setCells b (l.off + o' * i.size) (Builtin.zeroCells z.cells n).toList) l (.arr i.size n0 (clrFF o' n zd f)) b := by
            refine hA.write (r' := .arr i.size n0 (clrFF o' n zd f)) rfl rfl (by rw [hlen]; omega) ?_ ?_
            · intro q hq
              simp only [Row.f, clrFF]
              split
              · exact ⟨q1, q2⟩
              · exact hA.elem q hq
            · intro q j hq hj
              simp only [Row.n, Row.sz] at hq hj
              simp only [Row.f, Row.sz, clrFF, hlen]
              have hmul : (o' * i.size ≤ q * i.size + j ∧ q * i.size + j < o' * i.size + n * i.size) ↔ (o' ≤ q ∧ q < o' + n) := by
                constructor
                · rintro ⟨c1, c2⟩
                  constructor
                  · rcases Nat.lt_or_ge q o' with h | h
                    · have := mul_lt (sz := i.size) (q := 0) h hj; omega
                    · exact h
                  · rcases Nat.lt_or_ge q (o' + n) with h | h
                    · exact h
                    · have := Nat.mul_le_mul_right i.size h
                      rw [Nat.add_mul] at this
                      omega
                · rintro ⟨c1, c2⟩
                  have e1 := Nat.mul_le_mul_right i.size c1
                  have e2 := mul_lt (sz := i.size) (q := 0) c2 hj
                  rw [Nat.add_mul] at e2
                  omega
              constructor
              · intro hc
                have hc' := hmul.1 (by omega)
                rw [if_pos hc']
                have e1 := hget (q - o') j (by omega) hj
                have e2 : (q - o') * i.size = q * i.size - o' * i.size := Nat.sub_mul _ _ _
                have e3 := Nat.mul_le_mul_right i.size hc'.1
                rw [show l.off + q * i.size + j - (l.off + o' * i.size) = (q - o') * i.size + j by omega, e1]
                exact z2 j hj
              · intro hc
                rw [if_neg (fun h => hc (by have := hmul.2 h; omega))]
          refine hgo (w' := w.setCells b (l.off + o' * i.size) (Builtin.zeroCells z.cells n).toList) ?_ ⟨I, β, .und, _, hs.setRow hl (Frm.setCells w b _ _ _ (.inr g2)) (hrow.write (r' := .arr i.size n0 (clrFF o' n zd f)) g2 rfl rfl hA'), .pure .und, hk⟩
          rw [hv, had]
          cases n with
          | zero => exact absurd rfl hn
          | succ n => simp [Builtin.clear_, run_underlying ht, zeroValue, typeInfo, h1, h2, hst, undef]
    · exact hK.elim
  · exact hK.elim
end
end Go.Sx
/-! Bytes of a string; bytes of a constant; a slice against nil; copy. -/
namespace Go.Sx

section
variable {P : Program} {md : Modes} {C : Ctx} {I : Imm} {β : Nat → Option Loc} {st : St} {a : Act} {w : World}

theorem cell_allocF (w : World) (arr : Array Value) (ty : TypeId) (fr : Nat × Nat) (j : Nat) : (w.alloc (.cells arr ty fr)).cell? ⟨w.heap.size, j, none⟩ = arr[j]? := by
  simp only [World.cell?, World.alloc]
  simp
theorem frozen_allocF (w : World) (arr : Array Value) (ty : TypeId) (lo hi : Nat) (j : Nat) (h : j < lo) : (w.alloc (.cells arr ty (lo, hi))).frozen? ⟨w.heap.size, j, none⟩ = false := by
  simp only [World.frozen?, World.alloc]
  simp
  omega
/-- A new block of cells, marked behind its end, is a new row. -/
theorem Sim.allocF (h : Sim C I β st a w) {κ : Nat} {r : Row} (hκ : κ < refKey) (hn : look st.σ κ = none) {arr : Array Value} {ty : TypeId} {hi : Nat} (hpos : 0 < r.sz) (hfit : r.n * r.sz ≤ arr.size)
    (helem : ∀ i < r.n, elemOk r.sz (r.f i)) (hval : ∀ i j, i < r.n → j < r.sz → ∃ v, arr[i * r.sz + j]? = some v ∧ Rep I (nth (cells (r.f i)) j) v) :
    Sim C I (updB β κ ⟨some w.heap.size, 0, r.sz, r.n, arr.size⟩) ⟨st.T, ins st.σ κ r⟩ a (w.alloc (.cells arr ty (arr.size, hi))) := by
  refine (h.newRow hκ hn (Frm.alloc _ _ _) ?_ ?_).1
  · intro b hb
    obtain rfl := Option.some.inj hb
    refine ⟨h.frame.size, by simp only [World.alloc, Array.size_push]; omega, fun κ' l' hl hb => ?_⟩
    exact absurd (h.rows.lt κ' l' _ hl hb) (by omega)
  · refine ⟨rfl, rfl, hpos, fun b hb => ?_, fun hb => by cases hb⟩
    obtain rfl := Option.some.inj hb
    exact {
      there := fun j hj => by rw [cell_allocF]; simp [hj]
      val := fun i j hi hj => by
        obtain ⟨v, h1, h2⟩ := hval i j hi hj
        exact ⟨v, by rw [cell_allocF]; simpa using h1, h2⟩
      free := fun o ho => frozen_allocF _ _ _ _ _ _ ho
      fits := by simpa using hfit
      apart := fun o => by
        cases hI : I w.heap.size o with
        | none => rfl
        | some v =>
          have := block_lt (by rw [h.inw _ _ _ hI]; rfl)
          omega
      elem := helem
      mark := fun c ty' fr hc => by
        have e : (w.alloc (.cells arr ty (arr.size, hi))).heap[w.heap.size]? = some (.cells arr ty (arr.size, hi)) := by
          show (w.heap.push _)[w.heap.size]? = _
          simp
        rw [e] at hc
        cases hc
        exact .inr (Nat.le_refl _) }

theorem toBytes_lands (hs : Sim C I β st a w) {s t e : TypeId} {x : Operand} {o : Oper} (ho : o.op = .convert s t x) (h1 : P.underlying s = some .string) (h2 : P.underlying t = some (.slice e)) (he : P.underlying e = some (.int .u8)) {p : Arg} (hp : cArg x = some p)
    {κ : Nat} {K : DV → St → Prop} (hK : toBytesV (std P) κ st (ev st p) K) : ∃ v w', (execOp a.eval o).run P w = .ok (.value v) w' ∧ Lands C a K v w' := by
  have hx := arg_rep hp hs
  unfold toBytesV at hK
  split at hK
  · rename_i z hev
    rw [hev] at hx
    have ev' := hx.inv_str
    obtain ⟨hκ, hl, hk⟩ := addRow_iff hK
    have hge : z.size ≤ grownCap w z.size 0 e := by have := grownCap_ge w z.size 0 e; omega
    have hsz : (bytesRow z (grownCap w z.size 0 e)).size = grownCap w z.size 0 e := by
      simp [bytesRow]; omega
    have hrun := run_bytes_of_string (P := P) w s t e z h1 h2 he
    refine ⟨_, _, by simp only [execOp, ho, ev']; rw [Sem.run_bind, hrun]; rfl, ?_⟩
    have key := (hs.drew).allocF (κ := κ) (r := .arr 1 z.size (fun i => .int .u8 (byteF z i))) (arr := bytesRow z (grownCap w z.size 0 e)) (ty := e) (hi := (bytesRow z (grownCap w z.size 0 e)).size + 1) hκ hl (Nat.succ_pos 0) (by simp only [Row.n, Row.sz, hsz]; omega)
      (fun i _ => ⟨rfl, fun j hj => by obtain rfl : j = 0 := by simp only [Row.sz] at hj; omega
                                       rfl⟩)
      (fun i j hi hj => by
        simp only [Row.n, Row.sz] at hi hj ⊢
        obtain rfl : j = 0 := by omega
        refine ⟨.int .u8 (byteF z i), ?_, .int _ _⟩
        have hi' : i < z.data.size := hi
        simp only [bytesRow, Nat.mul_one, Nat.add_zero]
        rw [Array.getElem?_append_left (by simpa using hi')]
        simp only [Array.getElem?_map, Array.getElem?_eq_getElem hi', Option.map_some, byteF]
        rw [dif_pos hi]
        rfl)
    refine ⟨I, _, _, _, key, ?_, hk⟩
    have := ref_new (I := I) (β := β) (κ := κ) (b := w.heap.size) (sz := 1) (n0 := z.size) (tot := (bytesRow z (grownCap w z.size 0 e)).size) (n := z.size) (cap := grownCap w z.size 0 e) hge (Nat.le_refl _) (by rw [hsz]; omega)
    exact this
  · exact hK.elim

theorem convL_lands (hs : Sim C I β st a w) {t e : TypeId} {x : Operand} {o : Oper} (ho : o.op = .convert t t x) (h1 : P.underlying t = some (.slice e)) (he : P.underlying e = some (.int .u8)) {p : Arg} (hp : cArg x = some p)
    {K : DV → St → Prop} (hK : convLV (std P) st (ev st p) K) : ∃ v w', (execOp a.eval o).run P w = .ok (.value v) w' ∧ Lands C a K v w' := by
  have hx := arg_rep hp hs
  unfold convLV at hK
  split at hK
  · rename_i k o' n hev
    rw [hev] at hx
    split at hK
    · rename_i sz n0 f hr
      obtain ⟨rfl, hk, hn, hK⟩ := hK
      have hn1 : 1 ≤ n := hn.1
      obtain ⟨l, hl, hrow⟩ := hs.rows.rows k _ hr
      generalize hv : a.eval x = pv at hx
      cases hx with
      | pure h => cases h
      | refnil => omega
      | ref _ _ _ cap l' b ad g1 g2 g3 g4 g5 g6 =>
        rw [hl] at g1
        obtain rfl := Option.some.inj g1
        obtain rfl := g6 (by omega)
        have hA := hrow.at_ b g2
        have hln : l.n = n0 := hrow.n
        have hlsz : l.sz = 1 := hrow.sz
        have hfits := hA.fits
        simp only [Row.n, Row.sz] at hfits
        -- the block is one of cells
        obtain ⟨u, hu⟩ := Option.isSome_iff_exists.1 (hA.there 0 (by omega))
        have hblk : ∃ c ty fr, w.heap[b]? = some (.cells c ty fr) := by
          simp only [World.cell?] at hu
          split at hu
          · rename_i c ty fr hh; exact ⟨c, ty, fr, hh⟩
          · cases hu
        obtain ⟨c, ty, ⟨lo, hi⟩, hb⟩ := hblk
        have hblt : b < w.heap.size := block_lt (by rw [hu]; rfl)
        have htot : l.tot ≤ c.size := by
          rcases Nat.lt_or_ge c.size l.tot with h | h
          · have := hA.there c.size h
            simp only [World.cell?, hb] at this
            simp at this
          · exact h
        have hcell : ∀ o, (w.freeze ⟨b, c.size, none⟩ 1).cell? ⟨b, o, none⟩ = w.cell? ⟨b, o, none⟩ := by
          intro o
          simp only [World.cell?, World.freeze]
          rw [if_neg (by decide)]
          simp only [Array.getElem?_modify, hb, if_true, Option.map_some]
        have hheap : (w.freeze ⟨b, c.size, none⟩ 1).heap[b]? = some (.cells c ty (if lo == hi then (c.size, c.size + 1) else (min lo c.size, max hi (c.size + 1)))) := by
          simp only [World.freeze]
          rw [if_neg (by decide)]
          simp only [Array.getElem?_modify, hb, if_true, Option.map_some]
        have hm := hA.mark c ty (lo, hi) hb
        have hA' : RowAt I (w.freeze ⟨b, c.size, none⟩ 1) l (.arr 1 n0 f) b :=
          { there := fun j hj => by rw [hcell]; exact hA.there j hj
            val := fun i j hi hj => by
              obtain ⟨v, q1, q2⟩ := hA.val i j hi hj
              exact ⟨v, by rw [hcell]; exact q1, q2⟩
            free := fun o ho => by
              simp only [World.frozen?, hheap]
              by_cases hlh : lo = hi
              · subst hlh; simp; omega
              · have : l.tot ≤ lo := by
                  rcases hm with h | h
                  · exact absurd h hlh
                  · exact h
                simp [hlh]; omega
            fits := hA.fits
            apart := hA.apart
            elem := hA.elem
            mark := fun c' ty' fr hc => by
              rw [hheap] at hc
              cases hc
              by_cases hlh : lo = hi
              · simp [hlh]; omega
              · have : l.tot ≤ lo := by
                  rcases hm with h | h
                  · exact absurd h hlh
                  · exact h
                simp [hlh]; omega }
        have hfrm : Frm w (w.freeze ⟨b, c.size, none⟩ 1) (fun b' => l.blk = some b') := by
          refine ⟨?_, ?_, ?_, ?_, ?_⟩
          · simp [World.freeze]
          · simp [World.freeze]
          · simp [World.freeze]
          · simp [World.freeze]
          · intro b' _ hx'
            have hne : b ≠ b' := fun e => hx' (by rw [← e]; exact g2)
            simp only [World.freeze]
            rw [if_neg (by decide)]
            simp only [Array.getElem?_modify]
            rw [if_neg hne]
        have hrow' : RowOk I (w.freeze ⟨b, c.size, none⟩ 1) l (.arr 1 n0 f) :=
          ⟨hrow.sz, hrow.n, hrow.pos, fun b' hb' => by rw [g2] at hb'; obtain rfl := Option.some.inj hb'; exact hA', fun hb' => by rw [g2] at hb'; cases hb'⟩
        have key := hs.setRow hl hfrm hrow'
        have hsh : w.shape? b = some (ty, c.size) := by
          simp only [World.shape?, hb]
        refine ⟨_, w.freeze ⟨b, c.size, none⟩ 1, ?_, I, β, _, _, key, .ref k o' n cap l b _ hl g2 g3 g4 g5 (fun _ => rfl), hK⟩
        simp [execOp, ho, hv, convert, run_underlying h1, run_underlying he, markStringish, hsh]
    · exact hK.elim
  · exact hK.elim

theorem equal_nil {t e : TypeId} (ht : P.underlying t = some (.slice e)) (ao : Option Addr) (n cap : Nat) : (Op.equal t (.slice ao n cap) (.slice none 0 0)).run P w = .ok ao.isNone w := by
  have key : ∀ d, (Op.equalIn (d + 1) t (.slice ao n cap) (.slice none 0 0)).run P w = .ok ao.isNone w := by
    intro d
    cases ao <;> simp [Op.equalIn, run_underlying ht]
  exact key 9999
theorem slice_val {d : DV} {v : Value} {n : Nat} (h : RepK I β d v) (hd : (∃ sz t f, d = .lst sz t n f) ∨ ∃ κ o, d = .ref κ o n) : ∃ ao cap, v = .slice ao n cap ∧ (0 < n → ao.isNone = false) := by
  rcases hd with ⟨sz, t, f, rfl⟩ | ⟨κ, o, rfl⟩
  · cases h with
    | pure h =>
      cases h with
      | lst _ _ _ _ a cap b o val h1 h2 h3 h4 => exact ⟨a, cap, rfl, fun hn => by rw [h4 hn]; rfl⟩
  · cases h with
    | pure h => cases h
    | ref _ _ _ cap l b ad g1 g2 g3 g4 g5 g6 => exact ⟨some ad, cap, rfl, fun _ => rfl⟩
    | refnil _ l ao g1 g2 => exact ⟨ao, 0, rfl, fun h => absurd h (Nat.lt_irrefl _)⟩
theorem nilS_lands (hs : Sim C I β st a w) {t e yt : TypeId} {x : Operand} {op : BinOp} {o : Oper} (ho : o.op = .binOp op t x (.const (.slice none 0 0)) yt) (ht : P.underlying t = some (.slice e)) {neg : Bool} (hop : (op = .eql ∧ neg = false) ∨ (op = .neq ∧ neg = true))
    {p : Arg} (hp : cArg x = some p) {K : DV → St → Prop} (hK : nilSV (std P) st neg (ev st p) K) : ∃ v w', (execOp a.eval o).run P w = .ok (.value v) w' ∧ Lands C a K v w' := by
  have hx := arg_rep hp hs
  have go : ∀ {ao : Option Addr} {n cap : Nat}, a.eval x = .slice ao n cap → (neg = false → K (.bool ao.isNone) st) → (neg = true → K (.bool (!ao.isNone)) st) → ∃ v w', (execOp a.eval o).run P w = .ok (.value v) w' ∧ Lands C a K v w' := by
    intro ao n cap hv k1 k2
    have he : a.eval (.const (.slice none 0 0)) = .slice none 0 0 := rfl
    have hg : ∀ op y, (eqGuard op t x y (.slice ao n cap) (.slice none 0 0)).run P w = .ok () w := fun op y => run_eqGuard_other (by intro b; simp) (by simp)
    rcases hop with ⟨rfl, rfl⟩ | ⟨rfl, rfl⟩
    · refine ⟨.bool ao.isNone, w, ?_, I, β, _, st, hs, .pure (.bool _), k1 rfl⟩
      simp [execOp, ho, hv, he, hg, binOp, equal_nil ht]
    · refine ⟨.bool (!ao.isNone), w, ?_, I, β, _, st, hs, .pure (.bool _), k2 rfl⟩
      simp [execOp, ho, hv, he, hg, binOp, equal_nil ht]
  have unk : ∀ {n : Nat} (F : Bool → Prop), (∃ ao cap, a.eval x = .slice ao n cap ∧ (0 < n → ao.isNone = false)) → (neg = false → ∀ b, F b → K (.bool b) st) → (neg = true → ∀ b, F b → K (.bool (!b)) st) → (std P .unk n F) → ∃ v w', (execOp a.eval o).run P w = .ok (.value v) w' ∧ Lands C a K v w' := by
    rintro n F ⟨ao, cap, hv, hn⟩ f1 f2 ⟨k1, k2⟩
    have hb : F ao.isNone := by
      rcases Nat.eq_zero_or_pos n with h0 | h0
      · exact k2 h0 _
      · rw [hn h0]; exact k1 h0
    exact go hv (fun e => f1 e _ hb) (fun e => f2 e _ hb)
  unfold nilSV at hK
  split at hK
  · rename_i hev
    rw [hev] at hx
    have hv : a.eval x = .slice none 0 0 := by
      generalize a.eval x = v at hx
      cases hx with
      | pure h => cases h; rfl
    refine go hv (fun e => ?_) (fun e => ?_)
    · rw [e] at hK; exact hK
    · rw [e] at hK; exact hK
  · rename_i sz tt n f hev
    rw [hev] at hx
    exact unk _ (slice_val hx (.inl ⟨_, _, _, rfl⟩)) (fun e b h => by rw [e] at h; exact h) (fun e b h => by rw [e] at h; exact h) hK
  · rename_i κ oo n hev
    rw [hev] at hx
    exact unk _ (slice_val hx (.inr ⟨_, _, rfl⟩)) (fun e b h => by rw [e] at h; exact h) (fun e b h => by rw [e] at h; exact h) hK
  · exact hK.elim

theorem SlAt.take {es m k : Nat} {g : Nat → DV} {ao : Option Addr} {cap : Nat} (h : SlAt I w es m g ao cap) (hk : k ≤ m) : SlAt I w es k g ao cap :=
  ⟨Nat.le_trans hk h.le, fun i hi => h.elem i (by omega), fun h0 => by
    obtain ⟨b, o, h1, h2⟩ := h.at_ (by omega)
    exact ⟨b, o, h1, fun i j hi hj => h2 i j (by omega) hj⟩⟩
theorem copy_lands (hs : Sim C I β st a w) {t e : TypeId} {tl : List TypeId} {c : Call} {o : Oper} (ho : o.op = .call c) (hcal : c.callee = .builtin .copy) {xo yo : Operand} (hargs : c.args.toList = [xo, yo]) (htys : c.argTypes.toList = t :: tl)
    (ht : P.underlying t = some (.slice e)) {i : TypeInfo} (hi : P.info? e = some i) {p q : Arg} (hp : cArg xo = some p) (hq : cArg yo = some q) {K : DV → St → Prop} (hK : copyV (std P) st i.size (ev st p) (ev st q) K) :
    ∃ v w', (execOp a.eval o).run P w = .ok (.value v) w' ∧ Lands C a K v w' := by
  have ha : c.args = #[xo, yo] := by rw [← Array.toArray_toList (xs := c.args), hargs]
  have hta : c.argTypes = (t :: tl).toArray := by rw [← Array.toArray_toList (xs := c.argTypes), htys]
  have hgo : ∀ {v w'}, (Builtin.copy_ (t :: tl).toArray o.type #[a.eval xo, a.eval yo]).run P w = .ok v w' → Lands C a K v w' → ∃ v w', (execOp a.eval o).run P w = .ok (.value v) w' ∧ Lands C a K v w' := by
    intro v w' e1 e2
    exact ⟨v, w', by simp [execOp, ho, resolve, hcal, invoke, builtin, ha, hta, e1], e2⟩
  have hpx := arg_rep hp hs
  have hqx := arg_rep hq hs
  unfold copyV at hK
  split at hK
  · rename_i k o' n m g hev hcont
    rw [hev] at hpx
    split at hcont
    · cases hcont
    · rename_i hns
      have hx : ∀ s, ev st q ≠ .str s := fun s e => by rw [e] at hns; cases hns
      obtain ⟨ao, cap2, hv2, hA2⟩ := cont_at hs hx hcont hqx
      split at hK
      · rename_i sz n0 f hr
        obtain ⟨hsz, hk⟩ := hK
        subst hsz
        simp only [std] at hk
        obtain ⟨l, hl, hrow⟩ := hs.rows.rows k _ hr
        have hpos : 0 < i.size := hrow.pos
        have hlen : (Builtin.lenOf (a.eval yo)).run P w = .ok m w := by rw [hv2]; simp [Builtin.lenOf]
        obtain ⟨mm, hmm⟩ : ∃ mm, mm = min m n := ⟨_, rfl⟩
        have hmm1 : mm ≤ m := by rw [hmm]; exact Nat.min_le_left m n
        have hmm2 : mm ≤ n := by rw [hmm]; exact Nat.min_le_right m n
        have hmn : Nat.min m n = mm := hmm.symm
        rw [← hmm] at hk
        have nothing : mm = 0 → ∀ ad cap, a.eval xo = .slice ad n cap → (Builtin.firstCells i.size 0 (a.eval yo)).run P w = .ok #[] w → ∃ v w', (execOp a.eval o).run P w = .ok (.value v) w' ∧ Lands C a K v w' := by
          intro hn ad cap hv hfc
          rw [hn] at hk
          have hf : cpyFF o' 0 g f = f := by funext j; simp only [cpyFF]; rw [if_neg (by omega)]
          rw [hf] at hk
          refine hgo (v := goInt 0) (w' := w) ?_ ⟨I, β, _, _, hs.setRow hl (Frm.refl w _) hrow, .pure (.int _ _), hk⟩
          rw [hv]
          cases ad <;> simp [Builtin.copy_, run_underlying ht, sizeOf, typeInfo, hi, hlen, hmn, hn, hfc, storeCells]
        have hfc0 : (Builtin.firstCells i.size 0 (a.eval yo)).run P w = .ok #[] w := by
          rw [hv2]
          cases ao with
          | none => exact run_firstCells_none w _ _ _ _
          | some ad => simpa using run_firstCells_some w i.size 0 ad m cap2 [] (by simp) (by simp)
        generalize hv : a.eval xo = pv at hpx
        cases hpx with
        | pure h => cases h
        | refnil _ l' ad g1 g2 => exact nothing (by omega) ad 0 hv hfc0
        | ref _ _ _ cap l' b ad g1 g2 g3 g4 g5 g6 =>
          by_cases hn : mm = 0
          · exact nothing hn _ cap hv hfc0
          · rw [hl] at g1
            obtain rfl := Option.some.inj g1
            have hA := hrow.at_ b g2
            have hlsz : l.sz = i.size := hrow.sz
            have hln : l.n = n0 := hrow.n
            have had := g6 (by omega)
            rw [hlsz] at g5 had
            obtain ⟨news, hN, _, hat⟩ := (hA2.take hmm1).cells hpos
            have hnl : news.length = mm * i.size := hN.len
            have hbd : l.off + o' * i.size + mm * i.size ≤ l.tot := by
              have := Nat.mul_le_mul_right i.size (show o' + mm ≤ o' + cap by omega)
              rw [Nat.add_mul] at this
              omega
            have hsrc : (Builtin.firstCells i.size (mm) (a.eval yo)).run P w = .ok news.toArray w := by
              rw [hv2]
              cases ao with
              | some ad' => exact run_firstCells_some w i.size _ ad' m cap2 news hnl (hat ad' rfl)
              | none =>
                obtain ⟨b', o'', hh, _⟩ := (hA2.take hmm1).at_ (by omega)
                cases hh
            have hst := run_storeCells_cells (P := P) b (l.off + o' * i.size) news 0 w (fun j hj => hA.there _ (by omega)) (fun j hj => hA.free _ (by omega)) hN.one
            simp only [Nat.add_zero] at hst
            have hA' : RowAt I (w.setCells b (l.off + o' * i.size) news) l (.arr i.size n0 (cpyFF o' (mm) g f)) b := by
              refine hA.write (r' := .arr i.size n0 (cpyFF o' (mm) g f)) rfl rfl (by omega) ?_ ?_
              · intro q hq
                simp only [Row.f, cpyFF]
                split
                · exact hN.elem _ (by omega)
                · exact hA.elem q hq
              · intro q j hq hj
                simp only [Row.n, Row.sz] at hq hj
                simp only [Row.f, Row.sz, cpyFF, hnl]
                have hmul : (o' * i.size ≤ q * i.size + j ∧ q * i.size + j < o' * i.size + mm * i.size) ↔ (o' ≤ q ∧ q < o' + mm) := by
                  constructor
                  · rintro ⟨c1, c2⟩
                    constructor
                    · rcases Nat.lt_or_ge q o' with h | h
                      · have := mul_lt (sz := i.size) (q := 0) h hj; omega
                      · exact h
                    · rcases Nat.lt_or_ge q (o' + mm) with h | h
                      · exact h
                      · have := Nat.mul_le_mul_right i.size h
                        rw [Nat.add_mul] at this
                        omega
                  · rintro ⟨c1, c2⟩
                    have e1 := Nat.mul_le_mul_right i.size c1
                    have e2 := mul_lt (sz := i.size) (q := 0) c2 hj
                    rw [Nat.add_mul] at e2
                    omega
                constructor
                · intro hc
                  have hc' := hmul.1 (by omega)
                  rw [if_pos hc']
                  have e1 := hN.rep (q - o') j (by omega) hj
                  have e2 : (q - o') * i.size = q * i.size - o' * i.size := Nat.sub_mul _ _ _
                  have e3 := Nat.mul_le_mul_right i.size hc'.1
                  rw [show l.off + q * i.size + j - (l.off + o' * i.size) = (q - o') * i.size + j by omega]
                  exact e1
                · intro hc
                  rw [if_neg (fun h => hc (by have := hmul.2 h; omega))]
            refine hgo (v := goInt (mm)) (w' := w.setCells b (l.off + o' * i.size) news) ?_ ⟨I, β, _, _, hs.setRow hl (Frm.setCells w b _ _ _ (.inr g2)) (hrow.write (r' := .arr i.size n0 (cpyFF o' (mm) g f)) g2 rfl rfl hA'), .pure (.int _ _), hk⟩
            rw [hv, had]
            simp [Builtin.copy_, run_underlying ht, sizeOf, typeInfo, hi, hlen, hmn, hsrc, hst]
      · exact hK.elim
  · exact hK.elim
end
end Go.Sx
namespace Go.Sx

section
variable {P : Program} {md : Modes} {C : Ctx} {I : Imm} {β : Nat → Option Loc} {st : St} {a : Act} {w : World}

/-- What an operation does. -/
inductive OpOk (P : Program) (C : Ctx) (a : Act) (w : World) (o : Oper) (K : DV → St → Prop) : Prop
  | value (v : Value) (w' : World) : (execOp a.eval o).run P w = .ok (.value v) w' → Lands C a K v w' → OpOk P C a w o K
  | skip (w' : World) : (execOp a.eval o).run P w = .ok .skip w' → Lands C a K undef w' → OpOk P C a w o K
  | enter (g : FuncId) (vs : Array Value) : (execOp a.eval o).run P w = .ok (.enter g vs) w → Upto P C a g vs w K → OpOk P C a w o K

theorem OpOk.of_value {o : Oper} {K : DV → St → Prop} (h : ∃ v w', (execOp a.eval o).run P w = .ok (.value v) w' ∧ Lands C a K v w') : OpOk P C a w o K :=
  let ⟨v, w', h1, h2⟩ := h; .value v w' h1 h2
theorem OpOk.of_skip {o : Oper} {K : DV → St → Prop} (h : ∃ w', (execOp a.eval o).run P w = .ok .skip w' ∧ Lands C a K undef w') : OpOk P C a w o K :=
  let ⟨w', h1, h2⟩ := h; .skip w' h1 h2

theorem OpOk.wp {o : Oper} {K : St → Prop} (h : OpOk P C a w o fun d st => K (st.put o.dst d)) {next : Act → World → Prop} {Q : Exit → Act → World → Prop}
    (hn : ∀ I β st a w, Sim C I β st a w → K st → next a w) : o.wp P a w next Q := by
  unfold Oper.wp
  have land : ∀ v w', Lands C a (fun d st => K (st.put o.dst d)) v w' → next (a.put o.dst v) w' := by
    rintro v w' ⟨I', β', d, st', h1, h2, h3⟩
    exact hn _ _ _ _ _ (h1.put o.dst h2) h3
  cases h with
  | value v w' h1 h2 => rw [h1, Oper.upon_value]; exact land v w' h2
  | skip w' h1 h2 => rw [h1, Oper.upon_skip]; exact land undef w' h2
  | enter g vs h1 h2 =>
    rw [h1, Oper.upon_enter]
    refine Calls.mono h2 ?_
    rintro e w' ⟨v, rfl, hl⟩
    exact land v w' hl

theorem loud_sound (hs : Sim C I β st a w) {o : Oper} {op : Op} (hop : o.op = op) {r : ROp} (hc : cOp P md op = some r) (hq : quietV (std P) st r = none) {κ : Nat} {K : DV → St → Prop} (hK : loudV (std P) κ r st K) : OpOk P C a w o K := by
  cases op with
  | pick c x y =>
    simp only [cOp] at hc
    split at hc
    · rename_i c' x' y' h1 h2 h3
      obtain rfl := Option.some.inj hc
      have hcr := arg_rep h1 hs
      have hgo : ∀ b : Bool, a.eval c = .bool b → K (ev st (if b then x' else y')) st → OpOk P C a w o K := by
        intro b hb hk
        refine .value (if b then a.eval x else a.eval y) w ?_ ⟨I, β, _, st, hs, ?_, hk⟩
        · simp [execOp, hop, hb, asBool]
        · cases b
          · exact arg_rep h3 hs
          · exact arg_rep h2 hs
      simp only [loudV] at hK
      split at hK
      · rename_i hev; rw [hev] at hcr; exact hgo true (hcr.inv_bool rfl) hK
      · rename_i hev; rw [hev] at hcr; exact hgo false (hcr.inv_bool rfl) hK
      · rename_i t hev
        rw [hev] at hcr
        simp only [std] at hK
        cases ht : t with
        | true => exact hgo true (by rw [hcr.inv_bool rfl, ht]) (hK.1 ht)
        | false => exact hgo false (by rw [hcr.inv_bool rfl, ht]) (hK.2 ht)
      · exact hK.elim
    · cases hc
  | alloc t =>
    simp only [cOp] at hc
    split at hc
    · rename_i sz by_ z hz
      obtain rfl := Option.some.inj hc
      exact .of_value (alloc_lands hs hop hz hK)
    · cases hc
  | box t x =>
    simp only [cOp] at hc
    split at hc
    · rename_i i y hi hy
      split at hc
      · rename_i hpos
        obtain rfl := Option.some.inj hc
        obtain ⟨J, γ, s1, _, _⟩ := hs.freeze (keysOf (ev st y))
        simp only [loudV] at hK
        split at hK
        · rename_i hok; exact .of_value (box_lands s1 hop hy hpos hok hK)
        · exact hK.elim
      · cases hc
    · cases hc
  | build t ps =>
    simp only [cOp] at hc
    split at hc
    · rename_i sz by_ cs fs hz hu
      split at hc
      · rename_i rs hr
        split at hc
        · obtain rfl := Option.some.inj hc; cases hq
        · obtain rfl := Option.some.inj hc
          split at hr
          · rename_i hall
            obtain ⟨J, γ, s1, _, _⟩ := hs.freeze (partKeys3 st rs)
            simp only [loudV] at hK
            split at hK
            · rename_i cs' hf; exact .of_value (build_lands s1 hop hz hu hall hr hf hK)
            · exact hK.elim
          · cases hr
      · cases hc
    · cases hc
  | buildSlice t n ps =>
    simp only [cOp] at hc
    split at hc
    · rename_i e he
      split at hc
      · rename_i sz by_ z r hz hr
        split at hc
        · rename_i hsm
          obtain rfl := Option.some.inj hc
          have ht : P.underlying t = some (.slice e) := by
            unfold tElem at he
            split at he
            · rename_i e' h; obtain rfl := Option.some.inj he; exact h
            · cases he
          obtain ⟨J, γ, s1, _, _⟩ := hs.freeze (partKeys st r)
          simp only [loudV] at hK
          split at hK
          · rename_i hok; exact .of_value (buildSlice_lands s1 hop ht hz hsm hr hok hK)
          · exact hK.elim
        · cases hc
      · cases hc
    · cases hc
  | store t x y =>
    simp only [cOp] at hc
    split at hc
    · rename_i i p q hi hp hq'
      split at hc
      · rename_i hpos
        obtain rfl := Option.some.inj hc
        obtain ⟨J, γ, s1, _, _⟩ := hs.freeze (keysOf (ev st q))
        simp only [loudV] at hK
        split at hK
        · rename_i hok; exact .of_skip (store_lands s1 hop hi hpos hp hq' hok hK)
        · exact hK.elim
      · cases hc
    · cases hc
  | makeSlice t l c =>
    simp only [cOp] at hc
    split at hc
    · rename_i e x y he hx hy
      split at hc
      · rename_i sz by_ z hz
        split at hc
        · rename_i hby
          obtain rfl := Option.some.inj hc
          have ht : P.underlying t = some (.slice e) := by
            unfold tElem at he
            split at he
            · rename_i e' h; obtain rfl := Option.some.inj he; exact h
            · cases he
          exact .of_value (makeSlice_lands hs hop ht hz hby hx hy hK)
        · cases hc
      · cases hc
    · cases hc
  | call c =>
    simp only [cOp] at hc
    split at hc
    · rename_i f hcal
      unfold cCall at hc
      split at hc
      · rename_i f' xs hf hxs
        have direct : r = .refs f' xs ∨ r = .lend f' xs ∨ r = .call f' xs := by
          split at hc
          · rename_i g
            have := Option.some.inj hc
            split at this
            · exact .inl this.symm
            · exact .inr (.inl this.symm)
            · exact .inr (.inr this.symm)
            · split at this
              · exact .inr (.inl this.symm)
              · exact .inr (.inr this.symm)
          · exact .inr (.inr (Option.some.inj hc).symm)
        rcases direct with rfl | rfl | rfl
        · simp only [loudV] at hK
          split at hK
          · rename_i g as_ bs hev
            have hen : Enters P g := by obtain ⟨rows, _, h2⟩ := hK; exact h2.1
            obtain ⟨vs, e1, e2, e3⟩ := call_enter hs hop hcal hf hxs hev hen
            exact .enter g vs e1 (refs_lands hs e2 e3 hK)
          · exact hK.elim
        · simp only [loudV] at hK
          split at hK
          · rename_i g as_ bs hev
            obtain ⟨vs, e1, e2, e3⟩ := call_enter hs hop hcal hf hxs hev hK.2.1
            exact .enter g vs e1 (lend_lands hs e2 e3 hK)
          · exact hK.elim
        · simp only [loudV] at hK
          split at hK
          · rename_i g as_ bs hev
            obtain ⟨vs, e1, e2, e3⟩ := call_enter hs hop hcal hf hxs hev hK.2.1
            exact .enter g vs e1 (call_lands hs e2 e3 hK)
          · exact hK.elim
      · cases hc
    · rename_i hcal
      split at hc
      · split at hc <;> first | (cases hc; done) | (obtain rfl := Option.some.inj hc; cases hq)
      · cases hc
    · rename_i hcal
      obtain ⟨xs, _, rfl⟩ := Option.map_eq_some_iff.1 hc; cases hq
    · rename_i hcal
      obtain ⟨xs, _, rfl⟩ := Option.map_eq_some_iff.1 hc; cases hq
    · rename_i hcal
      split at hc
      · rename_i xo yo t tx hargs htys
        split at hc
        · rename_i e p q he hp hq'
          have ht : P.underlying t = some (.slice e) := by
            unfold tElem at he
            split at he
            · rename_i e' h; obtain rfl := Option.some.inj he; exact h
            · cases he
          split at hc
          · rename_i es by_ z e' hz hu
            split at hc
            · rename_i hby
              obtain rfl := Option.some.inj hc
              exact .of_value (append_lands hs hop hcal hargs htys ht hz hby (.inl ⟨_, hu⟩) hp hq' hK)
            · cases hc
          · rename_i es by_ z hz hu
            split at hc
            · rename_i hby
              obtain rfl := Option.some.inj hc
              exact .of_value (append_lands hs hop hcal hargs htys ht hz hby (.inr hu) hp hq' hK)
            · cases hc
          · cases hc
        · cases hc
      · cases hc
    · rename_i hcal
      split at hc
      · rename_i xo yo t tl hargs htys
        split at hc
        · rename_i e p q he hp hq'
          have ht : P.underlying t = some (.slice e) := by
            unfold tElem at he
            split at he
            · rename_i e' h; obtain rfl := Option.some.inj he; exact h
            · cases he
          split at hc
          · rename_i i hi
            obtain rfl := Option.some.inj hc
            refine .of_value (copy_lands hs hop hcal hargs htys ht hi hp hq' hK)
          · cases hc
        · cases hc
      · cases hc
    · rename_i hcal
      split at hc
      · rename_i xo t hargs htys
        split at hc
        · rename_i e p he hp
          have ht : P.underlying t = some (.slice e) := by
            unfold tElem at he
            split at he
            · rename_i e' h; obtain rfl := Option.some.inj he; exact h
            · cases he
          split at hc
          · rename_i es by_ z hz
            obtain rfl := Option.some.inj hc
            exact .of_value (clear_lands hs hop hcal hargs htys ht hz hp hK)
          · cases hc
        · cases hc
      · cases hc
    · cases hc
  | move x => simp only [cOp, Option.map_eq_some_iff] at hc; obtain ⟨y, _, rfl⟩ := hc; cases hq
  | assign x => simp only [cOp, Option.map_eq_some_iff] at hc; obtain ⟨y, _, rfl⟩ := hc; cases hq
  | nilCheck x => simp only [cOp, Option.map_eq_some_iff] at hc; obtain ⟨y, _, rfl⟩ := hc; cases hq
  | unOp op t x => simp only [cOp, Option.map_eq_some_iff] at hc; obtain ⟨y, _, rfl⟩ := hc; cases hq
  | extract x j => simp only [cOp, Option.map_eq_some_iff] at hc; obtain ⟨y, _, rfl⟩ := hc; cases hq
  | load t x =>
    simp only [cOp] at hc
    split at hc
    · obtain rfl := Option.some.inj hc; cases hq
    · cases hc
  | binOp b t x y u =>
    simp only [cOp] at hc
    split at hc
    · rename_i a' b' hx hy
      split at hc <;> first | (cases hc; done) | (obtain rfl := Option.some.inj hc; cases hq; done) | skip
      split at hc
      · split at hc
        · cases hc
        · split at hc
          · obtain rfl := Option.some.inj hc; cases hq
          · obtain rfl := Option.some.inj hc; cases hq
          · cases hc
      · cases hc
      · rename_i el ht
        split at hc
        · obtain rfl := Option.some.inj hc
          exact .of_value (nilS_lands hs hop ht (.inl ⟨rfl, rfl⟩) hx hK)
        · obtain rfl := Option.some.inj hc
          exact .of_value (nilS_lands hs hop ht (.inr ⟨rfl, rfl⟩) hx hK)
        · cases hc
    · cases hc
  | convert s d x =>
    simp only [cOp] at hc
    split at hc
    · rename_i y hy
      have u8 : ∀ {el : TypeId}, tInt P el = some .u8 → P.underlying el = some (.int .u8) := by
        intro el he
        unfold tInt at he
        split at he
        · rename_i k hk; obtain rfl := Option.some.inj he; exact hk
        · cases he
      split at hc
      · obtain rfl := Option.some.inj hc; cases hq
      · obtain rfl := Option.some.inj hc; cases hq
      · rename_i el h1 h2
        split at hc
        · rename_i he
          obtain rfl := Option.some.inj hc
          exact .of_value (toBytes_lands hs hop h1 h2 (u8 he) hy hK)
        · cases hc
      · split at hc
        · obtain rfl := Option.some.inj hc; cases hq
        · cases hc
      · rename_i el el' h1 h2
        split at hc
        · rename_i he
          split at hc
          · rename_i heq
            obtain rfl := Option.some.inj hc
            obtain rfl := eq_of_beq heq
            exact .of_value (convL_lands hs hop h1 (u8 he) hy hK)
          · cases hc
        · cases hc
      · cases hc
    · cases hc
  | slice t x lo hi mx =>
    simp only [cOp] at hc
    split at hc
    · split at hc
      · split at hc
        · split at hc
          · obtain rfl := Option.some.inj hc; cases hq
          · cases hc
        · cases hc
      · split at hc
        · obtain rfl := Option.some.inj hc; cases hq
        · cases hc
      · cases hc
    · cases hc
  | fieldAddr s x j =>
    simp only [cOp] at hc
    split at hc
    · split at hc
      · split at hc
        · split at hc
          · obtain rfl := Option.some.inj hc; cases hq
          · cases hc
        · cases hc
      · cases hc
    · cases hc
  | field s x j =>
    simp only [cOp] at hc
    split at hc
    · split at hc
      · split at hc
        · obtain rfl := Option.some.inj hc; cases hq
        · cases hc
      · cases hc
    · cases hc
  | indexAddr t x i =>
    simp only [cOp] at hc
    split at hc
    · split at hc
      · obtain rfl := Option.some.inj hc; cases hq
      · cases hc
    · cases hc
  | index t x i =>
    simp only [cOp] at hc
    split at hc
    · obtain rfl := Option.some.inj hc; cases hq
    · cases hc
  | makeFunc fn x y =>
    cases fn <;> simp only [cOp] at hc <;> try (cases hc; done)
    split at hc
    · obtain rfl := Option.some.inj hc; cases hq
    · cases hc
  | _ => simp only [cOp] at hc; cases hc
end
end Go.Sx
namespace Go.Sx
open Classical

section
variable {P : Program} {md : Modes} {C : Ctx} {I : Imm} {β : Nat → Option Loc} {st : St} {a : Act} {w : World}

theorem stepV_sound (hs : Sim C I β st a w) {o : Oper} {r : ROp} (hc : cOp P md o.op = some r) {g : Option (Nat × Bool)} {K : St → Prop} (hK : stepV (std P) ⟨o.dst, r, g, false⟩ st K) : OpOk P C a w o fun d st => K (st.put o.dst d) := by
  unfold stepV stepV0 at hK
  dsimp only at hK
  split at hK
  · rename_i ob v hq
    obtain ⟨rv, h1, h2⟩ := quiet_sound hs hc hq hK.1 rfl
    exact .value rv w h1 ⟨I, β, v, st, hs, h2, hK.2⟩
  · rename_i hq
    exact loud_sound hs rfl hc hq hK

/-- A place's data may be said otherwise. -/
theorem Sim.retmp (hs : Sim C I β st a w) {t : Nat} {d : DV} (hd : RepK I β d (a.tmps.getD t undef)) : Sim C I β ⟨setN st.T t d, st.σ⟩ a w := by
  refine hs.weaken (setN_length _ _ _) (fun _ _ h => h) ?_ hs.rows.dom (fun κ r h => ⟨h, rfl⟩)
  intro i hi
  simp only [nth_setN]
  split
  · rename_i h; subst h
    rw [if_pos hi]; exact hd
  · exact hs.tmps i hi

def boolV : Value → Option Bool
  | .bool b => some b
  | _ => none
theorem yielded_at {ops : Array Oper} {j t : Nat} (hj : (ops[j]?).bind (·.dst) = some t) (hs : Sim C I β st a w) (hn : nth st.T t ≠ .junk) {v : Value} (hv : a.tmps.getD t undef = v) :
    yielded ops a.tmps j = boolV v := by
  have ht : t < st.T.length := by
    rcases Nat.lt_or_ge t st.T.length with h | h
    · exact h
    · exact absurd (nth_ge h) hn
  have hsz : t < a.tmps.size := by rw [hs.size]; exact ht
  have he : a.tmps[t]? = some v := by
    rw [← hv]; simp [Array.getD, hsz]
  unfold yielded
  rw [hj]
  simp only [Option.bind_some, he]
  cases v <;> rfl

/-- One operation of a region. -/
theorem oper_sound (hs : Sim C I β st a w) {ops : Array Oper} {o : Oper} {K : St → Prop} (hK : stepG (std P) (cOper P md ops o) st K) {next : Act → World → Prop} {Q : Exit → Act → World → Prop}
    (hn : ∀ I β st a w, Sim C I β st a w → K st → next a w) :
    if Region.wanted o (yielded ops a.tmps) then o.wp P a w next Q ∨ (o.asks P a w ∧ LetsOut Q) else next (a.put o.dst undef) w := by
  unfold cOper at hK
  have bad : ∀ st', stepV (std P) ⟨o.dst, .bad, none, false⟩ st' K → False := by
    intro st' h; simp [stepV, stepV0, quietV, loudV] at h
  split at hK
  · exact (bad st hK).elim
  · rename_i r hr
    split at hK
    · rename_i hg
      simp only [Region.wanted, hg, if_true]
      exact .inl ((stepV_sound hs hr (g := none) hK).wp hn)
    · rename_i j want hg
      split at hK
      · rename_i t hj
        have htr := hs.tmp t
        -- the operation is done, or passed over
        have yes : ∀ st', Sim C I β st' a w → a.tmps.getD t undef = .bool want → nth st.T t ≠ .junk → stepV (std P) ⟨o.dst, r, some (t, want), false⟩ st' K →
            if Region.wanted o (yielded ops a.tmps) then o.wp P a w next Q ∨ (o.asks P a w ∧ LetsOut Q) else next (a.put o.dst undef) w := by
          intro st' hs' hv hnj hk
          have := yielded_at hj hs hnj hv
          simp only [Region.wanted, hg, this, boolV, beq_self_eq_true, if_true]
          exact .inl ((stepV_sound hs' hr hk).wp hn)
        have no : ∀ st', Sim C I β st' a w → ∀ v, a.tmps.getD t undef = v → v ≠ .bool want → nth st.T t ≠ .junk → K (st'.put o.dst .und) →
            if Region.wanted o (yielded ops a.tmps) then o.wp P a w next Q ∨ (o.asks P a w ∧ LetsOut Q) else next (a.put o.dst undef) w := by
          intro st' hs' v hv hne hnj hk
          have hy := yielded_at hj hs hnj hv
          have : Region.wanted o (yielded ops a.tmps) = false := by
            simp only [Region.wanted, hg, hy]
            cases v <;> first | rfl | skip
            rename_i b
            cases b <;> cases want <;> first | rfl | exact absurd rfl hne
          simp only [this, Bool.false_eq_true, if_false]
          exact hn _ _ _ _ _ (hs'.put o.dst (.pure .und)) hk
        unfold stepG at hK
        dsimp only at hK
        split at hK
        · rename_i hev
          rw [hev] at htr
          have hb := htr.inv_bool rfl
          split at hK
          · exact yes st hs hb (by rw [hev]; exact fun h => by cases h) hK
          · exact no st hs _ hb (by simp) (by rw [hev]; exact fun h => by cases h) hK
        · rename_i hev
          rw [hev] at htr
          have hb := htr.inv_bool rfl
          split at hK
          · exact no st hs _ hb (by simp) (by rw [hev]; exact fun h => by cases h) hK
          · exact yes st hs hb (by rw [hev]; exact fun h => by cases h) hK
        · rename_i b hev
          rw [hev] at htr
          have hb := htr.inv_bool rfl
          have hnj : nth st.T t ≠ .junk := by rw [hev]; exact fun h => by cases h
          have htt : b = true → Sim C I β ⟨setN st.T t .tt, st.σ⟩ a w := fun h => hs.retmp (by rw [hb, h]; exact .pure .tt)
          have hff : b = false → Sim C I β ⟨setN st.T t .ff, st.σ⟩ a w := fun h => hs.retmp (by rw [hb, h]; exact .pure .ff)
          split at hK
          · simp only [std] at hK
            cases hbb : b with
            | true => exact yes _ (htt hbb) (by rw [hb, hbb]) hnj (hK.1 hbb)
            | false => exact no _ (hff hbb) _ hb (by rw [hbb]; simp) hnj (hK.2 hbb)
          · simp only [std] at hK
            cases hbb : b with
            | true => exact no _ (htt hbb) _ hb (by rw [hbb]; simp) hnj (hK.1 hbb)
            | false => exact yes _ (hff hbb) (by rw [hb, hbb]) hnj (hK.2 hbb)
        · rename_i hev
          rw [hev] at htr
          have hu : a.tmps.getD t undef = undef := by
            generalize a.tmps.getD t undef = v at htr
            cases htr with | pure h => cases h; rfl
          exact no st hs _ hu (by simp [undef]) (by rw [hev]; exact fun h => by cases h) hK
        · exact hK.elim
      · exact (bad st hK).elim

theorem list_sound {ops : Array Oper} {K : St → Prop} {Q : Exit → Act → World → Prop} (hn : ∀ I β st a w, Sim C I β st a w → K st → Q .normal a w) :
    ∀ (l : List Oper) {I : Imm} {β : Nat → Option Loc} {st : St} {a : Act} {w : World}, Sim C I β st a w → runV (std P) (cOpers P md ops l) st K → wpList P ops Q l a w
  | [], I, β, st, a, w, hs, hK => hn _ _ _ _ _ hs hK
  | o :: l, I, β, st, a, w, hs, hK => by
    unfold wpList
    exact oper_sound hs hK fun I β st a w hs' hk => list_sound hn l hs' hk

/-- What holds at an end, told of acts and worlds. -/
def lift (C : Ctx) (Q : Ex → St → Prop) : Exit → Act → World → Prop
  | .normal, a, w => ∃ I β st, Sim C I β st a w ∧ Q .normal st
  | .exit j, a, w => ∃ I β st, Sim C I β st a w ∧ Q (.exit j) st
  | .ret, a, w => ∃ I β st, Sim C I β st a w ∧ Q .ret st
  | _, _, _ => False

end
end Go.Sx
namespace Go.Sx

section
variable {P : Program}

theorem ev_congr {T T' : List DV} {σ : Store} {x : Arg} (h : ∀ t ∈ argR x, nth T' t = nth T t) : ev ⟨T', σ⟩ x = ev ⟨T, σ⟩ x := by
  cases x with
  | tmp t => exact h t (by simp [argR])
  | con d => rfl
theorem evL_congr {T T' : List DV} {σ : Store} {xs : List Arg} (h : ∀ t ∈ argsR xs, nth T' t = nth T t) : evL ⟨T', σ⟩ xs = evL ⟨T, σ⟩ xs := by
  induction xs with
  | nil => rfl
  | cons x l ih =>
    simp only [evL]
    rw [ev_congr (x := x) (fun t ht => h t (by simp [argsR, ht])), ih (fun t ht => h t (by simp [argsR, ht]))]
theorem bnd_congr {L : Leafs} {T T' : List DV} {σ : Store} {x : Option Arg} (h : ∀ t ∈ optR x, nth T' t = nth T t) : bnd L ⟨T', σ⟩ x = bnd L ⟨T, σ⟩ x := by
  cases x with
  | none => rfl
  | some x => simp only [bnd]; rw [ev_congr (x := x) (fun t ht => h t (by simp [optR, ht]))]
theorem cont_congr {L : Leafs} {T T' : List DV} {σ : Store} {es : Nat} {d : DV} : cont L ⟨T', σ⟩ es d = cont L ⟨T, σ⟩ es d := by
  cases d <;> rfl

theorem fillP_congr {T T' : List DV} {σ : Store} : ∀ (ps : List (Nat × Nat × Arg)) (cs : List DV), (∀ t ∈ partsR3 ps, nth T' t = nth T t) → fillP ⟨T', σ⟩ ps cs = fillP ⟨T, σ⟩ ps cs
  | [], _, _ => rfl
  | (o, n, x) :: ps, cs, h => by
    simp only [partsR3, List.mem_append] at h
    simp only [fillP]
    rw [ev_congr (fun t ht => h t (.inl ht))]
    split
    · split
      · exact fillP_congr ps _ (fun t ht => h t (.inr ht))
      · rfl
    · rfl
/-- A quiet operation looks at its operands and at the store alone. -/
theorem quiet_congr {L : Leafs} {T T' : List DV} {σ : Store} {r : ROp} (hq : isQ r = true) (h : ∀ t ∈ opR r, nth T' t = nth T t) : quietV L ⟨T', σ⟩ r = quietV L ⟨T, σ⟩ r := by
  cases r <;> first | (cases hq; done) | simp only [quietV, opR, List.mem_append] at h ⊢
  case move x => rw [ev_congr h]
  case load a n x => rw [ev_congr h]; cases ev ⟨T, σ⟩ x <;> rfl
  case nilCheck x => rw [ev_congr h]
  case binOp c o x y => rw [ev_congr (fun t ht => h t (.inl ht)), ev_congr (fun t ht => h t (.inr ht))]
  case eqS b l x y => rw [ev_congr (fun t ht => h t (.inl ht)), ev_congr (fun t ht => h t (.inr ht))]
  case buildQ z ps => rw [fillP_congr ps z h]
  case unOp o x => rw [ev_congr h]
  case convI k x => rw [ev_congr h]
  case convS x => rw [ev_congr h]
  case toStr x => rw [ev_congr h]; cases ev ⟨T, σ⟩ x <;> rfl
  case slice n x l hh m =>
    rw [ev_congr (fun t ht => h t (.inl ht))]
    simp only [sliceV]
    rw [bnd_congr (fun t ht => h t (.inr (.inl ht))), bnd_congr (fun t ht => h t (.inr (.inr (.inl ht)))), bnd_congr (fun t ht => h t (.inr (.inr (.inr ht))))]
    cases ev ⟨T, σ⟩ x <;> rfl
  case fieldAddr o x => rw [ev_congr h]
  case field a n o x => rw [ev_congr h]
  case indexAddr n x y =>
    rw [ev_congr (fun t ht => h t (.inl ht)), ev_congr (fun t ht => h t (.inr ht))]
    cases ev ⟨T, σ⟩ x <;> rfl
  case index x y => rw [ev_congr (fun t ht => h t (.inl ht)), ev_congr (fun t ht => h t (.inr ht))]
  case extract x j => rw [ev_congr h]
  case makeFunc g x y => rw [evL_congr (fun t ht => h t (.inl ht)), evL_congr (fun t ht => h t (.inr ht))]
  case len s x => rw [ev_congr h]
  case max xs => rw [evL_congr h]
  case min xs => rw [evL_congr h]

theorem quiet_some {L : Leafs} {st : St} {r : ROp} (hq : isQ r = true) : ∃ q, quietV L st r = some q := by
  cases r <;> first | (cases hq; done) | exact ⟨_, rfl⟩

/-! guards -/
/-- What a guard lets happen. -/
def gd (g : Option (Nat × Bool)) (st : St) (A B : St → Prop) : Prop :=
  match g with
  | none => A st
  | some (t, want) => match nth st.T t with
      | .tt => (match want with | true => A st | false => B st)
      | .ff => (match want with | true => B st | false => A st)
      | .bool b => (match want with
        | true => (b = true → A ⟨setN st.T t .tt, st.σ⟩) ∧ (b = false → B ⟨setN st.T t .ff, st.σ⟩)
        | false => (b = true → B ⟨setN st.T t .tt, st.σ⟩) ∧ (b = false → A ⟨setN st.T t .ff, st.σ⟩))
      | .und => B st
      | _ => False

theorem stepG_gd (o : ROper) (st : St) (K : St → Prop) : stepG (std P) o st K = gd o.guard st (fun st => stepV (std P) o st K) (fun st => K (st.put o.dst .und)) := by
  unfold stepG gd
  cases o.guard with
  | none => rfl
  | some g => obtain ⟨t, want⟩ := g; rfl

theorem gd_mono {g : Option (Nat × Bool)} {st : St} {A B A' B' : St → Prop} (h : gd g st A B) (hA : ∀ s, A s → A' s) (hB : ∀ s, B s → B' s) : gd g st A' B' := by
  unfold gd at h ⊢
  cases g with
  | none => exact hA _ h
  | some g =>
    obtain ⟨t, want⟩ := g
    dsimp only at h ⊢
    cases hev : nth st.T t <;> simp only [hev] at h ⊢ <;> cases want <;> (try dsimp only at h ⊢) <;>
      first | exact hA _ h | exact hB _ h | exact ⟨fun hb => hA _ (h.1 hb), fun hb => hB _ (h.2 hb)⟩ | exact ⟨fun hb => hB _ (h.1 hb), fun hb => hA _ (h.2 hb)⟩ | exact h

/-- States that a guard may make of a state. -/
def Ref (g : Option (Nat × Bool)) (s s' : St) : Prop := s'.σ = s.σ ∧ ∀ t, (∀ w, g ≠ some (t, w)) → nth s'.T t = nth s.T t

theorem gd_monoR {g : Option (Nat × Bool)} {st : St} {A B A' B' : St → Prop} (h : gd g st A B) (hA : ∀ s, Ref g st s → A s → A' s) (hB : ∀ s, Ref g st s → B s → B' s) : gd g st A' B' := by
  have hr : Ref g st st := ⟨rfl, fun _ _ => rfl⟩
  unfold gd at h ⊢
  cases g with
  | none => exact hA _ hr h
  | some g =>
    obtain ⟨t, want⟩ := g
    have hs : ∀ d, Ref (some (t, want)) st ⟨setN st.T t d, st.σ⟩ := fun d => ⟨rfl, fun u hu => by
      simp only [nth_setN]; rw [if_neg]; intro e; exact hu want (by rw [e])⟩
    dsimp only at h ⊢
    cases hev : nth st.T t <;> simp only [hev] at h ⊢ <;> cases want <;> (try dsimp only at h ⊢) <;>
      first | exact hA _ hr h | exact hB _ hr h | exact ⟨fun hb => hA _ (hs _) (h.1 hb), fun hb => hB _ (hs _) (h.2 hb)⟩ | exact ⟨fun hb => hB _ (hs _) (h.1 hb), fun hb => hA _ (hs _) (h.2 hb)⟩ | exact h

theorem gd_out {g : Option (Nat × Bool)} {st : St} {A B : St → Prop} {p : Prop} (h : gd g st (fun s => p ∧ A s) (fun s => p ∧ B s)) : p ∧ gd g st A B := by
  unfold gd at h ⊢
  cases g with
  | none => exact h
  | some g =>
    obtain ⟨t, want⟩ := g
    dsimp only at h ⊢
    cases hev : nth st.T t <;> simp only [hev] at h ⊢ <;> cases want <;> (try dsimp only at h ⊢) <;>
      first
        | exact h
        | exact h.elim
        | (rename_i b; exact ⟨by cases b; exact (h.2 rfl).1; exact (h.1 rfl).1, fun hb => (h.1 hb).2, fun hb => (h.2 hb).2⟩)

theorem setN_comm {T : List DV} {a b : Nat} {u v : DV} (h : a ≠ b) : setN (setN T a u) b v = setN (setN T b v) a u := by
  rw [setN_set, setN_set, setN_set, setN_set, List.set_comm _ _ h]
theorem put_comm {st : St} {x y : Option Nat} {u v : DV} (h : ∀ a, x = some a → y ≠ some a) : (st.put x u).put y v = (st.put y v).put x u := by
  cases x <;> cases y <;> first | rfl | skip
  rename_i a b
  simp only [St.put]
  rw [setN_comm (fun e => h a rfl (by rw [e]))]

/-- A put elsewhere is not seen by a guard. -/
theorem gd_put {g : Option (Nat × Bool)} {st : St} {A B : St → Prop} {x : Option Nat} {d : DV} (h : ∀ t w, g = some (t, w) → x ≠ some t) :
    gd g (st.put x d) A B = gd g st (fun s => A (s.put x d)) (fun s => B (s.put x d)) := by
  cases x with
  | none => rfl
  | some a =>
    cases g with
    | none => rfl
    | some g =>
      obtain ⟨t, want⟩ := g
      have hne : t ≠ a := fun e => h t want rfl (by rw [e])
      unfold gd
      simp only [St.put, nth_setN, if_neg hne, setN_comm (T := st.T) (Ne.symm hne)]

theorem len_of_nth {T : List DV} {t : Nat} (h : nth T t ≠ .junk) : t < T.length := by
  rcases Nat.lt_or_ge t T.length with hl | hl
  · exact hl
  · exact absurd (nth_ge hl) h

theorem absurdB {b : Bool} {p : Prop} (h : (b = true → False) ∧ (b = false → False)) : p := by cases b; exact (h.2 rfl).elim; exact (h.1 rfl).elim

/-- Two guards, in either order. -/
theorem gd_swap {g1 g2 : Option (Nat × Bool)} {st : St} {A11 A12 A21 A22 : St → Prop} (h : gd g1 st (fun s => gd g2 s A11 A12) (fun s => gd g2 s A21 A22)) :
    gd g2 st (fun s => gd g1 s A11 A21) (fun s => gd g1 s A12 A22) := by
  cases g1 with
  | none => exact h
  | some g1 =>
    cases g2 with
    | none => exact h
    | some g2 =>
      obtain ⟨t1, w1⟩ := g1
      obtain ⟨t2, w2⟩ := g2
      by_cases ht : t1 = t2
      · subst ht
        unfold gd at h ⊢
        dsimp only at h ⊢
        cases hev : nth st.T t1 <;> simp only [hev] at h ⊢ <;> cases w1 <;> cases w2 <;> (try dsimp only at h ⊢) <;>
          first
            | exact h
            | (have hl : t1 < st.T.length := len_of_nth (by rw [hev]; exact fun h => by cases h)
               simp only [nth_setN, if_true, hl] at h ⊢
               first | exact h | exact ⟨fun hb => h.1 hb, fun hb => h.2 hb⟩)
      · unfold gd at h ⊢
        dsimp only at h ⊢
        have hne : t2 ≠ t1 := fun e => ht e.symm
        cases hev : nth st.T t1 <;> cases hev2 : nth st.T t2 <;> simp only [hev, hev2, nth_setN, if_neg ht, if_neg hne] at h ⊢ <;> cases w1 <;> cases w2 <;> (try dsimp only at h ⊢) <;>
          first
            | exact h
            | exact h.elim
            | exact absurdB h
            | exact ⟨fun _ => h, fun _ => h⟩
            | (refine ⟨fun hb2 => ⟨fun hb1 => ?_, fun hb1 => ?_⟩, fun hb2 => ⟨fun hb1 => ?_, fun hb1 => ?_⟩⟩
               · rw [setN_comm hne]; exact (h.1 hb1).1 hb2
               · rw [setN_comm hne]; exact (h.2 hb1).1 hb2
               · rw [setN_comm hne]; exact (h.1 hb1).2 hb2
               · rw [setN_comm hne]; exact (h.2 hb1).2 hb2)

def qob (P : Program) (r : ROp) (st : St) : Prop := match quietV (std P) st r with | some (p, _) => p | none => False
def qv (P : Program) (r : ROp) (st : St) : DV := match quietV (std P) st r with | some (_, v) => v | none => .junk

theorem q_same {r : ROp} (hq : isQ r = true) {s s' : St} (hσ : s'.σ = s.σ) (h : ∀ t ∈ opR r, nth s'.T t = nth s.T t) : qob P r s' = qob P r s ∧ qv P r s' = qv P r s := by
  obtain ⟨T, σ⟩ := s
  obtain ⟨T', σ'⟩ := s'
  dsimp only at hσ
  subst hσ
  have := quiet_congr (L := std P) (σ := σ') hq h
  simp only [qob, qv, this, and_self]

/-- What a quiet operation asks, as it stands in a region. -/
def qos (P : Program) (o : ROper) (st : St) : Prop := (o.strict = true → keysOfL (evL st (opArgs o.op)) = [] ∧ keysOf (qv P o.op st) = []) ∧ qob P o.op st
theorem stepV_quiet {o : ROper} (hq : isQ o.op = true) (st : St) (K : St → Prop) : stepV (std P) o st K = (qos P o st ∧ K (st.put o.dst (qv P o.op st))) := by
  obtain ⟨⟨ob, v⟩, h⟩ := quiet_some (L := std P) (st := st) hq
  unfold stepV qos
  cases o.strict <;> simp [stepV0, qob, qv, h, and_assoc]
theorem argsR_append (l m : List Arg) : argsR (l ++ m) = argsR l ++ argsR m := by induction l <;> simp [argsR, *]
theorem argsR_opt (x : Option Arg) : argsR (optA x) = optR x := by cases x <;> simp [optA, argsR, optR]
theorem argsR_parts (ps : List (Nat × Nat × Arg)) : argsR (partsA ps) = partsR3 ps := by
  induction ps with
  | nil => rfl
  | cons p l ih => obtain ⟨o, n, x⟩ := p; simp [partsA, argsR, partsR3, ih]
theorem opArgs_R {r : ROp} {t : Nat} (hq : isQ r = true) (h : t ∈ argsR (opArgs r)) : t ∈ opR r := by
  cases r <;> first | (cases hq; done) | (simpa [opArgs, opR, argsR, argsR_append, argsR_opt, argsR_parts] using h)
theorem qo_same {o : ROper} (hq : isQ o.op = true) {s s' : St} (hσ : s'.σ = s.σ) (h : ∀ t ∈ opR o.op, nth s'.T t = nth s.T t) : qos P o s' = qos P o s ∧ qv P o.op s' = qv P o.op s := by
  obtain ⟨h1, h2⟩ := q_same (P := P) hq hσ h
  refine ⟨?_, h2⟩
  have : evL s' (opArgs o.op) = evL s (opArgs o.op) := by
    obtain ⟨T, σ⟩ := s
    obtain ⟨T', σ'⟩ := s'
    dsimp only at hσ
    subst hσ
    exact evL_congr (fun t ht => h t (opArgs_R hq ht))
  simp only [qos, h1, h2, this]

theorem put_nth {st : St} {x : Option Nat} {d : DV} {t : Nat} (h : x ≠ some t) : nth (st.put x d).T t = nth st.T t := by
  cases x with
  | none => rfl
  | some a =>
    simp only [St.put, nth_setN]
    rw [if_neg (fun e => h (by rw [e]))]
theorem put_store (st : St) (x : Option Nat) (d : DV) : (st.put x d).σ = st.σ := by cases x <;> rfl

theorem dstNot_iff {d : Option Nat} {l : List Nat} (h : dstNot d l = true) : ∀ t ∈ l, d ≠ some t := by
  rintro t ht rfl
  simp only [dstNot, Bool.not_eq_true', ← Bool.not_eq_true, mem_iff] at h
  exact h ht

theorem dstApart_iff {x y : ROper} (h : dstApart x y = true) : (∀ t ∈ opR y.op, x.dst ≠ some t) ∧ (∀ t w, y.guard = some (t, w) → x.dst ≠ some t) ∧ (∀ a, x.dst = some a → y.dst ≠ some a) := by
  simp only [dstApart, Bool.and_eq_true] at h
  obtain ⟨⟨h1, h2⟩, h3⟩ := h
  refine ⟨dstNot_iff h1, fun t w hg => dstNot_iff h2 t (by simp [guardT, hg]), ?_⟩
  rintro a ha hb
  simp [ha, hb] at h3
theorem guardApart_iff {x y : ROper} (h : guardApart x y = true) : ∀ t w, x.guard = some (t, w) → t ∉ opR y.op ∧ t ∉ opR x.op := by
  intro t w hg
  simp only [guardApart, hg, Bool.and_eq_true, Bool.not_eq_true', ← Bool.not_eq_true, mem_iff] at h
  exact h

theorem Ref.same {r : ROper} (hq : isQ r.op = true) {g : Option (Nat × Bool)} {s s' : St} (h : Ref g s s') (hg : ∀ t w, g = some (t, w) → t ∉ opR r.op) : qos P r s' = qos P r s ∧ qv P r.op s' = qv P r.op s :=
  qo_same hq h.1 fun t ht => h.2 t fun w e => hg t w e ht
theorem put_same {r : ROper} (hq : isQ r.op = true) {s : St} {x : Option Nat} {d : DV} (h : ∀ t ∈ opR r.op, x ≠ some t) : qos P r (s.put x d) = qos P r s ∧ qv P r.op (s.put x d) = qv P r.op s :=
  qo_same hq (put_store _ _ _) fun t ht => put_nth (h t ht)

theorem swapQ {x y : ROper} {st : St} {K : St → Prop} (hc : commQ x y = true) (h : stepG (std P) x st (fun s => stepG (std P) y s K)) : stepG (std P) y st (fun s => stepG (std P) x s K) := by
  simp only [commQ, Bool.and_eq_true] at hc
  obtain ⟨⟨⟨⟨⟨hqx, hqy⟩, hxy⟩, hyx⟩, hgx⟩, hgy⟩ := hc
  obtain ⟨hxy1, hxy2, hxy3⟩ := dstApart_iff hxy
  obtain ⟨hyx1, hyx2, hyx3⟩ := dstApart_iff hyx
  have hgx := guardApart_iff hgx
  have hgy := guardApart_iff hgy
  have h1 : gd x.guard st (fun s => gd y.guard s (fun s => qos P x s ∧ qos P y s ∧ K ((s.put x.dst (qv P x.op s)).put y.dst (qv P y.op s))) (fun s => qos P x s ∧ K ((s.put x.dst (qv P x.op s)).put y.dst .und)))
      (fun s => gd y.guard s (fun s => qos P y s ∧ K ((s.put x.dst .und).put y.dst (qv P y.op s))) (fun s => K ((s.put x.dst .und).put y.dst .und))) := by
    rw [stepG_gd] at h
    refine gd_monoR h (fun s _ hk => ?_) (fun s _ hk => ?_)
    · rw [stepV_quiet hqx, stepG_gd, gd_put hxy2] at hk
      refine gd_monoR hk.2 (fun s1 hr hk1 => ?_) (fun s1 hr hk1 => ?_)
      · rw [stepV_quiet hqy] at hk1
        obtain ⟨e1, e2⟩ := hr.same (P := P) hqx (fun t w hg => (hgy t w hg).1)
        obtain ⟨e3, e4⟩ := put_same (P := P) (s := s1) (x := x.dst) (d := qv P x.op s) hqy hxy1
        rw [e3, e4] at hk1
        rw [e1, e2]
        exact ⟨hk.1, hk1.1, hk1.2⟩
      · obtain ⟨e1, e2⟩ := hr.same (P := P) hqx (fun t w hg => (hgy t w hg).1)
        rw [e1, e2]
        exact ⟨hk.1, hk1⟩
    · rw [stepG_gd, gd_put hxy2] at hk
      refine gd_monoR hk (fun s1 hr hk1 => ?_) (fun s1 hr hk1 => hk1)
      rw [stepV_quiet hqy] at hk1
      obtain ⟨e3, e4⟩ := put_same (P := P) (s := s1) (x := x.dst) (d := .und) hqy hxy1
      rw [e3, e4] at hk1
      exact hk1
  have h2 := gd_swap h1
  rw [stepG_gd]
  refine gd_monoR h2 (fun s _ hk => ?_) (fun s _ hk => ?_)
  · rw [stepV_quiet hqy]
    have hk' : gd x.guard s (fun s1 => qos P y s ∧ (qos P x s1 ∧ K ((s1.put x.dst (qv P x.op s1)).put y.dst (qv P y.op s)))) (fun s1 => qos P y s ∧ K ((s1.put x.dst .und).put y.dst (qv P y.op s))) := by
      refine gd_monoR hk (fun s1 hr hk1 => ?_) (fun s1 hr hk1 => ?_)
      · obtain ⟨e1, e2⟩ := hr.same (P := P) hqy (fun t w hg => (hgx t w hg).1)
        rw [e1, e2] at hk1
        exact ⟨hk1.2.1, hk1.1, hk1.2.2⟩
      · obtain ⟨e1, e2⟩ := hr.same (P := P) hqy (fun t w hg => (hgx t w hg).1)
        rw [e1, e2] at hk1
        exact hk1
    obtain ⟨k1, k2⟩ := gd_out hk'
    refine ⟨k1, ?_⟩
    rw [stepG_gd, gd_put hyx2]
    refine gd_monoR k2 (fun s1 hr hk1 => ?_) (fun s1 hr hk1 => ?_)
    · rw [stepV_quiet hqx]
      obtain ⟨e3, e4⟩ := put_same (P := P) (s := s1) (x := y.dst) (d := qv P y.op s) hqx hyx1
      rw [e3, e4, ← put_comm hxy3]
      exact hk1
    · rw [← put_comm hxy3]
      exact hk1
  · rw [stepG_gd, gd_put hyx2]
    refine gd_monoR hk (fun s1 hr hk1 => ?_) (fun s1 hr hk1 => ?_)
    · rw [stepV_quiet hqx]
      obtain ⟨e3, e4⟩ := put_same (P := P) (s := s1) (x := y.dst) (d := .und) hqx hyx1
      rw [e3, e4, ← put_comm hxy3]
      exact hk1
    · rw [← put_comm hxy3]
      exact hk1

end
end Go.Sx
namespace Go.Sx

section
variable {P : Program} {md : Modes} {C : Ctx} {I : Imm} {β : Nat → Option Loc} {st : St} {a : Act} {w : World}

theorem addRow_mono {st : St} {κ : Nat} {r : Row} {K K' : St → Prop} (h : addRow st κ r K) (hk : ∀ s, K s → K' s) : addRow st κ r K' := by
  unfold addRow at h ⊢
  split at h
  · rename_i hlt
    rw [if_pos hlt]
    cases hl : look st.σ κ with
    | some r' => simp only [hl] at h
    | none => simp only [hl] at h; exact hk _ h
  · exact h.elim
theorem bindL_mono {κ : Nat} : ∀ (ds : List DV) (j : Nat) (st : St) (K K' : List DV → St → Prop), bindL κ j ds st K → (∀ l s, K l s → K' l s) → bindL κ j ds st K'
  | [], _, _, _, _, h, hk => hk _ _ h
  | d :: l, j, st, K, K', h, hk => by
    by_cases hf : isFresh d = true
    · cases d <;> first
        | (cases hf; done)
        | (simp only [bindL] at h ⊢; exact addRow_mono h (fun s hs => bindL_mono l _ _ _ _ hs (fun _ _ => hk _ _)))
    · have hf : isFresh d = false := by simpa using hf
      rw [bindL_plain hf] at h ⊢
      exact bindL_mono l _ _ _ _ h (fun _ _ => hk _ _)
theorem bindR_mono {κ : Nat} {d : DV} {st : St} {K K' : DV → St → Prop} (h : bindR κ d st K) (hk : ∀ d s, K d s → K' d s) : bindR κ d st K' := by
  cases d
  case own => exact addRow_mono h (fun s hs => hk _ _ hs)
  case obox => exact addRow_mono h (fun s hs => hk _ _ hs)
  case tup => exact bindL_mono _ _ _ _ _ h (fun _ _ => hk _ _)
  all_goals exact hk _ _ h

theorem storeV_mono {st : St} {p : DV} {n : Nat} {vs : List DV} {K K' : DV → St → Prop} (h : storeV (std P) st p n vs K) (hk : ∀ d s, K d s → K' d s) : storeV (std P) st p n vs K' := by
  cases p <;> first | exact h.elim | skip
  rename_i k i off
  simp only [storeV] at h ⊢
  cases hl : look st.σ k with
  | none => simp only [hl] at h
  | some r =>
    cases r <;> simp only [hl] at h ⊢
    · split at h
      · rename_i hin; rw [if_pos hin]; exact hk _ _ h
      · exact h.elim
    · split at h
      · rename_i hin; rw [if_pos hin]; exact hk _ _ h
      · exact h.elim
theorem makeV_mono {n b κ : Nat} {z l c : DV} {st : St} {K K' : DV → St → Prop} (h : makeV (std P) n b z κ st l c K) (hk : ∀ d s, K d s → K' d s) : makeV (std P) n b z κ st l c K' := by
  cases l <;> first | exact h.elim | skip
  cases c <;> first | exact h.elim | skip
  exact ⟨h.1, addRow_mono h.2 (fun s hs => hk _ _ hs)⟩
theorem appendV_mono {n b κ : Nat} {x y : DV} {st : St} {K K' : DV → St → Prop} (h : appendV (std P) n b κ x y st K) (hk : ∀ d s, K d s → K' d s) : appendV (std P) n b κ x y st K' := by
  unfold appendV at h ⊢
  cases hc : cont (std P) st n y with
  | none => simp only [hc] at h
  | some p =>
    obtain ⟨m, g⟩ := p
    simp only [hc] at h ⊢
    cases x <;> first | exact h.elim | skip
    · exact ⟨h.1, addRow_mono h.2 (fun s hs => hk _ _ hs)⟩
    · exact ⟨h.1, h.2.1, h.2.2.1, h.2.2.2.1, addRow_mono h.2.2.2.2 (fun s hs => hk _ _ hs)⟩
    · rename_i k o n'
      dsimp only at h ⊢
      cases hl : look st.σ k with
      | none => simp only [hl] at h
      | some r =>
        cases r <;> simp only [hl] at h ⊢
        exact ⟨h.1, h.2.1, h.2.2.1, addRow_mono h.2.2.2 (fun s hs => hk _ _ hs)⟩

theorem clearV_mono {n : Nat} {z x : DV} {st : St} {K K' : DV → St → Prop} (h : clearV (std P) n z st x K) (hk : ∀ d s, K d s → K' d s) : clearV (std P) n z st x K' := by
  cases x <;> first | exact h.elim | skip
  rename_i k o n'
  simp only [clearV] at h ⊢
  cases hl : look st.σ k with
  | none => simp only [hl] at h
  | some r => cases r <;> simp only [hl] at h ⊢; exact ⟨h.1, hk _ _ h.2⟩
theorem toBytesV_mono {κ : Nat} {x : DV} {st : St} {K K' : DV → St → Prop} (h : toBytesV (std P) κ st x K) (hk : ∀ d s, K d s → K' d s) : toBytesV (std P) κ st x K' := by
  cases x <;> first | exact h.elim | skip
  exact addRow_mono h (fun s hs => hk _ _ hs)
theorem copyV_mono {n : Nat} {x y : DV} {st : St} {K K' : DV → St → Prop} (h : copyV (std P) st n x y K) (hk : ∀ d s, K d s → K' d s) : copyV (std P) st n x y K' := by
  unfold copyV at h ⊢
  cases hb : isStr y <;> simp only [hb] at h ⊢
  · cases x <;> cases hc : cont (std P) st n y <;> simp only [hc] at h ⊢
    rename_i k o n' p
    cases hl : look st.σ k with
    | none => simp only [hl] at h
    | some r => cases r <;> simp only [hl] at h ⊢; exact ⟨h.1, hk _ _ h.2⟩
theorem convLV_mono {x : DV} {st : St} {K K' : DV → St → Prop} (h : convLV (std P) st x K) (hk : ∀ d s, K d s → K' d s) : convLV (std P) st x K' := by
  cases x <;> first | exact h.elim | skip
  rename_i k o n'
  simp only [convLV] at h ⊢
  cases hl : look st.σ k with
  | none => simp only [hl] at h
  | some r => cases r <;> simp only [hl] at h ⊢; exact ⟨h.1, h.2.1, h.2.2.1, hk _ _ h.2.2.2⟩
theorem nilSV_mono {neg : Bool} {x : DV} {st : St} {K K' : DV → St → Prop} (h : nilSV (std P) st neg x K) (hk : ∀ d s, K d s → K' d s) : nilSV (std P) st neg x K' := by
  cases x <;> first | exact h.elim | exact hk _ _ h | exact ⟨fun h0 => hk _ _ (h.1 h0), fun h0 b => hk _ _ (h.2 h0 b)⟩
theorem loudV_mono {κ : Nat} {r : ROp} {st : St} {K K' : DV → St → Prop} (h : loudV (std P) κ r st K) (hk : ∀ d s, K d s → K' d s) : loudV (std P) κ r st K' := by
  cases r <;> simp only [loudV] at h ⊢
  case pick c x y =>
    cases hev : ev st c <;> simp only [hev] at h ⊢
    · exact ⟨fun hb => hk _ _ (h.1 hb), fun hb => hk _ _ (h.2 hb)⟩
    · exact hk _ _ h
    · exact hk _ _ h
  case alloc => exact addRow_mono h (fun s hs => hk _ _ hs)
  case box n x =>
    split at h
    · rename_i hok; rw [if_pos hok]; exact addRow_mono h (fun s hs => hk _ _ hs)
    · exact h.elim
  case build z ps =>
    generalize fillP (st.freeze (partKeys3 st ps)) ps z = q at h ⊢
    cases q
    · exact h.elim
    · exact hk _ _ h
  case buildSlice =>
    split at h
    · rename_i hok; rw [if_pos hok]; exact addRow_mono h (fun s hs => hk _ _ hs)
    · exact h.elim
  case store n x y =>
    split at h
    · rename_i hok; rw [if_pos hok]; exact storeV_mono h hk
    · exact h.elim
  case makeSlice => exact makeV_mono h hk
  case call f xs =>
    cases hev : ev st f <;> simp only [hev] at h ⊢
    exact ⟨h.1, h.2.mono fun d rs hb => bindR_mono hb hk⟩
  case lend f xs =>
    cases hev : ev st f <;> simp only [hev] at h ⊢
    exact ⟨h.1, h.2.mono fun d rs hb => ⟨hb.1, bindR_mono hb.2 hk⟩⟩
  case refs f xs =>
    cases hev : ev st f <;> simp only [hev] at h ⊢
    obtain ⟨rows, h1, h2⟩ := h
    exact ⟨rows, h1, h2.mono fun d rs hb => bindR_mono hb hk⟩
  case append n b x y => exact appendV_mono h hk
  case clear es z x => exact clearV_mono h hk
  case toBytes => exact toBytesV_mono h hk
  case copy => exact copyV_mono h hk
  case convL => exact convLV_mono h hk
  case nilS => exact nilSV_mono h hk

theorem stepV_mono {o : ROper} {st : St} {K K' : St → Prop} (h : stepV (std P) o st K) (hk : ∀ s, K s → K' s) : stepV (std P) o st K' := by
  unfold stepV stepV0 at h ⊢
  cases hs : o.strict <;> cases hq : quietV (std P) st o.op <;> simp only [hs, hq] at h ⊢
  · exact loudV_mono h (fun d s hs => hk _ hs)
  · exact ⟨h.1, hk _ h.2⟩
  · exact ⟨h.1, h.2.1, h.2.2.1, hk _ h.2.2.2⟩
theorem stepG_mono {o : ROper} {st : St} {K K' : St → Prop} (h : stepG (std P) o st K) (hk : ∀ s, K s → K' s) : stepG (std P) o st K' := by
  rw [stepG_gd] at h ⊢
  exact gd_mono h (fun s hs => stepV_mono hs hk) (fun s hs => hk _ hs)

end
end Go.Sx
namespace Go.Sx

/-! ### data without rows -/
mutual
theorem view_keyless (lim : Nat) (ks : List Nat) (σ : Store) : ∀ d : DV, keysOf d = [] → view lim ks σ d = d
  | .ref _ _ _, h => by simp [keysOf] at h
  | .rptr _ _ _, h => by simp [keysOf] at h
  | .agg cs, h => by simp only [view]; rw [viewL_keyless lim ks σ cs (by simpa [keysOf] using h)]
  | .tup cs, h => by simp only [view]; rw [viewL_keyless lim ks σ cs (by simpa [keysOf] using h)]
  | .fn g a b, h => by
    simp only [keysOf, List.append_eq_nil_iff] at h
    simp only [view]
    rw [viewL_keyless lim ks σ a h.1, viewL_keyless lim ks σ b h.2]
  | .int _ _, _ => rfl
  | .bool _, _ => rfl
  | .tt, _ => rfl
  | .ff, _ => rfl
  | .str _, _ => rfl
  | .nilp, _ => rfl
  | .nilf, _ => rfl
  | .nili, _ => rfl
  | .nils, _ => rfl
  | .lst _ _ _ _, _ => rfl
  | .eptr _ _ _ _ _, _ => rfl
  | .own _ _ _, _ => rfl
  | .obox _ _, _ => rfl
  | .und, _ => rfl
  | .junk, _ => rfl
theorem viewL_keyless (lim : Nat) (ks : List Nat) (σ : Store) : ∀ l : List DV, keysOfL l = [] → viewL lim ks σ l = l
  | [], _ => rfl
  | d :: l, h => by
    simp only [keysOfL, List.append_eq_nil_iff] at h
    simp only [viewL]
    rw [view_keyless lim ks σ d h.1, viewL_keyless lim ks σ l h.2]
end

section
variable {P : Program} {md : Modes}

theorem viewL_map (lim : Nat) (ks : List Nat) (σ : Store) (l : List DV) : viewL lim ks σ l = l.map (view lim ks σ) := by induction l <;> simp [viewL, *]
theorem killL_map (κ : Nat) (l : List DV) : killL κ l = l.map fun d => if mem (keysOf d) κ then .junk else d := by induction l <;> simp [killL, *]

/-- What freezing makes of a place, and of the store. -/
def frzD (ks : List Nat) (σ : Store) : DV → DV := match ks with | [] => fun d => d | k :: l => view 100000 (k :: l) σ
def frzS (ks : List Nat) (σ : Store) : Store := match ks with | [] => σ | k :: l => delL σ (k :: l)
theorem freeze_eq (T : List DV) (σ : Store) (ks : List Nat) : (⟨T, σ⟩ : St).freeze ks = ⟨T.map (frzD ks σ), frzS ks σ⟩ := by
  cases ks with
  | nil => simp [St.freeze, frzD, frzS]
  | cons k l => simp only [St.freeze, frzD, frzS, viewL_map]
theorem frzD_keyless (ks : List Nat) (σ : Store) (d : DV) (h : keysOf d = []) : frzD ks σ d = d := by
  cases ks with
  | nil => rfl
  | cons k l => exact view_keyless _ _ _ d h

theorem map_setN (f : DV → DV) (T : List DV) (t : Nat) (v : DV) : (setN T t v).map f = setN (T.map f) t (f v) := by
  rw [setN_set, setN_set, List.map_set]
theorem nth_map (f : DV → DV) (hf : f .junk = .junk) (T : List DV) (t : Nat) : nth (T.map f) t = f (nth T t) := by
  rw [nth_getD, nth_getD]
  simp only [List.getD, List.getElem?_map]
  cases T[t]? <;> simp [hf]

/-! ### what only changes the store -/
theorem addRow_T {T1 T2 : List DV} {σ : Store} {κ : Nat} {r : Row} {K : St → Prop} (h : addRow ⟨T1, σ⟩ κ r K) : addRow ⟨T2, σ⟩ κ r fun s => s.T = T2 ∧ (∀ k q, look σ k = some q → look s.σ k = some q) ∧ K ⟨T1, s.σ⟩ := by
  unfold addRow at h ⊢
  split at h
  · rename_i hlt
    rw [if_pos hlt]
    dsimp only at h ⊢
    cases hl : look σ κ with
    | some r' => simp only [hl] at h
    | none =>
      simp only [hl] at h
      refine ⟨rfl, fun k q hq => ?_, h⟩
      rw [look_ins _ _ _ _ hl]
      split
      · rename_i e; subst e; rw [hl] at hq; cases hq
      · exact hq
  · exact h.elim
theorem bindL_T {κ : Nat} : ∀ (ds : List DV) (j : Nat) (T1 T2 : List DV) (σ : Store) (K : List DV → St → Prop), bindL κ j ds ⟨T1, σ⟩ K → bindL κ j ds ⟨T2, σ⟩ fun l s => s.T = T2 ∧ (∀ k q, look σ k = some q → look s.σ k = some q) ∧ K l ⟨T1, s.σ⟩
  | [], _, _, _, _, _, h => ⟨rfl, fun _ _ h => h, h⟩
  | d :: l, j, T1, T2, σ, K, h => by
    by_cases hf : isFresh d = true
    · cases d <;> first
        | (cases hf; done)
        | (simp only [bindL] at h ⊢
           refine addRow_mono (addRow_T (T2 := T2) h) (fun s hs => ?_)
           obtain ⟨s1, s2⟩ := s
           obtain ⟨rfl, hg, hs⟩ := hs
           refine bindL_mono l _ _ _ _ (bindL_T l _ _ _ _ _ hs) (fun l s hs => ⟨hs.1, fun k q hq => hs.2.1 k q (hg k q hq), hs.2.2⟩))
    · have hf : isFresh d = false := by simpa using hf
      rw [bindL_plain hf] at h ⊢
      exact bindL_T l _ _ _ _ _ h
theorem bindR_T {κ : Nat} {d : DV} {T1 T2 : List DV} {σ : Store} {K : DV → St → Prop} (h : bindR κ d ⟨T1, σ⟩ K) : bindR κ d ⟨T2, σ⟩ fun d s => s.T = T2 ∧ (∀ k q, look σ k = some q → look s.σ k = some q) ∧ K d ⟨T1, s.σ⟩ := by
  cases d
  case own => exact addRow_mono (addRow_T (T2 := T2) h) (fun s hs => hs)
  case obox => exact addRow_mono (addRow_T (T2 := T2) h) (fun s hs => hs)
  case tup => exact bindL_T _ _ _ _ _ _ h
  all_goals exact ⟨rfl, fun _ _ h => h, h⟩
theorem storeV_T {T1 T2 : List DV} {σ : Store} {p : DV} {n : Nat} {vs : List DV} {K : DV → St → Prop} (h : storeV (std P) ⟨T1, σ⟩ p n vs K) : storeV (std P) ⟨T2, σ⟩ p n vs fun d s => s.T = T2 ∧ K d ⟨T1, s.σ⟩ := by
  cases p <;> first | exact h.elim | skip
  rename_i k i off
  simp only [storeV] at h ⊢
  cases hl : look σ k with
  | none => simp only [hl] at h
  | some r =>
    cases r <;> simp only [hl] at h ⊢
    · split at h
      · rename_i hin; rw [if_pos hin]; exact ⟨trivial, h⟩
      · exact h.elim
    · split at h
      · rename_i hin; rw [if_pos hin]; exact ⟨trivial, h⟩
      · exact h.elim

theorem clearV_T {T1 T2 : List DV} {σ : Store} {x z : DV} {n : Nat} {K : DV → St → Prop} (h : clearV (std P) n z ⟨T1, σ⟩ x K) : clearV (std P) n z ⟨T2, σ⟩ x fun d s => s.T = T2 ∧ K d ⟨T1, s.σ⟩ := by
  cases x <;> first | exact h.elim | skip
  rename_i k o n'
  simp only [clearV] at h ⊢
  cases hl : look σ k with
  | none => simp only [hl] at h
  | some r => cases r <;> simp only [hl] at h ⊢; exact ⟨h.1, trivial, h.2⟩

theorem ev_set {T : List DV} {σ : Store} {x : Arg} {t : Nat} {v : DV} (h : t ∉ argR x) : ev ⟨setN T t v, σ⟩ x = ev ⟨T, σ⟩ x :=
  ev_congr fun u hu => by rw [nth_setN, if_neg (by rintro rfl; exact h hu)]
theorem evL_set {T : List DV} {σ : Store} {xs : List Arg} {t : Nat} {v : DV} (h : t ∉ argsR xs) : evL ⟨setN T t v, σ⟩ xs = evL ⟨T, σ⟩ xs :=
  evL_congr fun u hu => by rw [nth_setN, if_neg (by rintro rfl; exact h hu)]

theorem fillP_set {T : List DV} {σ : Store} {t : Nat} {v : DV} : ∀ (ps : List (Nat × Nat × Arg)) (cs : List DV), t ∉ partsR3 ps → fillP ⟨setN T t v, σ⟩ ps cs = fillP ⟨T, σ⟩ ps cs
  | [], _, _ => rfl
  | (o, n, x) :: ps, cs, h => by
    simp only [partsR3, List.mem_append, not_or] at h
    simp only [fillP]
    rw [ev_set h.1]
    split
    · split
      · exact fillP_set ps _ h.2
      · rfl
    · rfl
theorem partKeys3_set {T : List DV} {σ : Store} {t : Nat} {v : DV} : ∀ (ps : List (Nat × Nat × Arg)), t ∉ partsR3 ps → partKeys3 ⟨setN T t v, σ⟩ ps = partKeys3 ⟨T, σ⟩ ps
  | [], _ => rfl
  | (o, n, x) :: ps, h => by
    simp only [partsR3, List.mem_append, not_or] at h
    simp only [partKeys3]
    rw [ev_set h.1, partKeys3_set ps h.2]
theorem partKeys_set {T : List DV} {σ : Store} {t : Nat} {v : DV} : ∀ (ps : List (Nat × Arg)), t ∉ partsR ps → partKeys ⟨setN T t v, σ⟩ ps = partKeys ⟨T, σ⟩ ps
  | [], _ => rfl
  | (n, x) :: ps, h => by
    simp only [partsR, List.mem_append, not_or] at h
    simp only [partKeys]
    rw [ev_set h.1, partKeys_set ps h.2]
theorem partsOk_set {T : List DV} {σ : Store} {t sz : Nat} {v : DV} : ∀ (ps : List (Nat × Arg)), t ∉ partsR ps → partsOk sz ⟨setN T t v, σ⟩ ps = partsOk sz ⟨T, σ⟩ ps
  | [], _ => rfl
  | (n, x) :: ps, h => by
    simp only [partsR, List.mem_append, not_or] at h
    simp only [partsOk]
    rw [ev_set h.1, partsOk_set ps h.2]
theorem elemD_set {T : List DV} {σ : Store} {t i : Nat} {v : DV} : ∀ (ps : List (Nat × Arg)) (d : DV), t ∉ partsR ps → elemD ⟨setN T t v, σ⟩ i d ps = elemD ⟨T, σ⟩ i d ps
  | [], _, _ => rfl
  | (n, x) :: ps, d, h => by
    simp only [partsR, List.mem_append, not_or] at h
    simp only [elemD]
    rw [ev_set h.1, elemD_set ps _ h.2]
theorem elems_set {T : List DV} {σ : Store} {t n : Nat} {z v : DV} {ps : List (Nat × Arg)} (h : t ∉ partsR ps) : elems z ⟨setN T t v, σ⟩ n ps = elems z ⟨T, σ⟩ n ps := by
  have : ∀ m i, elemsL z ⟨setN T t v, σ⟩ ps m i = elemsL z ⟨T, σ⟩ ps m i := by
    intro m
    induction m with
    | zero => intro i; rfl
    | succ m ih => intro i; simp only [elemsL]; rw [elemD_set ps _ h, ih]
  simp only [elems, this]

/-- A loud operation does the same where a place holds other data that it does not look at. -/
theorem loud_equi {κ : Nat} {r : ROp} {T : List DV} {σ : Store} {t : Nat} {v : DV} {K : DV → St → Prop} (ht : t ∉ opR r) (h : loudV (std P) κ r ⟨setN T t v, σ⟩ K) :
    ∃ f : DV → DV, (∀ d, keysOf d = [] → f d = d) ∧ (wild r = false → ∀ d, f d = d) ∧
      loudV (std P) κ r ⟨T, σ⟩ fun d s => s.T = T.map f ∧ (wild r = false → ∀ k q, look σ k = some q → look s.σ k = some q) ∧ K d ⟨setN s.T t (f v), s.σ⟩ := by
  have idT : T = T.map fun d => d := by simp
  cases r <;> first | exact h.elim | skip
  case pick c x y =>
    simp only [opR, List.mem_append, not_or] at ht
    refine ⟨fun d => d, fun _ _ => rfl, fun _ _ => rfl, ?_⟩
    simp only [loudV] at h ⊢
    rw [ev_set ht.1, ev_set ht.2.1, ev_set ht.2.2] at h
    have fin : ∀ d, K d ⟨setN T t v, σ⟩ → T = T.map (fun d => d) ∧ (wild (.pick c x y) = false → ∀ k q, look σ k = some q → look σ k = some q) ∧ K d ⟨setN T t v, σ⟩ := fun d hk => ⟨idT, fun _ _ _ h => h, hk⟩
    cases hev : ev ⟨T, σ⟩ c <;> simp only [hev] at h ⊢
    · exact ⟨fun hb => fin _ (h.1 hb), fun hb => fin _ (h.2 hb)⟩
    · exact fin _ h
    · exact fin _ h
  case alloc n z =>
    refine ⟨fun d => d, fun _ _ => rfl, fun _ _ => rfl, ?_⟩
    simp only [loudV] at h ⊢
    refine addRow_mono (addRow_T (T2 := T) h) (fun s hs => ?_)
    obtain ⟨s1, s2⟩ := s
    obtain ⟨rfl, h2, h3⟩ := hs
    exact ⟨idT, fun _ => h2, h3⟩
  case makeSlice es by_ z x y =>
    simp only [opR, List.mem_append, not_or] at ht
    refine ⟨fun d => d, fun _ _ => rfl, fun _ _ => rfl, ?_⟩
    simp only [loudV] at h ⊢
    rw [ev_set ht.1, ev_set ht.2] at h
    generalize ev ⟨T, σ⟩ x = dx at h ⊢
    generalize ev ⟨T, σ⟩ y = dy at h ⊢
    cases dx <;> first | exact h.elim | skip
    cases dy <;> first | exact h.elim | skip
    refine ⟨h.1, addRow_mono (addRow_T (T2 := T) h.2) (fun s hs => ?_)⟩
    obtain ⟨s1, s2⟩ := s
    obtain ⟨rfl, h2, h3⟩ := hs
    exact ⟨idT, fun _ => h2, h3⟩
  case lend f xs =>
    simp only [opR, List.mem_append, not_or] at ht
    refine ⟨fun d => d, fun _ _ => rfl, fun _ _ => rfl, ?_⟩
    simp only [loudV] at h ⊢
    rw [ev_set ht.1, evL_set ht.2] at h
    cases hev : ev ⟨T, σ⟩ f <;> simp only [hev] at h ⊢
    refine ⟨h.1, h.2.mono fun d rs hb => ⟨hb.1, ?_⟩⟩
    refine bindR_mono (bindR_T (T2 := T) hb.2) (fun d s hs => ?_)
    obtain ⟨s1, s2⟩ := s
    obtain ⟨rfl, h2, h3⟩ := hs
    exact ⟨idT, fun _ => h2, h3⟩
  case refs f xs =>
    simp only [opR, List.mem_append, not_or] at ht
    refine ⟨fun d => d, fun _ _ => rfl, fun _ _ => rfl, ?_⟩
    simp only [loudV] at h ⊢
    rw [ev_set ht.1, evL_set ht.2] at h
    cases hev : ev ⟨T, σ⟩ f <;> simp only [hev] at h ⊢
    obtain ⟨rows, h1, h2⟩ := h
    refine ⟨rows, h1, h2.mono fun d rs hb => ?_⟩
    refine bindR_mono (bindR_T (T2 := T) hb) (fun d s hs => ?_)
    obtain ⟨s1, s2⟩ := s
    obtain ⟨rfl, _, h3⟩ := hs
    exact ⟨idT, fun hw => (by cases hw), h3⟩
  case call f xs =>
    simp only [opR, List.mem_append, not_or] at ht
    simp only [loudV] at h
    rw [ev_set ht.1, evL_set ht.2] at h
    cases hev : ev ⟨T, σ⟩ f <;> simp only [hev] at h
    rename_i g as_ bs
    generalize hks : keysOfL (cat as_ (cat (evL ⟨T, σ⟩ xs) bs)) = ks at h
    refine ⟨frzD ks σ, frzD_keyless ks σ, fun hw => (by cases hw), ?_⟩
    simp only [loudV, hev, hks]
    refine ⟨h.1, h.2.mono fun d rs hb => ?_⟩
    rw [freeze_eq, map_setN] at hb
    rw [freeze_eq]
    refine bindR_mono (bindR_T (T2 := T.map (frzD ks σ)) hb) (fun d s hs => ?_)
    obtain ⟨s1, s2⟩ := s
    obtain ⟨rfl, _, h3⟩ := hs
    exact ⟨rfl, fun hw => (by cases hw), h3⟩
  case box n x =>
    simp only [opR] at ht
    simp only [loudV] at h
    rw [ev_set ht] at h
    generalize hks : keysOf (ev ⟨T, σ⟩ x) = ks at h
    rw [freeze_eq, map_setN, ev_set ht] at h
    refine ⟨frzD ks σ, frzD_keyless ks σ, fun hw => (by cases hw), ?_⟩
    simp only [loudV, hks]
    rw [freeze_eq]
    split at h
    · rename_i hok
      rw [if_pos hok]
      refine addRow_mono (addRow_T (T2 := T.map (frzD ks σ)) h) (fun s hs => ?_)
      obtain ⟨s1, s2⟩ := s
      obtain ⟨rfl, h2, h3⟩ := hs
      exact ⟨rfl, fun hw => (by cases hw), h3⟩
    · exact h.elim
  case build z ps =>
    simp only [opR] at ht
    simp only [loudV] at h
    rw [partKeys3_set ps ht] at h
    generalize hks : partKeys3 ⟨T, σ⟩ ps = ks at h
    rw [freeze_eq, map_setN, fillP_set ps _ ht] at h
    refine ⟨frzD ks σ, frzD_keyless ks σ, fun hw => (by cases hw), ?_⟩
    simp only [loudV, hks]
    rw [freeze_eq]
    cases hf : fillP ⟨T.map (frzD ks σ), frzS ks σ⟩ ps z <;> simp only [hf] at h ⊢
    exact ⟨trivial, fun hw => (by cases hw), h⟩
  case buildSlice es z n ps =>
    simp only [opR] at ht
    simp only [loudV] at h
    rw [partKeys_set ps ht] at h
    generalize hks : partKeys ⟨T, σ⟩ ps = ks at h
    rw [freeze_eq, map_setN, partsOk_set ps ht, elems_set ht] at h
    refine ⟨frzD ks σ, frzD_keyless ks σ, fun hw => (by cases hw), ?_⟩
    simp only [loudV, hks]
    rw [freeze_eq]
    split at h
    · rename_i hok
      rw [if_pos hok]
      refine addRow_mono (addRow_T (T2 := T.map (frzD ks σ)) h) (fun s hs => ?_)
      obtain ⟨s1, s2⟩ := s
      obtain ⟨rfl, h2, h3⟩ := hs
      exact ⟨rfl, fun hw => (by cases hw), h3⟩
    · exact h.elim
  case store n x y =>
    simp only [opR, List.mem_append, not_or] at ht
    simp only [loudV] at h
    rw [ev_set ht.2] at h
    generalize hks : keysOf (ev ⟨T, σ⟩ y) = ks at h
    rw [freeze_eq, map_setN, ev_set ht.2, ev_set ht.1] at h
    refine ⟨frzD ks σ, frzD_keyless ks σ, fun hw => (by cases hw), ?_⟩
    simp only [loudV, hks]
    rw [freeze_eq]
    split at h
    · rename_i hok
      rw [if_pos hok]
      refine storeV_mono (storeV_T (T2 := T.map (frzD ks σ)) h) (fun d s hs => ?_)
      obtain ⟨s1, s2⟩ := s
      obtain ⟨rfl, h3⟩ := hs
      exact ⟨rfl, fun hw => (by cases hw), h3⟩
    · exact h.elim
  case clear es z x =>
    simp only [opR] at ht
    refine ⟨fun d => d, fun _ _ => rfl, fun _ _ => rfl, ?_⟩
    simp only [loudV] at h ⊢
    rw [ev_set ht] at h
    refine clearV_mono (clearV_T (T2 := T) h) (fun d s hs => ?_)
    obtain ⟨s1, s2⟩ := s
    obtain ⟨rfl, h3⟩ := hs
    exact ⟨idT, fun hw => (by cases hw), h3⟩
  case toBytes x =>
    simp only [opR] at ht
    refine ⟨fun d => d, fun _ _ => rfl, fun _ _ => rfl, ?_⟩
    simp only [loudV] at h ⊢
    rw [ev_set ht] at h
    generalize ev ⟨T, σ⟩ x = dx at h ⊢
    cases dx <;> first | exact h.elim | skip
    simp only [toBytesV] at h ⊢
    refine addRow_mono (addRow_T (T2 := T) h) (fun s hs => ?_)
    obtain ⟨s1, s2⟩ := s
    obtain ⟨rfl, h2, h3⟩ := hs
    exact ⟨idT, fun _ => h2, h3⟩
  case copy es x y =>
    simp only [opR, List.mem_append, not_or] at ht
    refine ⟨fun d => d, fun _ _ => rfl, fun _ _ => rfl, ?_⟩
    simp only [loudV, copyV] at h ⊢
    rw [ev_set ht.1, ev_set ht.2] at h
    rw [cont_congr (T := T)] at h
    cases hb : isStr (ev ⟨T, σ⟩ y) <;> simp only [hb] at h ⊢
    · cases hx : ev ⟨T, σ⟩ x <;> cases hc : cont (std P) ⟨T, σ⟩ es (ev ⟨T, σ⟩ y) <;> simp only [hx, hc] at h ⊢
      rename_i k o n' p
      cases hl : look σ k with
      | none => simp only [hl] at h
      | some r => cases r <;> simp only [hl] at h ⊢; exact ⟨h.1, idT, fun hw => (by cases hw), h.2⟩
    · cases hx : ev ⟨T, σ⟩ x <;> simp only [hx] at h
  case convL x =>
    simp only [opR] at ht
    refine ⟨fun d => d, fun _ _ => rfl, fun _ _ => rfl, ?_⟩
    simp only [loudV] at h ⊢
    rw [ev_set ht] at h
    generalize ev ⟨T, σ⟩ x = dx at h ⊢
    cases dx <;> first | exact h.elim | skip
    rename_i k o n'
    simp only [convLV] at h ⊢
    cases hl : look σ k with
    | none => simp only [hl] at h
    | some r => cases r <;> simp only [hl] at h ⊢; exact ⟨h.1, h.2.1, h.2.2.1, idT, fun hw => (by cases hw), h.2.2.2⟩
  case nilS neg x =>
    simp only [opR] at ht
    refine ⟨fun d => d, fun _ _ => rfl, fun _ _ => rfl, ?_⟩
    simp only [loudV] at h ⊢
    rw [ev_set ht] at h
    generalize ev ⟨T, σ⟩ x = dx at h ⊢
    have fin : ∀ d, K d ⟨setN T t v, σ⟩ → T = T.map (fun d => d) ∧ (wild (.nilS neg x) = false → ∀ k q, look σ k = some q → look σ k = some q) ∧ K d ⟨setN T t v, σ⟩ := fun d hk => ⟨idT, fun _ _ _ h => h, hk⟩
    exact nilSV_mono (K' := fun d s => s.T = T.map (fun d => d) ∧ (wild (.nilS neg x) = false → ∀ k q, look σ k = some q → look s.σ k = some q) ∧ K d ⟨setN s.T t v, s.σ⟩) (st := ⟨T, σ⟩) (K := fun d s => s = ⟨T, σ⟩ ∧ K d ⟨setN T t v, σ⟩)
      (by cases dx <;> first | exact h.elim | exact ⟨rfl, h⟩ | exact ⟨fun h0 => ⟨rfl, h.1 h0⟩, fun h0 b => ⟨rfl, h.2 h0 b⟩⟩) (fun d s hs => by obtain ⟨rfl, hk⟩ := hs; exact fin d hk)
  case append es by_ x y =>
    simp only [opR, List.mem_append, not_or] at ht
    simp only [loudV, appendV] at h ⊢
    rw [ev_set ht.1, ev_set ht.2] at h
    rw [cont_congr (T := T)] at h
    cases hc : cont (std P) ⟨T, σ⟩ es (ev ⟨T, σ⟩ y) with
    | none => simp only [hc] at h
    | some p =>
      obtain ⟨m, g⟩ := p
      simp only [hc] at h ⊢
      have keep : ∀ {rw_ : Row} {n : Nat}, addRow ⟨setN T t v, σ⟩ κ rw_ (fun st => K (.ref κ 0 n) st) → addRow ⟨T, σ⟩ κ rw_ (fun st => st.T = T.map (fun d => d) ∧ (wild (.append es by_ x y) = false → ∀ k q, look σ k = some q → look st.σ k = some q) ∧ K (.ref κ 0 n) ⟨setN st.T t v, st.σ⟩) := by
        intro rw_ n h
        refine addRow_mono (addRow_T (T2 := T) h) (fun s hs => ?_)
        obtain ⟨s1, s2⟩ := s
        obtain ⟨rfl, h2, h3⟩ := hs
        exact ⟨idT, fun _ => h2, h3⟩
      cases hx : ev ⟨T, σ⟩ x <;> simp only [hx] at h ⊢ <;> first | exact h.elim | skip
      · exact ⟨fun d => d, fun _ _ => rfl, fun hw => (by cases hw), h.1, keep h.2⟩
      · exact ⟨fun d => d, fun _ _ => rfl, fun hw => (by cases hw), h.1, h.2.1, h.2.2.1, h.2.2.2.1, keep h.2.2.2.2⟩
      · rename_i k o n
        cases hl : look σ k with
        | none => simp only [hl] at h
        | some q =>
          cases q <;> simp only [hl] at h ⊢
          refine ⟨fun d => if mem (keysOf d) k then .junk else d, fun d hd => by simp [hd, mem], fun hw => (by cases hw), h.1, h.2.1, h.2.2.1, ?_⟩
          have h4 := h.2.2.2
          rw [killL_map, map_setN] at h4
          refine addRow_mono (addRow_T (T2 := killL k T) h4) (fun s hs => ?_)
          obtain ⟨s1, s2⟩ := s
          obtain ⟨rfl, h2, h3⟩ := hs
          refine ⟨killL_map _ _, fun hw => (by cases hw), ?_⟩
          dsimp only
          rw [killL_map]
          exact h3

theorem quiet_loud {L : Leafs} {st : St} {r : ROp} (hq : isQ r = false) : quietV L st r = none := by
  cases r <;> first | (cases hq; done) | rfl

/-- More rows do not trouble a quiet operation. -/
theorem q_grow {T : List DV} {σ σ' : Store} {r : ROp} (hg : ∀ k q, look σ k = some q → look σ' k = some q) (hob : qob P r ⟨T, σ⟩) :
    qob P r ⟨T, σ'⟩ ∧ qv P r ⟨T, σ'⟩ = qv P r ⟨T, σ⟩ := by
  have evE : ∀ x, ev ⟨T, σ'⟩ x = ev ⟨T, σ⟩ x := fun x => by cases x <;> rfl
  have evLE : ∀ xs, evL ⟨T, σ'⟩ xs = evL ⟨T, σ⟩ xs := fun xs => by induction xs <;> simp [evL, *]
  have bndE : ∀ x, bnd (std P) ⟨T, σ'⟩ x = bnd (std P) ⟨T, σ⟩ x := fun x => by cases x <;> simp [bnd, evE]
  have same : quietV (std P) ⟨T, σ'⟩ r = quietV (std P) ⟨T, σ⟩ r → qob P r ⟨T, σ'⟩ ∧ qv P r ⟨T, σ'⟩ = qv P r ⟨T, σ⟩ := by
    intro e
    refine ⟨?_, by simp only [qv, e]⟩
    simp only [qob, e] at hob ⊢
    exact hob
  have fillE : ∀ (ps : List (Nat × Nat × Arg)) cs, fillP ⟨T, σ'⟩ ps cs = fillP ⟨T, σ⟩ ps cs := by
    intro ps
    induction ps with
    | nil => intro cs; rfl
    | cons p l ih => intro cs; obtain ⟨o, n, x⟩ := p; simp only [fillP, evE, ih]
  cases r <;> first | exact hob.elim | (apply same; simp only [quietV, evE, evLE, fillE]; done) | skip
  case load g n x =>
    apply same
    simp only [quietV, evE]
    simp only [qob, quietV] at hob
    cases hx : ev ⟨T, σ⟩ x <;> simp only [loadV]
    rename_i k i off
    simp only [hx, loadV] at hob
    cases hl : look σ k with
    | none => simp only [hl] at hob; exact hob.elim
    | some q => simp only [hg k q hl]
  case toStr x =>
    apply same
    simp only [quietV, evE]
    simp only [qob, quietV] at hob
    cases hx : ev ⟨T, σ⟩ x <;> simp only [toStrV, cont]
    rename_i k o n
    simp only [hx, toStrV, cont] at hob
    cases hl : look σ k with
    | none => simp only [hl] at hob; exact hob.elim
    | some q => simp only [hg k q hl]
  case slice n x l h m =>
    apply same
    simp only [quietV, evE, sliceV, bndE]
    simp only [qob, quietV, sliceV] at hob
    cases hx : ev ⟨T, σ⟩ x <;> simp only [sliceB]
    rename_i k o len
    simp only [hx, sliceB] at hob
    cases hl : look σ k with
    | none =>
      simp only [hl] at hob
      exact hob.2.2.2.elim
    | some q => simp only [hg k q hl]
  case indexAddr n x y =>
    apply same
    simp only [quietV, evE]
    simp only [qob, quietV] at hob
    cases hx : ev ⟨T, σ⟩ x <;> cases hy : ev ⟨T, σ⟩ y <;> simp only [indexAddrV]
    rename_i k o len kk j
    simp only [hx, hy, indexAddrV] at hob
    cases hl : look σ k with
    | none => simp only [hl] at hob; exact hob.elim
    | some q => simp only [hg k q hl]

theorem evL_append (st : St) (l m : List Arg) : evL st (l ++ m) = evL st l ++ evL st m := by induction l <;> simp [evL, *]
theorem evL_length (st : St) (l : List Arg) : (evL st l).length = l.length := by induction l <;> simp [evL, *]

/-- Without rows, a quiet operation looks at its operands alone. -/
theorem quiet_keyless {L : Leafs} {s s' : St} {r : ROp} (hq : isQ r = true) (he : evL s' (opArgs r) = evL s (opArgs r)) (hk : keysOfL (evL s (opArgs r)) = []) : quietV L s' r = quietV L s r := by
  have nk : ∀ {d : DV}, keysOf d = [] → (∀ k o n, d ≠ .ref k o n) ∧ (∀ k i o, d ≠ .rptr k i o) := by
    intro d h
    constructor
    · rintro k o n rfl; simp [keysOf] at h
    · rintro k i o rfl; simp [keysOf] at h
  cases r <;> first | (cases hq; done) | simp only [opArgs, evL, keysOfL, List.append_nil, List.append_eq_nil_iff, List.cons.injEq, and_true] at he hk
  case move x => simp only [quietV, he]
  case load g n x =>
    simp only [quietV, he]
    have := (nk hk).2
    generalize ev s x = d at this ⊢
    cases d <;> first | rfl | exact absurd rfl (this _ _ _)
  case nilCheck x => simp only [quietV, he]
  case binOp c o x y => simp only [quietV, he]
  case eqS b l x y => simp only [quietV, he]
  case buildQ z ps =>
    have : ∀ (ps : List (Nat × Nat × Arg)) cs, evL s' (partsA ps) = evL s (partsA ps) → fillP s' ps cs = fillP s ps cs := by
      intro ps
      induction ps with
      | nil => intro cs _; rfl
      | cons p l ih =>
        intro cs h
        obtain ⟨o, n, x⟩ := p
        simp only [partsA, evL, List.cons.injEq] at h
        simp only [fillP, h.1, ih _ h.2]
    simp only [quietV, this ps z he]
  case unOp o x => simp only [quietV, he]
  case convI k x => simp only [quietV, he]
  case convS x => simp only [quietV, he]
  case toStr x =>
    simp only [quietV, he]
    have := (nk hk).1
    generalize ev s x = d at this ⊢
    cases d <;> first | rfl | exact absurd rfl (this _ _ _)
  case slice n x l h m =>
    have hb : ∀ y : Option Arg, evL s' (optA y) = evL s (optA y) → bnd L s' y = bnd L s y := by
      intro y hy
      cases y with
      | none => rfl
      | some y => simp only [optA, evL, List.cons.injEq, and_true] at hy; simp only [bnd, hy]
    rw [evL_append, evL_append, evL_append, evL_append] at he
    have h1 := List.append_inj he.2 (by simp [evL_length])
    have h2 := List.append_inj h1.2 (by simp [evL_length])
    have := (nk hk.1).1
    have hs : ∀ l h m, sliceB L s' n (ev s x) l h m = sliceB L s n (ev s x) l h m := by
      intro l h m
      generalize ev s x = d at this ⊢
      cases d <;> first | rfl | exact absurd rfl (this _ _ _)
    simp only [quietV, sliceV, he.1, hb l h1.1, hb h h2.1, hb m h2.2, hs]
  case fieldAddr o x => simp only [quietV, he]
  case field g n o x => simp only [quietV, he]
  case indexAddr n x y =>
    simp only [quietV, he]
    have := (nk hk.1).1
    generalize ev s x = d at this ⊢
    generalize ev s y = e
    cases d <;> first | exact absurd rfl (this _ _ _) | (cases e <;> rfl)
  case index x y => simp only [quietV, he]
  case extract x j => simp only [quietV, he]
  case makeFunc g a b =>
    rw [evL_append, evL_append] at he
    have h1 := List.append_inj he (by simp [evL_length])
    simp only [quietV, h1.1, h1.2]
  case len b x => simp only [quietV, he]
  case max xs => simp only [quietV, he]
  case min xs => simp only [quietV, he]

theorem evL_map {T : List DV} {σ σ' : Store} {f : DV → DV} (hf : ∀ d, keysOf d = [] → f d = d) : ∀ (xs : List Arg), keysOfL (evL ⟨T, σ⟩ xs) = [] → evL ⟨T.map f, σ'⟩ xs = evL ⟨T, σ⟩ xs
  | [], _ => rfl
  | x :: xs, h => by
    simp only [evL, keysOfL, List.append_eq_nil_iff] at h ⊢
    rw [evL_map hf xs h.2]
    cases x with
    | con d => rfl
    | tmp t =>
      simp only [ev] at h ⊢
      rw [nth_map f (hf _ rfl), hf _ h.1]

/-- A quiet operation, behind one that is not. -/
theorem q_follow {x : ROper} (hq : isQ x.op = true) {T : List DV} {σ σ' : Store} {f : DV → DV} (hf : ∀ d, keysOf d = [] → f d = d) {wy : Bool} (hid : wy = false → ∀ d, f d = d) (hg : wy = false → ∀ k q, look σ k = some q → look σ' k = some q)
    (hc : wy = false ∨ x.strict = true ∨ isMove x.op = true) (hob : qos P x ⟨T, σ⟩) : qos P x ⟨T.map f, σ'⟩ ∧ qv P x.op ⟨T.map f, σ'⟩ = f (qv P x.op ⟨T, σ⟩) := by
  by_cases hst : x.strict = true
  · obtain ⟨k1, k2⟩ := hob.1 hst
    have he := evL_map (σ' := σ') hf (opArgs x.op) k1
    have hs := quiet_keyless (L := std P) hq he k1
    have hv : qv P x.op ⟨T.map f, σ'⟩ = qv P x.op ⟨T, σ⟩ := by simp only [qv, hs]
    refine ⟨⟨fun _ => by rw [he, hv]; exact ⟨k1, k2⟩, ?_⟩, by rw [hv, hf _ k2]⟩
    have := hob.2
    simp only [qob, hs] at this ⊢
    exact this
  · have hsf : x.strict = false := by simpa using hst
    rcases hc with hw | hs | hm
    · have hT : T.map f = T := by
        rw [show f = fun d => d from funext (hid hw)]; simp
      rw [hT]
      obtain ⟨h1, h2⟩ := q_grow (P := P) (hg hw) hob.2
      exact ⟨⟨fun h => absurd h hst, h1⟩, by rw [h2, hid hw]⟩
    · exact absurd hs hst
    · obtain ⟨xd, xo, xg, xs⟩ := x
      dsimp only at *
      cases xo <;> first | (cases hm; done) | skip
      rename_i y
      refine ⟨⟨fun h => absurd h hst, trivial⟩, ?_⟩
      simp only [qv, quietV]
      cases y with
      | tmp t => simp only [ev]; exact nth_map f (hf _ rfl) T t
      | con d =>
        simp only [ev]
        simp only [isMove] at hm
        rw [hf]
        split at hm
        · assumption
        · cases hm

theorem stepV_loud {o : ROper} (hq : isQ o.op = false) (hs : o.strict = false) (st : St) (K : St → Prop) :
    stepV (std P) o st K = loudV (std P) (match o.dst with | some t => t | none => 999) o.op st fun d st => K (st.put o.dst d) := by
  unfold stepV stepV0
  rw [hs]
  simp only [quiet_loud hq]
  rfl

theorem loud_put {κ : Nat} {r : ROp} {st : St} {x : Option Nat} {v : DV} {K : DV → St → Prop} (ht : ∀ t ∈ opR r, x ≠ some t) (h : loudV (std P) κ r (st.put x v) K) :
    ∃ f : DV → DV, (∀ d, keysOf d = [] → f d = d) ∧ (wild r = false → ∀ d, f d = d) ∧
      loudV (std P) κ r st fun d s => s.T = st.T.map f ∧ (wild r = false → ∀ k q, look st.σ k = some q → look s.σ k = some q) ∧ K d (s.put x (f v)) := by
  cases x with
  | none =>
    -- a place beyond all
    obtain ⟨T, σ⟩ := st
    have hset : ∀ (T : List DV) (t : Nat) (v : DV), T.length ≤ t → setN T t v = T := fun T t v h => by rw [setN_set]; exact List.set_eq_of_length_le h
    have hnot : ∃ t, t ∉ opR r ∧ T.length ≤ t := by
      have : ∀ l : List Nat, ∃ b, ∀ t ∈ l, t < b := by
        intro l
        induction l with
        | nil => exact ⟨0, fun t h => by cases h⟩
        | cons a l ih =>
          obtain ⟨b, hb⟩ := ih
          refine ⟨max b (a + 1), fun t h => ?_⟩
          rcases List.mem_cons.1 h with rfl | h
          · omega
          · have := hb t h; omega
      obtain ⟨b, hb⟩ := this (opR r)
      exact ⟨max b T.length, fun h => by have := hb _ h; omega, by omega⟩
    obtain ⟨t, h1, h2⟩ := hnot
    have h' : loudV (std P) κ r ⟨setN T t v, σ⟩ K := by rw [hset _ _ _ h2]; exact h
    obtain ⟨f, f1, f2, f3⟩ := loud_equi h1 h'
    refine ⟨f, f1, f2, loudV_mono f3 fun d s hs => ⟨hs.1, hs.2.1, ?_⟩⟩
    have := hs.2.2
    rw [hset _ _ _ (by rw [hs.1]; simpa using h2)] at this
    exact this
  | some t => exact loud_equi (fun h => ht t h rfl) h

theorem swapL {x y : ROper} {st : St} {K : St → Prop} (hc : commL x y = true) (h : stepG (std P) x st (fun s => stepG (std P) y s K)) : stepG (std P) y st (fun s => stepG (std P) x s K) := by
  simp only [commL, Bool.and_eq_true, Bool.or_eq_true, Bool.not_eq_true'] at hc
  obtain ⟨⟨⟨⟨⟨⟨⟨hqx, hqy⟩, hsy⟩, hxy⟩, hyx⟩, hgx⟩, hgy⟩, hcl⟩ := hc
  obtain ⟨hxy1, hxy2, hxy3⟩ := dstApart_iff hxy
  obtain ⟨hyx1, hyx2, hyx3⟩ := dstApart_iff hyx
  have hgx := guardApart_iff hgx
  have hgy := guardApart_iff hgy
  have hcl' : wild y.op = false ∨ x.strict = true ∨ isMove x.op = true := by
    rcases hcl with (h | h) | h
    · exact .inl h
    · exact .inr (.inl h)
    · exact .inr (.inr h)
  generalize hκ : (match y.dst with | some t => t | none => 999) = κ
  have hstep : ∀ s K, stepV (std P) y s K = loudV (std P) κ y.op s fun d s => K (s.put y.dst d) := by
    intro s K
    rw [stepV_loud hqy hsy, ← hκ]
  have h1 : gd x.guard st (fun s => gd y.guard s (fun s => qos P x s ∧ loudV (std P) κ y.op (s.put x.dst (qv P x.op s)) fun d s' => K (s'.put y.dst d)) (fun s => qos P x s ∧ K ((s.put x.dst (qv P x.op s)).put y.dst .und)))
      (fun s => gd y.guard s (fun s => loudV (std P) κ y.op (s.put x.dst .und) fun d s' => K (s'.put y.dst d)) (fun s => K ((s.put x.dst .und).put y.dst .und))) := by
    rw [stepG_gd] at h
    refine gd_monoR h (fun s _ hk => ?_) (fun s _ hk => ?_)
    · rw [stepV_quiet hqx, stepG_gd, gd_put hxy2] at hk
      refine gd_monoR hk.2 (fun s1 hr hk1 => ?_) (fun s1 hr hk1 => ?_)
      · rw [hstep] at hk1
        obtain ⟨e1, e2⟩ := hr.same (P := P) hqx (fun t w hg => (hgy t w hg).1)
        rw [e1, e2]
        exact ⟨hk.1, hk1⟩
      · obtain ⟨e1, e2⟩ := hr.same (P := P) hqx (fun t w hg => (hgy t w hg).1)
        rw [e1, e2]
        exact ⟨hk.1, hk1⟩
    · rw [stepG_gd, gd_put hxy2] at hk
      refine gd_monoR hk (fun s1 hr hk1 => ?_) (fun s1 hr hk1 => hk1)
      rw [hstep] at hk1
      exact hk1
  have h2 := gd_swap h1
  rw [stepG_gd]
  refine gd_monoR h2 (fun s _ hk => ?_) (fun s _ hk => ?_)
  · rw [hstep]
    -- what x does behind y
    have go : ∀ {s1 : St}, qos P x s1 → loudV (std P) κ y.op (s1.put x.dst (qv P x.op s1)) (fun d s' => K (s'.put y.dst d)) →
        ∃ f : DV → DV, (∀ d, keysOf d = [] → f d = d) ∧ loudV (std P) κ y.op s1 fun d s' => s'.T = s1.T.map f ∧ stepV (std P) x (s'.put y.dst d) K := by
      intro s1 hq hl
      obtain ⟨f, f1, f2, f3⟩ := loud_put hxy1 hl
      refine ⟨f, f1, loudV_mono f3 fun d s' hs => ?_⟩
      obtain ⟨g1, g2, g3⟩ := hs
      refine ⟨g1, ?_⟩
      rw [stepV_quiet hqx]
      obtain ⟨T1, σ1⟩ := s1
      obtain ⟨T', σ'⟩ := s'
      dsimp only at g1 g2
      subst g1
      obtain ⟨q1, q2⟩ := q_follow (P := P) (σ' := σ') hqx f1 (fun hw => f2 hw) (fun hw => g2 hw) hcl' hq
      obtain ⟨e3, e4⟩ := put_same (P := P) (s := ⟨T1.map f, σ'⟩) (x := y.dst) (d := d) hqx hyx1
      rw [e3, e4, q2, ← put_comm hxy3]
      exact ⟨q1, g3⟩
    have no : ∀ {s1 : St}, loudV (std P) κ y.op (s1.put x.dst .und) (fun d s' => K (s'.put y.dst d)) →
        ∃ f : DV → DV, (∀ d, keysOf d = [] → f d = d) ∧ loudV (std P) κ y.op s1 fun d s' => s'.T = s1.T.map f ∧ K ((s'.put y.dst d).put x.dst .und) := by
      intro s1 hl
      obtain ⟨f, f1, f2, f3⟩ := loud_put hxy1 hl
      refine ⟨f, f1, loudV_mono f3 fun d s' hs => ⟨hs.1, ?_⟩⟩
      have := hs.2.2
      rw [f1 .und rfl] at this
      rw [← put_comm hxy3]
      exact this
    -- by x's guard
    cases hg : x.guard with
    | none =>
      rw [hg] at hk
      obtain ⟨f, _, hl⟩ := go hk.1 hk.2
      refine loudV_mono hl fun d s' hs => ?_
      rw [stepG_gd, hg]
      exact hs.2
    | some gw =>
      obtain ⟨t, want⟩ := gw
      rw [hg] at hk
      obtain ⟨ht1, ht2⟩ := hgx t want hg
      have hyt : y.dst ≠ some t := hyx2 t want hg
      have key : ∀ {s' : St} {d : DV} {f : DV → DV}, (∀ d, keysOf d = [] → f d = d) → s'.T = s.T.map f → keysOf (nth s.T t) = [] → nth (s'.put y.dst d).T t = nth s.T t := by
        intro s' d f hf hT hk
        rw [put_nth hyt, hT, nth_map f (hf _ rfl), hf _ hk]
      unfold gd at hk
      dsimp only at hk
      -- the guard's place refined
      have refine_ : ∀ (b : DV) {Z : DV → St → Prop}, keysOf b = [] → (∃ f : DV → DV, (∀ d, keysOf d = [] → f d = d) ∧ loudV (std P) κ y.op ⟨setN s.T t b, s.σ⟩ fun d s' => s'.T = (setN s.T t b).map f ∧ Z d s') →
          ∃ f : DV → DV, (∀ d, keysOf d = [] → f d = d) ∧ loudV (std P) κ y.op s fun d s' => s'.T = s.T.map f ∧ Z d ⟨setN s'.T t b, s'.σ⟩ := by
        intro b Z hb ⟨f, f1, hl⟩
        obtain ⟨f', f1', _, hl'⟩ := loud_equi (T := s.T) (σ := s.σ) ht1 hl
        refine ⟨f', f1', loudV_mono hl' fun d s' hs => ⟨hs.1, ?_⟩⟩
        have := hs.2.2.2
        rw [f1' b hb] at this
        exact this
      cases hev : nth s.T t <;> simp only [hev] at hk
      case tt =>
        cases want
        · obtain ⟨f, f1, hl⟩ := no hk
          refine loudV_mono hl fun d s' hs => ?_
          rw [stepG_gd, hg]
          unfold gd
          simp only [key f1 hs.1 (by rw [hev]; rfl), hev]
          exact hs.2
        · obtain ⟨f, f1, hl⟩ := go hk.1 hk.2
          refine loudV_mono hl fun d s' hs => ?_
          rw [stepG_gd, hg]
          unfold gd
          simp only [key f1 hs.1 (by rw [hev]; rfl), hev]
          exact hs.2
      case ff =>
        cases want
        · obtain ⟨f, f1, hl⟩ := go hk.1 hk.2
          refine loudV_mono hl fun d s' hs => ?_
          rw [stepG_gd, hg]
          unfold gd
          simp only [key f1 hs.1 (by rw [hev]; rfl), hev]
          exact hs.2
        · obtain ⟨f, f1, hl⟩ := no hk
          refine loudV_mono hl fun d s' hs => ?_
          rw [stepG_gd, hg]
          unfold gd
          simp only [key f1 hs.1 (by rw [hev]; rfl), hev]
          exact hs.2
      case und =>
        obtain ⟨f, f1, hl⟩ := no hk
        refine loudV_mono hl fun d s' hs => ?_
        rw [stepG_gd, hg]
        unfold gd
        simp only [key f1 hs.1 (by rw [hev]; rfl), hev]
        exact hs.2
      case bool b =>
        have pc : ∀ (s' : St) (d c : DV), (⟨setN (s'.put y.dst d).T t c, (s'.put y.dst d).σ⟩ : St) = (⟨setN s'.T t c, s'.σ⟩ : St).put y.dst d := by
          intro s' d c
          have := put_comm (st := s') (x := some t) (y := y.dst) (u := c) (v := d) (fun a ha => by obtain rfl := Option.some.inj ha; exact hyt)
          exact this.symm
        cases want <;> cases b <;> dsimp only at hk
        · obtain ⟨f, f1, hl⟩ := refine_ .ff rfl (go (hk.2 rfl).1 (hk.2 rfl).2)
          refine loudV_mono hl fun d s' hs => ?_
          rw [stepG_gd, hg]
          unfold gd
          simp only [key f1 hs.1 (by rw [hev]; rfl), hev, pc]
          exact ⟨fun h => (by cases h), fun _ => hs.2⟩
        · obtain ⟨f, f1, hl⟩ := refine_ .tt rfl (no (hk.1 rfl))
          refine loudV_mono hl fun d s' hs => ?_
          rw [stepG_gd, hg]
          unfold gd
          simp only [key f1 hs.1 (by rw [hev]; rfl), hev, pc]
          exact ⟨fun _ => hs.2, fun h => (by cases h)⟩
        · obtain ⟨f, f1, hl⟩ := refine_ .ff rfl (no (hk.2 rfl))
          refine loudV_mono hl fun d s' hs => ?_
          rw [stepG_gd, hg]
          unfold gd
          simp only [key f1 hs.1 (by rw [hev]; rfl), hev, pc]
          exact ⟨fun h => (by cases h), fun _ => hs.2⟩
        · obtain ⟨f, f1, hl⟩ := refine_ .tt rfl (go (hk.1 rfl).1 (hk.1 rfl).2)
          refine loudV_mono hl fun d s' hs => ?_
          rw [stepG_gd, hg]
          unfold gd
          simp only [key f1 hs.1 (by rw [hev]; rfl), hev, pc]
          exact ⟨fun _ => hs.2, fun h => (by cases h)⟩
  · rw [stepG_gd, gd_put hyx2]
    refine gd_monoR hk (fun s1 hr hk1 => ?_) (fun s1 hr hk1 => ?_)
    · rw [stepV_quiet hqx]
      obtain ⟨e3, e4⟩ := put_same (P := P) (s := s1) (x := y.dst) (d := .und) hqx hyx1
      rw [e3, e4, ← put_comm hxy3]
      exact hk1
    · rw [← put_comm hxy3]
      exact hk1

theorem swap {x y : ROper} {st : St} {K : St → Prop} (hc : comm x y = true) (h : stepG (std P) x st (fun s => stepG (std P) y s K)) : stepG (std P) y st (fun s => stepG (std P) x s K) := by
  simp only [comm, Bool.or_eq_true] at hc
  rcases hc with hc | hc
  · exact swapQ hc h
  · exact swapL hc h
end
end Go.Sx
