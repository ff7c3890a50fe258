import Derived.Test.YtppaakckfolhlaaSxQuiet
namespace Go.Sx
section
variable {P : Program} {md : Modes} {C : Ctx} {I : Imm} {β : Nat → Option Loc} {st : St} {a : Act} {w : World}

theorem no_false {ob : Prop} {v : DV} (h : no = (ob, v)) (hob : ob) : False := by
  obtain ⟨rfl, _⟩ := Prod.mk.inj h
  exact hob

theorem run_eqGuard_other {op : BinOp} {t : TypeId} {x y : Operand} {u v : Value} (h1 : ∀ b, u ≠ .agg b) (h2 : u ≠ .nilIface) : (eqGuard op t x y u v).run P w = .ok () w := by
  cases u <;> first | exact absurd rfl h2 | exact absurd rfl (h1 _) | (cases op <;> rfl)

theorem bin_int {op : BinOp} {t : TypeId} {k k' : IntKind} {x y : Int} {ob : Prop} {v : DV} (hq : okBin (std P) op (.int k x) (.int k' y) = (ob, v)) (hob : ob) :
    ∃ rv, (binOp op t (.int k x) (.int k' y)).run P w = .ok rv w ∧ Rep I v rv := by
  cases op <;> simp only [okBin] at hq <;> (try (split at hq)) <;> (try (exact (no_false hq hob).elim)) <;>
    obtain ⟨hob', rfl⟩ := Prod.mk.inj hq <;> (try subst k')
  case shl => subst hob'; exact ⟨_, by simp only [std] at hob; simp [binOp, Op.shift, show ¬ y < 0 by omega]; rfl, .int _ _⟩
  case shr => subst hob'; exact ⟨_, by simp only [std] at hob; simp [binOp, Op.shift, show ¬ y < 0 by omega]; rfl, .int _ _⟩
  case quo.isTrue => subst hob'; exact ⟨_, by simp only [std] at hob; simp [binOp, Op.intDiv, hob]; rfl, .int _ _⟩
  case rem.isTrue => subst hob'; exact ⟨_, by simp only [std] at hob; simp [binOp, Op.intDiv, hob]; rfl, .int _ _⟩
  case add.isTrue => exact ⟨_, by simp [binOp, Op.intArith]; rfl, .int _ _⟩
  case sub.isTrue => exact ⟨_, by simp [binOp, Op.intArith]; rfl, .int _ _⟩
  case mul.isTrue => exact ⟨_, by simp [binOp, Op.intArith]; rfl, .int _ _⟩
  case and.isTrue => exact ⟨_, by simp [binOp, Op.intBits]; rfl, .int _ _⟩
  case or.isTrue => exact ⟨_, by simp [binOp, Op.intBits]; rfl, .int _ _⟩
  case xor.isTrue => exact ⟨_, by simp [binOp, Op.intBits]; rfl, .int _ _⟩
  case andNot.isTrue => exact ⟨.int k (bitsOp .andNot k x y), by simp only [binOp, ne_eq, not_true_eq_false, if_false]; rfl, .int _ _⟩
  case eql.isTrue => exact ⟨_, by simp [binOp, Op.intCmp]; rfl, .bool _⟩
  case neq.isTrue => exact ⟨_, by simp [binOp, Op.intCmp]; rfl, .bool _⟩
  case lss.isTrue => exact ⟨_, by simp [binOp, Op.intCmp]; rfl, .bool _⟩
  case leq.isTrue => exact ⟨_, by simp [binOp, Op.intCmp]; rfl, .bool _⟩
  case gtr.isTrue => exact ⟨_, by simp [binOp, Op.intCmp]; rfl, .bool _⟩
  case geq.isTrue => exact ⟨_, by simp [binOp, Op.intCmp]; rfl, .bool _⟩

theorem bin_str {op : BinOp} {t : TypeId} {x y : ByteArray} {ob : Prop} {v : DV} (hq : okBin (std P) op (.str x) (.str y) = (ob, v)) (hob : ob) :
    ∃ rv, (binOp op t (.string x) (.string y)).run P w = .ok rv w ∧ Rep I v rv := by
  cases op <;> simp only [okBin] at hq <;> (try (exact (no_false hq hob).elim)) <;> obtain ⟨hob', rfl⟩ := Prod.mk.inj hq
  case add =>
    subst hob'
    refine ⟨_, ?_, .str _⟩
    simp only [std] at hob
    simp only [binOp, Op.stringOp]
    rw [if_neg (by simp only [IntKind.max, IntKind.signed, IntKind.bits]; omega)]
    rfl
  case eql => exact ⟨_, rfl, .bool _⟩
  case neq => exact ⟨_, rfl, .bool _⟩
  case lss => exact ⟨_, rfl, .bool _⟩
  case leq => exact ⟨_, rfl, .bool _⟩
  case gtr => exact ⟨_, rfl, .bool _⟩
  case geq => exact ⟨_, rfl, .bool _⟩

theorem equalIn_bool (d : Nat) {t : TypeId} (ht : P.underlying t = some .bool) (x y : Bool) : (Op.equalIn (d + 1) t (.bool x) (.bool y)).run P w = .ok (x == y) w := by
  simp [Op.equalIn, run_underlying ht]
theorem equal_bool {t : TypeId} (ht : P.underlying t = some .bool) (x y : Bool) : (Op.equal t (.bool x) (.bool y)).run P w = .ok (x == y) w := equalIn_bool 9999 ht x y

theorem bin_bool {op : BinOp} {t : TypeId} (ht : P.underlying t = some .bool) {a b : Bool} {ob : Prop} {v : DV}
    (hq : boolBin (std P) op a b = (ob, v)) (hob : ob) : ∃ rv, (binOp op t (.bool a) (.bool b)).run P w = .ok rv w ∧ Rep I v rv := by
  cases op <;> simp only [boolBin] at hq <;> first | exact (no_false hq hob).elim | skip
  · obtain ⟨_, rfl⟩ := Prod.mk.inj hq
    exact ⟨.bool (a == b), by simp [binOp, equal_bool ht], .bool _⟩
  · obtain ⟨_, rfl⟩ := Prod.mk.inj hq
    exact ⟨.bool (!(a == b)), by simp [binOp, equal_bool ht], .bool _⟩

theorem ptr_val {x : DV} {u : Value} (h : RepK I β x u) (hx : (∃ κ i o, x = .rptr κ i o) ∨ (∃ s n f i o, x = .eptr s n f i o)) : ∃ p, u = .pointer (some p) := by
  rcases hx with ⟨κ, i, o, rfl⟩ | ⟨s, n, f, i, o, rfl⟩
  · cases h with
    | pure h => cases h
    | rptr => exact ⟨_, rfl⟩
  · cases h with
    | pure h => cases h; exact ⟨_, rfl⟩

theorem equalIn_nil (d : Nat) {t e : TypeId} (ht : P.underlying t = some (.pointer e)) (p : Option Addr) : (Op.equalIn (d + 1) t (.pointer none) (.pointer p)).run P w = .ok p.isNone w := by
  simp [Op.equalIn, run_underlying ht]
theorem equalIn_nil' (d : Nat) {t e : TypeId} (ht : P.underlying t = some (.pointer e)) (p : Addr) : (Op.equalIn (d + 1) t (.pointer (some p)) (.pointer none)).run P w = .ok false w := by
  simp [Op.equalIn, run_underlying ht]

/-- What '==' with nil says. -/
theorem nil_eq {t e : TypeId} (ht : P.underlying t = some (.pointer e)) {x y r : DV} {u v : Value} (hr : nilEq x y = some r)
    (hx : RepK I β x u) (hy : RepK I β y v) : ∃ b p q, u = .pointer p ∧ v = .pointer q ∧ (r = if b then .tt else .ff) ∧ (Op.equal t u v).run P w = .ok b w := by
  have hnil : ∀ {u : Value}, RepK I β .nilp u → u = .pointer none := fun h => by cases h with | pure h => cases h; rfl
  unfold nilEq at hr
  split at hr
  · obtain rfl := Option.some.inj hr
    obtain rfl := hnil hx
    obtain rfl := hnil hy
    exact ⟨true, _, _, rfl, rfl, rfl, equalIn_nil 9999 ht none⟩
  · obtain rfl := Option.some.inj hr
    obtain rfl := hnil hx
    obtain ⟨p, rfl⟩ := ptr_val hy (.inl ⟨_, _, _, rfl⟩)
    exact ⟨false, _, _, rfl, rfl, rfl, equalIn_nil 9999 ht (some p)⟩
  · obtain rfl := Option.some.inj hr
    obtain rfl := hnil hy
    obtain ⟨p, rfl⟩ := ptr_val hx (.inl ⟨_, _, _, rfl⟩)
    exact ⟨false, _, _, rfl, rfl, rfl, equalIn_nil' 9999 ht p⟩
  · obtain rfl := Option.some.inj hr
    obtain rfl := hnil hx
    obtain ⟨p, rfl⟩ := ptr_val hy (.inr ⟨_, _, _, _, _, rfl⟩)
    exact ⟨false, _, _, rfl, rfl, rfl, equalIn_nil 9999 ht (some p)⟩
  · obtain rfl := Option.some.inj hr
    obtain rfl := hnil hy
    obtain ⟨p, rfl⟩ := ptr_val hx (.inr ⟨_, _, _, _, _, rfl⟩)
    exact ⟨false, _, _, rfl, rfl, rfl, equalIn_nil' 9999 ht p⟩
  · cases hr

theorem rep_ite (b : Bool) : Rep I (if b then .tt else .ff) (.bool b) := by cases b <;> constructor


theorem notD_rep {b : Bool} : Rep I (notD (std P) (if b then .tt else .ff)) (.bool (!b)) := by cases b <;> constructor

/-- The kind of a comparison. -/
def ClsOk (P : Program) (t : TypeId) (c : Nat) : Prop :=
  match c with
  | 0 => True
  | 1 => P.underlying t = some .bool
  | _ => ∃ e, P.underlying t = some (.pointer e)

theorem bin_good {c : Nat} {op : BinOp} {t yt : TypeId} {x y : Operand} {d e v : DV} {ob : Prop} {o : Oper} (ho : o.op = .binOp op t x y yt) (hc : ClsOk P t c)
    (hq : binV (std P) c op d e = (ob, v)) (hob : ob) (hx : RepK I β d (a.eval x)) (hy : RepK I β e (a.eval y)) : Good P I β w a o v := by
  have fin : ∀ {rv}, (∀ b, a.eval x ≠ .agg b) → a.eval x ≠ .nilIface → (binOp op t (a.eval x) (a.eval y)).run P w = .ok rv w → Rep I v rv → Good P I β w a o v := by
    intro rv h1 h2 h3 h4
    refine ⟨rv, ?_, .pure h4⟩
    simp [execOp, ho, run_eqGuard_other h1 h2, h3]
  unfold binV at hq
  split at hq
  · unfold okBin at hq
    split at hq
    · rename_i k n k' m
      have e1 := hx.inv_int
      have e2 := hy.inv_int
      obtain ⟨rv, h1, h2⟩ := bin_int (P := P) (I := I) (w := w) (op := op) (t := t) (k := k) (k' := k') (x := n) (y := m) hq hob
      exact fin (by rw [e1]; simp) (by rw [e1]; simp) (by rw [e1, e2]; exact h1) h2
    · rename_i s u
      have e1 := hx.inv_str
      have e2 := hy.inv_str
      obtain ⟨rv, h1, h2⟩ := bin_str (P := P) (I := I) (w := w) (op := op) (t := t) (x := s) (y := u) hq hob
      exact fin (by rw [e1]; simp) (by rw [e1]; simp) (by rw [e1, e2]; exact h1) h2
    · exact (no_false hq hob).elim
  · split at hq
    · rename_i ba bb h1 h2
      have e1 := hx.inv_bool h1
      have e2 := hy.inv_bool h2
      obtain ⟨rv, h3, h4⟩ := bin_bool (P := P) (I := I) (w := w) (op := op) (t := t) hc hq hob
      exact fin (by rw [e1]; simp) (by rw [e1]; simp) (by rw [e1, e2]; exact h3) h4
    · exact (no_false hq hob).elim
  · have hc' : ∃ e, P.underlying t = some (.pointer e) := by
      unfold ClsOk at hc
      split at hc
      · rename_i h0 _; exact absurd rfl (h0)
      · rename_i h0; exact absurd rfl h0
      · exact hc
    obtain ⟨el, ht⟩ := hc'
    split at hq
    · rename_i r hr
      obtain ⟨b, p, q, h1, h2, h3, h4⟩ := nil_eq (w := w) ht hr hx hy
      rw [h1, h2] at h4
      unfold nilBin at hq
      split at hq
      · obtain ⟨_, rfl⟩ := Prod.mk.inj hq
        refine fin (rv := .bool b) (by rw [h1]; simp) (by rw [h1]; simp) ?_ (by rw [h3]; exact rep_ite b)
        rw [h1, h2]
        simp [binOp, h4]
      · obtain ⟨_, rfl⟩ := Prod.mk.inj hq
        refine fin (rv := .bool (!b)) (by rw [h1]; simp) (by rw [h1]; simp) ?_ (by rw [h3]; exact notD_rep)
        rw [h1, h2]
        simp [binOp, h4]
      · exact (no_false hq hob).elim
    · exact (no_false hq hob).elim

theorem boolOf_rep {d : DV} {b : Bool} (h : boolOf d = some b) : Rep I (notD (std P) d) (.bool (!b)) := by
  unfold boolOf at h
  split at h
  · obtain rfl := Option.some.inj h; exact .bool _
  · obtain rfl := Option.some.inj h; exact .ff
  · obtain rfl := Option.some.inj h; exact .tt
  · cases h

theorem un_good {op : UnOp} {t : TypeId} {x : Operand} {d v : DV} {ob : Prop} {o : Oper} (ho : o.op = .unOp op t x)
    (hq : unV (std P) op d = (ob, v)) (hob : ob) (hx : RepK I β d (a.eval x)) : Good P I β w a o v := by
  unfold unV at hq
  split at hq
  · rename_i k n
    have e := hx.inv_int
    split at hq
    · obtain ⟨_, rfl⟩ := Prod.mk.inj hq
      exact ⟨.int k (unF .neg k n), by simp [execOp, ho, e, Op.unary, Op.intArith, unF], .pure (.int _ _)⟩
    · obtain ⟨_, rfl⟩ := Prod.mk.inj hq
      exact ⟨_, by simp [execOp, ho, e, Op.unary, Op.intBits]; rfl, .pure (.int _ _)⟩
    · exact (no_false hq hob).elim
  · split at hq
    · rename_i b hb
      obtain ⟨_, rfl⟩ := Prod.mk.inj hq
      have e := hx.inv_bool hb
      exact ⟨.bool (!b), by simp [execOp, ho, e, Op.unary], .pure (boolOf_rep hb)⟩
    · exact (no_false hq hob).elim

theorem convI_good {k0 k : IntKind} {s t : TypeId} {x : Operand} {o : Oper} (ho : o.op = .convert s t x) (h1 : P.underlying s = some (.int k0)) (h2 : P.underlying t = some (.int k)) {k1 : IntKind} {n : Int}
    (hx : RepK I β (.int k1 n) (a.eval x)) : Good P I β w a o (.int k (std P .wrap k n)) := by
  have e := hx.inv_int
  exact ⟨.int k (k.wrap n), by simp [execOp, ho, e, convert, run_underlying h1, run_underlying h2, Conv.intToInt], .pure (.int _ _)⟩

theorem convS_good {s t : TypeId} {x : Operand} {o : Oper} (ho : o.op = .convert s t x) (h1 : P.underlying s = some .string) (h2 : P.underlying t = some .string) {z : ByteArray}
    (hx : RepK I β (.str z) (a.eval x)) : Good P I β w a o (.str z) := by
  have e := hx.inv_str
  exact ⟨.string z, by simp [execOp, ho, e, convert, run_underlying h1, run_underlying h2], .pure (.str _)⟩

theorem toStr_good (hs : Sim C I β st a w) {s t el : TypeId} {x : Operand} {o : Oper} (ho : o.op = .convert s t x) (h1 : P.underlying s = some (.slice el)) (he : P.underlying el = some (.int .u8)) (h2 : P.underlying t = some .string)
    {d v : DV} {ob : Prop} (hq : toStrV (std P) st d = (ob, v)) (hob : ob) (hx : RepK I β d (a.eval x)) : Good P I β w a o v := by
  unfold toStrV at hq
  split at hq
  · exact (no_false hq hob).elim
  · rename_i d hd
    split at hq
    · rename_i n f hc
      obtain ⟨rfl, rfl⟩ := Prod.mk.inj hq
      obtain ⟨ao, cap, hv, hA⟩ := cont_at hs (fun s e => hd s e) hc hx
      simp only [std] at hob
      refine ⟨.string (mkStrF n f), ?_, .pure (.str _)⟩
      have hrun : (convert s t (a.eval x)).run P w = .ok (.string (mkStrF n f)) w := by
        rw [hv]
        rcases Nat.eq_zero_or_pos n with h0 | h0
        · subst h0
          cases ao with
          | none => rw [run_convert_bytes_nil w s el h1 he 0 cap t h2]; rfl
          | some ad =>
            obtain ⟨b, off, sp⟩ := ad
            have hl : (loadCells ⟨b, off, sp⟩ 0).run P w = .ok #[] w := by rfl
            rw [run_convert_bytes_string w s t el _ 0 cap h1 he h2]
            simp [Conv.bytesToString, hl]
            rfl
        · obtain ⟨b, off, rfl, hcell⟩ := hA.at_ h0
          have hx' : ∀ i < n, ∃ y, f i = .int .u8 y := hob
          have := run_convert_bytes_arg (P := P) w s el h1 he b off n cap ((List.range n).map fun i => match f i with | .int _ y => y | _ => 0) (by simp) (fun i hi => by
            obtain ⟨u, hu1, hu2⟩ := hcell i 0 hi (by omega)
            obtain ⟨y, hy⟩ := hx' i hi
            rw [hy] at hu2
            have : u = .int .u8 y := by cases hu2; rfl
            subst this
            simp only [Nat.mul_one, Nat.add_zero] at hu1
            rw [hu1]
            simp [List.getD, hi, hy]) t h2
          rw [this]
          congr 2
          unfold mkStrF strOfNums
          simp only [List.map_map]
          congr 2
          apply List.map_congr_left
          intro i hi
          obtain ⟨y, hy⟩ := hx' i (by simpa using hi)
          simp [hy, u8Of]
      simp [execOp, ho, hrun]
    · exact (no_false hq hob).elim

theorem fieldAddr_good {s : TypeId} {x : Operand} {j : Nat} {o : Oper} (ho : o.op = .fieldAddr s x j) {fs : Array Field} {f : Field} {i : TypeInfo} (h1 : P.underlying s = some (.struct fs)) (h2 : fs[j]? = some f)
    (h3 : P.info? f.type = some i) (h4 : 0 < i.size) {d v : DV} {ob : Prop} (hq : fieldAddrV f.offset d = (ob, v)) (hob : ob) (hx : RepK I β d (a.eval x)) : Good P I β w a o v := by
  have hadd : ∀ b c off, (⟨b, c + off, none⟩ : Addr).add f.offset = ⟨b, c + (off + f.offset), none⟩ := fun b c off => by
    unfold Addr.add; split
    · rename_i h; rw [h]; rfl
    · simp [Nat.add_assoc]
  have hrun : ∀ b c off, a.eval x = .pointer (some ⟨b, c + off, none⟩) → (execOp a.eval o).run P w = .ok (.value (.pointer (some ⟨b, c + (off + f.offset), none⟩))) w := by
    intro b c off e
    simp [execOp, ho, e, Instr.fieldAt, run_underlying h1, h2, Instr.sureAddr, fieldPlace, sizeOf, typeInfo, h3, show ¬ i.size = 0 by omega, hadd]
  unfold fieldAddrV at hq
  split at hq
  · obtain ⟨_, rfl⟩ := Prod.mk.inj hq
    generalize hv : a.eval x = pv at hx
    cases hx with
    | pure h => cases h
    | rptr _ _ _ l b g1 g2 g3 => exact ⟨_, hrun _ _ _ hv, .rptr _ _ _ l b g1 g2 g3⟩
  · obtain ⟨_, rfl⟩ := Prod.mk.inj hq
    generalize hv : a.eval x = pv at hx
    cases hx with
    | pure h =>
      cases h with
      | eptr _ _ _ _ _ b c val g1 g2 g3 g4 => exact ⟨_, hrun _ _ _ hv, .pure (.eptr _ _ _ _ _ b c val g1 g2 g3 g4)⟩
  · exact (no_false hq hob).elim

theorem indexAddr_good (hs : Sim C I β st a w) {t e : TypeId} {x ix : Operand} {o : Oper} (ho : o.op = .indexAddr t x ix) {i : TypeInfo} (h1 : P.underlying t = some (.slice e)) (h2 : P.info? e = some i)
    {d g v : DV} {ob : Prop} (hq : indexAddrV (std P) st i.size d g = (ob, v)) (hob : ob) (hx : RepK I β d (a.eval x)) (hi : RepK I β g (a.eval ix)) : Good P I β w a o v := by
  have hadd : ∀ (ad : Addr) k, ad.spot = none → ad.add k = ⟨ad.block, ad.off + k, none⟩ := fun ad k h => by
    unfold Addr.add; split
    · rename_i h'; subst h'; rw [← h]; rfl
    · rfl
  have hrun : ∀ (b c n cap : Nat) (k : IntKind) (j : Int), a.eval x = .slice (some ⟨b, c, none⟩) n cap → a.eval ix = .int k j → 0 ≤ j → j < n →
      (execOp a.eval o).run P w = .ok (.value (.pointer (some ⟨b, c + j.toNat * i.size, none⟩))) w := by
    intro b c n cap k j e1 e2 g1 g2
    simp [execOp, ho, e1, e2, Instr.indexAt, asIntOf, run_underlying h1, g1, g2, sizeOf, typeInfo, h2, hadd]
  unfold indexAddrV at hq
  split at hq
  · rename_i sz t' n f k j
    split at hq
    · rename_i hsz
      obtain ⟨rfl, rfl⟩ := Prod.mk.inj hq
      simp only [std] at hob
      obtain ⟨hj0, hjn⟩ := hob
      have e2 := hi.inv_int
      have hjt : j.toNat < n := by omega
      generalize hv : a.eval x = pv at hx
      cases hx with
      | pure h =>
        cases h with
        | lst _ _ _ _ ao cap b c val g1 g2 g3 g4 g5 g6 g7 =>
          have hao := g4 (by omega)
          subst hao
          refine ⟨_, hrun b c n cap k j hv e2 hj0 hjn, .pure ?_⟩
          rw [← hsz]
          exact .eptr sz n f j.toNat 0 b (c + j.toNat * sz) (val j.toNat) g1 (g5 _ hjt) (fun q hq => g6 _ q hjt hq) (fun q hq => g7 _ q hjt hq)
    · exact (no_false hq hob).elim
  · rename_i κ o' n k j
    split at hq
    · rename_i r hr
      split at hq
      · rename_i hsz
        obtain ⟨rfl, rfl⟩ := Prod.mk.inj hq
        simp only [std] at hob
        obtain ⟨hj0, hjn⟩ := hob
        have e2 := hi.inv_int
        have hjt : j.toNat < n := by omega
        have hval : addN (std P) o' (std P .toNat j) = o' + j.toNat := by
          cases o' with
          | zero => simp [addN, std]
          | succ o => simp [addN, std]
        obtain ⟨l0, hl0, hok⟩ := hs.rows.rows κ r hr
        generalize hv : a.eval x = pv at hx
        cases hx with
        | pure h => cases h
        | ref _ _ _ cap l b ad g1 g2 g3 g4 g5 g6 =>
          rw [g1] at hl0
          obtain rfl := Option.some.inj hl0
          have had := g6 (by omega)
          subst had
          refine ⟨_, hrun b _ n cap k j hv e2 hj0 hjn, ?_⟩
          have := RepK.rptr (I := I) (β := β) κ (o' + j.toNat) 0 l b g1 g2 (by omega)
          rw [hval]
          rw [← hsz, ← hok.sz]
          rw [Nat.add_mul, Nat.add_zero, ← Nat.add_assoc] at this
          exact this
        | refnil _ l ao g1 g2 => omega
      · exact (no_false hq hob).elim
    · exact (no_false hq hob).elim
  · exact (no_false hq hob).elim

theorem index_good {t : TypeId} {x ix : Operand} {o : Oper} (ho : o.op = .index t x ix) (h1 : P.underlying t = some .string)
    {d g v : DV} {ob : Prop} (hq : indexV (std P) d g = (ob, v)) (hob : ob) (hx : RepK I β d (a.eval x)) (hi : RepK I β g (a.eval ix)) : Good P I β w a o v := by
  unfold indexV at hq
  split at hq
  · rename_i s k j
    obtain ⟨rfl, rfl⟩ := Prod.mk.inj hq
    simp only [std] at hob
    obtain ⟨hj0, hjn⟩ := hob
    have e1 := hx.inv_str
    have e2 := hi.inv_int
    have hlt : j.toNat < s.size := by omega
    refine ⟨.int .u8 (byteF s j.toNat), ?_, .pure (.int _ _)⟩
    simp [execOp, ho, e1, e2, Instr.index, asIntOf, run_underlying h1, hj0, hlt, byteF]
  · exact (no_false hq hob).elim
end
end Go.Sx
