import Derived.Test.YtppaakckfolhlaaSxQuiet2
namespace Go.Sx
section
variable {P : Program} {md : Modes} {C : Ctx} {I : Imm} {β : Nat → Option Loc} {st : St} {a : Act} {w : World}

theorem run_sliceBounds_nat {len cap : Nat} {lo hi mx : Option Value} {l h m : Nat}
    (hm : (mx = none ∧ m = cap) ∨ ∃ k z, mx = some (.int k z) ∧ 0 ≤ z ∧ z.toNat = m) (hh : (hi = none ∧ h = len ∧ mx = none) ∨ ∃ k z, hi = some (.int k z) ∧ 0 ≤ z ∧ z.toNat = h)
    (hl : (lo = none ∧ l = 0) ∨ ∃ k z, lo = some (.int k z) ∧ 0 ≤ z ∧ z.toNat = l) (h1 : l ≤ h) (h2 : h ≤ m) (h3 : m ≤ cap) (b : Bool) :
    (Instr.sliceBounds b len cap lo hi mx).run P w = .ok (l, h, m) w := by
  have sb : ∀ (k : IntKind) (z : Int) (y : Nat) (code : BoundsCode), 0 ≤ z → z.toNat ≤ y → (Instr.sliceBound (.int k z) y code).run P w = .ok z.toNat w :=
    fun k z y code h0 h1 => run_sliceBound w k z y code h0 (by omega)
  rcases hm with ⟨rfl, rfl⟩ | ⟨km, zm, rfl, hm0, rfl⟩
  · rcases hh with ⟨rfl, rfl, _⟩ | ⟨kh, zh, rfl, hh0, rfl⟩
    · rcases hl with ⟨rfl, rfl⟩ | ⟨kl, zl, rfl, hl0, rfl⟩
      · simp [Instr.sliceBounds]
      · simp [Instr.sliceBounds, sb kl zl h _ hl0 h1]
    · rcases hl with ⟨rfl, rfl⟩ | ⟨kl, zl, rfl, hl0, rfl⟩
      · simp [Instr.sliceBounds, sb kh zh m _ hh0 h2]
      · simp [Instr.sliceBounds, sb kh zh m _ hh0 h2, sb kl zl zh.toNat _ hl0 h1]
  · rcases hh with ⟨_, _, h'⟩ | ⟨kh, zh, rfl, hh0, rfl⟩
    · cases h'
    · rcases hl with ⟨rfl, rfl⟩ | ⟨kl, zl, rfl, hl0, rfl⟩
      · simp [Instr.sliceBounds, sb km zm cap _ hm0 h3, sb kh zh zm.toNat _ hh0 h2]
      · simp [Instr.sliceBounds, sb km zm cap _ hm0 h3, sb kh zh zm.toNat _ hh0 h2, sb kl zl zh.toNat _ hl0 h1]

theorem run_slice_val {t e : TypeId} {i : TypeInfo} (ht : P.underlying t = some (.slice e)) (hi : P.info? e = some i) {ao : Option Addr} {len cap l h m : Nat} {lo hi' mx : Option Value}
    (hb : (Instr.sliceBounds true len cap lo hi' mx).run P w = .ok (l, h, m) w) :
    (Instr.sliceAt t (.slice ao len cap) lo hi' mx).run P w = .ok (.slice (if m = l then ao else ao.map (·.add (l * i.size))) (h - l) (m - l)) w := by
  simp [Instr.sliceAt, Instr.slice, run_underlying ht, hb, sizeOf, typeInfo, hi]

theorem run_slice_str {t : TypeId} (ht : P.underlying t = some .string) {s : ByteArray} {l h : Nat} {lo hi' : Option Value} {m : Nat}
    (hb : (Instr.sliceBounds false s.size s.size lo hi' none).run P w = .ok (l, h, m) w) :
    (Instr.sliceAt t (.string s) lo hi' none).run P w = .ok (.string (s.extract l h)) w := by
  simp [Instr.sliceAt, Instr.slice, run_underlying ht, hb]

/-- A bound: none, or a number. -/
def BndIs (v : Option Value) (n : Option Nat) : Prop := (v = none ∧ n = none) ∨ ∃ k z, v = some (.int k z) ∧ 0 ≤ z ∧ n = some z.toNat

theorem bnd_is (hs : Sim C I β st a w) {x : Option Operand} {y : Option Arg} (hc : cOpt x = some y) {p : Prop} {n : Option Nat} (hb : bnd (std P) st y = (p, n)) (hp : p) : BndIs (x.map a.eval) n := by
  cases x with
  | none =>
    obtain rfl := Option.some.inj hc
    simp only [bnd] at hb
    exact .inl ⟨rfl, (Prod.mk.inj hb).2.symm⟩
  | some x =>
    simp only [cOpt] at hc
    split at hc
    · rename_i q hq
      obtain rfl := Option.some.inj hc
      have hr := arg_rep hq hs
      simp only [bnd] at hb
      split at hb
      · rename_i k z he
        rw [he] at hr
        obtain ⟨rfl, rfl⟩ := Prod.mk.inj hb
        exact .inr ⟨k, z, by simp [hr.inv_int], hp, rfl⟩
      · obtain ⟨rfl, _⟩ := Prod.mk.inj hb
        exact hp.elim
    · cases hc

theorem run_bounds {len cap : Nat} {lo hi mx : Option Value} {l h m : Option Nat} (hl : BndIs lo l) (hh : BndIs hi h) (hm : BndIs mx m) (hmh : m ≠ none → h ≠ none)
    (h1 : orN l 0 ≤ orN h len) (h2 : orN h len ≤ orN m cap) (h3 : orN m cap ≤ cap) (b : Bool) :
    (Instr.sliceBounds b len cap lo hi mx).run P w = .ok (orN l 0, orN h len, orN m cap) w := by
  refine run_sliceBounds_nat (m := orN m cap) (h := orN h len) (l := orN l 0) ?_ ?_ ?_ h1 h2 h3 b
  · rcases hm with ⟨rfl, rfl⟩ | ⟨k, z, rfl, h0, rfl⟩
    · exact .inl ⟨rfl, rfl⟩
    · exact .inr ⟨k, z, rfl, h0, rfl⟩
  · rcases hh with ⟨rfl, rfl⟩ | ⟨k, z, rfl, h0, rfl⟩
    · rcases hm with ⟨rfl, rfl⟩ | ⟨k, z, rfl, h0, rfl⟩
      · exact .inl ⟨rfl, rfl, rfl⟩
      · exact absurd rfl (hmh (by simp))
    · exact .inr ⟨k, z, rfl, h0, rfl⟩
  · rcases hl with ⟨rfl, rfl⟩ | ⟨k, z, rfl, h0, rfl⟩
    · exact .inl ⟨rfl, rfl⟩
    · exact .inr ⟨k, z, rfl, h0, rfl⟩

theorem add_plain (b c k : Nat) : (⟨b, c, none⟩ : Addr).add k = ⟨b, c + k, none⟩ := by
  unfold Addr.add; split
  · rename_i h'; subst h'; rfl
  · rfl

/-- A part of a list that stays. -/
theorem lst_part {sz n : Nat} {t : Bool} {f : Nat → DV} {ao : Option Addr} {cap l h m : Nat} {t' : Bool} (hr : Rep I (.lst sz t n f) (.slice ao n cap)) (h1 : l ≤ h) (h2 : h ≤ n) (h3 : h ≤ m)
    (ht : t' = true → m = h) : Rep I (.lst sz t' (h - l) (fun i => f (l + i))) (.slice (if m = l then ao else ao.map (·.add (l * sz))) (h - l) (m - l)) := by
  cases hr with
  | lst _ _ _ _ _ _ b o val g1 g2 g3 g4 g5 g6 g7 =>
    refine .lst sz t' (h - l) _ _ _ b (o + l * sz) (fun i j => val (l + i) j) g1 (by omega) (fun e => by have := ht e; omega) ?_ ?_ ?_ ?_
    · intro hp
      rw [if_neg (by omega), g4 (by omega)]
      simp [add_plain]
    · intro i hi; exact g5 _ (by omega)
    · intro i j hi hj
      have := g6 (l + i) j (by omega) hj
      rw [Nat.add_mul, ← Nat.add_assoc] at this
      exact this
    · intro i j hi hj; exact g7 _ _ (by omega) hj

abbrev Good' (m : Sem Value) (P : Program) (w : World) (v : Value) : Prop := m.run P w = .ok v w

theorem slice_good (hs : Sim C I β st a w) {t : TypeId} {x : Operand} {lo hi mx : Option Operand} {l h m : Option Arg} {o : Oper} (ho : o.op = .slice t x lo hi mx)
    (hl : cOpt lo = some l) (hh : cOpt hi = some h) (hm : cOpt mx = some m) (hmh : mx ≠ none → hi ≠ none) {es : Nat}
    (ht : (∃ e i, P.underlying t = some (.slice e) ∧ P.info? e = some i ∧ es = i.size ∧ 0 < es) ∨ (P.underlying t = some .string ∧ es = 0))
    {d v : DV} {ob : Prop} (hq : sliceV (std P) st es d l h m = (ob, v)) (hob : ob) (hx : RepK I β d (a.eval x)) : Good P I β w a o v := by
  have hgo : ∀ rv, (Instr.sliceAt t (a.eval x) (lo.map a.eval) (hi.map a.eval) (mx.map a.eval)).run P w = .ok rv w → RepK I β v rv → Good P I β w a o v := by
    intro rv h1 h2
    exact ⟨rv, by simp [execOp, ho, h1], h2⟩
  unfold sliceV at hq
  split at hq
  rename_i pl nl ph nh pm nm el eh em
  split at hq
  rename_i p v' hB
  obtain ⟨rfl, rfl⟩ := Prod.mk.inj hq
  obtain ⟨hpl, hph, hpm, hp⟩ := hob
  have Bl := bnd_is hs hl el hpl
  have Bh := bnd_is hs hh eh hph
  have Bm := bnd_is hs hm em hpm
  have hmh' : nm ≠ none → nh ≠ none := by
    intro hn
    have : mx ≠ none := by
      rintro rfl
      rcases Bm with ⟨_, e⟩ | ⟨_, _, e, _⟩
      · exact hn e
      · simp at e
    have h2 := hmh this
    rcases Bh with ⟨e, _⟩ | ⟨_, _, _, _, e⟩
    · cases hi with
      | none => exact absurd rfl h2
      | some q => simp at e
    · rw [e]; simp
  have hrng : ∀ a b n, std P .rng a b n → a ≤ b ∧ b ≤ n := fun _ _ _ h => h
  unfold sliceB at hB
  split at hB
  · rename_i s
    split at hB
    · exact (no_false hB hp).elim
    · split at hB
      · rename_i hes
        obtain ⟨rfl, rfl⟩ := Prod.mk.inj hB
        have hty : P.underlying t = some .string := by
          rcases ht with ⟨e, i, h1, h2, h3, h4⟩ | ⟨h1, _⟩
          · omega
          · exact h1
        have e := hx.inv_str
        obtain ⟨h1, h2⟩ := hrng _ _ _ hp
        have hmx : mx.map a.eval = none := by
          rcases Bm with ⟨e, _⟩ | ⟨_, _, _, _, e⟩
          · exact e
          · cases e
        refine hgo _ ?_ (.pure (.str _))
        rw [e, hmx]
        have := run_bounds (P := P) (w := w) (len := s.size) (cap := s.size) (m := none) Bl Bh (.inl ⟨rfl, rfl⟩) (by simp) h1 h2 (Nat.le_refl _) false
        exact run_slice_str hty this
      · exact (no_false hB hp).elim
  · rename_i sz t0 n f
    split at hB
    · rename_i hsz
      subst hsz
      obtain ⟨ao, cap, hv, hA, htight, hpos⟩ := lst_at hs hx
      rw [hv] at hx hgo
      have hrep : Rep I (.lst sz t0 n f) (.slice ao n cap) := by cases hx with | pure h => exact h
      obtain ⟨e, i, h1, h2, h3, _⟩ : ∃ e i, P.underlying t = some (.slice e) ∧ P.info? e = some i ∧ sz = i.size ∧ 0 < sz := by
        rcases ht with h | ⟨_, h⟩
        · exact h
        · omega
      have hcap := hA.le
      have core : ∀ lv : Nat, lv = orN nl 0 → lv ≤ orN nh n → orN nh n ≤ n → topV (std P) (orN nh n) n nm →
          Good' (Instr.sliceAt t (.slice ao n cap) (lo.map a.eval) (hi.map a.eval) (mx.map a.eval)) P w (.slice (if orN nm cap = lv then ao else ao.map (·.add (lv * sz))) (orN nh n - lv) (orN nm cap - lv)) ∧
          Rep I (.lst sz (tightV (std P) t0 nh nm (orN nh n)) (orN nh n - lv) (fun i => f (lv + i))) (.slice (if orN nm cap = lv then ao else ao.map (·.add (lv * sz))) (orN nh n - lv) (orN nm cap - lv)) := by
        intro lv hlv g1 g2 g3
        have hm1 : orN nh n ≤ orN nm cap ∧ orN nm cap ≤ cap := by
          cases nm with
          | none => exact ⟨by show _ ≤ cap; omega, Nat.le_refl _⟩
          | some q =>
            obtain ⟨g4, g5⟩ := hrng _ _ _ g3
            exact ⟨g4, by show q ≤ cap; omega⟩
        refine ⟨?_, lst_part hrep g1 g2 hm1.1 ?_⟩
        · have := run_bounds (P := P) (w := w) (len := n) (cap := cap) Bl Bh Bm hmh' (by omega) hm1.1 hm1.2 true
          have r := run_slice_val h1 h2 (ao := ao) this
          rw [h3, hlv]
          exact r
        · intro ht'
          cases nm with
          | some q => simp only [tightV, std, decide_eq_true_eq] at ht'; simp only [orN]; exact ht'
          | none =>
            simp only [tightV] at ht'
            cases nh with
            | none => simp only at ht'; simp only [orN]; exact htight ht'
            | some q => simp at ht'
      unfold lstV at hB
      split at hB
      · obtain ⟨rfl, rfl⟩ := Prod.mk.inj hB
        obtain ⟨g1, g2⟩ := hp
        obtain ⟨g3, g4⟩ := hrng _ _ _ g1
        obtain ⟨r1, r2⟩ := core 0 rfl (by omega) g4 g2
        refine hgo _ r1 (.pure ?_)
        have hf : (fun i => f (0 + i)) = f := by funext i; simp
        rw [hf] at r2
        exact r2
      · rename_i lv
        obtain ⟨rfl, rfl⟩ := Prod.mk.inj hB
        obtain ⟨g1, g2⟩ := hp
        obtain ⟨g3, g4⟩ := hrng _ _ _ g1
        obtain ⟨r1, r2⟩ := core lv rfl g3 g4 g2
        exact hgo _ r1 (.pure r2)
    · exact (no_false hB hp).elim
  · split at hB
    · exact (no_false hB hp).elim
    · rename_i hes
      obtain ⟨rfl, rfl⟩ := Prod.mk.inj hB
      obtain ⟨e, i, h1, h2, h3, _⟩ : ∃ e i, P.underlying t = some (.slice e) ∧ P.info? e = some i ∧ es = i.size ∧ 0 < es := by
        rcases ht with h | ⟨_, h⟩
        · exact h
        · exact absurd h hes
      have hv := nils_val hx
      obtain ⟨g1, g2⟩ := hp
      obtain ⟨g3, g4⟩ := hrng _ _ _ g1
      obtain ⟨g5, g6⟩ := hrng _ _ _ g2
      have := run_bounds (P := P) (w := w) (len := 0) (cap := 0) Bl Bh Bm hmh' g3 (by omega) g6 true
      have r := run_slice_val h1 h2 (ao := none) this
      refine hgo _ (by rw [hv]; exact r) (.pure ?_)
      have e1 : orN nh 0 - orN nl 0 = 0 := by omega
      have e2 : orN nm 0 - orN nl 0 = 0 := by omega
      rw [e1, e2]
      have e3 : (if orN nm 0 = orN nl 0 then (none : Option Addr) else (none : Option Addr).map (·.add (orN nl 0 * i.size))) = none := by split <;> rfl
      rw [e3]
      exact .nils
  · rename_i κ o' n
    split at hB
    · rename_i r hr
      split at hB
      · rename_i hsz
        obtain ⟨l0, hl0, hok⟩ := hs.rows.rows κ r hr
        obtain ⟨e, i, h1, h2, h3, _⟩ : ∃ e i, P.underlying t = some (.slice e) ∧ P.info? e = some i ∧ es = i.size ∧ 0 < es := by
          rcases ht with h | ⟨_, h⟩
          · exact h
          · have := hok.pos; omega
        have core : ∀ lv : Nat, lv = orN nl 0 → lv ≤ orN nh n → orN nh n ≤ n → topV (std P) (orN nh n) n nm →
            ∃ rv, (Instr.sliceAt t (a.eval x) (lo.map a.eval) (hi.map a.eval) (mx.map a.eval)).run P w = .ok rv w ∧ RepK I β (.ref κ (o' + lv) (orN nh n - lv)) rv := by
          intro lv hlv g1 g2 g3
          have bound : ∀ cap, n ≤ cap → orN nh n ≤ orN nm cap ∧ orN nm cap ≤ cap := by
            intro cap hcap
            cases nm with
            | none => exact ⟨by show _ ≤ cap; omega, Nat.le_refl _⟩
            | some q =>
              obtain ⟨g4, g5⟩ := hrng _ _ _ g3
              exact ⟨g4, by show q ≤ cap; omega⟩
          generalize a.eval x = pv at hx
          cases hx with
          | pure h => cases h
          | ref _ _ _ cap l b ad k1 k2 k3 k4 k5 k6 =>
            rw [k1] at hl0
            obtain rfl := Option.some.inj hl0
            obtain ⟨b1, b2⟩ := bound cap k3
            have := run_bounds (P := P) (w := w) (len := n) (cap := cap) Bl Bh Bm hmh' (by omega) b1 b2 true
            have r := run_slice_val h1 h2 (ao := some ad) this
            rw [← hlv] at r
            refine ⟨_, r, ?_⟩
            have hszl := hok.sz
            by_cases hM : orN nm cap = lv
            · rw [if_pos hM]
              exact .ref κ _ _ _ l b ad k1 k2 (by omega) (by omega) (Nat.le_trans (Nat.add_le_add_left (Nat.mul_le_mul_right _ (by omega)) _) k5) (fun h => by omega)
            · rw [if_neg hM]
              refine .ref κ _ _ _ l b _ k1 k2 (by omega) (by omega) (Nat.le_trans (Nat.add_le_add_left (Nat.mul_le_mul_right _ (by omega)) _) k5) (fun h => ?_)
              rw [k6 (by omega)]
              show Addr.add _ _ = _
              rw [add_plain]
              congr 1
              rw [← h3, ← hsz, ← hszl, Nat.add_mul]
              omega
          | refnil _ l ao k1 k2 =>
            obtain ⟨b1, b2⟩ := bound 0 (Nat.le_refl _)
            have := run_bounds (P := P) (w := w) (len := 0) (cap := 0) Bl Bh Bm hmh' (by omega) b1 b2 true
            have r := run_slice_val h1 h2 (ao := ao) this
            rw [← hlv] at r
            refine ⟨_, r, ?_⟩
            have e1 : orN nh 0 - lv = 0 := by omega
            have e2 : orN nm 0 - lv = 0 := by omega
            have e4 : lv = 0 := by omega
            rw [e1, e2, e4]
            exact .refnil κ l _ k1 k2
        unfold refV at hB
        split at hB
        · obtain ⟨rfl, rfl⟩ := Prod.mk.inj hB
          obtain ⟨g1, g2⟩ := hp
          obtain ⟨g3, g4⟩ := hrng _ _ _ g1
          obtain ⟨rv, r1, r2⟩ := core 0 rfl (by omega) g4 g2
          exact hgo _ r1 (by simpa using r2)
        · rename_i lv
          obtain ⟨rfl, rfl⟩ := Prod.mk.inj hB
          obtain ⟨g1, g2⟩ := hp
          obtain ⟨g3, g4⟩ := hrng _ _ _ g1
          obtain ⟨rv, r1, r2⟩ := core lv rfl g3 g4 g2
          exact hgo _ r1 r2
      · exact (no_false hB hp).elim
    · exact (no_false hB hp).elim
  · exact (no_false hB hp).elim

theorem field_good {s : TypeId} {x : Operand} {j : Nat} {o : Oper} (ho : o.op = .field s x j) {fs : Array Field} {f : Field} (h1 : P.underlying s = some (.struct fs)) (h2 : fs[j]? = some f)
    {g : Bool} {n : Nat} (h3 : tAgg P f.type = some (g, n)) {cs : List DV} {v : DV} {ob : Prop} (hq : loadE g n f.offset (.agg cs) = (ob, v)) (hob : ob) (hx : RepK I β (.agg cs) (a.eval x)) : Good P I β w a o v := by
  unfold loadE at hq
  split at hq
  · rename_i hin
    obtain ⟨_, rfl⟩ := Prod.mk.inj hq
    rw [len_length] at hin
    simp only [cells] at hin
    have hr := hx.inv_agg
    generalize hv : a.eval x = pv at hr
    cases hr with
    | agg _ vs k1 k2 k3 =>
      have hgo : ∀ rv, (Go.part f.type vs f.offset).run P w = .ok rv w → Rep I (part g n (.agg cs) f.offset) rv → Good P I β w a o (part g n (.agg cs) f.offset) := by
        intro rv e1 e2
        exact ⟨rv, by simp [execOp, ho, hv, Instr.field, run_underlying h1, h2, asAgg, e1], .pure e2⟩
      unfold tAgg at h3
      have agg : ∀ d', P.underlying f.type = some d' → (match d' with | .struct _ | .array _ _ => True | _ => False) → (∃ i, tInfo P f.type = some i ∧ n = i.size) → g = true →
          Good P I β w a o (part g n (.agg cs) f.offset) := by
        rintro d' hd hm ⟨i, hi, rfl⟩ rfl
        have hagg : (isAgg f.type).run P w = .ok true w := by
          cases d' <;> simp at hm <;> simp [isAgg, run_underlying hd]
        refine hgo (.agg (vs.extract f.offset (f.offset + i.size))) (by simp [Go.part, hagg, sizeOf, typeInfo, show P.info? f.type = some i from hi]) ?_
        refine .agg _ _ ?_ ?_ ?_
        · simp only [takeN_take, dropN_drop, cells]; simp; omega
        · intro q hq
          simp only [takeN_take, dropN_drop, cells] at hq ⊢
          simp at hq
          rw [← takeN_take, ← dropN_drop, nth_drop_take _ _ _ _ (by omega)]
          exact k2 _ (by omega)
        · intro q hq
          simp only [takeN_take, dropN_drop, cells] at hq ⊢
          simp at hq
          rw [← takeN_take, ← dropN_drop, nth_drop_take _ _ _ _ (by omega)]
          have e : (vs.extract f.offset (f.offset + i.size)).getD q undef = vs.getD (f.offset + q) undef := by
            simp only [Array.getD_eq_getD_getElem?, Array.getElem?_extract]
            rw [if_pos (by omega)]
          rw [e]
          exact k3 _ (by omega)
      split at h3
      · rename_i f' i hd hi
        obtain ⟨rfl, rfl⟩ := Prod.mk.inj (Option.some.inj h3)
        exact agg _ hd trivial ⟨i, hi, rfl⟩ rfl
      · rename_i f' i hd hi
        obtain ⟨rfl, rfl⟩ := Prod.mk.inj (Option.some.inj h3)
        exact agg _ hd trivial ⟨i, hi, rfl⟩ rfl
      · rename_i d' i hns hna hd hi
        split at h3
        · obtain ⟨rfl, rfl⟩ := Prod.mk.inj (Option.some.inj h3)
          have hagg : (isAgg f.type).run P w = .ok false w := by
            cases d' <;> first | exact absurd rfl (hns _) | exact absurd rfl (hna _ _) | simp [isAgg, run_underlying hd]
          have hlt : f.offset < vs.size := by omega
          refine hgo (vs.getD f.offset undef) (by simp [Go.part, hagg, hlt, Array.getD]) ?_
          exact k3 _ (by omega)
        · cases h3
      · cases h3
  · exact (no_false hq hob).elim

theorem extract_good {x : Operand} {j : Nat} {o : Oper} (ho : o.op = .extract x j) {ds : List DV} (hj : j < ds.length) (hx : RepK I β (.tup ds) (a.eval x)) : Good P I β w a o (nth ds j) := by
  generalize hv : a.eval x = pv at hx
  cases hx with
  | pure h => cases h
  | tup _ vs h1 h2 =>
    have hlt : j < vs.size := by omega
    refine ⟨vs.getD j undef, by simp [execOp, ho, hv, Instr.extract, hlt, Array.getD], h2 j hj⟩

theorem makeFunc_good (hs : Sim C I β st a w) {g : FuncId} {xs ys : Array Operand} {as_ bs : List Arg} {o : Oper} (ho : o.op = .makeFunc (.func g) xs ys) (h1 : cArgs xs.toList = some as_) (h2 : cArgs ys.toList = some bs) :
    Good P I β w a o (.fn g (evL st as_) (evL st bs)) := by
  obtain ⟨a1, a2⟩ := args_rep h1 hs
  obtain ⟨b1, b2⟩ := args_rep h2 hs
  refine ⟨.func (.func g) (xs.map a.eval) (ys.map a.eval), by simp [execOp, ho, Instr.makeFunc], .fn g _ _ _ _ (by simp [a1]) (by simp [b1]) ?_ ?_⟩
  · intro j hj
    have := a2 j (by omega)
    simpa [Array.getD_eq_getD_getElem?, List.getD] using this
  · intro j hj
    have := b2 j (by omega)
    simpa [Array.getD_eq_getD_getElem?, List.getD] using this

theorem len_good (hs : Sim C I β st a w) {c : Call} {x : Operand} {t : TypeId} {o : Oper} (ho : o.op = .call c) (hcal : c.callee = .builtin .len) (hargs : c.args.toList = [x]) {ts : List TypeId} (hts : c.argTypes.toList = t :: ts)
    {sb : Bool} (ht : match sb with | true => P.underlying t = some .string | false => ∃ e, P.underlying t = some (.slice e)) {d v : DV} {ob : Prop} (hq : lenV (std P) sb d = (ob, v)) (hob : ob)
    (hx : RepK I β d (a.eval x)) : Good P I β w a o v := by
  have ha : c.args = #[x] := by rw [← Array.toArray_toList (xs := c.args), hargs]
  have htt : c.argTypes[0]? = some t := by rw [← Array.getElem?_toList, hts]; rfl
  have hgo : ∀ rv, (Builtin.len_ c.argTypes o.type #[a.eval x]).run P w = .ok rv w → RepK I β v rv → Good P I β w a o v := by
    intro rv h1 h2
    refine ⟨rv, ?_, h2⟩
    simp [execOp, ho, resolve, hcal, invoke, builtin, ha, h1]
  unfold lenV at hq
  split at hq
  · split at hq
    · rename_i s
      obtain ⟨_, rfl⟩ := Prod.mk.inj hq
      have e := hx.inv_str
      exact hgo (.int .i64 s.size) (by simp [Builtin.len_, htt, run_underlying ht, e, goInt]) (.pure (.int _ _))
    · exact (no_false hq hob).elim
  · obtain ⟨el, he⟩ := ht
    split at hq
    · rename_i sz t0 n f
      obtain ⟨_, rfl⟩ := Prod.mk.inj hq
      obtain ⟨ao, cap, hv, _⟩ := lst_at hs hx
      exact hgo (.int .i64 n) (by simp [Builtin.len_, htt, run_underlying he, hv, goInt]) (.pure (.int _ _))
    · rename_i κ o' n
      obtain ⟨_, rfl⟩ := Prod.mk.inj hq
      have hv : ∃ ao cap, a.eval x = .slice ao n cap := by
        generalize a.eval x = pv at hx
        cases hx with
        | pure h => cases h
        | ref => exact ⟨_, _, rfl⟩
        | refnil => exact ⟨_, _, rfl⟩
      obtain ⟨ao, cap, hv⟩ := hv
      exact hgo (.int .i64 n) (by simp [Builtin.len_, htt, run_underlying he, hv, goInt]) (.pure (.int _ _))
    · obtain ⟨_, rfl⟩ := Prod.mk.inj hq
      have hv := nils_val hx
      exact hgo (.int .i64 0) (by simp [Builtin.len_, htt, run_underlying he, hv, goInt]) (.pure (.int _ _))
    · exact (no_false hq hob).elim

theorem mm_good {f : Int → Int → Int} {g : Value → Value → Sem Value} (hg : ∀ k x y w, (g (.int k x) (.int k y)).run P w = .ok (.int k (f x y)) w) :
    ∀ (ds : List DV) (vs : List Value) (k : IntKind) (n : Int) (ob : Prop) (v : DV), mmV k f n ds = (ob, v) → ob → vs.length = ds.length → (∀ j < ds.length, RepK I β (nth ds j) (vs.getD j undef)) →
      ∃ rv, (vs.foldlM g (.int k n)).run P w = .ok rv w ∧ Rep I v rv
  | [], vs, k, n, ob, v, hq, hob, hl, hr => by
    have : vs = [] := List.eq_nil_of_length_eq_zero (by simpa using hl)
    subst this
    obtain ⟨_, rfl⟩ := Prod.mk.inj hq
    exact ⟨.int k n, rfl, .int _ _⟩
  | d :: ds, vs, k, n, ob, v, hq, hob, hl, hr => by
    cases vs with
    | nil => simp at hl
    | cons u us =>
      have h0 := hr 0 (by simp)
      simp only [nth, List.getD_cons_zero] at h0
      cases d with
      | int k' b =>
        simp only [mmV] at hq
        split at hq
        · rename_i hk
          subst hk
          obtain rfl := h0.inv_int
          obtain ⟨rv, h1, h2⟩ := mm_good hg ds us k (f n b) ob v hq hob (by simpa using hl) (fun j hj => by simpa [nth] using hr (j + 1) (by simpa using hj))
          exact ⟨rv, by simp [List.foldlM_cons, hg, h1], h2⟩
        · exact (no_false hq hob).elim
      | _ => exact (no_false hq hob).elim

theorem mm0_good {f : Int → Int → Int} {g : Value → Value → Sem Value} (hg : ∀ k x y w, (g (.int k x) (.int k y)).run P w = .ok (.int k (f x y)) w)
    {ds : List DV} {vs : List Value} {ob : Prop} {v : DV} (hq : mmV0 f ds = (ob, v)) (hob : ob) (hl : vs.length = ds.length) (hr : ∀ j < ds.length, RepK I β (nth ds j) (vs.getD j undef)) :
    ∃ x rest rv, vs = x :: rest ∧ (rest.foldlM g x).run P w = .ok rv w ∧ Rep I v rv := by
  cases ds with
  | nil => exact (no_false hq hob).elim
  | cons d ds =>
    cases vs with
    | nil => simp at hl
    | cons u us =>
      have h0 := hr 0 (by simp)
      simp only [nth, List.getD_cons_zero] at h0
      cases d with
      | int k n =>
        obtain rfl := h0.inv_int
        obtain ⟨rv, h1, h2⟩ := mm_good hg ds us k n ob v hq hob (by simpa using hl) (fun j hj => by simpa [nth] using hr (j + 1) (by simpa using hj))
        exact ⟨_, us, rv, rfl, h1, h2⟩
      | _ => exact (no_false hq hob).elim

theorem max_good (hs : Sim C I β st a w) {c : Call} {xs : List Arg} {o : Oper} (ho : o.op = .call c) (hcal : c.callee = .builtin .max) (hargs : cArgs c.args.toList = some xs) {v : DV} {ob : Prop}
    (hq : mmV0 (std P .imax) (evL st xs) = (ob, v)) (hob : ob) : Good P I β w a o v := by
  obtain ⟨a1, a2⟩ := args_rep hargs hs
  obtain ⟨x, rest, rv, h1, h2, h3⟩ := mm0_good (P := P) (w := w) (g := Builtin.max2) (fun k x y w => by simp [Builtin.max2, std]) hq hob (vs := c.args.toList.map a.eval) (by simpa using a1.symm) (fun j hj => a2 j (by omega))
  refine ⟨rv, ?_, .pure h3⟩
  have e : (c.args.map a.eval).toList = x :: rest := by simpa using h1
  simp [execOp, ho, resolve, hcal, invoke, builtin, Builtin.max_, h1, h2]
theorem min_good (hs : Sim C I β st a w) {c : Call} {xs : List Arg} {o : Oper} (ho : o.op = .call c) (hcal : c.callee = .builtin .min) (hargs : cArgs c.args.toList = some xs) {v : DV} {ob : Prop}
    (hq : mmV0 (std P .imin) (evL st xs) = (ob, v)) (hob : ob) : Good P I β w a o v := by
  obtain ⟨a1, a2⟩ := args_rep hargs hs
  obtain ⟨x, rest, rv, h1, h2, h3⟩ := mm0_good (P := P) (w := w) (g := Builtin.min2) (fun k x y w => by simp [Builtin.min2, std]) hq hob (vs := c.args.toList.map a.eval) (by simpa using a1.symm) (fun j hj => a2 j (by omega))
  refine ⟨rv, ?_, .pure h3⟩
  simp [execOp, ho, resolve, hcal, invoke, builtin, Builtin.min_, h1, h2]
end
end Go.Sx
