import Derived.Test.YtppaakckfolhlaaSxLoud4
import Derived.Deep.Upon
namespace Go.Sx

section
variable {P : Program} {md : Modes} {C : Ctx} {I : Imm} {β : Nat → Option Loc} {st : St} {a : Act} {w : World}

theorem SlAt.first {es m : Nat} {g : Nat → DV} {ao : Option Addr} {cap : Nat} (h : SlAt I w es m g ao cap) (hes : 0 < es) (P : Program) :
    ∃ olds, CellsOf I es m g olds ∧ (Builtin.firstCells es m (.slice ao m cap)).run P w = .ok olds.toArray w ∧ (Builtin.firstCells es m (.slice ao m cap)).run P w.drew = .ok olds.toArray w.drew := by
  obtain ⟨olds, h1, h2, h3⟩ := h.cells hes
  refine ⟨olds, h1, ?_⟩
  cases ao with
  | some ad => exact ⟨run_firstCells_some w es m ad m cap olds h1.len (h3 ad rfl), run_firstCells_some w.drew es m ad m cap olds h1.len (by simpa using h3 ad rfl)⟩
  | none =>
    have hm0 : m = 0 := by
      rcases Nat.eq_zero_or_pos m with h0 | h0
      · exact h0
      · obtain ⟨b, o, hh, _⟩ := h.at_ h0; cases hh
    rw [h2 hm0]
    exact ⟨run_firstCells_none w es m m cap, run_firstCells_none w.drew es m m cap⟩

theorem append_grow (hs : Sim C I β st a w) {κ : Nat} (hκ : κ < refKey) (hl : look st.σ κ = none) {t tx ty e : TypeId} {i : TypeInfo} {z : Value} (ht : P.underlying t = some (.slice e)) (hi : P.info? e = some i) (hz : i.zero = some z)
    (hpos : 0 < i.size) (hby : 0 < i.bytes) (hzs : z.cells.size = i.size) {base : Option Addr} {n cap m : Nat} {f g : Nat → DV} (hA : SlAt I w i.size n f base cap) {x : Value} {news : List Value}
    (hsrc : Src P i.size tx x m news w) (hn : CellsOf I i.size m g news) (hg : cap < n + m) (hroom : (n + m) * i.bytes ≤ 140737488355328) {K : DV → St → Prop}
    (hK : K (.ref κ 0 (n + m)) ⟨st.T, ins st.σ κ (.arr i.size (n + m) (appFF n f g))⟩) :
    ∃ v w', (Builtin.append_ #[t, tx] ty #[.slice base n cap, x]).run P w = .ok v w' ∧ Lands C a K v w' := by
  obtain ⟨olds, ho, _, hold⟩ := hA.first hpos P
  have hle : (n + m) ≤ (n + m) * i.bytes := Nat.le_mul_of_pos_right _ hby
  have hnc := nextcap_le (n + m) cap hg
  have hfit : Builtin.nextslicecap (n + m) cap * i.bytes ≤ 281474976710656 := by
    have := Nat.mul_le_mul_right i.bytes hnc
    rw [Nat.mul_assoc] at this
    omega
  have hrun := run_append_grow_src (P := P) w t tx ty e i z ht hi hz base n cap olds hold x m news hsrc hg (by omega) hfit
  have hge := grownCap_ge w (n + m) cap e
  obtain ⟨g1, g2⟩ := grown_row (hs.drew) hκ hl hpos ho hn (rest := Builtin.zeroCells z.cells (grownCap w (n + m) cap e - (n + m))) (ty := e) hge (by rw [size_zeroCells, hzs])
  exact ⟨_, _, hrun, I, _, _, _, g1, g2, hK⟩

/-- The empty row of nil. -/
theorem Sim.nilRow (h : Sim C I β st a w) {κ es : Nat} {f : Nat → DV} (hκ : κ < refKey) (hn : look st.σ κ = none) (hes : 0 < es) {K : DV → St → Prop} (ao : Option Addr)
    (hK : K (.ref κ 0 0) ⟨st.T, ins st.σ κ (.arr es 0 f)⟩) : Lands C a K (.slice ao 0 0) w := by
  obtain ⟨s1, _⟩ := h.newRow (r := .arr es 0 f) (l := ⟨none, 0, es, 0, 0⟩) hκ hn (Frm.refl w _) (fun b hb => by cases hb)
    { sz := rfl, n := rfl, pos := hes, at_ := (fun b hb => by cases hb), nil := (fun _ => rfl) }
  exact ⟨I, _, _, _, s1, .refnil κ ⟨none, 0, es, 0, 0⟩ ao (by simp [updB]) rfl, hK⟩

theorem appFF_zero (f g : Nat → DV) : appFF 0 f g = g := by funext i; simp [appFF]

/-- In place. -/
theorem append_room (hs : Sim C I β st a w) {κ k : Nat} (hκ : κ < refKey) (hk : k < refKey) {t tx ty e : TypeId} {i : TypeInfo} (ht : P.underlying t = some (.slice e)) (hi : P.info? e = some i)
    {sz n0 : Nat} {f : Nat → DV} (hr : look st.σ k = some (.arr sz n0 f)) (hsz : sz = i.size) (hl : look (del st.σ k) κ = none) {l : Loc} (hβ : β k = some l) {b : Nat} (hb : l.blk = some b) {o n cap m : Nat} {ad : Addr} (h3 : n ≤ cap) (h4 : o + n ≤ l.n) (h5 : l.off + (o + cap) * l.sz ≤ l.tot) (hcap : 0 < cap) (had : ad = ⟨b, l.off + o * l.sz, none⟩)
    {x : Value} {news : List Value} {g : Nat → DV} (hsrc : Src P i.size tx x m news w) (hn : CellsOf I i.size m g news) (hg : n + m ≤ cap) {K : DV → St → Prop}
    (hK : K (.ref κ 0 (n + m)) ⟨killL k st.T, ins (del st.σ k) κ (.arr i.size (n + m) (appFF n (shift o f) g))⟩) :
    ∃ v w', (Builtin.append_ #[t, tx] ty #[.slice (some ad) n cap, x]).run P w = .ok v w' ∧ Lands C a K v w' := by
  subst hsz
  obtain ⟨l', hl', hrow⟩ := hs.rows.rows k _ hr
  rw [hβ] at hl'
  obtain rfl := Option.some.inj hl'
  have hA := hrow.at_ b hb
  have hlsz : l.sz = i.size := hrow.sz
  have hln : l.n = n0 := hrow.n
  rw [hlsz] at h5 had
  have hnl := hn.len
  have hbd : l.off + o * i.size + n * i.size + m * i.size ≤ l.tot := by
    have := Nat.mul_le_mul_right i.size (show o + n + m ≤ o + cap by omega)
    rw [Nat.add_mul, Nat.add_mul] at this
    omega
  have hrun := run_append_room_src (P := P) w t tx ty e i ht hi b (l.off + o * i.size) n cap x m news hsrc hg (fun j hj => hA.there _ (by omega)) (fun j hj => hA.free _ (by omega))
  rw [had]
  refine ⟨_, _, hrun, ?_⟩
  -- the new row
  have hin : ∀ j < news.length, (w.setCells b (l.off + o * i.size + n * i.size) news).cell? ⟨b, l.off + o * i.size + n * i.size + j, none⟩ = some (news.getD j undef) := by
    intro j hj
    rw [World.cell?_setCells_in b news _ w (fun j hj => hA.there _ (by omega)) j hj]
    simp [List.getD, hj]
  have hout : ∀ q, (q < l.off + o * i.size + n * i.size ∨ l.off + o * i.size + n * i.size + news.length ≤ q) → (w.setCells b (l.off + o * i.size + n * i.size) news).cell? ⟨b, q, none⟩ = w.cell? ⟨b, q, none⟩ := by
    intro q hq
    exact World.cell?_setCells_out b news _ w _ (fun _ _ => hq)
  have hposz := hrow.pos
  simp only [Row.sz] at hposz
  have hA' : RowAt I (w.setCells b (l.off + o * i.size + n * i.size) news) ⟨some b, l.off + o * i.size, i.size, n + m, l.tot⟩ (.arr i.size (n + m) (appFF n (shift o f) g)) b := by
    refine ⟨?_, ?_, ?_, ?_, hA.apart, ?_⟩
    · intro j hj
      by_cases hq : l.off + o * i.size + n * i.size ≤ j ∧ j < l.off + o * i.size + n * i.size + news.length
      · have := hin (j - (l.off + o * i.size + n * i.size)) (by omega)
        rw [show l.off + o * i.size + n * i.size + (j - (l.off + o * i.size + n * i.size)) = j by omega] at this
        rw [this]; rfl
      · rw [hout j (by omega)]; exact hA.there j hj
    · intro q j hq hj
      simp only [Row.n] at hq
      simp only [Row.sz, Row.f] at hj ⊢
      unfold appFF
      by_cases hqn : q < n
      · rw [if_pos hqn, shift_eq]
        obtain ⟨u, h7, h8⟩ := hA.val (o + q) j (by simp only [Row.n]; omega) hj
        refine ⟨u, ?_, h8⟩
        simp only [Row.sz] at h7
        have := mul_lt (sz := i.size) (q := 0) hqn hj
        rw [hout _ (by omega), ← h7]
        congr 2
        rw [Nat.add_mul]; omega
      · rw [if_neg hqn]
        have hge : n * i.size ≤ q * i.size := Nat.mul_le_mul_right _ (by omega)
        have hlt := mul_lt (sz := i.size) (q := 0) (show q - n < m by omega) hj
        have e1 : (q - n) * i.size = q * i.size - n * i.size := Nat.sub_mul _ _ _
        refine ⟨_, ?_, hn.rep (q - n) j (by omega) hj⟩
        rw [← hin _ (by omega)]
        congr 2
        omega
    · intro q hq
      rw [World.frozen?_setCells]
      exact hA.free q hq
    · simp only [Row.n, Row.sz, Nat.add_mul]; omega
    · intro q hq
      simp only [Row.n, Row.sz, Row.f] at hq ⊢
      unfold appFF
      split
      · rw [shift_eq]; exact hA.elem _ (by simp only [Row.n]; omega)
      · exact hn.elem _ (by omega)
  obtain ⟨s1, _⟩ := (hs.kill k).newRow (r := .arr i.size (n + m) (appFF n (shift o f) g)) (l := ⟨some b, l.off + o * i.size, i.size, n + m, l.tot⟩) hκ hl
    (w' := w.setCells b (l.off + o * i.size + n * i.size) news) (Frm.setCells w b _ _ _ (.inr rfl)) (fun b' hb' => by
      obtain rfl := Option.some.inj hb'
      refine ⟨hs.own k l b hk hβ hb, ?_, fun κ' l' h1 h2 => ?_⟩
      · rw [setCells_size]; exact hs.rows.lt k l b hβ hb
      · split at h1
        · cases h1
        · rename_i hne; exact hs.rows.sep κ' k l' l b hne h1 hβ h2 hb)
    ⟨rfl, rfl, hposz, fun b' hb' => by obtain rfl := Option.some.inj hb'; exact hA', fun hb' => by cases hb'⟩
  refine ⟨I, _, _, _, s1, ?_, hK⟩
  have := RepK.ref (I := I) (β := updB (fun k' => if k' = k then none else β k') κ ⟨some b, l.off + o * i.size, i.size, n + m, l.tot⟩) κ 0 (n + m) cap ⟨some b, l.off + o * i.size, i.size, n + m, l.tot⟩ b ⟨b, l.off + o * i.size, none⟩ (by simp [updB]) rfl hg (by simp)
    (by simp only [Nat.zero_add]; rw [Nat.add_mul] at h5; omega) (fun _ => by simp)
  exact this

theorem append_lands (hs : Sim C I β st a w) {t tx e : TypeId} {c : Call} {o : Oper} (ho : o.op = .call c) (hcal : c.callee = .builtin .append) {xo yo : Operand} (hargs : c.args.toList = [xo, yo]) (htys : c.argTypes.toList = [t, tx])
    (ht : P.underlying t = some (.slice e)) {es by_ : Nat} {zd : DV} (hz : cZero P e = some (es, by_, zd)) (hby : 0 < by_) (htx : (∃ e', P.underlying tx = some (.slice e')) ∨ P.underlying tx = some .string)
    {p q : Arg} (hp : cArg xo = some p) (hq : cArg yo = some q) {κ : Nat} {K : DV → St → Prop} (hK : appendV (std P) es by_ κ (ev st p) (ev st q) st K) :
    ∃ v w', (execOp a.eval o).run P w = .ok (.value v) w' ∧ Lands C a K v w' := by
  obtain ⟨i, z, h1, h2, rfl, rfl, h4, h5, h6⟩ := cZero_ok hz
  have hzs : z.cells.size = i.size := ((h6 I).cells h5).1
  have ha : c.args = #[xo, yo] := by rw [← Array.toArray_toList (xs := c.args), hargs]
  have hta : c.argTypes = #[t, tx] := by rw [← Array.toArray_toList (xs := c.argTypes), htys]
  have hgo : (∃ v w', (Builtin.append_ #[t, tx] o.type #[a.eval xo, a.eval yo]).run P w = .ok v w' ∧ Lands C a K v w') → ∃ v w', (execOp a.eval o).run P w = .ok (.value v) w' ∧ Lands C a K v w' := by
    rintro ⟨v, w', e1, e2⟩
    exact ⟨v, w', by simp [execOp, ho, resolve, hcal, invoke, builtin, ha, hta, e1], e2⟩
  apply hgo
  have hpx := arg_rep hp hs
  have hqx := arg_rep hq hs
  unfold appendV at hK
  split at hK
  · exact hK.elim
  · rename_i m g hc
    obtain ⟨news, hsrc, hn⟩ := cont_src (P := P) hs h4 hc hqx htx
    have hnil : m = 0 → news = [] := fun h => by
      have := hn.len
      rw [h, Nat.zero_mul] at this
      exact List.eq_nil_of_length_eq_zero this
    have nothing : ∀ (base : Option Addr) (st' : St) (f : Nat → DV), m = 0 → Sim C I β st' a w → addRow st' κ (.arr i.size m f) (fun st => K (.ref κ 0 m) st) →
        ∃ v w', (Builtin.append_ #[t, tx] o.type #[.slice base 0 0, a.eval yo]).run P w = .ok v w' ∧ Lands C a K v w' := by
      intro base st' f hm hs' hk
      have hn' := hnil hm
      subst hm
      rw [hn'] at hsrc
      obtain ⟨r1, r2, r3⟩ := addRow_iff hk
      exact ⟨_, _, run_append_nothing w t tx o.type e i ht h1 base 0 0 (Nat.le_refl _) _ hsrc, hs'.nilRow r1 r2 h4 base r3⟩
    split at hK
    · rename_i hev
      obtain ⟨hrm, hk⟩ := hK
      simp only [std] at hrm
      rw [hev] at hpx
      rw [nils_val hpx]
      by_cases hm : m = 0
      · exact nothing none st g hm hs hk
      · obtain ⟨r1, r2, r3⟩ := addRow_iff hk
        refine append_grow hs r1 r2 ht h1 h2 h4 hby hzs (f := fun _ => .junk) (n := 0) (cap := 0) ⟨Nat.le_refl _, fun i hi => by omega, fun h => by omega⟩ hsrc hn (by omega) (by simpa using hrm) ?_
        rw [appFF_zero, Nat.zero_add]
        exact r3
    · rename_i sz tg n f hev
      obtain ⟨hsz, htg, hokk, hrm, hk⟩ := hK
      simp only [std] at htg hokk hrm hk
      rw [hev] at hpx
      obtain ⟨ao, cap, hv, hA, hcap, _⟩ := lst_at hs hpx
      rw [hv]
      have hcn := hcap htg
      subst hsz
      by_cases hm : m = 0
      · obtain rfl : n = 0 := by omega
        subst hcn
        rw [Nat.zero_add] at hk
        exact nothing ao st _ hm hs hk
      · obtain ⟨r1, r2, r3⟩ := addRow_iff hk
        exact append_grow hs r1 r2 ht h1 h2 h4 hby hzs hA hsrc hn (by omega) hrm r3
    · rename_i k o' n hev
      split at hK
      · rename_i sz n0 f hr
        obtain ⟨hsz, hkk, hrm, hk⟩ := hK
        simp only [std] at hrm hk
        rw [hev] at hpx
        obtain ⟨r1, r2, r3⟩ := addRow_iff hk
        have grow : ∀ ao cap, a.eval xo = .slice ao n cap → SlAt I w i.size n (shift o' f) ao cap → cap < n + m → ∃ v w', (Builtin.append_ #[t, tx] o.type #[a.eval xo, a.eval yo]).run P w = .ok v w' ∧ Lands C a K v w' := by
          intro ao cap hv hA hlt
          rw [hv]
          exact append_grow (hs.kill k) r1 r2 ht h1 h2 h4 hby hzs hA hsrc hn hlt hrm r3
        obtain ⟨ao, cap, hv, hA, _, _⟩ := ref_at hs hr hpx
        rw [show (Row.arr sz n0 f).sz = i.size from hsz] at hA
        by_cases hlt : cap < n + m
        · exact grow ao cap hv hA hlt
        · rw [hv] at hpx ⊢
          cases hpx with
          | pure h => cases h
          | ref _ _ _ _ l b ad g1 g2 g3 g4 g5 g6 =>
            by_cases hc0 : cap = 0
            · subst hc0
              obtain ⟨rfl, hm⟩ : n = 0 ∧ m = 0 := by omega
              subst hm
              have hn' := hnil rfl
              rw [hn'] at hsrc
              exact ⟨_, _, run_append_nothing w t tx o.type e i ht h1 (some ad) 0 0 (Nat.le_refl _) _ hsrc, (hs.kill k).nilRow r1 r2 h4 (some ad) r3⟩
            · exact append_room hs r1 hkk ht h1 hr hsz r2 g1 g2 g3 g4 g5 (by omega) (g6 (by omega)) hsrc hn (by omega) r3
          | refnil _ l ao g1 g2 =>
            have hm : m = 0 := by omega
            subst hm
            have hn' := hnil rfl
            rw [hn'] at hsrc
            exact ⟨_, _, run_append_nothing w t tx o.type e i ht h1 ao 0 0 (Nat.le_refl _) _ hsrc, (hs.kill k).nilRow r1 r2 h4 ao r3⟩
      · exact hK.elim
    · exact hK.elim
end
end Go.Sx
