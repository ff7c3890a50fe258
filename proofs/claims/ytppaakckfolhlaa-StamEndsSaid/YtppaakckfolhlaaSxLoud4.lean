import Derived.Test.YtppaakckfolhlaaSxLoud3
namespace Go.Sx

section
variable {P : Program} {md : Modes} {C : Ctx} {I : Imm} {β : Nat → Option Loc} {st : St} {a : Act} {w : World}

/-- Cells of elements, as a list. -/
structure CellsOf (I : Imm) (es m : Nat) (g : Nat → DV) (news : List Value) : Prop where
  len : news.length = m * es
  one : ∀ u ∈ news, u.oneCell' = true
  rep : ∀ i j, i < m → j < es → Rep I (nth (cells (g i)) j) (news.getD (i * es + j) undef)
  elem : ∀ i < m, elemOk es (g i)

theorem divmod {k es m : Nat} (hes : 0 < es) (h : k < m * es) : k / es < m ∧ k % es < es ∧ k / es * es + k % es = k := by
  refine ⟨(Nat.div_lt_iff_lt_mul hes).2 h, Nat.mod_lt _ hes, ?_⟩
  rw [Nat.mul_comm]; exact Nat.div_add_mod k es

theorem SlAt.cells {es m : Nat} {g : Nat → DV} {ao : Option Addr} {cap : Nat} (h : SlAt I w es m g ao cap) (hes : 0 < es) :
    ∃ news, CellsOf I es m g news ∧ (m = 0 → news = []) ∧ (∀ ad, ao = some ad → ∀ j u, news[j]? = some u → w.cell? (ad.add j) = some u) := by
  rcases Nat.eq_zero_or_pos m with h0 | h0
  · subst h0
    exact ⟨[], ⟨by simp, fun u hu => (by cases hu), fun i j hi => (by omega), fun i hi => (by omega)⟩, fun _ => rfl, fun ad _ j u hj => (by simp at hj)⟩
  · obtain ⟨b, o, rfl, hc⟩ := h.at_ h0
    refine ⟨(List.range (m * es)).map fun k => (w.cell? ⟨b, o + k, none⟩).getD undef, ⟨by simp, ?_, ?_, h.elem⟩, fun h => by omega, ?_⟩
    · intro u hu
      obtain ⟨k, hk, rfl⟩ := List.mem_map.1 hu
      obtain ⟨d1, d2, d3⟩ := divmod hes (by simpa using hk)
      obtain ⟨v, h1, h2⟩ := hc _ _ d1 d2
      rw [Nat.add_assoc, d3] at h1
      rw [h1]
      exact (h2.one ((h.elem _ d1).2 _ d2)).1
    · intro i j hi hj
      have hlt : i * es + j < m * es := mul_lt (q := 0) hi hj
      obtain ⟨v, h1, h2⟩ := hc i j hi hj
      rw [Nat.add_assoc] at h1
      simp only [List.getD, List.getElem?_map, List.getElem?_range hlt, Option.map_some, Option.getD_some, h1]
      exact h2
    · rintro ad had j u hj
      obtain rfl := Option.some.inj had
      rw [add_plain]
      have hlt : j < m * es := by
        rcases Nat.lt_or_ge j (m * es) with h | h
        · exact h
        · rw [List.getElem?_eq_none (by simpa using h)] at hj; cases hj
      simp only [List.getElem?_map, List.getElem?_range hlt, Option.map_some, Option.some.injEq] at hj
      obtain ⟨d1, d2, d3⟩ := divmod hes hlt
      obtain ⟨v, h1, _⟩ := hc _ _ d1 d2
      rw [Nat.add_assoc, d3] at h1
      rw [h1] at hj ⊢
      exact congrArg some hj

/-- What an append's second argument yields. -/
theorem cont_src (hs : Sim C I β st a w) {es m : Nat} {g : Nat → DV} {x : DV} {v : Value} (hes : 0 < es) (hc : cont (std P) st es x = some (m, g)) (h : RepK I β x v) {tx : TypeId}
    (htx : (∃ e', P.underlying tx = some (.slice e')) ∨ P.underlying tx = some .string) :
    ∃ news, Src P es tx v m news w ∧ CellsOf I es m g news := by
  by_cases hstr : ∃ s, x = .str s
  · obtain ⟨s, rfl⟩ := hstr
    simp only [cont] at hc
    split at hc
    · rename_i hes1
      subst hes1
      obtain ⟨rfl, rfl⟩ := Prod.mk.inj (Option.some.inj hc)
      obtain rfl := h.inv_str
      refine ⟨byteCells s, ⟨htx, fun _ => rfl, firstCells_string s w, firstCells_string s w.drew, by rw [byteCells_length, Nat.mul_one]; rfl, fun u hu => by
        obtain ⟨_, _, rfl⟩ := List.mem_map.1 hu
        rfl⟩, ⟨by rw [byteCells_length]; simp [std], ?_, ?_, ?_⟩⟩
      · intro u hu
        obtain ⟨_, _, rfl⟩ := List.mem_map.1 hu
        rfl
      · intro i j hi hj
        have hj0 : j = 0 := by omega
        subst hj0
        simp only [std] at hi ⊢
        have e : (byteCells s).getD (i * 1 + 0) undef = .int .u8 (byteF s i) := by
          have hi' : i < s.data.toList.length := by simpa using hi
          simp only [byteCells, Nat.mul_one, Nat.add_zero, List.getD, List.getElem?_map, List.getElem?_eq_getElem hi', Option.map_some, Option.getD_some, byteF]
          rw [dif_pos hi]
          rfl
        rw [e]
        exact .int _ _
      · intro i _
        exact ⟨rfl, fun j hj => by
          have : j = 0 := by omega
          subst this; rfl⟩
    · cases hc
  · have hx : ∀ s, x ≠ .str s := fun s e => hstr ⟨s, e⟩
    obtain ⟨ao, cap, rfl, hA⟩ := cont_at hs hx hc h
    obtain ⟨news, hcells, hnil, hat⟩ := hA.cells hes
    refine ⟨news, ?_, hcells⟩
    cases ao with
    | some ad => exact ⟨htx, fun _ => rfl, run_firstCells_some w es m ad m cap news hcells.len (fun j u hj => hat ad rfl j u hj), run_firstCells_some w.drew es m ad m cap news hcells.len (by simpa using hat ad rfl), hcells.len, hcells.one⟩
    | none =>
      have hm0 : m = 0 := by
        rcases Nat.eq_zero_or_pos m with h0 | h0
        · exact h0
        · obtain ⟨b, o, hh, _⟩ := hA.at_ h0; cases hh
      subst hm0
      rw [hnil rfl]
      exact ⟨htx, fun _ => rfl, run_firstCells_none w es 0 0 cap, run_firstCells_none w.drew es 0 0 cap, by simp, fun _ h => by cases h⟩

theorem nextcap_le (n c : Nat) (h : c < n) : Builtin.nextslicecap n c ≤ 2 * n := by
  unfold Builtin.nextslicecap
  split
  · omega
  · split
    · omega
    · have grow : ∀ k c, c < n → Builtin.growBy n k c ≤ 2 * n + 192 → True := fun _ _ _ _ => trivial
      have key : ∀ k c, c < n → 256 ≤ c → Builtin.growBy n k c ≤ 2 * n := by
        intro k
        induction k with
        | zero => intro c hc _; simp only [Builtin.growBy]; omega
        | succ k ih =>
          intro c hc h256
          simp only [Builtin.growBy]
          rw [if_neg (by omega)]
          rcases Nat.lt_or_ge (c + (c + 768) / 4) n with hlt | hge
          · exact ih _ hlt (by omega)
          · cases k with
            | zero => simp only [Builtin.growBy]; omega
            | succ k => simp only [Builtin.growBy]; rw [if_pos hge]; omega
      exact key 4 c h (by omega)

theorem getD_append_cells {olds news zeros : List Value} {k : Nat} (h : k < olds.length + news.length) : (((olds ++ news).toArray ++ zeros.toArray : Array Value)).getD k undef = if k < olds.length then olds.getD k undef else news.getD (k - olds.length) undef := by
  simp only [Array.getD_eq_getD_getElem?, List.append_toArray, List.getElem?_toArray, List.getD]
  rw [List.getElem?_append_left (by simpa using h), List.getElem?_append]
  split <;> rfl

/-- A new row of old elements and new ones. -/
theorem grown_row (hs : Sim C I β st a w) {κ : Nat} (hκ : κ < refKey) (hl : look st.σ κ = none) {es n m : Nat} (hes : 0 < es) {f g : Nat → DV} {olds news : List Value} (ho : CellsOf I es n f olds) (hn : CellsOf I es m g news)
    {rest : Array Value} {ty : TypeId} {cap : Nat} (hcap : n + m ≤ cap) (hrest : rest.size = (cap - (n + m)) * es) :
    let arr := (olds ++ news).toArray ++ rest
    Sim C I (updB β κ ⟨some w.heap.size, 0, es, n + m, arr.size⟩) ⟨st.T, ins st.σ κ (.arr es (n + m) (appFF n f g))⟩ a (w.alloc (.cells arr ty)) ∧
      RepK I (updB β κ ⟨some w.heap.size, 0, es, n + m, arr.size⟩) (.ref κ 0 (n + m)) (.slice (some ⟨w.heap.size, 0, none⟩) (n + m) cap) := by
  intro arr
  have hlo := ho.len
  have hln := hn.len
  have hsz : arr.size = cap * es := by
    have e1 : arr.size = (olds ++ news).toArray.size + rest.size := Array.size_append
    rw [e1, hrest]
    simp only [List.size_toArray, List.length_append, hlo, hln]
    rw [← Nat.add_mul, ← Nat.add_mul]
    congr 1; omega
  have hnm : (n + m) * es = olds.length + news.length := by rw [Nat.add_mul, hlo, hln]
  have hle : (n + m) * es ≤ cap * es := Nat.mul_le_mul_right _ hcap
  have hgetD : ∀ k, k < olds.length + news.length → arr.getD k undef = if k < olds.length then olds.getD k undef else news.getD (k - olds.length) undef := by
    intro k hk
    have : arr = (olds ++ news).toArray ++ rest.toList.toArray := by simp [arr]
    rw [this]
    exact getD_append_cells hk
  have helem : ∀ i < n + m, elemOk es (appFF n f g i) := by
    intro i hi
    unfold appFF
    split
    · rename_i h; exact ho.elem i h
    · exact hn.elem _ (by omega)
  refine ⟨(hs.alloc (r := .arr es (n + m) (appFF n f g)) (arr := arr) (ty := ty) hκ hl hes (by simp only [Row.n, Row.sz]; omega) helem ?_).1, ref_new hcap (Nat.le_refl _) (by omega)⟩
  intro i j hi hj
  simp only [Row.n] at hi
  simp only [Row.sz, Row.f] at hj ⊢
  have hlt : i * es + j < (n + m) * es := mul_lt (q := 0) hi hj
  refine ⟨_, getElem?_of_getD (by omega), ?_⟩
  rw [hgetD _ (by omega)]
  unfold appFF
  by_cases hin : i < n
  · rw [if_pos hin, if_pos (by rw [hlo]; exact mul_lt (q := 0) hin hj)]
    exact ho.rep i j hin hj
  · have hge : n * es ≤ i * es := Nat.mul_le_mul_right _ (by omega)
    rw [if_neg hin, if_neg (by omega)]
    have := hn.rep (i - n) j (by omega) hj
    rw [Nat.sub_mul] at this
    rw [hlo, show i * es + j - n * es = i * es - n * es + j by omega]
    exact this
end
end Go.Sx
