import Derived.Test.YtppaakckfolhlaaSxSwap
namespace Go.Sx

section
variable {P : Program} {md : Modes} {C : Ctx} {I : Imm} {β : Nat → Option Loc} {st : St} {a : Act} {w : World}

/-! ### Any order -/
variable {ws : List Nat} {tb : List (List Nat)}
theorem unstrict {o : ROper} {b : Bool} (hs : o.strict = false) {K : St → Prop} (h : stepG (std P) (withS o b) st K) : stepG (std P) o st K := by
  rw [stepG_gd] at h ⊢
  refine gd_mono h (fun s hk => ?_) (fun s hk => hk)
  obtain ⟨od, oo, og, os⟩ := o
  dsimp only at hs
  subst hs
  cases b with
  | false => exact hk
  | true =>
    simp only [withS, stepV, stepV0] at hk ⊢
    cases hq : quietV (std P) s oo <;> simp only [hq] at hk ⊢
    exact hk.2.2
theorem base_strict {ops : Array Oper} (i : Nat) : (base P md ops i).strict = false := by
  unfold base
  split
  · unfold cOper
    split
    · rfl
    · split
      · rfl
      · split <;> rfl
  · rfl
theorem runV_mono : ∀ (l : List ROper) (st : St) (K K' : St → Prop), runV (std P) l st K → (∀ s, K s → K' s) → runV (std P) l st K'
  | [], _, _, _, h, hk => hk _ h
  | _ :: l, _, _, _, h, hk => stepG_mono h (fun s hs => runV_mono l s _ _ hs hk)

theorem pull {ops : Array Oper} {i : Nat} {B : List Nat} : ∀ (A : List Nat) (st : St) (K : St → Prop), (∀ j ∈ A, comm (ropT P md ops ws tb j) (ropT P md ops ws tb i) = true) → runV (std P) (pickO P md ops ws tb (A ++ i :: B)) st K →
    stepG (std P) (ropT P md ops ws tb i) st (fun s => runV (std P) (pickO P md ops ws tb (A ++ B)) s K)
  | [], st, K, _, h => h
  | j :: A, st, K, hc, h => by
    have h1 : stepG (std P) (ropT P md ops ws tb j) st (fun s => stepG (std P) (ropT P md ops ws tb i) s (fun s => runV (std P) (pickO P md ops ws tb (A ++ B)) s K)) :=
      stepG_mono (o := ropT P md ops ws tb j) h (fun s hs => pull A s K (fun j hj => hc j (by simp [hj])) hs)
    exact swap (hc j (by simp)) h1

inductive Reach (ops : Array Oper) : Nat → Nat → Prop
  | edge {e q} : e ∈ deps ops q → Reach ops e q
  | trans {p e q} : e ∈ deps ops q → Reach ops p e → Reach ops p q

theorem mem_onsOf {l : List Edge} {e : Nat} : e ∈ deps.onsOf l ↔ ∃ x ∈ l, Region.binds .any x = true ∧ x.on = e := by
  induction l with
  | nil => simp [deps.onsOf]
  | cons x l ih =>
    unfold deps.onsOf
    by_cases hb : Region.binds .any x = true
    · rw [if_pos hb, List.mem_cons, ih]
      constructor
      · rintro (rfl | ⟨y, h1, h2, h3⟩)
        · exact ⟨x, List.mem_cons_self .., hb, rfl⟩
        · exact ⟨y, List.mem_cons_of_mem _ h1, h2, h3⟩
      · rintro ⟨y, h1, h2, h3⟩
        rcases List.mem_cons.1 h1 with rfl | h1
        · exact .inl h3.symm
        · exact .inr ⟨y, h1, h2, h3⟩
    · rw [if_neg hb, ih]
      constructor
      · rintro ⟨y, h1, h2, h3⟩; exact ⟨y, List.mem_cons_of_mem _ h1, h2, h3⟩
      · rintro ⟨y, h1, h2, h3⟩
        rcases List.mem_cons.1 h1 with rfl | h1
        · exact absurd h2 hb
        · exact ⟨y, h1, h2, h3⟩

theorem mem_ready {ops : Array Oper} {listed : Array Bool} {i : Nat} : i ∈ Region.ready .any ops listed ↔ i < ops.size ∧ listed.getD i true = false ∧ ∀ e ∈ deps ops i, listed.getD e false = true := by
  unfold Region.ready
  rw [List.mem_filter, List.mem_range]
  refine and_congr_right fun hi => ?_
  have ho : ops[i]? = some ops[i] := by simp [hi]
  simp only [ho, Option.map_some, Option.getD_some, Bool.and_eq_true, Bool.not_eq_true']
  refine and_congr_right fun _ => ?_
  simp only [deps, ho]
  rw [Array.all_eq_true']
  constructor
  · intro h e he
    obtain ⟨x, h1, h2, rfl⟩ := mem_onsOf.1 he
    have := h x (by simpa using h1)
    simpa [h2] using this
  · intro h x hx
    by_cases hb : Region.binds .any x = true
    · have := h x.on (mem_onsOf.2 ⟨x, by simpa using hx, hb, rfl⟩)
      simp [this]
    · simp [hb]

theorem getD_set (l : Array Bool) (i j : Nat) (d : Bool) (hi : i < l.size) : (l.setIfInBounds i true).getD j d = if j = i then true else l.getD j d := by
  simp only [Array.getD_eq_getD_getElem?, Array.getElem?_setIfInBounds]
  by_cases h : i = j
  · subst h; simp [hi]
  · rw [if_neg h, if_neg (fun e => h e.symm)]

/-- What remains to be done. -/
structure Left (P : Program) (md : Modes) (ws : List Nat) (tb : List (List Nat)) (ops : Array Oper) (listed : Array Bool) (R : List Nat) : Prop where
  size : listed.size = ops.size
  iff : ∀ i < ops.size, listed.getD i true = false ↔ i ∈ R
  lt : ∀ i ∈ R, i < ops.size
  nodup : R.Nodup
  bound : ∀ j < ops.size, ∀ e ∈ deps ops j, e < ops.size ∧ e ≠ j
  closed : ∀ j < ops.size, j ∉ R → ∀ e ∈ deps ops j, e ∉ R
  topo : R.Pairwise fun j e => e ∉ deps ops j
  pairs : R.Pairwise fun i j => Reach ops i j ∨ comm (ropT P md ops ws tb i) (ropT P md ops ws tb j) = true

theorem Left.reach {ops : Array Oper} {listed : Array Bool} {R : List Nat} (h : Left P md ws tb ops listed R) {p q : Nat} (hr : Reach ops p q) : (∀ e ∈ deps ops q, e < ops.size ∧ e ∉ R) → p ∉ R := by
  induction hr with
  | edge he => exact fun hq => (hq _ he).2
  | trans he _ ih =>
    intro hq
    obtain ⟨h1, h2⟩ := hq _ he
    exact ih (fun e' he' => ⟨(h.bound _ h1 e' he').1, h.closed _ h1 h2 e' he'⟩)

theorem Left.listed {ops : Array Oper} {listed : Array Bool} {R : List Nat} (h : Left P md ws tb ops listed R) {e : Nat} (he : e < ops.size) : listed.getD e false = true ↔ e ∉ R := by
  rw [← h.iff e he]
  have : listed.getD e true = listed.getD e false := by
    have hs : e < listed.size := by rw [h.size]; exact he
    simp [Array.getD, hs]
  rw [this]; simp

theorem Left.ready {ops : Array Oper} {listed : Array Bool} {R : List Nat} (h : Left P md ws tb ops listed R) {i : Nat} : i ∈ Region.ready .any ops listed ↔ i ∈ R ∧ ∀ e ∈ deps ops i, e ∉ R := by
  rw [mem_ready]
  constructor
  · rintro ⟨h1, h2, h3⟩
    exact ⟨(h.iff i h1).1 h2, fun e he => (h.listed (h.bound i h1 e he).1).1 (h3 e he)⟩
  · rintro ⟨h1, h2⟩
    have hi := h.lt i h1
    exact ⟨hi, (h.iff i hi).2 h1, fun e he => (h.listed (h.bound i hi e he).1).2 (h2 e he)⟩

theorem Left.remove {ops : Array Oper} {listed : Array Bool} {A B : List Nat} {i : Nat} (h : Left P md ws tb ops listed (A ++ i :: B)) (hr : ∀ e ∈ deps ops i, e ∉ A ++ i :: B) : Left P md ws tb ops (listed.setIfInBounds i true) (A ++ B) := by
  have hsub : (A ++ B).Sublist (A ++ i :: B) := List.Sublist.append (List.Sublist.refl A) (List.sublist_cons_self i B)
  have hi := h.lt i (by simp)
  have hnd := h.nodup
  have hni : i ∉ A ++ B := by
    rw [List.nodup_append] at hnd
    obtain ⟨_, n2, n3⟩ := hnd
    intro hm
    rcases List.mem_append.1 hm with hm | hm
    · exact n3 i hm i (by simp) rfl
    · exact (List.nodup_cons.1 n2).1 hm
  have hmem : ∀ j, j ≠ i → (j ∈ A ++ B ↔ j ∈ A ++ i :: B) := by
    intro j hj
    simp [hj]
  refine ⟨by simp [h.size], ?_, fun j hj => h.lt j (hsub.subset hj), hsub.nodup h.nodup, h.bound, ?_, h.topo.sublist hsub, h.pairs.sublist hsub⟩
  · intro j hj
    rw [getD_set _ _ _ _ (by rw [h.size]; exact hi)]
    by_cases hji : j = i
    · subst hji; simp [hni]
    · rw [if_neg hji, hmem j hji, h.iff j hj]
  · intro j hj hjn e he hm
    by_cases hji : j = i
    · subst hji; exact hr e he (hsub.subset hm)
    · exact h.closed j hj (fun hm' => hjn ((hmem j hji).2 hm')) e he (hsub.subset hm)

theorem any_sound {ops : Array Oper} {K : St → Prop} {Q : Exit → Act → World → Prop} (hn : ∀ I β st a w, Sim C I β st a w → K st → Q .normal a w) :
    ∀ (fuel : Nat) (R : List Nat) (listed : Array Bool) {I : Imm} {β : Nat → Option Loc} {st : St} {a : Act} {w : World}, R.length = fuel → Left P md ws tb ops listed R → Sim C I β st a w → runV (std P) (pickO P md ops ws tb R) st K →
      wpAny P .any ops Q fuel listed a w
  | 0, R, listed, I, β, st, a, w, hl, hL, hs, hK => by
    obtain rfl := List.eq_nil_of_length_eq_zero hl
    refine ⟨?_, hn _ _ _ _ _ hs hK⟩
    rw [List.eq_nil_iff_forall_not_mem]
    intro i hi
    have := (hL.ready.1 hi).1
    cases this
  | fuel + 1, R, listed, I, β, st, a, w, hl, hL, hs, hK => by
    refine ⟨?_, ?_⟩
    · intro hnil
      cases R with
      | nil => cases hl
      | cons i B =>
        have hi := hL.lt i (by simp)
        have hready : i ∈ Region.ready .any ops listed := hL.ready.2 ⟨by simp, fun e he hm => by
          rcases List.mem_cons.1 hm with rfl | hm
          · exact (hL.bound _ hi _ he).2 rfl
          · exact (List.pairwise_cons.1 hL.topo).1 e hm he⟩
        rw [hnil] at hready
        cases hready
    · intro i hi
      obtain ⟨hiR, hdeps⟩ := hL.ready.1 hi
      obtain ⟨A, B, rfl⟩ := List.append_of_mem hiR
      have hcomm : ∀ j ∈ A, comm (ropT P md ops ws tb j) (ropT P md ops ws tb i) = true := by
        intro j hj
        have := (List.pairwise_append.1 hL.pairs).2.2 j hj i (by simp)
        rcases this with hr | hc
        · exact absurd (show j ∈ A ++ i :: B by simp [hj]) (hL.reach hr (fun e he => ⟨(hL.bound i (hL.lt i hiR) e he).1, hdeps e he⟩))
        · exact hc
      have hK' := pull (md := md) (ws := ws) (tb := tb) A st K hcomm hK
      have hilt := hL.lt i hiR
      have ho : ops[i]? = some ops[i] := by simp [hilt]
      unfold wpOp
      rw [ho]
      have hK2 := unstrict (base_strict i) hK'
      simp only [base, ho] at hK2
      refine oper_sound hs hK2 (fun I β st a w hs' hk => ?_)
      exact any_sound hn fuel (A ++ B) _ (by simp at hl ⊢; omega) (hL.remove hdeps) hs' hk
end
end Go.Sx
