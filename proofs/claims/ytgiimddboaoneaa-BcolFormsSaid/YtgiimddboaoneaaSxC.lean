import Derived.Test.YtgiimddboaoneaaSxB
namespace Go.Sx

section
variable {P : Program} {md : Modes} {C : Ctx} {I : Imm} {β : Nat → Option Loc} {st : St} {a : Act} {w : World}

/-! ### Any order -/
variable {ws : List Nat} {tb : List (List Nat)}
theorem unstrict {o : ROper} {b : Bool} (hs : o.strict = false) {K : St → Prop} (h : stepG (std P) (withS o b) st K) : stepG (std P) o st K := by
  rw [stepG_gd] at h ⊢
  refine gd_mono h (fun s hk => ?_) (fun s hk => hk)
  obtain ⟨od, oo, og, os⟩ := o
  dsimp only at hs
  subst hs
  cases b with
  | false => exact hk
  | true =>
    simp only [withS, stepV, stepV0] at hk ⊢
    cases hq : quietV (std P) s oo <;> simp only [hq] at hk ⊢
    exact hk.2.2
theorem base_strict {ops : Array Oper} (i : Nat) : (base P md ops i).strict = false := by
  unfold base
  split
  · unfold cOper
    split
    · rfl
    · split
      · rfl
      · split <;> rfl
  · rfl
theorem runV_mono : ∀ (l : List ROper) (st : St) (K K' : St → Prop), runV (std P) l st K → (∀ s, K s → K' s) → runV (std P) l st K'
  | [], _, _, _, h, hk => hk _ h
  | _ :: l, _, _, _, h, hk => stepG_mono h (fun s hs => runV_mono l s _ _ hs hk)

theorem pull {ops : Array Oper} {i : Nat} {B : List Nat} : ∀ (A : List Nat) (st : St) (K : St → Prop), (∀ j ∈ A, comm (ropT P md ops ws tb j) (ropT P md ops ws tb i) = true) → runV (std P) (pickO P md ops ws tb (A ++ i :: B)) st K →
    stepG (std P) (ropT P md ops ws tb i) st (fun s => runV (std P) (pickO P md ops ws tb (A ++ B)) s K)
  | [], st, K, _, h => h
  | j :: A, st, K, hc, h => by
    have h1 : stepG (std P) (ropT P md ops ws tb j) st (fun s => stepG (std P) (ropT P md ops ws tb i) s (fun s => runV (std P) (pickO P md ops ws tb (A ++ B)) s K)) :=
      stepG_mono (o := ropT P md ops ws tb j) h (fun s hs => pull A s K (fun j hj => hc j (by simp [hj])) hs)
    exact swap (hc j (by simp)) h1

inductive Reach (ops : Array Oper) : Nat → Nat → Prop
  | edge {e q} : e ∈ deps ops q → Reach ops e q
  | trans {p e q} : e ∈ deps ops q → Reach ops p e → Reach ops p q

theorem mem_onsOf {l : List Edge} {e : Nat} : e ∈ deps.onsOf l ↔ ∃ x ∈ l, Region.binds .any x = true ∧ x.on = e := by
  induction l with
  | nil => simp [deps.onsOf]
  | cons x l ih =>
    unfold deps.onsOf
    by_cases hb : Region.binds .any x = true
    · rw [if_pos hb, List.mem_cons, ih]
      constructor
      · rintro (rfl | ⟨y, h1, h2, h3⟩)
        · exact ⟨x, List.mem_cons_self .., hb, rfl⟩
        · exact ⟨y, List.mem_cons_of_mem _ h1, h2, h3⟩
      · rintro ⟨y, h1, h2, h3⟩
        rcases List.mem_cons.1 h1 with rfl | h1
        · exact .inl h3.symm
        · exact .inr ⟨y, h1, h2, h3⟩
    · rw [if_neg hb, ih]
      constructor
      · rintro ⟨y, h1, h2, h3⟩; exact ⟨y, List.mem_cons_of_mem _ h1, h2, h3⟩
      · rintro ⟨y, h1, h2, h3⟩
        rcases List.mem_cons.1 h1 with rfl | h1
        · exact absurd h2 hb
        · exact ⟨y, h1, h2, h3⟩

theorem mem_ready {ops : Array Oper} {listed : Array Bool} {i : Nat} : i ∈ Region.ready .any ops listed ↔ i < ops.size ∧ listed.getD i true = false ∧ ∀ e ∈ deps ops i, listed.getD e false = true := by
  unfold Region.ready
  rw [List.mem_filter, List.mem_range]
  refine and_congr_right fun hi => ?_
  have ho : ops[i]? = some ops[i] := by simp [hi]
  simp only [ho, Option.map_some, Option.getD_some, Bool.and_eq_true, Bool.not_eq_true']
  refine and_congr_right fun _ => ?_
  simp only [deps, ho]
  rw [Array.all_eq_true']
  constructor
  · intro h e he
    obtain ⟨x, h1, h2, rfl⟩ := mem_onsOf.1 he
    have := h x (by simpa using h1)
    simpa [h2] using this
  · intro h x hx
    by_cases hb : Region.binds .any x = true
    · have := h x.on (mem_onsOf.2 ⟨x, by simpa using hx, hb, rfl⟩)
      simp [this]
    · simp [hb]

theorem getD_set (l : Array Bool) (i j : Nat) (d : Bool) (hi : i < l.size) : (l.setIfInBounds i true).getD j d = if j = i then true else l.getD j d := by
  simp only [Array.getD_eq_getD_getElem?, Array.getElem?_setIfInBounds]
  by_cases h : i = j
  · subst h; simp [hi]
  · rw [if_neg h, if_neg (fun e => h e.symm)]

/-- What remains to be done. -/
structure Left (P : Program) (md : Modes) (ws : List Nat) (tb : List (List Nat)) (ops : Array Oper) (listed : Array Bool) (R : List Nat) : Prop where
  size : listed.size = ops.size
  iff : ∀ i < ops.size, listed.getD i true = false ↔ i ∈ R
  lt : ∀ i ∈ R, i < ops.size
  nodup : R.Nodup
  bound : ∀ j < ops.size, ∀ e ∈ deps ops j, e < ops.size ∧ e ≠ j
  closed : ∀ j < ops.size, j ∉ R → ∀ e ∈ deps ops j, e ∉ R
  topo : R.Pairwise fun j e => e ∉ deps ops j
  pairs : R.Pairwise fun i j => Reach ops i j ∨ comm (ropT P md ops ws tb i) (ropT P md ops ws tb j) = true

theorem Left.reach {ops : Array Oper} {listed : Array Bool} {R : List Nat} (h : Left P md ws tb ops listed R) {p q : Nat} (hr : Reach ops p q) : (∀ e ∈ deps ops q, e < ops.size ∧ e ∉ R) → p ∉ R := by
  induction hr with
  | edge he => exact fun hq => (hq _ he).2
  | trans he _ ih =>
    intro hq
    obtain ⟨h1, h2⟩ := hq _ he
    exact ih (fun e' he' => ⟨(h.bound _ h1 e' he').1, h.closed _ h1 h2 e' he'⟩)

theorem Left.listed {ops : Array Oper} {listed : Array Bool} {R : List Nat} (h : Left P md ws tb ops listed R) {e : Nat} (he : e < ops.size) : listed.getD e false = true ↔ e ∉ R := by
  rw [← h.iff e he]
  have : listed.getD e true = listed.getD e false := by
    have hs : e < listed.size := by rw [h.size]; exact he
    simp [Array.getD, hs]
  rw [this]; simp

theorem Left.ready {ops : Array Oper} {listed : Array Bool} {R : List Nat} (h : Left P md ws tb ops listed R) {i : Nat} : i ∈ Region.ready .any ops listed ↔ i ∈ R ∧ ∀ e ∈ deps ops i, e ∉ R := by
  rw [mem_ready]
  constructor
  · rintro ⟨h1, h2, h3⟩
    exact ⟨(h.iff i h1).1 h2, fun e he => (h.listed (h.bound i h1 e he).1).1 (h3 e he)⟩
  · rintro ⟨h1, h2⟩
    have hi := h.lt i h1
    exact ⟨hi, (h.iff i hi).2 h1, fun e he => (h.listed (h.bound i hi e he).1).2 (h2 e he)⟩

theorem Left.remove {ops : Array Oper} {listed : Array Bool} {A B : List Nat} {i : Nat} (h : Left P md ws tb ops listed (A ++ i :: B)) (hr : ∀ e ∈ deps ops i, e ∉ A ++ i :: B) : Left P md ws tb ops (listed.setIfInBounds i true) (A ++ B) := by
  have hsub : (A ++ B).Sublist (A ++ i :: B) := List.Sublist.append (List.Sublist.refl A) (List.sublist_cons_self i B)
  have hi := h.lt i (by simp)
  have hnd := h.nodup
  have hni : i ∉ A ++ B := by
    rw [List.nodup_append] at hnd
    obtain ⟨_, n2, n3⟩ := hnd
    intro hm
    rcases List.mem_append.1 hm with hm | hm
    · exact n3 i hm i (by simp) rfl
    · exact (List.nodup_cons.1 n2).1 hm
  have hmem : ∀ j, j ≠ i → (j ∈ A ++ B ↔ j ∈ A ++ i :: B) := by
    intro j hj
    simp [hj]
  refine ⟨by simp [h.size], ?_, fun j hj => h.lt j (hsub.subset hj), hsub.nodup h.nodup, h.bound, ?_, h.topo.sublist hsub, h.pairs.sublist hsub⟩
  · intro j hj
    rw [getD_set _ _ _ _ (by rw [h.size]; exact hi)]
    by_cases hji : j = i
    · subst hji; simp [hni]
    · rw [if_neg hji, hmem j hji, h.iff j hj]
  · intro j hj hjn e he hm
    by_cases hji : j = i
    · subst hji; exact hr e he (hsub.subset hm)
    · exact h.closed j hj (fun hm' => hjn ((hmem j hji).2 hm')) e he (hsub.subset hm)

theorem any_sound {ops : Array Oper} {K : St → Prop} {Q : Exit → Act → World → Prop} (hn : ∀ I β st a w, Sim C I β st a w → K st → Q .normal a w) :
    ∀ (fuel : Nat) (R : List Nat) (listed : Array Bool) {I : Imm} {β : Nat → Option Loc} {st : St} {a : Act} {w : World}, R.length = fuel → Left P md ws tb ops listed R → Sim C I β st a w → runV (std P) (pickO P md ops ws tb R) st K →
      wpAny P .any ops Q fuel listed a w
  | 0, R, listed, I, β, st, a, w, hl, hL, hs, hK => by
    obtain rfl := List.eq_nil_of_length_eq_zero hl
    refine ⟨?_, hn _ _ _ _ _ hs hK⟩
    rw [List.eq_nil_iff_forall_not_mem]
    intro i hi
    have := (hL.ready.1 hi).1
    cases this
  | fuel + 1, R, listed, I, β, st, a, w, hl, hL, hs, hK => by
    refine ⟨?_, ?_⟩
    · intro hnil
      cases R with
      | nil => cases hl
      | cons i B =>
        have hi := hL.lt i (by simp)
        have hready : i ∈ Region.ready .any ops listed := hL.ready.2 ⟨by simp, fun e he hm => by
          rcases List.mem_cons.1 hm with rfl | hm
          · exact (hL.bound _ hi _ he).2 rfl
          · exact (List.pairwise_cons.1 hL.topo).1 e hm he⟩
        rw [hnil] at hready
        cases hready
    · intro i hi
      obtain ⟨hiR, hdeps⟩ := hL.ready.1 hi
      obtain ⟨A, B, rfl⟩ := List.append_of_mem hiR
      have hcomm : ∀ j ∈ A, comm (ropT P md ops ws tb j) (ropT P md ops ws tb i) = true := by
        intro j hj
        have := (List.pairwise_append.1 hL.pairs).2.2 j hj i (by simp)
        rcases this with hr | hc
        · exact absurd (show j ∈ A ++ i :: B by simp [hj]) (hL.reach hr (fun e he => ⟨(hL.bound i (hL.lt i hiR) e he).1, hdeps e he⟩))
        · exact hc
      have hK' := pull (md := md) (ws := ws) (tb := tb) A st K hcomm hK
      have hilt := hL.lt i hiR
      have ho : ops[i]? = some ops[i] := by simp [hilt]
      unfold wpOp
      rw [ho]
      have hK2 := unstrict (base_strict i) hK'
      simp only [base, ho] at hK2
      refine oper_sound hs hK2 (fun I β st a w hs' hk => ?_)
      exact any_sound hn fuel (A ++ B) _ (by simp at hl ⊢; omega) (hL.remove hdeps) hs' hk
end
end Go.Sx
namespace Go.Sx

section
variable {P : Program} {md : Modes} {C : Ctx} {I : Imm} {β : Nat → Option Loc} {st : St} {a : Act} {w : World}

theorem nodupB_iff {l : List Nat} (h : nodupB l = true) : l.Nodup := by
  induction l with
  | nil => exact List.nodup_nil
  | cons i l ih =>
    simp only [nodupB, Bool.and_eq_true, Bool.not_eq_true', ← Bool.not_eq_true, mem_iff] at h
    exact List.nodup_cons.2 ⟨h.1, ih h.2⟩

theorem topo_spec {ops : Array Oper} : ∀ (l seen : List Nat), topo ops seen l = true → l.Nodup → (∀ x ∈ l, x ∉ seen) → (l.Pairwise fun j e => e ∉ deps ops j) ∧ ∀ j ∈ l, ∀ e ∈ deps ops j, (e ∈ seen ∨ e ∈ l) ∧ e ≠ j
  | [], seen, _, _, _ => ⟨.nil, fun j hj => by cases hj⟩
  | i :: l, seen, h, hn, hs => by
    simp only [topo, Bool.and_eq_true, List.all_eq_true, mem_iff] at h
    obtain ⟨h1, h2⟩ := h
    obtain ⟨n1, n2⟩ := List.nodup_cons.1 hn
    obtain ⟨k1, k2⟩ := topo_spec l (i :: seen) h2 n2 (fun x hx hm => by
      rcases List.mem_cons.1 hm with rfl | hm
      · exact n1 hx
      · exact hs x (by simp [hx]) hm)
    refine ⟨List.pairwise_cons.2 ⟨fun e he hd => hs e (by simp [he]) (h1 e hd), k1⟩, ?_⟩
    intro j hj e he
    rcases List.mem_cons.1 hj with rfl | hj
    · exact ⟨.inl (h1 e he), fun e' => hs e (by simp [e']) (h1 e he)⟩
    · obtain ⟨q1, q2⟩ := k2 j hj e he
      refine ⟨?_, q2⟩
      rcases q1 with q1 | q1
      · rcases List.mem_cons.1 q1 with rfl | q1
        · exact .inr (by simp)
        · exact .inl q1
      · exact .inr (by simp [q1])

def TabOk (ops : Array Oper) (acc : List (List Nat)) : Prop := ∀ q, ∀ p ∈ nthN acc q, Reach ops p q
theorem mem_without {r m : List Nat} {p : Nat} (h : p ∈ joinD.without r m) : p ∈ m ∨ p ∈ r := by
  induction m with
  | nil => exact .inr h
  | cons k l ih =>
    simp only [joinD.without] at h
    split at h
    · rcases ih h with h | h
      · exact .inl (by simp [h])
      · exact .inr h
    · rcases List.mem_cons.1 h with rfl | h
      · exact .inl (by simp)
      · rcases ih h with h | h
        · exact .inl (by simp [h])
        · exact .inr h
theorem nthN_snoc (acc : List (List Nat)) (x : List Nat) (q : Nat) : nthN (snoc acc x) q = if q = acc.length then x else nthN acc q := by
  induction acc generalizing q with
  | nil => cases q <;> simp [snoc, nthN]
  | cons l r ih => cases q with
    | zero => simp [snoc, nthN]
    | succ q => simp [snoc, nthN, ih]
theorem snoc_length (acc : List (List Nat)) (x : List Nat) : (snoc acc x).length = acc.length + 1 := by induction acc <;> simp [snoc, *]

theorem unionD_spec {ops : Array Oper} {acc : List (List Nat)} (h : TabOk ops acc) {i : Nat} : ∀ (l : List Nat), (∀ e ∈ l, e ∈ deps ops i) → ∀ p ∈ closT.unionD acc l, Reach ops p i
  | [], _, p, hp => by simp [closT.unionD] at hp
  | e :: l, hl, p, hp => by
    simp only [closT.unionD, joinD, List.mem_cons] at hp
    rcases hp with rfl | hp
    · exact .edge (hl _ (by simp))
    · rcases mem_without hp with hp | hp
      · exact .trans (hl e (by simp)) (h e p hp)
      · exact unionD_spec h l (fun e he => hl e (by simp [he])) p hp

theorem closT_spec {ops : Array Oper} : ∀ (n i : Nat) (acc : List (List Nat)), acc.length = i → TabOk ops acc → TabOk ops (closT ops n i acc)
  | 0, _, _, _, h => h
  | n + 1, i, acc, hl, h => by
    refine closT_spec n (i + 1) _ (by rw [snoc_length, hl]) ?_
    intro q p hp
    rw [nthN_snoc] at hp
    split at hp
    · rename_i hq
      rw [hq, hl]
      exact unionD_spec h _ (fun _ => id) p hp
    · exact h q p hp

theorem pairsOk_spec {ops : Array Oper} {ws : List Nat} {tt tab : List (List Nat)} (ht : TabOk ops tab) : ∀ (l : List Nat), pairsOk P md ops ws tt tab l = true → l.Pairwise fun i j => Reach ops i j ∨ comm (ropT P md ops ws tt i) (ropT P md ops ws tt j) = true
  | [], _ => .nil
  | i :: l, h => by
    simp only [pairsOk, Bool.and_eq_true, List.all_eq_true, Bool.or_eq_true, mem_iff] at h
    refine List.pairwise_cons.2 ⟨fun j hj => ?_, pairsOk_spec ht l h.2⟩
    rcases h.1 j hj with h1 | h1
    · exact .inl (ht j i h1)
    · exact .inr h1

theorem Left.start {ops : Array Oper} (h : regionOk P md ops = true) : Left P md (wildsO P md ops) (tabO ops (wildsO P md ops)) ops (Array.replicate ops.size false) (canonL P md ops) ∧ (canonL P md ops).length = ops.size := by
  simp only [regionOk, Bool.and_eq_true, List.all_eq_true, beq_iff_eq, decide_eq_true_eq, mem_iff, List.mem_range] at h
  obtain ⟨⟨⟨⟨⟨h1, h2⟩, h3⟩, h4⟩, h5⟩, h6⟩ := h
  have hn := nodupB_iff h4
  obtain ⟨k1, k2⟩ := topo_spec _ [] h5 hn (fun _ _ h => by cases h)
  refine ⟨⟨by simp, ?_, h2, hn, ?_, ?_, k1, pairsOk_spec (closT_spec _ 0 [] rfl (fun q p hp => by simp [nthN] at hp)) _ h6⟩, h1⟩
  · intro i hi
    simp [Array.getD, hi, h3 i hi]
  · intro j hj e he
    obtain ⟨q1, q2⟩ := k2 j (h3 j hj) e he
    rcases q1 with q1 | q1
    · cases q1
    · exact ⟨h2 e q1, q2⟩
  · intro j hj hn
    exact absurd (h3 j hj) hn

theorem region_any {ops : Array Oper} (hm : P.follows .mixedOrders = true) (hok : regionOk P md ops = true) {id : Nat} {Q : Ex → St → Prop} (hs : Sim C I β st a w) (h : runV (std P) (regionO P md ops) st (Q .normal)) :
    (Code.region id ops true).wp P (lift C Q) a w := by
  obtain ⟨h1, h2⟩ := Left.start hok
  refine wp_region_any hm ?_
  exact any_sound (fun I β st a w h1 h2 => ⟨I, β, st, h1, h2⟩) ops.size _ _ h2 h1 hs.drew h
end
end Go.Sx
namespace Go.Sx
open Classical

section
variable {P : Program} {md : Modes} {C : Ctx}

theorem renKL_length (κ κ' : Nat) (l : List DV) : (renKL κ κ' l).length = l.length := by induction l <;> simp [renKL, *]
theorem nth_renKL (κ κ' : Nat) (l : List DV) (j : Nat) : nth (renKL κ κ' l) j = renK κ κ' (nth l j) := by
  induction l generalizing j with
  | nil => simp [renKL, nth, renK]
  | cons d r ih => cases j with
    | zero => rfl
    | succ j => exact ih j
/-- The places, a key called otherwise. -/
def renB (β : Nat → Option Loc) (κ κ' : Nat) : Nat → Option Loc := fun k => if k = κ' then β κ else if k = κ then none else β k
mutual
theorem renK_keyless (κ κ' : Nat) : ∀ d : DV, pureB d = true → renK κ κ' d = d
  | .agg cs, h => by simp only [renK]; rw [renKL_keyless κ κ' cs (by simpa [pureB] using h)]
  | .fn g a b, h => by
    simp only [pureB] at h
    split at h
    · rename_i h1
      simp only [renK]
      rw [renKL_keyless κ κ' a h1, renKL_keyless κ κ' b h]
    · cases h
  | .ref _ _ _, h => by simp [pureB] at h
  | .rptr _ _ _, h => by simp [pureB] at h
  | .tup _, h => by simp [pureB] at h
  | .int _ _, _ => rfl
  | .bool _, _ => rfl
  | .tt, _ => rfl
  | .ff, _ => rfl
  | .str _, _ => rfl
  | .nilp, _ => rfl
  | .nilf, _ => rfl
  | .nili, _ => rfl
  | .nils, _ => rfl
  | .lst _ _ _ _, _ => rfl
  | .eptr _ _ _ _ _, _ => rfl
  | .own _ _ _, _ => rfl
  | .obox _ _, _ => rfl
  | .und, _ => rfl
  | .junk, _ => rfl
theorem renKL_keyless (κ κ' : Nat) : ∀ l : List DV, pureL l = true → renKL κ κ' l = l
  | [], _ => rfl
  | d :: l, h => by
    simp only [pureL] at h
    split at h
    · rename_i h1
      simp only [renKL]
      rw [renK_keyless κ κ' d h1, renKL_keyless κ κ' l h]
    · cases h
end
theorem Rep.renK {I : Imm} (κ κ' : Nat) {d : DV} {v : Value} (h : Rep I d v) : Rep I (renK κ κ' d) v := by
  induction h with
  | agg cs vs h1 h2 h3 ih =>
    simp only [Sx.renK]
    refine Rep.agg _ vs (by rw [renKL_length]; exact h1) (fun j hj => ?_) (fun j hj => ?_)
    · rw [renKL_length] at hj
      rw [nth_renKL]
      have := h2 j hj
      generalize nth cs j = d at this
      cases d <;> first | rfl | (cases this; done)
    · rw [renKL_length] at hj
      rw [nth_renKL]; exact ih j hj
  | fn g fst cap a b h1 h2 _ _ ih1 ih2 =>
    simp only [Sx.renK]
    exact Rep.fn g _ _ a b (by rw [renKL_length]; exact h1) (by rw [renKL_length]; exact h2) (fun j hj => by rw [renKL_length] at hj; rw [nth_renKL]; exact ih1 j hj) (fun j hj => by rw [renKL_length] at hj; rw [nth_renKL]; exact ih2 j hj)
  | int k n => exact .int k n
  | bool b => exact .bool b
  | tt => exact .tt
  | ff => exact .ff
  | str s => exact .str s
  | nilp => exact .nilp
  | nilf => exact .nilf
  | nili => exact .nili
  | nils => exact .nils
  | lst sz t n f a cap b o val h1 h2 h3 h4 h5 h6 h7 _ => exact Rep.lst sz t n f a cap b o val h1 h2 h3 h4 h5 h6 h7
  | eptr sz n f i off b c val h1 h2 h3 h4 _ => exact Rep.eptr sz n f i off b c val h1 h2 h3 h4
  | und => exact .und
theorem RepK.renK {I : Imm} {β : Nat → Option Loc} {κ κ' : Nat} (hn : β κ' = none) {d : DV} {v : Value} (h : RepK I β d v) : RepK I (renB β κ κ') (renK κ κ' d) v := by
  have key : ∀ {k l}, β k = some l → renB β κ κ' (if k = κ then κ' else k) = some l := by
    intro k l hk
    unfold renB
    by_cases e : k = κ
    · subst e; simp [hk]
    · rw [if_neg e]
      have : k ≠ κ' := by rintro rfl; rw [hn] at hk; cases hk
      rw [if_neg this, if_neg e]; exact hk
  induction h with
  | pure hr => exact .pure (hr.renK κ κ')
  | ref k o n cap l b a h1 h2 h3 h4 h5 h6 =>
    simp only [Sx.renK]
    have e := key h1
    split <;> (rename_i h; simp only [h, if_true, if_false] at e; exact .ref _ o n cap l b a e h2 h3 h4 h5 h6)
  | refnil k l ao h1 h2 =>
    simp only [Sx.renK]
    have e := key h1
    split <;> (rename_i h; simp only [h, if_true, if_false] at e; exact .refnil _ l ao e h2)
  | rptr k i off l b h1 h2 h3 =>
    simp only [Sx.renK]
    have e := key h1
    split <;> (rename_i h; simp only [h, if_true, if_false] at e; exact .rptr _ i off l b e h2 h3)
  | fn g fst cap a b h1 h2 _ _ ih1 ih2 =>
    simp only [Sx.renK]
    exact .fn g _ _ a b (by rw [renKL_length]; exact h1) (by rw [renKL_length]; exact h2) (fun j hj => by rw [renKL_length] at hj; rw [nth_renKL]; exact ih1 j hj) (fun j hj => by rw [renKL_length] at hj; rw [nth_renKL]; exact ih2 j hj)
  | tup ds vs h1 _ ih =>
    simp only [Sx.renK]
    exact .tup _ vs (by rw [renKL_length]; exact h1) (fun j hj => by rw [renKL_length] at hj; rw [nth_renKL]; exact ih j hj)
  | junk v => exact .junk v
theorem Sim.rename {I : Imm} {β : Nat → Option Loc} {st : St} {a : Act} {w : World} (h : Sim C I β st a w) {κ κ' : Nat} {r : Row} (hκ : κ < refKey) (hκ' : κ' < refKey) (_hne : κ ≠ κ') (hl : look st.σ κ = some r) (hn : look st.σ κ' = none) :
    Sim C I (renB β κ κ') ⟨renKL κ κ' st.T, ins (del st.σ κ) κ' r⟩ a w := by
  have hb := h.rows.dom κ' hn
  have hn' : look (del st.σ κ) κ' = none := by rw [look_del]; split <;> first | rfl | exact hn
  have hlook : ∀ k, look (ins (del st.σ κ) κ' r) k = if k = κ' then some r else if k = κ then none else look st.σ k := by
    intro k; rw [look_ins _ _ _ _ hn', look_del]
  refine { le := h.le, inw := h.inw, ext := h.ext, defs := h.defs, size := by rw [h.size]; simp only [renKL_length], tmps := fun t ht => ?_, rows := ⟨?_, ?_, ?_, ?_⟩, own := ?_, refs := ?_, frame := h.frame }
  · simp only [renKL_length] at ht
    simp only [nth_renKL]
    exact (h.tmps t ht).renK hb
  · intro k hk
    dsimp only at hk
    rw [hlook] at hk
    unfold renB
    split at hk
    · cases hk
    · rename_i h1
      rw [if_neg h1]
      split at hk
      · rename_i h2; rw [if_pos h2]
      · rename_i h2; rw [if_neg h2]; exact h.rows.dom k hk
  · intro k q hk
    dsimp only at hk
    rw [hlook] at hk
    unfold renB
    split at hk
    · rename_i h1
      obtain rfl := Option.some.inj hk
      rw [if_pos h1]
      exact h.rows.rows κ r hl
    · rename_i h1
      rw [if_neg h1]
      split at hk
      · cases hk
      · rename_i h2; rw [if_neg h2]; exact h.rows.rows k q hk
  · intro k k' l l' b hkk h1 h2 hb1 hb2
    unfold renB at h1 h2
    split at h1
    · rename_i e1
      split at h2
      · rename_i e2; exact hkk (e1.trans e2.symm)
      · split at h2
        · cases h2
        · rename_i e3; exact h.rows.sep κ k' l l' b (fun e => e3 e.symm) h1 h2 hb1 hb2
    · split at h1
      · cases h1
      · rename_i e3
        split at h2
        · exact h.rows.sep k κ l l' b e3 h1 h2 hb1 hb2
        · split at h2
          · cases h2
          · exact h.rows.sep k k' l l' b hkk h1 h2 hb1 hb2
  · intro k l b h1
    unfold renB at h1
    split at h1
    · exact h.rows.lt κ l b h1
    · split at h1
      · cases h1
      · exact h.rows.lt k l b h1
  · intro k l b hk h1
    unfold renB at h1
    split at h1
    · exact h.own κ l b hκ h1
    · split at h1
      · cases h1
      · exact h.own k l b hk h1
  · intro k l hk h1
    unfold renB at h1
    split at h1
    · omega
    · split at h1
      · cases h1
      · exact h.refs k l hk h1
theorem Sim.renamed {I : Imm} {β : Nat → Option Loc} {st : St} {a : Act} {w : World} (h : Sim C I β st a w) {κ κ' : Nat} (hκ : κ < refKey) (hκ' : κ' < refKey) (hne : κ ≠ κ') : ∃ β', Sim C I β' (st.rename κ κ') a w := by
  unfold St.rename
  split
  · exact ⟨β, h⟩
  · rename_i r hr
    refine ⟨_, (h.kill κ').rename (κ := κ) (κ' := κ') (r := r) hκ hκ' hne ?_ ?_⟩
    · show look (del st.σ κ') κ = some r
      rw [look_del, if_neg hne]; exact hr
    · show look (del st.σ κ') κ' = none
      rw [look_del, if_pos rfl]
theorem Sim.age {I : Imm} {β : Nat → Option Loc} {st : St} {a : Act} {w : World} (h : Sim C I β st a w) (κ : Nat) : ∃ β', Sim C I β' (st.age κ) a w := by
  unfold St.age
  split
  · exact ⟨β, h⟩
  · split
    · rename_i hκ
      split
      · dsimp only
        split
        · rename_i h1
          split
          · rename_i h2; exact h.renamed hκ h2 (by omega)
          · exact ⟨β, h⟩
        · exact ⟨β, h⟩
      · exact ⟨_, h.kill κ⟩
    · exact ⟨β, h⟩
theorem Sim.ages {I : Imm} {a : Act} {w : World} : ∀ (ks : List Nat) {β : Nat → Option Loc} {st : St}, Sim C I β st a w → ∃ β', Sim C I β' (st.ages ks) a w
  | [], β, st, h => ⟨β, h⟩
  | κ :: l, β, st, h => by
    obtain ⟨β1, h1⟩ := h.age κ
    exact Sim.ages l h1
theorem Sim.nilrow {I : Imm} {β : Nat → Option Loc} {st : St} {a : Act} {w : World} (h : Sim C I β st a w) (t κ sz : Nat) (f : Nat → DV) : ∃ β', Sim C I β' (st.nilrow t κ sz f) a w := by
  unfold St.nilrow
  split
  · rename_i hT
    split
    · rename_i hκ
      split
      · rename_i hsz
        split
        · exact ⟨β, h⟩
        · rename_i hn
          obtain ⟨s1, _⟩ := h.newRow (κ := κ) (r := .arr sz 0 f) (l := ⟨none, 0, sz, 0, 0⟩) hκ hn (Frm.refl w _) (fun b hb => by cases hb) ⟨rfl, rfl, hsz, (fun b hb => by cases hb), fun _ => rfl⟩
          refine ⟨_, s1.retmp ?_⟩
          have ht := h.tmp t
          rw [hT] at ht
          generalize a.tmps.getD t undef = v at ht
          cases ht with
          | pure hr => cases hr; exact .refnil κ ⟨none, 0, sz, 0, 0⟩ none (by simp [updB]) rfl
      · exact ⟨β, h⟩
    · exact ⟨β, h⟩
  · split
    · split
      · exact ⟨β, h⟩
      · rename_i hne
        split
        · rename_i h1
          split
          · rename_i h2; exact h.renamed h1 h2 hne
          · exact ⟨β, h⟩
        · exact ⟨β, h⟩
    · exact ⟨β, h⟩
  · exact ⟨β, h⟩
theorem Sim.nilrows {I : Imm} {a : Act} {w : World} : ∀ (ns : List (Nat × Nat × Nat × (Nat → DV))) {β : Nat → Option Loc} {st : St}, Sim C I β st a w → ∃ β', Sim C I β' (st.nilrows ns) a w
  | [], β, st, h => ⟨β, h⟩
  | (t, κ, sz, f) :: l, β, st, h => by
    obtain ⟨β1, h1⟩ := h.nilrow t κ sz f
    exact Sim.nilrows l h1
theorem least {p : Nat → Prop} (h : ∃ m, p m) : ∃ m, p m ∧ ∀ k, p k → m ≤ k := by
  obtain ⟨m, hm⟩ := h
  induction m using Nat.strongRecOn with
  | _ m ih =>
    by_cases hk : ∃ k, k < m ∧ p k
    · obtain ⟨k, h1, h2⟩ := hk; exact ih k h1 h2
    · exact ⟨m, hm, fun k hk' => Nat.le_of_not_lt fun hlt => hk ⟨k, hlt, hk'⟩⟩

theorem wps_sound (hm : P.follows .mixedOrders = true) : ∀ (c : Code) (Q : Ex → St → Prop) {I : Imm} {β : Nat → Option Loc} {st : St} {a : Act} {w : World}, okDraw P md c = true → wps (std P) (comp P md c) Q st → Sim C I β st a w → c.wp P (lift C Q) a w := by
  intro c
  induction c with
  | skip => intro Q I β st a w hd h hs; exact wp_skip ⟨I, β, st, hs, h⟩
  | ret => intro Q I β st a w hd h hs; exact wp_ret ⟨I, β, st, hs, h⟩
  | exit id => intro Q I β st a w hd h hs; exact wp_exit ⟨I, β, st, hs, h⟩
  | seq x y ihx ihy =>
    intro Q I β st a w hd h hs
    simp only [okDraw, Bool.and_eq_true] at hd
    have core : wps (std P) (comp P md x) (seqK (fun st => wps (std P) (comp P md y) Q st ∨ ∃ live keys, wps (std P) (comp P md y) Q (st.restr live keys)) Q) st → (Code.seq x y).wp P (lift C Q) a w := by
      intro h
      refine wp_seq (Code.wp_mono (fun e a w hq => ?_) (ihx _ hd.1 h hs))
      cases e <;> first | exact hq | skip
      obtain ⟨I, β, st, h1, h2⟩ := hq
      rcases h2 with h3 | ⟨live, keys, h3⟩
      · exact ihy _ hd.2 h3 h1
      · exact ihy _ hd.2 h3 (h1.restr live keys)
    have plain : wps (std P) (comp P md x) (seqK (wps (std P) (comp P md y) Q) Q) st → (Code.seq x y).wp P (lift C Q) a w := by
      intro h
      refine wp_seq (Code.wp_mono (fun e a w hq => ?_) (ihx _ hd.1 h hs))
      cases e <;> first | exact hq | skip
      obtain ⟨I, β, st, h1, h2⟩ := hq
      exact ihy _ hd.2 h2 h1
    simp only [comp, mkSeq] at h
    split at h
    · split at h
      · exact core h
      · exact plain h
    · exact plain h
  | block id x ih =>
    intro Q I β st a w hd h hs
    simp only [comp, wps] at h
    refine wp_block (Code.wp_mono (fun e a w hq => ?_) (ih _ hd h hs))
    cases e <;> first | exact hq | skip
    rename_i j
    obtain ⟨I, β, st, h1, h2⟩ := hq
    simp only [blockK] at h2
    simp only [Exit.inBlock]
    split at h2
    · rename_i e; subst e; rw [if_pos rfl]; exact ⟨I, β, st, h1, h2⟩
    · rename_i e; rw [if_neg e]; exact ⟨I, β, st, h1, h2⟩
  | cond c x y ihx ihy =>
    intro Q I β st a w hd h hs
    simp only [comp] at h
    simp only [okDraw, Bool.and_eq_true] at hd
    split at h
    · rename_i p hp
      simp only [wps] at h
      have hr := arg_rep hp hs
      split at h
      · rename_i hev; rw [hev] at hr; exact wp_cond (hr.inv_bool rfl) (ihx _ hd.1 h hs)
      · rename_i hev; rw [hev] at hr; exact wp_cond (hr.inv_bool rfl) (ihy _ hd.2 h hs)
      · rename_i t hev
        rw [hev] at hr
        simp only [std] at h
        refine wp_cond (hr.inv_bool rfl) ?_
        cases ht : t with
        | true => exact ihx _ hd.1 (h.1 ht) hs
        | false => exact ihy _ hd.2 (h.2 ht) hs
      · exact h.elim
    · exact h.elim
  | loop x ih =>
    intro Q I β st a w hd h hs
    simp only [comp, wps] at h
    obtain ⟨live, keys, ns, Inv, ⟨m0, h0⟩, hround⟩ := h
    obtain ⟨β0, hs0⟩ := hs.nilrows ns
    let J : Nat → Act → World → Prop := fun m a w => ∃ I β st, Sim C I β st a w ∧ Inv m st
    let μ : Act → World → Nat := fun a w => if h : ∃ m, J m a w then (least h).choose else 0
    have hμ : ∀ a w, (∃ m, J m a w) → J (μ a w) a w ∧ ∀ m, J m a w → μ a w ≤ m := by
      intro a w h
      have e : μ a w = (least h).choose := dif_pos h
      rw [e]
      exact (least h).choose_spec
    refine wp_loop (fun a w => ∃ m, J m a w) μ ⟨m0, _, _, _, hs0.restr live keys, h0⟩ ?_
    intro a w hJ
    obtain ⟨⟨I, β, st, h1, h2⟩, _⟩ := hμ a w hJ
    refine Code.wp_mono (fun e a' w' hq => ?_) (ih _ hd (hround _ st h2) h1)
    cases e <;> first | exact hq | skip
    obtain ⟨I', β', st', h3, m', hlt, h4⟩ := hq
    obtain ⟨β1, h5⟩ := h3.nilrows ns
    have hj : J m' a' w' := ⟨_, _, _, h5.restr live keys, h4⟩
    exact ⟨⟨m', hj⟩, Nat.lt_of_le_of_lt ((hμ a' w' ⟨m', hj⟩).2 m' hj) hlt⟩
  | region id ops draw =>
    intro Q I β st a w hd h hs
    cases draw with
    | false => 
      simp only [comp, wps] at h
      obtain ⟨β1, hs1⟩ := hs.ages (newKs (cOpers P md ops ops.toList))
      exact wp_region_list (list_sound (fun I β st a w h1 h2 => ⟨I, β, st, h1, h2⟩) _ hs1 h)
    | true =>
      simp only [comp, wps] at h
      obtain ⟨β1, hs1⟩ := hs.ages (newKs (regionO P md ops))
      exact region_any hm hd hs1 h
  | _ => intro Q I β st a w hd h hs; exact h.elim
end
end Go.Sx
namespace Go.Sx

def single : List DV → DV
  | [d] => d
  | l => .tup l
def cnt (κ : Nat) : List Nat → Nat
  | [] => 0
  | k :: l => if k = κ then cnt κ l + 1 else cnt κ l
/-- The keys that a result cannot take along. -/
def frzF (all : List Nat) : List DV → List Nat
  | [] => []
  | d :: l => (match d with
    | .ref κ _ _ => if cnt κ all = 1 then [] else [κ]
    | .rptr κ _ _ => if cnt κ all = 1 then [] else [κ]
    | d => keysOf d) ++ frzF all l
def outD (σ : Store) : DV → DV
  | .ref κ o n => if κ < 100000 then (match look σ κ with | some (.arr sz _ f) => .own sz n (shift o f) | _ => .junk) else .ref κ o n
  | .rptr κ 0 0 => if κ < 100000 then (match look σ κ with | some (.box sz d) => .obox sz d | _ => .junk) else .junk
  | d => d
def outL (σ : Store) : List DV → List DV
  | [] => []
  | d :: l => outD σ d :: outL σ l
def okOut : List DV → Bool
  | [] => true
  | d :: l => (match d with | .own _ _ _ => true | .obox _ _ => true | .ref κ _ _ => decide (100000 ≤ κ) | d => pureB d) && okOut l
def finish (k : Nat) (Q : DV → List Row → Prop) (ds : List DV) (st : St) : Prop :=
  let F := frzF (keysOfL ds) ds
  let ds1 := viewL 100000 F st.σ ds
  let st1 := st.freeze F
  let out := outL st1.σ ds1
  if okOut out = true then (if nodupB (keysOfL ds1) = true then (match rowsOf st1.σ 100000 k with | some rows => Q (single out) rows | none => False) else False) else False
/-- A result's place: a temporary, or a cell behind one. -/
abbrev RV := Nat × Option (Bool × Nat)
def resOb (st : St) : List RV → Prop
  | [] => True
  | (_, none) :: l => resOb st l
  | (t, some (g, n)) :: l => (loadV g n st (nth st.T t)).1 ∧ resOb st l
def resDs (st : St) : List RV → List DV
  | [] => []
  | (t, none) :: l => nth st.T t :: resDs st l
  | (t, some (g, n)) :: l => (loadV g n st (nth st.T t)).2 :: resDs st l
def cRes (P : Program) : List ResultVar → Option (List RV)
  | [] => some []
  | .tmp t :: l => (match cRes P l with | some r => some ((t, none) :: r) | none => none)
  | .cell a t :: l => (match tAgg P t, cRes P l with | some p, some r => some ((a, some p) :: r) | _, _ => none)
/-- What a body owes at its end. -/
def retQ (ts : List RV) (k : Nat) (Q : DV → List Row → Prop) : Ex → St → Prop
  | .normal, st => resOb st ts ∧ finish k Q (resDs st ts) st
  | .ret, st => resOb st ts ∧ finish k Q (resDs st ts) st
  | .exit _, _ => False

def undL : Nat → List DV
  | 0 => []
  | n + 1 => .und :: undL n
def initT (n : Nat) (ds : List DV) : List DV := cat ds (undL (n - len ds))

section
variable {P : Program} {md : Modes} {C : Ctx} {I : Imm} {β : Nat → Option Loc} {st : St} {a : Act} {w : World}

theorem mapM_res (hs : Sim C I β st a w) (f : ResultVar → Sem Value) (hf1 : ∀ t, f (.tmp t) = pure (a.tmps.getD t undef)) (hf2 : ∀ x t, f (.cell x t) = (do loadVar t (← asAddr (a.tmps.getD x undef)))) :
    ∀ (rs : List ResultVar) (ts : List RV), cRes P rs = some ts → resOb st ts → ∃ vs : List Value, (rs.mapM f).run P w = .ok vs w ∧ vs.length = ts.length ∧ (resDs st ts).length = ts.length ∧ ∀ j < ts.length, RepK I β (nth (resDs st ts) j) (vs.getD j undef)
  | [], ts, hc, _ => by
    obtain rfl := Option.some.inj hc
    exact ⟨[], rfl, rfl, rfl, fun j hj => by simp at hj⟩
  | .tmp t :: rs, ts, hc, ho => by
    simp only [cRes] at hc
    split at hc
    · rename_i r hr
      obtain rfl := Option.some.inj hc
      obtain ⟨vs, h1, h2, h3, h4⟩ := mapM_res hs f hf1 hf2 rs r hr ho
      refine ⟨a.tmps.getD t undef :: vs, ?_, by simp [h2], by simp [resDs, h3], fun j hj => ?_⟩
      · simp only [List.mapM_cons, hf1, pure_bind, Sem.run_bind, h1, Result.andThen_ok]
        rfl
      · cases j with
        | zero => simpa [resDs, nth] using hs.tmp t
        | succ j => simpa [resDs, nth] using h4 j (by simpa using hj)
    · cases hc
  | .cell x t :: rs, ts, hc, ho => by
    simp only [cRes] at hc
    split at hc
    · rename_i p r hp hr
      obtain ⟨g, n⟩ := p
      obtain rfl := Option.some.inj hc
      obtain ⟨ho1, ho2⟩ := ho
      obtain ⟨vs, h1, h2, h3, h4⟩ := mapM_res hs f hf1 hf2 rs r hr ho2
      obtain ⟨rv, k1, k2⟩ := load_good (P := P) hs hp (d := nth st.T x) (pv := a.tmps.getD x undef) rfl ho1 (hs.tmp x)
      have hptr : ∃ ad, a.tmps.getD x undef = .pointer (some ad) := by
        have ht := hs.tmp x
        have hq := ho1
        generalize nth st.T x = d at ht hq
        generalize a.tmps.getD x undef = pv at ht
        unfold loadV at hq
        split at hq
        · cases ht with
          | pure h => cases h
          | rptr => exact ⟨_, rfl⟩
        · cases ht with
          | pure h => cases h; exact ⟨_, rfl⟩
        · exact hq.elim
      obtain ⟨ad, had⟩ := hptr
      rw [had] at k1
      have hlv : (loadVar t ad).run P w = .ok rv w := by rw [← k1]; simp [Instr.loadAt, Instr.sureAddr]
      refine ⟨rv :: vs, ?_, by simp [h2], by simp [resDs, h3], fun j hj => ?_⟩
      · simp only [List.mapM_cons, hf2, had, Sem.run_bind, asAddr, h1, hlv, Result.andThen_ok, pure_bind]
        rfl
      · cases j with
        | zero => exact RepK.pure (β := β) k2
        | succ j => simpa [resDs, nth] using h4 j (by simpa using hj)
    · cases hc
theorem run_results (hs : Sim C I β st a w) {fn : Func} {ts : List RV} (hres : cRes P fn.results.toList = some ts) (ho : resOb st ts) :
    ∃ vs : List Value, (results fn a.tmps).run P w = .ok (if h : vs.toArray.size = 1 then vs.toArray[0] else .tuple vs.toArray) w ∧ vs.length = ts.length ∧ (resDs st ts).length = ts.length ∧ ∀ j < ts.length, RepK I β (nth (resDs st ts) j) (vs.getD j undef) := by
  have e : fn.results = fn.results.toList.toArray := by simp
  unfold results
  rw [e, List.mapM_toArray]
  simp only [Sem.run_bind, bind_map_left]
  have aux : ∀ f : ResultVar → Sem Value, (∀ t, f (.tmp t) = pure (a.tmps.getD t undef)) → (∀ x t, f (.cell x t) = (do loadVar t (← asAddr (a.tmps.getD x undef)))) →
      ∃ vs : List Value, (((fn.results.toList.mapM f).run P w).andThen fun l w' => (pure (if h : l.toArray.size = 1 then l.toArray[0] else .tuple l.toArray) : Sem Value).run P w') = .ok (if h : vs.toArray.size = 1 then vs.toArray[0] else .tuple vs.toArray) w ∧
        vs.length = ts.length ∧ (resDs st ts).length = ts.length ∧ ∀ j < ts.length, RepK I β (nth (resDs st ts) j) (vs.getD j undef) := by
    intro f hf1 hf2
    obtain ⟨vs, h1, h2⟩ := mapM_res (P := P) hs f hf1 hf2 fn.results.toList ts hres ho
    refine ⟨vs, ?_, h2⟩
    rw [h1]
    rfl
  exact aux _ (fun t => rfl) (fun x t => rfl)

def okOut1 : DV → Bool
  | .own _ _ _ => true
  | .obox _ _ => true
  | .ref κ _ _ => decide (100000 ≤ κ)
  | d => pureB d
theorem okOut_nth {l : List DV} (h : okOut l = true) {j : Nat} (hj : j < l.length) : okOut1 (nth l j) = true := by
  induction l generalizing j with
  | nil => simp at hj
  | cons d l ih =>
    simp only [okOut, Bool.and_eq_true] at h
    cases j with
    | zero =>
      simp only [nth]
      cases d <;> first | exact h.1 | rfl
    | succ j => exact ih h.2 (by simpa using hj)
theorem outL_length (σ : Store) (l : List DV) : (outL σ l).length = l.length := by induction l <;> simp [outL, *]
theorem nth_outL (σ : Store) (l : List DV) {j : Nat} (hj : j < l.length) : nth (outL σ l) j = outD σ (nth l j) := by
  induction l generalizing j with
  | nil => simp at hj
  | cons d l ih => cases j with
    | zero => rfl
    | succ j => exact ih (by simpa using hj)
theorem keysOfL_nodup {l : List DV} (h : (keysOfL l).Nodup) {i j : Nat} (hij : i ≠ j) {κ κ' : Nat} (h1 : κ ∈ keysOf (nth l i)) (h2 : κ' ∈ keysOf (nth l j)) : κ ≠ κ' := by
  induction l generalizing i j with
  | nil => simp [nth, keysOf] at h1
  | cons d l ih =>
    simp only [keysOfL] at h
    obtain ⟨n1, n2, n3⟩ := List.nodup_append.1 h
    cases i with
    | zero => cases j with
      | zero => exact absurd rfl hij
      | succ j => exact n3 κ h1 κ' (nth_mem_keys h2)
    | succ i => cases j with
      | zero => exact fun e => n3 κ' h2 κ (nth_mem_keys h1) e.symm
      | succ j => exact ih n2 (by omega) h1 h2

theorem outD_res (hs : Sim C I β st a w) {d : DV} {v : Value} (hr : RepK I β d v) (hok : okOut1 (outD st.σ d) = true) :
    ∃ l, ResAt I C.β0 C.w0.heap.size w l (outD st.σ d) v ∧ (isFresh (outD st.σ d) = true → ∃ κ l0, κ ∈ keysOf d ∧ β κ = some l0 ∧ l.blk = l0.blk) := by
  have plain : outD st.σ d = d → okOut1 d = pureB d → isFresh d = false → ∃ l, ResAt I C.β0 C.w0.heap.size w l (outD st.σ d) v ∧ (isFresh (outD st.σ d) = true → ∃ κ l0, κ ∈ keysOf d ∧ β κ = some l0 ∧ l.blk = l0.blk) := by
    intro h1 h2 h3
    rw [h1] at hok ⊢
    rw [h2] at hok
    have hrep := hr.toRep hok
    refine ⟨⟨none, 0, 0, 0, 0⟩, ?_, fun h => by rw [h3] at h; cases h⟩
    cases d <;> first | (cases hok; done) | exact hrep | cases h3
  cases d with
  | ref κ o n =>
    simp only [outD] at hok ⊢
    by_cases hκ : κ < 100000
    case neg =>
      rw [if_neg hκ]
      have hge : refKey ≤ κ := Nat.le_of_not_lt hκ
      refine ⟨⟨none, 0, 0, 0, 0⟩, ?_, fun h => by cases h⟩
      cases hr with
      | pure h => cases h
      | ref _ _ _ cap l b ad g1 g2 g3 g4 g5 g6 => exact RepK.ref κ o n cap l b ad (hs.refs κ l hge g1) g2 g3 g4 g5 g6
      | refnil _ l ao g1 g2 => exact RepK.refnil κ l ao (hs.refs κ l hge g1) g2
    case pos =>
      rw [if_pos hκ] at hok ⊢
      cases hl : look st.σ κ with
      | none => simp only [hl] at hok; cases hok
      | some r =>
        cases r with
        | box sz d => simp only [hl] at hok; cases hok
        | arr sz n0 f =>
          simp only [hl] at hok ⊢
          obtain ⟨l0, hl0, hrow⟩ := hs.rows.rows κ _ hl
          have hpos := hrow.pos
          have hsz := hrow.sz
          have hn := hrow.n
          simp only [Row.sz, Row.n] at hpos hsz hn
          cases hr with
          | pure h => cases h
          | ref _ _ _ cap l b ad g1 g2 g3 g4 g5 g6 =>
            rw [hl0] at g1
            obtain rfl := Option.some.inj g1
            have hA := hrow.at_ b g2
            have hfit := hA.fits
            simp only [Row.sz, Row.n] at hfit
            have hle : (o + n) * sz ≤ n0 * sz := Nat.mul_le_mul_right _ (by omega)
            rw [Nat.add_mul] at hle
            refine ⟨⟨l0.blk, l0.off + o * sz, sz, n, l0.tot⟩, ⟨⟨rfl, rfl, hpos, ?_, ?_⟩, ?_, ?_⟩, fun _ => ⟨κ, l0, by simp [keysOf], hl0, rfl⟩⟩
            · intro b' hb'
              rw [g2] at hb'
              obtain rfl := Option.some.inj hb'
              refine ⟨hA.there, ?_, hA.free, ?_, hA.apart, ?_, hA.mark⟩
              · intro i j hi hj
                simp only [Row.n, Row.sz, Row.f] at hi hj ⊢
                obtain ⟨u, h7, h8⟩ := hA.val (o + i) j (by simp only [Row.n]; omega) hj
                refine ⟨u, ?_, by rw [shift_eq]; exact h8⟩
                rw [← h7]
                simp only [Row.sz]
                congr 2
                rw [Nat.add_mul]; omega
              · simp only [Row.n, Row.sz]; omega
              · intro i hi
                simp only [Row.n, Row.sz, Row.f] at hi ⊢
                rw [shift_eq]; exact hA.elem _ (by simp only [Row.n]; omega)
            · intro hb; rw [g2] at hb; cases hb
            · refine RepK.ref 0 0 n cap _ b ad rfl g2 g3 (by simp) ?_ ?_
              · simp only [Nat.zero_add]; rw [hsz, Nat.add_mul] at g5; omega
              · intro hc; rw [g6 hc, hsz]; simp
            · intro b' hb'
              rw [g2] at hb'
              obtain rfl := Option.some.inj hb'
              exact ⟨hs.own κ l0 _ hκ hl0 g2, hs.rows.lt κ l0 _ hl0 g2⟩
          | refnil _ l ao g1 g2 =>
            rw [hl0] at g1
            obtain rfl := Option.some.inj g1
            refine ⟨⟨none, 0, sz, 0, 0⟩, ⟨⟨rfl, rfl, hpos, fun b hb => ?_, fun _ => rfl⟩, RepK.refnil 0 _ ao rfl rfl, fun b hb => ?_⟩, fun _ => ⟨κ, l0, by simp [keysOf], hl0, g2.symm⟩⟩
            · cases hb
            · cases hb
  | rptr κ i off =>
    cases i with
    | succ i => exact (Bool.noConfusion hok)
    | zero => cases off with
      | succ off => exact (Bool.noConfusion hok)
      | zero =>
        simp only [outD] at hok ⊢
        split at hok
        · rename_i hκ
          rw [if_pos hκ]
          cases hl : look st.σ κ with
          | none => simp only [hl] at hok; cases hok
          | some r =>
            cases r with
            | arr sz n0 f => simp only [hl] at hok; cases hok
            | box sz d =>
              simp only [hl] at hok ⊢
              obtain ⟨l0, hl0, hrow⟩ := hs.rows.rows κ _ hl
              cases hr with
              | pure h => cases h
              | rptr _ _ _ l b g1 g2 g3 =>
                rw [hl0] at g1
                obtain rfl := Option.some.inj g1
                refine ⟨l0, ⟨hrow, RepK.rptr 0 0 0 l0 b rfl g2 g3, ?_⟩, fun _ => ⟨κ, l0, by simp [keysOf], hl0, rfl⟩⟩
                intro b' hb'
                exact ⟨hs.own κ l0 _ hκ hl0 hb', hs.rows.lt κ l0 _ hl0 hb'⟩
        · cases hok
  | own sz n f => cases hr with | pure h => cases h
  | obox sz d => cases hr with | pure h => cases h
  | _ => exact plain rfl rfl rfl
end
end Go.Sx
namespace Go.Sx
open Classical

section
variable {P : Program} {md : Modes} {C : Ctx} {I : Imm} {β : Nat → Option Loc} {st : St} {a : Act} {w : World}

theorem rowsOf_spec {σ : Store} : ∀ (k s : Nat) (rows : List Row), rowsOf σ s k = some rows → rows.length = k ∧ ∀ κ r, look (keyed s rows) κ = some r → look σ κ = some r ∧ s ≤ κ
  | 0, s, rows, h => by
    obtain rfl := Option.some.inj h
    exact ⟨rfl, fun κ r h => by simp [keyed, look] at h⟩
  | k + 1, s, rows, h => by
    simp only [rowsOf] at h
    split at h
    · rename_i r l hr hl
      obtain rfl := Option.some.inj h
      obtain ⟨h1, h2⟩ := rowsOf_spec k (s + 1) l hl
      refine ⟨by simp [h1], fun κ q hq => ?_⟩
      simp only [keyed, look] at hq
      split at hq
      · rename_i e; subst e; obtain rfl := Option.some.inj hq; exact ⟨hr, Nat.le_refl _⟩
      · obtain ⟨k1, k2⟩ := h2 κ q hq; exact ⟨k1, by omega⟩
    · cases h
theorem keyed_none : ∀ (l l' : List Row) (s κ : Nat), l.length = l'.length → look (keyed s l) κ = none → look (keyed s l') κ = none
  | [], [], _, _, _, h => h
  | r :: l, r' :: l', s, κ, hl, h => by
    simp only [keyed, look] at h ⊢
    split at h
    · cases h
    · rename_i hne
      rw [if_neg hne]
      exact keyed_none l l' (s + 1) κ (by simpa using hl) h
  | [], _ :: _, _, _, hl, _ => by simp at hl
  | _ :: _, [], _, _, hl, _ => by simp at hl
theorem keyed_ge : ∀ (l : List Row) (s κ : Nat), κ < s → look (keyed s l) κ = none
  | [], _, _, _ => rfl
  | r :: l, s, κ, h => by
    simp only [keyed, look]
    rw [if_neg (by omega)]
    exact keyed_ge l (s + 1) κ (by omega)

theorem single_res {n0 : Nat} {out : List DV} {vs : Array Value} {ls : Nat → Loc} (hsz : vs.size = out.length) (h1 : ∀ j < out.length, ResAt I β n0 w (ls j) (nth out j) (vs.getD j undef))
    (h2 : ∀ i j b, i < out.length → j < out.length → i ≠ j → isFresh (nth out i) = true → isFresh (nth out j) = true → (ls i).blk = some b → (ls j).blk ≠ some b) (hnt : ∀ ds, out ≠ [.tup ds]) :
    Res I β n0 w (single out) (if h : vs.size = 1 then vs[0] else .tuple vs) := by
  have many : vs.size ≠ 1 → Res I β n0 w (.tup out) (if h : vs.size = 1 then vs[0] else .tuple vs) := by
    intro hne
    rw [dif_neg hne]
    exact ⟨vs, ls, rfl, hsz, h1, h2⟩
  match out, hsz, h1, h2, hnt, many with
  | [], hsz, h1, h2, hnt, many => exact many (by rw [hsz]; simp)
  | [d], hsz, h1, h2, hnt, _ =>
    have h0 := h1 0 (by simp)
    have hs1 : vs.size = 1 := by simpa using hsz
    rw [dif_pos hs1]
    have e : vs.getD 0 undef = vs[0] := by simp [Array.getD, hs1]
    rw [e] at h0
    simp only [single, nth] at h0 ⊢
    cases d <;> first | exact absurd rfl (hnt _) | exact ⟨_, h0⟩
  | d :: e :: l, hsz, h1, h2, hnt, many => exact many (by rw [hsz]; simp)

theorem okOut_tup {out : List DV} (h : okOut out = true) : ∀ ds, out ≠ [.tup ds] := by
  rintro ds rfl
  simp [okOut, pureB] at h

theorem finish_sound (hs : Sim C I β st a w) {fn : Func} {ts : List RV} (hres : cRes P fn.results.toList = some ts) {rows0 : List Row} (h0 : Rows C.I0 C.β0 (keyed refKey rows0) C.w0) {Q : DV → List Row → Prop}
    (hob : resOb st ts) (hf : finish rows0.length Q (resDs st ts) st) : ∃ v, (results fn a.tmps).run P w = .ok v w ∧ ∃ d rows' I', Imm.le C.I0 I' ∧ I'.inW w ∧ (∀ b o, b < C.w0.heap.size → I' b o = C.I0 b o) ∧
      Res I' C.β0 C.w0.heap.size w d v ∧ Rows I' C.β0 (keyed refKey rows') w ∧ rows'.length = rows0.length ∧ Frm C.w0 w C.X ∧ Q d rows' := by
  obtain ⟨vs, hrun, hvl, hdl, hrep0⟩ := run_results (P := P) hs hres hob
  simp only [finish] at hf
  split at hf
  · rename_i hok
    split at hf
    · rename_i hnd
      split at hf
      · rename_i rows' hrows
        obtain ⟨J, γ, s1, hJ, hv⟩ := hs.freeze (frzF (keysOfL (resDs st ts)) (resDs st ts))
        generalize hF : frzF (keysOfL (resDs st ts)) (resDs st ts) = F at *
        generalize hd1 : viewL 100000 F st.σ (resDs st ts) = ds1 at *
        have hlen1 : ds1.length = ts.length := by rw [← hd1, viewL_length, hdl]
        have hout : (outL (st.freeze F).σ ds1).length = ts.length := by rw [outL_length, hlen1]
        refine ⟨_, hrun, single (outL (st.freeze F).σ ds1), rows', J, s1.le, s1.inw, s1.ext, ?_, ?_, (rowsOf_spec _ _ _ hrows).1, s1.frame, hf⟩
        · have hrep : ∀ j < ts.length, RepK J γ (nth ds1 j) (vs.toArray.getD j undef) := by
            intro j hj
            rw [← hd1, nth_viewL]
            have e : vs.toArray.getD j undef = vs.getD j undef := by simp [Array.getD_eq_getD_getElem?, List.getD]
            rw [e]
            exact hv _ _ (hrep0 j hj)
          have hat : ∀ j < ts.length, ∃ l, ResAt J C.β0 C.w0.heap.size w l (nth (outL (st.freeze F).σ ds1) j) (vs.toArray.getD j undef) ∧
              (isFresh (nth (outL (st.freeze F).σ ds1) j) = true → ∃ κ l0, κ ∈ keysOf (nth ds1 j) ∧ γ κ = some l0 ∧ l.blk = l0.blk) := by
            intro j hj
            have hok1 := okOut_nth hok (j := j) (by omega)
            rw [nth_outL _ _ (by omega)] at hok1 ⊢
            exact outD_res s1 (hrep j hj) hok1
          refine single_res (ls := fun j => if h : j < ts.length then (hat j h).choose else ⟨none, 0, 0, 0, 0⟩) (by simp [hout, hvl]) ?_ ?_ (okOut_tup hok)
          · intro j hj
            rw [hout] at hj
            rw [dif_pos hj]
            exact (hat j hj).choose_spec.1
          · intro i j b hi hj hij hfi hfj hbi hbj
            rw [hout] at hi hj
            rw [dif_pos hi] at hbi
            rw [dif_pos hj] at hbj
            obtain ⟨κ, l0, k1, k2, k3⟩ := (hat i hi).choose_spec.2 hfi
            obtain ⟨κ', l0', k1', k2', k3'⟩ := (hat j hj).choose_spec.2 hfj
            have hne : κ ≠ κ' := keysOfL_nodup (nodupB_iff hnd) hij k1 k1'
            exact s1.rows.sep κ κ' l0 l0' b hne k2 k2' (by rw [← k3]; exact hbi) (by rw [← k3']; exact hbj)
        · obtain ⟨r1, r2⟩ := rowsOf_spec _ _ _ hrows
          refine ⟨fun κ hκ => h0.dom κ (keyed_none rows' rows0 _ _ r1 hκ), ?_, h0.sep, fun κ l b h1 h2 => Nat.lt_of_lt_of_le (h0.lt κ l b h1 h2) s1.frame.size⟩
          intro κ r hr
          obtain ⟨q1, q2⟩ := r2 κ r hr
          obtain ⟨l, q3, q4⟩ := s1.rows.rows κ r q1
          exact ⟨l, s1.refs κ l q2 q3, q4⟩
      · exact hf.elim
    · exact hf.elim
  · exact hf.elim

theorem undL_length (n : Nat) : (undL n).length = n := by induction n <;> simp [undL, *]
theorem nth_undL {n j : Nat} (h : j < n) : nth (undL n) j = .und := by
  induction n generalizing j with
  | zero => omega
  | succ n ih => cases j with
    | zero => rfl
    | succ j => exact ih (by omega)

/-- A function's contract, from its body's conditions. -/
theorem fn_of_wps {g : FuncId} {fn : Func} {body : Code} {ts : List RV} {n : Nat} (hf : P.funcs[g]? = some fn) (hname : (fn.name == "runtime.NumGoroutine") = false) (hb : fn.body = some body) (hnt : fn.ntmps = n) (hres : cRes P fn.results.toList = some ts)
    (hm : P.follows .mixedOrders = true) (hd : okDraw P md body = true) {ds : List DV} {rows : List Row} {Q : DV → List Row → Prop}
    (h : wps (std P) (comp P md body) (retQ ts rows.length Q) ⟨initT n ds, keyed 100000 rows⟩) : Fn P g ds rows Q := by
  refine ⟨⟨fn, body, hf, hname, hb⟩, fun w I vs β h1 h2 h3 h4 => ?_⟩
  subst hnt
  refine calls_of_wp hf hb ?_
  have hlen : (initT fn.ntmps ds).length = ds.length + (fn.ntmps - ds.length) := by
    rw [initT, cat_append, List.length_append, undL_length, len_length]
  have hsim : Sim ⟨I, w, β⟩ I β ⟨initT fn.ntmps ds, keyed 100000 rows⟩ { tmps := vs ++ Array.replicate (fn.ntmps - vs.size) undef, defers := [] } w := by
    refine { le := Imm.le.refl _, inw := h1, ext := fun _ _ _ => rfl, defs := rfl, size := ?_, tmps := ?_, rows := h4, own := ?_, refs := fun _ _ _ h => h, frame := Frm.refl _ _ }
    · simp only [hlen, Array.size_append, Array.size_replicate, h2]
    · intro t ht
      rw [hlen] at ht
      simp only [initT, cat_append, nth_append, len_length]
      split
      · rename_i hlt
        have e : (vs ++ Array.replicate (fn.ntmps - vs.size) undef).getD t undef = vs.getD t undef := by
          rw [getD_append, if_pos (by omega)]
        rw [e]; exact h3 t hlt
      · rename_i hge
        have e : (vs ++ Array.replicate (fn.ntmps - vs.size) undef).getD t undef = undef := by
          rw [getD_append, if_neg (by omega)]
          simp only [Array.getD_eq_getD_getElem?, Array.getElem?_replicate]
          split <;> rfl
        rw [e, nth_undL (by omega)]
        exact .pure .und
    · intro κ l b hκ hl
      rw [h4.dom κ (keyed_ge rows refKey κ hκ)] at hl
      cases hl
  refine Code.wp_mono (fun e a w' hq => ?_) (wps_sound hm body _ hd h hsim)
  have fin : ∀ {I' β' st'}, Sim ⟨I, w, β⟩ I' β' st' a w' → (resOb st' ts ∧ finish rows.length Q (resDs st' ts) st') → a.defers = [] ∧ ∃ v, (results fn a.tmps).run P w' = .ok v w' ∧ ∃ v' d rows' I', Ending.returned v = .returned v' ∧ Imm.le I I' ∧ I'.inW w' ∧ (∀ b o, b < w.heap.size → I' b o = I b o) ∧
      Res I' β w.heap.size w' d v' ∧ Rows I' β (keyed refKey rows') w' ∧ rows'.length = rows.length ∧ Frm w w' (fun b => ∃ κ l, β κ = some l ∧ l.blk = some b) ∧ Q d rows' := by
    intro I' β' st' hs' hfin
    obtain ⟨v, r1, d, rows', J, r2, r3, r4, r5, r6, r7, r8, r9⟩ := finish_sound (P := P) hs' hres (rows0 := rows) h4 hfin.1 hfin.2
    exact ⟨hs'.defs, v, r1, v, d, rows', J, rfl, r2, r3, r4, r5, r6, r7, r8, r9⟩
  cases e with
  | normal => obtain ⟨I', β', st', hs', hfin⟩ := hq; exact fin hs' hfin
  | ret => obtain ⟨I', β', st', hs', hfin⟩ := hq; exact fin hs' hfin
  | exit id => obtain ⟨I', β', st', hs', hfin⟩ := hq; exact hfin.elim
  | goto l => exact hq.elim
  | panic c => exact hq.elim
  | outgrown => exact hq.elim
end
end Go.Sx
namespace Go.Sx

/-- Truth told one way. -/
def norm1 : DV → DV
  | .tt => .bool true
  | .ff => .bool false
  | d => d
def normL : List DV → List DV
  | [] => []
  | d :: l => norm1 d :: normL l
def normD : DV → DV
  | .tup l => .tup (normL l)
  | d => norm1 d
theorem nth_normL (l : List DV) (j : Nat) : nth (normL l) j = norm1 (nth l j) := by
  induction l generalizing j with
  | nil => rfl
  | cons d l ih => cases j with
    | zero => rfl
    | succ j => exact ih j
theorem normL_length (l : List DV) : (normL l).length = l.length := by induction l <;> simp [normL, *]
theorem ResAt.norm {I : Imm} {β : Nat → Option Loc} {n0 : Nat} {w : World} {l : Loc} {d : DV} {v : Value} (h : ResAt I β n0 w l d v) : ResAt I β n0 w l (norm1 d) v := by
  cases d <;> first
    | exact h
    | (cases h; exact Rep.bool _)
theorem fresh_norm (d : DV) : isFresh (norm1 d) = isFresh d := by cases d <;> rfl
theorem Res.norm {I : Imm} {β : Nat → Option Loc} {n0 : Nat} {w : World} {d : DV} {v : Value} (h : Res I β n0 w d v) : Res I β n0 w (normD d) v := by
  have plain : (∀ ds, d ≠ .tup ds) → normD d = norm1 d → Res I β n0 w (normD d) v := by
    intro ht e
    have hr : ∃ l, ResAt I β n0 w l d v := by cases d <;> first | exact (ht _ rfl).elim | exact h
    obtain ⟨l, hr⟩ := hr
    have := hr.norm
    rw [e]
    cases d <;> first | exact (ht _ rfl).elim | exact ⟨l, this⟩
  cases d with
  | tup ds =>
    obtain ⟨vs, ls, h1, h2, h3, h4⟩ := h
    refine ⟨vs, ls, h1, by rw [normL_length]; exact h2, fun j hj => ?_, fun i j b hi hj hij hfi hfj => ?_⟩
    · rw [nth_normL]; rw [normL_length] at hj; exact (h3 j hj).norm
    · rw [nth_normL, fresh_norm] at hfi hfj
      rw [normL_length] at hi hj
      exact h4 i j b hi hj hij hfi hfj
  | _ => exact plain (fun ds h => by cases h) rfl

theorem Fn.norm {P : Program} {g : FuncId} {ds : List DV} {rows : List Row} {Q : DV → List Row → Prop} (h : Fn P g ds rows fun d rs => Q (normD d) rs) : Fn P g ds rows Q := by
  refine ⟨h.1, fun w I vs β h1 h2 h3 h4 => ?_⟩
  refine (h.2 w I vs β h1 h2 h3 h4).mono ?_
  rintro e w' ⟨v, d, rows', I', a1, a2, a3, a4, a5, a6, a7, a8, a9⟩
  exact ⟨v, normD d, rows', I', a1, a2, a3, a4, a5.norm, a6, a7, a8, a9⟩

/-- Truth told the other way. -/
def den1 : DV → DV
  | .bool true => .tt
  | .bool false => .ff
  | d => d
def denL : List DV → List DV
  | [] => []
  | d :: l => den1 d :: denL l
def denD : DV → DV
  | .tup l => .tup (denL l)
  | d => den1 d
theorem nth_denL (l : List DV) (j : Nat) : nth (denL l) j = den1 (nth l j) := by
  induction l generalizing j with
  | nil => rfl
  | cons d l ih => cases j with
    | zero => rfl
    | succ j => exact ih j
theorem denL_length (l : List DV) : (denL l).length = l.length := by induction l <;> simp [denL, *]
theorem ResAt.den {I : Imm} {β : Nat → Option Loc} {n0 : Nat} {w : World} {l : Loc} {d : DV} {v : Value} (h : ResAt I β n0 w l d v) : ResAt I β n0 w l (den1 d) v := by
  cases d <;> first
    | exact h
    | (rename_i b; cases b <;> (cases h; constructor))
theorem fresh_den (d : DV) : isFresh (den1 d) = isFresh d := by
  cases d <;> first | rfl | (rename_i b; cases b <;> rfl)
theorem Res.den {I : Imm} {β : Nat → Option Loc} {n0 : Nat} {w : World} {d : DV} {v : Value} (h : Res I β n0 w d v) : Res I β n0 w (denD d) v := by
  have plain : (∀ ds, d ≠ .tup ds) → denD d = den1 d → Res I β n0 w (denD d) v := by
    intro ht e
    have hr : ∃ l, ResAt I β n0 w l d v := by cases d <;> first | exact (ht _ rfl).elim | exact h
    obtain ⟨l, hr⟩ := hr
    have := hr.den
    rw [e]
    cases d <;> first | exact (ht _ rfl).elim | exact ⟨l, this⟩ | skip
    rename_i b
    cases b <;> exact ⟨l, this⟩
  cases d with
  | tup ds =>
    obtain ⟨vs, ls, h1, h2, h3, h4⟩ := h
    refine ⟨vs, ls, h1, by rw [denL_length]; exact h2, fun j hj => ?_, fun i j b hi hj hij hfi hfj => ?_⟩
    · rw [nth_denL]; rw [denL_length] at hj; exact (h3 j hj).den
    · rw [nth_denL, fresh_den] at hfi hfj
      rw [denL_length] at hi hj
      exact h4 i j b hi hj hij hfi hfj
  | _ => exact plain (fun ds h => by cases h) rfl
theorem Fn.den {P : Program} {g : FuncId} {ds : List DV} {rows : List Row} {Q : DV → List Row → Prop} (h : Fn P g ds rows Q) : Fn P g ds rows fun d rs => ∃ e, d = denD e ∧ Q e rs := by
  refine ⟨h.1, fun w I vs β h1 h2 h3 h4 => ?_⟩
  refine (h.2 w I vs β h1 h2 h3 h4).mono ?_
  rintro e w' ⟨v, d, rows', I', a1, a2, a3, a4, a5, a6, a7, a8, a9⟩
  exact ⟨v, denD d, rows', I', a1, a2, a3, a4, a5.den, a6, a7, a8, d, rfl, a9⟩
/-- A result that is nil, told as an empty row; sizes by place, 0: it stays. -/
def nil1 (c : Nat × (Nat → DV)) (d : DV) : DV := match c with | (0, _) => d | (k + 1, f) => (match d with | .nils => .own (k + 1) 0 f | d => d)
def nilL : List (Nat × (Nat → DV)) → List DV → List DV
  | sz :: c, d :: l => nil1 sz d :: nilL c l
  | [], l => l
  | _, [] => []
def nilD (c : List (Nat × (Nat → DV))) : DV → DV
  | .tup l => .tup (nilL c l)
  | d => (match c with | sz :: _ => nil1 sz d | [] => d)
theorem nilL_length : ∀ (c : List (Nat × (Nat → DV))) (l : List DV), (nilL c l).length = l.length
  | sz :: c, d :: l => by simp [nilL, nilL_length c l]
  | [], l => by simp [nilL]
  | _ :: _, [] => by simp [nilL]
theorem nth_nilL : ∀ (c : List (Nat × (Nat → DV))) (l : List DV) (j : Nat), ∃ sz, nth (nilL c l) j = nil1 sz (nth l j)
  | sz :: c, d :: l, 0 => ⟨sz, rfl⟩
  | sz :: c, d :: l, j + 1 => nth_nilL c l j
  | [], l, j => ⟨(0, fun _ => .junk), by simp [nilL, nil1]⟩
  | _ :: _, [], j => ⟨(0, fun _ => .junk), by simp [nilL, nil1]⟩
theorem ResAt.nil {I : Imm} {β : Nat → Option Loc} {n0 : Nat} {w : World} {l : Loc} {d : DV} {v : Value} (sz : Nat × (Nat → DV)) (h : ResAt I β n0 w l d v) : ∃ l', ResAt I β n0 w l' (nil1 sz d) v ∧ (l' = l ∨ l'.blk = none) ∧ (isFresh (nil1 sz d) = true → isFresh d = true ∨ l'.blk = none) := by
  unfold nil1
  split
  · exact ⟨l, h, .inl rfl, fun h => .inl h⟩
  · rename_i k f
    split
    · refine ⟨⟨none, 0, k + 1, 0, 0⟩, ?_, .inr rfl, fun _ => .inr rfl⟩
      have h' : Rep I .nils v := h
      cases h'
      exact ⟨⟨rfl, rfl, Nat.succ_pos _, (fun b hb => by cases hb), fun _ => rfl⟩, .refnil 0 ⟨none, 0, k + 1, 0, 0⟩ none rfl rfl, fun b hb => by cases hb⟩
    · exact ⟨l, h, .inl rfl, fun h => .inl h⟩
theorem Res.nil {I : Imm} {β : Nat → Option Loc} {n0 : Nat} {w : World} {d : DV} {v : Value} (c : List (Nat × (Nat → DV))) (h : Res I β n0 w d v) : Res I β n0 w (nilD c d) v := by
  have plain : (∀ ds, d ≠ .tup ds) → (∃ sz, nilD c d = nil1 sz d) → Res I β n0 w (nilD c d) v := by
    rintro ht ⟨sz, e⟩
    have hr : ∃ l, ResAt I β n0 w l d v := by cases d <;> first | exact (ht _ rfl).elim | exact h
    obtain ⟨l, hr⟩ := hr
    obtain ⟨l', h1, _⟩ := hr.nil sz
    rw [e]
    have hn : ∀ ds, nil1 sz d ≠ .tup ds := by
      intro ds
      unfold nil1
      split
      · exact ht ds
      · split
        · intro h; cases h
        · exact ht ds
    generalize nil1 sz d = d' at h1 hn
    cases d' <;> first | exact (hn _ rfl).elim | exact ⟨l', h1⟩
  by_cases ht : ∃ ds, d = .tup ds
  · obtain ⟨ds, rfl⟩ := ht
    obtain ⟨vs, ls, h1, h2, h3, h4⟩ := h
    have hat : ∀ j < ds.length, ∃ l', ResAt I β n0 w l' (nth (nilL c ds) j) (vs.getD j undef) ∧ (l' = ls j ∨ l'.blk = none) ∧ (isFresh (nth (nilL c ds) j) = true → isFresh (nth ds j) = true ∨ l'.blk = none) := by
      intro j hj
      obtain ⟨sz, e⟩ := nth_nilL c ds j
      rw [e]
      exact (h3 j hj).nil sz
    open Classical in
    refine ⟨vs, fun j => if h : j < ds.length then (hat j h).choose else ls j, h1, by rw [nilL_length]; exact h2, fun j hj => ?_, fun i j b hi hj hij hfi hfj hbi => ?_⟩
    · rw [nilL_length] at hj
      dsimp only
      rw [dif_pos hj]
      exact (hat j hj).choose_spec.1
    · rw [nilL_length] at hi hj
      dsimp only at hbi ⊢
      rw [dif_pos hi] at hbi
      rw [dif_pos hj]
      obtain ⟨-, a1, a2⟩ := (hat i hi).choose_spec
      obtain ⟨-, b1, b2⟩ := (hat j hj).choose_spec
      intro hbj
      rcases a2 hfi with a3 | a3
      · rcases b2 hfj with b3 | b3
        · rcases a1 with a1 | a1
          · rcases b1 with b1 | b1
            · rw [a1] at hbi; rw [b1] at hbj; exact h4 i j b hi hj hij a3 b3 hbi hbj
            · rw [b1] at hbj; cases hbj
          · rw [a1] at hbi; cases hbi
        · rw [b3] at hbj; cases hbj
      · rw [a3] at hbi; cases hbi
  · refine plain (fun ds e => ht ⟨ds, e⟩) ?_
    cases d <;> first | exact (ht ⟨_, rfl⟩).elim | skip
    all_goals (cases c <;> first | exact ⟨_, rfl⟩ | exact ⟨(0, fun _ => .junk), rfl⟩)
theorem Fn.nil {P : Program} {g : FuncId} {ds : List DV} {rows : List Row} {Q : DV → List Row → Prop} (c : List (Nat × (Nat → DV))) (h : Fn P g ds rows Q) : Fn P g ds rows fun d rs => ∃ e, d = nilD c e ∧ Q e rs := by
  refine ⟨h.1, fun w I vs β h1 h2 h3 h4 => ?_⟩
  refine (h.2 w I vs β h1 h2 h3 h4).mono ?_
  rintro e w' ⟨v, d, rows', I', a1, a2, a3, a4, a5, a6, a7, a8, a9⟩
  exact ⟨v, nilD c d, rows', I', a1, a2, a3, a4, a5.nil c, a6, a7, a8, d, rfl, a9⟩
theorem Fn.norows {P : Program} {g : FuncId} {ds : List DV} {Q : DV → List Row → Prop} (h : Fn P g ds [] Q) : Fn P g ds [] fun d rs => Q d rs ∧ rs = [] := by
  refine ⟨h.1, fun w I vs β h1 h2 h3 h4 => ?_⟩
  refine (h.2 w I vs β h1 h2 h3 h4).mono ?_
  rintro e w' ⟨v, d, rows', I', a1, a2, a3, a4, a5, a6, a7, a8, a9⟩
  exact ⟨v, d, rows', I', a1, a2, a3, a4, a5, a6, a7, a8, a9, List.eq_nil_of_length_eq_zero a7⟩
/-- The same for arguments that say more. -/
theorem Fn.sub {P : Program} {g : FuncId} {ds ds' : List DV} {rows : List Row} {Q : DV → List Row → Prop} (h : Fn P g ds rows Q) (hl : ds'.length = ds.length)
    (hs : ∀ j < ds.length, ∀ I β v, RepK I β (nth ds' j) v → RepK I β (nth ds j) v) : Fn P g ds' rows Q := by
  refine ⟨h.1, fun w I vs β h1 h2 h3 h4 => ?_⟩
  exact h.2 w I vs β h1 (by rw [h2, hl]) (fun j hj => hs j hj I β _ (h3 j (by rw [hl]; exact hj))) h4
theorem nil_lst {I : Imm} {β : Nat → Option Loc} {sz : Nat} {t : Bool} {f : Nat → DV} {v : Value} (hsz : 0 < sz) (h : RepK I β .nils v) : RepK I β (.lst sz t 0 f) v := by
  cases h with
  | pure hr =>
    cases hr
    exact .pure (Rep.lst sz t 0 f none 0 0 0 (fun _ _ => undef) hsz (Nat.le_refl _) (fun _ => rfl) (fun h => absurd h (Nat.lt_irrefl _)) (fun i hi => absurd hi (Nat.not_lt_zero _)) (fun i j hi => absurd hi (Nat.not_lt_zero _)) (fun i j hi => absurd hi (Nat.not_lt_zero _)))
theorem fn_of {P : Program} {md : Modes} {g : FuncId} {fn : Func} {body : Code} (ts : List RV) (n : Nat) (hf : P.funcs[g]? = some fn) (hname : (fn.name == "runtime.NumGoroutine") = false) (hb : fn.body = some body) (hnt : fn.ntmps = n)
    (hres : cRes P fn.results.toList = some ts) (hm : P.follows .mixedOrders = true) (hd : okDraw P md body = true) {ds : List DV} {rows : List Row} {Q : DV → List Row → Prop}
    (h : ∀ (L : Leafs), (∀ {α : Type} (x : Lf α), L x = std P x) → ∀ Q' : DV → List Row → Prop, (∀ d rs, Q (normD d) rs → Q' d rs) → wps L (comp P md body) (retQ ts rows.length Q') ⟨initT n ds, keyed 100000 rows⟩) : Fn P g ds rows Q :=
  Fn.norm (fn_of_wps hf hname hb hnt hres hm hd (h (std P) (fun _ => rfl) _ (fun _ _ h => h)))

def resT (P : Program) (l : List ResultVar) : List RV := match cRes P l with | some r => r | none => []
def allRes (P : Program) (l : List ResultVar) : Bool := match cRes P l with | some _ => true | none => false
theorem resT_all {P : Program} {l : List ResultVar} (h : allRes P l = true) : cRes P l = some (resT P l) := by
  unfold allRes at h
  unfold resT
  split at h
  · rename_i r hr; rw [hr]
  · cases h
/-- The same, the places of the results read off. -/
theorem fn_at {P : Program} {md : Modes} {g : FuncId} {fn : Func} {body : Code} (hf : P.funcs[g]? = some fn) (hname : (fn.name == "runtime.NumGoroutine") = false) (hb : fn.body = some body)
    (hres : allRes P fn.results.toList = true) (hm : P.follows .mixedOrders = true) (hd : okDraw P md body = true) {ds : List DV} {rows : List Row} {Q : DV → List Row → Prop}
    (h : ∀ (L : Leafs), (∀ {α : Type} (x : Lf α), L x = std P x) → ∀ Q' : DV → List Row → Prop, (∀ d rs, Q (normD d) rs → Q' d rs) → wps L (comp P md body) (retQ (resT P fn.results.toList) rows.length Q') ⟨initT fn.ntmps ds, keyed 100000 rows⟩) : Fn P g ds rows Q :=
  fn_of (resT P fn.results.toList) fn.ntmps hf hname hb rfl (resT_all hres) hm hd h

/-- Places and their data; nothing is known of the rest. -/
def getA : List (Nat × DV) → Nat → DV
  | [], _ => .junk
  | (k, v) :: l, t => if k = t then v else getA l t
def mkT : Nat → Nat → List (Nat × DV) → List DV
  | 0, _, _ => []
  | n + 1, t, l => getA l t :: mkT n (t + 1) l
def keysA : List (Nat × DV) → List Nat
  | [] => []
  | (k, _) :: l => k :: keysA l
def keysS : Store → List Nat
  | [] => []
  | (k, _) :: l => k :: keysS l
/-- Do two states agree there? -/
def SameT (T : List DV) : List (Nat × DV) → Prop
  | [] => True
  | (k, v) :: l => nth T k = v ∧ SameT T l
def SameS (σ : Store) : Store → Prop
  | [] => True
  | (k, r) :: l => look σ k = some r ∧ SameS σ l

theorem loop_i {L : Leafs} {a : RCode} {Q : Ex → St → Prop} {st : St} {G : Type} (live keys : List Nat) (ns : List (Nat × Nat × Nat × (Nat → DV))) (N : Nat) (tm : G → List (Nat × DV)) (σ : G → Store) (p : G → Prop) (μ : G → Nat) (g0 : G) (hp : p g0)
    (h0 : (st.nilrows ns).restr live keys = ⟨mkT N 0 (tm g0), σ g0⟩)
    (hround : ∀ g, p g → wps L a (seqK (fun st' => ∃ g', μ g' < μ g ∧ p g' ∧ (st'.nilrows ns).restr live keys = ⟨mkT N 0 (tm g'), σ g'⟩) Q) ⟨mkT N 0 (tm g), σ g⟩) :
    ∃ (live keys : List Nat) (ns : List (Nat × Nat × Nat × (Nat → DV))) (I : Nat → St → Prop), (∃ m, I m ((st.nilrows ns).restr live keys)) ∧ ∀ m st', I m st' → wps L a (seqK (fun st'' => ∃ m', m' < m ∧ I m' ((st''.nilrows ns).restr live keys)) Q) st' := by
  refine ⟨live, keys, ns, fun m s => ∃ g, m = μ g ∧ p g ∧ s = ⟨mkT N 0 (tm g), σ g⟩, ⟨μ g0, g0, rfl, hp, h0⟩, ?_⟩
  rintro m st' ⟨g, rfl, hpg, rfl⟩
  have e : (seqK (fun st'' => ∃ m', m' < μ g ∧ ∃ g', m' = μ g' ∧ p g' ∧ (st''.nilrows ns).restr live keys = ⟨mkT N 0 (tm g'), σ g'⟩) Q) = seqK (fun st' => ∃ g', μ g' < μ g ∧ p g' ∧ (st'.nilrows ns).restr live keys = ⟨mkT N 0 (tm g'), σ g'⟩) Q := by
    congr 1
    funext s
    apply propext
    constructor
    · rintro ⟨m', h1, g', rfl, h2, h3⟩; exact ⟨g', h1, h2, h3⟩
    · rintro ⟨g', h1, h2, h3⟩; exact ⟨μ g', h1, g', rfl, h2, h3⟩
  rw [e]
  exact hround g hpg

/-- Two lists of data are the same, place by place. -/
def AgT : List DV → List DV → Prop
  | [], [] => True
  | .junk :: l, .junk :: m => AgT l m
  | d :: l, e :: m => d = e ∧ AgT l m
  | _, _ => False
def AgR : Row → Row → Prop
  | .arr sz n f, .arr sz' n' f' => sz = sz' ∧ n = n' ∧ f = f'
  | .box sz d, .box sz' d' => sz = sz' ∧ d = d'
  | _, _ => False
def AgS : Store → Store → Prop
  | [], [] => True
  | (k, r) :: l, (k', r') :: m => k = k' ∧ AgR r r' ∧ AgS l m
  | _, _ => False
theorem AgT.eq : ∀ {l m : List DV}, AgT l m → l = m
  | [], [], _ => rfl
  | d :: l, e :: m, h => by
    by_cases hj : d = .junk ∧ e = .junk
    · obtain ⟨rfl, rfl⟩ := hj
      rw [AgT.eq (l := l) (m := m) h]
    · have : d = e ∧ AgT l m := by
        cases d <;> first | exact h | (cases e <;> first | exact absurd ⟨rfl, rfl⟩ hj | exact h)
      rw [this.1, AgT.eq this.2]
  | [], _ :: _, h => h.elim
  | _ :: _, [], h => by cases ‹DV› <;> exact h.elim
theorem AgR.eq : ∀ {r q : Row}, AgR r q → r = q
  | .arr _ _ _, .arr _ _ _, ⟨rfl, rfl, rfl⟩ => rfl
  | .box _ _, .box _ _, ⟨rfl, rfl⟩ => rfl
  | .arr _ _ _, .box _ _, h => h.elim
  | .box _ _, .arr _ _ _, h => h.elim
theorem AgS.eq : ∀ {l m : Store}, AgS l m → l = m
  | [], [], _ => rfl
  | (k, r) :: l, (k', r') :: m, h => by rw [h.1, h.2.1.eq, AgS.eq h.2.2]
  | [], _ :: _, h => h.elim
  | _ :: _, [], h => h.elim
/-- A state, seen at a loop's head. -/
def Head (live keys : List Nat) (st : St) (N : Nat) (l : List (Nat × DV)) (σ : Store) : Prop := AgT (keepT live keys 0 st.T) (mkT N 0 l) ∧ AgS (keepS keys st.σ) σ
theorem head_iff {live keys : List Nat} {N : Nat} {st : St} {l : List (Nat × DV)} {s : Store} : Head live keys st N l s = (st.restr live keys = ⟨mkT N 0 l, s⟩) := by
  apply propext
  constructor
  · rintro ⟨h1, h2⟩; simp only [St.restr, h1.eq, h2.eq]
  · intro h
    have refl : ∀ l : List DV, AgT l l := by
      intro l
      induction l with
      | nil => trivial
      | cons d l ih => cases d <;> first | exact ih | exact ⟨rfl, ih⟩
    have reflS : ∀ s : Store, AgS s s := by
      intro s
      induction s with
      | nil => trivial
      | cons q s ih => obtain ⟨k, r⟩ := q; refine ⟨rfl, ?_, ih⟩; cases r <;> simp [AgR]
    have h1 : keepT live keys 0 st.T = mkT N 0 l := congrArg St.T h
    have h2 : keepS keys st.σ = s := congrArg St.σ h
    exact ⟨by rw [h1]; exact refl _, by rw [h2]; exact reflS _⟩
/-- A loop; places ns that may hold nil are seen as empty rows at its head. -/
theorem loop_n {L : Leafs} {a : RCode} {Q : Ex → St → Prop} {st : St} {G : Type} (live keys : List Nat) (ns : List (Nat × Nat × Nat × (Nat → DV))) (N : Nat) (tm : G → List (Nat × DV)) (σ : G → Store) (p : G → Prop) (μ : G → Nat) (g0 : G) (hp : p g0)
    (h0 : Head live keys (st.nilrows ns) N (tm g0) (σ g0))
    (hround : ∀ g, p g → wps L a (seqK (fun st' => ∃ g', μ g' < μ g ∧ p g' ∧ Head live keys (st'.nilrows ns) N (tm g') (σ g')) Q) ⟨mkT N 0 (tm g), σ g⟩) :
    ∃ (live keys : List Nat) (ns : List (Nat × Nat × Nat × (Nat → DV))) (I : Nat → St → Prop), (∃ m, I m ((st.nilrows ns).restr live keys)) ∧ ∀ m st', I m st' → wps L a (seqK (fun st'' => ∃ m', m' < m ∧ I m' ((st''.nilrows ns).restr live keys)) Q) st' := by
  refine loop_i live keys ns N tm σ p μ g0 hp (by rw [← head_iff]; exact h0) (fun g hg => ?_)
  simp only [← head_iff]
  exact hround g hg
theorem loop_j {L : Leafs} {a : RCode} {Q : Ex → St → Prop} {st : St} {G : Type} (live keys : List Nat) (N : Nat) (tm : G → List (Nat × DV)) (σ : G → Store) (p : G → Prop) (μ : G → Nat) (g0 : G) (hp : p g0)
    (h0 : Head live keys st N (tm g0) (σ g0))
    (hround : ∀ g, p g → wps L a (seqK (fun st' => ∃ g', μ g' < μ g ∧ p g' ∧ Head live keys st' N (tm g') (σ g')) Q) ⟨mkT N 0 (tm g), σ g⟩) :
    ∃ (live keys : List Nat) (ns : List (Nat × Nat × Nat × (Nat → DV))) (I : Nat → St → Prop), (∃ m, I m ((st.nilrows ns).restr live keys)) ∧ ∀ m st', I m st' → wps L a (seqK (fun st'' => ∃ m', m' < m ∧ I m' ((st''.nilrows ns).restr live keys)) Q) st' :=
  loop_n live keys [] N tm σ p μ g0 hp h0 hround

theorem brI {P : Program} {L : Leafs} (hL : ∀ {α : Type} (x : Lf α), L x = std P x) {b : Bool} {A B : Unit → Prop} (h1 : b = true → A ()) (h2 : b = false → B ()) : L .br b A B := by
  rw [hL]; exact ⟨h1, h2⟩

theorem brF {P : Program} {L : Leafs} (hL : ∀ {α : Type} (x : Lf α), L x = std P x) {b : Bool} {A B : Unit → Prop} (e : b = false) (h2 : B ()) : L .br b A B := by
  rw [hL]; exact ⟨fun h => absurd (e.symm.trans h) (by decide), fun _ => h2⟩
theorem brT {P : Program} {L : Leafs} (hL : ∀ {α : Type} (x : Lf α), L x = std P x) {b : Bool} {A B : Unit → Prop} (e : b = true) (h1 : A ()) : L .br b A B := by
  rw [hL]; exact ⟨fun _ => h1, fun h => absurd (e.symm.trans h) (by decide)⟩
theorem joinW {P : Program} {L : Leafs} (hL : ∀ {α : Type} (x : Lf α), L x = std P x) {W : St → Prop} {st : St} (h : W st) : L .join W st := by
  rw [hL]; exact .inl h
theorem joinR {P : Program} {L : Leafs} (hL : ∀ {α : Type} (x : Lf α), L x = std P x) {W : St → Prop} {st : St} (live keys : List Nat) (h : W (st.restr live keys)) : L .join W st := by
  rw [hL]; exact .inr ⟨live, keys, h⟩
/-- What comes behind is shown once: of states that are alike at the live places. -/
theorem share {P : Program} {L : Leafs} (hL : ∀ {α : Type} (x : Lf α), L x = std P x) {W : St → Prop} {X : Prop} {G : Type} (live keys : List Nat) (N : Nat) (tm : G → List (Nat × DV)) (σ : G → Store) (p : G → Prop)
    (use : (∀ (g : G) (st : St), p g → Head live keys st N (tm g) (σ g) → L .join W st) → X) (rest : ∀ g, p g → W ⟨mkT N 0 (tm g), σ g⟩) : X := by
  refine use fun g st hp hh => joinR hL live keys ?_
  have e : st.restr live keys = ⟨mkT N 0 (tm g), σ g⟩ := by simp only [St.restr, hh.1.eq, hh.2.eq]
  rw [e]; exact rest g hp
theorem lendI {P : Program} {L : Leafs} (hL : ∀ {α : Type} (x : Lf α), L x = std P x) {g : FuncId} {ds : List DV} {κ : Nat} {st : St} {K : DV → St → Prop} {Q : DV → List Row → Prop} (hf : Fn P g ds [] Q) (hk : noKeys ds)
    (h : ∀ d rs, Q d rs → lendOk d ∧ bindR κ d st K) : L .lend g ds κ st K := by
  rw [hL]; exact ⟨hk, hf.mono h⟩
theorem callI {P : Program} {L : Leafs} (hL : ∀ {α : Type} (x : Lf α), L x = std P x) {g : FuncId} {ds : List DV} {κ : Nat} {st : St} {K : DV → St → Prop} {Q : DV → List Row → Prop} (hf : Fn P g ds [] Q) (hk : noKeys ds)
    (h : ∀ d rs, Q d rs → bindR κ d st K) : L .call g ds κ st K := by
  rw [hL]; exact ⟨hk, hf.mono h⟩
theorem refsI {P : Program} {L : Leafs} (hL : ∀ {α : Type} (x : Lf α), L x = std P x) {g : FuncId} {ds ds' : List DV} {rows : List Row} {κ : Nat} {st : St} {K : DV → St → Prop} {Q : DV → List Row → Prop} (hf : Fn P g ds' rows Q)
    (h1 : renL (nub [] (keysOfL ds)) ds = ds') (h2 : lookL st.σ (nub [] (keysOfL ds)) = some rows)
    (h : ∀ d rs, Q d rs → bindR κ (unren (nub [] (keysOfL ds)) d) ⟨st.T, updL st.σ (nub [] (keysOfL ds)) rs⟩ K) : L .refs g ds κ st K := by
  rw [hL]; subst h1; exact ⟨rows, h2, hf.mono h⟩

/-- Whole numbers, as a row's contents. -/
def ints (g : Nat → Int) : Nat → DV := fun i => .int .i64 (g i)
def updI (g : Nat → Int) (j : Nat) (v : Int) : Nat → Int := fun i => if i = j then v else g i
theorem setFF_ints (g : Nat → Int) (j : Nat) (v : Int) : setFF (ints g) j 0 [.int .i64 v] = ints (updI g j v) := by
  funext i
  simp only [setFF, ints, updI]
  split <;> simp [setCells, nth]
theorem appFF_ints (n : Nat) (g h : Nat → Int) : appFF n (ints g) (ints h) = ints (fun i => if i < n then g i else h (i - n)) := by
  funext i
  simp only [appFF, ints]
  split <;> rfl
end Go.Sx
