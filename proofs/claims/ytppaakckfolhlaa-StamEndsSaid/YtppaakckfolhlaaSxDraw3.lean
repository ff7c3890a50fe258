import Derived.Test.YtppaakckfolhlaaSxDraw2
namespace Go.Sx

section
variable {P : Program} {md : Modes} {C : Ctx} {I : Imm} {β : Nat → Option Loc} {st : St} {a : Act} {w : World}

theorem nodupB_iff {l : List Nat} (h : nodupB l = true) : l.Nodup := by
  induction l with
  | nil => exact List.nodup_nil
  | cons i l ih =>
    simp only [nodupB, Bool.and_eq_true, Bool.not_eq_true', ← Bool.not_eq_true, mem_iff] at h
    exact List.nodup_cons.2 ⟨h.1, ih h.2⟩

theorem topo_spec {ops : Array Oper} : ∀ (l seen : List Nat), topo ops seen l = true → l.Nodup → (∀ x ∈ l, x ∉ seen) → (l.Pairwise fun j e => e ∉ deps ops j) ∧ ∀ j ∈ l, ∀ e ∈ deps ops j, (e ∈ seen ∨ e ∈ l) ∧ e ≠ j
  | [], seen, _, _, _ => ⟨.nil, fun j hj => by cases hj⟩
  | i :: l, seen, h, hn, hs => by
    simp only [topo, Bool.and_eq_true, List.all_eq_true, mem_iff] at h
    obtain ⟨h1, h2⟩ := h
    obtain ⟨n1, n2⟩ := List.nodup_cons.1 hn
    obtain ⟨k1, k2⟩ := topo_spec l (i :: seen) h2 n2 (fun x hx hm => by
      rcases List.mem_cons.1 hm with rfl | hm
      · exact n1 hx
      · exact hs x (by simp [hx]) hm)
    refine ⟨List.pairwise_cons.2 ⟨fun e he hd => hs e (by simp [he]) (h1 e hd), k1⟩, ?_⟩
    intro j hj e he
    rcases List.mem_cons.1 hj with rfl | hj
    · exact ⟨.inl (h1 e he), fun e' => hs e (by simp [e']) (h1 e he)⟩
    · obtain ⟨q1, q2⟩ := k2 j hj e he
      refine ⟨?_, q2⟩
      rcases q1 with q1 | q1
      · rcases List.mem_cons.1 q1 with rfl | q1
        · exact .inr (by simp)
        · exact .inl q1
      · exact .inr (by simp [q1])

def TabOk (ops : Array Oper) (acc : List (List Nat)) : Prop := ∀ q, ∀ p ∈ nthN acc q, Reach ops p q
theorem mem_without {r m : List Nat} {p : Nat} (h : p ∈ joinD.without r m) : p ∈ m ∨ p ∈ r := by
  induction m with
  | nil => exact .inr h
  | cons k l ih =>
    simp only [joinD.without] at h
    split at h
    · rcases ih h with h | h
      · exact .inl (by simp [h])
      · exact .inr h
    · rcases List.mem_cons.1 h with rfl | h
      · exact .inl (by simp)
      · rcases ih h with h | h
        · exact .inl (by simp [h])
        · exact .inr h
theorem nthN_snoc (acc : List (List Nat)) (x : List Nat) (q : Nat) : nthN (snoc acc x) q = if q = acc.length then x else nthN acc q := by
  induction acc generalizing q with
  | nil => cases q <;> simp [snoc, nthN]
  | cons l r ih => cases q with
    | zero => simp [snoc, nthN]
    | succ q => simp [snoc, nthN, ih]
theorem snoc_length (acc : List (List Nat)) (x : List Nat) : (snoc acc x).length = acc.length + 1 := by induction acc <;> simp [snoc, *]

theorem unionD_spec {ops : Array Oper} {acc : List (List Nat)} (h : TabOk ops acc) {i : Nat} : ∀ (l : List Nat), (∀ e ∈ l, e ∈ deps ops i) → ∀ p ∈ closT.unionD acc l, Reach ops p i
  | [], _, p, hp => by simp [closT.unionD] at hp
  | e :: l, hl, p, hp => by
    simp only [closT.unionD, joinD, List.mem_cons] at hp
    rcases hp with rfl | hp
    · exact .edge (hl _ (by simp))
    · rcases mem_without hp with hp | hp
      · exact .trans (hl e (by simp)) (h e p hp)
      · exact unionD_spec h l (fun e he => hl e (by simp [he])) p hp

theorem closT_spec {ops : Array Oper} : ∀ (n i : Nat) (acc : List (List Nat)), acc.length = i → TabOk ops acc → TabOk ops (closT ops n i acc)
  | 0, _, _, _, h => h
  | n + 1, i, acc, hl, h => by
    refine closT_spec n (i + 1) _ (by rw [snoc_length, hl]) ?_
    intro q p hp
    rw [nthN_snoc] at hp
    split at hp
    · rename_i hq
      rw [hq, hl]
      exact unionD_spec h _ (fun _ => id) p hp
    · exact h q p hp

theorem pairsOk_spec {ops : Array Oper} {ws : List Nat} {tt tab : List (List Nat)} (ht : TabOk ops tab) : ∀ (l : List Nat), pairsOk P md ops ws tt tab l = true → l.Pairwise fun i j => Reach ops i j ∨ comm (ropT P md ops ws tt i) (ropT P md ops ws tt j) = true
  | [], _ => .nil
  | i :: l, h => by
    simp only [pairsOk, Bool.and_eq_true, List.all_eq_true, Bool.or_eq_true, mem_iff] at h
    refine List.pairwise_cons.2 ⟨fun j hj => ?_, pairsOk_spec ht l h.2⟩
    rcases h.1 j hj with h1 | h1
    · exact .inl (ht j i h1)
    · exact .inr h1

theorem Left.start {ops : Array Oper} (h : regionOk P md ops = true) : Left P md (wildsO P md ops) (tabO ops (wildsO P md ops)) ops (Array.replicate ops.size false) (canonL P md ops) ∧ (canonL P md ops).length = ops.size := by
  simp only [regionOk, Bool.and_eq_true, List.all_eq_true, beq_iff_eq, decide_eq_true_eq, mem_iff, List.mem_range] at h
  obtain ⟨⟨⟨⟨⟨h1, h2⟩, h3⟩, h4⟩, h5⟩, h6⟩ := h
  have hn := nodupB_iff h4
  obtain ⟨k1, k2⟩ := topo_spec _ [] h5 hn (fun _ _ h => by cases h)
  refine ⟨⟨by simp, ?_, h2, hn, ?_, ?_, k1, pairsOk_spec (closT_spec _ 0 [] rfl (fun q p hp => by simp [nthN] at hp)) _ h6⟩, h1⟩
  · intro i hi
    simp [Array.getD, hi, h3 i hi]
  · intro j hj e he
    obtain ⟨q1, q2⟩ := k2 j (h3 j hj) e he
    rcases q1 with q1 | q1
    · cases q1
    · exact ⟨h2 e q1, q2⟩
  · intro j hj hn
    exact absurd (h3 j hj) hn

theorem region_any {ops : Array Oper} (hm : P.follows .mixedOrders = true) (hok : regionOk P md ops = true) {id : Nat} {Q : Ex → St → Prop} (hs : Sim C I β st a w) (h : runV (std P) (regionO P md ops) st (Q .normal)) :
    (Code.region id ops true).wp P (lift C Q) a w := by
  obtain ⟨h1, h2⟩ := Left.start hok
  refine wp_region_any hm ?_
  exact any_sound (fun I β st a w h1 h2 => ⟨I, β, st, h1, h2⟩) ops.size _ _ h2 h1 hs.drew h
end
end Go.Sx
