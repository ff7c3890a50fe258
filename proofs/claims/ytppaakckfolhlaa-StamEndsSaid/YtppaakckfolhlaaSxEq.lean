import Derived.Test.YtppaakckfolhlaaSxLoud
import Derived.Laws.StructEq
namespace Go.Sx

section
variable {P : Program} {md : Modes} {C : Ctx} {I : Imm} {β : Nat → Option Loc} {st : St} {a : Act} {w : World}

theorem run_part_scalar {t : TypeId} (ht : (∃ k, P.underlying t = some (.int k)) ∨ P.underlying t = some .string ∨ P.underlying t = some .bool) {xs : Array Value} {o : Nat} (ho : o < xs.size) :
    (Go.part t xs o).run P w = .ok (xs.getD o undef) w := by
  have e : xs[o]? = some (xs.getD o undef) := by simp [Array.getD, ho]
  generalize xs.getD o undef = u at e ⊢
  rcases ht with ⟨k, ht⟩ | ht | ht <;> simp [Go.part, isAgg, run_underlying ht, e]

theorem agg_part {cs : List DV} {xs : Array Value} (h : Rep I (.agg cs) (.agg xs)) {o : Nat} (hn : nth cs o ≠ .junk) : o < xs.size ∧ Rep I (nth cs o) (xs.getD o undef) := by
  cases h with
  | agg _ _ h1 h2 h3 =>
    have ho : o < cs.length := by
      rcases Nat.lt_or_ge o cs.length with h | h
      · exact h
      · exact absurd (nth_ge h) hn
    exact ⟨by omega, h3 o ho⟩

theorem boolOf_val {d : DV} {b : Bool} (h : boolOf d = some b) {v : Value} (hr : Rep I d v) : v = .bool b := RepK.inv_bool (β := fun _ => none) (.pure hr) h

theorem eqFs_run {cs ds : List DV} {xs ys : Array Value} (hx : Rep I (.agg cs) (.agg xs)) (hy : Rep I (.agg ds) (.agg ys)) (dd : Nat) :
    ∀ (fs : List Field) (l : List (Nat × Nat)) (b : Bool), cEqF P fs = some l → eqFs (std P) cs ds l = some b → (Op.eqFields (dd + 1) xs ys fs).run P w = .ok b w
  | [], l, b, hl, hb => by
    obtain rfl := Option.some.inj hl
    obtain rfl := Option.some.inj hb
    simp [Op.eqFields]
  | f :: fs, l, b, hl, hb => by
    simp only [cEqF] at hl
    split at hl
    · cases hl
    · rename_i hname
      have hn : f.name ≠ "_" := by simpa using hname
      have go : ∀ (k : Nat) (l' : List (Nat × Nat)), cEqF P fs = some l' → l = (f.offset, k) :: l' → ((∃ k, P.underlying f.type = some (.int k)) ∨ P.underlying f.type = some .string ∨ P.underlying f.type = some .bool) →
          (∀ b, eq1 (std P) k (nth cs f.offset) (nth ds f.offset) = some b → nth cs f.offset ≠ .junk ∧ nth ds f.offset ≠ .junk ∧ ∀ u v, Rep I (nth cs f.offset) u → Rep I (nth ds f.offset) v → (Op.equalIn (dd + 1) f.type u v).run P w = .ok b w) →
          (Op.eqFields (dd + 1) xs ys (f :: fs)).run P w = .ok b w := by
        intro k l' hl' hll hty he
        subst hll
        simp only [eqFs] at hb
        split at hb
        · rename_i b1 c hb1 hc
          obtain rfl := Option.some.inj hb
          obtain ⟨j1, j2, he⟩ := he b1 hb1
          obtain ⟨o1, r1⟩ := agg_part hx j1
          obtain ⟨o2, r2⟩ := agg_part hy j2
          have ih := eqFs_run hx hy dd fs l' c hl' hc
          rw [Op.eqFields]
          simp only [if_pos hn, Sem.run_bind, run_part_scalar hty o1, run_part_scalar hty o2, Result.andThen_ok, he _ _ r1 r2]
          simp only [std]
          cases b1
          · simp
          · simpa using ih
        · cases hb
      split at hl
      · rename_i k l' hu hl'
        refine go 0 l' hl' (Option.some.inj hl).symm (.inl ⟨k, hu⟩) ?_
        intro b hb
        simp only [eq1] at hb
        split at hb
        · rename_i k1 x k2 y h1 h2
          split at hb
          · rename_i hk
            subst hk
            obtain rfl := Option.some.inj hb
            rw [h1, h2]
            refine ⟨by simp, by simp, fun u v hu' hv' => ?_⟩
            cases hu'
            cases hv'
            simp [Op.equalIn, run_underlying hu, std, cmpF]
          · cases hb
        · cases hb
      · rename_i l' hu hl'
        refine go 1 l' hl' (Option.some.inj hl).symm (.inr (.inl hu)) ?_
        intro b hb
        simp only [eq1] at hb
        split at hb
        · rename_i x y h1 h2
          obtain rfl := Option.some.inj hb
          rw [h1, h2]
          refine ⟨by simp, by simp, fun u v hu' hv' => ?_⟩
          cases hu'
          cases hv'
          simp [Op.equalIn, run_underlying hu, std, scmpF, beq_toListBytes]
        · cases hb
      · rename_i l' hu hl'
        refine go 2 l' hl' (Option.some.inj hl).symm (.inr (.inr hu)) ?_
        intro b hb
        simp only [eq1] at hb
        split at hb
        · rename_i x y h1 h2
          obtain rfl := Option.some.inj hb
          refine ⟨fun h => (by rw [h] at h1; cases h1), fun h => (by rw [h] at h2; cases h2), fun u v hu' hv' => ?_⟩
          rw [boolOf_val h1 hu', boolOf_val h2 hv']
          simp [Op.equalIn, run_underlying hu, std]
        · cases hb
      · cases hl

theorem eqGuardType_scalar {t : TypeId} (ht : (∃ k, P.underlying t = some (.int k)) ∨ P.underlying t = some .string ∨ P.underlying t = some .bool) (d : Nat) : P.eqGuardType (d + 1) t = false := by
  rcases ht with ⟨k, ht⟩ | ht | ht <;> simp [Program.eqGuardType, ht]
theorem cEqF_types : ∀ {fs : List Field} {l : List (Nat × Nat)}, cEqF P fs = some l → ∀ f ∈ fs, (∃ k, P.underlying f.type = some (.int k)) ∨ P.underlying f.type = some .string ∨ P.underlying f.type = some .bool
  | [], _, _, f, hf => by cases hf
  | g :: fs, l, h, f, hf => by
    simp only [cEqF] at h
    split at h
    · cases h
    · have tail : ∀ l', cEqF P fs = some l' → f ∈ fs → _ := fun l' hl' hm => cEqF_types hl' f hm
      split at h
      · rename_i k l' hu hl'
        rcases List.mem_cons.1 hf with rfl | hf
        · exact .inl ⟨k, hu⟩
        · exact tail l' hl' hf
      · rename_i l' hu hl'
        rcases List.mem_cons.1 hf with rfl | hf
        · exact .inr (.inl hu)
        · exact tail l' hl' hf
      · rename_i l' hu hl'
        rcases List.mem_cons.1 hf with rfl | hf
        · exact .inr (.inr hu)
        · exact tail l' hl' hf
      · cases h

theorem eqS_good {op : BinOp} {t yt : TypeId} {x y : Operand} {neg : Bool} {fs : Array Field} {l : List (Nat × Nat)} {d e v : DV} {ob : Prop} {o : Oper} (ho : o.op = .binOp op t x y yt) (hop : (op = .eql ∧ neg = false) ∨ (op = .neq ∧ neg = true))
    (hu : P.underlying t = some (.struct fs)) (hl : cEqF P fs.toList = some l) (hst : P.stoodInHeld t = false)
    (hq : eqSV (std P) neg l d e = (ob, v)) (hob : ob) (hx : RepK I β d (a.eval x)) (hy : RepK I β e (a.eval y)) : Good P I β w a o v := by
  unfold eqSV at hq
  split at hq
  · rename_i cs ds
    split at hq
    · rename_i b hb
      obtain ⟨_, rfl⟩ := Prod.mk.inj hq
      have hx' := hx.inv_agg
      have hy' := hy.inv_agg
      have ex : ∃ xs, a.eval x = .agg xs := by generalize a.eval x = p at hx'; cases hx'; exact ⟨_, rfl⟩
      have ey : ∃ ys, a.eval y = .agg ys := by generalize a.eval y = p at hy'; cases hy'; exact ⟨_, rfl⟩
      obtain ⟨xs, ex⟩ := ex
      obtain ⟨ys, ey⟩ := ey
      rw [ex] at hx'
      rw [ey] at hy'
      have hg : P.eqGuardType P.depth t = false := by
        have hd : P.depth = (2 * (P.types.size + Made.depth)) + 1 + 1 := rfl
        rw [hd, Program.eqGuardType, hu]
        simp only [Array.any_eq_false']
        intro f hf
        have := eqGuardType_scalar (P := P) (cEqF_types hl f (by simpa using hf)) (2 * (P.types.size + Made.depth))
        simp [this]
      have hf : P.fieldsOf t = fs := by simp [Program.fieldsOf, hu]
      have heq : (Op.equal t (.agg xs) (.agg ys)).run P w = .ok b w := by
        have h1 := run_equalIn_struct (P := P) w 9999 t xs ys (by rw [hf]; exact hu) hst
        rw [hf] at h1
        have h2 := eqFs_run (P := P) (w := w) hx' hy' 9998 fs.toList l b hl hb
        show (Op.equalIn (9999 + 1) t (.agg xs) (.agg ys)).run P w = .ok b w
        rw [h1]; exact h2
      rcases hop with ⟨rfl, rfl⟩ | ⟨rfl, rfl⟩
      · refine ⟨.bool b, ?_, .pure (.bool b)⟩
        simp [execOp, ho, ex, ey, run_eqGuard_agg w _ t x y xs ys hg, binOp, heq]
      · refine ⟨.bool (!b), ?_, .pure (.bool (!b))⟩
        simp [execOp, ho, ex, ey, run_eqGuard_agg w _ t x y xs ys hg, binOp, heq]
    · exact (no_false hq hob).elim
  · exact (no_false hq hob).elim
end
end Go.Sx
