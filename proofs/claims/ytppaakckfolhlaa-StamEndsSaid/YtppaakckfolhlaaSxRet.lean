import Derived.Test.YtppaakckfolhlaaSxWps
namespace Go.Sx

def single : List DV → DV
  | [d] => d
  | l => .tup l
def cnt (κ : Nat) : List Nat → Nat
  | [] => 0
  | k :: l => if k = κ then cnt κ l + 1 else cnt κ l
/-- The keys that a result cannot take along. -/
def frzF (all : List Nat) : List DV → List Nat
  | [] => []
  | d :: l => (match d with
    | .ref κ _ _ => if cnt κ all = 1 then [] else [κ]
    | .rptr κ _ _ => if cnt κ all = 1 then [] else [κ]
    | d => keysOf d) ++ frzF all l
def outD (σ : Store) : DV → DV
  | .ref κ o n => if κ < 100000 then (match look σ κ with | some (.arr sz _ f) => .own sz n (shift o f) | _ => .junk) else .ref κ o n
  | .rptr κ 0 0 => if κ < 100000 then (match look σ κ with | some (.box sz d) => .obox sz d | _ => .junk) else .junk
  | d => d
def outL (σ : Store) : List DV → List DV
  | [] => []
  | d :: l => outD σ d :: outL σ l
def okOut : List DV → Bool
  | [] => true
  | d :: l => (match d with | .own _ _ _ => true | .obox _ _ => true | .ref κ _ _ => decide (100000 ≤ κ) | d => pureB d) && okOut l
def finish (k : Nat) (Q : DV → List Row → Prop) (ds : List DV) (st : St) : Prop :=
  let F := frzF (keysOfL ds) ds
  let ds1 := viewL 100000 F st.σ ds
  let st1 := st.freeze F
  let out := outL st1.σ ds1
  if okOut out = true then (if nodupB (keysOfL ds1) = true then (match rowsOf st1.σ 100000 k with | some rows => Q (single out) rows | none => False) else False) else False
/-- A result's place: a temporary, or a cell behind one. -/
abbrev RV := Nat × Option (Bool × Nat)
def resOb (st : St) : List RV → Prop
  | [] => True
  | (_, none) :: l => resOb st l
  | (t, some (g, n)) :: l => (loadV g n st (nth st.T t)).1 ∧ resOb st l
def resDs (st : St) : List RV → List DV
  | [] => []
  | (t, none) :: l => nth st.T t :: resDs st l
  | (t, some (g, n)) :: l => (loadV g n st (nth st.T t)).2 :: resDs st l
def cRes (P : Program) : List ResultVar → Option (List RV)
  | [] => some []
  | .tmp t :: l => (match cRes P l with | some r => some ((t, none) :: r) | none => none)
  | .cell a t :: l => (match tAgg P t, cRes P l with | some p, some r => some ((a, some p) :: r) | _, _ => none)
/-- What a body owes at its end. -/
def retQ (ts : List RV) (k : Nat) (Q : DV → List Row → Prop) : Ex → St → Prop
  | .normal, st => resOb st ts ∧ finish k Q (resDs st ts) st
  | .ret, st => resOb st ts ∧ finish k Q (resDs st ts) st
  | .exit _, _ => False

def undL : Nat → List DV
  | 0 => []
  | n + 1 => .und :: undL n
def initT (n : Nat) (ds : List DV) : List DV := cat ds (undL (n - len ds))

section
variable {P : Program} {md : Modes} {C : Ctx} {I : Imm} {β : Nat → Option Loc} {st : St} {a : Act} {w : World}

theorem mapM_res (hs : Sim C I β st a w) (f : ResultVar → Sem Value) (hf1 : ∀ t, f (.tmp t) = pure (a.tmps.getD t undef)) (hf2 : ∀ x t, f (.cell x t) = (do loadVar t (← asAddr (a.tmps.getD x undef)))) :
    ∀ (rs : List ResultVar) (ts : List RV), cRes P rs = some ts → resOb st ts → ∃ vs : List Value, (rs.mapM f).run P w = .ok vs w ∧ vs.length = ts.length ∧ (resDs st ts).length = ts.length ∧ ∀ j < ts.length, RepK I β (nth (resDs st ts) j) (vs.getD j undef)
  | [], ts, hc, _ => by
    obtain rfl := Option.some.inj hc
    exact ⟨[], rfl, rfl, rfl, fun j hj => by simp at hj⟩
  | .tmp t :: rs, ts, hc, ho => by
    simp only [cRes] at hc
    split at hc
    · rename_i r hr
      obtain rfl := Option.some.inj hc
      obtain ⟨vs, h1, h2, h3, h4⟩ := mapM_res hs f hf1 hf2 rs r hr ho
      refine ⟨a.tmps.getD t undef :: vs, ?_, by simp [h2], by simp [resDs, h3], fun j hj => ?_⟩
      · simp only [List.mapM_cons, hf1, pure_bind, Sem.run_bind, h1, Result.andThen_ok]
        rfl
      · cases j with
        | zero => simpa [resDs, nth] using hs.tmp t
        | succ j => simpa [resDs, nth] using h4 j (by simpa using hj)
    · cases hc
  | .cell x t :: rs, ts, hc, ho => by
    simp only [cRes] at hc
    split at hc
    · rename_i p r hp hr
      obtain ⟨g, n⟩ := p
      obtain rfl := Option.some.inj hc
      obtain ⟨ho1, ho2⟩ := ho
      obtain ⟨vs, h1, h2, h3, h4⟩ := mapM_res hs f hf1 hf2 rs r hr ho2
      obtain ⟨rv, k1, k2⟩ := load_good (P := P) hs hp (d := nth st.T x) (pv := a.tmps.getD x undef) rfl ho1 (hs.tmp x)
      have hptr : ∃ ad, a.tmps.getD x undef = .pointer (some ad) := by
        have ht := hs.tmp x
        have hq := ho1
        generalize nth st.T x = d at ht hq
        generalize a.tmps.getD x undef = pv at ht
        unfold loadV at hq
        split at hq
        · cases ht with
          | pure h => cases h
          | rptr => exact ⟨_, rfl⟩
        · cases ht with
          | pure h => cases h; exact ⟨_, rfl⟩
        · exact hq.elim
      obtain ⟨ad, had⟩ := hptr
      rw [had] at k1
      have hlv : (loadVar t ad).run P w = .ok rv w := by rw [← k1]; simp [Instr.loadAt, Instr.sureAddr]
      refine ⟨rv :: vs, ?_, by simp [h2], by simp [resDs, h3], fun j hj => ?_⟩
      · simp only [List.mapM_cons, hf2, had, Sem.run_bind, asAddr, h1, hlv, Result.andThen_ok, pure_bind]
        rfl
      · cases j with
        | zero => exact RepK.pure (β := β) k2
        | succ j => simpa [resDs, nth] using h4 j (by simpa using hj)
    · cases hc
theorem run_results (hs : Sim C I β st a w) {fn : Func} {ts : List RV} (hres : cRes P fn.results.toList = some ts) (ho : resOb st ts) :
    ∃ vs : List Value, (results fn a.tmps).run P w = .ok (if h : vs.toArray.size = 1 then vs.toArray[0] else .tuple vs.toArray) w ∧ vs.length = ts.length ∧ (resDs st ts).length = ts.length ∧ ∀ j < ts.length, RepK I β (nth (resDs st ts) j) (vs.getD j undef) := by
  have e : fn.results = fn.results.toList.toArray := by simp
  unfold results
  rw [e, List.mapM_toArray]
  simp only [Sem.run_bind, bind_map_left]
  have aux : ∀ f : ResultVar → Sem Value, (∀ t, f (.tmp t) = pure (a.tmps.getD t undef)) → (∀ x t, f (.cell x t) = (do loadVar t (← asAddr (a.tmps.getD x undef)))) →
      ∃ vs : List Value, (((fn.results.toList.mapM f).run P w).andThen fun l w' => (pure (if h : l.toArray.size = 1 then l.toArray[0] else .tuple l.toArray) : Sem Value).run P w') = .ok (if h : vs.toArray.size = 1 then vs.toArray[0] else .tuple vs.toArray) w ∧
        vs.length = ts.length ∧ (resDs st ts).length = ts.length ∧ ∀ j < ts.length, RepK I β (nth (resDs st ts) j) (vs.getD j undef) := by
    intro f hf1 hf2
    obtain ⟨vs, h1, h2⟩ := mapM_res (P := P) hs f hf1 hf2 fn.results.toList ts hres ho
    refine ⟨vs, ?_, h2⟩
    rw [h1]
    rfl
  exact aux _ (fun t => rfl) (fun x t => rfl)

def okOut1 : DV → Bool
  | .own _ _ _ => true
  | .obox _ _ => true
  | .ref κ _ _ => decide (100000 ≤ κ)
  | d => pureB d
theorem okOut_nth {l : List DV} (h : okOut l = true) {j : Nat} (hj : j < l.length) : okOut1 (nth l j) = true := by
  induction l generalizing j with
  | nil => simp at hj
  | cons d l ih =>
    simp only [okOut, Bool.and_eq_true] at h
    cases j with
    | zero =>
      simp only [nth]
      cases d <;> first | exact h.1 | rfl
    | succ j => exact ih h.2 (by simpa using hj)
theorem outL_length (σ : Store) (l : List DV) : (outL σ l).length = l.length := by induction l <;> simp [outL, *]
theorem nth_outL (σ : Store) (l : List DV) {j : Nat} (hj : j < l.length) : nth (outL σ l) j = outD σ (nth l j) := by
  induction l generalizing j with
  | nil => simp at hj
  | cons d l ih => cases j with
    | zero => rfl
    | succ j => exact ih (by simpa using hj)
theorem keysOfL_nodup {l : List DV} (h : (keysOfL l).Nodup) {i j : Nat} (hij : i ≠ j) {κ κ' : Nat} (h1 : κ ∈ keysOf (nth l i)) (h2 : κ' ∈ keysOf (nth l j)) : κ ≠ κ' := by
  induction l generalizing i j with
  | nil => simp [nth, keysOf] at h1
  | cons d l ih =>
    simp only [keysOfL] at h
    obtain ⟨n1, n2, n3⟩ := List.nodup_append.1 h
    cases i with
    | zero => cases j with
      | zero => exact absurd rfl hij
      | succ j => exact n3 κ h1 κ' (nth_mem_keys h2)
    | succ i => cases j with
      | zero => exact fun e => n3 κ' h2 κ (nth_mem_keys h1) e.symm
      | succ j => exact ih n2 (by omega) h1 h2

theorem outD_res (hs : Sim C I β st a w) {d : DV} {v : Value} (hr : RepK I β d v) (hok : okOut1 (outD st.σ d) = true) :
    ∃ l, ResAt I C.β0 C.w0.heap.size w l (outD st.σ d) v ∧ (isFresh (outD st.σ d) = true → ∃ κ l0, κ ∈ keysOf d ∧ β κ = some l0 ∧ l.blk = l0.blk) := by
  have plain : outD st.σ d = d → okOut1 d = pureB d → isFresh d = false → ∃ l, ResAt I C.β0 C.w0.heap.size w l (outD st.σ d) v ∧ (isFresh (outD st.σ d) = true → ∃ κ l0, κ ∈ keysOf d ∧ β κ = some l0 ∧ l.blk = l0.blk) := by
    intro h1 h2 h3
    rw [h1] at hok ⊢
    rw [h2] at hok
    have hrep := hr.toRep hok
    refine ⟨⟨none, 0, 0, 0, 0⟩, ?_, fun h => by rw [h3] at h; cases h⟩
    cases d <;> first | (cases hok; done) | exact hrep | cases h3
  cases d with
  | ref κ o n =>
    simp only [outD] at hok ⊢
    by_cases hκ : κ < 100000
    case neg =>
      rw [if_neg hκ]
      have hge : refKey ≤ κ := Nat.le_of_not_lt hκ
      refine ⟨⟨none, 0, 0, 0, 0⟩, ?_, fun h => by cases h⟩
      cases hr with
      | pure h => cases h
      | ref _ _ _ cap l b ad g1 g2 g3 g4 g5 g6 => exact RepK.ref κ o n cap l b ad (hs.refs κ l hge g1) g2 g3 g4 g5 g6
      | refnil _ l ao g1 g2 => exact RepK.refnil κ l ao (hs.refs κ l hge g1) g2
    case pos =>
      rw [if_pos hκ] at hok ⊢
      cases hl : look st.σ κ with
      | none => simp only [hl] at hok; cases hok
      | some r =>
        cases r with
        | box sz d => simp only [hl] at hok; cases hok
        | arr sz n0 f =>
          simp only [hl] at hok ⊢
          obtain ⟨l0, hl0, hrow⟩ := hs.rows.rows κ _ hl
          have hpos := hrow.pos
          have hsz := hrow.sz
          have hn := hrow.n
          simp only [Row.sz, Row.n] at hpos hsz hn
          cases hr with
          | pure h => cases h
          | ref _ _ _ cap l b ad g1 g2 g3 g4 g5 g6 =>
            rw [hl0] at g1
            obtain rfl := Option.some.inj g1
            have hA := hrow.at_ b g2
            have hfit := hA.fits
            simp only [Row.sz, Row.n] at hfit
            have hle : (o + n) * sz ≤ n0 * sz := Nat.mul_le_mul_right _ (by omega)
            rw [Nat.add_mul] at hle
            refine ⟨⟨l0.blk, l0.off + o * sz, sz, n, l0.tot⟩, ⟨⟨rfl, rfl, hpos, ?_, ?_⟩, ?_, ?_⟩, fun _ => ⟨κ, l0, by simp [keysOf], hl0, rfl⟩⟩
            · intro b' hb'
              rw [g2] at hb'
              obtain rfl := Option.some.inj hb'
              refine ⟨hA.there, ?_, hA.free, ?_, hA.apart, ?_⟩
              · intro i j hi hj
                simp only [Row.n, Row.sz, Row.f] at hi hj ⊢
                obtain ⟨u, h7, h8⟩ := hA.val (o + i) j (by simp only [Row.n]; omega) hj
                refine ⟨u, ?_, by rw [shift_eq]; exact h8⟩
                rw [← h7]
                simp only [Row.sz]
                congr 2
                rw [Nat.add_mul]; omega
              · simp only [Row.n, Row.sz]; omega
              · intro i hi
                simp only [Row.n, Row.sz, Row.f] at hi ⊢
                rw [shift_eq]; exact hA.elem _ (by simp only [Row.n]; omega)
            · intro hb; rw [g2] at hb; cases hb
            · refine RepK.ref 0 0 n cap _ b ad rfl g2 g3 (by simp) ?_ ?_
              · simp only [Nat.zero_add]; rw [hsz, Nat.add_mul] at g5; omega
              · intro hc; rw [g6 hc, hsz]; simp
            · intro b' hb'
              rw [g2] at hb'
              obtain rfl := Option.some.inj hb'
              exact ⟨hs.own κ l0 _ hκ hl0 g2, hs.rows.lt κ l0 _ hl0 g2⟩
          | refnil _ l ao g1 g2 =>
            rw [hl0] at g1
            obtain rfl := Option.some.inj g1
            refine ⟨⟨none, 0, sz, 0, 0⟩, ⟨⟨rfl, rfl, hpos, fun b hb => ?_, fun _ => rfl⟩, RepK.refnil 0 _ ao rfl rfl, fun b hb => ?_⟩, fun _ => ⟨κ, l0, by simp [keysOf], hl0, g2.symm⟩⟩
            · cases hb
            · cases hb
  | rptr κ i off =>
    cases i with
    | succ i => exact (Bool.noConfusion hok)
    | zero => cases off with
      | succ off => exact (Bool.noConfusion hok)
      | zero =>
        simp only [outD] at hok ⊢
        split at hok
        · rename_i hκ
          rw [if_pos hκ]
          cases hl : look st.σ κ with
          | none => simp only [hl] at hok; cases hok
          | some r =>
            cases r with
            | arr sz n0 f => simp only [hl] at hok; cases hok
            | box sz d =>
              simp only [hl] at hok ⊢
              obtain ⟨l0, hl0, hrow⟩ := hs.rows.rows κ _ hl
              cases hr with
              | pure h => cases h
              | rptr _ _ _ l b g1 g2 g3 =>
                rw [hl0] at g1
                obtain rfl := Option.some.inj g1
                refine ⟨l0, ⟨hrow, RepK.rptr 0 0 0 l0 b rfl g2 g3, ?_⟩, fun _ => ⟨κ, l0, by simp [keysOf], hl0, rfl⟩⟩
                intro b' hb'
                exact ⟨hs.own κ l0 _ hκ hl0 hb', hs.rows.lt κ l0 _ hl0 hb'⟩
        · cases hok
  | own sz n f => cases hr with | pure h => cases h
  | obox sz d => cases hr with | pure h => cases h
  | _ => exact plain rfl rfl rfl
end
end Go.Sx
