import Derived.Test.YtppaakckfolhlaaSxUse
/-! Running code on data that is known: what the run comes to is the contract. -/
namespace Go.Sx

def grd {α : Type} (b : Bool) (v : α) : Option α := match b with | true => some v | false => none

def bndE (st : St) : Option Arg → Option (Option Nat)
  | none => some none
  | some x => match ev st x with | .int _ n => grd (decide (0 ≤ n)) (some n.toNat) | _ => none
def rngB (a b n : Nat) : Bool := match Nat.ble a b with | true => Nat.ble b n | false => false
def topB (h2 n : Nat) : Option Nat → Bool
  | some m => rngB h2 m n
  | none => true
def tightE (t : Bool) (h m : Option Nat) (h2 : Nat) : Bool :=
  match m with
  | some m => decide (m = h2)
  | none => (match h with | none => t | some _ => false)
def lstE (sz : Nat) (t : Bool) (n : Nat) (f : Nat → DV) (l h m : Option Nat) : Option DV :=
  match l with
  | none => grd (rngB 0 (orN h n) n && topB (orN h n) n m) (.lst sz (tightE t h m (orN h n)) (orN h n) f)
  | some l2 => grd (rngB l2 (orN h n) n && topB (orN h n) n m) (.lst sz (tightE t h m (orN h n)) (orN h n - l2) (fun i => f (l2 + i)))
def refE (κ o n : Nat) (l h m : Option Nat) : Option DV :=
  match l with
  | none => grd (rngB 0 (orN h n) n && topB (orN h n) n m) (.ref κ o (orN h n))
  | some l2 => grd (rngB l2 (orN h n) n && topB (orN h n) n m) (.ref κ (o + l2) (orN h n - l2))
def sliceBE (st : St) (esize : Nat) (x : DV) (l h m : Option Nat) : Option DV :=
  match x with
  | .str s => (match m with
    | some _ => none
    | none => if esize = 0 then grd (rngB (orN l 0) (orN h s.size) s.size) (.str (s.extract (orN l 0) (orN h s.size))) else none)
  | .lst sz t n f => if sz = esize then lstE sz t n f l h m else none
  | .nils => if esize = 0 then none else grd (rngB (orN l 0) (orN h 0) 0 && rngB (orN h 0) (orN m 0) 0) .nils
  | .ref κ o n => (match look st.σ κ with
    | some r => if r.sz = esize then refE κ o n l h m else none
    | none => none)
  | _ => none
def sliceE (st : St) (esize : Nat) (x : DV) (lo hi mx : Option Arg) : Option DV :=
  match bndE st lo, bndE st hi, bndE st mx with
  | some l, some h, some m => sliceBE st esize x l h m
  | _, _, _ => none

def okBinE (op : BinOp) : DV → DV → Option DV
  | .int k a, .int k' b =>
    match op with
    | .shl | .shr => grd (decide (0 ≤ b)) (.int k (arithF op k a b))
    | .quo | .rem => if k = k' then grd (decide (b ≠ 0)) (.int k (arithF op k a b)) else none
    | .add | .sub | .mul | .and | .or | .xor | .andNot => if k = k' then some (.int k (arithF op k a b)) else none
    | _ => if k = k' then some (.bool (cmpF op a b)) else none
  | .str a, .str b => match op with
    | .add => grd (decide (((a.size + b.size : Nat) : Int) ≤ 9223372036854775807)) (.str (a ++ b))
    | .eql | .neq | .lss | .leq | .gtr | .geq => some (.bool (scmpF op a b))
    | _ => none
  | _, _ => none
def boolBinE (op : BinOp) (a b : Bool) : Option DV :=
  match op with
  | .eql => some (.bool (a == b))
  | .neq => some (.bool (!(a == b)))
  | _ => none
def notE : DV → DV
  | .tt => .ff
  | .ff => .tt
  | .bool b => .bool (!b)
  | _ => .junk
def nilBinE (op : BinOp) (r : DV) : Option DV :=
  match op with
  | .eql => some r
  | .neq => some (notE r)
  | _ => none
def binE (cls : Nat) (op : BinOp) (x y : DV) : Option DV :=
  match cls with
  | 0 => okBinE op x y
  | 1 => (match boolOf x, boolOf y with
    | some a, some b => boolBinE op a b
    | _, _ => none)
  | _ => (match nilEq x y with
    | some r => nilBinE op r
    | none => none)
def unE (op : UnOp) : DV → Option DV
  | .int k n => (match op with | .neg | .xor => some (.int k (unF op k n)) | _ => none)
  | d => (match op, boolOf d with | .not, some _ => some (notE d) | _, _ => none)
def lenE (s : Bool) (x : DV) : Option DV :=
  match s with
  | true => (match x with
    | .str s => some (.int .i64 (s.size : Nat))
    | _ => none)
  | false => (match x with
    | .lst _ _ n _ => some (.int .i64 (n : Nat))
    | .ref _ _ n => some (.int .i64 (n : Nat))
    | .nils => some (.int .i64 0)
    | _ => none)
def mmE (k : IntKind) (f : Int → Int → Int) : Int → List DV → Option DV
  | a, [] => some (.int k a)
  | a, .int k' b :: r => if k = k' then mmE k f (f a b) r else none
  | _, _ => none
def mmE0 (f : Int → Int → Int) : List DV → Option DV
  | .int k a :: r => mmE k f a r
  | _ => none
def loadEE (agg : Bool) (size off : Nat) (d : DV) : Option DV := grd (Nat.ble (off + size) (len (cells d))) (part agg size d off)
def loadVE (agg : Bool) (size : Nat) (st : St) : DV → Option DV
  | .rptr κ i off => (match look st.σ κ with | some r => loadEE agg size off (r.f i) | none => none)
  | .eptr _ _ f i off => loadEE agg size off (f i)
  | _ => none
def nilE : DV → Option DV
  | .rptr κ i off => some (.rptr κ i off)
  | .eptr s n f i off => some (.eptr s n f i off)
  | .fn g a b => some (.fn g a b)
  | _ => none
def fieldAddrE (o : Nat) : DV → Option DV
  | .rptr κ i off => some (.rptr κ i (off + o))
  | .eptr sz n g i off => some (.eptr sz n g i (off + o))
  | _ => none
def inbB (j : Int) (n : Nat) : Bool := decide (0 ≤ j ∧ j < n)
def indexAddrE (st : St) (esize : Nat) (x i : DV) : Option DV :=
  match x, i with
  | .lst sz _ n f, .int _ j => if sz = esize then grd (inbB j n) (.eptr sz n f j.toNat 0) else none
  | .ref κ o n, .int _ j => (match look st.σ κ with
    | some r => if r.sz = esize then grd (inbB j n) (.rptr κ (match o with | 0 => j.toNat | o + 1 => o + 1 + j.toNat) 0) else none
    | none => none)
  | _, _ => none
def indexE (x i : DV) : Option DV :=
  match x, i with
  | .str s, .int _ j => grd (inbB j s.size) (.int .u8 (byteF s j.toNat))
  | _, _ => none
def contE (st : St) (esize : Nat) : DV → Option (Nat × (Nat → DV))
  | .lst sz _ n f => if sz = esize then some (n, f) else none
  | .nils => some (0, fun _ => .junk)
  | .ref κ o n => (match look st.σ κ with | some r => if r.sz = esize then some (n, shift o r.f) else none | none => none)
  | .str s => if 1 = esize then some (s.size, fun i => .int .u8 (byteF s i)) else none
  | _ => none
def u8B : DV → Bool
  | .int .u8 _ => true
  | _ => false
def allTo (p : Nat → Bool) : Nat → Bool
  | 0 => true
  | n + 1 => match p n with | true => allTo p n | false => false
def toStrE (st : St) (x : DV) : Option DV :=
  match x with
  | .str _ => none
  | x => match contE st 1 x with
    | some (n, f) => grd (allTo (fun i => u8B (f i)) n) (.str (mkStrF n f))
    | none => none
def eq1E (k : Nat) (d e : DV) : Option Bool :=
  match k with
  | 0 => (match d, e with | .int k a, .int k' b => if k = k' then some (a == b) else none | _, _ => none)
  | 1 => (match d, e with | .str a, .str b => some (scmpF .eql a b) | _, _ => none)
  | _ => (match boolOf d, boolOf e with | some a, some b => some (a == b) | _, _ => none)
def eqFsE (cs ds : List DV) : List (Nat × Nat) → Option Bool
  | [] => some true
  | (o, k) :: r => match eq1E k (nth cs o) (nth ds o), eqFsE cs ds r with
    | some b, some c => some (b && c)
    | _, _ => none
def eqSE (neg : Bool) (fs : List (Nat × Nat)) (x y : DV) : Option DV :=
  match x, y with
  | .agg cs, .agg ds => (match eqFsE cs ds fs with
    | some b => some (.bool (match neg with | true => !b | false => b))
    | none => none)
  | _, _ => none

def quietE (st : St) : ROp → Option DV
  | .move x => some (ev st x)
  | .load agg size a => loadVE agg size st (ev st a)
  | .nilCheck x => nilE (ev st x)
  | .binOp c op x y => binE c op (ev st x) (ev st y)
  | .eqS neg fs x y => eqSE neg fs (ev st x) (ev st y)
  | .buildQ zero ps => (match fillP st ps zero with | some cs => some (.agg cs) | none => none)
  | .unOp op x => unE op (ev st x)
  | .convI k x => (match ev st x with | .int _ n => some (.int k (k.wrap n)) | _ => none)
  | .convS x => (match ev st x with | .str s => some (.str s) | _ => none)
  | .toStr x => toStrE st (ev st x)
  | .slice es x lo hi mx => sliceE st es (ev st x) lo hi mx
  | .fieldAddr o x => fieldAddrE o (ev st x)
  | .field agg size off x => (match ev st x with | .agg cs => loadEE agg size off (.agg cs) | _ => none)
  | .indexAddr es x i => indexAddrE st es (ev st x) (ev st i)
  | .index x i => indexE (ev st x) (ev st i)
  | .extract x j => (match ev st x with | .tup ds => grd (Nat.blt j (len ds)) (nth ds j) | _ => none)
  | .makeFunc g a b => some (.fn g (evL st a) (evL st b))
  | .len s x => lenE s (ev st x)
  | .max xs => mmE0 (fun x y => if y > x then y else x) (evL st xs)
  | .min xs => mmE0 (fun x y => if y < x then y else x) (evL st xs)
  | _ => none

theorem grd_eq {α : Type} {b : Bool} {v w : α} (h : grd b v = some w) : b = true ∧ v = w := by
  cases b <;> simp [grd] at h ⊢; exact h
theorem rngB_eq {a b n : Nat} (h : rngB a b n = true) : a ≤ b ∧ b ≤ n := by
  unfold rngB at h
  split at h
  · rename_i h1; exact ⟨Nat.le_of_ble_eq_true h1, Nat.le_of_ble_eq_true h⟩
  · cases h

/-- What is asked is so, and that is what is given. -/
def Ok (v : DV) (q : QV) : Prop := q.1 ∧ q.2 = v
section
variable {P : Program}
theorem bndE_eq {st : St} {x : Option Arg} {v : Option Nat} (h : bndE st x = some v) : (bnd (std P) st x).1 ∧ (bnd (std P) st x).2 = v := by
  unfold bndE at h
  unfold bnd
  split at h
  · obtain rfl := Option.some.inj h; exact ⟨trivial, rfl⟩
  · rename_i x
    dsimp only
    generalize ev st x = d at h ⊢
    cases d <;> first | cases h | skip
    obtain ⟨h1, rfl⟩ := grd_eq h
    have h2 := of_decide_eq_true h1
    exact ⟨h2, rfl⟩
theorem topB_eq {a n : Nat} {m : Option Nat} (h : topB a n m = true) : topV (std P) a n m := by
  cases m with
  | none => trivial
  | some m => exact rngB_eq h
theorem sliceBE_eq {st : St} {es : Nat} {x v : DV} {l hh m : Option Nat} (h : sliceBE st es x l hh m = some v) : Ok v (sliceB (std P) st es x l hh m) := by
  unfold sliceBE at h
  unfold sliceB
  split at h
  · cases m with
    | some _ => cases h
    | none =>
      dsimp only at h ⊢
      split at h
      · rename_i hes
        rw [if_pos hes]
        obtain ⟨h1, rfl⟩ := grd_eq h
        exact ⟨rngB_eq h1, rfl⟩
      · cases h
  · dsimp only
    split at h
    · rename_i hsz
      rw [if_pos hsz]
      unfold lstE at h
      unfold lstV
      cases l <;> (dsimp only at h ⊢; obtain ⟨h1, rfl⟩ := grd_eq h; rw [Bool.and_eq_true] at h1; exact ⟨⟨rngB_eq h1.1, topB_eq h1.2⟩, rfl⟩)
    · cases h
  · dsimp only
    split at h
    · cases h
    · rename_i hes
      rw [if_neg hes]
      obtain ⟨h1, rfl⟩ := grd_eq h
      rw [Bool.and_eq_true] at h1
      exact ⟨⟨rngB_eq h1.1, rngB_eq h1.2⟩, rfl⟩
  · dsimp only
    split at h
    · rename_i r hr
      rw [hr]
      dsimp only
      split at h
      · rename_i hsz
        rw [if_pos hsz]
        unfold refE at h
        unfold refV
        cases l <;> (dsimp only at h ⊢; obtain ⟨h1, rfl⟩ := grd_eq h; rw [Bool.and_eq_true] at h1; exact ⟨⟨rngB_eq h1.1, topB_eq h1.2⟩, rfl⟩)
      · cases h
    · cases h
  · cases h
theorem sliceE_eq {st : St} {es : Nat} {x v : DV} {lo hi mx : Option Arg} (h : sliceE st es x lo hi mx = some v) : Ok v (sliceV (std P) st es x lo hi mx) := by
  unfold sliceE at h
  split at h
  · rename_i l hh m e1 e2 e3
    obtain ⟨g1, f1⟩ := bndE_eq (P := P) e1
    obtain ⟨g2, f2⟩ := bndE_eq (P := P) e2
    obtain ⟨g3, f3⟩ := bndE_eq (P := P) e3
    have := sliceBE_eq (P := P) h
    unfold sliceV
    dsimp only
    rw [f1, f2, f3]
    exact ⟨⟨g1, g2, g3, this.1⟩, this.2⟩
  · cases h
theorem okBinE_eq {op : BinOp} {x y v : DV} (h : okBinE op x y = some v) : Ok v (okBin (std P) op x y) := by
  unfold okBinE at h
  unfold okBin
  split at h
  · rename_i k a k' b
    cases op <;> dsimp only at h ⊢
    all_goals first
      | (obtain ⟨h1, rfl⟩ := grd_eq h; have h2 := of_decide_eq_true h1; exact ⟨h2, rfl⟩)
      | (by_cases hk : k = k'
         · rw [if_pos hk] at h ⊢
           first
             | (obtain ⟨h1, rfl⟩ := grd_eq h; have h2 := of_decide_eq_true h1; exact ⟨h2, rfl⟩)
             | (obtain rfl := Option.some.inj h; exact ⟨trivial, rfl⟩)
         · rw [if_neg hk] at h; cases h)
  · cases op <;> dsimp only at h ⊢
    all_goals first
      | (obtain ⟨h1, rfl⟩ := grd_eq h; have h2 := of_decide_eq_true h1; exact ⟨h2, rfl⟩)
      | (obtain rfl := Option.some.inj h; exact ⟨trivial, rfl⟩)
      | cases h
  · cases h
theorem boolBinE_eq {op : BinOp} {a b : Bool} {v : DV} (h : boolBinE op a b = some v) : Ok v (boolBin (std P) op a b) := by
  unfold boolBinE at h
  unfold boolBin
  cases op <;> dsimp only at h ⊢
  all_goals first
    | (obtain rfl := Option.some.inj h; exact ⟨trivial, rfl⟩)
    | cases h
theorem nilBinE_eq {op : BinOp} {r v : DV} (h : nilBinE op r = some v) : Ok v (nilBin (std P) op r) := by
  unfold nilBinE at h
  unfold nilBin
  cases op <;> dsimp only at h ⊢
  all_goals first
    | (obtain rfl := Option.some.inj h; refine ⟨trivial, ?_⟩; first | rfl | (cases r <;> rfl))
    | cases h
theorem binE_eq {c : Nat} {op : BinOp} {x y v : DV} (h : binE c op x y = some v) : Ok v (binV (std P) c op x y) := by
  rcases c with _ | _ | c
  · exact okBinE_eq (P := P) h
  · have h' : (match boolOf x, boolOf y with | some a, some b => boolBinE op a b | _, _ => none) = some v := h
    show Ok v (match boolOf x, boolOf y with | some a, some b => boolBin (std P) op a b | _, _ => no)
    split at h'
    · rename_i a b e1 e2
      exact boolBinE_eq h'
    · cases h'
  · have h' : (match nilEq x y with | some r => nilBinE op r | none => none) = some v := h
    show Ok v (match nilEq x y with | some r => nilBin (std P) op r | none => no)
    split at h'
    · rename_i r e
      exact nilBinE_eq h'
    · cases h'
theorem loadEE_eq {agg : Bool} {size off : Nat} {d v : DV} (h : loadEE agg size off d = some v) : Ok v (loadE agg size off d) := by
  obtain ⟨h1, rfl⟩ := grd_eq h
  unfold loadE
  rw [if_pos (Nat.le_of_ble_eq_true h1)]
  exact ⟨trivial, rfl⟩
theorem loadVE_eq {agg : Bool} {size : Nat} {st : St} {d v : DV} (h : loadVE agg size st d = some v) : Ok v (loadV agg size st d) := by
  unfold loadVE at h
  unfold loadV
  split at h
  · dsimp only
    split at h
    · rename_i r hr; rw [hr]; exact loadEE_eq h
    · cases h
  · exact loadEE_eq h
  · cases h
theorem contE_eq {st : St} {es : Nat} {d : DV} {p : Nat × (Nat → DV)} (h : contE st es d = some p) : cont (std P) st es d = some p := h
theorem allTo_eq {p : Nat → Bool} : ∀ {n : Nat}, allTo p n = true → ∀ i < n, p i = true
  | 0, _, i, hi => by omega
  | n + 1, h, i, hi => by
    simp only [allTo] at h
    split at h
    · rename_i hn
      by_cases e : i = n
      · subst e; exact hn
      · exact allTo_eq h i (by omega)
    · cases h
theorem toStrE_eq {st : St} {x v : DV} (h : toStrE st x = some v) : Ok v (toStrV (std P) st x) := by
  have fin : (match contE st 1 x with | some (n, f) => grd (allTo (fun i => u8B (f i)) n) (.str (mkStrF n f)) | none => none) = some v →
      Ok v (match cont (std P) st 1 x with | some (n, f) => ((∀ i < n, ∃ x, f i = DV.int .u8 x), DV.str (mkStrF n f)) | none => no) := by
    intro h
    split at h
    · rename_i n f e
      rw [contE_eq (P := P) e]
      obtain ⟨h1, rfl⟩ := grd_eq h
      refine ⟨fun i hi => ?_, rfl⟩
      have := allTo_eq h1 i hi
      generalize f i = d at this ⊢
      unfold u8B at this
      split at this
      · exact ⟨_, rfl⟩
      · cases this
    · cases h
  unfold toStrE at h
  cases x
  case str => cases h
  all_goals exact fin h
theorem eqFsE_eq {cs ds : List DV} : ∀ {fs : List (Nat × Nat)} {b : Bool}, eqFsE cs ds fs = some b → eqFs (std P) cs ds fs = some b
  | [], b, h => h
  | (o, k) :: r, b, h => by
    simp only [eqFsE] at h
    simp only [eqFs]
    split at h
    · rename_i b' c' e1 e2
      rw [eqFsE_eq e2]
      have : eq1 (std P) k (nth cs o) (nth ds o) = some b' := by
        rw [← e1]; rfl
      rw [this]; exact h
    · cases h
theorem mmE_eq {k : IntKind} {f : Int → Int → Int} : ∀ {l : List DV} {a : Int} {v : DV}, mmE k f a l = some v → Ok v (mmV k f a l)
  | [], a, v, h => by obtain rfl := Option.some.inj h; exact ⟨trivial, rfl⟩
  | d :: r, a, v, h => by
    unfold mmE at h
    unfold mmV
    cases d <;> first | cases h | skip
    dsimp only at h ⊢
    split at h
    · rename_i hk; rw [if_pos hk]; exact mmE_eq h
    · cases h
theorem mmE0_eq {f : Int → Int → Int} {l : List DV} {v : DV} (h : mmE0 f l = some v) : Ok v (mmV0 f l) := by
  unfold mmE0 at h
  unfold mmV0
  split at h
  · exact mmE_eq h
  · cases h
theorem quietE_eq {st : St} {op : ROp} {v : DV} (h : quietE st op = some v) : ∃ q, quietV (std P) st op = some q ∧ Ok v q := by
  cases op <;> simp only [quietE] at h <;> simp only [quietV]
  case move => obtain rfl := Option.some.inj h; exact ⟨_, rfl, trivial, rfl⟩
  case load => exact ⟨_, rfl, loadVE_eq h⟩
  case nilCheck x =>
    refine ⟨_, rfl, ?_⟩
    generalize ev st x = d at h ⊢
    unfold nilE at h; unfold nilV
    cases d <;> first | (obtain rfl := Option.some.inj h; exact ⟨trivial, rfl⟩) | cases h
  case binOp => exact ⟨_, rfl, binE_eq h⟩
  case eqS neg fs x y =>
    refine ⟨_, rfl, ?_⟩
    generalize ev st x = d at h ⊢
    generalize ev st y = e at h ⊢
    unfold eqSE at h; unfold eqSV
    split at h
    · dsimp only
      split at h
      · rename_i b hb
        rw [eqFsE_eq hb]
        obtain rfl := Option.some.inj h
        exact ⟨trivial, rfl⟩
      · cases h
    · cases h
  case buildQ =>
    refine ⟨_, rfl, ?_⟩
    split at h
    · rename_i cs e; rw [e]; obtain rfl := Option.some.inj h; exact ⟨trivial, rfl⟩
    · cases h
  case unOp op x =>
    refine ⟨_, rfl, ?_⟩
    generalize ev st x = d at h ⊢
    cases d <;> cases op <;> first | (obtain rfl := Option.some.inj h; exact ⟨trivial, rfl⟩) | cases h
  case convI k x =>
    refine ⟨_, rfl, ?_⟩
    generalize ev st x = d at h ⊢
    cases d <;> first | (obtain rfl := Option.some.inj h; exact ⟨trivial, rfl⟩) | cases h
  case convS x =>
    refine ⟨_, rfl, ?_⟩
    generalize ev st x = d at h ⊢
    cases d <;> first | (obtain rfl := Option.some.inj h; exact ⟨trivial, rfl⟩) | cases h
  case toStr => exact ⟨_, rfl, toStrE_eq h⟩
  case slice => exact ⟨_, rfl, sliceE_eq h⟩
  case fieldAddr o x =>
    refine ⟨_, rfl, ?_⟩
    generalize ev st x = d at h ⊢
    cases d <;> first | (obtain rfl := Option.some.inj h; exact ⟨trivial, rfl⟩) | cases h
  case field agg size off x =>
    refine ⟨_, rfl, ?_⟩
    generalize ev st x = d at h ⊢
    cases d <;> first | cases h | exact loadEE_eq h
  case indexAddr es x i =>
    refine ⟨_, rfl, ?_⟩
    generalize ev st x = d at h ⊢
    generalize ev st i = j at h ⊢
    unfold indexAddrE at h; unfold indexAddrV
    split at h
    · dsimp only
      split at h
      · rename_i hsz
        rw [if_pos hsz]
        obtain ⟨h1, rfl⟩ := grd_eq h
        have h2 := of_decide_eq_true h1
        exact ⟨h2, rfl⟩
      · cases h
    · dsimp only
      split at h
      · rename_i r hr
        rw [hr]
        dsimp only
        split at h
        · rename_i hsz
          rw [if_pos hsz]
          obtain ⟨h1, rfl⟩ := grd_eq h
          have h2 := of_decide_eq_true h1
          refine ⟨h2, ?_⟩
          first | rfl | (dsimp only; congr 1; unfold addN; split <;> rfl)
        · cases h
      · cases h
    · cases h
  case index x i =>
    refine ⟨_, rfl, ?_⟩
    generalize ev st x = d at h ⊢
    generalize ev st i = j at h ⊢
    unfold indexE at h; unfold indexV
    split at h
    · obtain ⟨h1, rfl⟩ := grd_eq h
      have h2 := of_decide_eq_true h1
      exact ⟨h2, rfl⟩
    · cases h
  case extract x j =>
    refine ⟨_, rfl, ?_⟩
    generalize ev st x = d at h ⊢
    cases d <;> first | cases h | skip
    rename_i ds
    dsimp only at h ⊢
    obtain ⟨h1, rfl⟩ := grd_eq h
    have h2 : j < len ds := by simpa [Nat.blt_eq] using h1
    rw [if_pos h2]; exact ⟨trivial, rfl⟩
  case makeFunc => obtain rfl := Option.some.inj h; exact ⟨_, rfl, trivial, rfl⟩
  case len s x =>
    refine ⟨_, rfl, ?_⟩
    generalize ev st x = d at h ⊢
    cases s <;> cases d <;> first | (obtain rfl := Option.some.inj h; exact ⟨trivial, rfl⟩) | cases h
  case max => exact ⟨_, rfl, mmE0_eq h⟩
  case min => exact ⟨_, rfl, mmE0_eq h⟩
  all_goals cases h
end
end Go.Sx
