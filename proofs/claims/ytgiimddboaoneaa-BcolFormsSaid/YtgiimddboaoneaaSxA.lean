import Derived.Calls
import Derived.Orders
import Derived.Deep.AppendSrc
import Derived.Deep.MidRow
import Derived.Laws.Slices
import Derived.Laws.BytesArg
import Derived.Laws.StructEq
/-! Pure data, states and the verification conditions of the model's code. -/
namespace Go.Sx

inductive DV where
  | int (k : IntKind) (n : Int)
  | bool (b : Bool)
  | tt | ff
  | str (s : ByteArray)
  | nilp | nilf | nili | nils
  | lst (sz : Nat) (tight : Bool) (n : Nat) (f : Nat → DV)
  | eptr (sz n : Nat) (f : Nat → DV) (i off : Nat)
  | ref (κ o n : Nat)
  | rptr (κ i off : Nat)
  | agg (cs : List DV)
  | fn (g : FuncId) (fst cap : List DV)
  | tup (ds : List DV)
  | own (sz n : Nat) (f : Nat → DV)
  | obox (sz : Nat) (d : DV)
  | und
  | junk
  deriving Inhabited

inductive Row where
  | box (sz : Nat) (d : DV)
  | arr (sz n : Nat) (f : Nat → DV)

def Row.sz : Row → Nat | .box s _ => s | .arr s _ _ => s
def Row.n : Row → Nat | .box _ _ => 1 | .arr _ n _ => n
def Row.f : Row → Nat → DV | .box _ d => fun _ => d | .arr _ _ f => f

abbrev Store := List (Nat × Row)

structure St where
  T : List DV
  σ : Store

inductive Ex where
  | normal
  | exit (id : Nat)
  | ret

/-- What cbv is not to look into: the names of the leaves. -/
inductive Lf : Type → Type where
  | arith : Lf (BinOp → IntKind → Int → Int → Int)
  | cmp : Lf (BinOp → Int → Int → Bool)
  | wrap : Lf (IntKind → Int → Int)
  | un : Lf (UnOp → IntKind → Int → Int)
  | beq : Lf (Bool → Bool → Bool)
  | bnot : Lf (Bool → Bool)
  | band : Lf (Bool → Bool → Bool)
  | scmp : Lf (BinOp → ByteArray → ByteArray → Bool)
  | scat : Lf (ByteArray → ByteArray → ByteArray)
  | ssize : Lf (ByteArray → Nat)
  | byte : Lf (ByteArray → Nat → Int)
  | sub : Lf (ByteArray → Nat → Nat → ByteArray)
  | mkStr : Lf (Nat → (Nat → DV) → ByteArray)
  | imax : Lf (Int → Int → Int)
  | imin : Lf (Int → Int → Int)
  | toNat : Lf (Int → Nat)
  | ofNat : Lf (Nat → Int)
  | nadd : Lf (Nat → Nat → Nat)
  | nsub : Lf (Nat → Nat → Nat)
  | nmin : Lf (Nat → Nat → Nat)
  | neqb : Lf (Nat → Nat → Bool)
  | appF : Lf (Nat → (Nat → DV) → (Nat → DV) → Nat → DV)
  | setF : Lf ((Nat → DV) → Nat → Nat → List DV → Nat → DV)
  | cpyF : Lf (Nat → Nat → (Nat → DV) → (Nat → DV) → Nat → DV)
  | clrF : Lf (Nat → Nat → DV → (Nat → DV) → Nat → DV)
  | inb : Lf (Int → Nat → Prop)
  | okOp : Lf (BinOp → Int → Prop)
  | okCat : Lf (ByteArray → ByteArray → Prop)
  | rng : Lf (Nat → Nat → Nat → Prop)
  | okI : Lf (Int → Prop)
  | room : Lf (Nat → Nat → Prop)
  | isT : Lf (Bool → Prop)
  | okApp : Lf (Nat → Nat → Prop)
  | mkOk : Lf (Int → Int → Nat → Prop)
  | bytes : Lf (Nat → (Nat → DV) → Prop)
  | br : Lf (Bool → (Unit → Prop) → (Unit → Prop) → Prop)
  | join : Lf ((St → Prop) → St → Prop)
  | unk : Lf (Nat → (Bool → Prop) → Prop)
  | call : Lf (FuncId → List DV → Nat → St → (DV → St → Prop) → Prop)
  | lend : Lf (FuncId → List DV → Nat → St → (DV → St → Prop) → Prop)
  | refs : Lf (FuncId → List DV → Nat → St → (DV → St → Prop) → Prop)
/-- The leaves themselves. -/
abbrev Leafs := {α : Type} → Lf α → α

/-! lists -/
def nth : List DV → Nat → DV
  | [], _ => .junk
  | d :: _, 0 => d
  | _ :: r, n + 1 => nth r n
def setN : List DV → Nat → DV → List DV
  | [], _, _ => []
  | _ :: r, 0, v => v :: r
  | d :: r, n + 1, v => d :: setN r n v
def dropN : List DV → Nat → List DV
  | l, 0 => l
  | [], _ => []
  | _ :: r, n + 1 => dropN r n
def takeN : List DV → Nat → List DV
  | _, 0 => []
  | [], _ => []
  | d :: r, n + 1 => d :: takeN r n
def cat : List DV → List DV → List DV
  | [], m => m
  | d :: l, m => d :: cat l m
def len : List DV → Nat
  | [] => 0
  | _ :: l => len l + 1
def look : Store → Nat → Option Row
  | [], _ => none
  | (k, r) :: s, κ => if k = κ then some r else look s κ
def ins : Store → Nat → Row → Store
  | [], κ, r => [(κ, r)]
  | (k, q) :: s, κ, r => if κ < k then (κ, r) :: (k, q) :: s else (k, q) :: ins s κ r
def del : Store → Nat → Store
  | [], _ => []
  | (k, q) :: s, κ => if k = κ then del s κ else (k, q) :: del s κ
def upd : Store → Nat → Row → Store
  | [], _, _ => []
  | (k, q) :: s, κ, r => if k = κ then (k, r) :: upd s κ r else (k, q) :: upd s κ r
def mem : List Nat → Nat → Bool
  | [], _ => false
  | k :: l, κ => if k = κ then true else mem l κ

def cells : DV → List DV
  | .agg cs => cs
  | d => [d]

mutual
def keysOf : DV → List Nat
  | .ref κ _ _ => [κ]
  | .rptr κ _ _ => [κ]
  | .agg cs => keysOfL cs
  | .tup cs => keysOfL cs
  | .fn _ a b => keysOfL a ++ keysOfL b
  | _ => []
def keysOfL : List DV → List Nat
  | [] => []
  | d :: l => keysOf d ++ keysOfL l
end

def shift (o : Nat) (f : Nat → DV) : Nat → DV :=
  match o with
  | 0 => f
  | k + 1 => fun i => f (k + 1 + i)

def isCell : DV → Bool
  | .int _ _ | .bool _ | .tt | .ff | .str _ | .nilp | .nilf | .nili | .nils | .lst _ _ _ _ | .eptr _ _ _ _ _ | .fn _ _ _ => true
  | _ => false
def allCell : List DV → Bool
  | [] => true
  | d :: l => if isCell d then allCell l else false

mutual
/-- Data that stays: no row of the call's own is in it. -/
def pureB : DV → Bool
  | .ref _ _ _ | .rptr _ _ _ | .tup _ | .own _ _ _ | .obox _ _ | .junk => false
  | .agg cs => pureL cs
  | .fn _ a b => if pureL a then pureL b else false
  | _ => true
def pureL : List DV → Bool
  | [] => true
  | d :: l => if pureB d then pureL l else false
end
/-- Data that fills so many cells. -/
def okCells (size : Nat) (d : DV) : Bool :=
  if len (cells d) = size then (if allCell (cells d) then pureB d else false) else false

/-- The keys of ks are seen as data that stays. -/
def viewRef (lim : Nat) (ks : List Nat) (σ : Store) (κ o n : Nat) : DV :=
  if mem ks κ then (if κ < lim then (match look σ κ with | some r => .lst r.sz false n (shift o r.f) | none => .junk) else .junk) else .ref κ o n
def viewPtr (lim : Nat) (ks : List Nat) (σ : Store) (κ i off : Nat) : DV :=
  if mem ks κ then (if κ < lim then (match look σ κ with | some r => .eptr r.sz r.n r.f i off | none => .junk) else .junk) else .rptr κ i off
mutual
def view (lim : Nat) (ks : List Nat) (σ : Store) : DV → DV
  | .ref κ o n => viewRef lim ks σ κ o n
  | .rptr κ i off => viewPtr lim ks σ κ i off
  | .agg cs => .agg (viewL lim ks σ cs)
  | .tup cs => .tup (viewL lim ks σ cs)
  | .fn g a b => .fn g (viewL lim ks σ a) (viewL lim ks σ b)
  | d => d
def viewL (lim : Nat) (ks : List Nat) (σ : Store) : List DV → List DV
  | [] => []
  | d :: l => view lim ks σ d :: viewL lim ks σ l
end

def delL : Store → List Nat → Store
  | s, [] => s
  | s, k :: l => delL (del s k) l

def St.freeze (st : St) : List Nat → St
  | [] => st
  | k :: ks => ⟨viewL 100000 (k :: ks) st.σ st.T, delL st.σ (k :: ks)⟩

def subset (l : List Nat) (m : List Nat) : Bool :=
  match l with
  | [] => true
  | k :: l => if mem m k then subset l m else false

def killL (κ : Nat) : List DV → List DV
  | [] => []
  | d :: l => (if mem (keysOf d) κ then .junk else d) :: killL κ l

def keepT (live keys : List Nat) : Nat → List DV → List DV
  | _, [] => []
  | i, d :: l => (if mem live i then (if subset (keysOf d) keys then d else .junk) else .junk) :: keepT live keys (i + 1) l
def keepS (keys : List Nat) : Store → Store
  | [] => []
  | (k, r) :: s => if mem keys k then (k, r) :: keepS keys s else keepS keys s
/-- What a loop's head knows: the live places, and the rows of these keys. -/
def St.restr (live keys : List Nat) (st : St) : St := ⟨keepT live keys 0 st.T, keepS keys st.σ⟩

mutual
/-- A key's other name. -/
def renK (κ κ' : Nat) : DV → DV
  | .ref k o n => if k = κ then .ref κ' o n else .ref k o n
  | .rptr k i off => if k = κ then .rptr κ' i off else .rptr k i off
  | .agg cs => .agg (renKL κ κ' cs)
  | .tup cs => .tup (renKL κ κ' cs)
  | .fn g a b => .fn g (renKL κ κ' a) (renKL κ κ' b)
  | d => d
def renKL (κ κ' : Nat) : List DV → List DV
  | [] => []
  | d :: l => renK κ κ' d :: renKL κ κ' l
end
/-- The first of the other names that nothing leads to. -/
def freeKey (ks : List Nat) (κ : Nat) : Nat → Nat → Nat
  | 0, _ => 0
  | m + 1, j => if mem ks (κ + 4000 * j) then freeKey ks κ m (j + 1) else κ + 4000 * j
def St.rename (st : St) (κ κ' : Nat) : St :=
  match look st.σ κ with
  | none => st
  | some r => ⟨renKL κ κ' (killL κ' st.T), ins (del (del st.σ κ') κ) κ' r⟩
/-- A row that lies where a new one is to come goes, or is called otherwise from now on. -/
def St.age (st : St) (κ : Nat) : St :=
  match look st.σ κ with
  | none => st
  | some _ => if κ < 100000 then (
      if mem (keysOfL st.T) κ then (
        let κ' := freeKey (keysOfL st.T) κ 20 1
        if κ < κ' then (if κ' < 100000 then st.rename κ κ' else st) else st)
      else ⟨killL κ st.T, del st.σ κ⟩) else st
def St.ages (st : St) : List Nat → St
  | [] => st
  | κ :: l => (st.age κ).ages l

/-- A slice that is nil, seen as an empty row. -/
def St.nilrow (st : St) (t κ sz : Nat) (f : Nat → DV) : St :=
  match nth st.T t with
  | .nils => if κ < 100000 then (if 0 < sz then (match look st.σ κ with | some _ => st | none => ⟨setN st.T t (.ref κ 0 0), ins st.σ κ (.arr sz 0 f)⟩) else st) else st
  | .ref κ1 _ _ => if sz = 0 then (if κ1 = κ then st else (if κ1 < 100000 then (if κ < 100000 then st.rename κ1 κ else st) else st)) else st
  | _ => st
def St.nilrows (st : St) : List (Nat × Nat × Nat × (Nat → DV)) → St
  | [] => st
  | (t, κ, sz, f) :: l => (st.nilrow t κ sz f).nilrows l

def St.put (st : St) (dst : Option Nat) (d : DV) : St :=
  match dst with
  | none => st
  | some t => ⟨setN st.T t d, st.σ⟩

/-! constants -/
def cdv0 : Value → DV
  | .int k n => .int k n
  | .bool true => .tt
  | .bool false => .ff
  | .string s => .str s
  | .pointer none => .nilp
  | .slice none 0 0 => .nils
  | .nilFunc => .nilf
  | .nilIface => .nili
  | _ => .junk
def cdvL : List Value → List DV
  | [] => []
  | v :: l => cdv0 v :: cdvL l
def cCon (v : Value) : Option DV :=
  match v with
  | .agg cs => if allCell (cdvL cs.toList) = true then some (.agg (cdvL cs.toList)) else none
  | .tuple cs => if cs.size = 0 then some .und else none
  | v => if isCell (cdv0 v) = true then some (cdv0 v) else none

/-! ### The code, its types resolved -/
inductive Arg where
  | tmp (t : Nat)
  | con (d : DV)
  deriving Inhabited

inductive ROp where
  | move (x : Arg)
  | pick (c a b : Arg)
  | load (agg : Bool) (size : Nat) (a : Arg)
  | nilCheck (x : Arg)
  | binOp (cls : Nat) (op : BinOp) (x y : Arg)
  | eqS (neg : Bool) (fs : List (Nat × Nat)) (x y : Arg)
  | buildQ (zero : List DV) (parts : List (Nat × Nat × Arg))
  | unOp (op : UnOp) (x : Arg)
  | convI (k : IntKind) (x : Arg)
  | convS (x : Arg)
  | toStr (x : Arg)
  | toBytes (x : Arg)
  | slice (esize : Nat) (x : Arg) (lo hi mx : Option Arg)
  | fieldAddr (off : Nat) (x : Arg)
  | field (agg : Bool) (size off : Nat) (x : Arg)
  | indexAddr (esize : Nat) (x i : Arg)
  | index (x i : Arg)
  | extract (x : Arg) (j : Nat)
  | makeFunc (g : FuncId) (a b : List Arg)
  | len (s : Bool) (x : Arg)
  | max (xs : List Arg)
  | min (xs : List Arg)
  | alloc (size : Nat) (zero : DV)
  | box (size : Nat) (x : Arg)
  | build (zero : List DV) (parts : List (Nat × Nat × Arg))
  | buildSlice (esize : Nat) (ezero : DV) (n : Nat) (parts : List (Nat × Arg))
  | store (size : Nat) (a x : Arg)
  | makeSlice (esize ebytes : Nat) (ezero : DV) (l c : Arg)
  | call (f : Arg) (xs : List Arg)
  | lend (f : Arg) (xs : List Arg)
  | refs (f : Arg) (xs : List Arg)
  | append (esize ebytes : Nat) (s x : Arg)
  | copy (esize : Nat) (s x : Arg)
  | clear (esize : Nat) (ezero : DV) (s : Arg)
  | convL (x : Arg)
  | nilS (neg : Bool) (x : Arg)
  | bad
  deriving Inhabited

structure ROper where
  dst : Option Nat
  op : ROp
  guard : Option (Nat × Bool)
  strict : Bool
  deriving Inhabited

inductive RCode where
  | skip
  | region (ops : List ROper)
  | seq (a b : RCode)
  | seqJ (a b : RCode)
  | cond (c : Arg) (a b : RCode)
  | block (id : Nat) (a : RCode)
  | loop (a : RCode)
  | exit (id : Nat)
  | ret
  | bad
  deriving Inhabited

def ev (st : St) : Arg → DV
  | .tmp t => nth st.T t
  | .con d => d
def evL (st : St) : List Arg → List DV
  | [] => []
  | x :: l => ev st x :: evL st l

/-- What a load finds in an element, from a cell on. -/
def part (agg : Bool) (size : Nat) (d : DV) (off : Nat) : DV :=
  match agg with
  | true => .agg (takeN (dropN (cells d) off) size)
  | false => nth (cells d) off
/-- Cells, with some of them turned. -/
def over : List DV → Nat → List DV → List DV
  | [], _, _ => []
  | d :: r, 0, vs => (match vs with | [] => d :: r | v :: vs => v :: over r 0 vs)
  | d :: r, o + 1, vs => d :: over r o vs
def setCells (d : DV) (off : Nat) (vs : List DV) : DV :=
  match d with
  | .agg cs => .agg (over cs off vs)
  | _ => nth vs 0

abbrev QV := Prop × DV
def no : QV := (False, .junk)

def boolOf : DV → Option Bool
  | .bool b => some b
  | .tt => some true
  | .ff => some false
  | _ => none

def boolBin (L : Leafs) (op : BinOp) (a b : Bool) : QV :=
  match op with
  | .eql => (True, .bool (L .beq a b))
  | .neq => (True, .bool (L .bnot (L .beq a b)))
  | _ => no
def okBin (L : Leafs) (op : BinOp) : DV → DV → QV
  | .int k a, .int k' b =>
    match op with
    | .shl | .shr => (L .okOp op b, .int k (L .arith op k a b))
    | .quo | .rem => if k = k' then (L .okOp op b, .int k (L .arith op k a b)) else no
    | .add | .sub | .mul | .and | .or | .xor | .andNot => if k = k' then (True, .int k (L .arith op k a b)) else no
    | _ => if k = k' then (True, .bool (L .cmp op a b)) else no
  | .str a, .str b => match op with
    | .add => (L .okCat a b, .str (L .scat a b))
    | .eql | .neq | .lss | .leq | .gtr | .geq => (True, .bool (L .scmp op a b))
    | _ => no
  | _, _ => no

def nilEq : DV → DV → Option DV
  | .nilp, .nilp => some .tt
  | .nilp, .rptr .. | .rptr .., .nilp | .nilp, .eptr .. | .eptr .., .nilp => some .ff
  | _, _ => none
def notD (L : Leafs) : DV → DV
  | .tt => .ff
  | .ff => .tt
  | .bool b => .bool (L .bnot b)
  | _ => .junk
def nilBin (L : Leafs) (op : BinOp) (r : DV) : QV :=
  match op with
  | .eql => (True, r)
  | .neq => (True, notD L r)
  | _ => no
/-- cls: 0: whole numbers, strings; 1: bools; 2: pointers against nil. -/
def binV (L : Leafs) (cls : Nat) (op : BinOp) (x y : DV) : QV :=
  match cls with
  | 0 => okBin L op x y
  | 1 => (match boolOf x, boolOf y with
    | some a, some b => boolBin L op a b
    | _, _ => no)
  | _ => (match nilEq x y with
    | some r => nilBin L op r
    | none => no)

def unV (L : Leafs) (op : UnOp) : DV → QV
  | .int k n => (match op with | .neg | .xor => (True, .int k (L .un op k n)) | _ => no)
  | d => (match op, boolOf d with | .not, some _ => (True, notD L d) | _, _ => no)

/-- A bound of a slice expression. -/
def bnd (L : Leafs) (st : St) : Option Arg → Prop × Option Nat
  | none => (True, none)
  | some x => match ev st x with | .int _ n => (L .okI n, some (L .toNat n)) | _ => (False, none)
def orN (o : Option Nat) (d : Nat) : Nat := match o with | some n => n | none => d

def tightV (L : Leafs) (t : Bool) (h m : Option Nat) (h2 : Nat) : Bool :=
  match m with
  | some m => L .neqb m h2
  | none => (match h with | none => t | some _ => false)
def topV (L : Leafs) (h2 n : Nat) : Option Nat → Prop
  | some m => L .rng h2 m n
  | none => True
def lstV (L : Leafs) (sz : Nat) (t : Bool) (n : Nat) (f : Nat → DV) (l h m : Option Nat) : QV :=
  match l with
  | none => (L .rng 0 (orN h n) n ∧ topV L (orN h n) n m, .lst sz (tightV L t h m (orN h n)) (orN h n) f)
  | some l2 => (L .rng l2 (orN h n) n ∧ topV L (orN h n) n m, .lst sz (tightV L t h m (orN h n)) (L .nsub (orN h n) l2) (fun i => f (L .nadd l2 i)))
def refV (L : Leafs) (κ o n : Nat) (l h m : Option Nat) : QV :=
  match l with
  | none => (L .rng 0 (orN h n) n ∧ topV L (orN h n) n m, .ref κ o (orN h n))
  | some l2 => (L .rng l2 (orN h n) n ∧ topV L (orN h n) n m, .ref κ (L .nadd o l2) (L .nsub (orN h n) l2))
def sliceB (L : Leafs) (st : St) (esize : Nat) (x : DV) (l h m : Option Nat) : QV :=
  match x with
  | .str s => (match m with
    | some _ => no
    | none => if esize = 0 then (L .rng (orN l 0) (orN h (L .ssize s)) (L .ssize s), .str (L .sub s (orN l 0) (orN h (L .ssize s)))) else no)
  | .lst sz t n f => if sz = esize then lstV L sz t n f l h m else no
  | .nils => if esize = 0 then no else (L .rng (orN l 0) (orN h 0) 0 ∧ L .rng (orN h 0) (orN m 0) 0, .nils)
  | .ref κ o n => (match look st.σ κ with
    | some r => if r.sz = esize then refV L κ o n l h m else no
    | none => no)
  | _ => no
def sliceV (L : Leafs) (st : St) (esize : Nat) (x : DV) (lo hi mx : Option Arg) : QV :=
  match bnd L st lo, bnd L st hi, bnd L st mx with
  | (pl, l), (ph, h), (pm, m) => match sliceB L st esize x l h m with
    | (p, v) => (pl ∧ ph ∧ pm ∧ p, v)

def lenV (L : Leafs) (s : Bool) (x : DV) : QV :=
  match s with
  | true => (match x with
    | .str s => (True, .int .i64 (L .ofNat (L .ssize s)))
    | _ => no)
  | false => (match x with
    | .lst _ _ n _ => (True, .int .i64 (L .ofNat n))
    | .ref _ _ n => (True, .int .i64 (L .ofNat n))
    | .nils => (True, .int .i64 0)
    | _ => no)

def mmV (k : IntKind) (f : Int → Int → Int) : Int → List DV → QV
  | a, [] => (True, .int k a)
  | a, .int k' b :: r => if k = k' then mmV k f (f a b) r else no
  | _, _ => no
def mmV0 (f : Int → Int → Int) : List DV → QV
  | .int k a :: r => mmV k f a r
  | _ => no

/-- Contents of a slice or a string. -/
def cont (L : Leafs) (st : St) (esize : Nat) : DV → Option (Nat × (Nat → DV))
  | .lst sz _ n f => if sz = esize then some (n, f) else none
  | .nils => some (0, fun _ => .junk)
  | .ref κ o n => (match look st.σ κ with | some r => if r.sz = esize then some (n, shift o r.f) else none | none => none)
  | .str s => if 1 = esize then some (L .ssize s, fun i => .int .u8 (L .byte s i)) else none
  | _ => none

def loadE (agg : Bool) (size off : Nat) (d : DV) : QV :=
  if off + size ≤ len (cells d) then (True, part agg size d off) else no
def loadV (agg : Bool) (size : Nat) (st : St) : DV → QV
  | .rptr κ i off => (match look st.σ κ with | some r => loadE agg size off (r.f i) | none => no)
  | .eptr _ _ f i off => loadE agg size off (f i)
  | _ => no
def nilV : DV → QV
  | .rptr κ i off => (True, .rptr κ i off)
  | .eptr s n f i off => (True, .eptr s n f i off)
  | .fn g a b => (True, .fn g a b)
  | _ => no
def fieldAddrV (o : Nat) : DV → QV
  | .rptr κ i off => (True, .rptr κ i (off + o))
  | .eptr sz n g i off => (True, .eptr sz n g i (off + o))
  | _ => no
def addN (L : Leafs) (o j : Nat) : Nat :=
  match o with
  | 0 => j
  | o + 1 => L .nadd (o + 1) j
def indexAddrV (L : Leafs) (st : St) (esize : Nat) (x i : DV) : QV :=
  match x, i with
  | .lst sz _ n f, .int _ j => if sz = esize then (L .inb j n, .eptr sz n f (L .toNat j) 0) else no
  | .ref κ o n, .int _ j => (match look st.σ κ with
    | some r => if r.sz = esize then (L .inb j n, .rptr κ (addN L o (L .toNat j)) 0) else no
    | none => no)
  | _, _ => no
def indexV (L : Leafs) (x i : DV) : QV :=
  match x, i with
  | .str s, .int _ j => (L .inb j (L .ssize s), .int .u8 (L .byte s (L .toNat j)))
  | _, _ => no
def toStrV (L : Leafs) (st : St) (x : DV) : QV :=
  match x with
  | .str _ => no
  | x => match cont L st 1 x with
    | some (n, f) => (L .bytes n f, .str (L .mkStr n f))
    | none => no

def fillP (st : St) : List (Nat × Nat × Arg) → List DV → Option (List DV)
  | [], cs => some cs
  | (off, sz, x) :: r, cs => if okCells sz (ev st x) then (if off + sz ≤ len cs then fillP st r (over cs off (cells (ev st x))) else none) else none

/-- Structs of plain fields, compared. 0: whole numbers; 1: strings; 2: bools. -/
def eq1 (L : Leafs) (k : Nat) (d e : DV) : Option Bool :=
  match k with
  | 0 => (match d, e with | .int k a, .int k' b => if k = k' then some (L .cmp .eql a b) else none | _, _ => none)
  | 1 => (match d, e with | .str a, .str b => some (L .scmp .eql a b) | _, _ => none)
  | _ => (match boolOf d, boolOf e with | some a, some b => some (L .beq a b) | _, _ => none)
def eqFs (L : Leafs) (cs ds : List DV) : List (Nat × Nat) → Option Bool
  | [] => some true
  | (o, k) :: r => match eq1 L k (nth cs o) (nth ds o), eqFs L cs ds r with
    | some b, some c => some (L .band b c)
    | _, _ => none
def eqSV (L : Leafs) (neg : Bool) (fs : List (Nat × Nat)) (x y : DV) : QV :=
  match x, y with
  | .agg cs, .agg ds => (match eqFs L cs ds fs with
    | some b => (True, .bool (match neg with | true => L .bnot b | false => b))
    | none => no)
  | _, _ => no

/-- The quiet operations: what they ask, and what they give; the store stays. -/
def quietV (L : Leafs) (st : St) : ROp → Option QV
  | .move x => some (True, ev st x)
  | .load agg size a => some (loadV agg size st (ev st a))
  | .nilCheck x => some (nilV (ev st x))
  | .binOp c op x y => some (binV L c op (ev st x) (ev st y))
  | .eqS neg fs x y => some (eqSV L neg fs (ev st x) (ev st y))
  | .buildQ zero ps => some (match fillP st ps zero with | some cs => (True, .agg cs) | none => no)
  | .unOp op x => some (unV L op (ev st x))
  | .convI k x => some (match ev st x with | .int _ n => (True, .int k (L .wrap k n)) | _ => no)
  | .convS x => some (match ev st x with | .str s => (True, .str s) | _ => no)
  | .toStr x => some (toStrV L st (ev st x))
  | .slice es x lo hi mx => some (sliceV L st es (ev st x) lo hi mx)
  | .fieldAddr o x => some (fieldAddrV o (ev st x))
  | .field agg size off x => some (match ev st x with | .agg cs => loadE agg size off (.agg cs) | _ => no)
  | .indexAddr es x i => some (indexAddrV L st es (ev st x) (ev st i))
  | .index x i => some (indexV L (ev st x) (ev st i))
  | .extract x j => some (match ev st x with | .tup ds => if j < len ds then (True, nth ds j) else no | _ => no)
  | .makeFunc g a b => some (True, .fn g (evL st a) (evL st b))
  | .len s x => some (lenV L s (ev st x))
  | .max xs => some (mmV0 (L .imax) (evL st xs))
  | .min xs => some (mmV0 (L .imin) (evL st xs))
  | _ => none

def addRow (st : St) (κ : Nat) (r : Row) (K : St → Prop) : Prop :=
  if κ < 100000 then
    match look st.σ κ with
    | some _ => False
    | none => K ⟨st.T, ins st.σ κ r⟩
  else False

def bindL (κ : Nat) : Nat → List DV → St → (List DV → St → Prop) → Prop
  | _, [], st, K => K [] st
  | j, d :: l, st, K => match d with
    | .own sz n f => addRow st (κ + 1000 * j) (.arr sz n f) fun st => bindL κ (j + 1) l st fun ds st => K (.ref (κ + 1000 * j) 0 n :: ds) st
    | .obox sz d => addRow st (κ + 1000 * j) (.box sz d) fun st => bindL κ (j + 1) l st fun ds st => K (.rptr (κ + 1000 * j) 0 0 :: ds) st
    | d => bindL κ (j + 1) l st fun ds st => K (d :: ds) st
/-- A call's result, as the caller has it. -/
def bindR (κ : Nat) (d : DV) (st : St) (K : DV → St → Prop) : Prop :=
  match d with
  | .own sz n f => addRow st κ (.arr sz n f) fun st => K (.ref κ 0 n) st
  | .obox sz d => addRow st κ (.box sz d) fun st => K (.rptr κ 0 0) st
  | .tup ds => bindL κ 1 ds st fun ds st => K (.tup ds) st
  | d => K d st

def partsOk (sz : Nat) (st : St) : List (Nat × Arg) → Bool
  | [] => true
  | (_, x) :: r => if okCells sz (ev st x) then partsOk sz st r else false
def partKeys (st : St) : List (Nat × Arg) → List Nat
  | [] => []
  | (_, x) :: r => keysOf (ev st x) ++ partKeys st r
def partKeys3 (st : St) : List (Nat × Nat × Arg) → List Nat
  | [] => []
  | (_, _, x) :: r => keysOf (ev st x) ++ partKeys3 st r
def elemD (st : St) (i : Nat) : DV → List (Nat × Arg) → DV
  | d, [] => d
  | d, (j, x) :: r => elemD st i (if j = i then ev st x else d) r
def elemsL (zero : DV) (st : St) (ps : List (Nat × Arg)) : Nat → Nat → List DV
  | 0, _ => []
  | n + 1, i => elemD st i zero ps :: elemsL zero st ps n (i + 1)
/-- The elements of a slice's literal. -/
def elemsF : List DV → Nat → DV
  | [d] => fun _ => d
  | l => nth l
def elems (zero : DV) (st : St) (n : Nat) (ps : List (Nat × Arg)) : Nat → DV := elemsF (elemsL zero st ps n 0)

def appendV (L : Leafs) (esize ebytes : Nat) (κ : Nat) (s x : DV) (st : St) (K : DV → St → Prop) : Prop :=
  match cont L st esize x with
  | none => False
  | some (m, g) => match s with
    | .nils => L .room m ebytes ∧ addRow st κ (.arr esize m g) fun st => K (.ref κ 0 m) st
    | .lst sz t n f => sz = esize ∧ L .isT t ∧ L .okApp n m ∧ L .room (L .nadd n m) ebytes ∧ addRow st κ (.arr esize (L .nadd n m) (L .appF n f g)) fun st => K (.ref κ 0 (L .nadd n m)) st
    | .ref k o n => (match look st.σ k with
      | some (.arr sz _ f) => sz = esize ∧ k < 100000 ∧ L .room (L .nadd n m) ebytes ∧
        addRow ⟨killL k st.T, del st.σ k⟩ κ (.arr esize (L .nadd n m) (L .appF n (shift o f) g)) fun st => K (.ref κ 0 (L .nadd n m)) st
      | _ => False)
    | _ => False

def storeV (L : Leafs) (st : St) (a : DV) (size : Nat) (vs : List DV) (K : DV → St → Prop) : Prop :=
  match a with
  | .rptr k i off => (match look st.σ k with
    | some (.box sz d) => if off + size ≤ sz then K .und ⟨st.T, upd st.σ k (.box sz (setCells d off vs))⟩ else False
    | some (.arr sz n f) => if off + size ≤ sz then K .und ⟨st.T, upd st.σ k (.arr sz n (L .setF f i off vs))⟩ else False
    | none => False)
  | _ => False

def toBytesV (L : Leafs) (κ : Nat) (st : St) (x : DV) (K : DV → St → Prop) : Prop :=
  match x with
  | .str s => addRow st κ (.arr 1 (L .ssize s) (fun i => .int .u8 (L .byte s i))) fun st => K (.ref κ 0 (L .ssize s)) st
  | _ => False
def makeV (L : Leafs) (esize ebytes : Nat) (ezero : DV) (κ : Nat) (st : St) (l c : DV) (K : DV → St → Prop) : Prop :=
  match l, c with
  | .int _ ln, .int _ cn => L .mkOk ln cn ebytes ∧ addRow st κ (.arr esize (L .toNat ln) (fun _ => ezero)) fun st => K (.ref κ 0 (L .toNat ln)) st
  | _, _ => False
def isStr : DV → Bool
  | .str _ => true
  | _ => false
def copyV (L : Leafs) (st : St) (esize : Nat) (s x : DV) (K : DV → St → Prop) : Prop :=
  match s, (match isStr x with | true => none | false => cont L st esize x) with
  | .ref k o n, some (m, g) => (match look st.σ k with
    | some (.arr sz n0 f) => sz = esize ∧ K (.int .i64 (L .ofNat (L .nmin m n))) ⟨st.T, upd st.σ k (.arr sz n0 (L .cpyF o (L .nmin m n) g f))⟩
    | _ => False)
  | _, _ => False
/-- Bytes of a constant, marked as such. -/
def convLV (L : Leafs) (st : St) (x : DV) (K : DV → St → Prop) : Prop :=
  match x with
  | .ref k o n => (match look st.σ k with
    | some (.arr sz n0 f) => sz = 1 ∧ k < 100000 ∧ L .rng 1 n n ∧ K (.ref k o n) ⟨st.T, upd st.σ k (.arr sz n0 f)⟩
    | _ => False)
  | _ => False
/-- Is a slice nil? Of an empty one nothing is known. -/
def nilSV (L : Leafs) (st : St) (neg : Bool) (x : DV) (K : DV → St → Prop) : Prop :=
  match x with
  | .nils => K (.bool (match neg with | true => false | false => true)) st
  | .lst _ _ n _ => L .unk n fun b => K (.bool (match neg with | true => L .bnot b | false => b)) st
  | .ref _ _ n => L .unk n fun b => K (.bool (match neg with | true => L .bnot b | false => b)) st
  | _ => False
def clearV (L : Leafs) (esize : Nat) (ezero : DV) (st : St) (s : DV) (K : DV → St → Prop) : Prop :=
  match s with
  | .ref k o n => (match look st.σ k with
    | some (.arr sz n0 f) => sz = esize ∧ K .und ⟨st.T, upd st.σ k (.arr sz n0 (L .clrF o n ezero f))⟩
    | _ => False)
  | _ => False

/-- The other operations. -/
def loudV (L : Leafs) (κ : Nat) (op : ROp) (st : St) (K : DV → St → Prop) : Prop :=
  match op with
  | .alloc size zero => addRow st κ (.box size zero) fun st => K (.rptr κ 0 0) st
  | .box size x =>
    let st1 := st.freeze (keysOf (ev st x))
    if okCells size (ev st1 x) then addRow st1 κ (.box size (ev st1 x)) fun st => K (.rptr κ 0 0) st else False
  | .build zero parts =>
    let st1 := st.freeze (partKeys3 st parts)
    match fillP st1 parts zero with
      | some cs => K (.agg cs) st1
      | none => False
  | .buildSlice esize ezero n parts =>
    let st1 := st.freeze (partKeys st parts)
    if partsOk esize st1 parts then
        addRow st1 κ (.arr esize n (elems ezero st1 n parts)) fun st => K (.ref κ 0 n) st else False
  | .store size a x =>
    let st1 := st.freeze (keysOf (ev st x))
    if okCells size (ev st1 x) then storeV L st1 (ev st1 a) size (cells (ev st1 x)) K else False
  | .makeSlice esize ebytes ezero l c => makeV L esize ebytes ezero κ st (ev st l) (ev st c) K
  | .pick c a b => match ev st c with
    | .tt => K (ev st a) st
    | .ff => K (ev st b) st
    | .bool t => L .br t (fun _ => K (ev st a) st) (fun _ => K (ev st b) st)
    | _ => False
  | .call f xs => match ev st f with
      | .fn g a b =>
        let ds := cat a (cat (evL st xs) b)
        L .call g (viewL 100000 (keysOfL ds) st.σ ds) κ (st.freeze (keysOfL ds)) K
      | _ => False
  | .lend f xs => match ev st f with
      | .fn g a b =>
        let ds := cat a (cat (evL st xs) b)
        L .lend g (viewL 1000000000 (keysOfL ds) st.σ ds) κ st K
      | _ => False
  | .refs f xs => match ev st f with
      | .fn g a b => L .refs g (cat a (cat (evL st xs) b)) κ st K
      | _ => False
  | .append esize ebytes s x => appendV L esize ebytes κ (ev st s) (ev st x) st K
  | .clear es ezero s => clearV L es ezero st (ev st s) K
  | .toBytes x => toBytesV L κ st (ev st x) K
  | .copy es s x => copyV L st es (ev st s) (ev st x) K
  | .convL x => convLV L st (ev st x) K
  | .nilS neg x => nilSV L st neg (ev st x) K
  | _ => False

/-- One operation. -/
def stepV0 (L : Leafs) (o : ROper) (st : St) (K : St → Prop) : Prop :=
  match quietV L st o.op with
  | some (ob, v) => ob ∧ K (st.put o.dst v)
  | none => loudV L (match o.dst with | some t => t | none => 999) o.op st fun d st => K (st.put o.dst d)

/-! what an operation looks at -/
def argR : Arg → List Nat
  | .tmp t => [t]
  | .con _ => []
def argsR : List Arg → List Nat
  | [] => []
  | x :: l => argR x ++ argsR l
def optR : Option Arg → List Nat
  | none => []
  | some x => argR x
def partsR3 : List (Nat × Nat × Arg) → List Nat
  | [] => []
  | (_, _, x) :: l => argR x ++ partsR3 l
def partsR : List (Nat × Arg) → List Nat
  | [] => []
  | (_, x) :: l => argR x ++ partsR l
def opR : ROp → List Nat
  | .move x | .nilCheck x | .unOp _ x | .convI _ x | .convS x | .toStr x | .toBytes x | .fieldAddr _ x | .extract x _ | .len _ x | .load _ _ x | .field _ _ _ x | .box _ x => argR x
  | .binOp _ _ x y | .eqS _ _ x y | .indexAddr _ x y | .index x y | .store _ x y | .makeSlice _ _ _ x y | .append _ _ x y | .copy _ x y => argR x ++ argR y
  | .pick c x y => argR c ++ (argR x ++ argR y)
  | .slice _ x l h m => argR x ++ (optR l ++ (optR h ++ optR m))
  | .makeFunc _ a b => argsR a ++ argsR b
  | .max xs | .min xs => argsR xs
  | .call f xs | .lend f xs | .refs f xs => argR f ++ argsR xs
  | .clear _ _ x | .convL x | .nilS _ x => argR x
  | .build _ ps => partsR3 ps
  | .buildQ _ ps => partsR3 ps
  | .buildSlice _ _ _ ps => partsR ps
  | .alloc _ _ | .bad => []
def partsA : List (Nat × Nat × Arg) → List Arg
  | [] => []
  | (_, _, x) :: l => x :: partsA l
def optA : Option Arg → List Arg
  | none => []
  | some x => [x]
def opArgs : ROp → List Arg
  | .move x | .nilCheck x | .unOp _ x | .convI _ x | .convS x | .toStr x | .fieldAddr _ x | .extract x _ | .len _ x | .load _ _ x | .field _ _ _ x => [x]
  | .binOp _ _ x y | .eqS _ _ x y | .indexAddr _ x y | .index x y => [x, y]
  | .buildQ _ ps => partsA ps
  | .slice _ x l h m => x :: (optA l ++ (optA h ++ optA m))
  | .makeFunc _ a b => a ++ b
  | .max xs | .min xs => xs
  | _ => []
/-- One operation; a strict one asks that no row is in what it looks at, nor in what it gives. -/
def stepV (L : Leafs) (o : ROper) (st : St) (K : St → Prop) : Prop :=
  match o.strict with
  | false => stepV0 L o st K
  | true => match quietV L st o.op with
    | some (ob, v) => keysOfL (evL st (opArgs o.op)) = [] ∧ keysOf v = [] ∧ ob ∧ K (st.put o.dst v)
    | none => False

def stepG (L : Leafs) (o : ROper) (st : St) (K : St → Prop) : Prop :=
  match o.guard with
  | none => stepV L o st K
  | some (t, want) => match nth st.T t with
      | .tt => (match want with | true => stepV L o st K | false => K (st.put o.dst .und))
      | .ff => (match want with | true => K (st.put o.dst .und) | false => stepV L o st K)
      | .bool b => (match want with
        | true => L .br b (fun _ => stepV L o ⟨setN st.T t .tt, st.σ⟩ K) (fun _ => K (St.put ⟨setN st.T t .ff, st.σ⟩ o.dst .und))
        | false => L .br b (fun _ => K (St.put ⟨setN st.T t .tt, st.σ⟩ o.dst .und)) (fun _ => stepV L o ⟨setN st.T t .ff, st.σ⟩ K))
      | .und => K (st.put o.dst .und)
      | _ => False

def runV (L : Leafs) : List ROper → St → (St → Prop) → Prop
  | [], st, K => K st
  | o :: r, st, K => stepG L o st fun st => runV L r st K

/-- The keys that operations may give. -/
def newK1 (o : ROper) : List Nat :=
  match o.op, o.dst with
  | .alloc _ _, some t | .box _ _, some t | .buildSlice _ _ _ _, some t | .makeSlice _ _ _ _ _, some t | .append _ _ _ _, some t | .toBytes _, some t => [t]
  | .call _ _, some t | .lend _ _, some t | .refs _ _, some t => [t, t + 1000, t + 2000, t + 3000]
  | _, _ => []
def newKs : List ROper → List Nat
  | [] => []
  | o :: l => newK1 o ++ newKs l
def seqK (K : St → Prop) (Q : Ex → St → Prop) : Ex → St → Prop
  | .normal, st => K st
  | .exit j, st => Q (.exit j) st
  | .ret, st => Q .ret st
def blockK (id : Nat) (Q : Ex → St → Prop) : Ex → St → Prop
  | .exit j, st => if j = id then Q .normal st else Q (.exit j) st
  | .normal, st => Q .normal st
  | .ret, st => Q .ret st

def wps (L : Leafs) : RCode → (Ex → St → Prop) → St → Prop
  | .skip, Q, st => Q .normal st
  | .region ops, Q, st => runV L ops (st.ages (newKs ops)) (Q .normal)
  | .seq a b, Q, st => wps L a (seqK (wps L b Q) Q) st
  | .seqJ a b, Q, st => wps L a (seqK (fun st => L .join (wps L b Q) st) Q) st
  | .cond c a b, Q, st => match ev st c with
    | .tt => wps L a Q st
    | .ff => wps L b Q st
    | .bool t => L .br t (fun _ => wps L a Q st) (fun _ => wps L b Q st)
    | _ => False
  | .block id a, Q, st => wps L a (blockK id Q) st
  | .loop a, Q, st => ∃ (live keys : List Nat) (ns : List (Nat × Nat × Nat × (Nat → DV))) (I : Nat → St → Prop), (∃ m, I m ((st.nilrows ns).restr live keys)) ∧
      ∀ m st', I m st' → wps L a (seqK (fun st'' => ∃ m', m' < m ∧ I m' ((st''.nilrows ns).restr live keys)) Q) st'
  | .exit id, Q, st => Q (.exit id) st
  | .ret, Q, st => Q .ret st
  | .bad, _, _ => False

/-! ### Resolving -/
def tInfo (P : Program) (t : TypeId) : Option TypeInfo := P.info? t
/-- Is it a struct or an array, and of how many cells? -/
def tAgg (P : Program) (t : TypeId) : Option (Bool × Nat) :=
  match P.underlying t, tInfo P t with
  | some (.struct _), some i => some (true, i.size)
  | some (.array _ _), some i => some (true, i.size)
  | some _, some i => if i.size = 1 then some (false, 1) else none
  | _, _ => none
def tElem (P : Program) (t : TypeId) : Option TypeId := match P.underlying t with | some (.slice e) => some e | _ => none
def tInt (P : Program) (t : TypeId) : Option IntKind := match P.underlying t with | some (.int k) => some k | _ => none
def tScalar (P : Program) (t : TypeId) : Bool :=
  match P.underlying t with | some (.int _) => true | some .bool => true | some .string => true | _ => false

def cArg : Operand → Option Arg
  | .tmp t => some (.tmp t)
  | .const v => (match cCon v with | some d => some (.con d) | none => none)
  | .func g => some (.con (.fn g [] []))
  | .global _ => none
/-- A type's zero, its size and its bytes. -/
def cZero (P : Program) (t : TypeId) : Option (Nat × Nat × DV) :=
  match tInfo P t with
  | some i => (match i.zero with
    | some z => (match cCon z with
      | some d => if okCells i.size d = true ∧ 0 < i.size then some (i.size, i.bytes, d) else none
      | _ => none)
    | none => none)
  | none => none
def cArgs : List Operand → Option (List Arg)
  | [] => some []
  | x :: l => match cArg x, cArgs l with | some a, some r => some (a :: r) | _, _ => none
def cOpt : Option Operand → Option (Option Arg)
  | none => some none
  | some x => match cArg x with | some a => some (some a) | none => none

/-- How a function is called: 1: by its rows; 2: what it gets is lent; 3: what it gets is frozen; 0: lent if the results' types are plain, else frozen. -/
abbrev Modes := FuncId → Nat

def cFields (P : Program) (fs : Array Field) : List (Nat × Operand) → Option (List (Nat × Nat × Arg))
  | [] => some []
  | (j, x) :: r => match fs[j]?, cArg x, cFields P fs r with
    | some f, some a, some r => (match tInfo P f.type with | some i => some ((f.offset, i.size, a) :: r) | none => none)
    | _, _, _ => none
def cParts (n : Nat) : List (Nat × Operand) → Option (List (Nat × Arg))
  | [] => some []
  | (j, x) :: r => match cArg x, cParts n r with
    | some a, some r => if j < n then some ((j, a) :: r) else none
    | _, _ => none

def scalarRes (P : Program) (g : FuncId) : Bool :=
  match P.funcs[g]? with
  | some f => f.resultTypes.toList.all (tScalar P)
  | none => false

def cCall (P : Program) (md : Modes) (f : Operand) (xs : List Operand) : Option ROp :=
  match cArg f, cArgs xs with
  | some a, some r => (match f with
    | .func g => some (match md g with | 1 => .refs a r | 2 => .lend a r | 3 => .call a r | _ => if scalarRes P g then .lend a r else .call a r)
    | _ => some (.call a r))
  | _, _ => none

/-- The fields of a struct whose fields are plain. -/
def cEqF (P : Program) : List Field → Option (List (Nat × Nat))
  | [] => some []
  | f :: r => if (f.name == "_") = true then none else
    match P.underlying f.type, cEqF P r with
    | some (.int _), some l => some ((f.offset, 0) :: l)
    | some .string, some l => some ((f.offset, 1) :: l)
    | some .bool, some l => some ((f.offset, 2) :: l)
    | _, _ => none
def allScalar (P : Program) : List Field → Bool
  | [] => true
  | f :: r => if tScalar P f.type then allScalar P r else false

def cOp (P : Program) (md : Modes) (op : Op) : Option ROp :=
  match op with
  | .move x => (cArg x).map .move
  | .assign x => (cArg x).map .move
  | .pick c a b => match cArg c, cArg a, cArg b with | some c, some a, some b => some (.pick c a b) | _, _, _ => none
  | .alloc t => match cZero P t with | some (sz, _, z) => some (.alloc sz z) | none => none
  | .box t x => match tInfo P t, cArg x with | some i, some a => if 0 < i.size then some (.box i.size a) else none | _, _ => none
  | .build t ps => match cZero P t, P.underlying t with
    | some (_, _, .agg cs), some (.struct fs) => (match (if fs.toList.all (fun f => (tInfo P f.type).isSome) then cFields P fs ps.toList else none) with
      | some r => if allScalar P fs.toList then some (.buildQ cs r) else some (.build cs r)
      | none => none)
    | _, _ => none
  | .buildSlice t n ps => match tElem P t with
    | some e => (match cZero P e, cParts n ps.toList with
      | some (sz, _, z), some r => if n * sz ≤ 100000 then some (.buildSlice sz z n r) else none
      | _, _ => none)
    | none => none
  | .load t x => match tAgg P t, cArg x with | some (g, n), some a => some (.load g n a) | _, _ => none
  | .store t a x => match tInfo P t, cArg a, cArg x with | some i, some a, some b => if 0 < i.size then some (.store i.size a b) else none | _, _, _ => none
  | .nilCheck x => (cArg x).map .nilCheck
  | .binOp op t x y _ => match cArg x, cArg y with
    | some a, some b => (match P.underlying t with
      | some (.int _) => some (.binOp 0 op a b)
      | some .string => some (.binOp 0 op a b)
      | some .bool => some (.binOp 1 op a b)
      | some (.pointer _) => some (.binOp 2 op a b)
      | some (.struct fs) => (match cEqF P fs.toList with
        | some l => if P.stoodInHeld t = true then none else (match op with
          | .eql => some (.eqS false l a b)
          | .neq => some (.eqS true l a b)
          | _ => none)
        | none => none)
      | some (.slice _) => (match y, op with
        | .const (.slice none 0 0), .eql => some (.nilS false a)
        | .const (.slice none 0 0), .neq => some (.nilS true a)
        | _, _ => none)
      | _ => none)
    | _, _ => none
  | .unOp op _ x => (cArg x).map (.unOp op)
  | .convert s d x => match cArg x with
    | some a => (match P.underlying s, P.underlying d with
      | some (.int _), some (.int k) => some (.convI k a)
      | some .string, some .string => some (.convS a)
      | some .string, some (.slice e) => (match tInt P e with | some .u8 => some (.toBytes a) | _ => none)
      | some (.slice e), some .string => (match tInt P e with | some .u8 => some (.toStr a) | _ => none)
      | some (.slice e), some (.slice _) => (match tInt P e with | some .u8 => if (s == d) = true then some (.convL a) else none | _ => none)
      | _, _ => none)
    | none => none
  | .slice t x lo hi mx => match cArg x, cOpt lo, cOpt hi, cOpt mx with
    | some a, some l, some h, some m => (match P.underlying t with
      | some (.slice e) => (match tInfo P e with
        | some i => if 0 < i.size ∧ ((mx.isNone || hi.isSome) = true) then some (.slice i.size a l h m) else none
        | none => none)
      | some .string => if mx.isNone = true then some (.slice 0 a l h m) else none
      | _ => none)
    | _, _, _, _ => none
  | .fieldAddr s x j => match P.underlying s, cArg x with
    | some (.struct fs), some a => (match fs[j]? with
      | some f => (match tInfo P f.type with | some i => if 0 < i.size then some (.fieldAddr f.offset a) else none | none => none)
      | none => none)
    | _, _ => none
  | .field s x j => match P.underlying s, cArg x with
    | some (.struct fs), some a => (match fs[j]? with
      | some f => (match tAgg P f.type with | some (g, n) => some (.field g n f.offset a) | none => none)
      | none => none)
    | _, _ => none
  | .indexAddr t x i => match tElem P t, cArg x, cArg i with
    | some e, some a, some b => (match tInfo P e with | some i => some (.indexAddr i.size a b) | none => none)
    | _, _, _ => none
  | .index t x i => match P.underlying t, cArg x, cArg i with
    | some .string, some a, some b => some (.index a b)
    | _, _, _ => none
  | .extract x j => (cArg x).map (.extract · j)
  | .makeFunc (.func g) a b => match cArgs a.toList, cArgs b.toList with | some a, some b => some (.makeFunc g a b) | _, _ => none
  | .makeSlice t l c => match tElem P t, cArg l, cArg c with
    | some e, some a, some b => (match cZero P e with
      | some (sz, by_, z) => if 0 < by_ then some (.makeSlice sz by_ z a b) else none
      | none => none)
    | _, _, _ => none
  | .call c => match c.callee with
    | .value f => cCall P md f c.args.toList
    | .builtin .len => (match c.args.toList, c.argTypes.toList with
      | [x], t :: _ => (match cArg x, P.underlying t with
        | some a, some .string => some (.len true a)
        | some a, some (.slice _) => some (.len false a)
        | _, _ => none)
      | _, _ => none)
    | .builtin .max => (cArgs c.args.toList).map .max
    | .builtin .min => (cArgs c.args.toList).map .min
    | .builtin .append => (match c.args.toList, c.argTypes.toList with
      | [s, x], [t, u] => (match tElem P t, cArg s, cArg x with
        | some e, some a, some b => (match cZero P e, P.underlying u with
          | some (sz, by_, _), some (.slice _) => if 0 < by_ then some (.append sz by_ a b) else none
          | some (sz, by_, _), some .string => if 0 < by_ then some (.append sz by_ a b) else none
          | _, _ => none)
        | _, _, _ => none)
      | _, _ => none)
    | .builtin .copy => (match c.args.toList, c.argTypes.toList with
      | [s, x], t :: _ => (match tElem P t, cArg s, cArg x with
        | some e, some a, some b => (match tInfo P e with | some i => some (.copy i.size a b) | none => none)
        | _, _, _ => none)
      | _, _ => none)
    | .builtin .clear => (match c.args.toList, c.argTypes.toList with
      | [s], [t] => (match tElem P t, cArg s with
        | some e, some a => (match cZero P e with
          | some (sz, _, z) => some (.clear sz z a)
          | none => none)
        | _, _ => none)
      | _, _ => none)
    | _ => none
  | _ => none

def cOper (P : Program) (md : Modes) (ops : Array Oper) (o : Oper) : ROper :=
  match cOp P md o.op with
  | none => ⟨o.dst, .bad, none, false⟩
  | some r => match o.guard with
    | none => ⟨o.dst, r, none, false⟩
    | some (j, want) => match (ops[j]?).bind (·.dst) with
      | some t => ⟨o.dst, r, some (t, want), false⟩
      | none => ⟨o.dst, .bad, none, false⟩

def cOpers (P : Program) (md : Modes) (ops : Array Oper) : List Oper → List ROper
  | [] => []
  | o :: l => cOper P md ops o :: cOpers P md ops l

/-! ### Regions whose order is drawn -/
/-- The operations that always are quiet. -/
def isQ : ROp → Bool
  | .move _ | .load _ _ _ | .nilCheck _ | .binOp _ _ _ _ | .eqS _ _ _ _ | .buildQ _ _ | .unOp _ _ | .convI _ _ | .convS _ | .toStr _ | .slice _ _ _ _ _ | .fieldAddr _ _ | .field _ _ _ _ | .indexAddr _ _ _
  | .index _ _ | .extract _ _ | .makeFunc _ _ _ | .len _ _ | .max _ | .min _ => true
  | _ => false
def isQo (P : Program) (md : Modes) (ops : Array Oper) (i : Nat) : Bool :=
  match ops[i]? with
  | some o => isQ (cOper P md ops o).op
  | none => false
/-- What must come before. -/
def deps (ops : Array Oper) (i : Nat) : List Nat :=
  match ops[i]? with
  | some o => onsOf o.after.toList
  | none => []
  where onsOf : List Edge → List Nat
  | [] => []
  | e :: l => if Region.binds .any e then e.on :: onsOf l else onsOf l
/-- The first that may come now: quiet ones ahead. -/
def nextQ (P : Program) (md : Modes) (ops : Array Oper) (left : List Nat) : List Nat → Option Nat
  | [] => none
  | i :: l => if isQo P md ops i then (if free left (deps ops i) then some i else nextQ P md ops left l) else nextQ P md ops left l
  where free (left : List Nat) : List Nat → Bool
  | [] => true
  | e :: l => if mem left e then false else free left l
def nextL (ops : Array Oper) (left : List Nat) : List Nat → Option Nat
  | [] => none
  | i :: l => if nextQ.free left (deps ops i) then some i else nextL ops left l
def remove (k : Nat) : List Nat → List Nat
  | [] => []
  | i :: l => if i = k then l else i :: remove k l
def canon (P : Program) (md : Modes) (ops : Array Oper) : Nat → List Nat → List Nat
  | 0, _ => []
  | n + 1, left => match nextQ P md ops left left with
    | some i => i :: canon P md ops n (remove i left)
    | none => match nextL ops left left with
      | some i => i :: canon P md ops n (remove i left)
      | none => []
def upto : Nat → Nat → List Nat
  | 0, _ => []
  | n + 1, k => k :: upto n (k + 1)
def lenO : List Oper → Nat
  | [] => 0
  | _ :: l => lenO l + 1
def canonL (P : Program) (md : Modes) (ops : Array Oper) : List Nat := canon P md ops (lenO ops.toList) (upto (lenO ops.toList) 0)
def joinD (e : Nat) (m r : List Nat) : List Nat := e :: (without r m)
  where without (r : List Nat) : List Nat → List Nat
  | [] => r
  | k :: l => if mem r k then without r l else k :: without r l
def nthN : List (List Nat) → Nat → List Nat
  | [], _ => []
  | l :: _, 0 => l
  | _ :: r, n + 1 => nthN r n
def snoc : List (List Nat) → List Nat → List (List Nat)
  | [], x => [x]
  | l :: r, x => l :: snoc r x
/-- Of each operation, what comes before it. -/
def closT (ops : Array Oper) : Nat → Nat → List (List Nat) → List (List Nat)
  | 0, _, acc => acc
  | n + 1, i, acc => closT ops n (i + 1) (snoc acc (unionD acc (deps ops i)))
  where unionD (acc : List (List Nat)) : List Nat → List Nat
  | [] => []
  | e :: l => joinD e (nthN acc e) (unionD acc l)
/-- The operations that may change what another place holds. -/
def wild : ROp → Bool
  | .store _ _ _ | .append _ _ _ _ | .call _ _ | .refs _ _ | .box _ _ | .build _ _ | .buildSlice _ _ _ _ | .copy _ _ _ | .clear _ _ _ | .convL _ => true
  | _ => false
def isMove : ROp → Bool
  | .move (.tmp _) => true
  | .move (.con d) => (match keysOf d with | [] => true | _ => false)
  | _ => false
def base (P : Program) (md : Modes) (ops : Array Oper) (i : Nat) : ROper := match ops[i]? with | some o => cOper P md ops o | none => ⟨none, .bad, none, false⟩
def wilds (P : Program) (md : Modes) (ops : Array Oper) : List Nat → List Nat
  | [] => []
  | i :: l => if wild (base P md ops i).op then i :: wilds P md ops l else wilds P md ops l
def beside (tab : List (List Nat)) (i : Nat) : List Nat → Bool
  | [] => false
  | j :: l => if mem (nthN tab i) j then beside tab i l else (if mem (nthN tab j) i then beside tab i l else true)
def strictO (ws : List Nat) (tab : List (List Nat)) (i : Nat) (o : ROper) : Bool := if isQ o.op then (if isMove o.op then false else beside tab i ws) else false
def withS (o : ROper) (s : Bool) : ROper := ⟨o.dst, o.op, o.guard, s⟩
def pickO (P : Program) (md : Modes) (ops : Array Oper) (ws : List Nat) (tab : List (List Nat)) : List Nat → List ROper
  | [] => []
  | i :: l => withS (base P md ops i) (strictO ws tab i (base P md ops i)) :: pickO P md ops ws tab l
def tabO (ops : Array Oper) (ws : List Nat) : List (List Nat) := match ws with | [] => [] | _ => closT ops (lenO ops.toList) 0 []
def wildsO (P : Program) (md : Modes) (ops : Array Oper) : List Nat := wilds P md ops (upto (lenO ops.toList) 0)
def regionO (P : Program) (md : Modes) (ops : Array Oper) : List ROper := pickO P md ops (wildsO P md ops) (tabO ops (wildsO P md ops)) (canonL P md ops)

/-- Does the code part? -/
def parts1 : List ROper → Bool
  | [] => false
  | o :: l => match o.guard with
    | some _ => true
    | none => match o.op with | .pick _ _ _ => true | .nilS _ _ => true | _ => parts1 l
def branchy : RCode → Bool
  | .region ops => parts1 ops
  | .seq a b => if branchy a then true else branchy b
  | .cond _ _ _ => true
  | .block _ a => branchy a
  | _ => false
def mkSeq (j : Nat) (a b : RCode) : RCode :=
  match j with
  | 1 => (match branchy a with | true => .seqJ a b | false => .seq a b)
  | _ => .seq a b
/-- The flag: whether what comes behind code that parts may be joined. -/
def joinFlag : Nat := 1000000
def comp (P : Program) (md : Modes) : Code → RCode
  | .skip => .skip
  | .region _ ops false => .region (cOpers P md ops ops.toList)
  | .region _ ops true => .region (regionO P md ops)
  | .seq a b => mkSeq (md 1000000) (comp P md a) (comp P md b)
  | .cond c a b => match cArg c with | some x => .cond x (comp P md a) (comp P md b) | none => .bad
  | .block id a => .block id (comp P md a)
  | .loop a => .loop (comp P md a)
  | .exit id => .exit id
  | .ret => .ret
  | _ => .bad

/-! The check that the order does not tell. -/
def dstNot (d : Option Nat) (l : List Nat) : Bool := match d with | none => true | some t => !mem l t
def guardT (o : ROper) : List Nat := match o.guard with | none => [] | some (t, _) => [t]
/-- What the one yields the other does not look at. -/
def dstApart (x y : ROper) : Bool := dstNot x.dst (opR y.op) && dstNot x.dst (guardT y) && (match x.dst, y.dst with | some a, some b => a != b | _, _ => true)
def guardApart (x y : ROper) : Bool := match x.guard with | none => true | some (t, _) => !mem (opR y.op) t && !mem (opR x.op) t
def commQ (x y : ROper) : Bool := isQ x.op && isQ y.op && dstApart x y && dstApart y x && guardApart x y && guardApart y x
/-- A quiet operation and one that is not. -/
def commL (x y : ROper) : Bool := isQ x.op && !isQ y.op && !y.strict && dstApart x y && dstApart y x && guardApart x y && guardApart y x && (!wild y.op || x.strict || isMove x.op)
def comm (x y : ROper) : Bool := commQ x y || commL x y
def ropT (P : Program) (md : Modes) (ops : Array Oper) (ws : List Nat) (tab : List (List Nat)) (i : Nat) : ROper := withS (base P md ops i) (strictO ws tab i (base P md ops i))
def topo (ops : Array Oper) (seen : List Nat) : List Nat → Bool
  | [] => true
  | i :: l => (deps ops i).all (fun e => mem seen e) && topo ops (i :: seen) l
def pairsOk (P : Program) (md : Modes) (ops : Array Oper) (ws : List Nat) (tt tab : List (List Nat)) : List Nat → Bool
  | [] => true
  | i :: l => l.all (fun j => mem (nthN tab j) i || comm (ropT P md ops ws tt i) (ropT P md ops ws tt j)) && pairsOk P md ops ws tt tab l
def nodupB : List Nat → Bool
  | [] => true
  | i :: l => !mem l i && nodupB l
def regionOk (P : Program) (md : Modes) (ops : Array Oper) : Bool :=
  let l := canonL P md ops
  l.length == ops.size && l.all (fun i => decide (i < ops.size)) && (List.range ops.size).all (fun i => mem l i) && nodupB l && topo ops [] l && pairsOk P md ops (wildsO P md ops) (tabO ops (wildsO P md ops)) (closT ops ops.size 0 []) l
def okDraw (P : Program) (md : Modes) : Code → Bool
  | .region _ ops true => regionOk P md ops
  | .seq a b => okDraw P md a && okDraw P md b
  | .cond _ a b => okDraw P md a && okDraw P md b
  | .block _ a => okDraw P md a
  | .loop a => okDraw P md a
  | _ => true

end Go.Sx
/-! What pure data says of the model's values; contracts; the leaves. -/
namespace Go.Sx

/-! ### The leaves -/
def bitsOp (op : BinOp) (k : IntKind) (x y : Int) : Int :=
  let a := BitVec.ofInt k.bits x
  let b := BitVec.ofInt k.bits y
  match op with
  | .and => k.wrap (a &&& b).toNat
  | .or => k.wrap (a ||| b).toNat
  | .xor => k.wrap (a ^^^ b).toNat
  | _ => k.wrap (a &&& ~~~b).toNat
def arithF (op : BinOp) (k : IntKind) (x y : Int) : Int :=
  match op with
  | .add => k.wrap (x + y)
  | .sub => k.wrap (x - y)
  | .mul => k.wrap (x * y)
  | .quo => k.wrap (x.tdiv y)
  | .rem => x.tmod y
  | .shl => k.wrap (x * 2 ^ (min y.toNat k.bits))
  | .shr => x.fdiv (2 ^ (min y.toNat k.bits))
  | op => bitsOp op k x y
def cmpF (op : BinOp) (x y : Int) : Bool :=
  match op with
  | .eql => x == y
  | .neq => x != y
  | .lss => x < y
  | .leq => x ≤ y
  | .gtr => x > y
  | _ => x ≥ y
def unF (op : UnOp) (k : IntKind) (n : Int) : Int :=
  match op with
  | .neg => k.wrap (0 - n)
  | _ => bitsOp .xor k (if k.signed then -1 else k.max) n
def scmpF (op : BinOp) (x y : ByteArray) : Bool :=
  match op with
  | .eql => x.toList == y.toList
  | .neq => !(x.toList == y.toList)
  | .lss => Op.bytesLess x.toList y.toList
  | .leq => Op.bytesLess x.toList y.toList || x.toList == y.toList
  | .gtr => !(Op.bytesLess x.toList y.toList || x.toList == y.toList)
  | _ => !(Op.bytesLess x.toList y.toList)
def byteF (s : ByteArray) (i : Nat) : Int := if h : i < s.size then ((s[i]'h).toNat : Int) else 0
def u8Of : DV → UInt8
  | .int _ x => UInt8.ofNat x.toNat
  | _ => 0
def mkStrF (n : Nat) (f : Nat → DV) : ByteArray := ⟨((List.range n).map fun i => u8Of (f i)).toArray⟩
def appFF (n : Nat) (f g : Nat → DV) (i : Nat) : DV := if i < n then f i else g (i - n)
def setFF (f : Nat → DV) (i off : Nat) (vs : List DV) (j : Nat) : DV := if j = i then setCells (f j) off vs else f j
def cpyFF (o m : Nat) (g f : Nat → DV) (i : Nat) : DV := if o ≤ i ∧ i < o + m then g (i - o) else f i
def clrFF (o n : Nat) (z : DV) (f : Nat → DV) (i : Nat) : DV := if o ≤ i ∧ i < o + n then z else f i

/-! ### Data and values -/
abbrev Imm := Nat → Nat → Option Value
def Imm.le (I J : Imm) : Prop := ∀ b o v, I b o = some v → J b o = some v
def Imm.inW (I : Imm) (w : World) : Prop := ∀ b o v, I b o = some v → w.cell? ⟨b, o, none⟩ = some v

def elemOk (sz : Nat) (d : DV) : Prop := (cells d).length = sz ∧ ∀ j < sz, isCell (nth (cells d) j) = true

inductive Rep (I : Imm) : DV → Value → Prop
  | int (k n) : Rep I (.int k n) (.int k n)
  | bool (b) : Rep I (.bool b) (.bool b)
  | tt : Rep I .tt (.bool true)
  | ff : Rep I .ff (.bool false)
  | str (s) : Rep I (.str s) (.string s)
  | nilp : Rep I .nilp (.pointer none)
  | nilf : Rep I .nilf .nilFunc
  | nili : Rep I .nili .nilIface
  | nils : Rep I .nils (.slice none 0 0)
  | lst (sz t n f a cap b o) (val : Nat → Nat → Value) : 0 < sz → n ≤ cap → (t = true → cap = n) →
      (0 < n → a = some ⟨b, o, none⟩) → (∀ i < n, elemOk sz (f i)) →
      (∀ i j, i < n → j < sz → I b (o + i * sz + j) = some (val i j)) →
      (∀ i j, i < n → j < sz → Rep I (nth (cells (f i)) j) (val i j)) → Rep I (.lst sz t n f) (.slice a n cap)
  | eptr (sz n f i off b c) (val : Nat → Value) : 0 < sz → elemOk sz (f i) → (∀ j < sz, I b (c + j) = some (val j)) →
      (∀ j < sz, Rep I (nth (cells (f i)) j) (val j)) → Rep I (.eptr sz n f i off) (.pointer (some ⟨b, c + off, none⟩))
  | agg (cs) (vs : Array Value) : vs.size = cs.length → (∀ j < cs.length, isCell (nth cs j) = true) →
      (∀ j < cs.length, Rep I (nth cs j) (vs.getD j undef)) → Rep I (.agg cs) (.agg vs)
  | fn (g fst cap) (a b : Array Value) : a.size = fst.length → b.size = cap.length →
      (∀ j < fst.length, Rep I (nth fst j) (a.getD j undef)) → (∀ j < cap.length, Rep I (nth cap j) (b.getD j undef)) →
      Rep I (.fn g fst cap) (.func (.func g) a b)
  | und : Rep I .und undef

structure Loc where
  blk : Option Nat
  off : Nat
  sz : Nat
  n : Nat
  tot : Nat

inductive RepK (I : Imm) (β : Nat → Option Loc) : DV → Value → Prop
  | pure {d v} : Rep I d v → RepK I β d v
  | ref (κ o n cap l b a) : β κ = some l → l.blk = some b → n ≤ cap → o + n ≤ l.n → l.off + (o + cap) * l.sz ≤ l.tot →
      (0 < cap → a = ⟨b, l.off + o * l.sz, none⟩) → RepK I β (.ref κ o n) (.slice (some a) n cap)
  | refnil (κ l ao) : β κ = some l → l.blk = none → RepK I β (.ref κ 0 0) (.slice ao 0 0)
  | rptr (κ i off l b) : β κ = some l → l.blk = some b → i < l.n → RepK I β (.rptr κ i off) (.pointer (some ⟨b, l.off + i * l.sz + off, none⟩))
  | fn (g fst cap) (a b : Array Value) : a.size = fst.length → b.size = cap.length →
      (∀ j < fst.length, RepK I β (nth fst j) (a.getD j undef)) → (∀ j < cap.length, RepK I β (nth cap j) (b.getD j undef)) →
      RepK I β (.fn g fst cap) (.func (.func g) a b)
  | tup (ds) (vs : Array Value) : vs.size = ds.length → (∀ j < ds.length, RepK I β (nth ds j) (vs.getD j undef)) → RepK I β (.tup ds) (.tuple vs)
  | junk (v) : RepK I β .junk v

/-- A row lies there. -/
structure RowAt (I : Imm) (w : World) (l : Loc) (r : Row) (b : Nat) : Prop where
  there : ∀ j < l.tot, (w.cell? ⟨b, j, none⟩).isSome = true
  val : ∀ i j, i < r.n → j < r.sz → ∃ v, w.cell? ⟨b, l.off + i * r.sz + j, none⟩ = some v ∧ Rep I (nth (cells (r.f i)) j) v
  free : ∀ o < l.tot, w.frozen? ⟨b, o, none⟩ = false
  fits : l.off + r.n * r.sz ≤ l.tot
  apart : ∀ o, I b o = none
  elem : ∀ i < r.n, elemOk r.sz (r.f i)
  mark : ∀ c ty fr, w.heap[b]? = some (.cells c ty fr) → fr.1 = fr.2 ∨ l.tot ≤ fr.1
structure RowOk (I : Imm) (w : World) (l : Loc) (r : Row) : Prop where
  sz : l.sz = r.sz
  n : l.n = r.n
  pos : 0 < r.sz
  at_ : ∀ b, l.blk = some b → RowAt I w l r b
  nil : l.blk = none → r.n = 0

/-- What stays. -/
structure Frm (w w' : World) (X : Nat → Prop) : Prop where
  os : w'.os = w.os
  tape : w'.tape = w.tape
  output : w'.output = w.output
  size : w.heap.size ≤ w'.heap.size
  block : ∀ b, b < w.heap.size → ¬ X b → w'.heap[b]? = w.heap[b]?

def keyed : Nat → List Row → Store
  | _, [] => []
  | k, r :: l => (k, r) :: keyed (k + 1) l
def refKey : Nat := 100000

def Sep (β : Nat → Option Loc) : Prop := ∀ κ κ' l l' b, κ ≠ κ' → β κ = some l → β κ' = some l' → l.blk = some b → l'.blk ≠ some b

/-- The rows of a store lie where β says, apart. -/
structure Rows (I : Imm) (β : Nat → Option Loc) (σ : Store) (w : World) : Prop where
  dom : ∀ κ, look σ κ = none → β κ = none
  rows : ∀ κ r, look σ κ = some r → ∃ l, β κ = some l ∧ RowOk I w l r
  sep : Sep β
  lt : ∀ κ l b, β κ = some l → l.blk = some b → b < w.heap.size

def isFresh : DV → Bool
  | .own _ _ _ | .obox _ _ => true
  | _ => false
/-- A result, or one of several. -/
def ResAt (I : Imm) (β : Nat → Option Loc) (n0 : Nat) (w : World) (l : Loc) : DV → Value → Prop
  | .own sz n f, v => RowOk I w l (.arr sz n f) ∧ RepK I (fun _ => some l) (.ref 0 0 n) v ∧ ∀ b, l.blk = some b → n0 ≤ b ∧ b < w.heap.size
  | .obox sz d, v => RowOk I w l (.box sz d) ∧ RepK I (fun _ => some l) (.rptr 0 0 0) v ∧ ∀ b, l.blk = some b → n0 ≤ b ∧ b < w.heap.size
  | .ref κ o n, v => RepK I β (.ref κ o n) v
  | d, v => Rep I d v
def Res (I : Imm) (β : Nat → Option Loc) (n0 : Nat) (w : World) : DV → Value → Prop
  | .tup ds, v => ∃ (vs : Array Value) (ls : Nat → Loc), v = .tuple vs ∧ vs.size = ds.length ∧
      (∀ j < ds.length, ResAt I β n0 w (ls j) (nth ds j) (vs.getD j undef)) ∧
      ∀ i j b, i < ds.length → j < ds.length → i ≠ j → isFresh (nth ds i) = true → isFresh (nth ds j) = true → (ls i).blk = some b → (ls j).blk ≠ some b
  | d, v => ∃ l, ResAt I β n0 w l d v

def rowsOf (σ : Store) : Nat → Nat → Option (List Row)
  | _, 0 => some []
  | k, m + 1 => match look σ k, rowsOf σ (k + 1) m with
    | some r, some l => some (r :: l)
    | _, _ => none

/-- A call enters the function's body. -/
def Enters (P : Program) (g : FuncId) : Prop := ∃ (fn : Func) (c : Code), P.funcs[g]? = some fn ∧ (fn.name == "runtime.NumGoroutine") = false ∧ fn.body = some c

/-- A function's contract: called with values that are such data, and rows that it may write, it returns such data. -/
def Fn (P : Program) (g : FuncId) (ds : List DV) (rows : List Row) (Q : DV → List Row → Prop) : Prop :=
  Enters P g ∧ ∀ (w : World) (I : Imm) (vs : Array Value) (β : Nat → Option Loc),
    I.inW w → vs.size = ds.length → (∀ j < ds.length, RepK I β (nth ds j) (vs.getD j undef)) → Rows I β (keyed refKey rows) w →
    Calls P g vs w fun e w' => ∃ v d rows' I', e = .returned v ∧ Imm.le I I' ∧ I'.inW w' ∧ (∀ b o, b < w.heap.size → I' b o = I b o) ∧
      Res I' β w.heap.size w' d v ∧ Rows I' β (keyed refKey rows') w' ∧ rows'.length = rows.length ∧
      Frm w w' (fun b => ∃ κ l, β κ = some l ∧ l.blk = some b) ∧ Q d rows'

theorem Fn.mono {P : Program} {g : FuncId} {ds : List DV} {rows : List Row} {Q Q' : DV → List Row → Prop} (h : Fn P g ds rows Q)
    (hq : ∀ d rs, Q d rs → Q' d rs) : Fn P g ds rows Q' := by
  refine ⟨h.1, fun w I vs β h1 h2 h3 h4 => ?_⟩
  refine (h.2 w I vs β h1 h2 h3 h4).mono ?_
  rintro e w' ⟨v, d, rows', I', a1, a2, a3, a4, a5, a6, a7, a8, a9⟩
  exact ⟨v, d, rows', I', a1, a2, a3, a4, a5, a6, a7, a8, hq _ _ a9⟩

def scalarD : DV → Bool
  | .int _ _ | .bool _ | .tt | .ff | .str _ | .nils | .nilp | .nilf | .nili => true
  | _ => false
def scalarL : List DV → Bool
  | [] => true
  | d :: l => if scalarD d then scalarL l else false
def scalarR : DV → Bool
  | .tup ds => scalarL ds
  | d => scalarD d

/-- Results that lead to no row of the caller's. -/
def lendOk1 : DV → Prop
  | .own sz n f => ∀ i < n, ∀ j < sz, scalarD (nth (cells (f i)) j) = true
  | .agg cs => scalarL cs = true
  | d => scalarD d = true
def lendOkL : List DV → Prop
  | [] => True
  | d :: l => lendOk1 d ∧ lendOkL l
def lendOk : DV → Prop
  | .tup l => lendOkL l
  | d => lendOk1 d

def nub : List Nat → List Nat → List Nat
  | acc, [] => acc
  | acc, k :: l => if mem acc k then nub acc l else nub (cat1 acc k) l
  where cat1 : List Nat → Nat → List Nat
  | [], k => [k]
  | a :: l, k => a :: cat1 l k
def idx : List Nat → Nat → Nat
  | [], _ => 0
  | a :: l, k => if a = k then 0 else idx l k + 1
mutual
def ren (ks : List Nat) : DV → DV
  | .ref κ o n => .ref (refKey + idx ks κ) o n
  | .rptr κ i off => .rptr (refKey + idx ks κ) i off
  | .agg cs => .agg (renL ks cs)
  | .tup cs => .tup (renL ks cs)
  | .fn g a b => .fn g (renL ks a) (renL ks b)
  | d => d
def renL (ks : List Nat) : List DV → List DV
  | [] => []
  | d :: l => ren ks d :: renL ks l
end
def keyAt : List Nat → Nat → Option Nat
  | [], _ => none
  | k :: _, 0 => some k
  | _ :: l, n + 1 => keyAt l n
def unren1 (ks : List Nat) : DV → DV
  | .ref κ o n => if κ < refKey then .junk else (match keyAt ks (κ - refKey) with | some k => .ref k o n | none => .junk)
  | d => d
def unrenL (ks : List Nat) : List DV → List DV
  | [] => []
  | d :: l => unren1 ks d :: unrenL ks l
def unren (ks : List Nat) : DV → DV
  | .tup l => .tup (unrenL ks l)
  | d => unren1 ks d
def lookL (σ : Store) : List Nat → Option (List Row)
  | [] => some []
  | k :: l => match look σ k, lookL σ l with
    | some r, some rs => some (r :: rs)
    | _, _ => none
def updL (σ : Store) : List Nat → List Row → Store
  | k :: l, r :: rs => updL (upd σ k r) l rs
  | _, _ => σ

def noKeys (ds : List DV) : Prop := keysOfL ds = []

def std (P : Program) : {α : Type} → Lf α → α
  | _, .arith => arithF
  | _, .cmp => cmpF
  | _, .wrap => fun k n => k.wrap n
  | _, .un => unF
  | _, .beq => fun a b => a == b
  | _, .bnot => fun a => !a
  | _, .band => fun a b => a && b
  | _, .scmp => scmpF
  | _, .scat => fun a b => a ++ b
  | _, .ssize => fun s => s.size
  | _, .byte => byteF
  | _, .sub => fun s a b => s.extract a b
  | _, .mkStr => mkStrF
  | _, .imax => fun x y => if y > x then y else x
  | _, .imin => fun x y => if y < x then y else x
  | _, .toNat => Int.toNat
  | _, .ofNat => fun n => (n : Int)
  | _, .nadd => fun a b => a + b
  | _, .nsub => fun a b => a - b
  | _, .nmin => fun a b => min a b
  | _, .neqb => fun a b => decide (a = b)
  | _, .appF => appFF
  | _, .setF => setFF
  | _, .cpyF => cpyFF
  | _, .clrF => clrFF
  | _, .inb => fun i n => 0 ≤ i ∧ i < n
  | _, .okOp => fun op b => match op with | .shl | .shr => 0 ≤ b | _ => b ≠ 0
  | _, .okCat => fun a b => ((a.size + b.size : Nat) : Int) ≤ 9223372036854775807
  | _, .rng => fun a b n => a ≤ b ∧ b ≤ n
  | _, .okI => fun n => 0 ≤ n
  | _, .room => fun n b => n * b ≤ 140737488355328
  | _, .isT => fun b => b = true
  | _, .okApp => fun n m => n = 0 ∨ 0 < m
  | _, .mkOk => fun l c b => 0 ≤ l ∧ l ≤ c ∧ c * (b : Int) ≤ 140737488355328
  | _, .bytes => fun n f => ∀ i < n, ∃ x, f i = .int .u8 x
  | _, .br => fun b A B => (b = true → A ()) ∧ (b = false → B ())
  | _, .join => fun W st => W st ∨ ∃ live keys, W (st.restr live keys)
  | _, .unk => fun n k => (0 < n → k false) ∧ (n = 0 → ∀ b, k b)
  | _, .call => fun g ds κ st K => noKeys ds ∧ Fn P g ds [] fun res _ => bindR κ res st K
  | _, .lend => fun g ds κ st K => noKeys ds ∧ Fn P g ds [] fun res _ => lendOk res ∧ bindR κ res st K
  | _, .refs => fun g ds κ st K => ∃ rows, lookL st.σ (nub [] (keysOfL ds)) = some rows ∧
      Fn P g (renL (nub [] (keysOfL ds)) ds) rows fun res rows' => bindR κ (unren (nub [] (keysOfL ds)) res) ⟨st.T, updL st.σ (nub [] (keysOfL ds)) rows'⟩ K

end Go.Sx
/-! Lists, stores, and what stays true of data when memory grows. -/
namespace Go.Sx

/-! ### lists -/
theorem nth_getD (l : List DV) (j : Nat) : nth l j = l.getD j .junk := by
  induction l generalizing j with
  | nil => simp [nth]
  | cons d r ih => cases j with
    | zero => simp [nth]
    | succ j => simp [nth, ih]
theorem nth_ge {l : List DV} {j : Nat} (h : l.length ≤ j) : nth l j = .junk := by
  rw [nth_getD]; simp [List.getD, List.getElem?_eq_none h]
theorem setN_set (l : List DV) (j : Nat) (v : DV) : setN l j v = l.set j v := by
  induction l generalizing j with
  | nil => simp [setN]
  | cons d r ih => cases j with
    | zero => simp [setN]
    | succ j => simp [setN, ih]
theorem setN_length (l : List DV) (j : Nat) (v : DV) : (setN l j v).length = l.length := by rw [setN_set]; simp
theorem nth_setN (l : List DV) (j i : Nat) (v : DV) : nth (setN l j v) i = if i = j then (if j < l.length then v else .junk) else nth l i := by
  rw [setN_set, nth_getD, nth_getD]
  by_cases h : i = j
  · subst h
    by_cases hl : i < l.length <;> simp [hl, List.getD]
  · simp [h, List.getD, Ne.symm h]
theorem len_length (l : List DV) : len l = l.length := by induction l <;> simp [len, *]
theorem dropN_drop (l : List DV) (n : Nat) : dropN l n = l.drop n := by
  induction n generalizing l with
  | zero => cases l <;> simp [dropN]
  | succ n ih => cases l <;> simp [dropN, ih]
theorem takeN_take (l : List DV) (n : Nat) : takeN l n = l.take n := by
  induction n generalizing l with
  | zero => cases l <;> simp [takeN]
  | succ n ih => cases l <;> simp [takeN, ih]
theorem cat_append (l m : List DV) : cat l m = l ++ m := by induction l <;> simp [cat, *]
theorem nth_append (l m : List DV) (j : Nat) : nth (l ++ m) j = if j < l.length then nth l j else nth m (j - l.length) := by
  simp only [nth_getD, List.getD, List.getElem?_append]
  split <;> rfl
theorem nth_drop_take (l : List DV) (o s j : Nat) (hj : j < s) : nth (takeN (dropN l o) s) j = nth l (o + j) := by
  rw [takeN_take, dropN_drop, nth_getD, nth_getD]
  simp [List.getD, hj]

theorem over_length (l : List DV) (o : Nat) (vs : List DV) : (over l o vs).length = l.length := by
  induction l generalizing o vs with
  | nil => simp [over]
  | cons d r ih => cases o with
    | zero => cases vs <;> simp [over, ih]
    | succ o => simp [over, ih]
theorem nth_over (l : List DV) (o : Nat) (vs : List DV) (j : Nat) (h : o + vs.length ≤ l.length) :
    nth (over l o vs) j = if o ≤ j ∧ j < o + vs.length then nth vs (j - o) else nth l j := by
  induction l generalizing o vs j with
  | nil =>
    simp only [List.length_nil] at h
    have : vs = [] := List.eq_nil_of_length_eq_zero (by omega)
    subst this
    simp [over, nth]
  | cons d r ih => cases o with
    | zero => cases vs with
      | nil => simp [over]
      | cons v vs =>
        simp only [over]
        cases j with
        | zero => simp [nth]
        | succ j =>
          simp only [nth]
          rw [ih 0 vs j (by simp at h; omega)]
          simp [nth]
    | succ o =>
      simp only [over]
      cases j with
      | zero => simp [nth]
      | succ j =>
        simp only [nth]
        rw [ih o vs j (by simp at h; omega)]
        simp only [Nat.add_le_add_iff_right, show o + 1 + vs.length = o + vs.length + 1 by omega, Nat.add_lt_add_iff_right, Nat.add_sub_add_right]

theorem mem_iff (l : List Nat) (k : Nat) : mem l k = true ↔ k ∈ l := by
  induction l with
  | nil => simp [mem]
  | cons a l ih =>
    simp only [mem, List.mem_cons]
    split
    · rename_i h; simp [h]
    · rename_i h; simp [ih, Ne.symm h]

/-! ### stores -/
theorem look_ins (σ : Store) (κ k : Nat) (r : Row) (h : look σ κ = none) : look (ins σ κ r) k = if k = κ then some r else look σ k := by
  induction σ with
  | nil => simp [ins, look, eq_comm]
  | cons p s ih =>
    obtain ⟨a, q⟩ := p
    simp only [look] at h
    split at h
    · cases h
    · rename_i hne
      simp only [ins]
      split
      · simp only [look, eq_comm]
      · simp only [look]
        by_cases hk : a = k
        · subst hk; simp [hne]
        · simp [hk, ih h]
theorem look_del (σ : Store) (κ k : Nat) : look (del σ κ) k = if k = κ then none else look σ k := by
  induction σ with
  | nil => simp [del, look]
  | cons p s ih =>
    obtain ⟨a, q⟩ := p
    simp only [del]
    split
    · rename_i h
      subst h
      rw [ih]
      by_cases hk : k = a
      · simp [hk]
      · simp [hk, look, Ne.symm hk]
    · rename_i h
      simp only [look, ih]
      by_cases hk : a = k
      · subst hk; simp [h]
      · simp [hk]
theorem look_upd (σ : Store) (κ k : Nat) (r : Row) : look (upd σ κ r) k = if k = κ then (look σ k).map (fun _ => r) else look σ k := by
  induction σ with
  | nil => simp [upd, look]
  | cons p s ih =>
    obtain ⟨a, q⟩ := p
    simp only [upd]
    split
    · rename_i h
      subst h
      simp only [look, ih]
      by_cases hk : a = k
      · subst hk; simp
      · simp [hk]
    · rename_i h
      simp only [look, ih]
      by_cases hk : a = k
      · subst hk; simp [h]
      · simp [hk]
theorem look_delL (ks : List Nat) : ∀ (σ : Store) (k : Nat), look (delL σ ks) k = if k ∈ ks then none else look σ k := by
  induction ks with
  | nil => intro σ k; cases σ <;> simp [delL]
  | cons a l ih =>
    intro σ k
    have : delL σ (a :: l) = delL (del σ a) l := by cases σ <;> rfl
    rw [this, ih, look_del]
    by_cases h1 : k = a
    · simp [h1]
    · simp [h1]
theorem look_keepS (keys : List Nat) (σ : Store) (k : Nat) : look (keepS keys σ) k = if k ∈ keys then look σ k else none := by
  induction σ with
  | nil => simp [keepS, look]
  | cons p s ih =>
    obtain ⟨a, q⟩ := p
    simp only [keepS]
    split
    · rename_i h
      rw [mem_iff] at h
      simp only [look, ih]
      by_cases hk : a = k
      · subst hk; simp [h]
      · simp [hk]
    · rename_i h
      rw [mem_iff] at h
      rw [ih]
      simp only [look]
      by_cases hk : a = k
      · subst hk; simp [h]
      · simp [hk]

/-! ### what stays -/
theorem Imm.le.refl (I : Imm) : Imm.le I I := fun _ _ _ h => h
theorem Imm.le.trans {I J K : Imm} (h : Imm.le I J) (k : Imm.le J K) : Imm.le I K := fun b o v hv => k b o v (h b o v hv)

theorem Rep.mono {I J : Imm} (h : Imm.le I J) {d : DV} {v : Value} (r : Rep I d v) : Rep J d v := by
  induction r with
  | int k n => exact .int k n
  | bool b => exact .bool b
  | tt => exact .tt
  | ff => exact .ff
  | str s => exact .str s
  | nilp => exact .nilp
  | nilf => exact .nilf
  | nili => exact .nili
  | nils => exact .nils
  | lst sz t n f a cap b o val h1 h2 h3 h4 h5 h6 _ ih => exact .lst sz t n f a cap b o val h1 h2 h3 h4 h5 (fun i j hi hj => h _ _ _ (h6 i j hi hj)) ih
  | eptr sz n f i off b c val h1 h2 h3 _ ih => exact .eptr sz n f i off b c val h1 h2 (fun j hj => h _ _ _ (h3 j hj)) ih
  | agg cs vs h1 h2 _ ih => exact .agg cs vs h1 h2 ih
  | fn g fst cap a b h1 h2 _ _ ih1 ih2 => exact .fn g fst cap a b h1 h2 ih1 ih2
  | und => exact .und

theorem RepK.mono {I J : Imm} {β γ : Nat → Option Loc} (h : Imm.le I J) (hb : ∀ κ l, β κ = some l → γ κ = some l) {d : DV} {v : Value} (r : RepK I β d v) : RepK J γ d v := by
  induction r with
  | pure hr => exact .pure (hr.mono h)
  | ref κ o n cap l b a h1 h2 h3 h4 h5 h6 => exact .ref κ o n cap l b a (hb _ _ h1) h2 h3 h4 h5 h6
  | refnil κ l ao h1 h2 => exact .refnil κ l ao (hb _ _ h1) h2
  | rptr κ i off l b h1 h2 h3 => exact .rptr κ i off l b (hb _ _ h1) h2 h3
  | fn g fst cap a b h1 h2 _ _ ih1 ih2 => exact .fn g fst cap a b h1 h2 ih1 ih2
  | tup ds vs h1 _ ih => exact .tup ds vs h1 ih
  | junk v => exact .junk v

/-- A value that fills one cell. -/
theorem Rep.one {I : Imm} {d : DV} {v : Value} (r : Rep I d v) (h : isCell d = true) : v.oneCell' = true ∧ v.cells = #[v] := by
  cases r <;> first | exact ⟨rfl, rfl⟩ | cases h

/-! ### the world -/
/-- Of block b the two worlds say the same. -/
theorem cell_of_heap {w w' : World} {b : Nat} (h : w'.heap[b]? = w.heap[b]?) (o : Nat) : w'.cell? ⟨b, o, none⟩ = w.cell? ⟨b, o, none⟩ := by
  unfold World.cell?; rw [h]
theorem frozen_of_heap {w w' : World} {b : Nat} (h : w'.heap[b]? = w.heap[b]?) (o : Nat) : w'.frozen? ⟨b, o, none⟩ = w.frozen? ⟨b, o, none⟩ := by
  unfold World.frozen?; rw [h]
theorem block_lt {w : World} {b o : Nat} (h : (w.cell? ⟨b, o, none⟩).isSome = true) : b < w.heap.size := by
  obtain ⟨v, hv⟩ := Option.isSome_iff_exists.1 h
  unfold World.cell? at hv
  rcases Nat.lt_or_ge b w.heap.size with hlt | hge
  · exact hlt
  · simp [Array.getElem?_eq_none hge] at hv

theorem RowAt.of_heap {I J : Imm} {w w' : World} {l : Loc} {r : Row} {b : Nat} (h : RowAt I w l r b) (hh : w'.heap[b]? = w.heap[b]?) (hi : Imm.le I J) (ha : ∀ o, J b o = none) : RowAt J w' l r b where
  there := fun j hj => by rw [cell_of_heap hh]; exact h.there j hj
  val := fun i j hi' hj => by
    obtain ⟨v, h1, h2⟩ := h.val i j hi' hj
    exact ⟨v, by rw [cell_of_heap hh]; exact h1, h2.mono hi⟩
  free := fun o ho => by rw [frozen_of_heap hh]; exact h.free o ho
  fits := h.fits
  apart := ha
  elem := h.elem
  mark := fun c ty fr hc => h.mark c ty fr (by rw [← hh]; exact hc)

theorem RowOk.of_heap {I J : Imm} {w w' : World} {l : Loc} {r : Row} (h : RowOk I w l r) (hh : ∀ b, l.blk = some b → w'.heap[b]? = w.heap[b]?) (hi : Imm.le I J)
    (ha : ∀ b o, l.blk = some b → J b o = none) : RowOk J w' l r :=
  ⟨h.sz, h.n, h.pos, fun b hb => (h.at_ b hb).of_heap (hh b hb) hi (fun o => ha b o hb), h.nil⟩

theorem Imm.inW.of_heap {I : Imm} {w w' : World} (h : I.inW w) (hh : ∀ b o v, I b o = some v → w'.heap[b]? = w.heap[b]?) : I.inW w' :=
  fun b o v hv => by rw [cell_of_heap (hh b o v hv)]; exact h b o v hv

theorem Frm.refl (w : World) (X : Nat → Prop) : Frm w w X := ⟨rfl, rfl, rfl, Nat.le_refl _, fun _ _ _ => rfl⟩
theorem Frm.trans {w w1 w2 : World} {X Y : Nat → Prop} (h : Frm w w1 X) (k : Frm w1 w2 Y) (hY : ∀ b, b < w.heap.size → ¬ X b → ¬ Y b) : Frm w w2 X :=
  ⟨k.os.trans h.os, k.tape.trans h.tape, k.output.trans h.output, Nat.le_trans h.size k.size,
   fun b hb hx => (k.block b (Nat.lt_of_lt_of_le hb h.size) (hY b hb hx)).trans (h.block b hb hx)⟩
theorem Frm.alloc (w : World) (o : Obj) (X : Nat → Prop) : Frm w (w.alloc o) X :=
  ⟨rfl, rfl, rfl, by simp only [World.alloc, Array.size_push]; omega, fun b hb _ => by simp only [World.alloc, Array.getElem?_push]; rw [if_neg (by omega)]⟩
theorem Frm.drew (w : World) (X : Nat → Prop) : Frm w w.drew X := ⟨rfl, rfl, rfl, Nat.le_refl _, fun _ _ _ => rfl⟩
theorem heap_setCells (b : Nat) : ∀ (vs : List Value) (o : Nat) (w : World) (k : Nat), k ≠ b → (w.setCells b o vs).heap[k]? = w.heap[k]?
  | [], _, _, _, _ => rfl
  | v :: r, o, w, k, h => by
    rw [World.setCells, heap_setCells b r (o + 1) _ k h]
    simp only [World.setCell, Array.getElem?_modify]
    rw [if_neg (Ne.symm h)]
theorem setCells_size (b : Nat) : ∀ (vs : List Value) (o : Nat) (w : World), (w.setCells b o vs).heap.size = w.heap.size
  | [], _, _ => rfl
  | v :: r, o, w => by rw [World.setCells, setCells_size b r (o + 1) _]; simp [World.setCell]
theorem setCells_rest (b : Nat) : ∀ (vs : List Value) (o : Nat) (w : World), (w.setCells b o vs).os = w.os ∧ (w.setCells b o vs).tape = w.tape ∧ (w.setCells b o vs).output = w.output
  | [], _, _ => ⟨rfl, rfl, rfl⟩
  | v :: r, o, w => by rw [World.setCells]; exact setCells_rest b r (o + 1) _
theorem mark_setCells (b k : Nat) : ∀ (vs : List Value) (o : Nat) (w : World) (c : Array Value) (ty : TypeId) (fr : Nat × Nat), (w.setCells b o vs).heap[k]? = some (.cells c ty fr) → ∃ c', w.heap[k]? = some (.cells c' ty fr)
  | [], _, _, c, _, _, h => ⟨c, h⟩
  | v :: vs, o, w, c, ty, fr, h => by
    obtain ⟨c1, h1⟩ := mark_setCells b k vs (o + 1) _ c ty fr h
    simp only [World.setCell, Array.getElem?_modify] at h1
    split at h1
    · cases hw : w.heap[k]? with
      | none => rw [hw] at h1; cases h1
      | some ob =>
        rw [hw] at h1
        cases ob <;> simp only [Option.map_some, Option.some.injEq, Obj.cells.injEq] at h1
        · obtain ⟨_, h2, h3⟩ := h1
          subst h2; subst h3
          exact ⟨_, rfl⟩
        all_goals cases h1
    · exact ⟨c1, h1⟩
theorem Frm.setCells (w : World) (b o : Nat) (vs : List Value) (X : Nat → Prop) (hX : w.heap.size ≤ b ∨ X b) : Frm w (w.setCells b o vs) X := by
  obtain ⟨h1, h2, h3⟩ := setCells_rest b vs o w
  refine ⟨h1, h2, h3, by rw [setCells_size]; exact Nat.le_refl _, fun k hk hx => heap_setCells b vs o w k ?_⟩
  rintro rfl
  rcases hX with h | h
  · omega
  · exact hx h

end Go.Sx
/-! States against the model's frames and worlds. -/
namespace Go.Sx
open Classical

structure Ctx where
  I0 : Imm
  w0 : World
  β0 : Nat → Option Loc

/-- A block of the caller's that may be written. -/
def Ctx.X (C : Ctx) (b : Nat) : Prop := ∃ κ l, C.β0 κ = some l ∧ l.blk = some b

structure Sim (C : Ctx) (I : Imm) (β : Nat → Option Loc) (st : St) (a : Act) (w : World) : Prop where
  le : Imm.le C.I0 I
  inw : I.inW w
  ext : ∀ b o, b < C.w0.heap.size → I b o = C.I0 b o
  defs : a.defers = []
  size : a.tmps.size = st.T.length
  tmps : ∀ t, t < st.T.length → RepK I β (nth st.T t) (a.tmps.getD t undef)
  rows : Rows I β st.σ w
  own : ∀ κ l b, κ < refKey → β κ = some l → l.blk = some b → C.w0.heap.size ≤ b
  refs : ∀ κ l, refKey ≤ κ → β κ = some l → C.β0 κ = some l
  frame : Frm C.w0 w C.X

section
variable {C : Ctx} {I : Imm} {β : Nat → Option Loc} {st : St} {a : Act} {w : World}

theorem Sim.tmp (h : Sim C I β st a w) (t : Nat) : RepK I β (nth st.T t) (a.tmps.getD t undef) := by
  by_cases ht : t < st.T.length
  · exact h.tmps t ht
  · rw [nth_ge (by omega)]; exact .junk _

theorem Sim.put (h : Sim C I β st a w) (dst : Option Nat) {d : DV} {v : Value} (hd : RepK I β d v) : Sim C I β (st.put dst d) (a.put dst v) w := by
  cases dst with
  | none => exact h
  | some t =>
    refine { h with defs := h.defs, size := ?_, tmps := ?_ }
    · simp [St.put, Act.put, setN_length, h.size]
    · intro i hi
      simp only [St.put, setN_length] at hi
      simp only [St.put, Act.put, nth_setN]
      by_cases hit : i = t
      · subst hit
        rw [if_pos rfl, if_pos hi]
        have : i < a.tmps.size := by rw [h.size]; exact hi
        simpa [Array.getD, this] using hd
      · rw [if_neg hit]
        have := h.tmps i hi
        have e : (a.tmps.setIfInBounds t v).getD i undef = a.tmps.getD i undef := by
          simp [Array.getD_eq_getD_getElem?, Ne.symm hit]
        rw [e]; exact this

/-- The tape has been asked. -/
theorem Sim.drew (h : Sim C I β st a w) : Sim C I β st a w.drew :=
  { h with
    inw := fun b o v hv => h.inw b o v hv
    rows := ⟨h.rows.dom, fun κ r hr => by
      obtain ⟨l, h1, h2⟩ := h.rows.rows κ r hr
      exact ⟨l, h1, h2.of_heap (fun _ _ => rfl) (Imm.le.refl _) (fun b o hb => (h2.at_ b hb).apart o)⟩, h.rows.sep, h.rows.lt⟩
    frame := h.frame.trans (Frm.drew _ (fun _ => False)) (fun _ _ _ => id) }

def updB (β : Nat → Option Loc) (κ : Nat) (l : Loc) : Nat → Option Loc := fun k => if k = κ then some l else β k

/-- A new block, and a row in it (or the empty row of nil). -/
theorem Sim.newRow (h : Sim C I β st a w) {κ : Nat} {r : Row} (hκ : κ < refKey) (hn : look st.σ κ = none) {w' : World} {l : Loc}
    (hfrm : Frm w w' (fun b => l.blk = some b)) (hnew : ∀ b, l.blk = some b → C.w0.heap.size ≤ b ∧ b < w'.heap.size ∧ ∀ κ' l', β κ' = some l' → l'.blk ≠ some b) (hr : RowOk I w' l r) :
    Sim C I (updB β κ l) ⟨st.T, ins st.σ κ r⟩ a w' ∧ ∀ κ' l', β κ' = some l' → updB β κ l κ' = some l' := by
  have hb0 : β κ = none := h.rows.dom κ hn
  have hext : ∀ κ' l', β κ' = some l' → updB β κ l κ' = some l' := by
    intro κ' l' hk
    unfold updB
    split
    · rename_i e; subst e; rw [hb0] at hk; cases hk
    · exact hk
  have hblk : ∀ b, b < w.heap.size → l.blk ≠ some b → w'.heap[b]? = w.heap[b]? := fun b hb hx => hfrm.block b hb hx
  refine ⟨{ le := h.le, inw := ?_, ext := h.ext, defs := h.defs, size := h.size, tmps := ?_, rows := ⟨?_, ?_, ?_, ?_⟩, own := ?_, refs := ?_, frame := ?_ }, hext⟩
  · refine h.inw.of_heap fun b o v hv => hblk b (block_lt (by rw [h.inw b o v hv]; rfl)) fun hb => ?_
    have := (hr.at_ b hb).apart o
    rw [this] at hv; cases hv
  · exact fun t ht => (h.tmps t ht).mono (Imm.le.refl _) hext
  · intro k hk
    rw [look_ins _ _ _ _ hn] at hk
    split at hk
    · cases hk
    · rename_i hne; unfold updB; rw [if_neg hne]; exact h.rows.dom k hk
  · intro k q hk
    rw [look_ins _ _ _ _ hn] at hk
    split at hk
    · rename_i e; subst e
      obtain rfl := Option.some.inj hk
      exact ⟨l, by simp [updB], hr⟩
    · rename_i hne
      obtain ⟨l', h1, h2⟩ := h.rows.rows k q hk
      exact ⟨l', hext _ _ h1, h2.of_heap (fun b hb => hblk b (h.rows.lt _ _ _ h1 hb) (fun hb' => (hnew b hb').2.2 _ _ h1 hb)) (Imm.le.refl _) (fun b o hb => (h2.at_ b hb).apart o)⟩
  · intro k k' l1 l2 b hne h1 h2 hb hb'
    unfold updB at h1 h2
    split at h1
    · rename_i e
      obtain rfl := Option.some.inj h1
      rw [if_neg (fun e' => hne (e.trans e'.symm))] at h2
      exact absurd hb' ((hnew b hb).2.2 _ _ h2)
    · split at h2
      · obtain rfl := Option.some.inj h2
        exact absurd hb ((hnew b hb').2.2 _ _ h1)
      · exact h.rows.sep k k' l1 l2 b hne h1 h2 hb hb'
  · intro k l1 b h1 hb
    unfold updB at h1
    split at h1
    · obtain rfl := Option.some.inj h1
      exact (hnew b hb).2.1
    · exact Nat.lt_of_lt_of_le (h.rows.lt _ _ _ h1 hb) hfrm.size
  · intro k l1 b hk h1 hb
    unfold updB at h1
    split at h1
    · obtain rfl := Option.some.inj h1
      exact (hnew b hb).1
    · exact h.own k l1 b hk h1 hb
  · intro k l1 hk h1
    unfold updB at h1
    split at h1
    · omega
    · exact h.refs k l1 hk h1
  · exact h.frame.trans hfrm (fun b hb _ hlb => by have := (hnew b hlb).1; omega)

/-- A row is written where it lies. -/
theorem Sim.setRow (h : Sim C I β st a w) {κ : Nat} {r : Row} {l : Loc} {w' : World} (hl : β κ = some l)
    (hfrm : Frm w w' (fun b => l.blk = some b)) (hr : RowOk I w' l r) :
    Sim C I β ⟨st.T, upd st.σ κ r⟩ a w' := by
  have hblk : ∀ b, b < w.heap.size → l.blk ≠ some b → w'.heap[b]? = w.heap[b]? := fun b hb hx => hfrm.block b hb hx
  refine { le := h.le, inw := ?_, ext := h.ext, defs := h.defs, size := h.size, tmps := h.tmps, rows := ⟨?_, ?_, h.rows.sep, ?_⟩, own := h.own, refs := h.refs, frame := ?_ }
  · refine h.inw.of_heap fun b o v hv => hblk b (block_lt (by rw [h.inw b o v hv]; rfl)) fun hb => ?_
    have := (hr.at_ b hb).apart o
    rw [this] at hv; cases hv
  · intro k hk
    rw [look_upd] at hk
    split at hk
    · rename_i e
      refine h.rows.dom k ?_
      cases hh : look st.σ k with
      | none => rfl
      | some q => rw [hh] at hk; cases hk
    · exact h.rows.dom k hk
  · intro k q hk
    rw [look_upd] at hk
    split at hk
    · rename_i e; subst e
      cases hh : look st.σ k with
      | none => rw [hh] at hk; cases hk
      | some q' => rw [hh] at hk; obtain rfl := Option.some.inj hk; exact ⟨l, hl, hr⟩
    · rename_i hne
      obtain ⟨l', h1, h2⟩ := h.rows.rows k q hk
      exact ⟨l', h1, h2.of_heap (fun b hb => hblk b (h.rows.lt _ _ _ h1 hb) (fun hb' => h.rows.sep κ k l l' b (Ne.symm hne) hl h1 hb' hb)) (Imm.le.refl _) (fun b o hb => (h2.at_ b hb).apart o)⟩
  · intro k l1 b h1 hb
    exact Nat.lt_of_lt_of_le (h.rows.lt _ _ _ h1 hb) hfrm.size
  · refine h.frame.trans hfrm fun b hb hx hlb => ?_
    rcases Nat.lt_or_ge κ refKey with hk | hk
    · have := h.own κ l b hk hl hlb
      omega
    · exact hx ⟨κ, l, h.refs κ l hk hl, hlb⟩

/-- Less is known. -/
theorem Sim.weaken (h : Sim C I β st a w) {γ : Nat → Option Loc} {st' : St} (hlen : st'.T.length = st.T.length) (hγ : ∀ κ l, γ κ = some l → β κ = some l)
    (hT : ∀ t, t < st.T.length → RepK I γ (nth st'.T t) (a.tmps.getD t undef))
    (hdom : ∀ κ, look st'.σ κ = none → γ κ = none) (hrows : ∀ κ r, look st'.σ κ = some r → look st.σ κ = some r ∧ γ κ = β κ) : Sim C I γ st' a w := by
  refine { le := h.le, inw := h.inw, ext := h.ext, defs := h.defs, size := by rw [h.size, hlen], tmps := fun t ht => hT t (by omega), rows := ⟨hdom, ?_, ?_, ?_⟩, own := ?_, refs := ?_, frame := h.frame }
  · intro k r hk
    obtain ⟨h1, h2⟩ := hrows k r hk
    obtain ⟨l, h3, h4⟩ := h.rows.rows k r h1
    exact ⟨l, h2.trans h3, h4⟩
  · exact fun κ κ' l l' b hne h1 h2 => h.rows.sep κ κ' l l' b hne (hγ _ _ h1) (hγ _ _ h2)
  · exact fun κ l b h1 => h.rows.lt κ l b (hγ _ _ h1)
  · exact fun κ l b hk h1 => h.own κ l b hk (hγ _ _ h1)
  · exact fun κ l hk h1 => h.refs κ l hk (hγ _ _ h1)
end

/-! ### keys that go -/
theorem nth_mem_keys {l : List DV} {j : Nat} {k : Nat} (hk : k ∈ keysOf (nth l j)) : k ∈ keysOfL l := by
  induction l generalizing j with
  | nil => simp [nth, keysOf] at hk
  | cons d r ih => cases j with
    | zero => simp only [nth] at hk; simp [keysOfL, hk]
    | succ j => simp only [nth] at hk; simp [keysOfL, ih hk]

/-- Of data, only the places of its own keys are asked. -/
theorem RepK.keys {I : Imm} {β γ : Nat → Option Loc} {d : DV} {v : Value} (r : RepK I β d v) (h : ∀ k ∈ keysOf d, γ k = β k) : RepK I γ d v := by
  induction r with
  | pure hr => exact .pure hr
  | ref κ o n cap l b a h1 h2 h3 h4 h5 h6 => exact .ref κ o n cap l b a ((h κ (by simp [keysOf])).trans h1) h2 h3 h4 h5 h6
  | refnil κ l ao h1 h2 => exact .refnil κ l ao ((h κ (by simp [keysOf])).trans h1) h2
  | rptr κ i off l b h1 h2 h3 => exact .rptr κ i off l b ((h κ (by simp [keysOf])).trans h1) h2 h3
  | fn g fst cap a b h1 h2 _ _ ih1 ih2 =>
    exact .fn g fst cap a b h1 h2 (fun j hj => ih1 j hj (fun k hk => h k (by simp [keysOf, nth_mem_keys hk]))) (fun j hj => ih2 j hj (fun k hk => h k (by simp [keysOf, nth_mem_keys hk])))
  | tup ds vs h1 _ ih => exact .tup ds vs h1 (fun j hj => ih j hj (fun k hk => h k (by simp [keysOf, nth_mem_keys hk])))
  | junk v => exact .junk v

theorem nth_killL (κ : Nat) (l : List DV) (j : Nat) : nth (killL κ l) j = if κ ∈ keysOf (nth l j) then .junk else nth l j := by
  induction l generalizing j with
  | nil => simp [killL, nth, keysOf]
  | cons d r ih => cases j with
    | zero =>
      simp only [killL, nth]
      by_cases h : κ ∈ keysOf d
      · simp [h, (mem_iff _ _).2 h]
      · have : mem (keysOf d) κ = false := by
          cases hm : mem (keysOf d) κ
          · rfl
          · exact absurd ((mem_iff _ _).1 hm) h
        simp [h, this]
    | succ j => simp only [killL, nth]; exact ih j
theorem killL_length (κ : Nat) (l : List DV) : (killL κ l).length = l.length := by induction l <;> simp [killL, *]

/-- A row is forgotten, and whatever leads to it. -/
theorem Sim.kill {C : Ctx} {I : Imm} {β : Nat → Option Loc} {st : St} {a : Act} {w : World} (h : Sim C I β st a w) (κ : Nat) :
    Sim C I (fun k => if k = κ then none else β k) ⟨killL κ st.T, del st.σ κ⟩ a w := by
  refine h.weaken (killL_length _ _) ?_ ?_ ?_ ?_
  · intro k l hk
    skip
    split at hk
    · cases hk
    · exact hk
  · intro t ht
    dsimp only
    rw [nth_killL]
    split
    · exact .junk _
    · rename_i hnk
      exact (h.tmps t ht).keys fun k hk => by
        skip
        rw [if_neg]
        rintro rfl
        exact hnk hk
  · intro k hk
    dsimp only at hk ⊢
    rw [look_del] at hk
    split
    · rfl
    · rename_i hne
      rw [if_neg hne] at hk
      exact h.rows.dom k hk
  · intro k r hk
    dsimp only at hk ⊢
    rw [look_del] at hk
    split at hk
    · cases hk
    · rename_i hne
      exact ⟨hk, by rw [if_neg hne]⟩

theorem subset_iff (l m : List Nat) : subset l m = true ↔ ∀ k ∈ l, k ∈ m := by
  induction l with
  | nil => simp [subset]
  | cons a l ih =>
    simp only [subset]
    by_cases h : mem m a = true
    · simp [h, ih, (mem_iff _ _).1 h]
    · have : a ∉ m := fun hm => h ((mem_iff _ _).2 hm)
      simp [h, this]

theorem keepT_length (live keys : List Nat) : ∀ (l : List DV) (i : Nat), (keepT live keys i l).length = l.length
  | [], _ => rfl
  | d :: l, i => by simp [keepT, keepT_length live keys l (i + 1)]
theorem nth_keepT (live keys : List Nat) : ∀ (l : List DV) (i j : Nat), nth (keepT live keys i l) j = .junk ∨ (nth (keepT live keys i l) j = nth l j ∧ ∀ k ∈ keysOf (nth l j), k ∈ keys)
  | [], _, _ => by simp [keepT, nth]
  | d :: l, i, 0 => by
    simp only [keepT, nth]
    split
    · split
      · rename_i h; exact .inr ⟨rfl, (subset_iff _ _).1 h⟩
      · exact .inl rfl
    · exact .inl rfl
  | d :: l, i, j + 1 => by simp only [keepT, nth]; exact nth_keepT live keys l (i + 1) j

theorem Sim.restr {C : Ctx} {I : Imm} {β : Nat → Option Loc} {st : St} {a : Act} {w : World} (h : Sim C I β st a w) (live keys : List Nat) :
    Sim C I (fun k => if k ∈ keys then β k else none) (st.restr live keys) a w := by
  refine h.weaken (keepT_length _ _ _ _) ?_ ?_ ?_ ?_
  · intro k l hk
    skip
    split at hk
    · exact hk
    · cases hk
  · intro t ht
    rcases nth_keepT live keys st.T 0 t with e | ⟨e, hk⟩
    · simp only [St.restr, e]; exact .junk _
    · simp only [St.restr, e]
      exact (h.tmps t ht).keys fun k hk' => by rw [if_pos (hk k hk')]
  · intro k hk
    simp only [St.restr, look_keepS] at hk
    skip
    split
    · rename_i hm; rw [if_pos hm] at hk; exact h.rows.dom k hk
    · rfl
  · intro k r hk
    simp only [St.restr, look_keepS] at hk
    split at hk
    · rename_i hm; exact ⟨hk, by rw [if_pos hm]⟩
    · cases hk

end Go.Sx
/-! Rows that are seen as data that stays; what calls hand back. -/
namespace Go.Sx
open Classical

/-- What stays, with the rows of these keys. -/
noncomputable def frzI (I : Imm) (β : Nat → Option Loc) (lim : Nat) (ks : List Nat) (w : World) : Imm := fun b o =>
  match I b o with
  | some v => some v
  | none => if (∃ κ l, κ ∈ ks ∧ κ < lim ∧ β κ = some l ∧ l.blk = some b) then w.cell? ⟨b, o, none⟩ else none

theorem frzI_le (I : Imm) (β : Nat → Option Loc) (lim : Nat) (ks : List Nat) (w : World) : Imm.le I (frzI I β lim ks w) := by
  intro b o v h
  simp [frzI, h]
theorem frzI_inW {I : Imm} {β : Nat → Option Loc} {lim : Nat} {ks : List Nat} {w : World} (h : I.inW w) : (frzI I β lim ks w).inW w := by
  intro b o v hv
  unfold frzI at hv
  split at hv
  · rename_i u hu
    obtain rfl := Option.some.inj hv
    exact h b o _ hu
  · split at hv
    · exact hv
    · cases hv
theorem frzI_at {I : Imm} {β : Nat → Option Loc} {lim : Nat} {ks : List Nat} {w : World} {κ : Nat} {l : Loc} {b : Nat} (hk : κ ∈ ks) (hl : κ < lim) (h : β κ = some l) (hb : l.blk = some b)
    (ha : ∀ o, I b o = none) (o : Nat) : frzI I β lim ks w b o = w.cell? ⟨b, o, none⟩ := by
  unfold frzI
  rw [ha o]
  simp only
  rw [if_pos ⟨κ, l, hk, hl, h, hb⟩]

theorem nth_viewL (lim : Nat) (ks : List Nat) (σ : Store) (l : List DV) (j : Nat) : nth (viewL lim ks σ l) j = view lim ks σ (nth l j) := by
  induction l generalizing j with
  | nil => simp [viewL, nth, view]
  | cons d r ih => cases j with
    | zero => simp [viewL, nth]
    | succ j => simp [viewL, nth, ih]
theorem viewL_length (lim : Nat) (ks : List Nat) (σ : Store) (l : List DV) : (viewL lim ks σ l).length = l.length := by
  induction l <;> simp [viewL, *]

theorem isCell_view {I : Imm} (lim : Nat) (ks : List Nat) (σ : Store) {d : DV} {v : Value} (r : Rep I d v) (h : isCell d = true) : isCell (view lim ks σ d) = true := by
  cases r <;> first | rfl | cases h

theorem Rep.view {I J : Imm} (hJ : Imm.le I J) (lim : Nat) (ks : List Nat) (σ : Store) {d : DV} {v : Value} (r : Rep I d v) : Rep J (view lim ks σ d) v := by
  induction r with
  | int k n => exact .int k n
  | bool b => exact .bool b
  | tt => exact .tt
  | ff => exact .ff
  | str s => exact .str s
  | nilp => exact .nilp
  | nilf => exact .nilf
  | nili => exact .nili
  | nils => exact .nils
  | lst sz t n f a cap b o val h1 h2 h3 h4 h5 h6 h7 _ => exact (Rep.lst sz t n f a cap b o val h1 h2 h3 h4 h5 h6 h7).mono hJ
  | eptr sz n f i off b c val h1 h2 h3 h4 _ => exact (Rep.eptr sz n f i off b c val h1 h2 h3 h4).mono hJ
  | agg cs vs h1 h2 h3 ih =>
    refine .agg _ vs (by rw [viewL_length]; exact h1) ?_ ?_
    · intro j hj
      rw [viewL_length] at hj
      rw [nth_viewL]
      exact isCell_view lim ks σ (h3 j hj) (h2 j hj)
    · intro j hj
      rw [viewL_length] at hj
      rw [nth_viewL]
      exact ih j hj
  | fn g fst cap a b h1 h2 h3 h4 ih1 ih2 =>
    refine .fn g _ _ a b (by rw [viewL_length]; exact h1) (by rw [viewL_length]; exact h2) ?_ ?_
    · intro j hj
      rw [viewL_length] at hj
      rw [nth_viewL]; exact ih1 j hj
    · intro j hj
      rw [viewL_length] at hj
      rw [nth_viewL]; exact ih2 j hj
  | und => exact .und

theorem shift_eq (o : Nat) (f : Nat → DV) (i : Nat) : shift o f i = f (o + i) := by
  cases o with
  | zero => simp [shift]
  | succ o => simp [shift]

/-- A row's elements, in a slice of it, as data that stays. -/
theorem RowOk.lst {I J : Imm} {w : World} {l : Loc} {r : Row} (h : RowOk I w l r) (hJ : Imm.le I J) {b : Nat} (hb : l.blk = some b) (hat : ∀ o, J b o = w.cell? ⟨b, o, none⟩)
    {o n cap : Nat} {a : Addr} (h1 : n ≤ cap) (h2 : o + n ≤ l.n) (h3 : 0 < cap → a = ⟨b, l.off + o * l.sz, none⟩) :
    Rep J (.lst r.sz false n (shift o r.f)) (.slice (some a) n cap) := by
  have hA := h.at_ b hb
  have hn := h.n
  have hs := h.sz
  have hcell : ∀ i j, i < n → j < r.sz → ∃ v, w.cell? ⟨b, l.off + o * l.sz + i * r.sz + j, none⟩ = some v ∧ Rep I (nth (cells (shift o r.f i)) j) v := by
    intro i j hi hj
    obtain ⟨v, h4, h5⟩ := hA.val (o + i) j (by omega) hj
    refine ⟨v, ?_, by rw [shift_eq]; exact h5⟩
    rw [← h4, hs]
    congr 2
    rw [Nat.add_mul]
    omega
  refine .lst r.sz false n _ _ cap b (l.off + o * l.sz) (fun i j => (w.cell? ⟨b, l.off + o * l.sz + i * r.sz + j, none⟩).getD undef) h.pos h1 (by simp) (fun hn0 => by rw [h3 (by omega)]) ?_ ?_ ?_
  · intro i hi
    rw [shift_eq]
    exact hA.elem _ (by omega)
  · intro i j hi hj
    obtain ⟨v, h4, _⟩ := hcell i j hi hj
    rw [hat, h4]; rfl
  · intro i j hi hj
    obtain ⟨v, h4, h5⟩ := hcell i j hi hj
    skip
    rw [h4]
    exact h5.mono hJ

theorem RowOk.eptr {I J : Imm} {w : World} {l : Loc} {r : Row} (h : RowOk I w l r) (hJ : Imm.le I J) {b : Nat} (hb : l.blk = some b) (hat : ∀ o, J b o = w.cell? ⟨b, o, none⟩)
    {i : Nat} (off : Nat) (hi : i < l.n) : Rep J (.eptr r.sz r.n r.f i off) (.pointer (some ⟨b, l.off + i * l.sz + off, none⟩)) := by
  have hA := h.at_ b hb
  have hn := h.n
  have hs := h.sz
  rw [hs]
  refine .eptr r.sz r.n r.f i off b (l.off + i * r.sz) (fun j => (w.cell? ⟨b, l.off + i * r.sz + j, none⟩).getD undef) h.pos (hA.elem i (by omega)) ?_ ?_
  · intro j hj
    obtain ⟨v, h4, _⟩ := hA.val i j (by omega) hj
    rw [hat, h4]; rfl
  · intro j hj
    obtain ⟨v, h4, h5⟩ := hA.val i j (by omega) hj
    skip
    rw [h4]
    exact h5.mono hJ

theorem RepK.view {I J : Imm} {β γ : Nat → Option Loc} {σ : Store} {w : World} (hR : Rows I β σ w) (lim : Nat) (ks : List Nat) (hJ : Imm.le I J)
    (hat : ∀ κ l b o, κ ∈ ks → κ < lim → β κ = some l → l.blk = some b → J b o = w.cell? ⟨b, o, none⟩) (hγ : ∀ κ, κ ∉ ks → γ κ = β κ)
    {d : DV} {v : Value} (r : RepK I β d v) : RepK J γ (view lim ks σ d) v := by
  induction r with
  | pure hr => exact .pure (hr.view hJ lim ks σ)
  | ref κ o n cap l b a h1 h2 h3 h4 h5 h6 =>
    simp only [Sx.view, viewRef]
    by_cases hm : mem ks κ = true
    · rw [if_pos hm]
      have hk := (mem_iff _ _).1 hm
      by_cases hlim : κ < lim
      · rw [if_pos hlim]
        cases hlook : look σ κ with
        | none => rw [hR.dom κ hlook] at h1; cases h1
        | some r =>
          obtain ⟨l', h7, h8⟩ := hR.rows κ r hlook
          rw [h1] at h7
          obtain rfl := Option.some.inj h7
          exact .pure (h8.lst hJ h2 (fun o => hat κ l b o hk hlim h1 h2) h3 h4 h6)
      · rw [if_neg hlim]; exact .junk _
    · rw [if_neg hm]
      have hk : κ ∉ ks := fun h => hm ((mem_iff _ _).2 h)
      exact .ref κ o n cap l b a ((hγ κ hk).trans h1) h2 h3 h4 h5 h6
  | refnil κ l ao h1 h2 =>
    simp only [Sx.view, viewRef]
    by_cases hm : mem ks κ = true
    · rw [if_pos hm]
      by_cases hlim : κ < lim
      · rw [if_pos hlim]
        cases hlook : look σ κ with
        | none => rw [hR.dom κ hlook] at h1; cases h1
        | some r =>
          obtain ⟨l', h7, h8⟩ := hR.rows κ r hlook
          exact .pure (.lst r.sz false 0 _ ao 0 0 0 (fun _ _ => undef) h8.pos (Nat.le_refl _) (by simp) (by simp) (fun i hi => by omega) (fun i j hi => by omega) (fun i j hi => by omega))
      · rw [if_neg hlim]; exact .junk _
    · rw [if_neg hm]
      have hk : κ ∉ ks := fun h => hm ((mem_iff _ _).2 h)
      exact .refnil κ l ao ((hγ κ hk).trans h1) h2
  | rptr κ i off l b h1 h2 h3 =>
    simp only [Sx.view, viewPtr]
    by_cases hm : mem ks κ = true
    · rw [if_pos hm]
      have hk := (mem_iff _ _).1 hm
      by_cases hlim : κ < lim
      · rw [if_pos hlim]
        cases hlook : look σ κ with
        | none => rw [hR.dom κ hlook] at h1; cases h1
        | some r =>
          obtain ⟨l', h7, h8⟩ := hR.rows κ r hlook
          rw [h1] at h7
          obtain rfl := Option.some.inj h7
          exact .pure (h8.eptr hJ h2 (fun o => hat κ l b o hk hlim h1 h2) off h3)
      · rw [if_neg hlim]; exact .junk _
    · rw [if_neg hm]
      have hk : κ ∉ ks := fun h => hm ((mem_iff _ _).2 h)
      exact .rptr κ i off l b ((hγ κ hk).trans h1) h2 h3
  | fn g fst cap a b h1 h2 _ _ ih1 ih2 =>
    simp only [Sx.view]
    refine .fn g _ _ a b (by rw [viewL_length]; exact h1) (by rw [viewL_length]; exact h2) ?_ ?_
    · intro j hj
      rw [viewL_length] at hj
      rw [nth_viewL]; exact ih1 j hj
    · intro j hj
      rw [viewL_length] at hj
      rw [nth_viewL]; exact ih2 j hj
  | tup ds vs h1 _ ih =>
    simp only [Sx.view]
    refine .tup _ vs (by rw [viewL_length]; exact h1) ?_
    intro j hj
    rw [viewL_length] at hj
    rw [nth_viewL]; exact ih j hj
  | junk v => exact .junk v

section
variable {C : Ctx} {I : Imm} {β : Nat → Option Loc} {st : St} {a : Act} {w : World}

theorem Sim.freeze (h : Sim C I β st a w) (ks : List Nat) : ∃ J γ, Sim C J γ (st.freeze ks) a w ∧ Imm.le I J ∧ (∀ d v, RepK I β d v → RepK J γ (view 100000 ks st.σ d) v) := by
  cases ks with
  | nil =>
    refine ⟨I, β, h, Imm.le.refl _, fun d v hd => hd.view h.rows 100000 [] (Imm.le.refl _) (fun κ l b o hk => by cases hk) (fun _ _ => rfl)⟩
  | cons k0 ks0 =>
    generalize hks : k0 :: ks0 = ks
    have hfz : st.freeze ks = ⟨viewL 100000 ks st.σ st.T, delL st.σ ks⟩ := by rw [← hks]; rfl
    have hJ := frzI_le I β 100000 ks w
    have hat : ∀ κ l b o, κ ∈ ks → κ < 100000 → β κ = some l → l.blk = some b → frzI I β 100000 ks w b o = w.cell? ⟨b, o, none⟩ := by
      intro κ l b o hk hlim h1 h2
      refine frzI_at hk hlim h1 h2 ?_ o
      have hlook : look st.σ κ ≠ none := fun e => by rw [h.rows.dom κ e] at h1; cases h1
      obtain ⟨r, hr⟩ := Option.ne_none_iff_exists'.1 hlook
      obtain ⟨l', h3, h4⟩ := h.rows.rows κ r hr
      rw [h1] at h3
      obtain rfl := Option.some.inj h3
      exact (h4.at_ b h2).apart
    have hv : ∀ d v, RepK I β d v → RepK (frzI I β 100000 ks w) (fun κ => if κ ∈ ks then none else β κ) (view 100000 ks st.σ d) v :=
      fun d v hd => hd.view h.rows 100000 ks hJ hat (fun κ hk => by rw [if_neg hk])
    refine ⟨frzI I β 100000 ks w, fun κ => if κ ∈ ks then none else β κ, ?_, hJ, hv⟩
    rw [hfz]
    refine { le := h.le.trans hJ, inw := frzI_inW h.inw, ext := ?_, defs := h.defs, size := by rw [viewL_length]; exact h.size, tmps := ?_, rows := ⟨?_, ?_, ?_, ?_⟩, own := ?_, refs := ?_, frame := h.frame }
    · intro b o hb
      rw [← h.ext b o hb]
      unfold frzI
      split
      · rename_i v hv; rw [hv]
      · rename_i hn
        rw [if_neg, hn]
        rintro ⟨κ, l, hk, hlim, h1, h2⟩
        have := h.own κ l b hlim h1 h2
        omega
    · intro t ht
      rw [viewL_length] at ht
      rw [nth_viewL]
      exact hv _ _ (h.tmps t ht)
    · intro κ hk
      rw [look_delL] at hk
      by_cases hm : κ ∈ ks
      · rw [if_pos hm]
      · rw [if_neg hm] at hk ⊢
        exact h.rows.dom κ hk
    · intro κ r hr
      rw [look_delL] at hr
      by_cases hm : κ ∈ ks
      · rw [if_pos hm] at hr; cases hr
      · rw [if_neg hm] at hr
        obtain ⟨l, h1, h2⟩ := h.rows.rows κ r hr
        refine ⟨l, by rw [if_neg hm]; exact h1, h2.of_heap (fun _ _ => rfl) hJ ?_⟩
        intro b o hb
        have ha := (h2.at_ b hb).apart o
        unfold frzI
        rw [ha]
        simp only
        rw [if_neg]
        rintro ⟨κ', l', hk', _, h3, h4⟩
        exact h.rows.sep κ κ' l l' b (fun e => hm (e ▸ hk')) h1 h3 hb h4
    · intro κ κ' l l' b hne h1 h2
      dsimp only at h1 h2
      split at h1
      · cases h1
      · split at h2
        · cases h2
        · exact h.rows.sep κ κ' l l' b hne h1 h2
    · intro κ l b h1
      split at h1
      · cases h1
      · exact h.rows.lt κ l b h1
    · intro κ l b hk h1
      split at h1
      · cases h1
      · exact h.own κ l b hk h1
    · intro κ l hk h1
      split at h1
      · cases h1
      · exact h.refs κ l hk h1

/-- The world has grown, and so has what stays. -/
theorem Sim.grow (h : Sim C I β st a w) {J : Imm} {w' : World} (hfrm : Frm w w' (fun _ => False)) (hJ : Imm.le I J) (hin : J.inW w') (hx : ∀ b o, b < w.heap.size → J b o = I b o) :
    Sim C J β st a w' where
  le := h.le.trans hJ
  inw := hin
  ext := fun b o hb => by rw [hx b o (Nat.lt_of_lt_of_le hb h.frame.size)]; exact h.ext b o hb
  defs := h.defs
  size := h.size
  tmps := fun t ht => (h.tmps t ht).mono hJ (fun _ _ => id)
  rows := ⟨h.rows.dom, fun κ r hr => by
    obtain ⟨l, h1, h2⟩ := h.rows.rows κ r hr
    exact ⟨l, h1, h2.of_heap (fun b hb => hfrm.block b (h.rows.lt _ _ _ h1 hb) id) hJ (fun b o hb => by rw [hx b o (h.rows.lt _ _ _ h1 hb)]; exact (h2.at_ b hb).apart o)⟩,
    h.rows.sep, fun κ l b h1 hb => Nat.lt_of_lt_of_le (h.rows.lt κ l b h1 hb) hfrm.size⟩
  own := h.own
  refs := h.refs
  frame := h.frame.trans hfrm (fun _ _ _ => id)
end

end Go.Sx
/-! The quiet operations do what their data says. -/
namespace Go.Sx

section
variable {P : Program} {md : Modes} {C : Ctx} {I : Imm} {β : Nat → Option Loc} {st : St} {a : Act} {w : World}

theorem allCell_iff (l : List DV) : allCell l = true ↔ ∀ j < l.length, isCell (nth l j) = true := by
  induction l with
  | nil => simp [allCell]
  | cons d r ih =>
    simp only [allCell]
    constructor
    · intro h j hj
      split at h
      · rename_i hd
        cases j with
        | zero => exact hd
        | succ j => exact ih.1 h j (by simpa using hj)
      · cases h
    · intro h
      have h0 := h 0 (by simp)
      simp only [nth] at h0
      rw [if_pos h0]
      exact ih.2 fun j hj => h (j + 1) (by simpa using hj)

theorem cdv0_rep {v : Value} (h : isCell (cdv0 v) = true) : Rep I (cdv0 v) v := by
  unfold cdv0 at h ⊢
  split at h <;> first | constructor | cases h
theorem cdv0_keys (v : Value) : keysOf (cdv0 v) = [] := by
  unfold cdv0
  split <;> rfl

theorem nth_cdvL (l : List Value) (j : Nat) (hj : j < l.length) : nth (cdvL l) j = cdv0 (l.getD j undef) := by
  induction l generalizing j with
  | nil => simp at hj
  | cons v r ih => cases j with
    | zero => simp [cdvL, nth]
    | succ j => simp only [cdvL, nth]; rw [ih j (by simpa using hj)]; simp
theorem cdvL_length (l : List Value) : (cdvL l).length = l.length := by induction l <;> simp [cdvL, *]
theorem cdvL_keys (l : List Value) : keysOfL (cdvL l) = [] := by
  induction l with
  | nil => rfl
  | cons v r ih => simp [cdvL, keysOfL, ih, cdv0_keys]

theorem cCon_rep {v : Value} {d : DV} (h : cCon v = some d) : Rep I d v ∧ keysOf d = [] := by
  unfold cCon at h
  split at h
  · rename_i cs
    split at h
    · rename_i hall
      obtain rfl := Option.some.inj h
      rw [allCell_iff, cdvL_length] at hall
      constructor
      · refine .agg _ cs (by rw [cdvL_length]; simp) (by rw [cdvL_length]; exact hall) ?_
        intro j hj
        rw [cdvL_length] at hj
        have hc := hall j hj
        rw [nth_cdvL _ _ hj] at hc ⊢
        have e : cs.toList.getD j undef = cs.getD j undef := by simp [Array.getD_eq_getD_getElem?, List.getD]
        rw [← e]
        exact cdv0_rep hc
      · exact cdvL_keys _
    · cases h
  · rename_i cs
    split at h
    · rename_i hz
      obtain rfl := Option.some.inj h
      have : cs = #[] := Array.eq_empty_of_size_eq_zero hz
      subst this
      exact ⟨.und, rfl⟩
    · cases h
  · split at h
    · rename_i hc
      obtain rfl := Option.some.inj h
      exact ⟨cdv0_rep hc, cdv0_keys _⟩
    · cases h

theorem arg_rep {x : Operand} {y : Arg} (h : cArg x = some y) (hs : Sim C I β st a w) : RepK I β (ev st y) (a.eval x) := by
  cases x with
  | tmp t => obtain rfl := Option.some.inj h; exact hs.tmp t
  | const v =>
    simp only [cArg] at h
    split at h
    · rename_i d hd
      obtain rfl := Option.some.inj h
      exact .pure (cCon_rep hd).1
    · cases h
  | global g => cases h
  | func g => obtain rfl := Option.some.inj h; exact .pure (.fn g [] [] #[] #[] rfl rfl (fun j hj => by simp at hj) (fun j hj => by simp at hj))

theorem args_rep : ∀ {xs : List Operand} {ys : List Arg}, cArgs xs = some ys → Sim C I β st a w →
    (evL st ys).length = xs.length ∧ ∀ j < xs.length, RepK I β (nth (evL st ys) j) ((xs.map a.eval).getD j undef)
  | [], ys, h, _ => by
    obtain rfl := Option.some.inj h
    exact ⟨rfl, fun j hj => by simp at hj⟩
  | x :: xs, ys, h, hs => by
    simp only [cArgs] at h
    split at h
    · rename_i y r hy hr
      obtain rfl := Option.some.inj h
      obtain ⟨h1, h2⟩ := args_rep hr hs
      refine ⟨by simp [evL, h1], ?_⟩
      intro j hj
      cases j with
      | zero => simpa [evL, nth] using arg_rep hy hs
      | succ j =>
        have := h2 j (by simpa using hj)
        simpa [evL, nth] using this
    · cases h

/-- Data of one cell, as a whole value. -/
theorem RepK.inv_int {k : IntKind} {n : Int} {v : Value} (h : RepK I β (.int k n) v) : v = .int k n := by
  cases h with | pure h => cases h; rfl
theorem RepK.inv_str {s : ByteArray} {v : Value} (h : RepK I β (.str s) v) : v = .string s := by
  cases h with | pure h => cases h; rfl
theorem RepK.inv_bool {d : DV} {b : Bool} {v : Value} (h : RepK I β d v) (hb : boolOf d = some b) : v = .bool b := by
  unfold boolOf at hb
  split at hb
  · obtain rfl := Option.some.inj hb
    cases h with | pure h => cases h; rfl
  · obtain rfl := Option.some.inj hb
    cases h with | pure h => cases h; rfl
  · obtain rfl := Option.some.inj hb
    cases h with | pure h => cases h; rfl
  · cases hb
theorem RepK.inv_agg {cs : List DV} {v : Value} (h : RepK I β (.agg cs) v) : Rep I (.agg cs) v := by
  cases h with | pure h => exact h

/-- Cells that lie there are loaded. -/
theorem run_part {t : TypeId} {g : Bool} {n : Nat} (ht : tAgg P t = some (g, n)) {d : DV} {off b c : Nat} (hin : off + n ≤ (cells d).length)
    (hcell : ∀ j < (cells d).length, isCell (nth (cells d) j) = true)
    (hv : ∀ j < (cells d).length, ∃ v, w.cell? ⟨b, c + j, none⟩ = some v ∧ Rep I (nth (cells d) j) v) :
    ∃ rv, (Instr.loadAt t (.pointer (some ⟨b, c + off, none⟩))).run P w = .ok rv w ∧ Rep I (part g n d off) rv := by
  have hadd : ∀ j, (⟨b, c + off, none⟩ : Addr).add j = ⟨b, c + (off + j), none⟩ := fun j => by
    unfold Addr.add; split
    · rename_i h; subst h; rfl
    · simp [Nat.add_assoc]
  have hload : (Instr.loadAt t (.pointer (some ⟨b, c + off, none⟩))).run P w = (loadVar t ⟨b, c + off, none⟩).run P w := by
    simp [Instr.loadAt, Instr.sureAddr]
  rw [hload]
  unfold tAgg at ht
  have agg : ∀ d', P.underlying t = some d' → (match d' with | .struct _ | .array _ _ => True | _ => False) → (∃ i, tInfo P t = some i ∧ n = i.size) → g = true →
      ∃ rv, (loadVar t ⟨b, c + off, none⟩).run P w = .ok rv w ∧ Rep I (part g n d off) rv := by
    rintro d' hd hm ⟨i, hi, rfl⟩ rfl
    have hl := run_loadCells (P := P) w ⟨b, c + off, none⟩ i.size (fun j => (w.cell? ⟨b, c + (off + j), none⟩).getD undef) (fun j hj => by
      rw [hadd]
      obtain ⟨v, h1, _⟩ := hv (off + j) (by omega)
      rw [h1]; rfl)
    have hagg : (isAgg t).run P w = .ok true w := by
      cases d' <;> simp at hm <;> simp [isAgg, run_underlying hd]
    refine ⟨.agg ((List.range i.size).map fun j => (w.cell? ⟨b, c + (off + j), none⟩).getD undef).toArray, by simp [loadVar, hagg, sizeOf, typeInfo, show P.info? t = some i from hi, hl], ?_⟩
    refine .agg _ _ ?_ ?_ ?_
    · simp only [takeN_take, dropN_drop]; simp; omega
    · intro j hj
      simp only [takeN_take, dropN_drop] at hj
      simp at hj
      rw [nth_drop_take _ _ _ _ (by omega)]
      exact hcell _ (by omega)
    · intro j hj
      simp only [takeN_take, dropN_drop] at hj
      simp at hj
      rw [nth_drop_take _ _ _ _ (by omega)]
      obtain ⟨v, h1, h2⟩ := hv (off + j) (by omega)
      have e : (((List.range i.size).map fun j => (w.cell? ⟨b, c + (off + j), none⟩).getD undef).toArray).getD j undef = v := by
        simp [Array.getD_eq_getD_getElem?, show j < i.size by omega, h1]
      rw [e]; exact h2
  split at ht
  · rename_i f i hd hi
    obtain ⟨rfl, rfl⟩ := Prod.mk.inj (Option.some.inj ht)
    exact agg _ hd trivial ⟨i, hi, rfl⟩ rfl
  · rename_i f i hd hi
    obtain ⟨rfl, rfl⟩ := Prod.mk.inj (Option.some.inj ht)
    exact agg _ hd trivial ⟨i, hi, rfl⟩ rfl
  · rename_i d' i hns hna hd hi
    split at ht
    · obtain ⟨rfl, rfl⟩ := Prod.mk.inj (Option.some.inj ht)
      obtain ⟨v, h1, h2⟩ := hv off (by omega)
      have hagg : (isAgg t).run P w = .ok false w := by
        cases d' <;> first | exact absurd rfl (hns _) | exact absurd rfl (hna _ _) | simp [isAgg, run_underlying hd]
      refine ⟨v, by simp [loadVar, hagg, h1], h2⟩
    · cases ht
  · cases ht

/-- A slice's elements lie there. -/
structure SlAt (I : Imm) (w : World) (es m : Nat) (g : Nat → DV) (ao : Option Addr) (cap : Nat) : Prop where
  le : m ≤ cap
  elem : ∀ i < m, elemOk es (g i)
  at_ : 0 < m → ∃ b o, ao = some ⟨b, o, none⟩ ∧ ∀ i j, i < m → j < es → ∃ u, w.cell? ⟨b, o + i * es + j, none⟩ = some u ∧ Rep I (nth (cells (g i)) j) u

theorem lst_at (hs : Sim C I β st a w) {sz n : Nat} {t : Bool} {f : Nat → DV} {v : Value} (h : RepK I β (.lst sz t n f) v) :
    ∃ ao cap, v = .slice ao n cap ∧ SlAt I w sz n f ao cap ∧ (t = true → cap = n) ∧ 0 < sz := by
  cases h with
  | pure h =>
    cases h with
    | lst _ _ _ _ ao cap b o val h1 h2 h3 h4 h5 h6 h7 =>
      refine ⟨ao, cap, rfl, ⟨h2, h5, fun hn => ⟨b, o, h4 hn, fun i j hi hj => ?_⟩⟩, h3, h1⟩
      exact ⟨val i j, hs.inw _ _ _ (h6 i j hi hj), h7 i j hi hj⟩

theorem ref_at (hs : Sim C I β st a w) {κ o n : Nat} {r : Row} (hr : look st.σ κ = some r) {v : Value} (h : RepK I β (.ref κ o n) v) :
    ∃ ao cap, v = .slice ao n cap ∧ SlAt I w r.sz n (shift o r.f) ao cap ∧ 0 < r.sz ∧ o + n ≤ r.n := by
  obtain ⟨l, hl, hok⟩ := hs.rows.rows κ r hr
  have hn := hok.n
  have hsz := hok.sz
  cases h with
  | pure h => cases h
  | ref _ _ _ cap l' b ad h1 h2 h3 h4 h5 h6 =>
    rw [hl] at h1
    obtain rfl := Option.some.inj h1
    have hA := hok.at_ b h2
    refine ⟨some ad, cap, rfl, ⟨h3, ?_, ?_⟩, hok.pos, by omega⟩
    · intro i hi; rw [shift_eq]; exact hA.elem _ (by omega)
    · intro hn0
      refine ⟨b, l.off + o * l.sz, by rw [h6 (by omega)], fun i j hi hj => ?_⟩
      obtain ⟨u, h7, h8⟩ := hA.val (o + i) j (by omega) hj
      refine ⟨u, ?_, by rw [shift_eq]; exact h8⟩
      rw [← h7, hsz]
      congr 2
      rw [Nat.add_mul]; omega
  | refnil _ l' ao h1 h2 =>
    exact ⟨ao, 0, rfl, ⟨Nat.le_refl _, fun i hi => by omega, fun h => by omega⟩, hok.pos, by omega⟩

theorem nils_val {v : Value} (h : RepK I β .nils v) : v = .slice none 0 0 := by
  cases h with | pure h => cases h; rfl

/-- What cont tells of a slice. -/
theorem cont_at (hs : Sim C I β st a w) {es m : Nat} {g : Nat → DV} {x : DV} {v : Value} (hx : ∀ s, x ≠ .str s) (hc : cont (std P) st es x = some (m, g)) (h : RepK I β x v) :
    ∃ ao cap, v = .slice ao m cap ∧ SlAt I w es m g ao cap := by
  cases x with
  | nils =>
    simp only [cont] at hc
    obtain ⟨rfl, rfl⟩ := Prod.mk.inj (Option.some.inj hc)
    exact ⟨none, 0, nils_val h, Nat.le_refl _, fun i hi => by omega, fun h => by omega⟩
  | lst sz t n f =>
    simp only [cont] at hc
    split at hc
    · rename_i hsz
      subst hsz
      obtain ⟨rfl, rfl⟩ := Prod.mk.inj (Option.some.inj hc)
      obtain ⟨ao, cap, h1, h2, _⟩ := lst_at hs h
      exact ⟨ao, cap, h1, h2⟩
    · cases hc
  | ref κ o n =>
    simp only [cont] at hc
    split at hc
    · rename_i r hr
      split at hc
      · rename_i hsz
        subst hsz
        obtain ⟨rfl, rfl⟩ := Prod.mk.inj (Option.some.inj hc)
        obtain ⟨ao, cap, h1, h2, _⟩ := ref_at hs hr h
        exact ⟨ao, cap, h1, h2⟩
      · cases hc
    · cases hc
  | str s => exact absurd rfl (hx s)
  | _ => simp only [cont] at hc; cases hc

abbrev Good (P : Program) (I : Imm) (β : Nat → Option Loc) (w : World) (a : Act) (o : Oper) (v : DV) : Prop :=
  ∃ rv, (execOp a.eval o).run P w = .ok (.value rv) w ∧ RepK I β v rv

theorem loadE_good {t : TypeId} {g : Bool} {n : Nat} (ht : tAgg P t = some (g, n)) {d v : DV} {ob : Prop} {off b c : Nat} {sz : Nat}
    (hq : loadE g n off d = (ob, v)) (hob : ob) (he : elemOk sz d) (hv : ∀ j < sz, ∃ u, w.cell? ⟨b, c + j, none⟩ = some u ∧ Rep I (nth (cells d) j) u) :
    ∃ rv, (Instr.loadAt t (.pointer (some ⟨b, c + off, none⟩))).run P w = .ok rv w ∧ Rep I v rv := by
  unfold loadE at hq
  split at hq
  · rename_i hin
    obtain ⟨_, rfl⟩ := Prod.mk.inj hq
    rw [len_length] at hin
    obtain ⟨h1, h2⟩ := he
    exact run_part ht hin (fun j hj => h2 j (by omega)) (fun j hj => hv j (by omega))
  · obtain ⟨rfl, _⟩ := Prod.mk.inj hq
    exact hob.elim

theorem load_good (hs : Sim C I β st a w) {t : TypeId} {g : Bool} {n : Nat} (ht : tAgg P t = some (g, n)) {d v : DV} {ob : Prop} {pv : Value}
    (hq : loadV g n st d = (ob, v)) (hob : ob) (hd : RepK I β d pv) :
    ∃ rv, (Instr.loadAt t pv).run P w = .ok rv w ∧ Rep I v rv := by
  unfold loadV at hq
  split at hq
  · rename_i κ i off
    split at hq
    · rename_i r hr
      obtain ⟨l, hl, hok⟩ := hs.rows.rows κ r hr
      cases hd with
      | pure h => cases h
      | rptr _ _ _ l' b h1 h2 h3 =>
        rw [hl] at h1
        obtain rfl := Option.some.inj h1
        have hA := hok.at_ b h2
        have hn := hok.n
        rw [hok.sz]
        exact loadE_good ht hq hob (hA.elem i (by omega)) (fun j hj => hA.val i j (by omega) hj)
    · obtain ⟨rfl, _⟩ := Prod.mk.inj hq
      exact hob.elim
  · rename_i sz n' f i off
    cases hd with
    | pure h =>
      cases h with
      | eptr _ _ _ _ _ b c val h1 h2 h3 h4 =>
        exact loadE_good ht hq hob h2 (fun j hj => ⟨val j, hs.inw _ _ _ (h3 j hj), h4 j hj⟩)
  · obtain ⟨rfl, _⟩ := Prod.mk.inj hq
    exact hob.elim

theorem nilCheck_good {d v : DV} {ob : Prop} {o : Oper} {x : Operand} (ho : o.op = .nilCheck x) (hq : nilV d = (ob, v)) (hob : ob)
    (hd : RepK I β d (a.eval x)) : Good P I β w a o v := by
  unfold nilV at hq
  split at hq
  · obtain ⟨_, rfl⟩ := Prod.mk.inj hq
    have hd' := hd
    generalize hv : a.eval x = pv at hd'
    cases hd' with
    | pure h => cases h
    | rptr _ _ _ l b h1 h2 h3 => exact ⟨a.eval x, by simp [execOp, ho, hv], hd⟩
  · obtain ⟨_, rfl⟩ := Prod.mk.inj hq
    have hd' := hd
    generalize hv : a.eval x = pv at hd'
    cases hd' with
    | pure h => cases h; exact ⟨a.eval x, by simp [execOp, ho, hv], hd⟩
  · obtain ⟨_, rfl⟩ := Prod.mk.inj hq
    have hd' := hd
    generalize hv : a.eval x = pv at hd'
    cases hd' with
    | pure h => cases h; exact ⟨a.eval x, by simp [execOp, ho, hv], hd⟩
    | fn => exact ⟨a.eval x, by simp [execOp, ho, hv], hd⟩
  · obtain ⟨rfl, _⟩ := Prod.mk.inj hq
    exact hob.elim

end
end Go.Sx
namespace Go.Sx
section
variable {P : Program} {md : Modes} {C : Ctx} {I : Imm} {β : Nat → Option Loc} {st : St} {a : Act} {w : World}

theorem no_false {ob : Prop} {v : DV} (h : no = (ob, v)) (hob : ob) : False := by
  obtain ⟨rfl, _⟩ := Prod.mk.inj h
  exact hob

theorem run_eqGuard_other {op : BinOp} {t : TypeId} {x y : Operand} {u v : Value} (h1 : ∀ b, u ≠ .agg b) (h2 : u ≠ .nilIface) : (eqGuard op t x y u v).run P w = .ok () w := by
  cases u <;> first | exact absurd rfl h2 | exact absurd rfl (h1 _) | (cases op <;> rfl)

theorem bin_int {op : BinOp} {t : TypeId} {k k' : IntKind} {x y : Int} {ob : Prop} {v : DV} (hq : okBin (std P) op (.int k x) (.int k' y) = (ob, v)) (hob : ob) :
    ∃ rv, (binOp op t (.int k x) (.int k' y)).run P w = .ok rv w ∧ Rep I v rv := by
  cases op <;> simp only [okBin] at hq <;> (try (split at hq)) <;> (try (exact (no_false hq hob).elim)) <;>
    obtain ⟨hob', rfl⟩ := Prod.mk.inj hq <;> (try subst k')
  case shl => subst hob'; exact ⟨_, by simp only [std] at hob; simp [binOp, Op.shift, show ¬ y < 0 by omega]; rfl, .int _ _⟩
  case shr => subst hob'; exact ⟨_, by simp only [std] at hob; simp [binOp, Op.shift, show ¬ y < 0 by omega]; rfl, .int _ _⟩
  case quo.isTrue => subst hob'; exact ⟨_, by simp only [std] at hob; simp [binOp, Op.intDiv, hob]; rfl, .int _ _⟩
  case rem.isTrue => subst hob'; exact ⟨_, by simp only [std] at hob; simp [binOp, Op.intDiv, hob]; rfl, .int _ _⟩
  case add.isTrue => exact ⟨_, by simp [binOp, Op.intArith]; rfl, .int _ _⟩
  case sub.isTrue => exact ⟨_, by simp [binOp, Op.intArith]; rfl, .int _ _⟩
  case mul.isTrue => exact ⟨_, by simp [binOp, Op.intArith]; rfl, .int _ _⟩
  case and.isTrue => exact ⟨_, by simp [binOp, Op.intBits]; rfl, .int _ _⟩
  case or.isTrue => exact ⟨_, by simp [binOp, Op.intBits]; rfl, .int _ _⟩
  case xor.isTrue => exact ⟨_, by simp [binOp, Op.intBits]; rfl, .int _ _⟩
  case andNot.isTrue => exact ⟨.int k (bitsOp .andNot k x y), by simp only [binOp, ne_eq, not_true_eq_false, if_false]; rfl, .int _ _⟩
  case eql.isTrue => exact ⟨_, by simp [binOp, Op.intCmp]; rfl, .bool _⟩
  case neq.isTrue => exact ⟨_, by simp [binOp, Op.intCmp]; rfl, .bool _⟩
  case lss.isTrue => exact ⟨_, by simp [binOp, Op.intCmp]; rfl, .bool _⟩
  case leq.isTrue => exact ⟨_, by simp [binOp, Op.intCmp]; rfl, .bool _⟩
  case gtr.isTrue => exact ⟨_, by simp [binOp, Op.intCmp]; rfl, .bool _⟩
  case geq.isTrue => exact ⟨_, by simp [binOp, Op.intCmp]; rfl, .bool _⟩

theorem bin_str {op : BinOp} {t : TypeId} {x y : ByteArray} {ob : Prop} {v : DV} (hq : okBin (std P) op (.str x) (.str y) = (ob, v)) (hob : ob) :
    ∃ rv, (binOp op t (.string x) (.string y)).run P w = .ok rv w ∧ Rep I v rv := by
  cases op <;> simp only [okBin] at hq <;> (try (exact (no_false hq hob).elim)) <;> obtain ⟨hob', rfl⟩ := Prod.mk.inj hq
  case add =>
    subst hob'
    refine ⟨_, ?_, .str _⟩
    simp only [std] at hob
    simp only [binOp, Op.stringOp]
    rw [if_neg (by simp only [IntKind.max, IntKind.signed, IntKind.bits]; omega)]
    rfl
  case eql => exact ⟨_, rfl, .bool _⟩
  case neq => exact ⟨_, rfl, .bool _⟩
  case lss => exact ⟨_, rfl, .bool _⟩
  case leq => exact ⟨_, rfl, .bool _⟩
  case gtr => exact ⟨_, rfl, .bool _⟩
  case geq => exact ⟨_, rfl, .bool _⟩

theorem equalIn_bool (d : Nat) {t : TypeId} (ht : P.underlying t = some .bool) (x y : Bool) : (Op.equalIn (d + 1) t (.bool x) (.bool y)).run P w = .ok (x == y) w := by
  simp [Op.equalIn, run_underlying ht]
theorem equal_bool {t : TypeId} (ht : P.underlying t = some .bool) (x y : Bool) : (Op.equal t (.bool x) (.bool y)).run P w = .ok (x == y) w := equalIn_bool 9999 ht x y

theorem bin_bool {op : BinOp} {t : TypeId} (ht : P.underlying t = some .bool) {a b : Bool} {ob : Prop} {v : DV}
    (hq : boolBin (std P) op a b = (ob, v)) (hob : ob) : ∃ rv, (binOp op t (.bool a) (.bool b)).run P w = .ok rv w ∧ Rep I v rv := by
  cases op <;> simp only [boolBin] at hq <;> first | exact (no_false hq hob).elim | skip
  · obtain ⟨_, rfl⟩ := Prod.mk.inj hq
    exact ⟨.bool (a == b), by simp [binOp, equal_bool ht], .bool _⟩
  · obtain ⟨_, rfl⟩ := Prod.mk.inj hq
    exact ⟨.bool (!(a == b)), by simp [binOp, equal_bool ht], .bool _⟩

theorem ptr_val {x : DV} {u : Value} (h : RepK I β x u) (hx : (∃ κ i o, x = .rptr κ i o) ∨ (∃ s n f i o, x = .eptr s n f i o)) : ∃ p, u = .pointer (some p) := by
  rcases hx with ⟨κ, i, o, rfl⟩ | ⟨s, n, f, i, o, rfl⟩
  · cases h with
    | pure h => cases h
    | rptr => exact ⟨_, rfl⟩
  · cases h with
    | pure h => cases h; exact ⟨_, rfl⟩

theorem equalIn_nil (d : Nat) {t e : TypeId} (ht : P.underlying t = some (.pointer e)) (p : Option Addr) : (Op.equalIn (d + 1) t (.pointer none) (.pointer p)).run P w = .ok p.isNone w := by
  simp [Op.equalIn, run_underlying ht]
theorem equalIn_nil' (d : Nat) {t e : TypeId} (ht : P.underlying t = some (.pointer e)) (p : Addr) : (Op.equalIn (d + 1) t (.pointer (some p)) (.pointer none)).run P w = .ok false w := by
  simp [Op.equalIn, run_underlying ht]

/-- What '==' with nil says. -/
theorem nil_eq {t e : TypeId} (ht : P.underlying t = some (.pointer e)) {x y r : DV} {u v : Value} (hr : nilEq x y = some r)
    (hx : RepK I β x u) (hy : RepK I β y v) : ∃ b p q, u = .pointer p ∧ v = .pointer q ∧ (r = if b then .tt else .ff) ∧ (Op.equal t u v).run P w = .ok b w := by
  have hnil : ∀ {u : Value}, RepK I β .nilp u → u = .pointer none := fun h => by cases h with | pure h => cases h; rfl
  unfold nilEq at hr
  split at hr
  · obtain rfl := Option.some.inj hr
    obtain rfl := hnil hx
    obtain rfl := hnil hy
    exact ⟨true, _, _, rfl, rfl, rfl, equalIn_nil 9999 ht none⟩
  · obtain rfl := Option.some.inj hr
    obtain rfl := hnil hx
    obtain ⟨p, rfl⟩ := ptr_val hy (.inl ⟨_, _, _, rfl⟩)
    exact ⟨false, _, _, rfl, rfl, rfl, equalIn_nil 9999 ht (some p)⟩
  · obtain rfl := Option.some.inj hr
    obtain rfl := hnil hy
    obtain ⟨p, rfl⟩ := ptr_val hx (.inl ⟨_, _, _, rfl⟩)
    exact ⟨false, _, _, rfl, rfl, rfl, equalIn_nil' 9999 ht p⟩
  · obtain rfl := Option.some.inj hr
    obtain rfl := hnil hx
    obtain ⟨p, rfl⟩ := ptr_val hy (.inr ⟨_, _, _, _, _, rfl⟩)
    exact ⟨false, _, _, rfl, rfl, rfl, equalIn_nil 9999 ht (some p)⟩
  · obtain rfl := Option.some.inj hr
    obtain rfl := hnil hy
    obtain ⟨p, rfl⟩ := ptr_val hx (.inr ⟨_, _, _, _, _, rfl⟩)
    exact ⟨false, _, _, rfl, rfl, rfl, equalIn_nil' 9999 ht p⟩
  · cases hr

theorem rep_ite (b : Bool) : Rep I (if b then .tt else .ff) (.bool b) := by cases b <;> constructor


theorem notD_rep {b : Bool} : Rep I (notD (std P) (if b then .tt else .ff)) (.bool (!b)) := by cases b <;> constructor

/-- The kind of a comparison. -/
def ClsOk (P : Program) (t : TypeId) (c : Nat) : Prop :=
  match c with
  | 0 => True
  | 1 => P.underlying t = some .bool
  | _ => ∃ e, P.underlying t = some (.pointer e)

theorem bin_good {c : Nat} {op : BinOp} {t yt : TypeId} {x y : Operand} {d e v : DV} {ob : Prop} {o : Oper} (ho : o.op = .binOp op t x y yt) (hc : ClsOk P t c)
    (hq : binV (std P) c op d e = (ob, v)) (hob : ob) (hx : RepK I β d (a.eval x)) (hy : RepK I β e (a.eval y)) : Good P I β w a o v := by
  have fin : ∀ {rv}, (∀ b, a.eval x ≠ .agg b) → a.eval x ≠ .nilIface → (binOp op t (a.eval x) (a.eval y)).run P w = .ok rv w → Rep I v rv → Good P I β w a o v := by
    intro rv h1 h2 h3 h4
    refine ⟨rv, ?_, .pure h4⟩
    simp [execOp, ho, run_eqGuard_other h1 h2, h3]
  unfold binV at hq
  split at hq
  · unfold okBin at hq
    split at hq
    · rename_i k n k' m
      have e1 := hx.inv_int
      have e2 := hy.inv_int
      obtain ⟨rv, h1, h2⟩ := bin_int (P := P) (I := I) (w := w) (op := op) (t := t) (k := k) (k' := k') (x := n) (y := m) hq hob
      exact fin (by rw [e1]; simp) (by rw [e1]; simp) (by rw [e1, e2]; exact h1) h2
    · rename_i s u
      have e1 := hx.inv_str
      have e2 := hy.inv_str
      obtain ⟨rv, h1, h2⟩ := bin_str (P := P) (I := I) (w := w) (op := op) (t := t) (x := s) (y := u) hq hob
      exact fin (by rw [e1]; simp) (by rw [e1]; simp) (by rw [e1, e2]; exact h1) h2
    · exact (no_false hq hob).elim
  · split at hq
    · rename_i ba bb h1 h2
      have e1 := hx.inv_bool h1
      have e2 := hy.inv_bool h2
      obtain ⟨rv, h3, h4⟩ := bin_bool (P := P) (I := I) (w := w) (op := op) (t := t) hc hq hob
      exact fin (by rw [e1]; simp) (by rw [e1]; simp) (by rw [e1, e2]; exact h3) h4
    · exact (no_false hq hob).elim
  · have hc' : ∃ e, P.underlying t = some (.pointer e) := by
      unfold ClsOk at hc
      split at hc
      · rename_i h0 _; exact absurd rfl (h0)
      · rename_i h0; exact absurd rfl h0
      · exact hc
    obtain ⟨el, ht⟩ := hc'
    split at hq
    · rename_i r hr
      obtain ⟨b, p, q, h1, h2, h3, h4⟩ := nil_eq (w := w) ht hr hx hy
      rw [h1, h2] at h4
      unfold nilBin at hq
      split at hq
      · obtain ⟨_, rfl⟩ := Prod.mk.inj hq
        refine fin (rv := .bool b) (by rw [h1]; simp) (by rw [h1]; simp) ?_ (by rw [h3]; exact rep_ite b)
        rw [h1, h2]
        simp [binOp, h4]
      · obtain ⟨_, rfl⟩ := Prod.mk.inj hq
        refine fin (rv := .bool (!b)) (by rw [h1]; simp) (by rw [h1]; simp) ?_ (by rw [h3]; exact notD_rep)
        rw [h1, h2]
        simp [binOp, h4]
      · exact (no_false hq hob).elim
    · exact (no_false hq hob).elim

theorem boolOf_rep {d : DV} {b : Bool} (h : boolOf d = some b) : Rep I (notD (std P) d) (.bool (!b)) := by
  unfold boolOf at h
  split at h
  · obtain rfl := Option.some.inj h; exact .bool _
  · obtain rfl := Option.some.inj h; exact .ff
  · obtain rfl := Option.some.inj h; exact .tt
  · cases h

theorem un_good {op : UnOp} {t : TypeId} {x : Operand} {d v : DV} {ob : Prop} {o : Oper} (ho : o.op = .unOp op t x)
    (hq : unV (std P) op d = (ob, v)) (hob : ob) (hx : RepK I β d (a.eval x)) : Good P I β w a o v := by
  unfold unV at hq
  split at hq
  · rename_i k n
    have e := hx.inv_int
    split at hq
    · obtain ⟨_, rfl⟩ := Prod.mk.inj hq
      exact ⟨.int k (unF .neg k n), by simp [execOp, ho, e, Op.unary, Op.intArith, unF], .pure (.int _ _)⟩
    · obtain ⟨_, rfl⟩ := Prod.mk.inj hq
      exact ⟨_, by simp [execOp, ho, e, Op.unary, Op.intBits]; rfl, .pure (.int _ _)⟩
    · exact (no_false hq hob).elim
  · split at hq
    · rename_i b hb
      obtain ⟨_, rfl⟩ := Prod.mk.inj hq
      have e := hx.inv_bool hb
      exact ⟨.bool (!b), by simp [execOp, ho, e, Op.unary], .pure (boolOf_rep hb)⟩
    · exact (no_false hq hob).elim

theorem convI_good {k0 k : IntKind} {s t : TypeId} {x : Operand} {o : Oper} (ho : o.op = .convert s t x) (h1 : P.underlying s = some (.int k0)) (h2 : P.underlying t = some (.int k)) {k1 : IntKind} {n : Int}
    (hx : RepK I β (.int k1 n) (a.eval x)) : Good P I β w a o (.int k (std P .wrap k n)) := by
  have e := hx.inv_int
  exact ⟨.int k (k.wrap n), by simp [execOp, ho, e, convert, run_underlying h1, run_underlying h2, Conv.intToInt], .pure (.int _ _)⟩

theorem convS_good {s t : TypeId} {x : Operand} {o : Oper} (ho : o.op = .convert s t x) (h1 : P.underlying s = some .string) (h2 : P.underlying t = some .string) {z : ByteArray}
    (hx : RepK I β (.str z) (a.eval x)) : Good P I β w a o (.str z) := by
  have e := hx.inv_str
  exact ⟨.string z, by simp [execOp, ho, e, convert, run_underlying h1, run_underlying h2], .pure (.str _)⟩

theorem toStr_good (hs : Sim C I β st a w) {s t el : TypeId} {x : Operand} {o : Oper} (ho : o.op = .convert s t x) (h1 : P.underlying s = some (.slice el)) (he : P.underlying el = some (.int .u8)) (h2 : P.underlying t = some .string)
    {d v : DV} {ob : Prop} (hq : toStrV (std P) st d = (ob, v)) (hob : ob) (hx : RepK I β d (a.eval x)) : Good P I β w a o v := by
  unfold toStrV at hq
  split at hq
  · exact (no_false hq hob).elim
  · rename_i d hd
    split at hq
    · rename_i n f hc
      obtain ⟨rfl, rfl⟩ := Prod.mk.inj hq
      obtain ⟨ao, cap, hv, hA⟩ := cont_at hs (fun s e => hd s e) hc hx
      simp only [std] at hob
      refine ⟨.string (mkStrF n f), ?_, .pure (.str _)⟩
      have hrun : (convert s t (a.eval x)).run P w = .ok (.string (mkStrF n f)) w := by
        rw [hv]
        rcases Nat.eq_zero_or_pos n with h0 | h0
        · subst h0
          cases ao with
          | none => rw [run_convert_bytes_nil w s el h1 he 0 cap t h2]; rfl
          | some ad =>
            obtain ⟨b, off, sp⟩ := ad
            have hl : (loadCells ⟨b, off, sp⟩ 0).run P w = .ok #[] w := by rfl
            rw [run_convert_bytes_string w s t el _ 0 cap h1 he h2]
            simp [Conv.bytesToString, hl]
            rfl
        · obtain ⟨b, off, rfl, hcell⟩ := hA.at_ h0
          have hx' : ∀ i < n, ∃ y, f i = .int .u8 y := hob
          have := run_convert_bytes_arg (P := P) w s el h1 he b off n cap ((List.range n).map fun i => match f i with | .int _ y => y | _ => 0) (by simp) (fun i hi => by
            obtain ⟨u, hu1, hu2⟩ := hcell i 0 hi (by omega)
            obtain ⟨y, hy⟩ := hx' i hi
            rw [hy] at hu2
            have : u = .int .u8 y := by cases hu2; rfl
            subst this
            simp only [Nat.mul_one, Nat.add_zero] at hu1
            rw [hu1]
            simp [List.getD, hi, hy]) t h2
          rw [this]
          congr 2
          unfold mkStrF strOfNums
          simp only [List.map_map]
          congr 2
          apply List.map_congr_left
          intro i hi
          obtain ⟨y, hy⟩ := hx' i (by simpa using hi)
          simp [hy, u8Of]
      simp [execOp, ho, hrun]
    · exact (no_false hq hob).elim

theorem fieldAddr_good {s : TypeId} {x : Operand} {j : Nat} {o : Oper} (ho : o.op = .fieldAddr s x j) {fs : Array Field} {f : Field} {i : TypeInfo} (h1 : P.underlying s = some (.struct fs)) (h2 : fs[j]? = some f)
    (h3 : P.info? f.type = some i) (h4 : 0 < i.size) {d v : DV} {ob : Prop} (hq : fieldAddrV f.offset d = (ob, v)) (hob : ob) (hx : RepK I β d (a.eval x)) : Good P I β w a o v := by
  have hadd : ∀ b c off, (⟨b, c + off, none⟩ : Addr).add f.offset = ⟨b, c + (off + f.offset), none⟩ := fun b c off => by
    unfold Addr.add; split
    · rename_i h; rw [h]; rfl
    · simp [Nat.add_assoc]
  have hrun : ∀ b c off, a.eval x = .pointer (some ⟨b, c + off, none⟩) → (execOp a.eval o).run P w = .ok (.value (.pointer (some ⟨b, c + (off + f.offset), none⟩))) w := by
    intro b c off e
    simp [execOp, ho, e, Instr.fieldAt, run_underlying h1, h2, Instr.sureAddr, fieldPlace, sizeOf, typeInfo, h3, show ¬ i.size = 0 by omega, hadd]
  unfold fieldAddrV at hq
  split at hq
  · obtain ⟨_, rfl⟩ := Prod.mk.inj hq
    generalize hv : a.eval x = pv at hx
    cases hx with
    | pure h => cases h
    | rptr _ _ _ l b g1 g2 g3 => exact ⟨_, hrun _ _ _ hv, .rptr _ _ _ l b g1 g2 g3⟩
  · obtain ⟨_, rfl⟩ := Prod.mk.inj hq
    generalize hv : a.eval x = pv at hx
    cases hx with
    | pure h =>
      cases h with
      | eptr _ _ _ _ _ b c val g1 g2 g3 g4 => exact ⟨_, hrun _ _ _ hv, .pure (.eptr _ _ _ _ _ b c val g1 g2 g3 g4)⟩
  · exact (no_false hq hob).elim

theorem indexAddr_good (hs : Sim C I β st a w) {t e : TypeId} {x ix : Operand} {o : Oper} (ho : o.op = .indexAddr t x ix) {i : TypeInfo} (h1 : P.underlying t = some (.slice e)) (h2 : P.info? e = some i)
    {d g v : DV} {ob : Prop} (hq : indexAddrV (std P) st i.size d g = (ob, v)) (hob : ob) (hx : RepK I β d (a.eval x)) (hi : RepK I β g (a.eval ix)) : Good P I β w a o v := by
  have hadd : ∀ (ad : Addr) k, ad.spot = none → ad.add k = ⟨ad.block, ad.off + k, none⟩ := fun ad k h => by
    unfold Addr.add; split
    · rename_i h'; subst h'; rw [← h]; rfl
    · rfl
  have hrun : ∀ (b c n cap : Nat) (k : IntKind) (j : Int), a.eval x = .slice (some ⟨b, c, none⟩) n cap → a.eval ix = .int k j → 0 ≤ j → j < n →
      (execOp a.eval o).run P w = .ok (.value (.pointer (some ⟨b, c + j.toNat * i.size, none⟩))) w := by
    intro b c n cap k j e1 e2 g1 g2
    simp [execOp, ho, e1, e2, Instr.indexAt, asIntOf, run_underlying h1, g1, g2, sizeOf, typeInfo, h2, hadd]
  unfold indexAddrV at hq
  split at hq
  · rename_i sz t' n f k j
    split at hq
    · rename_i hsz
      obtain ⟨rfl, rfl⟩ := Prod.mk.inj hq
      simp only [std] at hob
      obtain ⟨hj0, hjn⟩ := hob
      have e2 := hi.inv_int
      have hjt : j.toNat < n := by omega
      generalize hv : a.eval x = pv at hx
      cases hx with
      | pure h =>
        cases h with
        | lst _ _ _ _ ao cap b c val g1 g2 g3 g4 g5 g6 g7 =>
          have hao := g4 (by omega)
          subst hao
          refine ⟨_, hrun b c n cap k j hv e2 hj0 hjn, .pure ?_⟩
          rw [← hsz]
          exact .eptr sz n f j.toNat 0 b (c + j.toNat * sz) (val j.toNat) g1 (g5 _ hjt) (fun q hq => g6 _ q hjt hq) (fun q hq => g7 _ q hjt hq)
    · exact (no_false hq hob).elim
  · rename_i κ o' n k j
    split at hq
    · rename_i r hr
      split at hq
      · rename_i hsz
        obtain ⟨rfl, rfl⟩ := Prod.mk.inj hq
        simp only [std] at hob
        obtain ⟨hj0, hjn⟩ := hob
        have e2 := hi.inv_int
        have hjt : j.toNat < n := by omega
        have hval : addN (std P) o' (std P .toNat j) = o' + j.toNat := by
          cases o' with
          | zero => simp [addN, std]
          | succ o => simp [addN, std]
        obtain ⟨l0, hl0, hok⟩ := hs.rows.rows κ r hr
        generalize hv : a.eval x = pv at hx
        cases hx with
        | pure h => cases h
        | ref _ _ _ cap l b ad g1 g2 g3 g4 g5 g6 =>
          rw [g1] at hl0
          obtain rfl := Option.some.inj hl0
          have had := g6 (by omega)
          subst had
          refine ⟨_, hrun b _ n cap k j hv e2 hj0 hjn, ?_⟩
          have := RepK.rptr (I := I) (β := β) κ (o' + j.toNat) 0 l b g1 g2 (by omega)
          rw [hval]
          rw [← hsz, ← hok.sz]
          rw [Nat.add_mul, Nat.add_zero, ← Nat.add_assoc] at this
          exact this
        | refnil _ l ao g1 g2 => omega
      · exact (no_false hq hob).elim
    · exact (no_false hq hob).elim
  · exact (no_false hq hob).elim

theorem index_good {t : TypeId} {x ix : Operand} {o : Oper} (ho : o.op = .index t x ix) (h1 : P.underlying t = some .string)
    {d g v : DV} {ob : Prop} (hq : indexV (std P) d g = (ob, v)) (hob : ob) (hx : RepK I β d (a.eval x)) (hi : RepK I β g (a.eval ix)) : Good P I β w a o v := by
  unfold indexV at hq
  split at hq
  · rename_i s k j
    obtain ⟨rfl, rfl⟩ := Prod.mk.inj hq
    simp only [std] at hob
    obtain ⟨hj0, hjn⟩ := hob
    have e1 := hx.inv_str
    have e2 := hi.inv_int
    have hlt : j.toNat < s.size := by omega
    refine ⟨.int .u8 (byteF s j.toNat), ?_, .pure (.int _ _)⟩
    simp [execOp, ho, e1, e2, Instr.index, asIntOf, run_underlying h1, hj0, hlt, byteF]
  · exact (no_false hq hob).elim
end
end Go.Sx
namespace Go.Sx
section
variable {P : Program} {md : Modes} {C : Ctx} {I : Imm} {β : Nat → Option Loc} {st : St} {a : Act} {w : World}

theorem run_sliceBounds_nat {len cap : Nat} {lo hi mx : Option Value} {l h m : Nat}
    (hm : (mx = none ∧ m = cap) ∨ ∃ k z, mx = some (.int k z) ∧ 0 ≤ z ∧ z.toNat = m) (hh : (hi = none ∧ h = len ∧ mx = none) ∨ ∃ k z, hi = some (.int k z) ∧ 0 ≤ z ∧ z.toNat = h)
    (hl : (lo = none ∧ l = 0) ∨ ∃ k z, lo = some (.int k z) ∧ 0 ≤ z ∧ z.toNat = l) (h1 : l ≤ h) (h2 : h ≤ m) (h3 : m ≤ cap) (b : Bool) :
    (Instr.sliceBounds b len cap lo hi mx).run P w = .ok (l, h, m) w := by
  have sb : ∀ (k : IntKind) (z : Int) (y : Nat) (code : BoundsCode), 0 ≤ z → z.toNat ≤ y → (Instr.sliceBound (.int k z) y code).run P w = .ok z.toNat w :=
    fun k z y code h0 h1 => run_sliceBound w k z y code h0 (by omega)
  rcases hm with ⟨rfl, rfl⟩ | ⟨km, zm, rfl, hm0, rfl⟩
  · rcases hh with ⟨rfl, rfl, _⟩ | ⟨kh, zh, rfl, hh0, rfl⟩
    · rcases hl with ⟨rfl, rfl⟩ | ⟨kl, zl, rfl, hl0, rfl⟩
      · simp [Instr.sliceBounds]
      · simp [Instr.sliceBounds, sb kl zl h _ hl0 h1]
    · rcases hl with ⟨rfl, rfl⟩ | ⟨kl, zl, rfl, hl0, rfl⟩
      · simp [Instr.sliceBounds, sb kh zh m _ hh0 h2]
      · simp [Instr.sliceBounds, sb kh zh m _ hh0 h2, sb kl zl zh.toNat _ hl0 h1]
  · rcases hh with ⟨_, _, h'⟩ | ⟨kh, zh, rfl, hh0, rfl⟩
    · cases h'
    · rcases hl with ⟨rfl, rfl⟩ | ⟨kl, zl, rfl, hl0, rfl⟩
      · simp [Instr.sliceBounds, sb km zm cap _ hm0 h3, sb kh zh zm.toNat _ hh0 h2]
      · simp [Instr.sliceBounds, sb km zm cap _ hm0 h3, sb kh zh zm.toNat _ hh0 h2, sb kl zl zh.toNat _ hl0 h1]

theorem run_slice_val {t e : TypeId} {i : TypeInfo} (ht : P.underlying t = some (.slice e)) (hi : P.info? e = some i) {ao : Option Addr} {len cap l h m : Nat} {lo hi' mx : Option Value}
    (hb : (Instr.sliceBounds true len cap lo hi' mx).run P w = .ok (l, h, m) w) :
    (Instr.sliceAt t (.slice ao len cap) lo hi' mx).run P w = .ok (.slice (if m = l then ao else ao.map (·.add (l * i.size))) (h - l) (m - l)) w := by
  simp [Instr.sliceAt, Instr.slice, run_underlying ht, hb, sizeOf, typeInfo, hi]

theorem run_slice_str {t : TypeId} (ht : P.underlying t = some .string) {s : ByteArray} {l h : Nat} {lo hi' : Option Value} {m : Nat}
    (hb : (Instr.sliceBounds false s.size s.size lo hi' none).run P w = .ok (l, h, m) w) :
    (Instr.sliceAt t (.string s) lo hi' none).run P w = .ok (.string (s.extract l h)) w := by
  simp [Instr.sliceAt, Instr.slice, run_underlying ht, hb]

/-- A bound: none, or a number. -/
def BndIs (v : Option Value) (n : Option Nat) : Prop := (v = none ∧ n = none) ∨ ∃ k z, v = some (.int k z) ∧ 0 ≤ z ∧ n = some z.toNat

theorem bnd_is (hs : Sim C I β st a w) {x : Option Operand} {y : Option Arg} (hc : cOpt x = some y) {p : Prop} {n : Option Nat} (hb : bnd (std P) st y = (p, n)) (hp : p) : BndIs (x.map a.eval) n := by
  cases x with
  | none =>
    obtain rfl := Option.some.inj hc
    simp only [bnd] at hb
    exact .inl ⟨rfl, (Prod.mk.inj hb).2.symm⟩
  | some x =>
    simp only [cOpt] at hc
    split at hc
    · rename_i q hq
      obtain rfl := Option.some.inj hc
      have hr := arg_rep hq hs
      simp only [bnd] at hb
      split at hb
      · rename_i k z he
        rw [he] at hr
        obtain ⟨rfl, rfl⟩ := Prod.mk.inj hb
        exact .inr ⟨k, z, by simp [hr.inv_int], hp, rfl⟩
      · obtain ⟨rfl, _⟩ := Prod.mk.inj hb
        exact hp.elim
    · cases hc

theorem run_bounds {len cap : Nat} {lo hi mx : Option Value} {l h m : Option Nat} (hl : BndIs lo l) (hh : BndIs hi h) (hm : BndIs mx m) (hmh : m ≠ none → h ≠ none)
    (h1 : orN l 0 ≤ orN h len) (h2 : orN h len ≤ orN m cap) (h3 : orN m cap ≤ cap) (b : Bool) :
    (Instr.sliceBounds b len cap lo hi mx).run P w = .ok (orN l 0, orN h len, orN m cap) w := by
  refine run_sliceBounds_nat (m := orN m cap) (h := orN h len) (l := orN l 0) ?_ ?_ ?_ h1 h2 h3 b
  · rcases hm with ⟨rfl, rfl⟩ | ⟨k, z, rfl, h0, rfl⟩
    · exact .inl ⟨rfl, rfl⟩
    · exact .inr ⟨k, z, rfl, h0, rfl⟩
  · rcases hh with ⟨rfl, rfl⟩ | ⟨k, z, rfl, h0, rfl⟩
    · rcases hm with ⟨rfl, rfl⟩ | ⟨k, z, rfl, h0, rfl⟩
      · exact .inl ⟨rfl, rfl, rfl⟩
      · exact absurd rfl (hmh (by simp))
    · exact .inr ⟨k, z, rfl, h0, rfl⟩
  · rcases hl with ⟨rfl, rfl⟩ | ⟨k, z, rfl, h0, rfl⟩
    · exact .inl ⟨rfl, rfl⟩
    · exact .inr ⟨k, z, rfl, h0, rfl⟩

theorem add_plain (b c k : Nat) : (⟨b, c, none⟩ : Addr).add k = ⟨b, c + k, none⟩ := by
  unfold Addr.add; split
  · rename_i h'; subst h'; rfl
  · rfl

/-- A part of a list that stays. -/
theorem lst_part {sz n : Nat} {t : Bool} {f : Nat → DV} {ao : Option Addr} {cap l h m : Nat} {t' : Bool} (hr : Rep I (.lst sz t n f) (.slice ao n cap)) (h1 : l ≤ h) (h2 : h ≤ n) (h3 : h ≤ m)
    (ht : t' = true → m = h) : Rep I (.lst sz t' (h - l) (fun i => f (l + i))) (.slice (if m = l then ao else ao.map (·.add (l * sz))) (h - l) (m - l)) := by
  cases hr with
  | lst _ _ _ _ _ _ b o val g1 g2 g3 g4 g5 g6 g7 =>
    refine .lst sz t' (h - l) _ _ _ b (o + l * sz) (fun i j => val (l + i) j) g1 (by omega) (fun e => by have := ht e; omega) ?_ ?_ ?_ ?_
    · intro hp
      rw [if_neg (by omega), g4 (by omega)]
      simp [add_plain]
    · intro i hi; exact g5 _ (by omega)
    · intro i j hi hj
      have := g6 (l + i) j (by omega) hj
      rw [Nat.add_mul, ← Nat.add_assoc] at this
      exact this
    · intro i j hi hj; exact g7 _ _ (by omega) hj

abbrev Good' (m : Sem Value) (P : Program) (w : World) (v : Value) : Prop := m.run P w = .ok v w

theorem slice_good (hs : Sim C I β st a w) {t : TypeId} {x : Operand} {lo hi mx : Option Operand} {l h m : Option Arg} {o : Oper} (ho : o.op = .slice t x lo hi mx)
    (hl : cOpt lo = some l) (hh : cOpt hi = some h) (hm : cOpt mx = some m) (hmh : mx ≠ none → hi ≠ none) {es : Nat}
    (ht : (∃ e i, P.underlying t = some (.slice e) ∧ P.info? e = some i ∧ es = i.size ∧ 0 < es) ∨ (P.underlying t = some .string ∧ es = 0))
    {d v : DV} {ob : Prop} (hq : sliceV (std P) st es d l h m = (ob, v)) (hob : ob) (hx : RepK I β d (a.eval x)) : Good P I β w a o v := by
  have hgo : ∀ rv, (Instr.sliceAt t (a.eval x) (lo.map a.eval) (hi.map a.eval) (mx.map a.eval)).run P w = .ok rv w → RepK I β v rv → Good P I β w a o v := by
    intro rv h1 h2
    exact ⟨rv, by simp [execOp, ho, h1], h2⟩
  unfold sliceV at hq
  split at hq
  rename_i pl nl ph nh pm nm el eh em
  split at hq
  rename_i p v' hB
  obtain ⟨rfl, rfl⟩ := Prod.mk.inj hq
  obtain ⟨hpl, hph, hpm, hp⟩ := hob
  have Bl := bnd_is hs hl el hpl
  have Bh := bnd_is hs hh eh hph
  have Bm := bnd_is hs hm em hpm
  have hmh' : nm ≠ none → nh ≠ none := by
    intro hn
    have : mx ≠ none := by
      rintro rfl
      rcases Bm with ⟨_, e⟩ | ⟨_, _, e, _⟩
      · exact hn e
      · simp at e
    have h2 := hmh this
    rcases Bh with ⟨e, _⟩ | ⟨_, _, _, _, e⟩
    · cases hi with
      | none => exact absurd rfl h2
      | some q => simp at e
    · rw [e]; simp
  have hrng : ∀ a b n, std P .rng a b n → a ≤ b ∧ b ≤ n := fun _ _ _ h => h
  unfold sliceB at hB
  split at hB
  · rename_i s
    split at hB
    · exact (no_false hB hp).elim
    · split at hB
      · rename_i hes
        obtain ⟨rfl, rfl⟩ := Prod.mk.inj hB
        have hty : P.underlying t = some .string := by
          rcases ht with ⟨e, i, h1, h2, h3, h4⟩ | ⟨h1, _⟩
          · omega
          · exact h1
        have e := hx.inv_str
        obtain ⟨h1, h2⟩ := hrng _ _ _ hp
        have hmx : mx.map a.eval = none := by
          rcases Bm with ⟨e, _⟩ | ⟨_, _, _, _, e⟩
          · exact e
          · cases e
        refine hgo _ ?_ (.pure (.str _))
        rw [e, hmx]
        have := run_bounds (P := P) (w := w) (len := s.size) (cap := s.size) (m := none) Bl Bh (.inl ⟨rfl, rfl⟩) (by simp) h1 h2 (Nat.le_refl _) false
        exact run_slice_str hty this
      · exact (no_false hB hp).elim
  · rename_i sz t0 n f
    split at hB
    · rename_i hsz
      subst hsz
      obtain ⟨ao, cap, hv, hA, htight, hpos⟩ := lst_at hs hx
      rw [hv] at hx hgo
      have hrep : Rep I (.lst sz t0 n f) (.slice ao n cap) := by cases hx with | pure h => exact h
      obtain ⟨e, i, h1, h2, h3, _⟩ : ∃ e i, P.underlying t = some (.slice e) ∧ P.info? e = some i ∧ sz = i.size ∧ 0 < sz := by
        rcases ht with h | ⟨_, h⟩
        · exact h
        · omega
      have hcap := hA.le
      have core : ∀ lv : Nat, lv = orN nl 0 → lv ≤ orN nh n → orN nh n ≤ n → topV (std P) (orN nh n) n nm →
          Good' (Instr.sliceAt t (.slice ao n cap) (lo.map a.eval) (hi.map a.eval) (mx.map a.eval)) P w (.slice (if orN nm cap = lv then ao else ao.map (·.add (lv * sz))) (orN nh n - lv) (orN nm cap - lv)) ∧
          Rep I (.lst sz (tightV (std P) t0 nh nm (orN nh n)) (orN nh n - lv) (fun i => f (lv + i))) (.slice (if orN nm cap = lv then ao else ao.map (·.add (lv * sz))) (orN nh n - lv) (orN nm cap - lv)) := by
        intro lv hlv g1 g2 g3
        have hm1 : orN nh n ≤ orN nm cap ∧ orN nm cap ≤ cap := by
          cases nm with
          | none => exact ⟨by show _ ≤ cap; omega, Nat.le_refl _⟩
          | some q =>
            obtain ⟨g4, g5⟩ := hrng _ _ _ g3
            exact ⟨g4, by show q ≤ cap; omega⟩
        refine ⟨?_, lst_part hrep g1 g2 hm1.1 ?_⟩
        · have := run_bounds (P := P) (w := w) (len := n) (cap := cap) Bl Bh Bm hmh' (by omega) hm1.1 hm1.2 true
          have r := run_slice_val h1 h2 (ao := ao) this
          rw [h3, hlv]
          exact r
        · intro ht'
          cases nm with
          | some q => simp only [tightV, std, decide_eq_true_eq] at ht'; simp only [orN]; exact ht'
          | none =>
            simp only [tightV] at ht'
            cases nh with
            | none => simp only at ht'; simp only [orN]; exact htight ht'
            | some q => simp at ht'
      unfold lstV at hB
      split at hB
      · obtain ⟨rfl, rfl⟩ := Prod.mk.inj hB
        obtain ⟨g1, g2⟩ := hp
        obtain ⟨g3, g4⟩ := hrng _ _ _ g1
        obtain ⟨r1, r2⟩ := core 0 rfl (by omega) g4 g2
        refine hgo _ r1 (.pure ?_)
        have hf : (fun i => f (0 + i)) = f := by funext i; simp
        rw [hf] at r2
        exact r2
      · rename_i lv
        obtain ⟨rfl, rfl⟩ := Prod.mk.inj hB
        obtain ⟨g1, g2⟩ := hp
        obtain ⟨g3, g4⟩ := hrng _ _ _ g1
        obtain ⟨r1, r2⟩ := core lv rfl g3 g4 g2
        exact hgo _ r1 (.pure r2)
    · exact (no_false hB hp).elim
  · split at hB
    · exact (no_false hB hp).elim
    · rename_i hes
      obtain ⟨rfl, rfl⟩ := Prod.mk.inj hB
      obtain ⟨e, i, h1, h2, h3, _⟩ : ∃ e i, P.underlying t = some (.slice e) ∧ P.info? e = some i ∧ es = i.size ∧ 0 < es := by
        rcases ht with h | ⟨_, h⟩
        · exact h
        · exact absurd h hes
      have hv := nils_val hx
      obtain ⟨g1, g2⟩ := hp
      obtain ⟨g3, g4⟩ := hrng _ _ _ g1
      obtain ⟨g5, g6⟩ := hrng _ _ _ g2
      have := run_bounds (P := P) (w := w) (len := 0) (cap := 0) Bl Bh Bm hmh' g3 (by omega) g6 true
      have r := run_slice_val h1 h2 (ao := none) this
      refine hgo _ (by rw [hv]; exact r) (.pure ?_)
      have e1 : orN nh 0 - orN nl 0 = 0 := by omega
      have e2 : orN nm 0 - orN nl 0 = 0 := by omega
      rw [e1, e2]
      have e3 : (if orN nm 0 = orN nl 0 then (none : Option Addr) else (none : Option Addr).map (·.add (orN nl 0 * i.size))) = none := by split <;> rfl
      rw [e3]
      exact .nils
  · rename_i κ o' n
    split at hB
    · rename_i r hr
      split at hB
      · rename_i hsz
        obtain ⟨l0, hl0, hok⟩ := hs.rows.rows κ r hr
        obtain ⟨e, i, h1, h2, h3, _⟩ : ∃ e i, P.underlying t = some (.slice e) ∧ P.info? e = some i ∧ es = i.size ∧ 0 < es := by
          rcases ht with h | ⟨_, h⟩
          · exact h
          · have := hok.pos; omega
        have core : ∀ lv : Nat, lv = orN nl 0 → lv ≤ orN nh n → orN nh n ≤ n → topV (std P) (orN nh n) n nm →
            ∃ rv, (Instr.sliceAt t (a.eval x) (lo.map a.eval) (hi.map a.eval) (mx.map a.eval)).run P w = .ok rv w ∧ RepK I β (.ref κ (o' + lv) (orN nh n - lv)) rv := by
          intro lv hlv g1 g2 g3
          have bound : ∀ cap, n ≤ cap → orN nh n ≤ orN nm cap ∧ orN nm cap ≤ cap := by
            intro cap hcap
            cases nm with
            | none => exact ⟨by show _ ≤ cap; omega, Nat.le_refl _⟩
            | some q =>
              obtain ⟨g4, g5⟩ := hrng _ _ _ g3
              exact ⟨g4, by show q ≤ cap; omega⟩
          generalize a.eval x = pv at hx
          cases hx with
          | pure h => cases h
          | ref _ _ _ cap l b ad k1 k2 k3 k4 k5 k6 =>
            rw [k1] at hl0
            obtain rfl := Option.some.inj hl0
            obtain ⟨b1, b2⟩ := bound cap k3
            have := run_bounds (P := P) (w := w) (len := n) (cap := cap) Bl Bh Bm hmh' (by omega) b1 b2 true
            have r := run_slice_val h1 h2 (ao := some ad) this
            rw [← hlv] at r
            refine ⟨_, r, ?_⟩
            have hszl := hok.sz
            by_cases hM : orN nm cap = lv
            · rw [if_pos hM]
              exact .ref κ _ _ _ l b ad k1 k2 (by omega) (by omega) (Nat.le_trans (Nat.add_le_add_left (Nat.mul_le_mul_right _ (by omega)) _) k5) (fun h => by omega)
            · rw [if_neg hM]
              refine .ref κ _ _ _ l b _ k1 k2 (by omega) (by omega) (Nat.le_trans (Nat.add_le_add_left (Nat.mul_le_mul_right _ (by omega)) _) k5) (fun h => ?_)
              rw [k6 (by omega)]
              show Addr.add _ _ = _
              rw [add_plain]
              congr 1
              rw [← h3, ← hsz, ← hszl, Nat.add_mul]
              omega
          | refnil _ l ao k1 k2 =>
            obtain ⟨b1, b2⟩ := bound 0 (Nat.le_refl _)
            have := run_bounds (P := P) (w := w) (len := 0) (cap := 0) Bl Bh Bm hmh' (by omega) b1 b2 true
            have r := run_slice_val h1 h2 (ao := ao) this
            rw [← hlv] at r
            refine ⟨_, r, ?_⟩
            have e1 : orN nh 0 - lv = 0 := by omega
            have e2 : orN nm 0 - lv = 0 := by omega
            have e4 : lv = 0 := by omega
            rw [e1, e2, e4]
            exact .refnil κ l _ k1 k2
        unfold refV at hB
        split at hB
        · obtain ⟨rfl, rfl⟩ := Prod.mk.inj hB
          obtain ⟨g1, g2⟩ := hp
          obtain ⟨g3, g4⟩ := hrng _ _ _ g1
          obtain ⟨rv, r1, r2⟩ := core 0 rfl (by omega) g4 g2
          exact hgo _ r1 (by simpa using r2)
        · rename_i lv
          obtain ⟨rfl, rfl⟩ := Prod.mk.inj hB
          obtain ⟨g1, g2⟩ := hp
          obtain ⟨g3, g4⟩ := hrng _ _ _ g1
          obtain ⟨rv, r1, r2⟩ := core lv rfl g3 g4 g2
          exact hgo _ r1 r2
      · exact (no_false hB hp).elim
    · exact (no_false hB hp).elim
  · exact (no_false hB hp).elim

theorem field_good {s : TypeId} {x : Operand} {j : Nat} {o : Oper} (ho : o.op = .field s x j) {fs : Array Field} {f : Field} (h1 : P.underlying s = some (.struct fs)) (h2 : fs[j]? = some f)
    {g : Bool} {n : Nat} (h3 : tAgg P f.type = some (g, n)) {cs : List DV} {v : DV} {ob : Prop} (hq : loadE g n f.offset (.agg cs) = (ob, v)) (hob : ob) (hx : RepK I β (.agg cs) (a.eval x)) : Good P I β w a o v := by
  unfold loadE at hq
  split at hq
  · rename_i hin
    obtain ⟨_, rfl⟩ := Prod.mk.inj hq
    rw [len_length] at hin
    simp only [cells] at hin
    have hr := hx.inv_agg
    generalize hv : a.eval x = pv at hr
    cases hr with
    | agg _ vs k1 k2 k3 =>
      have hgo : ∀ rv, (Go.part f.type vs f.offset).run P w = .ok rv w → Rep I (part g n (.agg cs) f.offset) rv → Good P I β w a o (part g n (.agg cs) f.offset) := by
        intro rv e1 e2
        exact ⟨rv, by simp [execOp, ho, hv, Instr.field, run_underlying h1, h2, asAgg, e1], .pure e2⟩
      unfold tAgg at h3
      have agg : ∀ d', P.underlying f.type = some d' → (match d' with | .struct _ | .array _ _ => True | _ => False) → (∃ i, tInfo P f.type = some i ∧ n = i.size) → g = true →
          Good P I β w a o (part g n (.agg cs) f.offset) := by
        rintro d' hd hm ⟨i, hi, rfl⟩ rfl
        have hagg : (isAgg f.type).run P w = .ok true w := by
          cases d' <;> simp at hm <;> simp [isAgg, run_underlying hd]
        refine hgo (.agg (vs.extract f.offset (f.offset + i.size))) (by simp [Go.part, hagg, sizeOf, typeInfo, show P.info? f.type = some i from hi]) ?_
        refine .agg _ _ ?_ ?_ ?_
        · simp only [takeN_take, dropN_drop, cells]; simp; omega
        · intro q hq
          simp only [takeN_take, dropN_drop, cells] at hq ⊢
          simp at hq
          rw [← takeN_take, ← dropN_drop, nth_drop_take _ _ _ _ (by omega)]
          exact k2 _ (by omega)
        · intro q hq
          simp only [takeN_take, dropN_drop, cells] at hq ⊢
          simp at hq
          rw [← takeN_take, ← dropN_drop, nth_drop_take _ _ _ _ (by omega)]
          have e : (vs.extract f.offset (f.offset + i.size)).getD q undef = vs.getD (f.offset + q) undef := by
            simp only [Array.getD_eq_getD_getElem?, Array.getElem?_extract]
            rw [if_pos (by omega)]
          rw [e]
          exact k3 _ (by omega)
      split at h3
      · rename_i f' i hd hi
        obtain ⟨rfl, rfl⟩ := Prod.mk.inj (Option.some.inj h3)
        exact agg _ hd trivial ⟨i, hi, rfl⟩ rfl
      · rename_i f' i hd hi
        obtain ⟨rfl, rfl⟩ := Prod.mk.inj (Option.some.inj h3)
        exact agg _ hd trivial ⟨i, hi, rfl⟩ rfl
      · rename_i d' i hns hna hd hi
        split at h3
        · obtain ⟨rfl, rfl⟩ := Prod.mk.inj (Option.some.inj h3)
          have hagg : (isAgg f.type).run P w = .ok false w := by
            cases d' <;> first | exact absurd rfl (hns _) | exact absurd rfl (hna _ _) | simp [isAgg, run_underlying hd]
          have hlt : f.offset < vs.size := by omega
          refine hgo (vs.getD f.offset undef) (by simp [Go.part, hagg, hlt, Array.getD]) ?_
          exact k3 _ (by omega)
        · cases h3
      · cases h3
  · exact (no_false hq hob).elim

theorem extract_good {x : Operand} {j : Nat} {o : Oper} (ho : o.op = .extract x j) {ds : List DV} (hj : j < ds.length) (hx : RepK I β (.tup ds) (a.eval x)) : Good P I β w a o (nth ds j) := by
  generalize hv : a.eval x = pv at hx
  cases hx with
  | pure h => cases h
  | tup _ vs h1 h2 =>
    have hlt : j < vs.size := by omega
    refine ⟨vs.getD j undef, by simp [execOp, ho, hv, Instr.extract, hlt, Array.getD], h2 j hj⟩

theorem makeFunc_good (hs : Sim C I β st a w) {g : FuncId} {xs ys : Array Operand} {as_ bs : List Arg} {o : Oper} (ho : o.op = .makeFunc (.func g) xs ys) (h1 : cArgs xs.toList = some as_) (h2 : cArgs ys.toList = some bs) :
    Good P I β w a o (.fn g (evL st as_) (evL st bs)) := by
  obtain ⟨a1, a2⟩ := args_rep h1 hs
  obtain ⟨b1, b2⟩ := args_rep h2 hs
  refine ⟨.func (.func g) (xs.map a.eval) (ys.map a.eval), by simp [execOp, ho, Instr.makeFunc], .fn g _ _ _ _ (by simp [a1]) (by simp [b1]) ?_ ?_⟩
  · intro j hj
    have := a2 j (by omega)
    simpa [Array.getD_eq_getD_getElem?, List.getD] using this
  · intro j hj
    have := b2 j (by omega)
    simpa [Array.getD_eq_getD_getElem?, List.getD] using this

theorem len_good (hs : Sim C I β st a w) {c : Call} {x : Operand} {t : TypeId} {o : Oper} (ho : o.op = .call c) (hcal : c.callee = .builtin .len) (hargs : c.args.toList = [x]) {ts : List TypeId} (hts : c.argTypes.toList = t :: ts)
    {sb : Bool} (ht : match sb with | true => P.underlying t = some .string | false => ∃ e, P.underlying t = some (.slice e)) {d v : DV} {ob : Prop} (hq : lenV (std P) sb d = (ob, v)) (hob : ob)
    (hx : RepK I β d (a.eval x)) : Good P I β w a o v := by
  have ha : c.args = #[x] := by rw [← Array.toArray_toList (xs := c.args), hargs]
  have htt : c.argTypes[0]? = some t := by rw [← Array.getElem?_toList, hts]; rfl
  have hgo : ∀ rv, (Builtin.len_ c.argTypes o.type #[a.eval x]).run P w = .ok rv w → RepK I β v rv → Good P I β w a o v := by
    intro rv h1 h2
    refine ⟨rv, ?_, h2⟩
    simp [execOp, ho, resolve, hcal, invoke, builtin, ha, h1]
  unfold lenV at hq
  split at hq
  · split at hq
    · rename_i s
      obtain ⟨_, rfl⟩ := Prod.mk.inj hq
      have e := hx.inv_str
      exact hgo (.int .i64 s.size) (by simp [Builtin.len_, htt, run_underlying ht, e, goInt]) (.pure (.int _ _))
    · exact (no_false hq hob).elim
  · obtain ⟨el, he⟩ := ht
    split at hq
    · rename_i sz t0 n f
      obtain ⟨_, rfl⟩ := Prod.mk.inj hq
      obtain ⟨ao, cap, hv, _⟩ := lst_at hs hx
      exact hgo (.int .i64 n) (by simp [Builtin.len_, htt, run_underlying he, hv, goInt]) (.pure (.int _ _))
    · rename_i κ o' n
      obtain ⟨_, rfl⟩ := Prod.mk.inj hq
      have hv : ∃ ao cap, a.eval x = .slice ao n cap := by
        generalize a.eval x = pv at hx
        cases hx with
        | pure h => cases h
        | ref => exact ⟨_, _, rfl⟩
        | refnil => exact ⟨_, _, rfl⟩
      obtain ⟨ao, cap, hv⟩ := hv
      exact hgo (.int .i64 n) (by simp [Builtin.len_, htt, run_underlying he, hv, goInt]) (.pure (.int _ _))
    · obtain ⟨_, rfl⟩ := Prod.mk.inj hq
      have hv := nils_val hx
      exact hgo (.int .i64 0) (by simp [Builtin.len_, htt, run_underlying he, hv, goInt]) (.pure (.int _ _))
    · exact (no_false hq hob).elim

theorem mm_good {f : Int → Int → Int} {g : Value → Value → Sem Value} (hg : ∀ k x y w, (g (.int k x) (.int k y)).run P w = .ok (.int k (f x y)) w) :
    ∀ (ds : List DV) (vs : List Value) (k : IntKind) (n : Int) (ob : Prop) (v : DV), mmV k f n ds = (ob, v) → ob → vs.length = ds.length → (∀ j < ds.length, RepK I β (nth ds j) (vs.getD j undef)) →
      ∃ rv, (vs.foldlM g (.int k n)).run P w = .ok rv w ∧ Rep I v rv
  | [], vs, k, n, ob, v, hq, hob, hl, hr => by
    have : vs = [] := List.eq_nil_of_length_eq_zero (by simpa using hl)
    subst this
    obtain ⟨_, rfl⟩ := Prod.mk.inj hq
    exact ⟨.int k n, rfl, .int _ _⟩
  | d :: ds, vs, k, n, ob, v, hq, hob, hl, hr => by
    cases vs with
    | nil => simp at hl
    | cons u us =>
      have h0 := hr 0 (by simp)
      simp only [nth, List.getD_cons_zero] at h0
      cases d with
      | int k' b =>
        simp only [mmV] at hq
        split at hq
        · rename_i hk
          subst hk
          obtain rfl := h0.inv_int
          obtain ⟨rv, h1, h2⟩ := mm_good hg ds us k (f n b) ob v hq hob (by simpa using hl) (fun j hj => by simpa [nth] using hr (j + 1) (by simpa using hj))
          exact ⟨rv, by simp [List.foldlM_cons, hg, h1], h2⟩
        · exact (no_false hq hob).elim
      | _ => exact (no_false hq hob).elim

theorem mm0_good {f : Int → Int → Int} {g : Value → Value → Sem Value} (hg : ∀ k x y w, (g (.int k x) (.int k y)).run P w = .ok (.int k (f x y)) w)
    {ds : List DV} {vs : List Value} {ob : Prop} {v : DV} (hq : mmV0 f ds = (ob, v)) (hob : ob) (hl : vs.length = ds.length) (hr : ∀ j < ds.length, RepK I β (nth ds j) (vs.getD j undef)) :
    ∃ x rest rv, vs = x :: rest ∧ (rest.foldlM g x).run P w = .ok rv w ∧ Rep I v rv := by
  cases ds with
  | nil => exact (no_false hq hob).elim
  | cons d ds =>
    cases vs with
    | nil => simp at hl
    | cons u us =>
      have h0 := hr 0 (by simp)
      simp only [nth, List.getD_cons_zero] at h0
      cases d with
      | int k n =>
        obtain rfl := h0.inv_int
        obtain ⟨rv, h1, h2⟩ := mm_good hg ds us k n ob v hq hob (by simpa using hl) (fun j hj => by simpa [nth] using hr (j + 1) (by simpa using hj))
        exact ⟨_, us, rv, rfl, h1, h2⟩
      | _ => exact (no_false hq hob).elim

theorem max_good (hs : Sim C I β st a w) {c : Call} {xs : List Arg} {o : Oper} (ho : o.op = .call c) (hcal : c.callee = .builtin .max) (hargs : cArgs c.args.toList = some xs) {v : DV} {ob : Prop}
    (hq : mmV0 (std P .imax) (evL st xs) = (ob, v)) (hob : ob) : Good P I β w a o v := by
  obtain ⟨a1, a2⟩ := args_rep hargs hs
  obtain ⟨x, rest, rv, h1, h2, h3⟩ := mm0_good (P := P) (w := w) (g := Builtin.max2) (fun k x y w => by simp [Builtin.max2, std]) hq hob (vs := c.args.toList.map a.eval) (by simpa using a1.symm) (fun j hj => a2 j (by omega))
  refine ⟨rv, ?_, .pure h3⟩
  have e : (c.args.map a.eval).toList = x :: rest := by simpa using h1
  simp [execOp, ho, resolve, hcal, invoke, builtin, Builtin.max_, h1, h2]
theorem min_good (hs : Sim C I β st a w) {c : Call} {xs : List Arg} {o : Oper} (ho : o.op = .call c) (hcal : c.callee = .builtin .min) (hargs : cArgs c.args.toList = some xs) {v : DV} {ob : Prop}
    (hq : mmV0 (std P .imin) (evL st xs) = (ob, v)) (hob : ob) : Good P I β w a o v := by
  obtain ⟨a1, a2⟩ := args_rep hargs hs
  obtain ⟨x, rest, rv, h1, h2, h3⟩ := mm0_good (P := P) (w := w) (g := Builtin.min2) (fun k x y w => by simp [Builtin.min2, std]) hq hob (vs := c.args.toList.map a.eval) (by simpa using a1.symm) (fun j hj => a2 j (by omega))
  refine ⟨rv, ?_, .pure h3⟩
  simp [execOp, ho, resolve, hcal, invoke, builtin, Builtin.min_, h1, h2]
end
end Go.Sx
/-! The operations that make or write memory. -/
namespace Go.Sx

section
variable {P : Program} {md : Modes} {C : Ctx} {I : Imm} {β : Nat → Option Loc} {st : St} {a : Act} {w : World}

theorem pureL_iff (l : List DV) : pureL l = true ↔ ∀ j < l.length, pureB (nth l j) = true := by
  induction l with
  | nil => simp [pureL]
  | cons d r ih =>
    simp only [pureL]
    constructor
    · intro h j hj
      split at h
      · rename_i hd
        cases j with
        | zero => exact hd
        | succ j => exact ih.1 h j (by simpa using hj)
      · cases h
    · intro h
      have h0 := h 0 (by simp)
      simp only [nth] at h0
      rw [if_pos h0]
      exact ih.2 fun j hj => h (j + 1) (by simpa using hj)

theorem RepK.toRep {d : DV} {v : Value} (r : RepK I β d v) (h : pureB d = true) : Rep I d v := by
  induction r with
  | pure hr => exact hr
  | ref => cases h
  | refnil => cases h
  | rptr => cases h
  | fn g fst cap a b h1 h2 _ _ ih1 ih2 =>
    simp only [pureB] at h
    split at h
    · rename_i hp
      rw [pureL_iff] at h hp
      exact .fn g fst cap a b h1 h2 (fun j hj => ih1 j hj (hp j hj)) (fun j hj => ih2 j hj (h j hj))
    · cases h
  | tup => cases h
  | junk => cases h

theorem okCells_iff {n : Nat} {d : DV} (h : okCells n d = true) : (cells d).length = n ∧ (∀ j < n, isCell (nth (cells d) j) = true) ∧ pureB d = true := by
  unfold okCells at h
  split at h
  · rename_i hl
    split at h
    · rename_i ha
      rw [len_length] at hl
      rw [allCell_iff, hl] at ha
      exact ⟨hl, ha, h⟩
    · cases h
  · cases h

/-- The cells of a value, and of its data. -/
theorem Rep.cells {d : DV} {v : Value} (r : Rep I d v) {n : Nat} (h : okCells n d = true) :
    v.cells.size = n ∧ (∀ j < n, Rep I (nth (cells d) j) (v.cells.getD j undef)) ∧ ∀ j < n, (v.cells.getD j undef).oneCell' = true := by
  obtain ⟨h1, h2, _⟩ := okCells_iff h
  have core : v.cells.size = n ∧ (∀ j < n, Rep I (nth (Sx.cells d) j) (v.cells.getD j undef)) := by
    cases r with
    | agg cs vs k1 k2 k3 =>
      simp only [Sx.cells] at h1 ⊢
      exact ⟨by simp only [Value.cells]; omega, fun j hj => k3 j (by omega)⟩
    | und =>
      simp only [Sx.cells] at h1 h2
      have : n = 1 := by simpa using h1.symm
      subst this
      have := h2 0 (by omega)
      cases this
    | _ =>
      simp only [Sx.cells] at h1
      have : n = 1 := by simpa using h1.symm
      subst this
      refine ⟨rfl, fun j hj => ?_⟩
      have : j = 0 := by omega
      subst this
      simp only [Sx.cells, nth, Value.cells]
      constructor <;> assumption
  refine ⟨core.1, core.2, fun j hj => ((core.2 j hj).one (h2 j hj)).1⟩

/-- What an operation leaves. -/
def Lands (C : Ctx) (a : Act) (K : DV → St → Prop) (v : Value) (w' : World) : Prop :=
  ∃ I' β' d st', Sim C I' β' st' a w' ∧ RepK I' β' d v ∧ K d st'

theorem cell_alloc (w : World) (arr : Array Value) (ty : TypeId) (j : Nat) : (w.alloc (.cells arr ty)).cell? ⟨w.heap.size, j, none⟩ = arr[j]? := by
  simp only [World.cell?, World.alloc]
  simp
theorem frozen_alloc (w : World) (arr : Array Value) (ty : TypeId) (j : Nat) : (w.alloc (.cells arr ty)).frozen? ⟨w.heap.size, j, none⟩ = false := by
  simp only [World.frozen?, World.alloc]
  simp

/-- A new block of cells is a new row. -/
theorem Sim.alloc (h : Sim C I β st a w) {κ : Nat} {r : Row} (hκ : κ < refKey) (hn : look st.σ κ = none) {arr : Array Value} {ty : TypeId} (hpos : 0 < r.sz) (hfit : r.n * r.sz ≤ arr.size)
    (helem : ∀ i < r.n, elemOk r.sz (r.f i)) (hval : ∀ i j, i < r.n → j < r.sz → ∃ v, arr[i * r.sz + j]? = some v ∧ Rep I (nth (cells (r.f i)) j) v) :
    Sim C I (updB β κ ⟨some w.heap.size, 0, r.sz, r.n, arr.size⟩) ⟨st.T, ins st.σ κ r⟩ a (w.alloc (.cells arr ty)) ∧
      ∀ κ' l', β κ' = some l' → updB β κ ⟨some w.heap.size, 0, r.sz, r.n, arr.size⟩ κ' = some l' := by
  refine h.newRow hκ hn (Frm.alloc _ _ _) ?_ ?_
  · intro b hb
    obtain rfl := Option.some.inj hb
    refine ⟨h.frame.size, by simp only [World.alloc, Array.size_push]; omega, fun κ' l' hl hb => ?_⟩
    exact absurd (h.rows.lt κ' l' _ hl hb) (by omega)
  · refine ⟨rfl, rfl, hpos, fun b hb => ?_, fun hb => by cases hb⟩
    obtain rfl := Option.some.inj hb
    exact {
      there := fun j hj => by rw [cell_alloc]; simp [hj]
      val := fun i j hi hj => by
        obtain ⟨v, h1, h2⟩ := hval i j hi hj
        exact ⟨v, by rw [cell_alloc]; simpa using h1, h2⟩
      free := fun o _ => frozen_alloc _ _ _ _
      fits := by simpa using hfit
      apart := fun o => by
        cases hI : I w.heap.size o with
        | none => rfl
        | some v =>
          have := block_lt (by rw [h.inw _ _ _ hI]; rfl)
          omega
      elem := helem
      mark := fun c ty' fr hc => by
        have e : (w.alloc (.cells arr ty)).heap[w.heap.size]? = some (.cells arr ty) := by
          show (w.heap.push _)[w.heap.size]? = _
          simp
        rw [e] at hc
        cases hc
        exact .inl rfl }

theorem addRow_iff {st : St} {κ : Nat} {r : Row} {K : St → Prop} (h : addRow st κ r K) : κ < refKey ∧ look st.σ κ = none ∧ K ⟨st.T, ins st.σ κ r⟩ := by
  unfold addRow at h
  split at h
  · rename_i hk
    split at h
    · exact h.elim
    · rename_i hl; exact ⟨hk, hl, h⟩
  · exact h.elim

theorem refptr_new {κ : Nat} {r : Row} {b tot : Nat} (hn : 0 < r.n) : RepK I (updB β κ ⟨some b, 0, r.sz, r.n, tot⟩) (.rptr κ 0 0) (.pointer (some ⟨b, 0, none⟩)) := by
  have := RepK.rptr (I := I) (β := updB β κ ⟨some b, 0, r.sz, r.n, tot⟩) κ 0 0 ⟨some b, 0, r.sz, r.n, tot⟩ b (by simp [updB]) rfl hn
  simpa using this

/-- A box of a value. -/
theorem Sim.newBox (h : Sim C I β st a w) {κ n : Nat} {d : DV} {v : Value} {ty : TypeId} {K : DV → St → Prop} (hd : Rep I d v) (hok : okCells n d = true) (hn : 0 < n)
    (hK : addRow st κ (.box n d) fun st => K (.rptr κ 0 0) st) : Lands C a K (.pointer (some ⟨w.heap.size, 0, none⟩)) (w.alloc (.cells v.cells ty)) := by
  obtain ⟨hκ, hl, hk⟩ := addRow_iff hK
  obtain ⟨h1, h2, h3⟩ := okCells_iff hok
  obtain ⟨c1, c2, c3⟩ := hd.cells hok
  obtain ⟨s1, s2⟩ := h.alloc (r := .box n d) (arr := v.cells) (ty := ty) hκ hl hn (by simp [Row.n, Row.sz, c1]) (fun i hi => ⟨h1, h2⟩) (fun i j hi hj => by
    have hi0 : i = 0 := by simp only [Row.n] at hi; omega
    subst hi0
    simp only [Row.sz] at hj
    refine ⟨v.cells.getD j undef, ?_, c2 j hj⟩
    have : j < v.cells.size := by omega
    simp [Array.getD, this])
  exact ⟨_, _, _, _, s1, refptr_new (r := .box n d) (by simp [Row.n]), hk⟩

theorem cZero_ok {t : TypeId} {n by_ : Nat} {d : DV} (h : cZero P t = some (n, by_, d)) :
    ∃ i z, P.info? t = some i ∧ i.zero = some z ∧ n = i.size ∧ by_ = i.bytes ∧ 0 < n ∧ okCells n d = true ∧ ∀ I : Imm, Rep I d z := by
  unfold cZero at h
  split at h
  · rename_i i hi
    split at h
    · rename_i z hz
      split at h
      · rename_i d' hd
        split at h
        · rename_i hc
          obtain ⟨rfl, h2⟩ := Prod.mk.inj (Option.some.inj h)
          obtain ⟨rfl, rfl⟩ := Prod.mk.inj h2
          exact ⟨i, z, hi, hz, rfl, rfl, hc.2, hc.1, fun I => (cCon_rep hd).1⟩
        · cases h
      · cases h
    · cases h
  · cases h

theorem alloc_lands (h : Sim C I β st a w) {t : TypeId} {o : Oper} (ho : o.op = .alloc t) {n by_ : Nat} {z : DV} (hz : cZero P t = some (n, by_, z)) {κ : Nat} {K : DV → St → Prop}
    (hK : addRow st κ (.box n z) fun st => K (.rptr κ 0 0) st) : ∃ v w', (execOp a.eval o).run P w = .ok (.value v) w' ∧ Lands C a K v w' := by
  obtain ⟨i, zv, h1, h2, rfl, rfl, h4, h5, h6⟩ := cZero_ok hz
  exact ⟨_, _, by simp [execOp, ho, Instr.alloc, zeroValue, typeInfo, h1, h2, newVar, newRow], h.newBox (ty := t) (h6 I) h5 h4 hK⟩

theorem box_lands (h : Sim C I β st a w) {t : TypeId} {x : Operand} {o : Oper} (ho : o.op = .box t x) {n : Nat} {y : Arg} (hy : cArg x = some y) (hn : 0 < n) {κ : Nat} {K : DV → St → Prop}
    (hok : okCells n (ev st y) = true) (hK : addRow st κ (.box n (ev st y)) fun st => K (.rptr κ 0 0) st) : ∃ v w', (execOp a.eval o).run P w = .ok (.value v) w' ∧ Lands C a K v w' := by
  have hr := (arg_rep hy h).toRep (okCells_iff hok).2.2
  exact ⟨_, _, by simp [execOp, ho, Instr.box, newVar, newRow], h.newBox (ty := t) hr hok hn hK⟩

/-! ### literals of structs and slices -/
theorem foldl_set : ∀ (vs : List Value) (off s : Nat) (arr : Array Value),
    ((vs.zipIdx s).foldl (fun cs p => cs.setIfInBounds (off + p.2) p.1) arr).size = arr.size ∧
    (off + s + vs.length ≤ arr.size → ∀ k, ((vs.zipIdx s).foldl (fun cs p => cs.setIfInBounds (off + p.2) p.1) arr).getD k undef = if off + s ≤ k ∧ k < off + s + vs.length then vs.getD (k - (off + s)) undef else arr.getD k undef)
  | [], off, s, arr => by
    constructor
    · rfl
    · intro _ k
      rw [if_neg (by simp)]; rfl
  | v :: vs, off, s, arr => by
    obtain ⟨h1, h2⟩ := foldl_set vs off (s + 1) (arr.setIfInBounds (off + s) v)
    rw [List.zipIdx_cons, List.foldl_cons]
    constructor
    · rw [h1]; simp
    · intro hl k
      simp only [List.length_cons] at hl ⊢
      rw [h2 (by simp; omega)]
      by_cases hk : k = off + s
      · subst hk
        rw [if_neg (by omega), if_pos (by omega)]
        have : off + s < arr.size := by omega
        simp [Array.getD_eq_getD_getElem?, this]
      · by_cases hk2 : off + s ≤ k ∧ k < off + s + (vs.length + 1)
        · rw [if_pos (by omega), if_pos hk2]
          rw [show k - (off + s) = (k - (off + (s + 1))) + 1 by omega]
          simp
        · rw [if_neg (by omega), if_neg hk2]
          simp [Array.getD_eq_getD_getElem?, Ne.symm hk]

/-- Cells and their data. -/
structure CR (I : Imm) (cs : List DV) (arr : Array Value) : Prop where
  size : arr.size = cs.length
  rep : ∀ j < cs.length, Rep I (nth cs j) (arr.getD j undef)
  cell : ∀ j < cs.length, isCell (nth cs j) = true

theorem CR.put {cs : List DV} {arr : Array Value} (h : CR I cs arr) {d : DV} {v : Value} {n off : Nat} (hd : Rep I d v) (hok : okCells n d = true) (hoff : off + n ≤ cs.length) :
    CR I (over cs off (cells d)) (v.cells.zipIdx.foldl (fun cs p => cs.setIfInBounds (off + p.2) p.1) arr) := by
  obtain ⟨h1, h2, _⟩ := okCells_iff hok
  obtain ⟨c1, c2, _⟩ := hd.cells hok
  obtain ⟨f1, f2⟩ := foldl_set v.cells.toList off 0 arr
  have hl : v.cells.toList.length = n := by simpa using c1
  have e : v.cells.zipIdx.foldl (fun cs p => cs.setIfInBounds (off + p.2) p.1) arr = (v.cells.toList.zipIdx 0).foldl (fun cs p => cs.setIfInBounds (off + p.2) p.1) arr := by
    rw [← Array.foldl_toList]; simp
  rw [e]
  have hs := h.size
  refine ⟨by rw [f1, over_length]; exact hs, ?_, ?_⟩
  · intro j hj
    rw [over_length] at hj
    rw [f2 (by omega), nth_over _ _ _ _ (by omega)]
    by_cases hk : off ≤ j ∧ j < off + n
    · rw [if_pos (by omega), if_pos (by omega)]
      have := c2 (j - off) (by omega)
      simpa [Array.getD_eq_getD_getElem?, List.getD] using this
    · rw [if_neg (by omega), if_neg (by omega)]
      exact h.rep j hj
  · intro j hj
    rw [over_length] at hj
    rw [nth_over _ _ _ _ (by omega)]
    by_cases hk : off ≤ j ∧ j < off + n
    · rw [if_pos (by omega)]; exact h2 _ (by omega)
    · rw [if_neg (by omega)]; exact h.cell j hj

theorem fill_step {place : Nat → Option (Nat × Nat)} {arr : Array Value} {i off n : Nat} {v : Value} {rest : List (Nat × Value)} (hp : place i = some (off, n)) (hv : v.cells.size = n) (hin : off + n ≤ arr.size) :
    Instr.fill place arr ((i, v) :: rest) = Instr.fill place (v.cells.zipIdx.foldl (fun cs p => cs.setIfInBounds (off + p.2) p.1) arr) rest := by
  subst hv
  have h1 : ¬ (arr.size < off + v.cells.size) := by omega
  simp [Instr.fill, hp, h1]

theorem fillP_fill (hs : Sim C I β st a w) {fs : Array Field} {place : Nat → Option (Nat × Nat)} (hpl : ∀ j f i, fs[j]? = some f → P.info? f.type = some i → place j = some (f.offset, i.size)) :
    ∀ (ps : List (Nat × Operand)) (rs : List (Nat × Nat × Arg)) (cs cs' : List DV) (arr : Array Value), cFields P fs ps = some rs → fillP st rs cs = some cs' → CR I cs arr →
      ∃ arr', Instr.fill place arr (ps.map fun p => (p.1, a.eval p.2)) = some arr' ∧ CR I cs' arr'
  | [], rs, cs, cs', arr, hc, hf, hcr => by
    obtain rfl := Option.some.inj hc
    obtain rfl := Option.some.inj hf
    exact ⟨arr, rfl, hcr⟩
  | (j, x) :: ps, rs, cs, cs', arr, hc, hf, hcr => by
    simp only [cFields] at hc
    split at hc
    · rename_i f y r hfj hy hr
      split at hc
      · rename_i i hi
        obtain rfl := Option.some.inj hc
        simp only [fillP] at hf
        split at hf
        · rename_i hok
          split at hf
          · rename_i hin
            rw [len_length] at hin
            have hrep := (arg_rep hy hs).toRep (okCells_iff hok).2.2
            obtain ⟨arr', h1, h2⟩ := fillP_fill hs hpl ps r _ cs' _ hr hf (hcr.put hrep hok hin)
            refine ⟨arr', ?_, h2⟩
            rw [List.map_cons, fill_step (hpl j f i hfj hi) (hrep.cells hok).1 (by rw [hcr.size]; exact hin)]
            exact h1
          · cases hf
        · cases hf
      · cases hc
    · cases hc

theorem all_some_mapM {fs : List Field} (h : fs.all (fun f => (tInfo P f.type).isSome) = true) :
    ∃ places, fs.mapM (fun f => (P.info? f.type).map fun i => (f.offset, i.size)) = some places ∧ ∀ (j : Nat) (f : Field) (i : TypeInfo), fs[j]? = some f → P.info? f.type = some i → places[j]? = some (f.offset, i.size) := by
  induction fs with
  | nil => exact ⟨[], by simp, fun j f i hj => by simp at hj⟩
  | cons f fs ih =>
    simp only [List.all_cons, Bool.and_eq_true] at h
    obtain ⟨places, h1, h2⟩ := ih h.2
    obtain ⟨i, hi⟩ := Option.isSome_iff_exists.1 h.1
    refine ⟨(f.offset, i.size) :: places, by simp [List.mapM_cons, show P.info? f.type = some i from hi, h1], ?_⟩
    intro j g k hj hk
    cases j with
    | zero =>
      simp only [List.getElem?_cons_zero, Option.some.injEq] at hj
      subst hj
      rw [show P.info? f.type = some i from hi] at hk
      obtain rfl := Option.some.inj hk
      rfl
    | succ j => simpa using h2 j g k (by simpa using hj) hk

theorem build_good (hs : Sim C I β st a w) {t : TypeId} {ps : Array (Nat × Operand)} {o : Oper} (ho : o.op = .build t ps) {n by_ : Nat} {cs0 : List DV} (hz : cZero P t = some (n, by_, .agg cs0)) {fs : Array Field}
    (hu : P.underlying t = some (.struct fs)) (hall : fs.toList.all (fun f => (tInfo P f.type).isSome) = true) {rs : List (Nat × Nat × Arg)} (hc : cFields P fs ps.toList = some rs) {cs : List DV} (hf : fillP st rs cs0 = some cs) :
    Good P I β w a o (.agg cs) := by
  obtain ⟨i, zv, h1, h2, rfl, rfl, h4, h5, h6⟩ := cZero_ok hz
  obtain ⟨places, p1, p2⟩ := all_some_mapM hall
  have hzc : CR I cs0 zv.cells := by
    have hr := h6 I
    obtain ⟨q1, q2, _⟩ := okCells_iff h5
    obtain ⟨c1, c2, _⟩ := hr.cells h5
    simp only [cells] at q1 q2 c2
    exact ⟨by omega, fun j hj => c2 j (by omega), fun j hj => q2 j (by omega)⟩
  obtain ⟨arr', f1, f2⟩ := fillP_fill hs (place := (places.toArray[·]?)) (fun j f i hj hi => by simpa using p2 j f i (by simpa using hj) hi) ps.toList rs cs0 cs zv.cells hc hf hzc
  have hrun := run_build (P := P) w t (ps.map fun p => (p.1, a.eval p.2)) arr' (by simp only [Program.built, h1, hu, h2, p1]; simpa using f1)
  exact ⟨.agg arr', by simp [execOp, ho, hrun], .pure (.agg cs arr' f2.size f2.cell f2.rep)⟩

theorem build_lands (hs : Sim C I β st a w) {t : TypeId} {ps : Array (Nat × Operand)} {o : Oper} (ho : o.op = .build t ps) {n by_ : Nat} {cs0 : List DV} (hz : cZero P t = some (n, by_, .agg cs0)) {fs : Array Field}
    (hu : P.underlying t = some (.struct fs)) (hall : fs.toList.all (fun f => (tInfo P f.type).isSome) = true) {rs : List (Nat × Nat × Arg)} (hc : cFields P fs ps.toList = some rs) {cs : List DV} (hf : fillP st rs cs0 = some cs)
    {K : DV → St → Prop} (hK : K (.agg cs) st) : ∃ v w', (execOp a.eval o).run P w = .ok (.value v) w' ∧ Lands C a K v w' := by
  obtain ⟨rv, h1, h2⟩ := build_good hs ho hz hu hall hc hf
  exact ⟨rv, w, h1, I, β, _, st, hs, h2, hK⟩

theorem fillS_fill (hs : Sim C I β st a w) {sz n : Nat} : ∀ (ps : List (Nat × Operand)) (rs : List (Nat × Arg)) (el : Nat → DV) (arr : Array Value), cParts n ps = some rs → partsOk sz st rs = true → arr.size = n * sz →
    (∀ i < n, elemOk sz (el i)) → (∀ i j, i < n → j < sz → Rep I (nth (cells (el i)) j) (arr.getD (i * sz + j) undef)) →
    ∃ arr', Instr.fill (fun i => some (i * sz, sz)) arr (ps.map fun p => (p.1, a.eval p.2)) = some arr' ∧ arr'.size = n * sz ∧
      ∃ el' : Nat → DV, (∀ i, el' i = elemD st i (el i) rs) ∧ (∀ i < n, elemOk sz (el' i)) ∧ (∀ i j, i < n → j < sz → Rep I (nth (cells (el' i)) j) (arr'.getD (i * sz + j) undef))
  | [], rs, el, arr, hc, hok, hsz, he, hr => by
    obtain rfl := Option.some.inj hc
    exact ⟨arr, rfl, hsz, el, fun i => rfl, he, hr⟩
  | (j, x) :: ps, rs, el, arr, hc, hok, hsz, he, hr => by
    simp only [cParts] at hc
    split at hc
    · rename_i y r hy hr'
      split at hc
      · rename_i hj
        obtain rfl := Option.some.inj hc
        simp only [partsOk] at hok
        split at hok
        · rename_i hok1
          obtain ⟨k1, k2, k3⟩ := okCells_iff hok1
          have hrep := (arg_rep hy hs).toRep k3
          obtain ⟨c1, c2, _⟩ := hrep.cells hok1
          have hjn : j * sz + sz ≤ n * sz := by
            have := Nat.mul_le_mul_right sz (show j + 1 ≤ n by omega)
            rw [Nat.add_mul] at this
            omega
          obtain ⟨g1, g2⟩ := foldl_set (a.eval x).cells.toList (j * sz) 0 arr
          have e : (a.eval x).cells.zipIdx.foldl (fun cs p => cs.setIfInBounds (j * sz + p.2) p.1) arr = ((a.eval x).cells.toList.zipIdx 0).foldl (fun cs p => cs.setIfInBounds (j * sz + p.2) p.1) arr := by
            rw [← Array.foldl_toList]; simp
          have hcl : (a.eval x).cells.toList.length = sz := by simpa using c1
          have g3 := g2 (by omega)
          obtain ⟨arr', f1, f2, el', f3, f4, f5⟩ := fillS_fill hs ps r (fun i => if j = i then ev st y else el i) (((a.eval x).cells.toList.zipIdx 0).foldl (fun cs p => cs.setIfInBounds (j * sz + p.2) p.1) arr) hr' hok (by rw [g1]; exact hsz)
            (fun i hi => by split; exact ⟨k1, k2⟩; exact he i hi)
            (fun i q hi hq => by
              rw [g3]
              by_cases hij : j = i
              · subst hij
                rw [if_pos rfl, if_pos (by omega)]
                have := c2 q hq
                rw [show j * sz + q - (j * sz + 0) = q by omega]
                simpa [Array.getD_eq_getD_getElem?, List.getD] using this
              · rw [if_neg hij, if_neg]
                · exact hr i q hi hq
                · intro hcon
                  have h1 : j * sz ≤ i * sz + q ∧ i * sz + q < j * sz + sz := by omega
                  rcases Nat.lt_or_gt_of_ne hij with hlt | hgt
                  · have := Nat.mul_le_mul_right sz (show j + 1 ≤ i by omega)
                    rw [Nat.add_mul] at this
                    omega
                  · have := Nat.mul_le_mul_right sz (show i + 1 ≤ j by omega)
                    rw [Nat.add_mul] at this
                    omega)
          refine ⟨arr', ?_, f2, el', f3, f4, f5⟩
          rw [List.map_cons, fill_step (i := j) (off := j * sz) (n := sz) rfl c1 (by omega), e]
          exact f1
        · cases hok
      · cases hc
    · cases hc
end
end Go.Sx
namespace Go.Sx

section
variable {P : Program} {md : Modes} {C : Ctx} {I : Imm} {β : Nat → Option Loc} {st : St} {a : Act} {w : World}

theorem run_part_scalar {t : TypeId} (ht : (∃ k, P.underlying t = some (.int k)) ∨ P.underlying t = some .string ∨ P.underlying t = some .bool) {xs : Array Value} {o : Nat} (ho : o < xs.size) :
    (Go.part t xs o).run P w = .ok (xs.getD o undef) w := by
  have e : xs[o]? = some (xs.getD o undef) := by simp [Array.getD, ho]
  generalize xs.getD o undef = u at e ⊢
  rcases ht with ⟨k, ht⟩ | ht | ht <;> simp [Go.part, isAgg, run_underlying ht, e]

theorem agg_part {cs : List DV} {xs : Array Value} (h : Rep I (.agg cs) (.agg xs)) {o : Nat} (hn : nth cs o ≠ .junk) : o < xs.size ∧ Rep I (nth cs o) (xs.getD o undef) := by
  cases h with
  | agg _ _ h1 h2 h3 =>
    have ho : o < cs.length := by
      rcases Nat.lt_or_ge o cs.length with h | h
      · exact h
      · exact absurd (nth_ge h) hn
    exact ⟨by omega, h3 o ho⟩

theorem boolOf_val {d : DV} {b : Bool} (h : boolOf d = some b) {v : Value} (hr : Rep I d v) : v = .bool b := RepK.inv_bool (β := fun _ => none) (.pure hr) h

theorem eqFs_run {cs ds : List DV} {xs ys : Array Value} (hx : Rep I (.agg cs) (.agg xs)) (hy : Rep I (.agg ds) (.agg ys)) (dd : Nat) :
    ∀ (fs : List Field) (l : List (Nat × Nat)) (b : Bool), cEqF P fs = some l → eqFs (std P) cs ds l = some b → (Op.eqFields (dd + 1) xs ys fs).run P w = .ok b w
  | [], l, b, hl, hb => by
    obtain rfl := Option.some.inj hl
    obtain rfl := Option.some.inj hb
    simp [Op.eqFields]
  | f :: fs, l, b, hl, hb => by
    simp only [cEqF] at hl
    split at hl
    · cases hl
    · rename_i hname
      have hn : f.name ≠ "_" := by simpa using hname
      have go : ∀ (k : Nat) (l' : List (Nat × Nat)), cEqF P fs = some l' → l = (f.offset, k) :: l' → ((∃ k, P.underlying f.type = some (.int k)) ∨ P.underlying f.type = some .string ∨ P.underlying f.type = some .bool) →
          (∀ b, eq1 (std P) k (nth cs f.offset) (nth ds f.offset) = some b → nth cs f.offset ≠ .junk ∧ nth ds f.offset ≠ .junk ∧ ∀ u v, Rep I (nth cs f.offset) u → Rep I (nth ds f.offset) v → (Op.equalIn (dd + 1) f.type u v).run P w = .ok b w) →
          (Op.eqFields (dd + 1) xs ys (f :: fs)).run P w = .ok b w := by
        intro k l' hl' hll hty he
        subst hll
        simp only [eqFs] at hb
        split at hb
        · rename_i b1 c hb1 hc
          obtain rfl := Option.some.inj hb
          obtain ⟨j1, j2, he⟩ := he b1 hb1
          obtain ⟨o1, r1⟩ := agg_part hx j1
          obtain ⟨o2, r2⟩ := agg_part hy j2
          have ih := eqFs_run hx hy dd fs l' c hl' hc
          rw [Op.eqFields]
          simp only [if_pos hn, Sem.run_bind, run_part_scalar hty o1, run_part_scalar hty o2, Result.andThen_ok, he _ _ r1 r2]
          simp only [std]
          cases b1
          · simp
          · simpa using ih
        · cases hb
      split at hl
      · rename_i k l' hu hl'
        refine go 0 l' hl' (Option.some.inj hl).symm (.inl ⟨k, hu⟩) ?_
        intro b hb
        simp only [eq1] at hb
        split at hb
        · rename_i k1 x k2 y h1 h2
          split at hb
          · rename_i hk
            subst hk
            obtain rfl := Option.some.inj hb
            rw [h1, h2]
            refine ⟨by simp, by simp, fun u v hu' hv' => ?_⟩
            cases hu'
            cases hv'
            simp [Op.equalIn, run_underlying hu, std, cmpF]
          · cases hb
        · cases hb
      · rename_i l' hu hl'
        refine go 1 l' hl' (Option.some.inj hl).symm (.inr (.inl hu)) ?_
        intro b hb
        simp only [eq1] at hb
        split at hb
        · rename_i x y h1 h2
          obtain rfl := Option.some.inj hb
          rw [h1, h2]
          refine ⟨by simp, by simp, fun u v hu' hv' => ?_⟩
          cases hu'
          cases hv'
          simp [Op.equalIn, run_underlying hu, std, scmpF, beq_toListBytes]
        · cases hb
      · rename_i l' hu hl'
        refine go 2 l' hl' (Option.some.inj hl).symm (.inr (.inr hu)) ?_
        intro b hb
        simp only [eq1] at hb
        split at hb
        · rename_i x y h1 h2
          obtain rfl := Option.some.inj hb
          refine ⟨fun h => (by rw [h] at h1; cases h1), fun h => (by rw [h] at h2; cases h2), fun u v hu' hv' => ?_⟩
          rw [boolOf_val h1 hu', boolOf_val h2 hv']
          simp [Op.equalIn, run_underlying hu, std]
        · cases hb
      · cases hl

theorem eqGuardType_scalar {t : TypeId} (ht : (∃ k, P.underlying t = some (.int k)) ∨ P.underlying t = some .string ∨ P.underlying t = some .bool) (d : Nat) : P.eqGuardType (d + 1) t = false := by
  rcases ht with ⟨k, ht⟩ | ht | ht <;> simp [Program.eqGuardType, ht]
theorem cEqF_types : ∀ {fs : List Field} {l : List (Nat × Nat)}, cEqF P fs = some l → ∀ f ∈ fs, (∃ k, P.underlying f.type = some (.int k)) ∨ P.underlying f.type = some .string ∨ P.underlying f.type = some .bool
  | [], _, _, f, hf => by cases hf
  | g :: fs, l, h, f, hf => by
    simp only [cEqF] at h
    split at h
    · cases h
    · have tail : ∀ l', cEqF P fs = some l' → f ∈ fs → _ := fun l' hl' hm => cEqF_types hl' f hm
      split at h
      · rename_i k l' hu hl'
        rcases List.mem_cons.1 hf with rfl | hf
        · exact .inl ⟨k, hu⟩
        · exact tail l' hl' hf
      · rename_i l' hu hl'
        rcases List.mem_cons.1 hf with rfl | hf
        · exact .inr (.inl hu)
        · exact tail l' hl' hf
      · rename_i l' hu hl'
        rcases List.mem_cons.1 hf with rfl | hf
        · exact .inr (.inr hu)
        · exact tail l' hl' hf
      · cases h

theorem eqS_good {op : BinOp} {t yt : TypeId} {x y : Operand} {neg : Bool} {fs : Array Field} {l : List (Nat × Nat)} {d e v : DV} {ob : Prop} {o : Oper} (ho : o.op = .binOp op t x y yt) (hop : (op = .eql ∧ neg = false) ∨ (op = .neq ∧ neg = true))
    (hu : P.underlying t = some (.struct fs)) (hl : cEqF P fs.toList = some l) (hst : P.stoodInHeld t = false)
    (hq : eqSV (std P) neg l d e = (ob, v)) (hob : ob) (hx : RepK I β d (a.eval x)) (hy : RepK I β e (a.eval y)) : Good P I β w a o v := by
  unfold eqSV at hq
  split at hq
  · rename_i cs ds
    split at hq
    · rename_i b hb
      obtain ⟨_, rfl⟩ := Prod.mk.inj hq
      have hx' := hx.inv_agg
      have hy' := hy.inv_agg
      have ex : ∃ xs, a.eval x = .agg xs := by generalize a.eval x = p at hx'; cases hx'; exact ⟨_, rfl⟩
      have ey : ∃ ys, a.eval y = .agg ys := by generalize a.eval y = p at hy'; cases hy'; exact ⟨_, rfl⟩
      obtain ⟨xs, ex⟩ := ex
      obtain ⟨ys, ey⟩ := ey
      rw [ex] at hx'
      rw [ey] at hy'
      have hg : P.eqGuardType P.depth t = false := by
        have hd : P.depth = (2 * (P.types.size + Made.depth)) + 1 + 1 := rfl
        rw [hd, Program.eqGuardType, hu]
        simp only [Array.any_eq_false']
        intro f hf
        have := eqGuardType_scalar (P := P) (cEqF_types hl f (by simpa using hf)) (2 * (P.types.size + Made.depth))
        simp [this]
      have hf : P.fieldsOf t = fs := by simp [Program.fieldsOf, hu]
      have heq : (Op.equal t (.agg xs) (.agg ys)).run P w = .ok b w := by
        have h1 := run_equalIn_struct (P := P) w 9999 t xs ys (by rw [hf]; exact hu) hst
        rw [hf] at h1
        have h2 := eqFs_run (P := P) (w := w) hx' hy' 9998 fs.toList l b hl hb
        show (Op.equalIn (9999 + 1) t (.agg xs) (.agg ys)).run P w = .ok b w
        rw [h1]; exact h2
      rcases hop with ⟨rfl, rfl⟩ | ⟨rfl, rfl⟩
      · refine ⟨.bool b, ?_, .pure (.bool b)⟩
        simp [execOp, ho, ex, ey, run_eqGuard_agg w _ t x y xs ys hg, binOp, heq]
      · refine ⟨.bool (!b), ?_, .pure (.bool (!b))⟩
        simp [execOp, ho, ex, ey, run_eqGuard_agg w _ t x y xs ys hg, binOp, heq]
    · exact (no_false hq hob).elim
  · exact (no_false hq hob).elim
end
end Go.Sx
