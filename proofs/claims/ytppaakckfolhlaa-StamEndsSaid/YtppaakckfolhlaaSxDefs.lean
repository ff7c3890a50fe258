import Derived.Calls
import Derived.Orders
/-! Pure data, states and the verification conditions of the model's code. -/
namespace Go.Sx

inductive DV where
  | int (k : IntKind) (n : Int)
  | bool (b : Bool)
  | tt | ff
  | str (s : ByteArray)
  | nilp | nilf | nili | nils
  | lst (sz : Nat) (tight : Bool) (n : Nat) (f : Nat → DV)
  | eptr (sz n : Nat) (f : Nat → DV) (i off : Nat)
  | ref (κ o n : Nat)
  | rptr (κ i off : Nat)
  | agg (cs : List DV)
  | fn (g : FuncId) (fst cap : List DV)
  | tup (ds : List DV)
  | own (sz n : Nat) (f : Nat → DV)
  | obox (sz : Nat) (d : DV)
  | und
  | junk
  deriving Inhabited

inductive Row where
  | box (sz : Nat) (d : DV)
  | arr (sz n : Nat) (f : Nat → DV)

def Row.sz : Row → Nat | .box s _ => s | .arr s _ _ => s
def Row.n : Row → Nat | .box _ _ => 1 | .arr _ n _ => n
def Row.f : Row → Nat → DV | .box _ d => fun _ => d | .arr _ _ f => f

abbrev Store := List (Nat × Row)

structure St where
  T : List DV
  σ : Store

inductive Ex where
  | normal
  | exit (id : Nat)
  | ret

/-- What cbv is not to look into: the names of the leaves. -/
inductive Lf : Type → Type where
  | arith : Lf (BinOp → IntKind → Int → Int → Int)
  | cmp : Lf (BinOp → Int → Int → Bool)
  | wrap : Lf (IntKind → Int → Int)
  | un : Lf (UnOp → IntKind → Int → Int)
  | beq : Lf (Bool → Bool → Bool)
  | bnot : Lf (Bool → Bool)
  | band : Lf (Bool → Bool → Bool)
  | scmp : Lf (BinOp → ByteArray → ByteArray → Bool)
  | scat : Lf (ByteArray → ByteArray → ByteArray)
  | ssize : Lf (ByteArray → Nat)
  | byte : Lf (ByteArray → Nat → Int)
  | sub : Lf (ByteArray → Nat → Nat → ByteArray)
  | mkStr : Lf (Nat → (Nat → DV) → ByteArray)
  | imax : Lf (Int → Int → Int)
  | imin : Lf (Int → Int → Int)
  | toNat : Lf (Int → Nat)
  | ofNat : Lf (Nat → Int)
  | nadd : Lf (Nat → Nat → Nat)
  | nsub : Lf (Nat → Nat → Nat)
  | nmin : Lf (Nat → Nat → Nat)
  | neqb : Lf (Nat → Nat → Bool)
  | appF : Lf (Nat → (Nat → DV) → (Nat → DV) → Nat → DV)
  | setF : Lf ((Nat → DV) → Nat → Nat → List DV → Nat → DV)
  | cpyF : Lf (Nat → Nat → (Nat → DV) → (Nat → DV) → Nat → DV)
  | clrF : Lf (Nat → Nat → DV → (Nat → DV) → Nat → DV)
  | inb : Lf (Int → Nat → Prop)
  | okOp : Lf (BinOp → Int → Prop)
  | okCat : Lf (ByteArray → ByteArray → Prop)
  | rng : Lf (Nat → Nat → Nat → Prop)
  | okI : Lf (Int → Prop)
  | room : Lf (Nat → Nat → Prop)
  | isT : Lf (Bool → Prop)
  | okApp : Lf (Nat → Nat → Prop)
  | mkOk : Lf (Int → Int → Nat → Prop)
  | bytes : Lf (Nat → (Nat → DV) → Prop)
  | br : Lf (Bool → (Unit → Prop) → (Unit → Prop) → Prop)
  | join : Lf ((St → Prop) → St → Prop)
  | call : Lf (FuncId → List DV → Nat → St → (DV → St → Prop) → Prop)
  | lend : Lf (FuncId → List DV → Nat → St → (DV → St → Prop) → Prop)
  | refs : Lf (FuncId → List DV → Nat → St → (DV → St → Prop) → Prop)
/-- The leaves themselves. -/
abbrev Leafs := {α : Type} → Lf α → α

/-! lists -/
def nth : List DV → Nat → DV
  | [], _ => .junk
  | d :: _, 0 => d
  | _ :: r, n + 1 => nth r n
def setN : List DV → Nat → DV → List DV
  | [], _, _ => []
  | _ :: r, 0, v => v :: r
  | d :: r, n + 1, v => d :: setN r n v
def dropN : List DV → Nat → List DV
  | l, 0 => l
  | [], _ => []
  | _ :: r, n + 1 => dropN r n
def takeN : List DV → Nat → List DV
  | _, 0 => []
  | [], _ => []
  | d :: r, n + 1 => d :: takeN r n
def cat : List DV → List DV → List DV
  | [], m => m
  | d :: l, m => d :: cat l m
def len : List DV → Nat
  | [] => 0
  | _ :: l => len l + 1
def look : Store → Nat → Option Row
  | [], _ => none
  | (k, r) :: s, κ => if k = κ then some r else look s κ
def ins : Store → Nat → Row → Store
  | [], κ, r => [(κ, r)]
  | (k, q) :: s, κ, r => if κ < k then (κ, r) :: (k, q) :: s else (k, q) :: ins s κ r
def del : Store → Nat → Store
  | [], _ => []
  | (k, q) :: s, κ => if k = κ then del s κ else (k, q) :: del s κ
def upd : Store → Nat → Row → Store
  | [], _, _ => []
  | (k, q) :: s, κ, r => if k = κ then (k, r) :: upd s κ r else (k, q) :: upd s κ r
def mem : List Nat → Nat → Bool
  | [], _ => false
  | k :: l, κ => if k = κ then true else mem l κ

def cells : DV → List DV
  | .agg cs => cs
  | d => [d]

mutual
def keysOf : DV → List Nat
  | .ref κ _ _ => [κ]
  | .rptr κ _ _ => [κ]
  | .agg cs => keysOfL cs
  | .tup cs => keysOfL cs
  | .fn _ a b => keysOfL a ++ keysOfL b
  | _ => []
def keysOfL : List DV → List Nat
  | [] => []
  | d :: l => keysOf d ++ keysOfL l
end

def shift (o : Nat) (f : Nat → DV) : Nat → DV :=
  match o with
  | 0 => f
  | k + 1 => fun i => f (k + 1 + i)

def isCell : DV → Bool
  | .int _ _ | .bool _ | .tt | .ff | .str _ | .nilp | .nilf | .nili | .nils | .lst _ _ _ _ | .eptr _ _ _ _ _ | .fn _ _ _ => true
  | _ => false
def allCell : List DV → Bool
  | [] => true
  | d :: l => if isCell d then allCell l else false

mutual
/-- Data that stays: no row of the call's own is in it. -/
def pureB : DV → Bool
  | .ref _ _ _ | .rptr _ _ _ | .tup _ | .own _ _ _ | .obox _ _ | .junk => false
  | .agg cs => pureL cs
  | .fn _ a b => if pureL a then pureL b else false
  | _ => true
def pureL : List DV → Bool
  | [] => true
  | d :: l => if pureB d then pureL l else false
end
/-- Data that fills so many cells. -/
def okCells (size : Nat) (d : DV) : Bool :=
  if len (cells d) = size then (if allCell (cells d) then pureB d else false) else false

/-- The keys of ks are seen as data that stays. -/
def viewRef (lim : Nat) (ks : List Nat) (σ : Store) (κ o n : Nat) : DV :=
  if mem ks κ then (if κ < lim then (match look σ κ with | some r => .lst r.sz false n (shift o r.f) | none => .junk) else .junk) else .ref κ o n
def viewPtr (lim : Nat) (ks : List Nat) (σ : Store) (κ i off : Nat) : DV :=
  if mem ks κ then (if κ < lim then (match look σ κ with | some r => .eptr r.sz r.n r.f i off | none => .junk) else .junk) else .rptr κ i off
mutual
def view (lim : Nat) (ks : List Nat) (σ : Store) : DV → DV
  | .ref κ o n => viewRef lim ks σ κ o n
  | .rptr κ i off => viewPtr lim ks σ κ i off
  | .agg cs => .agg (viewL lim ks σ cs)
  | .tup cs => .tup (viewL lim ks σ cs)
  | .fn g a b => .fn g (viewL lim ks σ a) (viewL lim ks σ b)
  | d => d
def viewL (lim : Nat) (ks : List Nat) (σ : Store) : List DV → List DV
  | [] => []
  | d :: l => view lim ks σ d :: viewL lim ks σ l
end

def delL : Store → List Nat → Store
  | s, [] => s
  | s, k :: l => delL (del s k) l

def St.freeze (st : St) : List Nat → St
  | [] => st
  | k :: ks => ⟨viewL 100000 (k :: ks) st.σ st.T, delL st.σ (k :: ks)⟩

def subset (l : List Nat) (m : List Nat) : Bool :=
  match l with
  | [] => true
  | k :: l => if mem m k then subset l m else false

def killL (κ : Nat) : List DV → List DV
  | [] => []
  | d :: l => (if mem (keysOf d) κ then .junk else d) :: killL κ l

def keepT (live keys : List Nat) : Nat → List DV → List DV
  | _, [] => []
  | i, d :: l => (if mem live i then (if subset (keysOf d) keys then d else .junk) else .junk) :: keepT live keys (i + 1) l
def keepS (keys : List Nat) : Store → Store
  | [] => []
  | (k, r) :: s => if mem keys k then (k, r) :: keepS keys s else keepS keys s
/-- What a loop's head knows: the live places, and the rows of these keys. -/
def St.restr (live keys : List Nat) (st : St) : St := ⟨keepT live keys 0 st.T, keepS keys st.σ⟩

/-- A slice that is nil, seen as an empty row. -/
def St.nilrow (st : St) (t κ sz : Nat) (f : Nat → DV) : St :=
  match nth st.T t with
  | .nils => if κ < 100000 then (if 0 < sz then (match look st.σ κ with | some _ => st | none => ⟨setN st.T t (.ref κ 0 0), ins st.σ κ (.arr sz 0 f)⟩) else st) else st
  | _ => st
def St.nilrows (st : St) : List (Nat × Nat × Nat × (Nat → DV)) → St
  | [] => st
  | (t, κ, sz, f) :: l => (st.nilrow t κ sz f).nilrows l

def St.put (st : St) (dst : Option Nat) (d : DV) : St :=
  match dst with
  | none => st
  | some t => ⟨setN st.T t d, st.σ⟩

/-! constants -/
def cdv0 : Value → DV
  | .int k n => .int k n
  | .bool true => .tt
  | .bool false => .ff
  | .string s => .str s
  | .pointer none => .nilp
  | .slice none 0 0 => .nils
  | .nilFunc => .nilf
  | .nilIface => .nili
  | _ => .junk
def cdvL : List Value → List DV
  | [] => []
  | v :: l => cdv0 v :: cdvL l
def cCon (v : Value) : Option DV :=
  match v with
  | .agg cs => if allCell (cdvL cs.toList) = true then some (.agg (cdvL cs.toList)) else none
  | .tuple cs => if cs.size = 0 then some .und else none
  | v => if isCell (cdv0 v) = true then some (cdv0 v) else none

/-! ### The code, its types resolved -/
inductive Arg where
  | tmp (t : Nat)
  | con (d : DV)
  deriving Inhabited

inductive ROp where
  | move (x : Arg)
  | pick (c a b : Arg)
  | load (agg : Bool) (size : Nat) (a : Arg)
  | nilCheck (x : Arg)
  | binOp (cls : Nat) (op : BinOp) (x y : Arg)
  | eqS (neg : Bool) (fs : List (Nat × Nat)) (x y : Arg)
  | buildQ (zero : List DV) (parts : List (Nat × Nat × Arg))
  | unOp (op : UnOp) (x : Arg)
  | convI (k : IntKind) (x : Arg)
  | convS (x : Arg)
  | toStr (x : Arg)
  | toBytes (x : Arg)
  | slice (esize : Nat) (x : Arg) (lo hi mx : Option Arg)
  | fieldAddr (off : Nat) (x : Arg)
  | field (agg : Bool) (size off : Nat) (x : Arg)
  | indexAddr (esize : Nat) (x i : Arg)
  | index (x i : Arg)
  | extract (x : Arg) (j : Nat)
  | makeFunc (g : FuncId) (a b : List Arg)
  | len (s : Bool) (x : Arg)
  | max (xs : List Arg)
  | min (xs : List Arg)
  | alloc (size : Nat) (zero : DV)
  | box (size : Nat) (x : Arg)
  | build (zero : List DV) (parts : List (Nat × Nat × Arg))
  | buildSlice (esize : Nat) (ezero : DV) (n : Nat) (parts : List (Nat × Arg))
  | store (size : Nat) (a x : Arg)
  | makeSlice (esize ebytes : Nat) (ezero : DV) (l c : Arg)
  | call (f : Arg) (xs : List Arg)
  | lend (f : Arg) (xs : List Arg)
  | refs (f : Arg) (xs : List Arg)
  | append (esize ebytes : Nat) (s x : Arg)
  | copy (esize : Nat) (s x : Arg)
  | clear (esize : Nat) (ezero : DV) (s : Arg)
  | bad
  deriving Inhabited

structure ROper where
  dst : Option Nat
  op : ROp
  guard : Option (Nat × Bool)
  strict : Bool
  deriving Inhabited

inductive RCode where
  | skip
  | region (ops : List ROper)
  | seq (a b : RCode)
  | seqJ (a b : RCode)
  | cond (c : Arg) (a b : RCode)
  | block (id : Nat) (a : RCode)
  | loop (a : RCode)
  | exit (id : Nat)
  | ret
  | bad
  deriving Inhabited

def ev (st : St) : Arg → DV
  | .tmp t => nth st.T t
  | .con d => d
def evL (st : St) : List Arg → List DV
  | [] => []
  | x :: l => ev st x :: evL st l

/-- What a load finds in an element, from a cell on. -/
def part (agg : Bool) (size : Nat) (d : DV) (off : Nat) : DV :=
  match agg with
  | true => .agg (takeN (dropN (cells d) off) size)
  | false => nth (cells d) off
/-- Cells, with some of them turned. -/
def over : List DV → Nat → List DV → List DV
  | [], _, _ => []
  | d :: r, 0, vs => (match vs with | [] => d :: r | v :: vs => v :: over r 0 vs)
  | d :: r, o + 1, vs => d :: over r o vs
def setCells (d : DV) (off : Nat) (vs : List DV) : DV :=
  match d with
  | .agg cs => .agg (over cs off vs)
  | _ => nth vs 0

abbrev QV := Prop × DV
def no : QV := (False, .junk)

def boolOf : DV → Option Bool
  | .bool b => some b
  | .tt => some true
  | .ff => some false
  | _ => none

def boolBin (L : Leafs) (op : BinOp) (a b : Bool) : QV :=
  match op with
  | .eql => (True, .bool (L .beq a b))
  | .neq => (True, .bool (L .bnot (L .beq a b)))
  | _ => no
def okBin (L : Leafs) (op : BinOp) : DV → DV → QV
  | .int k a, .int k' b =>
    match op with
    | .shl | .shr => (L .okOp op b, .int k (L .arith op k a b))
    | .quo | .rem => if k = k' then (L .okOp op b, .int k (L .arith op k a b)) else no
    | .add | .sub | .mul | .and | .or | .xor | .andNot => if k = k' then (True, .int k (L .arith op k a b)) else no
    | _ => if k = k' then (True, .bool (L .cmp op a b)) else no
  | .str a, .str b => match op with
    | .add => (L .okCat a b, .str (L .scat a b))
    | .eql | .neq | .lss | .leq | .gtr | .geq => (True, .bool (L .scmp op a b))
    | _ => no
  | _, _ => no

def nilEq : DV → DV → Option DV
  | .nilp, .nilp => some .tt
  | .nilp, .rptr .. | .rptr .., .nilp | .nilp, .eptr .. | .eptr .., .nilp => some .ff
  | _, _ => none
def notD (L : Leafs) : DV → DV
  | .tt => .ff
  | .ff => .tt
  | .bool b => .bool (L .bnot b)
  | _ => .junk
def nilBin (L : Leafs) (op : BinOp) (r : DV) : QV :=
  match op with
  | .eql => (True, r)
  | .neq => (True, notD L r)
  | _ => no
/-- cls: 0: whole numbers, strings; 1: bools; 2: pointers against nil. -/
def binV (L : Leafs) (cls : Nat) (op : BinOp) (x y : DV) : QV :=
  match cls with
  | 0 => okBin L op x y
  | 1 => (match boolOf x, boolOf y with
    | some a, some b => boolBin L op a b
    | _, _ => no)
  | _ => (match nilEq x y with
    | some r => nilBin L op r
    | none => no)

def unV (L : Leafs) (op : UnOp) : DV → QV
  | .int k n => (match op with | .neg | .xor => (True, .int k (L .un op k n)) | _ => no)
  | d => (match op, boolOf d with | .not, some _ => (True, notD L d) | _, _ => no)

/-- A bound of a slice expression. -/
def bnd (L : Leafs) (st : St) : Option Arg → Prop × Option Nat
  | none => (True, none)
  | some x => match ev st x with | .int _ n => (L .okI n, some (L .toNat n)) | _ => (False, none)
def orN (o : Option Nat) (d : Nat) : Nat := match o with | some n => n | none => d

def tightV (L : Leafs) (t : Bool) (h m : Option Nat) (h2 : Nat) : Bool :=
  match m with
  | some m => L .neqb m h2
  | none => (match h with | none => t | some _ => false)
def topV (L : Leafs) (h2 n : Nat) : Option Nat → Prop
  | some m => L .rng h2 m n
  | none => True
def lstV (L : Leafs) (sz : Nat) (t : Bool) (n : Nat) (f : Nat → DV) (l h m : Option Nat) : QV :=
  match l with
  | none => (L .rng 0 (orN h n) n ∧ topV L (orN h n) n m, .lst sz (tightV L t h m (orN h n)) (orN h n) f)
  | some l2 => (L .rng l2 (orN h n) n ∧ topV L (orN h n) n m, .lst sz (tightV L t h m (orN h n)) (L .nsub (orN h n) l2) (fun i => f (L .nadd l2 i)))
def refV (L : Leafs) (κ o n : Nat) (l h m : Option Nat) : QV :=
  match l with
  | none => (L .rng 0 (orN h n) n ∧ topV L (orN h n) n m, .ref κ o (orN h n))
  | some l2 => (L .rng l2 (orN h n) n ∧ topV L (orN h n) n m, .ref κ (L .nadd o l2) (L .nsub (orN h n) l2))
def sliceB (L : Leafs) (st : St) (esize : Nat) (x : DV) (l h m : Option Nat) : QV :=
  match x with
  | .str s => (match m with
    | some _ => no
    | none => if esize = 0 then (L .rng (orN l 0) (orN h (L .ssize s)) (L .ssize s), .str (L .sub s (orN l 0) (orN h (L .ssize s)))) else no)
  | .lst sz t n f => if sz = esize then lstV L sz t n f l h m else no
  | .nils => if esize = 0 then no else (L .rng (orN l 0) (orN h 0) 0 ∧ L .rng (orN h 0) (orN m 0) 0, .nils)
  | .ref κ o n => (match look st.σ κ with
    | some r => if r.sz = esize then refV L κ o n l h m else no
    | none => no)
  | _ => no
def sliceV (L : Leafs) (st : St) (esize : Nat) (x : DV) (lo hi mx : Option Arg) : QV :=
  match bnd L st lo, bnd L st hi, bnd L st mx with
  | (pl, l), (ph, h), (pm, m) => match sliceB L st esize x l h m with
    | (p, v) => (pl ∧ ph ∧ pm ∧ p, v)

def lenV (L : Leafs) (s : Bool) (x : DV) : QV :=
  match s with
  | true => (match x with
    | .str s => (True, .int .i64 (L .ofNat (L .ssize s)))
    | _ => no)
  | false => (match x with
    | .lst _ _ n _ => (True, .int .i64 (L .ofNat n))
    | .ref _ _ n => (True, .int .i64 (L .ofNat n))
    | .nils => (True, .int .i64 0)
    | _ => no)

def mmV (k : IntKind) (f : Int → Int → Int) : Int → List DV → QV
  | a, [] => (True, .int k a)
  | a, .int k' b :: r => if k = k' then mmV k f (f a b) r else no
  | _, _ => no
def mmV0 (f : Int → Int → Int) : List DV → QV
  | .int k a :: r => mmV k f a r
  | _ => no

/-- Contents of a slice or a string. -/
def cont (L : Leafs) (st : St) (esize : Nat) : DV → Option (Nat × (Nat → DV))
  | .lst sz _ n f => if sz = esize then some (n, f) else none
  | .nils => some (0, fun _ => .junk)
  | .ref κ o n => (match look st.σ κ with | some r => if r.sz = esize then some (n, shift o r.f) else none | none => none)
  | .str s => if 1 = esize then some (L .ssize s, fun i => .int .u8 (L .byte s i)) else none
  | _ => none

def loadE (agg : Bool) (size off : Nat) (d : DV) : QV :=
  if off + size ≤ len (cells d) then (True, part agg size d off) else no
def loadV (agg : Bool) (size : Nat) (st : St) : DV → QV
  | .rptr κ i off => (match look st.σ κ with | some r => loadE agg size off (r.f i) | none => no)
  | .eptr _ _ f i off => loadE agg size off (f i)
  | _ => no
def nilV : DV → QV
  | .rptr κ i off => (True, .rptr κ i off)
  | .eptr s n f i off => (True, .eptr s n f i off)
  | .fn g a b => (True, .fn g a b)
  | _ => no
def fieldAddrV (o : Nat) : DV → QV
  | .rptr κ i off => (True, .rptr κ i (off + o))
  | .eptr sz n g i off => (True, .eptr sz n g i (off + o))
  | _ => no
def addN (L : Leafs) (o j : Nat) : Nat :=
  match o with
  | 0 => j
  | o + 1 => L .nadd (o + 1) j
def indexAddrV (L : Leafs) (st : St) (esize : Nat) (x i : DV) : QV :=
  match x, i with
  | .lst sz _ n f, .int _ j => if sz = esize then (L .inb j n, .eptr sz n f (L .toNat j) 0) else no
  | .ref κ o n, .int _ j => (match look st.σ κ with
    | some r => if r.sz = esize then (L .inb j n, .rptr κ (addN L o (L .toNat j)) 0) else no
    | none => no)
  | _, _ => no
def indexV (L : Leafs) (x i : DV) : QV :=
  match x, i with
  | .str s, .int _ j => (L .inb j (L .ssize s), .int .u8 (L .byte s (L .toNat j)))
  | _, _ => no
def toStrV (L : Leafs) (st : St) (x : DV) : QV :=
  match x with
  | .str _ => no
  | x => match cont L st 1 x with
    | some (n, f) => (L .bytes n f, .str (L .mkStr n f))
    | none => no

def fillP (st : St) : List (Nat × Nat × Arg) → List DV → Option (List DV)
  | [], cs => some cs
  | (off, sz, x) :: r, cs => if okCells sz (ev st x) then (if off + sz ≤ len cs then fillP st r (over cs off (cells (ev st x))) else none) else none

/-- Structs of plain fields, compared. 0: whole numbers; 1: strings; 2: bools. -/
def eq1 (L : Leafs) (k : Nat) (d e : DV) : Option Bool :=
  match k with
  | 0 => (match d, e with | .int k a, .int k' b => if k = k' then some (L .cmp .eql a b) else none | _, _ => none)
  | 1 => (match d, e with | .str a, .str b => some (L .scmp .eql a b) | _, _ => none)
  | _ => (match boolOf d, boolOf e with | some a, some b => some (L .beq a b) | _, _ => none)
def eqFs (L : Leafs) (cs ds : List DV) : List (Nat × Nat) → Option Bool
  | [] => some true
  | (o, k) :: r => match eq1 L k (nth cs o) (nth ds o), eqFs L cs ds r with
    | some b, some c => some (L .band b c)
    | _, _ => none
def eqSV (L : Leafs) (neg : Bool) (fs : List (Nat × Nat)) (x y : DV) : QV :=
  match x, y with
  | .agg cs, .agg ds => (match eqFs L cs ds fs with
    | some b => (True, .bool (match neg with | true => L .bnot b | false => b))
    | none => no)
  | _, _ => no

/-- The quiet operations: what they ask, and what they give; the store stays. -/
def quietV (L : Leafs) (st : St) : ROp → Option QV
  | .move x => some (True, ev st x)
  | .load agg size a => some (loadV agg size st (ev st a))
  | .nilCheck x => some (nilV (ev st x))
  | .binOp c op x y => some (binV L c op (ev st x) (ev st y))
  | .eqS neg fs x y => some (eqSV L neg fs (ev st x) (ev st y))
  | .buildQ zero ps => some (match fillP st ps zero with | some cs => (True, .agg cs) | none => no)
  | .unOp op x => some (unV L op (ev st x))
  | .convI k x => some (match ev st x with | .int _ n => (True, .int k (L .wrap k n)) | _ => no)
  | .convS x => some (match ev st x with | .str s => (True, .str s) | _ => no)
  | .toStr x => some (toStrV L st (ev st x))
  | .slice es x lo hi mx => some (sliceV L st es (ev st x) lo hi mx)
  | .fieldAddr o x => some (fieldAddrV o (ev st x))
  | .field agg size off x => some (match ev st x with | .agg cs => loadE agg size off (.agg cs) | _ => no)
  | .indexAddr es x i => some (indexAddrV L st es (ev st x) (ev st i))
  | .index x i => some (indexV L (ev st x) (ev st i))
  | .extract x j => some (match ev st x with | .tup ds => if j < len ds then (True, nth ds j) else no | _ => no)
  | .makeFunc g a b => some (True, .fn g (evL st a) (evL st b))
  | .len s x => some (lenV L s (ev st x))
  | .max xs => some (mmV0 (L .imax) (evL st xs))
  | .min xs => some (mmV0 (L .imin) (evL st xs))
  | _ => none

def addRow (st : St) (κ : Nat) (r : Row) (K : St → Prop) : Prop :=
  if κ < 100000 then
    match look st.σ κ with
    | some _ => False
    | none => K ⟨st.T, ins st.σ κ r⟩
  else False

def bindL (κ : Nat) : Nat → List DV → St → (List DV → St → Prop) → Prop
  | _, [], st, K => K [] st
  | j, d :: l, st, K => match d with
    | .own sz n f => addRow st (κ + 1000 * j) (.arr sz n f) fun st => bindL κ (j + 1) l st fun ds st => K (.ref (κ + 1000 * j) 0 n :: ds) st
    | .obox sz d => addRow st (κ + 1000 * j) (.box sz d) fun st => bindL κ (j + 1) l st fun ds st => K (.rptr (κ + 1000 * j) 0 0 :: ds) st
    | d => bindL κ (j + 1) l st fun ds st => K (d :: ds) st
/-- A call's result, as the caller has it. -/
def bindR (κ : Nat) (d : DV) (st : St) (K : DV → St → Prop) : Prop :=
  match d with
  | .own sz n f => addRow st κ (.arr sz n f) fun st => K (.ref κ 0 n) st
  | .obox sz d => addRow st κ (.box sz d) fun st => K (.rptr κ 0 0) st
  | .tup ds => bindL κ 1 ds st fun ds st => K (.tup ds) st
  | d => K d st

def partsOk (sz : Nat) (st : St) : List (Nat × Arg) → Bool
  | [] => true
  | (_, x) :: r => if okCells sz (ev st x) then partsOk sz st r else false
def partKeys (st : St) : List (Nat × Arg) → List Nat
  | [] => []
  | (_, x) :: r => keysOf (ev st x) ++ partKeys st r
def partKeys3 (st : St) : List (Nat × Nat × Arg) → List Nat
  | [] => []
  | (_, _, x) :: r => keysOf (ev st x) ++ partKeys3 st r
def elemD (st : St) (i : Nat) : DV → List (Nat × Arg) → DV
  | d, [] => d
  | d, (j, x) :: r => elemD st i (if j = i then ev st x else d) r
def elemsL (zero : DV) (st : St) (ps : List (Nat × Arg)) : Nat → Nat → List DV
  | 0, _ => []
  | n + 1, i => elemD st i zero ps :: elemsL zero st ps n (i + 1)
/-- The elements of a slice's literal. -/
def elemsF : List DV → Nat → DV
  | [d] => fun _ => d
  | l => nth l
def elems (zero : DV) (st : St) (n : Nat) (ps : List (Nat × Arg)) : Nat → DV := elemsF (elemsL zero st ps n 0)

def appendV (L : Leafs) (esize ebytes : Nat) (κ : Nat) (s x : DV) (st : St) (K : DV → St → Prop) : Prop :=
  match cont L st esize x with
  | none => False
  | some (m, g) => match s with
    | .nils => L .room m ebytes ∧ addRow st κ (.arr esize m g) fun st => K (.ref κ 0 m) st
    | .lst sz t n f => sz = esize ∧ L .isT t ∧ L .okApp n m ∧ L .room (L .nadd n m) ebytes ∧ addRow st κ (.arr esize (L .nadd n m) (L .appF n f g)) fun st => K (.ref κ 0 (L .nadd n m)) st
    | .ref k o n => (match look st.σ k with
      | some (.arr sz _ f) => sz = esize ∧ k < 100000 ∧ L .room (L .nadd n m) ebytes ∧
        addRow ⟨killL k st.T, del st.σ k⟩ κ (.arr esize (L .nadd n m) (L .appF n (shift o f) g)) fun st => K (.ref κ 0 (L .nadd n m)) st
      | _ => False)
    | _ => False

def storeV (L : Leafs) (st : St) (a : DV) (size : Nat) (vs : List DV) (K : DV → St → Prop) : Prop :=
  match a with
  | .rptr k i off => (match look st.σ k with
    | some (.box sz d) => if off + size ≤ sz then K .und ⟨st.T, upd st.σ k (.box sz (setCells d off vs))⟩ else False
    | some (.arr sz n f) => if off + size ≤ sz then K .und ⟨st.T, upd st.σ k (.arr sz n (L .setF f i off vs))⟩ else False
    | none => False)
  | _ => False

def toBytesV (L : Leafs) (κ : Nat) (st : St) (x : DV) (K : DV → St → Prop) : Prop :=
  match x with
  | .str s => addRow st κ (.arr 1 (L .ssize s) (fun i => .int .u8 (L .byte s i))) fun st => K (.ref κ 0 (L .ssize s)) st
  | _ => False
def makeV (L : Leafs) (esize ebytes : Nat) (ezero : DV) (κ : Nat) (st : St) (l c : DV) (K : DV → St → Prop) : Prop :=
  match l, c with
  | .int _ ln, .int _ cn => L .mkOk ln cn ebytes ∧ addRow st κ (.arr esize (L .toNat ln) (fun _ => ezero)) fun st => K (.ref κ 0 (L .toNat ln)) st
  | _, _ => False
def copyV (L : Leafs) (st : St) (esize : Nat) (s x : DV) (K : DV → St → Prop) : Prop :=
  match s, cont L st esize x with
  | .ref k o n, some (m, g) => (match look st.σ k with
    | some (.arr sz n0 f) => sz = esize ∧ K (.int .i64 (L .ofNat (L .nmin m n))) ⟨st.T, upd st.σ k (.arr sz n0 (L .cpyF o (L .nmin m n) g f))⟩
    | _ => False)
  | _, _ => False
def clearV (L : Leafs) (esize : Nat) (ezero : DV) (st : St) (s : DV) (K : DV → St → Prop) : Prop :=
  match s with
  | .ref k o n => (match look st.σ k with
    | some (.arr sz n0 f) => sz = esize ∧ K .und ⟨st.T, upd st.σ k (.arr sz n0 (L .clrF o n ezero f))⟩
    | _ => False)
  | _ => False

/-- The other operations. -/
def loudV (L : Leafs) (κ : Nat) (op : ROp) (st : St) (K : DV → St → Prop) : Prop :=
  match op with
  | .alloc size zero => addRow st κ (.box size zero) fun st => K (.rptr κ 0 0) st
  | .box size x =>
    let st1 := st.freeze (keysOf (ev st x))
    if okCells size (ev st1 x) then addRow st1 κ (.box size (ev st1 x)) fun st => K (.rptr κ 0 0) st else False
  | .build zero parts =>
    let st1 := st.freeze (partKeys3 st parts)
    match fillP st1 parts zero with
      | some cs => K (.agg cs) st1
      | none => False
  | .buildSlice esize ezero n parts =>
    let st1 := st.freeze (partKeys st parts)
    if partsOk esize st1 parts then
        addRow st1 κ (.arr esize n (elems ezero st1 n parts)) fun st => K (.ref κ 0 n) st else False
  | .store size a x =>
    let st1 := st.freeze (keysOf (ev st x))
    if okCells size (ev st1 x) then storeV L st1 (ev st1 a) size (cells (ev st1 x)) K else False
  | .makeSlice esize ebytes ezero l c => makeV L esize ebytes ezero κ st (ev st l) (ev st c) K
  | .pick c a b => match ev st c with
    | .tt => K (ev st a) st
    | .ff => K (ev st b) st
    | .bool t => L .br t (fun _ => K (ev st a) st) (fun _ => K (ev st b) st)
    | _ => False
  | .call f xs => match ev st f with
      | .fn g a b =>
        let ds := cat a (cat (evL st xs) b)
        L .call g (viewL 100000 (keysOfL ds) st.σ ds) κ (st.freeze (keysOfL ds)) K
      | _ => False
  | .lend f xs => match ev st f with
      | .fn g a b =>
        let ds := cat a (cat (evL st xs) b)
        L .lend g (viewL 1000000000 (keysOfL ds) st.σ ds) κ st K
      | _ => False
  | .refs f xs => match ev st f with
      | .fn g a b => L .refs g (cat a (cat (evL st xs) b)) κ st K
      | _ => False
  | .append esize ebytes s x => appendV L esize ebytes κ (ev st s) (ev st x) st K
  | .clear es ezero s => clearV L es ezero st (ev st s) K
  | _ => False

/-- One operation. -/
def stepV0 (L : Leafs) (o : ROper) (st : St) (K : St → Prop) : Prop :=
  match quietV L st o.op with
  | some (ob, v) => ob ∧ K (st.put o.dst v)
  | none => loudV L (match o.dst with | some t => t | none => 999) o.op st fun d st => K (st.put o.dst d)

/-! what an operation looks at -/
def argR : Arg → List Nat
  | .tmp t => [t]
  | .con _ => []
def argsR : List Arg → List Nat
  | [] => []
  | x :: l => argR x ++ argsR l
def optR : Option Arg → List Nat
  | none => []
  | some x => argR x
def partsR3 : List (Nat × Nat × Arg) → List Nat
  | [] => []
  | (_, _, x) :: l => argR x ++ partsR3 l
def partsR : List (Nat × Arg) → List Nat
  | [] => []
  | (_, x) :: l => argR x ++ partsR l
def opR : ROp → List Nat
  | .move x | .nilCheck x | .unOp _ x | .convI _ x | .convS x | .toStr x | .toBytes x | .fieldAddr _ x | .extract x _ | .len _ x | .load _ _ x | .field _ _ _ x | .box _ x => argR x
  | .binOp _ _ x y | .eqS _ _ x y | .indexAddr _ x y | .index x y | .store _ x y | .makeSlice _ _ _ x y | .append _ _ x y | .copy _ x y => argR x ++ argR y
  | .pick c x y => argR c ++ (argR x ++ argR y)
  | .slice _ x l h m => argR x ++ (optR l ++ (optR h ++ optR m))
  | .makeFunc _ a b => argsR a ++ argsR b
  | .max xs | .min xs => argsR xs
  | .call f xs | .lend f xs | .refs f xs => argR f ++ argsR xs
  | .clear _ _ x => argR x
  | .build _ ps => partsR3 ps
  | .buildQ _ ps => partsR3 ps
  | .buildSlice _ _ _ ps => partsR ps
  | .alloc _ _ | .bad => []
def partsA : List (Nat × Nat × Arg) → List Arg
  | [] => []
  | (_, _, x) :: l => x :: partsA l
def optA : Option Arg → List Arg
  | none => []
  | some x => [x]
def opArgs : ROp → List Arg
  | .move x | .nilCheck x | .unOp _ x | .convI _ x | .convS x | .toStr x | .fieldAddr _ x | .extract x _ | .len _ x | .load _ _ x | .field _ _ _ x => [x]
  | .binOp _ _ x y | .eqS _ _ x y | .indexAddr _ x y | .index x y => [x, y]
  | .buildQ _ ps => partsA ps
  | .slice _ x l h m => x :: (optA l ++ (optA h ++ optA m))
  | .makeFunc _ a b => a ++ b
  | .max xs | .min xs => xs
  | _ => []
/-- One operation; a strict one asks that no row is in what it looks at, nor in what it gives. -/
def stepV (L : Leafs) (o : ROper) (st : St) (K : St → Prop) : Prop :=
  match o.strict with
  | false => stepV0 L o st K
  | true => match quietV L st o.op with
    | some (ob, v) => keysOfL (evL st (opArgs o.op)) = [] ∧ keysOf v = [] ∧ ob ∧ K (st.put o.dst v)
    | none => False

def stepG (L : Leafs) (o : ROper) (st : St) (K : St → Prop) : Prop :=
  match o.guard with
  | none => stepV L o st K
  | some (t, want) => match nth st.T t with
      | .tt => (match want with | true => stepV L o st K | false => K (st.put o.dst .und))
      | .ff => (match want with | true => K (st.put o.dst .und) | false => stepV L o st K)
      | .bool b => (match want with
        | true => L .br b (fun _ => stepV L o ⟨setN st.T t .tt, st.σ⟩ K) (fun _ => K (St.put ⟨setN st.T t .ff, st.σ⟩ o.dst .und))
        | false => L .br b (fun _ => K (St.put ⟨setN st.T t .tt, st.σ⟩ o.dst .und)) (fun _ => stepV L o ⟨setN st.T t .ff, st.σ⟩ K))
      | .und => K (st.put o.dst .und)
      | _ => False

def runV (L : Leafs) : List ROper → St → (St → Prop) → Prop
  | [], st, K => K st
  | o :: r, st, K => stepG L o st fun st => runV L r st K

def seqK (K : St → Prop) (Q : Ex → St → Prop) : Ex → St → Prop
  | .normal, st => K st
  | .exit j, st => Q (.exit j) st
  | .ret, st => Q .ret st
def blockK (id : Nat) (Q : Ex → St → Prop) : Ex → St → Prop
  | .exit j, st => if j = id then Q .normal st else Q (.exit j) st
  | .normal, st => Q .normal st
  | .ret, st => Q .ret st

def wps (L : Leafs) : RCode → (Ex → St → Prop) → St → Prop
  | .skip, Q, st => Q .normal st
  | .region ops, Q, st => runV L ops st (Q .normal)
  | .seq a b, Q, st => wps L a (seqK (wps L b Q) Q) st
  | .seqJ a b, Q, st => wps L a (seqK (fun st => L .join (wps L b Q) st) Q) st
  | .cond c a b, Q, st => match ev st c with
    | .tt => wps L a Q st
    | .ff => wps L b Q st
    | .bool t => L .br t (fun _ => wps L a Q st) (fun _ => wps L b Q st)
    | _ => False
  | .block id a, Q, st => wps L a (blockK id Q) st
  | .loop a, Q, st => ∃ (live keys : List Nat) (ns : List (Nat × Nat × Nat × (Nat → DV))) (I : Nat → St → Prop), (∃ m, I m ((st.nilrows ns).restr live keys)) ∧
      ∀ m st', I m st' → wps L a (seqK (fun st'' => ∃ m', m' < m ∧ I m' ((st''.nilrows ns).restr live keys)) Q) st'
  | .exit id, Q, st => Q (.exit id) st
  | .ret, Q, st => Q .ret st
  | .bad, _, _ => False

/-! ### Resolving -/
def tInfo (P : Program) (t : TypeId) : Option TypeInfo := P.info? t
/-- Is it a struct or an array, and of how many cells? -/
def tAgg (P : Program) (t : TypeId) : Option (Bool × Nat) :=
  match P.underlying t, tInfo P t with
  | some (.struct _), some i => some (true, i.size)
  | some (.array _ _), some i => some (true, i.size)
  | some _, some i => if i.size = 1 then some (false, 1) else none
  | _, _ => none
def tElem (P : Program) (t : TypeId) : Option TypeId := match P.underlying t with | some (.slice e) => some e | _ => none
def tInt (P : Program) (t : TypeId) : Option IntKind := match P.underlying t with | some (.int k) => some k | _ => none
def tScalar (P : Program) (t : TypeId) : Bool :=
  match P.underlying t with | some (.int _) => true | some .bool => true | some .string => true | _ => false

def cArg : Operand → Option Arg
  | .tmp t => some (.tmp t)
  | .const v => (match cCon v with | some d => some (.con d) | none => none)
  | .func g => some (.con (.fn g [] []))
  | .global _ => none
/-- A type's zero, its size and its bytes. -/
def cZero (P : Program) (t : TypeId) : Option (Nat × Nat × DV) :=
  match tInfo P t with
  | some i => (match i.zero with
    | some z => (match cCon z with
      | some d => if okCells i.size d = true ∧ 0 < i.size then some (i.size, i.bytes, d) else none
      | _ => none)
    | none => none)
  | none => none
def cArgs : List Operand → Option (List Arg)
  | [] => some []
  | x :: l => match cArg x, cArgs l with | some a, some r => some (a :: r) | _, _ => none
def cOpt : Option Operand → Option (Option Arg)
  | none => some none
  | some x => match cArg x with | some a => some (some a) | none => none

/-- How a function is called: 1: by its rows; 2: what it gets is lent; 3: what it gets is frozen; 0: lent if the results' types are plain, else frozen. -/
abbrev Modes := FuncId → Nat

def cFields (P : Program) (fs : Array Field) : List (Nat × Operand) → Option (List (Nat × Nat × Arg))
  | [] => some []
  | (j, x) :: r => match fs[j]?, cArg x, cFields P fs r with
    | some f, some a, some r => (match tInfo P f.type with | some i => some ((f.offset, i.size, a) :: r) | none => none)
    | _, _, _ => none
def cParts (n : Nat) : List (Nat × Operand) → Option (List (Nat × Arg))
  | [] => some []
  | (j, x) :: r => match cArg x, cParts n r with
    | some a, some r => if j < n then some ((j, a) :: r) else none
    | _, _ => none

def scalarRes (P : Program) (g : FuncId) : Bool :=
  match P.funcs[g]? with
  | some f => f.resultTypes.toList.all (tScalar P)
  | none => false

def cCall (P : Program) (md : Modes) (f : Operand) (xs : List Operand) : Option ROp :=
  match cArg f, cArgs xs with
  | some a, some r => (match f with
    | .func g => some (match md g with | 1 => .refs a r | 2 => .lend a r | 3 => .call a r | _ => if scalarRes P g then .lend a r else .call a r)
    | _ => some (.call a r))
  | _, _ => none

/-- The fields of a struct whose fields are plain. -/
def cEqF (P : Program) : List Field → Option (List (Nat × Nat))
  | [] => some []
  | f :: r => if (f.name == "_") = true then none else
    match P.underlying f.type, cEqF P r with
    | some (.int _), some l => some ((f.offset, 0) :: l)
    | some .string, some l => some ((f.offset, 1) :: l)
    | some .bool, some l => some ((f.offset, 2) :: l)
    | _, _ => none
def allScalar (P : Program) : List Field → Bool
  | [] => true
  | f :: r => if tScalar P f.type then allScalar P r else false

def cOp (P : Program) (md : Modes) (op : Op) : Option ROp :=
  match op with
  | .move x => (cArg x).map .move
  | .assign x => (cArg x).map .move
  | .pick c a b => match cArg c, cArg a, cArg b with | some c, some a, some b => some (.pick c a b) | _, _, _ => none
  | .alloc t => match cZero P t with | some (sz, _, z) => some (.alloc sz z) | none => none
  | .box t x => match tInfo P t, cArg x with | some i, some a => if 0 < i.size then some (.box i.size a) else none | _, _ => none
  | .build t ps => match cZero P t, P.underlying t with
    | some (_, _, .agg cs), some (.struct fs) => (match (if fs.toList.all (fun f => (tInfo P f.type).isSome) then cFields P fs ps.toList else none) with
      | some r => if allScalar P fs.toList then some (.buildQ cs r) else some (.build cs r)
      | none => none)
    | _, _ => none
  | .buildSlice t n ps => match tElem P t with
    | some e => (match cZero P e, cParts n ps.toList with
      | some (sz, _, z), some r => if n * sz ≤ 100000 then some (.buildSlice sz z n r) else none
      | _, _ => none)
    | none => none
  | .load t x => match tAgg P t, cArg x with | some (g, n), some a => some (.load g n a) | _, _ => none
  | .store t a x => match tInfo P t, cArg a, cArg x with | some i, some a, some b => if 0 < i.size then some (.store i.size a b) else none | _, _, _ => none
  | .nilCheck x => (cArg x).map .nilCheck
  | .binOp op t x y _ => match cArg x, cArg y with
    | some a, some b => (match P.underlying t with
      | some (.int _) => some (.binOp 0 op a b)
      | some .string => some (.binOp 0 op a b)
      | some .bool => some (.binOp 1 op a b)
      | some (.pointer _) => some (.binOp 2 op a b)
      | some (.struct fs) => (match cEqF P fs.toList with
        | some l => if P.stoodInHeld t = true then none else (match op with
          | .eql => some (.eqS false l a b)
          | .neq => some (.eqS true l a b)
          | _ => none)
        | none => none)
      | _ => none)
    | _, _ => none
  | .unOp op _ x => (cArg x).map (.unOp op)
  | .convert s d x => match cArg x with
    | some a => (match P.underlying s, P.underlying d with
      | some (.int _), some (.int k) => some (.convI k a)
      | some .string, some .string => some (.convS a)
      | some .string, some (.slice e) => (match tInt P e with | some .u8 => some (.toBytes a) | _ => none)
      | some (.slice e), some .string => (match tInt P e with | some .u8 => some (.toStr a) | _ => none)
      | _, _ => none)
    | none => none
  | .slice t x lo hi mx => match cArg x, cOpt lo, cOpt hi, cOpt mx with
    | some a, some l, some h, some m => (match P.underlying t with
      | some (.slice e) => (match tInfo P e with
        | some i => if 0 < i.size ∧ ((mx.isNone || hi.isSome) = true) then some (.slice i.size a l h m) else none
        | none => none)
      | some .string => if mx.isNone = true then some (.slice 0 a l h m) else none
      | _ => none)
    | _, _, _, _ => none
  | .fieldAddr s x j => match P.underlying s, cArg x with
    | some (.struct fs), some a => (match fs[j]? with
      | some f => (match tInfo P f.type with | some i => if 0 < i.size then some (.fieldAddr f.offset a) else none | none => none)
      | none => none)
    | _, _ => none
  | .field s x j => match P.underlying s, cArg x with
    | some (.struct fs), some a => (match fs[j]? with
      | some f => (match tAgg P f.type with | some (g, n) => some (.field g n f.offset a) | none => none)
      | none => none)
    | _, _ => none
  | .indexAddr t x i => match tElem P t, cArg x, cArg i with
    | some e, some a, some b => (match tInfo P e with | some i => some (.indexAddr i.size a b) | none => none)
    | _, _, _ => none
  | .index t x i => match P.underlying t, cArg x, cArg i with
    | some .string, some a, some b => some (.index a b)
    | _, _, _ => none
  | .extract x j => (cArg x).map (.extract · j)
  | .makeFunc (.func g) a b => match cArgs a.toList, cArgs b.toList with | some a, some b => some (.makeFunc g a b) | _, _ => none
  | .makeSlice t l c => match tElem P t, cArg l, cArg c with
    | some e, some a, some b => (match cZero P e with
      | some (sz, by_, z) => if 0 < by_ then some (.makeSlice sz by_ z a b) else none
      | none => none)
    | _, _, _ => none
  | .call c => match c.callee with
    | .value f => cCall P md f c.args.toList
    | .builtin .len => (match c.args.toList, c.argTypes.toList with
      | [x], t :: _ => (match cArg x, P.underlying t with
        | some a, some .string => some (.len true a)
        | some a, some (.slice _) => some (.len false a)
        | _, _ => none)
      | _, _ => none)
    | .builtin .max => (cArgs c.args.toList).map .max
    | .builtin .min => (cArgs c.args.toList).map .min
    | .builtin .append => (match c.args.toList, c.argTypes.toList with
      | [s, x], [t, u] => (match tElem P t, cArg s, cArg x with
        | some e, some a, some b => (match cZero P e, P.underlying u with
          | some (sz, by_, _), some (.slice _) => if 0 < by_ then some (.append sz by_ a b) else none
          | some (sz, by_, _), some .string => if 0 < by_ then some (.append sz by_ a b) else none
          | _, _ => none)
        | _, _, _ => none)
      | _, _ => none)
    | .builtin .copy => (match c.args.toList, c.argTypes.toList with
      | [s, x], t :: _ => (match tElem P t, cArg s, cArg x with
        | some e, some a, some b => (match tInfo P e with | some i => some (.copy i.size a b) | none => none)
        | _, _, _ => none)
      | _, _ => none)
    | .builtin .clear => (match c.args.toList, c.argTypes.toList with
      | [s], [t] => (match tElem P t, cArg s with
        | some e, some a => (match cZero P e with
          | some (sz, _, z) => some (.clear sz z a)
          | none => none)
        | _, _ => none)
      | _, _ => none)
    | _ => none
  | _ => none

def cOper (P : Program) (md : Modes) (ops : Array Oper) (o : Oper) : ROper :=
  match cOp P md o.op with
  | none => ⟨o.dst, .bad, none, false⟩
  | some r => match o.guard with
    | none => ⟨o.dst, r, none, false⟩
    | some (j, want) => match (ops[j]?).bind (·.dst) with
      | some t => ⟨o.dst, r, some (t, want), false⟩
      | none => ⟨o.dst, .bad, none, false⟩

def cOpers (P : Program) (md : Modes) (ops : Array Oper) : List Oper → List ROper
  | [] => []
  | o :: l => cOper P md ops o :: cOpers P md ops l

/-! ### Regions whose order is drawn -/
/-- The operations that always are quiet. -/
def isQ : ROp → Bool
  | .move _ | .load _ _ _ | .nilCheck _ | .binOp _ _ _ _ | .eqS _ _ _ _ | .buildQ _ _ | .unOp _ _ | .convI _ _ | .convS _ | .toStr _ | .slice _ _ _ _ _ | .fieldAddr _ _ | .field _ _ _ _ | .indexAddr _ _ _
  | .index _ _ | .extract _ _ | .makeFunc _ _ _ | .len _ _ | .max _ | .min _ => true
  | _ => false
def isQo (P : Program) (md : Modes) (ops : Array Oper) (i : Nat) : Bool :=
  match ops[i]? with
  | some o => isQ (cOper P md ops o).op
  | none => false
/-- What must come before. -/
def deps (ops : Array Oper) (i : Nat) : List Nat :=
  match ops[i]? with
  | some o => onsOf o.after.toList
  | none => []
  where onsOf : List Edge → List Nat
  | [] => []
  | e :: l => if Region.binds .any e then e.on :: onsOf l else onsOf l
/-- The first that may come now: quiet ones ahead. -/
def nextQ (P : Program) (md : Modes) (ops : Array Oper) (left : List Nat) : List Nat → Option Nat
  | [] => none
  | i :: l => if isQo P md ops i then (if free left (deps ops i) then some i else nextQ P md ops left l) else nextQ P md ops left l
  where free (left : List Nat) : List Nat → Bool
  | [] => true
  | e :: l => if mem left e then false else free left l
def nextL (ops : Array Oper) (left : List Nat) : List Nat → Option Nat
  | [] => none
  | i :: l => if nextQ.free left (deps ops i) then some i else nextL ops left l
def remove (k : Nat) : List Nat → List Nat
  | [] => []
  | i :: l => if i = k then l else i :: remove k l
def canon (P : Program) (md : Modes) (ops : Array Oper) : Nat → List Nat → List Nat
  | 0, _ => []
  | n + 1, left => match nextQ P md ops left left with
    | some i => i :: canon P md ops n (remove i left)
    | none => match nextL ops left left with
      | some i => i :: canon P md ops n (remove i left)
      | none => []
def upto : Nat → Nat → List Nat
  | 0, _ => []
  | n + 1, k => k :: upto n (k + 1)
def lenO : List Oper → Nat
  | [] => 0
  | _ :: l => lenO l + 1
def canonL (P : Program) (md : Modes) (ops : Array Oper) : List Nat := canon P md ops (lenO ops.toList) (upto (lenO ops.toList) 0)
def joinD (e : Nat) (m r : List Nat) : List Nat := e :: (without r m)
  where without (r : List Nat) : List Nat → List Nat
  | [] => r
  | k :: l => if mem r k then without r l else k :: without r l
def nthN : List (List Nat) → Nat → List Nat
  | [], _ => []
  | l :: _, 0 => l
  | _ :: r, n + 1 => nthN r n
def snoc : List (List Nat) → List Nat → List (List Nat)
  | [], x => [x]
  | l :: r, x => l :: snoc r x
/-- Of each operation, what comes before it. -/
def closT (ops : Array Oper) : Nat → Nat → List (List Nat) → List (List Nat)
  | 0, _, acc => acc
  | n + 1, i, acc => closT ops n (i + 1) (snoc acc (unionD acc (deps ops i)))
  where unionD (acc : List (List Nat)) : List Nat → List Nat
  | [] => []
  | e :: l => joinD e (nthN acc e) (unionD acc l)
/-- The operations that may change what another place holds. -/
def wild : ROp → Bool
  | .store _ _ _ | .append _ _ _ _ | .call _ _ | .refs _ _ | .box _ _ | .build _ _ | .buildSlice _ _ _ _ | .copy _ _ _ | .clear _ _ _ => true
  | _ => false
def isMove : ROp → Bool
  | .move (.tmp _) => true
  | .move (.con d) => (match keysOf d with | [] => true | _ => false)
  | _ => false
def base (P : Program) (md : Modes) (ops : Array Oper) (i : Nat) : ROper := match ops[i]? with | some o => cOper P md ops o | none => ⟨none, .bad, none, false⟩
def wilds (P : Program) (md : Modes) (ops : Array Oper) : List Nat → List Nat
  | [] => []
  | i :: l => if wild (base P md ops i).op then i :: wilds P md ops l else wilds P md ops l
def beside (tab : List (List Nat)) (i : Nat) : List Nat → Bool
  | [] => false
  | j :: l => if mem (nthN tab i) j then beside tab i l else (if mem (nthN tab j) i then beside tab i l else true)
def strictO (ws : List Nat) (tab : List (List Nat)) (i : Nat) (o : ROper) : Bool := if isQ o.op then (if isMove o.op then false else beside tab i ws) else false
def withS (o : ROper) (s : Bool) : ROper := ⟨o.dst, o.op, o.guard, s⟩
def pickO (P : Program) (md : Modes) (ops : Array Oper) (ws : List Nat) (tab : List (List Nat)) : List Nat → List ROper
  | [] => []
  | i :: l => withS (base P md ops i) (strictO ws tab i (base P md ops i)) :: pickO P md ops ws tab l
def tabO (ops : Array Oper) (ws : List Nat) : List (List Nat) := match ws with | [] => [] | _ => closT ops (lenO ops.toList) 0 []
def wildsO (P : Program) (md : Modes) (ops : Array Oper) : List Nat := wilds P md ops (upto (lenO ops.toList) 0)
def regionO (P : Program) (md : Modes) (ops : Array Oper) : List ROper := pickO P md ops (wildsO P md ops) (tabO ops (wildsO P md ops)) (canonL P md ops)

/-- Does the code part? -/
def parts1 : List ROper → Bool
  | [] => false
  | o :: l => match o.guard with
    | some _ => true
    | none => match o.op with | .pick _ _ _ => true | _ => parts1 l
def branchy : RCode → Bool
  | .region ops => parts1 ops
  | .seq a b => if branchy a then true else branchy b
  | .cond _ _ _ => true
  | .block _ a => branchy a
  | _ => false
def mkSeq (j : Nat) (a b : RCode) : RCode :=
  match j with
  | 1 => (match branchy a with | true => .seqJ a b | false => .seq a b)
  | _ => .seq a b
/-- The flag: whether what comes behind code that parts may be joined. -/
def joinFlag : Nat := 1000000
def comp (P : Program) (md : Modes) : Code → RCode
  | .skip => .skip
  | .region _ ops false => .region (cOpers P md ops ops.toList)
  | .region _ ops true => .region (regionO P md ops)
  | .seq a b => mkSeq (md 1000000) (comp P md a) (comp P md b)
  | .cond c a b => match cArg c with | some x => .cond x (comp P md a) (comp P md b) | none => .bad
  | .block id a => .block id (comp P md a)
  | .loop a => .loop (comp P md a)
  | .exit id => .exit id
  | .ret => .ret
  | _ => .bad

/-! The check that the order does not tell. -/
def dstNot (d : Option Nat) (l : List Nat) : Bool := match d with | none => true | some t => !mem l t
def guardT (o : ROper) : List Nat := match o.guard with | none => [] | some (t, _) => [t]
/-- What the one yields the other does not look at. -/
def dstApart (x y : ROper) : Bool := dstNot x.dst (opR y.op) && dstNot x.dst (guardT y) && (match x.dst, y.dst with | some a, some b => a != b | _, _ => true)
def guardApart (x y : ROper) : Bool := match x.guard with | none => true | some (t, _) => !mem (opR y.op) t && !mem (opR x.op) t
def commQ (x y : ROper) : Bool := isQ x.op && isQ y.op && dstApart x y && dstApart y x && guardApart x y && guardApart y x
/-- A quiet operation and one that is not. -/
def commL (x y : ROper) : Bool := isQ x.op && !isQ y.op && !y.strict && dstApart x y && dstApart y x && guardApart x y && guardApart y x && (!wild y.op || x.strict || isMove x.op)
def comm (x y : ROper) : Bool := commQ x y || commL x y
def ropT (P : Program) (md : Modes) (ops : Array Oper) (ws : List Nat) (tab : List (List Nat)) (i : Nat) : ROper := withS (base P md ops i) (strictO ws tab i (base P md ops i))
def topo (ops : Array Oper) (seen : List Nat) : List Nat → Bool
  | [] => true
  | i :: l => (deps ops i).all (fun e => mem seen e) && topo ops (i :: seen) l
def pairsOk (P : Program) (md : Modes) (ops : Array Oper) (ws : List Nat) (tt tab : List (List Nat)) : List Nat → Bool
  | [] => true
  | i :: l => l.all (fun j => mem (nthN tab j) i || comm (ropT P md ops ws tt i) (ropT P md ops ws tt j)) && pairsOk P md ops ws tt tab l
def nodupB : List Nat → Bool
  | [] => true
  | i :: l => !mem l i && nodupB l
def regionOk (P : Program) (md : Modes) (ops : Array Oper) : Bool :=
  let l := canonL P md ops
  l.length == ops.size && l.all (fun i => decide (i < ops.size)) && (List.range ops.size).all (fun i => mem l i) && nodupB l && topo ops [] l && pairsOk P md ops (wildsO P md ops) (tabO ops (wildsO P md ops)) (closT ops ops.size 0 []) l
def okDraw (P : Program) (md : Modes) : Code → Bool
  | .region _ ops true => regionOk P md ops
  | .seq a b => okDraw P md a && okDraw P md b
  | .cond _ a b => okDraw P md a && okDraw P md b
  | .block _ a => okDraw P md a
  | .loop a => okDraw P md a
  | _ => true

end Go.Sx
