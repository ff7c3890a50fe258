import Derived.Test.YtppaakckfolhlaaSxDefs
/-! What pure data says of the model's values; contracts; the leaves. -/
namespace Go.Sx

/-! ### The leaves -/
def bitsOp (op : BinOp) (k : IntKind) (x y : Int) : Int :=
  let a := BitVec.ofInt k.bits x
  let b := BitVec.ofInt k.bits y
  match op with
  | .and => k.wrap (a &&& b).toNat
  | .or => k.wrap (a ||| b).toNat
  | .xor => k.wrap (a ^^^ b).toNat
  | _ => k.wrap (a &&& ~~~b).toNat
def arithF (op : BinOp) (k : IntKind) (x y : Int) : Int :=
  match op with
  | .add => k.wrap (x + y)
  | .sub => k.wrap (x - y)
  | .mul => k.wrap (x * y)
  | .quo => k.wrap (x.tdiv y)
  | .rem => x.tmod y
  | .shl => k.wrap (x * 2 ^ (min y.toNat k.bits))
  | .shr => x.fdiv (2 ^ (min y.toNat k.bits))
  | op => bitsOp op k x y
def cmpF (op : BinOp) (x y : Int) : Bool :=
  match op with
  | .eql => x == y
  | .neq => x != y
  | .lss => x < y
  | .leq => x ≤ y
  | .gtr => x > y
  | _ => x ≥ y
def unF (op : UnOp) (k : IntKind) (n : Int) : Int :=
  match op with
  | .neg => k.wrap (0 - n)
  | _ => bitsOp .xor k (if k.signed then -1 else k.max) n
def scmpF (op : BinOp) (x y : ByteArray) : Bool :=
  match op with
  | .eql => x.toList == y.toList
  | .neq => !(x.toList == y.toList)
  | .lss => Op.bytesLess x.toList y.toList
  | .leq => Op.bytesLess x.toList y.toList || x.toList == y.toList
  | .gtr => !(Op.bytesLess x.toList y.toList || x.toList == y.toList)
  | _ => !(Op.bytesLess x.toList y.toList)
def byteF (s : ByteArray) (i : Nat) : Int := if h : i < s.size then ((s[i]'h).toNat : Int) else 0
def u8Of : DV → UInt8
  | .int _ x => UInt8.ofNat x.toNat
  | _ => 0
def mkStrF (n : Nat) (f : Nat → DV) : ByteArray := ⟨((List.range n).map fun i => u8Of (f i)).toArray⟩
def appFF (n : Nat) (f g : Nat → DV) (i : Nat) : DV := if i < n then f i else g (i - n)
def setFF (f : Nat → DV) (i off : Nat) (vs : List DV) (j : Nat) : DV := if j = i then setCells (f j) off vs else f j
def cpyFF (o m : Nat) (g f : Nat → DV) (i : Nat) : DV := if o ≤ i ∧ i < o + m then g (i - o) else f i
def clrFF (o n : Nat) (z : DV) (f : Nat → DV) (i : Nat) : DV := if o ≤ i ∧ i < o + n then z else f i

/-! ### Data and values -/
abbrev Imm := Nat → Nat → Option Value
def Imm.le (I J : Imm) : Prop := ∀ b o v, I b o = some v → J b o = some v
def Imm.inW (I : Imm) (w : World) : Prop := ∀ b o v, I b o = some v → w.cell? ⟨b, o, none⟩ = some v

def elemOk (sz : Nat) (d : DV) : Prop := (cells d).length = sz ∧ ∀ j < sz, isCell (nth (cells d) j) = true

inductive Rep (I : Imm) : DV → Value → Prop
  | int (k n) : Rep I (.int k n) (.int k n)
  | bool (b) : Rep I (.bool b) (.bool b)
  | tt : Rep I .tt (.bool true)
  | ff : Rep I .ff (.bool false)
  | str (s) : Rep I (.str s) (.string s)
  | nilp : Rep I .nilp (.pointer none)
  | nilf : Rep I .nilf .nilFunc
  | nili : Rep I .nili .nilIface
  | nils : Rep I .nils (.slice none 0 0)
  | lst (sz t n f a cap b o) (val : Nat → Nat → Value) : 0 < sz → n ≤ cap → (t = true → cap = n) →
      (0 < n → a = some ⟨b, o, none⟩) → (∀ i < n, elemOk sz (f i)) →
      (∀ i j, i < n → j < sz → I b (o + i * sz + j) = some (val i j)) →
      (∀ i j, i < n → j < sz → Rep I (nth (cells (f i)) j) (val i j)) → Rep I (.lst sz t n f) (.slice a n cap)
  | eptr (sz n f i off b c) (val : Nat → Value) : 0 < sz → elemOk sz (f i) → (∀ j < sz, I b (c + j) = some (val j)) →
      (∀ j < sz, Rep I (nth (cells (f i)) j) (val j)) → Rep I (.eptr sz n f i off) (.pointer (some ⟨b, c + off, none⟩))
  | agg (cs) (vs : Array Value) : vs.size = cs.length → (∀ j < cs.length, isCell (nth cs j) = true) →
      (∀ j < cs.length, Rep I (nth cs j) (vs.getD j undef)) → Rep I (.agg cs) (.agg vs)
  | fn (g fst cap) (a b : Array Value) : a.size = fst.length → b.size = cap.length →
      (∀ j < fst.length, Rep I (nth fst j) (a.getD j undef)) → (∀ j < cap.length, Rep I (nth cap j) (b.getD j undef)) →
      Rep I (.fn g fst cap) (.func (.func g) a b)
  | und : Rep I .und undef

structure Loc where
  blk : Option Nat
  off : Nat
  sz : Nat
  n : Nat
  tot : Nat

inductive RepK (I : Imm) (β : Nat → Option Loc) : DV → Value → Prop
  | pure {d v} : Rep I d v → RepK I β d v
  | ref (κ o n cap l b a) : β κ = some l → l.blk = some b → n ≤ cap → o + n ≤ l.n → l.off + (o + cap) * l.sz ≤ l.tot →
      (0 < cap → a = ⟨b, l.off + o * l.sz, none⟩) → RepK I β (.ref κ o n) (.slice (some a) n cap)
  | refnil (κ l ao) : β κ = some l → l.blk = none → RepK I β (.ref κ 0 0) (.slice ao 0 0)
  | rptr (κ i off l b) : β κ = some l → l.blk = some b → i < l.n → RepK I β (.rptr κ i off) (.pointer (some ⟨b, l.off + i * l.sz + off, none⟩))
  | fn (g fst cap) (a b : Array Value) : a.size = fst.length → b.size = cap.length →
      (∀ j < fst.length, RepK I β (nth fst j) (a.getD j undef)) → (∀ j < cap.length, RepK I β (nth cap j) (b.getD j undef)) →
      RepK I β (.fn g fst cap) (.func (.func g) a b)
  | tup (ds) (vs : Array Value) : vs.size = ds.length → (∀ j < ds.length, RepK I β (nth ds j) (vs.getD j undef)) → RepK I β (.tup ds) (.tuple vs)
  | junk (v) : RepK I β .junk v

/-- A row lies there. -/
structure RowAt (I : Imm) (w : World) (l : Loc) (r : Row) (b : Nat) : Prop where
  there : ∀ j < l.tot, (w.cell? ⟨b, j, none⟩).isSome = true
  val : ∀ i j, i < r.n → j < r.sz → ∃ v, w.cell? ⟨b, l.off + i * r.sz + j, none⟩ = some v ∧ Rep I (nth (cells (r.f i)) j) v
  free : ∀ o < l.tot, w.frozen? ⟨b, o, none⟩ = false
  fits : l.off + r.n * r.sz ≤ l.tot
  apart : ∀ o, I b o = none
  elem : ∀ i < r.n, elemOk r.sz (r.f i)
structure RowOk (I : Imm) (w : World) (l : Loc) (r : Row) : Prop where
  sz : l.sz = r.sz
  n : l.n = r.n
  pos : 0 < r.sz
  at_ : ∀ b, l.blk = some b → RowAt I w l r b
  nil : l.blk = none → r.n = 0

/-- What stays. -/
structure Frm (w w' : World) (X : Nat → Prop) : Prop where
  os : w'.os = w.os
  tape : w'.tape = w.tape
  output : w'.output = w.output
  size : w.heap.size ≤ w'.heap.size
  block : ∀ b, b < w.heap.size → ¬ X b → w'.heap[b]? = w.heap[b]?

def keyed : Nat → List Row → Store
  | _, [] => []
  | k, r :: l => (k, r) :: keyed (k + 1) l
def refKey : Nat := 100000

def Sep (β : Nat → Option Loc) : Prop := ∀ κ κ' l l' b, κ ≠ κ' → β κ = some l → β κ' = some l' → l.blk = some b → l'.blk ≠ some b

/-- The rows of a store lie where β says, apart. -/
structure Rows (I : Imm) (β : Nat → Option Loc) (σ : Store) (w : World) : Prop where
  dom : ∀ κ, look σ κ = none → β κ = none
  rows : ∀ κ r, look σ κ = some r → ∃ l, β κ = some l ∧ RowOk I w l r
  sep : Sep β
  lt : ∀ κ l b, β κ = some l → l.blk = some b → b < w.heap.size

def isFresh : DV → Bool
  | .own _ _ _ | .obox _ _ => true
  | _ => false
/-- A result, or one of several. -/
def ResAt (I : Imm) (β : Nat → Option Loc) (n0 : Nat) (w : World) (l : Loc) : DV → Value → Prop
  | .own sz n f, v => RowOk I w l (.arr sz n f) ∧ RepK I (fun _ => some l) (.ref 0 0 n) v ∧ ∀ b, l.blk = some b → n0 ≤ b ∧ b < w.heap.size
  | .obox sz d, v => RowOk I w l (.box sz d) ∧ RepK I (fun _ => some l) (.rptr 0 0 0) v ∧ ∀ b, l.blk = some b → n0 ≤ b ∧ b < w.heap.size
  | .ref κ o n, v => RepK I β (.ref κ o n) v
  | d, v => Rep I d v
def Res (I : Imm) (β : Nat → Option Loc) (n0 : Nat) (w : World) : DV → Value → Prop
  | .tup ds, v => ∃ (vs : Array Value) (ls : Nat → Loc), v = .tuple vs ∧ vs.size = ds.length ∧
      (∀ j < ds.length, ResAt I β n0 w (ls j) (nth ds j) (vs.getD j undef)) ∧
      ∀ i j b, i < ds.length → j < ds.length → i ≠ j → isFresh (nth ds i) = true → isFresh (nth ds j) = true → (ls i).blk = some b → (ls j).blk ≠ some b
  | d, v => ∃ l, ResAt I β n0 w l d v

def rowsOf (σ : Store) : Nat → Nat → Option (List Row)
  | _, 0 => some []
  | k, m + 1 => match look σ k, rowsOf σ (k + 1) m with
    | some r, some l => some (r :: l)
    | _, _ => none

/-- A call enters the function's body. -/
def Enters (P : Program) (g : FuncId) : Prop := ∃ (fn : Func) (c : Code), P.funcs[g]? = some fn ∧ (fn.name == "runtime.NumGoroutine") = false ∧ fn.body = some c

/-- A function's contract: called with values that are such data, and rows that it may write, it returns such data. -/
def Fn (P : Program) (g : FuncId) (ds : List DV) (rows : List Row) (Q : DV → List Row → Prop) : Prop :=
  Enters P g ∧ ∀ (w : World) (I : Imm) (vs : Array Value) (β : Nat → Option Loc),
    I.inW w → vs.size = ds.length → (∀ j < ds.length, RepK I β (nth ds j) (vs.getD j undef)) → Rows I β (keyed refKey rows) w →
    Calls P g vs w fun e w' => ∃ v d rows' I', e = .returned v ∧ Imm.le I I' ∧ I'.inW w' ∧ (∀ b o, b < w.heap.size → I' b o = I b o) ∧
      Res I' β w.heap.size w' d v ∧ Rows I' β (keyed refKey rows') w' ∧ rows'.length = rows.length ∧
      Frm w w' (fun b => ∃ κ l, β κ = some l ∧ l.blk = some b) ∧ Q d rows'

theorem Fn.mono {P : Program} {g : FuncId} {ds : List DV} {rows : List Row} {Q Q' : DV → List Row → Prop} (h : Fn P g ds rows Q)
    (hq : ∀ d rs, Q d rs → Q' d rs) : Fn P g ds rows Q' := by
  refine ⟨h.1, fun w I vs β h1 h2 h3 h4 => ?_⟩
  refine (h.2 w I vs β h1 h2 h3 h4).mono ?_
  rintro e w' ⟨v, d, rows', I', a1, a2, a3, a4, a5, a6, a7, a8, a9⟩
  exact ⟨v, d, rows', I', a1, a2, a3, a4, a5, a6, a7, a8, hq _ _ a9⟩

def scalarD : DV → Bool
  | .int _ _ | .bool _ | .tt | .ff | .str _ | .nils | .nilp | .nilf | .nili => true
  | _ => false
def scalarL : List DV → Bool
  | [] => true
  | d :: l => if scalarD d then scalarL l else false
def scalarR : DV → Bool
  | .tup ds => scalarL ds
  | d => scalarD d

/-- Results that lead to no row of the caller's. -/
def lendOk1 : DV → Prop
  | .own sz n f => ∀ i < n, ∀ j < sz, scalarD (nth (cells (f i)) j) = true
  | .agg cs => scalarL cs = true
  | d => scalarD d = true
def lendOkL : List DV → Prop
  | [] => True
  | d :: l => lendOk1 d ∧ lendOkL l
def lendOk : DV → Prop
  | .tup l => lendOkL l
  | d => lendOk1 d

def nub : List Nat → List Nat → List Nat
  | acc, [] => acc
  | acc, k :: l => if mem acc k then nub acc l else nub (cat1 acc k) l
  where cat1 : List Nat → Nat → List Nat
  | [], k => [k]
  | a :: l, k => a :: cat1 l k
def idx : List Nat → Nat → Nat
  | [], _ => 0
  | a :: l, k => if a = k then 0 else idx l k + 1
mutual
def ren (ks : List Nat) : DV → DV
  | .ref κ o n => .ref (refKey + idx ks κ) o n
  | .rptr κ i off => .rptr (refKey + idx ks κ) i off
  | .agg cs => .agg (renL ks cs)
  | .tup cs => .tup (renL ks cs)
  | .fn g a b => .fn g (renL ks a) (renL ks b)
  | d => d
def renL (ks : List Nat) : List DV → List DV
  | [] => []
  | d :: l => ren ks d :: renL ks l
end
def keyAt : List Nat → Nat → Option Nat
  | [], _ => none
  | k :: _, 0 => some k
  | _ :: l, n + 1 => keyAt l n
def unren1 (ks : List Nat) : DV → DV
  | .ref κ o n => if κ < refKey then .junk else (match keyAt ks (κ - refKey) with | some k => .ref k o n | none => .junk)
  | d => d
def unrenL (ks : List Nat) : List DV → List DV
  | [] => []
  | d :: l => unren1 ks d :: unrenL ks l
def unren (ks : List Nat) : DV → DV
  | .tup l => .tup (unrenL ks l)
  | d => unren1 ks d
def lookL (σ : Store) : List Nat → Option (List Row)
  | [] => some []
  | k :: l => match look σ k, lookL σ l with
    | some r, some rs => some (r :: rs)
    | _, _ => none
def updL (σ : Store) : List Nat → List Row → Store
  | k :: l, r :: rs => updL (upd σ k r) l rs
  | _, _ => σ

def noKeys (ds : List DV) : Prop := keysOfL ds = []

def std (P : Program) : {α : Type} → Lf α → α
  | _, .arith => arithF
  | _, .cmp => cmpF
  | _, .wrap => fun k n => k.wrap n
  | _, .un => unF
  | _, .beq => fun a b => a == b
  | _, .bnot => fun a => !a
  | _, .band => fun a b => a && b
  | _, .scmp => scmpF
  | _, .scat => fun a b => a ++ b
  | _, .ssize => fun s => s.size
  | _, .byte => byteF
  | _, .sub => fun s a b => s.extract a b
  | _, .mkStr => mkStrF
  | _, .imax => fun x y => if y > x then y else x
  | _, .imin => fun x y => if y < x then y else x
  | _, .toNat => Int.toNat
  | _, .ofNat => fun n => (n : Int)
  | _, .nadd => fun a b => a + b
  | _, .nsub => fun a b => a - b
  | _, .nmin => fun a b => min a b
  | _, .neqb => fun a b => decide (a = b)
  | _, .appF => appFF
  | _, .setF => setFF
  | _, .cpyF => cpyFF
  | _, .clrF => clrFF
  | _, .inb => fun i n => 0 ≤ i ∧ i < n
  | _, .okOp => fun op b => match op with | .shl | .shr => 0 ≤ b | _ => b ≠ 0
  | _, .okCat => fun a b => ((a.size + b.size : Nat) : Int) ≤ 9223372036854775807
  | _, .rng => fun a b n => a ≤ b ∧ b ≤ n
  | _, .okI => fun n => 0 ≤ n
  | _, .room => fun n b => n * b ≤ 140737488355328
  | _, .isT => fun b => b = true
  | _, .okApp => fun n m => n = 0 ∨ 0 < m
  | _, .mkOk => fun l c b => 0 ≤ l ∧ l ≤ c ∧ c * (b : Int) ≤ 140737488355328
  | _, .bytes => fun n f => ∀ i < n, ∃ x, f i = .int .u8 x
  | _, .br => fun b A B => (b = true → A ()) ∧ (b = false → B ())
  | _, .join => fun W st => W st ∨ ∃ live keys, W (st.restr live keys)
  | _, .call => fun g ds κ st K => noKeys ds ∧ Fn P g ds [] fun res _ => bindR κ res st K
  | _, .lend => fun g ds κ st K => noKeys ds ∧ Fn P g ds [] fun res _ => lendOk res ∧ bindR κ res st K
  | _, .refs => fun g ds κ st K => ∃ rows, lookL st.σ (nub [] (keysOfL ds)) = some rows ∧
      Fn P g (renL (nub [] (keysOfL ds)) ds) rows fun res rows' => bindR κ (unren (nub [] (keysOfL ds)) res) ⟨st.T, updL st.σ (nub [] (keysOfL ds)) rows'⟩ K

end Go.Sx
