import Derived.Test.YtgiimddboaoneaaSxC
import Derived.WalkKit
import Derived.ProofKit
import Derived.OpenShut
import Derived.JoinedCond
import Derived.WideKeyArgs
import Derived.ChangeSlices
import Derived.Deep.Slices
/-! From a contract to a law's row. -/
namespace Go.Sx
open Go.ChangeShapes Go.WideShapes Go.ChangeAt Go.RowKit

/-- All that is there before the call. -/
def allI (W : World) : Imm := fun b o => W.cell? ⟨b, o, none⟩

section
variable {H : Type} {enc : TypeId × Value → H} {P : Program}

theorem trodAll_stays (hl : laidOutB P = true) {W W' : World} {sp : Nat → Bool} (hb : Below W.heap.size W W') : ∀ {ts : List TypeId} {vs : List Value} {ds : List (DataW H)} {ps : List MemPlace}, (∀ t ∈ ts, P.readableRec t = true ∧ t < P.types.size) →
    DataW.TrodAll enc P W 0 (fun _ => true) true ts vs ds ps → (∀ p ∈ ps, p.block < W.heap.size) → (∀ p ∈ ps, sp p.block = true) → DataW.TrodAll enc P W' 0 sp true ts vs ds ps
  | [], vs, ds, ps, _, h, _, _ => by
    obtain ⟨rfl, rfl, rfl⟩ := trodAll_nil h
    exact trodAll_mk0
  | t :: ts, vs, ds, ps, ht, h, hlt, hsp => by
    obtain ⟨v, vs', d, ds', p, q, rfl, rfl, rfl, h0, h1⟩ := trodAll_cons h
    obtain ⟨r1, r2⟩ := ht t (by simp)
    have k0 := WideElems.Trod_stays (sp' := sp) hl r1 r2 h0 (fun x hx => hb.same (hlt x (by simp [hx]))) (fun x hx => hsp x (by simp [hx]))
    have k1 := trodAll_stays hl hb (fun t ht' => ht t (by simp [ht'])) h1 (fun x hx => hlt x (by simp [hx])) (fun x hx => hsp x (by simp [hx]))
    exact trodAll_cons_mk k0 k1

theorem keptBut_of_below {W W' : World} (hb : Below W.heap.size W W') (may : MemPlace → Prop) : W.keptBut W' may := by
  refine ⟨hb.os, hb.output, fun i hi => ?_⟩
  rw [hb.block i hi]
  cases h : W.heap[i]? with
  | none => simp
  | some o => cases o <;> simp

/-- A law that returns true and leaves all as it was. -/
theorem post_true (hl : laidOutB P = true) {f : Func} {s : ChangeSpec} {apart fresh handsOn again : Bool} {W W' : World} {args : Array Value} {tb : TypeId} {ds gs : List (DataW H)} {before : List MemPlace}
    (hW : DataW.Whole enc P f.params.toList s.vars apart W args.toList ds gs before) (hv : s.vars = []) (hs : s.fn H (ds ++ gs) = { results := [.lit (.bool true)], args := ds })
    (hts : ∀ t ∈ f.params.toList, P.readableRec t = true ∧ t < P.types.size) (hr : f.resultTypes = #[tb]) (htb : P.underlying tb = some .bool) (hb : Below W.heap.size W W') :
    s.post enc P f apart fresh handsOn again W args (.bool true) W' := by
  have hlt : ∀ p ∈ before, p.block < W.heap.size := fun p hp => hW.lt p hp
  obtain ⟨p, q, hA, hV, rfl, hz, hn⟩ := id hW
  rw [hv] at hV
  obtain ⟨rfl, rfl⟩ := trodVars_none hV
  simp only [List.append_nil] at hz hn hW hlt
  have hargs : ∀ sp : Nat → Bool, (∀ x ∈ p, sp x.block = true) → DataW.TrodAll enc P W' 0 sp true f.params.toList args.toList ds p := fun sp hsp => trodAll_stays hl hb hts hA hlt hsp
  have hres : ∀ (b : Nat) (sp : Nat → Bool) (hd : Bool), DataW.TrodAll enc P W' b sp hd f.resultTypes.toList ((Value.bool true).resultList f.resultTypes.size) [.lit (.bool true)] [] := by
    intro b sp hd
    rw [hr]
    exact trodAll_cons_mk (shut_bool htb true) trodAll_mk0
  have hvars : ∀ sp : Nat → Bool, DataW.TrodVars enc P W' sp s.vars (s.fn H (ds ++ [])).vars [] := by
    intro sp; rw [hs, hv]; rfl
  refine ⟨ds, [], p, [], p, [], hW, by rw [hs]; exact hres _ _ _, by rw [hs]; exact hargs _ (fun x hx => by simpa using hlt x hx), hvars _, World.keptBut_mono (fun x hx => ⟨hx, .inr (by simpa using hx)⟩) (keptBut_of_below hb (· ∈ p)), fun _ => ?_⟩
  refine ⟨fun j t r h1 h2 => ?_, _, _, ([] ++ p) ++ [], ⟨[] ++ p, [], trodAll_append (hargs _ (fun _ _ => rfl)) (hres _ _ _), hvars _, rfl, ?_, ?_⟩, ?_⟩
  · rw [hr] at h1 h2
    exact ok_one (f := f) hr rfl (okWide_bool_mk htb true) j t r (by rw [hr]; exact h1) (by rw [hr]; exact h2)
  · intro b off hp
    have hp' : MemPlace.cell b off ∈ p := by simpa using hp
    have h1 := hz b off hp'
    have h2 : W'.heap[b]? = W.heap[b]? := hb.block b (hlt _ hp')
    rw [← h1]
    exact frozen_of_heap h2 off
  · intro ha
    simpa using hn ha
  · intro x hx _
    simpa using hx

/-- .. a law's call, from its contract. -/
theorem law_calls (hl : laidOutB P = true) {g : FuncId} {f : Func} {s : ChangeSpec} {apart fresh handsOn again : Bool} {W : World} {args : Array Value} {tb : TypeId} {ds gs : List (DataW H)} {before : List MemPlace}
    (hW : DataW.Whole enc P f.params.toList s.vars apart W args.toList ds gs before) (hv : s.vars = []) (hs : s.fn H (ds ++ gs) = { results := [.lit (.bool true)], args := ds })
    (hts : ∀ t ∈ f.params.toList, P.readableRec t = true ∧ t < P.types.size) (hr : f.resultTypes = #[tb]) (htb : P.underlying tb = some .bool)
    {dvs : List DV} (hfn : Fn P g dvs [] fun d _ => d = .bool true) (hsz : args.size = dvs.length) (hrep : ∀ j < dvs.length, RepK (allI W) (fun _ => none) (nth dvs j) (args.getD j undef)) :
    Calls P g args W fun e W' => ∃ v, e = .returned v ∧ s.post enc P f apart fresh handsOn again W args v W' := by
  refine (hfn.2 W (allI W) args (fun _ => none) (fun b o v h => h) hsz hrep (rows_none _ W)).mono ?_
  rintro e W' ⟨v, d, rows', I', rfl, a2, a3, a4, a5, a6, a7, a8, rfl⟩
  have hvv : v = .bool true := by
    obtain ⟨l, h⟩ := a5
    have h' : Rep I' (.bool true) v := h
    cases h'; rfl
  subst hvv
  refine ⟨_, rfl, post_true hl hW hv hs hts hr htb ⟨a8.os, a8.tape, a8.output, a8.size, fun b hb => a8.block b hb ?_⟩⟩
  rintro ⟨κ, l, h, _⟩
  cases h

/-- An argument: a slice of whole numbers. -/
theorem rep_ints {W : World} {t e : TypeId} {k : IntKind} {v : Value} {d : DataW H} {p : List MemPlace} {sp : Nat → Bool} {hd : Bool} (ht : P.underlying t = some (.slice e)) (he : P.underlying e = some (.int k)) (hc : P.cellsOf e = 1)
    (hval : Value.okWide P W .any 0 t v) (h : DataW.Trod enc P W 0 sp hd t v d p) :
    ∃ (n : Nat) (g : Nat → Int), RepK (allI W) (fun _ => none) (.lst 1 false n (fun i => .int k (g i))) v ∧ n ≤ maxLen ∧ ∀ i < n, (Lit.int k (g i)).wf = true := by
  obtain ⟨fuel, hf⟩ := h
  obtain ⟨a0, len0, cap0, rfl⟩ := okWide_slice ht hval
  rcases open_ints ht he hc hf with ⟨hcs, _⟩ | ⟨a, len, cap, zs, hcs, hb, hl, hm, hz, hx, hcell, hw⟩
  · simp only [Value.cells, List.cons.injEq, and_true] at hcs
    refine ⟨0, fun _ => 0, ?_, Nat.zero_le _, fun i hi => absurd hi (Nat.not_lt_zero _)⟩
    have e : Value.slice a0 len0 cap0 = .slice none 0 0 := by simpa using hcs
    rw [e]
    exact nil_lst (Nat.succ_pos 0) (.pure .nils)
  · have e : Value.slice a0 len0 cap0 = .slice (some a) len cap := by simpa [Value.cells] using hcs
    rw [e]
    have hlen : len ≤ zs.length := by rw [hz]; split <;> omega
    refine ⟨len, fun i => zs.getD i 0, ?_, Nat.le_trans hl hm, fun i hi => hw _ (by
      have : i < zs.length := by omega
      simp [List.getD, List.getElem?_eq_getElem this])⟩
    obtain ⟨b, off, spot⟩ := a
    have hspot : 0 < len → spot = none := fun h => by simpa [Addr.add] using World.cell?_spot (hcell 0 (by omega))
    refine .pure (Rep.lst 1 false len _ _ cap b off (fun i _ => .int k (zs.getD i 0)) (Nat.succ_pos 0) hl (fun h => by cases h) (fun h => by rw [hspot h]) (fun i _ => ⟨rfl, fun j hj => ?_⟩) (fun i j hi hj => ?_) (fun i j hi hj => ?_))
    · obtain rfl : j = 0 := by omega
      rfl
    · obtain rfl : j = 0 := by omega
      have hs := hspot (by omega)
      subst hs
      have := hcell i (by omega)
      have e : (⟨b, off, none⟩ : Addr).add i = ⟨b, off + i, none⟩ := by
        unfold Addr.add
        split
        · simp [*]
        · rfl
      rw [e] at this
      simpa [allI] using this
    · obtain rfl : j = 0 := by omega
      exact .int _ _
/-- An argument: a whole number. -/
theorem rep_int {W : World} {t : TypeId} {k : IntKind} {v : Value} {d : DataW H} {p : List MemPlace} {sp : Nat → Bool} {hd : Bool} (ht : P.underlying t = some (.int k)) (hval : Value.okWide P W .any 0 t v) (h : DataW.Trod enc P W 0 sp hd t v d p) :
    ∃ n : Int, RepK (allI W) (fun _ => none) (.int k n) v ∧ (Lit.int k n).wf = true := by
  obtain ⟨n, rfl, _, _, hw⟩ := open_int ht hval h
  exact ⟨n, .pure (.int k n), hw⟩
end
end Go.Sx
/-! Running code on data that is known: what the run comes to is the contract. -/
namespace Go.Sx

def grd {α : Type} (b : Bool) (v : α) : Option α := match b with | true => some v | false => none

def bndE (st : St) : Option Arg → Option (Option Nat)
  | none => some none
  | some x => match ev st x with | .int _ n => grd (decide (0 ≤ n)) (some n.toNat) | _ => none
def rngB (a b n : Nat) : Bool := match Nat.ble a b with | true => Nat.ble b n | false => false
def topB (h2 n : Nat) : Option Nat → Bool
  | some m => rngB h2 m n
  | none => true
def tightE (t : Bool) (h m : Option Nat) (h2 : Nat) : Bool :=
  match m with
  | some m => decide (m = h2)
  | none => (match h with | none => t | some _ => false)
def lstE (sz : Nat) (t : Bool) (n : Nat) (f : Nat → DV) (l h m : Option Nat) : Option DV :=
  match l with
  | none => grd (rngB 0 (orN h n) n && topB (orN h n) n m) (.lst sz (tightE t h m (orN h n)) (orN h n) f)
  | some l2 => grd (rngB l2 (orN h n) n && topB (orN h n) n m) (.lst sz (tightE t h m (orN h n)) (orN h n - l2) (fun i => f (l2 + i)))
def refE (κ o n : Nat) (l h m : Option Nat) : Option DV :=
  match l with
  | none => grd (rngB 0 (orN h n) n && topB (orN h n) n m) (.ref κ o (orN h n))
  | some l2 => grd (rngB l2 (orN h n) n && topB (orN h n) n m) (.ref κ (o + l2) (orN h n - l2))
def sliceBE (st : St) (esize : Nat) (x : DV) (l h m : Option Nat) : Option DV :=
  match x with
  | .str s => (match m with
    | some _ => none
    | none => if esize = 0 then grd (rngB (orN l 0) (orN h s.size) s.size) (.str (s.extract (orN l 0) (orN h s.size))) else none)
  | .lst sz t n f => if sz = esize then lstE sz t n f l h m else none
  | .nils => if esize = 0 then none else grd (rngB (orN l 0) (orN h 0) 0 && rngB (orN h 0) (orN m 0) 0) .nils
  | .ref κ o n => (match look st.σ κ with
    | some r => if r.sz = esize then refE κ o n l h m else none
    | none => none)
  | _ => none
def sliceE (st : St) (esize : Nat) (x : DV) (lo hi mx : Option Arg) : Option DV :=
  match bndE st lo, bndE st hi, bndE st mx with
  | some l, some h, some m => sliceBE st esize x l h m
  | _, _, _ => none

def okBinE (op : BinOp) : DV → DV → Option DV
  | .int k a, .int k' b =>
    match op with
    | .shl | .shr => grd (decide (0 ≤ b)) (.int k (arithF op k a b))
    | .quo | .rem => if k = k' then grd (decide (b ≠ 0)) (.int k (arithF op k a b)) else none
    | .add | .sub | .mul | .and | .or | .xor | .andNot => if k = k' then some (.int k (arithF op k a b)) else none
    | _ => if k = k' then some (.bool (cmpF op a b)) else none
  | .str a, .str b => match op with
    | .add => grd (decide (((a.size + b.size : Nat) : Int) ≤ 9223372036854775807)) (.str (a ++ b))
    | .eql | .neq | .lss | .leq | .gtr | .geq => some (.bool (scmpF op a b))
    | _ => none
  | _, _ => none
def boolBinE (op : BinOp) (a b : Bool) : Option DV :=
  match op with
  | .eql => some (.bool (a == b))
  | .neq => some (.bool (!(a == b)))
  | _ => none
def notE : DV → DV
  | .tt => .ff
  | .ff => .tt
  | .bool b => .bool (!b)
  | _ => .junk
def nilBinE (op : BinOp) (r : DV) : Option DV :=
  match op with
  | .eql => some r
  | .neq => some (notE r)
  | _ => none
def binE (cls : Nat) (op : BinOp) (x y : DV) : Option DV :=
  match cls with
  | 0 => okBinE op x y
  | 1 => (match boolOf x, boolOf y with
    | some a, some b => boolBinE op a b
    | _, _ => none)
  | _ => (match nilEq x y with
    | some r => nilBinE op r
    | none => none)
def unE (op : UnOp) : DV → Option DV
  | .int k n => (match op with | .neg | .xor => some (.int k (unF op k n)) | _ => none)
  | d => (match op, boolOf d with | .not, some _ => some (notE d) | _, _ => none)
def lenE (s : Bool) (x : DV) : Option DV :=
  match s with
  | true => (match x with
    | .str s => some (.int .i64 (s.size : Nat))
    | _ => none)
  | false => (match x with
    | .lst _ _ n _ => some (.int .i64 (n : Nat))
    | .ref _ _ n => some (.int .i64 (n : Nat))
    | .nils => some (.int .i64 0)
    | _ => none)
def mmE (k : IntKind) (f : Int → Int → Int) : Int → List DV → Option DV
  | a, [] => some (.int k a)
  | a, .int k' b :: r => if k = k' then mmE k f (f a b) r else none
  | _, _ => none
def mmE0 (f : Int → Int → Int) : List DV → Option DV
  | .int k a :: r => mmE k f a r
  | _ => none
def loadEE (agg : Bool) (size off : Nat) (d : DV) : Option DV := grd (Nat.ble (off + size) (len (cells d))) (part agg size d off)
def loadVE (agg : Bool) (size : Nat) (st : St) : DV → Option DV
  | .rptr κ i off => (match look st.σ κ with | some r => loadEE agg size off (r.f i) | none => none)
  | .eptr _ _ f i off => loadEE agg size off (f i)
  | _ => none
def nilE : DV → Option DV
  | .rptr κ i off => some (.rptr κ i off)
  | .eptr s n f i off => some (.eptr s n f i off)
  | .fn g a b => some (.fn g a b)
  | _ => none
def fieldAddrE (o : Nat) : DV → Option DV
  | .rptr κ i off => some (.rptr κ i (off + o))
  | .eptr sz n g i off => some (.eptr sz n g i (off + o))
  | _ => none
def inbB (j : Int) (n : Nat) : Bool := decide (0 ≤ j ∧ j < n)
def indexAddrE (st : St) (esize : Nat) (x i : DV) : Option DV :=
  match x, i with
  | .lst sz _ n f, .int _ j => if sz = esize then grd (inbB j n) (.eptr sz n f j.toNat 0) else none
  | .ref κ o n, .int _ j => (match look st.σ κ with
    | some r => if r.sz = esize then grd (inbB j n) (.rptr κ (match o with | 0 => j.toNat | o + 1 => o + 1 + j.toNat) 0) else none
    | none => none)
  | _, _ => none
def indexE (x i : DV) : Option DV :=
  match x, i with
  | .str s, .int _ j => grd (inbB j s.size) (.int .u8 (byteF s j.toNat))
  | _, _ => none
def contE (st : St) (esize : Nat) : DV → Option (Nat × (Nat → DV))
  | .lst sz _ n f => if sz = esize then some (n, f) else none
  | .nils => some (0, fun _ => .junk)
  | .ref κ o n => (match look st.σ κ with | some r => if r.sz = esize then some (n, shift o r.f) else none | none => none)
  | .str s => if 1 = esize then some (s.size, fun i => .int .u8 (byteF s i)) else none
  | _ => none
def u8B : DV → Bool
  | .int .u8 _ => true
  | _ => false
def allTo (p : Nat → Bool) : Nat → Bool
  | 0 => true
  | n + 1 => match p n with | true => allTo p n | false => false
def toStrE (st : St) (x : DV) : Option DV :=
  match x with
  | .str _ => none
  | x => match contE st 1 x with
    | some (n, f) => grd (allTo (fun i => u8B (f i)) n) (.str (mkStrF n f))
    | none => none
def eq1E (k : Nat) (d e : DV) : Option Bool :=
  match k with
  | 0 => (match d, e with | .int k a, .int k' b => if k = k' then some (a == b) else none | _, _ => none)
  | 1 => (match d, e with | .str a, .str b => some (scmpF .eql a b) | _, _ => none)
  | _ => (match boolOf d, boolOf e with | some a, some b => some (a == b) | _, _ => none)
def eqFsE (cs ds : List DV) : List (Nat × Nat) → Option Bool
  | [] => some true
  | (o, k) :: r => match eq1E k (nth cs o) (nth ds o), eqFsE cs ds r with
    | some b, some c => some (b && c)
    | _, _ => none
def eqSE (neg : Bool) (fs : List (Nat × Nat)) (x y : DV) : Option DV :=
  match x, y with
  | .agg cs, .agg ds => (match eqFsE cs ds fs with
    | some b => some (.bool (match neg with | true => !b | false => b))
    | none => none)
  | _, _ => none

def quietE (st : St) : ROp → Option DV
  | .move x => some (ev st x)
  | .load agg size a => loadVE agg size st (ev st a)
  | .nilCheck x => nilE (ev st x)
  | .binOp c op x y => binE c op (ev st x) (ev st y)
  | .eqS neg fs x y => eqSE neg fs (ev st x) (ev st y)
  | .buildQ zero ps => (match fillP st ps zero with | some cs => some (.agg cs) | none => none)
  | .unOp op x => unE op (ev st x)
  | .convI k x => (match ev st x with | .int _ n => some (.int k (k.wrap n)) | _ => none)
  | .convS x => (match ev st x with | .str s => some (.str s) | _ => none)
  | .toStr x => toStrE st (ev st x)
  | .slice es x lo hi mx => sliceE st es (ev st x) lo hi mx
  | .fieldAddr o x => fieldAddrE o (ev st x)
  | .field agg size off x => (match ev st x with | .agg cs => loadEE agg size off (.agg cs) | _ => none)
  | .indexAddr es x i => indexAddrE st es (ev st x) (ev st i)
  | .index x i => indexE (ev st x) (ev st i)
  | .extract x j => (match ev st x with | .tup ds => grd (Nat.blt j (len ds)) (nth ds j) | _ => none)
  | .makeFunc g a b => some (.fn g (evL st a) (evL st b))
  | .len s x => lenE s (ev st x)
  | .max xs => mmE0 (fun x y => if y > x then y else x) (evL st xs)
  | .min xs => mmE0 (fun x y => if y < x then y else x) (evL st xs)
  | _ => none

theorem grd_eq {α : Type} {b : Bool} {v w : α} (h : grd b v = some w) : b = true ∧ v = w := by
  cases b <;> simp [grd] at h ⊢; exact h
theorem rngB_eq {a b n : Nat} (h : rngB a b n = true) : a ≤ b ∧ b ≤ n := by
  unfold rngB at h
  split at h
  · rename_i h1; exact ⟨Nat.le_of_ble_eq_true h1, Nat.le_of_ble_eq_true h⟩
  · cases h

/-- What is asked is so, and that is what is given. -/
def Ok (v : DV) (q : QV) : Prop := q.1 ∧ q.2 = v
section
variable {P : Program}
theorem bndE_eq {st : St} {x : Option Arg} {v : Option Nat} (h : bndE st x = some v) : (bnd (std P) st x).1 ∧ (bnd (std P) st x).2 = v := by
  unfold bndE at h
  unfold bnd
  split at h
  · obtain rfl := Option.some.inj h; exact ⟨trivial, rfl⟩
  · rename_i x
    dsimp only
    generalize ev st x = d at h ⊢
    cases d <;> first | cases h | skip
    obtain ⟨h1, rfl⟩ := grd_eq h
    have h2 := of_decide_eq_true h1
    exact ⟨h2, rfl⟩
theorem topB_eq {a n : Nat} {m : Option Nat} (h : topB a n m = true) : topV (std P) a n m := by
  cases m with
  | none => trivial
  | some m => exact rngB_eq h
theorem sliceBE_eq {st : St} {es : Nat} {x v : DV} {l hh m : Option Nat} (h : sliceBE st es x l hh m = some v) : Ok v (sliceB (std P) st es x l hh m) := by
  unfold sliceBE at h
  unfold sliceB
  split at h
  · cases m with
    | some _ => cases h
    | none =>
      dsimp only at h ⊢
      split at h
      · rename_i hes
        rw [if_pos hes]
        obtain ⟨h1, rfl⟩ := grd_eq h
        exact ⟨rngB_eq h1, rfl⟩
      · cases h
  · dsimp only
    split at h
    · rename_i hsz
      rw [if_pos hsz]
      unfold lstE at h
      unfold lstV
      cases l <;> (dsimp only at h ⊢; obtain ⟨h1, rfl⟩ := grd_eq h; rw [Bool.and_eq_true] at h1; exact ⟨⟨rngB_eq h1.1, topB_eq h1.2⟩, rfl⟩)
    · cases h
  · dsimp only
    split at h
    · cases h
    · rename_i hes
      rw [if_neg hes]
      obtain ⟨h1, rfl⟩ := grd_eq h
      rw [Bool.and_eq_true] at h1
      exact ⟨⟨rngB_eq h1.1, rngB_eq h1.2⟩, rfl⟩
  · dsimp only
    split at h
    · rename_i r hr
      rw [hr]
      dsimp only
      split at h
      · rename_i hsz
        rw [if_pos hsz]
        unfold refE at h
        unfold refV
        cases l <;> (dsimp only at h ⊢; obtain ⟨h1, rfl⟩ := grd_eq h; rw [Bool.and_eq_true] at h1; exact ⟨⟨rngB_eq h1.1, topB_eq h1.2⟩, rfl⟩)
      · cases h
    · cases h
  · cases h
theorem sliceE_eq {st : St} {es : Nat} {x v : DV} {lo hi mx : Option Arg} (h : sliceE st es x lo hi mx = some v) : Ok v (sliceV (std P) st es x lo hi mx) := by
  unfold sliceE at h
  split at h
  · rename_i l hh m e1 e2 e3
    obtain ⟨g1, f1⟩ := bndE_eq (P := P) e1
    obtain ⟨g2, f2⟩ := bndE_eq (P := P) e2
    obtain ⟨g3, f3⟩ := bndE_eq (P := P) e3
    have := sliceBE_eq (P := P) h
    unfold sliceV
    dsimp only
    rw [f1, f2, f3]
    exact ⟨⟨g1, g2, g3, this.1⟩, this.2⟩
  · cases h
theorem okBinE_eq {op : BinOp} {x y v : DV} (h : okBinE op x y = some v) : Ok v (okBin (std P) op x y) := by
  unfold okBinE at h
  unfold okBin
  split at h
  · rename_i k a k' b
    cases op <;> dsimp only at h ⊢
    all_goals first
      | (obtain ⟨h1, rfl⟩ := grd_eq h; have h2 := of_decide_eq_true h1; exact ⟨h2, rfl⟩)
      | (by_cases hk : k = k'
         · rw [if_pos hk] at h ⊢
           first
             | (obtain ⟨h1, rfl⟩ := grd_eq h; have h2 := of_decide_eq_true h1; exact ⟨h2, rfl⟩)
             | (obtain rfl := Option.some.inj h; exact ⟨trivial, rfl⟩)
         · rw [if_neg hk] at h; cases h)
  · cases op <;> dsimp only at h ⊢
    all_goals first
      | (obtain ⟨h1, rfl⟩ := grd_eq h; have h2 := of_decide_eq_true h1; exact ⟨h2, rfl⟩)
      | (obtain rfl := Option.some.inj h; exact ⟨trivial, rfl⟩)
      | cases h
  · cases h
theorem boolBinE_eq {op : BinOp} {a b : Bool} {v : DV} (h : boolBinE op a b = some v) : Ok v (boolBin (std P) op a b) := by
  unfold boolBinE at h
  unfold boolBin
  cases op <;> dsimp only at h ⊢
  all_goals first
    | (obtain rfl := Option.some.inj h; exact ⟨trivial, rfl⟩)
    | cases h
theorem nilBinE_eq {op : BinOp} {r v : DV} (h : nilBinE op r = some v) : Ok v (nilBin (std P) op r) := by
  unfold nilBinE at h
  unfold nilBin
  cases op <;> dsimp only at h ⊢
  all_goals first
    | (obtain rfl := Option.some.inj h; refine ⟨trivial, ?_⟩; first | rfl | (cases r <;> rfl))
    | cases h
theorem binE_eq {c : Nat} {op : BinOp} {x y v : DV} (h : binE c op x y = some v) : Ok v (binV (std P) c op x y) := by
  rcases c with _ | _ | c
  · exact okBinE_eq (P := P) h
  · have h' : (match boolOf x, boolOf y with | some a, some b => boolBinE op a b | _, _ => none) = some v := h
    show Ok v (match boolOf x, boolOf y with | some a, some b => boolBin (std P) op a b | _, _ => no)
    split at h'
    · rename_i a b e1 e2
      exact boolBinE_eq h'
    · cases h'
  · have h' : (match nilEq x y with | some r => nilBinE op r | none => none) = some v := h
    show Ok v (match nilEq x y with | some r => nilBin (std P) op r | none => no)
    split at h'
    · rename_i r e
      exact nilBinE_eq h'
    · cases h'
theorem loadEE_eq {agg : Bool} {size off : Nat} {d v : DV} (h : loadEE agg size off d = some v) : Ok v (loadE agg size off d) := by
  obtain ⟨h1, rfl⟩ := grd_eq h
  unfold loadE
  rw [if_pos (Nat.le_of_ble_eq_true h1)]
  exact ⟨trivial, rfl⟩
theorem loadVE_eq {agg : Bool} {size : Nat} {st : St} {d v : DV} (h : loadVE agg size st d = some v) : Ok v (loadV agg size st d) := by
  unfold loadVE at h
  unfold loadV
  split at h
  · dsimp only
    split at h
    · rename_i r hr; rw [hr]; exact loadEE_eq h
    · cases h
  · exact loadEE_eq h
  · cases h
theorem contE_eq {st : St} {es : Nat} {d : DV} {p : Nat × (Nat → DV)} (h : contE st es d = some p) : cont (std P) st es d = some p := h
theorem allTo_eq {p : Nat → Bool} : ∀ {n : Nat}, allTo p n = true → ∀ i < n, p i = true
  | 0, _, i, hi => by omega
  | n + 1, h, i, hi => by
    simp only [allTo] at h
    split at h
    · rename_i hn
      by_cases e : i = n
      · subst e; exact hn
      · exact allTo_eq h i (by omega)
    · cases h
theorem toStrE_eq {st : St} {x v : DV} (h : toStrE st x = some v) : Ok v (toStrV (std P) st x) := by
  have fin : (match contE st 1 x with | some (n, f) => grd (allTo (fun i => u8B (f i)) n) (.str (mkStrF n f)) | none => none) = some v →
      Ok v (match cont (std P) st 1 x with | some (n, f) => ((∀ i < n, ∃ x, f i = DV.int .u8 x), DV.str (mkStrF n f)) | none => no) := by
    intro h
    split at h
    · rename_i n f e
      rw [contE_eq (P := P) e]
      obtain ⟨h1, rfl⟩ := grd_eq h
      refine ⟨fun i hi => ?_, rfl⟩
      have := allTo_eq h1 i hi
      generalize f i = d at this ⊢
      unfold u8B at this
      split at this
      · exact ⟨_, rfl⟩
      · cases this
    · cases h
  unfold toStrE at h
  cases x
  case str => cases h
  all_goals exact fin h
theorem eqFsE_eq {cs ds : List DV} : ∀ {fs : List (Nat × Nat)} {b : Bool}, eqFsE cs ds fs = some b → eqFs (std P) cs ds fs = some b
  | [], b, h => h
  | (o, k) :: r, b, h => by
    simp only [eqFsE] at h
    simp only [eqFs]
    split at h
    · rename_i b' c' e1 e2
      rw [eqFsE_eq e2]
      have : eq1 (std P) k (nth cs o) (nth ds o) = some b' := by
        rw [← e1]; rfl
      rw [this]; exact h
    · cases h
theorem mmE_eq {k : IntKind} {f : Int → Int → Int} : ∀ {l : List DV} {a : Int} {v : DV}, mmE k f a l = some v → Ok v (mmV k f a l)
  | [], a, v, h => by obtain rfl := Option.some.inj h; exact ⟨trivial, rfl⟩
  | d :: r, a, v, h => by
    unfold mmE at h
    unfold mmV
    cases d <;> first | cases h | skip
    dsimp only at h ⊢
    split at h
    · rename_i hk; rw [if_pos hk]; exact mmE_eq h
    · cases h
theorem mmE0_eq {f : Int → Int → Int} {l : List DV} {v : DV} (h : mmE0 f l = some v) : Ok v (mmV0 f l) := by
  unfold mmE0 at h
  unfold mmV0
  split at h
  · exact mmE_eq h
  · cases h
theorem quietE_eq {st : St} {op : ROp} {v : DV} (h : quietE st op = some v) : ∃ q, quietV (std P) st op = some q ∧ Ok v q := by
  cases op <;> simp only [quietE] at h <;> simp only [quietV]
  case move => obtain rfl := Option.some.inj h; exact ⟨_, rfl, trivial, rfl⟩
  case load => exact ⟨_, rfl, loadVE_eq h⟩
  case nilCheck x =>
    refine ⟨_, rfl, ?_⟩
    generalize ev st x = d at h ⊢
    unfold nilE at h; unfold nilV
    cases d <;> first | (obtain rfl := Option.some.inj h; exact ⟨trivial, rfl⟩) | cases h
  case binOp => exact ⟨_, rfl, binE_eq h⟩
  case eqS neg fs x y =>
    refine ⟨_, rfl, ?_⟩
    generalize ev st x = d at h ⊢
    generalize ev st y = e at h ⊢
    unfold eqSE at h; unfold eqSV
    split at h
    · dsimp only
      split at h
      · rename_i b hb
        rw [eqFsE_eq hb]
        obtain rfl := Option.some.inj h
        exact ⟨trivial, rfl⟩
      · cases h
    · cases h
  case buildQ =>
    refine ⟨_, rfl, ?_⟩
    split at h
    · rename_i cs e; rw [e]; obtain rfl := Option.some.inj h; exact ⟨trivial, rfl⟩
    · cases h
  case unOp op x =>
    refine ⟨_, rfl, ?_⟩
    generalize ev st x = d at h ⊢
    cases d <;> cases op <;> first | (obtain rfl := Option.some.inj h; exact ⟨trivial, rfl⟩) | cases h
  case convI k x =>
    refine ⟨_, rfl, ?_⟩
    generalize ev st x = d at h ⊢
    cases d <;> first | (obtain rfl := Option.some.inj h; exact ⟨trivial, rfl⟩) | cases h
  case convS x =>
    refine ⟨_, rfl, ?_⟩
    generalize ev st x = d at h ⊢
    cases d <;> first | (obtain rfl := Option.some.inj h; exact ⟨trivial, rfl⟩) | cases h
  case toStr => exact ⟨_, rfl, toStrE_eq h⟩
  case slice => exact ⟨_, rfl, sliceE_eq h⟩
  case fieldAddr o x =>
    refine ⟨_, rfl, ?_⟩
    generalize ev st x = d at h ⊢
    cases d <;> first | (obtain rfl := Option.some.inj h; exact ⟨trivial, rfl⟩) | cases h
  case field agg size off x =>
    refine ⟨_, rfl, ?_⟩
    generalize ev st x = d at h ⊢
    cases d <;> first | cases h | exact loadEE_eq h
  case indexAddr es x i =>
    refine ⟨_, rfl, ?_⟩
    generalize ev st x = d at h ⊢
    generalize ev st i = j at h ⊢
    unfold indexAddrE at h; unfold indexAddrV
    split at h
    · dsimp only
      split at h
      · rename_i hsz
        rw [if_pos hsz]
        obtain ⟨h1, rfl⟩ := grd_eq h
        have h2 := of_decide_eq_true h1
        exact ⟨h2, rfl⟩
      · cases h
    · dsimp only
      split at h
      · rename_i r hr
        rw [hr]
        dsimp only
        split at h
        · rename_i hsz
          rw [if_pos hsz]
          obtain ⟨h1, rfl⟩ := grd_eq h
          have h2 := of_decide_eq_true h1
          refine ⟨h2, ?_⟩
          first | rfl | (dsimp only; congr 1; unfold addN; split <;> rfl)
        · cases h
      · cases h
    · cases h
  case index x i =>
    refine ⟨_, rfl, ?_⟩
    generalize ev st x = d at h ⊢
    generalize ev st i = j at h ⊢
    unfold indexE at h; unfold indexV
    split at h
    · obtain ⟨h1, rfl⟩ := grd_eq h
      have h2 := of_decide_eq_true h1
      exact ⟨h2, rfl⟩
    · cases h
  case extract x j =>
    refine ⟨_, rfl, ?_⟩
    generalize ev st x = d at h ⊢
    cases d <;> first | cases h | skip
    rename_i ds
    dsimp only at h ⊢
    obtain ⟨h1, rfl⟩ := grd_eq h
    have h2 : j < len ds := by simpa [Nat.blt_eq] using h1
    rw [if_pos h2]; exact ⟨trivial, rfl⟩
  case makeFunc => obtain rfl := Option.some.inj h; exact ⟨_, rfl, trivial, rfl⟩
  case len s x =>
    refine ⟨_, rfl, ?_⟩
    generalize ev st x = d at h ⊢
    cases s <;> cases d <;> first | (obtain rfl := Option.some.inj h; exact ⟨trivial, rfl⟩) | cases h
  case max => exact ⟨_, rfl, mmE0_eq h⟩
  case min => exact ⟨_, rfl, mmE0_eq h⟩
  all_goals cases h
end
end Go.Sx
namespace Go.Sx

def addRowE (st : St) (κ : Nat) (r : Row) : Option St :=
  match Nat.blt κ 100000 with
  | true => (match look st.σ κ with
    | some _ => none
    | none => some ⟨st.T, ins st.σ κ r⟩)
  | false => none
def bindLE (κ : Nat) : Nat → List DV → St → Option (List DV × St)
  | _, [], st => some ([], st)
  | j, d :: l, st => match d with
    | .own sz n f => (match addRowE st (κ + 1000 * j) (.arr sz n f) with
      | some st => (match bindLE κ (j + 1) l st with | some (ds, st) => some (.ref (κ + 1000 * j) 0 n :: ds, st) | none => none)
      | none => none)
    | .obox sz d => (match addRowE st (κ + 1000 * j) (.box sz d) with
      | some st => (match bindLE κ (j + 1) l st with | some (ds, st) => some (.rptr (κ + 1000 * j) 0 0 :: ds, st) | none => none)
      | none => none)
    | d => (match bindLE κ (j + 1) l st with | some (ds, st) => some (d :: ds, st) | none => none)
def bindRE (κ : Nat) (d : DV) (st : St) : Option (DV × St) :=
  match d with
  | .own sz n f => (match addRowE st κ (.arr sz n f) with | some st => some (.ref κ 0 n, st) | none => none)
  | .obox sz d => (match addRowE st κ (.box sz d) with | some st => some (.rptr κ 0 0, st) | none => none)
  | .tup ds => (match bindLE κ 1 ds st with | some (ds, st) => some (.tup ds, st) | none => none)
  | d => some (d, st)
theorem addRowE_eq {st st' : St} {κ : Nat} {r : Row} {K : St → Prop} (h : addRowE st κ r = some st') (hK : K st') : addRow st κ r K := by
  unfold addRowE at h
  unfold addRow
  split at h
  · rename_i h1
    have h2 : κ < 100000 := by simpa [Nat.blt_eq] using h1
    rw [if_pos h2]
    split at h
    · cases h
    · rename_i h3
      rw [h3]
      obtain rfl := Option.some.inj h
      exact hK
  · cases h
theorem bindLE_eq {κ : Nat} : ∀ {l : List DV} {j : Nat} {st : St} {ds : List DV} {st' : St} {K : List DV → St → Prop}, bindLE κ j l st = some (ds, st') → K ds st' → bindL κ j l st K
  | [], j, st, ds, st', K, h, hK => by
    simp only [bindLE, Option.some.injEq, Prod.mk.injEq] at h
    obtain ⟨rfl, rfl⟩ := h
    exact hK
  | d :: l, j, st, ds, st', K, h, hK => by
    have plain : (match bindLE κ (j + 1) l st with | some (ds, st) => some (d :: ds, st) | none => none) = some (ds, st') → bindL κ (j + 1) l st fun ds st => K (d :: ds) st := by
      intro h
      split at h
      · rename_i ds1 st1 e
        simp only [Option.some.injEq, Prod.mk.injEq] at h
        obtain ⟨rfl, rfl⟩ := h
        exact bindLE_eq e hK
      · cases h
    unfold bindLE at h
    unfold bindL
    cases d
    case own sz n f =>
      dsimp only at h ⊢
      split at h
      · rename_i st1 e1
        split at h
        · rename_i ds1 st2 e2
          simp only [Option.some.injEq, Prod.mk.injEq] at h
          obtain ⟨rfl, rfl⟩ := h
          exact addRowE_eq e1 (bindLE_eq e2 hK)
        · cases h
      · cases h
    case obox sz d =>
      dsimp only at h ⊢
      split at h
      · rename_i st1 e1
        split at h
        · rename_i ds1 st2 e2
          simp only [Option.some.injEq, Prod.mk.injEq] at h
          obtain ⟨rfl, rfl⟩ := h
          exact addRowE_eq e1 (bindLE_eq e2 hK)
        · cases h
      · cases h
    all_goals exact plain h
theorem bindRE_eq {κ : Nat} {d d' : DV} {st st' : St} {K : DV → St → Prop} (h : bindRE κ d st = some (d', st')) (hK : K d' st') : bindR κ d st K := by
  unfold bindRE at h
  unfold bindR
  cases d
  case own sz n f =>
    dsimp only at h ⊢
    split at h
    · rename_i st1 e1
      simp only [Option.some.injEq, Prod.mk.injEq] at h
      obtain ⟨rfl, rfl⟩ := h
      exact addRowE_eq e1 hK
    · cases h
  case obox sz n =>
    dsimp only at h ⊢
    split at h
    · rename_i st1 e1
      simp only [Option.some.injEq, Prod.mk.injEq] at h
      obtain ⟨rfl, rfl⟩ := h
      exact addRowE_eq e1 hK
    · cases h
  case tup ds =>
    dsimp only at h ⊢
    split at h
    · rename_i ds1 st1 e1
      simp only [Option.some.injEq, Prod.mk.injEq] at h
      obtain ⟨rfl, rfl⟩ := h
      exact bindLE_eq e1 hK
    · cases h
  all_goals
    (simp only [Option.some.injEq, Prod.mk.injEq] at h
     obtain ⟨rfl, rfl⟩ := h
     exact hK)

def lendOk1B : DV → Bool
  | .own sz n f => allTo (fun i => allTo (fun j => scalarD (nth (cells (f i)) j)) sz) n
  | .agg cs => scalarL cs
  | d => scalarD d
def lendOkLB : List DV → Bool
  | [] => true
  | d :: l => match lendOk1B d with | true => lendOkLB l | false => false
def lendOkB : DV → Bool
  | .tup l => lendOkLB l
  | d => lendOk1B d
theorem lendOk1B_eq {d : DV} (h : lendOk1B d = true) : lendOk1 d := by
  cases d <;> first | exact h | skip
  exact fun i hi j hj => allTo_eq (allTo_eq h i hi) j hj
theorem lendOkLB_eq : ∀ {l : List DV}, lendOkLB l = true → lendOkL l
  | [], _ => trivial
  | d :: l, h => by
    simp only [lendOkLB] at h
    split at h
    · rename_i h1; exact ⟨lendOk1B_eq h1, lendOkLB_eq h⟩
    · cases h
theorem lendOkB_eq {d : DV} (h : lendOkB d = true) : lendOk d := by
  have plain : (∀ l, d ≠ .tup l) → lendOkB d = lendOk1B d ∧ lendOk d = lendOk1 d := by
    intro hn
    cases d <;> first | exact ⟨rfl, rfl⟩ | exact absurd rfl (hn _)
  by_cases ht : ∃ l, d = .tup l
  · obtain ⟨l, rfl⟩ := ht; exact lendOkLB_eq (l := l) h
  · obtain ⟨h1, h2⟩ := plain (fun l e => ht ⟨l, e⟩)
    rw [h2]; rw [h1] at h; exact lendOk1B_eq h

abbrev CallE := FuncId → List DV → List Row → Option (DV × List Row)
def storeE (st : St) (a : DV) (size : Nat) (vs : List DV) : Option St :=
  match a with
  | .rptr k i off => (match look st.σ k with
    | some (.box sz d) => grd (Nat.ble (off + size) sz) ⟨st.T, upd st.σ k (.box sz (setCells d off vs))⟩
    | some (.arr sz n f) => grd (Nat.ble (off + size) sz) ⟨st.T, upd st.σ k (.arr sz n (setFF f i off vs))⟩
    | none => none)
  | _ => none
def roomB (n b : Nat) : Bool := Nat.ble (n * b) 140737488355328
/-- Contents told by a list. -/
def listF (n : Nat) (f : Nat → DV) : List DV := (List.range n).map f
def emptyKeys (l : List Nat) : Bool := match l with | [] => true | _ => false
def loudE (C : CallE) (κ : Nat) (op : ROp) (st : St) : Option (DV × St) :=
  match op with
  | .alloc size zero => (match addRowE st κ (.box size zero) with | some st => some (.rptr κ 0 0, st) | none => none)
  | .box size x =>
    let st1 := st.freeze (keysOf (ev st x))
    if okCells size (ev st1 x) then (match addRowE st1 κ (.box size (ev st1 x)) with | some st => some (.rptr κ 0 0, st) | none => none) else none
  | .build zero parts =>
    let st1 := st.freeze (partKeys3 st parts)
    match fillP st1 parts zero with
      | some cs => some (.agg cs, st1)
      | none => none
  | .buildSlice esize ezero n parts =>
    let st1 := st.freeze (partKeys st parts)
    if partsOk esize st1 parts then (match addRowE st1 κ (.arr esize n (elems ezero st1 n parts)) with | some st => some (.ref κ 0 n, st) | none => none) else none
  | .store size a x =>
    let st1 := st.freeze (keysOf (ev st x))
    if okCells size (ev st1 x) then (match storeE st1 (ev st1 a) size (cells (ev st1 x)) with | some st => some (.und, st) | none => none) else none
  | .makeSlice esize ebytes ezero l c => (match ev st l, ev st c with
    | .int _ ln, .int _ cn => if decide (0 ≤ ln ∧ ln ≤ cn ∧ cn * (ebytes : Int) ≤ 140737488355328) = true then
        (match addRowE st κ (.arr esize ln.toNat (fun _ => ezero)) with | some st => some (.ref κ 0 ln.toNat, st) | none => none) else none
    | _, _ => none)
  | .pick c a b => (match boolOf (ev st c) with
    | some true => some (ev st a, st)
    | some false => some (ev st b, st)
    | none => none)
  | .call f xs => (match ev st f with
      | .fn g a b =>
        let ds := cat a (cat (evL st xs) b)
        let ds' := viewL 100000 (keysOfL ds) st.σ ds
        if emptyKeys (keysOfL ds') = true then (match C g ds' [] with
          | some (d, _) => bindRE κ d (st.freeze (keysOfL ds))
          | none => none) else none
      | _ => none)
  | .lend f xs => (match ev st f with
      | .fn g a b =>
        let ds := cat a (cat (evL st xs) b)
        let ds' := viewL 1000000000 (keysOfL ds) st.σ ds
        if emptyKeys (keysOfL ds') = true then (match C g ds' [] with
          | some (d, _) => if lendOkB d = true then bindRE κ d st else none
          | none => none) else none
      | _ => none)
  | .refs f xs => (match ev st f with
      | .fn g a b =>
        let ds := cat a (cat (evL st xs) b)
        let ks := nub [] (keysOfL ds)
        (match lookL st.σ ks with
        | some rows => (match C g (renL ks ds) rows with
          | some (d, rows') => bindRE κ (unren ks d) ⟨st.T, updL st.σ ks rows'⟩
          | none => none)
        | none => none)
      | _ => none)
  | .append esize ebytes s x => (match contE st esize (ev st x) with
    | none => none
    | some (m, g) => (match ev st s with
      | .nils => if roomB m ebytes = true then (match addRowE st κ (.arr esize m g) with | some st => some (.ref κ 0 m, st) | none => none) else none
      | .lst sz t n f => if sz = esize ∧ t = true ∧ (n = 0 ∨ 0 < m) ∧ roomB (n + m) ebytes = true then
          (match addRowE st κ (.arr esize (n + m) (appFF n f g)) with | some st => some (.ref κ 0 (n + m), st) | none => none) else none
      | .ref k o n => (match look st.σ k with
        | some (.arr sz _ f) => if sz = esize ∧ k < 100000 ∧ roomB (n + m) ebytes = true then
            (match addRowE ⟨killL k st.T, del st.σ k⟩ κ (.arr esize (n + m) (appFF n (shift o f) g)) with | some st => some (.ref κ 0 (n + m), st) | none => none) else none
        | _ => none)
      | _ => none))
  | .toBytes x => (match ev st x with
    | .str s => (match addRowE st κ (.arr 1 s.size (fun i => .int .u8 (byteF s i))) with | some st => some (.ref κ 0 s.size, st) | none => none)
    | _ => none)
  | .copy es s x => (match isStr (ev st x) with
    | true => none
    | false => (match contE st es (ev st x), ev st s with
      | some (m, g), .ref k o n => (match look st.σ k with
        | some (.arr sz n0 f) => if sz = es then some (.int .i64 ((min m n : Nat) : Int), ⟨st.T, upd st.σ k (.arr sz n0 (cpyFF o (min m n) g f))⟩) else none
        | _ => none)
      | _, _ => none))
  | .convL x => (match ev st x with
    | .ref k o n => (match look st.σ k with
      | some (.arr sz n0 f) => if sz = 1 ∧ k < 100000 ∧ rngB 1 n n = true then some (.ref k o n, ⟨st.T, upd st.σ k (.arr sz n0 f)⟩) else none
      | _ => none)
    | _ => none)
  | .nilS neg x => (match ev st x with
    | .nils => some (.bool (match neg with | true => false | false => true), st)
    | .lst _ _ n _ => if 0 < n then some (.bool neg, st) else none
    | .ref _ _ n => if 0 < n then some (.bool neg, st) else none
    | _ => none)
  | .clear es ezero s => (match ev st s with
    | .ref k o n => (match look st.σ k with
      | some (.arr sz n0 f) => if sz = es then some (.und, ⟨st.T, upd st.σ k (.arr sz n0 (clrFF o n ezero f))⟩) else none
      | _ => none)
    | _ => none)
  | _ => none

section
variable {P : Program}
theorem storeE_eq {st st' : St} {a : DV} {size : Nat} {vs : List DV} {K : DV → St → Prop} (h : storeE st a size vs = some st') (hK : K .und st') : storeV (std P) st a size vs K := by
  unfold storeE at h
  unfold storeV
  split at h
  · dsimp only
    split at h
    · rename_i e
      rw [e]
      obtain ⟨h1, rfl⟩ := grd_eq h
      dsimp only
      rw [if_pos (Nat.le_of_ble_eq_true h1)]
      exact hK
    · rename_i e
      rw [e]
      obtain ⟨h1, rfl⟩ := grd_eq h
      dsimp only
      rw [if_pos (Nat.le_of_ble_eq_true h1)]
      exact hK
    · cases h
  · cases h
theorem roomB_eq {n b : Nat} (h : roomB n b = true) : n * b ≤ 140737488355328 := Nat.le_of_ble_eq_true h
theorem emptyKeys_eq {l : List Nat} (h : emptyKeys l = true) : l = [] := by
  cases l with
  | nil => rfl
  | cons => cases h
def CallOk (P : Program) (C : CallE) : Prop := ∀ g ds rows d rs, C g ds rows = some (d, rs) → Fn P g ds rows fun d' rs' => d' = d ∧ rs' = rs
theorem some_row {o : Option St} {d d' : DV} {st' : St} (h : (match o with | some st => some (d, st) | none => none) = some (d', st')) : o = some st' ∧ d = d' := by
  split at h
  · rename_i e
    simp only [Option.some.injEq, Prod.mk.injEq] at h
    obtain ⟨rfl, rfl⟩ := h
    exact ⟨rfl, rfl⟩
  · cases h
theorem loudE_eq {C : CallE} (hC : CallOk P C) {κ : Nat} {op : ROp} {st st' : St} {d : DV} {K : DV → St → Prop} (h : loudE C κ op st = some (d, st')) (hK : K d st') : loudV (std P) κ op st K := by
  cases op <;> simp only [loudE] at h <;> first | (cases h; done) | simp only [loudV]
  case alloc =>
    obtain ⟨h1, rfl⟩ := some_row h
    exact addRowE_eq h1 hK
  case box =>
    split at h
    · rename_i hc
      rw [if_pos hc]
      obtain ⟨h1, rfl⟩ := some_row h
      exact addRowE_eq h1 hK
    · cases h
  case build =>
    split at h
    · rename_i e
      rw [e]
      simp only [Option.some.injEq, Prod.mk.injEq] at h
      obtain ⟨rfl, rfl⟩ := h
      exact hK
    · cases h
  case buildSlice =>
    split at h
    · rename_i hc
      rw [if_pos hc]
      obtain ⟨h1, rfl⟩ := some_row h
      exact addRowE_eq h1 hK
    · cases h
  case store =>
    split at h
    · rename_i hc
      rw [if_pos hc]
      obtain ⟨h1, rfl⟩ := some_row h
      exact storeE_eq h1 hK
    · cases h
  case makeSlice =>
    unfold makeV
    split at h
    · rename_i e1 e2
      rw [e1, e2]
      split at h
      · rename_i hc
        obtain ⟨h1, rfl⟩ := some_row h
        have h2 := of_decide_eq_true hc
        exact ⟨h2, addRowE_eq h1 hK⟩
      · cases h
    · cases h
  case pick c a b =>
    generalize ev st c = dc at h ⊢
    cases dc <;> first | (cases h; done) | skip
    case bool b =>
      cases b <;> (simp only [boolOf, Option.some.injEq, Prod.mk.injEq] at h; obtain ⟨rfl, rfl⟩ := h)
      · exact ⟨fun h => (by cases h), fun _ => hK⟩
      · exact ⟨fun _ => hK, fun h => (by cases h)⟩
    all_goals
      (simp only [boolOf, Option.some.injEq, Prod.mk.injEq] at h; obtain ⟨rfl, rfl⟩ := h; exact hK)
  case call f xs =>
    split at h
    · rename_i g a b e
      rw [e]
      split at h
      · rename_i hk
        split at h
        · rename_i d1 rs1 e1
          refine ⟨emptyKeys_eq hk, (hC _ _ _ _ _ e1).mono ?_⟩
          rintro d' rs' ⟨rfl, rfl⟩
          exact bindRE_eq h hK
        · cases h
      · cases h
    · cases h
  case lend f xs =>
    split at h
    · rename_i g a b e
      rw [e]
      split at h
      · rename_i hk
        split at h
        · rename_i d1 rs1 e1
          split at h
          · rename_i hl
            refine ⟨emptyKeys_eq hk, (hC _ _ _ _ _ e1).mono ?_⟩
            rintro d' rs' ⟨rfl, rfl⟩
            exact ⟨lendOkB_eq hl, bindRE_eq h hK⟩
          · cases h
        · cases h
      · cases h
    · cases h
  case refs f xs =>
    split at h
    · rename_i g a b e
      rw [e]
      split at h
      · rename_i rows e0
        split at h
        · rename_i d1 rs1 e1
          refine ⟨rows, e0, (hC _ _ _ _ _ e1).mono ?_⟩
          rintro d' rs' ⟨rfl, rfl⟩
          exact bindRE_eq h hK
        · cases h
      · cases h
    · cases h
  case append esize ebytes s x =>
    unfold appendV
    split at h
    · cases h
    · rename_i m g e
      rw [contE_eq (P := P) e]
      dsimp only
      split at h
      · rename_i e1
        rw [e1]
        split at h
        · rename_i hr
          obtain ⟨h1, rfl⟩ := some_row h
          exact ⟨roomB_eq hr, addRowE_eq h1 hK⟩
        · cases h
      · rename_i e1
        rw [e1]
        split at h
        · rename_i hr
          obtain ⟨h1, rfl⟩ := some_row h
          exact ⟨hr.1, hr.2.1, hr.2.2.1, roomB_eq hr.2.2.2, addRowE_eq h1 hK⟩
        · cases h
      · rename_i e1
        rw [e1]
        split at h
        · rename_i e2
          dsimp only
          rw [e2]
          split at h
          · rename_i hr
            obtain ⟨h1, rfl⟩ := some_row h
            exact ⟨hr.1, hr.2.1, roomB_eq hr.2.2, addRowE_eq h1 hK⟩
          · cases h
        · cases h
      · cases h
  case toBytes x =>
    unfold toBytesV
    split at h
    · rename_i e1
      rw [e1]
      obtain ⟨h1, rfl⟩ := some_row h
      exact addRowE_eq h1 hK
    · cases h
  case copy es s x =>
    unfold copyV
    split at h
    · cases h
    · rename_i hs
      simp only [hs]
      split at h
      · rename_i e1 e2
        rw [contE_eq (P := P) e1, e2]
        dsimp only
        split at h
        · rename_i e3
          rw [e3]
          split at h
          · rename_i hr
            simp only [Option.some.injEq, Prod.mk.injEq] at h
            obtain ⟨rfl, rfl⟩ := h
            exact ⟨hr, hK⟩
          · cases h
        · cases h
      · cases h
  case convL x =>
    unfold convLV
    split at h
    · rename_i e1
      rw [e1]
      dsimp only
      split at h
      · rename_i e2
        rw [e2]
        split at h
        · rename_i hr
          simp only [Option.some.injEq, Prod.mk.injEq] at h
          obtain ⟨rfl, rfl⟩ := h
          exact ⟨hr.1, hr.2.1, rngB_eq hr.2.2, hK⟩
        · cases h
      · cases h
    · cases h
  case nilS neg x =>
    unfold nilSV
    split at h
    · rename_i e1
      rw [e1]
      simp only [Option.some.injEq, Prod.mk.injEq] at h
      obtain ⟨rfl, rfl⟩ := h
      exact hK
    · rename_i e1
      rw [e1]
      split at h
      · rename_i hn
        simp only [Option.some.injEq, Prod.mk.injEq] at h
        obtain ⟨rfl, rfl⟩ := h
        refine ⟨fun _ => ?_, fun h0 => by omega⟩
        cases neg <;> exact hK
      · cases h
    · rename_i e1
      rw [e1]
      split at h
      · rename_i hn
        simp only [Option.some.injEq, Prod.mk.injEq] at h
        obtain ⟨rfl, rfl⟩ := h
        refine ⟨fun _ => ?_, fun h0 => by omega⟩
        cases neg <;> exact hK
      · cases h
    · cases h
  case clear es ez s =>
    unfold clearV
    split at h
    · rename_i e1
      rw [e1]
      split at h
      · rename_i e2
        dsimp only
        rw [e2]
        split at h
        · rename_i hr
          simp only [Option.some.injEq, Prod.mk.injEq] at h
          obtain ⟨rfl, rfl⟩ := h
          exact ⟨hr, hK⟩
        · cases h
      · cases h
    · cases h
end
end Go.Sx
namespace Go.Sx

def stepE0 (C : CallE) (o : ROper) (st : St) : Option St :=
  match quietE st o.op with
  | some v => some (st.put o.dst v)
  | none => (match loudE C (match o.dst with | some t => t | none => 999) o.op st with
    | some (d, st) => some (st.put o.dst d)
    | none => none)
def stepE (C : CallE) (o : ROper) (st : St) : Option St :=
  match o.strict with
  | false => stepE0 C o st
  | true => (match quietE st o.op with
    | some v => (match emptyKeys (keysOfL (evL st (opArgs o.op))), emptyKeys (keysOf v) with | true, true => some (st.put o.dst v) | _, _ => none)
    | none => none)
def stepGE (C : CallE) (o : ROper) (st : St) : Option St :=
  match o.guard with
  | none => stepE C o st
  | some (t, want) => (match nth st.T t with
      | .tt => (match want with | true => stepE C o st | false => some (st.put o.dst .und))
      | .ff => (match want with | true => some (st.put o.dst .und) | false => stepE C o st)
      | .bool true => (match want with | true => stepE C o ⟨setN st.T t .tt, st.σ⟩ | false => some (St.put ⟨setN st.T t .tt, st.σ⟩ o.dst .und))
      | .bool false => (match want with | true => some (St.put ⟨setN st.T t .ff, st.σ⟩ o.dst .und) | false => stepE C o ⟨setN st.T t .ff, st.σ⟩)
      | .und => some (st.put o.dst .und)
      | _ => none)
def runE (C : CallE) : List ROper → St → Option St
  | [], st => some st
  | o :: r, st => match stepGE C o st with | some st => runE C r st | none => none

section
variable {P : Program}
theorem quiet_none {st : St} {op : ROp} {q : QV} (h : quietV (std P) st op = some q) (C : CallE) (κ : Nat) : loudE C κ op st = none := by
  cases op <;> first | rfl | cases h
theorem stepE0_eq {C : CallE} (hC : CallOk P C) {o : ROper} {st st' : St} {K : St → Prop} (h : stepE0 C o st = some st') (hK : K st') : stepV0 (std P) o st K := by
  unfold stepE0 at h
  unfold stepV0
  split at h
  · rename_i v e
    obtain ⟨q, h1, h2, h3⟩ := quietE_eq (P := P) e
    rw [h1]
    obtain rfl := Option.some.inj h
    subst h3
    exact ⟨h2, hK⟩
  · cases hq : quietV (std P) st o.op with
    | some q =>
      rw [quiet_none hq] at h
      cases h
    | none =>
      dsimp only
      split at h
      · rename_i d st1 e
        obtain rfl := Option.some.inj h
        exact loudE_eq hC e hK
      · cases h
theorem stepE_eq {C : CallE} (hC : CallOk P C) {o : ROper} {st st' : St} {K : St → Prop} (h : stepE C o st = some st') (hK : K st') : stepV (std P) o st K := by
  unfold stepE at h
  unfold stepV
  split at h
  · rename_i e
    rw [e]; exact stepE0_eq hC h hK
  · rename_i e
    rw [e]
    split at h
    · rename_i v e1
      split at h
      · rename_i e2 e3
        obtain ⟨q, h1, h2, h3⟩ := quietE_eq (P := P) e1
        rw [h1]
        obtain rfl := Option.some.inj h
        subst h3
        exact ⟨emptyKeys_eq e2, emptyKeys_eq e3, h2, hK⟩
      · cases h
    · cases h
theorem stepGE_eq {C : CallE} (hC : CallOk P C) {o : ROper} {st st' : St} {K : St → Prop} (h : stepGE C o st = some st') (hK : K st') : stepG (std P) o st K := by
  unfold stepGE at h
  unfold stepG
  split at h
  · rename_i e
    rw [e]; exact stepE_eq hC h hK
  · rename_i t want e
    rw [e]
    dsimp only
    generalize hd : nth st.T t = d at h ⊢
    cases d <;> first | (cases h; done) | skip
    case bool b =>
      cases b <;> cases want <;> dsimp only at h ⊢
      · exact ⟨fun h => (by cases h), fun _ => stepE_eq hC h hK⟩
      · obtain rfl := Option.some.inj h; exact ⟨fun h => (by cases h), fun _ => hK⟩
      · obtain rfl := Option.some.inj h; exact ⟨fun _ => hK, fun h => (by cases h)⟩
      · exact ⟨fun _ => stepE_eq hC h hK, fun h => (by cases h)⟩
    case tt =>
      cases want <;> dsimp only at h ⊢
      · obtain rfl := Option.some.inj h; exact hK
      · exact stepE_eq hC h hK
    case ff =>
      cases want <;> dsimp only at h ⊢
      · exact stepE_eq hC h hK
      · obtain rfl := Option.some.inj h; exact hK
    case und => obtain rfl := Option.some.inj h; exact hK
theorem runE_eq {C : CallE} (hC : CallOk P C) : ∀ {l : List ROper} {st st' : St} {K : St → Prop}, runE C l st = some st' → K st' → runV (std P) l st K
  | [], st, st', K, h, hK => by obtain rfl := Option.some.inj h; exact hK
  | o :: r, st, st', K, h, hK => by
    simp only [runE] at h
    split at h
    · rename_i st1 e
      exact stepGE_eq hC e (runE_eq hC h hK)
    · cases h
end

/-- A function, as it is run: how many places, the code, where the results are; or what is known of it. -/
structure Ent where
  n : Nat
  rc : RCode
  ts : List RV
  orc : Option (List DV → List Row → Option (DV × List Row)) := none
abbrev Tab := FuncId → Option Ent
def resE (st : St) : List RV → Option (List DV)
  | [] => some []
  | (t, none) :: l => (match resE st l with | some r => some (nth st.T t :: r) | none => none)
  | (t, some (g, n)) :: l => (match loadVE g n st (nth st.T t), resE st l with | some d, some r => some (d :: r) | _, _ => none)
def finE (k : Nat) (ds : List DV) (st : St) : Option (DV × List Row) :=
  let F := frzF (keysOfL ds) ds
  let ds1 := viewL 100000 F st.σ ds
  let st1 := st.freeze F
  let out := outL st1.σ ds1
  match okOut out, nodupB (keysOfL ds1) with
  | true, true => (match rowsOf st1.σ 100000 k with | some rows => some (single out, rows) | none => none)
  | _, _ => none
def outE (e : Ent) (k : Nat) : Option (Ex × St) → Option (DV × List Row)
  | some (.normal, st) => (match resE st e.ts with | some ds => finE k ds st | none => none)
  | some (.ret, st) => (match resE st e.ts with | some ds => finE k ds st | none => none)
  | _ => none
def codeE (tab : Tab) : Nat → RCode → St → Option (Ex × St)
  | 0, _, _ => none
  | _ + 1, .skip, st => some (.normal, st)
  | k + 1, .region ops, st => (match runE (fun g ds rows => match tab g with
      | some e => (match e.orc with | some F => F ds rows | none => outE e rows.length (codeE tab k e.rc ⟨initT e.n ds, keyed 100000 rows⟩))
      | none => none) ops (st.ages (newKs ops)) with
    | some st => some (.normal, st)
    | none => none)
  | k + 1, .seq a b, st => (match codeE tab k a st with
    | some (.normal, st) => codeE tab k b st
    | r => r)
  | k + 1, .seqJ a b, st => (match codeE tab k a st with
    | some (.normal, st) => codeE tab k b st
    | r => r)
  | k + 1, .cond c a b, st => (match boolOf (ev st c) with
    | some true => codeE tab k a st
    | some false => codeE tab k b st
    | none => none)
  | k + 1, .block id a, st => (match codeE tab k a st with
    | some (.exit j, st) => if j = id then some (.normal, st) else some (.exit j, st)
    | r => r)
  | k + 1, .loop a, st => (match codeE tab k a st with
    | some (.normal, st) => codeE tab k (.loop a) st
    | r => r)
  | _ + 1, .exit id, st => some (.exit id, st)
  | _ + 1, .ret, st => some (.ret, st)
  | _ + 1, .bad, _ => none
def callE (tab : Tab) (k : Nat) : CallE := fun g ds rows => match tab g with
  | some e => (match e.orc with | some F => F ds rows | none => outE e rows.length (codeE tab k e.rc ⟨initT e.n ds, keyed 100000 rows⟩))
  | none => none

theorem resE_eq {P : Program} {st : St} : ∀ {ts : List RV} {ds : List DV}, resE st ts = some ds → resOb st ts ∧ resDs st ts = ds
  | [], ds, h => by obtain rfl := Option.some.inj h; exact ⟨trivial, rfl⟩
  | (t, none) :: l, ds, h => by
    simp only [resE] at h
    split at h
    · rename_i r e
      obtain rfl := Option.some.inj h
      obtain ⟨h1, h2⟩ := resE_eq (P := P) e
      exact ⟨h1, by simp only [resDs, h2]⟩
    · cases h
  | (t, some (g, n)) :: l, ds, h => by
    simp only [resE] at h
    split at h
    · rename_i d r e1 e
      obtain rfl := Option.some.inj h
      obtain ⟨h1, h2⟩ := resE_eq (P := P) e
      obtain ⟨h3, h4⟩ := loadVE_eq e1
      exact ⟨⟨h3, h1⟩, by simp only [resDs, h2, h4]⟩
    · cases h
theorem finE_eq {k : Nat} {ds : List DV} {st : St} {d : DV} {rs : List Row} {Q : DV → List Row → Prop} (h : finE k ds st = some (d, rs)) (hQ : Q d rs) : finish k Q ds st := by
  unfold finE at h
  unfold finish
  dsimp only at h ⊢
  split at h
  · rename_i e1 e2
    rw [if_pos e1, if_pos e2]
    split at h
    · rename_i rows e3
      rw [e3]
      simp only [Option.some.injEq, Prod.mk.injEq] at h
      obtain ⟨rfl, rfl⟩ := h
      exact hQ
    · cases h
  · cases h

/-! A loop's heads keep all. -/
theorem keepT_self {live keys : List Nat} : ∀ {l : List DV} {i : Nat}, (∀ t, i ≤ t → t < i + l.length → mem live t = true) → (∀ k ∈ keysOfL l, mem keys k = true) → keepT live keys i l = l
  | [], _, _, _ => rfl
  | d :: l, i, h1, h2 => by
    have hs : ∀ ks : List Nat, (∀ k ∈ ks, mem keys k = true) → subset ks keys = true := by
      intro ks
      induction ks with
      | nil => intro _; rfl
      | cons k ks ih =>
        intro h
        simp only [subset]
        rw [if_pos (h k (by simp))]
        exact ih (fun k' hk' => h k' (by simp [hk']))
    simp only [keepT]
    rw [if_pos (h1 i (Nat.le_refl _) (by simp)), if_pos (hs _ (fun k hk => h2 k (by simp only [keysOfL, List.mem_append]; exact .inl hk))),
      keepT_self (fun t a b => h1 t (by omega) (by simp only [List.length_cons]; omega)) (fun k hk => h2 k (by simp only [keysOfL, List.mem_append]; exact .inr hk))]
theorem keepS_self {keys : List Nat} : ∀ {s : Store}, (∀ k ∈ keysS s, mem keys k = true) → keepS keys s = s
  | [], _ => rfl
  | (k, r) :: s, h => by
    simp only [keepS]
    rw [if_pos (h k (by simp [keysS])), keepS_self (fun k' hk' => h k' (by simp [keysS, hk']))]
theorem mem_of {l : List Nat} {k : Nat} (h : k ∈ l) : mem l k = true := by
  induction l with
  | nil => cases h
  | cons a l ih =>
    simp only [mem]
    split
    · rfl
    · rename_i hne
      rcases List.mem_cons.1 h with e | e
      · exact absurd e.symm hne
      · exact ih e
def heads (tab : Tab) (a : RCode) : Nat → St → List St
  | 0, st => [st]
  | k + 1, st => st :: (match codeE tab k a st with
    | some (.normal, st) => heads tab a k st
    | _ => [])
def allKeys : List St → List Nat
  | [] => []
  | st :: l => keysOfL st.T ++ keysS st.σ ++ allKeys l
def maxLen' : List St → Nat
  | [] => 0
  | st :: l => Nat.max st.T.length (maxLen' l)
theorem allKeys_mem {l : List St} {s : St} (h : s ∈ l) {k : Nat} (hk : k ∈ keysOfL s.T ∨ k ∈ keysS s.σ) : k ∈ allKeys l := by
  induction l with
  | nil => cases h
  | cons a l ih =>
    simp only [allKeys, List.mem_append]
    rcases List.mem_cons.1 h with e | e
    · subst e; exact .inl hk
    · exact .inr (ih e)
theorem maxLen_le {l : List St} {s : St} (h : s ∈ l) : s.T.length ≤ maxLen' l := by
  induction l with
  | nil => cases h
  | cons a l ih =>
    simp only [maxLen']
    rcases List.mem_cons.1 h with e | e
    · subst e; exact Nat.le_max_left _ _
    · exact Nat.le_trans (ih e) (Nat.le_max_right _ _)
theorem restr_self {l : List St} {s : St} (h : s ∈ l) : s.restr (List.range (maxLen' l)) (allKeys l) = s := by
  have h1 := keepT_self (live := List.range (maxLen' l)) (keys := allKeys l) (l := s.T) (i := 0) (fun t _ ht => mem_of (by have := maxLen_le h; simp; omega)) (fun k hk => mem_of (allKeys_mem h (.inl hk)))
  have h2 := keepS_self (keys := allKeys l) (s := s.σ) (fun k hk => mem_of (allKeys_mem h (.inr hk)))
  simp only [St.restr, h1, h2]

/-- What a table holds is what the program's functions are. -/
def TabIs (P : Program) (tab : Tab) : Prop := ∀ g e, tab g = some e → (∃ F, e.orc = some F ∧ ∀ ds rows d rs, F ds rows = some (d, rs) → Fn P g ds rows fun d' rs' => d' = d ∧ rs' = rs) ∨ e.orc = none ∧ ∃ (md : Modes) (fn : Func) (body : Code), P.funcs[g]? = some fn ∧ (fn.name == "runtime.NumGoroutine") = false ∧ fn.body = some body ∧ fn.ntmps = e.n ∧ cRes P fn.results.toList = some e.ts ∧ okDraw P md body = true ∧ e.rc = comp P md body

section
variable {P : Program} {tab : Tab}
theorem codeE_eq (hm : P.follows .mixedOrders = true) (ht : TabIs P tab) : ∀ (k : Nat), (∀ (c : RCode) (st st' : St) (x : Ex) (Q : Ex → St → Prop), codeE tab k c st = some (x, st') → Q x st' → wps (std P) c Q st) ∧ CallOk P (callE tab k) := by
  intro k
  induction k using Nat.strongRecOn with
  | _ k ih =>
    have hcode : ∀ (c : RCode) (st st' : St) (x : Ex) (Q : Ex → St → Prop), codeE tab k c st = some (x, st') → Q x st' → wps (std P) c Q st := by
      cases k with
      | zero => intro c st st' x Q h; cases h
      | succ k =>
        have ihk := ih k (Nat.lt_succ_self _)
        intro c st st' x Q h hQ
        cases c with
        | skip =>
          simp only [codeE, Option.some.injEq, Prod.mk.injEq] at h
          obtain ⟨rfl, rfl⟩ := h
          exact hQ
        | exit id =>
          simp only [codeE, Option.some.injEq, Prod.mk.injEq] at h
          obtain ⟨rfl, rfl⟩ := h
          exact hQ
        | ret =>
          simp only [codeE, Option.some.injEq, Prod.mk.injEq] at h
          obtain ⟨rfl, rfl⟩ := h
          exact hQ
        | bad => cases h
        | region ops =>
          simp only [codeE] at h
          split at h
          · rename_i st1 e
            simp only [Option.some.injEq, Prod.mk.injEq] at h
            obtain ⟨rfl, rfl⟩ := h
            exact runE_eq ihk.2 e hQ
          · cases h
        | seq a b =>
          simp only [codeE] at h
          simp only [wps]
          split at h
          · rename_i st1 e
            exact ihk.1 a st st1 .normal _ e (ihk.1 b st1 st' x Q h hQ)
          · rename_i hne
            refine ihk.1 a st st' x _ h ?_
            cases x with
            | normal => exact absurd h (hne st')
            | exit j => exact hQ
            | ret => exact hQ
        | seqJ a b =>
          simp only [codeE] at h
          simp only [wps]
          split at h
          · rename_i st1 e
            exact ihk.1 a st st1 .normal _ e (.inl (ihk.1 b st1 st' x Q h hQ))
          · rename_i hne
            refine ihk.1 a st st' x _ h ?_
            cases x with
            | normal => exact absurd h (hne st')
            | exit j => exact hQ
            | ret => exact hQ
        | cond c a b =>
          simp only [codeE] at h
          simp only [wps]
          generalize ev st c = d at h ⊢
          cases d <;> first | (cases h; done) | skip
          case tt => exact ihk.1 a st st' x Q h hQ
          case ff => exact ihk.1 b st st' x Q h hQ
          case bool t =>
            cases t
            · exact ⟨fun h => (by cases h), fun _ => ihk.1 b st st' x Q h hQ⟩
            · exact ⟨fun _ => ihk.1 a st st' x Q h hQ, fun h => (by cases h)⟩
        | block id a =>
          simp only [codeE] at h
          simp only [wps]
          split at h
          · rename_i j st1 e
            refine ihk.1 a st st1 (.exit j) _ e ?_
            simp only [blockK]
            split at h
            · rename_i hj
              rw [if_pos hj]
              simp only [Option.some.injEq, Prod.mk.injEq] at h
              obtain ⟨rfl, rfl⟩ := h
              exact hQ
            · rename_i hj
              rw [if_neg hj]
              simp only [Option.some.injEq, Prod.mk.injEq] at h
              obtain ⟨rfl, rfl⟩ := h
              exact hQ
          · rename_i hne
            refine ihk.1 a st st' x _ h ?_
            cases x with
            | exit j => exact absurd h (hne j st')
            | normal => exact hQ
            | ret => exact hQ
        | loop a =>
          simp only [wps]
          have sub : ∀ (m : Nat) (s : St), codeE tab (m + 1) (.loop a) s = some (x, st') → ∀ s1, codeE tab m a s = some (.normal, s1) → codeE tab m (.loop a) s1 = some (x, st') ∧ ∀ y ∈ heads tab a m s1, y ∈ heads tab a (m + 1) s := by
            intro m s hs s1 e
            simp only [codeE, e] at hs
            refine ⟨hs, fun y hy => ?_⟩
            simp only [heads, e]
            exact List.mem_cons_of_mem _ hy
          have self : ∀ (m : Nat) (s : St), s ∈ heads tab a m s := by
            intro m s; cases m <;> simp [heads]
          refine ⟨List.range (maxLen' (heads tab a (k + 1) st)), allKeys (heads tab a (k + 1) st), [], fun m s => m ≤ k + 1 ∧ codeE tab m (.loop a) s = some (x, st') ∧ ∀ y ∈ heads tab a m s, y ∈ heads tab a (k + 1) st, ⟨k + 1, ?_⟩, ?_⟩
          · simp only [St.nilrows]
            rw [restr_self (self _ _)]
            exact ⟨Nat.le_refl _, h, fun y hy => hy⟩
          · rintro m s ⟨hle, h1, h2⟩
            cases m with
            | zero => cases h1
            | succ m =>
              have ihm := ih m (by omega)
              have h1' := h1
              simp only [codeE] at h1
              split at h1
              · rename_i s1 e
                obtain ⟨h3, h4⟩ := sub m s h1' s1 e
                refine ihm.1 a s s1 .normal _ e ?_
                refine ⟨m, by omega, ?_⟩
                simp only [St.nilrows]
                rw [restr_self (h2 _ (h4 _ (self _ _)))]
                exact ⟨by omega, h3, fun y hy => h2 y (h4 y hy)⟩
              · rename_i hne
                refine ihm.1 a s st' x _ h1 ?_
                cases x with
                | normal => exact absurd h1 (hne st')
                | exit j => exact hQ
                | ret => exact hQ
    refine ⟨hcode, ?_⟩
    intro g ds rows d rs h
    simp only [callE] at h
    split at h
    · rename_i e he
      rcases ht g e he with ⟨F, hF, hok⟩ | ⟨hno, md, fn, body, h1, h2, h3, h4, h5, h6, h7⟩
      · rw [hF] at h; exact hok _ _ _ _ h
      rw [hno] at h
      dsimp only at h
      refine fn_of_wps h1 h2 h3 h4 h5 hm h6 ?_
      rw [← h7]
      have fin : ∀ {s : St}, (match resE s e.ts with | some ds => finE rows.length ds s | none => none) = some (d, rs) → resOb s e.ts ∧ finish rows.length (fun d' rs' => d' = d ∧ rs' = rs) (resDs s e.ts) s := by
        intro s h
        split at h
        · rename_i ds1 e1
          obtain ⟨a1, a2⟩ := resE_eq (P := P) e1
          rw [a2]
          exact ⟨a1, finE_eq h ⟨rfl, rfl⟩⟩
        · cases h
      generalize hr : codeE tab k e.rc ⟨initT e.n ds, keyed 100000 rows⟩ = r at h
      unfold outE at h
      split at h
      · exact hcode _ _ _ .normal _ hr (fin h)
      · exact hcode _ _ _ .ret _ hr (fin h)
      · cases h
    · cases h
/-- What a call comes to. -/
theorem fn_run (hm : P.follows .mixedOrders = true) (ht : TabIs P tab) (k : Nat) {g : FuncId} {ds : List DV} {rows : List Row} {d : DV} {rs : List Row} (h : callE tab k g ds rows = some (d, rs)) : Fn P g ds rows fun d' rs' => d' = d ∧ rs' = rs :=
  (codeE_eq hm ht k).2 g ds rows d rs h
end
end Go.Sx
/-! The leaves, as they are met in a walk; lists behind rows. -/
namespace Go.Sx

theorem shift0 (f : Nat → DV) : shift 0 f = f := rfl
/-- Whole numbers of a kind, as a row's contents. -/
def iK (k : IntKind) (g : Nat → Int) : Nat → DV := fun i => .int k (g i)
theorem wrap_u8 {x : Int} (h1 : 0 ≤ x) (h2 : x ≤ 255) : IntKind.u8.wrap x = x := by
  simp [IntKind.wrap, IntKind.signed, IntKind.bits]; omega
theorem wrap_u64 {x : Int} (h1 : 0 ≤ x) (h2 : x ≤ 18446744073709551615) : IntKind.u64.wrap x = x := by
  simp [IntKind.wrap, IntKind.signed, IntKind.bits]; omega
theorem wrap_i64 {x : Int} (h1 : -9223372036854775808 ≤ x) (h2 : x ≤ 9223372036854775807) : IntKind.i64.wrap x = x := by
  simp [IntKind.wrap, IntKind.signed, IntKind.bits]; omega

section
variable {P : Program} {L : Leafs} (hL : ∀ {α : Type} (x : Lf α), L x = std P x)
include hL
theorem ofN (k : Nat) : L .ofNat k = (k : Int) := by rw [hL]; rfl
theorem toN (k : Nat) : L .toNat (L .ofNat k) = k := by rw [hL, hL]; rfl
theorem to0 : L .toNat 0 = 0 := by rw [hL]; rfl
theorem to1 : L .toNat 1 = 1 := by rw [hL]; rfl
theorem toI {i : Int} {k : Nat} (h : i = k) : L .toNat i = k := by rw [hL, h]; rfl
theorem inbN {i n : Nat} (h : i < n) : L .inb (L .ofNat i) n := by
  rw [hL, hL]; exact ⟨Int.natCast_nonneg i, Int.ofNat_lt.2 h⟩
theorem inb0 {n : Nat} (h : 0 < n) : L .inb 0 n := by
  rw [hL]; exact ⟨Int.le_refl 0, by omega⟩
theorem inbI {i : Int} {n : Nat} (h0 : 0 ≤ i) (h : i < n) : L .inb i n := by rw [hL]; exact ⟨h0, h⟩
theorem rngN {a b n : Nat} (h1 : a ≤ b) (h2 : b ≤ n) : L .rng a b n := by rw [hL]; exact ⟨h1, h2⟩
theorem okN (k : Nat) : L .okI (L .ofNat k) := by rw [hL, hL]; exact Int.natCast_nonneg k
theorem okI {i : Int} (h : 0 ≤ i) : L .okI i := by rw [hL]; exact h
theorem roomI {n b : Nat} (h : n * b ≤ 140737488355328) : L .room n b := by rw [hL]; exact h
theorem naddI (a b : Nat) : L .nadd a b = a + b := by rw [hL]; rfl
theorem nsubI (a b : Nat) : L .nsub a b = a - b := by rw [hL]; rfl
theorem nminI (a b : Nat) : L .nmin a b = min a b := by rw [hL]; rfl
theorem shlI {b : Int} (h : 0 ≤ b) : L .okOp .shl b := by rw [hL]; exact h
theorem shrI {b : Int} (h : 0 ≤ b) : L .okOp .shr b := by rw [hL]; exact h
theorem quoI {b : Int} (h : b ≠ 0) : L .okOp .quo b := by rw [hL]; exact h
theorem remI {b : Int} (h : b ≠ 0) : L .okOp .rem b := by rw [hL]; exact h
theorem arI (op : BinOp) (k : IntKind) (x y : Int) : L .arith op k x y = arithF op k x y := by rw [hL]; rfl
theorem add64 {x y : Int} (h1 : -9223372036854775808 ≤ x + y) (h2 : x + y ≤ 9223372036854775807) : L .arith .add .i64 x y = x + y := by rw [hL]; exact wrap_i64 h1 h2
theorem sub64 {x y : Int} (h1 : -9223372036854775808 ≤ x - y) (h2 : x - y ≤ 9223372036854775807) : L .arith .sub .i64 x y = x - y := by rw [hL]; exact wrap_i64 h1 h2
theorem mul64 {x y : Int} (h1 : -9223372036854775808 ≤ x * y) (h2 : x * y ≤ 9223372036854775807) : L .arith .mul .i64 x y = x * y := by rw [hL]; exact wrap_i64 h1 h2
theorem incN {i : Nat} (h : i + 1 ≤ 9223372036854775807) : L .arith .add .i64 (L .ofNat i) 1 = L .ofNat (i + 1) := by
  rw [add64 hL (by rw [ofN hL]; omega) (by rw [ofN hL]; omega), ofN hL, ofN hL]; omega
theorem addN2 {i j : Nat} (h : i + j ≤ 9223372036854775807) : L .arith .add .i64 (L .ofNat i) (L .ofNat j) = L .ofNat (i + j) := by
  rw [add64 hL (by rw [ofN hL, ofN hL]; omega) (by rw [ofN hL, ofN hL]; omega), ofN hL, ofN hL, ofN hL]; omega
theorem decN {i : Nat} (h : i + 1 ≤ 9223372036854775807) : L .arith .sub .i64 (L .ofNat (i + 1)) 1 = L .ofNat i := by
  rw [sub64 hL (by rw [ofN hL]; omega) (by rw [ofN hL]; omega), ofN hL, ofN hL]; omega
theorem subN {i j : Nat} (hij : j ≤ i) (h : i ≤ 9223372036854775807) : L .arith .sub .i64 (L .ofNat i) (L .ofNat j) = L .ofNat (i - j) := by
  rw [sub64 hL (by rw [ofN hL, ofN hL]; omega) (by rw [ofN hL, ofN hL]; omega), ofN hL, ofN hL, ofN hL]; omega

theorem unkI {n : Nat} {K : Bool → Prop} (h : ∀ b, (0 < n → b = false) → K b) : L .unk n K := by
  rw [hL]; exact ⟨fun h0 => h false (fun _ => rfl), fun h0 b => h b (fun h1 => absurd h1 (by omega))⟩
theorem app0 (f g : Nat → DV) : L .appF 0 f g = g := by rw [hL]; funext i; simp [std, appFF]
theorem brLt {x y : Int} {A B : Unit → Prop} (h1 : x < y → A ()) (h2 : y ≤ x → B ()) : L .br (L .cmp .lss x y) A B :=
  brI hL (fun h => h1 (by rw [hL] at h; exact of_decide_eq_true h)) (fun h => h2 (by rw [hL] at h; exact Int.not_lt.1 (of_decide_eq_false h)))
theorem brLe {x y : Int} {A B : Unit → Prop} (h1 : x ≤ y → A ()) (h2 : y < x → B ()) : L .br (L .cmp .leq x y) A B :=
  brI hL (fun h => h1 (by rw [hL] at h; exact of_decide_eq_true h)) (fun h => h2 (by rw [hL] at h; exact Int.not_le.1 (of_decide_eq_false h)))
theorem brGt {x y : Int} {A B : Unit → Prop} (h1 : y < x → A ()) (h2 : x ≤ y → B ()) : L .br (L .cmp .gtr x y) A B :=
  brI hL (fun h => h1 (by rw [hL] at h; exact of_decide_eq_true h)) (fun h => h2 (by rw [hL] at h; exact Int.not_lt.1 (of_decide_eq_false h)))
theorem brGe {x y : Int} {A B : Unit → Prop} (h1 : y ≤ x → A ()) (h2 : x < y → B ()) : L .br (L .cmp .geq x y) A B :=
  brI hL (fun h => h1 (by rw [hL] at h; exact of_decide_eq_true h)) (fun h => h2 (by rw [hL] at h; exact Int.not_le.1 (of_decide_eq_false h)))
theorem brEq {x y : Int} {A B : Unit → Prop} (h1 : x = y → A ()) (h2 : x ≠ y → B ()) : L .br (L .cmp .eql x y) A B :=
  brI hL (fun h => h1 (by rw [hL] at h; exact of_decide_eq_true h)) (fun h => h2 (by rw [hL] at h; exact of_decide_eq_false h))
theorem brNe {x y : Int} {A B : Unit → Prop} (h1 : x ≠ y → A ()) (h2 : x = y → B ()) : L .br (L .cmp .neq x y) A B :=
  brI hL (fun h => h1 (by rw [hL] at h; simpa [std, cmpF] using h)) (fun h => h2 (by rw [hL] at h; simpa [std, cmpF] using h))
theorem brLtN {x y : Nat} {A B : Unit → Prop} (h1 : x < y → A ()) (h2 : y ≤ x → B ()) : L .br (L .cmp .lss (L .ofNat x) (L .ofNat y)) A B :=
  brLt hL (fun h => h1 (by rw [ofN hL, ofN hL] at h; omega)) (fun h => h2 (by rw [ofN hL, ofN hL] at h; omega))
theorem brGtN {x y : Nat} {A B : Unit → Prop} (h1 : y < x → A ()) (h2 : x ≤ y → B ()) : L .br (L .cmp .gtr (L .ofNat x) (L .ofNat y)) A B :=
  brGt hL (fun h => h1 (by rw [ofN hL, ofN hL] at h; omega)) (fun h => h2 (by rw [ofN hL, ofN hL] at h; omega))
theorem brEqN {x y : Nat} {A B : Unit → Prop} (h1 : x = y → A ()) (h2 : x ≠ y → B ()) : L .br (L .cmp .eql (L .ofNat x) (L .ofNat y)) A B :=
  brEq hL (fun h => h1 (by rw [ofN hL, ofN hL] at h; omega)) (fun h => h2 (by rw [ofN hL, ofN hL] at h; omega))
theorem brNeN {x y : Nat} {A B : Unit → Prop} (h1 : x ≠ y → A ()) (h2 : x = y → B ()) : L .br (L .cmp .neq (L .ofNat x) (L .ofNat y)) A B :=
  brNe hL (fun h => h1 (by rw [ofN hL, ofN hL] at h; omega)) (fun h => h2 (by rw [ofN hL, ofN hL] at h; omega))
theorem brB {b : Bool} {A B : Unit → Prop} (h1 : b = true → A ()) (h2 : b = false → B ()) : L .br b A B := brI hL h1 h2
end

/-! Lists behind contents. -/
def toL (n : Nat) (g : Nat → Int) : List Int := (List.range n).map g
theorem toL_length (n : Nat) (g : Nat → Int) : (toL n g).length = n := by simp [toL]
theorem toL_get {n : Nat} {g : Nat → Int} {i : Nat} (h : i < (toL n g).length) : (toL n g)[i] = g i := by simp [toL]
theorem toL_getD {n : Nat} {g : Nat → Int} {i : Nat} (h : i < n) (d : Int) : (toL n g).getD i d = g i := by
  simp [toL, List.getD, h]
theorem toL_zero (g : Nat → Int) : toL 0 g = [] := rfl
theorem toL_succ (n : Nat) (g : Nat → Int) : toL (n + 1) g = toL n g ++ [g n] := by simp [toL, List.range_succ]
theorem toL_cons (n : Nat) (g : Nat → Int) : toL (n + 1) g = g 0 :: toL n (fun i => g (i + 1)) := by
  simp only [toL, List.range_succ_eq_map, List.map_cons, List.map_map]; rfl
theorem toL_congr {n : Nat} {g h : Nat → Int} (e : ∀ i < n, g i = h i) : toL n g = toL n h := by
  simp only [toL]
  exact List.map_congr_left fun i hi => e i (by simpa using hi)
theorem toL_eq_iff {n : Nat} {g h : Nat → Int} : toL n g = toL n h ↔ ∀ i < n, g i = h i := by
  constructor
  · intro e i hi
    have := congrArg (fun l => l.getD i 0) e
    rwa [toL_getD hi, toL_getD hi] at this
  · exact toL_congr
def appG (n : Nat) (g h : Nat → Int) : Nat → Int := fun i => if i < n then g i else h (i - n)
theorem toL_app (n m : Nat) (g h : Nat → Int) : toL (n + m) (appG n g h) = toL n g ++ toL m h := by
  apply List.ext_getElem
  · simp [toL]
  · intro i h1 h2
    rw [List.getElem_append]
    split
    · rename_i h3
      rw [toL_length] at h3
      simp only [toL_get, appG, if_pos h3]
    · rename_i h3
      rw [toL_length] at h3
      simp only [toL_get, appG, if_neg h3, toL_length]
theorem toL_one (h : Nat → Int) : toL 1 h = [h 0] := rfl
theorem toL_take {n k : Nat} (g : Nat → Int) (h : k ≤ n) : (toL n g).take k = toL k g := by
  simp [toL, ← List.map_take, List.take_range, Nat.min_eq_left h]
theorem toL_drop (n k : Nat) (g : Nat → Int) : (toL n g).drop k = toL (n - k) (fun i => g (k + i)) := by
  apply List.ext_getElem
  · simp [toL]
  · intro i h1 h2
    simp [toL]
theorem toL_upd {n : Nat} (g : Nat → Int) (j : Nat) (v : Int) : toL n (updI g j v) = (toL n g).set j v := by
  apply List.ext_getElem
  · simp [toL]
  · intro i h1 h2
    rw [List.getElem_set]
    simp only [toL_get, updI]
    by_cases h : i = j
    · simp [h]
    · rw [if_neg h, if_neg (fun e => h e.symm)]
theorem toL_const (n : Nat) (v : Int) : toL n (fun _ => v) = List.replicate n v := by
  apply List.ext_getElem <;> simp [toL]
/-- A list, as contents. -/
def ofL (l : List Int) : Nat → Int := fun i => l.getD i 0
theorem toL_ofL (l : List Int) : toL l.length (ofL l) = l := by
  apply List.ext_getElem
  · simp [toL]
  · intro i h1 h2
    simp [toL, ofL, List.getD, List.getElem?_eq_getElem h2]
section
variable {P : Program} {L : Leafs} (hL : ∀ {α : Type} (x : Lf α), L x = std P x)
include hL
theorem appK (k : IntKind) (n : Nat) (g h : Nat → Int) : L .appF n (iK k g) (iK k h) = iK k (appG n g h) := by
  rw [hL]
  funext i
  simp only [std, appFF, iK, appG]
  split <;> rfl
theorem appK1 (k : IntKind) (n : Nat) (g : Nat → Int) (v : Int) : L .appF n (iK k g) (fun _ => .int k v) = iK k (appG n g fun _ => v) := appK hL k n g fun _ => v
theorem setK (k : IntKind) (g : Nat → Int) (j : Nat) (v : Int) : L .setF (iK k g) j 0 [.int k v] = iK k (updI g j v) := by
  rw [hL]
  funext i
  simp only [std, setFF, iK, updI]
  split <;> simp [setCells, nth]
end
end Go.Sx
/-! Runs where one number is known by another road. -/
namespace Go.Sx

def takeO : Nat → List ROper → List ROper
  | 0, _ => []
  | _ + 1, [] => []
  | n + 1, o :: l => o :: takeO n l
def dropO : Nat → List ROper → List ROper
  | 0, l => l
  | _ + 1, [] => []
  | n + 1, _ :: l => dropO n l
section
variable {P : Program}
theorem runV_cut : ∀ (n : Nat) (l : List ROper) (st : St) (K : St → Prop), runV (std P) (takeO n l) st (fun st => runV (std P) (dropO n l) st K) → runV (std P) l st K
  | 0, _, _, _, h => h
  | _ + 1, [], _, _, h => h
  | n + 1, o :: l, st, K, h => by
    simp only [takeO, runV] at h ⊢
    exact stepG_mono h (fun s hs => runV_cut n l s K hs)
theorem setN_same {k : IntKind} {x : Int} : ∀ {T : List DV} {t : Nat}, nth T t = .int k x → setN T t (.int k x) = T
  | [], _, _ => rfl
  | d :: r, 0, h => by
    have h' : d = .int k x := h
    simp only [setN, h']
  | d :: r, t + 1, h => by
    simp only [setN]
    rw [setN_same (T := r) (t := t) h]

/-- A run in which, behind s steps and i operations of the next one, place t is taken to hold c; what it held is told. -/
def fixE (tab : Tab) (k : Nat) : RCode → Nat → Nat → Nat → Int → St → Option (Int × Ex × St)
  | .seq a b, s + 1, i, t, c, st => (match codeE tab k a st with
    | some (.normal, st) => fixE tab k b s i t c st
    | _ => none)
  | .seq (.region ops) b, 0, i, t, c, st => (match runE (callE tab k) (takeO i ops) (st.ages (newKs ops)) with
    | some st1 => (match nth st1.T t with
      | .int kk x => (match runE (callE tab k) (dropO i ops) ⟨setN st1.T t (.int kk c), st1.σ⟩ with
        | some st2 => (match codeE tab k b st2 with
          | some (e, st3) => some (x, e, st3)
          | none => none)
        | none => none)
      | _ => none)
    | none => none)
  | _, _, _, _, _, _ => none
theorem fixE_eq {tab : Tab} (hm : P.follows .mixedOrders = true) (ht : TabIs P tab) (k : Nat) {i t : Nat} {c x : Int} (hx : x = c) : ∀ {s : Nat} {rc : RCode} {st st' : St} {e : Ex} {Q : Ex → St → Prop}, fixE tab k rc s i t c st = some (x, e, st') → Q e st' → wps (std P) rc Q st := by
  obtain ⟨hcode, hcall⟩ := codeE_eq hm ht k
  intro s
  induction s with
  | zero =>
    intro rc st st' e Q h hQ
    cases rc <;> first | (cases h; done) | skip
    rename_i a b
    cases a <;> first | (cases h; done) | skip
    rename_i ops
    simp only [fixE] at h
    split at h
    · rename_i st1 e1
      split at h
      · rename_i kk x' e2
        split at h
        · rename_i st2 e3
          split at h
          · rename_i e' st3 e4
            simp only [Option.some.injEq, Prod.mk.injEq] at h
            obtain ⟨rfl, rfl, rfl⟩ := h
            simp only [wps]
            refine runV_cut i ops _ _ (runE_eq hcall e1 ?_)
            subst hx
            rw [setN_same e2] at e3
            exact runE_eq hcall e3 (hcode b _ _ _ _ e4 hQ)
          · cases h
        · cases h
      · cases h
    · cases h
  | succ s ih =>
    intro rc st st' e Q h hQ
    cases rc <;> first | (cases h; done) | skip
    rename_i a b
    simp only [fixE] at h
    split at h
    · rename_i st1 e1
      simp only [wps]
      exact hcode a _ _ _ _ e1 (ih h hQ)
    · cases h
/-- .. a whole function's, that returns true: what the place held. -/
def fixT (tab : Tab) (k : Nat) (g : FuncId) (s i t : Nat) (c : Int) (ds : List DV) : Option Int :=
  match tab g with
  | some en => (match en.orc with
    | some _ => none
    | none => (match fixE tab k en.rc s i t c ⟨initT en.n ds, []⟩ with
      | some (x, e, st) => (match outE en 0 (some (e, st)) with
        | some (.bool true, []) => some x
        | _ => none)
      | none => none))
  | none => none
theorem fn_fix {tab : Tab} (hm : P.follows .mixedOrders = true) (ht : TabIs P tab) (k : Nat) {g : FuncId} {s i t : Nat} {c x : Int} (hx : x = c) {ds : List DV} (h : fixT tab k g s i t c ds = some x) : Fn P g ds [] fun d _ => d = .bool true := by
  unfold fixT at h
  split at h
  · rename_i en he
    split at h
    · cases h
    · rename_i hno
      rcases ht g en he with ⟨F, hF, _⟩ | ⟨_, md, fn, body, h1, h2, h3, h4, h5, h6, h7⟩
      · rw [hF] at hno; cases hno
      split at h
      · rename_i x' e st hfix
        split at h
        · rename_i hout
          obtain rfl := Option.some.inj h
          refine fn_of_wps h1 h2 h3 h4 h5 hm h6 ?_
          rw [← h7]
          refine fixE_eq hm ht k hx hfix ?_
          have fin : ∀ {s : St}, (match resE s en.ts with | some ds => finE 0 ds s | none => none) = some (.bool true, []) → resOb s en.ts ∧ finish 0 (fun d' _ => d' = .bool true) (resDs s en.ts) s := by
            intro s h
            split at h
            · rename_i ds1 e1
              obtain ⟨a1, a2⟩ := resE_eq (P := P) e1
              rw [a2]
              exact ⟨a1, finE_eq h rfl⟩
            · cases h
          cases e with
          | normal => exact fin hout
          | ret => exact fin hout
          | exit j => cases hout
        · cases h
      · cases h
  · cases h
end
end Go.Sx
