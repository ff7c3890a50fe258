import Derived.Test.YtppaakckfolhlaaSxUse
import Derived.WalkKit
import Derived.ProofKit
import Derived.OpenShut
import Derived.JoinedCond
import Derived.WideKeyArgs
import Derived.ChangeSlices
import Derived.Deep.Slices
/-! From a contract to a law's row. -/
namespace Go.Sx
open Go.ChangeShapes Go.WideShapes Go.ChangeAt Go.RowKit

/-- All that is there before the call. -/
def allI (W : World) : Imm := fun b o => W.cell? ⟨b, o, none⟩

section
variable {H : Type} {enc : TypeId × Value → H} {P : Program}

theorem trodAll_stays (hl : laidOutB P = true) {W W' : World} {sp : Nat → Bool} (hb : Below W.heap.size W W') : ∀ {ts : List TypeId} {vs : List Value} {ds : List (DataW H)} {ps : List MemPlace}, (∀ t ∈ ts, P.readableRec t = true ∧ t < P.types.size) →
    DataW.TrodAll enc P W 0 (fun _ => true) true ts vs ds ps → (∀ p ∈ ps, p.block < W.heap.size) → (∀ p ∈ ps, sp p.block = true) → DataW.TrodAll enc P W' 0 sp true ts vs ds ps
  | [], vs, ds, ps, _, h, _, _ => by
    obtain ⟨rfl, rfl, rfl⟩ := trodAll_nil h
    exact trodAll_mk0
  | t :: ts, vs, ds, ps, ht, h, hlt, hsp => by
    obtain ⟨v, vs', d, ds', p, q, rfl, rfl, rfl, h0, h1⟩ := trodAll_cons h
    obtain ⟨r1, r2⟩ := ht t (by simp)
    have k0 := WideElems.Trod_stays (sp' := sp) hl r1 r2 h0 (fun x hx => hb.same (hlt x (by simp [hx]))) (fun x hx => hsp x (by simp [hx]))
    have k1 := trodAll_stays hl hb (fun t ht' => ht t (by simp [ht'])) h1 (fun x hx => hlt x (by simp [hx])) (fun x hx => hsp x (by simp [hx]))
    exact trodAll_cons_mk k0 k1

theorem keptBut_of_below {W W' : World} (hb : Below W.heap.size W W') (may : MemPlace → Prop) : W.keptBut W' may := by
  refine ⟨hb.os, hb.output, fun i hi => ?_⟩
  rw [hb.block i hi]
  cases h : W.heap[i]? with
  | none => simp
  | some o => cases o <;> simp

/-- A law that returns true and leaves all as it was. -/
theorem post_true (hl : laidOutB P = true) {f : Func} {s : ChangeSpec} {apart fresh handsOn again : Bool} {W W' : World} {args : Array Value} {tb : TypeId} {ds gs : List (DataW H)} {before : List MemPlace}
    (hW : DataW.Whole enc P f.params.toList s.vars apart W args.toList ds gs before) (hv : s.vars = []) (hs : s.fn H (ds ++ gs) = { results := [.lit (.bool true)], args := ds })
    (hts : ∀ t ∈ f.params.toList, P.readableRec t = true ∧ t < P.types.size) (hr : f.resultTypes = #[tb]) (htb : P.underlying tb = some .bool) (hb : Below W.heap.size W W') :
    s.post enc P f apart fresh handsOn again W args (.bool true) W' := by
  have hlt : ∀ p ∈ before, p.block < W.heap.size := fun p hp => hW.lt p hp
  obtain ⟨p, q, hA, hV, rfl, hz, hn⟩ := id hW
  rw [hv] at hV
  obtain ⟨rfl, rfl⟩ := trodVars_none hV
  simp only [List.append_nil] at hz hn hW hlt
  have hargs : ∀ sp : Nat → Bool, (∀ x ∈ p, sp x.block = true) → DataW.TrodAll enc P W' 0 sp true f.params.toList args.toList ds p := fun sp hsp => trodAll_stays hl hb hts hA hlt hsp
  have hres : ∀ (b : Nat) (sp : Nat → Bool) (hd : Bool), DataW.TrodAll enc P W' b sp hd f.resultTypes.toList ((Value.bool true).resultList f.resultTypes.size) [.lit (.bool true)] [] := by
    intro b sp hd
    rw [hr]
    exact trodAll_cons_mk (shut_bool htb true) trodAll_mk0
  have hvars : ∀ sp : Nat → Bool, DataW.TrodVars enc P W' sp s.vars (s.fn H (ds ++ [])).vars [] := by
    intro sp; rw [hs, hv]; rfl
  refine ⟨ds, [], p, [], p, [], hW, by rw [hs]; exact hres _ _ _, by rw [hs]; exact hargs _ (fun x hx => by simpa using hlt x hx), hvars _, World.keptBut_mono (fun x hx => ⟨hx, .inr (by simpa using hx)⟩) (keptBut_of_below hb (· ∈ p)), fun _ => ?_⟩
  refine ⟨fun j t r h1 h2 => ?_, _, _, ([] ++ p) ++ [], ⟨[] ++ p, [], trodAll_append (hargs _ (fun _ _ => rfl)) (hres _ _ _), hvars _, rfl, ?_, ?_⟩, ?_⟩
  · rw [hr] at h1 h2
    exact ok_one (f := f) hr rfl (okWide_bool_mk htb true) j t r (by rw [hr]; exact h1) (by rw [hr]; exact h2)
  · intro b off hp
    have hp' : MemPlace.cell b off ∈ p := by simpa using hp
    have h1 := hz b off hp'
    have h2 : W'.heap[b]? = W.heap[b]? := hb.block b (hlt _ hp')
    rw [← h1]
    exact frozen_of_heap h2 off
  · intro ha
    simpa using hn ha
  · intro x hx _
    simpa using hx

/-- .. a law's call, from its contract. -/
theorem law_calls (hl : laidOutB P = true) {g : FuncId} {f : Func} {s : ChangeSpec} {apart fresh handsOn again : Bool} {W : World} {args : Array Value} {tb : TypeId} {ds gs : List (DataW H)} {before : List MemPlace}
    (hW : DataW.Whole enc P f.params.toList s.vars apart W args.toList ds gs before) (hv : s.vars = []) (hs : s.fn H (ds ++ gs) = { results := [.lit (.bool true)], args := ds })
    (hts : ∀ t ∈ f.params.toList, P.readableRec t = true ∧ t < P.types.size) (hr : f.resultTypes = #[tb]) (htb : P.underlying tb = some .bool)
    {dvs : List DV} (hfn : Fn P g dvs [] fun d _ => d = .bool true) (hsz : args.size = dvs.length) (hrep : ∀ j < dvs.length, RepK (allI W) (fun _ => none) (nth dvs j) (args.getD j undef)) :
    Calls P g args W fun e W' => ∃ v, e = .returned v ∧ s.post enc P f apart fresh handsOn again W args v W' := by
  refine (hfn.2 W (allI W) args (fun _ => none) (fun b o v h => h) hsz hrep (rows_none _ W)).mono ?_
  rintro e W' ⟨v, d, rows', I', rfl, a2, a3, a4, a5, a6, a7, a8, rfl⟩
  have hvv : v = .bool true := by
    obtain ⟨l, h⟩ := a5
    have h' : Rep I' (.bool true) v := h
    cases h'; rfl
  subst hvv
  refine ⟨_, rfl, post_true hl hW hv hs hts hr htb ⟨a8.os, a8.tape, a8.output, a8.size, fun b hb => a8.block b hb ?_⟩⟩
  rintro ⟨κ, l, h, _⟩
  cases h

/-- An argument: a slice of whole numbers. -/
theorem rep_ints {W : World} {t e : TypeId} {k : IntKind} {v : Value} {d : DataW H} {p : List MemPlace} {sp : Nat → Bool} {hd : Bool} (ht : P.underlying t = some (.slice e)) (he : P.underlying e = some (.int k)) (hc : P.cellsOf e = 1)
    (hval : Value.okWide P W .any 0 t v) (h : DataW.Trod enc P W 0 sp hd t v d p) :
    ∃ (n : Nat) (g : Nat → Int), RepK (allI W) (fun _ => none) (.lst 1 false n (fun i => .int k (g i))) v ∧ n ≤ maxLen ∧ ∀ i < n, (Lit.int k (g i)).wf = true := by
  obtain ⟨fuel, hf⟩ := h
  obtain ⟨a0, len0, cap0, rfl⟩ := okWide_slice ht hval
  rcases open_ints ht he hc hf with ⟨hcs, _⟩ | ⟨a, len, cap, zs, hcs, hb, hl, hm, hz, hx, hcell, hw⟩
  · simp only [Value.cells, List.cons.injEq, and_true] at hcs
    refine ⟨0, fun _ => 0, ?_, Nat.zero_le _, fun i hi => absurd hi (Nat.not_lt_zero _)⟩
    have e : Value.slice a0 len0 cap0 = .slice none 0 0 := by simpa using hcs
    rw [e]
    exact nil_lst (Nat.succ_pos 0) (.pure .nils)
  · have e : Value.slice a0 len0 cap0 = .slice (some a) len cap := by simpa [Value.cells] using hcs
    rw [e]
    have hlen : len ≤ zs.length := by rw [hz]; split <;> omega
    refine ⟨len, fun i => zs.getD i 0, ?_, Nat.le_trans hl hm, fun i hi => hw _ (by
      have : i < zs.length := by omega
      simp [List.getD, List.getElem?_eq_getElem this])⟩
    obtain ⟨b, off, spot⟩ := a
    have hspot : 0 < len → spot = none := fun h => by simpa [Addr.add] using World.cell?_spot (hcell 0 (by omega))
    refine .pure (Rep.lst 1 false len _ _ cap b off (fun i _ => .int k (zs.getD i 0)) (Nat.succ_pos 0) hl (fun h => by cases h) (fun h => by rw [hspot h]) (fun i _ => ⟨rfl, fun j hj => ?_⟩) (fun i j hi hj => ?_) (fun i j hi hj => ?_))
    · obtain rfl : j = 0 := by omega
      rfl
    · obtain rfl : j = 0 := by omega
      have hs := hspot (by omega)
      subst hs
      have := hcell i (by omega)
      have e : (⟨b, off, none⟩ : Addr).add i = ⟨b, off + i, none⟩ := by
        unfold Addr.add
        split
        · rename_i h0; simp [h0]
        · rfl
      rw [e] at this
      simpa [allI] using this
    · obtain rfl : j = 0 := by omega
      exact .int _ _
/-- An argument: a whole number. -/
theorem rep_int {W : World} {t : TypeId} {k : IntKind} {v : Value} {d : DataW H} {p : List MemPlace} {sp : Nat → Bool} {hd : Bool} (ht : P.underlying t = some (.int k)) (hval : Value.okWide P W .any 0 t v) (h : DataW.Trod enc P W 0 sp hd t v d p) :
    ∃ n : Int, RepK (allI W) (fun _ => none) (.int k n) v ∧ (Lit.int k n).wf = true := by
  obtain ⟨n, rfl, _, _, hw⟩ := open_int ht hval h
  exact ⟨n, .pure (.int k n), hw⟩
end
end Go.Sx
