import Derived.Test.YtgiimddboaoneaaBiB
import Derived.Lib.BytesEntry
import Derived.Lib.Walk
/-! bytes.Compare, as a contract. -/
namespace Go.Proofs.Iter
open Go Go.Proofs Go.Sx Go.RowKit Go.Proofs.Bi

/-- The bytes of a row. -/
def bytesR (n : Nat) (f : Nat → Int) : List UInt8 := Lib.bytesOf ((List.range n).map f)
theorem run_bytes {P : Program} {w : World} {I : Imm} (hI : I.inW w) {t : Bool} {n : Nat} {f : Nat → Int} {v : Value} (h : Rep I (.lst 1 t n (iK .u8 f)) v) :
    (Extern.Bytes.bytesOf v).run P w = .ok ⟨(bytesR n f).toArray⟩ w := by
  cases h with
  | lst _ _ _ _ a cap b off val k1 k2 k3 k4 k5 k6 k7 =>
    rcases Nat.eq_zero_or_pos n with h0 | h0
    · subst h0
      cases a <;> rfl
    · obtain rfl := k4 h0
      have hc : ∀ j x, ((List.range n).map f)[j]? = some x → w.cell? ((⟨b, off, none⟩ : Addr).add j) = some (.int .u8 x) := by
        intro j x hx
        have hj : j < n := by simpa using (List.getElem?_eq_some_iff.1 hx).1
        have hfx : f j = x := by simpa [hj] using hx
        have e1 := hI _ _ _ (k6 j 0 hj (by omega))
        have e2 : Rep I (.int .u8 (f j)) (val j 0) := by simpa [iK, cells, nth] using k7 j 0 hj (by omega)
        generalize val j 0 = u at e1 e2
        cases e2
        have e : (⟨b, off, none⟩ : Addr).add j = ⟨b, off + j, none⟩ := by unfold Addr.add; split <;> simp_all
        rw [e, ← hfx]
        simpa using e1
      have hl := Lib.run_loadBytesX (P := P) w _ ⟨b, off, none⟩ .empty hc
      rw [List.length_map, List.length_range] at hl
      have he : (⟨ByteArray.empty.data ++ (Lib.bytesOf ((List.range n).map f)).toArray⟩ : ByteArray) = ⟨(bytesR n f).toArray⟩ := by
        apply ByteArray.ext
        show (#[] : Array UInt8) ++ _ = _
        simp [bytesR]
      rw [he] at hl
      exact hl
theorem run_compare {P : Program} {w : World} {I : Imm} (hI : I.inW w) {t s : Bool} {n m : Nat} {f g : Nat → Int} {u v : Value} (hu : Rep I (.lst 1 t n (iK .u8 f)) u) (hv : Rep I (.lst 1 s m (iK .u8 g)) v) :
    (Extern.BytealgCompare.compare #[u, v]).run P w = .ok (.int .i64 (Lib.compareBytes (bytesR n f) (bytesR m g))) w := by
  change Sem.run P (do pure (goInt (Extern.BytealgCompare.cmp (← Extern.Bytes.bytesOf u) (← Extern.Bytes.bytesOf v)))) w = _
  simp only [Sem.run_bind, Sem.run_pure, run_bytes hI hu, run_bytes hI hv, Result.andThen]
  rw [Lib.cmp_eq]
  rfl
set_option maxRecDepth 100000 in
set_option maxHeartbeats 1000000 in
theorem compare_calls {w : World} {I : Imm} (hI : I.inW w) {t s : Bool} {n m : Nat} {f g : Nat → Int} {u v : Value} (hu : Rep I (.lst 1 t n (iK .u8 f)) u) (hv : Rep I (.lst 1 s m (iK .u8 g)) v) :
    Calls Try.prog 95 #[u, v] w fun e w' => e = .returned (.int .i64 (Lib.compareBytes (bytesR n f) (bytesR m g))) ∧ w' = w := by
  go_enter Try.func95, Try.ntmps95
  go_wp2
  rw [run_callFunc_extern Try.func113 (by kernel_rfl) (by kernel_rfl) (by kernel_rfl) (e := Extern.BytealgCompare.compare) (by kernel_rfl), run_compare hI hu hv]
  simp only [Result.andThen]
  rw [Oper.upon_value]
  go_wp2
  go_ret
  exact ⟨rfl, rfl⟩
theorem cmp_fn (t s : Bool) (n m : Nat) (f g : Nat → Int) : Sx.Fn Try.prog 95 [.lst 1 t n (iK .u8 f), .lst 1 s m (iK .u8 g)] [] fun d _ => d = .int .i64 (Lib.compareBytes (bytesR n f) (bytesR m g)) := by
  refine ⟨⟨Try.f95, _, Try.func95, by kernel_rfl, rfl⟩, fun w I vs β h1 h2 h3 h4 => ?_⟩
  obtain rfl : β = fun _ => none := funext fun κ => h4.dom κ rfl
  have hv0 := h3 0 (by simp)
  have hv1 := h3 1 (by simp)
  have hvs : vs.size = 2 := by simpa using h2
  simp only [nth] at hv0 hv1
  have harg : vs = #[vs.getD 0 undef, vs.getD 1 undef] := by
    apply Array.ext
    · simp [hvs]
    · intro i a b
      have hi : i = 0 ∨ i = 1 := by omega
      rcases hi with rfl | rfl <;> simp [Array.getD, hvs]
  generalize vs.getD 0 undef = v0 at hv0 harg
  generalize vs.getD 1 undef = v1 at hv1 harg
  subst harg
  have r0 : Rep I (.lst 1 t n (iK .u8 f)) v0 := by cases hv0; assumption
  have r1 : Rep I (.lst 1 s m (iK .u8 g)) v1 := by cases hv1; assumption
  refine (compare_calls h1 r0 r1).mono ?_
  rintro e w' ⟨rfl, rfl⟩
  refine ⟨_, .int .i64 _, [], I, rfl, Imm.le.refl I, h1, fun _ _ _ => rfl, ?_, rows_none I _, rfl, ?_, rfl⟩
  · exact ⟨⟨none, 0, 1, 0, 0⟩, Rep.int _ _⟩
  · exact ⟨rfl, rfl, rfl, Nat.le_refl _, fun b hb' _ => rfl⟩

/-- A byte's number. -/
def byteD : DV → Int
  | .int _ x => x
  | _ => 0
def isU8 : DV → Bool
  | .int .u8 _ => true
  | _ => false
theorem isU8_eq {d : DV} (h : isU8 d = true) : .int .u8 (byteD d) = d := by
  unfold isU8 at h
  split at h
  · rfl
  · cases h
/-- What a value is, as a row of bytes. -/
def asBytes : DV → Option (Nat × (Nat → Int))
  | .lst 1 _ n f => if allTo (fun i => isU8 (f i)) n = true then some (n, fun i => byteD (f i)) else none
  | .nils => some (0, fun _ => 0)
  | _ => none
theorem asBytes_sub {d : DV} {n : Nat} {f : Nat → Int} (h : asBytes d = some (n, f)) {I : Imm} {β : Nat → Option Sx.Loc} {v : Value} (hr : RepK I β d v) : RepK I β (.lst 1 false n (iK .u8 f)) v := by
  unfold asBytes at h
  split at h
  · rename_i t m g
    split at h
    · rename_i ha
      simp only [Option.some.injEq, Prod.mk.injEq] at h
      obtain ⟨rfl, rfl⟩ := h
      cases hr with
      | pure hr => exact .pure (rep_lst_ext hr fun i hi => isU8_eq (allTo_eq ha i hi))
    · cases h
  · simp only [Option.some.injEq, Prod.mk.injEq] at h
    obtain ⟨rfl, rfl⟩ := h
    exact nil_lst (Nat.succ_pos 0) hr
  · cases h
def cmpO : List DV → List Row → Option (DV × List Row)
  | [a, b], [] => (match asBytes a, asBytes b with
    | some (n, f), some (m, g) => some (.int .i64 (Lib.compareBytes (bytesR n f) (bytesR m g)), [])
    | _, _ => none)
  | _, _ => none
theorem cmp_is : ∀ ds rows d rs, cmpO ds rows = some (d, rs) → Sx.Fn Try.prog 95 ds rows fun d' rs' => d' = d ∧ rs' = rs := by
  intro ds rows d rs h
  unfold cmpO at h
  split at h
  · rename_i a b
    split at h
    · rename_i n f m g ea eb
      simp only [Option.some.injEq, Prod.mk.injEq] at h
      obtain ⟨rfl, rfl⟩ := h
      refine (Fn.sub (ds' := [a, b]) (cmp_fn false false n m f g) rfl ?_).norows
      intro j hj I β v hr
      match j, hj with
      | 0, _ => exact asBytes_sub ea hr
      | 1, _ => exact asBytes_sub eb hr
      | j + 2, hj => exact absurd hj (by simp)
    · cases h
  · cases h

def colRO : List DV → List Row → Option (DV × List Row)
  | [.fn 112 [] [.eptr 1 1 f 0 0]], [] => (match f 0 with
    | .lst 1 _ n g => if n ≤ 1000000000000 then (if allTo (fun i => isRowD (g i)) n = true then some (.own 1 n g, []) else none) else none
    | .nils => some (.own 1 0 (fun _ => .nils), [])
    | _ => none)
  | _, _ => none
theorem colR_is : ∀ ds rows d rs, colRO ds rows = some (d, rs) → Sx.Fn Try.prog 110 ds rows fun d' rs' => d' = d ∧ rs' = rs := by
  intro ds rows d rs h
  unfold colRO at h
  split at h
  · rename_i f
    split at h
    · rename_i t n g e
      split at h
      · rename_i hn
        split at h
        · rename_i ha
          simp only [Option.some.injEq, Prod.mk.injEq] at h
          obtain ⟨rfl, rfl⟩ := h
          refine (Fn.sub (ds' := [.fn 112 [] [.eptr 1 1 f 0 0]]) (collect_ro n g (fun i hi => allTo_eq ha i hi) hn) rfl ?_).norows
          intro j hj I β v hr
          obtain rfl : j = 0 := by simp at hj; omega
          refine cap_ext (f := f) rfl rfl (by rw [e]; rfl) ?_ hr
          intro u hu
          rw [e] at hu
          exact rep_lst_ext hu (fun i hi => rfl)
        · cases h
      · cases h
    · rename_i e
      simp only [Option.some.injEq, Prod.mk.injEq] at h
      obtain ⟨rfl, rfl⟩ := h
      refine (Fn.sub (ds' := [.fn 112 [] [.eptr 1 1 f 0 0]]) (collect_ro 0 (fun _ => .nils) (fun i hi => absurd hi (Nat.not_lt_zero _)) (by omega)) rfl ?_).norows
      intro j hj I β v hr
      obtain rfl : j = 0 := by simp at hj; omega
      refine cap_ext (f := f) rfl rfl (by rw [e]; rfl) ?_ hr
      intro u hu
      rw [e] at hu
      exact rep_nil_lst (Nat.succ_pos 0) hu
    · cases h
  · cases h
end Go.Proofs.Iter
