/- For any list of numbers, any number and any time, the law StamEnds returns true and leaves what came in as it was. No condition. -/
import Derived.Test.YtppaakckfolhlaaRows
import Derived.Test.YtppaakckfolhlaaSxRow
import Derived.Test.YtppaakckfolhlaaStJ
namespace Go.Proofs.Ytppaakckfolhlaa.stamEnds
open Go Go.Sx Go.ChangeShapes Go.WideShapes Go.ChangeAt Go.RowKit Go.Proofs.Stam

theorem own : ownKnob Try.prog.godebug = none := by kernel_rfl
theorem laidOut : laidOutB Try.prog = true := by kernel_rfl

set_option maxRecDepth 100000 in
theorem lifted (os : Os) (started : os.Started) (H : Type) (enc : TypeId × Value → H) :
    ReturnsInHanded {} Try.checked os 3 .any (Rows.stamEndsSpec.pre6 enc Try.prog Try.f3 Rows.stamEndsRow.domain false) (Rows.stamEndsSpec.post enc Try.prog Try.f3 false true false false) := by
  refine returnsInHanded_of_change (C := Try.checked) own started (by kernel_rfl) Try.func3
    (ChangeSpec.witness6 (enc := enc) (C := Try.checked) false ⟨#[], #[.slice none 0 0, .int .i64 0, .int .i64 0], []⟩ 8 (by kernel_rfl) (by kernel_rfl) (by kernel_rfl) (by kernel_rfl)) ?_
  intro W base args ds gs before hval0 hW hcnd _
  have hval : ∀ (j : Nat) t v, Try.f3.params[j]? = some t → args[j]? = some v → Value.okWide Try.prog W .any base t v := hval0
  have hW' := hW
  obtain ⟨p, q, hA0, hV, rfl, hfz, hnd⟩ := hW
  have hA : DataW.TrodAll enc Try.prog W 0 (fun _ => true) true Try.f3.params.toList args.toList ds p := hA0
  rw [Try.params3] at hA hval
  obtain ⟨v0, v1, v2, d0, d1, d2, p0, p1, p2, rfl, rfl, rfl, h0, h1, h2⟩ := trodAll_three hA
  have ok0 : Value.okWide Try.prog W .any 0 22 v0 := hval 0 22 v0 rfl rfl
  obtain ⟨n, g, r0, _, _⟩ := rep_ints Try.underlying22 Try.underlying3 (by kernel_rfl) ok0 h0
  obtain ⟨v, r1, _⟩ := rep_int Try.underlying3 (hval 1 3 v1 rfl rfl) h1
  obtain ⟨a, r2, _⟩ := rep_int Try.underlying3 (hval 2 3 v2 rfl rfl) h2
  obtain ⟨rfl, rfl⟩ := trodVars_none hV
  refine law_calls laidOut hW' rfl rfl (by decide +kernel) rfl Try.underlying4 (ends_fn n g false v a) rfl ?_
  intro j hj
  match j with
  | 0 => exact r0
  | 1 => exact r1
  | 2 => exact r2
  | j + 3 => simp at hj; omega
theorem proved : Rows.StamEndsSaid :=
  OpenClaim.holds_of_wide 3 Try.f3 rfl rfl rfl rfl rfl rfl rfl ⟨rfl, rfl, rfl, rfl, rfl⟩ rfl rfl rfl rfl rfl (by kernel_rfl) Try.func3 (by kernel_rfl)
    (of_decide_eq_true (by kernel_rfl)) (by unfold Func.isWrapper; first | (rw [if_pos (by decide +kernel)]; kernel_rfl) | (rw [if_neg (by decide +kernel)]; exact ⟨rfl, rfl⟩))
    (fun os started H enc _ => lifted os started H enc)
#print axioms proved
end Go.Proofs.Ytppaakckfolhlaa.stamEnds
