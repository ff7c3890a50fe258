import Derived.Test.YtgiimddboaoneaaBiR
import Derived.Test.YtgiimddboaoneaaSxD
/-! IcolForms. -/
namespace Go.Proofs.Bi
open Go Go.Sx
set_option maxRecDepth 100000
theorem awake4_run : isTrue (callE tab 4000 26 [] []) = true := by kernel_rfl
theorem awake4_fn : Sx.Fn Try.prog 26 [] [] (fun d _ => d = .bool true) := by
  have h := awake4_run
  unfold isTrue at h
  split at h
  · rename_i e
    refine (fn_run follows tab_is 4000 e).mono ?_
    rintro d rs ⟨rfl, rfl⟩
    rfl
  · cases h
def trueO : List DV → List Row → Option (DV × List Row)
  | [], [] => some (.bool true, [])
  | _, _ => none
/-- The same, with what is known of the law's own ending. -/
noncomputable def tab4 : Tab := fun g => match g with
  | 26 => some ⟨0, .skip, [], some trueO⟩
  | g => tab g
theorem tab4_is : TabIs Try.prog tab4 := by
  intro g e h
  unfold tab4 at h
  split at h
  · obtain rfl := Option.some.inj h
    refine .inl ⟨_, rfl, ?_⟩
    intro ds rows d rs h
    unfold trueO at h
    split at h
    · simp only [Option.some.injEq, Prod.mk.injEq] at h
      obtain ⟨rfl, rfl⟩ := h
      exact awake4_fn.norows
    · cases h
  · exact tab_is _ _ h
def idx23 (which : Int) : Int := arithF .rem .i64 (arithF .and .i64 which 255) 23
end Go.Proofs.Bi
