import Derived.Test.YtgiimddboaoneaaBiR
import Derived.Test.YtgiimddboaoneaaSxD
/-! BcolForms. -/
namespace Go.Proofs.Bi
open Go Go.Sx
set_option maxRecDepth 100000
theorem awake5_run : isTrue (callE tab 4000 16 [] []) = true := by kernel_rfl
theorem awake5_fn : Sx.Fn Try.prog 16 [] [] (fun d _ => d = .bool true) := by
  have h := awake5_run
  unfold isTrue at h
  split at h
  · rename_i e
    refine (fn_run follows tab_is 4000 e).mono ?_
    rintro d rs ⟨rfl, rfl⟩
    rfl
  · cases h
def trueO : List DV → List Row → Option (DV × List Row)
  | [], [] => some (.bool true, [])
  | _, _ => none
/-- The same, with what is known of the law's own ending. -/
noncomputable def tab5 : Tab := fun g => match g with
  | 16 => some ⟨0, .skip, [], some trueO⟩
  | g => tab g
theorem tab5_is : TabIs Try.prog tab5 := by
  intro g e h
  unfold tab5 at h
  split at h
  · obtain rfl := Option.some.inj h
    refine .inl ⟨_, rfl, ?_⟩
    intro ds rows d rs h
    unfold trueO at h
    split at h
    · simp only [Option.some.injEq, Prod.mk.injEq] at h
      obtain ⟨rfl, rfl⟩ := h
      exact awake5_fn.norows
    · cases h
  · exact tab_is _ _ h
def idx17 (which : Int) : Int := arithF .rem .i64 (arithF .and .i64 which 255) 17
end Go.Proofs.Bi
