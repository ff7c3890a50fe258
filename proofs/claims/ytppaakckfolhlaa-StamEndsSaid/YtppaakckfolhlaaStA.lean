import Derived.Test.YtppaakckfolhlaaProg
import Derived.Test.YtppaakckfolhlaaSxUse
import Derived.KernelRfl
/-! The bodies, and what each wants. -/
namespace Go.Proofs.Stam
open Go Go.Sx
set_option maxRecDepth 100000
/-- How each function is called. -/
def md : Modes := fun g => match g with
  | 6 => 2 | 8 => 2 | 10 => 2
  | 16 => 1 | 17 => 1 | 20 => 1 | 22 => 1
  | _ => 0
theorem follows : Try.prog.follows .mixedOrders = true := by kernel_rfl
noncomputable def body3 : Code := match Try.f3.body with | some c => c | none => .skip
theorem draw3 : okDraw Try.prog md body3 = true := by kernel_rfl
noncomputable def body4 : Code := match Try.f4.body with | some c => c | none => .skip
theorem draw4 : okDraw Try.prog md body4 = true := by kernel_rfl
noncomputable def body5 : Code := match Try.f5.body with | some c => c | none => .skip
theorem draw5 : okDraw Try.prog md body5 = true := by kernel_rfl
noncomputable def body6 : Code := match Try.f6.body with | some c => c | none => .skip
theorem draw6 : okDraw Try.prog md body6 = true := by kernel_rfl
noncomputable def body7 : Code := match Try.f7.body with | some c => c | none => .skip
theorem draw7 : okDraw Try.prog md body7 = true := by kernel_rfl
noncomputable def body8 : Code := match Try.f8.body with | some c => c | none => .skip
theorem draw8 : okDraw Try.prog md body8 = true := by kernel_rfl
noncomputable def body9 : Code := match Try.f9.body with | some c => c | none => .skip
theorem draw9 : okDraw Try.prog md body9 = true := by kernel_rfl
noncomputable def body11 : Code := match Try.f11.body with | some c => c | none => .skip
theorem draw11 : okDraw Try.prog md body11 = true := by kernel_rfl
noncomputable def body12 : Code := match Try.f12.body with | some c => c | none => .skip
theorem draw12 : okDraw Try.prog md body12 = true := by kernel_rfl
noncomputable def body13 : Code := match Try.f13.body with | some c => c | none => .skip
theorem draw13 : okDraw Try.prog md body13 = true := by kernel_rfl
noncomputable def body14 : Code := match Try.f14.body with | some c => c | none => .skip
theorem draw14 : okDraw Try.prog md body14 = true := by kernel_rfl
noncomputable def body15 : Code := match Try.f15.body with | some c => c | none => .skip
theorem draw15 : okDraw Try.prog md body15 = true := by kernel_rfl
noncomputable def body16 : Code := match Try.f16.body with | some c => c | none => .skip
theorem draw16 : okDraw Try.prog md body16 = true := by kernel_rfl
noncomputable def body17 : Code := match Try.f17.body with | some c => c | none => .skip
theorem draw17 : okDraw Try.prog md body17 = true := by kernel_rfl
noncomputable def body18 : Code := match Try.f18.body with | some c => c | none => .skip
theorem draw18 : okDraw Try.prog md body18 = true := by kernel_rfl
noncomputable def body19 : Code := match Try.f19.body with | some c => c | none => .skip
theorem draw19 : okDraw Try.prog md body19 = true := by kernel_rfl
noncomputable def body20 : Code := match Try.f20.body with | some c => c | none => .skip
theorem draw20 : okDraw Try.prog md body20 = true := by kernel_rfl
noncomputable def body21 : Code := match Try.f21.body with | some c => c | none => .skip
theorem draw21 : okDraw Try.prog md body21 = true := by kernel_rfl
noncomputable def body22 : Code := match Try.f22.body with | some c => c | none => .skip
theorem draw22 : okDraw Try.prog md body22 = true := by kernel_rfl
noncomputable def body28 : Code := match Try.f28.body with | some c => c | none => .skip
theorem draw28 : okDraw Try.prog md body28 = true := by kernel_rfl
noncomputable def body31 : Code := match Try.f31.body with | some c => c | none => .skip
theorem draw31 : okDraw Try.prog md body31 = true := by kernel_rfl
noncomputable def body32 : Code := match Try.f32.body with | some c => c | none => .skip
theorem draw32 : okDraw Try.prog md body32 = true := by kernel_rfl
noncomputable def body38 : Code := match Try.f38.body with | some c => c | none => .skip
theorem draw38 : okDraw Try.prog md body38 = true := by kernel_rfl

theorem wrap64 {x : Int} (h1 : -9223372036854775808 ≤ x) (h2 : x ≤ 9223372036854775807) : IntKind.i64.wrap x = x := by
  simp [IntKind.wrap, IntKind.signed, IntKind.bits]; omega
/-- A whole number that is a count (a name that 'cbv' does not open: it turns casts in the hypotheses). -/
def IsN (i : Int) (n : Nat) : Prop := i = n
theorem IsN.out {i : Int} {n : Nat} (h : IsN i n) : i = n := h
end Go.Proofs.Stam
