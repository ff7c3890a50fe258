import Derived.Test.YtppaakckfolhlaaStA
import Derived.Test.YtppaakckfolhlaaSxExec3
namespace Go.Proofs.Stam
open Go Go.Sx
set_option maxRecDepth 100000
noncomputable def body10 : Code := match Try.f10.body with | some c => c | none => .skip
theorem draw10 : okDraw Try.prog md body10 = true := by kernel_rfl
noncomputable def ent7 : Ent := ⟨Try.f7.ntmps, comp Try.prog md body7, resT Try.prog Try.f7.results.toList⟩
theorem ent7_is : ∃ (md : Modes) (fn : Func) (body : Code), Try.prog.funcs[7]? = some fn ∧ (fn.name == "runtime.NumGoroutine") = false ∧ fn.body = some body ∧ fn.ntmps = ent7.n ∧ cRes Try.prog fn.results.toList = some ent7.ts ∧ okDraw Try.prog md body = true ∧ ent7.rc = comp Try.prog md body :=
  ⟨md, Try.f7, body7, Try.func7, by kernel_rfl, by kernel_rfl, rfl, resT_all (by kernel_rfl), draw7, rfl⟩
noncomputable def ent8 : Ent := ⟨Try.f8.ntmps, comp Try.prog md body8, resT Try.prog Try.f8.results.toList⟩
theorem ent8_is : ∃ (md : Modes) (fn : Func) (body : Code), Try.prog.funcs[8]? = some fn ∧ (fn.name == "runtime.NumGoroutine") = false ∧ fn.body = some body ∧ fn.ntmps = ent8.n ∧ cRes Try.prog fn.results.toList = some ent8.ts ∧ okDraw Try.prog md body = true ∧ ent8.rc = comp Try.prog md body :=
  ⟨md, Try.f8, body8, Try.func8, by kernel_rfl, by kernel_rfl, rfl, resT_all (by kernel_rfl), draw8, rfl⟩
noncomputable def ent9 : Ent := ⟨Try.f9.ntmps, comp Try.prog md body9, resT Try.prog Try.f9.results.toList⟩
theorem ent9_is : ∃ (md : Modes) (fn : Func) (body : Code), Try.prog.funcs[9]? = some fn ∧ (fn.name == "runtime.NumGoroutine") = false ∧ fn.body = some body ∧ fn.ntmps = ent9.n ∧ cRes Try.prog fn.results.toList = some ent9.ts ∧ okDraw Try.prog md body = true ∧ ent9.rc = comp Try.prog md body :=
  ⟨md, Try.f9, body9, Try.func9, by kernel_rfl, by kernel_rfl, rfl, resT_all (by kernel_rfl), draw9, rfl⟩
noncomputable def ent6 : Ent := ⟨Try.f6.ntmps, comp Try.prog md body6, resT Try.prog Try.f6.results.toList⟩
theorem ent6_is : ∃ (md : Modes) (fn : Func) (body : Code), Try.prog.funcs[6]? = some fn ∧ (fn.name == "runtime.NumGoroutine") = false ∧ fn.body = some body ∧ fn.ntmps = ent6.n ∧ cRes Try.prog fn.results.toList = some ent6.ts ∧ okDraw Try.prog md body = true ∧ ent6.rc = comp Try.prog md body :=
  ⟨md, Try.f6, body6, Try.func6, by kernel_rfl, by kernel_rfl, rfl, resT_all (by kernel_rfl), draw6, rfl⟩
noncomputable def ent10 : Ent := ⟨Try.f10.ntmps, comp Try.prog md body10, resT Try.prog Try.f10.results.toList⟩
theorem ent10_is : ∃ (md : Modes) (fn : Func) (body : Code), Try.prog.funcs[10]? = some fn ∧ (fn.name == "runtime.NumGoroutine") = false ∧ fn.body = some body ∧ fn.ntmps = ent10.n ∧ cRes Try.prog fn.results.toList = some ent10.ts ∧ okDraw Try.prog md body = true ∧ ent10.rc = comp Try.prog md body :=
  ⟨md, Try.f10, body10, Try.func10, by kernel_rfl, by kernel_rfl, rfl, resT_all (by kernel_rfl), draw10, rfl⟩
noncomputable def ent11 : Ent := ⟨Try.f11.ntmps, comp Try.prog md body11, resT Try.prog Try.f11.results.toList⟩
theorem ent11_is : ∃ (md : Modes) (fn : Func) (body : Code), Try.prog.funcs[11]? = some fn ∧ (fn.name == "runtime.NumGoroutine") = false ∧ fn.body = some body ∧ fn.ntmps = ent11.n ∧ cRes Try.prog fn.results.toList = some ent11.ts ∧ okDraw Try.prog md body = true ∧ ent11.rc = comp Try.prog md body :=
  ⟨md, Try.f11, body11, Try.func11, by kernel_rfl, by kernel_rfl, rfl, resT_all (by kernel_rfl), draw11, rfl⟩
noncomputable def ent12 : Ent := ⟨Try.f12.ntmps, comp Try.prog md body12, resT Try.prog Try.f12.results.toList⟩
theorem ent12_is : ∃ (md : Modes) (fn : Func) (body : Code), Try.prog.funcs[12]? = some fn ∧ (fn.name == "runtime.NumGoroutine") = false ∧ fn.body = some body ∧ fn.ntmps = ent12.n ∧ cRes Try.prog fn.results.toList = some ent12.ts ∧ okDraw Try.prog md body = true ∧ ent12.rc = comp Try.prog md body :=
  ⟨md, Try.f12, body12, Try.func12, by kernel_rfl, by kernel_rfl, rfl, resT_all (by kernel_rfl), draw12, rfl⟩
noncomputable def ent13 : Ent := ⟨Try.f13.ntmps, comp Try.prog md body13, resT Try.prog Try.f13.results.toList⟩
theorem ent13_is : ∃ (md : Modes) (fn : Func) (body : Code), Try.prog.funcs[13]? = some fn ∧ (fn.name == "runtime.NumGoroutine") = false ∧ fn.body = some body ∧ fn.ntmps = ent13.n ∧ cRes Try.prog fn.results.toList = some ent13.ts ∧ okDraw Try.prog md body = true ∧ ent13.rc = comp Try.prog md body :=
  ⟨md, Try.f13, body13, Try.func13, by kernel_rfl, by kernel_rfl, rfl, resT_all (by kernel_rfl), draw13, rfl⟩
noncomputable def ent14 : Ent := ⟨Try.f14.ntmps, comp Try.prog md body14, resT Try.prog Try.f14.results.toList⟩
theorem ent14_is : ∃ (md : Modes) (fn : Func) (body : Code), Try.prog.funcs[14]? = some fn ∧ (fn.name == "runtime.NumGoroutine") = false ∧ fn.body = some body ∧ fn.ntmps = ent14.n ∧ cRes Try.prog fn.results.toList = some ent14.ts ∧ okDraw Try.prog md body = true ∧ ent14.rc = comp Try.prog md body :=
  ⟨md, Try.f14, body14, Try.func14, by kernel_rfl, by kernel_rfl, rfl, resT_all (by kernel_rfl), draw14, rfl⟩
noncomputable def ent15 : Ent := ⟨Try.f15.ntmps, comp Try.prog md body15, resT Try.prog Try.f15.results.toList⟩
theorem ent15_is : ∃ (md : Modes) (fn : Func) (body : Code), Try.prog.funcs[15]? = some fn ∧ (fn.name == "runtime.NumGoroutine") = false ∧ fn.body = some body ∧ fn.ntmps = ent15.n ∧ cRes Try.prog fn.results.toList = some ent15.ts ∧ okDraw Try.prog md body = true ∧ ent15.rc = comp Try.prog md body :=
  ⟨md, Try.f15, body15, Try.func15, by kernel_rfl, by kernel_rfl, rfl, resT_all (by kernel_rfl), draw15, rfl⟩
noncomputable def ent16 : Ent := ⟨Try.f16.ntmps, comp Try.prog md body16, resT Try.prog Try.f16.results.toList⟩
theorem ent16_is : ∃ (md : Modes) (fn : Func) (body : Code), Try.prog.funcs[16]? = some fn ∧ (fn.name == "runtime.NumGoroutine") = false ∧ fn.body = some body ∧ fn.ntmps = ent16.n ∧ cRes Try.prog fn.results.toList = some ent16.ts ∧ okDraw Try.prog md body = true ∧ ent16.rc = comp Try.prog md body :=
  ⟨md, Try.f16, body16, Try.func16, by kernel_rfl, by kernel_rfl, rfl, resT_all (by kernel_rfl), draw16, rfl⟩
noncomputable def ent17 : Ent := ⟨Try.f17.ntmps, comp Try.prog md body17, resT Try.prog Try.f17.results.toList⟩
theorem ent17_is : ∃ (md : Modes) (fn : Func) (body : Code), Try.prog.funcs[17]? = some fn ∧ (fn.name == "runtime.NumGoroutine") = false ∧ fn.body = some body ∧ fn.ntmps = ent17.n ∧ cRes Try.prog fn.results.toList = some ent17.ts ∧ okDraw Try.prog md body = true ∧ ent17.rc = comp Try.prog md body :=
  ⟨md, Try.f17, body17, Try.func17, by kernel_rfl, by kernel_rfl, rfl, resT_all (by kernel_rfl), draw17, rfl⟩
noncomputable def ent18 : Ent := ⟨Try.f18.ntmps, comp Try.prog md body18, resT Try.prog Try.f18.results.toList⟩
theorem ent18_is : ∃ (md : Modes) (fn : Func) (body : Code), Try.prog.funcs[18]? = some fn ∧ (fn.name == "runtime.NumGoroutine") = false ∧ fn.body = some body ∧ fn.ntmps = ent18.n ∧ cRes Try.prog fn.results.toList = some ent18.ts ∧ okDraw Try.prog md body = true ∧ ent18.rc = comp Try.prog md body :=
  ⟨md, Try.f18, body18, Try.func18, by kernel_rfl, by kernel_rfl, rfl, resT_all (by kernel_rfl), draw18, rfl⟩
noncomputable def ent19 : Ent := ⟨Try.f19.ntmps, comp Try.prog md body19, resT Try.prog Try.f19.results.toList⟩
theorem ent19_is : ∃ (md : Modes) (fn : Func) (body : Code), Try.prog.funcs[19]? = some fn ∧ (fn.name == "runtime.NumGoroutine") = false ∧ fn.body = some body ∧ fn.ntmps = ent19.n ∧ cRes Try.prog fn.results.toList = some ent19.ts ∧ okDraw Try.prog md body = true ∧ ent19.rc = comp Try.prog md body :=
  ⟨md, Try.f19, body19, Try.func19, by kernel_rfl, by kernel_rfl, rfl, resT_all (by kernel_rfl), draw19, rfl⟩
noncomputable def ent20 : Ent := ⟨Try.f20.ntmps, comp Try.prog md body20, resT Try.prog Try.f20.results.toList⟩
theorem ent20_is : ∃ (md : Modes) (fn : Func) (body : Code), Try.prog.funcs[20]? = some fn ∧ (fn.name == "runtime.NumGoroutine") = false ∧ fn.body = some body ∧ fn.ntmps = ent20.n ∧ cRes Try.prog fn.results.toList = some ent20.ts ∧ okDraw Try.prog md body = true ∧ ent20.rc = comp Try.prog md body :=
  ⟨md, Try.f20, body20, Try.func20, by kernel_rfl, by kernel_rfl, rfl, resT_all (by kernel_rfl), draw20, rfl⟩
noncomputable def ent21 : Ent := ⟨Try.f21.ntmps, comp Try.prog md body21, resT Try.prog Try.f21.results.toList⟩
theorem ent21_is : ∃ (md : Modes) (fn : Func) (body : Code), Try.prog.funcs[21]? = some fn ∧ (fn.name == "runtime.NumGoroutine") = false ∧ fn.body = some body ∧ fn.ntmps = ent21.n ∧ cRes Try.prog fn.results.toList = some ent21.ts ∧ okDraw Try.prog md body = true ∧ ent21.rc = comp Try.prog md body :=
  ⟨md, Try.f21, body21, Try.func21, by kernel_rfl, by kernel_rfl, rfl, resT_all (by kernel_rfl), draw21, rfl⟩
noncomputable def ent22 : Ent := ⟨Try.f22.ntmps, comp Try.prog md body22, resT Try.prog Try.f22.results.toList⟩
theorem ent22_is : ∃ (md : Modes) (fn : Func) (body : Code), Try.prog.funcs[22]? = some fn ∧ (fn.name == "runtime.NumGoroutine") = false ∧ fn.body = some body ∧ fn.ntmps = ent22.n ∧ cRes Try.prog fn.results.toList = some ent22.ts ∧ okDraw Try.prog md body = true ∧ ent22.rc = comp Try.prog md body :=
  ⟨md, Try.f22, body22, Try.func22, by kernel_rfl, by kernel_rfl, rfl, resT_all (by kernel_rfl), draw22, rfl⟩
noncomputable def ent28 : Ent := ⟨Try.f28.ntmps, comp Try.prog md body28, resT Try.prog Try.f28.results.toList⟩
theorem ent28_is : ∃ (md : Modes) (fn : Func) (body : Code), Try.prog.funcs[28]? = some fn ∧ (fn.name == "runtime.NumGoroutine") = false ∧ fn.body = some body ∧ fn.ntmps = ent28.n ∧ cRes Try.prog fn.results.toList = some ent28.ts ∧ okDraw Try.prog md body = true ∧ ent28.rc = comp Try.prog md body :=
  ⟨md, Try.f28, body28, Try.func28, by kernel_rfl, by kernel_rfl, rfl, resT_all (by kernel_rfl), draw28, rfl⟩
noncomputable def ent31 : Ent := ⟨Try.f31.ntmps, comp Try.prog md body31, resT Try.prog Try.f31.results.toList⟩
theorem ent31_is : ∃ (md : Modes) (fn : Func) (body : Code), Try.prog.funcs[31]? = some fn ∧ (fn.name == "runtime.NumGoroutine") = false ∧ fn.body = some body ∧ fn.ntmps = ent31.n ∧ cRes Try.prog fn.results.toList = some ent31.ts ∧ okDraw Try.prog md body = true ∧ ent31.rc = comp Try.prog md body :=
  ⟨md, Try.f31, body31, Try.func31, by kernel_rfl, by kernel_rfl, rfl, resT_all (by kernel_rfl), draw31, rfl⟩
noncomputable def ent32 : Ent := ⟨Try.f32.ntmps, comp Try.prog md body32, resT Try.prog Try.f32.results.toList⟩
theorem ent32_is : ∃ (md : Modes) (fn : Func) (body : Code), Try.prog.funcs[32]? = some fn ∧ (fn.name == "runtime.NumGoroutine") = false ∧ fn.body = some body ∧ fn.ntmps = ent32.n ∧ cRes Try.prog fn.results.toList = some ent32.ts ∧ okDraw Try.prog md body = true ∧ ent32.rc = comp Try.prog md body :=
  ⟨md, Try.f32, body32, Try.func32, by kernel_rfl, by kernel_rfl, rfl, resT_all (by kernel_rfl), draw32, rfl⟩
noncomputable def ent38 : Ent := ⟨Try.f38.ntmps, comp Try.prog md body38, resT Try.prog Try.f38.results.toList⟩
theorem ent38_is : ∃ (md : Modes) (fn : Func) (body : Code), Try.prog.funcs[38]? = some fn ∧ (fn.name == "runtime.NumGoroutine") = false ∧ fn.body = some body ∧ fn.ntmps = ent38.n ∧ cRes Try.prog fn.results.toList = some ent38.ts ∧ okDraw Try.prog md body = true ∧ ent38.rc = comp Try.prog md body :=
  ⟨md, Try.f38, body38, Try.func38, by kernel_rfl, by kernel_rfl, rfl, resT_all (by kernel_rfl), draw38, rfl⟩
noncomputable def tab : Tab := fun g => match g with
  | 7 => some ent7
  | 8 => some ent8
  | 9 => some ent9
  | 6 => some ent6
  | 10 => some ent10
  | 11 => some ent11
  | 12 => some ent12
  | 13 => some ent13
  | 14 => some ent14
  | 15 => some ent15
  | 16 => some ent16
  | 17 => some ent17
  | 18 => some ent18
  | 19 => some ent19
  | 20 => some ent20
  | 21 => some ent21
  | 22 => some ent22
  | 28 => some ent28
  | 31 => some ent31
  | 32 => some ent32
  | 38 => some ent38
  | _ => none
theorem tab_is : TabIs Try.prog tab := by
  intro g e h
  unfold tab at h
  split at h
  · obtain rfl := Option.some.inj h; exact ent7_is
  · obtain rfl := Option.some.inj h; exact ent8_is
  · obtain rfl := Option.some.inj h; exact ent9_is
  · obtain rfl := Option.some.inj h; exact ent6_is
  · obtain rfl := Option.some.inj h; exact ent10_is
  · obtain rfl := Option.some.inj h; exact ent11_is
  · obtain rfl := Option.some.inj h; exact ent12_is
  · obtain rfl := Option.some.inj h; exact ent13_is
  · obtain rfl := Option.some.inj h; exact ent14_is
  · obtain rfl := Option.some.inj h; exact ent15_is
  · obtain rfl := Option.some.inj h; exact ent16_is
  · obtain rfl := Option.some.inj h; exact ent17_is
  · obtain rfl := Option.some.inj h; exact ent18_is
  · obtain rfl := Option.some.inj h; exact ent19_is
  · obtain rfl := Option.some.inj h; exact ent20_is
  · obtain rfl := Option.some.inj h; exact ent21_is
  · obtain rfl := Option.some.inj h; exact ent22_is
  · obtain rfl := Option.some.inj h; exact ent28_is
  · obtain rfl := Option.some.inj h; exact ent31_is
  · obtain rfl := Option.some.inj h; exact ent32_is
  · obtain rfl := Option.some.inj h; exact ent38_is
  · cases h
def isTrue (o : Option (DV × List Row)) : Bool := match o with | some (.bool true, []) => true | _ => false
theorem awake_run : isTrue (callE tab 2000 7 [] []) = true := by kernel_rfl
end Go.Proofs.Stam
