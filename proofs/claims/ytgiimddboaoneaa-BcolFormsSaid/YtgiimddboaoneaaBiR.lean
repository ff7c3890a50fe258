import Derived.Test.YtgiimddboaoneaaItC
import Derived.Test.YtgiimddboaoneaaSxD
/-! The functions, as they are run. -/
namespace Go.Proofs.Bi
open Go Go.Sx
set_option maxRecDepth 100000
noncomputable def ent3 : Ent := ⟨Try.f3.ntmps, comp Try.prog md body3, resT Try.prog Try.f3.results.toList, none⟩
theorem ent3_is : ent3.orc = none ∧ ∃ (md : Modes) (fn : Func) (body : Code), Try.prog.funcs[3]? = some fn ∧ (fn.name == "runtime.NumGoroutine") = false ∧ fn.body = some body ∧ fn.ntmps = ent3.n ∧ cRes Try.prog fn.results.toList = some ent3.ts ∧ okDraw Try.prog md body = true ∧ ent3.rc = comp Try.prog md body :=
  ⟨rfl, md, Try.f3, body3, Try.func3, by kernel_rfl, by kernel_rfl, rfl, resT_all (by kernel_rfl), draw3, rfl⟩
noncomputable def ent4 : Ent := ⟨Try.f4.ntmps, comp Try.prog md body4, resT Try.prog Try.f4.results.toList, none⟩
theorem ent4_is : ent4.orc = none ∧ ∃ (md : Modes) (fn : Func) (body : Code), Try.prog.funcs[4]? = some fn ∧ (fn.name == "runtime.NumGoroutine") = false ∧ fn.body = some body ∧ fn.ntmps = ent4.n ∧ cRes Try.prog fn.results.toList = some ent4.ts ∧ okDraw Try.prog md body = true ∧ ent4.rc = comp Try.prog md body :=
  ⟨rfl, md, Try.f4, body4, Try.func4, by kernel_rfl, by kernel_rfl, rfl, resT_all (by kernel_rfl), draw4, rfl⟩
noncomputable def ent5 : Ent := ⟨Try.f5.ntmps, comp Try.prog md body5, resT Try.prog Try.f5.results.toList, none⟩
theorem ent5_is : ent5.orc = none ∧ ∃ (md : Modes) (fn : Func) (body : Code), Try.prog.funcs[5]? = some fn ∧ (fn.name == "runtime.NumGoroutine") = false ∧ fn.body = some body ∧ fn.ntmps = ent5.n ∧ cRes Try.prog fn.results.toList = some ent5.ts ∧ okDraw Try.prog md body = true ∧ ent5.rc = comp Try.prog md body :=
  ⟨rfl, md, Try.f5, body5, Try.func5, by kernel_rfl, by kernel_rfl, rfl, resT_all (by kernel_rfl), draw5, rfl⟩
noncomputable def ent7 : Ent := ⟨Try.f7.ntmps, comp Try.prog md body7, resT Try.prog Try.f7.results.toList, none⟩
theorem ent7_is : ent7.orc = none ∧ ∃ (md : Modes) (fn : Func) (body : Code), Try.prog.funcs[7]? = some fn ∧ (fn.name == "runtime.NumGoroutine") = false ∧ fn.body = some body ∧ fn.ntmps = ent7.n ∧ cRes Try.prog fn.results.toList = some ent7.ts ∧ okDraw Try.prog md body = true ∧ ent7.rc = comp Try.prog md body :=
  ⟨rfl, md, Try.f7, body7, Try.func7, by kernel_rfl, by kernel_rfl, rfl, resT_all (by kernel_rfl), draw7, rfl⟩
noncomputable def ent8 : Ent := ⟨Try.f8.ntmps, comp Try.prog md body8, resT Try.prog Try.f8.results.toList, none⟩
theorem ent8_is : ent8.orc = none ∧ ∃ (md : Modes) (fn : Func) (body : Code), Try.prog.funcs[8]? = some fn ∧ (fn.name == "runtime.NumGoroutine") = false ∧ fn.body = some body ∧ fn.ntmps = ent8.n ∧ cRes Try.prog fn.results.toList = some ent8.ts ∧ okDraw Try.prog md body = true ∧ ent8.rc = comp Try.prog md body :=
  ⟨rfl, md, Try.f8, body8, Try.func8, by kernel_rfl, by kernel_rfl, rfl, resT_all (by kernel_rfl), draw8, rfl⟩
noncomputable def ent9 : Ent := ⟨Try.f9.ntmps, comp Try.prog md body9, resT Try.prog Try.f9.results.toList, none⟩
theorem ent9_is : ent9.orc = none ∧ ∃ (md : Modes) (fn : Func) (body : Code), Try.prog.funcs[9]? = some fn ∧ (fn.name == "runtime.NumGoroutine") = false ∧ fn.body = some body ∧ fn.ntmps = ent9.n ∧ cRes Try.prog fn.results.toList = some ent9.ts ∧ okDraw Try.prog md body = true ∧ ent9.rc = comp Try.prog md body :=
  ⟨rfl, md, Try.f9, body9, Try.func9, by kernel_rfl, by kernel_rfl, rfl, resT_all (by kernel_rfl), draw9, rfl⟩
noncomputable def ent10 : Ent := ⟨Try.f10.ntmps, comp Try.prog md body10, resT Try.prog Try.f10.results.toList, none⟩
theorem ent10_is : ent10.orc = none ∧ ∃ (md : Modes) (fn : Func) (body : Code), Try.prog.funcs[10]? = some fn ∧ (fn.name == "runtime.NumGoroutine") = false ∧ fn.body = some body ∧ fn.ntmps = ent10.n ∧ cRes Try.prog fn.results.toList = some ent10.ts ∧ okDraw Try.prog md body = true ∧ ent10.rc = comp Try.prog md body :=
  ⟨rfl, md, Try.f10, body10, Try.func10, by kernel_rfl, by kernel_rfl, rfl, resT_all (by kernel_rfl), draw10, rfl⟩
noncomputable def ent12 : Ent := ⟨Try.f12.ntmps, comp Try.prog md body12, resT Try.prog Try.f12.results.toList, none⟩
theorem ent12_is : ent12.orc = none ∧ ∃ (md : Modes) (fn : Func) (body : Code), Try.prog.funcs[12]? = some fn ∧ (fn.name == "runtime.NumGoroutine") = false ∧ fn.body = some body ∧ fn.ntmps = ent12.n ∧ cRes Try.prog fn.results.toList = some ent12.ts ∧ okDraw Try.prog md body = true ∧ ent12.rc = comp Try.prog md body :=
  ⟨rfl, md, Try.f12, body12, Try.func12, by kernel_rfl, by kernel_rfl, rfl, resT_all (by kernel_rfl), draw12, rfl⟩
noncomputable def ent13 : Ent := ⟨Try.f13.ntmps, comp Try.prog md body13, resT Try.prog Try.f13.results.toList, none⟩
theorem ent13_is : ent13.orc = none ∧ ∃ (md : Modes) (fn : Func) (body : Code), Try.prog.funcs[13]? = some fn ∧ (fn.name == "runtime.NumGoroutine") = false ∧ fn.body = some body ∧ fn.ntmps = ent13.n ∧ cRes Try.prog fn.results.toList = some ent13.ts ∧ okDraw Try.prog md body = true ∧ ent13.rc = comp Try.prog md body :=
  ⟨rfl, md, Try.f13, body13, Try.func13, by kernel_rfl, by kernel_rfl, rfl, resT_all (by kernel_rfl), draw13, rfl⟩
noncomputable def ent14 : Ent := ⟨Try.f14.ntmps, comp Try.prog md body14, resT Try.prog Try.f14.results.toList, none⟩
theorem ent14_is : ent14.orc = none ∧ ∃ (md : Modes) (fn : Func) (body : Code), Try.prog.funcs[14]? = some fn ∧ (fn.name == "runtime.NumGoroutine") = false ∧ fn.body = some body ∧ fn.ntmps = ent14.n ∧ cRes Try.prog fn.results.toList = some ent14.ts ∧ okDraw Try.prog md body = true ∧ ent14.rc = comp Try.prog md body :=
  ⟨rfl, md, Try.f14, body14, Try.func14, by kernel_rfl, by kernel_rfl, rfl, resT_all (by kernel_rfl), draw14, rfl⟩
noncomputable def ent15 : Ent := ⟨Try.f15.ntmps, comp Try.prog md body15, resT Try.prog Try.f15.results.toList, none⟩
theorem ent15_is : ent15.orc = none ∧ ∃ (md : Modes) (fn : Func) (body : Code), Try.prog.funcs[15]? = some fn ∧ (fn.name == "runtime.NumGoroutine") = false ∧ fn.body = some body ∧ fn.ntmps = ent15.n ∧ cRes Try.prog fn.results.toList = some ent15.ts ∧ okDraw Try.prog md body = true ∧ ent15.rc = comp Try.prog md body :=
  ⟨rfl, md, Try.f15, body15, Try.func15, by kernel_rfl, by kernel_rfl, rfl, resT_all (by kernel_rfl), draw15, rfl⟩
noncomputable def ent16 : Ent := ⟨Try.f16.ntmps, comp Try.prog md body16, resT Try.prog Try.f16.results.toList, none⟩
theorem ent16_is : ent16.orc = none ∧ ∃ (md : Modes) (fn : Func) (body : Code), Try.prog.funcs[16]? = some fn ∧ (fn.name == "runtime.NumGoroutine") = false ∧ fn.body = some body ∧ fn.ntmps = ent16.n ∧ cRes Try.prog fn.results.toList = some ent16.ts ∧ okDraw Try.prog md body = true ∧ ent16.rc = comp Try.prog md body :=
  ⟨rfl, md, Try.f16, body16, Try.func16, by kernel_rfl, by kernel_rfl, rfl, resT_all (by kernel_rfl), draw16, rfl⟩
noncomputable def ent17 : Ent := ⟨Try.f17.ntmps, comp Try.prog md body17, resT Try.prog Try.f17.results.toList, none⟩
theorem ent17_is : ent17.orc = none ∧ ∃ (md : Modes) (fn : Func) (body : Code), Try.prog.funcs[17]? = some fn ∧ (fn.name == "runtime.NumGoroutine") = false ∧ fn.body = some body ∧ fn.ntmps = ent17.n ∧ cRes Try.prog fn.results.toList = some ent17.ts ∧ okDraw Try.prog md body = true ∧ ent17.rc = comp Try.prog md body :=
  ⟨rfl, md, Try.f17, body17, Try.func17, by kernel_rfl, by kernel_rfl, rfl, resT_all (by kernel_rfl), draw17, rfl⟩
noncomputable def ent18 : Ent := ⟨Try.f18.ntmps, comp Try.prog md body18, resT Try.prog Try.f18.results.toList, none⟩
theorem ent18_is : ent18.orc = none ∧ ∃ (md : Modes) (fn : Func) (body : Code), Try.prog.funcs[18]? = some fn ∧ (fn.name == "runtime.NumGoroutine") = false ∧ fn.body = some body ∧ fn.ntmps = ent18.n ∧ cRes Try.prog fn.results.toList = some ent18.ts ∧ okDraw Try.prog md body = true ∧ ent18.rc = comp Try.prog md body :=
  ⟨rfl, md, Try.f18, body18, Try.func18, by kernel_rfl, by kernel_rfl, rfl, resT_all (by kernel_rfl), draw18, rfl⟩
noncomputable def ent19 : Ent := ⟨Try.f19.ntmps, comp Try.prog md body19, resT Try.prog Try.f19.results.toList, none⟩
theorem ent19_is : ent19.orc = none ∧ ∃ (md : Modes) (fn : Func) (body : Code), Try.prog.funcs[19]? = some fn ∧ (fn.name == "runtime.NumGoroutine") = false ∧ fn.body = some body ∧ fn.ntmps = ent19.n ∧ cRes Try.prog fn.results.toList = some ent19.ts ∧ okDraw Try.prog md body = true ∧ ent19.rc = comp Try.prog md body :=
  ⟨rfl, md, Try.f19, body19, Try.func19, by kernel_rfl, by kernel_rfl, rfl, resT_all (by kernel_rfl), draw19, rfl⟩
noncomputable def ent20 : Ent := ⟨Try.f20.ntmps, comp Try.prog md body20, resT Try.prog Try.f20.results.toList, none⟩
theorem ent20_is : ent20.orc = none ∧ ∃ (md : Modes) (fn : Func) (body : Code), Try.prog.funcs[20]? = some fn ∧ (fn.name == "runtime.NumGoroutine") = false ∧ fn.body = some body ∧ fn.ntmps = ent20.n ∧ cRes Try.prog fn.results.toList = some ent20.ts ∧ okDraw Try.prog md body = true ∧ ent20.rc = comp Try.prog md body :=
  ⟨rfl, md, Try.f20, body20, Try.func20, by kernel_rfl, by kernel_rfl, rfl, resT_all (by kernel_rfl), draw20, rfl⟩
noncomputable def ent21 : Ent := ⟨Try.f21.ntmps, comp Try.prog md body21, resT Try.prog Try.f21.results.toList, none⟩
theorem ent21_is : ent21.orc = none ∧ ∃ (md : Modes) (fn : Func) (body : Code), Try.prog.funcs[21]? = some fn ∧ (fn.name == "runtime.NumGoroutine") = false ∧ fn.body = some body ∧ fn.ntmps = ent21.n ∧ cRes Try.prog fn.results.toList = some ent21.ts ∧ okDraw Try.prog md body = true ∧ ent21.rc = comp Try.prog md body :=
  ⟨rfl, md, Try.f21, body21, Try.func21, by kernel_rfl, by kernel_rfl, rfl, resT_all (by kernel_rfl), draw21, rfl⟩
noncomputable def ent22 : Ent := ⟨Try.f22.ntmps, comp Try.prog md body22, resT Try.prog Try.f22.results.toList, none⟩
theorem ent22_is : ent22.orc = none ∧ ∃ (md : Modes) (fn : Func) (body : Code), Try.prog.funcs[22]? = some fn ∧ (fn.name == "runtime.NumGoroutine") = false ∧ fn.body = some body ∧ fn.ntmps = ent22.n ∧ cRes Try.prog fn.results.toList = some ent22.ts ∧ okDraw Try.prog md body = true ∧ ent22.rc = comp Try.prog md body :=
  ⟨rfl, md, Try.f22, body22, Try.func22, by kernel_rfl, by kernel_rfl, rfl, resT_all (by kernel_rfl), draw22, rfl⟩
noncomputable def ent23 : Ent := ⟨Try.f23.ntmps, comp Try.prog md body23, resT Try.prog Try.f23.results.toList, none⟩
theorem ent23_is : ent23.orc = none ∧ ∃ (md : Modes) (fn : Func) (body : Code), Try.prog.funcs[23]? = some fn ∧ (fn.name == "runtime.NumGoroutine") = false ∧ fn.body = some body ∧ fn.ntmps = ent23.n ∧ cRes Try.prog fn.results.toList = some ent23.ts ∧ okDraw Try.prog md body = true ∧ ent23.rc = comp Try.prog md body :=
  ⟨rfl, md, Try.f23, body23, Try.func23, by kernel_rfl, by kernel_rfl, rfl, resT_all (by kernel_rfl), draw23, rfl⟩
noncomputable def ent24 : Ent := ⟨Try.f24.ntmps, comp Try.prog md body24, resT Try.prog Try.f24.results.toList, none⟩
theorem ent24_is : ent24.orc = none ∧ ∃ (md : Modes) (fn : Func) (body : Code), Try.prog.funcs[24]? = some fn ∧ (fn.name == "runtime.NumGoroutine") = false ∧ fn.body = some body ∧ fn.ntmps = ent24.n ∧ cRes Try.prog fn.results.toList = some ent24.ts ∧ okDraw Try.prog md body = true ∧ ent24.rc = comp Try.prog md body :=
  ⟨rfl, md, Try.f24, body24, Try.func24, by kernel_rfl, by kernel_rfl, rfl, resT_all (by kernel_rfl), draw24, rfl⟩
noncomputable def ent25 : Ent := ⟨Try.f25.ntmps, comp Try.prog md body25, resT Try.prog Try.f25.results.toList, none⟩
theorem ent25_is : ent25.orc = none ∧ ∃ (md : Modes) (fn : Func) (body : Code), Try.prog.funcs[25]? = some fn ∧ (fn.name == "runtime.NumGoroutine") = false ∧ fn.body = some body ∧ fn.ntmps = ent25.n ∧ cRes Try.prog fn.results.toList = some ent25.ts ∧ okDraw Try.prog md body = true ∧ ent25.rc = comp Try.prog md body :=
  ⟨rfl, md, Try.f25, body25, Try.func25, by kernel_rfl, by kernel_rfl, rfl, resT_all (by kernel_rfl), draw25, rfl⟩
noncomputable def ent26 : Ent := ⟨Try.f26.ntmps, comp Try.prog md body26, resT Try.prog Try.f26.results.toList, none⟩
theorem ent26_is : ent26.orc = none ∧ ∃ (md : Modes) (fn : Func) (body : Code), Try.prog.funcs[26]? = some fn ∧ (fn.name == "runtime.NumGoroutine") = false ∧ fn.body = some body ∧ fn.ntmps = ent26.n ∧ cRes Try.prog fn.results.toList = some ent26.ts ∧ okDraw Try.prog md body = true ∧ ent26.rc = comp Try.prog md body :=
  ⟨rfl, md, Try.f26, body26, Try.func26, by kernel_rfl, by kernel_rfl, rfl, resT_all (by kernel_rfl), draw26, rfl⟩
noncomputable def ent27 : Ent := ⟨Try.f27.ntmps, comp Try.prog md body27, resT Try.prog Try.f27.results.toList, none⟩
theorem ent27_is : ent27.orc = none ∧ ∃ (md : Modes) (fn : Func) (body : Code), Try.prog.funcs[27]? = some fn ∧ (fn.name == "runtime.NumGoroutine") = false ∧ fn.body = some body ∧ fn.ntmps = ent27.n ∧ cRes Try.prog fn.results.toList = some ent27.ts ∧ okDraw Try.prog md body = true ∧ ent27.rc = comp Try.prog md body :=
  ⟨rfl, md, Try.f27, body27, Try.func27, by kernel_rfl, by kernel_rfl, rfl, resT_all (by kernel_rfl), draw27, rfl⟩
noncomputable def ent28 : Ent := ⟨Try.f28.ntmps, comp Try.prog md body28, resT Try.prog Try.f28.results.toList, none⟩
theorem ent28_is : ent28.orc = none ∧ ∃ (md : Modes) (fn : Func) (body : Code), Try.prog.funcs[28]? = some fn ∧ (fn.name == "runtime.NumGoroutine") = false ∧ fn.body = some body ∧ fn.ntmps = ent28.n ∧ cRes Try.prog fn.results.toList = some ent28.ts ∧ okDraw Try.prog md body = true ∧ ent28.rc = comp Try.prog md body :=
  ⟨rfl, md, Try.f28, body28, Try.func28, by kernel_rfl, by kernel_rfl, rfl, resT_all (by kernel_rfl), draw28, rfl⟩
noncomputable def ent29 : Ent := ⟨Try.f29.ntmps, comp Try.prog md body29, resT Try.prog Try.f29.results.toList, none⟩
theorem ent29_is : ent29.orc = none ∧ ∃ (md : Modes) (fn : Func) (body : Code), Try.prog.funcs[29]? = some fn ∧ (fn.name == "runtime.NumGoroutine") = false ∧ fn.body = some body ∧ fn.ntmps = ent29.n ∧ cRes Try.prog fn.results.toList = some ent29.ts ∧ okDraw Try.prog md body = true ∧ ent29.rc = comp Try.prog md body :=
  ⟨rfl, md, Try.f29, body29, Try.func29, by kernel_rfl, by kernel_rfl, rfl, resT_all (by kernel_rfl), draw29, rfl⟩
noncomputable def ent30 : Ent := ⟨Try.f30.ntmps, comp Try.prog md body30, resT Try.prog Try.f30.results.toList, none⟩
theorem ent30_is : ent30.orc = none ∧ ∃ (md : Modes) (fn : Func) (body : Code), Try.prog.funcs[30]? = some fn ∧ (fn.name == "runtime.NumGoroutine") = false ∧ fn.body = some body ∧ fn.ntmps = ent30.n ∧ cRes Try.prog fn.results.toList = some ent30.ts ∧ okDraw Try.prog md body = true ∧ ent30.rc = comp Try.prog md body :=
  ⟨rfl, md, Try.f30, body30, Try.func30, by kernel_rfl, by kernel_rfl, rfl, resT_all (by kernel_rfl), draw30, rfl⟩
noncomputable def ent31 : Ent := ⟨Try.f31.ntmps, comp Try.prog md body31, resT Try.prog Try.f31.results.toList, none⟩
theorem ent31_is : ent31.orc = none ∧ ∃ (md : Modes) (fn : Func) (body : Code), Try.prog.funcs[31]? = some fn ∧ (fn.name == "runtime.NumGoroutine") = false ∧ fn.body = some body ∧ fn.ntmps = ent31.n ∧ cRes Try.prog fn.results.toList = some ent31.ts ∧ okDraw Try.prog md body = true ∧ ent31.rc = comp Try.prog md body :=
  ⟨rfl, md, Try.f31, body31, Try.func31, by kernel_rfl, by kernel_rfl, rfl, resT_all (by kernel_rfl), draw31, rfl⟩
noncomputable def ent32 : Ent := ⟨Try.f32.ntmps, comp Try.prog md body32, resT Try.prog Try.f32.results.toList, none⟩
theorem ent32_is : ent32.orc = none ∧ ∃ (md : Modes) (fn : Func) (body : Code), Try.prog.funcs[32]? = some fn ∧ (fn.name == "runtime.NumGoroutine") = false ∧ fn.body = some body ∧ fn.ntmps = ent32.n ∧ cRes Try.prog fn.results.toList = some ent32.ts ∧ okDraw Try.prog md body = true ∧ ent32.rc = comp Try.prog md body :=
  ⟨rfl, md, Try.f32, body32, Try.func32, by kernel_rfl, by kernel_rfl, rfl, resT_all (by kernel_rfl), draw32, rfl⟩
noncomputable def ent33 : Ent := ⟨Try.f33.ntmps, comp Try.prog md body33, resT Try.prog Try.f33.results.toList, none⟩
theorem ent33_is : ent33.orc = none ∧ ∃ (md : Modes) (fn : Func) (body : Code), Try.prog.funcs[33]? = some fn ∧ (fn.name == "runtime.NumGoroutine") = false ∧ fn.body = some body ∧ fn.ntmps = ent33.n ∧ cRes Try.prog fn.results.toList = some ent33.ts ∧ okDraw Try.prog md body = true ∧ ent33.rc = comp Try.prog md body :=
  ⟨rfl, md, Try.f33, body33, Try.func33, by kernel_rfl, by kernel_rfl, rfl, resT_all (by kernel_rfl), draw33, rfl⟩
noncomputable def ent34 : Ent := ⟨Try.f34.ntmps, comp Try.prog md body34, resT Try.prog Try.f34.results.toList, none⟩
theorem ent34_is : ent34.orc = none ∧ ∃ (md : Modes) (fn : Func) (body : Code), Try.prog.funcs[34]? = some fn ∧ (fn.name == "runtime.NumGoroutine") = false ∧ fn.body = some body ∧ fn.ntmps = ent34.n ∧ cRes Try.prog fn.results.toList = some ent34.ts ∧ okDraw Try.prog md body = true ∧ ent34.rc = comp Try.prog md body :=
  ⟨rfl, md, Try.f34, body34, Try.func34, by kernel_rfl, by kernel_rfl, rfl, resT_all (by kernel_rfl), draw34, rfl⟩
noncomputable def ent35 : Ent := ⟨Try.f35.ntmps, comp Try.prog md body35, resT Try.prog Try.f35.results.toList, none⟩
theorem ent35_is : ent35.orc = none ∧ ∃ (md : Modes) (fn : Func) (body : Code), Try.prog.funcs[35]? = some fn ∧ (fn.name == "runtime.NumGoroutine") = false ∧ fn.body = some body ∧ fn.ntmps = ent35.n ∧ cRes Try.prog fn.results.toList = some ent35.ts ∧ okDraw Try.prog md body = true ∧ ent35.rc = comp Try.prog md body :=
  ⟨rfl, md, Try.f35, body35, Try.func35, by kernel_rfl, by kernel_rfl, rfl, resT_all (by kernel_rfl), draw35, rfl⟩
noncomputable def ent36 : Ent := ⟨Try.f36.ntmps, comp Try.prog md body36, resT Try.prog Try.f36.results.toList, none⟩
theorem ent36_is : ent36.orc = none ∧ ∃ (md : Modes) (fn : Func) (body : Code), Try.prog.funcs[36]? = some fn ∧ (fn.name == "runtime.NumGoroutine") = false ∧ fn.body = some body ∧ fn.ntmps = ent36.n ∧ cRes Try.prog fn.results.toList = some ent36.ts ∧ okDraw Try.prog md body = true ∧ ent36.rc = comp Try.prog md body :=
  ⟨rfl, md, Try.f36, body36, Try.func36, by kernel_rfl, by kernel_rfl, rfl, resT_all (by kernel_rfl), draw36, rfl⟩
noncomputable def ent37 : Ent := ⟨Try.f37.ntmps, comp Try.prog md body37, resT Try.prog Try.f37.results.toList, none⟩
theorem ent37_is : ent37.orc = none ∧ ∃ (md : Modes) (fn : Func) (body : Code), Try.prog.funcs[37]? = some fn ∧ (fn.name == "runtime.NumGoroutine") = false ∧ fn.body = some body ∧ fn.ntmps = ent37.n ∧ cRes Try.prog fn.results.toList = some ent37.ts ∧ okDraw Try.prog md body = true ∧ ent37.rc = comp Try.prog md body :=
  ⟨rfl, md, Try.f37, body37, Try.func37, by kernel_rfl, by kernel_rfl, rfl, resT_all (by kernel_rfl), draw37, rfl⟩
noncomputable def ent38 : Ent := ⟨Try.f38.ntmps, comp Try.prog md body38, resT Try.prog Try.f38.results.toList, none⟩
theorem ent38_is : ent38.orc = none ∧ ∃ (md : Modes) (fn : Func) (body : Code), Try.prog.funcs[38]? = some fn ∧ (fn.name == "runtime.NumGoroutine") = false ∧ fn.body = some body ∧ fn.ntmps = ent38.n ∧ cRes Try.prog fn.results.toList = some ent38.ts ∧ okDraw Try.prog md body = true ∧ ent38.rc = comp Try.prog md body :=
  ⟨rfl, md, Try.f38, body38, Try.func38, by kernel_rfl, by kernel_rfl, rfl, resT_all (by kernel_rfl), draw38, rfl⟩
noncomputable def ent39 : Ent := ⟨Try.f39.ntmps, comp Try.prog md body39, resT Try.prog Try.f39.results.toList, none⟩
theorem ent39_is : ent39.orc = none ∧ ∃ (md : Modes) (fn : Func) (body : Code), Try.prog.funcs[39]? = some fn ∧ (fn.name == "runtime.NumGoroutine") = false ∧ fn.body = some body ∧ fn.ntmps = ent39.n ∧ cRes Try.prog fn.results.toList = some ent39.ts ∧ okDraw Try.prog md body = true ∧ ent39.rc = comp Try.prog md body :=
  ⟨rfl, md, Try.f39, body39, Try.func39, by kernel_rfl, by kernel_rfl, rfl, resT_all (by kernel_rfl), draw39, rfl⟩
noncomputable def ent40 : Ent := ⟨Try.f40.ntmps, comp Try.prog md body40, resT Try.prog Try.f40.results.toList, none⟩
theorem ent40_is : ent40.orc = none ∧ ∃ (md : Modes) (fn : Func) (body : Code), Try.prog.funcs[40]? = some fn ∧ (fn.name == "runtime.NumGoroutine") = false ∧ fn.body = some body ∧ fn.ntmps = ent40.n ∧ cRes Try.prog fn.results.toList = some ent40.ts ∧ okDraw Try.prog md body = true ∧ ent40.rc = comp Try.prog md body :=
  ⟨rfl, md, Try.f40, body40, Try.func40, by kernel_rfl, by kernel_rfl, rfl, resT_all (by kernel_rfl), draw40, rfl⟩
noncomputable def ent41 : Ent := ⟨Try.f41.ntmps, comp Try.prog md body41, resT Try.prog Try.f41.results.toList, none⟩
theorem ent41_is : ent41.orc = none ∧ ∃ (md : Modes) (fn : Func) (body : Code), Try.prog.funcs[41]? = some fn ∧ (fn.name == "runtime.NumGoroutine") = false ∧ fn.body = some body ∧ fn.ntmps = ent41.n ∧ cRes Try.prog fn.results.toList = some ent41.ts ∧ okDraw Try.prog md body = true ∧ ent41.rc = comp Try.prog md body :=
  ⟨rfl, md, Try.f41, body41, Try.func41, by kernel_rfl, by kernel_rfl, rfl, resT_all (by kernel_rfl), draw41, rfl⟩
noncomputable def ent42 : Ent := ⟨Try.f42.ntmps, comp Try.prog md body42, resT Try.prog Try.f42.results.toList, none⟩
theorem ent42_is : ent42.orc = none ∧ ∃ (md : Modes) (fn : Func) (body : Code), Try.prog.funcs[42]? = some fn ∧ (fn.name == "runtime.NumGoroutine") = false ∧ fn.body = some body ∧ fn.ntmps = ent42.n ∧ cRes Try.prog fn.results.toList = some ent42.ts ∧ okDraw Try.prog md body = true ∧ ent42.rc = comp Try.prog md body :=
  ⟨rfl, md, Try.f42, body42, Try.func42, by kernel_rfl, by kernel_rfl, rfl, resT_all (by kernel_rfl), draw42, rfl⟩
noncomputable def ent43 : Ent := ⟨Try.f43.ntmps, comp Try.prog md body43, resT Try.prog Try.f43.results.toList, none⟩
theorem ent43_is : ent43.orc = none ∧ ∃ (md : Modes) (fn : Func) (body : Code), Try.prog.funcs[43]? = some fn ∧ (fn.name == "runtime.NumGoroutine") = false ∧ fn.body = some body ∧ fn.ntmps = ent43.n ∧ cRes Try.prog fn.results.toList = some ent43.ts ∧ okDraw Try.prog md body = true ∧ ent43.rc = comp Try.prog md body :=
  ⟨rfl, md, Try.f43, body43, Try.func43, by kernel_rfl, by kernel_rfl, rfl, resT_all (by kernel_rfl), draw43, rfl⟩
noncomputable def ent44 : Ent := ⟨Try.f44.ntmps, comp Try.prog md body44, resT Try.prog Try.f44.results.toList, none⟩
theorem ent44_is : ent44.orc = none ∧ ∃ (md : Modes) (fn : Func) (body : Code), Try.prog.funcs[44]? = some fn ∧ (fn.name == "runtime.NumGoroutine") = false ∧ fn.body = some body ∧ fn.ntmps = ent44.n ∧ cRes Try.prog fn.results.toList = some ent44.ts ∧ okDraw Try.prog md body = true ∧ ent44.rc = comp Try.prog md body :=
  ⟨rfl, md, Try.f44, body44, Try.func44, by kernel_rfl, by kernel_rfl, rfl, resT_all (by kernel_rfl), draw44, rfl⟩
noncomputable def ent45 : Ent := ⟨Try.f45.ntmps, comp Try.prog md body45, resT Try.prog Try.f45.results.toList, none⟩
theorem ent45_is : ent45.orc = none ∧ ∃ (md : Modes) (fn : Func) (body : Code), Try.prog.funcs[45]? = some fn ∧ (fn.name == "runtime.NumGoroutine") = false ∧ fn.body = some body ∧ fn.ntmps = ent45.n ∧ cRes Try.prog fn.results.toList = some ent45.ts ∧ okDraw Try.prog md body = true ∧ ent45.rc = comp Try.prog md body :=
  ⟨rfl, md, Try.f45, body45, Try.func45, by kernel_rfl, by kernel_rfl, rfl, resT_all (by kernel_rfl), draw45, rfl⟩
noncomputable def ent46 : Ent := ⟨Try.f46.ntmps, comp Try.prog md body46, resT Try.prog Try.f46.results.toList, none⟩
theorem ent46_is : ent46.orc = none ∧ ∃ (md : Modes) (fn : Func) (body : Code), Try.prog.funcs[46]? = some fn ∧ (fn.name == "runtime.NumGoroutine") = false ∧ fn.body = some body ∧ fn.ntmps = ent46.n ∧ cRes Try.prog fn.results.toList = some ent46.ts ∧ okDraw Try.prog md body = true ∧ ent46.rc = comp Try.prog md body :=
  ⟨rfl, md, Try.f46, body46, Try.func46, by kernel_rfl, by kernel_rfl, rfl, resT_all (by kernel_rfl), draw46, rfl⟩
noncomputable def ent47 : Ent := ⟨Try.f47.ntmps, comp Try.prog md body47, resT Try.prog Try.f47.results.toList, none⟩
theorem ent47_is : ent47.orc = none ∧ ∃ (md : Modes) (fn : Func) (body : Code), Try.prog.funcs[47]? = some fn ∧ (fn.name == "runtime.NumGoroutine") = false ∧ fn.body = some body ∧ fn.ntmps = ent47.n ∧ cRes Try.prog fn.results.toList = some ent47.ts ∧ okDraw Try.prog md body = true ∧ ent47.rc = comp Try.prog md body :=
  ⟨rfl, md, Try.f47, body47, Try.func47, by kernel_rfl, by kernel_rfl, rfl, resT_all (by kernel_rfl), draw47, rfl⟩
noncomputable def ent48 : Ent := ⟨Try.f48.ntmps, comp Try.prog md body48, resT Try.prog Try.f48.results.toList, none⟩
theorem ent48_is : ent48.orc = none ∧ ∃ (md : Modes) (fn : Func) (body : Code), Try.prog.funcs[48]? = some fn ∧ (fn.name == "runtime.NumGoroutine") = false ∧ fn.body = some body ∧ fn.ntmps = ent48.n ∧ cRes Try.prog fn.results.toList = some ent48.ts ∧ okDraw Try.prog md body = true ∧ ent48.rc = comp Try.prog md body :=
  ⟨rfl, md, Try.f48, body48, Try.func48, by kernel_rfl, by kernel_rfl, rfl, resT_all (by kernel_rfl), draw48, rfl⟩
noncomputable def ent49 : Ent := ⟨Try.f49.ntmps, comp Try.prog md body49, resT Try.prog Try.f49.results.toList, none⟩
theorem ent49_is : ent49.orc = none ∧ ∃ (md : Modes) (fn : Func) (body : Code), Try.prog.funcs[49]? = some fn ∧ (fn.name == "runtime.NumGoroutine") = false ∧ fn.body = some body ∧ fn.ntmps = ent49.n ∧ cRes Try.prog fn.results.toList = some ent49.ts ∧ okDraw Try.prog md body = true ∧ ent49.rc = comp Try.prog md body :=
  ⟨rfl, md, Try.f49, body49, Try.func49, by kernel_rfl, by kernel_rfl, rfl, resT_all (by kernel_rfl), draw49, rfl⟩
noncomputable def ent50 : Ent := ⟨Try.f50.ntmps, comp Try.prog md body50, resT Try.prog Try.f50.results.toList, none⟩
theorem ent50_is : ent50.orc = none ∧ ∃ (md : Modes) (fn : Func) (body : Code), Try.prog.funcs[50]? = some fn ∧ (fn.name == "runtime.NumGoroutine") = false ∧ fn.body = some body ∧ fn.ntmps = ent50.n ∧ cRes Try.prog fn.results.toList = some ent50.ts ∧ okDraw Try.prog md body = true ∧ ent50.rc = comp Try.prog md body :=
  ⟨rfl, md, Try.f50, body50, Try.func50, by kernel_rfl, by kernel_rfl, rfl, resT_all (by kernel_rfl), draw50, rfl⟩
noncomputable def ent51 : Ent := ⟨Try.f51.ntmps, comp Try.prog md body51, resT Try.prog Try.f51.results.toList, none⟩
theorem ent51_is : ent51.orc = none ∧ ∃ (md : Modes) (fn : Func) (body : Code), Try.prog.funcs[51]? = some fn ∧ (fn.name == "runtime.NumGoroutine") = false ∧ fn.body = some body ∧ fn.ntmps = ent51.n ∧ cRes Try.prog fn.results.toList = some ent51.ts ∧ okDraw Try.prog md body = true ∧ ent51.rc = comp Try.prog md body :=
  ⟨rfl, md, Try.f51, body51, Try.func51, by kernel_rfl, by kernel_rfl, rfl, resT_all (by kernel_rfl), draw51, rfl⟩
noncomputable def ent52 : Ent := ⟨Try.f52.ntmps, comp Try.prog md body52, resT Try.prog Try.f52.results.toList, none⟩
theorem ent52_is : ent52.orc = none ∧ ∃ (md : Modes) (fn : Func) (body : Code), Try.prog.funcs[52]? = some fn ∧ (fn.name == "runtime.NumGoroutine") = false ∧ fn.body = some body ∧ fn.ntmps = ent52.n ∧ cRes Try.prog fn.results.toList = some ent52.ts ∧ okDraw Try.prog md body = true ∧ ent52.rc = comp Try.prog md body :=
  ⟨rfl, md, Try.f52, body52, Try.func52, by kernel_rfl, by kernel_rfl, rfl, resT_all (by kernel_rfl), draw52, rfl⟩
noncomputable def ent53 : Ent := ⟨Try.f53.ntmps, comp Try.prog md body53, resT Try.prog Try.f53.results.toList, none⟩
theorem ent53_is : ent53.orc = none ∧ ∃ (md : Modes) (fn : Func) (body : Code), Try.prog.funcs[53]? = some fn ∧ (fn.name == "runtime.NumGoroutine") = false ∧ fn.body = some body ∧ fn.ntmps = ent53.n ∧ cRes Try.prog fn.results.toList = some ent53.ts ∧ okDraw Try.prog md body = true ∧ ent53.rc = comp Try.prog md body :=
  ⟨rfl, md, Try.f53, body53, Try.func53, by kernel_rfl, by kernel_rfl, rfl, resT_all (by kernel_rfl), draw53, rfl⟩
noncomputable def ent54 : Ent := ⟨Try.f54.ntmps, comp Try.prog md body54, resT Try.prog Try.f54.results.toList, none⟩
theorem ent54_is : ent54.orc = none ∧ ∃ (md : Modes) (fn : Func) (body : Code), Try.prog.funcs[54]? = some fn ∧ (fn.name == "runtime.NumGoroutine") = false ∧ fn.body = some body ∧ fn.ntmps = ent54.n ∧ cRes Try.prog fn.results.toList = some ent54.ts ∧ okDraw Try.prog md body = true ∧ ent54.rc = comp Try.prog md body :=
  ⟨rfl, md, Try.f54, body54, Try.func54, by kernel_rfl, by kernel_rfl, rfl, resT_all (by kernel_rfl), draw54, rfl⟩
noncomputable def ent56 : Ent := ⟨Try.f56.ntmps, comp Try.prog md body56, resT Try.prog Try.f56.results.toList, none⟩
theorem ent56_is : ent56.orc = none ∧ ∃ (md : Modes) (fn : Func) (body : Code), Try.prog.funcs[56]? = some fn ∧ (fn.name == "runtime.NumGoroutine") = false ∧ fn.body = some body ∧ fn.ntmps = ent56.n ∧ cRes Try.prog fn.results.toList = some ent56.ts ∧ okDraw Try.prog md body = true ∧ ent56.rc = comp Try.prog md body :=
  ⟨rfl, md, Try.f56, body56, Try.func56, by kernel_rfl, by kernel_rfl, rfl, resT_all (by kernel_rfl), draw56, rfl⟩
noncomputable def ent57 : Ent := ⟨Try.f57.ntmps, comp Try.prog md body57, resT Try.prog Try.f57.results.toList, none⟩
theorem ent57_is : ent57.orc = none ∧ ∃ (md : Modes) (fn : Func) (body : Code), Try.prog.funcs[57]? = some fn ∧ (fn.name == "runtime.NumGoroutine") = false ∧ fn.body = some body ∧ fn.ntmps = ent57.n ∧ cRes Try.prog fn.results.toList = some ent57.ts ∧ okDraw Try.prog md body = true ∧ ent57.rc = comp Try.prog md body :=
  ⟨rfl, md, Try.f57, body57, Try.func57, by kernel_rfl, by kernel_rfl, rfl, resT_all (by kernel_rfl), draw57, rfl⟩
noncomputable def ent58 : Ent := ⟨Try.f58.ntmps, comp Try.prog md body58, resT Try.prog Try.f58.results.toList, none⟩
theorem ent58_is : ent58.orc = none ∧ ∃ (md : Modes) (fn : Func) (body : Code), Try.prog.funcs[58]? = some fn ∧ (fn.name == "runtime.NumGoroutine") = false ∧ fn.body = some body ∧ fn.ntmps = ent58.n ∧ cRes Try.prog fn.results.toList = some ent58.ts ∧ okDraw Try.prog md body = true ∧ ent58.rc = comp Try.prog md body :=
  ⟨rfl, md, Try.f58, body58, Try.func58, by kernel_rfl, by kernel_rfl, rfl, resT_all (by kernel_rfl), draw58, rfl⟩
noncomputable def ent59 : Ent := ⟨Try.f59.ntmps, comp Try.prog md body59, resT Try.prog Try.f59.results.toList, none⟩
theorem ent59_is : ent59.orc = none ∧ ∃ (md : Modes) (fn : Func) (body : Code), Try.prog.funcs[59]? = some fn ∧ (fn.name == "runtime.NumGoroutine") = false ∧ fn.body = some body ∧ fn.ntmps = ent59.n ∧ cRes Try.prog fn.results.toList = some ent59.ts ∧ okDraw Try.prog md body = true ∧ ent59.rc = comp Try.prog md body :=
  ⟨rfl, md, Try.f59, body59, Try.func59, by kernel_rfl, by kernel_rfl, rfl, resT_all (by kernel_rfl), draw59, rfl⟩
noncomputable def ent60 : Ent := ⟨Try.f60.ntmps, comp Try.prog md body60, resT Try.prog Try.f60.results.toList, none⟩
theorem ent60_is : ent60.orc = none ∧ ∃ (md : Modes) (fn : Func) (body : Code), Try.prog.funcs[60]? = some fn ∧ (fn.name == "runtime.NumGoroutine") = false ∧ fn.body = some body ∧ fn.ntmps = ent60.n ∧ cRes Try.prog fn.results.toList = some ent60.ts ∧ okDraw Try.prog md body = true ∧ ent60.rc = comp Try.prog md body :=
  ⟨rfl, md, Try.f60, body60, Try.func60, by kernel_rfl, by kernel_rfl, rfl, resT_all (by kernel_rfl), draw60, rfl⟩
noncomputable def ent61 : Ent := ⟨Try.f61.ntmps, comp Try.prog md body61, resT Try.prog Try.f61.results.toList, none⟩
theorem ent61_is : ent61.orc = none ∧ ∃ (md : Modes) (fn : Func) (body : Code), Try.prog.funcs[61]? = some fn ∧ (fn.name == "runtime.NumGoroutine") = false ∧ fn.body = some body ∧ fn.ntmps = ent61.n ∧ cRes Try.prog fn.results.toList = some ent61.ts ∧ okDraw Try.prog md body = true ∧ ent61.rc = comp Try.prog md body :=
  ⟨rfl, md, Try.f61, body61, Try.func61, by kernel_rfl, by kernel_rfl, rfl, resT_all (by kernel_rfl), draw61, rfl⟩
noncomputable def ent62 : Ent := ⟨Try.f62.ntmps, comp Try.prog md body62, resT Try.prog Try.f62.results.toList, none⟩
theorem ent62_is : ent62.orc = none ∧ ∃ (md : Modes) (fn : Func) (body : Code), Try.prog.funcs[62]? = some fn ∧ (fn.name == "runtime.NumGoroutine") = false ∧ fn.body = some body ∧ fn.ntmps = ent62.n ∧ cRes Try.prog fn.results.toList = some ent62.ts ∧ okDraw Try.prog md body = true ∧ ent62.rc = comp Try.prog md body :=
  ⟨rfl, md, Try.f62, body62, Try.func62, by kernel_rfl, by kernel_rfl, rfl, resT_all (by kernel_rfl), draw62, rfl⟩
noncomputable def ent63 : Ent := ⟨Try.f63.ntmps, comp Try.prog md body63, resT Try.prog Try.f63.results.toList, none⟩
theorem ent63_is : ent63.orc = none ∧ ∃ (md : Modes) (fn : Func) (body : Code), Try.prog.funcs[63]? = some fn ∧ (fn.name == "runtime.NumGoroutine") = false ∧ fn.body = some body ∧ fn.ntmps = ent63.n ∧ cRes Try.prog fn.results.toList = some ent63.ts ∧ okDraw Try.prog md body = true ∧ ent63.rc = comp Try.prog md body :=
  ⟨rfl, md, Try.f63, body63, Try.func63, by kernel_rfl, by kernel_rfl, rfl, resT_all (by kernel_rfl), draw63, rfl⟩
noncomputable def ent64 : Ent := ⟨Try.f64.ntmps, comp Try.prog md body64, resT Try.prog Try.f64.results.toList, none⟩
theorem ent64_is : ent64.orc = none ∧ ∃ (md : Modes) (fn : Func) (body : Code), Try.prog.funcs[64]? = some fn ∧ (fn.name == "runtime.NumGoroutine") = false ∧ fn.body = some body ∧ fn.ntmps = ent64.n ∧ cRes Try.prog fn.results.toList = some ent64.ts ∧ okDraw Try.prog md body = true ∧ ent64.rc = comp Try.prog md body :=
  ⟨rfl, md, Try.f64, body64, Try.func64, by kernel_rfl, by kernel_rfl, rfl, resT_all (by kernel_rfl), draw64, rfl⟩
noncomputable def ent65 : Ent := ⟨Try.f65.ntmps, comp Try.prog md body65, resT Try.prog Try.f65.results.toList, none⟩
theorem ent65_is : ent65.orc = none ∧ ∃ (md : Modes) (fn : Func) (body : Code), Try.prog.funcs[65]? = some fn ∧ (fn.name == "runtime.NumGoroutine") = false ∧ fn.body = some body ∧ fn.ntmps = ent65.n ∧ cRes Try.prog fn.results.toList = some ent65.ts ∧ okDraw Try.prog md body = true ∧ ent65.rc = comp Try.prog md body :=
  ⟨rfl, md, Try.f65, body65, Try.func65, by kernel_rfl, by kernel_rfl, rfl, resT_all (by kernel_rfl), draw65, rfl⟩
noncomputable def ent66 : Ent := ⟨Try.f66.ntmps, comp Try.prog md body66, resT Try.prog Try.f66.results.toList, none⟩
theorem ent66_is : ent66.orc = none ∧ ∃ (md : Modes) (fn : Func) (body : Code), Try.prog.funcs[66]? = some fn ∧ (fn.name == "runtime.NumGoroutine") = false ∧ fn.body = some body ∧ fn.ntmps = ent66.n ∧ cRes Try.prog fn.results.toList = some ent66.ts ∧ okDraw Try.prog md body = true ∧ ent66.rc = comp Try.prog md body :=
  ⟨rfl, md, Try.f66, body66, Try.func66, by kernel_rfl, by kernel_rfl, rfl, resT_all (by kernel_rfl), draw66, rfl⟩
noncomputable def ent67 : Ent := ⟨Try.f67.ntmps, comp Try.prog md body67, resT Try.prog Try.f67.results.toList, none⟩
theorem ent67_is : ent67.orc = none ∧ ∃ (md : Modes) (fn : Func) (body : Code), Try.prog.funcs[67]? = some fn ∧ (fn.name == "runtime.NumGoroutine") = false ∧ fn.body = some body ∧ fn.ntmps = ent67.n ∧ cRes Try.prog fn.results.toList = some ent67.ts ∧ okDraw Try.prog md body = true ∧ ent67.rc = comp Try.prog md body :=
  ⟨rfl, md, Try.f67, body67, Try.func67, by kernel_rfl, by kernel_rfl, rfl, resT_all (by kernel_rfl), draw67, rfl⟩
noncomputable def ent68 : Ent := ⟨Try.f68.ntmps, comp Try.prog md body68, resT Try.prog Try.f68.results.toList, none⟩
theorem ent68_is : ent68.orc = none ∧ ∃ (md : Modes) (fn : Func) (body : Code), Try.prog.funcs[68]? = some fn ∧ (fn.name == "runtime.NumGoroutine") = false ∧ fn.body = some body ∧ fn.ntmps = ent68.n ∧ cRes Try.prog fn.results.toList = some ent68.ts ∧ okDraw Try.prog md body = true ∧ ent68.rc = comp Try.prog md body :=
  ⟨rfl, md, Try.f68, body68, Try.func68, by kernel_rfl, by kernel_rfl, rfl, resT_all (by kernel_rfl), draw68, rfl⟩
noncomputable def ent69 : Ent := ⟨Try.f69.ntmps, comp Try.prog md body69, resT Try.prog Try.f69.results.toList, none⟩
theorem ent69_is : ent69.orc = none ∧ ∃ (md : Modes) (fn : Func) (body : Code), Try.prog.funcs[69]? = some fn ∧ (fn.name == "runtime.NumGoroutine") = false ∧ fn.body = some body ∧ fn.ntmps = ent69.n ∧ cRes Try.prog fn.results.toList = some ent69.ts ∧ okDraw Try.prog md body = true ∧ ent69.rc = comp Try.prog md body :=
  ⟨rfl, md, Try.f69, body69, Try.func69, by kernel_rfl, by kernel_rfl, rfl, resT_all (by kernel_rfl), draw69, rfl⟩
noncomputable def ent70 : Ent := ⟨Try.f70.ntmps, comp Try.prog md body70, resT Try.prog Try.f70.results.toList, none⟩
theorem ent70_is : ent70.orc = none ∧ ∃ (md : Modes) (fn : Func) (body : Code), Try.prog.funcs[70]? = some fn ∧ (fn.name == "runtime.NumGoroutine") = false ∧ fn.body = some body ∧ fn.ntmps = ent70.n ∧ cRes Try.prog fn.results.toList = some ent70.ts ∧ okDraw Try.prog md body = true ∧ ent70.rc = comp Try.prog md body :=
  ⟨rfl, md, Try.f70, body70, Try.func70, by kernel_rfl, by kernel_rfl, rfl, resT_all (by kernel_rfl), draw70, rfl⟩
noncomputable def ent72 : Ent := ⟨Try.f72.ntmps, comp Try.prog md body72, resT Try.prog Try.f72.results.toList, none⟩
theorem ent72_is : ent72.orc = none ∧ ∃ (md : Modes) (fn : Func) (body : Code), Try.prog.funcs[72]? = some fn ∧ (fn.name == "runtime.NumGoroutine") = false ∧ fn.body = some body ∧ fn.ntmps = ent72.n ∧ cRes Try.prog fn.results.toList = some ent72.ts ∧ okDraw Try.prog md body = true ∧ ent72.rc = comp Try.prog md body :=
  ⟨rfl, md, Try.f72, body72, Try.func72, by kernel_rfl, by kernel_rfl, rfl, resT_all (by kernel_rfl), draw72, rfl⟩
noncomputable def ent73 : Ent := ⟨Try.f73.ntmps, comp Try.prog md body73, resT Try.prog Try.f73.results.toList, none⟩
theorem ent73_is : ent73.orc = none ∧ ∃ (md : Modes) (fn : Func) (body : Code), Try.prog.funcs[73]? = some fn ∧ (fn.name == "runtime.NumGoroutine") = false ∧ fn.body = some body ∧ fn.ntmps = ent73.n ∧ cRes Try.prog fn.results.toList = some ent73.ts ∧ okDraw Try.prog md body = true ∧ ent73.rc = comp Try.prog md body :=
  ⟨rfl, md, Try.f73, body73, Try.func73, by kernel_rfl, by kernel_rfl, rfl, resT_all (by kernel_rfl), draw73, rfl⟩
noncomputable def ent74 : Ent := ⟨Try.f74.ntmps, comp Try.prog md body74, resT Try.prog Try.f74.results.toList, none⟩
theorem ent74_is : ent74.orc = none ∧ ∃ (md : Modes) (fn : Func) (body : Code), Try.prog.funcs[74]? = some fn ∧ (fn.name == "runtime.NumGoroutine") = false ∧ fn.body = some body ∧ fn.ntmps = ent74.n ∧ cRes Try.prog fn.results.toList = some ent74.ts ∧ okDraw Try.prog md body = true ∧ ent74.rc = comp Try.prog md body :=
  ⟨rfl, md, Try.f74, body74, Try.func74, by kernel_rfl, by kernel_rfl, rfl, resT_all (by kernel_rfl), draw74, rfl⟩
noncomputable def ent75 : Ent := ⟨Try.f75.ntmps, comp Try.prog md body75, resT Try.prog Try.f75.results.toList, none⟩
theorem ent75_is : ent75.orc = none ∧ ∃ (md : Modes) (fn : Func) (body : Code), Try.prog.funcs[75]? = some fn ∧ (fn.name == "runtime.NumGoroutine") = false ∧ fn.body = some body ∧ fn.ntmps = ent75.n ∧ cRes Try.prog fn.results.toList = some ent75.ts ∧ okDraw Try.prog md body = true ∧ ent75.rc = comp Try.prog md body :=
  ⟨rfl, md, Try.f75, body75, Try.func75, by kernel_rfl, by kernel_rfl, rfl, resT_all (by kernel_rfl), draw75, rfl⟩
noncomputable def ent76 : Ent := ⟨Try.f76.ntmps, comp Try.prog md body76, resT Try.prog Try.f76.results.toList, none⟩
theorem ent76_is : ent76.orc = none ∧ ∃ (md : Modes) (fn : Func) (body : Code), Try.prog.funcs[76]? = some fn ∧ (fn.name == "runtime.NumGoroutine") = false ∧ fn.body = some body ∧ fn.ntmps = ent76.n ∧ cRes Try.prog fn.results.toList = some ent76.ts ∧ okDraw Try.prog md body = true ∧ ent76.rc = comp Try.prog md body :=
  ⟨rfl, md, Try.f76, body76, Try.func76, by kernel_rfl, by kernel_rfl, rfl, resT_all (by kernel_rfl), draw76, rfl⟩
noncomputable def ent77 : Ent := ⟨Try.f77.ntmps, comp Try.prog md body77, resT Try.prog Try.f77.results.toList, none⟩
theorem ent77_is : ent77.orc = none ∧ ∃ (md : Modes) (fn : Func) (body : Code), Try.prog.funcs[77]? = some fn ∧ (fn.name == "runtime.NumGoroutine") = false ∧ fn.body = some body ∧ fn.ntmps = ent77.n ∧ cRes Try.prog fn.results.toList = some ent77.ts ∧ okDraw Try.prog md body = true ∧ ent77.rc = comp Try.prog md body :=
  ⟨rfl, md, Try.f77, body77, Try.func77, by kernel_rfl, by kernel_rfl, rfl, resT_all (by kernel_rfl), draw77, rfl⟩
noncomputable def ent78 : Ent := ⟨Try.f78.ntmps, comp Try.prog md body78, resT Try.prog Try.f78.results.toList, none⟩
theorem ent78_is : ent78.orc = none ∧ ∃ (md : Modes) (fn : Func) (body : Code), Try.prog.funcs[78]? = some fn ∧ (fn.name == "runtime.NumGoroutine") = false ∧ fn.body = some body ∧ fn.ntmps = ent78.n ∧ cRes Try.prog fn.results.toList = some ent78.ts ∧ okDraw Try.prog md body = true ∧ ent78.rc = comp Try.prog md body :=
  ⟨rfl, md, Try.f78, body78, Try.func78, by kernel_rfl, by kernel_rfl, rfl, resT_all (by kernel_rfl), draw78, rfl⟩
noncomputable def ent79 : Ent := ⟨Try.f79.ntmps, comp Try.prog md body79, resT Try.prog Try.f79.results.toList, none⟩
theorem ent79_is : ent79.orc = none ∧ ∃ (md : Modes) (fn : Func) (body : Code), Try.prog.funcs[79]? = some fn ∧ (fn.name == "runtime.NumGoroutine") = false ∧ fn.body = some body ∧ fn.ntmps = ent79.n ∧ cRes Try.prog fn.results.toList = some ent79.ts ∧ okDraw Try.prog md body = true ∧ ent79.rc = comp Try.prog md body :=
  ⟨rfl, md, Try.f79, body79, Try.func79, by kernel_rfl, by kernel_rfl, rfl, resT_all (by kernel_rfl), draw79, rfl⟩
noncomputable def ent80 : Ent := ⟨Try.f80.ntmps, comp Try.prog md body80, resT Try.prog Try.f80.results.toList, none⟩
theorem ent80_is : ent80.orc = none ∧ ∃ (md : Modes) (fn : Func) (body : Code), Try.prog.funcs[80]? = some fn ∧ (fn.name == "runtime.NumGoroutine") = false ∧ fn.body = some body ∧ fn.ntmps = ent80.n ∧ cRes Try.prog fn.results.toList = some ent80.ts ∧ okDraw Try.prog md body = true ∧ ent80.rc = comp Try.prog md body :=
  ⟨rfl, md, Try.f80, body80, Try.func80, by kernel_rfl, by kernel_rfl, rfl, resT_all (by kernel_rfl), draw80, rfl⟩
noncomputable def ent81 : Ent := ⟨Try.f81.ntmps, comp Try.prog md body81, resT Try.prog Try.f81.results.toList, none⟩
theorem ent81_is : ent81.orc = none ∧ ∃ (md : Modes) (fn : Func) (body : Code), Try.prog.funcs[81]? = some fn ∧ (fn.name == "runtime.NumGoroutine") = false ∧ fn.body = some body ∧ fn.ntmps = ent81.n ∧ cRes Try.prog fn.results.toList = some ent81.ts ∧ okDraw Try.prog md body = true ∧ ent81.rc = comp Try.prog md body :=
  ⟨rfl, md, Try.f81, body81, Try.func81, by kernel_rfl, by kernel_rfl, rfl, resT_all (by kernel_rfl), draw81, rfl⟩
noncomputable def ent82 : Ent := ⟨Try.f82.ntmps, comp Try.prog md body82, resT Try.prog Try.f82.results.toList, none⟩
theorem ent82_is : ent82.orc = none ∧ ∃ (md : Modes) (fn : Func) (body : Code), Try.prog.funcs[82]? = some fn ∧ (fn.name == "runtime.NumGoroutine") = false ∧ fn.body = some body ∧ fn.ntmps = ent82.n ∧ cRes Try.prog fn.results.toList = some ent82.ts ∧ okDraw Try.prog md body = true ∧ ent82.rc = comp Try.prog md body :=
  ⟨rfl, md, Try.f82, body82, Try.func82, by kernel_rfl, by kernel_rfl, rfl, resT_all (by kernel_rfl), draw82, rfl⟩
noncomputable def ent83 : Ent := ⟨Try.f83.ntmps, comp Try.prog md body83, resT Try.prog Try.f83.results.toList, none⟩
theorem ent83_is : ent83.orc = none ∧ ∃ (md : Modes) (fn : Func) (body : Code), Try.prog.funcs[83]? = some fn ∧ (fn.name == "runtime.NumGoroutine") = false ∧ fn.body = some body ∧ fn.ntmps = ent83.n ∧ cRes Try.prog fn.results.toList = some ent83.ts ∧ okDraw Try.prog md body = true ∧ ent83.rc = comp Try.prog md body :=
  ⟨rfl, md, Try.f83, body83, Try.func83, by kernel_rfl, by kernel_rfl, rfl, resT_all (by kernel_rfl), draw83, rfl⟩
noncomputable def ent84 : Ent := ⟨Try.f84.ntmps, comp Try.prog md body84, resT Try.prog Try.f84.results.toList, none⟩
theorem ent84_is : ent84.orc = none ∧ ∃ (md : Modes) (fn : Func) (body : Code), Try.prog.funcs[84]? = some fn ∧ (fn.name == "runtime.NumGoroutine") = false ∧ fn.body = some body ∧ fn.ntmps = ent84.n ∧ cRes Try.prog fn.results.toList = some ent84.ts ∧ okDraw Try.prog md body = true ∧ ent84.rc = comp Try.prog md body :=
  ⟨rfl, md, Try.f84, body84, Try.func84, by kernel_rfl, by kernel_rfl, rfl, resT_all (by kernel_rfl), draw84, rfl⟩
noncomputable def ent85 : Ent := ⟨Try.f85.ntmps, comp Try.prog md body85, resT Try.prog Try.f85.results.toList, none⟩
theorem ent85_is : ent85.orc = none ∧ ∃ (md : Modes) (fn : Func) (body : Code), Try.prog.funcs[85]? = some fn ∧ (fn.name == "runtime.NumGoroutine") = false ∧ fn.body = some body ∧ fn.ntmps = ent85.n ∧ cRes Try.prog fn.results.toList = some ent85.ts ∧ okDraw Try.prog md body = true ∧ ent85.rc = comp Try.prog md body :=
  ⟨rfl, md, Try.f85, body85, Try.func85, by kernel_rfl, by kernel_rfl, rfl, resT_all (by kernel_rfl), draw85, rfl⟩
noncomputable def ent86 : Ent := ⟨Try.f86.ntmps, comp Try.prog md body86, resT Try.prog Try.f86.results.toList, none⟩
theorem ent86_is : ent86.orc = none ∧ ∃ (md : Modes) (fn : Func) (body : Code), Try.prog.funcs[86]? = some fn ∧ (fn.name == "runtime.NumGoroutine") = false ∧ fn.body = some body ∧ fn.ntmps = ent86.n ∧ cRes Try.prog fn.results.toList = some ent86.ts ∧ okDraw Try.prog md body = true ∧ ent86.rc = comp Try.prog md body :=
  ⟨rfl, md, Try.f86, body86, Try.func86, by kernel_rfl, by kernel_rfl, rfl, resT_all (by kernel_rfl), draw86, rfl⟩
noncomputable def ent87 : Ent := ⟨Try.f87.ntmps, comp Try.prog md body87, resT Try.prog Try.f87.results.toList, none⟩
theorem ent87_is : ent87.orc = none ∧ ∃ (md : Modes) (fn : Func) (body : Code), Try.prog.funcs[87]? = some fn ∧ (fn.name == "runtime.NumGoroutine") = false ∧ fn.body = some body ∧ fn.ntmps = ent87.n ∧ cRes Try.prog fn.results.toList = some ent87.ts ∧ okDraw Try.prog md body = true ∧ ent87.rc = comp Try.prog md body :=
  ⟨rfl, md, Try.f87, body87, Try.func87, by kernel_rfl, by kernel_rfl, rfl, resT_all (by kernel_rfl), draw87, rfl⟩
noncomputable def ent88 : Ent := ⟨Try.f88.ntmps, comp Try.prog md body88, resT Try.prog Try.f88.results.toList, none⟩
theorem ent88_is : ent88.orc = none ∧ ∃ (md : Modes) (fn : Func) (body : Code), Try.prog.funcs[88]? = some fn ∧ (fn.name == "runtime.NumGoroutine") = false ∧ fn.body = some body ∧ fn.ntmps = ent88.n ∧ cRes Try.prog fn.results.toList = some ent88.ts ∧ okDraw Try.prog md body = true ∧ ent88.rc = comp Try.prog md body :=
  ⟨rfl, md, Try.f88, body88, Try.func88, by kernel_rfl, by kernel_rfl, rfl, resT_all (by kernel_rfl), draw88, rfl⟩
noncomputable def ent89 : Ent := ⟨Try.f89.ntmps, comp Try.prog md body89, resT Try.prog Try.f89.results.toList, none⟩
theorem ent89_is : ent89.orc = none ∧ ∃ (md : Modes) (fn : Func) (body : Code), Try.prog.funcs[89]? = some fn ∧ (fn.name == "runtime.NumGoroutine") = false ∧ fn.body = some body ∧ fn.ntmps = ent89.n ∧ cRes Try.prog fn.results.toList = some ent89.ts ∧ okDraw Try.prog md body = true ∧ ent89.rc = comp Try.prog md body :=
  ⟨rfl, md, Try.f89, body89, Try.func89, by kernel_rfl, by kernel_rfl, rfl, resT_all (by kernel_rfl), draw89, rfl⟩
noncomputable def ent90 : Ent := ⟨Try.f90.ntmps, comp Try.prog md body90, resT Try.prog Try.f90.results.toList, none⟩
theorem ent90_is : ent90.orc = none ∧ ∃ (md : Modes) (fn : Func) (body : Code), Try.prog.funcs[90]? = some fn ∧ (fn.name == "runtime.NumGoroutine") = false ∧ fn.body = some body ∧ fn.ntmps = ent90.n ∧ cRes Try.prog fn.results.toList = some ent90.ts ∧ okDraw Try.prog md body = true ∧ ent90.rc = comp Try.prog md body :=
  ⟨rfl, md, Try.f90, body90, Try.func90, by kernel_rfl, by kernel_rfl, rfl, resT_all (by kernel_rfl), draw90, rfl⟩
noncomputable def ent91 : Ent := ⟨Try.f91.ntmps, comp Try.prog md body91, resT Try.prog Try.f91.results.toList, none⟩
theorem ent91_is : ent91.orc = none ∧ ∃ (md : Modes) (fn : Func) (body : Code), Try.prog.funcs[91]? = some fn ∧ (fn.name == "runtime.NumGoroutine") = false ∧ fn.body = some body ∧ fn.ntmps = ent91.n ∧ cRes Try.prog fn.results.toList = some ent91.ts ∧ okDraw Try.prog md body = true ∧ ent91.rc = comp Try.prog md body :=
  ⟨rfl, md, Try.f91, body91, Try.func91, by kernel_rfl, by kernel_rfl, rfl, resT_all (by kernel_rfl), draw91, rfl⟩
noncomputable def ent92 : Ent := ⟨Try.f92.ntmps, comp Try.prog md body92, resT Try.prog Try.f92.results.toList, none⟩
theorem ent92_is : ent92.orc = none ∧ ∃ (md : Modes) (fn : Func) (body : Code), Try.prog.funcs[92]? = some fn ∧ (fn.name == "runtime.NumGoroutine") = false ∧ fn.body = some body ∧ fn.ntmps = ent92.n ∧ cRes Try.prog fn.results.toList = some ent92.ts ∧ okDraw Try.prog md body = true ∧ ent92.rc = comp Try.prog md body :=
  ⟨rfl, md, Try.f92, body92, Try.func92, by kernel_rfl, by kernel_rfl, rfl, resT_all (by kernel_rfl), draw92, rfl⟩
noncomputable def ent93 : Ent := ⟨Try.f93.ntmps, comp Try.prog md body93, resT Try.prog Try.f93.results.toList, none⟩
theorem ent93_is : ent93.orc = none ∧ ∃ (md : Modes) (fn : Func) (body : Code), Try.prog.funcs[93]? = some fn ∧ (fn.name == "runtime.NumGoroutine") = false ∧ fn.body = some body ∧ fn.ntmps = ent93.n ∧ cRes Try.prog fn.results.toList = some ent93.ts ∧ okDraw Try.prog md body = true ∧ ent93.rc = comp Try.prog md body :=
  ⟨rfl, md, Try.f93, body93, Try.func93, by kernel_rfl, by kernel_rfl, rfl, resT_all (by kernel_rfl), draw93, rfl⟩
noncomputable def ent94 : Ent := ⟨Try.f94.ntmps, comp Try.prog md body94, resT Try.prog Try.f94.results.toList, none⟩
theorem ent94_is : ent94.orc = none ∧ ∃ (md : Modes) (fn : Func) (body : Code), Try.prog.funcs[94]? = some fn ∧ (fn.name == "runtime.NumGoroutine") = false ∧ fn.body = some body ∧ fn.ntmps = ent94.n ∧ cRes Try.prog fn.results.toList = some ent94.ts ∧ okDraw Try.prog md body = true ∧ ent94.rc = comp Try.prog md body :=
  ⟨rfl, md, Try.f94, body94, Try.func94, by kernel_rfl, by kernel_rfl, rfl, resT_all (by kernel_rfl), draw94, rfl⟩
noncomputable def ent96 : Ent := ⟨Try.f96.ntmps, comp Try.prog md body96, resT Try.prog Try.f96.results.toList, none⟩
theorem ent96_is : ent96.orc = none ∧ ∃ (md : Modes) (fn : Func) (body : Code), Try.prog.funcs[96]? = some fn ∧ (fn.name == "runtime.NumGoroutine") = false ∧ fn.body = some body ∧ fn.ntmps = ent96.n ∧ cRes Try.prog fn.results.toList = some ent96.ts ∧ okDraw Try.prog md body = true ∧ ent96.rc = comp Try.prog md body :=
  ⟨rfl, md, Try.f96, body96, Try.func96, by kernel_rfl, by kernel_rfl, rfl, resT_all (by kernel_rfl), draw96, rfl⟩
noncomputable def ent97 : Ent := ⟨Try.f97.ntmps, comp Try.prog md body97, resT Try.prog Try.f97.results.toList, none⟩
theorem ent97_is : ent97.orc = none ∧ ∃ (md : Modes) (fn : Func) (body : Code), Try.prog.funcs[97]? = some fn ∧ (fn.name == "runtime.NumGoroutine") = false ∧ fn.body = some body ∧ fn.ntmps = ent97.n ∧ cRes Try.prog fn.results.toList = some ent97.ts ∧ okDraw Try.prog md body = true ∧ ent97.rc = comp Try.prog md body :=
  ⟨rfl, md, Try.f97, body97, Try.func97, by kernel_rfl, by kernel_rfl, rfl, resT_all (by kernel_rfl), draw97, rfl⟩
noncomputable def ent98 : Ent := ⟨Try.f98.ntmps, comp Try.prog md body98, resT Try.prog Try.f98.results.toList, none⟩
theorem ent98_is : ent98.orc = none ∧ ∃ (md : Modes) (fn : Func) (body : Code), Try.prog.funcs[98]? = some fn ∧ (fn.name == "runtime.NumGoroutine") = false ∧ fn.body = some body ∧ fn.ntmps = ent98.n ∧ cRes Try.prog fn.results.toList = some ent98.ts ∧ okDraw Try.prog md body = true ∧ ent98.rc = comp Try.prog md body :=
  ⟨rfl, md, Try.f98, body98, Try.func98, by kernel_rfl, by kernel_rfl, rfl, resT_all (by kernel_rfl), draw98, rfl⟩
noncomputable def ent99 : Ent := ⟨Try.f99.ntmps, comp Try.prog md body99, resT Try.prog Try.f99.results.toList, none⟩
theorem ent99_is : ent99.orc = none ∧ ∃ (md : Modes) (fn : Func) (body : Code), Try.prog.funcs[99]? = some fn ∧ (fn.name == "runtime.NumGoroutine") = false ∧ fn.body = some body ∧ fn.ntmps = ent99.n ∧ cRes Try.prog fn.results.toList = some ent99.ts ∧ okDraw Try.prog md body = true ∧ ent99.rc = comp Try.prog md body :=
  ⟨rfl, md, Try.f99, body99, Try.func99, by kernel_rfl, by kernel_rfl, rfl, resT_all (by kernel_rfl), draw99, rfl⟩
noncomputable def ent100 : Ent := ⟨Try.f100.ntmps, comp Try.prog md body100, resT Try.prog Try.f100.results.toList, none⟩
theorem ent100_is : ent100.orc = none ∧ ∃ (md : Modes) (fn : Func) (body : Code), Try.prog.funcs[100]? = some fn ∧ (fn.name == "runtime.NumGoroutine") = false ∧ fn.body = some body ∧ fn.ntmps = ent100.n ∧ cRes Try.prog fn.results.toList = some ent100.ts ∧ okDraw Try.prog md body = true ∧ ent100.rc = comp Try.prog md body :=
  ⟨rfl, md, Try.f100, body100, Try.func100, by kernel_rfl, by kernel_rfl, rfl, resT_all (by kernel_rfl), draw100, rfl⟩
noncomputable def ent101 : Ent := ⟨Try.f101.ntmps, comp Try.prog md body101, resT Try.prog Try.f101.results.toList, none⟩
theorem ent101_is : ent101.orc = none ∧ ∃ (md : Modes) (fn : Func) (body : Code), Try.prog.funcs[101]? = some fn ∧ (fn.name == "runtime.NumGoroutine") = false ∧ fn.body = some body ∧ fn.ntmps = ent101.n ∧ cRes Try.prog fn.results.toList = some ent101.ts ∧ okDraw Try.prog md body = true ∧ ent101.rc = comp Try.prog md body :=
  ⟨rfl, md, Try.f101, body101, Try.func101, by kernel_rfl, by kernel_rfl, rfl, resT_all (by kernel_rfl), draw101, rfl⟩
noncomputable def ent102 : Ent := ⟨Try.f102.ntmps, comp Try.prog md body102, resT Try.prog Try.f102.results.toList, none⟩
theorem ent102_is : ent102.orc = none ∧ ∃ (md : Modes) (fn : Func) (body : Code), Try.prog.funcs[102]? = some fn ∧ (fn.name == "runtime.NumGoroutine") = false ∧ fn.body = some body ∧ fn.ntmps = ent102.n ∧ cRes Try.prog fn.results.toList = some ent102.ts ∧ okDraw Try.prog md body = true ∧ ent102.rc = comp Try.prog md body :=
  ⟨rfl, md, Try.f102, body102, Try.func102, by kernel_rfl, by kernel_rfl, rfl, resT_all (by kernel_rfl), draw102, rfl⟩
noncomputable def ent103 : Ent := ⟨Try.f103.ntmps, comp Try.prog md body103, resT Try.prog Try.f103.results.toList, none⟩
theorem ent103_is : ent103.orc = none ∧ ∃ (md : Modes) (fn : Func) (body : Code), Try.prog.funcs[103]? = some fn ∧ (fn.name == "runtime.NumGoroutine") = false ∧ fn.body = some body ∧ fn.ntmps = ent103.n ∧ cRes Try.prog fn.results.toList = some ent103.ts ∧ okDraw Try.prog md body = true ∧ ent103.rc = comp Try.prog md body :=
  ⟨rfl, md, Try.f103, body103, Try.func103, by kernel_rfl, by kernel_rfl, rfl, resT_all (by kernel_rfl), draw103, rfl⟩
noncomputable def ent104 : Ent := ⟨Try.f104.ntmps, comp Try.prog md body104, resT Try.prog Try.f104.results.toList, none⟩
theorem ent104_is : ent104.orc = none ∧ ∃ (md : Modes) (fn : Func) (body : Code), Try.prog.funcs[104]? = some fn ∧ (fn.name == "runtime.NumGoroutine") = false ∧ fn.body = some body ∧ fn.ntmps = ent104.n ∧ cRes Try.prog fn.results.toList = some ent104.ts ∧ okDraw Try.prog md body = true ∧ ent104.rc = comp Try.prog md body :=
  ⟨rfl, md, Try.f104, body104, Try.func104, by kernel_rfl, by kernel_rfl, rfl, resT_all (by kernel_rfl), draw104, rfl⟩
noncomputable def ent105 : Ent := ⟨Try.f105.ntmps, comp Try.prog md body105, resT Try.prog Try.f105.results.toList, none⟩
theorem ent105_is : ent105.orc = none ∧ ∃ (md : Modes) (fn : Func) (body : Code), Try.prog.funcs[105]? = some fn ∧ (fn.name == "runtime.NumGoroutine") = false ∧ fn.body = some body ∧ fn.ntmps = ent105.n ∧ cRes Try.prog fn.results.toList = some ent105.ts ∧ okDraw Try.prog md body = true ∧ ent105.rc = comp Try.prog md body :=
  ⟨rfl, md, Try.f105, body105, Try.func105, by kernel_rfl, by kernel_rfl, rfl, resT_all (by kernel_rfl), draw105, rfl⟩
noncomputable def ent106 : Ent := ⟨Try.f106.ntmps, comp Try.prog md body106, resT Try.prog Try.f106.results.toList, none⟩
theorem ent106_is : ent106.orc = none ∧ ∃ (md : Modes) (fn : Func) (body : Code), Try.prog.funcs[106]? = some fn ∧ (fn.name == "runtime.NumGoroutine") = false ∧ fn.body = some body ∧ fn.ntmps = ent106.n ∧ cRes Try.prog fn.results.toList = some ent106.ts ∧ okDraw Try.prog md body = true ∧ ent106.rc = comp Try.prog md body :=
  ⟨rfl, md, Try.f106, body106, Try.func106, by kernel_rfl, by kernel_rfl, rfl, resT_all (by kernel_rfl), draw106, rfl⟩
noncomputable def ent107 : Ent := ⟨Try.f107.ntmps, comp Try.prog md body107, resT Try.prog Try.f107.results.toList, none⟩
theorem ent107_is : ent107.orc = none ∧ ∃ (md : Modes) (fn : Func) (body : Code), Try.prog.funcs[107]? = some fn ∧ (fn.name == "runtime.NumGoroutine") = false ∧ fn.body = some body ∧ fn.ntmps = ent107.n ∧ cRes Try.prog fn.results.toList = some ent107.ts ∧ okDraw Try.prog md body = true ∧ ent107.rc = comp Try.prog md body :=
  ⟨rfl, md, Try.f107, body107, Try.func107, by kernel_rfl, by kernel_rfl, rfl, resT_all (by kernel_rfl), draw107, rfl⟩
noncomputable def ent108 : Ent := ⟨Try.f108.ntmps, comp Try.prog md body108, resT Try.prog Try.f108.results.toList, none⟩
theorem ent108_is : ent108.orc = none ∧ ∃ (md : Modes) (fn : Func) (body : Code), Try.prog.funcs[108]? = some fn ∧ (fn.name == "runtime.NumGoroutine") = false ∧ fn.body = some body ∧ fn.ntmps = ent108.n ∧ cRes Try.prog fn.results.toList = some ent108.ts ∧ okDraw Try.prog md body = true ∧ ent108.rc = comp Try.prog md body :=
  ⟨rfl, md, Try.f108, body108, Try.func108, by kernel_rfl, by kernel_rfl, rfl, resT_all (by kernel_rfl), draw108, rfl⟩
noncomputable def ent109 : Ent := ⟨Try.f109.ntmps, comp Try.prog md body109, resT Try.prog Try.f109.results.toList, none⟩
theorem ent109_is : ent109.orc = none ∧ ∃ (md : Modes) (fn : Func) (body : Code), Try.prog.funcs[109]? = some fn ∧ (fn.name == "runtime.NumGoroutine") = false ∧ fn.body = some body ∧ fn.ntmps = ent109.n ∧ cRes Try.prog fn.results.toList = some ent109.ts ∧ okDraw Try.prog md body = true ∧ ent109.rc = comp Try.prog md body :=
  ⟨rfl, md, Try.f109, body109, Try.func109, by kernel_rfl, by kernel_rfl, rfl, resT_all (by kernel_rfl), draw109, rfl⟩
noncomputable def ent111 : Ent := ⟨Try.f111.ntmps, comp Try.prog md body111, resT Try.prog Try.f111.results.toList, none⟩
theorem ent111_is : ent111.orc = none ∧ ∃ (md : Modes) (fn : Func) (body : Code), Try.prog.funcs[111]? = some fn ∧ (fn.name == "runtime.NumGoroutine") = false ∧ fn.body = some body ∧ fn.ntmps = ent111.n ∧ cRes Try.prog fn.results.toList = some ent111.ts ∧ okDraw Try.prog md body = true ∧ ent111.rc = comp Try.prog md body :=
  ⟨rfl, md, Try.f111, body111, Try.func111, by kernel_rfl, by kernel_rfl, rfl, resT_all (by kernel_rfl), draw111, rfl⟩
noncomputable def ent114 : Ent := ⟨Try.f114.ntmps, comp Try.prog md body114, resT Try.prog Try.f114.results.toList, none⟩
theorem ent114_is : ent114.orc = none ∧ ∃ (md : Modes) (fn : Func) (body : Code), Try.prog.funcs[114]? = some fn ∧ (fn.name == "runtime.NumGoroutine") = false ∧ fn.body = some body ∧ fn.ntmps = ent114.n ∧ cRes Try.prog fn.results.toList = some ent114.ts ∧ okDraw Try.prog md body = true ∧ ent114.rc = comp Try.prog md body :=
  ⟨rfl, md, Try.f114, body114, Try.func114, by kernel_rfl, by kernel_rfl, rfl, resT_all (by kernel_rfl), draw114, rfl⟩
noncomputable def ent115 : Ent := ⟨Try.f115.ntmps, comp Try.prog md body115, resT Try.prog Try.f115.results.toList, none⟩
theorem ent115_is : ent115.orc = none ∧ ∃ (md : Modes) (fn : Func) (body : Code), Try.prog.funcs[115]? = some fn ∧ (fn.name == "runtime.NumGoroutine") = false ∧ fn.body = some body ∧ fn.ntmps = ent115.n ∧ cRes Try.prog fn.results.toList = some ent115.ts ∧ okDraw Try.prog md body = true ∧ ent115.rc = comp Try.prog md body :=
  ⟨rfl, md, Try.f115, body115, Try.func115, by kernel_rfl, by kernel_rfl, rfl, resT_all (by kernel_rfl), draw115, rfl⟩
noncomputable def ent117 : Ent := ⟨Try.f117.ntmps, comp Try.prog md body117, resT Try.prog Try.f117.results.toList, none⟩
theorem ent117_is : ent117.orc = none ∧ ∃ (md : Modes) (fn : Func) (body : Code), Try.prog.funcs[117]? = some fn ∧ (fn.name == "runtime.NumGoroutine") = false ∧ fn.body = some body ∧ fn.ntmps = ent117.n ∧ cRes Try.prog fn.results.toList = some ent117.ts ∧ okDraw Try.prog md body = true ∧ ent117.rc = comp Try.prog md body :=
  ⟨rfl, md, Try.f117, body117, Try.func117, by kernel_rfl, by kernel_rfl, rfl, resT_all (by kernel_rfl), draw117, rfl⟩
noncomputable def ent119 : Ent := ⟨Try.f119.ntmps, comp Try.prog md body119, resT Try.prog Try.f119.results.toList, none⟩
theorem ent119_is : ent119.orc = none ∧ ∃ (md : Modes) (fn : Func) (body : Code), Try.prog.funcs[119]? = some fn ∧ (fn.name == "runtime.NumGoroutine") = false ∧ fn.body = some body ∧ fn.ntmps = ent119.n ∧ cRes Try.prog fn.results.toList = some ent119.ts ∧ okDraw Try.prog md body = true ∧ ent119.rc = comp Try.prog md body :=
  ⟨rfl, md, Try.f119, body119, Try.func119, by kernel_rfl, by kernel_rfl, rfl, resT_all (by kernel_rfl), draw119, rfl⟩
noncomputable def ent120 : Ent := ⟨Try.f120.ntmps, comp Try.prog md body120, resT Try.prog Try.f120.results.toList, none⟩
theorem ent120_is : ent120.orc = none ∧ ∃ (md : Modes) (fn : Func) (body : Code), Try.prog.funcs[120]? = some fn ∧ (fn.name == "runtime.NumGoroutine") = false ∧ fn.body = some body ∧ fn.ntmps = ent120.n ∧ cRes Try.prog fn.results.toList = some ent120.ts ∧ okDraw Try.prog md body = true ∧ ent120.rc = comp Try.prog md body :=
  ⟨rfl, md, Try.f120, body120, Try.func120, by kernel_rfl, by kernel_rfl, rfl, resT_all (by kernel_rfl), draw120, rfl⟩
noncomputable def ent122 : Ent := ⟨Try.f122.ntmps, comp Try.prog md body122, resT Try.prog Try.f122.results.toList, none⟩
theorem ent122_is : ent122.orc = none ∧ ∃ (md : Modes) (fn : Func) (body : Code), Try.prog.funcs[122]? = some fn ∧ (fn.name == "runtime.NumGoroutine") = false ∧ fn.body = some body ∧ fn.ntmps = ent122.n ∧ cRes Try.prog fn.results.toList = some ent122.ts ∧ okDraw Try.prog md body = true ∧ ent122.rc = comp Try.prog md body :=
  ⟨rfl, md, Try.f122, body122, Try.func122, by kernel_rfl, by kernel_rfl, rfl, resT_all (by kernel_rfl), draw122, rfl⟩
noncomputable def ent123 : Ent := ⟨Try.f123.ntmps, comp Try.prog md body123, resT Try.prog Try.f123.results.toList, none⟩
theorem ent123_is : ent123.orc = none ∧ ∃ (md : Modes) (fn : Func) (body : Code), Try.prog.funcs[123]? = some fn ∧ (fn.name == "runtime.NumGoroutine") = false ∧ fn.body = some body ∧ fn.ntmps = ent123.n ∧ cRes Try.prog fn.results.toList = some ent123.ts ∧ okDraw Try.prog md body = true ∧ ent123.rc = comp Try.prog md body :=
  ⟨rfl, md, Try.f123, body123, Try.func123, by kernel_rfl, by kernel_rfl, rfl, resT_all (by kernel_rfl), draw123, rfl⟩
noncomputable def ent125 : Ent := ⟨Try.f125.ntmps, comp Try.prog md body125, resT Try.prog Try.f125.results.toList, none⟩
theorem ent125_is : ent125.orc = none ∧ ∃ (md : Modes) (fn : Func) (body : Code), Try.prog.funcs[125]? = some fn ∧ (fn.name == "runtime.NumGoroutine") = false ∧ fn.body = some body ∧ fn.ntmps = ent125.n ∧ cRes Try.prog fn.results.toList = some ent125.ts ∧ okDraw Try.prog md body = true ∧ ent125.rc = comp Try.prog md body :=
  ⟨rfl, md, Try.f125, body125, Try.func125, by kernel_rfl, by kernel_rfl, rfl, resT_all (by kernel_rfl), draw125, rfl⟩
noncomputable def ent126 : Ent := ⟨Try.f126.ntmps, comp Try.prog md body126, resT Try.prog Try.f126.results.toList, none⟩
theorem ent126_is : ent126.orc = none ∧ ∃ (md : Modes) (fn : Func) (body : Code), Try.prog.funcs[126]? = some fn ∧ (fn.name == "runtime.NumGoroutine") = false ∧ fn.body = some body ∧ fn.ntmps = ent126.n ∧ cRes Try.prog fn.results.toList = some ent126.ts ∧ okDraw Try.prog md body = true ∧ ent126.rc = comp Try.prog md body :=
  ⟨rfl, md, Try.f126, body126, Try.func126, by kernel_rfl, by kernel_rfl, rfl, resT_all (by kernel_rfl), draw126, rfl⟩
noncomputable def ent127 : Ent := ⟨Try.f127.ntmps, comp Try.prog md body127, resT Try.prog Try.f127.results.toList, none⟩
theorem ent127_is : ent127.orc = none ∧ ∃ (md : Modes) (fn : Func) (body : Code), Try.prog.funcs[127]? = some fn ∧ (fn.name == "runtime.NumGoroutine") = false ∧ fn.body = some body ∧ fn.ntmps = ent127.n ∧ cRes Try.prog fn.results.toList = some ent127.ts ∧ okDraw Try.prog md body = true ∧ ent127.rc = comp Try.prog md body :=
  ⟨rfl, md, Try.f127, body127, Try.func127, by kernel_rfl, by kernel_rfl, rfl, resT_all (by kernel_rfl), draw127, rfl⟩
noncomputable def ent128 : Ent := ⟨Try.f128.ntmps, comp Try.prog md body128, resT Try.prog Try.f128.results.toList, none⟩
theorem ent128_is : ent128.orc = none ∧ ∃ (md : Modes) (fn : Func) (body : Code), Try.prog.funcs[128]? = some fn ∧ (fn.name == "runtime.NumGoroutine") = false ∧ fn.body = some body ∧ fn.ntmps = ent128.n ∧ cRes Try.prog fn.results.toList = some ent128.ts ∧ okDraw Try.prog md body = true ∧ ent128.rc = comp Try.prog md body :=
  ⟨rfl, md, Try.f128, body128, Try.func128, by kernel_rfl, by kernel_rfl, rfl, resT_all (by kernel_rfl), draw128, rfl⟩
noncomputable def ent129 : Ent := ⟨Try.f129.ntmps, comp Try.prog md body129, resT Try.prog Try.f129.results.toList, none⟩
theorem ent129_is : ent129.orc = none ∧ ∃ (md : Modes) (fn : Func) (body : Code), Try.prog.funcs[129]? = some fn ∧ (fn.name == "runtime.NumGoroutine") = false ∧ fn.body = some body ∧ fn.ntmps = ent129.n ∧ cRes Try.prog fn.results.toList = some ent129.ts ∧ okDraw Try.prog md body = true ∧ ent129.rc = comp Try.prog md body :=
  ⟨rfl, md, Try.f129, body129, Try.func129, by kernel_rfl, by kernel_rfl, rfl, resT_all (by kernel_rfl), draw129, rfl⟩
noncomputable def ent130 : Ent := ⟨Try.f130.ntmps, comp Try.prog md body130, resT Try.prog Try.f130.results.toList, none⟩
theorem ent130_is : ent130.orc = none ∧ ∃ (md : Modes) (fn : Func) (body : Code), Try.prog.funcs[130]? = some fn ∧ (fn.name == "runtime.NumGoroutine") = false ∧ fn.body = some body ∧ fn.ntmps = ent130.n ∧ cRes Try.prog fn.results.toList = some ent130.ts ∧ okDraw Try.prog md body = true ∧ ent130.rc = comp Try.prog md body :=
  ⟨rfl, md, Try.f130, body130, Try.func130, by kernel_rfl, by kernel_rfl, rfl, resT_all (by kernel_rfl), draw130, rfl⟩
noncomputable def ent131 : Ent := ⟨Try.f131.ntmps, comp Try.prog md body131, resT Try.prog Try.f131.results.toList, none⟩
theorem ent131_is : ent131.orc = none ∧ ∃ (md : Modes) (fn : Func) (body : Code), Try.prog.funcs[131]? = some fn ∧ (fn.name == "runtime.NumGoroutine") = false ∧ fn.body = some body ∧ fn.ntmps = ent131.n ∧ cRes Try.prog fn.results.toList = some ent131.ts ∧ okDraw Try.prog md body = true ∧ ent131.rc = comp Try.prog md body :=
  ⟨rfl, md, Try.f131, body131, Try.func131, by kernel_rfl, by kernel_rfl, rfl, resT_all (by kernel_rfl), draw131, rfl⟩
noncomputable def ent132 : Ent := ⟨Try.f132.ntmps, comp Try.prog md body132, resT Try.prog Try.f132.results.toList, none⟩
theorem ent132_is : ent132.orc = none ∧ ∃ (md : Modes) (fn : Func) (body : Code), Try.prog.funcs[132]? = some fn ∧ (fn.name == "runtime.NumGoroutine") = false ∧ fn.body = some body ∧ fn.ntmps = ent132.n ∧ cRes Try.prog fn.results.toList = some ent132.ts ∧ okDraw Try.prog md body = true ∧ ent132.rc = comp Try.prog md body :=
  ⟨rfl, md, Try.f132, body132, Try.func132, by kernel_rfl, by kernel_rfl, rfl, resT_all (by kernel_rfl), draw132, rfl⟩
noncomputable def ent133 : Ent := ⟨Try.f133.ntmps, comp Try.prog md body133, resT Try.prog Try.f133.results.toList, none⟩
theorem ent133_is : ent133.orc = none ∧ ∃ (md : Modes) (fn : Func) (body : Code), Try.prog.funcs[133]? = some fn ∧ (fn.name == "runtime.NumGoroutine") = false ∧ fn.body = some body ∧ fn.ntmps = ent133.n ∧ cRes Try.prog fn.results.toList = some ent133.ts ∧ okDraw Try.prog md body = true ∧ ent133.rc = comp Try.prog md body :=
  ⟨rfl, md, Try.f133, body133, Try.func133, by kernel_rfl, by kernel_rfl, rfl, resT_all (by kernel_rfl), draw133, rfl⟩
noncomputable def ent134 : Ent := ⟨Try.f134.ntmps, comp Try.prog md body134, resT Try.prog Try.f134.results.toList, none⟩
theorem ent134_is : ent134.orc = none ∧ ∃ (md : Modes) (fn : Func) (body : Code), Try.prog.funcs[134]? = some fn ∧ (fn.name == "runtime.NumGoroutine") = false ∧ fn.body = some body ∧ fn.ntmps = ent134.n ∧ cRes Try.prog fn.results.toList = some ent134.ts ∧ okDraw Try.prog md body = true ∧ ent134.rc = comp Try.prog md body :=
  ⟨rfl, md, Try.f134, body134, Try.func134, by kernel_rfl, by kernel_rfl, rfl, resT_all (by kernel_rfl), draw134, rfl⟩
noncomputable def ent135 : Ent := ⟨Try.f135.ntmps, comp Try.prog md body135, resT Try.prog Try.f135.results.toList, none⟩
theorem ent135_is : ent135.orc = none ∧ ∃ (md : Modes) (fn : Func) (body : Code), Try.prog.funcs[135]? = some fn ∧ (fn.name == "runtime.NumGoroutine") = false ∧ fn.body = some body ∧ fn.ntmps = ent135.n ∧ cRes Try.prog fn.results.toList = some ent135.ts ∧ okDraw Try.prog md body = true ∧ ent135.rc = comp Try.prog md body :=
  ⟨rfl, md, Try.f135, body135, Try.func135, by kernel_rfl, by kernel_rfl, rfl, resT_all (by kernel_rfl), draw135, rfl⟩
noncomputable def ent136 : Ent := ⟨Try.f136.ntmps, comp Try.prog md body136, resT Try.prog Try.f136.results.toList, none⟩
theorem ent136_is : ent136.orc = none ∧ ∃ (md : Modes) (fn : Func) (body : Code), Try.prog.funcs[136]? = some fn ∧ (fn.name == "runtime.NumGoroutine") = false ∧ fn.body = some body ∧ fn.ntmps = ent136.n ∧ cRes Try.prog fn.results.toList = some ent136.ts ∧ okDraw Try.prog md body = true ∧ ent136.rc = comp Try.prog md body :=
  ⟨rfl, md, Try.f136, body136, Try.func136, by kernel_rfl, by kernel_rfl, rfl, resT_all (by kernel_rfl), draw136, rfl⟩
noncomputable def ent137 : Ent := ⟨Try.f137.ntmps, comp Try.prog md body137, resT Try.prog Try.f137.results.toList, none⟩
theorem ent137_is : ent137.orc = none ∧ ∃ (md : Modes) (fn : Func) (body : Code), Try.prog.funcs[137]? = some fn ∧ (fn.name == "runtime.NumGoroutine") = false ∧ fn.body = some body ∧ fn.ntmps = ent137.n ∧ cRes Try.prog fn.results.toList = some ent137.ts ∧ okDraw Try.prog md body = true ∧ ent137.rc = comp Try.prog md body :=
  ⟨rfl, md, Try.f137, body137, Try.func137, by kernel_rfl, by kernel_rfl, rfl, resT_all (by kernel_rfl), draw137, rfl⟩
noncomputable def ent138 : Ent := ⟨Try.f138.ntmps, comp Try.prog md body138, resT Try.prog Try.f138.results.toList, none⟩
theorem ent138_is : ent138.orc = none ∧ ∃ (md : Modes) (fn : Func) (body : Code), Try.prog.funcs[138]? = some fn ∧ (fn.name == "runtime.NumGoroutine") = false ∧ fn.body = some body ∧ fn.ntmps = ent138.n ∧ cRes Try.prog fn.results.toList = some ent138.ts ∧ okDraw Try.prog md body = true ∧ ent138.rc = comp Try.prog md body :=
  ⟨rfl, md, Try.f138, body138, Try.func138, by kernel_rfl, by kernel_rfl, rfl, resT_all (by kernel_rfl), draw138, rfl⟩
noncomputable def ent139 : Ent := ⟨Try.f139.ntmps, comp Try.prog md body139, resT Try.prog Try.f139.results.toList, none⟩
theorem ent139_is : ent139.orc = none ∧ ∃ (md : Modes) (fn : Func) (body : Code), Try.prog.funcs[139]? = some fn ∧ (fn.name == "runtime.NumGoroutine") = false ∧ fn.body = some body ∧ fn.ntmps = ent139.n ∧ cRes Try.prog fn.results.toList = some ent139.ts ∧ okDraw Try.prog md body = true ∧ ent139.rc = comp Try.prog md body :=
  ⟨rfl, md, Try.f139, body139, Try.func139, by kernel_rfl, by kernel_rfl, rfl, resT_all (by kernel_rfl), draw139, rfl⟩
noncomputable def ent140 : Ent := ⟨Try.f140.ntmps, comp Try.prog md body140, resT Try.prog Try.f140.results.toList, none⟩
theorem ent140_is : ent140.orc = none ∧ ∃ (md : Modes) (fn : Func) (body : Code), Try.prog.funcs[140]? = some fn ∧ (fn.name == "runtime.NumGoroutine") = false ∧ fn.body = some body ∧ fn.ntmps = ent140.n ∧ cRes Try.prog fn.results.toList = some ent140.ts ∧ okDraw Try.prog md body = true ∧ ent140.rc = comp Try.prog md body :=
  ⟨rfl, md, Try.f140, body140, Try.func140, by kernel_rfl, by kernel_rfl, rfl, resT_all (by kernel_rfl), draw140, rfl⟩
noncomputable def ent141 : Ent := ⟨Try.f141.ntmps, comp Try.prog md body141, resT Try.prog Try.f141.results.toList, none⟩
theorem ent141_is : ent141.orc = none ∧ ∃ (md : Modes) (fn : Func) (body : Code), Try.prog.funcs[141]? = some fn ∧ (fn.name == "runtime.NumGoroutine") = false ∧ fn.body = some body ∧ fn.ntmps = ent141.n ∧ cRes Try.prog fn.results.toList = some ent141.ts ∧ okDraw Try.prog md body = true ∧ ent141.rc = comp Try.prog md body :=
  ⟨rfl, md, Try.f141, body141, Try.func141, by kernel_rfl, by kernel_rfl, rfl, resT_all (by kernel_rfl), draw141, rfl⟩
noncomputable def ent142 : Ent := ⟨Try.f142.ntmps, comp Try.prog md body142, resT Try.prog Try.f142.results.toList, none⟩
theorem ent142_is : ent142.orc = none ∧ ∃ (md : Modes) (fn : Func) (body : Code), Try.prog.funcs[142]? = some fn ∧ (fn.name == "runtime.NumGoroutine") = false ∧ fn.body = some body ∧ fn.ntmps = ent142.n ∧ cRes Try.prog fn.results.toList = some ent142.ts ∧ okDraw Try.prog md body = true ∧ ent142.rc = comp Try.prog md body :=
  ⟨rfl, md, Try.f142, body142, Try.func142, by kernel_rfl, by kernel_rfl, rfl, resT_all (by kernel_rfl), draw142, rfl⟩
noncomputable def ent143 : Ent := ⟨Try.f143.ntmps, comp Try.prog md body143, resT Try.prog Try.f143.results.toList, none⟩
theorem ent143_is : ent143.orc = none ∧ ∃ (md : Modes) (fn : Func) (body : Code), Try.prog.funcs[143]? = some fn ∧ (fn.name == "runtime.NumGoroutine") = false ∧ fn.body = some body ∧ fn.ntmps = ent143.n ∧ cRes Try.prog fn.results.toList = some ent143.ts ∧ okDraw Try.prog md body = true ∧ ent143.rc = comp Try.prog md body :=
  ⟨rfl, md, Try.f143, body143, Try.func143, by kernel_rfl, by kernel_rfl, rfl, resT_all (by kernel_rfl), draw143, rfl⟩
noncomputable def ent144 : Ent := ⟨Try.f144.ntmps, comp Try.prog md body144, resT Try.prog Try.f144.results.toList, none⟩
theorem ent144_is : ent144.orc = none ∧ ∃ (md : Modes) (fn : Func) (body : Code), Try.prog.funcs[144]? = some fn ∧ (fn.name == "runtime.NumGoroutine") = false ∧ fn.body = some body ∧ fn.ntmps = ent144.n ∧ cRes Try.prog fn.results.toList = some ent144.ts ∧ okDraw Try.prog md body = true ∧ ent144.rc = comp Try.prog md body :=
  ⟨rfl, md, Try.f144, body144, Try.func144, by kernel_rfl, by kernel_rfl, rfl, resT_all (by kernel_rfl), draw144, rfl⟩
noncomputable def ent145 : Ent := ⟨Try.f145.ntmps, comp Try.prog md body145, resT Try.prog Try.f145.results.toList, none⟩
theorem ent145_is : ent145.orc = none ∧ ∃ (md : Modes) (fn : Func) (body : Code), Try.prog.funcs[145]? = some fn ∧ (fn.name == "runtime.NumGoroutine") = false ∧ fn.body = some body ∧ fn.ntmps = ent145.n ∧ cRes Try.prog fn.results.toList = some ent145.ts ∧ okDraw Try.prog md body = true ∧ ent145.rc = comp Try.prog md body :=
  ⟨rfl, md, Try.f145, body145, Try.func145, by kernel_rfl, by kernel_rfl, rfl, resT_all (by kernel_rfl), draw145, rfl⟩
noncomputable def ent146 : Ent := ⟨Try.f146.ntmps, comp Try.prog md body146, resT Try.prog Try.f146.results.toList, none⟩
theorem ent146_is : ent146.orc = none ∧ ∃ (md : Modes) (fn : Func) (body : Code), Try.prog.funcs[146]? = some fn ∧ (fn.name == "runtime.NumGoroutine") = false ∧ fn.body = some body ∧ fn.ntmps = ent146.n ∧ cRes Try.prog fn.results.toList = some ent146.ts ∧ okDraw Try.prog md body = true ∧ ent146.rc = comp Try.prog md body :=
  ⟨rfl, md, Try.f146, body146, Try.func146, by kernel_rfl, by kernel_rfl, rfl, resT_all (by kernel_rfl), draw146, rfl⟩
noncomputable def ent147 : Ent := ⟨Try.f147.ntmps, comp Try.prog md body147, resT Try.prog Try.f147.results.toList, none⟩
theorem ent147_is : ent147.orc = none ∧ ∃ (md : Modes) (fn : Func) (body : Code), Try.prog.funcs[147]? = some fn ∧ (fn.name == "runtime.NumGoroutine") = false ∧ fn.body = some body ∧ fn.ntmps = ent147.n ∧ cRes Try.prog fn.results.toList = some ent147.ts ∧ okDraw Try.prog md body = true ∧ ent147.rc = comp Try.prog md body :=
  ⟨rfl, md, Try.f147, body147, Try.func147, by kernel_rfl, by kernel_rfl, rfl, resT_all (by kernel_rfl), draw147, rfl⟩
noncomputable def ent148 : Ent := ⟨Try.f148.ntmps, comp Try.prog md body148, resT Try.prog Try.f148.results.toList, none⟩
theorem ent148_is : ent148.orc = none ∧ ∃ (md : Modes) (fn : Func) (body : Code), Try.prog.funcs[148]? = some fn ∧ (fn.name == "runtime.NumGoroutine") = false ∧ fn.body = some body ∧ fn.ntmps = ent148.n ∧ cRes Try.prog fn.results.toList = some ent148.ts ∧ okDraw Try.prog md body = true ∧ ent148.rc = comp Try.prog md body :=
  ⟨rfl, md, Try.f148, body148, Try.func148, by kernel_rfl, by kernel_rfl, rfl, resT_all (by kernel_rfl), draw148, rfl⟩
noncomputable def ent149 : Ent := ⟨Try.f149.ntmps, comp Try.prog md body149, resT Try.prog Try.f149.results.toList, none⟩
theorem ent149_is : ent149.orc = none ∧ ∃ (md : Modes) (fn : Func) (body : Code), Try.prog.funcs[149]? = some fn ∧ (fn.name == "runtime.NumGoroutine") = false ∧ fn.body = some body ∧ fn.ntmps = ent149.n ∧ cRes Try.prog fn.results.toList = some ent149.ts ∧ okDraw Try.prog md body = true ∧ ent149.rc = comp Try.prog md body :=
  ⟨rfl, md, Try.f149, body149, Try.func149, by kernel_rfl, by kernel_rfl, rfl, resT_all (by kernel_rfl), draw149, rfl⟩
noncomputable def ent150 : Ent := ⟨Try.f150.ntmps, comp Try.prog md body150, resT Try.prog Try.f150.results.toList, none⟩
theorem ent150_is : ent150.orc = none ∧ ∃ (md : Modes) (fn : Func) (body : Code), Try.prog.funcs[150]? = some fn ∧ (fn.name == "runtime.NumGoroutine") = false ∧ fn.body = some body ∧ fn.ntmps = ent150.n ∧ cRes Try.prog fn.results.toList = some ent150.ts ∧ okDraw Try.prog md body = true ∧ ent150.rc = comp Try.prog md body :=
  ⟨rfl, md, Try.f150, body150, Try.func150, by kernel_rfl, by kernel_rfl, rfl, resT_all (by kernel_rfl), draw150, rfl⟩
noncomputable def ent151 : Ent := ⟨Try.f151.ntmps, comp Try.prog md body151, resT Try.prog Try.f151.results.toList, none⟩
theorem ent151_is : ent151.orc = none ∧ ∃ (md : Modes) (fn : Func) (body : Code), Try.prog.funcs[151]? = some fn ∧ (fn.name == "runtime.NumGoroutine") = false ∧ fn.body = some body ∧ fn.ntmps = ent151.n ∧ cRes Try.prog fn.results.toList = some ent151.ts ∧ okDraw Try.prog md body = true ∧ ent151.rc = comp Try.prog md body :=
  ⟨rfl, md, Try.f151, body151, Try.func151, by kernel_rfl, by kernel_rfl, rfl, resT_all (by kernel_rfl), draw151, rfl⟩
noncomputable def ent152 : Ent := ⟨Try.f152.ntmps, comp Try.prog md body152, resT Try.prog Try.f152.results.toList, none⟩
theorem ent152_is : ent152.orc = none ∧ ∃ (md : Modes) (fn : Func) (body : Code), Try.prog.funcs[152]? = some fn ∧ (fn.name == "runtime.NumGoroutine") = false ∧ fn.body = some body ∧ fn.ntmps = ent152.n ∧ cRes Try.prog fn.results.toList = some ent152.ts ∧ okDraw Try.prog md body = true ∧ ent152.rc = comp Try.prog md body :=
  ⟨rfl, md, Try.f152, body152, Try.func152, by kernel_rfl, by kernel_rfl, rfl, resT_all (by kernel_rfl), draw152, rfl⟩
noncomputable def ent153 : Ent := ⟨Try.f153.ntmps, comp Try.prog md body153, resT Try.prog Try.f153.results.toList, none⟩
theorem ent153_is : ent153.orc = none ∧ ∃ (md : Modes) (fn : Func) (body : Code), Try.prog.funcs[153]? = some fn ∧ (fn.name == "runtime.NumGoroutine") = false ∧ fn.body = some body ∧ fn.ntmps = ent153.n ∧ cRes Try.prog fn.results.toList = some ent153.ts ∧ okDraw Try.prog md body = true ∧ ent153.rc = comp Try.prog md body :=
  ⟨rfl, md, Try.f153, body153, Try.func153, by kernel_rfl, by kernel_rfl, rfl, resT_all (by kernel_rfl), draw153, rfl⟩
noncomputable def tab : Tab := fun g => match g with
  | 3 => some ent3
  | 4 => some ent4
  | 5 => some ent5
  | 7 => some ent7
  | 8 => some ent8
  | 9 => some ent9
  | 10 => some ent10
  | 12 => some ent12
  | 13 => some ent13
  | 14 => some ent14
  | 15 => some ent15
  | 16 => some ent16
  | 17 => some ent17
  | 18 => some ent18
  | 19 => some ent19
  | 20 => some ent20
  | 21 => some ent21
  | 22 => some ent22
  | 23 => some ent23
  | 24 => some ent24
  | 25 => some ent25
  | 26 => some ent26
  | 27 => some ent27
  | 28 => some ent28
  | 29 => some ent29
  | 30 => some ent30
  | 31 => some ent31
  | 32 => some ent32
  | 33 => some ent33
  | 34 => some ent34
  | 35 => some ent35
  | 36 => some ent36
  | 37 => some ent37
  | 38 => some ent38
  | 39 => some ent39
  | 40 => some ent40
  | 41 => some ent41
  | 42 => some ent42
  | 43 => some ent43
  | 44 => some ent44
  | 45 => some ent45
  | 46 => some ent46
  | 47 => some ent47
  | 48 => some ent48
  | 49 => some ent49
  | 50 => some ent50
  | 51 => some ent51
  | 52 => some ent52
  | 53 => some ent53
  | 54 => some ent54
  | 56 => some ent56
  | 57 => some ent57
  | 58 => some ent58
  | 59 => some ent59
  | 60 => some ent60
  | 61 => some ent61
  | 62 => some ent62
  | 63 => some ent63
  | 64 => some ent64
  | 65 => some ent65
  | 66 => some ent66
  | 67 => some ent67
  | 68 => some ent68
  | 69 => some ent69
  | 70 => some ent70
  | 72 => some ent72
  | 73 => some ent73
  | 74 => some ent74
  | 75 => some ent75
  | 76 => some ent76
  | 77 => some ent77
  | 78 => some ent78
  | 79 => some ent79
  | 80 => some ent80
  | 81 => some ent81
  | 82 => some ent82
  | 83 => some ent83
  | 84 => some ent84
  | 85 => some ent85
  | 86 => some ent86
  | 87 => some ent87
  | 88 => some ent88
  | 89 => some ent89
  | 90 => some ent90
  | 91 => some ent91
  | 92 => some ent92
  | 93 => some ent93
  | 94 => some ent94
  | 96 => some ent96
  | 97 => some ent97
  | 98 => some ent98
  | 99 => some ent99
  | 100 => some ent100
  | 101 => some ent101
  | 102 => some ent102
  | 103 => some ent103
  | 104 => some ent104
  | 105 => some ent105
  | 106 => some ent106
  | 107 => some ent107
  | 108 => some ent108
  | 109 => some ent109
  | 111 => some ent111
  | 114 => some ent114
  | 115 => some ent115
  | 117 => some ent117
  | 119 => some ent119
  | 120 => some ent120
  | 122 => some ent122
  | 123 => some ent123
  | 125 => some ent125
  | 126 => some ent126
  | 127 => some ent127
  | 128 => some ent128
  | 129 => some ent129
  | 130 => some ent130
  | 131 => some ent131
  | 132 => some ent132
  | 133 => some ent133
  | 134 => some ent134
  | 135 => some ent135
  | 136 => some ent136
  | 137 => some ent137
  | 138 => some ent138
  | 139 => some ent139
  | 140 => some ent140
  | 141 => some ent141
  | 142 => some ent142
  | 143 => some ent143
  | 144 => some ent144
  | 145 => some ent145
  | 146 => some ent146
  | 147 => some ent147
  | 148 => some ent148
  | 149 => some ent149
  | 150 => some ent150
  | 151 => some ent151
  | 152 => some ent152
  | 153 => some ent153
  | 55 => some ⟨0, .skip, [], some cloneO⟩
  | 95 => some ⟨0, .skip, [], some Iter.cmpO⟩
  | 110 => some ⟨0, .skip, [], some Iter.colRO⟩
  | 116 => some ⟨0, .skip, [], some collectO⟩
  | _ => none
theorem tab_is : TabIs Try.prog tab := by
  intro g e h
  unfold tab at h
  split at h
  · obtain rfl := Option.some.inj h; exact .inr ent3_is
  · obtain rfl := Option.some.inj h; exact .inr ent4_is
  · obtain rfl := Option.some.inj h; exact .inr ent5_is
  · obtain rfl := Option.some.inj h; exact .inr ent7_is
  · obtain rfl := Option.some.inj h; exact .inr ent8_is
  · obtain rfl := Option.some.inj h; exact .inr ent9_is
  · obtain rfl := Option.some.inj h; exact .inr ent10_is
  · obtain rfl := Option.some.inj h; exact .inr ent12_is
  · obtain rfl := Option.some.inj h; exact .inr ent13_is
  · obtain rfl := Option.some.inj h; exact .inr ent14_is
  · obtain rfl := Option.some.inj h; exact .inr ent15_is
  · obtain rfl := Option.some.inj h; exact .inr ent16_is
  · obtain rfl := Option.some.inj h; exact .inr ent17_is
  · obtain rfl := Option.some.inj h; exact .inr ent18_is
  · obtain rfl := Option.some.inj h; exact .inr ent19_is
  · obtain rfl := Option.some.inj h; exact .inr ent20_is
  · obtain rfl := Option.some.inj h; exact .inr ent21_is
  · obtain rfl := Option.some.inj h; exact .inr ent22_is
  · obtain rfl := Option.some.inj h; exact .inr ent23_is
  · obtain rfl := Option.some.inj h; exact .inr ent24_is
  · obtain rfl := Option.some.inj h; exact .inr ent25_is
  · obtain rfl := Option.some.inj h; exact .inr ent26_is
  · obtain rfl := Option.some.inj h; exact .inr ent27_is
  · obtain rfl := Option.some.inj h; exact .inr ent28_is
  · obtain rfl := Option.some.inj h; exact .inr ent29_is
  · obtain rfl := Option.some.inj h; exact .inr ent30_is
  · obtain rfl := Option.some.inj h; exact .inr ent31_is
  · obtain rfl := Option.some.inj h; exact .inr ent32_is
  · obtain rfl := Option.some.inj h; exact .inr ent33_is
  · obtain rfl := Option.some.inj h; exact .inr ent34_is
  · obtain rfl := Option.some.inj h; exact .inr ent35_is
  · obtain rfl := Option.some.inj h; exact .inr ent36_is
  · obtain rfl := Option.some.inj h; exact .inr ent37_is
  · obtain rfl := Option.some.inj h; exact .inr ent38_is
  · obtain rfl := Option.some.inj h; exact .inr ent39_is
  · obtain rfl := Option.some.inj h; exact .inr ent40_is
  · obtain rfl := Option.some.inj h; exact .inr ent41_is
  · obtain rfl := Option.some.inj h; exact .inr ent42_is
  · obtain rfl := Option.some.inj h; exact .inr ent43_is
  · obtain rfl := Option.some.inj h; exact .inr ent44_is
  · obtain rfl := Option.some.inj h; exact .inr ent45_is
  · obtain rfl := Option.some.inj h; exact .inr ent46_is
  · obtain rfl := Option.some.inj h; exact .inr ent47_is
  · obtain rfl := Option.some.inj h; exact .inr ent48_is
  · obtain rfl := Option.some.inj h; exact .inr ent49_is
  · obtain rfl := Option.some.inj h; exact .inr ent50_is
  · obtain rfl := Option.some.inj h; exact .inr ent51_is
  · obtain rfl := Option.some.inj h; exact .inr ent52_is
  · obtain rfl := Option.some.inj h; exact .inr ent53_is
  · obtain rfl := Option.some.inj h; exact .inr ent54_is
  · obtain rfl := Option.some.inj h; exact .inr ent56_is
  · obtain rfl := Option.some.inj h; exact .inr ent57_is
  · obtain rfl := Option.some.inj h; exact .inr ent58_is
  · obtain rfl := Option.some.inj h; exact .inr ent59_is
  · obtain rfl := Option.some.inj h; exact .inr ent60_is
  · obtain rfl := Option.some.inj h; exact .inr ent61_is
  · obtain rfl := Option.some.inj h; exact .inr ent62_is
  · obtain rfl := Option.some.inj h; exact .inr ent63_is
  · obtain rfl := Option.some.inj h; exact .inr ent64_is
  · obtain rfl := Option.some.inj h; exact .inr ent65_is
  · obtain rfl := Option.some.inj h; exact .inr ent66_is
  · obtain rfl := Option.some.inj h; exact .inr ent67_is
  · obtain rfl := Option.some.inj h; exact .inr ent68_is
  · obtain rfl := Option.some.inj h; exact .inr ent69_is
  · obtain rfl := Option.some.inj h; exact .inr ent70_is
  · obtain rfl := Option.some.inj h; exact .inr ent72_is
  · obtain rfl := Option.some.inj h; exact .inr ent73_is
  · obtain rfl := Option.some.inj h; exact .inr ent74_is
  · obtain rfl := Option.some.inj h; exact .inr ent75_is
  · obtain rfl := Option.some.inj h; exact .inr ent76_is
  · obtain rfl := Option.some.inj h; exact .inr ent77_is
  · obtain rfl := Option.some.inj h; exact .inr ent78_is
  · obtain rfl := Option.some.inj h; exact .inr ent79_is
  · obtain rfl := Option.some.inj h; exact .inr ent80_is
  · obtain rfl := Option.some.inj h; exact .inr ent81_is
  · obtain rfl := Option.some.inj h; exact .inr ent82_is
  · obtain rfl := Option.some.inj h; exact .inr ent83_is
  · obtain rfl := Option.some.inj h; exact .inr ent84_is
  · obtain rfl := Option.some.inj h; exact .inr ent85_is
  · obtain rfl := Option.some.inj h; exact .inr ent86_is
  · obtain rfl := Option.some.inj h; exact .inr ent87_is
  · obtain rfl := Option.some.inj h; exact .inr ent88_is
  · obtain rfl := Option.some.inj h; exact .inr ent89_is
  · obtain rfl := Option.some.inj h; exact .inr ent90_is
  · obtain rfl := Option.some.inj h; exact .inr ent91_is
  · obtain rfl := Option.some.inj h; exact .inr ent92_is
  · obtain rfl := Option.some.inj h; exact .inr ent93_is
  · obtain rfl := Option.some.inj h; exact .inr ent94_is
  · obtain rfl := Option.some.inj h; exact .inr ent96_is
  · obtain rfl := Option.some.inj h; exact .inr ent97_is
  · obtain rfl := Option.some.inj h; exact .inr ent98_is
  · obtain rfl := Option.some.inj h; exact .inr ent99_is
  · obtain rfl := Option.some.inj h; exact .inr ent100_is
  · obtain rfl := Option.some.inj h; exact .inr ent101_is
  · obtain rfl := Option.some.inj h; exact .inr ent102_is
  · obtain rfl := Option.some.inj h; exact .inr ent103_is
  · obtain rfl := Option.some.inj h; exact .inr ent104_is
  · obtain rfl := Option.some.inj h; exact .inr ent105_is
  · obtain rfl := Option.some.inj h; exact .inr ent106_is
  · obtain rfl := Option.some.inj h; exact .inr ent107_is
  · obtain rfl := Option.some.inj h; exact .inr ent108_is
  · obtain rfl := Option.some.inj h; exact .inr ent109_is
  · obtain rfl := Option.some.inj h; exact .inr ent111_is
  · obtain rfl := Option.some.inj h; exact .inr ent114_is
  · obtain rfl := Option.some.inj h; exact .inr ent115_is
  · obtain rfl := Option.some.inj h; exact .inr ent117_is
  · obtain rfl := Option.some.inj h; exact .inr ent119_is
  · obtain rfl := Option.some.inj h; exact .inr ent120_is
  · obtain rfl := Option.some.inj h; exact .inr ent122_is
  · obtain rfl := Option.some.inj h; exact .inr ent123_is
  · obtain rfl := Option.some.inj h; exact .inr ent125_is
  · obtain rfl := Option.some.inj h; exact .inr ent126_is
  · obtain rfl := Option.some.inj h; exact .inr ent127_is
  · obtain rfl := Option.some.inj h; exact .inr ent128_is
  · obtain rfl := Option.some.inj h; exact .inr ent129_is
  · obtain rfl := Option.some.inj h; exact .inr ent130_is
  · obtain rfl := Option.some.inj h; exact .inr ent131_is
  · obtain rfl := Option.some.inj h; exact .inr ent132_is
  · obtain rfl := Option.some.inj h; exact .inr ent133_is
  · obtain rfl := Option.some.inj h; exact .inr ent134_is
  · obtain rfl := Option.some.inj h; exact .inr ent135_is
  · obtain rfl := Option.some.inj h; exact .inr ent136_is
  · obtain rfl := Option.some.inj h; exact .inr ent137_is
  · obtain rfl := Option.some.inj h; exact .inr ent138_is
  · obtain rfl := Option.some.inj h; exact .inr ent139_is
  · obtain rfl := Option.some.inj h; exact .inr ent140_is
  · obtain rfl := Option.some.inj h; exact .inr ent141_is
  · obtain rfl := Option.some.inj h; exact .inr ent142_is
  · obtain rfl := Option.some.inj h; exact .inr ent143_is
  · obtain rfl := Option.some.inj h; exact .inr ent144_is
  · obtain rfl := Option.some.inj h; exact .inr ent145_is
  · obtain rfl := Option.some.inj h; exact .inr ent146_is
  · obtain rfl := Option.some.inj h; exact .inr ent147_is
  · obtain rfl := Option.some.inj h; exact .inr ent148_is
  · obtain rfl := Option.some.inj h; exact .inr ent149_is
  · obtain rfl := Option.some.inj h; exact .inr ent150_is
  · obtain rfl := Option.some.inj h; exact .inr ent151_is
  · obtain rfl := Option.some.inj h; exact .inr ent152_is
  · obtain rfl := Option.some.inj h; exact .inr ent153_is
  · obtain rfl := Option.some.inj h; exact .inl ⟨_, rfl, clone_is⟩
  · obtain rfl := Option.some.inj h; exact .inl ⟨_, rfl, Iter.cmp_is⟩
  · obtain rfl := Option.some.inj h; exact .inl ⟨_, rfl, Iter.colR_is⟩
  · obtain rfl := Option.some.inj h; exact .inl ⟨_, rfl, collect_is⟩
  · cases h
def isTrue (o : Option (DV × List Row)) : Bool := match o with | some (.bool true, []) => true | _ => false
end Go.Proofs.Bi
