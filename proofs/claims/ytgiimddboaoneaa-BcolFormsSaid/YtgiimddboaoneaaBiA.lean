import Derived.Test.YtgiimddboaoneaaProg
import Derived.Test.YtgiimddboaoneaaSxD
import Derived.KernelRfl
/-! The bodies, and how each is called. -/
namespace Go.Proofs.Bi
open Go Go.Sx
set_option maxRecDepth 100000
/-- How each function is called. -/
def md : Modes := fun g => match g with
  | 39 => 1 | 51 => 1 | 88 => 1 | 109 => 1 | 56 => 1 | 57 => 1 | 60 => 1 | 83 => 1 | 73 => 1 | 98 => 1 | 92 => 1 | 104 => 1
  | 111 => 1 | 117 => 1 | 122 => 1 | 125 => 1 | 127 => 1 | 128 => 1 | 129 => 1 | 130 => 1 | 131 => 1 | 132 => 1 | 133 => 1 | 134 => 1
  | 136 => 1 | 137 => 1 | 138 => 1 | 139 => 1 | 140 => 1 | 141 => 1 | 142 => 1 | 143 => 1 | 144 => 1 | 149 => 1 | 146 => 1
  | 147 => 1 | 148 => 1 | 150 => 1 | 151 => 1 | 152 => 1 | 153 => 1 | 35 => 1 | 36 => 1 | 37 => 1 | 47 => 1 | 48 => 1 | 49 => 1 | 50 => 1 | 46 => 1 | 53 => 1 | 72 => 1
  | 94 => 3 | 106 => 3 | 34 => 3 | 17 => 3 | 14 => 3 | 22 => 3 | 93 => 3 | 105 => 3 | 110 => 3 | 116 => 3 | 15 => 3
  | _ => 2
theorem follows : Try.prog.follows .mixedOrders = true := by kernel_rfl
noncomputable def body3 : Code := match Try.f3.body with | some c => c | none => .skip
theorem draw3 : okDraw Try.prog md body3 = true := by kernel_rfl
noncomputable def body4 : Code := match Try.f4.body with | some c => c | none => .skip
theorem draw4 : okDraw Try.prog md body4 = true := by kernel_rfl
noncomputable def body5 : Code := match Try.f5.body with | some c => c | none => .skip
theorem draw5 : okDraw Try.prog md body5 = true := by kernel_rfl
noncomputable def body7 : Code := match Try.f7.body with | some c => c | none => .skip
theorem draw7 : okDraw Try.prog md body7 = true := by kernel_rfl
noncomputable def body8 : Code := match Try.f8.body with | some c => c | none => .skip
theorem draw8 : okDraw Try.prog md body8 = true := by kernel_rfl
noncomputable def body9 : Code := match Try.f9.body with | some c => c | none => .skip
theorem draw9 : okDraw Try.prog md body9 = true := by kernel_rfl
noncomputable def body10 : Code := match Try.f10.body with | some c => c | none => .skip
theorem draw10 : okDraw Try.prog md body10 = true := by kernel_rfl
noncomputable def body12 : Code := match Try.f12.body with | some c => c | none => .skip
theorem draw12 : okDraw Try.prog md body12 = true := by kernel_rfl
noncomputable def body13 : Code := match Try.f13.body with | some c => c | none => .skip
theorem draw13 : okDraw Try.prog md body13 = true := by kernel_rfl
noncomputable def body14 : Code := match Try.f14.body with | some c => c | none => .skip
theorem draw14 : okDraw Try.prog md body14 = true := by kernel_rfl
noncomputable def body15 : Code := match Try.f15.body with | some c => c | none => .skip
theorem draw15 : okDraw Try.prog md body15 = true := by kernel_rfl
noncomputable def body16 : Code := match Try.f16.body with | some c => c | none => .skip
theorem draw16 : okDraw Try.prog md body16 = true := by kernel_rfl
noncomputable def body17 : Code := match Try.f17.body with | some c => c | none => .skip
theorem draw17 : okDraw Try.prog md body17 = true := by kernel_rfl
noncomputable def body18 : Code := match Try.f18.body with | some c => c | none => .skip
theorem draw18 : okDraw Try.prog md body18 = true := by kernel_rfl
noncomputable def body19 : Code := match Try.f19.body with | some c => c | none => .skip
theorem draw19 : okDraw Try.prog md body19 = true := by kernel_rfl
noncomputable def body20 : Code := match Try.f20.body with | some c => c | none => .skip
theorem draw20 : okDraw Try.prog md body20 = true := by kernel_rfl
noncomputable def body21 : Code := match Try.f21.body with | some c => c | none => .skip
theorem draw21 : okDraw Try.prog md body21 = true := by kernel_rfl
noncomputable def body22 : Code := match Try.f22.body with | some c => c | none => .skip
theorem draw22 : okDraw Try.prog md body22 = true := by kernel_rfl
noncomputable def body23 : Code := match Try.f23.body with | some c => c | none => .skip
theorem draw23 : okDraw Try.prog md body23 = true := by kernel_rfl
noncomputable def body24 : Code := match Try.f24.body with | some c => c | none => .skip
theorem draw24 : okDraw Try.prog md body24 = true := by kernel_rfl
noncomputable def body25 : Code := match Try.f25.body with | some c => c | none => .skip
theorem draw25 : okDraw Try.prog md body25 = true := by kernel_rfl
noncomputable def body26 : Code := match Try.f26.body with | some c => c | none => .skip
theorem draw26 : okDraw Try.prog md body26 = true := by kernel_rfl
noncomputable def body27 : Code := match Try.f27.body with | some c => c | none => .skip
theorem draw27 : okDraw Try.prog md body27 = true := by kernel_rfl
noncomputable def body28 : Code := match Try.f28.body with | some c => c | none => .skip
theorem draw28 : okDraw Try.prog md body28 = true := by kernel_rfl
noncomputable def body29 : Code := match Try.f29.body with | some c => c | none => .skip
theorem draw29 : okDraw Try.prog md body29 = true := by kernel_rfl
noncomputable def body30 : Code := match Try.f30.body with | some c => c | none => .skip
theorem draw30 : okDraw Try.prog md body30 = true := by kernel_rfl
noncomputable def body31 : Code := match Try.f31.body with | some c => c | none => .skip
theorem draw31 : okDraw Try.prog md body31 = true := by kernel_rfl
noncomputable def body32 : Code := match Try.f32.body with | some c => c | none => .skip
theorem draw32 : okDraw Try.prog md body32 = true := by kernel_rfl
noncomputable def body33 : Code := match Try.f33.body with | some c => c | none => .skip
theorem draw33 : okDraw Try.prog md body33 = true := by kernel_rfl
noncomputable def body34 : Code := match Try.f34.body with | some c => c | none => .skip
theorem draw34 : okDraw Try.prog md body34 = true := by kernel_rfl
noncomputable def body35 : Code := match Try.f35.body with | some c => c | none => .skip
theorem draw35 : okDraw Try.prog md body35 = true := by kernel_rfl
noncomputable def body36 : Code := match Try.f36.body with | some c => c | none => .skip
theorem draw36 : okDraw Try.prog md body36 = true := by kernel_rfl
noncomputable def body37 : Code := match Try.f37.body with | some c => c | none => .skip
theorem draw37 : okDraw Try.prog md body37 = true := by kernel_rfl
noncomputable def body38 : Code := match Try.f38.body with | some c => c | none => .skip
theorem draw38 : okDraw Try.prog md body38 = true := by kernel_rfl
noncomputable def body39 : Code := match Try.f39.body with | some c => c | none => .skip
theorem draw39 : okDraw Try.prog md body39 = true := by kernel_rfl
noncomputable def body40 : Code := match Try.f40.body with | some c => c | none => .skip
theorem draw40 : okDraw Try.prog md body40 = true := by kernel_rfl
noncomputable def body41 : Code := match Try.f41.body with | some c => c | none => .skip
theorem draw41 : okDraw Try.prog md body41 = true := by kernel_rfl
noncomputable def body42 : Code := match Try.f42.body with | some c => c | none => .skip
theorem draw42 : okDraw Try.prog md body42 = true := by kernel_rfl
noncomputable def body43 : Code := match Try.f43.body with | some c => c | none => .skip
theorem draw43 : okDraw Try.prog md body43 = true := by kernel_rfl
noncomputable def body44 : Code := match Try.f44.body with | some c => c | none => .skip
theorem draw44 : okDraw Try.prog md body44 = true := by kernel_rfl
noncomputable def body45 : Code := match Try.f45.body with | some c => c | none => .skip
theorem draw45 : okDraw Try.prog md body45 = true := by kernel_rfl
noncomputable def body46 : Code := match Try.f46.body with | some c => c | none => .skip
theorem draw46 : okDraw Try.prog md body46 = true := by kernel_rfl
noncomputable def body47 : Code := match Try.f47.body with | some c => c | none => .skip
theorem draw47 : okDraw Try.prog md body47 = true := by kernel_rfl
noncomputable def body48 : Code := match Try.f48.body with | some c => c | none => .skip
theorem draw48 : okDraw Try.prog md body48 = true := by kernel_rfl
noncomputable def body49 : Code := match Try.f49.body with | some c => c | none => .skip
theorem draw49 : okDraw Try.prog md body49 = true := by kernel_rfl
noncomputable def body50 : Code := match Try.f50.body with | some c => c | none => .skip
theorem draw50 : okDraw Try.prog md body50 = true := by kernel_rfl
noncomputable def body51 : Code := match Try.f51.body with | some c => c | none => .skip
theorem draw51 : okDraw Try.prog md body51 = true := by kernel_rfl
noncomputable def body52 : Code := match Try.f52.body with | some c => c | none => .skip
theorem draw52 : okDraw Try.prog md body52 = true := by kernel_rfl
noncomputable def body53 : Code := match Try.f53.body with | some c => c | none => .skip
theorem draw53 : okDraw Try.prog md body53 = true := by kernel_rfl
noncomputable def body54 : Code := match Try.f54.body with | some c => c | none => .skip
theorem draw54 : okDraw Try.prog md body54 = true := by kernel_rfl
noncomputable def body55 : Code := match Try.f55.body with | some c => c | none => .skip
theorem draw55 : okDraw Try.prog md body55 = true := by kernel_rfl
noncomputable def body56 : Code := match Try.f56.body with | some c => c | none => .skip
theorem draw56 : okDraw Try.prog md body56 = true := by kernel_rfl
noncomputable def body57 : Code := match Try.f57.body with | some c => c | none => .skip
theorem draw57 : okDraw Try.prog md body57 = true := by kernel_rfl
noncomputable def body58 : Code := match Try.f58.body with | some c => c | none => .skip
theorem draw58 : okDraw Try.prog md body58 = true := by kernel_rfl
noncomputable def body59 : Code := match Try.f59.body with | some c => c | none => .skip
theorem draw59 : okDraw Try.prog md body59 = true := by kernel_rfl
noncomputable def body60 : Code := match Try.f60.body with | some c => c | none => .skip
theorem draw60 : okDraw Try.prog md body60 = true := by kernel_rfl
noncomputable def body61 : Code := match Try.f61.body with | some c => c | none => .skip
theorem draw61 : okDraw Try.prog md body61 = true := by kernel_rfl
noncomputable def body62 : Code := match Try.f62.body with | some c => c | none => .skip
theorem draw62 : okDraw Try.prog md body62 = true := by kernel_rfl
noncomputable def body63 : Code := match Try.f63.body with | some c => c | none => .skip
theorem draw63 : okDraw Try.prog md body63 = true := by kernel_rfl
noncomputable def body64 : Code := match Try.f64.body with | some c => c | none => .skip
theorem draw64 : okDraw Try.prog md body64 = true := by kernel_rfl
noncomputable def body65 : Code := match Try.f65.body with | some c => c | none => .skip
theorem draw65 : okDraw Try.prog md body65 = true := by kernel_rfl
noncomputable def body66 : Code := match Try.f66.body with | some c => c | none => .skip
theorem draw66 : okDraw Try.prog md body66 = true := by kernel_rfl
noncomputable def body67 : Code := match Try.f67.body with | some c => c | none => .skip
theorem draw67 : okDraw Try.prog md body67 = true := by kernel_rfl
noncomputable def body68 : Code := match Try.f68.body with | some c => c | none => .skip
theorem draw68 : okDraw Try.prog md body68 = true := by kernel_rfl
noncomputable def body69 : Code := match Try.f69.body with | some c => c | none => .skip
theorem draw69 : okDraw Try.prog md body69 = true := by kernel_rfl
noncomputable def body70 : Code := match Try.f70.body with | some c => c | none => .skip
theorem draw70 : okDraw Try.prog md body70 = true := by kernel_rfl
noncomputable def body72 : Code := match Try.f72.body with | some c => c | none => .skip
theorem draw72 : okDraw Try.prog md body72 = true := by kernel_rfl
noncomputable def body73 : Code := match Try.f73.body with | some c => c | none => .skip
theorem draw73 : okDraw Try.prog md body73 = true := by kernel_rfl
noncomputable def body74 : Code := match Try.f74.body with | some c => c | none => .skip
theorem draw74 : okDraw Try.prog md body74 = true := by kernel_rfl
noncomputable def body75 : Code := match Try.f75.body with | some c => c | none => .skip
theorem draw75 : okDraw Try.prog md body75 = true := by kernel_rfl
noncomputable def body76 : Code := match Try.f76.body with | some c => c | none => .skip
theorem draw76 : okDraw Try.prog md body76 = true := by kernel_rfl
noncomputable def body77 : Code := match Try.f77.body with | some c => c | none => .skip
theorem draw77 : okDraw Try.prog md body77 = true := by kernel_rfl
noncomputable def body78 : Code := match Try.f78.body with | some c => c | none => .skip
theorem draw78 : okDraw Try.prog md body78 = true := by kernel_rfl
noncomputable def body79 : Code := match Try.f79.body with | some c => c | none => .skip
theorem draw79 : okDraw Try.prog md body79 = true := by kernel_rfl
noncomputable def body80 : Code := match Try.f80.body with | some c => c | none => .skip
theorem draw80 : okDraw Try.prog md body80 = true := by kernel_rfl
noncomputable def body81 : Code := match Try.f81.body with | some c => c | none => .skip
theorem draw81 : okDraw Try.prog md body81 = true := by kernel_rfl
noncomputable def body82 : Code := match Try.f82.body with | some c => c | none => .skip
theorem draw82 : okDraw Try.prog md body82 = true := by kernel_rfl
noncomputable def body83 : Code := match Try.f83.body with | some c => c | none => .skip
theorem draw83 : okDraw Try.prog md body83 = true := by kernel_rfl
noncomputable def body84 : Code := match Try.f84.body with | some c => c | none => .skip
theorem draw84 : okDraw Try.prog md body84 = true := by kernel_rfl
noncomputable def body85 : Code := match Try.f85.body with | some c => c | none => .skip
theorem draw85 : okDraw Try.prog md body85 = true := by kernel_rfl
noncomputable def body86 : Code := match Try.f86.body with | some c => c | none => .skip
theorem draw86 : okDraw Try.prog md body86 = true := by kernel_rfl
noncomputable def body87 : Code := match Try.f87.body with | some c => c | none => .skip
theorem draw87 : okDraw Try.prog md body87 = true := by kernel_rfl
noncomputable def body88 : Code := match Try.f88.body with | some c => c | none => .skip
theorem draw88 : okDraw Try.prog md body88 = true := by kernel_rfl
noncomputable def body89 : Code := match Try.f89.body with | some c => c | none => .skip
theorem draw89 : okDraw Try.prog md body89 = true := by kernel_rfl
noncomputable def body90 : Code := match Try.f90.body with | some c => c | none => .skip
theorem draw90 : okDraw Try.prog md body90 = true := by kernel_rfl
noncomputable def body91 : Code := match Try.f91.body with | some c => c | none => .skip
theorem draw91 : okDraw Try.prog md body91 = true := by kernel_rfl
noncomputable def body92 : Code := match Try.f92.body with | some c => c | none => .skip
theorem draw92 : okDraw Try.prog md body92 = true := by kernel_rfl
noncomputable def body93 : Code := match Try.f93.body with | some c => c | none => .skip
theorem draw93 : okDraw Try.prog md body93 = true := by kernel_rfl
noncomputable def body94 : Code := match Try.f94.body with | some c => c | none => .skip
theorem draw94 : okDraw Try.prog md body94 = true := by kernel_rfl
noncomputable def body95 : Code := match Try.f95.body with | some c => c | none => .skip
theorem draw95 : okDraw Try.prog md body95 = true := by kernel_rfl
noncomputable def body96 : Code := match Try.f96.body with | some c => c | none => .skip
theorem draw96 : okDraw Try.prog md body96 = true := by kernel_rfl
noncomputable def body97 : Code := match Try.f97.body with | some c => c | none => .skip
theorem draw97 : okDraw Try.prog md body97 = true := by kernel_rfl
noncomputable def body98 : Code := match Try.f98.body with | some c => c | none => .skip
theorem draw98 : okDraw Try.prog md body98 = true := by kernel_rfl
noncomputable def body99 : Code := match Try.f99.body with | some c => c | none => .skip
theorem draw99 : okDraw Try.prog md body99 = true := by kernel_rfl
noncomputable def body100 : Code := match Try.f100.body with | some c => c | none => .skip
theorem draw100 : okDraw Try.prog md body100 = true := by kernel_rfl
noncomputable def body101 : Code := match Try.f101.body with | some c => c | none => .skip
theorem draw101 : okDraw Try.prog md body101 = true := by kernel_rfl
noncomputable def body102 : Code := match Try.f102.body with | some c => c | none => .skip
theorem draw102 : okDraw Try.prog md body102 = true := by kernel_rfl
noncomputable def body103 : Code := match Try.f103.body with | some c => c | none => .skip
theorem draw103 : okDraw Try.prog md body103 = true := by kernel_rfl
noncomputable def body104 : Code := match Try.f104.body with | some c => c | none => .skip
theorem draw104 : okDraw Try.prog md body104 = true := by kernel_rfl
noncomputable def body105 : Code := match Try.f105.body with | some c => c | none => .skip
theorem draw105 : okDraw Try.prog md body105 = true := by kernel_rfl
noncomputable def body106 : Code := match Try.f106.body with | some c => c | none => .skip
theorem draw106 : okDraw Try.prog md body106 = true := by kernel_rfl
noncomputable def body107 : Code := match Try.f107.body with | some c => c | none => .skip
theorem draw107 : okDraw Try.prog md body107 = true := by kernel_rfl
noncomputable def body108 : Code := match Try.f108.body with | some c => c | none => .skip
theorem draw108 : okDraw Try.prog md body108 = true := by kernel_rfl
noncomputable def body109 : Code := match Try.f109.body with | some c => c | none => .skip
theorem draw109 : okDraw Try.prog md body109 = true := by kernel_rfl
noncomputable def body110 : Code := match Try.f110.body with | some c => c | none => .skip
theorem draw110 : okDraw Try.prog md body110 = true := by kernel_rfl
noncomputable def body111 : Code := match Try.f111.body with | some c => c | none => .skip
theorem draw111 : okDraw Try.prog md body111 = true := by kernel_rfl
noncomputable def body112 : Code := match Try.f112.body with | some c => c | none => .skip
theorem draw112 : okDraw Try.prog md body112 = true := by kernel_rfl
noncomputable def body114 : Code := match Try.f114.body with | some c => c | none => .skip
theorem draw114 : okDraw Try.prog md body114 = true := by kernel_rfl
noncomputable def body115 : Code := match Try.f115.body with | some c => c | none => .skip
theorem draw115 : okDraw Try.prog md body115 = true := by kernel_rfl
noncomputable def body116 : Code := match Try.f116.body with | some c => c | none => .skip
theorem draw116 : okDraw Try.prog md body116 = true := by kernel_rfl
noncomputable def body117 : Code := match Try.f117.body with | some c => c | none => .skip
theorem draw117 : okDraw Try.prog md body117 = true := by kernel_rfl
noncomputable def body118 : Code := match Try.f118.body with | some c => c | none => .skip
theorem draw118 : okDraw Try.prog md body118 = true := by kernel_rfl
noncomputable def body119 : Code := match Try.f119.body with | some c => c | none => .skip
theorem draw119 : okDraw Try.prog md body119 = true := by kernel_rfl
noncomputable def body120 : Code := match Try.f120.body with | some c => c | none => .skip
theorem draw120 : okDraw Try.prog md body120 = true := by kernel_rfl
noncomputable def body122 : Code := match Try.f122.body with | some c => c | none => .skip
theorem draw122 : okDraw Try.prog md body122 = true := by kernel_rfl
noncomputable def body123 : Code := match Try.f123.body with | some c => c | none => .skip
theorem draw123 : okDraw Try.prog md body123 = true := by kernel_rfl
noncomputable def body125 : Code := match Try.f125.body with | some c => c | none => .skip
theorem draw125 : okDraw Try.prog md body125 = true := by kernel_rfl
noncomputable def body126 : Code := match Try.f126.body with | some c => c | none => .skip
theorem draw126 : okDraw Try.prog md body126 = true := by kernel_rfl
noncomputable def body127 : Code := match Try.f127.body with | some c => c | none => .skip
theorem draw127 : okDraw Try.prog md body127 = true := by kernel_rfl
noncomputable def body128 : Code := match Try.f128.body with | some c => c | none => .skip
theorem draw128 : okDraw Try.prog md body128 = true := by kernel_rfl
noncomputable def body129 : Code := match Try.f129.body with | some c => c | none => .skip
theorem draw129 : okDraw Try.prog md body129 = true := by kernel_rfl
noncomputable def body130 : Code := match Try.f130.body with | some c => c | none => .skip
theorem draw130 : okDraw Try.prog md body130 = true := by kernel_rfl
noncomputable def body131 : Code := match Try.f131.body with | some c => c | none => .skip
theorem draw131 : okDraw Try.prog md body131 = true := by kernel_rfl
noncomputable def body132 : Code := match Try.f132.body with | some c => c | none => .skip
theorem draw132 : okDraw Try.prog md body132 = true := by kernel_rfl
noncomputable def body133 : Code := match Try.f133.body with | some c => c | none => .skip
theorem draw133 : okDraw Try.prog md body133 = true := by kernel_rfl
noncomputable def body134 : Code := match Try.f134.body with | some c => c | none => .skip
theorem draw134 : okDraw Try.prog md body134 = true := by kernel_rfl
noncomputable def body135 : Code := match Try.f135.body with | some c => c | none => .skip
theorem draw135 : okDraw Try.prog md body135 = true := by kernel_rfl
noncomputable def body136 : Code := match Try.f136.body with | some c => c | none => .skip
theorem draw136 : okDraw Try.prog md body136 = true := by kernel_rfl
noncomputable def body137 : Code := match Try.f137.body with | some c => c | none => .skip
theorem draw137 : okDraw Try.prog md body137 = true := by kernel_rfl
noncomputable def body138 : Code := match Try.f138.body with | some c => c | none => .skip
theorem draw138 : okDraw Try.prog md body138 = true := by kernel_rfl
noncomputable def body139 : Code := match Try.f139.body with | some c => c | none => .skip
theorem draw139 : okDraw Try.prog md body139 = true := by kernel_rfl
noncomputable def body140 : Code := match Try.f140.body with | some c => c | none => .skip
theorem draw140 : okDraw Try.prog md body140 = true := by kernel_rfl
noncomputable def body141 : Code := match Try.f141.body with | some c => c | none => .skip
theorem draw141 : okDraw Try.prog md body141 = true := by kernel_rfl
noncomputable def body142 : Code := match Try.f142.body with | some c => c | none => .skip
theorem draw142 : okDraw Try.prog md body142 = true := by kernel_rfl
noncomputable def body143 : Code := match Try.f143.body with | some c => c | none => .skip
theorem draw143 : okDraw Try.prog md body143 = true := by kernel_rfl
noncomputable def body144 : Code := match Try.f144.body with | some c => c | none => .skip
theorem draw144 : okDraw Try.prog md body144 = true := by kernel_rfl
noncomputable def body145 : Code := match Try.f145.body with | some c => c | none => .skip
theorem draw145 : okDraw Try.prog md body145 = true := by kernel_rfl
noncomputable def body146 : Code := match Try.f146.body with | some c => c | none => .skip
theorem draw146 : okDraw Try.prog md body146 = true := by kernel_rfl
noncomputable def body147 : Code := match Try.f147.body with | some c => c | none => .skip
theorem draw147 : okDraw Try.prog md body147 = true := by kernel_rfl
noncomputable def body148 : Code := match Try.f148.body with | some c => c | none => .skip
theorem draw148 : okDraw Try.prog md body148 = true := by kernel_rfl
noncomputable def body149 : Code := match Try.f149.body with | some c => c | none => .skip
theorem draw149 : okDraw Try.prog md body149 = true := by kernel_rfl
noncomputable def body150 : Code := match Try.f150.body with | some c => c | none => .skip
theorem draw150 : okDraw Try.prog md body150 = true := by kernel_rfl
noncomputable def body151 : Code := match Try.f151.body with | some c => c | none => .skip
theorem draw151 : okDraw Try.prog md body151 = true := by kernel_rfl
noncomputable def body152 : Code := match Try.f152.body with | some c => c | none => .skip
theorem draw152 : okDraw Try.prog md body152 = true := by kernel_rfl
noncomputable def body153 : Code := match Try.f153.body with | some c => c | none => .skip
theorem draw153 : okDraw Try.prog md body153 = true := by kernel_rfl
end Go.Proofs.Bi
