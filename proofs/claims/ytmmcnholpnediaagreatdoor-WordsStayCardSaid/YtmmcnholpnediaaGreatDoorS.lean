/- That the printed functions are the program's (S). -/
import Derived.Test.YtmmcnholpnediaaGreatDoorF
import Derived.Test.YtmmcnholpnediaaGreatDoorD
import Derived.Test.YtmmcnholpnediaaGreatDoorRP
import Derived.Test.YtmmcnholpnediaaGreatDoorRows
import Derived.KernelRfl
namespace Go.Proofs.YtmmcnholpnediaaGreatDoor.Am
noncomputable section
open Go.Proofs
theorem at3 : CodeAt Tryz.prog 3 F3 := ⟨Tryz.f3, Tryz.func3, by kernel_rfl, by kernel_rfl⟩
theorem at4 : CodeAt Tryz.prog 4 F4 := ⟨Tryz.f4, Tryz.func4, by kernel_rfl, by kernel_rfl⟩
theorem at6 : CodeAt Tryz.prog 6 F6 := ⟨Tryz.f6, Tryz.func6, by kernel_rfl, by kernel_rfl⟩
theorem at7 : CodeAt Tryz.prog 7 F7 := ⟨Tryz.f7, Tryz.func7, by kernel_rfl, by kernel_rfl⟩
theorem at8 : CodeAt Tryz.prog 8 F8 := ⟨Tryz.f8, Tryz.func8, by kernel_rfl, by kernel_rfl⟩
theorem at9 : CodeAt Tryz.prog 9 F9 := ⟨Tryz.f9, Tryz.func9, by kernel_rfl, by kernel_rfl⟩
theorem at10 : CodeAt Tryz.prog 10 F10 := ⟨Tryz.f10, Tryz.func10, by kernel_rfl, by kernel_rfl⟩
theorem at11 : CodeAt Tryz.prog 11 F11 := ⟨Tryz.f11, Tryz.func11, by kernel_rfl, by kernel_rfl⟩
theorem at12 : CodeAt Tryz.prog 12 F12 := ⟨Tryz.f12, Tryz.func12, by kernel_rfl, by kernel_rfl⟩
theorem at13 : CodeAt Tryz.prog 13 F13 := ⟨Tryz.f13, Tryz.func13, by kernel_rfl, by kernel_rfl⟩
theorem at14 : CodeAt Tryz.prog 14 F14 := ⟨Tryz.f14, Tryz.func14, by kernel_rfl, by kernel_rfl⟩
theorem at15 : CodeAt Tryz.prog 15 F15 := ⟨Tryz.f15, Tryz.func15, by kernel_rfl, by kernel_rfl⟩
theorem at16 : CodeAt Tryz.prog 16 F16 := ⟨Tryz.f16, Tryz.func16, by kernel_rfl, by kernel_rfl⟩
theorem at17 : CodeAt Tryz.prog 17 F17 := ⟨Tryz.f17, Tryz.func17, by kernel_rfl, by kernel_rfl⟩
theorem at18 : CodeAt Tryz.prog 18 F18 := ⟨Tryz.f18, Tryz.func18, by kernel_rfl, by kernel_rfl⟩
theorem at19 : CodeAt Tryz.prog 19 F19 := ⟨Tryz.f19, Tryz.func19, by kernel_rfl, by kernel_rfl⟩
theorem at20 : CodeAt Tryz.prog 20 F20 := ⟨Tryz.f20, Tryz.func20, by kernel_rfl, by kernel_rfl⟩
theorem at21 : CodeAt Tryz.prog 21 F21 := ⟨Tryz.f21, Tryz.func21, by kernel_rfl, by kernel_rfl⟩
theorem at22 : CodeAt Tryz.prog 22 F22 := ⟨Tryz.f22, Tryz.func22, by kernel_rfl, by kernel_rfl⟩
theorem at23 : CodeAt Tryz.prog 23 F23 := ⟨Tryz.f23, Tryz.func23, by kernel_rfl, by kernel_rfl⟩
theorem at24 : CodeAt Tryz.prog 24 F24 := ⟨Tryz.f24, Tryz.func24, by kernel_rfl, by kernel_rfl⟩
theorem at25 : CodeAt Tryz.prog 25 F25 := ⟨Tryz.f25, Tryz.func25, by kernel_rfl, by kernel_rfl⟩
theorem at27 : CodeAt Tryz.prog 27 F27 := ⟨Tryz.f27, Tryz.func27, by kernel_rfl, by kernel_rfl⟩
theorem at28 : CodeAt Tryz.prog 28 F28 := ⟨Tryz.f28, Tryz.func28, by kernel_rfl, by kernel_rfl⟩
theorem at29 : CodeAt Tryz.prog 29 F29 := ⟨Tryz.f29, Tryz.func29, by kernel_rfl, by kernel_rfl⟩
theorem at30 : CodeAt Tryz.prog 30 F30 := ⟨Tryz.f30, Tryz.func30, by kernel_rfl, by kernel_rfl⟩
theorem at31 : CodeAt Tryz.prog 31 F31 := ⟨Tryz.f31, Tryz.func31, by kernel_rfl, by kernel_rfl⟩
theorem at32 : CodeAt Tryz.prog 32 F32 := ⟨Tryz.f32, Tryz.func32, by kernel_rfl, by kernel_rfl⟩
theorem at33 : CodeAt Tryz.prog 33 F33 := ⟨Tryz.f33, Tryz.func33, by kernel_rfl, by kernel_rfl⟩
theorem at34 : CodeAt Tryz.prog 34 F34 := ⟨Tryz.f34, Tryz.func34, by kernel_rfl, by kernel_rfl⟩
theorem at39 : CodeAt Tryz.prog 39 F39 := ⟨Tryz.f39, Tryz.func39, by kernel_rfl, by kernel_rfl⟩
theorem at40 : CodeAt Tryz.prog 40 F40 := ⟨Tryz.f40, Tryz.func40, by kernel_rfl, by kernel_rfl⟩
theorem at41 : CodeAt Tryz.prog 41 F41 := ⟨Tryz.f41, Tryz.func41, by kernel_rfl, by kernel_rfl⟩
theorem at42 : CodeAt Tryz.prog 42 F42 := ⟨Tryz.f42, Tryz.func42, by kernel_rfl, by kernel_rfl⟩
theorem at43 : CodeAt Tryz.prog 43 F43 := ⟨Tryz.f43, Tryz.func43, by kernel_rfl, by kernel_rfl⟩
theorem at44 : CodeAt Tryz.prog 44 F44 := ⟨Tryz.f44, Tryz.func44, by kernel_rfl, by kernel_rfl⟩
theorem at45 : CodeAt Tryz.prog 45 F45 := ⟨Tryz.f45, Tryz.func45, by kernel_rfl, by kernel_rfl⟩
theorem at46 : CodeAt Tryz.prog 46 F46 := ⟨Tryz.f46, Tryz.func46, by kernel_rfl, by kernel_rfl⟩
theorem at47 : CodeAt Tryz.prog 47 F47 := ⟨Tryz.f47, Tryz.func47, by kernel_rfl, by kernel_rfl⟩
theorem at48 : CodeAt Tryz.prog 48 F48 := ⟨Tryz.f48, Tryz.func48, by kernel_rfl, by kernel_rfl⟩
theorem at49 : CodeAt Tryz.prog 49 F49 := ⟨Tryz.f49, Tryz.func49, by kernel_rfl, by kernel_rfl⟩
theorem at50 : CodeAt Tryz.prog 50 F50 := ⟨Tryz.f50, Tryz.func50, by kernel_rfl, by kernel_rfl⟩
theorem at51 : CodeAt Tryz.prog 51 F51 := ⟨Tryz.f51, Tryz.func51, by kernel_rfl, by kernel_rfl⟩
theorem at52 : CodeAt Tryz.prog 52 F52 := ⟨Tryz.f52, Tryz.func52, by kernel_rfl, by kernel_rfl⟩
theorem at53 : CodeAt Tryz.prog 53 F53 := ⟨Tryz.f53, Tryz.func53, by kernel_rfl, by kernel_rfl⟩
theorem at54 : CodeAt Tryz.prog 54 F54 := ⟨Tryz.f54, Tryz.func54, by kernel_rfl, by kernel_rfl⟩
theorem at57 : CodeAt Tryz.prog 57 F57 := ⟨Tryz.f57, Tryz.func57, by kernel_rfl, by kernel_rfl⟩
theorem at58 : CodeAt Tryz.prog 58 F58 := ⟨Tryz.f58, Tryz.func58, by kernel_rfl, by kernel_rfl⟩
theorem at60 : CodeAt Tryz.prog 60 F60 := ⟨Tryz.f60, Tryz.func60, by kernel_rfl, by kernel_rfl⟩
theorem at61 : CodeAt Tryz.prog 61 F61 := ⟨Tryz.f61, Tryz.func61, by kernel_rfl, by kernel_rfl⟩
theorem at62 : CodeAt Tryz.prog 62 F62 := ⟨Tryz.f62, Tryz.func62, by kernel_rfl, by kernel_rfl⟩
theorem at63 : CodeAt Tryz.prog 63 F63 := ⟨Tryz.f63, Tryz.func63, by kernel_rfl, by kernel_rfl⟩
theorem at64 : CodeAt Tryz.prog 64 F64 := ⟨Tryz.f64, Tryz.func64, by kernel_rfl, by kernel_rfl⟩
theorem at76 : CodeAt Tryz.prog 76 F76 := ⟨Tryz.f76, Tryz.func76, by kernel_rfl, by kernel_rfl⟩
theorem at77 : CodeAt Tryz.prog 77 F77 := ⟨Tryz.f77, Tryz.func77, by kernel_rfl, by kernel_rfl⟩
theorem at78 : CodeAt Tryz.prog 78 F78 := ⟨Tryz.f78, Tryz.func78, by kernel_rfl, by kernel_rfl⟩
theorem at79 : CodeAt Tryz.prog 79 F79 := ⟨Tryz.f79, Tryz.func79, by kernel_rfl, by kernel_rfl⟩
theorem at80 : CodeAt Tryz.prog 80 F80 := ⟨Tryz.f80, Tryz.func80, by kernel_rfl, by kernel_rfl⟩
theorem at81 : CodeAt Tryz.prog 81 F81 := ⟨Tryz.f81, Tryz.func81, by kernel_rfl, by kernel_rfl⟩
theorem at82 : CodeAt Tryz.prog 82 F82 := ⟨Tryz.f82, Tryz.func82, by kernel_rfl, by kernel_rfl⟩
theorem at86 : CodeAt Tryz.prog 86 F86 := ⟨Tryz.f86, Tryz.func86, by kernel_rfl, by kernel_rfl⟩
theorem at87 : CodeAt Tryz.prog 87 F87 := ⟨Tryz.f87, Tryz.func87, by kernel_rfl, by kernel_rfl⟩
theorem at88 : CodeAt Tryz.prog 88 F88 := ⟨Tryz.f88, Tryz.func88, by kernel_rfl, by kernel_rfl⟩
theorem at89 : CodeAt Tryz.prog 89 F89 := ⟨Tryz.f89, Tryz.func89, by kernel_rfl, by kernel_rfl⟩
theorem at94 : CodeAt Tryz.prog 94 F94 := ⟨Tryz.f94, Tryz.func94, by kernel_rfl, by kernel_rfl⟩
theorem at95 : CodeAt Tryz.prog 95 F95 := ⟨Tryz.f95, Tryz.func95, by kernel_rfl, by kernel_rfl⟩
theorem at97 : CodeAt Tryz.prog 97 F97 := ⟨Tryz.f97, Tryz.func97, by kernel_rfl, by kernel_rfl⟩
theorem at98 : CodeAt Tryz.prog 98 F98 := ⟨Tryz.f98, Tryz.func98, by kernel_rfl, by kernel_rfl⟩
theorem at99 : CodeAt Tryz.prog 99 F99 := ⟨Tryz.f99, Tryz.func99, by kernel_rfl, by kernel_rfl⟩
theorem at100 : CodeAt Tryz.prog 100 F100 := ⟨Tryz.f100, Tryz.func100, by kernel_rfl, by kernel_rfl⟩
theorem at102 : CodeAt Tryz.prog 102 F102 := ⟨Tryz.f102, Tryz.func102, by kernel_rfl, by kernel_rfl⟩
theorem at103 : CodeAt Tryz.prog 103 F103 := ⟨Tryz.f103, Tryz.func103, by kernel_rfl, by kernel_rfl⟩
theorem at104 : CodeAt Tryz.prog 104 F104 := ⟨Tryz.f104, Tryz.func104, by kernel_rfl, by kernel_rfl⟩
theorem at105 : CodeAt Tryz.prog 105 F105 := ⟨Tryz.f105, Tryz.func105, by kernel_rfl, by kernel_rfl⟩
theorem at106 : CodeAt Tryz.prog 106 F106 := ⟨Tryz.f106, Tryz.func106, by kernel_rfl, by kernel_rfl⟩
theorem at107 : CodeAt Tryz.prog 107 F107 := ⟨Tryz.f107, Tryz.func107, by kernel_rfl, by kernel_rfl⟩
theorem at110 : CodeAt Tryz.prog 110 F110 := ⟨Tryz.f110, Tryz.func110, by kernel_rfl, by kernel_rfl⟩
theorem at111 : CodeAt Tryz.prog 111 F111 := ⟨Tryz.f111, Tryz.func111, by kernel_rfl, by kernel_rfl⟩
theorem at115 : CodeAt Tryz.prog 115 F115 := ⟨Tryz.f115, Tryz.func115, by kernel_rfl, by kernel_rfl⟩
theorem at119 : CodeAt Tryz.prog 119 F119 := ⟨Tryz.f119, Tryz.func119, by kernel_rfl, by kernel_rfl⟩
theorem at121 : CodeAt Tryz.prog 121 F121 := ⟨Tryz.f121, Tryz.func121, by kernel_rfl, by kernel_rfl⟩
theorem at122 : CodeAt Tryz.prog 122 F122 := ⟨Tryz.f122, Tryz.func122, by kernel_rfl, by kernel_rfl⟩
theorem at123 : CodeAt Tryz.prog 123 F123 := ⟨Tryz.f123, Tryz.func123, by kernel_rfl, by kernel_rfl⟩
theorem at124 : CodeAt Tryz.prog 124 F124 := ⟨Tryz.f124, Tryz.func124, by kernel_rfl, by kernel_rfl⟩
theorem at125 : CodeAt Tryz.prog 125 F125 := ⟨Tryz.f125, Tryz.func125, by kernel_rfl, by kernel_rfl⟩
theorem at128 : CodeAt Tryz.prog 128 F128 := ⟨Tryz.f128, Tryz.func128, by kernel_rfl, by kernel_rfl⟩
theorem at129 : CodeAt Tryz.prog 129 F129 := ⟨Tryz.f129, Tryz.func129, by kernel_rfl, by kernel_rfl⟩
theorem at130 : CodeAt Tryz.prog 130 F130 := ⟨Tryz.f130, Tryz.func130, by kernel_rfl, by kernel_rfl⟩
theorem at131 : CodeAt Tryz.prog 131 F131 := ⟨Tryz.f131, Tryz.func131, by kernel_rfl, by kernel_rfl⟩
theorem at132 : CodeAt Tryz.prog 132 F132 := ⟨Tryz.f132, Tryz.func132, by kernel_rfl, by kernel_rfl⟩
theorem at134 : CodeAt Tryz.prog 134 F134 := ⟨Tryz.f134, Tryz.func134, by kernel_rfl, by kernel_rfl⟩
theorem at135 : CodeAt Tryz.prog 135 F135 := ⟨Tryz.f135, Tryz.func135, by kernel_rfl, by kernel_rfl⟩
theorem at138 : CodeAt Tryz.prog 138 F138 := ⟨Tryz.f138, Tryz.func138, by kernel_rfl, by kernel_rfl⟩
theorem at139 : CodeAt Tryz.prog 139 F139 := ⟨Tryz.f139, Tryz.func139, by kernel_rfl, by kernel_rfl⟩
theorem at140 : CodeAt Tryz.prog 140 F140 := ⟨Tryz.f140, Tryz.func140, by kernel_rfl, by kernel_rfl⟩
theorem at141 : CodeAt Tryz.prog 141 F141 := ⟨Tryz.f141, Tryz.func141, by kernel_rfl, by kernel_rfl⟩
theorem at142 : CodeAt Tryz.prog 142 F142 := ⟨Tryz.f142, Tryz.func142, by kernel_rfl, by kernel_rfl⟩
theorem at145 : CodeAt Tryz.prog 145 F145 := ⟨Tryz.f145, Tryz.func145, by kernel_rfl, by kernel_rfl⟩
theorem at146 : CodeAt Tryz.prog 146 F146 := ⟨Tryz.f146, Tryz.func146, by kernel_rfl, by kernel_rfl⟩
theorem at147 : CodeAt Tryz.prog 147 F147 := ⟨Tryz.f147, Tryz.func147, by kernel_rfl, by kernel_rfl⟩
theorem at148 : CodeAt Tryz.prog 148 F148 := ⟨Tryz.f148, Tryz.func148, by kernel_rfl, by kernel_rfl⟩
theorem at152 : CodeAt Tryz.prog 152 F152 := ⟨Tryz.f152, Tryz.func152, by kernel_rfl, by kernel_rfl⟩
theorem at153 : CodeAt Tryz.prog 153 F153 := ⟨Tryz.f153, Tryz.func153, by kernel_rfl, by kernel_rfl⟩
theorem at154 : CodeAt Tryz.prog 154 F154 := ⟨Tryz.f154, Tryz.func154, by kernel_rfl, by kernel_rfl⟩
theorem at155 : CodeAt Tryz.prog 155 F155 := ⟨Tryz.f155, Tryz.func155, by kernel_rfl, by kernel_rfl⟩
theorem fs65_at : fs65.All (CodeAt Tryz.prog) := ⟨at64, ⟨at31, ⟨at17, ⟨at10, ⟨at7, ⟨at4, ⟨at3, trivial, trivial⟩, ⟨at6, trivial, trivial⟩⟩, ⟨at9, ⟨at8, trivial, trivial⟩, trivial⟩⟩, ⟨at14, ⟨at12, ⟨at11, trivial, trivial⟩, ⟨at13, trivial, trivial⟩⟩, ⟨at16, ⟨at15, trivial, trivial⟩, trivial⟩⟩⟩, ⟨at24, ⟨at21, ⟨at19, ⟨at18, trivial, trivial⟩, ⟨at20, trivial, trivial⟩⟩, ⟨at23, ⟨at22, trivial, trivial⟩, trivial⟩⟩, ⟨at28, ⟨at27, ⟨at25, trivial, trivial⟩, trivial⟩, ⟨at30, ⟨at29, trivial, trivial⟩, trivial⟩⟩⟩⟩, ⟨at48, ⟨at42, ⟨at39, ⟨at33, ⟨at32, trivial, trivial⟩, ⟨at34, trivial, trivial⟩⟩, ⟨at41, ⟨at40, trivial, trivial⟩, trivial⟩⟩, ⟨at45, ⟨at44, ⟨at43, trivial, trivial⟩, trivial⟩, ⟨at47, ⟨at46, trivial, trivial⟩, trivial⟩⟩⟩, ⟨at57, ⟨at52, ⟨at50, ⟨at49, trivial, trivial⟩, ⟨at51, trivial, trivial⟩⟩, ⟨at54, ⟨at53, trivial, trivial⟩, trivial⟩⟩, ⟨at61, ⟨at60, ⟨at58, trivial, trivial⟩, trivial⟩, ⟨at63, ⟨at62, trivial, trivial⟩, trivial⟩⟩⟩⟩⟩, ⟨at119, ⟨at97, ⟨at82, ⟨at79, ⟨at77, ⟨at76, trivial, trivial⟩, ⟨at78, trivial, trivial⟩⟩, ⟨at81, ⟨at80, trivial, trivial⟩, trivial⟩⟩, ⟨at89, ⟨at87, ⟨at86, trivial, trivial⟩, ⟨at88, trivial, trivial⟩⟩, ⟨at95, ⟨at94, trivial, trivial⟩, trivial⟩⟩⟩, ⟨at105, ⟨at102, ⟨at99, ⟨at98, trivial, trivial⟩, ⟨at100, trivial, trivial⟩⟩, ⟨at104, ⟨at103, trivial, trivial⟩, trivial⟩⟩, ⟨at110, ⟨at107, ⟨at106, trivial, trivial⟩, trivial⟩, ⟨at115, ⟨at111, trivial, trivial⟩, trivial⟩⟩⟩⟩, ⟨at138, ⟨at129, ⟨at124, ⟨at122, ⟨at121, trivial, trivial⟩, ⟨at123, trivial, trivial⟩⟩, ⟨at128, ⟨at125, trivial, trivial⟩, trivial⟩⟩, ⟨at132, ⟨at131, ⟨at130, trivial, trivial⟩, trivial⟩, ⟨at135, ⟨at134, trivial, trivial⟩, trivial⟩⟩⟩, ⟨at147, ⟨at142, ⟨at140, ⟨at139, trivial, trivial⟩, ⟨at141, trivial, trivial⟩⟩, ⟨at146, ⟨at145, trivial, trivial⟩, trivial⟩⟩, ⟨at153, ⟨at152, ⟨at148, trivial, trivial⟩, trivial⟩, ⟨at155, ⟨at154, trivial, trivial⟩, trivial⟩⟩⟩⟩⟩⟩
theorem mixed65 : Tryz.prog.follows .mixedOrders = true := by kernel_rfl
theorem ps65_at : PrimsAt Tryz.prog ps65 := ⟨⟨Tryz.f112, Tryz.func112, by kernel_rfl, by kernel_rfl, by kernel_rfl, by kernel_rfl⟩, ⟨Tryz.f113, 71, Tryz.f113.params, Tryz.func113, by kernel_rfl, by kernel_rfl, by kernel_rfl, by kernel_rfl, by kernel_rfl⟩, ⟨Tryz.f149, Tryz.func149, by kernel_rfl, by kernel_rfl, by kernel_rfl, by kernel_rfl⟩, ⟨Tryz.f114, Tryz.func114, by kernel_rfl, by kernel_rfl, by kernel_rfl, by kernel_rfl⟩, ⟨Tryz.f70, Tryz.func70, by kernel_rfl, by kernel_rfl, by kernel_rfl, by kernel_rfl⟩, ⟨Tryz.f117, Tryz.func117, by kernel_rfl, by kernel_rfl, by kernel_rfl, by kernel_rfl⟩, ⟨Tryz.f166, Tryz.func166, by kernel_rfl, by kernel_rfl, by kernel_rfl, by kernel_rfl⟩, ⟨Tryz.f26, Tryz.func26, by kernel_rfl, by kernel_rfl, fun s c w h1 h2 => strings_Repeat s c w h1 h2⟩, trivial⟩
end
end Go.Proofs.YtmmcnholpnediaaGreatDoor.Am
