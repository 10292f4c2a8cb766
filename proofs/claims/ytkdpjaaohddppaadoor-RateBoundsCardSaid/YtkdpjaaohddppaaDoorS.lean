/- That the printed functions are the program's (S). -/
import Derived.Test.YtkdpjaaohddppaaDoorF
import Derived.Test.YtkdpjaaohddppaaDoorD
import Derived.Test.YtkdpjaaohddppaaDoorRows
import Derived.KernelRfl
namespace Go.Proofs.YtkdpjaaohddppaaDoor.Am
noncomputable section
open Go.Proofs
theorem at3 : CodeAt Tryd.prog 3 F3 := ⟨Tryd.f3, Tryd.func3, by kernel_rfl, by kernel_rfl⟩
theorem at4 : CodeAt Tryd.prog 4 F4 := ⟨Tryd.f4, Tryd.func4, by kernel_rfl, by kernel_rfl⟩
theorem at5 : CodeAt Tryd.prog 5 F5 := ⟨Tryd.f5, Tryd.func5, by kernel_rfl, by kernel_rfl⟩
theorem at6 : CodeAt Tryd.prog 6 F6 := ⟨Tryd.f6, Tryd.func6, by kernel_rfl, by kernel_rfl⟩
theorem at7 : CodeAt Tryd.prog 7 F7 := ⟨Tryd.f7, Tryd.func7, by kernel_rfl, by kernel_rfl⟩
theorem at9 : CodeAt Tryd.prog 9 F9 := ⟨Tryd.f9, Tryd.func9, by kernel_rfl, by kernel_rfl⟩
theorem at10 : CodeAt Tryd.prog 10 F10 := ⟨Tryd.f10, Tryd.func10, by kernel_rfl, by kernel_rfl⟩
theorem at11 : CodeAt Tryd.prog 11 F11 := ⟨Tryd.f11, Tryd.func11, by kernel_rfl, by kernel_rfl⟩
theorem at12 : CodeAt Tryd.prog 12 F12 := ⟨Tryd.f12, Tryd.func12, by kernel_rfl, by kernel_rfl⟩
theorem at13 : CodeAt Tryd.prog 13 F13 := ⟨Tryd.f13, Tryd.func13, by kernel_rfl, by kernel_rfl⟩
theorem at14 : CodeAt Tryd.prog 14 F14 := ⟨Tryd.f14, Tryd.func14, by kernel_rfl, by kernel_rfl⟩
theorem at15 : CodeAt Tryd.prog 15 F15 := ⟨Tryd.f15, Tryd.func15, by kernel_rfl, by kernel_rfl⟩
theorem at16 : CodeAt Tryd.prog 16 F16 := ⟨Tryd.f16, Tryd.func16, by kernel_rfl, by kernel_rfl⟩
theorem at17 : CodeAt Tryd.prog 17 F17 := ⟨Tryd.f17, Tryd.func17, by kernel_rfl, by kernel_rfl⟩
theorem at18 : CodeAt Tryd.prog 18 F18 := ⟨Tryd.f18, Tryd.func18, by kernel_rfl, by kernel_rfl⟩
theorem at19 : CodeAt Tryd.prog 19 F19 := ⟨Tryd.f19, Tryd.func19, by kernel_rfl, by kernel_rfl⟩
theorem at20 : CodeAt Tryd.prog 20 F20 := ⟨Tryd.f20, Tryd.func20, by kernel_rfl, by kernel_rfl⟩
theorem at21 : CodeAt Tryd.prog 21 F21 := ⟨Tryd.f21, Tryd.func21, by kernel_rfl, by kernel_rfl⟩
theorem at22 : CodeAt Tryd.prog 22 F22 := ⟨Tryd.f22, Tryd.func22, by kernel_rfl, by kernel_rfl⟩
theorem at23 : CodeAt Tryd.prog 23 F23 := ⟨Tryd.f23, Tryd.func23, by kernel_rfl, by kernel_rfl⟩
theorem at24 : CodeAt Tryd.prog 24 F24 := ⟨Tryd.f24, Tryd.func24, by kernel_rfl, by kernel_rfl⟩
theorem at25 : CodeAt Tryd.prog 25 F25 := ⟨Tryd.f25, Tryd.func25, by kernel_rfl, by kernel_rfl⟩
theorem at26 : CodeAt Tryd.prog 26 F26 := ⟨Tryd.f26, Tryd.func26, by kernel_rfl, by kernel_rfl⟩
theorem at27 : CodeAt Tryd.prog 27 F27 := ⟨Tryd.f27, Tryd.func27, by kernel_rfl, by kernel_rfl⟩
theorem at28 : CodeAt Tryd.prog 28 F28 := ⟨Tryd.f28, Tryd.func28, by kernel_rfl, by kernel_rfl⟩
theorem at29 : CodeAt Tryd.prog 29 F29 := ⟨Tryd.f29, Tryd.func29, by kernel_rfl, by kernel_rfl⟩
theorem at30 : CodeAt Tryd.prog 30 F30 := ⟨Tryd.f30, Tryd.func30, by kernel_rfl, by kernel_rfl⟩
theorem at32 : CodeAt Tryd.prog 32 F32 := ⟨Tryd.f32, Tryd.func32, by kernel_rfl, by kernel_rfl⟩
theorem at33 : CodeAt Tryd.prog 33 F33 := ⟨Tryd.f33, Tryd.func33, by kernel_rfl, by kernel_rfl⟩
theorem at34 : CodeAt Tryd.prog 34 F34 := ⟨Tryd.f34, Tryd.func34, by kernel_rfl, by kernel_rfl⟩
theorem at35 : CodeAt Tryd.prog 35 F35 := ⟨Tryd.f35, Tryd.func35, by kernel_rfl, by kernel_rfl⟩
theorem at36 : CodeAt Tryd.prog 36 F36 := ⟨Tryd.f36, Tryd.func36, by kernel_rfl, by kernel_rfl⟩
theorem at37 : CodeAt Tryd.prog 37 F37 := ⟨Tryd.f37, Tryd.func37, by kernel_rfl, by kernel_rfl⟩
theorem at38 : CodeAt Tryd.prog 38 F38 := ⟨Tryd.f38, Tryd.func38, by kernel_rfl, by kernel_rfl⟩
theorem at39 : CodeAt Tryd.prog 39 F39 := ⟨Tryd.f39, Tryd.func39, by kernel_rfl, by kernel_rfl⟩
theorem at40 : CodeAt Tryd.prog 40 F40 := ⟨Tryd.f40, Tryd.func40, by kernel_rfl, by kernel_rfl⟩
theorem at41 : CodeAt Tryd.prog 41 F41 := ⟨Tryd.f41, Tryd.func41, by kernel_rfl, by kernel_rfl⟩
theorem at43 : CodeAt Tryd.prog 43 F43 := ⟨Tryd.f43, Tryd.func43, by kernel_rfl, by kernel_rfl⟩
theorem at48 : CodeAt Tryd.prog 48 F48 := ⟨Tryd.f48, Tryd.func48, by kernel_rfl, by kernel_rfl⟩
theorem at49 : CodeAt Tryd.prog 49 F49 := ⟨Tryd.f49, Tryd.func49, by kernel_rfl, by kernel_rfl⟩
theorem at51 : CodeAt Tryd.prog 51 F51 := ⟨Tryd.f51, Tryd.func51, by kernel_rfl, by kernel_rfl⟩
theorem at52 : CodeAt Tryd.prog 52 F52 := ⟨Tryd.f52, Tryd.func52, by kernel_rfl, by kernel_rfl⟩
theorem at53 : CodeAt Tryd.prog 53 F53 := ⟨Tryd.f53, Tryd.func53, by kernel_rfl, by kernel_rfl⟩
theorem at54 : CodeAt Tryd.prog 54 F54 := ⟨Tryd.f54, Tryd.func54, by kernel_rfl, by kernel_rfl⟩
theorem at55 : CodeAt Tryd.prog 55 F55 := ⟨Tryd.f55, Tryd.func55, by kernel_rfl, by kernel_rfl⟩
theorem at56 : CodeAt Tryd.prog 56 F56 := ⟨Tryd.f56, Tryd.func56, by kernel_rfl, by kernel_rfl⟩
theorem at57 : CodeAt Tryd.prog 57 F57 := ⟨Tryd.f57, Tryd.func57, by kernel_rfl, by kernel_rfl⟩
theorem at58 : CodeAt Tryd.prog 58 F58 := ⟨Tryd.f58, Tryd.func58, by kernel_rfl, by kernel_rfl⟩
theorem at62 : CodeAt Tryd.prog 62 F62 := ⟨Tryd.f62, Tryd.func62, by kernel_rfl, by kernel_rfl⟩
theorem at63 : CodeAt Tryd.prog 63 F63 := ⟨Tryd.f63, Tryd.func63, by kernel_rfl, by kernel_rfl⟩
theorem at64 : CodeAt Tryd.prog 64 F64 := ⟨Tryd.f64, Tryd.func64, by kernel_rfl, by kernel_rfl⟩
theorem at65 : CodeAt Tryd.prog 65 F65 := ⟨Tryd.f65, Tryd.func65, by kernel_rfl, by kernel_rfl⟩
theorem at66 : CodeAt Tryd.prog 66 F66 := ⟨Tryd.f66, Tryd.func66, by kernel_rfl, by kernel_rfl⟩
theorem at67 : CodeAt Tryd.prog 67 F67 := ⟨Tryd.f67, Tryd.func67, by kernel_rfl, by kernel_rfl⟩
theorem at68 : CodeAt Tryd.prog 68 F68 := ⟨Tryd.f68, Tryd.func68, by kernel_rfl, by kernel_rfl⟩
theorem at69 : CodeAt Tryd.prog 69 F69 := ⟨Tryd.f69, Tryd.func69, by kernel_rfl, by kernel_rfl⟩
theorem at70 : CodeAt Tryd.prog 70 F70 := ⟨Tryd.f70, Tryd.func70, by kernel_rfl, by kernel_rfl⟩
theorem at71 : CodeAt Tryd.prog 71 F71 := ⟨Tryd.f71, Tryd.func71, by kernel_rfl, by kernel_rfl⟩
theorem at72 : CodeAt Tryd.prog 72 F72 := ⟨Tryd.f72, Tryd.func72, by kernel_rfl, by kernel_rfl⟩
theorem at73 : CodeAt Tryd.prog 73 F73 := ⟨Tryd.f73, Tryd.func73, by kernel_rfl, by kernel_rfl⟩
theorem at74 : CodeAt Tryd.prog 74 F74 := ⟨Tryd.f74, Tryd.func74, by kernel_rfl, by kernel_rfl⟩
theorem at75 : CodeAt Tryd.prog 75 F75 := ⟨Tryd.f75, Tryd.func75, by kernel_rfl, by kernel_rfl⟩
theorem at76 : CodeAt Tryd.prog 76 F76 := ⟨Tryd.f76, Tryd.func76, by kernel_rfl, by kernel_rfl⟩
theorem at77 : CodeAt Tryd.prog 77 F77 := ⟨Tryd.f77, Tryd.func77, by kernel_rfl, by kernel_rfl⟩
theorem at78 : CodeAt Tryd.prog 78 F78 := ⟨Tryd.f78, Tryd.func78, by kernel_rfl, by kernel_rfl⟩
theorem at79 : CodeAt Tryd.prog 79 F79 := ⟨Tryd.f79, Tryd.func79, by kernel_rfl, by kernel_rfl⟩
theorem at82 : CodeAt Tryd.prog 82 F82 := ⟨Tryd.f82, Tryd.func82, by kernel_rfl, by kernel_rfl⟩
theorem at83 : CodeAt Tryd.prog 83 F83 := ⟨Tryd.f83, Tryd.func83, by kernel_rfl, by kernel_rfl⟩
theorem at84 : CodeAt Tryd.prog 84 F84 := ⟨Tryd.f84, Tryd.func84, by kernel_rfl, by kernel_rfl⟩
theorem at85 : CodeAt Tryd.prog 85 F85 := ⟨Tryd.f85, Tryd.func85, by kernel_rfl, by kernel_rfl⟩
theorem fs11_at : fs11.All (CodeAt Tryd.prog) := ⟨at40, ⟨at21, ⟨at12, ⟨at7, ⟨at5, ⟨at4, ⟨at3, trivial, trivial⟩, trivial⟩, ⟨at6, trivial, trivial⟩⟩, ⟨at10, ⟨at9, trivial, trivial⟩, ⟨at11, trivial, trivial⟩⟩⟩, ⟨at17, ⟨at15, ⟨at14, ⟨at13, trivial, trivial⟩, trivial⟩, ⟨at16, trivial, trivial⟩⟩, ⟨at19, ⟨at18, trivial, trivial⟩, ⟨at20, trivial, trivial⟩⟩⟩⟩, ⟨at30, ⟨at26, ⟨at24, ⟨at23, ⟨at22, trivial, trivial⟩, trivial⟩, ⟨at25, trivial, trivial⟩⟩, ⟨at28, ⟨at27, trivial, trivial⟩, ⟨at29, trivial, trivial⟩⟩⟩, ⟨at36, ⟨at34, ⟨at33, ⟨at32, trivial, trivial⟩, trivial⟩, ⟨at35, trivial, trivial⟩⟩, ⟨at38, ⟨at37, trivial, trivial⟩, ⟨at39, trivial, trivial⟩⟩⟩⟩⟩, ⟨at67, ⟨at55, ⟨at51, ⟨at48, ⟨at43, ⟨at41, trivial, trivial⟩, trivial⟩, ⟨at49, trivial, trivial⟩⟩, ⟨at53, ⟨at52, trivial, trivial⟩, ⟨at54, trivial, trivial⟩⟩⟩, ⟨at63, ⟨at58, ⟨at57, ⟨at56, trivial, trivial⟩, trivial⟩, ⟨at62, trivial, trivial⟩⟩, ⟨at65, ⟨at64, trivial, trivial⟩, ⟨at66, trivial, trivial⟩⟩⟩⟩, ⟨at76, ⟨at72, ⟨at70, ⟨at69, ⟨at68, trivial, trivial⟩, trivial⟩, ⟨at71, trivial, trivial⟩⟩, ⟨at74, ⟨at73, trivial, trivial⟩, ⟨at75, trivial, trivial⟩⟩⟩, ⟨at82, ⟨at78, ⟨at77, trivial, trivial⟩, ⟨at79, trivial, trivial⟩⟩, ⟨at84, ⟨at83, trivial, trivial⟩, ⟨at85, trivial, trivial⟩⟩⟩⟩⟩⟩
theorem mixed11 : Tryd.prog.follows .mixedOrders = true := by kernel_rfl
theorem ps11_at : PrimsAt Tryd.prog ps11 := ⟨⟨Tryd.f31, Tryd.func31, by kernel_rfl, by kernel_rfl, by kernel_rfl, by kernel_rfl⟩, ⟨Tryd.f8, Tryd.func8, by kernel_rfl, by kernel_rfl, by kernel_rfl, by kernel_rfl⟩, ⟨Tryd.f45, Tryd.func45, by kernel_rfl, by kernel_rfl, by kernel_rfl, by kernel_rfl⟩, trivial⟩
end
end Go.Proofs.YtkdpjaaohddppaaDoor.Am
