/- That the printed functions are the program's (S). -/
import Derived.Test.YtbgjcoochdljfaaDoorRF
import Derived.Test.YtbgjcoochdljfaaDoorRD
import Derived.Test.YtbgjcoochdljfaaDoorRRows
import Derived.KernelRfl
namespace Go.Proofs.YtbgjcoochdljfaaDoorR.Am
noncomputable section
open Go.Proofs
theorem at3 : CodeAt Tryd.prog 3 F3 := ⟨Tryd.f3, Tryd.func3, by kernel_rfl, by kernel_rfl⟩
theorem at4 : CodeAt Tryd.prog 4 F4 := ⟨Tryd.f4, Tryd.func4, by kernel_rfl, by kernel_rfl⟩
theorem at5 : CodeAt Tryd.prog 5 F5 := ⟨Tryd.f5, Tryd.func5, by kernel_rfl, by kernel_rfl⟩
theorem at6 : CodeAt Tryd.prog 6 F6 := ⟨Tryd.f6, Tryd.func6, by kernel_rfl, by kernel_rfl⟩
theorem at7 : CodeAt Tryd.prog 7 F7 := ⟨Tryd.f7, Tryd.func7, by kernel_rfl, by kernel_rfl⟩
theorem at8 : CodeAt Tryd.prog 8 F8 := ⟨Tryd.f8, Tryd.func8, by kernel_rfl, by kernel_rfl⟩
theorem at9 : CodeAt Tryd.prog 9 F9 := ⟨Tryd.f9, Tryd.func9, by kernel_rfl, by kernel_rfl⟩
theorem at10 : CodeAt Tryd.prog 10 F10 := ⟨Tryd.f10, Tryd.func10, by kernel_rfl, by kernel_rfl⟩
theorem at11 : CodeAt Tryd.prog 11 F11 := ⟨Tryd.f11, Tryd.func11, by kernel_rfl, by kernel_rfl⟩
theorem at12 : CodeAt Tryd.prog 12 F12 := ⟨Tryd.f12, Tryd.func12, by kernel_rfl, by kernel_rfl⟩
theorem at13 : CodeAt Tryd.prog 13 F13 := ⟨Tryd.f13, Tryd.func13, by kernel_rfl, by kernel_rfl⟩
theorem at14 : CodeAt Tryd.prog 14 F14 := ⟨Tryd.f14, Tryd.func14, by kernel_rfl, by kernel_rfl⟩
theorem at15 : CodeAt Tryd.prog 15 F15 := ⟨Tryd.f15, Tryd.func15, by kernel_rfl, by kernel_rfl⟩
theorem at16 : CodeAt Tryd.prog 16 F16 := ⟨Tryd.f16, Tryd.func16, by kernel_rfl, by kernel_rfl⟩
theorem at17 : CodeAt Tryd.prog 17 F17 := ⟨Tryd.f17, Tryd.func17, by kernel_rfl, by kernel_rfl⟩
theorem at18 : CodeAt Tryd.prog 18 F18 := ⟨Tryd.f18, Tryd.func18, by kernel_rfl, by kernel_rfl⟩
theorem at19 : CodeAt Tryd.prog 19 F19 := ⟨Tryd.f19, Tryd.func19, by kernel_rfl, by kernel_rfl⟩
theorem at20 : CodeAt Tryd.prog 20 F20 := ⟨Tryd.f20, Tryd.func20, by kernel_rfl, by kernel_rfl⟩
theorem at21 : CodeAt Tryd.prog 21 F21 := ⟨Tryd.f21, Tryd.func21, by kernel_rfl, by kernel_rfl⟩
theorem at22 : CodeAt Tryd.prog 22 F22 := ⟨Tryd.f22, Tryd.func22, by kernel_rfl, by kernel_rfl⟩
theorem at23 : CodeAt Tryd.prog 23 F23 := ⟨Tryd.f23, Tryd.func23, by kernel_rfl, by kernel_rfl⟩
theorem at24 : CodeAt Tryd.prog 24 F24 := ⟨Tryd.f24, Tryd.func24, by kernel_rfl, by kernel_rfl⟩
theorem at25 : CodeAt Tryd.prog 25 F25 := ⟨Tryd.f25, Tryd.func25, by kernel_rfl, by kernel_rfl⟩
theorem at26 : CodeAt Tryd.prog 26 F26 := ⟨Tryd.f26, Tryd.func26, by kernel_rfl, by kernel_rfl⟩
theorem at27 : CodeAt Tryd.prog 27 F27 := ⟨Tryd.f27, Tryd.func27, by kernel_rfl, by kernel_rfl⟩
theorem at28 : CodeAt Tryd.prog 28 F28 := ⟨Tryd.f28, Tryd.func28, by kernel_rfl, by kernel_rfl⟩
theorem at29 : CodeAt Tryd.prog 29 F29 := ⟨Tryd.f29, Tryd.func29, by kernel_rfl, by kernel_rfl⟩
theorem at30 : CodeAt Tryd.prog 30 F30 := ⟨Tryd.f30, Tryd.func30, by kernel_rfl, by kernel_rfl⟩
theorem at31 : CodeAt Tryd.prog 31 F31 := ⟨Tryd.f31, Tryd.func31, by kernel_rfl, by kernel_rfl⟩
theorem at32 : CodeAt Tryd.prog 32 F32 := ⟨Tryd.f32, Tryd.func32, by kernel_rfl, by kernel_rfl⟩
theorem at33 : CodeAt Tryd.prog 33 F33 := ⟨Tryd.f33, Tryd.func33, by kernel_rfl, by kernel_rfl⟩
theorem at34 : CodeAt Tryd.prog 34 F34 := ⟨Tryd.f34, Tryd.func34, by kernel_rfl, by kernel_rfl⟩
theorem at35 : CodeAt Tryd.prog 35 F35 := ⟨Tryd.f35, Tryd.func35, by kernel_rfl, by kernel_rfl⟩
theorem at36 : CodeAt Tryd.prog 36 F36 := ⟨Tryd.f36, Tryd.func36, by kernel_rfl, by kernel_rfl⟩
theorem at37 : CodeAt Tryd.prog 37 F37 := ⟨Tryd.f37, Tryd.func37, by kernel_rfl, by kernel_rfl⟩
theorem at38 : CodeAt Tryd.prog 38 F38 := ⟨Tryd.f38, Tryd.func38, by kernel_rfl, by kernel_rfl⟩
theorem at39 : CodeAt Tryd.prog 39 F39 := ⟨Tryd.f39, Tryd.func39, by kernel_rfl, by kernel_rfl⟩
theorem at40 : CodeAt Tryd.prog 40 F40 := ⟨Tryd.f40, Tryd.func40, by kernel_rfl, by kernel_rfl⟩
theorem at41 : CodeAt Tryd.prog 41 F41 := ⟨Tryd.f41, Tryd.func41, by kernel_rfl, by kernel_rfl⟩
theorem at42 : CodeAt Tryd.prog 42 F42 := ⟨Tryd.f42, Tryd.func42, by kernel_rfl, by kernel_rfl⟩
theorem at43 : CodeAt Tryd.prog 43 F43 := ⟨Tryd.f43, Tryd.func43, by kernel_rfl, by kernel_rfl⟩
theorem at44 : CodeAt Tryd.prog 44 F44 := ⟨Tryd.f44, Tryd.func44, by kernel_rfl, by kernel_rfl⟩
theorem at45 : CodeAt Tryd.prog 45 F45 := ⟨Tryd.f45, Tryd.func45, by kernel_rfl, by kernel_rfl⟩
theorem at46 : CodeAt Tryd.prog 46 F46 := ⟨Tryd.f46, Tryd.func46, by kernel_rfl, by kernel_rfl⟩
theorem at47 : CodeAt Tryd.prog 47 F47 := ⟨Tryd.f47, Tryd.func47, by kernel_rfl, by kernel_rfl⟩
theorem at48 : CodeAt Tryd.prog 48 F48 := ⟨Tryd.f48, Tryd.func48, by kernel_rfl, by kernel_rfl⟩
theorem at49 : CodeAt Tryd.prog 49 F49 := ⟨Tryd.f49, Tryd.func49, by kernel_rfl, by kernel_rfl⟩
theorem at50 : CodeAt Tryd.prog 50 F50 := ⟨Tryd.f50, Tryd.func50, by kernel_rfl, by kernel_rfl⟩
theorem at51 : CodeAt Tryd.prog 51 F51 := ⟨Tryd.f51, Tryd.func51, by kernel_rfl, by kernel_rfl⟩
theorem at52 : CodeAt Tryd.prog 52 F52 := ⟨Tryd.f52, Tryd.func52, by kernel_rfl, by kernel_rfl⟩
theorem at53 : CodeAt Tryd.prog 53 F53 := ⟨Tryd.f53, Tryd.func53, by kernel_rfl, by kernel_rfl⟩
theorem at54 : CodeAt Tryd.prog 54 F54 := ⟨Tryd.f54, Tryd.func54, by kernel_rfl, by kernel_rfl⟩
theorem at55 : CodeAt Tryd.prog 55 F55 := ⟨Tryd.f55, Tryd.func55, by kernel_rfl, by kernel_rfl⟩
theorem at56 : CodeAt Tryd.prog 56 F56 := ⟨Tryd.f56, Tryd.func56, by kernel_rfl, by kernel_rfl⟩
theorem at57 : CodeAt Tryd.prog 57 F57 := ⟨Tryd.f57, Tryd.func57, by kernel_rfl, by kernel_rfl⟩
theorem at58 : CodeAt Tryd.prog 58 F58 := ⟨Tryd.f58, Tryd.func58, by kernel_rfl, by kernel_rfl⟩
theorem at60 : CodeAt Tryd.prog 60 F60 := ⟨Tryd.f60, Tryd.func60, by kernel_rfl, by kernel_rfl⟩
theorem at61 : CodeAt Tryd.prog 61 F61 := ⟨Tryd.f61, Tryd.func61, by kernel_rfl, by kernel_rfl⟩
theorem at62 : CodeAt Tryd.prog 62 F62 := ⟨Tryd.f62, Tryd.func62, by kernel_rfl, by kernel_rfl⟩
theorem at63 : CodeAt Tryd.prog 63 F63 := ⟨Tryd.f63, Tryd.func63, by kernel_rfl, by kernel_rfl⟩
theorem at64 : CodeAt Tryd.prog 64 F64 := ⟨Tryd.f64, Tryd.func64, by kernel_rfl, by kernel_rfl⟩
theorem at65 : CodeAt Tryd.prog 65 F65 := ⟨Tryd.f65, Tryd.func65, by kernel_rfl, by kernel_rfl⟩
theorem at66 : CodeAt Tryd.prog 66 F66 := ⟨Tryd.f66, Tryd.func66, by kernel_rfl, by kernel_rfl⟩
theorem at67 : CodeAt Tryd.prog 67 F67 := ⟨Tryd.f67, Tryd.func67, by kernel_rfl, by kernel_rfl⟩
theorem at70 : CodeAt Tryd.prog 70 F70 := ⟨Tryd.f70, Tryd.func70, by kernel_rfl, by kernel_rfl⟩
theorem at71 : CodeAt Tryd.prog 71 F71 := ⟨Tryd.f71, Tryd.func71, by kernel_rfl, by kernel_rfl⟩
theorem at73 : CodeAt Tryd.prog 73 F73 := ⟨Tryd.f73, Tryd.func73, by kernel_rfl, by kernel_rfl⟩
theorem at74 : CodeAt Tryd.prog 74 F74 := ⟨Tryd.f74, Tryd.func74, by kernel_rfl, by kernel_rfl⟩
theorem at75 : CodeAt Tryd.prog 75 F75 := ⟨Tryd.f75, Tryd.func75, by kernel_rfl, by kernel_rfl⟩
theorem at76 : CodeAt Tryd.prog 76 F76 := ⟨Tryd.f76, Tryd.func76, by kernel_rfl, by kernel_rfl⟩
theorem at77 : CodeAt Tryd.prog 77 F77 := ⟨Tryd.f77, Tryd.func77, by kernel_rfl, by kernel_rfl⟩
theorem at78 : CodeAt Tryd.prog 78 F78 := ⟨Tryd.f78, Tryd.func78, by kernel_rfl, by kernel_rfl⟩
theorem at79 : CodeAt Tryd.prog 79 F79 := ⟨Tryd.f79, Tryd.func79, by kernel_rfl, by kernel_rfl⟩
theorem at80 : CodeAt Tryd.prog 80 F80 := ⟨Tryd.f80, Tryd.func80, by kernel_rfl, by kernel_rfl⟩
theorem at81 : CodeAt Tryd.prog 81 F81 := ⟨Tryd.f81, Tryd.func81, by kernel_rfl, by kernel_rfl⟩
theorem at82 : CodeAt Tryd.prog 82 F82 := ⟨Tryd.f82, Tryd.func82, by kernel_rfl, by kernel_rfl⟩
theorem at83 : CodeAt Tryd.prog 83 F83 := ⟨Tryd.f83, Tryd.func83, by kernel_rfl, by kernel_rfl⟩
theorem at84 : CodeAt Tryd.prog 84 F84 := ⟨Tryd.f84, Tryd.func84, by kernel_rfl, by kernel_rfl⟩
theorem at85 : CodeAt Tryd.prog 85 F85 := ⟨Tryd.f85, Tryd.func85, by kernel_rfl, by kernel_rfl⟩
theorem at87 : CodeAt Tryd.prog 87 F87 := ⟨Tryd.f87, Tryd.func87, by kernel_rfl, by kernel_rfl⟩
theorem at88 : CodeAt Tryd.prog 88 F88 := ⟨Tryd.f88, Tryd.func88, by kernel_rfl, by kernel_rfl⟩
theorem at89 : CodeAt Tryd.prog 89 F89 := ⟨Tryd.f89, Tryd.func89, by kernel_rfl, by kernel_rfl⟩
theorem at90 : CodeAt Tryd.prog 90 F90 := ⟨Tryd.f90, Tryd.func90, by kernel_rfl, by kernel_rfl⟩
theorem fs14_at : fs14.All (CodeAt Tryd.prog) := ⟨at44, ⟨at23, ⟨at13, ⟨at8, ⟨at5, ⟨at4, ⟨at3, trivial, trivial⟩, trivial⟩, ⟨at7, ⟨at6, trivial, trivial⟩, trivial⟩⟩, ⟨at11, ⟨at10, ⟨at9, trivial, trivial⟩, trivial⟩, ⟨at12, trivial, trivial⟩⟩⟩, ⟨at18, ⟨at16, ⟨at15, ⟨at14, trivial, trivial⟩, trivial⟩, ⟨at17, trivial, trivial⟩⟩, ⟨at21, ⟨at20, ⟨at19, trivial, trivial⟩, trivial⟩, ⟨at22, trivial, trivial⟩⟩⟩⟩, ⟨at34, ⟨at29, ⟨at26, ⟨at25, ⟨at24, trivial, trivial⟩, trivial⟩, ⟨at28, ⟨at27, trivial, trivial⟩, trivial⟩⟩, ⟨at32, ⟨at31, ⟨at30, trivial, trivial⟩, trivial⟩, ⟨at33, trivial, trivial⟩⟩⟩, ⟨at39, ⟨at37, ⟨at36, ⟨at35, trivial, trivial⟩, trivial⟩, ⟨at38, trivial, trivial⟩⟩, ⟨at42, ⟨at41, ⟨at40, trivial, trivial⟩, trivial⟩, ⟨at43, trivial, trivial⟩⟩⟩⟩⟩, ⟨at66, ⟨at55, ⟨at50, ⟨at47, ⟨at46, ⟨at45, trivial, trivial⟩, trivial⟩, ⟨at49, ⟨at48, trivial, trivial⟩, trivial⟩⟩, ⟨at53, ⟨at52, ⟨at51, trivial, trivial⟩, trivial⟩, ⟨at54, trivial, trivial⟩⟩⟩, ⟨at61, ⟨at58, ⟨at57, ⟨at56, trivial, trivial⟩, trivial⟩, ⟨at60, trivial, trivial⟩⟩, ⟨at64, ⟨at63, ⟨at62, trivial, trivial⟩, trivial⟩, ⟨at65, trivial, trivial⟩⟩⟩⟩, ⟨at80, ⟨at75, ⟨at71, ⟨at70, ⟨at67, trivial, trivial⟩, trivial⟩, ⟨at74, ⟨at73, trivial, trivial⟩, trivial⟩⟩, ⟨at78, ⟨at77, ⟨at76, trivial, trivial⟩, trivial⟩, ⟨at79, trivial, trivial⟩⟩⟩, ⟨at85, ⟨at83, ⟨at82, ⟨at81, trivial, trivial⟩, trivial⟩, ⟨at84, trivial, trivial⟩⟩, ⟨at89, ⟨at88, ⟨at87, trivial, trivial⟩, trivial⟩, ⟨at90, trivial, trivial⟩⟩⟩⟩⟩⟩
theorem mixed14 : Tryd.prog.follows .mixedOrders = true := by kernel_rfl
theorem ps14_at : PrimsAt Tryd.prog ps14 := ⟨⟨Tryd.f68, Tryd.func68, by kernel_rfl, by kernel_rfl, by kernel_rfl, by kernel_rfl⟩, ⟨Tryd.f69, 77, Tryd.f69.params, Tryd.func69, by kernel_rfl, by kernel_rfl, by kernel_rfl, by kernel_rfl, by kernel_rfl⟩, ⟨Tryd.f59, Tryd.func59, by kernel_rfl, by kernel_rfl, by kernel_rfl, by kernel_rfl⟩, ⟨Tryd.f86, Tryd.func86, by kernel_rfl, by kernel_rfl, by kernel_rfl, by kernel_rfl⟩, trivial⟩
end
end Go.Proofs.YtbgjcoochdljfaaDoorR.Am
