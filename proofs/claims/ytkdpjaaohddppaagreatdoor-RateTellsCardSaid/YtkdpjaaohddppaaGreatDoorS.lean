/- That the printed functions are the program's (S). -/
import Derived.Test.YtkdpjaaohddppaaGreatDoorF
import Derived.Test.YtkdpjaaohddppaaGreatDoorD
import Derived.Test.YtkdpjaaohddppaaGreatDoorRows
import Derived.KernelRfl
namespace Go.Proofs.YtkdpjaaohddppaaGreatDoor.Am
noncomputable section
open Go.Proofs
theorem at3 : CodeAt Tryz.prog 3 F3 := ⟨Tryz.f3,Tryz.func3,by kernel_rfl,by kernel_rfl⟩
theorem at6 : CodeAt Tryz.prog 6 F6 := ⟨Tryz.f6,Tryz.func6,by kernel_rfl,by kernel_rfl⟩
theorem at7 : CodeAt Tryz.prog 7 F7 := ⟨Tryz.f7,Tryz.func7,by kernel_rfl,by kernel_rfl⟩
theorem at8 : CodeAt Tryz.prog 8 F8 := ⟨Tryz.f8,Tryz.func8,by kernel_rfl,by kernel_rfl⟩
theorem at9 : CodeAt Tryz.prog 9 F9 := ⟨Tryz.f9,Tryz.func9,by kernel_rfl,by kernel_rfl⟩
theorem at10 : CodeAt Tryz.prog 10 F10 := ⟨Tryz.f10,Tryz.func10,by kernel_rfl,by kernel_rfl⟩
theorem at11 : CodeAt Tryz.prog 11 F11 := ⟨Tryz.f11,Tryz.func11,by kernel_rfl,by kernel_rfl⟩
theorem at12 : CodeAt Tryz.prog 12 F12 := ⟨Tryz.f12,Tryz.func12,by kernel_rfl,by kernel_rfl⟩
theorem at13 : CodeAt Tryz.prog 13 F13 := ⟨Tryz.f13,Tryz.func13,by kernel_rfl,by kernel_rfl⟩
theorem at14 : CodeAt Tryz.prog 14 F14 := ⟨Tryz.f14,Tryz.func14,by kernel_rfl,by kernel_rfl⟩
theorem at15 : CodeAt Tryz.prog 15 F15 := ⟨Tryz.f15,Tryz.func15,by kernel_rfl,by kernel_rfl⟩
theorem at16 : CodeAt Tryz.prog 16 F16 := ⟨Tryz.f16,Tryz.func16,by kernel_rfl,by kernel_rfl⟩
theorem at17 : CodeAt Tryz.prog 17 F17 := ⟨Tryz.f17,Tryz.func17,by kernel_rfl,by kernel_rfl⟩
theorem at18 : CodeAt Tryz.prog 18 F18 := ⟨Tryz.f18,Tryz.func18,by kernel_rfl,by kernel_rfl⟩
theorem at19 : CodeAt Tryz.prog 19 F19 := ⟨Tryz.f19,Tryz.func19,by kernel_rfl,by kernel_rfl⟩
theorem at20 : CodeAt Tryz.prog 20 F20 := ⟨Tryz.f20,Tryz.func20,by kernel_rfl,by kernel_rfl⟩
theorem at21 : CodeAt Tryz.prog 21 F21 := ⟨Tryz.f21,Tryz.func21,by kernel_rfl,by kernel_rfl⟩
theorem at22 : CodeAt Tryz.prog 22 F22 := ⟨Tryz.f22,Tryz.func22,by kernel_rfl,by kernel_rfl⟩
theorem at23 : CodeAt Tryz.prog 23 F23 := ⟨Tryz.f23,Tryz.func23,by kernel_rfl,by kernel_rfl⟩
theorem at25 : CodeAt Tryz.prog 25 F25 := ⟨Tryz.f25,Tryz.func25,by kernel_rfl,by kernel_rfl⟩
theorem at26 : CodeAt Tryz.prog 26 F26 := ⟨Tryz.f26,Tryz.func26,by kernel_rfl,by kernel_rfl⟩
theorem at27 : CodeAt Tryz.prog 27 F27 := ⟨Tryz.f27,Tryz.func27,by kernel_rfl,by kernel_rfl⟩
theorem at28 : CodeAt Tryz.prog 28 F28 := ⟨Tryz.f28,Tryz.func28,by kernel_rfl,by kernel_rfl⟩
theorem at29 : CodeAt Tryz.prog 29 F29 := ⟨Tryz.f29,Tryz.func29,by kernel_rfl,by kernel_rfl⟩
theorem at30 : CodeAt Tryz.prog 30 F30 := ⟨Tryz.f30,Tryz.func30,by kernel_rfl,by kernel_rfl⟩
theorem at31 : CodeAt Tryz.prog 31 F31 := ⟨Tryz.f31,Tryz.func31,by kernel_rfl,by kernel_rfl⟩
theorem at32 : CodeAt Tryz.prog 32 F32 := ⟨Tryz.f32,Tryz.func32,by kernel_rfl,by kernel_rfl⟩
theorem at33 : CodeAt Tryz.prog 33 F33 := ⟨Tryz.f33,Tryz.func33,by kernel_rfl,by kernel_rfl⟩
theorem at34 : CodeAt Tryz.prog 34 F34 := ⟨Tryz.f34,Tryz.func34,by kernel_rfl,by kernel_rfl⟩
theorem at35 : CodeAt Tryz.prog 35 F35 := ⟨Tryz.f35,Tryz.func35,by kernel_rfl,by kernel_rfl⟩
theorem at36 : CodeAt Tryz.prog 36 F36 := ⟨Tryz.f36,Tryz.func36,by kernel_rfl,by kernel_rfl⟩
theorem at37 : CodeAt Tryz.prog 37 F37 := ⟨Tryz.f37,Tryz.func37,by kernel_rfl,by kernel_rfl⟩
theorem at38 : CodeAt Tryz.prog 38 F38 := ⟨Tryz.f38,Tryz.func38,by kernel_rfl,by kernel_rfl⟩
theorem at39 : CodeAt Tryz.prog 39 F39 := ⟨Tryz.f39,Tryz.func39,by kernel_rfl,by kernel_rfl⟩
theorem at40 : CodeAt Tryz.prog 40 F40 := ⟨Tryz.f40,Tryz.func40,by kernel_rfl,by kernel_rfl⟩
theorem at41 : CodeAt Tryz.prog 41 F41 := ⟨Tryz.f41,Tryz.func41,by kernel_rfl,by kernel_rfl⟩
theorem at42 : CodeAt Tryz.prog 42 F42 := ⟨Tryz.f42,Tryz.func42,by kernel_rfl,by kernel_rfl⟩
theorem at43 : CodeAt Tryz.prog 43 F43 := ⟨Tryz.f43,Tryz.func43,by kernel_rfl,by kernel_rfl⟩
theorem at44 : CodeAt Tryz.prog 44 F44 := ⟨Tryz.f44,Tryz.func44,by kernel_rfl,by kernel_rfl⟩
theorem at45 : CodeAt Tryz.prog 45 F45 := ⟨Tryz.f45,Tryz.func45,by kernel_rfl,by kernel_rfl⟩
theorem at46 : CodeAt Tryz.prog 46 F46 := ⟨Tryz.f46,Tryz.func46,by kernel_rfl,by kernel_rfl⟩
theorem at47 : CodeAt Tryz.prog 47 F47 := ⟨Tryz.f47,Tryz.func47,by kernel_rfl,by kernel_rfl⟩
theorem at50 : CodeAt Tryz.prog 50 F50 := ⟨Tryz.f50,Tryz.func50,by kernel_rfl,by kernel_rfl⟩
theorem at51 : CodeAt Tryz.prog 51 F51 := ⟨Tryz.f51,Tryz.func51,by kernel_rfl,by kernel_rfl⟩
theorem at52 : CodeAt Tryz.prog 52 F52 := ⟨Tryz.f52,Tryz.func52,by kernel_rfl,by kernel_rfl⟩
theorem at56 : CodeAt Tryz.prog 56 F56 := ⟨Tryz.f56,Tryz.func56,by kernel_rfl,by kernel_rfl⟩
theorem at57 : CodeAt Tryz.prog 57 F57 := ⟨Tryz.f57,Tryz.func57,by kernel_rfl,by kernel_rfl⟩
theorem at58 : CodeAt Tryz.prog 58 F58 := ⟨Tryz.f58,Tryz.func58,by kernel_rfl,by kernel_rfl⟩
theorem at60 : CodeAt Tryz.prog 60 F60 := ⟨Tryz.f60,Tryz.func60,by kernel_rfl,by kernel_rfl⟩
theorem at62 : CodeAt Tryz.prog 62 F62 := ⟨Tryz.f62,Tryz.func62,by kernel_rfl,by kernel_rfl⟩
theorem at67 : CodeAt Tryz.prog 67 F67 := ⟨Tryz.f67,Tryz.func67,by kernel_rfl,by kernel_rfl⟩
theorem at68 : CodeAt Tryz.prog 68 F68 := ⟨Tryz.f68,Tryz.func68,by kernel_rfl,by kernel_rfl⟩
theorem at75 : CodeAt Tryz.prog 75 F75 := ⟨Tryz.f75,Tryz.func75,by kernel_rfl,by kernel_rfl⟩
theorem at76 : CodeAt Tryz.prog 76 F76 := ⟨Tryz.f76,Tryz.func76,by kernel_rfl,by kernel_rfl⟩
theorem at78 : CodeAt Tryz.prog 78 F78 := ⟨Tryz.f78,Tryz.func78,by kernel_rfl,by kernel_rfl⟩
theorem at79 : CodeAt Tryz.prog 79 F79 := ⟨Tryz.f79,Tryz.func79,by kernel_rfl,by kernel_rfl⟩
theorem at80 : CodeAt Tryz.prog 80 F80 := ⟨Tryz.f80,Tryz.func80,by kernel_rfl,by kernel_rfl⟩
theorem at83 : CodeAt Tryz.prog 83 F83 := ⟨Tryz.f83,Tryz.func83,by kernel_rfl,by kernel_rfl⟩
theorem at85 : CodeAt Tryz.prog 85 F85 := ⟨Tryz.f85,Tryz.func85,by kernel_rfl,by kernel_rfl⟩
theorem at91 : CodeAt Tryz.prog 91 F91 := ⟨Tryz.f91,Tryz.func91,by kernel_rfl,by kernel_rfl⟩
theorem at92 : CodeAt Tryz.prog 92 F92 := ⟨Tryz.f92,Tryz.func92,by kernel_rfl,by kernel_rfl⟩
theorem at98 : CodeAt Tryz.prog 98 F98 := ⟨Tryz.f98,Tryz.func98,by kernel_rfl,by kernel_rfl⟩
theorem at99 : CodeAt Tryz.prog 99 F99 := ⟨Tryz.f99,Tryz.func99,by kernel_rfl,by kernel_rfl⟩
theorem at100 : CodeAt Tryz.prog 100 F100 := ⟨Tryz.f100,Tryz.func100,by kernel_rfl,by kernel_rfl⟩
theorem at102 : CodeAt Tryz.prog 102 F102 := ⟨Tryz.f102,Tryz.func102,by kernel_rfl,by kernel_rfl⟩
theorem at103 : CodeAt Tryz.prog 103 F103 := ⟨Tryz.f103,Tryz.func103,by kernel_rfl,by kernel_rfl⟩
theorem at107 : CodeAt Tryz.prog 107 F107 := ⟨Tryz.f107,Tryz.func107,by kernel_rfl,by kernel_rfl⟩
theorem at108 : CodeAt Tryz.prog 108 F108 := ⟨Tryz.f108,Tryz.func108,by kernel_rfl,by kernel_rfl⟩
theorem at109 : CodeAt Tryz.prog 109 F109 := ⟨Tryz.f109,Tryz.func109,by kernel_rfl,by kernel_rfl⟩
theorem at110 : CodeAt Tryz.prog 110 F110 := ⟨Tryz.f110,Tryz.func110,by kernel_rfl,by kernel_rfl⟩
theorem at111 : CodeAt Tryz.prog 111 F111 := ⟨Tryz.f111,Tryz.func111,by kernel_rfl,by kernel_rfl⟩
theorem at112 : CodeAt Tryz.prog 112 F112 := ⟨Tryz.f112,Tryz.func112,by kernel_rfl,by kernel_rfl⟩
theorem at113 : CodeAt Tryz.prog 113 F113 := ⟨Tryz.f113,Tryz.func113,by kernel_rfl,by kernel_rfl⟩
theorem at114 : CodeAt Tryz.prog 114 F114 := ⟨Tryz.f114,Tryz.func114,by kernel_rfl,by kernel_rfl⟩
theorem at115 : CodeAt Tryz.prog 115 F115 := ⟨Tryz.f115,Tryz.func115,by kernel_rfl,by kernel_rfl⟩
theorem at116 : CodeAt Tryz.prog 116 F116 := ⟨Tryz.f116,Tryz.func116,by kernel_rfl,by kernel_rfl⟩
theorem at117 : CodeAt Tryz.prog 117 F117 := ⟨Tryz.f117,Tryz.func117,by kernel_rfl,by kernel_rfl⟩
theorem at118 : CodeAt Tryz.prog 118 F118 := ⟨Tryz.f118,Tryz.func118,by kernel_rfl,by kernel_rfl⟩
theorem at120 : CodeAt Tryz.prog 120 F120 := ⟨Tryz.f120,Tryz.func120,by kernel_rfl,by kernel_rfl⟩
theorem at121 : CodeAt Tryz.prog 121 F121 := ⟨Tryz.f121,Tryz.func121,by kernel_rfl,by kernel_rfl⟩
theorem at122 : CodeAt Tryz.prog 122 F122 := ⟨Tryz.f122,Tryz.func122,by kernel_rfl,by kernel_rfl⟩
theorem at123 : CodeAt Tryz.prog 123 F123 := ⟨Tryz.f123,Tryz.func123,by kernel_rfl,by kernel_rfl⟩
theorem at129 : CodeAt Tryz.prog 129 F129 := ⟨Tryz.f129,Tryz.func129,by kernel_rfl,by kernel_rfl⟩
theorem at130 : CodeAt Tryz.prog 130 F130 := ⟨Tryz.f130,Tryz.func130,by kernel_rfl,by kernel_rfl⟩
theorem at133 : CodeAt Tryz.prog 133 F133 := ⟨Tryz.f133,Tryz.func133,by kernel_rfl,by kernel_rfl⟩
theorem at134 : CodeAt Tryz.prog 134 F134 := ⟨Tryz.f134,Tryz.func134,by kernel_rfl,by kernel_rfl⟩
theorem at138 : CodeAt Tryz.prog 138 F138 := ⟨Tryz.f138,Tryz.func138,by kernel_rfl,by kernel_rfl⟩
theorem at140 : CodeAt Tryz.prog 140 F140 := ⟨Tryz.f140,Tryz.func140,by kernel_rfl,by kernel_rfl⟩
theorem fs61_at : fs61.All (CodeAt Tryz.prog) := ⟨at52,⟨at28,⟨at16,⟨at10,⟨at7,⟨at6,⟨at3,trivial,trivial⟩,trivial⟩,⟨at9,⟨at8,trivial,trivial⟩,trivial⟩⟩,⟨at13,⟨at12,⟨at11,trivial,trivial⟩,trivial⟩,⟨at15,⟨at14,trivial,trivial⟩,trivial⟩⟩⟩,⟨at22,⟨at19,⟨at18,⟨at17,trivial,trivial⟩,trivial⟩,⟨at21,⟨at20,trivial,trivial⟩,trivial⟩⟩,⟨at26,⟨at25,⟨at23,trivial,trivial⟩,trivial⟩,⟨at27,trivial,trivial⟩⟩⟩⟩,⟨at39,⟨at34,⟨at31,⟨at30,⟨at29,trivial,trivial⟩,trivial⟩,⟨at33,⟨at32,trivial,trivial⟩,trivial⟩⟩,⟨at37,⟨at36,⟨at35,trivial,trivial⟩,trivial⟩,⟨at38,trivial,trivial⟩⟩⟩,⟨at45,⟨at42,⟨at41,⟨at40,trivial,trivial⟩,trivial⟩,⟨at44,⟨at43,trivial,trivial⟩,trivial⟩⟩,⟨at50,⟨at47,⟨at46,trivial,trivial⟩,trivial⟩,⟨at51,trivial,trivial⟩⟩⟩⟩⟩,⟨at107,⟨at79,⟨at67,⟨at58,⟨at57,⟨at56,trivial,trivial⟩,trivial⟩,⟨at62,⟨at60,trivial,trivial⟩,trivial⟩⟩,⟨at76,⟨at75,⟨at68,trivial,trivial⟩,trivial⟩,⟨at78,trivial,trivial⟩⟩⟩,⟨at98,⟨at85,⟨at83,⟨at80,trivial,trivial⟩,trivial⟩,⟨at92,⟨at91,trivial,trivial⟩,trivial⟩⟩,⟨at102,⟨at100,⟨at99,trivial,trivial⟩,trivial⟩,⟨at103,trivial,trivial⟩⟩⟩⟩,⟨at118,⟨at113,⟨at110,⟨at109,⟨at108,trivial,trivial⟩,trivial⟩,⟨at112,⟨at111,trivial,trivial⟩,trivial⟩⟩,⟨at116,⟨at115,⟨at114,trivial,trivial⟩,trivial⟩,⟨at117,trivial,trivial⟩⟩⟩,⟨at130,⟨at122,⟨at121,⟨at120,trivial,trivial⟩,trivial⟩,⟨at129,⟨at123,trivial,trivial⟩,trivial⟩⟩,⟨at138,⟨at134,⟨at133,trivial,trivial⟩,trivial⟩,⟨at140,trivial,trivial⟩⟩⟩⟩⟩⟩
theorem mixed61 : Tryz.prog.follows .mixedOrders = true := by kernel_rfl
theorem ps61_at : PrimsAt Tryz.prog ps61 := ⟨⟨Tryz.f86,Tryz.func86,by kernel_rfl,by kernel_rfl,by kernel_rfl,by kernel_rfl⟩,⟨Tryz.f24,Tryz.func24,by kernel_rfl,by kernel_rfl,by kernel_rfl,by kernel_rfl⟩,⟨Tryz.f5,Tryz.func5,by kernel_rfl,by kernel_rfl,by kernel_rfl,by kernel_rfl⟩,⟨Tryz.f72,Tryz.func72,by kernel_rfl,by kernel_rfl,by kernel_rfl,by kernel_rfl⟩,⟨Tryz.f101,Tryz.func101,by kernel_rfl,by kernel_rfl,by kernel_rfl,by kernel_rfl⟩,trivial⟩
end
end Go.Proofs.YtkdpjaaohddppaaGreatDoor.Am
