/-
  Tables of types, data and names for this seat's program.
-/
import Derived.Test.YtimpcenflahchaaDoorGY
import Derived.Test.YtimpcenflahchaaDoorGW
import Derived.Test.YtimpcenflahchaaDoorProg
namespace Go.Proofs.YtimpcenflahchaaDoor
open G
set_option linter.unusedVariables false
set_option linter.unusedSimpArgs false
set_option maxRecDepth 100000
set_option maxHeartbeats 4000000
structure Herd where
  Names : List ByteArray
  Eats : List Int
  Foes : List Int
deriving DecidableEq
def tU : List (Nat × TypeDesc) := [(2, .int .i64), (3, .int .i64), (4, .bool), (5, .int .u8), (9, .string), (21, .int .i32), (22, .slice 9), (23, .slice 73), (24, .slice 74), (26, .struct #[{ name := "Names", type := 22, offset := 0, embedded := false, tag := "", pkgPath := "", byteOffset := 0 }, { name := "Eats", type := 23, offset := 1, embedded := false, tag := "", pkgPath := "", byteOffset := 24 }, { name := "Foes", type := 24, offset := 2, embedded := false, tag := "", pkgPath := "", byteOffset := 48 }]), (29, .struct #[{ name := "Names", type := 22, offset := 0, embedded := false, tag := "", pkgPath := "", byteOffset := 0 }, { name := "Eats", type := 23, offset := 1, embedded := false, tag := "", pkgPath := "", byteOffset := 24 }, { name := "Foes", type := 24, offset := 2, embedded := false, tag := "", pkgPath := "", byteOffset := 48 }]), (36, .slice 2), (48, .slice 36), (73, .int .i16), (74, .int .u16), (89, .int .u64), (117, .array 256 4), (123, .slice 5)]
theorem tU_ok : okU Tryd.prog tU := ⟨by kernel_rfl, by kernel_rfl, by kernel_rfl, by kernel_rfl, by kernel_rfl, by kernel_rfl, by kernel_rfl, by kernel_rfl, by kernel_rfl, by kernel_rfl, by kernel_rfl, by kernel_rfl, by kernel_rfl, by kernel_rfl, by kernel_rfl, by kernel_rfl, by kernel_rfl, by kernel_rfl, trivial⟩
def tI : List (Nat × TI) := [(2, ⟨1, 8, .int .i64 0⟩), (4, ⟨1, 1, .bool false⟩), (5, ⟨1, 1, .int .u8 0⟩), (9, ⟨1, 16, .string ByteArray.empty⟩), (22, ⟨1, 24, .slice none 0 0⟩), (23, ⟨1, 24, .slice none 0 0⟩), (24, ⟨1, 24, .slice none 0 0⟩), (26, ⟨3, 72, .agg #[.slice none 0 0, .slice none 0 0, .slice none 0 0]⟩), (29, ⟨3, 72, .agg #[.slice none 0 0, .slice none 0 0, .slice none 0 0]⟩), (36, ⟨1, 24, .slice none 0 0⟩), (73, ⟨1, 2, .int .i16 0⟩), (74, ⟨1, 2, .int .u16 0⟩), (117, ⟨256, 256, .agg #[.bool false, .bool false, .bool false, .bool false, .bool false, .bool false, .bool false, .bool false, .bool false, .bool false, .bool false, .bool false, .bool false, .bool false, .bool false, .bool false, .bool false, .bool false, .bool false, .bool false, .bool false, .bool false, .bool false, .bool false, .bool false, .bool false, .bool false, .bool false, .bool false, .bool false, .bool false, .bool false, .bool false, .bool false, .bool false, .bool false, .bool false, .bool false, .bool false, .bool false, .bool false, .bool false, .bool false, .bool false, .bool false, .bool false, .bool false, .bool false, .bool false, .bool false, .bool false, .bool false, .bool false, .bool false, .bool false, .bool false, .bool false, .bool false, .bool false, .bool false, .bool false, .bool false, .bool false, .bool false, .bool false, .bool false, .bool false, .bool false, .bool false, .bool false, .bool false, .bool false, .bool false, .bool false, .bool false, .bool false, .bool false, .bool false, .bool false, .bool false, .bool false, .bool false, .bool false, .bool false, .bool false, .bool false, .bool false, .bool false, .bool false, .bool false, .bool false, .bool false, .bool false, .bool false, .bool false, .bool false, .bool false, .bool false, .bool false, .bool false, .bool false, .bool false, .bool false, .bool false, .bool false, .bool false, .bool false, .bool false, .bool false, .bool false, .bool false, .bool false, .bool false, .bool false, .bool false, .bool false, .bool false, .bool false, .bool false, .bool false, .bool false, .bool false, .bool false, .bool false, .bool false, .bool false, .bool false, .bool false, .bool false, .bool false, .bool false, .bool false, .bool false, .bool false, .bool false, .bool false, .bool false, .bool false, .bool false, .bool false, .bool false, .bool false, .bool false, .bool false, .bool false, .bool false, .bool false, .bool false, .bool false, .bool false, .bool false, .bool false, .bool false, .bool false, .bool false, .bool false, .bool false, .bool false, .bool false, .bool false, .bool false, .bool false, .bool false, .bool false, .bool false, .bool false, .bool false, .bool false, .bool false, .bool false, .bool false, .bool false, .bool false, .bool false, .bool false, .bool false, .bool false, .bool false, .bool false, .bool false, .bool false, .bool false, .bool false, .bool false, .bool false, .bool false, .bool false, .bool false, .bool false, .bool false, .bool false, .bool false, .bool false, .bool false, .bool false, .bool false, .bool false, .bool false, .bool false, .bool false, .bool false, .bool false, .bool false, .bool false, .bool false, .bool false, .bool false, .bool false, .bool false, .bool false, .bool false, .bool false, .bool false, .bool false, .bool false, .bool false, .bool false, .bool false, .bool false, .bool false, .bool false, .bool false, .bool false, .bool false, .bool false, .bool false, .bool false, .bool false, .bool false, .bool false, .bool false, .bool false, .bool false, .bool false, .bool false, .bool false, .bool false, .bool false, .bool false, .bool false, .bool false, .bool false, .bool false, .bool false, .bool false, .bool false, .bool false, .bool false, .bool false, .bool false, .bool false, .bool false, .bool false, .bool false, .bool false, .bool false]⟩)]
theorem tI_ok : okI Tryd.prog tI := ⟨by kernel_rfl, by kernel_rfl, by kernel_rfl, by kernel_rfl, by kernel_rfl, by kernel_rfl, by kernel_rfl, by kernel_rfl, by kernel_rfl, by kernel_rfl, by kernel_rfl, by kernel_rfl, by kernel_rfl, trivial⟩
theorem mixed : Tryd.prog.follows .mixedOrders = true := by kernel_rfl
theorem hb14 : hasBody Tryd.prog 14 := hasBody.mk Tryd.func14 rfl (by kernel_rfl)
theorem hb16 : hasBody Tryd.prog 16 := hasBody.mk Tryd.func16 rfl (by kernel_rfl)
theorem hb17 : hasBody Tryd.prog 17 := hasBody.mk Tryd.func17 rfl (by kernel_rfl)
theorem hb18 : hasBody Tryd.prog 18 := hasBody.mk Tryd.func18 rfl (by kernel_rfl)
theorem hb24 : hasBody Tryd.prog 24 := hasBody.mk Tryd.func24 rfl (by kernel_rfl)
theorem hb29 : hasBody Tryd.prog 29 := hasBody.mk Tryd.func29 rfl (by kernel_rfl)
theorem hb30 : hasBody Tryd.prog 30 := hasBody.mk Tryd.func30 rfl (by kernel_rfl)
theorem hb31 : hasBody Tryd.prog 31 := hasBody.mk Tryd.func31 rfl (by kernel_rfl)
theorem hb32 : hasBody Tryd.prog 32 := hasBody.mk Tryd.func32 rfl (by kernel_rfl)
theorem hb33 : hasBody Tryd.prog 33 := hasBody.mk Tryd.func33 rfl (by kernel_rfl)
theorem hb34 : hasBody Tryd.prog 34 := hasBody.mk Tryd.func34 rfl (by kernel_rfl)
theorem hb35 : hasBody Tryd.prog 35 := hasBody.mk Tryd.func35 rfl (by kernel_rfl)
theorem hb36 : hasBody Tryd.prog 36 := hasBody.mk Tryd.func36 rfl (by kernel_rfl)
theorem hb48 : hasBody Tryd.prog 48 := hasBody.mk Tryd.func48 rfl (by kernel_rfl)
theorem hb49 : hasBody Tryd.prog 49 := hasBody.mk Tryd.func49 rfl (by kernel_rfl)
theorem hb50 : hasBody Tryd.prog 50 := hasBody.mk Tryd.func50 rfl (by kernel_rfl)
theorem hb51 : hasBody Tryd.prog 51 := hasBody.mk Tryd.func51 rfl (by kernel_rfl)
theorem hb52 : hasBody Tryd.prog 52 := hasBody.mk Tryd.func52 rfl (by kernel_rfl)
theorem hb53 : hasBody Tryd.prog 53 := hasBody.mk Tryd.func53 rfl (by kernel_rfl)
theorem hb54 : hasBody Tryd.prog 54 := hasBody.mk Tryd.func54 rfl (by kernel_rfl)
theorem hb55 : hasBody Tryd.prog 55 := hasBody.mk Tryd.func55 rfl (by kernel_rfl)
theorem hb56 : hasBody Tryd.prog 56 := hasBody.mk Tryd.func56 rfl (by kernel_rfl)
theorem hb57 : hasBody Tryd.prog 57 := hasBody.mk Tryd.func57 rfl (by kernel_rfl)
theorem hb58 : hasBody Tryd.prog 58 := hasBody.mk Tryd.func58 rfl (by kernel_rfl)
theorem hb59 : hasBody Tryd.prog 59 := hasBody.mk Tryd.func59 rfl (by kernel_rfl)
theorem hb60 : hasBody Tryd.prog 60 := hasBody.mk Tryd.func60 rfl (by kernel_rfl)
theorem hb61 : hasBody Tryd.prog 61 := hasBody.mk Tryd.func61 rfl (by kernel_rfl)
theorem hb63 : hasBody Tryd.prog 63 := hasBody.mk Tryd.func63 rfl (by kernel_rfl)
theorem hb70 : hasBody Tryd.prog 70 := hasBody.mk Tryd.func70 rfl (by kernel_rfl)
theorem hb71 : hasBody Tryd.prog 71 := hasBody.mk Tryd.func71 rfl (by kernel_rfl)
theorem hb72 : hasBody Tryd.prog 72 := hasBody.mk Tryd.func72 rfl (by kernel_rfl)
theorem hb73 : hasBody Tryd.prog 73 := hasBody.mk Tryd.func73 rfl (by kernel_rfl)
theorem hb78 : hasBody Tryd.prog 78 := hasBody.mk Tryd.func78 rfl (by kernel_rfl)
theorem hb87 : hasBody Tryd.prog 87 := hasBody.mk Tryd.func87 rfl (by kernel_rfl)
theorem hb88 : hasBody Tryd.prog 88 := hasBody.mk Tryd.func88 rfl (by kernel_rfl)
theorem hb90 : hasBody Tryd.prog 90 := hasBody.mk Tryd.func90 rfl (by kernel_rfl)
theorem hb93 : hasBody Tryd.prog 93 := hasBody.mk Tryd.func93 rfl (by kernel_rfl)
theorem hb94 : hasBody Tryd.prog 94 := hasBody.mk Tryd.func94 rfl (by kernel_rfl)
theorem hb95 : hasBody Tryd.prog 95 := hasBody.mk Tryd.func95 rfl (by kernel_rfl)
theorem hb96 : hasBody Tryd.prog 96 := hasBody.mk Tryd.func96 rfl (by kernel_rfl)
theorem hb99 : hasBody Tryd.prog 99 := hasBody.mk Tryd.func99 rfl (by kernel_rfl)
theorem hb101 : hasBody Tryd.prog 101 := hasBody.mk Tryd.func101 rfl (by kernel_rfl)
theorem hb111 : hasBody Tryd.prog 111 := hasBody.mk Tryd.func111 rfl (by kernel_rfl)
theorem hb112 : hasBody Tryd.prog 112 := hasBody.mk Tryd.func112 rfl (by kernel_rfl)
theorem hb113 : hasBody Tryd.prog 113 := hasBody.mk Tryd.func113 rfl (by kernel_rfl)
theorem hb114 : hasBody Tryd.prog 114 := hasBody.mk Tryd.func114 rfl (by kernel_rfl)
theorem hb115 : hasBody Tryd.prog 115 := hasBody.mk Tryd.func115 rfl (by kernel_rfl)
theorem hb116 : hasBody Tryd.prog 116 := hasBody.mk Tryd.func116 rfl (by kernel_rfl)
theorem hb117 : hasBody Tryd.prog 117 := hasBody.mk Tryd.func117 rfl (by kernel_rfl)
theorem hb118 : hasBody Tryd.prog 118 := hasBody.mk Tryd.func118 rfl (by kernel_rfl)
theorem hb120 : hasBody Tryd.prog 120 := hasBody.mk Tryd.func120 rfl (by kernel_rfl)
theorem hb121 : hasBody Tryd.prog 121 := hasBody.mk Tryd.func121 rfl (by kernel_rfl)
theorem hb122 : hasBody Tryd.prog 122 := hasBody.mk Tryd.func122 rfl (by kernel_rfl)
theorem hb123 : hasBody Tryd.prog 123 := hasBody.mk Tryd.func123 rfl (by kernel_rfl)
theorem hb125 : hasBody Tryd.prog 125 := hasBody.mk Tryd.func125 rfl (by kernel_rfl)
theorem hb126 : hasBody Tryd.prog 126 := hasBody.mk Tryd.func126 rfl (by kernel_rfl)
theorem hb127 : hasBody Tryd.prog 127 := hasBody.mk Tryd.func127 rfl (by kernel_rfl)
theorem hb129 : hasBody Tryd.prog 129 := hasBody.mk Tryd.func129 rfl (by kernel_rfl)
end Go.Proofs.YtimpcenflahchaaDoor
