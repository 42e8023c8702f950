/-
  Tables of types, data and names for this seat's program.
-/
import Derived.Test.YtplfdbfdalaefaaGreatDoorGY
import Derived.Test.YtplfdbfdalaefaaGreatDoorGW
import Derived.Test.YtplfdbfdalaefaaGreatDoorGU
import Derived.Test.YtplfdbfdalaefaaGreatDoorGV
import Derived.Test.YtplfdbfdalaefaaGreatDoorGI
import Derived.Test.YtplfdbfdalaefaaGreatDoorHL
import Derived.Test.YtplfdbfdalaefaaGreatDoorHT
import Derived.Test.YtplfdbfdalaefaaGreatDoorSh
import Derived.Test.YtplfdbfdalaefaaGreatDoorProg
namespace Go.Proofs.YtplfdbfdalaefaaGreatDoor
open G
set_option linter.unusedVariables false
set_option linter.unusedSimpArgs false
set_option maxRecDepth 100000
set_option maxHeartbeats 4000000
structure Herd where
  Names : List ByteArray
  Eats : List Int
  Foes : List Int
deriving DecidableEq
def tU : List (Nat × TypeDesc) := [(2, .int .i64), (3, .int .i64), (4, .bool), (5, .int .u8), (9, .string), (21, .int .i32), (22, .slice 5), (24, .slice 9), (25, .slice 49), (26, .slice 55), (28, .struct #[{ name := "Names", type := 24, offset := 0, embedded := false, tag := "", pkgPath := "", byteOffset := 0 }, { name := "Eats", type := 25, offset := 1, embedded := false, tag := "", pkgPath := "", byteOffset := 24 }, { name := "Foes", type := 26, offset := 2, embedded := false, tag := "", pkgPath := "", byteOffset := 48 }]), (40, .slice 2), (49, .int .i16), (55, .int .u16), (72, .func #[9] #[4] false), (76, .slice 24), (77, .func #[72] #[] false), (78, .func #[72] #[] false), (85, .pointer 87), (87, .struct #[{ name := "addr", type := 85, offset := 0, embedded := false, tag := "", pkgPath := "strings", byteOffset := 0 }, { name := "buf", type := 22, offset := 1, embedded := false, tag := "", pkgPath := "strings", byteOffset := 8 }]), (98, .int .u64), (182, .array 256 4)]
theorem tU_ok : okU Tryz.prog tU := ⟨by kernel_rfl, by kernel_rfl, by kernel_rfl, by kernel_rfl, by kernel_rfl, by kernel_rfl, by kernel_rfl, by kernel_rfl, by kernel_rfl, by kernel_rfl, by kernel_rfl, by kernel_rfl, by kernel_rfl, by kernel_rfl, by kernel_rfl, by kernel_rfl, by kernel_rfl, by kernel_rfl, by kernel_rfl, by kernel_rfl, by kernel_rfl, by kernel_rfl, trivial⟩
def tI : List (Nat × TI) := [(2, ⟨1, 8, .int .i64 0⟩), (4, ⟨1, 1, .bool false⟩), (5, ⟨1, 1, .int .u8 0⟩), (9, ⟨1, 16, .string ByteArray.empty⟩), (22, ⟨1, 24, .slice none 0 0⟩), (24, ⟨1, 24, .slice none 0 0⟩), (25, ⟨1, 24, .slice none 0 0⟩), (26, ⟨1, 24, .slice none 0 0⟩), (28, ⟨3, 72, .agg #[.slice none 0 0, .slice none 0 0, .slice none 0 0]⟩), (49, ⟨1, 2, .int .i16 0⟩), (55, ⟨1, 2, .int .u16 0⟩), (76, ⟨1, 24, .slice none 0 0⟩), (85, ⟨1, 8, .pointer none⟩), (87, ⟨2, 32, .agg #[.pointer none, .slice none 0 0]⟩), (182, ⟨256, 256, .agg #[.bool false, .bool false, .bool false, .bool false, .bool false, .bool false, .bool false, .bool false, .bool false, .bool false, .bool false, .bool false, .bool false, .bool false, .bool false, .bool false, .bool false, .bool false, .bool false, .bool false, .bool false, .bool false, .bool false, .bool false, .bool false, .bool false, .bool false, .bool false, .bool false, .bool false, .bool false, .bool false, .bool false, .bool false, .bool false, .bool false, .bool false, .bool false, .bool false, .bool false, .bool false, .bool false, .bool false, .bool false, .bool false, .bool false, .bool false, .bool false, .bool false, .bool false, .bool false, .bool false, .bool false, .bool false, .bool false, .bool false, .bool false, .bool false, .bool false, .bool false, .bool false, .bool false, .bool false, .bool false, .bool false, .bool false, .bool false, .bool false, .bool false, .bool false, .bool false, .bool false, .bool false, .bool false, .bool false, .bool false, .bool false, .bool false, .bool false, .bool false, .bool false, .bool false, .bool false, .bool false, .bool false, .bool false, .bool false, .bool false, .bool false, .bool false, .bool false, .bool false, .bool false, .bool false, .bool false, .bool false, .bool false, .bool false, .bool false, .bool false, .bool false, .bool false, .bool false, .bool false, .bool false, .bool false, .bool false, .bool false, .bool false, .bool false, .bool false, .bool false, .bool false, .bool false, .bool false, .bool false, .bool false, .bool false, .bool false, .bool false, .bool false, .bool false, .bool false, .bool false, .bool false, .bool false, .bool false, .bool false, .bool false, .bool false, .bool false, .bool false, .bool false, .bool false, .bool false, .bool false, .bool false, .bool false, .bool false, .bool false, .bool false, .bool false, .bool false, .bool false, .bool false, .bool false, .bool false, .bool false, .bool false, .bool false, .bool false, .bool false, .bool false, .bool false, .bool false, .bool false, .bool false, .bool false, .bool false, .bool false, .bool false, .bool false, .bool false, .bool false, .bool false, .bool false, .bool false, .bool false, .bool false, .bool false, .bool false, .bool false, .bool false, .bool false, .bool false, .bool false, .bool false, .bool false, .bool false, .bool false, .bool false, .bool false, .bool false, .bool false, .bool false, .bool false, .bool false, .bool false, .bool false, .bool false, .bool false, .bool false, .bool false, .bool false, .bool false, .bool false, .bool false, .bool false, .bool false, .bool false, .bool false, .bool false, .bool false, .bool false, .bool false, .bool false, .bool false, .bool false, .bool false, .bool false, .bool false, .bool false, .bool false, .bool false, .bool false, .bool false, .bool false, .bool false, .bool false, .bool false, .bool false, .bool false, .bool false, .bool false, .bool false, .bool false, .bool false, .bool false, .bool false, .bool false, .bool false, .bool false, .bool false, .bool false, .bool false, .bool false, .bool false, .bool false, .bool false, .bool false, .bool false, .bool false, .bool false, .bool false, .bool false, .bool false, .bool false, .bool false, .bool false, .bool false, .bool false, .bool false, .bool false, .bool false, .bool false, .bool false]⟩)]
theorem tI_ok : okI Tryz.prog tI := ⟨by kernel_rfl, by kernel_rfl, by kernel_rfl, by kernel_rfl, by kernel_rfl, by kernel_rfl, by kernel_rfl, by kernel_rfl, by kernel_rfl, by kernel_rfl, by kernel_rfl, by kernel_rfl, by kernel_rfl, by kernel_rfl, by kernel_rfl, trivial⟩
theorem mixed : Tryz.prog.follows .mixedOrders = true := by kernel_rfl
theorem hb7 : hasBody Tryz.prog 7 := hasBody.mk Tryz.func7 rfl (by kernel_rfl)
theorem hb8 : hasBody Tryz.prog 8 := hasBody.mk Tryz.func8 rfl (by kernel_rfl)
theorem hb13 : hasBody Tryz.prog 13 := hasBody.mk Tryz.func13 rfl (by kernel_rfl)
theorem hb31 : hasBody Tryz.prog 31 := hasBody.mk Tryz.func31 rfl (by kernel_rfl)
theorem hb32 : hasBody Tryz.prog 32 := hasBody.mk Tryz.func32 rfl (by kernel_rfl)
theorem hb33 : hasBody Tryz.prog 33 := hasBody.mk Tryz.func33 rfl (by kernel_rfl)
theorem hb34 : hasBody Tryz.prog 34 := hasBody.mk Tryz.func34 rfl (by kernel_rfl)
theorem hb37 : hasBody Tryz.prog 37 := hasBody.mk Tryz.func37 rfl (by kernel_rfl)
theorem hb38 : hasBody Tryz.prog 38 := hasBody.mk Tryz.func38 rfl (by kernel_rfl)
theorem hb39 : hasBody Tryz.prog 39 := hasBody.mk Tryz.func39 rfl (by kernel_rfl)
theorem hb40 : hasBody Tryz.prog 40 := hasBody.mk Tryz.func40 rfl (by kernel_rfl)
theorem hb41 : hasBody Tryz.prog 41 := hasBody.mk Tryz.func41 rfl (by kernel_rfl)
theorem hb42 : hasBody Tryz.prog 42 := hasBody.mk Tryz.func42 rfl (by kernel_rfl)
theorem hb43 : hasBody Tryz.prog 43 := hasBody.mk Tryz.func43 rfl (by kernel_rfl)
theorem hb44 : hasBody Tryz.prog 44 := hasBody.mk Tryz.func44 rfl (by kernel_rfl)
theorem hb45 : hasBody Tryz.prog 45 := hasBody.mk Tryz.func45 rfl (by kernel_rfl)
theorem hb46 : hasBody Tryz.prog 46 := hasBody.mk Tryz.func46 rfl (by kernel_rfl)
theorem hb47 : hasBody Tryz.prog 47 := hasBody.mk Tryz.func47 rfl (by kernel_rfl)
theorem hb51 : hasBody Tryz.prog 51 := hasBody.mk Tryz.func51 rfl (by kernel_rfl)
theorem hb52 : hasBody Tryz.prog 52 := hasBody.mk Tryz.func52 rfl (by kernel_rfl)
theorem hb53 : hasBody Tryz.prog 53 := hasBody.mk Tryz.func53 rfl (by kernel_rfl)
theorem hb54 : hasBody Tryz.prog 54 := hasBody.mk Tryz.func54 rfl (by kernel_rfl)
theorem hb75 : hasBody Tryz.prog 75 := hasBody.mk Tryz.func75 rfl (by kernel_rfl)
theorem hb83 : hasBody Tryz.prog 83 := hasBody.mk Tryz.func83 rfl (by kernel_rfl)
theorem hb84 : hasBody Tryz.prog 84 := hasBody.mk Tryz.func84 rfl (by kernel_rfl)
theorem hb85 : hasBody Tryz.prog 85 := hasBody.mk Tryz.func85 rfl (by kernel_rfl)
theorem hb86 : hasBody Tryz.prog 86 := hasBody.mk Tryz.func86 rfl (by kernel_rfl)
theorem hb87 : hasBody Tryz.prog 87 := hasBody.mk Tryz.func87 rfl (by kernel_rfl)
theorem hb88 : hasBody Tryz.prog 88 := hasBody.mk Tryz.func88 rfl (by kernel_rfl)
theorem hb89 : hasBody Tryz.prog 89 := hasBody.mk Tryz.func89 rfl (by kernel_rfl)
theorem hb90 : hasBody Tryz.prog 90 := hasBody.mk Tryz.func90 rfl (by kernel_rfl)
theorem hb91 : hasBody Tryz.prog 91 := hasBody.mk Tryz.func91 rfl (by kernel_rfl)
theorem hb92 : hasBody Tryz.prog 92 := hasBody.mk Tryz.func92 rfl (by kernel_rfl)
theorem hb93 : hasBody Tryz.prog 93 := hasBody.mk Tryz.func93 rfl (by kernel_rfl)
theorem hb94 : hasBody Tryz.prog 94 := hasBody.mk Tryz.func94 rfl (by kernel_rfl)
theorem hb98 : hasBody Tryz.prog 98 := hasBody.mk Tryz.func98 rfl (by kernel_rfl)
theorem hb99 : hasBody Tryz.prog 99 := hasBody.mk Tryz.func99 rfl (by kernel_rfl)
theorem hb101 : hasBody Tryz.prog 101 := hasBody.mk Tryz.func101 rfl (by kernel_rfl)
theorem hb102 : hasBody Tryz.prog 102 := hasBody.mk Tryz.func102 rfl (by kernel_rfl)
theorem hb103 : hasBody Tryz.prog 103 := hasBody.mk Tryz.func103 rfl (by kernel_rfl)
theorem hb106 : hasBody Tryz.prog 106 := hasBody.mk Tryz.func106 rfl (by kernel_rfl)
theorem hb107 : hasBody Tryz.prog 107 := hasBody.mk Tryz.func107 rfl (by kernel_rfl)
theorem hb108 : hasBody Tryz.prog 108 := hasBody.mk Tryz.func108 rfl (by kernel_rfl)
theorem hb136 : hasBody Tryz.prog 136 := hasBody.mk Tryz.func136 rfl (by kernel_rfl)
theorem hb137 : hasBody Tryz.prog 137 := hasBody.mk Tryz.func137 rfl (by kernel_rfl)
theorem hb142 : hasBody Tryz.prog 142 := hasBody.mk Tryz.func142 rfl (by kernel_rfl)
theorem hb148 : hasBody Tryz.prog 148 := hasBody.mk Tryz.func148 rfl (by kernel_rfl)
theorem hb149 : hasBody Tryz.prog 149 := hasBody.mk Tryz.func149 rfl (by kernel_rfl)
theorem hb150 : hasBody Tryz.prog 150 := hasBody.mk Tryz.func150 rfl (by kernel_rfl)
theorem hb151 : hasBody Tryz.prog 151 := hasBody.mk Tryz.func151 rfl (by kernel_rfl)
theorem hb152 : hasBody Tryz.prog 152 := hasBody.mk Tryz.func152 rfl (by kernel_rfl)
theorem hb153 : hasBody Tryz.prog 153 := hasBody.mk Tryz.func153 rfl (by kernel_rfl)
theorem hb154 : hasBody Tryz.prog 154 := hasBody.mk Tryz.func154 rfl (by kernel_rfl)
theorem hb166 : hasBody Tryz.prog 166 := hasBody.mk Tryz.func166 rfl (by kernel_rfl)
theorem hb179 : hasBody Tryz.prog 179 := hasBody.mk Tryz.func179 rfl (by kernel_rfl)
theorem hb180 : hasBody Tryz.prog 180 := hasBody.mk Tryz.func180 rfl (by kernel_rfl)
theorem hb181 : hasBody Tryz.prog 181 := hasBody.mk Tryz.func181 rfl (by kernel_rfl)
theorem hb196 : hasBody Tryz.prog 196 := hasBody.mk Tryz.func196 rfl (by kernel_rfl)
theorem hb209 : hasBody Tryz.prog 209 := hasBody.mk Tryz.func209 rfl (by kernel_rfl)
theorem hb210 : hasBody Tryz.prog 210 := hasBody.mk Tryz.func210 rfl (by kernel_rfl)
theorem hb224 : hasBody Tryz.prog 224 := hasBody.mk Tryz.func224 rfl (by kernel_rfl)
end Go.Proofs.YtplfdbfdalaefaaGreatDoor
