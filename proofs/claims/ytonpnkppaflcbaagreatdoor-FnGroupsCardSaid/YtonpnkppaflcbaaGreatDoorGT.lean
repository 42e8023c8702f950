/-
  Tables of types, data and names for this seat's program.
-/
import Derived.Test.YtonpnkppaflcbaaGreatDoorGY
import Derived.Test.YtonpnkppaflcbaaGreatDoorGX
import Derived.Test.YtonpnkppaflcbaaGreatDoorGZ
import Derived.Test.YtonpnkppaflcbaaGreatDoorSh
import Derived.Test.YtonpnkppaflcbaaGreatDoorProg
namespace Go.Proofs.YtonpnkppaflcbaaGreatDoor
open G
set_option linter.unusedVariables false
set_option linter.unusedSimpArgs false
set_option maxRecDepth 100000
set_option maxHeartbeats 4000000
structure Herd where
  Names : List ByteArray
  Eats : List Int
  Foes : List Int
deriving DecidableEq
structure l00Src where
  code : List Int
  at_ : Int
  seed : Int
deriving DecidableEq
def tU : List (Nat × TypeDesc) := [(2, .int .i64), (3, .int .i64), (4, .bool), (5, .int .u8), (9, .string), (21, .int .i32), (22, .slice 5), (24, .slice 9), (25, .slice 45), (26, .slice 64), (28, .struct #[{ name := "Names", type := 24, offset := 0, embedded := false, tag := "", pkgPath := "", byteOffset := 0 }, { name := "Eats", type := 25, offset := 1, embedded := false, tag := "", pkgPath := "", byteOffset := 24 }, { name := "Foes", type := 26, offset := 2, embedded := false, tag := "", pkgPath := "", byteOffset := 48 }]), (30, .slice 2), (45, .int .i16), (64, .int .u16), (77, .int .u64), (79, .int .u64), (81, .struct #[{ name := "code", type := 22, offset := 0, embedded := false, tag := "", pkgPath := "loop.example/g01345/spec", byteOffset := 0 }, { name := "at", type := 3, offset := 1, embedded := false, tag := "", pkgPath := "loop.example/g01345/spec", byteOffset := 24 }, { name := "seed", type := 79, offset := 2, embedded := false, tag := "", pkgPath := "loop.example/g01345/spec", byteOffset := 32 }]), (92, .int .u32), (108, .array 256 4)]
theorem tU_ok : okU Tryz.prog tU := ⟨by kernel_rfl, by kernel_rfl, by kernel_rfl, by kernel_rfl, by kernel_rfl, by kernel_rfl, by kernel_rfl, by kernel_rfl, by kernel_rfl, by kernel_rfl, by kernel_rfl, by kernel_rfl, by kernel_rfl, by kernel_rfl, by kernel_rfl, by kernel_rfl, by kernel_rfl, by kernel_rfl, by kernel_rfl, trivial⟩
def tI : List (Nat × TI) := [(2, ⟨1, 8, .int .i64 0⟩), (3, ⟨1, 8, .int .i64 0⟩), (4, ⟨1, 1, .bool false⟩), (5, ⟨1, 1, .int .u8 0⟩), (9, ⟨1, 16, .string ByteArray.empty⟩), (22, ⟨1, 24, .slice none 0 0⟩), (24, ⟨1, 24, .slice none 0 0⟩), (25, ⟨1, 24, .slice none 0 0⟩), (26, ⟨1, 24, .slice none 0 0⟩), (28, ⟨3, 72, .agg #[.slice none 0 0, .slice none 0 0, .slice none 0 0]⟩), (30, ⟨1, 24, .slice none 0 0⟩), (45, ⟨1, 2, .int .i16 0⟩), (64, ⟨1, 2, .int .u16 0⟩), (79, ⟨1, 8, .int .u64 0⟩), (81, ⟨3, 40, .agg #[.slice none 0 0, .int .i64 0, .int .u64 0]⟩), (108, ⟨256, 256, .agg #[.bool false, .bool false, .bool false, .bool false, .bool false, .bool false, .bool false, .bool false, .bool false, .bool false, .bool false, .bool false, .bool false, .bool false, .bool false, .bool false, .bool false, .bool false, .bool false, .bool false, .bool false, .bool false, .bool false, .bool false, .bool false, .bool false, .bool false, .bool false, .bool false, .bool false, .bool false, .bool false, .bool false, .bool false, .bool false, .bool false, .bool false, .bool false, .bool false, .bool false, .bool false, .bool false, .bool false, .bool false, .bool false, .bool false, .bool false, .bool false, .bool false, .bool false, .bool false, .bool false, .bool false, .bool false, .bool false, .bool false, .bool false, .bool false, .bool false, .bool false, .bool false, .bool false, .bool false, .bool false, .bool false, .bool false, .bool false, .bool false, .bool false, .bool false, .bool false, .bool false, .bool false, .bool false, .bool false, .bool false, .bool false, .bool false, .bool false, .bool false, .bool false, .bool false, .bool false, .bool false, .bool false, .bool false, .bool false, .bool false, .bool false, .bool false, .bool false, .bool false, .bool false, .bool false, .bool false, .bool false, .bool false, .bool false, .bool false, .bool false, .bool false, .bool false, .bool false, .bool false, .bool false, .bool false, .bool false, .bool false, .bool false, .bool false, .bool false, .bool false, .bool false, .bool false, .bool false, .bool false, .bool false, .bool false, .bool false, .bool false, .bool false, .bool false, .bool false, .bool false, .bool false, .bool false, .bool false, .bool false, .bool false, .bool false, .bool false, .bool false, .bool false, .bool false, .bool false, .bool false, .bool false, .bool false, .bool false, .bool false, .bool false, .bool false, .bool false, .bool false, .bool false, .bool false, .bool false, .bool false, .bool false, .bool false, .bool false, .bool false, .bool false, .bool false, .bool false, .bool false, .bool false, .bool false, .bool false, .bool false, .bool false, .bool false, .bool false, .bool false, .bool false, .bool false, .bool false, .bool false, .bool false, .bool false, .bool false, .bool false, .bool false, .bool false, .bool false, .bool false, .bool false, .bool false, .bool false, .bool false, .bool false, .bool false, .bool false, .bool false, .bool false, .bool false, .bool false, .bool false, .bool false, .bool false, .bool false, .bool false, .bool false, .bool false, .bool false, .bool false, .bool false, .bool false, .bool false, .bool false, .bool false, .bool false, .bool false, .bool false, .bool false, .bool false, .bool false, .bool false, .bool false, .bool false, .bool false, .bool false, .bool false, .bool false, .bool false, .bool false, .bool false, .bool false, .bool false, .bool false, .bool false, .bool false, .bool false, .bool false, .bool false, .bool false, .bool false, .bool false, .bool false, .bool false, .bool false, .bool false, .bool false, .bool false, .bool false, .bool false, .bool false, .bool false, .bool false, .bool false, .bool false, .bool false, .bool false, .bool false, .bool false, .bool false, .bool false, .bool false, .bool false, .bool false, .bool false, .bool false, .bool false, .bool false, .bool false, .bool false]⟩)]
theorem tI_ok : okI Tryz.prog tI := ⟨by kernel_rfl, by kernel_rfl, by kernel_rfl, by kernel_rfl, by kernel_rfl, by kernel_rfl, by kernel_rfl, by kernel_rfl, by kernel_rfl, by kernel_rfl, by kernel_rfl, by kernel_rfl, by kernel_rfl, by kernel_rfl, by kernel_rfl, by kernel_rfl, trivial⟩
theorem mixed : Tryz.prog.follows .mixedOrders = true := by kernel_rfl
theorem hb4 : hasBody Tryz.prog 4 := hasBody.mk Tryz.func4 rfl (by kernel_rfl)
theorem hb5 : hasBody Tryz.prog 5 := hasBody.mk Tryz.func5 rfl (by kernel_rfl)
theorem hb6 : hasBody Tryz.prog 6 := hasBody.mk Tryz.func6 rfl (by kernel_rfl)
theorem hb7 : hasBody Tryz.prog 7 := hasBody.mk Tryz.func7 rfl (by kernel_rfl)
theorem hb8 : hasBody Tryz.prog 8 := hasBody.mk Tryz.func8 rfl (by kernel_rfl)
theorem hb9 : hasBody Tryz.prog 9 := hasBody.mk Tryz.func9 rfl (by kernel_rfl)
theorem hb10 : hasBody Tryz.prog 10 := hasBody.mk Tryz.func10 rfl (by kernel_rfl)
theorem hb11 : hasBody Tryz.prog 11 := hasBody.mk Tryz.func11 rfl (by kernel_rfl)
theorem hb12 : hasBody Tryz.prog 12 := hasBody.mk Tryz.func12 rfl (by kernel_rfl)
theorem hb13 : hasBody Tryz.prog 13 := hasBody.mk Tryz.func13 rfl (by kernel_rfl)
theorem hb14 : hasBody Tryz.prog 14 := hasBody.mk Tryz.func14 rfl (by kernel_rfl)
theorem hb15 : hasBody Tryz.prog 15 := hasBody.mk Tryz.func15 rfl (by kernel_rfl)
theorem hb16 : hasBody Tryz.prog 16 := hasBody.mk Tryz.func16 rfl (by kernel_rfl)
theorem hb17 : hasBody Tryz.prog 17 := hasBody.mk Tryz.func17 rfl (by kernel_rfl)
theorem hb18 : hasBody Tryz.prog 18 := hasBody.mk Tryz.func18 rfl (by kernel_rfl)
theorem hb19 : hasBody Tryz.prog 19 := hasBody.mk Tryz.func19 rfl (by kernel_rfl)
theorem hb20 : hasBody Tryz.prog 20 := hasBody.mk Tryz.func20 rfl (by kernel_rfl)
theorem hb21 : hasBody Tryz.prog 21 := hasBody.mk Tryz.func21 rfl (by kernel_rfl)
theorem hb22 : hasBody Tryz.prog 22 := hasBody.mk Tryz.func22 rfl (by kernel_rfl)
theorem hb23 : hasBody Tryz.prog 23 := hasBody.mk Tryz.func23 rfl (by kernel_rfl)
theorem hb24 : hasBody Tryz.prog 24 := hasBody.mk Tryz.func24 rfl (by kernel_rfl)
theorem hb25 : hasBody Tryz.prog 25 := hasBody.mk Tryz.func25 rfl (by kernel_rfl)
theorem hb26 : hasBody Tryz.prog 26 := hasBody.mk Tryz.func26 rfl (by kernel_rfl)
theorem hb27 : hasBody Tryz.prog 27 := hasBody.mk Tryz.func27 rfl (by kernel_rfl)
theorem hb28 : hasBody Tryz.prog 28 := hasBody.mk Tryz.func28 rfl (by kernel_rfl)
theorem hb29 : hasBody Tryz.prog 29 := hasBody.mk Tryz.func29 rfl (by kernel_rfl)
theorem hb30 : hasBody Tryz.prog 30 := hasBody.mk Tryz.func30 rfl (by kernel_rfl)
theorem hb31 : hasBody Tryz.prog 31 := hasBody.mk Tryz.func31 rfl (by kernel_rfl)
theorem hb32 : hasBody Tryz.prog 32 := hasBody.mk Tryz.func32 rfl (by kernel_rfl)
theorem hb33 : hasBody Tryz.prog 33 := hasBody.mk Tryz.func33 rfl (by kernel_rfl)
theorem hb34 : hasBody Tryz.prog 34 := hasBody.mk Tryz.func34 rfl (by kernel_rfl)
theorem hb35 : hasBody Tryz.prog 35 := hasBody.mk Tryz.func35 rfl (by kernel_rfl)
theorem hb36 : hasBody Tryz.prog 36 := hasBody.mk Tryz.func36 rfl (by kernel_rfl)
theorem hb37 : hasBody Tryz.prog 37 := hasBody.mk Tryz.func37 rfl (by kernel_rfl)
theorem hb38 : hasBody Tryz.prog 38 := hasBody.mk Tryz.func38 rfl (by kernel_rfl)
theorem hb39 : hasBody Tryz.prog 39 := hasBody.mk Tryz.func39 rfl (by kernel_rfl)
theorem hb40 : hasBody Tryz.prog 40 := hasBody.mk Tryz.func40 rfl (by kernel_rfl)
theorem hb41 : hasBody Tryz.prog 41 := hasBody.mk Tryz.func41 rfl (by kernel_rfl)
theorem hb42 : hasBody Tryz.prog 42 := hasBody.mk Tryz.func42 rfl (by kernel_rfl)
theorem hb43 : hasBody Tryz.prog 43 := hasBody.mk Tryz.func43 rfl (by kernel_rfl)
theorem hb44 : hasBody Tryz.prog 44 := hasBody.mk Tryz.func44 rfl (by kernel_rfl)
theorem hb45 : hasBody Tryz.prog 45 := hasBody.mk Tryz.func45 rfl (by kernel_rfl)
theorem hb46 : hasBody Tryz.prog 46 := hasBody.mk Tryz.func46 rfl (by kernel_rfl)
theorem hb47 : hasBody Tryz.prog 47 := hasBody.mk Tryz.func47 rfl (by kernel_rfl)
theorem hb48 : hasBody Tryz.prog 48 := hasBody.mk Tryz.func48 rfl (by kernel_rfl)
theorem hb49 : hasBody Tryz.prog 49 := hasBody.mk Tryz.func49 rfl (by kernel_rfl)
theorem hb50 : hasBody Tryz.prog 50 := hasBody.mk Tryz.func50 rfl (by kernel_rfl)
theorem hb51 : hasBody Tryz.prog 51 := hasBody.mk Tryz.func51 rfl (by kernel_rfl)
theorem hb52 : hasBody Tryz.prog 52 := hasBody.mk Tryz.func52 rfl (by kernel_rfl)
theorem hb53 : hasBody Tryz.prog 53 := hasBody.mk Tryz.func53 rfl (by kernel_rfl)
theorem hb54 : hasBody Tryz.prog 54 := hasBody.mk Tryz.func54 rfl (by kernel_rfl)
theorem hb55 : hasBody Tryz.prog 55 := hasBody.mk Tryz.func55 rfl (by kernel_rfl)
theorem hb56 : hasBody Tryz.prog 56 := hasBody.mk Tryz.func56 rfl (by kernel_rfl)
theorem hb57 : hasBody Tryz.prog 57 := hasBody.mk Tryz.func57 rfl (by kernel_rfl)
theorem hb58 : hasBody Tryz.prog 58 := hasBody.mk Tryz.func58 rfl (by kernel_rfl)
theorem hb59 : hasBody Tryz.prog 59 := hasBody.mk Tryz.func59 rfl (by kernel_rfl)
theorem hb60 : hasBody Tryz.prog 60 := hasBody.mk Tryz.func60 rfl (by kernel_rfl)
theorem hb61 : hasBody Tryz.prog 61 := hasBody.mk Tryz.func61 rfl (by kernel_rfl)
theorem hb62 : hasBody Tryz.prog 62 := hasBody.mk Tryz.func62 rfl (by kernel_rfl)
theorem hb63 : hasBody Tryz.prog 63 := hasBody.mk Tryz.func63 rfl (by kernel_rfl)
theorem hb64 : hasBody Tryz.prog 64 := hasBody.mk Tryz.func64 rfl (by kernel_rfl)
theorem hb65 : hasBody Tryz.prog 65 := hasBody.mk Tryz.func65 rfl (by kernel_rfl)
theorem hb66 : hasBody Tryz.prog 66 := hasBody.mk Tryz.func66 rfl (by kernel_rfl)
theorem hb67 : hasBody Tryz.prog 67 := hasBody.mk Tryz.func67 rfl (by kernel_rfl)
theorem hb68 : hasBody Tryz.prog 68 := hasBody.mk Tryz.func68 rfl (by kernel_rfl)
theorem hb69 : hasBody Tryz.prog 69 := hasBody.mk Tryz.func69 rfl (by kernel_rfl)
theorem hb70 : hasBody Tryz.prog 70 := hasBody.mk Tryz.func70 rfl (by kernel_rfl)
theorem hb71 : hasBody Tryz.prog 71 := hasBody.mk Tryz.func71 rfl (by kernel_rfl)
theorem hb72 : hasBody Tryz.prog 72 := hasBody.mk Tryz.func72 rfl (by kernel_rfl)
theorem hb73 : hasBody Tryz.prog 73 := hasBody.mk Tryz.func73 rfl (by kernel_rfl)
theorem hb74 : hasBody Tryz.prog 74 := hasBody.mk Tryz.func74 rfl (by kernel_rfl)
theorem hb75 : hasBody Tryz.prog 75 := hasBody.mk Tryz.func75 rfl (by kernel_rfl)
theorem hb76 : hasBody Tryz.prog 76 := hasBody.mk Tryz.func76 rfl (by kernel_rfl)
theorem hb77 : hasBody Tryz.prog 77 := hasBody.mk Tryz.func77 rfl (by kernel_rfl)
theorem hb78 : hasBody Tryz.prog 78 := hasBody.mk Tryz.func78 rfl (by kernel_rfl)
theorem hb79 : hasBody Tryz.prog 79 := hasBody.mk Tryz.func79 rfl (by kernel_rfl)
theorem hb80 : hasBody Tryz.prog 80 := hasBody.mk Tryz.func80 rfl (by kernel_rfl)
theorem hb84 : hasBody Tryz.prog 84 := hasBody.mk Tryz.func84 rfl (by kernel_rfl)
theorem hb85 : hasBody Tryz.prog 85 := hasBody.mk Tryz.func85 rfl (by kernel_rfl)
theorem hb86 : hasBody Tryz.prog 86 := hasBody.mk Tryz.func86 rfl (by kernel_rfl)
theorem hb87 : hasBody Tryz.prog 87 := hasBody.mk Tryz.func87 rfl (by kernel_rfl)
theorem hb88 : hasBody Tryz.prog 88 := hasBody.mk Tryz.func88 rfl (by kernel_rfl)
theorem hb89 : hasBody Tryz.prog 89 := hasBody.mk Tryz.func89 rfl (by kernel_rfl)
theorem hb90 : hasBody Tryz.prog 90 := hasBody.mk Tryz.func90 rfl (by kernel_rfl)
theorem hb91 : hasBody Tryz.prog 91 := hasBody.mk Tryz.func91 rfl (by kernel_rfl)
theorem hb92 : hasBody Tryz.prog 92 := hasBody.mk Tryz.func92 rfl (by kernel_rfl)
theorem hb104 : hasBody Tryz.prog 104 := hasBody.mk Tryz.func104 rfl (by kernel_rfl)
theorem hb105 : hasBody Tryz.prog 105 := hasBody.mk Tryz.func105 rfl (by kernel_rfl)
theorem hb106 : hasBody Tryz.prog 106 := hasBody.mk Tryz.func106 rfl (by kernel_rfl)
theorem hb107 : hasBody Tryz.prog 107 := hasBody.mk Tryz.func107 rfl (by kernel_rfl)
theorem hb108 : hasBody Tryz.prog 108 := hasBody.mk Tryz.func108 rfl (by kernel_rfl)
theorem hb114 : hasBody Tryz.prog 114 := hasBody.mk Tryz.func114 rfl (by kernel_rfl)
theorem hb115 : hasBody Tryz.prog 115 := hasBody.mk Tryz.func115 rfl (by kernel_rfl)
theorem hb116 : hasBody Tryz.prog 116 := hasBody.mk Tryz.func116 rfl (by kernel_rfl)
theorem hb119 : hasBody Tryz.prog 119 := hasBody.mk Tryz.func119 rfl (by kernel_rfl)
end Go.Proofs.YtonpnkppaflcbaaGreatDoor
