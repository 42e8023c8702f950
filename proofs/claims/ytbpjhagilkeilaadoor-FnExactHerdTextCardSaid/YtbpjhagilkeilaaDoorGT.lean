/-
  Tables of types, data and names for this seat's program.
-/
import Derived.Test.YtbpjhagilkeilaaDoorGY
import Derived.Test.YtbpjhagilkeilaaDoorGU
import Derived.Test.YtbpjhagilkeilaaDoorGV
import Derived.Test.YtbpjhagilkeilaaDoorSh
import Derived.Test.YtbpjhagilkeilaaDoorProg
namespace Go.Proofs.YtbpjhagilkeilaaDoor
open G
set_option linter.unusedVariables false
set_option linter.unusedSimpArgs false
set_option maxRecDepth 100000
set_option maxHeartbeats 4000000
structure Herd where
  Names : List ByteArray
  Eats : List Int
  Foes : List Int
deriving DecidableEq
def tU : List (Nat × TypeDesc) := [(2, .int .i64), (3, .int .i64), (4, .bool), (5, .int .u8), (9, .string), (21, .int .i32), (22, .slice 9), (23, .slice 50), (24, .slice 51), (26, .struct #[{ name := "Names", type := 22, offset := 0, embedded := false, tag := "", pkgPath := "", byteOffset := 0 }, { name := "Eats", type := 23, offset := 1, embedded := false, tag := "", pkgPath := "", byteOffset := 24 }, { name := "Foes", type := 24, offset := 2, embedded := false, tag := "", pkgPath := "", byteOffset := 48 }]), (27, .slice 2), (29, .struct #[{ name := "Names", type := 22, offset := 0, embedded := false, tag := "", pkgPath := "", byteOffset := 0 }, { name := "Eats", type := 23, offset := 1, embedded := false, tag := "", pkgPath := "", byteOffset := 24 }, { name := "Foes", type := 24, offset := 2, embedded := false, tag := "", pkgPath := "", byteOffset := 48 }]), (50, .int .i16), (51, .int .u16), (78, .int .u64), (81, .pointer 84), (82, .slice 5), (84, .struct #[{ name := "addr", type := 81, offset := 0, embedded := false, tag := "", pkgPath := "strings", byteOffset := 0 }, { name := "buf", type := 82, offset := 1, embedded := false, tag := "", pkgPath := "strings", byteOffset := 8 }]), (132, .array 256 4)]
theorem tU_ok : okU Tryd.prog tU := ⟨by kernel_rfl, by kernel_rfl, by kernel_rfl, by kernel_rfl, by kernel_rfl, by kernel_rfl, by kernel_rfl, by kernel_rfl, by kernel_rfl, by kernel_rfl, by kernel_rfl, by kernel_rfl, by kernel_rfl, by kernel_rfl, by kernel_rfl, by kernel_rfl, by kernel_rfl, by kernel_rfl, by kernel_rfl, trivial⟩
def tI : List (Nat × TI) := [(2, ⟨1, 8, .int .i64 0⟩), (4, ⟨1, 1, .bool false⟩), (5, ⟨1, 1, .int .u8 0⟩), (9, ⟨1, 16, .string ByteArray.empty⟩), (22, ⟨1, 24, .slice none 0 0⟩), (23, ⟨1, 24, .slice none 0 0⟩), (24, ⟨1, 24, .slice none 0 0⟩), (26, ⟨3, 72, .agg #[.slice none 0 0, .slice none 0 0, .slice none 0 0]⟩), (29, ⟨3, 72, .agg #[.slice none 0 0, .slice none 0 0, .slice none 0 0]⟩), (50, ⟨1, 2, .int .i16 0⟩), (51, ⟨1, 2, .int .u16 0⟩), (81, ⟨1, 8, .pointer none⟩), (82, ⟨1, 24, .slice none 0 0⟩), (84, ⟨2, 32, .agg #[.pointer none, .slice none 0 0]⟩), (132, ⟨256, 256, .agg #[.bool false, .bool false, .bool false, .bool false, .bool false, .bool false, .bool false, .bool false, .bool false, .bool false, .bool false, .bool false, .bool false, .bool false, .bool false, .bool false, .bool false, .bool false, .bool false, .bool false, .bool false, .bool false, .bool false, .bool false, .bool false, .bool false, .bool false, .bool false, .bool false, .bool false, .bool false, .bool false, .bool false, .bool false, .bool false, .bool false, .bool false, .bool false, .bool false, .bool false, .bool false, .bool false, .bool false, .bool false, .bool false, .bool false, .bool false, .bool false, .bool false, .bool false, .bool false, .bool false, .bool false, .bool false, .bool false, .bool false, .bool false, .bool false, .bool false, .bool false, .bool false, .bool false, .bool false, .bool false, .bool false, .bool false, .bool false, .bool false, .bool false, .bool false, .bool false, .bool false, .bool false, .bool false, .bool false, .bool false, .bool false, .bool false, .bool false, .bool false, .bool false, .bool false, .bool false, .bool false, .bool false, .bool false, .bool false, .bool false, .bool false, .bool false, .bool false, .bool false, .bool false, .bool false, .bool false, .bool false, .bool false, .bool false, .bool false, .bool false, .bool false, .bool false, .bool false, .bool false, .bool false, .bool false, .bool false, .bool false, .bool false, .bool false, .bool false, .bool false, .bool false, .bool false, .bool false, .bool false, .bool false, .bool false, .bool false, .bool false, .bool false, .bool false, .bool false, .bool false, .bool false, .bool false, .bool false, .bool false, .bool false, .bool false, .bool false, .bool false, .bool false, .bool false, .bool false, .bool false, .bool false, .bool false, .bool false, .bool false, .bool false, .bool false, .bool false, .bool false, .bool false, .bool false, .bool false, .bool false, .bool false, .bool false, .bool false, .bool false, .bool false, .bool false, .bool false, .bool false, .bool false, .bool false, .bool false, .bool false, .bool false, .bool false, .bool false, .bool false, .bool false, .bool false, .bool false, .bool false, .bool false, .bool false, .bool false, .bool false, .bool false, .bool false, .bool false, .bool false, .bool false, .bool false, .bool false, .bool false, .bool false, .bool false, .bool false, .bool false, .bool false, .bool false, .bool false, .bool false, .bool false, .bool false, .bool false, .bool false, .bool false, .bool false, .bool false, .bool false, .bool false, .bool false, .bool false, .bool false, .bool false, .bool false, .bool false, .bool false, .bool false, .bool false, .bool false, .bool false, .bool false, .bool false, .bool false, .bool false, .bool false, .bool false, .bool false, .bool false, .bool false, .bool false, .bool false, .bool false, .bool false, .bool false, .bool false, .bool false, .bool false, .bool false, .bool false, .bool false, .bool false, .bool false, .bool false, .bool false, .bool false, .bool false, .bool false, .bool false, .bool false, .bool false, .bool false, .bool false, .bool false, .bool false, .bool false, .bool false, .bool false, .bool false, .bool false, .bool false, .bool false, .bool false, .bool false, .bool false, .bool false, .bool false, .bool false, .bool false]⟩)]
theorem tI_ok : okI Tryd.prog tI := ⟨by kernel_rfl, by kernel_rfl, by kernel_rfl, by kernel_rfl, by kernel_rfl, by kernel_rfl, by kernel_rfl, by kernel_rfl, by kernel_rfl, by kernel_rfl, by kernel_rfl, by kernel_rfl, by kernel_rfl, by kernel_rfl, by kernel_rfl, trivial⟩
theorem mixed : Tryd.prog.follows .mixedOrders = true := by kernel_rfl
theorem hb7 : hasBody Tryd.prog 7 := hasBody.mk Tryd.func7 rfl (by kernel_rfl)
theorem hb9 : hasBody Tryd.prog 9 := hasBody.mk Tryd.func9 rfl (by kernel_rfl)
theorem hb12 : hasBody Tryd.prog 12 := hasBody.mk Tryd.func12 rfl (by kernel_rfl)
theorem hb22 : hasBody Tryd.prog 22 := hasBody.mk Tryd.func22 rfl (by kernel_rfl)
theorem hb23 : hasBody Tryd.prog 23 := hasBody.mk Tryd.func23 rfl (by kernel_rfl)
theorem hb24 : hasBody Tryd.prog 24 := hasBody.mk Tryd.func24 rfl (by kernel_rfl)
theorem hb25 : hasBody Tryd.prog 25 := hasBody.mk Tryd.func25 rfl (by kernel_rfl)
theorem hb26 : hasBody Tryd.prog 26 := hasBody.mk Tryd.func26 rfl (by kernel_rfl)
theorem hb29 : hasBody Tryd.prog 29 := hasBody.mk Tryd.func29 rfl (by kernel_rfl)
theorem hb30 : hasBody Tryd.prog 30 := hasBody.mk Tryd.func30 rfl (by kernel_rfl)
theorem hb31 : hasBody Tryd.prog 31 := hasBody.mk Tryd.func31 rfl (by kernel_rfl)
theorem hb32 : hasBody Tryd.prog 32 := hasBody.mk Tryd.func32 rfl (by kernel_rfl)
theorem hb35 : hasBody Tryd.prog 35 := hasBody.mk Tryd.func35 rfl (by kernel_rfl)
theorem hb38 : hasBody Tryd.prog 38 := hasBody.mk Tryd.func38 rfl (by kernel_rfl)
theorem hb39 : hasBody Tryd.prog 39 := hasBody.mk Tryd.func39 rfl (by kernel_rfl)
theorem hb40 : hasBody Tryd.prog 40 := hasBody.mk Tryd.func40 rfl (by kernel_rfl)
theorem hb41 : hasBody Tryd.prog 41 := hasBody.mk Tryd.func41 rfl (by kernel_rfl)
theorem hb42 : hasBody Tryd.prog 42 := hasBody.mk Tryd.func42 rfl (by kernel_rfl)
theorem hb43 : hasBody Tryd.prog 43 := hasBody.mk Tryd.func43 rfl (by kernel_rfl)
theorem hb44 : hasBody Tryd.prog 44 := hasBody.mk Tryd.func44 rfl (by kernel_rfl)
theorem hb45 : hasBody Tryd.prog 45 := hasBody.mk Tryd.func45 rfl (by kernel_rfl)
theorem hb46 : hasBody Tryd.prog 46 := hasBody.mk Tryd.func46 rfl (by kernel_rfl)
theorem hb47 : hasBody Tryd.prog 47 := hasBody.mk Tryd.func47 rfl (by kernel_rfl)
theorem hb48 : hasBody Tryd.prog 48 := hasBody.mk Tryd.func48 rfl (by kernel_rfl)
theorem hb49 : hasBody Tryd.prog 49 := hasBody.mk Tryd.func49 rfl (by kernel_rfl)
theorem hb51 : hasBody Tryd.prog 51 := hasBody.mk Tryd.func51 rfl (by kernel_rfl)
theorem hb53 : hasBody Tryd.prog 53 := hasBody.mk Tryd.func53 rfl (by kernel_rfl)
theorem hb55 : hasBody Tryd.prog 55 := hasBody.mk Tryd.func55 rfl (by kernel_rfl)
theorem hb56 : hasBody Tryd.prog 56 := hasBody.mk Tryd.func56 rfl (by kernel_rfl)
theorem hb63 : hasBody Tryd.prog 63 := hasBody.mk Tryd.func63 rfl (by kernel_rfl)
theorem hb66 : hasBody Tryd.prog 66 := hasBody.mk Tryd.func66 rfl (by kernel_rfl)
theorem hb67 : hasBody Tryd.prog 67 := hasBody.mk Tryd.func67 rfl (by kernel_rfl)
theorem hb68 : hasBody Tryd.prog 68 := hasBody.mk Tryd.func68 rfl (by kernel_rfl)
theorem hb69 : hasBody Tryd.prog 69 := hasBody.mk Tryd.func69 rfl (by kernel_rfl)
theorem hb70 : hasBody Tryd.prog 70 := hasBody.mk Tryd.func70 rfl (by kernel_rfl)
theorem hb71 : hasBody Tryd.prog 71 := hasBody.mk Tryd.func71 rfl (by kernel_rfl)
theorem hb76 : hasBody Tryd.prog 76 := hasBody.mk Tryd.func76 rfl (by kernel_rfl)
theorem hb77 : hasBody Tryd.prog 77 := hasBody.mk Tryd.func77 rfl (by kernel_rfl)
theorem hb78 : hasBody Tryd.prog 78 := hasBody.mk Tryd.func78 rfl (by kernel_rfl)
theorem hb79 : hasBody Tryd.prog 79 := hasBody.mk Tryd.func79 rfl (by kernel_rfl)
theorem hb80 : hasBody Tryd.prog 80 := hasBody.mk Tryd.func80 rfl (by kernel_rfl)
theorem hb82 : hasBody Tryd.prog 82 := hasBody.mk Tryd.func82 rfl (by kernel_rfl)
theorem hb88 : hasBody Tryd.prog 88 := hasBody.mk Tryd.func88 rfl (by kernel_rfl)
theorem hb89 : hasBody Tryd.prog 89 := hasBody.mk Tryd.func89 rfl (by kernel_rfl)
theorem hb94 : hasBody Tryd.prog 94 := hasBody.mk Tryd.func94 rfl (by kernel_rfl)
theorem hb95 : hasBody Tryd.prog 95 := hasBody.mk Tryd.func95 rfl (by kernel_rfl)
theorem hb113 : hasBody Tryd.prog 113 := hasBody.mk Tryd.func113 rfl (by kernel_rfl)
theorem hb114 : hasBody Tryd.prog 114 := hasBody.mk Tryd.func114 rfl (by kernel_rfl)
theorem hb115 : hasBody Tryd.prog 115 := hasBody.mk Tryd.func115 rfl (by kernel_rfl)
theorem hb116 : hasBody Tryd.prog 116 := hasBody.mk Tryd.func116 rfl (by kernel_rfl)
theorem hb117 : hasBody Tryd.prog 117 := hasBody.mk Tryd.func117 rfl (by kernel_rfl)
theorem hb118 : hasBody Tryd.prog 118 := hasBody.mk Tryd.func118 rfl (by kernel_rfl)
theorem hb119 : hasBody Tryd.prog 119 := hasBody.mk Tryd.func119 rfl (by kernel_rfl)
theorem hb131 : hasBody Tryd.prog 131 := hasBody.mk Tryd.func131 rfl (by kernel_rfl)
theorem hb132 : hasBody Tryd.prog 132 := hasBody.mk Tryd.func132 rfl (by kernel_rfl)
theorem hb133 : hasBody Tryd.prog 133 := hasBody.mk Tryd.func133 rfl (by kernel_rfl)
theorem hb134 : hasBody Tryd.prog 134 := hasBody.mk Tryd.func134 rfl (by kernel_rfl)
theorem hb140 : hasBody Tryd.prog 140 := hasBody.mk Tryd.func140 rfl (by kernel_rfl)
theorem hb141 : hasBody Tryd.prog 141 := hasBody.mk Tryd.func141 rfl (by kernel_rfl)
theorem hb142 : hasBody Tryd.prog 142 := hasBody.mk Tryd.func142 rfl (by kernel_rfl)
theorem hb146 : hasBody Tryd.prog 146 := hasBody.mk Tryd.func146 rfl (by kernel_rfl)
end Go.Proofs.YtbpjhagilkeilaaDoor
