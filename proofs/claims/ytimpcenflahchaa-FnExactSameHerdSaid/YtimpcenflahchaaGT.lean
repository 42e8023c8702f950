/-
  Tables of types, data and names for this seat's program.
-/
import Derived.Test.YtimpcenflahchaaGN
import Derived.Test.YtimpcenflahchaaProg
namespace Go.Proofs.Ytimpcenflahchaa
open G
set_option linter.unusedVariables false
set_option maxRecDepth 100000
set_option maxHeartbeats 1000000
structure Herd where
  Names : List ByteArray
  Eats : List Int
  Foes : List Int
deriving DecidableEq
def tU : List (Nat × TypeDesc) := [(4, .bool), (9, .string), (22, .slice 9), (23, .slice 35), (24, .slice 36), (26, .struct #[{ name := "Names", type := 22, offset := 0, embedded := false, tag := "", pkgPath := "", byteOffset := 0 }, { name := "Eats", type := 23, offset := 1, embedded := false, tag := "", pkgPath := "", byteOffset := 24 }, { name := "Foes", type := 24, offset := 2, embedded := false, tag := "", pkgPath := "", byteOffset := 48 }]), (29, .struct #[{ name := "Names", type := 22, offset := 0, embedded := false, tag := "", pkgPath := "", byteOffset := 0 }, { name := "Eats", type := 23, offset := 1, embedded := false, tag := "", pkgPath := "", byteOffset := 24 }, { name := "Foes", type := 24, offset := 2, embedded := false, tag := "", pkgPath := "", byteOffset := 48 }]), (35, .int .i16), (36, .int .u16)]
theorem tU_ok : okU Try.prog tU := ⟨by kernel_rfl, by kernel_rfl, by kernel_rfl, by kernel_rfl, by kernel_rfl, by kernel_rfl, by kernel_rfl, by kernel_rfl, by kernel_rfl, trivial⟩
def tI : List (Nat × TI) := [(9, ⟨1, 16, .string ByteArray.empty⟩), (22, ⟨1, 24, .slice none 0 0⟩), (23, ⟨1, 24, .slice none 0 0⟩), (24, ⟨1, 24, .slice none 0 0⟩), (26, ⟨3, 72, .agg #[.slice none 0 0, .slice none 0 0, .slice none 0 0]⟩), (29, ⟨3, 72, .agg #[.slice none 0 0, .slice none 0 0, .slice none 0 0]⟩), (35, ⟨1, 2, .int .i16 0⟩), (36, ⟨1, 2, .int .u16 0⟩)]
theorem tI_ok : okI Try.prog tI := ⟨by kernel_rfl, by kernel_rfl, by kernel_rfl, by kernel_rfl, by kernel_rfl, by kernel_rfl, by kernel_rfl, by kernel_rfl, trivial⟩
theorem mixed : Try.prog.follows .mixedOrders = true := by kernel_rfl
theorem hb4 : hasBody Try.prog 4 := hasBody.mk Try.func4 rfl (by kernel_rfl)
theorem hb5 : hasBody Try.prog 5 := hasBody.mk Try.func5 rfl (by kernel_rfl)
theorem hb6 : hasBody Try.prog 6 := hasBody.mk Try.func6 rfl (by kernel_rfl)
theorem hb7 : hasBody Try.prog 7 := hasBody.mk Try.func7 rfl (by kernel_rfl)
theorem hb8 : hasBody Try.prog 8 := hasBody.mk Try.func8 rfl (by kernel_rfl)
theorem hb9 : hasBody Try.prog 9 := hasBody.mk Try.func9 rfl (by kernel_rfl)
theorem hb10 : hasBody Try.prog 10 := hasBody.mk Try.func10 rfl (by kernel_rfl)
theorem hb11 : hasBody Try.prog 11 := hasBody.mk Try.func11 rfl (by kernel_rfl)
theorem hb12 : hasBody Try.prog 12 := hasBody.mk Try.func12 rfl (by kernel_rfl)
theorem hb13 : hasBody Try.prog 13 := hasBody.mk Try.func13 rfl (by kernel_rfl)
theorem hb14 : hasBody Try.prog 14 := hasBody.mk Try.func14 rfl (by kernel_rfl)
theorem hb15 : hasBody Try.prog 15 := hasBody.mk Try.func15 rfl (by kernel_rfl)
theorem hb16 : hasBody Try.prog 16 := hasBody.mk Try.func16 rfl (by kernel_rfl)
theorem hb17 : hasBody Try.prog 17 := hasBody.mk Try.func17 rfl (by kernel_rfl)
theorem hb18 : hasBody Try.prog 18 := hasBody.mk Try.func18 rfl (by kernel_rfl)
theorem hb19 : hasBody Try.prog 19 := hasBody.mk Try.func19 rfl (by kernel_rfl)
theorem hb20 : hasBody Try.prog 20 := hasBody.mk Try.func20 rfl (by kernel_rfl)
end Go.Proofs.Ytimpcenflahchaa
