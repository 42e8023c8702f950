/-
  Tables of types, data and names for this seat's program.
-/
import Derived.Test.YtfdfchbcenoabaaGH
import Derived.Test.YtfdfchbcenoabaaProg
namespace Go.Proofs.Ytfdfchbcenoabaa
open G
set_option linter.unusedVariables false
set_option maxRecDepth 100000
set_option maxHeartbeats 1000000
structure Meadow where
  Grass : Int
  Grows : Int
  Most : Int
deriving DecidableEq
def cMeadow : Cd Meadow := ⟨3, fun x => [.int .i16 x.Grass, .int .i16 x.Grows, .int .i16 x.Most], fun _ => rfl, fun x u hu => by
  simp only [List.mem_cons, List.not_mem_nil, or_false] at hu
  rcases hu with rfl | rfl | rfl <;> rfl⟩
structure l07Search where
  need : Int
  days : Int
  budget : Int
  tries : Int
  over_ : Bool
deriving DecidableEq
def cl07Search : Cd l07Search := ⟨5, fun x => [.int .i64 x.need, .int .i64 x.days, .int .i64 x.budget, .int .i64 x.tries, .bool x.over_], fun _ => rfl, fun x u hu => by
  simp only [List.mem_cons, List.not_mem_nil, or_false] at hu
  rcases hu with rfl | rfl | rfl | rfl | rfl <;> rfl⟩
structure planner where
  need : Int
  days : Int
  budget : Int
  tries : Int
  over_ : Bool
deriving DecidableEq
def cplanner : Cd planner := ⟨5, fun x => [.int .i64 x.need, .int .i64 x.days, .int .i64 x.budget, .int .i64 x.tries, .bool x.over_], fun _ => rfl, fun x u hu => by
  simp only [List.mem_cons, List.not_mem_nil, or_false] at hu
  rcases hu with rfl | rfl | rfl | rfl | rfl <;> rfl⟩
def tU : List (Nat × TypeDesc) := [(2, .int .i64), (3, .int .i64), (4, .bool), (22, .slice 59), (25, .slice 57), (30, .slice 2), (55, .int .i16), (57, .struct #[{ name := "Grass", type := 55, offset := 0, embedded := false, tag := "", pkgPath := "", byteOffset := 0 }, { name := "Grows", type := 55, offset := 1, embedded := false, tag := "", pkgPath := "", byteOffset := 2 }, { name := "Most", type := 55, offset := 2, embedded := false, tag := "", pkgPath := "", byteOffset := 4 }]), (59, .struct #[{ name := "Grass", type := 55, offset := 0, embedded := false, tag := "", pkgPath := "", byteOffset := 0 }, { name := "Grows", type := 55, offset := 1, embedded := false, tag := "", pkgPath := "", byteOffset := 2 }, { name := "Most", type := 55, offset := 2, embedded := false, tag := "", pkgPath := "", byteOffset := 4 }]), (88, .struct #[{ name := "need", type := 2, offset := 0, embedded := false, tag := "", pkgPath := "loop.example/g01345/spec", byteOffset := 0 }, { name := "days", type := 3, offset := 1, embedded := false, tag := "", pkgPath := "loop.example/g01345/spec", byteOffset := 8 }, { name := "budget", type := 2, offset := 2, embedded := false, tag := "", pkgPath := "loop.example/g01345/spec", byteOffset := 16 }, { name := "tries", type := 2, offset := 3, embedded := false, tag := "", pkgPath := "loop.example/g01345/spec", byteOffset := 24 }, { name := "over", type := 4, offset := 4, embedded := false, tag := "", pkgPath := "loop.example/g01345/spec", byteOffset := 32 }]), (93, .struct #[{ name := "need", type := 2, offset := 0, embedded := false, tag := "", pkgPath := "loop.example/g01345/impl", byteOffset := 0 }, { name := "days", type := 2, offset := 1, embedded := false, tag := "", pkgPath := "loop.example/g01345/impl", byteOffset := 8 }, { name := "budget", type := 2, offset := 2, embedded := false, tag := "", pkgPath := "loop.example/g01345/impl", byteOffset := 16 }, { name := "tries", type := 2, offset := 3, embedded := false, tag := "", pkgPath := "loop.example/g01345/impl", byteOffset := 24 }, { name := "over", type := 4, offset := 4, embedded := false, tag := "", pkgPath := "loop.example/g01345/impl", byteOffset := 32 }])]
theorem tU_ok : okU Try.prog tU := ⟨by kernel_rfl, by kernel_rfl, by kernel_rfl, by kernel_rfl, by kernel_rfl, by kernel_rfl, by kernel_rfl, by kernel_rfl, by kernel_rfl, by kernel_rfl, by kernel_rfl, trivial⟩
def tI : List (Nat × TI) := [(2, ⟨1, 8, .int .i64 0⟩), (3, ⟨1, 8, .int .i64 0⟩), (4, ⟨1, 1, .bool false⟩), (25, ⟨1, 24, .slice none 0 0⟩), (30, ⟨1, 24, .slice none 0 0⟩), (55, ⟨1, 2, .int .i16 0⟩), (57, ⟨3, 6, .agg #[.int .i16 0, .int .i16 0, .int .i16 0]⟩), (59, ⟨3, 6, .agg #[.int .i16 0, .int .i16 0, .int .i16 0]⟩), (88, ⟨5, 40, .agg #[.int .i64 0, .int .i64 0, .int .i64 0, .int .i64 0, .bool false]⟩), (93, ⟨5, 40, .agg #[.int .i64 0, .int .i64 0, .int .i64 0, .int .i64 0, .bool false]⟩)]
theorem tI_ok : okI Try.prog tI := ⟨by kernel_rfl, by kernel_rfl, by kernel_rfl, by kernel_rfl, by kernel_rfl, by kernel_rfl, by kernel_rfl, by kernel_rfl, by kernel_rfl, by kernel_rfl, trivial⟩
theorem mixed : Try.prog.follows .mixedOrders = true := by kernel_rfl
theorem eqG57 : Try.prog.eqGuardType Try.prog.depth 57 = false := by kernel_rfl
theorem eqT57 : EqT Try.prog 57 cMeadow fun z => .agg (cMeadow.enc z).toArray := EqT.mk tU_ok (T := 57) rfl (by kernel_rfl) fun x y => by
  show some (decide (x.Grass = y.Grass) && (decide (x.Grows = y.Grows) && (decide (x.Most = y.Most) && (true)))) = _
  cases x; cases y
  congr 1
  rw [Bool.eq_iff_iff]
  simp
theorem hb15 : hasBody Try.prog 15 := hasBody.mk Try.func15 rfl (by kernel_rfl)
theorem hb16 : hasBody Try.prog 16 := hasBody.mk Try.func16 rfl (by kernel_rfl)
theorem hb17 : hasBody Try.prog 17 := hasBody.mk Try.func17 rfl (by kernel_rfl)
theorem hb18 : hasBody Try.prog 18 := hasBody.mk Try.func18 rfl (by kernel_rfl)
theorem hb19 : hasBody Try.prog 19 := hasBody.mk Try.func19 rfl (by kernel_rfl)
theorem hb20 : hasBody Try.prog 20 := hasBody.mk Try.func20 rfl (by kernel_rfl)
theorem hb21 : hasBody Try.prog 21 := hasBody.mk Try.func21 rfl (by kernel_rfl)
theorem hb22 : hasBody Try.prog 22 := hasBody.mk Try.func22 rfl (by kernel_rfl)
theorem hb23 : hasBody Try.prog 23 := hasBody.mk Try.func23 rfl (by kernel_rfl)
theorem hb24 : hasBody Try.prog 24 := hasBody.mk Try.func24 rfl (by kernel_rfl)
theorem hb25 : hasBody Try.prog 25 := hasBody.mk Try.func25 rfl (by kernel_rfl)
theorem hb26 : hasBody Try.prog 26 := hasBody.mk Try.func26 rfl (by kernel_rfl)
theorem hb27 : hasBody Try.prog 27 := hasBody.mk Try.func27 rfl (by kernel_rfl)
theorem hb28 : hasBody Try.prog 28 := hasBody.mk Try.func28 rfl (by kernel_rfl)
theorem hb29 : hasBody Try.prog 29 := hasBody.mk Try.func29 rfl (by kernel_rfl)
theorem hb30 : hasBody Try.prog 30 := hasBody.mk Try.func30 rfl (by kernel_rfl)
theorem hb31 : hasBody Try.prog 31 := hasBody.mk Try.func31 rfl (by kernel_rfl)
theorem hb32 : hasBody Try.prog 32 := hasBody.mk Try.func32 rfl (by kernel_rfl)
theorem hb33 : hasBody Try.prog 33 := hasBody.mk Try.func33 rfl (by kernel_rfl)
theorem hb34 : hasBody Try.prog 34 := hasBody.mk Try.func34 rfl (by kernel_rfl)
theorem hb35 : hasBody Try.prog 35 := hasBody.mk Try.func35 rfl (by kernel_rfl)
theorem hb36 : hasBody Try.prog 36 := hasBody.mk Try.func36 rfl (by kernel_rfl)
theorem hb37 : hasBody Try.prog 37 := hasBody.mk Try.func37 rfl (by kernel_rfl)
theorem hb38 : hasBody Try.prog 38 := hasBody.mk Try.func38 rfl (by kernel_rfl)
theorem hb39 : hasBody Try.prog 39 := hasBody.mk Try.func39 rfl (by kernel_rfl)
theorem hb40 : hasBody Try.prog 40 := hasBody.mk Try.func40 rfl (by kernel_rfl)
theorem hb41 : hasBody Try.prog 41 := hasBody.mk Try.func41 rfl (by kernel_rfl)
theorem hb42 : hasBody Try.prog 42 := hasBody.mk Try.func42 rfl (by kernel_rfl)
theorem hb43 : hasBody Try.prog 43 := hasBody.mk Try.func43 rfl (by kernel_rfl)
theorem hb48 : hasBody Try.prog 48 := hasBody.mk Try.func48 rfl (by kernel_rfl)
theorem hb49 : hasBody Try.prog 49 := hasBody.mk Try.func49 rfl (by kernel_rfl)
theorem hb50 : hasBody Try.prog 50 := hasBody.mk Try.func50 rfl (by kernel_rfl)
theorem hb51 : hasBody Try.prog 51 := hasBody.mk Try.func51 rfl (by kernel_rfl)
theorem hb52 : hasBody Try.prog 52 := hasBody.mk Try.func52 rfl (by kernel_rfl)
theorem hb53 : hasBody Try.prog 53 := hasBody.mk Try.func53 rfl (by kernel_rfl)
theorem hb54 : hasBody Try.prog 54 := hasBody.mk Try.func54 rfl (by kernel_rfl)
theorem hb55 : hasBody Try.prog 55 := hasBody.mk Try.func55 rfl (by kernel_rfl)
theorem hb56 : hasBody Try.prog 56 := hasBody.mk Try.func56 rfl (by kernel_rfl)
theorem hb57 : hasBody Try.prog 57 := hasBody.mk Try.func57 rfl (by kernel_rfl)
theorem hb58 : hasBody Try.prog 58 := hasBody.mk Try.func58 rfl (by kernel_rfl)
theorem hb59 : hasBody Try.prog 59 := hasBody.mk Try.func59 rfl (by kernel_rfl)
theorem hb60 : hasBody Try.prog 60 := hasBody.mk Try.func60 rfl (by kernel_rfl)
theorem hb61 : hasBody Try.prog 61 := hasBody.mk Try.func61 rfl (by kernel_rfl)
theorem hb62 : hasBody Try.prog 62 := hasBody.mk Try.func62 rfl (by kernel_rfl)
theorem hb63 : hasBody Try.prog 63 := hasBody.mk Try.func63 rfl (by kernel_rfl)
theorem hb64 : hasBody Try.prog 64 := hasBody.mk Try.func64 rfl (by kernel_rfl)
theorem hb65 : hasBody Try.prog 65 := hasBody.mk Try.func65 rfl (by kernel_rfl)
theorem hb66 : hasBody Try.prog 66 := hasBody.mk Try.func66 rfl (by kernel_rfl)
theorem hb67 : hasBody Try.prog 67 := hasBody.mk Try.func67 rfl (by kernel_rfl)
theorem hb68 : hasBody Try.prog 68 := hasBody.mk Try.func68 rfl (by kernel_rfl)
theorem hb69 : hasBody Try.prog 69 := hasBody.mk Try.func69 rfl (by kernel_rfl)
theorem hb70 : hasBody Try.prog 70 := hasBody.mk Try.func70 rfl (by kernel_rfl)
theorem hb71 : hasBody Try.prog 71 := hasBody.mk Try.func71 rfl (by kernel_rfl)
theorem hb72 : hasBody Try.prog 72 := hasBody.mk Try.func72 rfl (by kernel_rfl)
theorem hb73 : hasBody Try.prog 73 := hasBody.mk Try.func73 rfl (by kernel_rfl)
theorem hb75 : hasBody Try.prog 75 := hasBody.mk Try.func75 rfl (by kernel_rfl)
theorem hb76 : hasBody Try.prog 76 := hasBody.mk Try.func76 rfl (by kernel_rfl)
theorem hb78 : hasBody Try.prog 78 := hasBody.mk Try.func78 rfl (by kernel_rfl)
theorem hb79 : hasBody Try.prog 79 := hasBody.mk Try.func79 rfl (by kernel_rfl)
theorem hb80 : hasBody Try.prog 80 := hasBody.mk Try.func80 rfl (by kernel_rfl)
theorem hb81 : hasBody Try.prog 81 := hasBody.mk Try.func81 rfl (by kernel_rfl)
theorem hb82 : hasBody Try.prog 82 := hasBody.mk Try.func82 rfl (by kernel_rfl)
theorem hb83 : hasBody Try.prog 83 := hasBody.mk Try.func83 rfl (by kernel_rfl)
theorem hb86 : hasBody Try.prog 86 := hasBody.mk Try.func86 rfl (by kernel_rfl)
end Go.Proofs.Ytfdfchbcenoabaa
