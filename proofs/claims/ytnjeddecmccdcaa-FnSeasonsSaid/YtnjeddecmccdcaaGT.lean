/-
  Tables of types, data and names for this seat's program.
-/
import Derived.Test.YtnjeddecmccdcaaGY
import Derived.Test.YtnjeddecmccdcaaProg
namespace Go.Proofs.Ytnjeddecmccdcaa
open G
set_option linter.unusedVariables false
set_option linter.unusedSimpArgs false
set_option maxRecDepth 100000
set_option maxHeartbeats 4000000
structure Meadow where
  Grass : Int
  Grows : Int
  Most : Int
deriving DecidableEq
def cMeadow : Cd Meadow := ⟨3, fun x => [.int .i16 x.Grass, .int .i16 x.Grows, .int .i16 x.Most], fun _ => rfl, fun x u hu => by
  simp only [List.mem_cons, List.not_mem_nil, or_false] at hu
  rcases hu with rfl | rfl | rfl <;> rfl⟩
structure l00Src where
  code : List Int
  at_ : Int
  seed : Int
deriving DecidableEq
structure planner where
  need : Int
  days : Int
  budget : Int
  tries : Int
  over_ : Bool
deriving DecidableEq
def cplanner : Cd planner := ⟨5, fun x => [.int .i64 x.need, .int .i64 x.days, .int .i64 x.budget, .int .i64 x.tries, .bool x.over_], fun _ => rfl, fun x u hu => by
  simp only [List.mem_cons, List.not_mem_nil, or_false] at hu
  rcases hu with rfl | rfl | rfl | rfl | rfl <;> rfl⟩
structure l07Search where
  need : Int
  days : Int
  budget : Int
  tries : Int
  over_ : Bool
deriving DecidableEq
def cl07Search : Cd l07Search := ⟨5, fun x => [.int .i64 x.need, .int .i64 x.days, .int .i64 x.budget, .int .i64 x.tries, .bool x.over_], fun _ => rfl, fun x u hu => by
  simp only [List.mem_cons, List.not_mem_nil, or_false] at hu
  rcases hu with rfl | rfl | rfl | rfl | rfl <;> rfl⟩
def tU : List (Nat × TypeDesc) := [(2, .int .i64), (3, .int .i64), (4, .bool), (5, .int .u8), (22, .slice 5), (24, .slice 47), (27, .slice 2), (45, .int .i16), (47, .struct #[{ name := "Grass", type := 45, offset := 0, embedded := false, tag := "", pkgPath := "", byteOffset := 0 }, { name := "Grows", type := 45, offset := 1, embedded := false, tag := "", pkgPath := "", byteOffset := 2 }, { name := "Most", type := 45, offset := 2, embedded := false, tag := "", pkgPath := "", byteOffset := 4 }]), (75, .int .u64), (77, .struct #[{ name := "code", type := 22, offset := 0, embedded := false, tag := "", pkgPath := "loop.example/g01345/spec", byteOffset := 0 }, { name := "at", type := 3, offset := 1, embedded := false, tag := "", pkgPath := "loop.example/g01345/spec", byteOffset := 24 }, { name := "seed", type := 75, offset := 2, embedded := false, tag := "", pkgPath := "loop.example/g01345/spec", byteOffset := 32 }]), (81, .struct #[{ name := "need", type := 2, offset := 0, embedded := false, tag := "", pkgPath := "loop.example/g01345/impl", byteOffset := 0 }, { name := "days", type := 2, offset := 1, embedded := false, tag := "", pkgPath := "loop.example/g01345/impl", byteOffset := 8 }, { name := "budget", type := 2, offset := 2, embedded := false, tag := "", pkgPath := "loop.example/g01345/impl", byteOffset := 16 }, { name := "tries", type := 2, offset := 3, embedded := false, tag := "", pkgPath := "loop.example/g01345/impl", byteOffset := 24 }, { name := "over", type := 4, offset := 4, embedded := false, tag := "", pkgPath := "loop.example/g01345/impl", byteOffset := 32 }]), (86, .struct #[{ name := "need", type := 2, offset := 0, embedded := false, tag := "", pkgPath := "loop.example/g01345/spec", byteOffset := 0 }, { name := "days", type := 3, offset := 1, embedded := false, tag := "", pkgPath := "loop.example/g01345/spec", byteOffset := 8 }, { name := "budget", type := 2, offset := 2, embedded := false, tag := "", pkgPath := "loop.example/g01345/spec", byteOffset := 16 }, { name := "tries", type := 2, offset := 3, embedded := false, tag := "", pkgPath := "loop.example/g01345/spec", byteOffset := 24 }, { name := "over", type := 4, offset := 4, embedded := false, tag := "", pkgPath := "loop.example/g01345/spec", byteOffset := 32 }])]
theorem tU_ok : okU Try.prog tU := ⟨by kernel_rfl, by kernel_rfl, by kernel_rfl, by kernel_rfl, by kernel_rfl, by kernel_rfl, by kernel_rfl, by kernel_rfl, by kernel_rfl, by kernel_rfl, by kernel_rfl, by kernel_rfl, by kernel_rfl, trivial⟩
def tI : List (Nat × TI) := [(2, ⟨1, 8, .int .i64 0⟩), (3, ⟨1, 8, .int .i64 0⟩), (4, ⟨1, 1, .bool false⟩), (5, ⟨1, 1, .int .u8 0⟩), (22, ⟨1, 24, .slice none 0 0⟩), (24, ⟨1, 24, .slice none 0 0⟩), (27, ⟨1, 24, .slice none 0 0⟩), (45, ⟨1, 2, .int .i16 0⟩), (47, ⟨3, 6, .agg #[.int .i16 0, .int .i16 0, .int .i16 0]⟩), (75, ⟨1, 8, .int .u64 0⟩), (77, ⟨3, 40, .agg #[.slice none 0 0, .int .i64 0, .int .u64 0]⟩), (81, ⟨5, 40, .agg #[.int .i64 0, .int .i64 0, .int .i64 0, .int .i64 0, .bool false]⟩), (86, ⟨5, 40, .agg #[.int .i64 0, .int .i64 0, .int .i64 0, .int .i64 0, .bool false]⟩)]
theorem tI_ok : okI Try.prog tI := ⟨by kernel_rfl, by kernel_rfl, by kernel_rfl, by kernel_rfl, by kernel_rfl, by kernel_rfl, by kernel_rfl, by kernel_rfl, by kernel_rfl, by kernel_rfl, by kernel_rfl, by kernel_rfl, by kernel_rfl, trivial⟩
theorem mixed : Try.prog.follows .mixedOrders = true := by kernel_rfl
theorem eqG47 : Try.prog.eqGuardType Try.prog.depth 47 = false := by kernel_rfl
theorem eqT47 : EqT Try.prog 47 cMeadow fun z => .agg (cMeadow.enc z).toArray := EqT.mk tU_ok (T := 47) rfl (by kernel_rfl) fun x y => by
  show some (decide (x.Grass = y.Grass) && (decide (x.Grows = y.Grows) && (decide (x.Most = y.Most) && (true)))) = _
  cases x; cases y
  congr 1
  rw [Bool.eq_iff_iff]
  simp
theorem hb4 : hasBody Try.prog 4 := hasBody.mk Try.func4 rfl (by kernel_rfl)
theorem hb5 : hasBody Try.prog 5 := hasBody.mk Try.func5 rfl (by kernel_rfl)
theorem hb6 : hasBody Try.prog 6 := hasBody.mk Try.func6 rfl (by kernel_rfl)
theorem hb7 : hasBody Try.prog 7 := hasBody.mk Try.func7 rfl (by kernel_rfl)
theorem hb8 : hasBody Try.prog 8 := hasBody.mk Try.func8 rfl (by kernel_rfl)
theorem hb9 : hasBody Try.prog 9 := hasBody.mk Try.func9 rfl (by kernel_rfl)
theorem hb10 : hasBody Try.prog 10 := hasBody.mk Try.func10 rfl (by kernel_rfl)
theorem hb11 : hasBody Try.prog 11 := hasBody.mk Try.func11 rfl (by kernel_rfl)
theorem hb12 : hasBody Try.prog 12 := hasBody.mk Try.func12 rfl (by kernel_rfl)
theorem hb13 : hasBody Try.prog 13 := hasBody.mk Try.func13 rfl (by kernel_rfl)
theorem hb14 : hasBody Try.prog 14 := hasBody.mk Try.func14 rfl (by kernel_rfl)
theorem hb15 : hasBody Try.prog 15 := hasBody.mk Try.func15 rfl (by kernel_rfl)
theorem hb16 : hasBody Try.prog 16 := hasBody.mk Try.func16 rfl (by kernel_rfl)
theorem hb17 : hasBody Try.prog 17 := hasBody.mk Try.func17 rfl (by kernel_rfl)
theorem hb18 : hasBody Try.prog 18 := hasBody.mk Try.func18 rfl (by kernel_rfl)
theorem hb19 : hasBody Try.prog 19 := hasBody.mk Try.func19 rfl (by kernel_rfl)
theorem hb20 : hasBody Try.prog 20 := hasBody.mk Try.func20 rfl (by kernel_rfl)
theorem hb21 : hasBody Try.prog 21 := hasBody.mk Try.func21 rfl (by kernel_rfl)
theorem hb22 : hasBody Try.prog 22 := hasBody.mk Try.func22 rfl (by kernel_rfl)
theorem hb23 : hasBody Try.prog 23 := hasBody.mk Try.func23 rfl (by kernel_rfl)
theorem hb24 : hasBody Try.prog 24 := hasBody.mk Try.func24 rfl (by kernel_rfl)
theorem hb25 : hasBody Try.prog 25 := hasBody.mk Try.func25 rfl (by kernel_rfl)
theorem hb26 : hasBody Try.prog 26 := hasBody.mk Try.func26 rfl (by kernel_rfl)
theorem hb27 : hasBody Try.prog 27 := hasBody.mk Try.func27 rfl (by kernel_rfl)
theorem hb28 : hasBody Try.prog 28 := hasBody.mk Try.func28 rfl (by kernel_rfl)
theorem hb29 : hasBody Try.prog 29 := hasBody.mk Try.func29 rfl (by kernel_rfl)
theorem hb30 : hasBody Try.prog 30 := hasBody.mk Try.func30 rfl (by kernel_rfl)
theorem hb31 : hasBody Try.prog 31 := hasBody.mk Try.func31 rfl (by kernel_rfl)
theorem hb32 : hasBody Try.prog 32 := hasBody.mk Try.func32 rfl (by kernel_rfl)
theorem hb33 : hasBody Try.prog 33 := hasBody.mk Try.func33 rfl (by kernel_rfl)
theorem hb34 : hasBody Try.prog 34 := hasBody.mk Try.func34 rfl (by kernel_rfl)
theorem hb35 : hasBody Try.prog 35 := hasBody.mk Try.func35 rfl (by kernel_rfl)
theorem hb36 : hasBody Try.prog 36 := hasBody.mk Try.func36 rfl (by kernel_rfl)
theorem hb37 : hasBody Try.prog 37 := hasBody.mk Try.func37 rfl (by kernel_rfl)
theorem hb38 : hasBody Try.prog 38 := hasBody.mk Try.func38 rfl (by kernel_rfl)
theorem hb39 : hasBody Try.prog 39 := hasBody.mk Try.func39 rfl (by kernel_rfl)
theorem hb40 : hasBody Try.prog 40 := hasBody.mk Try.func40 rfl (by kernel_rfl)
theorem hb41 : hasBody Try.prog 41 := hasBody.mk Try.func41 rfl (by kernel_rfl)
theorem hb42 : hasBody Try.prog 42 := hasBody.mk Try.func42 rfl (by kernel_rfl)
theorem hb43 : hasBody Try.prog 43 := hasBody.mk Try.func43 rfl (by kernel_rfl)
theorem hb44 : hasBody Try.prog 44 := hasBody.mk Try.func44 rfl (by kernel_rfl)
theorem hb45 : hasBody Try.prog 45 := hasBody.mk Try.func45 rfl (by kernel_rfl)
theorem hb46 : hasBody Try.prog 46 := hasBody.mk Try.func46 rfl (by kernel_rfl)
theorem hb47 : hasBody Try.prog 47 := hasBody.mk Try.func47 rfl (by kernel_rfl)
theorem hb48 : hasBody Try.prog 48 := hasBody.mk Try.func48 rfl (by kernel_rfl)
theorem hb49 : hasBody Try.prog 49 := hasBody.mk Try.func49 rfl (by kernel_rfl)
theorem hb50 : hasBody Try.prog 50 := hasBody.mk Try.func50 rfl (by kernel_rfl)
theorem hb51 : hasBody Try.prog 51 := hasBody.mk Try.func51 rfl (by kernel_rfl)
theorem hb52 : hasBody Try.prog 52 := hasBody.mk Try.func52 rfl (by kernel_rfl)
theorem hb53 : hasBody Try.prog 53 := hasBody.mk Try.func53 rfl (by kernel_rfl)
theorem hb54 : hasBody Try.prog 54 := hasBody.mk Try.func54 rfl (by kernel_rfl)
theorem hb55 : hasBody Try.prog 55 := hasBody.mk Try.func55 rfl (by kernel_rfl)
theorem hb56 : hasBody Try.prog 56 := hasBody.mk Try.func56 rfl (by kernel_rfl)
theorem hb57 : hasBody Try.prog 57 := hasBody.mk Try.func57 rfl (by kernel_rfl)
theorem hb58 : hasBody Try.prog 58 := hasBody.mk Try.func58 rfl (by kernel_rfl)
theorem hb59 : hasBody Try.prog 59 := hasBody.mk Try.func59 rfl (by kernel_rfl)
theorem hb60 : hasBody Try.prog 60 := hasBody.mk Try.func60 rfl (by kernel_rfl)
theorem hb61 : hasBody Try.prog 61 := hasBody.mk Try.func61 rfl (by kernel_rfl)
theorem hb62 : hasBody Try.prog 62 := hasBody.mk Try.func62 rfl (by kernel_rfl)
theorem hb63 : hasBody Try.prog 63 := hasBody.mk Try.func63 rfl (by kernel_rfl)
theorem hb64 : hasBody Try.prog 64 := hasBody.mk Try.func64 rfl (by kernel_rfl)
theorem hb65 : hasBody Try.prog 65 := hasBody.mk Try.func65 rfl (by kernel_rfl)
theorem hb66 : hasBody Try.prog 66 := hasBody.mk Try.func66 rfl (by kernel_rfl)
end Go.Proofs.Ytnjeddecmccdcaa
