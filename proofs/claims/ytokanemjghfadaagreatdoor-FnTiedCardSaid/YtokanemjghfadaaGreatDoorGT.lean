/-
  Tables of types, data and names for this seat's program.
-/
import Derived.Test.YtokanemjghfadaaGreatDoorGY
import Derived.Test.YtokanemjghfadaaGreatDoorGW
import Derived.Test.YtokanemjghfadaaGreatDoorGQ
import Derived.Test.YtokanemjghfadaaGreatDoorGU
import Derived.Test.YtokanemjghfadaaGreatDoorGV
import Derived.Test.YtokanemjghfadaaGreatDoorGI
import Derived.Test.YtokanemjghfadaaGreatDoorHL
import Derived.Test.YtokanemjghfadaaGreatDoorSh
import Derived.Test.YtokanemjghfadaaGreatDoorProg
namespace Go.Proofs.YtokanemjghfadaaGreatDoor
open G
set_option linter.unusedVariables false
set_option linter.unusedSimpArgs false
set_option maxRecDepth 100000
set_option maxHeartbeats 4000000
theorem Z {α : Sort _} {a : α} : a = a := rfl
structure Pasture where
  Wide : Int
  High : Int
  Grass : Arr 10 (Arr 10 Int)
  East : Arr 10 Int
  South : Arr 10 Int
deriving DecidableEq
def cPasture : Cd Pasture := ⟨122, fun x => (ci .i8).enc x.Wide ++ ((ci .i8).enc x.High ++ ((carr 10 (carr 10 (ci .i16))).enc x.Grass ++ ((carr 10 (ci .u16)).enc x.East ++ ((carr 10 (ci .u16)).enc x.South)))), fun x => by simp only [List.length_append, Cd.len]; rfl, fun x u hu => by
  simp only [List.mem_append] at hu
  rcases hu with hu | hu | hu | hu | hu <;> exact Cd.one _ _ _ (by assumption)⟩
def pre_Pasture_0 (x : Pasture) : List Value := []
def post_Pasture_0 (x : Pasture) : List Value := (ci .i8).enc x.High ++ ((carr 10 (carr 10 (ci .i16))).enc x.Grass ++ ((carr 10 (ci .u16)).enc x.East ++ ((carr 10 (ci .u16)).enc x.South)))
theorem fe_Pasture_0 (x : Pasture) : cPasture.enc x = pre_Pasture_0 x ++ ((ci .i8).enc x.Wide ++ post_Pasture_0 x) := by first | rfl | simp only [cPasture, pre_Pasture_0, post_Pasture_0, List.append_assoc, List.nil_append, List.append_nil] | (simp only [cPasture, pre_Pasture_0, post_Pasture_0, List.append_assoc, List.nil_append, List.append_nil]; rfl)
theorem fl_Pasture_0 (x : Pasture) : (pre_Pasture_0 x).length = 0 := by first | rfl | (simp only [pre_Pasture_0, List.length_append, Cd.len]; rfl)
def pre_Pasture_1 (x : Pasture) : List Value := (ci .i8).enc x.Wide
def post_Pasture_1 (x : Pasture) : List Value := (carr 10 (carr 10 (ci .i16))).enc x.Grass ++ ((carr 10 (ci .u16)).enc x.East ++ ((carr 10 (ci .u16)).enc x.South))
theorem fe_Pasture_1 (x : Pasture) : cPasture.enc x = pre_Pasture_1 x ++ ((ci .i8).enc x.High ++ post_Pasture_1 x) := by first | rfl | simp only [cPasture, pre_Pasture_1, post_Pasture_1, List.append_assoc, List.nil_append, List.append_nil] | (simp only [cPasture, pre_Pasture_1, post_Pasture_1, List.append_assoc, List.nil_append, List.append_nil]; rfl)
theorem fl_Pasture_1 (x : Pasture) : (pre_Pasture_1 x).length = 1 := by first | rfl | (simp only [pre_Pasture_1, List.length_append, Cd.len]; rfl)
theorem put_Pasture_1 {x : Pasture} {f' : Int} {off : Nat} {vs : List Value} (h : Put (ci .i8) x.High off vs f') : Put cPasture x (1 + off) vs (⟨x.Wide, f', x.Grass, x.East, x.South⟩ : Pasture) := Put.fld h (fl_Pasture_1 x) (Nat.le_of_ble_eq_true rfl) (fe_Pasture_1 x) (fe_Pasture_1 (⟨x.Wide, f', x.Grass, x.East, x.South⟩ : Pasture))
def pre_Pasture_2 (x : Pasture) : List Value := (ci .i8).enc x.Wide ++ (ci .i8).enc x.High
def post_Pasture_2 (x : Pasture) : List Value := (carr 10 (ci .u16)).enc x.East ++ ((carr 10 (ci .u16)).enc x.South)
theorem fe_Pasture_2 (x : Pasture) : cPasture.enc x = pre_Pasture_2 x ++ ((carr 10 (carr 10 (ci .i16))).enc x.Grass ++ post_Pasture_2 x) := by first | rfl | simp only [cPasture, pre_Pasture_2, post_Pasture_2, List.append_assoc, List.nil_append, List.append_nil] | (simp only [cPasture, pre_Pasture_2, post_Pasture_2, List.append_assoc, List.nil_append, List.append_nil]; rfl)
theorem fl_Pasture_2 (x : Pasture) : (pre_Pasture_2 x).length = 2 := by first | rfl | (simp only [pre_Pasture_2, List.length_append, Cd.len]; rfl)
theorem put_Pasture_2 {x : Pasture} {f' : Arr 10 (Arr 10 Int)} {off : Nat} {vs : List Value} (h : Put (carr 10 (carr 10 (ci .i16))) x.Grass off vs f') : Put cPasture x (2 + off) vs (⟨x.Wide, x.High, f', x.East, x.South⟩ : Pasture) := Put.fld h (fl_Pasture_2 x) (Nat.le_of_ble_eq_true rfl) (fe_Pasture_2 x) (fe_Pasture_2 (⟨x.Wide, x.High, f', x.East, x.South⟩ : Pasture))
def pre_Pasture_3 (x : Pasture) : List Value := (ci .i8).enc x.Wide ++ (ci .i8).enc x.High ++ (carr 10 (carr 10 (ci .i16))).enc x.Grass
def post_Pasture_3 (x : Pasture) : List Value := (carr 10 (ci .u16)).enc x.South
theorem fe_Pasture_3 (x : Pasture) : cPasture.enc x = pre_Pasture_3 x ++ ((carr 10 (ci .u16)).enc x.East ++ post_Pasture_3 x) := by first | rfl | simp only [cPasture, pre_Pasture_3, post_Pasture_3, List.append_assoc, List.nil_append, List.append_nil] | (simp only [cPasture, pre_Pasture_3, post_Pasture_3, List.append_assoc, List.nil_append, List.append_nil]; rfl)
theorem fl_Pasture_3 (x : Pasture) : (pre_Pasture_3 x).length = 102 := by first | rfl | (simp only [pre_Pasture_3, List.length_append, Cd.len]; rfl)
theorem put_Pasture_3 {x : Pasture} {f' : Arr 10 Int} {off : Nat} {vs : List Value} (h : Put (carr 10 (ci .u16)) x.East off vs f') : Put cPasture x (102 + off) vs (⟨x.Wide, x.High, x.Grass, f', x.South⟩ : Pasture) := Put.fld h (fl_Pasture_3 x) (Nat.le_of_ble_eq_true rfl) (fe_Pasture_3 x) (fe_Pasture_3 (⟨x.Wide, x.High, x.Grass, f', x.South⟩ : Pasture))
def pre_Pasture_4 (x : Pasture) : List Value := (ci .i8).enc x.Wide ++ (ci .i8).enc x.High ++ (carr 10 (carr 10 (ci .i16))).enc x.Grass ++ (carr 10 (ci .u16)).enc x.East
def post_Pasture_4 (x : Pasture) : List Value := []
theorem fe_Pasture_4 (x : Pasture) : cPasture.enc x = pre_Pasture_4 x ++ ((carr 10 (ci .u16)).enc x.South ++ post_Pasture_4 x) := by first | rfl | simp only [cPasture, pre_Pasture_4, post_Pasture_4, List.append_assoc, List.nil_append, List.append_nil] | (simp only [cPasture, pre_Pasture_4, post_Pasture_4, List.append_assoc, List.nil_append, List.append_nil]; rfl)
theorem fl_Pasture_4 (x : Pasture) : (pre_Pasture_4 x).length = 112 := by first | rfl | (simp only [pre_Pasture_4, List.length_append, Cd.len]; rfl)
theorem put_Pasture_4 {x : Pasture} {f' : Arr 10 Int} {off : Nat} {vs : List Value} (h : Put (carr 10 (ci .u16)) x.South off vs f') : Put cPasture x (112 + off) vs (⟨x.Wide, x.High, x.Grass, x.East, f'⟩ : Pasture) := Put.fld h (fl_Pasture_4 x) (Nat.le_of_ble_eq_true rfl) (fe_Pasture_4 x) (fe_Pasture_4 (⟨x.Wide, x.High, x.Grass, x.East, f'⟩ : Pasture))
structure l00Src where
  code : List Int
  at_ : Int
  seed : Int
deriving DecidableEq
structure Spot where
  X : Int
  Y : Int
deriving DecidableEq
def cSpot : Cd Spot := ⟨2, fun x => [.int .i8 x.X, .int .i8 x.Y], fun _ => rfl, fun x u hu => by
  simp only [List.mem_cons, List.not_mem_nil, or_false] at hu
  rcases hu with rfl | rfl <;> rfl⟩
def pre_Spot_0 (x : Spot) : List Value := []
def post_Spot_0 (x : Spot) : List Value := (ci .i8).enc x.Y
theorem fe_Spot_0 (x : Spot) : cSpot.enc x = pre_Spot_0 x ++ ((ci .i8).enc x.X ++ post_Spot_0 x) := by first | rfl | simp only [cSpot, pre_Spot_0, post_Spot_0, List.append_assoc, List.nil_append, List.append_nil] | (simp only [cSpot, pre_Spot_0, post_Spot_0, List.append_assoc, List.nil_append, List.append_nil]; rfl)
theorem fl_Spot_0 (x : Spot) : (pre_Spot_0 x).length = 0 := by first | rfl | (simp only [pre_Spot_0, List.length_append, Cd.len]; rfl)
def pre_Spot_1 (x : Spot) : List Value := (ci .i8).enc x.X
def post_Spot_1 (x : Spot) : List Value := []
theorem fe_Spot_1 (x : Spot) : cSpot.enc x = pre_Spot_1 x ++ ((ci .i8).enc x.Y ++ post_Spot_1 x) := by first | rfl | simp only [cSpot, pre_Spot_1, post_Spot_1, List.append_assoc, List.nil_append, List.append_nil] | (simp only [cSpot, pre_Spot_1, post_Spot_1, List.append_assoc, List.nil_append, List.append_nil]; rfl)
theorem fl_Spot_1 (x : Spot) : (pre_Spot_1 x).length = 1 := by first | rfl | (simp only [pre_Spot_1, List.length_append, Cd.len]; rfl)
structure Goat where
  At : Spot
  Stake : Spot
  Rope : Int
  Eats : Int
  Likes : Int
deriving DecidableEq
def cGoat : Cd Goat := ⟨7, fun x => [.int .i8 x.At.X, .int .i8 x.At.Y, .int .i8 x.Stake.X, .int .i8 x.Stake.Y, .int .i16 x.Rope, .int .i16 x.Eats, .int .i8 x.Likes], fun _ => rfl, fun x u hu => by
  simp only [List.mem_cons, List.not_mem_nil, or_false] at hu
  rcases hu with rfl | rfl | rfl | rfl | rfl | rfl | rfl <;> rfl⟩
def pre_Goat_0 (x : Goat) : List Value := []
def post_Goat_0 (x : Goat) : List Value := cSpot.enc x.Stake ++ ((ci .i16).enc x.Rope ++ ((ci .i16).enc x.Eats ++ ((ci .i8).enc x.Likes)))
theorem fe_Goat_0 (x : Goat) : cGoat.enc x = pre_Goat_0 x ++ (cSpot.enc x.At ++ post_Goat_0 x) := by first | rfl | simp only [cGoat, pre_Goat_0, post_Goat_0, List.append_assoc, List.nil_append, List.append_nil] | (simp only [cGoat, pre_Goat_0, post_Goat_0, List.append_assoc, List.nil_append, List.append_nil]; rfl)
theorem fl_Goat_0 (x : Goat) : (pre_Goat_0 x).length = 0 := by first | rfl | (simp only [pre_Goat_0, List.length_append, Cd.len]; rfl)
def pre_Goat_1 (x : Goat) : List Value := cSpot.enc x.At
def post_Goat_1 (x : Goat) : List Value := (ci .i16).enc x.Rope ++ ((ci .i16).enc x.Eats ++ ((ci .i8).enc x.Likes))
theorem fe_Goat_1 (x : Goat) : cGoat.enc x = pre_Goat_1 x ++ (cSpot.enc x.Stake ++ post_Goat_1 x) := by first | rfl | simp only [cGoat, pre_Goat_1, post_Goat_1, List.append_assoc, List.nil_append, List.append_nil] | (simp only [cGoat, pre_Goat_1, post_Goat_1, List.append_assoc, List.nil_append, List.append_nil]; rfl)
theorem fl_Goat_1 (x : Goat) : (pre_Goat_1 x).length = 2 := by first | rfl | (simp only [pre_Goat_1, List.length_append, Cd.len]; rfl)
def pre_Goat_2 (x : Goat) : List Value := cSpot.enc x.At ++ cSpot.enc x.Stake
def post_Goat_2 (x : Goat) : List Value := (ci .i16).enc x.Eats ++ ((ci .i8).enc x.Likes)
theorem fe_Goat_2 (x : Goat) : cGoat.enc x = pre_Goat_2 x ++ ((ci .i16).enc x.Rope ++ post_Goat_2 x) := by first | rfl | simp only [cGoat, pre_Goat_2, post_Goat_2, List.append_assoc, List.nil_append, List.append_nil] | (simp only [cGoat, pre_Goat_2, post_Goat_2, List.append_assoc, List.nil_append, List.append_nil]; rfl)
theorem fl_Goat_2 (x : Goat) : (pre_Goat_2 x).length = 4 := by first | rfl | (simp only [pre_Goat_2, List.length_append, Cd.len]; rfl)
def pre_Goat_3 (x : Goat) : List Value := cSpot.enc x.At ++ cSpot.enc x.Stake ++ (ci .i16).enc x.Rope
def post_Goat_3 (x : Goat) : List Value := (ci .i8).enc x.Likes
theorem fe_Goat_3 (x : Goat) : cGoat.enc x = pre_Goat_3 x ++ ((ci .i16).enc x.Eats ++ post_Goat_3 x) := by first | rfl | simp only [cGoat, pre_Goat_3, post_Goat_3, List.append_assoc, List.nil_append, List.append_nil] | (simp only [cGoat, pre_Goat_3, post_Goat_3, List.append_assoc, List.nil_append, List.append_nil]; rfl)
theorem fl_Goat_3 (x : Goat) : (pre_Goat_3 x).length = 5 := by first | rfl | (simp only [pre_Goat_3, List.length_append, Cd.len]; rfl)
def pre_Goat_4 (x : Goat) : List Value := cSpot.enc x.At ++ cSpot.enc x.Stake ++ (ci .i16).enc x.Rope ++ (ci .i16).enc x.Eats
def post_Goat_4 (x : Goat) : List Value := []
theorem fe_Goat_4 (x : Goat) : cGoat.enc x = pre_Goat_4 x ++ ((ci .i8).enc x.Likes ++ post_Goat_4 x) := by first | rfl | simp only [cGoat, pre_Goat_4, post_Goat_4, List.append_assoc, List.nil_append, List.append_nil] | (simp only [cGoat, pre_Goat_4, post_Goat_4, List.append_assoc, List.nil_append, List.append_nil]; rfl)
theorem fl_Goat_4 (x : Goat) : (pre_Goat_4 x).length = 6 := by first | rfl | (simp only [pre_Goat_4, List.length_append, Cd.len]; rfl)
structure Hurdle where
  At : Spot
  South : Bool
deriving DecidableEq
def cHurdle : Cd Hurdle := ⟨3, fun x => [.int .i8 x.At.X, .int .i8 x.At.Y, .bool x.South], fun _ => rfl, fun x u hu => by
  simp only [List.mem_cons, List.not_mem_nil, or_false] at hu
  rcases hu with rfl | rfl | rfl <;> rfl⟩
def tU : List (Nat × TypeDesc) := [(2, .int .i64), (3, .int .i64), (4, .bool), (5, .int .u8), (9, .string), (22, .slice 5), (24, .int .i8), (25, .int .i16), (26, .array 10 25), (27, .array 10 26), (28, .int .u16), (29, .array 10 28), (31, .struct #[{ name := "Wide", type := 24, offset := 0, embedded := false, tag := "", pkgPath := "", byteOffset := 0 }, { name := "High", type := 24, offset := 1, embedded := false, tag := "", pkgPath := "", byteOffset := 1 }, { name := "Grass", type := 27, offset := 2, embedded := false, tag := "", pkgPath := "", byteOffset := 2 }, { name := "East", type := 29, offset := 102, embedded := false, tag := "", pkgPath := "", byteOffset := 202 }, { name := "South", type := 29, offset := 112, embedded := false, tag := "", pkgPath := "", byteOffset := 222 }]), (33, .slice 50), (38, .slice 101), (41, .slice 48), (48, .struct #[{ name := "X", type := 24, offset := 0, embedded := false, tag := "", pkgPath := "", byteOffset := 0 }, { name := "Y", type := 24, offset := 1, embedded := false, tag := "", pkgPath := "", byteOffset := 1 }]), (50, .struct #[{ name := "At", type := 48, offset := 0, embedded := false, tag := "", pkgPath := "", byteOffset := 0 }, { name := "Stake", type := 48, offset := 2, embedded := false, tag := "", pkgPath := "", byteOffset := 2 }, { name := "Rope", type := 25, offset := 4, embedded := false, tag := "", pkgPath := "", byteOffset := 4 }, { name := "Eats", type := 25, offset := 5, embedded := false, tag := "", pkgPath := "", byteOffset := 6 }, { name := "Likes", type := 24, offset := 6, embedded := false, tag := "", pkgPath := "", byteOffset := 8 }]), (54, .slice 2), (71, .func #[133] #[] false), (75, .slice 9), (81, .pointer 83), (83, .struct #[{ name := "addr", type := 81, offset := 0, embedded := false, tag := "", pkgPath := "strings", byteOffset := 0 }, { name := "buf", type := 22, offset := 1, embedded := false, tag := "", pkgPath := "strings", byteOffset := 8 }]), (92, .slice 41), (96, .array 10 4), (97, .array 10 96), (101, .array 2 2), (114, .array 10 26), (118, .array 10 2), (119, .array 10 118), (126, .int .u64), (128, .struct #[{ name := "code", type := 22, offset := 0, embedded := false, tag := "", pkgPath := "loop.example/g01345/spec", byteOffset := 0 }, { name := "at", type := 3, offset := 1, embedded := false, tag := "", pkgPath := "loop.example/g01345/spec", byteOffset := 24 }, { name := "seed", type := 126, offset := 2, embedded := false, tag := "", pkgPath := "loop.example/g01345/spec", byteOffset := 32 }]), (157, .int .u64), (169, .struct #[{ name := "At", type := 48, offset := 0, embedded := false, tag := "", pkgPath := "", byteOffset := 0 }, { name := "South", type := 4, offset := 2, embedded := false, tag := "", pkgPath := "", byteOffset := 2 }])]
theorem oU : okU Tryz.prog tU := ⟨by kernel_rfl, by kernel_rfl, by kernel_rfl, by kernel_rfl, by kernel_rfl, by kernel_rfl, by kernel_rfl, by kernel_rfl, by kernel_rfl, by kernel_rfl, by kernel_rfl, by kernel_rfl, by kernel_rfl, by kernel_rfl, by kernel_rfl, by kernel_rfl, by kernel_rfl, by kernel_rfl, by kernel_rfl, by kernel_rfl, by kernel_rfl, by kernel_rfl, by kernel_rfl, by kernel_rfl, by kernel_rfl, by kernel_rfl, by kernel_rfl, by kernel_rfl, by kernel_rfl, by kernel_rfl, by kernel_rfl, by kernel_rfl, by kernel_rfl, by kernel_rfl, trivial⟩
def tI : List (Nat × TI) := [(2, ⟨1, 8, .int .i64 0⟩), (3, ⟨1, 8, .int .i64 0⟩), (4, ⟨1, 1, .bool false⟩), (5, ⟨1, 1, .int .u8 0⟩), (9, ⟨1, 16, .string ByteArray.empty⟩), (22, ⟨1, 24, .slice none 0 0⟩), (24, ⟨1, 1, .int .i8 0⟩), (25, ⟨1, 2, .int .i16 0⟩), (26, ⟨10, 20, .agg #[.int .i16 0, .int .i16 0, .int .i16 0, .int .i16 0, .int .i16 0, .int .i16 0, .int .i16 0, .int .i16 0, .int .i16 0, .int .i16 0]⟩), (27, ⟨100, 200, .agg #[.int .i16 0, .int .i16 0, .int .i16 0, .int .i16 0, .int .i16 0, .int .i16 0, .int .i16 0, .int .i16 0, .int .i16 0, .int .i16 0, .int .i16 0, .int .i16 0, .int .i16 0, .int .i16 0, .int .i16 0, .int .i16 0, .int .i16 0, .int .i16 0, .int .i16 0, .int .i16 0, .int .i16 0, .int .i16 0, .int .i16 0, .int .i16 0, .int .i16 0, .int .i16 0, .int .i16 0, .int .i16 0, .int .i16 0, .int .i16 0, .int .i16 0, .int .i16 0, .int .i16 0, .int .i16 0, .int .i16 0, .int .i16 0, .int .i16 0, .int .i16 0, .int .i16 0, .int .i16 0, .int .i16 0, .int .i16 0, .int .i16 0, .int .i16 0, .int .i16 0, .int .i16 0, .int .i16 0, .int .i16 0, .int .i16 0, .int .i16 0, .int .i16 0, .int .i16 0, .int .i16 0, .int .i16 0, .int .i16 0, .int .i16 0, .int .i16 0, .int .i16 0, .int .i16 0, .int .i16 0, .int .i16 0, .int .i16 0, .int .i16 0, .int .i16 0, .int .i16 0, .int .i16 0, .int .i16 0, .int .i16 0, .int .i16 0, .int .i16 0, .int .i16 0, .int .i16 0, .int .i16 0, .int .i16 0, .int .i16 0, .int .i16 0, .int .i16 0, .int .i16 0, .int .i16 0, .int .i16 0, .int .i16 0, .int .i16 0, .int .i16 0, .int .i16 0, .int .i16 0, .int .i16 0, .int .i16 0, .int .i16 0, .int .i16 0, .int .i16 0, .int .i16 0, .int .i16 0, .int .i16 0, .int .i16 0, .int .i16 0, .int .i16 0, .int .i16 0, .int .i16 0, .int .i16 0, .int .i16 0]⟩), (28, ⟨1, 2, .int .u16 0⟩), (29, ⟨10, 20, .agg #[.int .u16 0, .int .u16 0, .int .u16 0, .int .u16 0, .int .u16 0, .int .u16 0, .int .u16 0, .int .u16 0, .int .u16 0, .int .u16 0]⟩), (31, ⟨122, 242, .agg #[.int .i8 0, .int .i8 0, .int .i16 0, .int .i16 0, .int .i16 0, .int .i16 0, .int .i16 0, .int .i16 0, .int .i16 0, .int .i16 0, .int .i16 0, .int .i16 0, .int .i16 0, .int .i16 0, .int .i16 0, .int .i16 0, .int .i16 0, .int .i16 0, .int .i16 0, .int .i16 0, .int .i16 0, .int .i16 0, .int .i16 0, .int .i16 0, .int .i16 0, .int .i16 0, .int .i16 0, .int .i16 0, .int .i16 0, .int .i16 0, .int .i16 0, .int .i16 0, .int .i16 0, .int .i16 0, .int .i16 0, .int .i16 0, .int .i16 0, .int .i16 0, .int .i16 0, .int .i16 0, .int .i16 0, .int .i16 0, .int .i16 0, .int .i16 0, .int .i16 0, .int .i16 0, .int .i16 0, .int .i16 0, .int .i16 0, .int .i16 0, .int .i16 0, .int .i16 0, .int .i16 0, .int .i16 0, .int .i16 0, .int .i16 0, .int .i16 0, .int .i16 0, .int .i16 0, .int .i16 0, .int .i16 0, .int .i16 0, .int .i16 0, .int .i16 0, .int .i16 0, .int .i16 0, .int .i16 0, .int .i16 0, .int .i16 0, .int .i16 0, .int .i16 0, .int .i16 0, .int .i16 0, .int .i16 0, .int .i16 0, .int .i16 0, .int .i16 0, .int .i16 0, .int .i16 0, .int .i16 0, .int .i16 0, .int .i16 0, .int .i16 0, .int .i16 0, .int .i16 0, .int .i16 0, .int .i16 0, .int .i16 0, .int .i16 0, .int .i16 0, .int .i16 0, .int .i16 0, .int .i16 0, .int .i16 0, .int .i16 0, .int .i16 0, .int .i16 0, .int .i16 0, .int .i16 0, .int .i16 0, .int .i16 0, .int .i16 0, .int .u16 0, .int .u16 0, .int .u16 0, .int .u16 0, .int .u16 0, .int .u16 0, .int .u16 0, .int .u16 0, .int .u16 0, .int .u16 0, .int .u16 0, .int .u16 0, .int .u16 0, .int .u16 0, .int .u16 0, .int .u16 0, .int .u16 0, .int .u16 0, .int .u16 0, .int .u16 0]⟩), (33, ⟨1, 24, .slice none 0 0⟩), (41, ⟨1, 24, .slice none 0 0⟩), (48, ⟨2, 2, .agg #[.int .i8 0, .int .i8 0]⟩), (50, ⟨7, 10, .agg #[.int .i8 0, .int .i8 0, .int .i8 0, .int .i8 0, .int .i16 0, .int .i16 0, .int .i8 0]⟩), (81, ⟨1, 8, .pointer none⟩), (83, ⟨2, 32, .agg #[.pointer none, .slice none 0 0]⟩), (96, ⟨10, 10, .agg #[.bool false, .bool false, .bool false, .bool false, .bool false, .bool false, .bool false, .bool false, .bool false, .bool false]⟩), (97, ⟨100, 100, .agg #[.bool false, .bool false, .bool false, .bool false, .bool false, .bool false, .bool false, .bool false, .bool false, .bool false, .bool false, .bool false, .bool false, .bool false, .bool false, .bool false, .bool false, .bool false, .bool false, .bool false, .bool false, .bool false, .bool false, .bool false, .bool false, .bool false, .bool false, .bool false, .bool false, .bool false, .bool false, .bool false, .bool false, .bool false, .bool false, .bool false, .bool false, .bool false, .bool false, .bool false, .bool false, .bool false, .bool false, .bool false, .bool false, .bool false, .bool false, .bool false, .bool false, .bool false, .bool false, .bool false, .bool false, .bool false, .bool false, .bool false, .bool false, .bool false, .bool false, .bool false, .bool false, .bool false, .bool false, .bool false, .bool false, .bool false, .bool false, .bool false, .bool false, .bool false, .bool false, .bool false, .bool false, .bool false, .bool false, .bool false, .bool false, .bool false, .bool false, .bool false, .bool false, .bool false, .bool false, .bool false, .bool false, .bool false, .bool false, .bool false, .bool false, .bool false, .bool false, .bool false, .bool false, .bool false, .bool false, .bool false, .bool false, .bool false, .bool false, .bool false]⟩), (101, ⟨2, 16, .agg #[.int .i64 0, .int .i64 0]⟩), (114, ⟨100, 200, .agg #[.int .i16 0, .int .i16 0, .int .i16 0, .int .i16 0, .int .i16 0, .int .i16 0, .int .i16 0, .int .i16 0, .int .i16 0, .int .i16 0, .int .i16 0, .int .i16 0, .int .i16 0, .int .i16 0, .int .i16 0, .int .i16 0, .int .i16 0, .int .i16 0, .int .i16 0, .int .i16 0, .int .i16 0, .int .i16 0, .int .i16 0, .int .i16 0, .int .i16 0, .int .i16 0, .int .i16 0, .int .i16 0, .int .i16 0, .int .i16 0, .int .i16 0, .int .i16 0, .int .i16 0, .int .i16 0, .int .i16 0, .int .i16 0, .int .i16 0, .int .i16 0, .int .i16 0, .int .i16 0, .int .i16 0, .int .i16 0, .int .i16 0, .int .i16 0, .int .i16 0, .int .i16 0, .int .i16 0, .int .i16 0, .int .i16 0, .int .i16 0, .int .i16 0, .int .i16 0, .int .i16 0, .int .i16 0, .int .i16 0, .int .i16 0, .int .i16 0, .int .i16 0, .int .i16 0, .int .i16 0, .int .i16 0, .int .i16 0, .int .i16 0, .int .i16 0, .int .i16 0, .int .i16 0, .int .i16 0, .int .i16 0, .int .i16 0, .int .i16 0, .int .i16 0, .int .i16 0, .int .i16 0, .int .i16 0, .int .i16 0, .int .i16 0, .int .i16 0, .int .i16 0, .int .i16 0, .int .i16 0, .int .i16 0, .int .i16 0, .int .i16 0, .int .i16 0, .int .i16 0, .int .i16 0, .int .i16 0, .int .i16 0, .int .i16 0, .int .i16 0, .int .i16 0, .int .i16 0, .int .i16 0, .int .i16 0, .int .i16 0, .int .i16 0, .int .i16 0, .int .i16 0, .int .i16 0, .int .i16 0]⟩), (118, ⟨10, 80, .agg #[.int .i64 0, .int .i64 0, .int .i64 0, .int .i64 0, .int .i64 0, .int .i64 0, .int .i64 0, .int .i64 0, .int .i64 0, .int .i64 0]⟩), (119, ⟨100, 800, .agg #[.int .i64 0, .int .i64 0, .int .i64 0, .int .i64 0, .int .i64 0, .int .i64 0, .int .i64 0, .int .i64 0, .int .i64 0, .int .i64 0, .int .i64 0, .int .i64 0, .int .i64 0, .int .i64 0, .int .i64 0, .int .i64 0, .int .i64 0, .int .i64 0, .int .i64 0, .int .i64 0, .int .i64 0, .int .i64 0, .int .i64 0, .int .i64 0, .int .i64 0, .int .i64 0, .int .i64 0, .int .i64 0, .int .i64 0, .int .i64 0, .int .i64 0, .int .i64 0, .int .i64 0, .int .i64 0, .int .i64 0, .int .i64 0, .int .i64 0, .int .i64 0, .int .i64 0, .int .i64 0, .int .i64 0, .int .i64 0, .int .i64 0, .int .i64 0, .int .i64 0, .int .i64 0, .int .i64 0, .int .i64 0, .int .i64 0, .int .i64 0, .int .i64 0, .int .i64 0, .int .i64 0, .int .i64 0, .int .i64 0, .int .i64 0, .int .i64 0, .int .i64 0, .int .i64 0, .int .i64 0, .int .i64 0, .int .i64 0, .int .i64 0, .int .i64 0, .int .i64 0, .int .i64 0, .int .i64 0, .int .i64 0, .int .i64 0, .int .i64 0, .int .i64 0, .int .i64 0, .int .i64 0, .int .i64 0, .int .i64 0, .int .i64 0, .int .i64 0, .int .i64 0, .int .i64 0, .int .i64 0, .int .i64 0, .int .i64 0, .int .i64 0, .int .i64 0, .int .i64 0, .int .i64 0, .int .i64 0, .int .i64 0, .int .i64 0, .int .i64 0, .int .i64 0, .int .i64 0, .int .i64 0, .int .i64 0, .int .i64 0, .int .i64 0, .int .i64 0, .int .i64 0, .int .i64 0, .int .i64 0]⟩), (126, ⟨1, 8, .int .u64 0⟩), (128, ⟨3, 40, .agg #[.slice none 0 0, .int .i64 0, .int .u64 0]⟩), (169, ⟨3, 3, .agg #[.int .i8 0, .int .i8 0, .bool false]⟩)]
theorem oI : okI Tryz.prog tI := ⟨by kernel_rfl, by kernel_rfl, by kernel_rfl, by kernel_rfl, by kernel_rfl, by kernel_rfl, by kernel_rfl, by kernel_rfl, by kernel_rfl, by kernel_rfl, by kernel_rfl, by kernel_rfl, by kernel_rfl, by kernel_rfl, by kernel_rfl, by kernel_rfl, by kernel_rfl, by kernel_rfl, by kernel_rfl, by kernel_rfl, by kernel_rfl, by kernel_rfl, by kernel_rfl, by kernel_rfl, by kernel_rfl, by kernel_rfl, by kernel_rfl, by kernel_rfl, trivial⟩
theorem mixed : Tryz.prog.follows .mixedOrders = true := by kernel_rfl
theorem eqG48 : Tryz.prog.eqGuardType Tryz.prog.depth 48 = false := by kernel_rfl
theorem eqT48 : EqT Tryz.prog 48 cSpot fun z => .agg (cSpot.enc z).toArray := EqT.mk oU (T := 48) rfl (by kernel_rfl) fun x y => by
  show some (decide (x.X = y.X) && (decide (x.Y = y.Y) && (true))) = _
  cases x; cases y
  congr 1
  rw [Bool.eq_iff_iff]
  simp
theorem eqG50 : Tryz.prog.eqGuardType Tryz.prog.depth 50 = false := by kernel_rfl
theorem eqD48 : EqD 2 Tryz.prog 48 fun z : Spot => .agg (cSpot.enc z).toArray := EqD.struct (fs := #[{ name := "X", type := 24, offset := 0, embedded := false, tag := "", pkgPath := "", byteOffset := 0 }, { name := "Y", type := 24, offset := 1, embedded := false, tag := "", pkgPath := "", byteOffset := 1 }]) (by kernel_rfl) (by kernel_rfl) fun d x y => EqF.to (EqF.cons (n := 1) (k := d + 0) (a := x.X) (b := y.X) (by decide) (fld_leaf (dd := .int .i8) (by kernel_rfl) rfl (fe_Spot_0 x) (fl_Spot_0 x)) (fld_leaf (dd := .int .i8) (by kernel_rfl) rfl (fe_Spot_0 y) (fl_Spot_0 y)) (EqD.int (k := .i8) (by kernel_rfl)) (by omega) (EqF.cons (n := 1) (k := d + 0) (a := x.Y) (b := y.Y) (by decide) (fld_leaf (dd := .int .i8) (by kernel_rfl) rfl (fe_Spot_1 x) (fl_Spot_1 x)) (fld_leaf (dd := .int .i8) (by kernel_rfl) rfl (fe_Spot_1 y) (fl_Spot_1 y)) (EqD.int (k := .i8) (by kernel_rfl)) (by omega) (EqF.nil))) (by cases x; cases y; rw [Bool.eq_iff_iff]; simp)
theorem eqD50 : EqD 3 Tryz.prog 50 fun z : Goat => .agg (cGoat.enc z).toArray := EqD.struct (fs := #[{ name := "At", type := 48, offset := 0, embedded := false, tag := "", pkgPath := "", byteOffset := 0 }, { name := "Stake", type := 48, offset := 2, embedded := false, tag := "", pkgPath := "", byteOffset := 2 }, { name := "Rope", type := 25, offset := 4, embedded := false, tag := "", pkgPath := "", byteOffset := 4 }, { name := "Eats", type := 25, offset := 5, embedded := false, tag := "", pkgPath := "", byteOffset := 6 }, { name := "Likes", type := 24, offset := 6, embedded := false, tag := "", pkgPath := "", byteOffset := 8 }]) (by kernel_rfl) (by kernel_rfl) fun d x y => EqF.to (EqF.cons (n := 2) (k := d + 0) (a := x.At) (b := y.At) (by decide) (fld_agg (dd := .struct #[{ name := "X", type := 24, offset := 0, embedded := false, tag := "", pkgPath := "", byteOffset := 0 }, { name := "Y", type := 24, offset := 1, embedded := false, tag := "", pkgPath := "", byteOffset := 1 }]) (by kernel_rfl) rfl (n := 2) (by kernel_rfl) (fe_Goat_0 x) (fl_Goat_0 x) (cSpot.len _)) (fld_agg (dd := .struct #[{ name := "X", type := 24, offset := 0, embedded := false, tag := "", pkgPath := "", byteOffset := 0 }, { name := "Y", type := 24, offset := 1, embedded := false, tag := "", pkgPath := "", byteOffset := 1 }]) (by kernel_rfl) rfl (n := 2) (by kernel_rfl) (fe_Goat_0 y) (fl_Goat_0 y) (cSpot.len _)) eqD48 (by omega) (EqF.cons (n := 2) (k := d + 0) (a := x.Stake) (b := y.Stake) (by decide) (fld_agg (dd := .struct #[{ name := "X", type := 24, offset := 0, embedded := false, tag := "", pkgPath := "", byteOffset := 0 }, { name := "Y", type := 24, offset := 1, embedded := false, tag := "", pkgPath := "", byteOffset := 1 }]) (by kernel_rfl) rfl (n := 2) (by kernel_rfl) (fe_Goat_1 x) (fl_Goat_1 x) (cSpot.len _)) (fld_agg (dd := .struct #[{ name := "X", type := 24, offset := 0, embedded := false, tag := "", pkgPath := "", byteOffset := 0 }, { name := "Y", type := 24, offset := 1, embedded := false, tag := "", pkgPath := "", byteOffset := 1 }]) (by kernel_rfl) rfl (n := 2) (by kernel_rfl) (fe_Goat_1 y) (fl_Goat_1 y) (cSpot.len _)) eqD48 (by omega) (EqF.cons (n := 1) (k := d + 1) (a := x.Rope) (b := y.Rope) (by decide) (fld_leaf (dd := .int .i16) (by kernel_rfl) rfl (fe_Goat_2 x) (fl_Goat_2 x)) (fld_leaf (dd := .int .i16) (by kernel_rfl) rfl (fe_Goat_2 y) (fl_Goat_2 y)) (EqD.int (k := .i16) (by kernel_rfl)) (by omega) (EqF.cons (n := 1) (k := d + 1) (a := x.Eats) (b := y.Eats) (by decide) (fld_leaf (dd := .int .i16) (by kernel_rfl) rfl (fe_Goat_3 x) (fl_Goat_3 x)) (fld_leaf (dd := .int .i16) (by kernel_rfl) rfl (fe_Goat_3 y) (fl_Goat_3 y)) (EqD.int (k := .i16) (by kernel_rfl)) (by omega) (EqF.cons (n := 1) (k := d + 1) (a := x.Likes) (b := y.Likes) (by decide) (fld_leaf (dd := .int .i8) (by kernel_rfl) rfl (fe_Goat_4 x) (fl_Goat_4 x)) (fld_leaf (dd := .int .i8) (by kernel_rfl) rfl (fe_Goat_4 y) (fl_Goat_4 y)) (EqD.int (k := .i8) (by kernel_rfl)) (by omega) (EqF.nil)))))) (by cases x; cases y; rw [Bool.eq_iff_iff]; simp)
theorem eqD101 : EqD 2 Tryz.prog 101 fun z : Arr 2 Int => .agg ((carr 2 (ci .i64)).enc z).toArray := EqD.arr (e := 2) (C := (ci .i64)) (dd := .int .i64) (EqD.int (k := .i64) (by kernel_rfl)) (by kernel_rfl) (by kernel_rfl) (by kernel_rfl) (item_leaf (dd := .int .i64) (by kernel_rfl) rfl fun _ => rfl)
theorem eqT50 : EqT Tryz.prog 50 cGoat fun z => .agg (cGoat.enc z).toArray := EqD.toT eqD50 17 rfl
theorem eqG101 : Tryz.prog.eqGuardType Tryz.prog.depth 101 = false := by kernel_rfl
theorem eqT101 : EqT Tryz.prog 101 (carr 2 (ci .i64)) fun z => .agg ((carr 2 (ci .i64)).enc z).toArray := EqD.toT eqD101 18 rfl
theorem hb4 : hasBody Tryz.prog 4 := hasBody.mk Tryz.func4 rfl (by kernel_rfl)
theorem hb5 : hasBody Tryz.prog 5 := hasBody.mk Tryz.func5 rfl (by kernel_rfl)
theorem hb6 : hasBody Tryz.prog 6 := hasBody.mk Tryz.func6 rfl (by kernel_rfl)
theorem hb7 : hasBody Tryz.prog 7 := hasBody.mk Tryz.func7 rfl (by kernel_rfl)
theorem hb8 : hasBody Tryz.prog 8 := hasBody.mk Tryz.func8 rfl (by kernel_rfl)
theorem hb9 : hasBody Tryz.prog 9 := hasBody.mk Tryz.func9 rfl (by kernel_rfl)
theorem hb10 : hasBody Tryz.prog 10 := hasBody.mk Tryz.func10 rfl (by kernel_rfl)
theorem hb11 : hasBody Tryz.prog 11 := hasBody.mk Tryz.func11 rfl (by kernel_rfl)
theorem hb12 : hasBody Tryz.prog 12 := hasBody.mk Tryz.func12 rfl (by kernel_rfl)
theorem hb13 : hasBody Tryz.prog 13 := hasBody.mk Tryz.func13 rfl (by kernel_rfl)
theorem hb14 : hasBody Tryz.prog 14 := hasBody.mk Tryz.func14 rfl (by kernel_rfl)
theorem hb15 : hasBody Tryz.prog 15 := hasBody.mk Tryz.func15 rfl (by kernel_rfl)
theorem hb16 : hasBody Tryz.prog 16 := hasBody.mk Tryz.func16 rfl (by kernel_rfl)
theorem hb17 : hasBody Tryz.prog 17 := hasBody.mk Tryz.func17 rfl (by kernel_rfl)
theorem hb18 : hasBody Tryz.prog 18 := hasBody.mk Tryz.func18 rfl (by kernel_rfl)
theorem hb19 : hasBody Tryz.prog 19 := hasBody.mk Tryz.func19 rfl (by kernel_rfl)
theorem hb20 : hasBody Tryz.prog 20 := hasBody.mk Tryz.func20 rfl (by kernel_rfl)
theorem hb21 : hasBody Tryz.prog 21 := hasBody.mk Tryz.func21 rfl (by kernel_rfl)
theorem hb22 : hasBody Tryz.prog 22 := hasBody.mk Tryz.func22 rfl (by kernel_rfl)
theorem hb23 : hasBody Tryz.prog 23 := hasBody.mk Tryz.func23 rfl (by kernel_rfl)
theorem hb24 : hasBody Tryz.prog 24 := hasBody.mk Tryz.func24 rfl (by kernel_rfl)
theorem hb25 : hasBody Tryz.prog 25 := hasBody.mk Tryz.func25 rfl (by kernel_rfl)
theorem hb26 : hasBody Tryz.prog 26 := hasBody.mk Tryz.func26 rfl (by kernel_rfl)
theorem hb27 : hasBody Tryz.prog 27 := hasBody.mk Tryz.func27 rfl (by kernel_rfl)
theorem hb28 : hasBody Tryz.prog 28 := hasBody.mk Tryz.func28 rfl (by kernel_rfl)
theorem hb29 : hasBody Tryz.prog 29 := hasBody.mk Tryz.func29 rfl (by kernel_rfl)
theorem hb30 : hasBody Tryz.prog 30 := hasBody.mk Tryz.func30 rfl (by kernel_rfl)
theorem hb31 : hasBody Tryz.prog 31 := hasBody.mk Tryz.func31 rfl (by kernel_rfl)
theorem hb32 : hasBody Tryz.prog 32 := hasBody.mk Tryz.func32 rfl (by kernel_rfl)
theorem hb33 : hasBody Tryz.prog 33 := hasBody.mk Tryz.func33 rfl (by kernel_rfl)
theorem hb34 : hasBody Tryz.prog 34 := hasBody.mk Tryz.func34 rfl (by kernel_rfl)
theorem hb35 : hasBody Tryz.prog 35 := hasBody.mk Tryz.func35 rfl (by kernel_rfl)
theorem hb36 : hasBody Tryz.prog 36 := hasBody.mk Tryz.func36 rfl (by kernel_rfl)
theorem hb37 : hasBody Tryz.prog 37 := hasBody.mk Tryz.func37 rfl (by kernel_rfl)
theorem hb38 : hasBody Tryz.prog 38 := hasBody.mk Tryz.func38 rfl (by kernel_rfl)
theorem hb39 : hasBody Tryz.prog 39 := hasBody.mk Tryz.func39 rfl (by kernel_rfl)
theorem hb40 : hasBody Tryz.prog 40 := hasBody.mk Tryz.func40 rfl (by kernel_rfl)
theorem hb41 : hasBody Tryz.prog 41 := hasBody.mk Tryz.func41 rfl (by kernel_rfl)
theorem hb42 : hasBody Tryz.prog 42 := hasBody.mk Tryz.func42 rfl (by kernel_rfl)
theorem hb43 : hasBody Tryz.prog 43 := hasBody.mk Tryz.func43 rfl (by kernel_rfl)
theorem hb44 : hasBody Tryz.prog 44 := hasBody.mk Tryz.func44 rfl (by kernel_rfl)
theorem hb45 : hasBody Tryz.prog 45 := hasBody.mk Tryz.func45 rfl (by kernel_rfl)
theorem hb46 : hasBody Tryz.prog 46 := hasBody.mk Tryz.func46 rfl (by kernel_rfl)
theorem hb47 : hasBody Tryz.prog 47 := hasBody.mk Tryz.func47 rfl (by kernel_rfl)
theorem hb48 : hasBody Tryz.prog 48 := hasBody.mk Tryz.func48 rfl (by kernel_rfl)
theorem hb49 : hasBody Tryz.prog 49 := hasBody.mk Tryz.func49 rfl (by kernel_rfl)
theorem hb50 : hasBody Tryz.prog 50 := hasBody.mk Tryz.func50 rfl (by kernel_rfl)
theorem hb51 : hasBody Tryz.prog 51 := hasBody.mk Tryz.func51 rfl (by kernel_rfl)
theorem hb52 : hasBody Tryz.prog 52 := hasBody.mk Tryz.func52 rfl (by kernel_rfl)
theorem hb53 : hasBody Tryz.prog 53 := hasBody.mk Tryz.func53 rfl (by kernel_rfl)
theorem hb54 : hasBody Tryz.prog 54 := hasBody.mk Tryz.func54 rfl (by kernel_rfl)
theorem hb55 : hasBody Tryz.prog 55 := hasBody.mk Tryz.func55 rfl (by kernel_rfl)
theorem hb56 : hasBody Tryz.prog 56 := hasBody.mk Tryz.func56 rfl (by kernel_rfl)
theorem hb57 : hasBody Tryz.prog 57 := hasBody.mk Tryz.func57 rfl (by kernel_rfl)
theorem hb58 : hasBody Tryz.prog 58 := hasBody.mk Tryz.func58 rfl (by kernel_rfl)
theorem hb59 : hasBody Tryz.prog 59 := hasBody.mk Tryz.func59 rfl (by kernel_rfl)
theorem hb60 : hasBody Tryz.prog 60 := hasBody.mk Tryz.func60 rfl (by kernel_rfl)
theorem hb61 : hasBody Tryz.prog 61 := hasBody.mk Tryz.func61 rfl (by kernel_rfl)
theorem hb62 : hasBody Tryz.prog 62 := hasBody.mk Tryz.func62 rfl (by kernel_rfl)
theorem hb63 : hasBody Tryz.prog 63 := hasBody.mk Tryz.func63 rfl (by kernel_rfl)
theorem hb64 : hasBody Tryz.prog 64 := hasBody.mk Tryz.func64 rfl (by kernel_rfl)
theorem hb65 : hasBody Tryz.prog 65 := hasBody.mk Tryz.func65 rfl (by kernel_rfl)
theorem hb66 : hasBody Tryz.prog 66 := hasBody.mk Tryz.func66 rfl (by kernel_rfl)
theorem hb67 : hasBody Tryz.prog 67 := hasBody.mk Tryz.func67 rfl (by kernel_rfl)
theorem hb68 : hasBody Tryz.prog 68 := hasBody.mk Tryz.func68 rfl (by kernel_rfl)
theorem hb69 : hasBody Tryz.prog 69 := hasBody.mk Tryz.func69 rfl (by kernel_rfl)
theorem hb70 : hasBody Tryz.prog 70 := hasBody.mk Tryz.func70 rfl (by kernel_rfl)
theorem hb71 : hasBody Tryz.prog 71 := hasBody.mk Tryz.func71 rfl (by kernel_rfl)
theorem hb72 : hasBody Tryz.prog 72 := hasBody.mk Tryz.func72 rfl (by kernel_rfl)
theorem hb73 : hasBody Tryz.prog 73 := hasBody.mk Tryz.func73 rfl (by kernel_rfl)
theorem hb74 : hasBody Tryz.prog 74 := hasBody.mk Tryz.func74 rfl (by kernel_rfl)
theorem hb75 : hasBody Tryz.prog 75 := hasBody.mk Tryz.func75 rfl (by kernel_rfl)
theorem hb76 : hasBody Tryz.prog 76 := hasBody.mk Tryz.func76 rfl (by kernel_rfl)
theorem hb77 : hasBody Tryz.prog 77 := hasBody.mk Tryz.func77 rfl (by kernel_rfl)
theorem hb78 : hasBody Tryz.prog 78 := hasBody.mk Tryz.func78 rfl (by kernel_rfl)
theorem hb79 : hasBody Tryz.prog 79 := hasBody.mk Tryz.func79 rfl (by kernel_rfl)
theorem hb80 : hasBody Tryz.prog 80 := hasBody.mk Tryz.func80 rfl (by kernel_rfl)
theorem hb81 : hasBody Tryz.prog 81 := hasBody.mk Tryz.func81 rfl (by kernel_rfl)
theorem hb82 : hasBody Tryz.prog 82 := hasBody.mk Tryz.func82 rfl (by kernel_rfl)
theorem hb83 : hasBody Tryz.prog 83 := hasBody.mk Tryz.func83 rfl (by kernel_rfl)
theorem hb84 : hasBody Tryz.prog 84 := hasBody.mk Tryz.func84 rfl (by kernel_rfl)
theorem hb85 : hasBody Tryz.prog 85 := hasBody.mk Tryz.func85 rfl (by kernel_rfl)
theorem hb86 : hasBody Tryz.prog 86 := hasBody.mk Tryz.func86 rfl (by kernel_rfl)
theorem hb87 : hasBody Tryz.prog 87 := hasBody.mk Tryz.func87 rfl (by kernel_rfl)
theorem hb89 : hasBody Tryz.prog 89 := hasBody.mk Tryz.func89 rfl (by kernel_rfl)
theorem hb90 : hasBody Tryz.prog 90 := hasBody.mk Tryz.func90 rfl (by kernel_rfl)
theorem hb91 : hasBody Tryz.prog 91 := hasBody.mk Tryz.func91 rfl (by kernel_rfl)
theorem hb93 : hasBody Tryz.prog 93 := hasBody.mk Tryz.func93 rfl (by kernel_rfl)
theorem hb94 : hasBody Tryz.prog 94 := hasBody.mk Tryz.func94 rfl (by kernel_rfl)
theorem hb95 : hasBody Tryz.prog 95 := hasBody.mk Tryz.func95 rfl (by kernel_rfl)
theorem hb96 : hasBody Tryz.prog 96 := hasBody.mk Tryz.func96 rfl (by kernel_rfl)
theorem hb97 : hasBody Tryz.prog 97 := hasBody.mk Tryz.func97 rfl (by kernel_rfl)
theorem hb98 : hasBody Tryz.prog 98 := hasBody.mk Tryz.func98 rfl (by kernel_rfl)
theorem hb99 : hasBody Tryz.prog 99 := hasBody.mk Tryz.func99 rfl (by kernel_rfl)
theorem hb100 : hasBody Tryz.prog 100 := hasBody.mk Tryz.func100 rfl (by kernel_rfl)
theorem hb101 : hasBody Tryz.prog 101 := hasBody.mk Tryz.func101 rfl (by kernel_rfl)
theorem hb102 : hasBody Tryz.prog 102 := hasBody.mk Tryz.func102 rfl (by kernel_rfl)
theorem hb103 : hasBody Tryz.prog 103 := hasBody.mk Tryz.func103 rfl (by kernel_rfl)
theorem hb104 : hasBody Tryz.prog 104 := hasBody.mk Tryz.func104 rfl (by kernel_rfl)
theorem hb105 : hasBody Tryz.prog 105 := hasBody.mk Tryz.func105 rfl (by kernel_rfl)
theorem hb106 : hasBody Tryz.prog 106 := hasBody.mk Tryz.func106 rfl (by kernel_rfl)
theorem hb107 : hasBody Tryz.prog 107 := hasBody.mk Tryz.func107 rfl (by kernel_rfl)
theorem hb108 : hasBody Tryz.prog 108 := hasBody.mk Tryz.func108 rfl (by kernel_rfl)
theorem hb109 : hasBody Tryz.prog 109 := hasBody.mk Tryz.func109 rfl (by kernel_rfl)
theorem hb111 : hasBody Tryz.prog 111 := hasBody.mk Tryz.func111 rfl (by kernel_rfl)
theorem hb116 : hasBody Tryz.prog 116 := hasBody.mk Tryz.func116 rfl (by kernel_rfl)
theorem hb119 : hasBody Tryz.prog 119 := hasBody.mk Tryz.func119 rfl (by kernel_rfl)
theorem hb120 : hasBody Tryz.prog 120 := hasBody.mk Tryz.func120 rfl (by kernel_rfl)
theorem hb121 : hasBody Tryz.prog 121 := hasBody.mk Tryz.func121 rfl (by kernel_rfl)
theorem hb122 : hasBody Tryz.prog 122 := hasBody.mk Tryz.func122 rfl (by kernel_rfl)
theorem hb123 : hasBody Tryz.prog 123 := hasBody.mk Tryz.func123 rfl (by kernel_rfl)
theorem hb124 : hasBody Tryz.prog 124 := hasBody.mk Tryz.func124 rfl (by kernel_rfl)
theorem hb125 : hasBody Tryz.prog 125 := hasBody.mk Tryz.func125 rfl (by kernel_rfl)
end Go.Proofs.YtokanemjghfadaaGreatDoor
