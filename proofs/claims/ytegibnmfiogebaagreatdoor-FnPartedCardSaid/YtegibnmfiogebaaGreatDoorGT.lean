/-
  Tables of types, data and names for this seat's program.
-/
import Derived.Test.YtegibnmfiogebaaGreatDoorGY
import Derived.Test.YtegibnmfiogebaaGreatDoorGW
import Derived.Test.YtegibnmfiogebaaGreatDoorGJ
import Derived.Test.YtegibnmfiogebaaGreatDoorHJ
import Derived.Test.YtegibnmfiogebaaGreatDoorHD
import Derived.Test.YtegibnmfiogebaaGreatDoorHE
import Derived.Test.YtegibnmfiogebaaGreatDoorGQ
import Derived.Test.YtegibnmfiogebaaGreatDoorGX
import Derived.Test.YtegibnmfiogebaaGreatDoorHS
import Derived.Test.YtegibnmfiogebaaGreatDoorHG
import Derived.Test.YtegibnmfiogebaaGreatDoorGU
import Derived.Test.YtegibnmfiogebaaGreatDoorGI
import Derived.Test.YtegibnmfiogebaaGreatDoorSh
import Derived.Test.YtegibnmfiogebaaGreatDoorProg
namespace Go.Proofs.YtegibnmfiogebaaGreatDoor
open G
set_option linter.unusedVariables false
set_option linter.unusedSimpArgs false
set_option maxRecDepth 100000
set_option maxHeartbeats 4000000
structure Pasture where
  Wide : Int
  High : Int
  Grass : Arr 10 (Arr 10 Int)
  East : Arr 10 Int
  South : Arr 10 Int
deriving DecidableEq
def cPasture : Cd Pasture := ⟨122, fun x => (ci .i8).enc x.Wide ++ ((ci .i8).enc x.High ++ ((carr 10 (carr 10 (ci .i16))).enc x.Grass ++ ((carr 10 (ci .u16)).enc x.East ++ ((carr 10 (ci .u16)).enc x.South)))), fun x => by simp only [List.length_append, Cd.len]; rfl, fun x u hu => by
  simp only [List.mem_append] at hu
  rcases hu with hu | hu | hu | hu | hu <;> exact Cd.one _ _ _ (by assumption)⟩
def pre_Pasture_0 (x : Pasture) : List Value := []
def post_Pasture_0 (x : Pasture) : List Value := (ci .i8).enc x.High ++ ((carr 10 (carr 10 (ci .i16))).enc x.Grass ++ ((carr 10 (ci .u16)).enc x.East ++ ((carr 10 (ci .u16)).enc x.South)))
theorem fe_Pasture_0 (x : Pasture) : cPasture.enc x = pre_Pasture_0 x ++ ((ci .i8).enc x.Wide ++ post_Pasture_0 x) := by first | rfl | simp only [cPasture, pre_Pasture_0, post_Pasture_0, List.append_assoc, List.nil_append, List.append_nil] | (simp only [cPasture, pre_Pasture_0, post_Pasture_0, List.append_assoc, List.nil_append, List.append_nil]; rfl)
theorem fl_Pasture_0 (x : Pasture) : (pre_Pasture_0 x).length = 0 := by first | rfl | (simp only [pre_Pasture_0, List.length_append, Cd.len]; rfl)
def pre_Pasture_1 (x : Pasture) : List Value := (ci .i8).enc x.Wide
def post_Pasture_1 (x : Pasture) : List Value := (carr 10 (carr 10 (ci .i16))).enc x.Grass ++ ((carr 10 (ci .u16)).enc x.East ++ ((carr 10 (ci .u16)).enc x.South))
theorem fe_Pasture_1 (x : Pasture) : cPasture.enc x = pre_Pasture_1 x ++ ((ci .i8).enc x.High ++ post_Pasture_1 x) := by first | rfl | simp only [cPasture, pre_Pasture_1, post_Pasture_1, List.append_assoc, List.nil_append, List.append_nil] | (simp only [cPasture, pre_Pasture_1, post_Pasture_1, List.append_assoc, List.nil_append, List.append_nil]; rfl)
theorem fl_Pasture_1 (x : Pasture) : (pre_Pasture_1 x).length = 1 := by first | rfl | (simp only [pre_Pasture_1, List.length_append, Cd.len]; rfl)
theorem put_Pasture_1 {x : Pasture} {f' : Int} {off : Nat} {vs : List Value} (h : Put (ci .i8) x.High off vs f') : Put cPasture x (1 + off) vs (⟨x.Wide, f', x.Grass, x.East, x.South⟩ : Pasture) := Put.fld h (fl_Pasture_1 x) (Nat.le_of_ble_eq_true rfl) (fe_Pasture_1 x) (fe_Pasture_1 (⟨x.Wide, f', x.Grass, x.East, x.South⟩ : Pasture))
def pre_Pasture_2 (x : Pasture) : List Value := (ci .i8).enc x.Wide ++ (ci .i8).enc x.High
def post_Pasture_2 (x : Pasture) : List Value := (carr 10 (ci .u16)).enc x.East ++ ((carr 10 (ci .u16)).enc x.South)
theorem fe_Pasture_2 (x : Pasture) : cPasture.enc x = pre_Pasture_2 x ++ ((carr 10 (carr 10 (ci .i16))).enc x.Grass ++ post_Pasture_2 x) := by first | rfl | simp only [cPasture, pre_Pasture_2, post_Pasture_2, List.append_assoc, List.nil_append, List.append_nil] | (simp only [cPasture, pre_Pasture_2, post_Pasture_2, List.append_assoc, List.nil_append, List.append_nil]; rfl)
theorem fl_Pasture_2 (x : Pasture) : (pre_Pasture_2 x).length = 2 := by first | rfl | (simp only [pre_Pasture_2, List.length_append, Cd.len]; rfl)
theorem put_Pasture_2 {x : Pasture} {f' : Arr 10 (Arr 10 Int)} {off : Nat} {vs : List Value} (h : Put (carr 10 (carr 10 (ci .i16))) x.Grass off vs f') : Put cPasture x (2 + off) vs (⟨x.Wide, x.High, f', x.East, x.South⟩ : Pasture) := Put.fld h (fl_Pasture_2 x) (Nat.le_of_ble_eq_true rfl) (fe_Pasture_2 x) (fe_Pasture_2 (⟨x.Wide, x.High, f', x.East, x.South⟩ : Pasture))
def pre_Pasture_3 (x : Pasture) : List Value := (ci .i8).enc x.Wide ++ (ci .i8).enc x.High ++ (carr 10 (carr 10 (ci .i16))).enc x.Grass
def post_Pasture_3 (x : Pasture) : List Value := (carr 10 (ci .u16)).enc x.South
theorem fe_Pasture_3 (x : Pasture) : cPasture.enc x = pre_Pasture_3 x ++ ((carr 10 (ci .u16)).enc x.East ++ post_Pasture_3 x) := by first | rfl | simp only [cPasture, pre_Pasture_3, post_Pasture_3, List.append_assoc, List.nil_append, List.append_nil] | (simp only [cPasture, pre_Pasture_3, post_Pasture_3, List.append_assoc, List.nil_append, List.append_nil]; rfl)
theorem fl_Pasture_3 (x : Pasture) : (pre_Pasture_3 x).length = 102 := by first | rfl | (simp only [pre_Pasture_3, List.length_append, Cd.len]; rfl)
theorem put_Pasture_3 {x : Pasture} {f' : Arr 10 Int} {off : Nat} {vs : List Value} (h : Put (carr 10 (ci .u16)) x.East off vs f') : Put cPasture x (102 + off) vs (⟨x.Wide, x.High, x.Grass, f', x.South⟩ : Pasture) := Put.fld h (fl_Pasture_3 x) (Nat.le_of_ble_eq_true rfl) (fe_Pasture_3 x) (fe_Pasture_3 (⟨x.Wide, x.High, x.Grass, f', x.South⟩ : Pasture))
def pre_Pasture_4 (x : Pasture) : List Value := (ci .i8).enc x.Wide ++ (ci .i8).enc x.High ++ (carr 10 (carr 10 (ci .i16))).enc x.Grass ++ (carr 10 (ci .u16)).enc x.East
def post_Pasture_4 (x : Pasture) : List Value := []
theorem fe_Pasture_4 (x : Pasture) : cPasture.enc x = pre_Pasture_4 x ++ ((carr 10 (ci .u16)).enc x.South ++ post_Pasture_4 x) := by first | rfl | simp only [cPasture, pre_Pasture_4, post_Pasture_4, List.append_assoc, List.nil_append, List.append_nil] | (simp only [cPasture, pre_Pasture_4, post_Pasture_4, List.append_assoc, List.nil_append, List.append_nil]; rfl)
theorem fl_Pasture_4 (x : Pasture) : (pre_Pasture_4 x).length = 112 := by first | rfl | (simp only [pre_Pasture_4, List.length_append, Cd.len]; rfl)
theorem put_Pasture_4 {x : Pasture} {f' : Arr 10 Int} {off : Nat} {vs : List Value} (h : Put (carr 10 (ci .u16)) x.South off vs f') : Put cPasture x (112 + off) vs (⟨x.Wide, x.High, x.Grass, x.East, f'⟩ : Pasture) := Put.fld h (fl_Pasture_4 x) (Nat.le_of_ble_eq_true rfl) (fe_Pasture_4 x) (fe_Pasture_4 (⟨x.Wide, x.High, x.Grass, x.East, f'⟩ : Pasture))
structure l00Src where
  code : List Int
  at_ : Int
  seed : Int
deriving DecidableEq
structure Spot where
  X : Int
  Y : Int
deriving DecidableEq
def cSpot : Cd Spot := ⟨2, fun x => [.int .i8 x.X, .int .i8 x.Y], fun _ => rfl, fun x u hu => by
  simp only [List.mem_cons, List.not_mem_nil, or_false] at hu
  rcases hu with rfl | rfl <;> rfl⟩
def pre_Spot_0 (x : Spot) : List Value := []
def post_Spot_0 (x : Spot) : List Value := (ci .i8).enc x.Y
theorem fe_Spot_0 (x : Spot) : cSpot.enc x = pre_Spot_0 x ++ ((ci .i8).enc x.X ++ post_Spot_0 x) := by first | rfl | simp only [cSpot, pre_Spot_0, post_Spot_0, List.append_assoc, List.nil_append, List.append_nil] | (simp only [cSpot, pre_Spot_0, post_Spot_0, List.append_assoc, List.nil_append, List.append_nil]; rfl)
theorem fl_Spot_0 (x : Spot) : (pre_Spot_0 x).length = 0 := by first | rfl | (simp only [pre_Spot_0, List.length_append, Cd.len]; rfl)
def pre_Spot_1 (x : Spot) : List Value := (ci .i8).enc x.X
def post_Spot_1 (x : Spot) : List Value := []
theorem fe_Spot_1 (x : Spot) : cSpot.enc x = pre_Spot_1 x ++ ((ci .i8).enc x.Y ++ post_Spot_1 x) := by first | rfl | simp only [cSpot, pre_Spot_1, post_Spot_1, List.append_assoc, List.nil_append, List.append_nil] | (simp only [cSpot, pre_Spot_1, post_Spot_1, List.append_assoc, List.nil_append, List.append_nil]; rfl)
theorem fl_Spot_1 (x : Spot) : (pre_Spot_1 x).length = 1 := by first | rfl | (simp only [pre_Spot_1, List.length_append, Cd.len]; rfl)
structure Hurdle where
  At : Spot
  South : Bool
deriving DecidableEq
def cHurdle : Cd Hurdle := ⟨3, fun x => [.int .i8 x.At.X, .int .i8 x.At.Y, .bool x.South], fun _ => rfl, fun x u hu => by
  simp only [List.mem_cons, List.not_mem_nil, or_false] at hu
  rcases hu with rfl | rfl | rfl <;> rfl⟩
def pre_Hurdle_0 (x : Hurdle) : List Value := []
def post_Hurdle_0 (x : Hurdle) : List Value := cb.enc x.South
theorem fe_Hurdle_0 (x : Hurdle) : cHurdle.enc x = pre_Hurdle_0 x ++ (cSpot.enc x.At ++ post_Hurdle_0 x) := by first | rfl | simp only [cHurdle, pre_Hurdle_0, post_Hurdle_0, List.append_assoc, List.nil_append, List.append_nil] | (simp only [cHurdle, pre_Hurdle_0, post_Hurdle_0, List.append_assoc, List.nil_append, List.append_nil]; rfl)
theorem fl_Hurdle_0 (x : Hurdle) : (pre_Hurdle_0 x).length = 0 := by first | rfl | (simp only [pre_Hurdle_0, List.length_append, Cd.len]; rfl)
def pre_Hurdle_1 (x : Hurdle) : List Value := cSpot.enc x.At
def post_Hurdle_1 (x : Hurdle) : List Value := []
theorem fe_Hurdle_1 (x : Hurdle) : cHurdle.enc x = pre_Hurdle_1 x ++ (cb.enc x.South ++ post_Hurdle_1 x) := by first | rfl | simp only [cHurdle, pre_Hurdle_1, post_Hurdle_1, List.append_assoc, List.nil_append, List.append_nil] | (simp only [cHurdle, pre_Hurdle_1, post_Hurdle_1, List.append_assoc, List.nil_append, List.append_nil]; rfl)
theorem fl_Hurdle_1 (x : Hurdle) : (pre_Hurdle_1 x).length = 2 := by first | rfl | (simp only [pre_Hurdle_1, List.length_append, Cd.len]; rfl)
structure l03Flow where
  east : Arr 10 (Arr 10 Int)
  south : Arr 10 (Arr 10 Int)
deriving DecidableEq
def cl03Flow : Cd l03Flow := ⟨200, fun x => (carr 10 (carr 10 (ci .i8))).enc x.east ++ ((carr 10 (carr 10 (ci .i8))).enc x.south), fun x => by simp only [List.length_append, Cd.len]; rfl, fun x u hu => by
  simp only [List.mem_append] at hu
  rcases hu with hu | hu <;> exact Cd.one _ _ _ (by assumption)⟩
def pre_l03Flow_0 (x : l03Flow) : List Value := []
def post_l03Flow_0 (x : l03Flow) : List Value := (carr 10 (carr 10 (ci .i8))).enc x.south
theorem fe_l03Flow_0 (x : l03Flow) : cl03Flow.enc x = pre_l03Flow_0 x ++ ((carr 10 (carr 10 (ci .i8))).enc x.east ++ post_l03Flow_0 x) := by first | rfl | simp only [cl03Flow, pre_l03Flow_0, post_l03Flow_0, List.append_assoc, List.nil_append, List.append_nil] | (simp only [cl03Flow, pre_l03Flow_0, post_l03Flow_0, List.append_assoc, List.nil_append, List.append_nil]; rfl)
theorem fl_l03Flow_0 (x : l03Flow) : (pre_l03Flow_0 x).length = 0 := by first | rfl | (simp only [pre_l03Flow_0, List.length_append, Cd.len]; rfl)
theorem put_l03Flow_0 {x : l03Flow} {f' : Arr 10 (Arr 10 Int)} {off : Nat} {vs : List Value} (h : Put (carr 10 (carr 10 (ci .i8))) x.east off vs f') : Put cl03Flow x (0 + off) vs (⟨f', x.south⟩ : l03Flow) := Put.fld h (fl_l03Flow_0 x) (Nat.le_of_ble_eq_true rfl) (fe_l03Flow_0 x) (fe_l03Flow_0 (⟨f', x.south⟩ : l03Flow))
def pre_l03Flow_1 (x : l03Flow) : List Value := (carr 10 (carr 10 (ci .i8))).enc x.east
def post_l03Flow_1 (x : l03Flow) : List Value := []
theorem fe_l03Flow_1 (x : l03Flow) : cl03Flow.enc x = pre_l03Flow_1 x ++ ((carr 10 (carr 10 (ci .i8))).enc x.south ++ post_l03Flow_1 x) := by first | rfl | simp only [cl03Flow, pre_l03Flow_1, post_l03Flow_1, List.append_assoc, List.nil_append, List.append_nil] | (simp only [cl03Flow, pre_l03Flow_1, post_l03Flow_1, List.append_assoc, List.nil_append, List.append_nil]; rfl)
theorem fl_l03Flow_1 (x : l03Flow) : (pre_l03Flow_1 x).length = 100 := by first | rfl | (simp only [pre_l03Flow_1, List.length_append, Cd.len]; rfl)
theorem put_l03Flow_1 {x : l03Flow} {f' : Arr 10 (Arr 10 Int)} {off : Nat} {vs : List Value} (h : Put (carr 10 (carr 10 (ci .i8))) x.south off vs f') : Put cl03Flow x (100 + off) vs (⟨x.east, f'⟩ : l03Flow) := Put.fld h (fl_l03Flow_1 x) (Nat.le_of_ble_eq_true rfl) (fe_l03Flow_1 x) (fe_l03Flow_1 (⟨x.east, f'⟩ : l03Flow))
def tU : List (Nat × TypeDesc) := [(2, .int .i64), (3, .int .i64), (4, .bool), (5, .int .u8), (9, .string), (22, .slice 5), (24, .int .i8), (25, .int .i16), (26, .array 10 25), (27, .array 10 26), (28, .int .u16), (29, .array 10 28), (31, .struct #[{ name := "Wide", type := 24, offset := 0, embedded := false, tag := "", pkgPath := "", byteOffset := 0 }, { name := "High", type := 24, offset := 1, embedded := false, tag := "", pkgPath := "", byteOffset := 1 }, { name := "Grass", type := 27, offset := 2, embedded := false, tag := "", pkgPath := "", byteOffset := 2 }, { name := "East", type := 29, offset := 102, embedded := false, tag := "", pkgPath := "", byteOffset := 202 }, { name := "South", type := 29, offset := 112, embedded := false, tag := "", pkgPath := "", byteOffset := 222 }]), (33, .slice 55), (36, .slice 58), (41, .slice 33), (55, .struct #[{ name := "X", type := 24, offset := 0, embedded := false, tag := "", pkgPath := "", byteOffset := 0 }, { name := "Y", type := 24, offset := 1, embedded := false, tag := "", pkgPath := "", byteOffset := 1 }]), (58, .struct #[{ name := "At", type := 55, offset := 0, embedded := false, tag := "", pkgPath := "", byteOffset := 0 }, { name := "South", type := 4, offset := 2, embedded := false, tag := "", pkgPath := "", byteOffset := 2 }]), (71, .array 10 4), (72, .array 10 71), (76, .array 10 26), (81, .pointer 76), (97, .slice 9), (111, .int .u64), (113, .struct #[{ name := "code", type := 22, offset := 0, embedded := false, tag := "", pkgPath := "loop.example/g01345/spec", byteOffset := 0 }, { name := "at", type := 3, offset := 1, embedded := false, tag := "", pkgPath := "loop.example/g01345/spec", byteOffset := 24 }, { name := "seed", type := 111, offset := 2, embedded := false, tag := "", pkgPath := "loop.example/g01345/spec", byteOffset := 32 }]), (120, .map 55 4), (124, .array 10 24), (125, .array 10 124), (127, .struct #[{ name := "east", type := 125, offset := 0, embedded := false, tag := "", pkgPath := "loop.example/g01345/spec", byteOffset := 0 }, { name := "south", type := 125, offset := 100, embedded := false, tag := "", pkgPath := "loop.example/g01345/spec", byteOffset := 100 }]), (143, .int .u64), (144, .slice 2), (171, .array 2 55), (173, .array 10 2), (174, .array 10 173), (201, .slice 3)]
theorem tU_ok : okU Tryz.prog tU := ⟨by kernel_rfl, by kernel_rfl, by kernel_rfl, by kernel_rfl, by kernel_rfl, by kernel_rfl, by kernel_rfl, by kernel_rfl, by kernel_rfl, by kernel_rfl, by kernel_rfl, by kernel_rfl, by kernel_rfl, by kernel_rfl, by kernel_rfl, by kernel_rfl, by kernel_rfl, by kernel_rfl, by kernel_rfl, by kernel_rfl, by kernel_rfl, by kernel_rfl, by kernel_rfl, by kernel_rfl, by kernel_rfl, by kernel_rfl, by kernel_rfl, by kernel_rfl, by kernel_rfl, by kernel_rfl, by kernel_rfl, by kernel_rfl, by kernel_rfl, by kernel_rfl, by kernel_rfl, trivial⟩
def tI : List (Nat × TI) := [(2, ⟨1, 8, .int .i64 0⟩), (3, ⟨1, 8, .int .i64 0⟩), (4, ⟨1, 1, .bool false⟩), (5, ⟨1, 1, .int .u8 0⟩), (9, ⟨1, 16, .string ByteArray.empty⟩), (22, ⟨1, 24, .slice none 0 0⟩), (24, ⟨1, 1, .int .i8 0⟩), (25, ⟨1, 2, .int .i16 0⟩), (26, ⟨10, 20, .agg #[.int .i16 0, .int .i16 0, .int .i16 0, .int .i16 0, .int .i16 0, .int .i16 0, .int .i16 0, .int .i16 0, .int .i16 0, .int .i16 0]⟩), (27, ⟨100, 200, .agg #[.int .i16 0, .int .i16 0, .int .i16 0, .int .i16 0, .int .i16 0, .int .i16 0, .int .i16 0, .int .i16 0, .int .i16 0, .int .i16 0, .int .i16 0, .int .i16 0, .int .i16 0, .int .i16 0, .int .i16 0, .int .i16 0, .int .i16 0, .int .i16 0, .int .i16 0, .int .i16 0, .int .i16 0, .int .i16 0, .int .i16 0, .int .i16 0, .int .i16 0, .int .i16 0, .int .i16 0, .int .i16 0, .int .i16 0, .int .i16 0, .int .i16 0, .int .i16 0, .int .i16 0, .int .i16 0, .int .i16 0, .int .i16 0, .int .i16 0, .int .i16 0, .int .i16 0, .int .i16 0, .int .i16 0, .int .i16 0, .int .i16 0, .int .i16 0, .int .i16 0, .int .i16 0, .int .i16 0, .int .i16 0, .int .i16 0, .int .i16 0, .int .i16 0, .int .i16 0, .int .i16 0, .int .i16 0, .int .i16 0, .int .i16 0, .int .i16 0, .int .i16 0, .int .i16 0, .int .i16 0, .int .i16 0, .int .i16 0, .int .i16 0, .int .i16 0, .int .i16 0, .int .i16 0, .int .i16 0, .int .i16 0, .int .i16 0, .int .i16 0, .int .i16 0, .int .i16 0, .int .i16 0, .int .i16 0, .int .i16 0, .int .i16 0, .int .i16 0, .int .i16 0, .int .i16 0, .int .i16 0, .int .i16 0, .int .i16 0, .int .i16 0, .int .i16 0, .int .i16 0, .int .i16 0, .int .i16 0, .int .i16 0, .int .i16 0, .int .i16 0, .int .i16 0, .int .i16 0, .int .i16 0, .int .i16 0, .int .i16 0, .int .i16 0, .int .i16 0, .int .i16 0, .int .i16 0, .int .i16 0]⟩), (28, ⟨1, 2, .int .u16 0⟩), (29, ⟨10, 20, .agg #[.int .u16 0, .int .u16 0, .int .u16 0, .int .u16 0, .int .u16 0, .int .u16 0, .int .u16 0, .int .u16 0, .int .u16 0, .int .u16 0]⟩), (31, ⟨122, 242, .agg #[.int .i8 0, .int .i8 0, .int .i16 0, .int .i16 0, .int .i16 0, .int .i16 0, .int .i16 0, .int .i16 0, .int .i16 0, .int .i16 0, .int .i16 0, .int .i16 0, .int .i16 0, .int .i16 0, .int .i16 0, .int .i16 0, .int .i16 0, .int .i16 0, .int .i16 0, .int .i16 0, .int .i16 0, .int .i16 0, .int .i16 0, .int .i16 0, .int .i16 0, .int .i16 0, .int .i16 0, .int .i16 0, .int .i16 0, .int .i16 0, .int .i16 0, .int .i16 0, .int .i16 0, .int .i16 0, .int .i16 0, .int .i16 0, .int .i16 0, .int .i16 0, .int .i16 0, .int .i16 0, .int .i16 0, .int .i16 0, .int .i16 0, .int .i16 0, .int .i16 0, .int .i16 0, .int .i16 0, .int .i16 0, .int .i16 0, .int .i16 0, .int .i16 0, .int .i16 0, .int .i16 0, .int .i16 0, .int .i16 0, .int .i16 0, .int .i16 0, .int .i16 0, .int .i16 0, .int .i16 0, .int .i16 0, .int .i16 0, .int .i16 0, .int .i16 0, .int .i16 0, .int .i16 0, .int .i16 0, .int .i16 0, .int .i16 0, .int .i16 0, .int .i16 0, .int .i16 0, .int .i16 0, .int .i16 0, .int .i16 0, .int .i16 0, .int .i16 0, .int .i16 0, .int .i16 0, .int .i16 0, .int .i16 0, .int .i16 0, .int .i16 0, .int .i16 0, .int .i16 0, .int .i16 0, .int .i16 0, .int .i16 0, .int .i16 0, .int .i16 0, .int .i16 0, .int .i16 0, .int .i16 0, .int .i16 0, .int .i16 0, .int .i16 0, .int .i16 0, .int .i16 0, .int .i16 0, .int .i16 0, .int .i16 0, .int .i16 0, .int .u16 0, .int .u16 0, .int .u16 0, .int .u16 0, .int .u16 0, .int .u16 0, .int .u16 0, .int .u16 0, .int .u16 0, .int .u16 0, .int .u16 0, .int .u16 0, .int .u16 0, .int .u16 0, .int .u16 0, .int .u16 0, .int .u16 0, .int .u16 0, .int .u16 0, .int .u16 0]⟩), (33, ⟨1, 24, .slice none 0 0⟩), (55, ⟨2, 2, .agg #[.int .i8 0, .int .i8 0]⟩), (58, ⟨3, 3, .agg #[.int .i8 0, .int .i8 0, .bool false]⟩), (71, ⟨10, 10, .agg #[.bool false, .bool false, .bool false, .bool false, .bool false, .bool false, .bool false, .bool false, .bool false, .bool false]⟩), (72, ⟨100, 100, .agg #[.bool false, .bool false, .bool false, .bool false, .bool false, .bool false, .bool false, .bool false, .bool false, .bool false, .bool false, .bool false, .bool false, .bool false, .bool false, .bool false, .bool false, .bool false, .bool false, .bool false, .bool false, .bool false, .bool false, .bool false, .bool false, .bool false, .bool false, .bool false, .bool false, .bool false, .bool false, .bool false, .bool false, .bool false, .bool false, .bool false, .bool false, .bool false, .bool false, .bool false, .bool false, .bool false, .bool false, .bool false, .bool false, .bool false, .bool false, .bool false, .bool false, .bool false, .bool false, .bool false, .bool false, .bool false, .bool false, .bool false, .bool false, .bool false, .bool false, .bool false, .bool false, .bool false, .bool false, .bool false, .bool false, .bool false, .bool false, .bool false, .bool false, .bool false, .bool false, .bool false, .bool false, .bool false, .bool false, .bool false, .bool false, .bool false, .bool false, .bool false, .bool false, .bool false, .bool false, .bool false, .bool false, .bool false, .bool false, .bool false, .bool false, .bool false, .bool false, .bool false, .bool false, .bool false, .bool false, .bool false, .bool false, .bool false, .bool false, .bool false]⟩), (76, ⟨100, 200, .agg #[.int .i16 0, .int .i16 0, .int .i16 0, .int .i16 0, .int .i16 0, .int .i16 0, .int .i16 0, .int .i16 0, .int .i16 0, .int .i16 0, .int .i16 0, .int .i16 0, .int .i16 0, .int .i16 0, .int .i16 0, .int .i16 0, .int .i16 0, .int .i16 0, .int .i16 0, .int .i16 0, .int .i16 0, .int .i16 0, .int .i16 0, .int .i16 0, .int .i16 0, .int .i16 0, .int .i16 0, .int .i16 0, .int .i16 0, .int .i16 0, .int .i16 0, .int .i16 0, .int .i16 0, .int .i16 0, .int .i16 0, .int .i16 0, .int .i16 0, .int .i16 0, .int .i16 0, .int .i16 0, .int .i16 0, .int .i16 0, .int .i16 0, .int .i16 0, .int .i16 0, .int .i16 0, .int .i16 0, .int .i16 0, .int .i16 0, .int .i16 0, .int .i16 0, .int .i16 0, .int .i16 0, .int .i16 0, .int .i16 0, .int .i16 0, .int .i16 0, .int .i16 0, .int .i16 0, .int .i16 0, .int .i16 0, .int .i16 0, .int .i16 0, .int .i16 0, .int .i16 0, .int .i16 0, .int .i16 0, .int .i16 0, .int .i16 0, .int .i16 0, .int .i16 0, .int .i16 0, .int .i16 0, .int .i16 0, .int .i16 0, .int .i16 0, .int .i16 0, .int .i16 0, .int .i16 0, .int .i16 0, .int .i16 0, .int .i16 0, .int .i16 0, .int .i16 0, .int .i16 0, .int .i16 0, .int .i16 0, .int .i16 0, .int .i16 0, .int .i16 0, .int .i16 0, .int .i16 0, .int .i16 0, .int .i16 0, .int .i16 0, .int .i16 0, .int .i16 0, .int .i16 0, .int .i16 0, .int .i16 0]⟩), (111, ⟨1, 8, .int .u64 0⟩), (113, ⟨3, 40, .agg #[.slice none 0 0, .int .i64 0, .int .u64 0]⟩), (120, ⟨1, 8, .map none⟩), (124, ⟨10, 10, .agg #[.int .i8 0, .int .i8 0, .int .i8 0, .int .i8 0, .int .i8 0, .int .i8 0, .int .i8 0, .int .i8 0, .int .i8 0, .int .i8 0]⟩), (125, ⟨100, 100, .agg #[.int .i8 0, .int .i8 0, .int .i8 0, .int .i8 0, .int .i8 0, .int .i8 0, .int .i8 0, .int .i8 0, .int .i8 0, .int .i8 0, .int .i8 0, .int .i8 0, .int .i8 0, .int .i8 0, .int .i8 0, .int .i8 0, .int .i8 0, .int .i8 0, .int .i8 0, .int .i8 0, .int .i8 0, .int .i8 0, .int .i8 0, .int .i8 0, .int .i8 0, .int .i8 0, .int .i8 0, .int .i8 0, .int .i8 0, .int .i8 0, .int .i8 0, .int .i8 0, .int .i8 0, .int .i8 0, .int .i8 0, .int .i8 0, .int .i8 0, .int .i8 0, .int .i8 0, .int .i8 0, .int .i8 0, .int .i8 0, .int .i8 0, .int .i8 0, .int .i8 0, .int .i8 0, .int .i8 0, .int .i8 0, .int .i8 0, .int .i8 0, .int .i8 0, .int .i8 0, .int .i8 0, .int .i8 0, .int .i8 0, .int .i8 0, .int .i8 0, .int .i8 0, .int .i8 0, .int .i8 0, .int .i8 0, .int .i8 0, .int .i8 0, .int .i8 0, .int .i8 0, .int .i8 0, .int .i8 0, .int .i8 0, .int .i8 0, .int .i8 0, .int .i8 0, .int .i8 0, .int .i8 0, .int .i8 0, .int .i8 0, .int .i8 0, .int .i8 0, .int .i8 0, .int .i8 0, .int .i8 0, .int .i8 0, .int .i8 0, .int .i8 0, .int .i8 0, .int .i8 0, .int .i8 0, .int .i8 0, .int .i8 0, .int .i8 0, .int .i8 0, .int .i8 0, .int .i8 0, .int .i8 0, .int .i8 0, .int .i8 0, .int .i8 0, .int .i8 0, .int .i8 0, .int .i8 0, .int .i8 0]⟩), (127, ⟨200, 200, .agg #[.int .i8 0, .int .i8 0, .int .i8 0, .int .i8 0, .int .i8 0, .int .i8 0, .int .i8 0, .int .i8 0, .int .i8 0, .int .i8 0, .int .i8 0, .int .i8 0, .int .i8 0, .int .i8 0, .int .i8 0, .int .i8 0, .int .i8 0, .int .i8 0, .int .i8 0, .int .i8 0, .int .i8 0, .int .i8 0, .int .i8 0, .int .i8 0, .int .i8 0, .int .i8 0, .int .i8 0, .int .i8 0, .int .i8 0, .int .i8 0, .int .i8 0, .int .i8 0, .int .i8 0, .int .i8 0, .int .i8 0, .int .i8 0, .int .i8 0, .int .i8 0, .int .i8 0, .int .i8 0, .int .i8 0, .int .i8 0, .int .i8 0, .int .i8 0, .int .i8 0, .int .i8 0, .int .i8 0, .int .i8 0, .int .i8 0, .int .i8 0, .int .i8 0, .int .i8 0, .int .i8 0, .int .i8 0, .int .i8 0, .int .i8 0, .int .i8 0, .int .i8 0, .int .i8 0, .int .i8 0, .int .i8 0, .int .i8 0, .int .i8 0, .int .i8 0, .int .i8 0, .int .i8 0, .int .i8 0, .int .i8 0, .int .i8 0, .int .i8 0, .int .i8 0, .int .i8 0, .int .i8 0, .int .i8 0, .int .i8 0, .int .i8 0, .int .i8 0, .int .i8 0, .int .i8 0, .int .i8 0, .int .i8 0, .int .i8 0, .int .i8 0, .int .i8 0, .int .i8 0, .int .i8 0, .int .i8 0, .int .i8 0, .int .i8 0, .int .i8 0, .int .i8 0, .int .i8 0, .int .i8 0, .int .i8 0, .int .i8 0, .int .i8 0, .int .i8 0, .int .i8 0, .int .i8 0, .int .i8 0, .int .i8 0, .int .i8 0, .int .i8 0, .int .i8 0, .int .i8 0, .int .i8 0, .int .i8 0, .int .i8 0, .int .i8 0, .int .i8 0, .int .i8 0, .int .i8 0, .int .i8 0, .int .i8 0, .int .i8 0, .int .i8 0, .int .i8 0, .int .i8 0, .int .i8 0, .int .i8 0, .int .i8 0, .int .i8 0, .int .i8 0, .int .i8 0, .int .i8 0, .int .i8 0, .int .i8 0, .int .i8 0, .int .i8 0, .int .i8 0, .int .i8 0, .int .i8 0, .int .i8 0, .int .i8 0, .int .i8 0, .int .i8 0, .int .i8 0, .int .i8 0, .int .i8 0, .int .i8 0, .int .i8 0, .int .i8 0, .int .i8 0, .int .i8 0, .int .i8 0, .int .i8 0, .int .i8 0, .int .i8 0, .int .i8 0, .int .i8 0, .int .i8 0, .int .i8 0, .int .i8 0, .int .i8 0, .int .i8 0, .int .i8 0, .int .i8 0, .int .i8 0, .int .i8 0, .int .i8 0, .int .i8 0, .int .i8 0, .int .i8 0, .int .i8 0, .int .i8 0, .int .i8 0, .int .i8 0, .int .i8 0, .int .i8 0, .int .i8 0, .int .i8 0, .int .i8 0, .int .i8 0, .int .i8 0, .int .i8 0, .int .i8 0, .int .i8 0, .int .i8 0, .int .i8 0, .int .i8 0, .int .i8 0, .int .i8 0, .int .i8 0, .int .i8 0, .int .i8 0, .int .i8 0, .int .i8 0, .int .i8 0, .int .i8 0, .int .i8 0, .int .i8 0, .int .i8 0, .int .i8 0, .int .i8 0, .int .i8 0, .int .i8 0, .int .i8 0, .int .i8 0, .int .i8 0, .int .i8 0]⟩), (171, ⟨4, 4, .agg #[.int .i8 0, .int .i8 0, .int .i8 0, .int .i8 0]⟩), (173, ⟨10, 80, .agg #[.int .i64 0, .int .i64 0, .int .i64 0, .int .i64 0, .int .i64 0, .int .i64 0, .int .i64 0, .int .i64 0, .int .i64 0, .int .i64 0]⟩), (174, ⟨100, 800, .agg #[.int .i64 0, .int .i64 0, .int .i64 0, .int .i64 0, .int .i64 0, .int .i64 0, .int .i64 0, .int .i64 0, .int .i64 0, .int .i64 0, .int .i64 0, .int .i64 0, .int .i64 0, .int .i64 0, .int .i64 0, .int .i64 0, .int .i64 0, .int .i64 0, .int .i64 0, .int .i64 0, .int .i64 0, .int .i64 0, .int .i64 0, .int .i64 0, .int .i64 0, .int .i64 0, .int .i64 0, .int .i64 0, .int .i64 0, .int .i64 0, .int .i64 0, .int .i64 0, .int .i64 0, .int .i64 0, .int .i64 0, .int .i64 0, .int .i64 0, .int .i64 0, .int .i64 0, .int .i64 0, .int .i64 0, .int .i64 0, .int .i64 0, .int .i64 0, .int .i64 0, .int .i64 0, .int .i64 0, .int .i64 0, .int .i64 0, .int .i64 0, .int .i64 0, .int .i64 0, .int .i64 0, .int .i64 0, .int .i64 0, .int .i64 0, .int .i64 0, .int .i64 0, .int .i64 0, .int .i64 0, .int .i64 0, .int .i64 0, .int .i64 0, .int .i64 0, .int .i64 0, .int .i64 0, .int .i64 0, .int .i64 0, .int .i64 0, .int .i64 0, .int .i64 0, .int .i64 0, .int .i64 0, .int .i64 0, .int .i64 0, .int .i64 0, .int .i64 0, .int .i64 0, .int .i64 0, .int .i64 0, .int .i64 0, .int .i64 0, .int .i64 0, .int .i64 0, .int .i64 0, .int .i64 0, .int .i64 0, .int .i64 0, .int .i64 0, .int .i64 0, .int .i64 0, .int .i64 0, .int .i64 0, .int .i64 0, .int .i64 0, .int .i64 0, .int .i64 0, .int .i64 0, .int .i64 0, .int .i64 0]⟩)]
theorem tI_ok : okI Tryz.prog tI := ⟨by kernel_rfl, by kernel_rfl, by kernel_rfl, by kernel_rfl, by kernel_rfl, by kernel_rfl, by kernel_rfl, by kernel_rfl, by kernel_rfl, by kernel_rfl, by kernel_rfl, by kernel_rfl, by kernel_rfl, by kernel_rfl, by kernel_rfl, by kernel_rfl, by kernel_rfl, by kernel_rfl, by kernel_rfl, by kernel_rfl, by kernel_rfl, by kernel_rfl, by kernel_rfl, by kernel_rfl, by kernel_rfl, by kernel_rfl, by kernel_rfl, by kernel_rfl, trivial⟩
theorem mixed : Tryz.prog.follows .mixedOrders = true := by kernel_rfl
theorem eqG31 : Tryz.prog.eqGuardType Tryz.prog.depth 31 = false := by kernel_rfl
theorem eqD26 : EqD 2 Tryz.prog 26 fun z : Arr 10 Int => .agg ((carr 10 (ci .i16)).enc z).toArray := EqD.arr (e := 25) (C := (ci .i16)) (dd := .int .i16) (EqD.int (k := .i16) (by kernel_rfl)) (by kernel_rfl) (by kernel_rfl) (by kernel_rfl) (item_leaf (dd := .int .i16) (by kernel_rfl) rfl fun _ => rfl)
theorem eqD27 : EqD 3 Tryz.prog 27 fun z : Arr 10 (Arr 10 Int) => .agg ((carr 10 (carr 10 (ci .i16))).enc z).toArray := EqD.arr (e := 26) (C := (carr 10 (ci .i16))) (dd := .array 10 25) eqD26 (by kernel_rfl) (by kernel_rfl) (by kernel_rfl) (item_agg (dd := .array 10 25) (by kernel_rfl) rfl (by kernel_rfl))
theorem eqD29 : EqD 2 Tryz.prog 29 fun z : Arr 10 Int => .agg ((carr 10 (ci .u16)).enc z).toArray := EqD.arr (e := 28) (C := (ci .u16)) (dd := .int .u16) (EqD.int (k := .u16) (by kernel_rfl)) (by kernel_rfl) (by kernel_rfl) (by kernel_rfl) (item_leaf (dd := .int .u16) (by kernel_rfl) rfl fun _ => rfl)
theorem eqD31 : EqD 4 Tryz.prog 31 fun z : Pasture => .agg (cPasture.enc z).toArray := EqD.struct (fs := #[{ name := "Wide", type := 24, offset := 0, embedded := false, tag := "", pkgPath := "", byteOffset := 0 }, { name := "High", type := 24, offset := 1, embedded := false, tag := "", pkgPath := "", byteOffset := 1 }, { name := "Grass", type := 27, offset := 2, embedded := false, tag := "", pkgPath := "", byteOffset := 2 }, { name := "East", type := 29, offset := 102, embedded := false, tag := "", pkgPath := "", byteOffset := 202 }, { name := "South", type := 29, offset := 112, embedded := false, tag := "", pkgPath := "", byteOffset := 222 }]) (by kernel_rfl) (by kernel_rfl) fun d x y => EqF.to (EqF.cons (n := 1) (k := d + 2) (a := x.Wide) (b := y.Wide) (by decide) (fld_leaf (dd := .int .i8) (by kernel_rfl) rfl (fe_Pasture_0 x) (fl_Pasture_0 x)) (fld_leaf (dd := .int .i8) (by kernel_rfl) rfl (fe_Pasture_0 y) (fl_Pasture_0 y)) (EqD.int (k := .i8) (by kernel_rfl)) (by omega) (EqF.cons (n := 1) (k := d + 2) (a := x.High) (b := y.High) (by decide) (fld_leaf (dd := .int .i8) (by kernel_rfl) rfl (fe_Pasture_1 x) (fl_Pasture_1 x)) (fld_leaf (dd := .int .i8) (by kernel_rfl) rfl (fe_Pasture_1 y) (fl_Pasture_1 y)) (EqD.int (k := .i8) (by kernel_rfl)) (by omega) (EqF.cons (n := 3) (k := d + 0) (a := x.Grass) (b := y.Grass) (by decide) (fld_agg (dd := .array 10 26) (by kernel_rfl) rfl (n := 100) (by kernel_rfl) (fe_Pasture_2 x) (fl_Pasture_2 x) ((carr 10 (carr 10 (ci .i16))).len _)) (fld_agg (dd := .array 10 26) (by kernel_rfl) rfl (n := 100) (by kernel_rfl) (fe_Pasture_2 y) (fl_Pasture_2 y) ((carr 10 (carr 10 (ci .i16))).len _)) eqD27 (by omega) (EqF.cons (n := 2) (k := d + 1) (a := x.East) (b := y.East) (by decide) (fld_agg (dd := .array 10 28) (by kernel_rfl) rfl (n := 10) (by kernel_rfl) (fe_Pasture_3 x) (fl_Pasture_3 x) ((carr 10 (ci .u16)).len _)) (fld_agg (dd := .array 10 28) (by kernel_rfl) rfl (n := 10) (by kernel_rfl) (fe_Pasture_3 y) (fl_Pasture_3 y) ((carr 10 (ci .u16)).len _)) eqD29 (by omega) (EqF.cons (n := 2) (k := d + 1) (a := x.South) (b := y.South) (by decide) (fld_agg (dd := .array 10 28) (by kernel_rfl) rfl (n := 10) (by kernel_rfl) (fe_Pasture_4 x) (fl_Pasture_4 x) ((carr 10 (ci .u16)).len _)) (fld_agg (dd := .array 10 28) (by kernel_rfl) rfl (n := 10) (by kernel_rfl) (fe_Pasture_4 y) (fl_Pasture_4 y) ((carr 10 (ci .u16)).len _)) eqD29 (by omega) (EqF.nil)))))) (by cases x; cases y; rw [Bool.eq_iff_iff]; simp)
theorem eqD55 : EqD 2 Tryz.prog 55 fun z : Spot => .agg (cSpot.enc z).toArray := EqD.struct (fs := #[{ name := "X", type := 24, offset := 0, embedded := false, tag := "", pkgPath := "", byteOffset := 0 }, { name := "Y", type := 24, offset := 1, embedded := false, tag := "", pkgPath := "", byteOffset := 1 }]) (by kernel_rfl) (by kernel_rfl) fun d x y => EqF.to (EqF.cons (n := 1) (k := d + 0) (a := x.X) (b := y.X) (by decide) (fld_leaf (dd := .int .i8) (by kernel_rfl) rfl (fe_Spot_0 x) (fl_Spot_0 x)) (fld_leaf (dd := .int .i8) (by kernel_rfl) rfl (fe_Spot_0 y) (fl_Spot_0 y)) (EqD.int (k := .i8) (by kernel_rfl)) (by omega) (EqF.cons (n := 1) (k := d + 0) (a := x.Y) (b := y.Y) (by decide) (fld_leaf (dd := .int .i8) (by kernel_rfl) rfl (fe_Spot_1 x) (fl_Spot_1 x)) (fld_leaf (dd := .int .i8) (by kernel_rfl) rfl (fe_Spot_1 y) (fl_Spot_1 y)) (EqD.int (k := .i8) (by kernel_rfl)) (by omega) (EqF.nil))) (by cases x; cases y; rw [Bool.eq_iff_iff]; simp)
theorem eqD58 : EqD 3 Tryz.prog 58 fun z : Hurdle => .agg (cHurdle.enc z).toArray := EqD.struct (fs := #[{ name := "At", type := 55, offset := 0, embedded := false, tag := "", pkgPath := "", byteOffset := 0 }, { name := "South", type := 4, offset := 2, embedded := false, tag := "", pkgPath := "", byteOffset := 2 }]) (by kernel_rfl) (by kernel_rfl) fun d x y => EqF.to (EqF.cons (n := 2) (k := d + 0) (a := x.At) (b := y.At) (by decide) (fld_agg (dd := .struct #[{ name := "X", type := 24, offset := 0, embedded := false, tag := "", pkgPath := "", byteOffset := 0 }, { name := "Y", type := 24, offset := 1, embedded := false, tag := "", pkgPath := "", byteOffset := 1 }]) (by kernel_rfl) rfl (n := 2) (by kernel_rfl) (fe_Hurdle_0 x) (fl_Hurdle_0 x) (cSpot.len _)) (fld_agg (dd := .struct #[{ name := "X", type := 24, offset := 0, embedded := false, tag := "", pkgPath := "", byteOffset := 0 }, { name := "Y", type := 24, offset := 1, embedded := false, tag := "", pkgPath := "", byteOffset := 1 }]) (by kernel_rfl) rfl (n := 2) (by kernel_rfl) (fe_Hurdle_0 y) (fl_Hurdle_0 y) (cSpot.len _)) eqD55 (by omega) (EqF.cons (n := 1) (k := d + 1) (a := x.South) (b := y.South) (by decide) (fld_leaf (dd := .bool) (by kernel_rfl) rfl (fe_Hurdle_1 x) (fl_Hurdle_1 x)) (fld_leaf (dd := .bool) (by kernel_rfl) rfl (fe_Hurdle_1 y) (fl_Hurdle_1 y)) (EqD.bool (by kernel_rfl)) (by omega) (EqF.nil))) (by cases x; cases y; rw [Bool.eq_iff_iff]; simp)
theorem eqD171 : EqD 3 Tryz.prog 171 fun z : Arr 2 Spot => .agg ((carr 2 cSpot).enc z).toArray := EqD.arr (e := 55) (C := cSpot) (dd := .struct #[{ name := "X", type := 24, offset := 0, embedded := false, tag := "", pkgPath := "", byteOffset := 0 }, { name := "Y", type := 24, offset := 1, embedded := false, tag := "", pkgPath := "", byteOffset := 1 }]) eqD55 (by kernel_rfl) (by kernel_rfl) (by kernel_rfl) (item_agg (dd := .struct #[{ name := "X", type := 24, offset := 0, embedded := false, tag := "", pkgPath := "", byteOffset := 0 }, { name := "Y", type := 24, offset := 1, embedded := false, tag := "", pkgPath := "", byteOffset := 1 }]) (by kernel_rfl) rfl (by kernel_rfl))
theorem eqT31 : EqT Tryz.prog 31 cPasture fun z => .agg (cPasture.enc z).toArray := EqD.toT eqD31 16 rfl
theorem eqG55 : Tryz.prog.eqGuardType Tryz.prog.depth 55 = false := by kernel_rfl
theorem eqT55 : EqT Tryz.prog 55 cSpot fun z => .agg (cSpot.enc z).toArray := EqT.mk tU_ok (T := 55) rfl (by kernel_rfl) fun x y => by
  show some (decide (x.X = y.X) && (decide (x.Y = y.Y) && (true))) = _
  cases x; cases y
  congr 1
  rw [Bool.eq_iff_iff]
  simp
theorem eqG58 : Tryz.prog.eqGuardType Tryz.prog.depth 58 = false := by kernel_rfl
theorem eqT58 : EqT Tryz.prog 58 cHurdle fun z => .agg (cHurdle.enc z).toArray := EqD.toT eqD58 17 rfl
theorem eqT171 : EqT Tryz.prog 171 (carr 2 cSpot) fun z => .agg ((carr 2 cSpot).enc z).toArray := EqD.toT eqD171 17 rfl
theorem ckn55 (n : Nat) (e : Bool) (x : Spot) (w : World) : (Instr.checkKey e (n + 1 + 1) 55 (keyV cSpot x)).run Tryz.prog w = .ok () w := by
 have p0 : (part 24 (cSpot.enc x).toArray 0).run Tryz.prog w = .ok (.int .i8 x.X) w := run_part_plain (P := Tryz.prog) (e := 24) w (by kernel_rfl) rfl
 have p1 : (part 24 (cSpot.enc x).toArray 1).run Tryz.prog w = .ok (.int .i8 x.Y) w := run_part_plain (P := Tryz.prog) (e := 24) w (by kernel_rfl) rfl
 unfold Instr.checkKey
 simp only [Sem.run_bind, run_underlying Tryz.underlying55, Result.andThen_ok, keyV]
 simp [p0, p1, Instr.checkKey, run_underlying Tryz.underlying24]
theorem ck55 (e : Bool) (x : Spot) (w : World) : (Instr.checkKey e 10000 55 (keyV cSpot x)).run Tryz.prog w = .ok () w := ckn55 9998 e x w
theorem sbn55 (n : Nat) (x : Spot) : Instr.sameBits (n + 1) (keyV cSpot x) (keyV cSpot x) = true := by
 simp [Instr.sameBits, cSpot]
theorem sb55 (x : Spot) : Instr.sameBits 10000 (keyV cSpot x) (keyV cSpot x) = true := sbn55 9999 x
theorem key55 : KeyOk Tryz.prog 55 cSpot := ⟨by kernel_rfl, ck55, fun x y w => eqT55 9980 x y w, sb55⟩
theorem ck171 (b : Bool) (x : Arr 2 Spot) (w : World) : (Instr.checkKey b 10000 171 (keyV (carr 2 cSpot) x)).run Tryz.prog w = .ok () w := ck_arr (n := 9999) Tryz.underlying171 (run_elem tI_ok (e := 55) rfl) (item_agg (dd := .struct #[{ name := "X", type := 24, offset := 0, embedded := false, tag := "", pkgPath := "", byteOffset := 0 }, { name := "Y", type := 24, offset := 1, embedded := false, tag := "", pkgPath := "", byteOffset := 1 }]) (by kernel_rfl) rfl (by kernel_rfl)) (fun y => ckn55 9997 b y w)
theorem sb171 (x : Arr 2 Spot) : Instr.sameBits 10000 (keyV (carr 2 cSpot) x) (keyV (carr 2 cSpot) x) = true := sb_arr (n := 9999) fun y u hu => by
  simp only [cSpot, List.mem_cons, List.not_mem_nil, or_false] at hu
  rcases hu with rfl | rfl <;> simp [Instr.sameBits]
theorem key171 : KeyOk Tryz.prog 171 (carr 2 cSpot) := ⟨by kernel_rfl, ck171, fun x y w => eqT171 9980 x y w, sb171⟩
theorem hb4 : hasBody Tryz.prog 4 := hasBody.mk Tryz.func4 rfl (by kernel_rfl)
theorem hb5 : hasBody Tryz.prog 5 := hasBody.mk Tryz.func5 rfl (by kernel_rfl)
theorem hb6 : hasBody Tryz.prog 6 := hasBody.mk Tryz.func6 rfl (by kernel_rfl)
theorem hb7 : hasBody Tryz.prog 7 := hasBody.mk Tryz.func7 rfl (by kernel_rfl)
theorem hb8 : hasBody Tryz.prog 8 := hasBody.mk Tryz.func8 rfl (by kernel_rfl)
theorem hb9 : hasBody Tryz.prog 9 := hasBody.mk Tryz.func9 rfl (by kernel_rfl)
theorem hb10 : hasBody Tryz.prog 10 := hasBody.mk Tryz.func10 rfl (by kernel_rfl)
theorem hb11 : hasBody Tryz.prog 11 := hasBody.mk Tryz.func11 rfl (by kernel_rfl)
theorem hb12 : hasBody Tryz.prog 12 := hasBody.mk Tryz.func12 rfl (by kernel_rfl)
theorem hb13 : hasBody Tryz.prog 13 := hasBody.mk Tryz.func13 rfl (by kernel_rfl)
theorem hb14 : hasBody Tryz.prog 14 := hasBody.mk Tryz.func14 rfl (by kernel_rfl)
theorem hb15 : hasBody Tryz.prog 15 := hasBody.mk Tryz.func15 rfl (by kernel_rfl)
theorem hb16 : hasBody Tryz.prog 16 := hasBody.mk Tryz.func16 rfl (by kernel_rfl)
theorem hb17 : hasBody Tryz.prog 17 := hasBody.mk Tryz.func17 rfl (by kernel_rfl)
theorem hb18 : hasBody Tryz.prog 18 := hasBody.mk Tryz.func18 rfl (by kernel_rfl)
theorem hb19 : hasBody Tryz.prog 19 := hasBody.mk Tryz.func19 rfl (by kernel_rfl)
theorem hb20 : hasBody Tryz.prog 20 := hasBody.mk Tryz.func20 rfl (by kernel_rfl)
theorem hb21 : hasBody Tryz.prog 21 := hasBody.mk Tryz.func21 rfl (by kernel_rfl)
theorem hb22 : hasBody Tryz.prog 22 := hasBody.mk Tryz.func22 rfl (by kernel_rfl)
theorem hb23 : hasBody Tryz.prog 23 := hasBody.mk Tryz.func23 rfl (by kernel_rfl)
theorem hb24 : hasBody Tryz.prog 24 := hasBody.mk Tryz.func24 rfl (by kernel_rfl)
theorem hb25 : hasBody Tryz.prog 25 := hasBody.mk Tryz.func25 rfl (by kernel_rfl)
theorem hb26 : hasBody Tryz.prog 26 := hasBody.mk Tryz.func26 rfl (by kernel_rfl)
theorem hb27 : hasBody Tryz.prog 27 := hasBody.mk Tryz.func27 rfl (by kernel_rfl)
theorem hb28 : hasBody Tryz.prog 28 := hasBody.mk Tryz.func28 rfl (by kernel_rfl)
theorem hb29 : hasBody Tryz.prog 29 := hasBody.mk Tryz.func29 rfl (by kernel_rfl)
theorem hb30 : hasBody Tryz.prog 30 := hasBody.mk Tryz.func30 rfl (by kernel_rfl)
theorem hb31 : hasBody Tryz.prog 31 := hasBody.mk Tryz.func31 rfl (by kernel_rfl)
theorem hb32 : hasBody Tryz.prog 32 := hasBody.mk Tryz.func32 rfl (by kernel_rfl)
theorem hb33 : hasBody Tryz.prog 33 := hasBody.mk Tryz.func33 rfl (by kernel_rfl)
theorem hb34 : hasBody Tryz.prog 34 := hasBody.mk Tryz.func34 rfl (by kernel_rfl)
theorem hb35 : hasBody Tryz.prog 35 := hasBody.mk Tryz.func35 rfl (by kernel_rfl)
theorem hb36 : hasBody Tryz.prog 36 := hasBody.mk Tryz.func36 rfl (by kernel_rfl)
theorem hb37 : hasBody Tryz.prog 37 := hasBody.mk Tryz.func37 rfl (by kernel_rfl)
theorem hb38 : hasBody Tryz.prog 38 := hasBody.mk Tryz.func38 rfl (by kernel_rfl)
theorem hb39 : hasBody Tryz.prog 39 := hasBody.mk Tryz.func39 rfl (by kernel_rfl)
theorem hb40 : hasBody Tryz.prog 40 := hasBody.mk Tryz.func40 rfl (by kernel_rfl)
theorem hb41 : hasBody Tryz.prog 41 := hasBody.mk Tryz.func41 rfl (by kernel_rfl)
theorem hb42 : hasBody Tryz.prog 42 := hasBody.mk Tryz.func42 rfl (by kernel_rfl)
theorem hb43 : hasBody Tryz.prog 43 := hasBody.mk Tryz.func43 rfl (by kernel_rfl)
theorem hb44 : hasBody Tryz.prog 44 := hasBody.mk Tryz.func44 rfl (by kernel_rfl)
theorem hb45 : hasBody Tryz.prog 45 := hasBody.mk Tryz.func45 rfl (by kernel_rfl)
theorem hb46 : hasBody Tryz.prog 46 := hasBody.mk Tryz.func46 rfl (by kernel_rfl)
theorem hb47 : hasBody Tryz.prog 47 := hasBody.mk Tryz.func47 rfl (by kernel_rfl)
theorem hb48 : hasBody Tryz.prog 48 := hasBody.mk Tryz.func48 rfl (by kernel_rfl)
theorem hb49 : hasBody Tryz.prog 49 := hasBody.mk Tryz.func49 rfl (by kernel_rfl)
theorem hb50 : hasBody Tryz.prog 50 := hasBody.mk Tryz.func50 rfl (by kernel_rfl)
theorem hb51 : hasBody Tryz.prog 51 := hasBody.mk Tryz.func51 rfl (by kernel_rfl)
theorem hb52 : hasBody Tryz.prog 52 := hasBody.mk Tryz.func52 rfl (by kernel_rfl)
theorem hb53 : hasBody Tryz.prog 53 := hasBody.mk Tryz.func53 rfl (by kernel_rfl)
theorem hb54 : hasBody Tryz.prog 54 := hasBody.mk Tryz.func54 rfl (by kernel_rfl)
theorem hb55 : hasBody Tryz.prog 55 := hasBody.mk Tryz.func55 rfl (by kernel_rfl)
theorem hb56 : hasBody Tryz.prog 56 := hasBody.mk Tryz.func56 rfl (by kernel_rfl)
theorem hb57 : hasBody Tryz.prog 57 := hasBody.mk Tryz.func57 rfl (by kernel_rfl)
theorem hb58 : hasBody Tryz.prog 58 := hasBody.mk Tryz.func58 rfl (by kernel_rfl)
theorem hb59 : hasBody Tryz.prog 59 := hasBody.mk Tryz.func59 rfl (by kernel_rfl)
theorem hb60 : hasBody Tryz.prog 60 := hasBody.mk Tryz.func60 rfl (by kernel_rfl)
theorem hb61 : hasBody Tryz.prog 61 := hasBody.mk Tryz.func61 rfl (by kernel_rfl)
theorem hb62 : hasBody Tryz.prog 62 := hasBody.mk Tryz.func62 rfl (by kernel_rfl)
theorem hb63 : hasBody Tryz.prog 63 := hasBody.mk Tryz.func63 rfl (by kernel_rfl)
theorem hb64 : hasBody Tryz.prog 64 := hasBody.mk Tryz.func64 rfl (by kernel_rfl)
theorem hb65 : hasBody Tryz.prog 65 := hasBody.mk Tryz.func65 rfl (by kernel_rfl)
theorem hb66 : hasBody Tryz.prog 66 := hasBody.mk Tryz.func66 rfl (by kernel_rfl)
theorem hb67 : hasBody Tryz.prog 67 := hasBody.mk Tryz.func67 rfl (by kernel_rfl)
theorem hb68 : hasBody Tryz.prog 68 := hasBody.mk Tryz.func68 rfl (by kernel_rfl)
theorem hb69 : hasBody Tryz.prog 69 := hasBody.mk Tryz.func69 rfl (by kernel_rfl)
theorem hb70 : hasBody Tryz.prog 70 := hasBody.mk Tryz.func70 rfl (by kernel_rfl)
theorem hb71 : hasBody Tryz.prog 71 := hasBody.mk Tryz.func71 rfl (by kernel_rfl)
theorem hb72 : hasBody Tryz.prog 72 := hasBody.mk Tryz.func72 rfl (by kernel_rfl)
theorem hb73 : hasBody Tryz.prog 73 := hasBody.mk Tryz.func73 rfl (by kernel_rfl)
theorem hb74 : hasBody Tryz.prog 74 := hasBody.mk Tryz.func74 rfl (by kernel_rfl)
theorem hb75 : hasBody Tryz.prog 75 := hasBody.mk Tryz.func75 rfl (by kernel_rfl)
theorem hb76 : hasBody Tryz.prog 76 := hasBody.mk Tryz.func76 rfl (by kernel_rfl)
theorem hb77 : hasBody Tryz.prog 77 := hasBody.mk Tryz.func77 rfl (by kernel_rfl)
theorem hb78 : hasBody Tryz.prog 78 := hasBody.mk Tryz.func78 rfl (by kernel_rfl)
theorem hb79 : hasBody Tryz.prog 79 := hasBody.mk Tryz.func79 rfl (by kernel_rfl)
theorem hb80 : hasBody Tryz.prog 80 := hasBody.mk Tryz.func80 rfl (by kernel_rfl)
theorem hb81 : hasBody Tryz.prog 81 := hasBody.mk Tryz.func81 rfl (by kernel_rfl)
theorem hb82 : hasBody Tryz.prog 82 := hasBody.mk Tryz.func82 rfl (by kernel_rfl)
theorem hb83 : hasBody Tryz.prog 83 := hasBody.mk Tryz.func83 rfl (by kernel_rfl)
theorem hb84 : hasBody Tryz.prog 84 := hasBody.mk Tryz.func84 rfl (by kernel_rfl)
theorem hb85 : hasBody Tryz.prog 85 := hasBody.mk Tryz.func85 rfl (by kernel_rfl)
theorem hb86 : hasBody Tryz.prog 86 := hasBody.mk Tryz.func86 rfl (by kernel_rfl)
theorem hb87 : hasBody Tryz.prog 87 := hasBody.mk Tryz.func87 rfl (by kernel_rfl)
theorem hb88 : hasBody Tryz.prog 88 := hasBody.mk Tryz.func88 rfl (by kernel_rfl)
theorem hb89 : hasBody Tryz.prog 89 := hasBody.mk Tryz.func89 rfl (by kernel_rfl)
theorem hb90 : hasBody Tryz.prog 90 := hasBody.mk Tryz.func90 rfl (by kernel_rfl)
theorem hb91 : hasBody Tryz.prog 91 := hasBody.mk Tryz.func91 rfl (by kernel_rfl)
theorem hb92 : hasBody Tryz.prog 92 := hasBody.mk Tryz.func92 rfl (by kernel_rfl)
theorem hb93 : hasBody Tryz.prog 93 := hasBody.mk Tryz.func93 rfl (by kernel_rfl)
theorem hb94 : hasBody Tryz.prog 94 := hasBody.mk Tryz.func94 rfl (by kernel_rfl)
theorem hb95 : hasBody Tryz.prog 95 := hasBody.mk Tryz.func95 rfl (by kernel_rfl)
theorem hb96 : hasBody Tryz.prog 96 := hasBody.mk Tryz.func96 rfl (by kernel_rfl)
theorem hb97 : hasBody Tryz.prog 97 := hasBody.mk Tryz.func97 rfl (by kernel_rfl)
theorem hb98 : hasBody Tryz.prog 98 := hasBody.mk Tryz.func98 rfl (by kernel_rfl)
theorem hb99 : hasBody Tryz.prog 99 := hasBody.mk Tryz.func99 rfl (by kernel_rfl)
theorem hb100 : hasBody Tryz.prog 100 := hasBody.mk Tryz.func100 rfl (by kernel_rfl)
theorem hb101 : hasBody Tryz.prog 101 := hasBody.mk Tryz.func101 rfl (by kernel_rfl)
theorem hb102 : hasBody Tryz.prog 102 := hasBody.mk Tryz.func102 rfl (by kernel_rfl)
theorem hb103 : hasBody Tryz.prog 103 := hasBody.mk Tryz.func103 rfl (by kernel_rfl)
theorem hb104 : hasBody Tryz.prog 104 := hasBody.mk Tryz.func104 rfl (by kernel_rfl)
theorem hb106 : hasBody Tryz.prog 106 := hasBody.mk Tryz.func106 rfl (by kernel_rfl)
theorem hb107 : hasBody Tryz.prog 107 := hasBody.mk Tryz.func107 rfl (by kernel_rfl)
theorem hb108 : hasBody Tryz.prog 108 := hasBody.mk Tryz.func108 rfl (by kernel_rfl)
theorem hb109 : hasBody Tryz.prog 109 := hasBody.mk Tryz.func109 rfl (by kernel_rfl)
theorem hb110 : hasBody Tryz.prog 110 := hasBody.mk Tryz.func110 rfl (by kernel_rfl)
theorem hb114 : hasBody Tryz.prog 114 := hasBody.mk Tryz.func114 rfl (by kernel_rfl)
theorem hb115 : hasBody Tryz.prog 115 := hasBody.mk Tryz.func115 rfl (by kernel_rfl)
theorem hb116 : hasBody Tryz.prog 116 := hasBody.mk Tryz.func116 rfl (by kernel_rfl)
theorem hb117 : hasBody Tryz.prog 117 := hasBody.mk Tryz.func117 rfl (by kernel_rfl)
theorem hb118 : hasBody Tryz.prog 118 := hasBody.mk Tryz.func118 rfl (by kernel_rfl)
theorem hb121 : hasBody Tryz.prog 121 := hasBody.mk Tryz.func121 rfl (by kernel_rfl)
theorem hb122 : hasBody Tryz.prog 122 := hasBody.mk Tryz.func122 rfl (by kernel_rfl)
theorem hb123 : hasBody Tryz.prog 123 := hasBody.mk Tryz.func123 rfl (by kernel_rfl)
theorem hb124 : hasBody Tryz.prog 124 := hasBody.mk Tryz.func124 rfl (by kernel_rfl)
theorem hb125 : hasBody Tryz.prog 125 := hasBody.mk Tryz.func125 rfl (by kernel_rfl)
theorem hb126 : hasBody Tryz.prog 126 := hasBody.mk Tryz.func126 rfl (by kernel_rfl)
theorem hb127 : hasBody Tryz.prog 127 := hasBody.mk Tryz.func127 rfl (by kernel_rfl)
theorem hb129 : hasBody Tryz.prog 129 := hasBody.mk Tryz.func129 rfl (by kernel_rfl)
theorem hb130 : hasBody Tryz.prog 130 := hasBody.mk Tryz.func130 rfl (by kernel_rfl)
theorem hb131 : hasBody Tryz.prog 131 := hasBody.mk Tryz.func131 rfl (by kernel_rfl)
theorem hb135 : hasBody Tryz.prog 135 := hasBody.mk Tryz.func135 rfl (by kernel_rfl)
theorem hb137 : hasBody Tryz.prog 137 := hasBody.mk Tryz.func137 rfl (by kernel_rfl)
theorem hb138 : hasBody Tryz.prog 138 := hasBody.mk Tryz.func138 rfl (by kernel_rfl)
theorem hb151 : hasBody Tryz.prog 151 := hasBody.mk Tryz.func151 rfl (by kernel_rfl)
theorem hb152 : hasBody Tryz.prog 152 := hasBody.mk Tryz.func152 rfl (by kernel_rfl)
theorem hb175 : hasBody Tryz.prog 175 := hasBody.mk Tryz.func175 rfl (by kernel_rfl)
end Go.Proofs.YtegibnmfiogebaaGreatDoor
