/-
  Tables of types, data and names for this seat's program.
-/
import Derived.Test.YtplfdbfdalaefaaGreatDoorGY
import Derived.Test.YtplfdbfdalaefaaGreatDoorGW
import Derived.Test.YtplfdbfdalaefaaGreatDoorGJ
import Derived.Test.YtplfdbfdalaefaaGreatDoorGZ
import Derived.Test.YtplfdbfdalaefaaGreatDoorGU
import Derived.Test.YtplfdbfdalaefaaGreatDoorGV
import Derived.Test.YtplfdbfdalaefaaGreatDoorGI
import Derived.Test.YtplfdbfdalaefaaGreatDoorHL
import Derived.Test.YtplfdbfdalaefaaGreatDoorHT
import Derived.Test.YtplfdbfdalaefaaGreatDoorSh
import Derived.Test.YtplfdbfdalaefaaGreatDoorProg
namespace Go.Proofs.YtplfdbfdalaefaaGreatDoor
open G
set_option linter.unusedVariables false
set_option linter.unusedSimpArgs false
set_option maxRecDepth 100000
set_option maxHeartbeats 4000000
structure Herd where
  Names : List ByteArray
  Eats : List Int
  Foes : List Int
deriving DecidableEq
structure l00Src where
  code : List Int
  at_ : Int
  seed : Int
deriving DecidableEq
structure Pasture where
  Wide : Int
  High : Int
  Grass : Arr 10 (Arr 10 Int)
  East : Arr 10 Int
  South : Arr 10 Int
deriving DecidableEq
def cPasture : Cd Pasture := ⟨122, fun x => (ci .i8).enc x.Wide ++ ((ci .i8).enc x.High ++ ((carr 10 (carr 10 (ci .i16))).enc x.Grass ++ ((carr 10 (ci .u16)).enc x.East ++ ((carr 10 (ci .u16)).enc x.South)))), fun x => by simp only [List.length_append, Cd.len]; rfl, fun x u hu => by
  simp only [List.mem_append] at hu
  rcases hu with hu | hu | hu | hu | hu <;> exact Cd.one _ _ _ (by assumption)⟩
def pre_Pasture_0 (x : Pasture) : List Value := []
def post_Pasture_0 (x : Pasture) : List Value := (ci .i8).enc x.High ++ ((carr 10 (carr 10 (ci .i16))).enc x.Grass ++ ((carr 10 (ci .u16)).enc x.East ++ ((carr 10 (ci .u16)).enc x.South)))
theorem fe_Pasture_0 (x : Pasture) : cPasture.enc x = pre_Pasture_0 x ++ ((ci .i8).enc x.Wide ++ post_Pasture_0 x) := by first | rfl | simp only [cPasture, pre_Pasture_0, post_Pasture_0, List.append_assoc, List.nil_append, List.append_nil] | (simp only [cPasture, pre_Pasture_0, post_Pasture_0, List.append_assoc, List.nil_append, List.append_nil]; rfl)
theorem fl_Pasture_0 (x : Pasture) : (pre_Pasture_0 x).length = 0 := by first | rfl | (simp only [pre_Pasture_0, List.length_append, Cd.len]; rfl)
def pre_Pasture_1 (x : Pasture) : List Value := (ci .i8).enc x.Wide
def post_Pasture_1 (x : Pasture) : List Value := (carr 10 (carr 10 (ci .i16))).enc x.Grass ++ ((carr 10 (ci .u16)).enc x.East ++ ((carr 10 (ci .u16)).enc x.South))
theorem fe_Pasture_1 (x : Pasture) : cPasture.enc x = pre_Pasture_1 x ++ ((ci .i8).enc x.High ++ post_Pasture_1 x) := by first | rfl | simp only [cPasture, pre_Pasture_1, post_Pasture_1, List.append_assoc, List.nil_append, List.append_nil] | (simp only [cPasture, pre_Pasture_1, post_Pasture_1, List.append_assoc, List.nil_append, List.append_nil]; rfl)
theorem fl_Pasture_1 (x : Pasture) : (pre_Pasture_1 x).length = 1 := by first | rfl | (simp only [pre_Pasture_1, List.length_append, Cd.len]; rfl)
theorem put_Pasture_1 {x : Pasture} {f' : Int} {off : Nat} {vs : List Value} (h : Put (ci .i8) x.High off vs f') : Put cPasture x (1 + off) vs (⟨x.Wide, f', x.Grass, x.East, x.South⟩ : Pasture) := Put.fld h (fl_Pasture_1 x) (Nat.le_of_ble_eq_true rfl) (fe_Pasture_1 x) (fe_Pasture_1 (⟨x.Wide, f', x.Grass, x.East, x.South⟩ : Pasture))
def pre_Pasture_2 (x : Pasture) : List Value := (ci .i8).enc x.Wide ++ (ci .i8).enc x.High
def post_Pasture_2 (x : Pasture) : List Value := (carr 10 (ci .u16)).enc x.East ++ ((carr 10 (ci .u16)).enc x.South)
theorem fe_Pasture_2 (x : Pasture) : cPasture.enc x = pre_Pasture_2 x ++ ((carr 10 (carr 10 (ci .i16))).enc x.Grass ++ post_Pasture_2 x) := by first | rfl | simp only [cPasture, pre_Pasture_2, post_Pasture_2, List.append_assoc, List.nil_append, List.append_nil] | (simp only [cPasture, pre_Pasture_2, post_Pasture_2, List.append_assoc, List.nil_append, List.append_nil]; rfl)
theorem fl_Pasture_2 (x : Pasture) : (pre_Pasture_2 x).length = 2 := by first | rfl | (simp only [pre_Pasture_2, List.length_append, Cd.len]; rfl)
theorem put_Pasture_2 {x : Pasture} {f' : Arr 10 (Arr 10 Int)} {off : Nat} {vs : List Value} (h : Put (carr 10 (carr 10 (ci .i16))) x.Grass off vs f') : Put cPasture x (2 + off) vs (⟨x.Wide, x.High, f', x.East, x.South⟩ : Pasture) := Put.fld h (fl_Pasture_2 x) (Nat.le_of_ble_eq_true rfl) (fe_Pasture_2 x) (fe_Pasture_2 (⟨x.Wide, x.High, f', x.East, x.South⟩ : Pasture))
def pre_Pasture_3 (x : Pasture) : List Value := (ci .i8).enc x.Wide ++ (ci .i8).enc x.High ++ (carr 10 (carr 10 (ci .i16))).enc x.Grass
def post_Pasture_3 (x : Pasture) : List Value := (carr 10 (ci .u16)).enc x.South
theorem fe_Pasture_3 (x : Pasture) : cPasture.enc x = pre_Pasture_3 x ++ ((carr 10 (ci .u16)).enc x.East ++ post_Pasture_3 x) := by first | rfl | simp only [cPasture, pre_Pasture_3, post_Pasture_3, List.append_assoc, List.nil_append, List.append_nil] | (simp only [cPasture, pre_Pasture_3, post_Pasture_3, List.append_assoc, List.nil_append, List.append_nil]; rfl)
theorem fl_Pasture_3 (x : Pasture) : (pre_Pasture_3 x).length = 102 := by first | rfl | (simp only [pre_Pasture_3, List.length_append, Cd.len]; rfl)
theorem put_Pasture_3 {x : Pasture} {f' : Arr 10 Int} {off : Nat} {vs : List Value} (h : Put (carr 10 (ci .u16)) x.East off vs f') : Put cPasture x (102 + off) vs (⟨x.Wide, x.High, x.Grass, f', x.South⟩ : Pasture) := Put.fld h (fl_Pasture_3 x) (Nat.le_of_ble_eq_true rfl) (fe_Pasture_3 x) (fe_Pasture_3 (⟨x.Wide, x.High, x.Grass, f', x.South⟩ : Pasture))
def pre_Pasture_4 (x : Pasture) : List Value := (ci .i8).enc x.Wide ++ (ci .i8).enc x.High ++ (carr 10 (carr 10 (ci .i16))).enc x.Grass ++ (carr 10 (ci .u16)).enc x.East
def post_Pasture_4 (x : Pasture) : List Value := []
theorem fe_Pasture_4 (x : Pasture) : cPasture.enc x = pre_Pasture_4 x ++ ((carr 10 (ci .u16)).enc x.South ++ post_Pasture_4 x) := by first | rfl | simp only [cPasture, pre_Pasture_4, post_Pasture_4, List.append_assoc, List.nil_append, List.append_nil] | (simp only [cPasture, pre_Pasture_4, post_Pasture_4, List.append_assoc, List.nil_append, List.append_nil]; rfl)
theorem fl_Pasture_4 (x : Pasture) : (pre_Pasture_4 x).length = 112 := by first | rfl | (simp only [pre_Pasture_4, List.length_append, Cd.len]; rfl)
theorem put_Pasture_4 {x : Pasture} {f' : Arr 10 Int} {off : Nat} {vs : List Value} (h : Put (carr 10 (ci .u16)) x.South off vs f') : Put cPasture x (112 + off) vs (⟨x.Wide, x.High, x.Grass, x.East, f'⟩ : Pasture) := Put.fld h (fl_Pasture_4 x) (Nat.le_of_ble_eq_true rfl) (fe_Pasture_4 x) (fe_Pasture_4 (⟨x.Wide, x.High, x.Grass, x.East, f'⟩ : Pasture))
structure Spot where
  X : Int
  Y : Int
deriving DecidableEq
def cSpot : Cd Spot := ⟨2, fun x => [.int .i8 x.X, .int .i8 x.Y], fun _ => rfl, fun x u hu => by
  simp only [List.mem_cons, List.not_mem_nil, or_false] at hu
  rcases hu with rfl | rfl <;> rfl⟩
structure Hurdle where
  At : Spot
  South : Bool
deriving DecidableEq
def cHurdle : Cd Hurdle := ⟨3, fun x => [.int .i8 x.At.X, .int .i8 x.At.Y, .bool x.South], fun _ => rfl, fun x u hu => by
  simp only [List.mem_cons, List.not_mem_nil, or_false] at hu
  rcases hu with rfl | rfl | rfl <;> rfl⟩
def tU : List (Nat × TypeDesc) := [(2, .int .i64), (3, .int .i64), (4, .bool), (5, .int .u8), (9, .string), (21, .int .i32), (22, .slice 5), (24, .slice 9), (25, .slice 49), (26, .slice 55), (28, .struct #[{ name := "Names", type := 24, offset := 0, embedded := false, tag := "", pkgPath := "", byteOffset := 0 }, { name := "Eats", type := 25, offset := 1, embedded := false, tag := "", pkgPath := "", byteOffset := 24 }, { name := "Foes", type := 26, offset := 2, embedded := false, tag := "", pkgPath := "", byteOffset := 48 }]), (33, .slice 40), (39, .slice 3), (40, .slice 2), (49, .int .i16), (52, .int .i8), (53, .array 10 49), (54, .array 10 53), (55, .int .u16), (56, .array 10 55), (58, .struct #[{ name := "Wide", type := 52, offset := 0, embedded := false, tag := "", pkgPath := "", byteOffset := 0 }, { name := "High", type := 52, offset := 1, embedded := false, tag := "", pkgPath := "", byteOffset := 1 }, { name := "Grass", type := 54, offset := 2, embedded := false, tag := "", pkgPath := "", byteOffset := 2 }, { name := "East", type := 56, offset := 102, embedded := false, tag := "", pkgPath := "", byteOffset := 202 }, { name := "South", type := 56, offset := 112, embedded := false, tag := "", pkgPath := "", byteOffset := 222 }]), (63, .struct #[{ name := "X", type := 52, offset := 0, embedded := false, tag := "", pkgPath := "", byteOffset := 0 }, { name := "Y", type := 52, offset := 1, embedded := false, tag := "", pkgPath := "", byteOffset := 1 }]), (66, .slice 63), (67, .slice 66), (72, .func #[9] #[4] false), (76, .slice 24), (77, .func #[72] #[] false), (78, .func #[72] #[] false), (85, .pointer 87), (87, .struct #[{ name := "addr", type := 85, offset := 0, embedded := false, tag := "", pkgPath := "strings", byteOffset := 0 }, { name := "buf", type := 22, offset := 1, embedded := false, tag := "", pkgPath := "strings", byteOffset := 8 }]), (98, .int .u64), (130, .array 10 2), (131, .array 10 130), (143, .int .u64), (145, .struct #[{ name := "code", type := 22, offset := 0, embedded := false, tag := "", pkgPath := "loop.example/g01345/spec", byteOffset := 0 }, { name := "at", type := 3, offset := 1, embedded := false, tag := "", pkgPath := "loop.example/g01345/spec", byteOffset := 24 }, { name := "seed", type := 143, offset := 2, embedded := false, tag := "", pkgPath := "loop.example/g01345/spec", byteOffset := 32 }]), (182, .array 256 4), (191, .array 10 53), (245, .struct #[{ name := "At", type := 63, offset := 0, embedded := false, tag := "", pkgPath := "", byteOffset := 0 }, { name := "South", type := 4, offset := 2, embedded := false, tag := "", pkgPath := "", byteOffset := 2 }])]
theorem tU_ok : okU Tryz.prog tU := ⟨by kernel_rfl, by kernel_rfl, by kernel_rfl, by kernel_rfl, by kernel_rfl, by kernel_rfl, by kernel_rfl, by kernel_rfl, by kernel_rfl, by kernel_rfl, by kernel_rfl, by kernel_rfl, by kernel_rfl, by kernel_rfl, by kernel_rfl, by kernel_rfl, by kernel_rfl, by kernel_rfl, by kernel_rfl, by kernel_rfl, by kernel_rfl, by kernel_rfl, by kernel_rfl, by kernel_rfl, by kernel_rfl, by kernel_rfl, by kernel_rfl, by kernel_rfl, by kernel_rfl, by kernel_rfl, by kernel_rfl, by kernel_rfl, by kernel_rfl, by kernel_rfl, by kernel_rfl, by kernel_rfl, by kernel_rfl, by kernel_rfl, trivial⟩
def tI : List (Nat × TI) := [(2, ⟨1, 8, .int .i64 0⟩), (3, ⟨1, 8, .int .i64 0⟩), (4, ⟨1, 1, .bool false⟩), (5, ⟨1, 1, .int .u8 0⟩), (9, ⟨1, 16, .string ByteArray.empty⟩), (22, ⟨1, 24, .slice none 0 0⟩), (24, ⟨1, 24, .slice none 0 0⟩), (25, ⟨1, 24, .slice none 0 0⟩), (26, ⟨1, 24, .slice none 0 0⟩), (28, ⟨3, 72, .agg #[.slice none 0 0, .slice none 0 0, .slice none 0 0]⟩), (40, ⟨1, 24, .slice none 0 0⟩), (49, ⟨1, 2, .int .i16 0⟩), (52, ⟨1, 1, .int .i8 0⟩), (53, ⟨10, 20, .agg #[.int .i16 0, .int .i16 0, .int .i16 0, .int .i16 0, .int .i16 0, .int .i16 0, .int .i16 0, .int .i16 0, .int .i16 0, .int .i16 0]⟩), (54, ⟨100, 200, .agg #[.int .i16 0, .int .i16 0, .int .i16 0, .int .i16 0, .int .i16 0, .int .i16 0, .int .i16 0, .int .i16 0, .int .i16 0, .int .i16 0, .int .i16 0, .int .i16 0, .int .i16 0, .int .i16 0, .int .i16 0, .int .i16 0, .int .i16 0, .int .i16 0, .int .i16 0, .int .i16 0, .int .i16 0, .int .i16 0, .int .i16 0, .int .i16 0, .int .i16 0, .int .i16 0, .int .i16 0, .int .i16 0, .int .i16 0, .int .i16 0, .int .i16 0, .int .i16 0, .int .i16 0, .int .i16 0, .int .i16 0, .int .i16 0, .int .i16 0, .int .i16 0, .int .i16 0, .int .i16 0, .int .i16 0, .int .i16 0, .int .i16 0, .int .i16 0, .int .i16 0, .int .i16 0, .int .i16 0, .int .i16 0, .int .i16 0, .int .i16 0, .int .i16 0, .int .i16 0, .int .i16 0, .int .i16 0, .int .i16 0, .int .i16 0, .int .i16 0, .int .i16 0, .int .i16 0, .int .i16 0, .int .i16 0, .int .i16 0, .int .i16 0, .int .i16 0, .int .i16 0, .int .i16 0, .int .i16 0, .int .i16 0, .int .i16 0, .int .i16 0, .int .i16 0, .int .i16 0, .int .i16 0, .int .i16 0, .int .i16 0, .int .i16 0, .int .i16 0, .int .i16 0, .int .i16 0, .int .i16 0, .int .i16 0, .int .i16 0, .int .i16 0, .int .i16 0, .int .i16 0, .int .i16 0, .int .i16 0, .int .i16 0, .int .i16 0, .int .i16 0, .int .i16 0, .int .i16 0, .int .i16 0, .int .i16 0, .int .i16 0, .int .i16 0, .int .i16 0, .int .i16 0, .int .i16 0, .int .i16 0]⟩), (55, ⟨1, 2, .int .u16 0⟩), (56, ⟨10, 20, .agg #[.int .u16 0, .int .u16 0, .int .u16 0, .int .u16 0, .int .u16 0, .int .u16 0, .int .u16 0, .int .u16 0, .int .u16 0, .int .u16 0]⟩), (58, ⟨122, 242, .agg #[.int .i8 0, .int .i8 0, .int .i16 0, .int .i16 0, .int .i16 0, .int .i16 0, .int .i16 0, .int .i16 0, .int .i16 0, .int .i16 0, .int .i16 0, .int .i16 0, .int .i16 0, .int .i16 0, .int .i16 0, .int .i16 0, .int .i16 0, .int .i16 0, .int .i16 0, .int .i16 0, .int .i16 0, .int .i16 0, .int .i16 0, .int .i16 0, .int .i16 0, .int .i16 0, .int .i16 0, .int .i16 0, .int .i16 0, .int .i16 0, .int .i16 0, .int .i16 0, .int .i16 0, .int .i16 0, .int .i16 0, .int .i16 0, .int .i16 0, .int .i16 0, .int .i16 0, .int .i16 0, .int .i16 0, .int .i16 0, .int .i16 0, .int .i16 0, .int .i16 0, .int .i16 0, .int .i16 0, .int .i16 0, .int .i16 0, .int .i16 0, .int .i16 0, .int .i16 0, .int .i16 0, .int .i16 0, .int .i16 0, .int .i16 0, .int .i16 0, .int .i16 0, .int .i16 0, .int .i16 0, .int .i16 0, .int .i16 0, .int .i16 0, .int .i16 0, .int .i16 0, .int .i16 0, .int .i16 0, .int .i16 0, .int .i16 0, .int .i16 0, .int .i16 0, .int .i16 0, .int .i16 0, .int .i16 0, .int .i16 0, .int .i16 0, .int .i16 0, .int .i16 0, .int .i16 0, .int .i16 0, .int .i16 0, .int .i16 0, .int .i16 0, .int .i16 0, .int .i16 0, .int .i16 0, .int .i16 0, .int .i16 0, .int .i16 0, .int .i16 0, .int .i16 0, .int .i16 0, .int .i16 0, .int .i16 0, .int .i16 0, .int .i16 0, .int .i16 0, .int .i16 0, .int .i16 0, .int .i16 0, .int .i16 0, .int .i16 0, .int .u16 0, .int .u16 0, .int .u16 0, .int .u16 0, .int .u16 0, .int .u16 0, .int .u16 0, .int .u16 0, .int .u16 0, .int .u16 0, .int .u16 0, .int .u16 0, .int .u16 0, .int .u16 0, .int .u16 0, .int .u16 0, .int .u16 0, .int .u16 0, .int .u16 0, .int .u16 0]⟩), (63, ⟨2, 2, .agg #[.int .i8 0, .int .i8 0]⟩), (66, ⟨1, 24, .slice none 0 0⟩), (76, ⟨1, 24, .slice none 0 0⟩), (85, ⟨1, 8, .pointer none⟩), (87, ⟨2, 32, .agg #[.pointer none, .slice none 0 0]⟩), (130, ⟨10, 80, .agg #[.int .i64 0, .int .i64 0, .int .i64 0, .int .i64 0, .int .i64 0, .int .i64 0, .int .i64 0, .int .i64 0, .int .i64 0, .int .i64 0]⟩), (131, ⟨100, 800, .agg #[.int .i64 0, .int .i64 0, .int .i64 0, .int .i64 0, .int .i64 0, .int .i64 0, .int .i64 0, .int .i64 0, .int .i64 0, .int .i64 0, .int .i64 0, .int .i64 0, .int .i64 0, .int .i64 0, .int .i64 0, .int .i64 0, .int .i64 0, .int .i64 0, .int .i64 0, .int .i64 0, .int .i64 0, .int .i64 0, .int .i64 0, .int .i64 0, .int .i64 0, .int .i64 0, .int .i64 0, .int .i64 0, .int .i64 0, .int .i64 0, .int .i64 0, .int .i64 0, .int .i64 0, .int .i64 0, .int .i64 0, .int .i64 0, .int .i64 0, .int .i64 0, .int .i64 0, .int .i64 0, .int .i64 0, .int .i64 0, .int .i64 0, .int .i64 0, .int .i64 0, .int .i64 0, .int .i64 0, .int .i64 0, .int .i64 0, .int .i64 0, .int .i64 0, .int .i64 0, .int .i64 0, .int .i64 0, .int .i64 0, .int .i64 0, .int .i64 0, .int .i64 0, .int .i64 0, .int .i64 0, .int .i64 0, .int .i64 0, .int .i64 0, .int .i64 0, .int .i64 0, .int .i64 0, .int .i64 0, .int .i64 0, .int .i64 0, .int .i64 0, .int .i64 0, .int .i64 0, .int .i64 0, .int .i64 0, .int .i64 0, .int .i64 0, .int .i64 0, .int .i64 0, .int .i64 0, .int .i64 0, .int .i64 0, .int .i64 0, .int .i64 0, .int .i64 0, .int .i64 0, .int .i64 0, .int .i64 0, .int .i64 0, .int .i64 0, .int .i64 0, .int .i64 0, .int .i64 0, .int .i64 0, .int .i64 0, .int .i64 0, .int .i64 0, .int .i64 0, .int .i64 0, .int .i64 0, .int .i64 0]⟩), (143, ⟨1, 8, .int .u64 0⟩), (145, ⟨3, 40, .agg #[.slice none 0 0, .int .i64 0, .int .u64 0]⟩), (182, ⟨256, 256, .agg #[.bool false, .bool false, .bool false, .bool false, .bool false, .bool false, .bool false, .bool false, .bool false, .bool false, .bool false, .bool false, .bool false, .bool false, .bool false, .bool false, .bool false, .bool false, .bool false, .bool false, .bool false, .bool false, .bool false, .bool false, .bool false, .bool false, .bool false, .bool false, .bool false, .bool false, .bool false, .bool false, .bool false, .bool false, .bool false, .bool false, .bool false, .bool false, .bool false, .bool false, .bool false, .bool false, .bool false, .bool false, .bool false, .bool false, .bool false, .bool false, .bool false, .bool false, .bool false, .bool false, .bool false, .bool false, .bool false, .bool false, .bool false, .bool false, .bool false, .bool false, .bool false, .bool false, .bool false, .bool false, .bool false, .bool false, .bool false, .bool false, .bool false, .bool false, .bool false, .bool false, .bool false, .bool false, .bool false, .bool false, .bool false, .bool false, .bool false, .bool false, .bool false, .bool false, .bool false, .bool false, .bool false, .bool false, .bool false, .bool false, .bool false, .bool false, .bool false, .bool false, .bool false, .bool false, .bool false, .bool false, .bool false, .bool false, .bool false, .bool false, .bool false, .bool false, .bool false, .bool false, .bool false, .bool false, .bool false, .bool false, .bool false, .bool false, .bool false, .bool false, .bool false, .bool false, .bool false, .bool false, .bool false, .bool false, .bool false, .bool false, .bool false, .bool false, .bool false, .bool false, .bool false, .bool false, .bool false, .bool false, .bool false, .bool false, .bool false, .bool false, .bool false, .bool false, .bool false, .bool false, .bool false, .bool false, .bool false, .bool false, .bool false, .bool false, .bool false, .bool false, .bool false, .bool false, .bool false, .bool false, .bool false, .bool false, .bool false, .bool false, .bool false, .bool false, .bool false, .bool false, .bool false, .bool false, .bool false, .bool false, .bool false, .bool false, .bool false, .bool false, .bool false, .bool false, .bool false, .bool false, .bool false, .bool false, .bool false, .bool false, .bool false, .bool false, .bool false, .bool false, .bool false, .bool false, .bool false, .bool false, .bool false, .bool false, .bool false, .bool false, .bool false, .bool false, .bool false, .bool false, .bool false, .bool false, .bool false, .bool false, .bool false, .bool false, .bool false, .bool false, .bool false, .bool false, .bool false, .bool false, .bool false, .bool false, .bool false, .bool false, .bool false, .bool false, .bool false, .bool false, .bool false, .bool false, .bool false, .bool false, .bool false, .bool false, .bool false, .bool false, .bool false, .bool false, .bool false, .bool false, .bool false, .bool false, .bool false, .bool false, .bool false, .bool false, .bool false, .bool false, .bool false, .bool false, .bool false, .bool false, .bool false, .bool false, .bool false, .bool false, .bool false, .bool false, .bool false, .bool false, .bool false, .bool false, .bool false, .bool false, .bool false, .bool false, .bool false, .bool false, .bool false, .bool false, .bool false, .bool false, .bool false, .bool false, .bool false, .bool false]⟩), (191, ⟨100, 200, .agg #[.int .i16 0, .int .i16 0, .int .i16 0, .int .i16 0, .int .i16 0, .int .i16 0, .int .i16 0, .int .i16 0, .int .i16 0, .int .i16 0, .int .i16 0, .int .i16 0, .int .i16 0, .int .i16 0, .int .i16 0, .int .i16 0, .int .i16 0, .int .i16 0, .int .i16 0, .int .i16 0, .int .i16 0, .int .i16 0, .int .i16 0, .int .i16 0, .int .i16 0, .int .i16 0, .int .i16 0, .int .i16 0, .int .i16 0, .int .i16 0, .int .i16 0, .int .i16 0, .int .i16 0, .int .i16 0, .int .i16 0, .int .i16 0, .int .i16 0, .int .i16 0, .int .i16 0, .int .i16 0, .int .i16 0, .int .i16 0, .int .i16 0, .int .i16 0, .int .i16 0, .int .i16 0, .int .i16 0, .int .i16 0, .int .i16 0, .int .i16 0, .int .i16 0, .int .i16 0, .int .i16 0, .int .i16 0, .int .i16 0, .int .i16 0, .int .i16 0, .int .i16 0, .int .i16 0, .int .i16 0, .int .i16 0, .int .i16 0, .int .i16 0, .int .i16 0, .int .i16 0, .int .i16 0, .int .i16 0, .int .i16 0, .int .i16 0, .int .i16 0, .int .i16 0, .int .i16 0, .int .i16 0, .int .i16 0, .int .i16 0, .int .i16 0, .int .i16 0, .int .i16 0, .int .i16 0, .int .i16 0, .int .i16 0, .int .i16 0, .int .i16 0, .int .i16 0, .int .i16 0, .int .i16 0, .int .i16 0, .int .i16 0, .int .i16 0, .int .i16 0, .int .i16 0, .int .i16 0, .int .i16 0, .int .i16 0, .int .i16 0, .int .i16 0, .int .i16 0, .int .i16 0, .int .i16 0, .int .i16 0]⟩), (245, ⟨3, 3, .agg #[.int .i8 0, .int .i8 0, .bool false]⟩)]
theorem tI_ok : okI Tryz.prog tI := ⟨by kernel_rfl, by kernel_rfl, by kernel_rfl, by kernel_rfl, by kernel_rfl, by kernel_rfl, by kernel_rfl, by kernel_rfl, by kernel_rfl, by kernel_rfl, by kernel_rfl, by kernel_rfl, by kernel_rfl, by kernel_rfl, by kernel_rfl, by kernel_rfl, by kernel_rfl, by kernel_rfl, by kernel_rfl, by kernel_rfl, by kernel_rfl, by kernel_rfl, by kernel_rfl, by kernel_rfl, by kernel_rfl, by kernel_rfl, by kernel_rfl, by kernel_rfl, by kernel_rfl, by kernel_rfl, trivial⟩
theorem mixed : Tryz.prog.follows .mixedOrders = true := by kernel_rfl
theorem eqG63 : Tryz.prog.eqGuardType Tryz.prog.depth 63 = false := by kernel_rfl
theorem eqT63 : EqT Tryz.prog 63 cSpot fun z => .agg (cSpot.enc z).toArray := EqT.mk tU_ok (T := 63) rfl (by kernel_rfl) fun x y => by
  show some (decide (x.X = y.X) && (decide (x.Y = y.Y) && (true))) = _
  cases x; cases y
  congr 1
  rw [Bool.eq_iff_iff]
  simp
theorem ckn63 (n : Nat) (e : Bool) (x : Spot) (w : World) : (Instr.checkKey e (n + 1 + 1) 63 (keyV cSpot x)).run Tryz.prog w = .ok () w := by
 have p0 : (part 52 (cSpot.enc x).toArray 0).run Tryz.prog w = .ok (.int .i8 x.X) w := run_part_plain (P := Tryz.prog) (e := 52) w (by kernel_rfl) rfl
 have p1 : (part 52 (cSpot.enc x).toArray 1).run Tryz.prog w = .ok (.int .i8 x.Y) w := run_part_plain (P := Tryz.prog) (e := 52) w (by kernel_rfl) rfl
 unfold Instr.checkKey
 simp only [Sem.run_bind, run_underlying Tryz.underlying63, Result.andThen_ok, keyV]
 simp [p0, p1, Instr.checkKey, run_underlying Tryz.underlying52]
theorem ck63 (e : Bool) (x : Spot) (w : World) : (Instr.checkKey e 10000 63 (keyV cSpot x)).run Tryz.prog w = .ok () w := ckn63 9998 e x w
theorem sbn63 (n : Nat) (x : Spot) : Instr.sameBits (n + 1) (keyV cSpot x) (keyV cSpot x) = true := by
 simp [Instr.sameBits, cSpot]
theorem sb63 (x : Spot) : Instr.sameBits 10000 (keyV cSpot x) (keyV cSpot x) = true := sbn63 9999 x
theorem key63 : KeyOk Tryz.prog 63 cSpot := ⟨by kernel_rfl, ck63, fun x y w => eqT63 9980 x y w, sb63⟩
theorem hb5 : hasBody Tryz.prog 5 := hasBody.mk Tryz.func5 rfl (by kernel_rfl)
theorem hb6 : hasBody Tryz.prog 6 := hasBody.mk Tryz.func6 rfl (by kernel_rfl)
theorem hb7 : hasBody Tryz.prog 7 := hasBody.mk Tryz.func7 rfl (by kernel_rfl)
theorem hb8 : hasBody Tryz.prog 8 := hasBody.mk Tryz.func8 rfl (by kernel_rfl)
theorem hb9 : hasBody Tryz.prog 9 := hasBody.mk Tryz.func9 rfl (by kernel_rfl)
theorem hb10 : hasBody Tryz.prog 10 := hasBody.mk Tryz.func10 rfl (by kernel_rfl)
theorem hb11 : hasBody Tryz.prog 11 := hasBody.mk Tryz.func11 rfl (by kernel_rfl)
theorem hb12 : hasBody Tryz.prog 12 := hasBody.mk Tryz.func12 rfl (by kernel_rfl)
theorem hb13 : hasBody Tryz.prog 13 := hasBody.mk Tryz.func13 rfl (by kernel_rfl)
theorem hb14 : hasBody Tryz.prog 14 := hasBody.mk Tryz.func14 rfl (by kernel_rfl)
theorem hb15 : hasBody Tryz.prog 15 := hasBody.mk Tryz.func15 rfl (by kernel_rfl)
theorem hb16 : hasBody Tryz.prog 16 := hasBody.mk Tryz.func16 rfl (by kernel_rfl)
theorem hb17 : hasBody Tryz.prog 17 := hasBody.mk Tryz.func17 rfl (by kernel_rfl)
theorem hb18 : hasBody Tryz.prog 18 := hasBody.mk Tryz.func18 rfl (by kernel_rfl)
theorem hb19 : hasBody Tryz.prog 19 := hasBody.mk Tryz.func19 rfl (by kernel_rfl)
theorem hb20 : hasBody Tryz.prog 20 := hasBody.mk Tryz.func20 rfl (by kernel_rfl)
theorem hb21 : hasBody Tryz.prog 21 := hasBody.mk Tryz.func21 rfl (by kernel_rfl)
theorem hb22 : hasBody Tryz.prog 22 := hasBody.mk Tryz.func22 rfl (by kernel_rfl)
theorem hb23 : hasBody Tryz.prog 23 := hasBody.mk Tryz.func23 rfl (by kernel_rfl)
theorem hb24 : hasBody Tryz.prog 24 := hasBody.mk Tryz.func24 rfl (by kernel_rfl)
theorem hb25 : hasBody Tryz.prog 25 := hasBody.mk Tryz.func25 rfl (by kernel_rfl)
theorem hb26 : hasBody Tryz.prog 26 := hasBody.mk Tryz.func26 rfl (by kernel_rfl)
theorem hb27 : hasBody Tryz.prog 27 := hasBody.mk Tryz.func27 rfl (by kernel_rfl)
theorem hb28 : hasBody Tryz.prog 28 := hasBody.mk Tryz.func28 rfl (by kernel_rfl)
theorem hb29 : hasBody Tryz.prog 29 := hasBody.mk Tryz.func29 rfl (by kernel_rfl)
theorem hb30 : hasBody Tryz.prog 30 := hasBody.mk Tryz.func30 rfl (by kernel_rfl)
theorem hb35 : hasBody Tryz.prog 35 := hasBody.mk Tryz.func35 rfl (by kernel_rfl)
theorem hb36 : hasBody Tryz.prog 36 := hasBody.mk Tryz.func36 rfl (by kernel_rfl)
theorem hb37 : hasBody Tryz.prog 37 := hasBody.mk Tryz.func37 rfl (by kernel_rfl)
theorem hb38 : hasBody Tryz.prog 38 := hasBody.mk Tryz.func38 rfl (by kernel_rfl)
theorem hb39 : hasBody Tryz.prog 39 := hasBody.mk Tryz.func39 rfl (by kernel_rfl)
theorem hb40 : hasBody Tryz.prog 40 := hasBody.mk Tryz.func40 rfl (by kernel_rfl)
theorem hb41 : hasBody Tryz.prog 41 := hasBody.mk Tryz.func41 rfl (by kernel_rfl)
theorem hb42 : hasBody Tryz.prog 42 := hasBody.mk Tryz.func42 rfl (by kernel_rfl)
theorem hb43 : hasBody Tryz.prog 43 := hasBody.mk Tryz.func43 rfl (by kernel_rfl)
theorem hb44 : hasBody Tryz.prog 44 := hasBody.mk Tryz.func44 rfl (by kernel_rfl)
theorem hb45 : hasBody Tryz.prog 45 := hasBody.mk Tryz.func45 rfl (by kernel_rfl)
theorem hb46 : hasBody Tryz.prog 46 := hasBody.mk Tryz.func46 rfl (by kernel_rfl)
theorem hb47 : hasBody Tryz.prog 47 := hasBody.mk Tryz.func47 rfl (by kernel_rfl)
theorem hb48 : hasBody Tryz.prog 48 := hasBody.mk Tryz.func48 rfl (by kernel_rfl)
theorem hb49 : hasBody Tryz.prog 49 := hasBody.mk Tryz.func49 rfl (by kernel_rfl)
theorem hb50 : hasBody Tryz.prog 50 := hasBody.mk Tryz.func50 rfl (by kernel_rfl)
theorem hb51 : hasBody Tryz.prog 51 := hasBody.mk Tryz.func51 rfl (by kernel_rfl)
theorem hb52 : hasBody Tryz.prog 52 := hasBody.mk Tryz.func52 rfl (by kernel_rfl)
theorem hb53 : hasBody Tryz.prog 53 := hasBody.mk Tryz.func53 rfl (by kernel_rfl)
theorem hb54 : hasBody Tryz.prog 54 := hasBody.mk Tryz.func54 rfl (by kernel_rfl)
theorem hb55 : hasBody Tryz.prog 55 := hasBody.mk Tryz.func55 rfl (by kernel_rfl)
theorem hb56 : hasBody Tryz.prog 56 := hasBody.mk Tryz.func56 rfl (by kernel_rfl)
theorem hb57 : hasBody Tryz.prog 57 := hasBody.mk Tryz.func57 rfl (by kernel_rfl)
theorem hb58 : hasBody Tryz.prog 58 := hasBody.mk Tryz.func58 rfl (by kernel_rfl)
theorem hb59 : hasBody Tryz.prog 59 := hasBody.mk Tryz.func59 rfl (by kernel_rfl)
theorem hb60 : hasBody Tryz.prog 60 := hasBody.mk Tryz.func60 rfl (by kernel_rfl)
theorem hb61 : hasBody Tryz.prog 61 := hasBody.mk Tryz.func61 rfl (by kernel_rfl)
theorem hb62 : hasBody Tryz.prog 62 := hasBody.mk Tryz.func62 rfl (by kernel_rfl)
theorem hb63 : hasBody Tryz.prog 63 := hasBody.mk Tryz.func63 rfl (by kernel_rfl)
theorem hb64 : hasBody Tryz.prog 64 := hasBody.mk Tryz.func64 rfl (by kernel_rfl)
theorem hb65 : hasBody Tryz.prog 65 := hasBody.mk Tryz.func65 rfl (by kernel_rfl)
theorem hb66 : hasBody Tryz.prog 66 := hasBody.mk Tryz.func66 rfl (by kernel_rfl)
theorem hb67 : hasBody Tryz.prog 67 := hasBody.mk Tryz.func67 rfl (by kernel_rfl)
theorem hb68 : hasBody Tryz.prog 68 := hasBody.mk Tryz.func68 rfl (by kernel_rfl)
theorem hb69 : hasBody Tryz.prog 69 := hasBody.mk Tryz.func69 rfl (by kernel_rfl)
theorem hb70 : hasBody Tryz.prog 70 := hasBody.mk Tryz.func70 rfl (by kernel_rfl)
theorem hb71 : hasBody Tryz.prog 71 := hasBody.mk Tryz.func71 rfl (by kernel_rfl)
theorem hb72 : hasBody Tryz.prog 72 := hasBody.mk Tryz.func72 rfl (by kernel_rfl)
theorem hb73 : hasBody Tryz.prog 73 := hasBody.mk Tryz.func73 rfl (by kernel_rfl)
theorem hb74 : hasBody Tryz.prog 74 := hasBody.mk Tryz.func74 rfl (by kernel_rfl)
theorem hb75 : hasBody Tryz.prog 75 := hasBody.mk Tryz.func75 rfl (by kernel_rfl)
theorem hb76 : hasBody Tryz.prog 76 := hasBody.mk Tryz.func76 rfl (by kernel_rfl)
theorem hb77 : hasBody Tryz.prog 77 := hasBody.mk Tryz.func77 rfl (by kernel_rfl)
theorem hb78 : hasBody Tryz.prog 78 := hasBody.mk Tryz.func78 rfl (by kernel_rfl)
theorem hb79 : hasBody Tryz.prog 79 := hasBody.mk Tryz.func79 rfl (by kernel_rfl)
theorem hb80 : hasBody Tryz.prog 80 := hasBody.mk Tryz.func80 rfl (by kernel_rfl)
theorem hb81 : hasBody Tryz.prog 81 := hasBody.mk Tryz.func81 rfl (by kernel_rfl)
theorem hb82 : hasBody Tryz.prog 82 := hasBody.mk Tryz.func82 rfl (by kernel_rfl)
theorem hb95 : hasBody Tryz.prog 95 := hasBody.mk Tryz.func95 rfl (by kernel_rfl)
theorem hb96 : hasBody Tryz.prog 96 := hasBody.mk Tryz.func96 rfl (by kernel_rfl)
theorem hb97 : hasBody Tryz.prog 97 := hasBody.mk Tryz.func97 rfl (by kernel_rfl)
theorem hb98 : hasBody Tryz.prog 98 := hasBody.mk Tryz.func98 rfl (by kernel_rfl)
theorem hb99 : hasBody Tryz.prog 99 := hasBody.mk Tryz.func99 rfl (by kernel_rfl)
theorem hb101 : hasBody Tryz.prog 101 := hasBody.mk Tryz.func101 rfl (by kernel_rfl)
theorem hb102 : hasBody Tryz.prog 102 := hasBody.mk Tryz.func102 rfl (by kernel_rfl)
theorem hb103 : hasBody Tryz.prog 103 := hasBody.mk Tryz.func103 rfl (by kernel_rfl)
theorem hb106 : hasBody Tryz.prog 106 := hasBody.mk Tryz.func106 rfl (by kernel_rfl)
theorem hb107 : hasBody Tryz.prog 107 := hasBody.mk Tryz.func107 rfl (by kernel_rfl)
theorem hb108 : hasBody Tryz.prog 108 := hasBody.mk Tryz.func108 rfl (by kernel_rfl)
theorem hb109 : hasBody Tryz.prog 109 := hasBody.mk Tryz.func109 rfl (by kernel_rfl)
theorem hb110 : hasBody Tryz.prog 110 := hasBody.mk Tryz.func110 rfl (by kernel_rfl)
theorem hb111 : hasBody Tryz.prog 111 := hasBody.mk Tryz.func111 rfl (by kernel_rfl)
theorem hb112 : hasBody Tryz.prog 112 := hasBody.mk Tryz.func112 rfl (by kernel_rfl)
theorem hb113 : hasBody Tryz.prog 113 := hasBody.mk Tryz.func113 rfl (by kernel_rfl)
theorem hb114 : hasBody Tryz.prog 114 := hasBody.mk Tryz.func114 rfl (by kernel_rfl)
theorem hb115 : hasBody Tryz.prog 115 := hasBody.mk Tryz.func115 rfl (by kernel_rfl)
theorem hb116 : hasBody Tryz.prog 116 := hasBody.mk Tryz.func116 rfl (by kernel_rfl)
theorem hb117 : hasBody Tryz.prog 117 := hasBody.mk Tryz.func117 rfl (by kernel_rfl)
theorem hb118 : hasBody Tryz.prog 118 := hasBody.mk Tryz.func118 rfl (by kernel_rfl)
theorem hb119 : hasBody Tryz.prog 119 := hasBody.mk Tryz.func119 rfl (by kernel_rfl)
theorem hb120 : hasBody Tryz.prog 120 := hasBody.mk Tryz.func120 rfl (by kernel_rfl)
theorem hb121 : hasBody Tryz.prog 121 := hasBody.mk Tryz.func121 rfl (by kernel_rfl)
theorem hb122 : hasBody Tryz.prog 122 := hasBody.mk Tryz.func122 rfl (by kernel_rfl)
theorem hb123 : hasBody Tryz.prog 123 := hasBody.mk Tryz.func123 rfl (by kernel_rfl)
theorem hb124 : hasBody Tryz.prog 124 := hasBody.mk Tryz.func124 rfl (by kernel_rfl)
theorem hb125 : hasBody Tryz.prog 125 := hasBody.mk Tryz.func125 rfl (by kernel_rfl)
theorem hb126 : hasBody Tryz.prog 126 := hasBody.mk Tryz.func126 rfl (by kernel_rfl)
theorem hb127 : hasBody Tryz.prog 127 := hasBody.mk Tryz.func127 rfl (by kernel_rfl)
theorem hb128 : hasBody Tryz.prog 128 := hasBody.mk Tryz.func128 rfl (by kernel_rfl)
theorem hb129 : hasBody Tryz.prog 129 := hasBody.mk Tryz.func129 rfl (by kernel_rfl)
theorem hb130 : hasBody Tryz.prog 130 := hasBody.mk Tryz.func130 rfl (by kernel_rfl)
theorem hb131 : hasBody Tryz.prog 131 := hasBody.mk Tryz.func131 rfl (by kernel_rfl)
theorem hb132 : hasBody Tryz.prog 132 := hasBody.mk Tryz.func132 rfl (by kernel_rfl)
theorem hb133 : hasBody Tryz.prog 133 := hasBody.mk Tryz.func133 rfl (by kernel_rfl)
theorem hb134 : hasBody Tryz.prog 134 := hasBody.mk Tryz.func134 rfl (by kernel_rfl)
theorem hb135 : hasBody Tryz.prog 135 := hasBody.mk Tryz.func135 rfl (by kernel_rfl)
theorem hb142 : hasBody Tryz.prog 142 := hasBody.mk Tryz.func142 rfl (by kernel_rfl)
theorem hb148 : hasBody Tryz.prog 148 := hasBody.mk Tryz.func148 rfl (by kernel_rfl)
theorem hb149 : hasBody Tryz.prog 149 := hasBody.mk Tryz.func149 rfl (by kernel_rfl)
theorem hb150 : hasBody Tryz.prog 150 := hasBody.mk Tryz.func150 rfl (by kernel_rfl)
theorem hb151 : hasBody Tryz.prog 151 := hasBody.mk Tryz.func151 rfl (by kernel_rfl)
theorem hb152 : hasBody Tryz.prog 152 := hasBody.mk Tryz.func152 rfl (by kernel_rfl)
theorem hb153 : hasBody Tryz.prog 153 := hasBody.mk Tryz.func153 rfl (by kernel_rfl)
theorem hb154 : hasBody Tryz.prog 154 := hasBody.mk Tryz.func154 rfl (by kernel_rfl)
theorem hb155 : hasBody Tryz.prog 155 := hasBody.mk Tryz.func155 rfl (by kernel_rfl)
theorem hb158 : hasBody Tryz.prog 158 := hasBody.mk Tryz.func158 rfl (by kernel_rfl)
theorem hb159 : hasBody Tryz.prog 159 := hasBody.mk Tryz.func159 rfl (by kernel_rfl)
theorem hb160 : hasBody Tryz.prog 160 := hasBody.mk Tryz.func160 rfl (by kernel_rfl)
theorem hb161 : hasBody Tryz.prog 161 := hasBody.mk Tryz.func161 rfl (by kernel_rfl)
theorem hb162 : hasBody Tryz.prog 162 := hasBody.mk Tryz.func162 rfl (by kernel_rfl)
theorem hb163 : hasBody Tryz.prog 163 := hasBody.mk Tryz.func163 rfl (by kernel_rfl)
theorem hb166 : hasBody Tryz.prog 166 := hasBody.mk Tryz.func166 rfl (by kernel_rfl)
theorem hb179 : hasBody Tryz.prog 179 := hasBody.mk Tryz.func179 rfl (by kernel_rfl)
theorem hb180 : hasBody Tryz.prog 180 := hasBody.mk Tryz.func180 rfl (by kernel_rfl)
theorem hb181 : hasBody Tryz.prog 181 := hasBody.mk Tryz.func181 rfl (by kernel_rfl)
theorem hb193 : hasBody Tryz.prog 193 := hasBody.mk Tryz.func193 rfl (by kernel_rfl)
theorem hb194 : hasBody Tryz.prog 194 := hasBody.mk Tryz.func194 rfl (by kernel_rfl)
theorem hb195 : hasBody Tryz.prog 195 := hasBody.mk Tryz.func195 rfl (by kernel_rfl)
theorem hb196 : hasBody Tryz.prog 196 := hasBody.mk Tryz.func196 rfl (by kernel_rfl)
theorem hb209 : hasBody Tryz.prog 209 := hasBody.mk Tryz.func209 rfl (by kernel_rfl)
theorem hb210 : hasBody Tryz.prog 210 := hasBody.mk Tryz.func210 rfl (by kernel_rfl)
theorem hb217 : hasBody Tryz.prog 217 := hasBody.mk Tryz.func217 rfl (by kernel_rfl)
theorem hb218 : hasBody Tryz.prog 218 := hasBody.mk Tryz.func218 rfl (by kernel_rfl)
theorem hb219 : hasBody Tryz.prog 219 := hasBody.mk Tryz.func219 rfl (by kernel_rfl)
theorem hb224 : hasBody Tryz.prog 224 := hasBody.mk Tryz.func224 rfl (by kernel_rfl)
end Go.Proofs.YtplfdbfdalaefaaGreatDoor
