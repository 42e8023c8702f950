/-
  Tables of types, data and names for this seat's program.
-/
import Derived.Test.YtpaciifeklccfaaGY
import Derived.Test.YtpaciifeklccfaaProg
namespace Go.Proofs.Ytpaciifeklccfaa
open G
set_option linter.unusedVariables false
set_option linter.unusedSimpArgs false
set_option maxRecDepth 100000
set_option maxHeartbeats 4000000
structure Pasture where
  Wide : Int
  High : Int
  Grass : Arr 10 (Arr 10 Int)
  East : Arr 10 Int
  South : Arr 10 Int
deriving DecidableEq
def cPasture : Cd Pasture := ⟨122, fun x => (ci .i8).enc x.Wide ++ ((ci .i8).enc x.High ++ ((carr 10 (carr 10 (ci .i16))).enc x.Grass ++ ((carr 10 (ci .u16)).enc x.East ++ ((carr 10 (ci .u16)).enc x.South)))), fun x => by simp only [List.length_append, Cd.len]; rfl, fun x u hu => by
  simp only [List.mem_append] at hu
  rcases hu with hu | hu | hu | hu | hu <;> exact Cd.one _ _ _ (by assumption)⟩
def pre_Pasture_0 (x : Pasture) : List Value := []
def post_Pasture_0 (x : Pasture) : List Value := (ci .i8).enc x.High ++ ((carr 10 (carr 10 (ci .i16))).enc x.Grass ++ ((carr 10 (ci .u16)).enc x.East ++ ((carr 10 (ci .u16)).enc x.South)))
theorem fe_Pasture_0 (x : Pasture) : cPasture.enc x = pre_Pasture_0 x ++ ((ci .i8).enc x.Wide ++ post_Pasture_0 x) := by first | rfl | simp only [cPasture, pre_Pasture_0, post_Pasture_0, List.append_assoc, List.nil_append, List.append_nil] | (simp only [cPasture, pre_Pasture_0, post_Pasture_0, List.append_assoc, List.nil_append, List.append_nil]; rfl)
theorem fl_Pasture_0 (x : Pasture) : (pre_Pasture_0 x).length = 0 := by first | rfl | (simp only [pre_Pasture_0, List.length_append, Cd.len]; rfl)
theorem put_Pasture_0 {x : Pasture} {f' : Int} {off : Nat} {vs : List Value} (h : Put (ci .i8) x.Wide off vs f') : Put cPasture x (0 + off) vs (⟨f', x.High, x.Grass, x.East, x.South⟩ : Pasture) := Put.fld h (fl_Pasture_0 x) (Nat.le_of_ble_eq_true rfl) (fe_Pasture_0 x) (fe_Pasture_0 (⟨f', x.High, x.Grass, x.East, x.South⟩ : Pasture))
def pre_Pasture_1 (x : Pasture) : List Value := (ci .i8).enc x.Wide
def post_Pasture_1 (x : Pasture) : List Value := (carr 10 (carr 10 (ci .i16))).enc x.Grass ++ ((carr 10 (ci .u16)).enc x.East ++ ((carr 10 (ci .u16)).enc x.South))
theorem fe_Pasture_1 (x : Pasture) : cPasture.enc x = pre_Pasture_1 x ++ ((ci .i8).enc x.High ++ post_Pasture_1 x) := by first | rfl | simp only [cPasture, pre_Pasture_1, post_Pasture_1, List.append_assoc, List.nil_append, List.append_nil] | (simp only [cPasture, pre_Pasture_1, post_Pasture_1, List.append_assoc, List.nil_append, List.append_nil]; rfl)
theorem fl_Pasture_1 (x : Pasture) : (pre_Pasture_1 x).length = 1 := by first | rfl | (simp only [pre_Pasture_1, List.length_append, Cd.len]; rfl)
theorem put_Pasture_1 {x : Pasture} {f' : Int} {off : Nat} {vs : List Value} (h : Put (ci .i8) x.High off vs f') : Put cPasture x (1 + off) vs (⟨x.Wide, f', x.Grass, x.East, x.South⟩ : Pasture) := Put.fld h (fl_Pasture_1 x) (Nat.le_of_ble_eq_true rfl) (fe_Pasture_1 x) (fe_Pasture_1 (⟨x.Wide, f', x.Grass, x.East, x.South⟩ : Pasture))
def pre_Pasture_2 (x : Pasture) : List Value := (ci .i8).enc x.Wide ++ (ci .i8).enc x.High
def post_Pasture_2 (x : Pasture) : List Value := (carr 10 (ci .u16)).enc x.East ++ ((carr 10 (ci .u16)).enc x.South)
theorem fe_Pasture_2 (x : Pasture) : cPasture.enc x = pre_Pasture_2 x ++ ((carr 10 (carr 10 (ci .i16))).enc x.Grass ++ post_Pasture_2 x) := by first | rfl | simp only [cPasture, pre_Pasture_2, post_Pasture_2, List.append_assoc, List.nil_append, List.append_nil] | (simp only [cPasture, pre_Pasture_2, post_Pasture_2, List.append_assoc, List.nil_append, List.append_nil]; rfl)
theorem fl_Pasture_2 (x : Pasture) : (pre_Pasture_2 x).length = 2 := by first | rfl | (simp only [pre_Pasture_2, List.length_append, Cd.len]; rfl)
theorem put_Pasture_2 {x : Pasture} {f' : Arr 10 (Arr 10 Int)} {off : Nat} {vs : List Value} (h : Put (carr 10 (carr 10 (ci .i16))) x.Grass off vs f') : Put cPasture x (2 + off) vs (⟨x.Wide, x.High, f', x.East, x.South⟩ : Pasture) := Put.fld h (fl_Pasture_2 x) (Nat.le_of_ble_eq_true rfl) (fe_Pasture_2 x) (fe_Pasture_2 (⟨x.Wide, x.High, f', x.East, x.South⟩ : Pasture))
def pre_Pasture_3 (x : Pasture) : List Value := (ci .i8).enc x.Wide ++ (ci .i8).enc x.High ++ (carr 10 (carr 10 (ci .i16))).enc x.Grass
def post_Pasture_3 (x : Pasture) : List Value := (carr 10 (ci .u16)).enc x.South
theorem fe_Pasture_3 (x : Pasture) : cPasture.enc x = pre_Pasture_3 x ++ ((carr 10 (ci .u16)).enc x.East ++ post_Pasture_3 x) := by first | rfl | simp only [cPasture, pre_Pasture_3, post_Pasture_3, List.append_assoc, List.nil_append, List.append_nil] | (simp only [cPasture, pre_Pasture_3, post_Pasture_3, List.append_assoc, List.nil_append, List.append_nil]; rfl)
theorem fl_Pasture_3 (x : Pasture) : (pre_Pasture_3 x).length = 102 := by first | rfl | (simp only [pre_Pasture_3, List.length_append, Cd.len]; rfl)
theorem put_Pasture_3 {x : Pasture} {f' : Arr 10 Int} {off : Nat} {vs : List Value} (h : Put (carr 10 (ci .u16)) x.East off vs f') : Put cPasture x (102 + off) vs (⟨x.Wide, x.High, x.Grass, f', x.South⟩ : Pasture) := Put.fld h (fl_Pasture_3 x) (Nat.le_of_ble_eq_true rfl) (fe_Pasture_3 x) (fe_Pasture_3 (⟨x.Wide, x.High, x.Grass, f', x.South⟩ : Pasture))
def pre_Pasture_4 (x : Pasture) : List Value := (ci .i8).enc x.Wide ++ (ci .i8).enc x.High ++ (carr 10 (carr 10 (ci .i16))).enc x.Grass ++ (carr 10 (ci .u16)).enc x.East
def post_Pasture_4 (x : Pasture) : List Value := []
theorem fe_Pasture_4 (x : Pasture) : cPasture.enc x = pre_Pasture_4 x ++ ((carr 10 (ci .u16)).enc x.South ++ post_Pasture_4 x) := by first | rfl | simp only [cPasture, pre_Pasture_4, post_Pasture_4, List.append_assoc, List.nil_append, List.append_nil] | (simp only [cPasture, pre_Pasture_4, post_Pasture_4, List.append_assoc, List.nil_append, List.append_nil]; rfl)
theorem fl_Pasture_4 (x : Pasture) : (pre_Pasture_4 x).length = 112 := by first | rfl | (simp only [pre_Pasture_4, List.length_append, Cd.len]; rfl)
theorem put_Pasture_4 {x : Pasture} {f' : Arr 10 Int} {off : Nat} {vs : List Value} (h : Put (carr 10 (ci .u16)) x.South off vs f') : Put cPasture x (112 + off) vs (⟨x.Wide, x.High, x.Grass, x.East, f'⟩ : Pasture) := Put.fld h (fl_Pasture_4 x) (Nat.le_of_ble_eq_true rfl) (fe_Pasture_4 x) (fe_Pasture_4 (⟨x.Wide, x.High, x.Grass, x.East, f'⟩ : Pasture))
structure Spot where
  X : Int
  Y : Int
deriving DecidableEq
def cSpot : Cd Spot := ⟨2, fun x => [.int .i8 x.X, .int .i8 x.Y], fun _ => rfl, fun x u hu => by
  simp only [List.mem_cons, List.not_mem_nil, or_false] at hu
  rcases hu with rfl | rfl <;> rfl⟩
structure Sight where
  Day : Int
  At : Spot
deriving DecidableEq
def cSight : Cd Sight := ⟨3, fun x => [.int .i16 x.Day, .int .i8 x.At.X, .int .i8 x.At.Y], fun _ => rfl, fun x u hu => by
  simp only [List.mem_cons, List.not_mem_nil, or_false] at hu
  rcases hu with rfl | rfl | rfl <;> rfl⟩
structure Hurdle where
  At : Spot
  South : Bool
deriving DecidableEq
def cHurdle : Cd Hurdle := ⟨3, fun x => [.int .i8 x.At.X, .int .i8 x.At.Y, .bool x.South], fun _ => rfl, fun x u hu => by
  simp only [List.mem_cons, List.not_mem_nil, or_false] at hu
  rcases hu with rfl | rfl | rfl <;> rfl⟩
def tU : List (Nat × TypeDesc) := [(2, .int .i64), (3, .int .i64), (4, .bool), (22, .int .i8), (23, .int .i16), (24, .array 10 23), (25, .array 10 24), (26, .int .u16), (27, .array 10 26), (29, .struct #[{ name := "Wide", type := 22, offset := 0, embedded := false, tag := "", pkgPath := "", byteOffset := 0 }, { name := "High", type := 22, offset := 1, embedded := false, tag := "", pkgPath := "", byteOffset := 1 }, { name := "Grass", type := 25, offset := 2, embedded := false, tag := "", pkgPath := "", byteOffset := 2 }, { name := "East", type := 27, offset := 102, embedded := false, tag := "", pkgPath := "", byteOffset := 202 }, { name := "South", type := 27, offset := 112, embedded := false, tag := "", pkgPath := "", byteOffset := 222 }]), (32, .struct #[{ name := "Wide", type := 22, offset := 0, embedded := false, tag := "", pkgPath := "", byteOffset := 0 }, { name := "High", type := 22, offset := 1, embedded := false, tag := "", pkgPath := "", byteOffset := 1 }, { name := "Grass", type := 25, offset := 2, embedded := false, tag := "", pkgPath := "", byteOffset := 2 }, { name := "East", type := 27, offset := 102, embedded := false, tag := "", pkgPath := "", byteOffset := 202 }, { name := "South", type := 27, offset := 112, embedded := false, tag := "", pkgPath := "", byteOffset := 222 }]), (35, .slice 113), (38, .slice 109), (65, .slice 105), (87, .slice 161), (105, .struct #[{ name := "X", type := 22, offset := 0, embedded := false, tag := "", pkgPath := "", byteOffset := 0 }, { name := "Y", type := 22, offset := 1, embedded := false, tag := "", pkgPath := "", byteOffset := 1 }]), (109, .struct #[{ name := "Day", type := 23, offset := 0, embedded := false, tag := "", pkgPath := "", byteOffset := 0 }, { name := "At", type := 105, offset := 1, embedded := false, tag := "", pkgPath := "", byteOffset := 2 }]), (111, .struct #[{ name := "X", type := 22, offset := 0, embedded := false, tag := "", pkgPath := "", byteOffset := 0 }, { name := "Y", type := 22, offset := 1, embedded := false, tag := "", pkgPath := "", byteOffset := 1 }]), (113, .struct #[{ name := "Day", type := 23, offset := 0, embedded := false, tag := "", pkgPath := "", byteOffset := 0 }, { name := "At", type := 111, offset := 1, embedded := false, tag := "", pkgPath := "", byteOffset := 2 }]), (127, .array 10 2), (128, .array 10 127), (161, .struct #[{ name := "At", type := 105, offset := 0, embedded := false, tag := "", pkgPath := "", byteOffset := 0 }, { name := "South", type := 4, offset := 2, embedded := false, tag := "", pkgPath := "", byteOffset := 2 }]), (168, .int .u64), (181, .array 10 24), (211, .slice 4)]
theorem tU_ok : okU Try.prog tU := ⟨by kernel_rfl, by kernel_rfl, by kernel_rfl, by kernel_rfl, by kernel_rfl, by kernel_rfl, by kernel_rfl, by kernel_rfl, by kernel_rfl, by kernel_rfl, by kernel_rfl, by kernel_rfl, by kernel_rfl, by kernel_rfl, by kernel_rfl, by kernel_rfl, by kernel_rfl, by kernel_rfl, by kernel_rfl, by kernel_rfl, by kernel_rfl, by kernel_rfl, by kernel_rfl, by kernel_rfl, by kernel_rfl, trivial⟩
def tI : List (Nat × TI) := [(2, ⟨1, 8, .int .i64 0⟩), (4, ⟨1, 1, .bool false⟩), (22, ⟨1, 1, .int .i8 0⟩), (23, ⟨1, 2, .int .i16 0⟩), (24, ⟨10, 20, .agg #[.int .i16 0, .int .i16 0, .int .i16 0, .int .i16 0, .int .i16 0, .int .i16 0, .int .i16 0, .int .i16 0, .int .i16 0, .int .i16 0]⟩), (25, ⟨100, 200, .agg #[.int .i16 0, .int .i16 0, .int .i16 0, .int .i16 0, .int .i16 0, .int .i16 0, .int .i16 0, .int .i16 0, .int .i16 0, .int .i16 0, .int .i16 0, .int .i16 0, .int .i16 0, .int .i16 0, .int .i16 0, .int .i16 0, .int .i16 0, .int .i16 0, .int .i16 0, .int .i16 0, .int .i16 0, .int .i16 0, .int .i16 0, .int .i16 0, .int .i16 0, .int .i16 0, .int .i16 0, .int .i16 0, .int .i16 0, .int .i16 0, .int .i16 0, .int .i16 0, .int .i16 0, .int .i16 0, .int .i16 0, .int .i16 0, .int .i16 0, .int .i16 0, .int .i16 0, .int .i16 0, .int .i16 0, .int .i16 0, .int .i16 0, .int .i16 0, .int .i16 0, .int .i16 0, .int .i16 0, .int .i16 0, .int .i16 0, .int .i16 0, .int .i16 0, .int .i16 0, .int .i16 0, .int .i16 0, .int .i16 0, .int .i16 0, .int .i16 0, .int .i16 0, .int .i16 0, .int .i16 0, .int .i16 0, .int .i16 0, .int .i16 0, .int .i16 0, .int .i16 0, .int .i16 0, .int .i16 0, .int .i16 0, .int .i16 0, .int .i16 0, .int .i16 0, .int .i16 0, .int .i16 0, .int .i16 0, .int .i16 0, .int .i16 0, .int .i16 0, .int .i16 0, .int .i16 0, .int .i16 0, .int .i16 0, .int .i16 0, .int .i16 0, .int .i16 0, .int .i16 0, .int .i16 0, .int .i16 0, .int .i16 0, .int .i16 0, .int .i16 0, .int .i16 0, .int .i16 0, .int .i16 0, .int .i16 0, .int .i16 0, .int .i16 0, .int .i16 0, .int .i16 0, .int .i16 0, .int .i16 0]⟩), (26, ⟨1, 2, .int .u16 0⟩), (27, ⟨10, 20, .agg #[.int .u16 0, .int .u16 0, .int .u16 0, .int .u16 0, .int .u16 0, .int .u16 0, .int .u16 0, .int .u16 0, .int .u16 0, .int .u16 0]⟩), (29, ⟨122, 242, .agg #[.int .i8 0, .int .i8 0, .int .i16 0, .int .i16 0, .int .i16 0, .int .i16 0, .int .i16 0, .int .i16 0, .int .i16 0, .int .i16 0, .int .i16 0, .int .i16 0, .int .i16 0, .int .i16 0, .int .i16 0, .int .i16 0, .int .i16 0, .int .i16 0, .int .i16 0, .int .i16 0, .int .i16 0, .int .i16 0, .int .i16 0, .int .i16 0, .int .i16 0, .int .i16 0, .int .i16 0, .int .i16 0, .int .i16 0, .int .i16 0, .int .i16 0, .int .i16 0, .int .i16 0, .int .i16 0, .int .i16 0, .int .i16 0, .int .i16 0, .int .i16 0, .int .i16 0, .int .i16 0, .int .i16 0, .int .i16 0, .int .i16 0, .int .i16 0, .int .i16 0, .int .i16 0, .int .i16 0, .int .i16 0, .int .i16 0, .int .i16 0, .int .i16 0, .int .i16 0, .int .i16 0, .int .i16 0, .int .i16 0, .int .i16 0, .int .i16 0, .int .i16 0, .int .i16 0, .int .i16 0, .int .i16 0, .int .i16 0, .int .i16 0, .int .i16 0, .int .i16 0, .int .i16 0, .int .i16 0, .int .i16 0, .int .i16 0, .int .i16 0, .int .i16 0, .int .i16 0, .int .i16 0, .int .i16 0, .int .i16 0, .int .i16 0, .int .i16 0, .int .i16 0, .int .i16 0, .int .i16 0, .int .i16 0, .int .i16 0, .int .i16 0, .int .i16 0, .int .i16 0, .int .i16 0, .int .i16 0, .int .i16 0, .int .i16 0, .int .i16 0, .int .i16 0, .int .i16 0, .int .i16 0, .int .i16 0, .int .i16 0, .int .i16 0, .int .i16 0, .int .i16 0, .int .i16 0, .int .i16 0, .int .i16 0, .int .i16 0, .int .u16 0, .int .u16 0, .int .u16 0, .int .u16 0, .int .u16 0, .int .u16 0, .int .u16 0, .int .u16 0, .int .u16 0, .int .u16 0, .int .u16 0, .int .u16 0, .int .u16 0, .int .u16 0, .int .u16 0, .int .u16 0, .int .u16 0, .int .u16 0, .int .u16 0, .int .u16 0]⟩), (32, ⟨122, 242, .agg #[.int .i8 0, .int .i8 0, .int .i16 0, .int .i16 0, .int .i16 0, .int .i16 0, .int .i16 0, .int .i16 0, .int .i16 0, .int .i16 0, .int .i16 0, .int .i16 0, .int .i16 0, .int .i16 0, .int .i16 0, .int .i16 0, .int .i16 0, .int .i16 0, .int .i16 0, .int .i16 0, .int .i16 0, .int .i16 0, .int .i16 0, .int .i16 0, .int .i16 0, .int .i16 0, .int .i16 0, .int .i16 0, .int .i16 0, .int .i16 0, .int .i16 0, .int .i16 0, .int .i16 0, .int .i16 0, .int .i16 0, .int .i16 0, .int .i16 0, .int .i16 0, .int .i16 0, .int .i16 0, .int .i16 0, .int .i16 0, .int .i16 0, .int .i16 0, .int .i16 0, .int .i16 0, .int .i16 0, .int .i16 0, .int .i16 0, .int .i16 0, .int .i16 0, .int .i16 0, .int .i16 0, .int .i16 0, .int .i16 0, .int .i16 0, .int .i16 0, .int .i16 0, .int .i16 0, .int .i16 0, .int .i16 0, .int .i16 0, .int .i16 0, .int .i16 0, .int .i16 0, .int .i16 0, .int .i16 0, .int .i16 0, .int .i16 0, .int .i16 0, .int .i16 0, .int .i16 0, .int .i16 0, .int .i16 0, .int .i16 0, .int .i16 0, .int .i16 0, .int .i16 0, .int .i16 0, .int .i16 0, .int .i16 0, .int .i16 0, .int .i16 0, .int .i16 0, .int .i16 0, .int .i16 0, .int .i16 0, .int .i16 0, .int .i16 0, .int .i16 0, .int .i16 0, .int .i16 0, .int .i16 0, .int .i16 0, .int .i16 0, .int .i16 0, .int .i16 0, .int .i16 0, .int .i16 0, .int .i16 0, .int .i16 0, .int .i16 0, .int .u16 0, .int .u16 0, .int .u16 0, .int .u16 0, .int .u16 0, .int .u16 0, .int .u16 0, .int .u16 0, .int .u16 0, .int .u16 0, .int .u16 0, .int .u16 0, .int .u16 0, .int .u16 0, .int .u16 0, .int .u16 0, .int .u16 0, .int .u16 0, .int .u16 0, .int .u16 0]⟩), (65, ⟨1, 24, .slice none 0 0⟩), (105, ⟨2, 2, .agg #[.int .i8 0, .int .i8 0]⟩), (109, ⟨3, 4, .agg #[.int .i16 0, .int .i8 0, .int .i8 0]⟩), (111, ⟨2, 2, .agg #[.int .i8 0, .int .i8 0]⟩), (113, ⟨3, 4, .agg #[.int .i16 0, .int .i8 0, .int .i8 0]⟩), (127, ⟨10, 80, .agg #[.int .i64 0, .int .i64 0, .int .i64 0, .int .i64 0, .int .i64 0, .int .i64 0, .int .i64 0, .int .i64 0, .int .i64 0, .int .i64 0]⟩), (128, ⟨100, 800, .agg #[.int .i64 0, .int .i64 0, .int .i64 0, .int .i64 0, .int .i64 0, .int .i64 0, .int .i64 0, .int .i64 0, .int .i64 0, .int .i64 0, .int .i64 0, .int .i64 0, .int .i64 0, .int .i64 0, .int .i64 0, .int .i64 0, .int .i64 0, .int .i64 0, .int .i64 0, .int .i64 0, .int .i64 0, .int .i64 0, .int .i64 0, .int .i64 0, .int .i64 0, .int .i64 0, .int .i64 0, .int .i64 0, .int .i64 0, .int .i64 0, .int .i64 0, .int .i64 0, .int .i64 0, .int .i64 0, .int .i64 0, .int .i64 0, .int .i64 0, .int .i64 0, .int .i64 0, .int .i64 0, .int .i64 0, .int .i64 0, .int .i64 0, .int .i64 0, .int .i64 0, .int .i64 0, .int .i64 0, .int .i64 0, .int .i64 0, .int .i64 0, .int .i64 0, .int .i64 0, .int .i64 0, .int .i64 0, .int .i64 0, .int .i64 0, .int .i64 0, .int .i64 0, .int .i64 0, .int .i64 0, .int .i64 0, .int .i64 0, .int .i64 0, .int .i64 0, .int .i64 0, .int .i64 0, .int .i64 0, .int .i64 0, .int .i64 0, .int .i64 0, .int .i64 0, .int .i64 0, .int .i64 0, .int .i64 0, .int .i64 0, .int .i64 0, .int .i64 0, .int .i64 0, .int .i64 0, .int .i64 0, .int .i64 0, .int .i64 0, .int .i64 0, .int .i64 0, .int .i64 0, .int .i64 0, .int .i64 0, .int .i64 0, .int .i64 0, .int .i64 0, .int .i64 0, .int .i64 0, .int .i64 0, .int .i64 0, .int .i64 0, .int .i64 0, .int .i64 0, .int .i64 0, .int .i64 0, .int .i64 0]⟩), (161, ⟨3, 3, .agg #[.int .i8 0, .int .i8 0, .bool false]⟩), (181, ⟨100, 200, .agg #[.int .i16 0, .int .i16 0, .int .i16 0, .int .i16 0, .int .i16 0, .int .i16 0, .int .i16 0, .int .i16 0, .int .i16 0, .int .i16 0, .int .i16 0, .int .i16 0, .int .i16 0, .int .i16 0, .int .i16 0, .int .i16 0, .int .i16 0, .int .i16 0, .int .i16 0, .int .i16 0, .int .i16 0, .int .i16 0, .int .i16 0, .int .i16 0, .int .i16 0, .int .i16 0, .int .i16 0, .int .i16 0, .int .i16 0, .int .i16 0, .int .i16 0, .int .i16 0, .int .i16 0, .int .i16 0, .int .i16 0, .int .i16 0, .int .i16 0, .int .i16 0, .int .i16 0, .int .i16 0, .int .i16 0, .int .i16 0, .int .i16 0, .int .i16 0, .int .i16 0, .int .i16 0, .int .i16 0, .int .i16 0, .int .i16 0, .int .i16 0, .int .i16 0, .int .i16 0, .int .i16 0, .int .i16 0, .int .i16 0, .int .i16 0, .int .i16 0, .int .i16 0, .int .i16 0, .int .i16 0, .int .i16 0, .int .i16 0, .int .i16 0, .int .i16 0, .int .i16 0, .int .i16 0, .int .i16 0, .int .i16 0, .int .i16 0, .int .i16 0, .int .i16 0, .int .i16 0, .int .i16 0, .int .i16 0, .int .i16 0, .int .i16 0, .int .i16 0, .int .i16 0, .int .i16 0, .int .i16 0, .int .i16 0, .int .i16 0, .int .i16 0, .int .i16 0, .int .i16 0, .int .i16 0, .int .i16 0, .int .i16 0, .int .i16 0, .int .i16 0, .int .i16 0, .int .i16 0, .int .i16 0, .int .i16 0, .int .i16 0, .int .i16 0, .int .i16 0, .int .i16 0, .int .i16 0, .int .i16 0]⟩)]
theorem tI_ok : okI Try.prog tI := ⟨by kernel_rfl, by kernel_rfl, by kernel_rfl, by kernel_rfl, by kernel_rfl, by kernel_rfl, by kernel_rfl, by kernel_rfl, by kernel_rfl, by kernel_rfl, by kernel_rfl, by kernel_rfl, by kernel_rfl, by kernel_rfl, by kernel_rfl, by kernel_rfl, by kernel_rfl, by kernel_rfl, by kernel_rfl, trivial⟩
theorem mixed : Try.prog.follows .mixedOrders = true := by kernel_rfl
theorem hb13 : hasBody Try.prog 13 := hasBody.mk Try.func13 rfl (by kernel_rfl)
theorem hb15 : hasBody Try.prog 15 := hasBody.mk Try.func15 rfl (by kernel_rfl)
theorem hb17 : hasBody Try.prog 17 := hasBody.mk Try.func17 rfl (by kernel_rfl)
theorem hb18 : hasBody Try.prog 18 := hasBody.mk Try.func18 rfl (by kernel_rfl)
theorem hb19 : hasBody Try.prog 19 := hasBody.mk Try.func19 rfl (by kernel_rfl)
theorem hb31 : hasBody Try.prog 31 := hasBody.mk Try.func31 rfl (by kernel_rfl)
theorem hb32 : hasBody Try.prog 32 := hasBody.mk Try.func32 rfl (by kernel_rfl)
theorem hb61 : hasBody Try.prog 61 := hasBody.mk Try.func61 rfl (by kernel_rfl)
theorem hb62 : hasBody Try.prog 62 := hasBody.mk Try.func62 rfl (by kernel_rfl)
theorem hb63 : hasBody Try.prog 63 := hasBody.mk Try.func63 rfl (by kernel_rfl)
theorem hb64 : hasBody Try.prog 64 := hasBody.mk Try.func64 rfl (by kernel_rfl)
theorem hb65 : hasBody Try.prog 65 := hasBody.mk Try.func65 rfl (by kernel_rfl)
theorem hb66 : hasBody Try.prog 66 := hasBody.mk Try.func66 rfl (by kernel_rfl)
theorem hb67 : hasBody Try.prog 67 := hasBody.mk Try.func67 rfl (by kernel_rfl)
theorem hb68 : hasBody Try.prog 68 := hasBody.mk Try.func68 rfl (by kernel_rfl)
theorem hb71 : hasBody Try.prog 71 := hasBody.mk Try.func71 rfl (by kernel_rfl)
theorem hb72 : hasBody Try.prog 72 := hasBody.mk Try.func72 rfl (by kernel_rfl)
theorem hb73 : hasBody Try.prog 73 := hasBody.mk Try.func73 rfl (by kernel_rfl)
theorem hb74 : hasBody Try.prog 74 := hasBody.mk Try.func74 rfl (by kernel_rfl)
theorem hb76 : hasBody Try.prog 76 := hasBody.mk Try.func76 rfl (by kernel_rfl)
theorem hb77 : hasBody Try.prog 77 := hasBody.mk Try.func77 rfl (by kernel_rfl)
theorem hb79 : hasBody Try.prog 79 := hasBody.mk Try.func79 rfl (by kernel_rfl)
theorem hb80 : hasBody Try.prog 80 := hasBody.mk Try.func80 rfl (by kernel_rfl)
theorem hb81 : hasBody Try.prog 81 := hasBody.mk Try.func81 rfl (by kernel_rfl)
theorem hb82 : hasBody Try.prog 82 := hasBody.mk Try.func82 rfl (by kernel_rfl)
theorem hb89 : hasBody Try.prog 89 := hasBody.mk Try.func89 rfl (by kernel_rfl)
theorem hb93 : hasBody Try.prog 93 := hasBody.mk Try.func93 rfl (by kernel_rfl)
theorem hb94 : hasBody Try.prog 94 := hasBody.mk Try.func94 rfl (by kernel_rfl)
theorem hb95 : hasBody Try.prog 95 := hasBody.mk Try.func95 rfl (by kernel_rfl)
theorem hb96 : hasBody Try.prog 96 := hasBody.mk Try.func96 rfl (by kernel_rfl)
theorem hb97 : hasBody Try.prog 97 := hasBody.mk Try.func97 rfl (by kernel_rfl)
theorem hb106 : hasBody Try.prog 106 := hasBody.mk Try.func106 rfl (by kernel_rfl)
theorem hb108 : hasBody Try.prog 108 := hasBody.mk Try.func108 rfl (by kernel_rfl)
theorem hb127 : hasBody Try.prog 127 := hasBody.mk Try.func127 rfl (by kernel_rfl)
theorem hb128 : hasBody Try.prog 128 := hasBody.mk Try.func128 rfl (by kernel_rfl)
theorem hb129 : hasBody Try.prog 129 := hasBody.mk Try.func129 rfl (by kernel_rfl)
theorem hb130 : hasBody Try.prog 130 := hasBody.mk Try.func130 rfl (by kernel_rfl)
theorem hb131 : hasBody Try.prog 131 := hasBody.mk Try.func131 rfl (by kernel_rfl)
theorem hb132 : hasBody Try.prog 132 := hasBody.mk Try.func132 rfl (by kernel_rfl)
theorem hb133 : hasBody Try.prog 133 := hasBody.mk Try.func133 rfl (by kernel_rfl)
theorem hb134 : hasBody Try.prog 134 := hasBody.mk Try.func134 rfl (by kernel_rfl)
theorem hb135 : hasBody Try.prog 135 := hasBody.mk Try.func135 rfl (by kernel_rfl)
theorem hb136 : hasBody Try.prog 136 := hasBody.mk Try.func136 rfl (by kernel_rfl)
theorem hb137 : hasBody Try.prog 137 := hasBody.mk Try.func137 rfl (by kernel_rfl)
theorem hb139 : hasBody Try.prog 139 := hasBody.mk Try.func139 rfl (by kernel_rfl)
theorem hb140 : hasBody Try.prog 140 := hasBody.mk Try.func140 rfl (by kernel_rfl)
theorem hb144 : hasBody Try.prog 144 := hasBody.mk Try.func144 rfl (by kernel_rfl)
theorem hb145 : hasBody Try.prog 145 := hasBody.mk Try.func145 rfl (by kernel_rfl)
theorem hb146 : hasBody Try.prog 146 := hasBody.mk Try.func146 rfl (by kernel_rfl)
theorem hb152 : hasBody Try.prog 152 := hasBody.mk Try.func152 rfl (by kernel_rfl)
theorem hb160 : hasBody Try.prog 160 := hasBody.mk Try.func160 rfl (by kernel_rfl)
theorem hb161 : hasBody Try.prog 161 := hasBody.mk Try.func161 rfl (by kernel_rfl)
theorem hb162 : hasBody Try.prog 162 := hasBody.mk Try.func162 rfl (by kernel_rfl)
theorem hb163 : hasBody Try.prog 163 := hasBody.mk Try.func163 rfl (by kernel_rfl)
theorem hb164 : hasBody Try.prog 164 := hasBody.mk Try.func164 rfl (by kernel_rfl)
theorem hb165 : hasBody Try.prog 165 := hasBody.mk Try.func165 rfl (by kernel_rfl)
theorem hb166 : hasBody Try.prog 166 := hasBody.mk Try.func166 rfl (by kernel_rfl)
theorem hb167 : hasBody Try.prog 167 := hasBody.mk Try.func167 rfl (by kernel_rfl)
theorem hb169 : hasBody Try.prog 169 := hasBody.mk Try.func169 rfl (by kernel_rfl)
theorem hb170 : hasBody Try.prog 170 := hasBody.mk Try.func170 rfl (by kernel_rfl)
theorem hb171 : hasBody Try.prog 171 := hasBody.mk Try.func171 rfl (by kernel_rfl)
theorem hb176 : hasBody Try.prog 176 := hasBody.mk Try.func176 rfl (by kernel_rfl)
theorem hb177 : hasBody Try.prog 177 := hasBody.mk Try.func177 rfl (by kernel_rfl)
theorem hb178 : hasBody Try.prog 178 := hasBody.mk Try.func178 rfl (by kernel_rfl)
theorem hb179 : hasBody Try.prog 179 := hasBody.mk Try.func179 rfl (by kernel_rfl)
theorem hb180 : hasBody Try.prog 180 := hasBody.mk Try.func180 rfl (by kernel_rfl)
theorem hb181 : hasBody Try.prog 181 := hasBody.mk Try.func181 rfl (by kernel_rfl)
end Go.Proofs.Ytpaciifeklccfaa
