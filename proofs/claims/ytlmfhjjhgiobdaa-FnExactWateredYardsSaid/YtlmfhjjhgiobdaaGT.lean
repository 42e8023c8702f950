/-
  Tables of types, data and names for this seat's program.
-/
import Derived.Test.YtlmfhjjhgiobdaaGY
import Derived.Test.YtlmfhjjhgiobdaaGW
import Derived.Test.YtlmfhjjhgiobdaaGJ
import Derived.Test.YtlmfhjjhgiobdaaProg
namespace Go.Proofs.Ytlmfhjjhgiobdaa
open G
set_option linter.unusedVariables false
set_option linter.unusedSimpArgs false
set_option maxRecDepth 100000
set_option maxHeartbeats 4000000
structure Pasture where
  Wide : Int
  High : Int
  Grass : Arr 10 (Arr 10 Int)
  East : Arr 10 Int
  South : Arr 10 Int
deriving DecidableEq
def cPasture : Cd Pasture := ⟨122, fun x => (ci .i8).enc x.Wide ++ ((ci .i8).enc x.High ++ ((carr 10 (carr 10 (ci .i16))).enc x.Grass ++ ((carr 10 (ci .u16)).enc x.East ++ ((carr 10 (ci .u16)).enc x.South)))), fun x => by simp only [List.length_append, Cd.len]; rfl, fun x u hu => by
  simp only [List.mem_append] at hu
  rcases hu with hu | hu | hu | hu | hu <;> exact Cd.one _ _ _ (by assumption)⟩
def pre_Pasture_0 (x : Pasture) : List Value := []
def post_Pasture_0 (x : Pasture) : List Value := (ci .i8).enc x.High ++ ((carr 10 (carr 10 (ci .i16))).enc x.Grass ++ ((carr 10 (ci .u16)).enc x.East ++ ((carr 10 (ci .u16)).enc x.South)))
theorem fe_Pasture_0 (x : Pasture) : cPasture.enc x = pre_Pasture_0 x ++ ((ci .i8).enc x.Wide ++ post_Pasture_0 x) := by first | rfl | simp only [cPasture, pre_Pasture_0, post_Pasture_0, List.append_assoc, List.nil_append, List.append_nil] | (simp only [cPasture, pre_Pasture_0, post_Pasture_0, List.append_assoc, List.nil_append, List.append_nil]; rfl)
theorem fl_Pasture_0 (x : Pasture) : (pre_Pasture_0 x).length = 0 := by first | rfl | (simp only [pre_Pasture_0, List.length_append, Cd.len]; rfl)
theorem put_Pasture_0 {x : Pasture} {f' : Int} {off : Nat} {vs : List Value} (h : Put (ci .i8) x.Wide off vs f') : Put cPasture x (0 + off) vs (⟨f', x.High, x.Grass, x.East, x.South⟩ : Pasture) := Put.fld h (fl_Pasture_0 x) (Nat.le_of_ble_eq_true rfl) (fe_Pasture_0 x) (fe_Pasture_0 (⟨f', x.High, x.Grass, x.East, x.South⟩ : Pasture))
def pre_Pasture_1 (x : Pasture) : List Value := (ci .i8).enc x.Wide
def post_Pasture_1 (x : Pasture) : List Value := (carr 10 (carr 10 (ci .i16))).enc x.Grass ++ ((carr 10 (ci .u16)).enc x.East ++ ((carr 10 (ci .u16)).enc x.South))
theorem fe_Pasture_1 (x : Pasture) : cPasture.enc x = pre_Pasture_1 x ++ ((ci .i8).enc x.High ++ post_Pasture_1 x) := by first | rfl | simp only [cPasture, pre_Pasture_1, post_Pasture_1, List.append_assoc, List.nil_append, List.append_nil] | (simp only [cPasture, pre_Pasture_1, post_Pasture_1, List.append_assoc, List.nil_append, List.append_nil]; rfl)
theorem fl_Pasture_1 (x : Pasture) : (pre_Pasture_1 x).length = 1 := by first | rfl | (simp only [pre_Pasture_1, List.length_append, Cd.len]; rfl)
theorem put_Pasture_1 {x : Pasture} {f' : Int} {off : Nat} {vs : List Value} (h : Put (ci .i8) x.High off vs f') : Put cPasture x (1 + off) vs (⟨x.Wide, f', x.Grass, x.East, x.South⟩ : Pasture) := Put.fld h (fl_Pasture_1 x) (Nat.le_of_ble_eq_true rfl) (fe_Pasture_1 x) (fe_Pasture_1 (⟨x.Wide, f', x.Grass, x.East, x.South⟩ : Pasture))
def pre_Pasture_2 (x : Pasture) : List Value := (ci .i8).enc x.Wide ++ (ci .i8).enc x.High
def post_Pasture_2 (x : Pasture) : List Value := (carr 10 (ci .u16)).enc x.East ++ ((carr 10 (ci .u16)).enc x.South)
theorem fe_Pasture_2 (x : Pasture) : cPasture.enc x = pre_Pasture_2 x ++ ((carr 10 (carr 10 (ci .i16))).enc x.Grass ++ post_Pasture_2 x) := by first | rfl | simp only [cPasture, pre_Pasture_2, post_Pasture_2, List.append_assoc, List.nil_append, List.append_nil] | (simp only [cPasture, pre_Pasture_2, post_Pasture_2, List.append_assoc, List.nil_append, List.append_nil]; rfl)
theorem fl_Pasture_2 (x : Pasture) : (pre_Pasture_2 x).length = 2 := by first | rfl | (simp only [pre_Pasture_2, List.length_append, Cd.len]; rfl)
theorem put_Pasture_2 {x : Pasture} {f' : Arr 10 (Arr 10 Int)} {off : Nat} {vs : List Value} (h : Put (carr 10 (carr 10 (ci .i16))) x.Grass off vs f') : Put cPasture x (2 + off) vs (⟨x.Wide, x.High, f', x.East, x.South⟩ : Pasture) := Put.fld h (fl_Pasture_2 x) (Nat.le_of_ble_eq_true rfl) (fe_Pasture_2 x) (fe_Pasture_2 (⟨x.Wide, x.High, f', x.East, x.South⟩ : Pasture))
def pre_Pasture_3 (x : Pasture) : List Value := (ci .i8).enc x.Wide ++ (ci .i8).enc x.High ++ (carr 10 (carr 10 (ci .i16))).enc x.Grass
def post_Pasture_3 (x : Pasture) : List Value := (carr 10 (ci .u16)).enc x.South
theorem fe_Pasture_3 (x : Pasture) : cPasture.enc x = pre_Pasture_3 x ++ ((carr 10 (ci .u16)).enc x.East ++ post_Pasture_3 x) := by first | rfl | simp only [cPasture, pre_Pasture_3, post_Pasture_3, List.append_assoc, List.nil_append, List.append_nil] | (simp only [cPasture, pre_Pasture_3, post_Pasture_3, List.append_assoc, List.nil_append, List.append_nil]; rfl)
theorem fl_Pasture_3 (x : Pasture) : (pre_Pasture_3 x).length = 102 := by first | rfl | (simp only [pre_Pasture_3, List.length_append, Cd.len]; rfl)
theorem put_Pasture_3 {x : Pasture} {f' : Arr 10 Int} {off : Nat} {vs : List Value} (h : Put (carr 10 (ci .u16)) x.East off vs f') : Put cPasture x (102 + off) vs (⟨x.Wide, x.High, x.Grass, f', x.South⟩ : Pasture) := Put.fld h (fl_Pasture_3 x) (Nat.le_of_ble_eq_true rfl) (fe_Pasture_3 x) (fe_Pasture_3 (⟨x.Wide, x.High, x.Grass, f', x.South⟩ : Pasture))
def pre_Pasture_4 (x : Pasture) : List Value := (ci .i8).enc x.Wide ++ (ci .i8).enc x.High ++ (carr 10 (carr 10 (ci .i16))).enc x.Grass ++ (carr 10 (ci .u16)).enc x.East
def post_Pasture_4 (x : Pasture) : List Value := []
theorem fe_Pasture_4 (x : Pasture) : cPasture.enc x = pre_Pasture_4 x ++ ((carr 10 (ci .u16)).enc x.South ++ post_Pasture_4 x) := by first | rfl | simp only [cPasture, pre_Pasture_4, post_Pasture_4, List.append_assoc, List.nil_append, List.append_nil] | (simp only [cPasture, pre_Pasture_4, post_Pasture_4, List.append_assoc, List.nil_append, List.append_nil]; rfl)
theorem fl_Pasture_4 (x : Pasture) : (pre_Pasture_4 x).length = 112 := by first | rfl | (simp only [pre_Pasture_4, List.length_append, Cd.len]; rfl)
theorem put_Pasture_4 {x : Pasture} {f' : Arr 10 Int} {off : Nat} {vs : List Value} (h : Put (carr 10 (ci .u16)) x.South off vs f') : Put cPasture x (112 + off) vs (⟨x.Wide, x.High, x.Grass, x.East, f'⟩ : Pasture) := Put.fld h (fl_Pasture_4 x) (Nat.le_of_ble_eq_true rfl) (fe_Pasture_4 x) (fe_Pasture_4 (⟨x.Wide, x.High, x.Grass, x.East, f'⟩ : Pasture))
structure Meadow where
  Grass : Int
  Grows : Int
  Most : Int
deriving DecidableEq
def cMeadow : Cd Meadow := ⟨3, fun x => [.int .i16 x.Grass, .int .i16 x.Grows, .int .i16 x.Most], fun _ => rfl, fun x u hu => by
  simp only [List.mem_cons, List.not_mem_nil, or_false] at hu
  rcases hu with rfl | rfl | rfl <;> rfl⟩
structure Spot where
  X : Int
  Y : Int
deriving DecidableEq
def cSpot : Cd Spot := ⟨2, fun x => [.int .i8 x.X, .int .i8 x.Y], fun _ => rfl, fun x u hu => by
  simp only [List.mem_cons, List.not_mem_nil, or_false] at hu
  rcases hu with rfl | rfl <;> rfl⟩
structure Hurdle where
  At : Spot
  South : Bool
deriving DecidableEq
def cHurdle : Cd Hurdle := ⟨3, fun x => [.int .i8 x.At.X, .int .i8 x.At.Y, .bool x.South], fun _ => rfl, fun x u hu => by
  simp only [List.mem_cons, List.not_mem_nil, or_false] at hu
  rcases hu with rfl | rfl | rfl <;> rfl⟩
def tU : List (Nat × TypeDesc) := [(2, .int .i64), (3, .int .i64), (4, .bool), (22, .int .i8), (23, .int .i16), (24, .array 10 23), (25, .array 10 24), (26, .int .u16), (27, .array 10 26), (29, .struct #[{ name := "Wide", type := 22, offset := 0, embedded := false, tag := "", pkgPath := "", byteOffset := 0 }, { name := "High", type := 22, offset := 1, embedded := false, tag := "", pkgPath := "", byteOffset := 1 }, { name := "Grass", type := 25, offset := 2, embedded := false, tag := "", pkgPath := "", byteOffset := 2 }, { name := "East", type := 27, offset := 102, embedded := false, tag := "", pkgPath := "", byteOffset := 202 }, { name := "South", type := 27, offset := 112, embedded := false, tag := "", pkgPath := "", byteOffset := 222 }]), (30, .slice 62), (33, .struct #[{ name := "Wide", type := 22, offset := 0, embedded := false, tag := "", pkgPath := "", byteOffset := 0 }, { name := "High", type := 22, offset := 1, embedded := false, tag := "", pkgPath := "", byteOffset := 1 }, { name := "Grass", type := 25, offset := 2, embedded := false, tag := "", pkgPath := "", byteOffset := 2 }, { name := "East", type := 27, offset := 102, embedded := false, tag := "", pkgPath := "", byteOffset := 202 }, { name := "South", type := 27, offset := 112, embedded := false, tag := "", pkgPath := "", byteOffset := 222 }]), (38, .slice 77), (40, .slice 2), (43, .slice 72), (53, .array 10 2), (54, .array 10 53), (55, .slice 43), (62, .struct #[{ name := "Grass", type := 23, offset := 0, embedded := false, tag := "", pkgPath := "", byteOffset := 0 }, { name := "Grows", type := 23, offset := 1, embedded := false, tag := "", pkgPath := "", byteOffset := 2 }, { name := "Most", type := 23, offset := 2, embedded := false, tag := "", pkgPath := "", byteOffset := 4 }]), (72, .struct #[{ name := "X", type := 22, offset := 0, embedded := false, tag := "", pkgPath := "", byteOffset := 0 }, { name := "Y", type := 22, offset := 1, embedded := false, tag := "", pkgPath := "", byteOffset := 1 }]), (77, .struct #[{ name := "X", type := 22, offset := 0, embedded := false, tag := "", pkgPath := "", byteOffset := 0 }, { name := "Y", type := 22, offset := 1, embedded := false, tag := "", pkgPath := "", byteOffset := 1 }]), (81, .int .u64), (98, .array 10 24), (108, .struct #[{ name := "At", type := 72, offset := 0, embedded := false, tag := "", pkgPath := "", byteOffset := 0 }, { name := "South", type := 4, offset := 2, embedded := false, tag := "", pkgPath := "", byteOffset := 2 }])]
theorem tU_ok : okU Try.prog tU := ⟨by kernel_rfl, by kernel_rfl, by kernel_rfl, by kernel_rfl, by kernel_rfl, by kernel_rfl, by kernel_rfl, by kernel_rfl, by kernel_rfl, by kernel_rfl, by kernel_rfl, by kernel_rfl, by kernel_rfl, by kernel_rfl, by kernel_rfl, by kernel_rfl, by kernel_rfl, by kernel_rfl, by kernel_rfl, by kernel_rfl, by kernel_rfl, by kernel_rfl, by kernel_rfl, by kernel_rfl, trivial⟩
def tI : List (Nat × TI) := [(2, ⟨1, 8, .int .i64 0⟩), (4, ⟨1, 1, .bool false⟩), (22, ⟨1, 1, .int .i8 0⟩), (23, ⟨1, 2, .int .i16 0⟩), (24, ⟨10, 20, .agg #[.int .i16 0, .int .i16 0, .int .i16 0, .int .i16 0, .int .i16 0, .int .i16 0, .int .i16 0, .int .i16 0, .int .i16 0, .int .i16 0]⟩), (25, ⟨100, 200, .agg #[.int .i16 0, .int .i16 0, .int .i16 0, .int .i16 0, .int .i16 0, .int .i16 0, .int .i16 0, .int .i16 0, .int .i16 0, .int .i16 0, .int .i16 0, .int .i16 0, .int .i16 0, .int .i16 0, .int .i16 0, .int .i16 0, .int .i16 0, .int .i16 0, .int .i16 0, .int .i16 0, .int .i16 0, .int .i16 0, .int .i16 0, .int .i16 0, .int .i16 0, .int .i16 0, .int .i16 0, .int .i16 0, .int .i16 0, .int .i16 0, .int .i16 0, .int .i16 0, .int .i16 0, .int .i16 0, .int .i16 0, .int .i16 0, .int .i16 0, .int .i16 0, .int .i16 0, .int .i16 0, .int .i16 0, .int .i16 0, .int .i16 0, .int .i16 0, .int .i16 0, .int .i16 0, .int .i16 0, .int .i16 0, .int .i16 0, .int .i16 0, .int .i16 0, .int .i16 0, .int .i16 0, .int .i16 0, .int .i16 0, .int .i16 0, .int .i16 0, .int .i16 0, .int .i16 0, .int .i16 0, .int .i16 0, .int .i16 0, .int .i16 0, .int .i16 0, .int .i16 0, .int .i16 0, .int .i16 0, .int .i16 0, .int .i16 0, .int .i16 0, .int .i16 0, .int .i16 0, .int .i16 0, .int .i16 0, .int .i16 0, .int .i16 0, .int .i16 0, .int .i16 0, .int .i16 0, .int .i16 0, .int .i16 0, .int .i16 0, .int .i16 0, .int .i16 0, .int .i16 0, .int .i16 0, .int .i16 0, .int .i16 0, .int .i16 0, .int .i16 0, .int .i16 0, .int .i16 0, .int .i16 0, .int .i16 0, .int .i16 0, .int .i16 0, .int .i16 0, .int .i16 0, .int .i16 0, .int .i16 0]⟩), (26, ⟨1, 2, .int .u16 0⟩), (27, ⟨10, 20, .agg #[.int .u16 0, .int .u16 0, .int .u16 0, .int .u16 0, .int .u16 0, .int .u16 0, .int .u16 0, .int .u16 0, .int .u16 0, .int .u16 0]⟩), (29, ⟨122, 242, .agg #[.int .i8 0, .int .i8 0, .int .i16 0, .int .i16 0, .int .i16 0, .int .i16 0, .int .i16 0, .int .i16 0, .int .i16 0, .int .i16 0, .int .i16 0, .int .i16 0, .int .i16 0, .int .i16 0, .int .i16 0, .int .i16 0, .int .i16 0, .int .i16 0, .int .i16 0, .int .i16 0, .int .i16 0, .int .i16 0, .int .i16 0, .int .i16 0, .int .i16 0, .int .i16 0, .int .i16 0, .int .i16 0, .int .i16 0, .int .i16 0, .int .i16 0, .int .i16 0, .int .i16 0, .int .i16 0, .int .i16 0, .int .i16 0, .int .i16 0, .int .i16 0, .int .i16 0, .int .i16 0, .int .i16 0, .int .i16 0, .int .i16 0, .int .i16 0, .int .i16 0, .int .i16 0, .int .i16 0, .int .i16 0, .int .i16 0, .int .i16 0, .int .i16 0, .int .i16 0, .int .i16 0, .int .i16 0, .int .i16 0, .int .i16 0, .int .i16 0, .int .i16 0, .int .i16 0, .int .i16 0, .int .i16 0, .int .i16 0, .int .i16 0, .int .i16 0, .int .i16 0, .int .i16 0, .int .i16 0, .int .i16 0, .int .i16 0, .int .i16 0, .int .i16 0, .int .i16 0, .int .i16 0, .int .i16 0, .int .i16 0, .int .i16 0, .int .i16 0, .int .i16 0, .int .i16 0, .int .i16 0, .int .i16 0, .int .i16 0, .int .i16 0, .int .i16 0, .int .i16 0, .int .i16 0, .int .i16 0, .int .i16 0, .int .i16 0, .int .i16 0, .int .i16 0, .int .i16 0, .int .i16 0, .int .i16 0, .int .i16 0, .int .i16 0, .int .i16 0, .int .i16 0, .int .i16 0, .int .i16 0, .int .i16 0, .int .i16 0, .int .u16 0, .int .u16 0, .int .u16 0, .int .u16 0, .int .u16 0, .int .u16 0, .int .u16 0, .int .u16 0, .int .u16 0, .int .u16 0, .int .u16 0, .int .u16 0, .int .u16 0, .int .u16 0, .int .u16 0, .int .u16 0, .int .u16 0, .int .u16 0, .int .u16 0, .int .u16 0]⟩), (33, ⟨122, 242, .agg #[.int .i8 0, .int .i8 0, .int .i16 0, .int .i16 0, .int .i16 0, .int .i16 0, .int .i16 0, .int .i16 0, .int .i16 0, .int .i16 0, .int .i16 0, .int .i16 0, .int .i16 0, .int .i16 0, .int .i16 0, .int .i16 0, .int .i16 0, .int .i16 0, .int .i16 0, .int .i16 0, .int .i16 0, .int .i16 0, .int .i16 0, .int .i16 0, .int .i16 0, .int .i16 0, .int .i16 0, .int .i16 0, .int .i16 0, .int .i16 0, .int .i16 0, .int .i16 0, .int .i16 0, .int .i16 0, .int .i16 0, .int .i16 0, .int .i16 0, .int .i16 0, .int .i16 0, .int .i16 0, .int .i16 0, .int .i16 0, .int .i16 0, .int .i16 0, .int .i16 0, .int .i16 0, .int .i16 0, .int .i16 0, .int .i16 0, .int .i16 0, .int .i16 0, .int .i16 0, .int .i16 0, .int .i16 0, .int .i16 0, .int .i16 0, .int .i16 0, .int .i16 0, .int .i16 0, .int .i16 0, .int .i16 0, .int .i16 0, .int .i16 0, .int .i16 0, .int .i16 0, .int .i16 0, .int .i16 0, .int .i16 0, .int .i16 0, .int .i16 0, .int .i16 0, .int .i16 0, .int .i16 0, .int .i16 0, .int .i16 0, .int .i16 0, .int .i16 0, .int .i16 0, .int .i16 0, .int .i16 0, .int .i16 0, .int .i16 0, .int .i16 0, .int .i16 0, .int .i16 0, .int .i16 0, .int .i16 0, .int .i16 0, .int .i16 0, .int .i16 0, .int .i16 0, .int .i16 0, .int .i16 0, .int .i16 0, .int .i16 0, .int .i16 0, .int .i16 0, .int .i16 0, .int .i16 0, .int .i16 0, .int .i16 0, .int .i16 0, .int .u16 0, .int .u16 0, .int .u16 0, .int .u16 0, .int .u16 0, .int .u16 0, .int .u16 0, .int .u16 0, .int .u16 0, .int .u16 0, .int .u16 0, .int .u16 0, .int .u16 0, .int .u16 0, .int .u16 0, .int .u16 0, .int .u16 0, .int .u16 0, .int .u16 0, .int .u16 0]⟩), (43, ⟨1, 24, .slice none 0 0⟩), (53, ⟨10, 80, .agg #[.int .i64 0, .int .i64 0, .int .i64 0, .int .i64 0, .int .i64 0, .int .i64 0, .int .i64 0, .int .i64 0, .int .i64 0, .int .i64 0]⟩), (54, ⟨100, 800, .agg #[.int .i64 0, .int .i64 0, .int .i64 0, .int .i64 0, .int .i64 0, .int .i64 0, .int .i64 0, .int .i64 0, .int .i64 0, .int .i64 0, .int .i64 0, .int .i64 0, .int .i64 0, .int .i64 0, .int .i64 0, .int .i64 0, .int .i64 0, .int .i64 0, .int .i64 0, .int .i64 0, .int .i64 0, .int .i64 0, .int .i64 0, .int .i64 0, .int .i64 0, .int .i64 0, .int .i64 0, .int .i64 0, .int .i64 0, .int .i64 0, .int .i64 0, .int .i64 0, .int .i64 0, .int .i64 0, .int .i64 0, .int .i64 0, .int .i64 0, .int .i64 0, .int .i64 0, .int .i64 0, .int .i64 0, .int .i64 0, .int .i64 0, .int .i64 0, .int .i64 0, .int .i64 0, .int .i64 0, .int .i64 0, .int .i64 0, .int .i64 0, .int .i64 0, .int .i64 0, .int .i64 0, .int .i64 0, .int .i64 0, .int .i64 0, .int .i64 0, .int .i64 0, .int .i64 0, .int .i64 0, .int .i64 0, .int .i64 0, .int .i64 0, .int .i64 0, .int .i64 0, .int .i64 0, .int .i64 0, .int .i64 0, .int .i64 0, .int .i64 0, .int .i64 0, .int .i64 0, .int .i64 0, .int .i64 0, .int .i64 0, .int .i64 0, .int .i64 0, .int .i64 0, .int .i64 0, .int .i64 0, .int .i64 0, .int .i64 0, .int .i64 0, .int .i64 0, .int .i64 0, .int .i64 0, .int .i64 0, .int .i64 0, .int .i64 0, .int .i64 0, .int .i64 0, .int .i64 0, .int .i64 0, .int .i64 0, .int .i64 0, .int .i64 0, .int .i64 0, .int .i64 0, .int .i64 0, .int .i64 0]⟩), (62, ⟨3, 6, .agg #[.int .i16 0, .int .i16 0, .int .i16 0]⟩), (72, ⟨2, 2, .agg #[.int .i8 0, .int .i8 0]⟩), (77, ⟨2, 2, .agg #[.int .i8 0, .int .i8 0]⟩), (98, ⟨100, 200, .agg #[.int .i16 0, .int .i16 0, .int .i16 0, .int .i16 0, .int .i16 0, .int .i16 0, .int .i16 0, .int .i16 0, .int .i16 0, .int .i16 0, .int .i16 0, .int .i16 0, .int .i16 0, .int .i16 0, .int .i16 0, .int .i16 0, .int .i16 0, .int .i16 0, .int .i16 0, .int .i16 0, .int .i16 0, .int .i16 0, .int .i16 0, .int .i16 0, .int .i16 0, .int .i16 0, .int .i16 0, .int .i16 0, .int .i16 0, .int .i16 0, .int .i16 0, .int .i16 0, .int .i16 0, .int .i16 0, .int .i16 0, .int .i16 0, .int .i16 0, .int .i16 0, .int .i16 0, .int .i16 0, .int .i16 0, .int .i16 0, .int .i16 0, .int .i16 0, .int .i16 0, .int .i16 0, .int .i16 0, .int .i16 0, .int .i16 0, .int .i16 0, .int .i16 0, .int .i16 0, .int .i16 0, .int .i16 0, .int .i16 0, .int .i16 0, .int .i16 0, .int .i16 0, .int .i16 0, .int .i16 0, .int .i16 0, .int .i16 0, .int .i16 0, .int .i16 0, .int .i16 0, .int .i16 0, .int .i16 0, .int .i16 0, .int .i16 0, .int .i16 0, .int .i16 0, .int .i16 0, .int .i16 0, .int .i16 0, .int .i16 0, .int .i16 0, .int .i16 0, .int .i16 0, .int .i16 0, .int .i16 0, .int .i16 0, .int .i16 0, .int .i16 0, .int .i16 0, .int .i16 0, .int .i16 0, .int .i16 0, .int .i16 0, .int .i16 0, .int .i16 0, .int .i16 0, .int .i16 0, .int .i16 0, .int .i16 0, .int .i16 0, .int .i16 0, .int .i16 0, .int .i16 0, .int .i16 0, .int .i16 0]⟩), (108, ⟨3, 3, .agg #[.int .i8 0, .int .i8 0, .bool false]⟩)]
theorem tI_ok : okI Try.prog tI := ⟨by kernel_rfl, by kernel_rfl, by kernel_rfl, by kernel_rfl, by kernel_rfl, by kernel_rfl, by kernel_rfl, by kernel_rfl, by kernel_rfl, by kernel_rfl, by kernel_rfl, by kernel_rfl, by kernel_rfl, by kernel_rfl, by kernel_rfl, by kernel_rfl, by kernel_rfl, by kernel_rfl, trivial⟩
theorem mixed : Try.prog.follows .mixedOrders = true := by kernel_rfl
theorem eqG72 : Try.prog.eqGuardType Try.prog.depth 72 = false := by kernel_rfl
theorem eqT72 : EqT Try.prog 72 cSpot fun z => .agg (cSpot.enc z).toArray := EqT.mk tU_ok (T := 72) rfl (by kernel_rfl) fun x y => by
  show some (decide (x.X = y.X) && (decide (x.Y = y.Y) && (true))) = _
  cases x; cases y
  congr 1
  rw [Bool.eq_iff_iff]
  simp
theorem ckn72 (n : Nat) (e : Bool) (x : Spot) (w : World) : (Instr.checkKey e (n + 1 + 1) 72 (keyV cSpot x)).run Try.prog w = .ok () w := by
  have p0 : (part 22 (cSpot.enc x).toArray 0).run Try.prog w = .ok (.int .i8 x.X) w := run_part_plain (P := Try.prog) (e := 22) w (by kernel_rfl) rfl
  have p1 : (part 22 (cSpot.enc x).toArray 1).run Try.prog w = .ok (.int .i8 x.Y) w := run_part_plain (P := Try.prog) (e := 22) w (by kernel_rfl) rfl
  unfold Instr.checkKey
  simp only [Sem.run_bind, run_underlying Try.underlying72, Result.andThen_ok, keyV]
  simp [p0, p1, Instr.checkKey, run_underlying Try.underlying22]
theorem ck72 (e : Bool) (x : Spot) (w : World) : (Instr.checkKey e 10000 72 (keyV cSpot x)).run Try.prog w = .ok () w := ckn72 9998 e x w
theorem sbn72 (n : Nat) (x : Spot) : Instr.sameBits (n + 1) (keyV cSpot x) (keyV cSpot x) = true := by
  simp [Instr.sameBits, cSpot]
theorem sb72 (x : Spot) : Instr.sameBits 10000 (keyV cSpot x) (keyV cSpot x) = true := sbn72 9999 x
theorem key72 : KeyOk Try.prog 72 cSpot := ⟨by kernel_rfl, ck72, fun x y w => eqT72 9980 x y w, sb72⟩
theorem hb5 : hasBody Try.prog 5 := hasBody.mk Try.func5 rfl (by kernel_rfl)
theorem hb6 : hasBody Try.prog 6 := hasBody.mk Try.func6 rfl (by kernel_rfl)
theorem hb7 : hasBody Try.prog 7 := hasBody.mk Try.func7 rfl (by kernel_rfl)
theorem hb8 : hasBody Try.prog 8 := hasBody.mk Try.func8 rfl (by kernel_rfl)
theorem hb9 : hasBody Try.prog 9 := hasBody.mk Try.func9 rfl (by kernel_rfl)
theorem hb10 : hasBody Try.prog 10 := hasBody.mk Try.func10 rfl (by kernel_rfl)
theorem hb11 : hasBody Try.prog 11 := hasBody.mk Try.func11 rfl (by kernel_rfl)
theorem hb12 : hasBody Try.prog 12 := hasBody.mk Try.func12 rfl (by kernel_rfl)
theorem hb13 : hasBody Try.prog 13 := hasBody.mk Try.func13 rfl (by kernel_rfl)
theorem hb14 : hasBody Try.prog 14 := hasBody.mk Try.func14 rfl (by kernel_rfl)
theorem hb15 : hasBody Try.prog 15 := hasBody.mk Try.func15 rfl (by kernel_rfl)
theorem hb16 : hasBody Try.prog 16 := hasBody.mk Try.func16 rfl (by kernel_rfl)
theorem hb17 : hasBody Try.prog 17 := hasBody.mk Try.func17 rfl (by kernel_rfl)
theorem hb18 : hasBody Try.prog 18 := hasBody.mk Try.func18 rfl (by kernel_rfl)
theorem hb19 : hasBody Try.prog 19 := hasBody.mk Try.func19 rfl (by kernel_rfl)
theorem hb20 : hasBody Try.prog 20 := hasBody.mk Try.func20 rfl (by kernel_rfl)
theorem hb21 : hasBody Try.prog 21 := hasBody.mk Try.func21 rfl (by kernel_rfl)
theorem hb22 : hasBody Try.prog 22 := hasBody.mk Try.func22 rfl (by kernel_rfl)
theorem hb23 : hasBody Try.prog 23 := hasBody.mk Try.func23 rfl (by kernel_rfl)
theorem hb24 : hasBody Try.prog 24 := hasBody.mk Try.func24 rfl (by kernel_rfl)
theorem hb25 : hasBody Try.prog 25 := hasBody.mk Try.func25 rfl (by kernel_rfl)
theorem hb26 : hasBody Try.prog 26 := hasBody.mk Try.func26 rfl (by kernel_rfl)
theorem hb27 : hasBody Try.prog 27 := hasBody.mk Try.func27 rfl (by kernel_rfl)
theorem hb28 : hasBody Try.prog 28 := hasBody.mk Try.func28 rfl (by kernel_rfl)
theorem hb29 : hasBody Try.prog 29 := hasBody.mk Try.func29 rfl (by kernel_rfl)
theorem hb30 : hasBody Try.prog 30 := hasBody.mk Try.func30 rfl (by kernel_rfl)
theorem hb31 : hasBody Try.prog 31 := hasBody.mk Try.func31 rfl (by kernel_rfl)
theorem hb32 : hasBody Try.prog 32 := hasBody.mk Try.func32 rfl (by kernel_rfl)
theorem hb33 : hasBody Try.prog 33 := hasBody.mk Try.func33 rfl (by kernel_rfl)
theorem hb34 : hasBody Try.prog 34 := hasBody.mk Try.func34 rfl (by kernel_rfl)
theorem hb35 : hasBody Try.prog 35 := hasBody.mk Try.func35 rfl (by kernel_rfl)
theorem hb36 : hasBody Try.prog 36 := hasBody.mk Try.func36 rfl (by kernel_rfl)
theorem hb37 : hasBody Try.prog 37 := hasBody.mk Try.func37 rfl (by kernel_rfl)
theorem hb38 : hasBody Try.prog 38 := hasBody.mk Try.func38 rfl (by kernel_rfl)
theorem hb39 : hasBody Try.prog 39 := hasBody.mk Try.func39 rfl (by kernel_rfl)
theorem hb40 : hasBody Try.prog 40 := hasBody.mk Try.func40 rfl (by kernel_rfl)
theorem hb41 : hasBody Try.prog 41 := hasBody.mk Try.func41 rfl (by kernel_rfl)
theorem hb42 : hasBody Try.prog 42 := hasBody.mk Try.func42 rfl (by kernel_rfl)
theorem hb43 : hasBody Try.prog 43 := hasBody.mk Try.func43 rfl (by kernel_rfl)
theorem hb44 : hasBody Try.prog 44 := hasBody.mk Try.func44 rfl (by kernel_rfl)
theorem hb45 : hasBody Try.prog 45 := hasBody.mk Try.func45 rfl (by kernel_rfl)
theorem hb46 : hasBody Try.prog 46 := hasBody.mk Try.func46 rfl (by kernel_rfl)
theorem hb47 : hasBody Try.prog 47 := hasBody.mk Try.func47 rfl (by kernel_rfl)
theorem hb48 : hasBody Try.prog 48 := hasBody.mk Try.func48 rfl (by kernel_rfl)
theorem hb49 : hasBody Try.prog 49 := hasBody.mk Try.func49 rfl (by kernel_rfl)
theorem hb50 : hasBody Try.prog 50 := hasBody.mk Try.func50 rfl (by kernel_rfl)
theorem hb51 : hasBody Try.prog 51 := hasBody.mk Try.func51 rfl (by kernel_rfl)
theorem hb52 : hasBody Try.prog 52 := hasBody.mk Try.func52 rfl (by kernel_rfl)
theorem hb53 : hasBody Try.prog 53 := hasBody.mk Try.func53 rfl (by kernel_rfl)
theorem hb54 : hasBody Try.prog 54 := hasBody.mk Try.func54 rfl (by kernel_rfl)
theorem hb55 : hasBody Try.prog 55 := hasBody.mk Try.func55 rfl (by kernel_rfl)
theorem hb56 : hasBody Try.prog 56 := hasBody.mk Try.func56 rfl (by kernel_rfl)
theorem hb57 : hasBody Try.prog 57 := hasBody.mk Try.func57 rfl (by kernel_rfl)
theorem hb58 : hasBody Try.prog 58 := hasBody.mk Try.func58 rfl (by kernel_rfl)
theorem hb59 : hasBody Try.prog 59 := hasBody.mk Try.func59 rfl (by kernel_rfl)
theorem hb60 : hasBody Try.prog 60 := hasBody.mk Try.func60 rfl (by kernel_rfl)
theorem hb61 : hasBody Try.prog 61 := hasBody.mk Try.func61 rfl (by kernel_rfl)
theorem hb62 : hasBody Try.prog 62 := hasBody.mk Try.func62 rfl (by kernel_rfl)
theorem hb63 : hasBody Try.prog 63 := hasBody.mk Try.func63 rfl (by kernel_rfl)
theorem hb64 : hasBody Try.prog 64 := hasBody.mk Try.func64 rfl (by kernel_rfl)
theorem hb65 : hasBody Try.prog 65 := hasBody.mk Try.func65 rfl (by kernel_rfl)
theorem hb66 : hasBody Try.prog 66 := hasBody.mk Try.func66 rfl (by kernel_rfl)
theorem hb67 : hasBody Try.prog 67 := hasBody.mk Try.func67 rfl (by kernel_rfl)
theorem hb68 : hasBody Try.prog 68 := hasBody.mk Try.func68 rfl (by kernel_rfl)
theorem hb69 : hasBody Try.prog 69 := hasBody.mk Try.func69 rfl (by kernel_rfl)
theorem hb70 : hasBody Try.prog 70 := hasBody.mk Try.func70 rfl (by kernel_rfl)
end Go.Proofs.Ytlmfhjjhgiobdaa
