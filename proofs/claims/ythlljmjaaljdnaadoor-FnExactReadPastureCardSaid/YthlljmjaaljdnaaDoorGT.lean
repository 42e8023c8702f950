/-
  Tables of types, data and names for this seat's program.
-/
import Derived.Test.YthlljmjaaljdnaaDoorGY
import Derived.Test.YthlljmjaaljdnaaDoorGU
import Derived.Test.YthlljmjaaljdnaaDoorGV
import Derived.Test.YthlljmjaaljdnaaDoorGI
import Derived.Test.YthlljmjaaljdnaaDoorSh
import Derived.Test.YthlljmjaaljdnaaDoorProg
namespace Go.Proofs.YthlljmjaaljdnaaDoor
open G
set_option linter.unusedVariables false
set_option linter.unusedSimpArgs false
set_option maxRecDepth 100000
set_option maxHeartbeats 4000000
structure Pasture where
  Wide : Int
  High : Int
  Grass : Arr 10 (Arr 10 Int)
  East : Arr 10 Int
  South : Arr 10 Int
deriving DecidableEq
def cPasture : Cd Pasture := ⟨122, fun x => (ci .i8).enc x.Wide ++ ((ci .i8).enc x.High ++ ((carr 10 (carr 10 (ci .i16))).enc x.Grass ++ ((carr 10 (ci .u16)).enc x.East ++ ((carr 10 (ci .u16)).enc x.South)))), fun x => by simp only [List.length_append, Cd.len]; rfl, fun x u hu => by
  simp only [List.mem_append] at hu
  rcases hu with hu | hu | hu | hu | hu <;> exact Cd.one _ _ _ (by assumption)⟩
def pre_Pasture_0 (x : Pasture) : List Value := []
def post_Pasture_0 (x : Pasture) : List Value := (ci .i8).enc x.High ++ ((carr 10 (carr 10 (ci .i16))).enc x.Grass ++ ((carr 10 (ci .u16)).enc x.East ++ ((carr 10 (ci .u16)).enc x.South)))
theorem fe_Pasture_0 (x : Pasture) : cPasture.enc x = pre_Pasture_0 x ++ ((ci .i8).enc x.Wide ++ post_Pasture_0 x) := by first | rfl | simp only [cPasture, pre_Pasture_0, post_Pasture_0, List.append_assoc, List.nil_append, List.append_nil] | (simp only [cPasture, pre_Pasture_0, post_Pasture_0, List.append_assoc, List.nil_append, List.append_nil]; rfl)
theorem fl_Pasture_0 (x : Pasture) : (pre_Pasture_0 x).length = 0 := by first | rfl | (simp only [pre_Pasture_0, List.length_append, Cd.len]; rfl)
theorem put_Pasture_0 {x : Pasture} {f' : Int} {off : Nat} {vs : List Value} (h : Put (ci .i8) x.Wide off vs f') : Put cPasture x (0 + off) vs (⟨f', x.High, x.Grass, x.East, x.South⟩ : Pasture) := Put.fld h (fl_Pasture_0 x) (Nat.le_of_ble_eq_true rfl) (fe_Pasture_0 x) (fe_Pasture_0 (⟨f', x.High, x.Grass, x.East, x.South⟩ : Pasture))
def pre_Pasture_1 (x : Pasture) : List Value := (ci .i8).enc x.Wide
def post_Pasture_1 (x : Pasture) : List Value := (carr 10 (carr 10 (ci .i16))).enc x.Grass ++ ((carr 10 (ci .u16)).enc x.East ++ ((carr 10 (ci .u16)).enc x.South))
theorem fe_Pasture_1 (x : Pasture) : cPasture.enc x = pre_Pasture_1 x ++ ((ci .i8).enc x.High ++ post_Pasture_1 x) := by first | rfl | simp only [cPasture, pre_Pasture_1, post_Pasture_1, List.append_assoc, List.nil_append, List.append_nil] | (simp only [cPasture, pre_Pasture_1, post_Pasture_1, List.append_assoc, List.nil_append, List.append_nil]; rfl)
theorem fl_Pasture_1 (x : Pasture) : (pre_Pasture_1 x).length = 1 := by first | rfl | (simp only [pre_Pasture_1, List.length_append, Cd.len]; rfl)
theorem put_Pasture_1 {x : Pasture} {f' : Int} {off : Nat} {vs : List Value} (h : Put (ci .i8) x.High off vs f') : Put cPasture x (1 + off) vs (⟨x.Wide, f', x.Grass, x.East, x.South⟩ : Pasture) := Put.fld h (fl_Pasture_1 x) (Nat.le_of_ble_eq_true rfl) (fe_Pasture_1 x) (fe_Pasture_1 (⟨x.Wide, f', x.Grass, x.East, x.South⟩ : Pasture))
def pre_Pasture_2 (x : Pasture) : List Value := (ci .i8).enc x.Wide ++ (ci .i8).enc x.High
def post_Pasture_2 (x : Pasture) : List Value := (carr 10 (ci .u16)).enc x.East ++ ((carr 10 (ci .u16)).enc x.South)
theorem fe_Pasture_2 (x : Pasture) : cPasture.enc x = pre_Pasture_2 x ++ ((carr 10 (carr 10 (ci .i16))).enc x.Grass ++ post_Pasture_2 x) := by first | rfl | simp only [cPasture, pre_Pasture_2, post_Pasture_2, List.append_assoc, List.nil_append, List.append_nil] | (simp only [cPasture, pre_Pasture_2, post_Pasture_2, List.append_assoc, List.nil_append, List.append_nil]; rfl)
theorem fl_Pasture_2 (x : Pasture) : (pre_Pasture_2 x).length = 2 := by first | rfl | (simp only [pre_Pasture_2, List.length_append, Cd.len]; rfl)
theorem put_Pasture_2 {x : Pasture} {f' : Arr 10 (Arr 10 Int)} {off : Nat} {vs : List Value} (h : Put (carr 10 (carr 10 (ci .i16))) x.Grass off vs f') : Put cPasture x (2 + off) vs (⟨x.Wide, x.High, f', x.East, x.South⟩ : Pasture) := Put.fld h (fl_Pasture_2 x) (Nat.le_of_ble_eq_true rfl) (fe_Pasture_2 x) (fe_Pasture_2 (⟨x.Wide, x.High, f', x.East, x.South⟩ : Pasture))
def pre_Pasture_3 (x : Pasture) : List Value := (ci .i8).enc x.Wide ++ (ci .i8).enc x.High ++ (carr 10 (carr 10 (ci .i16))).enc x.Grass
def post_Pasture_3 (x : Pasture) : List Value := (carr 10 (ci .u16)).enc x.South
theorem fe_Pasture_3 (x : Pasture) : cPasture.enc x = pre_Pasture_3 x ++ ((carr 10 (ci .u16)).enc x.East ++ post_Pasture_3 x) := by first | rfl | simp only [cPasture, pre_Pasture_3, post_Pasture_3, List.append_assoc, List.nil_append, List.append_nil] | (simp only [cPasture, pre_Pasture_3, post_Pasture_3, List.append_assoc, List.nil_append, List.append_nil]; rfl)
theorem fl_Pasture_3 (x : Pasture) : (pre_Pasture_3 x).length = 102 := by first | rfl | (simp only [pre_Pasture_3, List.length_append, Cd.len]; rfl)
theorem put_Pasture_3 {x : Pasture} {f' : Arr 10 Int} {off : Nat} {vs : List Value} (h : Put (carr 10 (ci .u16)) x.East off vs f') : Put cPasture x (102 + off) vs (⟨x.Wide, x.High, x.Grass, f', x.South⟩ : Pasture) := Put.fld h (fl_Pasture_3 x) (Nat.le_of_ble_eq_true rfl) (fe_Pasture_3 x) (fe_Pasture_3 (⟨x.Wide, x.High, x.Grass, f', x.South⟩ : Pasture))
def pre_Pasture_4 (x : Pasture) : List Value := (ci .i8).enc x.Wide ++ (ci .i8).enc x.High ++ (carr 10 (carr 10 (ci .i16))).enc x.Grass ++ (carr 10 (ci .u16)).enc x.East
def post_Pasture_4 (x : Pasture) : List Value := []
theorem fe_Pasture_4 (x : Pasture) : cPasture.enc x = pre_Pasture_4 x ++ ((carr 10 (ci .u16)).enc x.South ++ post_Pasture_4 x) := by first | rfl | simp only [cPasture, pre_Pasture_4, post_Pasture_4, List.append_assoc, List.nil_append, List.append_nil] | (simp only [cPasture, pre_Pasture_4, post_Pasture_4, List.append_assoc, List.nil_append, List.append_nil]; rfl)
theorem fl_Pasture_4 (x : Pasture) : (pre_Pasture_4 x).length = 112 := by first | rfl | (simp only [pre_Pasture_4, List.length_append, Cd.len]; rfl)
theorem put_Pasture_4 {x : Pasture} {f' : Arr 10 Int} {off : Nat} {vs : List Value} (h : Put (carr 10 (ci .u16)) x.South off vs f') : Put cPasture x (112 + off) vs (⟨x.Wide, x.High, x.Grass, x.East, f'⟩ : Pasture) := Put.fld h (fl_Pasture_4 x) (Nat.le_of_ble_eq_true rfl) (fe_Pasture_4 x) (fe_Pasture_4 (⟨x.Wide, x.High, x.Grass, x.East, f'⟩ : Pasture))
structure Spot where
  X : Int
  Y : Int
deriving DecidableEq
def cSpot : Cd Spot := ⟨2, fun x => [.int .i8 x.X, .int .i8 x.Y], fun _ => rfl, fun x u hu => by
  simp only [List.mem_cons, List.not_mem_nil, or_false] at hu
  rcases hu with rfl | rfl <;> rfl⟩
structure Hurdle where
  At : Spot
  South : Bool
deriving DecidableEq
def cHurdle : Cd Hurdle := ⟨3, fun x => [.int .i8 x.At.X, .int .i8 x.At.Y, .bool x.South], fun _ => rfl, fun x u hu => by
  simp only [List.mem_cons, List.not_mem_nil, or_false] at hu
  rcases hu with rfl | rfl | rfl <;> rfl⟩
def tU : List (Nat × TypeDesc) := [(2, .int .i64), (3, .int .i64), (4, .bool), (5, .int .u8), (9, .string), (22, .int .i8), (23, .int .i16), (24, .array 10 23), (25, .array 10 24), (26, .int .u16), (27, .array 10 26), (29, .struct #[{ name := "Wide", type := 22, offset := 0, embedded := false, tag := "", pkgPath := "", byteOffset := 0 }, { name := "High", type := 22, offset := 1, embedded := false, tag := "", pkgPath := "", byteOffset := 1 }, { name := "Grass", type := 25, offset := 2, embedded := false, tag := "", pkgPath := "", byteOffset := 2 }, { name := "East", type := 27, offset := 102, embedded := false, tag := "", pkgPath := "", byteOffset := 202 }, { name := "South", type := 27, offset := 112, embedded := false, tag := "", pkgPath := "", byteOffset := 222 }]), (34, .slice 9), (40, .int .u64), (47, .struct #[{ name := "X", type := 22, offset := 0, embedded := false, tag := "", pkgPath := "", byteOffset := 0 }, { name := "Y", type := 22, offset := 1, embedded := false, tag := "", pkgPath := "", byteOffset := 1 }]), (52, .struct #[{ name := "At", type := 47, offset := 0, embedded := false, tag := "", pkgPath := "", byteOffset := 0 }, { name := "South", type := 4, offset := 2, embedded := false, tag := "", pkgPath := "", byteOffset := 2 }]), (60, .slice 47), (69, .pointer 72), (70, .slice 5), (72, .struct #[{ name := "addr", type := 69, offset := 0, embedded := false, tag := "", pkgPath := "strings", byteOffset := 0 }, { name := "buf", type := 70, offset := 1, embedded := false, tag := "", pkgPath := "strings", byteOffset := 8 }])]
theorem tU_ok : okU Tryd.prog tU := ⟨by kernel_rfl, by kernel_rfl, by kernel_rfl, by kernel_rfl, by kernel_rfl, by kernel_rfl, by kernel_rfl, by kernel_rfl, by kernel_rfl, by kernel_rfl, by kernel_rfl, by kernel_rfl, by kernel_rfl, by kernel_rfl, by kernel_rfl, by kernel_rfl, by kernel_rfl, by kernel_rfl, by kernel_rfl, by kernel_rfl, trivial⟩
def tI : List (Nat × TI) := [(4, ⟨1, 1, .bool false⟩), (9, ⟨1, 16, .string ByteArray.empty⟩), (22, ⟨1, 1, .int .i8 0⟩), (23, ⟨1, 2, .int .i16 0⟩), (24, ⟨10, 20, .agg #[.int .i16 0, .int .i16 0, .int .i16 0, .int .i16 0, .int .i16 0, .int .i16 0, .int .i16 0, .int .i16 0, .int .i16 0, .int .i16 0]⟩), (25, ⟨100, 200, .agg #[.int .i16 0, .int .i16 0, .int .i16 0, .int .i16 0, .int .i16 0, .int .i16 0, .int .i16 0, .int .i16 0, .int .i16 0, .int .i16 0, .int .i16 0, .int .i16 0, .int .i16 0, .int .i16 0, .int .i16 0, .int .i16 0, .int .i16 0, .int .i16 0, .int .i16 0, .int .i16 0, .int .i16 0, .int .i16 0, .int .i16 0, .int .i16 0, .int .i16 0, .int .i16 0, .int .i16 0, .int .i16 0, .int .i16 0, .int .i16 0, .int .i16 0, .int .i16 0, .int .i16 0, .int .i16 0, .int .i16 0, .int .i16 0, .int .i16 0, .int .i16 0, .int .i16 0, .int .i16 0, .int .i16 0, .int .i16 0, .int .i16 0, .int .i16 0, .int .i16 0, .int .i16 0, .int .i16 0, .int .i16 0, .int .i16 0, .int .i16 0, .int .i16 0, .int .i16 0, .int .i16 0, .int .i16 0, .int .i16 0, .int .i16 0, .int .i16 0, .int .i16 0, .int .i16 0, .int .i16 0, .int .i16 0, .int .i16 0, .int .i16 0, .int .i16 0, .int .i16 0, .int .i16 0, .int .i16 0, .int .i16 0, .int .i16 0, .int .i16 0, .int .i16 0, .int .i16 0, .int .i16 0, .int .i16 0, .int .i16 0, .int .i16 0, .int .i16 0, .int .i16 0, .int .i16 0, .int .i16 0, .int .i16 0, .int .i16 0, .int .i16 0, .int .i16 0, .int .i16 0, .int .i16 0, .int .i16 0, .int .i16 0, .int .i16 0, .int .i16 0, .int .i16 0, .int .i16 0, .int .i16 0, .int .i16 0, .int .i16 0, .int .i16 0, .int .i16 0, .int .i16 0, .int .i16 0, .int .i16 0]⟩), (26, ⟨1, 2, .int .u16 0⟩), (27, ⟨10, 20, .agg #[.int .u16 0, .int .u16 0, .int .u16 0, .int .u16 0, .int .u16 0, .int .u16 0, .int .u16 0, .int .u16 0, .int .u16 0, .int .u16 0]⟩), (29, ⟨122, 242, .agg #[.int .i8 0, .int .i8 0, .int .i16 0, .int .i16 0, .int .i16 0, .int .i16 0, .int .i16 0, .int .i16 0, .int .i16 0, .int .i16 0, .int .i16 0, .int .i16 0, .int .i16 0, .int .i16 0, .int .i16 0, .int .i16 0, .int .i16 0, .int .i16 0, .int .i16 0, .int .i16 0, .int .i16 0, .int .i16 0, .int .i16 0, .int .i16 0, .int .i16 0, .int .i16 0, .int .i16 0, .int .i16 0, .int .i16 0, .int .i16 0, .int .i16 0, .int .i16 0, .int .i16 0, .int .i16 0, .int .i16 0, .int .i16 0, .int .i16 0, .int .i16 0, .int .i16 0, .int .i16 0, .int .i16 0, .int .i16 0, .int .i16 0, .int .i16 0, .int .i16 0, .int .i16 0, .int .i16 0, .int .i16 0, .int .i16 0, .int .i16 0, .int .i16 0, .int .i16 0, .int .i16 0, .int .i16 0, .int .i16 0, .int .i16 0, .int .i16 0, .int .i16 0, .int .i16 0, .int .i16 0, .int .i16 0, .int .i16 0, .int .i16 0, .int .i16 0, .int .i16 0, .int .i16 0, .int .i16 0, .int .i16 0, .int .i16 0, .int .i16 0, .int .i16 0, .int .i16 0, .int .i16 0, .int .i16 0, .int .i16 0, .int .i16 0, .int .i16 0, .int .i16 0, .int .i16 0, .int .i16 0, .int .i16 0, .int .i16 0, .int .i16 0, .int .i16 0, .int .i16 0, .int .i16 0, .int .i16 0, .int .i16 0, .int .i16 0, .int .i16 0, .int .i16 0, .int .i16 0, .int .i16 0, .int .i16 0, .int .i16 0, .int .i16 0, .int .i16 0, .int .i16 0, .int .i16 0, .int .i16 0, .int .i16 0, .int .i16 0, .int .u16 0, .int .u16 0, .int .u16 0, .int .u16 0, .int .u16 0, .int .u16 0, .int .u16 0, .int .u16 0, .int .u16 0, .int .u16 0, .int .u16 0, .int .u16 0, .int .u16 0, .int .u16 0, .int .u16 0, .int .u16 0, .int .u16 0, .int .u16 0, .int .u16 0, .int .u16 0]⟩), (47, ⟨2, 2, .agg #[.int .i8 0, .int .i8 0]⟩), (52, ⟨3, 3, .agg #[.int .i8 0, .int .i8 0, .bool false]⟩), (69, ⟨1, 8, .pointer none⟩), (70, ⟨1, 24, .slice none 0 0⟩), (72, ⟨2, 32, .agg #[.pointer none, .slice none 0 0]⟩)]
theorem tI_ok : okI Tryd.prog tI := ⟨by kernel_rfl, by kernel_rfl, by kernel_rfl, by kernel_rfl, by kernel_rfl, by kernel_rfl, by kernel_rfl, by kernel_rfl, by kernel_rfl, by kernel_rfl, by kernel_rfl, by kernel_rfl, by kernel_rfl, by kernel_rfl, trivial⟩
theorem mixed : Tryd.prog.follows .mixedOrders = true := by kernel_rfl
theorem hb4 : hasBody Tryd.prog 4 := hasBody.mk Tryd.func4 rfl (by kernel_rfl)
theorem hb5 : hasBody Tryd.prog 5 := hasBody.mk Tryd.func5 rfl (by kernel_rfl)
theorem hb6 : hasBody Tryd.prog 6 := hasBody.mk Tryd.func6 rfl (by kernel_rfl)
theorem hb7 : hasBody Tryd.prog 7 := hasBody.mk Tryd.func7 rfl (by kernel_rfl)
theorem hb8 : hasBody Tryd.prog 8 := hasBody.mk Tryd.func8 rfl (by kernel_rfl)
theorem hb9 : hasBody Tryd.prog 9 := hasBody.mk Tryd.func9 rfl (by kernel_rfl)
theorem hb10 : hasBody Tryd.prog 10 := hasBody.mk Tryd.func10 rfl (by kernel_rfl)
theorem hb11 : hasBody Tryd.prog 11 := hasBody.mk Tryd.func11 rfl (by kernel_rfl)
theorem hb12 : hasBody Tryd.prog 12 := hasBody.mk Tryd.func12 rfl (by kernel_rfl)
theorem hb13 : hasBody Tryd.prog 13 := hasBody.mk Tryd.func13 rfl (by kernel_rfl)
theorem hb14 : hasBody Tryd.prog 14 := hasBody.mk Tryd.func14 rfl (by kernel_rfl)
theorem hb15 : hasBody Tryd.prog 15 := hasBody.mk Tryd.func15 rfl (by kernel_rfl)
theorem hb16 : hasBody Tryd.prog 16 := hasBody.mk Tryd.func16 rfl (by kernel_rfl)
theorem hb17 : hasBody Tryd.prog 17 := hasBody.mk Tryd.func17 rfl (by kernel_rfl)
theorem hb18 : hasBody Tryd.prog 18 := hasBody.mk Tryd.func18 rfl (by kernel_rfl)
theorem hb19 : hasBody Tryd.prog 19 := hasBody.mk Tryd.func19 rfl (by kernel_rfl)
theorem hb20 : hasBody Tryd.prog 20 := hasBody.mk Tryd.func20 rfl (by kernel_rfl)
theorem hb21 : hasBody Tryd.prog 21 := hasBody.mk Tryd.func21 rfl (by kernel_rfl)
theorem hb22 : hasBody Tryd.prog 22 := hasBody.mk Tryd.func22 rfl (by kernel_rfl)
theorem hb24 : hasBody Tryd.prog 24 := hasBody.mk Tryd.func24 rfl (by kernel_rfl)
theorem hb25 : hasBody Tryd.prog 25 := hasBody.mk Tryd.func25 rfl (by kernel_rfl)
theorem hb26 : hasBody Tryd.prog 26 := hasBody.mk Tryd.func26 rfl (by kernel_rfl)
theorem hb27 : hasBody Tryd.prog 27 := hasBody.mk Tryd.func27 rfl (by kernel_rfl)
theorem hb28 : hasBody Tryd.prog 28 := hasBody.mk Tryd.func28 rfl (by kernel_rfl)
theorem hb29 : hasBody Tryd.prog 29 := hasBody.mk Tryd.func29 rfl (by kernel_rfl)
theorem hb30 : hasBody Tryd.prog 30 := hasBody.mk Tryd.func30 rfl (by kernel_rfl)
theorem hb31 : hasBody Tryd.prog 31 := hasBody.mk Tryd.func31 rfl (by kernel_rfl)
theorem hb32 : hasBody Tryd.prog 32 := hasBody.mk Tryd.func32 rfl (by kernel_rfl)
theorem hb33 : hasBody Tryd.prog 33 := hasBody.mk Tryd.func33 rfl (by kernel_rfl)
theorem hb34 : hasBody Tryd.prog 34 := hasBody.mk Tryd.func34 rfl (by kernel_rfl)
theorem hb35 : hasBody Tryd.prog 35 := hasBody.mk Tryd.func35 rfl (by kernel_rfl)
theorem hb39 : hasBody Tryd.prog 39 := hasBody.mk Tryd.func39 rfl (by kernel_rfl)
theorem hb40 : hasBody Tryd.prog 40 := hasBody.mk Tryd.func40 rfl (by kernel_rfl)
theorem hb41 : hasBody Tryd.prog 41 := hasBody.mk Tryd.func41 rfl (by kernel_rfl)
theorem hb44 : hasBody Tryd.prog 44 := hasBody.mk Tryd.func44 rfl (by kernel_rfl)
theorem hb45 : hasBody Tryd.prog 45 := hasBody.mk Tryd.func45 rfl (by kernel_rfl)
theorem hb46 : hasBody Tryd.prog 46 := hasBody.mk Tryd.func46 rfl (by kernel_rfl)
end Go.Proofs.YthlljmjaaljdnaaDoor
