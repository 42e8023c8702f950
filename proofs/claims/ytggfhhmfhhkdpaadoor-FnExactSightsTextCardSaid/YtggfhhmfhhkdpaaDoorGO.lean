/-
  What comes in at a law's call; what the laws want to know.
-/
import Derived.Test.YtggfhhmfhhkdpaaDoorGP0
import Derived.Test.YtggfhhmfhhkdpaaDoorGL
import Derived.Test.YtggfhhmfhhkdpaaDoorGM
import Derived.Test.YtggfhhmfhhkdpaaDoorChecked
import Derived.Test.YtggfhhmfhhkdpaaDoorRows
namespace Go.Proofs.YtggfhhmfhhkdpaaDoor
open G
set_option linter.unusedVariables false
set_option linter.unusedSimpArgs false
set_option maxRecDepth 100000
set_option maxHeartbeats 4000000
theorem own : ownKnob Tryd.prog.godebug = none := by kernel_rfl
theorem laidOut : laidOutB Tryd.prog = true := by kernel_rfl
theorem opn34 : Opn Tryd.prog 34 (ci .i16) (inI .i16) := Opn.int (by kernel_rfl)
theorem opn35 : Opn Tryd.prog 35 (ci .i8) (inI .i8) := Opn.int (by kernel_rfl)
def VSpot (x : Spot) : Prop := (inI .i8) x.X ∧ (inI .i8) x.Y
theorem opn42 : Opn Tryd.prog 42 cSpot VSpot := by
  intro H enc w base spare held fuel cs x h
  obtain ⟨hl, hp⟩ := parts (fs := #[{ name := "X", type := 35, offset := 0, embedded := false, tag := "", pkgPath := "", byteOffset := 0 }, { name := "Y", type := 35, offset := 1, embedded := false, tag := "", pkgPath := "", byteOffset := 1 }]) (by kernel_rfl : Tryd.prog.underlying 42 = some _) h
  rw [(by kernel_rfl : Tryd.prog.cellsOf 42 = 2)] at hl
  obtain ⟨y0, e0, v0⟩ := hp.field 0 _ rfl opn35 0 1 rfl (by kernel_rfl)
  obtain ⟨y1, e1, v1⟩ := hp.field 1 _ rfl opn35 1 1 rfl (by kernel_rfl)
  exact ⟨⟨y0, y1⟩, (glue e0 (glue e1 (glue0 hl) rfl) rfl), v0, v1⟩
def VSight (x : Sight) : Prop := (inI .i16) x.Day ∧ (VSpot) x.At
theorem opn44 : Opn Tryd.prog 44 cSight VSight := by
  intro H enc w base spare held fuel cs x h
  obtain ⟨hl, hp⟩ := parts (fs := #[{ name := "Day", type := 34, offset := 0, embedded := false, tag := "", pkgPath := "", byteOffset := 0 }, { name := "At", type := 42, offset := 1, embedded := false, tag := "", pkgPath := "", byteOffset := 2 }]) (by kernel_rfl : Tryd.prog.underlying 44 = some _) h
  rw [(by kernel_rfl : Tryd.prog.cellsOf 44 = 3)] at hl
  obtain ⟨y0, e0, v0⟩ := hp.field 0 _ rfl opn34 0 1 rfl (by kernel_rfl)
  obtain ⟨y1, e1, v1⟩ := hp.field 1 _ rfl opn42 1 2 rfl (by kernel_rfl)
  exact ⟨⟨y0, y1⟩, (glue e0 (glue e1 (glue0 hl) rfl) rfl), v0, v1⟩
end Go.Proofs.YtggfhhmfhhkdpaaDoor
