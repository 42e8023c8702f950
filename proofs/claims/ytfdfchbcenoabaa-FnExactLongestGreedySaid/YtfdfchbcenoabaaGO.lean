/-
  What comes in at a law's call; what the laws want to know.
-/
import Derived.Test.YtfdfchbcenoabaaGP1
import Derived.Test.YtfdfchbcenoabaaGL
import Derived.Test.YtfdfchbcenoabaaGM
import Derived.Test.YtfdfchbcenoabaaChecked
import Derived.Test.YtfdfchbcenoabaaRows
namespace Go.Proofs.Ytfdfchbcenoabaa
open G
set_option linter.unusedVariables false
set_option maxRecDepth 100000
set_option maxHeartbeats 1000000
theorem own : ownKnob Try.prog.godebug = none := by kernel_rfl
theorem laidOut : laidOutB Try.prog = true := by kernel_rfl
theorem opn55 : Opn Try.prog 55 (ci .i16) (inI .i16) := Opn.int (by kernel_rfl)
def VMeadow (x : Meadow) : Prop := (inI .i16) x.Grass ∧ (inI .i16) x.Grows ∧ (inI .i16) x.Most
theorem opn59 : Opn Try.prog 59 cMeadow VMeadow := by
  intro H enc w base spare held fuel cs x h
  obtain ⟨hl, hp⟩ := parts (fs := #[{ name := "Grass", type := 55, offset := 0, embedded := false, tag := "", pkgPath := "", byteOffset := 0 }, { name := "Grows", type := 55, offset := 1, embedded := false, tag := "", pkgPath := "", byteOffset := 2 }, { name := "Most", type := 55, offset := 2, embedded := false, tag := "", pkgPath := "", byteOffset := 4 }]) (by kernel_rfl : Try.prog.underlying 59 = some _) h
  rw [(by kernel_rfl : Try.prog.cellsOf 59 = 3)] at hl
  obtain ⟨y0, e0, v0⟩ := hp.field 0 _ rfl opn55 0 1 rfl (by kernel_rfl)
  obtain ⟨y1, e1, v1⟩ := hp.field 1 _ rfl opn55 1 1 rfl (by kernel_rfl)
  obtain ⟨y2, e2, v2⟩ := hp.field 2 _ rfl opn55 2 1 rfl (by kernel_rfl)
  exact ⟨⟨y0, y1, y2⟩, (glue e0 (glue e1 (glue e2 (glue0 hl) rfl) rfl) rfl), v0, v1, v2⟩
theorem opn2 : Opn Try.prog 2 (ci .i64) (inI .i64) := Opn.int (by kernel_rfl)
end Go.Proofs.Ytfdfchbcenoabaa
