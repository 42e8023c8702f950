/-
  What comes in at a law's call; what the laws want to know.
-/
import Derived.Test.YtlmfhjjhgiobdaaGP1
import Derived.Test.YtlmfhjjhgiobdaaGL
import Derived.Test.YtlmfhjjhgiobdaaGM
import Derived.Test.YtlmfhjjhgiobdaaChecked
import Derived.Test.YtlmfhjjhgiobdaaRows
namespace Go.Proofs.Ytlmfhjjhgiobdaa
open G
set_option linter.unusedVariables false
set_option linter.unusedSimpArgs false
set_option maxRecDepth 100000
set_option maxHeartbeats 4000000
theorem own : ownKnob Try.prog.godebug = none := by kernel_rfl
theorem laidOut : laidOutB Try.prog = true := by kernel_rfl
theorem opn22 : Opn Try.prog 22 (ci .i8) (inI .i8) := Opn.int (by kernel_rfl)
theorem opn23 : Opn Try.prog 23 (ci .i16) (inI .i16) := Opn.int (by kernel_rfl)
theorem opn24 : Opn Try.prog 24 (carr 10 (ci .i16)) (fun a => ∀ x ∈ a.l, (inI .i16) x) := Opn.arr (C := (ci .i16)) (by kernel_rfl) (by kernel_rfl) (by kernel_rfl) opn23
theorem opn25 : Opn Try.prog 25 (carr 10 (carr 10 (ci .i16))) (fun a => ∀ x ∈ a.l, (fun a => ∀ x ∈ a.l, (inI .i16) x) x) := Opn.arr (C := (carr 10 (ci .i16))) (by kernel_rfl) (by kernel_rfl) (by kernel_rfl) opn24
theorem opn26 : Opn Try.prog 26 (ci .u16) (inI .u16) := Opn.int (by kernel_rfl)
theorem opn27 : Opn Try.prog 27 (carr 10 (ci .u16)) (fun a => ∀ x ∈ a.l, (inI .u16) x) := Opn.arr (C := (ci .u16)) (by kernel_rfl) (by kernel_rfl) (by kernel_rfl) opn26
def VPasture (x : Pasture) : Prop := (inI .i8) x.Wide ∧ (inI .i8) x.High ∧ (fun a => ∀ x ∈ a.l, (fun a => ∀ x ∈ a.l, (inI .i16) x) x) x.Grass ∧ (fun a => ∀ x ∈ a.l, (inI .u16) x) x.East ∧ (fun a => ∀ x ∈ a.l, (inI .u16) x) x.South
theorem opn29 : Opn Try.prog 29 cPasture VPasture := by
  intro H enc w base spare held fuel cs x h
  obtain ⟨hl, hp⟩ := parts (fs := #[{ name := "Wide", type := 22, offset := 0, embedded := false, tag := "", pkgPath := "", byteOffset := 0 }, { name := "High", type := 22, offset := 1, embedded := false, tag := "", pkgPath := "", byteOffset := 1 }, { name := "Grass", type := 25, offset := 2, embedded := false, tag := "", pkgPath := "", byteOffset := 2 }, { name := "East", type := 27, offset := 102, embedded := false, tag := "", pkgPath := "", byteOffset := 202 }, { name := "South", type := 27, offset := 112, embedded := false, tag := "", pkgPath := "", byteOffset := 222 }]) (by kernel_rfl : Try.prog.underlying 29 = some _) h
  rw [(by kernel_rfl : Try.prog.cellsOf 29 = 122)] at hl
  obtain ⟨y0, e0, v0⟩ := hp.field 0 _ rfl opn22 0 1 rfl (by kernel_rfl)
  obtain ⟨y1, e1, v1⟩ := hp.field 1 _ rfl opn22 1 1 rfl (by kernel_rfl)
  obtain ⟨y2, e2, v2⟩ := hp.field 2 _ rfl opn25 2 100 rfl (by kernel_rfl)
  obtain ⟨y3, e3, v3⟩ := hp.field 3 _ rfl opn27 102 10 rfl (by kernel_rfl)
  obtain ⟨y4, e4, v4⟩ := hp.field 4 _ rfl opn27 112 10 rfl (by kernel_rfl)
  exact ⟨⟨y0, y1, y2, y3, y4⟩, ((glue e0 (glue e1 (glue e2 (glue e3 (glue e4 (glue0 hl) rfl) rfl) rfl) rfl) rfl).trans (by simp only [List.append_nil]; rfl)), v0, v1, v2, v3, v4⟩
def VSpot (x : Spot) : Prop := (inI .i8) x.X ∧ (inI .i8) x.Y
theorem opn77 : Opn Try.prog 77 cSpot VSpot := by
  intro H enc w base spare held fuel cs x h
  obtain ⟨hl, hp⟩ := parts (fs := #[{ name := "X", type := 22, offset := 0, embedded := false, tag := "", pkgPath := "", byteOffset := 0 }, { name := "Y", type := 22, offset := 1, embedded := false, tag := "", pkgPath := "", byteOffset := 1 }]) (by kernel_rfl : Try.prog.underlying 77 = some _) h
  rw [(by kernel_rfl : Try.prog.cellsOf 77 = 2)] at hl
  obtain ⟨y0, e0, v0⟩ := hp.field 0 _ rfl opn22 0 1 rfl (by kernel_rfl)
  obtain ⟨y1, e1, v1⟩ := hp.field 1 _ rfl opn22 1 1 rfl (by kernel_rfl)
  exact ⟨⟨y0, y1⟩, (glue e0 (glue e1 (glue0 hl) rfl) rfl), v0, v1⟩
end Go.Proofs.Ytlmfhjjhgiobdaa
