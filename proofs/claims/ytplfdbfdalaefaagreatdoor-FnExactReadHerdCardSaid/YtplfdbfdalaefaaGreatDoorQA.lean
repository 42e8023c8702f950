
/-
  Plain laws: herds that the laws copy, compare and measure.
-/
import Derived.Test.YtplfdbfdalaefaaGreatDoorQH
namespace Go.Proofs.YtplfdbfdalaefaaGreatDoor
open G
set_option linter.unusedVariables false
set_option linter.unusedSimpArgs false
def VHerd (x : Herd) : Prop := (∀ z ∈ x.Names, (fun s => s.size ≤ maxLen) z) ∧ x.Names.length ≤ 9223372036854775807 ∧ (∀ z ∈ x.Eats, (inI .i16) z) ∧ x.Eats.length ≤ 9223372036854775807 ∧ (∀ z ∈ x.Foes, (inI .u16) z) ∧ x.Foes.length ≤ 9223372036854775807

def smallH (h : Herd) : Prop := h.Names.length ≤ 1048576 ∧ h.Eats.length ≤ 1048576 ∧ h.Foes.length ≤ 1048576
theorem herd_eq (a b : Herd) : a = b ↔ a.Names = b.Names ∧ a.Eats = b.Eats ∧ a.Foes = b.Foes := by
  cases a; cases b
  simp
theorem eqHerd_ev (a b : Herd) (hs : smallH a) : Ev (fun k => laws_eqHerd.f k a b) (decide (a = b)) := by
  obtain ⟨s1, s2, s3⟩ := hs
  refine Ev.bind (laws_eqStringS_ev a.Names b.Names (by omega)) ?_
  by_cases e1 : a.Names = b.Names
  · refine Ev.neg (by simp [e1]) (Ev.bind (laws_eqInt16S_ev a.Eats b.Eats (by omega)) ?_)
    by_cases e2 : a.Eats = b.Eats
    · refine Ev.neg (by simp [e2]) (Ev.bind (laws_eqUint16S_ev a.Foes b.Foes (by omega)) ?_)
      by_cases e3 : a.Foes = b.Foes
      · exact Ev.neg (by simp [e3]) (Ev.const (by simp [herd_eq, e1, e2, e3]))
      · exact Ev.pos (by simp [e3]) (Ev.const (by simp [herd_eq, e3]))
    · exact Ev.pos (by simp [e2]) (Ev.const (by simp [herd_eq, e2]))
  · exact Ev.pos (by simp [e1]) (Ev.const (by simp [herd_eq, e1]))

end Go.Proofs.YtplfdbfdalaefaaGreatDoor
