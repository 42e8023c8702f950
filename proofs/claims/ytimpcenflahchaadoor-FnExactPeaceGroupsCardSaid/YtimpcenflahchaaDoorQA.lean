/-
  Plain laws: herds that the laws copy, compare and measure.
-/
import Derived.Test.YtimpcenflahchaaDoorQH
namespace Go.Proofs.YtimpcenflahchaaDoor
open G
set_option linter.unusedVariables false
set_option linter.unusedSimpArgs false

theorem szStringS_loop (xs : List ByteArray) (hx : xs.length ≤ 9223372036854775806) (hs : ∀ s ∈ xs, s.size ≤ 9223372036854775807) : ∀ i, i ≤ xs.length → ∀ y : Int, 0 ≤ y → y ≤ 1048576 → ∃ r : Int ⊕ Int, Ev (fun k => laws_szStringS.l1 xs k y (i : Int)) r ∧ (r = .inl (-1) ∨ ∃ z, r = .inr z ∧ 0 ≤ z ∧ z ≤ y) := by
  refine upL ?_ ?_
  · intro y h0 h1
    exact ⟨.inr y, Ev.step (fun k => laws_szStringS.l1.eq_2 _ _ _ _) (Ev.neg (by omega) (Ev.const rfl)), .inr ⟨y, rfl, h0, Int.le_refl _⟩⟩
  · intro i hi ih y h0 h1
    have hz := hs _ (List.getElem_mem hi)
    have hw : IntKind.i64.wrap (y - (xs[i].size : Int)) = y - (xs[i].size : Int) := w64 (by omega) (by omega)
    by_cases hlt : y - (xs[i].size : Int) < 0
    · refine ⟨.inl (-1), Ev.step (fun k => laws_szStringS.l1.eq_2 _ _ _ _) (Ev.pos (by omega) (Ev.bind (Ev.const (getI_nat hi)) ?_)), .inl rfl⟩
      rw [hw]
      exact Ev.pos hlt (Ev.const rfl)
    · obtain ⟨r, hr, h⟩ := ih (y - (xs[i].size : Int)) (by omega) (by omega)
      refine ⟨r, Ev.step (fun k => laws_szStringS.l1.eq_2 _ _ _ _) (Ev.pos (by omega) (Ev.bind (Ev.const (getI_nat hi)) ?_)), ?_⟩
      · rw [hw, wsucc hi (by omega)]
        exact Ev.neg hlt hr
      · rcases h with h | ⟨z, h, a, b⟩
        · exact .inl h
        · exact .inr ⟨z, h, a, by omega⟩
theorem szStringS_ev (xs : List ByteArray) (hx : xs.length ≤ 9223372036854775807) (hs : ∀ s ∈ xs, s.size ≤ maxLen) (b : Int) (h0 : 0 ≤ b) (h1 : b ≤ 1048576) : ∃ r : Int, Ev (fun k => laws_szStringS.f k xs b) r ∧ (r = -1 ∨ (0 ≤ r ∧ r ≤ b - xs.length)) := by
  have hw : IntKind.i64.wrap (b - (xs.length : Int)) = b - (xs.length : Int) := w64 (by omega) (by omega)
  by_cases h : b - (xs.length : Int) < 0
  · refine ⟨-1, Ev.pos (by rw [hw]; exact h) (Ev.const rfl), .inl rfl⟩
  · obtain ⟨r, hr, hh⟩ := szStringS_loop xs (by omega) (fun s hs' => Nat.le_trans (hs s hs') (by decide)) 0 (Nat.zero_le _) (b - (xs.length : Int)) (by omega) (by omega)
    rw [← hw] at hr
    rcases hh with rfl | ⟨z, rfl, a, c⟩
    · exact ⟨-1, Ev.neg (by rw [hw]; exact h) (Ev.bind hr (Ev.const rfl)), .inl rfl⟩
    · exact ⟨z, Ev.neg (by rw [hw]; exact h) (Ev.bind hr (Ev.const rfl)), .inr ⟨a, c⟩⟩
/-- A herd's size: -1, or what is left. -/
theorem szHerd_ev (h : Herd) (hv : VHerd h) (b : Int) (h0 : 0 ≤ b) (h1 : b ≤ 1048576) : ∃ r : Int, Ev (fun k => laws_szHerd.f k h b) r ∧ (r = -1 ∨ (0 ≤ r ∧ r ≤ b - h.Names.length - h.Eats.length - h.Foes.length)) := by
  obtain ⟨v1, n1, v2, n2, v3, n3⟩ := hv
  obtain ⟨r, hr, hh⟩ := szStringS_ev h.Names n1 v1 b h0 h1
  rcases hh with rfl | ⟨a, c⟩
  · exact ⟨-1, Ev.bind hr (Ev.pos (by omega) (Ev.const rfl)), .inl rfl⟩
  · have e2 := laws_szInt16S_eq h.Eats r a (by omega) n2
    by_cases g2 : r < (h.Eats.length : Int)
    · rw [if_pos g2] at e2
      exact ⟨-1, Ev.bind hr (Ev.neg (by omega) (Ev.bind (Ev.const e2) (Ev.pos (by omega) (Ev.const rfl)))), .inl rfl⟩
    · rw [if_neg g2] at e2
      have e3 := laws_szUint16S_eq h.Foes (r - h.Eats.length) (by omega) (by omega) n3
      by_cases g3 : r - (h.Eats.length : Int) < (h.Foes.length : Int)
      · rw [if_pos g3] at e3
        exact ⟨-1, Ev.bind hr (Ev.neg (by omega) (Ev.bind (Ev.const e2) (Ev.neg (by omega) (Ev.bind (Ev.const e3) (Ev.pos (by omega) (Ev.const rfl)))))), .inl rfl⟩
      · rw [if_neg g3] at e3
        exact ⟨r - h.Eats.length - h.Foes.length, Ev.bind hr (Ev.neg (by omega) (Ev.bind (Ev.const e2) (Ev.neg (by omega) (Ev.bind (Ev.const e3) (Ev.neg (by omega) (Ev.const rfl)))))), .inr ⟨by omega, by omega⟩⟩
def smallH (h : Herd) : Prop := h.Names.length ≤ 1048576 ∧ h.Eats.length ≤ 1048576 ∧ h.Foes.length ≤ 1048576
theorem toHerd_ev (h : Herd) (hs : smallH h) : Ev (fun k => laws_toHerd.f k h) h :=
  Ev.bind (laws_toStringS_ev h.Names hs.1) (Ev.bind (laws_toInt16S_ev h.Eats hs.2.1) (Ev.bind (laws_toUint16S_ev h.Foes hs.2.2) (Ev.const rfl)))
theorem herd_eq (a b : Herd) : a = b ↔ a.Names = b.Names ∧ a.Eats = b.Eats ∧ a.Foes = b.Foes := by
  cases a; cases b
  simp
theorem eqHerd_ev (a b : Herd) (hs : smallH a) : Ev (fun k => laws_eqHerd.f k a b) (decide (a = b)) := by
  obtain ⟨s1, s2, s3⟩ := hs
  refine Ev.bind (laws_eqStringS_ev a.Names b.Names (by omega)) ?_
  by_cases e1 : a.Names = b.Names
  · refine Ev.neg (by simp [e1]) (Ev.bind (laws_eqInt16S_ev a.Eats b.Eats (by omega)) ?_)
    by_cases e2 : a.Eats = b.Eats
    · refine Ev.neg (by simp [e2]) (Ev.bind (laws_eqUint16S_ev a.Foes b.Foes (by omega)) ?_)
      by_cases e3 : a.Foes = b.Foes
      · exact Ev.neg (by simp [e3]) (Ev.const (by simp [herd_eq, e1, e2, e3]))
      · exact Ev.pos (by simp [e3]) (Ev.const (by simp [herd_eq, e3]))
    · exact Ev.pos (by simp [e2]) (Ev.const (by simp [herd_eq, e2]))
  · exact Ev.pos (by simp [e1]) (Ev.const (by simp [herd_eq, e1]))

end Go.Proofs.YtimpcenflahchaaDoor
