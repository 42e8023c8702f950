
/-
  Plain laws: cells, row by row.
-/
import Derived.Test.YtegibnmfiogebaaGreatQP
namespace Go.Proofs.YtegibnmfiogebaaGreat
open G
set_option linter.unusedVariables false
set_option linter.unusedSimpArgs false

/-- The cells of a row, of some rows. -/
def rowF (q : Nat → Bool) (y : Nat) : Nat → Nat → List Spot
  | _, 0 => []
  | x, n + 1 => (if q x = true then [⟨(x : Int), (y : Int)⟩] else []) ++ rowF q y (x + 1) n
def gridF (q : Nat → Nat → Bool) (W : Nat) : Nat → Nat → List Spot
  | _, 0 => []
  | y, n + 1 => rowF (q y) y 0 W ++ gridF q W (y + 1) n
theorem rowF_len (q : Nat → Bool) (y : Nat) : ∀ n x : Nat, (rowF q y x n).length ≤ n
  | 0, x => by simp [rowF]
  | n + 1, x => by
    have := rowF_len q y n (x + 1)
    simp only [rowF, List.length_append]
    split <;> simp <;> omega
theorem gridF_len (q : Nat → Nat → Bool) (W : Nat) : ∀ n y : Nat, (gridF q W y n).length ≤ n * W
  | 0, y => by simp [gridF]
  | n + 1, y => by
    have h1 := gridF_len q W n (y + 1)
    have h2 := rowF_len (q y) y W 0
    simp only [gridF, List.length_append, Nat.add_mul, Nat.one_mul]; omega
theorem rowF_mem {q : Nat → Bool} {y : Nat} {s : Spot} : ∀ {n x : Nat}, s ∈ rowF q y x n ↔ ∃ j : Nat, x ≤ j ∧ j < x + n ∧ q j = true ∧ s = ⟨(j : Int), (y : Int)⟩
  | 0, x => by simp only [rowF, List.not_mem_nil, false_iff]; rintro ⟨j, h1, h2, _⟩; omega
  | n + 1, x => by
    simp only [rowF, List.mem_append, rowF_mem (n := n) (x := x + 1)]
    constructor
    · rintro (h | ⟨j, h1, h2, h3⟩)
      · split at h
        · rename_i hq
          obtain rfl := List.mem_singleton.1 h
          exact ⟨x, Nat.le_refl _, by omega, hq, rfl⟩
        · simp at h
      · exact ⟨j, by omega, by omega, h3⟩
    · rintro ⟨j, h1, h2, h3, rfl⟩
      rcases Nat.eq_or_lt_of_le h1 with rfl | h4
      · left; rw [if_pos h3]; simp
      · exact .inr ⟨j, by omega, by omega, h3, rfl⟩
theorem gridF_mem {q : Nat → Nat → Bool} {W : Nat} {s : Spot} : ∀ {n y : Nat}, s ∈ gridF q W y n ↔ ∃ i j : Nat, y ≤ i ∧ i < y + n ∧ j < W ∧ q i j = true ∧ s = ⟨(j : Int), (i : Int)⟩
  | 0, y => by simp only [gridF, List.not_mem_nil, false_iff]; rintro ⟨i, j, h1, h2, _⟩; omega
  | n + 1, y => by
    simp only [gridF, List.mem_append, gridF_mem (n := n) (y := y + 1), rowF_mem]
    constructor
    · rintro (⟨j, h1, h2, h3, rfl⟩ | ⟨i, j, h1, h2, h3⟩)
      · exact ⟨y, j, Nat.le_refl _, by omega, by omega, h3, rfl⟩
      · exact ⟨i, j, by omega, by omega, h3⟩
    · rintro ⟨i, j, h1, h2, h3, h4, rfl⟩
      rcases Nat.eq_or_lt_of_le h1 with rfl | h5
      · exact .inl ⟨j, Nat.zero_le _, by omega, h4, rfl⟩
      · exact .inr ⟨i, j, by omega, by omega, h3, h4, rfl⟩
theorem cellsRow {p : Pasture} {W : Nat} (hW : p.Wide = (W : Int)) (hW' : W ≤ 10) {g : Spot → Option Bool} {q : Nat → Bool} {y : Nat} (hg : ∀ x : Nat, x < W → g ⟨(x : Int), (y : Int)⟩ = some (q x)) : ∀ (n x k : Nat) (acc : List Spot), x + n = W → n < k → acc.length + n ≤ 4000000000 →
 impl_Pasture_cells.l2 p g (y : Int) k acc (x : Int) = some (acc ++ rowF q y x n)
  | 0, x, k + 1, acc, hx, hk, hl => by
    rw [impl_Pasture_cells.l2, if_neg (by omega)]; simp [rowF]
  | n + 1, x, k + 1, acc, hx, hk, hl => by
    have e : IntKind.i8.wrap ((x : Int) + 1) = ((x + 1 : Nat) : Int) := by rw [w8 (by omega) (by omega)]; omega
    rw [impl_Pasture_cells.l2, if_pos (by omega), hg x (by omega), Option.bind_some, e]
    cases hq : q x
    · rw [if_neg (by simp), cellsRow hW hW' hg n (x + 1) k acc (by omega) (by omega) (by omega)]
      simp [rowF, hq]
    · rw [if_pos rfl, chk_t (by simp; omega), Option.bind_some, cellsRow hW hW' hg n (x + 1) k _ (by omega) (by omega) (by simp; omega)]
      simp [rowF, hq]
  | _, _, 0, _, _, hk, _ => by omega
theorem cellsGrid {p : Pasture} {W H : Nat} (hW : p.Wide = (W : Int)) (hW' : W ≤ 10) (hH : p.High = (H : Int)) (hH' : H ≤ 10) {g : Spot → Option Bool} {q : Nat → Nat → Bool} (hg : ∀ y x : Nat, y < H → x < W → g ⟨(x : Int), (y : Int)⟩ = some (q y x)) : ∀ (n y k : Nat) (acc : List Spot), y + n = H → n + 12 < k → acc.length + n * 10 ≤ 4000000000 →
 impl_Pasture_cells.l1 p g k acc (y : Int) = some (acc ++ gridF q W y n)
  | 0, y, k + 1, acc, hx, hk, hl => by
    rw [impl_Pasture_cells.l1, if_neg (by omega)]; simp [gridF]
  | n + 1, y, k + 1, acc, hy, hk, hl => by
    have e : IntKind.i8.wrap ((y : Int) + 1) = ((y + 1 : Nat) : Int) := by rw [w8 (by omega) (by omega)]; omega
    have hr := cellsRow hW hW' (hg y · (by omega)) W 0 k acc (by omega) (by omega) (by omega)
    have hl2 := rowF_len (q y) y W 0
    rw [show ((0 : Nat) : Int) = 0 from rfl] at hr
    rw [impl_Pasture_cells.l1, if_pos (by omega), hr, Option.bind_some, Option.bind_some, e, cellsGrid hW hW' hH hH' hg n (y + 1) k _ (by omega) (by omega) (by simp only [List.length_append]; omega)]
    simp [gridF]
  | _, _, 0, _, _, hk, _ => by omega
theorem cells_eq {p : Pasture} (hw : okW p = true) {g : Spot → Option Bool} {q : Nat → Nat → Bool} (hg : ∀ y x : Nat, y < p.High.toNat → x < p.Wide.toNat → g ⟨(x : Int), (y : Int)⟩ = some (q y x)) {k : Nat} (hk : 24 ≤ k) :
 impl_Pasture_cells.f k p g = some (gridF q p.Wide.toNat 0 p.High.toNat) := by
 obtain ⟨a, b⟩ := okW_iff.1 hw
 unfold impl_Pasture_cells.f
 have := cellsGrid (p := p) (W := p.Wide.toNat) (H := p.High.toNat) (by omega) (by omega) (by omega) (by omega) hg p.High.toNat 0 k [] (by omega) (by omega) (by simp; omega)
 rw [show ((0 : Nat) : Int) = 0 from rfl] at this
 rw [this]; simp
end Go.Proofs.YtegibnmfiogebaaGreat
