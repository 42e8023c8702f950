/-
  Plain laws: the cells of a pasture in order, and sums of grass.
-/
import Derived.Test.YtpaciifeklccfaaQP
namespace Go.Proofs.Ytpaciifeklccfaa
open G
set_option linter.unusedVariables false
set_option linter.unusedSimpArgs false

/-- The cells of a row, of some rows. -/
def rowF (q : Nat → Bool) (y : Nat) : Nat → Nat → List Spot
  | _, 0 => []
  | x, n + 1 => (if q x = true then [⟨(x : Int), (y : Int)⟩] else []) ++ rowF q y (x + 1) n
def gridF (q : Nat → Nat → Bool) (W : Nat) : Nat → Nat → List Spot
  | _, 0 => []
  | y, n + 1 => rowF (q y) y 0 W ++ gridF q W (y + 1) n
theorem rowF_len (q : Nat → Bool) (y : Nat) : ∀ n x : Nat, (rowF q y x n).length ≤ n
  | 0, x => by simp [rowF]
  | n + 1, x => by
    have := rowF_len q y n (x + 1)
    simp only [rowF, List.length_append]
    split <;> simp <;> omega
theorem gridF_len (q : Nat → Nat → Bool) (W : Nat) : ∀ n y : Nat, (gridF q W y n).length ≤ n * W
  | 0, y => by simp [gridF]
  | n + 1, y => by
    have h1 := gridF_len q W n (y + 1)
    have h2 := rowF_len (q y) y W 0
    simp only [gridF, List.length_append, Nat.add_mul, Nat.one_mul]; omega
theorem rowF_mem {q : Nat → Bool} {y : Nat} {s : Spot} : ∀ {n x : Nat}, s ∈ rowF q y x n ↔ ∃ j : Nat, x ≤ j ∧ j < x + n ∧ q j = true ∧ s = ⟨(j : Int), (y : Int)⟩
  | 0, x => by simp only [rowF, List.not_mem_nil, false_iff]; rintro ⟨j, h1, h2, _⟩; omega
  | n + 1, x => by
    simp only [rowF, List.mem_append, rowF_mem (n := n) (x := x + 1)]
    constructor
    · rintro (h | ⟨j, h1, h2, h3⟩)
      · split at h
        · rename_i hq
          obtain rfl := List.mem_singleton.1 h
          exact ⟨x, Nat.le_refl _, by omega, hq, rfl⟩
        · simp at h
      · exact ⟨j, by omega, by omega, h3⟩
    · rintro ⟨j, h1, h2, h3, rfl⟩
      rcases Nat.eq_or_lt_of_le h1 with rfl | h4
      · left; rw [if_pos h3]; simp
      · exact .inr ⟨j, by omega, by omega, h3, rfl⟩
theorem gridF_mem {q : Nat → Nat → Bool} {W : Nat} {s : Spot} : ∀ {n y : Nat}, s ∈ gridF q W y n ↔ ∃ i j : Nat, y ≤ i ∧ i < y + n ∧ j < W ∧ q i j = true ∧ s = ⟨(j : Int), (i : Int)⟩
  | 0, y => by simp only [gridF, List.not_mem_nil, false_iff]; rintro ⟨i, j, h1, h2, _⟩; omega
  | n + 1, y => by
    simp only [gridF, List.mem_append, gridF_mem (n := n) (y := y + 1), rowF_mem]
    constructor
    · rintro (⟨j, h1, h2, h3, rfl⟩ | ⟨i, j, h1, h2, h3⟩)
      · exact ⟨y, j, Nat.le_refl _, by omega, by omega, h3, rfl⟩
      · exact ⟨i, j, by omega, by omega, h3⟩
    · rintro ⟨i, j, h1, h2, h3, h4, rfl⟩
      rcases Nat.eq_or_lt_of_le h1 with rfl | h5
      · exact .inl ⟨j, Nat.zero_le _, by omega, h4, rfl⟩
      · exact .inr ⟨i, j, by omega, by omega, h3, h4, rfl⟩
theorem cellsRow {p : Pasture} {W : Nat} (hW : p.Wide = (W : Int)) (hW' : W ≤ 10) {g : Spot → Option Bool} {q : Nat → Bool} {y : Nat} (hg : ∀ x : Nat, x < W → g ⟨(x : Int), (y : Int)⟩ = some (q x)) : ∀ (n x k : Nat) (acc : List Spot), x + n = W → n < k → acc.length + n ≤ 4000000000 →
    impl_Pasture_cells.l2 p g (y : Int) k acc (x : Int) = some (acc ++ rowF q y x n)
  | 0, x, k + 1, acc, hx, hk, hl => by
    rw [impl_Pasture_cells.l2, if_neg (by omega)]; simp [rowF]
  | n + 1, x, k + 1, acc, hx, hk, hl => by
    have e : IntKind.i8.wrap ((x : Int) + 1) = ((x + 1 : Nat) : Int) := by rw [w8 (by omega) (by omega)]; omega
    rw [impl_Pasture_cells.l2, if_pos (by omega), hg x (by omega), Option.bind_some, e]
    cases hq : q x
    · rw [if_neg (by simp), cellsRow hW hW' hg n (x + 1) k acc (by omega) (by omega) (by omega)]
      simp [rowF, hq]
    · rw [if_pos rfl, chk_t (by simp; omega), Option.bind_some, cellsRow hW hW' hg n (x + 1) k _ (by omega) (by omega) (by simp; omega)]
      simp [rowF, hq]
  | _, _, 0, _, _, hk, _ => by omega
theorem cellsGrid {p : Pasture} {W H : Nat} (hW : p.Wide = (W : Int)) (hW' : W ≤ 10) (hH : p.High = (H : Int)) (hH' : H ≤ 10) {g : Spot → Option Bool} {q : Nat → Nat → Bool} (hg : ∀ y x : Nat, y < H → x < W → g ⟨(x : Int), (y : Int)⟩ = some (q y x)) : ∀ (n y k : Nat) (acc : List Spot), y + n = H → n + 12 < k → acc.length + n * 10 ≤ 4000000000 →
    impl_Pasture_cells.l1 p g k acc (y : Int) = some (acc ++ gridF q W y n)
  | 0, y, k + 1, acc, hx, hk, hl => by
    rw [impl_Pasture_cells.l1, if_neg (by omega)]; simp [gridF]
  | n + 1, y, k + 1, acc, hy, hk, hl => by
    have e : IntKind.i8.wrap ((y : Int) + 1) = ((y + 1 : Nat) : Int) := by rw [w8 (by omega) (by omega)]; omega
    have hr := cellsRow hW hW' (hg y · (by omega)) W 0 k acc (by omega) (by omega) (by omega)
    have hl2 := rowF_len (q y) y W 0
    rw [show ((0 : Nat) : Int) = 0 from rfl] at hr
    rw [impl_Pasture_cells.l1, if_pos (by omega), hr, Option.bind_some, Option.bind_some, e, cellsGrid hW hW' hH hH' hg n (y + 1) k _ (by omega) (by omega) (by simp only [List.length_append]; omega)]
    simp [gridF]
  | _, _, 0, _, _, hk, _ => by omega
theorem cells_eq {p : Pasture} (hw : okW p = true) {g : Spot → Option Bool} {q : Nat → Nat → Bool} (hg : ∀ y x : Nat, y < p.High.toNat → x < p.Wide.toNat → g ⟨(x : Int), (y : Int)⟩ = some (q y x)) {k : Nat} (hk : 24 ≤ k) :
    impl_Pasture_cells.f k p g = some (gridF q p.Wide.toNat 0 p.High.toNat) := by
  obtain ⟨a, b⟩ := okW_iff.1 hw
  unfold impl_Pasture_cells.f
  have := cellsGrid (p := p) (W := p.Wide.toNat) (H := p.High.toNat) (by omega) (by omega) (by omega) (by omega) hg p.High.toNat 0 k [] (by omega) (by omega) (by simp; omega)
  rw [show ((0 : Nat) : Int) = 0 from rfl] at this
  rw [this]; simp
theorem all_eq {p : Pasture} (hw : okW p = true) {k : Nat} (hk : 24 ≤ k) : impl_Pasture_all.f k p = some (gridF (fun _ _ => true) p.Wide.toNat 0 p.High.toNat) := by
  unfold impl_Pasture_all.f
  rw [cells_eq hw (q := fun _ _ => true) (fun y x _ _ => rfl) hk]; rfl

/-! ### Sums -/
def sumTo (f : Nat → Int) : Nat → Int
  | 0 => 0
  | n + 1 => sumTo f n + f n
theorem sumTo_le {f : Nat → Int} {B : Int} : ∀ n : Nat, (∀ i, i < n → 0 ≤ f i ∧ f i ≤ B) → 0 ≤ sumTo f n ∧ sumTo f n ≤ n * B
  | 0, _ => by simp [sumTo]
  | n + 1, h => by
    have h1 := sumTo_le n fun i hi => h i (by omega)
    have h2 := h n (by omega)
    have e : ((n + 1 : Nat) : Int) * B = (n : Int) * B + B := by rw [Int.natCast_succ, Int.add_mul, Int.one_mul]
    simp only [sumTo, e]; omega
theorem sumTo_congr {f g : Nat → Int} : ∀ n : Nat, (∀ i, i < n → f i = g i) → sumTo f n = sumTo g n
  | 0, _ => rfl
  | n + 1, h => by simp only [sumTo]; rw [sumTo_congr n fun i hi => h i (by omega), h n (by omega)]
theorem sumTo_add (f g : Nat → Int) : ∀ n : Nat, sumTo (fun i => f i + g i) n = sumTo f n + sumTo g n
  | 0 => rfl
  | n + 1 => by simp only [sumTo, sumTo_add f g n]; omega
theorem sumTo_zero {f : Nat → Int} {m : Nat} : ∀ n : Nat, m ≤ n → (∀ i, m ≤ i → i < n → f i = 0) → sumTo f n = sumTo f m
  | 0, h, _ => by obtain rfl : m = 0 := by omega
                  rfl
  | n + 1, h, hz => by
    rcases Nat.eq_or_lt_of_le h with rfl | h'
    · rfl
    · simp only [sumTo]
      rw [sumTo_zero n (by omega) fun i h1 h2 => hz i h1 (by omega), hz n (by omega) (by omega), Int.add_zero]
theorem sumTo_nil {f : Nat → Int} : ∀ n : Nat, (∀ i, i < n → f i = 0) → sumTo f n = 0
  | 0, _ => rfl
  | n + 1, h => by simp only [sumTo]; rw [sumTo_nil n fun i hi => h i (by omega), h n (by omega)]; rfl
theorem sumTo_succ' (f : Nat → Int) : ∀ n : Nat, sumTo f (n + 1) = f 0 + sumTo (fun i => f (i + 1)) n
  | 0 => by simp [sumTo]
  | n + 1 => by rw [sumTo, sumTo_succ' f n]; simp only [sumTo]; omega

/-- The grass of some cells. -/
def sumL (p : Pasture) : List Spot → Int
  | [] => 0
  | s :: r => gG p s.Y.toNat s.X.toNat + sumL p r
theorem sumL_app (p : Pasture) : ∀ a b : List Spot, sumL p (a ++ b) = sumL p a + sumL p b
  | [], b => by simp [sumL]
  | s :: a, b => by simp only [List.cons_append, sumL, sumL_app p a b]; omega
def cellIn (s : Spot) : Prop := ∃ x y : Nat, x < 10 ∧ y < 10 ∧ s = ⟨(x : Int), (y : Int)⟩
theorem sumL_le {p : Pasture} (h : vP p = true) : ∀ l : List Spot, (∀ s ∈ l, cellIn s) → 0 ≤ sumL p l ∧ sumL p l ≤ 1000 * l.length
  | [], _ => by simp [sumL]
  | s :: r, hc => by
    have h1 := sumL_le h r fun t ht => hc t (by simp [ht])
    obtain ⟨x, y, hx, hy, rfl⟩ := hc s (by simp)
    have h2 := (vP_G h hy hx).1
    simp only [sumL, Int.toNat_natCast, List.length_cons]
    omega
theorem grass_eq {p : Pasture} (h : vP p = true) {x y : Nat} (hx : x < 10) (hy : y < 10) : impl_Pasture_grass.f p ⟨(x : Int), (y : Int)⟩ = some (gG p y x) := by
  have h1 := (vP_G h hy hx).1
  unfold impl_Pasture_grass.f
  simp only [getR p.Grass hy, getA (gR p.Grass y) hx, Option.bind_some]
  rw [show gA (gR p.Grass y) x = gG p y x from rfl, w64 (by omega) (by omega)]
theorem sumOf_loop {p : Pasture} (h : vP p = true) (l : List Spot) (hc : ∀ s ∈ l, cellIn s) (hl : l.length ≤ 1048576) : ∀ (n i k : Nat) (acc : Int), i + n = l.length → n < k → 0 ≤ acc → acc ≤ 1000 * i → impl_Pasture_sumOf.l1 p l k acc (i : Int) = some (acc + sumL p (l.drop i))
  | 0, i, k + 1, acc, hi, hk, h0, h1 => by
    rw [impl_Pasture_sumOf.l1, if_neg (by omega), List.drop_of_length_le (by omega)]; simp [sumL]
  | n + 1, i, k + 1, acc, hi, hk, h0, h1 => by
    have hlt : i < l.length := by omega
    obtain ⟨x, y, hx, hy, e⟩ := hc _ (List.getElem_mem hlt)
    have hg := (vP_G h hy hx).1
    have ew : IntKind.i64.wrap (acc + gG p y x) = acc + gG p y x := w64 (by omega) (by omega)
    rw [impl_Pasture_sumOf.l1, if_pos (by omega), getI_nat hlt, Option.bind_some, e, grass_eq h hx hy, Option.bind_some, wsucc hlt (by omega), ew, sumOf_loop h l hc hl n (i + 1) k _ (by omega) (by omega) (by omega) (by omega), List.drop_eq_getElem_cons hlt, e]
    simp only [sumL, Int.toNat_natCast]
    congr 1; omega
  | _, _, 0, _, _, hk, _, _ => by omega
theorem sumOf_eq {p : Pasture} (h : vP p = true) (l : List Spot) (hc : ∀ s ∈ l, cellIn s) (hl : l.length ≤ 1048576) {k : Nat} (hk : l.length < k) : impl_Pasture_sumOf.f k p l = some (sumL p l) := by
  unfold impl_Pasture_sumOf.f
  have := sumOf_loop h l hc hl l.length 0 k 0 (by omega) hk (by omega) (by omega)
  rw [show ((0 : Nat) : Int) = 0 from rfl] at this
  rw [this]; simp
theorem grid_cellIn {q : Nat → Nat → Bool} {W H : Nat} (hW : W ≤ 10) (hH : H ≤ 10) : ∀ s ∈ gridF q W 0 H, cellIn s := by
  intro s hs
  obtain ⟨i, j, _, h2, h3, _, rfl⟩ := gridF_mem.1 hs
  exact ⟨j, i, by omega, by omega, rfl⟩
theorem sumL_row (p : Pasture) (q : Nat → Bool) (y : Nat) : ∀ n x : Nat, sumL p (rowF q y x n) = sumTo (fun i => if q (x + i) = true then gG p y (x + i) else 0) n
  | 0, x => rfl
  | n + 1, x => by
    rw [sumTo_succ']
    simp only [rowF, sumL_app, sumL_row p q y n (x + 1), Nat.add_zero]
    have : (fun i => if q (x + (i + 1)) = true then gG p y (x + (i + 1)) else 0) = fun i => if q (x + 1 + i) = true then gG p y (x + 1 + i) else 0 := by
      funext i; rw [show x + (i + 1) = x + 1 + i by omega]
    rw [this]
    congr 1
    split <;> simp [sumL]
theorem sumL_grid (p : Pasture) (q : Nat → Nat → Bool) (W : Nat) : ∀ n y : Nat, sumL p (gridF q W y n) = sumTo (fun i => sumTo (fun j => if q (y + i) j = true then gG p (y + i) j else 0) W) n
  | 0, y => rfl
  | n + 1, y => by
    rw [sumTo_succ']
    simp only [gridF, sumL_app, sumL_grid p q W n (y + 1), sumL_row, Nat.add_zero, Nat.zero_add]
    have : (fun i => sumTo (fun j => if q (y + (i + 1)) j = true then gG p (y + (i + 1)) j else 0) W) = fun i => sumTo (fun j => if q (y + 1 + i) j = true then gG p (y + 1 + i) j else 0) W := by
      funext i; rw [show y + (i + 1) = y + 1 + i by omega]
    rw [this]
/-- The sum over all cells. -/
theorem specSum_row {p : Pasture} (h : vP p = true) {y : Nat} (hy : y < 10) : ∀ (n x k : Nat) (acc : Int), x + n = 10 → n < k → 0 ≤ acc → acc ≤ 10000 * y + 1000 * x → spec_l01Sum.l2 p (y : Int) k acc (x : Int) = some (acc + sumTo (fun i => gG p y (x + i)) n)
  | 0, x, k + 1, acc, hx, hk, h0, h1 => by
    rw [spec_l01Sum.l2, if_neg (by omega)]; simp [sumTo]
  | n + 1, x, k + 1, acc, hx, hk, h0, h1 => by
    have hg := (vP_G h hy (show x < 10 by omega)).1
    have e0 : gA (gR p.Grass y) x = gG p y x := rfl
    rw [spec_l01Sum.l2, if_pos (by omega), getR p.Grass hy, Option.bind_some, getA (gR p.Grass y) (show x < 10 by omega), Option.bind_some, e0, w64 (show -9223372036854775808 ≤ gG p y x by omega) (by omega), w64 (show -9223372036854775808 ≤ acc + gG p y x by omega) (by omega),
      w64 (show -9223372036854775808 ≤ (x : Int) + 1 by omega) (by omega), show (x : Int) + 1 = ((x + 1 : Nat) : Int) by omega, specSum_row h hy n (x + 1) k _ (by omega) (by omega) (by omega) (by omega), sumTo_succ']
    have : (fun i => gG p y (x + (i + 1))) = fun i => gG p y (x + 1 + i) := by funext i; rw [show x + (i + 1) = x + 1 + i by omega]
    rw [this]
    simp only [Nat.add_zero]
    congr 1; omega
  | _, _, 0, _, _, hk, _, _ => by omega
theorem specSum_loop {p : Pasture} (h : vP p = true) : ∀ (n y k : Nat) (acc : Int), y + n = 10 → n + 12 < k → 0 ≤ acc → acc ≤ 10000 * y → spec_l01Sum.l1 p k acc (y : Int) = some (acc + sumTo (fun i => sumTo (fun j => gG p (y + i) j) 10) n)
  | 0, y, k + 1, acc, hy, hk, h0, h1 => by
    rw [spec_l01Sum.l1, if_neg (by omega)]; simp [sumTo]
  | n + 1, y, k + 1, acc, hy, hk, h0, h1 => by
    have hr := specSum_row h (show y < 10 by omega) 10 0 k acc (by omega) (by omega) h0 (by omega)
    rw [show ((0 : Nat) : Int) = 0 from rfl] at hr
    have hb := sumTo_le (f := fun i => gG p y (0 + i)) (B := 1000) 10 fun i hi => by rw [Nat.zero_add]; exact (vP_G h (show y < 10 by omega) hi).1
    rw [spec_l01Sum.l1, if_pos (by omega), hr, Option.bind_some, Option.bind_some, w64 (show -9223372036854775808 ≤ (y : Int) + 1 by omega) (by omega), show (y : Int) + 1 = ((y + 1 : Nat) : Int) by omega, specSum_loop h n (y + 1) k _ (by omega) (by omega) (by omega) (by omega), sumTo_succ' (fun i => sumTo (fun j => gG p (y + i) j) 10) n]
    have : (fun i => sumTo (fun j => gG p (y + (i + 1)) j) 10) = fun i => sumTo (fun j => gG p (y + 1 + i) j) 10 := by funext i; rw [show y + (i + 1) = y + 1 + i by omega]
    rw [this]
    simp only [Nat.add_zero, Nat.zero_add]
    congr 1; omega
  | _, _, 0, _, _, hk, _, _ => by omega
/-- The grass in the columns ahead of one. -/
def westS (p : Pasture) (c : Nat) : Int := sumTo (fun y => sumTo (fun x => gG p y x) c) p.High.toNat
theorem specSum_eq {p : Pasture} (h : vP p = true) {k : Nat} (hk : 24 ≤ k) : spec_l01Sum.f k p = some (westS p p.Wide.toNat) := by
  obtain ⟨a, b⟩ := okW_iff.1 (vP_okW h)
  unfold spec_l01Sum.f
  have := specSum_loop h 10 0 k 0 (by omega) (by omega) (by omega) (by omega)
  rw [show ((0 : Nat) : Int) = 0 from rfl] at this
  rw [this]
  simp only [Option.bind_some, Int.zero_add, Nat.zero_add]
  congr 1
  unfold westS
  have z : ∀ y x : Nat, y < 10 → x < 10 → (p.High.toNat ≤ y ∨ p.Wide.toNat ≤ x) → gG p y x = 0 := fun y x hy hx ho => (vP_G h hy hx).2 (by simp [cellB]; omega)
  rw [sumTo_zero (m := p.High.toNat) 10 (by omega) fun i h1 h2 => sumTo_nil 10 fun j hj => z i j h2 hj (.inl h1)]
  exact sumTo_congr _ fun i hi => sumTo_zero 10 (by omega) fun j h1 h2 => z i j (by omega) h2 (.inr h1)
theorem westS_grid {p : Pasture} (h : vP p = true) {c : Nat} (hc : c ≤ p.Wide.toNat) : sumL p (gridF (fun _ x => decide (x < c)) p.Wide.toNat 0 p.High.toNat) = westS p c := by
  rw [sumL_grid]
  unfold westS
  refine sumTo_congr _ fun i hi => ?_
  simp only [Nat.zero_add]
  rw [sumTo_zero (m := c) p.Wide.toNat hc fun j h1 h2 => by simp; omega]
  exact sumTo_congr _ fun j hj => by simp [hj]
theorem westS_le {p : Pasture} (h : vP p = true) {c : Nat} (hc : c ≤ 10) : 0 ≤ westS p c ∧ westS p c ≤ 100000 := by
  obtain ⟨a, b⟩ := okW_iff.1 (vP_okW h)
  have h1 := sumTo_le (f := fun y => sumTo (fun x => gG p y x) c) (B := 10000) p.High.toNat fun i hi => by
    have := sumTo_le (f := fun x => gG p i x) (B := 1000) c fun j hj => (vP_G h (by omega) (by omega)).1
    constructor
    · exact this.1
    · refine Int.le_trans this.2 ?_; omega
  refine ⟨h1.1, Int.le_trans h1.2 ?_⟩
  have : (p.High.toNat : Int) ≤ 10 := by omega
  omega
theorem westS_succ (p : Pasture) (c : Nat) : westS p (c + 1) = westS p c + sumTo (fun y => gG p y c) p.High.toNat := by
  unfold westS
  rw [← sumTo_add]; rfl
end Go.Proofs.Ytpaciifeklccfaa
