/-
  Plain laws: the cells of a pasture in order, and sums of grass.
-/
import Derived.Test.YtklgpejnogkccaaGreatDoorQC
namespace Go.Proofs.YtklgpejnogkccaaGreatDoor
open G
set_option linter.unusedVariables false
set_option linter.unusedSimpArgs false

/-! ### Sums -/
def sumTo (f : Nat → Int) : Nat → Int
  | 0 => 0
  | n + 1 => sumTo f n + f n
theorem sumTo_congr {f g : Nat → Int} : ∀ n : Nat, (∀ i, i < n → f i = g i) → sumTo f n = sumTo g n
  | 0, _ => rfl
  | n + 1, h => by simp only [sumTo]; rw [sumTo_congr n fun i hi => h i (by omega), h n (by omega)]
theorem sumTo_add (f g : Nat → Int) : ∀ n : Nat, sumTo (fun i => f i + g i) n = sumTo f n + sumTo g n
  | 0 => rfl
  | n + 1 => by simp only [sumTo, sumTo_add f g n]; omega
theorem sumTo_nil {f : Nat → Int} : ∀ n : Nat, (∀ i, i < n → f i = 0) → sumTo f n = 0
  | 0, _ => rfl
  | n + 1, h => by simp only [sumTo]; rw [sumTo_nil n fun i hi => h i (by omega), h n (by omega)]; rfl
theorem sumTo_succ' (f : Nat → Int) : ∀ n : Nat, sumTo f (n + 1) = f 0 + sumTo (fun i => f (i + 1)) n
  | 0 => by simp [sumTo]
  | n + 1 => by rw [sumTo, sumTo_succ' f n]; simp only [sumTo]; omega

/-- The grass of some cells. -/
def sumL (p : Pasture) : List Spot → Int
  | [] => 0
  | s :: r => gG p s.Y.toNat s.X.toNat + sumL p r
def cellIn (s : Spot) : Prop := ∃ x y : Nat, x < 10 ∧ y < 10 ∧ s = ⟨(x : Int), (y : Int)⟩
theorem sumL_le {p : Pasture} (h : vP p = true) : ∀ l : List Spot, (∀ s ∈ l, cellIn s) → 0 ≤ sumL p l ∧ sumL p l ≤ 1000 * l.length
  | [], _ => by simp [sumL]
  | s :: r, hc => by
    have h1 := sumL_le h r fun t ht => hc t (by simp [ht])
    obtain ⟨x, y, hx, hy, rfl⟩ := hc s (by simp)
    have h2 := (vP_G h hy hx).1
    simp only [sumL, Int.toNat_natCast, List.length_cons]
    omega
theorem grass_eq {p : Pasture} (h : vP p = true) {x y : Nat} (hx : x < 10) (hy : y < 10) : impl_Pasture_grass.f p ⟨(x : Int), (y : Int)⟩ = some (gG p y x) := by
  have h1 := (vP_G h hy hx).1
  unfold impl_Pasture_grass.f
  simp only [getR p.Grass hy, getA (gR p.Grass y) hx, Option.bind_some]
  rw [show gA (gR p.Grass y) x = gG p y x from rfl, w64 (by omega) (by omega)]
theorem sumOf_loop {p : Pasture} (h : vP p = true) (l : List Spot) (hc : ∀ s ∈ l, cellIn s) (hl : l.length ≤ 1048576) : ∀ (n i k : Nat) (acc : Int), i + n = l.length → n < k → 0 ≤ acc → acc ≤ 1000 * i → impl_Pasture_sumOf.l1 p l k acc (i : Int) = some (acc + sumL p (l.drop i))
  | 0, i, k + 1, acc, hi, hk, h0, h1 => by
    rw [impl_Pasture_sumOf.l1, if_neg (by omega), List.drop_of_length_le (by omega)]; simp [sumL]
  | n + 1, i, k + 1, acc, hi, hk, h0, h1 => by
    have hlt : i < l.length := by omega
    obtain ⟨x, y, hx, hy, e⟩ := hc _ (List.getElem_mem hlt)
    have hg := (vP_G h hy hx).1
    have ew : IntKind.i64.wrap (acc + gG p y x) = acc + gG p y x := w64 (by omega) (by omega)
    rw [impl_Pasture_sumOf.l1, if_pos (by omega), getI_nat hlt, Option.bind_some, e, grass_eq h hx hy, Option.bind_some, wsucc hlt (by omega), ew, sumOf_loop h l hc hl n (i + 1) k _ (by omega) (by omega) (by omega) (by omega), List.drop_eq_getElem_cons hlt, e]
    simp only [sumL, Int.toNat_natCast]
    congr 1; omega
  | _, _, 0, _, _, hk, _, _ => by omega
theorem sumOf_eq {p : Pasture} (h : vP p = true) (l : List Spot) (hc : ∀ s ∈ l, cellIn s) (hl : l.length ≤ 1048576) {k : Nat} (hk : l.length < k) : impl_Pasture_sumOf.f k p l = some (sumL p l) := by
  unfold impl_Pasture_sumOf.f
  have := sumOf_loop h l hc hl l.length 0 k 0 (by omega) hk (by omega) (by omega)
  rw [show ((0 : Nat) : Int) = 0 from rfl] at this
  rw [this]; simp
theorem grid_cellIn {q : Nat → Nat → Bool} {W H : Nat} (hW : W ≤ 10) (hH : H ≤ 10) : ∀ s ∈ gridF q W 0 H, cellIn s := by
  intro s hs
  obtain ⟨i, j, _, h2, h3, _, rfl⟩ := gridF_mem.1 hs
  exact ⟨j, i, by omega, by omega, rfl⟩
end Go.Proofs.YtklgpejnogkccaaGreatDoor
