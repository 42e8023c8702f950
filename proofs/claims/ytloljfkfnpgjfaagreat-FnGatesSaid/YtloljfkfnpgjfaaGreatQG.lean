/-
  Plain laws: the cells of a pasture in order, and sums of grass.
-/
import Derived.Test.YtloljfkfnpgjfaaGreatQC
namespace Go.Proofs.YtloljfkfnpgjfaaGreat
open G
set_option linter.unusedVariables false
set_option linter.unusedSimpArgs false

/-! ### Sums -/
def sumTo (f : Nat → Int) : Nat → Int
  | 0 => 0
  | n + 1 => sumTo f n + f n
theorem sumTo_congr {f g : Nat → Int} : ∀ n : Nat, (∀ i, i < n → f i = g i) → sumTo f n = sumTo g n
  | 0, _ => rfl
  | n + 1, h => by simp only [sumTo]; rw [sumTo_congr n fun i hi => h i (by omega), h n (by omega)]
theorem sumTo_add (f g : Nat → Int) : ∀ n : Nat, sumTo (fun i => f i + g i) n = sumTo f n + sumTo g n
  | 0 => rfl
  | n + 1 => by simp only [sumTo, sumTo_add f g n]; omega
theorem sumTo_succ' (f : Nat → Int) : ∀ n : Nat, sumTo f (n + 1) = f 0 + sumTo (fun i => f (i + 1)) n
  | 0 => by simp [sumTo]
  | n + 1 => by rw [sumTo, sumTo_succ' f n]; simp only [sumTo]; omega

def cellIn (s : Spot) : Prop := ∃ x y : Nat, x < 10 ∧ y < 10 ∧ s = ⟨(x : Int), (y : Int)⟩
end Go.Proofs.YtloljfkfnpgjfaaGreat
