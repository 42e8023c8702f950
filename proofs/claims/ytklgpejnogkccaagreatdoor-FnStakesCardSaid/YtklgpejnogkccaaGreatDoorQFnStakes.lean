import Derived.Test.YtklgpejnogkccaaGreatDoorZ2
import Derived.Test.YtklgpejnogkccaaGreatDoorDF
import Derived.Test.YtklgpejnogkccaaGreatDoorQYe
import Derived.Test.YtklgpejnogkccaaGreatDoorQB
import Derived.Test.YtklgpejnogkccaaGreatDoorSD
/-
  Plain law: what is reached from a stake.
-/
namespace Go.Proofs.YtklgpejnogkccaaGreatDoor
open G
set_option linter.unusedVariables false
set_option linter.unusedSimpArgs false
variable {W H : Nat} {p q : Pasture} {Gr : Nat → Nat → Int} {E S : Nat → Nat → Bool} {y x b a sx sy : Nat} {r : Int} {rb : Nat → Nat → Nat → Nat → Bool}
abbrev Tbb := Arr 10 (Arr 10 Bool)
def bA (r : Arr 10 Bool) (i : Nat) : Bool := r.l.getD i false
def bR (m : Tbb) (i : Nat) : Arr 10 Bool := (m.l[i]?).getD (Arr.mk' false)
def b2 (m : Tbb) (y x : Nat) : Bool := bA (bR m y) x
theorem getBA (r : Arr 10 Bool) {i : Nat} (h : i < 10) : getI r.l (i : Int) = some (bA r i) := by
  have hl : i < r.l.length := by rw [r.len]; exact h
  rw [getI_nat hl]
  unfold bA
  rw [List.getD_eq_getElem?_getD, List.getElem?_eq_getElem hl]; rfl
theorem getBR (m : Tbb) {i : Nat} (h : i < 10) : getI m.l (i : Int) = some (bR m i) := by
  have hl : i < m.l.length := by rw [m.len]; exact h
  rw [getI_nat hl]
  unfold bR
  rw [List.getElem?_eq_getElem hl]; rfl
def putT2 (m : Tbb) (y x : Nat) (v : Bool) : Tbb := aset m y (aset (bR m y) x v)
theorem b2_put (m : Tbb) (hy : y < 10) (hx : x < 10) (v : Bool) (b a : Nat) : b2 (putT2 m y x v) b a = if y = b ∧ x = a then v else b2 m b a := by
  have hR : ∀ r : Arr 10 Bool, bR (aset m y r) b = if y = b then r else bR m b := fun r => by
    unfold bR aset
    simp only [List.getElem?_set]
    by_cases e : y = b
    · subst e
      rw [if_pos rfl, if_pos rfl, if_pos (by rw [m.len]; exact hy)]; rfl
    · rw [if_neg e, if_neg e]
  have hA : ∀ r : Arr 10 Bool, bA (aset r x v) a = if x = a then v else bA r a := fun r => by
    unfold bA aset
    simp only [List.getD_eq_getElem?_getD, List.getElem?_set]
    by_cases e : x = a
    · subst e
      rw [if_pos rfl, if_pos rfl, if_pos (by rw [r.len]; exact hx)]; rfl
    · rw [if_neg e, if_neg e]
  unfold b2 putT2
  rw [hR]
  by_cases e : y = b
  · subst e
    rw [if_pos rfl, hA]
    by_cases e2 : x = a
    · rw [if_pos e2, if_pos ⟨rfl, e2⟩]
    · rw [if_neg e2, if_neg (fun z => e2 z.2)]
  · rw [if_neg e, if_neg (fun z => e z.1)]
theorem b2_zero (hy : y < 10) (hx : x < 10) : b2 (Arr.mk' (Arr.mk' false : Arr 10 Bool) : Tbb) y x = false := by
  have : ∀ a b : Fin 10, b2 (Arr.mk' (Arr.mk' false : Arr 10 Bool) : Tbb) a b = false := by decide
  exact this ⟨y, hy⟩ ⟨x, hx⟩
def sqI (sx sy x y : Nat) : Int := ((sx : Int) - x) * ((sx : Int) - x) + ((sy : Int) - y) * ((sy : Int) - y)
theorem sqr_le {d : Int} (h0 : -9 ≤ d) (h1 : d ≤ 9) : 0 ≤ d * d ∧ d * d ≤ 81 := by
  have e : d * d = ((d.natAbs * d.natAbs : Nat) : Int) := by rw [Int.natAbs_mul_self]
  have : d.natAbs * d.natAbs ≤ 9 * 9 := Nat.mul_le_mul (by omega) (by omega)
  rw [e]; omega
theorem sq_le (h1 : sx < 10) (h2 : sy < 10) (hx : x < 10) (hy : y < 10) : 0 ≤ sqI sx sy x y ∧ sqI sx sy x y ≤ 162 := by
  have a := sqr_le (d := (sx : Int) - x) (by omega) (by omega)
  have b := sqr_le (d := (sy : Int) - y) (by omega) (by omega)
  unfold sqI; omega
theorem sq_self : sqI sx sy sx sy = 0 := by unfold sqI; simp
theorem sqW (h1 : sx < 10) (h2 : sy < 10) (hx : x < 10) (hy : y < 10) : IntKind.i64.wrap ((IntKind.i64.wrap ((IntKind.i64.wrap ((IntKind.i64.wrap (sx : Int)) - (IntKind.i64.wrap (x : Int)))) * (IntKind.i64.wrap ((IntKind.i64.wrap (sx : Int)) - (IntKind.i64.wrap (x : Int)))))) + (IntKind.i64.wrap ((IntKind.i64.wrap ((IntKind.i64.wrap (sy : Int)) - (IntKind.i64.wrap (y : Int)))) * (IntKind.i64.wrap ((IntKind.i64.wrap (sy : Int)) - (IntKind.i64.wrap (y : Int))))))) = sqI sx sy x y := by
  have a := sqr_le (d := (sx : Int) - x) (by omega) (by omega)
  have b := sqr_le (d := (sy : Int) - y) (by omega) (by omega)
  rw [w64 (x := (sx : Int)) (by omega) (by omega), w64 (x := (x : Int)) (by omega) (by omega), w64 (x := (sy : Int)) (by omega) (by omega), w64 (x := (y : Int)) (by omega) (by omega), w64 (x := (sx : Int) - x) (by omega) (by omega), w64 (x := (sy : Int) - y) (by omega) (by omega), w64 (x := ((sx : Int) - x) * ((sx : Int) - x)) (by omega) (by omega), w64 (x := ((sy : Int) - y) * ((sy : Int) - y)) (by omega) (by omega), w64 (by omega) (by omega)]
  rfl
theorem sqImpl (h1 : sx < 10) (h2 : sy < 10) (hx : x < 10) (hy : y < 10) : impl_SquareOf.f (sp sx sy) (sp x y) = some (sqI sx sy x y) := congrArg some (sqW h1 h2 hx hy)
theorem sqSpec (h1 : sx < 10) (h2 : sy < 10) (hx : x < 10) (hy : y < 10) : spec_SquareOf.f (sp sx sy) (sp x y) = some (sqI sx sy x y) := congrArg some (sqW h1 h2 hx hy)
/-! ### Lists of cells -/
theorem rowF_filter (q : Nat → Bool) (f : Spot → Bool) (y : Nat) : ∀ n x, (rowF q y x n).filter f = rowF (fun x => q x && f (sp x y)) y x n
  | 0, x => rfl
  | n + 1, x => by
    rw [rowF, rowF, List.filter_append, rowF_filter q f y n (x + 1)]
    congr 1
    cases h : q x
    · rfl
    · rw [if_pos rfl, List.filter_cons, List.filter_nil, Bool.true_and]
      rfl
theorem gridF_filter (q : Nat → Nat → Bool) (f : Spot → Bool) (W : Nat) : ∀ n y, (gridF q W y n).filter f = gridF (fun y x => q y x && f (sp x y)) W y n
  | 0, y => rfl
  | n + 1, y => by rw [gridF, gridF, List.filter_append, rowF_filter, gridF_filter q f W n (y + 1)]
theorem rowF_none {q : Nat → Bool} {y : Nat} : ∀ n x, (∀ i, x ≤ i → i < x + n → q i = false) → rowF q y x n = []
  | 0, x, _ => rfl
  | n + 1, x, h => by rw [rowF, h x (Nat.le_refl _) (by omega), if_neg (by simp), rowF_none n (x + 1) (fun i h1 h2 => h i (by omega) (by omega))]; rfl
theorem rowF_cut (q : Nat → Bool) (y m : Nat) : ∀ n x, rowF q y x (n + m) = rowF q y x n ++ rowF q y (x + n) m
  | 0, x => by rw [Nat.zero_add, Nat.add_zero]; rfl
  | n + 1, x => by
    rw [show n + 1 + m = (n + m) + 1 by omega, rowF, rowF, rowF_cut q y m n (x + 1), List.append_assoc, show x + 1 + n = x + (n + 1) by omega]
theorem gridF_none {q : Nat → Nat → Bool} {W : Nat} : ∀ n y, (∀ i j, y ≤ i → i < y + n → j < W → q i j = false) → gridF q W y n = []
  | 0, y, _ => rfl
  | n + 1, y, h => by rw [gridF, rowF_none W 0 (fun i _ h2 => h y i (Nat.le_refl _) (by omega) (by omega)), gridF_none n (y + 1) (fun i j h1 h2 h3 => h i j (by omega) (by omega) h3)]; rfl
theorem gridF_cut (q : Nat → Nat → Bool) (W m : Nat) : ∀ n y, gridF q W y (n + m) = gridF q W y n ++ gridF q W (y + n) m
  | 0, y => by rw [Nat.zero_add, Nat.add_zero]; rfl
  | n + 1, y => by
    rw [show n + 1 + m = (n + m) + 1 by omega, gridF, gridF, gridF_cut q W m n (y + 1), List.append_assoc, show y + 1 + n = y + (n + 1) by omega]
theorem gridF_wide {q : Nat → Nat → Bool} {W V : Nat} (hV : W ≤ V) : ∀ n y, (∀ i j, W ≤ j → j < V → q i j = false) → gridF q V y n = gridF q W y n
  | 0, y, _ => rfl
  | n + 1, y, h => by
    have e : rowF (q y) y 0 V = rowF (q y) y 0 W := by
      rw [show V = W + (V - W) by omega, rowF_cut, rowF_none (V - W) (0 + W) (fun i h1 h2 => h y i (by omega) (by omega)), List.append_nil]
    rw [gridF, gridF, e, gridF_wide hV n (y + 1) h]
/-- Cells of a small grid, looked for in the large one. -/
theorem gridF_ten {q : Nat → Nat → Bool} (hW : W ≤ 10) (hH : H ≤ 10) (h : ∀ i j, i < 10 → j < 10 → ¬ (j < W ∧ i < H) → q i j = false) : gridF q 10 0 10 = gridF q W 0 H := by
  have e1 : gridF q 10 0 10 = gridF q 10 0 H := by
    rw [show (10 : Nat) = H + (10 - H) by omega, gridF_cut, gridF_none (10 - H) (0 + H) (fun i j h1 h2 h3 => h i j (by omega) (by omega) (by omega)), List.append_nil]
  rw [e1]
  have e2 : gridF q 10 0 H = gridF (fun i j => q i j && decide (j < 10 ∧ i < H)) 10 0 H := gridF_congr _ _ fun i j h1 h2 h3 => by rw [decide_eq_true ⟨h3, by omega⟩, Bool.and_true]
  have e3 : gridF q W 0 H = gridF (fun i j => q i j && decide (j < 10 ∧ i < H)) W 0 H := gridF_congr _ _ fun i j h1 h2 h3 => by rw [decide_eq_true ⟨by omega, by omega⟩, Bool.and_true]
  rw [e2, e3]
  refine gridF_wide hW H 0 fun i j h1 h2 => ?_
  by_cases c : i < H
  · rw [h i j (by omega) h2 (by omega), Bool.false_and]
  · rw [decide_eq_false (by omega), Bool.and_false]
/-! ### Reached cells -/
/-- What tells whether a cell is reached from another one. -/
def isRb (W H : Nat) (E S : Nat → Nat → Bool) (rb : Nat → Nat → Nat → Nat → Bool) : Prop := ∀ sy sx y x, (rb sy sx y x = true ↔ Rt W H E S sy sx y x)
theorem rb_is (W H : Nat) (E S : Nat → Nat → Bool) : ∃ rb, isRb W H E S rb := ⟨fun sy sx y x => @decide (Rt W H E S sy sx y x) (Classical.propDecidable _), fun sy sx y x => by simp⟩
def qR (rb : Nat → Nat → Nat → Nat → Bool) (sx sy : Nat) (r : Int) : Nat → Nat → Bool := fun y x => rb sy sx y x && decide (sqI sx sy x y ≤ r)
def rL (W H : Nat) (rb : Nat → Nat → Nat → Nat → Bool) (sx sy : Nat) (r : Int) : List Spot := gridF (qR rb sx sy r) W 0 H
theorem yardK_ev (h : PD W H Gr E S p) (hG : ∀ y x, x < W → y < H → 0 ≤ Gr y x ∧ Gr y x ≤ 1000) (hW : 1 ≤ W ∧ W ≤ 10) (hH : 1 ≤ H ∧ H ≤ 10) (hr : isRb W H E S rb) (hx : sx < W) (hy : sy < H) : Ev (fun k => impl_Pasture_yard.f k p (sp sx sy)) (gridF (rb sy sx) W 0 H) := by
  have hw := vP_okW (h.ok hW hH hG)
  have eW : p.Wide.toNat = W := by rw [h.w]; omega
  have eH : p.High.toNat = H := by rw [h.h]; omega
  obtain ⟨m, n, e1, e2, hm, hrt⟩ := far_rt h hG hW hH hx hy
  have hc : ∀ k, 24 ≤ k → impl_Pasture_cells.f k p (impl_Pasture_yard_1.f m) = some (gridF (fun y x => decide (0 ≤ g2 m y x)) p.Wide.toNat 0 p.High.toNat) := fun k hk => cells_eq hw (fun y x hy hx => by
    have := hm y x (by omega) (by omega)
    unfold impl_Pasture_yard_1.f impl_steps_at.f
    rw [getR m (show y < 10 by omega), Option.bind_some, getA _ (show x < 10 by omega), Option.bind_some]
    show some (decide (0 ≤ IntKind.i64.wrap (g2 m y x))) = _
    rw [w64 (by omega) (by omega)]) hk
  rw [eW, eH] at hc
  have e : gridF (fun y x => decide (0 ≤ g2 m y x)) W 0 H = gridF (rb sy sx) W 0 H := gridF_congr _ _ fun i j h1 h2 h3 => by
    rw [Bool.eq_iff_iff, decide_eq_true_eq, hrt i j (by omega) h3, hr]
  rw [e] at hc
  exact e1.bind (Ev.bind ⟨24, hc⟩ (Ev.const rfl))
theorem reachI_ev (h : PD W H Gr E S p) (hG : ∀ y x, x < W → y < H → 0 ≤ Gr y x ∧ Gr y x ≤ 1000) (hW : 1 ≤ W ∧ W ≤ 10) (hH : 1 ≤ H ∧ H ≤ 10) (hr : isRb W H E S rb) (hx : sx < W) (hy : sy < H) (r0 : 0 ≤ r) (r1 : r ≤ 1000) : Ev (fun k => impl_Pasture_reach.f k p (⟨sp sx sy, r⟩ : Stake)) (rL W H rb sx sy r) := by
  have hlen := gridF_len (rb sy sx) W H 0
  have hHW : H * W ≤ 10 * 10 := Nat.mul_le_mul hH.2 hW.2
  have hd := deleteS_ev (gridF (rb sy sx) W 0 H) (g := fun _ => impl_Pasture_reach_1.f (⟨sp sx sy, r⟩ : Stake)) (dl := fun s => decide (r < sqI sx sy s.X.toNat s.Y.toNat)) (fun s hs => by
    obtain ⟨i, j, h1, h2, h3, _, rfl⟩ := gridF_mem.1 hs
    refine Ev.const ?_
    have e := sqImpl (sx := sx) (sy := sy) (x := j) (y := i) (by omega) (by omega) (by omega) (by omega)
    have e : impl_SquareOf.f (sp sx sy) (⟨(j : Int), (i : Int)⟩ : Spot) = some (sqI sx sy j i) := e
    unfold impl_Pasture_reach_1.f
    rw [e, Option.bind_some, w64 (x := r) (by omega) (by omega)]
    rfl) (by omega)
  rw [gridF_filter] at hd
  have e : gridF (fun y x => rb sy sx y x && !(fun s : Spot => decide (r < sqI sx sy s.X.toNat s.Y.toNat)) (sp x y)) W 0 H = rL W H rb sx sy r := gridF_congr _ _ fun i j h1 h2 h3 => by
    unfold qR sp
    simp only [Int.toNat_natCast]
    congr 1
    rw [← decide_not]
    exact decide_eq_decide.2 (by omega)
  rw [e] at hd
  exact (yardK_ev h hG hW hH hr hx hy).bind (hd.bind (Ev.const rfl))
theorem mask5_ev (h : PD W H Gr E S p) (hG : ∀ y x, x < W → y < H → 0 ≤ Gr y x ∧ Gr y x ≤ 1000) (hW : 1 ≤ W ∧ W ≤ 10) (hH : 1 ≤ H ∧ H ≤ 10) (hr : isRb W H E S rb) (hx : sx < W) (hy : sy < H) (r0 : 0 ≤ r) (r1 : r ≤ 1000) : ∃ m : Tbb, Ev (fun k => spec_l05Mask.f k p (⟨sp sx sy, r⟩ : Stake)) m ∧ ∀ b a, b < 10 → a < 10 → b2 m b a = (decide (a < W ∧ b < H) && qR rb sx sy r b a) := by
  obtain ⟨m, n, e1, e2, hm, hrt⟩ := far_rt h hG hW hH hx hy
  have pw := h.w
  have ph := h.h
  have row : ∀ y, y < H → ∀ x, x ≤ W → ∀ o : Tbb, ∃ o' : Tbb, Ev (fun k => spec_l05Mask.l2 p (⟨sp sx sy, r⟩ : Stake) n (y : Int) k o (x : Int)) o' ∧ ∀ b a, b < 10 → a < 10 → b2 o' b a = if b = y ∧ x ≤ a ∧ a < W then qR rb sx sy r b a else b2 o b a := fun y hy' => by
    refine upL ?_ ?_
    · intro o
      exact ⟨o, Ev.step (fun k => spec_l05Mask.l2.eq_2 _ _ _ _ _ _ _) (Ev.neg (by omega) (Ev.const rfl)), fun b a _ _ => by rw [if_neg (by omega)]⟩
    · intro x hx' ih o
      have e : IntKind.i8.wrap ((x : Int) + 1) = ((x + 1 : Nat) : Int) := by rw [w8 (by omega) (by omega)]; omega
      have g1 := getR n (show y < 10 by omega)
      have g2' : getI (gR n y).l (x : Int) = some (g2 n y x) := getA _ (show x < 10 by omega)
      have hnm := hm y x (by omega) (by omega)
      have hrt' := hrt y x hy' hx'
      have hv : ∀ v : Bool, v = qR rb sx sy r y x → ∃ o' : Tbb, Ev (fun k => spec_l05Mask.l2 p (⟨sp sx sy, r⟩ : Stake) n (y : Int) k (putT2 o y x v) (IntKind.i8.wrap ((x : Int) + 1))) o' ∧ ∀ b a, b < 10 → a < 10 → b2 o' b a = if b = y ∧ x ≤ a ∧ a < W then qR rb sx sy r b a else b2 o b a := fun v hv => by
        obtain ⟨o', h1, h2⟩ := ih (putT2 o y x v)
        rw [← e] at h1
        refine ⟨o', h1, fun b a hb ha => ?_⟩
        rw [h2 b a hb ha, b2_put o (by omega) (by omega)]
        by_cases z : b = y ∧ x + 1 ≤ a ∧ a < W
        · rw [if_pos z, if_pos (by omega)]
        · rw [if_neg z]
          by_cases z2 : y = b ∧ x = a
          · obtain ⟨rfl, rfl⟩ := z2
            rw [if_pos ⟨rfl, rfl⟩, if_pos (by omega), hv]
          · rw [if_neg z2, if_neg (by omega)]
      by_cases c : 0 < g2 n y x
      · obtain ⟨o', h1, h2⟩ := hv (decide (sqI sx sy x y ≤ r)) (by
          unfold qR
          rw [(hr sy sx y x).2 (hrt'.1 (by omega)), Bool.true_and])
        have hs := sqSpec (sx := sx) (sy := sy) (x := x) (y := y) (by omega) (by omega) (by omega) (by omega)
        refine ⟨o', Ev.step (fun k => spec_l05Mask.l2.eq_2 _ _ _ _ _ _ _) (Ev.pos (by omega) (Ev.bind (Ev.const g1) (Ev.bind (Ev.const g2') (Ev.pos c (Ev.bind (Ev.const (getBR o (by omega))) (Ev.bind (Ev.const hs) (Ev.bind (Ev.const (getBA _ (by omega))) ?_))))))), h2⟩
        show Ev (fun k => spec_l05Mask.l2 p (⟨sp sx sy, r⟩ : Stake) n (y : Int) k (putT2 o y x (decide (sqI sx sy x y ≤ IntKind.i64.wrap r))) (IntKind.i8.wrap ((x : Int) + 1))) o'
        rw [w64 (x := r) (by omega) (by omega)]
        exact h1
      · obtain ⟨o', h1, h2⟩ := hv false (by
          unfold qR
          cases z : rb sy sx y x
          · rfl
          · have := hrt'.2 ((hr sy sx y x).1 z); omega)
        exact ⟨o', Ev.step (fun k => spec_l05Mask.l2.eq_2 _ _ _ _ _ _ _) (Ev.pos (by omega) (Ev.bind (Ev.const g1) (Ev.bind (Ev.const g2') (Ev.neg c (Ev.bind (Ev.const (getBR o (by omega))) (Ev.bind (Ev.const (getBA _ (by omega))) h1)))))), h2⟩
  have key : ∀ y, y ≤ H → ∀ o : Tbb, ∃ o' : Tbb, Ev (fun k => spec_l05Mask.l1 p (⟨sp sx sy, r⟩ : Stake) n k o (y : Int)) o' ∧ ∀ b a, b < 10 → a < 10 → b2 o' b a = if y ≤ b ∧ b < H ∧ a < W then qR rb sx sy r b a else b2 o b a := by
    refine upL ?_ ?_
    · intro o
      exact ⟨o, Ev.step (fun k => spec_l05Mask.l1.eq_2 _ _ _ _ _ _) (Ev.neg (by omega) (Ev.const rfl)), fun b a _ _ => by rw [if_neg (by omega)]⟩
    · intro y hy' ih o
      have e : IntKind.i8.wrap ((y : Int) + 1) = ((y + 1 : Nat) : Int) := by rw [w8 (by omega) (by omega)]; omega
      obtain ⟨o1, a1, a2⟩ := row y hy' 0 (Nat.zero_le _) o
      obtain ⟨o', h1, h2⟩ := ih o1
      rw [← e] at h1
      refine ⟨o', Ev.step (fun k => spec_l05Mask.l1.eq_2 _ _ _ _ _ _) (Ev.pos (by omega) (Ev.bind (a1.bind (Ev.const rfl)) h1)), fun b a hb ha => ?_⟩
      rw [h2 b a hb ha, a2 b a hb ha]
      by_cases z : y + 1 ≤ b ∧ b < H ∧ a < W
      · rw [if_pos z, if_pos (by omega)]
      · rw [if_neg z]
        by_cases z2 : b = y ∧ 0 ≤ a ∧ a < W
        · rw [if_pos z2, if_pos (by omega)]
        · rw [if_neg z2, if_neg (by omega)]
  obtain ⟨o, h1, h2⟩ := key 0 (Nat.zero_le _) (Arr.mk' (Arr.mk' false : Arr 10 Bool) : Tbb)
  refine ⟨o, e2.bind (h1.bind (Ev.const rfl)), fun b a hb ha => ?_⟩
  rw [h2 b a hb ha]
  by_cases z : a < W ∧ b < H
  · rw [if_pos ⟨Nat.zero_le _, z.2, z.1⟩, decide_eq_true z]; rfl
  · rw [if_neg (fun u => z ⟨u.2.2, u.2.1⟩), decide_eq_false z, b2_zero hb ha]; rfl
theorem list5_ev (m : Tbb) : Ev (fun k => spec_l05List.f k m) (gridF (b2 m) 10 0 10) := by
  have row : ∀ y : Nat, y < 10 → ∀ x, x ≤ 10 → ∀ acc : List Spot, acc.length ≤ 1000 + x → Ev (fun k => spec_l05List.l2 m (y : Int) k acc (x : Int)) (acc ++ rowF (b2 m y) y x (10 - x)) := fun y hy => by
    refine upL ?_ ?_
    · intro acc ha
      exact Ev.step (fun k => spec_l05List.l2.eq_2 _ _ _ _ _) (Ev.neg (by omega) (Ev.const (by simp [rowF])))
    · intro x hx ih acc ha
      have e : IntKind.i8.wrap ((x : Int) + 1) = ((x + 1 : Nat) : Int) := by rw [w8 (by omega) (by omega)]; omega
      have g1 := getBR m hy
      have g2' : getI (bR m y).l (x : Int) = some (b2 m y x) := getBA _ hx
      rw [show 10 - x = (10 - (x + 1)) + 1 by omega, rowF]
      cases c : b2 m y x
      · rw [c] at g2'
        have h1 := ih acc (by omega)
        rw [← e] at h1
        rw [if_neg (by simp), List.nil_append]
        exact Ev.step (fun k => spec_l05List.l2.eq_2 _ _ _ _ _) (Ev.pos (by omega) (Ev.bind (Ev.const g1) (Ev.bind (Ev.const g2') (Ev.neg (by simp) h1))))
      · rw [c] at g2'
        have h1 := ih (acc ++ [sp x y]) (by simp; omega)
        rw [← e, List.append_assoc] at h1
        rw [if_pos rfl]
        exact Ev.step (fun k => spec_l05List.l2.eq_2 _ _ _ _ _) (Ev.pos (by omega) (Ev.bind (Ev.const g1) (Ev.bind (Ev.const g2') (Ev.pos rfl (Ev.bind (Ev.const (chk_t (by simp; omega))) h1)))))
  have key : ∀ y : Nat, y ≤ 10 → ∀ acc : List Spot, acc.length ≤ 10 * y → Ev (fun k => spec_l05List.l1 m k acc (y : Int)) (acc ++ gridF (b2 m) 10 y (10 - y)) := by
    refine upL ?_ ?_
    · intro acc ha
      exact Ev.step (fun k => spec_l05List.l1.eq_2 _ _ _ _) (Ev.neg (by omega) (Ev.const (by simp [gridF])))
    · intro y hy ih acc ha
      have e : IntKind.i8.wrap ((y : Int) + 1) = ((y + 1 : Nat) : Int) := by rw [w8 (by omega) (by omega)]; omega
      have hl := rowF_len (b2 m y) y 10 0
      have h1 := ih (acc ++ rowF (b2 m y) y 0 10) (by rw [List.length_append]; omega)
      rw [← e, List.append_assoc] at h1
      rw [show 10 - y = (10 - (y + 1)) + 1 by omega, gridF]
      exact Ev.step (fun k => spec_l05List.l1.eq_2 _ _ _ _) (Ev.pos (by omega) (Ev.bind ((row y hy 0 (Nat.zero_le _) acc (by omega)).bind (Ev.const rfl)) h1))
  have := key 0 (Nat.zero_le _) [] (by simp)
  rw [List.nil_append] at this
  exact this.bind (Ev.const rfl)
theorem list5_rL (hW : W ≤ 10) (hH : H ≤ 10) {m : Tbb} (hm : ∀ b a, b < 10 → a < 10 → b2 m b a = (decide (a < W ∧ b < H) && qR rb sx sy r b a)) : gridF (b2 m) 10 0 10 = rL W H rb sx sy r := by
  rw [gridF_ten hW hH (fun i j hi hj hn => by rw [hm i j hi hj, decide_eq_false hn]; rfl)]
  exact gridF_congr _ _ fun i j h1 h2 h3 => by rw [hm i j (by omega) (by omega), decide_eq_true ⟨h3, by omega⟩]; rfl
end Go.Proofs.YtklgpejnogkccaaGreatDoor
/-
  Plain law: stakes that are valid; what several reach.
-/
namespace Go.Proofs.YtklgpejnogkccaaGreatDoor
open G
set_option linter.unusedVariables false
set_option linter.unusedSimpArgs false
variable {W H : Nat} {p q : Pasture} {Gr : Nat → Nat → Int} {E S : Nat → Nat → Bool} {y x b a sx sy : Nat} {r : Int} {rb : Nat → Nat → Nat → Nat → Bool} {s t : Stake} {l : List Stake}
/-- A stake in a cell. -/
def okS (W H : Nat) (s : Stake) : Prop := ∃ sx sy : Nat, sx < W ∧ sy < H ∧ s.At = sp sx sy ∧ 0 ≤ s.Reach ∧ s.Reach ≤ 200
structure SV (W H : Nat) (l : List Stake) : Prop where
  ok : ∀ s ∈ l, okS W H s
  apart : l.Pairwise fun a b => a.At ≠ b.At
  len : l.length ≤ 12
def qS (rb : Nat → Nat → Nat → Nat → Bool) (s : Stake) : Nat → Nat → Bool := qR rb s.At.X.toNat s.At.Y.toNat s.Reach
def RS (W H : Nat) (rb : Nat → Nat → Nat → Nat → Bool) (s : Stake) : List Spot := gridF (qS rb s) W 0 H
theorem okS.eq (h : okS W H s) : ∃ sx sy : Nat, sx < W ∧ sy < H ∧ s = (⟨sp sx sy, s.Reach⟩ : Stake) ∧ 0 ≤ s.Reach ∧ s.Reach ≤ 200 ∧ qS rb s = qR rb sx sy s.Reach := by
  obtain ⟨sx, sy, hx, hy, e, r0, r1⟩ := h
  refine ⟨sx, sy, hx, hy, ?_, r0, r1, ?_⟩
  · cases s
    simp only at e ⊢
    rw [e]
  · unfold qS
    rw [e]
    unfold sp
    simp
/-- What the laws take for granted. -/
structure PK (W H : Nat) (Gr : Nat → Nat → Int) (E S : Nat → Nat → Bool) (p : Pasture) (rb : Nat → Nat → Nat → Nat → Bool) : Prop where
  h : PD W H Gr E S p
  hG : ∀ y x, x < W → y < H → 0 ≤ Gr y x ∧ Gr y x ≤ 1000
  hW : 1 ≤ W ∧ W ≤ 10
  hH : 1 ≤ H ∧ H ≤ 10
  hr : isRb W H E S rb
theorem PK.v (k : PK W H Gr E S p rb) : VPasture p := k.h.V k.hW.2 k.hH.2 k.hG
theorem PK.p_ok (k : PK W H Gr E S p rb) : vP p = true := k.h.ok k.hW k.hH k.hG
theorem PK.w (k : PK W H Gr E S p rb) : okW p = true := vP_okW k.p_ok
theorem PK.cellT (k : PK W H Gr E S p rb) (hx : x < W) (hy : y < H) : cellB p (x : Int) (y : Int) = true := cellB_grid k.w (by rw [k.h.w]; omega) (by rw [k.h.h]; omega)
theorem PK.is_ (k : PK W H Gr E S p rb) (hx : x < W) (hy : y < H) : spec_l01Is.f p (sp x y) = some true ∧ impl_Pasture_isCell.f p (sp x y) = some true := by
  have h1 := k.hW
  have h2 := k.hH
  have hv := VSpot_nat (x := x) (y := y) (by omega) (by omega)
  exact ⟨(l01Is_eq k.v (sp x y) hv).trans (congrArg some (k.cellT hx hy)), (isCell_eq k.v k.w (sp x y) hv).trans (congrArg some (k.cellT hx hy))⟩
theorem PK.stake (k : PK W H Gr E S p rb) (hs : okS W H s) : spec_l05Stake.f p s = some true := by
  obtain ⟨sx, sy, hx, hy, e, r0, r1, _⟩ := hs.eq (rb := rb)
  unfold spec_l05Stake.f spec_l05Reach.f
  rw [e, (k.is_ hx hy).1, Option.bind_some, if_pos rfl, l00In_eq, w64 (x := s.Reach) (by omega) (by omega), decide_eq_true ⟨r0, r1⟩]
  rfl
theorem containsSt {xs : List Stake} {t : Stake} (hl : xs.length ≤ 1000) (h : ∀ s ∈ xs, s.At ≠ t.At) : Ev (fun k => slices_ContainsFunc_impl_Stake_impl_Stake.f k xs (impl_ValidStakes_1.f t)) false := by
  have key : ∀ i, i ≤ xs.length → Ev (fun k => slices_IndexFunc_impl_Stake_impl_Stake.l1 xs (impl_ValidStakes_1.f t) k (i : Int)) (.inr ()) := by
    refine upL ?_ ?_
    · exact Ev.step (fun k => slices_IndexFunc_impl_Stake_impl_Stake.l1.eq_2 _ _ _ _) (Ev.neg (by omega) (Ev.const rfl))
    · intro i hi ih
      rw [← wsucc hi (by omega)] at ih
      have hs : impl_ValidStakes_1.f t xs[i] = some false := by
        unfold impl_ValidStakes_1.f
        rw [decide_eq_false (h _ (List.getElem_mem hi))]
      exact Ev.step (fun k => slices_IndexFunc_impl_Stake_impl_Stake.l1.eq_2 _ _ _ _) (Ev.pos (by omega) (Ev.bind (Ev.const (getI_nat hi)) (Ev.bind (Ev.const hs) (Ev.neg (by simp) ih))))
  exact Ev.bind (a := (-1 : Int)) ((key 0 (Nat.zero_le _)).bind (Ev.const rfl)) (Ev.const rfl)
theorem SV.other (h : SV W H l) {i j : Nat} (hi : i < l.length) (hj : j < l.length) (hij : i ≠ j) : l[i].At ≠ l[j].At := by
  rcases Nat.lt_or_gt_of_ne hij with c | c
  · exact List.pairwise_iff_getElem.1 h.apart i j hi hj c
  · exact fun e => List.pairwise_iff_getElem.1 h.apart j i hj hi c e.symm
theorem PK.validI (k : PK W H Gr E S p rb) (h : SV W H l) : Ev (fun k => impl_ValidStakes.f k p l) true := by
  have hlen := h.len
  have key : ∀ i, i ≤ l.length → Ev (fun k => impl_ValidStakes.l1 p l k (i : Int)) (.inr ()) := by
    refine upL ?_ ?_
    · exact Ev.step (fun k => impl_ValidStakes.l1.eq_2 _ _ _ _) (Ev.neg (by omega) (Ev.const rfl))
    · intro i hi ih
      rw [← wsucc hi (by omega)] at ih
      obtain ⟨sx, sy, hx, hy, e, r0, r1, _⟩ := (h.ok _ (List.getElem_mem hi)).eq (rb := rb)
      have e0 : (l.drop 0).take ((i : Int).toNat - 0) = l.take i := by rw [List.drop_zero, show (i : Int).toNat - 0 = i by omega]
      have hc := containsSt (xs := l.take i) (t := l[i]) (by rw [List.length_take]; omega) (fun s hs => by
        obtain ⟨j, hj, rfl⟩ := List.mem_iff_getElem.1 hs
        rw [List.length_take] at hj
        rw [List.getElem_take]
        exact h.other (by omega) hi (by omega))
      rw [← e0] at hc
      have hcell : impl_Pasture_isCell.f p l[i].At = some true := by rw [e]; exact (k.is_ hx hy).2
      have hwi : impl_within.f (IntKind.i64.wrap l[i].Reach) 0 200 = some true := by rw [within_eq, w64 (x := l[i].Reach) (by omega) (by omega), decide_eq_true ⟨r0, r1⟩]
      exact Ev.step (fun k => impl_ValidStakes.l1.eq_2 _ _ _ _) (Ev.pos (by omega) (Ev.bind (Ev.const (getI_nat hi)) (Ev.bind (Ev.const (chk_t (by omega))) (hc.bind (Ev.neg (by simp) (Ev.bind (Ev.const hcell) (Ev.neg (by simp) (Ev.bind (Ev.const hwi) (Ev.neg (by simp) ih)))))))))
  refine (key 0 (Nat.zero_le _)).bind ((implOk_ev k.v).bind ?_)
  rw [k.p_ok]
  exact Ev.pos rfl (Ev.const (by rw [decide_eq_true (by omega)]))
theorem PK.codeI (k : PK W H Gr E S p rb) (h : SV W H l) : Ev (fun k => impl_stakeCode.f k p l) 0 := (k.validI h).bind (Ev.bind (Ev.const (unless_eq _ _)) (Ev.const rfl))
theorem SV.one (hs : okS W H s) : SV W H [s] := ⟨fun t ht => by rw [List.mem_singleton.1 ht]; exact hs, List.pairwise_singleton _ _, by simp⟩
theorem PK.okSpec (k : PK W H Gr E S p rb) (h : SV W H l) : Ev (fun k => spec_l05Ok.f k p l) true := by
  have hlen := h.len
  have inner : ∀ i (hi : i < l.length), ∀ j, j ≤ i → Ev (fun k => spec_l05Ok.l2 l (i : Int) k (j : Int)) (.inr ()) := fun i hi => by
    refine upL ?_ ?_
    · exact Ev.step (fun k => spec_l05Ok.l2.eq_2 _ _ _ _) (Ev.neg (by omega) (Ev.const rfl))
    · intro j hj ih
      rw [← wsucc (n := i) hj (by omega)] at ih
      exact Ev.step (fun k => spec_l05Ok.l2.eq_2 _ _ _ _) (Ev.pos (by omega) (Ev.bind (Ev.const (getI_nat (show j < l.length by omega))) (Ev.bind (Ev.const (getI_nat hi)) (Ev.neg (h.other (by omega) hi (by omega)) ih))))
  have key : ∀ i, i ≤ l.length → Ev (fun k => spec_l05Ok.l1 p l k (i : Int)) (.inr ()) := by
    refine upL ?_ ?_
    · exact Ev.step (fun k => spec_l05Ok.l1.eq_2 _ _ _ _) (Ev.neg (by omega) (Ev.const rfl))
    · intro i hi ih
      rw [← wsucc hi (by omega)] at ih
      exact Ev.step (fun k => spec_l05Ok.l1.eq_2 _ _ _ _) (Ev.pos (by omega) (Ev.bind (a := (Sum.inr () : (Bool ⊕ Unit) ⊕ Unit)) (Ev.bind (Ev.const (getI_nat hi)) (Ev.bind (Ev.const (k.stake (h.ok _ (List.getElem_mem hi)))) (Ev.neg (by simp) ((inner i hi 0 (Nat.zero_le _)).bind (Ev.const rfl))))) ih))
  refine Ev.bind (a := false) ((specOk_ev k.v).bind ?_) (Ev.neg (by simp) ((key 0 (Nat.zero_le _)).bind (Ev.const rfl)))
  rw [k.p_ok]
  exact Ev.neg (by simp) (Ev.const (by rw [decide_eq_false (by omega)]))
theorem PK.asked (k : PK W H Gr E S p rb) (h : SV W H l) : Ev (fun k => spec_l05Asked.f k p l true) 0 := (k.okSpec h).bind (Ev.neg (by simp) (Ev.neg (by simp) (Ev.const rfl)))
theorem PK.one (k : PK W H Gr E S p rb) (hs : okS W H s) : Ev (fun k => spec_l05One.f k p s) 0 := by
  refine (specOk_ev k.v).bind ?_
  rw [k.p_ok]
  exact Ev.neg (by simp) (Ev.bind (Ev.const (k.stake hs)) (Ev.neg (by simp) (Ev.const rfl)))
/-! ### One stake's cells -/
theorem PK.reach (k : PK W H Gr E S p rb) (hs : okS W H s) : Ev (fun k => impl_Pasture_reach.f k p s) (RS W H rb s) := by
  obtain ⟨sx, sy, hx, hy, e, r0, r1, e2⟩ := hs.eq (rb := rb)
  have := reachI_ev k.h k.hG k.hW k.hH k.hr hx hy r0 (by omega)
  rw [← e] at this
  unfold RS
  rw [e2]; exact this
theorem PK.mask (k : PK W H Gr E S p rb) (hs : okS W H s) : ∃ m : Tbb, Ev (fun k => spec_l05Mask.f k p s) m ∧ (∀ b a, b < 10 → a < 10 → b2 m b a = (decide (a < W ∧ b < H) && qS rb s b a)) ∧ Ev (fun k => spec_l05List.f k m) (RS W H rb s) := by
  obtain ⟨sx, sy, hx, hy, e, r0, r1, e2⟩ := hs.eq (rb := rb)
  obtain ⟨m, h1, h2⟩ := mask5_ev k.h k.hG k.hW k.hH k.hr hx hy r0 (by omega)
  rw [← e] at h1
  have h3 := list5_ev m
  rw [list5_rL k.hW.2 k.hH.2 h2] at h3
  refine ⟨m, h1, fun b a hb ha => by rw [e2]; exact h2 b a hb ha, ?_⟩
  unfold RS
  rw [e2]; exact h3
theorem PK.RS_len (k : PK W H Gr E S p rb) (q : Nat → Nat → Bool) : (gridF q W 0 H).length ≤ 100 := by
  have h1 := gridF_len q W H 0
  have h2 : H * W ≤ 10 * 10 := Nat.mul_le_mul k.hH.2 k.hW.2
  omega
theorem PK.RS_in (k : PK W H Gr E S p rb) (q : Nat → Nat → Bool) {c : Spot} : c ∈ gridF q W 0 H ↔ ∃ x y : Nat, x < W ∧ y < H ∧ c = sp x y ∧ q y x = true := by
  rw [gridF_mem]
  constructor
  · rintro ⟨i, j, h1, h2, h3, h4, rfl⟩
    exact ⟨j, i, h3, by omega, rfl, h4⟩
  · rintro ⟨x, y, hx, hy, rfl, h⟩
    exact ⟨y, x, Nat.zero_le _, by omega, hx, h, rfl⟩
theorem PK.RS_sp (k : PK W H Gr E S p rb) (q : Nat → Nat → Bool) (hx : x < W) (hy : y < H) : sp x y ∈ gridF q W 0 H ↔ q y x = true := by
  rw [k.RS_in]
  constructor
  · rintro ⟨x', y', _, _, e, h⟩
    obtain ⟨rfl, rfl⟩ := sp_inj' e
    exact h
  · exact fun h => ⟨x, y, hx, hy, rfl, h⟩
theorem PK.reachOf (k : PK W H Gr E S p rb) (hs : okS W H s) : Ev (fun k => impl_ReachOf.f k p s) (RS W H rb s, 0) ∧ Ev (fun k => spec_ReachOf.f k p s) (RS W H rb s, 0) := by
  obtain ⟨m, m1, _, m3⟩ := k.mask hs
  exact ⟨(k.codeI (SV.one hs)).bind (Ev.neg (by simp) ((k.reach hs).bind (Ev.const rfl))), (k.one hs).bind (Ev.neg (by simp) (m1.bind (m3.bind (Ev.const rfl))))⟩
theorem PK.sum (k : PK W H Gr E S p rb) (q : Nat → Nat → Bool) : Ev (fun f => impl_Pasture_sumOf.f f p (gridF q W 0 H)) (sumL p (gridF q W 0 H)) ∧ 0 ≤ sumL p (gridF q W 0 H) ∧ sumL p (gridF q W 0 H) ≤ 1000 * (gridF q W 0 H).length := by
  have hl := k.RS_len q
  have hc := grid_cellIn (q := q) k.hW.2 k.hH.2
  exact ⟨⟨200, fun f hf => sumOf_eq k.p_ok _ hc (by omega) (by omega)⟩, sumL_le k.p_ok _ hc⟩
theorem PK.food (k : PK W H Gr E S p rb) (hs : okS W H s) : Ev (fun k => impl_FoodOf.f k p s) (sumL p (RS W H rb s), 0) := (k.codeI (SV.one hs)).bind (Ev.neg (by simp) ((k.reach hs).bind ((k.sum (qS rb s)).1.bind (Ev.const rfl))))
theorem PK.allS (k : PK W H Gr E S p rb) (q : Nat → Nat → Bool) : Ev (fun f => spec_l01All.f f p (gridF q W 0 H)) 0 := by
  have hl := k.RS_len q
  have key : ∀ i, i ≤ (gridF q W 0 H).length → Ev (fun f => spec_l01All.l1 p (gridF q W 0 H) f (i : Int)) (.inr ()) := by
    refine upL ?_ ?_
    · exact Ev.step (fun k => spec_l01All.l1.eq_2 _ _ _ _) (Ev.neg (by omega) (Ev.const rfl))
    · intro i hi ih
      rw [← wsucc hi (by omega)] at ih
      obtain ⟨x, y, hx, hy, e, _⟩ := (k.RS_in q).1 (List.getElem_mem hi)
      exact Ev.step (fun k => spec_l01All.l1.eq_2 _ _ _ _) (Ev.pos (by omega) (Ev.bind (Ev.const ((getI_nat hi).trans (congrArg some e))) (Ev.bind (Ev.const (k.is_ hx hy).1) (Ev.neg (by simp) ih))))
  refine (specOk_ev k.v).bind ?_
  rw [k.p_ok]
  exact Ev.neg (by simp) ((key 0 (Nat.zero_le _)).bind (Ev.const rfl))
theorem PK.grassS (k : PK W H Gr E S p rb) (q : Nat → Nat → Bool) : Ev (fun f => spec_GrassOf.f f p (gridF q W 0 H)) (sumL p (gridF q W 0 H), 0) := by
  have hl := k.RS_len q
  have key : ∀ i, i ≤ (gridF q W 0 H).length → ∀ c : Int, 0 ≤ c → c ≤ 1000 * i → Ev (fun f => spec_GrassOf.l1 p (gridF q W 0 H) f c (i : Int)) (c + sumL p ((gridF q W 0 H).drop i)) := by
    refine upL ?_ ?_
    · intro c _ _
      exact Ev.step (fun k => spec_GrassOf.l1.eq_2 _ _ _ _ _) (Ev.neg (by omega) (Ev.const (by rw [List.drop_length]; simp [sumL])))
    · intro i hi ih c c0 c1
      obtain ⟨x, y, hx, hy, e, _⟩ := (k.RS_in q).1 (List.getElem_mem hi)
      have hG := k.hG y x hx hy
      have eg := k.h.eG k.hW.2 k.hH.2 hx hy
      have hW := k.hW
      have hH := k.hH
      have g1 : getI p.Grass.l ((gridF q W 0 H)[i]).Y = some (gR p.Grass y) := by rw [e]; exact getR _ (by omega)
      have g2' : getI (gR p.Grass y).l ((gridF q W 0 H)[i]).X = some (gG p y x) := by rw [e]; exact getA _ (by omega)
      have es : gG p ((gridF q W 0 H)[i]).Y.toNat ((gridF q W 0 H)[i]).X.toNat = gG p y x := by rw [e]; unfold sp; simp
      have ih := ih (c + gG p y x) (by omega) (by push_cast; omega)
      rw [← wsucc hi (by omega)] at ih
      rw [List.drop_eq_getElem_cons hi, sumL, es, ← Int.add_assoc]
      refine Ev.step (fun k => spec_GrassOf.l1.eq_2 _ _ _ _ _) (Ev.pos (by omega) (Ev.bind (Ev.const (getI_nat hi)) (Ev.bind (Ev.const (getI_nat hi)) (Ev.bind (Ev.const g1) (Ev.bind (Ev.const g2') ?_)))))
      rw [w64 (x := gG p y x) (by omega) (by omega), w64 (by omega) (by omega)]
      exact ih
  have h0 := key 0 (Nat.zero_le _) 0 (by omega) (by omega)
  rw [Int.zero_add, List.drop_zero] at h0
  exact (k.allS q).bind (Ev.neg (by simp) (h0.bind (Ev.const rfl)))
end Go.Proofs.YtklgpejnogkccaaGreatDoor
/-
  Plain law: what stakes have in common; how many reach a cell.
-/
namespace Go.Proofs.YtklgpejnogkccaaGreatDoor
open G
set_option linter.unusedVariables false
set_option linter.unusedSimpArgs false
variable {W H : Nat} {p q : Pasture} {Gr : Nat → Nat → Int} {E S : Nat → Nat → Bool} {y x b a sx sy : Nat} {r : Int} {rb : Nat → Nat → Nat → Nat → Bool} {s t : Stake} {l : List Stake}
theorem indexS_loop (xs : List Spot) (s : Spot) (hx : xs.length ≤ 1048576) : ∀ i, i ≤ xs.length → ∃ r : Int ⊕ Unit, Ev (fun k => slices_Index_impl_Spot_impl_Spot.l1 xs s k (i : Int)) r ∧ ((s ∈ xs.drop i ∧ ∃ j : Nat, r = .inl (j : Int)) ∨ (s ∉ xs.drop i ∧ r = .inr ())) := by
  refine upL ?_ ?_
  · rw [List.drop_length]
    exact ⟨.inr (), Ev.step (fun k => slices_Index_impl_Spot_impl_Spot.l1.eq_2 _ _ _ _) (Ev.neg (by omega) (Ev.const rfl)), .inr ⟨by simp, rfl⟩⟩
  · rintro i hi ⟨r, h1, h2⟩
    rw [← wsucc hi (by omega)] at h1
    rw [List.drop_eq_getElem_cons hi]
    by_cases h : s = xs[i]
    · exact ⟨.inl (i : Int), Ev.step (fun k => slices_Index_impl_Spot_impl_Spot.l1.eq_2 _ _ _ _) (Ev.pos (by omega) (Ev.bind (Ev.const (getI_nat hi)) (Ev.pos h (Ev.const rfl)))), .inl ⟨by rw [h]; exact List.mem_cons_self .., i, rfl⟩⟩
    · refine ⟨r, Ev.step (fun k => slices_Index_impl_Spot_impl_Spot.l1.eq_2 _ _ _ _) (Ev.pos (by omega) (Ev.bind (Ev.const (getI_nat hi)) (Ev.neg h h1))), ?_⟩
      rcases h2 with ⟨a, b⟩ | ⟨a, b⟩
      · exact .inl ⟨List.mem_cons_of_mem _ a, b⟩
      · exact .inr ⟨fun hm => (List.mem_cons.1 hm).elim h a, b⟩
theorem contS_ev (xs : List Spot) (s : Spot) (hx : xs.length ≤ 1048576) : Ev (fun k => slices_Contains_impl_Spot_impl_Spot.f k xs s) (decide (s ∈ xs)) := by
  obtain ⟨r, h1, h2⟩ := indexS_loop xs s hx 0 (Nat.zero_le _)
  rw [List.drop_zero] at h2
  rcases h2 with ⟨a, j, rfl⟩ | ⟨a, rfl⟩
  · rw [decide_eq_true a]
    refine Ev.bind (Ev.bind h1 (Ev.const rfl)) (Ev.const ?_)
    rw [decide_eq_true (show (0 : Int) ≤ (j : Int) by omega)]
  · rw [decide_eq_false a]
    exact Ev.bind (Ev.bind h1 (Ev.const rfl)) (Ev.const rfl)
theorem common_ev {A B : List Spot} (hA : A.length ≤ 1000) (hB : B.length ≤ 1000) : Ev (fun k => impl_common.f k A B) (A.filter fun s => decide (s ∈ B)) := by
  have hd := deleteS_ev A (g := fun k => impl_common_1.f k B) (dl := fun s => !decide (s ∈ B)) (fun c _ => (contS_ev B c (by omega)).bind (Ev.const rfl)) (by omega)
  have hc : slices_Clone_impl_Spot_impl_Spot.f A = some A := by
    unfold slices_Clone_impl_Spot_impl_Spot.f
    rw [chk_t (by simp; omega)]; rfl
  refine Ev.bind (Ev.const hc) (Ev.bind (hd.congr fun k => rfl) (Ev.const ?_))
  congr 1
  exact List.filter_congr fun s _ => by simp
/-- What two masks have in common. -/
def cL (W H : Nat) (q q' : Nat → Nat → Bool) : List Spot := gridF (fun y x => q y x && q' y x) W 0 H
theorem PK.common (k : PK W H Gr E S p rb) (q q' : Nat → Nat → Bool) : Ev (fun f => impl_common.f f (gridF q W 0 H) (gridF q' W 0 H)) (cL W H q q') := by
  have h1 := k.RS_len q
  have h2 := k.RS_len q'
  have := common_ev (A := gridF q W 0 H) (B := gridF q' W 0 H) (by omega) (by omega)
  rw [gridF_filter] at this
  have e : gridF (fun y x => q y x && (fun s => decide (s ∈ gridF q' W 0 H)) (sp x y)) W 0 H = cL W H q q' := gridF_congr _ _ fun i j h1 h2 h3 => by
    congr 1
    rw [Bool.eq_iff_iff, decide_eq_true_eq, k.RS_sp q' h3 (by omega)]
  rw [e] at this
  exact this
theorem PK.commonS (k : PK W H Gr E S p rb) (hs : okS W H s) (ht : okS W H t) : Ev (fun f => spec_l05Common.f f p s t) (cL W H (qS rb s) (qS rb t)) := by
  obtain ⟨m, m1, _, m3⟩ := k.mask hs
  obtain ⟨m', n1, n2, _⟩ := k.mask ht
  have hl := k.RS_len (qS rb s)
  have hW := k.hW
  have hH := k.hH
  have key : ∀ i, i ≤ (RS W H rb s).length → ∀ acc : List Spot, acc.length ≤ i → Ev (fun f => spec_l05Common.l1 (RS W H rb s) m' f acc (i : Int)) (acc ++ ((RS W H rb s).drop i).filter fun c => qS rb t c.Y.toNat c.X.toNat) := by
    unfold RS
    refine upL ?_ ?_
    · intro acc ha
      exact Ev.step (fun k => spec_l05Common.l1.eq_2 _ _ _ _ _) (Ev.neg (by omega) (Ev.const (by rw [List.drop_length]; simp)))
    · intro i hi ih acc ha
      obtain ⟨x, y, hx, hy, e, _⟩ := (k.RS_in _).1 (List.getElem_mem hi)
      have g := getI_nat hi
      have g1 : getI m'.l ((gridF (qS rb s) W 0 H)[i]).Y = some (bR m' y) := by rw [e]; exact getBR _ (by omega)
      have g2' : getI (bR m' y).l ((gridF (qS rb s) W 0 H)[i]).X = some (b2 m' y x) := by rw [e]; exact getBA _ (by omega)
      rw [n2 y x (by omega) (by omega), decide_eq_true ⟨hx, hy⟩, Bool.true_and] at g2'
      have eq : qS rb t ((gridF (qS rb s) W 0 H)[i]).Y.toNat ((gridF (qS rb s) W 0 H)[i]).X.toNat = qS rb t y x := by rw [e]; unfold sp; simp
      rw [List.drop_eq_getElem_cons hi, List.filter_cons, eq]
      cases c : qS rb t y x
      · rw [c] at g2'
        have ih := ih acc (by omega)
        rw [← wsucc hi (by omega)] at ih
        exact Ev.step (fun k => spec_l05Common.l1.eq_2 _ _ _ _ _) (Ev.pos (by omega) (Ev.bind (Ev.const g) (Ev.bind (Ev.const g) (Ev.bind (Ev.const g1) (Ev.bind (Ev.const g2') (Ev.neg (by simp) ih))))))
      · rw [c] at g2'
        have ih := ih (acc ++ [(gridF (qS rb s) W 0 H)[i]]) (by simp; omega)
        rw [← wsucc hi (by omega), List.append_assoc] at ih
        exact Ev.step (fun k => spec_l05Common.l1.eq_2 _ _ _ _ _) (Ev.pos (by omega) (Ev.bind (Ev.const g) (Ev.bind (Ev.const g) (Ev.bind (Ev.const g1) (Ev.bind (Ev.const g2') (Ev.pos rfl (Ev.bind (Ev.const g) (Ev.bind (Ev.const (chk_t (by simp; omega))) ih))))))))
  have h0 := key 0 (Nat.zero_le _) [] (by simp)
  rw [List.nil_append, List.drop_zero] at h0
  unfold RS at h0
  rw [gridF_filter] at h0
  have e : gridF (fun y x => qS rb s y x && (fun c : Spot => qS rb t c.Y.toNat c.X.toNat) (sp x y)) W 0 H = cL W H (qS rb s) (qS rb t) := gridF_congr _ _ fun i j h1 h2 h3 => by
    unfold sp; simp
  rw [e] at h0
  exact m1.bind (m3.bind (n1.bind (h0.bind (Ev.const rfl))))
theorem firstOf0 : Ev (fun k => impl_firstOf.f k ([0, 0] : List Int)) 0 := by
  have w1 : IntKind.i64.wrap (0 + 1) = 1 := by decide
  have w2 : IntKind.i64.wrap (1 + 1) = 2 := by decide
  have e3 : Ev (fun k => impl_firstOf.l1 ([0, 0] : List Int) k (IntKind.i64.wrap (1 + 1))) (.inr ()) := Ev.step (fun k => impl_firstOf.l1.eq_2 _ _ _) (Ev.neg (by rw [w2]; simp) (Ev.const rfl))
  have e2 : Ev (fun k => impl_firstOf.l1 ([0, 0] : List Int) k (IntKind.i64.wrap (0 + 1))) (.inr ()) := by
    rw [w1]
    exact Ev.step (fun k => impl_firstOf.l1.eq_2 _ _ _) (Ev.pos (by simp) (Ev.bind (a := 0) (Ev.const rfl) (Ev.neg (by simp) e3)))
  have e1 : Ev (fun k => impl_firstOf.l1 ([0, 0] : List Int) k 0) (.inr ()) := Ev.step (fun k => impl_firstOf.l1.eq_2 _ _ _) (Ev.pos (by simp) (Ev.bind (a := 0) (Ev.const rfl) (Ev.neg (by simp) e2)))
  exact e1.bind (Ev.const rfl)
theorem PK.commonOf (k : PK W H Gr E S p rb) (hs : okS W H s) (ht : okS W H t) : Ev (fun f => impl_CommonOf.f f p s t) (cL W H (qS rb s) (qS rb t), 0) ∧ Ev (fun f => spec_CommonOf.f f p s t) (cL W H (qS rb s) (qS rb t), 0) := by
  refine ⟨(k.codeI (SV.one hs)).bind ((k.codeI (SV.one ht)).bind (firstOf0.bind (Ev.neg (by simp) ((k.reach hs).bind ((k.reach ht).bind ((k.common _ _).bind (Ev.const rfl))))))), ?_⟩
  refine Ev.bind (a := false) ((specOk_ev k.v).bind ?_) (Ev.neg (by simp) ((k.commonS hs ht).bind (Ev.const rfl)))
  rw [k.p_ok]
  exact Ev.neg (by simp) (Ev.bind (Ev.const (k.stake hs)) (Ev.neg (by simp) (Ev.bind (Ev.const (k.stake ht)) (Ev.const rfl))))
theorem PK.cL_pos (k : PK W H Gr E S p rb) (q q' : Nat → Nat → Bool) : 0 < (cL W H q q').length ↔ ∃ x y, x < W ∧ y < H ∧ q y x = true ∧ q' y x = true := by
  rw [List.length_pos_iff_exists_mem]
  constructor
  · rintro ⟨c, hc⟩
    obtain ⟨x, y, hx, hy, _, h⟩ := (k.RS_in _).1 hc
    rw [Bool.and_eq_true] at h
    exact ⟨x, y, hx, hy, h.1, h.2⟩
  · rintro ⟨x, y, hx, hy, h1, h2⟩
    exact ⟨sp x y, (k.RS_sp _ hx hy).2 (by rw [h1, h2]; rfl)⟩
/-! ### All stakes -/
theorem PK.reaches (k : PK W H Gr E S p rb) (h : SV W H l) : Ev (fun f => impl_Pasture_reaches.f f p l) (l.map (RS W H rb)) := by
  have hlen := h.len
  have key : ∀ i, i ≤ l.length → ∀ acc : List (List Spot), acc.length ≤ i → Ev (fun f => impl_Pasture_reaches.l1 p l f acc (i : Int)) (acc ++ (l.drop i).map (RS W H rb)) := by
    refine upL ?_ ?_
    · intro acc ha
      exact Ev.step (fun k => impl_Pasture_reaches.l1.eq_2 _ _ _ _ _) (Ev.neg (by omega) (Ev.const (by rw [List.drop_length]; simp)))
    · intro i hi ih acc ha
      have ih := ih (acc ++ [RS W H rb l[i]]) (by simp; omega)
      rw [← wsucc hi (by omega), List.append_assoc] at ih
      rw [List.drop_eq_getElem_cons hi]
      exact Ev.step (fun k => impl_Pasture_reaches.l1.eq_2 _ _ _ _ _) (Ev.pos (by omega) (Ev.bind (Ev.const (getI_nat hi)) ((k.reach (h.ok _ (List.getElem_mem hi))).bind (Ev.bind (Ev.const (chk_t (by simp; omega))) ih))))
  have := key 0 (Nat.zero_le _) [] (by simp)
  rw [List.nil_append, List.drop_zero] at this
  exact this.bind (Ev.const rfl)
/-- A pair of places. -/
def pr (i j : Nat) : Arr 2 Int := ⟨[(i : Int), (j : Int)], rfl⟩
theorem pr_inj {i j i' j' : Nat} (h : pr i j = pr i' j') : i = i' ∧ j = j' := by
  have := congrArg Arr.l h
  unfold pr at this
  simp only [List.cons.injEq, and_true] at this
  omega
theorem PK.pairs (k : PK W H Gr E S p rb) (hlen : l.length ≤ 12) : ∃ P : List (Arr 2 Int), Ev (fun f => impl_pairs.f f (l.map (RS W H rb))) P ∧ P.length ≤ 1000 ∧ ∀ z, z ∈ P ↔ ∃ (i j : Nat) (hi : i < l.length) (hj : j < l.length), i < j ∧ z = pr i j ∧ 0 < (cL W H (qS rb l[i]) (qS rb l[j])).length := by
  have hml : (l.map (RS W H rb)).length = l.length := List.length_map _
  have gi : ∀ i (hi : i < l.length), getI (l.map (RS W H rb)) (i : Int) = some (RS W H rb l[i]) := fun i hi => by
    rw [getI_nat (show i < (l.map (RS W H rb)).length by omega), List.getElem_map]
  have inner : ∀ i (hi : i < l.length), ∀ j, j ≤ l.length → ∀ acc : List (Arr 2 Int), acc.length ≤ 20 * i + j → ∃ P, Ev (fun f => impl_pairs.l2 (l.map (RS W H rb)) (i : Int) (RS W H rb l[i]) f acc (j : Int)) (acc ++ P) ∧ P.length ≤ l.length - j ∧ ∀ z, z ∈ P ↔ ∃ (j' : Nat) (hj : j' < l.length), j ≤ j' ∧ z = pr i j' ∧ 0 < (cL W H (qS rb l[i]) (qS rb l[j'])).length := fun i hi => by
    refine upL ?_ ?_
    · intro acc ha
      refine ⟨[], by rw [List.append_nil]; exact Ev.step (fun k => impl_pairs.l2.eq_2 _ _ _ _ _ _) (Ev.neg (by omega) (Ev.const rfl)), by simp, fun z => ⟨fun h => by simp at h, ?_⟩⟩
      rintro ⟨j', hj, h1, _⟩; omega
    · intro j hj ih acc ha
      have e : IntKind.i64.wrap ((j : Int) + 1) = ((j + 1 : Nat) : Int) := wsucc (n := l.length) hj (by omega)
      by_cases c : 0 < (cL W H (qS rb l[i]) (qS rb l[j])).length
      · obtain ⟨P, p1, p2, p3⟩ := ih (acc ++ [pr i j]) (by simp; omega)
        rw [← e, List.append_assoc] at p1
        refine ⟨[pr i j] ++ P, Ev.step (fun k => impl_pairs.l2.eq_2 _ _ _ _ _ _) (Ev.pos (by omega) (Ev.bind (Ev.const (gi j hj)) ((k.common _ _).bind (Ev.pos (by omega) (Ev.bind (Ev.const (chk_t (by simp; omega))) p1))))), by simp; omega, fun z => ?_⟩
        rw [List.mem_append, List.mem_singleton, p3]
        constructor
        · rintro (rfl | ⟨j', hj', h1, h2⟩)
          · exact ⟨j, hj, Nat.le_refl _, rfl, c⟩
          · exact ⟨j', hj', by omega, h2⟩
        · rintro ⟨j', hj', h1, h2, h3⟩
          by_cases z2 : j' = j
          · subst z2; exact .inl h2
          · exact .inr ⟨j', hj', by omega, h2, h3⟩
      · obtain ⟨P, p1, p2, p3⟩ := ih acc (by omega)
        rw [← e] at p1
        refine ⟨P, Ev.step (fun k => impl_pairs.l2.eq_2 _ _ _ _ _ _) (Ev.pos (by omega) (Ev.bind (Ev.const (gi j hj)) ((k.common _ _).bind (Ev.neg (by omega) p1)))), by omega, fun z => ?_⟩
        rw [p3]
        constructor
        · rintro ⟨j', hj', h1, h2⟩
          exact ⟨j', hj', by omega, h2⟩
        · rintro ⟨j', hj', h1, h2, h3⟩
          by_cases z2 : j' = j
          · subst z2; exact absurd h3 c
          · exact ⟨j', hj', by omega, h2, h3⟩
  have key : ∀ i, i ≤ l.length → ∀ acc : List (Arr 2 Int), acc.length ≤ 20 * i → ∃ P, Ev (fun f => impl_pairs.l1 (l.map (RS W H rb)) f acc (i : Int)) (acc ++ P) ∧ P.length ≤ 20 * (l.length - i) ∧ ∀ z, z ∈ P ↔ ∃ (i' j : Nat) (hi : i' < l.length) (hj : j < l.length), i ≤ i' ∧ i' < j ∧ z = pr i' j ∧ 0 < (cL W H (qS rb l[i']) (qS rb l[j])).length := by
    refine upL ?_ ?_
    · intro acc ha
      refine ⟨[], by rw [List.append_nil]; exact Ev.step (fun k => impl_pairs.l1.eq_2 _ _ _ _) (Ev.neg (by omega) (Ev.const rfl)), by simp, fun z => ⟨fun h => by simp at h, ?_⟩⟩
      rintro ⟨i', j, hi, hj, h1, _⟩; omega
    · intro i hi ih acc ha
      obtain ⟨P1, a1, a2, a3⟩ := inner i hi (i + 1) (by omega) acc (by omega)
      have e : IntKind.i64.wrap ((i : Int) + 1) = ((i + 1 : Nat) : Int) := wsucc (n := l.length) hi (by omega)
      obtain ⟨P, p1, p2, p3⟩ := ih (acc ++ P1) (by rw [List.length_append]; omega)
      rw [← e, List.append_assoc] at p1
      rw [← e] at a1
      refine ⟨P1 ++ P, Ev.step (fun k => impl_pairs.l1.eq_2 _ _ _ _) (Ev.pos (by omega) (Ev.bind (Ev.bind (Ev.const (gi i hi)) (a1.bind (Ev.const rfl))) p1)), by rw [List.length_append]; omega, fun z => ?_⟩
      rw [List.mem_append, a3, p3]
      constructor
      · rintro (⟨j, hj, h1, h2⟩ | ⟨i', j, hi', hj, h1, h2⟩)
        · exact ⟨i, j, hi, hj, Nat.le_refl _, by omega, h2⟩
        · exact ⟨i', j, hi', hj, by omega, h2⟩
      · rintro ⟨i', j, hi', hj, h1, h2, h3⟩
        by_cases z2 : i' = i
        · subst z2; exact .inl ⟨j, hj, by omega, h3⟩
        · exact .inr ⟨i', j, hi', hj, by omega, h2, h3⟩
  obtain ⟨P, p1, p2, p3⟩ := key 0 (Nat.zero_le _) [] (by simp)
  rw [List.nil_append] at p1
  refine ⟨P, p1.bind (Ev.const rfl), by omega, fun z => (p3 z).trans ⟨?_, ?_⟩⟩
  · rintro ⟨i, j, hi, hj, _, h⟩; exact ⟨i, j, hi, hj, h⟩
  · rintro ⟨i, j, hi, hj, h⟩; exact ⟨i, j, hi, hj, Nat.zero_le _, h⟩
end Go.Proofs.YtklgpejnogkccaaGreatDoor
/-
  Plain law: how many stakes reach a cell.
-/
namespace Go.Proofs.YtklgpejnogkccaaGreatDoor
open G
set_option linter.unusedVariables false
set_option linter.unusedSimpArgs false
variable {W H : Nat} {p q : Pasture} {Gr : Nat → Nat → Int} {E S : Nat → Nat → Bool} {y x b a sx sy : Nat} {r : Int} {rb : Nat → Nat → Nat → Nat → Bool} {s t : Stake} {l : List Stake}
theorem concat_ev {ls : List (List Spot)} (hl : ls.length ≤ 100) (h : ∀ L ∈ ls, L.length ≤ 1000) : Ev (fun k => slices_Concat_impl_Spot_impl_Spot.f k ls) ls.flatten := by
  have k1 : ∀ i, i ≤ ls.length → ∀ c : Int, 0 ≤ c → c ≤ 1000 * i → ∃ v : Int, 0 ≤ v ∧ v ≤ 100000 ∧ Ev (fun k => slices_Concat_impl_Spot_impl_Spot.l1 ls k c (i : Int)) v := by
    refine upL ?_ ?_
    · intro c h0 h1
      exact ⟨c, h0, by omega, Ev.step (fun k => slices_Concat_impl_Spot_impl_Spot.l1.eq_2 _ _ _ _) (Ev.neg (by omega) (Ev.const rfl))⟩
    · intro i hi ih c h0 h1
      have hL := h _ (List.getElem_mem hi)
      obtain ⟨v, v0, v1, v2⟩ := ih (c + (ls[i].length : Int)) (by omega) (by push_cast; omega)
      rw [← wsucc hi (by omega)] at v2
      have e : IntKind.i64.wrap (c + (ls[i].length : Int)) = c + (ls[i].length : Int) := w64 (by omega) (by omega)
      refine ⟨v, v0, v1, Ev.step (fun k => slices_Concat_impl_Spot_impl_Spot.l1.eq_2 _ _ _ _) (Ev.pos (by omega) (Ev.bind (Ev.const (getI_nat hi)) (Ev.neg (by rw [e]; omega) ?_)))⟩
      rw [e]; exact v2
  have k2 : ∀ i, i ≤ ls.length → ∀ acc : List Spot, acc.length ≤ 1000 * i → Ev (fun k => slices_Concat_impl_Spot_impl_Spot.l2 ls k acc (i : Int)) (acc ++ (ls.drop i).flatten) := by
    refine upL ?_ ?_
    · intro acc ha
      exact Ev.step (fun k => slices_Concat_impl_Spot_impl_Spot.l2.eq_2 _ _ _ _) (Ev.neg (by omega) (Ev.const (by rw [List.drop_length]; simp)))
    · intro i hi ih acc ha
      have hL := h _ (List.getElem_mem hi)
      have ih := ih (acc ++ ls[i]) (by rw [List.length_append]; omega)
      rw [← wsucc hi (by omega), List.append_assoc] at ih
      rw [List.drop_eq_getElem_cons hi, List.flatten_cons]
      exact Ev.step (fun k => slices_Concat_impl_Spot_impl_Spot.l2.eq_2 _ _ _ _) (Ev.pos (by omega) (Ev.bind (Ev.const (getI_nat hi)) (Ev.bind (Ev.const (chk_t (by omega))) ih)))
  obtain ⟨v, v0, v1, v2⟩ := k1 0 (Nat.zero_le _) 0 (by omega) (by omega)
  have hg : slices_Grow_impl_Spot_impl_Spot.f v = some [] := by
    unfold slices_Grow_impl_Spot_impl_Spot.f
    rw [chk_t (by omega)]; rfl
  have h2 := k2 0 (Nat.zero_le _) [] (by simp)
  rw [List.nil_append, List.drop_zero] at h2
  exact v2.bind (Ev.bind (Ev.const hg) (h2.bind (Ev.const rfl)))
theorem rowF_count (q : Nat → Bool) (y a b : Nat) : ∀ n x, (rowF q y x n).countP (fun c => decide (c = sp a b)) = if b = y ∧ x ≤ a ∧ a < x + n ∧ q a = true then 1 else 0
  | 0, x => by rw [if_neg (by omega)]; rfl
  | n + 1, x => by
    rw [rowF, List.countP_append, rowF_count q y a b n (x + 1)]
    by_cases z : b = y ∧ a = x
    · obtain ⟨rfl, rfl⟩ := z
      rw [if_neg (show ¬ (b = b ∧ a + 1 ≤ a ∧ a < a + 1 + n ∧ q a = true) by omega)]
      cases c : q a
      · rw [if_neg (by simp), if_neg (by simp)]; rfl
      · rw [if_pos rfl, if_pos ⟨rfl, Nat.le_refl _, by omega, rfl⟩, List.countP_cons, List.countP_nil]
        have : decide ((⟨(a : Int), (b : Int)⟩ : Spot) = sp a b) = true := decide_eq_true rfl
        simp [sp]
    · have e0 : (if q x = true then [(⟨(x : Int), (y : Int)⟩ : Spot)] else []).countP (fun c => decide (c = sp a b)) = 0 := by
        split
        · rw [List.countP_cons, List.countP_nil]
          have : decide ((⟨(x : Int), (y : Int)⟩ : Spot) = sp a b) = false := decide_eq_false fun e => by
            have := sp_inj' (x := x) (y := y) e
            exact z ⟨this.2.symm, this.1.symm⟩
          rw [this]; rfl
        · rfl
      rw [e0, Nat.zero_add]
      by_cases c : b = y ∧ x + 1 ≤ a ∧ a < x + 1 + n ∧ q a = true
      · rw [if_pos c, if_pos ⟨c.1, by omega, by omega, c.2.2.2⟩]
      · rw [if_neg c, if_neg fun u => c ⟨u.1, by have := u.2.1; by_cases w : a = x; exact absurd ⟨u.1, w⟩ z; omega, by omega, u.2.2.2⟩]
theorem gridF_count (q : Nat → Nat → Bool) (W a b : Nat) : ∀ n y, (gridF q W y n).countP (fun c => decide (c = sp a b)) = if y ≤ b ∧ b < y + n ∧ a < W ∧ q b a = true then 1 else 0
  | 0, y => by rw [if_neg (by omega)]; rfl
  | n + 1, y => by
    rw [gridF, List.countP_append, rowF_count, gridF_count q W a b n (y + 1)]
    by_cases z : b = y
    · subst z
      rw [if_neg (show ¬ (b + 1 ≤ b ∧ b < b + 1 + n ∧ a < W ∧ q b a = true) by omega), Nat.add_zero]
      by_cases c : a < W ∧ q b a = true
      · rw [if_pos ⟨rfl, Nat.zero_le _, by omega, c.2⟩, if_pos ⟨Nat.le_refl _, by omega, c⟩]
      · rw [if_neg fun u => c ⟨by omega, u.2.2.2⟩, if_neg fun u => c u.2.2]
    · rw [if_neg (fun u => z u.1), Nat.zero_add]
      by_cases c : y + 1 ≤ b ∧ b < y + 1 + n ∧ a < W ∧ q b a = true
      · rw [if_pos c, if_pos ⟨by omega, by omega, c.2.2⟩]
      · rw [if_neg c, if_neg fun u => c ⟨by omega, by omega, u.2.2⟩]
/-- How many stakes reach a cell. -/
def num (rb : Nat → Nat → Nat → Nat → Bool) (l : List Stake) (y x : Nat) : Nat := l.countP fun s => qS rb s y x
theorem flat_num (hx : x < W) (hy : y < H) : ∀ l : List Stake, ((l.map (RS W H rb)).flatten).countP (fun c => decide (c = sp x y)) = num rb l y x
  | [] => rfl
  | s :: l => by
    rw [List.map_cons, List.flatten_cons, List.countP_append, flat_num hx hy l]
    unfold num RS
    rw [gridF_count, List.countP_cons, Nat.add_comm]
    congr 1
    cases c : qS rb s y x
    · rw [if_neg (by simp), if_neg (by simp)]
    · rw [if_pos ⟨Nat.zero_le _, by omega, hx, rfl⟩, if_pos rfl]
theorem count_loop {L : List Spot} (hl : L.length ≤ 100000) (c : Spot) : ∀ i, i ≤ L.length → ∀ n : Nat, n ≤ i → Ev (fun k => impl_Pasture_reachedBy_1.l1 L c k (n : Int) (i : Int)) ((n + (L.drop i).countP (fun t => decide (t = c)) : Nat) : Int) := by
  refine upL ?_ ?_
  · intro n hn
    exact Ev.step (fun k => impl_Pasture_reachedBy_1.l1.eq_2 _ _ _ _ _) (Ev.neg (by omega) (Ev.const (by rw [List.drop_length]; rfl)))
  · intro i hi ih n hn
    rw [List.drop_eq_getElem_cons hi, List.countP_cons]
    by_cases e : L[i] = c
    · have h1 := ih (n + 1) (by omega)
      rw [← wsucc hi (by omega)] at h1
      have e1 : IntKind.i64.wrap ((n : Int) + 1) = ((n + 1 : Nat) : Int) := by rw [w64 (by omega) (by omega)]; omega
      rw [if_pos (decide_eq_true e), show n + (List.countP (fun t => decide (t = c)) (L.drop (i + 1)) + 1) = n + 1 + List.countP (fun t => decide (t = c)) (L.drop (i + 1)) by omega]
      refine Ev.step (fun k => impl_Pasture_reachedBy_1.l1.eq_2 _ _ _ _ _) (Ev.pos (by omega) (Ev.bind (Ev.const (getI_nat hi)) (Ev.pos e ?_)))
      rw [e1]; exact h1
    · have h1 := ih n (by omega)
      rw [← wsucc hi (by omega)] at h1
      rw [if_neg (by simpa using e), Nat.add_zero]
      exact Ev.step (fun k => impl_Pasture_reachedBy_1.l1.eq_2 _ _ _ _ _) (Ev.pos (by omega) (Ev.bind (Ev.const (getI_nat hi)) (Ev.neg e h1)))
theorem PK.reachedBy (k : PK W H Gr E S p rb) (h : SV W H l) {acc : Int → Option Bool} {A : Int → Bool} (hA : ∀ n, acc n = some (A n)) : Ev (fun f => impl_Pasture_reachedBy.f f p l acc) (gridF (fun y x => A (num rb l y x)) W 0 H) := by
  have hlen := h.len
  have hml : (l.map (RS W H rb)).length = l.length := List.length_map _
  have hLs : ∀ L ∈ l.map (RS W H rb), L.length ≤ 100 := fun L hL => by
    obtain ⟨s, _, rfl⟩ := List.mem_map.1 hL
    exact k.RS_len _
  have hfl : (l.map (RS W H rb)).flatten.length ≤ 1200 := by
    have : ∀ ls : List (List Spot), (∀ L ∈ ls, L.length ≤ 100) → ls.flatten.length ≤ 100 * ls.length := fun ls => by
      induction ls with
      | nil => intro _; simp
      | cons L ls ih =>
        intro h
        have h1 := ih fun M hM => h M (List.mem_cons_of_mem _ hM)
        have h2 := h L (List.mem_cons_self ..)
        rw [List.flatten_cons, List.length_append, List.length_cons]; omega
    have := this _ hLs
    omega
  have hcc := concat_ev (ls := l.map (RS W H rb)) (by omega) (fun L hL => by have := hLs L hL; omega)
  have hw := k.w
  have eW : p.Wide.toNat = W := by rw [k.h.w]; omega
  have eH : p.High.toNat = H := by rw [k.h.h]; omega
  obtain ⟨J, hJ⟩ := evAllS (xs := gridF (fun _ _ => true) W 0 H) (g := fun f => impl_Pasture_reachedBy_1.f f (l.map (RS W H rb)).flatten acc) (p := fun c => A ((l.map (RS W H rb)).flatten.countP (fun t => decide (t = c)) : Nat)) (fun c _ => by
    have := count_loop (L := (l.map (RS W H rb)).flatten) (by omega) c 0 (Nat.zero_le _) 0 (Nat.le_refl _)
    rw [Nat.zero_add, List.drop_zero] at this
    exact this.bind (Ev.bind (Ev.const (hA _)) (Ev.const rfl)))
  have hcells : Ev (fun f => impl_Pasture_cells.f f p (impl_Pasture_reachedBy_1.f f (l.map (RS W H rb)).flatten acc)) (gridF (fun y x => A (num rb l y x)) W 0 H) := ⟨J + 24, fun f hf => by
    have := cells_eq hw (g := impl_Pasture_reachedBy_1.f f (l.map (RS W H rb)).flatten acc) (q := fun y x => A (num rb l y x)) (fun y x hy hx => by
      have h1 := hJ f (by omega) (sp x y) ((k.RS_sp _ (by omega) (by omega)).2 rfl)
      rw [flat_num (by omega) (by omega)] at h1
      exact h1) (k := f) (by omega)
    rw [eW, eH] at this
    exact this⟩
  exact (k.reaches h).bind (hcc.bind (hcells.bind (Ev.const rfl)))
/-! ### The reference's counts -/
theorem times1_ev (m : Tbb) (t : Tb) (h0 : ∀ b a, b < 10 → a < 10 → 0 ≤ g2 t b a ∧ g2 t b a ≤ 1000) : ∃ t' : Tb, Ev (fun f => spec_l05Times.l2 m f t 0) t' ∧ ∀ b a, b < 10 → a < 10 → g2 t' b a = g2 t b a + if b2 m b a = true then 1 else 0 := by
  have row : ∀ y : Nat, y < 10 → ∀ x : Nat, x ≤ 10 → ∀ t : Tb, (∀ b a, b < 10 → a < 10 → 0 ≤ g2 t b a ∧ g2 t b a ≤ 1001) → ∃ t' : Tb, Ev (fun f => spec_l05Times.l3 m (y : Int) f t (x : Int)) t' ∧ ∀ b a, b < 10 → a < 10 → g2 t' b a = g2 t b a + if b = y ∧ x ≤ a ∧ b2 m b a = true then 1 else 0 := fun y hy => by
    intro x
    intro hx
    have key : ∀ d x : Nat, x + d = 10 → ∀ t : Tb, (∀ b a, b < 10 → a < 10 → 0 ≤ g2 t b a ∧ g2 t b a ≤ 1001 + x) → ∃ t' : Tb, Ev (fun f => spec_l05Times.l3 m (y : Int) f t (x : Int)) t' ∧ ∀ b a, b < 10 → a < 10 → g2 t' b a = g2 t b a + if b = y ∧ x ≤ a ∧ b2 m b a = true then 1 else 0 := by
      intro d
      induction d with
      | zero =>
        intro x hx t ht
        exact ⟨t, Ev.step (fun k => spec_l05Times.l3.eq_2 _ _ _ _ _) (Ev.neg (by omega) (Ev.const rfl)), fun b a hb ha => by rw [if_neg (by omega)]; omega⟩
      | succ d ih =>
        intro x hx t ht
        have e : IntKind.i64.wrap ((x : Int) + 1) = ((x + 1 : Nat) : Int) := by rw [w64 (by omega) (by omega)]; omega
        have g1 := getBR m hy
        have g2' : getI (bR m y).l (x : Int) = some (b2 m y x) := getBA _ (show x < 10 by omega)
        cases c : b2 m y x
        · rw [c] at g2'
          obtain ⟨t', h1, h2⟩ := ih (x + 1) (by omega) t (fun b a hb ha => by have := ht b a hb ha; omega)
          rw [← e] at h1
          refine ⟨t', Ev.step (fun k => spec_l05Times.l3.eq_2 _ _ _ _ _) (Ev.pos (by omega) (Ev.bind (Ev.const g1) (Ev.bind (Ev.const g2') (Ev.neg (by simp) h1)))), fun b a hb ha => ?_⟩
          rw [h2 b a hb ha]
          congr 1
          by_cases z : b = y ∧ x + 1 ≤ a ∧ b2 m b a = true
          · rw [if_pos z, if_pos ⟨z.1, by omega, z.2.2⟩]
          · rw [if_neg z, if_neg]
            rintro ⟨u1, u2, u3⟩
            by_cases w : a = x
            · subst w; subst u1; rw [c] at u3; cases u3
            · exact z ⟨u1, by omega, u3⟩
        · rw [c] at g2'
          have t1 := getR t hy
          have t2 : getI (gR t y).l (x : Int) = some (g2 t y x) := getA _ (show x < 10 by omega)
          have hb := ht y x hy (by omega)
          have ew : IntKind.i64.wrap (g2 t y x + 1) = g2 t y x + 1 := w64 (by omega) (by omega)
          obtain ⟨t', h1, h2⟩ := ih (x + 1) (by omega) (put2 t y x (g2 t y x + 1)) (fun b a hb' ha => by
            rw [g2_put t hy (by omega)]
            have := ht b a hb' ha
            split <;> omega)
          rw [← e] at h1
          refine ⟨t', Ev.step (fun k => spec_l05Times.l3.eq_2 _ _ _ _ _) (Ev.pos (by omega) (Ev.bind (Ev.const g1) (Ev.bind (Ev.const g2') (Ev.pos rfl (Ev.bind (Ev.const t1) (Ev.bind (Ev.const t2) (Ev.bind (Ev.const t1) (Ev.bind (Ev.const t2) ?_)))))))), fun b a hb' ha => ?_⟩
          · show Ev (fun f => spec_l05Times.l3 m (y : Int) f (put2 t y x (IntKind.i64.wrap (g2 t y x + 1))) (IntKind.i64.wrap ((x : Int) + 1))) t'
            rw [ew]; exact h1
          · rw [h2 b a hb' ha, g2_put t hy (by omega)]
            by_cases z : y = b ∧ x = a
            · obtain ⟨rfl, rfl⟩ := z
              rw [if_pos ⟨rfl, rfl⟩, if_neg (by omega), if_pos ⟨rfl, Nat.le_refl _, c⟩]; omega
            · rw [if_neg z]
              congr 1
              by_cases w : b = y ∧ x + 1 ≤ a ∧ b2 m b a = true
              · rw [if_pos w, if_pos ⟨w.1, by omega, w.2.2⟩]
              · rw [if_neg w, if_neg]
                rintro ⟨u1, u2, u3⟩
                by_cases v : a = x
                · exact z ⟨u1.symm, v.symm⟩
                · exact w ⟨u1, by omega, u3⟩
    intro t ht
    exact key (10 - x) x (by omega) t (fun b a hb ha => by have := ht b a hb ha; omega)
  have key : ∀ y : Nat, y ≤ 10 → ∀ t : Tb, (∀ b a, b < 10 → a < 10 → 0 ≤ g2 t b a ∧ g2 t b a ≤ 1000 + if b < y then 1 else 0) → ∃ t' : Tb, Ev (fun f => spec_l05Times.l2 m f t (y : Int)) t' ∧ ∀ b a, b < 10 → a < 10 → g2 t' b a = g2 t b a + if y ≤ b ∧ b2 m b a = true then 1 else 0 := by
    refine upL ?_ ?_
    · intro t ht
      exact ⟨t, Ev.step (fun k => spec_l05Times.l2.eq_2 _ _ _ _) (Ev.neg (by omega) (Ev.const rfl)), fun b a hb ha => by rw [if_neg (by omega)]; omega⟩
    · intro y hy ih t ht
      have e : IntKind.i64.wrap ((y : Int) + 1) = ((y + 1 : Nat) : Int) := by rw [w64 (by omega) (by omega)]; omega
      obtain ⟨t1, a1, a2⟩ := row y hy 0 (Nat.zero_le _) t (fun b a hb ha => by have := ht b a hb ha; split at this <;> omega)
      obtain ⟨t', h1, h2⟩ := ih t1 (fun b a hb ha => by
        rw [a2 b a hb ha]
        have := ht b a hb ha
        by_cases z : b < y
        · rw [if_pos z] at this
          rw [if_neg (by omega), if_pos (by omega)]; omega
        · rw [if_neg z] at this
          by_cases z2 : b = y
          · rw [if_pos (show b < y + 1 by omega)]
            split <;> omega
          · rw [if_neg (by omega), if_neg (by omega)]; omega)
      rw [← e] at h1
      refine ⟨t', Ev.step (fun k => spec_l05Times.l2.eq_2 _ _ _ _) (Ev.pos (by omega) (Ev.bind (a1.bind (Ev.const rfl)) h1)), fun b a hb ha => ?_⟩
      rw [h2 b a hb ha, a2 b a hb ha]
      by_cases c : b2 m b a = true
      · by_cases z : b = y
        · rw [if_pos ⟨z, Nat.zero_le _, c⟩, if_neg (by omega), if_pos ⟨by omega, c⟩]; omega
        · rw [if_neg (fun u => z u.1)]
          by_cases z2 : y + 1 ≤ b
          · rw [if_pos ⟨z2, c⟩, if_pos ⟨by omega, c⟩]; omega
          · rw [if_neg (by omega), if_neg (by omega)]; omega
      · rw [if_neg (fun u => c u.2.2), if_neg (fun u => c u.2), if_neg (fun u => c u.2)]; omega
  obtain ⟨t', h1, h2⟩ := key 0 (Nat.zero_le _) t (fun b a hb ha => by have := h0 b a hb ha; rw [if_neg (by omega)]; omega)
  refine ⟨t', h1, fun b a hb ha => ?_⟩
  rw [h2 b a hb ha]
  congr 1
  by_cases c : b2 m b a = true
  · rw [if_pos ⟨Nat.zero_le _, c⟩, if_pos c]
  · rw [if_neg (fun u => c u.2), if_neg c]
theorem PK.times (k : PK W H Gr E S p rb) (h : ∀ s ∈ l, okS W H s) (hlen : l.length ≤ 12) : ∃ t : Tb, Ev (fun f => spec_l05Times.f f p l) t ∧ ∀ b a, b < H → a < W → g2 t b a = (num rb l b a : Int) := by
  have hW := k.hW
  have hH := k.hH
  have key : ∀ i, i ≤ l.length → ∀ t : Tb, (∀ b a, b < 10 → a < 10 → 0 ≤ g2 t b a ∧ g2 t b a ≤ i) → ∃ t' : Tb, Ev (fun f => spec_l05Times.l1 p l f t (i : Int)) t' ∧ ∀ b a, b < H → a < W → g2 t' b a = g2 t b a + (num rb (l.drop i) b a : Int) := by
    refine upL ?_ ?_
    · intro t ht
      exact ⟨t, Ev.step (fun k => spec_l05Times.l1.eq_2 _ _ _ _ _) (Ev.neg (by omega) (Ev.const rfl)), fun b a hb ha => by rw [List.drop_length]; simp [num]⟩
    · intro i hi ih t ht
      obtain ⟨m, m1, m2, _⟩ := k.mask (h _ (List.getElem_mem hi))
      obtain ⟨t1, a1, a2⟩ := times1_ev m t (fun b a hb ha => by have := ht b a hb ha; omega)
      obtain ⟨t', h1, h2⟩ := ih t1 (fun b a hb ha => by
        rw [a2 b a hb ha]
        have := ht b a hb ha
        split <;> (push_cast; omega))
      rw [← wsucc hi (by omega)] at h1
      refine ⟨t', Ev.step (fun k => spec_l05Times.l1.eq_2 _ _ _ _ _) (Ev.pos (by omega) (Ev.bind (Ev.bind (Ev.const (getI_nat hi)) (m1.bind (a1.bind (Ev.const rfl)))) h1)), fun b a hb ha => ?_⟩
      rw [h2 b a hb ha, a2 b a (by omega) (by omega), m2 b a (by omega) (by omega), decide_eq_true ⟨ha, hb⟩, Bool.true_and, List.drop_eq_getElem_cons hi]
      unfold num
      rw [List.countP_cons]
      split <;> (push_cast; omega)
  obtain ⟨t, h1, h2⟩ := key 0 (Nat.zero_le _) (Arr.mk' (Arr.mk' 0 : Arr 10 Int) : Tb) (fun b a hb ha => by rw [g2_zero hb ha]; omega)
  refine ⟨t, h1.bind (Ev.const rfl), fun b a hb ha => ?_⟩
  rw [h2 b a hb ha, g2_zero (by omega) (by omega), List.drop_zero]; omega
theorem PK.counted (k : PK W H Gr E S p rb) (h : ∀ s ∈ l, okS W H s) (hlen : l.length ≤ 12) (lo hi : Int) : Ev (fun f => spec_l05Counted.f f p l lo hi) (gridF (fun y x => decide (lo ≤ (num rb l y x : Int) ∧ (num rb l y x : Int) ≤ hi)) W 0 H) := by
  obtain ⟨t, t1, t2⟩ := k.times h hlen
  have hW := k.hW
  have hH := k.hH
  have pw := k.h.w
  have ph := k.h.h
  have row : ∀ y : Nat, y < H → ∀ x, x ≤ W → ∀ acc : List Spot, acc.length ≤ 1000 + x → Ev (fun f => spec_l05Counted.l2 p lo hi t (y : Int) f acc (x : Int)) (acc ++ rowF (fun x => decide (lo ≤ (num rb l y x : Int) ∧ (num rb l y x : Int) ≤ hi)) y x (W - x)) := fun y hy => by
    refine upL ?_ ?_
    · intro acc ha
      exact Ev.step (fun k => spec_l05Counted.l2.eq_2 _ _ _ _ _ _ _ _) (Ev.neg (by omega) (Ev.const (by simp [rowF])))
    · intro x hx ih acc ha
      have e : IntKind.i8.wrap ((x : Int) + 1) = ((x + 1 : Nat) : Int) := by rw [w8 (by omega) (by omega)]; omega
      have g1 := getR t (show y < 10 by omega)
      have g2' : getI (gR t y).l (x : Int) = some (num rb l y x : Int) := (getA _ (show x < 10 by omega)).trans (congrArg some (t2 y x hy hx))
      rw [show W - x = (W - (x + 1)) + 1 by omega, rowF]
      by_cases c : lo ≤ (num rb l y x : Int) ∧ (num rb l y x : Int) ≤ hi
      · have hin : spec_l00In.f (num rb l y x : Int) lo hi = some true := by rw [l00In_eq, decide_eq_true c]
        have h1 := ih (acc ++ [sp x y]) (by simp; omega)
        rw [← e, List.append_assoc] at h1
        rw [if_pos (decide_eq_true c)]
        exact Ev.step (fun k => spec_l05Counted.l2.eq_2 _ _ _ _ _ _ _ _) (Ev.pos (by omega) (Ev.bind (Ev.const g1) (Ev.bind (Ev.const g2') (Ev.bind (Ev.const hin) (Ev.pos rfl (Ev.bind (Ev.const (chk_t (by simp; omega))) h1))))))
      · have hin : spec_l00In.f (num rb l y x : Int) lo hi = some false := by rw [l00In_eq, decide_eq_false c]
        have h1 := ih acc (by omega)
        rw [← e] at h1
        rw [if_neg (by simpa using c), List.nil_append]
        exact Ev.step (fun k => spec_l05Counted.l2.eq_2 _ _ _ _ _ _ _ _) (Ev.pos (by omega) (Ev.bind (Ev.const g1) (Ev.bind (Ev.const g2') (Ev.bind (Ev.const hin) (Ev.neg (by simp) h1)))))
  have key : ∀ y : Nat, y ≤ H → ∀ acc : List Spot, acc.length ≤ 10 * y → Ev (fun f => spec_l05Counted.l1 p lo hi t f acc (y : Int)) (acc ++ gridF (fun y x => decide (lo ≤ (num rb l y x : Int) ∧ (num rb l y x : Int) ≤ hi)) W y (H - y)) := by
    refine upL ?_ ?_
    · intro acc ha
      exact Ev.step (fun k => spec_l05Counted.l1.eq_2 _ _ _ _ _ _ _) (Ev.neg (by omega) (Ev.const (by simp [gridF])))
    · intro y hy ih acc ha
      have e : IntKind.i8.wrap ((y : Int) + 1) = ((y + 1 : Nat) : Int) := by rw [w8 (by omega) (by omega)]; omega
      have hl := rowF_len (fun x => decide (lo ≤ (num rb l y x : Int) ∧ (num rb l y x : Int) ≤ hi)) y W 0
      have h1 := ih (acc ++ rowF (fun x => decide (lo ≤ (num rb l y x : Int) ∧ (num rb l y x : Int) ≤ hi)) y 0 W) (by rw [List.length_append]; omega)
      rw [← e, List.append_assoc] at h1
      rw [show H - y = (H - (y + 1)) + 1 by omega, gridF]
      exact Ev.step (fun k => spec_l05Counted.l1.eq_2 _ _ _ _ _ _ _) (Ev.pos (by omega) (Ev.bind ((row y hy 0 (Nat.zero_le _) acc (by omega)).bind (Ev.const rfl)) h1))
  have := key 0 (Nat.zero_le _) [] (by simp)
  rw [List.nil_append] at this
  exact t1.bind (this.bind (Ev.const rfl))
/-- Cells that none reaches, and those that two or more reach. -/
def unL (W H : Nat) (rb : Nat → Nat → Nat → Nat → Bool) (l : List Stake) : List Spot := gridF (fun y x => decide (num rb l y x = 0)) W 0 H
def shL (W H : Nat) (rb : Nat → Nat → Nat → Nat → Bool) (l : List Stake) : List Spot := gridF (fun y x => decide (2 ≤ num rb l y x)) W 0 H
theorem PK.uncovered (k : PK W H Gr E S p rb) (h : SV W H l) : Ev (fun f => impl_UncoveredBy.f f p l) (unL W H rb l, 0) ∧ Ev (fun f => spec_UncoveredBy.f f p l) (unL W H rb l, 0) ∧ Ev (fun f => impl_SharedCells.f f p l) (shL W H rb l, 0) ∧ Ev (fun f => spec_SharedCells.f f p l) (shL W H rb l, 0) := by
  have h1 := k.reachedBy h (acc := impl_UncoveredBy_1.f) (A := fun n => decide (n = 0)) (fun n => rfl)
  have h2 := k.reachedBy h (acc := impl_SharedCells_1.f) (A := fun n => decide (2 ≤ n)) (fun n => rfl)
  have s1 := k.counted h.ok h.len 0 0
  have s2 := k.counted h.ok h.len 2 12
  have e1 : gridF (fun y x => (fun n : Int => decide (n = 0)) (num rb l y x : Int)) W 0 H = unL W H rb l := gridF_congr _ _ fun i j _ _ _ => decide_eq_decide.2 (by omega)
  have e2 : gridF (fun y x => (fun n : Int => decide (2 ≤ n)) (num rb l y x : Int)) W 0 H = shL W H rb l := gridF_congr _ _ fun i j _ _ _ => decide_eq_decide.2 (by omega)
  have e3 : gridF (fun y x => decide ((0 : Int) ≤ (num rb l y x : Int) ∧ (num rb l y x : Int) ≤ 0)) W 0 H = unL W H rb l := gridF_congr _ _ fun i j _ _ _ => decide_eq_decide.2 (by omega)
  have e4 : gridF (fun y x => decide ((2 : Int) ≤ (num rb l y x : Int) ∧ (num rb l y x : Int) ≤ 12)) W 0 H = shL W H rb l := gridF_congr _ _ fun i j _ _ _ => decide_eq_decide.2 (by
    have : num rb l i j ≤ l.length := List.countP_le_length
    have := h.len
    omega)
  rw [e1] at h1
  rw [e2] at h2
  rw [e3] at s1
  rw [e4] at s2
  exact ⟨(k.codeI h).bind (Ev.neg (by simp) (h1.bind (Ev.const rfl))), (k.asked h).bind (Ev.neg (by simp) (s1.bind (Ev.const rfl))), (k.codeI h).bind (Ev.neg (by simp) (h2.bind (Ev.const rfl))), (k.asked h).bind (Ev.neg (by simp) (s2.bind (Ev.const rfl)))⟩
end Go.Proofs.YtklgpejnogkccaaGreatDoor
/-
  Plain law: the greatest reach, the least reach.
-/
namespace Go.Proofs.YtklgpejnogkccaaGreatDoor
open G
set_option linter.unusedVariables false
set_option linter.unusedSimpArgs false
variable {W H : Nat} {p q : Pasture} {Gr : Nat → Nat → Int} {E S : Nat → Nat → Bool} {y x b a sx sy : Nat} {r : Int} {rb : Nat → Nat → Nat → Nat → Bool} {s t : Stake} {l : List Stake}
theorem cells_code {xs : List Spot} (v : VPasture p) (ok : vP p = true) (hx : xs.length ≤ 1000) (h : ∀ s ∈ xs, ∃ x y : Nat, x < p.Wide.toNat ∧ y < p.High.toNat ∧ s = sp x y) : Ev (fun k => impl_cellCode.f k p xs) 0 := by
  obtain ⟨w1, w2⟩ := okW_iff.1 (vP_okW ok)
  have hc := cellCode_ev v xs (fun s hs => by
    obtain ⟨x, y, hx, hy, rfl⟩ := h s hs
    exact VSpot_nat (by omega) (by omega)) (by omega)
  have e : cCode p xs = 0 := by
    unfold cCode
    rw [ok]
    have : okC p xs = true := List.all_eq_true.2 fun s hs => by
      obtain ⟨x, y, hx, hy, rfl⟩ := h s hs
      exact cellB_grid (vP_okW ok) hx hy
    rw [this]; rfl
  rw [e] at hc
  exact hc
/-- The least of what is told of cells, from a bound on. -/
structure Lst (Hit : Nat → Nat → Prop) (sx sy : Nat) (b B : Int) : Prop where
  le : B ≤ b
  all : ∀ y x, Hit y x → B ≤ sqI sx sy x y - 1
  one : B = b ∨ ∃ y x, Hit y x ∧ B = sqI sx sy x y - 1
theorem Lst.uniq {Hit Hit' : Nat → Nat → Prop} {b B B' : Int} (h : Lst Hit sx sy b B) (h' : Lst Hit' sx sy b B') (e : ∀ y x, Hit y x ↔ Hit' y x) : B = B' := by
  have h1 : B ≤ B' := by
    rcases h'.one with c | ⟨y, x, c, d⟩
    · rw [c]; exact h.le
    · rw [d]; exact h.all y x ((e y x).2 c)
  have h2 : B' ≤ B := by
    rcases h.one with c | ⟨y, x, c, d⟩
    · rw [c]; exact h'.le
    · rw [d]; exact h'.all y x ((e y x).1 c)
  omega
theorem Lst.refl {b : Int} : Lst (fun _ _ => False) sx sy b b := ⟨Int.le_refl _, fun _ _ h => h.elim, .inl rfl⟩
theorem Lst.then {Hit Hit' : Nat → Nat → Prop} {b B B' : Int} (h : Lst Hit sx sy b B) (h' : Lst Hit' sx sy B B') : Lst (fun y x => Hit y x ∨ Hit' y x) sx sy b B' := by
  refine ⟨Int.le_trans h'.le h.le, ?_, ?_⟩
  · rintro y x (c | c)
    · exact Int.le_trans h'.le (h.all y x c)
    · exact h'.all y x c
  · rcases h'.one with c | ⟨y, x, c, d⟩
    · rw [c]
      rcases h.one with c | ⟨y, x, c, d⟩
      · exact .inl c
      · exact .inr ⟨y, x, .inl c, d⟩
    · exact .inr ⟨y, x, .inr c, d⟩
theorem Lst.congr {Hit Hit' : Nat → Nat → Prop} {b B : Int} (h : Lst Hit sx sy b B) (e : ∀ y x, Hit y x ↔ Hit' y x) : Lst Hit' sx sy b B := by
  refine ⟨h.le, fun y x c => h.all y x ((e y x).2 c), ?_⟩
  rcases h.one with c | ⟨y, x, c, d⟩
  · exact .inl c
  · exact .inr ⟨y, x, (e y x).1 c, d⟩
theorem Lst.cell {b : Int} (y x : Nat) : Lst (fun y' x' => y' = y ∧ x' = x) sx sy b (if sqI sx sy x y - 1 < b then sqI sx sy x y - 1 else b) := by
  by_cases c : sqI sx sy x y - 1 < b
  · rw [if_pos c]
    refine ⟨by omega, ?_, .inr ⟨y, x, ⟨rfl, rfl⟩, rfl⟩⟩
    rintro y' x' ⟨rfl, rfl⟩
    exact Int.le_refl _
  · rw [if_neg c]
    refine ⟨Int.le_refl _, ?_, .inl rfl⟩
    rintro y' x' ⟨rfl, rfl⟩
    omega
/-- Another stake's cells in the own yard. -/
def hitAt (W H : Nat) (rb : Nat → Nat → Nat → Nat → Bool) (sx sy : Nat) (t : Stake) (y x : Nat) : Prop := x < W ∧ y < H ∧ rb sy sx y x = true ∧ qS rb t y x = true
theorem PK.great2 (k : PK W H Gr E S p rb) {i : Nat} (hi : i < l.length) (hx : sx < W) (hy : sy < H) (e : l[i].At = sp sx sy) (hlen : l.length ≤ 12) (q : Nat → Nat → Bool) : ∀ b : Int, -1 ≤ b → b ≤ 200 → ∃ B : Int, -1 ≤ B ∧ Ev (fun f => impl_GreatestReach.l2 l (i : Int) (gridF q W 0 H) f b 0) B ∧ Lst (fun y x => x < W ∧ y < H ∧ q y x = true) sx sy b B := by
  have hl := k.RS_len q
  have hW := k.hW
  have hH := k.hH
  have key : ∀ j, j ≤ (gridF q W 0 H).length → ∀ b : Int, -1 ≤ b → b ≤ 200 → ∃ B : Int, -1 ≤ B ∧ Ev (fun f => impl_GreatestReach.l2 l (i : Int) (gridF q W 0 H) f b (j : Int)) B ∧ Lst (fun y x => sp x y ∈ (gridF q W 0 H).drop j) sx sy b B := by
    refine upL ?_ ?_
    · intro b b0 b1
      exact ⟨b, b0, Ev.step (fun k => impl_GreatestReach.l2.eq_2 _ _ _ _ _ _) (Ev.neg (by omega) (Ev.const rfl)), Lst.refl.congr fun y x => by rw [List.drop_length]; simp⟩
    · intro j hj ih b b0 b1
      obtain ⟨x, y, hx', hy', e2, _⟩ := (k.RS_in q).1 (List.getElem_mem hj)
      have hs := sqImpl (sx := sx) (sy := sy) (x := x) (y := y) (by omega) (by omega) (by omega) (by omega)
      have hb := sq_le (sx := sx) (sy := sy) (x := x) (y := y) (by omega) (by omega) (by omega) (by omega)
      have ew : IntKind.i64.wrap (sqI sx sy x y - 1) = sqI sx sy x y - 1 := w64 (by omega) (by omega)
      have hsq : impl_SquareOf.f l[i].At (gridF q W 0 H)[j] = some (sqI sx sy x y) := by rw [e, e2]; exact hs
      have hL := Lst.cell (sx := sx) (sy := sy) (b := b) y x
      obtain ⟨B, B0, B1, B2⟩ := ih (if sqI sx sy x y - 1 < b then sqI sx sy x y - 1 else b) (by split <;> omega) (by have := hL.le; omega)
      rw [← wsucc hj (by omega)] at B1
      refine ⟨B, B0, Ev.step (fun k => impl_GreatestReach.l2.eq_2 _ _ _ _ _ _) (Ev.pos (by omega) (Ev.bind (Ev.const (getI_nat hj)) (Ev.bind (Ev.const (getI_nat hi)) (Ev.bind (Ev.const hsq) ?_)))), (hL.then B2).congr fun y' x' => ?_⟩
      · rw [ew]; exact B1
      · rw [List.drop_eq_getElem_cons hj, e2, List.mem_cons]
        constructor
        · rintro (⟨rfl, rfl⟩ | c)
          · exact .inl rfl
          · exact .inr c
        · rintro (c | c)
          · obtain ⟨rfl, rfl⟩ := sp_inj' c
            exact .inl ⟨rfl, rfl⟩
          · exact .inr c
  intro b b0 b1
  obtain ⟨B, B0, B1, B2⟩ := key 0 (Nat.zero_le _) b b0 b1
  refine ⟨B, B0, B1, B2.congr fun y x => ?_⟩
  rw [List.drop_zero, k.RS_in q]
  constructor
  · rintro ⟨x', y', h1, h2, h3, h4⟩
    obtain ⟨rfl, rfl⟩ := sp_inj' h3
    exact ⟨h1, h2, h4⟩
  · rintro ⟨h1, h2, h3⟩
    exact ⟨x, y, h1, h2, rfl, h3⟩
/-- What any other stake reaches in the own yard. -/
def hitAll (W H : Nat) (rb : Nat → Nat → Nat → Nat → Bool) (sx sy : Nat) (l : List Stake) (i : Nat) (y x : Nat) : Prop := x < W ∧ y < H ∧ rb sy sx y x = true ∧ ∃ (j : Nat) (hj : j < l.length), j ≠ i ∧ qS rb l[j] y x = true
theorem PK.greatI (k : PK W H Gr E S p rb) (h : SV W H l) {i : Nat} (hi : i < l.length) (hx : sx < W) (hy : sy < H) (e : l[i].At = sp sx sy) : ∃ B : Int, -1 ≤ B ∧ Lst (hitAll W H rb sx sy l i) sx sy 200 B ∧ Ev (fun f => impl_GreatestReach.f f p l (i : Int)) (if B < 0 then (0, 6) else (B, 0)) := by
  have hlen := h.len
  have key : ∀ j, j ≤ l.length → ∀ b : Int, -1 ≤ b → b ≤ 200 → ∃ B : Int, -1 ≤ B ∧ Ev (fun f => impl_GreatestReach.l1 p l (i : Int) (gridF (rb sy sx) W 0 H) f b (j : Int)) B ∧ Lst (fun y x => ∃ (j' : Nat) (hj : j' < l.length), j ≤ j' ∧ j' ≠ i ∧ hitAt W H rb sx sy l[j'] y x) sx sy b B := by
    refine upL ?_ ?_
    · intro b b0 b1
      exact ⟨b, b0, Ev.step (fun k => impl_GreatestReach.l1.eq_2 _ _ _ _ _ _ _) (Ev.neg (by omega) (Ev.const rfl)), Lst.refl.congr fun y x => ⟨fun z => z.elim, by rintro ⟨j', hj, h1, _⟩; omega⟩⟩
    · intro j hj ih b b0 b1
      have hok := h.ok _ (List.getElem_mem hj)
      by_cases c : j = i
      · obtain ⟨B, B0, B1, B2⟩ := ih b b0 b1
        rw [← wsucc hj (by omega)] at B1
        refine ⟨B, B0, Ev.step (fun k => impl_GreatestReach.l1.eq_2 _ _ _ _ _ _ _) (Ev.pos (by omega) (Ev.bind (a := b) (Ev.bind (Ev.const (getI_nat hj)) (Ev.pos (by omega) (Ev.const rfl))) B1)), B2.congr fun y x => ⟨?_, ?_⟩⟩
        · rintro ⟨j', hj', h1, h2⟩; exact ⟨j', hj', by omega, h2⟩
        · rintro ⟨j', hj', h1, h2, h3⟩; exact ⟨j', hj', by omega, h2, h3⟩
      · obtain ⟨B1, c0, c1, c2⟩ := k.great2 hi hx hy e hlen (fun y x => rb sy sx y x && qS rb l[j] y x) b b0 b1
        obtain ⟨B, B0, d1, d2⟩ := ih B1 c0 (by have := c2.le; omega)
        rw [← wsucc hj (by omega)] at d1
        refine ⟨B, B0, Ev.step (fun k => impl_GreatestReach.l1.eq_2 _ _ _ _ _ _ _) (Ev.pos (by omega) (Ev.bind (a := B1) (Ev.bind (Ev.const (getI_nat hj)) (Ev.neg (by omega) ((k.reach hok).bind ((k.common (rb sy sx) (qS rb l[j])).bind (c1.bind (Ev.const rfl)))))) d1)), (c2.then d2).congr fun y x => ⟨?_, ?_⟩⟩
        · rintro (⟨h1, h2, h3⟩ | ⟨j', hj', h1, h2, h3⟩)
          · rw [Bool.and_eq_true] at h3
            exact ⟨j, hj, Nat.le_refl _, c, h1, h2, h3⟩
          · exact ⟨j', hj', by omega, h2, h3⟩
        · rintro ⟨j', hj', h1, h2, h3, h4, h5, h6⟩
          by_cases z : j' = j
          · subst z
            exact .inl ⟨h3, h4, by rw [h5, h6]; rfl⟩
          · exact .inr ⟨j', hj', by omega, h2, h3, h4, h5, h6⟩
  obtain ⟨B, B0, B1, B2⟩ := key 0 (Nat.zero_le _) 200 (by omega) (by omega)
  refine ⟨B, B0, B2.congr fun y x => ⟨?_, ?_⟩, ?_⟩
  · rintro ⟨j, hj, _, h2, h3, h4, h5, h6⟩; exact ⟨h3, h4, h5, j, hj, h2, h6⟩
  · rintro ⟨h3, h4, h5, j, hj, h2, h6⟩; exact ⟨j, hj, Nat.zero_le _, h2, h3, h4, h5, h6⟩
  · have hsz : impl_size_impl_Stake.f l = some (l.length : Int) := rfl
    have hwi : impl_within.f (i : Int) 0 (IntKind.i64.wrap ((l.length : Int) - 1)) = some true := by rw [within_eq, w64 (by omega) (by omega), decide_eq_true (by omega)]
    have hyd := yardK_ev k.h k.hG k.hW k.hH k.hr hx hy
    rw [← e] at hyd
    refine (k.codeI h).bind (Ev.bind (Ev.const hsz) (Ev.bind (Ev.const hwi) (Ev.bind (Ev.const (unless_eq _ _)) (firstOf0.bind (Ev.neg (by simp) (Ev.bind (Ev.const (getI_nat hi)) (hyd.bind (B1.bind ?_))))))))
    by_cases c : B < 0
    · rw [show (if B < 0 then ((0 : Int), (6 : Int)) else (B, 0)) = (0, 6) from if_pos c]; exact Ev.pos c (Ev.const rfl)
    · rw [show (if B < 0 then ((0 : Int), (6 : Int)) else (B, 0)) = (B, 0) from if_neg c]; exact Ev.neg c (Ev.const rfl)
/-- The others. -/
theorem others_num {i : Nat} (hi : i < l.length) : 0 < num rb (l.take i ++ l.drop (i + 1)) y x ↔ ∃ (j : Nat) (hj : j < l.length), j ≠ i ∧ qS rb l[j] y x = true := by
  unfold num
  rw [List.countP_pos_iff]
  constructor
  · rintro ⟨s, hs, hq⟩
    rcases List.mem_append.1 hs with hs | hs
    · obtain ⟨j, hj, rfl⟩ := List.mem_iff_getElem.1 hs
      rw [List.length_take] at hj
      rw [List.getElem_take] at hq
      exact ⟨j, by omega, by omega, hq⟩
    · obtain ⟨j, hj, rfl⟩ := List.mem_iff_getElem.1 hs
      rw [List.length_drop] at hj
      rw [List.getElem_drop] at hq
      exact ⟨i + 1 + j, by omega, by omega, hq⟩
  · rintro ⟨j, hj, hne, hq⟩
    refine ⟨l[j], List.mem_append.2 ?_, hq⟩
    by_cases c : j < i
    · exact .inl (List.mem_iff_getElem.2 ⟨j, by rw [List.length_take]; omega, List.getElem_take ..⟩)
    · refine .inr (List.mem_iff_getElem.2 ⟨j - (i + 1), by rw [List.length_drop]; omega, ?_⟩)
      rw [List.getElem_drop]
      congr 1
      omega
theorem PK.greatS (k : PK W H Gr E S p rb) (h : SV W H l) {i : Nat} (hi : i < l.length) (hx : sx < W) (hy : sy < H) (e : l[i].At = sp sx sy) : ∃ B : Int, -1 ≤ B ∧ Lst (hitAll W H rb sx sy l i) sx sy 200 B ∧ Ev (fun f => spec_GreatestReach.f f p l (i : Int)) (if B < 0 then (0, 6) else (B, 0)) := by
  have hlen := h.len
  have hW := k.hW
  have hH := k.hH
  have pw := k.h.w
  have ph := k.h.h
  obtain ⟨T, t1, t2⟩ := k.times (l := l.take i ++ l.drop (i + 1)) (fun s hs => by
    rcases List.mem_append.1 hs with hs | hs
    · exact h.ok s (List.mem_of_mem_take hs)
    · exact h.ok s (List.mem_of_mem_drop hs)) (by rw [List.length_append, List.length_take, List.length_drop]; omega)
  obtain ⟨m, n, e1, e2, hm, hrt⟩ := far_rt k.h k.hG k.hW k.hH hx hy
  have cond : ∀ y x, y < H → x < W → ((0 < g2 T y x ∧ 0 < g2 n y x) ↔ hitAll W H rb sx sy l i y x) := fun y x hy' hx' => by
    rw [t2 y x hy' hx']
    have h1 := others_num (rb := rb) (y := y) (x := x) hi
    have h2 := hrt y x hy' hx'
    have h3 := hm y x (by omega) (by omega)
    have h4 := k.hr sy sx y x
    constructor
    · rintro ⟨c1, c2⟩
      exact ⟨hx', hy', h4.2 (h2.1 (by omega)), h1.1 (by omega)⟩
    · rintro ⟨_, _, c1, c2⟩
      have := h1.2 c2
      have := h2.2 (h4.1 c1)
      omega
  have row : ∀ y : Nat, y < H → ∀ x, x ≤ W → ∀ b : Int, -1 ≤ b → b ≤ 200 → ∃ B : Int, -1 ≤ B ∧ Ev (fun f => spec_GreatestReach.l2 p l (i : Int) T n (y : Int) f b (x : Int)) B ∧ Lst (fun y' x' => y' = y ∧ x ≤ x' ∧ hitAll W H rb sx sy l i y' x') sx sy b B := fun y hy' => by
    refine upL ?_ ?_
    · intro b b0 b1
      exact ⟨b, b0, Ev.step (fun k => spec_GreatestReach.l2.eq_2 _ _ _ _ _ _ _ _ _) (Ev.neg (by omega) (Ev.const rfl)), Lst.refl.congr fun y' x' => ⟨fun z => z.elim, by rintro ⟨_, h1, h2, _⟩; omega⟩⟩
    · intro x hx' ih b b0 b1
      have ew : IntKind.i8.wrap ((x : Int) + 1) = ((x + 1 : Nat) : Int) := by rw [w8 (by omega) (by omega)]; omega
      have g1 := getR T (show y < 10 by omega)
      have g2' : getI (gR T y).l (x : Int) = some (g2 T y x) := getA _ (show x < 10 by omega)
      have g3 := getR n (show y < 10 by omega)
      have g4 : getI (gR n y).l (x : Int) = some (g2 n y x) := getA _ (show x < 10 by omega)
      have hcd := cond y x hy' hx'
      by_cases c : 0 < g2 T y x ∧ 0 < g2 n y x
      · have hs := sqSpec (sx := sx) (sy := sy) (x := x) (y := y) (by omega) (by omega) (by omega) (by omega)
        have hb := sq_le (sx := sx) (sy := sy) (x := x) (y := y) (by omega) (by omega) (by omega) (by omega)
        have e64 : IntKind.i64.wrap (sqI sx sy x y - 1) = sqI sx sy x y - 1 := w64 (by omega) (by omega)
        have hsq : spec_SquareOf.f l[i].At (⟨(x : Int), (y : Int)⟩ : Spot) = some (sqI sx sy x y) := by rw [e]; exact hs
        have hmin : spec_l00Min.f b (IntKind.i64.wrap (sqI sx sy x y - 1)) = some (if sqI sx sy x y - 1 < b then sqI sx sy x y - 1 else b) := by
          unfold spec_l00Min.f
          rw [e64]
          by_cases z : b < sqI sx sy x y - 1
          · rw [if_pos z, if_neg (by omega)]
          · rw [if_neg z]
            by_cases z2 : sqI sx sy x y - 1 < b
            · rw [if_pos z2]
            · rw [if_neg z2]; congr 1; omega
        have hL := Lst.cell (sx := sx) (sy := sy) (b := b) y x
        obtain ⟨B, B0, B1, B2⟩ := ih (if sqI sx sy x y - 1 < b then sqI sx sy x y - 1 else b) (by split <;> omega) (by have := hL.le; omega)
        rw [← ew] at B1
        refine ⟨B, B0, Ev.step (fun k => spec_GreatestReach.l2.eq_2 _ _ _ _ _ _ _ _ _) (Ev.pos (by omega) (Ev.bind (a := true) (Ev.bind (Ev.const g1) (Ev.bind (Ev.const g2') (Ev.pos c.1 (Ev.bind (Ev.const g3) (Ev.bind (Ev.const g4) (Ev.const (by rw [decide_eq_true c.2]))))))) (Ev.pos rfl (Ev.bind (Ev.const (getI_nat hi)) (Ev.bind (Ev.const hsq) (Ev.bind (Ev.const hmin) B1)))))), (hL.then B2).congr fun y' x' => ⟨?_, ?_⟩⟩
        · rintro (⟨rfl, rfl⟩ | ⟨h1, h2, h3⟩)
          · exact ⟨rfl, Nat.le_refl _, hcd.1 c⟩
          · exact ⟨h1, by omega, h3⟩
        · rintro ⟨h1, h2, h3⟩
          by_cases z : x' = x
          · exact .inl ⟨h1, z⟩
          · exact .inr ⟨h1, by omega, h3⟩
      · obtain ⟨B, B0, B1, B2⟩ := ih b b0 b1
        rw [← ew] at B1
        refine ⟨B, B0, Ev.step (fun k => spec_GreatestReach.l2.eq_2 _ _ _ _ _ _ _ _ _) (Ev.pos (by omega) (Ev.bind (a := false) (Ev.bind (Ev.const g1) (Ev.bind (Ev.const g2') ?_)) (Ev.neg (by simp) B1))), B2.congr fun y' x' => ⟨?_, ?_⟩⟩
        · by_cases z : 0 < g2 T y x
          · exact Ev.pos z (Ev.bind (Ev.const g3) (Ev.bind (Ev.const g4) (Ev.const (by rw [decide_eq_false (fun u => c ⟨z, u⟩)]))))
          · exact Ev.neg z (Ev.const rfl)
        · rintro ⟨h1, h2, h3⟩; exact ⟨h1, by omega, h3⟩
        · rintro ⟨h1, h2, h3⟩
          by_cases z : x' = x
          · subst z; subst h1; exact absurd (hcd.2 h3) c
          · exact ⟨h1, by omega, h3⟩
  have key : ∀ y : Nat, y ≤ H → ∀ b : Int, -1 ≤ b → b ≤ 200 → ∃ B : Int, -1 ≤ B ∧ Ev (fun f => spec_GreatestReach.l1 p l (i : Int) T n f b (y : Int)) B ∧ Lst (fun y' x' => y ≤ y' ∧ hitAll W H rb sx sy l i y' x') sx sy b B := by
    refine upL ?_ ?_
    · intro b b0 b1
      exact ⟨b, b0, Ev.step (fun k => spec_GreatestReach.l1.eq_2 _ _ _ _ _ _ _ _) (Ev.neg (by omega) (Ev.const rfl)), Lst.refl.congr fun y' x' => ⟨fun z => z.elim, by rintro ⟨h1, _, h3, _⟩; omega⟩⟩
    · intro y hy' ih b b0 b1
      have ew : IntKind.i8.wrap ((y : Int) + 1) = ((y + 1 : Nat) : Int) := by rw [w8 (by omega) (by omega)]; omega
      obtain ⟨B1, c0, c1, c2⟩ := row y hy' 0 (Nat.zero_le _) b b0 b1
      obtain ⟨B, B0, d1, d2⟩ := ih B1 c0 (by have := c2.le; omega)
      rw [← ew] at d1
      refine ⟨B, B0, Ev.step (fun k => spec_GreatestReach.l1.eq_2 _ _ _ _ _ _ _ _) (Ev.pos (by omega) (Ev.bind (c1.bind (Ev.const rfl)) d1)), (c2.then d2).congr fun y' x' => ⟨?_, ?_⟩⟩
      · rintro (⟨h1, _, h3⟩ | ⟨h1, h3⟩)
        · exact ⟨by omega, h3⟩
        · exact ⟨by omega, h3⟩
      · rintro ⟨h1, h3⟩
        by_cases z : y' = y
        · exact .inl ⟨z, Nat.zero_le _, h3⟩
        · exact .inr ⟨by omega, h3⟩
  obtain ⟨B, B0, B1, B2⟩ := key 0 (Nat.zero_le _) 200 (by omega) (by omega)
  refine ⟨B, B0, B2.congr fun y x => ⟨fun z => z.2, fun z => ⟨Nat.zero_le _, z⟩⟩, ?_⟩
  have hwi : spec_l00In.f (i : Int) 0 (IntKind.i64.wrap ((l.length : Int) - 1)) = some true := by rw [l00In_eq, w64 (by omega) (by omega), decide_eq_true (by omega)]
  have ei : IntKind.i64.wrap ((i : Int) + 1) = ((i + 1 : Nat) : Int) := by rw [w64 (by omega) (by omega)]; omega
  have eL : (([] : List Stake) ++ (l.drop 0).take ((i : Int).toNat - 0)) ++ (l.drop ((IntKind.i64.wrap ((i : Int) + 1)).toNat)).take (l.length - ((IntKind.i64.wrap ((i : Int) + 1)).toNat)) = l.take i ++ l.drop (i + 1) := by
    rw [ei, List.nil_append, List.drop_zero, show (i : Int).toNat - 0 = i by omega, show ((i + 1 : Nat) : Int).toNat = i + 1 by omega, show (l.drop (i + 1)).take (l.length - (i + 1)) = l.drop (i + 1) from List.take_of_length_le (by rw [List.length_drop]; exact Nat.le_refl _)]
  have t1' : Ev (fun f => spec_l05Times.f f p ((([] : List Stake) ++ (l.drop 0).take ((i : Int).toNat - 0)) ++ (l.drop ((IntKind.i64.wrap ((i : Int) + 1)).toNat)).take (l.length - ((IntKind.i64.wrap ((i : Int) + 1)).toNat)))) T := by rw [eL]; exact t1
  have hl1 : ((l.drop 0).take ((i : Int).toNat - 0)).length ≤ 12 := by rw [List.length_take, List.length_drop]; omega
  have hl2 : ((l.drop ((IntKind.i64.wrap ((i : Int) + 1)).toNat)).take (l.length - ((IntKind.i64.wrap ((i : Int) + 1)).toNat))).length ≤ 12 := by rw [List.length_take, List.length_drop]; omega
  rw [← e] at e2
  refine Ev.bind (Ev.const hwi) ((k.asked h).bind (Ev.neg (by simp) (Ev.bind (Ev.const (chk_t (by omega))) (Ev.bind (Ev.const (chk_t (by rw [ei]; omega))) (Ev.bind (Ev.const (chk_t (by rw [List.length_nil]; omega))) (Ev.bind (Ev.const (chk_t (by rw [List.nil_append]; omega))) (t1'.bind (Ev.bind (Ev.const (getI_nat hi)) (e2.bind (B1.bind ?_))))))))))
  by_cases c : B < 0
  · rw [show (if B < 0 then ((0 : Int), (6 : Int)) else (B, 0)) = (0, 6) from if_pos c]; exact Ev.pos c (Ev.const rfl)
  · rw [show (if B < 0 then ((0 : Int), (6 : Int)) else (B, 0)) = (B, 0) from if_neg c]; exact Ev.neg c (Ev.const rfl)
theorem PK.least (k : PK W H Gr E S p rb) (hs : okS W H s) : ∃ v : Int, v ≤ s.Reach ∧ Ev (fun f => impl_LeastReach.f f p s.At (sumL p (RS W H rb s))) (v, 0) := by
  obtain ⟨sx, sy, hx, hy, e, r0, r1, e2⟩ := hs.eq (rb := rb)
  have hAt : s.At = sp sx sy := by rw [e]
  obtain ⟨m, hm⟩ := Int.eq_ofNat_of_zero_le r0
  have key : ∀ d y : Nat, y + d = m → ∃ v : Int, v ≤ s.Reach ∧ Ev (fun f => impl_LeastReach.l1 p s.At (sumL p (RS W H rb s)) f (y : Int)) (.inl (v, 0)) := by
    intro d
    have stp : ∀ y : Nat, y ≤ m → ∃ u : Int, Ev (fun f => impl_Pasture_reach.f f p (⟨s.At, IntKind.i16.wrap (y : Int)⟩ : Stake)) (rL W H rb sx sy (y : Int)) ∧ Ev (fun f => impl_Pasture_sumOf.f f p (rL W H rb sx sy (y : Int))) u ∧ (y = m → u = sumL p (RS W H rb s)) := fun y hym => by
      have hr := reachI_ev k.h k.hG k.hW k.hH k.hr hx hy (r := (y : Int)) (by omega) (by omega)
      have ew : IntKind.i16.wrap (y : Int) = (y : Int) := w16 (by omega) (by omega)
      rw [ew, hAt]
      refine ⟨_, hr, (k.sum (qR rb sx sy (y : Int))).1, fun z => ?_⟩
      subst z
      unfold RS
      rw [e2, hm]
    induction d with
    | zero =>
      intro y hym
      obtain ⟨u, u1, u2, u3⟩ := stp y (by omega)
      exact ⟨(y : Int), by omega, Ev.step (fun k => impl_LeastReach.l1.eq_2 _ _ _ _ _) (Ev.pos (by omega) (u1.bind (u2.bind (Ev.pos (by rw [u3 (by omega)]; exact Int.le_refl _) (Ev.const rfl)))))⟩
    | succ d ih =>
      intro y hym
      obtain ⟨u, u1, u2, u3⟩ := stp y (by omega)
      by_cases c : sumL p (RS W H rb s) ≤ u
      · exact ⟨(y : Int), by omega, Ev.step (fun k => impl_LeastReach.l1.eq_2 _ _ _ _ _) (Ev.pos (by omega) (u1.bind (u2.bind (Ev.pos c (Ev.const rfl)))))⟩
      · obtain ⟨v, v1, v2⟩ := ih (y + 1) (by omega)
        have ew : IntKind.i64.wrap ((y : Int) + 1) = ((y + 1 : Nat) : Int) := by rw [w64 (by omega) (by omega)]; omega
        rw [← ew] at v2
        exact ⟨v, v1, Ev.step (fun k => impl_LeastReach.l1.eq_2 _ _ _ _ _) (Ev.pos (by omega) (u1.bind (u2.bind (Ev.neg c v2))))⟩
  obtain ⟨v, v1, v2⟩ := key m 0 (by omega)
  have hsum := (k.sum (qS rb s)).2.1
  have hsum : 0 ≤ sumL p (RS W H rb s) := hsum
  have hun : impl_unless.f (decide (0 ≤ sumL p (RS W H rb s))) 2 = some 0 := by rw [decide_eq_true hsum]; exact unless_eq _ _
  refine ⟨v, v1, (cells_code k.v k.p_ok (xs := [s.At]) (by simp) fun c hc => ?_).bind (Ev.bind (Ev.const hun) (firstOf0.bind (Ev.neg (by simp) (v2.bind (Ev.const rfl)))))⟩
  rw [List.mem_singleton.1 hc, hAt]
  exact ⟨sx, sy, by rw [k.h.w]; omega, by rw [k.h.h]; omega, rfl⟩
end Go.Proofs.YtklgpejnogkccaaGreatDoor
/-
  Plain law: the law's loops over stakes.
-/
namespace Go.Proofs.YtklgpejnogkccaaGreatDoor
open G
set_option linter.unusedVariables false
set_option linter.unusedSimpArgs false
variable {W H : Nat} {p q : Pasture} {Gr : Nat → Nat → Int} {E S : Nat → Nat → Bool} {y x b a sx sy : Nat} {r : Int} {rb : Nat → Nat → Nat → Nat → Bool} {s t : Stake} {l : List Stake}
theorem sameSpots_ev {Y : List Spot} (hl : Y.length ≤ 1000) : Ev (fun k => spec_SameSpots.f k Y Y) true := by
  have key : ∀ i, i ≤ Y.length → Ev (fun k => spec_SameSpots.l1 Y Y k (i : Int)) (.inr ()) := by
    refine upL ?_ ?_
    · exact Ev.step (fun k => spec_SameSpots.l1.eq_2 _ _ _ _) (Ev.neg (by omega) (Ev.const rfl))
    · intro i hi ih
      rw [← wsucc hi (by omega)] at ih
      exact Ev.step (fun k => spec_SameSpots.l1.eq_2 _ _ _ _) (Ev.pos (by omega) (Ev.bind (Ev.const (getI_nat hi)) (Ev.bind (Ev.const (getI_nat hi)) (Ev.neg (by simp) ih))))
  exact Ev.neg (by simp) ((key 0 (Nat.zero_le _)).bind (Ev.const rfl))
theorem hasSpotB {xs : List Spot} {c : Spot} (hl : xs.length ≤ 1000) : Ev (fun k => spec_HasSpot.f k xs c) (decide (c ∈ xs)) := by
  have key : ∀ i, i ≤ xs.length → ∃ r : Bool ⊕ Unit, Ev (fun k => spec_HasSpot.l1 xs c k (i : Int)) r ∧ ((c ∈ xs.drop i ∧ r = .inl true) ∨ (c ∉ xs.drop i ∧ r = .inr ())) := by
    refine upL ?_ ?_
    · exact ⟨.inr (), Ev.step (fun k => spec_HasSpot.l1.eq_2 _ _ _ _) (Ev.neg (by omega) (Ev.const rfl)), .inr ⟨by rw [List.drop_length]; simp, rfl⟩⟩
    · intro i hi ih
      obtain ⟨r, r1, r2⟩ := ih
      rw [← wsucc hi (by omega)] at r1
      rw [List.drop_eq_getElem_cons hi]
      by_cases e : xs[i] = c
      · exact ⟨.inl true, Ev.step (fun k => spec_HasSpot.l1.eq_2 _ _ _ _) (Ev.pos (by omega) (Ev.bind (Ev.const (getI_nat hi)) (Ev.pos e (Ev.const rfl)))), .inl ⟨by rw [e]; exact List.mem_cons_self .., rfl⟩⟩
      · refine ⟨r, Ev.step (fun k => spec_HasSpot.l1.eq_2 _ _ _ _) (Ev.pos (by omega) (Ev.bind (Ev.const (getI_nat hi)) (Ev.neg e r1))), ?_⟩
        rcases r2 with ⟨h1, h2⟩ | ⟨h1, h2⟩
        · exact .inl ⟨List.mem_cons_of_mem _ h1, h2⟩
        · exact .inr ⟨fun hm => (List.mem_cons.1 hm).elim (fun z => e z.symm) h1, h2⟩
  obtain ⟨r, r1, r2⟩ := key 0 (Nat.zero_le _)
  rw [List.drop_zero] at r2
  rcases r2 with ⟨h1, rfl⟩ | ⟨h1, rfl⟩
  · rw [decide_eq_true h1]; exact r1.bind (Ev.const rfl)
  · rw [decide_eq_false h1]; exact r1.bind (Ev.const rfl)
theorem hasPairB {xs : List (Arr 2 Int)} {c : Arr 2 Int} (hl : xs.length ≤ 1000) : Ev (fun k => spec_HasPair.f k xs c) (decide (c ∈ xs)) := by
  have key : ∀ i, i ≤ xs.length → ∃ r : Bool ⊕ Unit, Ev (fun k => spec_HasPair.l1 xs c k (i : Int)) r ∧ ((c ∈ xs.drop i ∧ r = .inl true) ∨ (c ∉ xs.drop i ∧ r = .inr ())) := by
    refine upL ?_ ?_
    · exact ⟨.inr (), Ev.step (fun k => spec_HasPair.l1.eq_2 _ _ _ _) (Ev.neg (by omega) (Ev.const rfl)), .inr ⟨by rw [List.drop_length]; simp, rfl⟩⟩
    · intro i hi ih
      obtain ⟨r, r1, r2⟩ := ih
      rw [← wsucc hi (by omega)] at r1
      rw [List.drop_eq_getElem_cons hi]
      by_cases e : xs[i] = c
      · exact ⟨.inl true, Ev.step (fun k => spec_HasPair.l1.eq_2 _ _ _ _) (Ev.pos (by omega) (Ev.bind (Ev.const (getI_nat hi)) (Ev.pos e (Ev.const rfl)))), .inl ⟨by rw [e]; exact List.mem_cons_self .., rfl⟩⟩
      · refine ⟨r, Ev.step (fun k => spec_HasPair.l1.eq_2 _ _ _ _) (Ev.pos (by omega) (Ev.bind (Ev.const (getI_nat hi)) (Ev.neg e r1))), ?_⟩
        rcases r2 with ⟨h1, h2⟩ | ⟨h1, h2⟩
        · exact .inl ⟨List.mem_cons_of_mem _ h1, h2⟩
        · exact .inr ⟨fun hm => (List.mem_cons.1 hm).elim (fun z => e z.symm) h1, h2⟩
  obtain ⟨r, r1, r2⟩ := key 0 (Nat.zero_le _)
  rw [List.drop_zero] at r2
  rcases r2 with ⟨h1, rfl⟩ | ⟨h1, rfl⟩
  · rw [decide_eq_true h1]; exact r1.bind (Ev.const rfl)
  · rw [decide_eq_false h1]; exact r1.bind (Ev.const rfl)
theorem PK.sameYard (k : PK W H Gr E S p rb) (hx : sx < W) (hy : sy < H) (hx' : x < W) (hy' : y < H) (h : rb sy sx y x = true) : Ev (fun f => spec_SameYard.f f p (sp sx sy) (sp x y)) (true, 0) := by
  have hW := k.hW
  have hH := k.hH
  obtain ⟨m, n, _, e2, hm, hrt⟩ := far_rt k.h k.hG k.hW k.hH hx hy
  have h0 := (hrt y x hy' hx').2 ((k.hr sy sx y x).1 h)
  have h1 := hm y x (by omega) (by omega)
  have hAsk : Ev (fun f => spec_l01Asked.f f p (sp sx sy) true) 0 := by
    refine (specOk_ev k.v).bind ?_
    rw [k.p_ok]
    exact Ev.neg (by simp) (Ev.bind (Ev.const (k.is_ hx hy).1) (Ev.neg (by simp) (Ev.neg (by simp) (Ev.const rfl))))
  have g1 := getR n (show y < 10 by omega)
  have g2' : getI (gR n y).l (x : Int) = some (g2 n y x) := getA _ (show x < 10 by omega)
  refine Ev.bind (Ev.const (k.is_ hx' hy').1) (hAsk.bind (Ev.neg (by simp) (e2.bind (Ev.bind (Ev.const g1) (Ev.bind (Ev.const g2') (Ev.const ?_))))))
  rw [decide_eq_true (by omega)]
theorem PK.law2 (k : PK W H Gr E S p rb) (h : SV W H l) {i : Nat} (hi : i < l.length) : ∀ j, j ≤ (RS W H rb l[i]).length → Ev (fun f => laws_FnStakes.l2 p l (unL W H rb l, 0) (i : Int) (RS W H rb l[i], 0) f (j : Int)) (.inr ()) := by
  have hlen := h.len
  have hl := k.RS_len (qS rb l[i])
  have hul := k.RS_len (fun y x => decide (num rb l y x = 0))
  have hW := k.hW
  have hH := k.hH
  obtain ⟨sx, sy, hx, hy, e, r0, r1, eq⟩ := (h.ok _ (List.getElem_mem hi)).eq (rb := rb)
  have hAt : l[i].At = sp sx sy := by rw [e]
  have gi := getI_nat hi
  unfold RS
  refine upL ?_ ?_
  · exact Ev.step (fun k => laws_FnStakes.l2.eq_2 _ _ _ _ _ _ _) (Ev.neg (Int.lt_irrefl _) (Ev.const rfl))
  · intro j hj ih
    rw [← wsucc hj (by omega)] at ih
    obtain ⟨x, y, hx', hy', e2, hq⟩ := (k.RS_in _).1 (List.getElem_mem hj)
    have gj : getI ((gridF (qS rb l[i]) W 0 H, (0 : Int)) : List Spot × Int).1 (j : Int) = some (sp x y) := (getI_nat hj).trans (congrArg some e2)
    have hq' := hq
    rw [eq] at hq'
    unfold qR at hq'
    rw [Bool.and_eq_true, decide_eq_true_eq] at hq'
    have sy1 := k.sameYard hx hy hx' hy' hq'.1
    rw [← hAt] at sy1
    have hs := sqImpl (sx := sx) (sy := sy) (x := x) (y := y) (by omega) (by omega) (by omega) (by omega)
    rw [← hAt] at hs
    have hns : sp x y ∉ unL W H rb l := fun z => by
      have z := (k.RS_sp _ hx' hy').1 z
      rw [decide_eq_true_eq] at z
      have : 0 < num rb l y x := List.countP_pos_iff.2 ⟨l[i], List.getElem_mem hi, hq⟩
      omega
    have hhs := hasSpotB (xs := unL W H rb l) (c := sp x y) (by unfold unL; omega)
    rw [decide_eq_false hns] at hhs
    exact Ev.step (fun k => laws_FnStakes.l2.eq_2 _ _ _ _ _ _ _) (Ev.pos (Int.ofNat_lt.2 hj) (Ev.bind (Ev.const gi) (Ev.bind (Ev.const gj) (sy1.bind (Ev.neg (by simp) (Ev.neg (by simp) (Ev.bind (Ev.const gi) (Ev.bind (Ev.const gj) (Ev.bind (Ev.const gi) (Ev.bind (Ev.const hs) (Ev.neg (by rw [w64 (x := l[i].Reach) (by omega) (by omega)]; omega) (Ev.bind (Ev.const gj) (hhs.bind (Ev.neg (by simp) ih))))))))))))))
theorem PK.law3 (k : PK W H Gr E S p rb) (h : SV W H l) {P : List (Arr 2 Int)} (hPl : P.length ≤ 1000) (hP : ∀ z, z ∈ P ↔ ∃ (i j : Nat) (hi : i < l.length) (hj : j < l.length), i < j ∧ z = pr i j ∧ 0 < (cL W H (qS rb l[i]) (qS rb l[j])).length) {i : Nat} (hi : i < l.length) : ∀ j, j ≤ l.length → i < j → Ev (fun f => laws_FnStakes.l3 p l (P, 0) (i : Int) f (j : Int)) (.inr ()) := by
  have hlen := h.len
  have gi := getI_nat hi
  refine upL ?_ ?_
  · intro _
    exact Ev.step (fun k => laws_FnStakes.l3.eq_2 _ _ _ _ _ _) (Ev.neg (by omega) (Ev.const rfl))
  · intro j hj ih hij
    have ih := ih (by omega)
    rw [← wsucc (n := l.length) hj (by omega)] at ih
    obtain ⟨c1, c2⟩ := k.commonOf (h.ok _ (List.getElem_mem hi)) (h.ok _ (List.getElem_mem hj))
    have hcl := k.RS_len (fun y x => qS rb l[i] y x && qS rb l[j] y x)
    have hpair := hasPairB (xs := P) (c := pr i j) hPl
    have e : decide (pr i j ∈ P) = decide (0 < ((cL W H (qS rb l[i]) (qS rb l[j])).length : Int)) := decide_eq_decide.2 (by
      rw [hP]
      constructor
      · rintro ⟨i', j', hi', hj', _, h2, h3⟩
        obtain ⟨rfl, rfl⟩ := pr_inj h2
        omega
      · intro z
        exact ⟨i, j, hi, hj, hij, rfl, by omega⟩)
    rw [e] at hpair
    have hpair : Ev (fun f => spec_HasPair.f f P (⟨[(i : Int), (j : Int)], rfl⟩ : Arr 2 Int)) (decide (0 < ((cL W H (qS rb l[i]) (qS rb l[j])).length : Int))) := hpair
    exact Ev.step (fun k => laws_FnStakes.l3.eq_2 _ _ _ _ _ _) (Ev.pos (by omega) (Ev.bind (Ev.const gi) (Ev.bind (Ev.const (getI_nat hj)) (c1.bind (Ev.bind (Ev.const gi) (Ev.bind (Ev.const (getI_nat hj)) (c2.bind (Ev.neg (by simp) (Ev.neg (by simp) ((sameSpots_ev (Y := cL W H (qS rb l[i]) (qS rb l[j])) (by unfold cL; omega)).bind (Ev.neg (by simp) (hpair.bind (Ev.neg (by simp) ih)))))))))))))
/-- A stake like one of the list's, with another reach. -/
theorem SV.other_reach (h : SV W H l) {i : Nat} (hi : i < l.length) {v : Int} (v0 : 0 ≤ v) (v1 : v ≤ 200) : okS W H (⟨l[i].At, v⟩ : Stake) := by
  obtain ⟨sx, sy, hx, hy, e, _⟩ := h.ok _ (List.getElem_mem hi)
  exact ⟨sx, sy, hx, hy, e, v0, v1⟩
theorem PK.law4 (k : PK W H Gr E S p rb) (h : SV W H l) {i : Nat} (hi : i < l.length) (hAt : l[i].At = sp sx sy) {B : Int} (B0 : -1 ≤ B) (hB : Lst (hitAll W H rb sx sy l i) sx sy 200 B) : ∀ j, j ≤ l.length → Ev (fun f => laws_FnStakes.l4 p l (i : Int) (if B < 0 then (0, 6) else (B, 0)) (if B < 0 then (0, 6) else (B, 0)) f (j : Int)) (.inr ()) := by
  have hlen := h.len
  have gi := getI_nat hi
  have hle := hB.le
  refine upL ?_ ?_
  · exact Ev.step (fun k => laws_FnStakes.l4.eq_2 _ _ _ _ _ _ _) (Ev.neg (by omega) (Ev.const rfl))
  · intro j hj ih
    rw [← wsucc (n := l.length) hj (by omega)] at ih
    by_cases c : j = i
    · exact Ev.step (fun k => laws_FnStakes.l4.eq_2 _ _ _ _ _ _ _) (Ev.pos (by omega) (Ev.bind (a := true) (Ev.pos (by omega) (Ev.const rfl)) (Ev.pos rfl ih)))
    · by_cases c2 : B < 0
      · rw [if_pos c2] at ih ⊢
        exact Ev.step (fun k => laws_FnStakes.l4.eq_2 _ _ _ _ _ _ _) (Ev.pos (by omega) (Ev.bind (a := true) (Ev.neg (by omega) (Ev.const (by simp))) (Ev.pos rfl ih)))
      · rw [if_neg c2] at ih ⊢
        have hs := h.other_reach hi (v := B) (by omega) (by omega)
        obtain ⟨c1, _⟩ := k.commonOf hs (h.ok _ (List.getElem_mem hj))
        have ew : IntKind.i16.wrap B = B := w16 (by omega) (by omega)
        have hz : ¬ 0 < ((cL W H (qS rb (⟨l[i].At, B⟩ : Stake)) (qS rb l[j])).length : Int) := fun z => by
          obtain ⟨x, y, hx', hy', q1, q2⟩ := (k.cL_pos _ _).1 (Int.ofNat_lt.1 z)
          unfold qS at q1
          rw [hAt] at q1
          have q1 : qR rb sx sy B y x = true := by
            have e1 : (sp sx sy).X.toNat = sx := by unfold sp; simp
            have e2 : (sp sx sy).Y.toNat = sy := by unfold sp; simp
            rw [e1, e2] at q1; exact q1
          unfold qR at q1
          rw [Bool.and_eq_true, decide_eq_true_eq] at q1
          have := hB.all y x ⟨hx', hy', q1.1, j, hj, c, q2⟩
          omega
        refine Ev.step (fun k => laws_FnStakes.l4.eq_2 _ _ _ _ _ _ _) (Ev.pos (by omega) (Ev.bind (a := false) (Ev.neg (by omega) (Ev.const (by simp))) (Ev.neg (by simp) (Ev.bind (Ev.const gi) (Ev.bind (Ev.const (getI_nat hj)) (Ev.bind (a := (cL W H (qS rb (⟨l[i].At, B⟩ : Stake)) (qS rb l[j]), (0 : Int))) ?_ (Ev.neg (by simp) (Ev.neg hz ih))))))))
        show Ev (fun f => impl_CommonOf.f f p (⟨l[i].At, IntKind.i16.wrap B⟩ : Stake) l[j]) _
        rw [ew]; exact c1
theorem PK.law5 (k : PK W H Gr E S p rb) (h : SV W H l) {i : Nat} (hi : i < l.length) (hAt : l[i].At = sp sx sy) {B : Int} (B0 : 0 ≤ B) (B1 : B < 200) (hB : Lst (hitAll W H rb sx sy l i) sx sy 200 B) : Ev (fun f => laws_FnStakes.l5 p l (i : Int) (B, 0) f false 0) true := by
  have hlen := h.len
  have gi := getI_nat hi
  have e1 : (sp sx sy).X.toNat = sx := by unfold sp; simp
  have e2 : (sp sx sy).Y.toNat = sy := by unfold sp; simp
  obtain ⟨y, x, ⟨hx', hy', hq, j0, hj0, hne, hq2⟩, hBe⟩ := hB.one.resolve_left (by omega)
  have hs := h.other_reach hi (v := B + 1) (by omega) (by omega)
  have ew : IntKind.i16.wrap (IntKind.i16.wrap B + 1) = B + 1 := by rw [w16 (x := B) (by omega) (by omega), w16 (by omega) (by omega)]
  have co : ∀ j (hj : j < l.length), Ev (fun f => spec_CommonOf.f f p (⟨l[i].At, IntKind.i16.wrap (IntKind.i16.wrap B + 1)⟩ : Stake) l[j]) (cL W H (qS rb (⟨l[i].At, B + 1⟩ : Stake)) (qS rb l[j]), 0) := fun j hj => by
    rw [ew]; exact (k.commonOf hs (h.ok _ (List.getElem_mem hj))).2
  have hit : 0 < ((cL W H (qS rb (⟨l[i].At, B + 1⟩ : Stake)) (qS rb l[j0])).length : Int) := by
    have := (k.cL_pos (qS rb (⟨l[i].At, B + 1⟩ : Stake)) (qS rb l[j0])).2 ⟨x, y, hx', hy', by
      unfold qS
      rw [hAt, e1, e2]
      unfold qR
      rw [hq, Bool.true_and, decide_eq_true_eq]
      show sqI sx sy x y ≤ B + 1
      omega, hq2⟩
    exact Int.ofNat_lt.2 this
  have key : ∀ j, j ≤ l.length → ∀ v : Bool, (v = true ∨ j ≤ j0) → Ev (fun f => laws_FnStakes.l5 p l (i : Int) (B, 0) f v (j : Int)) true := by
    refine upL ?_ ?_
    · intro v hv
      rcases hv with rfl | hv
      · exact Ev.step (fun k => laws_FnStakes.l5.eq_2 _ _ _ _ _ _ _) (Ev.neg (by omega) (Ev.const rfl))
      · omega
    · intro j hj ih v hv
      have st : ∀ {v r : Bool}, Ev (fun f => if v = true then laws_FnStakes.l5 p l (i : Int) (B, 0) f true (IntKind.i64.wrap ((j : Int) + 1)) else (if (j : Int) ≠ (i : Int) then (if (((cL W H (qS rb (⟨l[i].At, B + 1⟩ : Stake)) (qS rb l[j])), (0 : Int)) : List Spot × Int).2 = 0 then laws_FnStakes.l5 p l (i : Int) (B, 0) f (decide (0 < ((cL W H (qS rb (⟨l[i].At, B + 1⟩ : Stake)) (qS rb l[j])).length : Int))) (IntKind.i64.wrap ((j : Int) + 1)) else laws_FnStakes.l5 p l (i : Int) (B, 0) f false (IntKind.i64.wrap ((j : Int) + 1))) else laws_FnStakes.l5 p l (i : Int) (B, 0) f false (IntKind.i64.wrap ((j : Int) + 1)))) r → Ev (fun f => laws_FnStakes.l5 p l (i : Int) (B, 0) f v (j : Int)) r := fun {v r} hh => Ev.step (fun k => laws_FnStakes.l5.eq_2 _ _ _ _ _ _ _) (Ev.pos (by omega) (Ev.bind (Ev.const gi) (Ev.bind (Ev.const (getI_nat hj)) ((co j hj).bind hh))))
      have ew1 : IntKind.i64.wrap ((j : Int) + 1) = ((j + 1 : Nat) : Int) := wsucc (n := l.length) hj (by omega)
      refine st ?_
      rw [ew1]
      cases v
      · have hj0' : j ≤ j0 := hv.resolve_left (by simp)
        refine Ev.neg (by simp) ?_
        by_cases c : j = i
        · exact Ev.neg (by omega) (ih false (.inr (by omega)))
        · refine Ev.pos (by omega) (Ev.pos rfl (ih _ ?_))
          by_cases z : j = j0
          · subst z
            exact .inl (decide_eq_true hit)
          · exact .inr (by omega)
      · exact Ev.pos rfl (ih true (.inl rfl))
  exact key 0 (Nat.zero_le _) false (.inr (Nat.zero_le _))
/-- With a greater reach there are no fewer cells. -/
theorem PK.wider (k : PK W H Gr E S p rb) {q q' : Nat → Nat → Bool} (h : ∀ y x, q y x = true → q' y x = true) : (gridF q W 0 H).length ≤ (gridF q' W 0 H).length := by
  have row : ∀ (f g : Nat → Bool) (y : Nat), (∀ x, f x = true → g x = true) → ∀ n x, (rowF f y x n).length ≤ (rowF g y x n).length := fun f g y hfg n => by
    induction n with
    | zero => intro x; exact Nat.le_refl _
    | succ n ih =>
      intro x
      rw [rowF, rowF, List.length_append, List.length_append]
      have := ih (x + 1)
      cases c : f x
      · rw [if_neg (by simp)]; simp; omega
      · rw [if_pos rfl, if_pos (hfg x c)]; simp; omega
  have grid : ∀ n y, (gridF q W y n).length ≤ (gridF q' W y n).length := fun n => by
    induction n with
    | zero => intro y; exact Nat.le_refl _
    | succ n ih =>
      intro y
      rw [gridF, gridF, List.length_append, List.length_append]
      have h1 := row (q y) (q' y) y (h y) W 0
      have h2 := ih (y + 1)
      omega
  exact grid H 0
end Go.Proofs.YtklgpejnogkccaaGreatDoor
/-
  Plain law: the law's loop over stakes; how many cells there are.
-/
namespace Go.Proofs.YtklgpejnogkccaaGreatDoor
open G
set_option linter.unusedVariables false
set_option linter.unusedSimpArgs false
variable {W H : Nat} {p q : Pasture} {Gr : Nat → Nat → Int} {E S : Nat → Nat → Bool} {y x b a sx sy : Nat} {r : Int} {rb : Nat → Nat → Nat → Nat → Bool} {s t : Stake} {l : List Stake}
def sumR (W H : Nat) (rb : Nat → Nat → Nat → Nat → Bool) : List Stake → Nat
  | [] => 0
  | s :: l => (RS W H rb s).length + sumR W H rb l
theorem PK.law1 (k : PK W H Gr E S p rb) (h : SV W H l) (h6 : ∀ s ∈ l, s.Reach ≤ 6) {P : List (Arr 2 Int)} (hPl : P.length ≤ 1000) (hP : ∀ z, z ∈ P ↔ ∃ (i j : Nat) (hi : i < l.length) (hj : j < l.length), i < j ∧ z = pr i j ∧ 0 < (cL W H (qS rb l[i]) (qS rb l[j])).length) : ∀ i, i ≤ l.length → ∀ c : Nat, c ≤ 100 * i → Ev (fun f => laws_FnStakes.l1 p l (P, 0) (unL W H rb l, 0) f (c : Int) (i : Int)) (.inr ((c + sumR W H rb (l.drop i) : Nat) : Int)) := by
  have hlen := h.len
  refine upL ?_ ?_
  · intro c _
    exact Ev.step (fun k => laws_FnStakes.l1.eq_2 _ _ _ _ _ _ _) (Ev.neg (by omega) (Ev.const (by rw [List.drop_length]; rfl)))
  · intro i hi ih c hc
    have hm := List.getElem_mem hi
    have hok := h.ok _ hm
    have gi := getI_nat hi
    have hl := k.RS_len (qS rb l[i])
    have hl' : (RS W H rb l[i]).length ≤ 100 := hl
    obtain ⟨sx, sy, hx, hy, e, r0, r1, eq⟩ := hok.eq (rb := rb)
    have hAt : l[i].At = sp sx sy := by rw [e]
    have h6i := h6 _ hm
    obtain ⟨ro1, ro2⟩ := k.reachOf hok
    have fo := k.food hok
    have gs := k.grassS (qS rb l[i])
    have hwd := h.other_reach hi (v := l[i].Reach + 1) (by omega) (by omega)
    obtain ⟨rw1, _⟩ := k.reachOf hwd
    have ew : IntKind.i16.wrap (l[i].Reach + 1) = l[i].Reach + 1 := w16 (by omega) (by omega)
    have hle : (RS W H rb l[i]).length ≤ (RS W H rb (⟨l[i].At, l[i].Reach + 1⟩ : Stake)).length := k.wider fun y x hq => by
      unfold qS qR at hq ⊢
      rw [Bool.and_eq_true, decide_eq_true_eq] at hq ⊢
      refine ⟨hq.1, ?_⟩
      show sqI l[i].At.X.toNat l[i].At.Y.toNat x y ≤ l[i].Reach + 1
      omega
    have hmem : sp sx sy ∈ RS W H rb l[i] := (k.RS_sp _ hx hy).2 (by
      rw [eq]
      unfold qR
      rw [(k.hr sy sx sy sx).2 Rt.refl, Bool.true_and, decide_eq_true_eq, sq_self]
      exact r0)
    have hs1 := hasSpotB (xs := RS W H rb l[i]) (c := l[i].At) (by omega)
    rw [hAt, decide_eq_true hmem, ← hAt] at hs1
    have l2 := k.law2 h hi 0 (Nat.zero_le _)
    have l3 := k.law3 h hPl hP hi (i + 1) (by omega) (by omega)
    have e1 : IntKind.i64.wrap ((i : Int) + 1) = ((i + 1 : Nat) : Int) := wsucc hi (by omega)
    rw [← e1] at l3
    obtain ⟨B, B0, B1, B2⟩ := k.greatI h hi hx hy hAt
    obtain ⟨B', _, B1', B2'⟩ := k.greatS h hi hx hy hAt
    obtain rfl := B1.uniq B1' (fun _ _ => Iff.rfl)
    have l4 := k.law4 h hi hAt B0 B1 0 (Nat.zero_le _)
    obtain ⟨v, v1, v2⟩ := k.least hok
    have ih := ih (c + (RS W H rb l[i]).length) (by omega)
    rw [← wsucc hi (by omega)] at ih
    have ec : IntKind.i64.wrap ((c : Int) + ((RS W H rb l[i]).length : Int)) = ((c + (RS W H rb l[i]).length : Nat) : Int) := by rw [w64 (by omega) (by omega)]; omega
    have esum : c + sumR W H rb (l.drop i) = c + (RS W H rb l[i]).length + sumR W H rb (l.drop (i + 1)) := by
      rw [List.drop_eq_getElem_cons hi, sumR]; omega
    rw [esum]
    refine Ev.step (fun k => laws_FnStakes.l1.eq_2 _ _ _ _ _ _ _) (Ev.pos (by omega) (Ev.bind (a := (Sum.inr ((c + (RS W H rb l[i]).length : Nat) : Int) : (Bool ⊕ Int) ⊕ Int)) ?_ ih))
    refine Ev.bind (Ev.const gi) (ro1.bind (Ev.bind (Ev.const gi) (ro2.bind (Ev.bind (Ev.const gi) (fo.bind (gs.bind (Ev.bind (Ev.const gi) (Ev.bind (Ev.const gi) (Ev.bind (a := (RS W H rb (⟨l[i].At, l[i].Reach + 1⟩ : Stake), (0 : Int))) ?_ (Ev.bind (a := false) ?_ (Ev.neg (by simp) ?_)))))))))))
    · show Ev (fun f => impl_ReachOf.f f p (⟨l[i].At, IntKind.i16.wrap (l[i].Reach + 1)⟩ : Stake)) _
      rw [ew]; exact rw1
    · exact Ev.neg (by simp) (Ev.neg (by simp) ((sameSpots_ev (Y := RS W H rb l[i]) (by omega)).bind (Ev.neg (by simp) (Ev.neg (by simp) (Ev.neg (by simp) (Ev.neg (by simp [RS]) (Ev.neg (by simp) (Ev.neg (by show ¬ ((RS W H rb (⟨l[i].At, l[i].Reach + 1⟩ : Stake)).length : Int) < ((RS W H rb l[i]).length : Int); omega) (Ev.bind (Ev.const gi) (hs1.bind (Ev.const rfl)))))))))))
    · refine l2.bind (l3.bind (B2.bind (B2'.bind (Ev.bind (a := false) ?_ (Ev.neg (by simp) (l4.bind (Ev.bind (a := (Sum.inr () : ((Bool ⊕ Int) ⊕ Int) ⊕ Unit)) ?_ ?_)))))))
      · refine Ev.neg (by simp) (Ev.neg (by simp) ?_)
        by_cases cB : B < 0
        · rw [if_pos cB]
          exact Ev.pos (by simp) (Ev.const (by simp))
        · rw [if_neg cB]
          exact Ev.neg (by simp) (Ev.const rfl)
      · by_cases cB : B < 0
        · rw [if_pos cB]
          exact Ev.bind (a := false) (Ev.neg (by simp) (Ev.const rfl)) (Ev.neg (by simp) (Ev.const rfl))
        · rw [if_neg cB]
          by_cases c2 : B < 200
          · have l5 := k.law5 h hi hAt (by omega) c2 B1
            exact Ev.bind (a := true) (Ev.pos rfl (Ev.const (by rw [decide_eq_true c2]))) (Ev.pos rfl (l5.bind (Ev.neg (by simp) (Ev.const rfl))))
          · exact Ev.bind (a := false) (Ev.pos rfl (Ev.const (by rw [decide_eq_false c2]))) (Ev.neg (by simp) (Ev.const rfl))
      · have er : IntKind.i64.wrap l[i].Reach = l[i].Reach := w64 (by omega) (by omega)
        refine Ev.bind (Ev.const gi) (v2.bind (Ev.neg (by simp) (Ev.bind (Ev.const gi) (Ev.neg (by rw [er]; show ¬ l[i].Reach < v; omega) (Ev.const ?_)))))
        show some (Sum.inr (IntKind.i64.wrap ((c : Int) + ((RS W H rb l[i]).length : Int)))) = _
        rw [ec]
/-! ### How many cells -/
theorem rowF_tot (q : Nat → Bool) (y : Nat) : ∀ n x, ((rowF q y x n).length : Int) = sumTo (fun i => if q (x + i) = true then 1 else 0) n
  | 0, x => rfl
  | n + 1, x => by
    have e : sumTo (fun i => if q (x + (i + 1)) = true then (1 : Int) else 0) n = sumTo (fun i => if q (x + 1 + i) = true then (1 : Int) else 0) n := sumTo_congr n fun i _ => by rw [show x + (i + 1) = x + 1 + i by omega]
    rw [sumTo_succ', e, rowF, List.length_append, Int.natCast_add, rowF_tot q y n (x + 1), Nat.add_zero]
    congr 1
    cases q x <;> rfl
theorem gridF_tot (q : Nat → Nat → Bool) (W : Nat) : ∀ n y, ((gridF q W y n).length : Int) = sumTo (fun i => sumTo (fun j => if q (y + i) j = true then 1 else 0) W) n
  | 0, y => rfl
  | n + 1, y => by
    have e : sumTo (fun i => sumTo (fun j => if q (y + (i + 1)) j = true then (1 : Int) else 0) W) n = sumTo (fun i => sumTo (fun j => if q (y + 1 + i) j = true then (1 : Int) else 0) W) n := sumTo_congr n fun i _ => sumTo_congr W fun j _ => by rw [show y + (i + 1) = y + 1 + i by omega]
    have e2 : sumTo (fun i => if q y (0 + i) = true then (1 : Int) else 0) W = sumTo (fun j => if q (y + 0) j = true then (1 : Int) else 0) W := sumTo_congr W fun j _ => by rw [Nat.zero_add, Nat.add_zero]
    rw [sumTo_succ', e, gridF, List.length_append, Int.natCast_add, gridF_tot q W n (y + 1), rowF_tot, e2]
theorem grid_tot (q : Nat → Nat → Bool) : ((gridF q W 0 H).length : Int) = tot W H fun y x => if q y x = true then 1 else 0 := by
  rw [gridF_tot]
  exact sumTo_congr H fun y _ => sumTo_congr W fun x _ => by rw [Nat.zero_add]
theorem sumR_tot : ∀ l : List Stake, ((sumR W H rb l : Nat) : Int) = tot W H fun y x => (num rb l y x : Int)
  | [] => by
    have : tot W H (fun y x => (num rb [] y x : Int)) = 0 := sumTo_nil H fun y _ => sumTo_nil W fun x _ => rfl
    rw [this]; rfl
  | s :: l => by
    have e : tot W H (fun y x => (num rb (s :: l) y x : Int)) = tot W H (fun y x => (if qS rb s y x = true then 1 else 0) + (num rb l y x : Int)) := tot_congr fun y x _ _ => by
      unfold num
      rw [List.countP_cons]
      split <;> (push_cast; omega)
    rw [e, tot_add, ← sumR_tot l, sumR, Int.natCast_add]
    congr 1
    exact grid_tot (qS rb s)
theorem tot_one : tot W H (fun _ _ => (1 : Int)) = (W : Int) * H := by
  have e : tot W H (fun _ _ => (1 : Int)) = sumTo (fun _ => (W : Int)) H := sumTo_congr H fun y _ => by rw [sumTo_one]; omega
  rw [e, sumTo_one, Int.mul_comm]
/-- Where none is shared, each cell is counted once. -/
theorem PK.whole (k : PK W H Gr E S p rb) (h0 : shL W H rb l = []) : ((sumR W H rb l : Nat) : Int) + ((unL W H rb l).length : Int) = (W : Int) * H := by
  unfold unL
  rw [sumR_tot, grid_tot, ← tot_add, ← tot_one]
  refine tot_congr fun y x hx hy => ?_
  have hn : sp x y ∉ shL W H rb l := by rw [h0]; simp
  have hn : ¬ 2 ≤ num rb l y x := fun z => hn ((k.RS_sp _ hx hy).2 (decide_eq_true z))
  by_cases c : num rb l y x = 0
  · rw [if_pos (decide_eq_true c), c]; rfl
  · rw [if_neg (by simpa using c)]; omega
theorem two_count {α : Type} {f : α → Bool} : ∀ {l : List α}, 2 ≤ l.countP f ↔ ∃ (i j : Nat) (hi : i < l.length) (hj : j < l.length), i < j ∧ f l[i] = true ∧ f l[j] = true
  | [] => by
    constructor
    · intro h; simp at h
    · rintro ⟨i, j, hi, _⟩; simp at hi
  | s :: l => by
    rw [List.countP_cons]
    constructor
    · intro h
      cases c : f s
      · rw [c, if_neg (by simp), Nat.add_zero] at h
        obtain ⟨i, j, hi, hj, h1, h2, h3⟩ := two_count.1 h
        exact ⟨i + 1, j + 1, by simpa using hi, by simpa using hj, by omega, h2, h3⟩
      · rw [c, if_pos rfl] at h
        obtain ⟨t, ht, hf⟩ := List.countP_pos_iff.1 (show 0 < l.countP f by omega)
        obtain ⟨j, hj, rfl⟩ := List.mem_iff_getElem.1 ht
        exact ⟨0, j + 1, by simp, by simpa using hj, by omega, c, hf⟩
    · rintro ⟨i, j, hi, hj, h1, h2, h3⟩
      cases j with
      | zero => omega
      | succ j =>
        have hj' : j < l.length := by simpa using hj
        have h3 : f l[j] = true := h3
        cases i with
        | zero =>
          have h2 : f s = true := h2
          have : 0 < l.countP f := List.countP_pos_iff.2 ⟨_, List.getElem_mem hj', h3⟩
          rw [if_pos h2]; omega
        | succ i =>
          have hi' : i < l.length := by simpa using hi
          have := two_count.2 ⟨i, j, hi', hj', by omega, h2, h3⟩
          omega
/-- Pairs that meet are told where a cell is shared. -/
theorem PK.meet (k : PK W H Gr E S p rb) {P : List (Arr 2 Int)} (hP : ∀ z, z ∈ P ↔ ∃ (i j : Nat) (hi : i < l.length) (hj : j < l.length), i < j ∧ z = pr i j ∧ 0 < (cL W H (qS rb l[i]) (qS rb l[j])).length) : (0 < P.length ↔ 0 < (shL W H rb l).length) := by
  rw [List.length_pos_iff_exists_mem, List.length_pos_iff_exists_mem]
  constructor
  · rintro ⟨z, hz⟩
    obtain ⟨i, j, hi, hj, h1, _, h3⟩ := (hP z).1 hz
    obtain ⟨x, y, hx, hy, q1, q2⟩ := (k.cL_pos _ _).1 h3
    exact ⟨sp x y, (k.RS_sp _ hx hy).2 (decide_eq_true (two_count.2 ⟨i, j, hi, hj, h1, q1, q2⟩))⟩
  · rintro ⟨c, hc⟩
    obtain ⟨x, y, hx, hy, _, hq⟩ := (k.RS_in _).1 hc
    obtain ⟨i, j, hi, hj, h1, q1, q2⟩ := two_count.1 (of_decide_eq_true hq)
    exact ⟨pr i j, (hP _).2 ⟨i, j, hi, hj, h1, rfl, (k.cL_pos _ _).2 ⟨x, y, hx, hy, q1, q2⟩⟩⟩
end Go.Proofs.YtklgpejnogkccaaGreatDoor
/-
  Plain law: stakes are drawn; their text is read back.
-/
namespace Go.Proofs.YtklgpejnogkccaaGreatDoor
open G
set_option linter.unusedVariables false
set_option linter.unusedSimpArgs false
variable {W H : Nat} {p q : Pasture} {Gr : Nat → Nat → Int} {E S : Nat → Nat → Bool} {y x b a sx sy : Nat} {r : Int} {rb : Nat → Nat → Nat → Nat → Bool} {s t : Stake} {l : List Stake}
/-! ### Drawn -/
theorem drawn2_ev {l : List Stake} (hl : l.length ≤ 12) {x y : Nat} (hx : x < 10) (hy : y < 10) (t19 t20 : Int × l00Src) (e1 : t19.1 = (x : Int)) (e2 : t20.1 = (y : Int)) : Ev (fun k => spec_l05Drawn.l2 l t19 t20 k true 0) (l.all fun s => decide (s.At ≠ sp x y)) := by
  have ew : (⟨IntKind.i8.wrap t19.1, IntKind.i8.wrap t20.1⟩ : Spot) = sp x y := by rw [e1, e2, w8 (by omega) (by omega), w8 (by omega) (by omega)]; rfl
  have key : ∀ i, i ≤ l.length → ∀ v : Bool, Ev (fun k => spec_l05Drawn.l2 l t19 t20 k v (i : Int)) (v && (l.drop i).all fun s => decide (s.At ≠ sp x y)) := by
    refine upL ?_ ?_
    · intro v
      exact Ev.step (fun k => spec_l05Drawn.l2.eq_2 _ _ _ _ _ _) (Ev.neg (by omega) (Ev.const (by rw [List.drop_length]; simp)))
    · intro i hi ih v
      rw [List.drop_eq_getElem_cons hi, List.all_cons]
      cases v
      · have h1 := ih false
        rw [← wsucc hi (by omega), Bool.false_and] at h1
        rw [Bool.false_and]
        exact Ev.step (fun k => spec_l05Drawn.l2.eq_2 _ _ _ _ _ _) (Ev.pos (by omega) (Ev.neg (by simp) h1))
      · have h1 := ih (decide (l[i].At ≠ sp x y))
        rw [← wsucc hi (by omega)] at h1
        rw [Bool.true_and]
        refine Ev.step (fun k => spec_l05Drawn.l2.eq_2 _ _ _ _ _ _) (Ev.pos (by omega) (Ev.pos rfl (Ev.bind (Ev.const (getI_nat hi)) ?_)))
        rw [ew]; exact h1
  have := key 0 (Nat.zero_le _) true
  rw [List.drop_zero, Bool.true_and] at this
  exact this
theorem drawn5_loop {c : List Int} (hc : byteL c) (hW : p.Wide = (W : Int)) (hH : p.High = (H : Int)) (hW' : 1 ≤ W ∧ W ≤ 10) (hH' : 1 ≤ H ∧ H ≤ 10) {src : l00Src} (hs : src.code = c) : ∀ (n : Nat) (l : List Stake) (at_ seed : Int), n + l.length ≤ 10 → 0 ≤ at_ → at_ + 6 * (n : Int) ≤ 100000 → SV W H l → (∀ s ∈ l, s.Reach ≤ 6) →
    ∃ (l' : List Stake) (at' seed' : Int), Ev (fun k => spec_l05Drawn.l1 src p k l (n : Int) at_ seed) (l', at', seed') ∧ SV W H l' ∧ ∀ s ∈ l', s.Reach ≤ 6
  | 0, l, at_, seed, _, _, _, h, h6 => ⟨l, at_, seed, Ev.step (fun k => spec_l05Drawn.l1.eq_2 _ _ _ _ _ _ _) (Ev.neg (by omega) (Ev.const rfl)), h, h6⟩
  | n + 1, l, at_, seed, hn, h0, h1, h, h6 => by
    obtain ⟨vx, a1, s1, e1, x0, x1, q1, q1'⟩ := pick_ok hc (seed := seed) h0 (by push_cast at h1; omega) (W : Int)
    obtain ⟨vy, a2, s2, e2, y0, y1, q2, q2'⟩ := pick_ok hc (at_ := a1) (seed := s1) (by omega) (by push_cast at h1; omega) (H : Int)
    obtain ⟨vr, a3, s3, e3, r0, r1, q3, q3'⟩ := pick_ok hc (at_ := a2) (seed := s2) (by omega) (by push_cast at h1; omega) 7
    obtain ⟨X, rfl⟩ := Int.eq_ofNat_of_zero_le x0
    obtain ⟨Y, rfl⟩ := Int.eq_ofNat_of_zero_le y0
    have f1 : spec_l00Src_pick.f (⟨src.code, at_, seed⟩ : l00Src) (IntKind.i64.wrap p.Wide) = some ((X : Int), ⟨c, a1, s1⟩) := by rw [hs, hW, w64 (x := (W : Int)) (by omega) (by omega)]; exact e1
    have f2 : spec_l00Src_pick.f (⟨src.code, a1, s1⟩ : l00Src) (IntKind.i64.wrap p.High) = some ((Y : Int), ⟨c, a2, s2⟩) := by rw [hs, hH, w64 (x := (H : Int)) (by omega) (by omega)]; exact e2
    have f3 : spec_l00Src_pick.f (⟨src.code, a2, s2⟩ : l00Src) 7 = some (vr, ⟨c, a3, s3⟩) := by rw [hs]; exact e3
    have hlen := h.len
    have d := drawn2_ev (l := l) hlen (x := X) (y := Y) (by omega) (by omega) ((X : Int), ⟨c, a1, s1⟩) ((Y : Int), ⟨c, a2, s2⟩) rfl rfl
    have en : IntKind.i64.wrap (((n + 1 : Nat) : Int) - 1) = (n : Int) := by rw [w64 (by omega) (by omega)]; omega
    have er : IntKind.i16.wrap vr = vr := w16 (by omega) (by omega)
    have eS : (⟨(⟨IntKind.i8.wrap (X : Int), IntKind.i8.wrap (Y : Int)⟩ : Spot), IntKind.i16.wrap vr⟩ : Stake) = ⟨sp X Y, vr⟩ := by
      rw [er, w8 (x := (X : Int)) (by omega) (by omega), w8 (x := (Y : Int)) (by omega) (by omega)]; rfl
    cases z : l.all fun s => decide (s.At ≠ sp X Y)
    · rw [z] at d
      obtain ⟨l', a', s', g1, g2, g3⟩ := drawn5_loop hc hW hH hW' hH' hs n l a3 s3 (by omega) (by omega) (by push_cast at h1; omega) h h6
      rw [← en] at g1
      exact ⟨l', a', s', Ev.step (fun k => spec_l05Drawn.l1.eq_2 _ _ _ _ _ _ _) (Ev.pos (by omega) (Ev.bind (a := (l, a3, s3)) (Ev.bind (Ev.const f1) (Ev.bind (Ev.const f2) (Ev.bind (Ev.const f3) (d.bind (Ev.neg (by simp) (Ev.const rfl)))))) g1)), g2, g3⟩
    · rw [z] at d
      have hnew : SV W H (l ++ [(⟨sp X Y, vr⟩ : Stake)]) := by
        refine ⟨fun s hs => ?_, ?_, by simp; omega⟩
        · rcases List.mem_append.1 hs with hs | hs
          · exact h.ok s hs
          · rw [List.mem_singleton.1 hs]; exact ⟨X, Y, by omega, by omega, rfl, r0, by show vr ≤ 200; omega⟩
        · refine List.pairwise_append.2 ⟨h.apart, List.pairwise_singleton _ _, fun u hu w hw => ?_⟩
          rw [List.mem_singleton.1 hw]
          exact of_decide_eq_true (List.all_eq_true.1 z u hu)
      obtain ⟨l', a', s', g1, g2, g3⟩ := drawn5_loop hc hW hH hW' hH' hs n (l ++ [(⟨sp X Y, vr⟩ : Stake)]) a3 s3 (by simp; omega) (by omega) (by push_cast at h1; omega) hnew (fun s hs => by
        rcases List.mem_append.1 hs with hs | hs
        · exact h6 s hs
        · rw [List.mem_singleton.1 hs]; show vr ≤ 6; omega)
      rw [← en] at g1
      refine ⟨l', a', s', Ev.step (fun k => spec_l05Drawn.l1.eq_2 _ _ _ _ _ _ _) (Ev.pos (by omega) (Ev.bind (a := (l ++ [(⟨sp X Y, vr⟩ : Stake)], a3, s3)) (Ev.bind (Ev.const f1) (Ev.bind (Ev.const f2) (Ev.bind (Ev.const f3) (d.bind (Ev.pos rfl (Ev.bind (Ev.const (chk_t (by simp; omega))) (Ev.const ?_))))))) g1)), g2, g3⟩
      show some (l ++ [(⟨(⟨IntKind.i8.wrap (X : Int), IntKind.i8.wrap (Y : Int)⟩ : Spot), IntKind.i16.wrap vr⟩ : Stake)], a3, s3) = _
      rw [eS]
theorem stakes_ev {c : List Int} (hc : byteL c) (hW : p.Wide = (W : Int)) (hH : p.High = (H : Int)) (hW' : 1 ≤ W ∧ W ≤ 10) (hH' : 1 ≤ H ∧ H ≤ 10) : ∃ l : List Stake, Ev (fun k => spec_P6Stakes.f k c p) l ∧ SV W H l ∧ ∀ s ∈ l, s.Reach ≤ 6 := by
  obtain ⟨n, a1, s1, e1, n0, n1, q1, q1'⟩ := pick_ok hc (at_ := 0) (seed := 0) (by omega) (by omega) 5
  obtain ⟨m, rfl⟩ := Int.eq_ofNat_of_zero_le n0
  obtain ⟨l, a', s', g1, g2, g3⟩ := drawn5_loop hc hW hH hW' hH' (src := ⟨c, 0, 0⟩) rfl m [] a1 s1 (by simp; omega) (by omega) (by omega) ⟨fun s hs => by simp at hs, List.Pairwise.nil, by simp⟩ (fun s hs => by simp at hs)
  have hd : Ev (fun k => spec_l05Drawn.f k (⟨c, 0, 0⟩ : l00Src) p) (l, (⟨c, a', s'⟩ : l00Src)) := Ev.bind (Ev.const e1) (g1.bind (Ev.const rfl))
  exact ⟨l, Ev.bind (a := (⟨c, 0, 0⟩ : l00Src)) (Ev.const rfl) (hd.bind (Ev.const rfl)), g2, g3⟩
/-! ### The text -/
abbrev dD (n : Int) : List UInt8 := Go.Lib.decDigits n.toNat
theorem dD_no {c : UInt8} (hc : digB c = false) (n : Int) : c ∉ dD n := fun h => by
  have := List.all_eq_true.1 (dec_all n.toNat) c h
  rw [hc] at this; cases this
theorem dD_B {n : Int} (h : 0 ≤ n) : (itoaB n).data.toList = dD n := by
  obtain ⟨m, rfl⟩ := Int.eq_ofNat_of_zero_le h
  rw [itoa_nat]
  rfl
theorem dD_v {n : Int} (h : 0 ≤ n) : ((valF 0 (dD n) : Nat) : Int) = n := by
  rw [dec_val]; omega
theorem spl_tail {c : UInt8} : ∀ (ws : List (List UInt8)) (a : List UInt8), c ∉ a → (∀ w ∈ ws, c ∉ w) → spl c (a ++ Go.Lib.joinTail [c] ws) = a :: ws
  | [], a, h, _ => by simp [Go.Lib.joinTail, spl_miss h]
  | y :: ys, a, h, hw => by
    have ih := spl_tail ys y (hw y (by simp)) (fun w hy => hw w (List.mem_cons_of_mem _ hy))
    have : a ++ Go.Lib.joinTail [c] (y :: ys) = a ++ c :: (y ++ Go.Lib.joinTail [c] ys) := by simp [Go.Lib.joinTail]
    rw [this, spl_hit h, ih]
theorem itoa_ok {n : Int} {d : Nat} (h0 : 0 ≤ n) (h1 : n < 10 ^ (d + 1)) : (itoaB n).size ≤ d + 1 := by
  obtain ⟨z, rfl⟩ := Int.eq_ofNat_of_zero_le h0
  exact itoa_size (by exact_mod_cast h1)
def com : ByteArray := ⟨#[44]⟩
def sla : ByteArray := ⟨#[47]⟩
def spc : ByteArray := ⟨#[32]⟩
/-- What is written of a stake. -/
structure good (s : Stake) : Prop where
  x0 : 0 ≤ s.At.X
  x1 : s.At.X ≤ 9
  y0 : 0 ≤ s.At.Y
  y1 : s.At.Y ≤ 9
  r0 : 0 ≤ s.Reach
  r1 : s.Reach ≤ 200
theorem okS.good (h : okS W H s) (hW : W ≤ 10) (hH : H ≤ 10) : good s := by
  obtain ⟨sx, sy, hx, hy, e, r0, r1⟩ := h
  have ex : s.At.X = (sx : Int) := by rw [e]; rfl
  have ey : s.At.Y = (sy : Int) := by rw [e]; rfl
  exact ⟨by omega, by omega, by omega, by omega, r0, r1⟩
def spotT (s : Stake) : ByteArray := (itoaB s.At.X ++ com) ++ itoaB s.At.Y
def wordB (s : Stake) : ByteArray := (spotT s ++ sla) ++ itoaB s.Reach
theorem word_size (h : good s) : (itoaB s.At.X).size ≤ 1 ∧ (itoaB s.At.Y).size ≤ 1 ∧ (itoaB s.Reach).size ≤ 3 ∧ (spotT s).size ≤ 3 ∧ (wordB s).size ≤ 7 := by
  have h1 : (itoaB s.At.X).size ≤ 1 := itoa_ok (d := 0) h.x0 (by have := h.x1; omega)
  have h2 : (itoaB s.At.Y).size ≤ 1 := itoa_ok (d := 0) h.y0 (by have := h.y1; omega)
  have h3 : (itoaB s.Reach).size ≤ 3 := itoa_ok (d := 2) h.r0 (by have := h.r1; omega)
  have d1 : com.size = 1 := rfl
  have d2 : sla.size = 1 := rfl
  have h4 : (spotT s).size ≤ 3 := by
    unfold spotT
    rw [ByteArray.size_append, ByteArray.size_append, d1]; omega
  refine ⟨h1, h2, h3, h4, ?_⟩
  unfold wordB
  rw [ByteArray.size_append, ByteArray.size_append, d2]; omega
theorem spot_text (h : good s) : impl_Spot_text.f s.At = some (spotT s) := by
  obtain ⟨w1, w2, w3, w4, w5⟩ := word_size h
  have hx0 := h.x0
  have hx1 := h.x1
  have hy0 := h.y0
  have hy1 := h.y1
  have d2 : com.size = 1 := rfl
  have c1 : chk ((itoaB s.At.X).size + (⟨#[44]⟩ : ByteArray).size ≤ 4294967296) = some () := chkX (by show (itoaB s.At.X).size + com.size ≤ _; omega)
  have c2 : chk ((itoaB s.At.X ++ (⟨#[44]⟩ : ByteArray)).size + (itoaB s.At.Y).size ≤ 4294967296) = some () := chkX (by show (itoaB s.At.X ++ com).size + _ ≤ _; rw [ByteArray.size_append]; omega)
  unfold impl_Spot_text.f
  rw [w64 (by omega) (by omega), decimal_eq hx0 (by omega), Option.bind_some, c1, Option.bind_some, w64 (by omega) (by omega), decimal_eq hy0 (by omega), Option.bind_some, c2]
  rfl
theorem isSpot_eq (h : good s) : impl_isSpot.f s.At = some true := by
  have hx0 := h.x0
  have hx1 := h.x1
  have hy0 := h.y0
  have hy1 := h.y1
  have e : IntKind.i64.wrap ((if (10 : Int) < IntKind.i64.wrap 10 then 10 else IntKind.i64.wrap 10) - 1) = 9 := by decide
  unfold impl_isSpot.f impl_Pasture_isCell.f
  simp only [within_eq, e]
  rw [w64 (x := s.At.X) (by omega) (by omega), w64 (x := s.At.Y) (by omega) (by omega), decide_eq_true ⟨hx0, hx1⟩, decide_eq_true ⟨hy0, hy1⟩]
  rfl
theorem text_ev {l : List Stake} (hl : l.length ≤ 12) (hg : ∀ s ∈ l, good s) : Ev (fun k => impl_StakesText.f k l) (joinB (l.map wordB) spc) := by
  have hidx : ∀ i, i ≤ l.length → Ev (fun k => slices_IndexFunc_impl_Stake_impl_Stake.l1 l impl_StakesText_1.f k (i : Int)) (.inr ()) := by
    refine upL ?_ ?_
    · exact Ev.step (fun k => slices_IndexFunc_impl_Stake_impl_Stake.l1.eq_2 _ _ _ _) (Ev.neg (by omega) (Ev.const rfl))
    · intro i hi ih
      rw [← wsucc hi (by omega)] at ih
      have g := hg _ (List.getElem_mem hi)
      have hs : impl_StakesText_1.f l[i] = some false := by
        unfold impl_StakesText_1.f
        have h0 := g.r0
        have h1 := g.r1
        rw [isSpot_eq g, Option.bind_some, if_neg (by simp), within_eq, w64 (x := l[i].Reach) (by omega) (by omega), decide_eq_true ⟨h0, h1⟩]
        rfl
      exact Ev.step (fun k => slices_IndexFunc_impl_Stake_impl_Stake.l1.eq_2 _ _ _ _) (Ev.pos (by omega) (Ev.bind (Ev.const (getI_nat hi)) (Ev.bind (Ev.const hs) (Ev.neg (by simp) ih))))
  have hcont : Ev (fun k => slices_ContainsFunc_impl_Stake_impl_Stake.f k l impl_StakesText_1.f) false := Ev.bind (a := (-1 : Int)) ((hidx 0 (Nat.zero_le _)).bind (Ev.const rfl)) (Ev.const rfl)
  have hw : ∀ i, i ≤ l.length → ∀ ws : List ByteArray, ws.length ≤ i → Ev (fun k => impl_StakesText.l1 l k ws (i : Int)) (ws ++ (l.drop i).map wordB) := by
    refine upL ?_ ?_
    · intro ws hw
      refine Ev.step (fun k => impl_StakesText.l1.eq_2 _ _ _ _) (Ev.neg (by omega) (Ev.const ?_))
      rw [List.drop_length]; simp
    · intro i hi ih ws hw
      have g := hg _ (List.getElem_mem hi)
      obtain ⟨w1, w2, w3, w4, w5⟩ := word_size g
      have h0 := g.r0
      have h1 := g.r1
      have d2 : sla.size = 1 := rfl
      have hd : impl_decimal.f (IntKind.i64.wrap l[i].Reach) = some (itoaB l[i].Reach) := by rw [w64 (by omega) (by omega)]; exact decimal_eq h0 (by omega)
      have c1 : chk ((spotT l[i]).size + (⟨#[47]⟩ : ByteArray).size ≤ 4294967296) = some () := chkX (by show (spotT l[i]).size + sla.size ≤ _; omega)
      have c2 : chk ((spotT l[i] ++ (⟨#[47]⟩ : ByteArray)).size + (itoaB l[i].Reach).size ≤ 4294967296) = some () := chkX (by show (spotT l[i] ++ sla).size + _ ≤ _; rw [ByteArray.size_append]; omega)
      have hh := ih (ws ++ [wordB l[i]]) (by simp; omega)
      rw [← wsucc hi (by omega), List.append_assoc] at hh
      rw [List.drop_eq_getElem_cons hi, List.map_cons]
      exact Ev.step (fun k => impl_StakesText.l1.eq_2 _ _ _ _) (Ev.pos (by omega) (Ev.bind (Ev.const (getI_nat hi)) (Ev.bind (Ev.const (spot_text g)) (Ev.bind (Ev.const c1) (Ev.bind (Ev.const hd) (Ev.bind (Ev.const c2) (Ev.bind (Ev.const (chkX (by simp; omega))) hh)))))))
  have h0 := hw 0 (Nat.zero_le _) [] (by simp)
  rw [List.nil_append, List.drop_zero] at h0
  refine Ev.bind (a := false) (Ev.neg (by omega) (hcont.bind (Ev.const rfl))) (Ev.neg (by simp) (h0.bind ?_))
  cases hxs : l with
  | nil => exact Ev.const rfl
  | cons z zs =>
    have hsz := catB_size spc 7 (zs.map wordB) (wordB z) (fun q hq => by
      obtain ⟨u, hu, rfl⟩ := List.mem_map.1 hq
      exact (word_size (hg u (by rw [hxs]; exact List.mem_cons_of_mem _ hu))).2.2.2.2)
    have hz7 := (word_size (hg z (by rw [hxs]; simp))).2.2.2.2
    have hlx : zs.length ≤ 11 := by rw [hxs] at hl; simp at hl; omega
    have hs1 : spc.size = 1 := rfl
    rw [List.length_map, hs1] at hsz
    have hj := join_eq (wordB z) (zs.map wordB) spc (by simp; omega) (by omega)
    rw [List.map_cons, joinB_cons]
    exact Ev.bind (Ev.const hj) (Ev.const rfl)
def wordL (s : Stake) : List UInt8 := (dD s.At.X ++ 44 :: dD s.At.Y) ++ 47 :: dD s.Reach
theorem word_bytes (h : good s) : (wordB s).data.toList = wordL s := by
  unfold wordB spotT wordL
  simp only [ByteArray.data_append, Array.toList_append, dD_B h.x0, dD_B h.y0, dD_B h.r0]
  simp [com, sla]
theorem word_no {c : UInt8} (hc : digB c = false) (h1 : c ≠ 44) (h2 : c ≠ 47) : c ∉ wordL s := by
  unfold wordL
  simp only [List.mem_append, List.mem_cons, not_or]
  exact ⟨⟨dD_no hc _, h1, dD_no hc _⟩, h2, dD_no hc _⟩
theorem num_back {n : Int} {most : Int} (h0 : 0 ≤ n) (h1 : n ≤ most) (hm : most ≤ 1000) : impl_number.f (toB (dD n)) most = some (n, true) := by
  have hl : (dD n).length ≤ 4 := Go.Proofs.YtklgpejnogkccaaGreatDoor.dec_len 3 n.toNat (by omega)
  rw [number_eq _ _ (by rw [toB_size]; omega) (by omega), toB_list, dD_v h0, if_pos ⟨dec_okNum (by omega), h1⟩]
theorem read_word (h : good s) : strings_Cut.f (toB (wordL s)) (⟨#[47]⟩ : ByteArray) = some (toB (dD s.At.X ++ 44 :: dD s.At.Y), toB (dD s.Reach), true) ∧ impl_readSpot.f (toB (dD s.At.X ++ 44 :: dD s.At.Y)) = some (s.At, true) ∧ impl_number.f (toB (dD s.Reach)) 200 = some (s.Reach, true) := by
  have n47 : digB 47 = false := by decide
  have n44 : digB 44 = false := by decide
  have l1 : (dD s.At.X).length ≤ 4 := Go.Proofs.YtklgpejnogkccaaGreatDoor.dec_len 3 s.At.X.toNat (by have := h.x1; omega)
  have l2 : (dD s.At.Y).length ≤ 4 := Go.Proofs.YtklgpejnogkccaaGreatDoor.dec_len 3 s.At.Y.toNat (by have := h.y1; omega)
  have l3 : (dD s.Reach).length ≤ 4 := Go.Proofs.YtklgpejnogkccaaGreatDoor.dec_len 3 s.Reach.toNat (by have := h.r1; omega)
  have m47 : (47 : UInt8) ∉ dD s.At.X ++ 44 :: dD s.At.Y := by
    simp only [List.mem_append, List.mem_cons, not_or]
    exact ⟨dD_no n47 _, by decide, dD_no n47 _⟩
  refine ⟨?_, ?_, num_back h.r0 h.r1 (by omega)⟩
  · unfold strings_Cut.f
    rw [chkX (by rw [toB_size]; unfold wordL; simp; omega), Option.bind_some, cut_hit 47 m47 (s := toB (wordL s)) (r := dD s.Reach) (toB_list _)]
  · unfold impl_readSpot.f strings_Cut.f
    rw [chkX (by rw [toB_size]; simp; omega), Option.bind_some, cut_hit 44 (dD_no n44 _) (toB_list _)]
    simp only [Option.bind_some]
    rw [num_back h.x0 h.x1 (by omega), Option.bind_some, num_back h.y0 h.y1 (by omega), Option.bind_some]
    have hx0 := h.x0
    have hx1 := h.x1
    have hy0 := h.y0
    have hy1 := h.y1
    simp only [w8 (x := s.At.X) (by omega) (by omega), w8 (x := s.At.Y) (by omega) (by omega)]
    rfl
theorem read_ev {l : List Stake} (hl : l.length ≤ 12) (hg : ∀ s ∈ l, good s) : Ev (fun k => impl_ReadStakes.f k (joinB (l.map wordB) spc)) (l, 0) := by
  cases hxs : l with
  | nil => exact Ev.pos rfl (Ev.const rfl)
  | cons z zs =>
    rw [← hxs]
    have n32 : digB 32 = false := by decide
    have hb : (l.map wordB).map (·.data.toList) = l.map wordL := by
      rw [List.map_map]
      exact List.map_congr_left fun s hs => word_bytes (hg s hs)
    have hj : (joinB (l.map wordB) spc).data.toList = Go.Lib.join (l.map wordL) [32] := by
      unfold joinB
      rw [hb]; rfl
    have hsp : spl 32 (joinB (l.map wordB) spc).data.toList = l.map wordL := by
      rw [hj, hxs, List.map_cons, Go.Lib.join_cons]
      refine spl_tail _ _ (word_no n32 (by decide) (by decide)) (fun w hw => ?_)
      obtain ⟨s, _, rfl⟩ := List.mem_map.1 hw
      exact word_no n32 (by decide) (by decide)
    have hsz : (joinB (l.map wordB) spc).size ≤ 1000 := by
      have hsz := catB_size spc 7 (zs.map wordB) (wordB z) (fun q hq => by
        obtain ⟨u, hu, rfl⟩ := List.mem_map.1 hq
        exact (word_size (hg u (by rw [hxs]; exact List.mem_cons_of_mem _ hu))).2.2.2.2)
      have hz7 := (word_size (hg z (by rw [hxs]; simp))).2.2.2.2
      have hlx : zs.length ≤ 11 := by rw [hxs] at hl; simp at hl; omega
      have hs1 : spc.size = 1 := rfl
      rw [List.length_map, hs1] at hsz
      rw [hxs, List.map_cons, joinB_cons]
      omega
    generalize ht : joinB (l.map wordB) spc = t at hsp hsz
    have hne : ¬ t = ByteArray.empty := by
      intro e
      rw [e] at hsp
      rw [hxs] at hsp
      have h47 : (47 : UInt8) ∈ wordL z := by unfold wordL; simp
      have : spl 32 ByteArray.empty.data.toList = [[]] := rfl
      rw [this, List.map_cons] at hsp
      have := (List.cons.inj hsp).1
      rw [← this] at h47
      cases h47
    have s2 : strings_Split.f t (⟨#[32]⟩ : ByteArray) = some ((l.map wordL).map toB) := by
      unfold strings_Split.f
      rw [chkX ⟨by omega, Nat.le_refl _⟩, Option.bind_some, split_spl, hsp]
    have hml : ((l.map wordL).map toB).length = l.length := by rw [List.length_map, List.length_map]
    have key : ∀ i, i ≤ l.length → Ev (fun k => impl_ReadStakes.l1 ((l.map wordL).map toB) k (l.take i) (i : Int)) (.inr l) := by
      refine upL ?_ ?_
      · exact Ev.step (fun k => impl_ReadStakes.l1.eq_2 _ _ _ _) (Ev.neg (by omega) (Ev.const (by rw [List.take_length])))
      · intro i hi ih
        have g := hg _ (List.getElem_mem hi)
        obtain ⟨c1, c2, c3⟩ := read_word g
        have e1 : IntKind.i64.wrap ((i : Int) + 1) = ((i + 1 : Nat) : Int) := wsucc hi (by omega)
        rw [← e1] at ih
        have gi : getI ((l.map wordL).map toB) (i : Int) = some (toB (wordL l[i])) := by
          rw [getI_nat (show i < ((l.map wordL).map toB).length by omega), List.getElem_map, List.getElem_map]
        have h0 := g.r0
        have h1 := g.r1
        have er : IntKind.i16.wrap l[i].Reach = l[i].Reach := w16 (by omega) (by omega)
        have lt : (l.take i).length = i := by rw [List.length_take]; omega
        have et : l.take i ++ ([(⟨l[i].At, IntKind.i16.wrap l[i].Reach⟩ : Stake)] : List Stake) = l.take (i + 1) := by
          rw [er, List.take_add_one, List.getElem?_eq_getElem hi]; rfl
        refine Ev.step (fun k => impl_ReadStakes.l1.eq_2 _ _ _ _) (Ev.pos (by omega) (Ev.bind (Ev.const gi) (Ev.bind (Ev.const c1) (Ev.bind (Ev.const c2) (Ev.bind (Ev.const c3) (Ev.bind (a := false) (Ev.neg (by simp) (Ev.neg (by simp) (Ev.const (by rw [lt, decide_eq_false (by omega)])))) (Ev.neg (by simp) (Ev.bind (Ev.const (chkX (by simp; omega))) ?_))))))))
        show Ev (fun k => impl_ReadStakes.l1 ((l.map wordL).map toB) k (l.take i ++ ([(⟨l[i].At, IntKind.i16.wrap l[i].Reach⟩ : Stake)] : List Stake)) (IntKind.i64.wrap ((i : Int) + 1))) (.inr l)
        rw [et]; exact ih
    have h0 := key 0 (Nat.zero_le _)
    exact Ev.neg hne (Ev.bind (Ev.const s2) (h0.bind (Ev.const rfl)))
theorem sameStakes_ev {l : List Stake} (hl : l.length ≤ 12) : Ev (fun k => spec_SameStakes.f k l l) true ∧ Ev (fun k => impl_SameStakes.f k l l) true := by
  have k1 : ∀ i, i ≤ l.length → Ev (fun k => spec_SameStakes.l1 l l k (i : Int)) (.inr ()) := by
    refine upL ?_ ?_
    · exact Ev.step (fun k => spec_SameStakes.l1.eq_2 _ _ _ _) (Ev.neg (by omega) (Ev.const rfl))
    · intro i hi ih
      rw [← wsucc hi (by omega)] at ih
      exact Ev.step (fun k => spec_SameStakes.l1.eq_2 _ _ _ _) (Ev.pos (by omega) (Ev.bind (Ev.const (getI_nat hi)) (Ev.bind (Ev.const (getI_nat hi)) (Ev.neg (by simp) ih))))
  have k2 : ∀ i, i ≤ l.length → Ev (fun k => slices_Equal_impl_Stake_impl_Stake.l1 l l k (i : Int)) (.inr ()) := by
    refine upL ?_ ?_
    · exact Ev.step (fun k => slices_Equal_impl_Stake_impl_Stake.l1.eq_2 _ _ _ _) (Ev.neg (by omega) (Ev.const rfl))
    · intro i hi ih
      rw [← wsucc hi (by omega)] at ih
      exact Ev.step (fun k => slices_Equal_impl_Stake_impl_Stake.l1.eq_2 _ _ _ _) (Ev.pos (by omega) (Ev.bind (Ev.const (getI_nat hi)) (Ev.bind (Ev.const (getI_nat hi)) (Ev.neg (by simp) ih))))
  have h2 : Ev (fun k => slices_Equal_impl_Stake_impl_Stake.f k l l) true := Ev.neg (by simp) ((k2 0 (Nat.zero_le _)).bind (Ev.const rfl))
  exact ⟨Ev.neg (by simp) ((k1 0 (Nat.zero_le _)).bind (Ev.const rfl)), h2.bind (Ev.const rfl)⟩
end Go.Proofs.YtklgpejnogkccaaGreatDoor
/-
  Plain law of FnStakes: it answers yes.
-/
namespace Go.Proofs.YtklgpejnogkccaaGreatDoor
open G
set_option linter.unusedVariables false
set_option linter.unusedSimpArgs false
variable {W H : Nat} {p q : Pasture} {Gr : Nat → Nat → Int} {E S : Nat → Nat → Bool} {l : List Stake} {rb : Nat → Nat → Nat → Nat → Bool}
theorem FnStakes.pure (x0 : List Int) (hv0 : ∀ x ∈ x0, (inI .u8) x) (hb0 : x0.length * 1 ≤ 140737488351232) (x1 : List Int) (hv1 : ∀ x ∈ x1, (inI .u8) x) (hb1 : x1.length * 1 ≤ 140737488351232) : ∃ k, laws_FnStakes.f k x0 x1 = some true := by
  refine Ev.get (r := true) ?_
  have b0 : laws_f6big.f x0 = some (decide (4096 < (x0.length : Int))) := rfl
  have b1 : laws_f6big.f x1 = some (decide (4096 < (x1.length : Int))) := rfl
  by_cases h0 : 4096 < (x0.length : Int)
  · exact Ev.bind (a := true) (Ev.bind (Ev.const b0) (Ev.pos (decide_eq_true h0) (Ev.const rfl))) (Ev.pos rfl (Ev.const rfl))
  by_cases h1 : 4096 < (x1.length : Int)
  · exact Ev.bind (a := true) (Ev.bind (Ev.const b0) (Ev.neg (by simpa using h0) (Ev.bind (Ev.const b1) (Ev.const (by rw [decide_eq_true h1]))))) (Ev.pos rfl (Ev.const rfl))
  refine Ev.bind (a := false) (Ev.bind (Ev.const b0) (Ev.neg (by simpa using h0) (Ev.bind (Ev.const b1) (Ev.const (by rw [decide_eq_false h1]))))) (Ev.neg (by simp) ?_)
  obtain ⟨W, H, p, hW5, hH5, dr, ep⟩ := pasture_ev (byteL_of hv0)
  have hW : 1 ≤ W ∧ W ≤ 10 := by omega
  have hH : 1 ≤ H ∧ H ≤ 10 := by omega
  have hc1 := byteL_of hv1
  obtain ⟨l, el, sv, h6⟩ := stakes_ev hc1 dr.w dr.h hW hH
  have v := dr.V hW.2 hH.2
  have hp := dr.ok hW hH
  have hw := vP_okW hp
  have eW : p.Wide.toNat = W := by rw [dr.w]; omega
  have eH : p.High.toNat = H := by rw [dr.h]; omega
  have wW := dr.w
  have wH := dr.h
  have h := PD.of v hp
  rw [eW, eH] at h
  have hg11 : ∀ y x, x < W → y < H → 0 ≤ gG p y x ∧ gG p y x ≤ 11 := fun y x hx hy => by
    have := dr.g y x (by omega) (by omega)
    omega
  generalize hGr : gG p = Gr at h hg11
  generalize (fun y x => btB (gA p.East y) x) = E at h
  generalize (fun y x => btB (gA p.South y) x) = S at h
  have hG : ∀ y x, x < W → y < H → 0 ≤ Gr y x ∧ Gr y x ≤ 1000 := fun y x hx hy => by have := hg11 y x hx hy; omega
  obtain ⟨rb, hr⟩ := rb_is W H E S
  have k : PK W H Gr E S p rb := ⟨h, hG, hW, hH, hr⟩
  have hl := sv.len
  have hg : ∀ s ∈ l, good s := fun s hs => (sv.ok s hs).good hW.2 hH.2
  obtain ⟨P, pE, pl, hP⟩ := k.pairs (l := l) hl
  have tE := text_ev hl hg
  have rE := read_ev hl hg
  obtain ⟨s1, s2⟩ := sameStakes_ev hl
  have mE : Ev (fun f => impl_MeetingPairs.f f p l) (P, 0) := (k.codeI sv).bind (Ev.neg (by simp) ((k.reaches sv).bind (pE.bind (Ev.const rfl))))
  obtain ⟨u1, u2, u3, u4⟩ := k.uncovered sv
  have ul : (unL W H rb l).length ≤ 100 := k.RS_len _
  have sl : (shL W H rb l).length ≤ 100 := k.RS_len _
  have f1 := sameSpots_ev (Y := unL W H rb l) (by omega)
  have f2 := sameSpots_ev (Y := shL W H rb l) (by omega)
  have hm := k.meet hP
  have d : decide (0 < (P.length : Int)) = decide (0 < ((shL W H rb l).length : Int)) := decide_eq_decide.2 (by omega)
  have L1 := k.law1 sv h6 pl hP 0 (Nat.zero_le _) 0 (by omega)
  rw [Nat.zero_add, List.drop_zero] at L1
  refine ep.bind (el.bind (tE.bind (rE.bind (mE.bind (u1.bind (u2.bind (u3.bind (u4.bind (Ev.bind (a := false) ?_ (Ev.neg (by simp) (L1.bind ?_)))))))))))
  · refine Ev.neg (by simp) (s1.bind (Ev.neg (by simp) (s2.bind (Ev.neg (by simp) ((k.validI sv).bind (Ev.neg (by simp) (Ev.neg (by simp) (Ev.neg (by simp) (Ev.neg (by simp) (f1.bind (Ev.neg (by simp) (Ev.neg (by simp) (Ev.neg (by simp) (f2.bind (Ev.neg (by simp) (Ev.const ?_))))))))))))))))
    show some (decide (decide (0 < (P.length : Int)) ≠ decide (0 < ((shL W H rb l).length : Int)))) = some false
    rw [d]; simp
  · show Ev (fun _ => if 0 < ((shL W H rb l).length : Int) then some true else some (decide (IntKind.i64.wrap (((sumR W H rb l : Nat) : Int) + ((unL W H rb l).length : Int)) = IntKind.i64.wrap (IntKind.i64.wrap p.Wide * IntKind.i64.wrap p.High)))) true
    by_cases z : 0 < ((shL W H rb l).length : Int)
    · exact Ev.pos z (Ev.const rfl)
    · refine Ev.neg z (Ev.const ?_)
      have e := k.whole (l := l) (List.eq_nil_of_length_eq_zero (by omega))
      rw [e, wW, wH, w64 (x := (W : Int)) (by omega) (by omega), w64 (x := (H : Int)) (by omega) (by omega), decide_eq_true rfl]
end Go.Proofs.YtklgpejnogkccaaGreatDoor
