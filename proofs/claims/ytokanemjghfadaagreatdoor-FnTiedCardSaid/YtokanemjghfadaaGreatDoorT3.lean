import Derived.Test.YtokanemjghfadaaGreatDoorZ2
import Derived.Test.YtokanemjghfadaaGreatDoorDF
import Derived.Test.YtokanemjghfadaaGreatDoorQYe
/-
  Plain law: what is reached; lists of cells; small functions. (Taken over from the stakes' texts.)
-/
namespace Go.Proofs.YtokanemjghfadaaGreatDoor
open G
set_option linter.unusedVariables false
set_option linter.unusedSimpArgs false
variable {W H : Nat} {p q : Pasture} {Gr : Nat → Nat → Int} {E S : Nat → Nat → Bool} {y x b a sx sy : Nat} {r : Int} {rb : Nat → Nat → Nat → Nat → Bool}
theorem steps_at {m : Tb} {x y : Nat} (hx : x < 10) (hy : y < 10) (h : -1 ≤ g2 m y x ∧ g2 m y x ≤ 102) : impl_steps_at.f m (sp x y) = some (g2 m y x) := by
 have hw : IntKind.i64.wrap (gA (gR m y) x) = g2 m y x := w64 (show -9223372036854775808 ≤ g2 m y x by omega) (show g2 m y x ≤ 9223372036854775807 by omega)
 unfold impl_steps_at.f
 show ((getI m.l ((y : Nat) : Int)).bind _) = _
 rw [getR m hy, Option.bind_some]
 show ((getI (gR m y).l ((x : Nat) : Int)).bind _) = _
 rw [getA _ hx, Option.bind_some, hw]
abbrev Tbb := Arr 10 (Arr 10 Bool)
def bA (r : Arr 10 Bool) (i : Nat) : Bool := r.l.getD i false
def bR (m : Tbb) (i : Nat) : Arr 10 Bool := (m.l[i]?).getD (Arr.mk' false)
def b2 (m : Tbb) (y x : Nat) : Bool := bA (bR m y) x
theorem getBA (r : Arr 10 Bool) {i : Nat} (h : i < 10) : getI r.l (i : Int) = some (bA r i) := by
 have hl : i < r.l.length := by rw [r.len]; exact h
 rw [getI_nat hl]
 unfold bA
 rw [List.getD_eq_getElem?_getD, List.getElem?_eq_getElem hl]; rfl
theorem getBR (m : Tbb) {i : Nat} (h : i < 10) : getI m.l (i : Int) = some (bR m i) := by
 have hl : i < m.l.length := by rw [m.len]; exact h
 rw [getI_nat hl]
 unfold bR
 rw [List.getElem?_eq_getElem hl]; rfl
def putT2 (m : Tbb) (y x : Nat) (v : Bool) : Tbb := aset m y (aset (bR m y) x v)
theorem b2_put (m : Tbb) (hy : y < 10) (hx : x < 10) (v : Bool) (b a : Nat) : b2 (putT2 m y x v) b a = if y = b ∧ x = a then v else b2 m b a := by
 have hR : ∀ r : Arr 10 Bool, bR (aset m y r) b = if y = b then r else bR m b := fun r => by
   unfold bR aset
   simp only [List.getElem?_set]
   by_cases e : y = b
   · subst e
     rw [if_pos rfl, if_pos rfl, if_pos (by rw [m.len]; exact hy)]; rfl
   · rw [if_neg e, if_neg e]
 have hA : ∀ r : Arr 10 Bool, bA (aset r x v) a = if x = a then v else bA r a := fun r => by
   unfold bA aset
   simp only [List.getD_eq_getElem?_getD, List.getElem?_set]
   by_cases e : x = a
   · subst e
     rw [if_pos rfl, if_pos rfl, if_pos (by rw [r.len]; exact hx)]; rfl
   · rw [if_neg e, if_neg e]
 unfold b2 putT2
 rw [hR]
 by_cases e : y = b
 ·subst e
  rw [if_pos rfl, hA]
  by_cases e2 : x = a
  ·rw [if_pos e2, if_pos ⟨rfl, e2⟩]
  rw [if_neg e2, if_neg (fun z => e2 z.2)]
 rw [if_neg e, if_neg (fun z => e z.1)]
theorem b2_zero (hy : y < 10) (hx : x < 10) : b2 (Arr.mk' (Arr.mk' false : Arr 10 Bool) : Tbb) y x = false := by
 have : ∀ a b : Fin 10, b2 (Arr.mk' (Arr.mk' false : Arr 10 Bool) : Tbb) a b = false := by decide
 exact this ⟨y, hy⟩ ⟨x, hx⟩
def sqI (sx sy x y : Nat) : Int := ((sx : Int) - x) * ((sx : Int) - x) + ((sy : Int) - y) * ((sy : Int) - y)
theorem sqr_le {d : Int} (h0 : -9 ≤ d) (h1 : d ≤ 9) : 0 ≤ d * d ∧ d * d ≤ 81 := by
 have e : d * d = ((d.natAbs * d.natAbs : Nat) : Int) := by rw [Int.natAbs_mul_self]
 have : d.natAbs * d.natAbs ≤ 9 * 9 := Nat.mul_le_mul (by omega) (by omega)
 rw [e]; omega
theorem sq_le (h1 : sx < 10) (h2 : sy < 10) (hx : x < 10) (hy : y < 10) : 0 ≤ sqI sx sy x y ∧ sqI sx sy x y ≤ 162 := by
 have a := sqr_le (d := (sx : Int) - x) (by omega) (by omega)
 have b := sqr_le (d := (sy : Int) - y) (by omega) (by omega)
 unfold sqI; omega
theorem sq_self : sqI sx sy sx sy = 0 := by unfold sqI; simp
theorem sqW (h1 : sx < 10) (h2 : sy < 10) (hx : x < 10) (hy : y < 10) : IntKind.i64.wrap ((IntKind.i64.wrap ((IntKind.i64.wrap ((IntKind.i64.wrap (sx : Int)) - (IntKind.i64.wrap (x : Int)))) * (IntKind.i64.wrap ((IntKind.i64.wrap (sx : Int)) - (IntKind.i64.wrap (x : Int)))))) + (IntKind.i64.wrap ((IntKind.i64.wrap ((IntKind.i64.wrap (sy : Int)) - (IntKind.i64.wrap (y : Int)))) * (IntKind.i64.wrap ((IntKind.i64.wrap (sy : Int)) - (IntKind.i64.wrap (y : Int))))))) = sqI sx sy x y := by
 have a := sqr_le (d := (sx : Int) - x) (by omega) (by omega)
 have b := sqr_le (d := (sy : Int) - y) (by omega) (by omega)
 rw [w64 (x := (sx : Int)) (by omega) (by omega), w64 (x := (x : Int)) (by omega) (by omega), w64 (x := (sy : Int)) (by omega) (by omega), w64 (x := (y : Int)) (by omega) (by omega), w64 (x := (sx : Int) - x) (by omega) (by omega), w64 (x := (sy : Int) - y) (by omega) (by omega), w64 (x := ((sx : Int) - x) * ((sx : Int) - x)) (by omega) (by omega), w64 (x := ((sy : Int) - y) * ((sy : Int) - y)) (by omega) (by omega), w64 (by omega) (by omega)]
 rfl
theorem sqImpl (h1 : sx < 10) (h2 : sy < 10) (hx : x < 10) (hy : y < 10) : impl_SquareOf.f (sp sx sy) (sp x y) = some (sqI sx sy x y) := congrArg some (sqW h1 h2 hx hy)
theorem rowF_filter (q : Nat → Bool) (f : Spot → Bool) (y : Nat) : ∀ n x, (rowF q y x n).filter f = rowF (fun x => q x && f (sp x y)) y x n
  | 0, x => rfl
  | n + 1, x => by
    rw [rowF, rowF, List.filter_append, rowF_filter q f y n (x + 1)]
    congr 1
    cases h : q x
    · rfl
    · rw [if_pos rfl, List.filter_cons, List.filter_nil, Bool.true_and]
      rfl
theorem gridF_filter (q : Nat → Nat → Bool) (f : Spot → Bool) (W : Nat) : ∀ n y, (gridF q W y n).filter f = gridF (fun y x => q y x && f (sp x y)) W y n
  | 0, y => rfl
  | n + 1, y => by rw [gridF, gridF, List.filter_append, rowF_filter, gridF_filter q f W n (y + 1)]
theorem rowF_none {q : Nat → Bool} {y : Nat} : ∀ n x, (∀ i, x ≤ i → i < x + n → q i = false) → rowF q y x n = []
  | 0, x, _ => rfl
  | n + 1, x, h => by rw [rowF, h x (Nat.le_refl _) (by omega), if_neg (by simp), rowF_none n (x + 1) (fun i h1 h2 => h i (by omega) (by omega))]; rfl
/-- What tells whether a cell is reached from another one. -/
def isRb (W H : Nat) (E S : Nat → Nat → Bool) (rb : Nat → Nat → Nat → Nat → Bool) : Prop := ∀ sy sx y x, (rb sy sx y x = true ↔ Rt W H E S sy sx y x)
theorem rb_is (W H : Nat) (E S : Nat → Nat → Bool) : ∃ rb, isRb W H E S rb := ⟨fun sy sx y x => @decide (Rt W H E S sy sx y x) (Classical.propDecidable _), fun sy sx y x => by simp⟩
theorem yardK_ev (h : PD W H Gr E S p) (hG : ∀ y x, x < W → y < H → 0 ≤ Gr y x ∧ Gr y x ≤ 1000) (hW : 1 ≤ W ∧ W ≤ 10) (hH : 1 ≤ H ∧ H ≤ 10) (hr : isRb W H E S rb) (hx : sx < W) (hy : sy < H) : Ev (fun k => impl_Pasture_yard.f k p (sp sx sy)) (gridF (rb sy sx) W 0 H) := by
 have hw := vP_okW (h.ok hW hH hG)
 have eW : p.Wide.toNat = W := by rw [h.w]; omega
 have eH : p.High.toNat = H := by rw [h.h]; omega
 obtain ⟨m, n, e1, e2, hm, hrt⟩ := far_rt h hG hW hH hx hy
 have hc : ∀ k, 24 ≤ k → impl_Pasture_cells.f k p (impl_Pasture_yard_1.f m) = some (gridF (fun y x => decide (0 ≤ g2 m y x)) p.Wide.toNat 0 p.High.toNat) := fun k hk => cells_eq hw (fun y x hy hx => by
   have := hm y x (by omega) (by omega)
   unfold impl_Pasture_yard_1.f impl_steps_at.f
   rw [getR m (show y < 10 by omega), Option.bind_some, getA _ (show x < 10 by omega), Option.bind_some]
   show some (decide (0 ≤ IntKind.i64.wrap (g2 m y x))) = _
   rw [w64 (by omega) (by omega)]) hk
 rw [eW, eH] at hc
 have e : gridF (fun y x => decide (0 ≤ g2 m y x)) W 0 H = gridF (rb sy sx) W 0 H := gridF_congr _ _ fun i j h1 h2 h3 => by
   rw [Bool.eq_iff_iff, decide_eq_true_eq, hrt i j (by omega) h3, hr]
 rw [e] at hc
 exact e1.bind (Ev.bind ⟨24, hc⟩ (Ev.const rfl))
/-- What the laws take for granted. -/
structure PK (W H : Nat) (Gr : Nat → Nat → Int) (E S : Nat → Nat → Bool) (p : Pasture) (rb : Nat → Nat → Nat → Nat → Bool) : Prop where
  h : PD W H Gr E S p
  hG : ∀ y x, x < W → y < H → 0 ≤ Gr y x ∧ Gr y x ≤ 1000
  hW : 1 ≤ W ∧ W ≤ 10
  hH : 1 ≤ H ∧ H ≤ 10
  hr : isRb W H E S rb
theorem PK.v (k : PK W H Gr E S p rb) : VPasture p := k.h.V k.hW.2 k.hH.2 k.hG
theorem PK.p_ok (k : PK W H Gr E S p rb) : vP p = true := k.h.ok k.hW k.hH k.hG
theorem PK.w (k : PK W H Gr E S p rb) : okW p = true := vP_okW k.p_ok
theorem PK.cellT (k : PK W H Gr E S p rb) (hx : x < W) (hy : y < H) : cellB p (x : Int) (y : Int) = true := cellB_grid k.w (by rw [k.h.w]; omega) (by rw [k.h.h]; omega)
theorem PK.is_ (k : PK W H Gr E S p rb) (hx : x < W) (hy : y < H) : spec_l01Is.f p (sp x y) = some true ∧ impl_Pasture_isCell.f p (sp x y) = some true := by
 have h1 := k.hW
 have h2 := k.hH
 have hv := VSpot_nat (x := x) (y := y) (by omega) (by omega)
 exact ⟨(l01Is_eq k.v (sp x y) hv).trans (congrArg some (k.cellT hx hy)), (isCell_eq k.v k.w (sp x y) hv).trans (congrArg some (k.cellT hx hy))⟩
theorem PK.RS_len (k : PK W H Gr E S p rb) (q : Nat → Nat → Bool) : (gridF q W 0 H).length ≤ 100 := by
 have h1 := gridF_len q W H 0
 have h2 : H * W ≤ 10 * 10 := Nat.mul_le_mul k.hH.2 k.hW.2
 omega
theorem PK.RS_in (k : PK W H Gr E S p rb) (q : Nat → Nat → Bool) {c : Spot} : c ∈ gridF q W 0 H ↔ ∃ x y : Nat, x < W ∧ y < H ∧ c = sp x y ∧ q y x = true := by
 rw [gridF_mem]
 constructor
 ·rintro ⟨i, j, h1, h2, h3, h4, rfl⟩
  exact ⟨j, i, h3, by omega, rfl, h4⟩
 rintro ⟨x, y, hx, hy, rfl, h⟩
 exact ⟨y, x, Nat.zero_le _, by omega, hx, h, rfl⟩
theorem PK.RS_sp (k : PK W H Gr E S p rb) (q : Nat → Nat → Bool) (hx : x < W) (hy : y < H) : sp x y ∈ gridF q W 0 H ↔ q y x = true := by
 rw [k.RS_in]
 constructor
 ·rintro ⟨x', y', _, _, e, h⟩
  obtain ⟨rfl, rfl⟩ := sp_inj' e
  exact h
 exact fun h => ⟨x, y, hx, hy, rfl, h⟩
theorem indexS_loop (xs : List Spot) (s : Spot) (hx : xs.length ≤ 1048576) : ∀ i, i ≤ xs.length → ∃ r : Int ⊕ Unit, Ev (fun k => slices_Index_impl_Spot_impl_Spot.l1 xs s k (i : Int)) r ∧ ((s ∈ xs.drop i ∧ ∃ j : Nat, r = .inl (j : Int)) ∨ (s ∉ xs.drop i ∧ r = .inr ())) := by
 refine upL ?_ ?_
 ·rw [List.drop_length]
  exact ⟨.inr (), Ev.step (fun k => slices_Index_impl_Spot_impl_Spot.l1.eq_2 _ _ _ _) (Ev.neg (by omega) (Ev.const rfl)), .inr ⟨by simp, rfl⟩⟩
 rintro i hi ⟨r, h1, h2⟩
 rw [← wsucc hi (by omega)] at h1
 rw [List.drop_eq_getElem_cons hi]
 by_cases h : s = xs[i]
 ·exact ⟨.inl (i : Int), Ev.step (fun k => slices_Index_impl_Spot_impl_Spot.l1.eq_2 _ _ _ _) (Ev.pos (by omega) (Ev.bind (Ev.const (getI_nat hi)) (Ev.pos h (Ev.const rfl)))), .inl ⟨by rw [h]; exact List.mem_cons_self .., i, rfl⟩⟩
 refine ⟨r, Ev.step (fun k => slices_Index_impl_Spot_impl_Spot.l1.eq_2 _ _ _ _) (Ev.pos (by omega) (Ev.bind (Ev.const (getI_nat hi)) (Ev.neg h h1))), ?_⟩
 rcases h2 with ⟨a, b⟩ | ⟨a, b⟩
 ·exact .inl ⟨List.mem_cons_of_mem _ a, b⟩
 exact .inr ⟨fun hm => (List.mem_cons.1 hm).elim h a, b⟩
theorem contS_ev (xs : List Spot) (s : Spot) (hx : xs.length ≤ 1048576) : Ev (fun k => slices_Contains_impl_Spot_impl_Spot.f k xs s) (decide (s ∈ xs)) := by
 obtain ⟨r, h1, h2⟩ := indexS_loop xs s hx 0 (Nat.zero_le _)
 rw [List.drop_zero] at h2
 rcases h2 with ⟨a, j, rfl⟩ | ⟨a, rfl⟩
 ·rw [decide_eq_true a]
  refine Ev.bind (Ev.bind h1 (Ev.const rfl)) (Ev.const ?_)
  rw [decide_eq_true (show (0 : Int) ≤ (j : Int) by omega)]
 rw [decide_eq_false a]
 exact Ev.bind (Ev.bind h1 (Ev.const rfl)) (Ev.const rfl)
theorem common_ev {A B : List Spot} (hA : A.length ≤ 1000) (hB : B.length ≤ 1000) : Ev (fun k => impl_common.f k A B) (A.filter fun s => decide (s ∈ B)) := by
 have hd := deleteS_ev A (g := fun k => impl_common_1.f k B) (dl := fun s => !decide (s ∈ B)) (fun c _ => (contS_ev B c (by omega)).bind (Ev.const rfl)) (by omega)
 have hc : slices_Clone_impl_Spot_impl_Spot.f A = some A := by
   unfold slices_Clone_impl_Spot_impl_Spot.f
   rw [chk_t (by simp; omega)]; rfl
 refine Ev.bind (Ev.const hc) (Ev.bind (hd.congr fun k => rfl) (Ev.const ?_))
 congr 1
 exact List.filter_congr fun s _ => by simp
/-- What two masks have in common. -/
def cL (W H : Nat) (q q' : Nat → Nat → Bool) : List Spot := gridF (fun y x => q y x && q' y x) W 0 H
theorem PK.common (k : PK W H Gr E S p rb) (q q' : Nat → Nat → Bool) : Ev (fun f => impl_common.f f (gridF q W 0 H) (gridF q' W 0 H)) (cL W H q q') := by
 have h1 := k.RS_len q
 have h2 := k.RS_len q'
 have := common_ev (A := gridF q W 0 H) (B := gridF q' W 0 H) (by omega) (by omega)
 rw [gridF_filter] at this
 have e : gridF (fun y x => q y x && (fun s => decide (s ∈ gridF q' W 0 H)) (sp x y)) W 0 H = cL W H q q' := gridF_congr _ _ fun i j h1 h2 h3 => by
   congr 1
   rw [Bool.eq_iff_iff, decide_eq_true_eq, k.RS_sp q' h3 (by omega)]
 rw [e] at this
 exact this
theorem firstOf0 : Ev (fun k => impl_firstOf.f k ([0, 0] : List Int)) 0 := by
 have w1 : IntKind.i64.wrap (0 + 1) = 1 := by decide
 have w2 : IntKind.i64.wrap (1 + 1) = 2 := by decide
 have e3 : Ev (fun k => impl_firstOf.l1 ([0, 0] : List Int) k (IntKind.i64.wrap (1 + 1))) (.inr ()) := Ev.step (fun k => impl_firstOf.l1.eq_2 _ _ _) (Ev.neg (by rw [w2]; simp) (Ev.const rfl))
 have e2 : Ev (fun k => impl_firstOf.l1 ([0, 0] : List Int) k (IntKind.i64.wrap (0 + 1))) (.inr ()) := by
   rw [w1]
   exact Ev.step (fun k => impl_firstOf.l1.eq_2 _ _ _) (Ev.pos (by simp) (Ev.bind (a := 0) (Ev.const rfl) (Ev.neg (by simp) e3)))
 have e1 : Ev (fun k => impl_firstOf.l1 ([0, 0] : List Int) k 0) (.inr ()) := Ev.step (fun k => impl_firstOf.l1.eq_2 _ _ _) (Ev.pos (by simp) (Ev.bind (a := 0) (Ev.const rfl) (Ev.neg (by simp) e2)))
 exact e1.bind (Ev.const rfl)
theorem PK.cL_pos (k : PK W H Gr E S p rb) (q q' : Nat → Nat → Bool) : 0 < (cL W H q q').length ↔ ∃ x y, x < W ∧ y < H ∧ q y x = true ∧ q' y x = true := by
 rw [List.length_pos_iff_exists_mem]
 constructor
 ·rintro ⟨c, hc⟩
  obtain ⟨x, y, hx, hy, _, h⟩ := (k.RS_in _).1 hc
  rw [Bool.and_eq_true] at h
  exact ⟨x, y, hx, hy, h.1, h.2⟩
 rintro ⟨x, y, hx, hy, h1, h2⟩
 exact ⟨sp x y, (k.RS_sp _ hx hy).2 (by rw [h1, h2]; rfl)⟩
/-- A pair of places. -/
def pr (i j : Nat) : Arr 2 Int := ⟨[(i : Int), (j : Int)], rfl⟩
theorem cells_code {xs : List Spot} (v : VPasture p) (ok : vP p = true) (hx : xs.length ≤ 1000) (h : ∀ s ∈ xs, ∃ x y : Nat, x < p.Wide.toNat ∧ y < p.High.toNat ∧ s = sp x y) : Ev (fun k => impl_cellCode.f k p xs) 0 := by
 obtain ⟨w1, w2⟩ := okW_iff.1 (vP_okW ok)
 have hc := cellCode_ev v xs (fun s hs => by
   obtain ⟨x, y, hx, hy, rfl⟩ := h s hs
   exact VSpot_nat (by omega) (by omega)) (by omega)
 have e : cCode p xs = 0 := by
   unfold cCode
   rw [ok]
   have : okC p xs = true := List.all_eq_true.2 fun s hs => by
     obtain ⟨x, y, hx, hy, rfl⟩ := h s hs
     exact cellB_grid (vP_okW ok) hx hy
   rw [this]; rfl
 rw [e] at hc
 exact hc
end Go.Proofs.YtokanemjghfadaaGreatDoor
/-
  Plain law: goats that are valid; the cells for a goat.
-/
namespace Go.Proofs.YtokanemjghfadaaGreatDoor
open G
set_option linter.unusedVariables false
set_option linter.unusedSimpArgs false
variable {W H : Nat} {p q : Pasture} {Gr : Nat → Nat → Int} {E S : Nat → Nat → Bool} {y x b a sx sy ax ay : Nat} {r : Int} {rb : Nat → Nat → Nat → Nat → Bool} {g : Goat} {l : List Goat}
/-- A goat in a cell, told by numbers. -/
structure GK (W H : Nat) (ax ay sx sy : Nat) (g : Goat) : Prop where
  hax : ax < W
  hay : ay < H
  hsx : sx < W
  hsy : sy < H
  At : g.At = sp ax ay
  Stake : g.Stake = sp sx sy
  r0 : -1 ≤ g.Rope
  r1 : g.Rope ≤ 200
  e0 : 0 ≤ g.Eats
  e1 : g.Eats ≤ 100
  l0 : 0 ≤ g.Likes
  l1 : g.Likes ≤ 1
  free : g.Rope = -1 → g.Stake = (⟨0, 0⟩ : Spot)
  near : 0 ≤ g.Rope → sqI sx sy ax ay ≤ g.Rope
def okT (W H : Nat) (g : Goat) : Prop := ∃ ax ay sx sy, GK W H ax ay sx sy g
def qG (rb : Nat → Nat → Nat → Nat → Bool) (g : Goat) : Nat → Nat → Bool := fun y x => rb g.At.Y.toNat g.At.X.toNat y x && decide (g.Rope = -1 ∨ sqI g.Stake.X.toNat g.Stake.Y.toNat x y ≤ g.Rope)
theorem GK.qe (h : GK W H ax ay sx sy g) : qG rb g = fun y x => rb ay ax y x && decide (g.Rope = -1 ∨ sqI sx sy x y ≤ g.Rope) := by
 unfold qG
 rw [h.At, h.Stake]
 unfold sp
 simp
def CG (W H : Nat) (rb : Nat → Nat → Nat → Nat → Bool) (g : Goat) : List Spot := gridF (qG rb g) W 0 H
theorem sqI_sub (x y : Nat) : sqI sx sy x y = sqI x y sx sy := by
 unfold sqI
 have e1 : ((sx : Int) - x) = -((x : Int) - sx) := by omega
 have e2 : ((sy : Int) - y) = -((y : Int) - sy) := by omega
 rw [e1, e2, Int.neg_mul_neg, Int.neg_mul_neg]
theorem sqSp (h1 : sx < 10) (h2 : sy < 10) (hx : x < 10) (hy : y < 10) : spec_l02Square.f (sp x y) (sp sx sy) = some (sqI sx sy x y) := by
 rw [sqI_sub]
 exact congrArg some (sqW hx hy h1 h2)
theorem PK.reaches1 (k : PK W H Gr E S p rb) (h : GK W H ax ay sx sy g) (hx : x < W) (hy : y < H) : impl_Goat_reaches.f g (sp x y) = some (decide (g.Rope = -1 ∨ sqI sx sy x y ≤ g.Rope)) := by
 have hW := k.hW
 have hH := k.hH
 have h1 := h.hsx
 have h2 := h.hsy
 have r0 := h.r0
 have r1 := h.r1
 have s0 := sq_le (sx := sx) (sy := sy) (x := x) (y := y) (by omega) (by omega) (by omega) (by omega)
 unfold impl_Goat_reaches.f
 by_cases c : g.Rope = -1
 ·rw [if_pos c, decide_eq_true (.inl c)]
 rw [if_neg c, h.Stake, sqImpl (by omega) (by omega) (by omega) (by omega), Option.bind_some, w64 (x := g.Rope) (by omega) (by omega)]
 exact congrArg some (decide_eq_decide.2 ⟨.inr, fun h => h.resolve_left c⟩)
theorem GK.self (h : GK W H ax ay sx sy g) : g.Rope = -1 ∨ sqI sx sy ax ay ≤ g.Rope := by
 have := h.r0
 by_cases c : g.Rope = -1
 ·exact .inl c
 exact .inr (h.near (by omega))
theorem PK.bad1 (k : PK W H Gr E S p rb) (h : GK W H ax ay sx sy g) : impl_ValidGoats_1.f p g = some false := by
 have e0 := h.e0
 have e1 := h.e1
 have l0 := h.l0
 have l1 := h.l1
 have r0 := h.r0
 have r1 := h.r1
 have hg : impl_isGoat.f g = some true := by
   unfold impl_isGoat.f
   by_cases c : g.Rope = -1
   · rw [if_neg (by simpa using c), h.free c, within_eq, within_eq, within_eq, w64 (x := g.Rope) (by omega) (by omega), w64 (x := g.Eats) (by omega) (by omega), w64 (x := g.Likes) (by omega) (by omega), decide_eq_true (show -1 ≤ g.Rope ∧ g.Rope ≤ 200 from ⟨r0, r1⟩), decide_eq_true (show 0 ≤ g.Eats ∧ g.Eats ≤ 100 from ⟨e0, e1⟩), decide_eq_true (show 0 ≤ g.Likes ∧ g.Likes ≤ 1 from ⟨l0, l1⟩)]
     rfl
   · rw [if_pos c, within_eq, within_eq, within_eq, w64 (x := g.Rope) (by omega) (by omega), w64 (x := g.Eats) (by omega) (by omega), w64 (x := g.Likes) (by omega) (by omega), decide_eq_true (show -1 ≤ g.Rope ∧ g.Rope ≤ 200 from ⟨r0, r1⟩), decide_eq_true (show 0 ≤ g.Eats ∧ g.Eats ≤ 100 from ⟨e0, e1⟩), decide_eq_true (show 0 ≤ g.Likes ∧ g.Likes ≤ 1 from ⟨l0, l1⟩)]
     rfl
 unfold impl_ValidGoats_1.f
 rw [h.At, (k.is_ h.hax h.hay).2, Option.bind_some, if_neg (by simp), h.Stake, (k.is_ h.hsx h.hsy).2, Option.bind_some, if_neg (by simp), hg, Option.bind_some, if_neg (by simp), k.reaches1 h h.hax h.hay, decide_eq_true h.self]
 rfl
theorem PK.validG (k : PK W H Gr E S p rb) (h : ∀ g ∈ l, okT W H g) (hl : l.length ≤ 20) : Ev (fun f => impl_ValidGoats.f f p l) true := by
 have key : ∀ i, i ≤ l.length → Ev (fun f => slices_IndexFunc_impl_Goat_impl_Goat.l1 l (impl_ValidGoats_1.f p) f (i : Int)) (.inr ()) := by
   refine upL ?_ ?_
   · exact Ev.step (fun k => slices_IndexFunc_impl_Goat_impl_Goat.l1.eq_2 _ _ _ _) (Ev.neg (by omega) (Ev.const rfl))
   · intro i hi ih
     rw [← wsucc hi (by omega)] at ih
     obtain ⟨ax, ay, sx, sy, hg⟩ := h _ (List.getElem_mem hi)
     exact Ev.step (fun k => slices_IndexFunc_impl_Goat_impl_Goat.l1.eq_2 _ _ _ _) (Ev.pos (by omega) (Ev.bind (Ev.const (getI_nat hi)) (Ev.bind (Ev.const (k.bad1 hg)) (Ev.neg (by simp) ih))))
 have hc : Ev (fun f => slices_ContainsFunc_impl_Goat_impl_Goat.f f l (impl_ValidGoats_1.f p)) false := Ev.bind (a := (-1 : Int)) ((key 0 (Nat.zero_le _)).bind (Ev.const rfl)) (Ev.const rfl)
 refine (implOk_ev k.v).bind ?_
 rw [k.p_ok]
 exact Ev.pos rfl (Ev.pos (by omega) (hc.bind (Ev.const rfl)))
theorem PK.codeG (k : PK W H Gr E S p rb) (h : ∀ g ∈ l, okT W H g) (hl : l.length ≤ 20) : Ev (fun f => impl_goatCode.f f p l) 0 := (k.validG h hl).bind (Ev.bind (Ev.const (unless_eq _ _)) (Ev.const rfl))
theorem one_goat (h : okT W H g) : ∀ g' ∈ [g], okT W H g' := fun g' hg => by rw [List.mem_singleton.1 hg]; exact h
theorem PK.goatS (k : PK W H Gr E S p rb) (h : GK W H ax ay sx sy g) : spec_l02Goat.f p g = some true := by
 have e0 := h.e0
 have e1 := h.e1
 have l0 := h.l0
 have l1 := h.l1
 have r0 := h.r0
 have r1 := h.r1
 have hW := k.hW
 have hH := k.hH
 have h1 := h.hsx
 have h2 := h.hsy
 have h3 := h.hax
 have h4 := h.hay
 have hp : spec_l02Plain.f g = some true := by
   unfold spec_l02Plain.f
   rw [l00In_eq, l00In_eq, l00In_eq, w64 (x := g.Rope) (by omega) (by omega), w64 (x := g.Eats) (by omega) (by omega), w64 (x := g.Likes) (by omega) (by omega), decide_eq_true ⟨r0, r1⟩, decide_eq_true ⟨e0, e1⟩, decide_eq_true ⟨l0, l1⟩]
   simp only [Option.bind_some, Bool.not_true, Bool.false_eq_true, if_false]
   by_cases c : 0 ≤ g.Rope
   · rw [if_pos c]
   · rw [if_neg c, h.free (by omega)]; rfl
 unfold spec_l02Goat.f
 rw [hp, Option.bind_some, if_pos rfl, h.At, (k.is_ h.hax h.hay).1, Option.bind_some, if_pos rfl, h.Stake, (k.is_ h.hsx h.hsy).1, Option.bind_some, if_pos rfl]
 by_cases c : g.Rope < 0
 ·rw [if_pos c]
 rw [if_neg c, sqSp (by omega) (by omega) (by omega) (by omega), Option.bind_some, w64 (x := g.Rope) (by omega) (by omega), decide_eq_true (h.near (by omega))]
theorem PK.oneS (k : PK W H Gr E S p rb) (h : okT W H g) : Ev (fun f => spec_l02One.f f p g) 0 := by
 obtain ⟨ax, ay, sx, sy, hg⟩ := h
 refine (specOk_ev k.v).bind ?_
 rw [k.p_ok]
 exact Ev.neg (by simp) (Ev.bind (Ev.const (k.goatS hg)) (Ev.neg (by simp) (Ev.const rfl)))
theorem PK.okS (k : PK W H Gr E S p rb) (h : ∀ g ∈ l, okT W H g) (hl : l.length ≤ 20) : Ev (fun f => spec_l02Ok.f f p l) true := by
 have key : ∀ i, i ≤ l.length → Ev (fun f => spec_l02Ok.l1 p l f (i : Int)) (.inr ()) := by
   refine upL ?_ ?_
   · exact Ev.step (fun k => spec_l02Ok.l1.eq_2 _ _ _ _) (Ev.neg (by omega) (Ev.const rfl))
   · intro i hi ih
     rw [← wsucc hi (by omega)] at ih
     obtain ⟨ax, ay, sx, sy, hg⟩ := h _ (List.getElem_mem hi)
     exact Ev.step (fun k => spec_l02Ok.l1.eq_2 _ _ _ _) (Ev.pos (by omega) (Ev.bind (Ev.const (getI_nat hi)) (Ev.bind (Ev.const (k.goatS hg)) (Ev.neg (by simp) ih))))
 refine (specOk_ev k.v).bind ?_
 rw [k.p_ok]
 exact Ev.neg (by simp) ((key 0 (Nat.zero_le _)).bind (Ev.const (by rw [decide_eq_true (by omega)])))
/-! ### Its cells -/
theorem PK.cellsI (k : PK W H Gr E S p rb) (h : okT W H g) : Ev (fun f => impl_Pasture_cellsFor.f f p g) (CG W H rb g) := by
 obtain ⟨ax, ay, sx, sy, hg⟩ := h
 have hlen := k.RS_len (rb ay ax)
 have hy := yardK_ev k.h k.hG k.hW k.hH k.hr hg.hax hg.hay
 rw [← hg.At] at hy
 have hd := deleteS_ev (gridF (rb ay ax) W 0 H) (g := fun _ => impl_Pasture_cellsFor_1.f g) (dl := fun s => !decide (g.Rope = -1 ∨ sqI sx sy s.X.toNat s.Y.toNat ≤ g.Rope)) (fun s hs => by
   obtain ⟨i, j, h1, h2, h3, _, rfl⟩ := gridF_mem.1 hs
   refine Ev.const ?_
   have e := k.reaches1 (x := j) (y := i) hg h3 (by omega)
   have e : impl_Goat_reaches.f g (⟨(j : Int), (i : Int)⟩ : Spot) = some (decide (g.Rope = -1 ∨ sqI sx sy j i ≤ g.Rope)) := e
   unfold impl_Pasture_cellsFor_1.f
   rw [e]; rfl) (by omega)
 rw [gridF_filter] at hd
 have e : gridF (fun y x => rb ay ax y x && !(fun s : Spot => !decide (g.Rope = -1 ∨ sqI sx sy s.X.toNat s.Y.toNat ≤ g.Rope)) (sp x y)) W 0 H = CG W H rb g := by
   unfold CG
   rw [hg.qe]
   refine gridF_congr _ _ fun i j h1 h2 h3 => ?_
   unfold sp
   simp
 rw [e] at hd
 exact hy.bind (hd.bind (Ev.const rfl))
theorem PK.yardS (k : PK W H Gr E S p rb) (hx : sx < W) (hy : sy < H) : Ev (fun f => spec_l01Yard.f f p (sp sx sy)) (gridF (rb sy sx) W 0 H) := by
 obtain ⟨Y, y1, y2, y3, y4⟩ := yard_rt k.h k.hG k.hW k.hH hx hy
 have := yardK_ev k.h k.hG k.hW k.hH k.hr hx hy
 rw [← y4.eq this]
 exact y3
theorem PK.cellsS (k : PK W H Gr E S p rb) (h : okT W H g) : Ev (fun f => spec_l02Cells.f f p g) (CG W H rb g) := by
 obtain ⟨ax, ay, sx, sy, hg⟩ := h
 have hlen := k.RS_len (rb ay ax)
 have hW := k.hW
 have hH := k.hH
 have h1 := hg.hsx
 have h2 := hg.hsy
 have r0 := hg.r0
 have r1 := hg.r1
 have hy := k.yardS hg.hax hg.hay
 rw [← hg.At] at hy
 have key : ∀ i, i ≤ (gridF (rb ay ax) W 0 H).length → ∀ acc : List Spot, acc.length ≤ i → Ev (fun f => spec_l02Cells.l1 g (gridF (rb ay ax) W 0 H) f acc (i : Int)) (acc ++ ((gridF (rb ay ax) W 0 H).drop i).filter fun s => decide (g.Rope = -1 ∨ sqI sx sy s.X.toNat s.Y.toNat ≤ g.Rope)) := by
   refine upL ?_ ?_
   · intro acc ha
     exact Ev.step (fun k => spec_l02Cells.l1.eq_2 _ _ _ _ _) (Ev.neg (by omega) (Ev.const (by rw [List.drop_length]; simp)))
   · intro i hi ih acc ha
     obtain ⟨x, y, hx, hy', e, _⟩ := (k.RS_in _).1 (List.getElem_mem hi)
     have gi := getI_nat hi
     have hb : Ev (fun _ => if g.Rope < 0 then some true else (getI (gridF (rb ay ax) W 0 H) (i : Int)).bind fun t13 => (spec_l02Square.f t13 g.Stake).bind fun t14 => some (decide (t14 ≤ IntKind.i64.wrap g.Rope))) (decide (g.Rope = -1 ∨ sqI sx sy x y ≤ g.Rope)) := by
       by_cases c : g.Rope < 0
       · rw [decide_eq_true (.inl (by omega))]
         exact Ev.pos c (Ev.const rfl)
       · refine Ev.neg c (Ev.const ?_)
         rw [gi, Option.bind_some, e, hg.Stake, sqSp (by omega) (by omega) (by omega) (by omega), Option.bind_some, w64 (x := g.Rope) (by omega) (by omega)]
         exact congrArg some (decide_eq_decide.2 ⟨.inr, fun h => h.resolve_left (by omega)⟩)
     have eq : decide (g.Rope = -1 ∨ sqI sx sy ((gridF (rb ay ax) W 0 H)[i]).X.toNat ((gridF (rb ay ax) W 0 H)[i]).Y.toNat ≤ g.Rope) = decide (g.Rope = -1 ∨ sqI sx sy x y ≤ g.Rope) := by rw [e]; unfold sp; simp
     rw [List.drop_eq_getElem_cons hi, List.filter_cons, eq]
     cases c : decide (g.Rope = -1 ∨ sqI sx sy x y ≤ g.Rope)
     · rw [c] at hb
       have ih := ih acc (by omega)
       rw [← wsucc hi (by omega)] at ih
       exact Ev.step (fun k => spec_l02Cells.l1.eq_2 _ _ _ _ _) (Ev.pos (by omega) (hb.bind (Ev.neg (by simp) ih)))
     · rw [c] at hb
       have ih := ih (acc ++ [(gridF (rb ay ax) W 0 H)[i]]) (by simp; omega)
       rw [← wsucc hi (by omega), List.append_assoc] at ih
       exact Ev.step (fun k => spec_l02Cells.l1.eq_2 _ _ _ _ _) (Ev.pos (by omega) (hb.bind (Ev.pos rfl (Ev.bind (Ev.const gi) (Ev.bind (Ev.const (chk_t (by simp; omega))) ih)))))
 have h0 := key 0 (Nat.zero_le _) [] (by simp)
 rw [List.nil_append, List.drop_zero, gridF_filter] at h0
 have e : gridF (fun y x => rb ay ax y x && (fun s : Spot => decide (g.Rope = -1 ∨ sqI sx sy s.X.toNat s.Y.toNat ≤ g.Rope)) (sp x y)) W 0 H = CG W H rb g := by
   unfold CG
   rw [hg.qe]
   refine gridF_congr _ _ fun i j h1 h2 h3 => ?_
   unfold sp
   simp
 rw [e] at h0
 exact hy.bind (h0.bind (Ev.const rfl))
theorem PK.cellsFor (k : PK W H Gr E S p rb) (h : okT W H g) : Ev (fun f => impl_CellsFor.f f p g) (CG W H rb g, 0) ∧ Ev (fun f => spec_CellsFor.f f p g) (CG W H rb g, 0) :=
  ⟨(k.codeG (one_goat h) (by simp)).bind (Ev.neg (by simp) ((k.cellsI h).bind (Ev.const rfl))), (k.oneS h).bind (Ev.neg (by simp) ((k.cellsS h).bind (Ev.const rfl)))⟩
theorem PK.own (k : PK W H Gr E S p rb) (h : okT W H g) : g.At ∈ CG W H rb g := by
 obtain ⟨ax, ay, sx, sy, hg⟩ := h
 unfold CG
 rw [hg.At, k.RS_sp _ hg.hax hg.hay, hg.qe]
 simp only [Bool.and_eq_true, decide_eq_true_eq]
 exact ⟨(k.hr _ _ _ _).2 Rt.refl, hg.self⟩
end Go.Proofs.YtokanemjghfadaaGreatDoor
/-
  Plain law: goats that can meet; who eats at a cell; bare cells; lists of spots and numbers.
-/
namespace Go.Proofs.YtokanemjghfadaaGreatDoor
open G
set_option linter.unusedVariables false
set_option linter.unusedSimpArgs false
variable {W H : Nat} {p q : Pasture} {Gr : Nat → Nat → Int} {E S : Nat → Nat → Bool} {y x b a sx sy ax ay : Nat} {r : Int} {rb : Nat → Nat → Nat → Nat → Bool} {g : Goat} {l : List Goat}
theorem hasSpotB {xs : List Spot} {c : Spot} (hl : xs.length ≤ 1000) : Ev (fun k => spec_A2HasSpot.f k xs c) (decide (c ∈ xs)) := by
 have key : ∀ i, i ≤ xs.length → ∃ r : Bool ⊕ Unit, Ev (fun k => spec_A2HasSpot.l1 xs c k (i : Int)) r ∧ ((c ∈ xs.drop i ∧ r = .inl true) ∨ (c ∉ xs.drop i ∧ r = .inr ())) := by
   refine upL ?_ ?_
   · exact ⟨.inr (), Ev.step (fun k => spec_A2HasSpot.l1.eq_2 _ _ _ _) (Ev.neg (by omega) (Ev.const rfl)), .inr ⟨by rw [List.drop_length]; simp, rfl⟩⟩
   · intro i hi ih
     obtain ⟨r, r1, r2⟩ := ih
     rw [← wsucc hi (by omega)] at r1
     rw [List.drop_eq_getElem_cons hi]
     by_cases e : xs[i] = c
     · exact ⟨.inl true, Ev.step (fun k => spec_A2HasSpot.l1.eq_2 _ _ _ _) (Ev.pos (by omega) (Ev.bind (Ev.const (getI_nat hi)) (Ev.pos e (Ev.const rfl)))), .inl ⟨by rw [e]; exact List.mem_cons_self .., rfl⟩⟩
     · refine ⟨r, Ev.step (fun k => spec_A2HasSpot.l1.eq_2 _ _ _ _) (Ev.pos (by omega) (Ev.bind (Ev.const (getI_nat hi)) (Ev.neg e r1))), ?_⟩
       rcases r2 with ⟨h1, h2⟩ | ⟨h1, h2⟩
       · exact .inl ⟨List.mem_cons_of_mem _ h1, h2⟩
       · exact .inr ⟨fun hm => (List.mem_cons.1 hm).elim (fun z => e z.symm) h1, h2⟩
 obtain ⟨r, r1, r2⟩ := key 0 (Nat.zero_le _)
 rw [List.drop_zero] at r2
 rcases r2 with ⟨h1, rfl⟩ | ⟨h1, rfl⟩
 ·rw [decide_eq_true h1]; exact r1.bind (Ev.const rfl)
 rw [decide_eq_false h1]; exact r1.bind (Ev.const rfl)
theorem hasB {xs : List Int} {c : Int} (hl : xs.length ≤ 1000) : Ev (fun k => spec_A2Has.f k xs c) (decide (c ∈ xs)) := by
 have key : ∀ i, i ≤ xs.length → ∃ r : Bool ⊕ Unit, Ev (fun k => spec_l00Has.l1 xs c k (i : Int)) r ∧ ((c ∈ xs.drop i ∧ r = .inl true) ∨ (c ∉ xs.drop i ∧ r = .inr ())) := by
   refine upL ?_ ?_
   · exact ⟨.inr (), Ev.step (fun k => spec_l00Has.l1.eq_2 _ _ _ _) (Ev.neg (by omega) (Ev.const rfl)), .inr ⟨by rw [List.drop_length]; simp, rfl⟩⟩
   · intro i hi ih
     obtain ⟨r, r1, r2⟩ := ih
     rw [← wsucc hi (by omega)] at r1
     rw [List.drop_eq_getElem_cons hi]
     by_cases e : xs[i] = c
     · exact ⟨.inl true, Ev.step (fun k => spec_l00Has.l1.eq_2 _ _ _ _) (Ev.pos (by omega) (Ev.bind (Ev.const (getI_nat hi)) (Ev.pos e (Ev.const rfl)))), .inl ⟨by rw [e]; exact List.mem_cons_self .., rfl⟩⟩
     · refine ⟨r, Ev.step (fun k => spec_l00Has.l1.eq_2 _ _ _ _) (Ev.pos (by omega) (Ev.bind (Ev.const (getI_nat hi)) (Ev.neg e r1))), ?_⟩
       rcases r2 with ⟨h1, h2⟩ | ⟨h1, h2⟩
       · exact .inl ⟨List.mem_cons_of_mem _ h1, h2⟩
       · exact .inr ⟨fun hm => (List.mem_cons.1 hm).elim (fun z => e z.symm) h1, h2⟩
 obtain ⟨r, r1, r2⟩ := key 0 (Nat.zero_le _)
 rw [List.drop_zero] at r2
 have hh : Ev (fun k => spec_l00Has.f k xs c) (decide (c ∈ xs)) := by
   rcases r2 with ⟨h1, rfl⟩ | ⟨h1, rfl⟩
   · rw [decide_eq_true h1]; exact r1.bind (Ev.const rfl)
   · rw [decide_eq_false h1]; exact r1.bind (Ev.const rfl)
 exact hh.bind (Ev.const rfl)
theorem samePairs_ev {xs : List (Arr 2 Int)} (hl : xs.length ≤ 1000) : Ev (fun k => spec_A2SamePairs.f k xs xs) true := by
 have key : ∀ i, i ≤ xs.length → Ev (fun k => spec_A2SamePairs.l1 xs xs k (i : Int)) (.inr ()) := by
   refine upL ?_ ?_
   · exact Ev.step (fun k => spec_A2SamePairs.l1.eq_2 _ _ _ _) (Ev.neg (by omega) (Ev.const rfl))
   · intro i hi ih
     rw [← wsucc hi (by omega)] at ih
     exact Ev.step (fun k => spec_A2SamePairs.l1.eq_2 _ _ _ _) (Ev.pos (by omega) (Ev.bind (Ev.const (getI_nat hi)) (Ev.bind (Ev.const (getI_nat hi)) (Ev.neg (by simp) ih))))
 exact Ev.neg (by simp) ((key 0 (Nat.zero_le _)).bind (Ev.const rfl))
/-! ### A mask of cells -/
theorem maskP_ev {L : List Spot} (hl : L.length ≤ 1000) (h : ∀ c ∈ L, ∃ x y : Nat, x < 10 ∧ y < 10 ∧ c = sp x y) : ∃ m : Tbb, Ev (fun k => spec_l01Mask.f k L) m ∧ ∀ b a, b < 10 → a < 10 → b2 m b a = decide (sp a b ∈ L) := by
 have key : ∀ i, i ≤ L.length → ∀ m : Tbb, (∀ b a, b < 10 → a < 10 → b2 m b a = decide (sp a b ∈ L.take i)) → ∃ m' : Tbb, Ev (fun k => spec_l01Mask.l1 L k m (i : Int)) m' ∧ ∀ b a, b < 10 → a < 10 → b2 m' b a = decide (sp a b ∈ L) := by
   refine upL ?_ ?_
   · intro m hm
     rw [List.take_length] at hm
     exact ⟨m, Ev.step (fun k => spec_l01Mask.l1.eq_2 _ _ _ _) (Ev.neg (by omega) (Ev.const rfl)), hm⟩
   · intro i hi ih m hm
     obtain ⟨x, y, hx, hy, e⟩ := h _ (List.getElem_mem hi)
     obtain ⟨m', e1, e2⟩ := ih (putT2 m y x true) (fun b a hb ha => by
       rw [b2_put m hy hx, List.take_add_one, List.getElem?_eq_getElem hi, e]
       by_cases c : y = b ∧ x = a
       · obtain ⟨rfl, rfl⟩ := c
         rw [if_pos ⟨rfl, rfl⟩, decide_eq_true (by simp)]
       · rw [if_neg c, hm b a hb ha]
         refine decide_eq_decide.2 ⟨fun h => List.mem_append_left _ h, fun h => ?_⟩
         rcases List.mem_append.1 h with h | h
         · exact h
         · simp only [Option.toList, List.mem_singleton] at h
           obtain ⟨rfl, rfl⟩ := sp_inj' h
           exact absurd ⟨rfl, rfl⟩ c)
     rw [← wsucc hi (by omega)] at e1
     have g := getI_nat hi
     refine ⟨m', Ev.step (fun k => spec_l01Mask.l1.eq_2 _ _ _ _) (Ev.pos (by omega) (Ev.bind (Ev.const g) (Ev.bind (Ev.const g) (Ev.bind (a := bR m y) (Ev.const (by rw [e]; exact getBR m hy)) (Ev.bind (a := bA (bR m y) x) (Ev.const (by rw [e]; exact getBA _ hx)) ?_))))), e2⟩
     have e3 : aset m (L[i]).Y.toNat (aset (bR m y) (L[i]).X.toNat true) = putT2 m y x true := by
       rw [e]
       unfold putT2 sp
       simp
     rw [e3]; exact e1
 obtain ⟨m', e1, e2⟩ := key 0 (Nat.zero_le _) (Arr.mk' (Arr.mk' false : Arr 10 Bool) : Tbb) (fun b a hb ha => by rw [b2_zero hb ha]; simp)
 exact ⟨m', e1.bind (Ev.const rfl), e2⟩
theorem PK.maskG (k : PK W H Gr E S p rb) (q : Nat → Nat → Bool) : ∃ m : Tbb, Ev (fun f => spec_l01Mask.f f (gridF q W 0 H)) m ∧ ∀ b a, b < H → a < W → b2 m b a = q b a := by
 have hW := k.hW
 have hH := k.hH
 have hl := k.RS_len q
 obtain ⟨m, m1, m2⟩ := maskP_ev (L := gridF q W 0 H) (by omega) (fun c hc => by
   obtain ⟨x, y, hx, hy, e, _⟩ := (k.RS_in q).1 hc
   exact ⟨x, y, by omega, by omega, e⟩)
 refine ⟨m, m1, fun b a hb ha => ?_⟩
 rw [m2 b a (by omega) (by omega), Bool.eq_iff_iff, decide_eq_true_eq, k.RS_sp q ha hb]
/-! ### Goats that can meet -/
theorem PK.meet2 (k : PK W H Gr E S p rb) (h : ∀ g ∈ l, okT W H g) (hl : l.length ≤ 20) : ∃ P : List (Arr 2 Int), Ev (fun f => impl_CanMeet.f f p l) (P, 0) ∧ Ev (fun f => spec_CanMeet.f f p l) (P, 0) ∧ P.length ≤ 1000 := by
 have hml : (l.map (CG W H rb)).length = l.length := List.length_map _
 have hW := k.hW
 have hH := k.hH
 have gi : ∀ i (hi : i < l.length), getI (l.map (CG W H rb)) (i : Int) = some (CG W H rb l[i]) := fun i hi => by
   rw [getI_nat (show i < (l.map (CG W H rb)).length by omega), List.getElem_map]
 have any : ∀ (m : Tbb) (q q' : Nat → Nat → Bool), (∀ b a, b < H → a < W → b2 m b a = q b a) → Ev (fun f => spec_CanMeet.l3 m (gridF q' W 0 H) f false 0) (decide (0 < (cL W H q q').length)) := fun m q q' hm => by
   have hlen := k.RS_len q'
   have key : ∀ i, i ≤ (gridF q' W 0 H).length → ∀ v : Bool, Ev (fun f => spec_CanMeet.l3 m (gridF q' W 0 H) f v (i : Int)) (v || ((gridF q' W 0 H).drop i).any fun c => q c.Y.toNat c.X.toNat) := by
     refine upL ?_ ?_
     · intro v
       exact Ev.step (fun k => spec_CanMeet.l3.eq_2 _ _ _ _ _) (Ev.neg (by omega) (Ev.const (by rw [List.drop_length]; simp)))
     · intro i hi ih v
       rw [List.drop_eq_getElem_cons hi, List.any_cons]
       cases v
       · obtain ⟨x, y, hx, hy, e, _⟩ := (k.RS_in q').1 (List.getElem_mem hi)
         have g := getI_nat hi
         have e1 : q ((gridF q' W 0 H)[i]).Y.toNat ((gridF q' W 0 H)[i]).X.toNat = b2 m y x := by
           rw [e, hm y x hy hx]; unfold sp; simp
         have h1 := ih (b2 m y x)
         rw [← wsucc hi (by omega)] at h1
         rw [e1, Bool.false_or]
         exact Ev.step (fun k => spec_CanMeet.l3.eq_2 _ _ _ _ _) (Ev.pos (by omega) (Ev.neg (by simp) (Ev.bind (Ev.const g) (Ev.bind (Ev.const g) (Ev.bind (a := bR m y) (Ev.const (by rw [e]; exact getBR m (by omega))) (Ev.bind (a := bA (bR m y) x) (Ev.const (by rw [e]; exact getBA _ (by omega))) h1))))))
       · have h1 := ih true
         rw [← wsucc hi (by omega), Bool.true_or] at h1
         rw [Bool.true_or]
         exact Ev.step (fun k => spec_CanMeet.l3.eq_2 _ _ _ _ _) (Ev.pos (by omega) (Ev.pos rfl h1))
   have h0 := key 0 (Nat.zero_le _) false
   rw [Bool.false_or, List.drop_zero] at h0
   have e : ((gridF q' W 0 H).any fun c => q c.Y.toNat c.X.toNat) = decide (0 < (cL W H q q').length) := by
     rw [Bool.eq_iff_iff, decide_eq_true_eq, k.cL_pos, List.any_eq_true]
     constructor
     · rintro ⟨c, hc, hq⟩
       obtain ⟨x, y, hx, hy, rfl, hq'⟩ := (k.RS_in q').1 hc
       exact ⟨x, y, hx, hy, by simpa [sp] using hq, hq'⟩
     · rintro ⟨x, y, hx, hy, hq, hq'⟩
       exact ⟨sp x y, (k.RS_sp q' hx hy).2 hq', by simpa [sp] using hq⟩
   rw [e] at h0
   exact h0
 have inner : ∀ i (hi : i < l.length) (m : Tbb), (∀ b a, b < H → a < W → b2 m b a = qG rb l[i] b a) → ∀ j, j ≤ l.length → ∀ acc : List (Arr 2 Int), acc.length ≤ 30 * i + j → ∃ P : List (Arr 2 Int), Ev (fun f => impl_pairs.l2 (l.map (CG W H rb)) (i : Int) (CG W H rb l[i]) f acc (j : Int)) (acc ++ P) ∧ Ev (fun f => spec_CanMeet.l2 p l (i : Int) m f acc (j : Int)) (acc ++ P) ∧ P.length ≤ l.length - j := fun i hi m hm => by
   refine upL ?_ ?_
   · intro acc ha
     exact ⟨[], by rw [List.append_nil]; exact Ev.step (fun k => impl_pairs.l2.eq_2 _ _ _ _ _ _) (Ev.neg (by omega) (Ev.const rfl)), by rw [List.append_nil]; exact Ev.step (fun k => spec_CanMeet.l2.eq_2 _ _ _ _ _ _ _) (Ev.neg (by omega) (Ev.const rfl)), by simp⟩
   · intro j hj ih acc ha
     have e : IntKind.i64.wrap ((j : Int) + 1) = ((j + 1 : Nat) : Int) := wsucc (n := l.length) hj (by omega)
     have hcS := k.cellsS (h _ (List.getElem_mem hj))
     have hany := any m (qG rb l[i]) (qG rb l[j]) hm
     by_cases c : 0 < (cL W H (qG rb l[i]) (qG rb l[j])).length
     · obtain ⟨P, p1, p2, p3⟩ := ih (acc ++ [pr i j]) (by simp; omega)
       rw [← e, List.append_assoc] at p1 p2
       rw [decide_eq_true c] at hany
       exact ⟨[pr i j] ++ P, Ev.step (fun k => impl_pairs.l2.eq_2 _ _ _ _ _ _) (Ev.pos (by omega) (Ev.bind (Ev.const (gi j hj)) ((k.common _ _).bind (Ev.pos (by omega) (Ev.bind (Ev.const (chk_t (by simp; omega))) p1))))),
         Ev.step (fun k => spec_CanMeet.l2.eq_2 _ _ _ _ _ _ _) (Ev.pos (by omega) (Ev.bind (a := acc ++ [pr i j]) (Ev.bind (Ev.const (getI_nat hj)) (hcS.bind (hany.bind (Ev.pos rfl (Ev.bind (Ev.const (chk_t (by simp; omega))) (Ev.const rfl)))))) p2)), by simp; omega⟩
     · obtain ⟨P, p1, p2, p3⟩ := ih acc (by omega)
       rw [← e] at p1 p2
       rw [decide_eq_false c] at hany
       exact ⟨P, Ev.step (fun k => impl_pairs.l2.eq_2 _ _ _ _ _ _) (Ev.pos (by omega) (Ev.bind (Ev.const (gi j hj)) ((k.common _ _).bind (Ev.neg (by omega) p1)))),
         Ev.step (fun k => spec_CanMeet.l2.eq_2 _ _ _ _ _ _ _) (Ev.pos (by omega) (Ev.bind (a := acc) (Ev.bind (Ev.const (getI_nat hj)) (hcS.bind (hany.bind (Ev.neg (by simp) (Ev.const rfl))))) p2)), by omega⟩
 have key : ∀ i, i ≤ l.length → ∀ acc : List (Arr 2 Int), acc.length ≤ 30 * i → ∃ P : List (Arr 2 Int), Ev (fun f => impl_pairs.l1 (l.map (CG W H rb)) f acc (i : Int)) (acc ++ P) ∧ Ev (fun f => spec_CanMeet.l1 p l f acc (i : Int)) (acc ++ P) ∧ P.length ≤ 30 * (l.length - i) := by
   refine upL ?_ ?_
   · intro acc ha
     exact ⟨[], by rw [List.append_nil]; exact Ev.step (fun k => impl_pairs.l1.eq_2 _ _ _ _) (Ev.neg (by omega) (Ev.const rfl)), by rw [List.append_nil]; exact Ev.step (fun k => spec_CanMeet.l1.eq_2 _ _ _ _ _) (Ev.neg (by omega) (Ev.const rfl)), by simp⟩
   · intro i hi ih acc ha
     obtain ⟨m, m1, m2⟩ := k.maskG (qG rb l[i])
     obtain ⟨P1, a1, a2, a3⟩ := inner i hi m m2 (i + 1) (by omega) acc (by omega)
     have e : IntKind.i64.wrap ((i : Int) + 1) = ((i + 1 : Nat) : Int) := wsucc (n := l.length) hi (by omega)
     obtain ⟨P, p1, p2, p3⟩ := ih (acc ++ P1) (by rw [List.length_append]; omega)
     rw [← e, List.append_assoc] at p1 p2
     rw [← e] at a1 a2
     exact ⟨P1 ++ P, Ev.step (fun k => impl_pairs.l1.eq_2 _ _ _ _) (Ev.pos (by omega) (Ev.bind (Ev.bind (Ev.const (gi i hi)) (a1.bind (Ev.const rfl))) p1)),
       Ev.step (fun k => spec_CanMeet.l1.eq_2 _ _ _ _ _) (Ev.pos (by omega) (Ev.bind (Ev.bind (Ev.const (getI_nat hi)) ((k.cellsS (h _ (List.getElem_mem hi))).bind (m1.bind (a2.bind (Ev.const rfl))))) p2)), by rw [List.length_append]; omega⟩
 obtain ⟨P, p1, p2, p3⟩ := key 0 (Nat.zero_le _) [] (by simp)
 rw [List.nil_append] at p1 p2
 have lists : ∀ i, i ≤ l.length → ∀ acc : List (List Spot), acc.length ≤ i → Ev (fun f => impl_CanMeet.l1 p l f acc (i : Int)) (acc ++ (l.drop i).map (CG W H rb)) := by
   refine upL ?_ ?_
   · intro acc ha
     exact Ev.step (fun k => impl_CanMeet.l1.eq_2 _ _ _ _ _) (Ev.neg (by omega) (Ev.const (by rw [List.drop_length]; simp)))
   · intro i hi ih acc ha
     have ih := ih (acc ++ [CG W H rb l[i]]) (by simp; omega)
     rw [← wsucc hi (by omega), List.append_assoc] at ih
     rw [List.drop_eq_getElem_cons hi]
     exact Ev.step (fun k => impl_CanMeet.l1.eq_2 _ _ _ _ _) (Ev.pos (by omega) (Ev.bind (Ev.const (getI_nat hi)) ((k.cellsI (h _ (List.getElem_mem hi))).bind (Ev.bind (Ev.const (chk_t (by simp; omega))) ih))))
 have h0 := lists 0 (Nat.zero_le _) [] (by simp)
 rw [List.nil_append, List.drop_zero] at h0
 exact ⟨P, (k.codeG h hl).bind (Ev.neg (by simp) (h0.bind (Ev.bind (p1.bind (Ev.const rfl)) (Ev.const rfl)))), (k.okS h hl).bind (Ev.neg (by simp) (p2.bind (Ev.const rfl))), by omega⟩
/-! ### Who eats at a cell; cells without grass -/
theorem PK.cellC (k : PK W H Gr E S p rb) {xs : List Spot} (hl : xs.length ≤ 1000) (h : ∀ s ∈ xs, ∃ x y : Nat, x < W ∧ y < H ∧ s = sp x y) : Ev (fun f => impl_cellCode.f f p xs) 0 := by
 have eW : p.Wide.toNat = W := by rw [k.h.w]; omega
 have eH : p.High.toNat = H := by rw [k.h.h]; omega
 exact cells_code k.v k.p_ok hl (by rw [eW, eH]; exact h)
theorem PK.who (k : PK W H Gr E S p rb) (h : ∀ g ∈ l, okT W H g) (hl : l.length ≤ 20) (hx : x < W) (hy : y < H) : ∃ L : List Int, Ev (fun f => impl_WhoEatsAt.f f p l (sp x y)) (L, 0) ∧ L.length ≤ 20 ∧ ∀ i (hi : i < l.length), qG rb l[i] y x = true → (i : Int) ∈ L := by
 have key : ∀ i, i ≤ l.length → ∀ acc : List Int, acc.length ≤ i → ∃ L : List Int, Ev (fun f => impl_WhoEatsAt.l1 p l (sp x y) f acc (i : Int)) (acc ++ L) ∧ L.length ≤ l.length - i ∧ ∀ j (hj : j < l.length), i ≤ j → qG rb l[j] y x = true → (j : Int) ∈ L := by
   refine upL ?_ ?_
   · intro acc ha
     exact ⟨[], by rw [List.append_nil]; exact Ev.step (fun k => impl_WhoEatsAt.l1.eq_2 _ _ _ _ _ _) (Ev.neg (by omega) (Ev.const rfl)), by simp, fun j hj h1 => by omega⟩
   · intro i hi ih acc ha
     have hlen := k.RS_len (qG rb l[i])
     have hc := contS_ev (CG W H rb l[i]) (sp x y) (by unfold CG; omega)
     have e : IntKind.i64.wrap ((i : Int) + 1) = ((i + 1 : Nat) : Int) := wsucc (n := l.length) hi (by omega)
     by_cases c : sp x y ∈ CG W H rb l[i]
     · rw [decide_eq_true c] at hc
       obtain ⟨L, l1, l2, l3⟩ := ih (acc ++ [(i : Int)]) (by simp; omega)
       rw [← e, List.append_assoc] at l1
       refine ⟨[(i : Int)] ++ L, Ev.step (fun k => impl_WhoEatsAt.l1.eq_2 _ _ _ _ _ _) (Ev.pos (by omega) (Ev.bind (Ev.const (getI_nat hi)) ((k.cellsI (h _ (List.getElem_mem hi))).bind (hc.bind (Ev.pos rfl (Ev.bind (Ev.const (chk_t (by simp; omega))) l1)))))), by simp; omega, fun j hj h1 h2 => ?_⟩
       by_cases z : j = i
       · subst z; simp
       · exact List.mem_append_right _ (l3 j hj (by omega) h2)
     · rw [decide_eq_false c] at hc
       obtain ⟨L, l1, l2, l3⟩ := ih acc (by omega)
       rw [← e] at l1
       refine ⟨L, Ev.step (fun k => impl_WhoEatsAt.l1.eq_2 _ _ _ _ _ _) (Ev.pos (by omega) (Ev.bind (Ev.const (getI_nat hi)) ((k.cellsI (h _ (List.getElem_mem hi))).bind (hc.bind (Ev.neg (by simp) l1))))), by omega, fun j hj h1 h2 => ?_⟩
       by_cases z : j = i
       · subst z
         exact absurd ((k.RS_sp _ hx hy).2 h2) c
       · exact l3 j hj (by omega) h2
 obtain ⟨L, l1, l2, l3⟩ := key 0 (Nat.zero_le _) [] (by simp)
 rw [List.nil_append] at l1
 have hcc := k.cellC (xs := [sp x y]) (by simp) (fun s hs => ⟨x, y, hx, hy, List.mem_singleton.1 hs⟩)
 exact ⟨L, (k.codeG h hl).bind (hcc.bind (firstOf0.bind (Ev.neg (by simp) (l1.bind (Ev.const rfl))))), by omega, fun i hi => l3 i hi (Nat.zero_le _)⟩
theorem PK.grassI (k : PK W H Gr E S p rb) (hx : x < W) (hy : y < H) : impl_Pasture_grass.f p (sp x y) = some (Gr y x) := by
 have hW := k.hW
 have hH := k.hH
 have hg := k.hG y x hx hy
 have eg := k.h.eG hW.2 hH.2 hx hy
 unfold impl_Pasture_grass.f
 show ((getI p.Grass.l ((y : Nat) : Int)).bind _) = _
 rw [getR _ (by omega), Option.bind_some]
 show ((getI (gR p.Grass y).l ((x : Nat) : Int)).bind _) = _
 rw [getA _ (by omega), Option.bind_some]
 show some (IntKind.i64.wrap (gG p y x)) = _
 rw [eg, w64 (by omega) (by omega)]
theorem PK.grassAt (k : PK W H Gr E S p rb) (hx : x < W) (hy : y < H) : getI p.Grass.l ((sp x y).Y) = some (gR p.Grass y) ∧ getI (gR p.Grass y).l ((sp x y).X) = some (Gr y x) := by
 have hW := k.hW
 have hH := k.hH
 have eg := k.h.eG hW.2 hH.2 hx hy
 refine ⟨getR _ (by omega), ?_⟩
 show getI (gR p.Grass y).l ((x : Nat) : Int) = _
 rw [getA _ (by omega)]
 exact congrArg some eg
def BL (W H : Nat) (Gr : Nat → Nat → Int) : List Spot := gridF (fun y x => decide (Gr y x = 0)) W 0 H
theorem PK.bare (k : PK W H Gr E S p rb) : Ev (fun f => impl_BareCells.f f p) (BL W H Gr, 0) := by
 have eW : p.Wide.toNat = W := by rw [k.h.w]; omega
 have eH : p.High.toNat = H := by rw [k.h.h]; omega
 have hc : ∀ f, 24 ≤ f → impl_Pasture_cells.f f p (impl_BareCells_1.f p) = some (gridF (fun y x => decide (Gr y x = 0)) p.Wide.toNat 0 p.High.toNat) := fun f hf => cells_eq k.w (fun y x hy hx => by
   have := k.grassI (x := x) (y := y) (by omega) (by omega)
   unfold impl_BareCells_1.f
   have e : impl_Pasture_grass.f p (⟨(x : Int), (y : Int)⟩ : Spot) = some (Gr y x) := this
   rw [e]; rfl) hf
 rw [eW, eH] at hc
 refine (implOk_ev k.v).bind ?_
 rw [k.p_ok]
 exact Ev.neg (by simp) (Ev.bind ⟨24, hc⟩ (Ev.const rfl))
theorem PK.yardOf (k : PK W H Gr E S p rb) (hx : x < W) (hy : y < H) : Ev (fun f => impl_YardOf.f f p (sp x y)) (gridF (rb y x) W 0 H, 0) := by
 have hcc := k.cellC (xs := [sp x y]) (by simp) (fun s hs => ⟨x, y, hx, hy, List.mem_singleton.1 hs⟩)
 exact hcc.bind (Ev.neg (by simp) ((yardK_ev k.h k.hG k.hW k.hH k.hr hx hy).bind (Ev.const rfl)))
end Go.Proofs.YtokanemjghfadaaGreatDoor
