import Derived.Test.YtegibnmfiogebaaGreatDoorQC
/-
  Plain laws: yards: both programs find the same ones.
-/
namespace Go.Proofs.YtegibnmfiogebaaGreatDoor
open G
set_option linter.unusedVariables false
set_option linter.unusedSimpArgs false
section
theorem rowT_len (y : Nat) : ∀ n x : Nat, (rowF (fun _ => true) y x n).length = n
  | 0, x => rfl
  | n + 1, x => by
    have := rowT_len y n (x + 1)
    simp [rowF, this]
theorem gridT_len (W : Nat) : ∀ n y : Nat, (gridF (fun _ _ => true) W y n).length = n * W
  | 0, y => by simp [gridF]
  | n + 1, y => by
    rw [gridF, List.length_append, rowT_len, gridT_len W n (y + 1), Nat.add_mul]; omega
def isYard (p : Pasture) (Y : List Spot) : Prop := ∃ q : Nat → Nat → Bool, Y = gridF q p.Wide.toNat 0 p.High.toNat
theorem sp_inj {x y x' y' : Nat} : sp x y = sp x' y' ↔ x = x' ∧ y = y' := by
 unfold sp
 constructor
 ·intro h
  injection h with h1 h2
  exact ⟨by omega, by omega⟩
 rintro ⟨rfl, rfl⟩; rfl
end
section
def okC (p : Pasture) (xs : List Spot) : Bool := xs.all fun s => cellB p s.X s.Y
def cCode (p : Pasture) (xs : List Spot) : Int := if vP p = false then 1 else if okC p xs = true then 0 else 2
theorem all_loop {p : Pasture} (v : VPasture p) (xs : List Spot) (hv : ∀ s ∈ xs, VSpot s) (hx : xs.length ≤ 1048576) : ∀ i, i ≤ xs.length → Ev (fun k => q1y.l1 p xs k (i : Int)) (if okC p (xs.drop i) = true then .inr () else .inl 2) := by
 refine upL ?_ ?_
 ·rw [List.drop_length]
  exact Ev.step (fun k => q1y.l1.eq_2 _ _ _ _) (Ev.neg (by omega) (Ev.const rfl))
 intro i hi ih
 rw [← wsucc hi (by omega)] at ih
 have hs := l01Is_eq v xs[i] (hv _ (List.getElem_mem hi))
 refine Ev.step (fun k => q1y.l1.eq_2 _ _ _ _) (Ev.pos (by omega) (Ev.bind (Ev.const (getI_nat hi)) (Ev.bind (Ev.const hs) ?_)))
 rw [List.drop_eq_getElem_cons hi]
 unfold okC at ih ⊢
 rw [List.all_cons]
 cases h : cellB p xs[i].X xs[i].Y
 ·exact Ev.pos rfl (Ev.const rfl)
 exact Ev.neg (by simp) (by simpa using ih)
theorem specAll_ev {p : Pasture} (v : VPasture p) (xs : List Spot) (hv : ∀ s ∈ xs, VSpot s) (hx : xs.length ≤ 1048576) : Ev (fun k => q1y.f k p xs) (cCode p xs) := by
 have h := all_loop v xs hv hx 0 (Nat.zero_le _)
 rw [List.drop_zero] at h
 unfold cCode
 refine (specOk_ev v).bind ?_
 cases vP p
 ·exact Ev.pos rfl (Ev.const rfl)
 refine Ev.neg (by simp) (Ev.bind h ?_)
 cases okC p xs <;> exact Ev.const rfl
theorem idx_loop {p : Pasture} (v : VPasture p) (hw : okW p = true) (xs : List Spot) (hv : ∀ s ∈ xs, VSpot s) (hx : xs.length ≤ 1048576) : ∀ i, i ≤ xs.length → ∃ r : Int ⊕ Unit, Ev (fun k => q03.l1 xs (q2f.f p) k (i : Int)) r ∧ ((okC p (xs.drop i) = true ∧ r = .inr ()) ∨ (okC p (xs.drop i) = false ∧ ∃ j : Nat, r = .inl (j : Int))) := by
 refine upL ?_ ?_
 ·rw [List.drop_length]
  exact ⟨.inr (), Ev.step (fun k => q03.l1.eq_2 _ _ _ _) (Ev.neg (by omega) (Ev.const rfl)), .inl ⟨rfl, rfl⟩⟩
 intro i hi ih
 obtain ⟨r, h1, h2⟩ := ih
 rw [← wsucc hi (by omega)] at h1
 have hs : q2f.f p xs[i] = some (!cellB p xs[i].X xs[i].Y) := by
   unfold q2f.f
   rw [isCell_eq v hw xs[i] (hv _ (List.getElem_mem hi))]; rfl
 rw [List.drop_eq_getElem_cons hi]
 unfold okC at h2 ⊢
 rw [List.all_cons]
 cases h : cellB p xs[i].X xs[i].Y
 ·rw [h] at hs
  exact ⟨.inl (i : Int), Ev.step (fun k => q03.l1.eq_2 _ _ _ _) (Ev.pos (by omega) (Ev.bind (Ev.const (getI_nat hi)) (Ev.bind (Ev.const hs) (Ev.pos rfl (Ev.const rfl))))), .inr ⟨rfl, i, rfl⟩⟩
 rw [h] at hs
 exact ⟨r, Ev.step (fun k => q03.l1.eq_2 _ _ _ _) (Ev.pos (by omega) (Ev.bind (Ev.const (getI_nat hi)) (Ev.bind (Ev.const hs) (Ev.neg (by simp) h1)))), by simpa using h2⟩
theorem cellCode_ev {p : Pasture} (v : VPasture p) (xs : List Spot) (hv : ∀ s ∈ xs, VSpot s) (hx : xs.length ≤ 1048576) : Ev (fun k => q22.f k p xs) (cCode p xs) := by
 unfold cCode
 refine (implOk_ev v).bind ?_
 cases hp : vP p
 ·exact Ev.pos rfl (Ev.const rfl)
 refine Ev.neg (by simp) ?_
 obtain ⟨r, h1, h2⟩ := idx_loop v (vP_okW hp) xs hv hx 0 (Nat.zero_le _)
 rw [List.drop_zero] at h2
 rcases h2 with ⟨a, rfl⟩ | ⟨a, j, rfl⟩
 ·rw [a]
  exact Ev.bind (Ev.bind (Ev.bind h1 (Ev.const rfl)) (Ev.const rfl)) (Ev.bind (Ev.const (unless_eq _ _)) (Ev.const rfl))
 rw [a]
 refine Ev.bind (a := true) (Ev.bind (Ev.bind h1 (Ev.const rfl)) (Ev.const ?_)) (Ev.bind (Ev.const (unless_eq _ _)) (Ev.const rfl))
 rw [decide_eq_true (by omega)]
end
section
def stepP (p : Pasture) (y x y' x' : Nat) : Prop := y' < 10 ∧ x' < 10 ∧ ∃ i : Nat, i < 4 ∧ openB p x y i = true ∧ nx (sp x y) (i : Int) = sp x' y'
def closedT (p : Pasture) (T : Nat → Nat → Prop) : Prop := ∀ y x y' x', y < 10 → x < 10 → T y x → stepP p y x y' x' → T y' x'
structure Kx (p : Pasture) (sy sx : Nat) (m n : Tb) (q : List Spot) : Prop where
  rl : Rl m n q
  inq : ∀ b a, b < 10 → a < 10 → 0 ≤ g2 m b a → sp a b ∈ q
  mkd : ∀ b a, b < 10 → a < 10 → sp a b ∈ q → 0 ≤ g2 m b a
  min : ∀ T : Nat → Nat → Prop, closedT p T → T sy sx → ∀ b a, b < 10 → a < 10 → 0 ≤ g2 m b a → T b a
theorem sp_inj' {x y x' y' : Nat} (h : sp x y = sp x' y') : x = x' ∧ y = y' := by
 unfold sp at h
 injection h with h1 h2
 exact ⟨by omega, by omega⟩
theorem Kx.put {p : Pasture} {sy sx : Nat} {m n : Tb} {q : List Spot} (h : Kx p sy sx m n q) {y x y' x' : Nat} (hy : y < 10) (hx : x < 10) (hm : 0 ≤ g2 m y x) (hs : stepP p y x y' x') (hg : g2 m y' x' < 0) : Kx p sy sx (put2 m y' x' (g2 m y x + 1)) (put2 n y' x' (g2 n y x + 1)) (q ++ [sp x' y']) := by
 obtain ⟨hy', hx', _⟩ := id hs
 refine ⟨h.rl.put hy hx hy' hx' hg, fun b a hb ha hp => ?_, fun b a hb ha hp => ?_, fun T hT h0 b a hb ha hp => ?_⟩
 ·rw [g2_put m hy' hx'] at hp
  split at hp
  ·rename_i e
   rw [← e.1, ← e.2]; simp
  exact List.mem_append_left _ (h.inq b a hb ha hp)
 ·rw [g2_put m hy' hx']
  split
  ·omega
  rename_i e
  rcases List.mem_append.1 hp with hp | hp
  ·exact h.mkd b a hb ha hp
  have := sp_inj' (List.mem_singleton.1 hp)
  exact absurd ⟨this.2.symm, this.1.symm⟩ e
 rw [g2_put m hy' hx'] at hp
 split at hp
 ·rename_i e
  rw [← e.1, ← e.2]
  exact hT y x y' x' hy hx (h.min T hT h0 y x hy hx hm) hs
 exact h.min T hT h0 b a hb ha hp
theorem step_back {p : Pasture} (hw : okW p = true) {y x y' x' : Nat} (hy : y < 10) (hx : x < 10) (hc : cellB p (x : Int) (y : Int) = true) (h : stepP p y x y' x') : stepP p y' x' y x := by
 obtain ⟨hy', hx', i, hi, ho, e⟩ := h
 have hc' := ho
 unfold openB at hc'
 rw [Bool.and_eq_true] at hc'
 obtain ⟨c1, c2⟩ := hc'
 have ex : nx (sp x y) (i : Int) = sp x' y' := e
 rcases side hi with rfl | rfl | rfl | rfl
 ·have e2 : (sp x' y').Y = IntKind.i8.wrap ((y : Int) - 1) ∧ (sp x' y').X = (x : Int) := by rw [← ex]; exact ⟨rfl, rfl⟩
  rw [w8 (by omega) (by omega)] at e2
  have e3 : (y' : Int) = (y : Int) - 1 := e2.1
  have e4 : (x' : Int) = (x : Int) := e2.2
  obtain rfl : x' = x := by omega
  obtain rfl : y = y' + 1 := by omega
  have en : nx (sp x' y') ((2 : Nat) : Int) = sp x' (y' + 1) := by
    show (⟨(x' : Int), IntKind.i8.wrap ((y' : Int) + 1)⟩ : Spot) = _
    rw [w8 (by omega) (by omega)]; rfl
  refine ⟨hy, hx, 2, by omega, ?_, en⟩
  unfold openB
  rw [en, Bool.and_eq_true]
  exact ⟨hc, c2⟩
 ·have e2 : (sp x' y').Y = (y : Int) ∧ (sp x' y').X = IntKind.i8.wrap ((x : Int) + 1) := by rw [← ex]; exact ⟨rfl, rfl⟩
  rw [w8 (by omega) (by omega)] at e2
  have e3 : (y' : Int) = (y : Int) := e2.1
  have e4 : (x' : Int) = (x : Int) + 1 := e2.2
  obtain rfl : y' = y := by omega
  obtain rfl : x' = x + 1 := by omega
  have en : nx (sp (x + 1) y') ((3 : Nat) : Int) = sp x y' := by
    show (⟨IntKind.i8.wrap (((x + 1 : Nat) : Int) - 1), (y' : Int)⟩ : Spot) = _
    rw [w8 (by omega) (by omega)]
    unfold sp
    congr 1
    omega
  refine ⟨hy, hx, 3, by omega, ?_, en⟩
  unfold openB
  rw [en, Bool.and_eq_true]
  exact ⟨hc, c2⟩
 ·have e2 : (sp x' y').Y = IntKind.i8.wrap ((y : Int) + 1) ∧ (sp x' y').X = (x : Int) := by rw [← ex]; exact ⟨rfl, rfl⟩
  rw [w8 (by omega) (by omega)] at e2
  have e3 : (y' : Int) = (y : Int) + 1 := e2.1
  have e4 : (x' : Int) = (x : Int) := e2.2
  obtain rfl : x' = x := by omega
  obtain rfl : y' = y + 1 := by omega
  have en : nx (sp x' (y + 1)) ((0 : Nat) : Int) = sp x' y := by
    show (⟨(x' : Int), IntKind.i8.wrap (((y + 1 : Nat) : Int) - 1)⟩ : Spot) = _
    rw [w8 (by omega) (by omega)]
    unfold sp
    congr 1
    omega
  refine ⟨hy, hx, 0, by omega, ?_, en⟩
  unfold openB
  rw [en, Bool.and_eq_true]
  exact ⟨hc, c2⟩
 have e2 : (sp x' y').Y = (y : Int) ∧ (sp x' y').X = IntKind.i8.wrap ((x : Int) - 1) := by rw [← ex]; exact ⟨rfl, rfl⟩
 rw [w8 (by omega) (by omega)] at e2
 have e3 : (y' : Int) = (y : Int) := e2.1
 have e4 : (x' : Int) = (x : Int) - 1 := e2.2
 obtain rfl : y' = y := by omega
 obtain rfl : x = x' + 1 := by omega
 have en : nx (sp x' y') ((1 : Nat) : Int) = sp (x' + 1) y' := by
   show (⟨IntKind.i8.wrap ((x' : Int) + 1), (y' : Int)⟩ : Spot) = _
   rw [w8 (by omega) (by omega)]; rfl
 refine ⟨hy, hx, 1, by omega, ?_, en⟩
 unfold openB
 rw [en, Bool.and_eq_true]
 exact ⟨hc, c2⟩
end
section
def shutY (p : Pasture) (Y : List Spot) : Prop := ∀ y x y' x', y < 10 → x < 10 → sp x y ∈ Y → stepP p y x y' x' → sp x' y' ∈ Y
theorem cellB_sp {p : Pasture} (hw : okW p = true) {x y : Nat} : cellB p (x : Int) (y : Int) = true ↔ x < p.Wide.toNat ∧ y < p.High.toNat := by
 obtain ⟨a, b⟩ := okW_iff.1 hw
 unfold cellB
 simp only [Bool.and_eq_true, decide_eq_true_eq]
 omega
theorem apart {p : Pasture} (hw : okW p = true) {x y : Nat} (hx : x < p.Wide.toNat) (hy : y < p.High.toNat) {Y Z : List Spot} (hm : ∀ T : Nat → Nat → Prop, closedT p T → T y x → ∀ b a, b < 10 → a < 10 → sp a b ∈ Y → T b a) (hZ : shutY p Z) (h0 : sp x y ∉ Z) : ∀ b a, b < 10 → a < 10 → sp a b ∈ Y → sp a b ∉ Z := by
 intro b a hb ha hY
 refine (hm (fun b a => cellB p (a : Int) (b : Int) = true ∧ sp a b ∉ Z) (fun y1 x1 y2 x2 hy1 hx1 hT hs => ⟨?_, fun hz => ?_⟩) ⟨(cellB_sp hw).2 ⟨hx, hy⟩, h0⟩ b a hb ha hY).2
 ·obtain ⟨_, _, i, hi, ho, e⟩ := hs
  unfold openB at ho
  rw [Bool.and_eq_true, e] at ho
  exact ho.1
 exact hT.2 (hZ y2 x2 y1 x1 hs.1 hs.2.1 hz (step_back hw hy1 hx1 hT.1 hs))
structure Tell2 (p : Pasture) (tab : Tb) (met : List Spot) (ys : List (List Spot)) : Prop where
  tab_met : ∀ y x, y < 10 → x < 10 → (0 < g2 tab y x ↔ sp x y ∈ met)
  num : ∀ (n : Nat) (Y : List Spot), ys[n]? = some Y → ∀ y x, y < 10 → x < 10 → sp x y ∈ Y → g2 tab y x = ((n + 1 : Nat) : Int)
  met_in : ∀ s ∈ met, ∃ (n : Nat) (Y : List Spot), ys[n]? = some Y ∧ s ∈ Y
  in_met : ∀ Y ∈ ys, ∀ s ∈ Y, s ∈ met
  yard : ∀ Y ∈ ys, isYard p Y ∧ shutY p Y
end
section
def gS (m : Tb) (s : Spot) : Int := g2 m s.Y.toNat s.X.toNat
theorem gS_sp (m : Tb) (x y : Nat) : gS m (sp x y) = g2 m y x := by unfold gS sp; simp
structure Kd (p : Pasture) (sy sx : Nat) (m n : Tb) (q : List Spot) : Prop where
  kx : Kx p sy sx m n q
  one : ∀ b a, b < 10 → a < 10 → g2 m b a = 0 → b = sy ∧ a = sx
  pre : ∀ b a, b < 10 → a < 10 → 0 < g2 m b a → ∃ y x, y < 10 ∧ x < 10 ∧ stepP p y x b a ∧ 0 ≤ g2 m y x ∧ g2 m y x + 1 = g2 m b a
  srt : q.Pairwise fun s t => gS m s ≤ gS m t
theorem Kd.put {p : Pasture} {sy sx : Nat} {m n : Tb} {q : List Spot} (h : Kd p sy sx m n q) {y x y' x' : Nat} (hy : y < 10) (hx : x < 10) (hm : 0 ≤ g2 m y x) (hs : stepP p y x y' x') (hg : g2 m y' x' < 0) (hb : ∀ s ∈ q, gS m s ≤ g2 m y x + 1) :
 Kd p sy sx (put2 m y' x' (g2 m y x + 1)) (put2 n y' x' (g2 n y x + 1)) (q ++ [sp x' y']) ∧ (∀ b a, b < 10 → a < 10 → 0 ≤ g2 m b a → g2 (put2 m y' x' (g2 m y x + 1)) b a = g2 m b a) ∧ ∀ s ∈ q ++ [sp x' y'], gS (put2 m y' x' (g2 m y x + 1)) s ≤ g2 m y x + 1 := by
 obtain ⟨hy', hx', _⟩ := id hs
 have same : ∀ b a, b < 10 → a < 10 → 0 ≤ g2 m b a → g2 (put2 m y' x' (g2 m y x + 1)) b a = g2 m b a := fun b a hb' ha h0 => by
   rw [g2_put m hy' hx']
   split
   · rename_i e
     rw [e.1, e.2] at hg
     omega
   · rfl
 have new : g2 (put2 m y' x' (g2 m y x + 1)) y' x' = g2 m y x + 1 := by rw [g2_put m hy' hx', if_pos ⟨rfl, rfl⟩]
 have cells := h.kx.rl.cells
 have sameS : ∀ s ∈ q, gS (put2 m y' x' (g2 m y x + 1)) s = gS m s := fun s hs' => by
   obtain ⟨a, b, ha, hb', rfl⟩ := cells s hs'
   rw [gS_sp, gS_sp]
   exact same b a hb' ha (h.kx.mkd b a hb' ha hs')
 have bnd : ∀ s ∈ q ++ [sp x' y'], gS (put2 m y' x' (g2 m y x + 1)) s ≤ g2 m y x + 1 := fun s hs' => by
   rcases List.mem_append.1 hs' with hs' | hs'
   · rw [sameS s hs']; exact hb s hs'
   · rw [List.mem_singleton.1 hs', gS_sp, new]; omega
 refine ⟨⟨h.kx.put hy hx hm hs hg, fun b a hb' ha h0 => ?_, fun b a hb' ha h0 => ?_, ?_⟩, same, bnd⟩
 ·rw [g2_put m hy' hx'] at h0
  split at h0
  ·omega
  exact h.one b a hb' ha h0
 ·by_cases e : y' = b ∧ x' = a
  ·obtain ⟨rfl, rfl⟩ := e
   exact ⟨y, x, hy, hx, hs, by rw [same y x hy hx hm]; exact hm, by rw [same y x hy hx hm, new]⟩
  have e1 : g2 (put2 m y' x' (g2 m y x + 1)) b a = g2 m b a := by rw [g2_put m hy' hx', if_neg e]
  rw [e1] at h0 ⊢
  obtain ⟨c, d, hc, hd, k1, k2, k3⟩ := h.pre b a hb' ha h0
  exact ⟨c, d, hc, hd, k1, by rw [same c d hc hd k2]; exact k2, by rw [same c d hc hd k2]; exact k3⟩
 refine List.pairwise_append.2 ⟨?_, by simp, fun s hs' t ht => ?_⟩
 ·refine (List.pairwise_iff_forall_sublist.2 fun {s t} hst => ?_)
  have h1 : s ∈ q := hst.subset (by simp)
  have h2 : t ∈ q := hst.subset (by simp)
  rw [sameS s h1, sameS t h2]
  exact (List.pairwise_iff_forall_sublist.1 h.srt) hst
 rw [List.mem_singleton.1 ht, sameS s hs', gS_sp, new]
 exact hb s hs'
theorem innerD {p : Pasture} (v : VPasture p) (hw : okW p = true) {sy sx x y : Nat} (hx : x < 10) (hy : y < 10) : ∀ i, i ≤ 4 → ∀ (m n : Tb) (q : List Spot), Kd p sy sx m n q → 0 ≤ g2 m y x → (∀ s ∈ q, gS m s ≤ g2 m y x + 1) →
 ∃ (m' n' : Tb) (r : List Spot), Kd p sy sx m' n' (q ++ r) ∧ (q ++ r).length + frA m' 10 = q.length + frA m 10 ∧ (∀ b a, b < 10 → a < 10 → 0 ≤ g2 m b a → g2 m' b a = g2 m b a) ∧ (∀ s ∈ q ++ r, gS m' s ≤ g2 m y x + 1) ∧ (∀ j : Nat, i ≤ j → j < 4 → openB p x y j = true → ∀ x' y', x' < 10 → y' < 10 → nx (sp x y) (j : Int) = sp x' y' → 0 ≤ g2 m' y' x') ∧ Ev (fun k => q00.l5 p (sp x y) k m q (i : Int)) (m', q ++ r) := by
 refine upL ?_ ?_
 ·intro m n q hk h0 hb
  refine ⟨m, n, [], by rw [List.append_nil]; exact hk, by rw [List.append_nil], fun _ _ _ _ _ => rfl, by rw [List.append_nil]; exact hb, fun j h1 h2 => by omega, ?_⟩
  rw [List.append_nil]
  exact Ev.step (fun k => q00.l5.eq_2 _ _ _ _ _ _) (Ev.neg (by omega) (Ev.const rfl))
 intro i hi ih m n q hk h0 hbd
 have hg := canGo_eq v hw hx hy hi
 cases ho : openB p x y i
 ·rw [ho] at hg
  obtain ⟨m', n', r, r1, r2, r3, r6, r4, r5⟩ := ih m n q hk h0 hbd
  rw [← wsucc hi (by omega)] at r5
  refine ⟨m', n', r, r1, r2, r3, r6, fun j h1 h2 h3 => ?_, Ev.step (fun k => q00.l5.eq_2 _ _ _ _ _ _) (Ev.pos (by omega) (Ev.bind (Ev.const (ahead_eq _ _)) (Ev.bind (Ev.bind (Ev.const hg) (Ev.neg (by simp) (Ev.const rfl))) (Ev.neg (by simp) r5))))⟩
  by_cases hj : j = i
  ·subst hj; rw [ho] at h3; cases h3
  exact r4 j (by omega) h2 h3
 rw [ho] at hg
 have hc : cellB p (nx (sp x y) (i : Int)).X (nx (sp x y) (i : Int)).Y = true := by
   unfold openB at ho
   rw [Bool.and_eq_true] at ho
   exact ho.1
 obtain ⟨x', y', hx', hy', e⟩ := cellB_nat hw hc
 have ha : q0u.f (sp x y) (i : Int) = some (sp x' y') := (ahead_eq _ _).trans (congrArg some e)
 have hst : stepP p y x y' x' := ⟨hy', hx', i, hi, ho, e⟩
 have hr := hk.kx.rl
 have l1 := hr.lo y x hy hx
 have l2 := hr.hi y x hy hx
 have l3 := hr.fr
 have cm : Ev (fun k => (q1k.f p (sp x y) (i : Int)).bind fun t47 => if t47 = true then ((getI m.l (sp x' y').Y).bind fun t48 => (getI t48.l (sp x' y').X).bind fun t49 => some (decide (t49 < 0))) else (some false)) (decide (g2 m y' x' < 0)) :=
   Ev.bind (Ev.const hg) (Ev.pos rfl (Ev.bind (Ev.const (getR m hy')) (Ev.bind (Ev.const (getA _ hx')) (Ev.const rfl))))
 by_cases hneg : g2 m y' x' < 0
 ·obtain ⟨hk1, same, hb1⟩ := hk.put hy hx h0 hst hneg hbd
  have hf := (frA_put m hy' hx' (v := g2 m y x + 1) (by omega) hneg 10).2 hy'
  have e0 := same y x hy hx h0
  obtain ⟨m', n', r, r1, r2, r3, r6, r4, r5⟩ := ih _ _ _ hk1 (by rw [e0]; exact h0) (by rw [e0]; exact hb1)
  rw [← wsucc hi (by omega)] at r5
  rw [List.append_assoc] at r1 r2 r5
  rw [e0, List.append_assoc] at r6
  have e16 : IntKind.i16.wrap (gA (gR m y) x + 1) = g2 m y x + 1 := w16 (show -32768 ≤ g2 m y x + 1 by omega) (show g2 m y x + 1 ≤ 32767 by omega)
  refine ⟨m', n', [sp x' y'] ++ r, r1, by rw [r2]; simp only [List.length_append, List.length_cons, List.length_nil]; omega, fun b a hb ha h => (r3 b a hb ha (by rw [same b a hb ha h]; exact h)).trans (same b a hb ha h), r6, fun j h1 h2 h3 x1 y1 hx1 hy1 e1 => ?_, Ev.step (fun k => q00.l5.eq_2 _ _ _ _ _ _) (Ev.pos (by omega) (Ev.bind (Ev.const ha) (Ev.bind cm (Ev.pos (decide_eq_true hneg) (Ev.bind (Ev.const (getR m hy)) (Ev.bind (Ev.const (getA _ hx)) (Ev.bind (Ev.const (getR m hy')) (Ev.bind (Ev.const (getA _ hx')) (Ev.bind (Ev.const (chkT (by simp; omega))) ?_)))))))))⟩
  ·by_cases hj : j = i
   ·subst hj
    rw [e] at e1
    obtain ⟨rfl, rfl⟩ := sp_inj' e1
    have hnew : g2 (put2 m y' x' (g2 m y x + 1)) y' x' = g2 m y x + 1 := by rw [g2_put m hy' hx', if_pos ⟨rfl, rfl⟩]
    rw [r3 y' x' hy' hx' (by rw [hnew]; omega), hnew]; omega
   exact r4 j (by omega) h2 h3 x1 y1 hx1 hy1 e1
  rw [e16]; exact r5
 obtain ⟨m', n', r, r1, r2, r3, r6, r4, r5⟩ := ih m n q hk h0 hbd
 rw [← wsucc hi (by omega)] at r5
 refine ⟨m', n', r, r1, r2, r3, r6, fun j h1 h2 h3 x1 y1 hx1 hy1 e1 => ?_, Ev.step (fun k => q00.l5.eq_2 _ _ _ _ _ _) (Ev.pos (by omega) (Ev.bind (Ev.const ha) (Ev.bind cm (Ev.neg (by simp only [decide_eq_true_eq]; exact hneg) r5))))⟩
 by_cases hj : j = i
 ·subst hj
  rw [e] at e1
  obtain ⟨rfl, rfl⟩ := sp_inj' e1
  rw [r3 y' x' hy' hx' (by omega)]; omega
 exact r4 j (by omega) h2 h3 x1 y1 hx1 hy1 e1
def doneD (p : Pasture) (m : Tb) (s : Spot) : Prop := ∀ y x y' x', y < 10 → x < 10 → s = sp x y → stepP p y x y' x' → 0 ≤ g2 m y' x' ∧ g2 m y' x' ≤ g2 m y x + 1
structure Dm (p : Pasture) (sy sx : Nat) (m : Tb) : Prop where
  zero : g2 m sy sx = 0
  one : ∀ b a, b < 10 → a < 10 → g2 m b a = 0 → b = sy ∧ a = sx
  rel : ∀ y x y' x', y < 10 → x < 10 → 0 ≤ g2 m y x → stepP p y x y' x' → 0 ≤ g2 m y' x' ∧ g2 m y' x' ≤ g2 m y x + 1
  pre : ∀ b a, b < 10 → a < 10 → 0 < g2 m b a → ∃ y x, y < 10 ∧ x < 10 ∧ stepP p y x b a ∧ 0 ≤ g2 m y x ∧ g2 m y x + 1 = g2 m b a
theorem outerD {p : Pasture} (v : VPasture p) (hw : okW p = true) {sy sx : Nat} (hsy : sy < 10) (hsx : sx < 10) : ∀ (d i : Nat) (m n : Tb) (q : List Spot), Kd p sy sx m n q → g2 m sy sx = 0 → i ≤ q.length → (∀ s ∈ q.take i, doneD p m s) → (∀ (hi : i < q.length), ∀ s ∈ q, gS m s ≤ gS m q[i] + 1) → q.length - i + frA m 10 ≤ d →
 ∃ m' : Tb, Ev (fun k => q00.l4 p k m q (i : Int)) m' ∧ Dm p sy sx m' := by
  intro d
  have fin : ∀ (i : Nat) (m n : Tb) (q : List Spot), Kd p sy sx m n q → g2 m sy sx = 0 → i = q.length → (∀ s ∈ q.take i, doneD p m s) → ∃ m' : Tb, Ev (fun k => q00.l4 p k m q (i : Int)) m' ∧ Dm p sy sx m' := by
    intro i m n q hk hz hi hd
    rw [hi, List.take_length] at hd
    exact ⟨m, Ev.step (fun k => q00.l4.eq_2 _ _ _ _ _) (Ev.neg (by omega) (Ev.const rfl)), hz, hk.one, fun y x y' x' hy hx hm hs => hd _ (hk.kx.inq y x hy hx hm) y x y' x' hy hx rfl hs, hk.pre⟩
  induction d with
  | zero =>
    intro i m n q hk hz hi hd hb hdd
    exact fin i m n q hk hz (by omega) hd
  | succ d ih =>
    intro i m n q hk hz hi hd hb hdd
    have hfr := hk.kx.rl.fr
    by_cases hlt : i < q.length
    · obtain ⟨x, y, hx, hy, e⟩ := hk.kx.rl.cells q[i] (List.getElem_mem hlt)
      have hg : getI q (i : Int) = some (sp x y) := by rw [getI_nat hlt, e]
      have hmk := hk.kx.mkd y x hy hx (by rw [← e]; exact List.getElem_mem hlt)
      have hbi := hb hlt
      rw [e, gS_sp] at hbi
      obtain ⟨m1, n1, r, r1, r2, r3, r6, r4, r5⟩ := innerD v hw (sy := sy) (sx := sx) hx hy 0 (Nat.zero_le _) m n q hk hmk hbi
      have inq1 : ∀ s ∈ q, s ∈ q ++ r := fun s hs => List.mem_append_left _ hs
      have hd1 : ∀ s ∈ (q ++ r).take (i + 1), doneD p m1 s := by
        intro s hs
        rw [List.take_append_of_le_length (by omega), List.take_add_one, List.getElem?_eq_getElem hlt] at hs
        rcases List.mem_append.1 hs with hs | hs
        · intro b a b' a' hb' ha he hst
          obtain ⟨k1, k2⟩ := hd s hs b a b' a' hb' ha he hst
          have k3 : 0 ≤ g2 m b a := hk.kx.mkd b a hb' ha (by rw [← he]; exact List.mem_of_mem_take hs)
          rw [r3 b' a' hst.1 hst.2.1 k1, r3 b a hb' ha k3]
          exact ⟨k1, k2⟩
        · have hs : s = q[i] := by simpa using hs
          intro b a b' a' hb' ha he hst
          rw [hs, e] at he
          obtain ⟨rfl, rfl⟩ := sp_inj' he
          obtain ⟨hb2, ha2, j, hj, ho, en⟩ := hst
          have k1 := r4 j (Nat.zero_le _) hj ho a' b' ha2 hb2 en
          have k2 := r6 _ (r1.kx.inq b' a' hb2 ha2 k1)
          rw [gS_sp] at k2
          rw [r3 y x hy hx hmk]
          exact ⟨k1, k2⟩
      have hql : q.length ≤ (q ++ r).length := by simp
      have hb1 : ∀ (hi : i + 1 < (q ++ r).length), ∀ s ∈ q ++ r, gS m1 s ≤ gS m1 (q ++ r)[i + 1] + 1 := fun hi1 s hs => by
        have k1 := r6 s hs
        have k2 := (List.pairwise_iff_getElem.1 r1.srt) i (i + 1) (by omega) hi1 (by omega)
        have k3 : (q ++ r)[i]'(by omega) = sp x y := by rw [List.getElem_append_left hlt, e]
        rw [k3, gS_sp, r3 y x hy hx hmk] at k2
        omega
      obtain ⟨m', g1, g2'⟩ := ih (i + 1) m1 n1 (q ++ r) r1 (by rw [r3 sy sx hsy hsx (by omega)]; exact hz) (by omega) hd1 hb1 (by omega)
      rw [← wsucc hlt (by omega)] at g1
      exact ⟨m', Ev.step (fun k => q00.l4.eq_2 _ _ _ _ _) (Ev.pos (by omega) (Ev.bind (Ev.bind (Ev.const hg) (Ev.bind r5 (Ev.const rfl))) g1)), g2'⟩
    · exact fin i m n q hk hz (by omega) hd
end
section
theorem farD_ev {p : Pasture} (v : VPasture p) (hw : okW p = true) {x y : Nat} (hx : x < 10) (hy : y < 10) : ∃ m n : Tb, Ev (fun k => q00.f k p ([sp x y] : List Spot)) m ∧ Ev (fun k => q0w.f k p (sp x y)) n ∧ Dm p y x m ∧ ∀ b a, b < 10 → a < 10 → g2 n b a = g2 m b a + 1 ∧ -1 ≤ g2 m b a ∧ g2 m b a ≤ 101 := by
 obtain ⟨m0, a1, a2⟩ := tab_ev 0 (Nat.zero_le _) (Arr.mk' (Arr.mk' 0 : Arr 10 Int) : Tb)
 have hneg : ∀ y x, y < 10 → x < 10 → g2 m0 y x < 0 := fun y x hy hx => by rw [a1 y x hy hx, if_pos (Nat.zero_le _)]; omega
 have hfr := (frA_put m0 hy hx (v := 0) (by omega) (hneg y x hy hx) 10).2 hy
 rw [frA_all hneg 10 (Nat.le_refl _)] at hfr
 have gp : ∀ b a, b < 10 → a < 10 → (0 ≤ g2 (put2 m0 y x 0) b a ↔ y = b ∧ x = a) := fun b a hb ha => by
   rw [g2_put _ hy hx]
   have := hneg b a hb ha
   split
   · rename_i h; simp [h]
   · rename_i h
     constructor
     · intro h1; omega
     · intro h1; exact absurd h1 h
 have gz : g2 (put2 m0 y x 0) y x = 0 := by rw [g2_put _ hy hx, if_pos ⟨rfl, rfl⟩]
 have hr : Rl (put2 m0 y x 0) (put2 (Arr.mk' (Arr.mk' 0 : Arr 10 Int) : Tb) y x 1) [sp x y] := by
   refine ⟨fun a b ha hb => ?_, fun a b ha hb => ?_, fun a b ha hb => ?_, ?_, fun s hs => ⟨x, y, hx, hy, List.mem_singleton.1 hs⟩⟩
   · rw [g2_put _ hy hx, g2_put _ hy hx, g2_zero ha hb, a1 a b ha hb, if_pos (Nat.zero_le _)]
     split <;> rfl
   · rw [g2_put _ hy hx, a1 a b ha hb, if_pos (Nat.zero_le _)]
     split <;> omega
   · rw [g2_put _ hy hx, a1 a b ha hb, if_pos (Nat.zero_le _)]
     split <;> simp
   · simp only [List.length_cons, List.length_nil]; omega
 have hk : Kx p y x (put2 m0 y x 0) (put2 (Arr.mk' (Arr.mk' 0 : Arr 10 Int) : Tb) y x 1) [sp x y] := by
   refine ⟨hr, fun b a hb ha h => ?_, fun b a hb ha h => ?_, fun T hT h0 b a hb ha h => ?_⟩
   · obtain ⟨rfl, rfl⟩ := (gp b a hb ha).1 h; simp
   · have := sp_inj' (List.mem_singleton.1 h)
     exact (gp b a hb ha).2 ⟨this.2.symm, this.1.symm⟩
   · obtain ⟨rfl, rfl⟩ := (gp b a hb ha).1 h; exact h0
 have hkd : Kd p y x (put2 m0 y x 0) (put2 (Arr.mk' (Arr.mk' 0 : Arr 10 Int) : Tb) y x 1) [sp x y] := by
   refine ⟨hk, fun b a hb ha h => ?_, fun b a hb ha h => ?_, by simp⟩
   · obtain ⟨rfl, rfl⟩ := (gp b a hb ha).1 (by omega)
     exact ⟨rfl, rfl⟩
   · obtain ⟨rfl, rfl⟩ := (gp b a hb ha).1 (by omega)
     omega
 obtain ⟨m, h1, h2⟩ := outerD v hw hy hx 101 0 _ _ _ hkd gz (Nat.zero_le _) (by simp) (fun hi s hs => by
   rw [List.mem_singleton.1 hs]
   show gS _ (sp x y) ≤ gS _ (sp x y) + 1
   omega) (by simp only [List.length_cons, List.length_nil]; omega)
 have hl3 : Ev (fun k => q00.l3 ([sp x y] : List Spot) k m0 0) (put2 m0 y x 0) := by
   refine Ev.step (fun k => q00.l3.eq_2 _ _ _ _) (Ev.pos (by simp) (Ev.bind (Ev.const (show _ = some (sp x y) from rfl)) (Ev.bind (Ev.const (getR m0 hy)) (Ev.bind (Ev.const (getA _ hx)) ?_))))
   exact Ev.step (fun k => q00.l3.eq_2 _ _ _ _) (Ev.neg (by rw [show IntKind.i64.wrap (0 + 1) = 1 from by decide]; simp) (Ev.const rfl))
 have hm : Ev (fun k => q00.f k p ([sp x y] : List Spot)) m := a2.bind (hl3.bind (Ev.bind (Ev.const (show q0e.f [sp x y] = some [sp x y] from rfl)) (h1.bind (Ev.const rfl))))
 obtain ⟨m', n, q1, q2, q3⟩ := far_ev v hw hx hy
 have e := hm.eq q2
 subst e
 exact ⟨m, n, hm, q3, h2, q1⟩
inductive Wk (p : Pasture) (y x : Nat) : Nat → Nat → Nat → Prop
  | nil : Wk p y x 0 y x
  | snoc {n b a b' a' : Nat} : Wk p y x n b a → b < 10 → a < 10 → stepP p b a b' a' → Wk p y x (n + 1) b' a'
variable {p : Pasture}
theorem Wk.in_ {y x n b a : Nat} (h : Wk p y x n b a) (hy : y < 10) (hx : x < 10) : b < 10 ∧ a < 10 := by
  cases h with
  | nil => exact ⟨hy, hx⟩
  | snoc _ _ _ hs => exact ⟨hs.1, hs.2.1⟩
theorem Dm.le {y x : Nat} {m : Tb} (d : Dm p y x m) {n b a : Nat} (h : Wk p y x n b a) : 0 ≤ g2 m b a ∧ g2 m b a ≤ n := by
  induction h with
  | nil => rw [d.zero]; simp
  | snoc _ hb ha hs ih =>
    have := d.rel _ _ _ _ hb ha ih.1 hs
    push_cast; omega
theorem Dm.wk {y x : Nat} {m : Tb} (d : Dm p y x m) : ∀ (n b a : Nat), b < 10 → a < 10 → g2 m b a = (n : Int) → Wk p y x n b a
  | 0, b, a, hb, ha, h => by
    obtain ⟨rfl, rfl⟩ := d.one b a hb ha h
    exact .nil
  | n + 1, b, a, hb, ha, h => by
    obtain ⟨c, e, hc, he, hs, k1, k2⟩ := d.pre b a hb ha (by omega)
    exact .snoc (d.wk n c e hc he (by omega)) hc he hs
theorem Wk.cons {y x y' x' : Nat} (hy : y < 10) (hx : x < 10) (hs : stepP p y x y' x') {n b a : Nat} (h : Wk p y' x' n b a) : Wk p y x (n + 1) b a := by
  induction h with
  | nil => exact .snoc .nil hy hx hs
  | snoc _ hb ha hs' ih => exact .snoc ih hb ha hs'
theorem stepP.cell (hw : okW p = true) {y x y' x' : Nat} (h : stepP p y x y' x') : cellB p (x' : Int) (y' : Int) = true := by
 obtain ⟨_, _, i, _, ho, e⟩ := h
 unfold openB at ho
 rw [Bool.and_eq_true, e] at ho
 exact ho.1
theorem Wk.back (hw : okW p = true) {y x : Nat} (hy : y < 10) (hx : x < 10) (hc : cellB p (x : Int) (y : Int) = true) {n b a : Nat} (h : Wk p y x n b a) : Wk p b a n y x ∧ cellB p (a : Int) (b : Int) = true := by
  induction h with
  | nil => exact ⟨.nil, hc⟩
  | snoc _ hb ha hs ih =>
    exact ⟨Wk.cons hs.1 hs.2.1 (step_back hw hb ha ih.2 hs) ih.1, hs.cell hw⟩
theorem Dm.symm (hw : okW p = true) {y x b a : Nat} (hy : y < 10) (hx : x < 10) (hb : b < 10) (ha : a < 10) (hc : cellB p (x : Int) (y : Int) = true) (hc' : cellB p (a : Int) (b : Int) = true) {m n : Tb} (d : Dm p y x m) (e : Dm p b a n) (hm : -1 ≤ g2 m b a) (hn : -1 ≤ g2 n y x) : g2 m b a = g2 n y x := by
 have h1 : 0 ≤ g2 m b a → 0 ≤ g2 n y x ∧ g2 n y x ≤ g2 m b a := fun h0 => by
   obtain ⟨k, hk⟩ := Int.eq_ofNat_of_zero_le h0
   have := e.le ((d.wk k b a hb ha hk).back hw hy hx hc).1
   omega
 have h2 : 0 ≤ g2 n y x → 0 ≤ g2 m b a ∧ g2 m b a ≤ g2 n y x := fun h0 => by
   obtain ⟨k, hk⟩ := Int.eq_ofNat_of_zero_le h0
   have := d.le ((e.wk k y x hy hx hk).back hw hb ha hc').1
   omega
 omega
end
section
theorem evAllS {xs : List Spot} {g : Nat → Spot → Option Bool} {p : Spot → Bool} (h : ∀ x ∈ xs, Ev (fun k => g k x) (p x)) : ∃ J, ∀ j, J ≤ j → ∀ x ∈ xs, g j x = some (p x) := by
  induction xs with
  | nil => exact ⟨0, fun j _ x hx => by simp at hx⟩
  | cons y ys ih =>
    obtain ⟨J, hJ⟩ := ih fun x hx => h x (List.mem_cons_of_mem _ hx)
    obtain ⟨K, hK⟩ := h y (List.mem_cons_self ..)
    refine ⟨J + K, fun j hj x hx => ?_⟩
    rcases List.mem_cons.1 hx with rfl | hx
    · exact hK j (by omega)
    · exact hJ j (by omega) x hx
theorem take_setS {ys : List Spot} {w : Nat} (hw : w < ys.length) (a : Spot) : (ys.set w a).take (w + 1) = ys.take w ++ [a] := by
 rw [List.take_add_one, List.getElem?_set_self hw]
 congr 1
 apply List.ext_getElem?
 intro j
 simp only [List.getElem?_take, List.getElem?_set]
 split
 ·rw [if_neg (by omega)]
 rfl
theorem drop_setS' {ys : List Spot} {w j : Nat} (hw : w < j) (a : Spot) : (ys.set w a).drop j = ys.drop j := by
 apply List.ext_getElem?
 intro i
 rw [List.getElem?_drop, List.getElem?_drop, List.getElem?_set_ne (by omega)]
theorem take_keepS {xs : List Spot} {j : Nat} (hj : j < xs.length) (f : Spot → Bool) : (xs.take (j + 1)).filter f = (xs.take j).filter f ++ (if f xs[j] = true then [xs[j]] else []) := by
 rw [List.take_add_one, List.getElem?_eq_getElem hj, List.filter_append]
 congr 1
 simp only [Option.toList, List.filter_cons, List.filter_nil]
theorem delS_loop (xs : List Spot) (dl : Spot → Bool) (hn : xs.length ≤ 1048576) : ∀ (d j w : Nat) (ys : List Spot), j + d = xs.length → w ≤ j → ys.length = xs.length → ys.take w = (xs.take j).filter (fun h => !dl h) → ys.drop j = xs.drop j →
 ∃ (ys' : List Spot) (w' : Nat), ys'.length = xs.length ∧ w' ≤ xs.length ∧ ys'.take w' = xs.filter (fun h => !dl h) ∧ ∀ g : Spot → Option Bool, (∀ h ∈ xs, g h = some (dl h)) → ∀ k, d < k → q04.l1 g k ys (w : Int) (j : Int) = some (ys', (w' : Int))
  | 0, j, w, ys, hj, hw, hl, ht, hd => by
    refine ⟨ys, w, hl, by omega, ?_, fun g hg k hk => ?_⟩
    · rw [ht, List.take_of_length_le (by omega)]
    · obtain ⟨k, rfl⟩ : ∃ z, k = z + 1 := ⟨k - 1, by omega⟩
      rw [q04.l1, if_neg (by omega)]
  | d + 1, j, w, ys, hj, hw, hl, ht, hd => by
    have hjx : j < xs.length := by omega
    have hjy : j < ys.length := by omega
    have e : ys[j] = xs[j] := by
      have := congrArg (fun l => l[0]?) hd
      simp only [List.getElem?_drop, Nat.add_zero, List.getElem?_eq_getElem hjy, List.getElem?_eq_getElem hjx] at this
      exact Option.some.inj this
    have hg0 : getI ys (j : Int) = some xs[j] := by rw [getI_nat hjy, e]
    have hd1 : ys.drop (j + 1) = xs.drop (j + 1) := by
      have := congrArg (fun l => l.drop 1) hd
      simpa [List.drop_drop] using this
    cases hc : dl xs[j]
    · obtain ⟨ys', w', h1, h2, h3, h4⟩ := delS_loop xs dl hn d (j + 1) (w + 1) (ys.set w xs[j]) (by omega) (by omega) (by simpa using hl) (by rw [take_setS (by omega), ht, take_keepS hjx, hc]; rfl) (by rw [drop_setS' (by omega), hd1])
      refine ⟨ys', w', h1, h2, h3, fun g hg k hk => ?_⟩
      obtain ⟨k, rfl⟩ : ∃ z, k = z + 1 := ⟨k - 1, by omega⟩
      rw [q04.l1, if_pos (by omega), hg0, Option.bind_some, hg _ (List.getElem_mem hjx), Option.bind_some, hc, if_pos (by rfl), getI_nat (show w < ys.length by omega), Option.bind_some, Int.toNat_natCast, wsucc hjx (by omega), wsucc (show w < xs.length by omega) (by omega)]
      exact h4 g hg k (by omega)
    · obtain ⟨ys', w', h1, h2, h3, h4⟩ := delS_loop xs dl hn d (j + 1) w ys (by omega) (by omega) hl (by rw [ht, take_keepS hjx, hc]; simp) hd1
      refine ⟨ys', w', h1, h2, h3, fun g hg k hk => ?_⟩
      obtain ⟨k, rfl⟩ : ∃ z, k = z + 1 := ⟨k - 1, by omega⟩
      rw [q04.l1, if_pos (by omega), hg0, Option.bind_some, hg _ (List.getElem_mem hjx), Option.bind_some, hc, if_neg (by simp), wsucc hjx (by omega)]
      exact h4 g hg k (by omega)
theorem idxZ_loop (xs : List Spot) (dl : Spot → Bool) (hx : xs.length ≤ 1048576) : ∀ i : Nat, i ≤ xs.length → ∃ r : Int ⊕ Unit, (∀ g : Spot → Option Bool, (∀ x ∈ xs, g x = some (dl x)) → ∀ k, xs.length - i < k → q03.l1 xs g k (i : Int) = some r) ∧
 ((r = .inr () ∧ ∀ h ∈ xs.drop i, dl h = false) ∨ ∃ (j : Nat) (hj : j < xs.length), i ≤ j ∧ r = .inl (j : Int) ∧ dl xs[j] = true ∧ ∀ h ∈ (xs.drop i).take (j - i), dl h = false) := by
 refine upL ?_ ?_
 ·refine ⟨.inr (), fun g hg k hk => ?_, .inl ⟨rfl, by simp⟩⟩
  obtain ⟨k, rfl⟩ : ∃ j, k = j + 1 := ⟨k - 1, by omega⟩
  rw [q03.l1, if_neg (by omega)]
 rintro i hi ⟨r, ih, h⟩
 cases hb : dl xs[i]
 ·refine ⟨r, fun g hg k hk => ?_, ?_⟩
  ·obtain ⟨k, rfl⟩ : ∃ j, k = j + 1 := ⟨k - 1, by omega⟩
   rw [q03.l1, if_pos (by omega), getI_nat hi, Option.bind_some, hg _ (List.getElem_mem hi), Option.bind_some, hb, if_neg (by simp), wsucc hi (by omega)]
   exact ih g hg k (by omega)
  rcases h with ⟨h1, h2⟩ | ⟨j, hj, h1, h2, h3, h4⟩
  ·refine .inl ⟨h1, fun z hz => ?_⟩
   rw [List.drop_eq_getElem_cons hi] at hz
   rcases List.mem_cons.1 hz with rfl | hz
   ·exact hb
   exact h2 z hz
  refine .inr ⟨j, hj, by omega, h2, h3, fun z hz => ?_⟩
  rw [List.drop_eq_getElem_cons hi, show j - i = (j - (i + 1)) + 1 by omega, List.take_succ_cons] at hz
  rcases List.mem_cons.1 hz with rfl | hz
  ·exact hb
  exact h4 z hz
 refine ⟨.inl (i : Int), fun g hg k hk => ?_, .inr ⟨i, hi, Nat.le_refl _, rfl, hb, by simp⟩⟩
 obtain ⟨k, rfl⟩ : ∃ j, k = j + 1 := ⟨k - 1, by omega⟩
 rw [q03.l1, if_pos (by omega), getI_nat hi, Option.bind_some, hg _ (List.getElem_mem hi), Option.bind_some, hb, if_pos rfl]
theorem deleteS_ev (xs : List Spot) {g : Nat → Spot → Option Bool} {dl : Spot → Bool} (hg : ∀ x ∈ xs, Ev (fun k => g k x) (dl x)) (hx : xs.length ≤ 1048576) : Ev (fun k => q04.f k xs (g k)) (xs.filter fun h => !dl h) := by
 obtain ⟨J, hJ⟩ := evAllS hg
 obtain ⟨r, hr, h⟩ := idxZ_loop xs dl hx 0 (Nat.zero_le _)
 rcases h with ⟨rfl, h⟩ | ⟨j, hj, _, rfl, h3, h4⟩
 ·refine ⟨J + xs.length + 1, fun k hk => ?_⟩
  have e : q03.l1 xs (g k) k 0 = some (.inr ()) := hr (g k) (hJ k (by omega)) k (by omega)
  show q04.f k xs (g k) = _
  unfold q04.f q03.f
  rw [e]
  simp only [Option.bind_some, if_true]
  congr 1
  symm
  rw [List.filter_eq_self]
  intro z hz
  rw [List.drop_zero] at h
  rw [h z hz]; rfl
 rw [List.drop_zero, Nat.sub_zero] at h4
 have hk : xs.take j = (xs.take (j + 1)).filter (fun h => !dl h) := by
   rw [take_keepS hj, h3, Bool.not_true, if_neg (by simp), List.append_nil]
   symm
   rw [List.filter_eq_self]
   intro z hz
   rw [h4 z hz]; rfl
 obtain ⟨ys', w', q1, q2, q3, q4⟩ := delS_loop xs dl hx (xs.length - (j + 1)) (j + 1) j xs (by omega) (by omega) rfl hk rfl
 refine ⟨J + xs.length + 1, fun k hk => ?_⟩
 have e : q03.l1 xs (g k) k 0 = some (.inl (j : Int)) := hr (g k) (hJ k (by omega)) k (by omega)
 have e2 := q4 (g k) (hJ k (by omega)) k (by omega)
 rw [← wsucc hj (by omega)] at e2
 show q04.f k xs (g k) = _
 unfold q04.f q03.f
 rw [e]
 simp only [Option.bind_some]
 rw [if_neg (by omega), e2]
 simp only [Option.bind_some, Int.toNat_natCast]
 rw [chkT (by omega), Option.bind_some, chkT (by simp; omega), Option.bind_some, q3.symm]
 congr 1
 rw [List.take_append_of_le_length (by simp; omega), List.take_take, Nat.min_self]
end
end Go.Proofs.YtegibnmfiogebaaGreatDoor
