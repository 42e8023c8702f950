
/-
  Plain laws: how far cells lie: what is reached is the least set that is closed.
-/
import Derived.Test.YtegibnmfiogebaaGreatQD4
namespace Go.Proofs.YtegibnmfiogebaaGreat
open G
set_option linter.unusedVariables false
set_option linter.unusedSimpArgs false
/-- From row y, column x to a cell beside that is open. -/
def stepP (p : Pasture) (y x y' x' : Nat) : Prop := y' < 10 ∧ x' < 10 ∧ ∃ i : Nat, i < 4 ∧ openB p x y i = true ∧ nx (sp x y) (i : Int) = sp x' y'
def closedT (p : Pasture) (T : Nat → Nat → Prop) : Prop := ∀ y x y' x', y < 10 → x < 10 → T y x → stepP p y x y' x' → T y' x'
structure Kx (p : Pasture) (sy sx : Nat) (m n : Tb) (q : List Spot) : Prop where
  rl : Rl m n q
  inq : ∀ b a, b < 10 → a < 10 → 0 ≤ g2 m b a → sp a b ∈ q
  mkd : ∀ b a, b < 10 → a < 10 → sp a b ∈ q → 0 ≤ g2 m b a
  min : ∀ T : Nat → Nat → Prop, closedT p T → T sy sx → ∀ b a, b < 10 → a < 10 → 0 ≤ g2 m b a → T b a
theorem sp_inj' {x y x' y' : Nat} (h : sp x y = sp x' y') : x = x' ∧ y = y' := by
 unfold sp at h
 injection h with h1 h2
 exact ⟨by omega, by omega⟩
theorem Kx.put {p : Pasture} {sy sx : Nat} {m n : Tb} {q : List Spot} (h : Kx p sy sx m n q) {y x y' x' : Nat} (hy : y < 10) (hx : x < 10) (hm : 0 ≤ g2 m y x) (hs : stepP p y x y' x') (hg : g2 m y' x' < 0) : Kx p sy sx (put2 m y' x' (g2 m y x + 1)) (put2 n y' x' (g2 n y x + 1)) (q ++ [sp x' y']) := by
 obtain ⟨hy', hx', _⟩ := id hs
 refine ⟨h.rl.put hy hx hy' hx' hg, fun b a hb ha hp => ?_, fun b a hb ha hp => ?_, fun T hT h0 b a hb ha hp => ?_⟩
 ·rw [g2_put m hy' hx'] at hp
  split at hp
  ·rename_i e
   rw [← e.1, ← e.2]; simp
  exact List.mem_append_left _ (h.inq b a hb ha hp)
 ·rw [g2_put m hy' hx']
  split
  ·omega
  rename_i e
  rcases List.mem_append.1 hp with hp | hp
  ·exact h.mkd b a hb ha hp
  have := sp_inj' (List.mem_singleton.1 hp)
  exact absurd ⟨this.2.symm, this.1.symm⟩ e
 rw [g2_put m hy' hx'] at hp
 split at hp
 ·rename_i e
  rw [← e.1, ← e.2]
  exact hT y x y' x' hy hx (h.min T hT h0 y x hy hx hm) hs
 exact h.min T hT h0 b a hb ha hp
theorem inner2 {p : Pasture} (v : VPasture p) (hw : okW p = true) {sy sx x y : Nat} (hx : x < 10) (hy : y < 10) : ∀ i, i ≤ 4 → ∀ (m n : Tb) (q : List Spot), Kx p sy sx m n q → 0 ≤ g2 m y x →
 ∃ (m' n' : Tb) (r : List Spot), Kx p sy sx m' n' (q ++ r) ∧ (q ++ r).length + frA m' 10 = q.length + frA m 10 ∧ (∀ b a, b < 10 → a < 10 → 0 ≤ g2 m b a → 0 ≤ g2 m' b a) ∧ (∀ j : Nat, i ≤ j → j < 4 → openB p x y j = true → ∀ x' y', x' < 10 → y' < 10 → nx (sp x y) (j : Int) = sp x' y' → 0 ≤ g2 m' y' x') ∧ Ev (fun k => impl_Pasture_far.l5 p (sp x y) k m q (i : Int)) (m', q ++ r) := by
 refine upL ?_ ?_
 ·intro m n q hk h0
  refine ⟨m, n, [], by rw [List.append_nil]; exact hk, by rw [List.append_nil], fun _ _ _ _ h => h, fun j h1 h2 => by omega, ?_⟩
  rw [List.append_nil]
  exact Ev.step (fun k => impl_Pasture_far.l5.eq_2 _ _ _ _ _ _) (Ev.neg (by omega) (Ev.const rfl))
 intro i hi ih m n q hk h0
 have hg := canGo_eq v hw hx hy hi
 cases ho : openB p x y i
 ·rw [ho] at hg
  obtain ⟨m', n', r, r1, r2, r3, r4, r5⟩ := ih m n q hk h0
  rw [← wsucc hi (by omega)] at r5
  refine ⟨m', n', r, r1, r2, r3, fun j h1 h2 h3 => ?_, Ev.step (fun k => impl_Pasture_far.l5.eq_2 _ _ _ _ _ _) (Ev.pos (by omega) (Ev.bind (Ev.const (ahead_eq _ _)) (Ev.bind (Ev.bind (Ev.const hg) (Ev.neg (by simp) (Ev.const rfl))) (Ev.neg (by simp) r5))))⟩
  by_cases hj : j = i
  ·subst hj; rw [ho] at h3; cases h3
  exact r4 j (by omega) h2 h3
 rw [ho] at hg
 have hc : cellB p (nx (sp x y) (i : Int)).X (nx (sp x y) (i : Int)).Y = true := by
   unfold openB at ho
   rw [Bool.and_eq_true] at ho
   exact ho.1
 obtain ⟨x', y', hx', hy', e⟩ := cellB_nat hw hc
 have ha : impl_Spot_ahead.f (sp x y) (i : Int) = some (sp x' y') := (ahead_eq _ _).trans (congrArg some e)
 have hst : stepP p y x y' x' := ⟨hy', hx', i, hi, ho, e⟩
 have hr := hk.rl
 have l1 := hr.lo y x hy hx
 have l2 := hr.hi y x hy hx
 have l3 := hr.fr
 have cm : Ev (fun k => (impl_Pasture_canGo.f p (sp x y) (i : Int)).bind fun t47 => if t47 = true then ((getI m.l (sp x' y').Y).bind fun t48 => (getI t48.l (sp x' y').X).bind fun t49 => some (decide (t49 < 0))) else (some false)) (decide (g2 m y' x' < 0)) :=
   Ev.bind (Ev.const hg) (Ev.pos rfl (Ev.bind (Ev.const (getR m hy')) (Ev.bind (Ev.const (getA _ hx')) (Ev.const rfl))))
 by_cases hneg : g2 m y' x' < 0
 ·have hk1 := hk.put hy hx h0 hst hneg
  have hf := (frA_put m hy' hx' (v := g2 m y x + 1) (by omega) hneg 10).2 hy'
  have mono : ∀ b a, b < 10 → a < 10 → 0 ≤ g2 m b a → 0 ≤ g2 (put2 m y' x' (g2 m y x + 1)) b a := fun b a hb ha h => by
    rw [g2_put m hy' hx']
    split
    · omega
    · exact h
  obtain ⟨m', n', r, r1, r2, r3, r4, r5⟩ := ih _ _ _ hk1 (mono y x hy hx h0)
  rw [← wsucc hi (by omega)] at r5
  rw [List.append_assoc] at r1 r2 r5
  have e16 : IntKind.i16.wrap (gA (gR m y) x + 1) = g2 m y x + 1 := w16 (show -32768 ≤ g2 m y x + 1 by omega) (show g2 m y x + 1 ≤ 32767 by omega)
  refine ⟨m', n', [sp x' y'] ++ r, r1, by rw [r2]; simp only [List.length_append, List.length_cons, List.length_nil]; omega, fun b a hb ha h => r3 b a hb ha (mono b a hb ha h), fun j h1 h2 h3 x1 y1 hx1 hy1 e1 => ?_, Ev.step (fun k => impl_Pasture_far.l5.eq_2 _ _ _ _ _ _) (Ev.pos (by omega) (Ev.bind (Ev.const ha) (Ev.bind cm (Ev.pos (decide_eq_true hneg) (Ev.bind (Ev.const (getR m hy)) (Ev.bind (Ev.const (getA _ hx)) (Ev.bind (Ev.const (getR m hy')) (Ev.bind (Ev.const (getA _ hx')) (Ev.bind (Ev.const (chkT (by simp; omega))) ?_)))))))))⟩
  ·by_cases hj : j = i
   ·subst hj
    rw [e] at e1
    obtain ⟨rfl, rfl⟩ := sp_inj' e1
    refine r3 y' x' hy' hx' ?_
    rw [g2_put m hy' hx', if_pos ⟨rfl, rfl⟩]; omega
   exact r4 j (by omega) h2 h3 x1 y1 hx1 hy1 e1
  rw [e16]; exact r5
 obtain ⟨m', n', r, r1, r2, r3, r4, r5⟩ := ih m n q hk h0
 rw [← wsucc hi (by omega)] at r5
 refine ⟨m', n', r, r1, r2, r3, fun j h1 h2 h3 x1 y1 hx1 hy1 e1 => ?_, Ev.step (fun k => impl_Pasture_far.l5.eq_2 _ _ _ _ _ _) (Ev.pos (by omega) (Ev.bind (Ev.const ha) (Ev.bind cm (Ev.neg (by simp only [decide_eq_true_eq]; exact hneg) r5))))⟩
 by_cases hj : j = i
 ·subst hj
  rw [e] at e1
  obtain ⟨rfl, rfl⟩ := sp_inj' e1
  exact r3 y' x' hy' hx' (by omega)
 exact r4 j (by omega) h2 h3 x1 y1 hx1 hy1 e1
def doneC (p : Pasture) (m : Tb) (s : Spot) : Prop := ∀ y x y' x', y < 10 → x < 10 → s = sp x y → stepP p y x y' x' → 0 ≤ g2 m y' x'
theorem outer2 {p : Pasture} (v : VPasture p) (hw : okW p = true) {sy sx : Nat} : ∀ (d i : Nat) (m n : Tb) (q : List Spot), Kx p sy sx m n q → i ≤ q.length → (∀ s ∈ q.take i, doneC p m s) → q.length - i + frA m 10 ≤ d →
 ∃ m' : Tb, Ev (fun k => impl_Pasture_far.l4 p k m q (i : Int)) m' ∧ closedT p (fun b a => 0 ≤ g2 m' b a) ∧ (∀ T : Nat → Nat → Prop, closedT p T → T sy sx → ∀ b a, b < 10 → a < 10 → 0 ≤ g2 m' b a → T b a) ∧ ∀ b a, b < 10 → a < 10 → 0 ≤ g2 m b a → 0 ≤ g2 m' b a := by
  intro d
  have fin : ∀ (i : Nat) (m n : Tb) (q : List Spot), Kx p sy sx m n q → i = q.length → (∀ s ∈ q.take i, doneC p m s) → ∃ m' : Tb, Ev (fun k => impl_Pasture_far.l4 p k m q (i : Int)) m' ∧ closedT p (fun b a => 0 ≤ g2 m' b a) ∧ (∀ T : Nat → Nat → Prop, closedT p T → T sy sx → ∀ b a, b < 10 → a < 10 → 0 ≤ g2 m' b a → T b a) ∧ ∀ b a, b < 10 → a < 10 → 0 ≤ g2 m b a → 0 ≤ g2 m' b a := by
    intro i m n q hk hi hd
    refine ⟨m, Ev.step (fun k => impl_Pasture_far.l4.eq_2 _ _ _ _ _) (Ev.neg (by omega) (Ev.const rfl)), fun y x y' x' hy hx hm hs => ?_, hk.min, fun _ _ _ _ h => h⟩
    rw [hi, List.take_length] at hd
    exact hd _ (hk.inq y x hy hx hm) y x y' x' hy hx rfl hs
  induction d with
  | zero =>
    intro i m n q hk hi hd hdd
    exact fin i m n q hk (by omega) hd
  | succ d ih =>
    intro i m n q hk hi hd hdd
    have hfr := hk.rl.fr
    by_cases hlt : i < q.length
    · obtain ⟨x, y, hx, hy, e⟩ := hk.rl.cells q[i] (List.getElem_mem hlt)
      have hg : getI q (i : Int) = some (sp x y) := by rw [getI_nat hlt, e]
      have hmk := hk.mkd y x hy hx (by rw [← e]; exact List.getElem_mem hlt)
      obtain ⟨m1, n1, r, r1, r2, r3, r4, r5⟩ := inner2 v hw (sy := sy) (sx := sx) hx hy 0 (Nat.zero_le _) m n q hk hmk
      have hd1 : ∀ s ∈ (q ++ r).take (i + 1), doneC p m1 s := by
        intro s hs
        rw [List.take_append_of_le_length (by omega), List.take_add_one, List.getElem?_eq_getElem hlt] at hs
        rcases List.mem_append.1 hs with hs | hs
        · intro b a b' a' hb ha he hst
          exact r3 b' a' hst.1 hst.2.1 (hd s hs b a b' a' hb ha he hst)
        · have hs : s = q[i] := by simpa using hs
          intro b a b' a' hb ha he hst
          rw [hs, e] at he
          obtain ⟨rfl, rfl⟩ := sp_inj' he
          obtain ⟨hb', ha', j, hj, ho, en⟩ := hst
          exact r4 j (Nat.zero_le _) hj ho a' b' ha' hb' en
      have hql : q.length ≤ (q ++ r).length := by simp
      obtain ⟨m', g1, g2', g3, g4⟩ := ih (i + 1) m1 n1 (q ++ r) r1 (by omega) hd1 (by omega)
      rw [← wsucc hlt (by omega)] at g1
      exact ⟨m', Ev.step (fun k => impl_Pasture_far.l4.eq_2 _ _ _ _ _) (Ev.pos (by omega) (Ev.bind (Ev.bind (Ev.const hg) (Ev.bind r5 (Ev.const rfl))) g1)), g2', g3, fun b a hb ha h => g4 b a hb ha (r3 b a hb ha h)⟩
    · exact fin i m n q hk (by omega) hd
/-- What is told to be reached: the start, closed, and no more. -/
theorem far2_ev {p : Pasture} (v : VPasture p) (hw : okW p = true) {x y : Nat} (hx : x < 10) (hy : y < 10) : ∃ m : Tb, Ev (fun k => impl_Pasture_far.f k p ([sp x y] : List Spot)) m ∧ 0 ≤ g2 m y x ∧ closedT p (fun b a => 0 ≤ g2 m b a) ∧ ∀ T : Nat → Nat → Prop, closedT p T → T y x → ∀ b a, b < 10 → a < 10 → 0 ≤ g2 m b a → T b a := by
 obtain ⟨m0, a1, a2⟩ := tab_ev 0 (Nat.zero_le _) (Arr.mk' (Arr.mk' 0 : Arr 10 Int) : Tb)
 have hneg : ∀ y x, y < 10 → x < 10 → g2 m0 y x < 0 := fun y x hy hx => by rw [a1 y x hy hx, if_pos (Nat.zero_le _)]; omega
 have hfr := (frA_put m0 hy hx (v := 0) (by omega) (hneg y x hy hx) 10).2 hy
 rw [frA_all hneg 10 (Nat.le_refl _)] at hfr
 have gp : ∀ b a, b < 10 → a < 10 → (0 ≤ g2 (put2 m0 y x 0) b a ↔ y = b ∧ x = a) := fun b a hb ha => by
   rw [g2_put _ hy hx]
   have := hneg b a hb ha
   split
   · rename_i h; simp [h]
   · rename_i h
     constructor
     · intro h1; omega
     · intro h1; exact absurd h1 h
 have hr : Rl (put2 m0 y x 0) (put2 (Arr.mk' (Arr.mk' 0 : Arr 10 Int) : Tb) y x 1) [sp x y] := by
   refine ⟨fun a b ha hb => ?_, fun a b ha hb => ?_, fun a b ha hb => ?_, ?_, fun s hs => ⟨x, y, hx, hy, List.mem_singleton.1 hs⟩⟩
   · rw [g2_put _ hy hx, g2_put _ hy hx, g2_zero ha hb, a1 a b ha hb, if_pos (Nat.zero_le _)]
     split <;> rfl
   · rw [g2_put _ hy hx, a1 a b ha hb, if_pos (Nat.zero_le _)]
     split <;> omega
   · rw [g2_put _ hy hx, a1 a b ha hb, if_pos (Nat.zero_le _)]
     split <;> simp
   · simp only [List.length_cons, List.length_nil]; omega
 have hk : Kx p y x (put2 m0 y x 0) (put2 (Arr.mk' (Arr.mk' 0 : Arr 10 Int) : Tb) y x 1) [sp x y] := by
   refine ⟨hr, fun b a hb ha h => ?_, fun b a hb ha h => ?_, fun T hT h0 b a hb ha h => ?_⟩
   · obtain ⟨rfl, rfl⟩ := (gp b a hb ha).1 h; simp
   · have := sp_inj' (List.mem_singleton.1 h)
     exact (gp b a hb ha).2 ⟨this.2.symm, this.1.symm⟩
   · obtain ⟨rfl, rfl⟩ := (gp b a hb ha).1 h; exact h0
 obtain ⟨m, h1, h2, h3, h4⟩ := outer2 v hw 101 0 _ _ _ hk (Nat.zero_le _) (by simp) (by simp only [List.length_cons, List.length_nil]; omega)
 have hl3 : Ev (fun k => impl_Pasture_far.l3 ([sp x y] : List Spot) k m0 0) (put2 m0 y x 0) := by
   refine Ev.step (fun k => impl_Pasture_far.l3.eq_2 _ _ _ _) (Ev.pos (by simp) (Ev.bind (Ev.const (show _ = some (sp x y) from rfl)) (Ev.bind (Ev.const (getR m0 hy)) (Ev.bind (Ev.const (getA _ hx)) ?_))))
   exact Ev.step (fun k => impl_Pasture_far.l3.eq_2 _ _ _ _) (Ev.neg (by rw [show IntKind.i64.wrap (0 + 1) = 1 from by decide]; simp) (Ev.const rfl))
 exact ⟨m, a2.bind (hl3.bind (Ev.bind (Ev.const (show slices_Clone_impl_Spot_impl_Spot.f [sp x y] = some [sp x y] from rfl)) (h1.bind (Ev.const rfl)))), h4 y x hy hx ((gp y x hy hx).2 ⟨rfl, rfl⟩), h2, h3⟩
/-! ### Back again -/
theorem step_back {p : Pasture} (hw : okW p = true) {y x y' x' : Nat} (hy : y < 10) (hx : x < 10) (hc : cellB p (x : Int) (y : Int) = true) (h : stepP p y x y' x') : stepP p y' x' y x := by
 obtain ⟨hy', hx', i, hi, ho, e⟩ := h
 have hc' := ho
 unfold openB at hc'
 rw [Bool.and_eq_true] at hc'
 obtain ⟨c1, c2⟩ := hc'
 have ex : nx (sp x y) (i : Int) = sp x' y' := e
 rcases side hi with rfl | rfl | rfl | rfl
 ·have e2 : (sp x' y').Y = IntKind.i8.wrap ((y : Int) - 1) ∧ (sp x' y').X = (x : Int) := by rw [← ex]; exact ⟨rfl, rfl⟩
  rw [w8 (by omega) (by omega)] at e2
  have e3 : (y' : Int) = (y : Int) - 1 := e2.1
  have e4 : (x' : Int) = (x : Int) := e2.2
  obtain rfl : x' = x := by omega
  obtain rfl : y = y' + 1 := by omega
  have en : nx (sp x' y') ((2 : Nat) : Int) = sp x' (y' + 1) := by
    show (⟨(x' : Int), IntKind.i8.wrap ((y' : Int) + 1)⟩ : Spot) = _
    rw [w8 (by omega) (by omega)]; rfl
  refine ⟨hy, hx, 2, by omega, ?_, en⟩
  unfold openB
  rw [en, Bool.and_eq_true]
  exact ⟨hc, c2⟩
 ·have e2 : (sp x' y').Y = (y : Int) ∧ (sp x' y').X = IntKind.i8.wrap ((x : Int) + 1) := by rw [← ex]; exact ⟨rfl, rfl⟩
  rw [w8 (by omega) (by omega)] at e2
  have e3 : (y' : Int) = (y : Int) := e2.1
  have e4 : (x' : Int) = (x : Int) + 1 := e2.2
  obtain rfl : y' = y := by omega
  obtain rfl : x' = x + 1 := by omega
  have en : nx (sp (x + 1) y') ((3 : Nat) : Int) = sp x y' := by
    show (⟨IntKind.i8.wrap (((x + 1 : Nat) : Int) - 1), (y' : Int)⟩ : Spot) = _
    rw [w8 (by omega) (by omega)]
    unfold sp
    congr 1
    omega
  refine ⟨hy, hx, 3, by omega, ?_, en⟩
  unfold openB
  rw [en, Bool.and_eq_true]
  exact ⟨hc, c2⟩
 ·have e2 : (sp x' y').Y = IntKind.i8.wrap ((y : Int) + 1) ∧ (sp x' y').X = (x : Int) := by rw [← ex]; exact ⟨rfl, rfl⟩
  rw [w8 (by omega) (by omega)] at e2
  have e3 : (y' : Int) = (y : Int) + 1 := e2.1
  have e4 : (x' : Int) = (x : Int) := e2.2
  obtain rfl : x' = x := by omega
  obtain rfl : y' = y + 1 := by omega
  have en : nx (sp x' (y + 1)) ((0 : Nat) : Int) = sp x' y := by
    show (⟨(x' : Int), IntKind.i8.wrap (((y + 1 : Nat) : Int) - 1)⟩ : Spot) = _
    rw [w8 (by omega) (by omega)]
    unfold sp
    congr 1
    omega
  refine ⟨hy, hx, 0, by omega, ?_, en⟩
  unfold openB
  rw [en, Bool.and_eq_true]
  exact ⟨hc, c2⟩
 have e2 : (sp x' y').Y = (y : Int) ∧ (sp x' y').X = IntKind.i8.wrap ((x : Int) - 1) := by rw [← ex]; exact ⟨rfl, rfl⟩
 rw [w8 (by omega) (by omega)] at e2
 have e3 : (y' : Int) = (y : Int) := e2.1
 have e4 : (x' : Int) = (x : Int) - 1 := e2.2
 obtain rfl : y' = y := by omega
 obtain rfl : x = x' + 1 := by omega
 have en : nx (sp x' y') ((1 : Nat) : Int) = sp (x' + 1) y' := by
   show (⟨IntKind.i8.wrap ((x' : Int) + 1), (y' : Int)⟩ : Spot) = _
   rw [w8 (by omega) (by omega)]; rfl
 refine ⟨hy, hx, 1, by omega, ?_, en⟩
 unfold openB
 rw [en, Bool.and_eq_true]
 exact ⟨hc, c2⟩
end Go.Proofs.YtegibnmfiogebaaGreat
