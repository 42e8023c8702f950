
/-
  Plain law: how far cells lie: the searches, step by step.
-/
import Derived.Test.YtegibnmfiogebaaGreatQD
namespace Go.Proofs.YtegibnmfiogebaaGreat
open G
set_option linter.unusedVariables false
set_option linter.unusedSimpArgs false
/-! ### Cells not yet met -/
def fr1 (m : Tb) (y : Nat) : Nat → Nat
  | 0 => 0
  | n + 1 => fr1 m y n + (if g2 m y n < 0 then 1 else 0)
def frA (m : Tb) : Nat → Nat
  | 0 => 0
  | n + 1 => frA m n + fr1 m n 10
theorem fr1_other (m : Tb) {y x : Nat} (hy : y < 10) (hx : x < 10) (v : Int) {y' : Nat} (h : y ≠ y') : ∀ n, fr1 (put2 m y x v) y' n = fr1 m y' n
  | 0 => rfl
  | n + 1 => by
    simp only [fr1, fr1_other m hy hx v h n, g2_put m hy hx]
    rw [if_neg (fun e : y = y' ∧ x = n => h e.1)]
theorem fr1_same (m : Tb) {y x : Nat} (hy : y < 10) (hx : x < 10) {v : Int} (hv : 0 ≤ v) (hg : g2 m y x < 0) : ∀ n, (n ≤ x → fr1 (put2 m y x v) y n = fr1 m y n) ∧ (x < n → fr1 (put2 m y x v) y n + 1 = fr1 m y n)
  | 0 => ⟨fun _ => rfl, fun h => by omega⟩
  | n + 1 => by
    obtain ⟨h1, h2⟩ := fr1_same m hy hx hv hg n
    refine ⟨fun h => ?_, fun h => ?_⟩
    · simp only [fr1]
      rw [h1 (by omega), g2_put m hy hx, if_neg (fun e : y = y ∧ x = n => by omega)]
    · simp only [fr1]
      rw [g2_put m hy hx]
      rcases Nat.lt_or_ge x n with hlt | hge
      · rw [if_neg (fun e : y = y ∧ x = n => by omega)]
        have := h2 hlt
        omega
      · obtain rfl : x = n := by omega
        have e : (if y = y ∧ x = x then v else g2 m y x) = v := if_pos ⟨rfl, rfl⟩
        rw [e, h1 (Nat.le_refl _), if_neg (show ¬ v < 0 by omega), if_pos hg]
theorem frA_put (m : Tb) {y x : Nat} (hy : y < 10) (hx : x < 10) {v : Int} (hv : 0 ≤ v) (hg : g2 m y x < 0) : ∀ n, (n ≤ y → frA (put2 m y x v) n = frA m n) ∧ (y < n → frA (put2 m y x v) n + 1 = frA m n)
  | 0 => ⟨fun _ => rfl, fun h => by omega⟩
  | n + 1 => by
    obtain ⟨h1, h2⟩ := frA_put m hy hx hv hg n
    refine ⟨fun h => ?_, fun h => ?_⟩
    · simp only [frA]
      rw [h1 (by omega), fr1_other m hy hx v (by omega)]
    · simp only [frA]
      rcases Nat.lt_or_ge y n with hlt | hge
      · rw [fr1_other m hy hx v (by omega)]
        have := h2 hlt
        omega
      · obtain rfl : y = n := by omega
        have := (fr1_same m hy hx hv hg 10).2 hx
        rw [h1 (Nat.le_refl _)]
        omega
/-! ### The two states -/
structure Rl (m n : Tb) (q : List Spot) : Prop where
  eq : ∀ y x, y < 10 → x < 10 → g2 n y x = g2 m y x + 1
  lo : ∀ y x, y < 10 → x < 10 → -1 ≤ g2 m y x
  hi : ∀ y x, y < 10 → x < 10 → g2 m y x < (q.length : Int)
  fr : q.length + frA m 10 ≤ 101
  cells : ∀ s ∈ q, ∃ x y : Nat, x < 10 ∧ y < 10 ∧ s = sp x y
theorem Rl.put {m n : Tb} {q : List Spot} (h : Rl m n q) {y x y' x' : Nat} (hy : y < 10) (hx : x < 10) (hy' : y' < 10) (hx' : x' < 10) (hg : g2 m y' x' < 0) : Rl (put2 m y' x' (g2 m y x + 1)) (put2 n y' x' (g2 n y x + 1)) (q ++ [sp x' y']) := by
 have h1 := h.lo y x hy hx
 have h2 := h.hi y x hy hx
 have hf := (frA_put m hy' hx' (v := g2 m y x + 1) (by omega) hg 10).2 hy'
 refine ⟨fun a b ha hb => ?_, fun a b ha hb => ?_, fun a b ha hb => ?_, ?_, fun s hs => ?_⟩
 ·rw [g2_put n hy' hx', g2_put m hy' hx', h.eq y x hy hx]
  split
  ·rfl
  exact h.eq a b ha hb
 ·rw [g2_put m hy' hx']
  split
  ·omega
  exact h.lo a b ha hb
 ·rw [g2_put m hy' hx', List.length_append]
  have := h.hi a b ha hb
  split
  ·simp; omega
  simp; omega
 ·have := h.fr
  simp only [List.length_append, List.length_cons, List.length_nil]
  omega
 rcases List.mem_append.1 hs with hs | hs
 ·exact h.cells s hs
 exact ⟨x', y', hx', hy', List.mem_singleton.1 hs⟩
/-! ### Cells beside -/
def nbs (p : Pasture) (x y : Nat) : Nat → Nat → List Spot
  | 0, _ => []
  | n + 1, i => (if openB p x y i = true then [nx (sp x y) (i : Int)] else []) ++ nbs p x y n (i + 1)
theorem nbs_step (p : Pasture) (x y : Nat) {i : Nat} (h : i < 4) : nbs p x y (4 - i) i = (if openB p x y i = true then [nx (sp x y) (i : Int)] else []) ++ nbs p x y (4 - (i + 1)) (i + 1) := by
 rw [show 4 - i = (4 - (i + 1)) + 1 by omega]; rfl
theorem beside_ev {p : Pasture} (v : VPasture p) (hw : okW p = true) {x y : Nat} (hx : x < 10) (hy : y < 10) : Ev (fun k => spec_l01Beside.f k p (sp x y)) (nbs p x y 4 0) := by
 have key : ∀ i, i ≤ 4 → ∀ acc : List Spot, acc.length ≤ i → Ev (fun k => spec_l01Beside.l1 p (sp x y) k acc (i : Int)) (acc ++ nbs p x y (4 - i) i) := by
   refine upL ?_ ?_
   · intro acc ha
     refine Ev.step (fun k => spec_l01Beside.l1.eq_2 _ _ _ _ _) (Ev.neg (by omega) (Ev.const ?_))
     simp [nbs]
   · intro i hi ih acc ha
     refine Ev.step (fun k => spec_l01Beside.l1.eq_2 _ _ _ _ _) (Ev.pos (by omega) (Ev.bind (Ev.const (closed_eq v hw hx hy hi)) ?_))
     rw [nbs_step p x y hi, wsucc hi (by omega)]
     cases ho : openB p x y i
     · refine Ev.neg (by simp) ?_
       simpa using ih acc (by omega)
     · refine Ev.pos (by simp) (Ev.bind (Ev.const (next_eq _ _)) (Ev.bind (Ev.const (chkT (by simp; omega))) ?_))
       have := ih (acc ++ [nx (sp x y) (i : Int)]) (by simp; omega)
       rw [List.append_assoc] at this
       rw [if_pos rfl]; exact this
 have := key 0 (Nat.zero_le _) [] (by simp)
 rw [List.nil_append] at this
 exact this.bind (Ev.const rfl)
theorem nbs_len (p : Pasture) (x y : Nat) : ∀ n i, (nbs p x y n i).length ≤ n
  | 0, i => by simp [nbs]
  | n + 1, i => by
    have := nbs_len p x y n (i + 1)
    simp only [nbs, List.length_append]
    split <;> simp <;> omega
/-! ### One cell's sides -/
theorem inner {p : Pasture} (v : VPasture p) (hw : okW p = true) {x y : Nat} (hx : x < 10) (hy : y < 10) : ∀ i, i ≤ 4 → ∀ (m n : Tb) (q : List Spot), Rl m n q → ∀ pre : List Spot, pre ++ nbs p x y (4 - i) i = nbs p x y 4 0 →
 ∃ (m' n' : Tb) (q' : List Spot), Rl m' n' q' ∧ q.length ≤ q'.length ∧ q'.length + frA m' 10 = q.length + frA m 10 ∧ Ev (fun k => impl_Pasture_far.l5 p (sp x y) k m q (i : Int)) (m', q') ∧ Ev (fun k => spec_l01Steps.l2 (sp x y) (nbs p x y 4 0) k n q (pre.length : Int)) (n', q') := by
 have hT := nbs_len p x y 4 0
 refine upL ?_ ?_
 ·intro m n q hr pre hp
  have hl : pre.length = (nbs p x y 4 0).length := by rw [← hp]; simp [nbs]
  exact ⟨m, n, q, hr, Nat.le_refl _, rfl, Ev.step (fun k => impl_Pasture_far.l5.eq_2 _ _ _ _ _ _) (Ev.neg (by omega) (Ev.const rfl)), Ev.step (fun k => spec_l01Steps.l2.eq_2 _ _ _ _ _ _) (Ev.neg (by omega) (Ev.const rfl))⟩
 intro i hi ih m n q hr pre hp
 rw [nbs_step p x y hi] at hp
 have hg := canGo_eq v hw hx hy hi
 cases ho : openB p x y i
 ·rw [ho] at hg
  rw [ho, if_neg (by simp), List.nil_append] at hp
  obtain ⟨m', n', q', r1, r2, r3, r4, r5⟩ := ih m n q hr pre hp
  rw [← wsucc hi (by omega)] at r4
  exact ⟨m', n', q', r1, r2, r3, Ev.step (fun k => impl_Pasture_far.l5.eq_2 _ _ _ _ _ _) (Ev.pos (by omega) (Ev.bind (Ev.const (ahead_eq _ _)) (Ev.bind (Ev.bind (Ev.const hg) (Ev.neg (by simp) (Ev.const rfl))) (Ev.neg (by simp) r4)))), r5⟩
 rw [ho] at hg
 rw [ho, if_pos rfl] at hp
 have hc : cellB p (nx (sp x y) (i : Int)).X (nx (sp x y) (i : Int)).Y = true := by
   unfold openB at ho
   rw [Bool.and_eq_true] at ho
   exact ho.1
 obtain ⟨x', y', hx', hy', e⟩ := cellB_nat hw hc
 rw [e] at hp
 have ha : impl_Spot_ahead.f (sp x y) (i : Int) = some (sp x' y') := (ahead_eq _ _).trans (congrArg some e)
 have hlt : pre.length < (nbs p x y 4 0).length := by rw [← hp]; simp
 have hgt : getI (nbs p x y 4 0) (pre.length : Int) = some (sp x' y') := by
   rw [getI_nat hlt]
   congr 1
   have : (nbs p x y 4 0)[pre.length]? = some (sp x' y') := by rw [← hp]; simp
   rw [List.getElem?_eq_getElem hlt] at this
   exact Option.some.inj this
 have hp' : (pre ++ [sp x' y']) ++ nbs p x y (4 - (i + 1)) (i + 1) = nbs p x y 4 0 := by rw [List.append_assoc]; exact hp
 have hl' : ((pre ++ [sp x' y']).length : Int) = IntKind.i64.wrap ((pre.length : Int) + 1) := by
   rw [wsucc hlt (by omega)]; simp
 have l1 := hr.lo y x hy hx
 have l2 := hr.hi y x hy hx
 have l3 := hr.fr
 have l4 := hr.eq y x hy hx
 have l5 := hr.eq y' x' hy' hx'
 have cm : Ev (fun k => (impl_Pasture_canGo.f p (sp x y) (i : Int)).bind fun t47 => if t47 = true then ((getI m.l (sp x' y').Y).bind fun t48 => (getI t48.l (sp x' y').X).bind fun t49 => some (decide (t49 < 0))) else (some false)) (decide (g2 m y' x' < 0)) :=
   Ev.bind (Ev.const hg) (Ev.pos rfl (Ev.bind (Ev.const (getR m hy')) (Ev.bind (Ev.const (getA _ hx')) (Ev.const rfl))))
 by_cases hneg : g2 m y' x' < 0
 ·obtain ⟨m', n', q', r1, r2, r3, r4, r5⟩ := ih _ _ _ (hr.put hy hx hy' hx' hneg) (pre ++ [sp x' y']) hp'
  rw [← wsucc hi (by omega)] at r4
  rw [hl'] at r5
  have hf := (frA_put m hy' hx' (v := g2 m y x + 1) (by omega) hneg 10).2 hy'
  simp only [List.length_append, List.length_cons, List.length_nil] at r2 r3
  have e16 : IntKind.i16.wrap (gA (gR m y) x + 1) = g2 m y x + 1 := w16 (show -32768 ≤ g2 m y x + 1 by omega) (show g2 m y x + 1 ≤ 32767 by omega)
  have e64 : IntKind.i64.wrap (gA (gR n y) x + 1) = g2 n y x + 1 := w64 (show -9223372036854775808 ≤ g2 n y x + 1 by omega) (show g2 n y x + 1 ≤ 9223372036854775807 by omega)
  refine ⟨m', n', q', r1, by omega, by omega, Ev.step (fun k => impl_Pasture_far.l5.eq_2 _ _ _ _ _ _) (Ev.pos (by omega) (Ev.bind (Ev.const ha) (Ev.bind cm (Ev.pos (decide_eq_true hneg) (Ev.bind (Ev.const (getR m hy)) (Ev.bind (Ev.const (getA _ hx)) (Ev.bind (Ev.const (getR m hy')) (Ev.bind (Ev.const (getA _ hx')) (Ev.bind (Ev.const (chkT (by simp; omega))) ?_))))))))),
    Ev.step (fun k => spec_l01Steps.l2.eq_2 _ _ _ _ _ _) (Ev.pos (by omega) (Ev.bind (Ev.const hgt) (Ev.bind (Ev.const hgt) (Ev.bind (Ev.const (getR n hy')) (Ev.bind (Ev.const (getA _ hx')) (Ev.pos (show g2 n y' x' = 0 by have := hr.lo y' x' hy' hx'; omega) (Ev.bind (Ev.const hgt) (Ev.bind (Ev.const hgt) (Ev.bind (Ev.const (getR n hy)) (Ev.bind (Ev.const (getA _ hx)) (Ev.bind (Ev.const (getR n hy')) (Ev.bind (Ev.const (getA _ hx')) (Ev.bind (Ev.const hgt) (Ev.bind (Ev.const (chkT (by simp; omega))) ?_))))))))))))))⟩
  ·rw [e16]; exact r4
  rw [e64]; exact r5
 obtain ⟨m', n', q', r1, r2, r3, r4, r5⟩ := ih m n q hr (pre ++ [sp x' y']) hp'
 rw [← wsucc hi (by omega)] at r4
 rw [hl'] at r5
 exact ⟨m', n', q', r1, r2, r3, Ev.step (fun k => impl_Pasture_far.l5.eq_2 _ _ _ _ _ _) (Ev.pos (by omega) (Ev.bind (Ev.const ha) (Ev.bind cm (Ev.neg (by simp only [decide_eq_true_eq]; exact hneg) r4)))),
   Ev.step (fun k => spec_l01Steps.l2.eq_2 _ _ _ _ _ _) (Ev.pos (by omega) (Ev.bind (Ev.const hgt) (Ev.bind (Ev.const hgt) (Ev.bind (Ev.const (getR n hy')) (Ev.bind (Ev.const (getA _ hx')) (Ev.neg (show ¬ g2 n y' x' = 0 by omega) r5))))))⟩
/-! ### All cells -/
theorem outer {p : Pasture} (v : VPasture p) (hw : okW p = true) : ∀ (d i : Nat) (m n : Tb) (q : List Spot), Rl m n q → i ≤ q.length → q.length - i + frA m 10 ≤ d →
 ∃ (m' n' : Tb), (∀ y x, y < 10 → x < 10 → g2 n' y x = g2 m' y x + 1 ∧ -1 ≤ g2 m' y x ∧ g2 m' y x ≤ 101) ∧ Ev (fun k => impl_Pasture_far.l4 p k m q (i : Int)) m' ∧ Ev (fun k => spec_l01Steps.l1 p k n q (i : Int)) n' := by
  intro d
  induction d with
  | zero =>
    intro i m n q hr hi hd
    have := hr.fr
    exact ⟨m, n, fun y x hy hx => ⟨hr.eq y x hy hx, hr.lo y x hy hx, by have := hr.hi y x hy hx; omega⟩, Ev.step (fun k => impl_Pasture_far.l4.eq_2 _ _ _ _ _) (Ev.neg (by omega) (Ev.const rfl)), Ev.step (fun k => spec_l01Steps.l1.eq_2 _ _ _ _ _) (Ev.neg (by omega) (Ev.const rfl))⟩
  | succ d ih =>
    intro i m n q hr hi hd
    have hfr := hr.fr
    by_cases hlt : i < q.length
    · obtain ⟨x, y, hx, hy, e⟩ := hr.cells q[i] (List.getElem_mem hlt)
      have hg : getI q (i : Int) = some (sp x y) := by rw [getI_nat hlt, e]
      obtain ⟨m1, n1, q1, r1, r2, r3, r4, r5⟩ := inner v hw hx hy 0 (Nat.zero_le _) m n q hr [] (by simp)
      obtain ⟨m', n', g1, g2, g3⟩ := ih (i + 1) m1 n1 q1 r1 (by omega) (by omega)
      rw [← wsucc hlt (by omega)] at g2 g3
      exact ⟨m', n', g1, Ev.step (fun k => impl_Pasture_far.l4.eq_2 _ _ _ _ _) (Ev.pos (by omega) (Ev.bind (Ev.bind (Ev.const hg) (Ev.bind r4 (Ev.const rfl))) g2)), Ev.step (fun k => spec_l01Steps.l1.eq_2 _ _ _ _ _) (Ev.pos (by omega) (Ev.bind (Ev.bind (Ev.const hg) ((beside_ev v hw hx hy).bind (Ev.bind r5 (Ev.const rfl)))) g3))⟩
    · exact ⟨m, n, fun y x hy hx => ⟨hr.eq y x hy hx, hr.lo y x hy hx, by have := hr.hi y x hy hx; omega⟩, Ev.step (fun k => impl_Pasture_far.l4.eq_2 _ _ _ _ _) (Ev.neg (by omega) (Ev.const rfl)), Ev.step (fun k => spec_l01Steps.l1.eq_2 _ _ _ _ _) (Ev.neg (by omega) (Ev.const rfl))⟩
end Go.Proofs.YtegibnmfiogebaaGreat
