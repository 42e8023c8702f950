import Derived.Test.YtggfhnipkecpmaaGreatQYw
/-
  Plain law: the search tells the least number of steps.
-/
namespace Go.Proofs.YtggfhnipkecpmaaGreat
open G
set_option linter.unusedVariables false
set_option linter.unusedSimpArgs false
/-- What is told at a spot. -/
def gS (m : Tb) (s : Spot) : Int := g2 m s.Y.toNat s.X.toNat
theorem gS_sp (m : Tb) (x y : Nat) : gS m (sp x y) = g2 m y x := by unfold gS sp; simp
structure Kd (p : Pasture) (sy sx : Nat) (m n : Tb) (q : List Spot) : Prop where
  kx : Kx p sy sx m n q
  one : ∀ b a, b < 10 → a < 10 → g2 m b a = 0 → b = sy ∧ a = sx
  pre : ∀ b a, b < 10 → a < 10 → 0 < g2 m b a → ∃ y x, y < 10 ∧ x < 10 ∧ stepP p y x b a ∧ 0 ≤ g2 m y x ∧ g2 m y x + 1 = g2 m b a
  srt : q.Pairwise fun s t => gS m s ≤ gS m t
theorem Kd.put {p : Pasture} {sy sx : Nat} {m n : Tb} {q : List Spot} (h : Kd p sy sx m n q) {y x y' x' : Nat} (hy : y < 10) (hx : x < 10) (hm : 0 ≤ g2 m y x) (hs : stepP p y x y' x') (hg : g2 m y' x' < 0) (hb : ∀ s ∈ q, gS m s ≤ g2 m y x + 1) :
    Kd p sy sx (put2 m y' x' (g2 m y x + 1)) (put2 n y' x' (g2 n y x + 1)) (q ++ [sp x' y']) ∧ (∀ b a, b < 10 → a < 10 → 0 ≤ g2 m b a → g2 (put2 m y' x' (g2 m y x + 1)) b a = g2 m b a) ∧ ∀ s ∈ q ++ [sp x' y'], gS (put2 m y' x' (g2 m y x + 1)) s ≤ g2 m y x + 1 := by
  obtain ⟨hy', hx', _⟩ := id hs
  have same : ∀ b a, b < 10 → a < 10 → 0 ≤ g2 m b a → g2 (put2 m y' x' (g2 m y x + 1)) b a = g2 m b a := fun b a hb' ha h0 => by
    rw [g2_put m hy' hx']
    split
    · rename_i e
      rw [e.1, e.2] at hg
      omega
    · rfl
  have new : g2 (put2 m y' x' (g2 m y x + 1)) y' x' = g2 m y x + 1 := by rw [g2_put m hy' hx', if_pos ⟨rfl, rfl⟩]
  have cells := h.kx.rl.cells
  have sameS : ∀ s ∈ q, gS (put2 m y' x' (g2 m y x + 1)) s = gS m s := fun s hs' => by
    obtain ⟨a, b, ha, hb', rfl⟩ := cells s hs'
    rw [gS_sp, gS_sp]
    exact same b a hb' ha (h.kx.mkd b a hb' ha hs')
  have bnd : ∀ s ∈ q ++ [sp x' y'], gS (put2 m y' x' (g2 m y x + 1)) s ≤ g2 m y x + 1 := fun s hs' => by
    rcases List.mem_append.1 hs' with hs' | hs'
    · rw [sameS s hs']; exact hb s hs'
    · rw [List.mem_singleton.1 hs', gS_sp, new]; omega
  refine ⟨⟨h.kx.put hy hx hm hs hg, fun b a hb' ha h0 => ?_, fun b a hb' ha h0 => ?_, ?_⟩, same, bnd⟩
  · rw [g2_put m hy' hx'] at h0
    split at h0
    · omega
    · exact h.one b a hb' ha h0
  · by_cases e : y' = b ∧ x' = a
    · obtain ⟨rfl, rfl⟩ := e
      exact ⟨y, x, hy, hx, hs, by rw [same y x hy hx hm]; exact hm, by rw [same y x hy hx hm, new]⟩
    · have e1 : g2 (put2 m y' x' (g2 m y x + 1)) b a = g2 m b a := by rw [g2_put m hy' hx', if_neg e]
      rw [e1] at h0 ⊢
      obtain ⟨c, d, hc, hd, k1, k2, k3⟩ := h.pre b a hb' ha h0
      exact ⟨c, d, hc, hd, k1, by rw [same c d hc hd k2]; exact k2, by rw [same c d hc hd k2]; exact k3⟩
  · refine List.pairwise_append.2 ⟨?_, by simp, fun s hs' t ht => ?_⟩
    · refine (List.pairwise_iff_forall_sublist.2 fun {s t} hst => ?_)
      have h1 : s ∈ q := hst.subset (by simp)
      have h2 : t ∈ q := hst.subset (by simp)
      rw [sameS s h1, sameS t h2]
      exact (List.pairwise_iff_forall_sublist.1 h.srt) hst
    · rw [List.mem_singleton.1 ht, sameS s hs', gS_sp, new]
      exact hb s hs'
theorem innerD {p : Pasture} (v : VPasture p) (hw : okW p = true) {sy sx x y : Nat} (hx : x < 10) (hy : y < 10) : ∀ i, i ≤ 4 → ∀ (m n : Tb) (q : List Spot), Kd p sy sx m n q → 0 ≤ g2 m y x → (∀ s ∈ q, gS m s ≤ g2 m y x + 1) →
    ∃ (m' n' : Tb) (r : List Spot), Kd p sy sx m' n' (q ++ r) ∧ (q ++ r).length + frA m' 10 = q.length + frA m 10 ∧ (∀ b a, b < 10 → a < 10 → 0 ≤ g2 m b a → g2 m' b a = g2 m b a) ∧ (∀ s ∈ q ++ r, gS m' s ≤ g2 m y x + 1) ∧ (∀ j : Nat, i ≤ j → j < 4 → openB p x y j = true → ∀ x' y', x' < 10 → y' < 10 → nx (sp x y) (j : Int) = sp x' y' → 0 ≤ g2 m' y' x') ∧ Ev (fun k => impl_Pasture_far.l5 p (sp x y) k m q (i : Int)) (m', q ++ r) := by
  refine upL ?_ ?_
  · intro m n q hk h0 hb
    refine ⟨m, n, [], by rw [List.append_nil]; exact hk, by rw [List.append_nil], fun _ _ _ _ _ => rfl, by rw [List.append_nil]; exact hb, fun j h1 h2 => by omega, ?_⟩
    rw [List.append_nil]
    exact Ev.step (fun k => impl_Pasture_far.l5.eq_2 _ _ _ _ _ _) (Ev.neg (by omega) (Ev.const rfl))
  · intro i hi ih m n q hk h0 hbd
    have hg := canGo_eq v hw hx hy hi
    cases ho : openB p x y i
    · rw [ho] at hg
      obtain ⟨m', n', r, r1, r2, r3, r6, r4, r5⟩ := ih m n q hk h0 hbd
      rw [← wsucc hi (by omega)] at r5
      refine ⟨m', n', r, r1, r2, r3, r6, fun j h1 h2 h3 => ?_, Ev.step (fun k => impl_Pasture_far.l5.eq_2 _ _ _ _ _ _) (Ev.pos (by omega) (Ev.bind (Ev.const (ahead_eq _ _)) (Ev.bind (Ev.bind (Ev.const hg) (Ev.neg (by simp) (Ev.const rfl))) (Ev.neg (by simp) r5))))⟩
      by_cases hj : j = i
      · subst hj; rw [ho] at h3; cases h3
      · exact r4 j (by omega) h2 h3
    · rw [ho] at hg
      have hc : cellB p (nx (sp x y) (i : Int)).X (nx (sp x y) (i : Int)).Y = true := by
        unfold openB at ho
        rw [Bool.and_eq_true] at ho
        exact ho.1
      obtain ⟨x', y', hx', hy', e⟩ := cellB_nat hw hc
      have ha : impl_Spot_ahead.f (sp x y) (i : Int) = some (sp x' y') := (ahead_eq _ _).trans (congrArg some e)
      have hst : stepP p y x y' x' := ⟨hy', hx', i, hi, ho, e⟩
      have hr := hk.kx.rl
      have l1 := hr.lo y x hy hx
      have l2 := hr.hi y x hy hx
      have l3 := hr.fr
      have cm : Ev (fun k => (impl_Pasture_canGo.f p (sp x y) (i : Int)).bind fun t47 => if t47 = true then ((getI m.l (sp x' y').Y).bind fun t48 => (getI t48.l (sp x' y').X).bind fun t49 => some (decide (t49 < 0))) else (some false)) (decide (g2 m y' x' < 0)) :=
        Ev.bind (Ev.const hg) (Ev.pos rfl (Ev.bind (Ev.const (getR m hy')) (Ev.bind (Ev.const (getA _ hx')) (Ev.const rfl))))
      by_cases hneg : g2 m y' x' < 0
      · obtain ⟨hk1, same, hb1⟩ := hk.put hy hx h0 hst hneg hbd
        have hf := (frA_put m hy' hx' (v := g2 m y x + 1) (by omega) hneg 10).2 hy'
        have e0 := same y x hy hx h0
        obtain ⟨m', n', r, r1, r2, r3, r6, r4, r5⟩ := ih _ _ _ hk1 (by rw [e0]; exact h0) (by rw [e0]; exact hb1)
        rw [← wsucc hi (by omega)] at r5
        rw [List.append_assoc] at r1 r2 r5
        rw [e0, List.append_assoc] at r6
        have e16 : IntKind.i16.wrap (gA (gR m y) x + 1) = g2 m y x + 1 := w16 (show -32768 ≤ g2 m y x + 1 by omega) (show g2 m y x + 1 ≤ 32767 by omega)
        refine ⟨m', n', [sp x' y'] ++ r, r1, by rw [r2]; simp only [List.length_append, List.length_cons, List.length_nil]; omega, fun b a hb ha h => (r3 b a hb ha (by rw [same b a hb ha h]; exact h)).trans (same b a hb ha h), r6, fun j h1 h2 h3 x1 y1 hx1 hy1 e1 => ?_, Ev.step (fun k => impl_Pasture_far.l5.eq_2 _ _ _ _ _ _) (Ev.pos (by omega) (Ev.bind (Ev.const ha) (Ev.bind cm (Ev.pos (decide_eq_true hneg) (Ev.bind (Ev.const (getR m hy)) (Ev.bind (Ev.const (getA _ hx)) (Ev.bind (Ev.const (getR m hy')) (Ev.bind (Ev.const (getA _ hx')) (Ev.bind (Ev.const (chkT (by simp; omega))) ?_)))))))))⟩
        · by_cases hj : j = i
          · subst hj
            rw [e] at e1
            obtain ⟨rfl, rfl⟩ := sp_inj' e1
            have hnew : g2 (put2 m y' x' (g2 m y x + 1)) y' x' = g2 m y x + 1 := by rw [g2_put m hy' hx', if_pos ⟨rfl, rfl⟩]
            rw [r3 y' x' hy' hx' (by rw [hnew]; omega), hnew]; omega
          · exact r4 j (by omega) h2 h3 x1 y1 hx1 hy1 e1
        · rw [e16]; exact r5
      · obtain ⟨m', n', r, r1, r2, r3, r6, r4, r5⟩ := ih m n q hk h0 hbd
        rw [← wsucc hi (by omega)] at r5
        refine ⟨m', n', r, r1, r2, r3, r6, fun j h1 h2 h3 x1 y1 hx1 hy1 e1 => ?_, Ev.step (fun k => impl_Pasture_far.l5.eq_2 _ _ _ _ _ _) (Ev.pos (by omega) (Ev.bind (Ev.const ha) (Ev.bind cm (Ev.neg (by simp only [decide_eq_true_eq]; exact hneg) r5))))⟩
        by_cases hj : j = i
        · subst hj
          rw [e] at e1
          obtain ⟨rfl, rfl⟩ := sp_inj' e1
          rw [r3 y' x' hy' hx' (by omega)]; omega
        · exact r4 j (by omega) h2 h3 x1 y1 hx1 hy1 e1
def doneD (p : Pasture) (m : Tb) (s : Spot) : Prop := ∀ y x y' x', y < 10 → x < 10 → s = sp x y → stepP p y x y' x' → 0 ≤ g2 m y' x' ∧ g2 m y' x' ≤ g2 m y x + 1
/-- A table of the least numbers of steps. -/
structure Dm (p : Pasture) (sy sx : Nat) (m : Tb) : Prop where
  zero : g2 m sy sx = 0
  one : ∀ b a, b < 10 → a < 10 → g2 m b a = 0 → b = sy ∧ a = sx
  rel : ∀ y x y' x', y < 10 → x < 10 → 0 ≤ g2 m y x → stepP p y x y' x' → 0 ≤ g2 m y' x' ∧ g2 m y' x' ≤ g2 m y x + 1
  pre : ∀ b a, b < 10 → a < 10 → 0 < g2 m b a → ∃ y x, y < 10 ∧ x < 10 ∧ stepP p y x b a ∧ 0 ≤ g2 m y x ∧ g2 m y x + 1 = g2 m b a
theorem outerD {p : Pasture} (v : VPasture p) (hw : okW p = true) {sy sx : Nat} (hsy : sy < 10) (hsx : sx < 10) : ∀ (d i : Nat) (m n : Tb) (q : List Spot), Kd p sy sx m n q → g2 m sy sx = 0 → i ≤ q.length → (∀ s ∈ q.take i, doneD p m s) → (∀ (hi : i < q.length), ∀ s ∈ q, gS m s ≤ gS m q[i] + 1) → q.length - i + frA m 10 ≤ d →
    ∃ m' : Tb, Ev (fun k => impl_Pasture_far.l4 p k m q (i : Int)) m' ∧ Dm p sy sx m' := by
  intro d
  have fin : ∀ (i : Nat) (m n : Tb) (q : List Spot), Kd p sy sx m n q → g2 m sy sx = 0 → i = q.length → (∀ s ∈ q.take i, doneD p m s) → ∃ m' : Tb, Ev (fun k => impl_Pasture_far.l4 p k m q (i : Int)) m' ∧ Dm p sy sx m' := by
    intro i m n q hk hz hi hd
    rw [hi, List.take_length] at hd
    exact ⟨m, Ev.step (fun k => impl_Pasture_far.l4.eq_2 _ _ _ _ _) (Ev.neg (by omega) (Ev.const rfl)), hz, hk.one, fun y x y' x' hy hx hm hs => hd _ (hk.kx.inq y x hy hx hm) y x y' x' hy hx rfl hs, hk.pre⟩
  induction d with
  | zero =>
    intro i m n q hk hz hi hd hb hdd
    exact fin i m n q hk hz (by omega) hd
  | succ d ih =>
    intro i m n q hk hz hi hd hb hdd
    have hfr := hk.kx.rl.fr
    by_cases hlt : i < q.length
    · obtain ⟨x, y, hx, hy, e⟩ := hk.kx.rl.cells q[i] (List.getElem_mem hlt)
      have hg : getI q (i : Int) = some (sp x y) := by rw [getI_nat hlt, e]
      have hmk := hk.kx.mkd y x hy hx (by rw [← e]; exact List.getElem_mem hlt)
      have hbi := hb hlt
      rw [e, gS_sp] at hbi
      obtain ⟨m1, n1, r, r1, r2, r3, r6, r4, r5⟩ := innerD v hw (sy := sy) (sx := sx) hx hy 0 (Nat.zero_le _) m n q hk hmk hbi
      have inq1 : ∀ s ∈ q, s ∈ q ++ r := fun s hs => List.mem_append_left _ hs
      have hd1 : ∀ s ∈ (q ++ r).take (i + 1), doneD p m1 s := by
        intro s hs
        rw [List.take_append_of_le_length (by omega), List.take_add_one, List.getElem?_eq_getElem hlt] at hs
        rcases List.mem_append.1 hs with hs | hs
        · intro b a b' a' hb' ha he hst
          obtain ⟨k1, k2⟩ := hd s hs b a b' a' hb' ha he hst
          have k3 : 0 ≤ g2 m b a := hk.kx.mkd b a hb' ha (by rw [← he]; exact List.mem_of_mem_take hs)
          rw [r3 b' a' hst.1 hst.2.1 k1, r3 b a hb' ha k3]
          exact ⟨k1, k2⟩
        · have hs : s = q[i] := by simpa using hs
          intro b a b' a' hb' ha he hst
          rw [hs, e] at he
          obtain ⟨rfl, rfl⟩ := sp_inj' he
          obtain ⟨hb2, ha2, j, hj, ho, en⟩ := hst
          have k1 := r4 j (Nat.zero_le _) hj ho a' b' ha2 hb2 en
          have k2 := r6 _ (r1.kx.inq b' a' hb2 ha2 k1)
          rw [gS_sp] at k2
          rw [r3 y x hy hx hmk]
          exact ⟨k1, k2⟩
      have hql : q.length ≤ (q ++ r).length := by simp
      have hb1 : ∀ (hi : i + 1 < (q ++ r).length), ∀ s ∈ q ++ r, gS m1 s ≤ gS m1 (q ++ r)[i + 1] + 1 := fun hi1 s hs => by
        have k1 := r6 s hs
        have k2 := (List.pairwise_iff_getElem.1 r1.srt) i (i + 1) (by omega) hi1 (by omega)
        have k3 : (q ++ r)[i]'(by omega) = sp x y := by rw [List.getElem_append_left hlt, e]
        rw [k3, gS_sp, r3 y x hy hx hmk] at k2
        omega
      obtain ⟨m', g1, g2'⟩ := ih (i + 1) m1 n1 (q ++ r) r1 (by rw [r3 sy sx hsy hsx (by omega)]; exact hz) (by omega) hd1 hb1 (by omega)
      rw [← wsucc hlt (by omega)] at g1
      exact ⟨m', Ev.step (fun k => impl_Pasture_far.l4.eq_2 _ _ _ _ _) (Ev.pos (by omega) (Ev.bind (Ev.bind (Ev.const hg) (Ev.bind r5 (Ev.const rfl))) g1)), g2'⟩
    · exact fin i m n q hk hz (by omega) hd
end Go.Proofs.YtggfhnipkecpmaaGreat
/-
  Plain law: least numbers of steps: ways, back again, cells beside.
-/
namespace Go.Proofs.YtggfhnipkecpmaaGreat
open G
set_option linter.unusedVariables false
set_option linter.unusedSimpArgs false
theorem farD_ev {p : Pasture} (v : VPasture p) (hw : okW p = true) {x y : Nat} (hx : x < 10) (hy : y < 10) : ∃ m n : Tb, Ev (fun k => impl_Pasture_far.f k p ([sp x y] : List Spot)) m ∧ Ev (fun k => spec_l01Steps.f k p (sp x y)) n ∧ Dm p y x m ∧ ∀ b a, b < 10 → a < 10 → g2 n b a = g2 m b a + 1 ∧ -1 ≤ g2 m b a ∧ g2 m b a ≤ 101 := by
  obtain ⟨m0, a1, a2⟩ := tab_ev 0 (Nat.zero_le _) (Arr.mk' (Arr.mk' 0 : Arr 10 Int) : Tb)
  have hneg : ∀ y x, y < 10 → x < 10 → g2 m0 y x < 0 := fun y x hy hx => by rw [a1 y x hy hx, if_pos (Nat.zero_le _)]; omega
  have hfr := (frA_put m0 hy hx (v := 0) (by omega) (hneg y x hy hx) 10).2 hy
  rw [frA_all hneg 10 (Nat.le_refl _)] at hfr
  have gp : ∀ b a, b < 10 → a < 10 → (0 ≤ g2 (put2 m0 y x 0) b a ↔ y = b ∧ x = a) := fun b a hb ha => by
    rw [g2_put _ hy hx]
    have := hneg b a hb ha
    split
    · rename_i h; simp [h]
    · rename_i h
      constructor
      · intro h1; omega
      · intro h1; exact absurd h1 h
  have gz : g2 (put2 m0 y x 0) y x = 0 := by rw [g2_put _ hy hx, if_pos ⟨rfl, rfl⟩]
  have hr : Rl (put2 m0 y x 0) (put2 (Arr.mk' (Arr.mk' 0 : Arr 10 Int) : Tb) y x 1) [sp x y] := by
    refine ⟨fun a b ha hb => ?_, fun a b ha hb => ?_, fun a b ha hb => ?_, ?_, fun s hs => ⟨x, y, hx, hy, List.mem_singleton.1 hs⟩⟩
    · rw [g2_put _ hy hx, g2_put _ hy hx, g2_zero ha hb, a1 a b ha hb, if_pos (Nat.zero_le _)]
      split <;> rfl
    · rw [g2_put _ hy hx, a1 a b ha hb, if_pos (Nat.zero_le _)]
      split <;> omega
    · rw [g2_put _ hy hx, a1 a b ha hb, if_pos (Nat.zero_le _)]
      split <;> simp
    · simp only [List.length_cons, List.length_nil]; omega
  have hk : Kx p y x (put2 m0 y x 0) (put2 (Arr.mk' (Arr.mk' 0 : Arr 10 Int) : Tb) y x 1) [sp x y] := by
    refine ⟨hr, fun b a hb ha h => ?_, fun b a hb ha h => ?_, fun T hT h0 b a hb ha h => ?_⟩
    · obtain ⟨rfl, rfl⟩ := (gp b a hb ha).1 h; simp
    · have := sp_inj' (List.mem_singleton.1 h)
      exact (gp b a hb ha).2 ⟨this.2.symm, this.1.symm⟩
    · obtain ⟨rfl, rfl⟩ := (gp b a hb ha).1 h; exact h0
  have hkd : Kd p y x (put2 m0 y x 0) (put2 (Arr.mk' (Arr.mk' 0 : Arr 10 Int) : Tb) y x 1) [sp x y] := by
    refine ⟨hk, fun b a hb ha h => ?_, fun b a hb ha h => ?_, by simp⟩
    · obtain ⟨rfl, rfl⟩ := (gp b a hb ha).1 (by omega)
      exact ⟨rfl, rfl⟩
    · obtain ⟨rfl, rfl⟩ := (gp b a hb ha).1 (by omega)
      omega
  obtain ⟨m, h1, h2⟩ := outerD v hw hy hx 101 0 _ _ _ hkd gz (Nat.zero_le _) (by simp) (fun hi s hs => by
    rw [List.mem_singleton.1 hs]
    show gS _ (sp x y) ≤ gS _ (sp x y) + 1
    omega) (by simp only [List.length_cons, List.length_nil]; omega)
  have hl3 : Ev (fun k => impl_Pasture_far.l3 ([sp x y] : List Spot) k m0 0) (put2 m0 y x 0) := by
    refine Ev.step (fun k => impl_Pasture_far.l3.eq_2 _ _ _ _) (Ev.pos (by simp) (Ev.bind (Ev.const (show _ = some (sp x y) from rfl)) (Ev.bind (Ev.const (getR m0 hy)) (Ev.bind (Ev.const (getA _ hx)) ?_))))
    exact Ev.step (fun k => impl_Pasture_far.l3.eq_2 _ _ _ _) (Ev.neg (by rw [show IntKind.i64.wrap (0 + 1) = 1 from by decide]; simp) (Ev.const rfl))
  have hm : Ev (fun k => impl_Pasture_far.f k p ([sp x y] : List Spot)) m := a2.bind (hl3.bind (Ev.bind (Ev.const (show slices_Clone_impl_Spot_impl_Spot.f [sp x y] = some [sp x y] from rfl)) (h1.bind (Ev.const rfl))))
  obtain ⟨m', n, q1, q2, q3⟩ := far_ev v hw hx hy
  have e := hm.eq q2
  subst e
  exact ⟨m, n, hm, q3, h2, q1⟩
/-! ### Ways -/
/-- A way of so many steps. -/
inductive Wk (p : Pasture) (y x : Nat) : Nat → Nat → Nat → Prop
  | nil : Wk p y x 0 y x
  | snoc {n b a b' a' : Nat} : Wk p y x n b a → b < 10 → a < 10 → stepP p b a b' a' → Wk p y x (n + 1) b' a'
variable {p : Pasture}
theorem Dm.le {y x : Nat} {m : Tb} (d : Dm p y x m) {n b a : Nat} (h : Wk p y x n b a) : 0 ≤ g2 m b a ∧ g2 m b a ≤ n := by
  induction h with
  | nil => rw [d.zero]; simp
  | snoc _ hb ha hs ih =>
    have := d.rel _ _ _ _ hb ha ih.1 hs
    push_cast; omega
theorem Dm.wk {y x : Nat} {m : Tb} (d : Dm p y x m) : ∀ (n b a : Nat), b < 10 → a < 10 → g2 m b a = (n : Int) → Wk p y x n b a
  | 0, b, a, hb, ha, h => by
    obtain ⟨rfl, rfl⟩ := d.one b a hb ha h
    exact .nil
  | n + 1, b, a, hb, ha, h => by
    obtain ⟨c, e, hc, he, hs, k1, k2⟩ := d.pre b a hb ha (by omega)
    exact .snoc (d.wk n c e hc he (by omega)) hc he hs
theorem Wk.cons {y x y' x' : Nat} (hy : y < 10) (hx : x < 10) (hs : stepP p y x y' x') {n b a : Nat} (h : Wk p y' x' n b a) : Wk p y x (n + 1) b a := by
  induction h with
  | nil => exact .snoc .nil hy hx hs
  | snoc _ hb ha hs' ih => exact .snoc ih hb ha hs'
theorem stepP.cell (hw : okW p = true) {y x y' x' : Nat} (h : stepP p y x y' x') : cellB p (x' : Int) (y' : Int) = true := by
  obtain ⟨_, _, i, _, ho, e⟩ := h
  unfold openB at ho
  rw [Bool.and_eq_true, e] at ho
  exact ho.1
theorem Wk.back (hw : okW p = true) {y x : Nat} (hy : y < 10) (hx : x < 10) (hc : cellB p (x : Int) (y : Int) = true) {n b a : Nat} (h : Wk p y x n b a) : Wk p b a n y x ∧ cellB p (a : Int) (b : Int) = true := by
  induction h with
  | nil => exact ⟨.nil, hc⟩
  | snoc _ hb ha hs ih =>
    exact ⟨Wk.cons hs.1 hs.2.1 (step_back hw hb ha ih.2 hs) ih.1, hs.cell hw⟩
/-- From a to b as far as from b to a. -/
theorem Dm.symm (hw : okW p = true) {y x b a : Nat} (hy : y < 10) (hx : x < 10) (hb : b < 10) (ha : a < 10) (hc : cellB p (x : Int) (y : Int) = true) (hc' : cellB p (a : Int) (b : Int) = true) {m n : Tb} (d : Dm p y x m) (e : Dm p b a n) (hm : -1 ≤ g2 m b a) (hn : -1 ≤ g2 n y x) : g2 m b a = g2 n y x := by
  have h1 : 0 ≤ g2 m b a → 0 ≤ g2 n y x ∧ g2 n y x ≤ g2 m b a := fun h0 => by
    obtain ⟨k, hk⟩ := Int.eq_ofNat_of_zero_le h0
    have := e.le ((d.wk k b a hb ha hk).back hw hy hx hc).1
    omega
  have h2 : 0 ≤ g2 n y x → 0 ≤ g2 m b a ∧ g2 m b a ≤ g2 n y x := fun h0 => by
    obtain ⟨k, hk⟩ := Int.eq_ofNat_of_zero_le h0
    have := d.le ((e.wk k y x hy hx hk).back hw hb ha hc').1
    omega
  omega
/-- From a cell beside it is one step less, as many, or one more. -/
theorem Dm.beside (hw : okW p = true) {y x y' x' b a : Nat} (hy : y < 10) (hx : x < 10) (hb : b < 10) (ha : a < 10) (hc : cellB p (x : Int) (y : Int) = true) (hs : stepP p y x y' x') {m n : Tb} (d : Dm p y x m) (e : Dm p y' x' n) (h0 : 0 ≤ g2 m b a) : 0 ≤ g2 n b a ∧ g2 n b a ≤ g2 m b a + 1 ∧ g2 m b a ≤ g2 n b a + 1 := by
  obtain ⟨k, hk⟩ := Int.eq_ofNat_of_zero_le h0
  have h1 := e.le (Wk.cons hs.1 hs.2.1 (step_back hw hy hx hc hs) (d.wk k b a hb ha hk))
  obtain ⟨j, hj⟩ := Int.eq_ofNat_of_zero_le h1.1
  have h2 := d.le (Wk.cons hy hx hs (e.wk j b a hb ha hj))
  push_cast at h1 h2
  omega
end Go.Proofs.YtggfhnipkecpmaaGreat
/-
  Plain law: what slices.DeleteFunc leaves.
-/
namespace Go.Proofs.YtggfhnipkecpmaaGreat
open G
set_option linter.unusedVariables false
set_option linter.unusedSimpArgs false
theorem evAllS {xs : List Spot} {g : Nat → Spot → Option Bool} {p : Spot → Bool} (h : ∀ x ∈ xs, Ev (fun k => g k x) (p x)) : ∃ J, ∀ j, J ≤ j → ∀ x ∈ xs, g j x = some (p x) := by
  induction xs with
  | nil => exact ⟨0, fun j _ x hx => by simp at hx⟩
  | cons y ys ih =>
    obtain ⟨J, hJ⟩ := ih fun x hx => h x (List.mem_cons_of_mem _ hx)
    obtain ⟨K, hK⟩ := h y (List.mem_cons_self ..)
    refine ⟨J + K, fun j hj x hx => ?_⟩
    rcases List.mem_cons.1 hx with rfl | hx
    · exact hK j (by omega)
    · exact hJ j (by omega) x hx
theorem take_setS {ys : List Spot} {w : Nat} (hw : w < ys.length) (a : Spot) : (ys.set w a).take (w + 1) = ys.take w ++ [a] := by
  rw [List.take_add_one, List.getElem?_set_self hw]
  congr 1
  apply List.ext_getElem?
  intro j
  simp only [List.getElem?_take, List.getElem?_set]
  split
  · rw [if_neg (by omega)]
  · rfl
theorem drop_setS' {ys : List Spot} {w j : Nat} (hw : w < j) (a : Spot) : (ys.set w a).drop j = ys.drop j := by
  apply List.ext_getElem?
  intro i
  rw [List.getElem?_drop, List.getElem?_drop, List.getElem?_set_ne (by omega)]
theorem take_keepS {xs : List Spot} {j : Nat} (hj : j < xs.length) (f : Spot → Bool) : (xs.take (j + 1)).filter f = (xs.take j).filter f ++ (if f xs[j] = true then [xs[j]] else []) := by
  rw [List.take_add_one, List.getElem?_eq_getElem hj, List.filter_append]
  congr 1
  simp only [Option.toList, List.filter_cons, List.filter_nil]
theorem delS_loop (xs : List Spot) (dl : Spot → Bool) (hn : xs.length ≤ 1048576) : ∀ (d j w : Nat) (ys : List Spot), j + d = xs.length → w ≤ j → ys.length = xs.length → ys.take w = (xs.take j).filter (fun h => !dl h) → ys.drop j = xs.drop j →
    ∃ (ys' : List Spot) (w' : Nat), ys'.length = xs.length ∧ w' ≤ xs.length ∧ ys'.take w' = xs.filter (fun h => !dl h) ∧ ∀ g : Spot → Option Bool, (∀ h ∈ xs, g h = some (dl h)) → ∀ k, d < k → slices_DeleteFunc_impl_Spot_impl_Spot.l1 g k ys (w : Int) (j : Int) = some (ys', (w' : Int))
  | 0, j, w, ys, hj, hw, hl, ht, hd => by
    refine ⟨ys, w, hl, by omega, ?_, fun g hg k hk => ?_⟩
    · rw [ht, List.take_of_length_le (by omega)]
    · obtain ⟨k, rfl⟩ : ∃ z, k = z + 1 := ⟨k - 1, by omega⟩
      rw [slices_DeleteFunc_impl_Spot_impl_Spot.l1, if_neg (by omega)]
  | d + 1, j, w, ys, hj, hw, hl, ht, hd => by
    have hjx : j < xs.length := by omega
    have hjy : j < ys.length := by omega
    have e : ys[j] = xs[j] := by
      have := congrArg (fun l => l[0]?) hd
      simp only [List.getElem?_drop, Nat.add_zero, List.getElem?_eq_getElem hjy, List.getElem?_eq_getElem hjx] at this
      exact Option.some.inj this
    have hg0 : getI ys (j : Int) = some xs[j] := by rw [getI_nat hjy, e]
    have hd1 : ys.drop (j + 1) = xs.drop (j + 1) := by
      have := congrArg (fun l => l.drop 1) hd
      simpa [List.drop_drop] using this
    cases hc : dl xs[j]
    · obtain ⟨ys', w', h1, h2, h3, h4⟩ := delS_loop xs dl hn d (j + 1) (w + 1) (ys.set w xs[j]) (by omega) (by omega) (by simpa using hl) (by rw [take_setS (by omega), ht, take_keepS hjx, hc]; rfl) (by rw [drop_setS' (by omega), hd1])
      refine ⟨ys', w', h1, h2, h3, fun g hg k hk => ?_⟩
      obtain ⟨k, rfl⟩ : ∃ z, k = z + 1 := ⟨k - 1, by omega⟩
      rw [slices_DeleteFunc_impl_Spot_impl_Spot.l1, if_pos (by omega), hg0, Option.bind_some, hg _ (List.getElem_mem hjx), Option.bind_some, hc, if_pos (by rfl), getI_nat (show w < ys.length by omega), Option.bind_some, Int.toNat_natCast, wsucc hjx (by omega), wsucc (show w < xs.length by omega) (by omega)]
      exact h4 g hg k (by omega)
    · obtain ⟨ys', w', h1, h2, h3, h4⟩ := delS_loop xs dl hn d (j + 1) w ys (by omega) (by omega) hl (by rw [ht, take_keepS hjx, hc]; simp) hd1
      refine ⟨ys', w', h1, h2, h3, fun g hg k hk => ?_⟩
      obtain ⟨k, rfl⟩ : ∃ z, k = z + 1 := ⟨k - 1, by omega⟩
      rw [slices_DeleteFunc_impl_Spot_impl_Spot.l1, if_pos (by omega), hg0, Option.bind_some, hg _ (List.getElem_mem hjx), Option.bind_some, hc, if_neg (by simp), wsucc hjx (by omega)]
      exact h4 g hg k (by omega)
theorem idxZ_loop (xs : List Spot) (dl : Spot → Bool) (hx : xs.length ≤ 1048576) : ∀ i : Nat, i ≤ xs.length → ∃ r : Int ⊕ Unit, (∀ g : Spot → Option Bool, (∀ x ∈ xs, g x = some (dl x)) → ∀ k, xs.length - i < k → slices_IndexFunc_impl_Spot_impl_Spot.l1 xs g k (i : Int) = some r) ∧
    ((r = .inr () ∧ ∀ h ∈ xs.drop i, dl h = false) ∨ ∃ (j : Nat) (hj : j < xs.length), i ≤ j ∧ r = .inl (j : Int) ∧ dl xs[j] = true ∧ ∀ h ∈ (xs.drop i).take (j - i), dl h = false) := by
  refine upL ?_ ?_
  · refine ⟨.inr (), fun g hg k hk => ?_, .inl ⟨rfl, by simp⟩⟩
    obtain ⟨k, rfl⟩ : ∃ j, k = j + 1 := ⟨k - 1, by omega⟩
    rw [slices_IndexFunc_impl_Spot_impl_Spot.l1, if_neg (by omega)]
  · rintro i hi ⟨r, ih, h⟩
    cases hb : dl xs[i]
    · refine ⟨r, fun g hg k hk => ?_, ?_⟩
      · obtain ⟨k, rfl⟩ : ∃ j, k = j + 1 := ⟨k - 1, by omega⟩
        rw [slices_IndexFunc_impl_Spot_impl_Spot.l1, if_pos (by omega), getI_nat hi, Option.bind_some, hg _ (List.getElem_mem hi), Option.bind_some, hb, if_neg (by simp), wsucc hi (by omega)]
        exact ih g hg k (by omega)
      · rcases h with ⟨h1, h2⟩ | ⟨j, hj, h1, h2, h3, h4⟩
        · refine .inl ⟨h1, fun z hz => ?_⟩
          rw [List.drop_eq_getElem_cons hi] at hz
          rcases List.mem_cons.1 hz with rfl | hz
          · exact hb
          · exact h2 z hz
        · refine .inr ⟨j, hj, by omega, h2, h3, fun z hz => ?_⟩
          rw [List.drop_eq_getElem_cons hi, show j - i = (j - (i + 1)) + 1 by omega, List.take_succ_cons] at hz
          rcases List.mem_cons.1 hz with rfl | hz
          · exact hb
          · exact h4 z hz
    · refine ⟨.inl (i : Int), fun g hg k hk => ?_, .inr ⟨i, hi, Nat.le_refl _, rfl, hb, by simp⟩⟩
      obtain ⟨k, rfl⟩ : ∃ j, k = j + 1 := ⟨k - 1, by omega⟩
      rw [slices_IndexFunc_impl_Spot_impl_Spot.l1, if_pos (by omega), getI_nat hi, Option.bind_some, hg _ (List.getElem_mem hi), Option.bind_some, hb, if_pos rfl]
theorem deleteS_ev (xs : List Spot) {g : Nat → Spot → Option Bool} {dl : Spot → Bool} (hg : ∀ x ∈ xs, Ev (fun k => g k x) (dl x)) (hx : xs.length ≤ 1048576) : Ev (fun k => slices_DeleteFunc_impl_Spot_impl_Spot.f k xs (g k)) (xs.filter fun h => !dl h) := by
  obtain ⟨J, hJ⟩ := evAllS hg
  obtain ⟨r, hr, h⟩ := idxZ_loop xs dl hx 0 (Nat.zero_le _)
  rcases h with ⟨rfl, h⟩ | ⟨j, hj, _, rfl, h3, h4⟩
  · refine ⟨J + xs.length + 1, fun k hk => ?_⟩
    have e : slices_IndexFunc_impl_Spot_impl_Spot.l1 xs (g k) k 0 = some (.inr ()) := hr (g k) (hJ k (by omega)) k (by omega)
    show slices_DeleteFunc_impl_Spot_impl_Spot.f k xs (g k) = _
    unfold slices_DeleteFunc_impl_Spot_impl_Spot.f slices_IndexFunc_impl_Spot_impl_Spot.f
    rw [e]
    simp only [Option.bind_some, if_true]
    congr 1
    symm
    rw [List.filter_eq_self]
    intro z hz
    rw [List.drop_zero] at h
    rw [h z hz]; rfl
  · rw [List.drop_zero, Nat.sub_zero] at h4
    have hk : xs.take j = (xs.take (j + 1)).filter (fun h => !dl h) := by
      rw [take_keepS hj, h3, Bool.not_true, if_neg (by simp), List.append_nil]
      symm
      rw [List.filter_eq_self]
      intro z hz
      rw [h4 z hz]; rfl
    obtain ⟨ys', w', q1, q2, q3, q4⟩ := delS_loop xs dl hx (xs.length - (j + 1)) (j + 1) j xs (by omega) (by omega) rfl hk rfl
    refine ⟨J + xs.length + 1, fun k hk => ?_⟩
    have e : slices_IndexFunc_impl_Spot_impl_Spot.l1 xs (g k) k 0 = some (.inl (j : Int)) := hr (g k) (hJ k (by omega)) k (by omega)
    have e2 := q4 (g k) (hJ k (by omega)) k (by omega)
    rw [← wsucc hj (by omega)] at e2
    show slices_DeleteFunc_impl_Spot_impl_Spot.f k xs (g k) = _
    unfold slices_DeleteFunc_impl_Spot_impl_Spot.f slices_IndexFunc_impl_Spot_impl_Spot.f
    rw [e]
    simp only [Option.bind_some]
    rw [if_neg (by omega), e2]
    simp only [Option.bind_some, Int.toNat_natCast]
    rw [chkT (by omega), Option.bind_some, chkT (by simp; omega), Option.bind_some, q3.symm]
    congr 1
    rw [List.take_append_of_le_length (by simp; omega), List.take_take, Nat.min_self]
end Go.Proofs.YtggfhnipkecpmaaGreat
/-
  Plain law: the first one of the shortest ways, by the program and by the reference.
-/
namespace Go.Proofs.YtggfhnipkecpmaaGreat
open G
set_option linter.unusedVariables false
set_option linter.unusedSimpArgs false
theorem besideI_ev {p : Pasture} (v : VPasture p) (hw : okW p = true) {x y : Nat} (hx : x < 10) (hy : y < 10) : Ev (fun k => impl_Pasture_beside.f k p (sp x y)) (nbs p x y 4 0) := by
  have key : ∀ i, i ≤ 4 → ∀ acc : List Spot, acc.length ≤ i → Ev (fun k => impl_Pasture_beside.l1 p (sp x y) k acc (i : Int)) (acc ++ nbs p x y (4 - i) i) := by
    refine upL ?_ ?_
    · intro acc ha
      refine Ev.step (fun k => impl_Pasture_beside.l1.eq_2 _ _ _ _ _) (Ev.neg (by omega) (Ev.const ?_))
      simp [nbs]
    · intro i hi ih acc ha
      refine Ev.step (fun k => impl_Pasture_beside.l1.eq_2 _ _ _ _ _) (Ev.pos (by omega) (Ev.bind (Ev.const (canGo_eq v hw hx hy hi)) ?_))
      rw [nbs_step p x y hi, wsucc hi (by omega)]
      cases ho : openB p x y i
      · refine Ev.neg (by simp) ?_
        simpa using ih acc (by omega)
      · refine Ev.pos rfl (Ev.bind (Ev.const (ahead_eq _ _)) (Ev.bind (Ev.const (chkT (by simp; omega))) ?_))
        have := ih (acc ++ [nx (sp x y) (i : Int)]) (by simp; omega)
        rw [List.append_assoc] at this
        rw [if_pos rfl]; exact this
  have := key 0 (Nat.zero_le _) [] (by simp)
  rw [List.nil_append] at this
  exact this.bind (Ev.const rfl)
/-- The cells beside are those to which a step goes. -/
theorem nbs_mem {p : Pasture} (hw : okW p = true) {x y : Nat} {s : Spot} : ∀ n i, i + n ≤ 4 → s ∈ nbs p x y n i → ∃ x' y', x' < 10 ∧ y' < 10 ∧ s = sp x' y' ∧ stepP p y x y' x'
  | 0, i, _, h => by simp [nbs] at h
  | n + 1, i, hn, h => by
    have e := nbs_step p x y (show i < 4 by omega)
    unfold nbs at h
    rcases List.mem_append.1 h with h | h
    · cases ho : openB p x y i
      · rw [ho] at h; simp at h
      · rw [ho, if_pos rfl] at h
        have hc : cellB p (nx (sp x y) (i : Int)).X (nx (sp x y) (i : Int)).Y = true := by
          have := ho
          unfold openB at this
          rw [Bool.and_eq_true] at this
          exact this.1
        obtain ⟨x', y', hx', hy', e⟩ := cellB_nat hw hc
        exact ⟨x', y', hx', hy', (List.mem_singleton.1 h).trans e, hy', hx', i, by omega, ho, e⟩
    · exact nbs_mem hw n (i + 1) (by omega) h
theorem mem_nbs {p : Pasture} {x y x' y' : Nat} (h : stepP p y x y' x') : ∀ n i, i + n = 4 → (∃ j, i ≤ j ∧ j < 4 ∧ openB p x y j = true ∧ nx (sp x y) (j : Int) = sp x' y') → sp x' y' ∈ nbs p x y n i
  | 0, i, hi, ⟨j, h1, h2, _⟩ => by omega
  | n + 1, i, hi, ⟨j, h1, h2, h3, h4⟩ => by
    unfold nbs
    refine List.mem_append.2 ?_
    by_cases e : j = i
    · subst e
      left
      rw [h3, if_pos rfl, h4]; simp
    · right
      exact mem_nbs h n (i + 1) (by omega) ⟨j, by omega, h2, h3, h4⟩
theorem nbs_iff {p : Pasture} (hw : okW p = true) {x y x' y' : Nat} : sp x' y' ∈ nbs p x y 4 0 ↔ stepP p y x y' x' := by
  constructor
  · intro h
    obtain ⟨a, b, ha, hb, e, hs⟩ := nbs_mem hw 4 0 (by omega) h
    obtain ⟨rfl, rfl⟩ := sp_inj' e
    exact hs
  · intro h
    obtain ⟨h1, h2, j, h3, h4, h5⟩ := id h
    exact mem_nbs h 4 0 rfl ⟨j, Nat.zero_le _, h3, h4, h5⟩
/-! ### The least one -/
def ltS (a b : Spot) : Bool := decide (a.Y < b.Y ∨ (a.Y = b.Y ∧ a.X < b.X))
def minS : Spot → List Spot → Spot
  | t, [] => t
  | t, s :: r => minS (if ltS s t = true then s else t) r
def stepO (f : Spot → Bool) (o : Option Spot) (s : Spot) : Option Spot := if f s = true then (match o with | none => some s | some t => if ltS s t = true then some s else some t) else o
theorem foldO_some (f : Spot → Bool) : ∀ (l : List Spot) (t : Spot), l.foldl (stepO f) (some t) = some (minS t (l.filter f))
  | [], t => rfl
  | s :: l, t => by
    rw [List.foldl_cons, List.filter_cons]
    cases h : f s
    · rw [show stepO f (some t) s = some t by unfold stepO; rw [h]; simp, foldO_some f l t]; simp
    · have : stepO f (some t) s = some (if ltS s t = true then s else t) := by
        unfold stepO
        rw [h, if_pos rfl]
        simp only
        split <;> rfl
      rw [this, foldO_some f l]; simp [minS]
theorem foldO_none (f : Spot → Bool) : ∀ l : List Spot, l.foldl (stepO f) none = match l.filter f with
    | [] => none
    | t :: r => some (minS t r)
  | [] => rfl
  | s :: l => by
    rw [List.foldl_cons, List.filter_cons]
    cases h : f s
    · rw [show stepO f none s = none by unfold stepO; rw [h]; simp, foldO_none f l]; simp
    · have : stepO f none s = some s := by unfold stepO; rw [h, if_pos rfl]
      rw [this, foldO_some f l]; simp
theorem minS_mem : ∀ (l : List Spot) (t : Spot), minS t l = t ∨ minS t l ∈ l
  | [], t => .inl rfl
  | s :: l, t => by
    rw [minS]
    rcases minS_mem l (if ltS s t = true then s else t) with h | h
    · rw [h]
      split
      · exact .inr (by simp)
      · exact .inl rfl
    · exact .inr (List.mem_cons_of_mem _ h)
def inS (s : Spot) : Prop := ∃ x y : Nat, x < 10 ∧ y < 10 ∧ s = sp x y
theorem cmp_eq {a b : Spot} (ha : inS a) (hb : inS b) : ∃ z, impl_compareSpots.f a b = some z ∧ (z < 0 ↔ ltS a b = true) := by
  obtain ⟨x, y, hx, hy, rfl⟩ := ha
  obtain ⟨x', y', hx', hy', rfl⟩ := hb
  unfold impl_compareSpots.f ltS sp
  rw [w64 (x := (x : Int)) (by omega) (by omega), w64 (x := (y : Int)) (by omega) (by omega), w64 (x := (x' : Int)) (by omega) (by omega), w64 (x := (y' : Int)) (by omega) (by omega), w64 (x := (x : Int) - (x' : Int)) (by omega) (by omega), w64 (x := (y : Int) - (y' : Int)) (by omega) (by omega)]
  by_cases h : (y : Int) = (y' : Int)
  · exact ⟨_, if_neg (by simp [h]), by rw [decide_eq_true_eq]; show _ ↔ ((y : Int) < y' ∨ ((y : Int) = y' ∧ (x : Int) < x')); omega⟩
  · exact ⟨_, if_pos h, by rw [decide_eq_true_eq]; show _ ↔ ((y : Int) < y' ∨ ((y : Int) = y' ∧ (x : Int) < x')); omega⟩
theorem min_loop {l : List Spot} (hl : l.length ≤ 1000) (hi : ∀ s ∈ l, inS s) : ∀ i, i ≤ l.length → ∀ t, inS t → Ev (fun k => slices_MinFunc_impl_Spot_impl_Spot.l1 l impl_compareSpots.f k t (i : Int)) (minS t (l.drop i)) := by
  refine upL ?_ ?_
  · intro t ht
    rw [List.drop_length]
    exact Ev.step (fun k => slices_MinFunc_impl_Spot_impl_Spot.l1.eq_2 _ _ _ _ _) (Ev.neg (by omega) (Ev.const rfl))
  · intro i h ih t ht
    have hs := hi _ (List.getElem_mem h)
    obtain ⟨z, e1, e2⟩ := cmp_eq hs ht
    rw [List.drop_eq_getElem_cons h, minS]
    refine Ev.step (fun k => slices_MinFunc_impl_Spot_impl_Spot.l1.eq_2 _ _ _ _ _) (Ev.pos (by omega) (Ev.bind (Ev.const (getI_nat h)) (Ev.bind (Ev.const e1) ?_)))
    by_cases c : z < 0
    · rw [if_pos (e2.1 c)]
      refine Ev.pos c (Ev.bind (Ev.const (getI_nat h)) ?_)
      rw [wsucc h (by omega)]
      exact ih _ hs
    · rw [if_neg (fun q => c (e2.2 q))]
      refine Ev.neg c ?_
      rw [wsucc h (by omega)]
      exact ih _ ht
theorem min_ev {t : Spot} {l : List Spot} (hl : (t :: l).length ≤ 1000) (hi : ∀ s ∈ t :: l, inS s) : Ev (fun k => slices_MinFunc_impl_Spot_impl_Spot.f k (t :: l) impl_compareSpots.f) (minS t l) := by
  have h := min_loop hl hi 1 (by simp) t (hi t (by simp))
  exact Ev.neg (by simp; omega) (Ev.bind (Ev.const (show getI (t :: l) 0 = some t from rfl)) (Ev.bind h (Ev.const rfl)))
end Go.Proofs.YtggfhnipkecpmaaGreat
/-
  Plain law: WayBetween by the program and by the reference.
-/
namespace Go.Proofs.YtggfhnipkecpmaaGreat
open G
set_option linter.unusedVariables false
set_option linter.unusedSimpArgs false
theorem before_eq (a b : Spot) : spec_l01Before.f a b = some (ltS a b) := by
  unfold spec_l01Before.f ltS
  by_cases h : a.Y < b.Y
  · rw [if_pos h, decide_eq_true (.inl h)]
  · by_cases h2 : a.Y = b.Y
    · rw [if_neg h, if_pos h2]
      congr 1
      rw [decide_eq_decide]
      omega
    · rw [if_neg h, if_neg h2, decide_eq_false (by omega)]
/-- The reference's search of the least one: the place of what the fold tells. -/
def PlO (l : List Spot) (b : Int) (o : Option Spot) : Prop := (b = -1 ∧ o = none) ∨ ∃ (j : Nat) (hj : j < l.length), b = (j : Int) ∧ o = some l[j]
theorem best_loop {n : Tb} {l : List Spot} (hl : l.length ≤ 4) (hi : ∀ s ∈ l, inS s) {x y : Nat} (hx : x < 10) (hy : y < 10) (hb : ∀ b a, b < 10 → a < 10 → 0 ≤ g2 n b a ∧ g2 n b a ≤ 102) : ∀ i, i ≤ l.length → ∀ (b : Int) (o : Option Spot), PlO l b o → ∃ b', Ev (fun k => spec_WayBetween.l2 n (sp x y) l k b (i : Int)) b' ∧ PlO l b' ((l.drop i).foldl (stepO fun s => decide (gS n s = g2 n y x - 1)) o) := by
  refine upL ?_ ?_
  · intro b o ho
    rw [List.drop_length]
    exact ⟨b, Ev.step (fun k => spec_WayBetween.l2.eq_2 _ _ _ _ _ _) (Ev.neg (by omega) (Ev.const rfl)), ho⟩
  · intro i h ih b o ho
    obtain ⟨a, c, ha, hc, e⟩ := hi _ (List.getElem_mem h)
    have hg : getI l (i : Int) = some (sp a c) := by rw [getI_nat h, e]
    have hbx := hb y x hy hx
    have w1 : IntKind.i64.wrap (gA (gR n y) x - 1) = g2 n y x - 1 := w64 (show -9223372036854775808 ≤ g2 n y x - 1 by omega) (show g2 n y x - 1 ≤ 9223372036854775807 by omega)
    rw [List.drop_eq_getElem_cons h, List.foldl_cons, e]
    have rd : ∀ {g : Nat → Int → Option Int} {r}, (Ev (fun k => g k (g2 n y x)) r) → Ev (fun k => (getI n.l (sp x y).Y).bind fun t36 => (getI t36.l (sp x y).X).bind fun t37 => g k t37) r := fun {g r} hh => Ev.bind (Ev.const (getR n hy)) (Ev.bind (Ev.const (getA _ hx)) hh)
    have base : ∀ {b'}, Ev (fun k => if g2 n c a = g2 n y x - 1 then (if b < 0 then (spec_WayBetween.l2 n (sp x y) l k (i : Int) (IntKind.i64.wrap ((i : Int) + 1))) else ((getI l (i : Int)).bind fun t38 => (getI l b).bind fun t39 => (spec_l01Before.f t38 t39).bind fun t40 => if t40 = true then (spec_WayBetween.l2 n (sp x y) l k (i : Int) (IntKind.i64.wrap ((i : Int) + 1))) else (spec_WayBetween.l2 n (sp x y) l k b (IntKind.i64.wrap ((i : Int) + 1))))) else (spec_WayBetween.l2 n (sp x y) l k b (IntKind.i64.wrap ((i : Int) + 1)))) b' → Ev (fun k => spec_WayBetween.l2 n (sp x y) l k b (i : Int)) b' := fun {b'} hh => by
      refine Ev.step (fun k => spec_WayBetween.l2.eq_2 _ _ _ _ _ _) (Ev.pos (by omega) (Ev.bind (Ev.const hg) (Ev.bind (Ev.const hg) (Ev.bind (Ev.const (getR n hc)) (Ev.bind (Ev.const (getA _ ha)) (Ev.bind (Ev.const (getR n hy)) (Ev.bind (Ev.const (getA _ hx)) ?_)))))))
      rw [w1]
      exact hh
    rw [wsucc h (by omega)] at base
    have hgs : gS n (sp a c) = g2 n c a := gS_sp n a c
    by_cases near : g2 n c a = g2 n y x - 1
    · have hpl : PlO l (i : Int) (some (sp a c)) := .inr ⟨i, h, rfl, by rw [e]⟩
      rcases ho with ⟨rfl, rfl⟩ | ⟨j, hj, rfl, rfl⟩
      · have e1 : stepO (fun s => decide (gS n s = g2 n y x - 1)) none (sp a c) = some (sp a c) := by
          unfold stepO; simp only [hgs]; rw [if_pos (decide_eq_true near)]
        rw [e1]
        obtain ⟨b', h1, h2⟩ := ih (i : Int) (some (sp a c)) hpl
        exact ⟨b', base (Ev.pos near (Ev.pos (by omega) h1)), h2⟩
      · have e1 : stepO (fun s => decide (gS n s = g2 n y x - 1)) (some l[j]) (sp a c) = if ltS (sp a c) l[j] = true then some (sp a c) else some l[j] := by
          unfold stepO; simp only [hgs]; rw [if_pos (decide_eq_true near)]
        rw [e1]
        by_cases lt : ltS (sp a c) l[j] = true
        · rw [if_pos lt]
          obtain ⟨b', h1, h2⟩ := ih (i : Int) (some (sp a c)) hpl
          exact ⟨b', base (Ev.pos near (Ev.neg (by omega) (Ev.bind (Ev.const hg) (Ev.bind (Ev.const (getI_nat hj)) (Ev.bind (Ev.const (before_eq _ _)) (Ev.pos lt h1)))))), h2⟩
        · rw [if_neg lt]
          obtain ⟨b', h1, h2⟩ := ih (j : Int) (some l[j]) (.inr ⟨j, hj, rfl, rfl⟩)
          exact ⟨b', base (Ev.pos near (Ev.neg (by omega) (Ev.bind (Ev.const hg) (Ev.bind (Ev.const (getI_nat hj)) (Ev.bind (Ev.const (before_eq _ _)) (Ev.neg lt h1)))))), h2⟩
    · have e1 : stepO (fun s => decide (gS n s = g2 n y x - 1)) o (sp a c) = o := by
        unfold stepO; simp only [hgs]; rw [if_neg (by rw [decide_eq_true_eq]; exact near)]
      rw [e1]
      obtain ⟨b', h1, h2⟩ := ih b o ho
      exact ⟨b', base (Ev.neg near h1), h2⟩
end Go.Proofs.YtggfhnipkecpmaaGreat
/-
  Plain law: both ways are alike; where they go.
-/
namespace Go.Proofs.YtggfhnipkecpmaaGreat
open G
set_option linter.unusedVariables false
set_option linter.unusedSimpArgs false
theorem steps_at {m : Tb} {x y : Nat} (hx : x < 10) (hy : y < 10) (h : -1 ≤ g2 m y x ∧ g2 m y x ≤ 102) : impl_steps_at.f m (sp x y) = some (g2 m y x) := by
  have hw : IntKind.i64.wrap (gA (gR m y) x) = g2 m y x := w64 (show -9223372036854775808 ≤ g2 m y x by omega) (show g2 m y x ≤ 9223372036854775807 by omega)
  unfold impl_steps_at.f
  show ((getI m.l ((y : Nat) : Int)).bind _) = _
  rw [getR m hy, Option.bind_some]
  show ((getI (gR m y).l ((x : Nat) : Int)).bind _) = _
  rw [getA _ hx, Option.bind_some, hw]
theorem nbs_in {p : Pasture} (hw : okW p = true) (x y : Nat) : ∀ s ∈ nbs p x y 4 0, inS s := fun s hs => by
  obtain ⟨a, b, ha, hb, e, _⟩ := nbs_mem hw 4 0 (by omega) hs
  exact ⟨a, b, ha, hb, e⟩
/-- The next cell of the way. -/
theorem next_ev {p : Pasture} (v : VPasture p) (hw : okW p = true) {by_ bx : Nat} {m n : Tb} (d : Dm p by_ bx m) (hm : ∀ b a, b < 10 → a < 10 → g2 n b a = g2 m b a + 1 ∧ -1 ≤ g2 m b a ∧ g2 m b a ≤ 101) {x y : Nat} (hx : x < 10) (hy : y < 10) (hc : cellB p (x : Int) (y : Int) = true) (hb : ∀ y x, y < 10 → x < 10 → 0 ≤ g2 m y x → cellB p (x : Int) (y : Int) = true) (h : 0 < g2 m y x) :
    ∃ x' y', x' < 10 ∧ y' < 10 ∧ stepP p y x y' x' ∧ g2 m y' x' = g2 m y x - 1 ∧
      (∃ L, Ev (fun k => slices_DeleteFunc_impl_Spot_impl_Spot.f k (nbs p x y 4 0) (impl_Pasture_way_1.f m (sp x y))) L ∧ Ev (fun k => slices_MinFunc_impl_Spot_impl_Spot.f k L impl_compareSpots.f) (sp x' y')) ∧
      ∃ b', Ev (fun k => spec_WayBetween.l2 n (sp x y) (nbs p x y 4 0) k (-1) 0) b' ∧ getI (nbs p x y 4 0) b' = some (sp x' y') := by
  have hl := nbs_len p x y 4 0
  have hin := nbs_in hw x y
  have hxy := hm y x hy hx
  obtain ⟨c, e, hc', he, hs, k1, k2⟩ := d.pre y x hy hx h
  have hs' := step_back hw hc' he (hb c e hc' he k1) hs
  have hmem : sp e c ∈ nbs p x y 4 0 := (nbs_iff hw).2 hs'
  have fe : ∀ s ∈ nbs p x y 4 0, decide (gS n s = g2 n y x - 1) = decide (gS m s = g2 m y x - 1) := fun s hs => by
    obtain ⟨a, b, ha, hb', rfl⟩ := hin s hs
    have := hm b a hb' ha
    rw [gS_sp, gS_sp, decide_eq_decide]; omega
  have hfe : (nbs p x y 4 0).filter (fun s => decide (gS n s = g2 n y x - 1)) = (nbs p x y 4 0).filter (fun s => decide (gS m s = g2 m y x - 1)) := List.filter_congr fe
  have hne : sp e c ∈ (nbs p x y 4 0).filter (fun s => decide (gS m s = g2 m y x - 1)) := List.mem_filter.2 ⟨hmem, decide_eq_true (by rw [gS_sp]; omega)⟩
  have hdel := deleteS_ev (nbs p x y 4 0) (g := fun k => impl_Pasture_way_1.f m (sp x y)) (dl := fun s => !decide (gS m s = g2 m y x - 1)) (fun s hs => by
    obtain ⟨a, b, ha, hb', rfl⟩ := hin s hs
    have h1 := hm b a hb' ha
    refine Ev.const ?_
    unfold impl_Pasture_way_1.f
    rw [steps_at ha hb' (by omega), Option.bind_some, steps_at hx hy (by omega), Option.bind_some, w64 (by omega) (by omega), gS_sp]
    congr 1
    by_cases q : g2 m b a = g2 m y x - 1 <;> simp [q]) (by omega)
  have hdl : (nbs p x y 4 0).filter (fun h => !(fun s => !decide (gS m s = g2 m y x - 1)) h) = (nbs p x y 4 0).filter (fun s => decide (gS m s = g2 m y x - 1)) := List.filter_congr fun s _ => by simp
  rw [hdl] at hdel
  obtain ⟨b', q1, q2⟩ := best_loop (n := n) hl hin hx hy (fun b a hb' ha => by have := hm b a hb' ha; omega) 0 (Nat.zero_le _) (-1) none (.inl ⟨rfl, rfl⟩)
  rw [List.drop_zero, foldO_none, hfe] at q2
  cases hL : (nbs p x y 4 0).filter (fun s => decide (gS m s = g2 m y x - 1)) with
  | nil => rw [hL] at hne; cases hne
  | cons t r =>
    rw [hL] at q2 hdel
    have hsub : ∀ s ∈ t :: r, s ∈ nbs p x y 4 0 ∧ gS m s = g2 m y x - 1 := fun s hs => by
      rw [← hL] at hs
      obtain ⟨a, b⟩ := List.mem_filter.1 hs
      exact ⟨a, of_decide_eq_true b⟩
    have hmin : minS t r ∈ t :: r := by
      rcases minS_mem r t with q | q
      · rw [q]; simp
      · exact List.mem_cons_of_mem _ q
    obtain ⟨z1, z2⟩ := hsub _ hmin
    obtain ⟨x', y', hx', hy', ez⟩ := hin _ z1
    rw [ez] at z1 z2
    have q2 : PlO (nbs p x y 4 0) b' (some (minS t r)) := q2
    rw [ez] at q2
    rw [gS_sp] at z2
    have hlen : (t :: r).length ≤ 1000 := by
      rw [← hL]
      exact Nat.le_trans (List.length_filter_le _ _) (by omega)
    have hmn := min_ev (t := t) (l := r) hlen (fun s hs => hin s (hsub s hs).1)
    rw [ez] at hmn
    refine ⟨x', y', hx', hy', (nbs_iff hw).1 z1, z2, ⟨t :: r, hdel, hmn⟩, b', q1, ?_⟩
    rcases q2 with ⟨_, q⟩ | ⟨j, hj, rfl, q⟩
    · cases q
    · rw [getI_nat hj]; exact q.symm
/-- A way that goes on from a cell to another one. -/
def goesTo (p : Pasture) : Spot → List Spot → Spot → Prop
  | s, [], t => s = t
  | s, c :: r, t => (∃ x y x' y', y < 10 ∧ x < 10 ∧ s = sp x y ∧ c = sp x' y' ∧ stepP p y x y' x') ∧ goesTo p c r t
theorem way_loop {p : Pasture} (v : VPasture p) (hw : okW p = true) {by_ bx : Nat} {m n : Tb} (d : Dm p by_ bx m) (hm : ∀ b a, b < 10 → a < 10 → g2 n b a = g2 m b a + 1 ∧ -1 ≤ g2 m b a ∧ g2 m b a ≤ 101) (hb : ∀ y x, y < 10 → x < 10 → 0 ≤ g2 m y x → cellB p (x : Int) (y : Int) = true) : ∀ (c : Nat) (x y : Nat), x < 10 → y < 10 → g2 m y x = (c : Int) → ∀ acc : List Spot, acc.length + c ≤ 1000 →
    ∃ W, W.length = c ∧ goesTo p (sp x y) W (sp bx by_) ∧ Ev (fun k => impl_Pasture_way.l1 p m k (sp x y) acc) (acc ++ W) ∧ Ev (fun k => spec_WayBetween.l1 p (sp bx by_) n k acc (sp x y)) (acc ++ W)
  | 0, x, y, hx, hy, h, acc, ha => by
    obtain ⟨rfl, rfl⟩ := d.one y x hy hx h
    have hxy := hm y x hy hx
    refine ⟨[], rfl, rfl, ?_, ?_⟩
    · rw [List.append_nil]
      exact Ev.step (fun k => impl_Pasture_way.l1.eq_2 _ _ _ _ _) (Ev.bind (Ev.const (steps_at hx hy (by omega))) (Ev.neg (by omega) (Ev.const rfl)))
    · rw [List.append_nil]
      exact Ev.step (fun k => spec_WayBetween.l1.eq_2 _ _ _ _ _ _) (Ev.neg (by simp) (Ev.const rfl))
  | c + 1, x, y, hx, hy, h, acc, ha => by
    have hxy := hm y x hy hx
    have hc := hb y x hy hx (by omega)
    obtain ⟨x', y', hx', hy', hs, hz, ⟨L, l1, l2⟩, b', q1, q2⟩ := next_ev v hw d hm hx hy hc hb (by omega)
    obtain ⟨W, w1, w2, w3, w4⟩ := way_loop v hw d hm hb c x' y' hx' hy' (by omega) (acc ++ [sp x' y']) (by simp; omega)
    rw [List.append_assoc] at w3 w4
    refine ⟨sp x' y' :: W, by simp [w1], ⟨⟨x, y, x', y', hy, hx, rfl, rfl, hs⟩, w2⟩, ?_, ?_⟩
    · exact Ev.step (fun k => impl_Pasture_way.l1.eq_2 _ _ _ _ _) (Ev.bind (Ev.const (steps_at hx hy (by omega))) (Ev.pos (by omega) ((besideI_ev v hw hx hy).bind (l1.bind (l2.bind (Ev.bind (Ev.const (chkT (by simp; omega))) w3))))))
    · have hne : sp x y ≠ sp bx by_ := fun e => by
        obtain ⟨rfl, rfl⟩ := sp_inj' e
        have := d.zero
        omega
      exact Ev.step (fun k => spec_WayBetween.l1.eq_2 _ _ _ _ _ _) (Ev.pos hne (Ev.bind (a := (acc ++ [sp x' y'], sp x' y')) ((beside_ev v hw hx hy).bind (q1.bind (Ev.bind (Ev.const q2) (Ev.bind (Ev.const (chkT (by simp; omega))) (Ev.const rfl))))) w4))
end Go.Proofs.YtggfhnipkecpmaaGreat
