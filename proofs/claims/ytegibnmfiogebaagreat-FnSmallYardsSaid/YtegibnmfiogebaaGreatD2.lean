import Derived.Test.YtegibnmfiogebaaGreatQYw
/-
  Plain law: the search tells the least number of steps.
-/
namespace Go.Proofs.YtegibnmfiogebaaGreat
open G
set_option linter.unusedVariables false
set_option linter.unusedSimpArgs false
/-- What is told at a spot. -/
def gS (m : Tb) (s : Spot) : Int := g2 m s.Y.toNat s.X.toNat
theorem gS_sp (m : Tb) (x y : Nat) : gS m (sp x y) = g2 m y x := by unfold gS sp; simp
structure Kd (p : Pasture) (sy sx : Nat) (m n : Tb) (q : List Spot) : Prop where
  kx : Kx p sy sx m n q
  one : ∀ b a, b < 10 → a < 10 → g2 m b a = 0 → b = sy ∧ a = sx
  pre : ∀ b a, b < 10 → a < 10 → 0 < g2 m b a → ∃ y x, y < 10 ∧ x < 10 ∧ stepP p y x b a ∧ 0 ≤ g2 m y x ∧ g2 m y x + 1 = g2 m b a
  srt : q.Pairwise fun s t => gS m s ≤ gS m t
theorem Kd.put {p : Pasture} {sy sx : Nat} {m n : Tb} {q : List Spot} (h : Kd p sy sx m n q) {y x y' x' : Nat} (hy : y < 10) (hx : x < 10) (hm : 0 ≤ g2 m y x) (hs : stepP p y x y' x') (hg : g2 m y' x' < 0) (hb : ∀ s ∈ q, gS m s ≤ g2 m y x + 1) :
 Kd p sy sx (put2 m y' x' (g2 m y x + 1)) (put2 n y' x' (g2 n y x + 1)) (q ++ [sp x' y']) ∧ (∀ b a, b < 10 → a < 10 → 0 ≤ g2 m b a → g2 (put2 m y' x' (g2 m y x + 1)) b a = g2 m b a) ∧ ∀ s ∈ q ++ [sp x' y'], gS (put2 m y' x' (g2 m y x + 1)) s ≤ g2 m y x + 1 := by
 obtain ⟨hy', hx', _⟩ := id hs
 have same : ∀ b a, b < 10 → a < 10 → 0 ≤ g2 m b a → g2 (put2 m y' x' (g2 m y x + 1)) b a = g2 m b a := fun b a hb' ha h0 => by
   rw [g2_put m hy' hx']
   split
   · rename_i e
     rw [e.1, e.2] at hg
     omega
   · rfl
 have new : g2 (put2 m y' x' (g2 m y x + 1)) y' x' = g2 m y x + 1 := by rw [g2_put m hy' hx', if_pos ⟨rfl, rfl⟩]
 have cells := h.kx.rl.cells
 have sameS : ∀ s ∈ q, gS (put2 m y' x' (g2 m y x + 1)) s = gS m s := fun s hs' => by
   obtain ⟨a, b, ha, hb', rfl⟩ := cells s hs'
   rw [gS_sp, gS_sp]
   exact same b a hb' ha (h.kx.mkd b a hb' ha hs')
 have bnd : ∀ s ∈ q ++ [sp x' y'], gS (put2 m y' x' (g2 m y x + 1)) s ≤ g2 m y x + 1 := fun s hs' => by
   rcases List.mem_append.1 hs' with hs' | hs'
   · rw [sameS s hs']; exact hb s hs'
   · rw [List.mem_singleton.1 hs', gS_sp, new]; omega
 refine ⟨⟨h.kx.put hy hx hm hs hg, fun b a hb' ha h0 => ?_, fun b a hb' ha h0 => ?_, ?_⟩, same, bnd⟩
 ·rw [g2_put m hy' hx'] at h0
  split at h0
  ·omega
  exact h.one b a hb' ha h0
 ·by_cases e : y' = b ∧ x' = a
  ·obtain ⟨rfl, rfl⟩ := e
   exact ⟨y, x, hy, hx, hs, by rw [same y x hy hx hm]; exact hm, by rw [same y x hy hx hm, new]⟩
  have e1 : g2 (put2 m y' x' (g2 m y x + 1)) b a = g2 m b a := by rw [g2_put m hy' hx', if_neg e]
  rw [e1] at h0 ⊢
  obtain ⟨c, d, hc, hd, k1, k2, k3⟩ := h.pre b a hb' ha h0
  exact ⟨c, d, hc, hd, k1, by rw [same c d hc hd k2]; exact k2, by rw [same c d hc hd k2]; exact k3⟩
 refine List.pairwise_append.2 ⟨?_, by simp, fun s hs' t ht => ?_⟩
 ·refine (List.pairwise_iff_forall_sublist.2 fun {s t} hst => ?_)
  have h1 : s ∈ q := hst.subset (by simp)
  have h2 : t ∈ q := hst.subset (by simp)
  rw [sameS s h1, sameS t h2]
  exact (List.pairwise_iff_forall_sublist.1 h.srt) hst
 rw [List.mem_singleton.1 ht, sameS s hs', gS_sp, new]
 exact hb s hs'
/-- A table of the least numbers of steps. -/
structure Dm (p : Pasture) (sy sx : Nat) (m : Tb) : Prop where
  zero : g2 m sy sx = 0
  one : ∀ b a, b < 10 → a < 10 → g2 m b a = 0 → b = sy ∧ a = sx
  rel : ∀ y x y' x', y < 10 → x < 10 → 0 ≤ g2 m y x → stepP p y x y' x' → 0 ≤ g2 m y' x' ∧ g2 m y' x' ≤ g2 m y x + 1
  pre : ∀ b a, b < 10 → a < 10 → 0 < g2 m b a → ∃ y x, y < 10 ∧ x < 10 ∧ stepP p y x b a ∧ 0 ≤ g2 m y x ∧ g2 m y x + 1 = g2 m b a
end Go.Proofs.YtegibnmfiogebaaGreat
/-
  Plain law: least numbers of steps: ways, back again, cells beside.
-/
namespace Go.Proofs.YtegibnmfiogebaaGreat
open G
set_option linter.unusedVariables false
set_option linter.unusedSimpArgs false
/-! ### Ways -/
/-- A way of so many steps. -/
inductive Wk (p : Pasture) (y x : Nat) : Nat → Nat → Nat → Prop
  | nil : Wk p y x 0 y x
  | snoc {n b a b' a' : Nat} : Wk p y x n b a → b < 10 → a < 10 → stepP p b a b' a' → Wk p y x (n + 1) b' a'
variable {p : Pasture}
theorem Wk.in_ {y x n b a : Nat} (h : Wk p y x n b a) (hy : y < 10) (hx : x < 10) : b < 10 ∧ a < 10 := by
  cases h with
  | nil => exact ⟨hy, hx⟩
  | snoc _ _ _ hs => exact ⟨hs.1, hs.2.1⟩
theorem Dm.le {y x : Nat} {m : Tb} (d : Dm p y x m) {n b a : Nat} (h : Wk p y x n b a) : 0 ≤ g2 m b a ∧ g2 m b a ≤ n := by
  induction h with
  | nil => rw [d.zero]; simp
  | snoc _ hb ha hs ih =>
    have := d.rel _ _ _ _ hb ha ih.1 hs
    push_cast; omega
theorem Dm.wk {y x : Nat} {m : Tb} (d : Dm p y x m) : ∀ (n b a : Nat), b < 10 → a < 10 → g2 m b a = (n : Int) → Wk p y x n b a
  | 0, b, a, hb, ha, h => by
    obtain ⟨rfl, rfl⟩ := d.one b a hb ha h
    exact .nil
  | n + 1, b, a, hb, ha, h => by
    obtain ⟨c, e, hc, he, hs, k1, k2⟩ := d.pre b a hb ha (by omega)
    exact .snoc (d.wk n c e hc he (by omega)) hc he hs
theorem Wk.cons {y x y' x' : Nat} (hy : y < 10) (hx : x < 10) (hs : stepP p y x y' x') {n b a : Nat} (h : Wk p y' x' n b a) : Wk p y x (n + 1) b a := by
  induction h with
  | nil => exact .snoc .nil hy hx hs
  | snoc _ hb ha hs' ih => exact .snoc ih hb ha hs'
theorem stepP.cell (hw : okW p = true) {y x y' x' : Nat} (h : stepP p y x y' x') : cellB p (x' : Int) (y' : Int) = true := by
 obtain ⟨_, _, i, _, ho, e⟩ := h
 unfold openB at ho
 rw [Bool.and_eq_true, e] at ho
 exact ho.1
theorem Wk.back (hw : okW p = true) {y x : Nat} (hy : y < 10) (hx : x < 10) (hc : cellB p (x : Int) (y : Int) = true) {n b a : Nat} (h : Wk p y x n b a) : Wk p b a n y x ∧ cellB p (a : Int) (b : Int) = true := by
  induction h with
  | nil => exact ⟨.nil, hc⟩
  | snoc _ hb ha hs ih =>
    exact ⟨Wk.cons hs.1 hs.2.1 (step_back hw hb ha ih.2 hs) ih.1, hs.cell hw⟩
/-- From a to b as far as from b to a. -/
theorem Dm.symm (hw : okW p = true) {y x b a : Nat} (hy : y < 10) (hx : x < 10) (hb : b < 10) (ha : a < 10) (hc : cellB p (x : Int) (y : Int) = true) (hc' : cellB p (a : Int) (b : Int) = true) {m n : Tb} (d : Dm p y x m) (e : Dm p b a n) (hm : -1 ≤ g2 m b a) (hn : -1 ≤ g2 n y x) : g2 m b a = g2 n y x := by
 have h1 : 0 ≤ g2 m b a → 0 ≤ g2 n y x ∧ g2 n y x ≤ g2 m b a := fun h0 => by
   obtain ⟨k, hk⟩ := Int.eq_ofNat_of_zero_le h0
   have := e.le ((d.wk k b a hb ha hk).back hw hy hx hc).1
   omega
 have h2 : 0 ≤ g2 n y x → 0 ≤ g2 m b a ∧ g2 m b a ≤ g2 n y x := fun h0 => by
   obtain ⟨k, hk⟩ := Int.eq_ofNat_of_zero_le h0
   have := d.le ((e.wk k y x hy hx hk).back hw hb ha hc').1
   omega
 omega
end Go.Proofs.YtegibnmfiogebaaGreat
