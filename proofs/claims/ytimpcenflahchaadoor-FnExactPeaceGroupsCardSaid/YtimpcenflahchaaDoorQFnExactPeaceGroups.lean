/-
  Plain law: PeaceGroups of the program and of the reference answer alike.
-/
import Derived.Test.YtimpcenflahchaaDoorQY
namespace Go.Proofs.YtimpcenflahchaaDoor
open G
set_option linter.unusedVariables false
set_option linter.unusedSimpArgs false
/-! ### Lists of lists -/
def sumL : List (List Int) → Nat
  | [] => 0
  | x :: xs => x.length + sumL xs
def markL : Int → List (List Int) → List (List Int)
  | _, [] => []
  | m, x :: xs => numbI64 m x.length :: markL (m + x.length) xs
theorem markL_len : ∀ (xs : List (List Int)) (m : Int), (markL m xs).length = xs.length
  | [], _ => rfl
  | x :: xs, m => by simp [markL, markL_len xs]
theorem at_app {α : Type} {x : α} : ∀ (d r : List α), getI (d ++ x :: r) (d.length : Int) = some x := fun d r => by
  rw [getI_nat (by simp)]
  simp
theorem set_app1 {α : Type} {x y : α} : ∀ (d r : List α), (d ++ x :: r).set d.length y = d ++ y :: r
  | [], r => rfl
  | a :: d, r => by simp [set_app1 d r]
theorem markSS_loop (a0 : List (List Int)) (ha : a0.length ≤ 1048576) : ∀ (rest done : List (List Int)) (m : Int), done.length + rest.length = a0.length → 0 ≤ m → m + sumL rest ≤ 4294967296 → Ev (fun k => laws_markInt64SS.l1 a0 k (done ++ rest) m (done.length : Int)) (done ++ markL m rest, m + sumL rest)
  | [], done, m, hl, h0, h1 => by
    refine Ev.step (fun k => laws_markInt64SS.l1.eq_2 _ _ _ _ _) (Ev.neg ?_ (Ev.const ?_))
    · simp at hl; omega
    · simp [markL, sumL]
  | x :: rest, done, m, hl, h0, h1 => by
    have hx := laws_markInt64S_ev x m h0 (by simp [sumL] at h1; omega)
    have ih := markSS_loop a0 ha rest (done ++ [numbI64 m x.length]) (m + x.length) (by simp at hl ⊢; omega) (by omega) (by simp [sumL] at h1; omega)
    have e : (done ++ [numbI64 m x.length]).length = done.length + 1 := by simp
    rw [e, List.append_assoc, List.append_assoc] at ih
    rw [← wsucc (n := a0.length) (by simp at hl; omega) (by omega)] at ih
    refine Ev.step (fun k => laws_markInt64SS.l1.eq_2 _ _ _ _ _) (Ev.pos (by simp at hl; omega) (Ev.bind (Ev.const (at_app _ _)) (hx.bind ?_)))
    rw [Int.toNat_natCast, set_app1]
    have e2 : m + ((x.length + sumL rest : Nat) : Int) = m + x.length + sumL rest := by omega
    show Ev _ (done ++ markL m (x :: rest), m + ((x.length + sumL rest : Nat) : Int))
    rw [e2]
    exact ih
theorem markSS_ev (xs : List (List Int)) (hx : xs.length ≤ 1048576) (m : Int) (h0 : 0 ≤ m) (h1 : m + sumL xs ≤ 4294967296) : Ev (fun k => laws_markInt64SS.f k xs m) (m + sumL xs, markL m xs) := by
  have h := markSS_loop xs hx xs [] m (by simp) h0 h1
  exact h.bind (Ev.const rfl)
theorem heldSS_loop (a0 : List (List Int)) (ha : a0.length ≤ 1048576) : ∀ (rest done : List (List Int)) (m : Int), a0 = done ++ markL m rest → 0 ≤ m → m + sumL rest ≤ 4294967296 → Ev (fun k => laws_heldInt64SS.l1 a0 k m (done.length : Int)) (.inr (m + sumL rest))
  | [], done, m, e, h0, h1 => by
    subst e
    refine Ev.step (fun k => laws_heldInt64SS.l1.eq_2 _ _ _ _) (Ev.neg ?_ (Ev.const ?_))
    · simp [markL]
    · simp [sumL]
  | x :: rest, done, m, e, h0, h1 => by
    have hx := laws_heldInt64S_ev x.length m h0 (by simp [sumL] at h1; omega)
    have ih := heldSS_loop a0 ha rest (done ++ [numbI64 m x.length]) (m + x.length) (by rw [e]; simp [markL]) (by omega) (by simp [sumL] at h1; omega)
    have el : (done ++ [numbI64 m x.length]).length = done.length + 1 := by simp
    have hl : done.length < a0.length := by rw [e]; simp [markL]
    rw [el, ← wsucc hl (by omega)] at ih
    have e2 : m + ((x.length + sumL rest : Nat) : Int) = m + x.length + sumL rest := by omega
    show Ev _ (Sum.inr (m + ((x.length + sumL rest : Nat) : Int)))
    rw [e2]
    refine Ev.step (fun k => laws_heldInt64SS.l1.eq_2 _ _ _ _) (Ev.pos (by omega) (Ev.bind (Ev.const (by rw [e]; exact at_app _ _)) (hx.bind (Ev.neg (by omega) ih))))
theorem heldSS_ev (xs : List (List Int)) (hx : xs.length ≤ 1048576) (m : Int) (h0 : 0 ≤ m) (h1 : m + sumL xs ≤ 4294967296) : Ev (fun k => laws_heldInt64SS.f k (markL m xs) m) (m + sumL xs) := by
  have h := heldSS_loop (markL m xs) (by rw [markL_len]; exact hx) xs [] m (by simp) h0 h1
  exact Ev.bind h (Ev.const rfl)
theorem eqSS_ev (xs : List (List Int)) (hx : xs.length ≤ 1048576) (h : ∀ x ∈ xs, x.length ≤ 1048576) : Ev (fun k => laws_eqInt64SS.f k xs xs) true := by
  have key : ∀ i, i ≤ xs.length → Ev (fun k => laws_eqInt64SS.l1 xs xs k (i : Int)) (.inr ()) := by
    refine upL ?_ ?_
    · exact Ev.step (fun k => laws_eqInt64SS.l1.eq_2 _ _ _ _) (Ev.neg (by omega) (Ev.const rfl))
    · intro i hi ih
      have he := laws_eqInt64S_ev xs[i] xs[i] (by have := h _ (List.getElem_mem hi); omega)
      rw [decide_eq_true rfl] at he
      rw [← wsucc hi (by omega)] at ih
      exact Ev.step (fun k => laws_eqInt64SS.l1.eq_2 _ _ _ _) (Ev.pos (by omega) (Ev.bind (Ev.const (getI_nat hi)) (Ev.bind (Ev.const (getI_nat hi)) (he.bind (Ev.neg (by simp) ih)))))
  have := key 0 (Nat.zero_le _)
  exact Ev.neg (by simp) (Ev.bind this (Ev.const rfl))
theorem sumL_le : ∀ (xs : List (List Int)), (∀ x ∈ xs, x.length ≤ 16) → sumL xs ≤ 16 * xs.length
  | [], _ => by simp [sumL]
  | x :: xs, h => by
    have h1 := h x (by simp)
    have h2 := sumL_le xs fun y hy => h y (List.mem_cons_of_mem _ hy)
    simp [sumL]; omega
/-! ### Both go through the goats -/
theorem specList_loop {h : Herd} {y : Int} (hy : in16 y) (hn : h.Names.length ≤ 14) : ∀ i, i ≤ h.Names.length → ∀ ys : List Int, ys.length ≤ i → Ev (fun k => spec_PeaceGroups.l4 h y k ys (i : Int)) (ys ++ bl y i (h.Names.length - i)) := by
  refine upL ?_ ?_
  · intro ys hl
    refine Ev.step (fun k => spec_PeaceGroups.l4.eq_2 _ _ _ _ _) (Ev.neg (by omega) (Ev.const ?_))
    simp [bl]
  · intro i hi ih ys hl
    have ui : IntKind.u64.wrap (i : Int) = (i : Int) := wu64 (by omega) (by omega)
    refine Ev.step (fun k => spec_PeaceGroups.l4.eq_2 _ _ _ _ _) (Ev.pos (by omega) (Ev.bind (Ev.const (chkT (by rw [ui]; omega))) ?_))
    rw [wsucc hi (by omega), bl_step _ hi]
    cases e : bitN y i
    · exact Ev.neg (by rw [ui, bit_test1 hy, e]; simp) (by simpa using ih ys (by omega))
    · refine Ev.pos (by rw [ui, bit_test1 hy, e]) (Ev.bind (Ev.const (chkT (by simp; omega))) ?_)
      have := ih (ys ++ [(i : Int)]) (by simp; omega)
      rw [List.append_assoc] at this
      exact this
theorem peace_loop {h : Herd} (v : VHerd h) (hv : vH h = true) : ∀ i, i ≤ h.Names.length → ∀ (out : List (List Int)) (done : Int), out.length ≤ i → (∀ x ∈ out, x.length ≤ 16) → in16 done → ∃ r : List (List Int), r.length ≤ h.Names.length ∧ (∀ x ∈ r, x.length ≤ 16) ∧ Ev (fun k => spec_PeaceGroups.l1 h k out done (i : Int)) r ∧ Ev (fun k => impl_PeaceGroups.l1 h k out done (i : Int)) r := by
  obtain ⟨n1, n2, n3⟩ := vH_len hv
  refine upL ?_ ?_
  · intro out done hl ho hd
    exact ⟨out, hl, ho, Ev.step (fun k => spec_PeaceGroups.l1.eq_2 _ _ _ _ _) (Ev.neg (by omega) (Ev.const rfl)), Ev.step (fun k => impl_PeaceGroups.l1.eq_2 _ _ _ _ _) (Ev.neg (by omega) (Ev.const rfl))⟩
  · intro i hi ih out done hl ho hd
    have ui : IntKind.u64.wrap (i : Int) = (i : Int) := wu64 (by omega) (by omega)
    have cu : chk (0 ≤ IntKind.u64.wrap (i : Int)) = some () := chkT (by rw [ui]; omega)
    have ci : chk (0 ≤ (i : Int)) = some () := chkT (by omega)
    cases e : bitN done i
    · obtain ⟨g, hg, s2, i2⟩ := group_ev v hv hi
      have l4 := specList_loop hg.1 n1 0 (Nat.zero_le _) [] (by simp)
      rw [List.nil_append, Nat.sub_zero] at l4
      have li := listed_ev g
      rw [bl_cut (show h.Names.length ≤ 16 by omega) hg.2.1] at li
      have hb := bl_len g 0 h.Names.length
      have ca : chk (out.length + [bl g 0 h.Names.length].length ≤ 4294967296) = some () := chkT (by simp; omega)
      obtain ⟨r, r1, r2, r3, r4⟩ := ih (out ++ [bl g 0 h.Names.length]) (orI .u16 done g) (by simp; omega) (fun x hx => by
        rcases List.mem_append.1 hx with hx | hx
        · exact ho x hx
        · simp at hx; subst hx; omega) (or_in _ _)
      rw [← wsucc hi (by omega)] at r3 r4
      refine ⟨r, r1, r2, Ev.step (fun k => spec_PeaceGroups.l1.eq_2 _ _ _ _ _) (Ev.pos (by omega) (Ev.bind (a := (out ++ [bl g 0 h.Names.length], orI .u16 done g)) (Ev.bind (Ev.const cu) (Ev.neg (by rw [ui, bit_test1 hd, e]; simp) (Ev.bind (Ev.const cu) (Ev.bind (by rw [ui]; exact s2) (Ev.bind l4 (Ev.bind (Ev.const ca) (Ev.const rfl))))))) r3)), Ev.step (fun k => impl_PeaceGroups.l1.eq_2 _ _ _ _ _) (Ev.pos (by omega) (Ev.bind (a := (out ++ [bl g 0 h.Names.length], orI .u16 done g)) (Ev.bind (Ev.const ci) (Ev.neg (of_decide_eq_false e) (Ev.bind (Ev.const ci) (Ev.bind i2 (Ev.bind li (Ev.bind (Ev.const ca) (Ev.const rfl))))))) r4))⟩
    · obtain ⟨r, r1, r2, r3, r4⟩ := ih out done (by omega) ho hd
      rw [← wsucc hi (by omega)] at r3 r4
      exact ⟨r, r1, r2, Ev.step (fun k => spec_PeaceGroups.l1.eq_2 _ _ _ _ _) (Ev.pos (by omega) (Ev.bind (a := (out, done)) (Ev.bind (Ev.const cu) (Ev.pos (by rw [ui, bit_test1 hd, e]) (Ev.const rfl))) r3)), Ev.step (fun k => impl_PeaceGroups.l1.eq_2 _ _ _ _ _) (Ev.pos (by omega) (Ev.bind (a := (out, done)) (Ev.bind (Ev.const ci) (Ev.pos (of_decide_eq_true e) (Ev.const rfl))) r4))⟩
theorem peace_ev {h : Herd} (v : VHerd h) : ∃ r : List (List Int) × Int, r.1.length ≤ 14 ∧ (∀ x ∈ r.1, x.length ≤ 16) ∧ Ev (fun k => spec_PeaceGroups.f k h) r ∧ Ev (fun k => impl_PeaceGroups.f k h) r := by
  have h1 := specHerd_ev v
  have h2 := implHerd_ev v
  cases hv : vH h
  · rw [hv] at h1 h2
    exact ⟨([], 1), by simp, by simp, h1.bind (Ev.const rfl), h2.bind (Ev.const rfl)⟩
  · rw [hv] at h1 h2
    obtain ⟨n1, n2, n3⟩ := vH_len hv
    obtain ⟨r, hr, hx, g1, g2⟩ := peace_loop v hv 0 (Nat.zero_le _) [] 0 (by simp) (by simp) ⟨by omega, by omega⟩
    exact ⟨(r, 0), by simpa using Nat.le_trans hr n1, hx, h1.bind (Ev.neg (by simp) (Ev.bind g1 (Ev.const rfl))), h2.bind (Ev.neg (by simp) (Ev.bind g2 (Ev.const rfl)))⟩
theorem sameSS_ev (g : List (List Int)) (c : Int) (hg : g.length ≤ 1048576) (h : ∀ x ∈ g, x.length ≤ 1048576) : Ev (fun k => (laws_eqInt64SS.f k g g).bind fun t25 => if (!t25) = true then some true else some (decide (c ≠ c))) false :=
  (eqSS_ev g hg h).bind (Ev.neg (by simp) (Ev.const (by simp)))
theorem FnExactPeaceGroups.pure (x0 : Herd) (hv0 : VHerd x0) : ∃ k, laws_FnExactPeaceGroups.f k x0 = some true := by
  refine Ev.get (r := true) ?_
  obtain ⟨r, hr, h⟩ := szHerd_ev x0 hv0 1048576 (by omega) (by omega)
  refine hr.bind ?_
  rcases h with rfl | ⟨a, c⟩
  · exact Ev.pos (by omega) (Ev.const rfl)
  · have hs : smallH x0 := ⟨by omega, by omega, by omega⟩
    have ht := toHerd_ev x0 hs
    have he := eqHerd_ev x0 x0 hs
    rw [decide_eq_true rfl] at he
    obtain ⟨⟨g, c⟩, hl, hx, h1, h2⟩ := peace_ev hv0
    have hl : g.length ≤ 14 := hl
    have hx : ∀ x ∈ g, x.length ≤ 16 := hx
    have hsum := sumL_le g hx
    have hq := sameSS_ev g c (by omega) fun x h => by have := hx x h; omega
    obtain ⟨m, hm, hm0⟩ := markHerd_ev x0 hs
    have hk := markSS_ev g (by omega) 1 (by omega) (by omega)
    have hd := heldSS_ev g (by omega) 1 (by omega) (by omega)
    exact Ev.neg (by omega) (ht.bind (h1.bind (ht.bind (h2.bind (Ev.bind hq (Ev.neg (by simp) (ht.bind (he.bind (Ev.neg (by simp) (hm.bind (Ev.bind (Ev.neg (by omega) hq) (Ev.neg (by simp) (hk.bind (hd.bind (Ev.neg (by omega) (Ev.neg (by simp) (ht.bind (h2.bind (Ev.bind hq (Ev.neg (by simp) (hd.bind (Ev.neg (by omega) (Ev.neg (by simp) (Ev.const rfl))))))))))))))))))))))))
end Go.Proofs.YtimpcenflahchaaDoor
