/-
  Plain law: JoinHerds of the program and of the reference answer alike.
-/
import Derived.Test.YtimpcenflahchaaDoorQJ
namespace Go.Proofs.YtimpcenflahchaaDoor
open G
set_option linter.unusedVariables false
set_option linter.unusedSimpArgs false
theorem evAll {xs : List ByteArray} {g : Nat → ByteArray → Option Bool} {p : ByteArray → Bool} (h : ∀ x ∈ xs, Ev (fun k => g k x) (p x)) : ∃ J, ∀ j, J ≤ j → ∀ x ∈ xs, g j x = some (p x) := by
  induction xs with
  | nil => exact ⟨0, fun j _ x hx => by simp at hx⟩
  | cons y ys ih =>
    obtain ⟨J, hJ⟩ := ih fun x hx => h x (List.mem_cons_of_mem _ hx)
    obtain ⟨K, hK⟩ := h y (List.mem_cons_self ..)
    refine ⟨J + K, fun j hj x hx => ?_⟩
    rcases List.mem_cons.1 hx with rfl | hx
    · exact hK j (by omega)
    · exact hJ j (by omega) x hx
theorem indexS_loop (xs : List ByteArray) (p : ByteArray → Bool) (hx : xs.length ≤ 1048576) : ∀ i : Nat, i ≤ xs.length → ∃ r : Int ⊕ Unit, (∀ g : ByteArray → Option Bool, (∀ x ∈ xs, g x = some (p x)) → ∀ k, xs.length - i < k → slices_IndexFunc_string_string.l1 xs g k (i : Int) = some r) ∧
    ((r = .inr () ∧ (xs.drop i).any p = false) ∨ ∃ j : Int, 0 ≤ j ∧ r = .inl j ∧ (xs.drop i).any p = true) := by
  refine upL ?_ ?_
  · refine ⟨.inr (), fun g hg k hk => ?_, .inl ⟨rfl, by simp⟩⟩
    obtain ⟨k, rfl⟩ : ∃ j, k = j + 1 := ⟨k - 1, by omega⟩
    rw [slices_IndexFunc_string_string.l1, if_neg (by omega)]
  · rintro i hi ⟨r, ih, h⟩
    cases hb : p xs[i]
    · refine ⟨r, fun g hg k hk => ?_, ?_⟩
      · obtain ⟨k, rfl⟩ : ∃ j, k = j + 1 := ⟨k - 1, by omega⟩
        rw [slices_IndexFunc_string_string.l1, if_pos (by omega), getI_nat hi, Option.bind_some, hg _ (List.getElem_mem hi), Option.bind_some, hb, if_neg (by simp), wsucc hi (by omega)]
        exact ih g hg k (by omega)
      · rw [List.drop_eq_getElem_cons hi, List.any_cons, hb, Bool.false_or]; exact h
    · refine ⟨.inl (i : Int), fun g hg k hk => ?_, .inr ⟨i, by omega, rfl, by rw [List.drop_eq_getElem_cons hi, List.any_cons, hb, Bool.true_or]⟩⟩
      obtain ⟨k, rfl⟩ : ∃ j, k = j + 1 := ⟨k - 1, by omega⟩
      rw [slices_IndexFunc_string_string.l1, if_pos (by omega), getI_nat hi, Option.bind_some, hg _ (List.getElem_mem hi), Option.bind_some, hb, if_pos rfl]
theorem containsSF_ev (xs : List ByteArray) {g : Nat → ByteArray → Option Bool} {p : ByteArray → Bool} (hg : ∀ x ∈ xs, Ev (fun k => g k x) (p x)) (hx : xs.length ≤ 1048576) : Ev (fun k => slices_ContainsFunc_string_string.f k xs (g k)) (xs.any p) := by
  obtain ⟨J, hJ⟩ := evAll hg
  obtain ⟨r, hr, h⟩ := indexS_loop xs p hx 0 (Nat.zero_le _)
  rw [List.drop_zero] at h
  refine ⟨J + xs.length + 1, fun k hk => ?_⟩
  have e : slices_IndexFunc_string_string.l1 xs (g k) k 0 = some r := hr (g k) (hJ k (by omega)) k (by omega)
  show slices_ContainsFunc_string_string.f k xs (g k) = _
  unfold slices_ContainsFunc_string_string.f slices_IndexFunc_string_string.f
  rw [e]
  rcases h with ⟨rfl, h⟩ | ⟨j, hj, rfl, h⟩
  · rw [h]; rfl
  · rw [h]; simp [hj]
/-! ### What is joined -/
theorem common (xs ys : List ByteArray) : xs.any (hasS ys) = ys.any (hasS xs) := by
  rw [Bool.eq_iff_iff, List.any_eq_true, List.any_eq_true]
  constructor
  · rintro ⟨x, hx, hy⟩; exact ⟨x, (hasS_iff _ _).1 hy, (hasS_iff _ _).2 hx⟩
  · rintro ⟨x, hx, hy⟩; exact ⟨x, (hasS_iff _ _).1 hy, (hasS_iff _ _).2 hx⟩
theorem specCommon_loop {a b : Herd} (ha : a.Names.length ≤ 14) (hb : b.Names.length ≤ 14) : ∀ i, i ≤ b.Names.length → Ev (fun k => spec_JoinHerds.l1 a b k (i : Int)) (if (b.Names.drop i).any (hasS a.Names) = true then .inl ((⟨[], [], []⟩ : Herd), 4) else .inr ()) := by
  refine upL ?_ ?_
  · refine Ev.step (fun k => spec_JoinHerds.l1.eq_2 _ _ _ _) (Ev.neg (by omega) (Ev.const ?_))
    simp
  · intro i hi ih
    refine Ev.step (fun k => spec_JoinHerds.l1.eq_2 _ _ _ _) (Ev.pos (by omega) (Ev.bind (Ev.const (getI_nat hi)) ((named_ev a (by omega) _).bind ?_)))
    rw [List.drop_eq_getElem_cons hi, List.any_cons, wsucc hi (by omega)]
    cases hasS a.Names b.Names[i]
    · rw [Bool.false_or]; exact Ev.neg (by simp) ih
    · rw [Bool.true_or]; exact Ev.pos rfl (Ev.const rfl)
theorem add_loop {a b : Herd} (ha : a.Names.length ≤ 14) (hb : b.Names.length ≤ 14) (he : b.Eats.length = b.Names.length) (hf : b.Foes.length = b.Names.length) : ∀ i, i ≤ b.Names.length → ∀ (x : List ByteArray) (y z : List Int), x.length ≤ 1048576 + i → y.length ≤ 1048576 + i → z.length ≤ 1048576 + i → ∃ (x' : List ByteArray) (y' z' : List Int), x'.length ≤ 1048576 + 14 ∧ y'.length ≤ 1048576 + 14 ∧ z'.length ≤ 1048576 + 14 ∧
    x'.length = x.length + (b.Names.length - i) ∧ y'.length = y.length + (b.Names.length - i) ∧ z'.length = z.length + (b.Names.length - i) ∧
    Ev (fun k => spec_JoinHerds.l2 a b k x y z (i : Int)) (x', y', z') ∧ Ev (fun k => impl_JoinHerds.l1 a b k x y z (i : Int)) (x', y', z') := by
  have hu : IntKind.u64.wrap (a.Names.length : Int) = (a.Names.length : Int) := wu64 (by omega) (by omega)
  refine upL ?_ ?_
  · intro x y z hx hy hz
    exact ⟨x, y, z, by omega, by omega, by omega, by omega, by omega, by omega, Ev.step (fun k => spec_JoinHerds.l2.eq_2 _ _ _ _ _ _ _) (Ev.neg (by omega) (Ev.const rfl)), Ev.step (fun k => impl_JoinHerds.l1.eq_2 _ _ _ _ _ _ _) (Ev.neg (by omega) (Ev.const rfl))⟩
  · intro i hi ih x y z hx hy hz
    obtain ⟨x', y', z', l1, l2, l3, l4, l5, l6, e1, e2⟩ := ih (x ++ [b.Names[i]]) (y ++ [b.Eats[i]]) (z ++ [shlI .u16 b.Foes[i] (a.Names.length : Int)]) (by simp; omega) (by simp; omega) (by simp; omega)
    simp only [List.length_append, List.length_cons, List.length_nil] at l4 l5 l6
    rw [← wsucc hi (by omega)] at e1 e2
    refine ⟨x', y', z', l1, l2, l3, by omega, by omega, by omega, Ev.step (fun k => spec_JoinHerds.l2.eq_2 _ _ _ _ _ _ _) (Ev.pos (by omega) (Ev.bind (Ev.const (getI_nat hi)) (Ev.bind (Ev.const (chkT (by simp; omega))) (Ev.bind (Ev.const (getI_nat (show i < b.Eats.length by omega))) (Ev.bind (Ev.const (chkT (by simp; omega))) (Ev.bind (Ev.const (getI_nat (show i < b.Foes.length by omega))) (Ev.bind (Ev.const (chkT (by omega))) (Ev.bind (Ev.const (chkT (by simp; omega))) ?_)))))))),
      Ev.step (fun k => impl_JoinHerds.l1.eq_2 _ _ _ _ _ _ _) (Ev.pos (by omega) (Ev.bind (Ev.const (getI_nat hi)) (Ev.bind (Ev.const (getI_nat (show i < b.Eats.length by omega))) (Ev.bind (Ev.const (chkT (by simp; omega))) (Ev.bind (Ev.const (chkT (by simp; omega))) (Ev.bind (Ev.const (getI_nat (show i < b.Foes.length by omega))) (Ev.bind (Ev.const (chkT (by omega))) (Ev.bind (Ev.const (chkT (by simp; omega))) e2))))))))⟩
    rw [hu]; exact e1
theorem joinH_ev {a b : Herd} (va : VHerd a) (vb : VHerd b) (sa : smallH a) (sb : smallH b) : ∃ r : Herd × Int, smallH r.1 ∧ Ev (fun k => spec_JoinHerds.f k a b) r ∧ Ev (fun k => impl_JoinHerds.f k a b) r := by
  have hsm : smallH (⟨[], [], []⟩ : Herd) := ⟨by simp, by simp, by simp⟩
  have s0 : Ev (fun k => (spec_l06Ok.f k a).bind fun t5 => if (!t5) = true then (some true) else ((spec_l06Ok.f k b).bind fun t6 => some (!t6))) (!(vH a && vH b)) := by
    refine (specHerd_ev va).bind ?_
    cases vH a
    · exact Ev.const rfl
    · exact Ev.neg (by simp) ((specHerd_ev vb).bind (Ev.const (by simp)))
  have i0 : Ev (fun k => (impl_ValidHerd.f k a).bind fun t5 => if (!t5) = true then (some true) else ((impl_ValidHerd.f k b).bind fun t6 => some (!t6))) (!(vH a && vH b)) := by
    refine (implHerd_ev va).bind ?_
    cases vH a
    · exact Ev.const rfl
    · exact Ev.neg (by simp) ((implHerd_ev vb).bind (Ev.const (by simp)))
  cases hv : (vH a && vH b)
  · rw [hv] at s0 i0
    exact ⟨_, hsm, s0.bind (Ev.pos rfl (Ev.const rfl)), i0.bind (Ev.pos rfl (Ev.const rfl))⟩
  · rw [hv] at s0 i0
    rw [Bool.and_eq_true] at hv
    obtain ⟨n1, n2, n3⟩ := vH_len hv.1
    obtain ⟨m1, m2, m3⟩ := vH_len hv.2
    have sc := specCommon_loop (a := a) (b := b) n1 m1 0 (Nat.zero_le _)
    rw [List.drop_zero] at sc
    have ic := containsSF_ev a.Names (g := fun k => impl_JoinHerds_1.f k b) (p := hasS b.Names) (fun x _ => (containsS_ev b.Names (by omega) x).bind (Ev.const rfl)) (by omega)
    rw [common] at ic
    have hw : IntKind.i64.wrap ((a.Names.length : Int) + (b.Names.length : Int)) = (a.Names.length : Int) + (b.Names.length : Int) := w64 (by omega) (by omega)
    cases hc : b.Names.any (hasS a.Names)
    · rw [hc] at sc ic
      by_cases hl : 14 < (a.Names.length : Int) + (b.Names.length : Int)
      · exact ⟨_, hsm, s0.bind (Ev.neg (by simp) (sc.bind (Ev.pos (by rw [hw]; exact hl) (Ev.const rfl)))), i0.bind (Ev.neg (by simp) (ic.bind (Ev.neg (by simp) (Ev.bind (Ev.const (many_eq a)) (Ev.bind (Ev.const (many_eq b)) (Ev.pos (by rw [hw]; exact hl) (Ev.const rfl)))))))⟩
      · obtain ⟨x, y, z, l1, l2, l3, l4, l5, l6, e1, e2⟩ := add_loop (a := a) (b := b) n1 m1 m2 m3 0 (Nat.zero_le _) a.Names a.Eats a.Foes (by omega) (by omega) (by omega)
        exact ⟨((⟨x, y, z⟩ : Herd), 0), ⟨by show x.length ≤ _; omega, by show y.length ≤ _; omega, by show z.length ≤ _; omega⟩, s0.bind (Ev.neg (by simp) (sc.bind (Ev.neg (by rw [hw]; exact hl) (Ev.bind (Ev.const (specOwn_eq a sa)) (e1.bind (Ev.const rfl)))))), i0.bind (Ev.neg (by simp) (ic.bind (Ev.neg (by simp) (Ev.bind (Ev.const (many_eq a)) (Ev.bind (Ev.const (many_eq b)) (Ev.neg (by rw [hw]; exact hl) (Ev.bind (Ev.const (implOwn_eq a sa)) (e2.bind (Ev.const rfl)))))))))⟩
    · rw [hc] at sc ic
      exact ⟨_, hsm, s0.bind (Ev.neg (by simp) (sc.bind (Ev.const rfl))), i0.bind (Ev.neg (by simp) (ic.bind (Ev.pos rfl (Ev.const rfl))))⟩
theorem FnExactJoinHerds.pure (x0 : Herd) (hv0 : VHerd x0) (x1 : Herd) (hv1 : VHerd x1) : ∃ k, laws_FnExactJoinHerds.f k x0 x1 = some true := by
  refine Ev.get (r := true) ?_
  obtain ⟨r, hr, h⟩ := szHerd_ev x0 hv0 1048576 (by omega) (by omega)
  refine hr.bind ?_
  rcases h with rfl | ⟨a, c⟩
  · exact Ev.pos (by omega) (Ev.const rfl)
  · refine Ev.neg (by omega) ?_
    obtain ⟨r2, hr2, h⟩ := szHerd_ev x1 hv1 r a (by omega)
    refine hr2.bind ?_
    rcases h with rfl | ⟨a2, c2⟩
    · exact Ev.pos (by omega) (Ev.const rfl)
    · have hs : smallH x0 := ⟨by omega, by omega, by omega⟩
      have hs1 : smallH x1 := ⟨by omega, by omega, by omega⟩
      have ht := toHerd_ev x0 hs
      have he := eqHerd_ev x0 x0 hs
      rw [decide_eq_true rfl] at he
      have ht1 := toHerd_ev x1 hs1
      have he1 := eqHerd_ev x1 x1 hs1
      rw [decide_eq_true rfl] at he1
      obtain ⟨⟨g, c⟩, hl, h1, h2⟩ := joinH_ev hv0 hv1 hs hs1
      have hl : smallH g := hl
      have hq := sameH_ev g hl c
      have hm := markH_ev x0 hs 1 (by omega) (by omega)
      have hm1 := markH_ev x1 hs1 (1 + (x0.Names.length : Int) + x0.Eats.length + x0.Foes.length) (by omega) (by omega)
      have hk := markH_ev g hl 1 (by omega) (by omega)
      have hd := heldH_ev g.Names.length g.Eats.length g.Foes.length hl.1 hl.2.1 hl.2.2
      exact Ev.neg (by omega) (ht.bind (ht1.bind (h1.bind (ht.bind (ht1.bind (h2.bind (Ev.bind hq (Ev.neg (by simp) (ht.bind (he.bind (Ev.neg (by simp) (ht1.bind (he1.bind (Ev.neg (by simp) (hm.bind (hm1.bind (Ev.bind (Ev.neg (by show ¬ (1 + (x0.Names.length : Int) + x0.Eats.length + x0.Foes.length + x1.Names.length + x1.Eats.length + x1.Foes.length) < 0; omega) hq) (Ev.neg (by simp) (hk.bind (hd.bind (Ev.neg (by omega) (Ev.neg (by simp) (ht.bind (ht1.bind (h2.bind (Ev.bind hq (Ev.neg (by simp) (hd.bind (Ev.neg (by omega) (Ev.neg (by simp) (Ev.const rfl)))))))))))))))))))))))))))))))
end Go.Proofs.YtimpcenflahchaaDoor
