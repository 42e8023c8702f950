/-
  Plain law: MeadowsOf of the program and of the reference answer alike.
-/
import Derived.Test.YtlmfhjjhgiobdaaQYe
namespace Go.Proofs.Ytlmfhjjhgiobdaa
open G
set_option linter.unusedVariables false
set_option linter.unusedSimpArgs false
/-! ### Grass -/
def sumW (p : Pasture) : Int → List Spot → Int
  | a, [] => a
  | a, s :: l => sumW p (IntKind.i64.wrap (a + IntKind.i64.wrap (gG p s.Y.toNat s.X.toNat))) l
theorem specSum_loop {p : Pasture} (Y : List Spot) (hl : Y.length ≤ 100) (hm : ∀ s ∈ Y, ∃ x y : Nat, x < 10 ∧ y < 10 ∧ s = sp x y) : ∀ i, i ≤ Y.length → ∀ a : Int, Ev (fun k => spec_GrassOf.l1 p Y k a (i : Int)) (sumW p a (Y.drop i)) := by
  refine upL ?_ ?_
  · intro a
    rw [List.drop_length]
    exact Ev.step (fun k => spec_GrassOf.l1.eq_2 _ _ _ _ _) (Ev.neg (by omega) (Ev.const rfl))
  · intro i hi ih a
    obtain ⟨x, y, hx, hy, e⟩ := hm _ (List.getElem_mem hi)
    have ih := ih (IntKind.i64.wrap (a + IntKind.i64.wrap (gG p y x)))
    rw [← wsucc hi (by omega)] at ih
    have hg : getI Y (i : Int) = some (sp x y) := by rw [getI_nat hi, e]
    refine Ev.step (fun k => spec_GrassOf.l1.eq_2 _ _ _ _ _) (Ev.pos (by omega) (Ev.bind (Ev.const hg) (Ev.bind (Ev.const hg) (Ev.bind (Ev.const (getR p.Grass hy)) (Ev.bind (Ev.const (getA _ hx)) ?_)))))
    rw [List.drop_eq_getElem_cons hi, e]
    exact ih
theorem implSum_loop {p : Pasture} (Y : List Spot) (hl : Y.length ≤ 100) (hm : ∀ s ∈ Y, ∃ x y : Nat, x < 10 ∧ y < 10 ∧ s = sp x y) : ∀ i, i ≤ Y.length → ∀ a : Int, Ev (fun k => impl_Pasture_sumOf.l1 p Y k a (i : Int)) (sumW p a (Y.drop i)) := by
  refine upL ?_ ?_
  · intro a
    rw [List.drop_length]
    exact Ev.step (fun k => impl_Pasture_sumOf.l1.eq_2 _ _ _ _ _) (Ev.neg (by omega) (Ev.const rfl))
  · intro i hi ih a
    obtain ⟨x, y, hx, hy, e⟩ := hm _ (List.getElem_mem hi)
    have ih := ih (IntKind.i64.wrap (a + IntKind.i64.wrap (gG p y x)))
    rw [← wsucc hi (by omega)] at ih
    have hg : getI Y (i : Int) = some (sp x y) := by rw [getI_nat hi, e]
    have hgr : impl_Pasture_grass.f p (sp x y) = some (IntKind.i64.wrap (gG p y x)) := by
      unfold impl_Pasture_grass.f
      show (getI p.Grass.l ((y : Nat) : Int)).bind _ = _
      rw [getR p.Grass hy, Option.bind_some]
      show (getI (gR p.Grass y).l ((x : Nat) : Int)).bind _ = _
      rw [getA _ hx]; rfl
    refine Ev.step (fun k => impl_Pasture_sumOf.l1.eq_2 _ _ _ _ _) (Ev.pos (by omega) (Ev.bind (Ev.const hg) (Ev.bind (Ev.const hgr) ?_)))
    rw [List.drop_eq_getElem_cons hi, e]
    exact ih
def mn (x : Int) : Int := if 1000 < x then 1000 else x
theorem min_eq (x : Int) : spec_l00Min.f 1000 x = some (mn x) := by
  unfold spec_l00Min.f mn
  split <;> rfl
def mOf (p : Pasture) (g : Int) (Y : List Spot) : Meadow := (⟨IntKind.i16.wrap (mn (sumW p 0 Y)), IntKind.i16.wrap (mn (IntKind.i64.wrap (g * (Y.length : Int)))), 1000⟩ : Meadow)
theorem yard_cells {p : Pasture} (hw : okW p = true) {Y : List Spot} (h : isYard p Y) : (∀ s ∈ Y, ∃ x y : Nat, x < 10 ∧ y < 10 ∧ s = sp x y) ∧ (∀ s ∈ Y, VSpot s) ∧ okC p Y = true := by
  obtain ⟨a, b⟩ := okW_iff.1 hw
  have hm : ∀ s ∈ Y, ∃ x y : Nat, x < p.Wide.toNat ∧ y < p.High.toNat ∧ s = sp x y := fun s hs => isYard_mem h hs
  refine ⟨fun s hs => ?_, fun s hs => ?_, List.all_eq_true.2 fun s hs => ?_⟩
  · obtain ⟨x, y, h1, h2, h3⟩ := hm s hs
    exact ⟨x, y, by omega, by omega, h3⟩
  · obtain ⟨x, y, h1, h2, rfl⟩ := hm s hs
    exact VSpot_nat (by omega) (by omega)
  · obtain ⟨x, y, h1, h2, rfl⟩ := hm s hs
    unfold cellB sp
    rw [Bool.and_eq_true, decide_eq_true_eq, decide_eq_true_eq]
    exact ⟨⟨by show (0 : Int) ≤ (x : Int); omega, by show (x : Int) < p.Wide; omega⟩, by show (0 : Int) ≤ (y : Int); omega, by show (y : Int) < p.High; omega⟩
theorem specMeadows_loop {p : Pasture} (v : VPasture p) (hp : vP p = true) (g : Int) (tab : Tb) (ys : List (List Spot)) (hy : ∀ Y ∈ ys, isYard p Y) (hl : ys.length ≤ 100) : ∀ i, i ≤ ys.length → ∀ out : List Meadow, out.length ≤ i → Ev (fun k => spec_MeadowsOf.l1 p g (tab, ys) k out (i : Int)) (out ++ (ys.drop i).map (mOf p g)) := by
  refine upL ?_ ?_
  · intro out ho
    rw [List.drop_length]
    exact Ev.step (fun k => spec_MeadowsOf.l1.eq_2 _ _ _ _ _ _) (Ev.neg (by show ¬ (ys.length : Int) < (ys.length : Int); omega) (Ev.const (by simp)))
  · intro i hi ih out ho
    have hY := hy _ (List.getElem_mem hi)
    obtain ⟨c1, c2, c3⟩ := yard_cells (vP_okW hp) hY
    have yl := isYard_len (vP_okW hp) hY
    have ha := specAll_ev v ys[i] c2 (by omega)
    have e0 : cCode p ys[i] = 0 := by unfold cCode; rw [hp, c3]; rfl
    rw [e0] at ha
    have hs := specSum_loop (p := p) ys[i] yl c1 0 (Nat.zero_le _) 0
    rw [List.drop_zero] at hs
    have hgr : Ev (fun k => spec_GrassOf.f k p ys[i]) (sumW p 0 ys[i], 0) := ha.bind (Ev.neg (by simp) (Ev.bind hs (Ev.const rfl)))
    have hg : getI ys (i : Int) = some ys[i] := getI_nat hi
    have ih := ih (out ++ [mOf p g ys[i]]) (by simp; omega)
    rw [← wsucc hi (by omega), List.append_assoc] at ih
    refine Ev.step (fun k => spec_MeadowsOf.l1.eq_2 _ _ _ _ _ _) (Ev.pos (by show (i : Int) < (ys.length : Int); omega) (Ev.bind (Ev.const hg) (hgr.bind (Ev.bind (Ev.const (min_eq _)) (Ev.bind (Ev.const hg) (Ev.bind (Ev.const (min_eq _)) (Ev.bind (Ev.const (chk_t (by simp; omega))) ?_)))))))
    rw [List.drop_eq_getElem_cons hi, List.map_cons]
    exact ih
theorem implMeadows_loop {p : Pasture} (hw : okW p = true) (g : Int) (ys : List (List Spot)) (hy : ∀ Y ∈ ys, isYard p Y) (hl : ys.length ≤ 100) : ∀ i, i ≤ ys.length → ∀ out : List Meadow, out.length ≤ i → Ev (fun k => impl_MeadowsOf.l1 p g ys k out (i : Int)) (out ++ (ys.drop i).map (mOf p g)) := by
  refine upL ?_ ?_
  · intro out ho
    rw [List.drop_length]
    exact Ev.step (fun k => impl_MeadowsOf.l1.eq_2 _ _ _ _ _ _) (Ev.neg (by omega) (Ev.const (by simp)))
  · intro i hi ih out ho
    have hY := hy _ (List.getElem_mem hi)
    obtain ⟨c1, c2, c3⟩ := yard_cells hw hY
    have yl := isYard_len hw hY
    have hs := implSum_loop (p := p) ys[i] yl c1 0 (Nat.zero_le _) 0
    rw [List.drop_zero] at hs
    have hgr : Ev (fun k => impl_Pasture_sumOf.f k p ys[i]) (sumW p 0 ys[i]) := Ev.bind hs (Ev.const rfl)
    have hg : getI ys (i : Int) = some ys[i] := getI_nat hi
    have ih := ih (out ++ [mOf p g ys[i]]) (by simp; omega)
    rw [← wsucc hi (by omega), List.append_assoc] at ih
    refine Ev.step (fun k => impl_MeadowsOf.l1.eq_2 _ _ _ _ _ _) (Ev.pos (by omega) (Ev.bind (Ev.const hg) (hgr.bind (Ev.bind (Ev.const (show impl_size_impl_Spot.f ys[i] = some (ys[i].length : Int) from rfl)) (Ev.bind (Ev.const (chk_t (by simp; omega))) ?_)))))
    rw [List.drop_eq_getElem_cons hi, List.map_cons]
    exact ih
theorem first2 (a b : Int) : Ev (fun k => impl_firstOf.f k ([a, b] : List Int)) (if a ≠ 0 then a else b) := by
  have w0 : IntKind.i64.wrap (0 + 1) = 1 := by decide
  have w1 : IntKind.i64.wrap (1 + 1) = 2 := by decide
  have g0 : getI ([a, b] : List Int) 0 = some a := rfl
  have g1 : getI ([a, b] : List Int) 1 = some b := rfl
  have l2 : Ev (fun k => impl_firstOf.l1 ([a, b] : List Int) k 2) (.inr ()) := Ev.step (fun k => impl_firstOf.l1.eq_2 _ _ _) (Ev.neg (by simp) (Ev.const rfl))
  have l1 : Ev (fun k => impl_firstOf.l1 ([a, b] : List Int) k 1) (if b ≠ 0 then .inl b else .inr ()) := by
    refine Ev.step (fun k => impl_firstOf.l1.eq_2 _ _ _) (Ev.pos (by simp) (Ev.bind (Ev.const g1) ?_))
    rw [w1]
    by_cases hb : b ≠ 0
    · rw [if_pos hb]; exact Ev.pos hb (Ev.const rfl)
    · rw [if_neg hb]; exact Ev.neg hb l2
  have l0 : Ev (fun k => impl_firstOf.l1 ([a, b] : List Int) k 0) (if a ≠ 0 then .inl a else if b ≠ 0 then .inl b else .inr ()) := by
    refine Ev.step (fun k => impl_firstOf.l1.eq_2 _ _ _) (Ev.pos (by simp) (Ev.bind (Ev.const g0) ?_))
    rw [w0]
    by_cases ha : a ≠ 0
    · rw [if_pos ha]; exact Ev.pos ha (Ev.const rfl)
    · rw [if_neg ha]; exact Ev.neg ha l1
  refine Ev.bind l0 ?_
  by_cases ha : a ≠ 0
  · rw [if_pos ha, if_pos ha]; exact Ev.const rfl
  · rw [if_neg ha, if_neg ha]
    by_cases hb : b ≠ 0
    · rw [if_pos hb]; exact Ev.const rfl
    · have hb0 : b = 0 := by omega
      rw [if_neg hb, hb0]; exact Ev.const rfl
theorem meadowsOf_ev {p : Pasture} (v : VPasture p) (g : Int) : ∃ r : List Meadow × Int, r.1.length ≤ 6 ∧ Ev (fun k => spec_MeadowsOf.f k p g) r ∧ Ev (fun k => impl_MeadowsOf.f k p g) r := by
  have s1 := specOk_ev v
  have i1 := cellCode_ev v [] (by simp) (by simp)
  rw [cCode_nil] at i1
  have hgs : spec_l01Grass.f g = some (decide (0 ≤ g ∧ g ≤ 1000)) := by unfold spec_l01Grass.f; rw [l00In_eq]; rfl
  have f2 := fun a => first2 a (if decide (0 ≤ g ∧ g ≤ 1000) = true then 0 else 2)
  cases hp : vP p
  · rw [hp] at s1 i1
    exact ⟨([], 1), by simp, s1.bind (Ev.pos rfl (Ev.const rfl)), i1.bind (Ev.bind (Ev.const (within_eq _ _ _)) (Ev.bind (Ev.const (unless_eq _ _)) ((f2 1).bind (Ev.pos (by simp) (Ev.const rfl)))))⟩
  · rw [hp] at s1 i1
    by_cases hg : 0 ≤ g ∧ g ≤ 1000
    · obtain ⟨tab, met, ys, t, hy, hl, y1, y2⟩ := yards_ev v (vP_okW hp)
      have m1 := specMeadows_loop v hp g tab ys hy hl 0 (Nat.zero_le _) [] (by simp)
      have m2 := implMeadows_loop (vP_okW hp) g ys hy hl 0 (Nat.zero_le _) [] (by simp)
      rw [List.drop_zero, List.nil_append] at m1 m2
      have hd : decide (0 ≤ g ∧ g ≤ 1000) = true := decide_eq_true hg
      rw [hd] at hgs f2
      have ii : ∀ {r}, Ev (fun k => if (0 : Int) ≠ 0 then some (([] : List Meadow), (0 : Int)) else ((impl_Pasture_yards.f k p).bind fun t8 => (impl_MeadowsOf.l1 p g t8 k ([] : List Meadow) 0).bind fun y12 => if 6 < (y12.length : Int) then (some ([], 3)) else (some (y12, 0)))) r → Ev (fun k => impl_MeadowsOf.f k p g) r := fun {r} h =>
        i1.bind (Ev.bind (Ev.const (by rw [within_eq, hd])) (Ev.bind (Ev.const (unless_eq _ _)) ((f2 0).bind h)))
      by_cases h6 : 6 < ys.length
      · exact ⟨([], 3), by simp, s1.bind (Ev.neg (by simp) (Ev.bind (Ev.const hgs) (Ev.neg (by simp) (y1.bind (Ev.pos (by show (6 : Int) < (ys.length : Int); omega) (Ev.const rfl)))))), ii (Ev.neg (by simp) (y2.bind (m2.bind (Ev.pos (by rw [List.length_map]; omega) (Ev.const rfl)))))⟩
      · exact ⟨(ys.map (mOf p g), 0), by simp; omega, s1.bind (Ev.neg (by simp) (Ev.bind (Ev.const hgs) (Ev.neg (by simp) (y1.bind (Ev.neg (by show ¬ (6 : Int) < (ys.length : Int); omega) (m1.bind (Ev.const rfl))))))), ii (Ev.neg (by simp) (y2.bind (m2.bind (Ev.neg (by rw [List.length_map]; omega) (Ev.const rfl)))))⟩
    · have hd : decide (0 ≤ g ∧ g ≤ 1000) = false := decide_eq_false hg
      rw [hd] at hgs f2
      exact ⟨([], 2), by simp, s1.bind (Ev.neg (by simp) (Ev.bind (Ev.const hgs) (Ev.pos rfl (Ev.const rfl)))), i1.bind (Ev.bind (Ev.const (by rw [within_eq, hd])) (Ev.bind (Ev.const (unless_eq _ _)) ((f2 0).bind (Ev.pos (by simp) (Ev.const rfl)))))⟩
/-! ### Marks -/
theorem at_app {α : Type} {x : α} : ∀ (d r : List α), getI (d ++ x :: r) (d.length : Int) = some x := fun d r => by
  rw [getI_nat (by simp)]
  simp
theorem set_app1 {α : Type} {x y : α} : ∀ (d r : List α), (d ++ x :: r).set d.length y = d ++ y :: r
  | [], r => rfl
  | a :: d, r => by simp [set_app1 d r]
def mk3 (m : Int) : Meadow := (⟨IntKind.i16.wrap m, IntKind.i16.wrap (m + 1), IntKind.i16.wrap (m + 2)⟩ : Meadow)
def mkS : Int → Nat → List Meadow
  | _, 0 => []
  | m, n + 1 => mk3 m :: mkS (m + 3) n
theorem mark3_loop (a0 : List Meadow) (ha : a0.length ≤ 1048576) : ∀ (rest done : List Meadow) (m : Int), done.length + rest.length = a0.length → 0 ≤ m → m + 3 * rest.length ≤ 4294967296 → Ev (fun k => laws_markMeadowS.l1 a0 k (done ++ rest) m (done.length : Int)) (done ++ mkS m rest.length, m + 3 * rest.length)
  | [], done, m, hl, h0, h1 => by
    refine Ev.step (fun k => laws_markMeadowS.l1.eq_2 _ _ _ _ _) (Ev.neg ?_ (Ev.const ?_))
    · simp at hl; omega
    · simp [mkS]
  | x :: rest, done, m, hl, h0, h1 => by
    rw [List.length_cons] at h1
    have ih := mark3_loop a0 ha rest (done ++ [mk3 m]) (m + 3) (by simp at hl ⊢; omega) (by omega) (by omega)
    have e : (done ++ [mk3 m]).length = done.length + 1 := by simp
    rw [e, List.append_assoc, List.append_assoc] at ih
    rw [← wsucc (n := a0.length) (by simp at hl; omega) (by omega)] at ih
    refine Ev.step (fun k => laws_markMeadowS.l1.eq_2 _ _ _ _ _) (Ev.pos (by simp at hl; omega) (Ev.bind (Ev.const (at_app _ _)) ?_))
    simp only [Int.toNat_natCast, set_app1]
    refine Ev.bind (Ev.const (at_app _ _)) ?_
    simp only [set_app1]
    refine Ev.bind (Ev.const (at_app _ _)) ?_
    rw [w64 (x := m + 1) (by omega) (by omega), w64 (x := m + 1 + 1) (by omega) (by omega), w64 (x := m + 1 + 1 + 1) (by omega) (by omega)]
    simp only [set_app1]
    rw [show m + 1 + 1 + 1 = m + 3 by omega, show m + 1 + 1 = m + 2 by omega]
    have e2 : m + 3 * ((rest.length + 1 : Nat) : Int) = m + 3 + 3 * rest.length := by omega
    show Ev _ (done ++ mkS m (rest.length + 1), m + 3 * ((rest.length + 1 : Nat) : Int))
    rw [e2]
    exact ih
theorem mark3_ev (xs : List Meadow) (hx : xs.length ≤ 1048576) : Ev (fun k => laws_markMeadowS.f k xs 1) (1 + 3 * xs.length, mkS 1 xs.length) := by
  have h := mark3_loop xs hx xs [] 1 (by simp) (by omega) (by omega)
  exact h.bind (Ev.const rfl)
theorem held3_loop (a0 : List Meadow) (ha : a0.length ≤ 1048576) : ∀ (n : Nat) (done : List Meadow) (m : Int), a0 = done ++ mkS m n → 0 ≤ m → m + 3 * n ≤ 4294967296 → Ev (fun k => laws_heldMeadowS.l1 a0 k m (done.length : Int)) (.inr (m + 3 * n))
  | 0, done, m, e, h0, h1 => by
    subst e
    refine Ev.step (fun k => laws_heldMeadowS.l1.eq_2 _ _ _ _) (Ev.neg ?_ (Ev.const ?_))
    · simp [mkS]
    · simp
  | n + 1, done, m, e, h0, h1 => by
    have ih := held3_loop a0 ha n (done ++ [mk3 m]) (m + 3) (by rw [e]; simp [mkS]) (by omega) (by omega)
    have el : (done ++ [mk3 m]).length = done.length + 1 := by simp
    have hl : done.length < a0.length := by rw [e]; simp [mkS]
    rw [el, ← wsucc hl (by omega)] at ih
    have e2 : m + 3 * ((n + 1 : Nat) : Int) = m + 3 + 3 * n := by omega
    rw [e2]
    have hg : getI a0 (done.length : Int) = some (mk3 m) := by rw [e]; exact at_app _ _
    refine Ev.step (fun k => laws_heldMeadowS.l1.eq_2 _ _ _ _) (Ev.pos (by omega) (Ev.bind (Ev.const hg) ?_))
    rw [w64 (x := m + 1) (by omega) (by omega), w64 (x := m + 1 + 1) (by omega) (by omega), w64 (x := m + 1 + 1 + 1) (by omega) (by omega)]
    rw [show m + 1 + 1 + 1 = m + 3 by omega, show m + 1 + 1 = m + 2 by omega]
    exact Ev.neg (by simp [mk3]) (Ev.bind (Ev.const hg) (Ev.neg (by simp [mk3]) (Ev.bind (Ev.const hg) (Ev.neg (by simp [mk3]) ih))))
theorem held3_ev (n : Nat) (hn : n ≤ 1048576) : Ev (fun k => laws_heldMeadowS.f k (mkS 1 n) 1) (1 + 3 * n) := by
  have hl : ∀ (n : Nat) (m : Int), (mkS m n).length = n := by
    intro n
    induction n with
    | zero => intro m; rfl
    | succ n ih => intro m; simp [mkS, ih]
  have h := held3_loop (mkS 1 n) (by rw [hl]; exact hn) n [] 1 (by simp) (by omega) (by omega)
  exact Ev.bind h (Ev.const rfl)
theorem sameM_ev (g : List Meadow) (c : Int) (hg : g.length ≤ 1048576) : Ev (fun k => (laws_eqMeadowS.f k g g).bind fun t25 => if (!t25) = true then some true else some (decide (c ≠ c))) false := by
  have he := laws_eqMeadowS_ev g g (by omega)
  rw [decide_eq_true rfl] at he
  exact he.bind (Ev.neg (by simp) (Ev.const (by simp)))
theorem FnExactMeadowsOf.pure (x0 : Pasture) (hv0 : VPasture x0) (x1 : Int) (hv1 : inI .i64 x1) : ∃ k, laws_FnExactMeadowsOf.f k x0 x1 = some true := by
  refine Ev.get (r := true) ?_
  have ht := laws_toPasture_ev x0
  obtain ⟨⟨g, c⟩, hl, h1, h2⟩ := meadowsOf_ev hv0 x1
  have hl : g.length ≤ 6 := hl
  have hq := sameM_ev g c (by omega)
  have hk := mark3_ev g (by omega)
  have hd := held3_ev g.length (by omega)
  exact ht.bind (h1.bind (ht.bind (h2.bind (Ev.bind hq (Ev.neg (by simp) (hk.bind (hd.bind (Ev.neg (by omega) (Ev.neg (by simp) (ht.bind (h2.bind (Ev.bind hq (Ev.neg (by simp) (hd.bind (Ev.neg (by omega) (Ev.neg (by simp) (Ev.const rfl)))))))))))))))))
end Go.Proofs.Ytlmfhjjhgiobdaa
