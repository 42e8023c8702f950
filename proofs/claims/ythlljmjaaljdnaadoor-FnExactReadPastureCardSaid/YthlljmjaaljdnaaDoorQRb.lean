/-
  Plain laws: a pasture that is read: rows, what the cells tell.
-/
import Derived.Test.YthlljmjaaljdnaaDoorQRa
import Derived.Test.YthlljmjaaljdnaaDoorQCr
namespace Go.Proofs.YthlljmjaaljdnaaDoor
open G
set_option linter.unusedVariables false
set_option linter.unusedSimpArgs false
/-! ### What the cells tell -/
def celT (P : Pasture) (y j : Nat) : Cell := ⟨(gG P y j).toNat, bitN (gA P.East y) j, bitN (gA P.South y) j⟩
def goodP (P : Pasture) : Prop := (∀ y, y < 10 → in16 (gA P.East y) ∧ in16 (gA P.South y)) ∧ ∀ y x, y < 10 → x < 10 → 0 ≤ gG P y x ∧ gG P y x ≤ 1000
def clean (P : Pasture) (y x : Nat) : Prop := ∀ j, x ≤ j → j < 16 → bitN (gA P.East y) j = false ∧ bitN (gA P.South y) j = false
theorem orB_get (a : Arr 10 Int) {y : Nat} (hy : y < 10) (x : Nat) (on : Bool) (y' : Nat) : gA (orB a y x on) y' = if y = y' ∧ on = true then orI .u16 (gA a y) (shlI .u16 1 (x : Int)) else gA a y' := by
  unfold orB
  cases on
  · simp
  · rw [if_pos rfl, gA_set _ hy]
    by_cases h : y = y' <;> simp [h]
theorem setG_get (P : Pasture) {y x : Nat} (hy : y < 10) (hx : x < 10) (n : Nat) (y' x' : Nat) : gA (gR (setG P y x n) y') x' = if y = y' ∧ x = x' then (n : Int) else gG P y' x' := by
  unfold setG gG
  rw [gR_set _ hy]
  by_cases h1 : y = y'
  · subst h1
    rw [if_pos rfl, gA_set _ hx]
    by_cases h2 : x = x' <;> simp [h2]
  · rw [if_neg h1, if_neg (fun h => h1 h.1)]
theorem newB_get (a : Arr 10 Int) {y : Nat} (hy : y < 10) (x : Nat) (on : Bool) (y' : Nat) : gA (newB a y x on) y' = if y = y' then (if on = true then orI .u16 (andNotI .u16 (gA a y) (shlI .u16 1 (x : Int))) (shlI .u16 1 (x : Int)) else andNotI .u16 (gA a y) (shlI .u16 1 (x : Int))) else gA a y' := by
  unfold newB
  rw [gA_set _ hy]
theorem andNot_same {m : Int} {x : Nat} (hm : in16 m) (hx : x < 16) (h : bitN m x = false) : andNotI .u16 m (shlI .u16 1 (x : Int)) = m := by
  refine bits_eq (andNot_in _ _) hm fun j hj => ?_
  rw [andNot_bit hm (one_in hx) hj, one_bitN hx hj]
  by_cases e : x = j
  · subst e; rw [h]; rfl
  · rw [decide_eq_false e]; simp
theorem newB_orB (a : Arr 10 Int) {y x : Nat} (hy : y < 10) (hx : x < 16) (on : Bool) (hm : in16 (gA a y)) (h : bitN (gA a y) x = false) : newB a y x on = orB a y x on := by
  unfold newB orB
  rw [andNot_same hm hx h]
  cases on
  · simp only [if_neg (show ¬ (false = true) by simp)]
    exact aset_self a hy
  · rfl
theorem orB_bit (a : Arr 10 Int) {y x : Nat} (hy : y < 10) (hx : x < 10) (on : Bool) (y' : Nat) (hm : in16 (gA a y)) {j : Nat} (hj : j < 16) : bitN (gA (orB a y x on) y') j = if y = y' ∧ on = true then (bitN (gA a y) j || decide (x = j)) else bitN (gA a y') j := by
  rw [orB_get a hy]
  split
  · rw [orI_bit hm (one_in (by omega)) hj, one_bitN (by omega) hj]
  · rfl
theorem orB_in (a : Arr 10 Int) {y x : Nat} (hy : y < 10) (on : Bool) (h : ∀ y, y < 10 → in16 (gA a y)) : ∀ y', y' < 10 → in16 (gA (orB a y x on) y') := by
  intro y' hy'
  rw [orB_get a hy]
  split
  · exact or_in _ _
  · exact h y' hy'
theorem cell_eq (c d : Cell) (h1 : c.n = d.n) (h2 : c.e = d.e) (h3 : c.s = d.s) : c = d := by
  cases c; cases d
  simp at h1 h2 h3
  subst h1 h2 h3; rfl
theorem cellS_facts {P : Pasture} {y x : Nat} (hy : y < 10) (hx : x < 10) (g : goodP P) (hc : clean P y x) {c : Cell} (hn : c.n ≤ 1000) : goodP (cellS P y x c) ∧ clean (cellS P y x c) y (x + 1) ∧ (∀ y' j, y' < 10 → j < 10 → (y' ≠ y ∨ j ≠ x) → celT (cellS P y x c) y' j = celT P y' j) ∧ celT (cellS P y x c) y x = c ∧ ∀ y', y' < 10 → y' ≠ y → clean P y' 0 → clean (cellS P y x c) y' 0 := by
  obtain ⟨g1, g2⟩ := g
  have hE := (g1 y hy).1
  have hS := (g1 y hy).2
  refine ⟨⟨fun y' hy' => ⟨orB_in P.East hy c.e (fun y h => (g1 y h).1) y' hy', orB_in P.South hy c.s (fun y h => (g1 y h).2) y' hy'⟩, fun y' x' hy' hx' => ?_⟩, fun j h1 h2 => ?_, fun y' j hy' hj hne => ?_, ?_, fun y' hy' hne hcl j h1 h2 => ?_⟩
  · show 0 ≤ gA (gR (setG P y x c.n) y') x' ∧ gA (gR (setG P y x c.n) y') x' ≤ 1000
    rw [setG_get P hy hx]
    split
    · omega
    · exact g2 y' x' hy' hx'
  · obtain ⟨a, b⟩ := hc j (by omega) h2
    refine ⟨?_, ?_⟩
    · show bitN (gA (orB P.East y x c.e) y) j = false
      rw [orB_bit _ hy hx _ _ hE h2, a]
      split
      · simp; omega
      · rfl
    · show bitN (gA (orB P.South y x c.s) y) j = false
      rw [orB_bit _ hy hx _ _ hS h2, b]
      split
      · simp; omega
      · rfl
  · refine cell_eq _ _ ?_ ?_ ?_
    · show (gA (gR (setG P y x c.n) y') j).toNat = _
      rw [setG_get P hy hx, if_neg (by omega)]; rfl
    · show bitN (gA (orB P.East y x c.e) y') j = bitN (gA P.East y') j
      rw [orB_bit _ hy hx _ _ hE (by omega)]
      split
      · rename_i h
        rw [h.1] at hne ⊢
        rw [decide_eq_false (by omega), Bool.or_false]
      · rfl
    · show bitN (gA (orB P.South y x c.s) y') j = bitN (gA P.South y') j
      rw [orB_bit _ hy hx _ _ hS (by omega)]
      split
      · rename_i h
        rw [h.1] at hne ⊢
        rw [decide_eq_false (by omega), Bool.or_false]
      · rfl
  · obtain ⟨a, b⟩ := hc x (Nat.le_refl _) (by omega)
    refine cell_eq _ _ ?_ ?_ ?_
    · show (gA (gR (setG P y x c.n) y) x).toNat = _
      rw [setG_get P hy hx, if_pos ⟨rfl, rfl⟩]; omega
    · show bitN (gA (orB P.East y x c.e) y) x = c.e
      rw [orB_bit _ hy hx _ _ hE (by omega), a]
      cases c.e <;> simp
    · show bitN (gA (orB P.South y x c.s) y) x = c.s
      rw [orB_bit _ hy hx _ _ hS (by omega), b]
      cases c.s <;> simp
  · obtain ⟨a, b⟩ := hcl j h1 h2
    refine ⟨?_, ?_⟩
    · show bitN (gA (orB P.East y x c.e) y') j = false
      rw [orB_bit _ hy hx _ _ hE h2, if_neg (fun h => hne h.1.symm), a]
    · show bitN (gA (orB P.South y x c.s) y') j = false
      rw [orB_bit _ hy hx _ _ hS h2, if_neg (fun h => hne h.1.symm), b]
theorem fillR_dims : ∀ (cs : List Cell) (P : Pasture) (y x : Nat), (fillR P y x cs).Wide = P.Wide ∧ (fillR P y x cs).High = P.High
  | [], P, y, x => ⟨rfl, rfl⟩
  | c :: cs, P, y, x => fillR_dims cs (cellS P y x c) y (x + 1)
theorem fillR_facts {y : Nat} (hy : y < 10) : ∀ (cs : List Cell) (P : Pasture) (x : Nat), x + cs.length ≤ 10 → goodP P → clean P y x → (∀ c ∈ cs, c.n ≤ 1000) →
    goodP (fillR P y x cs) ∧ (∀ y' j, y' < 10 → j < 10 → (y' ≠ y ∨ j < x) → celT (fillR P y x cs) y' j = celT P y' j) ∧ ((List.range' x cs.length).map (celT (fillR P y x cs) y) = cs) ∧ ∀ y', y' < 10 → y' ≠ y → clean P y' 0 → clean (fillR P y x cs) y' 0
  | [], P, x, hl, g, hc, hn => ⟨g, fun _ _ _ _ _ => rfl, rfl, fun _ _ _ h => h⟩
  | c :: cs, P, x, hl, g, hc, hn => by
    rw [List.length_cons] at hl
    obtain ⟨a1, a2, a3, a4, a5⟩ := cellS_facts hy (show x < 10 by omega) g hc (hn c (by simp))
    obtain ⟨b1, b2, b3, b4⟩ := fillR_facts hy cs (cellS P y x c) (x + 1) (by omega) a1 a2 fun z hz => hn z (List.mem_cons_of_mem _ hz)
    refine ⟨b1, fun y' j h1 h2 h3 => ?_, ?_, fun y' h1 h2 h3 => b4 y' h1 h2 (a5 y' h1 h2 h3)⟩
    · show celT (fillR (cellS P y x c) y (x + 1) cs) y' j = _
      rw [b2 y' j h1 h2 (by omega), a3 y' j h1 h2 (by omega)]
    · show (List.range' x (cs.length + 1)).map (celT (fillR (cellS P y x c) y (x + 1) cs) y) = _
      rw [List.range'_succ, List.map_cons, b3, b2 y x hy (by omega) (.inr (by omega)), a4]
theorem implRow_eq {W y : Nat} (hy : y < 10) (hW : W ≤ 10) : ∀ (ws : List (List UInt8)) (cs : List Cell) (P : Pasture) (x : Nat), rowP ws = some cs → x + ws.length ≤ W → goodP P → clean P y x → implRow W P y x ws = some (fillR P y x cs)
  | [], cs, P, x, h, _, _, _ => by
    have h := Option.some.inj h
    subst h; rfl
  | w :: ws, cs, P, x, h, hl, g, hc => by
    rw [List.length_cons] at hl
    unfold rowP at h
    cases hw : word? w with
    | none => rw [hw] at h; cases h
    | some c =>
      rw [hw] at h
      cases hs : rowP ws with
      | none => rw [hs] at h; cases h
      | some ys =>
        rw [hs] at h
        have h := Option.some.inj h
        subst h
        have hn := (word_some hw).2
        obtain ⟨a1, a2, _⟩ := cellS_facts hy (show x < 10 by omega) g hc hn
        obtain ⟨b1, b2⟩ := hc x (Nat.le_refl _) (by omega)
        have e : cellI P y x c = cellS P y x c := by
          unfold cellI cellS
          rw [newB_orB P.East hy (by omega) c.e (g.1 y hy).1 b1, newB_orB P.South hy (by omega) c.s (g.1 y hy).2 b2]
        rw [implRow, hw]
        simp only
        rw [if_neg (by omega), e]
        exact implRow_eq hy hW ws ys _ _ hs (by omega) a1 a2
theorem cellI_good {P : Pasture} {y x : Nat} (hy : y < 10) (hx : x < 10) (g : goodP P) {c : Cell} (hn : c.n ≤ 1000) : goodP (cellI P y x c) := by
  obtain ⟨g1, g2⟩ := g
  refine ⟨fun y' hy' => ⟨?_, ?_⟩, fun y' x' hy' hx' => ?_⟩
  · show in16 (gA (newB P.East y x c.e) y')
    rw [newB_get _ hy]
    split
    · split
      · exact or_in _ _
      · exact andNot_in _ _
    · exact (g1 y' hy').1
  · show in16 (gA (newB P.South y x c.s) y')
    rw [newB_get _ hy]
    split
    · split
      · exact or_in _ _
      · exact andNot_in _ _
    · exact (g1 y' hy').2
  · show 0 ≤ gA (gR (setG P y x c.n) y') x' ∧ gA (gR (setG P y x c.n) y') x' ≤ 1000
    rw [setG_get P hy hx]
    split
    · omega
    · exact g2 y' x' hy' hx'
theorem implRow_some {W y : Nat} (hy : y < 10) (hW : W ≤ 10) : ∀ (ws : List (List UInt8)) (P P' : Pasture) (x : Nat), goodP P → implRow W P y x ws = some P' → goodP P' ∧ P'.Wide = P.Wide ∧ P'.High = P.High ∧ ∃ cs, rowP ws = some cs
  | [], P, P', x, g, h => by
    have h := Option.some.inj h
    subst h
    exact ⟨g, rfl, rfl, [], rfl⟩
  | w :: ws, P, P', x, g, h => by
    rw [implRow] at h
    cases hw : word? w with
    | none => rw [hw] at h; cases h
    | some c =>
      rw [hw] at h
      simp only at h
      split at h
      · cases h
      · rename_i hx
        obtain ⟨a, b, d, cs, e⟩ := implRow_some hy hW ws _ _ _ (cellI_good hy (by omega) g (word_some hw).2) h
        exact ⟨a, b, d, c :: cs, by rw [rowP, hw, e]; rfl⟩
/-! ### All rows -/
def wideP (P : Pasture) (n : Nat) : Pasture := (⟨(n : Int), P.High, P.Grass, P.East, P.South⟩ : Pasture)
def specRows : Pasture → Nat → List (List UInt8) → Option Pasture
  | P, y, [] => some P
  | P, y, l :: ls => if 10 < (spl 32 l).length ∨ (0 < y ∧ (((spl 32 l).length : Nat) : Int) ≠ P.Wide) then none else match specRow (wideP P (spl 32 l).length) y 0 (spl 32 l) with
    | none => none
    | some P' => specRows P' (y + 1) ls
def implRows (W : Nat) : Pasture → Nat → List (List UInt8) → Option Pasture
  | P, y, [] => some P
  | P, y, l :: ls => match implRow W P y 0 (spl 32 l) with
    | none => none
    | some P' => implRows W P' (y + 1) ls
def outL (o : Option Pasture) : (Pasture × Int) ⊕ Pasture := match o with
  | none => Sum.inl (zeroP, 5)
  | some P => Sum.inr P
theorem specRow_wide {P P' : Pasture} {y x : Nat} {ws : List (List UInt8)} (h : specRow P y x ws = some P') : P'.Wide = P.Wide ∧ P'.High = P.High := by
  unfold specRow at h
  cases hr : rowP ws with
  | none => rw [hr] at h; cases h
  | some cs =>
    rw [hr] at h
    have h := Option.some.inj h
    subst h
    exact fillR_dims cs P y x
theorem specRows_ev (L : List (List UInt8)) {H : Nat} (hH : H ≤ 10) (hL : L.length = H + 1) (hs : ∀ l ∈ L, l.length ≤ 1048576) : ∀ y, y ≤ H → ∀ P : Pasture, 0 ≤ P.Wide → P.Wide ≤ 10 → Ev (fun k => spec_ReadPasture.l1 (L.map toB) k P (y : Int)) (outL (specRows P y ((L.take H).drop y))) := by
  have hb : IntKind.i64.wrap (((L.map toB).length : Int) - 1) = (H : Int) := by rw [List.length_map, hL, w64 (by omega) (by omega)]; omega
  have hlt : (L.take H).length = H := by rw [List.length_take]; omega
  refine upL ?_ ?_
  · intro P h0 h1
    rw [show (L.take H).drop H = [] from List.drop_of_length_le (by omega)]
    exact Ev.step (fun k => spec_ReadPasture.l1.eq_2 _ _ _ _) (Ev.neg (by rw [hb]; omega) (Ev.const rfl))
  · intro y hy ih P h0 h1
    have hyL : y < L.length := by omega
    rw [List.drop_eq_getElem_cons (by omega), List.getElem_take]
    have hz := hs _ (List.getElem_mem hyL)
    have hg := getM L hyL
    generalize L[y] = l at hz hg ⊢
    have sp := specSplit_ev (toB l) 32 (by rw [toB_size]; exact hz)
    rw [toB_list] at sp
    have sl := spl_len 32 l
    have hln : (((spl 32 l).map toB).length : Int) = (((spl 32 l).length : Nat) : Int) := by rw [List.length_map]
    have hc : Ev (fun k => (if 10 < (((spl 32 l).map toB).length : Int) then (some true) else (if 0 < (y : Int) then (some (decide ((((spl 32 l).map toB).length : Int) ≠ (IntKind.i64.wrap P.Wide)))) else (some false)))) (decide (10 < (spl 32 l).length ∨ (0 < y ∧ (((spl 32 l).length : Nat) : Int) ≠ P.Wide))) := by
      rw [hln, w64 (show -9223372036854775808 ≤ P.Wide by omega) (by omega)]
      by_cases h10 : 10 < (spl 32 l).length
      · exact Ev.pos (by omega) (Ev.const (by rw [decide_eq_true (.inl h10)]))
      · refine Ev.neg (by omega) ?_
        by_cases hy0 : 0 < y
        · refine Ev.pos (by omega) (Ev.const ?_)
          congr 1
          rw [decide_eq_decide]
          omega
        · exact Ev.neg (by omega) (Ev.const (by rw [decide_eq_false (by omega)]))
    refine Ev.step (fun k => spec_ReadPasture.l1.eq_2 _ _ _ _) (Ev.pos (by rw [hb]; omega) ?_)
    rw [specRows]
    by_cases hbad : 10 < (spl 32 l).length ∨ (0 < y ∧ (((spl 32 l).length : Nat) : Int) ≠ P.Wide)
    · rw [if_pos hbad]
      rw [decide_eq_true hbad] at hc
      exact Ev.bind (Ev.bind (Ev.const hg) (Ev.bind sp (Ev.bind hc (Ev.pos rfl (Ev.const rfl))))) (Ev.const rfl)
    · rw [if_neg hbad]
      rw [decide_eq_false hbad] at hc
      have hr := specRow_ev (show y < 10 by omega) (spl 32 l) (by omega) (fun w hw => by have := sl w hw; omega) 0 (Nat.zero_le _) (wideP P (spl 32 l).length)
      rw [List.drop_zero] at hr
      have ew : (⟨IntKind.i8.wrap ((((spl 32 l).map toB).length : Nat) : Int), P.High, P.Grass, P.East, P.South⟩ : Pasture) = wideP P (spl 32 l).length := by
        unfold wideP
        rw [List.length_map, wi8 (by omega)]
      cases e : specRow (wideP P (spl 32 l).length) y 0 (spl 32 l) with
      | none =>
        rw [e] at hr
        exact Ev.bind (a := Sum.inl (Sum.inl (zeroP, 5))) (Ev.bind (Ev.const hg) (Ev.bind sp (Ev.bind hc (Ev.neg (by simp) (Ev.bind (by rw [ew]; exact hr) (Ev.const rfl)))))) (Ev.const rfl)
      | some P' =>
        rw [e] at hr
        obtain ⟨d1, d2⟩ := specRow_wide e
        have hw' : P'.Wide = ((spl 32 l).length : Int) := d1
        have ih := ih P' (by omega) (by omega)
        rw [← wsucc (n := L.length) hyL (by omega)] at ih
        exact Ev.bind (a := Sum.inr P') (Ev.bind (Ev.const hg) (Ev.bind sp (Ev.bind hc (Ev.neg (by simp) (Ev.bind (by rw [ew]; exact hr) (Ev.const rfl)))))) ih
theorem split_eq (l : List UInt8) (c : UInt8) (hl : l.length ≤ 1048576) : strings_Split.f (toB l) (⟨#[c]⟩ : ByteArray) = some ((spl c l).map toB) := by
  unfold strings_Split.f
  rw [chkX ⟨by rw [toB_size]; omega, Nat.le_refl _⟩, Option.bind_some, split_spl, toB_list]
theorem implRows_ev (L : List (List UInt8)) {H W : Nat} (hH : H ≤ 10) (hL : H ≤ L.length) (hW : W ≤ 10) (hs : ∀ l ∈ L, l.length ≤ 1048576) (q : Pasture × Int) (hq : q.1.High = (H : Int)) : ∀ y, y ≤ H → ∀ P : Pasture, P.Wide = (W : Int) → goodP P → Ev (fun k => impl_ReadPasture.l1 (L.map toB) q k P (y : Int)) (outL (implRows W P y ((L.take H).drop y))) := by
  have hlt : (L.take H).length = H := by rw [List.length_take]; omega
  have hll : ((L.map toB).drop 0).take (q.1.High.toNat - 0) = (L.take H).map toB := by
    rw [List.drop_zero, hq, Int.toNat_natCast, Nat.sub_zero, List.map_take]
  refine upL ?_ ?_
  · intro P hP g
    rw [show (L.take H).drop H = [] from List.drop_of_length_le (by omega)]
    refine Ev.step (fun k => impl_ReadPasture.l1.eq_2 _ _ _ _ _) ?_
    rw [hll]
    exact Ev.neg (by rw [List.length_map, hlt]; omega) (Ev.const rfl)
  · intro y hy ih P hP g
    have hyL : y < L.length := by omega
    refine Ev.step (fun k => impl_ReadPasture.l1.eq_2 _ _ _ _ _) ?_
    rw [hll]
    have hg := getM (L.take H) (show y < (L.take H).length by omega)
    rw [List.drop_eq_getElem_cons (show y < (L.take H).length by omega)]
    have hz : ((L.take H)[y]'(by omega)).length ≤ 1048576 := by rw [List.getElem_take]; exact hs _ (List.getElem_mem hyL)
    generalize (L.take H)[y]'(by omega) = l at hz hg ⊢
    have sl := spl_len 32 l
    have sc := spl_count 32 l
    have sp := split_eq l 32 hz
    have hr := implRow_ev (show y < 10 by omega) hW (spl 32 l) (by omega) (fun w hw => by have := sl w hw; omega) 0 (Nat.zero_le _) P hP
    rw [List.drop_zero] at hr
    refine Ev.pos (by rw [List.length_map, hlt]; omega) ?_
    rw [implRows]
    cases e : implRow W P y 0 (spl 32 l) with
    | none =>
      rw [e] at hr
      exact Ev.bind (Ev.bind (Ev.const hg) (Ev.bind (Ev.const sp) (Ev.bind hr (Ev.const rfl)))) (Ev.const rfl)
    | some P' =>
      rw [e] at hr
      obtain ⟨a, b, d, _⟩ := implRow_some (show y < 10 by omega) hW _ _ _ _ g e
      have ih := ih P' (by rw [b]; exact hP) a
      rw [← wsucc (n := H) hy (by omega)] at ih
      exact Ev.bind (Ev.bind (Ev.const hg) (Ev.bind (Ev.const sp) (Ev.bind hr (Ev.const rfl)))) ih
end Go.Proofs.YthlljmjaaljdnaaDoor
