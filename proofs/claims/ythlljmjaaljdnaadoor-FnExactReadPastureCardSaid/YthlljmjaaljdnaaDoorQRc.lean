/-
  Plain laws: a pasture that is read: all rows; its text.
-/
import Derived.Test.YthlljmjaaljdnaaDoorQRb
namespace Go.Proofs.YthlljmjaaljdnaaDoor
open G
set_option linter.unusedVariables false
set_option linter.unusedSimpArgs false
/-! ### All rows -/
theorem specRow_parse {P P' : Pasture} {y x : Nat} {ws : List (List UInt8)} (h : specRow P y x ws = some P') : ∃ cs, rowP ws = some cs := by
  unfold specRow at h
  cases hr : rowP ws with
  | none => rw [hr] at h; cases h
  | some cs => exact ⟨cs, rfl⟩
theorem specRows_some : ∀ (ls : List (List UInt8)) (P P' : Pasture) (y : Nat), 0 < y → specRows P y ls = some P' → ∀ l ∈ ls, (∃ cs, rowP (spl 32 l) = some cs) ∧ (((spl 32 l).length : Nat) : Int) = P.Wide
  | [], P, P', y, _, _ => by simp
  | l :: ls, P, P', y, hy, h => by
    rw [specRows] at h
    split at h
    · cases h
    · rename_i hb
      cases e : specRow (wideP P (spl 32 l).length) y 0 (spl 32 l) with
      | none => rw [e] at h; cases h
      | some P1 =>
        rw [e] at h
        have hw : P1.Wide = (((spl 32 l).length : Nat) : Int) := (specRow_wide e).1
        have hl : (((spl 32 l).length : Nat) : Int) = P.Wide := Classical.byContradiction fun hne => hb (.inr ⟨hy, hne⟩)
        have ih := specRows_some ls P1 P' (y + 1) (by omega) h
        intro z hz
        rcases List.mem_cons.1 hz with rfl | hz
        · exact ⟨specRow_parse e, hl⟩
        · have := ih z hz
          exact ⟨this.1, by rw [this.2, hw, hl]⟩
theorem specRows_first {l : List UInt8} {ls : List (List UInt8)} {P P' : Pasture} (h : specRows P 0 (l :: ls) = some P') : (spl 32 l).length ≤ 10 ∧ ∀ z ∈ l :: ls, (∃ cs, rowP (spl 32 z) = some cs) ∧ (spl 32 z).length = (spl 32 l).length := by
  rw [specRows] at h
  split at h
  · cases h
  · rename_i hb
    cases e : specRow (wideP P (spl 32 l).length) 0 0 (spl 32 l) with
    | none => rw [e] at h; cases h
    | some P1 =>
      rw [e] at h
      have hw : P1.Wide = (((spl 32 l).length : Nat) : Int) := (specRow_wide e).1
      have ih := specRows_some ls P1 P' 1 (by omega) h
      refine ⟨Classical.byContradiction fun hn => hb (.inl (by omega)), fun z hz => ?_⟩
      rcases List.mem_cons.1 hz with rfl | hz
      · exact ⟨specRow_parse e, rfl⟩
      · have := ih z hz
        exact ⟨this.1, by have h2 := this.2; rw [hw] at h2; omega⟩
theorem implRows_some {W : Nat} (hW : W ≤ 10) : ∀ (ls : List (List UInt8)) (P P' : Pasture) (y : Nat), goodP P → y + ls.length ≤ 10 → implRows W P y ls = some P' → goodP P' ∧ P'.Wide = P.Wide ∧ P'.High = P.High ∧ ∀ l ∈ ls, ∃ cs, rowP (spl 32 l) = some cs
  | [], P, P', y, g, _, h => by
    have h := Option.some.inj h
    subst h
    exact ⟨g, rfl, rfl, by simp⟩
  | l :: ls, P, P', y, g, hl, h => by
    rw [List.length_cons] at hl
    rw [implRows] at h
    cases e : implRow W P y 0 (spl 32 l) with
    | none => rw [e] at h; cases h
    | some P1 =>
      rw [e] at h
      obtain ⟨a, b, c, d⟩ := implRow_some (show y < 10 by omega) hW _ _ _ _ g e
      obtain ⟨a2, b2, c2, d2⟩ := implRows_some hW ls P1 P' (y + 1) a (by omega) h
      refine ⟨a2, b2.trans b, c2.trans c, fun z hz => ?_⟩
      rcases List.mem_cons.1 hz with rfl | hz
      · exact d
      · exact d2 z hz
def rowT (P : Pasture) (y W : Nat) : List (List UInt8) := (List.range' 0 W).map fun j => wordT (celT P y j)
theorem wideP_same {P : Pasture} {W : Nat} (h : P.Wide = (W : Int)) : wideP P W = P := by
  unfold wideP
  rw [← h]
theorem rows_both {W : Nat} (hW : W ≤ 10) : ∀ (ls : List (List UInt8)) (P : Pasture) (y : Nat), P.Wide = (W : Int) → y + ls.length ≤ 10 → goodP P → (∀ y', y ≤ y' → y' < 10 → clean P y' 0) → (∀ l ∈ ls, (∃ cs, rowP (spl 32 l) = some cs) ∧ (spl 32 l).length = W) →
    ∃ Q : Pasture, specRows P y ls = some Q ∧ implRows W P y ls = some Q ∧ goodP Q ∧ Q.Wide = P.Wide ∧ Q.High = P.High ∧ (∀ y' j, y' < y → j < 10 → celT Q y' j = celT P y' j) ∧ ∀ i (h : i < ls.length), rowT Q (y + i) W = spl 32 ls[i]
  | [], P, y, _, _, g, _, _ => ⟨P, rfl, rfl, g, rfl, rfl, fun _ _ _ _ => rfl, fun i h => by simp at h⟩
  | l :: ls, P, y, hP, hl, g, hc, hr => by
    rw [List.length_cons] at hl
    obtain ⟨⟨cs, hcs⟩, hlen⟩ := hr l (by simp)
    obtain ⟨hw, hn⟩ := rowP_some hcs
    have hcl : cs.length = W := by rw [← hlen, hw, List.length_map]
    have hy : y < 10 := by omega
    obtain ⟨f1, f2, f3, f4⟩ := fillR_facts hy cs P 0 (by omega) g (hc y (Nat.le_refl _) hy) hn
    obtain ⟨d1, d2⟩ := fillR_dims cs P y 0
    have e1 : specRow (wideP P (spl 32 l).length) y 0 (spl 32 l) = some (fillR P y 0 cs) := by
      rw [hlen, wideP_same hP]
      unfold specRow
      rw [hcs]; rfl
    have e2 : implRow W P y 0 (spl 32 l) = some (fillR P y 0 cs) := implRow_eq hy hW _ _ _ _ hcs (by omega) g (hc y (Nat.le_refl _) hy)
    obtain ⟨Q, q1, q2, q3, q4, q5, q6, q7⟩ := rows_both hW ls (fillR P y 0 cs) (y + 1) (d1.trans hP) (by omega) f1 (fun y' h1 h2 => f4 y' h2 (by omega) (hc y' (by omega) h2)) fun z hz => hr z (List.mem_cons_of_mem _ hz)
    refine ⟨Q, ?_, ?_, q3, q4.trans d1, q5.trans d2, fun y' j h1 h2 => ?_, fun i h => ?_⟩
    · rw [specRows, if_neg (by rw [hlen, hP]; omega), e1]; exact q1
    · rw [implRows, e2]; exact q2
    · rw [q6 y' j (by omega) h2, f2 y' j (by omega) h2 (.inl (by omega))]
    · cases i with
      | zero =>
        unfold rowT
        rw [Nat.add_zero]
        show _ = spl 32 l
        rw [hw, ← f3, hcl, List.map_map]
        refine List.map_congr_left fun j hj => ?_
        have hj : j < W := by have := List.mem_range'_1.1 hj; omega
        show wordT (celT Q y j) = wordT (celT (fillR P y 0 cs) y j)
        rw [q6 y j (by omega) (by omega)]
      | succ i =>
        have := q7 i (by simp at h; omega)
        rw [show y + (i + 1) = y + 1 + i by omega]
        exact this
/-! ### The text -/
theorem grass_eq {P : Pasture} (g : goodP P) {y x : Nat} (hy : y < 10) (hx : x < 10) : impl_Pasture_grass.f P (⟨(x : Int), (y : Int)⟩ : Spot) = some (gG P y x) := by
  have := g.2 y x hy hx
  unfold impl_Pasture_grass.f
  show (getI P.Grass.l ((y : Nat) : Int)).bind _ = _
  rw [getR P.Grass hy, Option.bind_some]
  show (getI (gR P.Grass y).l ((x : Nat) : Int)).bind _ = _
  rw [getA _ hx, Option.bind_some]
  show some (IntKind.i64.wrap (gG P y x)) = _
  rw [w64 (by omega) (by omega)]
theorem stE_eq (P : Pasture) {y x : Nat} (hy : y < 10) : impl_Pasture_stands.f P (⟨(⟨(x : Int), (y : Int)⟩ : Spot), false⟩ : Hurdle) = some (bitN (gA P.East y) x) := by
  unfold impl_Pasture_stands.f
  simp only [if_neg (show ¬ (false = true) by simp)]
  rw [getA P.East hy, Option.bind_some, chkX (by omega), Option.bind_some]; rfl
theorem stS_eq (P : Pasture) {y x : Nat} (hy : y < 10) : impl_Pasture_stands.f P (⟨(⟨(x : Int), (y : Int)⟩ : Spot), true⟩ : Hurdle) = some (bitN (gA P.South y) x) := by
  unfold impl_Pasture_stands.f
  simp only [if_true]
  rw [getA P.South hy, Option.bind_some, chkX (by omega), Option.bind_some]; rfl
theorem dec_le {n : Nat} (h : n ≤ 1000) : (Go.Lib.decDigits n).length ≤ 4 := dec_len 3 n (by omega)
theorem wordT_len {c : Cell} (h : c.n ≤ 1000) : (wordT c).length ≤ 6 := by
  have := dec_le h
  unfold wordT
  simp only [List.length_append]
  split <;> split <;> simp <;> omega
theorem textRow_loop {P : Pasture} (g : goodP P) {y W : Nat} (hy : y < 10) (hW : W ≤ 10) (hP : P.Wide = (W : Int)) : ∀ x, x ≤ W → ∀ acc : List ByteArray, acc.length ≤ x → Ev (fun k => impl_PastureText.l2 P (y : Int) k acc (x : Int)) (acc ++ ((List.range' x (W - x)).map fun j => toB (wordT (celT P y j)))) := by
  refine upL ?_ ?_
  · intro acc ha
    rw [Nat.sub_self]
    exact Ev.step (fun k => impl_PastureText.l2.eq_2 _ _ _ _ _) (Ev.neg (by omega) (Ev.const (by simp)))
  · intro x hx ih acc ha
    have hG := g.2 y x hy (by omega)
    have e8 : IntKind.i8.wrap ((x : Int) + 1) = ((x + 1 : Nat) : Int) := by rw [w8 (by omega) (by omega)]; omega
    have hd : impl_decimal.f (gG P y x) = some (toB (Go.Lib.decDigits (gG P y x).toNat)) := by
      rw [decimal_eq hG.1 (by omega)]
      have : gG P y x = (((gG P y x).toNat : Nat) : Int) := by omega
      conv => lhs; rw [this, itoa_nat]
      rfl
    have hdl := dec_le (n := (gG P y x).toNat) (by omega)
    have hdz : (toB (Go.Lib.decDigits (gG P y x).toNat)).size ≤ 4 := by rw [toB_size]; exact hdl
    have s1 : (⟨#[124]⟩ : ByteArray).size = 1 := rfl
    have s2 : (⟨#[95]⟩ : ByteArray).size = 1 := rfl
    have sz : (toB (Go.Lib.decDigits (gG P y x).toNat) ++ (⟨#[124]⟩ : ByteArray)).size ≤ 5 := by rw [ByteArray.size_append]; omega
    have ih := ih (acc ++ [toB (wordT (celT P y x))]) (by simp; omega)
    rw [← e8, List.append_assoc] at ih
    refine Ev.step (fun k => impl_PastureText.l2.eq_2 _ _ _ _ _) (Ev.pos (by omega) (Ev.bind (Ev.const (grass_eq g hy (by omega))) (Ev.bind (Ev.const hd) (Ev.bind (Ev.const (stE_eq P hy)) ?_))))
    rw [show W - x = (W - (x + 1)) + 1 by omega, List.range'_succ, List.map_cons]
    have ew : toB (wordT (celT P y x)) = (toB (Go.Lib.decDigits (gG P y x).toNat) ++ toB (if bitN (gA P.East y) x = true then [124] else [])) ++ toB (if bitN (gA P.South y) x = true then [95] else []) := by
      unfold wordT celT
      rw [toB_app, toB_app]
    have en : ∀ z : ByteArray, z ++ toB [] = z := fun z => by
      apply ByteArray.ext
      rw [ByteArray.data_append]; simp [toB]
    cases hE : bitN (gA P.East y) x
    · refine Ev.neg (by simp) (Ev.bind (Ev.const (stS_eq P hy)) ?_)
      cases hS : bitN (gA P.South y) x
      · rw [hE, hS] at ew
        simp only [if_neg (show ¬ (false = true) by simp), en] at ew
        refine Ev.neg (by simp) (Ev.bind (Ev.const (chkX (by simp; omega))) ?_)
        rw [← ew]; exact ih
      · rw [hE, hS] at ew
        simp only [if_neg (show ¬ (false = true) by simp), if_true, en] at ew
        refine Ev.pos rfl (Ev.bind (Ev.const (chkX (by omega))) (Ev.bind (Ev.const (chkX (by simp; omega))) ?_))
        rw [show toB (Go.Lib.decDigits (gG P y x).toNat) ++ (⟨#[95]⟩ : ByteArray) = toB (wordT (celT P y x)) from ew.symm]
        exact ih
    · refine Ev.pos rfl (Ev.bind (Ev.const (chkX (by omega))) (Ev.bind (Ev.const (stS_eq P hy)) ?_))
      cases hS : bitN (gA P.South y) x
      · rw [hE, hS] at ew
        simp only [if_neg (show ¬ (false = true) by simp), if_true, en] at ew
        refine Ev.neg (by simp) (Ev.bind (Ev.const (chkX (by simp; omega))) ?_)
        rw [show toB (Go.Lib.decDigits (gG P y x).toNat) ++ (⟨#[124]⟩ : ByteArray) = toB (wordT (celT P y x)) from ew.symm]
        exact ih
      · rw [hE, hS] at ew
        simp only [if_true] at ew
        refine Ev.pos rfl (Ev.bind (Ev.const (chkX (by omega))) (Ev.bind (Ev.const (chkX (by simp; omega))) ?_))
        rw [show (toB (Go.Lib.decDigits (gG P y x).toNat) ++ (⟨#[124]⟩ : ByteArray)) ++ (⟨#[95]⟩ : ByteArray) = toB (wordT (celT P y x)) from ew.symm]
        exact ih
theorem joinT_len (c : UInt8) (b : Nat) : ∀ xs : List (List UInt8), (∀ x ∈ xs, x.length ≤ b) → (Go.Lib.joinTail [c] xs).length ≤ (b + 1) * xs.length
  | [], _ => by simp [Go.Lib.joinTail]
  | x :: xs, h => by
    have ih := joinT_len c b xs fun z hz => h z (List.mem_cons_of_mem _ hz)
    have := h x (by simp)
    unfold Go.Lib.joinTail at ih ⊢
    simp only [List.map_cons, List.flatten_cons, List.length_append, List.length_cons, List.length_nil]
    rw [Nat.mul_succ]
    omega
theorem join_len (c : UInt8) (b : Nat) (xs : List (List UInt8)) (h : ∀ x ∈ xs, x.length ≤ b) : (Go.Lib.join xs [c]).length ≤ (b + 1) * xs.length := by
  cases xs with
  | nil => simp [Go.Lib.join_nil]
  | cons x xs =>
    rw [Go.Lib.join_cons]
    have := joinT_len c b xs fun z hz => h z (List.mem_cons_of_mem _ hz)
    have hx := h x (by simp)
    rw [List.length_append, List.length_cons, Nat.mul_succ]
    omega
theorem join_toB (ls : List (List UInt8)) (c : UInt8) : joinB (ls.map toB) ⟨#[c]⟩ = toB (Go.Lib.join ls [c]) := by
  unfold joinB
  have e : (ls.map toB).map (·.data.toList) = ls := by
    rw [List.map_map]
    conv => rhs; rw [← List.map_id ls]
    exact List.map_congr_left fun x _ => toB_list x
  rw [e]; rfl
def lineT (P : Pasture) (W y : Nat) : List UInt8 := Go.Lib.join (rowT P y W) [32]
def rowsT (P : Pasture) (W : Nat) : Nat → Nat → List UInt8
  | _, 0 => []
  | y, n + 1 => (lineT P W y ++ [10]) ++ rowsT P W (y + 1) n
theorem lineT_len {P : Pasture} (g : goodP P) {y W : Nat} (hy : y < 10) (hW : W ≤ 10) : (lineT P W y).length ≤ 70 := by
  have := join_len 32 6 (rowT P y W) fun w hw => by
    obtain ⟨j, hj, rfl⟩ := List.mem_map.1 hw
    have hj : j < W := by have := List.mem_range'_1.1 hj; omega
    have := g.2 y j hy (by omega)
    exact wordT_len (by show (gG P y j).toNat ≤ 1000; omega)
  have hl : (rowT P y W).length = W := by unfold rowT; simp
  rw [hl] at this
  unfold lineT
  omega
theorem text_loop {P : Pasture} (g : goodP P) {H W : Nat} (hW : W ≤ 10) (hP : P.Wide = (W : Int)) (hH : H ≤ 10) (hPH : P.High = (H : Int)) : ∀ y, y ≤ H → ∀ acc : ByteArray, acc.size ≤ 100 * y → Ev (fun k => impl_PastureText.l1 P k acc (y : Int)) (acc ++ toB (rowsT P W y (H - y))) := by
  refine upL ?_ ?_
  · intro acc ha
    rw [Nat.sub_self]
    refine Ev.step (fun k => impl_PastureText.l1.eq_2 _ _ _ _) (Ev.neg (by omega) (Ev.const ?_))
    congr 1
    apply ByteArray.ext
    rw [ByteArray.data_append]; simp [toB, rowsT]
  · intro y hy ih acc ha
    have e8 : IntKind.i8.wrap ((y : Int) + 1) = ((y + 1 : Nat) : Int) := by rw [w8 (by omega) (by omega)]; omega
    have hr := textRow_loop g (show y < 10 by omega) hW hP 0 (Nat.zero_le _) [] (by simp)
    rw [List.nil_append, Nat.sub_zero] at hr
    have hr' : Ev (fun k => impl_PastureText.l2 P (y : Int) k [] ((0 : Nat) : Int)) ((rowT P y W).map toB) := by
      unfold rowT
      rw [List.map_map]
      exact hr
    have hll := lineT_len g (show y < 10 by omega) hW
    have hrl : (rowT P y W).length = W := by unfold rowT; simp
    have hj : strings_Join.f ((rowT P y W).map toB) (⟨#[32]⟩ : ByteArray) = some (toB (lineT P W y), (rowT P y W).map toB) := by
      unfold strings_Join.f
      rw [join_toB, chkX ⟨by rw [List.length_map, hrl]; omega, by show (toB (lineT P W y)).size ≤ _; rw [toB_size]; omega⟩]; rfl
    have s1 : (⟨#[10]⟩ : ByteArray).size = 1 := rfl
    have sl : (toB (lineT P W y)).size ≤ 70 := by rw [toB_size]; exact hll
    have sa : (toB (lineT P W y) ++ (⟨#[10]⟩ : ByteArray)).size ≤ 71 := by rw [ByteArray.size_append]; omega
    have ih := ih (acc ++ (toB (lineT P W y) ++ (⟨#[10]⟩ : ByteArray))) (by rw [ByteArray.size_append]; omega)
    rw [← e8] at ih
    refine Ev.step (fun k => impl_PastureText.l1.eq_2 _ _ _ _) (Ev.pos (by omega) (Ev.bind (Ev.bind hr' (Ev.bind (Ev.const hj) (Ev.bind (Ev.const (chkX (by show (toB (lineT P W y)).size + _ ≤ _; omega))) (Ev.bind (Ev.const (chkX (by show acc.size + (toB (lineT P W y) ++ (⟨#[10]⟩ : ByteArray)).size ≤ _; omega))) (Ev.const rfl))))) ?_))
    rw [show H - y = (H - (y + 1)) + 1 by omega, rowsT, toB_app, toB_app, show acc ++ ((toB (lineT P W y) ++ toB [10]) ++ toB (rowsT P W (y + 1) (H - (y + 1)))) = (acc ++ (toB (lineT P W y) ++ toB [10])) ++ toB (rowsT P W (y + 1) (H - (y + 1))) from ByteArray.append_assoc.symm]
    exact ih
theorem VPasture_of {P : Pasture} (g : goodP P) (h1 : 0 ≤ P.Wide ∧ P.Wide ≤ 10) (h2 : 0 ≤ P.High ∧ P.High ≤ 10) : VPasture P := by
  have a1 : IntKind.i8.min = -128 := by decide
  have a2 : IntKind.i8.max = 127 := by decide
  have b1 : IntKind.i16.min = -32768 := by decide
  have b2 : IntKind.i16.max = 32767 := by decide
  have c1 : IntKind.u16.min = 0 := by decide
  have c2 : IntKind.u16.max = 65535 := by decide
  have key : ∀ a : Arr 10 Int, (∀ i, i < 10 → in16 (gA a i)) → ∀ x ∈ a.l, inI .u16 x := fun a h x hx => by
    obtain ⟨i, hi, rfl⟩ := List.mem_iff_getElem.1 hx
    have hi' : i < 10 := by rw [← a.len]; exact hi
    have := h i hi'
    unfold gA at this
    rw [List.getD_eq_getElem?_getD, List.getElem?_eq_getElem hi, Option.getD_some] at this
    exact ⟨by rw [c1]; exact this.1, by rw [c2]; exact this.2⟩
  refine ⟨⟨by rw [a1]; omega, by rw [a2]; omega⟩, ⟨by rw [a1]; omega, by rw [a2]; omega⟩, fun r hr x hx => ?_, key _ fun i hi => (g.1 i hi).1, key _ fun i hi => (g.1 i hi).2⟩
  obtain ⟨y, hy, rfl⟩ := List.mem_iff_getElem.1 hr
  obtain ⟨i, hi, rfl⟩ := List.mem_iff_getElem.1 hx
  have hy' : y < 10 := by rw [← P.Grass.len]; exact hy
  have hi' : i < 10 := by rw [← (P.Grass.l[y]).len]; exact hi
  have := g.2 y i hy' hi'
  unfold gG gA gR at this
  rw [List.getElem?_eq_getElem hy, Option.getD_some, List.getD_eq_getElem?_getD, List.getElem?_eq_getElem hi, Option.getD_some] at this
  exact ⟨by rw [b1]; omega, by rw [b2]; omega⟩
theorem text_ev {P : Pasture} (g : goodP P) {H W : Nat} (hW : W ≤ 10) (hP : P.Wide = (W : Int)) (hH : H ≤ 10) (hPH : P.High = (H : Int)) : Ev (fun k => impl_PastureText.f k P) (if vP P = true then toB (rowsT P W 0 H) else ByteArray.empty) := by
  have v := VPasture_of g (by omega) (by omega)
  refine (implOk_ev v).bind ?_
  cases vP P
  · exact Ev.pos rfl (Ev.const rfl)
  · refine Ev.neg (by simp) ?_
    have := text_loop g hW hP hH hPH 0 (Nat.zero_le _) ByteArray.empty (by simp)
    have en : ∀ z : ByteArray, ByteArray.empty ++ z = z := fun z => by
      apply ByteArray.ext
      rw [ByteArray.data_append]; simp
    rw [en, Nat.sub_zero] at this
    exact this.bind (Ev.const rfl)
theorem rowsT_join (P : Pasture) (W : Nat) : ∀ n y, rowsT P W y n = Go.Lib.join (((List.range' y n).map (lineT P W)) ++ [[]]) [10]
  | 0, y => by simp [rowsT, Go.Lib.join_one]
  | n + 1, y => by
    rw [rowsT, rowsT_join P W n (y + 1), List.range'_succ, List.map_cons, List.cons_append]
    cases n with
    | zero => simp [Go.Lib.join_one, Go.Lib.join_cons, Go.Lib.joinTail]
    | succ n =>
      rw [List.range'_succ, List.map_cons, List.cons_append, Go.Lib.join_cons, Go.Lib.join_cons]
      simp [Go.Lib.joinTail]
/-! ### Which bytes these are -/
theorem word_bytes {c : Cell} {b : UInt8} (h : b ∈ wordT c) : digB b = true ∨ b = 124 ∨ b = 95 := by
  unfold wordT at h
  rcases List.mem_append.1 h with h | h
  · rcases List.mem_append.1 h with h | h
    · exact .inl (List.all_eq_true.1 (dec_all c.n) b h)
    · split at h
      · exact .inr (.inl (List.mem_singleton.1 h))
      · simp at h
  · split at h
    · exact .inr (.inr (List.mem_singleton.1 h))
    · simp at h
theorem mem_join {b c : UInt8} : ∀ {xs : List (List UInt8)}, b ∈ Go.Lib.join xs [c] → b = c ∨ ∃ x ∈ xs, b ∈ x
  | [], h => by simp [Go.Lib.join_nil] at h
  | x :: xs, h => by
    rw [Go.Lib.join_cons] at h
    rcases List.mem_append.1 h with h | h
    · exact .inr ⟨x, by simp, h⟩
    · unfold Go.Lib.joinTail at h
      obtain ⟨l, hl, hb⟩ := List.mem_flatten.1 h
      obtain ⟨z, hz, rfl⟩ := List.mem_map.1 hl
      rcases List.mem_append.1 hb with hb | hb
      · exact .inl (List.mem_singleton.1 hb)
      · exact .inr ⟨z, List.mem_cons_of_mem _ hz, hb⟩
theorem line_words {P : Pasture} {W y : Nat} (hW : 1 ≤ W) : spl 32 (lineT P W y) = rowT P y W ∧ (10 : UInt8) ∉ lineT P W y := by
  have hne : rowT P y W ≠ [] := by
    unfold rowT
    cases W with
    | zero => omega
    | succ W => simp
  have hw : ∀ x ∈ rowT P y W, ∀ b ∈ x, digB b = true ∨ b = 124 ∨ b = 95 := fun x hx b hb => by
    obtain ⟨j, hj, rfl⟩ := List.mem_map.1 hx
    exact word_bytes hb
  refine ⟨spl_join 32 hne fun x hx hb => ?_, fun h => ?_⟩
  · rcases hw x hx _ hb with h | h | h
    · exact absurd h (by decide)
    · exact absurd h (by decide)
    · exact absurd h (by decide)
  · rcases mem_join h with h | ⟨x, hx, hb⟩
    · exact absurd h (by decide)
    · rcases hw x hx _ hb with h | h | h
      · exact absurd h (by decide)
      · exact absurd h (by decide)
      · exact absurd h (by decide)
end Go.Proofs.YthlljmjaaljdnaaDoor
