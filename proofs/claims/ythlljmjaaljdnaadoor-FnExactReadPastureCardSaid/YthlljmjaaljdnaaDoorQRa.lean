/-
  Plain laws: a pasture that is read: words, cells, one row.
-/
import Derived.Test.YthlljmjaaljdnaaDoorQB
import Derived.Test.YthlljmjaaljdnaaDoorQBit
namespace Go.Proofs.YthlljmjaaljdnaaDoor
open G
set_option linter.unusedVariables false
set_option linter.unusedSimpArgs false
/-! ### Pieces -/
theorem pre_len (p : List UInt8) (n : Nat) : ∀ xs : List (List UInt8), (∀ x ∈ xs, x.length ≤ n) → ∀ x ∈ preL p xs, x.length ≤ p.length + n
  | [], _, x, hx => by simp [preL] at hx; subst hx; omega
  | y :: ys, h, x, hx => by
    rcases List.mem_cons.1 hx with rfl | hx
    · have := h y (by simp); simp; omega
    · have := h x (List.mem_cons_of_mem _ hx); omega
theorem spl_len (c : UInt8) : ∀ (l : List UInt8), ∀ x ∈ spl c l, x.length ≤ l.length
  | [], x, hx => by simp [spl] at hx; subst hx; simp
  | b :: l, x, hx => by
    unfold spl at hx
    split at hx
    · rcases List.mem_cons.1 hx with rfl | hx
      · simp
      · have := spl_len c l x hx; simp; omega
    · have := pre_len [b] l.length _ (spl_len c l) x hx
      simp at this ⊢; omega
theorem pre_count1 (p : List UInt8) {xs : List (List UInt8)} (h : xs ≠ []) : (preL p xs).length = xs.length := by
  cases xs with
  | nil => exact absurd rfl h
  | cons y ys => simp [preL]
theorem spl_count (c : UInt8) : ∀ (l : List UInt8), (spl c l).length ≤ l.length + 1
  | [] => by simp [spl]
  | b :: l => by
    have := spl_count c l
    unfold spl
    split
    · simp; omega
    · rw [pre_count1 _ (spl_ne c l)]; simp; omega
theorem spl_join (c : UInt8) : ∀ {xs : List (List UInt8)}, xs ≠ [] → (∀ x ∈ xs, c ∉ x) → spl c (Go.Lib.join xs [c]) = xs
  | [], h, _ => absurd rfl h
  | [x], _, h => by rw [Go.Lib.join_one, spl_miss (h x (by simp))]
  | x :: y :: r, _, h => by
    have ih := spl_join c (xs := y :: r) (by simp) fun z hz => h z (List.mem_cons_of_mem _ hz)
    have e : Go.Lib.join (x :: y :: r) [c] = x ++ c :: Go.Lib.join (y :: r) [c] := by
      rw [Go.Lib.join_cons, Go.Lib.join_cons]
      simp [Go.Lib.joinTail]
    rw [e, spl_hit (h x (by simp)), ih]
/-! ### Ends that are cut -/
def cutE (c : UInt8) (l : List UInt8) : List UInt8 × Bool := if l.getLast? = some c then (l.dropLast, true) else (l, false)
theorem cutE_text (c : UInt8) (l : List UInt8) : l = (cutE c l).1 ++ (if (cutE c l).2 = true then [c] else []) := by
  unfold cutE
  split
  · rename_i h
    obtain ⟨ys, rfl⟩ := List.getLast?_eq_some_iff.1 h
    simp
  · simp
theorem cutE_len (c : UInt8) (l : List UInt8) : (cutE c l).1.length ≤ l.length := by
  unfold cutE
  split <;> simp
theorem exL_all (l : List UInt8) {n : Nat} : exL l 0 n = l.take n := by simp [exL]
theorem specCut_eq (l : List UInt8) (c : UInt8) (hl : l.length ≤ 1048576) : spec_l01Cut.f (toB l) ((c.toNat : Nat) : Int) = some (toB (cutE c l).1, (cutE c l).2) := by
  unfold spec_l01Cut.f
  have hz : (toB l).size = l.length := toB_size l
  by_cases h0 : l = []
  · subst h0
    rw [if_pos (by rw [hz]; rfl)]
    rfl
  · have hpos : 0 < l.length := List.length_pos_iff.2 h0
    have e1 : IntKind.i64.wrap (((toB l).size : Int) - 1) = ((l.length - 1 : Nat) : Int) := by rw [hz, w64 (by omega) (by omega)]; omega
    have hg : getB (toB l) ((l.length - 1 : Nat) : Int) = some ((l[l.length - 1].toNat : Nat) : Int) := getB_list (toB l) (i := l.length - 1) (by rw [toB_list]; omega)
    have hlast : l.getLast? = some l[l.length - 1] := by rw [List.getLast?_eq_getElem?, List.getElem?_eq_getElem (by omega)]
    rw [if_neg (by rw [hz]; omega), e1, hg, Option.bind_some]
    unfold cutE
    rw [hlast]
    by_cases hc : l[l.length - 1] = c
    · rw [if_pos (by rw [hc]), hc]
      rw [show (some (decide (((c.toNat : Nat) : Int) ≠ ((c.toNat : Nat) : Int)))) = some false by simp, Option.bind_some, if_neg (by simp), chkX ⟨by omega, by omega, by omega⟩, Option.bind_some, Int.toNat_natCast, ex_toB, toB_list, exL_all, ← List.dropLast_eq_take]
    · rw [if_neg (fun h => hc (Option.some.inj h))]
      rw [decide_eq_true (show ((l[l.length - 1].toNat : Nat) : Int) ≠ ((c.toNat : Nat) : Int) from fun h => hc (UInt8.toNat_inj.1 (Int.ofNat.inj h))), Option.bind_some, if_pos rfl]
theorem implCut_eq (l : List UInt8) (c : UInt8) (hl : l.length ≤ 1048576) : strings_CutSuffix.f (toB l) (⟨#[c]⟩ : ByteArray) = some (toB (cutE c l).1, (cutE c l).2) := by
  have hz : (toB l).size = l.length := toB_size l
  have h1 : (⟨#[c]⟩ : ByteArray).size = 1 := rfl
  unfold strings_CutSuffix.f internal_stringslite_CutSuffix.f internal_stringslite_HasSuffix.f
  by_cases h0 : l = []
  · subst h0
    rw [if_neg (by rw [hz, h1]; simp)]
    rfl
  · have hpos : 0 < l.length := List.length_pos_iff.2 h0
    have e1 : IntKind.i64.wrap (((toB l).size : Int) - ((⟨#[c]⟩ : ByteArray).size : Int)) = ((l.length - 1 : Nat) : Int) := by rw [hz, h1, w64 (by omega) (by omega)]; omega
    have hlast : l.getLast? = some l[l.length - 1] := by rw [List.getLast?_eq_getElem?, List.getElem?_eq_getElem (by omega)]
    have ex : (toB l).extract (l.length - 1) (toB l).size = toB [l[l.length - 1]] := by
      rw [ex_toB, toB_list, hz]
      unfold exL
      rw [List.drop_eq_getElem_cons (by omega), show l.length - (l.length - 1) = 1 by omega]; rfl
    rw [if_pos (by rw [hz, h1]; omega), e1, chkX ⟨by omega, by omega, by omega⟩, Option.bind_some, Int.toNat_natCast, ex, Option.bind_some]
    unfold cutE
    rw [hlast]
    by_cases hc : l[l.length - 1] = c
    · rw [hc, decide_eq_true (show toB [c] = (⟨#[c]⟩ : ByteArray) from rfl), if_neg (show ¬ (!true) = true by simp), if_pos (show some c = some c from rfl), chkX ⟨by omega, by omega, by omega⟩, Option.bind_some, Option.bind_some, ex_toB, toB_list, exL_all, ← List.dropLast_eq_take]
    · rw [if_neg (fun h => hc (Option.some.inj h))]
      rw [decide_eq_false (show ¬ toB [l[l.length - 1]] = (⟨#[c]⟩ : ByteArray) from fun h => hc (by have := toB_inj (m := [c]) h; exact (List.cons.inj this).1)), if_pos (show (!false) = true from rfl)]; rfl
/-! ### Words -/
structure Cell where
  n : Nat
  e : Bool
  s : Bool
def okA (z : List UInt8) (m : Nat) : Bool := okNum z && decide (valF 0 z ≤ m)
def word? (l : List UInt8) : Option Cell := if okA (cutE 124 (cutE 95 l).1).1 1000 = true then some ⟨valF 0 (cutE 124 (cutE 95 l).1).1, (cutE 124 (cutE 95 l).1).2, (cutE 95 l).2⟩ else none
def wordT (c : Cell) : List UInt8 := (Go.Lib.decDigits c.n ++ (if c.e = true then [124] else [])) ++ (if c.s = true then [95] else [])
theorem word_some {l : List UInt8} {c : Cell} (h : word? l = some c) : l = wordT c ∧ c.n ≤ 1000 := by
  unfold word? at h
  split at h
  · rename_i ho
    have h := Option.some.inj h
    subst h
    unfold okA at ho
    rw [Bool.and_eq_true, decide_eq_true_eq] at ho
    refine ⟨?_, ho.2⟩
    unfold wordT
    simp only
    rw [okNum_dec _ _ rfl ho.1, ← cutE_text, ← cutE_text]
  · cases h
def rowP : List (List UInt8) → Option (List Cell)
  | [] => some []
  | w :: ws => match word? w with
    | none => none
    | some c => (rowP ws).map (c :: ·)
theorem rowP_some : ∀ {ws : List (List UInt8)} {cs : List Cell}, rowP ws = some cs → ws = cs.map wordT ∧ ∀ c ∈ cs, c.n ≤ 1000
  | [], cs, h => by
    have h := Option.some.inj h
    subst h
    exact ⟨rfl, by simp⟩
  | w :: ws, cs, h => by
    unfold rowP at h
    cases hw : word? w with
    | none => rw [hw] at h; cases h
    | some c =>
      rw [hw] at h
      cases hs : rowP ws with
      | none => rw [hs] at h; cases h
      | some ys =>
        rw [hs] at h
        have h := Option.some.inj h
        subst h
        obtain ⟨a, b⟩ := rowP_some hs
        obtain ⟨d, e⟩ := word_some hw
        refine ⟨by rw [List.map_cons, ← d, ← a], fun z hz => ?_⟩
        rcases List.mem_cons.1 hz with rfl | hz
        · exact e
        · exact b z hz
/-! ### Arrays -/
abbrev Tb := Arr 10 (Arr 10 Int)
theorem gR_set (m : Tb) {y : Nat} (hy : y < 10) (r : Arr 10 Int) (y' : Nat) : gR (aset m y r) y' = if y = y' then r else gR m y' := by
  unfold gR aset
  simp only [List.getElem?_set, m.len, hy, if_true]
  split <;> simp
theorem gA_set (a : Arr 10 Int) {x : Nat} (hx : x < 10) (v : Int) (x' : Nat) : gA (aset a x v) x' = if x = x' then v else gA a x' := by
  unfold gA aset
  simp only [List.getD_eq_getElem?_getD, List.getElem?_set, a.len, hx, if_true]
  split <;> simp
theorem Arr.ext' {α : Type} {n : Nat} {a b : Arr n α} (h : a.l = b.l) : a = b := by
  cases a; cases b
  cases h; rfl
theorem aset_aset {α : Type} {n : Nat} (a : Arr n α) (i : Nat) (u v : α) : aset (aset a i u) i v = aset a i v := Arr.ext' (by simp [aset])
theorem aset_self (a : Arr 10 Int) {i : Nat} (hi : i < 10) : aset a i (gA a i) = a := by
  apply Arr.ext'
  show a.l.set i (gA a i) = a.l
  have h : i < a.l.length := by rw [a.len]; exact hi
  unfold gA
  rw [List.getD_eq_getElem?_getD, List.getElem?_eq_getElem h, Option.getD_some, List.set_getElem_self]
/-! ### Cells -/
def setG (P : Pasture) (y x : Nat) (n : Nat) : Tb := aset P.Grass y (aset (gR P.Grass y) x (n : Int))
def orB (a : Arr 10 Int) (y x : Nat) (on : Bool) : Arr 10 Int := if on = true then aset a y (orI .u16 (gA a y) (shlI .u16 1 (x : Int))) else a
def cellS (P : Pasture) (y x : Nat) (c : Cell) : Pasture := (⟨P.Wide, P.High, setG P y x c.n, orB P.East y x c.e, orB P.South y x c.s⟩ : Pasture)
def newB (a : Arr 10 Int) (y x : Nat) (on : Bool) : Arr 10 Int := aset a y (if on = true then orI .u16 (andNotI .u16 (gA a y) (shlI .u16 1 (x : Int))) (shlI .u16 1 (x : Int)) else andNotI .u16 (gA a y) (shlI .u16 1 (x : Int)))
def cellI (P : Pasture) (y x : Nat) (c : Cell) : Pasture := (⟨P.Wide, P.High, setG P y x c.n, newB P.East y x c.e, newB P.South y x c.s⟩ : Pasture)
theorem put_east (P : Pasture) {y x : Nat} (hy : y < 10) (hx : x < 10) (on : Bool) : impl_Pasture_put.f P (⟨(⟨(x : Int), (y : Int)⟩ : Spot), false⟩ : Hurdle) on = some (⟨P.Wide, P.High, P.Grass, newB P.East y x on, P.South⟩ : Pasture) := by
  unfold impl_Pasture_put.f newB
  simp only [if_neg (show ¬ (false = true) by simp)]
  rw [getA P.East hy, Option.bind_some, chkX (show (0 : Int) ≤ (x : Int) by omega), Option.bind_some, Option.bind_some]
  simp only [Int.toNat_natCast]
  cases on
  · rfl
  · rw [if_pos rfl, getA _ hy, Option.bind_some, Option.bind_some, Option.bind_some, gA_set _ hy, if_pos rfl, aset_aset]; rfl
theorem put_south (P : Pasture) {y x : Nat} (hy : y < 10) (hx : x < 10) (on : Bool) : impl_Pasture_put.f P (⟨(⟨(x : Int), (y : Int)⟩ : Spot), true⟩ : Hurdle) on = some (⟨P.Wide, P.High, P.Grass, P.East, newB P.South y x on⟩ : Pasture) := by
  unfold impl_Pasture_put.f newB
  simp only [if_true]
  rw [getA P.South hy, Option.bind_some, chkX (show (0 : Int) ≤ (x : Int) by omega), Option.bind_some, Option.bind_some]
  simp only [Int.toNat_natCast]
  cases on
  · rfl
  · rw [if_pos rfl, getA _ hy, Option.bind_some, Option.bind_some, Option.bind_some, gA_set _ hy, if_pos rfl, aset_aset]; rfl
/-! ### One row -/
abbrev zeroP : Pasture := (⟨0, 0, (Arr.mk' (Arr.mk' 0 : Arr 10 Int) : Arr 10 (Arr 10 Int)), (Arr.mk' 0 : Arr 10 Int), (Arr.mk' 0 : Arr 10 Int)⟩ : Pasture)
def fillR : Pasture → Nat → Nat → List Cell → Pasture
  | P, y, x, [] => P
  | P, y, x, c :: cs => fillR (cellS P y x c) y (x + 1) cs
def outS (o : Option Pasture) : (((Pasture × Int) ⊕ Pasture) ⊕ Pasture) ⊕ Pasture := match o with
  | none => Sum.inl (Sum.inl (Sum.inl (zeroP, 5)))
  | some P => Sum.inr P
def specRow (P : Pasture) (y : Nat) : Nat → List (List UInt8) → Option Pasture := fun x ws => (rowP ws).map (fillR P y x)
theorem specRow_nil (P : Pasture) (y x : Nat) : specRow P y x [] = some P := rfl
theorem specRow_none {P : Pasture} {y x : Nat} {w : List UInt8} {ws : List (List UInt8)} (h : word? w = none) : specRow P y x (w :: ws) = none := by
  unfold specRow rowP; rw [h]; rfl
theorem specRow_some {P : Pasture} {y x : Nat} {w : List UInt8} {ws : List (List UInt8)} {c : Cell} (h : word? w = some c) : specRow P y x (w :: ws) = specRow (cellS P y x c) y (x + 1) ws := by
  unfold specRow
  rw [rowP, h]
  cases rowP ws <;> rfl
theorem getM (ls : List (List UInt8)) {i : Nat} (hi : i < ls.length) : getI (ls.map toB) (i : Int) = some (toB ls[i]) := by
  rw [getI_nat (by simpa using hi), List.getElem_map]
theorem wi16 {x : Nat} (h : x ≤ 1000) : IntKind.i16.wrap (x : Int) = (x : Int) := by
  simp [IntKind.wrap, IntKind.bits, IntKind.signed]; omega
theorem wi8 {x : Nat} (h : x ≤ 100) : IntKind.i8.wrap (x : Int) = (x : Int) := by
  simp [IntKind.wrap, IntKind.bits, IntKind.signed]; omega
theorem specRow_ev {y : Nat} (hy : y < 10) (ws : List (List UInt8)) (hl : ws.length ≤ 10) (hs : ∀ w ∈ ws, w.length ≤ 1048576) : ∀ x, x ≤ ws.length → ∀ P : Pasture, Ev (fun k => spec_ReadPasture.l2 (y : Int) (ws.map toB) k P (x : Int)) (outS (specRow P y x (ws.drop x))) := by
  have hlen : (ws.map toB).length = ws.length := by simp
  refine upL ?_ ?_
  · intro P
    rw [List.drop_length, specRow_nil]
    exact Ev.step (fun k => spec_ReadPasture.l2.eq_2 _ _ _ _ _) (Ev.neg (by omega) (Ev.const rfl))
  · intro x hx ih P
    rw [List.drop_eq_getElem_cons hx]
    have hz := hs _ (List.getElem_mem hx)
    generalize hL : ws[x] = l at hz ⊢
    have hg : getI (ws.map toB) (x : Int) = some (toB l) := by rw [getM ws hx, hL]
    have c1 := specCut_eq l 95 hz
    have z1 := cutE_len 95 l
    have c2 := specCut_eq (cutE 95 l).1 124 (by omega)
    have z2 := cutE_len 124 (cutE 95 l).1
    have n1 := specNum_ev (toB (cutE 124 (cutE 95 l).1).1) (by rw [toB_size]; omega)
    rw [toB_list] at n1
    refine Ev.step (fun k => spec_ReadPasture.l2.eq_2 _ _ _ _ _) (Ev.pos (by omega) (Ev.bind (Ev.const hg) (Ev.bind (Ev.const c1) (Ev.bind (Ev.const c2) (Ev.bind n1 ?_)))))
    unfold numL
    cases ho : okNum (cutE 124 (cutE 95 l).1).1
    · have hw : word? l = none := by unfold word? okA; rw [ho]; rfl
      rw [specRow_none hw]
      exact Ev.bind (a := true) (Ev.pos rfl (Ev.const rfl)) (Ev.pos rfl (Ev.const rfl))
    · by_cases hv : valF 0 (cutE 124 (cutE 95 l).1).1 ≤ 1000
      · have hw : word? l = some ⟨valF 0 (cutE 124 (cutE 95 l).1).1, (cutE 124 (cutE 95 l).1).2, (cutE 95 l).2⟩ := by unfold word? okA; rw [ho, decide_eq_true hv]; rfl
        rw [specRow_some hw]
        refine Ev.bind (a := false) (Ev.neg (by simp) (Ev.const (congrArg some (decide_eq_false (by show ¬ (1000 : Int) < ((valF 0 _ : Nat) : Int); omega))))) (Ev.neg (by simp) (Ev.bind (Ev.const (getR P.Grass hy)) (Ev.bind (Ev.const (getA _ (show x < 10 by omega))) ?_)))
        have ux : IntKind.u64.wrap (x : Int) = (x : Int) := wu64 (by omega) (by omega)
        have cu : chk (0 ≤ IntKind.u64.wrap (x : Int)) = some () := chkX (by rw [ux]; omega)
        have ih := ih (cellS P y x ⟨valF 0 (cutE 124 (cutE 95 l).1).1, (cutE 124 (cutE 95 l).1).2, (cutE 95 l).2⟩)
        rw [← wsucc hx (by omega)] at ih
        unfold cellS orB setG at ih
        simp only [if_true, Int.toNat_natCast, wi16 hv, ux]
        cases he : (cutE 124 (cutE 95 l).1).2
        · refine Ev.neg (by simp) ?_
          cases hs' : (cutE 95 l).2
          · rw [he, hs'] at ih
            exact Ev.neg (by simp) ih
          · rw [he, hs'] at ih
            exact Ev.pos rfl (Ev.bind (Ev.const (getA P.South hy)) (Ev.bind (Ev.const (chkX (by omega))) (Ev.bind (Ev.const (getA P.South hy)) ih)))
        · refine Ev.pos rfl (Ev.bind (Ev.const (getA P.East hy)) (Ev.bind (Ev.const (chkX (by omega))) (Ev.bind (Ev.const (getA P.East hy)) ?_)))
          cases hs' : (cutE 95 l).2
          · rw [he, hs'] at ih
            exact Ev.neg (by simp) ih
          · rw [he, hs'] at ih
            exact Ev.pos rfl (Ev.bind (Ev.const (getA P.South hy)) (Ev.bind (Ev.const (chkX (by omega))) (Ev.bind (Ev.const (getA P.South hy)) ih)))
      · have hw : word? l = none := by unfold word? okA; rw [ho, decide_eq_false hv]; rfl
        rw [specRow_none hw]
        exact Ev.bind (a := true) (Ev.neg (by simp) (Ev.const (congrArg some (decide_eq_true (by show (1000 : Int) < ((valF 0 _ : Nat) : Int); omega))))) (Ev.pos rfl (Ev.const rfl))
def implRow (W : Nat) : Pasture → Nat → Nat → List (List UInt8) → Option Pasture
  | P, y, x, [] => some P
  | P, y, x, w :: ws => match word? w with
    | none => none
    | some c => if W ≤ x then none else implRow W (cellI P y x c) y (x + 1) ws
theorem number_toB (z : List UInt8) (m : Nat) (hz : z.length ≤ 1048576) (hm : m ≤ 1000) : impl_number.f (toB z) (m : Int) = some (if okA z m = true then (((valF 0 z : Nat) : Int), true) else (0, false)) := by
  rw [number_eq (toB z) (m : Int) (by rw [toB_size]; omega) (by omega), toB_list]
  unfold okA
  congr 1
  by_cases h : okNum z = true
  · by_cases h2 : valF 0 z ≤ m
    · rw [if_pos ⟨h, by omega⟩, if_pos (by simp [h, h2])]
    · rw [if_neg (by intro hh; omega), if_neg (by simp [h, h2])]
  · rw [if_neg (by intro hh; exact h hh.1), if_neg (by simp [h])]
theorem implRow_ev {y W : Nat} (hy : y < 10) (hW : W ≤ 10) (ws : List (List UInt8)) (hl : ws.length ≤ 1048577) (hs : ∀ w ∈ ws, w.length ≤ 1048576) : ∀ x, x ≤ ws.length → ∀ P : Pasture, P.Wide = (W : Int) → Ev (fun k => impl_ReadPasture.l2 (y : Int) (ws.map toB) k P (x : Int)) (outS (implRow W P y x (ws.drop x))) := by
  have hlen : (ws.map toB).length = ws.length := by simp
  refine upL ?_ ?_
  · intro P hP
    rw [List.drop_length]
    exact Ev.step (fun k => impl_ReadPasture.l2.eq_2 _ _ _ _ _) (Ev.neg (by omega) (Ev.const rfl))
  · intro x hx ih P hP
    rw [List.drop_eq_getElem_cons hx]
    have hz := hs _ (List.getElem_mem hx)
    generalize hL : ws[x] = l at hz ⊢
    have hg : getI (ws.map toB) (x : Int) = some (toB l) := by rw [getM ws hx, hL]
    have c1 := implCut_eq l 95 hz
    have z1 := cutE_len 95 l
    have c2 := implCut_eq (cutE 95 l).1 124 (by omega)
    have z2 := cutE_len 124 (cutE 95 l).1
    have n1 := number_toB (cutE 124 (cutE 95 l).1).1 1000 (by omega) (by omega)
    refine Ev.step (fun k => impl_ReadPasture.l2.eq_2 _ _ _ _ _) (Ev.pos (by omega) (Ev.bind (Ev.const hg) (Ev.bind (Ev.const c1) (Ev.bind (Ev.const c2) (Ev.bind (Ev.const n1) ?_)))))
    cases ho : okA (cutE 124 (cutE 95 l).1).1 1000
    · have hw : word? l = none := by unfold word?; rw [ho]; rfl
      rw [implRow, hw]
      exact Ev.bind (a := true) (Ev.pos rfl (Ev.const rfl)) (Ev.pos rfl (Ev.const rfl))
    · have hw : word? l = some ⟨valF 0 (cutE 124 (cutE 95 l).1).1, (cutE 124 (cutE 95 l).1).2, (cutE 95 l).2⟩ := by unfold word?; rw [ho]; rfl
      have hv : valF 0 (cutE 124 (cutE 95 l).1).1 ≤ 1000 := by
        unfold okA at ho
        rw [Bool.and_eq_true, decide_eq_true_eq] at ho
        exact ho.2
      rw [implRow, hw]
      have wW : IntKind.i64.wrap P.Wide = (W : Int) := by rw [hP, w64 (by omega) (by omega)]
      by_cases hWx : W ≤ x
      · simp only [if_pos hWx]
        exact Ev.bind (a := true) (Ev.neg (by simp) (Ev.const (congrArg some (decide_eq_true (by rw [wW]; omega))))) (Ev.pos rfl (Ev.const rfl))
      · simp only [if_neg hWx]
        have hx10 : x < 10 := by omega
        have ih := ih (cellI P y x ⟨valF 0 (cutE 124 (cutE 95 l).1).1, (cutE 124 (cutE 95 l).1).2, (cutE 95 l).2⟩) hP
        rw [← wsucc hx (by omega)] at ih
        refine Ev.bind (a := false) (Ev.neg (by simp) (Ev.const (congrArg some (decide_eq_false (by rw [wW]; omega))))) (Ev.neg (by simp) (Ev.bind (Ev.const (getR P.Grass hy)) (Ev.bind (Ev.const (getA _ hx10)) ?_)))
        simp only [if_true, Int.toNat_natCast, wi16 hv, wi8 (show x ≤ 100 by omega), wi8 (show y ≤ 100 by omega)]
        exact Ev.bind (Ev.const (put_east _ hy hx10 _)) (Ev.bind (Ev.const (put_south _ hy hx10 _)) ih)
end Go.Proofs.YthlljmjaaljdnaaDoor
