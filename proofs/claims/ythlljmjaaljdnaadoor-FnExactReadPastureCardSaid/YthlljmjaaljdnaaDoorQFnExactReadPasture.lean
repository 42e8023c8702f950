/-
  Plain law: ReadPasture of the program and of the reference answer alike.
-/
import Derived.Test.YthlljmjaaljdnaaDoorQRc
namespace Go.Proofs.YthlljmjaaljdnaaDoor
open G
set_option linter.unusedVariables false
set_option linter.unusedSimpArgs false
/-! ### The pasture at the begin -/
def startP (W H : Nat) : Pasture := (⟨(W : Int), (H : Int), (Arr.mk' (Arr.mk' 0 : Arr 10 Int) : Arr 10 (Arr 10 Int)), (Arr.mk' 0 : Arr 10 Int), (Arr.mk' 0 : Arr 10 Int)⟩ : Pasture)
theorem gA_zero (x : Nat) : gA (Arr.mk' 0 : Arr 10 Int) x = 0 := by
  unfold gA Arr.mk'
  rw [List.getD_eq_getElem?_getD]
  by_cases h : x < 10
  · rw [List.getElem?_replicate, if_pos h]; rfl
  · rw [List.getElem?_replicate, if_neg h]; rfl
theorem gR_zero (y : Nat) : gR (Arr.mk' (Arr.mk' 0 : Arr 10 Int) : Tb) y = (Arr.mk' 0 : Arr 10 Int) := by
  unfold gR Arr.mk'
  by_cases h : y < 10
  · rw [List.getElem?_replicate, if_pos h]; rfl
  · rw [List.getElem?_replicate, if_neg h]; rfl
theorem bit_zero (j : Nat) : bitN 0 j = false := by
  unfold bitN shrI
  rw [Int.zero_fdiv]; rfl
theorem start_good (W H : Nat) : goodP (startP W H) ∧ ∀ y, clean (startP W H) y 0 := by
  refine ⟨⟨fun y _ => ⟨?_, ?_⟩, fun y x _ _ => ?_⟩, fun y j _ _ => ⟨?_, ?_⟩⟩
  · show in16 (gA (Arr.mk' 0 : Arr 10 Int) y)
    rw [gA_zero]; exact ⟨by omega, by omega⟩
  · show in16 (gA (Arr.mk' 0 : Arr 10 Int) y)
    rw [gA_zero]; exact ⟨by omega, by omega⟩
  · show 0 ≤ gA (gR (Arr.mk' (Arr.mk' 0 : Arr 10 Int) : Tb) y) x ∧ gA (gR (Arr.mk' (Arr.mk' 0 : Arr 10 Int) : Tb) y) x ≤ 1000
    rw [gR_zero, gA_zero]; omega
  · show bitN (gA (Arr.mk' 0 : Arr 10 Int) y) j = false
    rw [gA_zero, bit_zero]
  · show bitN (gA (Arr.mk' 0 : Arr 10 Int) y) j = false
    rw [gA_zero, bit_zero]
theorem asetR_self (m : Tb) {y : Nat} (hy : y < 10) : aset m y (gR m y) = m := by
  apply Arr.ext'
  show m.l.set y (gR m y) = m.l
  have h : y < m.l.length := by rw [m.len]; exact hy
  unfold gR
  rw [List.getElem?_eq_getElem h, Option.getD_some, List.set_getElem_self]
theorem plain_loop {W H : Nat} (cells : List Spot) (hl : cells.length ≤ 1000) (hc : ∀ s ∈ cells, ∃ x y : Nat, x < 10 ∧ y < 10 ∧ s = ⟨(x : Int), (y : Int)⟩) : ∀ i, i ≤ cells.length → Ev (fun k => impl_PlainPasture.l1 0 cells k (startP W H) (i : Int)) (startP W H) := by
  refine upL ?_ ?_
  · exact Ev.step (fun k => impl_PlainPasture.l1.eq_2 _ _ _ _ _) (Ev.neg (by omega) (Ev.const rfl))
  · intro i hi ih
    obtain ⟨x, y, hx, hy, e⟩ := hc _ (List.getElem_mem hi)
    rw [← wsucc hi (by omega)] at ih
    have hg : getI cells (i : Int) = some ⟨(x : Int), (y : Int)⟩ := by rw [getI_nat hi, e]
    have eg : aset (startP W H).Grass y (aset (gR (startP W H).Grass y) x (IntKind.i16.wrap 0)) = (startP W H).Grass := by
      have h0 : IntKind.i16.wrap 0 = gA (gR (startP W H).Grass y) x := by
        show _ = gA (gR (Arr.mk' (Arr.mk' 0 : Arr 10 Int) : Tb) y) x
        rw [gR_zero, gA_zero]; decide
      rw [h0, aset_self _ hx, asetR_self _ hy]
    refine Ev.step (fun k => impl_PlainPasture.l1.eq_2 _ _ _ _ _) (Ev.pos (by omega) (Ev.bind (Ev.const hg) (Ev.bind (Ev.const (getR (startP W H).Grass hy)) (Ev.bind (Ev.const (getA _ hx)) ?_))))
    simp only [Int.toNat_natCast]
    rw [eg]
    exact ih
theorem plain_ev {W H : Nat} (hW : W ≤ 1048577) (hH : H ≤ 1048577) : Ev (fun k => impl_PlainPasture.f k (W : Int) (H : Int) 0) (if (1 ≤ W ∧ W ≤ 10) ∧ (1 ≤ H ∧ H ≤ 10) then (startP W H, 0) else (zeroP, 2)) := by
  by_cases h1 : 1 ≤ W ∧ W ≤ 10
  · by_cases h2 : 1 ≤ H ∧ H ≤ 10
    · rw [if_pos ⟨h1, h2⟩]
      have ew : (⟨IntKind.i8.wrap (W : Int), IntKind.i8.wrap (H : Int), (Arr.mk' (Arr.mk' 0 : Arr 10 Int) : Arr 10 (Arr 10 Int)), (Arr.mk' 0 : Arr 10 Int), (Arr.mk' 0 : Arr 10 Int)⟩ : Pasture) = startP W H := by
        unfold startP
        rw [wi8 (by omega), wi8 (by omega)]
      have hok : okW (startP W H) = true := okW_iff.2 ⟨⟨by show (1 : Int) ≤ (W : Int); omega, by show (W : Int) ≤ 10; omega⟩, by show (1 : Int) ≤ (H : Int); omega, by show (H : Int) ≤ 10; omega⟩
      refine Ev.bind (a := false) (Ev.bind (Ev.const (within_eq _ _ _)) (Ev.neg (by simp; omega) (Ev.bind (Ev.const (within_eq _ _ _)) (Ev.neg (by simp; omega) (Ev.bind (Ev.const (within_eq _ _ _)) (Ev.const (by decide))))))) (Ev.neg (by simp) ?_)
      rw [ew]
      have hgl := gridF_len (fun _ _ => true) (startP W H).Wide.toNat (startP W H).High.toNat 0
      have hm : (startP W H).High.toNat * (startP W H).Wide.toNat ≤ 10 * 10 := Nat.mul_le_mul (by show ((H : Int)).toNat ≤ 10; omega) (by show ((W : Int)).toNat ≤ 10; omega)
      refine Ev.bind ⟨24, fun k hk => all_eq hok hk⟩ (Ev.bind (plain_loop _ (by omega) (fun s hs => ?_) 0 (Nat.zero_le _)) (Ev.const rfl))
      obtain ⟨i, j, a1, a2, a3, a4, rfl⟩ := gridF_mem.1 hs
      have b1 : (startP W H).High.toNat = H := by show ((H : Int)).toNat = H; omega
      have b2 : (startP W H).Wide.toNat = W := by show ((W : Int)).toNat = W; omega
      exact ⟨j, i, by omega, by omega, rfl⟩
    · rw [if_neg (fun h => h2 h.2)]
      exact Ev.bind (a := true) (Ev.bind (Ev.const (within_eq _ _ _)) (Ev.neg (by simp; omega) (Ev.bind (Ev.const (within_eq _ _ _)) (Ev.pos (by simp; omega) (Ev.const rfl))))) (Ev.pos rfl (Ev.const rfl))
  · rw [if_neg (fun h => h1 h.1)]
    exact Ev.bind (a := true) (Ev.bind (Ev.const (within_eq _ _ _)) (Ev.pos (by simp; omega) (Ev.const rfl))) (Ev.pos rfl (Ev.const rfl))
theorem specRows_wide (W H : Nat) : ∀ ls : List (List UInt8), ls ≠ [] → specRows (startP 0 H) 0 ls = specRows (startP W H) 0 ls
  | [], h => absurd rfl h
  | l :: ls, _ => by
    rw [specRows, specRows]
    simp only [Nat.lt_irrefl, false_and, or_false]
    rfl
theorem toB_empty {x : List UInt8} : toB x = ByteArray.empty ↔ x = [] := ⟨fun h => toB_inj (m := []) h, fun h => by rw [h]; rfl⟩
theorem read_ev (t : ByteArray) (ht : t.size ≤ 1048576) : ∃ r : Pasture × Int, Ev (fun k => spec_ReadPasture.f k t) r ∧ Ev (fun k => impl_ReadPasture.f k t) r := by
  have hz : t.data.toList.length = t.size := (size_toList t).symm
  have c1 := spl_count 10 t.data.toList
  have c2 := spl_len 10 t.data.toList
  have cn := spl_ne 10 t.data.toList
  have cj := join_spl 10 t.data.toList
  have s1 := specSplit_ev t 10 ht
  have i1 : strings_Split.f t (⟨#[10]⟩ : ByteArray) = some ((spl 10 t.data.toList).map toB) := by
    have := split_eq t.data.toList 10 (by omega)
    rw [toB_of] at this
    exact this
  have h2 : 2 ≤ (spl 10 t.data.toList).length → t ≠ ByteArray.empty := fun h e => by
    rw [e] at h
    exact absurd h (by decide)
  generalize hL : spl 10 t.data.toList = L at *
  have hs : ∀ x ∈ L, x.length ≤ 1048576 := fun x hx => by have := c2 x hx; omega
  obtain ⟨H, hn⟩ : ∃ H, L.length = H + 1 := ⟨L.length - 1, by have := List.length_pos_iff.2 cn; omega⟩
  have hb : IntKind.i64.wrap (((L.map toB).length : Int) - 1) = (H : Int) := by rw [List.length_map, hn, w64 (by omega) (by omega)]; omega
  have hgH : getI (L.map toB) (H : Int) = some (toB (L[H]'(by omega))) := getM L (by omega)
  have hg0 : getI (L.map toB) 0 = some (toB (L[0]'(by omega))) := getM L (i := 0) (by omega)
  have h00 := hs _ (List.getElem_mem (show 0 < L.length by omega))
  have i2 := split_eq (L[0]'(by omega)) 32 h00
  have w1 := spl_count 32 (L[0]'(by omega))
  have w0 : 1 ≤ (spl 32 (L[0]'(by omega))).length := List.length_pos_iff.2 (spl_ne _ _)
  obtain ⟨W, hW⟩ : ∃ W, (spl 32 (L[0]'(by omega))).length = W := ⟨_, rfl⟩
  rw [hW] at w0 w1
  have pl := plain_ev (W := W) (H := H) (by omega) (by omega)
  have y5 : Ev (fun k => ((getI (L.map toB) (IntKind.i64.wrap (((L.map toB).length : Int) - 1))).bind fun t6 => if t6 ≠ ByteArray.empty then (some true) else (if (IntKind.i64.wrap (((L.map toB).length : Int) - 1)) < 1 then (some true) else (some (decide (10 < (IntKind.i64.wrap (((L.map toB).length : Int) - 1)))))))) (decide ((L[H]'(by omega)) ≠ [] ∨ H < 1 ∨ 10 < H)) := by
    rw [hb]
    refine Ev.bind (Ev.const hgH) ?_
    by_cases hl : (L[H]'(by omega)) = []
    · refine Ev.neg (by simp [toB_empty, hl]) ?_
      by_cases h1 : H < 1
      · exact Ev.pos (by omega) (Ev.const (by rw [decide_eq_true (.inr (.inl h1))]))
      · refine Ev.neg (by omega) (Ev.const ?_)
        congr 1
        rw [decide_eq_decide]
        constructor
        · intro h; exact .inr (.inr (by omega))
        · rintro (h | h | h)
          · exact absurd hl h
          · omega
          · omega
    · exact Ev.pos (fun h => hl (toB_empty.1 h)) (Ev.const (by rw [decide_eq_true (.inl hl)]))
  have y5t : ((L[H]'(by omega)) ≠ [] ∨ H < 1 ∨ 10 < H) → Ev (fun k => ((getI (L.map toB) (IntKind.i64.wrap (((L.map toB).length : Int) - 1))).bind fun t6 => if t6 ≠ ByteArray.empty then (some true) else (if (IntKind.i64.wrap (((L.map toB).length : Int) - 1)) < 1 then (some true) else (some (decide (10 < (IntKind.i64.wrap (((L.map toB).length : Int) - 1)))))))) true := fun h => by
    have e : decide ((L[H]'(by omega)) ≠ [] ∨ H < 1 ∨ 10 < H) = true := decide_eq_true h
    have y := y5
    rw [e] at y
    exact y
  have y5f : ¬ ((L[H]'(by omega)) ≠ [] ∨ H < 1 ∨ 10 < H) → Ev (fun k => ((getI (L.map toB) (IntKind.i64.wrap (((L.map toB).length : Int) - 1))).bind fun t6 => if t6 ≠ ByteArray.empty then (some true) else (if (IntKind.i64.wrap (((L.map toB).length : Int) - 1)) < 1 then (some true) else (some (decide (10 < (IntKind.i64.wrap (((L.map toB).length : Int) - 1)))))))) false := fun h => by
    have e : decide ((L[H]'(by omega)) ≠ [] ∨ H < 1 ∨ 10 < H) = false := decide_eq_false h
    have y := y5
    rw [e] at y
    exact y
  have lz : (((spl 32 (L[0]'(by omega))).map toB).length : Int) = (W : Int) := by rw [List.length_map, hW]
  have impl0 : ∀ {r}, Ev (fun k => (impl_PlainPasture.f k (W : Int) (H : Int) 0).bind fun t11 => if t11.2 ≠ 0 then (some (zeroP, (5 : Int))) else ((chk ((0 : Int) ≤ 0 ∧ 0 ≤ t11.1.High ∧ t11.1.High ≤ ((L.map toB).length : Int))).bind fun u13 => (impl_ReadPasture.l1 (L.map toB) t11 k t11.1 0).bind fun s66 => match s66 with | .inl r => some r | .inr y14 => (impl_PastureText.f k y14).bind fun t35 => if t35 ≠ t then (some (zeroP, 5)) else (some (y14, 0)))) r → Ev (fun k => impl_ReadPasture.f k t) r := fun {r} h => by
    refine Ev.bind (Ev.const i1) (Ev.bind (Ev.const hg0) (Ev.bind (Ev.const i2) (Ev.bind (Ev.const (show impl_size_string.f _ = some (W : Int) from congrArg some lz)) (Ev.bind (Ev.const (show impl_size_string.f _ = some (((L.map toB).length : Nat) : Int) from rfl)) ?_))))
    rw [hb]
    exact h
  by_cases hdim : W ≤ 10 ∧ 1 ≤ H ∧ H ≤ 10
  · obtain ⟨d1, d2, d3⟩ := hdim
    rw [if_pos ⟨⟨w0, d1⟩, d2, d3⟩] at pl
    have hlt : (L.take H).length = H := by rw [List.length_take]; omega
    have hcons : L.take H = (L[0]'(by omega)) :: (L.take H).drop 1 := by
      have h0 : 0 < (L.take H).length := by omega
      have := List.drop_eq_getElem_cons h0
      rw [List.drop_zero, List.getElem_take] at this
      exact this
    have hne : L.take H ≠ [] := by rw [hcons]; simp
    obtain ⟨sg, sc⟩ := start_good W H
    have sr := specRows_ev L d3 hn hs 0 (Nat.zero_le _) (startP 0 H) (by show (0 : Int) ≤ ((0 : Nat) : Int); omega) (by show ((0 : Nat) : Int) ≤ 10; omega)
    have ir := implRows_ev L d3 (by omega) d1 hs (startP W H, 0) rfl 0 (Nat.zero_le _) (startP W H) rfl sg
    rw [List.drop_zero] at sr ir
    have est : (⟨0, IntKind.i8.wrap (IntKind.i64.wrap (((L.map toB).length : Int) - 1)), (Arr.mk' (Arr.mk' 0 : Arr 10 Int) : Arr 10 (Arr 10 Int)), (Arr.mk' 0 : Arr 10 Int), (Arr.mk' 0 : Arr 10 Int)⟩ : Pasture) = startP 0 H := by
      rw [hb, wi8 (by omega)]; rfl
    have spec0 : ∀ {r}, Ev (fun k => (spec_ReadPasture.l1 (L.map toB) k (startP 0 H) 0).bind fun s3 => match s3 with | .inl r => some r | .inr y8 => (spec_l01Ok.f k y8).bind fun t36 => if (!t36) = true then (some (zeroP, (5 : Int))) else (some (y8, 0))) r → (L[H]'(by omega)) = [] → Ev (fun k => spec_ReadPasture.f k t) r := fun {r} h hl => by
      refine Ev.bind s1 (Ev.bind (y5f (by rintro (h | h | h) <;> first | exact h hl | omega)) (Ev.neg (by simp) ?_))
      rw [est]
      exact h
    have ck : chk ((0 : Int) ≤ 0 ∧ 0 ≤ (startP W H).High ∧ (startP W H).High ≤ ((L.map toB).length : Int)) = some () := chkX ⟨by omega, by show (0 : Int) ≤ (H : Int); omega, by rw [List.length_map, hn]; show (H : Int) ≤ _; omega⟩
    by_cases hgood : (L[H]'(by omega)) = [] ∧ ∀ z ∈ L.take H, (∃ cs, rowP (spl 32 z) = some cs) ∧ (spl 32 z).length = W
    · obtain ⟨hl, hr⟩ := hgood
      obtain ⟨Q, q1, q2, q3, q4, q5, q6, q7⟩ := rows_both d1 (L.take H) (startP W H) 0 rfl (by omega) sg (fun y' _ _ => sc y') hr
      rw [specRows_wide W H _ hne, q1] at sr
      rw [q2] at ir
      have qW : Q.Wide = (W : Int) := q4
      have qH : Q.High = (H : Int) := q5
      have v := VPasture_of q3 (by omega) (by omega)
      have so := specOk_ev v
      have tx := text_ev q3 d1 qW d3 qH
      have lines : ((List.range' 0 H).map (lineT Q W)) ++ [[]] = L := by
        apply List.ext_getElem
        · simp; omega
        · intro i h1 h2
          by_cases hi : i < H
          · rw [List.getElem_append_left (by simpa using hi), List.getElem_map, List.getElem_range']
            have := q7 i (by omega)
            simp only [Nat.zero_add, Nat.one_mul] at this ⊢
            unfold lineT
            rw [this, join_spl, List.getElem_take]
          · have : i = H := by omega
            subst this
            rw [List.getElem_append_right (by simp)]
            simp [hl]
      rw [rowsT_join, lines, cj, toB_of] at tx
      refine ⟨if vP Q = true then (Q, 0) else (zeroP, 5), spec0 (Ev.bind sr (so.bind ?_)) hl, impl0 (pl.bind (Ev.neg (by simp) (Ev.bind (Ev.const ck) (Ev.bind ir (tx.bind ?_)))))⟩
      · cases vP Q
        · exact Ev.pos rfl (Ev.const rfl)
        · exact Ev.neg (by simp) (Ev.const rfl)
      · cases vP Q
        · exact Ev.pos (by simpa using fun e => h2 (by omega) e.symm) (Ev.const rfl)
        · exact Ev.neg (by simp) (Ev.const rfl)
    · refine ⟨(zeroP, 5), ?_, impl0 (pl.bind (Ev.neg (by simp) (Ev.bind (Ev.const ck) (Ev.bind ir ?_))))⟩
      · by_cases hl : (L[H]'(by omega)) = []
        · refine spec0 (Ev.bind sr ?_) hl
          cases e : specRows (startP 0 H) 0 (L.take H) with
          | none => exact Ev.const rfl
          | some P' =>
            rw [hcons] at e
            have := (specRows_first e).2
            rw [← hcons, hW] at this
            exact absurd ⟨hl, this⟩ hgood
        · exact Ev.bind s1 (Ev.bind (y5t (.inl hl)) (Ev.pos rfl (Ev.const rfl)))
      · cases e : implRows W (startP W H) 0 (L.take H) with
        | none => exact Ev.const rfl
        | some Q =>
          obtain ⟨q3, q4, q5, q6⟩ := implRows_some d1 _ _ _ 0 sg (by omega) e
          have qW : Q.Wide = (W : Int) := q4
          have qH : Q.High = (H : Int) := q5
          have tx := text_ev q3 d1 qW d3 qH
          refine Ev.bind tx (Ev.pos (fun heq => ?_) (Ev.const rfl))
          cases hv : vP Q
          · rw [hv] at heq
            exact h2 (by omega) (by simpa using heq.symm)
          · rw [hv, if_pos rfl, ← toB_of t] at heq
            have hl := toB_inj heq
            rw [rowsT_join] at hl
            have hL2 : spl 10 t.data.toList = ((List.range' 0 H).map (lineT Q W)) ++ [[]] := by
              rw [← hl]
              refine spl_join 10 (by simp) fun x hx => ?_
              rcases List.mem_append.1 hx with hx | hx
              · obtain ⟨y, _, rfl⟩ := List.mem_map.1 hx
                exact (line_words w0).2
              · rw [List.mem_singleton.1 hx]; simp
            rw [hL] at hL2
            refine hgood ⟨?_, fun z hz => ⟨q6 z hz, ?_⟩⟩
            · have : L[H]? = some [] := by
                rw [hL2, List.getElem?_append_right (by simp)]
                simp
              rw [List.getElem?_eq_getElem (show H < L.length by omega)] at this
              exact Option.some.inj this
            · rw [hL2, List.take_append_of_le_length (by simp), List.take_of_length_le (by simp)] at hz
              obtain ⟨y, _, rfl⟩ := List.mem_map.1 hz
              rw [(line_words w0).1]
              unfold rowT
              simp
  · have hif : ¬ ((1 ≤ W ∧ W ≤ 10) ∧ (1 ≤ H ∧ H ≤ 10)) := fun h => hdim ⟨h.1.2, h.2.1, h.2.2⟩
    rw [if_neg hif] at pl
    refine ⟨(zeroP, 5), ?_, impl0 (pl.bind (Ev.pos (by simp) (Ev.const rfl)))⟩
    by_cases hbad : (L[H]'(by omega)) ≠ [] ∨ H < 1 ∨ 10 < H
    · exact Ev.bind s1 (Ev.bind (y5t hbad) (Ev.pos rfl (Ev.const rfl)))
    · have y5 := y5f hbad
      have d2 : 1 ≤ H := by omega
      have d3 : H ≤ 10 := by omega
      have hlt : (L.take H).length = H := by rw [List.length_take]; omega
      have hcons : L.take H = (L[0]'(by omega)) :: (L.take H).drop 1 := by
        have h0 : 0 < (L.take H).length := by omega
        have := List.drop_eq_getElem_cons h0
        rw [List.drop_zero, List.getElem_take] at this
        exact this
      have sr := specRows_ev L d3 hn hs 0 (Nat.zero_le _) (startP 0 H) (by show (0 : Int) ≤ ((0 : Nat) : Int); omega) (by show ((0 : Nat) : Int) ≤ 10; omega)
      rw [List.drop_zero, hcons, specRows, if_pos (.inl (by rw [hW]; omega))] at sr
      have est : (⟨0, IntKind.i8.wrap (IntKind.i64.wrap (((L.map toB).length : Int) - 1)), (Arr.mk' (Arr.mk' 0 : Arr 10 Int) : Arr 10 (Arr 10 Int)), (Arr.mk' 0 : Arr 10 Int), (Arr.mk' 0 : Arr 10 Int)⟩ : Pasture) = startP 0 H := by
        rw [hb, wi8 (by omega)]; rfl
      refine Ev.bind s1 (Ev.bind y5 (Ev.neg (by simp) ?_))
      rw [est]
      exact Ev.bind sr (Ev.const rfl)
/-! ### The pastures are compared -/
theorem eqRow_ev (a : Arr 10 Int) : Ev (fun k => laws_eqInt16A10.f k a a) true := by
  have key : ∀ i : Nat, i ≤ 10 → Ev (fun k => laws_eqInt16A10.l1 a a k (i : Int)) (.inr ()) := by
    refine upL ?_ ?_
    · exact Ev.step (fun k => laws_eqInt16A10.l1.eq_2 _ _ _ _) (Ev.neg (by omega) (Ev.const rfl))
    · intro i hi ih
      rw [← wsucc hi (by omega)] at ih
      exact Ev.step (fun k => laws_eqInt16A10.l1.eq_2 _ _ _ _) (Ev.pos (by omega) (Ev.bind (Ev.const (getA a hi)) (Ev.bind (Ev.const (getA a hi)) (Ev.neg (by simp) ih))))
  exact Ev.bind (key 0 (Nat.zero_le _)) (Ev.const rfl)
theorem eqRowU_ev (a : Arr 10 Int) : Ev (fun k => laws_eqUint16A10.f k a a) true := by
  have key : ∀ i : Nat, i ≤ 10 → Ev (fun k => laws_eqUint16A10.l1 a a k (i : Int)) (.inr ()) := by
    refine upL ?_ ?_
    · exact Ev.step (fun k => laws_eqUint16A10.l1.eq_2 _ _ _ _) (Ev.neg (by omega) (Ev.const rfl))
    · intro i hi ih
      rw [← wsucc hi (by omega)] at ih
      exact Ev.step (fun k => laws_eqUint16A10.l1.eq_2 _ _ _ _) (Ev.pos (by omega) (Ev.bind (Ev.const (getA a hi)) (Ev.bind (Ev.const (getA a hi)) (Ev.neg (by simp) ih))))
  exact Ev.bind (key 0 (Nat.zero_le _)) (Ev.const rfl)
theorem eqTab_ev (m : Tb) : Ev (fun k => laws_eqInt16A10A10.f k m m) true := by
  have key : ∀ i : Nat, i ≤ 10 → Ev (fun k => laws_eqInt16A10A10.l1 m m k (i : Int)) (.inr ()) := by
    refine upL ?_ ?_
    · exact Ev.step (fun k => laws_eqInt16A10A10.l1.eq_2 _ _ _ _) (Ev.neg (by omega) (Ev.const rfl))
    · intro i hi ih
      rw [← wsucc hi (by omega)] at ih
      exact Ev.step (fun k => laws_eqInt16A10A10.l1.eq_2 _ _ _ _) (Ev.pos (by omega) (Ev.bind (Ev.const (getR m hi)) (Ev.bind (Ev.const (getR m hi)) ((eqRow_ev _).bind (Ev.neg (by simp) ih)))))
  exact Ev.bind (key 0 (Nat.zero_le _)) (Ev.const rfl)
theorem eqPasture_ev (P : Pasture) : Ev (fun k => laws_eqPasture.f k P P) true :=
  Ev.neg (by simp) (Ev.neg (by simp) ((eqTab_ev _).bind (Ev.neg (by simp) ((eqRowU_ev _).bind (Ev.neg (by simp) ((eqRowU_ev _).bind (Ev.neg (by simp) (Ev.const rfl))))))))
theorem FnExactReadPasture.pure (x0 : ByteArray) (hv0 : x0.size ≤ maxLen) : ∃ k, laws_FnExactReadPasture.f k x0 = some true := by
  refine Ev.get (r := true) ?_
  by_cases h0 : 1048576 < x0.size
  · exact Ev.pos (by omega) (Ev.const rfl)
  · obtain ⟨⟨P, c⟩, h1, h2⟩ := read_ev x0 (by omega)
    exact Ev.neg (by omega) (h1.bind (h2.bind ((eqPasture_ev P).bind (Ev.neg (by simp) (Ev.neg (by simp) (Ev.const rfl))))))
end Go.Proofs.YthlljmjaaljdnaaDoor
