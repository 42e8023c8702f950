
/-
  Plain laws: when a herd is valid; the codes of what is asked of it.
-/
import Derived.Test.YtplfdbfdalaefaaGreatDoorQW
namespace Go.Proofs.YtplfdbfdalaefaaGreatDoor
open G
set_option linter.unusedVariables false
set_option linter.unusedSimpArgs false

def foes (h : Herd) (a : Nat) : Int := h.Foes.getD a 0
def foeB (h : Herd) (a b : Nat) : Bool := decide (andI .u16 (shrI .u16 (foes h a) (b : Int)) 1 = 1)
theorem foes_in {h : Herd} (v : VHerd h) (a : Nat) : 0 ≤ foes h a ∧ foes h a ≤ 65535 := by
  unfold foes
  rw [List.getD_eq_getElem?_getD]
  cases e : h.Foes[a]? with
  | none => simp
  | some x => exact u16b (v.2.2.2.2.1 x (List.mem_of_getElem? e))
theorem foes_get {h : Herd} {a : Nat} (ha : a < h.Foes.length) : getI h.Foes (a : Int) = some (foes h a) := by
  rw [getI_nat ha]; simp [foes, List.getD_eq_getElem?_getD, List.getElem?_eq_getElem ha]
theorem implAre_eq {h : Herd} {a b : Nat} (ha : a < h.Foes.length) : impl_Herd_areFoes.f h (a : Int) (b : Int) = some (foeB h a b) := by
  unfold impl_Herd_areFoes.f
  rw [foes_get ha, Option.bind_some, chk_t (by omega), Option.bind_some]; rfl
theorem specAre_eq {h : Herd} (v : VHerd h) {a b : Nat} (ha : a < h.Foes.length) (hb : b ≤ 4294967296) : spec_l06Are.f h (a : Int) (b : Int) = some (foeB h a b) := by
  have hf := foes_in v a
  have hs := shr_le hf.1 hf.2 (b : Int)
  unfold spec_l06Are.f foeB
  rw [foes_get ha, Option.bind_some, wu64 (by omega) (by omega), chk_t (by omega), Option.bind_some, tmod2 hs.1, and1 hs.1 hs.2]
/-- The names ahead of one. -/
def symB (h : Herd) (i k : Nat) : Bool := foeB h i k == foeB h k i
def eats (h : Herd) (i : Nat) : Int := h.Eats.getD i 0
def nm (h : Herd) (i : Nat) : ByteArray := h.Names.getD i ByteArray.empty
def okI (h : Herd) (i : Nat) : Bool := nameB (nm h i) && (decide (0 ≤ eats h i ∧ eats h i ≤ 100) && (decide (shrI .u16 (foes h i) (h.Names.length : Int) = 0) && (!foeB h i i)))
def prB (h : Herd) (i k : Nat) : Bool := !decide (nm h k = nm h i) && symB h i k
def vH (h : Herd) : Bool := decide (h.Names.length ≤ 14 ∧ h.Eats.length = h.Names.length ∧ h.Foes.length = h.Names.length) && upA (fun i => okI h i && upA (prB h i) 0 i) 0 h.Names.length
theorem nm_get {h : Herd} {i : Nat} (hi : i < h.Names.length) : getI h.Names (i : Int) = some (nm h i) := by
  rw [getI_nat hi]; simp [nm, List.getD_eq_getElem?_getD, List.getElem?_eq_getElem hi]
theorem eats_get {h : Herd} {i : Nat} (hi : i < h.Eats.length) : getI h.Eats (i : Int) = some (eats h i) := by
  rw [getI_nat hi]; simp [eats, List.getD_eq_getElem?_getD, List.getElem?_eq_getElem hi]
theorem nm_size {h : Herd} (v : VHerd h) (i : Nat) : (nm h i).size ≤ maxLen := by
  unfold nm
  rw [List.getD_eq_getElem?_getD]
  cases e : h.Names[i]? with
  | none => exact Nat.zero_le _
  | some x => exact v.1 x (List.mem_of_getElem? e)
theorem eats_in {h : Herd} (v : VHerd h) (i : Nat) : -32768 ≤ eats h i ∧ eats h i ≤ 32767 := by
  unfold eats
  rw [List.getD_eq_getElem?_getD]
  cases e : h.Eats[i]? with
  | none => simp
  | some x => exact i16b (v.2.2.1 x (List.mem_of_getElem? e))

/-! ### The reference's -/
theorem specPair_loop {h : Herd} (v : VHerd h) (hn : h.Names.length ≤ 14) (hf : h.Foes.length = h.Names.length) {i : Nat} (hi : i < h.Names.length) : ∀ k : Nat, k ≤ i → Ev (fun f => spec_l06Ok.l2 h (i : Int) f (k : Int)) (if upA (prB h i) k (i - k) = true then .inr () else .inl (.inl (.inl false))) := by
  refine upL ?_ ?_
  · rw [Nat.sub_self]
    exact Ev.step (fun k => spec_l06Ok.l2.eq_2 _ _ _ _) (Ev.neg (by omega) (Ev.const rfl))
  · intro k hk ih
    refine Ev.step (fun k => spec_l06Ok.l2.eq_2 _ _ _ _) (Ev.pos (by omega) ?_)
    rw [upA_step _ hk]
    simp only [nm_get (show k < h.Names.length by omega), nm_get hi, Option.bind_some, specAre_eq v (show i < h.Foes.length by omega) (show k ≤ 4294967296 by omega), specAre_eq v (show k < h.Foes.length by omega) (show i ≤ 4294967296 by omega), wsucc hk (by omega)]
    by_cases h1 : nm h k = nm h i
    · refine Ev.pos h1 (Ev.const ?_)
      simp [prB, h1]
    · refine Ev.neg h1 ?_
      by_cases h2 : foeB h i k = foeB h k i
      · refine Ev.neg (by simp [h2]) ?_
        simpa [prB, h1, symB, h2] using ih
      · refine Ev.pos h2 (Ev.const ?_)
        simp [prB, h1, symB, h2]
theorem specHerd_loop {h : Herd} (v : VHerd h) (hn : h.Names.length ≤ 14) (he : h.Eats.length = h.Names.length) (hf : h.Foes.length = h.Names.length) : ∀ i : Nat, i ≤ h.Names.length → Ev (fun f => spec_l06Ok.l1 h f (i : Int)) (if upA (fun i => okI h i && upA (prB h i) 0 i) i (h.Names.length - i) = true then .inr () else .inl false) := by
  refine upL ?_ ?_
  · rw [Nat.sub_self]
    exact Ev.step (fun k => spec_l06Ok.l1.eq_2 _ _ _) (Ev.neg (by omega) (Ev.const rfl))
  · intro i hi ih
    have hp := specPair_loop v hn hf hi 0 (Nat.zero_le _)
    rw [Nat.sub_zero] at hp
    have b := eats_in v i
    refine Ev.step (fun k => spec_l06Ok.l1.eq_2 _ _ _) (Ev.pos (by omega) ?_)
    rw [upA_step _ hi]
    simp only [wsucc hi (by omega)]
    refine Ev.bind (a := if (okI h i && upA (prB h i) 0 i) = true then .inr () else .inl (.inl false)) (Ev.bind (a := !okI h i) ?_ ?_) ?_
    · simp only [nm_get hi, eats_get (show i < h.Eats.length by omega), foes_get (show i < h.Foes.length by omega), Option.bind_some, specAre_eq v (show i < h.Foes.length by omega) (show i ≤ 4294967296 by omega), l00In_eq, w64 (show -9223372036854775808 ≤ eats h i by omega) (by omega), wu64 (show (0 : Int) ≤ (h.Names.length : Int) by omega) (by omega), chk_t (show (0 : Int) ≤ (h.Names.length : Int) by omega)]
      refine (specName_ev (nm h i) (Nat.le_trans (nm_size v i) (by decide))).bind (Ev.const ?_)
      unfold okI
      cases nameB (nm h i)
      · rfl
      · by_cases h1 : 0 ≤ eats h i ∧ eats h i ≤ 100
        · by_cases h2 : shrI .u16 (foes h i) (h.Names.length : Int) = 0
          · cases foeB h i i <;> simp [h1, h2]
          · simp [h1, h2]
        · simp [h1]
    · cases okI h i
      · exact Ev.const rfl
      · refine Ev.neg (by simp) (hp.bind ?_)
        cases upA (prB h i) 0 i <;> exact Ev.const rfl
    · cases okI h i <;> cases upA (prB h i) 0 i
      · exact Ev.const rfl
      · exact Ev.const rfl
      · exact Ev.const rfl
      · simpa using ih
theorem specHerd_ev {h : Herd} (v : VHerd h) : Ev (fun k => spec_l06Ok.f k h) (vH h) := by
  obtain ⟨v1, n1, v2, n2, v3, n3⟩ := v
  by_cases hl : h.Names.length ≤ 14 ∧ h.Eats.length = h.Names.length ∧ h.Foes.length = h.Names.length
  · have hp := specHerd_loop ⟨v1, n1, v2, n2, v3, n3⟩ hl.1 hl.2.1 hl.2.2 0 (Nat.zero_le _)
    rw [Nat.sub_zero] at hp
    refine Ev.bind (a := false) (Ev.const ?_) (Ev.neg (by simp) (hp.bind ?_))
    · rw [if_neg (by omega), if_neg (by omega)]; simp; omega
    · unfold vH
      rw [decide_eq_true hl, Bool.true_and]
      cases upA (fun i => okI h i && upA (prB h i) 0 i) 0 h.Names.length <;> exact Ev.const rfl
  · have : vH h = false := by unfold vH; rw [decide_eq_false hl, Bool.false_and]
    rw [this]
    refine Ev.bind (a := true) (Ev.const ?_) (Ev.const rfl)
    by_cases h1 : 14 < (h.Names.length : Int)
    · rw [if_pos h1]
    · rw [if_neg h1]
      by_cases h2 : (h.Eats.length : Int) ≠ (h.Names.length : Int)
      · rw [if_pos h2]
      · rw [if_neg h2]; simp; omega

/-! ### The program's -/
def hasS (xs : List ByteArray) (s : ByteArray) : Bool := xs.any fun x => decide (x = s)
theorem index_loop (xs : List ByteArray) (hx : xs.length ≤ 1048576) (s : ByteArray) : ∀ i : Nat, i ≤ xs.length → ∃ r : Int ⊕ Unit, Ev (fun k => slices_Index_string_string.l1 xs s k (i : Int)) r ∧ ((r = .inr () ∧ hasS (xs.drop i) s = false) ∨ ∃ j : Int, 0 ≤ j ∧ r = .inl j ∧ hasS (xs.drop i) s = true) := by
  refine upL ?_ ?_
  · exact ⟨.inr (), Ev.step (fun k => slices_Index_string_string.l1.eq_2 _ _ _ _) (Ev.neg (by omega) (Ev.const rfl)), .inl ⟨rfl, by simp [hasS]⟩⟩
  · rintro i hi ⟨r, ih, h⟩
    by_cases hb : s = xs[i]
    · refine ⟨.inl (i : Int), Ev.step (fun k => slices_Index_string_string.l1.eq_2 _ _ _ _) (Ev.pos (by omega) (Ev.bind (Ev.const (getI_nat hi)) (Ev.pos hb (Ev.const rfl)))), .inr ⟨i, by omega, rfl, ?_⟩⟩
      rw [List.drop_eq_getElem_cons hi]
      unfold hasS
      rw [List.any_cons, decide_eq_true hb.symm, Bool.true_or]
    · rw [← wsucc hi (by omega)] at ih
      refine ⟨r, Ev.step (fun k => slices_Index_string_string.l1.eq_2 _ _ _ _) (Ev.pos (by omega) (Ev.bind (Ev.const (getI_nat hi)) (Ev.neg hb ih))), ?_⟩
      have e : hasS (xs.drop i) s = hasS (xs.drop (i + 1)) s := by
        rw [List.drop_eq_getElem_cons hi]
        unfold hasS
        rw [List.any_cons, decide_eq_false (fun e => hb e.symm), Bool.false_or]
      rw [e]; exact h
theorem containsS_ev (xs : List ByteArray) (hx : xs.length ≤ 1048576) (s : ByteArray) : Ev (fun k => slices_Contains_string_string.f k xs s) (hasS xs s) := by
  obtain ⟨r, hr, h⟩ := index_loop xs hx s 0 (Nat.zero_le _)
  rw [List.drop_zero] at h
  rcases h with ⟨rfl, h⟩ | ⟨j, hj, rfl, h⟩
  · rw [h]; exact Ev.bind (Ev.bind hr (Ev.const rfl)) (Ev.const rfl)
  · rw [h]; exact Ev.bind (Ev.bind hr (Ev.const rfl)) (Ev.const (by simp [hj]))
theorem implPair_loop {h : Herd} (v : VHerd h) (hn : h.Names.length ≤ 14) (hf : h.Foes.length = h.Names.length) {i : Nat} (hi : i < h.Names.length) : ∀ k : Nat, k ≤ i → Ev (fun f => impl_ValidHerd.l2 h (i : Int) f (k : Int)) (if upA (symB h i) k (i - k) = true then .inr () else .inl (.inl (.inl false))) := by
  refine upL ?_ ?_
  · rw [Nat.sub_self]
    exact Ev.step (fun k => impl_ValidHerd.l2.eq_2 _ _ _ _) (Ev.neg (by omega) (Ev.const rfl))
  · intro k hk ih
    refine Ev.step (fun k => impl_ValidHerd.l2.eq_2 _ _ _ _) (Ev.pos (by omega) ?_)
    rw [upA_step _ hk]
    simp only [Option.bind_some, implAre_eq (h := h) (b := k) (show i < h.Foes.length by omega), implAre_eq (h := h) (b := i) (show k < h.Foes.length by omega), wsucc hk (by omega)]
    by_cases h2 : foeB h i k = foeB h k i
    · refine Ev.neg (by simp [h2]) ?_
      simpa [symB, h2] using ih
    · refine Ev.pos h2 (Ev.const ?_)
      simp [symB, h2]
theorem hasS_iff (xs : List ByteArray) (s : ByteArray) : hasS xs s = true ↔ s ∈ xs := by
  unfold hasS
  rw [List.any_eq_true]
  constructor
  · rintro ⟨x, hx, e⟩
    rw [← of_decide_eq_true e]; exact hx
  · exact fun h => ⟨s, h, decide_eq_true rfl⟩
theorem contains_up {h : Herd} (i : Nat) (hi : i ≤ h.Names.length) (s : ByteArray) : hasS (h.Names.take i) s = !upA (fun k => !decide (nm h k = s)) 0 i := by
  rw [Bool.eq_iff_iff, Bool.not_eq_true', hasS_iff]
  constructor
  · intro hm
    cases hu : upA (fun k => !decide (nm h k = s)) 0 i
    · rfl
    · obtain ⟨j, hj⟩ := List.mem_iff_getElem?.1 hm
      rw [List.getElem?_take] at hj
      split at hj
      · rename_i hji
        have := (upA_iff _ _ _).1 hu j (Nat.zero_le _) (by omega)
        have e : nm h j = s := by simp [nm, List.getD_eq_getElem?_getD, hj]
        simp [e] at this
      · cases hj
  · intro hu
    refine Classical.byContradiction fun hm => ?_
    have : upA (fun k => !decide (nm h k = s)) 0 i = true := by
      rw [upA_iff]
      intro j _ hj
      have hjl : j < h.Names.length := by omega
      simp only [Bool.not_eq_true', decide_eq_false_iff_not]
      intro e
      apply hm
      rw [List.mem_iff_getElem?]
      refine ⟨j, ?_⟩
      rw [List.getElem?_take, if_pos (by omega), ← e]
      simp [nm, List.getD_eq_getElem?_getD, List.getElem?_eq_getElem hjl]
    rw [this] at hu; cases hu
theorem prB_and (h : Herd) (i : Nat) : upA (prB h i) 0 i = (upA (fun k => !decide (nm h k = nm h i)) 0 i && upA (symB h i) 0 i) := upA_and _ _ _ _
theorem implHerd_loop {h : Herd} (v : VHerd h) (hn : h.Names.length ≤ 14) (he : h.Eats.length = h.Names.length) (hf : h.Foes.length = h.Names.length) : ∀ i : Nat, i ≤ h.Names.length → Ev (fun f => impl_ValidHerd.l1 h f (i : Int)) (if upA (fun i => okI h i && upA (prB h i) 0 i) i (h.Names.length - i) = true then .inr () else .inl false) := by
  refine upL ?_ ?_
  · rw [Nat.sub_self]
    exact Ev.step (fun k => impl_ValidHerd.l1.eq_2 _ _ _) (Ev.neg (by omega) (Ev.const rfl))
  · intro i hi ih
    have hp := implPair_loop v hn hf hi 0 (Nat.zero_le _)
    rw [Nat.sub_zero] at hp
    have b := eats_in v i
    have hc := containsS_ev (h.Names.take i) (by rw [List.length_take]; omega) (nm h i)
    rw [contains_up i (by omega)] at hc
    have hcut : (h.Names.drop 0).take (((i : Int)).toNat - 0) = h.Names.take i := by simp
    refine Ev.step (fun k => impl_ValidHerd.l1.eq_2 _ _ _) (Ev.pos (by omega) ?_)
    rw [upA_step _ hi, prB_and]
    simp only [wsucc hi (by omega), nm_get hi, Option.bind_some]
    refine Ev.bind (a := if (okI h i && (upA (fun k => !decide (nm h k = nm h i)) 0 i && upA (symB h i) 0 i)) = true then .inr () else .inl (.inl false)) (Ev.bind (a := !(okI h i && upA (fun k => !decide (nm h k = nm h i)) 0 i)) ?_ ?_) ?_
    · refine (isName_ev (nm h i) (nm_size v i)).bind ?_
      unfold okI
      cases nameB (nm h i)
      · exact Ev.const rfl
      · refine Ev.neg (by simp) (Ev.bind (Ev.const (chk_t (by omega))) ?_)
        rw [hcut]
        refine hc.bind ?_
        cases upA (fun k => !decide (nm h k = nm h i)) 0 i
        · rw [Bool.and_false]; exact Ev.const rfl
        · simp only [eats_get (show i < h.Eats.length by omega), foes_get (show i < h.Foes.length by omega), Option.bind_some, implAre_eq (h := h) (b := i) (show i < h.Foes.length by omega), within_eq, w64 (show -9223372036854775808 ≤ eats h i by omega) (by omega), chk_t (show (0 : Int) ≤ (h.Names.length : Int) by omega)]
          refine Ev.neg (by simp) (Ev.const ?_)
          by_cases h1 : 0 ≤ eats h i ∧ eats h i ≤ 100
          · by_cases h2 : shrI .u16 (foes h i) (h.Names.length : Int) = 0
            · cases foeB h i i <;> simp [h1, h2]
            · simp [h1, h2]
          · simp [h1]
    · cases okI h i
      · exact Ev.const rfl
      · cases upA (fun k => !decide (nm h k = nm h i)) 0 i
        · exact Ev.const rfl
        · refine Ev.neg (by simp) (hp.bind ?_)
          cases upA (symB h i) 0 i <;> exact Ev.const rfl
    · cases okI h i <;> cases upA (fun k => !decide (nm h k = nm h i)) 0 i <;> cases upA (symB h i) 0 i <;> first | exact Ev.const rfl | simpa using ih
theorem implHerd_ev {h : Herd} (v : VHerd h) : Ev (fun k => impl_ValidHerd.f k h) (vH h) := by
  obtain ⟨v1, n1, v2, n2, v3, n3⟩ := v
  by_cases hl : h.Names.length ≤ 14 ∧ h.Eats.length = h.Names.length ∧ h.Foes.length = h.Names.length
  · have hp := implHerd_loop ⟨v1, n1, v2, n2, v3, n3⟩ hl.1 hl.2.1 hl.2.2 0 (Nat.zero_le _)
    rw [Nat.sub_zero] at hp
    refine Ev.bind (a := false) (Ev.const ?_) (Ev.neg (by simp) (hp.bind ?_))
    · rw [if_neg (by omega), if_neg (by omega)]; simp; omega
    · unfold vH
      rw [decide_eq_true hl, Bool.true_and]
      cases upA (fun i => okI h i && upA (prB h i) 0 i) 0 h.Names.length <;> exact Ev.const rfl
  · have : vH h = false := by unfold vH; rw [decide_eq_false hl, Bool.false_and]
    rw [this]
    refine Ev.bind (a := true) (Ev.const ?_) (Ev.const rfl)
    by_cases h1 : 14 < (h.Names.length : Int)
    · rw [if_pos h1]
    · rw [if_neg h1]
      by_cases h2 : (h.Eats.length : Int) ≠ (h.Names.length : Int)
      · rw [if_pos h2]
      · rw [if_neg h2]; simp; omega
theorem vH_len {h : Herd} (hv : vH h = true) : h.Names.length ≤ 14 ∧ h.Eats.length = h.Names.length ∧ h.Foes.length = h.Names.length := by
  unfold vH at hv
  rw [Bool.and_eq_true, decide_eq_true_eq] at hv
  exact hv.1
theorem vH_small {h : Herd} (hv : vH h = true) : smallH h := by
  obtain ⟨a, b, c⟩ := vH_len hv
  exact ⟨by omega, by omega, by omega⟩
end Go.Proofs.YtplfdbfdalaefaaGreatDoor
