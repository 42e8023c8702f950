import Derived.Test.YtplfdbfdalaefaaGreatDoorQW
/-
  Plain laws: when a herd is valid; the codes of what is asked of it.
-/
namespace Go.Proofs.YtplfdbfdalaefaaGreatDoor
open G
set_option linter.unusedVariables false
set_option linter.unusedSimpArgs false

def foes (h : Herd) (a : Nat) : Int := h.Foes.getD a 0
def foeB (h : Herd) (a b : Nat) : Bool := decide (andI .u16 (shrI .u16 (foes h a) (b : Int)) 1 = 1)
theorem foes_in {h : Herd} (v : VHerd h) (a : Nat) : 0 ≤ foes h a ∧ foes h a ≤ 65535 := by
  unfold foes
  rw [List.getD_eq_getElem?_getD]
  cases e : h.Foes[a]? with
  | none => simp
  | some x => exact u16b (v.2.2.2.2.1 x (List.mem_of_getElem? e))
theorem foes_get {h : Herd} {a : Nat} (ha : a < h.Foes.length) : getI h.Foes (a : Int) = some (foes h a) := by
 rw [getI_nat ha]; simp [foes, List.getD_eq_getElem?_getD, List.getElem?_eq_getElem ha]
theorem implAre_eq {h : Herd} {a b : Nat} (ha : a < h.Foes.length) : impl_Herd_areFoes.f h (a : Int) (b : Int) = some (foeB h a b) := by
 unfold impl_Herd_areFoes.f
 rw [foes_get ha, Option.bind_some, chk_t (by omega), Option.bind_some]; rfl
theorem specAre_eq {h : Herd} (v : VHerd h) {a b : Nat} (ha : a < h.Foes.length) (hb : b ≤ 4294967296) : spec_l06Are.f h (a : Int) (b : Int) = some (foeB h a b) := by
 have hf := foes_in v a
 have hs := shr_le hf.1 hf.2 (b : Int)
 unfold spec_l06Are.f foeB
 rw [foes_get ha, Option.bind_some, wu64 (by omega) (by omega), chk_t (by omega), Option.bind_some, tmod2 hs.1, and1 hs.1 hs.2]
def symB (h : Herd) (i k : Nat) : Bool := foeB h i k == foeB h k i
def eats (h : Herd) (i : Nat) : Int := h.Eats.getD i 0
def nm (h : Herd) (i : Nat) : ByteArray := h.Names.getD i ByteArray.empty
def okI (h : Herd) (i : Nat) : Bool := nameB (nm h i) && (decide (0 ≤ eats h i ∧ eats h i ≤ 100) && (decide (shrI .u16 (foes h i) (h.Names.length : Int) = 0) && (!foeB h i i)))
def prB (h : Herd) (i k : Nat) : Bool := !decide (nm h k = nm h i) && symB h i k
def vH (h : Herd) : Bool := decide (h.Names.length ≤ 14 ∧ h.Eats.length = h.Names.length ∧ h.Foes.length = h.Names.length) && upA (fun i => okI h i && upA (prB h i) 0 i) 0 h.Names.length
theorem nm_get {h : Herd} {i : Nat} (hi : i < h.Names.length) : getI h.Names (i : Int) = some (nm h i) := by
 rw [getI_nat hi]; simp [nm, List.getD_eq_getElem?_getD, List.getElem?_eq_getElem hi]
theorem eats_get {h : Herd} {i : Nat} (hi : i < h.Eats.length) : getI h.Eats (i : Int) = some (eats h i) := by
 rw [getI_nat hi]; simp [eats, List.getD_eq_getElem?_getD, List.getElem?_eq_getElem hi]
theorem nm_size {h : Herd} (v : VHerd h) (i : Nat) : (nm h i).size ≤ maxLen := by
  unfold nm
  rw [List.getD_eq_getElem?_getD]
  cases e : h.Names[i]? with
  | none => exact Nat.zero_le _
  | some x => exact v.1 x (List.mem_of_getElem? e)
theorem eats_in {h : Herd} (v : VHerd h) (i : Nat) : -32768 ≤ eats h i ∧ eats h i ≤ 32767 := by
  unfold eats
  rw [List.getD_eq_getElem?_getD]
  cases e : h.Eats[i]? with
  | none => simp
  | some x => exact i16b (v.2.2.1 x (List.mem_of_getElem? e))

theorem specPair_loop {h : Herd} (v : VHerd h) (hn : h.Names.length ≤ 14) (hf : h.Foes.length = h.Names.length) {i : Nat} (hi : i < h.Names.length) : ∀ k : Nat, k ≤ i → Ev (fun f => spec_l06Ok.l2 h (i : Int) f (k : Int)) (if upA (prB h i) k (i - k) = true then .inr () else .inl (.inl (.inl false))) := by
 refine upL ?_ ?_
 ·rw [Nat.sub_self]
  exact Ev.step (fun k => spec_l06Ok.l2.eq_2 _ _ _ _) (Ev.neg (by omega) (Ev.const rfl))
 intro k hk ih
 refine Ev.step (fun k => spec_l06Ok.l2.eq_2 _ _ _ _) (Ev.pos (by omega) ?_)
 rw [upA_step _ hk]
 simp only [nm_get (show k < h.Names.length by omega), nm_get hi, Option.bind_some, specAre_eq v (show i < h.Foes.length by omega) (show k ≤ 4294967296 by omega), specAre_eq v (show k < h.Foes.length by omega) (show i ≤ 4294967296 by omega), wsucc hk (by omega)]
 by_cases h1 : nm h k = nm h i
 ·refine Ev.pos h1 (Ev.const ?_)
  simp [prB, h1]
 refine Ev.neg h1 ?_
 by_cases h2 : foeB h i k = foeB h k i
 ·refine Ev.neg (by simp [h2]) ?_
  simpa [prB, h1, symB, h2] using ih
 refine Ev.pos h2 (Ev.const ?_)
 simp [prB, h1, symB, h2]
theorem specHerd_loop {h : Herd} (v : VHerd h) (hn : h.Names.length ≤ 14) (he : h.Eats.length = h.Names.length) (hf : h.Foes.length = h.Names.length) : ∀ i : Nat, i ≤ h.Names.length → Ev (fun f => spec_l06Ok.l1 h f (i : Int)) (if upA (fun i => okI h i && upA (prB h i) 0 i) i (h.Names.length - i) = true then .inr () else .inl false) := by
 refine upL ?_ ?_
 ·rw [Nat.sub_self]
  exact Ev.step (fun k => spec_l06Ok.l1.eq_2 _ _ _) (Ev.neg (by omega) (Ev.const rfl))
 intro i hi ih
 have hp := specPair_loop v hn hf hi 0 (Nat.zero_le _)
 rw [Nat.sub_zero] at hp
 have b := eats_in v i
 refine Ev.step (fun k => spec_l06Ok.l1.eq_2 _ _ _) (Ev.pos (by omega) ?_)
 rw [upA_step _ hi]
 simp only [wsucc hi (by omega)]
 refine Ev.bind (a := if (okI h i && upA (prB h i) 0 i) = true then .inr () else .inl (.inl false)) (Ev.bind (a := !okI h i) ?_ ?_) ?_
 ·simp only [nm_get hi, eats_get (show i < h.Eats.length by omega), foes_get (show i < h.Foes.length by omega), Option.bind_some, specAre_eq v (show i < h.Foes.length by omega) (show i ≤ 4294967296 by omega), l00In_eq, w64 (show -9223372036854775808 ≤ eats h i by omega) (by omega), wu64 (show (0 : Int) ≤ (h.Names.length : Int) by omega) (by omega), chk_t (show (0 : Int) ≤ (h.Names.length : Int) by omega)]
  refine (specName_ev (nm h i) (Nat.le_trans (nm_size v i) (by decide))).bind (Ev.const ?_)
  unfold okI
  cases nameB (nm h i)
  ·rfl
  by_cases h1 : 0 ≤ eats h i ∧ eats h i ≤ 100
  ·by_cases h2 : shrI .u16 (foes h i) (h.Names.length : Int) = 0
   ·cases foeB h i i <;> simp [h1, h2]
   simp [h1, h2]
  simp [h1]
 ·cases okI h i
  ·exact Ev.const rfl
  refine Ev.neg (by simp) (hp.bind ?_)
  cases upA (prB h i) 0 i <;> exact Ev.const rfl
 cases okI h i <;> cases upA (prB h i) 0 i
 ·exact Ev.const rfl
 ·exact Ev.const rfl
 ·exact Ev.const rfl
 simpa using ih
theorem specHerd_ev {h : Herd} (v : VHerd h) : Ev (fun k => spec_l06Ok.f k h) (vH h) := by
 obtain ⟨v1, n1, v2, n2, v3, n3⟩ := v
 by_cases hl : h.Names.length ≤ 14 ∧ h.Eats.length = h.Names.length ∧ h.Foes.length = h.Names.length
 ·have hp := specHerd_loop ⟨v1, n1, v2, n2, v3, n3⟩ hl.1 hl.2.1 hl.2.2 0 (Nat.zero_le _)
  rw [Nat.sub_zero] at hp
  refine Ev.bind (a := false) (Ev.const ?_) (Ev.neg (by simp) (hp.bind ?_))
  ·rw [if_neg (by omega), if_neg (by omega)]; simp; omega
  unfold vH
  rw [decide_eq_true hl, Bool.true_and]
  cases upA (fun i => okI h i && upA (prB h i) 0 i) 0 h.Names.length <;> exact Ev.const rfl
 have : vH h = false := by unfold vH; rw [decide_eq_false hl, Bool.false_and]
 rw [this]
 refine Ev.bind (a := true) (Ev.const ?_) (Ev.const rfl)
 by_cases h1 : 14 < (h.Names.length : Int)
 ·rw [if_pos h1]
 rw [if_neg h1]
 by_cases h2 : (h.Eats.length : Int) ≠ (h.Names.length : Int)
 ·rw [if_pos h2]
 rw [if_neg h2]; simp; omega

def hasS (xs : List ByteArray) (s : ByteArray) : Bool := xs.any fun x => decide (x = s)
theorem index_loop (xs : List ByteArray) (hx : xs.length ≤ 1048576) (s : ByteArray) : ∀ i : Nat, i ≤ xs.length → ∃ r : Int ⊕ Unit, Ev (fun k => slices_Index_string_string.l1 xs s k (i : Int)) r ∧ ((r = .inr () ∧ hasS (xs.drop i) s = false) ∨ ∃ j : Int, 0 ≤ j ∧ r = .inl j ∧ hasS (xs.drop i) s = true) := by
 refine upL ?_ ?_
 ·exact ⟨.inr (), Ev.step (fun k => slices_Index_string_string.l1.eq_2 _ _ _ _) (Ev.neg (by omega) (Ev.const rfl)), .inl ⟨rfl, by simp [hasS]⟩⟩
 rintro i hi ⟨r, ih, h⟩
 by_cases hb : s = xs[i]
 ·refine ⟨.inl (i : Int), Ev.step (fun k => slices_Index_string_string.l1.eq_2 _ _ _ _) (Ev.pos (by omega) (Ev.bind (Ev.const (getI_nat hi)) (Ev.pos hb (Ev.const rfl)))), .inr ⟨i, by omega, rfl, ?_⟩⟩
  rw [List.drop_eq_getElem_cons hi]
  unfold hasS
  rw [List.any_cons, decide_eq_true hb.symm, Bool.true_or]
 rw [← wsucc hi (by omega)] at ih
 refine ⟨r, Ev.step (fun k => slices_Index_string_string.l1.eq_2 _ _ _ _) (Ev.pos (by omega) (Ev.bind (Ev.const (getI_nat hi)) (Ev.neg hb ih))), ?_⟩
 have e : hasS (xs.drop i) s = hasS (xs.drop (i + 1)) s := by
   rw [List.drop_eq_getElem_cons hi]
   unfold hasS
   rw [List.any_cons, decide_eq_false (fun e => hb e.symm), Bool.false_or]
 rw [e]; exact h
theorem containsS_ev (xs : List ByteArray) (hx : xs.length ≤ 1048576) (s : ByteArray) : Ev (fun k => slices_Contains_string_string.f k xs s) (hasS xs s) := by
 obtain ⟨r, hr, h⟩ := index_loop xs hx s 0 (Nat.zero_le _)
 rw [List.drop_zero] at h
 rcases h with ⟨rfl, h⟩ | ⟨j, hj, rfl, h⟩
 ·rw [h]; exact Ev.bind (Ev.bind hr (Ev.const rfl)) (Ev.const rfl)
 rw [h]; exact Ev.bind (Ev.bind hr (Ev.const rfl)) (Ev.const (by simp [hj]))
theorem implPair_loop {h : Herd} (v : VHerd h) (hn : h.Names.length ≤ 14) (hf : h.Foes.length = h.Names.length) {i : Nat} (hi : i < h.Names.length) : ∀ k : Nat, k ≤ i → Ev (fun f => impl_ValidHerd.l2 h (i : Int) f (k : Int)) (if upA (symB h i) k (i - k) = true then .inr () else .inl (.inl (.inl false))) := by
 refine upL ?_ ?_
 ·rw [Nat.sub_self]
  exact Ev.step (fun k => impl_ValidHerd.l2.eq_2 _ _ _ _) (Ev.neg (by omega) (Ev.const rfl))
 intro k hk ih
 refine Ev.step (fun k => impl_ValidHerd.l2.eq_2 _ _ _ _) (Ev.pos (by omega) ?_)
 rw [upA_step _ hk]
 simp only [Option.bind_some, implAre_eq (h := h) (b := k) (show i < h.Foes.length by omega), implAre_eq (h := h) (b := i) (show k < h.Foes.length by omega), wsucc hk (by omega)]
 by_cases h2 : foeB h i k = foeB h k i
 ·refine Ev.neg (by simp [h2]) ?_
  simpa [symB, h2] using ih
 refine Ev.pos h2 (Ev.const ?_)
 simp [symB, h2]
theorem hasS_iff (xs : List ByteArray) (s : ByteArray) : hasS xs s = true ↔ s ∈ xs := by
 unfold hasS
 rw [List.any_eq_true]
 constructor
 ·rintro ⟨x, hx, e⟩
  rw [← of_decide_eq_true e]; exact hx
 exact fun h => ⟨s, h, decide_eq_true rfl⟩
theorem contains_up {h : Herd} (i : Nat) (hi : i ≤ h.Names.length) (s : ByteArray) : hasS (h.Names.take i) s = !upA (fun k => !decide (nm h k = s)) 0 i := by
 rw [Bool.eq_iff_iff, Bool.not_eq_true', hasS_iff]
 constructor
 ·intro hm
  cases hu : upA (fun k => !decide (nm h k = s)) 0 i
  ·rfl
  obtain ⟨j, hj⟩ := List.mem_iff_getElem?.1 hm
  rw [List.getElem?_take] at hj
  split at hj
  ·rename_i hji
   have := (upA_iff _ _ _).1 hu j (Nat.zero_le _) (by omega)
   have e : nm h j = s := by simp [nm, List.getD_eq_getElem?_getD, hj]
   simp [e] at this
  cases hj
 intro hu
 refine Classical.byContradiction fun hm => ?_
 have : upA (fun k => !decide (nm h k = s)) 0 i = true := by
   rw [upA_iff]
   intro j _ hj
   have hjl : j < h.Names.length := by omega
   simp only [Bool.not_eq_true', decide_eq_false_iff_not]
   intro e
   apply hm
   rw [List.mem_iff_getElem?]
   refine ⟨j, ?_⟩
   rw [List.getElem?_take, if_pos (by omega), ← e]
   simp [nm, List.getD_eq_getElem?_getD, List.getElem?_eq_getElem hjl]
 rw [this] at hu; cases hu
theorem prB_and (h : Herd) (i : Nat) : upA (prB h i) 0 i = (upA (fun k => !decide (nm h k = nm h i)) 0 i && upA (symB h i) 0 i) := upA_and _ _ _ _
theorem implHerd_loop {h : Herd} (v : VHerd h) (hn : h.Names.length ≤ 14) (he : h.Eats.length = h.Names.length) (hf : h.Foes.length = h.Names.length) : ∀ i : Nat, i ≤ h.Names.length → Ev (fun f => impl_ValidHerd.l1 h f (i : Int)) (if upA (fun i => okI h i && upA (prB h i) 0 i) i (h.Names.length - i) = true then .inr () else .inl false) := by
 refine upL ?_ ?_
 ·rw [Nat.sub_self]
  exact Ev.step (fun k => impl_ValidHerd.l1.eq_2 _ _ _) (Ev.neg (by omega) (Ev.const rfl))
 intro i hi ih
 have hp := implPair_loop v hn hf hi 0 (Nat.zero_le _)
 rw [Nat.sub_zero] at hp
 have b := eats_in v i
 have hc := containsS_ev (h.Names.take i) (by rw [List.length_take]; omega) (nm h i)
 rw [contains_up i (by omega)] at hc
 have hcut : (h.Names.drop 0).take (((i : Int)).toNat - 0) = h.Names.take i := by simp
 refine Ev.step (fun k => impl_ValidHerd.l1.eq_2 _ _ _) (Ev.pos (by omega) ?_)
 rw [upA_step _ hi, prB_and]
 simp only [wsucc hi (by omega), nm_get hi, Option.bind_some]
 refine Ev.bind (a := if (okI h i && (upA (fun k => !decide (nm h k = nm h i)) 0 i && upA (symB h i) 0 i)) = true then .inr () else .inl (.inl false)) (Ev.bind (a := !(okI h i && upA (fun k => !decide (nm h k = nm h i)) 0 i)) ?_ ?_) ?_
 ·refine (isName_ev (nm h i) (nm_size v i)).bind ?_
  unfold okI
  cases nameB (nm h i)
  ·exact Ev.const rfl
  refine Ev.neg (by simp) (Ev.bind (Ev.const (chk_t (by omega))) ?_)
  rw [hcut]
  refine hc.bind ?_
  cases upA (fun k => !decide (nm h k = nm h i)) 0 i
  ·rw [Bool.and_false]; exact Ev.const rfl
  simp only [eats_get (show i < h.Eats.length by omega), foes_get (show i < h.Foes.length by omega), Option.bind_some, implAre_eq (h := h) (b := i) (show i < h.Foes.length by omega), within_eq, w64 (show -9223372036854775808 ≤ eats h i by omega) (by omega), chk_t (show (0 : Int) ≤ (h.Names.length : Int) by omega)]
  refine Ev.neg (by simp) (Ev.const ?_)
  by_cases h1 : 0 ≤ eats h i ∧ eats h i ≤ 100
  ·by_cases h2 : shrI .u16 (foes h i) (h.Names.length : Int) = 0
   ·cases foeB h i i <;> simp [h1, h2]
   simp [h1, h2]
  simp [h1]
 ·cases okI h i
  ·exact Ev.const rfl
  cases upA (fun k => !decide (nm h k = nm h i)) 0 i
  ·exact Ev.const rfl
  refine Ev.neg (by simp) (hp.bind ?_)
  cases upA (symB h i) 0 i <;> exact Ev.const rfl
 cases okI h i <;> cases upA (fun k => !decide (nm h k = nm h i)) 0 i <;> cases upA (symB h i) 0 i <;> first | exact Ev.const rfl | simpa using ih
theorem implHerd_ev {h : Herd} (v : VHerd h) : Ev (fun k => impl_ValidHerd.f k h) (vH h) := by
 obtain ⟨v1, n1, v2, n2, v3, n3⟩ := v
 by_cases hl : h.Names.length ≤ 14 ∧ h.Eats.length = h.Names.length ∧ h.Foes.length = h.Names.length
 ·have hp := implHerd_loop ⟨v1, n1, v2, n2, v3, n3⟩ hl.1 hl.2.1 hl.2.2 0 (Nat.zero_le _)
  rw [Nat.sub_zero] at hp
  refine Ev.bind (a := false) (Ev.const ?_) (Ev.neg (by simp) (hp.bind ?_))
  ·rw [if_neg (by omega), if_neg (by omega)]; simp; omega
  unfold vH
  rw [decide_eq_true hl, Bool.true_and]
  cases upA (fun i => okI h i && upA (prB h i) 0 i) 0 h.Names.length <;> exact Ev.const rfl
 have : vH h = false := by unfold vH; rw [decide_eq_false hl, Bool.false_and]
 rw [this]
 refine Ev.bind (a := true) (Ev.const ?_) (Ev.const rfl)
 by_cases h1 : 14 < (h.Names.length : Int)
 ·rw [if_pos h1]
 rw [if_neg h1]
 by_cases h2 : (h.Eats.length : Int) ≠ (h.Names.length : Int)
 ·rw [if_pos h2]
 rw [if_neg h2]; simp; omega
theorem vH_len {h : Herd} (hv : vH h = true) : h.Names.length ≤ 14 ∧ h.Eats.length = h.Names.length ∧ h.Foes.length = h.Names.length := by
 unfold vH at hv
 rw [Bool.and_eq_true, decide_eq_true_eq] at hv
 exact hv.1
theorem vH_small {h : Herd} (hv : vH h = true) : smallH h := by
 obtain ⟨a, b, c⟩ := vH_len hv
 exact ⟨by omega, by omega, by omega⟩
end Go.Proofs.YtplfdbfdalaefaaGreatDoor
namespace Go.Proofs.YtplfdbfdalaefaaGreatDoor
open G
set_option linter.unusedVariables false
set_option linter.unusedSimpArgs false

theorem indexI_loop (xs : List Int) {g : Int → Option Bool} {p : Int → Bool} (hg : ∀ x ∈ xs, g x = some (p x)) (hx : xs.length ≤ 9223372036854775806) : ∀ i : Nat, i ≤ xs.length → ∃ r, Ev (fun k => slices_IndexFunc_int64_int64.l1 xs g k (i : Int)) r ∧
 ((r = .inr () ∧ (xs.drop i).any p = false) ∨ ∃ j : Int, 0 ≤ j ∧ r = .inl j ∧ (xs.drop i).any p = true) := by
 refine upL ?_ ?_
 ·refine ⟨.inr (), Ev.step (fun k => slices_IndexFunc_int64_int64.l1.eq_2 _ _ _ _) ?_, .inl ⟨rfl, by simp⟩⟩
  exact Ev.neg (by omega) (Ev.const rfl)
 rintro i hi ⟨r, ih, h⟩
 by_cases hb : p xs[i] = true
 ·refine ⟨.inl (i : Int), Ev.step (fun k => slices_IndexFunc_int64_int64.l1.eq_2 _ _ _ _) ?_, .inr ⟨i, by omega, rfl, ?_⟩⟩
  ·refine Ev.pos (by omega) ?_
   simp only [getI_nat hi, Option.bind_some, hg _ (List.getElem_mem hi), hb, if_true]
   exact Ev.const rfl
  rw [List.drop_eq_getElem_cons hi, List.any_cons, hb, Bool.true_or]
 refine ⟨r, Ev.step (fun k => slices_IndexFunc_int64_int64.l1.eq_2 _ _ _ _) ?_, ?_⟩
 ·refine Ev.pos (by omega) ?_
  simp only [getI_nat hi, Option.bind_some, hg _ (List.getElem_mem hi), wsucc hi (by omega)]
  exact Ev.neg hb ih
 rw [List.drop_eq_getElem_cons hi, List.any_cons]
 simp only [Bool.not_eq_true] at hb
 rw [hb, Bool.false_or]
 exact h
theorem containsI_ev (xs : List Int) {g : Int → Option Bool} {p : Int → Bool} (hg : ∀ x ∈ xs, g x = some (p x)) (hx : xs.length ≤ 9223372036854775806) : Ev (fun k => slices_ContainsFunc_int64_int64.f k xs g) (xs.any p) := by
 obtain ⟨r, hr, h⟩ := indexI_loop xs hg hx 0 (Nat.zero_le _)
 rw [List.drop_zero] at h
 rcases h with ⟨rfl, h⟩ | ⟨j, hj, rfl, h⟩
 ·rw [h]; exact Ev.bind (Ev.bind hr (Ev.const rfl)) (Ev.const rfl)
 rw [h]; exact Ev.bind (Ev.bind hr (Ev.const rfl)) (Ev.const (by simp [hj]))

def goatB (h : Herd) (g : Int) : Bool := decide (0 ≤ g ∧ g ≤ (h.Names.length : Int) - 1)
def goatC (h : Herd) (gs : List Int) : Int := if vH h = false then 1 else if gs.all (goatB h) = true then 0 else 2
theorem herdCode1_eq {h : Herd} (hn : h.Names.length ≤ 14) (g : Int) : impl_herdCode_1.f h g = some (!goatB h g) := by
 unfold impl_herdCode_1.f impl_Herd_many.f impl_size_string.f
 simp only [Option.bind_some, within_eq]
 rw [w64 (by omega) (by omega)]; rfl
theorem herdCode_ev {h : Herd} (v : VHerd h) (gs : List Int) (hx : gs.length ≤ 1048576) : Ev (fun k => impl_herdCode.f k h gs) (goatC h gs) := by
 unfold goatC
 refine (implHerd_ev v).bind ?_
 cases hv : vH h
 ·exact Ev.const rfl
 refine Ev.neg (by simp) ((containsI_ev gs (fun y _ => herdCode1_eq (vH_len hv).1 y) (by omega)).bind (Ev.const ?_))
 have ha : gs.any (fun y => !goatB h y) = !gs.all (goatB h) := by rw [List.not_all_eq_any_not]
 rw [ha, Bool.not_not, unless_eq, Option.bind_some]
 cases gs.all (goatB h) <;> rfl
end Go.Proofs.YtplfdbfdalaefaaGreatDoor
namespace Go.Proofs.YtplfdbfdalaefaaGreatDoor
open G
set_option linter.unusedVariables false
set_option linter.unusedSimpArgs false
theorem chkT {p : Prop} [Decidable p] (h : p) : chk p = some () := if_pos h
def bitN (m : Int) (i : Nat) : Bool := decide (andI .u16 (shrI .u16 m (i : Int)) 1 = 1)
theorem foeB_bit (h : Herd) (a b : Nat) : foeB h a b = bitN (foes h a) b := rfl
def bl (m : Int) (i n : Nat) : List Int := ((List.range' i n).filter (bitN m)).map fun j : Nat => (j : Int)
theorem bl_step (m : Int) {i n : Nat} (h : i < n) : bl m i (n - i) = (if bitN m i = true then [(i : Int)] else []) ++ bl m (i + 1) (n - (i + 1)) := by
 rw [show n - i = (n - (i + 1)) + 1 by omega]
 unfold bl
 rw [List.range'_succ, List.filter_cons]
 split <;> simp
theorem listed_loop (m : Int) : ∀ i, i ≤ 16 → ∀ ys : List Int, ys.length ≤ i → Ev (fun k => impl_listed.l1 m k ys (i : Int)) (ys ++ bl m i (16 - i)) := by
 refine upL ?_ ?_
 ·intro ys h
  refine Ev.step (fun k => impl_listed.l1.eq_2 _ _ _ _) (Ev.neg (by omega) (Ev.const ?_))
  simp [bl]
 intro i hi ih ys h
 refine Ev.step (fun k => impl_listed.l1.eq_2 _ _ _ _) (Ev.pos (by omega) (Ev.bind (Ev.const (chkT (by omega))) ?_))
 rw [wsucc hi (by omega), bl_step m hi]
 by_cases e : andI .u16 (shrI .u16 m (i : Int)) 1 = 1
 ·refine Ev.pos e (Ev.bind (Ev.const (chkT (by simp; omega))) ?_)
  have := ih (ys ++ [(i : Int)]) (by simp; omega)
  rw [List.append_assoc] at this
  rw [if_pos (show bitN m i = true from decide_eq_true e)]; exact this
 refine Ev.neg e ?_
 rw [if_neg (show ¬ bitN m i = true by simp [bitN, e])]
 exact ih ys (by omega)
theorem listed_ev (m : Int) : Ev (fun k => impl_listed.f k m) (bl m 0 16) := by
 have := listed_loop m 0 (by omega) [] (by simp)
 rw [List.nil_append] at this
 exact this.bind (Ev.const rfl)
theorem bit_high {m : Int} (h : 0 ≤ m) (h' : m ≤ 65535) {n j : Nat} (hz : shrI .u16 m (n : Int) = 0) (hj : n ≤ j) : bitN m j = false := by
 have hp : ∀ t : Nat, (0 : Int) < 2 ^ t := fun t => Int.pow_pos (by omega)
 have hz' : shrI .u16 m (j : Int) = 0 := by
   unfold shrI at hz ⊢
   rw [Int.fdiv_eq_ediv_of_nonneg _ (Int.le_of_lt (hp _))] at hz ⊢
   have h1 := Int.mul_ediv_add_emod m (2 ^ (min (n : Int).toNat IntKind.u16.bits))
   have h2 := Int.emod_lt_of_pos m (hp (min (n : Int).toNat IntKind.u16.bits))
   rw [hz, Int.mul_zero, Int.zero_add] at h1
   have h3 : (2 : Int) ^ (min (n : Int).toNat IntKind.u16.bits) ≤ 2 ^ (min (j : Int).toNat IntKind.u16.bits) := by
     exact_mod_cast Nat.pow_le_pow_right (by omega) (show min (n : Int).toNat IntKind.u16.bits ≤ min (j : Int).toNat IntKind.u16.bits by omega)
   exact Int.ediv_eq_zero_of_lt h (by omega)
 unfold bitN
 rw [hz', and1 (by omega) (by omega)]
 rfl
theorem bl_cut {m : Int} {n : Nat} (hn : n ≤ 16) (hb : ∀ j, n ≤ j → bitN m j = false) : bl m 0 16 = bl m 0 n := by
 have e : List.range' 0 16 = List.range' 0 n ++ List.range' n (16 - n) := by
   have := @List.range'_append_1 0 n (16 - n)
   rw [Nat.zero_add, show n + (16 - n) = 16 by omega] at this
   exact this.symm
 have e2 : (List.range' n (16 - n)).filter (bitN m) = [] := by
   rw [List.filter_eq_nil_iff]
   intro a ha
   rw [List.mem_range'_1] at ha
   simp [hb a ha.1]
 unfold bl
 rw [e, List.filter_append, e2, List.append_nil]
theorem bl_len (m : Int) (i n : Nat) : (bl m i n).length ≤ n := by
 unfold bl
 rw [List.length_map]
 exact Nat.le_trans (List.length_filter_le _ _) (by simp)
theorem vH_ok {h : Herd} (hv : vH h = true) {i : Nat} (hi : i < h.Names.length) : okI h i = true ∧ ∀ k, k < i → prB h i k = true := by
 unfold vH at hv
 rw [Bool.and_eq_true] at hv
 have := (upA_iff _ _ _).1 hv.2 i (Nat.zero_le _) (by omega)
 rw [Bool.and_eq_true] at this
 exact ⟨this.1, fun k hk => (upA_iff _ _ _).1 this.2 k (Nat.zero_le _) (by omega)⟩
theorem foes_high {h : Herd} (v : VHerd h) (hv : vH h = true) {a j : Nat} (ha : a < h.Names.length) (hj : h.Names.length ≤ j) : bitN (foes h a) j = false := by
 have := (vH_ok hv ha).1
 unfold okI at this
 simp only [Bool.and_eq_true, decide_eq_true_eq] at this
 exact bit_high (foes_in v a).1 (foes_in v a).2 this.2.2.1 hj
end Go.Proofs.YtplfdbfdalaefaaGreatDoor
