import Derived.Test.YtplfdbfdalaefaaGreatDoorQA
/-
  Plain laws: small functions, wraps, all of some places.
-/
namespace Go.Proofs.YtplfdbfdalaefaaGreatDoor
open G
set_option linter.unusedVariables false
set_option linter.unusedSimpArgs false

theorem l00In_eq (a b c : Int) : spec_l00In.f a b c = some (decide (b ≤ a ∧ a ≤ c)) := by
 unfold spec_l00In.f
 by_cases h : b ≤ a <;> simp [h]
theorem within_eq (a b c : Int) : impl_within.f a b c = some (decide (b ≤ a ∧ a ≤ c)) := by
 unfold impl_within.f
 by_cases h : b ≤ a <;> simp [h]
theorem i8b {x : Int} (h : inI .i8 x) : -128 ≤ x ∧ x ≤ 127 := by
 have h1 : IntKind.i8.min = -128 := by decide
 have h2 : IntKind.i8.max = 127 := by decide
 exact ⟨h1 ▸ h.1, h2 ▸ h.2⟩
theorem i16b {x : Int} (h : inI .i16 x) : -32768 ≤ x ∧ x ≤ 32767 := by
 have h1 : IntKind.i16.min = -32768 := by decide
 have h2 : IntKind.i16.max = 32767 := by decide
 exact ⟨h1 ▸ h.1, h2 ▸ h.2⟩
theorem u16b {x : Int} (h : inI .u16 x) : 0 ≤ x ∧ x ≤ 65535 := by
 have h1 : IntKind.u16.min = 0 := by decide
 have h2 : IntKind.u16.max = 65535 := by decide
 exact ⟨h1 ▸ h.1, h2 ▸ h.2⟩
theorem wu64 {x : Int} (h : 0 ≤ x) (h' : x ≤ 18446744073709551615) : IntKind.u64.wrap x = x := by
 have : IntKind.u64.wrap x = x % 18446744073709551616 := by simp [IntKind.wrap, IntKind.bits, IntKind.signed]
 rw [this]; omega

def upA (q : Nat → Bool) : Nat → Nat → Bool
  | _, 0 => true
  | i, n + 1 => q i && upA q (i + 1) n
theorem upA_iff (q : Nat → Bool) : ∀ (n i : Nat), upA q i n = true ↔ ∀ j, i ≤ j → j < i + n → q j = true
  | 0, i => by simp only [upA, true_iff]; intro j h1 h2; omega
  | n + 1, i => by
    simp only [upA, Bool.and_eq_true, upA_iff q n (i + 1)]
    constructor
    · rintro ⟨h1, h2⟩ j h3 h4
      rcases Nat.eq_or_lt_of_le h3 with rfl | h5
      · exact h1
      · exact h2 j h5 (by omega)
    · intro h
      exact ⟨h i (Nat.le_refl _) (by omega), fun j h1 h2 => h j (by omega) (by omega)⟩

theorem upA_and (q r : Nat → Bool) : ∀ (n i : Nat), upA (fun j => q j && r j) i n = (upA q i n && upA r i n)
  | 0, i => rfl
  | n + 1, i => by
    simp only [upA, upA_and q r n (i + 1)]
    cases q i <;> cases r i <;> simp
theorem upA_step (q : Nat → Bool) {i n : Nat} (h : i < n) : upA q i (n - i) = (q i && upA q (i + 1) (n - (i + 1))) := by
 rw [show n - i = (n - (i + 1)) + 1 by omega]; rfl
theorem and1 {x : Int} (h : 0 ≤ x) (h' : x ≤ 65535) : andI .u16 x 1 = x % 2 := by
 obtain ⟨n, rfl⟩ := Int.eq_ofNat_of_zero_le h
 unfold andI
 have e : (BitVec.ofInt 16 (n : Int) &&& BitVec.ofInt 16 1).toNat = n % 2 := by
   rw [BitVec.toNat_and, BitVec.toNat_ofInt, BitVec.toNat_ofInt]
   have h1 : ((n : Int) % ((2 ^ 16 : Nat) : Int)).toNat = n := by omega
   rw [h1]
   exact Nat.and_one_is_mod n
 show IntKind.u16.wrap (((BitVec.ofInt 16 (n : Int) &&& BitVec.ofInt 16 1).toNat : Nat) : Int) = _
 rw [e, wu16 (by omega) (by omega)]; omega
theorem tmod2 {x : Int} (h : 0 ≤ x) : Int.tmod x 2 = x % 2 := Int.tmod_eq_emod_of_nonneg h
theorem shr_le {x : Int} (h : 0 ≤ x) (h' : x ≤ 65535) (y : Int) : 0 ≤ shrI .u16 x y ∧ shrI .u16 x y ≤ 65535 := by
 unfold shrI
 have hp : (0 : Int) < 2 ^ (min y.toNat IntKind.u16.bits) := Int.pow_pos (by omega)
 rw [Int.fdiv_eq_ediv_of_nonneg _ (Int.le_of_lt hp)]
 refine ⟨Int.ediv_nonneg h (Int.le_of_lt hp), Int.le_trans (Int.ediv_le_self _ h) h'⟩
end Go.Proofs.YtplfdbfdalaefaaGreatDoor
namespace Go.Proofs.YtplfdbfdalaefaaGreatDoor
open G
set_option linter.unusedVariables false
set_option linter.unusedSimpArgs false
theorem unless_eq (b : Bool) (c : Int) : impl_unless.f b c = some (if b = true then 0 else c) := by
 unfold impl_unless.f; split <;> rfl
end Go.Proofs.YtplfdbfdalaefaaGreatDoor
namespace Go.Proofs.YtplfdbfdalaefaaGreatDoor
open G
set_option linter.unusedVariables false
set_option linter.unusedSimpArgs false
set_option maxRecDepth 100000

def byteA (s : ByteArray) (i : Nat) : Nat := (s.data.toList.getD i 0).toNat
theorem byteA_lt (s : ByteArray) (i : Nat) : byteA s i < 256 := (s.data.toList.getD i 0).toNat_lt
theorem size_list (s : ByteArray) : s.data.toList.length = s.size := by simp
theorem getB_at (s : ByteArray) {i : Nat} (h : i < s.size) : getB s (i : Int) = some (byteA s i : Int) := by
 unfold getB byteA
 have h' : i < s.data.toList.length := by rw [size_list]; exact h
 have e : s[i]? = some (s.data.toList[i]'h') := by
   rw [getElem?_pos s i h]; rfl
 rw [if_pos (by omega), Int.toNat_natCast, e]
 simp [List.getD_eq_getElem?_getD, List.getElem?_eq_getElem h']
theorem ex_size (s : ByteArray) {a b : Nat} (hb : b ≤ s.size) : (s.extract a b).size = b - a := by
 rw [ByteArray.size_extract]; omega
theorem ex_at (s : ByteArray) {a b i : Nat} (hb : b ≤ s.size) (hi : i < b - a) : byteA (s.extract a b) i = byteA s (a + i) := by
 unfold byteA
 rw [ByteArray.data_extract, Array.toList_extract, List.extract_eq_take_drop]
 congr 1
 have hl := size_list s
 simp only [List.getD_eq_getElem?_getD, List.getElem?_take, List.getElem?_drop]
 rw [if_pos hi]
theorem empty_iff (s : ByteArray) : s = ByteArray.empty ↔ s.size = 0 := by
  constructor
  · rintro rfl; rfl
  intro h
  have h1 := size_list s
  rw [h] at h1
  have h2 := List.eq_nil_of_length_eq_zero h1
  cases s with
  | mk d =>
    simp only at h2
    have : d = #[] := by apply Array.ext'; simpa using h2
    subst this; rfl
def letB (b : Nat) : Bool := decide (97 ≤ b ∧ b ≤ 122)
def allLet (s : ByteArray) : Bool := upA (fun i => letB (byteA s i)) 0 s.size
def nameB (s : ByteArray) : Bool := decide (1 ≤ s.size ∧ s.size ≤ 8) && allLet s
theorem specName_loop (s : ByteArray) (hs : s.size ≤ 9223372036854775807) : ∀ i : Nat, i ≤ s.size → Ev (fun k => spec_l06Name.l1 s k (i : Int)) (if upA (fun i => letB (byteA s i)) i (s.size - i) = true then .inr () else .inl false) := by
 refine upL ?_ ?_
 ·rw [Nat.sub_self]
  exact Ev.step (fun k => spec_l06Name.l1.eq_2 _ _ _) (Ev.neg (by omega) (Ev.const rfl))
 intro i hi ih
 refine Ev.step (fun k => spec_l06Name.l1.eq_2 _ _ _) (Ev.pos (by omega) ?_)
 rw [upA_step _ hi]
 simp only [getB_at s hi, Option.bind_some, wsucc hi (by omega)]
 by_cases h1 : (byteA s i : Int) < 97
 ·refine Ev.pos h1 (Ev.const ?_)
  simp [letB, show ¬ 97 ≤ byteA s i by omega]
 refine Ev.neg h1 ?_
 by_cases h2 : 122 < (byteA s i : Int)
 ·refine Ev.pos h2 (Ev.const ?_)
  simp [letB, show ¬ byteA s i ≤ 122 by omega]
 refine Ev.neg h2 ?_
 simpa [letB, show 97 ≤ byteA s i by omega, show byteA s i ≤ 122 by omega] using ih
theorem specName_ev (s : ByteArray) (hs : s.size ≤ 9223372036854775807) : Ev (fun k => spec_l06Name.f k s) (nameB s) := by
 have h := specName_loop s hs 0 (Nat.zero_le _)
 rw [Nat.sub_zero] at h
 refine h.bind ?_
 unfold nameB allLet
 cases upA (fun i => letB (byteA s i)) 0 s.size
 ·rw [Bool.and_false]; exact Ev.const rfl
 refine Ev.const ?_
 simp only [if_true, l00In_eq, Option.bind_some, Bool.and_true]
 congr 2
 simp only [eq_iff_iff]; omega

def letters : ByteArray := ⟨#[97, 98, 99, 100, 101, 102, 103, 104, 105, 106, 107, 108, 109, 110, 111, 112, 113, 114, 115, 116, 117, 118, 119, 120, 121, 122]⟩
def letSet : Arr 256 Bool := ⟨(List.range 256).map letB, by simp⟩
theorem letSet_at {b : Nat} (h : b < 256) : strings_asciiSet_contains.f letSet (b : Int) = some (letB b) := by
 unfold strings_asciiSet_contains.f
 rw [getI_nat (by simp [letSet]; exact h)]
 simp [letSet]
theorem ascii_mono (a : ByteArray) : ∀ (k : Nat) (y : Arr 256 Bool) (i : Int) (r), strings_makeASCIISet.l1 a k y i = some r → strings_makeASCIISet.l1 a (k + 1) y i = some r
  | 0, y, i, r, h => by simp [strings_makeASCIISet.l1] at h
  | k + 1, y, i, r, h => by
    rw [strings_makeASCIISet.l1] at h ⊢
    split
    · rename_i hc
      rw [if_pos hc] at h
      cases hb : getB a i with
      | none => rw [hb] at h; simp at h
      | some t =>
        rw [hb, Option.bind_some] at h
        rw [Option.bind_some]
        split
        · rename_i h1; rw [if_pos h1] at h; exact h
        · rename_i h1
          rw [if_neg h1] at h
          cases hg : getI y.l t with
          | none => rw [hg] at h; simp at h
          | some u =>
            rw [hg, Option.bind_some] at h
            rw [Option.bind_some]
            exact ascii_mono a k _ _ _ h
    · rename_i hc
      rw [if_neg hc] at h; exact h
theorem ascii_ev : Ev (fun k => strings_makeASCIISet.f k letters) (letSet, true) := by
 have h0 : strings_makeASCIISet.l1 letters 27 (Arr.mk' false : Arr 256 Bool) 0 = some (.inr letSet) := by decide +kernel
 have h1 : ∀ m, strings_makeASCIISet.l1 letters (27 + m) (Arr.mk' false : Arr 256 Bool) 0 = some (.inr letSet) := by
   intro m
   induction m with
   | zero => exact h0
   | succ m ih => exact ascii_mono _ _ _ _ _ ih
 refine ⟨27, fun k hk => ?_⟩
 have := h1 (k - 27)
 rw [show 27 + (k - 27) = k by omega] at this
 show strings_makeASCIISet.f k letters = _
 unfold strings_makeASCIISet.f
 rw [this]; rfl
theorem allLet_iff (s : ByteArray) : allLet s = true ↔ ∀ j, j < s.size → letB (byteA s j) = true := by
 unfold allLet
 rw [upA_iff]
 exact ⟨fun h j hj => h j (Nat.zero_le _) (by omega), fun h j _ hj => h j (by omega)⟩
theorem trimR_ev : ∀ (n : Nat) (s : ByteArray), s.size = n → n ≤ 4294967296 → ∃ r : ByteArray, Ev (fun k => strings_trimRightASCII.l1 letSet k s) r ∧ r.size ≤ s.size ∧ (allLet r = true ↔ allLet s = true) ∧ (0 < r.size → allLet r = false)
  | 0, s, hn, hs => ⟨s, Ev.step (fun k => strings_trimRightASCII.l1.eq_2 _ _ _) (Ev.neg (by omega) (Ev.const rfl)), Nat.le_refl _, Iff.rfl, fun h => by omega⟩
  | n + 1, s, hn, hs => by
    have hw : IntKind.i64.wrap ((s.size : Int) - 1) = ((n : Nat) : Int) := by rw [w64 (by omega) (by omega)]; omega
    have hb : getB s (n : Int) = some (byteA s n : Int) := getB_at s (by omega)
    have hc := letSet_at (byteA_lt s n)
    cases hl : letB (byteA s n)
    · refine ⟨s, Ev.step (fun k => strings_trimRightASCII.l1.eq_2 _ _ _) (Ev.pos (by omega) ?_), Nat.le_refl _, Iff.rfl, fun _ => ?_⟩
      · rw [hw, hb]
        simp only [Option.bind_some, hc, hl]
        exact Ev.const rfl
      · cases ha : allLet s
        · rfl
        · have := (allLet_iff s).1 ha n (by omega)
          rw [hl] at this; cases this
    · have es : (s.extract 0 n).size = n := by rw [ex_size s (by omega)]; omega
      obtain ⟨r, h1, h2, h3, h4⟩ := trimR_ev n (s.extract 0 n) es (by omega)
      refine ⟨r, Ev.step (fun k => strings_trimRightASCII.l1.eq_2 _ _ _) (Ev.pos (by omega) ?_), by omega, ?_, h4⟩
      · rw [hw, hb]
        simp only [Option.bind_some, hc, hl, chk_t (show (0 : Int) ≤ 0 ∧ (0 : Int) ≤ (n : Int) ∧ (n : Int) ≤ (s.size : Int) by omega), Int.toNat_natCast]
        exact Ev.neg (by simp) h1
      · rw [h3, allLet_iff, allLet_iff, es]
        constructor
        · intro h j hj
          rcases Nat.lt_or_ge j n with h5 | h5
          · have := h j h5
            rw [ex_at s (by omega) (by omega)] at this
            simpa using this
          · obtain rfl : j = n := by omega
            exact hl
        · intro h j hj
          rw [ex_at s (by omega) (by omega)]
          simpa using h j (by omega)
theorem trimL_ev : ∀ (n : Nat) (s : ByteArray), s.size = n → n ≤ 4294967296 → ∃ r : ByteArray, Ev (fun k => strings_trimLeftASCII.l1 letSet k s) r ∧ (r.size = 0 ↔ allLet s = true)
  | 0, s, hn, hs => ⟨s, Ev.step (fun k => strings_trimLeftASCII.l1.eq_2 _ _ _) (Ev.neg (by omega) (Ev.const rfl)), by rw [allLet_iff]; exact ⟨fun _ j hj => by omega, fun _ => hn⟩⟩
  | n + 1, s, hn, hs => by
    have hb : getB s 0 = some (byteA s 0 : Int) := getB_at s (i := 0) (by omega)
    have hc := letSet_at (byteA_lt s 0)
    cases hl : letB (byteA s 0)
    · refine ⟨s, Ev.step (fun k => strings_trimLeftASCII.l1.eq_2 _ _ _) (Ev.pos (by omega) ?_), ?_⟩
      · rw [hb]
        simp only [Option.bind_some, hc, hl]
        exact Ev.const rfl
      · constructor
        · intro h; omega
        · intro h
          have := (allLet_iff s).1 h 0 (by omega)
          rw [hl] at this; cases this
    · have es : (s.extract 1 s.size).size = n := by rw [ex_size s (Nat.le_refl _)]; omega
      obtain ⟨r, h1, h2⟩ := trimL_ev n (s.extract 1 s.size) es (by omega)
      refine ⟨r, Ev.step (fun k => strings_trimLeftASCII.l1.eq_2 _ _ _) (Ev.pos (by omega) ?_), ?_⟩
      · rw [hb]
        simp only [Option.bind_some, hc, hl, chk_t (show (0 : Int) ≤ 1 ∧ (1 : Int) ≤ (s.size : Int) ∧ (s.size : Int) ≤ (s.size : Int) by omega)]
        exact Ev.neg (by simp) h1
      · rw [h2, allLet_iff, allLet_iff, es]
        constructor
        · intro h j hj
          cases j with
          | zero => exact hl
          | succ j =>
            have := h j (by omega)
            rw [ex_at s (Nat.le_refl _) (by omega)] at this
            rwa [Nat.add_comm] at this
        · intro h j hj
          rw [ex_at s (Nat.le_refl _) (by omega), Nat.add_comm]
          exact h (j + 1) (by omega)
theorem isName_ev (s : ByteArray) (hs : s.size ≤ maxLen) : Ev (fun k => impl_isName.f k s) (nameB s) := by
 unfold impl_isName.f
 simp only [within_eq, Option.bind_some]
 by_cases h : 1 ≤ s.size ∧ s.size ≤ 8
 ·obtain ⟨r, r1, r2, r3, r4⟩ := trimR_ev s.size s rfl (by omega)
  obtain ⟨q, q1, q2⟩ := trimL_ev r.size r rfl (by omega)
  refine Ev.pos (by simp; omega) ?_
  have ht : Ev (fun k => strings_Trim.f k s letters) q := by
    refine Ev.bind (a := false) (Ev.const ?_) (Ev.neg (by simp) ?_)
    · rw [if_neg (by rw [empty_iff]; omega)]
      rfl
    · refine Ev.bind (a := false) (Ev.const rfl) (Ev.neg (by simp) (ascii_ev.bind (Ev.pos rfl ?_)))
      exact Ev.bind (r1.bind (Ev.const rfl)) (Ev.bind (q1.bind (Ev.const rfl)) (Ev.const rfl))
  refine ht.bind (Ev.const ?_)
  congr 1
  unfold nameB
  rw [decide_eq_true h, Bool.true_and]
  rw [Bool.eq_iff_iff, decide_eq_true_eq, empty_iff, q2, r3]
 refine Ev.neg (by simp; omega) (Ev.const ?_)
 unfold nameB
 rw [decide_eq_false h, Bool.false_and]
end Go.Proofs.YtplfdbfdalaefaaGreatDoor
