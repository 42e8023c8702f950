/-
  Plain law: a herd's text: its bytes, lines and words.
-/
import Derived.Test.YtplfdbfdalaefaaGreatDoorQXHerdText
import Derived.Test.YtplfdbfdalaefaaGreatDoorQY
import Derived.Test.YtplfdbfdalaefaaGreatDoorQB
namespace Go.Proofs.YtplfdbfdalaefaaGreatDoor
open G
set_option linter.unusedVariables false
set_option linter.unusedSimpArgs false
abbrev dD (n : Int) : List UInt8 := Go.Lib.decDigits n.toNat
theorem dD_no {c : UInt8} (hc : digB c = false) (n : Int) : c ∉ dD n := fun h => by
  have := List.all_eq_true.1 (dec_all n.toNat) c h
  rw [hc] at this; cases this
theorem dD_B {n : Int} (h : 0 ≤ n) : (itoaB n).data.toList = dD n := by
  obtain ⟨m, rfl⟩ := Int.eq_ofNat_of_zero_le h
  rw [itoa_nat]
  rfl
theorem dD_v {n : Int} (h : 0 ≤ n) : ((valF 0 (dD n) : Nat) : Int) = n := by
  rw [dec_val]; omega
theorem spl_tail {c : UInt8} : ∀ (ws : List (List UInt8)) (a : List UInt8), c ∉ a → (∀ w ∈ ws, c ∉ w) → spl c (a ++ Go.Lib.joinTail [c] ws) = a :: ws
  | [], a, h, _ => by simp [Go.Lib.joinTail, spl_miss h]
  | y :: ys, a, h, hw => by
    have ih := spl_tail ys y (hw y (by simp)) (fun w hy => hw w (List.mem_cons_of_mem _ hy))
    have : a ++ Go.Lib.joinTail [c] (y :: ys) = a ++ c :: (y ++ Go.Lib.joinTail [c] ys) := by simp [Go.Lib.joinTail]
    rw [this, spl_hit h, ih]
theorem no_tail {c d : UInt8} (hcd : c ≠ d) : ∀ (ws : List (List UInt8)), (∀ w ∈ ws, c ∉ w) → c ∉ Go.Lib.joinTail [d] ws
  | [], _ => by simp [Go.Lib.joinTail]
  | y :: ys, h => by
    have ih := no_tail hcd ys (fun w hw => h w (List.mem_cons_of_mem _ hw))
    have e : Go.Lib.joinTail [d] (y :: ys) = d :: (y ++ Go.Lib.joinTail [d] ys) := by simp [Go.Lib.joinTail]
    rw [e]
    simp only [List.mem_cons, List.mem_append, not_or]
    exact ⟨hcd, h y (by simp), ih⟩
theorem name_no {h : Herd} (hv : vH h = true) {i : Nat} (hi : i < h.Names.length) {c : UInt8} (hc : c.toNat < 97) : c ∉ (nm h i).data.toList := by
  intro hm
  have ho := (vH_ok hv hi).1
  unfold okI nameB at ho
  simp only [Bool.and_eq_true] at ho
  have hl := (allLet_iff _).1 ho.1.2
  obtain ⟨j, hj, e⟩ := List.getElem_of_mem hm
  have := hl j (by rw [← size_list]; exact hj)
  unfold byteA letB at this
  rw [List.getD_eq_getElem?_getD, List.getElem?_eq_getElem hj, e, decide_eq_true_eq] at this
  simp only [Option.getD_some] at this
  omega
theorem foeNames_mem {h : Herd} {i j n : Nat} {x : ByteArray} (hx : x ∈ foeNames h i j n) : ∃ m, m < j + n ∧ x = nm h m := by
  unfold foeNames bl at hx
  obtain ⟨y, hy, rfl⟩ := List.mem_map.1 hx
  obtain ⟨m, hm, rfl⟩ := List.mem_map.1 hy
  have := List.mem_range'_1.1 (List.mem_filter.1 hm).1
  exact ⟨m, by omega, by rw [Int.toNat_natCast]⟩
def bodyL (h : Herd) (i : Nat) : List UInt8 := (nm h i).data.toList ++ 32 :: (dD (eats h i) ++ Go.Lib.joinTail [32] ((foeNames h i 0 h.Names.length).map (·.data.toList)))
def wordsB (h : Herd) (i : Nat) : List ByteArray := nm h i :: toB (dD (eats h i)) :: foeNames h i 0 h.Names.length
theorem line_bytes {h : Herd} (hv : vH h = true) {i : Nat} (hi : i < h.Names.length) : (lineB h i).data.toList = bodyL h i ++ [10] := by
  unfold lineB bodyL
  rw [ByteArray.data_append, Array.toList_append, catB_list, ByteArray.data_append, ByteArray.data_append, Array.toList_append, Array.toList_append, dD_B (eats_le hv hi).1]
  simp [sp, nl]
theorem foe_no {h : Herd} (hv : vH h = true) {i : Nat} {c : UInt8} (hc : c.toNat < 97) : ∀ w ∈ (foeNames h i 0 h.Names.length).map (·.data.toList), c ∉ w := by
  intro w hw
  obtain ⟨x, hx, rfl⟩ := List.mem_map.1 hw
  obtain ⟨m, hm, rfl⟩ := foeNames_mem hx
  exact name_no hv (by omega) hc
theorem spl_body {h : Herd} (hv : vH h = true) {i : Nat} (hi : i < h.Names.length) : (spl 32 (bodyL h i)).map toB = wordsB h i := by
  unfold bodyL wordsB
  rw [spl_hit (name_no hv hi (by decide)), spl_tail _ _ (dD_no (by decide) _) (foe_no hv (by decide)), List.map_cons, List.map_cons, toB_of, map_toB]
theorem body_no10 {h : Herd} (hv : vH h = true) {i : Nat} (hi : i < h.Names.length) : (10 : UInt8) ∉ bodyL h i := by
  unfold bodyL
  simp only [List.mem_append, List.mem_cons, not_or]
  exact ⟨name_no hv hi (by decide), by decide, dD_no (by decide) _, no_tail (by decide) _ (foe_no hv (by decide))⟩
def textL (h : Herd) (i m : Nat) : List UInt8 := ((List.range' i m).map fun j => bodyL h j ++ [10]).flatten
theorem textL_succ (h : Herd) (i m : Nat) : textL h i (m + 1) = bodyL h i ++ 10 :: textL h (i + 1) m := by
  unfold textL
  rw [List.range'_succ, List.map_cons, List.flatten_cons, List.append_assoc]
  rfl
theorem textB_L {h : Herd} (hv : vH h = true) : ∀ (m i : Nat) (y : ByteArray), i + m ≤ h.Names.length → (textB h m i y).data.toList = y.data.toList ++ textL h i m
  | 0, i, y, _ => by simp [textB, textL]
  | m + 1, i, y, hi => by
    rw [textB, textB_L hv m (i + 1) _ (by omega), ByteArray.data_append, Array.toList_append, line_bytes hv (by omega), textL_succ]
    simp
def txt (h : Herd) : ByteArray := textB h h.Names.length 0 ByteArray.empty
theorem txt_L {h : Herd} (hv : vH h = true) : txt h = toB (textL h 0 h.Names.length) := by
  have := textB_L hv h.Names.length 0 ByteArray.empty (by omega)
  rw [← toB_of (txt h)]
  unfold txt
  rw [this]
  rfl
theorem body_len {h : Herd} (hv : vH h = true) {i : Nat} (hi : i < h.Names.length) : (bodyL h i).length ≤ 150 := by
  have h1 := (line_size hv hi).2.2
  rw [size_toList, line_bytes hv hi] at h1
  simp at h1
  omega
theorem textL_len {h : Herd} (hv : vH h = true) : ∀ (m i : Nat), i + m ≤ h.Names.length → (textL h i m).length ≤ 151 * m
  | 0, i, _ => by simp [textL]
  | m + 1, i, hi => by
    have h1 := body_len hv (i := i) (by omega)
    have h2 := textL_len hv m (i + 1) (by omega)
    rw [textL_succ, List.length_append, List.length_cons]
    omega
/-! ### Lines -/
theorem ib_hit {c : UInt8} {r : List UInt8} : ∀ {a : List UInt8}, c ∉ a → Go.Lib.indexByte (a ++ c :: r) c = (a.length : Int)
  | [], _ => by simp [Go.Lib.indexByte]
  | b :: a, h => by
    have hb : ¬ b = c := fun e => h (by rw [e]; exact List.mem_cons_self ..)
    have ih := ib_hit (r := r) (a := a) (fun z => h (List.mem_cons_of_mem _ z))
    rw [List.cons_append, Go.Lib.indexByte, if_neg (by simpa using hb), ih, if_neg (by simp), List.length_cons]
    omega
theorem lines_cons {a r : List UInt8} (h : (10 : UInt8) ∉ a) : linesB (toB (a ++ 10 :: r)) = toB (a ++ [10]) :: linesB (toB r) := by
  have e : Go.Lib.indexByte (toB (a ++ 10 :: r)).data.toList 10 = (a.length : Int) := by rw [toB_list, ib_hit h]
  rw [linesB_hit (by rw [toB_size]; simp) (by rw [e]; omega), e, ex_toB, ex_toB, toB_list, toB_size]
  have t : ((a.length : Int) + 1).toNat = a.length + 1 := by omega
  rw [t]
  congr 1
  · unfold exL
    rw [List.drop_zero, List.take_append]
    congr 1
    rw [List.take_of_length_le (by omega)]
    simp
  · unfold exL
    rw [List.drop_append, List.drop_of_length_le (by omega)]
    simp only [List.nil_append, List.length_append, List.length_cons, Nat.add_sub_cancel_left, List.drop_succ_cons, List.drop_zero]
    rw [List.take_of_length_le (by omega)]
theorem lines_text {h : Herd} (hv : vH h = true) : ∀ (m i : Nat), i + m ≤ h.Names.length → linesB (toB (textL h i m)) = (List.range' i m).map fun j => toB (bodyL h j ++ [10])
  | 0, i, _ => linesB_nil rfl
  | m + 1, i, hi => by
    rw [textL_succ, lines_cons (body_no10 hv (by omega)), lines_text hv m (i + 1) (by omega), List.range'_succ]
    rfl
theorem spl_text {h : Herd} (hv : vH h = true) : ∀ (m i : Nat), i + m ≤ h.Names.length → spl 10 (textL h i m) = (List.range' i m).map (bodyL h) ++ [[]]
  | 0, i, _ => rfl
  | m + 1, i, hi => by
    rw [textL_succ, spl_hit (body_no10 hv (by omega)), spl_text hv m (i + 1) (by omega), List.range'_succ]
    rfl
theorem trim_eq (a : List UInt8) (ha : a.length ≤ 2000000) : strings_TrimSuffix.f (toB (a ++ [10])) (⟨#[10]⟩ : ByteArray) = some (toB a) := by
  have s1 : (⟨#[10]⟩ : ByteArray).size = 1 := rfl
  have hs : (toB (a ++ [10])).size = a.length + 1 := by rw [toB_size]; simp
  have hw : IntKind.i64.wrap (((toB (a ++ [10])).size : Int) - ((⟨#[10]⟩ : ByteArray).size : Int)) = (a.length : Int) := by
    rw [hs, s1, w64 (by omega) (by omega)]; omega
  have hn : (a.length : Int).toNat = a.length := by omega
  unfold strings_TrimSuffix.f internal_stringslite_TrimSuffix.f internal_stringslite_HasSuffix.f
  rw [if_pos (by rw [hs, s1]; omega), hw, chkX (by rw [hs]; omega), Option.bind_some, hn]
  have e : (toB (a ++ [10])).extract a.length (toB (a ++ [10])).size = (⟨#[10]⟩ : ByteArray) := by
    rw [ex_toB, toB_list, hs]
    unfold exL
    rw [List.drop_append, List.drop_of_length_le (Nat.le_refl _)]
    simp
    rfl
  rw [e, decide_eq_true rfl, Option.bind_some, if_pos rfl, chkX (by rw [hs]; omega), Option.bind_some, Option.bind_some, ex_toB, toB_list]
  unfold exL
  simp
/-! ### Whatever the text -/
theorem trim_tot (s : ByteArray) (hs : s.size ≤ 4294967296) : ∃ t, strings_TrimSuffix.f s (⟨#[10]⟩ : ByteArray) = some t ∧ t.size ≤ s.size := by
  have s1 : (⟨#[10]⟩ : ByteArray).size = 1 := rfl
  unfold strings_TrimSuffix.f internal_stringslite_TrimSuffix.f internal_stringslite_HasSuffix.f
  by_cases h0 : ((⟨#[10]⟩ : ByteArray).size : Int) ≤ (s.size : Int)
  · rw [s1] at h0
    have hw : IntKind.i64.wrap ((s.size : Int) - ((⟨#[10]⟩ : ByteArray).size : Int)) = ((s.size - 1 : Nat) : Int) := by rw [s1, w64 (by omega) (by omega)]; omega
    rw [if_pos (by rw [s1]; exact h0), hw, chkX (by omega), Option.bind_some]
    cases hd : decide (s.extract ((s.size - 1 : Nat) : Int).toNat s.size = (⟨#[10]⟩ : ByteArray))
    · rw [Option.bind_some, if_neg (by simp)]
      exact ⟨s, rfl, Nat.le_refl _⟩
    · rw [Option.bind_some, if_pos rfl, chkX (by omega), Option.bind_some]
      refine ⟨_, rfl, ?_⟩
      rw [ByteArray.size_extract]; omega
  · rw [if_neg h0, Option.bind_some, if_neg (by simp)]
    exact ⟨s, rfl, Nat.le_refl _⟩
theorem spl_len (c : UInt8) : ∀ (n : Nat) (l : List UInt8), l.length ≤ n → (spl c l).length ≤ l.length + 1 ∧ ∀ w ∈ spl c l, w.length ≤ l.length
  | 0, l, h => by
    obtain rfl := List.eq_nil_of_length_eq_zero (by omega : l.length = 0)
    exact ⟨Nat.le_refl _, fun w hw => by obtain rfl := List.mem_singleton.1 hw; exact Nat.le_refl _⟩
  | n + 1, l, h => by
    rcases first_of c l with hm | ⟨a, r, hm, rfl⟩
    · rw [spl_miss hm]
      exact ⟨by simp, fun w hw => by rw [List.mem_singleton.1 hw]; exact Nat.le_refl _⟩
    · rw [spl_hit hm]
      simp only [List.length_append, List.length_cons] at h ⊢
      obtain ⟨h1, h2⟩ := spl_len c n r (by omega)
      refine ⟨by omega, fun w hw => ?_⟩
      rcases List.mem_cons.1 hw with rfl | hw
      · omega
      · have := h2 w hw; omega
theorem linesF_size : ∀ (k : Nat) (s : ByteArray), ∀ l ∈ linesF k s, l.size ≤ s.size
  | 0, s => by simp [linesF]
  | k + 1, s => by
    intro l hl
    rw [linesF] at hl
    split at hl
    · simp at hl
    · split at hl
      · rcases List.mem_cons.1 hl with rfl | hl
        · rw [ByteArray.size_extract]; omega
        · have := linesF_size k _ l hl
          rw [ByteArray.size_extract] at this
          omega
      · rw [List.mem_singleton.1 hl]; exact Nat.le_refl _
theorem lines_size (s : ByteArray) : ∀ l ∈ linesB s, l.size ≤ s.size := linesF_size _ _
end Go.Proofs.YtplfdbfdalaefaaGreatDoor
