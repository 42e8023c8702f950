import Derived.Test.YtplfdbfdalaefaaGreatDoorQXHerdText
import Derived.Test.YtplfdbfdalaefaaGreatDoorQW
import Derived.Lib.SplitLaws
import Derived.Lib.ParseIntBTie
import Derived.Test.YtplfdbfdalaefaaGreatDoorQY

/-
  Plain laws: texts that are read: pieces, numerals.
-/
namespace Go.Proofs.YtplfdbfdalaefaaGreatDoor
open G
set_option linter.unusedVariables false
set_option linter.unusedSimpArgs false
def toB (l : List UInt8) : ByteArray := ⟨l.toArray⟩
theorem toB_list (l : List UInt8) : (toB l).data.toList = l := rfl
theorem toB_of (s : ByteArray) : toB s.data.toList = s := by
 apply ByteArray.ext
 simp [toB]
theorem toB_size (l : List UInt8) : (toB l).size = l.length := by rw [size_toList, toB_list]
theorem map_toB (xs : List ByteArray) : (xs.map (·.data.toList)).map toB = xs := by
 rw [List.map_map]
 conv => rhs; rw [← List.map_id xs]
 exact List.map_congr_left fun x _ => toB_of x
def exL (l : List UInt8) (a b : Nat) : List UInt8 := (l.drop a).take (b - a)
theorem ex_toB (s : ByteArray) (a b : Nat) : s.extract a b = toB (exL s.data.toList a b) := by
 apply ByteArray.ext
 apply Array.ext'
 rw [ByteArray.data_extract, Array.toList_extract]
 rfl
def preL (p : List UInt8) : List (List UInt8) → List (List UInt8)
  | [] => [p]
  | x :: xs => (p ++ x) :: xs
def spl (c : UInt8) : List UInt8 → List (List UInt8)
  | [] => [[]]
  | b :: l => if b = c then [] :: spl c l else preL [b] (spl c l)
theorem spl_hit {c : UInt8} {r : List UInt8} : ∀ {a : List UInt8}, c ∉ a → spl c (a ++ c :: r) = a :: spl c r
  | [], _ => by simp [spl]
  | b :: a, h => by
    have hb : b ≠ c := fun e => h (by simp [e])
    have ih := spl_hit (c := c) (r := r) (a := a) fun hm => h (by simp [hm])
    show spl c (b :: (a ++ c :: r)) = _
    rw [spl, if_neg hb, ih]; rfl
theorem spl_miss {c : UInt8} : ∀ {a : List UInt8}, c ∉ a → spl c a = [a]
  | [], _ => rfl
  | b :: a, h => by
    have hb : b ≠ c := fun e => h (by simp [e])
    rw [spl, if_neg hb, spl_miss (a := a) fun hm => h (by simp [hm])]; rfl
theorem first_of (c : UInt8) : ∀ l : List UInt8, c ∉ l ∨ ∃ a r, c ∉ a ∧ l = a ++ c :: r
  | [] => .inl (by simp)
  | b :: l => by
    by_cases hb : b = c
    · exact .inr ⟨[], l, by simp, by simp [hb]⟩
    · rcases first_of c l with h | ⟨a, r, h1, h2⟩
      · exact .inl fun hm => (List.mem_cons.1 hm).elim (fun e => hb e.symm) h
      · exact .inr ⟨b :: a, r, fun hm => (List.mem_cons.1 hm).elim (fun e => hb e.symm) h1, by simp [h2]⟩
theorem index_hit1 {c : UInt8} {r : List UInt8} : ∀ {a : List UInt8}, c ∉ a → Go.Lib.index (a ++ c :: r) [c] = (a.length : Int)
  | [], _ => by simp [Go.Lib.index, List.isPrefixOf]
  | b :: a, h => by
    have hb : b ≠ c := fun e => h (by simp [e])
    have ih := index_hit1 (c := c) (r := r) (a := a) fun hm => h (by simp [hm])
    show Go.Lib.index (b :: (a ++ c :: r)) [c] = _
    rw [Go.Lib.index, if_neg (by simp [List.isPrefixOf, Ne.symm hb]), ih, if_neg (by simp)]
    simp
theorem splitK_spl (c : UInt8) : ∀ (n : Nat) (l : List UInt8), l.count c = n → Go.Lib.splitK [c] 0 n l = spl c l := by
  intro n
  induction n with
  | zero =>
    intro l hl
    rw [spl_miss (List.count_eq_zero.1 hl)]; rfl
  | succ n ih =>
    intro l hl
    rcases first_of c l with h | ⟨a, r, h1, rfl⟩
    · rw [List.count_eq_zero.2 h] at hl; cases hl
    · rw [List.count_append, List.count_eq_zero.2 h1, List.count_cons_self] at hl
      have hi := index_hit1 (r := r) h1
      rw [spl_hit h1, Go.Lib.splitK, if_neg (by rw [hi]; simp), hi, Int.toNat_natCast]
      rw [show (a ++ c :: r).take (a.length + 0) = a by simp, show (a ++ c :: r).drop (a.length + [c].length) = r by
        rw [List.length_singleton, ← List.drop_drop, List.drop_left]; rfl, ih r (by omega)]
theorem split_spl (s : ByteArray) (c : UInt8) : splitS s ⟨#[c]⟩ = (spl c s.data.toList).map toB := by
 rw [← map_toB (splitS s ⟨#[c]⟩)]
 congr 1
 unfold splitS
 rw [Go.Lib.splitB_data]
 refine splitK_spl c _ _ ?_
 show s.data.toList.count c = Go.Lib.count s.data.toList [c]
 rw [Go.Lib.count_one]
def digB (b : UInt8) : Bool := decide (48 ≤ b.toNat ∧ b.toNat ≤ 57)
def valF (acc : Nat) : List UInt8 → Nat
  | [] => acc
  | b :: l => valF (10 * acc + (b.toNat - 48)) l
def okShape (l : List UInt8) : Prop := l ≠ [] ∧ l.length ≤ 9 ∧ ¬ (l.head? = some 48 ∧ 1 < l.length)
instance (l : List UInt8) : Decidable (okShape l) := by unfold okShape; infer_instance
def okNum (l : List UInt8) : Bool := decide (okShape l) && l.all digB
theorem head_app {l m : List UInt8} (h : l ≠ []) : (l ++ m).head? = l.head? := by
  cases l with
  | nil => exact absurd rfl h
  | cons a l => rfl
theorem valF_app (b : UInt8) : ∀ (l : List UInt8) (acc : Nat), valF acc (l ++ [b]) = 10 * valF acc l + (b.toNat - 48)
  | [], acc => rfl
  | a :: l, acc => valF_app b l _
theorem valF_lt : ∀ (l : List UInt8) (acc k : Nat), l.all digB = true → acc < 10 ^ k → valF acc l < 10 ^ (k + l.length)
  | [], acc, k, _, h => h
  | a :: l, acc, k, hd, h => by
    simp only [List.all_cons, Bool.and_eq_true] at hd
    have ha := of_decide_eq_true hd.1
    have := valF_lt l (10 * acc + (a.toNat - 48)) (k + 1) hd.2 (by rw [Nat.pow_succ]; omega)
    show valF (10 * acc + (a.toNat - 48)) l < _
    rw [List.length_cons, show k + (l.length + 1) = k + 1 + l.length by omega]
    exact this
theorem dig_of {d : Nat} (h : d < 10) : (UInt8.ofNat (48 + d)).toNat = 48 + d := by
 rw [UInt8.toNat_ofNat']; omega
theorem dec_all : ∀ n : Nat, (Go.Lib.decDigits n).all digB = true := by
  intro n
  induction n using Nat.strongRecOn with
  | _ n ih =>
    rw [Go.Lib.decDigits]
    split
    · rename_i h
      simp only [List.all_cons, List.all_nil, Bool.and_true]
      exact decide_eq_true (by rw [dig_of h]; omega)
    · rename_i h
      rw [List.all_append, ih (n / 10) (by omega)]
      simp only [List.all_cons, List.all_nil, Bool.and_true, Bool.true_and]
      exact decide_eq_true (by rw [dig_of (by omega)]; omega)
theorem dec_val : ∀ n : Nat, valF 0 (Go.Lib.decDigits n) = n := by
  intro n
  induction n using Nat.strongRecOn with
  | _ n ih =>
    rw [Go.Lib.decDigits]
    split
    · rename_i h
      show 10 * 0 + ((UInt8.ofNat (48 + n)).toNat - 48) = n
      rw [dig_of h]; omega
    · rename_i h
      rw [valF_app, ih (n / 10) (by omega), dig_of (by omega)]; omega
theorem dec_ne (n : Nat) : Go.Lib.decDigits n ≠ [] := by
 rw [Go.Lib.decDigits]
 split <;> simp
theorem dec_head : ∀ n : Nat, (Go.Lib.decDigits n).head? = some 48 → n = 0 := by
  intro n
  induction n using Nat.strongRecOn with
  | _ n ih =>
    rw [Go.Lib.decDigits]
    split
    · rename_i h
      intro e
      have := congrArg (fun o : Option UInt8 => (o.getD 0).toNat) e
      simp only [List.head?_cons, Option.getD_some, dig_of h] at this
      have h48 : (48 : UInt8).toNat = 48 := rfl
      omega
    · rename_i h
      intro e
      rw [head_app (dec_ne _)] at e
      have := ih (n / 10) (by omega) e
      omega
theorem dec_okNum {n : Nat} (h : n < 1000000000) : okNum (Go.Lib.decDigits n) = true := by
 unfold okNum
 rw [dec_all, Bool.and_true]
 refine decide_eq_true ⟨dec_ne n, dec_len 8 n (by omega), fun hh => ?_⟩
 have := dec_head n hh.1
 subst this
 have := hh.2
 rw [Go.Lib.decDigits, dif_pos (by omega)] at this
 simp at this
theorem okNum_dec : ∀ (m : Nat) (l : List UInt8), l.length = m → okNum l = true → Go.Lib.decDigits (valF 0 l) = l := by
  intro m
  induction m with
  | zero =>
    intro l hl h
    unfold okNum at h
    simp only [Bool.and_eq_true, decide_eq_true_eq] at h
    exact absurd (List.length_eq_zero_iff.1 hl) h.1.1
  | succ m ih =>
    intro l hl h
    obtain ⟨l', b, rfl⟩ : ∃ l' b, l = l' ++ [b] := ⟨l.dropLast, l.getLast (by intro e; simp [e] at hl), (List.dropLast_concat_getLast _).symm⟩
    unfold okNum at h
    simp only [Bool.and_eq_true, decide_eq_true_eq, List.all_append, List.all_cons, List.all_nil, Bool.and_true] at h
    obtain ⟨⟨h1, h2, h3⟩, h4, h5⟩ := h
    have hb := of_decide_eq_true h5
    have hbv : UInt8.ofNat (48 + (b.toNat - 48)) = b := by
      apply UInt8.toNat_inj.1
      rw [dig_of (by omega)]; omega
    by_cases hn : l' = []
    · subst hn
      show Go.Lib.decDigits (10 * 0 + (b.toNat - 48)) = [b]
      rw [Go.Lib.decDigits, dif_pos (by omega), show 10 * 0 + (b.toNat - 48) = b.toNat - 48 by omega, hbv]
    · have hlp : 0 < l'.length := List.length_pos_iff.2 hn
      have hhd : (l' ++ [b]).head? = l'.head? := head_app hn
      rw [hhd] at h3
      have ho : okNum l' = true := by
        unfold okNum
        rw [h4, Bool.and_true]
        refine decide_eq_true ⟨hn, by simp at h2; omega, fun hh => h3 ⟨hh.1, by simp; omega⟩⟩
      have ih := ih l' (by simp at hl; omega) ho
      have hv : valF 0 l' ≠ 0 := by
        intro e
        rw [e, Go.Lib.decDigits, dif_pos (by omega)] at ih
        refine h3 ⟨by rw [← ih]; rfl, by simp; omega⟩
      rw [valF_app, Go.Lib.decDigits, dif_neg (by omega), show (10 * valF 0 l' + (b.toNat - 48)) / 10 = valF 0 l' by omega, ih, show (10 * valF 0 l' + (b.toNat - 48)) % 10 = b.toNat - 48 by omega, hbv]
theorem okNum_itoa {s : ByteArray} (h : okNum s.data.toList = true) : itoaB ((valF 0 s.data.toList : Nat) : Int) = s := by
 rw [itoa_nat, okNum_dec _ _ rfl h]
theorem okNum_lt {l : List UInt8} (h : okNum l = true) : valF 0 l < 1000000000 := by
 unfold okNum at h
 simp only [Bool.and_eq_true, decide_eq_true_eq] at h
 have := valF_lt l 0 0 h.2 (by omega)
 have hl := h.1.2.1
 have h9 : (10 : Nat) ^ (0 + l.length) ≤ 10 ^ 9 := Nat.pow_le_pow_right (by omega) (by omega)
 omega
theorem parse_dig : ∀ (l : List UInt8) (acc k : Nat), l.all digB = true → acc < 10 ^ k → l.length + k ≤ 18 → Go.Lib.parseUintM (2 ^ 64 - 1) acc l = .ok (valF acc l)
  | [], acc, k, _, _, _ => rfl
  | a :: l, acc, k, hd, hk, hl => by
    simp only [List.all_cons, Bool.and_eq_true] at hd
    have ha := of_decide_eq_true hd.1
    have h17 : (10 : Nat) ^ k ≤ 10 ^ 17 := Nat.pow_le_pow_right (by omega) (by simp at hl; omega)
    rw [Go.Lib.parseUintM, if_pos ha, if_neg (by omega), if_neg (by omega), show acc * 10 + (a.toNat - 48) = 10 * acc + (a.toNat - 48) by omega]
    exact parse_dig l _ (k + 1) hd.2 (by rw [Nat.pow_succ]; omega) (by simp at hl; omega)
theorem parse_ok {l : List UInt8} (h : okNum l = true) : Go.Lib.parseIntB 64 l = .ok ((valF 0 l : Nat) : Int) := by
  have hlt := okNum_lt h
  unfold okNum at h
  simp only [Bool.and_eq_true, decide_eq_true_eq] at h
  cases l with
  | nil => exact absurd rfl h.1.1
  | cons c r =>
    have hc : digB c = true := by have := h.2; simp only [List.all_cons, Bool.and_eq_true] at this; exact this.1
    have hc := of_decide_eq_true hc
    have hne : ¬ (c.toNat = 43 ∨ c.toNat = 45) := by omega
    unfold Go.Lib.parseIntB Go.Lib.parseUintB
    simp only
    rw [if_neg hne, if_neg (show ¬ (c :: r = []) by simp), parse_dig (c :: r) 0 0 h.2 (by omega) (by have := h.1.2.1; omega)]
    simp only
    rw [if_neg (by omega), if_neg (by omega), if_neg (by omega)]
theorem parseI_ok {s : ByteArray} {v : Int} (h : Go.Lib.parseIntB 64 s.data.toList = .ok v) : parseI s = (v, false) := by
 unfold parseI; rw [h]
theorem parseI_syn {s : ByteArray} (h : Go.Lib.parseIntB 64 s.data.toList = .syntax) : (parseI s).2 = true := by
 unfold parseI; rw [h]
theorem parseI_rng {s : ByteArray} (h : Go.Lib.parseIntB 64 s.data.toList = .range) : (parseI s).2 = true := by
 unfold parseI; rw [h]
theorem number_eq (s : ByteArray) (most : Int) (hs : s.size ≤ 4294967296) (hm : most ≤ 1000000) : impl_number.f s most = some (if okNum s.data.toList = true ∧ ((valF 0 s.data.toList : Nat) : Int) ≤ most then ((((valF 0 s.data.toList : Nat) : Int)), true) else (0, false)) := by
  unfold impl_number.f strconv_ParseInt.f
  rw [chkX ⟨hs, rfl, rfl⟩, Option.bind_some, Option.bind_some]
  cases hp : Go.Lib.parseIntB 64 s.data.toList with
  | «syntax» =>
    rw [if_pos (parseI_syn hp), if_neg fun h => by rw [parse_ok h.1] at hp; cases hp]
  | range =>
    rw [if_pos (parseI_rng hp), if_neg fun h => by rw [parse_ok h.1] at hp; cases hp]
  | ok v =>
    obtain ⟨b1, b2⟩ := Go.Lib.parseIntB_bounds hp
    have hd : impl_decimal.f v = some (itoaB v) := by
      unfold impl_decimal.f strconv_FormatInt.f
      rw [chkX ⟨rfl, by omega, by omega⟩]; rfl
    rw [parseI_ok hp]
    simp only [if_neg (show ¬ (false = true) by simp), hd, Option.bind_some, within_eq]
    have hv : okNum s.data.toList = true → v = ((valF 0 s.data.toList : Nat) : Int) := fun h => by
      rw [parse_ok h] at hp
      injection hp with hp
      exact hp.symm
    by_cases h1 : itoaB v = s
    · rw [if_neg (by simp [h1])]
      by_cases h2 : 0 ≤ v ∧ v ≤ most
      · obtain ⟨n, rfl⟩ := Int.eq_ofNat_of_zero_le h2.1
        have hok : okNum s.data.toList = true := by
          rw [← h1, itoa_nat]
          exact dec_okNum (by omega)
        rw [if_neg (by simp [h2]), if_pos ⟨hok, by rw [← hv hok]; exact h2.2⟩, ← hv hok]
      · rw [if_pos (by simp only [decide_eq_false h2]; rfl), if_neg fun h => h2 (by rw [hv h.1]; exact ⟨by omega, h.2⟩)]
    · rw [if_pos h1, if_neg fun h => h1 (by rw [hv h.1]; exact okNum_itoa h.1)]
end Go.Proofs.YtplfdbfdalaefaaGreatDoor
namespace Go.Proofs.YtplfdbfdalaefaaGreatDoor
open G
set_option linter.unusedVariables false
set_option linter.unusedSimpArgs false
abbrev dD (n : Int) : List UInt8 := Go.Lib.decDigits n.toNat
theorem dD_no {c : UInt8} (hc : digB c = false) (n : Int) : c ∉ dD n := fun h => by
  have := List.all_eq_true.1 (dec_all n.toNat) c h
  rw [hc] at this; cases this
theorem dD_B {n : Int} (h : 0 ≤ n) : (itoaB n).data.toList = dD n := by
 obtain ⟨m, rfl⟩ := Int.eq_ofNat_of_zero_le h
 rw [itoa_nat]
 rfl
theorem dD_v {n : Int} (h : 0 ≤ n) : ((valF 0 (dD n) : Nat) : Int) = n := by
 rw [dec_val]; omega
theorem spl_tail {c : UInt8} : ∀ (ws : List (List UInt8)) (a : List UInt8), c ∉ a → (∀ w ∈ ws, c ∉ w) → spl c (a ++ Go.Lib.joinTail [c] ws) = a :: ws
  | [], a, h, _ => by simp [Go.Lib.joinTail, spl_miss h]
  | y :: ys, a, h, hw => by
    have ih := spl_tail ys y (hw y (by simp)) (fun w hy => hw w (List.mem_cons_of_mem _ hy))
    have : a ++ Go.Lib.joinTail [c] (y :: ys) = a ++ c :: (y ++ Go.Lib.joinTail [c] ys) := by simp [Go.Lib.joinTail]
    rw [this, spl_hit h, ih]
theorem no_tail {c d : UInt8} (hcd : c ≠ d) : ∀ (ws : List (List UInt8)), (∀ w ∈ ws, c ∉ w) → c ∉ Go.Lib.joinTail [d] ws
  | [], _ => by simp [Go.Lib.joinTail]
  | y :: ys, h => by
    have ih := no_tail hcd ys (fun w hw => h w (List.mem_cons_of_mem _ hw))
    have e : Go.Lib.joinTail [d] (y :: ys) = d :: (y ++ Go.Lib.joinTail [d] ys) := by simp [Go.Lib.joinTail]
    rw [e]
    simp only [List.mem_cons, List.mem_append, not_or]
    exact ⟨hcd, h y (by simp), ih⟩
theorem name_no {h : Herd} (hv : vH h = true) {i : Nat} (hi : i < h.Names.length) {c : UInt8} (hc : c.toNat < 97) : c ∉ (nm h i).data.toList := by
 intro hm
 have ho := (vH_ok hv hi).1
 unfold okI nameB at ho
 simp only [Bool.and_eq_true] at ho
 have hl := (allLet_iff _).1 ho.1.2
 obtain ⟨j, hj, e⟩ := List.getElem_of_mem hm
 have := hl j (by rw [← size_list]; exact hj)
 unfold byteA letB at this
 rw [List.getD_eq_getElem?_getD, List.getElem?_eq_getElem hj, e, decide_eq_true_eq] at this
 simp only [Option.getD_some] at this
 omega
theorem foeNames_mem {h : Herd} {i j n : Nat} {x : ByteArray} (hx : x ∈ foeNames h i j n) : ∃ m, m < j + n ∧ x = nm h m := by
 unfold foeNames bl at hx
 obtain ⟨y, hy, rfl⟩ := List.mem_map.1 hx
 obtain ⟨m, hm, rfl⟩ := List.mem_map.1 hy
 have := List.mem_range'_1.1 (List.mem_filter.1 hm).1
 exact ⟨m, by omega, by rw [Int.toNat_natCast]⟩
def bodyL (h : Herd) (i : Nat) : List UInt8 := (nm h i).data.toList ++ 32 :: (dD (eats h i) ++ Go.Lib.joinTail [32] ((foeNames h i 0 h.Names.length).map (·.data.toList)))
def wordsB (h : Herd) (i : Nat) : List ByteArray := nm h i :: toB (dD (eats h i)) :: foeNames h i 0 h.Names.length
theorem line_bytes {h : Herd} (hv : vH h = true) {i : Nat} (hi : i < h.Names.length) : (lineB h i).data.toList = bodyL h i ++ [10] := by
 unfold lineB bodyL
 rw [ByteArray.data_append, Array.toList_append, catB_list, ByteArray.data_append, ByteArray.data_append, Array.toList_append, Array.toList_append, dD_B (eats_le hv hi).1]
 simp [sp, nl]
theorem foe_no {h : Herd} (hv : vH h = true) {i : Nat} {c : UInt8} (hc : c.toNat < 97) : ∀ w ∈ (foeNames h i 0 h.Names.length).map (·.data.toList), c ∉ w := by
 intro w hw
 obtain ⟨x, hx, rfl⟩ := List.mem_map.1 hw
 obtain ⟨m, hm, rfl⟩ := foeNames_mem hx
 exact name_no hv (by omega) hc
theorem spl_body {h : Herd} (hv : vH h = true) {i : Nat} (hi : i < h.Names.length) : (spl 32 (bodyL h i)).map toB = wordsB h i := by
 unfold bodyL wordsB
 rw [spl_hit (name_no hv hi (by decide)), spl_tail _ _ (dD_no (by decide) _) (foe_no hv (by decide)), List.map_cons, List.map_cons, toB_of, map_toB]
theorem body_no10 {h : Herd} (hv : vH h = true) {i : Nat} (hi : i < h.Names.length) : (10 : UInt8) ∉ bodyL h i := by
 unfold bodyL
 simp only [List.mem_append, List.mem_cons, not_or]
 exact ⟨name_no hv hi (by decide), by decide, dD_no (by decide) _, no_tail (by decide) _ (foe_no hv (by decide))⟩
def textL (h : Herd) (i m : Nat) : List UInt8 := ((List.range' i m).map fun j => bodyL h j ++ [10]).flatten
theorem textL_succ (h : Herd) (i m : Nat) : textL h i (m + 1) = bodyL h i ++ 10 :: textL h (i + 1) m := by
 unfold textL
 rw [List.range'_succ, List.map_cons, List.flatten_cons, List.append_assoc]
 rfl
theorem textB_L {h : Herd} (hv : vH h = true) : ∀ (m i : Nat) (y : ByteArray), i + m ≤ h.Names.length → (textB h m i y).data.toList = y.data.toList ++ textL h i m
  | 0, i, y, _ => by simp [textB, textL]
  | m + 1, i, y, hi => by
    rw [textB, textB_L hv m (i + 1) _ (by omega), ByteArray.data_append, Array.toList_append, line_bytes hv (by omega), textL_succ]
    simp
def txt (h : Herd) : ByteArray := textB h h.Names.length 0 ByteArray.empty
theorem txt_L {h : Herd} (hv : vH h = true) : txt h = toB (textL h 0 h.Names.length) := by
 have := textB_L hv h.Names.length 0 ByteArray.empty (by omega)
 rw [← toB_of (txt h)]
 unfold txt
 rw [this]
 rfl
theorem body_len {h : Herd} (hv : vH h = true) {i : Nat} (hi : i < h.Names.length) : (bodyL h i).length ≤ 150 := by
 have h1 := (line_size hv hi).2.2
 rw [size_toList, line_bytes hv hi] at h1
 simp at h1
 omega
theorem textL_len {h : Herd} (hv : vH h = true) : ∀ (m i : Nat), i + m ≤ h.Names.length → (textL h i m).length ≤ 151 * m
  | 0, i, _ => by simp [textL]
  | m + 1, i, hi => by
    have h1 := body_len hv (i := i) (by omega)
    have h2 := textL_len hv m (i + 1) (by omega)
    rw [textL_succ, List.length_append, List.length_cons]
    omega
theorem ib_hit {c : UInt8} {r : List UInt8} : ∀ {a : List UInt8}, c ∉ a → Go.Lib.indexByte (a ++ c :: r) c = (a.length : Int)
  | [], _ => by simp [Go.Lib.indexByte]
  | b :: a, h => by
    have hb : ¬ b = c := fun e => h (by rw [e]; exact List.mem_cons_self ..)
    have ih := ib_hit (r := r) (a := a) (fun z => h (List.mem_cons_of_mem _ z))
    rw [List.cons_append, Go.Lib.indexByte, if_neg (by simpa using hb), ih, if_neg (by simp), List.length_cons]
    omega
theorem lines_cons {a r : List UInt8} (h : (10 : UInt8) ∉ a) : linesB (toB (a ++ 10 :: r)) = toB (a ++ [10]) :: linesB (toB r) := by
 have e : Go.Lib.indexByte (toB (a ++ 10 :: r)).data.toList 10 = (a.length : Int) := by rw [toB_list, ib_hit h]
 rw [linesB_hit (by rw [toB_size]; simp) (by rw [e]; omega), e, ex_toB, ex_toB, toB_list, toB_size]
 have t : ((a.length : Int) + 1).toNat = a.length + 1 := by omega
 rw [t]
 congr 1
 ·unfold exL
  rw [List.drop_zero, List.take_append]
  congr 1
  rw [List.take_of_length_le (by omega)]
  simp
 unfold exL
 rw [List.drop_append, List.drop_of_length_le (by omega)]
 simp only [List.nil_append, List.length_append, List.length_cons, Nat.add_sub_cancel_left, List.drop_succ_cons, List.drop_zero]
 rw [List.take_of_length_le (by omega)]
theorem lines_text {h : Herd} (hv : vH h = true) : ∀ (m i : Nat), i + m ≤ h.Names.length → linesB (toB (textL h i m)) = (List.range' i m).map fun j => toB (bodyL h j ++ [10])
  | 0, i, _ => linesB_nil rfl
  | m + 1, i, hi => by
    rw [textL_succ, lines_cons (body_no10 hv (by omega)), lines_text hv m (i + 1) (by omega), List.range'_succ]
    rfl
theorem trim_eq (a : List UInt8) (ha : a.length ≤ 2000000) : strings_TrimSuffix.f (toB (a ++ [10])) (⟨#[10]⟩ : ByteArray) = some (toB a) := by
 have s1 : (⟨#[10]⟩ : ByteArray).size = 1 := rfl
 have hs : (toB (a ++ [10])).size = a.length + 1 := by rw [toB_size]; simp
 have hw : IntKind.i64.wrap (((toB (a ++ [10])).size : Int) - ((⟨#[10]⟩ : ByteArray).size : Int)) = (a.length : Int) := by
   rw [hs, s1, w64 (by omega) (by omega)]; omega
 have hn : (a.length : Int).toNat = a.length := by omega
 unfold strings_TrimSuffix.f internal_stringslite_TrimSuffix.f internal_stringslite_HasSuffix.f
 rw [if_pos (by rw [hs, s1]; omega), hw, chkX (by rw [hs]; omega), Option.bind_some, hn]
 have e : (toB (a ++ [10])).extract a.length (toB (a ++ [10])).size = (⟨#[10]⟩ : ByteArray) := by
   rw [ex_toB, toB_list, hs]
   unfold exL
   rw [List.drop_append, List.drop_of_length_le (Nat.le_refl _)]
   simp
   rfl
 rw [e, decide_eq_true rfl, Option.bind_some, if_pos rfl, chkX (by rw [hs]; omega), Option.bind_some, Option.bind_some, ex_toB, toB_list]
 unfold exL
 simp
end Go.Proofs.YtplfdbfdalaefaaGreatDoor
namespace Go.Proofs.YtplfdbfdalaefaaGreatDoor
open G
set_option linter.unusedVariables false
set_option linter.unusedSimpArgs false
theorem num_back {n : Int} {most : Int} (h0 : 0 ≤ n) (h1 : n ≤ most) (hm : most ≤ 1000) : impl_number.f (toB (dD n)) most = some (n, true) := by
 have hl : (dD n).length ≤ 4 := dec_len 3 n.toNat (by omega)
 rw [number_eq _ _ (by rw [toB_size]; omega) (by omega), toB_list, dD_v h0, if_pos ⟨dec_okNum (by omega), h1⟩]
def tls (h : Herd) (i : Nat) : List (List ByteArray) := (List.range i).map fun j => foeNames h j 0 h.Names.length
theorem tls_succ (h : Herd) (i : Nat) : tls h i ++ [foeNames h i 0 h.Names.length] = tls h (i + 1) := by
 unfold tls
 rw [List.range_succ, List.map_append]; rfl
theorem take_nm {h : Herd} {i : Nat} (hi : i < h.Names.length) : h.Names.take i ++ [nm h i] = h.Names.take (i + 1) := by
 rw [List.take_add_one, List.getElem?_eq_getElem hi]
 unfold nm
 rw [List.getD_eq_getElem?_getD, List.getElem?_eq_getElem hi]; rfl
theorem take_eats {h : Herd} {i : Nat} (hi : i < h.Eats.length) : h.Eats.take i ++ [eats h i] = h.Eats.take (i + 1) := by
 rw [List.take_add_one, List.getElem?_eq_getElem hi]
 unfold eats
 rw [List.getD_eq_getElem?_getD, List.getElem?_eq_getElem hi]; rfl
theorem take_foes {h : Herd} {i : Nat} (hi : i < h.Foes.length) : h.Foes.take i ++ [foes h i] = h.Foes.take (i + 1) := by
 rw [List.take_add_one, List.getElem?_eq_getElem hi]
 unfold foes
 rw [List.getD_eq_getElem?_getD, List.getElem?_eq_getElem hi]; rfl
theorem words_len {h : Herd} {i : Nat} : (wordsB h i).length ≤ h.Names.length + 2 ∧ 2 ≤ (wordsB h i).length := by
 have := foeNames_len h i 0 h.Names.length
 unfold wordsB
 simp only [List.length_cons]
 omega
theorem impl1 {h : Herd} (hv : vH h = true) : ∀ i, i ≤ h.Names.length → Ev (fun k => impl_ReadHerd.l1 k ((List.range' i (h.Names.length - i)).map fun j => toB (bodyL h j ++ [10])) (tls h i) (h.Names.take i) (h.Eats.take i) (List.replicate i 0)) (.inr (tls h h.Names.length, h.Names, h.Eats, List.replicate h.Names.length 0)) := by
 obtain ⟨n1, n2, n3⟩ := vH_len hv
 refine upL ?_ ?_
 ·rw [Nat.sub_self, List.take_of_length_le (Nat.le_refl _), List.take_of_length_le (by omega)]
  exact Ev.const rfl
 intro i hi ih
 obtain ⟨e0, e1⟩ := eats_le hv hi
 have hb := body_len hv hi
 have hwl := words_len (h := h) (i := i)
 have hsp : strings_Split.f (toB (bodyL h i)) (⟨#[32]⟩ : ByteArray) = some (wordsB h i) := by
   unfold strings_Split.f
   rw [chkX ⟨by rw [toB_size]; omega, Nat.le_refl _⟩, Option.bind_some, split_spl, toB_list, spl_body hv hi]
 have we : IntKind.i16.wrap (eats h i) = eats h i := w16 (by omega) (by omega)
 have tl : (tls h i).length = i := by unfold tls; simp
 have hd : (wordsB h i).drop 2 = foeNames h i 0 h.Names.length := rfl
 rw [← tls_succ, ← take_nm hi, ← take_eats (by omega), List.replicate_succ'] at ih
 rw [show h.Names.length - i = (h.Names.length - (i + 1)) + 1 by omega, List.range'_succ, List.map_cons]
 refine Ev.bind (Ev.const (trim_eq _ (by omega))) (Ev.bind (Ev.const hsp) (Ev.bind (a := false) (Ev.neg (by omega) (Ev.const ?_)) (Ev.neg (by simp) (Ev.bind (a := toB (dD (eats h i))) (Ev.const rfl) (Ev.bind (Ev.const (num_back e0 e1 (by omega))) (Ev.neg (by simp) (Ev.bind (a := nm h i) (Ev.const rfl) (Ev.bind (Ev.const (chkX ?_)) (Ev.bind (Ev.const (chkX ?_)) (Ev.bind (Ev.const (chkX ?_)) (Ev.bind (Ev.const (chkX ?_)) (Ev.bind (Ev.const (chkX ?_)) ?_))))))))))))
 ·rw [tl, decide_eq_false (by omega)]
 ·simp; omega
 ·simp; omega
 ·simp; omega
 ·omega
 ·rw [tl]; simp; omega
 rw [hd, we]; exact ih
def orF (m : Int) (l : List Nat) : Int := l.foldl (fun (m : Int) (k : Nat) => orI .u16 m (shlI .u16 1 (k : Int))) m
theorem orF_bit : ∀ (l : List Nat) (m : Int), in16 m → (∀ k ∈ l, k < 16) → in16 (orF m l) ∧ ∀ j, j < 16 → bitN (orF m l) j = (bitN m j || decide (j ∈ l))
  | [], m, hm, _ => ⟨hm, fun j _ => by simp [orF]⟩
  | k :: l, m, hm, hl => by
    have hk := hl k (by simp)
    have h1 : in16 (orI .u16 m (shlI .u16 1 (k : Int))) := or_in _ _
    obtain ⟨a, b⟩ := orF_bit l _ h1 (fun x hx => hl x (List.mem_cons_of_mem _ hx))
    refine ⟨a, fun j hj => ?_⟩
    have e : orF m (k :: l) = orF (orI .u16 m (shlI .u16 1 (k : Int))) l := rfl
    rw [e, b j hj, or_bit hm (one_in hk) hj, one_bitN hk hj, Bool.or_assoc]
    congr 1
    rw [Bool.eq_iff_iff]
    simp only [Bool.or_eq_true, decide_eq_true_eq, List.mem_cons]
    exact ⟨fun h => h.imp (fun h => h.symm) id, fun h => h.imp (fun h => h.symm) id⟩
def bN (h : Herd) (i : Nat) : List Nat := (List.range' 0 h.Names.length).filter (bitN (foes h i))
theorem bN_foe (h : Herd) (i : Nat) : foeNames h i 0 h.Names.length = (bN h i).map (nm h) := by
 unfold foeNames bl bN
 rw [List.map_map]
 exact List.map_congr_left fun x _ => by simp
theorem bN_lt {h : Herd} {i k : Nat} (hk : k ∈ bN h i) : k < h.Names.length := by
 unfold bN at hk
 have := List.mem_range'_1.1 (List.mem_filter.1 hk).1
 omega
theorem zero16 : in16 0 := ⟨by omega, by omega⟩
theorem bit_zero (j : Nat) (hj : j < 16) : bitN 0 j = false := by
 have : ∀ a : Fin 16, bitN 0 a = false := by decide
 exact this ⟨j, hj⟩
theorem orF_foes {h : Herd} (v : VHerd h) (hv : vH h = true) {i : Nat} (hi : i < h.Names.length) : orF 0 (bN h i) = foes h i := by
 obtain ⟨n1, n2, n3⟩ := vH_len hv
 obtain ⟨a, b⟩ := orF_bit (bN h i) 0 zero16 (fun k hk => by have := bN_lt hk; omega)
 refine bits_eq a (foes_in v i) fun j hj => ?_
 rw [b j hj, bit_zero j hj, Bool.false_or, Bool.eq_iff_iff, decide_eq_true_eq]
 unfold bN
 rw [List.mem_filter, List.mem_range'_1]
 constructor
 ·exact fun h => h.2
 intro hb
 refine ⟨⟨Nat.zero_le _, ?_⟩, hb⟩
 by_cases hn : j < h.Names.length
 ·omega
 have := foes_high v hv hi (j := j) (by omega)
 rw [this] at hb; cases hb
def FS (h : Herd) (i : Nat) (m : Int) : List Int := h.Foes.take i ++ m :: List.replicate (h.Names.length - (i + 1)) 0
theorem FS_len {h : Herd} (hf : h.Foes.length = h.Names.length) {i : Nat} (hi : i < h.Names.length) (m : Int) : (FS h i m).length = h.Names.length := by
 unfold FS
 simp only [List.length_append, List.length_cons, List.length_take, List.length_replicate]
 omega
theorem FS_get {h : Herd} (hf : h.Foes.length = h.Names.length) {i : Nat} (hi : i < h.Names.length) (m : Int) : getI (FS h i m) (i : Int) = some m := by
 rw [getI_nat (by rw [FS_len hf hi]; exact hi)]
 unfold FS
 rw [List.getElem_append_right (by simp; omega)]
 simp only [List.length_take, show min i h.Foes.length = i by omega, Nat.sub_self, List.getElem_cons_zero]
theorem FS_set {h : Herd} (hf : h.Foes.length = h.Names.length) {i : Nat} (hi : i < h.Names.length) (m m' : Int) : (FS h i m).set (i : Int).toNat m' = FS h i m' := by
 unfold FS
 rw [Int.toNat_natCast, List.set_append_right _ _ (by simp; omega), List.length_take, show min i h.Foes.length = i by omega, Nat.sub_self, List.set_cons_zero]
theorem FS_start {h : Herd} {i : Nat} (hi : i < h.Names.length) : h.Foes.take i ++ List.replicate (h.Names.length - i) 0 = FS h i 0 := by
 unfold FS
 rw [show h.Names.length - i = (h.Names.length - (i + 1)) + 1 by omega, List.replicate_succ]
theorem FS_end {h : Herd} (hf : h.Foes.length = h.Names.length) {i : Nat} (hi : i < h.Names.length) : FS h i (foes h i) = h.Foes.take (i + 1) ++ List.replicate (h.Names.length - (i + 1)) 0 := by
 unfold FS
 rw [← take_foes (by omega), List.append_assoc]; rfl
theorem nm_inj {h : Herd} (hv : vH h = true) {i k : Nat} (hi : i < h.Names.length) (hk : k < h.Names.length) (e : nm h i = nm h k) : i = k := by
 have key : ∀ i k, i < h.Names.length → k < i → nm h k ≠ nm h i := fun i k hi hki e => by
   have := (vH_ok hv hi).2 k hki
   unfold prB at this
   simp [e] at this
 rcases Nat.lt_trichotomy i k with h1 | h1 | h1
 ·exact absurd e (key k i hk h1)
 ·exact h1
 exact absurd e.symm (key i k hi h1)
theorem index_nm {h : Herd} (hv : vH h = true) {k : Nat} (hk : k < h.Names.length) : Ev (fun f => slices_Index_string_string.f f h.Names (nm h k)) (k : Int) := by
 obtain ⟨n1, n2, n3⟩ := vH_len hv
 have key : ∀ d i, i + d = k → Ev (fun f => slices_Index_string_string.l1 h.Names (nm h k) f (i : Int)) (.inl (k : Int)) := by
   intro d
   induction d with
   | zero =>
     intro i hi
     obtain rfl : i = k := by omega
     exact Ev.step (fun k => slices_Index_string_string.l1.eq_2 _ _ _ _) (Ev.pos (by omega) (Ev.bind (Ev.const (nm_get hk)) (Ev.pos rfl (Ev.const rfl))))
   | succ d ih =>
     intro i hi
     have ih := ih (i + 1) (by omega)
     have hi' : i < h.Names.length := by omega
     rw [← wsucc hi' (by omega)] at ih
     exact Ev.step (fun k => slices_Index_string_string.l1.eq_2 _ _ _ _) (Ev.pos (by omega) (Ev.bind (Ev.const (nm_get hi')) (Ev.neg (fun e => by have := nm_inj hv hk hi' e; omega) ih)))
 exact (key k 0 (by omega)).bind (Ev.const rfl)
theorem impl3 {h : Herd} (hv : vH h = true) {i : Nat} (hi : i < h.Names.length) : ∀ w, w ≤ (bN h i).length → ∀ m : Int, Ev (fun f => impl_ReadHerd.l3 h.Names (i : Int) (foeNames h i 0 h.Names.length) f (FS h i m) (w : Int)) (.inr (FS h i (orF m ((bN h i).drop w)))) := by
 obtain ⟨n1, n2, n3⟩ := vH_len hv
 have hlen : (foeNames h i 0 h.Names.length).length = (bN h i).length := by rw [bN_foe, List.length_map]
 have hle := foeNames_len h i 0 h.Names.length
 refine upL ?_ ?_
 ·intro m
  exact Ev.step (fun k => impl_ReadHerd.l3.eq_2 _ _ _ _ _ _) (Ev.neg (by omega) (Ev.const (by rw [List.drop_length]; rfl)))
 intro w hw ih m
 have hk := bN_lt (List.getElem_mem hw)
 have g : getI (foeNames h i 0 h.Names.length) (w : Int) = some (nm h (bN h i)[w]) := by
   rw [getI_nat (show w < (foeNames h i 0 h.Names.length).length by omega)]
   simp only [bN_foe, List.getElem_map]
 have ih := ih (orI .u16 m (shlI .u16 1 (((bN h i)[w] : Nat) : Int)))
 rw [← wsucc hw (by omega)] at ih
 rw [List.drop_eq_getElem_cons hw]
 refine Ev.step (fun k => impl_ReadHerd.l3.eq_2 _ _ _ _ _ _) (Ev.pos (by omega) (Ev.bind (Ev.const g) ((index_nm hv hk).bind (Ev.neg (by omega) (Ev.bind (Ev.const (FS_get n3 hi m)) (Ev.bind (Ev.const (chkX (by omega))) (Ev.bind (Ev.const (FS_get n3 hi m)) ?_)))))))
 rw [FS_set n3 hi]
 exact ih
theorem impl2 {h : Herd} (v : VHerd h) (hv : vH h = true) : ∀ i, i ≤ h.Names.length → Ev (fun f => impl_ReadHerd.l2 (tls h h.Names.length) h.Names f (h.Foes.take i ++ List.replicate (h.Names.length - i) 0) (i : Int)) (.inr h.Foes) := by
 obtain ⟨n1, n2, n3⟩ := vH_len hv
 have tl : (tls h h.Names.length).length = h.Names.length := by unfold tls; simp
 refine upL ?_ ?_
 ·exact Ev.step (fun k => impl_ReadHerd.l2.eq_2 _ _ _ _ _) (Ev.neg (by omega) (Ev.const (by rw [Nat.sub_self, List.take_of_length_le (by omega)]; simp)))
 intro i hi ih
 have g : getI (tls h h.Names.length) (i : Int) = some (foeNames h i 0 h.Names.length) := by
   rw [getI_nat (show i < (tls h h.Names.length).length by omega)]
   unfold tls
   rw [List.getElem_map, List.getElem_range]
 have h3 := impl3 hv hi 0 (Nat.zero_le _) 0
 rw [List.drop_zero, orF_foes v hv hi, FS_end n3 hi] at h3
 rw [← wsucc hi (by omega)] at ih
 rw [FS_start hi]
 refine Ev.step (fun k => impl_ReadHerd.l2.eq_2 _ _ _ _ _) (Ev.pos (by omega) ?_)
 refine Ev.bind (a := (.inr (h.Foes.take (i + 1) ++ List.replicate (h.Names.length - (i + 1)) 0) : ((Herd × Int) ⊕ List Int) ⊕ List Int)) ?_ ih
 exact Ev.bind (Ev.const g) (h3.bind (Ev.const rfl))
theorem implText {h : Herd} (v : VHerd h) (hv : vH h = true) : Ev (fun f => impl_HerdText.f f h) (txt h) := by
 have h2 := implHerd_ev v
 rw [hv] at h2
 have b := impl_text v hv 0 (Nat.zero_le _) ByteArray.empty (by simp)
 exact h2.bind (Ev.neg (by simp) (b.bind (Ev.const rfl)))
theorem implBack {h : Herd} (v : VHerd h) (hv : vH h = true) : Ev (fun f => impl_ReadHerd.f f (txt h)) (h, 0) := by
 obtain ⟨n1, n2, n3⟩ := vH_len hv
 have hl := textL_len hv h.Names.length 0 (by omega)
 have h1 := impl1 hv 0 (Nat.zero_le _)
 rw [Nat.sub_zero, ← lines_text hv _ _ (by omega), ← txt_L hv] at h1
 have h2 := impl2 v hv 0 (Nat.zero_le _)
 rw [Nat.sub_zero, List.take_zero, List.nil_append] at h2
 exact Ev.bind (Ev.const (chkX (by rw [txt_L hv, toB_size]; omega))) (h1.bind (h2.bind ((implText v hv).bind (Ev.neg (by simp) (Ev.const rfl)))))
end Go.Proofs.YtplfdbfdalaefaaGreatDoor
