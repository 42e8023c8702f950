import Derived.Test.YtokanemjghfadaaGreatDoorQH
import Derived.Test.YtokanemjghfadaaGreatDoorQO0
import Derived.Lib.SplitLaws
import Derived.Lib.ParseIntBTie
/-
  Plain laws: texts: decimal numerals, texts that are joined.
-/
namespace Go.Proofs.YtokanemjghfadaaGreatDoor
open G
set_option linter.unusedVariables false
set_option linter.unusedSimpArgs false
theorem chkX {p : Prop} [Decidable p] (h : p) : chk p = some () := if_pos h
theorem size_toList (s : ByteArray) : s.size = s.data.toList.length := by
 rw [Array.length_toList]
 rfl
theorem itoa_nat (n : Nat) : itoaB (n : Int) = ⟨(Go.Lib.decDigits n).toArray⟩ := by
 unfold itoaB Go.Lib.itoa
 rw [if_neg (by omega), Int.toNat_natCast]
theorem dec_len : ∀ (d n : Nat), n < 10 ^ (d + 1) → (Go.Lib.decDigits n).length ≤ d + 1
  | 0, n, h => by rw [Go.Lib.decDigits, dif_pos (by simpa using h)]; simp
  | d + 1, n, h => by
    rw [Go.Lib.decDigits]
    split
    · simp
    · have := dec_len d (n / 10) (by rw [Nat.pow_succ] at h; omega)
      rw [List.length_append]
      simp only [List.length_singleton]
      omega
theorem itoa_size {n d : Nat} (h : n < 10 ^ (d + 1)) : (itoaB (n : Int)).size ≤ d + 1 := by
 rw [itoa_nat, size_toList]
 simpa using dec_len d n h
theorem decimal_eq {n : Int} (h0 : 0 ≤ n) (h1 : n ≤ 1000000000) : impl_decimal.f n = some (itoaB n) := by
 unfold impl_decimal.f strconv_FormatInt.f
 rw [chkX ⟨rfl, by omega, by omega⟩]; rfl
/-! ### Texts that are joined -/
end Go.Proofs.YtokanemjghfadaaGreatDoor
/-
  Plain laws: texts that are read: pieces, numerals.
-/
namespace Go.Proofs.YtokanemjghfadaaGreatDoor
open G
set_option linter.unusedVariables false
set_option linter.unusedSimpArgs false
/-! ### Bytes and lists -/
def toB (l : List UInt8) : ByteArray := ⟨l.toArray⟩
theorem toB_list (l : List UInt8) : (toB l).data.toList = l := rfl
theorem toB_of (s : ByteArray) : toB s.data.toList = s := by
 apply ByteArray.ext
 simp [toB]
theorem toB_size (l : List UInt8) : (toB l).size = l.length := by rw [size_toList, toB_list]
theorem map_toB (xs : List ByteArray) : (xs.map (·.data.toList)).map toB = xs := by
 rw [List.map_map]
 conv => rhs; rw [← List.map_id xs]
 exact List.map_congr_left fun x _ => toB_of x
def exL (l : List UInt8) (a b : Nat) : List UInt8 := (l.drop a).take (b - a)
theorem ex_toB (s : ByteArray) (a b : Nat) : s.extract a b = toB (exL s.data.toList a b) := by
 apply ByteArray.ext
 apply Array.ext'
 rw [ByteArray.data_extract, Array.toList_extract]
 rfl
/-! ### Pieces -/
def preL (p : List UInt8) : List (List UInt8) → List (List UInt8)
  | [] => [p]
  | x :: xs => (p ++ x) :: xs
def spl (c : UInt8) : List UInt8 → List (List UInt8)
  | [] => [[]]
  | b :: l => if b = c then [] :: spl c l else preL [b] (spl c l)
theorem spl_hit {c : UInt8} {r : List UInt8} : ∀ {a : List UInt8}, c ∉ a → spl c (a ++ c :: r) = a :: spl c r
  | [], _ => by simp [spl]
  | b :: a, h => by
    have hb : b ≠ c := fun e => h (by simp [e])
    have ih := spl_hit (c := c) (r := r) (a := a) fun hm => h (by simp [hm])
    show spl c (b :: (a ++ c :: r)) = _
    rw [spl, if_neg hb, ih]; rfl
theorem spl_miss {c : UInt8} : ∀ {a : List UInt8}, c ∉ a → spl c a = [a]
  | [], _ => rfl
  | b :: a, h => by
    have hb : b ≠ c := fun e => h (by simp [e])
    rw [spl, if_neg hb, spl_miss (a := a) fun hm => h (by simp [hm])]; rfl
/-- The first of them, or none. -/
theorem first_of (c : UInt8) : ∀ l : List UInt8, c ∉ l ∨ ∃ a r, c ∉ a ∧ l = a ++ c :: r
  | [] => .inl (by simp)
  | b :: l => by
    by_cases hb : b = c
    · exact .inr ⟨[], l, by simp, by simp [hb]⟩
    · rcases first_of c l with h | ⟨a, r, h1, h2⟩
      · exact .inl fun hm => (List.mem_cons.1 hm).elim (fun e => hb e.symm) h
      · exact .inr ⟨b :: a, r, fun hm => (List.mem_cons.1 hm).elim (fun e => hb e.symm) h1, by simp [h2]⟩
theorem index_hit1 {c : UInt8} {r : List UInt8} : ∀ {a : List UInt8}, c ∉ a → Go.Lib.index (a ++ c :: r) [c] = (a.length : Int)
  | [], _ => by simp [Go.Lib.index, List.isPrefixOf]
  | b :: a, h => by
    have hb : b ≠ c := fun e => h (by simp [e])
    have ih := index_hit1 (c := c) (r := r) (a := a) fun hm => h (by simp [hm])
    show Go.Lib.index (b :: (a ++ c :: r)) [c] = _
    rw [Go.Lib.index, if_neg (by simp [List.isPrefixOf, Ne.symm hb]), ih, if_neg (by simp)]
    simp
theorem splitK_spl (c : UInt8) : ∀ (n : Nat) (l : List UInt8), l.count c = n → Go.Lib.splitK [c] 0 n l = spl c l := by
  intro n
  induction n with
  | zero =>
    intro l hl
    rw [spl_miss (List.count_eq_zero.1 hl)]; rfl
  | succ n ih =>
    intro l hl
    rcases first_of c l with h | ⟨a, r, h1, rfl⟩
    · rw [List.count_eq_zero.2 h] at hl; cases hl
    · rw [List.count_append, List.count_eq_zero.2 h1, List.count_cons_self] at hl
      have hi := index_hit1 (r := r) h1
      rw [spl_hit h1, Go.Lib.splitK, if_neg (by rw [hi]; simp), hi, Int.toNat_natCast]
      rw [show (a ++ c :: r).take (a.length + 0) = a by simp, show (a ++ c :: r).drop (a.length + [c].length) = r by
        rw [List.length_singleton, ← List.drop_drop, List.drop_left]; rfl, ih r (by omega)]
theorem split_spl (s : ByteArray) (c : UInt8) : splitS s ⟨#[c]⟩ = (spl c s.data.toList).map toB := by
 rw [← map_toB (splitS s ⟨#[c]⟩)]
 congr 1
 unfold splitS
 rw [Go.Lib.splitB_data]
 refine splitK_spl c _ _ ?_
 show s.data.toList.count c = Go.Lib.count s.data.toList [c]
 rw [Go.Lib.count_one]
theorem cut_hit (c : UInt8) {s : ByteArray} {a r : List UInt8} (h : c ∉ a) (hs : s.data.toList = a ++ c :: r) : cutS s ⟨#[c]⟩ = (toB a, toB r, true) := by
 unfold cutS Go.Lib.cut
 have hi : Go.Lib.index s.data.toList (⟨#[c]⟩ : ByteArray).data.toList = (a.length : Int) := by rw [hs]; exact index_hit1 h
 rw [hi, if_pos (by omega), Int.toNat_natCast, hs]
 rw [show (a ++ c :: r).take a.length = a by simp, show (a ++ c :: r).drop (a.length + (⟨#[c]⟩ : ByteArray).data.toList.length) = r by
   rw [← List.drop_drop, List.drop_left]; rfl]
 rfl
/-! ### Numerals -/
def digB (b : UInt8) : Bool := decide (48 ≤ b.toNat ∧ b.toNat ≤ 57)
def valF (acc : Nat) : List UInt8 → Nat
  | [] => acc
  | b :: l => valF (10 * acc + (b.toNat - 48)) l
def okShape (l : List UInt8) : Prop := l ≠ [] ∧ l.length ≤ 9 ∧ ¬ (l.head? = some 48 ∧ 1 < l.length)
instance (l : List UInt8) : Decidable (okShape l) := by unfold okShape; infer_instance
def okNum (l : List UInt8) : Bool := decide (okShape l) && l.all digB
theorem head_app {l m : List UInt8} (h : l ≠ []) : (l ++ m).head? = l.head? := by
  cases l with
  | nil => exact absurd rfl h
  | cons a l => rfl
theorem valF_app (b : UInt8) : ∀ (l : List UInt8) (acc : Nat), valF acc (l ++ [b]) = 10 * valF acc l + (b.toNat - 48)
  | [], acc => rfl
  | a :: l, acc => valF_app b l _
theorem valF_lt : ∀ (l : List UInt8) (acc k : Nat), l.all digB = true → acc < 10 ^ k → valF acc l < 10 ^ (k + l.length)
  | [], acc, k, _, h => h
  | a :: l, acc, k, hd, h => by
    simp only [List.all_cons, Bool.and_eq_true] at hd
    have ha := of_decide_eq_true hd.1
    have := valF_lt l (10 * acc + (a.toNat - 48)) (k + 1) hd.2 (by rw [Nat.pow_succ]; omega)
    show valF (10 * acc + (a.toNat - 48)) l < _
    rw [List.length_cons, show k + (l.length + 1) = k + 1 + l.length by omega]
    exact this
/-! ### Numerals and what they are numerals of -/
theorem dig_of {d : Nat} (h : d < 10) : (UInt8.ofNat (48 + d)).toNat = 48 + d := by
 rw [UInt8.toNat_ofNat']; omega
theorem dec_all : ∀ n : Nat, (Go.Lib.decDigits n).all digB = true := by
  intro n
  induction n using Nat.strongRecOn with
  | _ n ih =>
    rw [Go.Lib.decDigits]
    split
    · rename_i h
      simp only [List.all_cons, List.all_nil, Bool.and_true]
      exact decide_eq_true (by rw [dig_of h]; omega)
    · rename_i h
      rw [List.all_append, ih (n / 10) (by omega)]
      simp only [List.all_cons, List.all_nil, Bool.and_true, Bool.true_and]
      exact decide_eq_true (by rw [dig_of (by omega)]; omega)
theorem dec_val : ∀ n : Nat, valF 0 (Go.Lib.decDigits n) = n := by
  intro n
  induction n using Nat.strongRecOn with
  | _ n ih =>
    rw [Go.Lib.decDigits]
    split
    · rename_i h
      show 10 * 0 + ((UInt8.ofNat (48 + n)).toNat - 48) = n
      rw [dig_of h]; omega
    · rename_i h
      rw [valF_app, ih (n / 10) (by omega), dig_of (by omega)]; omega
theorem dec_ne (n : Nat) : Go.Lib.decDigits n ≠ [] := by
 rw [Go.Lib.decDigits]
 split <;> simp
theorem dec_head : ∀ n : Nat, (Go.Lib.decDigits n).head? = some 48 → n = 0 := by
  intro n
  induction n using Nat.strongRecOn with
  | _ n ih =>
    rw [Go.Lib.decDigits]
    split
    · rename_i h
      intro e
      have := congrArg (fun o : Option UInt8 => (o.getD 0).toNat) e
      simp only [List.head?_cons, Option.getD_some, dig_of h] at this
      have h48 : (48 : UInt8).toNat = 48 := rfl
      omega
    · rename_i h
      intro e
      rw [head_app (dec_ne _)] at e
      have := ih (n / 10) (by omega) e
      omega
theorem dec_okNum {n : Nat} (h : n < 1000000000) : okNum (Go.Lib.decDigits n) = true := by
 unfold okNum
 rw [dec_all, Bool.and_true]
 refine decide_eq_true ⟨dec_ne n, dec_len 8 n (by omega), fun hh => ?_⟩
 have := dec_head n hh.1
 subst this
 have := hh.2
 rw [Go.Lib.decDigits, dif_pos (by omega)] at this
 simp at this
theorem okNum_dec : ∀ (m : Nat) (l : List UInt8), l.length = m → okNum l = true → Go.Lib.decDigits (valF 0 l) = l := by
  intro m
  induction m with
  | zero =>
    intro l hl h
    unfold okNum at h
    simp only [Bool.and_eq_true, decide_eq_true_eq] at h
    exact absurd (List.length_eq_zero_iff.1 hl) h.1.1
  | succ m ih =>
    intro l hl h
    obtain ⟨l', b, rfl⟩ : ∃ l' b, l = l' ++ [b] := ⟨l.dropLast, l.getLast (by intro e; simp [e] at hl), (List.dropLast_concat_getLast _).symm⟩
    unfold okNum at h
    simp only [Bool.and_eq_true, decide_eq_true_eq, List.all_append, List.all_cons, List.all_nil, Bool.and_true] at h
    obtain ⟨⟨h1, h2, h3⟩, h4, h5⟩ := h
    have hb := of_decide_eq_true h5
    have hbv : UInt8.ofNat (48 + (b.toNat - 48)) = b := by
      apply UInt8.toNat_inj.1
      rw [dig_of (by omega)]; omega
    by_cases hn : l' = []
    · subst hn
      show Go.Lib.decDigits (10 * 0 + (b.toNat - 48)) = [b]
      rw [Go.Lib.decDigits, dif_pos (by omega), show 10 * 0 + (b.toNat - 48) = b.toNat - 48 by omega, hbv]
    · have hlp : 0 < l'.length := List.length_pos_iff.2 hn
      have hhd : (l' ++ [b]).head? = l'.head? := head_app hn
      rw [hhd] at h3
      have ho : okNum l' = true := by
        unfold okNum
        rw [h4, Bool.and_true]
        refine decide_eq_true ⟨hn, by simp at h2; omega, fun hh => h3 ⟨hh.1, by simp; omega⟩⟩
      have ih := ih l' (by simp at hl; omega) ho
      have hv : valF 0 l' ≠ 0 := by
        intro e
        rw [e, Go.Lib.decDigits, dif_pos (by omega)] at ih
        refine h3 ⟨by rw [← ih]; rfl, by simp; omega⟩
      rw [valF_app, Go.Lib.decDigits, dif_neg (by omega), show (10 * valF 0 l' + (b.toNat - 48)) / 10 = valF 0 l' by omega, ih, show (10 * valF 0 l' + (b.toNat - 48)) % 10 = b.toNat - 48 by omega, hbv]
theorem okNum_itoa {s : ByteArray} (h : okNum s.data.toList = true) : itoaB ((valF 0 s.data.toList : Nat) : Int) = s := by
 rw [itoa_nat, okNum_dec _ _ rfl h]
theorem okNum_lt {l : List UInt8} (h : okNum l = true) : valF 0 l < 1000000000 := by
 unfold okNum at h
 simp only [Bool.and_eq_true, decide_eq_true_eq] at h
 have := valF_lt l 0 0 h.2 (by omega)
 have hl := h.1.2.1
 have h9 : (10 : Nat) ^ (0 + l.length) ≤ 10 ^ 9 := Nat.pow_le_pow_right (by omega) (by omega)
 omega
theorem parse_dig : ∀ (l : List UInt8) (acc k : Nat), l.all digB = true → acc < 10 ^ k → l.length + k ≤ 18 → Go.Lib.parseUintM (2 ^ 64 - 1) acc l = .ok (valF acc l)
  | [], acc, k, _, _, _ => rfl
  | a :: l, acc, k, hd, hk, hl => by
    simp only [List.all_cons, Bool.and_eq_true] at hd
    have ha := of_decide_eq_true hd.1
    have h17 : (10 : Nat) ^ k ≤ 10 ^ 17 := Nat.pow_le_pow_right (by omega) (by simp at hl; omega)
    rw [Go.Lib.parseUintM, if_pos ha, if_neg (by omega), if_neg (by omega), show acc * 10 + (a.toNat - 48) = 10 * acc + (a.toNat - 48) by omega]
    exact parse_dig l _ (k + 1) hd.2 (by rw [Nat.pow_succ]; omega) (by simp at hl; omega)
theorem parse_ok {l : List UInt8} (h : okNum l = true) : Go.Lib.parseIntB 64 l = .ok ((valF 0 l : Nat) : Int) := by
  have hlt := okNum_lt h
  unfold okNum at h
  simp only [Bool.and_eq_true, decide_eq_true_eq] at h
  cases l with
  | nil => exact absurd rfl h.1.1
  | cons c r =>
    have hc : digB c = true := by have := h.2; simp only [List.all_cons, Bool.and_eq_true] at this; exact this.1
    have hc := of_decide_eq_true hc
    have hne : ¬ (c.toNat = 43 ∨ c.toNat = 45) := by omega
    unfold Go.Lib.parseIntB Go.Lib.parseUintB
    simp only
    rw [if_neg hne, if_neg (show ¬ (c :: r = []) by simp), parse_dig (c :: r) 0 0 h.2 (by omega) (by have := h.1.2.1; omega)]
    simp only
    rw [if_neg (by omega), if_neg (by omega), if_neg (by omega)]
theorem parseI_ok {s : ByteArray} {v : Int} (h : Go.Lib.parseIntB 64 s.data.toList = .ok v) : parseI s = (v, false) := by
 unfold parseI; rw [h]
theorem parseI_syn {s : ByteArray} (h : Go.Lib.parseIntB 64 s.data.toList = .syntax) : (parseI s).2 = true := by
 unfold parseI; rw [h]
theorem parseI_rng {s : ByteArray} (h : Go.Lib.parseIntB 64 s.data.toList = .range) : (parseI s).2 = true := by
 unfold parseI; rw [h]
theorem number_eq (s : ByteArray) (most : Int) (hs : s.size ≤ 4294967296) (hm : most ≤ 1000000) : impl_number.f s most = some (if okNum s.data.toList = true ∧ ((valF 0 s.data.toList : Nat) : Int) ≤ most then ((((valF 0 s.data.toList : Nat) : Int)), true) else (0, false)) := by
  unfold impl_number.f strconv_ParseInt.f
  rw [chkX ⟨hs, rfl, rfl⟩, Option.bind_some, Option.bind_some]
  cases hp : Go.Lib.parseIntB 64 s.data.toList with
  | «syntax» =>
    rw [if_pos (parseI_syn hp), if_neg fun h => by rw [parse_ok h.1] at hp; cases hp]
  | range =>
    rw [if_pos (parseI_rng hp), if_neg fun h => by rw [parse_ok h.1] at hp; cases hp]
  | ok v =>
    obtain ⟨b1, b2⟩ := Go.Lib.parseIntB_bounds hp
    have hd : impl_decimal.f v = some (itoaB v) := by
      unfold impl_decimal.f strconv_FormatInt.f
      rw [chkX ⟨rfl, by omega, by omega⟩]; rfl
    rw [parseI_ok hp]
    simp only [if_neg (show ¬ (false = true) by simp), hd, Option.bind_some, within_eq]
    have hv : okNum s.data.toList = true → v = ((valF 0 s.data.toList : Nat) : Int) := fun h => by
      rw [parse_ok h] at hp
      injection hp with hp
      exact hp.symm
    by_cases h1 : itoaB v = s
    · rw [if_neg (by simp [h1])]
      by_cases h2 : 0 ≤ v ∧ v ≤ most
      · obtain ⟨n, rfl⟩ := Int.eq_ofNat_of_zero_le h2.1
        have hok : okNum s.data.toList = true := by
          rw [← h1, itoa_nat]
          exact dec_okNum (by omega)
        rw [if_neg (by simp [h2]), if_pos ⟨hok, by rw [← hv hok]; exact h2.2⟩, ← hv hok]
      · rw [if_pos (by simp only [decide_eq_false h2]; rfl), if_neg fun h => h2 (by rw [hv h.1]; exact ⟨by omega, h.2⟩)]
    · rw [if_pos h1, if_neg fun h => h1 (by rw [hv h.1]; exact okNum_itoa h.1)]
end Go.Proofs.YtokanemjghfadaaGreatDoor
