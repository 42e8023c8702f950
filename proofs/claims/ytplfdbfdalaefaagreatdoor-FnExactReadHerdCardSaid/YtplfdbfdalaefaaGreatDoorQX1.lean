
/-
  Plain laws: texts: decimal numerals, texts that are joined.
-/
import Derived.Test.YtplfdbfdalaefaaGreatDoorQH
namespace Go.Proofs.YtplfdbfdalaefaaGreatDoor
open G
set_option linter.unusedVariables false
set_option linter.unusedSimpArgs false
theorem chkX {p : Prop} [Decidable p] (h : p) : chk p = some () := if_pos h
theorem size_toList (s : ByteArray) : s.size = s.data.toList.length := by
  rw [Array.length_toList]
  rfl
theorem bstr_one (x : Int) : bstr [x] = ⟨[UInt8.ofNat x.toNat].toArray⟩ := rfl
theorem itoa_nat (n : Nat) : itoaB (n : Int) = ⟨(Go.Lib.decDigits n).toArray⟩ := by
  unfold itoaB Go.Lib.itoa
  rw [if_neg (by omega), Int.toNat_natCast]
theorem dec_len : ∀ (d n : Nat), n < 10 ^ (d + 1) → (Go.Lib.decDigits n).length ≤ d + 1
  | 0, n, h => by rw [Go.Lib.decDigits, dif_pos (by simpa using h)]; simp
  | d + 1, n, h => by
    rw [Go.Lib.decDigits]
    split
    · simp
    · have := dec_len d (n / 10) (by rw [Nat.pow_succ] at h; omega)
      rw [List.length_append]
      simp only [List.length_singleton]
      omega
theorem itoa_size {n d : Nat} (h : n < 10 ^ (d + 1)) : (itoaB (n : Int)).size ≤ d + 1 := by
  rw [itoa_nat, size_toList]
  simpa using dec_len d n h
theorem dec_ev (d : Nat) : ∀ n : Nat, n < 10 ^ (d + 1) → n ≤ 1000000000 → Ev (fun k => spec_Decimal.f k (n : Int)) (itoaB (n : Int)) := by
  have hb : ∀ n : Nat, n ≤ 1000000000 → bstr [IntKind.u8.wrap (IntKind.i64.wrap (48 + (Int.tmod (n : Int) 10)))] = ⟨[UInt8.ofNat (48 + n % 10)].toArray⟩ := by
    intro n hn
    have e1 : Int.tmod (n : Int) 10 = ((n % 10 : Nat) : Int) := by rw [Int.tmod_eq_emod_of_nonneg (by omega)]; omega
    have e2 : IntKind.u8.wrap ((48 + n % 10 : Nat) : Int) = ((48 + n % 10 : Nat) : Int) := by
      have : ((48 + n % 10 : Nat) : Int) < 256 := by omega
      simp [IntKind.wrap, IntKind.bits, IntKind.signed]
      omega
    rw [e1, w64 (by omega) (by omega), show (48 : Int) + ((n % 10 : Nat) : Int) = ((48 + n % 10 : Nat) : Int) by omega, e2, bstr_one, Int.toNat_natCast]
  induction d with
  | zero =>
    intro n hn hl
    have hn : n < 10 := by simpa using hn
    refine Ev.step (fun k => spec_Decimal.f.eq_2 _ _) (Ev.pos (by omega) (Ev.const ?_))
    rw [hb n hl, itoa_nat, Go.Lib.decDigits, dif_pos hn, Nat.mod_eq_of_lt hn]
  | succ d ih =>
    intro n hn hl
    by_cases h : n < 10
    · refine Ev.step (fun k => spec_Decimal.f.eq_2 _ _) (Ev.pos (by omega) (Ev.const ?_))
      rw [hb n hl, itoa_nat, Go.Lib.decDigits, dif_pos h, Nat.mod_eq_of_lt h]
    · have e : IntKind.i64.wrap (Int.tdiv (n : Int) 10) = ((n / 10 : Nat) : Int) := by
        rw [Int.tdiv_eq_ediv_of_nonneg (by omega), w64 (by omega) (by omega)]; omega
      have hs := ih (n / 10) (by rw [Nat.pow_succ] at hn; omega) (by omega)
      have hz := itoa_size (n := n / 10) (d := d) (by rw [Nat.pow_succ] at hn; omega)
      have hd : d ≤ 1000000000 ∨ 1000000000 < d := by omega
      refine Ev.step (fun k => spec_Decimal.f.eq_2 _ _) (Ev.neg (by omega) (Ev.bind (a := itoaB ((n / 10 : Nat) : Int)) (by rw [e]; exact hs) (Ev.bind (Ev.const (chkX ?_)) (Ev.const ?_))))
      · have hz2 := itoa_size (n := n / 10) (d := 9) (by omega)
        rw [hb n hl]
        show (itoaB ((n / 10 : Nat) : Int)).size + 1 ≤ _
        omega
      · rw [hb n hl, itoa_nat, itoa_nat]
        congr 1
        apply ByteArray.ext
        rw [ByteArray.data_append]
        show (Go.Lib.decDigits (n / 10)).toArray ++ [UInt8.ofNat (48 + n % 10)].toArray = (Go.Lib.decDigits n).toArray
        conv => rhs; rw [Go.Lib.decDigits, dif_neg h]
        simp
theorem decimal_eq {n : Int} (h0 : 0 ≤ n) (h1 : n ≤ 1000000000) : impl_decimal.f n = some (itoaB n) := by
  unfold impl_decimal.f strconv_FormatInt.f
  rw [chkX ⟨rfl, by omega, by omega⟩]; rfl
/-! ### Texts that are joined -/
def catB (s : ByteArray) : ByteArray → List ByteArray → ByteArray
  | a, [] => a
  | a, y :: ys => catB s (a ++ (s ++ y)) ys
theorem catB_app (s : ByteArray) : ∀ (xs : List ByteArray) (a b : ByteArray), catB s (a ++ b) xs = a ++ catB s b xs
  | [], a, b => rfl
  | y :: ys, a, b => by
    show catB s (a ++ b ++ (s ++ y)) ys = a ++ catB s (b ++ (s ++ y)) ys
    rw [ByteArray.append_assoc, catB_app s ys]
theorem catB_cat (s : ByteArray) : ∀ (xs ys : List ByteArray) (a : ByteArray), catB s a (xs ++ ys) = catB s (catB s a xs) ys
  | [], ys, a => rfl
  | x :: xs, ys, a => catB_cat s xs ys _
theorem catB_list (s : ByteArray) : ∀ (xs : List ByteArray) (a : ByteArray), (catB s a xs).data.toList = a.data.toList ++ Go.Lib.joinTail s.data.toList (xs.map (·.data.toList))
  | [], a => by simp [catB, Go.Lib.joinTail]
  | y :: ys, a => by
    show (catB s (a ++ (s ++ y)) ys).data.toList = _
    rw [catB_list s ys, ByteArray.data_append, ByteArray.data_append]
    simp [Go.Lib.joinTail]
theorem joinB_cons (x : ByteArray) (xs : List ByteArray) (s : ByteArray) : joinB (x :: xs) s = catB s x xs := by
  apply ByteArray.ext
  show (Go.Lib.join ((x :: xs).map (·.data.toList)) s.data.toList).toArray = (catB s x xs).data
  rw [List.map_cons, Go.Lib.join_cons, ← catB_list s xs x]
theorem catB_size (s : ByteArray) (b : Nat) : ∀ (xs : List ByteArray) (a : ByteArray), (∀ x ∈ xs, x.size ≤ b) → (catB s a xs).size ≤ a.size + (s.size + b) * xs.length
  | [], a, _ => by simp [catB]
  | y :: ys, a, h => by
    have ih := catB_size s b ys (a ++ (s ++ y)) fun x hx => h x (List.mem_cons_of_mem _ hx)
    have hy := h y (List.mem_cons_self ..)
    rw [ByteArray.size_append, ByteArray.size_append] at ih
    show (catB s (a ++ (s ++ y)) ys).size ≤ _
    rw [List.length_cons, Nat.mul_succ]
    omega
theorem join_eq (x : ByteArray) (xs : List ByteArray) (s : ByteArray) (hl : (x :: xs).length ≤ 4294967296) (hz : (catB s x xs).size ≤ 4294967296) : strings_Join.f (x :: xs) s = some (catB s x xs, x :: xs) := by
  unfold strings_Join.f
  rw [joinB_cons, chkX ⟨hl, hz⟩]; rfl
end Go.Proofs.YtplfdbfdalaefaaGreatDoor
