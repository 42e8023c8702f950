import Derived.Test.YtplfdbfdalaefaaGreatDoorQA
import Derived.Test.YtplfdbfdalaefaaGreatDoorQH3
/-
  Plain laws: texts: decimal numerals, texts that are joined.
-/
namespace Go.Proofs.YtplfdbfdalaefaaGreatDoor
open G
set_option linter.unusedVariables false
set_option linter.unusedSimpArgs false
theorem chkX {p : Prop} [Decidable p] (h : p) : chk p = some () := if_pos h
theorem size_toList (s : ByteArray) : s.size = s.data.toList.length := by
 rw [Array.length_toList]
 rfl
theorem itoa_nat (n : Nat) : itoaB (n : Int) = ⟨(Go.Lib.decDigits n).toArray⟩ := by
 unfold itoaB Go.Lib.itoa
 rw [if_neg (by omega), Int.toNat_natCast]
theorem dec_len : ∀ (d n : Nat), n < 10 ^ (d + 1) → (Go.Lib.decDigits n).length ≤ d + 1
  | 0, n, h => by rw [Go.Lib.decDigits, dif_pos (by simpa using h)]; simp
  | d + 1, n, h => by
    rw [Go.Lib.decDigits]
    split
    · simp
    · have := dec_len d (n / 10) (by rw [Nat.pow_succ] at h; omega)
      rw [List.length_append]
      simp only [List.length_singleton]
      omega
theorem itoa_size {n d : Nat} (h : n < 10 ^ (d + 1)) : (itoaB (n : Int)).size ≤ d + 1 := by
 rw [itoa_nat, size_toList]
 simpa using dec_len d n h
theorem decimal_eq {n : Int} (h0 : 0 ≤ n) (h1 : n ≤ 1000000000) : impl_decimal.f n = some (itoaB n) := by
 unfold impl_decimal.f strconv_FormatInt.f
 rw [chkX ⟨rfl, by omega, by omega⟩]; rfl
def catB (s : ByteArray) : ByteArray → List ByteArray → ByteArray
  | a, [] => a
  | a, y :: ys => catB s (a ++ (s ++ y)) ys
theorem catB_list (s : ByteArray) : ∀ (xs : List ByteArray) (a : ByteArray), (catB s a xs).data.toList = a.data.toList ++ Go.Lib.joinTail s.data.toList (xs.map (·.data.toList))
  | [], a => by simp [catB, Go.Lib.joinTail]
  | y :: ys, a => by
    show (catB s (a ++ (s ++ y)) ys).data.toList = _
    rw [catB_list s ys, ByteArray.data_append, ByteArray.data_append]
    simp [Go.Lib.joinTail]
theorem joinB_cons (x : ByteArray) (xs : List ByteArray) (s : ByteArray) : joinB (x :: xs) s = catB s x xs := by
 apply ByteArray.ext
 show (Go.Lib.join ((x :: xs).map (·.data.toList)) s.data.toList).toArray = (catB s x xs).data
 rw [List.map_cons, Go.Lib.join_cons, ← catB_list s xs x]
theorem catB_size (s : ByteArray) (b : Nat) : ∀ (xs : List ByteArray) (a : ByteArray), (∀ x ∈ xs, x.size ≤ b) → (catB s a xs).size ≤ a.size + (s.size + b) * xs.length
  | [], a, _ => by simp [catB]
  | y :: ys, a, h => by
    have ih := catB_size s b ys (a ++ (s ++ y)) fun x hx => h x (List.mem_cons_of_mem _ hx)
    have hy := h y (List.mem_cons_self ..)
    rw [ByteArray.size_append, ByteArray.size_append] at ih
    show (catB s (a ++ (s ++ y)) ys).size ≤ _
    rw [List.length_cons, Nat.mul_succ]
    omega
theorem join_eq (x : ByteArray) (xs : List ByteArray) (s : ByteArray) (hl : (x :: xs).length ≤ 4294967296) (hz : (catB s x xs).size ≤ 4294967296) : strings_Join.f (x :: xs) s = some (catB s x xs, x :: xs) := by
 unfold strings_Join.f
 rw [joinB_cons, chkX ⟨hl, hz⟩]; rfl
end Go.Proofs.YtplfdbfdalaefaaGreatDoor
namespace Go.Proofs.YtplfdbfdalaefaaGreatDoor
open G
set_option linter.unusedVariables false
set_option linter.unusedSimpArgs false
def sp : ByteArray := ⟨#[32]⟩
def nl : ByteArray := ⟨#[10]⟩
def foeNames (h : Herd) (i j n : Nat) : List ByteArray := (bl (foes h i) j n).map fun x => nm h x.toNat
theorem nm_le {h : Herd} (hv : vH h = true) {i : Nat} (hi : i < h.Names.length) : (nm h i).size ≤ 8 := by
 have := (vH_ok hv hi).1
 unfold okI nameB at this
 simp only [Bool.and_eq_true, decide_eq_true_eq] at this
 exact this.1.1.2
theorem eats_le {h : Herd} (hv : vH h = true) {i : Nat} (hi : i < h.Names.length) : 0 ≤ eats h i ∧ eats h i ≤ 100 := by
 have := (vH_ok hv hi).1
 unfold okI at this
 simp only [Bool.and_eq_true, decide_eq_true_eq] at this
 exact this.2.1
theorem foeNames_le {h : Herd} (hv : vH h = true) (i j : Nat) : ∀ x ∈ foeNames h i j (h.Names.length - j), x.size ≤ 8 := by
 intro x hx
 unfold foeNames at hx
 obtain ⟨y, hy, rfl⟩ := List.mem_map.1 hx
 unfold bl at hy
 obtain ⟨m, hm, rfl⟩ := List.mem_map.1 hy
 obtain ⟨hm1, _⟩ := List.mem_filter.1 hm
 have := List.mem_range'_1.1 hm1
 rw [Int.toNat_natCast]
 exact nm_le hv (by omega)
theorem foeNames_len (h : Herd) (i j n : Nat) : (foeNames h i j n).length ≤ n := by
 unfold foeNames
 rw [List.length_map]
 exact bl_len _ _ _
theorem impl_words {h : Herd} (hv : vH h = true) {i : Nat} (hi : i < h.Names.length) : ∀ q, q ≤ (bl (foes h i) 0 h.Names.length).length → ∀ ws : List ByteArray, ws.length ≤ 2 + q → Ev (fun k => impl_HerdText.l2 h (bl (foes h i) 0 h.Names.length) k ws (q : Int)) (ws ++ ((bl (foes h i) 0 h.Names.length).drop q).map fun x => nm h x.toNat) := by
 obtain ⟨n1, n2, n3⟩ := vH_len hv
 have hl := bl_len (foes h i) 0 h.Names.length
 refine upL ?_ ?_
 ·intro ws hw
  refine Ev.step (fun k => impl_HerdText.l2.eq_2 _ _ _ _ _) (Ev.neg (by omega) (Ev.const ?_))
  rw [List.drop_length]; simp
 intro q hq ih ws hw
 have hx : ∃ m : Nat, m < h.Names.length ∧ (bl (foes h i) 0 h.Names.length)[q] = (m : Int) := by
   have hm := List.getElem_mem hq
   unfold bl at hm
   obtain ⟨m, hm1, hm2⟩ := List.mem_map.1 hm
   have := List.mem_range'_1.1 (List.mem_filter.1 hm1).1
   exact ⟨m, by omega, hm2.symm⟩
 obtain ⟨m, hm, em⟩ := hx
 refine Ev.step (fun k => impl_HerdText.l2.eq_2 _ _ _ _ _) (Ev.pos (by omega) (Ev.bind (Ev.const (getI_nat hq)) (Ev.bind (a := nm h m) (Ev.const (by rw [em]; exact nm_get hm)) (Ev.bind (Ev.const (chkX (by simp; omega))) ?_))))
 rw [wsucc hq (by omega), List.drop_eq_getElem_cons hq, List.map_cons, em, Int.toNat_natCast]
 have := ih (ws ++ [nm h m]) (by simp; omega)
 rw [List.append_assoc] at this
 exact this
def lineB (h : Herd) (i : Nat) : ByteArray := catB sp ((nm h i ++ sp) ++ itoaB (eats h i)) (foeNames h i 0 h.Names.length) ++ nl
theorem line_size {h : Herd} (hv : vH h = true) {i : Nat} (hi : i < h.Names.length) : (catB sp ((nm h i ++ sp) ++ itoaB (eats h i)) (foeNames h i 0 h.Names.length)).size ≤ 150 ∧ (itoaB (eats h i)).size ≤ 3 ∧ (lineB h i).size ≤ 151 := by
 obtain ⟨n1, n2, n3⟩ := vH_len hv
 obtain ⟨e0, e1⟩ := eats_le hv hi
 obtain ⟨z, hz⟩ := Int.eq_ofNat_of_zero_le e0
 have hs : (itoaB (eats h i)).size ≤ 3 := by rw [hz]; exact itoa_size (d := 2) (by omega)
 have hn := nm_le hv hi
 have hc := catB_size sp 8 (foeNames h i 0 h.Names.length) ((nm h i ++ sp) ++ itoaB (eats h i)) (by have := foeNames_le hv i 0; rw [Nat.sub_zero] at this; exact this)
 have hl := foeNames_len h i 0 h.Names.length
 rw [ByteArray.size_append, ByteArray.size_append] at hc
 have h1 : sp.size = 1 := rfl
 have h2 : nl.size = 1 := rfl
 rw [h1] at hc
 have hm : (1 + 8) * (foeNames h i 0 h.Names.length).length ≤ 126 := by omega
 refine ⟨by omega, hs, ?_⟩
 unfold lineB
 rw [ByteArray.size_append, h2]
 omega
def textB (h : Herd) : Nat → Nat → ByteArray → ByteArray
  | 0, _, y => y
  | n + 1, i, y => textB h n (i + 1) (y ++ lineB h i)
theorem impl_text {h : Herd} (v : VHerd h) (hv : vH h = true) : ∀ i, i ≤ h.Names.length → ∀ y : ByteArray, y.size ≤ 151 * i → Ev (fun k => impl_HerdText.l1 h k y (i : Int)) (textB h (h.Names.length - i) i y) := by
 obtain ⟨n1, n2, n3⟩ := vH_len hv
 refine upL ?_ ?_
 ·intro y hy
  refine Ev.step (fun k => impl_HerdText.l1.eq_2 _ _ _ _) (Ev.neg (by omega) (Ev.const ?_))
  rw [Nat.sub_self]; rfl
 intro i hi ih y hy
 obtain ⟨s1, s2, s3⟩ := line_size hv hi
 obtain ⟨e0, e1⟩ := eats_le hv hi
 have hn := nm_le hv hi
 have hw : IntKind.i64.wrap (eats h i) = eats h i := w64 (by omega) (by omega)
 have hd : Ev (fun _ => impl_decimal.f (IntKind.i64.wrap (eats h i))) (itoaB (eats h i)) := Ev.const (by rw [hw]; exact decimal_eq e0 (by omega))
 have h2 : (⟨#[10]⟩ : ByteArray).size = 1 := rfl
 have l2 := listed_ev (foes h i)
 rw [bl_cut (show h.Names.length ≤ 16 by omega) (fun j hj => foes_high v hv hi hj)] at l2
 have lw := impl_words hv hi 0 (Nat.zero_le _) [nm h i, itoaB (eats h i)] (by simp)
 rw [List.drop_zero] at lw
 have ecat : catB sp (nm h i) (itoaB (eats h i) :: foeNames h i 0 h.Names.length) = catB sp ((nm h i ++ sp) ++ itoaB (eats h i)) (foeNames h i 0 h.Names.length) := by
   show catB sp (nm h i ++ (sp ++ itoaB (eats h i))) _ = _
   rw [ByteArray.append_assoc]
 have hj : strings_Join.f ([nm h i, itoaB (eats h i)] ++ foeNames h i 0 h.Names.length) (⟨#[32]⟩ : ByteArray) = some (catB sp ((nm h i ++ sp) ++ itoaB (eats h i)) (foeNames h i 0 h.Names.length), nm h i :: itoaB (eats h i) :: foeNames h i 0 h.Names.length) := by
   have := join_eq (nm h i) (itoaB (eats h i) :: foeNames h i 0 h.Names.length) sp (by have := foeNames_len h i 0 h.Names.length; simp only [List.length_cons]; omega) (by rw [ecat]; omega)
   rw [ecat] at this
   exact this
 have c1 : chk ((catB sp ((nm h i ++ sp) ++ itoaB (eats h i)) (foeNames h i 0 h.Names.length)).size + (⟨#[10]⟩ : ByteArray).size ≤ 4294967296) = some () := chkX (by rw [h2]; omega)
 have c2 : chk (y.size + (catB sp ((nm h i ++ sp) ++ itoaB (eats h i)) (foeNames h i 0 h.Names.length) ++ (⟨#[10]⟩ : ByteArray)).size ≤ 4294967296) = some () := chkX (by rw [ByteArray.size_append, h2]; omega)
 rw [show h.Names.length - i = (h.Names.length - (i + 1)) + 1 by omega]
 have hh := ih (y ++ lineB h i) (by rw [ByteArray.size_append]; omega)
 rw [← wsucc hi (by omega)] at hh
 refine Ev.step (fun k => impl_HerdText.l1.eq_2 _ _ _ _) (Ev.pos (by omega) (Ev.bind (a := y ++ lineB h i) ?_ hh))
 refine Ev.bind (Ev.const (nm_get hi)) (Ev.bind (Ev.const (eats_get (by omega))) (hd.bind (Ev.bind (Ev.const (foes_get (by omega))) (l2.bind (lw.bind (Ev.bind (Ev.const hj) (Ev.bind (Ev.const c1) (Ev.bind (Ev.const c2) (Ev.const rfl)))))))))
end Go.Proofs.YtplfdbfdalaefaaGreatDoor
