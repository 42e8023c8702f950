
/-
  Plain laws: texts that are read: pieces, numerals.
-/
import Derived.Test.YtplfdbfdalaefaaGreatDoorQX0
import Derived.Test.YtplfdbfdalaefaaGreatDoorQO0
import Derived.Lib.SplitLaws
import Derived.Lib.ParseIntBTie
namespace Go.Proofs.YtplfdbfdalaefaaGreatDoor
open G
set_option linter.unusedVariables false
set_option linter.unusedSimpArgs false
/-! ### Bytes and lists -/
def toB (l : List UInt8) : ByteArray := ⟨l.toArray⟩
theorem toB_list (l : List UInt8) : (toB l).data.toList = l := rfl
theorem toB_of (s : ByteArray) : toB s.data.toList = s := by
  apply ByteArray.ext
  simp [toB]
theorem toB_inj {l m : List UInt8} (h : toB l = toB m) : l = m := by
  have := congrArg (fun s : ByteArray => s.data.toList) h
  simpa [toB] using this
theorem toB_size (l : List UInt8) : (toB l).size = l.length := by rw [size_toList, toB_list]
theorem toB_app (l m : List UInt8) : toB (l ++ m) = toB l ++ toB m := by
  apply ByteArray.ext
  rw [ByteArray.data_append]; simp [toB]
theorem map_toB (xs : List ByteArray) : (xs.map (·.data.toList)).map toB = xs := by
  rw [List.map_map]
  conv => rhs; rw [← List.map_id xs]
  exact List.map_congr_left fun x _ => toB_of x
def exL (l : List UInt8) (a b : Nat) : List UInt8 := (l.drop a).take (b - a)
theorem ex_toB (s : ByteArray) (a b : Nat) : s.extract a b = toB (exL s.data.toList a b) := by
  apply ByteArray.ext
  apply Array.ext'
  rw [ByteArray.data_extract, Array.toList_extract]
  rfl
theorem getB_list (s : ByteArray) {i : Nat} (h : i < s.data.toList.length) : getB s (i : Int) = some ((s.data.toList[i].toNat : Nat) : Int) := by
  have h' : i < s.size := by rw [size_toList]; exact h
  have e : s[i]? = some (s.data.toList[i]'h) := by
    rw [getElem?_pos s i h']; rfl
  unfold getB
  rw [if_pos (by omega), Int.toNat_natCast, e]; rfl
/-! ### Pieces -/
def preL (p : List UInt8) : List (List UInt8) → List (List UInt8)
  | [] => [p]
  | x :: xs => (p ++ x) :: xs
def spl (c : UInt8) : List UInt8 → List (List UInt8)
  | [] => [[]]
  | b :: l => if b = c then [] :: spl c l else preL [b] (spl c l)
theorem pre_pre (p q : List UInt8) : ∀ xs, preL p (preL q xs) = preL (p ++ q) xs
  | [] => rfl
  | x :: xs => by simp [preL]
theorem pre_ne (p : List UInt8) : ∀ xs, preL p xs ≠ []
  | [] => by simp [preL]
  | x :: xs => by simp [preL]
theorem spl_ne (c : UInt8) : ∀ l, spl c l ≠ []
  | [] => by simp [spl]
  | b :: l => by
    unfold spl
    split
    · simp
    · exact pre_ne _ _
theorem pre_nil : ∀ {xs : List (List UInt8)}, xs ≠ [] → preL [] xs = xs
  | [], h => absurd rfl h
  | x :: xs, _ => rfl
theorem spl_hit {c : UInt8} {r : List UInt8} : ∀ {a : List UInt8}, c ∉ a → spl c (a ++ c :: r) = a :: spl c r
  | [], _ => by simp [spl]
  | b :: a, h => by
    have hb : b ≠ c := fun e => h (by simp [e])
    have ih := spl_hit (c := c) (r := r) (a := a) fun hm => h (by simp [hm])
    show spl c (b :: (a ++ c :: r)) = _
    rw [spl, if_neg hb, ih]; rfl
theorem spl_miss {c : UInt8} : ∀ {a : List UInt8}, c ∉ a → spl c a = [a]
  | [], _ => rfl
  | b :: a, h => by
    have hb : b ≠ c := fun e => h (by simp [e])
    rw [spl, if_neg hb, spl_miss (a := a) fun hm => h (by simp [hm])]; rfl
/-- The first of them, or none. -/
theorem first_of (c : UInt8) : ∀ l : List UInt8, c ∉ l ∨ ∃ a r, c ∉ a ∧ l = a ++ c :: r
  | [] => .inl (by simp)
  | b :: l => by
    by_cases hb : b = c
    · exact .inr ⟨[], l, by simp, by simp [hb]⟩
    · rcases first_of c l with h | ⟨a, r, h1, h2⟩
      · exact .inl fun hm => (List.mem_cons.1 hm).elim (fun e => hb e.symm) h
      · exact .inr ⟨b :: a, r, fun hm => (List.mem_cons.1 hm).elim (fun e => hb e.symm) h1, by simp [h2]⟩
theorem joinT_pre (c : UInt8) (p : List UInt8) : ∀ xs : List (List UInt8), xs ≠ [] → Go.Lib.join (preL p xs) [c] = p ++ Go.Lib.join xs [c]
  | [], h => absurd rfl h
  | x :: xs, _ => by
    show Go.Lib.join ((p ++ x) :: xs) [c] = _
    rw [Go.Lib.join_cons, Go.Lib.join_cons, List.append_assoc]
theorem join_spl (c : UInt8) : ∀ l : List UInt8, Go.Lib.join (spl c l) [c] = l
  | [] => Go.Lib.join_one _ _
  | b :: l => by
    by_cases hb : b = c
    · rw [spl, if_pos hb, Go.Lib.join_cons]
      cases hs : spl c l with
      | nil => exact absurd hs (spl_ne c l)
      | cons x xs =>
        have ih := join_spl c l
        rw [hs, Go.Lib.join_cons] at ih
        show [] ++ (([c] ++ x) ++ Go.Lib.joinTail [c] xs) = _
        rw [← ih, hb]; rfl
    · rw [spl, if_neg hb, joinT_pre _ _ _ (spl_ne c l), join_spl c l]; rfl
theorem index_hit1 {c : UInt8} {r : List UInt8} : ∀ {a : List UInt8}, c ∉ a → Go.Lib.index (a ++ c :: r) [c] = (a.length : Int)
  | [], _ => by simp [Go.Lib.index, List.isPrefixOf]
  | b :: a, h => by
    have hb : b ≠ c := fun e => h (by simp [e])
    have ih := index_hit1 (c := c) (r := r) (a := a) fun hm => h (by simp [hm])
    show Go.Lib.index (b :: (a ++ c :: r)) [c] = _
    rw [Go.Lib.index, if_neg (by simp [List.isPrefixOf, Ne.symm hb]), ih, if_neg (by simp)]
    simp
theorem index_miss1 {c : UInt8} : ∀ {a : List UInt8}, c ∉ a → Go.Lib.index a [c] = -1
  | [], _ => by simp [Go.Lib.index]
  | b :: a, h => by
    have hb : b ≠ c := fun e => h (by simp [e])
    rw [Go.Lib.index, if_neg (by simp [List.isPrefixOf, Ne.symm hb]), index_miss1 (a := a) fun hm => h (by simp [hm])]; rfl
theorem splitK_spl (c : UInt8) : ∀ (n : Nat) (l : List UInt8), l.count c = n → Go.Lib.splitK [c] 0 n l = spl c l := by
  intro n
  induction n with
  | zero =>
    intro l hl
    rw [spl_miss (List.count_eq_zero.1 hl)]; rfl
  | succ n ih =>
    intro l hl
    rcases first_of c l with h | ⟨a, r, h1, rfl⟩
    · rw [List.count_eq_zero.2 h] at hl; cases hl
    · rw [List.count_append, List.count_eq_zero.2 h1, List.count_cons_self] at hl
      have hi := index_hit1 (r := r) h1
      rw [spl_hit h1, Go.Lib.splitK, if_neg (by rw [hi]; simp), hi, Int.toNat_natCast]
      rw [show (a ++ c :: r).take (a.length + 0) = a by simp, show (a ++ c :: r).drop (a.length + [c].length) = r by
        rw [List.length_singleton, ← List.drop_drop, List.drop_left]; rfl, ih r (by omega)]
theorem split_spl (s : ByteArray) (c : UInt8) : splitS s ⟨#[c]⟩ = (spl c s.data.toList).map toB := by
  rw [← map_toB (splitS s ⟨#[c]⟩)]
  congr 1
  unfold splitS
  rw [Go.Lib.splitB_data]
  refine splitK_spl c _ _ ?_
  show s.data.toList.count c = Go.Lib.count s.data.toList [c]
  rw [Go.Lib.count_one]
theorem cut_hit (c : UInt8) {s : ByteArray} {a r : List UInt8} (h : c ∉ a) (hs : s.data.toList = a ++ c :: r) : cutS s ⟨#[c]⟩ = (toB a, toB r, true) := by
  unfold cutS Go.Lib.cut
  have hi : Go.Lib.index s.data.toList (⟨#[c]⟩ : ByteArray).data.toList = (a.length : Int) := by rw [hs]; exact index_hit1 h
  rw [hi, if_pos (by omega), Int.toNat_natCast, hs]
  rw [show (a ++ c :: r).take a.length = a by simp, show (a ++ c :: r).drop (a.length + (⟨#[c]⟩ : ByteArray).data.toList.length) = r by
    rw [← List.drop_drop, List.drop_left]; rfl]
  rfl
theorem cut_miss (c : UInt8) {s : ByteArray} (h : c ∉ s.data.toList) : cutS s ⟨#[c]⟩ = (s, ByteArray.empty, false) := by
  unfold cutS Go.Lib.cut
  have hi : Go.Lib.index s.data.toList (⟨#[c]⟩ : ByteArray).data.toList = -1 := index_miss1 h
  rw [hi, if_neg (by omega)]
  show (toB s.data.toList, _, false) = _
  rw [toB_of]; rfl
theorem exL_succ {l : List UInt8} {b i : Nat} (hb : b ≤ i) (hi : i < l.length) : exL l b (i + 1) = exL l b i ++ [l[i]] := by
  unfold exL
  rw [show i + 1 - b = (i - b) + 1 by omega, List.take_add_one, List.getElem?_drop, show b + (i - b) = i by omega, List.getElem?_eq_getElem hi]; rfl
theorem specSplit_loop (s : ByteArray) (c : UInt8) (hs : s.size ≤ 1048576) : ∀ i, i ≤ s.data.toList.length → ∀ (ys : List ByteArray) (b : Nat), b ≤ i → ys.length ≤ i → ∃ (zs : List ByteArray) (e : Nat), Ev (fun k => spec_l01Split.l1 s ((c.toNat : Nat) : Int) k ys (b : Int) (i : Int)) (zs, (e : Int)) ∧ e ≤ s.data.toList.length ∧ zs.length ≤ s.data.toList.length ∧ zs ++ [toB (exL s.data.toList e s.data.toList.length)] = ys ++ (preL (exL s.data.toList b i) (spl c (s.data.toList.drop i))).map toB := by
  have hl : s.data.toList.length = s.size := (size_toList s).symm
  refine upL ?_ ?_
  · intro ys b hb hy
    refine ⟨ys, b, Ev.step (fun k => spec_l01Split.l1.eq_2 _ _ _ _ _ _) (Ev.neg (by omega) (Ev.const rfl)), hb, hy, ?_⟩
    rw [List.drop_length]
    simp [spl, preL]
  · intro i hi ih ys b hb hy
    have hg := getB_list s hi
    rw [List.drop_eq_getElem_cons hi]
    by_cases hc : s.data.toList[i] = c
    · obtain ⟨zs, e, z1, z2, z3, z4⟩ := ih (ys ++ [toB (exL s.data.toList b i)]) (i + 1) (Nat.le_refl _) (by simp; omega)
      rw [← wsucc hi (by omega)] at z1
      refine ⟨zs, e, Ev.step (fun k => spec_l01Split.l1.eq_2 _ _ _ _ _ _) (Ev.pos (by omega) (Ev.bind (Ev.const hg) (Ev.pos (by rw [hc]) (Ev.bind (Ev.const (chkX ⟨by omega, by omega, by omega⟩)) (Ev.bind (Ev.const (chkX (by simp; omega))) ?_))))), z2, z3, ?_⟩
      · rw [Int.toNat_natCast, Int.toNat_natCast, ex_toB]
        exact z1
      · rw [z4, spl, if_pos hc]
        have : exL s.data.toList (i + 1) (i + 1) = [] := by simp [exL]
        rw [this, pre_nil (spl_ne _ _)]
        simp [preL]
    · obtain ⟨zs, e, z1, z2, z3, z4⟩ := ih ys b (by omega) (by omega)
      rw [← wsucc hi (by omega)] at z1
      refine ⟨zs, e, Ev.step (fun k => spec_l01Split.l1.eq_2 _ _ _ _ _ _) (Ev.pos (by omega) (Ev.bind (Ev.const hg) (Ev.neg (fun e => hc (UInt8.toNat_inj.1 (by omega))) z1))), z2, z3, ?_⟩
      rw [z4, spl, if_neg hc, pre_pre, exL_succ hb hi]
theorem specSplit_ev (s : ByteArray) (c : UInt8) (hs : s.size ≤ 1048576) : Ev (fun k => spec_l01Split.f k s ((c.toNat : Nat) : Int)) ((spl c s.data.toList).map toB) := by
  have hl : s.data.toList.length = s.size := (size_toList s).symm
  obtain ⟨zs, e, z1, z2, z3, z4⟩ := specSplit_loop s c hs 0 (Nat.zero_le _) [] 0 (Nat.le_refl _) (by simp)
  have h0 : exL s.data.toList 0 0 = [] := by simp [exL]
  rw [List.drop_zero, h0, pre_nil (spl_ne _ _), List.nil_append] at z4
  rw [← z4]
  refine Ev.bind z1 (Ev.bind (Ev.const (chkX ⟨by omega, by omega, by omega⟩)) (Ev.bind (Ev.const (chkX (by simp; omega))) (Ev.const ?_)))
  rw [Int.toNat_natCast, ex_toB, hl]
/-! ### Numerals -/
def digB (b : UInt8) : Bool := decide (48 ≤ b.toNat ∧ b.toNat ≤ 57)
def valF (acc : Nat) : List UInt8 → Nat
  | [] => acc
  | b :: l => valF (10 * acc + (b.toNat - 48)) l
def okShape (l : List UInt8) : Prop := l ≠ [] ∧ l.length ≤ 9 ∧ ¬ (l.head? = some 48 ∧ 1 < l.length)
instance (l : List UInt8) : Decidable (okShape l) := by unfold okShape; infer_instance
def okNum (l : List UInt8) : Bool := decide (okShape l) && l.all digB
theorem head_app {l m : List UInt8} (h : l ≠ []) : (l ++ m).head? = l.head? := by
  cases l with
  | nil => exact absurd rfl h
  | cons a l => rfl
def numL (l : List UInt8) : Int × Bool := if okNum l = true then ((valF 0 l : Int), true) else (0, false)
theorem valF_app (b : UInt8) : ∀ (l : List UInt8) (acc : Nat), valF acc (l ++ [b]) = 10 * valF acc l + (b.toNat - 48)
  | [], acc => rfl
  | a :: l, acc => valF_app b l _
theorem valF_lt : ∀ (l : List UInt8) (acc k : Nat), l.all digB = true → acc < 10 ^ k → valF acc l < 10 ^ (k + l.length)
  | [], acc, k, _, h => h
  | a :: l, acc, k, hd, h => by
    simp only [List.all_cons, Bool.and_eq_true] at hd
    have ha := of_decide_eq_true hd.1
    have := valF_lt l (10 * acc + (a.toNat - 48)) (k + 1) hd.2 (by rw [Nat.pow_succ]; omega)
    show valF (10 * acc + (a.toNat - 48)) l < _
    rw [List.length_cons, show k + (l.length + 1) = k + 1 + l.length by omega]
    exact this
theorem specNum_loop (s : ByteArray) (hl : s.data.toList.length ≤ 9) : ∀ i, i ≤ s.data.toList.length → ∀ acc : Nat, acc < 10 ^ i → Ev (fun k => spec_l01Number.l1 s k (acc : Int) (i : Int)) (if (s.data.toList.drop i).all digB = true then .inr ((valF acc (s.data.toList.drop i) : Nat) : Int) else .inl (0, false)) := by
  have hz : s.data.toList.length = s.size := (size_toList s).symm
  refine upL ?_ ?_
  · intro acc ha
    rw [List.drop_length]
    exact Ev.step (fun k => spec_l01Number.l1.eq_2 _ _ _ _) (Ev.neg (by omega) (Ev.const rfl))
  · intro i hi ih acc ha
    have hg := getB_list s hi
    have h9 : (10 : Nat) ^ i ≤ 10 ^ 8 := Nat.pow_le_pow_right (by omega) (by omega)
    rw [List.drop_eq_getElem_cons hi]
    have hlt : s.data.toList[i].toNat < 256 := s.data.toList[i].toNat_lt
    obtain ⟨t, ht⟩ : ∃ t, s.data.toList[i].toNat = t := ⟨_, rfl⟩
    rw [ht] at hg hlt
    refine Ev.step (fun k => spec_l01Number.l1.eq_2 _ _ _ _) (Ev.pos (by omega) ?_)
    by_cases h1 : t < 48
    · refine Ev.bind (a := true) (Ev.bind (Ev.const hg) (Ev.pos (by omega) (Ev.const rfl))) (Ev.pos rfl (Ev.const ?_))
      rw [if_neg]
      simp only [List.all_cons, Bool.and_eq_true, not_and]
      intro hd
      have := of_decide_eq_true hd
      rw [ht] at this
      omega
    · by_cases h2 : 57 < t
      · refine Ev.bind (a := true) (Ev.bind (Ev.const hg) (Ev.neg (by omega) (Ev.bind (Ev.const hg) (Ev.const (congrArg some (decide_eq_true (by omega))))))) (Ev.pos rfl (Ev.const ?_))
        rw [if_neg]
        simp only [List.all_cons, Bool.and_eq_true, not_and]
        intro hd
        have := of_decide_eq_true hd
        rw [ht] at this
        omega
      · refine Ev.bind (a := false) (Ev.bind (Ev.const hg) (Ev.neg (by omega) (Ev.bind (Ev.const hg) (Ev.const (congrArg some (decide_eq_false (by omega))))))) (Ev.neg (by simp) (Ev.bind (Ev.const hg) ?_))
        have ih := ih (10 * acc + (t - 48)) (by rw [Nat.pow_succ]; omega)
        rw [← wsucc hi (by omega)] at ih
        have hd : digB s.data.toList[i] = true := decide_eq_true (by rw [ht]; omega)
        have e1 : IntKind.u8.wrap (((t : Nat) : Int) - 48) = ((t - 48 : Nat) : Int) := by
          have : ((t : Nat) : Int) - 48 = ((t - 48 : Nat) : Int) := by omega
          rw [this]
          have : ((t - 48 : Nat) : Int) < 256 := by omega
          simp [IntKind.wrap, IntKind.bits, IntKind.signed]
          omega
        rw [e1, w64 (x := 10 * (acc : Int)) (by omega) (by omega), w64 (x := ((t - 48 : Nat) : Int)) (by omega) (by omega), w64 (by omega) (by omega)]
        rw [show 10 * (acc : Int) + ((t - 48 : Nat) : Int) = ((10 * acc + (t - 48) : Nat) : Int) by omega]
        simp only [List.all_cons, hd, Bool.true_and]
        rw [show valF acc (s.data.toList[i] :: s.data.toList.drop (i + 1)) = valF (10 * acc + (t - 48)) (s.data.toList.drop (i + 1)) by rw [← ht]; rfl]
        exact ih
theorem specNum_ev (s : ByteArray) (hs : s.size ≤ 1048576) : Ev (fun k => spec_l01Number.f k s) (numL s.data.toList) := by
  have hz : s.data.toList.length = s.size := (size_toList s).symm
  by_cases h0 : s = ByteArray.empty
  · refine Ev.bind (a := true) (Ev.pos h0 (Ev.const rfl)) (Ev.pos rfl (Ev.const ?_))
    have : numL s.data.toList = (0, false) := by rw [h0]; decide
    rw [this]
  · unfold numL okNum
    have hne : s.data.toList ≠ [] := fun e => h0 (by rw [← toB_of s, e]; rfl)
    by_cases h9 : 9 < s.size
    · refine Ev.bind (a := true) (Ev.neg h0 (Ev.pos (by omega) (Ev.const rfl))) (Ev.pos rfl (Ev.const ?_))
      rw [if_neg]
      simp only [Bool.and_eq_true, decide_eq_true_eq]
      rintro ⟨⟨_, h, _⟩, _⟩
      omega
    · have hpos : 0 < s.data.toList.length := List.length_pos_iff.2 hne
      have hg := getB_list s hpos
      have hh : s.data.toList.head? = some s.data.toList[0] := by rw [List.head?_eq_getElem?, List.getElem?_eq_getElem hpos]
      by_cases h4 : s.data.toList[0] = 48
      · by_cases h1 : 1 < s.size
        · refine Ev.bind (a := true) (Ev.neg h0 (Ev.neg (by omega) (Ev.bind (Ev.const hg) (Ev.pos (by rw [h4]; rfl) (Ev.const (congrArg some (decide_eq_true (by omega)))))))) (Ev.pos rfl (Ev.const ?_))
          rw [if_neg]
          simp only [Bool.and_eq_true, decide_eq_true_eq]
          rintro ⟨⟨_, _, h⟩, _⟩
          exact h ⟨by rw [hh, h4], by omega⟩
        · refine Ev.bind (a := false) (Ev.neg h0 (Ev.neg (by omega) (Ev.bind (Ev.const hg) (Ev.pos (by rw [h4]; rfl) (Ev.const (congrArg some (decide_eq_false (by omega)))))))) (Ev.neg (by simp) (Ev.bind (specNum_loop s (by omega) 0 (Nat.zero_le _) 0 (by omega)) ?_))
          rw [List.drop_zero, decide_eq_true (show okShape s.data.toList from ⟨hne, by omega, fun h => by omega⟩), Bool.true_and]
          cases s.data.toList.all digB <;> exact Ev.const rfl
      · refine Ev.bind (a := false) (Ev.neg h0 (Ev.neg (by omega) (Ev.bind (Ev.const hg) (Ev.neg (fun e => h4 (UInt8.toNat_inj.1 (Int.ofNat.inj e))) (Ev.const rfl))))) (Ev.neg (by simp) (Ev.bind (specNum_loop s (by omega) 0 (Nat.zero_le _) 0 (by omega)) ?_))
        rw [List.drop_zero, decide_eq_true (show okShape s.data.toList from ⟨hne, by omega, fun h => h4 (by have := h.1; rw [hh] at this; exact Option.some.inj this)⟩), Bool.true_and]
        cases s.data.toList.all digB <;> exact Ev.const rfl
/-! ### Numerals and what they are numerals of -/
theorem dig_of {d : Nat} (h : d < 10) : (UInt8.ofNat (48 + d)).toNat = 48 + d := by
  rw [UInt8.toNat_ofNat']; omega
theorem dec_all : ∀ n : Nat, (Go.Lib.decDigits n).all digB = true := by
  intro n
  induction n using Nat.strongRecOn with
  | _ n ih =>
    rw [Go.Lib.decDigits]
    split
    · rename_i h
      simp only [List.all_cons, List.all_nil, Bool.and_true]
      exact decide_eq_true (by rw [dig_of h]; omega)
    · rename_i h
      rw [List.all_append, ih (n / 10) (by omega)]
      simp only [List.all_cons, List.all_nil, Bool.and_true, Bool.true_and]
      exact decide_eq_true (by rw [dig_of (by omega)]; omega)
theorem dec_val : ∀ n : Nat, valF 0 (Go.Lib.decDigits n) = n := by
  intro n
  induction n using Nat.strongRecOn with
  | _ n ih =>
    rw [Go.Lib.decDigits]
    split
    · rename_i h
      show 10 * 0 + ((UInt8.ofNat (48 + n)).toNat - 48) = n
      rw [dig_of h]; omega
    · rename_i h
      rw [valF_app, ih (n / 10) (by omega), dig_of (by omega)]; omega
theorem dec_ne (n : Nat) : Go.Lib.decDigits n ≠ [] := by
  rw [Go.Lib.decDigits]
  split <;> simp
theorem dec_head : ∀ n : Nat, (Go.Lib.decDigits n).head? = some 48 → n = 0 := by
  intro n
  induction n using Nat.strongRecOn with
  | _ n ih =>
    rw [Go.Lib.decDigits]
    split
    · rename_i h
      intro e
      have := congrArg (fun o : Option UInt8 => (o.getD 0).toNat) e
      simp only [List.head?_cons, Option.getD_some, dig_of h] at this
      have h48 : (48 : UInt8).toNat = 48 := rfl
      omega
    · rename_i h
      intro e
      rw [head_app (dec_ne _)] at e
      have := ih (n / 10) (by omega) e
      omega
theorem dec_okNum {n : Nat} (h : n < 1000000000) : okNum (Go.Lib.decDigits n) = true := by
  unfold okNum
  rw [dec_all, Bool.and_true]
  refine decide_eq_true ⟨dec_ne n, dec_len 8 n (by omega), fun hh => ?_⟩
  have := dec_head n hh.1
  subst this
  have := hh.2
  rw [Go.Lib.decDigits, dif_pos (by omega)] at this
  simp at this
theorem okNum_dec : ∀ (m : Nat) (l : List UInt8), l.length = m → okNum l = true → Go.Lib.decDigits (valF 0 l) = l := by
  intro m
  induction m with
  | zero =>
    intro l hl h
    unfold okNum at h
    simp only [Bool.and_eq_true, decide_eq_true_eq] at h
    exact absurd (List.length_eq_zero_iff.1 hl) h.1.1
  | succ m ih =>
    intro l hl h
    obtain ⟨l', b, rfl⟩ : ∃ l' b, l = l' ++ [b] := ⟨l.dropLast, l.getLast (by intro e; simp [e] at hl), (List.dropLast_concat_getLast _).symm⟩
    unfold okNum at h
    simp only [Bool.and_eq_true, decide_eq_true_eq, List.all_append, List.all_cons, List.all_nil, Bool.and_true] at h
    obtain ⟨⟨h1, h2, h3⟩, h4, h5⟩ := h
    have hb := of_decide_eq_true h5
    have hbv : UInt8.ofNat (48 + (b.toNat - 48)) = b := by
      apply UInt8.toNat_inj.1
      rw [dig_of (by omega)]; omega
    by_cases hn : l' = []
    · subst hn
      show Go.Lib.decDigits (10 * 0 + (b.toNat - 48)) = [b]
      rw [Go.Lib.decDigits, dif_pos (by omega), show 10 * 0 + (b.toNat - 48) = b.toNat - 48 by omega, hbv]
    · have hlp : 0 < l'.length := List.length_pos_iff.2 hn
      have hhd : (l' ++ [b]).head? = l'.head? := head_app hn
      rw [hhd] at h3
      have ho : okNum l' = true := by
        unfold okNum
        rw [h4, Bool.and_true]
        refine decide_eq_true ⟨hn, by simp at h2; omega, fun hh => h3 ⟨hh.1, by simp; omega⟩⟩
      have ih := ih l' (by simp at hl; omega) ho
      have hv : valF 0 l' ≠ 0 := by
        intro e
        rw [e, Go.Lib.decDigits, dif_pos (by omega)] at ih
        refine h3 ⟨by rw [← ih]; rfl, by simp; omega⟩
      rw [valF_app, Go.Lib.decDigits, dif_neg (by omega), show (10 * valF 0 l' + (b.toNat - 48)) / 10 = valF 0 l' by omega, ih, show (10 * valF 0 l' + (b.toNat - 48)) % 10 = b.toNat - 48 by omega, hbv]
theorem okNum_itoa {s : ByteArray} (h : okNum s.data.toList = true) : itoaB ((valF 0 s.data.toList : Nat) : Int) = s := by
  rw [itoa_nat, okNum_dec _ _ rfl h]
theorem okNum_lt {l : List UInt8} (h : okNum l = true) : valF 0 l < 1000000000 := by
  unfold okNum at h
  simp only [Bool.and_eq_true, decide_eq_true_eq] at h
  have := valF_lt l 0 0 h.2 (by omega)
  have hl := h.1.2.1
  have h9 : (10 : Nat) ^ (0 + l.length) ≤ 10 ^ 9 := Nat.pow_le_pow_right (by omega) (by omega)
  omega
theorem parse_dig : ∀ (l : List UInt8) (acc k : Nat), l.all digB = true → acc < 10 ^ k → l.length + k ≤ 18 → Go.Lib.parseUintM (2 ^ 64 - 1) acc l = .ok (valF acc l)
  | [], acc, k, _, _, _ => rfl
  | a :: l, acc, k, hd, hk, hl => by
    simp only [List.all_cons, Bool.and_eq_true] at hd
    have ha := of_decide_eq_true hd.1
    have h17 : (10 : Nat) ^ k ≤ 10 ^ 17 := Nat.pow_le_pow_right (by omega) (by simp at hl; omega)
    rw [Go.Lib.parseUintM, if_pos ha, if_neg (by omega), if_neg (by omega), show acc * 10 + (a.toNat - 48) = 10 * acc + (a.toNat - 48) by omega]
    exact parse_dig l _ (k + 1) hd.2 (by rw [Nat.pow_succ]; omega) (by simp at hl; omega)
theorem parse_ok {l : List UInt8} (h : okNum l = true) : Go.Lib.parseIntB 64 l = .ok ((valF 0 l : Nat) : Int) := by
  have hlt := okNum_lt h
  unfold okNum at h
  simp only [Bool.and_eq_true, decide_eq_true_eq] at h
  cases l with
  | nil => exact absurd rfl h.1.1
  | cons c r =>
    have hc : digB c = true := by have := h.2; simp only [List.all_cons, Bool.and_eq_true] at this; exact this.1
    have hc := of_decide_eq_true hc
    have hne : ¬ (c.toNat = 43 ∨ c.toNat = 45) := by omega
    unfold Go.Lib.parseIntB Go.Lib.parseUintB
    simp only
    rw [if_neg hne, if_neg (show ¬ (c :: r = []) by simp), parse_dig (c :: r) 0 0 h.2 (by omega) (by have := h.1.2.1; omega)]
    simp only
    rw [if_neg (by omega), if_neg (by omega), if_neg (by omega)]
theorem parseI_ok {s : ByteArray} {v : Int} (h : Go.Lib.parseIntB 64 s.data.toList = .ok v) : parseI s = (v, false) := by
  unfold parseI; rw [h]
theorem parseI_syn {s : ByteArray} (h : Go.Lib.parseIntB 64 s.data.toList = .syntax) : (parseI s).2 = true := by
  unfold parseI; rw [h]
theorem parseI_rng {s : ByteArray} (h : Go.Lib.parseIntB 64 s.data.toList = .range) : (parseI s).2 = true := by
  unfold parseI; rw [h]
theorem number_eq (s : ByteArray) (most : Int) (hs : s.size ≤ 4294967296) (hm : most ≤ 1000000) : impl_number.f s most = some (if okNum s.data.toList = true ∧ ((valF 0 s.data.toList : Nat) : Int) ≤ most then ((((valF 0 s.data.toList : Nat) : Int)), true) else (0, false)) := by
  unfold impl_number.f strconv_ParseInt.f
  rw [chkX ⟨hs, rfl, rfl⟩, Option.bind_some, Option.bind_some]
  cases hp : Go.Lib.parseIntB 64 s.data.toList with
  | «syntax» =>
    rw [if_pos (parseI_syn hp), if_neg fun h => by rw [parse_ok h.1] at hp; cases hp]
  | range =>
    rw [if_pos (parseI_rng hp), if_neg fun h => by rw [parse_ok h.1] at hp; cases hp]
  | ok v =>
    obtain ⟨b1, b2⟩ := Go.Lib.parseIntB_bounds hp
    have hd : impl_decimal.f v = some (itoaB v) := by
      unfold impl_decimal.f strconv_FormatInt.f
      rw [chkX ⟨rfl, by omega, by omega⟩]; rfl
    rw [parseI_ok hp]
    simp only [if_neg (show ¬ (false = true) by simp), hd, Option.bind_some, within_eq]
    have hv : okNum s.data.toList = true → v = ((valF 0 s.data.toList : Nat) : Int) := fun h => by
      rw [parse_ok h] at hp
      injection hp with hp
      exact hp.symm
    by_cases h1 : itoaB v = s
    · rw [if_neg (by simp [h1])]
      by_cases h2 : 0 ≤ v ∧ v ≤ most
      · obtain ⟨n, rfl⟩ := Int.eq_ofNat_of_zero_le h2.1
        have hok : okNum s.data.toList = true := by
          rw [← h1, itoa_nat]
          exact dec_okNum (by omega)
        rw [if_neg (by simp [h2]), if_pos ⟨hok, by rw [← hv hok]; exact h2.2⟩, ← hv hok]
      · rw [if_pos (by simp only [decide_eq_false h2]; rfl), if_neg fun h => h2 (by rw [hv h.1]; exact ⟨by omega, h.2⟩)]
    · rw [if_pos h1, if_neg fun h => h1 (by rw [hv h.1]; exact okNum_itoa h.1)]
end Go.Proofs.YtplfdbfdalaefaaGreatDoor
