import Derived.Test.YtegibnmfiogebaaGreatDF
import Derived.Test.YtegibnmfiogebaaGreatQPt
import Derived.Test.YtegibnmfiogebaaGreatW4
/-
  Plain law: cells in order, each once.
-/
namespace Go.Proofs.YtegibnmfiogebaaGreat
open G
set_option linter.unusedVariables false
set_option linter.unusedSimpArgs false
variable {W H : Nat} {p q : Pasture} {Gr : Nat → Nat → Int} {E S : Nat → Nat → Bool}
theorem indexS_loop (xs : List Spot) (s : Spot) (hx : xs.length ≤ 1048576) : ∀ i, i ≤ xs.length → ∃ r : Int ⊕ Unit, Ev (fun k => slices_Index_impl_Spot_impl_Spot.l1 xs s k (i : Int)) r ∧ ((s ∈ xs.drop i ∧ ∃ j : Nat, r = .inl (j : Int)) ∨ (s ∉ xs.drop i ∧ r = .inr ())) := by
 refine upL ?_ ?_
 ·rw [List.drop_length]
  exact ⟨.inr (), Ev.step (fun k => slices_Index_impl_Spot_impl_Spot.l1.eq_2 _ _ _ _) (Ev.neg (by omega) (Ev.const rfl)), .inr ⟨by simp, rfl⟩⟩
 rintro i hi ⟨r, h1, h2⟩
 rw [← wsucc hi (by omega)] at h1
 rw [List.drop_eq_getElem_cons hi]
 by_cases h : s = xs[i]
 ·exact ⟨.inl (i : Int), Ev.step (fun k => slices_Index_impl_Spot_impl_Spot.l1.eq_2 _ _ _ _) (Ev.pos (by omega) (Ev.bind (Ev.const (getI_nat hi)) (Ev.pos h (Ev.const rfl)))), .inl ⟨by rw [h]; exact List.mem_cons_self .., i, rfl⟩⟩
 refine ⟨r, Ev.step (fun k => slices_Index_impl_Spot_impl_Spot.l1.eq_2 _ _ _ _) (Ev.pos (by omega) (Ev.bind (Ev.const (getI_nat hi)) (Ev.neg h h1))), ?_⟩
 rcases h2 with ⟨a, b⟩ | ⟨a, b⟩
 ·exact .inl ⟨List.mem_cons_of_mem _ a, b⟩
 exact .inr ⟨fun hm => (List.mem_cons.1 hm).elim h a, b⟩
theorem contS_ev (xs : List Spot) (s : Spot) (hx : xs.length ≤ 1048576) : Ev (fun k => slices_Contains_impl_Spot_impl_Spot.f k xs s) (decide (s ∈ xs)) := by
 obtain ⟨r, h1, h2⟩ := indexS_loop xs s hx 0 (Nat.zero_le _)
 rw [List.drop_zero] at h2
 rcases h2 with ⟨a, j, rfl⟩ | ⟨a, rfl⟩
 ·rw [decide_eq_true a]
  refine Ev.bind (Ev.bind h1 (Ev.const rfl)) (Ev.const ?_)
  rw [decide_eq_true (show (0 : Int) ≤ (j : Int) by omega)]
 rw [decide_eq_false a]
 exact Ev.bind (Ev.bind h1 (Ev.const rfl)) (Ev.const rfl)
/-! ### A yard is in order -/
def bef (a b : Spot) : Prop := a.Y < b.Y ∨ (a.Y = b.Y ∧ a.X < b.X)
theorem rowF_told (q : Nat → Bool) (y : Nat) : ∀ n x, ∀ s ∈ rowF q y x n, s.Y = (y : Int) ∧ (x : Int) ≤ s.X
  | 0, x, s, h => by simp [rowF] at h
  | n + 1, x, s, h => by
    rw [rowF] at h
    rcases List.mem_append.1 h with h | h
    · split at h
      · rw [List.mem_singleton.1 h]; exact ⟨rfl, Int.le_refl _⟩
      · simp at h
    · have := rowF_told q y n (x + 1) s h
      exact ⟨this.1, by omega⟩
theorem rowF_order (q : Nat → Bool) (y : Nat) : ∀ n x, (rowF q y x n).Pairwise bef
  | 0, x => List.Pairwise.nil
  | n + 1, x => by
    rw [rowF, List.pairwise_append]
    refine ⟨?_, rowF_order q y n (x + 1), fun a ha b hb => ?_⟩
    · split
      · exact List.pairwise_singleton _ _
      · exact List.Pairwise.nil
    · split at ha
      · rw [List.mem_singleton.1 ha]
        have := rowF_told q y n (x + 1) b hb
        exact .inr ⟨this.1.symm, by show (x : Int) < b.X; omega⟩
      · simp at ha
theorem gridF_told (q : Nat → Nat → Bool) (W : Nat) : ∀ n y, ∀ s ∈ gridF q W y n, (y : Int) ≤ s.Y
  | 0, y, s, h => by simp [gridF] at h
  | n + 1, y, s, h => by
    rw [gridF] at h
    rcases List.mem_append.1 h with h | h
    · have := rowF_told _ _ _ _ s h; omega
    · have := gridF_told q W n (y + 1) s h; omega
theorem gridF_order (q : Nat → Nat → Bool) (W : Nat) : ∀ n y, (gridF q W y n).Pairwise bef
  | 0, y => List.Pairwise.nil
  | n + 1, y => by
    rw [gridF, List.pairwise_append]
    refine ⟨rowF_order _ _ _ _, gridF_order q W n (y + 1), fun a ha b hb => ?_⟩
    have h1 := rowF_told _ _ _ _ a ha
    have h2 := gridF_told _ _ _ _ b hb
    exact .inl (by omega)
theorem isYard_order {Y : List Spot} (h : isYard p Y) : Y.Pairwise bef := by
 obtain ⟨q, rfl⟩ := h
 exact gridF_order _ _ _ _
/-! ### Lists in order, each once -/
theorem bef_ir (a : Spot) : ¬ bef a a := fun h => by rcases h with h | h <;> omega
theorem bef_as {a b : Spot} (h : bef a b) (k : bef b a) : False := by rcases h with h | h <;> rcases k with k | k <;> omega
theorem bef_tr {a b c : Spot} (h : bef a b) (k : bef b c) : bef a c := by
 rcases h with h | h <;> rcases k with k | k <;> first | exact .inl (by omega) | exact .inr ⟨by omega, by omega⟩
theorem spot_ext {a b : Spot} (h : a.X = b.X) (k : a.Y = b.Y) : a = b := by cases a; cases b; simp only at h k; subst h k; rfl
theorem bef_tot (a b : Spot) : bef a b ∨ a = b ∨ bef b a := by
 rcases Int.lt_trichotomy a.Y b.Y with h | h | h
 ·exact .inl (.inl h)
 ·rcases Int.lt_trichotomy a.X b.X with k | k | k
  ·exact .inl (.inr ⟨h, k⟩)
  ·exact .inr (.inl (spot_ext k h))
  exact .inr (.inr (.inr ⟨h.symm, k⟩))
 exact .inr (.inr (.inl h))
theorem le_bef {a b : Spot} : leSpot a b = true ↔ bef a b ∨ a = b := by
 unfold leSpot
 rw [decide_eq_true_eq]
 constructor
 ·rintro (h | ⟨h, k⟩)
  ·exact .inl (.inl h)
  rcases Int.lt_or_eq_of_le k with k | k
  ·exact .inl (.inr ⟨h, k⟩)
  exact .inr (spot_ext k h)
 rintro ((h | h) | rfl)
 ·exact .inl h
 ·exact .inr ⟨h.1, by omega⟩
 exact .inr ⟨rfl, Int.le_refl _⟩
theorem srt_ext {α : Type} {R : α → α → Prop} (hR : ∀ a b, R a b → R b a → False) : ∀ {a b : List α}, a.Pairwise R → b.Pairwise R → (∀ s, s ∈ a ↔ s ∈ b) → a = b
  | [], [], _, _, _ => rfl
  | [], y :: b, _, _, h => by have := (h y).2 (List.mem_cons_self ..); simp at this
  | x :: a, [], _, _, h => by have := (h x).1 (List.mem_cons_self ..); simp at this
  | x :: a, y :: b, ha, hb, h => by
    rw [List.pairwise_cons] at ha hb
    have e : x = y := by
      rcases List.mem_cons.1 ((h x).1 (List.mem_cons_self ..)) with e | h1
      · exact e
      · rcases List.mem_cons.1 ((h y).2 (List.mem_cons_self ..)) with e | h2
        · exact e.symm
        · exact (hR _ _ (ha.1 y h2) (hb.1 x h1)).elim
    subst e
    refine congrArg (x :: ·) (srt_ext hR ha.2 hb.2 fun s => ⟨fun hs => ?_, fun hs => ?_⟩)
    · rcases List.mem_cons.1 ((h s).1 (List.mem_cons_of_mem _ hs)) with e | h1
      · subst e; exact (hR _ _ (ha.1 _ hs) (ha.1 _ hs)).elim
      · exact h1
    · rcases List.mem_cons.1 ((h s).2 (List.mem_cons_of_mem _ hs)) with e | h1
      · subst e; exact (hR _ _ (hb.1 _ hs) (hb.1 _ hs)).elim
      · exact h1
def ddp (b : Spot) : List Spot → List Spot
  | [] => []
  | a :: l => if a = b then ddp b l else a :: ddp a l
def dd : List Spot → List Spot
  | [] => []
  | a :: l => a :: ddp a l
theorem ddp_mem {s : Spot} : ∀ (b : Spot) (l : List Spot), s ∈ b :: ddp b l ↔ s ∈ b :: l
  | b, [] => by simp [ddp]
  | b, a :: l => by
    rw [ddp]
    split
    · rename_i e
      rw [ddp_mem b l, e]; simp
    · rw [List.mem_cons, ddp_mem a l, List.mem_cons]; simp
theorem dd_mem {s : Spot} : ∀ {l : List Spot}, s ∈ dd l ↔ s ∈ l
  | [] => by simp [dd]
  | a :: l => ddp_mem a l
theorem ddp_srt : ∀ (b : Spot) (l : List Spot), (b :: l).Pairwise (fun a b => leSpot a b = true) → (b :: ddp b l).Pairwise bef
  | b, [], _ => List.pairwise_singleton _ _
  | b, a :: l, h => by
    rw [List.pairwise_cons, List.pairwise_cons] at h
    obtain ⟨h1, h2, h3⟩ := h
    rw [ddp]
    split
    · rename_i e
      refine ddp_srt b l (List.pairwise_cons.2 ⟨fun c hc => h1 c (List.mem_cons_of_mem _ hc), h3⟩)
    · rename_i e
      have k := ddp_srt a l (List.pairwise_cons.2 ⟨h2, h3⟩)
      have hab : bef b a := (le_bef.1 (h1 a (List.mem_cons_self ..))).resolve_right fun e' => e e'.symm
      refine List.pairwise_cons.2 ⟨fun c hc => ?_, k⟩
      rcases List.mem_cons.1 hc with rfl | hc
      · exact hab
      · exact bef_tr hab ((List.pairwise_cons.1 k).1 c hc)
theorem dd_srt {l : List Spot} (h : l.Pairwise (fun a b => leSpot a b = true)) : (dd l).Pairwise bef := by
  cases l with
  | nil => exact List.Pairwise.nil
  | cons a l => exact ddp_srt a l h
theorem ddp_snoc (c : Spot) : ∀ (b : Spot) (l : List Spot), ddp b (l ++ [c]) = ddp b l ++ (if c = (b :: l).getLast (by simp) then [] else [c])
  | b, [] => by by_cases h : c = b <;> simp [ddp, h]
  | b, a :: l => by
    rw [List.cons_append, ddp, ddp]
    split
    · rename_i e
      subst e
      rw [ddp_snoc c a l]
      congr 1
    · rw [ddp_snoc c a l]
      congr 1
theorem dd_snoc {xs : List Spot} {j : Nat} (hj : j < xs.length) (h1 : 1 ≤ j) : dd (xs.take (j + 1)) = dd (xs.take j) ++ (if xs[j] = xs[j - 1] then [] else [xs[j]]) := by
  have e : xs.take (j + 1) = xs.take j ++ [xs[j]] := by rw [List.take_add_one, List.getElem?_eq_getElem hj]; rfl
  rw [e]
  have hl : (xs.take j).length = j := by rw [List.length_take]; omega
  generalize hq : xs.take j = l at hl
  cases l with
  | nil => simp at hl; omega
  | cons b l =>
    rw [List.cons_append, dd, dd, ddp_snoc]
    have e2 : (b :: l).getLast (by simp) = xs[j - 1] := by
      rw [List.getLast_eq_getElem]
      simp only [← hq]
      rw [List.getElem_take]
      congr 1
      rw [List.length_take]; omega
    rw [e2]; rfl
theorem compact_l2 (xs : List Spot) (hl : xs.length ≤ 1000) {s : Nat} (h1 : 1 ≤ s) (hs : s < xs.length) : ∀ i, i ≤ xs.length - s → 1 ≤ i → ∀ (ys : List Spot) (w : Nat), ys.length = xs.length → w < s + i → ys.take w = dd (xs.take (s + i)) → (∀ j, s + i ≤ j + 1 → ys[j]? = xs[j]?) →
 ∃ (ys' : List Spot) (w' : Nat), ys'.length = xs.length ∧ w' ≤ xs.length ∧ ys'.take w' = dd xs ∧ Ev (fun k => slices_Compact_impl_Spot_impl_Spot.l2 xs (s : Int) k ys (w : Int) (i : Int)) (ys', (w' : Int)) := by
 refine upL ?_ ?_
 ·intro _ ys w a1 a2 a3 a4
  refine ⟨ys, w, a1, by omega, by rw [a3, List.take_of_length_le (by omega)], Ev.step (fun k => slices_Compact_impl_Spot_impl_Spot.l2.eq_2 _ _ _ _ _ _) (Ev.neg ?_ (Ev.const rfl))⟩
  rw [Int.toNat_natCast]; omega
 intro i hi ih h2 ys w a1 a2 a3 a4
 have hj : s + i < xs.length := by omega
 have g0 : getI (ys.drop (s : Int).toNat) (i : Int) = some xs[s + i] := by
   have : i < (ys.drop s).length := by rw [List.length_drop]; omega
   rw [Int.toNat_natCast, getI_nat this, List.getElem_drop]
   have := a4 (s + i) (by omega)
   rw [List.getElem?_eq_getElem (by omega), List.getElem?_eq_getElem hj] at this
   exact this
 have g1 : getI (ys.drop (s : Int).toNat) (IntKind.i64.wrap ((i : Int) - 1)) = some xs[s + i - 1] := by
   have : i - 1 < (ys.drop s).length := by rw [List.length_drop]; omega
   rw [w64 (by omega) (by omega), show (i : Int) - 1 = ((i - 1 : Nat) : Int) by omega, Int.toNat_natCast, getI_nat this, List.getElem_drop]
   have := a4 (s + i - 1) (by omega)
   rw [List.getElem?_eq_getElem (by omega), List.getElem?_eq_getElem (by omega)] at this
   rw [← this]
   congr 2
   omega
 have hsn := dd_snoc hj (by omega)
 have hw : getI ys (w : Int) = some (ys[w]'(by omega)) := getI_nat (by omega)
 by_cases c : xs[s + i] = xs[s + i - 1]
 ·rw [if_pos c, List.append_nil] at hsn
  obtain ⟨ys', w', b1, b2, b3, b4⟩ := ih (by omega) ys w a1 (by omega) (by rw [a3, ← hsn, Nat.add_assoc]) (fun j hj => a4 j (by omega))
  rw [← wsucc (n := xs.length - s) hi (by omega)] at b4
  refine ⟨ys', w', b1, b2, b3, Ev.step (fun k => slices_Compact_impl_Spot_impl_Spot.l2.eq_2 _ _ _ _ _ _) (Ev.pos (by rw [Int.toNat_natCast]; omega) (Ev.bind (Ev.const g0) (Ev.bind (Ev.const g1) (Ev.neg (by simpa using c) b4))))⟩
 rw [if_neg c] at hsn
 obtain ⟨ys', w', b1, b2, b3, b4⟩ := ih (by omega) (ys.set w xs[s + i]) (w + 1) (by simpa using a1) (by omega) (by rw [take_setS (by omega), a3, ← hsn, Nat.add_assoc]) (fun j hj' => by
   rw [List.getElem?_set]
   split
   · rename_i e
     subst e
     rw [if_pos (by omega)]
     have : w = s + i := by omega
     subst this
     exact (List.getElem?_eq_getElem hj).symm
   · exact a4 j (by omega))
 rw [← wsucc (n := xs.length - s) hi (by omega), ← wsucc (n := xs.length) (i := w) (by omega) (by omega)] at b4
 refine ⟨ys', w', b1, b2, b3, Ev.step (fun k => slices_Compact_impl_Spot_impl_Spot.l2.eq_2 _ _ _ _ _ _) (Ev.pos (by rw [Int.toNat_natCast]; omega) (Ev.bind (Ev.const g0) (Ev.bind (Ev.const g1) (Ev.pos (by simpa using c) (Ev.bind (Ev.const g0) (Ev.bind (Ev.const hw) ?_))))))⟩
 rw [Int.toNat_natCast]
 exact b4
theorem compact_l1 (xs : List Spot) (hl : xs.length ≤ 1000) : ∀ i, i ≤ xs.length → 1 ≤ i → dd (xs.take i) = xs.take i → ∃ r : List Spot ⊕ Unit, Ev (fun k => slices_Compact_impl_Spot_impl_Spot.l1 xs k (i : Int)) r ∧ (r = .inl (dd xs) ∨ (r = .inr () ∧ dd xs = xs)) := by
 refine upL ?_ ?_
 ·intro _ h
  rw [List.take_length] at h
  exact ⟨_, Ev.step (fun k => slices_Compact_impl_Spot_impl_Spot.l1.eq_2 _ _ _) (Ev.neg (by omega) (Ev.const rfl)), .inr ⟨rfl, h⟩⟩
 intro i hi ih h1 h
 have hj : i - 1 < xs.length := by omega
 have g : getI xs (IntKind.i64.wrap ((i : Int) - 1)) = some xs[i - 1] := by
   rw [w64 (by omega) (by omega), show ((i : Int) - 1) = ((i - 1 : Nat) : Int) by omega]
   exact getI_nat hj
 have hsn := dd_snoc hi h1
 by_cases c : xs[i] = xs[i - 1]
 ·rw [if_pos c, List.append_nil, h] at hsn
  obtain ⟨ys', w', b1, b2, b3, b4⟩ := compact_l2 xs hl h1 hi 1 (by omega) (Nat.le_refl _) xs i rfl (by omega) hsn.symm (fun j _ => rfl)
  refine ⟨.inl (dd xs), Ev.step (fun k => slices_Compact_impl_Spot_impl_Spot.l1.eq_2 _ _ _) (Ev.pos (by omega) (Ev.bind (a := (.inl (.inl (dd xs)) : (List Spot ⊕ Unit) ⊕ Unit)) (Ev.bind (Ev.const (getI_nat hi)) (Ev.bind (Ev.const g) (Ev.pos c (Ev.bind (Ev.const (chkT (by omega))) (Ev.bind b4 (Ev.bind (Ev.const (chkT (by omega))) (Ev.bind (Ev.const (chkT (by simp; omega))) (Ev.const ?_)))))))) (Ev.const rfl))), .inl rfl⟩
  simp only [Int.toNat_natCast]
  rw [List.take_append_of_le_length (by simp; omega), List.take_take, Nat.min_self, b3]
 rw [if_neg c, h] at hsn
 have ht : dd (xs.take (i + 1)) = xs.take (i + 1) := by rw [hsn, List.take_add_one, List.getElem?_eq_getElem hi]; rfl
 obtain ⟨r, r1, r2⟩ := ih (by omega) ht
 rw [← wsucc hi (by omega)] at r1
 exact ⟨r, Ev.step (fun k => slices_Compact_impl_Spot_impl_Spot.l1.eq_2 _ _ _) (Ev.pos (by omega) (Ev.bind (a := (.inr () : (List Spot ⊕ Unit) ⊕ Unit)) (Ev.bind (Ev.const (getI_nat hi)) (Ev.bind (Ev.const g) (Ev.neg c (Ev.const rfl)))) r1)), r2⟩
theorem compact_ev {xs : List Spot} (hl : xs.length ≤ 1000) : Ev (fun k => slices_Compact_impl_Spot_impl_Spot.f k xs) (dd xs) := by
 by_cases c : (xs.length : Int) < 2
 ·have e : dd xs = xs := by
    match xs, c with
    | [], _ => rfl
    | [a], _ => rfl
    | a :: b :: l, c => simp at c; omega
  rw [e]
  exact Ev.pos c (Ev.const rfl)
 obtain ⟨r, r1, r2⟩ := compact_l1 xs hl 1 (by omega) (Nat.le_refl _) (by
   match xs, c with
   | [], c => simp at c
   | a :: l, _ => rfl)
 refine Ev.neg c (r1.bind (Ev.const ?_))
 rcases r2 with rfl | ⟨rfl, e⟩
 ·rfl
 rw [e]
/-- The cells in order, each once. -/
def ord (xs : List Spot) : List Spot := dd (xs.mergeSort leSpot)
theorem ord_mem {xs : List Spot} {s : Spot} : s ∈ ord xs ↔ s ∈ xs := by unfold ord; rw [dd_mem, List.mem_mergeSort]
theorem ord_srt (xs : List Spot) : (ord xs).Pairwise bef := by
 refine dd_srt (List.pairwise_mergeSort (fun a b c h k => ?_) (fun a b => ?_) xs)
 ·rw [le_bef] at *
  rcases h with h | rfl
  ·rcases k with k | rfl
   ·exact .inl (bef_tr h k)
   exact .inl h
  exact k
 rw [Bool.or_eq_true, le_bef, le_bef]
 rcases bef_tot a b with h | h | h
 ·exact .inl (.inl h)
 ·exact .inl (.inr h)
 exact .inr (.inl h)
theorem srtS {a b : List Spot} (ha : a.Pairwise bef) (hb : b.Pairwise bef) (h : ∀ s, s ∈ a ↔ s ∈ b) : a = b := srt_ext (fun _ _ => bef_as) ha hb h
theorem ord_id {xs : List Spot} (h : xs.Pairwise bef) : ord xs = xs := srtS (ord_srt xs) h fun s => ord_mem
theorem ord_eq {a b : List Spot} (h : ∀ s, s ∈ a ↔ s ∈ b) : ord a = ord b := srtS (ord_srt a) (ord_srt b) fun s => by rw [ord_mem, ord_mem, h]
theorem nodup_bef {a : List Spot} (h : a.Pairwise bef) : a.Nodup := h.imp fun {a b} k (e : a = b) => by subst e; exact bef_ir a k
theorem ord_len {a : List Spot} (h : a.Nodup) : (ord a).length = a.length :=
  ((List.perm_ext_iff_of_nodup (nodup_bef (ord_srt a)) h).2 fun s => ord_mem).length_eq
theorem ord_ev {xs : List Spot} (hc : ∀ s ∈ xs, cellIn s) (hl : xs.length ≤ 1000) : Ev (fun k => impl_ordered.f k xs) (ord xs) := by
 have hcl : slices_Clone_impl_Spot_impl_Spot.f xs = some xs := by
   unfold slices_Clone_impl_Spot_impl_Spot.f
   rw [chkT (by simp; omega)]; rfl
 have hok : xs.all okSpot = true := List.all_eq_true.2 fun s hs => by
   obtain ⟨x, y, hx, hy, rfl⟩ := hc s hs
   rw [okSpot_iff]
   show (-128 ≤ (x : Int) ∧ (x : Int) ≤ 127) ∧ (-128 ≤ (y : Int) ∧ (y : Int) ≤ 127)
   omega
 have hso : slices_SortFunc_impl_Spot_impl_Spot.f xs impl_compareSpots.f = some (xs.mergeSort leSpot) := by
   unfold slices_SortFunc_impl_Spot_impl_Spot.f
   rw [chkT ⟨by omega, hok⟩, Option.bind_some]
 exact Ev.bind (Ev.const hcl) (Ev.bind (Ev.const hso) ((compact_ev (by rw [List.length_mergeSort]; omega)).bind (Ev.const rfl)))
end Go.Proofs.YtegibnmfiogebaaGreat
/-
  Plain law: the open sides of a set of cells, both ways.
-/
namespace Go.Proofs.YtegibnmfiogebaaGreat
open G
set_option linter.unusedVariables false
set_option linter.unusedSimpArgs false
variable {W H : Nat} {p q : Pasture} {Gr : Nat → Nat → Int} {E S : Nat → Nat → Bool}
theorem evAllX {xs : List Hurdle} {g : Nat → Hurdle → Option Bool} {p : Hurdle → Bool} (h : ∀ x ∈ xs, Ev (fun k => g k x) (p x)) : ∃ J, ∀ j, J ≤ j → ∀ x ∈ xs, g j x = some (p x) := by
  induction xs with
  | nil => exact ⟨0, fun j _ x hx => by simp at hx⟩
  | cons y ys ih =>
    obtain ⟨J, hJ⟩ := ih fun x hx => h x (List.mem_cons_of_mem _ hx)
    obtain ⟨K, hK⟩ := h y (List.mem_cons_self ..)
    refine ⟨J + K, fun j hj x hx => ?_⟩
    rcases List.mem_cons.1 hx with rfl | hx
    · exact hK j (by omega)
    · exact hJ j (by omega) x hx
theorem take_setX {ys : List Hurdle} {w : Nat} (hw : w < ys.length) (a : Hurdle) : (ys.set w a).take (w + 1) = ys.take w ++ [a] := by
 rw [List.take_add_one, List.getElem?_set_self hw]
 congr 1
 apply List.ext_getElem?
 intro j
 simp only [List.getElem?_take, List.getElem?_set]
 split
 ·rw [if_neg (by omega)]
 rfl
theorem drop_setX {ys : List Hurdle} {w j : Nat} (hw : w < j) (a : Hurdle) : (ys.set w a).drop j = ys.drop j := by
 apply List.ext_getElem?
 intro i
 rw [List.getElem?_drop, List.getElem?_drop, List.getElem?_set_ne (by omega)]
theorem take_keepX {xs : List Hurdle} {j : Nat} (hj : j < xs.length) (f : Hurdle → Bool) : (xs.take (j + 1)).filter f = (xs.take j).filter f ++ (if f xs[j] = true then [xs[j]] else []) := by
 rw [List.take_add_one, List.getElem?_eq_getElem hj, List.filter_append]
 congr 1
 simp only [Option.toList, List.filter_cons, List.filter_nil]
theorem delX_loop (xs : List Hurdle) (dl : Hurdle → Bool) (hn : xs.length ≤ 1048576) : ∀ (d j w : Nat) (ys : List Hurdle), j + d = xs.length → w ≤ j → ys.length = xs.length → ys.take w = (xs.take j).filter (fun h => !dl h) → ys.drop j = xs.drop j →
 ∃ (ys' : List Hurdle) (w' : Nat), ys'.length = xs.length ∧ w' ≤ xs.length ∧ ys'.take w' = xs.filter (fun h => !dl h) ∧ ∀ g : Hurdle → Option Bool, (∀ h ∈ xs, g h = some (dl h)) → ∀ k, d < k → slices_DeleteFunc_impl_Hurdle_impl_Hurdle.l1 g k ys (w : Int) (j : Int) = some (ys', (w' : Int))
  | 0, j, w, ys, hj, hw, hl, ht, hd => by
    refine ⟨ys, w, hl, by omega, ?_, fun g hg k hk => ?_⟩
    · rw [ht, List.take_of_length_le (by omega)]
    · obtain ⟨k, rfl⟩ : ∃ z, k = z + 1 := ⟨k - 1, by omega⟩
      rw [slices_DeleteFunc_impl_Hurdle_impl_Hurdle.l1, if_neg (by omega)]
  | d + 1, j, w, ys, hj, hw, hl, ht, hd => by
    have hjx : j < xs.length := by omega
    have hjy : j < ys.length := by omega
    have e : ys[j] = xs[j] := by
      have := congrArg (fun l => l[0]?) hd
      simp only [List.getElem?_drop, Nat.add_zero, List.getElem?_eq_getElem hjy, List.getElem?_eq_getElem hjx] at this
      exact Option.some.inj this
    have hg0 : getI ys (j : Int) = some xs[j] := by rw [getI_nat hjy, e]
    have hd1 : ys.drop (j + 1) = xs.drop (j + 1) := by
      have := congrArg (fun l => l.drop 1) hd
      simpa [List.drop_drop] using this
    cases hc : dl xs[j]
    · obtain ⟨ys', w', h1, h2, h3, h4⟩ := delX_loop xs dl hn d (j + 1) (w + 1) (ys.set w xs[j]) (by omega) (by omega) (by simpa using hl) (by rw [take_setX (by omega), ht, take_keepX hjx, hc]; rfl) (by rw [drop_setX (by omega), hd1])
      refine ⟨ys', w', h1, h2, h3, fun g hg k hk => ?_⟩
      obtain ⟨k, rfl⟩ : ∃ z, k = z + 1 := ⟨k - 1, by omega⟩
      rw [slices_DeleteFunc_impl_Hurdle_impl_Hurdle.l1, if_pos (by omega), hg0, Option.bind_some, hg _ (List.getElem_mem hjx), Option.bind_some, hc, if_pos (by rfl), getI_nat (show w < ys.length by omega), Option.bind_some, Int.toNat_natCast, wsucc hjx (by omega), wsucc (show w < xs.length by omega) (by omega)]
      exact h4 g hg k (by omega)
    · obtain ⟨ys', w', h1, h2, h3, h4⟩ := delX_loop xs dl hn d (j + 1) w ys (by omega) (by omega) hl (by rw [ht, take_keepX hjx, hc]; simp) hd1
      refine ⟨ys', w', h1, h2, h3, fun g hg k hk => ?_⟩
      obtain ⟨k, rfl⟩ : ∃ z, k = z + 1 := ⟨k - 1, by omega⟩
      rw [slices_DeleteFunc_impl_Hurdle_impl_Hurdle.l1, if_pos (by omega), hg0, Option.bind_some, hg _ (List.getElem_mem hjx), Option.bind_some, hc, if_neg (by simp), wsucc hjx (by omega)]
      exact h4 g hg k (by omega)
theorem idxX_loop (xs : List Hurdle) (dl : Hurdle → Bool) (hx : xs.length ≤ 1048576) : ∀ i : Nat, i ≤ xs.length → ∃ r : Int ⊕ Unit, (∀ g : Hurdle → Option Bool, (∀ x ∈ xs, g x = some (dl x)) → ∀ k, xs.length - i < k → slices_IndexFunc_impl_Hurdle_impl_Hurdle.l1 xs g k (i : Int) = some r) ∧
 ((r = .inr () ∧ ∀ h ∈ xs.drop i, dl h = false) ∨ ∃ (j : Nat) (hj : j < xs.length), i ≤ j ∧ r = .inl (j : Int) ∧ dl xs[j] = true ∧ ∀ h ∈ (xs.drop i).take (j - i), dl h = false) := by
 refine upL ?_ ?_
 ·refine ⟨.inr (), fun g hg k hk => ?_, .inl ⟨rfl, by simp⟩⟩
  obtain ⟨k, rfl⟩ : ∃ j, k = j + 1 := ⟨k - 1, by omega⟩
  rw [slices_IndexFunc_impl_Hurdle_impl_Hurdle.l1, if_neg (by omega)]
 rintro i hi ⟨r, ih, h⟩
 cases hb : dl xs[i]
 ·refine ⟨r, fun g hg k hk => ?_, ?_⟩
  ·obtain ⟨k, rfl⟩ : ∃ j, k = j + 1 := ⟨k - 1, by omega⟩
   rw [slices_IndexFunc_impl_Hurdle_impl_Hurdle.l1, if_pos (by omega), getI_nat hi, Option.bind_some, hg _ (List.getElem_mem hi), Option.bind_some, hb, if_neg (by simp), wsucc hi (by omega)]
   exact ih g hg k (by omega)
  rcases h with ⟨h1, h2⟩ | ⟨j, hj, h1, h2, h3, h4⟩
  ·refine .inl ⟨h1, fun z hz => ?_⟩
   rw [List.drop_eq_getElem_cons hi] at hz
   rcases List.mem_cons.1 hz with rfl | hz
   ·exact hb
   exact h2 z hz
  refine .inr ⟨j, hj, by omega, h2, h3, fun z hz => ?_⟩
  rw [List.drop_eq_getElem_cons hi, show j - i = (j - (i + 1)) + 1 by omega, List.take_succ_cons] at hz
  rcases List.mem_cons.1 hz with rfl | hz
  ·exact hb
  exact h4 z hz
 refine ⟨.inl (i : Int), fun g hg k hk => ?_, .inr ⟨i, hi, Nat.le_refl _, rfl, hb, by simp⟩⟩
 obtain ⟨k, rfl⟩ : ∃ j, k = j + 1 := ⟨k - 1, by omega⟩
 rw [slices_IndexFunc_impl_Hurdle_impl_Hurdle.l1, if_pos (by omega), getI_nat hi, Option.bind_some, hg _ (List.getElem_mem hi), Option.bind_some, hb, if_pos rfl]
theorem deleteX_ev (xs : List Hurdle) {g : Nat → Hurdle → Option Bool} {dl : Hurdle → Bool} (hg : ∀ x ∈ xs, Ev (fun k => g k x) (dl x)) (hx : xs.length ≤ 1048576) : Ev (fun k => slices_DeleteFunc_impl_Hurdle_impl_Hurdle.f k xs (g k)) (xs.filter fun h => !dl h) := by
 obtain ⟨J, hJ⟩ := evAllX hg
 obtain ⟨r, hr, h⟩ := idxX_loop xs dl hx 0 (Nat.zero_le _)
 rcases h with ⟨rfl, h⟩ | ⟨j, hj, _, rfl, h3, h4⟩
 ·refine ⟨J + xs.length + 1, fun k hk => ?_⟩
  have e : slices_IndexFunc_impl_Hurdle_impl_Hurdle.l1 xs (g k) k 0 = some (.inr ()) := hr (g k) (hJ k (by omega)) k (by omega)
  show slices_DeleteFunc_impl_Hurdle_impl_Hurdle.f k xs (g k) = _
  unfold slices_DeleteFunc_impl_Hurdle_impl_Hurdle.f slices_IndexFunc_impl_Hurdle_impl_Hurdle.f
  rw [e]
  simp only [Option.bind_some, if_true]
  congr 1
  symm
  rw [List.filter_eq_self]
  intro z hz
  rw [List.drop_zero] at h
  rw [h z hz]; rfl
 rw [List.drop_zero, Nat.sub_zero] at h4
 have hk : xs.take j = (xs.take (j + 1)).filter (fun h => !dl h) := by
   rw [take_keepX hj, h3, Bool.not_true, if_neg (by simp), List.append_nil]
   symm
   rw [List.filter_eq_self]
   intro z hz
   rw [h4 z hz]; rfl
 obtain ⟨ys', w', q1, q2, q3, q4⟩ := delX_loop xs dl hx (xs.length - (j + 1)) (j + 1) j xs (by omega) (by omega) rfl hk rfl
 refine ⟨J + xs.length + 1, fun k hk => ?_⟩
 have e : slices_IndexFunc_impl_Hurdle_impl_Hurdle.l1 xs (g k) k 0 = some (.inl (j : Int)) := hr (g k) (hJ k (by omega)) k (by omega)
 have e2 := q4 (g k) (hJ k (by omega)) k (by omega)
 rw [← wsucc hj (by omega)] at e2
 show slices_DeleteFunc_impl_Hurdle_impl_Hurdle.f k xs (g k) = _
 unfold slices_DeleteFunc_impl_Hurdle_impl_Hurdle.f slices_IndexFunc_impl_Hurdle_impl_Hurdle.f
 rw [e]
 simp only [Option.bind_some]
 rw [if_neg (by omega), e2]
 simp only [Option.bind_some, Int.toNat_natCast]
 rw [chkT (by omega), Option.bind_some, chkT (by simp; omega), Option.bind_some, q3.symm]
 congr 1
 rw [List.take_append_of_le_length (by simp; omega), List.take_take, Nat.min_self]
/-! ### The hurdle on a side -/
def hA (s : Spot) (i : Nat) : Hurdle := if i = 0 then ⟨nx s 0, true⟩ else if i = 3 then ⟨nx s 3, false⟩ else ⟨s, decide (i = 2)⟩
theorem hurdleAt_hA (s : Spot) {i : Nat} (hi : i < 4) : impl_hurdleAt.f s (i : Int) = some (hA s i) := by
 unfold impl_hurdleAt.f hA
 rw [ahead_eq]
 rcases side hi with rfl | rfl | rfl | rfl <;> simp
theorem hA_ends (hw : okW p = true) {x y i : Nat} (hx : x < p.Wide.toNat) (hy : y < p.High.toNat) (hi : i < 4) (hc : cellB p (nx (sp x y) i).X (nx (sp x y) i).Y = true) :
 ∃ x' y' a b s, nx (sp x y) (i : Int) = sp x' y' ∧ x' < p.Wide.toNat ∧ y' < p.High.toNat ∧ hA (sp x y) i = hu a b s ∧ a < p.Wide.toNat ∧ b < p.High.toNat ∧ isB p a b s = true ∧ stB p a b s = hurB p x y i ∧ ((sp a b = sp x y ∧ nx (sp a b) (sdI s) = sp x' y') ∨ (sp a b = sp x' y' ∧ nx (sp a b) (sdI s) = sp x y)) := by
 obtain ⟨w1, w2⟩ := okW_iff.1 hw
 have hc0 : cellB p (x : Int) (y : Int) = true := (cellB_sp hw).2 ⟨hx, hy⟩
 rcases side hi with rfl | rfl | rfl | rfl
 ·have h1 : 1 ≤ y := by
    rcases Nat.eq_zero_or_pos y with rfl | h
    · exfalso
      have e : IntKind.i8.wrap (((0 : Nat) : Int) - 1) = -1 := by decide
      simp [cellB, nx, sp] at hc
      rw [show IntKind.i8.wrap (-1) = -1 by decide] at hc
      omega
    · exact h
  have e := nx0 (x := x) h1 (show y < 10 by omega)
  have e2 := nx2 (x := x) (show y - 1 < 10 by omega)
  rw [show y - 1 + 1 = y by omega] at e2
  refine ⟨x, y - 1, x, y - 1, true, e, hx, by omega, ?_, hx, by omega, ?_, ?_, .inr ⟨rfl, e2⟩⟩
  ·unfold hA hu; rw [if_pos rfl, e]
  ·unfold isB sdI
   rw [if_pos rfl]
   show cellB p (nx (sp x (y - 1)) 2).X (nx (sp x (y - 1)) 2).Y = true
   rw [e2]; exact hc0
  unfold stB hurB; rw [if_pos rfl, if_pos rfl]
 ·have e := nx1 (y := y) (show x < 10 by omega)
  rw [show ((1 : Nat) : Int) = 1 from rfl, e] at hc
  have := (cellB_sp hw).1 hc
  refine ⟨x + 1, y, x, y, false, e, this.1, hy, rfl, hx, hy, ?_, rfl, .inl ⟨rfl, e⟩⟩
  unfold isB sdI
  show cellB p (nx (sp x y) 1).X (nx (sp x y) 1).Y = true
  rw [e]; exact hc
 ·have e := nx2 (x := x) (show y < 10 by omega)
  rw [show ((2 : Nat) : Int) = 2 from rfl, e] at hc
  have := (cellB_sp hw).1 hc
  refine ⟨x, y + 1, x, y, true, e, hx, this.2, rfl, hx, hy, ?_, rfl, .inl ⟨rfl, e⟩⟩
  unfold isB sdI
  show cellB p (nx (sp x y) 2).X (nx (sp x y) 2).Y = true
  rw [e]; exact hc
 have h1 : 1 ≤ x := by
   rcases Nat.eq_zero_or_pos x with rfl | h
   · exfalso
     have e : IntKind.i8.wrap (((0 : Nat) : Int) - 1) = -1 := by decide
     simp [cellB, nx, sp] at hc
     rw [show IntKind.i8.wrap (-1) = -1 by decide] at hc
     omega
   · exact h
 have e := nx3 (y := y) h1 (show x < 10 by omega)
 have e2 := nx1 (y := y) (show x - 1 < 10 by omega)
 rw [show x - 1 + 1 = x by omega] at e2
 refine ⟨x - 1, y, x - 1, y, false, e, by omega, hy, ?_, by omega, hy, ?_, ?_, .inr ⟨rfl, e2⟩⟩
 ·unfold hA hu; rw [if_neg (by simp), if_pos rfl, e]
 ·unfold isB sdI
  show cellB p (nx (sp (x - 1) y) 1).X (nx (sp (x - 1) y) 1).Y = true
  rw [e2]; exact hc0
 unfold stB hurB; simp
/-- Both ends of a hurdle, as sides of cells. -/
theorem hu_sides (hw : okW p = true) {a b : Nat} {s : Bool} (ha : a < p.Wide.toNat) (hb : b < p.High.toNat) (hi : isB p a b s = true) :
 ∃ x' y' : Nat, x' < p.Wide.toNat ∧ y' < p.High.toNat ∧ nx (sp a b) (sdI s) = sp x' y' ∧ hA (sp a b) (sdI s) = hu a b s ∧ ∃ j : Nat, j < 4 ∧ nx (sp x' y') (j : Int) = sp a b ∧ hA (sp x' y') j = hu a b s := by
 obtain ⟨w1, w2⟩ := okW_iff.1 hw
 cases s
 ·have e := nx1 (y := b) (show a < 10 by omega)
  unfold isB at hi
  change cellB p (nx (sp a b) 1).X (nx (sp a b) 1).Y = true at hi
  rw [e] at hi
  have := (cellB_sp hw).1 hi
  have e3 := nx3 (x := a + 1) (y := b) (by omega) (by omega)
  rw [Nat.add_sub_cancel] at e3
  refine ⟨a + 1, b, this.1, this.2, e, rfl, 3, by omega, e3, ?_⟩
  unfold hA; rw [if_neg (by simp), if_pos rfl, e3]; rfl
 have e := nx2 (x := a) (show b < 10 by omega)
 unfold isB at hi
 change cellB p (nx (sp a b) 2).X (nx (sp a b) 2).Y = true at hi
 rw [e] at hi
 have := (cellB_sp hw).1 hi
 have e3 := nx0 (x := a) (y := b + 1) (by omega) (by omega)
 rw [Nat.add_sub_cancel] at e3
 refine ⟨a, b + 1, this.1, this.2, e, rfl, 0, by omega, e3, ?_⟩
 unfold hA; rw [if_pos rfl, e3]; rfl
/-! ### The sides of a list of cells -/
def sdC (p : Pasture) (Y : List Spot) (s : Spot) (i : Nat) : Bool := cellB p (nx s i).X (nx s i).Y && !decide (nx s i ∈ Y)
def sd4 (p : Pasture) (Y : List Spot) (s : Spot) : Nat → Nat → List Hurdle
  | 0, _ => []
  | n + 1, i => (if sdC p Y s i = true then [hA s i] else []) ++ sd4 p Y s n (i + 1)
theorem sd4_mem {Y : List Spot} {s : Spot} {h : Hurdle} : ∀ (n i : Nat), h ∈ sd4 p Y s n i ↔ ∃ j, i ≤ j ∧ j < i + n ∧ sdC p Y s j = true ∧ h = hA s j
  | 0, i => by simp only [sd4, List.not_mem_nil, false_iff]; rintro ⟨j, h1, h2, _⟩; omega
  | n + 1, i => by
    rw [sd4, List.mem_append, sd4_mem n (i + 1)]
    constructor
    · rintro (h1 | ⟨j, h1, h2, h3⟩)
      · split at h1
        · rename_i c
          exact ⟨i, Nat.le_refl _, by omega, c, List.mem_singleton.1 h1⟩
        · simp at h1
      · exact ⟨j, by omega, by omega, h3⟩
    · rintro ⟨j, h1, h2, h3, h4⟩
      rcases Nat.eq_or_lt_of_le h1 with e | e
      · subst e; left; rw [if_pos h3, h4]; exact List.mem_singleton.2 rfl
      · exact .inr ⟨j, e, by omega, h3, h4⟩
theorem sd4_len {Y : List Spot} {s : Spot} : ∀ (n i : Nat), (sd4 p Y s n i).length ≤ n
  | 0, i => Nat.le_refl _
  | n + 1, i => by
    have := sd4_len (Y := Y) (s := s) n (i + 1)
    rw [sd4, List.length_append]; split <;> simp <;> omega
theorem sides_l2 (v : VPasture p) (hw : okW p = true) {Y : List Spot} (hl : Y.length ≤ 1000) {x y : Nat} (hx : x < 10) (hy : y < 10) : ∀ i, i ≤ 4 → ∀ acc : List Hurdle, acc.length ≤ 100000 + i → Ev (fun k => impl_Pasture_sidesOf.l2 p Y (sp x y) k acc (i : Int)) (acc ++ sd4 p Y (sp x y) (4 - i) i) := by
 refine upL ?_ ?_
 ·intro acc ha
  exact Ev.step (fun k => impl_Pasture_sidesOf.l2.eq_2 _ _ _ _ _ _) (Ev.neg (by omega) (Ev.const (by simp [sd4])))
 intro i hi ih acc ha
 have hv : VSpot (nx (sp x y) (i : Int)) := nx_in hx hy i
 rw [show 4 - i = (4 - (i + 1)) + 1 by omega, sd4]
 by_cases c : sdC p Y (sp x y) i = true
 ·rw [if_pos c, ← List.append_assoc]
  have l1 := ih (acc ++ [hA (sp x y) i]) (by simp; omega)
  rw [← wsucc (n := 4) hi (by omega)] at l1
  unfold sdC at c
  rw [Bool.and_eq_true] at c
  have cn : decide (nx (sp x y) (i : Int) ∈ Y) = false := by simpa using c.2
  exact Ev.step (fun k => impl_Pasture_sidesOf.l2.eq_2 _ _ _ _ _ _) (Ev.pos (by omega) (Ev.bind (Ev.const (ahead_eq (sp x y) i)) (Ev.bind (a := true) (Ev.bind (Ev.const (isCell_eq v hw _ hv)) (Ev.pos c.1 ((contS_ev Y _ (by omega)).bind (Ev.const (by rw [cn]; rfl))))) (Ev.pos rfl (Ev.bind (Ev.const (hurdleAt_hA _ hi)) (Ev.bind (Ev.const (chkT (by simp; omega))) l1))))))
 rw [if_neg c, List.nil_append]
 have l1 := ih acc (by omega)
 rw [← wsucc (n := 4) hi (by omega)] at l1
 refine Ev.step (fun k => impl_Pasture_sidesOf.l2.eq_2 _ _ _ _ _ _) (Ev.pos (by omega) (Ev.bind (Ev.const (ahead_eq (sp x y) i)) (Ev.bind (a := false) (Ev.bind (Ev.const (isCell_eq v hw _ hv)) ?_) (Ev.neg (by simp) l1))))
 cases d : cellB p (nx (sp x y) i).X (nx (sp x y) i).Y
 ·exact Ev.neg (by simp) (Ev.const rfl)
 unfold sdC at c
 rw [d] at c
 have cn : decide (nx (sp x y) (i : Int) ∈ Y) = true := by simpa using c
 exact Ev.pos rfl ((contS_ev Y _ (by omega)).bind (Ev.const (by rw [cn]; rfl)))
def sdL (p : Pasture) (Y : List Spot) (l : List Spot) : List Hurdle := l.flatMap fun s => sd4 p Y s 4 0
theorem sdL_len {Y : List Spot} : ∀ l, (sdL p Y l).length ≤ 4 * l.length
  | [] => Nat.le_refl _
  | s :: l => by
    have := sdL_len (Y := Y) l
    have h := sd4_len (p := p) (Y := Y) (s := s) 4 0
    unfold sdL at *
    rw [List.flatMap_cons, List.length_append, List.length_cons]; omega
theorem sides_l1 (v : VPasture p) (hw : okW p = true) {Y : List Spot} (hc : ∀ s ∈ Y, cellIn s) (hl : Y.length ≤ 1000) : ∀ i, i ≤ Y.length → ∀ acc : List Hurdle, acc.length ≤ 4 * i → Ev (fun k => impl_Pasture_sidesOf.l1 p Y Y k acc (i : Int)) (acc ++ sdL p Y (Y.drop i)) := by
 refine upL ?_ ?_
 ·intro acc ha
  rw [List.drop_length]
  exact Ev.step (fun k => impl_Pasture_sidesOf.l1.eq_2 _ _ _ _ _ _) (Ev.neg (by omega) (Ev.const (by simp [sdL])))
 intro i hi ih acc ha
 obtain ⟨x, y, hx, hy, e⟩ := hc _ (List.getElem_mem hi)
 have a1 := sides_l2 v hw hl hx hy 0 (Nat.zero_le _) acc (by omega)
 rw [Nat.sub_zero] at a1
 have h4 := sd4_len (p := p) (Y := Y) (s := sp x y) 4 0
 have l1 := ih (acc ++ sd4 p Y (sp x y) 4 0) (by rw [List.length_append]; omega)
 rw [← wsucc hi (by omega)] at l1
 rw [List.drop_eq_getElem_cons hi, e]
 unfold sdL at *
 rw [List.flatMap_cons, ← List.append_assoc]
 exact Ev.step (fun k => impl_Pasture_sidesOf.l1.eq_2 _ _ _ _ _ _) (Ev.pos (by omega) (Ev.bind (Ev.bind (Ev.const ((getI_nat hi).trans (congrArg some e))) (a1.bind (Ev.const rfl))) l1))
end Go.Proofs.YtegibnmfiogebaaGreat
/-
  Plain law: the open sides of a set of cells: both ways tell the same list.
-/
namespace Go.Proofs.YtegibnmfiogebaaGreat
open G
set_option linter.unusedVariables false
set_option linter.unusedSimpArgs false
variable {W H : Nat} {p q : Pasture} {Gr : Nat → Nat → Int} {E S : Nat → Nat → Bool}
/-- All cells lie on the pasture. -/
def inP (p : Pasture) (T : List Spot) : Prop := ∀ s ∈ T, ∃ x y : Nat, x < p.Wide.toNat ∧ y < p.High.toNat ∧ s = sp x y
theorem inP.cellIn (hw : okW p = true) {T : List Spot} (h : inP p T) : ∀ s ∈ T, cellIn s := fun s hs => by
  obtain ⟨w1, w2⟩ := okW_iff.1 hw
  obtain ⟨x, y, hx, hy, rfl⟩ := h s hs
  exact ⟨x, y, by omega, by omega, rfl⟩
/-! ### The order of hurdles -/
def befH (a b : Hurdle) : Prop := bef a.At b.At ∨ (a.At = b.At ∧ a.South = false ∧ b.South = true)
theorem befH_as (a b : Hurdle) (h : befH a b) (k : befH b a) : False := by
 rcases h with h | ⟨h1, h2, h3⟩ <;> rcases k with k | ⟨k1, k2, k3⟩
 ·exact bef_as h k
 ·rw [k1] at h; exact bef_ir _ h
 ·rw [h1] at k; exact bef_ir _ k
 rw [h2] at k3; exact absurd k3 (by simp)
theorem hurdle_ext {a b : Hurdle} (h : a.At = b.At) (k : a.South = b.South) : a = b := by cases a; cases b; simp only at h k; subst h k; rfl
theorem le_befH {a b : Hurdle} : leHurdle a b = true ↔ befH a b ∨ a = b := by
 unfold leHurdle befH
 rw [decide_eq_true_eq]
 constructor
 ·rintro (h | ⟨h, h' | ⟨k, l⟩⟩)
  ·exact .inl (.inl (.inl h))
  ·exact .inl (.inl (.inr ⟨h, h'⟩))
  have e := spot_ext k h
  cases c : a.South <;> cases d : b.South
  ·exact .inr (hurdle_ext e (by rw [c, d]))
  ·exact .inl (.inr ⟨e, rfl, rfl⟩)
  ·rw [c, d] at l; exact absurd l (by decide)
  exact .inr (hurdle_ext e (by rw [c, d]))
 rintro (((h | h) | ⟨h1, h2, h3⟩) | rfl)
 ·exact .inl h
 ·exact .inr ⟨h.1, .inl h.2⟩
 ·exact .inr ⟨by rw [h1], .inr ⟨by rw [h1], by rw [h2, h3]; decide⟩⟩
 exact .inr ⟨rfl, .inr ⟨rfl, Int.le_refl _⟩⟩
theorem befH_tr {a b c : Hurdle} (h : befH a b) (k : befH b c) : befH a c := by
 rcases h with h | ⟨h1, h2, h3⟩ <;> rcases k with k | ⟨k1, k2, k3⟩
 ·exact .inl (bef_tr h k)
 ·exact .inl (k1 ▸ h)
 ·exact .inl (h1 ▸ k)
 rw [h3] at k2; exact absurd k2 (by simp)
theorem befH_tot (a b : Hurdle) : befH a b ∨ a = b ∨ befH b a := by
 rcases bef_tot a.At b.At with h | h | h
 ·exact .inl (.inl h)
 ·cases c : a.South <;> cases d : b.South
  ·exact .inr (.inl (hurdle_ext h (by rw [c, d])))
  ·exact .inl (.inr ⟨h, c, d⟩)
  ·exact .inr (.inr (.inr ⟨h.symm, d, c⟩))
  exact .inr (.inl (hurdle_ext h (by rw [c, d])))
 exact .inr (.inr (.inl h))
theorem srtH_merge {l : List Hurdle} (hn : l.Nodup) : (l.mergeSort leHurdle).Pairwise befH := by
 have h := List.pairwise_mergeSort (le := leHurdle) (fun a b c h k => by
   rw [le_befH] at *
   rcases h with h | rfl
   · rcases k with k | rfl
     · exact .inl (befH_tr h k)
     · exact .inl h
   · exact k) (fun a b => by
   rw [Bool.or_eq_true, le_befH, le_befH]
   rcases befH_tot a b with h | h | h
   · exact .inl (.inl h)
   · exact .inl (.inr h)
   · exact .inr (.inl h)) l
 have hn2 : (l.mergeSort leHurdle).Nodup := (List.mergeSort_perm l leHurdle).nodup_iff.2 hn
 exact (h.and hn2).imp fun {a b} h => (le_befH.1 h.1).resolve_right h.2
/-! ### All sides stand in order -/
theorem cellH_order (x y : Nat) : (cellH p x y).Pairwise befH := by
 unfold cellH
 rw [List.pairwise_append]
 refine ⟨?_, ?_, fun a ha b hb => ?_⟩
 ·split
  ·exact List.pairwise_singleton _ _
  exact List.Pairwise.nil
 ·split
  ·exact List.pairwise_singleton _ _
  exact List.Pairwise.nil
 split at ha
 ·split at hb
  ·rw [List.mem_singleton.1 ha, List.mem_singleton.1 hb]; exact .inr ⟨rfl, rfl, rfl⟩
  simp at hb
 simp at ha
theorem cellH_at {x y : Nat} {h : Hurdle} (hh : h ∈ cellH p x y) : h.At = sp x y := by
 unfold cellH at hh
 rcases List.mem_append.1 hh with hh | hh
 ·split at hh
  ·rw [List.mem_singleton.1 hh]; rfl
  simp at hh
 split at hh
 ·rw [List.mem_singleton.1 hh]; rfl
 simp at hh
theorem rowH_at {y : Nat} : ∀ n x, ∀ h ∈ rowH p y x n, h.At.Y = (y : Int) ∧ (x : Int) ≤ h.At.X
  | 0, x, h, hh => by simp [rowH] at hh
  | n + 1, x, h, hh => by
    rw [rowH] at hh
    rcases List.mem_append.1 hh with hh | hh
    · rw [cellH_at hh]; exact ⟨rfl, Int.le_refl _⟩
    · have := rowH_at n (x + 1) h hh
      exact ⟨this.1, by omega⟩
theorem rowH_order {y : Nat} : ∀ n x, (rowH p y x n).Pairwise befH
  | 0, x => List.Pairwise.nil
  | n + 1, x => by
    rw [rowH, List.pairwise_append]
    refine ⟨cellH_order x y, rowH_order n (x + 1), fun a ha b hb => ?_⟩
    have h1 := cellH_at ha
    have h2 := rowH_at n (x + 1) b hb
    refine .inl (.inr ⟨?_, ?_⟩)
    · rw [h1, h2.1]; rfl
    · rw [h1]; show (x : Int) < b.At.X; omega
theorem gridH_at {W : Nat} : ∀ n y, ∀ h ∈ gridH p W y n, (y : Int) ≤ h.At.Y
  | 0, y, h, hh => by simp [gridH] at hh
  | n + 1, y, h, hh => by
    rw [gridH] at hh
    rcases List.mem_append.1 hh with hh | hh
    · have := rowH_at _ _ h hh; omega
    · have := gridH_at n (y + 1) h hh; omega
theorem gridH_order {W : Nat} : ∀ n y, (gridH p W y n).Pairwise befH
  | 0, y => List.Pairwise.nil
  | n + 1, y => by
    rw [gridH, List.pairwise_append]
    refine ⟨rowH_order _ _, gridH_order n (y + 1), fun a ha b hb => ?_⟩
    have h1 := rowH_at _ _ a ha
    have h2 := gridH_at _ _ b hb
    exact .inl (.inl (by omega))
theorem cellH_in {x y : Nat} {s : Bool} (h : isB p x y s = true) : hu x y s ∈ cellH p x y := by
 unfold cellH
 rw [List.mem_append]
 cases s
 ·left; rw [if_pos h]; exact List.mem_singleton.2 rfl
 right; rw [if_pos h]; exact List.mem_singleton.2 rfl
theorem rowH_in {y : Nat} {h : Hurdle} : ∀ n x j, x ≤ j → j < x + n → h ∈ cellH p j y → h ∈ rowH p y x n
  | 0, x, j, h1, h2, _ => by omega
  | n + 1, x, j, h1, h2, hh => by
    rw [rowH, List.mem_append]
    rcases Nat.eq_or_lt_of_le h1 with e | e
    · subst e; exact .inl hh
    · exact .inr (rowH_in n (x + 1) j e (by omega) hh)
theorem gridH_in {W : Nat} {h : Hurdle} : ∀ n y j, y ≤ j → j < y + n → h ∈ rowH p j 0 W → h ∈ gridH p W y n
  | 0, y, j, h1, h2, _ => by omega
  | n + 1, y, j, h1, h2, hh => by
    rw [gridH, List.mem_append]
    rcases Nat.eq_or_lt_of_le h1 with e | e
    · subst e; exact .inl hh
    · exact .inr (gridH_in n (y + 1) j e (by omega) hh)
theorem gridH_mem {h : Hurdle} : h ∈ gridH p p.Wide.toNat 0 p.High.toNat ↔ told p h := by
 refine ⟨gridH_told _ 0 (by omega) h, ?_⟩
 rintro ⟨x, y, s, hx, hy, hi, rfl⟩
 exact gridH_in _ 0 y (Nat.zero_le _) (by omega) (rowH_in _ 0 x (Nat.zero_le _) (by omega) (cellH_in hi))
/-! ### Sides of a set -/
def dif (T : List Spot) (h : Hurdle) : Bool := decide (h.At ∈ T) != decide (nx h.At (sdI h.South) ∈ T)
theorem dif_iff {T : List Spot} {h : Hurdle} : dif T h = true ↔ (h.At ∈ T ∧ nx h.At (sdI h.South) ∉ T) ∨ (h.At ∉ T ∧ nx h.At (sdI h.South) ∈ T) := by
 unfold dif
 by_cases a : h.At ∈ T <;> by_cases b : nx h.At (sdI h.South) ∈ T <;> simp [a, b]
theorem sdC_iff {T : List Spot} {s : Spot} {i : Nat} : sdC p T s i = true ↔ cellB p (nx s i).X (nx s i).Y = true ∧ nx s i ∉ T := by
 unfold sdC; simp
theorem sdL_mem (hw : okW p = true) {T : List Spot} (hT : inP p T) {h : Hurdle} : h ∈ sdL p T T ↔ told p h ∧ dif T h = true := by
 unfold sdL
 rw [List.mem_flatMap]
 constructor
 ·rintro ⟨s, hs, hh⟩
  obtain ⟨x, y, hx, hy, rfl⟩ := hT s hs
  obtain ⟨i, _, hi, hc, rfl⟩ := (sd4_mem _ _).1 hh
  rw [sdC_iff] at hc
  obtain ⟨x', y', a, b, s, e1, _, _, e2, ha, hb, hi2, _, e3⟩ := hA_ends hw hx hy (by omega) hc.1
  rw [e2]
  refine ⟨⟨a, b, s, ha, hb, hi2, rfl⟩, dif_iff.2 ?_⟩
  show (sp a b ∈ T ∧ nx (sp a b) (sdI s) ∉ T) ∨ (sp a b ∉ T ∧ nx (sp a b) (sdI s) ∈ T)
  rw [e1] at hc
  rcases e3 with ⟨e3, e4⟩ | ⟨e3, e4⟩
  ·rw [e4, e3]; exact .inl ⟨hs, hc.2⟩
  rw [e4, e3]; exact .inr ⟨hc.2, hs⟩
 rintro ⟨⟨a, b, s, ha, hb, hi, rfl⟩, hd⟩
 obtain ⟨x', y', hx', hy', e1, e2, j, hj, e3, e4⟩ := hu_sides hw ha hb hi
 rw [dif_iff] at hd
 change (sp a b ∈ T ∧ nx (sp a b) (sdI s) ∉ T) ∨ (sp a b ∉ T ∧ nx (sp a b) (sdI s) ∈ T) at hd
 rcases hd with ⟨h1, h2⟩ | ⟨h1, h2⟩
 ·refine ⟨sp a b, h1, (sd4_mem _ _).2 ⟨sdI s, Nat.zero_le _, by unfold sdI; split <;> omega, sdC_iff.2 ⟨hi, h2⟩, e2.symm⟩⟩
 rw [e1] at h2
 refine ⟨sp x' y', h2, (sd4_mem _ _).2 ⟨j, Nat.zero_le _, by omega, sdC_iff.2 ⟨?_, by rw [e3]; exact h1⟩, e4.symm⟩⟩
 rw [e3]; exact (cellB_sp hw).2 ⟨ha, hb⟩
theorem sd4_nodup (hw : okW p = true) {T : List Spot} {x y : Nat} (hx : x < p.Wide.toNat) (hy : y < p.High.toNat) (hs : sp x y ∈ T) : ∀ n i, i + n ≤ 4 → (sd4 p T (sp x y) n i).Nodup
  | 0, i, _ => List.nodup_nil
  | n + 1, i, h4 => by
    obtain ⟨w1, w2⟩ := okW_iff.1 hw
    rw [sd4]
    refine List.nodup_append.2 ⟨?_, sd4_nodup hw hx hy hs n (i + 1) (by omega), fun a ha b hb e => ?_⟩
    · split
      · simp
      · exact List.nodup_nil
    · split at ha
      · rename_i c
        rw [List.mem_singleton.1 ha] at e
        obtain ⟨j, h1, h2, h3, h5⟩ := (sd4_mem _ _).1 hb
        rw [sdC_iff] at c h3
        obtain ⟨x1, y1, a1, b1, s1, d1, _, _, d2, _, _, _, _, d3⟩ := hA_ends hw hx hy (show i < 4 by omega) c.1
        obtain ⟨x2, y2, a2, b2, s2, f1, _, _, f2, _, _, _, _, f3⟩ := hA_ends hw hx hy (show j < 4 by omega) h3.1
        rw [h5, d2, f2] at e
        have e1 : sp a1 b1 = sp a2 b2 := congrArg Hurdle.At e
        have e2 : s1 = s2 := congrArg Hurdle.South e
        have hxy : sp x1 y1 = sp x2 y2 := by
          rw [d1] at c; rw [f1] at h3
          subst e2
          rw [← e1] at f3
          rcases d3 with ⟨g1, g2⟩ | ⟨g1, g2⟩ <;> rcases f3 with ⟨k1, k2⟩ | ⟨k1, k2⟩
          · rw [← g2, ← k2]
          · exact absurd (g1.symm.trans k1 ▸ hs) h3.2
          · exact absurd (k1.symm.trans g1 ▸ hs) c.2
          · rw [← g1, ← k1]
        have := nx_inj (show x < 10 by omega) (show y < 10 by omega) (show i < 4 by omega) (show j < 4 by omega) (d1.trans (hxy.trans f1.symm))
        omega
      · simp at ha
theorem sdL_nodup (hw : okW p = true) {T : List Spot} (hT : inP p T) (hn : T.Nodup) : (sdL p T T).Nodup := by
 unfold sdL
 refine List.pairwise_flatMap.2 ⟨fun s hs => ?_, ?_⟩
 ·obtain ⟨x, y, hx, hy, rfl⟩ := hT s hs
  exact sd4_nodup hw hx hy hs 4 0 (by omega)
 refine List.Pairwise.imp_of_mem (fun {s t} hs ht hne a ha b hb e => ?_) hn
 subst e
 obtain ⟨x, y, hx, hy, rfl⟩ := hT s hs
 obtain ⟨x', y', hx', hy', rfl⟩ := hT t ht
 obtain ⟨i, _, hi, c, e5⟩ := (sd4_mem _ _).1 ha
 obtain ⟨j, _, hj, h3, h5⟩ := (sd4_mem _ _).1 hb
 rw [sdC_iff] at c h3
 obtain ⟨x1, y1, a1, b1, s1, d1, _, _, d2, _, _, _, _, d3⟩ := hA_ends hw hx hy (show i < 4 by omega) c.1
 obtain ⟨x2, y2, a2, b2, s2, f1, _, _, f2, _, _, _, _, f3⟩ := hA_ends hw hx' hy' (show j < 4 by omega) h3.1
 rw [h5, d2, f2] at e5
 have e1 : sp a2 b2 = sp a1 b1 := congrArg Hurdle.At e5
 have e2 : s2 = s1 := congrArg Hurdle.South e5
 rw [d1] at c; rw [f1] at h3
 subst e2
 rw [e1] at f3
 rcases d3 with ⟨g1, g2⟩ | ⟨g1, g2⟩ <;> rcases f3 with ⟨k1, k2⟩ | ⟨k1, k2⟩
 ·exact hne (g1.symm.trans k1)
 ·exact h3.2 (k1.symm.trans g1 ▸ hs)
 ·exact c.2 (g1.symm.trans k1 ▸ ht)
 exact hne (g2.symm.trans k2)
end Go.Proofs.YtegibnmfiogebaaGreat
/-
  Plain law: the open sides, both ways.
-/
namespace Go.Proofs.YtegibnmfiogebaaGreat
open G
set_option linter.unusedVariables false
set_option linter.unusedSimpArgs false
variable {W H : Nat} {p q : Pasture} {Gr : Nat → Nat → Int} {E S : Nat → Nat → Bool}
/-- The open sides of a set of cells, in order. -/
def OS (p : Pasture) (T : List Spot) : List Hurdle := (gridH p p.Wide.toNat 0 p.High.toNat).filter fun h => dif T h && !stH p h
theorem OS_mem {T : List Spot} {h : Hurdle} : h ∈ OS p T ↔ told p h ∧ dif T h = true ∧ stH p h = false := by
 unfold OS
 rw [List.mem_filter, gridH_mem, Bool.and_eq_true, Bool.not_eq_true']
theorem OS_len (hw : okW p = true) (T : List Spot) : (OS p T).length ≤ 200 := by
 obtain ⟨w1, w2⟩ := okW_iff.1 hw
 have h1 := gridH_len p p.Wide.toNat p.High.toNat 0
 have h2 : 2 * p.Wide.toNat * p.High.toNat ≤ 20 * 10 := Nat.mul_le_mul (by omega) (by omega)
 have h3 := List.length_filter_le (fun h => dif T h && !stH p h) (gridH p p.Wide.toNat 0 p.High.toNat)
 unfold OS; omega
theorem OS_congr {T T' : List Spot} (h : ∀ s, s ∈ T ↔ s ∈ T') : OS p T = OS p T' := by
 unfold OS
 refine List.filter_congr fun x _ => ?_
 unfold dif
 rw [decide_eq_decide.2 (h _), decide_eq_decide.2 (h _)]
theorem implOpen_ev (v : VPasture p) (hw : okW p = true) {T : List Spot} (hT : inP p T) (hs : T.Pairwise bef) (hl : T.length ≤ 1000) : Ev (fun k => impl_Pasture_openSides.f k p T) (OS p T) := by
 obtain ⟨w1, w2⟩ := okW_iff.1 hw
 have h1 := ord_ev (hT.cellIn hw) hl
 rw [ord_id hs] at h1
 have h2 := sides_l1 v hw (hT.cellIn hw) hl 0 (Nat.zero_le _) [] (by simp)
 rw [List.nil_append, List.drop_zero] at h2
 have hl2 := sdL_len (p := p) (Y := T) T
 have hso : Ev (fun k => impl_Pasture_sidesOf.f k p T) (sdL p T T) := h1.bind (h2.bind (Ev.const rfl))
 have hst : ∀ h ∈ sdL p T T, Ev (fun _ => impl_Pasture_stands.f p h) (stH p h) := fun h hh => by
   obtain ⟨x, y, s, hx, hy, hi, rfl⟩ := ((sdL_mem hw hT).1 hh).1
   exact Ev.const (implSt_eq p (by omega) s)
 have hd := deleteX_ev (sdL p T T) (g := fun _ => impl_Pasture_stands.f p) hst (by omega)
 have hn : ((sdL p T T).filter fun h => !stH p h).Nodup := (sdL_nodup hw hT (nodup_bef hs)).filter _
 have hmem : ∀ h, h ∈ ((sdL p T T).filter fun h => !stH p h) ↔ h ∈ OS p T := fun h => by
   rw [List.mem_filter, sdL_mem hw hT, OS_mem, Bool.not_eq_true', and_assoc]
 have e : ((sdL p T T).filter fun h => !stH p h).mergeSort leHurdle = OS p T := by
   refine srt_ext befH_as (srtH_merge hn) ((gridH_order _ _).filter _) fun h => ?_
   rw [List.mem_mergeSort]; exact hmem h
 have hl3 := List.length_filter_le (fun h => !stH p h) (sdL p T T)
 refine hso.bind (hd.bind (Ev.bind (a := OS p T) ?_ (Ev.const rfl)))
 refine Ev.of 0 fun k _ => ?_
 have hok : ((sdL p T T).filter fun h => !stH p h).all okHurdle = true := List.all_eq_true.2 fun h hh => by
   obtain ⟨x, y, s, hx, hy, hi, rfl⟩ := (OS_mem.1 ((hmem h).1 hh)).1
   unfold okHurdle
   rw [okSpot_iff]
   show (-128 ≤ (x : Int) ∧ (x : Int) ≤ 127) ∧ (-128 ≤ (y : Int) ∧ (y : Int) ≤ 127)
   omega
 unfold slices_SortFunc_impl_Hurdle_impl_Hurdle.f
 rw [chkT ⟨by omega, hok⟩, Option.bind_some, e]
/-! ### Tables of marks -/
abbrev Bt := Arr 10 (Arr 10 Bool)
def bA (a : Arr 10 Bool) (i : Nat) : Bool := a.l.getD i false
def bR (a : Bt) (i : Nat) : Arr 10 Bool := (a.l[i]?).getD (Arr.mk' false)
def b2 (m : Bt) (y x : Nat) : Bool := bA (bR m y) x
def putM (m : Bt) (y x : Nat) : Bt := aset m y (aset (bR m y) x true)
theorem bA_get (a : Arr 10 Bool) {i : Nat} (h : i < 10) : getI a.l (i : Int) = some (bA a i) := by
 have : i < a.l.length := by rw [a.len]; exact h
 rw [getI_nat this]; simp [bA, List.getD_eq_getElem?_getD, List.getElem?_eq_getElem this]
theorem bR_get (a : Bt) {i : Nat} (h : i < 10) : getI a.l (i : Int) = some (bR a i) := by
 have : i < a.l.length := by rw [a.len]; exact h
 rw [getI_nat this]; simp [bR, List.getElem?_eq_getElem this]
theorem b2_put (m : Bt) {y x : Nat} (hy : y < 10) (hx : x < 10) (y' x' : Nat) : b2 (putM m y x) y' x' = (decide (y = y' ∧ x = x') || b2 m y' x') := by
 have h1 : bR (putM m y x) y' = if y = y' then aset (bR m y) x true else bR m y' := by
   unfold bR putM aset
   simp only [List.getElem?_set, m.len, hy, if_true]
   split <;> simp [bR]
 have h2 : ∀ a : Arr 10 Bool, bA (aset a x true) x' = if x = x' then true else bA a x' := fun a => by
   unfold bA aset
   simp only [List.getD_eq_getElem?_getD, List.getElem?_set, a.len, hx, if_true]
   split <;> simp
 unfold b2
 rw [h1]
 by_cases c : y = y'
 ·subst c
  rw [if_pos rfl, h2]
  by_cases d : x = x' <;> simp [d]
 rw [if_neg c, decide_eq_false (fun h => c h.1), Bool.false_or]
def noM : Bt := (Arr.mk' (Arr.mk' false : Arr 10 Bool) : Arr 10 (Arr 10 Bool))
theorem b2_no (y x : Nat) : b2 noM y x = false := by
 have h : ∀ n i : Nat, (List.replicate n false).getD i false = false := fun n i => by
   rw [List.getD_eq_getElem?_getD, List.getElem?_replicate]; split <;> rfl
 unfold b2 bA bR noM Arr.mk'
 simp only [List.getElem?_replicate]
 split <;> exact h _ _
theorem mask_loop {T : List Spot} (hc : ∀ s ∈ T, cellIn s) (hl : T.length ≤ 1000) : ∀ i, i ≤ T.length → ∀ m : Bt, ∃ m' : Bt, Ev (fun k => spec_l01Mask.l1 T k m (i : Int)) m' ∧ ∀ y x, y < 10 → x < 10 → b2 m' y x = (b2 m y x || decide (sp x y ∈ T.drop i)) := by
 refine upL ?_ ?_
 ·intro m
  exact ⟨m, Ev.step (fun k => spec_l01Mask.l1.eq_2 _ _ _ _) (Ev.neg (by omega) (Ev.const rfl)), fun y x _ _ => by rw [List.drop_length]; simp⟩
 intro i hi ih m
 obtain ⟨x, y, hx, hy, e⟩ := hc _ (List.getElem_mem hi)
 rw [show (⟨(x : Int), (y : Int)⟩ : Spot) = sp x y from rfl] at e
 obtain ⟨m', h1, h2⟩ := ih (putM m y x)
 rw [← wsucc hi (by omega)] at h1
 have g : getI T (i : Int) = some (sp x y) := (getI_nat hi).trans (congrArg some e)
 refine ⟨m', Ev.step (fun k => spec_l01Mask.l1.eq_2 _ _ _ _) (Ev.pos (by omega) (Ev.bind (Ev.const g) (Ev.bind (Ev.const g) (Ev.bind (Ev.const (bR_get m hy)) (Ev.bind (Ev.const (bA_get _ hx)) ?_))))), fun b a hb ha => ?_⟩
 ·simp only [show (sp x y).Y.toNat = y from rfl, show (sp x y).X.toNat = x from rfl]
  exact h1
 rw [h2 b a hb ha, b2_put m hy hx, List.drop_eq_getElem_cons hi, e]
 have : decide (sp a b ∈ sp x y :: T.drop (i + 1)) = (decide (y = b ∧ x = a) || decide (sp a b ∈ T.drop (i + 1))) := by
   rw [← Bool.decide_or, decide_eq_decide, List.mem_cons]
   constructor
   · rintro (h | h)
     · have := sp_inj.1 h; exact .inl ⟨this.2.symm, this.1.symm⟩
     · exact .inr h
   · rintro (⟨rfl, rfl⟩ | h)
     · exact .inl rfl
     · exact .inr h
 rw [this]
 cases decide (y = b ∧ x = a) <;> cases b2 m b a <;> simp
theorem mask_ev {T : List Spot} (hc : ∀ s ∈ T, cellIn s) (hl : T.length ≤ 1000) : ∃ m : Bt, Ev (fun k => spec_l01Mask.f k T) m ∧ ∀ y x, y < 10 → x < 10 → b2 m y x = decide (sp x y ∈ T) := by
 obtain ⟨m, h1, h2⟩ := mask_loop hc hl 0 (Nat.zero_le _) noM
 refine ⟨m, h1.bind (Ev.const rfl), fun y x hy hx => ?_⟩
 rw [h2 y x hy hx, b2_no, List.drop_zero, Bool.false_or]
theorem open_loop (v : VPasture p) (hw : okW p = true) {T : List Spot} {m : Bt} (hm : ∀ y x, y < 10 → x < 10 → b2 m y x = decide (sp x y ∈ T)) {L : List Hurdle} (hL : ∀ h ∈ L, told p h) (hl : L.length ≤ 1000) : ∀ i, i ≤ L.length → ∀ acc : List Hurdle, acc.length ≤ i → Ev (fun k => spec_l03Open.l1 p m L k acc (i : Int)) (acc ++ (L.drop i).filter fun h => dif T h && !stH p h) := by
 obtain ⟨w1, w2⟩ := okW_iff.1 hw
 refine upL ?_ ?_
 ·intro acc ha
  exact Ev.step (fun k => spec_l03Open.l1.eq_2 _ _ _ _ _ _) (Ev.neg (by omega) (Ev.const (by simp)))
 intro i hi ih acc ha
 obtain ⟨x, y, s, hx, hy, hb, e⟩ := hL _ (List.getElem_mem hi)
 obtain ⟨x', y', hx', hy', e1, _⟩ := hu_sides hw hx hy hb
 have g : getI L (i : Int) = some (hu x y s) := (getI_nat hi).trans (congrArg some e)
 have gm : ∀ b a : Nat, a < p.Wide.toNat → b < p.High.toNat → getI m.l (sp a b).Y = some (bR m b) ∧ getI (bR m b).l (sp a b).X = some (decide (sp a b ∈ T)) := fun b a ha hb => ⟨bR_get m (by omega), by
   rw [← hm b a (by omega) (by omega)]; exact bA_get _ (by omega)⟩
 have hd : dif T (hu x y s) = (decide (sp x y ∈ T) != decide (sp x' y' ∈ T)) := by
   unfold dif
   rw [show (hu x y s).At = sp x y from rfl, show (hu x y s).South = s from rfl, e1]
 have hst : stH p (hu x y s) = stB p x y s := rfl
 have hs := specSt_eq v hw (x := x) (y := y) (by omega) (by omega) hb
 rw [List.drop_eq_getElem_cons hi, e, List.filter_cons]
 have hh : Ev (fun k => (getI L (i : Int)).bind fun t21 => (getI L (i : Int)).bind fun t22 => (getI m.l t21.At.Y).bind fun t23 => (getI t23.l t22.At.X).bind fun t24 => (getI m.l (sp x' y').Y).bind fun t25 => (getI t25.l (sp x' y').X).bind fun t26 => if t24 ≠ t26 then ((getI L (i : Int)).bind fun t27 => (spec_l03Stands.f p t27).bind fun t28 => some (!t28)) else (some false)) (dif T (hu x y s) && !stH p (hu x y s)) := by
   refine Ev.bind (Ev.const g) (Ev.bind (Ev.const g) (Ev.bind (Ev.const (gm y x hx hy).1) (Ev.bind (Ev.const (gm y x hx hy).2) (Ev.bind (Ev.const (gm y' x' hx' hy').1) (Ev.bind (Ev.const (gm y' x' hx' hy').2) ?_)))))
   rw [hd, hst]
   by_cases c : decide (sp x y ∈ T) = decide (sp x' y' ∈ T)
   · refine Ev.neg (by simpa using c) (Ev.const ?_)
     rw [c]; simp
   · refine Ev.pos c (Ev.bind (Ev.const g) (Ev.bind (Ev.const hs) (Ev.const ?_)))
     rw [show (decide (sp x y ∈ T) != decide (sp x' y' ∈ T)) = true by simpa using c, Bool.true_and]
 refine Ev.step (fun k => spec_l03Open.l1.eq_2 _ _ _ _ _ _) (Ev.pos (by omega) (Ev.bind (Ev.const g) (Ev.bind (Ev.const g) (Ev.bind (Ev.const (side_eq _)) (Ev.bind (Ev.const ((next_eq _ _).trans (congrArg some e1))) (Ev.bind hh ?_))))))
 by_cases c : (dif T (hu x y s) && !stH p (hu x y s)) = true
 ·rw [if_pos c]
  have l1 := ih (acc ++ [hu x y s]) (by simp; omega)
  rw [← wsucc hi (by omega), List.append_assoc] at l1
  exact Ev.pos c (Ev.bind (Ev.const g) (Ev.bind (Ev.const (chkT (by simp; omega))) l1))
 rw [if_neg c]
 have l1 := ih acc (by omega)
 rw [← wsucc hi (by omega)] at l1
 exact Ev.neg c l1
theorem specOpen_ev (v : VPasture p) (hw : okW p = true) {T : List Spot} {m : Bt} (hm : ∀ y x, y < 10 → x < 10 → b2 m y x = decide (sp x y ∈ T)) : Ev (fun k => spec_l03Open.f k p m) (OS p T) := by
 obtain ⟨w1, w2⟩ := okW_iff.1 hw
 have h1 := gridH_len p p.Wide.toNat p.High.toNat 0
 have h2 : 2 * p.Wide.toNat * p.High.toNat ≤ 20 * 10 := Nat.mul_le_mul (by omega) (by omega)
 have h3 := open_loop v hw hm (L := gridH p p.Wide.toNat 0 p.High.toNat) (fun h hh => gridH_mem.1 hh) (by omega) 0 (Nat.zero_le _) [] (Nat.zero_le _)
 rw [List.nil_append, List.drop_zero] at h3
 exact (specAllH_ev v hw).bind (h3.bind (Ev.const rfl))
end Go.Proofs.YtegibnmfiogebaaGreat
/-
  Plain law: the first one of the shortest ways, by the program and by the reference.
-/
namespace Go.Proofs.YtegibnmfiogebaaGreat
open G
set_option linter.unusedVariables false
set_option linter.unusedSimpArgs false
theorem besideI_ev {p : Pasture} (v : VPasture p) (hw : okW p = true) {x y : Nat} (hx : x < 10) (hy : y < 10) : Ev (fun k => impl_Pasture_beside.f k p (sp x y)) (nbs p x y 4 0) := by
 have key : ∀ i, i ≤ 4 → ∀ acc : List Spot, acc.length ≤ i → Ev (fun k => impl_Pasture_beside.l1 p (sp x y) k acc (i : Int)) (acc ++ nbs p x y (4 - i) i) := by
   refine upL ?_ ?_
   · intro acc ha
     refine Ev.step (fun k => impl_Pasture_beside.l1.eq_2 _ _ _ _ _) (Ev.neg (by omega) (Ev.const ?_))
     simp [nbs]
   · intro i hi ih acc ha
     refine Ev.step (fun k => impl_Pasture_beside.l1.eq_2 _ _ _ _ _) (Ev.pos (by omega) (Ev.bind (Ev.const (canGo_eq v hw hx hy hi)) ?_))
     rw [nbs_step p x y hi, wsucc hi (by omega)]
     cases ho : openB p x y i
     · refine Ev.neg (by simp) ?_
       simpa using ih acc (by omega)
     · refine Ev.pos rfl (Ev.bind (Ev.const (ahead_eq _ _)) (Ev.bind (Ev.const (chkT (by simp; omega))) ?_))
       have := ih (acc ++ [nx (sp x y) (i : Int)]) (by simp; omega)
       rw [List.append_assoc] at this
       rw [if_pos rfl]; exact this
 have := key 0 (Nat.zero_le _) [] (by simp)
 rw [List.nil_append] at this
 exact this.bind (Ev.const rfl)
/-- The cells beside are those to which a step goes. -/
theorem nbs_mem {p : Pasture} (hw : okW p = true) {x y : Nat} {s : Spot} : ∀ n i, i + n ≤ 4 → s ∈ nbs p x y n i → ∃ x' y', x' < 10 ∧ y' < 10 ∧ s = sp x' y' ∧ stepP p y x y' x'
  | 0, i, _, h => by simp [nbs] at h
  | n + 1, i, hn, h => by
    have e := nbs_step p x y (show i < 4 by omega)
    unfold nbs at h
    rcases List.mem_append.1 h with h | h
    · cases ho : openB p x y i
      · rw [ho] at h; simp at h
      · rw [ho, if_pos rfl] at h
        have hc : cellB p (nx (sp x y) (i : Int)).X (nx (sp x y) (i : Int)).Y = true := by
          have := ho
          unfold openB at this
          rw [Bool.and_eq_true] at this
          exact this.1
        obtain ⟨x', y', hx', hy', e⟩ := cellB_nat hw hc
        exact ⟨x', y', hx', hy', (List.mem_singleton.1 h).trans e, hy', hx', i, by omega, ho, e⟩
    · exact nbs_mem hw n (i + 1) (by omega) h
theorem mem_nbs {p : Pasture} {x y x' y' : Nat} (h : stepP p y x y' x') : ∀ n i, i + n = 4 → (∃ j, i ≤ j ∧ j < 4 ∧ openB p x y j = true ∧ nx (sp x y) (j : Int) = sp x' y') → sp x' y' ∈ nbs p x y n i
  | 0, i, hi, ⟨j, h1, h2, _⟩ => by omega
  | n + 1, i, hi, ⟨j, h1, h2, h3, h4⟩ => by
    unfold nbs
    refine List.mem_append.2 ?_
    by_cases e : j = i
    · subst e
      left
      rw [h3, if_pos rfl, h4]; simp
    · right
      exact mem_nbs h n (i + 1) (by omega) ⟨j, by omega, h2, h3, h4⟩
theorem nbs_iff {p : Pasture} (hw : okW p = true) {x y x' y' : Nat} : sp x' y' ∈ nbs p x y 4 0 ↔ stepP p y x y' x' := by
 constructor
 ·intro h
  obtain ⟨a, b, ha, hb, e, hs⟩ := nbs_mem hw 4 0 (by omega) h
  obtain ⟨rfl, rfl⟩ := sp_inj' e
  exact hs
 intro h
 obtain ⟨h1, h2, j, h3, h4, h5⟩ := id h
 exact mem_nbs h 4 0 rfl ⟨j, Nat.zero_le _, h3, h4, h5⟩
/-! ### The least one -/
end Go.Proofs.YtegibnmfiogebaaGreat
/-
  Plain law: sets of cells that grow from one: the list of all of a size.
-/
namespace Go.Proofs.YtegibnmfiogebaaGreat
open G
set_option linter.unusedVariables false
set_option linter.unusedSimpArgs false
variable {W H : Nat} {p q : Pasture} {Gr : Nat → Nat → Int} {E S : Nat → Nat → Bool} {s : Spot}
def nbL (p : Pasture) (s : Spot) : List Spot := nbs p s.X.toNat s.Y.toNat 4 0
theorem nbL_len (s : Spot) : (nbL p s).length ≤ 4 := nbs_len p _ _ 4 0
theorem nbL_iff (hw : okW p = true) {x y x' y' : Nat} : sp x' y' ∈ nbL p (sp x y) ↔ stepP p y x y' x' := nbs_iff hw
theorem nbL_in (hw : okW p = true) {x y : Nat} {t : Spot} (h : t ∈ nbL p (sp x y)) : ∃ x' y', x' < p.Wide.toNat ∧ y' < p.High.toNat ∧ t = sp x' y' ∧ stepP p y x y' x' := by
 obtain ⟨x', y', _, _, e, hs⟩ := nbs_mem hw 4 0 (by omega) (show t ∈ nbs p x y 4 0 from h)
 have := (cellB_sp hw).1 (hs.cell hw)
 exact ⟨x', y', this.1, this.2, e, hs⟩
/-- A set that grows from one cell, in the order of its growing. -/
inductive Gw (p : Pasture) (s : Spot) : List Spot → Prop
  | one : Gw p s [s]
  | add {L : List Spot} {a t : Spot} : Gw p s L → a ∈ L → t ∈ nbL p a → t ∉ L → Gw p s (L ++ [t])
theorem Gw.start {L : List Spot} (h : Gw p s L) : s ∈ L := by
  induction h with
  | one => exact List.mem_singleton.2 rfl
  | add _ _ _ _ ih => exact List.mem_append_left _ ih
theorem nodup_snoc {L : List Spot} {t : Spot} (h : L.Nodup) (ht : t ∉ L) : (L ++ [t]).Nodup :=
  List.nodup_append.2 ⟨h, by simp, fun a ha b hb e => by rw [List.mem_singleton.1 hb] at e; subst e; exact ht ha⟩
theorem Gw.nodup {L : List Spot} (h : Gw p s L) : L.Nodup := by
  induction h with
  | one => simp
  | add _ _ _ h ih => exact nodup_snoc ih h
theorem Gw.inP (hw : okW p = true) (hs : inP p [s]) {L : List Spot} (h : Gw p s L) : inP p L := by
  induction h with
  | one => exact hs
  | add _ ha ht _ ih =>
    intro z hz
    rcases List.mem_append.1 hz with hz | hz
    · exact ih z hz
    · obtain ⟨x, y, _, _, rfl⟩ := ih _ ha
      obtain ⟨x', y', h1, h2, h3, _⟩ := nbL_in hw ht
      exact ⟨x', y', h1, h2, (List.mem_singleton.1 hz).trans h3⟩
theorem inP_ord {L : List Spot} (h : inP p L) : inP p (ord L) := fun z hz => h z (ord_mem.1 hz)
/-! ### Keys -/
def kb (l : List Spot) : List Int := l.flatMap fun s => [s.X, s.Y]
def keyS (l : List Spot) : ByteArray := bstr (kb l)
theorem bstr_push (xs : List Int) : ∀ b : ByteArray, (xs.foldl (fun r n => r.push (UInt8.ofNat n.toNat)) b).data.toList = b.data.toList ++ xs.map fun n => UInt8.ofNat n.toNat := by
  induction xs with
  | nil => intro b; simp
  | cons x xs ih => intro b; rw [List.foldl_cons, ih]; simp [ByteArray.push]
theorem bstr_inj {a b : List Int} (ha : ∀ x ∈ a, 0 ≤ x ∧ x ≤ 255) (hb : ∀ x ∈ b, 0 ≤ x ∧ x ≤ 255) (h : bstr a = bstr b) : a = b := by
  have e : a.map (fun n => UInt8.ofNat n.toNat) = b.map (fun n => UInt8.ofNat n.toNat) := by
    have := congrArg (fun z : ByteArray => z.data.toList) h
    simp only [bstr, bstr_push] at this
    simpa using this
  clear h
  induction a generalizing b with
  | nil => cases b with
    | nil => rfl
    | cons _ _ => simp at e
  | cons x a ih => cases b with
    | nil => simp at e
    | cons y b =>
      rw [List.map_cons, List.map_cons, List.cons.injEq] at e
      have h1 := ha x (List.mem_cons_self ..)
      have h2 := hb y (List.mem_cons_self ..)
      have e1 := congrArg UInt8.toNat e.1
      rw [UInt8.toNat_ofNat', UInt8.toNat_ofNat', Nat.mod_eq_of_lt (by omega), Nat.mod_eq_of_lt (by omega)] at e1
      rw [ih (fun z hz => ha z (List.mem_cons_of_mem _ hz)) (fun z hz => hb z (List.mem_cons_of_mem _ hz)) e.2, show x = y by omega]
theorem kb_in {l : List Spot} (h : ∀ s ∈ l, cellIn s) : ∀ x ∈ kb l, 0 ≤ x ∧ x ≤ 255 := fun x hx => by
  obtain ⟨s, hs, h2⟩ := List.mem_flatMap.1 hx
  obtain ⟨a, b, ha, hb, rfl⟩ := h s hs
  simp only [List.mem_cons, List.not_mem_nil, or_false] at h2
  rcases h2 with rfl | rfl <;> omega
theorem kb_inj : ∀ {a b : List Spot}, kb a = kb b → a = b
  | [], [], _ => rfl
  | [], y :: b, h => by simp [kb] at h
  | x :: a, [], h => by simp [kb] at h
  | x :: a, y :: b, h => by
    have h1 : [x.X, x.Y] ++ kb a = [y.X, y.Y] ++ kb b := h
    simp only [List.cons_append, List.nil_append, List.cons.injEq] at h1
    rw [kb_inj h1.2.2, spot_ext h1.1 h1.2.1]
theorem keyS_inj {a b : List Spot} (ha : ∀ s ∈ a, cellIn s) (hb : ∀ s ∈ b, cellIn s) (h : keyS a = keyS b) : a = b := kb_inj (bstr_inj (kb_in ha) (kb_in hb) h)
theorem wu8 {x : Nat} (h : x < 10) : IntKind.u8.wrap (x : Int) = (x : Int) := by
 have : ∀ n : Fin 10, IntKind.u8.wrap ((n : Nat) : Int) = (n : Nat) := by decide +kernel
 exact this ⟨x, h⟩
theorem key_loop {Z : List Spot} (hc : ∀ s ∈ Z, cellIn s) (hl : Z.length ≤ 1000) : ∀ i, i ≤ Z.length → ∀ acc : List Int, acc.length ≤ 2 * i → Ev (fun k => impl_keyOf.l1 Z k acc (i : Int)) (acc ++ kb (Z.drop i)) := by
 refine upL ?_ ?_
 ·intro acc ha
  exact Ev.step (fun k => impl_keyOf.l1.eq_2 _ _ _ _) (Ev.neg (by omega) (Ev.const (by simp [kb])))
 intro i hi ih acc ha
 obtain ⟨x, y, hx, hy, e⟩ := hc _ (List.getElem_mem hi)
 have l1 := ih (acc ++ [(x : Int), (y : Int)]) (by simp; omega)
 rw [← wsucc hi (by omega), List.append_assoc] at l1
 rw [List.drop_eq_getElem_cons hi, e]
 refine Ev.step (fun k => impl_keyOf.l1.eq_2 _ _ _ _) (Ev.pos (by omega) (Ev.bind (Ev.const ((getI_nat hi).trans (congrArg some e))) (Ev.bind (Ev.const (chkT (by simp; omega))) ?_)))
 simp only [wu8 hx, wu8 hy]
 exact l1
theorem key_ev {Z : List Spot} (hc : ∀ s ∈ Z, cellIn s) (hl : Z.length ≤ 1000) : Ev (fun k => impl_keyOf.f k Z) (keyS Z) := (key_loop hc hl 0 (Nat.zero_le _) [] (Nat.zero_le _)).bind (Ev.const rfl)
/-! ### One round of growing -/
theorem hasK_t {α : Type} [DecidableEq α] {met : List α} {k : α} (h : k ∈ met) : hasK met k = true := by unfold hasK; exact decide_eq_true h
theorem hasK_f {α : Type} [DecidableEq α] {met : List α} {k : α} (h : k ∉ met) : hasK met k = false := by unfold hasK; exact decide_eq_false h
structure MI (p : Pasture) (ys : List (List Spot)) (met : List ByteArray) : Prop where
  cells : ∀ Z ∈ ys, inP p Z
  keys : ∀ k, k ∈ met ↔ ∃ Z ∈ ys, k = keyS Z
theorem addS_mem {met : List ByteArray} {k k' : ByteArray} : k' ∈ addS met k ↔ k' ∈ met ∨ k' = k := by
 unfold addS
 split
 ·rename_i h
  constructor
  ·exact .inl
  rintro (h1 | rfl)
  ·exact h1
  exact h
 simp
theorem grow4 (hw : okW p = true) {T N : List Spot} (hT : inP p T) (hs : T.Pairwise bef) (hl : T.length ≤ 100) (hN : inP p N) (hNl : N.length ≤ 4) : ∀ i, i ≤ N.length → ∀ (ys : List (List Spot)) (met : List ByteArray), MI p ys met → ys.length ≤ 1000000 + i →
 ∃ ys' met', Ev (fun k => impl_SmallYard.l4 T N k ys met (i : Int)) (ys', met') ∧ MI p ys' met' ∧ ys'.length ≤ ys.length + (N.length - i) ∧ ∀ Z, Z ∈ ys' ↔ Z ∈ ys ∨ ∃ n ∈ N.drop i, n ∉ T ∧ Z = ord (T ++ [n]) := by
 refine upL ?_ ?_
 ·intro ys met hM hy
  exact ⟨ys, met, Ev.step (fun k => impl_SmallYard.l4.eq_2 _ _ _ _ _ _) (Ev.neg (by omega) (Ev.const rfl)), hM, by omega, fun Z => by simp⟩
 intro i hi ih ys met hM hy
 have hcl : slices_Clone_impl_Spot_impl_Spot.f T = some T := by
   unfold slices_Clone_impl_Spot_impl_Spot.f
   rw [chkT (by simp; omega)]; rfl
 have hin : inP p (T ++ [N[i]]) := fun z hz => by
   rcases List.mem_append.1 hz with hz | hz
   · exact hT z hz
   · rw [List.mem_singleton.1 hz]; exact hN _ (List.getElem_mem hi)
 have ho := ord_ev (hin.cellIn hw) (by simp; omega)
 have hoc := inP_ord hin
 have hol : (ord (T ++ [N[i]])).length ≤ 1000 := by
   by_cases c : N[i] ∈ T
   · have : ord (T ++ [N[i]]) = T := (ord_eq (b := T) fun z => by
       rw [List.mem_append, List.mem_singleton]
       exact ⟨fun h => h.elim id fun e => e ▸ c, .inl⟩).trans (ord_id hs)
     rw [this]; omega
   · rw [ord_len (nodup_snoc (nodup_bef hs) c)]; simp; omega
 have hk := key_ev (hoc.cellIn hw) hol
 rw [List.drop_eq_getElem_cons hi]
 have go : ∀ (b : Bool) {r}, (if (T.length : Int) < ((ord (T ++ [N[i]])).length : Int) then (some (!(hasK met (keyS (ord (T ++ [N[i]])))))) else (some false)) = some b → Ev (fun k => if b = true then ((chk (ys.length + [ord (T ++ [N[i]])].length ≤ 4294967296)).bind fun _ => impl_SmallYard.l4 T N k (ys ++ [ord (T ++ [N[i]])]) (addS met (keyS (ord (T ++ [N[i]])))) (IntKind.i64.wrap ((i : Int) + 1))) else impl_SmallYard.l4 T N k ys met (IntKind.i64.wrap ((i : Int) + 1))) r → Ev (fun k => impl_SmallYard.l4 T N k ys met (i : Int)) r := fun b r hb h =>
   Ev.step (fun k => impl_SmallYard.l4.eq_2 _ _ _ _ _ _) (Ev.pos (by omega) (Ev.bind (Ev.const (getI_nat hi)) (Ev.bind (Ev.const hcl) (Ev.bind (Ev.const (chkT (by simp; omega))) (ho.bind (hk.bind (Ev.bind (Ev.const hb) h)))))))
 by_cases c : N[i] ∈ T
 ·have e : ord (T ++ [N[i]]) = T := (ord_eq (b := T) fun z => by
    rw [List.mem_append, List.mem_singleton]
    exact ⟨fun h => h.elim id fun e => e ▸ c, .inl⟩).trans (ord_id hs)
  obtain ⟨ys', met', h1, h2, h3, h4⟩ := ih ys met hM (by omega)
  rw [← wsucc hi (by omega)] at h1
  refine ⟨ys', met', go false (by rw [e, if_neg (by omega)]) (Ev.neg (by simp) h1), h2, by omega, fun Z => ?_⟩
  rw [h4]
  constructor
  ·rintro (h | ⟨n, h5, h6⟩)
   ·exact .inl h
   exact .inr ⟨n, List.mem_cons_of_mem _ h5, h6⟩
  rintro (h | ⟨n, h5, h6⟩)
  ·exact .inl h
  rcases List.mem_cons.1 h5 with rfl | h5
  ·exact absurd c h6.1
  exact .inr ⟨n, h5, h6⟩
 have el : (ord (T ++ [N[i]])).length = T.length + 1 := by rw [ord_len (nodup_snoc (nodup_bef hs) c)]; simp
 by_cases d : keyS (ord (T ++ [N[i]])) ∈ met
 ·obtain ⟨ys', met', h1, h2, h3, h4⟩ := ih ys met hM (by omega)
  rw [← wsucc hi (by omega)] at h1
  obtain ⟨Z0, z1, z2⟩ := (hM.keys _).1 d
  have z3 := keyS_inj (hoc.cellIn hw) ((hM.cells Z0 z1).cellIn hw) z2
  refine ⟨ys', met', go false (by rw [if_pos (by omega), hasK_t d]; rfl) (Ev.neg (by simp) h1), h2, by omega, fun Z => ?_⟩
  rw [h4]
  constructor
  ·rintro (h | ⟨n, h5, h6⟩)
   ·exact .inl h
   exact .inr ⟨n, List.mem_cons_of_mem _ h5, h6⟩
  rintro (h | ⟨n, h5, h6⟩)
  ·exact .inl h
  rcases List.mem_cons.1 h5 with rfl | h5
  ·left; rw [h6.2, z3]; exact z1
  exact .inr ⟨n, h5, h6⟩
 have hM' : MI p (ys ++ [ord (T ++ [N[i]])]) (addS met (keyS (ord (T ++ [N[i]])))) := by
   refine ⟨fun Z hZ => ?_, fun k => ?_⟩
   · rcases List.mem_append.1 hZ with hZ | hZ
     · exact hM.cells Z hZ
     · rw [List.mem_singleton.1 hZ]; exact hoc
   · rw [addS_mem, hM.keys]
     constructor
     · rintro (⟨Z, h5, h6⟩ | h)
       · exact ⟨Z, List.mem_append_left _ h5, h6⟩
       · exact ⟨_, List.mem_append_right _ (List.mem_singleton.2 rfl), h⟩
     · rintro ⟨Z, h5, h6⟩
       rcases List.mem_append.1 h5 with h5 | h5
       · exact .inl ⟨Z, h5, h6⟩
       · rw [List.mem_singleton.1 h5] at h6; exact .inr h6
 obtain ⟨ys', met', h1, h2, h3, h4⟩ := ih _ _ hM' (by simp; omega)
 rw [← wsucc hi (by omega)] at h1
 refine ⟨ys', met', go true (by rw [if_pos (by omega), hasK_f d]; rfl) (Ev.pos rfl (Ev.bind (Ev.const (chkT (by simp; omega))) h1)), h2, by rw [List.length_append] at h3; simp at h3; omega, fun Z => ?_⟩
 rw [h4]
 constructor
 ·rintro (h | ⟨n, h5, h6⟩)
  ·rcases List.mem_append.1 h with h | h
   ·exact .inl h
   exact .inr ⟨_, List.mem_cons_self .., c, List.mem_singleton.1 h⟩
  exact .inr ⟨n, List.mem_cons_of_mem _ h5, h6⟩
 rintro (h | ⟨n, h5, h6⟩)
 ·exact .inl (List.mem_append_left _ h)
 rcases List.mem_cons.1 h5 with rfl | h5
 ·exact .inl (List.mem_append_right _ (List.mem_singleton.2 h6.2))
 exact .inr ⟨n, h5, h6⟩
end Go.Proofs.YtegibnmfiogebaaGreat
/-
  Plain law: all sets of a size, round by round.
-/
namespace Go.Proofs.YtegibnmfiogebaaGreat
open G
set_option linter.unusedVariables false
set_option linter.unusedSimpArgs false
variable {W H : Nat} {p q : Pasture} {Gr : Nat → Nat → Int} {E S : Nat → Nat → Bool} {s : Spot}
theorem nbL_inP (hw : okW p = true) {T : List Spot} (hT : inP p T) {a : Spot} (ha : a ∈ T) : inP p (nbL p a) := fun z hz => by
  obtain ⟨x, y, _, _, rfl⟩ := hT a ha
  obtain ⟨x', y', h1, h2, h3, _⟩ := nbL_in hw hz
  exact ⟨x', y', h1, h2, h3⟩
theorem besideN_ev (v : VPasture p) (hw : okW p = true) {T : List Spot} (hT : inP p T) {a : Spot} (ha : a ∈ T) : Ev (fun k => impl_Pasture_beside.f k p a) (nbL p a) ∧ Ev (fun k => spec_l01Beside.f k p a) (nbL p a) := by
 obtain ⟨w1, w2⟩ := okW_iff.1 hw
 obtain ⟨x, y, hx, hy, rfl⟩ := hT a ha
 exact ⟨besideI_ev v hw (by omega) (by omega), beside_ev v hw (by omega) (by omega)⟩
theorem grow3 (v : VPasture p) (hw : okW p = true) {T : List Spot} (hT : inP p T) (hs : T.Pairwise bef) (hl : T.length ≤ 5) : ∀ j, j ≤ T.length → ∀ (ys : List (List Spot)) (met : List ByteArray), MI p ys met → ys.length ≤ 900000 + 4 * j →
 ∃ ys' met', Ev (fun k => impl_SmallYard.l3 p T k ys met (j : Int)) (ys', met') ∧ MI p ys' met' ∧ ys'.length ≤ ys.length + 4 * (T.length - j) ∧ ∀ Z, Z ∈ ys' ↔ Z ∈ ys ∨ ∃ a ∈ T.drop j, ∃ n ∈ nbL p a, n ∉ T ∧ Z = ord (T ++ [n]) := by
 refine upL ?_ ?_
 ·intro ys met hM hy
  exact ⟨ys, met, Ev.step (fun k => impl_SmallYard.l3.eq_2 _ _ _ _ _ _) (Ev.neg (by omega) (Ev.const rfl)), hM, by omega, fun Z => by simp⟩
 intro j hj ih ys met hM hy
 have ha := List.getElem_mem hj
 have hb := (besideN_ev v hw hT ha).1
 have hn := nbL_len (p := p) T[j]
 obtain ⟨y1, m1, a1, a2, a3, a4⟩ := grow4 hw hT hs (by omega) (nbL_inP hw hT ha) hn 0 (Nat.zero_le _) ys met hM (by omega)
 obtain ⟨y2, m2, b1, b2, b3, b4⟩ := ih y1 m1 a2 (by omega)
 rw [← wsucc hj (by omega)] at b1
 refine ⟨y2, m2, Ev.step (fun k => impl_SmallYard.l3.eq_2 _ _ _ _ _ _) (Ev.pos (by omega) (Ev.bind (a := (y1, m1)) (Ev.bind (Ev.const (getI_nat hj)) (hb.bind (a1.bind (Ev.const rfl)))) b1)), b2, by omega, fun Z => ?_⟩
 rw [b4, a4, List.drop_zero, List.drop_eq_getElem_cons hj]
 constructor
 ·rintro ((h | h) | ⟨a, h1, h2⟩)
  ·exact .inl h
  ·exact .inr ⟨_, List.mem_cons_self .., h⟩
  exact .inr ⟨a, List.mem_cons_of_mem _ h1, h2⟩
 rintro (h | ⟨a, h1, h2⟩)
 ·exact .inl (.inl h)
 rcases List.mem_cons.1 h1 with rfl | h1
 ·exact .inl (.inr h2)
 exact .inr ⟨a, h1, h2⟩
theorem grow2 (v : VPasture p) (hw : okW p = true) {Ws : List (List Spot)} (hW : ∀ T ∈ Ws, inP p T ∧ T.Pairwise bef ∧ T.length ≤ 5) (hl : Ws.length ≤ 20000) : ∀ i, i ≤ Ws.length → ∀ (ys : List (List Spot)) (met : List ByteArray), MI p ys met → ys.length ≤ 20 * i →
 ∃ ys', Ev (fun k => impl_SmallYard.l2 p Ws k ys met (i : Int)) ys' ∧ ys'.length ≤ ys.length + 20 * (Ws.length - i) ∧ ∀ Z, Z ∈ ys' ↔ Z ∈ ys ∨ ∃ T ∈ Ws.drop i, ∃ a ∈ T, ∃ n ∈ nbL p a, n ∉ T ∧ Z = ord (T ++ [n]) := by
 refine upL ?_ ?_
 ·intro ys met hM hy
  exact ⟨ys, Ev.step (fun k => impl_SmallYard.l2.eq_2 _ _ _ _ _ _) (Ev.neg (by omega) (Ev.const rfl)), by omega, fun Z => by simp⟩
 intro i hi ih ys met hM hy
 have ha := List.getElem_mem hi
 obtain ⟨t1, t2, t3⟩ := hW _ ha
 obtain ⟨y1, m1, a1, a2, a3, a4⟩ := grow3 v hw t1 t2 t3 0 (Nat.zero_le _) ys met hM (by omega)
 obtain ⟨y2, b1, b3, b4⟩ := ih y1 m1 a2 (by omega)
 rw [← wsucc hi (by omega)] at b1
 refine ⟨y2, Ev.step (fun k => impl_SmallYard.l2.eq_2 _ _ _ _ _ _) (Ev.pos (by omega) (Ev.bind (a := (y1, m1)) (Ev.bind (Ev.const (getI_nat hi)) (a1.bind (Ev.const rfl))) b1)), by omega, fun Z => ?_⟩
 rw [b4, a4, List.drop_zero, List.drop_eq_getElem_cons hi]
 constructor
 ·rintro ((h | h) | ⟨a, h1, h2⟩)
  ·exact .inl h
  ·exact .inr ⟨_, List.mem_cons_self .., h⟩
  exact .inr ⟨a, List.mem_cons_of_mem _ h1, h2⟩
 rintro (h | ⟨a, h1, h2⟩)
 ·exact .inl (.inl h)
 rcases List.mem_cons.1 h1 with rfl | h1
 ·exact .inl (.inr h2)
 exact .inr ⟨a, h1, h2⟩
/-- All sets of a size that grow from the cell, told in order. -/
structure Rd (p : Pasture) (s : Spot) (r : Nat) (ys : List (List Spot)) : Prop where
  all : ∀ Z, Z ∈ ys ↔ ∃ L, Gw p s L ∧ L.length = r + 1 ∧ Z = ord L
  few : ys.length ≤ 20 ^ r
theorem Rd.in_ (hw : okW p = true) (hs : inP p [s]) {r : Nat} {ys : List (List Spot)} (h : Rd p s r ys) {T : List Spot} (hT : T ∈ ys) : inP p T ∧ T.Pairwise bef ∧ T.length = r + 1 := by
 obtain ⟨L, h1, h2, rfl⟩ := (h.all T).1 hT
 exact ⟨inP_ord (h1.inP hw hs), ord_srt L, by rw [ord_len h1.nodup, h2]⟩
theorem Rd.start : Rd p s 0 [[s]] := by
  refine ⟨fun Z => ?_, Nat.le_refl _⟩
  rw [List.mem_singleton]
  constructor
  · rintro rfl
    exact ⟨[s], .one, rfl, (ord_id (List.pairwise_singleton _ _)).symm⟩
  rintro ⟨L, h1, h2, rfl⟩
  cases h1 with
  | one => exact ord_id (List.pairwise_singleton _ _)
  | add h _ _ _ =>
    have h3 := List.length_pos_of_mem h.start
    rw [List.length_append, List.length_singleton] at h2
    omega
theorem rounds (v : VPasture p) (hw : okW p = true) (hs : inP p [s]) {n : Nat} (h1 : 1 ≤ n) (h6 : n ≤ 5) : ∀ r, r ≤ n - 1 → ∀ ys, Rd p s r ys → ∃ ys', Rd p s (n - 1) ys' ∧ Ev (fun k => impl_SmallYard.l1 p (n : Int) k ys (r : Int)) ys' := by
 have en : IntKind.i64.wrap ((n : Int) - 1) = ((n - 1 : Nat) : Int) := by rw [w64 (by omega) (by omega)]; omega
 refine upL ?_ ?_
 ·intro ys h
  exact ⟨ys, h, Ev.step (fun k => impl_SmallYard.l1.eq_2 _ _ _ _ _) (Ev.neg (by rw [en]; omega) (Ev.const rfl))⟩
 intro r hr ih ys h
 have h20 : 20 ^ r ≤ 20 ^ 3 := Nat.pow_le_pow_right (by omega) (by omega)
 have hf := h.few
 obtain ⟨y1, a1, a3, a4⟩ := grow2 v hw (Ws := ys) (fun T hT => by
   obtain ⟨x1, x2, x3⟩ := h.in_ hw hs hT
   exact ⟨x1, x2, by omega⟩) (by omega) 0 (Nat.zero_le _) [] [] ⟨fun Z hZ => by simp at hZ, fun k => by simp⟩ (Nat.zero_le _)
 have hn : Rd p s (r + 1) y1 := by
   refine ⟨fun Z => ?_, by rw [Nat.pow_succ]; simp at a3; omega⟩
   rw [a4]
   simp only [List.not_mem_nil, false_or, List.drop_zero]
   constructor
   · rintro ⟨T, hT, a, ha, m, hm, hmT, rfl⟩
     obtain ⟨L, l1, l2, rfl⟩ := (h.all T).1 hT
     refine ⟨L ++ [m], .add l1 (ord_mem.1 ha) hm (fun e => hmT (ord_mem.2 e)), by simp [l2], ord_eq fun z => ?_⟩
     rw [List.mem_append, List.mem_append, ord_mem]
   · rintro ⟨L', l1, l2, rfl⟩
     cases l1 with
     | one => simp at l2
     | @add L a m l1 ha hm hmL =>
       rw [List.length_append, List.length_singleton] at l2
       refine ⟨ord L, (h.all _).2 ⟨L, l1, by omega, rfl⟩, a, ord_mem.2 ha, m, hm, fun e => hmL (ord_mem.1 e), ord_eq fun z => ?_⟩
       rw [List.mem_append, List.mem_append, ord_mem]
 obtain ⟨y2, b1, b2⟩ := ih y1 hn
 rw [← wsucc (n := n - 1) hr (by omega)] at b2
 exact ⟨y2, b1, Ev.step (fun k => impl_SmallYard.l1.eq_2 _ _ _ _ _) (Ev.pos (by rw [en]; omega) (Ev.bind (a := y1) (a1.bind (Ev.const rfl)) b2))⟩
end Go.Proofs.YtegibnmfiogebaaGreat
/-
  Plain law: the least of the sets; lists compared, sorted by hand.
-/
namespace Go.Proofs.YtegibnmfiogebaaGreat
open G
set_option linter.unusedVariables false
set_option linter.unusedSimpArgs false
variable {W H : Nat} {p q : Pasture} {Gr : Nat → Nat → Int} {E S : Nat → Nat → Bool} {s : Spot}
/-! ### The order of lists -/
def lexS : List Spot → List Spot → Prop
  | a :: l, b :: m => bef a b ∨ (a = b ∧ lexS l m)
  | _, _ => False
theorem lex_ir : ∀ l : List Spot, ¬ lexS l l
  | [], h => h
  | a :: l, h => by rcases h with h | h; exact bef_ir a h; exact lex_ir l h.2
theorem lex_as : ∀ {l m : List Spot}, lexS l m → lexS m l → False
  | [], _, h, _ => by cases h
  | _ :: _, [], h, _ => by cases h
  | a :: l, b :: m, h, k => by
    rcases h with h | ⟨e, h⟩ <;> rcases k with k | ⟨e', k⟩
    · exact bef_as h k
    · subst e'; exact bef_ir _ h
    · subst e; exact bef_ir _ k
    · exact lex_as h k
theorem lex_tr : ∀ {l m n : List Spot}, lexS l m → lexS m n → lexS l n
  | [], _, _, h, _ => by cases h
  | _ :: _, [], _, h, _ => by cases h
  | _ :: _, _ :: _, [], _, k => by cases k
  | a :: l, b :: m, c :: n, h, k => by
    rcases h with h | ⟨e, h⟩ <;> rcases k with k | ⟨e', k⟩
    · exact .inl (bef_tr h k)
    · subst e'; exact .inl h
    · subst e; exact .inl k
    · exact .inr ⟨e.trans e', lex_tr h k⟩
theorem lex_tot : ∀ {l m : List Spot}, l.length = m.length → lexS l m ∨ l = m ∨ lexS m l
  | [], [], _ => .inr (.inl rfl)
  | [], _ :: _, h => by simp at h
  | _ :: _, [], h => by simp at h
  | a :: l, b :: m, h => by
    rcases bef_tot a b with k | k | k
    · exact .inl (.inl k)
    · subst k
      rcases lex_tot (l := l) (m := m) (by simpa using h) with k | k | k
      · exact .inl (.inr ⟨rfl, k⟩)
      · exact .inr (.inl (by rw [k]))
      · exact .inr (.inr (.inr ⟨rfl, k⟩))
    · exact .inr (.inr (.inl k))
theorem cmpS {a b : Spot} (ha : cellIn a) (hb : cellIn b) : ∃ z, impl_compareSpots.f a b = some z ∧ (z < 0 ↔ bef a b) ∧ (z = 0 ↔ a = b) := by
 obtain ⟨x, y, hx, hy, rfl⟩ := ha
 obtain ⟨x', y', hx', hy', rfl⟩ := hb
 unfold impl_compareSpots.f bef
 rw [w64 (x := (x : Int)) (by omega) (by omega), w64 (x := (y : Int)) (by omega) (by omega), w64 (x := (x' : Int)) (by omega) (by omega), w64 (x := (y' : Int)) (by omega) (by omega), w64 (x := (x : Int) - (x' : Int)) (by omega) (by omega), w64 (x := (y : Int) - (y' : Int)) (by omega) (by omega)]
 have e : (⟨(x : Int), (y : Int)⟩ : Spot) = ⟨(x' : Int), (y' : Int)⟩ ↔ (x : Int) = x' ∧ (y : Int) = y' := ⟨fun h => ⟨congrArg Spot.X h, congrArg Spot.Y h⟩, fun h => spot_ext h.1 h.2⟩
 rw [e]
 by_cases h : (y : Int) = (y' : Int)
 ·exact ⟨_, if_neg (by simp [h]), by show _ ↔ ((y : Int) < y' ∨ ((y : Int) = y' ∧ (x : Int) < x')); omega, by omega⟩
 exact ⟨_, if_pos h, by show _ ↔ ((y : Int) < y' ∨ ((y : Int) = y' ∧ (x : Int) < x')); omega, by omega⟩
theorem comp_loop {A B : List Spot} (hA : ∀ s ∈ A, cellIn s) (hB : ∀ s ∈ B, cellIn s) (he : A.length = B.length) (hl : A.length ≤ 1000) : ∀ i, i ≤ A.length → ∃ r : Int ⊕ Unit, Ev (fun k => slices_CompareFunc_impl_Spot_impl_Spot_impl_Spot_impl_Spot.l1 A B impl_compareSpots.f k (i : Int)) r ∧ ((∃ z, r = .inl z ∧ (z < 0 ↔ lexS (A.drop i) (B.drop i))) ∨ (r = .inr () ∧ A.drop i = B.drop i)) := by
 refine upL ?_ ?_
 ·refine ⟨.inr (), Ev.step (fun k => slices_CompareFunc_impl_Spot_impl_Spot_impl_Spot_impl_Spot.l1.eq_2 _ _ _ _ _) (Ev.neg (by omega) (Ev.const rfl)), .inr ⟨rfl, ?_⟩⟩
  rw [List.drop_length, he, List.drop_length]
 rintro i hi ⟨r, h1, h2⟩
 have hj : i < B.length := by omega
 rw [← wsucc hi (by omega)] at h1
 obtain ⟨z, z1, z2, z3⟩ := cmpS (hA _ (List.getElem_mem hi)) (hB _ (List.getElem_mem hj))
 rw [List.drop_eq_getElem_cons hi, List.drop_eq_getElem_cons hj]
 by_cases c : z = 0
 ·refine ⟨r, Ev.step (fun k => slices_CompareFunc_impl_Spot_impl_Spot_impl_Spot_impl_Spot.l1.eq_2 _ _ _ _ _) (Ev.pos (by omega) (Ev.bind (Ev.const (getI_nat hi)) (Ev.neg (by omega) (Ev.bind (Ev.const (getI_nat hj)) (Ev.bind (Ev.const z1) (Ev.neg (by simpa using c) h1)))))), ?_⟩
  have e := z3.1 c
  rcases h2 with ⟨w, w1, w2⟩ | ⟨w1, w2⟩
  ·refine .inl ⟨w, w1, w2.trans ⟨fun h => .inr ⟨e, h⟩, fun h => ?_⟩⟩
   rcases h with h | h
   ·rw [e] at h; exact absurd h (bef_ir _)
   exact h.2
  exact .inr ⟨w1, by rw [e, w2]⟩
 refine ⟨.inl z, Ev.step (fun k => slices_CompareFunc_impl_Spot_impl_Spot_impl_Spot_impl_Spot.l1.eq_2 _ _ _ _ _) (Ev.pos (by omega) (Ev.bind (Ev.const (getI_nat hi)) (Ev.neg (by omega) (Ev.bind (Ev.const (getI_nat hj)) (Ev.bind (Ev.const z1) (Ev.pos (by simpa using c) (Ev.const rfl))))))), .inl ⟨z, rfl, z2.trans ⟨fun h => .inl h, fun h => ?_⟩⟩⟩
 rcases h with h | h
 ·exact h
 exact absurd (z3.2 h.1) c
theorem comp_ev {A B : List Spot} (hA : ∀ s ∈ A, cellIn s) (hB : ∀ s ∈ B, cellIn s) (he : A.length = B.length) (hl : A.length ≤ 1000) : ∃ z, Ev (fun k => slices_CompareFunc_impl_Spot_impl_Spot_impl_Spot_impl_Spot.f k A B impl_compareSpots.f) z ∧ (z < 0 ↔ lexS A B) := by
 obtain ⟨r, h1, h2⟩ := comp_loop hA hB he hl 0 (Nat.zero_le _)
 rw [List.drop_zero, List.drop_zero] at h2
 rcases h2 with ⟨z, rfl, h⟩ | ⟨rfl, h⟩
 ·exact ⟨z, h1.bind (Ev.const rfl), h⟩
 refine ⟨0, h1.bind (Ev.neg (by omega) (Ev.const rfl)), ?_⟩
 rw [h]
 exact ⟨fun h => absurd h (by omega), fun h => absurd h (lex_ir _)⟩
instance (a b : Spot) : Decidable (bef a b) := inferInstanceAs (Decidable (_ ∨ _))
theorem getI_opt {α : Type} {xs : List α} {i : Nat} {v : α} (h : xs[i]? = some v) : getI xs (i : Int) = some v := by
 obtain ⟨hi, e⟩ := List.getElem?_eq_some_iff.1 h
 rw [getI_nat hi, e]
theorem before_eq (a b : Spot) : spec_l01Before.f a b = some (decide (bef a b)) := by
 unfold spec_l01Before.f
 by_cases h : a.Y < b.Y
 ·rw [if_pos h, decide_eq_true (show bef a b from .inl h)]
 rw [if_neg h]
 by_cases k : a.Y = b.Y
 ·rw [if_pos k, decide_eq_decide.2 (show a.X < b.X ↔ bef a b from ⟨fun l => .inr ⟨k, l⟩, fun l => l.elim (fun l => absurd l h) And.right⟩)]
 rw [if_neg k, decide_eq_false (show ¬ bef a b from fun l => l.elim h fun l => k l.1)]
theorem ahead_loop {A B : List Spot} (he : A.length = B.length) (hl : A.length ≤ 1000) : ∀ i, i ≤ A.length → ∃ r : Bool ⊕ Unit, Ev (fun k => spec_l03Ahead.l1 A B k (i : Int)) r ∧ ((∃ z, r = .inl z ∧ (z = true ↔ lexS (A.drop i) (B.drop i))) ∨ (r = .inr () ∧ A.drop i = B.drop i)) := by
 refine upL ?_ ?_
 ·refine ⟨.inr (), Ev.step (fun k => spec_l03Ahead.l1.eq_2 _ _ _ _) (Ev.neg (by omega) (Ev.const rfl)), .inr ⟨rfl, ?_⟩⟩
  rw [List.drop_length, he, List.drop_length]
 rintro i hi ⟨r, h1, h2⟩
 have hj : i < B.length := by omega
 rw [← wsucc hi (by omega)] at h1
 rw [List.drop_eq_getElem_cons hi, List.drop_eq_getElem_cons hj]
 by_cases e : A[i] = B[i]
 ·refine ⟨r, Ev.step (fun k => spec_l03Ahead.l1.eq_2 _ _ _ _) (Ev.pos (by omega) (Ev.bind (Ev.const (getI_nat hi)) (Ev.bind (Ev.const (getI_nat hj)) (Ev.neg (by simpa using e) h1)))), ?_⟩
  rcases h2 with ⟨w, w1, w2⟩ | ⟨w1, w2⟩
  ·refine .inl ⟨w, w1, w2.trans ⟨fun h => .inr ⟨e, h⟩, fun h => ?_⟩⟩
   rcases h with h | h
   ·rw [e] at h; exact absurd h (bef_ir _)
   exact h.2
  exact .inr ⟨w1, by rw [e, w2]⟩
 refine ⟨.inl (decide (bef A[i] B[i])), Ev.step (fun k => spec_l03Ahead.l1.eq_2 _ _ _ _) (Ev.pos (by omega) (Ev.bind (Ev.const (getI_nat hi)) (Ev.bind (Ev.const (getI_nat hj)) (Ev.pos e (Ev.bind (Ev.const (getI_nat hi)) (Ev.bind (Ev.const (getI_nat hj)) (Ev.bind (Ev.const (before_eq _ _)) (Ev.const rfl)))))))), .inl ⟨_, rfl, decide_eq_true_iff.trans ⟨fun h => .inl h, fun h => ?_⟩⟩⟩
 rcases h with h | h
 ·exact h
 exact absurd h.1 e
theorem ahead_ev {A B : List Spot} (he : A.length = B.length) (hl : A.length ≤ 1000) : ∃ z, Ev (fun k => spec_l03Ahead.f k A B) z ∧ (z = true ↔ lexS A B) := by
 obtain ⟨r, h1, h2⟩ := ahead_loop he hl 0 (Nat.zero_le _)
 rw [List.drop_zero, List.drop_zero] at h2
 rcases h2 with ⟨z, rfl, h⟩ | ⟨rfl, h⟩
 ·exact ⟨z, h1.bind (Ev.const rfl), h⟩
 refine ⟨false, h1.bind (Ev.const rfl), ?_⟩
 rw [h]
 exact ⟨fun h => absurd h (by simp), fun h => absurd h (lex_ir _)⟩
/-! ### Sorted by hand -/
theorem ins_loop {P R : List Spot} {t : Spot} (hl : P.length + R.length ≤ 1000) (hP : P.Pairwise bef) (ht : t ∉ P) : ∀ j, j ≤ P.length → (∀ z ∈ P.drop j, bef t z) → ∀ x : Spot,
 ∃ j' x', j' ≤ P.length ∧ (P.take j' ++ t :: P.drop j').Pairwise bef ∧ Ev (fun k => spec_l03Sorted.l2 t k (P.take j ++ x :: P.drop j ++ R) (j : Int)) (P.take j' ++ x' :: P.drop j' ++ R, (j' : Int))
  | 0, hj, hz, x => by
    refine ⟨0, x, Nat.zero_le _, ?_, Ev.step (fun k => spec_l03Sorted.l2.eq_2 _ _ _ _) (Ev.bind (a := false) (Ev.neg (by omega) (Ev.const rfl)) (Ev.neg (by simp) (Ev.const rfl)))⟩
    rw [List.drop_zero] at *
    exact List.pairwise_cons.2 ⟨hz, hP⟩
  | j + 1, hj, hz, x => by
    have hj' : j < P.length := by omega
    have e1 : IntKind.i64.wrap (((j + 1 : Nat) : Int) - 1) = (j : Int) := by rw [w64 (by omega) (by omega)]; omega
    have hlen : (P.take (j + 1)).length = j + 1 := by rw [List.length_take]; omega
    have hg : getI (P.take (j + 1) ++ x :: P.drop (j + 1) ++ R) (IntKind.i64.wrap (((j + 1 : Nat) : Int) - 1)) = some P[j] := by
      rw [e1]
      refine getI_opt ?_
      rw [List.append_assoc, List.getElem?_append_left (by omega), List.getElem?_take, if_pos (by omega), List.getElem?_eq_getElem hj']
    have hb : Ev (fun k => if (0 : Int) < ((j + 1 : Nat) : Int) then ((getI (P.take (j + 1) ++ x :: P.drop (j + 1) ++ R) (IntKind.i64.wrap (((j + 1 : Nat) : Int) - 1))).bind fun t16 => (spec_l01Before.f t t16).bind fun t17 => some t17) else (some false)) (decide (bef t P[j])) :=
      Ev.pos (by omega) (Ev.bind (Ev.const hg) (Ev.bind (Ev.const (before_eq _ _)) (Ev.const rfl)))
    by_cases c : bef t P[j]
    · rw [decide_eq_true c] at hb
      have hz' : ∀ z ∈ P.drop j, bef t z := fun z hm => by
        rw [List.drop_eq_getElem_cons hj'] at hm
        rcases List.mem_cons.1 hm with rfl | hm
        · exact c
        · exact hz z hm
      obtain ⟨j', x', h1, h2, h3⟩ := ins_loop hl hP ht j (by omega) hz' P[j]
      have hg2 : ∃ w, getI (P.take (j + 1) ++ x :: P.drop (j + 1) ++ R) ((j + 1 : Nat) : Int) = some w := ⟨_, getI_nat (by simp; omega)⟩
      obtain ⟨w, hw⟩ := hg2
      refine ⟨j', x', h1, h2, Ev.step (fun k => spec_l03Sorted.l2.eq_2 _ _ _ _) (Ev.bind hb (Ev.pos rfl (Ev.bind (Ev.const hg) (Ev.bind (Ev.const hw) ?_))))⟩
      have e3 : (P.take (j + 1) ++ x :: P.drop (j + 1) ++ R).set (((j + 1 : Nat) : Int)).toNat P[j] = P.take j ++ P[j] :: P.drop j ++ R := by
        have ed : P.drop j = P[j] :: P.drop (j + 1) := List.drop_eq_getElem_cons hj'
        have et : P.take (j + 1) = P.take j ++ [P[j]] := by rw [List.take_add_one, List.getElem?_eq_getElem hj']; rfl
        rw [Int.toNat_natCast, List.append_assoc, List.set_append_right _ _ (by omega), hlen, Nat.sub_self, List.cons_append, List.set_cons_zero, et, ed]
        simp only [List.append_assoc, List.cons_append, List.nil_append]
      rw [e3, e1]
      exact h3
    · rw [decide_eq_false c] at hb
      refine ⟨j + 1, x, hj, ?_, Ev.step (fun k => spec_l03Sorted.l2.eq_2 _ _ _ _) (Ev.bind hb (Ev.neg (by simp) (Ev.const rfl)))⟩
      have hpt : bef P[j] t := by
        rcases bef_tot t P[j] with h | h | h
        · exact absurd h c
        · exact absurd (h ▸ List.getElem_mem hj') ht
        · exact h
      have hsp : (P.take (j + 1) ++ P.drop (j + 1)).Pairwise bef := by rw [List.take_append_drop]; exact hP
      obtain ⟨q1, q2, q3⟩ := List.pairwise_append.1 hsp
      refine List.pairwise_append.2 ⟨q1, List.pairwise_cons.2 ⟨hz, q2⟩, fun a ha b hb => ?_⟩
      rcases List.mem_cons.1 hb with rfl | hb
      · rw [List.take_add_one, List.getElem?_eq_getElem hj'] at ha q1
        rcases List.mem_append.1 ha with ha | ha
        · exact bef_tr ((List.pairwise_append.1 q1).2.2 a ha P[j] (by simp)) hpt
        · have : a = P[j] := by simpa using ha
          rw [this]; exact hpt
      · exact q3 a ha b hb
theorem sorted_loop {xs : List Spot} (hn : xs.Nodup) (hl : xs.length ≤ 1000) : ∀ i, i ≤ xs.length → ∀ P : List Spot, P.length = i → P.Pairwise bef → (∀ z, z ∈ P ↔ z ∈ xs.take i) → Ev (fun k => spec_l03Sorted.l1 k (P ++ xs.drop i) (i : Int)) (ord xs) := by
 refine upL ?_ ?_
 ·intro P hPl hP hm
  rw [List.drop_length, List.append_nil]
  refine Ev.step (fun k => spec_l03Sorted.l1.eq_2 _ _ _) (Ev.neg (by omega) (Ev.const (congrArg some ?_)))
  exact srtS hP (ord_srt xs) fun z => by rw [hm, List.take_length, ord_mem]
 intro i hi ih P hPl hP hm
 have ht : xs[i] ∉ P := fun h => by
   rw [hm, List.mem_take_iff_getElem] at h
   obtain ⟨j, hj, e⟩ := h
   exact List.pairwise_iff_getElem.1 hn j i (by omega) hi (by omega) e
 have e0 : P ++ xs.drop i = P.take i ++ xs[i] :: P.drop i ++ xs.drop (i + 1) := by
   rw [List.drop_eq_getElem_cons hi, List.take_of_length_le (show P.length ≤ i by omega), List.drop_of_length_le (show P.length ≤ i by omega)]; simp
 have hR : P.length + (xs.drop (i + 1)).length ≤ 1000 := by rw [List.length_drop]; omega
 obtain ⟨j, x, h1, h2, h3⟩ := ins_loop (R := xs.drop (i + 1)) hR hP ht i (by omega) (by rw [List.drop_of_length_le (by omega)]; simp) xs[i]
 have hg : getI (P ++ xs.drop i) (i : Int) = some xs[i] := by
   refine getI_opt ?_
   rw [List.getElem?_append_right (by omega), List.getElem?_drop, hPl, Nat.sub_self, Nat.add_zero, List.getElem?_eq_getElem hi]
 have hgx : getI (P.take j ++ x :: P.drop j ++ xs.drop (i + 1)) (j : Int) = some x := by
   refine getI_opt ?_
   have hlen : (P.take j).length = j := by rw [List.length_take]; omega
   rw [List.append_assoc, List.getElem?_append_right (by omega), hlen, Nat.sub_self]
   rfl
 have e1 : (P.take j ++ x :: P.drop j ++ xs.drop (i + 1)).set ((j : Int)).toNat xs[i] = (P.take j ++ xs[i] :: P.drop j) ++ xs.drop (i + 1) := by
   have hlen : (P.take j).length = j := by rw [List.length_take]; omega
   rw [Int.toNat_natCast, List.append_assoc, List.set_append_right _ _ (by omega), hlen, Nat.sub_self]
   simp
 have hih := ih (P.take j ++ xs[i] :: P.drop j) (by simp; omega) h2 (fun z => by
   rw [List.take_add_one, List.getElem?_eq_getElem hi]
   have : z ∈ P ↔ z ∈ P.take j ∨ z ∈ P.drop j := by rw [← List.mem_append, List.take_append_drop]
   simp only [List.mem_append, List.mem_cons, Option.toList, List.not_mem_nil, or_false]
   rw [← hm, this]
   constructor
   · rintro (h | h | h)
     · exact .inl (.inl h)
     · exact .inr h
     · exact .inl (.inr h)
   · rintro ((h | h) | h)
     · exact .inl h
     · exact .inr (.inr h)
     · exact .inr (.inl h))
 rw [← wsucc hi (by omega)] at hih
 rw [← e0] at h3
 refine Ev.step (fun k => spec_l03Sorted.l1.eq_2 _ _ _) (Ev.pos (by simp; omega) (Ev.bind (a := (P.take j ++ xs[i] :: P.drop j) ++ xs.drop (i + 1)) (Ev.bind (Ev.const hg) (h3.bind (Ev.bind (Ev.const hgx) (Ev.const (congrArg some e1))))) hih))
theorem sorted_ev {xs : List Spot} (hn : xs.Nodup) (hl : xs.length ≤ 1000) (h0 : xs ≠ []) : Ev (fun k => spec_l03Sorted.f k xs) (ord xs) := by
 have h1 : 1 ≤ xs.length := by
   cases xs with
   | nil => exact absurd rfl h0
   | cons _ _ => simp
 have h := sorted_loop hn hl 1 h1 (xs.take 1) (by rw [List.length_take]; omega) (by
   cases xs with
   | nil => exact absurd rfl h0
   | cons a l => exact List.pairwise_singleton _ _) (fun z => Iff.rfl)
 rw [List.take_append_drop] at h
 exact Ev.bind (Ev.const (chkT (by simp; omega))) (h.bind (Ev.const rfl))
end Go.Proofs.YtegibnmfiogebaaGreat
/-
  Plain law: the least set of a size: the first way.
-/
namespace Go.Proofs.YtegibnmfiogebaaGreat
open G
set_option linter.unusedVariables false
set_option linter.unusedSimpArgs false
variable {W H : Nat} {p q : Pasture} {Gr : Nat → Nat → Int} {E S : Nat → Nat → Bool} {s : Spot}
def bett (p : Pasture) (a b : List Spot) : Prop := (OS p a).length < (OS p b).length ∨ ((OS p a).length = (OS p b).length ∧ lexS a b)
theorem bett_as {a b : List Spot} (h : bett p a b) (k : bett p b a) : False := by
 rcases h with h | ⟨h, h'⟩ <;> rcases k with k | ⟨k, k'⟩ <;> first | omega | exact lex_as h' k'
theorem bett_tr {a b c : List Spot} (h : bett p a b) (k : bett p b c) : bett p a c := by
 rcases h with h | ⟨h, h'⟩ <;> rcases k with k | ⟨k, k'⟩
 ·exact .inl (by omega)
 ·exact .inl (by omega)
 ·exact .inl (by omega)
 exact .inr ⟨by omega, lex_tr h' k'⟩
theorem bett_tot {a b : List Spot} (h : a.length = b.length) : bett p a b ∨ a = b ∨ bett p b a := by
 rcases Nat.lt_trichotomy (OS p a).length (OS p b).length with k | k | k
 ·exact .inl (.inl k)
 ·rcases lex_tot h with l | l | l
  ·exact .inl (.inr ⟨k, l⟩)
  ·exact .inr (.inl l)
  exact .inr (.inr (.inr ⟨k.symm, l⟩))
 exact .inr (.inr (.inl k))
/-- The best of some lists. -/
def LB (p : Pasture) (V : List Spot → Prop) (b : List Spot) : Prop := V b ∧ ∀ Z, V Z → Z = b ∨ bett p b Z
theorem LB.uniq {V : List Spot → Prop} {a b : List Spot} (h : LB p V a) (k : LB p V b) : a = b := by
 rcases h.2 b k.1 with e | h1
 ·exact e.symm
 rcases k.2 a h.1 with e | k1
 ·exact e
 exact (bett_as h1 k1).elim
theorem LB.put {V V' : List Spot → Prop} {b Z : List Spot} (h : LB p V b) (hv : ∀ X, V' X ↔ V X ∨ X = Z) (k : bett p Z b) : LB p V' Z := by
 refine ⟨(hv Z).2 (.inr rfl), fun X hX => ?_⟩
 rcases (hv X).1 hX with hX | rfl
 ·rcases h.2 X hX with rfl | h1
  ·exact .inr k
  exact .inr (bett_tr k h1)
 exact .inl rfl
theorem LB.keep {V V' : List Spot → Prop} {b Z : List Spot} (h : LB p V b) (hv : ∀ X, V' X ↔ V X ∨ X = Z) (hl : Z.length = b.length) (k : ¬ bett p Z b) : LB p V' b := by
 refine ⟨(hv b).2 (.inl h.1), fun X hX => ?_⟩
 rcases (hv X).1 hX with hX | rfl
 ·exact h.2 X hX
 rcases bett_tot (p := p) hl with l | l | l
 ·exact absurd l k
 ·exact .inl l
 exact .inr l
theorem LB.one {V : List Spot → Prop} {Z : List Spot} (hv : ∀ X, V X ↔ X = Z) : LB p V Z := ⟨(hv Z).2 rfl, fun X hX => .inl ((hv X).1 hX)⟩
theorem LB.congr {V V' : List Spot → Prop} {b : List Spot} (h : LB p V b) (hv : ∀ X, V X ↔ V' X) : LB p V' b := ⟨(hv b).1 h.1, fun X hX => h.2 X ((hv X).2 hX)⟩
theorem best_loop (v : VPasture p) (hw : okW p = true) {ys : List (List Spot)} {n : Nat} (hn : n ≤ 10) (hy : ∀ T ∈ ys, inP p T ∧ T.Pairwise bef ∧ T.length = n) (hl : ys.length ≤ 1000000) : ∀ i, i ≤ ys.length → ∀ (b : List Spot) (c : Int), ((i = 0 ∧ b = [] ∧ c = -1) ∨ (LB p (· ∈ ys.take i) b ∧ c = ((OS p b).length : Int))) →
 ∃ b' c', Ev (fun k => impl_SmallYard.l5 p ys k b c (i : Int)) (b', c') ∧ ((ys = [] ∧ b' = [] ∧ c' = -1) ∨ (LB p (· ∈ ys) b' ∧ c' = ((OS p b').length : Int))) := by
 refine upL ?_ ?_
 ·intro b c h
  refine ⟨b, c, Ev.step (fun k => impl_SmallYard.l5.eq_2 _ _ _ _ _ _) (Ev.neg (by omega) (Ev.const rfl)), ?_⟩
  rcases h with ⟨h1, h2, h3⟩ | h
  ·exact .inl ⟨List.length_eq_zero_iff.1 h1, h2, h3⟩
  rw [List.take_length] at h; exact .inr h
 intro i hi ih b c h
 have hm := List.getElem_mem hi
 obtain ⟨t1, t2, t3⟩ := hy _ hm
 have ho := implOpen_ev v hw t1 t2 (by omega)
 have hv : ∀ X, X ∈ ys.take (i + 1) ↔ X ∈ ys.take i ∨ X = ys[i] := fun X => by
   rw [List.take_add_one, List.getElem?_eq_getElem hi, List.mem_append]; simp
 have new := ih ys[i] ((OS p ys[i]).length : Int)
 have old := ih b c
 rw [← wsucc hi (by omega)] at new old
 rcases h with ⟨h1, h2, h3⟩ | ⟨h1, h2⟩
 ·obtain ⟨b', c', e1, e2⟩ := new (.inr ⟨LB.one fun X => (hv X).trans ⟨fun h => h.elim (fun h => by simp [h1] at h) id, .inr⟩, rfl⟩)
  exact ⟨b', c', Ev.step (fun k => impl_SmallYard.l5.eq_2 _ _ _ _ _ _) (Ev.pos (by omega) (Ev.bind (Ev.const (getI_nat hi)) (ho.bind (Ev.pos (by omega) e1)))), e2⟩
 obtain ⟨b1, b2, b3⟩ := hy b (List.mem_of_mem_take h1.1)
 obtain ⟨z, z1, z2⟩ := comp_ev (t1.cellIn hw) (b1.cellIn hw) (by rw [t3, b3]) (by omega)
 by_cases k : bett p ys[i] b
 ·obtain ⟨b', c', e1, e2⟩ := new (.inr ⟨h1.put hv k, rfl⟩)
  refine ⟨b', c', Ev.step (fun k => impl_SmallYard.l5.eq_2 _ _ _ _ _ _) (Ev.pos (by omega) (Ev.bind (Ev.const (getI_nat hi)) (ho.bind (Ev.neg (by omega) ?_)))), e2⟩
  rcases k with k | ⟨k, k'⟩
  ·exact Ev.pos (by omega) e1
  exact Ev.neg (by omega) (Ev.pos (by omega) (z1.bind (Ev.pos (z2.2 k') e1)))
 obtain ⟨b', c', e1, e2⟩ := old (.inr ⟨h1.keep hv (by rw [t3, b3]) k, h2⟩)
 refine ⟨b', c', Ev.step (fun k => impl_SmallYard.l5.eq_2 _ _ _ _ _ _) (Ev.pos (by omega) (Ev.bind (Ev.const (getI_nat hi)) (ho.bind (Ev.neg (by omega) (Ev.neg (fun l => k (.inl (by omega))) ?_))))), e2⟩
 by_cases d : ((OS p ys[i]).length : Int) = c
 ·exact Ev.pos d (z1.bind (Ev.neg (fun l => k (.inr ⟨by omega, z2.1 l⟩)) e1))
 exact Ev.neg d e1
/-- All sets of a size that grow from the cell. -/
def Full (p : Pasture) (s : Spot) (n : Nat) (Z : List Spot) : Prop := ∃ L, Gw p s L ∧ L.length = n ∧ Z = ord L
theorem code0 (v : VPasture p) (hp : vP p = true) {xs : List Spot} (hx : inP p xs) (hl : xs.length ≤ 1000) : Ev (fun k => impl_cellCode.f k p xs) 0 ∧ Ev (fun k => spec_l01All.f k p xs) 0 := by
 have hw := vP_okW hp
 have hv : ∀ s ∈ xs, VSpot s := fun s hs => by
   obtain ⟨x, y, hx, hy, rfl⟩ := hx.cellIn hw s hs
   exact VSpot_nat (by omega) (by omega)
 have h0 : cCode p xs = 0 := by
   unfold cCode
   rw [hp, if_neg (by simp), if_pos]
   unfold okC
   rw [List.all_eq_true]
   intro s hs
   obtain ⟨x, y, h1, h2, rfl⟩ := hx s hs
   exact (cellB_sp hw).2 ⟨h1, h2⟩
 have h1 := cellCode_ev v xs hv (by omega)
 have h2 := specAll_ev v xs hv (by omega)
 rw [h0] at h1 h2
 exact ⟨h1, h2⟩
theorem implSmall_ev (v : VPasture p) (hp : vP p = true) (hs : inP p [s]) {n : Nat} (h1 : 1 ≤ n) (h5 : n ≤ 5) :
 ((∀ Z, ¬ Full p s n Z) ∧ Ev (fun k => impl_SmallYard.f k p s (n : Int)) ([], 0, 6)) ∨ ∃ b, LB p (Full p s n) b ∧ Ev (fun k => impl_SmallYard.f k p s (n : Int)) (b, ((OS p b).length : Int), 0) := by
 have hw := vP_okW hp
 obtain ⟨ys, r1, r2⟩ := rounds v hw hs h1 h5 0 (Nat.zero_le _) [[s]] Rd.start
 have hall : ∀ Z, Z ∈ ys ↔ Full p s n Z := fun Z => by
   rw [r1.all]; unfold Full
   rw [show n - 1 + 1 = n by omega]
 have h20 : 20 ^ (n - 1) ≤ 20 ^ 4 := Nat.pow_le_pow_right (by omega) (by omega)
 have hf := r1.few
 obtain ⟨b, c, e1, e2⟩ := best_loop v hw (n := n) (by omega) (fun T hT => by
   obtain ⟨x1, x2, x3⟩ := r1.in_ hw hs hT
   exact ⟨x1, x2, by omega⟩) (by omega) 0 (Nat.zero_le _) [] (-1) (.inl ⟨rfl, rfl, rfl⟩)
 have hc := (code0 v hp hs (by simp)).1
 have hwi : impl_within.f (n : Int) 1 6 = some true := by rw [within_eq, decide_eq_true (by omega)]
 have go : ∀ {r}, Ev (fun k => if c < 0 then some (([] : List Spot), (0 : Int), (6 : Int)) else some (b, c, 0)) r → Ev (fun k => impl_SmallYard.f k p s (n : Int)) r := fun {r} h =>
   hc.bind (Ev.neg (by simp) (Ev.bind (Ev.const hwi) (Ev.neg (by simp) (r2.bind (e1.bind h)))))
 rcases e2 with ⟨a1, a2, a3⟩ | ⟨a1, a2⟩
 ·exact .inl ⟨fun Z hZ => by rw [← hall, a1] at hZ; simp at hZ, go (Ev.pos (by omega) (Ev.const rfl))⟩
 refine .inr ⟨b, a1.congr hall, ?_⟩
 rw [← a2]
 exact go (Ev.neg (by omega) (Ev.const rfl))
end Go.Proofs.YtegibnmfiogebaaGreat
/-
  Plain law: the least set of a size: the second way.
-/
namespace Go.Proofs.YtegibnmfiogebaaGreat
open G
set_option linter.unusedVariables false
set_option linter.unusedSimpArgs false
variable {W H : Nat} {p q : Pasture} {Gr : Nat → Nat → Int} {E S : Nat → Nat → Bool} {s : Spot}
theorem nodup_len : ∀ {A B : List Spot}, A.Nodup → (∀ z ∈ A, z ∈ B) → A.length ≤ B.length
  | [], B, _, _ => Nat.zero_le _
  | a :: A, B, h, hs => by
    have ha := hs a (List.mem_cons_self ..)
    rw [List.nodup_cons] at h
    have := nodup_len (A := A) (B := B.erase a) h.2 fun z hz => by
      have hne : z ≠ a := fun e => h.1 (e ▸ hz)
      exact (List.mem_erase_of_ne hne).2 (hs z (List.mem_cons_of_mem _ hz))
    rw [List.length_erase_of_mem ha] at this
    have := List.length_pos_of_mem ha
    rw [List.length_cons]; omega
theorem nodup_same {A B : List Spot} (h : A.Nodup) (hs : ∀ z ∈ A, z ∈ B) (hl : B.length ≤ A.length) : ∀ z, z ∈ A ↔ z ∈ B := fun z => ⟨hs z, fun hz => by
  apply Classical.byContradiction
  intro c
  have := nodup_len (A := z :: A) (B := B) (List.nodup_cons.2 ⟨c, h⟩) fun y hy => by
    rcases List.mem_cons.1 hy with rfl | hy
    · exact hz
    · exact hs y hy
  rw [List.length_cons] at this
  omega⟩
theorem Gw.shut {T L : List Spot} (h : Gw p s T) (hs : s ∈ L) (hn : ∀ a ∈ L, ∀ t ∈ nbL p a, t ∈ T → t ∈ L) : ∀ t ∈ T, t ∈ L := by
  induction h with
  | one => intro t ht; rw [List.mem_singleton.1 ht]; exact hs
  | add h1 ha ht _ ih =>
    have ih := ih fun a ha t ht h => hn a ha t ht (List.mem_append_left _ h)
    intro z hz
    rcases List.mem_append.1 hz with h | h
    · exact ih z h
    · have := List.mem_singleton.1 h
      subst this
      exact hn _ (ih _ ha) _ ht hz
def mkd (m : Bt) (t : Spot) : Prop := b2 m t.Y.toNat t.X.toNat = true
theorem mkd_put (m : Bt) {y x : Nat} (hy : y < 10) (hx : x < 10) {t : Spot} (ht : cellIn t) : mkd (putM m y x) t ↔ mkd m t ∨ t = sp x y := by
 obtain ⟨a, b, ha, hb, rfl⟩ := ht
 unfold mkd
 rw [b2_put m hy hx, Bool.or_eq_true, decide_eq_true_eq]
 show (y = b ∧ x = a) ∨ b2 m b a = true ↔ b2 m b a = true ∨ sp a b = sp x y
 rw [sp_inj]
 constructor
 ·rintro (⟨rfl, rfl⟩ | h)
  ·exact .inr ⟨rfl, rfl⟩
  exact .inl h
 rintro (h | ⟨rfl, rfl⟩)
 ·exact .inr h
 exact .inl ⟨rfl, rfl⟩
abbrev Slf := l03Search → List Spot → List Spot → Arr 10 (Arr 10 Bool) → Option l03Search
/-- The cells beside that are not met: met and put behind. -/
theorem next_loop (hw : okW p = true) {nb : List Spot} (hnb : inP p nb) (hl : nb.length ≤ 4) : ∀ j, j ≤ nb.length → ∀ (N : List Spot) (m : Bt), N.length ≤ 10000 + j → N.Nodup → (∀ t ∈ N, mkd m t) → inP p N →
 ∃ N' m', (∀ self : Nat → Slf, Ev (fun k => spec_l03Search_grow.l2 (self k) nb k N m (j : Int)) (N', m')) ∧ (∀ t, cellIn t → (mkd m' t ↔ mkd m t ∨ t ∈ nb.drop j)) ∧ (∀ t, t ∈ N' ↔ t ∈ N ∨ (t ∈ nb.drop j ∧ ¬ mkd m t)) ∧ N'.Nodup ∧ N'.length ≤ N.length + (nb.length - j) ∧ inP p N' := by
 obtain ⟨w1, w2⟩ := okW_iff.1 hw
 refine upL ?_ ?_
 ·intro N m hN hd hm hi
  exact ⟨N, m, fun self => Ev.step (fun k => spec_l03Search_grow.l2.eq_2 _ _ _ _ _ _) (Ev.neg (by omega) (Ev.const rfl)), fun t _ => by simp, fun t => by simp, hd, by omega, hi⟩
 intro j hj ih N m hN hd hm hi
 obtain ⟨x, y, hx, hy, e⟩ := hnb _ (List.getElem_mem hj)
 have g : getI nb (j : Int) = some (sp x y) := (getI_nat hj).trans (congrArg some e)
 have ct : cellIn (sp x y) := ⟨x, y, by omega, by omega, rfl⟩
 rw [List.drop_eq_getElem_cons hj, e]
 cases c : b2 m y x
 ·have hmt : ¬ mkd m (sp x y) := fun h => by
    unfold mkd at h
    change b2 m y x = true at h
    rw [c] at h; exact absurd h (by simp)
  have hnN : sp x y ∉ N := fun h => hmt (hm _ h)
  obtain ⟨N', m', h1, h2, h3, h4, h5, h6⟩ := ih (N ++ [sp x y]) (putM m y x) (by simp; omega) (nodup_snoc hd hnN) (fun t ht => by
    rcases List.mem_append.1 ht with ht | ht
    · obtain ⟨a, b, ha, hb, e'⟩ := hi t ht
      exact (mkd_put m (by omega) (by omega) ⟨a, b, by omega, by omega, e'⟩).2 (.inl (hm t ht))
    · rw [List.mem_singleton.1 ht]
      exact (mkd_put m (by omega) (by omega) ct).2 (.inr rfl)) (fun t ht => by
    rcases List.mem_append.1 ht with ht | ht
    · exact hi t ht
    · exact ⟨x, y, hx, hy, List.mem_singleton.1 ht⟩)
  refine ⟨N', m', fun self => ?_, fun t ht => ?_, fun t => ?_, h4, by simp at h5; omega, h6⟩
  ·have h1 := h1 (fun k => self (k + 1))
   rw [← wsucc hj (by omega)] at h1
   refine Ev.step (fun k => spec_l03Search_grow.l2.eq_2 _ _ _ _ _ _) (Ev.pos (by omega) (Ev.bind (Ev.const g) (Ev.bind (Ev.const g) (Ev.bind (Ev.const (bR_get m (show y < 10 by omega))) (Ev.bind (Ev.const (bA_get _ (show x < 10 by omega))) ?_)))))
   refine Ev.pos (show (!b2 m y x) = true by rw [c]; rfl) (Ev.bind (Ev.const g) (Ev.bind (Ev.const g) (Ev.bind (Ev.const (bR_get m (show y < 10 by omega))) (Ev.bind (Ev.const (bA_get _ (show x < 10 by omega))) (Ev.bind (Ev.const g) (Ev.bind (Ev.const (chkT (by simp; omega))) ?_))))))
   simp only [show (sp x y).Y.toNat = y from rfl, show (sp x y).X.toNat = x from rfl]
   exact h1
  ·rw [h2 t ht, mkd_put m (by omega) (by omega) ht, List.mem_cons, or_assoc]
  rw [h3, List.mem_append, List.mem_singleton, List.mem_cons]
  constructor
  ·rintro ((h | rfl) | ⟨h, k⟩)
   ·exact .inl h
   ·exact .inr ⟨.inl rfl, hmt⟩
   by_cases hc : cellIn t
   ·exact .inr ⟨.inr h, fun l => k ((mkd_put m (by omega) (by omega) hc).2 (.inl l))⟩
   obtain ⟨a, b, ha, hb, e'⟩ := hnb t (List.mem_of_mem_drop h)
   exact absurd ⟨a, b, by omega, by omega, e'⟩ hc
  rintro (h | ⟨rfl | h, k⟩)
  ·exact .inl (.inl h)
  ·exact .inl (.inr rfl)
  by_cases e' : t = sp x y
  ·exact .inl (.inr e')
  obtain ⟨a, b, ha, hb, e2⟩ := hnb t (List.mem_of_mem_drop h)
  exact .inr ⟨h, fun l => ((mkd_put m (by omega) (by omega) ⟨a, b, by omega, by omega, e2⟩).1 l).elim k e'⟩
 have hmt : mkd m (sp x y) := c
 obtain ⟨N', m', h1, h2, h3, h4, h5, h6⟩ := ih N m (by omega) hd hm hi
 refine ⟨N', m', fun self => ?_, fun t ht => ?_, fun t => ?_, h4, by omega, h6⟩
 ·have h1 := h1 (fun k => self (k + 1))
  rw [← wsucc hj (by omega)] at h1
  refine Ev.step (fun k => spec_l03Search_grow.l2.eq_2 _ _ _ _ _ _) (Ev.pos (by omega) (Ev.bind (Ev.const g) (Ev.bind (Ev.const g) (Ev.bind (Ev.const (bR_get m (show y < 10 by omega))) (Ev.bind (Ev.const (bA_get _ (show x < 10 by omega))) ?_)))))
  exact Ev.neg (show ¬ (!b2 m y x) = true by rw [c]; simp) h1
 ·rw [h2 t ht, List.mem_cons]
  constructor
  ·rintro (h | h)
   ·exact .inl h
   exact .inr (.inr h)
  rintro (h | rfl | h)
  ·exact .inl h
  ·exact .inl hmt
  exact .inr h
 rw [h3, List.mem_cons]
 constructor
 ·rintro (h | ⟨h, k⟩)
  ·exact .inl h
  exact .inr ⟨.inr h, k⟩
 rintro (h | ⟨rfl | h, k⟩)
 ·exact .inl h
 ·exact absurd hmt k
 exact .inr ⟨h, k⟩
/-- Where the search stands. -/
structure GS (p : Pasture) (s : Spot) (L N : List Spot) (m : Bt) : Prop where
  disj : (L ++ N).Nodup
  base : (L = [] ∧ N = [s]) ∨ (Gw p s L ∧ ∀ t ∈ N, ∃ a ∈ L, t ∈ nbL p a)
  inm : ∀ t ∈ L ++ N, mkd m t
  nb : ∀ a ∈ L, ∀ t ∈ nbL p a, mkd m t
  cells : inP p (L ++ N)
  few : N.length ≤ 4 * L.length + 1
structure Cp (p : Pasture) (s : Spot) (n : Nat) (L N : List Spot) (m : Bt) (T : List Spot) : Prop where
  gw : Gw p s T
  len : T.length = n
  sub : ∀ a ∈ L, a ∈ T
  met : ∀ t ∈ T, mkd m t → t ∈ L ∨ t ∈ N
theorem GS.go (hw : okW p = true) (hs : inP p [s]) {L N : List Spot} {m : Bt} (h : GS p s L N m) {i : Nat} (hi : i < N.length) {N' : List Spot} {m' : Bt} (h2 : ∀ t, cellIn t → (mkd m' t ↔ mkd m t ∨ t ∈ nbL p N[i])) (h3 : ∀ t, t ∈ N' ↔ t ∈ N.drop (i + 1) ∨ (t ∈ nbL p N[i] ∧ ¬ mkd m t)) (h4 : N'.Nodup) (h5 : N'.length ≤ N.length + 4 - (i + 1)) (h6 : inP p N') :
 GS p s (L ++ [N[i]]) N' m' ∧ ∀ n T, Cp p s n L N m T → N[i] ∈ T → (∀ t ∈ N.take i, t ∉ T) → Cp p s n (L ++ [N[i]]) N' m' T := by
 have hc := List.getElem_mem hi
 have hcell : ∀ {t}, t ∈ L ++ N → cellIn t := fun ht => h.cells.cellIn hw _ ht
 obtain ⟨d1, d2, d3⟩ := List.nodup_append.1 h.disj
 have hdr : ∀ {t}, t ∈ N.drop (i + 1) → t ∈ N := fun ht => List.mem_of_mem_drop ht
 have hcL : N[i] ∉ L := fun hl => d3 _ hl _ hc rfl
 have hcD : N[i] ∉ N.drop (i + 1) := fun hd => by
   have := d2
   rw [← List.take_append_drop i N, List.drop_eq_getElem_cons hi] at this
   exact (List.nodup_cons.1 (List.nodup_append.1 this).2.1).1 hd
 have hnbc : ∀ {t}, t ∈ nbL p N[i] → cellIn t := fun ht => (nbL_inP hw h.cells (List.mem_append_right _ hc)).cellIn hw _ ht
 have hNL : N' ≠ [] → True := fun _ => trivial
 refine ⟨⟨?_, ?_, ?_, ?_, ?_, ?_⟩, ?_⟩
 ·refine List.nodup_append.2 ⟨nodup_snoc d1 hcL, h4, fun a ha b hb e => ?_⟩
  subst e
  rcases (h3 a).1 hb with hb | ⟨hb, hb'⟩
  ·rcases List.mem_append.1 ha with ha | ha
   ·exact d3 a ha a (hdr hb) rfl
   rw [List.mem_singleton.1 ha] at hb; exact hcD hb
  rcases List.mem_append.1 ha with ha | ha
  ·exact hb' (h.inm a (List.mem_append_left _ ha))
  rw [List.mem_singleton.1 ha] at hb'; exact hb' (h.inm _ (List.mem_append_right _ hc))
 ·right
  rcases h.base with ⟨rfl, rfl⟩ | ⟨b1, b2⟩
  ·have hi0 : i = 0 := by simp at hi; exact hi
   subst hi0
   refine ⟨Gw.one, fun t ht => ⟨s, List.mem_singleton.2 rfl, ?_⟩⟩
   rcases (h3 t).1 ht with ht | ht
   ·simp at ht
   exact ht.1
  obtain ⟨a, ha, hn⟩ := b2 _ hc
  refine ⟨.add b1 ha hn hcL, fun t ht => ?_⟩
  rcases (h3 t).1 ht with ht | ht
  ·obtain ⟨a, ha, hn⟩ := b2 t (hdr ht)
   exact ⟨a, List.mem_append_left _ ha, hn⟩
  exact ⟨_, List.mem_append_right _ (List.mem_singleton.2 rfl), ht.1⟩
 ·intro t ht
  rcases List.mem_append.1 ht with ht | ht
  ·have : t ∈ L ++ N := by
     rcases List.mem_append.1 ht with ht | ht
     · exact List.mem_append_left _ ht
     · rw [List.mem_singleton.1 ht]; exact List.mem_append_right _ hc
   exact (h2 t (hcell this)).2 (.inl (h.inm t this))
  rcases (h3 t).1 ht with ht | ht
  ·have : t ∈ L ++ N := List.mem_append_right _ (hdr ht)
   exact (h2 t (hcell this)).2 (.inl (h.inm t this))
  exact (h2 t (hnbc ht.1)).2 (.inr ht.1)
 ·intro a ha t ht
  rcases List.mem_append.1 ha with ha | ha
  ·exact (h2 t ((nbL_inP hw h.cells (List.mem_append_left _ ha)).cellIn hw _ ht)).2 (.inl (h.nb a ha t ht))
  rw [List.mem_singleton.1 ha] at ht
  exact (h2 t (hnbc ht)).2 (.inr ht)
 ·intro t ht
  rcases List.mem_append.1 ht with ht | ht
  ·rcases List.mem_append.1 ht with ht | ht
   ·exact h.cells t (List.mem_append_left _ ht)
   rw [List.mem_singleton.1 ht]; exact h.cells _ (List.mem_append_right _ hc)
  exact h6 t ht
 ·have := h.few
  rw [List.length_append, List.length_singleton]; omega
 intro n T hT hcT hno
 refine ⟨hT.gw, hT.len, fun a ha => ?_, fun t ht hm => ?_⟩
 ·rcases List.mem_append.1 ha with ha | ha
  ·exact hT.sub a ha
  rw [List.mem_singleton.1 ha]; exact hcT
 have old : mkd m t → t ∈ L ++ [N[i]] ∨ t ∈ N' := fun hm => by
   rcases hT.met t ht hm with h1 | h1
   · exact .inl (List.mem_append_left _ h1)
   · rw [← List.take_append_drop i N, List.drop_eq_getElem_cons hi] at h1
     rcases List.mem_append.1 h1 with h1 | h1
     · exact absurd ht (hno t h1)
     · rcases List.mem_cons.1 h1 with rfl | h1
       · exact .inl (List.mem_append_right _ (List.mem_singleton.2 rfl))
       · exact .inr ((h3 t).2 (.inl h1))
 by_cases c : mkd m t
 ·exact old c
 by_cases d : t ∈ nbL p N[i]
 ·exact .inr ((h3 t).2 (.inr ⟨d, c⟩))
 exact absurd hm fun hm => ((h2 t ((hT.gw.inP hw hs).cellIn hw t ht)).1 hm).elim c d
end Go.Proofs.YtegibnmfiogebaaGreat
/-
  Plain law: the search tells the least set of a size.
-/
namespace Go.Proofs.YtegibnmfiogebaaGreat
open G
set_option linter.unusedVariables false
set_option linter.unusedSimpArgs false
variable {W H : Nat} {p q : Pasture} {Gr : Nat → Nat → Int} {E S : Nat → Nat → Bool} {s : Spot}
theorem evUp {α : Type} {f : Nat → Option α} {r : α} (h : Ev f r) {φ : Nat → Nat} (hφ : ∀ k, k ≤ φ k) : Ev (fun k => f (φ k)) r := by
 obtain ⟨K, hK⟩ := h
 exact ⟨K, fun k hk => hK _ (Nat.le_trans hk (hφ k))⟩
structure StV (p : Pasture) (s : Spot) (n : Nat) (V : List Spot → Prop) (st : l03Search) : Prop where
  hp : st.p = p
  hn : st.size = (n : Int)
  full : ∀ Z, V Z → Full p s n Z
  best : ((∀ Z, ¬ V Z) ∧ st.best = []) ∨ (LB p V st.best ∧ st.least = ((OS p st.best).length : Int))
theorem StV.eta {n : Nat} {V : List Spot → Prop} {st : l03Search} (h : StV p s n V st) : (⟨p, st.size, st.best, st.least⟩ : l03Search) = st := by
 have := h.hp
 cases st
 simp only at this
 rw [this]
theorem Full.len {n : Nat} {Z : List Spot} (h : Full p s n Z) : Z.length = n := by
 obtain ⟨L, h1, h2, rfl⟩ := h
 rw [ord_len h1.nodup, h2]
theorem leaf_ev (v : VPasture p) (hw : okW p = true) (hs : inP p [s]) {n : Nat} (h1 : 1 ≤ n) (h5 : n ≤ 5) {L N : List Spot} {m : Bt} (hL : Gw p s L) (hl : L.length = n) {V : List Spot → Prop} {st : l03Search} (h : StV p s n V st) :
 ∃ st', Ev (fun k => spec_l03Search_grow.f k st L N m) st' ∧ StV p s n (fun Z => V Z ∨ Z = ord L) st' := by
 have hLp := hL.inP hw hs
 obtain ⟨mm, m1, m2⟩ := mask_ev (hLp.cellIn hw) (by omega)
 have ho := specOpen_ev v hw m2
 rw [OS_congr (T' := ord L) (fun z => ord_mem.symm)] at ho
 have hso := sorted_ev hL.nodup (by omega) (fun e => by rw [e] at hl; simp at hl; omega)
 have hfu : Full p s n (ord L) := ⟨L, hL, hl, rfl⟩
 have hful : ∀ Z, V Z ∨ Z = ord L → Full p s n Z := fun Z hZ => hZ.elim (h.full Z) fun e => e ▸ hfu
 have go : ∀ (b : Bool) {r}, Ev (fun k => if (st.best.length : Int) = 0 then (some true) else (if ((OS p (ord L)).length : Int) < st.least then (some true) else (if ((OS p (ord L)).length : Int) = st.least then ((spec_l03Ahead.f k (ord L) st.best).bind fun t11 => some t11) else (some false)))) b → (if b = true then (some (⟨st.p, st.size, ord L, ((OS p (ord L)).length : Int)⟩ : l03Search)) else (some st)) = some r → Ev (fun k => spec_l03Search_grow.f k st L N m) r := fun b r hb hr => by
   refine Ev.step (fun k => spec_l03Search_grow.f.eq_2 _ _ _ _ _) (Ev.pos (by rw [hl, h.hn]) (m1.bind (Ev.bind ?_ (hso.bind (Ev.bind hb (Ev.const hr))))))
   rw [h.hp]; exact ho
 have take : ∀ (_ : LB p (fun Z => V Z ∨ Z = ord L) (ord L)), StV p s n (fun Z => V Z ∨ Z = ord L) (⟨st.p, st.size, ord L, ((OS p (ord L)).length : Int)⟩ : l03Search) := fun hb => ⟨h.hp, h.hn, hful, .inr ⟨hb, rfl⟩⟩
 rcases h.best with ⟨b1, b2⟩ | ⟨b1, b2⟩
 ·exact ⟨_, go true (Ev.pos (by rw [b2]; rfl) (Ev.const rfl)) rfl, take (LB.one fun X => ⟨fun h => h.elim (fun h => absurd h (b1 X)) id, .inr⟩)⟩
 have hbl := (h.full _ b1.1).len
 have hb0 : ¬ (st.best.length : Int) = 0 := by omega
 have hle : (ord L).length = st.best.length := by rw [hfu.len, hbl]
 obtain ⟨z, z1, z2⟩ := ahead_ev hle (by rw [hfu.len]; omega)
 by_cases k : bett p (ord L) st.best
 ·refine ⟨_, go true (Ev.neg hb0 ?_) rfl, take (b1.put (fun X => Iff.rfl) k)⟩
  rcases k with k | ⟨k, k'⟩
  ·exact Ev.pos (by omega) (Ev.const rfl)
  refine Ev.neg (by omega) (Ev.pos (by omega) (z1.bind (Ev.const ?_)))
  rw [z2.2 k']
 refine ⟨st, go false (Ev.neg hb0 (Ev.neg (fun l => k (.inl (by omega))) ?_)) rfl, ⟨h.hp, h.hn, hful, .inr ⟨b1.keep (fun X => Iff.rfl) hle k, b2⟩⟩⟩
 by_cases d : ((OS p (ord L)).length : Int) = st.least
 ·refine Ev.pos d (z1.bind (Ev.const ?_))
  cases z
  ·rfl
  exact absurd (.inr ⟨by omega, z2.1 rfl⟩) k
 exact Ev.neg d (Ev.const rfl)
theorem grow_ev (v : VPasture p) (hw : okW p = true) (hs : inP p [s]) {n : Nat} (h1 : 1 ≤ n) (h5 : n ≤ 5) : ∀ (d : Nat) (L N : List Spot) (m : Bt), GS p s L N m → L.length + d = n → ∀ (V : List Spot → Prop) (st : l03Search), StV p s n V st →
 ∃ (st' : l03Search) (V' : List Spot → Prop), Ev (fun k => spec_l03Search_grow.f k st L N m) st' ∧ StV p s n V' st' ∧ (∀ Z, V Z → V' Z) ∧ ∀ T, Cp p s n L N m T → V' (ord T)
  | 0, L, N, m, hG, hd, V, st, hst => by
    have hL : Gw p s L := by
      rcases hG.base with ⟨e, _⟩ | h
      · rw [e] at hd; simp at hd; omega
      · exact h.1
    obtain ⟨st', e1, e2⟩ := leaf_ev v hw hs h1 h5 (N := N) (m := m) hL (by omega) hst
    refine ⟨st', _, e1, e2, fun Z hZ => .inl hZ, fun T hT => .inr (ord_eq fun z => ?_)⟩
    exact (nodup_same hL.nodup hT.sub (by rw [hT.len]; omega) z).symm
  | d + 1, L, N, m, hG, hd, V, st, hst => by
    have hNl := hG.few
    have loop : ∀ i, i ≤ N.length → ∀ (V : List Spot → Prop) (st1 : l03Search), StV p s n V st1 →
        ∃ (st' : l03Search) (V' : List Spot → Prop), (∀ φ : Nat → Nat, (∀ k, k ≤ φ k) → Ev (fun k => spec_l03Search_grow.l1 (spec_l03Search_grow.f (φ k)) st L N k m (i : Int) st1.size st1.best st1.least) (st'.best, st'.size, st'.least)) ∧ StV p s n V' st' ∧ (∀ Z, V Z → V' Z) ∧ ∀ T, Cp p s n L N m T → (∀ t ∈ N.take i, t ∉ T) → V' (ord T) := by
      refine upL ?_ ?_
      · intro V st1 h
        refine ⟨st1, V, fun φ _ => Ev.step (fun k => spec_l03Search_grow.l1.eq_2 _ _ _ _ _ _ _ _ _ _) (Ev.neg (by omega) (Ev.const rfl)), h, fun Z hZ => hZ, fun T hT hno => ?_⟩
        exfalso
        rw [List.take_length] at hno
        rcases hG.base with ⟨_, e⟩ | ⟨b1, _⟩
        · exact hno s (by rw [e]; exact List.mem_singleton.2 rfl) hT.gw.start
        · have hsub := hT.gw.shut b1.start fun a ha t ht htT => (hT.met t htT (hG.nb a ha t ht)).resolve_right fun hN => hno t hN htT
          have := nodup_len hT.gw.nodup hsub
          rw [hT.len] at this
          omega
      · intro i hi ih V st1 h
        have hin : inP p N := fun t ht => hG.cells t (List.mem_append_right _ ht)
        have hcm := List.getElem_mem hi
        have hdd : (N.drop (i + 1)).Nodup := List.Nodup.sublist (List.drop_sublist _ _) (List.nodup_append.1 hG.disj).2.1
        obtain ⟨N', m', n1, n2, n3, n4, n5, n6⟩ := next_loop hw (nbL_inP hw hin hcm) (nbL_len _) 0 (Nat.zero_le _) (N.drop (i + 1)) m (by rw [List.length_drop]; omega) hdd (fun t ht => hG.inm t (List.mem_append_right _ (List.mem_of_mem_drop ht))) (fun t ht => hin t (List.mem_of_mem_drop ht))
        rw [List.drop_zero] at n2 n3
        have hnl := nbL_len (p := p) N[i]
        rw [List.length_drop] at n5
        obtain ⟨g1, g2⟩ := hG.go hw hs hi n2 n3 n4 (by omega) n6
        obtain ⟨st2, V2, a1, a2, a3, a4⟩ := grow_ev v hw hs h1 h5 d (L ++ [N[i]]) N' m' g1 (by simp; omega) V st1 h
        obtain ⟨st3, V3, b1, b2, b3, b4⟩ := ih V2 st2 a2
        refine ⟨st3, V3, fun φ hφ => ?_, b2, fun Z hZ => b3 Z (a3 Z hZ), fun T hT hno => ?_⟩
        · have b1 := b1 (fun k => φ (k + 1)) (fun k => Nat.le_trans (Nat.le_succ k) (hφ (k + 1)))
          have a1 := evUp a1 (φ := fun k => φ (k + 1)) (fun k => Nat.le_trans (Nat.le_succ k) (hφ (k + 1)))
          rw [← wsucc hi (by omega)] at b1
          have n1 := n1 (fun k => spec_l03Search_grow.f (φ (k + 1)))
          have hb := (besideN_ev v hw hin hcm).2
          refine Ev.step (fun k => spec_l03Search_grow.l1.eq_2 _ _ _ _ _ _ _ _ _ _) (Ev.pos (by omega) (Ev.bind (a := (st2.best, st2.size, st2.least)) ?_ b1))
          simp only [wsucc hi (show N.length ≤ 9223372036854775807 by omega), Int.toNat_natCast, hst.hp, List.nil_append]
          have et : (N.drop (i + 1)).take (N.length - (i + 1)) = N.drop (i + 1) := List.take_of_length_le (by rw [List.length_drop]; omega)
          rw [et]
          refine Ev.bind (Ev.const (chkT (by omega))) (Ev.bind (Ev.const (chkT (by simp; omega))) (Ev.bind (Ev.const (getI_nat hi)) (hb.bind (n1.bind (Ev.bind (Ev.const (getI_nat hi)) (Ev.bind (Ev.const (chkT (by simp; omega))) (Ev.bind (Ev.const (chkT (by simp; omega))) (Ev.bind (a := st2) ?_ (Ev.const rfl)))))))))
          rw [h.eta]
          exact a1
        · by_cases c : N[i] ∈ T
          · exact b3 _ (a4 T (g2 n T hT c hno))
          · refine b4 T hT fun t ht => ?_
            rw [List.take_add_one, List.getElem?_eq_getElem hi] at ht
            rcases List.mem_append.1 ht with ht | ht
            · exact hno t ht
            · have : t = N[i] := by simpa using ht
              rw [this]; exact c
    obtain ⟨st', V', e1, e2, e3, e4⟩ := loop 0 (Nat.zero_le _) V st hst
    refine ⟨st', V', ?_, e2, e3, fun T hT => e4 T hT (by simp)⟩
    refine Ev.step (fun k => spec_l03Search_grow.f.eq_2 _ _ _ _ _) (Ev.neg (by rw [hst.hn]; omega) ((e1 (fun k => k) fun k => Nat.le_refl k).bind (Ev.const (congrArg some ?_))))
    rw [hst.hp]
    exact e2.eta
end Go.Proofs.YtegibnmfiogebaaGreat
/-
  Plain law: both ways tell the same smallest yard.
-/
namespace Go.Proofs.YtegibnmfiogebaaGreat
open G
set_option linter.unusedVariables false
set_option linter.unusedSimpArgs false
variable {W H : Nat} {p q : Pasture} {Gr : Nat → Nat → Int} {E S : Nat → Nat → Bool} {s : Spot}
/-- A set that grows stays within what is shut. -/
theorem gw_yard (hw : okW p = true) (hs : inP p [s]) {Y : List Spot} (hY : shutY p Y) (h0 : s ∈ Y) {L : List Spot} (h : Gw p s L) : ∀ t ∈ L, t ∈ Y := by
  obtain ⟨w1, w2⟩ := okW_iff.1 hw
  induction h with
  | one => intro t ht; rw [List.mem_singleton.1 ht]; exact h0
  | add h1 ha ht _ ih =>
    intro z hz
    rcases List.mem_append.1 hz with hz | hz
    · exact ih z hz
    · rw [List.mem_singleton.1 hz]
      have hy := ih _ ha
      obtain ⟨x, y, hx, hyy, rfl⟩ := h1.inP hw hs _ ha
      obtain ⟨x', y', _, _, rfl, hst⟩ := nbL_in hw ht
      exact hY y x y' x' (by omega) (by omega) hy hst
theorem gw_grow (hw : okW p = true) {x y : Nat} (hx : x < p.Wide.toNat) (hy : y < p.High.toNat) {Y : List Spot} (hYi : isYard p Y) (hYn : Y.Nodup) (hY : ∀ T : Nat → Nat → Prop, closedT p T → T y x → ∀ b a, b < 10 → a < 10 → sp a b ∈ Y → T b a) : ∀ n, 1 ≤ n → n ≤ Y.length → ∃ L, Gw p (sp x y) L ∧ L.length = n
  | 0, h, _ => by omega
  | 1, _, _ => ⟨_, .one, rfl⟩
  | n + 2, _, hn => by
    obtain ⟨w1, w2⟩ := okW_iff.1 hw
    obtain ⟨L, h1, h2⟩ := gw_grow hw hx hy hYi hYn hY (n + 1) (by omega) (by omega)
    have hLp := h1.inP hw (s := sp x y) (fun t ht => ⟨x, y, hx, hy, List.mem_singleton.1 ht⟩)
    by_cases c : ∃ a ∈ L, ∃ t ∈ nbL p a, t ∉ L
    · obtain ⟨a, ha, t, ht, hl⟩ := c
      exact ⟨_, .add h1 ha ht hl, by simp [h2]⟩
    · exfalso
      have hin : ∀ z ∈ Y, z ∈ L := fun z hz => by
        obtain ⟨a, b, ha, hb, rfl⟩ := isYard_mem hYi hz
        refine hY (fun b a => sp a b ∈ L) (fun b a b' a' hb ha hm hs => ?_) h1.start b a (by omega) (by omega) hz
        apply Classical.byContradiction
        intro hno
        exact c ⟨_, hm, _, (nbL_iff hw).2 hs, hno⟩
      have := nodup_len hYn hin
      omega
theorem specSmall_ev (v : VPasture p) (hp : vP p = true) {x y : Nat} (hx : x < p.Wide.toNat) (hy : y < p.High.toNat) {Y : List Spot} (hY : Ev (fun k => spec_l01Yard.f k p (sp x y)) Y) {n : Nat} (h1 : 1 ≤ n) (h5 : n ≤ 5) (hex : n ≤ Y.length → ∃ L, Gw p (sp x y) L ∧ L.length = n) :
 (Y.length < n ∧ Ev (fun k => spec_SmallYard.f k p (sp x y) (n : Int)) ([], 0, 6)) ∨ (n ≤ Y.length ∧ ∃ b, LB p (Full p (sp x y) n) b ∧ Ev (fun k => spec_SmallYard.f k p (sp x y) (n : Int)) (b, ((OS p b).length : Int), 0)) := by
 have hw := vP_okW hp
 obtain ⟨w1, w2⟩ := okW_iff.1 hw
 have hs : inP p [sp x y] := fun t ht => ⟨x, y, hx, hy, List.mem_singleton.1 ht⟩
 have hIa : spec_l01Is.f p (sp x y) = some true := (l01Is_eq v (sp x y) (VSpot_nat (x := x) (y := y) (by omega) (by omega))).trans (congrArg some ((cellB_sp hw).2 ⟨hx, hy⟩))
 have hAsk : Ev (fun k => spec_l01Asked.f k p (sp x y) true) 0 := by
   refine (specOk_ev v).bind ?_
   rw [hp]
   exact Ev.neg (by simp) (Ev.bind (Ev.const hIa) (Ev.neg (by simp) (Ev.neg (by simp) (Ev.const rfl))))
 have hwi : spec_l00In.f (n : Int) 1 6 = some true := by rw [l00In_eq, decide_eq_true (by omega)]
 rcases Nat.lt_or_ge Y.length n with hlt | hge
 ·exact .inl ⟨hlt, hAsk.bind (Ev.neg (by simp) (Ev.bind (Ev.const hwi) (Ev.neg (by simp) (hY.bind (Ev.pos (by omega) (Ev.const rfl))))))⟩
 have hcs : cellIn (sp x y) := ⟨x, y, by omega, by omega, rfl⟩
 have hmk : ∀ t, cellIn t → (mkd (putM noM y x) t ↔ t = sp x y) := fun t ht => by
   rw [mkd_put noM (by omega) (by omega) ht]
   constructor
   · rintro (h | h)
     · unfold mkd at h; rw [b2_no] at h; exact absurd h (by simp)
     · exact h
   · exact .inr
 have hG : GS p (sp x y) [] [sp x y] (putM noM y x) := by
   refine ⟨by simp, .inl ⟨rfl, rfl⟩, fun t ht => ?_, fun a ha => by simp at ha, hs, by simp⟩
   have e : t = sp x y := List.mem_singleton.1 ht
   subst e
   exact (hmk _ hcs).2 rfl
 have hst : StV p (sp x y) n (fun _ => False) (⟨p, (n : Int), [], 0⟩ : l03Search) := ⟨rfl, rfl, fun Z h => h.elim, .inl ⟨fun Z h => h, rfl⟩⟩
 obtain ⟨st', V', e1, e2, _, e4⟩ := grow_ev v hw hs h1 h5 n [] [sp x y] (putM noM y x) hG (by simp) _ _ hst
 have hV : ∀ Z, V' Z ↔ Full p (sp x y) n Z := fun Z => ⟨e2.full Z, fun ⟨L, l1, l2, l3⟩ => by
   rw [l3]
   refine e4 L ⟨l1, l2, fun a ha => by simp at ha, fun t ht hm => .inr (List.mem_singleton.2 ((hmk t ((l1.inP hw hs).cellIn hw t ht)).1 hm))⟩⟩
 obtain ⟨L, l1, l2⟩ := hex hge
 rcases e2.best with ⟨b1, _⟩ | ⟨b1, b2⟩
 ·exact absurd ((hV _).2 ⟨L, l1, l2, rfl⟩) (b1 _)
 refine .inr ⟨hge, st'.best, b1.congr hV, hAsk.bind (Ev.neg (by simp) (Ev.bind (Ev.const hwi) (Ev.neg (by simp) (hY.bind (Ev.neg (by omega) (Ev.bind (Ev.const (bR_get noM (show y < 10 by omega))) (Ev.bind (Ev.const (bA_get _ (show x < 10 by omega))) (Ev.bind (a := st') ?_ (Ev.const ?_)))))))))⟩
 ·exact e1
 rw [b2]
/-- Both ways. -/
theorem small_ev (v : VPasture p) (hp : vP p = true) {x y : Nat} (hx : x < p.Wide.toNat) (hy : y < p.High.toNat) {n : Nat} (h1 : 1 ≤ n) (h5 : n ≤ 5) :
 ∃ Y : List Spot, isYard p Y ∧ Y.Pairwise bef ∧ shutY p Y ∧ sp x y ∈ Y ∧ Ev (fun k => spec_l01Yard.f k p (sp x y)) Y ∧
 ((Y.length < n ∧ Ev (fun k => impl_SmallYard.f k p (sp x y) (n : Int)) ([], 0, 6) ∧ Ev (fun k => spec_SmallYard.f k p (sp x y) (n : Int)) ([], 0, 6)) ∨
 (n ≤ Y.length ∧ ∃ b, Full p (sp x y) n b ∧ Ev (fun k => impl_SmallYard.f k p (sp x y) (n : Int)) (b, ((OS p b).length : Int), 0) ∧ Ev (fun k => spec_SmallYard.f k p (sp x y) (n : Int)) (b, ((OS p b).length : Int), 0))) := by
 have hw := vP_okW hp
 have hs : inP p [sp x y] := fun t ht => ⟨x, y, hx, hy, List.mem_singleton.1 ht⟩
 obtain ⟨Y, y1, y2, y3, y4, y5, _⟩ := yard2_ev v hw hx hy
 have hYo := isYard_order y1
 refine ⟨Y, y1, hYo, y2, y3, y5, ?_⟩
 have hgr := fun h => gw_grow hw hx hy y1 (nodup_bef hYo) y4 n h1 h
 have hI := implSmall_ev v hp hs h1 h5
 rcases specSmall_ev v hp hx hy y5 h1 h5 hgr with ⟨a1, a2⟩ | ⟨a1, b, b1, b2⟩
 ·left
  refine ⟨a1, ?_, a2⟩
  rcases hI with ⟨_, h⟩ | ⟨b, ⟨⟨L, l1, l2, l3⟩, _⟩, _⟩
  ·exact h
  have := nodup_len l1.nodup (gw_yard hw hs y2 y3 l1)
  omega
 right
 refine ⟨a1, b, b1.1, ?_, b2⟩
 rcases hI with ⟨h, _⟩ | ⟨b', h1, h2⟩
 ·exact absurd b1.1 (h b)
 rw [b1.uniq h1]; exact h2
end Go.Proofs.YtegibnmfiogebaaGreat
/-
  Plain law: a set of cells fenced in is a yard.
-/
namespace Go.Proofs.YtegibnmfiogebaaGreat
open G
set_option linter.unusedVariables false
set_option linter.unusedSimpArgs false
variable {W H : Nat} {p q : Pasture} {Gr : Nat → Nat → Int} {E S : Nat → Nat → Bool} {s : Spot}
/-- A step, told by cells. -/
def stepT (W H : Nat) (E S : Nat → Nat → Bool) (y x y' x' : Nat) : Prop := (y' = y ∧ x' = x + 1 ∧ x + 1 < W ∧ E y x = false) ∨ (y' = y + 1 ∧ x' = x ∧ y + 1 < H ∧ S y x = false) ∨ (y' = y ∧ x' + 1 = x ∧ E y x' = false) ∨ (x' = x ∧ y' + 1 = y ∧ S y' x = false)
theorem nx3z (y : Nat) : nx (sp 0 y) 3 = ⟨-1, (y : Int)⟩ := by
 unfold nx sp; simp; rw [w8 (by omega) (by omega)]
theorem nx0z (x : Nat) : nx (sp x 0) 0 = ⟨(x : Int), -1⟩ := by
 unfold nx sp; simp; rw [w8 (by omega) (by omega)]
theorem open_cell {x y i : Nat} (h : openB p x y i = true) : cellB p (nx (sp x y) i).X (nx (sp x y) i).Y = true := by
 unfold openB at h
 rw [Bool.and_eq_true] at h
 exact h.1
theorem PD.step (h : PD W H Gr E S p) (hW : W ≤ 10) (hH : H ≤ 10) {y x y' x' : Nat} (hx : x < W) (hy : y < H) : stepP p y x y' x' ↔ stepT W H E S y x y' x' := by
 constructor
 ·rintro ⟨h1, h2, i, hi, ho, e⟩
  have hc := open_cell ho
  rcases (show i = 0 ∨ i = 1 ∨ i = 2 ∨ i = 3 by omega) with rfl | rfl | rfl | rfl
  ·rcases Nat.eq_zero_or_pos y with rfl | hp
   ·have e : nx (sp x 0) 0 = sp x' y' := e
    rw [nx0z] at e
    have := congrArg Spot.Y e
    have : (-1 : Int) = (y' : Int) := this
    omega
   have e : nx (sp x y) 0 = sp x' y' := e
   rw [nx0 hp (by omega)] at e
   obtain ⟨e1, e2⟩ := sp_inj' e
   have ho2 := open0 h.w h.h hW hH hp hx hy
   rw [ho, h.eS hW hH hx (by omega)] at ho2
   refine .inr (.inr (.inr ⟨e1.symm, by omega, ?_⟩))
   rw [show y' = y - 1 by omega, ← ho2]; rfl
  ·have e : nx (sp x y) 1 = sp x' y' := e
   have hc : cellB p (nx (sp x y) 1).X (nx (sp x y) 1).Y = true := hc
   rw [nx1 (by omega)] at e hc
   rw [h.cell, decide_eq_true_eq] at hc
   obtain ⟨e1, e2⟩ := sp_inj' e
   have ho2 := open1 h.w h.h hW hH hc.1 hy
   rw [ho, h.eE hW hH hc.1 hy] at ho2
   exact .inl ⟨e2.symm, e1.symm, hc.1, ho2.symm⟩
  ·have e : nx (sp x y) 2 = sp x' y' := e
   have hc : cellB p (nx (sp x y) 2).X (nx (sp x y) 2).Y = true := hc
   rw [nx2 (by omega)] at e hc
   rw [h.cell, decide_eq_true_eq] at hc
   obtain ⟨e1, e2⟩ := sp_inj' e
   have ho2 := open2 h.w h.h hW hH hx hc.2
   rw [ho, h.eS hW hH hx hc.2] at ho2
   exact .inr (.inl ⟨e2.symm, e1.symm, hc.2, ho2.symm⟩)
  rcases Nat.eq_zero_or_pos x with rfl | hp
  ·have e : nx (sp 0 y) 3 = sp x' y' := e
   rw [nx3z] at e
   have := congrArg Spot.X e
   have : (-1 : Int) = (x' : Int) := this
   omega
  have e : nx (sp x y) 3 = sp x' y' := e
  rw [nx3 hp (by omega)] at e
  obtain ⟨e1, e2⟩ := sp_inj' e
  have ho2 := open3 h.w h.h hW hH hp hx hy
  rw [ho, h.eE hW hH (by omega) hy] at ho2
  refine .inr (.inr (.inl ⟨e2.symm, by omega, ?_⟩))
  rw [show x' = x - 1 by omega, ← ho2]; rfl
 rintro (⟨rfl, rfl, c, o⟩ | ⟨rfl, rfl, c, o⟩ | ⟨rfl, rfl, o⟩ | ⟨rfl, rfl, o⟩)
 ·have ho := open1 h.w h.h hW hH c hy
  rw [h.eE hW hH c hy, o] at ho
  exact ⟨by omega, by omega, 1, by omega, by simpa using ho, nx1 (by omega)⟩
 ·have ho := open2 h.w h.h hW hH hx c
  rw [h.eS hW hH hx c, o] at ho
  exact ⟨by omega, by omega, 2, by omega, by simpa using ho, nx2 (by omega)⟩
 ·have ho := open3 h.w h.h hW hH (x := x' + 1) (by omega) hx hy
  rw [Nat.add_sub_cancel, h.eE hW hH hx hy, o] at ho
  exact ⟨by omega, by omega, 3, by omega, by simpa using ho, nx3 (x := x' + 1) (by omega) (by omega)⟩
 have ho := open0 h.w h.h hW hH (y := y' + 1) (by omega) hx hy
 rw [Nat.add_sub_cancel, h.eS hW hH hx hy, o] at ho
 exact ⟨by omega, by omega, 0, by omega, by simpa using ho, nx0 (y := y' + 1) (by omega) (by omega)⟩
/-! ### Hurdles put -/
def putO (p : Pasture) (l : List Hurdle) : Pasture := l.foldl (fun p h => putB p h.At.X.toNat h.At.Y.toNat h.South true) p
theorem with_ev {l : List Hurdle} (hl : ∀ h ∈ l, ∃ x y s, x < 10 ∧ y < 10 ∧ h = hu x y s) (hn : l.length ≤ 1000) (p : Pasture) : Ev (fun k => impl_Pasture_with.f k p l true) (putO p l) ∧ Ev (fun k => spec_l03Put.f k p l true) (putO p l) := by
 have key : ∀ i, i ≤ l.length → ∀ p : Pasture, Ev (fun k => impl_Pasture_with.l1 l true k p (i : Int)) (putO p (l.drop i)) ∧ Ev (fun k => spec_l03Put.l1 l true k p (i : Int)) (putO p (l.drop i)) := by
   refine upL ?_ ?_
   · intro p
     rw [List.drop_length]
     exact ⟨Ev.step (fun k => impl_Pasture_with.l1.eq_2 _ _ _ _ _) (Ev.neg (by omega) (Ev.const rfl)), Ev.step (fun k => spec_l03Put.l1.eq_2 _ _ _ _ _) (Ev.neg (by omega) (Ev.const rfl))⟩
   · intro i hi ih p
     obtain ⟨x, y, s, hx, hy, e⟩ := hl _ (List.getElem_mem hi)
     have g : getI l (i : Int) = some (hu x y s) := (getI_nat hi).trans (congrArg some e)
     obtain ⟨a, b⟩ := ih (putB p x y s true)
     rw [← wsucc hi (by omega)] at a b
     rw [List.drop_eq_getElem_cons hi, e]
     have hS : spec_l01Set.f p (sp x y) (sdI s : Int) true = some (putB p x y s true) := by
       have := putS_eq p hx hy s true
       cases s <;> exact this
     exact ⟨Ev.step (fun k => impl_Pasture_with.l1.eq_2 _ _ _ _ _) (Ev.pos (by omega) (Ev.bind (Ev.const g) (Ev.bind (Ev.const (putI_eq p hx hy s true)) a))), Ev.step (fun k => spec_l03Put.l1.eq_2 _ _ _ _ _) (Ev.pos (by omega) (Ev.bind (Ev.const g) (Ev.bind (Ev.const g) (Ev.bind (Ev.const (side_eq _)) (Ev.bind (Ev.const hS) b)))))⟩
 obtain ⟨a, b⟩ := key 0 (Nat.zero_le _) p
 rw [List.drop_zero] at a b
 exact ⟨a.bind (Ev.const rfl), b.bind (Ev.const rfl)⟩
theorem hu_inj {x y x' y' : Nat} {s s' : Bool} : hu x y s = hu x' y' s' ↔ (x = x' ∧ y = y') ∧ s = s' := by
 constructor
 ·intro h
  exact ⟨sp_inj.1 (congrArg Hurdle.At h), congrArg Hurdle.South h⟩
 rintro ⟨⟨rfl, rfl⟩, rfl⟩; rfl
theorem PD.putO (hW : W ≤ 10) (hH : H ≤ 10) : ∀ (l : List Hurdle) {p : Pasture} {E S : Nat → Nat → Bool}, PD W H Gr E S p → (∀ g ∈ l, ∃ x y s, (if s = true then x < W ∧ y + 1 < H else x + 1 < W ∧ y < H) ∧ g = hu x y s) →
 PD W H Gr (fun y x => E y x || decide (hu x y false ∈ l)) (fun y x => S y x || decide (hu x y true ∈ l)) (putO p l)
  | [], p, E, S, h, _ => h.congr (fun _ _ _ _ => rfl) (fun y x _ _ => by simp) (fun y x _ _ => by simp)
  | g :: l, p, E, S, h, hl => by
    obtain ⟨x, y, s, hb, rfl⟩ := hl _ (List.mem_cons_self ..)
    have hxy : x < 10 ∧ y < 10 := by split at hb <;> omega
    have h1 := PD.putO hW hH l (h.put hxy.1 hxy.2 s true (fun _ => hb)) (fun g hg => hl g (List.mem_cons_of_mem _ hg))
    have ed : ∀ (b a : Nat) (r : Bool), decide (hu a b r ∈ hu x y s :: l) = (decide ((b = y ∧ a = x) ∧ r = s) || decide (hu a b r ∈ l)) := fun b a r => by
      rw [← Bool.decide_or, decide_eq_decide, List.mem_cons, hu_inj]
      constructor
      · rintro (⟨⟨h1, h2⟩, h3⟩ | h)
        · exact .inl ⟨⟨h2, h1⟩, h3⟩
        · exact .inr h
      · rintro (⟨⟨h1, h2⟩, h3⟩ | h)
        · exact .inl ⟨⟨h2, h1⟩, h3⟩
        · exact .inr h
    refine PD.congr h1 (fun _ _ _ _ => rfl) (fun b a _ _ => ?_) (fun b a _ _ => ?_)
    · simp only [ed]
      cases s
      · simp only [Bool.false_eq_true, if_false, upd]
        by_cases c : b = y ∧ a = x <;> simp [c]
      · simp
    · simp only [ed]
      cases s
      · simp
      · simp only [if_true, upd]
        by_cases c : b = y ∧ a = x <;> simp [c]
theorem isB_iff (hw : okW p = true) {x y : Nat} {s : Bool} (hx : x < p.Wide.toNat) (hy : y < p.High.toNat) : isB p x y s = true ↔ if s = true then y + 1 < p.High.toNat else x + 1 < p.Wide.toNat := by
 obtain ⟨w1, w2⟩ := okW_iff.1 hw
 cases s
 ·show cellB p (nx (sp x y) 1).X (nx (sp x y) 1).Y = true ↔ x + 1 < p.Wide.toNat
  rw [nx1 (by omega)]
  exact (cellB_sp hw).trans ⟨fun h => h.1, fun h => ⟨h, hy⟩⟩
 show cellB p (nx (sp x y) 2).X (nx (sp x y) 2).Y = true ↔ y + 1 < p.High.toNat
 rw [nx2 (by omega)]
 exact (cellB_sp hw).trans ⟨fun h => h.2, fun h => ⟨hx, h⟩⟩
theorem OS_hu {T : List Spot} {x y x' y' : Nat} {s : Bool} (hx : x < p.Wide.toNat) (hy : y < p.High.toNat) (hi : isB p x y s = true) (e : nx (sp x y) (sdI s) = sp x' y') (hst : stB p x y s = false) : hu x y s ∈ OS p T ↔ ¬ (sp x y ∈ T ↔ sp x' y' ∈ T) := by
 rw [OS_mem, dif_iff]
 show told p (hu x y s) ∧ ((sp x y ∈ T ∧ nx (sp x y) (sdI s) ∉ T) ∨ (sp x y ∉ T ∧ nx (sp x y) (sdI s) ∈ T)) ∧ stB p x y s = false ↔ _
 rw [e]
 constructor
 ·rintro ⟨_, h | h, _⟩ k
  ·exact h.2 (k.1 h.1)
  exact h.1 (k.2 h.2)
 intro k
 refine ⟨⟨x, y, s, hx, hy, hi, rfl⟩, ?_, hst⟩
 by_cases a : sp x y ∈ T
 ·exact .inl ⟨a, fun b => k ⟨fun _ => b, fun _ => a⟩⟩
 by_cases b : sp x' y' ∈ T
 ·exact .inr ⟨a, b⟩
 exact absurd ⟨fun h => absurd h a, fun h => absurd h b⟩ k
/-- The pasture with all open sides shut. -/
theorem enc_PD (v : VPasture p) (hp : vP p = true) (T : List Spot) : PD p.Wide.toNat p.High.toNat (gG p) (fun y x => btB (gA p.East y) x || decide (hu x y false ∈ OS p T)) (fun y x => btB (gA p.South y) x || decide (hu x y true ∈ OS p T)) (putO p (OS p T)) := by
 have hw := vP_okW hp
 obtain ⟨w1, w2⟩ := okW_iff.1 hw
 refine PD.putO (by omega) (by omega) _ (PD.of v hp) fun g hg => ?_
 obtain ⟨x, y, s, hx, hy, hi, rfl⟩ := (OS_mem.1 hg).1
 refine ⟨x, y, s, ?_, rfl⟩
 have := (isB_iff hw hx hy).1 hi
 split at this
 ·rename_i c; rw [if_pos c]; exact ⟨hx, this⟩
 rename_i c; rw [if_neg c]; exact ⟨this, hy⟩
theorem enc_step (v : VPasture p) (hp : vP p = true) {T : List Spot} {x y x' y' : Nat} (hx : x < p.Wide.toNat) (hy : y < p.High.toNat) : stepP (putO p (OS p T)) y x y' x' ↔ stepP p y x y' x' ∧ (sp x y ∈ T ↔ sp x' y' ∈ T) := by
 have hw := vP_okW hp
 obtain ⟨w1, w2⟩ := okW_iff.1 hw
 rw [(enc_PD v hp T).step (by omega) (by omega) hx hy, (PD.of v hp).step (by omega) (by omega) hx hy]
 have kE : ∀ {a b : Nat}, a + 1 < p.Wide.toNat → b < p.High.toNat → (((btB (gA p.East b) a || decide (hu a b false ∈ OS p T)) = false) ↔ btB (gA p.East b) a = false ∧ (sp a b ∈ T ↔ sp (a + 1) b ∈ T)) := fun {a b} ha hb => by
   rw [Bool.or_eq_false_iff, decide_eq_false_iff_not]
   constructor
   · rintro ⟨h1, h2⟩
     refine ⟨h1, Classical.byContradiction fun h => h2 ((OS_hu (x := a) (y := b) (s := false) (by omega) hb ((isB_iff hw (by omega) hb).2 (by simpa using ha)) (nx1 (show a < 10 by omega)) (show stB p a b false = false from h1)).2 h)⟩
   · rintro ⟨h1, h2⟩
     exact ⟨h1, fun h => (OS_hu (x := a) (y := b) (s := false) (by omega) hb ((isB_iff hw (by omega) hb).2 (by simpa using ha)) (nx1 (show a < 10 by omega)) (show stB p a b false = false from h1)).1 h h2⟩
 have kS : ∀ {a b : Nat}, a < p.Wide.toNat → b + 1 < p.High.toNat → (((btB (gA p.South b) a || decide (hu a b true ∈ OS p T)) = false) ↔ btB (gA p.South b) a = false ∧ (sp a b ∈ T ↔ sp a (b + 1) ∈ T)) := fun {a b} ha hb => by
   rw [Bool.or_eq_false_iff, decide_eq_false_iff_not]
   constructor
   · rintro ⟨h1, h2⟩
     refine ⟨h1, Classical.byContradiction fun h => h2 ((OS_hu (x := a) (y := b) (s := true) ha (by omega) ((isB_iff hw ha (by omega)).2 (by simpa using hb)) (nx2 (show b < 10 by omega)) (show stB p a b true = false from h1)).2 h)⟩
   · rintro ⟨h1, h2⟩
     exact ⟨h1, fun h => (OS_hu (x := a) (y := b) (s := true) ha (by omega) ((isB_iff hw ha (by omega)).2 (by simpa using hb)) (nx2 (show b < 10 by omega)) (show stB p a b true = false from h1)).1 h h2⟩
 unfold stepT
 constructor
 ·rintro (⟨rfl, rfl, h3, h4⟩ | ⟨rfl, rfl, h3, h4⟩ | ⟨rfl, rfl, h4⟩ | ⟨rfl, rfl, h4⟩)
  ·have := (kE h3 hy).1 h4; exact ⟨.inl ⟨rfl, rfl, h3, this.1⟩, this.2⟩
  ·have := (kS hx h3).1 h4; exact ⟨.inr (.inl ⟨rfl, rfl, h3, this.1⟩), this.2⟩
  ·have := (kE hx hy).1 h4; exact ⟨.inr (.inr (.inl ⟨rfl, rfl, this.1⟩)), this.2.symm⟩
  have := (kS hx hy).1 h4; exact ⟨.inr (.inr (.inr ⟨rfl, rfl, this.1⟩)), this.2.symm⟩
 rintro ⟨⟨rfl, rfl, h3, h4⟩ | ⟨rfl, rfl, h3, h4⟩ | ⟨rfl, rfl, h4⟩ | ⟨rfl, rfl, h4⟩, h5⟩
 ·exact .inl ⟨rfl, rfl, h3, (kE h3 hy).2 ⟨h4, h5⟩⟩
 ·exact .inr (.inl ⟨rfl, rfl, h3, (kS hx h3).2 ⟨h4, h5⟩⟩)
 ·exact .inr (.inr (.inl ⟨rfl, rfl, (kE hx hy).2 ⟨h4, h5.symm⟩⟩))
 exact .inr (.inr (.inr ⟨rfl, rfl, (kS hx hy).2 ⟨h4, h5.symm⟩⟩))
end Go.Proofs.YtegibnmfiogebaaGreat
/-
  Plain law: fencing in, yards and cells beside, as the law asks.
-/
namespace Go.Proofs.YtegibnmfiogebaaGreat
open G
set_option linter.unusedVariables false
set_option linter.unusedSimpArgs false
variable {W H : Nat} {p q : Pasture} {Gr : Nat → Nat → Int} {E S : Nat → Nat → Bool} {s : Spot}
theorem sameSpots_ev {Y : List Spot} (hl : Y.length ≤ 1000) : Ev (fun k => spec_SameSpots.f k Y Y) true := by
 have key : ∀ i, i ≤ Y.length → Ev (fun k => spec_SameSpots.l1 Y Y k (i : Int)) (.inr ()) := by
   refine upL ?_ ?_
   · exact Ev.step (fun k => spec_SameSpots.l1.eq_2 _ _ _ _) (Ev.neg (by omega) (Ev.const rfl))
   · intro i hi ih
     rw [← wsucc hi (by omega)] at ih
     exact Ev.step (fun k => spec_SameSpots.l1.eq_2 _ _ _ _) (Ev.pos (by omega) (Ev.bind (Ev.const (getI_nat hi)) (Ev.bind (Ev.const (getI_nat hi)) (Ev.neg (by simp) ih))))
 exact Ev.neg (by simp) ((key 0 (Nat.zero_le _)).bind (Ev.const rfl))
theorem spot_ev {c : List Int} (hc : byteL c) (hw : p.Wide = (W : Int)) (hh : p.High = (H : Int)) (hW : 1 ≤ W ∧ W ≤ 10) (hH : 1 ≤ H ∧ H ≤ 10) : ∃ x y : Nat, x < W ∧ y < H ∧ spec_P6Spot.f c p = some (sp x y) := by
 obtain ⟨x, a1, s1, e1, x0, x1, q1, q1'⟩ := pick_ok hc (at_ := 0) (seed := 0) (by omega) (by omega) (W : Int)
 obtain ⟨y, a2, s2, e2, y0, y1, q2, q2'⟩ := pick_ok hc (at_ := a1) (seed := s1) (by omega) (by omega) (H : Int)
 obtain ⟨X, rfl⟩ := Int.eq_ofNat_of_zero_le x0
 obtain ⟨Y, rfl⟩ := Int.eq_ofNat_of_zero_le y0
 refine ⟨X, Y, by omega, by omega, ?_⟩
 unfold spec_P6Spot.f spec_l00From.f
 simp only [Option.bind_some]
 rw [hw, hh, w64 (x := (W : Int)) (by omega) (by omega), w64 (x := (H : Int)) (by omega) (by omega), e1, Option.bind_some, e2, Option.bind_some, w8 (x := (X : Int)) (by omega) (by omega), w8 (x := (Y : Int)) (by omega) (by omega)]
 rfl
theorem pickC_ev {c : List Int} (hc : byteL c) : ∃ v, spec_P6Pick.f c 5 = some v ∧ 0 ≤ v ∧ v ≤ 4 := by
 obtain ⟨d, a1, s1, e1, d0, d1, q1, q1'⟩ := pick_ok hc (at_ := 0) (seed := 0) (by omega) (by omega) 5
 refine ⟨d, ?_, d0, by omega⟩
 unfold spec_P6Pick.f spec_l00From.f
 simp only [Option.bind_some]
 rw [e1]; rfl
theorem told_ten (hw : okW p = true) {T : List Spot} : ∀ h ∈ OS p T, ∃ x y s, x < 10 ∧ y < 10 ∧ h = hu x y s := fun h hh => by
  obtain ⟨w1, w2⟩ := okW_iff.1 hw
  obtain ⟨x, y, s, hx, hy, _, e⟩ := (OS_mem.1 hh).1
  exact ⟨x, y, s, by omega, by omega, e⟩
theorem openS_ev (v : VPasture p) (hp : vP p = true) {T : List Spot} (hT : inP p T) (hs : T.Pairwise bef) (hl : T.length ≤ 1000) : Ev (fun k => impl_OpenSides.f k p T) (OS p T, 0) ∧ Ev (fun k => spec_OpenSides.f k p T) (OS p T, 0) := by
 have hw := vP_okW hp
 obtain ⟨c1, c2⟩ := code0 v hp hT hl
 obtain ⟨m, m1, m2⟩ := mask_ev (hT.cellIn hw) hl
 exact ⟨c1.bind (Ev.neg (by simp) ((implOpen_ev v hw hT hs hl).bind (Ev.const rfl))), c2.bind (Ev.neg (by simp) (m1.bind ((specOpen_ev v hw m2).bind (Ev.const rfl))))⟩
theorem encl_ev (v : VPasture p) (hp : vP p = true) {T : List Spot} (hT : inP p T) (hs : T.Pairwise bef) (hl : T.length ≤ 1000) : Ev (fun k => impl_EncloseCells.f k p T) (putO p (OS p T), ((OS p T).length : Int), 0) ∧ Ev (fun k => spec_EncloseCells.f k p T) (putO p (OS p T), ((OS p T).length : Int), 0) := by
 have hw := vP_okW hp
 obtain ⟨c1, c2⟩ := code0 v hp hT hl
 obtain ⟨o1, o2⟩ := openS_ev v hp hT hs hl
 have hn := OS_len hw T
 obtain ⟨w1, w2⟩ := with_ev (told_ten hw (T := T)) (by omega) p
 exact ⟨c1.bind (Ev.neg (by simp) ((implOpen_ev v hw hT hs hl).bind (w1.bind (Ev.bind (Ev.const (show impl_size_impl_Hurdle.f (OS p T) = some _ from rfl)) (Ev.const rfl))))), o2.bind (Ev.neg (by simp) (w2.bind (Ev.const rfl)))⟩
theorem encYard_ev (v : VPasture p) (hp : vP p = true) {x y : Nat} (hx : x < p.Wide.toNat) (hy : y < p.High.toNat) {n : Nat} {T : List Spot} (hT : Full p (sp x y) n T) : Ev (fun k => impl_YardOf.f k (putO p (OS p T)) (sp x y)) (T, 0) := by
 have hw := vP_okW hp
 obtain ⟨w1, w2⟩ := okW_iff.1 hw
 have hs : inP p [sp x y] := fun t ht => ⟨x, y, hx, hy, List.mem_singleton.1 ht⟩
 obtain ⟨L, l1, l2, rfl⟩ := hT
 have hTp := inP_ord (l1.inP hw hs)
 have hpd := enc_PD v hp (ord L)
 have hG : ∀ b a, a < p.Wide.toNat → b < p.High.toNat → 0 ≤ gG p b a ∧ gG p b a ≤ 1000 := fun b a ha hb => (vP_G hp (show b < 10 by omega) (show a < 10 by omega)).1
 have v' := hpd.V (by omega) (by omega) hG
 have hp' := hpd.ok (by omega) (by omega) hG
 have hw' := vP_okW hp'
 have eW : (putO p (OS p (ord L))).Wide.toNat = p.Wide.toNat := by rw [hpd.w]; omega
 have eH : (putO p (OS p (ord L))).High.toNat = p.High.toNat := by rw [hpd.h]; omega
 obtain ⟨Y, y1, y2, y3, y4, _, y6⟩ := yard2_ev v' hw' (x := x) (y := y) (by omega) (by omega)
 have hs' : inP (putO p (OS p (ord L))) [sp x y] := fun t ht => ⟨x, y, by omega, by omega, List.mem_singleton.1 ht⟩
 have e : Y = ord L := by
   refine srtS (isYard_order y1) (ord_srt L) fun t => ⟨fun ht => ?_, fun ht => ?_⟩
   · obtain ⟨a, b, ha, hb, rfl⟩ := isYard_mem y1 ht
     refine y4 (fun b a => sp a b ∈ ord L) (fun b a b' a' hb ha hm hst => ?_) (ord_mem.2 l1.start) b a (by omega) (by omega) ht
     obtain ⟨a1, b1, ha1, hb1, e1⟩ := hTp _ hm
     obtain ⟨rfl, rfl⟩ := sp_inj' e1
     exact ((enc_step v hp ha1 hb1).1 hst).2.1 hm
   · have key : ∀ M, Gw p (sp x y) M → (∀ z ∈ M, z ∈ ord L) → ∀ z ∈ M, z ∈ Y := by
       intro M hM
       induction hM with
       | one => intro _ z hz; rw [List.mem_singleton.1 hz]; exact y3
       | @add M a t h1 ha ht _ ih =>
         intro hsub z hz
         have hin := fun z hz => hsub z (List.mem_append_left _ hz)
         rcases List.mem_append.1 hz with hz | hz
         · exact ih hin z hz
         · have hay := ih hin a ha
           have haT := hin a ha
           have htT := hsub t (List.mem_append_right _ (List.mem_singleton.2 rfl))
           rw [List.mem_singleton.1 hz]
           obtain ⟨a1, b1, ha1, hb1, rfl⟩ := hTp _ haT
           obtain ⟨a2, b2, _, _, rfl, hst⟩ := nbL_in hw ht
           exact y2 b1 a1 b2 a2 (by omega) (by omega) hay ((enc_step v hp ha1 hb1).2 ⟨hst, fun _ => htT, fun _ => haT⟩)
     exact key L l1 (fun z hz => ord_mem.2 hz) t (ord_mem.1 ht)
 rw [e] at y6
 exact (code0 v' hp' hs' (by simp)).1.bind (Ev.neg (by simp) (y6.bind (Ev.const rfl)))
/-- What is shut has no open sides. -/
theorem shut_OS (hw : okW p = true) {Y : List Spot} (hY : shutY p Y) (hYp : inP p Y) : OS p Y = [] := by
 obtain ⟨w1, w2⟩ := okW_iff.1 hw
 rw [List.eq_nil_iff_forall_not_mem]
 intro h hh
 obtain ⟨⟨x, y, s, hx, hy, hi, rfl⟩, hd, hst⟩ := OS_mem.1 hh
 obtain ⟨x', y', hx', hy', e1, _⟩ := hu_sides hw hx hy hi
 have hst : stB p x y s = false := hst
 have h1 : stepP p y x y' x' := by
   refine ⟨by omega, by omega, sdI s, by unfold sdI; split <;> omega, ?_, e1⟩
   unfold openB
   rw [Bool.and_eq_true]
   refine ⟨hi, ?_⟩
   cases s
   · show (!stB p x y false) = true
     rw [hst]; rfl
   · show (!stB p x y true) = true
     rw [hst]; rfl
 have h2 := step_back hw (show y < 10 by omega) (show x < 10 by omega) ((cellB_sp hw).2 ⟨hx, hy⟩) h1
 rw [dif_iff] at hd
 change (sp x y ∈ Y ∧ nx (sp x y) (sdI s) ∉ Y) ∨ (sp x y ∉ Y ∧ nx (sp x y) (sdI s) ∈ Y) at hd
 rw [e1] at hd
 rcases hd with ⟨a, b⟩ | ⟨a, b⟩
 ·exact b (hY y x y' x' (by omega) (by omega) a h1)
 exact a (hY y' x' y x (by omega) (by omega) b h2)
/-- The open sides of one cell are its ways out. -/
theorem nx_ne {x y i : Nat} (hx : x < 10) (hy : y < 10) (hi : i < 4) : nx (sp x y) (i : Int) ≠ sp x y := by
 rcases side hi with rfl | rfl | rfl | rfl <;> intro h
 ·have := congrArg Spot.Y h
  change IntKind.i8.wrap ((y : Int) - 1) = (y : Int) at this
  rw [w8 (by omega) (by omega)] at this; omega
 ·have := congrArg Spot.X h
  change IntKind.i8.wrap ((x : Int) + 1) = (x : Int) at this
  rw [w8 (by omega) (by omega)] at this; omega
 ·have := congrArg Spot.Y h
  change IntKind.i8.wrap ((y : Int) + 1) = (y : Int) at this
  rw [w8 (by omega) (by omega)] at this; omega
 have := congrArg Spot.X h
 change IntKind.i8.wrap ((x : Int) - 1) = (x : Int) at this
 rw [w8 (by omega) (by omega)] at this; omega
theorem one_sides (hw : okW p = true) {x y : Nat} (hx : x < p.Wide.toNat) (hy : y < p.High.toNat) : ∀ n i, i + n ≤ 4 → ((sd4 p [sp x y] (sp x y) n i).filter fun h => !stH p h).length = (nbs p x y n i).length
  | 0, i, _ => rfl
  | n + 1, i, h4 => by
    obtain ⟨w1, w2⟩ := okW_iff.1 hw
    rw [sd4, nbs, List.filter_append, List.length_append, List.length_append, one_sides hw hx hy n (i + 1) (by omega)]
    congr 1
    have hne := nx_ne (x := x) (y := y) (by omega) (by omega) (show i < 4 by omega)
    cases c : cellB p (nx (sp x y) (i : Int)).X (nx (sp x y) (i : Int)).Y
    · rw [if_neg (by unfold sdC; rw [c]; simp), if_neg (by unfold openB; rw [c]; simp)]; rfl
    · have hsd : sdC p [sp x y] (sp x y) i = true := sdC_iff.2 ⟨c, fun h => hne (List.mem_singleton.1 h)⟩
      obtain ⟨_, _, a, b, s, _, _, _, e2, _, _, _, e3, _⟩ := hA_ends hw hx hy (show i < 4 by omega) c
      have e4 : stH p (hA (sp x y) i) = hurB p x y i := by rw [e2]; exact e3
      rw [if_pos hsd, List.filter_cons, e4]
      unfold openB
      rw [c]
      cases hurB p x y i <;> rfl
theorem one_OS (v : VPasture p) (hw : okW p = true) {x y : Nat} (hx : x < p.Wide.toNat) (hy : y < p.High.toNat) : (OS p [sp x y]).length = (nbs p x y 4 0).length := by
 have hs : inP p [sp x y] := fun t ht => ⟨x, y, hx, hy, List.mem_singleton.1 ht⟩
 have hn : ((sdL p [sp x y] [sp x y]).filter fun h => !stH p h).Nodup := (sdL_nodup hw hs (by simp)).filter _
 have hn2 : (OS p [sp x y]).Nodup := by
   refine (((gridH_order (p := p) (W := p.Wide.toNat) p.High.toNat 0).filter _ : (OS p [sp x y]).Pairwise befH)).imp fun {a b} k (e : a = b) => by
     subst e; exact befH_as _ _ k k
 have hperm := (List.perm_ext_iff_of_nodup hn hn2).2 fun h => by
   rw [List.mem_filter, sdL_mem hw hs, OS_mem, Bool.not_eq_true', and_assoc]
 rw [← hperm.length_eq, ← one_sides hw hx hy 4 0 (by omega)]
 unfold sdL
 rw [List.flatMap_cons, List.flatMap_nil, List.append_nil]
end Go.Proofs.YtegibnmfiogebaaGreat
/-
  Plain law of FnSmallYards: it answers yes.
-/
namespace Go.Proofs.YtegibnmfiogebaaGreat
open G
set_option linter.unusedVariables false
set_option linter.unusedSimpArgs false
theorem FnSmallYards.pure (x0 : List Int) (hv0 : ∀ x ∈ x0, (inI .u8) x) (hb0 : x0.length * 1 ≤ 140737488351232) (x1 : List Int) (hv1 : ∀ x ∈ x1, (inI .u8) x) (hb1 : x1.length * 1 ≤ 140737488351232) : ∃ k, laws_FnSmallYards.f k x0 x1 = some true := by
 refine Ev.get (r := true) ?_
 have b0 : laws_f6big.f x0 = some (decide (4096 < (x0.length : Int))) := rfl
 have b1 : laws_f6big.f x1 = some (decide (4096 < (x1.length : Int))) := rfl
 by_cases h0 : 4096 < (x0.length : Int)
 ·exact Ev.bind (a := true) (Ev.bind (Ev.const b0) (Ev.pos (decide_eq_true h0) (Ev.const rfl))) (Ev.pos rfl (Ev.const rfl))
 by_cases h1 : 4096 < (x1.length : Int)
 ·exact Ev.bind (a := true) (Ev.bind (Ev.const b0) (Ev.neg (by simpa using h0) (Ev.bind (Ev.const b1) (Ev.const (by rw [decide_eq_true h1]))))) (Ev.pos rfl (Ev.const rfl))
 refine Ev.bind (a := false) (Ev.bind (Ev.const b0) (Ev.neg (by simpa using h0) (Ev.bind (Ev.const b1) (Ev.const (by rw [decide_eq_false h1]))))) (Ev.neg (by simp) ?_)
 obtain ⟨W, H, p, hW5, hH5, dr, ep⟩ := pasture_ev (byteL_of hv0)
 have hW : 1 ≤ W ∧ W ≤ 10 := by omega
 have hH : 1 ≤ H ∧ H ≤ 10 := by omega
 have hc1 := byteL_of hv1
 obtain ⟨x, y, hx, hy, ea⟩ := spot_ev hc1 dr.w dr.h hW hH
 obtain ⟨d, ed, d0, d4⟩ := pickC_ev hc1
 have v := dr.V hW.2 hH.2
 have hp := dr.ok hW hH
 have hw := vP_okW hp
 have eW : p.Wide.toNat = W := by rw [dr.w]; omega
 have eH : p.High.toNat = H := by rw [dr.h]; omega
 rw [← eW] at hx
 rw [← eH] at hy
 obtain ⟨n, hn⟩ := Int.eq_ofNat_of_zero_le (show 0 ≤ 1 + d by omega)
 have wn : IntKind.i64.wrap (1 + d) = (n : Int) := by rw [w64 (by omega) (by omega)]; exact hn
 have n1 : 1 ≤ n := by omega
 have n5 : n ≤ 5 := by omega
 have hs : inP p [sp x y] := fun t ht => ⟨x, y, hx, hy, List.mem_singleton.1 ht⟩
 obtain ⟨Y, y1, y2, y3, y4, y5, hcase⟩ := small_ev v hp hx hy n1 n5
 have hIa : spec_l01Is.f p (sp x y) = some true := (l01Is_eq v (sp x y) (VSpot_nat (x := x) (y := y) (by omega) (by omega))).trans (congrArg some ((cellB_sp hw).2 ⟨hx, hy⟩))
 have hAsk : Ev (fun k => spec_l01Asked.f k p (sp x y) true) 0 := by
   refine (specOk_ev v).bind ?_
   rw [hp]
   exact Ev.neg (by simp) (Ev.bind (Ev.const hIa) (Ev.neg (by simp) (Ev.neg (by simp) (Ev.const rfl))))
 have yS : Ev (fun k => spec_YardOf.f k p (sp x y)) (Y, 0) := hAsk.bind (Ev.neg (by simp) (y5.bind (Ev.const rfl)))
 have hYl := isYard_len hw y1
 have hYp : inP p Y := fun z hz => isYard_mem y1 hz
 refine ep.bind (Ev.bind (Ev.const ea) (Ev.bind (Ev.const ed) ?_))
 simp only [wn]
 rcases hcase with ⟨c1, cI, cS⟩ | ⟨c1, T, hT, cI, cS⟩
 ·have s0 : Ev (fun k => spec_SameSpots.f k ([] : List Spot) []) true := sameSpots_ev (by simp)
  refine cI.bind (cS.bind (yS.bind (Ev.bind (a := false) (Ev.neg (by simp) (s0.bind (Ev.neg (by simp) (Ev.neg (by simp) (Ev.neg (by simp) (Ev.const ?_)))))) (Ev.neg (by simp) (Ev.pos (by simp) (Ev.const (by simp)))))))
  rw [decide_eq_false (show ¬ (n : Int) ≤ (Y.length : Int) by omega)]
  simp
 have hTl := hT.len
 obtain ⟨L, l1, l2, l3⟩ := id hT
 have hTp : inP p T := by rw [l3]; exact inP_ord (l1.inP hw hs)
 have hTs : T.Pairwise bef := by rw [l3]; exact ord_srt L
 have sT : Ev (fun k => spec_SameSpots.f k T T) true := sameSpots_ev (by omega)
 obtain ⟨e1, e2⟩ := encl_ev v hp hTp hTs (by omega)
 have yq := encYard_ev v hp hx hy hT
 have oT := (openS_ev v hp hTp hTs (by omega)).1
 refine cI.bind (cS.bind (yS.bind (Ev.bind (a := false) (Ev.neg (by simp) (sT.bind (Ev.neg (by simp) (Ev.neg (by simp) (Ev.neg (by simp) (Ev.const ?_)))))) (Ev.neg (by simp) (Ev.neg (by simp) (e1.bind (e2.bind (yq.bind (oT.bind (Ev.bind (a := false) ?_ (Ev.neg (by simp) ?_))))))))))) 
 ·rw [decide_eq_true (show (n : Int) ≤ (Y.length : Int) by omega)]
  simp
 ·refine Ev.neg (by simp) (Ev.neg (by simp) (Ev.neg (by simp) (Ev.neg (by simp) (Ev.neg (by simp) (Ev.neg (by simp) (sT.bind (Ev.neg (by simp) (Ev.neg ?_ (Ev.neg (by simp) (Ev.const (by simp)))))))))))
  show ¬ (T.length : Int) ≠ (n : Int)
  rw [hTl]; simp
 by_cases h1 : (n : Int) = 1
 ·have eT : T = [sp x y] := by
    refine srtS hTs (List.pairwise_singleton _ _) fun z => ?_
    have hz := nodup_same (A := [sp x y]) (B := L) (by simp) (fun z hz => by rw [List.mem_singleton.1 hz]; exact l1.start) (by rw [l2]; simp; omega) z
    rw [hz, l3, ord_mem]
  have hb : Ev (fun k => impl_BesideOf.f k p (sp x y)) (nbs p x y 4 0, 0) := by
    obtain ⟨w1, w2⟩ := okW_iff.1 hw
    exact (code0 v hp hs (by simp)).1.bind (Ev.neg (by simp) ((besideI_ev v hw (by omega) (by omega)).bind (Ev.const rfl)))
  refine Ev.pos h1 (hb.bind (Ev.bind (a := true) (Ev.pos rfl (Ev.const (congrArg some (decide_eq_true ?_)))) (Ev.const rfl)))
  show ((nbs p x y 4 0).length : Int) = ((OS p T).length : Int)
  rw [eT, one_OS v hw hx hy]
 have oY := (openS_ev v hp hYp y2 (by omega)).1
 rw [shut_OS hw y3 hYp] at oY
 refine Ev.neg h1 (oY.bind (Ev.pos rfl (Ev.pos rfl ?_)))
 by_cases h2 : (n : Int) < (Y.length : Int)
 ·exact Ev.pos h2 (Ev.const rfl)
 refine Ev.neg h2 (Ev.const (congrArg some (decide_eq_true ?_)))
 have hsub := nodup_same (nodup_bef hTs) (B := Y) (fun z hz => by rw [l3] at hz; exact gw_yard hw hs y3 y4 l1 z (ord_mem.1 hz)) (by omega)
 show ((OS p T).length : Int) = 0
 rw [OS_congr hsub, shut_OS hw y3 hYp]; rfl
end Go.Proofs.YtegibnmfiogebaaGreat
