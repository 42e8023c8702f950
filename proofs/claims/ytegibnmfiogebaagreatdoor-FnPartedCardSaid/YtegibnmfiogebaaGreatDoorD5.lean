import Derived.Test.YtegibnmfiogebaaGreatDoorDF
import Derived.Test.YtegibnmfiogebaaGreatDoorW4
/-
  Plain law: cells in order, each once.
-/
namespace Go.Proofs.YtegibnmfiogebaaGreatDoor
open G
set_option linter.unusedVariables false
set_option linter.unusedSimpArgs false
section
variable {W H : Nat} {p q : Pasture} {Gr : Nat → Nat → Int} {E S : Nat → Nat → Bool}
theorem indexS_loop (xs : List Spot) (s : Spot) (hx : xs.length ≤ 1048576) : ∀ i, i ≤ xs.length → ∃ r : Int ⊕ Unit, Ev (fun k => q0k.l1 xs s k (i : Int)) r ∧ ((s ∈ xs.drop i ∧ ∃ j : Nat, r = .inl (j : Int)) ∨ (s ∉ xs.drop i ∧ r = .inr ())) := by
 refine upL ?_ ?_
 ·rw [List.drop_length]
  exact ⟨.inr (), Ev.step (fun k => q0k.l1.eq_2 _ _ _ _) (Ev.neg (by omega) (Ev.const rfl)), .inr ⟨by simp, rfl⟩⟩
 rintro i hi ⟨r, h1, h2⟩
 rw [← wsucc hi (by omega)] at h1
 rw [List.drop_eq_getElem_cons hi]
 by_cases h : s = xs[i]
 ·exact ⟨.inl (i : Int), Ev.step (fun k => q0k.l1.eq_2 _ _ _ _) (Ev.pos (by omega) (Ev.bind (Ev.const (getI_nat hi)) (Ev.pos h (Ev.const rfl)))), .inl ⟨by rw [h]; exact List.mem_cons_self .., i, rfl⟩⟩
 refine ⟨r, Ev.step (fun k => q0k.l1.eq_2 _ _ _ _) (Ev.pos (by omega) (Ev.bind (Ev.const (getI_nat hi)) (Ev.neg h h1))), ?_⟩
 rcases h2 with ⟨a, b⟩ | ⟨a, b⟩
 ·exact .inl ⟨List.mem_cons_of_mem _ a, b⟩
 exact .inr ⟨fun hm => (List.mem_cons.1 hm).elim h a, b⟩
theorem contS_ev (xs : List Spot) (s : Spot) (hx : xs.length ≤ 1048576) : Ev (fun k => q09.f k xs s) (decide (s ∈ xs)) := by
 obtain ⟨r, h1, h2⟩ := indexS_loop xs s hx 0 (Nat.zero_le _)
 rw [List.drop_zero] at h2
 rcases h2 with ⟨a, j, rfl⟩ | ⟨a, rfl⟩
 ·rw [decide_eq_true a]
  refine Ev.bind (Ev.bind h1 (Ev.const rfl)) (Ev.const ?_)
  rw [decide_eq_true (show (0 : Int) ≤ (j : Int) by omega)]
 rw [decide_eq_false a]
 exact Ev.bind (Ev.bind h1 (Ev.const rfl)) (Ev.const rfl)
def bef (a b : Spot) : Prop := a.Y < b.Y ∨ (a.Y = b.Y ∧ a.X < b.X)
theorem rowF_told (q : Nat → Bool) (y : Nat) : ∀ n x, ∀ s ∈ rowF q y x n, s.Y = (y : Int) ∧ (x : Int) ≤ s.X
  | 0, x, s, h => by simp [rowF] at h
  | n + 1, x, s, h => by
    rw [rowF] at h
    rcases List.mem_append.1 h with h | h
    · split at h
      · rw [List.mem_singleton.1 h]; exact ⟨rfl, Int.le_refl _⟩
      · simp at h
    · have := rowF_told q y n (x + 1) s h
      exact ⟨this.1, by omega⟩
theorem rowF_order (q : Nat → Bool) (y : Nat) : ∀ n x, (rowF q y x n).Pairwise bef
  | 0, x => List.Pairwise.nil
  | n + 1, x => by
    rw [rowF, List.pairwise_append]
    refine ⟨?_, rowF_order q y n (x + 1), fun a ha b hb => ?_⟩
    · split
      · exact List.pairwise_singleton _ _
      · exact List.Pairwise.nil
    · split at ha
      · rw [List.mem_singleton.1 ha]
        have := rowF_told q y n (x + 1) b hb
        exact .inr ⟨this.1.symm, by show (x : Int) < b.X; omega⟩
      · simp at ha
theorem gridF_told (q : Nat → Nat → Bool) (W : Nat) : ∀ n y, ∀ s ∈ gridF q W y n, (y : Int) ≤ s.Y
  | 0, y, s, h => by simp [gridF] at h
  | n + 1, y, s, h => by
    rw [gridF] at h
    rcases List.mem_append.1 h with h | h
    · have := rowF_told _ _ _ _ s h; omega
    · have := gridF_told q W n (y + 1) s h; omega
theorem gridF_order (q : Nat → Nat → Bool) (W : Nat) : ∀ n y, (gridF q W y n).Pairwise bef
  | 0, y => List.Pairwise.nil
  | n + 1, y => by
    rw [gridF, List.pairwise_append]
    refine ⟨rowF_order _ _ _ _, gridF_order q W n (y + 1), fun a ha b hb => ?_⟩
    have h1 := rowF_told _ _ _ _ a ha
    have h2 := gridF_told _ _ _ _ b hb
    exact .inl (by omega)
theorem bef_ir (a : Spot) : ¬ bef a a := fun h => by rcases h with h | h <;> omega
theorem bef_as {a b : Spot} (h : bef a b) (k : bef b a) : False := by rcases h with h | h <;> rcases k with k | k <;> omega
theorem bef_tr {a b c : Spot} (h : bef a b) (k : bef b c) : bef a c := by
 rcases h with h | h <;> rcases k with k | k <;> first | exact .inl (by omega) | exact .inr ⟨by omega, by omega⟩
theorem spot_ext {a b : Spot} (h : a.X = b.X) (k : a.Y = b.Y) : a = b := by cases a; cases b; simp only at h k; subst h k; rfl
theorem bef_tot (a b : Spot) : bef a b ∨ a = b ∨ bef b a := by
 rcases Int.lt_trichotomy a.Y b.Y with h | h | h
 ·exact .inl (.inl h)
 ·rcases Int.lt_trichotomy a.X b.X with k | k | k
  ·exact .inl (.inr ⟨h, k⟩)
  ·exact .inr (.inl (spot_ext k h))
  exact .inr (.inr (.inr ⟨h.symm, k⟩))
 exact .inr (.inr (.inl h))
theorem le_bef {a b : Spot} : leSpot a b = true ↔ bef a b ∨ a = b := by
 unfold leSpot
 rw [decide_eq_true_eq]
 constructor
 ·rintro (h | ⟨h, k⟩)
  ·exact .inl (.inl h)
  rcases Int.lt_or_eq_of_le k with k | k
  ·exact .inl (.inr ⟨h, k⟩)
  exact .inr (spot_ext k h)
 rintro ((h | h) | rfl)
 ·exact .inl h
 ·exact .inr ⟨h.1, by omega⟩
 exact .inr ⟨rfl, Int.le_refl _⟩
theorem srt_ext {α : Type} {R : α → α → Prop} (hR : ∀ a b, R a b → R b a → False) : ∀ {a b : List α}, a.Pairwise R → b.Pairwise R → (∀ s, s ∈ a ↔ s ∈ b) → a = b
  | [], [], _, _, _ => rfl
  | [], y :: b, _, _, h => by have := (h y).2 (List.mem_cons_self ..); simp at this
  | x :: a, [], _, _, h => by have := (h x).1 (List.mem_cons_self ..); simp at this
  | x :: a, y :: b, ha, hb, h => by
    rw [List.pairwise_cons] at ha hb
    have e : x = y := by
      rcases List.mem_cons.1 ((h x).1 (List.mem_cons_self ..)) with e | h1
      · exact e
      · rcases List.mem_cons.1 ((h y).2 (List.mem_cons_self ..)) with e | h2
        · exact e.symm
        · exact (hR _ _ (ha.1 y h2) (hb.1 x h1)).elim
    subst e
    refine congrArg (x :: ·) (srt_ext hR ha.2 hb.2 fun s => ⟨fun hs => ?_, fun hs => ?_⟩)
    · rcases List.mem_cons.1 ((h s).1 (List.mem_cons_of_mem _ hs)) with e | h1
      · subst e; exact (hR _ _ (ha.1 _ hs) (ha.1 _ hs)).elim
      · exact h1
    · rcases List.mem_cons.1 ((h s).2 (List.mem_cons_of_mem _ hs)) with e | h1
      · subst e; exact (hR _ _ (hb.1 _ hs) (hb.1 _ hs)).elim
      · exact h1
def ddp (b : Spot) : List Spot → List Spot
  | [] => []
  | a :: l => if a = b then ddp b l else a :: ddp a l
def dd : List Spot → List Spot
  | [] => []
  | a :: l => a :: ddp a l
theorem ddp_mem {s : Spot} : ∀ (b : Spot) (l : List Spot), s ∈ b :: ddp b l ↔ s ∈ b :: l
  | b, [] => by simp [ddp]
  | b, a :: l => by
    rw [ddp]
    split
    · rename_i e
      rw [ddp_mem b l, e]; simp
    · rw [List.mem_cons, ddp_mem a l, List.mem_cons]; simp
theorem dd_mem {s : Spot} : ∀ {l : List Spot}, s ∈ dd l ↔ s ∈ l
  | [] => by simp [dd]
  | a :: l => ddp_mem a l
theorem ddp_srt : ∀ (b : Spot) (l : List Spot), (b :: l).Pairwise (fun a b => leSpot a b = true) → (b :: ddp b l).Pairwise bef
  | b, [], _ => List.pairwise_singleton _ _
  | b, a :: l, h => by
    rw [List.pairwise_cons, List.pairwise_cons] at h
    obtain ⟨h1, h2, h3⟩ := h
    rw [ddp]
    split
    · rename_i e
      refine ddp_srt b l (List.pairwise_cons.2 ⟨fun c hc => h1 c (List.mem_cons_of_mem _ hc), h3⟩)
    · rename_i e
      have k := ddp_srt a l (List.pairwise_cons.2 ⟨h2, h3⟩)
      have hab : bef b a := (le_bef.1 (h1 a (List.mem_cons_self ..))).resolve_right fun e' => e e'.symm
      refine List.pairwise_cons.2 ⟨fun c hc => ?_, k⟩
      rcases List.mem_cons.1 hc with rfl | hc
      · exact hab
      · exact bef_tr hab ((List.pairwise_cons.1 k).1 c hc)
theorem dd_srt {l : List Spot} (h : l.Pairwise (fun a b => leSpot a b = true)) : (dd l).Pairwise bef := by
  cases l with
  | nil => exact List.Pairwise.nil
  | cons a l => exact ddp_srt a l h
theorem ddp_snoc (c : Spot) : ∀ (b : Spot) (l : List Spot), ddp b (l ++ [c]) = ddp b l ++ (if c = (b :: l).getLast (by simp) then [] else [c])
  | b, [] => by by_cases h : c = b <;> simp [ddp, h]
  | b, a :: l => by
    rw [List.cons_append, ddp, ddp]
    split
    · rename_i e
      subst e
      rw [ddp_snoc c a l]
      congr 1
    · rw [ddp_snoc c a l]
      congr 1
theorem dd_snoc {xs : List Spot} {j : Nat} (hj : j < xs.length) (h1 : 1 ≤ j) : dd (xs.take (j + 1)) = dd (xs.take j) ++ (if xs[j] = xs[j - 1] then [] else [xs[j]]) := by
  have e : xs.take (j + 1) = xs.take j ++ [xs[j]] := by rw [List.take_add_one, List.getElem?_eq_getElem hj]; rfl
  rw [e]
  have hl : (xs.take j).length = j := by rw [List.length_take]; omega
  generalize hq : xs.take j = l at hl
  cases l with
  | nil => simp at hl; omega
  | cons b l =>
    rw [List.cons_append, dd, dd, ddp_snoc]
    have e2 : (b :: l).getLast (by simp) = xs[j - 1] := by
      rw [List.getLast_eq_getElem]
      simp only [← hq]
      rw [List.getElem_take]
      congr 1
      rw [List.length_take]; omega
    rw [e2]; rfl
theorem compact_l2 (xs : List Spot) (hl : xs.length ≤ 1000) {s : Nat} (h1 : 1 ≤ s) (hs : s < xs.length) : ∀ i, i ≤ xs.length - s → 1 ≤ i → ∀ (ys : List Spot) (w : Nat), ys.length = xs.length → w < s + i → ys.take w = dd (xs.take (s + i)) → (∀ j, s + i ≤ j + 1 → ys[j]? = xs[j]?) →
 ∃ (ys' : List Spot) (w' : Nat), ys'.length = xs.length ∧ w' ≤ xs.length ∧ ys'.take w' = dd xs ∧ Ev (fun k => q02.l2 xs (s : Int) k ys (w : Int) (i : Int)) (ys', (w' : Int)) := by
 refine upL ?_ ?_
 ·intro _ ys w a1 a2 a3 a4
  refine ⟨ys, w, a1, by omega, by rw [a3, List.take_of_length_le (by omega)], Ev.step (fun k => q02.l2.eq_2 _ _ _ _ _ _) (Ev.neg ?_ (Ev.const rfl))⟩
  rw [Int.toNat_natCast]; omega
 intro i hi ih h2 ys w a1 a2 a3 a4
 have hj : s + i < xs.length := by omega
 have g0 : getI (ys.drop (s : Int).toNat) (i : Int) = some xs[s + i] := by
   have : i < (ys.drop s).length := by rw [List.length_drop]; omega
   rw [Int.toNat_natCast, getI_nat this, List.getElem_drop]
   have := a4 (s + i) (by omega)
   rw [List.getElem?_eq_getElem (by omega), List.getElem?_eq_getElem hj] at this
   exact this
 have g1 : getI (ys.drop (s : Int).toNat) (IntKind.i64.wrap ((i : Int) - 1)) = some xs[s + i - 1] := by
   have : i - 1 < (ys.drop s).length := by rw [List.length_drop]; omega
   rw [w64 (by omega) (by omega), show (i : Int) - 1 = ((i - 1 : Nat) : Int) by omega, Int.toNat_natCast, getI_nat this, List.getElem_drop]
   have := a4 (s + i - 1) (by omega)
   rw [List.getElem?_eq_getElem (by omega), List.getElem?_eq_getElem (by omega)] at this
   rw [← this]
   congr 2
   omega
 have hsn := dd_snoc hj (by omega)
 have hw : getI ys (w : Int) = some (ys[w]'(by omega)) := getI_nat (by omega)
 by_cases c : xs[s + i] = xs[s + i - 1]
 ·rw [if_pos c, List.append_nil] at hsn
  obtain ⟨ys', w', b1, b2, b3, b4⟩ := ih (by omega) ys w a1 (by omega) (by rw [a3, ← hsn, Nat.add_assoc]) (fun j hj => a4 j (by omega))
  rw [← wsucc (n := xs.length - s) hi (by omega)] at b4
  refine ⟨ys', w', b1, b2, b3, Ev.step (fun k => q02.l2.eq_2 _ _ _ _ _ _) (Ev.pos (by rw [Int.toNat_natCast]; omega) (Ev.bind (Ev.const g0) (Ev.bind (Ev.const g1) (Ev.neg (by simpa using c) b4))))⟩
 rw [if_neg c] at hsn
 obtain ⟨ys', w', b1, b2, b3, b4⟩ := ih (by omega) (ys.set w xs[s + i]) (w + 1) (by simpa using a1) (by omega) (by rw [take_setS (by omega), a3, ← hsn, Nat.add_assoc]) (fun j hj' => by
   rw [List.getElem?_set]
   split
   · rename_i e
     subst e
     rw [if_pos (by omega)]
     have : w = s + i := by omega
     subst this
     exact (List.getElem?_eq_getElem hj).symm
   · exact a4 j (by omega))
 rw [← wsucc (n := xs.length - s) hi (by omega), ← wsucc (n := xs.length) (i := w) (by omega) (by omega)] at b4
 refine ⟨ys', w', b1, b2, b3, Ev.step (fun k => q02.l2.eq_2 _ _ _ _ _ _) (Ev.pos (by rw [Int.toNat_natCast]; omega) (Ev.bind (Ev.const g0) (Ev.bind (Ev.const g1) (Ev.pos (by simpa using c) (Ev.bind (Ev.const g0) (Ev.bind (Ev.const hw) ?_))))))⟩
 rw [Int.toNat_natCast]
 exact b4
theorem compact_l1 (xs : List Spot) (hl : xs.length ≤ 1000) : ∀ i, i ≤ xs.length → 1 ≤ i → dd (xs.take i) = xs.take i → ∃ r : List Spot ⊕ Unit, Ev (fun k => q02.l1 xs k (i : Int)) r ∧ (r = .inl (dd xs) ∨ (r = .inr () ∧ dd xs = xs)) := by
 refine upL ?_ ?_
 ·intro _ h
  rw [List.take_length] at h
  exact ⟨_, Ev.step (fun k => q02.l1.eq_2 _ _ _) (Ev.neg (by omega) (Ev.const rfl)), .inr ⟨rfl, h⟩⟩
 intro i hi ih h1 h
 have hj : i - 1 < xs.length := by omega
 have g : getI xs (IntKind.i64.wrap ((i : Int) - 1)) = some xs[i - 1] := by
   rw [w64 (by omega) (by omega), show ((i : Int) - 1) = ((i - 1 : Nat) : Int) by omega]
   exact getI_nat hj
 have hsn := dd_snoc hi h1
 by_cases c : xs[i] = xs[i - 1]
 ·rw [if_pos c, List.append_nil, h] at hsn
  obtain ⟨ys', w', b1, b2, b3, b4⟩ := compact_l2 xs hl h1 hi 1 (by omega) (Nat.le_refl _) xs i rfl (by omega) hsn.symm (fun j _ => rfl)
  refine ⟨.inl (dd xs), Ev.step (fun k => q02.l1.eq_2 _ _ _) (Ev.pos (by omega) (Ev.bind (a := (.inl (.inl (dd xs)) : (List Spot ⊕ Unit) ⊕ Unit)) (Ev.bind (Ev.const (getI_nat hi)) (Ev.bind (Ev.const g) (Ev.pos c (Ev.bind (Ev.const (chkT (by omega))) (Ev.bind b4 (Ev.bind (Ev.const (chkT (by omega))) (Ev.bind (Ev.const (chkT (by simp; omega))) (Ev.const ?_)))))))) (Ev.const rfl))), .inl rfl⟩
  simp only [Int.toNat_natCast]
  rw [List.take_append_of_le_length (by simp; omega), List.take_take, Nat.min_self, b3]
 rw [if_neg c, h] at hsn
 have ht : dd (xs.take (i + 1)) = xs.take (i + 1) := by rw [hsn, List.take_add_one, List.getElem?_eq_getElem hi]; rfl
 obtain ⟨r, r1, r2⟩ := ih (by omega) ht
 rw [← wsucc hi (by omega)] at r1
 exact ⟨r, Ev.step (fun k => q02.l1.eq_2 _ _ _) (Ev.pos (by omega) (Ev.bind (a := (.inr () : (List Spot ⊕ Unit) ⊕ Unit)) (Ev.bind (Ev.const (getI_nat hi)) (Ev.bind (Ev.const g) (Ev.neg c (Ev.const rfl)))) r1)), r2⟩
theorem compact_ev {xs : List Spot} (hl : xs.length ≤ 1000) : Ev (fun k => q02.f k xs) (dd xs) := by
 by_cases c : (xs.length : Int) < 2
 ·have e : dd xs = xs := by
    match xs, c with
    | [], _ => rfl
    | [a], _ => rfl
    | a :: b :: l, c => simp at c; omega
  rw [e]
  exact Ev.pos c (Ev.const rfl)
 obtain ⟨r, r1, r2⟩ := compact_l1 xs hl 1 (by omega) (Nat.le_refl _) (by
   match xs, c with
   | [], c => simp at c
   | a :: l, _ => rfl)
 refine Ev.neg c (r1.bind (Ev.const ?_))
 rcases r2 with rfl | ⟨rfl, e⟩
 ·rfl
 rw [e]
def ord (xs : List Spot) : List Spot := dd (xs.mergeSort leSpot)
theorem ord_mem {xs : List Spot} {s : Spot} : s ∈ ord xs ↔ s ∈ xs := by unfold ord; rw [dd_mem, List.mem_mergeSort]
theorem ord_srt (xs : List Spot) : (ord xs).Pairwise bef := by
 refine dd_srt (List.pairwise_mergeSort (fun a b c h k => ?_) (fun a b => ?_) xs)
 ·rw [le_bef] at *
  rcases h with h | rfl
  ·rcases k with k | rfl
   ·exact .inl (bef_tr h k)
   exact .inl h
  exact k
 rw [Bool.or_eq_true, le_bef, le_bef]
 rcases bef_tot a b with h | h | h
 ·exact .inl (.inl h)
 ·exact .inl (.inr h)
 exact .inr (.inl h)
theorem srtS {a b : List Spot} (ha : a.Pairwise bef) (hb : b.Pairwise bef) (h : ∀ s, s ∈ a ↔ s ∈ b) : a = b := srt_ext (fun _ _ => bef_as) ha hb h
theorem ord_id {xs : List Spot} (h : xs.Pairwise bef) : ord xs = xs := srtS (ord_srt xs) h fun s => ord_mem
theorem nodup_bef {a : List Spot} (h : a.Pairwise bef) : a.Nodup := h.imp fun {a b} k (e : a = b) => by subst e; exact bef_ir a k
theorem ord_ev {xs : List Spot} (hc : ∀ s ∈ xs, cellIn s) (hl : xs.length ≤ 1000) : Ev (fun k => q2g.f k xs) (ord xs) := by
 have hcl : q0e.f xs = some xs := by
   unfold q0e.f
   rw [chkT (by simp; omega)]; rfl
 have hok : xs.all okSpot = true := List.all_eq_true.2 fun s hs => by
   obtain ⟨x, y, hx, hy, rfl⟩ := hc s hs
   rw [okSpot_iff]
   show (-128 ≤ (x : Int) ∧ (x : Int) ≤ 127) ∧ (-128 ≤ (y : Int) ∧ (y : Int) ≤ 127)
   omega
 have hso : q16.f xs q0z.f = some (xs.mergeSort leSpot) := by
   unfold q16.f
   rw [chkT ⟨by omega, hok⟩, Option.bind_some]
 exact Ev.bind (Ev.const hcl) (Ev.bind (Ev.const hso) ((compact_ev (by rw [List.length_mergeSort]; omega)).bind (Ev.const rfl)))
end
section
variable {W H : Nat} {p q : Pasture} {Gr : Nat → Nat → Int} {E S : Nat → Nat → Bool}
theorem evAllX {xs : List Hurdle} {g : Nat → Hurdle → Option Bool} {p : Hurdle → Bool} (h : ∀ x ∈ xs, Ev (fun k => g k x) (p x)) : ∃ J, ∀ j, J ≤ j → ∀ x ∈ xs, g j x = some (p x) := by
  induction xs with
  | nil => exact ⟨0, fun j _ x hx => by simp at hx⟩
  | cons y ys ih =>
    obtain ⟨J, hJ⟩ := ih fun x hx => h x (List.mem_cons_of_mem _ hx)
    obtain ⟨K, hK⟩ := h y (List.mem_cons_self ..)
    refine ⟨J + K, fun j hj x hx => ?_⟩
    rcases List.mem_cons.1 hx with rfl | hx
    · exact hK j (by omega)
    · exact hJ j (by omega) x hx
theorem take_setX {ys : List Hurdle} {w : Nat} (hw : w < ys.length) (a : Hurdle) : (ys.set w a).take (w + 1) = ys.take w ++ [a] := by
 rw [List.take_add_one, List.getElem?_set_self hw]
 congr 1
 apply List.ext_getElem?
 intro j
 simp only [List.getElem?_take, List.getElem?_set]
 split
 ·rw [if_neg (by omega)]
 rfl
theorem drop_setX {ys : List Hurdle} {w j : Nat} (hw : w < j) (a : Hurdle) : (ys.set w a).drop j = ys.drop j := by
 apply List.ext_getElem?
 intro i
 rw [List.getElem?_drop, List.getElem?_drop, List.getElem?_set_ne (by omega)]
theorem take_keepX {xs : List Hurdle} {j : Nat} (hj : j < xs.length) (f : Hurdle → Bool) : (xs.take (j + 1)).filter f = (xs.take j).filter f ++ (if f xs[j] = true then [xs[j]] else []) := by
 rw [List.take_add_one, List.getElem?_eq_getElem hj, List.filter_append]
 congr 1
 simp only [Option.toList, List.filter_cons, List.filter_nil]
theorem delX_loop (xs : List Hurdle) (dl : Hurdle → Bool) (hn : xs.length ≤ 1048576) : ∀ (d j w : Nat) (ys : List Hurdle), j + d = xs.length → w ≤ j → ys.length = xs.length → ys.take w = (xs.take j).filter (fun h => !dl h) → ys.drop j = xs.drop j →
 ∃ (ys' : List Hurdle) (w' : Nat), ys'.length = xs.length ∧ w' ≤ xs.length ∧ ys'.take w' = xs.filter (fun h => !dl h) ∧ ∀ g : Hurdle → Option Bool, (∀ h ∈ xs, g h = some (dl h)) → ∀ k, d < k → q06.l1 g k ys (w : Int) (j : Int) = some (ys', (w' : Int))
  | 0, j, w, ys, hj, hw, hl, ht, hd => by
    refine ⟨ys, w, hl, by omega, ?_, fun g hg k hk => ?_⟩
    · rw [ht, List.take_of_length_le (by omega)]
    · obtain ⟨k, rfl⟩ : ∃ z, k = z + 1 := ⟨k - 1, by omega⟩
      rw [q06.l1, if_neg (by omega)]
  | d + 1, j, w, ys, hj, hw, hl, ht, hd => by
    have hjx : j < xs.length := by omega
    have hjy : j < ys.length := by omega
    have e : ys[j] = xs[j] := by
      have := congrArg (fun l => l[0]?) hd
      simp only [List.getElem?_drop, Nat.add_zero, List.getElem?_eq_getElem hjy, List.getElem?_eq_getElem hjx] at this
      exact Option.some.inj this
    have hg0 : getI ys (j : Int) = some xs[j] := by rw [getI_nat hjy, e]
    have hd1 : ys.drop (j + 1) = xs.drop (j + 1) := by
      have := congrArg (fun l => l.drop 1) hd
      simpa [List.drop_drop] using this
    cases hc : dl xs[j]
    · obtain ⟨ys', w', h1, h2, h3, h4⟩ := delX_loop xs dl hn d (j + 1) (w + 1) (ys.set w xs[j]) (by omega) (by omega) (by simpa using hl) (by rw [take_setX (by omega), ht, take_keepX hjx, hc]; rfl) (by rw [drop_setX (by omega), hd1])
      refine ⟨ys', w', h1, h2, h3, fun g hg k hk => ?_⟩
      obtain ⟨k, rfl⟩ : ∃ z, k = z + 1 := ⟨k - 1, by omega⟩
      rw [q06.l1, if_pos (by omega), hg0, Option.bind_some, hg _ (List.getElem_mem hjx), Option.bind_some, hc, if_pos (by rfl), getI_nat (show w < ys.length by omega), Option.bind_some, Int.toNat_natCast, wsucc hjx (by omega), wsucc (show w < xs.length by omega) (by omega)]
      exact h4 g hg k (by omega)
    · obtain ⟨ys', w', h1, h2, h3, h4⟩ := delX_loop xs dl hn d (j + 1) w ys (by omega) (by omega) hl (by rw [ht, take_keepX hjx, hc]; simp) hd1
      refine ⟨ys', w', h1, h2, h3, fun g hg k hk => ?_⟩
      obtain ⟨k, rfl⟩ : ∃ z, k = z + 1 := ⟨k - 1, by omega⟩
      rw [q06.l1, if_pos (by omega), hg0, Option.bind_some, hg _ (List.getElem_mem hjx), Option.bind_some, hc, if_neg (by simp), wsucc hjx (by omega)]
      exact h4 g hg k (by omega)
theorem idxX_loop (xs : List Hurdle) (dl : Hurdle → Bool) (hx : xs.length ≤ 1048576) : ∀ i : Nat, i ≤ xs.length → ∃ r : Int ⊕ Unit, (∀ g : Hurdle → Option Bool, (∀ x ∈ xs, g x = some (dl x)) → ∀ k, xs.length - i < k → q05.l1 xs g k (i : Int) = some r) ∧
 ((r = .inr () ∧ ∀ h ∈ xs.drop i, dl h = false) ∨ ∃ (j : Nat) (hj : j < xs.length), i ≤ j ∧ r = .inl (j : Int) ∧ dl xs[j] = true ∧ ∀ h ∈ (xs.drop i).take (j - i), dl h = false) := by
 refine upL ?_ ?_
 ·refine ⟨.inr (), fun g hg k hk => ?_, .inl ⟨rfl, by simp⟩⟩
  obtain ⟨k, rfl⟩ : ∃ j, k = j + 1 := ⟨k - 1, by omega⟩
  rw [q05.l1, if_neg (by omega)]
 rintro i hi ⟨r, ih, h⟩
 cases hb : dl xs[i]
 ·refine ⟨r, fun g hg k hk => ?_, ?_⟩
  ·obtain ⟨k, rfl⟩ : ∃ j, k = j + 1 := ⟨k - 1, by omega⟩
   rw [q05.l1, if_pos (by omega), getI_nat hi, Option.bind_some, hg _ (List.getElem_mem hi), Option.bind_some, hb, if_neg (by simp), wsucc hi (by omega)]
   exact ih g hg k (by omega)
  rcases h with ⟨h1, h2⟩ | ⟨j, hj, h1, h2, h3, h4⟩
  ·refine .inl ⟨h1, fun z hz => ?_⟩
   rw [List.drop_eq_getElem_cons hi] at hz
   rcases List.mem_cons.1 hz with rfl | hz
   ·exact hb
   exact h2 z hz
  refine .inr ⟨j, hj, by omega, h2, h3, fun z hz => ?_⟩
  rw [List.drop_eq_getElem_cons hi, show j - i = (j - (i + 1)) + 1 by omega, List.take_succ_cons] at hz
  rcases List.mem_cons.1 hz with rfl | hz
  ·exact hb
  exact h4 z hz
 refine ⟨.inl (i : Int), fun g hg k hk => ?_, .inr ⟨i, hi, Nat.le_refl _, rfl, hb, by simp⟩⟩
 obtain ⟨k, rfl⟩ : ∃ j, k = j + 1 := ⟨k - 1, by omega⟩
 rw [q05.l1, if_pos (by omega), getI_nat hi, Option.bind_some, hg _ (List.getElem_mem hi), Option.bind_some, hb, if_pos rfl]
theorem deleteX_ev (xs : List Hurdle) {g : Nat → Hurdle → Option Bool} {dl : Hurdle → Bool} (hg : ∀ x ∈ xs, Ev (fun k => g k x) (dl x)) (hx : xs.length ≤ 1048576) : Ev (fun k => q06.f k xs (g k)) (xs.filter fun h => !dl h) := by
 obtain ⟨J, hJ⟩ := evAllX hg
 obtain ⟨r, hr, h⟩ := idxX_loop xs dl hx 0 (Nat.zero_le _)
 rcases h with ⟨rfl, h⟩ | ⟨j, hj, _, rfl, h3, h4⟩
 ·refine ⟨J + xs.length + 1, fun k hk => ?_⟩
  have e : q05.l1 xs (g k) k 0 = some (.inr ()) := hr (g k) (hJ k (by omega)) k (by omega)
  show q06.f k xs (g k) = _
  unfold q06.f q05.f
  rw [e]
  simp only [Option.bind_some, if_true]
  congr 1
  symm
  rw [List.filter_eq_self]
  intro z hz
  rw [List.drop_zero] at h
  rw [h z hz]; rfl
 rw [List.drop_zero, Nat.sub_zero] at h4
 have hk : xs.take j = (xs.take (j + 1)).filter (fun h => !dl h) := by
   rw [take_keepX hj, h3, Bool.not_true, if_neg (by simp), List.append_nil]
   symm
   rw [List.filter_eq_self]
   intro z hz
   rw [h4 z hz]; rfl
 obtain ⟨ys', w', q1, q2, q3, q4⟩ := delX_loop xs dl hx (xs.length - (j + 1)) (j + 1) j xs (by omega) (by omega) rfl hk rfl
 refine ⟨J + xs.length + 1, fun k hk => ?_⟩
 have e : q05.l1 xs (g k) k 0 = some (.inl (j : Int)) := hr (g k) (hJ k (by omega)) k (by omega)
 have e2 := q4 (g k) (hJ k (by omega)) k (by omega)
 rw [← wsucc hj (by omega)] at e2
 show q06.f k xs (g k) = _
 unfold q06.f q05.f
 rw [e]
 simp only [Option.bind_some]
 rw [if_neg (by omega), e2]
 simp only [Option.bind_some, Int.toNat_natCast]
 rw [chkT (by omega), Option.bind_some, chkT (by simp; omega), Option.bind_some, q3.symm]
 congr 1
 rw [List.take_append_of_le_length (by simp; omega), List.take_take, Nat.min_self]
def hA (s : Spot) (i : Nat) : Hurdle := if i = 0 then ⟨nx s 0, true⟩ else if i = 3 then ⟨nx s 3, false⟩ else ⟨s, decide (i = 2)⟩
theorem hurdleAt_hA (s : Spot) {i : Nat} (hi : i < 4) : q1j.f s (i : Int) = some (hA s i) := by
 unfold q1j.f hA
 rw [ahead_eq]
 rcases side hi with rfl | rfl | rfl | rfl <;> simp
theorem hA_ends (hw : okW p = true) {x y i : Nat} (hx : x < p.Wide.toNat) (hy : y < p.High.toNat) (hi : i < 4) (hc : cellB p (nx (sp x y) i).X (nx (sp x y) i).Y = true) :
 ∃ x' y' a b s, nx (sp x y) (i : Int) = sp x' y' ∧ x' < p.Wide.toNat ∧ y' < p.High.toNat ∧ hA (sp x y) i = hu a b s ∧ a < p.Wide.toNat ∧ b < p.High.toNat ∧ isB p a b s = true ∧ stB p a b s = hurB p x y i ∧ ((sp a b = sp x y ∧ nx (sp a b) (sdI s) = sp x' y') ∨ (sp a b = sp x' y' ∧ nx (sp a b) (sdI s) = sp x y)) := by
 obtain ⟨w1, w2⟩ := okW_iff.1 hw
 have hc0 : cellB p (x : Int) (y : Int) = true := (cellB_sp hw).2 ⟨hx, hy⟩
 rcases side hi with rfl | rfl | rfl | rfl
 ·have h1 : 1 ≤ y := by
    rcases Nat.eq_zero_or_pos y with rfl | h
    · exfalso
      have e : IntKind.i8.wrap (((0 : Nat) : Int) - 1) = -1 := by decide
      simp [cellB, nx, sp] at hc
      rw [show IntKind.i8.wrap (-1) = -1 by decide] at hc
      omega
    · exact h
  have e := nx0 (x := x) h1 (show y < 10 by omega)
  have e2 := nx2 (x := x) (show y - 1 < 10 by omega)
  rw [show y - 1 + 1 = y by omega] at e2
  refine ⟨x, y - 1, x, y - 1, true, e, hx, by omega, ?_, hx, by omega, ?_, ?_, .inr ⟨rfl, e2⟩⟩
  ·unfold hA hu; rw [if_pos rfl, e]
  ·unfold isB sdI
   rw [if_pos rfl]
   show cellB p (nx (sp x (y - 1)) 2).X (nx (sp x (y - 1)) 2).Y = true
   rw [e2]; exact hc0
  unfold stB hurB; rw [if_pos rfl, if_pos rfl]
 ·have e := nx1 (y := y) (show x < 10 by omega)
  rw [show ((1 : Nat) : Int) = 1 from rfl, e] at hc
  have := (cellB_sp hw).1 hc
  refine ⟨x + 1, y, x, y, false, e, this.1, hy, rfl, hx, hy, ?_, rfl, .inl ⟨rfl, e⟩⟩
  unfold isB sdI
  show cellB p (nx (sp x y) 1).X (nx (sp x y) 1).Y = true
  rw [e]; exact hc
 ·have e := nx2 (x := x) (show y < 10 by omega)
  rw [show ((2 : Nat) : Int) = 2 from rfl, e] at hc
  have := (cellB_sp hw).1 hc
  refine ⟨x, y + 1, x, y, true, e, hx, this.2, rfl, hx, hy, ?_, rfl, .inl ⟨rfl, e⟩⟩
  unfold isB sdI
  show cellB p (nx (sp x y) 2).X (nx (sp x y) 2).Y = true
  rw [e]; exact hc
 have h1 : 1 ≤ x := by
   rcases Nat.eq_zero_or_pos x with rfl | h
   · exfalso
     have e : IntKind.i8.wrap (((0 : Nat) : Int) - 1) = -1 := by decide
     simp [cellB, nx, sp] at hc
     rw [show IntKind.i8.wrap (-1) = -1 by decide] at hc
     omega
   · exact h
 have e := nx3 (y := y) h1 (show x < 10 by omega)
 have e2 := nx1 (y := y) (show x - 1 < 10 by omega)
 rw [show x - 1 + 1 = x by omega] at e2
 refine ⟨x - 1, y, x - 1, y, false, e, by omega, hy, ?_, by omega, hy, ?_, ?_, .inr ⟨rfl, e2⟩⟩
 ·unfold hA hu; rw [if_neg (by simp), if_pos rfl, e]
 ·unfold isB sdI
  show cellB p (nx (sp (x - 1) y) 1).X (nx (sp (x - 1) y) 1).Y = true
  rw [e2]; exact hc0
 unfold stB hurB; simp
theorem hu_sides (hw : okW p = true) {a b : Nat} {s : Bool} (ha : a < p.Wide.toNat) (hb : b < p.High.toNat) (hi : isB p a b s = true) :
 ∃ x' y' : Nat, x' < p.Wide.toNat ∧ y' < p.High.toNat ∧ nx (sp a b) (sdI s) = sp x' y' ∧ hA (sp a b) (sdI s) = hu a b s ∧ ∃ j : Nat, j < 4 ∧ nx (sp x' y') (j : Int) = sp a b ∧ hA (sp x' y') j = hu a b s := by
 obtain ⟨w1, w2⟩ := okW_iff.1 hw
 cases s
 ·have e := nx1 (y := b) (show a < 10 by omega)
  unfold isB at hi
  change cellB p (nx (sp a b) 1).X (nx (sp a b) 1).Y = true at hi
  rw [e] at hi
  have := (cellB_sp hw).1 hi
  have e3 := nx3 (x := a + 1) (y := b) (by omega) (by omega)
  rw [Nat.add_sub_cancel] at e3
  refine ⟨a + 1, b, this.1, this.2, e, rfl, 3, by omega, e3, ?_⟩
  unfold hA; rw [if_neg (by simp), if_pos rfl, e3]; rfl
 have e := nx2 (x := a) (show b < 10 by omega)
 unfold isB at hi
 change cellB p (nx (sp a b) 2).X (nx (sp a b) 2).Y = true at hi
 rw [e] at hi
 have := (cellB_sp hw).1 hi
 have e3 := nx0 (x := a) (y := b + 1) (by omega) (by omega)
 rw [Nat.add_sub_cancel] at e3
 refine ⟨a, b + 1, this.1, this.2, e, rfl, 0, by omega, e3, ?_⟩
 unfold hA; rw [if_pos rfl, e3]; rfl
def sdC (p : Pasture) (Y : List Spot) (s : Spot) (i : Nat) : Bool := cellB p (nx s i).X (nx s i).Y && !decide (nx s i ∈ Y)
def sd4 (p : Pasture) (Y : List Spot) (s : Spot) : Nat → Nat → List Hurdle
  | 0, _ => []
  | n + 1, i => (if sdC p Y s i = true then [hA s i] else []) ++ sd4 p Y s n (i + 1)
theorem sd4_mem {Y : List Spot} {s : Spot} {h : Hurdle} : ∀ (n i : Nat), h ∈ sd4 p Y s n i ↔ ∃ j, i ≤ j ∧ j < i + n ∧ sdC p Y s j = true ∧ h = hA s j
  | 0, i => by simp only [sd4, List.not_mem_nil, false_iff]; rintro ⟨j, h1, h2, _⟩; omega
  | n + 1, i => by
    rw [sd4, List.mem_append, sd4_mem n (i + 1)]
    constructor
    · rintro (h1 | ⟨j, h1, h2, h3⟩)
      · split at h1
        · rename_i c
          exact ⟨i, Nat.le_refl _, by omega, c, List.mem_singleton.1 h1⟩
        · simp at h1
      · exact ⟨j, by omega, by omega, h3⟩
    · rintro ⟨j, h1, h2, h3, h4⟩
      rcases Nat.eq_or_lt_of_le h1 with e | e
      · subst e; left; rw [if_pos h3, h4]; exact List.mem_singleton.2 rfl
      · exact .inr ⟨j, e, by omega, h3, h4⟩
theorem sd4_len {Y : List Spot} {s : Spot} : ∀ (n i : Nat), (sd4 p Y s n i).length ≤ n
  | 0, i => Nat.le_refl _
  | n + 1, i => by
    have := sd4_len (Y := Y) (s := s) n (i + 1)
    rw [sd4, List.length_append]; split <;> simp <;> omega
theorem sides_l2 (v : VPasture p) (hw : okW p = true) {Y : List Spot} (hl : Y.length ≤ 1000) {x y : Nat} (hx : x < 10) (hy : y < 10) : ∀ i, i ≤ 4 → ∀ acc : List Hurdle, acc.length ≤ 100000 + i → Ev (fun k => q0a.l2 p Y (sp x y) k acc (i : Int)) (acc ++ sd4 p Y (sp x y) (4 - i) i) := by
 refine upL ?_ ?_
 ·intro acc ha
  exact Ev.step (fun k => q0a.l2.eq_2 _ _ _ _ _ _) (Ev.neg (by omega) (Ev.const (by simp [sd4])))
 intro i hi ih acc ha
 have hv : VSpot (nx (sp x y) (i : Int)) := nx_in hx hy i
 rw [show 4 - i = (4 - (i + 1)) + 1 by omega, sd4]
 by_cases c : sdC p Y (sp x y) i = true
 ·rw [if_pos c, ← List.append_assoc]
  have l1 := ih (acc ++ [hA (sp x y) i]) (by simp; omega)
  rw [← wsucc (n := 4) hi (by omega)] at l1
  unfold sdC at c
  rw [Bool.and_eq_true] at c
  have cn : decide (nx (sp x y) (i : Int) ∈ Y) = false := by simpa using c.2
  exact Ev.step (fun k => q0a.l2.eq_2 _ _ _ _ _ _) (Ev.pos (by omega) (Ev.bind (Ev.const (ahead_eq (sp x y) i)) (Ev.bind (a := true) (Ev.bind (Ev.const (isCell_eq v hw _ hv)) (Ev.pos c.1 ((contS_ev Y _ (by omega)).bind (Ev.const (by rw [cn]; rfl))))) (Ev.pos rfl (Ev.bind (Ev.const (hurdleAt_hA _ hi)) (Ev.bind (Ev.const (chkT (by simp; omega))) l1))))))
 rw [if_neg c, List.nil_append]
 have l1 := ih acc (by omega)
 rw [← wsucc (n := 4) hi (by omega)] at l1
 refine Ev.step (fun k => q0a.l2.eq_2 _ _ _ _ _ _) (Ev.pos (by omega) (Ev.bind (Ev.const (ahead_eq (sp x y) i)) (Ev.bind (a := false) (Ev.bind (Ev.const (isCell_eq v hw _ hv)) ?_) (Ev.neg (by simp) l1))))
 cases d : cellB p (nx (sp x y) i).X (nx (sp x y) i).Y
 ·exact Ev.neg (by simp) (Ev.const rfl)
 unfold sdC at c
 rw [d] at c
 have cn : decide (nx (sp x y) (i : Int) ∈ Y) = true := by simpa using c
 exact Ev.pos rfl ((contS_ev Y _ (by omega)).bind (Ev.const (by rw [cn]; rfl)))
def sdL (p : Pasture) (Y : List Spot) (l : List Spot) : List Hurdle := l.flatMap fun s => sd4 p Y s 4 0
theorem sdL_len {Y : List Spot} : ∀ l, (sdL p Y l).length ≤ 4 * l.length
  | [] => Nat.le_refl _
  | s :: l => by
    have := sdL_len (Y := Y) l
    have h := sd4_len (p := p) (Y := Y) (s := s) 4 0
    unfold sdL at *
    rw [List.flatMap_cons, List.length_append, List.length_cons]; omega
theorem sides_l1 (v : VPasture p) (hw : okW p = true) {Y : List Spot} (hc : ∀ s ∈ Y, cellIn s) (hl : Y.length ≤ 1000) : ∀ i, i ≤ Y.length → ∀ acc : List Hurdle, acc.length ≤ 4 * i → Ev (fun k => q0a.l1 p Y Y k acc (i : Int)) (acc ++ sdL p Y (Y.drop i)) := by
 refine upL ?_ ?_
 ·intro acc ha
  rw [List.drop_length]
  exact Ev.step (fun k => q0a.l1.eq_2 _ _ _ _ _ _) (Ev.neg (by omega) (Ev.const (by simp [sdL])))
 intro i hi ih acc ha
 obtain ⟨x, y, hx, hy, e⟩ := hc _ (List.getElem_mem hi)
 have a1 := sides_l2 v hw hl hx hy 0 (Nat.zero_le _) acc (by omega)
 rw [Nat.sub_zero] at a1
 have h4 := sd4_len (p := p) (Y := Y) (s := sp x y) 4 0
 have l1 := ih (acc ++ sd4 p Y (sp x y) 4 0) (by rw [List.length_append]; omega)
 rw [← wsucc hi (by omega)] at l1
 rw [List.drop_eq_getElem_cons hi, e]
 unfold sdL at *
 rw [List.flatMap_cons, ← List.append_assoc]
 exact Ev.step (fun k => q0a.l1.eq_2 _ _ _ _ _ _) (Ev.pos (by omega) (Ev.bind (Ev.bind (Ev.const ((getI_nat hi).trans (congrArg some e))) (a1.bind (Ev.const rfl))) l1))
end
section
variable {W H : Nat} {p q : Pasture} {Gr : Nat → Nat → Int} {E S : Nat → Nat → Bool}
def inP (p : Pasture) (T : List Spot) : Prop := ∀ s ∈ T, ∃ x y : Nat, x < p.Wide.toNat ∧ y < p.High.toNat ∧ s = sp x y
theorem inP.cellIn (hw : okW p = true) {T : List Spot} (h : inP p T) : ∀ s ∈ T, cellIn s := fun s hs => by
  obtain ⟨w1, w2⟩ := okW_iff.1 hw
  obtain ⟨x, y, hx, hy, rfl⟩ := h s hs
  exact ⟨x, y, by omega, by omega, rfl⟩
def befH (a b : Hurdle) : Prop := bef a.At b.At ∨ (a.At = b.At ∧ a.South = false ∧ b.South = true)
theorem befH_as (a b : Hurdle) (h : befH a b) (k : befH b a) : False := by
 rcases h with h | ⟨h1, h2, h3⟩ <;> rcases k with k | ⟨k1, k2, k3⟩
 ·exact bef_as h k
 ·rw [k1] at h; exact bef_ir _ h
 ·rw [h1] at k; exact bef_ir _ k
 rw [h2] at k3; exact absurd k3 (by simp)
theorem hurdle_ext {a b : Hurdle} (h : a.At = b.At) (k : a.South = b.South) : a = b := by cases a; cases b; simp only at h k; subst h k; rfl
theorem le_befH {a b : Hurdle} : leHurdle a b = true ↔ befH a b ∨ a = b := by
 unfold leHurdle befH
 rw [decide_eq_true_eq]
 constructor
 ·rintro (h | ⟨h, h' | ⟨k, l⟩⟩)
  ·exact .inl (.inl (.inl h))
  ·exact .inl (.inl (.inr ⟨h, h'⟩))
  have e := spot_ext k h
  cases c : a.South <;> cases d : b.South
  ·exact .inr (hurdle_ext e (by rw [c, d]))
  ·exact .inl (.inr ⟨e, rfl, rfl⟩)
  ·rw [c, d] at l; exact absurd l (by decide)
  exact .inr (hurdle_ext e (by rw [c, d]))
 rintro (((h | h) | ⟨h1, h2, h3⟩) | rfl)
 ·exact .inl h
 ·exact .inr ⟨h.1, .inl h.2⟩
 ·exact .inr ⟨by rw [h1], .inr ⟨by rw [h1], by rw [h2, h3]; decide⟩⟩
 exact .inr ⟨rfl, .inr ⟨rfl, Int.le_refl _⟩⟩
theorem befH_tr {a b c : Hurdle} (h : befH a b) (k : befH b c) : befH a c := by
 rcases h with h | ⟨h1, h2, h3⟩ <;> rcases k with k | ⟨k1, k2, k3⟩
 ·exact .inl (bef_tr h k)
 ·exact .inl (k1 ▸ h)
 ·exact .inl (h1 ▸ k)
 rw [h3] at k2; exact absurd k2 (by simp)
theorem befH_tot (a b : Hurdle) : befH a b ∨ a = b ∨ befH b a := by
 rcases bef_tot a.At b.At with h | h | h
 ·exact .inl (.inl h)
 ·cases c : a.South <;> cases d : b.South
  ·exact .inr (.inl (hurdle_ext h (by rw [c, d])))
  ·exact .inl (.inr ⟨h, c, d⟩)
  ·exact .inr (.inr (.inr ⟨h.symm, d, c⟩))
  exact .inr (.inl (hurdle_ext h (by rw [c, d])))
 exact .inr (.inr (.inl h))
theorem srtH_merge {l : List Hurdle} (hn : l.Nodup) : (l.mergeSort leHurdle).Pairwise befH := by
 have h := List.pairwise_mergeSort (le := leHurdle) (fun a b c h k => by
   rw [le_befH] at *
   rcases h with h | rfl
   · rcases k with k | rfl
     · exact .inl (befH_tr h k)
     · exact .inl h
   · exact k) (fun a b => by
   rw [Bool.or_eq_true, le_befH, le_befH]
   rcases befH_tot a b with h | h | h
   · exact .inl (.inl h)
   · exact .inl (.inr h)
   · exact .inr (.inl h)) l
 have hn2 : (l.mergeSort leHurdle).Nodup := (List.mergeSort_perm l leHurdle).nodup_iff.2 hn
 exact (h.and hn2).imp fun {a b} h => (le_befH.1 h.1).resolve_right h.2
theorem cellH_order (x y : Nat) : (cellH p x y).Pairwise befH := by
 unfold cellH
 rw [List.pairwise_append]
 refine ⟨?_, ?_, fun a ha b hb => ?_⟩
 ·split
  ·exact List.pairwise_singleton _ _
  exact List.Pairwise.nil
 ·split
  ·exact List.pairwise_singleton _ _
  exact List.Pairwise.nil
 split at ha
 ·split at hb
  ·rw [List.mem_singleton.1 ha, List.mem_singleton.1 hb]; exact .inr ⟨rfl, rfl, rfl⟩
  simp at hb
 simp at ha
theorem cellH_at {x y : Nat} {h : Hurdle} (hh : h ∈ cellH p x y) : h.At = sp x y := by
 unfold cellH at hh
 rcases List.mem_append.1 hh with hh | hh
 ·split at hh
  ·rw [List.mem_singleton.1 hh]; rfl
  simp at hh
 split at hh
 ·rw [List.mem_singleton.1 hh]; rfl
 simp at hh
theorem rowH_at {y : Nat} : ∀ n x, ∀ h ∈ rowH p y x n, h.At.Y = (y : Int) ∧ (x : Int) ≤ h.At.X
  | 0, x, h, hh => by simp [rowH] at hh
  | n + 1, x, h, hh => by
    rw [rowH] at hh
    rcases List.mem_append.1 hh with hh | hh
    · rw [cellH_at hh]; exact ⟨rfl, Int.le_refl _⟩
    · have := rowH_at n (x + 1) h hh
      exact ⟨this.1, by omega⟩
theorem rowH_order {y : Nat} : ∀ n x, (rowH p y x n).Pairwise befH
  | 0, x => List.Pairwise.nil
  | n + 1, x => by
    rw [rowH, List.pairwise_append]
    refine ⟨cellH_order x y, rowH_order n (x + 1), fun a ha b hb => ?_⟩
    have h1 := cellH_at ha
    have h2 := rowH_at n (x + 1) b hb
    refine .inl (.inr ⟨?_, ?_⟩)
    · rw [h1, h2.1]; rfl
    · rw [h1]; show (x : Int) < b.At.X; omega
theorem gridH_at {W : Nat} : ∀ n y, ∀ h ∈ gridH p W y n, (y : Int) ≤ h.At.Y
  | 0, y, h, hh => by simp [gridH] at hh
  | n + 1, y, h, hh => by
    rw [gridH] at hh
    rcases List.mem_append.1 hh with hh | hh
    · have := rowH_at _ _ h hh; omega
    · have := gridH_at n (y + 1) h hh; omega
theorem gridH_order {W : Nat} : ∀ n y, (gridH p W y n).Pairwise befH
  | 0, y => List.Pairwise.nil
  | n + 1, y => by
    rw [gridH, List.pairwise_append]
    refine ⟨rowH_order _ _, gridH_order n (y + 1), fun a ha b hb => ?_⟩
    have h1 := rowH_at _ _ a ha
    have h2 := gridH_at _ _ b hb
    exact .inl (.inl (by omega))
theorem cellH_in {x y : Nat} {s : Bool} (h : isB p x y s = true) : hu x y s ∈ cellH p x y := by
 unfold cellH
 rw [List.mem_append]
 cases s
 ·left; rw [if_pos h]; exact List.mem_singleton.2 rfl
 right; rw [if_pos h]; exact List.mem_singleton.2 rfl
theorem rowH_in {y : Nat} {h : Hurdle} : ∀ n x j, x ≤ j → j < x + n → h ∈ cellH p j y → h ∈ rowH p y x n
  | 0, x, j, h1, h2, _ => by omega
  | n + 1, x, j, h1, h2, hh => by
    rw [rowH, List.mem_append]
    rcases Nat.eq_or_lt_of_le h1 with e | e
    · subst e; exact .inl hh
    · exact .inr (rowH_in n (x + 1) j e (by omega) hh)
theorem gridH_in {W : Nat} {h : Hurdle} : ∀ n y j, y ≤ j → j < y + n → h ∈ rowH p j 0 W → h ∈ gridH p W y n
  | 0, y, j, h1, h2, _ => by omega
  | n + 1, y, j, h1, h2, hh => by
    rw [gridH, List.mem_append]
    rcases Nat.eq_or_lt_of_le h1 with e | e
    · subst e; exact .inl hh
    · exact .inr (gridH_in n (y + 1) j e (by omega) hh)
theorem gridH_mem {h : Hurdle} : h ∈ gridH p p.Wide.toNat 0 p.High.toNat ↔ told p h := by
 refine ⟨gridH_told _ 0 (by omega) h, ?_⟩
 rintro ⟨x, y, s, hx, hy, hi, rfl⟩
 exact gridH_in _ 0 y (Nat.zero_le _) (by omega) (rowH_in _ 0 x (Nat.zero_le _) (by omega) (cellH_in hi))
def dif (T : List Spot) (h : Hurdle) : Bool := decide (h.At ∈ T) != decide (nx h.At (sdI h.South) ∈ T)
theorem dif_iff {T : List Spot} {h : Hurdle} : dif T h = true ↔ (h.At ∈ T ∧ nx h.At (sdI h.South) ∉ T) ∨ (h.At ∉ T ∧ nx h.At (sdI h.South) ∈ T) := by
 unfold dif
 by_cases a : h.At ∈ T <;> by_cases b : nx h.At (sdI h.South) ∈ T <;> simp [a, b]
theorem sdC_iff {T : List Spot} {s : Spot} {i : Nat} : sdC p T s i = true ↔ cellB p (nx s i).X (nx s i).Y = true ∧ nx s i ∉ T := by
 unfold sdC; simp
theorem sdL_mem (hw : okW p = true) {T : List Spot} (hT : inP p T) {h : Hurdle} : h ∈ sdL p T T ↔ told p h ∧ dif T h = true := by
 unfold sdL
 rw [List.mem_flatMap]
 constructor
 ·rintro ⟨s, hs, hh⟩
  obtain ⟨x, y, hx, hy, rfl⟩ := hT s hs
  obtain ⟨i, _, hi, hc, rfl⟩ := (sd4_mem _ _).1 hh
  rw [sdC_iff] at hc
  obtain ⟨x', y', a, b, s, e1, _, _, e2, ha, hb, hi2, _, e3⟩ := hA_ends hw hx hy (by omega) hc.1
  rw [e2]
  refine ⟨⟨a, b, s, ha, hb, hi2, rfl⟩, dif_iff.2 ?_⟩
  show (sp a b ∈ T ∧ nx (sp a b) (sdI s) ∉ T) ∨ (sp a b ∉ T ∧ nx (sp a b) (sdI s) ∈ T)
  rw [e1] at hc
  rcases e3 with ⟨e3, e4⟩ | ⟨e3, e4⟩
  ·rw [e4, e3]; exact .inl ⟨hs, hc.2⟩
  rw [e4, e3]; exact .inr ⟨hc.2, hs⟩
 rintro ⟨⟨a, b, s, ha, hb, hi, rfl⟩, hd⟩
 obtain ⟨x', y', hx', hy', e1, e2, j, hj, e3, e4⟩ := hu_sides hw ha hb hi
 rw [dif_iff] at hd
 change (sp a b ∈ T ∧ nx (sp a b) (sdI s) ∉ T) ∨ (sp a b ∉ T ∧ nx (sp a b) (sdI s) ∈ T) at hd
 rcases hd with ⟨h1, h2⟩ | ⟨h1, h2⟩
 ·refine ⟨sp a b, h1, (sd4_mem _ _).2 ⟨sdI s, Nat.zero_le _, by unfold sdI; split <;> omega, sdC_iff.2 ⟨hi, h2⟩, e2.symm⟩⟩
 rw [e1] at h2
 refine ⟨sp x' y', h2, (sd4_mem _ _).2 ⟨j, Nat.zero_le _, by omega, sdC_iff.2 ⟨?_, by rw [e3]; exact h1⟩, e4.symm⟩⟩
 rw [e3]; exact (cellB_sp hw).2 ⟨ha, hb⟩
theorem sd4_nodup (hw : okW p = true) {T : List Spot} {x y : Nat} (hx : x < p.Wide.toNat) (hy : y < p.High.toNat) (hs : sp x y ∈ T) : ∀ n i, i + n ≤ 4 → (sd4 p T (sp x y) n i).Nodup
  | 0, i, _ => List.nodup_nil
  | n + 1, i, h4 => by
    obtain ⟨w1, w2⟩ := okW_iff.1 hw
    rw [sd4]
    refine List.nodup_append.2 ⟨?_, sd4_nodup hw hx hy hs n (i + 1) (by omega), fun a ha b hb e => ?_⟩
    · split
      · simp
      · exact List.nodup_nil
    · split at ha
      · rename_i c
        rw [List.mem_singleton.1 ha] at e
        obtain ⟨j, h1, h2, h3, h5⟩ := (sd4_mem _ _).1 hb
        rw [sdC_iff] at c h3
        obtain ⟨x1, y1, a1, b1, s1, d1, _, _, d2, _, _, _, _, d3⟩ := hA_ends hw hx hy (show i < 4 by omega) c.1
        obtain ⟨x2, y2, a2, b2, s2, f1, _, _, f2, _, _, _, _, f3⟩ := hA_ends hw hx hy (show j < 4 by omega) h3.1
        rw [h5, d2, f2] at e
        have e1 : sp a1 b1 = sp a2 b2 := congrArg Hurdle.At e
        have e2 : s1 = s2 := congrArg Hurdle.South e
        have hxy : sp x1 y1 = sp x2 y2 := by
          rw [d1] at c; rw [f1] at h3
          subst e2
          rw [← e1] at f3
          rcases d3 with ⟨g1, g2⟩ | ⟨g1, g2⟩ <;> rcases f3 with ⟨k1, k2⟩ | ⟨k1, k2⟩
          · rw [← g2, ← k2]
          · exact absurd (g1.symm.trans k1 ▸ hs) h3.2
          · exact absurd (k1.symm.trans g1 ▸ hs) c.2
          · rw [← g1, ← k1]
        have := nx_inj (show x < 10 by omega) (show y < 10 by omega) (show i < 4 by omega) (show j < 4 by omega) (d1.trans (hxy.trans f1.symm))
        omega
      · simp at ha
theorem sdL_nodup (hw : okW p = true) {T : List Spot} (hT : inP p T) (hn : T.Nodup) : (sdL p T T).Nodup := by
 unfold sdL
 refine List.pairwise_flatMap.2 ⟨fun s hs => ?_, ?_⟩
 ·obtain ⟨x, y, hx, hy, rfl⟩ := hT s hs
  exact sd4_nodup hw hx hy hs 4 0 (by omega)
 refine List.Pairwise.imp_of_mem (fun {s t} hs ht hne a ha b hb e => ?_) hn
 subst e
 obtain ⟨x, y, hx, hy, rfl⟩ := hT s hs
 obtain ⟨x', y', hx', hy', rfl⟩ := hT t ht
 obtain ⟨i, _, hi, c, e5⟩ := (sd4_mem _ _).1 ha
 obtain ⟨j, _, hj, h3, h5⟩ := (sd4_mem _ _).1 hb
 rw [sdC_iff] at c h3
 obtain ⟨x1, y1, a1, b1, s1, d1, _, _, d2, _, _, _, _, d3⟩ := hA_ends hw hx hy (show i < 4 by omega) c.1
 obtain ⟨x2, y2, a2, b2, s2, f1, _, _, f2, _, _, _, _, f3⟩ := hA_ends hw hx' hy' (show j < 4 by omega) h3.1
 rw [h5, d2, f2] at e5
 have e1 : sp a2 b2 = sp a1 b1 := congrArg Hurdle.At e5
 have e2 : s2 = s1 := congrArg Hurdle.South e5
 rw [d1] at c; rw [f1] at h3
 subst e2
 rw [e1] at f3
 rcases d3 with ⟨g1, g2⟩ | ⟨g1, g2⟩ <;> rcases f3 with ⟨k1, k2⟩ | ⟨k1, k2⟩
 ·exact hne (g1.symm.trans k1)
 ·exact h3.2 (k1.symm.trans g1 ▸ hs)
 ·exact c.2 (g1.symm.trans k1 ▸ ht)
 exact hne (g2.symm.trans k2)
end
section
variable {W H : Nat} {p q : Pasture} {Gr : Nat → Nat → Int} {E S : Nat → Nat → Bool}
def OSd (p : Pasture) (T : List Spot) : List Hurdle := (gridH p p.Wide.toNat 0 p.High.toNat).filter fun h => dif T h && !stH p h
theorem OS_mem {T : List Spot} {h : Hurdle} : h ∈ OSd p T ↔ told p h ∧ dif T h = true ∧ stH p h = false := by
 unfold OSd
 rw [List.mem_filter, gridH_mem, Bool.and_eq_true, Bool.not_eq_true']
theorem OS_len (hw : okW p = true) (T : List Spot) : (OSd p T).length ≤ 200 := by
 obtain ⟨w1, w2⟩ := okW_iff.1 hw
 have h1 := gridH_len p p.Wide.toNat p.High.toNat 0
 have h2 : 2 * p.Wide.toNat * p.High.toNat ≤ 20 * 10 := Nat.mul_le_mul (by omega) (by omega)
 have h3 := List.length_filter_le (fun h => dif T h && !stH p h) (gridH p p.Wide.toNat 0 p.High.toNat)
 unfold OSd; omega
theorem implOpen_ev (v : VPasture p) (hw : okW p = true) {T : List Spot} (hT : inP p T) (hs : T.Pairwise bef) (hl : T.length ≤ 1000) : Ev (fun k => q1f.f k p T) (OSd p T) := by
 obtain ⟨w1, w2⟩ := okW_iff.1 hw
 have h1 := ord_ev (hT.cellIn hw) hl
 rw [ord_id hs] at h1
 have h2 := sides_l1 v hw (hT.cellIn hw) hl 0 (Nat.zero_le _) [] (by simp)
 rw [List.nil_append, List.drop_zero] at h2
 have hl2 := sdL_len (p := p) (Y := T) T
 have hso : Ev (fun k => q0a.f k p T) (sdL p T T) := h1.bind (h2.bind (Ev.const rfl))
 have hst : ∀ h ∈ sdL p T T, Ev (fun _ => q15.f p h) (stH p h) := fun h hh => by
   obtain ⟨x, y, s, hx, hy, hi, rfl⟩ := ((sdL_mem hw hT).1 hh).1
   exact Ev.const (implSt_eq p (by omega) s)
 have hd := deleteX_ev (sdL p T T) (g := fun _ => q15.f p) hst (by omega)
 have hn : ((sdL p T T).filter fun h => !stH p h).Nodup := (sdL_nodup hw hT (nodup_bef hs)).filter _
 have hmem : ∀ h, h ∈ ((sdL p T T).filter fun h => !stH p h) ↔ h ∈ OSd p T := fun h => by
   rw [List.mem_filter, sdL_mem hw hT, OS_mem, Bool.not_eq_true', and_assoc]
 have e : ((sdL p T T).filter fun h => !stH p h).mergeSort leHurdle = OSd p T := by
   refine srt_ext befH_as (srtH_merge hn) ((gridH_order _ _).filter _) fun h => ?_
   rw [List.mem_mergeSort]; exact hmem h
 have hl3 := List.length_filter_le (fun h => !stH p h) (sdL p T T)
 refine hso.bind (hd.bind (Ev.bind (a := OSd p T) ?_ (Ev.const rfl)))
 refine Ev.of 0 fun k _ => ?_
 have hok : ((sdL p T T).filter fun h => !stH p h).all okHurdle = true := List.all_eq_true.2 fun h hh => by
   obtain ⟨x, y, s, hx, hy, hi, rfl⟩ := (OS_mem.1 ((hmem h).1 hh)).1
   unfold okHurdle
   rw [okSpot_iff]
   show (-128 ≤ (x : Int) ∧ (x : Int) ≤ 127) ∧ (-128 ≤ (y : Int) ∧ (y : Int) ≤ 127)
   omega
 unfold q18.f
 rw [chkT ⟨by omega, hok⟩, Option.bind_some, e]
abbrev Bt := Arr 10 (Arr 10 Bool)
def bA (a : Arr 10 Bool) (i : Nat) : Bool := a.l.getD i false
def bR (a : Bt) (i : Nat) : Arr 10 Bool := (a.l[i]?).getD (Arr.mk' false)
def b2 (m : Bt) (y x : Nat) : Bool := bA (bR m y) x
def putM (m : Bt) (y x : Nat) : Bt := aset m y (aset (bR m y) x true)
theorem bA_get (a : Arr 10 Bool) {i : Nat} (h : i < 10) : getI a.l (i : Int) = some (bA a i) := by
 have : i < a.l.length := by rw [a.len]; exact h
 rw [getI_nat this]; simp [bA, List.getD_eq_getElem?_getD, List.getElem?_eq_getElem this]
theorem bR_get (a : Bt) {i : Nat} (h : i < 10) : getI a.l (i : Int) = some (bR a i) := by
 have : i < a.l.length := by rw [a.len]; exact h
 rw [getI_nat this]; simp [bR, List.getElem?_eq_getElem this]
theorem b2_put (m : Bt) {y x : Nat} (hy : y < 10) (hx : x < 10) (y' x' : Nat) : b2 (putM m y x) y' x' = (decide (y = y' ∧ x = x') || b2 m y' x') := by
 have h1 : bR (putM m y x) y' = if y = y' then aset (bR m y) x true else bR m y' := by
   unfold bR putM aset
   simp only [List.getElem?_set, m.len, hy, if_true]
   split <;> simp [bR]
 have h2 : ∀ a : Arr 10 Bool, bA (aset a x true) x' = if x = x' then true else bA a x' := fun a => by
   unfold bA aset
   simp only [List.getD_eq_getElem?_getD, List.getElem?_set, a.len, hx, if_true]
   split <;> simp
 unfold b2
 rw [h1]
 by_cases c : y = y'
 ·subst c
  rw [if_pos rfl, h2]
  by_cases d : x = x' <;> simp [d]
 rw [if_neg c, decide_eq_false (fun h => c h.1), Bool.false_or]
def noM : Bt := (Arr.mk' (Arr.mk' false : Arr 10 Bool) : Arr 10 (Arr 10 Bool))
theorem b2_no (y x : Nat) : b2 noM y x = false := by
 have h : ∀ n i : Nat, (List.replicate n false).getD i false = false := fun n i => by
   rw [List.getD_eq_getElem?_getD, List.getElem?_replicate]; split <;> rfl
 unfold b2 bA bR noM Arr.mk'
 simp only [List.getElem?_replicate]
 split <;> exact h _ _
theorem mask_loop {T : List Spot} (hc : ∀ s ∈ T, cellIn s) (hl : T.length ≤ 1000) : ∀ i, i ≤ T.length → ∀ m : Bt, ∃ m' : Bt, Ev (fun k => q1n.l1 T k m (i : Int)) m' ∧ ∀ y x, y < 10 → x < 10 → b2 m' y x = (b2 m y x || decide (sp x y ∈ T.drop i)) := by
 refine upL ?_ ?_
 ·intro m
  exact ⟨m, Ev.step (fun k => q1n.l1.eq_2 _ _ _ _) (Ev.neg (by omega) (Ev.const rfl)), fun y x _ _ => by rw [List.drop_length]; simp⟩
 intro i hi ih m
 obtain ⟨x, y, hx, hy, e⟩ := hc _ (List.getElem_mem hi)
 rw [show (⟨(x : Int), (y : Int)⟩ : Spot) = sp x y from rfl] at e
 obtain ⟨m', h1, h2⟩ := ih (putM m y x)
 rw [← wsucc hi (by omega)] at h1
 have g : getI T (i : Int) = some (sp x y) := (getI_nat hi).trans (congrArg some e)
 refine ⟨m', Ev.step (fun k => q1n.l1.eq_2 _ _ _ _) (Ev.pos (by omega) (Ev.bind (Ev.const g) (Ev.bind (Ev.const g) (Ev.bind (Ev.const (bR_get m hy)) (Ev.bind (Ev.const (bA_get _ hx)) ?_))))), fun b a hb ha => ?_⟩
 ·simp only [show (sp x y).Y.toNat = y from rfl, show (sp x y).X.toNat = x from rfl]
  exact h1
 rw [h2 b a hb ha, b2_put m hy hx, List.drop_eq_getElem_cons hi, e]
 have : decide (sp a b ∈ sp x y :: T.drop (i + 1)) = (decide (y = b ∧ x = a) || decide (sp a b ∈ T.drop (i + 1))) := by
   rw [← Bool.decide_or, decide_eq_decide, List.mem_cons]
   constructor
   · rintro (h | h)
     · have := sp_inj.1 h; exact .inl ⟨this.2.symm, this.1.symm⟩
     · exact .inr h
   · rintro (⟨rfl, rfl⟩ | h)
     · exact .inl rfl
     · exact .inr h
 rw [this]
 cases decide (y = b ∧ x = a) <;> cases b2 m b a <;> simp
theorem mask_ev {T : List Spot} (hc : ∀ s ∈ T, cellIn s) (hl : T.length ≤ 1000) : ∃ m : Bt, Ev (fun k => q1n.f k T) m ∧ ∀ y x, y < 10 → x < 10 → b2 m y x = decide (sp x y ∈ T) := by
 obtain ⟨m, h1, h2⟩ := mask_loop hc hl 0 (Nat.zero_le _) noM
 refine ⟨m, h1.bind (Ev.const rfl), fun y x hy hx => ?_⟩
 rw [h2 y x hy hx, b2_no, List.drop_zero, Bool.false_or]
theorem open_loop (v : VPasture p) (hw : okW p = true) {T : List Spot} {m : Bt} (hm : ∀ y x, y < 10 → x < 10 → b2 m y x = decide (sp x y ∈ T)) {L : List Hurdle} (hL : ∀ h ∈ L, told p h) (hl : L.length ≤ 1000) : ∀ i, i ≤ L.length → ∀ acc : List Hurdle, acc.length ≤ i → Ev (fun k => q1z.l1 p m L k acc (i : Int)) (acc ++ (L.drop i).filter fun h => dif T h && !stH p h) := by
 obtain ⟨w1, w2⟩ := okW_iff.1 hw
 refine upL ?_ ?_
 ·intro acc ha
  exact Ev.step (fun k => q1z.l1.eq_2 _ _ _ _ _ _) (Ev.neg (by omega) (Ev.const (by simp)))
 intro i hi ih acc ha
 obtain ⟨x, y, s, hx, hy, hb, e⟩ := hL _ (List.getElem_mem hi)
 obtain ⟨x', y', hx', hy', e1, _⟩ := hu_sides hw hx hy hb
 have g : getI L (i : Int) = some (hu x y s) := (getI_nat hi).trans (congrArg some e)
 have gm : ∀ b a : Nat, a < p.Wide.toNat → b < p.High.toNat → getI m.l (sp a b).Y = some (bR m b) ∧ getI (bR m b).l (sp a b).X = some (decide (sp a b ∈ T)) := fun b a ha hb => ⟨bR_get m (by omega), by
   rw [← hm b a (by omega) (by omega)]; exact bA_get _ (by omega)⟩
 have hd : dif T (hu x y s) = (decide (sp x y ∈ T) != decide (sp x' y' ∈ T)) := by
   unfold dif
   rw [show (hu x y s).At = sp x y from rfl, show (hu x y s).South = s from rfl, e1]
 have hst : stH p (hu x y s) = stB p x y s := rfl
 have hs := specSt_eq v hw (x := x) (y := y) (by omega) (by omega) hb
 rw [List.drop_eq_getElem_cons hi, e, List.filter_cons]
 have hh : Ev (fun k => (getI L (i : Int)).bind fun t21 => (getI L (i : Int)).bind fun t22 => (getI m.l t21.At.Y).bind fun t23 => (getI t23.l t22.At.X).bind fun t24 => (getI m.l (sp x' y').Y).bind fun t25 => (getI t25.l (sp x' y').X).bind fun t26 => if t24 ≠ t26 then ((getI L (i : Int)).bind fun t27 => (q2s.f p t27).bind fun t28 => some (!t28)) else (some false)) (dif T (hu x y s) && !stH p (hu x y s)) := by
   refine Ev.bind (Ev.const g) (Ev.bind (Ev.const g) (Ev.bind (Ev.const (gm y x hx hy).1) (Ev.bind (Ev.const (gm y x hx hy).2) (Ev.bind (Ev.const (gm y' x' hx' hy').1) (Ev.bind (Ev.const (gm y' x' hx' hy').2) ?_)))))
   rw [hd, hst]
   by_cases c : decide (sp x y ∈ T) = decide (sp x' y' ∈ T)
   · refine Ev.neg (by simpa using c) (Ev.const ?_)
     rw [c]; simp
   · refine Ev.pos c (Ev.bind (Ev.const g) (Ev.bind (Ev.const hs) (Ev.const ?_)))
     rw [show (decide (sp x y ∈ T) != decide (sp x' y' ∈ T)) = true by simpa using c, Bool.true_and]
 refine Ev.step (fun k => q1z.l1.eq_2 _ _ _ _ _ _) (Ev.pos (by omega) (Ev.bind (Ev.const g) (Ev.bind (Ev.const g) (Ev.bind (Ev.const (side_eq _)) (Ev.bind (Ev.const ((next_eq _ _).trans (congrArg some e1))) (Ev.bind hh ?_))))))
 by_cases c : (dif T (hu x y s) && !stH p (hu x y s)) = true
 ·rw [if_pos c]
  have l1 := ih (acc ++ [hu x y s]) (by simp; omega)
  rw [← wsucc hi (by omega), List.append_assoc] at l1
  exact Ev.pos c (Ev.bind (Ev.const g) (Ev.bind (Ev.const (chkT (by simp; omega))) l1))
 rw [if_neg c]
 have l1 := ih acc (by omega)
 rw [← wsucc hi (by omega)] at l1
 exact Ev.neg c l1
theorem specOpen_ev (v : VPasture p) (hw : okW p = true) {T : List Spot} {m : Bt} (hm : ∀ y x, y < 10 → x < 10 → b2 m y x = decide (sp x y ∈ T)) : Ev (fun k => q1z.f k p m) (OSd p T) := by
 obtain ⟨w1, w2⟩ := okW_iff.1 hw
 have h1 := gridH_len p p.Wide.toNat p.High.toNat 0
 have h2 : 2 * p.Wide.toNat * p.High.toNat ≤ 20 * 10 := Nat.mul_le_mul (by omega) (by omega)
 have h3 := open_loop v hw hm (L := gridH p p.Wide.toNat 0 p.High.toNat) (fun h hh => gridH_mem.1 hh) (by omega) 0 (Nat.zero_le _) [] (Nat.zero_le _)
 rw [List.nil_append, List.drop_zero] at h3
 exact (specAllH_ev v hw).bind (h3.bind (Ev.const rfl))
end
section
theorem besideI_ev {p : Pasture} (v : VPasture p) (hw : okW p = true) {x y : Nat} (hx : x < 10) (hy : y < 10) : Ev (fun k => q0q.f k p (sp x y)) (nbs p x y 4 0) := by
 have key : ∀ i, i ≤ 4 → ∀ acc : List Spot, acc.length ≤ i → Ev (fun k => q0q.l1 p (sp x y) k acc (i : Int)) (acc ++ nbs p x y (4 - i) i) := by
   refine upL ?_ ?_
   · intro acc ha
     refine Ev.step (fun k => q0q.l1.eq_2 _ _ _ _ _) (Ev.neg (by omega) (Ev.const ?_))
     simp [nbs]
   · intro i hi ih acc ha
     refine Ev.step (fun k => q0q.l1.eq_2 _ _ _ _ _) (Ev.pos (by omega) (Ev.bind (Ev.const (canGo_eq v hw hx hy hi)) ?_))
     rw [nbs_step p x y hi, wsucc hi (by omega)]
     cases ho : openB p x y i
     · refine Ev.neg (by simp) ?_
       simpa using ih acc (by omega)
     · refine Ev.pos rfl (Ev.bind (Ev.const (ahead_eq _ _)) (Ev.bind (Ev.const (chkT (by simp; omega))) ?_))
       have := ih (acc ++ [nx (sp x y) (i : Int)]) (by simp; omega)
       rw [List.append_assoc] at this
       rw [if_pos rfl]; exact this
 have := key 0 (Nat.zero_le _) [] (by simp)
 rw [List.nil_append] at this
 exact this.bind (Ev.const rfl)
theorem nbs_mem {p : Pasture} (hw : okW p = true) {x y : Nat} {s : Spot} : ∀ n i, i + n ≤ 4 → s ∈ nbs p x y n i → ∃ x' y', x' < 10 ∧ y' < 10 ∧ s = sp x' y' ∧ stepP p y x y' x'
  | 0, i, _, h => by simp [nbs] at h
  | n + 1, i, hn, h => by
    have e := nbs_step p x y (show i < 4 by omega)
    unfold nbs at h
    rcases List.mem_append.1 h with h | h
    · cases ho : openB p x y i
      · rw [ho] at h; simp at h
      · rw [ho, if_pos rfl] at h
        have hc : cellB p (nx (sp x y) (i : Int)).X (nx (sp x y) (i : Int)).Y = true := by
          have := ho
          unfold openB at this
          rw [Bool.and_eq_true] at this
          exact this.1
        obtain ⟨x', y', hx', hy', e⟩ := cellB_nat hw hc
        exact ⟨x', y', hx', hy', (List.mem_singleton.1 h).trans e, hy', hx', i, by omega, ho, e⟩
    · exact nbs_mem hw n (i + 1) (by omega) h
theorem mem_nbs {p : Pasture} {x y x' y' : Nat} (h : stepP p y x y' x') : ∀ n i, i + n = 4 → (∃ j, i ≤ j ∧ j < 4 ∧ openB p x y j = true ∧ nx (sp x y) (j : Int) = sp x' y') → sp x' y' ∈ nbs p x y n i
  | 0, i, hi, ⟨j, h1, h2, _⟩ => by omega
  | n + 1, i, hi, ⟨j, h1, h2, h3, h4⟩ => by
    unfold nbs
    refine List.mem_append.2 ?_
    by_cases e : j = i
    · subst e
      left
      rw [h3, if_pos rfl, h4]; simp
    · right
      exact mem_nbs h n (i + 1) (by omega) ⟨j, by omega, h2, h3, h4⟩
theorem nbs_iff {p : Pasture} (hw : okW p = true) {x y x' y' : Nat} : sp x' y' ∈ nbs p x y 4 0 ↔ stepP p y x y' x' := by
 constructor
 ·intro h
  obtain ⟨a, b, ha, hb, e, hs⟩ := nbs_mem hw 4 0 (by omega) h
  obtain ⟨rfl, rfl⟩ := sp_inj' e
  exact hs
 intro h
 obtain ⟨h1, h2, j, h3, h4, h5⟩ := id h
 exact mem_nbs h 4 0 rfl ⟨j, Nat.zero_le _, h3, h4, h5⟩
def ltS (a b : Spot) : Bool := decide (a.Y < b.Y ∨ (a.Y = b.Y ∧ a.X < b.X))
def minS : Spot → List Spot → Spot
  | t, [] => t
  | t, s :: r => minS (if ltS s t = true then s else t) r
def stepO (f : Spot → Bool) (o : Option Spot) (s : Spot) : Option Spot := if f s = true then (match o with | none => some s | some t => if ltS s t = true then some s else some t) else o
theorem foldO_some (f : Spot → Bool) : ∀ (l : List Spot) (t : Spot), l.foldl (stepO f) (some t) = some (minS t (l.filter f))
  | [], t => rfl
  | s :: l, t => by
    rw [List.foldl_cons, List.filter_cons]
    cases h : f s
    · rw [show stepO f (some t) s = some t by unfold stepO; rw [h]; simp, foldO_some f l t]; simp
    · have : stepO f (some t) s = some (if ltS s t = true then s else t) := by
        unfold stepO
        rw [h, if_pos rfl]
        simp only
        split <;> rfl
      rw [this, foldO_some f l]; simp [minS]
theorem foldO_none (f : Spot → Bool) : ∀ l : List Spot, l.foldl (stepO f) none = match l.filter f with
    | [] => none
    | t :: r => some (minS t r)
  | [] => rfl
  | s :: l => by
    rw [List.foldl_cons, List.filter_cons]
    cases h : f s
    · rw [show stepO f none s = none by unfold stepO; rw [h]; simp, foldO_none f l]; simp
    · have : stepO f none s = some s := by unfold stepO; rw [h, if_pos rfl]
      rw [this, foldO_some f l]; simp
theorem minS_mem : ∀ (l : List Spot) (t : Spot), minS t l = t ∨ minS t l ∈ l
  | [], t => .inl rfl
  | s :: l, t => by
    rw [minS]
    rcases minS_mem l (if ltS s t = true then s else t) with h | h
    · rw [h]
      split
      · exact .inr (by simp)
      · exact .inl rfl
    · exact .inr (List.mem_cons_of_mem _ h)
def inS (s : Spot) : Prop := ∃ x y : Nat, x < 10 ∧ y < 10 ∧ s = sp x y
theorem cmp_eq {a b : Spot} (ha : inS a) (hb : inS b) : ∃ z, q0z.f a b = some z ∧ (z < 0 ↔ ltS a b = true) := by
 obtain ⟨x, y, hx, hy, rfl⟩ := ha
 obtain ⟨x', y', hx', hy', rfl⟩ := hb
 unfold q0z.f ltS sp
 rw [w64 (x := (x : Int)) (by omega) (by omega), w64 (x := (y : Int)) (by omega) (by omega), w64 (x := (x' : Int)) (by omega) (by omega), w64 (x := (y' : Int)) (by omega) (by omega), w64 (x := (x : Int) - (x' : Int)) (by omega) (by omega), w64 (x := (y : Int) - (y' : Int)) (by omega) (by omega)]
 by_cases h : (y : Int) = (y' : Int)
 ·exact ⟨_, if_neg (by simp [h]), by rw [decide_eq_true_eq]; show _ ↔ ((y : Int) < y' ∨ ((y : Int) = y' ∧ (x : Int) < x')); omega⟩
 exact ⟨_, if_pos h, by rw [decide_eq_true_eq]; show _ ↔ ((y : Int) < y' ∨ ((y : Int) = y' ∧ (x : Int) < x')); omega⟩
theorem min_loop {l : List Spot} (hl : l.length ≤ 1000) (hi : ∀ s ∈ l, inS s) : ∀ i, i ≤ l.length → ∀ t, inS t → Ev (fun k => q0c.l1 l q0z.f k t (i : Int)) (minS t (l.drop i)) := by
 refine upL ?_ ?_
 ·intro t ht
  rw [List.drop_length]
  exact Ev.step (fun k => q0c.l1.eq_2 _ _ _ _ _) (Ev.neg (by omega) (Ev.const rfl))
 intro i h ih t ht
 have hs := hi _ (List.getElem_mem h)
 obtain ⟨z, e1, e2⟩ := cmp_eq hs ht
 rw [List.drop_eq_getElem_cons h, minS]
 refine Ev.step (fun k => q0c.l1.eq_2 _ _ _ _ _) (Ev.pos (by omega) (Ev.bind (Ev.const (getI_nat h)) (Ev.bind (Ev.const e1) ?_)))
 by_cases c : z < 0
 ·rw [if_pos (e2.1 c)]
  refine Ev.pos c (Ev.bind (Ev.const (getI_nat h)) ?_)
  rw [wsucc h (by omega)]
  exact ih _ hs
 rw [if_neg (fun q => c (e2.2 q))]
 refine Ev.neg c ?_
 rw [wsucc h (by omega)]
 exact ih _ ht
theorem min_ev {t : Spot} {l : List Spot} (hl : (t :: l).length ≤ 1000) (hi : ∀ s ∈ t :: l, inS s) : Ev (fun k => q0c.f k (t :: l) q0z.f) (minS t l) := by
 have h := min_loop hl hi 1 (by simp) t (hi t (by simp))
 exact Ev.neg (by simp; omega) (Ev.bind (Ev.const (show getI (t :: l) 0 = some t from rfl)) (Ev.bind h (Ev.const rfl)))
end
section
theorem before_eq (a b : Spot) : q24.f a b = some (ltS a b) := by
 unfold q24.f ltS
 by_cases h : a.Y < b.Y
 ·rw [if_pos h, decide_eq_true (.inl h)]
 by_cases h2 : a.Y = b.Y
 ·rw [if_neg h, if_pos h2]
  congr 1
  rw [decide_eq_decide]
  omega
 rw [if_neg h, if_neg h2, decide_eq_false (by omega)]
def PlO (l : List Spot) (b : Int) (o : Option Spot) : Prop := (b = -1 ∧ o = none) ∨ ∃ (j : Nat) (hj : j < l.length), b = (j : Int) ∧ o = some l[j]
theorem best_loop {n : Tb} {l : List Spot} (hl : l.length ≤ 4) (hi : ∀ s ∈ l, inS s) {x y : Nat} (hx : x < 10) (hy : y < 10) (hb : ∀ b a, b < 10 → a < 10 → 0 ≤ g2 n b a ∧ g2 n b a ≤ 102) : ∀ i, i ≤ l.length → ∀ (b : Int) (o : Option Spot), PlO l b o → ∃ b', Ev (fun k => q0g.l2 n (sp x y) l k b (i : Int)) b' ∧ PlO l b' ((l.drop i).foldl (stepO fun s => decide (gS n s = g2 n y x - 1)) o) := by
 refine upL ?_ ?_
 ·intro b o ho
  rw [List.drop_length]
  exact ⟨b, Ev.step (fun k => q0g.l2.eq_2 _ _ _ _ _ _) (Ev.neg (by omega) (Ev.const rfl)), ho⟩
 intro i h ih b o ho
 obtain ⟨a, c, ha, hc, e⟩ := hi _ (List.getElem_mem h)
 have hg : getI l (i : Int) = some (sp a c) := by rw [getI_nat h, e]
 have hbx := hb y x hy hx
 have w1 : IntKind.i64.wrap (gA (gR n y) x - 1) = g2 n y x - 1 := w64 (show -9223372036854775808 ≤ g2 n y x - 1 by omega) (show g2 n y x - 1 ≤ 9223372036854775807 by omega)
 rw [List.drop_eq_getElem_cons h, List.foldl_cons, e]
 have rd : ∀ {g : Nat → Int → Option Int} {r}, (Ev (fun k => g k (g2 n y x)) r) → Ev (fun k => (getI n.l (sp x y).Y).bind fun t36 => (getI t36.l (sp x y).X).bind fun t37 => g k t37) r := fun {g r} hh => Ev.bind (Ev.const (getR n hy)) (Ev.bind (Ev.const (getA _ hx)) hh)
 have base : ∀ {b'}, Ev (fun k => if g2 n c a = g2 n y x - 1 then (if b < 0 then (q0g.l2 n (sp x y) l k (i : Int) (IntKind.i64.wrap ((i : Int) + 1))) else ((getI l (i : Int)).bind fun t38 => (getI l b).bind fun t39 => (q24.f t38 t39).bind fun t40 => if t40 = true then (q0g.l2 n (sp x y) l k (i : Int) (IntKind.i64.wrap ((i : Int) + 1))) else (q0g.l2 n (sp x y) l k b (IntKind.i64.wrap ((i : Int) + 1))))) else (q0g.l2 n (sp x y) l k b (IntKind.i64.wrap ((i : Int) + 1)))) b' → Ev (fun k => q0g.l2 n (sp x y) l k b (i : Int)) b' := fun {b'} hh => by
   refine Ev.step (fun k => q0g.l2.eq_2 _ _ _ _ _ _) (Ev.pos (by omega) (Ev.bind (Ev.const hg) (Ev.bind (Ev.const hg) (Ev.bind (Ev.const (getR n hc)) (Ev.bind (Ev.const (getA _ ha)) (Ev.bind (Ev.const (getR n hy)) (Ev.bind (Ev.const (getA _ hx)) ?_)))))))
   rw [w1]
   exact hh
 rw [wsucc h (by omega)] at base
 have hgs : gS n (sp a c) = g2 n c a := gS_sp n a c
 by_cases near : g2 n c a = g2 n y x - 1
 ·have hpl : PlO l (i : Int) (some (sp a c)) := .inr ⟨i, h, rfl, by rw [e]⟩
  rcases ho with ⟨rfl, rfl⟩ | ⟨j, hj, rfl, rfl⟩
  ·have e1 : stepO (fun s => decide (gS n s = g2 n y x - 1)) none (sp a c) = some (sp a c) := by
     unfold stepO; simp only [hgs]; rw [if_pos (decide_eq_true near)]
   rw [e1]
   obtain ⟨b', h1, h2⟩ := ih (i : Int) (some (sp a c)) hpl
   exact ⟨b', base (Ev.pos near (Ev.pos (by omega) h1)), h2⟩
  have e1 : stepO (fun s => decide (gS n s = g2 n y x - 1)) (some l[j]) (sp a c) = if ltS (sp a c) l[j] = true then some (sp a c) else some l[j] := by
    unfold stepO; simp only [hgs]; rw [if_pos (decide_eq_true near)]
  rw [e1]
  by_cases lt : ltS (sp a c) l[j] = true
  ·rw [if_pos lt]
   obtain ⟨b', h1, h2⟩ := ih (i : Int) (some (sp a c)) hpl
   exact ⟨b', base (Ev.pos near (Ev.neg (by omega) (Ev.bind (Ev.const hg) (Ev.bind (Ev.const (getI_nat hj)) (Ev.bind (Ev.const (before_eq _ _)) (Ev.pos lt h1)))))), h2⟩
  rw [if_neg lt]
  obtain ⟨b', h1, h2⟩ := ih (j : Int) (some l[j]) (.inr ⟨j, hj, rfl, rfl⟩)
  exact ⟨b', base (Ev.pos near (Ev.neg (by omega) (Ev.bind (Ev.const hg) (Ev.bind (Ev.const (getI_nat hj)) (Ev.bind (Ev.const (before_eq _ _)) (Ev.neg lt h1)))))), h2⟩
 have e1 : stepO (fun s => decide (gS n s = g2 n y x - 1)) o (sp a c) = o := by
   unfold stepO; simp only [hgs]; rw [if_neg (by rw [decide_eq_true_eq]; exact near)]
 rw [e1]
 obtain ⟨b', h1, h2⟩ := ih b o ho
 exact ⟨b', base (Ev.neg near h1), h2⟩
end
section
theorem steps_at {m : Tb} {x y : Nat} (hx : x < 10) (hy : y < 10) (h : -1 ≤ g2 m y x ∧ g2 m y x ≤ 102) : q1e.f m (sp x y) = some (g2 m y x) := by
 have hw : IntKind.i64.wrap (gA (gR m y) x) = g2 m y x := w64 (show -9223372036854775808 ≤ g2 m y x by omega) (show g2 m y x ≤ 9223372036854775807 by omega)
 unfold q1e.f
 show ((getI m.l ((y : Nat) : Int)).bind _) = _
 rw [getR m hy, Option.bind_some]
 show ((getI (gR m y).l ((x : Nat) : Int)).bind _) = _
 rw [getA _ hx, Option.bind_some, hw]
theorem nbs_in {p : Pasture} (hw : okW p = true) (x y : Nat) : ∀ s ∈ nbs p x y 4 0, inS s := fun s hs => by
  obtain ⟨a, b, ha, hb, e, _⟩ := nbs_mem hw 4 0 (by omega) hs
  exact ⟨a, b, ha, hb, e⟩
theorem next_ev {p : Pasture} (v : VPasture p) (hw : okW p = true) {by_ bx : Nat} {m n : Tb} (d : Dm p by_ bx m) (hm : ∀ b a, b < 10 → a < 10 → g2 n b a = g2 m b a + 1 ∧ -1 ≤ g2 m b a ∧ g2 m b a ≤ 101) {x y : Nat} (hx : x < 10) (hy : y < 10) (hc : cellB p (x : Int) (y : Int) = true) (hb : ∀ y x, y < 10 → x < 10 → 0 ≤ g2 m y x → cellB p (x : Int) (y : Int) = true) (h : 0 < g2 m y x) :
 ∃ x' y', x' < 10 ∧ y' < 10 ∧ stepP p y x y' x' ∧ g2 m y' x' = g2 m y x - 1 ∧
 (∃ L, Ev (fun k => q04.f k (nbs p x y 4 0) (q1l.f m (sp x y))) L ∧ Ev (fun k => q0c.f k L q0z.f) (sp x' y')) ∧
 ∃ b', Ev (fun k => q0g.l2 n (sp x y) (nbs p x y 4 0) k (-1) 0) b' ∧ getI (nbs p x y 4 0) b' = some (sp x' y') := by
  have hl := nbs_len p x y 4 0
  have hin := nbs_in hw x y
  have hxy := hm y x hy hx
  obtain ⟨c, e, hc', he, hs, k1, k2⟩ := d.pre y x hy hx h
  have hs' := step_back hw hc' he (hb c e hc' he k1) hs
  have hmem : sp e c ∈ nbs p x y 4 0 := (nbs_iff hw).2 hs'
  have fe : ∀ s ∈ nbs p x y 4 0, decide (gS n s = g2 n y x - 1) = decide (gS m s = g2 m y x - 1) := fun s hs => by
    obtain ⟨a, b, ha, hb', rfl⟩ := hin s hs
    have := hm b a hb' ha
    rw [gS_sp, gS_sp, decide_eq_decide]; omega
  have hfe : (nbs p x y 4 0).filter (fun s => decide (gS n s = g2 n y x - 1)) = (nbs p x y 4 0).filter (fun s => decide (gS m s = g2 m y x - 1)) := List.filter_congr fe
  have hne : sp e c ∈ (nbs p x y 4 0).filter (fun s => decide (gS m s = g2 m y x - 1)) := List.mem_filter.2 ⟨hmem, decide_eq_true (by rw [gS_sp]; omega)⟩
  have hdel := deleteS_ev (nbs p x y 4 0) (g := fun k => q1l.f m (sp x y)) (dl := fun s => !decide (gS m s = g2 m y x - 1)) (fun s hs => by
    obtain ⟨a, b, ha, hb', rfl⟩ := hin s hs
    have h1 := hm b a hb' ha
    refine Ev.const ?_
    unfold q1l.f
    rw [steps_at ha hb' (by omega), Option.bind_some, steps_at hx hy (by omega), Option.bind_some, w64 (by omega) (by omega), gS_sp]
    congr 1
    by_cases q : g2 m b a = g2 m y x - 1 <;> simp [q]) (by omega)
  have hdl : (nbs p x y 4 0).filter (fun h => !(fun s => !decide (gS m s = g2 m y x - 1)) h) = (nbs p x y 4 0).filter (fun s => decide (gS m s = g2 m y x - 1)) := List.filter_congr fun s _ => by simp
  rw [hdl] at hdel
  obtain ⟨b', q1, q2⟩ := best_loop (n := n) hl hin hx hy (fun b a hb' ha => by have := hm b a hb' ha; omega) 0 (Nat.zero_le _) (-1) none (.inl ⟨rfl, rfl⟩)
  rw [List.drop_zero, foldO_none, hfe] at q2
  cases hL : (nbs p x y 4 0).filter (fun s => decide (gS m s = g2 m y x - 1)) with
  | nil => rw [hL] at hne; cases hne
  | cons t r =>
    rw [hL] at q2 hdel
    have hsub : ∀ s ∈ t :: r, s ∈ nbs p x y 4 0 ∧ gS m s = g2 m y x - 1 := fun s hs => by
      rw [← hL] at hs
      obtain ⟨a, b⟩ := List.mem_filter.1 hs
      exact ⟨a, of_decide_eq_true b⟩
    have hmin : minS t r ∈ t :: r := by
      rcases minS_mem r t with q | q
      · rw [q]; simp
      · exact List.mem_cons_of_mem _ q
    obtain ⟨z1, z2⟩ := hsub _ hmin
    obtain ⟨x', y', hx', hy', ez⟩ := hin _ z1
    rw [ez] at z1 z2
    have q2 : PlO (nbs p x y 4 0) b' (some (minS t r)) := q2
    rw [ez] at q2
    rw [gS_sp] at z2
    have hlen : (t :: r).length ≤ 1000 := by
      rw [← hL]
      exact Nat.le_trans (List.length_filter_le _ _) (by omega)
    have hmn := min_ev (t := t) (l := r) hlen (fun s hs => hin s (hsub s hs).1)
    rw [ez] at hmn
    refine ⟨x', y', hx', hy', (nbs_iff hw).1 z1, z2, ⟨t :: r, hdel, hmn⟩, b', q1, ?_⟩
    rcases q2 with ⟨_, q⟩ | ⟨j, hj, rfl, q⟩
    · cases q
    · rw [getI_nat hj]; exact q.symm
def goesTo (p : Pasture) : Spot → List Spot → Spot → Prop
  | s, [], t => s = t
  | s, c :: r, t => (∃ x y x' y', y < 10 ∧ x < 10 ∧ s = sp x y ∧ c = sp x' y' ∧ stepP p y x y' x') ∧ goesTo p c r t
theorem way_loop {p : Pasture} (v : VPasture p) (hw : okW p = true) {by_ bx : Nat} {m n : Tb} (d : Dm p by_ bx m) (hm : ∀ b a, b < 10 → a < 10 → g2 n b a = g2 m b a + 1 ∧ -1 ≤ g2 m b a ∧ g2 m b a ≤ 101) (hb : ∀ y x, y < 10 → x < 10 → 0 ≤ g2 m y x → cellB p (x : Int) (y : Int) = true) : ∀ (c : Nat) (x y : Nat), x < 10 → y < 10 → g2 m y x = (c : Int) → ∀ acc : List Spot, acc.length + c ≤ 1000 →
 ∃ W, W.length = c ∧ goesTo p (sp x y) W (sp bx by_) ∧ Ev (fun k => q14.l1 p m k (sp x y) acc) (acc ++ W) ∧ Ev (fun k => q0g.l1 p (sp bx by_) n k acc (sp x y)) (acc ++ W)
  | 0, x, y, hx, hy, h, acc, ha => by
    obtain ⟨rfl, rfl⟩ := d.one y x hy hx h
    have hxy := hm y x hy hx
    refine ⟨[], rfl, rfl, ?_, ?_⟩
    · rw [List.append_nil]
      exact Ev.step (fun k => q14.l1.eq_2 _ _ _ _ _) (Ev.bind (Ev.const (steps_at hx hy (by omega))) (Ev.neg (by omega) (Ev.const rfl)))
    · rw [List.append_nil]
      exact Ev.step (fun k => q0g.l1.eq_2 _ _ _ _ _ _) (Ev.neg (by simp) (Ev.const rfl))
  | c + 1, x, y, hx, hy, h, acc, ha => by
    have hxy := hm y x hy hx
    have hc := hb y x hy hx (by omega)
    obtain ⟨x', y', hx', hy', hs, hz, ⟨L, l1, l2⟩, b', q1, q2⟩ := next_ev v hw d hm hx hy hc hb (by omega)
    obtain ⟨W, w1, w2, w3, w4⟩ := way_loop v hw d hm hb c x' y' hx' hy' (by omega) (acc ++ [sp x' y']) (by simp; omega)
    rw [List.append_assoc] at w3 w4
    refine ⟨sp x' y' :: W, by simp [w1], ⟨⟨x, y, x', y', hy, hx, rfl, rfl, hs⟩, w2⟩, ?_, ?_⟩
    · exact Ev.step (fun k => q14.l1.eq_2 _ _ _ _ _) (Ev.bind (Ev.const (steps_at hx hy (by omega))) (Ev.pos (by omega) ((besideI_ev v hw hx hy).bind (l1.bind (l2.bind (Ev.bind (Ev.const (chkT (by simp; omega))) w3))))))
    · have hne : sp x y ≠ sp bx by_ := fun e => by
        obtain ⟨rfl, rfl⟩ := sp_inj' e
        have := d.zero
        omega
      exact Ev.step (fun k => q0g.l1.eq_2 _ _ _ _ _ _) (Ev.pos hne (Ev.bind (a := (acc ++ [sp x' y'], sp x' y')) ((beside_ev v hw hx hy).bind (q1.bind (Ev.bind (Ev.const q2) (Ev.bind (Ev.const (chkT (by simp; omega))) (Ev.const rfl))))) w4))
end
end Go.Proofs.YtegibnmfiogebaaGreatDoor
