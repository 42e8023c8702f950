
/-
  Plain law: ReadSights of the program and of the reference answer alike.
-/
import Derived.Test.YtdbppckimfhgeaaGreatDoorQB
import Derived.Test.YtdbppckimfhgeaaGreatDoorQX2
namespace Go.Proofs.YtdbppckimfhgeaaGreatDoor.T
open G
set_option linter.unusedVariables false
set_option linter.unusedSimpArgs false
/-! ### Pieces -/
theorem pre_len (p : List UInt8) (n : Nat) : ∀ xs : List (List UInt8), (∀ x ∈ xs, x.length ≤ n) → ∀ x ∈ preL p xs, x.length ≤ p.length + n
  | [], _, x, hx => by simp [preL] at hx; subst hx; omega
  | y :: ys, h, x, hx => by
    rcases List.mem_cons.1 hx with rfl | hx
    · have := h y (by simp); simp; omega
    · have := h x (List.mem_cons_of_mem _ hx); omega
theorem spl_len (c : UInt8) : ∀ (l : List UInt8), ∀ x ∈ spl c l, x.length ≤ l.length
  | [], x, hx => by simp [spl] at hx; subst hx; simp
  | b :: l, x, hx => by
    unfold spl at hx
    split at hx
    · rcases List.mem_cons.1 hx with rfl | hx
      · simp
      · have := spl_len c l x hx; simp; omega
    · have := pre_len [b] l.length _ (spl_len c l) x hx
      simp at this ⊢; omega
theorem pre_count (p : List UInt8) : ∀ xs : List (List UInt8), (preL p xs).length ≤ xs.length + 1
  | [] => by simp [preL]
  | y :: ys => by simp [preL]
theorem pre_count1 (p : List UInt8) {xs : List (List UInt8)} (h : xs ≠ []) : (preL p xs).length = xs.length := by
  cases xs with
  | nil => exact absurd rfl h
  | cons y ys => simp [preL]
theorem spl_count (c : UInt8) : ∀ (l : List UInt8), (spl c l).length ≤ l.length + 1
  | [] => by simp [spl]
  | b :: l => by
    have := spl_count c l
    unfold spl
    split
    · simp; omega
    · rw [pre_count1 _ (spl_ne c l)]; simp; omega
theorem spl_two {c : UInt8} : ∀ {l : List UInt8}, c ∈ l → 2 ≤ (spl c l).length := by
  intro l h
  rcases first_of c l with h1 | ⟨a, r, h1, rfl⟩
  · exact absurd h h1
  · rw [spl_hit h1, List.length_cons]
    have := List.length_pos_iff.2 (spl_ne c r)
    omega
/-! ### A word -/
def word? (l : List UInt8) : Option Sight :=
  match spl 58 l with
  | [h, r] =>
    match spl 44 r with
    | [a, b] => if (okNum h && okNum a && okNum b && decide (valF 0 h ≤ 1000) && decide (valF 0 a ≤ 9) && decide (valF 0 b ≤ 9)) = true then some (⟨(valF 0 h : Int), (⟨(valF 0 a : Int), (valF 0 b : Int)⟩ : Spot)⟩ : Sight) else none
    | _ => none
  | _ => none
theorem join_two (c : UInt8) (a b : List UInt8) : Go.Lib.join [a, b] [c] = a ++ c :: b := by
  rw [Go.Lib.join_cons]
  simp [Go.Lib.joinTail]
theorem okNum_toB {l : List UInt8} (h : okNum l = true) : itoaB ((valF 0 l : Nat) : Int) = toB l := okNum_itoa (s := toB l) h
theorem word_some {l : List UInt8} {s : Sight} (h : word? l = some s) : toB l = wordB s ∧ goodS s := by
  unfold word? at h
  split at h
  · rename_i hh r e1
    split at h
    · rename_i a b e2
      split at h
      · rename_i hc
        have h := Option.some.inj h
        subst h
        simp only [Bool.and_eq_true, decide_eq_true_eq] at hc
        obtain ⟨⟨⟨⟨⟨o1, o2⟩, o3⟩, v1⟩, v2⟩, v3⟩ := hc
        have j1 := join_spl 58 l
        have j2 := join_spl 44 r
        rw [e1, join_two] at j1
        rw [e2, join_two] at j2
        refine ⟨?_, ⟨by show (0 : Int) ≤ (valF 0 hh : Int); omega, by show (valF 0 hh : Int) ≤ 1000; omega⟩, ⟨by show (0 : Int) ≤ (valF 0 a : Int); omega, by show (valF 0 a : Int) ≤ 9; omega⟩, by show (0 : Int) ≤ (valF 0 b : Int); omega, by show (valF 0 b : Int) ≤ 9; omega⟩
        show toB l = (((itoaB (valF 0 hh : Int) ++ dot) ++ itoaB (valF 0 a : Int)) ++ com) ++ itoaB (valF 0 b : Int)
        rw [okNum_toB o1, okNum_toB o2, okNum_toB o3]
        show _ = (((toB hh ++ toB [58]) ++ toB a) ++ toB [44]) ++ toB b
        rw [← toB_app, ← toB_app, ← toB_app, ← toB_app, ← j1, ← j2]
        congr 1
        simp
      · cases h
    · cases h
  · cases h
def seqW : List (List UInt8) → Option (List Sight)
  | [] => some []
  | l :: ls => match word? l with
    | none => none
    | some s => (seqW ls).map (s :: ·)
theorem seqW_some : ∀ {ls : List (List UInt8)} {xs : List Sight}, seqW ls = some xs → ls.map toB = xs.map wordB ∧ (∀ s ∈ xs, goodS s)
  | [], xs, h => by
    have h := Option.some.inj h
    subst h
    exact ⟨rfl, by simp⟩
  | l :: ls, xs, h => by
    unfold seqW at h
    cases hw : word? l with
    | none => rw [hw] at h; cases h
    | some s =>
      rw [hw] at h
      cases hs : seqW ls with
      | none => rw [hs] at h; cases h
      | some ys =>
        rw [hs] at h
        have h := Option.some.inj h
        subst h
        obtain ⟨a, b⟩ := seqW_some hs
        obtain ⟨c, d⟩ := word_some hw
        refine ⟨by rw [List.map_cons, List.map_cons, a, c], fun z hz => ?_⟩
        rcases List.mem_cons.1 hz with rfl | hz
        · exact d
        · exact b z hz
def outW (ys : List Sight) (ls : List (List UInt8)) : (List Sight × Int) ⊕ (List Sight) := match seqW ls with
  | some zs => .inr (ys ++ zs)
  | none => .inl ([], 5)
theorem outW_nil (ys : List Sight) : outW ys [] = .inr ys := by simp [outW, seqW]
theorem outW_none {ys : List Sight} {l : List UInt8} {ls : List (List UInt8)} (h : word? l = none) : outW ys (l :: ls) = .inl ([], 5) := by
  unfold outW seqW; rw [h]
theorem outW_some {ys : List Sight} {l : List UInt8} {ls : List (List UInt8)} {s : Sight} (h : word? l = some s) : outW ys (l :: ls) = outW (ys ++ [s]) ls := by
  unfold outW
  rw [seqW, h]
  cases seqW ls <;> simp
theorem getM (ls : List (List UInt8)) {i : Nat} (hi : i < ls.length) : getI (ls.map toB) (i : Int) = some (toB ls[i]) := by
  rw [getI_nat (by simpa using hi), List.getElem_map]
theorem wi16 {x : Nat} (h : x ≤ 1000) : IntKind.i16.wrap (x : Int) = (x : Int) := by
  simp [IntKind.wrap, IntKind.bits, IntKind.signed]; omega
theorem wi8 {x : Nat} (h : x ≤ 9) : IntKind.i8.wrap (x : Int) = (x : Int) := by
  simp [IntKind.wrap, IntKind.bits, IntKind.signed]; omega
/-! ### The reference -/
theorem specWord_ev {h a b : List UInt8} : Ev (fun k => (if (!(numL h).2) = true then (some true) else (if (!(numL a).2) = true then (some true) else (if (!(numL b).2) = true then (some true) else ((spec_l01Grass.f (numL h).1).bind fun t30 => if (!t30) = true then (some true) else (if 10 ≤ (numL a).1 then (some true) else (some (decide (10 ≤ (numL b).1))))))))) (!(okNum h && okNum a && okNum b && decide (valF 0 h ≤ 1000) && decide (valF 0 a ≤ 9) && decide (valF 0 b ≤ 9))) := by
  unfold numL
  cases okNum h
  · exact Ev.pos rfl (Ev.const rfl)
  · refine Ev.neg (by simp) ?_
    cases okNum a
    · exact Ev.pos rfl (Ev.const rfl)
    · refine Ev.neg (by simp) ?_
      cases okNum b
      · exact Ev.pos rfl (Ev.const rfl)
      · refine Ev.neg (by simp) (Ev.const ?_)
        simp only [spec_l01Grass.f, l00In_eq, Option.bind_some, if_true]
        by_cases h1 : valF 0 h ≤ 1000
        · rw [decide_eq_true (show (0 : Int) ≤ (valF 0 h : Int) ∧ (valF 0 h : Int) ≤ 1000 from ⟨by omega, by omega⟩), decide_eq_true h1]
          by_cases h2 : valF 0 a ≤ 9
          · rw [if_neg (by simp), if_neg (by omega), decide_eq_true h2]
            by_cases h3 : valF 0 b ≤ 9
            · rw [decide_eq_true h3, decide_eq_false (by omega)]; rfl
            · rw [decide_eq_false h3, decide_eq_true (by omega)]; rfl
          · rw [if_neg (by simp), if_pos (by omega), decide_eq_false h2]; rfl
        · rw [decide_eq_false (show ¬ ((0 : Int) ≤ (valF 0 h : Int) ∧ (valF 0 h : Int) ≤ 1000) by omega), decide_eq_false h1]; rfl
/-! ### The program -/
def okA (z : List UInt8) (m : Nat) : Bool := okNum z && decide (valF 0 z ≤ m)
theorem number_toB (z : List UInt8) (m : Nat) (hz : z.length ≤ 1048576) (hm : m ≤ 1000) : impl_number.f (toB z) (m : Int) = some (if okA z m = true then (((valF 0 z : Nat) : Int), true) else (0, false)) := by
  rw [number_eq (toB z) (m : Int) (by rw [toB_size]; omega) (by omega), toB_list]
  unfold okA
  congr 1
  by_cases h : okNum z = true
  · by_cases h2 : valF 0 z ≤ m
    · rw [if_pos ⟨h, by omega⟩, if_pos (by simp [h, h2])]
    · rw [if_neg (by intro hh; omega), if_neg (by simp [h, h2])]
  · rw [if_neg (by intro hh; exact h hh.1), if_neg (by simp [h])]
theorem okNum_mem {l : List UInt8} (h : okNum l = true) {b : UInt8} (hb : b ∈ l) : digB b = true := by
  unfold okNum at h
  simp only [Bool.and_eq_true] at h
  exact List.all_eq_true.1 h.2 b hb
theorem okA_bad {l : List UInt8} {m : Nat} {b : UInt8} (hb : b ∈ l) (hd : digB b = false) : okA l m = false := by
  unfold okA
  cases h : okNum l
  · rfl
  · rw [okNum_mem h hb] at hd; cases hd
theorem cut_eq (s : ByteArray) (c : UInt8) (hs : s.size ≤ 1048576) : strings_Cut.f s (⟨#[c]⟩ : ByteArray) = some (cutS s ⟨#[c]⟩) := by
  unfold strings_Cut.f
  rw [chkX (by omega)]; rfl
theorem readSpot_hit {x y : List UInt8} (hx : (44 : UInt8) ∉ x) (lx : x.length ≤ 1048576) (ly : y.length ≤ 1048576) (lz : x.length + y.length + 1 ≤ 1048576) : ∃ s, impl_readSpot.f (toB (x ++ 44 :: y)) = some (s, okA x 9 && okA y 9) ∧ (okA x 9 = true → okA y 9 = true → s = (⟨(valF 0 x : Int), (valF 0 y : Int)⟩ : Spot)) := by
  unfold impl_readSpot.f
  rw [cut_eq _ _ (by rw [toB_size]; simp; omega), cut_hit 44 hx (toB_list _), Option.bind_some]
  simp only
  have n1 := number_toB x 9 (by omega) (by omega)
  have n2 := number_toB y 9 (by omega) (by omega)
  rw [show ((9 : Nat) : Int) = 9 from rfl] at n1 n2
  rw [n1, n2]
  simp only [Option.bind_some, if_true]
  cases h1 : okA x 9
  · exact ⟨_, rfl, fun h => by cases h⟩
  · cases h2 : okA y 9
    · exact ⟨_, rfl, fun _ h => by cases h⟩
    · unfold okA at h1 h2
      simp only [Bool.and_eq_true, decide_eq_true_eq] at h1 h2
      exact ⟨_, rfl, fun _ _ => by simp only [if_true, wi8 h1.2, wi8 h2.2]⟩
theorem readSpot_miss {r : List UInt8} (h : (44 : UInt8) ∉ r) (lr : r.length ≤ 1048576) : ∃ s, impl_readSpot.f (toB r) = some (s, false) := by
  unfold impl_readSpot.f
  rw [cut_eq _ _ (by rw [toB_size]; omega), cut_miss 44 (s := toB r) h, Option.bind_some]
  simp only
  have n1 := number_toB r 9 (by omega) (by omega)
  have n2 := number_toB [] 9 (by simp) (by omega)
  rw [show ((9 : Nat) : Int) = 9 from rfl] at n1 n2
  rw [n1, show ByteArray.empty = toB [] from rfl, n2]
  simp only [Option.bind_some]
  exact ⟨_, rfl⟩
/-- What the program makes of one word. -/
theorem implWord (l : List UInt8) (hl : l.length ≤ 1048576) : ∃ (h r : ByteArray) (m : Bool) (n : Int × Bool) (s : Spot × Bool), strings_Cut.f (toB l) (⟨#[58]⟩ : ByteArray) = some (h, r, m) ∧ impl_number.f h 1000 = some n ∧ impl_readSpot.f r = some s ∧
    ((n.2 = true ∧ s.2 = true ∧ ∃ z : Sight, word? l = some z ∧ z = (⟨IntKind.i16.wrap n.1, s.1⟩ : Sight)) ∨ ((n.2 = false ∨ s.2 = false) ∧ word? l = none)) := by
  have hc := cut_eq (toB l) 58 (by rw [toB_size]; omega)
  rcases first_of 58 l with h0 | ⟨a, r, h1, rfl⟩
  · rw [cut_miss 58 (s := toB l) h0] at hc
    have n1 := number_toB l 1000 (by omega) (by omega)
    obtain ⟨s, hs⟩ := readSpot_miss (r := []) (by simp) (by simp)
    refine ⟨_, _, _, _, _, hc, n1, hs, .inr ⟨.inr rfl, ?_⟩⟩
    unfold word?; rw [spl_miss h0]
  · have la : a.length + r.length + 1 ≤ 1048576 := by simp at hl; omega
    rw [cut_hit 58 h1 (toB_list _)] at hc
    have n1 := number_toB a 1000 (by omega) (by omega)
    have hsp := spl_hit (r := r) h1
    rcases first_of 44 r with h2 | ⟨x, y, h3, rfl⟩
    · obtain ⟨s, hs⟩ := readSpot_miss h2 (by omega)
      refine ⟨_, _, _, _, _, hc, n1, hs, .inr ⟨.inr rfl, ?_⟩⟩
      unfold word?
      rw [hsp]
      by_cases h58 : (58 : UInt8) ∈ r
      · have := spl_two h58
        cases e : spl 58 r with
        | nil => exact absurd e (spl_ne _ _)
        | cons u t =>
          rw [e] at this
          cases t with
          | nil => simp at this
          | cons v t => rfl
      · rw [spl_miss h58]
        simp only
        rw [spl_miss h2]
    · have lx : x.length + y.length + 1 ≤ 1048576 := by simp at la; omega
      obtain ⟨s, hs, hv⟩ := readSpot_hit (y := y) h3 (by omega) (by omega) (by omega)
      by_cases h58 : (58 : UInt8) ∈ x ++ 44 :: y
      · refine ⟨_, _, _, _, _, hc, n1, hs, .inr ⟨.inr ?_, ?_⟩⟩
        · show (okA x 9 && okA y 9) = false
          rcases List.mem_append.1 h58 with hm | hm
          · rw [okA_bad hm (by decide)]; rfl
          · rcases List.mem_cons.1 hm with hm | hm
            · cases hm
            · rw [okA_bad hm (by decide), Bool.and_false]
        · have := spl_two h58
          unfold word?
          rw [hsp]
          cases e : spl 58 (x ++ 44 :: y) with
          | nil => exact absurd e (spl_ne _ _)
          | cons u t =>
            rw [e] at this
            cases t with
            | nil => simp at this
            | cons v t => rfl
      · by_cases h44 : (44 : UInt8) ∈ y
        · refine ⟨_, _, _, _, _, hc, n1, hs, .inr ⟨.inr ?_, ?_⟩⟩
          · show (okA x 9 && okA y 9) = false
            rw [okA_bad h44 (by decide), Bool.and_false]
          · have := spl_two h44
            unfold word?
            rw [hsp, spl_miss h58]
            simp only
            rw [spl_hit h3]
            cases e : spl 44 y with
            | nil => exact absurd e (spl_ne _ _)
            | cons u t =>
              rw [e] at this
              cases t with
              | nil => simp at this
              | cons v t => rfl
        · have hw : word? (a ++ 58 :: (x ++ 44 :: y)) = if (okNum a && okNum x && okNum y && decide (valF 0 a ≤ 1000) && decide (valF 0 x ≤ 9) && decide (valF 0 y ≤ 9)) = true then some (⟨(valF 0 a : Int), (⟨(valF 0 x : Int), (valF 0 y : Int)⟩ : Spot)⟩ : Sight) else none := by
            unfold word?
            rw [hsp, spl_miss h58]
            simp only
            rw [spl_hit h3, spl_miss h44]
          cases ha : okA a 1000
          · refine ⟨_, _, _, _, _, hc, n1, hs, .inr ⟨.inl (by rw [ha]; rfl), ?_⟩⟩
            rw [hw, if_neg]
            unfold okA at ha
            intro hh
            simp only [Bool.and_eq_true] at hh
            simp [hh.1.1.1.1.1] at ha
            have := hh.1.1.2
            simp at this
            omega
          · cases hx : okA x 9 && okA y 9
            · refine ⟨_, _, _, _, _, hc, n1, hs, .inr ⟨.inr (by rw [hx]), ?_⟩⟩
              rw [hw, if_neg]
              intro hh
              simp only [Bool.and_eq_true] at hh
              unfold okA at hx
              rw [hh.1.1.1.1.2, hh.1.1.1.2, hh.1.2, hh.2] at hx
              cases hx
            · refine ⟨_, _, _, _, _, hc, n1, hs, .inl ⟨by rw [ha]; rfl, by rw [hx], (⟨(valF 0 a : Int), (⟨(valF 0 x : Int), (valF 0 y : Int)⟩ : Spot)⟩ : Sight), ?_, ?_⟩⟩
              · rw [hw, if_pos]
                rw [Bool.and_eq_true] at hx
                unfold okA at ha hx
                simp only [Bool.and_eq_true] at ha hx ⊢
                exact ⟨⟨⟨⟨⟨ha.1, hx.1.1⟩, hx.2.1⟩, ha.2⟩, hx.1.2⟩, hx.2.2⟩
              · rw [Bool.and_eq_true] at hx
                have hv := hv hx.1 hx.2
                unfold okA at ha
                rw [Bool.and_eq_true, decide_eq_true_eq] at ha
                have e1 : okA a 1000 = true := by unfold okA; simp [ha.1, ha.2]
                rw [hv, if_pos e1]
                simp only [wi16 ha.2]
theorem implWords_loop (ls : List (List UInt8)) (hl : ls.length ≤ 1048577) (hs : ∀ l ∈ ls, l.length ≤ 1048576) : ∀ i, i ≤ ls.length → ∀ ys : List Sight, ys.length ≤ i → Ev (fun k => impl_ReadSights.l1 (ls.map toB) k ys (i : Int)) (outW ys (ls.drop i)) := by
  have hlen : (ls.map toB).length = ls.length := by simp
  refine upL ?_ ?_
  · intro ys hy
    rw [List.drop_length, outW_nil]
    exact Ev.step (fun k => impl_ReadSights.l1.eq_2 _ _ _ _) (Ev.neg (by omega) (Ev.const rfl))
  · intro i hi ih ys hy
    rw [List.drop_eq_getElem_cons hi]
    have hz := hs _ (List.getElem_mem hi)
    generalize hL : ls[i] = l at hz ⊢
    have hg : getI (ls.map toB) (i : Int) = some (toB l) := by rw [getM ls hi, hL]
    obtain ⟨h, r, m, n, s, w1, w2, w3, w4⟩ := implWord l hz
    refine Ev.step (fun k => impl_ReadSights.l1.eq_2 _ _ _ _) (Ev.pos (by omega) (Ev.bind (Ev.const hg) (Ev.bind (Ev.const w1) (Ev.bind (Ev.const w2) (Ev.bind (Ev.const w3) ?_)))))
    rcases w4 with ⟨a, b, z, hw, hz'⟩ | ⟨a, hw⟩
    · rw [outW_some hw]
      have ih := ih (ys ++ [z]) (by simp; omega)
      rw [← wsucc hi (by omega)] at ih
      refine Ev.bind (a := false) (Ev.neg (by rw [a]; simp) (Ev.const (by rw [b]; rfl))) (Ev.neg (by simp) (Ev.bind (Ev.const (chkX (by simp; omega))) ?_))
      rw [← hz']
      exact ih
    · rw [outW_none hw]
      refine Ev.bind (a := true) ?_ (Ev.pos rfl (Ev.const rfl))
      cases hn : n.2
      · exact Ev.pos (by simp) (Ev.const rfl)
      · have hb : s.2 = false := a.resolve_left (by rw [hn]; simp)
        exact Ev.neg (by simp) (Ev.const (by rw [hb]; rfl))
/-! ### Both -/
def ansW (ls : List (List UInt8)) : List Sight × Int := match seqW ls with
  | some zs => if seenB zs = true then (zs, 0) else ([], 5)
  | none => ([], 5)
theorem good_v {xs : List Sight} (h : ∀ s ∈ xs, goodS s) : (∀ s ∈ xs, VSight s) ∧ upA (plOk xs) 0 xs.length = true := by
  have m1 : IntKind.i16.min = -32768 := by decide
  have m2 : IntKind.i16.max = 32767 := by decide
  have m3 : IntKind.i8.min = -128 := by decide
  have m4 : IntKind.i8.max = 127 := by decide
  refine ⟨fun s hs => ?_, (upA_iff _ _ _).2 fun j _ hj => ?_⟩
  · obtain ⟨⟨a, b⟩, ⟨c, d⟩, e, f⟩ := h s hs
    exact ⟨⟨by rw [m1]; omega, by rw [m2]; omega⟩, ⟨by rw [m3]; omega, by rw [m4]; omega⟩, by rw [m3]; omega, by rw [m4]; omega⟩
  · have hj : j < xs.length := by omega
    obtain ⟨_, c, d⟩ := h _ (List.getElem_mem hj)
    rw [plOk_eq hj]
    unfold spotB
    rw [decide_eq_true c, decide_eq_true d]; rfl
theorem ans_len (ls : List (List UInt8)) : (ansW ls).1.length ≤ 40 := by
  unfold ansW
  cases seqW ls with
  | none => simp
  | some zs =>
    by_cases h : seenB zs = true
    · simp only [if_pos h]
      unfold seenB at h
      rw [Bool.and_eq_true, decide_eq_true_eq] at h
      exact h.2
    · simp only [if_neg h]; simp
/-! ### Marks -/
theorem at_app {α : Type} {x : α} : ∀ (d r : List α), getI (d ++ x :: r) (d.length : Int) = some x := fun d r => by
  rw [getI_nat (by simp)]
  simp
theorem set_app1 {α : Type} {x y : α} : ∀ (d r : List α), (d ++ x :: r).set d.length y = d ++ y :: r
  | [], r => rfl
  | a :: d, r => by simp [set_app1 d r]
def mk3 (m : Int) : Sight := (⟨IntKind.i16.wrap m, (⟨IntKind.i8.wrap (m + 1), IntKind.i8.wrap (m + 2)⟩ : Spot)⟩ : Sight)
def mkS : Int → Nat → List Sight
  | _, 0 => []
  | m, n + 1 => mk3 m :: mkS (m + 3) n
end Go.Proofs.YtdbppckimfhgeaaGreatDoor.T
