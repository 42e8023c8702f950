import Derived.Test.YtplfdbfdalaefaaGreatDoorQH3
import Derived.Test.YtplfdbfdalaefaaGreatDoorV1
/-
  Plain law: all numbers of a list are different: sorted, no two neighbours are alike.
-/
namespace Go.Proofs.YtplfdbfdalaefaaGreatDoor
open G
set_option linter.unusedVariables false
set_option linter.unusedSimpArgs false
theorem cmp_full (xs : List Int) : (cmpI xs).length = xs.length ↔ ∀ j, j < xs.length → Go.Lib.keeps xs.toArray j = true := by
 unfold cmpI Go.Lib.compact Go.Lib.compactUpTo
 rw [List.length_map]
 constructor
 ·intro h j hj
  have hl : ((List.range xs.length).filter (Go.Lib.keeps xs.toArray)).length = (List.range xs.length).length := by rw [h]; simp
  exact (List.length_filter_eq_length_iff.1 hl) j (List.mem_range.2 hj)
 intro h
 rw [List.filter_eq_self.2 (fun j hj => h j (List.mem_range.1 hj)), List.length_range]
theorem sortI_perm (xs : List Int) : (sortI xs).Perm xs := List.mergeSort_perm xs _
theorem sortI_sorted (xs : List Int) : (sortI xs).Pairwise (· ≤ ·) := by
 have := List.pairwise_mergeSort (le := fun x y : Int => decide (x ≤ y)) (by intro a b c h1 h2; simp only [decide_eq_true_eq] at *; omega) (by intro a b; simp only [Bool.or_eq_true, decide_eq_true_eq]; omega) xs
 exact this.imp fun h => by simpa using h
theorem each_iff (xs : List Int) : (cmpI (sortI xs)).length = xs.length ↔ xs.Nodup := by
 have hl : (sortI xs).length = xs.length := sortI_len xs
 rw [← (sortI_perm xs).nodup_iff, ← hl, cmp_full]
 have hs := sortI_sorted xs
 generalize sortI xs = s at hs
 constructor
 ·intro h
  unfold List.Nodup
  rw [List.pairwise_iff_getElem]
  intro i j hi hj hij e
  have hle : ∀ m, ∀ (hm : m < s.length), i ≤ m → s[i] ≤ s[m] := fun m hm him => by
    rcases Nat.lt_or_eq_of_le him with h1 | h1
    · exact (List.pairwise_iff_getElem.1 hs) i m hi hm h1
    · subst h1; exact Int.le_refl _
  have hk := h j hj
  unfold Go.Lib.keeps at hk
  rw [decide_eq_true_eq] at hk
  rcases hk with h0 | h0
  ·omega
  refine h0 ?_
  rw [getElem!_pos _ _ (by simpa using hj), getElem!_pos _ _ (by simp; omega)]
  simp only [List.getElem_toArray]
  have h1 := hle (j - 1) (by omega) (by omega)
  have h2 := (List.pairwise_iff_getElem.1 hs) (j - 1) j (by omega) hj (by omega)
  omega
 intro h j hj
 unfold Go.Lib.keeps
 rw [decide_eq_true_eq]
 by_cases h0 : j = 0
 ·exact .inl h0
 refine .inr fun e => ?_
 rw [getElem!_pos _ _ (by simpa using hj), getElem!_pos _ _ (by simp; omega)] at e
 simp only [List.getElem_toArray] at e
 unfold List.Nodup at h
 exact (List.pairwise_iff_getElem.1 h) (j - 1) j (by omega) hj (by omega) e.symm
theorem isEach_eq (xs : List Int) (hx : xs.length ≤ 1048576) : impl_isEach.f xs = some (decide xs.Nodup) := by
 unfold impl_isEach.f slices_Clone_int64_int64.f slices_Sort_int64_int64.f slices_Compact_int64_int64.f
 rw [chkT (by simp; omega), Option.bind_some, Option.bind_some, chkT (by omega), Option.bind_some, Option.bind_some, chkT (by rw [sortI_len]; omega), Option.bind_some, Option.bind_some]
 congr 1
 rw [Bool.eq_iff_iff, decide_eq_true_eq, decide_eq_true_eq, ← each_iff]
 omega
end Go.Proofs.YtplfdbfdalaefaaGreatDoor
namespace Go.Proofs.YtplfdbfdalaefaaGreatDoor
open G
set_option linter.unusedVariables false
set_option linter.unusedSimpArgs false
theorem specOwn_eq (h : Herd) (hs : smallH h) : spec_l06Own.f h = some h := by
 obtain ⟨s1, s2, s3⟩ := hs
 unfold spec_l06Own.f
 rw [chkT (by simp; omega), chkT (by simp; omega), chkT (by simp; omega)]
 rfl
theorem implOwn_eq (h : Herd) (hs : smallH h) : impl_Herd_own.f h = some h := by
 obtain ⟨s1, s2, s3⟩ := hs
 unfold impl_Herd_own.f slices_Clone_string_string.f slices_Clone_int16_int16.f slices_Clone_uint16_uint16.f
 rw [chkT (by simp; omega), chkT (by simp; omega), chkT (by simp; omega)]
 rfl
theorem many_eq (h : Herd) : impl_Herd_many.f h = some (h.Names.length : Int) := rfl
end Go.Proofs.YtplfdbfdalaefaaGreatDoor
namespace Go.Proofs.YtplfdbfdalaefaaGreatDoor
open G
set_option linter.unusedVariables false
set_option linter.unusedSimpArgs false
theorem named_ev (h : Herd) (hx : h.Names.length ≤ 1048576) (s : ByteArray) : Ev (fun k => spec_l06Named.f k h s) (hasS h.Names s) := by
 have key : ∀ i, i ≤ h.Names.length → Ev (fun k => spec_l06Named.l1 h s k (i : Int)) (if hasS (h.Names.drop i) s = true then .inl true else .inr ()) := by
   refine upL ?_ ?_
   · refine Ev.step (fun k => spec_l06Named.l1.eq_2 _ _ _ _) (Ev.neg (by omega) (Ev.const ?_))
     simp [hasS]
   · intro i hi ih
     refine Ev.step (fun k => spec_l06Named.l1.eq_2 _ _ _ _) (Ev.pos (by omega) (Ev.bind (Ev.const (getI_nat hi)) ?_))
     rw [List.drop_eq_getElem_cons hi]
     unfold hasS at ih ⊢
     rw [List.any_cons]
     by_cases e : h.Names[i] = s
     · rw [decide_eq_true e, Bool.true_or]; exact Ev.pos e (Ev.const rfl)
     · rw [decide_eq_false e, Bool.false_or, wsucc hi (by omega)]; exact Ev.neg e ih
 have := key 0 (Nat.zero_le _)
 rw [List.drop_zero] at this
 refine this.bind ?_
 cases hasS h.Names s
 ·exact Ev.const rfl
 exact Ev.const rfl
end Go.Proofs.YtplfdbfdalaefaaGreatDoor
namespace Go.Proofs.YtplfdbfdalaefaaGreatDoor
open G
set_option linter.unusedVariables false
set_option linter.unusedSimpArgs false
theorem evAll {xs : List ByteArray} {g : Nat → ByteArray → Option Bool} {p : ByteArray → Bool} (h : ∀ x ∈ xs, Ev (fun k => g k x) (p x)) : ∃ J, ∀ j, J ≤ j → ∀ x ∈ xs, g j x = some (p x) := by
  induction xs with
  | nil => exact ⟨0, fun j _ x hx => by simp at hx⟩
  | cons y ys ih =>
    obtain ⟨J, hJ⟩ := ih fun x hx => h x (List.mem_cons_of_mem _ hx)
    obtain ⟨K, hK⟩ := h y (List.mem_cons_self ..)
    refine ⟨J + K, fun j hj x hx => ?_⟩
    rcases List.mem_cons.1 hx with rfl | hx
    · exact hK j (by omega)
    · exact hJ j (by omega) x hx
theorem indexS_loop (xs : List ByteArray) (p : ByteArray → Bool) (hx : xs.length ≤ 1048576) : ∀ i : Nat, i ≤ xs.length → ∃ r : Int ⊕ Unit, (∀ g : ByteArray → Option Bool, (∀ x ∈ xs, g x = some (p x)) → ∀ k, xs.length - i < k → slices_IndexFunc_string_string.l1 xs g k (i : Int) = some r) ∧
 ((r = .inr () ∧ (xs.drop i).any p = false) ∨ ∃ j : Int, 0 ≤ j ∧ r = .inl j ∧ (xs.drop i).any p = true) := by
 refine upL ?_ ?_
 ·refine ⟨.inr (), fun g hg k hk => ?_, .inl ⟨rfl, by simp⟩⟩
  obtain ⟨k, rfl⟩ : ∃ j, k = j + 1 := ⟨k - 1, by omega⟩
  rw [slices_IndexFunc_string_string.l1, if_neg (by omega)]
 rintro i hi ⟨r, ih, h⟩
 cases hb : p xs[i]
 ·refine ⟨r, fun g hg k hk => ?_, ?_⟩
  ·obtain ⟨k, rfl⟩ : ∃ j, k = j + 1 := ⟨k - 1, by omega⟩
   rw [slices_IndexFunc_string_string.l1, if_pos (by omega), getI_nat hi, Option.bind_some, hg _ (List.getElem_mem hi), Option.bind_some, hb, if_neg (by simp), wsucc hi (by omega)]
   exact ih g hg k (by omega)
  rw [List.drop_eq_getElem_cons hi, List.any_cons, hb, Bool.false_or]; exact h
 refine ⟨.inl (i : Int), fun g hg k hk => ?_, .inr ⟨i, by omega, rfl, by rw [List.drop_eq_getElem_cons hi, List.any_cons, hb, Bool.true_or]⟩⟩
 obtain ⟨k, rfl⟩ : ∃ j, k = j + 1 := ⟨k - 1, by omega⟩
 rw [slices_IndexFunc_string_string.l1, if_pos (by omega), getI_nat hi, Option.bind_some, hg _ (List.getElem_mem hi), Option.bind_some, hb, if_pos rfl]
theorem containsSF_ev (xs : List ByteArray) {g : Nat → ByteArray → Option Bool} {p : ByteArray → Bool} (hg : ∀ x ∈ xs, Ev (fun k => g k x) (p x)) (hx : xs.length ≤ 1048576) : Ev (fun k => slices_ContainsFunc_string_string.f k xs (g k)) (xs.any p) := by
 obtain ⟨J, hJ⟩ := evAll hg
 obtain ⟨r, hr, h⟩ := indexS_loop xs p hx 0 (Nat.zero_le _)
 rw [List.drop_zero] at h
 refine ⟨J + xs.length + 1, fun k hk => ?_⟩
 have e : slices_IndexFunc_string_string.l1 xs (g k) k 0 = some r := hr (g k) (hJ k (by omega)) k (by omega)
 show slices_ContainsFunc_string_string.f k xs (g k) = _
 unfold slices_ContainsFunc_string_string.f slices_IndexFunc_string_string.f
 rw [e]
 rcases h with ⟨rfl, h⟩ | ⟨j, hj, rfl, h⟩
 ·rw [h]; rfl
 rw [h]; simp [hj]
theorem common (xs ys : List ByteArray) : xs.any (hasS ys) = ys.any (hasS xs) := by
 rw [Bool.eq_iff_iff, List.any_eq_true, List.any_eq_true]
 constructor
 ·rintro ⟨x, hx, hy⟩; exact ⟨x, (hasS_iff _ _).1 hy, (hasS_iff _ _).2 hx⟩
 rintro ⟨x, hx, hy⟩; exact ⟨x, (hasS_iff _ _).1 hy, (hasS_iff _ _).2 hx⟩
theorem specCommon_loop {a b : Herd} (ha : a.Names.length ≤ 14) (hb : b.Names.length ≤ 14) : ∀ i, i ≤ b.Names.length → Ev (fun k => spec_JoinHerds.l1 a b k (i : Int)) (if (b.Names.drop i).any (hasS a.Names) = true then .inl ((⟨[], [], []⟩ : Herd), 4) else .inr ()) := by
 refine upL ?_ ?_
 ·refine Ev.step (fun k => spec_JoinHerds.l1.eq_2 _ _ _ _) (Ev.neg (by omega) (Ev.const ?_))
  simp
 intro i hi ih
 refine Ev.step (fun k => spec_JoinHerds.l1.eq_2 _ _ _ _) (Ev.pos (by omega) (Ev.bind (Ev.const (getI_nat hi)) ((named_ev a (by omega) _).bind ?_)))
 rw [List.drop_eq_getElem_cons hi, List.any_cons, wsucc hi (by omega)]
 cases hasS a.Names b.Names[i]
 ·rw [Bool.false_or]; exact Ev.neg (by simp) ih
 rw [Bool.true_or]; exact Ev.pos rfl (Ev.const rfl)
end Go.Proofs.YtplfdbfdalaefaaGreatDoor
namespace Go.Proofs.YtplfdbfdalaefaaGreatDoor
open G
set_option linter.unusedVariables false
set_option linter.unusedSimpArgs false
theorem goatC_ok {h : Herd} (hv : vH h = true) {gs : List Int} (hg : ∀ g ∈ gs, 0 ≤ g ∧ g < (h.Names.length : Int)) : goatC h gs = 0 := by
 unfold goatC
 rw [hv, if_neg (by simp), if_pos]
 rw [List.all_eq_true]
 intro g hg'
 have := hg g hg'
 unfold goatB
 rw [decide_eq_true_eq]; omega
theorem areFoes_ev {h : Herd} (v : VHerd h) (hv : vH h = true) {i j : Nat} (hi : i < h.Names.length) (hj : j < h.Names.length) : Ev (fun k => impl_AreFoes.f k h (i : Int) (j : Int)) (foeB h i j, 0) := by
 obtain ⟨n1, n2, n3⟩ := vH_len hv
 have hc := herdCode_ev v [(i : Int), (j : Int)] (by simp)
 rw [goatC_ok hv (by simp only [List.mem_cons, List.not_mem_nil, or_false]; rintro g (rfl | rfl) <;> omega)] at hc
 exact hc.bind (Ev.neg (by simp) (Ev.bind (Ev.const (implAre_eq (by omega))) (Ev.const rfl)))
theorem foesOf_ev {h : Herd} (v : VHerd h) (hv : vH h = true) {i : Nat} (hi : i < h.Names.length) : Ev (fun k => impl_FoesOf.f k h (i : Int)) (bl (foes h i) 0 16, 0) := by
 obtain ⟨n1, n2, n3⟩ := vH_len hv
 have hc := herdCode_ev v [(i : Int)] (by simp)
 rw [goatC_ok hv (by simp only [List.mem_cons, List.not_mem_nil, or_false]; rintro g rfl; omega)] at hc
 exact hc.bind (Ev.neg (by simp) (Ev.bind (Ev.const (foes_get (by omega))) ((listed_ev _).bind (Ev.const rfl))))
theorem has_ev (xs : List Int) (hx : xs.length ≤ 1048576) (a : Int) : Ev (fun k => spec_A2Has.f k xs a) (decide (a ∈ xs)) := by
 have key : ∀ i, i ≤ xs.length → Ev (fun k => spec_l00Has.l1 xs a k (i : Int)) (if a ∈ xs.drop i then .inl true else .inr ()) := by
   refine upL ?_ ?_
   · exact Ev.step (fun k => spec_l00Has.l1.eq_2 _ _ _ _) (Ev.neg (by omega) (Ev.const (by simp)))
   · intro i hi ih
     refine Ev.step (fun k => spec_l00Has.l1.eq_2 _ _ _ _) (Ev.pos (by omega) (Ev.bind (Ev.const (getI_nat hi)) ?_))
     rw [List.drop_eq_getElem_cons hi]
     by_cases e : xs[i] = a
     · exact Ev.pos e (Ev.const (by rw [if_pos (by rw [e]; exact List.mem_cons_self ..)]))
     · refine Ev.neg e ?_
       rw [wsucc hi (by omega)]
       have : (a ∈ xs[i] :: xs.drop (i + 1)) ↔ a ∈ xs.drop (i + 1) := by
         rw [List.mem_cons]; exact or_iff_right fun h => e h.symm
       simp only [this]
       exact ih
 have := key 0 (Nat.zero_le _)
 rw [List.drop_zero] at this
 refine Ev.bind (Ev.bind this ?_) (Ev.const rfl)
 by_cases e : a ∈ xs <;> simp only [e, if_true, if_false, decide_true, decide_false] <;> exact Ev.const rfl
theorem same_herd {h : Herd} (hs : smallH h) : Ev (fun k => spec_SameHerd.f k h h) true ∧ Ev (fun k => impl_SameHerd.f k h h) true := by
 obtain ⟨s1, s2, s3⟩ := hs
 constructor
 ·refine Ev.bind (a := false) (Ev.const (by simp)) (Ev.neg (by simp) ?_)
  have h1 : Ev (fun k => spec_SameHerd.l1 h h k 0) (if h.Names = h.Names then .inr () else .inl false) := ⟨h.Names.length + 1, fun k hk => eqLoop (f := spec_SameHerd.l1 h h) rfl (by omega) (fun _ _ => rfl) (by omega)⟩
  have h2 : Ev (fun k => spec_SameHerd.l2 h h k 0) (if h.Eats = h.Eats then .inr () else .inl false) := ⟨h.Eats.length + 1, fun k hk => eqLoop (f := spec_SameHerd.l2 h h) rfl (by omega) (fun _ _ => rfl) (by omega)⟩
  have h3 : Ev (fun k => spec_SameHerd.l3 h h k 0) (if h.Foes = h.Foes then .inr () else .inl false) := ⟨h.Foes.length + 1, fun k hk => eqLoop (f := spec_SameHerd.l3 h h) rfl (by omega) (fun _ _ => rfl) (by omega)⟩
  rw [if_pos rfl] at h1 h2 h3
  exact Ev.bind h1 (Ev.bind h2 (Ev.bind h3 (Ev.const rfl)))
 have h1 := slices_Equal_string_string_ev h.Names h.Names (by omega)
 have h2 := slices_Equal_int16_int16_ev h.Eats h.Eats (by omega)
 have h3 := slices_Equal_uint16_uint16_ev h.Foes h.Foes (by omega)
 rw [decide_eq_true rfl] at h1 h2 h3
 exact Ev.bind h1 (Ev.pos rfl (Ev.bind h2 (Ev.pos rfl (Ev.bind h3 (Ev.const rfl)))))
theorem with_ev {h : Herd} (v : VHerd h) (hv : vH h = true) {a b : Nat} (ha : a < h.Names.length) (hb : b < h.Names.length) (hn : a ≠ b) (f : Bool) :
 ∃ h' : Herd, VHerd h' ∧ vH h' = true ∧ h'.Names.length = h.Names.length ∧ foeB h' a b = f ∧ foeB h' b a = f ∧ Ev (fun k => impl_WithFoes.f k h (a : Int) (b : Int) f) (h', 0) := by
 obtain ⟨n1, n2, n3⟩ := vH_len hv
 have hk := OKH.of v hv
 have hc := herdCode_ev v [(a : Int), (b : Int)] (by simp)
 rw [goatC_ok hv (by simp only [List.mem_cons, List.not_mem_nil, or_false]; rintro g (rfl | rfl) <;> omega)] at hc
 obtain ⟨r, r1, r2, r3, r4, r5⟩ := set_ok h.Names h.Eats (F := h.Foes) (by omega) hk.foe (a := a) (b := b) (by omega) (by omega) hn f
 obtain ⟨w1, w2⟩ := OKH.valid (N := h.Names) (E := h.Eats) (F := r) ⟨hk.le, by omega, hk.nms, hk.nd, hk.eat, r3⟩ n1
 refine ⟨⟨h.Names, h.Eats, r⟩, w1, w2, rfl, ?_, ?_, ?_⟩
 ·rw [foeB_bit]; exact r4
 ·rw [foeB_bit]; exact r5
 refine hc.bind (Ev.bind (Ev.const (unless_eq _ 4)) (Ev.bind (firstOf_ev _ (by simp)) (Ev.neg ?_ (Ev.bind (Ev.const (implOwn_eq h (vH_small hv))) (Ev.bind (Ev.const r1) (Ev.const rfl))))))
 rw [decide_eq_true (show (a : Int) ≠ (b : Int) by omega)]
 simp [foL]
theorem add_ev {h : Herd} (v : VHerd h) (hv : vH h = true) (hl : h.Names.length ≤ 7) (hz : hasS h.Names zoe = false) :
 ∃ h' : Herd, VHerd h' ∧ vH h' = true ∧ h'.Names.length = h.Names.length + 1 ∧ Ev (fun k => impl_AddToHerd.f k h zoe 9) (h', 0) := by
 obtain ⟨n1, n2, n3⟩ := vH_len hv
 have hk := OKH.of v hv
 have hc := herdCode_ev v [] (by simp)
 rw [goatC_ok hv (by simp)] at hc
 have hnew : Ev (fun k => (impl_isName.f k zoe).bind fun t4 => if t4 = true then ((slices_Contains_string_string.f k h.Names zoe).bind fun t5 => some (!t5)) else (some false)) true := by
   have hn := isName_ev zoe (by decide)
   rw [zoe_ok] at hn
   have hs := containsS_ev h.Names (by omega) zoe
   rw [hz] at hs
   exact hn.bind (Ev.pos rfl (hs.bind (Ev.const rfl)))
 have hzn : zoe ∉ h.Names := fun hm => by rw [(hasS_iff _ _).2 hm] at hz; cases hz
 obtain ⟨w1, w2⟩ := OKH.valid (N := h.Names ++ [zoe]) (E := h.Eats ++ [9]) (F := h.Foes ++ [0]) ⟨by simp; omega, by simp; omega, fun x hx => by
     rcases List.mem_append.1 hx with hx | hx
     · exact hk.nms x hx
     · rw [List.mem_singleton.1 hx]; exact zoe_ok, List.nodup_append.2 ⟨hk.nd, by simp, fun x hx y hy e => hzn (by rw [← List.mem_singleton.1 hy, ← e]; exact hx)⟩, fun x hx => by
     rcases List.mem_append.1 hx with hx | hx
     · exact hk.eat x hx
     · rw [List.mem_singleton.1 hx]; omega, foed_snoc hk.foe⟩ (by simp; omega)
 refine ⟨⟨h.Names ++ [zoe], h.Eats ++ [9], h.Foes ++ [0]⟩, w1, w2, by simp, ?_⟩
 refine hnew.bind (hc.bind (Ev.bind (Ev.const (within_eq 9 0 100)) (Ev.bind (Ev.const (unless_eq _ 2)) (Ev.bind (Ev.const (unless_eq _ 4)) (Ev.bind (Ev.const (many_eq h)) (Ev.bind (Ev.const (unless_eq _ 3)) (Ev.bind (firstOf_ev _ (by simp)) (Ev.neg ?_ (Ev.bind (Ev.const (implOwn_eq h (vH_small hv))) (Ev.bind (Ev.const (chkT (by simp; omega))) (Ev.bind (Ev.const (chkT (by simp; omega))) (Ev.bind (Ev.const (chkT (by simp; omega))) (Ev.const rfl)))))))))))))
 rw [decide_eq_true (show (h.Names.length : Int) < 14 by omega)]
 simp [foL]
theorem pick_in {h : Herd} (hl : h.Foes.length = h.Names.length) {gs : List Int} (hg : ∀ g ∈ gs, ∃ i : Nat, i < h.Names.length ∧ g = (i : Int)) (hx : gs.length ≤ 14) {i : Nat} (hi : i < gs.length) (N : List ByteArray) (E : List Int) (s : ByteArray) (t : Int) : ∀ j, j ≤ i → ∀ F : List Int, F.length = gs.length → Foed F →
 ∃ r : List Int, r.length = gs.length ∧ Foed r ∧ Ev (fun k => impl_PickHerd.l2 h gs (i : Int) N E gs[i] s t k F (j : Int)) r := by
 have e : (gs.drop 0).take ((i : Int).toNat - 0) = gs.take i := by simp
 have el : (gs.take i).length = i := by simp; omega
 refine upL ?_ ?_
 ·intro F hF hf
  exact ⟨F, hF, hf, Ev.step (fun k => impl_PickHerd.l2.eq_2 _ _ _ _ _ _ _ _ _ _ _) (Ev.neg (by rw [e, el]; omega) (Ev.const rfl))⟩
 intro j hj ih F hF hf
 obtain ⟨a, ha, ea⟩ := hg _ (List.getElem_mem hi)
 obtain ⟨b, hb, eb⟩ := hg _ (List.getElem_mem (show j < gs.length by omega))
 obtain ⟨r, r1, r2, r3, _, _⟩ := set_ok (N ++ [s]) (E ++ [t]) (F := F) (by omega) hf (a := i) (b := j) (by omega) (by omega) (by omega) (foeB h a b)
 obtain ⟨z, z1, z2, z3⟩ := ih r (by omega) r3
 rw [← wsucc hj (by omega)] at z3
 refine ⟨z, z1, z2, Ev.step (fun k => impl_PickHerd.l2.eq_2 _ _ _ _ _ _ _ _ _ _ _) (Ev.pos (by rw [e, el]; omega) (Ev.bind (a := gs[j]) (Ev.const ?_) (Ev.bind (a := foeB h a b) (Ev.const ?_) (Ev.bind (Ev.const r1) z3))))⟩
 ·rw [e, getI_nat (by omega), List.getElem_take]
 rw [ea, eb]; exact implAre_eq (by omega)
theorem pick_out {h : Herd} (hl : h.Foes.length = h.Names.length) (he : h.Eats.length = h.Names.length) {gs : List Int} (hg : ∀ g ∈ gs, ∃ i : Nat, i < h.Names.length ∧ g = (i : Int)) (hx : gs.length ≤ 14) : ∀ i, i ≤ gs.length → ∀ (N : List ByteArray) (E F : List Int), N.length = i → E.length = i → F.length = gs.length → Foed F →
 ∃ r : List Int, r.length = gs.length ∧ Foed r ∧ Ev (fun k => impl_PickHerd.l1 h gs k F (i : Int) N E) (r, N ++ (gs.drop i).map (fun g => nm h g.toNat), E ++ (gs.drop i).map (fun g => eats h g.toNat)) := by
 refine upL ?_ ?_
 ·intro N E F h1 h2 h3 hf
  exact ⟨F, h3, hf, Ev.step (fun k => impl_PickHerd.l1.eq_2 _ _ _ _ _ _ _) (Ev.neg (by omega) (Ev.const (by simp)))⟩
 intro i hi ih N E F h1 h2 h3 hf
 obtain ⟨a, ha, ea⟩ := hg _ (List.getElem_mem hi)
 obtain ⟨r, r1, r2, r3⟩ := pick_in hl hg hx hi N E (nm h a) (eats h a) 0 (Nat.zero_le _) F h3 hf
 obtain ⟨z, z1, z2, z3⟩ := ih (N ++ [nm h a]) (E ++ [eats h a]) r (by simp; omega) (by simp; omega) r1 r2
 rw [← wsucc hi (by omega), List.append_assoc, List.append_assoc] at z3
 refine ⟨z, z1, z2, Ev.step (fun k => impl_PickHerd.l1.eq_2 _ _ _ _ _ _ _) (Ev.pos (by omega) (Ev.bind (a := (r, N ++ [nm h a], E ++ [eats h a])) (Ev.bind (Ev.const (getI_nat hi)) (Ev.bind (a := nm h a) (Ev.const (by rw [ea]; exact nm_get ha)) (Ev.bind (a := eats h a) (Ev.const (by rw [ea]; exact eats_get (by omega))) (Ev.bind (Ev.const (chkT (by simp; omega))) (Ev.bind (Ev.const (chkT (by simp; omega))) (Ev.bind (Ev.const (chkT (by omega))) (r3.bind (Ev.const rfl)))))))) ?_))⟩
 rw [List.drop_eq_getElem_cons hi, List.map_cons, List.map_cons, ea, Int.toNat_natCast]
 exact z3
theorem pick_ev {h : Herd} (v : VHerd h) (hv : vH h = true) {gs : List Int} (hg : ∀ g ∈ gs, ∃ i : Nat, i < h.Names.length ∧ g = (i : Int)) (hnd : gs.Nodup) (hx : gs.length ≤ 14) :
 ∃ F : List Int, OKH (gs.map fun g => nm h g.toNat) (gs.map fun g => eats h g.toNat) F ∧ Ev (fun k => impl_PickHerd.f k h gs) (⟨gs.map fun g => nm h g.toNat, gs.map fun g => eats h g.toNat, F⟩, 0) := by
 obtain ⟨n1, n2, n3⟩ := vH_len hv
 have hk := OKH.of v hv
 have hc := herdCode_ev v gs (by omega)
 rw [goatC_ok hv (fun g h => by obtain ⟨i, hi, rfl⟩ := hg g h; omega)] at hc
 obtain ⟨r, r1, r2, r3⟩ := pick_out n3 n2 hg hx 0 (Nat.zero_le _) [] [] (List.replicate gs.length 0) rfl rfl (by simp) (foed_zero _)
 rw [List.drop_zero, List.nil_append, List.nil_append] at r3
 have hnm : ∀ g ∈ gs, ∃ hi : g.toNat < h.Names.length, nm h g.toNat = h.Names[g.toNat] := fun g hgm => by
   obtain ⟨i, hi, rfl⟩ := hg g hgm
   exact ⟨hi, by unfold nm; simp only [Int.toNat_natCast, List.getD_eq_getElem?_getD, List.getElem?_eq_getElem hi, Option.getD_some]⟩
 refine ⟨r, ⟨by simp, by simpa using r1, fun x hx => ?_, ?_, fun x hx => ?_, r2⟩, ?_⟩
 ·obtain ⟨g, hgm, rfl⟩ := List.mem_map.1 hx
  obtain ⟨hi, e⟩ := hnm g hgm
  rw [e]; exact hk.nms _ (List.getElem_mem hi)
 ·unfold List.Nodup
  rw [List.pairwise_map]
  refine List.Pairwise.imp_of_mem (fun {a b} ha hb hne e => ?_) hnd
  obtain ⟨hia, ea⟩ := hnm a ha
  obtain ⟨hib, eb⟩ := hnm b hb
  rw [ea, eb] at e
  have := (List.getElem_inj hk.nd).1 e
  obtain ⟨i, _, rfl⟩ := hg a ha
  obtain ⟨j, _, rfl⟩ := hg b hb
  have this : i = j := by simpa using this
  exact hne (by rw [this])
 ·obtain ⟨g, hgm, rfl⟩ := List.mem_map.1 hx
  obtain ⟨i, hi, rfl⟩ := hg g hgm
  have hi : i < h.Eats.length := by omega
  have e : eats h ((i : Int)).toNat = h.Eats[i] := by unfold eats; simp [List.getD_eq_getElem?_getD, List.getElem?_eq_getElem hi]
  rw [e]; exact hk.eat _ (List.getElem_mem hi)
 refine hc.bind (Ev.bind (Ev.const (isEach_eq gs (by omega))) (Ev.bind (Ev.const (unless_eq _ 4)) ((firstOf_ev _ (by simp)).bind (Ev.neg ?_ (Ev.bind (Ev.const (chkT (by omega))) (Ev.bind (by rw [Int.toNat_natCast]; exact r3) (Ev.const rfl)))))))
 rw [decide_eq_true hnd]
 simp [foL]
theorem shl_bit {m : Int} (h : 0 ≤ m) (h' : m ≤ 65535) {n : Nat} (hn : n ≤ 16) {j : Nat} (hj : j < 16) : bitN (shlI .u16 m (n : Int)) j = (decide (n ≤ j) && bitN m (j - n)) := by
 obtain ⟨z, rfl⟩ := Int.eq_ofNat_of_zero_le h
 have e : shlI .u16 (z : Int) (n : Int) = ((z * 2 ^ n % 65536 : Nat) : Int) := by
   unfold shlI
   rw [show min (n : Int).toNat IntKind.u16.bits = n by show min (n : Int).toNat 16 = n; omega]
   have : ∀ x : Int, IntKind.u16.wrap x = x % 65536 := fun x => by simp [IntKind.wrap, IntKind.bits, IntKind.signed]
   rw [this, Int.natCast_emod, Int.natCast_mul, Int.natCast_pow]; rfl
 have hm : z * 2 ^ n % 65536 ≤ 65535 := by omega
 rw [e, bit_nat hm (by omega), show (65536 : Nat) = 2 ^ 16 from rfl, Nat.testBit_mod_two_pow, decide_eq_true hj, Bool.true_and, Nat.testBit_mul_two_pow]
 by_cases hnj : n ≤ j
 ·rw [decide_eq_true hnj, Bool.true_and, Bool.true_and, bit_nat (by omega) (by omega)]
 rw [decide_eq_false hnj, Bool.false_and, Bool.false_and]
theorem shl_in (m : Int) (n : Nat) : 0 ≤ shlI .u16 m (n : Int) ∧ shlI .u16 m (n : Int) ≤ 65535 := by
 unfold shlI
 have : ∀ x : Int, IntKind.u16.wrap x = x % 65536 := fun x => by simp [IntKind.wrap, IntKind.bits, IntKind.signed]
 rw [this]; omega
theorem join_loop {a b : Herd} (ha : a.Names.length ≤ 14) (hb : b.Names.length ≤ 14) (he : b.Eats.length = b.Names.length) (hf : b.Foes.length = b.Names.length) : ∀ i, i ≤ b.Names.length → ∀ (x : List ByteArray) (y z : List Int), x.length ≤ 1048576 + i → y.length ≤ 1048576 + i → z.length ≤ 1048576 + i →
 Ev (fun k => spec_JoinHerds.l2 a b k x y z (i : Int)) (x ++ b.Names.drop i, y ++ b.Eats.drop i, z ++ (b.Foes.drop i).map fun m => shlI .u16 m (a.Names.length : Int)) ∧ Ev (fun k => impl_JoinHerds.l1 a b k x y z (i : Int)) (x ++ b.Names.drop i, y ++ b.Eats.drop i, z ++ (b.Foes.drop i).map fun m => shlI .u16 m (a.Names.length : Int)) := by
 have hu : IntKind.u64.wrap (a.Names.length : Int) = (a.Names.length : Int) := wu64 (by omega) (by omega)
 refine upL ?_ ?_
 ·intro x y z hx hy hz
  have e : (x ++ b.Names.drop b.Names.length, y ++ b.Eats.drop b.Names.length, z ++ (b.Foes.drop b.Names.length).map fun m => shlI .u16 m (a.Names.length : Int)) = (x, y, z) := by
    rw [List.drop_of_length_le (Nat.le_refl _), List.drop_of_length_le (by omega), List.drop_of_length_le (by omega)]; simp
  rw [e]
  exact ⟨Ev.step (fun k => spec_JoinHerds.l2.eq_2 _ _ _ _ _ _ _) (Ev.neg (by omega) (Ev.const rfl)), Ev.step (fun k => impl_JoinHerds.l1.eq_2 _ _ _ _ _ _ _) (Ev.neg (by omega) (Ev.const rfl))⟩
 intro i hi ih x y z hx hy hz
 obtain ⟨e1, e2⟩ := ih (x ++ [b.Names[i]]) (y ++ [b.Eats[i]]) (z ++ [shlI .u16 b.Foes[i] (a.Names.length : Int)]) (by simp; omega) (by simp; omega) (by simp; omega)
 rw [← wsucc hi (by omega), List.append_assoc, List.append_assoc, List.append_assoc] at e1 e2
 rw [List.drop_eq_getElem_cons hi, List.drop_eq_getElem_cons (show i < b.Eats.length by omega), List.drop_eq_getElem_cons (show i < b.Foes.length by omega), List.map_cons]
 refine ⟨Ev.step (fun k => spec_JoinHerds.l2.eq_2 _ _ _ _ _ _ _) (Ev.pos (by omega) (Ev.bind (Ev.const (getI_nat hi)) (Ev.bind (Ev.const (chkT (by simp; omega))) (Ev.bind (Ev.const (getI_nat (show i < b.Eats.length by omega))) (Ev.bind (Ev.const (chkT (by simp; omega))) (Ev.bind (Ev.const (getI_nat (show i < b.Foes.length by omega))) (Ev.bind (Ev.const (chkT (by omega))) (Ev.bind (Ev.const (chkT (by simp; omega))) ?_)))))))),
   Ev.step (fun k => impl_JoinHerds.l1.eq_2 _ _ _ _ _ _ _) (Ev.pos (by omega) (Ev.bind (Ev.const (getI_nat hi)) (Ev.bind (Ev.const (getI_nat (show i < b.Eats.length by omega))) (Ev.bind (Ev.const (chkT (by simp; omega))) (Ev.bind (Ev.const (chkT (by simp; omega))) (Ev.bind (Ev.const (getI_nat (show i < b.Foes.length by omega))) (Ev.bind (Ev.const (chkT (by omega))) (Ev.bind (Ev.const (chkT (by simp; omega))) e2))))))))⟩
 rw [hu]; exact e1
theorem foed_join {F G : List Int} (hF : Foed F) (hG : Foed G) (hl : F.length + G.length ≤ 14) : Foed (F ++ G.map fun m => shlI .u16 m (F.length : Int)) := by
 have e1 : ∀ k, k < F.length → (F ++ G.map fun m => shlI .u16 m (F.length : Int)).getD k 0 = F.getD k 0 := fun k hk => by
   simp [List.getD_eq_getElem?_getD, List.getElem?_append_left hk]
 have e2 : ∀ k, k < G.length → (F ++ G.map fun m => shlI .u16 m (F.length : Int)).getD (F.length + k) 0 = shlI .u16 (G.getD k 0) (F.length : Int) := fun k hk => by
   simp [List.getD_eq_getElem?_getD, List.getElem?_append_right, List.getElem?_eq_getElem hk]
 refine ⟨fun x hx => ?_, fun i j hi hj hb => ?_⟩
 ·rcases List.mem_append.1 hx with hx | hx
  ·exact hF.1 x hx
  obtain ⟨m, _, rfl⟩ := List.mem_map.1 hx
  exact shl_in _ _
 rw [List.length_append, List.length_map] at hi ⊢
 by_cases h1 : i < F.length
 ·rw [e1 i h1] at hb
  obtain ⟨a, b, c⟩ := hF.2 i j h1 hj hb
  exact ⟨by omega, b, by rw [e1 j a]; exact c⟩
 obtain ⟨i, rfl⟩ : ∃ t, i = F.length + t := ⟨i - F.length, by omega⟩
 have hi : i < G.length := by omega
 have hin := hG.1 _ (List.getElem_mem hi)
 rw [← getD_at G hi] at hin
 rw [e2 i hi, shl_bit hin.1 hin.2 (by omega) hj, Bool.and_eq_true, decide_eq_true_eq] at hb
 obtain ⟨j, rfl⟩ : ∃ t, j = F.length + t := ⟨j - F.length, by omega⟩
 rw [Nat.add_sub_cancel_left] at hb
 obtain ⟨a, b, c⟩ := hG.2 i j hi (by omega) hb.2
 have hjn := hG.1 _ (List.getElem_mem a)
 rw [← getD_at G a] at hjn
 refine ⟨by omega, by omega, ?_⟩
 rw [e2 j a, shl_bit hjn.1 hjn.2 (by omega) (by omega), decide_eq_true (by omega), Nat.add_sub_cancel_left, c]; rfl
theorem join_ev {a b : Herd} (oa : OKH a.Names a.Eats a.Foes) (ob : OKH b.Names b.Eats b.Foes) (hl : a.Names.length + b.Names.length ≤ 14) (hd : ∀ x ∈ b.Names, x ∉ a.Names) :
 ∃ h : Herd, VHerd h ∧ vH h = true ∧ h.Names = a.Names ++ b.Names ∧ h.Eats = a.Eats ++ b.Eats ∧ Ev (fun k => spec_JoinHerds.f k a b) (h, 0) ∧ Ev (fun k => impl_JoinHerds.f k a b) (h, 0) := by
 obtain ⟨va, hva⟩ := oa.valid (by omega)
 obtain ⟨vb, hvb⟩ := ob.valid (by omega)
 have sa := vH_small hva
 have sb := vH_small hvb
 have s0 : Ev (fun k => (spec_l06Ok.f k a).bind fun t5 => if (!t5) = true then (some true) else ((spec_l06Ok.f k b).bind fun t6 => some (!t6))) false := by
   have h1 := specHerd_ev va
   have h2 := specHerd_ev vb
   rw [show vH a = true from hva] at h1
   rw [show vH b = true from hvb] at h2
   exact h1.bind (Ev.neg (by simp) (h2.bind (Ev.const rfl)))
 have i0 : Ev (fun k => (impl_ValidHerd.f k a).bind fun t5 => if (!t5) = true then (some true) else ((impl_ValidHerd.f k b).bind fun t6 => some (!t6))) false := by
   have h1 := implHerd_ev va
   have h2 := implHerd_ev vb
   rw [show vH a = true from hva] at h1
   rw [show vH b = true from hvb] at h2
   exact h1.bind (Ev.neg (by simp) (h2.bind (Ev.const rfl)))
 have sc := specCommon_loop (a := a) (b := b) (by omega) (by omega) 0 (Nat.zero_le _)
 rw [List.drop_zero] at sc
 have ic := containsSF_ev a.Names (g := fun k => impl_JoinHerds_1.f k b) (p := hasS b.Names) (fun x _ => (containsS_ev b.Names (by omega) x).bind (Ev.const rfl)) (by omega)
 rw [common] at ic
 have hc : b.Names.any (hasS a.Names) = false := by
   rw [List.any_eq_false]
   exact fun x hx hh => hd x hx ((hasS_iff _ _).1 hh)
 rw [hc] at sc ic
 have hw : IntKind.i64.wrap ((a.Names.length : Int) + (b.Names.length : Int)) = (a.Names.length : Int) + (b.Names.length : Int) := w64 (by omega) (by omega)
 obtain ⟨e1, e2⟩ := join_loop (a := a) (b := b) (by omega) (by omega) ob.le ob.lf 0 (Nat.zero_le _) a.Names a.Eats a.Foes (by omega) (by have := oa.le; omega) (by have := oa.lf; omega)
 rw [List.drop_zero, List.drop_zero, List.drop_zero, ← oa.lf] at e1 e2
 obtain ⟨w1, w2⟩ := OKH.valid (N := a.Names ++ b.Names) (E := a.Eats ++ b.Eats) (F := a.Foes ++ b.Foes.map fun m => shlI .u16 m (a.Foes.length : Int)) ⟨by simp [oa.le, ob.le], by simp [oa.lf, ob.lf], fun x hx => by
     rcases List.mem_append.1 hx with hx | hx
     · exact oa.nms x hx
     · exact ob.nms x hx, List.nodup_append.2 ⟨oa.nd, ob.nd, fun x hx y hy e => hd y hy (e ▸ hx)⟩, fun x hx => by
     rcases List.mem_append.1 hx with hx | hx
     · exact oa.eat x hx
     · exact ob.eat x hx, foed_join oa.foe ob.foe (by have := oa.lf; have := ob.lf; omega)⟩ (by simp; omega)
 refine ⟨⟨a.Names ++ b.Names, a.Eats ++ b.Eats, a.Foes ++ b.Foes.map fun m => shlI .u16 m (a.Foes.length : Int)⟩, w1, w2, rfl, rfl, s0.bind (Ev.neg (by simp) (sc.bind (Ev.neg (by rw [hw]; omega) (Ev.bind (Ev.const (specOwn_eq a sa)) (e1.bind (Ev.const rfl)))))), i0.bind (Ev.neg (by simp) (ic.bind (Ev.neg (by simp) (Ev.bind (Ev.const (many_eq a)) (Ev.bind (Ev.const (many_eq b)) (Ev.neg (by rw [hw]; omega) (Ev.bind (Ev.const (implOwn_eq a sa)) (e2.bind (Ev.const rfl)))))))))⟩
end Go.Proofs.YtplfdbfdalaefaaGreatDoor
