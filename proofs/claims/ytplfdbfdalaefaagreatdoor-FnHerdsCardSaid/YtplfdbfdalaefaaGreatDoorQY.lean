/-
  Plain laws: groups of goats that are at peace with all others: the least set that is closed.
-/
import Derived.Test.YtplfdbfdalaefaaGreatDoorQL
namespace Go.Proofs.YtplfdbfdalaefaaGreatDoor
open G
set_option linter.unusedVariables false
set_option linter.unusedSimpArgs false
theorem B_or (x y : Int) : B16 (orI .u16 x y) = B16 x ||| B16 y := by
 unfold orI
 exact (congrArg B16 (wu16b (B16 x ||| B16 y))).trans (B16_nat _)
theorem or_in (x y : Int) : 0 ≤ orI .u16 x y ∧ orI .u16 x y ≤ 65535 := by
 have e : orI .u16 x y = (((B16 x ||| B16 y).toNat : Nat) : Int) := wu16b _
 have := (B16 x ||| B16 y).isLt
 rw [e]; omega
def in16 (m : Int) : Prop := 0 ≤ m ∧ m ≤ 65535
theorem or_bit {x y : Int} (hx : in16 x) (hy : in16 y) {j : Nat} (hj : j < 16) : bitN (orI .u16 x y) j = (bitN x j || bitN y j) := by
 obtain ⟨a, b⟩ := or_in x y
 rw [← bit_lsb a b hj, B_or, BitVec.getLsbD_or, bit_lsb hx.1 hx.2 hj, bit_lsb hy.1 hy.2 hj]
theorem bit_test1 {m : Int} (h : in16 m) (j : Nat) : Int.tmod (shrI .u16 m (j : Int)) 2 = 1 ↔ bitN m j = true := by
 obtain ⟨a, b⟩ := shr_le h.1 h.2 (j : Int)
 unfold bitN
 rw [tmod2 a, and1 a b, decide_eq_true_eq]
theorem one_in {i : Nat} (hi : i < 16) : in16 (shlI .u16 1 (i : Int)) := by
 rw [shl_one hi]
 have h1 : (2 : Nat) ^ i ≤ 2 ^ 15 := Nat.pow_le_pow_right (by omega) (by omega)
 have h2 : (((2 : Nat) ^ i : Nat) : Int) ≤ ((2 ^ 15 : Nat) : Int) := Int.ofNat_le.2 h1
 have h3 : ((2 ^ 15 : Nat) : Int) = 32768 := rfl
 exact ⟨Int.natCast_nonneg _, by rw [h3] at h2; omega⟩
theorem one_bitN {i j : Nat} (hi : i < 16) (hj : j < 16) : bitN (shlI .u16 1 (i : Int)) j = decide (i = j) := by
 obtain ⟨a, b⟩ := one_in hi
 rw [← bit_lsb a b hj, one_bit hi hj]
theorem bits_eq {x y : Int} (hx : in16 x) (hy : in16 y) (h : ∀ j, j < 16 → bitN x j = bitN y j) : x = y := by
 have e : B16 x = B16 y := by
   apply BitVec.eq_of_getLsbD_eq
   intro j hj
   rw [bit_lsb hx.1 hx.2 hj, bit_lsb hy.1 hy.2 hj, h j hj]
 have e2 := congrArg BitVec.toNat e
 rw [BitVec.toNat_ofInt, BitVec.toNat_ofInt] at e2
 obtain ⟨a, b⟩ := hx
 obtain ⟨c, d⟩ := hy
 omega
theorem bit_over {m : Int} (h : in16 m) {j : Nat} (hj : 16 ≤ j) : bitN m j = false := by
 refine bit_high h.1 h.2 (n := 16) ?_ hj
 obtain ⟨n, rfl⟩ := Int.eq_ofNat_of_zero_le h.1
 rw [show ((16 : Nat) : Int) = (16 : Nat) from rfl, shr_nat (by omega)]
 have := h.2
 omega
def cntB (m : Int) : Nat := (List.range 16).countP (bitN m)
theorem countP_lt {p q : Nat → Bool} : ∀ l : List Nat, (∀ j ∈ l, p j = true → q j = true) → (∃ j ∈ l, q j = true ∧ p j = false) → l.countP p < l.countP q
  | [], _, ⟨j, hj, _⟩ => by simp at hj
  | a :: l, h, ⟨j, hj, h1, h2⟩ => by
    have hle : l.countP p ≤ l.countP q := List.countP_mono_left fun x hx => h x (List.mem_cons_of_mem _ hx)
    rw [List.countP_cons, List.countP_cons]
    rcases List.mem_cons.1 hj with rfl | hj
    · rw [if_neg (by rw [h2]; simp), if_pos h1]; omega
    · have ih := countP_lt l (fun x hx => h x (List.mem_cons_of_mem _ hx)) ⟨j, hj, h1, h2⟩
      by_cases hp : p a = true
      · rw [if_pos hp, if_pos (h a (List.mem_cons_self ..) hp)]; omega
      · rw [if_neg hp]; split <;> omega
def subB (x y : Int) : Prop := ∀ j, j < 16 → bitN x j = true → bitN y j = true
theorem cnt_lt {x y : Int} (hx : in16 x) (hy : in16 y) (h : subB x y) (hne : x ≠ y) : cntB x < cntB y := by
 refine countP_lt _ (fun j hj => h j (List.mem_range.1 hj)) (Classical.byContradiction fun hno => hne (bits_eq hx hy fun j hj => ?_))
 cases ex : bitN x j
 ·cases ey : bitN y j
  ·rfl
  exact (hno ⟨j, List.mem_range.2 hj, ey, ex⟩).elim
 rw [h j hj ex]
theorem cnt_le {x : Int} {n : Nat} (hn : n ≤ 16) (h : ∀ j, n ≤ j → bitN x j = false) : cntB x ≤ n := by
 have e : cntB x = (List.range n).countP (bitN x) := by
   unfold cntB
   rw [show 16 = n + (16 - n) by omega, List.range_add, List.countP_append]
   have : ((List.range (16 - n)).map (n + ·)).countP (bitN x) = 0 := List.countP_eq_zero.2 fun j hj => by
     obtain ⟨a, _, rfl⟩ := List.mem_map.1 hj
     rw [h _ (by omega)]; simp
   rw [this]; rfl
 rw [e]
 exact Nat.le_trans List.countP_le_length (by simp)
def closedP (h : Herd) (S : Nat → Prop) : Prop := ∀ j, j < h.Names.length → S j → ∀ t, t < 16 → bitN (foes h j) t = true → S t
def closedB (h : Herd) (m : Int) : Prop := closedP h fun j => bitN m j = true
def inAll (h : Herd) (i : Nat) (m : Int) : Prop := ∀ S : Nat → Prop, closedP h S → S i → ∀ j, j < 16 → bitN m j = true → S j
def lowB (h : Herd) (m : Int) : Prop := ∀ j, h.Names.length ≤ j → bitN m j = false
def goodM (h : Herd) (i : Nat) (m : Int) : Prop := in16 m ∧ lowB h m ∧ inAll h i m ∧ bitN m i = true
theorem good_or {h : Herd} (v : VHerd h) (hv : vH h = true) {i k : Nat} {m : Int} (hg : goodM h i m) (hk : k < h.Names.length) (hin : ∀ S : Nat → Prop, closedP h S → S i → S k) : goodM h i (orI .u16 m (foes h k)) ∧ subB m (orI .u16 m (foes h k)) ∧ (∀ t, t < 16 → bitN (foes h k) t = true → bitN (orI .u16 m (foes h k)) t = true) := by
 have hf : in16 (foes h k) := foes_in v k
 obtain ⟨g1, g2, g3, g4⟩ := hg
 have hn := (vH_len hv).1
 refine ⟨⟨or_in _ _, fun j hj => ?_, fun S hS hi j hj hb => ?_, ?_⟩, fun j hj hb => ?_, fun t ht hb => ?_⟩
 ·by_cases h16 : j < 16
  ·rw [or_bit g1 hf h16, g2 j hj, foes_high v hv hk hj]; rfl
  exact bit_over (or_in _ _) (by omega)
 ·rw [or_bit g1 hf hj, Bool.or_eq_true] at hb
  rcases hb with hb | hb
  ·exact g3 S hS hi j hj hb
  exact hS k hk (hin S hS hi) j hj hb
 ·have hi16 : i < 16 := by
    refine Classical.byContradiction fun hno => ?_
    rw [bit_over g1 (by omega)] at g4; cases g4
  rw [or_bit g1 hf hi16, g4]; rfl
 ·rw [or_bit g1 hf hj, hb]; rfl
 rw [or_bit g1 hf ht, hb, Bool.or_true]
theorem good_one {h : Herd} (hv : vH h = true) {i : Nat} (hi : i < h.Names.length) : goodM h i (shlI .u16 1 (i : Int)) := by
 have hn := (vH_len hv).1
 refine ⟨one_in (by omega), fun j hj => ?_, fun S hS hi' j hj hb => ?_, ?_⟩
 ·by_cases h16 : j < 16
  ·rw [one_bitN (by omega) h16, decide_eq_false (by omega)]
  exact bit_over (one_in (by omega)) (by omega)
 ·rw [one_bitN (by omega) hj, decide_eq_true_eq] at hb
  subst hb; exact hi'
 rw [one_bitN (by omega) (by omega), decide_eq_true rfl]
theorem closed_unique {h : Herd} {i : Nat} {x y : Int} (hx : goodM h i x) (hy : goodM h i y) (cx : closedB h x) (cy : closedB h y) : x = y := by
 refine bits_eq hx.1 hy.1 fun j hj => ?_
 rw [Bool.eq_iff_iff]
 exact ⟨fun hb => hx.2.2.1 _ cy hy.2.2.2 j hj hb, fun hb => hy.2.2.1 _ cx hx.2.2.2 j hj hb⟩
theorem specRound_ev {h : Herd} (v : VHerd h) (hv : vH h = true) {i : Nat} : ∀ k, k ≤ h.Names.length → ∀ y : Int, goodM h i y → ∃ r : Int, Ev (fun f => spec_PeaceGroups.l3 h f y (k : Int)) r ∧ goodM h i r ∧ subB y r ∧ ∀ j, k ≤ j → j < h.Names.length → bitN y j = true → ∀ t, t < 16 → bitN (foes h j) t = true → bitN r t = true := by
 obtain ⟨n1, n2, n3⟩ := vH_len hv
 refine upL ?_ ?_
 ·intro y hy
  exact ⟨y, Ev.step (fun f => spec_PeaceGroups.l3.eq_2 _ _ _ _) (Ev.neg (by omega) (Ev.const rfl)), hy, fun _ _ hb => hb, fun j h1 h2 => by omega⟩
 intro k hk ih y hy
 have uk : IntKind.u64.wrap (k : Int) = (k : Int) := wu64 (by omega) (by omega)
 have hc : chk (0 ≤ (IntKind.u64.wrap (k : Int))) = some () := chkT (by rw [uk]; omega)
 cases hb : bitN y k
 ·obtain ⟨r, r1, r2, r3, r4⟩ := ih y hy
  rw [← wsucc hk (by omega)] at r1
  refine ⟨r, Ev.step (fun f => spec_PeaceGroups.l3.eq_2 _ _ _ _) (Ev.pos (by omega) (Ev.bind (Ev.const hc) (Ev.neg (by rw [uk, bit_test1 hy.1, hb]; simp) r1))), r2, r3, fun j h1 h2 hj => ?_⟩
  by_cases e : j = k
  ·subst e; rw [hb] at hj; cases hj
  exact r4 j (by omega) h2 hj
 obtain ⟨g1, g2, g3⟩ := good_or v hv hy hk fun S hS hi => hy.2.2.1 S hS hi k (by omega) hb
 obtain ⟨r, r1, r2, r3, r4⟩ := ih _ g1
 rw [← wsucc hk (by omega)] at r1
 refine ⟨r, Ev.step (fun f => spec_PeaceGroups.l3.eq_2 _ _ _ _) (Ev.pos (by omega) (Ev.bind (Ev.const hc) (Ev.pos (by rw [uk, bit_test1 hy.1, hb]) (Ev.bind (Ev.const (foes_get (by omega))) r1)))), r2, fun j hj h1 => r3 j hj (g2 j hj h1), fun j h1 h2 hj t ht hf => ?_⟩
 by_cases e : j = k
 ·subst e; exact r3 t ht (g3 t ht hf)
 exact r4 j (by omega) h2 (g2 j (by omega) hj) t ht hf
theorem specRounds_ev {h : Herd} (v : VHerd h) (hv : vH h = true) {i : Nat} : ∀ q, q ≤ h.Names.length → ∀ y : Int, goodM h i y → (closedB h y ∨ q + 1 ≤ cntB y) → ∃ r : Int, Ev (fun f => spec_PeaceGroups.l2 h f y (q : Int)) r ∧ goodM h i r ∧ closedB h r := by
 obtain ⟨n1, n2, n3⟩ := vH_len hv
 refine upL ?_ ?_
 ·intro y hy hc
  refine ⟨y, Ev.step (fun f => spec_PeaceGroups.l2.eq_2 _ _ _ _) (Ev.neg (by omega) (Ev.const rfl)), hy, hc.resolve_right fun hq => ?_⟩
  have := cnt_le (by omega) hy.2.1
  omega
 intro q hq ih y hy hc
 obtain ⟨m, m1, m2, m3, m4⟩ := specRound_ev v hv 0 (Nat.zero_le _) y hy
 have hc' : closedB h m ∨ q + 1 + 1 ≤ cntB m := by
   by_cases e : y = m
   · refine .inl ?_
     subst e
     intro j hj hb t ht hf
     exact m4 j (Nat.zero_le _) hj hb t ht hf
   · rcases hc with hc | hc
     · exact absurd (bits_eq hy.1 m2.1 fun j hj => by
         rw [Bool.eq_iff_iff]
         exact ⟨fun hb => m3 j hj hb, fun hb => m2.2.2.1 _ hc hy.2.2.2 j hj hb⟩) e
     · have := cnt_lt hy.1 m2.1 m3 e
       exact .inr (by omega)
 obtain ⟨r, r1, r2, r3⟩ := ih m m2 hc'
 rw [← wsucc hq (by omega)] at r1
 exact ⟨r, Ev.step (fun f => spec_PeaceGroups.l2.eq_2 _ _ _ _) (Ev.pos (by omega) (Ev.bind (m1.bind (Ev.const rfl)) r1)), r2, r3⟩
theorem implRound_ev {h : Herd} (v : VHerd h) (hv : vH h = true) {i : Nat} {b : Int} (hb : goodM h i b) : ∀ q, q ≤ (bl b 0 h.Names.length).length → ∀ y : Int, goodM h i y → ∃ r : Int, Ev (fun f => impl_PeaceGroups.l3 h (bl b 0 h.Names.length) f y (q : Int)) r ∧ goodM h i r ∧ subB y r ∧ ∀ x ∈ (bl b 0 h.Names.length).drop q, ∀ t, t < 16 → bitN (foes h x.toNat) t = true → bitN r t = true := by
 obtain ⟨n1, n2, n3⟩ := vH_len hv
 have hl := bl_len b 0 h.Names.length
 refine upL ?_ ?_
 ·intro y hy
  exact ⟨y, Ev.step (fun f => impl_PeaceGroups.l3.eq_2 _ _ _ _ _) (Ev.neg (by omega) (Ev.const rfl)), hy, fun _ _ hb => hb, fun x hx => by rw [List.drop_length] at hx; cases hx⟩
 intro q hq ih y hy
 obtain ⟨m, _, hm, hbm, em⟩ := mem_bl.1 (List.getElem_mem hq)
 have hm : m < h.Names.length := by omega
 obtain ⟨g1, g2, g3⟩ := good_or v hv hy hm fun S hS hi => hb.2.2.1 S hS hi m (by omega) hbm
 obtain ⟨r, r1, r2, r3, r4⟩ := ih _ g1
 rw [← wsucc hq (by omega)] at r1
 refine ⟨r, Ev.step (fun f => impl_PeaceGroups.l3.eq_2 _ _ _ _ _) (Ev.pos (by omega) (Ev.bind (Ev.const (getI_nat hq)) (Ev.bind (a := foes h m) (Ev.const (by rw [em]; exact foes_get (by omega))) r1))), r2, fun j hj h1 => r3 j hj (g2 j hj h1), fun x hx t ht hf => ?_⟩
 rw [List.drop_eq_getElem_cons hq, List.mem_cons] at hx
 rcases hx with rfl | hx
 ·rw [em, Int.toNat_natCast] at hf
  exact r3 t ht (g3 t ht hf)
 exact r4 x hx t ht hf
theorem implRounds_ev {h : Herd} (v : VHerd h) (hv : vH h = true) {i : Nat} : ∀ (d : Nat) (y b : Int), goodM h i y → (b = y → closedB h y) → 16 - cntB y ≤ d → cntB y ≤ 16 → ∃ r : Int, Ev (fun f => impl_PeaceGroups.l2 h f y b) r ∧ goodM h i r ∧ closedB h r := by
  obtain ⟨n1, n2, n3⟩ := vH_len hv
  intro d
  induction d with
  | zero =>
    intro y b hy hc hd h16
    have := cnt_le (by omega) hy.2.1
    omega
  | succ d ih =>
    intro y b hy hc hd h16
    by_cases e : b = y
    · exact ⟨y, Ev.step (fun f => impl_PeaceGroups.l2.eq_2 _ _ _ _) (Ev.neg (by simp [e]) (Ev.const rfl)), hy, hc e⟩
    · have hl := listed_ev y
      rw [bl_cut (show h.Names.length ≤ 16 by omega) hy.2.1] at hl
      obtain ⟨m, m1, m2, m3, m4⟩ := implRound_ev v hv hy 0 (Nat.zero_le _) y hy
      rw [List.drop_zero] at m4
      have hcl : y = m → closedB h m := by
        intro e2
        subst e2
        intro j hj hb t ht hf
        exact m4 (j : Int) (mem_bl.2 ⟨j, Nat.zero_le _, by omega, hb, rfl⟩) t ht (by rw [Int.toNat_natCast]; exact hf)
      have hfin : ∃ r : Int, Ev (fun f => impl_PeaceGroups.l2 h f m y) r ∧ goodM h i r ∧ closedB h r := by
        by_cases e2 : y = m
        · exact ⟨m, Ev.step (fun f => impl_PeaceGroups.l2.eq_2 _ _ _ _) (Ev.neg (by simp [e2]) (Ev.const rfl)), m2, hcl e2⟩
        · have hlt := cnt_lt hy.1 m2.1 m3 e2
          have := cnt_le (by omega) m2.2.1
          exact ih m y m2 hcl (by omega) (by omega)
      obtain ⟨r, r1, r2, r3⟩ := hfin
      exact ⟨r, Ev.step (fun f => impl_PeaceGroups.l2.eq_2 _ _ _ _) (Ev.pos e (hl.bind (m1.bind r1))), r2, r3⟩
end Go.Proofs.YtplfdbfdalaefaaGreatDoor
