/-
  Plain law: herds that are drawn are in order; an order that is drawn has each goat once.
-/
import Derived.Test.YtonpnkppaflcbaaGreatDoorQU2
import Derived.Test.YtonpnkppaflcbaaGreatDoorQR2
import Derived.Test.YtonpnkppaflcbaaGreatDoorSD
namespace Go.Proofs.YtonpnkppaflcbaaGreatDoor
open G
set_option linter.unusedVariables false
set_option linter.unusedSimpArgs false
set_option maxRecDepth 100000
/-! ### Bits that are put -/
theorem andNot_in (x y : Int) : 0 ≤ andNotI .u16 x y ∧ andNotI .u16 x y ≤ 65535 := by
  unfold andNotI
  have h := wu16b (B16 x &&& ~~~ B16 y)
  have := (B16 x &&& ~~~ B16 y).isLt
  have e : IntKind.u16.wrap (((BitVec.ofInt 16 x &&& ~~~BitVec.ofInt 16 y).toNat : Nat) : Int) = ((B16 x &&& ~~~ B16 y).toNat : Int) := h
  show 0 ≤ IntKind.u16.wrap (((BitVec.ofInt 16 x &&& ~~~BitVec.ofInt 16 y).toNat : Nat) : Int) ∧ IntKind.u16.wrap (((BitVec.ofInt 16 x &&& ~~~BitVec.ofInt 16 y).toNat : Nat) : Int) ≤ 65535
  rw [e]; omega
theorem bit_clear {m : Int} (h : 0 ≤ m) (h' : m ≤ 65535) {i : Nat} (hi : i < 16) {j : Nat} (hj : j < 16) : bitN (andNotI .u16 m (shlI .u16 1 (i : Int))) j = (bitN m j && !decide (i = j)) := by
  obtain ⟨a, b⟩ := andNot_in m (shlI .u16 1 (i : Int))
  rw [← bit_lsb a b hj, B_andNot, BitVec.getLsbD_and, BitVec.getLsbD_not, bit_lsb h h' hj, one_bit hi hj]
  simp [hj]
theorem getI_set_eq {F : List Int} {a : Nat} (ha : a < F.length) (x : Int) : getI (F.set a x) (a : Int) = some x := by
  rw [getI_nat (by simpa using ha)]; simp
theorem getI_set_ne {F : List Int} {a b : Nat} (hb : b < F.length) (hn : a ≠ b) (x : Int) : getI (F.set a x) (b : Int) = some F[b] := by
  rw [getI_nat (by simpa using hb), List.getElem_set_ne hn]
theorem getI_set2 {F : List Int} {a b : Nat} (ha : a < F.length) (hn : a ≠ b) (x y : Int) : getI ((F.set a x).set b y) (a : Int) = some x := by
  rw [getI_nat (by simpa using ha), List.getElem_set_ne (Ne.symm hn), List.getElem_set_self]
/-- Two goats are put as foes, or as none. -/
theorem put_ok (N : List ByteArray) (E : List Int) {F : List Int} (hl : F.length ≤ 14) (hF : ∀ x ∈ F, 0 ≤ x ∧ x ≤ 65535) {a b : Nat} (ha : a < F.length) (hb : b < F.length) (hn : a ≠ b) (f : Bool) :
    ∃ r : List Int, spec_l06Put.f ⟨N, E, F⟩ (a : Int) (b : Int) f = some r ∧ r.length = F.length ∧ (∀ x ∈ r, 0 ≤ x ∧ x ≤ 65535) ∧ ∀ i j, i < F.length → j < 16 → bitN (r.getD i 0) j = if (i = a ∧ j = b) ∨ (i = b ∧ j = a) then f else bitN (F.getD i 0) j := by
  have ua : IntKind.u64.wrap (a : Int) = (a : Int) := wu64 (by omega) (by omega)
  have ub : IntKind.u64.wrap (b : Int) = (b : Int) := wu64 (by omega) (by omega)
  have ca : chk (0 ≤ (IntKind.u64.wrap (a : Int))) = some () := chkT (by rw [ua]; omega)
  have cb : chk (0 ≤ (IntKind.u64.wrap (b : Int))) = some () := chkT (by rw [ub]; omega)
  obtain ⟨fa0, fa1⟩ := hF _ (List.getElem_mem ha)
  obtain ⟨fb0, fb1⟩ := hF _ (List.getElem_mem hb)
  have ea : F.getD a 0 = F[a] := getD_at F ha
  have eb : F.getD b 0 = F[b] := getD_at F hb
  obtain ⟨u0, u1⟩ := andNot_in F[a] (shlI .u16 1 (b : Int))
  obtain ⟨v0, v1⟩ := andNot_in F[b] (shlI .u16 1 (a : Int))
  unfold spec_l06Put.f
  simp only [getI_nat ha, ca, cb, ua, ub, Option.bind_some, Int.toNat_natCast, getI_set_ne hb hn]
  have hin : ∀ {G : List Int} {i : Nat} {x : Int}, (∀ z ∈ G, 0 ≤ z ∧ z ≤ 65535) → (0 ≤ x ∧ x ≤ 65535) → ∀ z ∈ G.set i x, 0 ≤ z ∧ z ≤ 65535 := fun hG hx z hz => by
    rcases List.mem_or_eq_of_mem_set hz with hz | rfl
    · exact hG z hz
    · exact hx
  cases f
  · rw [if_neg (by simp)]
    refine ⟨_, rfl, by simp, hin (hin hF ⟨u0, u1⟩) ⟨v0, v1⟩, fun i j hi hj => ?_⟩
    rw [set_getD _ _ (by simpa using hi) (by simpa using hb), set_getD _ _ hi ha]
    by_cases e1 : b = i
    · subst e1
      rw [if_pos rfl, bit_clear fb0 fb1 (by omega) hj, eb]
      by_cases e2 : a = j
      · subst e2; simp
      · rw [if_neg (by rintro (⟨h1, _⟩ | ⟨_, h2⟩); exact hn h1.symm; exact e2 h2.symm)]; simp [e2]
    · rw [if_neg e1]
      by_cases e2 : a = i
      · subst e2
        rw [if_pos rfl, bit_clear fa0 fa1 (by omega) hj, ea]
        by_cases e3 : b = j
        · subst e3; simp
        · rw [if_neg (by rintro (⟨_, h2⟩ | ⟨h1, _⟩); exact e3 h2.symm; exact hn h1)]; simp [e3]
      · rw [if_neg e2, if_neg (by rintro (⟨h1, _⟩ | ⟨h1, _⟩); exact e2 h1.symm; exact e1 h1.symm)]
  · rw [if_pos rfl]
    have g1 : getI ((F.set a (andNotI .u16 F[a] (shlI .u16 1 (b : Int)))).set b (andNotI .u16 F[b] (shlI .u16 1 (a : Int)))) (a : Int) = some (andNotI .u16 F[a] (shlI .u16 1 (b : Int))) := getI_set2 ha hn _ _
    simp only [g1, Option.bind_some]
    have g2 : getI (((F.set a (andNotI .u16 F[a] (shlI .u16 1 (b : Int)))).set b (andNotI .u16 F[b] (shlI .u16 1 (a : Int)))).set a (orI .u16 (andNotI .u16 F[a] (shlI .u16 1 (b : Int))) (shlI .u16 1 (b : Int)))) (b : Int) = some (andNotI .u16 F[b] (shlI .u16 1 (a : Int))) := by
      rw [getI_nat (by simpa using hb), List.getElem_set_ne hn, List.getElem_set_self]
    simp only [g2, Option.bind_some]
    obtain ⟨p0, p1⟩ := or_in (andNotI .u16 F[a] (shlI .u16 1 (b : Int))) (shlI .u16 1 (b : Int))
    obtain ⟨q0, q1⟩ := or_in (andNotI .u16 F[b] (shlI .u16 1 (a : Int))) (shlI .u16 1 (a : Int))
    refine ⟨_, rfl, by simp, hin (hin (hin (hin hF ⟨u0, u1⟩) ⟨v0, v1⟩) ⟨p0, p1⟩) ⟨q0, q1⟩, fun i j hi hj => ?_⟩
    rw [set_getD _ _ (by simpa using hi) (by simpa using hb), set_getD _ _ (by simpa using hi) (by simpa using ha), set_getD _ _ (by simpa using hi) (by simpa using hb), set_getD _ _ hi ha]
    by_cases e1 : b = i
    · subst e1
      rw [if_pos rfl, bit_put v0 v1 (by omega) hj, bit_clear fb0 fb1 (by omega) hj, eb]
      by_cases e2 : a = j
      · subst e2; simp
      · rw [if_neg (by rintro (⟨h1, _⟩ | ⟨_, h2⟩); exact hn h1.symm; exact e2 h2.symm)]; simp [e2]
    · rw [if_neg e1, if_neg e1]
      by_cases e2 : a = i
      · subst e2
        rw [if_pos rfl, bit_put u0 u1 (by omega) hj, bit_clear fa0 fa1 (by omega) hj, ea]
        by_cases e3 : b = j
        · subst e3; simp
        · rw [if_neg (by rintro (⟨_, h2⟩ | ⟨h1, _⟩); exact e3 h2.symm; exact hn h1)]; simp [e3]
      · rw [if_neg e2, if_neg e2, if_neg (by rintro (⟨h1, _⟩ | ⟨h1, _⟩); exact e2 h1.symm; exact e1 h1.symm)]
/-- Foes are foes of each other, and no others but of the first goats. -/
def Foed (F : List Int) : Prop := (∀ x ∈ F, 0 ≤ x ∧ x ≤ 65535) ∧ ∀ i j, i < F.length → j < 16 → bitN (F.getD i 0) j = true → j < F.length ∧ i ≠ j ∧ bitN (F.getD j 0) i = true
theorem bit_none (j : Nat) : bitN 0 j = false := by
  unfold bitN shrI
  rw [Int.zero_fdiv]; rfl
theorem foed_snoc {F : List Int} (h : Foed F) : Foed (F ++ [0]) := by
  refine ⟨fun x hx => ?_, fun i j hi hj hb => ?_⟩
  · rcases List.mem_append.1 hx with hx | hx
    · exact h.1 x hx
    · rw [List.mem_singleton.1 hx]; omega
  · have e : ∀ k, (F ++ [0]).getD k 0 = F.getD k 0 := fun k => by
      by_cases hk : k < F.length
      · simp [List.getD_eq_getElem?_getD, List.getElem?_append_left hk]
      · simp only [List.getD_eq_getElem?_getD, List.getElem?_append_right (show F.length ≤ k by omega), List.getElem?_eq_none (show F.length ≤ k by omega)]
        rcases Nat.eq_zero_or_pos (k - F.length) with h0 | h0
        · simp [h0]
        · rw [List.getElem?_eq_none (by simp; omega)]
    rw [e] at hb ⊢
    rw [List.length_append, List.length_singleton] at hi ⊢
    by_cases hk : i < F.length
    · obtain ⟨a, b, c⟩ := h.2 i j hk hj hb
      exact ⟨by omega, b, c⟩
    · rw [show F.getD i 0 = 0 by simp [List.getD_eq_getElem?_getD, List.getElem?_eq_none (show F.length ≤ i by omega)], bit_none] at hb
      cases hb
theorem foed_put {F r : List Int} (hl : F.length ≤ 14) (h : Foed F) {a b : Nat} (ha : a < F.length) (hb : b < F.length) (hn : a ≠ b) {f : Bool} (hr : r.length = F.length) (hr1 : ∀ x ∈ r, 0 ≤ x ∧ x ≤ 65535) (hr2 : ∀ i j, i < F.length → j < 16 → bitN (r.getD i 0) j = if (i = a ∧ j = b) ∨ (i = b ∧ j = a) then f else bitN (F.getD i 0) j) : Foed r := by
  refine ⟨hr1, fun i j hi hj hbit => ?_⟩
  rw [hr] at hi ⊢
  rw [hr2 i j hi hj] at hbit
  by_cases hc : (i = a ∧ j = b) ∨ (i = b ∧ j = a)
  · rw [if_pos hc] at hbit
    have hjl : j < F.length := by rcases hc with ⟨_, h2⟩ | ⟨_, h2⟩ <;> omega
    refine ⟨hjl, by rcases hc with ⟨h1, h2⟩ | ⟨h1, h2⟩ <;> omega, ?_⟩
    rw [hr2 j i hjl (by omega), if_pos (by rcases hc with ⟨h1, h2⟩ | ⟨h1, h2⟩; exact .inr ⟨h2, h1⟩; exact .inl ⟨h2, h1⟩)]
    exact hbit
  · rw [if_neg hc] at hbit
    obtain ⟨q1, q2, q3⟩ := h.2 i j hi hj hbit
    refine ⟨q1, q2, ?_⟩
    rw [hr2 j i q1 (by omega), if_neg (by rintro (⟨h1, h2⟩ | ⟨h1, h2⟩); exact hc (.inr ⟨h2, h1⟩); exact hc (.inl ⟨h2, h1⟩))]
    exact q3
theorem shr_zero {m : Int} (h : 0 ≤ m) (h' : m ≤ 65535) {n : Nat} (hn : n ≤ 16) (hb : ∀ j, n ≤ j → j < 16 → bitN m j = false) : shrI .u16 m (n : Int) = 0 := by
  obtain ⟨z, rfl⟩ := Int.eq_ofNat_of_zero_le h
  rw [shr_nat hn]
  have hlt : z < 2 ^ n := by
    apply Nat.lt_pow_two_of_testBit
    intro j hj
    by_cases h1 : j < 16
    · rw [← bit_nat (by omega) (by omega)]; exact hb j hj h1
    · exact Nat.testBit_lt_two_pow (Nat.lt_of_lt_of_le (show z < 2 ^ 16 by omega) (Nat.pow_le_pow_right (by omega) (by omega)))
  rw [Nat.div_eq_of_lt hlt]; rfl
/-! ### Names -/
def NAMES : List ByteArray := [(⟨#[97, 100, 97]⟩ : ByteArray), (⟨#[98, 101, 108]⟩ : ByteArray), (⟨#[99, 121, 100]⟩ : ByteArray), (⟨#[100, 111, 116]⟩ : ByteArray), (⟨#[101, 118, 97]⟩ : ByteArray), (⟨#[102, 97, 121]⟩ : ByteArray), (⟨#[103, 105, 108]⟩ : ByteArray), (⟨#[104, 111, 98]⟩ : ByteArray), (⟨#[105, 118, 111]⟩ : ByteArray), (⟨#[106, 97, 110]⟩ : ByteArray), (⟨#[107, 105, 116]⟩ : ByteArray), (⟨#[108, 111, 117]⟩ : ByteArray), (⟨#[109, 97, 120]⟩ : ByteArray), (⟨#[110, 97, 110]⟩ : ByteArray)]
theorem names_ok : ∀ i : Fin 14, nameB (NAMES.getD i ByteArray.empty) = true := by decide +kernel
theorem names_ne : ∀ i j : Fin 14, NAMES.getD i ByteArray.empty = NAMES.getD j ByteArray.empty → i = j := by decide +kernel
def nmOf (first i : Nat) : ByteArray := NAMES.getD ((first + i) % 14) ByteArray.empty
theorem nmOf_ok (first i : Nat) : nameB (nmOf first i) = true := names_ok ⟨(first + i) % 14, Nat.mod_lt _ (by omega)⟩
theorem nmOf_ne {first i j : Nat} (hi : i < 14) (hj : j < 14) (e : nmOf first i = nmOf first j) : i = j := by
  have := names_ne ⟨(first + i) % 14, Nat.mod_lt _ (by omega)⟩ ⟨(first + j) % 14, Nat.mod_lt _ (by omega)⟩ e
  have := congrArg Fin.val this
  simp only at this
  omega
/-- The first goats of a herd that is drawn. -/
structure Drawn (first : Nat) (N : List ByteArray) (E F : List Int) : Prop where
  le : E.length = N.length
  lf : F.length = N.length
  nm : ∀ i (h : i < N.length), N[i] = nmOf first i
  eat : ∀ x ∈ E, 0 ≤ x ∧ x ≤ 100
  foe : Foed F
theorem drawn_valid {first : Nat} {N : List ByteArray} {E F : List Int} (h : Drawn first N E F) (hl : N.length ≤ 14) : VHerd ⟨N, E, F⟩ ∧ vH ⟨N, E, F⟩ = true := by
  have hsz : ∀ i, i < N.length → (nmOf first i).size ≤ 8 := fun i _ => by
    have := nmOf_ok first i
    unfold nameB at this
    rw [Bool.and_eq_true, decide_eq_true_eq] at this
    exact this.1.2
  have hm : maxLen ≥ 8 := by decide
  have i16 : IntKind.i16.min = -32768 ∧ IntKind.i16.max = 32767 := by decide
  have u16' : IntKind.u16.min = 0 ∧ IntKind.u16.max = 65535 := by decide
  have hnm : ∀ i, i < N.length → nm ⟨N, E, F⟩ i = nmOf first i := fun i hi => by
    unfold nm
    simp only [List.getD_eq_getElem?_getD, List.getElem?_eq_getElem hi, Option.getD_some]
    exact h.nm i hi
  refine ⟨⟨fun z hz => ?_, by show N.length ≤ _; omega, fun z hz => ?_, by show E.length ≤ _; have := h.le; omega, fun z hz => ?_, by show F.length ≤ _; have := h.lf; omega⟩, ?_⟩
  · obtain ⟨i, hi, rfl⟩ := List.getElem_of_mem hz
    have e := h.nm i hi
    have := hsz i hi
    show (N[i]).size ≤ maxLen
    rw [e]; omega
  · have := h.eat z hz
    unfold inI
    rw [i16.1, i16.2]; omega
  · have := h.foe.1 z hz
    unfold inI
    rw [u16'.1, u16'.2]; exact this
  · unfold vH
    rw [Bool.and_eq_true, decide_eq_true_eq, upA_iff]
    refine ⟨⟨hl, h.le, h.lf⟩, fun i _ hi => ?_⟩
    have hi : i < N.length := by have : i < 0 + N.length := hi; omega
    have hiF : i < F.length := by have := h.lf; omega
    have hfi : foes ⟨N, E, F⟩ i = F.getD i 0 := rfl
    have hin : 0 ≤ F.getD i 0 ∧ F.getD i 0 ≤ 65535 := by rw [getD_at F hiF]; exact h.foe.1 _ (List.getElem_mem hiF)
    rw [Bool.and_eq_true, upA_iff]
    refine ⟨?_, fun k _ hk => ?_⟩
    · unfold okI
      rw [hnm i hi, nmOf_ok, Bool.true_and]
      simp only [Bool.and_eq_true, decide_eq_true_eq, Bool.not_eq_true']
      refine ⟨?_, ?_, ?_⟩
      · have hiE : i < E.length := by have := h.le; omega
        have : eats ⟨N, E, F⟩ i = E[i] := by unfold eats; simp [List.getD_eq_getElem?_getD, List.getElem?_eq_getElem hiE]
        rw [this]
        exact h.eat _ (List.getElem_mem hiE)
      · rw [hfi]
        refine shr_zero hin.1 hin.2 (by show N.length ≤ 16; omega) fun j hj hj2 => ?_
        cases hb : bitN (F.getD i 0) j
        · rfl
        · have := (h.foe.2 i j hiF hj2 hb).1
          have : j < N.length := by have := h.lf; omega
          have hj : N.length ≤ j := hj
          omega
      · rw [foeB_bit, hfi]
        cases hb : bitN (F.getD i 0) i
        · rfl
        · exact absurd rfl (h.foe.2 i i hiF (by omega) hb).2.1
    · have hk : k < i := by omega
      unfold prB symB
      rw [Bool.and_eq_true, Bool.not_eq_true']
      refine ⟨decide_eq_false ?_, ?_⟩
      · rw [hnm k (by omega), hnm i hi]
        intro e
        have := nmOf_ne (by omega) (by omega) e
        omega
      · rw [foeB_bit, foeB_bit, hfi, show foes ⟨N, E, F⟩ k = F.getD k 0 from rfl]
        rw [beq_iff_eq, Bool.eq_iff_iff]
        exact ⟨fun hb => (h.foe.2 i k hiF (by omega) hb).2.2, fun hb => (h.foe.2 k i (by omega) (by omega) hb).2.2⟩
/-! ### Herds -/
theorem among_ok {c : List Int} (hc : byteL c) {at_ seed : Int} (h0 : 0 ≤ at_) (h1 : at_ ≤ 1000000000000) (l : List Int) (hl : 1 ≤ l.length) (hl2 : l.length ≤ 200) :
    ∃ v at' seed', spec_l00Src_among.f ⟨c, at_, seed⟩ l = some (v, ⟨c, at', seed'⟩) ∧ v ∈ l ∧ at_ ≤ at' ∧ at' ≤ at_ + 2 := by
  obtain ⟨i, a, s, e, i0, i1, q1, q2⟩ := pick_ok hc (seed := seed) h0 h1 (l.length : Int)
  have hi : i.toNat < l.length := by omega
  have hg : getI l i = some l[i.toNat] := by
    have := getI_nat hi
    rwa [show ((i.toNat : Nat) : Int) = i by omega] at this
  refine ⟨l[i.toNat], a, s, ?_, List.getElem_mem hi, q1, q2⟩
  unfold spec_l00Src_among.f
  rw [e, Option.bind_some, hg]
  rfl
theorem one_ok {c : List Int} (hc : byteL c) {at_ seed : Int} (h0 : 0 ≤ at_) (h1 : at_ ≤ 1000000000000) (n : Int) :
    ∃ v at' seed', spec_l00Src_one.f ⟨c, at_, seed⟩ n = some (v, ⟨c, at', seed'⟩) ∧ at_ ≤ at' ∧ at' ≤ at_ + 2 := by
  obtain ⟨i, a, s, e, i0, i1, q1, q2⟩ := pick_ok hc (seed := seed) h0 h1 n
  refine ⟨decide (i = 0), a, s, ?_, q1, q2⟩
  unfold spec_l00Src_one.f
  rw [e]
  rfl
theorem drawn2_loop {c : List Int} (hc : byteL c) (t4 : Int × l00Src) (t47 : Int × l00Src) (y21 : List ByteArray) (y24 : List Int) (t41 : ByteArray) {i : Nat} (hi : i < 14) : ∀ k, k ≤ i → ∀ (F : List Int) (at_ seed : Int), F.length = i + 1 → Foed F → 0 ≤ at_ → at_ + 4 * ((i : Int) - k) ≤ 100000 →
    ∃ r at' seed', Ev (fun f => spec_l06Drawn.l2 ⟨c, 0, 0⟩ t4 (i : Int) y21 y24 t41 t47 f F (k : Int) at_ seed) (r, at', seed') ∧ r.length = i + 1 ∧ Foed r ∧ at_ ≤ at' ∧ at' ≤ at_ + 4 * ((i : Int) - k) := by
  refine upL ?_ ?_
  · intro F at_ seed hl hf h0 h1
    exact ⟨F, at_, seed, Ev.step (fun k => spec_l06Drawn.l2.eq_2 _ _ _ _ _ _ _ _ _ _ _ _) (Ev.neg (by omega) (Ev.const rfl)), hl, hf, by omega, by omega⟩
  · intro k hk ih F at_ seed hl hf h0 h1
    obtain ⟨b, a1, s1, e1, q1, q2⟩ := one_ok hc (seed := seed) h0 (by omega) (IntKind.i64.wrap (1 + t4.1))
    obtain ⟨r, e2, r1, r2, r3⟩ := put_ok (y21 ++ ([t41] : List ByteArray)) (y24 ++ ([IntKind.i16.wrap t47.1] : List Int)) (F := F) (by omega) hf.1 (a := i) (b := k) (by omega) (by omega) (by omega) b
    obtain ⟨z, a2, s2, z1, z2, z3, z4, z5⟩ := ih r a1 s1 (by omega) (foed_put (by omega) hf (by omega) (by omega) (by omega) r1 r2 r3) (by omega) (by omega)
    rw [← wsucc hk (by omega)] at z1
    exact ⟨z, a2, s2, Ev.step (fun k => spec_l06Drawn.l2.eq_2 _ _ _ _ _ _ _ _ _ _ _ _) (Ev.pos (by omega) (Ev.bind (Ev.const e1) (Ev.bind (Ev.const e2) z1))), z2, z3, by omega, by omega⟩
theorem drawn_loop {c : List Int} (hc : byteL c) (t4 : Int × l00Src) {t5 t6 : Int × l00Src} {first n : Nat} (h5 : t5.1 = (first : Int)) (hf : first < 14) (h6 : t6.1 = (n : Int)) (hn : n ≤ 7) : ∀ i, i ≤ n → ∀ (N : List ByteArray) (E F : List Int) (at_ seed : Int), N.length = i → Drawn first N E F → 0 ≤ at_ → at_ + 100 * ((n : Int) - i) ≤ 100000 →
    ∃ N' E' F' at' seed', Ev (fun k => spec_l06Drawn.l1 ⟨c, 0, 0⟩ t4 t5 t6 k (i : Int) at_ seed N E F) (N', E', F', at', seed') ∧ N'.length = n ∧ Drawn first N' E' F' := by
  refine upL ?_ ?_
  · intro N E F at_ seed hl hD h0 h1
    exact ⟨N, E, F, at_, seed, Ev.step (fun k => spec_l06Drawn.l1.eq_2 _ _ _ _ _ _ _ _ _ _ _) (Ev.neg (by omega) (Ev.const rfl)), hl, hD⟩
  · intro i hi ih N E F at_ seed hl hD h0 h1
    have hlE := hD.le
    have hlF := hD.lf
    obtain ⟨e, a1, s1, e1, em, q1, q2⟩ := among_ok hc (seed := seed) h0 (by omega) [0, 3, 5, 7, 100] (by simp) (by simp)
    have he : 0 ≤ e ∧ e ≤ 100 := by
      simp only [List.mem_cons, List.not_mem_nil, or_false] at em
      omega
    have ew : IntKind.i16.wrap e = e := w16 (by omega) (by omega)
    have hmod : Int.tmod (IntKind.i64.wrap (t5.1 + (i : Int))) 14 = (((first + i) % 14 : Nat) : Int) := by
      rw [h5, w64 (by omega) (by omega), Int.tmod_eq_emod_of_nonneg (by omega)]; omega
    have hNl : (first + i) % 14 < NAMES.length := Nat.mod_lt _ (by decide)
    have hname : getI NAMES (Int.tmod (IntKind.i64.wrap (t5.1 + (i : Int))) 14) = some (nmOf first i) := by
      rw [hmod, getI_nat hNl]
      unfold nmOf
      simp [List.getD_eq_getElem?_getD, List.getElem?_eq_getElem hNl]
    obtain ⟨r, a2, s2, z1, z2, z3, z4, z5⟩ := drawn2_loop hc t4 (e, ⟨c, a1, s1⟩) N E (nmOf first i) (i := i) (by omega) 0 (Nat.zero_le _) (F ++ [0]) a1 s1 (by simp; omega) (foed_snoc hD.foe) (by omega) (by omega)
    have hD' : Drawn first (N ++ [nmOf first i]) (E ++ [IntKind.i16.wrap e]) r := by
      refine ⟨by simp; omega, by simp; omega, fun j hj => ?_, fun x hx => ?_, z3⟩
      · rw [List.length_append, List.length_singleton] at hj
        by_cases h1 : j < N.length
        · rw [List.getElem_append_left h1]; exact hD.nm j h1
        · obtain rfl : j = i := by omega
          rw [List.getElem_append_right (by omega)]; simp
      · rcases List.mem_append.1 hx with hx | hx
        · exact hD.eat x hx
        · rw [List.mem_singleton.1 hx, ew]; exact he
    obtain ⟨N', E', F', a3, s3, y1, y2, y3⟩ := ih (N ++ [nmOf first i]) (E ++ [IntKind.i16.wrap e]) r a2 s2 (by simp; omega) hD' (by omega) (by omega)
    rw [← wsucc hi (by omega)] at y1
    refine ⟨N', E', F', a3, s3, Ev.step (fun k => spec_l06Drawn.l1.eq_2 _ _ _ _ _ _ _ _ _ _ _) (Ev.pos (by omega) (Ev.bind (a := (N ++ [nmOf first i], E ++ [IntKind.i16.wrap e], r, a2, s2)) ?_ y1)), y2, y3⟩
    refine Ev.bind (Ev.const hname) (Ev.bind (Ev.const (chkT (by simp; omega))) (Ev.bind (Ev.const e1) (Ev.bind (Ev.const (chkT (by simp; omega))) (Ev.bind (Ev.const (chkT (by simp; omega))) (Ev.bind z1 (Ev.const rfl))))))
theorem herd_ev {c : List Int} (hc : byteL c) : ∃ h : Herd, VHerd h ∧ vH h = true ∧ h.Names.length ≤ 7 ∧ Ev (fun k => spec_A2Herd.f k c) h := by
  obtain ⟨u, a1, s1, e1, u0, u1, q1, q1'⟩ := pick_ok hc (at_ := 0) (seed := 0) (by omega) (by omega) 5
  obtain ⟨f, a2, s2, e2, f0, f1, q2, q2'⟩ := pick_ok hc (at_ := a1) (seed := s1) (by omega) (by omega) 14
  obtain ⟨n, a3, s3, e3, n0, n1, q3, q3'⟩ := pick_ok hc (at_ := a2) (seed := s2) (by omega) (by omega) 8
  obtain ⟨first, rfl⟩ := Int.eq_ofNat_of_zero_le f0
  obtain ⟨m, rfl⟩ := Int.eq_ofNat_of_zero_le n0
  obtain ⟨N, E, F, a4, s4, z1, z2, z3⟩ := drawn_loop hc (u, ⟨c, a1, s1⟩) (t5 := ((first : Int), ⟨c, a2, s2⟩)) (t6 := ((m : Int), ⟨c, a3, s3⟩)) (first := first) (n := m) rfl (by omega) rfl (by omega) 0 (Nat.zero_le _) [] [] [] a3 s3 rfl ⟨rfl, rfl, fun i h => by simp at h, by simp, by simp, fun i j h => by simp at h⟩ (by omega) (by omega)
  obtain ⟨v1, v2⟩ := drawn_valid z3 (by omega)
  refine ⟨⟨N, E, F⟩, v1, v2, by show N.length ≤ 7; omega, ?_⟩
  unfold spec_A2Herd.f spec_l00From.f
  simp only [Option.bind_some]
  refine Ev.bind (a := (⟨N, E, F⟩, ⟨c, a4, s4⟩)) ?_ (Ev.const rfl)
  unfold spec_l06Drawn.f
  have w8 : IntKind.i64.wrap (7 + 1) = 8 := by rw [w64 (by omega) (by omega)]; rfl
  refine Ev.bind (Ev.const e1) (Ev.bind (Ev.const e2) ?_)
  rw [w8]
  exact Ev.bind (Ev.const e3) (z1.bind (Ev.const rfl))
/-! ### Orders -/
theorem order_loop {c : List Int} (hc : byteL c) {n : Nat} (hn : n ≤ 14) : ∀ i, i ≤ n → ∀ (y : List Int) (at_ seed : Int), y.length = i → y.Nodup → (∀ x, x ∈ y ↔ 0 ≤ x ∧ x < (i : Int)) → 0 ≤ at_ → at_ + 4 * ((n : Int) - i) ≤ 100000 →
    ∃ r, Ev (fun k => spec_A2Order.l1 c (n : Int) k y (i : Int) at_ seed) r ∧ r.length = n ∧ r.Nodup ∧ (∀ x, x ∈ r ↔ 0 ≤ x ∧ x < (n : Int)) := by
  refine upL ?_ ?_
  · intro y at_ seed hl hd hm h0 h1
    exact ⟨y, Ev.step (fun k => spec_A2Order.l1.eq_2 _ _ _ _ _ _ _) (Ev.neg (by omega) (Ev.const rfl)), hl, hd, hm⟩
  · intro i hi ih y at_ seed hl hd hm h0 h1
    have wi : IntKind.i64.wrap ((i : Int) + 1) = (i : Int) + 1 := w64 (by omega) (by omega)
    obtain ⟨t, a1, s1, e1, t0, t1, q1, q2⟩ := pick_ok hc (seed := seed) h0 (by omega) ((i : Int) + 1)
    have hp : ((y.take t.toNat ++ [(i : Int)]) ++ y.drop t.toNat).Perm ((i : Int) :: y) := by
      rw [List.append_assoc, List.singleton_append]
      have := List.perm_middle (a := (i : Int)) (l₁ := y.take t.toNat) (l₂ := y.drop t.toNat)
      rwa [List.take_append_drop] at this
    obtain ⟨r, r1, r2, r3, r4⟩ := ih ((y.take t.toNat ++ [(i : Int)]) ++ y.drop t.toNat) a1 s1 (by rw [hp.length_eq]; simp; omega) (hp.nodup_iff.2 (List.nodup_cons.2 ⟨fun h => by have := (hm _).1 h; omega, hd⟩)) (fun x => by
      rw [hp.mem_iff, List.mem_cons, hm]
      omega) (by omega) (by omega)
    rw [← wsucc hi (by omega)] at r1
    refine ⟨r, Ev.step (fun k => spec_A2Order.l1.eq_2 _ _ _ _ _ _ _) (Ev.pos (by omega) ?_), r2, r3, r4⟩
    simp only [wi]
    rw [wi] at r1
    refine Ev.bind (Ev.const e1) (Ev.bind (Ev.const (chkT (by simp only; omega))) (Ev.bind (a := y.drop t.toNat) (Ev.const ?_) (Ev.bind (Ev.const (chkT (by simp only; omega))) (Ev.bind (Ev.const (chkT (by simp; omega))) (Ev.bind (Ev.const (chkT (by simp; omega))) r1)))))
    unfold spec_l00Own.f
    rw [chkT (by simp; omega)]; rfl
theorem order_ev {c : List Int} (hc : byteL c) {n : Nat} (hn : n ≤ 14) : ∃ r : List Int, r.length = n ∧ r.Nodup ∧ (∀ x, x ∈ r ↔ 0 ≤ x ∧ x < (n : Int)) ∧ Ev (fun k => spec_A2Order.f k c (n : Int)) r := by
  obtain ⟨r, r1, r2, r3, r4⟩ := order_loop hc hn 0 (Nat.zero_le _) [] 0 0 rfl (by simp) (fun x => by first | (simp; done) | (simp; omega)) (by omega) (by omega)
  refine ⟨r, r2, r3, r4, ?_⟩
  unfold spec_A2Order.f spec_l00From.f
  simp only [Option.bind_some]
  exact r1.bind (Ev.const rfl)
end Go.Proofs.YtonpnkppaflcbaaGreatDoor
