import Derived.Test.YtplfdbfdalaefaaGreatDoorQH3
import Derived.Test.YtplfdbfdalaefaaGreatDoorQL
import Derived.Test.YtplfdbfdalaefaaGreatDoorQW
import Derived.Test.YtplfdbfdalaefaaGreatDoorQY
/-
  Plain laws: herds that are answered: marks, what is joined, what comes first.
-/
namespace Go.Proofs.YtplfdbfdalaefaaGreatDoor
open G
set_option linter.unusedVariables false
set_option linter.unusedSimpArgs false
def foL : List Int → Int
  | [] => 0
  | x :: xs => if x = 0 then foL xs else x
theorem firstOf_ev (xs : List Int) (hx : xs.length ≤ 1048576) : Ev (fun k => impl_firstOf.f k xs) (foL xs) := by
 have key : ∀ i, i ≤ xs.length → Ev (fun k => impl_firstOf.l1 xs k (i : Int)) (if foL (xs.drop i) = 0 then .inr () else .inl (foL (xs.drop i))) := by
   refine upL ?_ ?_
   · refine Ev.step (fun k => impl_firstOf.l1.eq_2 _ _ _) (Ev.neg (by omega) (Ev.const ?_))
     simp [foL]
   · intro i hi ih
     refine Ev.step (fun k => impl_firstOf.l1.eq_2 _ _ _) (Ev.pos (by omega) (Ev.bind (Ev.const (getI_nat hi)) ?_))
     rw [List.drop_eq_getElem_cons hi, foL]
     by_cases e : xs[i] = 0
     · rw [if_pos e, wsucc hi (by omega)]; exact Ev.neg (by simp [e]) ih
     · rw [if_neg e, if_neg e]; exact Ev.pos e (Ev.const rfl)
 have := key 0 (Nat.zero_le _)
 rw [List.drop_zero] at this
 refine this.bind ?_
 by_cases e : foL xs = 0
 ·rw [if_pos e, e]; exact Ev.const rfl
 rw [if_neg e]; exact Ev.const rfl
end Go.Proofs.YtplfdbfdalaefaaGreatDoor
namespace Go.Proofs.YtplfdbfdalaefaaGreatDoor
open G
set_option linter.unusedVariables false
set_option linter.unusedSimpArgs false
theorem or_none (x y b : Int) : orI .u16 (andNotI .u16 x y) (shlI .u16 (IntKind.u16.wrap 0) b) = andNotI .u16 x y := by
 have h0 : shlI .u16 (IntKind.u16.wrap 0) b = 0 := by
   unfold shlI
   rw [show IntKind.u16.wrap 0 = 0 from rfl, Int.zero_mul]; rfl
 rw [h0]
 have e : andNotI .u16 x y = (((B16 x &&& ~~~ B16 y).toNat : Nat) : Int) := wu16b _
 rw [e]
 unfold orI
 have e2 : (B16 (((B16 x &&& ~~~ B16 y).toNat : Nat) : Int) ||| B16 0) = B16 x &&& ~~~ B16 y := by
   rw [B16_nat]
   show (B16 x &&& ~~~ B16 y) ||| 0#16 = _
   simp
 show IntKind.u16.wrap (((B16 (((B16 x &&& ~~~ B16 y).toNat : Nat) : Int) ||| B16 0).toNat : Nat) : Int) = _
 rw [e2]
 exact wu16b _
theorem put_eq {h : Herd} {a b : Nat} (ha : a < h.Foes.length) (hb : b < h.Foes.length) (hab : a ≠ b) (hl : h.Foes.length ≤ 4294967296) (f : Bool) : ∃ r : List Int, r.length = h.Foes.length ∧ spec_l06Put.f h (a : Int) (b : Int) f = some r ∧ impl_Herd_set.f h (a : Int) (b : Int) f = some r := by
 have ua : IntKind.u64.wrap (a : Int) = (a : Int) := wu64 (by omega) (by omega)
 have ub : IntKind.u64.wrap (b : Int) = (b : Int) := wu64 (by omega) (by omega)
 have c1 : chk (0 ≤ (a : Int)) = some () := chkT (by omega)
 have c2 : chk (0 ≤ (b : Int)) = some () := chkT (by omega)
 have g1 : getI h.Foes (a : Int) = some h.Foes[a] := getI_nat ha
 have g2 : ∀ X, getI (h.Foes.set a X) (b : Int) = some h.Foes[b] := fun X => by
   rw [getI_nat (by simpa using hb), List.getElem_set_ne hab]
 have g3 : ∀ X Y, getI ((h.Foes.set a X).set b Y) (a : Int) = some X := fun X Y => by
   rw [getI_nat (by simpa using ha), List.getElem_set_ne (Ne.symm hab), List.getElem_set_self]
 have cl : ∀ X Y Z, ((h.Foes.set a X).set b Y).set a Z = (h.Foes.set a Z).set b Y := fun X Y Z => by
   rw [List.set_comm Y Z (Ne.symm hab), List.set_set]
 have g4 : ∀ X Y, getI ((h.Foes.set a X).set b Y) (b : Int) = some Y := fun X Y => by
   rw [getI_nat (by simpa using hb), List.getElem_set_self]
 cases f
 ·refine ⟨(h.Foes.set a (andNotI .u16 h.Foes[a] (shlI .u16 1 b))).set b (andNotI .u16 h.Foes[b] (shlI .u16 1 a)), by simp, ?_, ?_⟩
  ·unfold spec_l06Put.f
   simp only [ua, ub, Int.toNat_natCast, g1, Option.bind_some, g2, c1, c2, Bool.false_eq_true, if_false]
  unfold impl_Herd_set.f impl_bit.f
  simp only [Int.toNat_natCast, g1, Option.bind_some, g2, c1, c2, Bool.false_eq_true, if_false, or_none]
 refine ⟨(h.Foes.set a (orI .u16 (andNotI .u16 h.Foes[a] (shlI .u16 1 b)) (shlI .u16 1 b))).set b (orI .u16 (andNotI .u16 h.Foes[b] (shlI .u16 1 a)) (shlI .u16 1 a)), by simp, ?_, ?_⟩
 ·unfold spec_l06Put.f
  simp only [ua, ub, Int.toNat_natCast, g1, Option.bind_some, g2, c1, c2, if_true, g3, cl, g4, List.set_set]
 unfold impl_Herd_set.f impl_bit.f
 simp only [Int.toNat_natCast, g1, Option.bind_some, g2, c1, c2, if_true, show IntKind.u16.wrap 1 = 1 from rfl]
end Go.Proofs.YtplfdbfdalaefaaGreatDoor
namespace Go.Proofs.YtplfdbfdalaefaaGreatDoor
open G
set_option linter.unusedVariables false
set_option linter.unusedSimpArgs false

theorem and255 (x : Int) : 0 ≤ andI .u64 x 255 ∧ andI .u64 x 255 ≤ 255 := by
 unfold andI
 have e : (BitVec.ofInt 64 x &&& BitVec.ofInt 64 255).toNat ≤ 255 := by
   rw [BitVec.toNat_and]
   exact Nat.le_trans Nat.and_le_right (by decide)
 show 0 ≤ IntKind.u64.wrap (((BitVec.ofInt 64 x &&& BitVec.ofInt 64 255).toNat : Nat) : Int) ∧ IntKind.u64.wrap (((BitVec.ofInt 64 x &&& BitVec.ofInt 64 255).toNat : Nat) : Int) ≤ 255
 rw [wu64 (by omega) (by omega)]
 omega
def byteL (l : List Int) : Prop := ∀ x ∈ l, 0 ≤ x ∧ x ≤ 255
theorem byteL_of {l : List Int} (h : ∀ x ∈ l, (inI .u8) x) : byteL l := by
 intro x hx
 have h1 : IntKind.u8.min = 0 := by decide
 have h2 : IntKind.u8.max = 255 := by decide
 obtain ⟨a, b⟩ := h x hx
 rw [h1] at a; rw [h2] at b
 exact ⟨a, b⟩
theorem next_ok {c : List Int} (hc : byteL c) {at_ seed : Int} (h0 : 0 ≤ at_) (h1 : at_ ≤ 4611686018427387904) :
 ∃ v seed', spec_l00Src_next.f ⟨c, at_, seed⟩ = some (v, ⟨c, at_ + 1, seed'⟩) ∧ 0 ≤ v ∧ v ≤ 255 := by
 have e1 : IntKind.i64.wrap (at_ + 1) = at_ + 1 := w64 (by omega) (by omega)
 have hb : ∀ y, 0 ≤ IntKind.i64.wrap (andI .u64 y 255) ∧ IntKind.i64.wrap (andI .u64 y 255) ≤ 255 := by
   intro y
   have := and255 y
   rw [w64 (by omega) (by omega)]
   exact this
 unfold spec_l00Src_next.f
 simp only [e1]
 by_cases hl : at_ < (c.length : Int)
 ·obtain ⟨i, rfl⟩ := Int.eq_ofNat_of_zero_le h0
  have hi : i < c.length := by omega
  rw [if_pos hl, getI_nat hi, Option.bind_some]
  have hx := hc _ (List.getElem_mem hi)
  by_cases h2 : (i : Int) + 1 ≤ (c.length : Int)
  ·rw [if_pos h2]
   refine ⟨_, _, rfl, ?_⟩
   rw [w64 (by omega) (by omega)]
   exact hx
  rw [if_neg h2]
  exact ⟨_, _, rfl, hb _⟩
 rw [if_neg hl]
 by_cases h2 : at_ + 1 ≤ (c.length : Int)
 ·omega
 rw [if_neg h2]
 exact ⟨_, _, rfl, hb _⟩
theorem pick_ok {c : List Int} (hc : byteL c) {at_ seed : Int} (h0 : 0 ≤ at_) (h1 : at_ ≤ 1000000000000) (n : Int) :
 ∃ v at' seed', spec_l00Src_pick.f ⟨c, at_, seed⟩ n = some (v, ⟨c, at', seed'⟩) ∧ 0 ≤ v ∧ (v < n ∨ (n ≤ 1 ∧ v = 0)) ∧ at_ ≤ at' ∧ at' ≤ at_ + 2 := by
 unfold spec_l00Src_pick.f
 by_cases hn : n ≤ 1
 ·rw [if_pos hn]
  exact ⟨0, at_, seed, rfl, by omega, .inr ⟨hn, rfl⟩, by omega, by omega⟩
 rw [if_neg hn]
 obtain ⟨v, s1, e, v0, v1⟩ := next_ok hc (seed := seed) h0 (by omega)
 rw [e, Option.bind_some]
 by_cases hb : 200 < n
 ·rw [if_pos hb]
  obtain ⟨u, s2, e2, u0, u1⟩ := next_ok hc (seed := s1) (show 0 ≤ at_ + 1 by omega) (by omega)
  simp only [e2, Option.bind_some]
  rw [chk_t (show n ≠ 0 by omega), Option.bind_some, w64 (x := v * 256) (by omega) (by omega), w64 (by omega) (by omega)]
  refine ⟨_, _, _, rfl, ?_, .inl ?_, by omega, by omega⟩
  ·rw [Int.tmod_eq_emod_of_nonneg (by omega)]; exact Int.emod_nonneg _ (by omega)
  rw [Int.tmod_eq_emod_of_nonneg (by omega)]; exact Int.emod_lt_of_pos _ (by omega)
 rw [if_neg hb]
 rw [chk_t (show n ≠ 0 by omega), Option.bind_some]
 refine ⟨_, _, _, rfl, ?_, .inl ?_, by simp only; omega, by simp only; omega⟩
 ·rw [Int.tmod_eq_emod_of_nonneg (by omega)]; exact Int.emod_nonneg _ (by omega)
 rw [Int.tmod_eq_emod_of_nonneg (by omega)]; exact Int.emod_lt_of_pos _ (by omega)
end Go.Proofs.YtplfdbfdalaefaaGreatDoor
namespace Go.Proofs.YtplfdbfdalaefaaGreatDoor
open G
set_option linter.unusedVariables false
set_option linter.unusedSimpArgs false
set_option maxRecDepth 100000
theorem andNot_in (x y : Int) : 0 ≤ andNotI .u16 x y ∧ andNotI .u16 x y ≤ 65535 := by
 unfold andNotI
 have h := wu16b (B16 x &&& ~~~ B16 y)
 have := (B16 x &&& ~~~ B16 y).isLt
 have e : IntKind.u16.wrap (((BitVec.ofInt 16 x &&& ~~~BitVec.ofInt 16 y).toNat : Nat) : Int) = ((B16 x &&& ~~~ B16 y).toNat : Int) := h
 show 0 ≤ IntKind.u16.wrap (((BitVec.ofInt 16 x &&& ~~~BitVec.ofInt 16 y).toNat : Nat) : Int) ∧ IntKind.u16.wrap (((BitVec.ofInt 16 x &&& ~~~BitVec.ofInt 16 y).toNat : Nat) : Int) ≤ 65535
 rw [e]; omega
theorem bit_clear {m : Int} (h : 0 ≤ m) (h' : m ≤ 65535) {i : Nat} (hi : i < 16) {j : Nat} (hj : j < 16) : bitN (andNotI .u16 m (shlI .u16 1 (i : Int))) j = (bitN m j && !decide (i = j)) := by
 obtain ⟨a, b⟩ := andNot_in m (shlI .u16 1 (i : Int))
 rw [← bit_lsb a b hj, B_andNot, BitVec.getLsbD_and, BitVec.getLsbD_not, bit_lsb h h' hj, one_bit hi hj]
 simp [hj]
theorem bit_put {m : Int} (h : 0 ≤ m) (h' : m ≤ 65535) {i : Nat} (hi : i < 16) {j : Nat} (hj : j < 16) : bitN (orI .u16 m (shlI .u16 1 (i : Int))) j = (bitN m j || decide (i = j)) := by
 rw [or_bit ⟨h, h'⟩ (one_in hi) hj, one_bitN hi hj]
theorem getD_at (y : List Int) {p : Nat} (hp : p < y.length) : y.getD p 0 = y[p] := by simp [List.getD_eq_getElem?_getD, List.getElem?_eq_getElem hp]
theorem set_getD (y : List Int) {p q : Nat} (g : Int) (hq : q < y.length) (hp : p < y.length) : (y.set p g).getD q 0 = if p = q then g else y.getD q 0 := by
 rw [getD_at _ (by simpa using hq), getD_at _ hq, List.getElem_set]
theorem getI_set_ne {F : List Int} {a b : Nat} (hb : b < F.length) (hn : a ≠ b) (x : Int) : getI (F.set a x) (b : Int) = some F[b] := by
 rw [getI_nat (by simpa using hb), List.getElem_set_ne hn]
theorem getI_set2 {F : List Int} {a b : Nat} (ha : a < F.length) (hn : a ≠ b) (x y : Int) : getI ((F.set a x).set b y) (a : Int) = some x := by
 rw [getI_nat (by simpa using ha), List.getElem_set_ne (Ne.symm hn), List.getElem_set_self]
theorem put_ok (N : List ByteArray) (E : List Int) {F : List Int} (hl : F.length ≤ 14) (hF : ∀ x ∈ F, 0 ≤ x ∧ x ≤ 65535) {a b : Nat} (ha : a < F.length) (hb : b < F.length) (hn : a ≠ b) (f : Bool) :
 ∃ r : List Int, spec_l06Put.f ⟨N, E, F⟩ (a : Int) (b : Int) f = some r ∧ r.length = F.length ∧ (∀ x ∈ r, 0 ≤ x ∧ x ≤ 65535) ∧ ∀ i j, i < F.length → j < 16 → bitN (r.getD i 0) j = if (i = a ∧ j = b) ∨ (i = b ∧ j = a) then f else bitN (F.getD i 0) j := by
 have ua : IntKind.u64.wrap (a : Int) = (a : Int) := wu64 (by omega) (by omega)
 have ub : IntKind.u64.wrap (b : Int) = (b : Int) := wu64 (by omega) (by omega)
 have ca : chk (0 ≤ (IntKind.u64.wrap (a : Int))) = some () := chkT (by rw [ua]; omega)
 have cb : chk (0 ≤ (IntKind.u64.wrap (b : Int))) = some () := chkT (by rw [ub]; omega)
 obtain ⟨fa0, fa1⟩ := hF _ (List.getElem_mem ha)
 obtain ⟨fb0, fb1⟩ := hF _ (List.getElem_mem hb)
 have ea : F.getD a 0 = F[a] := getD_at F ha
 have eb : F.getD b 0 = F[b] := getD_at F hb
 obtain ⟨u0, u1⟩ := andNot_in F[a] (shlI .u16 1 (b : Int))
 obtain ⟨v0, v1⟩ := andNot_in F[b] (shlI .u16 1 (a : Int))
 unfold spec_l06Put.f
 simp only [getI_nat ha, ca, cb, ua, ub, Option.bind_some, Int.toNat_natCast, getI_set_ne hb hn]
 have hin : ∀ {G : List Int} {i : Nat} {x : Int}, (∀ z ∈ G, 0 ≤ z ∧ z ≤ 65535) → (0 ≤ x ∧ x ≤ 65535) → ∀ z ∈ G.set i x, 0 ≤ z ∧ z ≤ 65535 := fun hG hx z hz => by
   rcases List.mem_or_eq_of_mem_set hz with hz | rfl
   · exact hG z hz
   · exact hx
 cases f
 ·rw [if_neg (by simp)]
  refine ⟨_, rfl, by simp, hin (hin hF ⟨u0, u1⟩) ⟨v0, v1⟩, fun i j hi hj => ?_⟩
  rw [set_getD _ _ (by simpa using hi) (by simpa using hb), set_getD _ _ hi ha]
  by_cases e1 : b = i
  ·subst e1
   rw [if_pos rfl, bit_clear fb0 fb1 (by omega) hj, eb]
   by_cases e2 : a = j
   ·subst e2; simp
   rw [if_neg (by rintro (⟨h1, _⟩ | ⟨_, h2⟩); exact hn h1.symm; exact e2 h2.symm)]; simp [e2]
  rw [if_neg e1]
  by_cases e2 : a = i
  ·subst e2
   rw [if_pos rfl, bit_clear fa0 fa1 (by omega) hj, ea]
   by_cases e3 : b = j
   ·subst e3; simp
   rw [if_neg (by rintro (⟨_, h2⟩ | ⟨h1, _⟩); exact e3 h2.symm; exact hn h1)]; simp [e3]
  rw [if_neg e2, if_neg (by rintro (⟨h1, _⟩ | ⟨h1, _⟩); exact e2 h1.symm; exact e1 h1.symm)]
 rw [if_pos rfl]
 have g1 : getI ((F.set a (andNotI .u16 F[a] (shlI .u16 1 (b : Int)))).set b (andNotI .u16 F[b] (shlI .u16 1 (a : Int)))) (a : Int) = some (andNotI .u16 F[a] (shlI .u16 1 (b : Int))) := getI_set2 ha hn _ _
 simp only [g1, Option.bind_some]
 have g2 : getI (((F.set a (andNotI .u16 F[a] (shlI .u16 1 (b : Int)))).set b (andNotI .u16 F[b] (shlI .u16 1 (a : Int)))).set a (orI .u16 (andNotI .u16 F[a] (shlI .u16 1 (b : Int))) (shlI .u16 1 (b : Int)))) (b : Int) = some (andNotI .u16 F[b] (shlI .u16 1 (a : Int))) := by
   rw [getI_nat (by simpa using hb), List.getElem_set_ne hn, List.getElem_set_self]
 simp only [g2, Option.bind_some]
 obtain ⟨p0, p1⟩ := or_in (andNotI .u16 F[a] (shlI .u16 1 (b : Int))) (shlI .u16 1 (b : Int))
 obtain ⟨q0, q1⟩ := or_in (andNotI .u16 F[b] (shlI .u16 1 (a : Int))) (shlI .u16 1 (a : Int))
 refine ⟨_, rfl, by simp, hin (hin (hin (hin hF ⟨u0, u1⟩) ⟨v0, v1⟩) ⟨p0, p1⟩) ⟨q0, q1⟩, fun i j hi hj => ?_⟩
 rw [set_getD _ _ (by simpa using hi) (by simpa using hb), set_getD _ _ (by simpa using hi) (by simpa using ha), set_getD _ _ (by simpa using hi) (by simpa using hb), set_getD _ _ hi ha]
 by_cases e1 : b = i
 ·subst e1
  rw [if_pos rfl, bit_put v0 v1 (by omega) hj, bit_clear fb0 fb1 (by omega) hj, eb]
  by_cases e2 : a = j
  ·subst e2; simp
  rw [if_neg (by rintro (⟨h1, _⟩ | ⟨_, h2⟩); exact hn h1.symm; exact e2 h2.symm)]; simp [e2]
 rw [if_neg e1, if_neg e1]
 by_cases e2 : a = i
 ·subst e2
  rw [if_pos rfl, bit_put u0 u1 (by omega) hj, bit_clear fa0 fa1 (by omega) hj, ea]
  by_cases e3 : b = j
  ·subst e3; simp
  rw [if_neg (by rintro (⟨_, h2⟩ | ⟨h1, _⟩); exact e3 h2.symm; exact hn h1)]; simp [e3]
 rw [if_neg e2, if_neg e2, if_neg (by rintro (⟨h1, _⟩ | ⟨h1, _⟩); exact e2 h1.symm; exact e1 h1.symm)]
def Foed (F : List Int) : Prop := (∀ x ∈ F, 0 ≤ x ∧ x ≤ 65535) ∧ ∀ i j, i < F.length → j < 16 → bitN (F.getD i 0) j = true → j < F.length ∧ i ≠ j ∧ bitN (F.getD j 0) i = true
theorem bit_none (j : Nat) : bitN 0 j = false := by
 unfold bitN shrI
 rw [Int.zero_fdiv]; rfl
theorem foed_snoc {F : List Int} (h : Foed F) : Foed (F ++ [0]) := by
 refine ⟨fun x hx => ?_, fun i j hi hj hb => ?_⟩
 ·rcases List.mem_append.1 hx with hx | hx
  ·exact h.1 x hx
  rw [List.mem_singleton.1 hx]; omega
 have e : ∀ k, (F ++ [0]).getD k 0 = F.getD k 0 := fun k => by
   by_cases hk : k < F.length
   · simp [List.getD_eq_getElem?_getD, List.getElem?_append_left hk]
   · simp only [List.getD_eq_getElem?_getD, List.getElem?_append_right (show F.length ≤ k by omega), List.getElem?_eq_none (show F.length ≤ k by omega)]
     rcases Nat.eq_zero_or_pos (k - F.length) with h0 | h0
     · simp [h0]
     · rw [List.getElem?_eq_none (by simp; omega)]
 rw [e] at hb ⊢
 rw [List.length_append, List.length_singleton] at hi ⊢
 by_cases hk : i < F.length
 ·obtain ⟨a, b, c⟩ := h.2 i j hk hj hb
  exact ⟨by omega, b, c⟩
 rw [show F.getD i 0 = 0 by simp [List.getD_eq_getElem?_getD, List.getElem?_eq_none (show F.length ≤ i by omega)], bit_none] at hb
 cases hb
theorem foed_zero (n : Nat) : Foed (List.replicate n 0) := by
 refine ⟨fun x hx => by rw [(List.mem_replicate.1 hx).2]; omega, fun i j hi hj hb => ?_⟩
 rw [getD_at _ hi, List.getElem_replicate, bit_none] at hb; cases hb
theorem foed_put {F r : List Int} (hl : F.length ≤ 14) (h : Foed F) {a b : Nat} (ha : a < F.length) (hb : b < F.length) (hn : a ≠ b) {f : Bool} (hr : r.length = F.length) (hr1 : ∀ x ∈ r, 0 ≤ x ∧ x ≤ 65535) (hr2 : ∀ i j, i < F.length → j < 16 → bitN (r.getD i 0) j = if (i = a ∧ j = b) ∨ (i = b ∧ j = a) then f else bitN (F.getD i 0) j) : Foed r := by
 refine ⟨hr1, fun i j hi hj hbit => ?_⟩
 rw [hr] at hi ⊢
 rw [hr2 i j hi hj] at hbit
 by_cases hc : (i = a ∧ j = b) ∨ (i = b ∧ j = a)
 ·rw [if_pos hc] at hbit
  have hjl : j < F.length := by rcases hc with ⟨_, h2⟩ | ⟨_, h2⟩ <;> omega
  refine ⟨hjl, by rcases hc with ⟨h1, h2⟩ | ⟨h1, h2⟩ <;> omega, ?_⟩
  rw [hr2 j i hjl (by omega), if_pos (by rcases hc with ⟨h1, h2⟩ | ⟨h1, h2⟩; exact .inr ⟨h2, h1⟩; exact .inl ⟨h2, h1⟩)]
  exact hbit
 rw [if_neg hc] at hbit
 obtain ⟨q1, q2, q3⟩ := h.2 i j hi hj hbit
 refine ⟨q1, q2, ?_⟩
 rw [hr2 j i q1 (by omega), if_neg (by rintro (⟨h1, h2⟩ | ⟨h1, h2⟩); exact hc (.inr ⟨h2, h1⟩); exact hc (.inl ⟨h2, h1⟩))]
 exact q3
theorem set_ok (N : List ByteArray) (E : List Int) {F : List Int} (hl : F.length ≤ 14) (h : Foed F) {a b : Nat} (ha : a < F.length) (hb : b < F.length) (hn : a ≠ b) (f : Bool) :
 ∃ r : List Int, impl_Herd_set.f ⟨N, E, F⟩ (a : Int) (b : Int) f = some r ∧ r.length = F.length ∧ Foed r ∧ bitN (r.getD a 0) b = f ∧ bitN (r.getD b 0) a = f := by
 obtain ⟨r, h1, h2, h3, h4⟩ := put_ok N E hl h.1 ha hb hn f
 obtain ⟨r', _, g2, g3⟩ := put_eq (h := ⟨N, E, F⟩) ha hb hn (show F.length ≤ 4294967296 by omega) f
 obtain rfl := Option.some.inj (h1.symm.trans g2)
 exact ⟨r, g3, h2, foed_put hl h ha hb hn h2 h3 h4, by rw [h4 a b ha (by omega), if_pos (.inl ⟨rfl, rfl⟩)], by rw [h4 b a hb (by omega), if_pos (.inr ⟨rfl, rfl⟩)]⟩
theorem shr_zero {m : Int} (h : 0 ≤ m) (h' : m ≤ 65535) {n : Nat} (hn : n ≤ 16) (hb : ∀ j, n ≤ j → j < 16 → bitN m j = false) : shrI .u16 m (n : Int) = 0 := by
 obtain ⟨z, rfl⟩ := Int.eq_ofNat_of_zero_le h
 rw [shr_nat hn]
 have hlt : z < 2 ^ n := by
   apply Nat.lt_pow_two_of_testBit
   intro j hj
   by_cases h1 : j < 16
   · rw [← bit_nat (by omega) (by omega)]; exact hb j hj h1
   · exact Nat.testBit_lt_two_pow (Nat.lt_of_lt_of_le (show z < 2 ^ 16 by omega) (Nat.pow_le_pow_right (by omega) (by omega)))
 rw [Nat.div_eq_of_lt hlt]; rfl
structure OKH (N : List ByteArray) (E F : List Int) : Prop where
  le : E.length = N.length
  lf : F.length = N.length
  nms : ∀ x ∈ N, nameB x = true
  nd : N.Nodup
  eat : ∀ x ∈ E, 0 ≤ x ∧ x ≤ 100
  foe : Foed F
theorem OKH.valid {N : List ByteArray} {E F : List Int} (h : OKH N E F) (hl : N.length ≤ 14) : VHerd ⟨N, E, F⟩ ∧ vH ⟨N, E, F⟩ = true := by
 have hm : maxLen ≥ 8 := by decide
 have i16 : IntKind.i16.min = -32768 ∧ IntKind.i16.max = 32767 := by decide
 have u16' : IntKind.u16.min = 0 ∧ IntKind.u16.max = 65535 := by decide
 have hnm : ∀ i (hi : i < N.length), nm ⟨N, E, F⟩ i = N[i] := fun i hi => by
   unfold nm
   simp only [List.getD_eq_getElem?_getD, List.getElem?_eq_getElem hi, Option.getD_some]
 refine ⟨⟨fun z hz => ?_, by show N.length ≤ _; omega, fun z hz => ?_, by show E.length ≤ _; have := h.le; omega, fun z hz => ?_, by show F.length ≤ _; have := h.lf; omega⟩, ?_⟩
 ·have := h.nms z hz
  unfold nameB at this
  rw [Bool.and_eq_true, decide_eq_true_eq] at this
  show z.size ≤ maxLen
  omega
 ·have := h.eat z hz
  unfold inI
  rw [i16.1, i16.2]; omega
 ·have := h.foe.1 z hz
  unfold inI
  rw [u16'.1, u16'.2]; exact this
 unfold vH
 rw [Bool.and_eq_true, decide_eq_true_eq, upA_iff]
 refine ⟨⟨hl, h.le, h.lf⟩, fun i _ hi => ?_⟩
 have hi : i < N.length := by have : i < 0 + N.length := hi; omega
 have hiF : i < F.length := by have := h.lf; omega
 have hfi : foes ⟨N, E, F⟩ i = F.getD i 0 := rfl
 have hin : 0 ≤ F.getD i 0 ∧ F.getD i 0 ≤ 65535 := by rw [getD_at F hiF]; exact h.foe.1 _ (List.getElem_mem hiF)
 rw [Bool.and_eq_true, upA_iff]
 refine ⟨?_, fun k _ hk => ?_⟩
 ·unfold okI
  rw [hnm i hi, h.nms _ (List.getElem_mem hi), Bool.true_and]
  simp only [Bool.and_eq_true, decide_eq_true_eq, Bool.not_eq_true']
  refine ⟨?_, ?_, ?_⟩
  ·have hiE : i < E.length := by have := h.le; omega
   have : eats ⟨N, E, F⟩ i = E[i] := by unfold eats; simp [List.getD_eq_getElem?_getD, List.getElem?_eq_getElem hiE]
   rw [this]
   exact h.eat _ (List.getElem_mem hiE)
  ·rw [hfi]
   refine shr_zero hin.1 hin.2 (by show N.length ≤ 16; omega) fun j hj hj2 => ?_
   cases hb : bitN (F.getD i 0) j
   ·rfl
   have := (h.foe.2 i j hiF hj2 hb).1
   have : j < N.length := by have := h.lf; omega
   have hj : N.length ≤ j := hj
   omega
  rw [foeB_bit, hfi]
  cases hb : bitN (F.getD i 0) i
  ·rfl
  exact absurd rfl (h.foe.2 i i hiF (by omega) hb).2.1
 have hk : k < i := by omega
 have hkn : k < N.length := by omega
 unfold prB symB
 rw [Bool.and_eq_true, Bool.not_eq_true']
 refine ⟨decide_eq_false ?_, ?_⟩
 ·rw [hnm k hkn, hnm i hi]
  exact List.pairwise_iff_getElem.1 h.nd k i hkn hi hk
 rw [foeB_bit, foeB_bit, hfi, show foes ⟨N, E, F⟩ k = F.getD k 0 from rfl]
 rw [beq_iff_eq, Bool.eq_iff_iff]
 exact ⟨fun hb => (h.foe.2 i k hiF (by omega) hb).2.2, fun hb => (h.foe.2 k i (by omega) (by omega) hb).2.2⟩
theorem OKH.of {h : Herd} (v : VHerd h) (hv : vH h = true) : OKH h.Names h.Eats h.Foes := by
 obtain ⟨n1, n2, n3⟩ := vH_len hv
 have hnm : ∀ i (hi : i < h.Names.length), nm h i = h.Names[i] := fun i hi => by
   unfold nm
   simp only [List.getD_eq_getElem?_getD, List.getElem?_eq_getElem hi, Option.getD_some]
 refine ⟨n2, n3, fun x hx => ?_, List.pairwise_iff_getElem.2 fun i j hi hj hij => ?_, fun x hx => ?_, fun x hx => u16b (v.2.2.2.2.1 x hx), fun i j hi hj hb => ?_⟩
 ·obtain ⟨i, hi, rfl⟩ := List.getElem_of_mem hx
  have := (vH_ok hv hi).1
  unfold okI at this
  rw [Bool.and_eq_true, hnm i hi] at this
  exact this.1
 ·have := (vH_ok hv hj).2 i hij
  unfold prB at this
  rw [Bool.and_eq_true, Bool.not_eq_true', hnm i hi, hnm j hj] at this
  exact of_decide_eq_false this.1
 ·obtain ⟨i, hi, rfl⟩ := List.getElem_of_mem hx
  have := (vH_ok hv (show i < h.Names.length by omega)).1
  unfold okI at this
  simp only [Bool.and_eq_true, decide_eq_true_eq] at this
  have e : eats h i = h.Eats[i] := by unfold eats; simp [List.getD_eq_getElem?_getD, List.getElem?_eq_getElem hi]
  rw [← e]; exact this.2.1
 have hi' : i < h.Names.length := by omega
 have hb : bitN (foes h i) j = true := hb
 have hj' : j < h.Names.length := Classical.byContradiction fun hno => by
   rw [foes_high v hv hi' (by omega)] at hb; cases hb
 refine ⟨by omega, fun e => ?_, ?_⟩
 ·subst e
  have := (vH_ok hv hi').1
  unfold okI at this
  simp only [Bool.and_eq_true, Bool.not_eq_true', foeB_bit] at this
  rw [this.2.2.2] at hb; cases hb
 have := foe_sym hv hi' hj'
 rw [foeB_bit, foeB_bit, hb] at this
 exact this.symm
def NAMES : List ByteArray := [(⟨#[97, 100, 97]⟩ : ByteArray), (⟨#[98, 101, 108]⟩ : ByteArray), (⟨#[99, 121, 100]⟩ : ByteArray), (⟨#[100, 111, 116]⟩ : ByteArray), (⟨#[101, 118, 97]⟩ : ByteArray), (⟨#[102, 97, 121]⟩ : ByteArray), (⟨#[103, 105, 108]⟩ : ByteArray), (⟨#[104, 111, 98]⟩ : ByteArray), (⟨#[105, 118, 111]⟩ : ByteArray), (⟨#[106, 97, 110]⟩ : ByteArray), (⟨#[107, 105, 116]⟩ : ByteArray), (⟨#[108, 111, 117]⟩ : ByteArray), (⟨#[109, 97, 120]⟩ : ByteArray), (⟨#[110, 97, 110]⟩ : ByteArray)]
theorem names_ok : ∀ i : Fin 14, nameB (NAMES.getD i ByteArray.empty) = true := by decide +kernel
theorem names_ne : ∀ i j : Fin 14, NAMES.getD i ByteArray.empty = NAMES.getD j ByteArray.empty → i = j := by decide +kernel
def zoe : ByteArray := ⟨#[122, 111, 101]⟩
theorem names_zoe : ∀ i : Fin 14, NAMES.getD i ByteArray.empty ≠ zoe := by decide +kernel
theorem zoe_ok : nameB zoe = true := by decide +kernel
def nmOf (first i : Nat) : ByteArray := NAMES.getD ((first + i) % 14) ByteArray.empty
theorem nmOf_ok (first i : Nat) : nameB (nmOf first i) = true := names_ok ⟨(first + i) % 14, Nat.mod_lt _ (by omega)⟩
theorem nmOf_ne {first i j : Nat} (hi : i < 14) (hj : j < 14) (e : nmOf first i = nmOf first j) : i = j := by
 have := names_ne ⟨(first + i) % 14, Nat.mod_lt _ (by omega)⟩ ⟨(first + j) % 14, Nat.mod_lt _ (by omega)⟩ e
 have := congrArg Fin.val this
 simp only at this
 omega
structure Drawn (first : Nat) (N : List ByteArray) (E F : List Int) : Prop where
  le : E.length = N.length
  lf : F.length = N.length
  nm : ∀ i (h : i < N.length), N[i] = nmOf first i
  eat : ∀ x ∈ E, 0 ≤ x ∧ x ≤ 100
  foe : Foed F
theorem Drawn.okh {first : Nat} {N : List ByteArray} {E F : List Int} (h : Drawn first N E F) (hl : N.length ≤ 14) : OKH N E F := by
 refine ⟨h.le, h.lf, fun x hx => ?_, List.pairwise_iff_getElem.2 fun i j hi hj hij e => ?_, h.eat, h.foe⟩
 ·obtain ⟨i, hi, rfl⟩ := List.getElem_of_mem hx
  rw [h.nm i hi]; exact nmOf_ok _ _
 rw [h.nm i hi, h.nm j hj] at e
 have := nmOf_ne (by omega) (by omega) e
 omega
theorem among_ok {c : List Int} (hc : byteL c) {at_ seed : Int} (h0 : 0 ≤ at_) (h1 : at_ ≤ 1000000000000) (l : List Int) (hl : 1 ≤ l.length) (hl2 : l.length ≤ 200) :
 ∃ v at' seed', spec_l00Src_among.f ⟨c, at_, seed⟩ l = some (v, ⟨c, at', seed'⟩) ∧ v ∈ l ∧ at_ ≤ at' ∧ at' ≤ at_ + 2 := by
 obtain ⟨i, a, s, e, i0, i1, q1, q2⟩ := pick_ok hc (seed := seed) h0 h1 (l.length : Int)
 have hi : i.toNat < l.length := by omega
 have hg : getI l i = some l[i.toNat] := by
   have := getI_nat hi
   rwa [show ((i.toNat : Nat) : Int) = i by omega] at this
 refine ⟨l[i.toNat], a, s, ?_, List.getElem_mem hi, q1, q2⟩
 unfold spec_l00Src_among.f
 rw [e, Option.bind_some, hg]
 rfl
theorem one_ok {c : List Int} (hc : byteL c) {at_ seed : Int} (h0 : 0 ≤ at_) (h1 : at_ ≤ 1000000000000) (n : Int) :
 ∃ v at' seed', spec_l00Src_one.f ⟨c, at_, seed⟩ n = some (v, ⟨c, at', seed'⟩) ∧ at_ ≤ at' ∧ at' ≤ at_ + 2 := by
 obtain ⟨i, a, s, e, i0, i1, q1, q2⟩ := pick_ok hc (seed := seed) h0 h1 n
 refine ⟨decide (i = 0), a, s, ?_, q1, q2⟩
 unfold spec_l00Src_one.f
 rw [e]
 rfl
theorem drawn2_loop {c : List Int} (hc : byteL c) (t4 : Int × l00Src) (t47 : Int × l00Src) (y21 : List ByteArray) (y24 : List Int) (t41 : ByteArray) {i : Nat} (hi : i < 14) : ∀ k, k ≤ i → ∀ (F : List Int) (at_ seed : Int), F.length = i + 1 → Foed F → 0 ≤ at_ → at_ + 4 * ((i : Int) - k) ≤ 100000 →
 ∃ r at' seed', Ev (fun f => spec_l06Drawn.l2 ⟨c, 0, 0⟩ t4 (i : Int) y21 y24 t41 t47 f F (k : Int) at_ seed) (r, at', seed') ∧ r.length = i + 1 ∧ Foed r ∧ at_ ≤ at' ∧ at' ≤ at_ + 4 * ((i : Int) - k) := by
 refine upL ?_ ?_
 ·intro F at_ seed hl hf h0 h1
  exact ⟨F, at_, seed, Ev.step (fun k => spec_l06Drawn.l2.eq_2 _ _ _ _ _ _ _ _ _ _ _ _) (Ev.neg (by omega) (Ev.const rfl)), hl, hf, by omega, by omega⟩
 intro k hk ih F at_ seed hl hf h0 h1
 obtain ⟨b, a1, s1, e1, q1, q2⟩ := one_ok hc (seed := seed) h0 (by omega) (IntKind.i64.wrap (1 + t4.1))
 obtain ⟨r, e2, r1, r2, r3⟩ := put_ok (y21 ++ ([t41] : List ByteArray)) (y24 ++ ([IntKind.i16.wrap t47.1] : List Int)) (F := F) (by omega) hf.1 (a := i) (b := k) (by omega) (by omega) (by omega) b
 obtain ⟨z, a2, s2, z1, z2, z3, z4, z5⟩ := ih r a1 s1 (by omega) (foed_put (by omega) hf (by omega) (by omega) (by omega) r1 r2 r3) (by omega) (by omega)
 rw [← wsucc hk (by omega)] at z1
 exact ⟨z, a2, s2, Ev.step (fun k => spec_l06Drawn.l2.eq_2 _ _ _ _ _ _ _ _ _ _ _ _) (Ev.pos (by omega) (Ev.bind (Ev.const e1) (Ev.bind (Ev.const e2) z1))), z2, z3, by omega, by omega⟩
theorem drawn_loop {c : List Int} (hc : byteL c) (t4 : Int × l00Src) {t5 t6 : Int × l00Src} {first n : Nat} (h5 : t5.1 = (first : Int)) (hf : first < 14) (h6 : t6.1 = (n : Int)) (hn : n ≤ 7) : ∀ i, i ≤ n → ∀ (N : List ByteArray) (E F : List Int) (at_ seed : Int), N.length = i → Drawn first N E F → 0 ≤ at_ → at_ + 100 * ((n : Int) - i) ≤ 100000 →
 ∃ N' E' F' at' seed', Ev (fun k => spec_l06Drawn.l1 ⟨c, 0, 0⟩ t4 t5 t6 k (i : Int) at_ seed N E F) (N', E', F', at', seed') ∧ N'.length = n ∧ Drawn first N' E' F' := by
 refine upL ?_ ?_
 ·intro N E F at_ seed hl hD h0 h1
  exact ⟨N, E, F, at_, seed, Ev.step (fun k => spec_l06Drawn.l1.eq_2 _ _ _ _ _ _ _ _ _ _ _) (Ev.neg (by omega) (Ev.const rfl)), hl, hD⟩
 intro i hi ih N E F at_ seed hl hD h0 h1
 have hlE := hD.le
 have hlF := hD.lf
 obtain ⟨e, a1, s1, e1, em, q1, q2⟩ := among_ok hc (seed := seed) h0 (by omega) [0, 3, 5, 7, 100] (by simp) (by simp)
 have he : 0 ≤ e ∧ e ≤ 100 := by
   simp only [List.mem_cons, List.not_mem_nil, or_false] at em
   omega
 have ew : IntKind.i16.wrap e = e := w16 (by omega) (by omega)
 have hmod : Int.tmod (IntKind.i64.wrap (t5.1 + (i : Int))) 14 = (((first + i) % 14 : Nat) : Int) := by
   rw [h5, w64 (by omega) (by omega), Int.tmod_eq_emod_of_nonneg (by omega)]; omega
 have hNl : (first + i) % 14 < NAMES.length := Nat.mod_lt _ (by decide)
 have hname : getI NAMES (Int.tmod (IntKind.i64.wrap (t5.1 + (i : Int))) 14) = some (nmOf first i) := by
   rw [hmod, getI_nat hNl]
   unfold nmOf
   simp [List.getD_eq_getElem?_getD, List.getElem?_eq_getElem hNl]
 obtain ⟨r, a2, s2, z1, z2, z3, z4, z5⟩ := drawn2_loop hc t4 (e, ⟨c, a1, s1⟩) N E (nmOf first i) (i := i) (by omega) 0 (Nat.zero_le _) (F ++ [0]) a1 s1 (by simp; omega) (foed_snoc hD.foe) (by omega) (by omega)
 have hD' : Drawn first (N ++ [nmOf first i]) (E ++ [IntKind.i16.wrap e]) r := by
   refine ⟨by simp; omega, by simp; omega, fun j hj => ?_, fun x hx => ?_, z3⟩
   · rw [List.length_append, List.length_singleton] at hj
     by_cases h1 : j < N.length
     · rw [List.getElem_append_left h1]; exact hD.nm j h1
     · obtain rfl : j = i := by omega
       rw [List.getElem_append_right (by omega)]; simp
   · rcases List.mem_append.1 hx with hx | hx
     · exact hD.eat x hx
     · rw [List.mem_singleton.1 hx, ew]; exact he
 obtain ⟨N', E', F', a3, s3, y1, y2, y3⟩ := ih (N ++ [nmOf first i]) (E ++ [IntKind.i16.wrap e]) r a2 s2 (by simp; omega) hD' (by omega) (by omega)
 rw [← wsucc hi (by omega)] at y1
 refine ⟨N', E', F', a3, s3, Ev.step (fun k => spec_l06Drawn.l1.eq_2 _ _ _ _ _ _ _ _ _ _ _) (Ev.pos (by omega) (Ev.bind (a := (N ++ [nmOf first i], E ++ [IntKind.i16.wrap e], r, a2, s2)) ?_ y1)), y2, y3⟩
 refine Ev.bind (Ev.const hname) (Ev.bind (Ev.const (chkT (by simp; omega))) (Ev.bind (Ev.const e1) (Ev.bind (Ev.const (chkT (by simp; omega))) (Ev.bind (Ev.const (chkT (by simp; omega))) (Ev.bind z1 (Ev.const rfl))))))
theorem herd_ev {c : List Int} (hc : byteL c) : ∃ h : Herd, VHerd h ∧ vH h = true ∧ h.Names.length ≤ 7 ∧ hasS h.Names zoe = false ∧ Ev (fun k => spec_A2Herd.f k c) h := by
 obtain ⟨u, a1, s1, e1, u0, u1, q1, q1'⟩ := pick_ok hc (at_ := 0) (seed := 0) (by omega) (by omega) 5
 obtain ⟨f, a2, s2, e2, f0, f1, q2, q2'⟩ := pick_ok hc (at_ := a1) (seed := s1) (by omega) (by omega) 14
 obtain ⟨n, a3, s3, e3, n0, n1, q3, q3'⟩ := pick_ok hc (at_ := a2) (seed := s2) (by omega) (by omega) 8
 obtain ⟨first, rfl⟩ := Int.eq_ofNat_of_zero_le f0
 obtain ⟨m, rfl⟩ := Int.eq_ofNat_of_zero_le n0
 obtain ⟨N, E, F, a4, s4, z1, z2, z3⟩ := drawn_loop hc (u, ⟨c, a1, s1⟩) (t5 := ((first : Int), ⟨c, a2, s2⟩)) (t6 := ((m : Int), ⟨c, a3, s3⟩)) (first := first) (n := m) rfl (by omega) rfl (by omega) 0 (Nat.zero_le _) [] [] [] a3 s3 rfl ⟨rfl, rfl, fun i h => by simp at h, by simp, by simp, fun i j h => by simp at h⟩ (by omega) (by omega)
 obtain ⟨v1, v2⟩ := (z3.okh (by omega)).valid (by omega)
 refine ⟨⟨N, E, F⟩, v1, v2, by show N.length ≤ 7; omega, ?_, ?_⟩
 ·cases hz : hasS N zoe
  ·rfl
  obtain ⟨i, hi, e⟩ := List.getElem_of_mem ((hasS_iff _ _).1 hz)
  rw [z3.nm i hi] at e
  exact absurd e (names_zoe ⟨(first + i) % 14, Nat.mod_lt _ (by omega)⟩)
 unfold spec_A2Herd.f spec_l00From.f
 simp only [Option.bind_some]
 refine Ev.bind (a := (⟨N, E, F⟩, ⟨c, a4, s4⟩)) ?_ (Ev.const rfl)
 unfold spec_l06Drawn.f
 have w8 : IntKind.i64.wrap (7 + 1) = 8 := by rw [w64 (by omega) (by omega)]; rfl
 refine Ev.bind (Ev.const e1) (Ev.bind (Ev.const e2) ?_)
 rw [w8]
 exact Ev.bind (Ev.const e3) (z1.bind (Ev.const rfl))
end Go.Proofs.YtplfdbfdalaefaaGreatDoor
