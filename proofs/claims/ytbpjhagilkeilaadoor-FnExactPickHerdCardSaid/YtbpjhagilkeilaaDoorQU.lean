/-
  Plain law: that two goats are foes, or not: both write it alike.
-/
import Derived.Test.YtbpjhagilkeilaaDoorQJ0
import Derived.Test.YtbpjhagilkeilaaDoorQL
namespace Go.Proofs.YtbpjhagilkeilaaDoor
open G
set_option linter.unusedVariables false
set_option linter.unusedSimpArgs false
theorem or_none (x y b : Int) : orI .u16 (andNotI .u16 x y) (shlI .u16 (IntKind.u16.wrap 0) b) = andNotI .u16 x y := by
  have h0 : shlI .u16 (IntKind.u16.wrap 0) b = 0 := by
    unfold shlI
    rw [show IntKind.u16.wrap 0 = 0 from rfl, Int.zero_mul]; rfl
  rw [h0]
  have e : andNotI .u16 x y = (((B16 x &&& ~~~ B16 y).toNat : Nat) : Int) := wu16b _
  rw [e]
  unfold orI
  have e2 : (B16 (((B16 x &&& ~~~ B16 y).toNat : Nat) : Int) ||| B16 0) = B16 x &&& ~~~ B16 y := by
    rw [B16_nat]
    show (B16 x &&& ~~~ B16 y) ||| 0#16 = _
    simp
  show IntKind.u16.wrap (((B16 (((B16 x &&& ~~~ B16 y).toNat : Nat) : Int) ||| B16 0).toNat : Nat) : Int) = _
  rw [e2]
  exact wu16b _
theorem put_eq {h : Herd} {a b : Nat} (ha : a < h.Foes.length) (hb : b < h.Foes.length) (hab : a ≠ b) (hl : h.Foes.length ≤ 4294967296) (f : Bool) : ∃ r : List Int, r.length = h.Foes.length ∧ spec_l06Put.f h (a : Int) (b : Int) f = some r ∧ impl_Herd_set.f h (a : Int) (b : Int) f = some r := by
  have ua : IntKind.u64.wrap (a : Int) = (a : Int) := wu64 (by omega) (by omega)
  have ub : IntKind.u64.wrap (b : Int) = (b : Int) := wu64 (by omega) (by omega)
  have c1 : chk (0 ≤ (a : Int)) = some () := chkT (by omega)
  have c2 : chk (0 ≤ (b : Int)) = some () := chkT (by omega)
  have g1 : getI h.Foes (a : Int) = some h.Foes[a] := getI_nat ha
  have g2 : ∀ X, getI (h.Foes.set a X) (b : Int) = some h.Foes[b] := fun X => by
    rw [getI_nat (by simpa using hb), List.getElem_set_ne hab]
  have g3 : ∀ X Y, getI ((h.Foes.set a X).set b Y) (a : Int) = some X := fun X Y => by
    rw [getI_nat (by simpa using ha), List.getElem_set_ne (Ne.symm hab), List.getElem_set_self]
  have cl : ∀ X Y Z, ((h.Foes.set a X).set b Y).set a Z = (h.Foes.set a Z).set b Y := fun X Y Z => by
    rw [List.set_comm Y Z (Ne.symm hab), List.set_set]
  have g4 : ∀ X Y, getI ((h.Foes.set a X).set b Y) (b : Int) = some Y := fun X Y => by
    rw [getI_nat (by simpa using hb), List.getElem_set_self]
  cases f
  · refine ⟨(h.Foes.set a (andNotI .u16 h.Foes[a] (shlI .u16 1 b))).set b (andNotI .u16 h.Foes[b] (shlI .u16 1 a)), by simp, ?_, ?_⟩
    · unfold spec_l06Put.f
      simp only [ua, ub, Int.toNat_natCast, g1, Option.bind_some, g2, c1, c2, Bool.false_eq_true, if_false]
    · unfold impl_Herd_set.f impl_bit.f
      simp only [Int.toNat_natCast, g1, Option.bind_some, g2, c1, c2, Bool.false_eq_true, if_false, or_none]
  · refine ⟨(h.Foes.set a (orI .u16 (andNotI .u16 h.Foes[a] (shlI .u16 1 b)) (shlI .u16 1 b))).set b (orI .u16 (andNotI .u16 h.Foes[b] (shlI .u16 1 a)) (shlI .u16 1 a)), by simp, ?_, ?_⟩
    · unfold spec_l06Put.f
      simp only [ua, ub, Int.toNat_natCast, g1, Option.bind_some, g2, c1, c2, if_true, g3, cl, g4, List.set_set]
    · unfold impl_Herd_set.f impl_bit.f
      simp only [Int.toNat_natCast, g1, Option.bind_some, g2, c1, c2, if_true, show IntKind.u16.wrap 1 = 1 from rfl]
theorem set_app {N N' : List ByteArray} {E E' F Z : List Int} {a b : Nat} (ha : a < F.length) (hb : b < F.length) (hab : a ≠ b) (f : Bool) {r : List Int} (h : impl_Herd_set.f (⟨N, E, F⟩ : Herd) (a : Int) (b : Int) f = some r) : impl_Herd_set.f (⟨N', E', F ++ Z⟩ : Herd) (a : Int) (b : Int) f = some (r ++ Z) := by
  have c1 : chk (0 ≤ (a : Int)) = some () := chkT (by omega)
  have c2 : chk (0 ≤ (b : Int)) = some () := chkT (by omega)
  have g1 : getI F (a : Int) = some F[a] := getI_nat ha
  have g2 : ∀ X, getI (F.set a X) (b : Int) = some F[b] := fun X => by
    rw [getI_nat (by simpa using hb), List.getElem_set_ne hab]
  have k1 : getI (F ++ Z) (a : Int) = some F[a] := by
    rw [getI_nat (by simp; omega), List.getElem_append_left ha]
  have s1 : ∀ X, (F ++ Z).set a X = F.set a X ++ Z := fun X => List.set_append_left _ _ ha
  have s2 : ∀ X Y, (F.set a X ++ Z).set b Y = (F.set a X).set b Y ++ Z := fun X Y => List.set_append_left _ _ (by simpa using hb)
  have k2 : ∀ X, getI (F.set a X ++ Z) (b : Int) = some F[b] := fun X => by
    rw [getI_nat (by simp; omega), List.getElem_append_left (by simpa using hb), List.getElem_set_ne hab]
  unfold impl_Herd_set.f impl_bit.f at h ⊢
  cases f
  · simp only [Int.toNat_natCast, g1, Option.bind_some, g2, c1, c2, Bool.false_eq_true, if_false] at h
    simp only [Int.toNat_natCast, k1, s1, k2, s2, Option.bind_some, c1, c2, Bool.false_eq_true, if_false]
    rw [← Option.some.inj h]
  · simp only [Int.toNat_natCast, g1, Option.bind_some, g2, c1, c2, if_true] at h
    simp only [Int.toNat_natCast, k1, s1, k2, s2, Option.bind_some, c1, c2, if_true]
    rw [← Option.some.inj h]
end Go.Proofs.YtbpjhagilkeilaaDoor
