
/-
  Plain laws: marks of herds, what is listed, and the foes of a goat.
-/
import Derived.Test.YtplfdbfdalaefaaGreatDoorQH2
namespace Go.Proofs.YtplfdbfdalaefaaGreatDoor
open G
set_option linter.unusedVariables false
set_option linter.unusedSimpArgs false
theorem chkT {p : Prop} [Decidable p] (h : p) : chk p = some () := if_pos h
/-! ### Marks -/
theorem bstr1 (b : Int) : (bstr [b]).size = 1 := by simp [bstr]
theorem markText_loop : ∀ (n : Nat) (z : Int), 0 ≤ z → z ≤ 4294967296 → z < 10 ^ n → ∀ y : ByteArray, y.size + n ≤ 4294967295 → ∃ s, Ev (fun k => laws_markText.l1 k z y) s ∧ s.size ≤ y.size + n
  | 0, z, h0, h1, h2, y, hy => ⟨y, Ev.step (fun k => laws_markText.l1.eq_2 _ _ _) (Ev.neg (by simp at h2; omega) (Ev.const rfl)), by omega⟩
  | n + 1, z, h0, h1, h2, y, hy => by
    by_cases e : 0 < z
    · have hw : IntKind.i64.wrap (Int.tdiv z 10) = z / 10 := by rw [Int.tdiv_eq_ediv_of_nonneg h0]; exact w64 (by omega) (by omega)
      obtain ⟨s, hs, hz⟩ := markText_loop n (z / 10) (by omega) (by omega) (by rw [Int.pow_succ] at h2; omega) (bstr [IntKind.u8.wrap (IntKind.i64.wrap (48 + (Int.tmod z 10)))] ++ y) (by rw [ByteArray.size_append, bstr1]; omega)
      rw [ByteArray.size_append, bstr1] at hz
      refine ⟨s, Ev.step (fun k => laws_markText.l1.eq_2 _ _ _) (Ev.pos e (Ev.bind (Ev.const (chkT (by rw [bstr1]; omega))) ?_)), by omega⟩
      rw [hw]; exact hs
    · exact ⟨y, Ev.step (fun k => laws_markText.l1.eq_2 _ _ _) (Ev.neg e (Ev.const rfl)), by omega⟩
theorem markText_ev (z : Int) (h0 : 0 ≤ z) (h1 : z ≤ 4294967296) : ∃ s, Ev (fun k => laws_markText.f k z) s := by
  by_cases e : z ≤ 0
  · exact ⟨_, Ev.pos e (Ev.const rfl)⟩
  · obtain ⟨s, hs, hz⟩ := markText_loop 10 z h0 h1 (by omega) ByteArray.empty (by simp)
    have h2 : (ByteArray.empty).size = 0 := rfl
    have h3 : (⟨#[109]⟩ : ByteArray).size = 1 := rfl
    exact ⟨_, Ev.neg e (hs.bind (Ev.bind (Ev.const (chkT (by rw [h3]; omega))) (Ev.const rfl)))⟩
theorem markStrings_ev (xs : List ByteArray) (m : Int) (h0 : 0 ≤ m) (hm : m + xs.length ≤ 4294967296) : ∃ ys : List ByteArray, Ev (fun k => laws_markStringS.f k xs m) (m + xs.length, ys) := by
  have key : ∀ i, i ≤ xs.length → ∀ ys : List ByteArray, ys.length = xs.length → ∃ r : List ByteArray, Ev (fun k => laws_markStringS.l1 xs k ys (m + (i : Int)) (i : Int)) (r, m + xs.length) := by
    refine upL ?_ ?_
    · intro ys hl
      exact ⟨ys, Ev.step (fun k => laws_markStringS.l1.eq_2 _ _ _ _ _) (Ev.neg (by omega) (Ev.const rfl))⟩
    · intro i hi ih ys hl
      obtain ⟨s, hs⟩ := markText_ev (m + (i : Int)) (by omega) (by omega)
      obtain ⟨r, hr⟩ := ih (ys.set i s) (by simpa using hl)
      refine ⟨r, Ev.step (fun k => laws_markStringS.l1.eq_2 _ _ _ _ _) (Ev.pos (by omega) (hs.bind (Ev.bind (Ev.const (getI_nat (show i < ys.length by omega))) ?_)))⟩
      rw [wsucc hi (by omega), w64 (show -9223372036854775808 ≤ m + (i : Int) + 1 by omega) (by omega), Int.toNat_natCast]
      rw [show m + ((i + 1 : Nat) : Int) = m + (i : Int) + 1 by omega] at hr
      exact hr
  obtain ⟨r, hr⟩ := key 0 (Nat.zero_le _) xs rfl
  rw [Int.natCast_zero, Int.add_zero] at hr
  exact ⟨r, hr.bind (Ev.const rfl)⟩
theorem markHerd_ev (h : Herd) (hs : smallH h) : ∃ r, Ev (fun k => laws_markHerd.f k h 1) r ∧ r.1 = 1 + h.Names.length + h.Eats.length + h.Foes.length := by
  obtain ⟨s1, s2, s3⟩ := hs
  obtain ⟨a, ha⟩ := markStrings_ev h.Names 1 (by omega) (by omega)
  have hb := laws_markInt16S_ev h.Eats (1 + h.Names.length) (by omega) (by omega)
  have hc := laws_markUint16S_ev h.Foes (1 + h.Names.length + h.Eats.length) (by omega) (by omega)
  exact ⟨_, ha.bind (Ev.bind hb (Ev.bind hc (Ev.const rfl))), rfl⟩

/-! ### What is listed -/
def bitN (m : Int) (i : Nat) : Bool := decide (andI .u16 (shrI .u16 m (i : Int)) 1 = 1)
theorem foeB_bit (h : Herd) (a b : Nat) : foeB h a b = bitN (foes h a) b := rfl
def bl (m : Int) (i n : Nat) : List Int := ((List.range' i n).filter (bitN m)).map fun j : Nat => (j : Int)
theorem bl_step (m : Int) {i n : Nat} (h : i < n) : bl m i (n - i) = (if bitN m i = true then [(i : Int)] else []) ++ bl m (i + 1) (n - (i + 1)) := by
  rw [show n - i = (n - (i + 1)) + 1 by omega]
  unfold bl
  rw [List.range'_succ, List.filter_cons]
  split <;> simp
theorem listed_loop (m : Int) : ∀ i, i ≤ 16 → ∀ ys : List Int, ys.length ≤ i → Ev (fun k => impl_listed.l1 m k ys (i : Int)) (ys ++ bl m i (16 - i)) := by
  refine upL ?_ ?_
  · intro ys h
    refine Ev.step (fun k => impl_listed.l1.eq_2 _ _ _ _) (Ev.neg (by omega) (Ev.const ?_))
    simp [bl]
  · intro i hi ih ys h
    refine Ev.step (fun k => impl_listed.l1.eq_2 _ _ _ _) (Ev.pos (by omega) (Ev.bind (Ev.const (chkT (by omega))) ?_))
    rw [wsucc hi (by omega), bl_step m hi]
    by_cases e : andI .u16 (shrI .u16 m (i : Int)) 1 = 1
    · refine Ev.pos e (Ev.bind (Ev.const (chkT (by simp; omega))) ?_)
      have := ih (ys ++ [(i : Int)]) (by simp; omega)
      rw [List.append_assoc] at this
      rw [if_pos (show bitN m i = true from decide_eq_true e)]; exact this
    · refine Ev.neg e ?_
      rw [if_neg (show ¬ bitN m i = true by simp [bitN, e])]
      exact ih ys (by omega)
theorem listed_ev (m : Int) : Ev (fun k => impl_listed.f k m) (bl m 0 16) := by
  have := listed_loop m 0 (by omega) [] (by simp)
  rw [List.nil_append] at this
  exact this.bind (Ev.const rfl)
theorem bit_high {m : Int} (h : 0 ≤ m) (h' : m ≤ 65535) {n j : Nat} (hz : shrI .u16 m (n : Int) = 0) (hj : n ≤ j) : bitN m j = false := by
  have hp : ∀ t : Nat, (0 : Int) < 2 ^ t := fun t => Int.pow_pos (by omega)
  have hz' : shrI .u16 m (j : Int) = 0 := by
    unfold shrI at hz ⊢
    rw [Int.fdiv_eq_ediv_of_nonneg _ (Int.le_of_lt (hp _))] at hz ⊢
    have h1 := Int.mul_ediv_add_emod m (2 ^ (min (n : Int).toNat IntKind.u16.bits))
    have h2 := Int.emod_lt_of_pos m (hp (min (n : Int).toNat IntKind.u16.bits))
    rw [hz, Int.mul_zero, Int.zero_add] at h1
    have h3 : (2 : Int) ^ (min (n : Int).toNat IntKind.u16.bits) ≤ 2 ^ (min (j : Int).toNat IntKind.u16.bits) := by
      exact_mod_cast Nat.pow_le_pow_right (by omega) (show min (n : Int).toNat IntKind.u16.bits ≤ min (j : Int).toNat IntKind.u16.bits by omega)
    exact Int.ediv_eq_zero_of_lt h (by omega)
  unfold bitN
  rw [hz', and1 (by omega) (by omega)]
  rfl
theorem bl_cut {m : Int} {n : Nat} (hn : n ≤ 16) (hb : ∀ j, n ≤ j → bitN m j = false) : bl m 0 16 = bl m 0 n := by
  have e : List.range' 0 16 = List.range' 0 n ++ List.range' n (16 - n) := by
    have := @List.range'_append_1 0 n (16 - n)
    rw [Nat.zero_add, show n + (16 - n) = 16 by omega] at this
    exact this.symm
  have e2 : (List.range' n (16 - n)).filter (bitN m) = [] := by
    rw [List.filter_eq_nil_iff]
    intro a ha
    rw [List.mem_range'_1] at ha
    simp [hb a ha.1]
  unfold bl
  rw [e, List.filter_append, e2, List.append_nil]
theorem bl_len (m : Int) (i n : Nat) : (bl m i n).length ≤ n := by
  unfold bl
  rw [List.length_map]
  exact Nat.le_trans (List.length_filter_le _ _) (by simp)
theorem vH_ok {h : Herd} (hv : vH h = true) {i : Nat} (hi : i < h.Names.length) : okI h i = true ∧ ∀ k, k < i → prB h i k = true := by
  unfold vH at hv
  rw [Bool.and_eq_true] at hv
  have := (upA_iff _ _ _).1 hv.2 i (Nat.zero_le _) (by omega)
  rw [Bool.and_eq_true] at this
  exact ⟨this.1, fun k hk => (upA_iff _ _ _).1 this.2 k (Nat.zero_le _) (by omega)⟩
theorem foes_high {h : Herd} (v : VHerd h) (hv : vH h = true) {a j : Nat} (ha : a < h.Names.length) (hj : h.Names.length ≤ j) : bitN (foes h a) j = false := by
  have := (vH_ok hv ha).1
  unfold okI at this
  simp only [Bool.and_eq_true, decide_eq_true_eq] at this
  exact bit_high (foes_in v a).1 (foes_in v a).2 this.2.2.1 hj
end Go.Proofs.YtplfdbfdalaefaaGreatDoor
