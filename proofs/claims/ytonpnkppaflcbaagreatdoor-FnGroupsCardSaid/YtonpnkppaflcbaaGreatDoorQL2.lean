/-
  Plain law: the largest set of goats: the loops.
-/
import Derived.Test.YtonpnkppaflcbaaGreatDoorQL
namespace Go.Proofs.YtonpnkppaflcbaaGreatDoor
open G
set_option linter.unusedVariables false
set_option linter.unusedSimpArgs false
theorem bl_snoc (m : Int) (i : Nat) : bl m 0 (i + 1) = bl m 0 i ++ (if bitN m i = true then [(i : Int)] else []) := by
  unfold bl
  rw [List.range'_concat, List.filter_append, List.map_append]
  simp only [Nat.one_mul, Nat.zero_add, List.filter_cons, List.filter_nil]
  congr 1
  split <;> simp
/-! ### The reference's -/
theorem l3_loop {h : Herd} (v : VHerd h) (f : Bool) {i : Nat} (hi : i < h.Foes.length) {ys : List Int} (hy : ∀ x ∈ ys, 0 ≤ x ∧ x ≤ 65535) (hl : ys.length ≤ 16) : ∀ j, j ≤ ys.length → ∀ b : Bool, Ev (fun k => spec_l06Largest.l3 h f ys (i : Int) k b (j : Int)) (b && (ys.drop j).all fun x => foeB h i x.toNat == f) := by
  refine upL ?_ ?_
  · intro b
    refine Ev.step (fun k => spec_l06Largest.l3.eq_2 _ _ _ _ _ _ _) (Ev.neg (by omega) (Ev.const ?_))
    rw [List.drop_length]; simp
  · intro j hj ih b
    refine Ev.step (fun k => spec_l06Largest.l3.eq_2 _ _ _ _ _ _ _) (Ev.pos (by omega) ?_)
    rw [wsucc hj (by omega), List.drop_eq_getElem_cons hj, List.all_cons]
    obtain ⟨y0, y1⟩ := hy ys[j] (List.getElem_mem hj)
    obtain ⟨z, hz⟩ := Int.eq_ofNat_of_zero_le y0
    cases b
    · exact Ev.neg (by simp) (by simpa using ih false)
    · refine Ev.pos rfl (Ev.bind (Ev.const (getI_nat hj)) ?_)
      have e : spec_l06Are.f h (i : Int) ys[j] = some (foeB h i ys[j].toNat) := by rw [hz, Int.toNat_natCast]; exact specAre_eq v hi (by omega)
      refine Ev.bind (Ev.const e) ?_
      have := ih (decide (foeB h i ys[j].toNat = f))
      rw [Bool.true_and]
      have e2 : (foeB h i ys[j].toNat == f) = decide (foeB h i ys[j].toNat = f) := by cases foeB h i ys[j].toNat <;> cases f <;> rfl
      rw [e2]
      exact this
theorem mem_bl_le {s x : Int} {n : Nat} (hn : n ≤ 16) (h : x ∈ bl s 0 n) : 0 ≤ x ∧ x ≤ 65535 := by
  obtain ⟨j, _, h2, _, rfl⟩ := mem_bl.1 h
  omega
theorem l2_loop {h : Herd} (v : VHerd h) (hv : vH h = true) (f : Bool) {s : Nat} (hs : s ≤ 65535) : ∀ i, i ≤ h.Names.length → ∃ r : List Int × Bool, Ev (fun k => spec_l06Largest.l2 h f (s : Int) k (bl (s : Int) 0 i) true (i : Int)) r ∧ r.2 = upA (okAt f h s) i (h.Names.length - i) ∧ (r.2 = true → r.1 = bl (s : Int) 0 h.Names.length) := by
  obtain ⟨n1, n2, n3⟩ := vH_len hv
  refine upL ?_ ?_
  · refine ⟨(bl (s : Int) 0 h.Names.length, true), Ev.step (fun k => spec_l06Largest.l2.eq_2 _ _ _ _ _ _ _) ?_, by rw [Nat.sub_self]; rfl, fun _ => rfl⟩
    exact Ev.bind (Ev.neg (by omega) (Ev.const rfl)) (Ev.neg (by simp) (Ev.const rfl))
  · rintro i hi ⟨r, hr, h1, h2⟩
    have hu : IntKind.u64.wrap (i : Int) = (i : Int) := wu64 (by omega) (by omega)
    have hd : s / 2 ^ i % 2 = 1 ↔ bitN (s : Int) i = true := by
      rw [bit_nat hs (by omega), Nat.testBit_eq_decide_div_mod_eq, decide_eq_true_eq]
    have ht : Int.tmod (shrI .i64 (s : Int) (IntKind.u64.wrap (i : Int))) 2 = ((s / 2 ^ i % 2 : Nat) : Int) := by
      rw [hu, shr64_nat (by omega), Int.tmod_eq_emod_of_nonneg (Int.natCast_nonneg _)]; rfl
    rw [← wsucc hi (by omega)] at hr
    rw [bl_snoc] at hr
    rw [upA_step _ hi]
    cases hb : bitN (s : Int) i
    · rw [hb] at hr
      refine ⟨r, Ev.step (fun k => spec_l06Largest.l2.eq_2 _ _ _ _ _ _ _) (Ev.bind (Ev.pos (by omega) (Ev.const rfl)) (Ev.pos rfl (Ev.bind (Ev.bind (Ev.const (chkT (by omega))) (Ev.pos ?_ (Ev.const rfl))) ?_))), ?_, h2⟩
      · rw [ht]; rw [hb] at hd; have : ¬ s / 2 ^ i % 2 = 1 := fun e => by have := hd.1 e; cases this
        omega
      · simpa using hr
      · rw [h1]; simp [okAt, hb]
    · rw [hb, if_pos rfl] at hr
      have hne : ¬ Int.tmod (shrI .i64 (s : Int) (IntKind.u64.wrap (i : Int))) 2 = 0 := by
        rw [ht]; have := hd.2 hb; omega
      have g3 := l3_loop v f (i := i) (by omega) (ys := bl (s : Int) 0 i) (fun x hx => mem_bl_le (by omega) hx) (Nat.le_trans (bl_len _ _ _) (by omega)) 0 (Nat.zero_le _) true
      rw [List.drop_zero, Bool.true_and] at g3
      have hok : okAt f h (s : Int) i = (bl (s : Int) 0 i).all fun x => foeB h i x.toNat == f := by unfold okAt; rw [hb]; rfl
      rw [← hok] at g3
      have hc : chk ((bl (s : Int) 0 i).length + ([(i : Int)] : List Int).length ≤ 4294967296) = some () := chkT (by have := bl_len (s : Int) 0 i; simp; omega)
      cases ho : okAt f h (s : Int) i
      · rw [ho] at g3
        refine ⟨(bl (s : Int) 0 i ++ [(i : Int)], false), Ev.step (fun k => spec_l06Largest.l2.eq_2 _ _ _ _ _ _ _) (Ev.bind (Ev.pos (by omega) (Ev.const rfl)) (Ev.pos rfl (Ev.bind (Ev.bind (Ev.const (chkT (by omega))) (Ev.neg hne (g3.bind (Ev.bind (Ev.const hc) (Ev.const rfl))))) ?_))), by simp, fun e => by cases e⟩
        refine Ev.step (fun k => spec_l06Largest.l2.eq_2 _ _ _ _ _ _ _) (Ev.bind (show Ev _ false from ?_) (Ev.neg (by simp) (Ev.const rfl)))
        by_cases hlt : IntKind.i64.wrap ((i : Int) + 1) < (h.Names.length : Int)
        · exact Ev.pos hlt (Ev.const rfl)
        · exact Ev.neg hlt (Ev.const rfl)
      · rw [ho] at g3
        refine ⟨r, Ev.step (fun k => spec_l06Largest.l2.eq_2 _ _ _ _ _ _ _) (Ev.bind (Ev.pos (by omega) (Ev.const rfl)) (Ev.pos rfl (Ev.bind (Ev.bind (Ev.const (chkT (by omega))) (Ev.neg hne (g3.bind (Ev.bind (Ev.const hc) (Ev.const rfl))))) hr))), by rw [h1, Bool.true_and], h2⟩
/-! ### The program's -/
theorem i2_loop {h : Herd} (v : VHerd h) (f : Bool) {s : Nat} (hs : s ≤ 65535) {ys : List Int} (hy : ∀ x ∈ ys, 0 ≤ x ∧ x < (h.Foes.length : Int)) (hl : ys.length ≤ 16) : ∀ j, j ≤ ys.length → ∀ b : Bool, Ev (fun k => impl_Herd_largest.l2 h f (s : Int) ys k b (j : Int)) (b && (ys.drop j).all fun x => condI f h (s : Int) x.toNat) := by
  have hu : IntKind.u16.wrap (s : Int) = (s : Int) := wu16 (by omega) (by omega)
  refine upL ?_ ?_
  · intro b
    refine Ev.step (fun k => impl_Herd_largest.l2.eq_2 _ _ _ _ _ _ _) (Ev.neg (by omega) (Ev.const ?_))
    rw [List.drop_length]; simp
  · intro j hj ih b
    obtain ⟨y0, y1⟩ := hy ys[j] (List.getElem_mem hj)
    obtain ⟨z, hz⟩ := Int.eq_ofNat_of_zero_le y0
    have e : getI h.Foes ys[j] = some (foes h z) := by rw [hz]; exact foes_get (by omega)
    refine Ev.step (fun k => impl_Herd_largest.l2.eq_2 _ _ _ _ _ _ _) (Ev.pos (by omega) (Ev.bind (Ev.const (getI_nat hj)) (Ev.bind (Ev.const (chkT y0)) ?_)))
    rw [wsucc hj (by omega), List.drop_eq_getElem_cons hj, List.all_cons, hu]
    have i1 := ih (condI f h (s : Int) ys[j].toNat)
    have i0 := ih false
    rw [Bool.false_and] at i0
    cases f
    · refine Ev.neg (by simp) ?_
      cases b
      · exact Ev.neg (by simp) (by rw [Bool.false_and]; exact i0)
      · refine Ev.pos rfl (Ev.bind (Ev.const e) ?_)
        rw [Bool.true_and]
        rw [hz, Int.toNat_natCast] at i1
        rw [hz, Int.toNat_natCast]
        exact i1
    · refine Ev.pos rfl ?_
      cases b
      · exact Ev.neg (by simp) (by rw [Bool.false_and]; exact i0)
      · refine Ev.pos rfl (Ev.bind (Ev.const e) ?_)
        rw [Bool.true_and]
        rw [hz, Int.toNat_natCast] at i1
        rw [hz, Int.toNat_natCast]
        exact i1
/-! ### Ones -/
def ones (n : Nat) : Nat := ((List.range' 0 8).filter fun j => n.testBit j).length
def onesT : ByteArray := ⟨#[0, 1, 1, 2, 1, 2, 2, 3, 1, 2, 2, 3, 2, 3, 3, 4, 1, 2, 2, 3, 2, 3, 3, 4, 2, 3, 3, 4, 3, 4, 4, 5, 1, 2, 2, 3, 2, 3, 3, 4, 2, 3, 3, 4, 3, 4, 4, 5, 2, 3, 3, 4, 3, 4, 4, 5, 3, 4, 4, 5, 4, 5, 5, 6, 1, 2, 2, 3, 2, 3, 3, 4, 2, 3, 3, 4, 3, 4, 4, 5, 2, 3, 3, 4, 3, 4, 4, 5, 3, 4, 4, 5, 4, 5, 5, 6, 2, 3, 3, 4, 3, 4, 4, 5, 3, 4, 4, 5, 4, 5, 5, 6, 3, 4, 4, 5, 4, 5, 5, 6, 4, 5, 5, 6, 5, 6, 6, 7, 1, 2, 2, 3, 2, 3, 3, 4, 2, 3, 3, 4, 3, 4, 4, 5, 2, 3, 3, 4, 3, 4, 4, 5, 3, 4, 4, 5, 4, 5, 5, 6, 2, 3, 3, 4, 3, 4, 4, 5, 3, 4, 4, 5, 4, 5, 5, 6, 3, 4, 4, 5, 4, 5, 5, 6, 4, 5, 5, 6, 5, 6, 6, 7, 2, 3, 3, 4, 3, 4, 4, 5, 3, 4, 4, 5, 4, 5, 5, 6, 3, 4, 4, 5, 4, 5, 5, 6, 4, 5, 5, 6, 5, 6, 6, 7, 3, 4, 4, 5, 4, 5, 5, 6, 4, 5, 5, 6, 5, 6, 6, 7, 4, 5, 5, 6, 5, 6, 6, 7, 5, 6, 6, 7, 6, 7, 7, 8]⟩
theorem onesT_at {n : Nat} (h : n < 256) : getB onesT (n : Int) = some (ones n : Int) := by
  have : ∀ i : Fin 256, getB onesT ((i : Nat) : Int) = some (ones i : Int) := by decide +kernel
  exact this ⟨n, h⟩
theorem ones_len {s : Nat} (hs : s ≤ 65535) : ones (s / 256) + ones (s % 256) = (bl (s : Int) 0 16).length := by
  have e1 : ∀ j, j < 8 → (s % 256).testBit j = bitN (s : Int) j := fun j hj => by
    rw [bit_nat hs (by omega), show (256 : Nat) = 2 ^ 8 from rfl, Nat.testBit_mod_two_pow]
    simp [hj]
  have e2 : ∀ j, j < 8 → (s / 256).testBit j = bitN (s : Int) (8 + j) := fun j hj => by
    rw [bit_nat hs (by omega), show (256 : Nat) = 2 ^ 8 from rfl, Nat.testBit_div_two_pow, Nat.add_comm]
  unfold bl ones
  rw [List.length_map, show List.range' 0 16 = List.range' 0 8 ++ (List.range' 0 8).map (8 + ·) from rfl, List.filter_append, List.length_append, List.filter_map, List.length_map, Nat.add_comm]
  congr 1
  · congr 1
    exact List.filter_congr fun j hj => e1 j (by rw [List.mem_range'_1] at hj; omega)
  · congr 1
    exact List.filter_congr fun j hj => e2 j (by rw [List.mem_range'_1] at hj; omega)
theorem onesCount_eq {s : Nat} (hs : s ≤ 65535) : math_bits_OnesCount16.f (s : Int) = some ((bl (s : Int) 0 16).length : Int) := by
  have h1 : shrI .u16 (s : Int) 8 = ((s / 256 : Nat) : Int) := shr_nat (j := 8) (by omega)
  have h2 : andI .u16 (s : Int) 255 = ((s % 256 : Nat) : Int) := by
    unfold andI
    have e : (BitVec.ofInt 16 (s : Int) &&& BitVec.ofInt 16 255).toNat = s % 256 := by
      rw [BitVec.toNat_and, BitVec.toNat_ofInt, BitVec.toNat_ofInt]
      have h1 : ((s : Int) % ((2 ^ 16 : Nat) : Int)).toNat = s := by omega
      rw [h1]
      exact Nat.and_two_pow_sub_one_eq_mod s 8
    show IntKind.u16.wrap (((BitVec.ofInt 16 (s : Int) &&& BitVec.ofInt 16 255).toNat : Nat) : Int) = _
    rw [e, wu16 (by omega) (by omega)]
  have hl := ones_len hs
  have hb := bl_len (s : Int) 0 16
  unfold math_bits_OnesCount16.f
  rw [h1, h2]
  refine (congrArg (fun o : Option Int => o.bind _) (onesT_at (n := s / 256) (by omega))).trans ?_
  rw [Option.bind_some]
  refine (congrArg (fun o : Option Int => o.bind _) (onesT_at (n := s % 256) (by omega))).trans ?_
  rw [Option.bind_some]
  have w8 : IntKind.u8.wrap ((ones (s / 256) : Int) + (ones (s % 256) : Int)) = ((bl (s : Int) 0 16).length : Int) := by
    have : ∀ z : Fin 17, IntKind.u8.wrap ((z : Nat) : Int) = ((z : Nat) : Int) := by decide
    have := this ⟨(bl (s : Int) 0 16).length, by omega⟩
    rw [show (ones (s / 256) : Int) + (ones (s % 256) : Int) = ((bl (s : Int) 0 16).length : Int) by omega]
    exact this
  rw [w8, w64 (by omega) (by omega)]
/-! ### Lists of one length -/
theorem cmp_eq (a b : Int) : cmp_Compare_int64.f a b = some (if a < b then -1 else if b < a then 1 else 0) := by
  have h : ∀ x : Int, cmp_isNaN_int64.f x = some false := fun x => by unfold cmp_isNaN_int64.f; simp
  unfold cmp_Compare_int64.f
  rw [h, h]
  simp only [Option.bind_some]
  rw [if_neg (by simp), if_neg (by simp)]
  split
  · rfl
  · split <;> rfl
theorem lex_loop {a b : List Int} (hl : a.length = b.length) (hx : a.length ≤ 16) : ∀ i, i ≤ a.length → ∃ r : Option Bool,
    Ev (fun k => spec_l06Less.l1 a b k (i : Int)) (match r with | none => .inr () | some z => .inl z) ∧
    Ev (fun k => slices_Compare_int64_int64.l1 a b k (i : Int)) (match r with | none => .inr () | some true => .inl (-1) | some false => .inl 1) := by
  refine upL ?_ ?_
  · exact ⟨none, Ev.step (fun k => spec_l06Less.l1.eq_2 _ _ _ _) (Ev.neg (by omega) (Ev.const rfl)), Ev.step (fun k => slices_Compare_int64_int64.l1.eq_2 _ _ _ _) (Ev.neg (by omega) (Ev.const rfl))⟩
  · rintro i hi ⟨r, h1, h2⟩
    have hib : i < b.length := by omega
    rw [← wsucc hi (by omega)] at h1 h2
    by_cases e : a[i] = b[i]
    · exact ⟨r, Ev.step (fun k => spec_l06Less.l1.eq_2 _ _ _ _) (Ev.pos (by omega) (Ev.bind (Ev.const (getI_nat hi)) (Ev.bind (Ev.const (getI_nat hib)) (Ev.neg (by simp [e]) h1)))), Ev.step (fun k => slices_Compare_int64_int64.l1.eq_2 _ _ _ _) (Ev.pos (by omega) (Ev.bind (Ev.const (getI_nat hi)) (Ev.neg (by omega) (Ev.bind (Ev.const (getI_nat hib)) (Ev.bind (Ev.const ((cmp_eq _ _).trans (show _ = some 0 by rw [if_neg (by omega), if_neg (by omega)]))) (Ev.neg (by simp) h2))))))⟩
    · by_cases e2 : a[i] < b[i]
      · exact ⟨some true, Ev.step (fun k => spec_l06Less.l1.eq_2 _ _ _ _) (Ev.pos (by omega) (Ev.bind (Ev.const (getI_nat hi)) (Ev.bind (Ev.const (getI_nat hib)) (Ev.pos e (Ev.bind (Ev.const (getI_nat hi)) (Ev.bind (Ev.const (getI_nat hib)) (Ev.const (by simp [e2])))))))), Ev.step (fun k => slices_Compare_int64_int64.l1.eq_2 _ _ _ _) (Ev.pos (by omega) (Ev.bind (Ev.const (getI_nat hi)) (Ev.neg (by omega) (Ev.bind (Ev.const (getI_nat hib)) (Ev.bind (Ev.const ((cmp_eq _ _).trans (show _ = some (-1) by rw [if_pos e2]))) (Ev.pos (by simp) (Ev.const rfl)))))))⟩
      · exact ⟨some false, Ev.step (fun k => spec_l06Less.l1.eq_2 _ _ _ _) (Ev.pos (by omega) (Ev.bind (Ev.const (getI_nat hi)) (Ev.bind (Ev.const (getI_nat hib)) (Ev.pos e (Ev.bind (Ev.const (getI_nat hi)) (Ev.bind (Ev.const (getI_nat hib)) (Ev.const (by simp [e2])))))))), Ev.step (fun k => slices_Compare_int64_int64.l1.eq_2 _ _ _ _) (Ev.pos (by omega) (Ev.bind (Ev.const (getI_nat hi)) (Ev.neg (by omega) (Ev.bind (Ev.const (getI_nat hib)) (Ev.bind (Ev.const ((cmp_eq _ _).trans (show _ = some 1 by rw [if_neg e2, if_pos (by omega)]))) (Ev.pos (by simp) (Ev.const rfl)))))))⟩
theorem lex_ev {a b : List Int} (hl : a.length = b.length) (hx : a.length ≤ 16) : ∃ r : Bool, ∃ c : Int, Ev (fun k => spec_l06Less.f k a b) r ∧ Ev (fun k => slices_Compare_int64_int64.f k a b) c ∧ (r = true ↔ c < 0) := by
  obtain ⟨r, h1, h2⟩ := lex_loop hl hx 0 (Nat.zero_le _)
  match r, h1, h2 with
  | none, h1, h2 => exact ⟨false, 0, h1.bind (Ev.const rfl), h2.bind (Ev.neg (by omega) (Ev.const rfl)), by simp⟩
  | some true, h1, h2 => exact ⟨true, -1, h1.bind (Ev.const rfl), h2.bind (Ev.const rfl), by simp⟩
  | some false, h1, h2 => exact ⟨false, 1, h1.bind (Ev.const rfl), h2.bind (Ev.const rfl), by simp⟩
end Go.Proofs.YtonpnkppaflcbaaGreatDoor
