/-
  Plain law: the largest set of goats: the loops.
-/
import Derived.Test.YtimpcenflahchaaDoorQL
namespace Go.Proofs.YtimpcenflahchaaDoor
open G
set_option linter.unusedVariables false
set_option linter.unusedSimpArgs false
theorem bl_snoc (m : Int) (i : Nat) : bl m 0 (i + 1) = bl m 0 i ++ (if bitN m i = true then [(i : Int)] else []) := by
  unfold bl
  rw [List.range'_concat, List.filter_append, List.map_append]
  simp only [Nat.one_mul, Nat.zero_add, List.filter_cons, List.filter_nil]
  congr 1
  split <;> simp
/-! ### The reference's -/
theorem l3_loop {h : Herd} (v : VHerd h) (f : Bool) {i : Nat} (hi : i < h.Foes.length) {ys : List Int} (hy : ∀ x ∈ ys, 0 ≤ x ∧ x ≤ 65535) (hl : ys.length ≤ 16) : ∀ j, j ≤ ys.length → ∀ b : Bool, Ev (fun k => spec_l06Largest.l3 h f ys (i : Int) k b (j : Int)) (b && (ys.drop j).all fun x => foeB h i x.toNat == f) := by
  refine upL ?_ ?_
  · intro b
    refine Ev.step (fun k => spec_l06Largest.l3.eq_2 _ _ _ _ _ _ _) (Ev.neg (by omega) (Ev.const ?_))
    rw [List.drop_length]; simp
  · intro j hj ih b
    refine Ev.step (fun k => spec_l06Largest.l3.eq_2 _ _ _ _ _ _ _) (Ev.pos (by omega) ?_)
    rw [wsucc hj (by omega), List.drop_eq_getElem_cons hj, List.all_cons]
    obtain ⟨y0, y1⟩ := hy ys[j] (List.getElem_mem hj)
    obtain ⟨z, hz⟩ := Int.eq_ofNat_of_zero_le y0
    cases b
    · exact Ev.neg (by simp) (by simpa using ih false)
    · refine Ev.pos rfl (Ev.bind (Ev.const (getI_nat hj)) ?_)
      have e : spec_l06Are.f h (i : Int) ys[j] = some (foeB h i ys[j].toNat) := by rw [hz, Int.toNat_natCast]; exact specAre_eq v hi (by omega)
      refine Ev.bind (Ev.const e) ?_
      have := ih (decide (foeB h i ys[j].toNat = f))
      rw [Bool.true_and]
      have e2 : (foeB h i ys[j].toNat == f) = decide (foeB h i ys[j].toNat = f) := by cases foeB h i ys[j].toNat <;> cases f <;> rfl
      rw [e2]
      exact this
theorem mem_bl_le {s x : Int} {n : Nat} (hn : n ≤ 16) (h : x ∈ bl s 0 n) : 0 ≤ x ∧ x ≤ 65535 := by
  obtain ⟨j, _, h2, _, rfl⟩ := mem_bl.1 h
  omega
theorem l2_loop {h : Herd} (v : VHerd h) (hv : vH h = true) (f : Bool) {s : Nat} (hs : s ≤ 65535) : ∀ i, i ≤ h.Names.length → ∃ r : List Int × Bool, Ev (fun k => spec_l06Largest.l2 h f (s : Int) k (bl (s : Int) 0 i) true (i : Int)) r ∧ r.2 = upA (okAt f h s) i (h.Names.length - i) ∧ (r.2 = true → r.1 = bl (s : Int) 0 h.Names.length) := by
  obtain ⟨n1, n2, n3⟩ := vH_len hv
  refine upL ?_ ?_
  · refine ⟨(bl (s : Int) 0 h.Names.length, true), Ev.step (fun k => spec_l06Largest.l2.eq_2 _ _ _ _ _ _ _) ?_, by rw [Nat.sub_self]; rfl, fun _ => rfl⟩
    exact Ev.bind (Ev.neg (by omega) (Ev.const rfl)) (Ev.neg (by simp) (Ev.const rfl))
  · rintro i hi ⟨r, hr, h1, h2⟩
    have hu : IntKind.u64.wrap (i : Int) = (i : Int) := wu64 (by omega) (by omega)
    have hd : s / 2 ^ i % 2 = 1 ↔ bitN (s : Int) i = true := by
      rw [bit_nat hs (by omega), Nat.testBit_eq_decide_div_mod_eq, decide_eq_true_eq]
    have ht : Int.tmod (shrI .i64 (s : Int) (IntKind.u64.wrap (i : Int))) 2 = ((s / 2 ^ i % 2 : Nat) : Int) := by
      rw [hu, shr64_nat (by omega), Int.tmod_eq_emod_of_nonneg (Int.natCast_nonneg _)]; rfl
    rw [← wsucc hi (by omega)] at hr
    rw [bl_snoc] at hr
    rw [upA_step _ hi]
    cases hb : bitN (s : Int) i
    · rw [hb] at hr
      refine ⟨r, Ev.step (fun k => spec_l06Largest.l2.eq_2 _ _ _ _ _ _ _) (Ev.bind (Ev.pos (by omega) (Ev.const rfl)) (Ev.pos rfl (Ev.bind (Ev.bind (Ev.const (chkT (by omega))) (Ev.pos ?_ (Ev.const rfl))) ?_))), ?_, h2⟩
      · rw [ht]; rw [hb] at hd; have : ¬ s / 2 ^ i % 2 = 1 := fun e => by have := hd.1 e; cases this
        omega
      · simpa using hr
      · rw [h1]; simp [okAt, hb]
    · rw [hb, if_pos rfl] at hr
      have hne : ¬ Int.tmod (shrI .i64 (s : Int) (IntKind.u64.wrap (i : Int))) 2 = 0 := by
        rw [ht]; have := hd.2 hb; omega
      have g3 := l3_loop v f (i := i) (by omega) (ys := bl (s : Int) 0 i) (fun x hx => mem_bl_le (by omega) hx) (Nat.le_trans (bl_len _ _ _) (by omega)) 0 (Nat.zero_le _) true
      rw [List.drop_zero, Bool.true_and] at g3
      have hok : okAt f h (s : Int) i = (bl (s : Int) 0 i).all fun x => foeB h i x.toNat == f := by unfold okAt; rw [hb]; rfl
      rw [← hok] at g3
      have hc : chk ((bl (s : Int) 0 i).length + ([(i : Int)] : List Int).length ≤ 4294967296) = some () := chkT (by have := bl_len (s : Int) 0 i; simp; omega)
      cases ho : okAt f h (s : Int) i
      · rw [ho] at g3
        refine ⟨(bl (s : Int) 0 i ++ [(i : Int)], false), Ev.step (fun k => spec_l06Largest.l2.eq_2 _ _ _ _ _ _ _) (Ev.bind (Ev.pos (by omega) (Ev.const rfl)) (Ev.pos rfl (Ev.bind (Ev.bind (Ev.const (chkT (by omega))) (Ev.neg hne (g3.bind (Ev.bind (Ev.const hc) (Ev.const rfl))))) ?_))), by simp, fun e => by cases e⟩
        refine Ev.step (fun k => spec_l06Largest.l2.eq_2 _ _ _ _ _ _ _) (Ev.bind (show Ev _ false from ?_) (Ev.neg (by simp) (Ev.const rfl)))
        by_cases hlt : IntKind.i64.wrap ((i : Int) + 1) < (h.Names.length : Int)
        · exact Ev.pos hlt (Ev.const rfl)
        · exact Ev.neg hlt (Ev.const rfl)
      · rw [ho] at g3
        refine ⟨r, Ev.step (fun k => spec_l06Largest.l2.eq_2 _ _ _ _ _ _ _) (Ev.bind (Ev.pos (by omega) (Ev.const rfl)) (Ev.pos rfl (Ev.bind (Ev.bind (Ev.const (chkT (by omega))) (Ev.neg hne (g3.bind (Ev.bind (Ev.const hc) (Ev.const rfl))))) hr))), by rw [h1, Bool.true_and], h2⟩
/-! ### The program's -/
theorem i2_loop {h : Herd} (v : VHerd h) (f : Bool) {s : Nat} (hs : s ≤ 65535) {ys : List Int} (hy : ∀ x ∈ ys, 0 ≤ x ∧ x < (h.Foes.length : Int)) (hl : ys.length ≤ 16) : ∀ j, j ≤ ys.length → ∀ b : Bool, Ev (fun k => impl_Herd_largest.l2 h f (s : Int) ys k b (j : Int)) (b && (ys.drop j).all fun x => condI f h (s : Int) x.toNat) := by
  have hu : IntKind.u16.wrap (s : Int) = (s : Int) := wu16 (by omega) (by omega)
  refine upL ?_ ?_
  · intro b
    refine Ev.step (fun k => impl_Herd_largest.l2.eq_2 _ _ _ _ _ _ _) (Ev.neg (by omega) (Ev.const ?_))
    rw [List.drop_length]; simp
  · intro j hj ih b
    obtain ⟨y0, y1⟩ := hy ys[j] (List.getElem_mem hj)
    obtain ⟨z, hz⟩ := Int.eq_ofNat_of_zero_le y0
    have e : getI h.Foes ys[j] = some (foes h z) := by rw [hz]; exact foes_get (by omega)
    refine Ev.step (fun k => impl_Herd_largest.l2.eq_2 _ _ _ _ _ _ _) (Ev.pos (by omega) (Ev.bind (Ev.const (getI_nat hj)) (Ev.bind (Ev.const (chkT y0)) ?_)))
    rw [wsucc hj (by omega), List.drop_eq_getElem_cons hj, List.all_cons, hu]
    have i1 := ih (condI f h (s : Int) ys[j].toNat)
    have i0 := ih false
    rw [Bool.false_and] at i0
    cases f
    · refine Ev.neg (by simp) ?_
      cases b
      · exact Ev.neg (by simp) (by rw [Bool.false_and]; exact i0)
      · refine Ev.pos rfl (Ev.bind (Ev.const e) ?_)
        rw [Bool.true_and]
        rw [hz, Int.toNat_natCast] at i1
        rw [hz, Int.toNat_natCast]
        exact i1
    · refine Ev.pos rfl ?_
      cases b
      · exact Ev.neg (by simp) (by rw [Bool.false_and]; exact i0)
      · refine Ev.pos rfl (Ev.bind (Ev.const e) ?_)
        rw [Bool.true_and]
        rw [hz, Int.toNat_natCast] at i1
        rw [hz, Int.toNat_natCast]
        exact i1
/-! ### Ones -/
def ones (n : Nat) : Nat := ((List.range' 0 8).filter fun j => n.testBit j).length
def onesT : ByteArray := ⟨#[0, 1, 1, 2, 1, 2, 2, 3, 1, 2, 2, 3, 2, 3, 3, 4, 1, 2, 2, 3, 2, 3, 3, 4, 2, 3, 3, 4, 3, 4, 4, 5, 1, 2, 2, 3, 2, 3, 3, 4, 2, 3, 3, 4, 3, 4, 4, 5, 2, 3, 3, 4, 3, 4, 4, 5, 3, 4, 4, 5, 4, 5, 5, 6, 1, 2, 2, 3, 2, 3, 3, 4, 2, 3, 3, 4, 3, 4, 4, 5, 2, 3, 3, 4, 3, 4, 4, 5, 3, 4, 4, 5, 4, 5, 5, 6, 2, 3, 3, 4, 3, 4, 4, 5, 3, 4, 4, 5, 4, 5, 5, 6, 3, 4, 4, 5, 4, 5, 5, 6, 4, 5, 5, 6, 5, 6, 6, 7, 1, 2, 2, 3, 2, 3, 3, 4, 2, 3, 3, 4, 3, 4, 4, 5, 2, 3, 3, 4, 3, 4, 4, 5, 3, 4, 4, 5, 4, 5, 5, 6, 2, 3, 3, 4, 3, 4, 4, 5, 3, 4, 4, 5, 4, 5, 5, 6, 3, 4, 4, 5, 4, 5, 5, 6, 4, 5, 5, 6, 5, 6, 6, 7, 2, 3, 3, 4, 3, 4, 4, 5, 3, 4, 4, 5, 4, 5, 5, 6, 3, 4, 4, 5, 4, 5, 5, 6, 4, 5, 5, 6, 5, 6, 6, 7, 3, 4, 4, 5, 4, 5, 5, 6, 4, 5, 5, 6, 5, 6, 6, 7, 4, 5, 5, 6, 5, 6, 6, 7, 5, 6, 6, 7, 6, 7, 7, 8]⟩
theorem onesT_at {n : Nat} (h : n < 256) : getB onesT (n : Int) = some (ones n : Int) := by
  have : ∀ i : Fin 256, getB onesT ((i : Nat) : Int) = some (ones i : Int) := by decide +kernel
  exact this ⟨n, h⟩
theorem ones_len {s : Nat} (hs : s ≤ 65535) : ones (s / 256) + ones (s % 256) = (bl (s : Int) 0 16).length := by
  have e1 : ∀ j, j < 8 → (s % 256).testBit j = bitN (s : Int) j := fun j hj => by
    rw [bit_nat hs (by omega), show (256 : Nat) = 2 ^ 8 from rfl, Nat.testBit_mod_two_pow]
    simp [hj]
  have e2 : ∀ j, j < 8 → (s / 256).testBit j = bitN (s : Int) (8 + j) := fun j hj => by
    rw [bit_nat hs (by omega), show (256 : Nat) = 2 ^ 8 from rfl, Nat.testBit_div_two_pow, Nat.add_comm]
  unfold bl ones
  rw [List.length_map, show List.range' 0 16 = List.range' 0 8 ++ (List.range' 0 8).map (8 + ·) from rfl, List.filter_append, List.length_append, List.filter_map, List.length_map, Nat.add_comm]
  congr 1
  · congr 1
    exact List.filter_congr fun j hj => e1 j (by rw [List.mem_range'_1] at hj; omega)
  · congr 1
    exact List.filter_congr fun j hj => e2 j (by rw [List.mem_range'_1] at hj; omega)
theorem onesCount_eq {s : Nat} (hs : s ≤ 65535) : math_bits_OnesCount16.f (s : Int) = some ((bl (s : Int) 0 16).length : Int) := by
  have h1 : shrI .u16 (s : Int) 8 = ((s / 256 : Nat) : Int) := shr_nat (j := 8) (by omega)
  have h2 : andI .u16 (s : Int) 255 = ((s % 256 : Nat) : Int) := by
    unfold andI
    have e : (BitVec.ofInt 16 (s : Int) &&& BitVec.ofInt 16 255).toNat = s % 256 := by
      rw [BitVec.toNat_and, BitVec.toNat_ofInt, BitVec.toNat_ofInt]
      have h1 : ((s : Int) % ((2 ^ 16 : Nat) : Int)).toNat = s := by omega
      rw [h1]
      exact Nat.and_two_pow_sub_one_eq_mod s 8
    show IntKind.u16.wrap (((BitVec.ofInt 16 (s : Int) &&& BitVec.ofInt 16 255).toNat : Nat) : Int) = _
    rw [e, wu16 (by omega) (by omega)]
  have hl := ones_len hs
  have hb := bl_len (s : Int) 0 16
  unfold math_bits_OnesCount16.f
  rw [h1, h2]
  refine (congrArg (fun o : Option Int => o.bind _) (onesT_at (n := s / 256) (by omega))).trans ?_
  rw [Option.bind_some]
  refine (congrArg (fun o : Option Int => o.bind _) (onesT_at (n := s % 256) (by omega))).trans ?_
  rw [Option.bind_some]
  have w8 : IntKind.u8.wrap ((ones (s / 256) : Int) + (ones (s % 256) : Int)) = ((bl (s : Int) 0 16).length : Int) := by
    have : ∀ z : Fin 17, IntKind.u8.wrap ((z : Nat) : Int) = ((z : Nat) : Int) := by decide
    have := this ⟨(bl (s : Int) 0 16).length, by omega⟩
    rw [show (ones (s / 256) : Int) + (ones (s % 256) : Int) = ((bl (s : Int) 0 16).length : Int) by omega]
    exact this
  rw [w8, w64 (by omega) (by omega)]
/-! ### Lists of one length -/
theorem cmp_eq (a b : Int) : cmp_Compare_int64.f a b = some (if a < b then -1 else if b < a then 1 else 0) := by
  have h : ∀ x : Int, cmp_isNaN_int64.f x = some false := fun x => by unfold cmp_isNaN_int64.f; simp
  unfold cmp_Compare_int64.f
  rw [h, h]
  simp only [Option.bind_some]
  rw [if_neg (by simp), if_neg (by simp)]
  split
  · rfl
  · split <;> rfl
theorem lex_loop {a b : List Int} (hl : a.length = b.length) (hx : a.length ≤ 16) : ∀ i, i ≤ a.length → ∃ r : Option Bool,
    Ev (fun k => spec_l06Less.l1 a b k (i : Int)) (match r with | none => .inr () | some z => .inl z) ∧
    Ev (fun k => slices_Compare_int64_int64.l1 a b k (i : Int)) (match r with | none => .inr () | some true => .inl (-1) | some false => .inl 1) := by
  refine upL ?_ ?_
  · exact ⟨none, Ev.step (fun k => spec_l06Less.l1.eq_2 _ _ _ _) (Ev.neg (by omega) (Ev.const rfl)), Ev.step (fun k => slices_Compare_int64_int64.l1.eq_2 _ _ _ _) (Ev.neg (by omega) (Ev.const rfl))⟩
  · rintro i hi ⟨r, h1, h2⟩
    have hib : i < b.length := by omega
    rw [← wsucc hi (by omega)] at h1 h2
    by_cases e : a[i] = b[i]
    · exact ⟨r, Ev.step (fun k => spec_l06Less.l1.eq_2 _ _ _ _) (Ev.pos (by omega) (Ev.bind (Ev.const (getI_nat hi)) (Ev.bind (Ev.const (getI_nat hib)) (Ev.neg (by simp [e]) h1)))), Ev.step (fun k => slices_Compare_int64_int64.l1.eq_2 _ _ _ _) (Ev.pos (by omega) (Ev.bind (Ev.const (getI_nat hi)) (Ev.neg (by omega) (Ev.bind (Ev.const (getI_nat hib)) (Ev.bind (Ev.const ((cmp_eq _ _).trans (show _ = some 0 by rw [if_neg (by omega), if_neg (by omega)]))) (Ev.neg (by simp) h2))))))⟩
    · by_cases e2 : a[i] < b[i]
      · exact ⟨some true, Ev.step (fun k => spec_l06Less.l1.eq_2 _ _ _ _) (Ev.pos (by omega) (Ev.bind (Ev.const (getI_nat hi)) (Ev.bind (Ev.const (getI_nat hib)) (Ev.pos e (Ev.bind (Ev.const (getI_nat hi)) (Ev.bind (Ev.const (getI_nat hib)) (Ev.const (by simp [e2])))))))), Ev.step (fun k => slices_Compare_int64_int64.l1.eq_2 _ _ _ _) (Ev.pos (by omega) (Ev.bind (Ev.const (getI_nat hi)) (Ev.neg (by omega) (Ev.bind (Ev.const (getI_nat hib)) (Ev.bind (Ev.const ((cmp_eq _ _).trans (show _ = some (-1) by rw [if_pos e2]))) (Ev.pos (by simp) (Ev.const rfl)))))))⟩
      · exact ⟨some false, Ev.step (fun k => spec_l06Less.l1.eq_2 _ _ _ _) (Ev.pos (by omega) (Ev.bind (Ev.const (getI_nat hi)) (Ev.bind (Ev.const (getI_nat hib)) (Ev.pos e (Ev.bind (Ev.const (getI_nat hi)) (Ev.bind (Ev.const (getI_nat hib)) (Ev.const (by simp [e2])))))))), Ev.step (fun k => slices_Compare_int64_int64.l1.eq_2 _ _ _ _) (Ev.pos (by omega) (Ev.bind (Ev.const (getI_nat hi)) (Ev.neg (by omega) (Ev.bind (Ev.const (getI_nat hib)) (Ev.bind (Ev.const ((cmp_eq _ _).trans (show _ = some 1 by rw [if_neg e2, if_pos (by omega)]))) (Ev.pos (by simp) (Ev.const rfl)))))))⟩
theorem lex_ev {a b : List Int} (hl : a.length = b.length) (hx : a.length ≤ 16) : ∃ r : Bool, ∃ c : Int, Ev (fun k => spec_l06Less.f k a b) r ∧ Ev (fun k => slices_Compare_int64_int64.f k a b) c ∧ (r = true ↔ c < 0) := by
  obtain ⟨r, h1, h2⟩ := lex_loop hl hx 0 (Nat.zero_le _)
  match r, h1, h2 with
  | none, h1, h2 => exact ⟨false, 0, h1.bind (Ev.const rfl), h2.bind (Ev.neg (by omega) (Ev.const rfl)), by simp⟩
  | some true, h1, h2 => exact ⟨true, -1, h1.bind (Ev.const rfl), h2.bind (Ev.const rfl), by simp⟩
  | some false, h1, h2 => exact ⟨false, 1, h1.bind (Ev.const rfl), h2.bind (Ev.const rfl), by simp⟩
/-! ### All sets -/
theorem sets_loop {h : Herd} (v : VHerd h) (hv : vH h = true) (f : Bool) : ∀ s : Nat, s ≤ 2 ^ h.Names.length → ∀ b : Nat, b < 2 ^ h.Names.length → ∃ c : Nat, c < 2 ^ h.Names.length ∧
    Ev (fun k => spec_l06Largest.l1 h f k (bl (b : Int) 0 h.Names.length) (s : Int)) (bl (c : Int) 0 h.Names.length) ∧
    Ev (fun k => impl_Herd_largest.l1 h f k (b : Int) (s : Int)) (c : Int) := by
  obtain ⟨n1, n2, n3⟩ := vH_len hv
  have hp : 2 ^ h.Names.length ≤ 2 ^ 14 := Nat.pow_le_pow_right (by omega) n1
  have hu : IntKind.u64.wrap (h.Names.length : Int) = (h.Names.length : Int) := wu64 (by omega) (by omega)
  have hsh : shlI .i64 1 (IntKind.u64.wrap (h.Names.length : Int)) = ((2 ^ h.Names.length : Nat) : Int) := by
    have : ∀ i : Fin 15, shlI .i64 1 ((i : Nat) : Int) = ((2 ^ (i : Nat) : Nat) : Int) := by decide
    rw [hu]; exact this ⟨h.Names.length, by omega⟩
  have hsh2 : shlI .u32 1 (h.Names.length : Int) = ((2 ^ h.Names.length : Nat) : Int) := by
    have : ∀ i : Fin 15, shlI .u32 1 ((i : Nat) : Int) = ((2 ^ (i : Nat) : Nat) : Int) := by decide
    exact this ⟨h.Names.length, by omega⟩
  have hc : chk (0 ≤ (IntKind.u64.wrap (h.Names.length : Int))) = some () := chkT (by omega)
  have hhigh : ∀ b : Nat, b < 2 ^ h.Names.length → ∀ j, h.Names.length ≤ j → bitN (b : Int) j = false := fun b hb j hj => by
    rcases Nat.lt_or_ge 16 j with h1 | h1
    · refine bit_high (by omega) (by omega) (n := 16) ?_ (by omega)
      rw [shr_nat (by omega), Nat.div_eq_of_lt (by omega)]; rfl
    · rw [bit_nat (by omega) h1]
      exact Nat.testBit_lt_two_pow (Nat.lt_of_lt_of_le hb (Nat.pow_le_pow_right (by omega) hj))
  have hcut : ∀ b : Nat, b < 2 ^ h.Names.length → bl (b : Int) 0 16 = bl (b : Int) 0 h.Names.length := fun b hb => bl_cut (by omega) (hhigh b hb)
  refine upL ?_ ?_
  · intro b hb
    exact ⟨b, hb, Ev.step (fun k => spec_l06Largest.l1.eq_2 _ _ _ _ _) (Ev.bind (Ev.const hc) (Ev.neg (by rw [hsh]; omega) (Ev.const rfl))), Ev.step (fun k => impl_Herd_largest.l1.eq_2 _ _ _ _ _) (Ev.neg (by rw [hsh2]; omega) (Ev.const rfl))⟩
  · intro s hs ih b hb
    have hw : IntKind.u16.wrap (s : Int) = (s : Int) := wu16 (by omega) (by omega)
    have hn1 : IntKind.i64.wrap ((s : Int) + 1) = ((s + 1 : Nat) : Int) := wsucc hs (by omega)
    have hn2 : IntKind.u32.wrap ((s : Int) + 1) = ((s + 1 : Nat) : Int) := by
      show ((s : Int) + 1) % 4294967296 = _
      omega
    obtain ⟨⟨ls, gd⟩, q1, q2, q3⟩ := l2_loop v hv f (s := s) (by omega) 0 (Nat.zero_le _)
    have q0 : bl (s : Int) 0 0 = [] := rfl
    rw [q0] at q1
    have hls := listed_ev (s : Int)
    have hlb := listed_ev (b : Int)
    have i2 := i2_loop v f (s := s) (by omega) (ys := bl (s : Int) 0 16) (fun x hx => by rw [hcut s hs] at hx; obtain ⟨j, _, h2, _, rfl⟩ := mem_bl.1 hx; omega) (bl_len _ _ _) 0 (Nat.zero_le _) true
    rw [List.drop_zero, Bool.true_and, ← good_iff v hv (by omega) (by omega) (hhigh s hs)] at i2
    have q2 : gd = upA (okAt f h s) 0 h.Names.length := q2
    rw [← q2] at i2
    have o1 := onesCount_eq (s := s) (by omega)
    have o2 := onesCount_eq (s := b) (by omega)
    rw [hcut s hs] at o1 hls
    rw [hcut b hb] at o2 hlb
    have b1 := bl_len (s : Int) 0 h.Names.length
    have b2 := bl_len (b : Int) 0 h.Names.length
    -- what the two make of this set
    have key : ∃ c : Nat, c < 2 ^ h.Names.length ∧
        Ev (fun k => (spec_l06Largest.l2 h f (s : Int) k ([] : List Int) true 0).bind fun (y14, y17) => if y17 = true then (if ((bl (b : Int) 0 h.Names.length).length : Int) < (y14.length : Int) then (some y14) else (if (y14.length : Int) = ((bl (b : Int) 0 h.Names.length).length : Int) then ((spec_l06Less.f k y14 (bl (b : Int) 0 h.Names.length)).bind fun t38 => if t38 = true then (some y14) else (some (bl (b : Int) 0 h.Names.length))) else (some (bl (b : Int) 0 h.Names.length)))) else (some (bl (b : Int) 0 h.Names.length))) (bl (c : Int) 0 h.Names.length) ∧
        Ev (fun k => if gd = true then (if 0 < (IntKind.i64.wrap (((bl (s : Int) 0 h.Names.length).length : Int) - ((bl (b : Int) 0 h.Names.length).length : Int))) then (some (IntKind.u16.wrap (s : Int))) else (if (IntKind.i64.wrap (((bl (s : Int) 0 h.Names.length).length : Int) - ((bl (b : Int) 0 h.Names.length).length : Int))) = 0 then ((impl_listed.f k (IntKind.u16.wrap (s : Int))).bind fun t19 => (impl_listed.f k (b : Int)).bind fun t22 => (slices_Compare_int64_int64.f k t19 t22).bind fun t25 => if t25 < 0 then (some (IntKind.u16.wrap (s : Int))) else (some (b : Int))) else (some (b : Int)))) else (some (b : Int))) (c : Int) := by
      rw [hw, w64 (by omega) (by omega)]
      cases gd
      · exact ⟨b, hb, q1.bind (Ev.neg (by simp) (Ev.const rfl)), Ev.neg (by simp) (Ev.const rfl)⟩
      · obtain rfl : ls = bl (s : Int) 0 h.Names.length := q3 rfl
        by_cases c1 : ((bl (b : Int) 0 h.Names.length).length : Int) < ((bl (s : Int) 0 h.Names.length).length : Int)
        · exact ⟨s, hs, q1.bind (Ev.pos rfl (Ev.pos c1 (Ev.const rfl))), Ev.pos rfl (Ev.pos (by omega) (Ev.const rfl))⟩
        · by_cases c2 : ((bl (s : Int) 0 h.Names.length).length : Int) = ((bl (b : Int) 0 h.Names.length).length : Int)
          · obtain ⟨r, z, z1, z2, z3⟩ := lex_ev (a := bl (s : Int) 0 h.Names.length) (b := bl (b : Int) 0 h.Names.length) (by omega) (by omega)
            cases r
            · exact ⟨b, hb, q1.bind (Ev.pos rfl (Ev.neg c1 (Ev.pos c2 (z1.bind (Ev.neg (by simp) (Ev.const rfl)))))), Ev.pos rfl (Ev.neg (by omega) (Ev.pos (by omega) (hls.bind (hlb.bind (z2.bind (Ev.neg (fun e => by have := z3.2 e; cases this) (Ev.const rfl)))))))⟩
            · exact ⟨s, hs, q1.bind (Ev.pos rfl (Ev.neg c1 (Ev.pos c2 (z1.bind (Ev.pos rfl (Ev.const rfl)))))), Ev.pos rfl (Ev.neg (by omega) (Ev.pos (by omega) (hls.bind (hlb.bind (z2.bind (Ev.pos (z3.1 rfl) (Ev.const rfl)))))))⟩
          · exact ⟨b, hb, q1.bind (Ev.pos rfl (Ev.neg c1 (Ev.neg c2 (Ev.const rfl)))), Ev.pos rfl (Ev.neg (by omega) (Ev.neg (by omega) (Ev.const rfl)))⟩
    obtain ⟨c, hcl, k1, k2⟩ := key
    obtain ⟨d, hd, d1, d2⟩ := ih c hcl
    have hls' : Ev (fun k => impl_listed.f k (IntKind.u16.wrap (s : Int))) (bl (s : Int) 0 h.Names.length) := by rw [hw]; exact hls
    have o1' : math_bits_OnesCount16.f (IntKind.u16.wrap (s : Int)) = _ := (congrArg math_bits_OnesCount16.f hw).trans o1
    rw [hcut s hs] at i2
    refine ⟨d, hd, Ev.step (fun k => spec_l06Largest.l1.eq_2 _ _ _ _ _) (Ev.bind (Ev.const hc) (Ev.pos (by rw [hsh]; omega) (Ev.bind k1 ?_))), Ev.step (fun k => impl_Herd_largest.l1.eq_2 _ _ _ _ _) (Ev.pos (by rw [hsh2]; omega) (Ev.bind (hls'.bind (i2.bind (Ev.bind (Ev.const o1') (Ev.bind (Ev.const o2) k2)))) ?_))⟩
    · rw [hn1]; exact d1
    · rw [hn2]; exact d2
theorem largest_ev {h : Herd} (v : VHerd h) (hv : vH h = true) (f : Bool) : ∃ r : List Int, r.length ≤ 14 ∧ Ev (fun k => spec_l06Largest.f k h f) r ∧ Ev (fun k => impl_Herd_largest.f k h f) r := by
  obtain ⟨n1, n2, n3⟩ := vH_len hv
  obtain ⟨c, hc, h1, h2⟩ := sets_loop v hv f 0 (Nat.zero_le _) 0 (Nat.two_pow_pos _)
  have hp : 2 ^ h.Names.length ≤ 2 ^ 14 := Nat.pow_le_pow_right (by omega) n1
  have e0 : bl ((0 : Nat) : Int) 0 h.Names.length = [] := by
    unfold bl
    rw [List.map_eq_nil_iff, List.filter_eq_nil_iff]
    intro j hj
    rw [List.mem_range'_1] at hj
    rw [bit_nat (by omega) (by omega)]; simp
  rw [e0] at h1
  have hl := listed_ev (c : Int)
  have e1 : bl (c : Int) 0 16 = bl (c : Int) 0 h.Names.length := bl_cut (by omega) fun j hj => by
    rcases Nat.lt_or_ge 16 j with h1 | h1
    · refine bit_high (by omega) (by omega) (n := 16) ?_ (by omega)
      rw [shr_nat (by omega), Nat.div_eq_of_lt (by omega)]; rfl
    · rw [bit_nat (by omega) h1]
      exact Nat.testBit_lt_two_pow (Nat.lt_of_lt_of_le hc (Nat.pow_le_pow_right (by omega) hj))
  rw [e1] at hl
  exact ⟨bl (c : Int) 0 h.Names.length, Nat.le_trans (bl_len _ _ _) n1, h1.bind (Ev.const rfl), Ev.bind (Ev.const (chkT (by omega))) (h2.bind (hl.bind (Ev.const rfl)))⟩
end Go.Proofs.YtimpcenflahchaaDoor
