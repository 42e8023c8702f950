
/-
  Plain law: yards that are not taken; the reference's look at what fits.
-/
import Derived.Test.YtonpnkppaflcbaaGreatDoorQR1
import Derived.Test.YtonpnkppaflcbaaGreatDoorQL
namespace Go.Proofs.YtonpnkppaflcbaaGreatDoor
open G
set_option linter.unusedVariables false
set_option linter.unusedSimpArgs false
/-! ### Bits of what is taken -/
theorem B_or (x y : Int) : B16 (orI .u16 x y) = B16 x ||| B16 y := by
  unfold orI
  exact (congrArg B16 (wu16b (B16 x ||| B16 y))).trans (B16_nat _)
theorem or_in (x y : Int) : 0 ≤ orI .u16 x y ∧ orI .u16 x y ≤ 65535 := by
  have e : orI .u16 x y = (((B16 x ||| B16 y).toNat : Nat) : Int) := wu16b _
  have := (B16 x ||| B16 y).isLt
  rw [e]; omega
theorem bit_put {m : Int} (h : 0 ≤ m) (h' : m ≤ 65535) {i : Nat} (hi : i < 16) {j : Nat} (hj : j < 16) : bitN (orI .u16 m (shlI .u16 1 (i : Int))) j = (bitN m j || decide (i = j)) := by
  obtain ⟨a, b⟩ := or_in m (shlI .u16 1 (i : Int))
  rw [← bit_lsb a b hj, B_or, BitVec.getLsbD_or, bit_lsb h h' hj, one_bit hi hj]
theorem bit_test {m : Int} (h : 0 ≤ m) (h' : m ≤ 65535) (j : Nat) : Int.tmod (shrI .u16 m (j : Int)) 2 = 0 ↔ bitN m j = false := by
  obtain ⟨a, b⟩ := shr_le h h' (j : Int)
  unfold bitN
  rw [tmod2 a, and1 a b, decide_eq_false_iff_not]
  omega
/-! ### The yards that are left -/
def unt (Y : List Int) (p : Nat → Bool) (i n : Nat) : List Int := ((List.range' i n).filter p).map fun j => Y.getD j 0
theorem unt_step (Y : List Int) (p : Nat → Bool) {i n : Nat} (h : i < n) : unt Y p i (n - i) = (if p i = true then [Y.getD i 0] else []) ++ unt Y p (i + 1) (n - (i + 1)) := by
  unfold unt
  rw [show n - i = (n - (i + 1)) + 1 by omega, List.range'_succ, List.filter_cons]
  cases p i <;> simp
theorem unt_mem {Y : List Int} {p : Nat → Bool} {i n : Nat} {x : Int} : x ∈ unt Y p i n ↔ ∃ j, i ≤ j ∧ j < i + n ∧ p j = true ∧ x = Y.getD j 0 := by
  unfold unt
  simp only [List.mem_map, List.mem_filter, List.mem_range'_1]
  constructor
  · rintro ⟨j, ⟨⟨h1, h2⟩, h3⟩, rfl⟩; exact ⟨j, h1, h2, h3, rfl⟩
  · rintro ⟨j, h1, h2, h3, rfl⟩; exact ⟨j, ⟨⟨h1, h2⟩, h3⟩, rfl⟩
theorem unt_congr {Y : List Int} {p q : Nat → Bool} {i n : Nat} (h : ∀ j, i ≤ j → j < i + n → p j = q j) : unt Y p i n = unt Y q i n := by
  unfold unt
  rw [List.filter_congr fun j hj => h j (List.mem_range'_1.1 hj).1 (List.mem_range'_1.1 hj).2]
theorem unt_app (Y : List Int) (p : Nat → Bool) (i m n : Nat) : unt Y p i (m + n) = unt Y p i m ++ unt Y p (i + m) n := by
  unfold unt
  rw [← List.range'_append_1, List.filter_append, List.map_append]
theorem unt_split {Y : List Int} {p q : Nat → Bool} {l n : Nat} (hl : l < n) (hp : p l = true) (hq : ∀ j, j < n → q j = (p j && !decide (l = j))) :
    unt Y p 0 n = unt Y p 0 l ++ Y.getD l 0 :: unt Y p (l + 1) (n - (l + 1)) ∧ unt Y q 0 n = unt Y p 0 l ++ unt Y p (l + 1) (n - (l + 1)) := by
  have e : n = l + (n - l) := by omega
  have s1 : ∀ r : Nat → Bool, unt Y r 0 n = unt Y r 0 l ++ ((if r l = true then [Y.getD l 0] else []) ++ unt Y r (l + 1) (n - (l + 1))) := fun r => by
    conv => lhs; rw [e]
    rw [unt_app, Nat.zero_add, unt_step Y r hl]
  refine ⟨by rw [s1 p, if_pos hp]; rfl, ?_⟩
  have ql : q l = false := by rw [hq l hl]; simp
  rw [s1 q, ql]
  have a1 : unt Y q 0 l = unt Y p 0 l := unt_congr fun j _ hj => by rw [hq j (by omega), decide_eq_false (by omega)]; simp
  have a2 : unt Y q (l + 1) (n - (l + 1)) = unt Y p (l + 1) (n - (l + 1)) := unt_congr fun j h1 h2 => by rw [hq j (by omega), decide_eq_false (by omega)]; simp
  rw [a1, a2]; simp
/-! ### The least ones -/
theorem leastY_loop {Y : List Int} (hn : Y.length ≤ 14) {T : Int} (t0 : 0 ≤ T) (t1 : T ≤ 65535) : ∀ j, j ≤ Y.length → ∀ c : Int, ((c = -1 ∧ ∀ i, i < j → bitN T i = true) ∨ ∃ a : Nat, c = (a : Int) ∧ a < j ∧ bitN T a = false ∧ ∀ i, i < j → bitN T i = false → Y.getD a 0 ≤ Y.getD i 0) →
    ∃ r : Int, Ev (fun k => spec_l06Enough.l2 Y T k c (j : Int)) r ∧ ((r = -1 ∧ ∀ i, i < Y.length → bitN T i = true) ∨ ∃ a : Nat, r = (a : Int) ∧ a < Y.length ∧ bitN T a = false ∧ ∀ i, i < Y.length → bitN T i = false → Y.getD a 0 ≤ Y.getD i 0) := by
  refine upL ?_ ?_
  · intro c hc
    exact ⟨c, Ev.step (fun k => spec_l06Enough.l2.eq_2 _ _ _ _ _) (Ev.neg (by omega) (Ev.const rfl)), hc⟩
  · intro j hj ih c hc
    have uj : IntKind.u64.wrap (j : Int) = (j : Int) := wu64 (by omega) (by omega)
    have ej : Y.getD j 0 = Y[j] := by simp [List.getD_eq_getElem?_getD, hj]
    have go : ∀ c', ((c' = -1 ∧ ∀ i, i < j + 1 → bitN T i = true) ∨ ∃ a : Nat, c' = (a : Int) ∧ a < j + 1 ∧ bitN T a = false ∧ ∀ i, i < j + 1 → bitN T i = false → Y.getD a 0 ≤ Y.getD i 0) →
        (∀ {r}, Ev (fun k => spec_l06Enough.l2 Y T k c' (IntKind.i64.wrap ((j : Int) + 1))) r → Ev (fun k => spec_l06Enough.l2 Y T k c (j : Int)) r) → ∃ r : Int, Ev (fun k => spec_l06Enough.l2 Y T k c (j : Int)) r ∧ ((r = -1 ∧ ∀ i, i < Y.length → bitN T i = true) ∨ ∃ a : Nat, r = (a : Int) ∧ a < Y.length ∧ bitN T a = false ∧ ∀ i, i < Y.length → bitN T i = false → Y.getD a 0 ≤ Y.getD i 0) := fun c' h1 h2 => by
      obtain ⟨r, r1, r2⟩ := ih c' h1
      rw [← wsucc hj (by omega)] at r1
      exact ⟨r, h2 r1, r2⟩
    cases hb : bitN T j
    · have ht : Int.tmod (shrI .u16 T (IntKind.u64.wrap (j : Int))) 2 = 0 := by rw [uj]; exact (bit_test t0 t1 j).2 hb
      rcases hc with ⟨rfl, hall⟩ | ⟨a, rfl, ha, hba, hmin⟩
      · refine go (j : Int) (.inr ⟨j, rfl, by omega, hb, fun i hi hbi => ?_⟩) fun hr => Ev.step (fun k => spec_l06Enough.l2.eq_2 _ _ _ _ _) (Ev.pos (by omega) (Ev.bind (Ev.const (chkT (by rw [uj]; omega))) (Ev.pos ht (Ev.pos (by omega) hr))))
        by_cases e : i = j
        · subst e; exact Int.le_refl _
        · have := hall i (by omega)
          rw [hbi] at this; cases this
      · have hal : a < Y.length := by omega
        have ea : Y.getD a 0 = Y[a] := by simp [List.getD_eq_getElem?_getD, hal]
        by_cases hlt : Y[j] < Y[a]
        · refine go (j : Int) (.inr ⟨j, rfl, by omega, hb, fun i hi hbi => ?_⟩) fun hr => Ev.step (fun k => spec_l06Enough.l2.eq_2 _ _ _ _ _) (Ev.pos (by omega) (Ev.bind (Ev.const (chkT (by rw [uj]; omega))) (Ev.pos ht (Ev.neg (by omega) (Ev.bind (Ev.const (getI_nat hj)) (Ev.bind (Ev.const (getI_nat hal)) (Ev.pos hlt hr)))))))
          by_cases e : i = j
          · subst e; exact Int.le_refl _
          · have := hmin i (by omega) hbi
            omega
        · refine go (a : Int) (.inr ⟨a, rfl, by omega, hba, fun i hi hbi => ?_⟩) fun hr => Ev.step (fun k => spec_l06Enough.l2.eq_2 _ _ _ _ _) (Ev.pos (by omega) (Ev.bind (Ev.const (chkT (by rw [uj]; omega))) (Ev.pos ht (Ev.neg (by omega) (Ev.bind (Ev.const (getI_nat hj)) (Ev.bind (Ev.const (getI_nat hal)) (Ev.neg hlt hr)))))))
          by_cases e : i = j
          · subst e; omega
          · exact hmin i (by omega) hbi
    · have ht : ¬ Int.tmod (shrI .u16 T (IntKind.u64.wrap (j : Int))) 2 = 0 := by rw [uj, bit_test t0 t1 j, hb]; simp
      refine go c ?_ fun hr => Ev.step (fun k => spec_l06Enough.l2.eq_2 _ _ _ _ _) (Ev.pos (by omega) (Ev.bind (Ev.const (chkT (by rw [uj]; omega))) (Ev.neg ht hr)))
      rcases hc with ⟨rfl, hall⟩ | ⟨a, rfl, ha, hba, hmin⟩
      · refine .inl ⟨rfl, fun i hi => ?_⟩
        by_cases e : i = j
        · subst e; exact hb
        · exact hall i (by omega)
      · refine .inr ⟨a, rfl, by omega, hba, fun i hi hbi => ?_⟩
        by_cases e : i = j
        · subst e; rw [hb] at hbi; cases hbi
        · exact hmin i (by omega) hbi
theorem small_loop {l : List Int} (hn : l.length ≤ 1048576) : ∀ j, j ≤ l.length → ∀ a : Nat, a < j → (∀ i, i < j → l.getD a 0 ≤ l.getD i 0) →
    ∃ r : Nat, r < l.length ∧ Ev (fun k => spec_l06Enough.l3 l k (a : Int) (j : Int)) (r : Int) ∧ ∀ i, i < l.length → l.getD r 0 ≤ l.getD i 0 := by
  refine upL ?_ ?_
  · intro a ha hmin
    exact ⟨a, ha, Ev.step (fun k => spec_l06Enough.l3.eq_2 _ _ _ _) (Ev.neg (by omega) (Ev.const rfl)), hmin⟩
  · intro j hj ih a ha hmin
    have hal : a < l.length := by omega
    have ej : l.getD j 0 = l[j] := by simp [List.getD_eq_getElem?_getD, hj]
    have ea : l.getD a 0 = l[a] := by simp [List.getD_eq_getElem?_getD, hal]
    by_cases hlt : l[j] < l[a]
    · obtain ⟨r, r1, r2, r3⟩ := ih j (by omega) fun i hi => by
        by_cases e : i = j
        · subst e; exact Int.le_refl _
        · have := hmin i (by omega); omega
      rw [← wsucc hj (by omega)] at r2
      exact ⟨r, r1, Ev.step (fun k => spec_l06Enough.l3.eq_2 _ _ _ _) (Ev.pos (by omega) (Ev.bind (Ev.const (getI_nat hj)) (Ev.bind (Ev.const (getI_nat hal)) (Ev.pos hlt r2)))), r3⟩
    · obtain ⟨r, r1, r2, r3⟩ := ih a (by omega) fun i hi => by
        by_cases e : i = j
        · subst e; omega
        · exact hmin i (by omega)
      rw [← wsucc hj (by omega)] at r2
      exact ⟨r, r1, Ev.step (fun k => spec_l06Enough.l3.eq_2 _ _ _ _) (Ev.pos (by omega) (Ev.bind (Ev.const (getI_nat hj)) (Ev.bind (Ev.const (getI_nat hal)) (Ev.neg hlt r2)))), r3⟩
/-! ### The reference's look -/
theorem enough_loop {Y : List Int} (hn : Y.length ≤ 14) : ∀ i, i ≤ Y.length → ∀ (rest : List Int) (T : Int), rest.length ≤ 1048576 → 0 ≤ T → T ≤ 65535 → (unt Y (fun j => !bitN T j) 0 Y.length).length ≤ Y.length - i →
    ∃ r : List Int, Ev (fun k => spec_l06Enough.l1 Y k T rest (i : Int)) r ∧ (r = [] ↔ FitP rest (unt Y (fun j => !bitN T j) 0 Y.length)) := by
  refine upL ?_ ?_
  · intro rest T hr t0 t1 hu
    rw [Nat.sub_self] at hu
    have e : unt Y (fun j => !bitN T j) 0 Y.length = [] := List.length_eq_zero_iff.1 (by omega)
    rw [e]
    exact ⟨rest, Ev.step (fun k => spec_l06Enough.l1.eq_2 _ _ _ _ _) (Ev.neg (by omega) (Ev.const rfl)), fit_empty.symm⟩
  · intro i hi ih rest T hr t0 t1 hu
    obtain ⟨l, l1, l2⟩ := leastY_loop hn t0 t1 0 (Nat.zero_le _) (-1) (.inl ⟨rfl, fun i hi => by omega⟩)
    rcases l2 with ⟨rfl, hall⟩ | ⟨a, rfl, ha, hba, hmin⟩
    · have e : unt Y (fun j => !bitN T j) 0 Y.length = [] := by
        refine List.eq_nil_iff_forall_not_mem.2 fun x hx => ?_
        obtain ⟨j, _, h2, h3, _⟩ := unt_mem.1 hx
        rw [hall j (by omega)] at h3; cases h3
      rw [e]
      exact ⟨rest, Ev.step (fun k => spec_l06Enough.l1.eq_2 _ _ _ _ _) (Ev.pos (by omega) (Ev.bind (a := (Sum.inl rest : (List Int) ⊕ ((List Int) × Int))) (Ev.bind l1 (Ev.bind (a := true) (Ev.pos (by omega) (Ev.const rfl)) (Ev.pos rfl (Ev.const rfl)))) (Ev.const rfl))), fit_empty.symm⟩
    · by_cases hr0 : rest = []
      · subst hr0
        exact ⟨[], Ev.step (fun k => spec_l06Enough.l1.eq_2 _ _ _ _ _) (Ev.pos (by omega) (Ev.bind (a := (Sum.inl [] : (List Int) ⊕ ((List Int) × Int))) (Ev.bind l1 (Ev.bind (a := true) (Ev.neg (by omega) (Ev.const rfl)) (Ev.pos rfl (Ev.const rfl)))) (Ev.const rfl))), ⟨fun _ => fit_nil _, fun _ => rfl⟩⟩
      · have hpos : 0 < rest.length := List.length_pos_iff.2 hr0
        obtain ⟨c, c1, c2, c3⟩ := small_loop hr 1 hpos 0 (by omega) (fun i hi => by
          have : i = 0 := by omega
          subst this; exact Int.le_refl _)
        have ec : rest.getD c 0 = rest[c] := by simp [List.getD_eq_getElem?_getD, c1]
        have ea : Y.getD a 0 = Y[a] := by simp [List.getD_eq_getElem?_getD, ha]
        have ua : IntKind.u64.wrap (a : Int) = (a : Int) := wu64 (by omega) (by omega)
        obtain ⟨o0, o1⟩ := or_in T (shlI .u16 1 (a : Int))
        obtain ⟨s1, s2⟩ := unt_split (Y := Y) (p := fun j => !bitN T j) (q := fun j => !bitN (orI .u16 T (shlI .u16 1 (a : Int))) j) ha (by simp [hba]) (fun j hj => by
          show (!bitN (orI .u16 T (shlI .u16 1 (a : Int))) j) = _
          rw [bit_put t0 t1 (by omega) (by omega)]; simp)
        have hlen : (unt Y (fun j => !bitN (orI .u16 T (shlI .u16 1 (a : Int))) j) 0 Y.length).length ≤ Y.length - (i + 1) := by
          rw [s1] at hu
          rw [s2]
          simp only [List.length_append, List.length_cons] at hu ⊢
          omega
        have hbv : ∀ v, cge (unt Y (fun j => !bitN T j) 0 Y.length) v = cge (unt Y (fun j => !bitN (orI .u16 T (shlI .u16 1 (a : Int))) j) 0 Y.length) v + if v ≤ Y[a] then 1 else 0 := fun v => by
          rw [s1, s2, cge_mid, ea]
        have hx : ∀ z ∈ rest, rest[c] ≤ z := fun z hz => by
          obtain ⟨j, hj, rfl⟩ := List.mem_iff_getElem.1 hz
          have := c3 j hj
          rw [ec] at this
          simpa [List.getD_eq_getElem?_getD, hj] using this
        have hy : ∀ z ∈ unt Y (fun j => !bitN T j) 0 Y.length, Y[a] ≤ z := fun z hz => by
          obtain ⟨j, _, h2, h3, rfl⟩ := unt_mem.1 hz
          rw [← ea]
          exact hmin j (by omega) (by simpa using h3)
        have hq : Ev (fun k => if ((a : Nat) : Int) < 0 then some true else some (decide ((rest.length : Int) = 0))) false := Ev.neg (by omega) (Ev.const (by rw [decide_eq_false (by omega)]))
        have hcu : chk (0 ≤ (IntKind.u64.wrap (a : Int))) = some () := chkT (by rw [ua]; omega)
        by_cases hle : rest[c] ≤ Y[a]
        · have wc : IntKind.i64.wrap ((c : Int) + 1) = ((c + 1 : Nat) : Int) := by rw [w64 (by omega) (by omega)]; omega
          have er : (([] : List Int) ++ ((rest.drop 0).take ((c : Int).toNat - 0))) ++ ((rest.drop ((IntKind.i64.wrap ((c : Int) + 1)).toNat)).take (rest.length - ((IntKind.i64.wrap ((c : Int) + 1)).toNat))) = rest.take c ++ rest.drop (c + 1) := by
            rw [wc, Int.toNat_natCast, Int.toNat_natCast, List.nil_append, List.drop_zero, Nat.sub_zero]
            congr 1
            exact List.take_of_length_le (by rw [List.length_drop]; omega)
          have esp : rest = rest.take c ++ rest[c] :: rest.drop (c + 1) := by
            rw [← List.drop_eq_getElem_cons c1, List.take_append_drop]
          obtain ⟨r, r1, r2⟩ := ih (rest.take c ++ rest.drop (c + 1)) (orI .u16 T (shlI .u16 1 (a : Int))) (by simp; omega) o0 o1 hlen
          rw [← wsucc hi (by omega)] at r1
          refine ⟨r, Ev.step (fun k => spec_l06Enough.l1.eq_2 _ _ _ _ _) (Ev.pos (by omega) (Ev.bind (a := (Sum.inr (rest.take c ++ rest.drop (c + 1), orI .u16 T (shlI .u16 1 (a : Int))) : (List Int) ⊕ ((List Int) × Int))) ?_ r1)), ?_⟩
          · refine l1.bind (Ev.bind hq (Ev.neg (by simp) (c2.bind ?_)))
            refine Ev.bind (Ev.const (getI_nat c1)) (Ev.bind (Ev.const (getI_nat ha)) (Ev.pos hle ?_))
            refine Ev.bind (Ev.const (chkT (by omega))) (Ev.bind (Ev.const (chkT (by rw [wc]; omega))) ?_)
            refine Ev.bind (Ev.const (chkT (by simp; omega))) (Ev.bind (Ev.const (chkT (by simp; omega))) (Ev.bind (Ev.const hcu) (Ev.const ?_)))
            rw [er, ua]
          · rw [r2]
            refine (fit_take (x := rest[c]) (y := Y[a]) (fun v => ?_) hbv ?_ hx hy hle).symm
            · conv => lhs; rw [esp]
              exact cge_mid _ _ _ _
            · simp; omega
        · obtain ⟨r, r1, r2⟩ := ih rest (orI .u16 T (shlI .u16 1 (a : Int))) hr o0 o1 hlen
          rw [← wsucc hi (by omega)] at r1
          refine ⟨r, Ev.step (fun k => spec_l06Enough.l1.eq_2 _ _ _ _ _) (Ev.pos (by omega) (Ev.bind (a := (Sum.inr (rest, orI .u16 T (shlI .u16 1 (a : Int))) : (List Int) ⊕ ((List Int) × Int))) (l1.bind (Ev.bind hq (Ev.neg (by simp) (c2.bind (Ev.bind (Ev.const (getI_nat c1)) (Ev.bind (Ev.const (getI_nat ha)) (Ev.neg hle (Ev.bind (Ev.const hcu) (Ev.const ?_))))))))) r1)), ?_⟩
          · rw [ua]
          · rw [r2]
            exact (fit_drop hbv hx (by omega)).symm
theorem enough_ev {N Y : List Int} (hn : Y.length ≤ 14) (hN : N.length ≤ 14) {at_ : Nat} (hat : at_ ≤ N.length) {T : Int} (t0 : 0 ≤ T) (t1 : T ≤ 65535) :
    ∃ r : Bool, Ev (fun k => spec_l06Enough.f k N Y (at_ : Int) T) r ∧ (r = true ↔ FitP (N.drop at_) (unt Y (fun j => !bitN T j) 0 Y.length)) := by
  have hl : (unt Y (fun j => !bitN T j) 0 Y.length).length ≤ Y.length - 0 := by
    unfold unt
    rw [List.length_map]
    exact Nat.le_trans (List.length_filter_le _ _) (by simp)
  have ed : (N.drop (at_ : Int).toNat).take (N.length - (at_ : Int).toNat) = N.drop at_ := by
    rw [Int.toNat_natCast]
    exact List.take_of_length_le (by rw [List.length_drop]; omega)
  obtain ⟨r, r1, r2⟩ := enough_loop hn 0 (Nat.zero_le _) (N.drop at_) T (by rw [List.length_drop]; omega) t0 t1 hl
  refine ⟨decide ((r.length : Int) = 0), Ev.bind (Ev.const (chkT (by omega))) (Ev.bind (Ev.const (chkT (by rw [ed]; simp; omega))) (Ev.bind (a := r) ?_ (Ev.const rfl))), ?_⟩
  · rw [ed]; exact r1
  · rw [decide_eq_true_eq, ← r2, ← List.length_eq_zero_iff]; omega
end Go.Proofs.YtonpnkppaflcbaaGreatDoor
