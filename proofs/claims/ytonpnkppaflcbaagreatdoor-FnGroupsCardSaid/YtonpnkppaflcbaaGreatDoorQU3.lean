/-
  Plain law: the largest set of goats: none that is accepted has more.
-/
import Derived.Test.YtonpnkppaflcbaaGreatDoorQL2
namespace Go.Proofs.YtonpnkppaflcbaaGreatDoor
open G
set_option linter.unusedVariables false
set_option linter.unusedSimpArgs false
/-! ### All sets -/
/-- How many goats a set has. -/
def many (h : Herd) (s : Nat) : Nat := (bl (s : Int) 0 h.Names.length).length
def goodS (f : Bool) (h : Herd) (s : Nat) : Bool := upA (okAt f h (s : Int)) 0 h.Names.length
theorem sets_loop {h : Herd} (v : VHerd h) (hv : vH h = true) (f : Bool) : ∀ s : Nat, s ≤ 2 ^ h.Names.length → ∀ b : Nat, b < 2 ^ h.Names.length → goodS f h b = true → ∃ c : Nat, c < 2 ^ h.Names.length ∧ goodS f h c = true ∧ many h b ≤ many h c ∧ (∀ s', s ≤ s' → s' < 2 ^ h.Names.length → goodS f h s' = true → many h s' ≤ many h c) ∧
    Ev (fun k => spec_l06Largest.l1 h f k (bl (b : Int) 0 h.Names.length) (s : Int)) (bl (c : Int) 0 h.Names.length) ∧
    Ev (fun k => impl_Herd_largest.l1 h f k (b : Int) (s : Int)) (c : Int) := by
  obtain ⟨n1, n2, n3⟩ := vH_len hv
  have hp : 2 ^ h.Names.length ≤ 2 ^ 14 := Nat.pow_le_pow_right (by omega) n1
  have hu : IntKind.u64.wrap (h.Names.length : Int) = (h.Names.length : Int) := wu64 (by omega) (by omega)
  have hsh : shlI .i64 1 (IntKind.u64.wrap (h.Names.length : Int)) = ((2 ^ h.Names.length : Nat) : Int) := by
    have : ∀ i : Fin 15, shlI .i64 1 ((i : Nat) : Int) = ((2 ^ (i : Nat) : Nat) : Int) := by decide
    rw [hu]; exact this ⟨h.Names.length, by omega⟩
  have hsh2 : shlI .u32 1 (h.Names.length : Int) = ((2 ^ h.Names.length : Nat) : Int) := by
    have : ∀ i : Fin 15, shlI .u32 1 ((i : Nat) : Int) = ((2 ^ (i : Nat) : Nat) : Int) := by decide
    exact this ⟨h.Names.length, by omega⟩
  have hc : chk (0 ≤ (IntKind.u64.wrap (h.Names.length : Int))) = some () := chkT (by omega)
  have hhigh : ∀ b : Nat, b < 2 ^ h.Names.length → ∀ j, h.Names.length ≤ j → bitN (b : Int) j = false := fun b hb j hj => by
    rcases Nat.lt_or_ge 16 j with h1 | h1
    · refine bit_high (by omega) (by omega) (n := 16) ?_ (by omega)
      rw [shr_nat (by omega), Nat.div_eq_of_lt (by omega)]; rfl
    · rw [bit_nat (by omega) h1]
      exact Nat.testBit_lt_two_pow (Nat.lt_of_lt_of_le hb (Nat.pow_le_pow_right (by omega) hj))
  have hcut : ∀ b : Nat, b < 2 ^ h.Names.length → bl (b : Int) 0 16 = bl (b : Int) 0 h.Names.length := fun b hb => bl_cut (by omega) (hhigh b hb)
  refine upL ?_ ?_
  · intro b hb hgb
    exact ⟨b, hb, hgb, Nat.le_refl _, (fun s' h1 h2 => by omega), Ev.step (fun k => spec_l06Largest.l1.eq_2 _ _ _ _ _) (Ev.bind (Ev.const hc) (Ev.neg (by rw [hsh]; omega) (Ev.const rfl))), Ev.step (fun k => impl_Herd_largest.l1.eq_2 _ _ _ _ _) (Ev.neg (by rw [hsh2]; omega) (Ev.const rfl))⟩
  · intro s hs ih b hb hgb
    have hw : IntKind.u16.wrap (s : Int) = (s : Int) := wu16 (by omega) (by omega)
    have hn1 : IntKind.i64.wrap ((s : Int) + 1) = ((s + 1 : Nat) : Int) := wsucc hs (by omega)
    have hn2 : IntKind.u32.wrap ((s : Int) + 1) = ((s + 1 : Nat) : Int) := by
      show ((s : Int) + 1) % 4294967296 = _
      omega
    obtain ⟨⟨ls, gd⟩, q1, q2, q3⟩ := l2_loop v hv f (s := s) (by omega) 0 (Nat.zero_le _)
    have q0 : bl (s : Int) 0 0 = [] := rfl
    rw [q0] at q1
    have hls := listed_ev (s : Int)
    have hlb := listed_ev (b : Int)
    have i2 := i2_loop v f (s := s) (by omega) (ys := bl (s : Int) 0 16) (fun x hx => by rw [hcut s hs] at hx; obtain ⟨j, _, h2, _, rfl⟩ := mem_bl.1 hx; omega) (bl_len _ _ _) 0 (Nat.zero_le _) true
    rw [List.drop_zero, Bool.true_and, ← good_iff v hv (by omega) (by omega) (hhigh s hs)] at i2
    have q2 : gd = upA (okAt f h s) 0 h.Names.length := q2
    rw [← q2] at i2
    have o1 := onesCount_eq (s := s) (by omega)
    have o2 := onesCount_eq (s := b) (by omega)
    rw [hcut s hs] at o1 hls
    rw [hcut b hb] at o2 hlb
    have b1 := bl_len (s : Int) 0 h.Names.length
    have b2 := bl_len (b : Int) 0 h.Names.length
    -- what the two make of this set
    have key : ∃ c : Nat, c < 2 ^ h.Names.length ∧ goodS f h c = true ∧ many h b ≤ many h c ∧ (goodS f h s = true → many h s ≤ many h c) ∧
        Ev (fun k => (spec_l06Largest.l2 h f (s : Int) k ([] : List Int) true 0).bind fun (y14, y17) => if y17 = true then (if ((bl (b : Int) 0 h.Names.length).length : Int) < (y14.length : Int) then (some y14) else (if (y14.length : Int) = ((bl (b : Int) 0 h.Names.length).length : Int) then ((spec_l06Less.f k y14 (bl (b : Int) 0 h.Names.length)).bind fun t38 => if t38 = true then (some y14) else (some (bl (b : Int) 0 h.Names.length))) else (some (bl (b : Int) 0 h.Names.length)))) else (some (bl (b : Int) 0 h.Names.length))) (bl (c : Int) 0 h.Names.length) ∧
        Ev (fun k => if gd = true then (if 0 < (IntKind.i64.wrap (((bl (s : Int) 0 h.Names.length).length : Int) - ((bl (b : Int) 0 h.Names.length).length : Int))) then (some (IntKind.u16.wrap (s : Int))) else (if (IntKind.i64.wrap (((bl (s : Int) 0 h.Names.length).length : Int) - ((bl (b : Int) 0 h.Names.length).length : Int))) = 0 then ((impl_listed.f k (IntKind.u16.wrap (s : Int))).bind fun t19 => (impl_listed.f k (b : Int)).bind fun t22 => (slices_Compare_int64_int64.f k t19 t22).bind fun t25 => if t25 < 0 then (some (IntKind.u16.wrap (s : Int))) else (some (b : Int))) else (some (b : Int)))) else (some (b : Int))) (c : Int) := by
      rw [hw, w64 (by omega) (by omega)]
      cases gd
      · exact ⟨b, hb, hgb, Nat.le_refl _, (fun hg => by rw [show goodS f h s = false from q2.symm] at hg; cases hg), q1.bind (Ev.neg (by simp) (Ev.const rfl)), Ev.neg (by simp) (Ev.const rfl)⟩
      · obtain rfl : ls = bl (s : Int) 0 h.Names.length := q3 rfl
        by_cases c1 : ((bl (b : Int) 0 h.Names.length).length : Int) < ((bl (s : Int) 0 h.Names.length).length : Int)
        · exact ⟨s, hs, q2.symm, by unfold many; omega, fun _ => Nat.le_refl _, q1.bind (Ev.pos rfl (Ev.pos c1 (Ev.const rfl))), Ev.pos rfl (Ev.pos (by omega) (Ev.const rfl))⟩
        · by_cases c2 : ((bl (s : Int) 0 h.Names.length).length : Int) = ((bl (b : Int) 0 h.Names.length).length : Int)
          · obtain ⟨r, z, z1, z2, z3⟩ := lex_ev (a := bl (s : Int) 0 h.Names.length) (b := bl (b : Int) 0 h.Names.length) (by omega) (by omega)
            cases r
            · exact ⟨b, hb, hgb, Nat.le_refl _, (fun _ => by unfold many; omega), q1.bind (Ev.pos rfl (Ev.neg c1 (Ev.pos c2 (z1.bind (Ev.neg (by simp) (Ev.const rfl)))))), Ev.pos rfl (Ev.neg (by omega) (Ev.pos (by omega) (hls.bind (hlb.bind (z2.bind (Ev.neg (fun e => by have := z3.2 e; cases this) (Ev.const rfl)))))))⟩
            · exact ⟨s, hs, q2.symm, by unfold many; omega, fun _ => Nat.le_refl _, q1.bind (Ev.pos rfl (Ev.neg c1 (Ev.pos c2 (z1.bind (Ev.pos rfl (Ev.const rfl)))))), Ev.pos rfl (Ev.neg (by omega) (Ev.pos (by omega) (hls.bind (hlb.bind (z2.bind (Ev.pos (z3.1 rfl) (Ev.const rfl)))))))⟩
          · exact ⟨b, hb, hgb, Nat.le_refl _, (fun _ => by unfold many; omega), q1.bind (Ev.pos rfl (Ev.neg c1 (Ev.neg c2 (Ev.const rfl)))), Ev.pos rfl (Ev.neg (by omega) (Ev.neg (by omega) (Ev.const rfl)))⟩
    obtain ⟨c, hcl, hgc, hbc, hsc, k1, k2⟩ := key
    obtain ⟨d, hd, hgd, hcd, hmx, d1, d2⟩ := ih c hcl hgc
    have hls' : Ev (fun k => impl_listed.f k (IntKind.u16.wrap (s : Int))) (bl (s : Int) 0 h.Names.length) := by rw [hw]; exact hls
    have o1' : math_bits_OnesCount16.f (IntKind.u16.wrap (s : Int)) = _ := (congrArg math_bits_OnesCount16.f hw).trans o1
    rw [hcut s hs] at i2
    refine ⟨d, hd, hgd, by omega, (fun s' h1 h2 h3 => by
      rcases Nat.eq_or_lt_of_le h1 with rfl | h1
      · have := hsc h3; omega
      · exact hmx s' h1 h2 h3), Ev.step (fun k => spec_l06Largest.l1.eq_2 _ _ _ _ _) (Ev.bind (Ev.const hc) (Ev.pos (by rw [hsh]; omega) (Ev.bind k1 ?_))), Ev.step (fun k => impl_Herd_largest.l1.eq_2 _ _ _ _ _) (Ev.pos (by rw [hsh2]; omega) (Ev.bind (hls'.bind (i2.bind (Ev.bind (Ev.const o1') (Ev.bind (Ev.const o2) k2)))) ?_))⟩
    · rw [hn1]; exact d1
    · rw [hn2]; exact d2
theorem largest_ev {h : Herd} (v : VHerd h) (hv : vH h = true) (f : Bool) : ∃ c : Nat, c < 2 ^ h.Names.length ∧ goodS f h c = true ∧ (∀ s', s' < 2 ^ h.Names.length → goodS f h s' = true → many h s' ≤ many h c) ∧ Ev (fun k => spec_l06Largest.f k h f) (bl (c : Int) 0 h.Names.length) ∧ Ev (fun k => impl_Herd_largest.f k h f) (bl (c : Int) 0 h.Names.length) := by
  obtain ⟨n1, n2, n3⟩ := vH_len hv
  have hg0 : goodS f h 0 = true := (upA_iff _ _ _).2 fun j _ hj => by
    unfold okAt
    have : bitN ((0 : Nat) : Int) j = false := by rw [bit_nat (by omega) (by omega)]; simp
    rw [this]; rfl
  obtain ⟨c, hc, hgc, _, hmx, h1, h2⟩ := sets_loop v hv f 0 (Nat.zero_le _) 0 (Nat.two_pow_pos _) hg0
  have hp : 2 ^ h.Names.length ≤ 2 ^ 14 := Nat.pow_le_pow_right (by omega) n1
  have e0 : bl ((0 : Nat) : Int) 0 h.Names.length = [] := by
    unfold bl
    rw [List.map_eq_nil_iff, List.filter_eq_nil_iff]
    intro j hj
    rw [List.mem_range'_1] at hj
    rw [bit_nat (by omega) (by omega)]; simp
  rw [e0] at h1
  have hl := listed_ev (c : Int)
  have e1 : bl (c : Int) 0 16 = bl (c : Int) 0 h.Names.length := bl_cut (by omega) fun j hj => by
    rcases Nat.lt_or_ge 16 j with h1 | h1
    · refine bit_high (by omega) (by omega) (n := 16) ?_ (by omega)
      rw [shr_nat (by omega), Nat.div_eq_of_lt (by omega)]; rfl
    · rw [bit_nat (by omega) h1]
      exact Nat.testBit_lt_two_pow (Nat.lt_of_lt_of_le hc (Nat.pow_le_pow_right (by omega) hj))
  rw [e1] at hl
  exact ⟨c, hc, hgc, fun s' h1 h2 => hmx s' (Nat.zero_le _) h1 h2, h1.bind (Ev.const rfl), Ev.bind (Ev.const (chkT (by omega))) (h2.bind (hl.bind (Ev.const rfl)))⟩
end Go.Proofs.YtonpnkppaflcbaaGreatDoor
