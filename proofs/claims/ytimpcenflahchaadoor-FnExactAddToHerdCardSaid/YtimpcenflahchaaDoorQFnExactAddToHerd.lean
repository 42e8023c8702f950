/-
  Plain law: AddToHerd of the program and of the reference answer alike.
-/
import Derived.Test.YtimpcenflahchaaDoorQJ
namespace Go.Proofs.YtimpcenflahchaaDoor
open G
set_option linter.unusedVariables false
set_option linter.unusedSimpArgs false
theorem addTo_ev {h : Herd} (v : VHerd h) (hs : smallH h) (s : ByteArray) (hz : s.size ≤ maxLen) (z : Int) : ∃ r : Herd × Int, smallH r.1 ∧ Ev (fun k => spec_AddToHerd.f k h s z) r ∧ Ev (fun k => impl_AddToHerd.f k h s z) r := by
  have h1 := specHerd_ev v
  have h2 := herdCode_ev v [] (by simp)
  have hn := isName_ev s hz
  have hn' := specName_ev s (Nat.le_trans hz (by decide))
  have hc := containsS_ev h.Names hs.1 s
  have hc' := named_ev h hs.1 s
  have hnew : Ev (fun k => (impl_isName.f k s).bind fun t4 => if t4 = true then ((slices_Contains_string_string.f k h.Names s).bind fun t5 => some (!t5)) else (some false)) (nameB s && !hasS h.Names s) := by
    refine hn.bind ?_
    cases nameB s
    · exact Ev.neg (by simp) (Ev.const rfl)
    · exact Ev.pos rfl (hc.bind (Ev.const rfl))
  have hg : goatC h [] = if vH h = false then 1 else 0 := by unfold goatC; simp
  rw [hg] at h2
  have hsm : smallH (⟨[], [], []⟩ : Herd) := ⟨by simp, by simp, by simp⟩
  have himp : ∀ c : Int, foL [if vH h = false then 1 else 0, if decide (0 ≤ z ∧ z ≤ 100) = true then 0 else 2, if (nameB s && !hasS h.Names s) = true then 0 else 4, if decide ((h.Names.length : Int) < 14) = true then 0 else 3] = c → c ≠ 0 → Ev (fun k => impl_AddToHerd.f k h s z) ((⟨[], [], []⟩ : Herd), c) := by
    intro c e hne
    refine Ev.bind hnew (Ev.bind h2 (Ev.bind (Ev.const (within_eq z 0 100)) (Ev.bind (Ev.const (unless_eq _ _)) (Ev.bind (Ev.const (unless_eq _ _)) (Ev.bind (Ev.const (many_eq h)) (Ev.bind (Ev.const (unless_eq _ _)) (Ev.bind (firstOf_ev _ (by simp)) ?_)))))))
    rw [e]
    exact Ev.pos hne (Ev.const rfl)
  cases hv : vH h
  · rw [hv] at h1
    exact ⟨_, hsm, h1.bind (Ev.const rfl), himp 1 (by rw [hv]; rfl) (by omega)⟩
  · rw [hv] at h1
    obtain ⟨n1, n2, n3⟩ := vH_len hv
    by_cases hz2 : 0 ≤ z ∧ z ≤ 100
    · cases hw : (nameB s && !hasS h.Names s)
      · refine ⟨_, hsm, h1.bind (Ev.neg (by simp) (Ev.bind (Ev.const (l00In_eq z 0 100)) (Ev.neg (by simp [hz2]) (Ev.bind (show Ev _ true from ?_) (Ev.pos rfl (Ev.const rfl)))))), himp 4 (by rw [hv, decide_eq_true hz2, hw]; rfl) (by omega)⟩
        refine hn'.bind ?_
        cases hnb : nameB s
        · exact Ev.pos rfl (Ev.const rfl)
        · refine Ev.neg (by simp) (hc'.bind (Ev.const ?_))
          rw [hnb] at hw
          cases hh : hasS h.Names s
          · rw [hh] at hw; cases hw
          · rfl
      · have hsp : Ev (fun k => (spec_l06Name.f k s).bind fun t6 => if (!t6) = true then (some true) else ((spec_l06Named.f k h s).bind fun t7 => some t7)) false := by
          refine hn'.bind ?_
          rw [Bool.and_eq_true] at hw
          rw [hw.1]
          refine Ev.neg (by simp) (hc'.bind (Ev.const ?_))
          have := hw.2
          cases hh : hasS h.Names s
          · rfl
          · rw [hh] at this; cases this
        by_cases hl : h.Names.length = 14
        · exact ⟨_, hsm, h1.bind (Ev.neg (by simp) (Ev.bind (Ev.const (l00In_eq z 0 100)) (Ev.neg (by simp [hz2]) (Ev.bind hsp (Ev.neg (by simp) (Ev.pos (by omega) (Ev.const rfl))))))), himp 3 (by rw [hv, decide_eq_true hz2, hw, decide_eq_false (by omega)]; rfl) (by omega)⟩
        · have e0 : foL [if vH h = false then 1 else 0, if decide (0 ≤ z ∧ z ≤ 100) = true then 0 else 2, if (nameB s && !hasS h.Names s) = true then 0 else 4, if decide ((h.Names.length : Int) < 14) = true then 0 else 3] = 0 := by rw [hv, decide_eq_true hz2, hw, decide_eq_true (show (h.Names.length : Int) < 14 by omega)]; rfl
          refine ⟨((⟨h.Names ++ [s], h.Eats ++ [IntKind.i16.wrap z], h.Foes ++ [0]⟩ : Herd), 0), ⟨by simp; omega, by simp; omega, by simp; omega⟩, h1.bind (Ev.neg (by simp) (Ev.bind (Ev.const (l00In_eq z 0 100)) (Ev.neg (by simp [hz2]) (Ev.bind hsp (Ev.neg (by simp) (Ev.neg (by omega) (Ev.bind (Ev.const (specOwn_eq h hs)) (Ev.bind (Ev.const (chkT (by simp; omega))) (Ev.bind (Ev.const (chkT (by simp; omega))) (Ev.bind (Ev.const (chkT (by simp; omega))) (Ev.const rfl))))))))))), ?_⟩
          refine Ev.bind hnew (Ev.bind h2 (Ev.bind (Ev.const (within_eq z 0 100)) (Ev.bind (Ev.const (unless_eq _ _)) (Ev.bind (Ev.const (unless_eq _ _)) (Ev.bind (Ev.const (many_eq h)) (Ev.bind (Ev.const (unless_eq _ _)) (Ev.bind (firstOf_ev _ (by simp)) ?_)))))))
          rw [e0]
          exact Ev.neg (by simp) (Ev.bind (Ev.const (implOwn_eq h hs)) (Ev.bind (Ev.const (chkT (by simp; omega))) (Ev.bind (Ev.const (chkT (by simp; omega))) (Ev.bind (Ev.const (chkT (by simp; omega))) (Ev.const rfl)))))
    · refine ⟨_, hsm, h1.bind (Ev.neg (by simp) (Ev.bind (Ev.const (l00In_eq z 0 100)) (Ev.pos (by simp [hz2]) (Ev.const rfl)))), himp 2 (by rw [hv, decide_eq_false hz2]; rfl) (by omega)⟩
theorem FnExactAddToHerd.pure (x0 : Herd) (hv0 : VHerd x0) (x1 : ByteArray) (hv1 : x1.size ≤ maxLen) (x2 : Int) (hv2 : inI .i64 x2) : ∃ k, laws_FnExactAddToHerd.f k x0 x1 x2 = some true := by
  refine Ev.get (r := true) ?_
  by_cases hx : 1048576 < (x1.size : Int)
  · exact Ev.pos hx (Ev.const rfl)
  refine Ev.neg hx ?_
  obtain ⟨r, hr, h⟩ := szHerd_ev x0 hv0 1048576 (by omega) (by omega)
  refine hr.bind ?_
  rcases h with rfl | ⟨a, c⟩
  · exact Ev.pos (by omega) (Ev.const rfl)
  · have hs : smallH x0 := ⟨by omega, by omega, by omega⟩
    have ht := toHerd_ev x0 hs
    have he := eqHerd_ev x0 x0 hs
    rw [decide_eq_true rfl] at he
    obtain ⟨⟨g, c⟩, hl, h1, h2⟩ := addTo_ev hv0 hs x1 hv1 x2
    have hl : smallH g := hl
    have hq := sameH_ev g hl c
    have hm := markH_ev x0 hs 1 (by omega) (by omega)
    have hk := markH_ev g hl 1 (by omega) (by omega)
    have hd := heldH_ev g.Names.length g.Eats.length g.Foes.length hl.1 hl.2.1 hl.2.2
    exact Ev.neg (by omega) (ht.bind (h1.bind (ht.bind (h2.bind (Ev.bind hq (Ev.neg (by simp) (ht.bind (he.bind (Ev.neg (by simp) (hm.bind (Ev.bind (Ev.neg (by show ¬ (1 + (x0.Names.length : Int) + x0.Eats.length + x0.Foes.length) < 0; omega) hq) (Ev.neg (by simp) (hk.bind (hd.bind (Ev.neg (by omega) (Ev.neg (by simp) (ht.bind (h2.bind (Ev.bind hq (Ev.neg (by simp) (hd.bind (Ev.neg (by omega) (Ev.neg (by simp) (Ev.const rfl))))))))))))))))))))))))
end Go.Proofs.YtimpcenflahchaaDoor
