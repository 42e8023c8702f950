/-
  Plain law: ReadHerd of the program and of the reference answer alike, whatever the text.
-/
import Derived.Test.YtplfdbfdalaefaaGreatDoorR2
import Derived.Test.YtplfdbfdalaefaaGreatDoorQJ0
namespace Go.Proofs.YtplfdbfdalaefaaGreatDoor
open G
set_option linter.unusedVariables false
set_option linter.unusedSimpArgs false
def noH : Herd := ⟨[], [], []⟩
/-- What has been read of a herd. -/
structure RD (N : List ByteArray) (E F : List Int) (n : Nat) : Prop where
  n14 : n ≤ 14
  nN : N.length = n
  nE : E.length = n
  nF : F.length = n
  sN : ∀ s ∈ N, s.size ≤ 1048576
  sE : ∀ x ∈ E, 0 ≤ x ∧ x ≤ 100
  sF : ∀ x ∈ F, in16 x
theorem RD.nil : RD [] [] [] 0 := ⟨by omega, rfl, rfl, rfl, by simp, by simp, by simp⟩
theorem RD.snoc {N : List ByteArray} {E F : List Int} {n : Nat} (h : RD N E F n) {s : ByteArray} {x : Int} (hn : n < 14) (hs : s.size ≤ 1048576) (hx : 0 ≤ x ∧ x ≤ 100) : RD (N ++ [s]) (E ++ [x]) (F ++ [0]) (n + 1) := by
  have a := h.nN
  have b := h.nE
  have c := h.nF
  refine ⟨by omega, by simp; omega, by simp; omega, by simp; omega, fun z hz => ?_, fun z hz => ?_, fun z hz => ?_⟩
  · rcases List.mem_append.1 hz with hz | hz
    · exact h.sN z hz
    · rw [List.mem_singleton.1 hz]; exact hs
  · rcases List.mem_append.1 hz with hz | hz
    · exact h.sE z hz
    · rw [List.mem_singleton.1 hz]; exact hx
  · rcases List.mem_append.1 hz with hz | hz
    · exact h.sF z hz
    · rw [List.mem_singleton.1 hz]; exact zero16
theorem RD.V {N : List ByteArray} {E F : List Int} {n : Nat} (h : RD N E F n) : VHerd ⟨N, E, F⟩ := by
  have a := h.nN
  have b := h.nE
  have c := h.nF
  have d := h.n14
  have i16 : ∀ x : Int, 0 ≤ x ∧ x ≤ 100 → (inI .i16) x := fun x hx => by
    have h1 : IntKind.i16.min = -32768 := by decide
    have h2 : IntKind.i16.max = 32767 := by decide
    exact ⟨by rw [h1]; omega, by rw [h2]; omega⟩
  have u16 : ∀ x : Int, in16 x → (inI .u16) x := fun x hx => by
    have h1 : IntKind.u16.min = 0 := by decide
    have h2 : IntKind.u16.max = 65535 := by decide
    obtain ⟨p, q⟩ := hx
    exact ⟨by rw [h1]; omega, by rw [h2]; omega⟩
  have mx : 1048576 ≤ maxLen := by unfold maxLen; omega
  exact ⟨fun z hz => Nat.le_trans (h.sN z hz) mx, by show N.length ≤ _; omega, fun z hz => i16 z (h.sE z hz), by show E.length ≤ _; omega, fun z hz => u16 z (h.sF z hz), by show F.length ≤ _; omega⟩
theorem num_tot (s : ByteArray) (hs : s.size ≤ 1048576) : ∃ r : Int × Bool, impl_number.f s 100 = some r ∧ (r.2 = true → 0 ≤ r.1 ∧ r.1 ≤ 100) := by
  rw [number_eq _ _ (by omega) (by omega)]
  split
  · rename_i hc
    exact ⟨_, rfl, fun _ => ⟨Int.natCast_nonneg _, hc.2⟩⟩
  · exact ⟨_, rfl, fun h => by cases h⟩
theorem specNum_tot (s : ByteArray) (hs : s.size ≤ 1048576) : ∃ r : Int × Bool, Ev (fun k => spec_l01Number.f k s) r ∧ (r.2 = true → 0 ≤ r.1) := by
  refine ⟨_, specNum_ev s hs, ?_⟩
  unfold numL
  split
  · exact fun _ => Int.natCast_nonneg _
  · exact fun h => by cases h
theorem splitB (s : ByteArray) (c : UInt8) (hs : s.size ≤ 1048576) : ((spl c s.data.toList).map toB).length ≤ 1048577 ∧ (∀ w ∈ (spl c s.data.toList).map toB, w.size ≤ 1048576) ∧ 1 ≤ ((spl c s.data.toList).map toB).length := by
  have hl : s.data.toList.length ≤ 1048576 := by rw [← size_toList]; exact hs
  obtain ⟨h1, h2⟩ := spl_len c _ _ (Nat.le_refl s.data.toList.length)
  refine ⟨by rw [List.length_map]; omega, fun w hw => ?_, ?_⟩
  · obtain ⟨x, hx, rfl⟩ := List.mem_map.1 hw
    have := h2 x hx
    rw [toB_size]; omega
  · rw [List.length_map]
    exact List.length_pos_iff.2 (spl_ne c _)
/-! ### The program -/
theorem implT1 : ∀ (ls : List ByteArray), (∀ l ∈ ls, l.size ≤ 1048576) → ∀ (ts : List (List ByteArray)) (N : List ByteArray) (E F : List Int), RD N E F ts.length → (∀ t ∈ ts, t.length ≤ 1048577) →
    ∃ r, Ev (fun k => impl_ReadHerd.l1 k ls ts N E F) r ∧ (r = .inl (noH, 5) ∨ ∃ ts' N' E' F', r = .inr (ts', N', E', F') ∧ RD N' E' F' ts'.length ∧ ∀ t ∈ ts', t.length ≤ 1048577)
  | [], _, ts, N, E, F, h, ht => ⟨_, Ev.const rfl, .inr ⟨ts, N, E, F, rfl, h, ht⟩⟩
  | line :: ls, hls, ts, N, E, F, h, ht => by
    have hl := hls line (by simp)
    obtain ⟨t, t1, t2⟩ := trim_tot line (by omega)
    obtain ⟨w1, w2, w3⟩ := splitB t 32 (by omega)
    have hsp : strings_Split.f t (⟨#[32]⟩ : ByteArray) = some ((spl 32 t.data.toList).map toB) := by
      unfold strings_Split.f
      rw [chkX ⟨by omega, Nat.le_refl _⟩, Option.bind_some, split_spl]
    generalize (spl 32 t.data.toList).map toB = ws at w1 w2 w3 hsp
    by_cases c1 : ws.length < 2
    · exact ⟨.inl (noH, 5), Ev.bind (Ev.const t1) (Ev.bind (Ev.const hsp) (Ev.bind (a := true) (Ev.pos (by omega) (Ev.const rfl)) (Ev.pos rfl (Ev.const rfl)))), .inl rfl⟩
    · by_cases c2 : ts.length = 14
      · exact ⟨.inl (noH, 5), Ev.bind (Ev.const t1) (Ev.bind (Ev.const hsp) (Ev.bind (a := true) (Ev.neg (by omega) (Ev.const (by rw [decide_eq_true (by omega)]))) (Ev.pos rfl (Ev.const rfl)))), .inl rfl⟩
      · have g1 : getI ws 1 = some ws[1] := getI_nat (i := 1) (by omega)
        have g0 : getI ws 0 = some ws[0] := getI_nat (i := 0) (by omega)
        obtain ⟨r, r1, r2⟩ := num_tot ws[1] (w2 _ (List.getElem_mem _))
        have e0 : ∀ {α : Type} {f : Bool → Nat → Option α} {v : α}, Ev (fun k => f false k) v → Ev (fun k => (if (ws.length : Int) < 2 then some true else some (decide ((ts.length : Int) = 14))).bind fun y => f y k) v := fun hf => Ev.bind (a := false) (Ev.neg (by omega) (Ev.const (by rw [decide_eq_false (by omega)]))) hf
        cases hr : r.2
        · exact ⟨.inl (noH, 5), Ev.bind (Ev.const t1) (Ev.bind (Ev.const hsp) (Ev.bind (a := false) (Ev.neg (by omega) (Ev.const (by rw [decide_eq_false (by omega)]))) (Ev.neg (by simp) (Ev.bind (Ev.const g1) (Ev.bind (Ev.const r1) (Ev.pos (by rw [hr]; rfl) (Ev.const rfl))))))), .inl rfl⟩
        · have hx := r2 hr
          have we : IntKind.i16.wrap r.1 = r.1 := w16 (by omega) (by omega)
          have a := h.nN
          have b := h.nE
          have c := h.nF
          have d := h.n14
          have hnew := h.snoc (s := ws[0]) (x := r.1) (by omega) (w2 _ (List.getElem_mem _)) hx
          obtain ⟨q, q1, q2⟩ := implT1 ls (fun l hl => hls l (List.mem_cons_of_mem _ hl)) (ts ++ [ws.drop 2]) (N ++ [ws[0]]) (E ++ [r.1]) (F ++ [0]) (by rw [List.length_append]; exact hnew) (fun t ht' => by
            rcases List.mem_append.1 ht' with h' | h'
            · exact ht t h'
            · rw [List.mem_singleton.1 h', List.length_drop]; omega)
          rw [← we] at q1
          exact ⟨q, Ev.bind (Ev.const t1) (Ev.bind (Ev.const hsp) (Ev.bind (a := false) (Ev.neg (by omega) (Ev.const (by rw [decide_eq_false (by omega)]))) (Ev.neg (by simp) (Ev.bind (Ev.const g1) (Ev.bind (Ev.const r1) (Ev.neg (by rw [hr]; simp) (Ev.bind (Ev.const g0) (Ev.bind (Ev.const (chkX (by simp; omega))) (Ev.bind (Ev.const (chkX (by simp; omega))) (Ev.bind (Ev.const (chkX (by simp; omega))) (Ev.bind (Ev.const (chkX (by omega))) (Ev.bind (Ev.const (chkX (by simp; omega))) q1)))))))))))), q2⟩
theorem implT3 {N : List ByteArray} (hN : N.length ≤ 14) {i : Nat} {ws : List ByteArray} (hw : ws.length ≤ 1048577) : ∀ w, w ≤ ws.length → ∀ F : List Int, i < F.length → (∀ x ∈ F, in16 x) →
    ∃ r, Ev (fun k => impl_ReadHerd.l3 N (i : Int) ws k F (w : Int)) r ∧ (r = .inl (.inl (.inl (noH, 5))) ∨ ∃ F', r = .inr F' ∧ F'.length = F.length ∧ ∀ x ∈ F', in16 x) := by
  refine upL ?_ ?_
  · intro F hi hF
    exact ⟨.inr F, Ev.step (fun k => impl_ReadHerd.l3.eq_2 _ _ _ _ _ _) (Ev.neg (by omega) (Ev.const rfl)), .inr ⟨F, rfl, rfl, hF⟩⟩
  · intro w hw' ih F hi hF
    obtain ⟨r, r1, r2⟩ := index_loop N (by omega) ws[w] 0 (Nat.zero_le _)
    have gF := getI_nat hi
    rcases r2 with ⟨rfl, _⟩ | ⟨j, hj, rfl, _⟩
    · have hx : Ev (fun k => slices_Index_string_string.f k N ws[w]) (-1) := r1.bind (Ev.const rfl)
      exact ⟨.inl (.inl (.inl (noH, 5))), Ev.step (fun k => impl_ReadHerd.l3.eq_2 _ _ _ _ _ _) (Ev.pos (by omega) (Ev.bind (Ev.const (getI_nat hw')) (hx.bind (Ev.pos (by omega) (Ev.const rfl))))), .inl rfl⟩
    · have hx : Ev (fun k => slices_Index_string_string.f k N ws[w]) j := r1.bind (Ev.const rfl)
      obtain ⟨q, q1, q2⟩ := ih (F.set i (orI .u16 F[i] (shlI .u16 1 j))) (by simpa using hi) (fun x hx => by
        rcases List.mem_or_eq_of_mem_set hx with hx | rfl
        · exact hF x hx
        · exact or_in _ _)
      rw [← wsucc hw' (by omega)] at q1
      refine ⟨q, Ev.step (fun k => impl_ReadHerd.l3.eq_2 _ _ _ _ _ _) (Ev.pos (by omega) (Ev.bind (Ev.const (getI_nat hw')) (hx.bind (Ev.neg (by omega) (Ev.bind (Ev.const gF) (Ev.bind (Ev.const (chkX hj)) (Ev.bind (Ev.const gF) ?_))))))), ?_⟩
      · rw [Int.toNat_natCast]; exact q1
      · rw [List.length_set] at q2; exact q2
theorem implT2 {N : List ByteArray} (hN : N.length ≤ 14) {ts : List (List ByteArray)} (hl : ts.length ≤ 14) (ht : ∀ t ∈ ts, t.length ≤ 1048577) : ∀ i, i ≤ ts.length → ∀ F : List Int, F.length = ts.length → (∀ x ∈ F, in16 x) →
    ∃ r, Ev (fun k => impl_ReadHerd.l2 ts N k F (i : Int)) r ∧ (r = .inl (noH, 5) ∨ ∃ F', r = .inr F' ∧ F'.length = ts.length ∧ ∀ x ∈ F', in16 x) := by
  refine upL ?_ ?_
  · intro F hF hx
    exact ⟨.inr F, Ev.step (fun k => impl_ReadHerd.l2.eq_2 _ _ _ _ _) (Ev.neg (by omega) (Ev.const rfl)), .inr ⟨F, rfl, hF, hx⟩⟩
  · intro i hi ih F hF hx
    obtain ⟨r, r1, r2⟩ := implT3 hN (i := i) (ht _ (List.getElem_mem hi)) 0 (Nat.zero_le _) F (by omega) hx
    rcases r2 with rfl | ⟨F', rfl, f1, f2⟩
    · exact ⟨.inl (noH, 5), Ev.step (fun k => impl_ReadHerd.l2.eq_2 _ _ _ _ _) (Ev.pos (by omega) (Ev.bind (a := (.inl (.inl (noH, 5)) : ((Herd × Int) ⊕ List Int) ⊕ List Int)) (Ev.bind (Ev.const (getI_nat hi)) (r1.bind (Ev.const rfl))) (Ev.const rfl))), .inl rfl⟩
    · obtain ⟨q, q1, q2⟩ := ih F' (by omega) f2
      rw [← wsucc hi (by omega)] at q1
      exact ⟨q, Ev.step (fun k => impl_ReadHerd.l2.eq_2 _ _ _ _ _) (Ev.pos (by omega) (Ev.bind (a := (.inr F' : ((Herd × Int) ⊕ List Int) ⊕ List Int)) (Ev.bind (Ev.const (getI_nat hi)) (r1.bind (Ev.const rfl))) q1)), q2⟩
theorem implText_tot {h : Herd} (v : VHerd h) : ∃ t, Ev (fun k => impl_HerdText.f k h) t := by
  cases hv : vH h
  · have h2 := implHerd_ev v
    rw [hv] at h2
    exact ⟨_, h2.bind (Ev.pos (by simp) (Ev.const rfl))⟩
  · exact ⟨_, implText v hv⟩
theorem implTot (a : ByteArray) (hs : a.size ≤ 1048576) : ∃ r : Herd × Int, Ev (fun k => impl_ReadHerd.f k a) r ∧ (r = (noH, 5) ∨ ∃ h : Herd, VHerd h ∧ r = (h, 0) ∧ Ev (fun k => impl_HerdText.f k h) a) := by
  obtain ⟨r, r1, r2⟩ := implT1 (linesB a) (fun l hl => by have := lines_size a l hl; omega) [] [] [] [] RD.nil (by simp)
  rcases r2 with rfl | ⟨ts, N, E, F, rfl, hR, ht⟩
  · exact ⟨(noH, 5), Ev.bind (Ev.const (chkX (by omega))) (r1.bind (Ev.const rfl)), .inl rfl⟩
  · have a1 := hR.nN
    have a2 := hR.nF
    have a3 := hR.n14
    obtain ⟨q, q1, q2⟩ := implT2 (N := N) (by omega) (ts := ts) (by omega) ht 0 (Nat.zero_le _) F a2 hR.sF
    rcases q2 with rfl | ⟨F', rfl, f1, f2⟩
    · exact ⟨(noH, 5), Ev.bind (Ev.const (chkX (by omega))) (r1.bind (q1.bind (Ev.const rfl))), .inl rfl⟩
    · have hR' : RD N E F' ts.length := ⟨a3, a1, hR.nE, f1, hR.sN, hR.sE, f2⟩
      obtain ⟨t, t2⟩ := implText_tot hR'.V
      by_cases c : t = a
      · subst c
        exact ⟨(⟨N, E, F'⟩, 0), Ev.bind (Ev.const (chkX (by omega))) (r1.bind (q1.bind (t2.bind (Ev.neg (by simp) (Ev.const rfl))))), .inr ⟨_, hR'.V, rfl, t2⟩⟩
      · exact ⟨(noH, 5), Ev.bind (Ev.const (chkX (by omega))) (r1.bind (q1.bind (t2.bind (Ev.pos c (Ev.const rfl))))), .inl rfl⟩
/-! ### The reference -/
theorem specT1 {ls : List ByteArray} {n : Nat} (hn : n ≤ 14) (hlen : ls.length = n + 1) (hls : ∀ l ∈ ls, l.size ≤ 1048576) : ∀ i, i ≤ n → ∀ (N : List ByteArray) (E F : List Int), RD N E F i →
    ∃ r, Ev (fun k => spec_ReadHerd.l1 ls k (i : Int) N E F) r ∧ (r = .inl (noH, 5) ∨ ∃ N' E' F', r = .inr (N', E', F') ∧ RD N' E' F' n) := by
  have hw : IntKind.i64.wrap ((ls.length : Int) - 1) = (n : Int) := by rw [w64 (by omega) (by omega)]; omega
  refine upL ?_ ?_
  · intro N E F h
    exact ⟨.inr (N, E, F), Ev.step (fun k => spec_ReadHerd.l1.eq_2 _ _ _ _ _ _) (Ev.neg (by rw [hw]; omega) (Ev.const rfl)), .inr ⟨N, E, F, rfl, h⟩⟩
  · intro i hi ih N E F h
    have gi := getI_nat (xs := ls) (i := i) (by omega)
    have hs := hls _ (List.getElem_mem (l := ls) (n := i) (by omega))
    have sp := specSplit_ev ls[i] 32 hs
    obtain ⟨w1, w2, w3⟩ := splitB ls[i] 32 hs
    have sp : Ev (fun k => spec_l01Split.f k ls[i] 32) ((spl 32 (ls[i]).data.toList).map toB) := sp
    generalize (spl 32 (ls[i]).data.toList).map toB = ws at w1 w2 w3 sp
    by_cases c1 : ws.length < 2
    · exact ⟨.inl (noH, 5), Ev.step (fun k => spec_ReadHerd.l1.eq_2 _ _ _ _ _ _) (Ev.pos (by rw [hw]; omega) (Ev.bind (Ev.const gi) (sp.bind (Ev.pos (by omega) (Ev.const rfl))))), .inl rfl⟩
    · have g1 : getI ws 1 = some ws[1] := getI_nat (i := 1) (by omega)
      have g0 : getI ws 0 = some ws[0] := getI_nat (i := 0) (by omega)
      obtain ⟨r, r1, r2⟩ := specNum_tot ws[1] (w2 _ (List.getElem_mem _))
      by_cases c2 : r.2 = true ∧ r.1 ≤ 100
      · have hx : 0 ≤ r.1 ∧ r.1 ≤ 100 := ⟨r2 c2.1, c2.2⟩
        have we : IntKind.i16.wrap r.1 = r.1 := w16 (by omega) (by omega)
        have a := h.nN
        have b := h.nE
        have c := h.nF
        obtain ⟨q, q1, q2⟩ := ih (N ++ [ws[0]]) (E ++ [r.1]) (F ++ [0]) (h.snoc (by omega) (w2 _ (List.getElem_mem _)) hx)
        rw [← we, ← wsucc hi (by omega)] at q1
        exact ⟨q, Ev.step (fun k => spec_ReadHerd.l1.eq_2 _ _ _ _ _ _) (Ev.pos (by rw [hw]; omega) (Ev.bind (Ev.const gi) (sp.bind (Ev.neg (by omega) (Ev.bind (Ev.const g1) (r1.bind (Ev.bind (a := false) (Ev.neg (by rw [c2.1]; simp) (Ev.const (by rw [decide_eq_false (by omega)]))) (Ev.neg (by simp) (Ev.bind (Ev.const g0) (Ev.bind (Ev.const (chkX (by simp; omega))) (Ev.bind (Ev.const (chkX (by simp; omega))) (Ev.bind (Ev.const (chkX (by simp; omega))) q1)))))))))))), q2⟩
      · refine ⟨.inl (noH, 5), Ev.step (fun k => spec_ReadHerd.l1.eq_2 _ _ _ _ _ _) (Ev.pos (by rw [hw]; omega) (Ev.bind (Ev.const gi) (sp.bind (Ev.neg (by omega) (Ev.bind (Ev.const g1) (r1.bind (Ev.bind (a := true) ?_ (Ev.pos rfl (Ev.const rfl))))))))), .inl rfl⟩
        cases hr : r.2
        · exact Ev.pos (by simp) (Ev.const rfl)
        · exact Ev.neg (by simp) (Ev.const (by rw [decide_eq_true (by have : ¬ r.1 ≤ 100 := fun h => c2 ⟨hr, h⟩; omega)]))
theorem specT4 {ls : List ByteArray} {n : Nat} (hn : n ≤ 14) (hlen : ls.length = n + 1) {N : List ByteArray} (hN : N.length = n) {i : Nat} {ws : List ByteArray} {w : Nat} (hw : w < ws.length) : ∀ j, j ≤ n → ∀ F : List Int, i < F.length → (∀ x ∈ F, in16 x) →
    ∃ F', Ev (fun k => spec_ReadHerd.l4 ls N (i : Int) ws (w : Int) k F (j : Int)) F' ∧ F'.length = F.length ∧ ∀ x ∈ F', in16 x := by
  have hwr : IntKind.i64.wrap ((ls.length : Int) - 1) = (n : Int) := by rw [w64 (by omega) (by omega)]; omega
  refine upL ?_ ?_
  · intro F hi hF
    exact ⟨F, Ev.step (fun k => spec_ReadHerd.l4.eq_2 _ _ _ _ _ _ _ _) (Ev.neg (by rw [hwr]; omega) (Ev.const rfl)), rfl, hF⟩
  · intro j hj ih F hi hF
    have gN := getI_nat (xs := N) (i := j) (by omega)
    have gF := getI_nat hi
    have hu : IntKind.u64.wrap (j : Int) = (j : Int) := wu64 (by omega) (by omega)
    by_cases e : N[j] = ws[w]
    · obtain ⟨F', f1, f2, f3⟩ := ih (F.set i (orI .u16 F[i] (shlI .u16 1 (IntKind.u64.wrap (j : Int))))) (by simpa using hi) (fun x hx => by
        rcases List.mem_or_eq_of_mem_set hx with hx | rfl
        · exact hF x hx
        · exact or_in _ _)
      rw [← wsucc hj (by omega)] at f1
      refine ⟨F', Ev.step (fun k => spec_ReadHerd.l4.eq_2 _ _ _ _ _ _ _ _) (Ev.pos (by rw [hwr]; omega) (Ev.bind (Ev.const gN) (Ev.bind (Ev.const (getI_nat hw)) (Ev.pos e (Ev.bind (Ev.const gF) (Ev.bind (Ev.const (chkX (by rw [hu]; omega))) (Ev.bind (Ev.const gF) ?_))))))), by rw [f2, List.length_set], f3⟩
      rw [Int.toNat_natCast]; exact f1
    · obtain ⟨F', f1, f2, f3⟩ := ih F hi hF
      rw [← wsucc hj (by omega)] at f1
      exact ⟨F', Ev.step (fun k => spec_ReadHerd.l4.eq_2 _ _ _ _ _ _ _ _) (Ev.pos (by rw [hwr]; omega) (Ev.bind (Ev.const gN) (Ev.bind (Ev.const (getI_nat hw)) (Ev.neg e f1)))), f2, f3⟩
theorem specT3 {ls : List ByteArray} {n : Nat} (hn : n ≤ 14) (hlen : ls.length = n + 1) {N : List ByteArray} (hN : N.length = n) {i : Nat} {ws : List ByteArray} (hwl : ws.length ≤ 1048577) : ∀ w, w ≤ ws.length → ∀ F : List Int, i < F.length → (∀ x ∈ F, in16 x) →
    ∃ F', Ev (fun k => spec_ReadHerd.l3 ls N (i : Int) ws k F (w : Int)) F' ∧ F'.length = F.length ∧ ∀ x ∈ F', in16 x := by
  refine upL ?_ ?_
  · intro F hi hF
    exact ⟨F, Ev.step (fun k => spec_ReadHerd.l3.eq_2 _ _ _ _ _ _ _) (Ev.neg (by omega) (Ev.const rfl)), rfl, hF⟩
  · intro w hw ih F hi hF
    obtain ⟨F1, f1, f2, f3⟩ := specT4 hn hlen hN (i := i) hw 0 (Nat.zero_le _) F hi hF
    obtain ⟨F', g1, g2, g3⟩ := ih F1 (by omega) f3
    rw [← wsucc hw (by omega)] at g1
    exact ⟨F', Ev.step (fun k => spec_ReadHerd.l3.eq_2 _ _ _ _ _ _ _) (Ev.pos (by omega) (Ev.bind (f1.bind (Ev.const rfl)) g1)), by omega, g3⟩
theorem specT3' {ls : List ByteArray} {n : Nat} (hn : n ≤ 14) (hlen : ls.length = n + 1) {N : List ByteArray} (hN : N.length = n) {i : Nat} {ws : List ByteArray} (hwl : ws.length ≤ 1048577) (F : List Int) (hi : i < F.length) (hF : ∀ x ∈ F, in16 x) :
    ∃ F', Ev (fun k => spec_ReadHerd.l3 ls N (i : Int) ws k F 2) F' ∧ F'.length = F.length ∧ ∀ x ∈ F', in16 x := by
  by_cases c : 2 ≤ ws.length
  · exact specT3 hn hlen hN hwl 2 c F hi hF
  · exact ⟨F, Ev.step (fun k => spec_ReadHerd.l3.eq_2 _ _ _ _ _ _ _) (Ev.neg (by omega) (Ev.const rfl)), rfl, hF⟩
theorem specT2 {ls : List ByteArray} {n : Nat} (hn : n ≤ 14) (hlen : ls.length = n + 1) (hls : ∀ l ∈ ls, l.size ≤ 1048576) {N : List ByteArray} (hN : N.length = n) : ∀ i, i ≤ n → ∀ F : List Int, F.length = n → (∀ x ∈ F, in16 x) →
    ∃ F', Ev (fun k => spec_ReadHerd.l2 ls N k F (i : Int)) F' ∧ F'.length = n ∧ ∀ x ∈ F', in16 x := by
  have hw : IntKind.i64.wrap ((ls.length : Int) - 1) = (n : Int) := by rw [w64 (by omega) (by omega)]; omega
  refine upL ?_ ?_
  · intro F hF hx
    exact ⟨F, Ev.step (fun k => spec_ReadHerd.l2.eq_2 _ _ _ _ _) (Ev.neg (by rw [hw]; omega) (Ev.const rfl)), hF, hx⟩
  · intro i hi ih F hF hx
    have gi := getI_nat (xs := ls) (i := i) (by omega)
    have hs := hls _ (List.getElem_mem (l := ls) (n := i) (by omega))
    have sp : Ev (fun k => spec_l01Split.f k ls[i] 32) ((spl 32 (ls[i]).data.toList).map toB) := specSplit_ev ls[i] 32 hs
    obtain ⟨w1, w2, w3⟩ := splitB ls[i] 32 hs
    obtain ⟨F1, f1, f2, f3⟩ := specT3' hn hlen hN (i := i) w1 F (by omega) hx
    obtain ⟨F', g1, g2, g3⟩ := ih F1 (by omega) f3
    rw [← wsucc hi (by omega)] at g1
    exact ⟨F', Ev.step (fun k => spec_ReadHerd.l2.eq_2 _ _ _ _ _) (Ev.pos (by rw [hw]; omega) (Ev.bind (Ev.bind (Ev.const gi) (sp.bind (f1.bind (Ev.const rfl)))) g1)), g2, g3⟩
theorem specTot (a : ByteArray) (hs : a.size ≤ 1048576) : ∃ r : Herd × Int, Ev (fun k => spec_ReadHerd.f k a) r ∧ (r = (noH, 5) ∨ ∃ h : Herd, VHerd h ∧ vH h = true ∧ r = (h, 0) ∧ txt h = a) := by
  have sp : Ev (fun k => spec_l01Split.f k a 10) ((spl 10 a.data.toList).map toB) := specSplit_ev a 10 hs
  obtain ⟨w1, w2, w3⟩ := splitB a 10 hs
  generalize (spl 10 a.data.toList).map toB = ls at w1 w2 w3 sp
  obtain ⟨n, hlen⟩ : ∃ n, ls.length = n + 1 := ⟨ls.length - 1, by omega⟩
  have hw : IntKind.i64.wrap ((ls.length : Int) - 1) = (n : Int) := by rw [w64 (by omega) (by omega)]; omega
  have gl : getI ls (IntKind.i64.wrap ((ls.length : Int) - 1)) = some ls[n] := by rw [hw]; exact getI_nat (by omega)
  by_cases c : ls[n] = ByteArray.empty ∧ n ≤ 14
  · obtain ⟨r, r1, r2⟩ := specT1 c.2 hlen w2 0 (Nat.zero_le _) [] [] [] RD.nil
    have go : ∀ {f : Bool → Nat → Option (Herd × Int)} {v : Herd × Int}, Ev (fun k => f false k) v → Ev (fun k => ((getI ls (IntKind.i64.wrap ((ls.length : Int) - 1))).bind fun t6 => if t6 ≠ ByteArray.empty then some true else some (decide (14 < (IntKind.i64.wrap ((ls.length : Int) - 1))))).bind fun y5 => f y5 k) v := fun hf =>
      Ev.bind (a := false) (Ev.bind (Ev.const gl) (Ev.neg (by simp [c.1]) (Ev.const (by rw [hw, decide_eq_false (by omega)])))) hf
    rcases r2 with rfl | ⟨N, E, F, rfl, hR⟩
    · exact ⟨(noH, 5), sp.bind (Ev.bind (a := false) (Ev.bind (Ev.const gl) (Ev.neg (by simp [c.1]) (Ev.const (by rw [hw, decide_eq_false (by omega)])))) (Ev.neg (by simp) (r1.bind (Ev.const rfl)))), .inl rfl⟩
    · obtain ⟨F', f1, f2, f3⟩ := specT2 c.2 hlen w2 hR.nN 0 (Nat.zero_le _) F hR.nF hR.sF
      have hR' : RD N E F' n := ⟨hR.n14, hR.nN, hR.nE, f2, hR.sN, hR.sE, f3⟩
      have h4 := specHerd_ev hR'.V
      cases hv : vH (⟨N, E, F'⟩ : Herd)
      · rw [hv] at h4
        exact ⟨(noH, 5), sp.bind (Ev.bind (a := false) (Ev.bind (Ev.const gl) (Ev.neg (by simp [c.1]) (Ev.const (by rw [hw, decide_eq_false (by omega)])))) (Ev.neg (by simp) (r1.bind (f1.bind (h4.bind (Ev.pos rfl (Ev.const rfl))))))), .inl rfl⟩
      · rw [hv] at h4
        have h5 := spec_text hR'.V hv 0 (Nat.zero_le _) ByteArray.empty (by simp)
        have h6 : Ev (fun k => spec_l06Text.f k (⟨N, E, F'⟩ : Herd)) (txt ⟨N, E, F'⟩) := h5.bind (Ev.const rfl)
        by_cases ct : txt ⟨N, E, F'⟩ = a
        · exact ⟨(⟨N, E, F'⟩, 0), sp.bind (Ev.bind (a := false) (Ev.bind (Ev.const gl) (Ev.neg (by simp [c.1]) (Ev.const (by rw [hw, decide_eq_false (by omega)])))) (Ev.neg (by simp) (r1.bind (f1.bind (h4.bind (Ev.neg (by simp) (h6.bind (Ev.neg (by simp [ct]) (Ev.const rfl))))))))), .inr ⟨_, hR'.V, hv, rfl, ct⟩⟩
        · exact ⟨(noH, 5), sp.bind (Ev.bind (a := false) (Ev.bind (Ev.const gl) (Ev.neg (by simp [c.1]) (Ev.const (by rw [hw, decide_eq_false (by omega)])))) (Ev.neg (by simp) (r1.bind (f1.bind (h4.bind (Ev.neg (by simp) (h6.bind (Ev.pos ct (Ev.const rfl))))))))), .inl rfl⟩
  · refine ⟨(noH, 5), sp.bind (Ev.bind (a := true) (Ev.bind (Ev.const gl) ?_) (Ev.pos rfl (Ev.const rfl))), .inl rfl⟩
    by_cases c2 : ls[n] = ByteArray.empty
    · exact Ev.neg (by simp [c2]) (Ev.const (by rw [hw, decide_eq_true (by have : ¬ n ≤ 14 := fun h => c ⟨c2, h⟩; omega)]))
    · exact Ev.pos c2 (Ev.const rfl)
/-! ### Both -/
theorem noH_v : vH noH = true := by decide
theorem noH_txt : txt noH = ByteArray.empty := rfl
theorem smallNo : smallH noH := ⟨by decide, by decide, by decide⟩
theorem read_ev (a : ByteArray) (hs : a.size ≤ 1048576) : ∃ r : Herd × Int, smallH r.1 ∧ Ev (fun k => spec_ReadHerd.f k a) r ∧ Ev (fun k => impl_ReadHerd.f k a) r := by
  by_cases c : ∃ h : Herd, VHerd h ∧ vH h = true ∧ txt h = a
  · obtain ⟨h, v, hv, rfl⟩ := c
    exact ⟨(h, 0), vH_small hv, specBack v hv, implBack v hv⟩
  · obtain ⟨r1, s1, s2⟩ := specTot a hs
    obtain ⟨r2, i1, i2⟩ := implTot a hs
    have e1 : r1 = (noH, 5) := s2.resolve_right fun ⟨h, v, hv, _, ht⟩ => c ⟨h, v, hv, ht⟩
    have e2 : r2 = (noH, 5) := i2.resolve_right fun ⟨h, v, _, ht⟩ => by
      cases hv : vH h
      · have h2 := implHerd_ev v
        rw [hv] at h2
        have ht2 : Ev (fun k => impl_HerdText.f k h) ByteArray.empty := h2.bind (Ev.pos (by simp) (Ev.const rfl))
        have ea := ht2.eq ht
        exact c ⟨noH, RD.nil.V, noH_v, by rw [noH_txt]; exact ea⟩
      · exact c ⟨h, v, hv, (implText v hv).eq ht⟩
    subst e1 e2
    exact ⟨(noH, 5), smallNo, s1, i1⟩
theorem sameHH (g : Herd) (hs : smallH g) (c : Int) : Ev (fun k => (laws_eqHerd.f k g g).bind fun t25 => if (!t25) = true then some true else some (decide (c ≠ c))) false := by
  have he := eqHerd_ev g g hs
  rw [decide_eq_true rfl] at he
  exact he.bind (Ev.neg (by simp) (Ev.const (by simp)))
theorem FnExactReadHerd.pure (x0 : ByteArray) (hv0 : x0.size ≤ maxLen) : ∃ k, laws_FnExactReadHerd.f k x0 = some true := by
  refine Ev.get (r := true) ?_
  by_cases h0 : 1048576 < x0.size
  · exact Ev.pos (by omega) (Ev.const rfl)
  · obtain ⟨⟨g, c⟩, hl, h1, h2⟩ := read_ev x0 (by omega)
    have hl : smallH g := hl
    have hq := sameHH g hl c
    have hk := markH_ev g hl 1 (by omega) (by omega)
    have hd := heldH_ev g.Names.length g.Eats.length g.Foes.length hl.1 hl.2.1 hl.2.2
    exact Ev.neg (by omega) (h1.bind (h2.bind (Ev.bind hq (Ev.neg (by simp) (hk.bind (hd.bind (Ev.neg (by omega) (Ev.neg (by simp) (h2.bind (Ev.bind hq (Ev.neg (by simp) (hd.bind (Ev.neg (by omega) (Ev.neg (by simp) (Ev.const rfl)))))))))))))))
end Go.Proofs.YtplfdbfdalaefaaGreatDoor
