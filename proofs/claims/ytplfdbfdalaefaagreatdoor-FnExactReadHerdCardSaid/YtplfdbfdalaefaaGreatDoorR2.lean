/-
  Plain law: a herd's text, read back by the program and by the reference.
-/
import Derived.Test.YtplfdbfdalaefaaGreatDoorR1
namespace Go.Proofs.YtplfdbfdalaefaaGreatDoor
open G
set_option linter.unusedVariables false
set_option linter.unusedSimpArgs false
theorem num_back {n : Int} {most : Int} (h0 : 0 ≤ n) (h1 : n ≤ most) (hm : most ≤ 1000) : impl_number.f (toB (dD n)) most = some (n, true) := by
  have hl : (dD n).length ≤ 4 := dec_len 3 n.toNat (by omega)
  rw [number_eq _ _ (by rw [toB_size]; omega) (by omega), toB_list, dD_v h0, if_pos ⟨dec_okNum (by omega), h1⟩]
theorem specNum_back {n : Int} (h0 : 0 ≤ n) (h1 : n ≤ 1000) : Ev (fun k => spec_l01Number.f k (toB (dD n))) (n, true) := by
  have hl : (dD n).length ≤ 4 := dec_len 3 n.toNat (by omega)
  have := specNum_ev (toB (dD n)) (by rw [toB_size]; omega)
  rw [toB_list] at this
  unfold numL at this
  rw [if_pos (dec_okNum (by omega)), dD_v h0] at this
  exact this
def tls (h : Herd) (i : Nat) : List (List ByteArray) := (List.range i).map fun j => foeNames h j 0 h.Names.length
theorem tls_succ (h : Herd) (i : Nat) : tls h i ++ [foeNames h i 0 h.Names.length] = tls h (i + 1) := by
  unfold tls
  rw [List.range_succ, List.map_append]; rfl
theorem take_nm {h : Herd} {i : Nat} (hi : i < h.Names.length) : h.Names.take i ++ [nm h i] = h.Names.take (i + 1) := by
  rw [List.take_add_one, List.getElem?_eq_getElem hi]
  unfold nm
  rw [List.getD_eq_getElem?_getD, List.getElem?_eq_getElem hi]; rfl
theorem take_eats {h : Herd} {i : Nat} (hi : i < h.Eats.length) : h.Eats.take i ++ [eats h i] = h.Eats.take (i + 1) := by
  rw [List.take_add_one, List.getElem?_eq_getElem hi]
  unfold eats
  rw [List.getD_eq_getElem?_getD, List.getElem?_eq_getElem hi]; rfl
theorem take_foes {h : Herd} {i : Nat} (hi : i < h.Foes.length) : h.Foes.take i ++ [foes h i] = h.Foes.take (i + 1) := by
  rw [List.take_add_one, List.getElem?_eq_getElem hi]
  unfold foes
  rw [List.getD_eq_getElem?_getD, List.getElem?_eq_getElem hi]; rfl
theorem words_len {h : Herd} {i : Nat} : (wordsB h i).length ≤ h.Names.length + 2 ∧ 2 ≤ (wordsB h i).length := by
  have := foeNames_len h i 0 h.Names.length
  unfold wordsB
  simp only [List.length_cons]
  omega
theorem impl1 {h : Herd} (hv : vH h = true) : ∀ i, i ≤ h.Names.length → Ev (fun k => impl_ReadHerd.l1 k ((List.range' i (h.Names.length - i)).map fun j => toB (bodyL h j ++ [10])) (tls h i) (h.Names.take i) (h.Eats.take i) (List.replicate i 0)) (.inr (tls h h.Names.length, h.Names, h.Eats, List.replicate h.Names.length 0)) := by
  obtain ⟨n1, n2, n3⟩ := vH_len hv
  refine upL ?_ ?_
  · rw [Nat.sub_self, List.take_of_length_le (Nat.le_refl _), List.take_of_length_le (by omega)]
    exact Ev.const rfl
  · intro i hi ih
    obtain ⟨e0, e1⟩ := eats_le hv hi
    have hb := body_len hv hi
    have hwl := words_len (h := h) (i := i)
    have hsp : strings_Split.f (toB (bodyL h i)) (⟨#[32]⟩ : ByteArray) = some (wordsB h i) := by
      unfold strings_Split.f
      rw [chkX ⟨by rw [toB_size]; omega, Nat.le_refl _⟩, Option.bind_some, split_spl, toB_list, spl_body hv hi]
    have we : IntKind.i16.wrap (eats h i) = eats h i := w16 (by omega) (by omega)
    have tl : (tls h i).length = i := by unfold tls; simp
    have hd : (wordsB h i).drop 2 = foeNames h i 0 h.Names.length := rfl
    rw [← tls_succ, ← take_nm hi, ← take_eats (by omega), List.replicate_succ'] at ih
    rw [show h.Names.length - i = (h.Names.length - (i + 1)) + 1 by omega, List.range'_succ, List.map_cons]
    refine Ev.bind (Ev.const (trim_eq _ (by omega))) (Ev.bind (Ev.const hsp) (Ev.bind (a := false) (Ev.neg (by omega) (Ev.const ?_)) (Ev.neg (by simp) (Ev.bind (a := toB (dD (eats h i))) (Ev.const rfl) (Ev.bind (Ev.const (num_back e0 e1 (by omega))) (Ev.neg (by simp) (Ev.bind (a := nm h i) (Ev.const rfl) (Ev.bind (Ev.const (chkX ?_)) (Ev.bind (Ev.const (chkX ?_)) (Ev.bind (Ev.const (chkX ?_)) (Ev.bind (Ev.const (chkX ?_)) (Ev.bind (Ev.const (chkX ?_)) ?_))))))))))))
    · rw [tl, decide_eq_false (by omega)]
    · simp; omega
    · simp; omega
    · simp; omega
    · omega
    · rw [tl]; simp; omega
    · rw [hd, we]; exact ih
/-! ### Foes -/
def orF (m : Int) (l : List Nat) : Int := l.foldl (fun (m : Int) (k : Nat) => orI .u16 m (shlI .u16 1 (k : Int))) m
theorem orF_bit : ∀ (l : List Nat) (m : Int), in16 m → (∀ k ∈ l, k < 16) → in16 (orF m l) ∧ ∀ j, j < 16 → bitN (orF m l) j = (bitN m j || decide (j ∈ l))
  | [], m, hm, _ => ⟨hm, fun j _ => by simp [orF]⟩
  | k :: l, m, hm, hl => by
    have hk := hl k (by simp)
    have h1 : in16 (orI .u16 m (shlI .u16 1 (k : Int))) := or_in _ _
    obtain ⟨a, b⟩ := orF_bit l _ h1 (fun x hx => hl x (List.mem_cons_of_mem _ hx))
    refine ⟨a, fun j hj => ?_⟩
    have e : orF m (k :: l) = orF (orI .u16 m (shlI .u16 1 (k : Int))) l := rfl
    rw [e, b j hj, or_bit hm (one_in hk) hj, one_bitN hk hj, Bool.or_assoc]
    congr 1
    rw [Bool.eq_iff_iff]
    simp only [Bool.or_eq_true, decide_eq_true_eq, List.mem_cons]
    exact ⟨fun h => h.imp (fun h => h.symm) id, fun h => h.imp (fun h => h.symm) id⟩
def bN (h : Herd) (i : Nat) : List Nat := (List.range' 0 h.Names.length).filter (bitN (foes h i))
theorem bN_foe (h : Herd) (i : Nat) : foeNames h i 0 h.Names.length = (bN h i).map (nm h) := by
  unfold foeNames bl bN
  rw [List.map_map]
  exact List.map_congr_left fun x _ => by simp
theorem bN_lt {h : Herd} {i k : Nat} (hk : k ∈ bN h i) : k < h.Names.length := by
  unfold bN at hk
  have := List.mem_range'_1.1 (List.mem_filter.1 hk).1
  omega
theorem zero16 : in16 0 := ⟨by omega, by omega⟩
theorem bit_zero (j : Nat) (hj : j < 16) : bitN 0 j = false := by
  have : ∀ a : Fin 16, bitN 0 a = false := by decide
  exact this ⟨j, hj⟩
theorem orF_foes {h : Herd} (v : VHerd h) (hv : vH h = true) {i : Nat} (hi : i < h.Names.length) : orF 0 (bN h i) = foes h i := by
  obtain ⟨n1, n2, n3⟩ := vH_len hv
  obtain ⟨a, b⟩ := orF_bit (bN h i) 0 zero16 (fun k hk => by have := bN_lt hk; omega)
  refine bits_eq a (foes_in v i) fun j hj => ?_
  rw [b j hj, bit_zero j hj, Bool.false_or, Bool.eq_iff_iff, decide_eq_true_eq]
  unfold bN
  rw [List.mem_filter, List.mem_range'_1]
  constructor
  · exact fun h => h.2
  · intro hb
    refine ⟨⟨Nat.zero_le _, ?_⟩, hb⟩
    by_cases hn : j < h.Names.length
    · omega
    · have := foes_high v hv hi (j := j) (by omega)
      rw [this] at hb; cases hb
def FS (h : Herd) (i : Nat) (m : Int) : List Int := h.Foes.take i ++ m :: List.replicate (h.Names.length - (i + 1)) 0
theorem FS_len {h : Herd} (hf : h.Foes.length = h.Names.length) {i : Nat} (hi : i < h.Names.length) (m : Int) : (FS h i m).length = h.Names.length := by
  unfold FS
  simp only [List.length_append, List.length_cons, List.length_take, List.length_replicate]
  omega
theorem FS_get {h : Herd} (hf : h.Foes.length = h.Names.length) {i : Nat} (hi : i < h.Names.length) (m : Int) : getI (FS h i m) (i : Int) = some m := by
  rw [getI_nat (by rw [FS_len hf hi]; exact hi)]
  unfold FS
  rw [List.getElem_append_right (by simp; omega)]
  simp only [List.length_take, show min i h.Foes.length = i by omega, Nat.sub_self, List.getElem_cons_zero]
theorem FS_set {h : Herd} (hf : h.Foes.length = h.Names.length) {i : Nat} (hi : i < h.Names.length) (m m' : Int) : (FS h i m).set (i : Int).toNat m' = FS h i m' := by
  unfold FS
  rw [Int.toNat_natCast, List.set_append_right _ _ (by simp; omega), List.length_take, show min i h.Foes.length = i by omega, Nat.sub_self, List.set_cons_zero]
theorem FS_start {h : Herd} {i : Nat} (hi : i < h.Names.length) : h.Foes.take i ++ List.replicate (h.Names.length - i) 0 = FS h i 0 := by
  unfold FS
  rw [show h.Names.length - i = (h.Names.length - (i + 1)) + 1 by omega, List.replicate_succ]
theorem FS_end {h : Herd} (hf : h.Foes.length = h.Names.length) {i : Nat} (hi : i < h.Names.length) : FS h i (foes h i) = h.Foes.take (i + 1) ++ List.replicate (h.Names.length - (i + 1)) 0 := by
  unfold FS
  rw [← take_foes (by omega), List.append_assoc]; rfl
theorem nm_inj {h : Herd} (hv : vH h = true) {i k : Nat} (hi : i < h.Names.length) (hk : k < h.Names.length) (e : nm h i = nm h k) : i = k := by
  have key : ∀ i k, i < h.Names.length → k < i → nm h k ≠ nm h i := fun i k hi hki e => by
    have := (vH_ok hv hi).2 k hki
    unfold prB at this
    simp [e] at this
  rcases Nat.lt_trichotomy i k with h1 | h1 | h1
  · exact absurd e (key k i hk h1)
  · exact h1
  · exact absurd e.symm (key i k hi h1)
theorem index_nm {h : Herd} (hv : vH h = true) {k : Nat} (hk : k < h.Names.length) : Ev (fun f => slices_Index_string_string.f f h.Names (nm h k)) (k : Int) := by
  obtain ⟨n1, n2, n3⟩ := vH_len hv
  have key : ∀ d i, i + d = k → Ev (fun f => slices_Index_string_string.l1 h.Names (nm h k) f (i : Int)) (.inl (k : Int)) := by
    intro d
    induction d with
    | zero =>
      intro i hi
      obtain rfl : i = k := by omega
      exact Ev.step (fun k => slices_Index_string_string.l1.eq_2 _ _ _ _) (Ev.pos (by omega) (Ev.bind (Ev.const (nm_get hk)) (Ev.pos rfl (Ev.const rfl))))
    | succ d ih =>
      intro i hi
      have ih := ih (i + 1) (by omega)
      have hi' : i < h.Names.length := by omega
      rw [← wsucc hi' (by omega)] at ih
      exact Ev.step (fun k => slices_Index_string_string.l1.eq_2 _ _ _ _) (Ev.pos (by omega) (Ev.bind (Ev.const (nm_get hi')) (Ev.neg (fun e => by have := nm_inj hv hk hi' e; omega) ih)))
  exact (key k 0 (by omega)).bind (Ev.const rfl)
theorem impl3 {h : Herd} (hv : vH h = true) {i : Nat} (hi : i < h.Names.length) : ∀ w, w ≤ (bN h i).length → ∀ m : Int, Ev (fun f => impl_ReadHerd.l3 h.Names (i : Int) (foeNames h i 0 h.Names.length) f (FS h i m) (w : Int)) (.inr (FS h i (orF m ((bN h i).drop w)))) := by
  obtain ⟨n1, n2, n3⟩ := vH_len hv
  have hlen : (foeNames h i 0 h.Names.length).length = (bN h i).length := by rw [bN_foe, List.length_map]
  have hle := foeNames_len h i 0 h.Names.length
  refine upL ?_ ?_
  · intro m
    exact Ev.step (fun k => impl_ReadHerd.l3.eq_2 _ _ _ _ _ _) (Ev.neg (by omega) (Ev.const (by rw [List.drop_length]; rfl)))
  · intro w hw ih m
    have hk := bN_lt (List.getElem_mem hw)
    have g : getI (foeNames h i 0 h.Names.length) (w : Int) = some (nm h (bN h i)[w]) := by
      rw [getI_nat (show w < (foeNames h i 0 h.Names.length).length by omega)]
      simp only [bN_foe, List.getElem_map]
    have ih := ih (orI .u16 m (shlI .u16 1 (((bN h i)[w] : Nat) : Int)))
    rw [← wsucc hw (by omega)] at ih
    rw [List.drop_eq_getElem_cons hw]
    refine Ev.step (fun k => impl_ReadHerd.l3.eq_2 _ _ _ _ _ _) (Ev.pos (by omega) (Ev.bind (Ev.const g) ((index_nm hv hk).bind (Ev.neg (by omega) (Ev.bind (Ev.const (FS_get n3 hi m)) (Ev.bind (Ev.const (chkX (by omega))) (Ev.bind (Ev.const (FS_get n3 hi m)) ?_)))))))
    rw [FS_set n3 hi]
    exact ih
theorem impl2 {h : Herd} (v : VHerd h) (hv : vH h = true) : ∀ i, i ≤ h.Names.length → Ev (fun f => impl_ReadHerd.l2 (tls h h.Names.length) h.Names f (h.Foes.take i ++ List.replicate (h.Names.length - i) 0) (i : Int)) (.inr h.Foes) := by
  obtain ⟨n1, n2, n3⟩ := vH_len hv
  have tl : (tls h h.Names.length).length = h.Names.length := by unfold tls; simp
  refine upL ?_ ?_
  · exact Ev.step (fun k => impl_ReadHerd.l2.eq_2 _ _ _ _ _) (Ev.neg (by omega) (Ev.const (by rw [Nat.sub_self, List.take_of_length_le (by omega)]; simp)))
  · intro i hi ih
    have g : getI (tls h h.Names.length) (i : Int) = some (foeNames h i 0 h.Names.length) := by
      rw [getI_nat (show i < (tls h h.Names.length).length by omega)]
      unfold tls
      rw [List.getElem_map, List.getElem_range]
    have h3 := impl3 hv hi 0 (Nat.zero_le _) 0
    rw [List.drop_zero, orF_foes v hv hi, FS_end n3 hi] at h3
    rw [← wsucc hi (by omega)] at ih
    rw [FS_start hi]
    refine Ev.step (fun k => impl_ReadHerd.l2.eq_2 _ _ _ _ _) (Ev.pos (by omega) ?_)
    refine Ev.bind (a := (.inr (h.Foes.take (i + 1) ++ List.replicate (h.Names.length - (i + 1)) 0) : ((Herd × Int) ⊕ List Int) ⊕ List Int)) ?_ ih
    exact Ev.bind (Ev.const g) (h3.bind (Ev.const rfl))
theorem implText {h : Herd} (v : VHerd h) (hv : vH h = true) : Ev (fun f => impl_HerdText.f f h) (txt h) := by
  have h2 := implHerd_ev v
  rw [hv] at h2
  have b := impl_text v hv 0 (Nat.zero_le _) ByteArray.empty (by simp)
  exact h2.bind (Ev.neg (by simp) (b.bind (Ev.const rfl)))
theorem implBack {h : Herd} (v : VHerd h) (hv : vH h = true) : Ev (fun f => impl_ReadHerd.f f (txt h)) (h, 0) := by
  obtain ⟨n1, n2, n3⟩ := vH_len hv
  have hl := textL_len hv h.Names.length 0 (by omega)
  have h1 := impl1 hv 0 (Nat.zero_le _)
  rw [Nat.sub_zero, ← lines_text hv _ _ (by omega), ← txt_L hv] at h1
  have h2 := impl2 v hv 0 (Nat.zero_le _)
  rw [Nat.sub_zero, List.take_zero, List.nil_append] at h2
  exact Ev.bind (Ev.const (chkX (by rw [txt_L hv, toB_size]; omega))) (h1.bind (h2.bind ((implText v hv).bind (Ev.neg (by simp) (Ev.const rfl)))))
/-! ### The reference -/
def linesL (h : Herd) : List ByteArray := ((List.range' 0 h.Names.length).map (bodyL h) ++ [[]]).map toB
theorem linesL_len (h : Herd) : (linesL h).length = h.Names.length + 1 := by unfold linesL; simp
theorem linesL_get {h : Herd} {i : Nat} (hi : i < h.Names.length) : getI (linesL h) (i : Int) = some (toB (bodyL h i)) := by
  rw [getI_nat (by rw [linesL_len]; omega)]
  unfold linesL
  rw [List.getElem_map, List.getElem_append_left (by simpa using hi), List.getElem_map, List.getElem_range']
  simp
theorem linesL_last (h : Herd) : getI (linesL h) (h.Names.length : Int) = some ByteArray.empty := by
  rw [getI_nat (by rw [linesL_len]; omega)]
  unfold linesL
  rw [List.getElem_map, List.getElem_append_right (by simp)]
  simp
  rfl
theorem lines_n {h : Herd} (hn : h.Names.length ≤ 14) : IntKind.i64.wrap (((linesL h).length : Int) - 1) = (h.Names.length : Int) := by
  rw [linesL_len, w64 (by omega) (by omega)]; omega
theorem specSplit32 {h : Herd} (hv : vH h = true) {i : Nat} (hi : i < h.Names.length) : Ev (fun k => spec_l01Split.f k (toB (bodyL h i)) 32) (wordsB h i) := by
  have hb := body_len hv hi
  have := specSplit_ev (toB (bodyL h i)) 32 (by rw [toB_size]; omega)
  rw [toB_list, spl_body hv hi] at this
  exact this
theorem spec1 {h : Herd} (hv : vH h = true) : ∀ i, i ≤ h.Names.length → Ev (fun k => spec_ReadHerd.l1 (linesL h) k (i : Int) (h.Names.take i) (h.Eats.take i) (List.replicate i 0)) (.inr (h.Names, h.Eats, List.replicate h.Names.length 0)) := by
  obtain ⟨n1, n2, n3⟩ := vH_len hv
  refine upL ?_ ?_
  · rw [List.take_of_length_le (Nat.le_refl _), List.take_of_length_le (by omega)]
    exact Ev.step (fun k => spec_ReadHerd.l1.eq_2 _ _ _ _ _ _) (Ev.neg (by rw [lines_n n1]; omega) (Ev.const rfl))
  · intro i hi ih
    obtain ⟨e0, e1⟩ := eats_le hv hi
    have hwl := words_len (h := h) (i := i)
    have we : IntKind.i16.wrap (eats h i) = eats h i := w16 (by omega) (by omega)
    rw [← take_nm hi, ← take_eats (by omega), List.replicate_succ', ← wsucc hi (by omega)] at ih
    refine Ev.step (fun k => spec_ReadHerd.l1.eq_2 _ _ _ _ _ _) (Ev.pos (by rw [lines_n n1]; omega) (Ev.bind (Ev.const (linesL_get hi)) ((specSplit32 hv hi).bind (Ev.neg (by omega) (Ev.bind (a := toB (dD (eats h i))) (Ev.const rfl) ((specNum_back e0 (by omega)).bind (Ev.bind (a := false) (Ev.neg (by simp) (Ev.const (by rw [decide_eq_false (by omega)]))) (Ev.neg (by simp) (Ev.bind (a := nm h i) (Ev.const rfl) (Ev.bind (Ev.const (chkX ?_)) (Ev.bind (Ev.const (chkX ?_)) (Ev.bind (Ev.const (chkX ?_)) ?_))))))))))))
    · simp; omega
    · simp; omega
    · simp; omega
    · rw [we]; exact ih
theorem spec4 {h : Herd} (hv : vH h = true) {i a : Nat} (hi : i < h.Names.length) (ha : a < h.Names.length) {w : Nat} (hw : getI (wordsB h i) (w : Int) = some (nm h a)) : ∀ k, k ≤ h.Names.length → ∀ m : Int, Ev (fun f => spec_ReadHerd.l4 (linesL h) h.Names (i : Int) (wordsB h i) (w : Int) f (FS h i m) (k : Int)) (FS h i (if k ≤ a then orI .u16 m (shlI .u16 1 (a : Int)) else m)) := by
  obtain ⟨n1, n2, n3⟩ := vH_len hv
  refine upL ?_ ?_
  · intro m
    rw [if_neg (by omega)]
    exact Ev.step (fun k => spec_ReadHerd.l4.eq_2 _ _ _ _ _ _ _ _) (Ev.neg (by rw [lines_n n1]; omega) (Ev.const rfl))
  · intro k hk ih m
    have hu : IntKind.u64.wrap (k : Int) = (k : Int) := wu64 (by omega) (by omega)
    refine Ev.step (fun k => spec_ReadHerd.l4.eq_2 _ _ _ _ _ _ _ _) (Ev.pos (by rw [lines_n n1]; omega) (Ev.bind (Ev.const (nm_get hk)) (Ev.bind (Ev.const hw) ?_)))
    by_cases e : k = a
    · subst e
      have ih := ih (orI .u16 m (shlI .u16 1 (k : Int)))
      rw [if_neg (by omega), ← wsucc hk (by omega)] at ih
      rw [if_pos (Nat.le_refl _)]
      refine Ev.pos rfl (Ev.bind (Ev.const (FS_get n3 hi m)) (Ev.bind (Ev.const (chkX (by rw [hu]; omega))) (Ev.bind (Ev.const (FS_get n3 hi m)) ?_)))
      rw [FS_set n3 hi, hu]
      exact ih
    · have ih := ih m
      rw [← wsucc hk (by omega)] at ih
      have e2 : (if k + 1 ≤ a then orI .u16 m (shlI .u16 1 (a : Int)) else m) = (if k ≤ a then orI .u16 m (shlI .u16 1 (a : Int)) else m) := by
        by_cases c : k ≤ a
        · rw [if_pos c, if_pos (by omega)]
        · rw [if_neg c, if_neg (by omega)]
      rw [e2] at ih
      exact Ev.neg (fun c => e (nm_inj hv hk ha c)) ih
theorem spec3 {h : Herd} (hv : vH h = true) {i : Nat} (hi : i < h.Names.length) : ∀ w, w ≤ (bN h i).length → ∀ m : Int, Ev (fun f => spec_ReadHerd.l3 (linesL h) h.Names (i : Int) (wordsB h i) f (FS h i m) ((w + 2 : Nat) : Int)) (FS h i (orF m ((bN h i).drop w))) := by
  obtain ⟨n1, n2, n3⟩ := vH_len hv
  have hlen : (foeNames h i 0 h.Names.length).length = (bN h i).length := by rw [bN_foe, List.length_map]
  have hle := foeNames_len h i 0 h.Names.length
  have hwl : (wordsB h i).length = (bN h i).length + 2 := by unfold wordsB; simp [hlen]
  refine upL ?_ ?_
  · intro m
    exact Ev.step (fun k => spec_ReadHerd.l3.eq_2 _ _ _ _ _ _ _) (Ev.neg (by omega) (Ev.const (by rw [List.drop_length]; rfl)))
  · intro w hw ih m
    have hk := bN_lt (List.getElem_mem hw)
    have g : getI (wordsB h i) ((w + 2 : Nat) : Int) = some (nm h (bN h i)[w]) := by
      rw [getI_nat (show w + 2 < (wordsB h i).length by omega)]
      simp only [wordsB, List.getElem_cons_succ, bN_foe, List.getElem_map]
    have h4 := spec4 hv hi hk g 0 (Nat.zero_le _) m
    rw [if_pos (Nat.zero_le _)] at h4
    have ih := ih (orI .u16 m (shlI .u16 1 (((bN h i)[w] : Nat) : Int)))
    rw [show w + 1 + 2 = (w + 2) + 1 by omega, ← wsucc (n := w + 3) (by omega) (by omega)] at ih
    rw [List.drop_eq_getElem_cons hw]
    exact Ev.step (fun k => spec_ReadHerd.l3.eq_2 _ _ _ _ _ _ _) (Ev.pos (by omega) (Ev.bind (h4.bind (Ev.const rfl)) ih))
theorem spec2 {h : Herd} (v : VHerd h) (hv : vH h = true) : ∀ i, i ≤ h.Names.length → Ev (fun f => spec_ReadHerd.l2 (linesL h) h.Names f (h.Foes.take i ++ List.replicate (h.Names.length - i) 0) (i : Int)) h.Foes := by
  obtain ⟨n1, n2, n3⟩ := vH_len hv
  refine upL ?_ ?_
  · exact Ev.step (fun k => spec_ReadHerd.l2.eq_2 _ _ _ _ _) (Ev.neg (by rw [lines_n n1]; omega) (Ev.const (by rw [Nat.sub_self, List.take_of_length_le (by omega)]; simp)))
  · intro i hi ih
    have h3 := spec3 hv hi 0 (Nat.zero_le _) 0
    rw [List.drop_zero, orF_foes v hv hi, FS_end n3 hi] at h3
    rw [← wsucc hi (by omega)] at ih
    rw [FS_start hi]
    exact Ev.step (fun k => spec_ReadHerd.l2.eq_2 _ _ _ _ _) (Ev.pos (by rw [lines_n n1]; omega) (Ev.bind (Ev.bind (Ev.const (linesL_get hi)) ((specSplit32 hv hi).bind (h3.bind (Ev.const rfl)))) ih))
theorem specBack {h : Herd} (v : VHerd h) (hv : vH h = true) : Ev (fun f => spec_ReadHerd.f f (txt h)) (h, 0) := by
  obtain ⟨n1, n2, n3⟩ := vH_len hv
  have hl := textL_len hv h.Names.length 0 (by omega)
  have hs := specSplit_ev (txt h) 10 (by rw [txt_L hv, toB_size]; omega)
  rw [txt_L hv, toB_list, spl_text hv _ _ (by omega), ← txt_L hv] at hs
  have hs : Ev (fun k => spec_l01Split.f k (txt h) 10) (linesL h) := hs
  have h1 := spec1 hv 0 (Nat.zero_le _)
  have h2 := spec2 v hv 0 (Nat.zero_le _)
  rw [Nat.sub_zero, List.take_zero, List.nil_append] at h2
  have h4 := specHerd_ev v
  rw [hv] at h4
  have h5 := spec_text v hv 0 (Nat.zero_le _) ByteArray.empty (by simp)
  refine hs.bind (Ev.bind (a := false) (Ev.bind (a := ByteArray.empty) (Ev.const (by rw [lines_n n1]; exact linesL_last h)) (Ev.neg (by simp) (Ev.const (by rw [lines_n n1, decide_eq_false (by omega)])))) (Ev.neg (by simp) (h1.bind (h2.bind (h4.bind (Ev.neg (by simp) (Ev.bind (a := txt h) (h5.bind (Ev.const rfl)) (Ev.neg (by simp) (Ev.const rfl)))))))))
end Go.Proofs.YtplfdbfdalaefaaGreatDoor
