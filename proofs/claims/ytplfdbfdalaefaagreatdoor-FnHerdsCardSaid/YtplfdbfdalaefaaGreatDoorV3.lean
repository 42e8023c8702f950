/-
  Plain laws: peace groups: each goat is in one of them, and its foes with it; the law's list of their numbers.
-/
import Derived.Test.YtplfdbfdalaefaaGreatDoorV2
namespace Go.Proofs.YtplfdbfdalaefaaGreatDoor
open G
set_option linter.unusedVariables false
set_option linter.unusedSimpArgs false
theorem bl_nodup (s : Int) (i n : Nat) : (bl s i n).Nodup := by
 unfold bl
 refine List.Pairwise.map _ (fun a b (h : a ≠ b) => ?_) ((List.nodup_range' (s := i) (n := n)).filter _)
 intro e
 exact h (by omega)
theorem specList_loop {h : Herd} {y : Int} (hy : in16 y) (hn : h.Names.length ≤ 14) : ∀ i, i ≤ h.Names.length → ∀ ys : List Int, ys.length ≤ i → Ev (fun k => spec_PeaceGroups.l4 h y k ys (i : Int)) (ys ++ bl y i (h.Names.length - i)) := by
 refine upL ?_ ?_
 ·intro ys hl
  refine Ev.step (fun k => spec_PeaceGroups.l4.eq_2 _ _ _ _ _) (Ev.neg (by omega) (Ev.const ?_))
  simp [bl]
 intro i hi ih ys hl
 have ui : IntKind.u64.wrap (i : Int) = (i : Int) := wu64 (by omega) (by omega)
 refine Ev.step (fun k => spec_PeaceGroups.l4.eq_2 _ _ _ _ _) (Ev.pos (by omega) (Ev.bind (Ev.const (chkT (by rw [ui]; omega))) ?_))
 rw [wsucc hi (by omega), bl_step _ hi]
 cases e : bitN y i
 ·exact Ev.neg (by rw [ui, bit_test1 hy, e]; simp) (by simpa using ih ys (by omega))
 refine Ev.pos (by rw [ui, bit_test1 hy, e]) (Ev.bind (Ev.const (chkT (by simp; omega))) ?_)
 have := ih (ys ++ [(i : Int)]) (by simp; omega)
 rw [List.append_assoc] at this
 exact this
theorem groupC_ev {h : Herd} (v : VHerd h) (hv : vH h = true) {i : Nat} (hi : i < h.Names.length) : ∃ r : Int, goodM h i r ∧ closedB h r ∧ Ev (fun f => spec_PeaceGroups.l2 h f (shlI .u16 1 (i : Int)) 0) r ∧ Ev (fun f => impl_PeaceGroups.l2 h f (shlI .u16 1 (i : Int)) 0) r := by
 have hn := (vH_len hv).1
 have g := good_one hv hi
 have hpos : 0 < cntB (shlI .u16 1 (i : Int)) := by
   unfold cntB
   exact List.countP_pos_iff.2 ⟨i, List.mem_range.2 (by omega), g.2.2.2⟩
 obtain ⟨r, r1, r2, r3⟩ := specRounds_ev v hv 0 (Nat.zero_le _) _ g (.inr (by omega))
 have hz : ¬ (0 : Int) = shlI .u16 1 (i : Int) := by
   intro e
   have := g.2.2.2
   rw [← e, bit_none] at this
   cases this
 have hle := cnt_le (by omega) g.2.1
 obtain ⟨q, q1, q2, q3⟩ := implRounds_ev v hv 16 _ 0 g (fun e => absurd e hz) (by omega) (by omega)
 obtain rfl := closed_unique r2 q2 r3 q3
 exact ⟨r, r2, r3, r1, q1⟩
structure PG (h : Herd) (out : List (List Int)) (done : Int) : Prop where
  nd : out.flatten.Nodup
  mem : ∀ x : Int, x ∈ out.flatten ↔ ∃ j : Nat, j < h.Names.length ∧ bitN done j = true ∧ x = (j : Int)
  foe : ∀ Y ∈ out, ∀ a b : Nat, a < h.Names.length → b < h.Names.length → (a : Int) ∈ Y → foeB h a b = true → (b : Int) ∈ Y
  small : ∀ Y ∈ out, Y.length ≤ 16
  din : in16 done
theorem PG.more {h : Herd} (v : VHerd h) (hv : vH h = true) {out : List (List Int)} {done : Int} (p : PG h out done) {i : Nat} (hi : i < h.Names.length) (hb : bitN done i = false) {g : Int} (hg : goodM h i g) (hc : closedB h g) : PG h (out ++ [bl g 0 h.Names.length]) (orI .u16 done g) := by
 obtain ⟨n1, n2, n3⟩ := vH_len hv
 have hd : ∀ j, j < h.Names.length → bitN g j = true → bitN done j = false := fun j hj hgj =>
   hg.2.2.1 (fun j => bitN done j = false) (fun j hj hS t ht hbit => by
     have hS : bitN done j = false := hS
     show bitN done t = false
     cases hdt : bitN done t
     · rfl
     · have htn : t < h.Names.length := Classical.byContradiction fun hno => by
         rw [foes_high v hv hj (by omega)] at hbit; cases hbit
       obtain ⟨Y, hY, hm⟩ := List.mem_flatten.1 ((p.mem (t : Int)).2 ⟨t, htn, hdt, rfl⟩)
       have hs : foeB h t j = true := by rw [← foe_sym hv hj htn, foeB_bit]; exact hbit
       have hj' := p.foe Y hY t j htn hj hm hs
       obtain ⟨j', _, hdj, e⟩ := (p.mem (j : Int)).1 (List.mem_flatten.2 ⟨Y, hY, hj'⟩)
       obtain rfl : j = j' := by omega
       rw [hdj] at hS; cases hS) hb j (by omega) hgj
 refine ⟨?_, fun x => ?_, fun Y hY a b ha hb2 hm hf => ?_, fun Y hY => ?_, or_in _ _⟩
 ·rw [List.flatten_append, List.flatten_singleton]
  refine List.nodup_append.2 ⟨p.nd, bl_nodup _ _ _, fun x hx y hy e => ?_⟩
  subst e
  obtain ⟨j, hj, hdj, rfl⟩ := (p.mem x).1 hx
  obtain ⟨j', _, hj', hgj, e⟩ := mem_bl.1 hy
  obtain rfl : j = j' := by omega
  rw [hd j hj hgj] at hdj; cases hdj
 ·rw [List.flatten_append, List.flatten_singleton, List.mem_append, p.mem, mem_bl]
  constructor
  ·rintro (⟨j, h1, h2, h3⟩ | ⟨j, _, h1, h2, h3⟩)
   ·exact ⟨j, h1, by rw [or_bit p.din hg.1 (by omega), h2]; rfl, h3⟩
   exact ⟨j, by omega, by rw [or_bit p.din hg.1 (by omega), h2, Bool.or_true], h3⟩
  rintro ⟨j, h1, h2, h3⟩
  rw [or_bit p.din hg.1 (by omega), Bool.or_eq_true] at h2
  rcases h2 with h2 | h2
  ·exact .inl ⟨j, h1, h2, h3⟩
  exact .inr ⟨j, Nat.zero_le _, by omega, h2, h3⟩
 ·rcases List.mem_append.1 hY with hY | hY
  ·exact p.foe Y hY a b ha hb2 hm hf
  obtain rfl := List.mem_singleton.1 hY
  obtain ⟨a', _, _, hga, e⟩ := mem_bl.1 hm
  obtain rfl : a = a' := by omega
  rw [foeB_bit] at hf
  exact mem_bl.2 ⟨b, Nat.zero_le _, by omega, hc a ha hga b (by omega) hf, rfl⟩
 rcases List.mem_append.1 hY with hY | hY
 ·exact p.small Y hY
 obtain rfl := List.mem_singleton.1 hY
 have := bl_len g 0 h.Names.length
 omega
theorem peace_loop {h : Herd} (v : VHerd h) (hv : vH h = true) : ∀ i, i ≤ h.Names.length → ∀ (out : List (List Int)) (done : Int), out.length ≤ i → PG h out done → (∀ j, j < i → bitN done j = true) → ∃ (r : List (List Int)) (d : Int), r.length ≤ h.Names.length ∧ PG h r d ∧ (∀ j, j < h.Names.length → bitN d j = true) ∧ Ev (fun k => spec_PeaceGroups.l1 h k out done (i : Int)) r ∧ Ev (fun k => impl_PeaceGroups.l1 h k out done (i : Int)) r := by
 obtain ⟨n1, n2, n3⟩ := vH_len hv
 refine upL ?_ ?_
 ·intro out done hl hp hd
  exact ⟨out, done, hl, hp, hd, Ev.step (fun k => spec_PeaceGroups.l1.eq_2 _ _ _ _ _) (Ev.neg (by omega) (Ev.const rfl)), Ev.step (fun k => impl_PeaceGroups.l1.eq_2 _ _ _ _ _) (Ev.neg (by omega) (Ev.const rfl))⟩
 intro i hi ih out done hl hp hd
 have ui : IntKind.u64.wrap (i : Int) = (i : Int) := wu64 (by omega) (by omega)
 have cu : chk (0 ≤ IntKind.u64.wrap (i : Int)) = some () := chkT (by rw [ui]; omega)
 have ci : chk (0 ≤ (i : Int)) = some () := chkT (by omega)
 cases e : bitN done i
 ·obtain ⟨g, hg, hc, s2, i2⟩ := groupC_ev v hv hi
  have l4 := specList_loop hg.1 n1 0 (Nat.zero_le _) [] (by simp)
  rw [List.nil_append, Nat.sub_zero] at l4
  have li := listed_ev g
  rw [bl_cut (show h.Names.length ≤ 16 by omega) hg.2.1] at li
  have ca : chk (out.length + [bl g 0 h.Names.length].length ≤ 4294967296) = some () := chkT (by simp; omega)
  obtain ⟨r, d, r1, r2, r5, r3, r4⟩ := ih (out ++ [bl g 0 h.Names.length]) (orI .u16 done g) (by simp; omega) (hp.more v hv hi e hg hc) (fun j hj => by
    rw [or_bit hp.din hg.1 (by omega)]
    rcases Nat.lt_or_ge j i with h1 | h1
    · rw [hd j h1]; rfl
    · obtain rfl : j = i := by omega
      rw [hg.2.2.2, Bool.or_true])
  rw [← wsucc hi (by omega)] at r3 r4
  refine ⟨r, d, r1, r2, r5, Ev.step (fun k => spec_PeaceGroups.l1.eq_2 _ _ _ _ _) (Ev.pos (by omega) (Ev.bind (a := (out ++ [bl g 0 h.Names.length], orI .u16 done g)) (Ev.bind (Ev.const cu) (Ev.neg (by rw [ui, bit_test1 hp.din, e]; simp) (Ev.bind (Ev.const cu) (Ev.bind (by rw [ui]; exact s2) (Ev.bind l4 (Ev.bind (Ev.const ca) (Ev.const rfl))))))) r3)), Ev.step (fun k => impl_PeaceGroups.l1.eq_2 _ _ _ _ _) (Ev.pos (by omega) (Ev.bind (a := (out ++ [bl g 0 h.Names.length], orI .u16 done g)) (Ev.bind (Ev.const ci) (Ev.neg (of_decide_eq_false e) (Ev.bind (Ev.const ci) (Ev.bind i2 (Ev.bind li (Ev.bind (Ev.const ca) (Ev.const rfl))))))) r4))⟩
 obtain ⟨r, d, r1, r2, r5, r3, r4⟩ := ih out done (by omega) hp (fun j hj => by
   rcases Nat.lt_or_ge j i with h1 | h1
   · exact hd j h1
   · obtain rfl : j = i := by omega
     exact e)
 rw [← wsucc hi (by omega)] at r3 r4
 exact ⟨r, d, r1, r2, r5, Ev.step (fun k => spec_PeaceGroups.l1.eq_2 _ _ _ _ _) (Ev.pos (by omega) (Ev.bind (a := (out, done)) (Ev.bind (Ev.const cu) (Ev.pos (by rw [ui, bit_test1 hp.din, e]) (Ev.const rfl))) r3)), Ev.step (fun k => impl_PeaceGroups.l1.eq_2 _ _ _ _ _) (Ev.pos (by omega) (Ev.bind (a := (out, done)) (Ev.bind (Ev.const ci) (Ev.pos (of_decide_eq_true e) (Ev.const rfl))) r4))⟩
structure Grps (h : Herd) (out : List (List Int)) : Prop where
  nd : out.flatten.Nodup
  mem : ∀ x : Int, x ∈ out.flatten ↔ ∃ j : Nat, j < h.Names.length ∧ x = (j : Int)
  foe : ∀ Y ∈ out, ∀ a b : Nat, a < h.Names.length → b < h.Names.length → (a : Int) ∈ Y → foeB h a b = true → (b : Int) ∈ Y
  small : ∀ Y ∈ out, Y.length ≤ 16
theorem peace_ev {h : Herd} (v : VHerd h) (hv : vH h = true) : ∃ out : List (List Int), out.length ≤ 14 ∧ Grps h out ∧ Ev (fun k => spec_PeaceGroups.f k h) (out, 0) ∧ Ev (fun k => impl_PeaceGroups.f k h) (out, 0) := by
 have h1 := specHerd_ev v
 have h2 := implHerd_ev v
 rw [hv] at h1 h2
 obtain ⟨n1, n2, n3⟩ := vH_len hv
 obtain ⟨r, d, hr, hp, hd, g1, g2⟩ := peace_loop v hv 0 (Nat.zero_le _) [] 0 (by simp) ⟨by simp, fun x => by simp [bit_none], by simp, by simp, ⟨by omega, by omega⟩⟩ (fun j hj => by omega)
 refine ⟨r, by omega, ⟨hp.nd, fun x => ?_, hp.foe, hp.small⟩, h1.bind (Ev.neg (by simp) (Ev.bind g1 (Ev.const rfl))), h2.bind (Ev.neg (by simp) (Ev.bind g2 (Ev.const rfl)))⟩
 rw [hp.mem]
 exact ⟨fun ⟨j, a, b, c⟩ => ⟨j, a, c⟩, fun ⟨j, a, c⟩ => ⟨j, a, hd j a, c⟩⟩
theorem Grps.len {h : Herd} {out : List (List Int)} (g : Grps h out) : out.flatten.length = h.Names.length := by
 have hn : ((List.range h.Names.length).map fun j : Nat => (j : Int)).Nodup := List.Pairwise.map _ (fun a b (h : a ≠ b) e => h (by omega)) List.nodup_range
 have := (List.perm_ext_iff_of_nodup g.nd hn).2 fun x => by
   rw [g.mem, List.mem_map]
   exact ⟨fun ⟨j, a, e⟩ => ⟨j, List.mem_range.2 a, e.symm⟩, fun ⟨j, a, e⟩ => ⟨j, List.mem_range.1 a, e.symm⟩⟩
 rw [this.length_eq]; simp
theorem sameGroups_ev (xs : List (List Int)) (hx : xs.length ≤ 1048576) (h : ∀ x ∈ xs, x.length ≤ 1048576) : Ev (fun k => spec_A2SameGroups.f k xs xs) true := by
 have same : ∀ ys : List Int, ys.length ≤ 1048576 → Ev (fun k => spec_l00Same.f k ys ys) true := fun ys hy => by
   refine ⟨ys.length + 1, fun k hk => ?_⟩
   show spec_l00Same.f k ys ys = _
   unfold spec_l00Same.f
   rw [if_neg (by omega), eqLoop (f := spec_l00Same.l1 ys ys) rfl (by omega) (fun _ _ => rfl) (by omega)]
   simp
 have key : ∀ i, i ≤ xs.length → Ev (fun k => spec_A2SameGroups.l1 xs xs k (i : Int)) (.inr ()) := by
   refine upL ?_ ?_
   · exact Ev.step (fun k => spec_A2SameGroups.l1.eq_2 _ _ _ _) (Ev.neg (by omega) (Ev.const rfl))
   · intro i hi ih
     rw [← wsucc hi (by omega)] at ih
     exact Ev.step (fun k => spec_A2SameGroups.l1.eq_2 _ _ _ _) (Ev.pos (by omega) (Ev.bind (Ev.const (getI_nat hi)) (Ev.bind (Ev.const (getI_nat hi)) ((same _ (h _ (List.getElem_mem hi))).bind (Ev.neg (by simp) ih)))))
 exact Ev.neg (by simp) (Ev.bind (key 0 (Nat.zero_le _)) (Ev.const rfl))
theorem own_in {h : Herd} (hn : h.Names.length ≤ 14) (t : List (List Int) × Int) {g : Nat} {Y : List Int} (hY : t.1[g]? = some Y) (hg : g ≤ 14) (hl : Y.length ≤ 16) (hnd : Y.Nodup) (hr : ∀ x ∈ Y, ∃ j : Nat, j < h.Names.length ∧ x = (j : Int)) : ∀ i, i ≤ Y.length → ∀ (O : List Int) (c : Nat), O.length = h.Names.length → c ≤ 1000 + i → (∀ j : Nat, (j : Int) ∈ Y.drop i → O.getD j 0 = 0) →
 ∃ O' : List Int, O'.length = h.Names.length ∧ (∀ j : Nat, O'.getD j 0 = if (j : Int) ∈ Y.drop i then (g : Int) + 1 else O.getD j 0) ∧ Ev (fun k => laws_FnHerds.l2 h t (g : Int) k O (c : Int) (i : Int)) (.inr (O', ((c + (Y.length - i) : Nat) : Int))) := by
 obtain ⟨hgl, hYe⟩ := List.getElem?_eq_some_iff.1 hY
 have hget : getI t.1 (g : Int) = some Y := by rw [getI_nat hgl, hYe]
 refine upL ?_ ?_
 ·intro O c hO hc h0
  refine ⟨O, hO, fun j => by simp, Ev.step (fun k => laws_FnHerds.l2.eq_2 _ _ _ _ _ _ _) (Ev.bind (Ev.const hget) (Ev.neg (by omega) (Ev.const ?_)))⟩
  rw [Nat.sub_self, Nat.add_zero]
 intro i hi ih O c hO hc h0
 obtain ⟨j, hj, ej⟩ := hr _ (List.getElem_mem hi)
 have hd : Y.drop i = (j : Int) :: Y.drop (i + 1) := by rw [List.drop_eq_getElem_cons hi, ej]
 have hnj : (j : Int) ∉ Y.drop (i + 1) := by
   have := hnd.sublist (List.drop_sublist i Y)
   rw [hd, List.nodup_cons] at this
   exact this.1
 have hz : O.getD j 0 = 0 := h0 j (by rw [hd]; exact List.mem_cons_self ..)
 have hgO : getI O (j : Int) = some 0 := by rw [getI_nat (by omega), ← getD_at O (by omega), hz]
 have hset : ∀ q : Nat, (O.set j ((g : Int) + 1)).getD q 0 = if j = q then (g : Int) + 1 else O.getD q 0 := fun q => by
   by_cases hq : q < O.length
   · exact set_getD _ _ hq (by omega)
   · rw [if_neg (by omega)]
     simp only [List.getD_eq_getElem?_getD, List.getElem?_eq_none (show O.length ≤ q by omega), List.getElem?_eq_none (show (O.set j ((g : Int) + 1)).length ≤ q by rw [List.length_set]; omega)]
 obtain ⟨O', o1, o2, o3⟩ := ih (O.set j ((g : Int) + 1)) (c + 1) (by simpa using hO) (by omega) (fun q hq => by
   rw [hset, if_neg (by rintro rfl; exact hnj hq)]
   exact h0 q (by rw [hd]; exact List.mem_cons_of_mem _ hq))
 refine ⟨O', o1, fun q => ?_, Ev.step (fun k => laws_FnHerds.l2.eq_2 _ _ _ _ _ _ _) (Ev.bind (Ev.const hget) (Ev.pos (by omega) (Ev.bind (Ev.const hget) (Ev.bind (Ev.const (by rw [getI_nat hi, ej])) (Ev.bind (a := false) ?_ (Ev.neg (by simp) (Ev.bind (Ev.const hgO) ?_)))))))⟩
 ·rw [o2, hset, hd]
  by_cases e : j = q
  ·subst e
   rw [if_neg hnj, if_pos rfl, if_pos (List.mem_cons_self ..)]
  rw [if_neg e]
  by_cases hq : (q : Int) ∈ Y.drop (i + 1)
  ·rw [if_pos hq, if_pos (List.mem_cons_of_mem _ hq)]
  rw [if_neg hq, if_neg (fun h1 => by rcases List.mem_cons.1 h1 with h1 | h1; exact e (by omega); exact hq h1)]
 ·exact Ev.neg (by omega) (Ev.neg (by omega) (Ev.bind (Ev.const hgO) (Ev.const (by simp))))
 rw [wsucc hi (by omega), Int.toNat_natCast, w64 (show -9223372036854775808 ≤ (g : Int) + 1 by omega) (by omega), w64 (show -9223372036854775808 ≤ (c : Int) + 1 by omega) (by omega), show (c : Int) + 1 = ((c + 1 : Nat) : Int) by omega, show c + (Y.length - i) = c + 1 + (Y.length - (i + 1)) by omega]
 exact o3
theorem own_out {h : Herd} (hn : h.Names.length ≤ 14) (t : List (List Int) × Int) (gp : Grps h t.1) (hl : t.1.length ≤ 14) : ∀ g, g ≤ t.1.length → ∀ (O : List Int) (c : Nat), O.length = h.Names.length → c ≤ 16 * g → (∀ j : Nat, (j : Int) ∈ (t.1.drop g).flatten → O.getD j 0 = 0) →
 ∃ O' : List Int, O'.length = h.Names.length ∧ (∀ (q : Nat) (Y : List Int), g ≤ q → t.1[q]? = some Y → ∀ j : Nat, (j : Int) ∈ Y → O'.getD j 0 = (q : Int) + 1) ∧ (∀ j : Nat, (j : Int) ∉ (t.1.drop g).flatten → O'.getD j 0 = O.getD j 0) ∧ Ev (fun k => laws_FnHerds.l1 h t k O (c : Int) (g : Int)) (.inr (O', ((c + (t.1.drop g).flatten.length : Nat) : Int))) := by
 refine upL ?_ ?_
 ·intro O c hO hc h0
  refine ⟨O, hO, fun q Y h1 h2 => ?_, fun j _ => rfl, Ev.step (fun k => laws_FnHerds.l1.eq_2 _ _ _ _ _ _) (Ev.neg (by omega) (Ev.const (by simp)))⟩
  rw [List.getElem?_eq_none h1] at h2; cases h2
 intro g hg ih O c hO hc h0
 have hd : t.1.drop g = t.1[g] :: t.1.drop (g + 1) := List.drop_eq_getElem_cons hg
 have hY : t.1[g]? = some t.1[g] := List.getElem?_eq_getElem hg
 have hm : t.1[g] ∈ t.1 := List.getElem_mem hg
 have hndf : (t.1.drop g).flatten.Nodup := by
   have e : t.1.flatten = (t.1.take g).flatten ++ (t.1.drop g).flatten := by rw [← List.flatten_append, List.take_append_drop]
   have := gp.nd
   rw [e] at this
   exact (List.nodup_append.1 this).2.1
 rw [hd, List.flatten_cons] at hndf h0 ⊢
 obtain ⟨nd1, nd2, nd3⟩ := List.nodup_append.1 hndf
 have hr : ∀ x ∈ t.1[g], ∃ j : Nat, j < h.Names.length ∧ x = (j : Int) := fun x hx => (gp.mem x).1 (List.mem_flatten.2 ⟨_, hm, hx⟩)
 obtain ⟨O1, p1, p2, p3⟩ := own_in hn t hY (by omega) (gp.small _ hm) nd1 hr 0 (Nat.zero_le _) O c hO (by omega) (fun j hj => h0 j (by rw [List.drop_zero] at hj; exact List.mem_append_left _ hj))
 rw [List.drop_zero] at p2
 rw [Nat.sub_zero] at p3
 obtain ⟨O', o1, o2, o3, o4⟩ := ih O1 (c + t.1[g].length) p1 (by have := gp.small _ hm; omega) (fun j hj => by
   rw [p2, if_neg (fun hh => nd3 _ hh _ hj rfl)]
   exact h0 j (List.mem_append_right _ hj))
 rw [← wsucc hg (by omega)] at o4
 refine ⟨O', o1, fun q Y h1 h2 j hj => ?_, fun j hj => ?_, Ev.step (fun k => laws_FnHerds.l1.eq_2 _ _ _ _ _ _) (Ev.pos (by omega) (Ev.bind (a := .inr (O1, ((c + t.1[g].length : Nat) : Int))) (p3.bind (Ev.const rfl)) ?_))⟩
 ·rcases Nat.eq_or_lt_of_le h1 with rfl | h1
  ·rw [hY] at h2
   obtain rfl := Option.some.inj h2
   rw [o3 j (fun hh => nd3 _ hj _ hh rfl), p2, if_pos hj]
  exact o2 q Y h1 h2 j hj
 ·rw [List.mem_append, not_or] at hj
  rw [o3 j hj.2, p2, if_neg hj.1]
 rw [List.length_append, ← Nat.add_assoc]
 exact o4
theorem own_ev {h : Herd} (hv : vH h = true) (t : List (List Int) × Int) (gp : Grps h t.1) (hl : t.1.length ≤ 14) : ∃ O : List Int, O.length = h.Names.length ∧ (∀ a b : Nat, a < h.Names.length → b < h.Names.length → foeB h a b = true → O.getD a 0 = O.getD b 0) ∧ Ev (fun k => laws_FnHerds.l1 h t k (List.replicate h.Names.length 0) 0 0) (.inr (O, (h.Names.length : Int))) := by
 obtain ⟨n1, n2, n3⟩ := vH_len hv
 obtain ⟨O, o1, o2, _, o4⟩ := own_out n1 t gp hl 0 (Nat.zero_le _) (List.replicate h.Names.length 0) 0 (by simp) (by omega) (fun j hj => by
   obtain ⟨j', hj', e⟩ := (gp.mem _).1 (by rw [List.drop_zero] at hj; exact hj)
   rw [getD_at _ (by simp; omega)]; simp)
 rw [List.drop_zero, Nat.zero_add, gp.len] at o4
 refine ⟨O, o1, fun a b ha hb hf => ?_, o4⟩
 obtain ⟨Y, hY, hm⟩ := List.mem_flatten.1 ((gp.mem (a : Int)).2 ⟨a, ha, rfl⟩)
 obtain ⟨q, hq, rfl⟩ := List.getElem_of_mem hY
 rw [o2 q _ (Nat.zero_le _) (List.getElem?_eq_getElem hq) a hm, o2 q _ (Nat.zero_le _) (List.getElem?_eq_getElem hq) b (gp.foe _ hY a b ha hb hm hf)]
theorem foes_in_loop {h : Herd} (v : VHerd h) (hv : vH h = true) {O : List Int} (hO : O.length = h.Names.length) (hf : ∀ a b : Nat, a < h.Names.length → b < h.Names.length → foeB h a b = true → O.getD a 0 = O.getD b 0) {i : Nat} (hi : i < h.Names.length) (c : Int) : ∀ k, k ≤ h.Names.length → Ev (fun f => laws_FnHerds.l4 h O (i : Int) (bl (foes h i) 0 16, c) f (k : Int)) (.inr ()) := by
 obtain ⟨n1, n2, n3⟩ := vH_len hv
 refine upL ?_ ?_
 ·exact Ev.step (fun k => laws_FnHerds.l4.eq_2 _ _ _ _ _ _) (Ev.neg (by omega) (Ev.const rfl))
 intro k hk ih
 rw [← wsucc hk (by omega)] at ih
 have h1 := areFoes_ev v hv hi hk
 have h2 := areFoes_ev v hv hk hi
 have h3 := has_ev (bl (foes h i) 0 16) (by have := bl_len (foes h i) 0 16; omega) (k : Int)
 have e3 : decide ((k : Int) ∈ bl (foes h i) 0 16) = foeB h i k := by
   rw [foeB_bit, Bool.eq_iff_iff, decide_eq_true_eq, mem_bl]
   exact ⟨fun ⟨j, _, _, hb, e⟩ => by rwa [show k = j by omega], fun hb => ⟨k, Nat.zero_le _, by omega, hb, rfl⟩⟩
 rw [e3] at h3
 rw [← foe_sym hv hi hk] at h2
 have hself : foeB h i i = false := by
   have := (vH_ok hv hi).1
   unfold okI at this
   simp only [Bool.and_eq_true, Bool.not_eq_true'] at this
   exact this.2.2.2
 refine Ev.step (fun k => laws_FnHerds.l4.eq_2 _ _ _ _ _ _) (Ev.pos (by omega) (h1.bind (h2.bind (Ev.neg (by simp) (Ev.neg (by simp) (Ev.neg (by simp) (h3.bind (Ev.neg (by simp) ?_))))))))
 cases hb : foeB h i k
 ·refine Ev.neg (by simp) ?_
  by_cases e : i = k
  ·exact Ev.pos (by omega) (Ev.neg (by simp) ih)
  exact Ev.neg (by omega) ih
 have hne : i ≠ k := by rintro rfl; rw [hself] at hb; cases hb
 refine Ev.pos rfl (Ev.bind (Ev.const (getI_nat (show i < O.length by omega))) (Ev.bind (Ev.const (getI_nat (show k < O.length by omega))) (Ev.neg ?_ (Ev.neg (by omega) ih))))
 have := hf i k hi hk hb
 rw [getD_at _ (by omega), getD_at _ (by omega)] at this
 simp [this]
theorem foes_loop {h : Herd} (v : VHerd h) (hv : vH h = true) {O : List Int} (hO : O.length = h.Names.length) (hf : ∀ a b : Nat, a < h.Names.length → b < h.Names.length → foeB h a b = true → O.getD a 0 = O.getD b 0) : ∀ i, i ≤ h.Names.length → Ev (fun k => laws_FnHerds.l3 h O k (i : Int)) (.inr ()) := by
 obtain ⟨n1, n2, n3⟩ := vH_len hv
 refine upL ?_ ?_
 ·exact Ev.step (fun k => laws_FnHerds.l3.eq_2 _ _ _ _) (Ev.neg (by omega) (Ev.const rfl))
 intro i hi ih
 rw [← wsucc hi (by omega)] at ih
 exact Ev.step (fun k => laws_FnHerds.l3.eq_2 _ _ _ _) (Ev.pos (by omega) (Ev.bind (Ev.bind (foesOf_ev v hv hi) (Ev.neg (by simp) (Ev.bind (foes_in_loop v hv hO hf hi 0 0 (Nat.zero_le _)) (Ev.const rfl)))) ih))
end Go.Proofs.YtplfdbfdalaefaaGreatDoor
