import Derived.Test.YtegibnmfiogebaaGreatDoorFI
import Derived.Test.YtegibnmfiogebaaGreatDoorD5
import Derived.Test.YtegibnmfiogebaaGreatDoorDF
import Derived.Test.YtegibnmfiogebaaGreatDoorQC
import Derived.Lib.SplitLaws
import Derived.Lib.ParseIntBTie
import Derived.Test.YtegibnmfiogebaaGreatDoorW4
/-
  Plain law: hurdles put and taken; the hurdle between two cells.
-/
namespace Go.Proofs.YtegibnmfiogebaaGreatDoor
open G
set_option linter.unusedVariables false
set_option linter.unusedSimpArgs false
section
variable {W H : Nat} {p q : Pasture} {Gr : Nat → Nat → Int} {E S : Nat → Nat → Bool} {T : List Spot} {l : List Hurdle} {x y x' y' : Nat} {s t : Spot}
def putL (on : Bool) (p : Pasture) (l : List Hurdle) : Pasture := l.foldl (fun p h => putB p h.At.X.toNat h.At.Y.toNat h.South on) p
theorem putL_app (on : Bool) (p : Pasture) (a b : List Hurdle) : putL on p (a ++ b) = putL on (putL on p a) b := List.foldl_append ..
theorem withL_ev (on : Bool) {l : List Hurdle} (hl : ∀ h ∈ l, ∃ x y s, x < 10 ∧ y < 10 ∧ h = hu x y s) (hn : l.length ≤ 100000) (p : Pasture) : Ev (fun k => q0r.f k p l on) (putL on p l) := by
 have key : ∀ i, i ≤ l.length → ∀ p : Pasture, Ev (fun k => q0r.l1 l on k p (i : Int)) (putL on p (l.drop i)) := by
   refine upL ?_ ?_
   · intro p
     rw [List.drop_length]
     exact Ev.step (fun k => q0r.l1.eq_2 _ _ _ _ _) (Ev.neg (by omega) (Ev.const rfl))
   · intro i hi ih p
     obtain ⟨x, y, s, hx, hy, e⟩ := hl _ (List.getElem_mem hi)
     have g : getI l (i : Int) = some (hu x y s) := (getI_nat hi).trans (congrArg some e)
     have a := ih (putB p x y s on)
     rw [← wsucc hi (by omega)] at a
     rw [List.drop_eq_getElem_cons hi, e]
     exact Ev.step (fun k => q0r.l1.eq_2 _ _ _ _ _) (Ev.pos (by omega) (Ev.bind (Ev.const g) (Ev.bind (Ev.const (putI_eq p hx hy s on)) a)))
 have a := key 0 (Nat.zero_le _) p
 rw [List.drop_zero] at a
 exact a.bind (Ev.const rfl)
theorem hu_inj {x y x' y' : Nat} {s s' : Bool} : hu x y s = hu x' y' s' ↔ (x = x' ∧ y = y') ∧ s = s' := by
 constructor
 ·intro h
  exact ⟨sp_inj.1 (congrArg Hurdle.At h), congrArg Hurdle.South h⟩
 rintro ⟨⟨rfl, rfl⟩, rfl⟩; rfl
theorem PD.puts (hW : W ≤ 10) (hH : H ≤ 10) (on : Bool) : ∀ (l : List Hurdle) {p : Pasture} {E S : Nat → Nat → Bool}, PD W H Gr E S p → (∀ g ∈ l, ∃ x y s, (if s = true then x < W ∧ y + 1 < H else x + 1 < W ∧ y < H) ∧ g = hu x y s) →
 PD W H Gr (fun y x => if hu x y false ∈ l then on else E y x) (fun y x => if hu x y true ∈ l then on else S y x) (putL on p l)
  | [], p, E, S, h, _ => h.congr (fun _ _ _ _ => rfl) (fun y x _ _ => by simp) (fun y x _ _ => by simp)
  | g :: l, p, E, S, h, hl => by
    obtain ⟨x, y, s, hb, rfl⟩ := hl _ (List.mem_cons_self ..)
    have hxy : x < 10 ∧ y < 10 := by split at hb <;> omega
    have h1 := PD.puts hW hH on l (h.put hxy.1 hxy.2 s on (fun _ => hb)) (fun g hg => hl g (List.mem_cons_of_mem _ hg))
    have ed : ∀ (b a : Nat) (r : Bool), hu a b r ∈ hu x y s :: l ↔ ((b = y ∧ a = x) ∧ r = s) ∨ hu a b r ∈ l := fun b a r => by
      rw [List.mem_cons, hu_inj]
      constructor
      · rintro (⟨⟨h1, h2⟩, h3⟩ | h)
        · exact .inl ⟨⟨h2, h1⟩, h3⟩
        · exact .inr h
      · rintro (⟨⟨h1, h2⟩, h3⟩ | h)
        · exact .inl ⟨⟨h2, h1⟩, h3⟩
        · exact .inr h
    refine PD.congr h1 (fun _ _ _ _ => rfl) (fun b a _ _ => ?_) (fun b a _ _ => ?_)
    · simp only [ed]
      cases s
      · simp only [Bool.false_eq_true, if_false, upd]
        by_cases c : b = y ∧ a = x <;> by_cases d : hu a b false ∈ l <;> simp [c, d]
      · by_cases d : hu a b false ∈ l <;> simp [d]
    · simp only [ed]
      cases s
      · by_cases d : hu a b true ∈ l <;> simp [d]
      · simp only [if_true, upd]
        by_cases c : b = y ∧ a = x <;> by_cases d : hu a b true ∈ l <;> simp [c, d]
theorem isB_iff (hw : okW p = true) {x y : Nat} {s : Bool} (hx : x < p.Wide.toNat) (hy : y < p.High.toNat) : isB p x y s = true ↔ if s = true then y + 1 < p.High.toNat else x + 1 < p.Wide.toNat := by
 obtain ⟨w1, w2⟩ := okW_iff.1 hw
 cases s
 ·show cellB p (nx (sp x y) 1).X (nx (sp x y) 1).Y = true ↔ x + 1 < p.Wide.toNat
  rw [nx1 (by omega)]
  exact (cellB_sp hw).trans ⟨fun h => h.1, fun h => ⟨h, hy⟩⟩
 show cellB p (nx (sp x y) 2).X (nx (sp x y) 2).Y = true ↔ y + 1 < p.High.toNat
 rw [nx2 (by omega)]
 exact (cellB_sp hw).trans ⟨fun h => h.2, fun h => ⟨hx, h⟩⟩
theorem told_bet (hw : okW p = true) {h : Hurdle} (ht : told p h) : ∃ x y s, (if s = true then x < p.Wide.toNat ∧ y + 1 < p.High.toNat else x + 1 < p.Wide.toNat ∧ y < p.High.toNat) ∧ h = hu x y s := by
 obtain ⟨x, y, s, hx, hy, hi, rfl⟩ := ht
 refine ⟨x, y, s, ?_, rfl⟩
 have := (isB_iff hw hx hy).1 hi
 split at this
 ·rename_i c; rw [if_pos c]; exact ⟨hx, this⟩
 rename_i c; rw [if_neg c]; exact ⟨this, hy⟩
theorem told_10 (hw : okW p = true) {h : Hurdle} (ht : told p h) : ∃ x y s, x < 10 ∧ y < 10 ∧ h = hu x y s := by
 obtain ⟨w1, w2⟩ := okW_iff.1 hw
 obtain ⟨x, y, s, hx, hy, _, e⟩ := ht
 exact ⟨x, y, s, by omega, by omega, e⟩
structure More (p : Pasture) (l : List Hurdle) (q : Pasture) : Prop where
  v : VPasture q
  ok : vP q = true
  w : q.Wide = p.Wide
  h : q.High = p.High
  st : ∀ h, told p h → stH q h = (stH p h || decide (h ∈ l))
theorem told_size (w : q.Wide = p.Wide) (h : q.High = p.High) {g : Hurdle} : told q g ↔ told p g := by
 unfold told isB cellB; rw [w, h]
theorem put_more (v : VPasture p) (hp : vP p = true) (hl : ∀ h ∈ l, told p h) : More p l (putL true p l) := by
 have hw := vP_okW hp
 obtain ⟨w1, w2⟩ := okW_iff.1 hw
 have hpd := PD.puts (by omega) (by omega) true l (PD.of v hp) fun g hg => told_bet hw (hl g hg)
 have hG : ∀ b a, a < p.Wide.toNat → b < p.High.toNat → 0 ≤ gG p b a ∧ gG p b a ≤ 1000 := fun b a ha hb => (vP_G hp (show b < 10 by omega) (show a < 10 by omega)).1
 refine ⟨hpd.V (by omega) (by omega) hG, hpd.ok (by omega) (by omega) hG, by rw [hpd.w]; omega, by rw [hpd.h]; omega, fun h ht => ?_⟩
 obtain ⟨x, y, s, hb, rfl⟩ := told_bet hw ht
 cases s
 ·simp only [Bool.false_eq_true, if_false] at hb
  show btB (gA (putL true p l).East y) x = (btB (gA p.East y) x || decide (hu x y false ∈ l))
  rw [hpd.eE (by omega) (by omega) hb.1 hb.2]
  by_cases c : hu x y false ∈ l <;> simp [c]
 simp only [if_true] at hb
 show btB (gA (putL true p l).South y) x = (btB (gA p.South y) x || decide (hu x y true ∈ l))
 rw [hpd.eS (by omega) (by omega) hb.1 hb.2]
 by_cases c : hu x y true ∈ l <;> simp [c]
theorem put_take (v : VPasture p) (hp : vP p = true) (hl : ∀ h ∈ l, told p h ∧ stH p h = false) : putL false (putL true p l) l = p := by
 have hw := vP_okW hp
 obtain ⟨w1, w2⟩ := okW_iff.1 hw
 have hb : ∀ g ∈ l, _ := fun g hg => told_bet hw (hl g hg).1
 have h1 := PD.puts (by omega) (by omega) true l (PD.of v hp) hb
 have h2 := PD.puts (by omega) (by omega) false l h1 hb
 refine PD.ext h2 (PD.of v hp) (fun _ _ _ _ => rfl) (fun y x _ _ => ?_) (fun y x _ _ => ?_)
 ·by_cases c : hu x y false ∈ l
  ·have : btB (gA p.East y) x = false := (hl _ c).2
   simp [c, this]
  simp [c]
 by_cases c : hu x y true ∈ l
 ·have : btB (gA p.South y) x = false := (hl _ c).2
  simp [c, this]
 simp [c]
def hb (s t : Spot) : Hurdle := if ltS t s = true then ⟨t, decide (t.Y < s.Y)⟩ else ⟨s, decide (s.Y < t.Y)⟩
theorem between_eq (s t : Spot) : q2o.f s t = some (hb s t) := by
 unfold q2o.f hb
 rw [before_eq, Option.bind_some]
 split <;> rfl
def adj (p : Pasture) (s t : Spot) : Prop := (∃ x y, x < p.Wide.toNat ∧ y < p.High.toNat ∧ s = sp x y) ∧ ∃ i : Nat, i < 4 ∧ nx s (i : Int) = t ∧ cellB p t.X t.Y = true
theorem hb_hA (hw : okW p = true) (hx : x < p.Wide.toNat) (hy : y < p.High.toNat) {i : Nat} (hi : i < 4) (hc : cellB p (nx (sp x y) i).X (nx (sp x y) i).Y = true) : hb (sp x y) (nx (sp x y) (i : Int)) = hA (sp x y) i := by
 obtain ⟨w1, w2⟩ := okW_iff.1 hw
 have lt : ∀ {a b c d : Nat}, ltS (sp a b) (sp c d) = decide (b < d ∨ (b = d ∧ a < c)) := fun {a b c d} => by
   unfold ltS sp; rw [decide_eq_decide]; simp only; omega
 rcases side hi with rfl | rfl | rfl | rfl
 ·obtain ⟨x', y', a, b, s, e1, h1, h2, _⟩ := hA_ends hw hx hy (by omega) hc
  have h0 : 1 ≤ y := by
    rcases Nat.eq_zero_or_pos y with rfl | h
    · exfalso
      rw [show ((0 : Nat) : Int) = 0 from rfl] at e1
      rw [show nx (sp x 0) 0 = ⟨(x : Int), IntKind.i8.wrap (((0 : Nat) : Int) - 1)⟩ from rfl, show IntKind.i8.wrap (((0 : Nat) : Int) - 1) = -1 by decide] at e1
      have : (-1 : Int) = (y' : Int) := congrArg Spot.Y e1
      omega
    · exact h
  have e := nx0 (x := x) h0 (show y < 10 by omega)
  show hb (sp x y) (nx (sp x y) 0) = hA (sp x y) 0
  unfold hA
  rw [if_pos rfl, e]
  unfold hb
  rw [lt, if_pos (decide_eq_true (.inl (by omega)))]
  congr 1
  exact decide_eq_true (show ((y - 1 : Nat) : Int) < (y : Int) by omega)
 ·have e := nx1 (y := y) (show x < 10 by omega)
  show hb (sp x y) (nx (sp x y) 1) = hA (sp x y) 1
  unfold hA
  rw [if_neg (by simp), if_neg (by simp), e]
  unfold hb
  rw [lt, if_neg (by simp)]
  congr 1
  simp [sp]
 ·have e := nx2 (x := x) (show y < 10 by omega)
  show hb (sp x y) (nx (sp x y) 2) = hA (sp x y) 2
  unfold hA
  rw [if_neg (by simp), if_neg (by simp), e]
  unfold hb
  rw [lt, if_neg (by simp)]
  congr 1
  rw [decide_eq_true (show (sp x y).Y < (sp x (y + 1)).Y from by show (y : Int) < ((y + 1 : Nat) : Int); omega)]; rfl
 obtain ⟨x', y', a, b, s, e1, h1, h2, _⟩ := hA_ends hw hx hy (by omega) hc
 have h0 : 1 ≤ x := by
   rcases Nat.eq_zero_or_pos x with rfl | h
   · exfalso
     rw [show ((3 : Nat) : Int) = 3 from rfl] at e1
     rw [show nx (sp 0 y) 3 = ⟨IntKind.i8.wrap (((0 : Nat) : Int) - 1), (y : Int)⟩ from rfl, show IntKind.i8.wrap (((0 : Nat) : Int) - 1) = -1 by decide] at e1
     have : (-1 : Int) = (x' : Int) := congrArg Spot.X e1
     omega
   · exact h
 have e := nx3 (y := y) h0 (show x < 10 by omega)
 show hb (sp x y) (nx (sp x y) 3) = hA (sp x y) 3
 unfold hA
 rw [if_neg (by simp), if_pos rfl, e]
 unfold hb
 rw [lt, if_pos (decide_eq_true (.inr ⟨rfl, by omega⟩))]
 congr 1
 simp [sp]
theorem adj_ends (hw : okW p = true) (h : adj p s t) : told p (hb s t) ∧ ((hb s t).At = s ∧ nx (hb s t).At (sdI (hb s t).South) = t ∨ (hb s t).At = t ∧ nx (hb s t).At (sdI (hb s t).South) = s) ∧ ∃ x' y', x' < p.Wide.toNat ∧ y' < p.High.toNat ∧ t = sp x' y' := by
 obtain ⟨⟨x, y, hx, hy, rfl⟩, i, hi, rfl, hc⟩ := h
 obtain ⟨x', y', a, b, s, e1, h1, h2, e2, ha, hb', hi2, _, e3⟩ := hA_ends hw hx hy hi hc
 rw [hb_hA hw hx hy hi hc, e2]
 refine ⟨⟨a, b, s, ha, hb', hi2, rfl⟩, ?_, x', y', h1, h2, e1⟩
 show (sp a b = sp x y ∧ nx (sp a b) (sdI s) = nx (sp x y) i) ∨ (sp a b = nx (sp x y) i ∧ nx (sp a b) (sdI s) = sp x y)
 rw [e1]; exact e3
theorem nbL_hb (hw : okW p = true) (hs : inP p [s]) : t ∈ nbL p s ↔ adj p s t ∧ stH p (hb s t) = false := by
 obtain ⟨w1, w2⟩ := okW_iff.1 hw
 obtain ⟨x, y, hx, hy, rfl⟩ := hs s (List.mem_singleton.2 rfl)
 constructor
 ·intro h
  obtain ⟨x', y', h1, h2, rfl, _, _, i, hi, ho, e⟩ := nbL_in hw h
  have hc := ho
  unfold openB at hc
  rw [Bool.and_eq_true] at hc
  obtain ⟨x2, y2, a, b, s, e1, _, _, e2, ha, hb', hi2, e4, _⟩ := hA_ends hw hx hy hi hc.1
  refine ⟨⟨⟨x, y, hx, hy, rfl⟩, i, hi, e, (cellB_sp hw).2 ⟨h1, h2⟩⟩, ?_⟩
  rw [← e, hb_hA hw hx hy hi hc.1, e2]
  show stB p a b s = false
  rw [e4]; simpa using hc.2
 rintro ⟨⟨_, i, hi, rfl, hc⟩, hst⟩
 rw [hb_hA hw hx hy hi hc] at hst
 obtain ⟨x2, y2, a, b, s, e1, h1, h2, e2, ha, hb', hi2, e4, _⟩ := hA_ends hw hx hy hi hc
 rw [e2] at hst
 rw [e1]
 refine (nbL_iff hw).2 ⟨by omega, by omega, i, hi, ?_, e1⟩
 unfold openB
 rw [hc, ← e4, show stB p a b s = false from hst]; rfl
theorem More.adj (m : More p l q) : adj q s t ↔ Go.Proofs.YtegibnmfiogebaaGreatDoor.adj p s t := by
 unfold Go.Proofs.YtegibnmfiogebaaGreatDoor.adj cellB; rw [m.w, m.h]
theorem More.inP (m : More p l q) {T : List Spot} : inP q T ↔ Go.Proofs.YtegibnmfiogebaaGreatDoor.inP p T := by
 unfold Go.Proofs.YtegibnmfiogebaaGreatDoor.inP; rw [m.w, m.h]
theorem More.nb (hw : okW p = true) (m : More p l q) (hs : Go.Proofs.YtegibnmfiogebaaGreatDoor.inP p [s]) : t ∈ nbL q s ↔ t ∈ nbL p s ∧ hb s t ∉ l := by
 rw [nbL_hb (vP_okW m.ok) (m.inP.2 hs), nbL_hb hw hs, m.adj]
 constructor
 ·rintro ⟨h1, h2⟩
  rw [m.st _ (adj_ends hw h1).1, Bool.or_eq_false_iff, decide_eq_false_iff_not] at h2
  exact ⟨⟨h1, h2.1⟩, h2.2⟩
 rintro ⟨⟨h1, h2⟩, h3⟩
 refine ⟨h1, ?_⟩
 rw [m.st _ (adj_ends hw h1).1, h2, decide_eq_false h3]; rfl
theorem More.OSd (m : More p l q) {h : Hurdle} : h ∈ OSd q T ↔ h ∈ Go.Proofs.YtegibnmfiogebaaGreatDoor.OSd p T ∧ h ∉ l := by
 rw [OS_mem, OS_mem, told_size m.w m.h]
 constructor
 ·rintro ⟨h1, h2, h3⟩
  rw [m.st _ h1, Bool.or_eq_false_iff, decide_eq_false_iff_not] at h3
  exact ⟨⟨h1, h2, h3.1⟩, h3.2⟩
 rintro ⟨⟨h1, h2, h3⟩, h4⟩
 refine ⟨h1, h2, ?_⟩
 rw [m.st _ h1, h3, decide_eq_false h4]; rfl
theorem adj_dif (hw : okW p = true) (h : adj p s t) (hT : ¬ (s ∈ T ↔ t ∈ T)) : dif T (hb s t) = true := by
 rw [dif_iff]
 obtain ⟨_, e, _⟩ := adj_ends hw h
 by_cases a : s ∈ T <;> by_cases b : t ∈ T
 ·exact absurd ⟨fun _ => b, fun _ => a⟩ hT
 ·rcases e with ⟨e1, e2⟩ | ⟨e1, e2⟩
  ·left; rw [e2, e1]; exact ⟨a, b⟩
  right; rw [e2, e1]; exact ⟨b, a⟩
 ·rcases e with ⟨e1, e2⟩ | ⟨e1, e2⟩
  ·right; rw [e2, e1]; exact ⟨a, b⟩
  left; rw [e2, e1]; exact ⟨b, a⟩
 exact absurd ⟨fun h => absurd h a, fun h => absurd h b⟩ hT
theorem step_OS (hw : okW p = true) (hs : inP p [s]) (h : t ∈ nbL p s) (hT : ¬ (s ∈ T ↔ t ∈ T)) : hb s t ∈ OSd p T := by
 obtain ⟨h1, h2⟩ := (nbL_hb hw hs).1 h
 exact OS_mem.2 ⟨(adj_ends hw h1).1, adj_dif hw h1 hT, h2⟩
theorem OS_step (hw : okW p = true) {h : Hurdle} (hh : h ∈ OSd p T) : ∃ s t, inP p [s] ∧ t ∈ nbL p s ∧ h = hb s t ∧ s ∈ T ∧ t ∉ T := by
 obtain ⟨⟨a, b, s, ha, hb', hi, rfl⟩, hd, hst⟩ := OS_mem.1 hh
 obtain ⟨x', y', hx', hy', e1, e2, j, hj, e3, e4⟩ := hu_sides hw ha hb' hi
 have c1 : cellB p (nx (sp a b) (sdI s : Nat)).X (nx (sp a b) (sdI s : Nat)).Y = true := hi
 have hs4 : sdI s < 4 := by unfold sdI; split <;> omega
 have c2 : cellB p (nx (sp x' y') (j : Int)).X (nx (sp x' y') (j : Int)).Y = true := by rw [e3]; exact (cellB_sp hw).2 ⟨ha, hb'⟩
 have k1 := hb_hA hw ha hb' hs4 c1
 have k2 := hb_hA hw hx' hy' hj c2
 rw [e1, e2] at k1
 rw [e3, e4] at k2
 have p1 : inP p [sp a b] := fun z hz => ⟨a, b, ha, hb', List.mem_singleton.1 hz⟩
 have p2 : inP p [sp x' y'] := fun z hz => ⟨x', y', hx', hy', List.mem_singleton.1 hz⟩
 have n1 : sp x' y' ∈ nbL p (sp a b) := (nbL_hb hw p1).2 ⟨⟨⟨a, b, ha, hb', rfl⟩, sdI s, hs4, e1, (cellB_sp hw).2 ⟨hx', hy'⟩⟩, by rw [k1]; exact hst⟩
 rw [dif_iff] at hd
 change (sp a b ∈ T ∧ nx (sp a b) (sdI s) ∉ T) ∨ (sp a b ∉ T ∧ nx (sp a b) (sdI s) ∈ T) at hd
 rw [e1] at hd
 rcases hd with ⟨d1, d2⟩ | ⟨d1, d2⟩
 ·exact ⟨sp a b, sp x' y', p1, n1, k1.symm, d1, d2⟩
 exact ⟨sp x' y', sp a b, p2, nbL_back hw ha hb' n1, k2.symm, d2, d1⟩
end
section
variable {p : Pasture} {a b T : List Spot} {s t : Spot} {x y i : Nat} {A B : Spot → Bool} {g : Spot → Spot → Int}
abbrev FlT (p : Pasture) (a b : List Spot) (f : l03Flow) : Prop := Fl (cL p) (eB p) (inB a) (inB b) (gTf f)
theorem FlT.bnd {f : l03Flow} (h : FlT p a b f) : bnd 1 f := fun y x hy hx => by
  have h1 := h.cap (sp x y) (sp (x + 1) y)
  have h2 := h.cap (sp (x + 1) y) (sp x y)
  have h3 := h.anti (sp x y) (sp (x + 1) y)
  have h4 := h.cap (sp x y) (sp x (y + 1))
  have h5 := h.cap (sp x (y + 1)) (sp x y)
  have h6 := h.anti (sp x y) (sp x (y + 1))
  have e1 : gTf f (sp x y) (sp (x + 1) y) = g2 f.east y x := gT_east _ _ x y
  have e2 : gTf f (sp x y) (sp x (y + 1)) = g2 f.south y x := gT_south _ _ x y
  have l : ∀ c : Bool, (if c = true then (1 : Int) else 0) ≤ 1 := fun c => by split <;> omega
  have l1 := l (eB p (sp x y) (sp (x + 1) y))
  have l2 := l (eB p (sp (x + 1) y) (sp x y))
  have l3 := l (eB p (sp x y) (sp x (y + 1)))
  have l4 := l (eB p (sp x (y + 1)) (sp x y))
  omega
theorem Bk.res {B : Spot → Int} {r : List Spot} (h : Bk p (inB a) g B s r) : (∀ z ∈ r, z ∈ cL p) → Res (cL p) (eB p) (inB a) g s := by
  induction h with
  | @base s h1 _ => intro hr; exact .base (hr _ (List.mem_singleton.2 rfl)) h1
  | @step s t r i h1 h2 h3 h4 h5 h6 ih => intro hr; exact .step (ih fun z hz => hr z (List.mem_append_left _ hz)) (hr s (List.mem_append_right _ (List.mem_singleton.2 rfl))) h5 h6
theorem reach_ev (h : Pt p a b) {f : l03Flow} (hF : FlT p a b f) {ma mb : Bt} (hma : ∀ y x, y < 10 → x < 10 → b2 ma y x = decide (sp x y ∈ a)) (hmb : ∀ y x, y < 10 → x < 10 → b2 mb y x = decide (sp x y ∈ b)) :
 (∃ m f', Ev (fun k => q07.f k p f ma mb) (m, true, f') ∧ FlT p a b f' ∧ val (cL p) (inB a) (gTf f') = val (cL p) (inB a) (gTf f) + 1) ∨
 ∃ m q, Ev (fun k => q07.f k p f ma mb) (m, false, f) ∧ (∀ x y, x < 10 → y < 10 → (b2 m y x = true ↔ sp x y ∈ q)) ∧ inP p q ∧ (∀ s, s ∈ q ↔ Res (cL p) (eB p) (inB a) (gTf f) s) ∧ ∀ s ∈ q, s ∉ b := by
  have hw := vP_okW h.ok
  obtain ⟨m0, b0, q0, z1, z2⟩ := grid0 (a := a) hw hma 0 (Nat.zero_le _) noM (Arr.mk' (Arr.mk' 0 : Arr 10 Int) : Tb) [] ⟨fun z hz => by simp at hz, List.nodup_nil, fun x y _ _ => by rw [b2_no]; simp, fun z hz => by simp at hz, fun z hz => by simp at hz, fun c d hz => by simp at hz, fun c d _ _ _ hl => by omega⟩
  have hall : ∀ s ∈ a, s ∈ q0 := fun s hs => by
    obtain ⟨x, y, hx, hy, rfl⟩ := h.ia s hs
    exact z2.all x y hx hy hs (.inl hy)
  have hk : KR p (inB a) (gTf f) m0 b0 q0 := ⟨z2.cells, z2.nd, z2.seen, fun s hs => ⟨[s], .base (inB_t.2 (z2.own s hs)) (z2.by1 s hs), by simp, fun z hz => by rw [List.mem_singleton.1 hz]; exact hs⟩⟩
  rcases reach3 h.v hw hF.bnd hmb 100 0 m0 b0 q0 hk (Nat.zero_le _) (fun s hs => by simp at hs) (by omega) with ⟨m', f', s, r, e1, ⟨B, e2⟩, e3, e4, e5, e6⟩ | ⟨m', by', r, e1, e2, e3⟩
  · left
    obtain ⟨k1, u, l, rfl, k2, k3⟩ := e2.way
    obtain ⟨k4, k5⟩ := hF.more cL_nodup (eB_symm hw) h.AC h.AB e3 (fun z hz => inP_cL e4 hz) k1 k2 (by rw [k3]; exact inB_t.2 e5)
    rw [← e6] at k4 k5
    exact ⟨m', f', z1.bind (e1.bind (Ev.const rfl)), k4, k5⟩
  right
  refine ⟨m', q0 ++ r, z1.bind (e1.bind (Ev.const rfl)), e2.seen, e2.cells, fun s => ⟨fun hs => ?_, fun hs => ?_⟩, fun s hs => (e3 s hs).1⟩
  · obtain ⟨r', k1, _, k3⟩ := e2.ch s hs
    exact k1.res fun z hz => inP_cL e2.cells (k3 z hz)
  induction hs with
  | base _ ha => exact List.mem_append_left _ (hall _ (inB_t.1 ha))
  | @step s t h1 ht he hg ih =>
    obtain ⟨x, y, hx, hy, rfl⟩ := cL_inP s h1.mem
    exact (e3 _ ih).2 t ((eB_sp hw hx hy).1 he) hg
theorem nearS_fin (h : Pt p a b) {f : l03Flow} (hF : FlT p a b f) {m : Bt} {q : List Spot} (e1 : ∀ x y, x < 10 → y < 10 → (b2 m y x = true ↔ sp x y ∈ q)) (e2 : inP p q) (e3 : ∀ s, s ∈ q ↔ Res (cL p) (eB p) (inB a) (gTf f) s) (e4 : ∀ s ∈ q, s ∉ b) : ∃ T, NearL p a b T ∧ ∀ y x, y < 10 → x < 10 → b2 m y x = decide (sp x y ∈ T) := by
 obtain ⟨w1, w2⟩ := okW_iff.1 (vP_okW h.ok)
 obtain ⟨g1, g2, g3⟩ := grid_in (p := p) (fun y x => b2 m y x)
 have hm : ∀ s, s ∈ gridF (fun y x => b2 m y x) p.Wide.toNat 0 p.High.toNat ↔ s ∈ q := fun s => by
   constructor
   · intro hs
     obtain ⟨x, y, hx, hy, rfl⟩ := g2 s hs
     exact (e1 x y (by omega) (by omega)).1 ((g3 x y hx hy).1 hs)
   · intro hs
     obtain ⟨x, y, hx, hy, rfl⟩ := e2 s hs
     exact (g3 x y hx hy).2 ((e1 x y (by omega) (by omega)).2 hs)
 refine ⟨_, ⟨g1, g2, ⟨gTf f, hF, fun s => by rw [inB_t, hm, e3]⟩, fun s hs => decide_eq_false fun hT => e4 s ((hm s).1 hT) (inB_t.1 hs)⟩, fun y x hy hx => ?_⟩
 rw [Bool.eq_iff_iff, decide_eq_true_eq, hm, e1 x y hx hy]
theorem nearS_loop (h : Pt p a b) {ma mb : Bt} (hma : ∀ y x, y < 10 → x < 10 → b2 ma y x = decide (sp x y ∈ a)) (hmb : ∀ y x, y < 10 → x < 10 → b2 mb y x = decide (sp x y ∈ b)) : ∀ (n : Nat) (f : l03Flow) (m0 : Bt), FlT p a b f → (capC (cL p) (eB p) (inB a) - val (cL p) (inB a) (gTf f)).toNat ≤ n → ∃ m T, Ev (fun k => q1c.l1 p ma mb k f m0 true) m ∧ NearL p a b T ∧ ∀ y x, y < 10 → x < 10 → b2 m y x = decide (sp x y ∈ T) := by
  intro n
  induction n with
  | zero =>
    intro f m0 hF hn
    rcases reach_ev h hF hma hmb with ⟨m, f', e1, e2, e3⟩ | ⟨m, q, e1, e2, e3, e4, e5⟩
    · have := h.le e2
      omega
    · obtain ⟨T, t1, t2⟩ := nearS_fin h hF e2 e3 e4 e5
      exact ⟨m, T, Ev.step (fun k => q1c.l1.eq_2 _ _ _ _ _ _ _) (Ev.pos rfl (e1.bind (Ev.step (fun k => q1c.l1.eq_2 _ _ _ _ _ _ _) (Ev.neg (by simp) (Ev.const rfl))))), t1, t2⟩
  | succ n ih =>
    intro f m0 hF hn
    rcases reach_ev h hF hma hmb with ⟨m, f', e1, e2, e3⟩ | ⟨m, q, e1, e2, e3, e4, e5⟩
    · have := h.le e2
      obtain ⟨m', T, t1, t2⟩ := ih f' m e2 (by omega)
      exact ⟨m', T, Ev.step (fun k => q1c.l1.eq_2 _ _ _ _ _ _ _) (Ev.pos rfl (e1.bind t1)), t2⟩
    · obtain ⟨T, t1, t2⟩ := nearS_fin h hF e2 e3 e4 e5
      exact ⟨m, T, Ev.step (fun k => q1c.l1.eq_2 _ _ _ _ _ _ _) (Ev.pos rfl (e1.bind (Ev.step (fun k => q1c.l1.eq_2 _ _ _ _ _ _ _) (Ev.neg (by simp) (Ev.const rfl))))), t1, t2⟩
theorem nearS_ev (h : Pt p a b) : ∃ m T, Ev (fun k => q1c.f k p a b) m ∧ NearL p a b T ∧ ∀ y x, y < 10 → x < 10 → b2 m y x = decide (sp x y ∈ T) := by
 have hw := vP_okW h.ok
 have hal := h.al
 have hbl := h.bl
 obtain ⟨ma, a1, a2⟩ := mask_ev (h.ia.cellIn hw) (by omega)
 obtain ⟨mb, b1, b2'⟩ := mask_ev (h.ib.cellIn hw) (by omega)
 have hz : ∀ s, gF (Arr.mk' (Arr.mk' 0 : Arr 10 Int) : Tb) s = 0 := fun s => by
   unfold gF
   split
   · have h : ∀ n i : Nat, (List.replicate n (0 : Int)).getD i 0 = 0 := fun n i => by
       rw [List.getD_eq_getElem?_getD, List.getElem?_replicate]; split <;> rfl
     unfold g2 gA gR Arr.mk'
     simp only [List.getElem?_replicate]
     split <;> exact h _ _
   · rfl
 have h0 : ∀ s t, gTf (⟨(Arr.mk' (Arr.mk' 0 : Arr 10 Int) : Tb), (Arr.mk' (Arr.mk' 0 : Arr 10 Int) : Tb)⟩ : l03Flow) s t = 0 := fun s t => by
   unfold gTf gT
   simp only [hz]; simp
 have hF : FlT p a b (⟨(Arr.mk' (Arr.mk' 0 : Arr 10 Int) : Tb), (Arr.mk' (Arr.mk' 0 : Arr 10 Int) : Tb)⟩ : l03Flow) := ⟨fun s t => by rw [h0, h0]; rfl, fun s t => by rw [h0]; split <;> omega, fun s _ _ _ => sm_zero _ fun t _ => h0 s t⟩
 rcases reach_ev h hF a2 b2' with ⟨m, f', e1, e2, e3⟩ | ⟨m, q, e1, e2, e3, e4, e5⟩
 ·obtain ⟨m', T, t1, t2⟩ := nearS_loop h a2 b2' _ f' m e2 (Nat.le_refl _)
  exact ⟨m', T, a1.bind (b1.bind (e1.bind (t1.bind (Ev.const rfl)))), t2⟩
 obtain ⟨T, t1, t2⟩ := nearS_fin h hF e2 e3 e4 e5
 exact ⟨m, T, a1.bind (b1.bind (e1.bind (Ev.bind (Ev.step (fun k => q1c.l1.eq_2 _ _ _ _ _ _ _) (Ev.neg (by simp) (Ev.const rfl))) (Ev.const rfl)))), t1, t2⟩
theorem NearL.same (h : Pt p a b) {T T' : List Spot} (k : NearL p a b T) (k' : NearL p a b T') : T = T' := by
 have e := Nr.same h.AC (eB_symm (vP_okW h.ok)) k.nr k'.nr
 refine srtS k.srt k'.srt fun s => ?_
 rw [← inB_t, ← inB_t, e]
structure Lc (p : Pasture) (a b T : List Spot) : Prop where
  srt : T.Pairwise bef
  cells : inP p T
  own : ∀ s ∈ a, s ∈ T
  far : ∀ s ∈ b, s ∉ T
  min : ∀ Y : List Spot, inP p Y → Y.Nodup → (∀ s ∈ a, s ∈ Y) → (∀ s ∈ b, s ∉ Y) → (OSd p T).length ≤ (OSd p Y).length
theorem NearL.lc (h : Pt p a b) (k : NearL p a b T) : Lc p a b T := by
 have hw := vP_okW h.ok
 refine ⟨k.srt, k.cells, fun s hs => inB_t.1 (k.nr.own h.AC s (inB_t.2 hs)), fun s hs hT => ?_, fun Y hY hn ha hb => ?_⟩
 ·have := k.nr.far s (inB_t.2 hs)
  rw [inB_t.2 hT] at this; cases this
 have := k.nr.least h.AC (eB_symm hw) (y := inB Y) (fun s hs => inB_t.2 (ha s (inB_t.1 hs))) (fun s hs => decide_eq_false (hb s (inB_t.1 hs)))
 rw [capC_OS hw k.cells (nodup_bef k.srt), capC_OS hw hY hn] at this
 omega
end
section
variable {p q : Pasture} {a b T : List Spot} {s t : Spot} {x y i : Nat}
theorem contF_S (xs : List Spot) {g : Spot → Option Bool} {dl : Spot → Bool} (hg : ∀ x ∈ xs, g x = some (dl x)) (hx : xs.length ≤ 1048576) : Ev (fun k => q0v.f k xs g) (xs.any dl) := by
 obtain ⟨r, hr, h⟩ := idxZ_loop xs dl hx 0 (Nat.zero_le _)
 have h1 : Ev (fun k => q03.l1 xs g k 0) r := Ev.of (xs.length + 1) fun k hk => hr g hg k (by omega)
 rcases h with ⟨rfl, h⟩ | ⟨j, hj, _, rfl, h3, h4⟩
 ·rw [List.drop_zero] at h
  have e : xs.any dl = false := List.any_eq_false.2 fun z hz => by rw [h z hz]; simp
  rw [e]
  exact Ev.bind (h1.bind (Ev.const rfl)) (Ev.const rfl)
 have e : xs.any dl = true := List.any_eq_true.2 ⟨_, List.getElem_mem hj, h3⟩
 rw [e]
 refine Ev.bind (h1.bind (Ev.const rfl)) (Ev.const ?_)
 rw [decide_eq_true (show (0 : Int) ≤ (j : Int) by omega)]
theorem contF_H (xs : List Hurdle) {g : Hurdle → Option Bool} {dl : Hurdle → Bool} (hg : ∀ x ∈ xs, g x = some (dl x)) (hx : xs.length ≤ 1048576) : Ev (fun k => q0s.f k xs g) (xs.any dl) := by
 obtain ⟨r, hr, h⟩ := idxX_loop xs dl hx 0 (Nat.zero_le _)
 have h1 : Ev (fun k => q05.l1 xs g k 0) r := Ev.of (xs.length + 1) fun k hk => hr g hg k (by omega)
 rcases h with ⟨rfl, h⟩ | ⟨j, hj, _, rfl, h3, h4⟩
 ·rw [List.drop_zero] at h
  have e : xs.any dl = false := List.any_eq_false.2 fun z hz => by rw [h z hz]; simp
  rw [e]
  exact Ev.bind (h1.bind (Ev.const rfl)) (Ev.const rfl)
 have e : xs.any dl = true := List.any_eq_true.2 ⟨_, List.getElem_mem hj, h3⟩
 rw [e]
 refine Ev.bind (h1.bind (Ev.const rfl)) (Ev.const ?_)
 rw [decide_eq_true (show (0 : Int) ≤ (j : Int) by omega)]
theorem concat_ev (L : List (List Spot)) (hl : L.length ≤ 100000) (hf : L.flatten.length ≤ 1000000) : Ev (fun k => q01.f k L) L.flatten := by
 have k1 : ∀ i, i ≤ L.length → ∀ n : Nat, n + (L.drop i).flatten.length ≤ 1000000 → Ev (fun k => q01.l1 L k (n : Int) (i : Int)) (((n + (L.drop i).flatten.length : Nat)) : Int) := by
   refine upL ?_ ?_
   · intro n hn
     exact Ev.step (fun k => q01.l1.eq_2 _ _ _ _) (Ev.neg (by omega) (Ev.const (by rw [List.drop_length]; simp)))
   · intro i hi ih n hn
     rw [List.drop_eq_getElem_cons hi, List.flatten_cons, List.length_append] at hn ⊢
     have h1 := ih (n + L[i].length) (by omega)
     have e : IntKind.i64.wrap ((n : Int) + (L[i].length : Int)) = ((n + L[i].length : Nat) : Int) := by rw [w64 (by omega) (by omega)]; omega
     rw [← wsucc hi (by omega), ← e] at h1
     rw [← Nat.add_assoc]
     exact Ev.step (fun k => q01.l1.eq_2 _ _ _ _) (Ev.pos (by omega) (Ev.bind (Ev.const (getI_nat hi)) (Ev.neg (by rw [e]; omega) h1)))
 have k2 : ∀ i, i ≤ L.length → ∀ acc : List Spot, acc.length + (L.drop i).flatten.length ≤ 1000000 → Ev (fun k => q01.l2 L k acc (i : Int)) (acc ++ (L.drop i).flatten) := by
   refine upL ?_ ?_
   · intro acc hn
     exact Ev.step (fun k => q01.l2.eq_2 _ _ _ _) (Ev.neg (by omega) (Ev.const (by rw [List.drop_length]; simp)))
   · intro i hi ih acc hn
     rw [List.drop_eq_getElem_cons hi, List.flatten_cons, List.length_append] at hn
     have h1 := ih (acc ++ L[i]) (by rw [List.length_append]; omega)
     rw [← wsucc hi (by omega), List.append_assoc] at h1
     rw [List.drop_eq_getElem_cons hi, List.flatten_cons]
     exact Ev.step (fun k => q01.l2.eq_2 _ _ _ _) (Ev.pos (by omega) (Ev.bind (Ev.const (getI_nat hi)) (Ev.bind (Ev.const (chkT (by omega))) h1)))
 have a1 := k1 0 (Nat.zero_le _) 0 (by rw [List.drop_zero]; omega)
 have a2 := k2 0 (Nat.zero_le _) [] (by rw [List.drop_zero, List.length_nil]; omega)
 rw [List.drop_zero] at a1 a2
 rw [List.nil_append] at a2
 refine a1.bind (Ev.bind (a := ([] : List Spot)) (Ev.const ?_) (a2.bind (Ev.const rfl)))
 unfold q1r.f
 rw [chkT (by omega)]; rfl
theorem code0 (v : VPasture p) (hp : vP p = true) {xs : List Spot} (hx : inP p xs) (hl : xs.length ≤ 1000000) : Ev (fun k => q22.f k p xs) 0 ∧ Ev (fun k => q1y.f k p xs) 0 := by
 have hw := vP_okW hp
 have hv : ∀ s ∈ xs, VSpot s := fun s hs => by
   obtain ⟨x, y, hx, hy, rfl⟩ := hx.cellIn hw s hs
   exact VSpot_nat (by omega) (by omega)
 have h0 : cCode p xs = 0 := by
   unfold cCode
   rw [hp, if_neg (by simp), if_pos]
   unfold okC
   rw [List.all_eq_true]
   intro s hs
   obtain ⟨x, y, h1, h2, rfl⟩ := hx s hs
   exact (cellB_sp hw).2 ⟨h1, h2⟩
 have h1 := cellCode_ev v xs hv (by omega)
 have h2 := specAll_ev v xs hv (by omega)
 rw [h0] at h1 h2
 exact ⟨h1, h2⟩
theorem firstOf00 : Ev (fun k => q1b.f k ([0, 0] : List Int)) 0 := by
 have w1 : IntKind.i64.wrap (0 + 1) = 1 := by decide
 have w2 : IntKind.i64.wrap (1 + 1) = 2 := by decide
 have e2 : Ev (fun k => q1b.l1 ([0, 0] : List Int) k 2) (.inr ()) := Ev.step (fun k => q1b.l1.eq_2 _ _ _) (Ev.neg (by simp) (Ev.const rfl))
 have e1 : Ev (fun k => q1b.l1 ([0, 0] : List Int) k 1) (.inr ()) := Ev.step (fun k => q1b.l1.eq_2 _ _ _) (Ev.pos (by simp) (Ev.bind (Ev.const (show getI ([0, 0] : List Int) 1 = some 0 from rfl)) (Ev.neg (by simp) (by rw [w2]; exact e2))))
 have e0 : Ev (fun k => q1b.l1 ([0, 0] : List Int) k 0) (.inr ()) := Ev.step (fun k => q1b.l1.eq_2 _ _ _) (Ev.pos (by simp) (Ev.bind (Ev.const (show getI ([0, 0] : List Int) 0 = some 0 from rfl)) (Ev.neg (by simp) (by rw [w1]; exact e1))))
 exact e0.bind (Ev.const rfl)
theorem Pt.two (h : Pt p a b) : inP p (a ++ b) := fun z hz => by
  rcases List.mem_append.1 hz with hz | hz
  · exact h.ia z hz
  · exact h.ib z hz
theorem Pt.concat (h : Pt p a b) : Ev (fun k => q01.f k ([a, b] : List (List Spot))) (a ++ b) := by
 have h1 := h.al; have h2 := h.bl
 have := concat_ev [a, b] (by simp) (by simp; omega)
 simpa using this
theorem Pt.code (h : Pt p a b) : Ev (fun k => q2j.f k p a b) 0 ∧ Ev (fun k => q19.f k p a b) 0 := by
 have hw := vP_okW h.ok
 have h1 := h.al; have h2 := h.bl
 have c1 := (code0 h.v h.ok h.two (by rw [List.length_append]; omega)).1
 have c2 := (code0 h.v h.ok h.ia (by omega)).2
 have c3 := (code0 h.v h.ok h.ib (by omega)).2
 obtain ⟨ma, a1, a2⟩ := mask_ev (h.ia.cellIn hw) (by omega)
 have hd := deleteS_ev a (g := fun k => q36.f k b) (dl := fun s => !decide (s ∈ b)) (fun s hs => (contS_ev b s (by omega)).bind (Ev.const rfl)) (by omega)
 have he : (a.filter fun h => !(fun s => !decide (s ∈ b)) h) = [] := List.filter_eq_nil_iff.2 fun s hs => by simp [h.no s hs]
 rw [he] at hd
 have hc : Ev (fun k => q3i.f k a b) [] := Ev.bind (a := a) (Ev.const (by
   unfold q0e.f
   rw [chkT (by simp; omega)]; rfl)) (hd.bind (Ev.const rfl))
 have hlp : ∀ i, i ≤ b.length → Ev (fun k => q19.l1 b ma k (i : Int)) (.inr ()) := by
   refine upL ?_ ?_
   · exact Ev.step (fun k => q19.l1.eq_2 _ _ _ _) (Ev.neg (by omega) (Ev.const rfl))
   · intro i hi ih
     rw [← wsucc hi (by omega)] at ih
     have hm := List.getElem_mem hi
     obtain ⟨x, y, hx, hy, e⟩ := h.ib.cellIn hw _ hm
     have g : getI b (i : Int) = some (sp x y) := (getI_nat hi).trans (congrArg some e)
     have gm : b2 ma y x = false := by
       rw [a2 y x hy hx]
       refine decide_eq_false fun hs => h.no _ hs ?_
       rw [show (sp x y) = b[i] from e.symm]; exact hm
     exact Ev.step (fun k => q19.l1.eq_2 _ _ _ _) (Ev.pos (by omega) (Ev.bind (Ev.const g) (Ev.bind (Ev.const g) (Ev.bind (Ev.const (bR_get ma hy)) (Ev.bind (Ev.const (bA_get _ hx)) (Ev.neg (by show ¬ b2 ma y x = true; rw [gm]; simp) ih))))))
 refine ⟨h.concat.bind (c1.bind (hc.bind (Ev.bind (Ev.const (unless_eq _ _)) (firstOf00.bind (Ev.const rfl))))), ?_⟩
 have hlists : Ev (fun k => q3e.f k p a b) 0 := c2.bind (Ev.neg (by simp) (c3.bind (Ev.const rfl)))
 exact hlists.bind (Ev.neg (by simp) (a1.bind ((hlp 0 (Nat.zero_le _)).bind (Ev.const rfl))))
theorem specNear_row {m : Bt} (hw : okW p = true) (hy : y < 10) : ∀ x, x ≤ p.Wide.toNat → ∀ acc : List Spot, acc.length + (p.Wide.toNat - x) ≤ 4000 → Ev (fun k => q10.l2 p m (y : Int) k acc (x : Int)) (acc ++ rowF (fun x => b2 m y x) y x (p.Wide.toNat - x)) := by
 obtain ⟨w1, w2⟩ := okW_iff.1 hw
 refine upL ?_ ?_
 ·intro acc ha
  rw [Nat.sub_self]
  exact Ev.step (fun k => q10.l2.eq_2 _ _ _ _ _ _) (Ev.neg (by omega) (Ev.const (by simp [rowF])))
 intro x hx ih acc ha
 have e : IntKind.i8.wrap ((x : Int) + 1) = ((x + 1 : Nat) : Int) := by rw [w8 (by omega) (by omega)]; omega
 refine Ev.step (fun k => q10.l2.eq_2 _ _ _ _ _ _) (Ev.pos (by omega) (Ev.bind (Ev.const (bR_get m hy)) (Ev.bind (Ev.const (bA_get _ (show x < 10 by omega))) ?_)))
 rw [show p.Wide.toNat - x = (p.Wide.toNat - (x + 1)) + 1 by omega, rowF, e]
 by_cases h : b2 m y x = true
 ·refine Ev.pos h (Ev.bind (Ev.const (chkT (by simp; omega))) ?_)
  rw [if_pos h, ← List.append_assoc]
  exact ih _ (by simp; omega)
 rw [if_neg h, List.nil_append]
 exact Ev.neg h (ih acc (by omega))
theorem specNear_grid {m : Bt} (hw : okW p = true) : ∀ y, y ≤ p.High.toNat → ∀ acc : List Spot, acc.length + (p.High.toNat - y) * 10 ≤ 3000 → Ev (fun k => q10.l1 p m k acc (y : Int)) (acc ++ gridF (fun y x => b2 m y x) p.Wide.toNat y (p.High.toNat - y)) := by
 obtain ⟨w1, w2⟩ := okW_iff.1 hw
 refine upL ?_ ?_
 ·intro acc ha
  rw [Nat.sub_self]
  exact Ev.step (fun k => q10.l1.eq_2 _ _ _ _ _) (Ev.neg (by omega) (Ev.const (by simp [gridF])))
 intro y hy ih acc ha
 have e : IntKind.i8.wrap ((y : Int) + 1) = ((y + 1 : Nat) : Int) := by rw [w8 (by omega) (by omega)]; omega
 have hr := specNear_row (m := m) hw (show y < 10 by omega) 0 (Nat.zero_le _) acc (by omega)
 rw [Nat.sub_zero] at hr
 have hl := rowF_len (fun x => b2 m y x) y p.Wide.toNat 0
 refine Ev.step (fun k => q10.l1.eq_2 _ _ _ _ _) (Ev.pos (by omega) (Ev.bind (Ev.bind hr (Ev.const rfl)) ?_))
 rw [show p.High.toNat - y = (p.High.toNat - (y + 1)) + 1 by omega, gridF, e, ← List.append_assoc]
 exact ih _ (by rw [List.length_append]; omega)
theorem part_ev (h : Pt p a b) : ∃ T, Lc p a b T ∧ Ev (fun k => q3f.f k p a b) (T, 0) ∧ Ev (fun k => q10.f k p a b) (T, 0) ∧ Ev (fun k => q2r.f k p a b) (OSd p T, 0) ∧ Ev (fun k => q3b.f k p a b) (OSd p T, 0) := by
 have hw := vP_okW h.ok
 obtain ⟨w1, w2⟩ := okW_iff.1 hw
 obtain ⟨T, t1, t2⟩ := nearI_ev h
 obtain ⟨m, T', m1, m2, m3⟩ := nearS_ev h
 obtain rfl := t2.same h m2
 have hc := h.code
 have hTl : T.length ≤ 100 := inP_len hw t2.cells (nodup_bef t2.srt)
 have hg := specNear_grid (m := m) hw 0 (Nat.zero_le _) [] (by simp; omega)
 have eT : gridF (fun y x => b2 m y x) p.Wide.toNat 0 p.High.toNat = T := by
   obtain ⟨g1, g2, g3⟩ := grid_in (p := p) (fun y x => b2 m y x)
   refine srtS g1 t2.srt fun s => ⟨fun hs => ?_, fun hs => ?_⟩
   · obtain ⟨x, y, hx, hy, rfl⟩ := g2 s hs
     have := (g3 x y hx hy).1 hs
     rw [m3 y x (by omega) (by omega)] at this
     exact of_decide_eq_true this
   · obtain ⟨x, y, hx, hy, rfl⟩ := t2.cells s hs
     exact (g3 x y hx hy).2 (by rw [m3 y x (by omega) (by omega)]; exact decide_eq_true hs)
 rw [List.nil_append, Nat.sub_zero, eT] at hg
 refine ⟨T, t2.lc h, hc.1.bind (Ev.neg (by simp) (t1.bind (Ev.const rfl))), hc.2.bind (Ev.neg (by simp) (m1.bind (hg.bind (Ev.const rfl)))), hc.1.bind (Ev.neg (by simp) (t1.bind ((implOpen_ev h.v hw t2.cells t2.srt (by omega)).bind (Ev.const rfl)))), hc.2.bind (Ev.neg (by simp) (m1.bind ((specOpen_ev h.v hw m3).bind (Ev.const rfl))))⟩
end
section
variable {p : Pasture} {L : List Spot} {y x b a y' x' : Nat}
structure Ks (p : Pasture) (L : List Spot) (m : Tb) (q : List Spot) : Prop where
  lo : ∀ b a, b < 10 → a < 10 → -1 ≤ g2 m b a
  hi : ∀ b a, b < 10 → a < 10 → g2 m b a ≤ q.length
  fr : q.length + frA m 10 ≤ 3000
  cells : ∀ s ∈ q, ∃ x y : Nat, x < 10 ∧ y < 10 ∧ s = sp x y
  inq : ∀ b a, b < 10 → a < 10 → 0 ≤ g2 m b a → sp a b ∈ q
  mkd : ∀ b a, b < 10 → a < 10 → sp a b ∈ q → 0 ≤ g2 m b a
  zero : ∀ b a, b < 10 → a < 10 → (g2 m b a = 0 ↔ sp a b ∈ L)
  pre : ∀ b a, b < 10 → a < 10 → 0 < g2 m b a → ∃ y x, y < 10 ∧ x < 10 ∧ stepP p y x b a ∧ 0 ≤ g2 m y x ∧ g2 m y x + 1 = g2 m b a
  srt : q.Pairwise fun s t => gS m s ≤ gS m t
theorem Ks.put {m : Tb} {q : List Spot} (h : Ks p L m q) (hy : y < 10) (hx : x < 10) (hm : 0 ≤ g2 m y x) (hs : stepP p y x y' x') (hg : g2 m y' x' < 0) (hb : ∀ s ∈ q, gS m s ≤ g2 m y x + 1) :
 Ks p L (put2 m y' x' (g2 m y x + 1)) (q ++ [sp x' y']) ∧ (∀ b a, b < 10 → a < 10 → 0 ≤ g2 m b a → g2 (put2 m y' x' (g2 m y x + 1)) b a = g2 m b a) ∧ ∀ s ∈ q ++ [sp x' y'], gS (put2 m y' x' (g2 m y x + 1)) s ≤ g2 m y x + 1 := by
 obtain ⟨hy', hx', _⟩ := id hs
 have hf := (frA_put m hy' hx' (v := g2 m y x + 1) (by omega) hg 10).2 hy'
 have hfr := h.fr
 have same : ∀ b a, b < 10 → a < 10 → 0 ≤ g2 m b a → g2 (put2 m y' x' (g2 m y x + 1)) b a = g2 m b a := fun b a hb' ha h0 => by
   rw [g2_put m hy' hx']
   split
   · rename_i e
     rw [e.1, e.2] at hg
     omega
   · rfl
 have new : g2 (put2 m y' x' (g2 m y x + 1)) y' x' = g2 m y x + 1 := by rw [g2_put m hy' hx', if_pos ⟨rfl, rfl⟩]
 have other : ∀ b a, ¬ (y' = b ∧ x' = a) → g2 (put2 m y' x' (g2 m y x + 1)) b a = g2 m b a := fun b a c => by rw [g2_put m hy' hx', if_neg c]
 have sameS : ∀ s ∈ q, gS (put2 m y' x' (g2 m y x + 1)) s = gS m s := fun s hs' => by
   obtain ⟨a, b, ha, hb', rfl⟩ := h.cells s hs'
   rw [gS_sp, gS_sp]
   exact same b a hb' ha (h.mkd b a hb' ha hs')
 have bnd : ∀ s ∈ q ++ [sp x' y'], gS (put2 m y' x' (g2 m y x + 1)) s ≤ g2 m y x + 1 := fun s hs' => by
   rcases List.mem_append.1 hs' with hs' | hs'
   · rw [sameS s hs']; exact hb s hs'
   · rw [List.mem_singleton.1 hs', gS_sp, new]; omega
 refine ⟨⟨fun b a hb ha => ?_, fun b a hb ha => ?_, ?_, fun s hs => ?_, fun b a hb ha hp => ?_, fun b a hb ha hp => ?_, fun b a hb ha => ?_, fun b a hb' ha h0 => ?_, ?_⟩, same, bnd⟩
 ·rw [g2_put m hy' hx']
  split
  ·omega
  exact h.lo b a hb ha
 ·have := h.hi b a hb ha
  have := h.hi y x hy hx
  rw [g2_put m hy' hx', List.length_append]
  split
  ·simp; omega
  simp; omega
 ·simp only [List.length_append, List.length_cons, List.length_nil]; omega
 ·rcases List.mem_append.1 hs with hs | hs
  ·exact h.cells s hs
  exact ⟨x', y', hx', hy', List.mem_singleton.1 hs⟩
 ·rw [g2_put m hy' hx'] at hp
  split at hp
  ·rename_i e
   rw [← e.1, ← e.2]; simp
  exact List.mem_append_left _ (h.inq b a hb ha hp)
 ·rw [g2_put m hy' hx']
  split
  ·omega
  rename_i e
  rcases List.mem_append.1 hp with hp | hp
  ·exact h.mkd b a hb ha hp
  have := sp_inj' (List.mem_singleton.1 hp)
  exact absurd ⟨this.2.symm, this.1.symm⟩ e
 ·by_cases e : y' = b ∧ x' = a
  ·obtain ⟨rfl, rfl⟩ := e
   rw [new]
   have := h.zero y' x' hb ha
   constructor
   ·intro; omega
   intro hz; have := this.2 hz; omega
  rw [other b a e]; exact h.zero b a hb ha
 ·by_cases e : y' = b ∧ x' = a
  ·obtain ⟨rfl, rfl⟩ := e
   exact ⟨y, x, hy, hx, hs, by rw [same y x hy hx hm]; exact hm, by rw [same y x hy hx hm, new]⟩
  rw [other b a e] at h0 ⊢
  obtain ⟨c, d, hc, hd, k1, k2, k3⟩ := h.pre b a hb' ha h0
  exact ⟨c, d, hc, hd, k1, by rw [same c d hc hd k2]; exact k2, by rw [same c d hc hd k2]; exact k3⟩
 refine List.pairwise_append.2 ⟨?_, by simp, fun s hs' t ht => ?_⟩
 ·refine (List.pairwise_iff_forall_sublist.2 fun {s t} hst => ?_)
  have h1 : s ∈ q := hst.subset (by simp)
  have h2 : t ∈ q := hst.subset (by simp)
  rw [sameS s h1, sameS t h2]
  exact (List.pairwise_iff_forall_sublist.1 h.srt) hst
 rw [List.mem_singleton.1 ht, sameS s hs', gS_sp, new]
 exact hb s hs'
theorem innerS (v : VPasture p) (hw : okW p = true) (hx : x < 10) (hy : y < 10) : ∀ i, i ≤ 4 → ∀ (m : Tb) (q : List Spot), Ks p L m q → 0 ≤ g2 m y x → (∀ s ∈ q, gS m s ≤ g2 m y x + 1) →
 ∃ (m' : Tb) (r : List Spot), Ks p L m' (q ++ r) ∧ (q ++ r).length + frA m' 10 = q.length + frA m 10 ∧ (∀ b a, b < 10 → a < 10 → 0 ≤ g2 m b a → g2 m' b a = g2 m b a) ∧ (∀ s ∈ q ++ r, gS m' s ≤ g2 m y x + 1) ∧ (∀ j : Nat, i ≤ j → j < 4 → openB p x y j = true → ∀ x' y', x' < 10 → y' < 10 → nx (sp x y) (j : Int) = sp x' y' → 0 ≤ g2 m' y' x') ∧ Ev (fun k => q00.l5 p (sp x y) k m q (i : Int)) (m', q ++ r) := by
 refine upL ?_ ?_
 ·intro m q hk h0 hb
  refine ⟨m, [], by rw [List.append_nil]; exact hk, by rw [List.append_nil], fun _ _ _ _ _ => rfl, by rw [List.append_nil]; exact hb, fun j h1 h2 => by omega, ?_⟩
  rw [List.append_nil]
  exact Ev.step (fun k => q00.l5.eq_2 _ _ _ _ _ _) (Ev.neg (by omega) (Ev.const rfl))
 intro i hi ih m q hk h0 hbd
 have hg := canGo_eq v hw hx hy hi
 cases ho : openB p x y i
 ·rw [ho] at hg
  obtain ⟨m', r, r1, r2, r3, r6, r4, r5⟩ := ih m q hk h0 hbd
  rw [← wsucc hi (by omega)] at r5
  refine ⟨m', r, r1, r2, r3, r6, fun j h1 h2 h3 => ?_, Ev.step (fun k => q00.l5.eq_2 _ _ _ _ _ _) (Ev.pos (by omega) (Ev.bind (Ev.const (ahead_eq _ _)) (Ev.bind (Ev.bind (Ev.const hg) (Ev.neg (by simp) (Ev.const rfl))) (Ev.neg (by simp) r5))))⟩
  by_cases hj : j = i
  ·subst hj; rw [ho] at h3; cases h3
  exact r4 j (by omega) h2 h3
 rw [ho] at hg
 have hc : cellB p (nx (sp x y) (i : Int)).X (nx (sp x y) (i : Int)).Y = true := by
   unfold openB at ho
   rw [Bool.and_eq_true] at ho
   exact ho.1
 obtain ⟨x', y', hx', hy', e⟩ := cellB_nat hw hc
 have ha : q0u.f (sp x y) (i : Int) = some (sp x' y') := (ahead_eq _ _).trans (congrArg some e)
 have hst : stepP p y x y' x' := ⟨hy', hx', i, hi, ho, e⟩
 have l1 := hk.lo y x hy hx
 have l2 := hk.hi y x hy hx
 have l3 := hk.fr
 have cm : Ev (fun k => (q1k.f p (sp x y) (i : Int)).bind fun t47 => if t47 = true then ((getI m.l (sp x' y').Y).bind fun t48 => (getI t48.l (sp x' y').X).bind fun t49 => some (decide (t49 < 0))) else (some false)) (decide (g2 m y' x' < 0)) :=
   Ev.bind (Ev.const hg) (Ev.pos rfl (Ev.bind (Ev.const (getR m hy')) (Ev.bind (Ev.const (getA _ hx')) (Ev.const rfl))))
 by_cases hneg : g2 m y' x' < 0
 ·obtain ⟨hk1, same, hb1⟩ := hk.put hy hx h0 hst hneg hbd
  have hf := (frA_put m hy' hx' (v := g2 m y x + 1) (by omega) hneg 10).2 hy'
  have e0 := same y x hy hx h0
  obtain ⟨m', r, r1, r2, r3, r6, r4, r5⟩ := ih _ _ hk1 (by rw [e0]; exact h0) (by rw [e0]; exact hb1)
  rw [← wsucc hi (by omega)] at r5
  rw [List.append_assoc] at r1 r2 r5
  rw [e0, List.append_assoc] at r6
  have e16 : IntKind.i16.wrap (gA (gR m y) x + 1) = g2 m y x + 1 := w16 (show -32768 ≤ g2 m y x + 1 by omega) (show g2 m y x + 1 ≤ 32767 by omega)
  refine ⟨m', [sp x' y'] ++ r, r1, by rw [r2]; simp only [List.length_append, List.length_cons, List.length_nil]; omega, fun b a hb ha h => (r3 b a hb ha (by rw [same b a hb ha h]; exact h)).trans (same b a hb ha h), r6, fun j h1 h2 h3 x1 y1 hx1 hy1 e1 => ?_, Ev.step (fun k => q00.l5.eq_2 _ _ _ _ _ _) (Ev.pos (by omega) (Ev.bind (Ev.const ha) (Ev.bind cm (Ev.pos (decide_eq_true hneg) (Ev.bind (Ev.const (getR m hy)) (Ev.bind (Ev.const (getA _ hx)) (Ev.bind (Ev.const (getR m hy')) (Ev.bind (Ev.const (getA _ hx')) (Ev.bind (Ev.const (chkT (by simp; omega))) ?_)))))))))⟩
  ·by_cases hj : j = i
   ·subst hj
    rw [e] at e1
    obtain ⟨rfl, rfl⟩ := sp_inj' e1
    have hnew : g2 (put2 m y' x' (g2 m y x + 1)) y' x' = g2 m y x + 1 := by rw [g2_put m hy' hx', if_pos ⟨rfl, rfl⟩]
    rw [r3 y' x' hy' hx' (by rw [hnew]; omega), hnew]; omega
   exact r4 j (by omega) h2 h3 x1 y1 hx1 hy1 e1
  rw [e16]; exact r5
 obtain ⟨m', r, r1, r2, r3, r6, r4, r5⟩ := ih m q hk h0 hbd
 rw [← wsucc hi (by omega)] at r5
 refine ⟨m', r, r1, r2, r3, r6, fun j h1 h2 h3 x1 y1 hx1 hy1 e1 => ?_, Ev.step (fun k => q00.l5.eq_2 _ _ _ _ _ _) (Ev.pos (by omega) (Ev.bind (Ev.const ha) (Ev.bind cm (Ev.neg (by simp only [decide_eq_true_eq]; exact hneg) r5))))⟩
 by_cases hj : j = i
 ·subst hj
  rw [e] at e1
  obtain ⟨rfl, rfl⟩ := sp_inj' e1
  rw [r3 y' x' hy' hx' (by omega)]; omega
 exact r4 j (by omega) h2 h3 x1 y1 hx1 hy1 e1
def doneS (p : Pasture) (m : Tb) (s : Spot) : Prop := ∀ y x y' x', y < 10 → x < 10 → s = sp x y → stepP p y x y' x' → 0 ≤ g2 m y' x' ∧ g2 m y' x' ≤ g2 m y x + 1
structure Ds (p : Pasture) (L : List Spot) (m : Tb) : Prop where
  lo : ∀ b a, b < 10 → a < 10 → -1 ≤ g2 m b a ∧ g2 m b a ≤ 3000
  zero : ∀ b a, b < 10 → a < 10 → (g2 m b a = 0 ↔ sp a b ∈ L)
  rel : ∀ y x y' x', y < 10 → x < 10 → 0 ≤ g2 m y x → stepP p y x y' x' → 0 ≤ g2 m y' x' ∧ g2 m y' x' ≤ g2 m y x + 1
  pre : ∀ b a, b < 10 → a < 10 → 0 < g2 m b a → ∃ y x, y < 10 ∧ x < 10 ∧ stepP p y x b a ∧ 0 ≤ g2 m y x ∧ g2 m y x + 1 = g2 m b a
theorem outerS (v : VPasture p) (hw : okW p = true) : ∀ (d i : Nat) (m : Tb) (q : List Spot), Ks p L m q → i ≤ q.length → (∀ s ∈ q.take i, doneS p m s) → (∀ (hi : i < q.length), ∀ s ∈ q, gS m s ≤ gS m q[i] + 1) → q.length - i + frA m 10 ≤ d →
 ∃ m' : Tb, Ev (fun k => q00.l4 p k m q (i : Int)) m' ∧ Ds p L m' := by
  intro d
  have fin : ∀ (i : Nat) (m : Tb) (q : List Spot), Ks p L m q → i = q.length → (∀ s ∈ q.take i, doneS p m s) → ∃ m' : Tb, Ev (fun k => q00.l4 p k m q (i : Int)) m' ∧ Ds p L m' := by
    intro i m q hk hi hd
    have hfr := hk.fr
    rw [hi, List.take_length] at hd
    refine ⟨m, Ev.step (fun k => q00.l4.eq_2 _ _ _ _ _) (Ev.neg (by omega) (Ev.const rfl)), fun b a hb ha => ?_, hk.zero, fun y x y' x' hy hx hm hs => hd _ (hk.inq y x hy hx hm) y x y' x' hy hx rfl hs, hk.pre⟩
    have := hk.lo b a hb ha
    have := hk.hi b a hb ha
    omega
  induction d with
  | zero =>
    intro i m q hk hi hd hb hdd
    exact fin i m q hk (by omega) hd
  | succ d ih =>
    intro i m q hk hi hd hb hdd
    have hfr := hk.fr
    by_cases hlt : i < q.length
    · obtain ⟨x, y, hx, hy, e⟩ := hk.cells q[i] (List.getElem_mem hlt)
      have hg : getI q (i : Int) = some (sp x y) := by rw [getI_nat hlt, e]
      have hmk := hk.mkd y x hy hx (by rw [← e]; exact List.getElem_mem hlt)
      have hbi := hb hlt
      rw [e, gS_sp] at hbi
      obtain ⟨m1, r, r1, r2, r3, r6, r4, r5⟩ := innerS v hw (L := L) hx hy 0 (Nat.zero_le _) m q hk hmk hbi
      have hd1 : ∀ s ∈ (q ++ r).take (i + 1), doneS p m1 s := by
        intro s hs
        rw [List.take_append_of_le_length (by omega), List.take_add_one, List.getElem?_eq_getElem hlt] at hs
        rcases List.mem_append.1 hs with hs | hs
        · intro b a b' a' hb' ha he hst
          obtain ⟨k1, k2⟩ := hd s hs b a b' a' hb' ha he hst
          have k3 : 0 ≤ g2 m b a := hk.mkd b a hb' ha (by rw [← he]; exact List.mem_of_mem_take hs)
          rw [r3 b' a' hst.1 hst.2.1 k1, r3 b a hb' ha k3]
          exact ⟨k1, k2⟩
        · have hs : s = q[i] := by simpa using hs
          intro b a b' a' hb' ha he hst
          rw [hs, e] at he
          obtain ⟨rfl, rfl⟩ := sp_inj' he
          obtain ⟨hb2, ha2, j, hj, ho, en⟩ := hst
          have k1 := r4 j (Nat.zero_le _) hj ho a' b' ha2 hb2 en
          have k2 := r6 _ (r1.inq b' a' hb2 ha2 k1)
          rw [gS_sp] at k2
          rw [r3 y x hy hx hmk]
          exact ⟨k1, k2⟩
      have hql : q.length ≤ (q ++ r).length := by simp
      have hb1 : ∀ (hi : i + 1 < (q ++ r).length), ∀ s ∈ q ++ r, gS m1 s ≤ gS m1 (q ++ r)[i + 1] + 1 := fun hi1 s hs => by
        have k1 := r6 s hs
        have k2 := (List.pairwise_iff_getElem.1 r1.srt) i (i + 1) (by omega) hi1 (by omega)
        have k3 : (q ++ r)[i]'(by omega) = sp x y := by rw [List.getElem_append_left hlt, e]
        rw [k3, gS_sp, r3 y x hy hx hmk] at k2
        omega
      obtain ⟨m', g1, g2'⟩ := ih (i + 1) m1 (q ++ r) r1 (by omega) hd1 hb1 (by omega)
      rw [← wsucc hlt (by omega)] at g1
      exact ⟨m', Ev.step (fun k => q00.l4.eq_2 _ _ _ _ _) (Ev.pos (by omega) (Ev.bind (Ev.bind (Ev.const hg) (Ev.bind r5 (Ev.const rfl))) g1)), g2'⟩
    · exact fin i m q hk (by omega) hd
theorem startS_loop {L : List Spot} (hl : L.length ≤ 2000) (hL : ∀ s ∈ L, ∃ x y : Nat, x < 10 ∧ y < 10 ∧ s = sp x y) : ∀ i, i ≤ L.length → ∀ m : Tb, ∃ m' : Tb, Ev (fun k => q00.l3 L k m (i : Int)) m' ∧ ∀ b a, b < 10 → a < 10 → g2 m' b a = if sp a b ∈ L.drop i then 0 else g2 m b a := by
 refine upL ?_ ?_
 ·intro m
  exact ⟨m, Ev.step (fun k => q00.l3.eq_2 _ _ _ _) (Ev.neg (by omega) (Ev.const rfl)), fun b a _ _ => by rw [List.drop_length, if_neg (by simp)]⟩
 intro i hi ih m
 obtain ⟨x, y, hx, hy, e⟩ := hL _ (List.getElem_mem hi)
 obtain ⟨m', h1, h2⟩ := ih (put2 m y x 0)
 rw [← wsucc hi (by omega)] at h1
 refine ⟨m', Ev.step (fun k => q00.l3.eq_2 _ _ _ _) (Ev.pos (by omega) (Ev.bind (Ev.const ((getI_nat hi).trans (congrArg some e))) (Ev.bind (Ev.const (getR m hy)) (Ev.bind (Ev.const (getA _ hx)) h1)))), fun b a hb ha => ?_⟩
 rw [h2 b a hb ha, List.drop_eq_getElem_cons hi, e]
 by_cases c : sp a b ∈ L.drop (i + 1)
 ·rw [if_pos c, if_pos (List.mem_cons_of_mem _ c)]
 rw [if_neg c, g2_put m hy hx]
 by_cases z : y = b ∧ x = a
 ·obtain ⟨rfl, rfl⟩ := z
  rw [if_pos ⟨rfl, rfl⟩, if_pos (List.mem_cons_self ..)]
 rw [if_neg z, if_neg]
 rw [List.mem_cons]
 rintro (u | u)
 ·have := sp_inj' u
  exact z ⟨this.2.symm, this.1.symm⟩
 exact c u
theorem frS_le (m : Tb) : ∀ n, n ≤ 10 → frA m n ≤ n * 10
  | 0, _ => Nat.le_refl _
  | n + 1, h => by
    have h1 := frS_le m n (by omega)
    have h2 : ∀ k, fr1 m n k ≤ k := fun k => by
      induction k with
      | zero => exact Nat.le_refl _
      | succ k ih => simp only [fr1]; split <;> omega
    have h3 := h2 10
    rw [frA, Nat.add_mul]; omega
theorem farS_ev (v : VPasture p) (hw : okW p = true) {L : List Spot} (hl : L.length ≤ 2000) (hL : inP p L) : ∃ m : Tb, Ev (fun k => q00.f k p L) m ∧ Ds p L m := by
 obtain ⟨w1, w2⟩ := okW_iff.1 hw
 have hL10 : ∀ s ∈ L, ∃ x y : Nat, x < 10 ∧ y < 10 ∧ s = sp x y := fun s hs => by
   obtain ⟨x, y, hx, hy, e⟩ := hL s hs
   exact ⟨x, y, by omega, by omega, e⟩
 obtain ⟨m0, a1, a2⟩ := tab_ev 0 (Nat.zero_le _) (Arr.mk' (Arr.mk' 0 : Arr 10 Int) : Tb)
 have hneg : ∀ y x, y < 10 → x < 10 → g2 m0 y x = -1 := fun y x hy hx => by rw [a1 y x hy hx, if_pos (Nat.zero_le _)]
 obtain ⟨m1, b1, b2⟩ := startS_loop hl hL10 0 (Nat.zero_le _) m0
 rw [List.drop_zero] at b2
 have z0 : ∀ s ∈ L, gS m1 s = 0 := fun s hs => by
   obtain ⟨x, y, hx, hy, rfl⟩ := hL10 s hs
   rw [gS_sp, b2 y x hy hx, if_pos hs]
 have hk : Ks p L m1 L := by
   refine ⟨fun b a hb ha => ?_, fun b a hb ha => ?_, ?_, hL10, fun b a hb ha h0 => ?_, fun b a hb ha hm => ?_, fun b a hb ha => ?_, fun b a hb ha h0 => ?_, ?_⟩
   · rw [b2 b a hb ha, hneg b a hb ha]; split <;> omega
   · rw [b2 b a hb ha, hneg b a hb ha]; split <;> omega
   · have := frS_le m1 10 (Nat.le_refl _); omega
   · rw [b2 b a hb ha, hneg b a hb ha] at h0
     by_cases c : sp a b ∈ L
     · exact c
     · rw [if_neg c] at h0; omega
   · rw [b2 b a hb ha, if_pos hm]; omega
   · rw [b2 b a hb ha, hneg b a hb ha]
     split
     · rename_i c; exact ⟨fun _ => c, fun _ => rfl⟩
     · rename_i c; exact ⟨fun h => by omega, fun h => absurd h c⟩
   · rw [b2 b a hb ha, hneg b a hb ha] at h0
     split at h0 <;> omega
   · refine List.Pairwise.imp_of_mem (fun {s t} hs ht _ => ?_) (List.pairwise_of_forall (R := fun _ _ => True) (fun _ _ => trivial) (l := L))
     rw [z0 s hs, z0 t ht]; exact Int.le_refl _
 have hfr := frS_le m1 10 (Nat.le_refl _)
 obtain ⟨m, c1, c2⟩ := outerS v hw 3000 0 m1 L hk (Nat.zero_le _) (by simp) (fun hi s hs => by rw [z0 s hs, z0 _ (List.getElem_mem hi)]; omega) (by omega)
 have hcl : q0e.f L = some L := by
   unfold q0e.f
   rw [chkT (by simp; omega)]; rfl
 exact ⟨m, a2.bind (b1.bind (Ev.bind (Ev.const hcl) (c1.bind (Ev.const rfl)))), c2⟩
theorem Ds.min {m : Tb} (d : Ds p L m) {T : Nat → Nat → Prop} (hT : ∀ y x y' x', y < 10 → x < 10 → T y x → stepP p y x y' x' → T y' x') (h0 : ∀ b a, b < 10 → a < 10 → sp a b ∈ L → T b a) : ∀ b a, b < 10 → a < 10 → 0 ≤ g2 m b a → T b a := by
 have key : ∀ (k b a : Nat), b < 10 → a < 10 → g2 m b a = (k : Int) → T b a := by
   intro k
   induction k with
   | zero => intro b a hb ha e; exact h0 b a hb ha ((d.zero b a hb ha).1 e)
   | succ k ih =>
     intro b a hb ha e
     obtain ⟨y1, x1, h1, h2, h3, h4, h5⟩ := d.pre b a hb ha (by omega)
     exact hT y1 x1 b a h1 h2 (ih y1 x1 h1 h2 (by push_cast at e; omega)) h3
 intro b a hb ha h
 obtain ⟨k, hk⟩ := Int.eq_ofNat_of_zero_le h
 exact key k b a hb ha hk
end
section
variable {p : Pasture} {L A B : List Spot} {y x b a y' x' : Nat}
def lexL : List Spot → List Spot → Prop
  | a :: l, b :: m => bef a b ∨ (a = b ∧ lexL l m)
  | _, _ => False
theorem lexL_as : ∀ {u v : List Spot}, lexL u v → lexL v u → False
  | [], _, h, _ => by simp [lexL] at h
  | _ :: _, [], h, _ => by simp [lexL] at h
  | a :: u, b :: v, h, k => by
    rw [lexL] at h k
    rcases h with h | ⟨rfl, h⟩
    · rcases k with k | ⟨rfl, k⟩
      · exact bef_as h k
      · exact bef_ir _ h
    · rcases k with k | ⟨_, k⟩
      · exact bef_ir _ k
      · exact lexL_as h k
theorem lexL_tr : ∀ {u v w : List Spot}, lexL u v → lexL v w → lexL u w
  | [], _, _, h, _ => by simp [lexL] at h
  | _ :: _, [], _, h, _ => by simp [lexL] at h
  | _ :: _, _ :: _, [], _, h => by simp [lexL] at h
  | a :: u, b :: v, c :: w, h, k => by
    rw [lexL] at h k ⊢
    rcases h with h | ⟨rfl, h⟩
    · rcases k with k | ⟨rfl, k⟩
      · exact .inl (bef_tr h k)
      · exact .inl h
    · rcases k with k | ⟨rfl, k⟩
      · exact .inl k
      · exact .inr ⟨rfl, lexL_tr h k⟩
def leW (u v : List Spot) : Prop := u.length < v.length ∨ (u.length = v.length ∧ (u = v ∨ lexL u v))
theorem leW.refl (u : List Spot) : leW u u := .inr ⟨rfl, .inl rfl⟩
theorem leW.anti {u v : List Spot} (h : leW u v) (k : leW v u) : u = v := by
 rcases h with h | ⟨h, h' | h'⟩ <;> rcases k with k | ⟨k, k' | k'⟩
 all_goals first
   | omega
   | exact h'
   | exact k'.symm
   | exact (lexL_as h' k').elim
theorem leW.trans {u v w : List Spot} (h : leW u v) (k : leW v w) : leW u w := by
 rcases h with h | ⟨h, rfl | h'⟩
 ·rcases k with k | ⟨k, _⟩
  ·exact .inl (by omega)
  exact .inl (by omega)
 ·exact k
 rcases k with k | ⟨k, rfl | k'⟩
 ·exact .inl (by omega)
 ·exact .inr ⟨h, .inr h'⟩
 exact .inr ⟨by omega, .inr (lexL_tr h' k')⟩
def Wy (p : Pasture) (B : List Spot) : Spot → List Spot → Prop
  | u, [] => u ∈ B
  | u, v :: l => v ∈ nbL p u ∧ Wy p B v l
theorem Wy.mono (h : ∀ z ∈ A, z ∈ B) : ∀ {l : List Spot} {u : Spot}, Wy p A u l → Wy p B u l
  | [], u, k => h u k
  | v :: l, u, k => ⟨k.1, Wy.mono h k.2⟩
theorem Wy.last : ∀ {l : List Spot} {u : Spot}, Wy p B u l → (u :: l).getLast (by simp) ∈ B
  | [], u, k => k
  | v :: l, u, k => by rw [List.getLast_cons_cons]; exact k.2.last
theorem Wy.inP (hw : okW p = true) : ∀ {l : List Spot} {u : Spot}, inP p [u] → Wy p B u l → inP p (u :: l)
  | [], u, h, _ => h
  | v :: l, u, h, k => by
    obtain ⟨x, y, hx, hy, rfl⟩ := h u (List.mem_singleton.2 rfl)
    obtain ⟨x', y', h1, h2, rfl, _⟩ := nbL_in hw k.1
    have ih := Wy.inP hw (u := sp x' y') (fun z hz => ⟨x', y', h1, h2, List.mem_singleton.1 hz⟩) k.2
    intro z hz
    rcases List.mem_cons.1 hz with rfl | hz
    · exact ⟨x, y, hx, hy, rfl⟩
    · exact ih z hz
theorem inP1 (hx : x < p.Wide.toNat) (hy : y < p.High.toNat) : inP p [sp x y] := fun z hz => ⟨x, y, hx, hy, List.mem_singleton.1 hz⟩
theorem Wy.far (hw : okW p = true) {m : Tb} (d : Ds p B m) : ∀ {l : List Spot} {x y : Nat}, x < p.Wide.toNat → y < p.High.toNat → Wy p B (sp x y) l → 0 ≤ g2 m y x ∧ g2 m y x ≤ l.length
  | [], x, y, hx, hy, h => by
    obtain ⟨w1, w2⟩ := okW_iff.1 hw
    have := (d.zero y x (by omega) (by omega)).2 h
    rw [this]; simp
  | v :: l, x, y, hx, hy, h => by
    obtain ⟨w1, w2⟩ := okW_iff.1 hw
    obtain ⟨x', y', h1, h2, rfl, hs⟩ := nbL_in hw h.1
    obtain ⟨k1, k2⟩ := Wy.far hw d h1 h2 h.2
    have := d.rel y' x' y x (by omega) (by omega) k1 ((nbL_iff hw).1 (nbL_back hw hx hy h.1))
    rw [List.length_cons]; push_cast; omega
theorem ltS_bef {s t : Spot} : ltS s t = true ↔ bef s t := by unfold ltS bef; rw [decide_eq_true_eq]
theorem minS_le : ∀ (l : List Spot) (t z : Spot), z ∈ t :: l → minS t l = z ∨ bef (minS t l) z
  | [], t, z, h => .inl (List.mem_singleton.1 h).symm
  | s :: l, t, z, h => by
    rw [minS]
    by_cases c : ltS s t = true
    · rw [if_pos c]
      rcases List.mem_cons.1 h with rfl | h
      · rcases minS_le l s s (List.mem_cons_self ..) with e | e
        · rw [e]; exact .inr (ltS_bef.1 c)
        · exact .inr (bef_tr e (ltS_bef.1 c))
      · exact minS_le l s z h
    · rw [if_neg c]
      rcases List.mem_cons.1 h with rfl | h
      · exact minS_le l z z (List.mem_cons_self ..)
      · rcases List.mem_cons.1 h with rfl | h
        · have h1 : t = z ∨ bef t z := by
            rcases bef_tot z t with k | k | k
            · exact absurd (ltS_bef.2 k) c
            · exact .inl k.symm
            · exact .inr k
          rcases minS_le l t t (List.mem_cons_self ..) with e | e
          · rw [e]; exact h1
          · rcases h1 with rfl | h1
            · exact .inr e
            · exact .inr (bef_tr e h1)
        · exact minS_le l t z (List.mem_cons_of_mem _ h)
theorem steps_atS {m : Tb} {x y : Nat} (hx : x < 10) (hy : y < 10) (h : -1 ≤ g2 m y x ∧ g2 m y x ≤ 3000) : q1e.f m (sp x y) = some (g2 m y x) := by
 have hw : IntKind.i64.wrap (gA (gR m y) x) = g2 m y x := w64 (show -9223372036854775808 ≤ g2 m y x by omega) (show g2 m y x ≤ 9223372036854775807 by omega)
 unfold q1e.f
 show ((getI m.l ((y : Nat) : Int)).bind _) = _
 rw [getR m hy, Option.bind_some]
 show ((getI (gR m y).l ((x : Nat) : Int)).bind _) = _
 rw [getA _ hx, Option.bind_some, hw]
theorem Ds.cells (hw : okW p = true) (hB : Go.Proofs.YtegibnmfiogebaaGreatDoor.inP p L) {m : Tb} (d : Ds p L m) : ∀ b a, b < 10 → a < 10 → 0 ≤ g2 m b a → a < p.Wide.toNat ∧ b < p.High.toNat :=
  d.min (T := fun b a => a < p.Wide.toNat ∧ b < p.High.toNat) (fun y x y' x' hy hx ht hst => by
    obtain ⟨x1, y1, h1, h2, h3, _⟩ := nbL_in hw ((nbL_iff hw).2 hst)
    obtain ⟨rfl, rfl⟩ := sp_inj' h3
    exact ⟨h1, h2⟩) (fun b a hb ha hm => by
    obtain ⟨x, y, hx, hy, e⟩ := hB _ hm
    obtain ⟨rfl, rfl⟩ := sp_inj' e
    exact ⟨hx, hy⟩)
theorem nextS_ev (v : VPasture p) (hw : okW p = true) (hB : inP p B) {m : Tb} (d : Ds p B m) (hx : x < p.Wide.toNat) (hy : y < p.High.toNat) (h : 0 < g2 m y x) :
 ∃ x' y', x' < p.Wide.toNat ∧ y' < p.High.toNat ∧ sp x' y' ∈ nbL p (sp x y) ∧ g2 m y' x' = g2 m y x - 1 ∧ (∀ z ∈ nbL p (sp x y), gS m z = g2 m y x - 1 → sp x' y' = z ∨ bef (sp x' y') z) ∧
 ∃ L, Ev (fun k => q04.f k (nbs p x y 4 0) (q1l.f m (sp x y))) L ∧ Ev (fun k => q0c.f k L q0z.f) (sp x' y') := by
  obtain ⟨w1, w2⟩ := okW_iff.1 hw
  have hl := nbs_len p x y 4 0
  have hin := nbs_in hw x y
  have hxy := d.lo y x (by omega) (by omega)
  obtain ⟨c, e, hc', he, hs, k1, k2⟩ := d.pre y x (by omega) (by omega) h
  have hce := d.cells hw hB c e hc' he k1
  have hs' := step_back hw hc' he ((cellB_sp hw).2 hce) hs
  have hmem : sp e c ∈ nbs p x y 4 0 := (nbs_iff hw).2 hs'
  have hne : sp e c ∈ (nbs p x y 4 0).filter (fun s => decide (gS m s = g2 m y x - 1)) := List.mem_filter.2 ⟨hmem, decide_eq_true (by rw [gS_sp]; omega)⟩
  have hdel := deleteS_ev (nbs p x y 4 0) (g := fun k => q1l.f m (sp x y)) (dl := fun s => !decide (gS m s = g2 m y x - 1)) (fun s hs => by
    obtain ⟨a, b, ha, hb', rfl⟩ := hin s hs
    have h1 := d.lo b a hb' ha
    refine Ev.const ?_
    unfold q1l.f
    rw [steps_atS ha hb' (by omega), Option.bind_some, steps_atS (by omega) (by omega) (by omega), Option.bind_some, w64 (by omega) (by omega), gS_sp]
    congr 1
    by_cases q : g2 m b a = g2 m y x - 1 <;> simp [q]) (by omega)
  have hdl : (nbs p x y 4 0).filter (fun h => !(fun s => !decide (gS m s = g2 m y x - 1)) h) = (nbs p x y 4 0).filter (fun s => decide (gS m s = g2 m y x - 1)) := List.filter_congr fun s _ => by simp
  rw [hdl] at hdel
  cases hL : (nbs p x y 4 0).filter (fun s => decide (gS m s = g2 m y x - 1)) with
  | nil => rw [hL] at hne; cases hne
  | cons t r =>
    rw [hL] at hdel
    have hsub : ∀ s ∈ t :: r, s ∈ nbs p x y 4 0 ∧ gS m s = g2 m y x - 1 := fun s hs => by
      rw [← hL] at hs
      obtain ⟨a, b⟩ := List.mem_filter.1 hs
      exact ⟨a, of_decide_eq_true b⟩
    have hmin : minS t r ∈ t :: r := by
      rcases minS_mem r t with q | q
      · rw [q]; simp
      · exact List.mem_cons_of_mem _ q
    have hle := minS_le r t
    obtain ⟨z1, z2⟩ := hsub _ hmin
    obtain ⟨x', y', hx', hy', ez, hst⟩ := nbL_in hw (show minS t r ∈ nbL p (sp x y) from z1)
    rw [ez] at z1 z2 hle
    rw [gS_sp] at z2
    have hlen : (t :: r).length ≤ 1000 := by
      rw [← hL]
      exact Nat.le_trans (List.length_filter_le _ _) (by omega)
    have hmn := min_ev (t := t) (l := r) hlen (fun s hs => hin s (hsub s hs).1)
    rw [ez] at hmn
    refine ⟨x', y', hx', hy', z1, z2, fun z hz hg => ?_, t :: r, hdel, hmn⟩
    refine hle z ?_
    rw [← hL]
    exact List.mem_filter.2 ⟨hz, decide_eq_true hg⟩
theorem wayS_ev (v : VPasture p) (hw : okW p = true) (hB : inP p B) {m : Tb} (d : Ds p B m) : ∀ (c x y : Nat), x < p.Wide.toNat → y < p.High.toNat → g2 m y x = (c : Int) → ∀ acc : List Spot, acc.length + c ≤ 4000 →
 ∃ W, W.length = c ∧ Wy p B (sp x y) W ∧ (∀ l, Wy p B (sp x y) l → leW (sp x y :: W) (sp x y :: l)) ∧ Ev (fun k => q14.l1 p m k (sp x y) acc) (acc ++ W)
  | 0, x, y, hx, hy, h, acc, ha => by
    obtain ⟨w1, w2⟩ := okW_iff.1 hw
    have hxy := d.lo y x (by omega) (by omega)
    refine ⟨[], rfl, (d.zero y x (by omega) (by omega)).1 h, fun l hl => ?_, ?_⟩
    · cases l with
      | nil => exact leW.refl _
      | cons a l => exact .inl (by simp)
    · rw [List.append_nil]
      exact Ev.step (fun k => q14.l1.eq_2 _ _ _ _ _) (Ev.bind (Ev.const (steps_atS (by omega) (by omega) (by omega))) (Ev.neg (by omega) (Ev.const rfl)))
  | c + 1, x, y, hx, hy, h, acc, ha => by
    obtain ⟨w1, w2⟩ := okW_iff.1 hw
    have hxy := d.lo y x (by omega) (by omega)
    obtain ⟨x', y', hx', hy', hs, hz, hle, L, l1, l2⟩ := nextS_ev v hw hB d hx hy (by omega)
    obtain ⟨W, e1, e2, e3, e4⟩ := wayS_ev v hw hB d c x' y' hx' hy' (by omega) (acc ++ [sp x' y']) (by simp; omega)
    rw [List.append_assoc] at e4
    refine ⟨sp x' y' :: W, by simp [e1], ⟨hs, e2⟩, fun l hl => ?_, ?_⟩
    · cases l with
      | nil =>
        have := (d.zero y x (by omega) (by omega)).2 hl
        omega
      | cons t l =>
        obtain ⟨a, b, ha, hb, rfl, _⟩ := nbL_in hw hl.1
        have hf := Wy.far hw d ha hb hl.2
        have hr := d.rel b a y x (by omega) (by omega) hf.1 ((nbL_iff hw).1 (nbL_back hw hx hy hl.1))
        by_cases q : l.length = c
        · have hg : gS m (sp a b) = g2 m y x - 1 := by rw [gS_sp]; omega
          rcases hle _ hl.1 hg with e | e
          · rw [← e] at hl
            refine .inr ⟨by simp [e1, q], ?_⟩
            rcases e3 l hl.2 with k | ⟨_, k | k⟩
            · simp only [List.length_cons] at k; omega
            · rw [← e, k]; exact .inl rfl
            · rw [← e]; exact .inr (.inr ⟨rfl, k⟩)
          · exact .inr ⟨by simp [e1, q], .inr (.inr ⟨rfl, .inl e⟩)⟩
        · refine .inl ?_
          simp only [List.length_cons, e1]
          omega
    · exact Ev.step (fun k => q14.l1.eq_2 _ _ _ _ _) (Ev.bind (Ev.const (steps_atS (by omega) (by omega) (by omega))) (Ev.pos (by omega) ((besideI_ev v hw (by omega) (by omega)).bind (l1.bind (l2.bind (Ev.bind (Ev.const (chkT (by simp; omega))) e4))))))
end
section
variable {p q : Pasture} {a b T : List Spot} {s t : Spot} {x y i : Nat} {l : List Hurdle}
theorem nodup_leG {α : Type} [DecidableEq α] : ∀ {A B : List α}, A.Nodup → (∀ z ∈ A, z ∈ B) → A.length ≤ B.length
  | [], B, _, _ => Nat.zero_le _
  | a :: A, B, h, hs => by
    have ha := hs a (List.mem_cons_self ..)
    rw [List.nodup_cons] at h
    have := nodup_leG (A := A) (B := B.erase a) h.2 fun z hz => by
      have hne : z ≠ a := fun e => h.1 (e ▸ hz)
      exact (List.mem_erase_of_ne hne).2 (hs z (List.mem_cons_of_mem _ hz))
    rw [List.length_erase_of_mem ha] at this
    have := List.length_pos_of_mem ha
    rw [List.length_cons]; omega
theorem OS_nodup : (OSd p T).Nodup := by
 have h0 : (gridH p p.Wide.toNat 0 p.High.toNat).Nodup := (gridH_order _ _).imp fun {a b} h e => by subst e; exact befH_as _ _ h h
 exact h0.filter _
theorem OS_told : ∀ h ∈ OSd p T, told p h := fun h hh => (OS_mem.1 hh).1
theorem is_told (v : VPasture p) (hw : okW p = true) {h : Hurdle} (ht : told p h) : q1m.f p h = some true := by
 obtain ⟨w1, w2⟩ := okW_iff.1 hw
 obtain ⟨x, y, s, hx, hy, hi, rfl⟩ := ht
 rw [implIs_eq v hw (by omega) (by omega) ((cellB_sp hw).2 ⟨hx, hy⟩), hi]
theorem hcode0 (v : VPasture p) (hp : vP p = true) (hl : ∀ h ∈ l, told p h) (hn : l.length ≤ 1000) : Ev (fun k => q2a.f k p l) 0 := by
 have hw := vP_okW hp
 have hc := contF_H l (g := q2e.f p) (dl := fun _ => false) (fun h hh => by
   unfold q2e.f
   rw [is_told v hw (hl h hh)]; rfl) (by omega)
 have e : (l.any fun _ => false) = false := List.any_eq_false.2 fun _ _ => by simp
 rw [e] at hc
 refine (implOk_ev v).bind ?_
 rw [hp]
 exact Ev.neg (by simp) (hc.bind (Ev.bind (Ev.const (unless_eq _ _)) (Ev.const rfl)))
theorem valid_told (v : VPasture p) (hp : vP p = true) {h : Hurdle} (ht : told p h) : Ev (fun k => q30.f k p h) true := by
 refine (implOk_ev v).bind ?_
 rw [hp]
 exact Ev.pos rfl (Ev.bind (Ev.const (is_told v (vP_okW hp) ht)) (Ev.const rfl))
theorem addH_ev (v : VPasture p) (hp : vP p = true) (hl : ∀ h ∈ l, told p h) (hn : l.length ≤ 1000) : Ev (fun k => q34.f k p l) (putL true p l, 0) :=
  (hcode0 v hp hl hn).bind (Ev.neg (by simp) ((withL_ev true (fun h hh => told_10 (vP_okW hp) (hl h hh)) (by omega) p).bind (Ev.const rfl)))
theorem takeH_ev (v : VPasture p) (hp : vP p = true) (hl : ∀ h ∈ l, told p h ∧ stH p h = false) (hn : l.length ≤ 1000) : Ev (fun k => q31.f k (putL true p l) l) (p, 0) := by
 have m := put_more v hp (l := l) fun h hh => (hl h hh).1
 have h1 := withL_ev false (fun h hh => told_10 (vP_okW hp) (hl h hh).1) (by omega) (putL true p l)
 rw [put_take v hp hl] at h1
 exact (hcode0 m.v m.ok (fun h hh => (told_size m.w m.h).2 (hl h hh).1) hn).bind (Ev.neg (by simp) (h1.bind (Ev.const rfl)))
theorem check_ev (h : Pt p a b) (hl : ∀ h ∈ l, told p h) (hn : l.length ≤ 1000) : ∃ m, Ds (putL true p l) a m ∧ Ev (fun k => q28.f k p a b l) (!(b.any fun s => decide (0 ≤ gS m s)), 0) := by
 have hw := vP_okW h.ok
 obtain ⟨w1, w2⟩ := okW_iff.1 hw
 have h1 := h.al; have h2 := h.bl
 have m := put_more h.v h.ok hl
 obtain ⟨tb, t1, t2⟩ := farS_ev m.v (vP_okW m.ok) (L := a) (by omega) (m.inP.2 h.ia)
 have hc := contF_S b (g := q2h.f tb) (dl := fun s => decide (0 ≤ gS tb s)) (fun s hs => by
   obtain ⟨x, y, hx, hy, rfl⟩ := h.ib s hs
   unfold q2h.f
   rw [steps_atS (by omega) (by omega) (t2.lo y x (by omega) (by omega)), gS_sp]; rfl) (by omega)
 have hw1 := withL_ev true (fun h hh => told_10 hw (hl h hh)) (by omega) p
 exact ⟨tb, t2, h.concat.bind ((code0 h.v h.ok h.two (by rw [List.length_append]; omega)).1.bind ((hcode0 h.v h.ok hl hn).bind (firstOf00.bind (Ev.neg (by simp) (hw1.bind (t1.bind (hc.bind (Ev.const rfl))))))))⟩
theorem OS_len1 (hw : okW p = true) : (OSd p T).length ≤ 1000 := by have := OS_len hw T; omega
theorem shut_in (v : VPasture p) (hp : vP p = true) (hT : inP p T) (ha : ∀ s ∈ a, s ∈ T) {m : Tb} (d : Ds (putL true p (OSd p T)) a m) : ∀ x y, x < p.Wide.toNat → y < p.High.toNat → 0 ≤ g2 m y x → sp x y ∈ T := by
 have hw := vP_okW hp
 obtain ⟨w1, w2⟩ := okW_iff.1 hw
 have mo := put_more v hp (l := OSd p T) OS_told
 intro x y hx hy h
 refine d.min (T := fun y x => sp x y ∈ T) (fun y x y' x' hy hx ht hst => ?_) (fun b a hb ha' hm => ha _ hm) y x (by omega) (by omega) h
 obtain ⟨x1, y1, hx1, hy1, e⟩ := hT _ ht
 obtain ⟨rfl, rfl⟩ := sp_inj' e
 have hs := inP1 (p := p) hx1 hy1
 obtain ⟨k1, k2⟩ := (mo.nb hw hs).1 ((nbL_iff (vP_okW mo.ok)).2 hst)
 apply Classical.byContradiction
 intro c
 exact k2 (step_OS hw hs k1 fun e => c (e.1 ht))
theorem check_due (h : Pt p a b) (k : Lc p a b T) : Ev (fun j => q28.f j p a b (OSd p T)) (true, 0) := by
 have hw := vP_okW h.ok
 obtain ⟨m, d, e⟩ := check_ev h (l := OSd p T) OS_told (OS_len1 hw)
 have : (b.any fun s => decide (0 ≤ gS m s)) = false := List.any_eq_false.2 fun s hs => by
   rw [decide_eq_true_eq]
   intro h0
   obtain ⟨x, y, hx, hy, rfl⟩ := h.ib s hs
   rw [gS_sp] at h0
   exact k.far _ hs (shut_in h.v h.ok k.cells k.own d x y hx hy h0)
 rw [this] at e; exact e
def rch (p : Pasture) (m : Tb) : List Spot := (cL p).filter fun s => decide (0 ≤ gS m s)
theorem rch_sp {m : Tb} : sp x y ∈ rch p m ↔ (x < p.Wide.toNat ∧ y < p.High.toNat) ∧ 0 ≤ g2 m y x := by
 unfold rch; rw [List.mem_filter, cL_sp, decide_eq_true_eq, gS_sp]
theorem rch_in {m : Tb} : inP p (rch p m) := fun s hs => cL_inP s (List.mem_filter.1 hs).1
theorem rch_OS (hw : okW p = true) (mo : More p l q) {m : Tb} (d : Ds q a m) : ∀ h ∈ OSd p (rch p m), h ∈ l := by
 obtain ⟨w1, w2⟩ := okW_iff.1 hw
 intro h hh
 obtain ⟨s, t, hs, ht, rfl, h1, h2⟩ := OS_step hw hh
 apply Classical.byContradiction
 intro c
 have hn := (mo.nb hw hs).2 ⟨ht, c⟩
 obtain ⟨x, y, hx, hy, rfl⟩ := hs s (List.mem_singleton.2 rfl)
 obtain ⟨x', y', hx', hy', rfl, _⟩ := nbL_in hw ht
 have k1 := (rch_sp.1 h1).2
 have k2 := d.rel y x y' x' (by omega) (by omega) k1 ((nbL_iff (vP_okW mo.ok)).1 hn)
 exact h2 (rch_sp.2 ⟨⟨hx', hy'⟩, k2.1⟩)
theorem check_less (h : Pt p a b) (k : Lc p a b T) (hl : ∀ h ∈ l, told p h) (hn : l.length < (OSd p T).length) : Ev (fun j => q28.f j p a b l) (false, 0) := by
 have hw := vP_okW h.ok
 obtain ⟨w1, w2⟩ := okW_iff.1 hw
 have h3 := OS_len1 (T := T) hw
 obtain ⟨m, d, e⟩ := check_ev h hl (by omega)
 have : (b.any fun s => decide (0 ≤ gS m s)) = true := by
   apply Classical.byContradiction
   intro c
   have c : (b.any fun s => decide (0 ≤ gS m s)) = false := by simpa using c
   rw [List.any_eq_false] at c
   have h1 := k.min (rch p m) rch_in (cL_nodup.filter _) (fun s hs => by
     obtain ⟨x, y, hx, hy, rfl⟩ := h.ia s hs
     refine rch_sp.2 ⟨⟨hx, hy⟩, ?_⟩
     rw [(d.zero y x (by omega) (by omega)).2 hs]; omega) (fun s hs hr => by
     obtain ⟨x, y, hx, hy, rfl⟩ := h.ib s hs
     have := c _ hs
     rw [decide_eq_true_eq, gS_sp] at this
     exact this (rch_sp.1 hr).2)
   have h2 := nodup_leG OS_nodup (rch_OS hw (put_more h.v h.ok hl) d)
   omega
 rw [this] at e; exact e
theorem OS_comp (hw : okW p = true) {Y : List Spot} (hY : ∀ s, inP p [s] → (s ∈ Y ↔ s ∉ T)) : OSd p Y = OSd p T := by
 unfold OSd
 refine List.filter_congr fun h hh => ?_
 obtain ⟨a, b, s, ha, hb, hi, rfl⟩ := gridH_mem.1 hh
 obtain ⟨x', y', hx', hy', e1, _⟩ := hu_sides hw ha hb hi
 congr 1
 have k1 := hY _ (inP1 (p := p) ha hb)
 have k2 := hY _ (inP1 (p := p) hx' hy')
 unfold dif
 rw [show (hu a b s).At = sp a b from rfl, show (hu a b s).South = s from rfl, e1]
 by_cases c1 : sp a b ∈ T <;> by_cases c2 : sp x' y' ∈ T <;> simp [c1, c2, k1, k2]
theorem Pt.swap (h : Pt p a b) : Pt p b a := ⟨h.v, h.ok, h.ib, h.ia, h.bl, h.al, fun s hs ha => h.no s ha hs⟩
theorem Lc.turn (h : Pt p a b) {T' : List Spot} (k : Lc p a b T) (k' : Lc p b a T') : (OSd p T).length ≤ (OSd p T').length := by
 have hw := vP_okW h.ok
 have hm : ∀ s, s ∈ (cL p).filter (fun s => !decide (s ∈ T')) ↔ s ∈ cL p ∧ s ∉ T' := fun s => by
   rw [List.mem_filter]; simp
 have h1 := k.min ((cL p).filter fun s => !decide (s ∈ T')) (fun s hs => cL_inP s (List.mem_filter.1 hs).1) (cL_nodup.filter _) (fun s hs => (hm s).2 ⟨inP_cL h.ia hs, k'.far s hs⟩) (fun s hs hr => ((hm s).1 hr).2 (k'.own s hs))
 have e := OS_comp (p := p) (T := T') (Y := (cL p).filter fun s => !decide (s ∈ T')) hw fun s hs => by rw [hm]; exact ⟨fun h => h.2, fun h => ⟨cL_mem.2 hs, h⟩⟩
 rw [e] at h1
 exact h1
theorem sidesG_l1 (v : VPasture p) (hw : okW p = true) {Y L : List Spot} (hc : ∀ s ∈ L, cellIn s) (hl : Y.length ≤ 1000) (hL : L.length ≤ 1000) : ∀ i, i ≤ L.length → ∀ acc : List Hurdle, acc.length ≤ 4 * i → Ev (fun k => q0a.l1 p Y L k acc (i : Int)) (acc ++ sdL p Y (L.drop i)) := by
 refine upL ?_ ?_
 ·intro acc ha
  rw [List.drop_length]
  exact Ev.step (fun k => q0a.l1.eq_2 _ _ _ _ _ _) (Ev.neg (by omega) (Ev.const (by simp [sdL])))
 intro i hi ih acc ha
 obtain ⟨x, y, hx, hy, e⟩ := hc _ (List.getElem_mem hi)
 have a1 := sides_l2 v hw hl hx hy 0 (Nat.zero_le _) acc (by omega)
 rw [Nat.sub_zero] at a1
 have h4 := sd4_len (p := p) (Y := Y) (s := sp x y) 4 0
 have l1 := ih (acc ++ sd4 p Y (sp x y) 4 0) (by rw [List.length_append]; omega)
 rw [← wsucc hi (by omega)] at l1
 rw [List.drop_eq_getElem_cons hi, e]
 unfold sdL at *
 rw [List.flatMap_cons, ← List.append_assoc]
 exact Ev.step (fun k => q0a.l1.eq_2 _ _ _ _ _ _) (Ev.pos (by omega) (Ev.bind (Ev.bind (Ev.const ((getI_nat hi).trans (congrArg some e))) (a1.bind (Ev.const rfl))) l1))
theorem sd4_ord : ∀ n i, sd4 p a s n i = sd4 p (ord a) s n i
  | 0, _ => rfl
  | n + 1, i => by
    have e : sdC p a s i = sdC p (ord a) s i := by unfold sdC; rw [decide_eq_decide.2 (ord_mem (xs := a) (s := nx s i)).symm]
    rw [sd4, sd4, sd4_ord n (i + 1), e]
theorem implOpen2_ev (v : VPasture p) (hp : vP p = true) (ha : inP p a) (hl : a.length ≤ 1000) : Ev (fun k => q2t.f k p a) (OSd p (ord a), 0) := by
 have hw := vP_okW hp
 have ho : inP p (ord a) := fun s hs => ha s (ord_mem.1 hs)
 have hs := ord_srt a
 have hT : (ord a).length ≤ 100 := inP_len hw ho (nodup_bef hs)
 have e := implOpen_ev v hw ho hs (by omega)
 have h1 := ord_ev (ho.cellIn hw) (show (ord a).length ≤ 1000 by omega)
 rw [ord_id hs] at h1
 have h2 := ord_ev (ha.cellIn hw) hl
 have g1 := sidesG_l1 v hw (Y := a) (ho.cellIn hw) hl (by omega) 0 (Nat.zero_le _) [] (by simp)
 have g2 := sidesG_l1 v hw (Y := ord a) (ho.cellIn hw) (by omega) (by omega) 0 (Nat.zero_le _) [] (by simp)
 rw [List.nil_append, List.drop_zero] at g1 g2
 have eg : sdL p a (ord a) = sdL p (ord a) (ord a) := by unfold sdL; congr 1; funext s; exact sd4_ord 4 0
 rw [eg] at g1
 have h3 : Ev (fun k => q1f.f k p a) (OSd p (ord a)) := by
   obtain ⟨K, hK⟩ := h1.and h2
   obtain ⟨J, hJ⟩ := e
   obtain ⟨M, hM⟩ := g1.and g2
   refine ⟨K + J + M, fun k hk => ?_⟩
   have e1 := (hK k (by omega)).1
   have e2 := (hK k (by omega)).2
   have e3 := hJ k (by omega)
   have e4 := (hM k (by omega)).1
   have e5 := (hM k (by omega)).2
   unfold q1f.f q0a.f at e3 ⊢
   show (((q2g.f k a).bind fun t3 => (q0a.l1 p a t3 k [] 0).bind fun y6 => some y6).bind _) = _
   change (((q2g.f k (ord a)).bind fun t3 => (q0a.l1 p (ord a) t3 k [] 0).bind fun y6 => some y6).bind _) = _ at e3
   change q0a.l1 p a (ord a) k [] 0 = _ at e4
   change q0a.l1 p (ord a) (ord a) k [] 0 = _ at e5
   rw [e1, Option.bind_some, e5] at e3
   rw [e2, Option.bind_some, e4]; exact e3
 exact (code0 v hp ha (by omega)).1.bind (Ev.neg (by simp) (h3.bind (Ev.const rfl)))
theorem Lc.open_ (h : Pt p a b) (k : Lc p a b T) : (OSd p T).length ≤ (OSd p (ord a)).length :=
  k.min (ord a) (fun s hs => h.ia s (ord_mem.1 hs)) (nodup_bef (ord_srt a)) (fun s hs => ord_mem.2 hs) (fun s hs ha => h.no s (ord_mem.1 ha) hs)
theorem Lc.len (h : Pt p a b) (k : Lc p a b T) : (OSd p T).length ≤ 4 * a.length := by
 have hw := vP_okW h.ok
 have h1 := k.open_ h
 have h2 : (OSd p (ord a)).length ≤ (sdL p (ord a) (ord a)).length := nodup_leG OS_nodup fun z hz => by
   obtain ⟨k1, k2, _⟩ := OS_mem.1 hz
   exact (sdL_mem hw (fun s hs => h.ia s (ord_mem.1 hs))).2 ⟨k1, k2⟩
 have h3 := sdL_len (p := p) (Y := ord a) (ord a)
 have h4 : (ord a).length ≤ a.length := nodup_len (nodup_bef (ord_srt a)) fun z hz => ord_mem.1 hz
 omega
end
section
variable {p q : Pasture} {a b T : List Spot} {s t : Spot} {x y i : Nat} {l : List Hurdle}
theorem inP_10 (hw : okW p = true) {L : List Spot} (h : inP p L) : ∀ s ∈ L, inS s := fun s hs => by
  obtain ⟨w1, w2⟩ := okW_iff.1 hw
  obtain ⟨x, y, hx, hy, e⟩ := h s hs
  exact ⟨x, y, by omega, by omega, e⟩
theorem wbS_ev (v : VPasture p) (hp : vP p = true) {ax ay bx by_ : Nat} (hax : ax < p.Wide.toNat) (hay : ay < p.High.toNat) (hbx : bx < p.Wide.toNat) (hby : by_ < p.High.toNat) :
 ((∀ l, ¬ Wy p [sp bx by_] (sp ax ay) l) ∧ Ev (fun k => q0g.f k p (sp ax ay) (sp bx by_)) ([], 6)) ∨ ∃ W, Wy p [sp bx by_] (sp ax ay) W ∧ (∀ l, Wy p [sp bx by_] (sp ax ay) l → leW (sp ax ay :: W) (sp ax ay :: l)) ∧ Ev (fun k => q0g.f k p (sp ax ay) (sp bx by_)) (sp ax ay :: W, 0) := by
 have hw := vP_okW hp
 obtain ⟨w1, w2⟩ := okW_iff.1 hw
 obtain ⟨m, n, e1, e2, d, hm⟩ := farD_ev v hw (show bx < 10 by omega) (show by_ < 10 by omega)
 have hB := inP1 (p := p) hbx hby
 obtain ⟨m', e3, ds⟩ := farS_ev v hw (L := [sp bx by_]) (by simp) hB
 obtain rfl := e1.eq e3
 have hz := hm ay ax (by omega) (by omega)
 have hIs : q1g.f p (sp bx by_) = some true := (l01Is_eq v (sp bx by_) (VSpot_nat (x := bx) (y := by_) (by omega) (by omega))).trans (congrArg some ((cellB_sp hw).2 ⟨hbx, hby⟩))
 have hIa : q1g.f p (sp ax ay) = some true := (l01Is_eq v (sp ax ay) (VSpot_nat (x := ax) (y := ay) (by omega) (by omega))).trans (congrArg some ((cellB_sp hw).2 ⟨hax, hay⟩))
 have hAsk : Ev (fun k => q3g.f k p (sp ax ay) true) 0 := by
   refine (specOk_ev v).bind ?_
   rw [hp]
   exact Ev.neg (by simp) (Ev.bind (Ev.const hIa) (Ev.neg (by simp) (Ev.neg (by simp) (Ev.const rfl))))
 by_cases c : g2 m ay ax < 0
 ·refine .inl ⟨fun l hl => ?_, ?_⟩
  ·have := (hl.far hw ds hax hay).1; omega
  refine Ev.bind (Ev.const hIs) (hAsk.bind (Ev.neg (by simp) (e2.bind (Ev.bind (Ev.const (getR n (show ay < 10 by omega))) (Ev.bind (Ev.const (getA _ (show ax < 10 by omega))) (Ev.pos ?_ (Ev.const rfl)))))))
  show g2 n ay ax = 0
  omega
 obtain ⟨k, hk⟩ := Int.eq_ofNat_of_zero_le (show 0 ≤ g2 m ay ax by omega)
 obtain ⟨W, _, _, w3, w4⟩ := way_loop v hw d hm (fun y x hy hx h0 => (cellB_sp hw).2 (ds.cells hw hB y x hy hx h0)) k ax ay (by omega) (by omega) hk [sp ax ay] (by simp; omega)
 obtain ⟨W', z1, z2, z3, z4⟩ := wayS_ev v hw hB ds k ax ay hax hay hk [sp ax ay] (by simp; omega)
 obtain rfl := List.append_cancel_left (w3.eq z4)
 refine .inr ⟨W, z2, z3, ?_⟩
 refine Ev.bind (Ev.const hIs) (hAsk.bind (Ev.neg (by simp) (e2.bind (Ev.bind (Ev.const (getR n (show ay < 10 by omega))) (Ev.bind (Ev.const (getA _ (show ax < 10 by omega))) (Ev.neg ?_ (w4.bind (Ev.const rfl))))))))
 show ¬ g2 n ay ax = 0
 omega
theorem lexL_tot : ∀ {u v : List Spot}, u.length = v.length → lexL u v ∨ u = v ∨ lexL v u
  | [], [], _ => .inr (.inl rfl)
  | a :: u, b :: v, h => by
    rcases bef_tot a b with k | rfl | k
    · exact .inl (.inl k)
    · rcases lexL_tot (u := u) (v := v) (by simpa using h) with h | rfl | h
      · exact .inl (.inr ⟨rfl, h⟩)
      · exact .inr (.inl rfl)
      · exact .inr (.inr (.inr ⟨rfl, h⟩))
    · exact .inr (.inr (.inl k))
  | [], _ :: _, h => by simp at h
  | _ :: _, [], h => by simp at h
theorem ahead2_ev {u v : List Spot} (h : u.length = v.length) (hl : u.length ≤ 4000) : ∃ r : Bool, Ev (fun k => q1v.f k u v) r ∧ (r = true ↔ lexL u v) := by
 have key : ∀ i, i ≤ u.length → ∃ r : Bool ⊕ Unit, Ev (fun k => q1v.l1 u v k (i : Int)) r ∧ (r = .inl true ↔ lexL (u.drop i) (v.drop i)) := by
   refine upL ?_ ?_
   · refine ⟨.inr (), Ev.step (fun k => q1v.l1.eq_2 _ _ _ _) (Ev.neg (by omega) (Ev.const rfl)), ?_⟩
     rw [List.drop_length]; simp [lexL]
   · rintro i hi ⟨r, h1, h2⟩
     have hi' : i < v.length := by omega
     rw [← wsucc hi (by omega)] at h1
     rw [List.drop_eq_getElem_cons hi, List.drop_eq_getElem_cons hi', lexL]
     by_cases c : u[i] = v[i]
     · refine ⟨r, Ev.step (fun k => q1v.l1.eq_2 _ _ _ _) (Ev.pos (by omega) (Ev.bind (Ev.const (getI_nat hi)) (Ev.bind (Ev.const (getI_nat hi')) (Ev.neg (by simpa using c) h1)))), ?_⟩
       rw [h2]
       constructor
       · exact fun h => .inr ⟨c, h⟩
       · rintro (h | h)
         · rw [c] at h; exact absurd h (bef_ir _)
         · exact h.2
     · refine ⟨.inl (ltS u[i] v[i]), Ev.step (fun k => q1v.l1.eq_2 _ _ _ _) (Ev.pos (by omega) (Ev.bind (Ev.const (getI_nat hi)) (Ev.bind (Ev.const (getI_nat hi')) (Ev.pos c (Ev.bind (Ev.const (getI_nat hi)) (Ev.bind (Ev.const (getI_nat hi')) (Ev.bind (Ev.const (before_eq _ _)) (Ev.const rfl)))))))), ?_⟩
       constructor
       · intro h
         have : ltS u[i] v[i] = true := Sum.inl.inj h
         exact .inl (ltS_bef.1 this)
       · rintro (h | h)
         · rw [ltS_bef.2 h]
         · exact absurd h.1 c
 obtain ⟨r, h1, h2⟩ := key 0 (Nat.zero_le _)
 rw [List.drop_zero, List.drop_zero] at h2
 rcases r with r | r
 ·refine ⟨r, h1.bind (Ev.const rfl), ?_⟩
  rw [← h2]
  exact ⟨fun h => by rw [h], fun h => Sum.inl.inj h⟩
 refine ⟨false, h1.bind (Ev.const rfl), ?_⟩
 rw [← h2]; simp
theorem Wy.toLast : ∀ {l : List Spot} {u : Spot}, Wy p b u l → ∃ t ∈ b, Wy p [t] u l
  | [], u, h => ⟨u, h, List.mem_singleton.2 rfl⟩
  | v :: l, u, h => by
    obtain ⟨t, ht, k⟩ := Wy.toLast h.2
    exact ⟨t, ht, h.1, k⟩
def Fst (p : Pasture) (a b : List Spot) (w : List Spot) : Prop := (w = [] ∧ ∀ s ∈ a, ∀ l, ¬ Wy p b s l) ∨ ∃ s W, w = s :: W ∧ s ∈ a ∧ Wy p b s W ∧ ∀ s' ∈ a, ∀ l, Wy p b s' l → leW w (s' :: l)
theorem Fst.uniq {w w' : List Spot} (h : Fst p a b w) (k : Fst p a b w') : w = w' := by
 rcases h with ⟨rfl, h⟩ | ⟨s, W, rfl, h1, h2, h3⟩ <;> rcases k with ⟨rfl, k⟩ | ⟨s', W', rfl, k1, k2, k3⟩
 ·rfl
 ·exact absurd k2 (h s' k1 W')
 ·exact absurd h2 (k s h1 W)
 exact (h3 s' k1 W' k2).anti (k3 s h1 W h2)
def In (p : Pasture) (a b : List Spot) (w : List Spot) (Q : Spot → Spot → Prop) : Prop := (w = [] ∧ ∀ s t, Q s t → ∀ l, ¬ Wy p [t] s l) ∨ ∃ s W t, w = s :: W ∧ s ∈ a ∧ t ∈ b ∧ Wy p [t] s W ∧ ∀ s' t', Q s' t' → ∀ l, Wy p [t'] s' l → leW w (s' :: l)
theorem In.mono {w : List Spot} {Q Q' : Spot → Spot → Prop} (h : In p a b w Q) (k : ∀ s t, Q' s t → Q s t) : In p a b w Q' := by
 rcases h with ⟨rfl, h⟩ | ⟨s, W, t, e, h1, h2, h3, h4⟩
 ·exact .inl ⟨rfl, fun s t hq => h s t (k s t hq)⟩
 exact .inr ⟨s, W, t, e, h1, h2, h3, fun s' t' hq => h4 s' t' (k s' t' hq)⟩
theorem wy_len (hw : okW p = true) (v : VPasture p) (hb : inP p b) : ∀ w : List Spot, ∀ s W, w = s :: W → inP p [s] → Wy p b s W → (∀ l, Wy p b s l → leW w (s :: l)) → b.length ≤ 1000 → W.length ≤ 3000 := by
 obtain ⟨w1, w2⟩ := okW_iff.1 hw
 intro w s W e hs hW hle hbl
 obtain ⟨m, _, d⟩ := farS_ev v hw (L := b) (by omega) hb
 obtain ⟨x, y, hx, hy, rfl⟩ := hs s (List.mem_singleton.2 rfl)
 have h1 := hW.far hw d hx hy
 have h2 := d.lo y x (by omega) (by omega)
 obtain ⟨k, hk⟩ := Int.eq_ofNat_of_zero_le h1.1
 obtain ⟨W', z1, z2, z3, z4⟩ := wayS_ev v hw hb d k x y hx hy hk [] (by simp; omega)
 rcases hle W' z2 with h | ⟨h, _⟩
 ·rw [e] at h; simp at h; omega
 rw [e] at h; simp at h; omega
theorem first2_ev (v : VPasture p) (hp : vP p = true) (ha : inP p a) (hb : inP p b) (hbl : b.length ≤ 1000) {i : Nat} (hi : i < a.length) : ∀ j, j ≤ b.length → ∀ (w : List Spot) (Q : Spot → Spot → Prop), In p a b w Q → w.length ≤ 4000 → ∃ w', Ev (fun k => q0j.l2 p a b (i : Int) k w (j : Int)) w' ∧ In p a b w' (fun s t => Q s t ∨ (s = a[i] ∧ t ∈ b.drop j)) ∧ w'.length ≤ 4000 := by
 have hw := vP_okW hp
 refine upL ?_ ?_
 ·intro w Q h hl
  refine ⟨w, Ev.step (fun k => q0j.l2.eq_2 _ _ _ _ _ _ _) (Ev.neg (by omega) (Ev.const rfl)), h.mono fun s t hq => ?_, hl⟩
  rcases hq with hq | ⟨_, hq⟩
  ·exact hq
  rw [List.drop_length] at hq; simp at hq
 intro j hj ih w Q h hl
 have hs := List.getElem_mem hi
 have ht := List.getElem_mem hj
 have gs := getI_nat hi
 have gt := getI_nat hj
 rw [List.drop_eq_getElem_cons hj]
 generalize hse : a[i] = s at hs gs
 generalize hte : b[j] = t at ht gt
 have hw1 := wsucc hj (by omega)
 have hps : inP p [s] := fun z hz => by rw [List.mem_singleton.1 hz]; exact ha s hs
 obtain ⟨ax, ay, hax, hay, es⟩ := ha s hs
 obtain ⟨bx, by_, hbx, hby, et⟩ := hb t ht
 have wb := wbS_ev v hp hax hay hbx hby
 rw [← es, ← et] at wb
 have go : ∀ (w1 : List Spot), In p a b w1 (fun s' t' => Q s' t' ∨ (s' = s ∧ t' = t)) → w1.length ≤ 4000 → (∀ {r}, Ev (fun k => q0j.l2 p a b (i : Int) k w1 (IntKind.i64.wrap ((j : Int) + 1))) r → Ev (fun k => q0j.l2 p a b (i : Int) k w (j : Int)) r) → ∃ w', Ev (fun k => q0j.l2 p a b (i : Int) k w (j : Int)) w' ∧ In p a b w' (fun s' t' => Q s' t' ∨ (s' = s ∧ t' ∈ t :: b.drop (j + 1))) ∧ w'.length ≤ 4000 := fun w1 h1 hl1 hst => by
   obtain ⟨w', z1, z2, z3⟩ := ih w1 _ h1 hl1
   rw [hse] at z2
   refine ⟨w', hst (by rw [hw1]; exact z1), z2.mono fun s' t' hq => ?_, z3⟩
   rcases hq with hq | ⟨e, hq⟩
   · exact .inl (.inl hq)
   · rcases List.mem_cons.1 hq with hq | hq
     · exact .inl (.inr ⟨e, hq⟩)
     · exact .inr ⟨e, hq⟩
 rcases wb with ⟨n1, n2⟩ | ⟨W, r1, r2, r3⟩
 ·refine go w ?_ hl fun {r} hr => Ev.step (fun k => q0j.l2.eq_2 _ _ _ _ _ _ _) (Ev.pos (by omega) (Ev.bind (Ev.const gs) (Ev.bind (Ev.const gt) (n2.bind (Ev.bind (a := true) (Ev.pos (by simp) (Ev.const rfl)) (Ev.pos rfl hr))))))
  rcases h with ⟨e, h⟩ | ⟨s0, W0, t0, e, h1, h2, h3, h4⟩
  ·refine .inl ⟨e, fun s' t' hq => ?_⟩
   rcases hq with hq | ⟨rfl, rfl⟩
   ·exact h s' t' hq
   exact n1
  refine .inr ⟨s0, W0, t0, e, h1, h2, h3, fun s' t' hq l hl => ?_⟩
  rcases hq with hq | ⟨rfl, rfl⟩
  ·exact h4 s' t' hq l hl
  exact absurd hl (n1 l)
 have hWl : (s :: W).length ≤ 4000 := by
   have := wy_len hw v (b := [t]) (fun z hz => by rw [List.mem_singleton.1 hz]; exact hb t ht) (s :: W) s W rfl hps r1 r2 (by simp)
   simp; omega
 have new : (∀ s' t', Q s' t' → ∀ l, Wy p [t'] s' l → leW (s :: W) (s' :: l)) → In p a b (s :: W) (fun s' t' => Q s' t' ∨ (s' = s ∧ t' = t)) := fun hq => .inr ⟨s, W, t, rfl, hs, ht, r1, fun s' t' hq' l hl => by
   rcases hq' with hq' | ⟨rfl, rfl⟩
   · exact hq s' t' hq' l hl
   · exact r2 l hl⟩
 rcases h with ⟨rfl, h⟩ | ⟨s0, W0, t0, rfl, h1, h2, h3, h4⟩
 ·exact go (s :: W) (new fun s' t' hq l hl => absurd hl (h s' t' hq l)) hWl fun {r} hr => Ev.step (fun k => q0j.l2.eq_2 _ _ _ _ _ _ _) (Ev.pos (by omega) (Ev.bind (Ev.const gs) (Ev.bind (Ev.const gt) (r3.bind (Ev.bind (a := false) (Ev.neg (by simp) (Ev.neg (by simp) (Ev.const rfl))) (Ev.neg (by simp) (Ev.pos (by simp) hr)))))))
 have old : leW (s0 :: W0) (s :: W) → In p a b (s0 :: W0) (fun s' t' => Q s' t' ∨ (s' = s ∧ t' = t)) := fun hq => .inr ⟨s0, W0, t0, rfl, h1, h2, h3, fun s' t' hq' l hl => by
   rcases hq' with hq' | ⟨rfl, rfl⟩
   · exact h4 s' t' hq' l hl
   · exact hq.trans (r2 l hl)⟩
 have hp0 : (0 : Int) < ((s0 :: W0).length : Int) := by rw [List.length_cons]; omega
 have hz : ¬ ((s0 :: W0).length : Int) = 0 := by omega
 by_cases c1 : (s0 :: W0).length < (s :: W).length
 ·exact go (s0 :: W0) (old (.inl c1)) hl fun {r} hr => Ev.step (fun k => q0j.l2.eq_2 _ _ _ _ _ _ _) (Ev.pos (by omega) (Ev.bind (Ev.const gs) (Ev.bind (Ev.const gt) (r3.bind (Ev.bind (a := true) (Ev.neg (by simp) (Ev.pos hp0 (Ev.const (by rw [decide_eq_true (show ((s0 :: W0).length : Int) < ((s :: W).length : Int) by exact_mod_cast c1)])))) (Ev.pos rfl hr))))))
 have y0 : Ev (fun _ : Nat => if (0 : Int) ≠ 0 then some true else if 0 < ((s0 :: W0).length : Int) then some (decide (((s0 :: W0).length : Int) < ((s :: W).length : Int))) else some false) false := Ev.neg (by simp) (Ev.pos hp0 (Ev.const (by rw [decide_eq_false (by omega)])))
 by_cases c2 : (s :: W).length < (s0 :: W0).length
 ·exact go (s :: W) (new fun s' t' hq l hl => leW.trans (.inl c2) (h4 s' t' hq l hl)) hWl fun {r} hr => Ev.step (fun k => q0j.l2.eq_2 _ _ _ _ _ _ _) (Ev.pos (by omega) (Ev.bind (Ev.const gs) (Ev.bind (Ev.const gt) (r3.bind (Ev.bind y0 (Ev.neg (by simp) (Ev.neg hz (Ev.pos (show ((s :: W).length : Int) < ((s0 :: W0).length : Int) by exact_mod_cast c2) hr))))))))
 obtain ⟨ah, a1, a2⟩ := ahead2_ev (u := s :: W) (v := s0 :: W0) (by omega) (by omega)
 cases ah
 ·have : leW (s0 :: W0) (s :: W) := by
    refine .inr ⟨by omega, ?_⟩
    rcases lexL_tot (u := s :: W) (v := s0 :: W0) (by omega) with k | k | k
    · have := a2.2 k; simp at this
    · exact .inl k.symm
    · exact .inr k
  exact go (s0 :: W0) (old this) hl fun {r} hr => Ev.step (fun k => q0j.l2.eq_2 _ _ _ _ _ _ _) (Ev.pos (by omega) (Ev.bind (Ev.const gs) (Ev.bind (Ev.const gt) (r3.bind (Ev.bind y0 (Ev.neg (by simp) (Ev.neg hz (Ev.neg (show ¬ ((s :: W).length : Int) < ((s0 :: W0).length : Int) by exact_mod_cast c2) (a1.bind (Ev.neg (by simp) hr))))))))))
 have : leW (s :: W) (s0 :: W0) := .inr ⟨by omega, .inr (a2.1 rfl)⟩
 exact go (s :: W) (new fun s' t' hq l hl => this.trans (h4 s' t' hq l hl)) hWl fun {r} hr => Ev.step (fun k => q0j.l2.eq_2 _ _ _ _ _ _ _) (Ev.pos (by omega) (Ev.bind (Ev.const gs) (Ev.bind (Ev.const gt) (r3.bind (Ev.bind y0 (Ev.neg (by simp) (Ev.neg hz (Ev.neg (show ¬ ((s :: W).length : Int) < ((s0 :: W0).length : Int) by exact_mod_cast c2) (a1.bind (Ev.pos rfl hr))))))))))
end
section
variable {p q : Pasture} {a b T : List Spot} {s t : Spot} {x y i : Nat} {l : List Hurdle}
theorem first_ev (h : Pt p a b) : ∃ w, Ev (fun k => q0j.f k p a b) w ∧ Fst p a b w := by
 have h1 := h.al; have h2 := h.bl
 have key : ∀ i, i ≤ a.length → ∀ (w : List Spot) (Q : Spot → Spot → Prop), In p a b w Q → w.length ≤ 4000 → ∃ w', Ev (fun k => q0j.l1 p a b k w (i : Int)) w' ∧ In p a b w' (fun s t => Q s t ∨ (s ∈ a.drop i ∧ t ∈ b)) := by
   refine upL ?_ ?_
   · intro w Q h hl
     refine ⟨w, Ev.step (fun k => q0j.l1.eq_2 _ _ _ _ _ _) (Ev.neg (by omega) (Ev.const rfl)), h.mono fun s t hq => ?_⟩
     rcases hq with hq | ⟨hq, _⟩
     · exact hq
     · rw [List.drop_length] at hq; simp at hq
   · intro i hi ih w Q hI hl
     obtain ⟨w1, z1, z2, z3⟩ := first2_ev h.v h.ok h.ia h.ib (by omega) hi 0 (Nat.zero_le _) w Q hI hl
     obtain ⟨w', y1, y2⟩ := ih w1 _ z2 z3
     rw [← wsucc hi (by omega)] at y1
     refine ⟨w', Ev.step (fun k => q0j.l1.eq_2 _ _ _ _ _ _) (Ev.pos (by omega) (Ev.bind (z1.bind (Ev.const rfl)) y1)), y2.mono fun s t hq => ?_⟩
     rcases hq with hq | ⟨hq, ht⟩
     · exact .inl (.inl hq)
     · rw [List.drop_eq_getElem_cons hi] at hq
       rcases List.mem_cons.1 hq with hq | hq
       · exact .inl (.inr ⟨hq, by rw [List.drop_zero]; exact ht⟩)
       · exact .inr ⟨hq, ht⟩
 obtain ⟨w, z1, z2⟩ := key 0 (Nat.zero_le _) [] (fun _ _ => False) (.inl ⟨rfl, fun _ _ h => h.elim⟩) (by simp)
 refine ⟨w, z1.bind (Ev.const rfl), ?_⟩
 rw [List.drop_zero] at z2
 rcases z2 with ⟨e, z⟩ | ⟨s, W, t, e, k1, k2, k3, k4⟩
 ·refine .inl ⟨e, fun s hs l hl => ?_⟩
  obtain ⟨t, ht, k⟩ := hl.toLast
  exact z s t (.inr ⟨hs, ht⟩) l k
 refine .inr ⟨s, W, e, k1, k3.mono (fun z hz => by rw [List.mem_singleton.1 hz]; exact k2), fun s' hs' l hl => ?_⟩
 obtain ⟨t', ht', k⟩ := hl.toLast
 exact k4 s' t' (.inr ⟨hs', ht'⟩) l k
structure Jt (m : Tb) (Q : List Spot) (best : Spot) (least : Int) : Prop where
  no : least < 0 → ∀ s ∈ Q, gS m s < 0
  low : -1 ≤ least
  yes : 0 ≤ least → best ∈ Q ∧ gS m best = least ∧ ∀ s ∈ Q, 0 ≤ gS m s → least < gS m s ∨ (least = gS m s ∧ (best = s ∨ bef best s))
theorem best_ev {L : List Spot} (hL : ∀ s ∈ L, inS s) (hs : L.Pairwise bef) {m : Tb} (hm : ∀ b a, b < 10 → a < 10 → -1 ≤ g2 m b a ∧ g2 m b a ≤ 3000) (hl : L.length ≤ 1000) : ∀ i, i ≤ L.length → ∀ (best : Spot) (least : Int), Jt m (L.take i) best least → ∃ r, Ev (fun k => q0l.l2 m L k best least (i : Int)) r ∧ Jt m L r.1 r.2 := by
 refine upL ?_ ?_
 ·intro best least h
  rw [List.take_length] at h
  exact ⟨(best, least), Ev.step (fun k => q0l.l2.eq_2 _ _ _ _ _ _) (Ev.neg (by omega) (Ev.const rfl)), h⟩
 intro i hi ih best least h
 have hmem := List.getElem_mem hi
 have hbef : ∀ z ∈ L.take i, bef z L[i] := fun z hz => by
   obtain ⟨j, hj, e⟩ := List.getElem_of_mem hz
   rw [List.length_take] at hj
   rw [List.getElem_take] at e
   rw [← e]
   exact (List.pairwise_iff_getElem.1 hs) j i (by omega) hi (by omega)
 have et : L.take (i + 1) = L.take i ++ [L[i]] := by rw [List.take_add_one, List.getElem?_eq_getElem hi]; rfl
 rw [et] at ih
 have g := getI_nat hi
 generalize L[i] = s at g hmem hbef ih
 obtain ⟨x, y, hx, hy, es⟩ := hL s hmem
 have hb := hm y x hy hx
 have e1 : q1e.f m s = some (gS m s) := by rw [es, gS_sp]; exact steps_atS hx hy hb
 have hb' : -1 ≤ gS m s ∧ gS m s ≤ 3000 := by rw [es, gS_sp]; exact hb
 have hw1 := wsucc hi (by omega)
 have go : ∀ (b1 : Spot) (l1 : Int), Jt m (L.take i ++ [s]) b1 l1 → (∀ {r}, Ev (fun k => q0l.l2 m L k b1 l1 (IntKind.i64.wrap ((i : Int) + 1))) r → Ev (fun k => q0l.l2 m L k best least (i : Int)) r) → ∃ r, Ev (fun k => q0l.l2 m L k best least (i : Int)) r ∧ Jt m L r.1 r.2 := fun b1 l1 hj hst => by
   obtain ⟨r, z1, z2⟩ := ih b1 l1 hj
   rw [← hw1] at z1
   exact ⟨r, hst z1, z2⟩
 have new : 0 ≤ gS m s → (∀ z ∈ L.take i, 0 ≤ gS m z → gS m s < gS m z) → Jt m (L.take i ++ [s]) s (gS m s) := fun h0 hq => ⟨fun h => by omega, by omega, fun _ => ⟨by simp, rfl, fun z hz hz0 => by
   rcases List.mem_append.1 hz with hz | hz
   · exact .inl (hq z hz hz0)
   · rw [List.mem_singleton.1 hz]; exact .inr ⟨rfl, .inl rfl⟩⟩⟩
 by_cases c0 : 0 ≤ gS m s
 ·by_cases c1 : least < 0
  ·exact go s (gS m s) (new c0 fun z hz h0 => by have := h.no c1 z hz; omega) fun {r} hr => Ev.step (fun k => q0l.l2.eq_2 _ _ _ _ _ _) (Ev.pos (by omega) (Ev.bind (Ev.const g) (Ev.bind (Ev.const e1) (Ev.pos c0 (Ev.pos c1 hr)))))
  obtain ⟨k1, k2, k3⟩ := h.yes (by omega)
  by_cases c2 : gS m s < least
  ·exact go s (gS m s) (new c0 fun z hz h0 => by rcases k3 z hz h0 with k | k <;> omega) fun {r} hr => Ev.step (fun k => q0l.l2.eq_2 _ _ _ _ _ _) (Ev.pos (by omega) (Ev.bind (Ev.const g) (Ev.bind (Ev.const e1) (Ev.pos c0 (Ev.neg c1 (Ev.pos c2 hr))))))
  refine go best least ⟨fun h => by omega, h.low, fun _ => ⟨List.mem_append_left _ k1, k2, fun z hz h0 => ?_⟩⟩ fun {r} hr => Ev.step (fun k => q0l.l2.eq_2 _ _ _ _ _ _) (Ev.pos (by omega) (Ev.bind (Ev.const g) (Ev.bind (Ev.const e1) (Ev.pos c0 (Ev.neg c1 (Ev.neg c2 hr))))))
  rcases List.mem_append.1 hz with hz | hz
  ·exact k3 z hz h0
  rw [List.mem_singleton.1 hz]
  by_cases c3 : least < gS m s
  ·exact .inl c3
  exact .inr ⟨by omega, .inr (hbef _ k1)⟩
 refine go best least ⟨fun hn z hz => ?_, h.low, fun h0 => ?_⟩ fun {r} hr => Ev.step (fun k => q0l.l2.eq_2 _ _ _ _ _ _) (Ev.pos (by omega) (Ev.bind (Ev.const g) (Ev.bind (Ev.const e1) (Ev.neg c0 hr))))
 ·rcases List.mem_append.1 hz with hz | hz
  ·exact h.no hn z hz
  rw [List.mem_singleton.1 hz]; omega
 obtain ⟨k1, k2, k3⟩ := h.yes h0
 refine ⟨List.mem_append_left _ k1, k2, fun z hz hz0 => ?_⟩
 rcases List.mem_append.1 hz with hz | hz
 ·exact k3 z hz hz0
 rw [List.mem_singleton.1 hz] at hz0; exact absurd hz0 c0
theorem firstI_ev (h : Pt p a b) : ∃ (m : Tb) (r : Spot × Int), Ev (fun k => q00.f k p b) m ∧ Ev (fun k => q2g.f k a) (ord a) ∧ Ev (fun k => q0l.l2 m (ord a) k (⟨0, 0⟩ : Spot) (-1) 0) r ∧ ((r.2 < 0 ∧ Fst p a b []) ∨ (¬ r.2 < 0 ∧ ∃ w, Ev (fun k => q14.f k p r.1 m) w ∧ Fst p a b w ∧ w ≠ [])) := by
 have hw := vP_okW h.ok
 obtain ⟨w1, w2⟩ := okW_iff.1 hw
 have h1 := h.al; have h2 := h.bl
 obtain ⟨m, m1, d⟩ := farS_ev h.v hw (L := b) (by omega) h.ib
 have ho : inP p (ord a) := fun s hs => h.ia s (ord_mem.1 hs)
 have hol : (ord a).length ≤ 100 := inP_len hw ho (nodup_bef (ord_srt a))
 obtain ⟨r, r1, r2⟩ := best_ev (inP_10 hw ho) (ord_srt a) d.lo (by omega) 0 (Nat.zero_le _) (⟨0, 0⟩ : Spot) (-1) ⟨fun _ s hs => by simp at hs, by omega, fun h => by omega⟩
 refine ⟨m, r, m1, ord_ev (h.ia.cellIn hw) (by omega), r1, ?_⟩
 by_cases c : r.2 < 0
 ·refine .inl ⟨c, .inl ⟨rfl, fun s hs l hl => ?_⟩⟩
  have := r2.no c s (ord_mem.2 hs)
  obtain ⟨x, y, hx, hy, rfl⟩ := h.ia s hs
  rw [gS_sp] at this
  have := (hl.far hw d hx hy).1
  omega
 obtain ⟨k1, k2, k3⟩ := r2.yes (by omega)
 obtain ⟨x, y, hx, hy, er⟩ := ho _ k1
 rw [er, gS_sp] at k2
 obtain ⟨n, hn⟩ := Int.eq_ofNat_of_zero_le (show 0 ≤ g2 m y x by omega)
 have hlo := d.lo y x (by omega) (by omega)
 obtain ⟨W, z1, z2, z3, z4⟩ := wayS_ev h.v hw h.ib d n x y hx hy hn [sp x y] (by simp; omega)
 refine .inr ⟨c, sp x y :: W, ?_, .inr ⟨sp x y, W, rfl, ord_mem.1 (er ▸ k1), z2, fun s' hs' l hl => ?_⟩, by simp⟩
 ·rw [er]; exact z4.bind (Ev.const rfl)
 obtain ⟨x', y', hx', hy', rfl⟩ := h.ia s' hs'
 have hf := hl.far hw d hx' hy'
 have := k3 _ (ord_mem.2 hs') (by rw [gS_sp]; exact hf.1)
 rw [gS_sp, er] at this
 rcases this with k | ⟨k, k | k⟩
 ·refine .inl ?_
  simp only [List.length_cons, z1]; omega
 ·rw [← k] at hl ⊢; exact z3 l hl
 by_cases e : l.length = n
 ·exact .inr ⟨by simp [z1, e], .inr (.inl k)⟩
 refine .inl ?_
 simp only [List.length_cons, z1]; omega
def hbs : List Spot → List Hurdle
  | u :: v :: l => hb u v :: hbs (v :: l)
  | _ => []
theorem hbs_told (hw : okW p = true) : ∀ {l : List Spot} {u : Spot}, inP p [u] → Wy p b u l → ∀ h ∈ hbs (u :: l), told p h
  | [], u, _, _, h, hh => by simp [hbs] at hh
  | v :: l, u, hu, hl, h, hh => by
    have hn := (nbL_hb hw hu).1 hl.1
    rw [hbs] at hh
    rcases List.mem_cons.1 hh with rfl | hh
    · exact (adj_ends hw hn.1).1
    · obtain ⟨_, _, x', y', h1, h2, rfl⟩ := adj_ends hw hn.1
      exact hbs_told hw (inP1 h1 h2) hl.2 h hh
theorem hbs_len : ∀ l : List Spot, (hbs l).length ≤ l.length
  | [] => Nat.le_refl _
  | [_] => Nat.zero_le _
  | u :: v :: l => by have := hbs_len (v :: l); rw [hbs, List.length_cons, List.length_cons]; omega
theorem hbs_one : ∀ {l : List Spot}, l.length ≤ 1 → hbs l = []
  | [], _ => rfl
  | [_], _ => rfl
  | _ :: _ :: _, h => by simp at h
theorem hbs_cut (hw : okW p = true) : ∀ {l : List Spot} {u : Spot}, inP p [u] → Wy p b u l → u ∈ T → (∀ s ∈ b, s ∉ T) → ∃ h ∈ hbs (u :: l), h ∈ OSd p T
  | [], u, _, hl, hu, hb => absurd hu (hb u hl)
  | v :: l, u, hp, hl, hu, hb => by
    by_cases c : v ∈ T
    · obtain ⟨_, _, x', y', h1, h2, rfl⟩ := adj_ends hw ((nbL_hb hw hp).1 hl.1).1
      obtain ⟨h, h3, h4⟩ := hbs_cut hw (inP1 h1 h2) hl.2 c hb
      exact ⟨h, List.mem_cons_of_mem _ h3, h4⟩
    · exact ⟨_, List.mem_cons_self .., step_OS hw hp hl.1 fun e => c (e.1 hu)⟩
theorem along2 (hw : okW p = true) {w : List Spot} {j : Nat} (hj1 : 1 ≤ j) (hj : j < w.length) (hu : inP p [w[j - 1]]) (hn : w[j] ∈ nbL p w[j - 1]) (hl : w.length ≤ 5000) (acc : List Hurdle) (ha : acc.length ≤ 100000) : Ev (fun k => q0p.l2 w (j : Int) k acc 0) (acc ++ [hb w[j - 1] w[j]]) := by
 obtain ⟨w1, w2⟩ := okW_iff.1 hw
 have gu : getI w (IntKind.i64.wrap ((j : Int) - 1)) = some w[j - 1] := by
   rw [show IntKind.i64.wrap ((j : Int) - 1) = ((j - 1 : Nat) : Int) by rw [w64 (by omega) (by omega)]; omega]
   exact getI_nat (by omega)
 have gv : getI w (j : Int) = some w[j] := getI_nat hj
 generalize w[j - 1] = u at gu hu hn
 generalize w[j] = v at gv hn
 obtain ⟨x, y, hx, hy, rfl⟩ := hu u (List.mem_singleton.2 rfl)
 obtain ⟨⟨_, i0, hi0, e0, hc⟩, _⟩ := (nbL_hb hw (inP1 hx hy)).1 hn
 have hh := hb_hA hw hx hy hi0 (by rw [e0]; exact hc)
 rw [e0] at hh
 have key : ∀ i, i ≤ 4 → ∀ acc : List Hurdle, acc.length ≤ 100000 + i → Ev (fun k => q0p.l2 w (j : Int) k acc (i : Int)) (if i ≤ i0 then acc ++ [hb (sp x y) v] else acc) := by
   refine upL ?_ ?_
   · intro acc ha
     rw [if_neg (by omega)]
     exact Ev.step (fun k => q0p.l2.eq_2 _ _ _ _ _) (Ev.neg (by omega) (Ev.const rfl))
   · intro i hi ih acc ha
     have w4 : IntKind.i64.wrap ((i : Int) + 1) = ((i + 1 : Nat) : Int) := wsucc (n := 4) hi (by omega)
     by_cases c : i = i0
     · subst c
       have k := ih (acc ++ [hb (sp x y) v]) (by simp; omega)
       rw [if_neg (by omega), ← w4] at k
       rw [if_pos (Nat.le_refl _)]
       exact Ev.step (fun k => q0p.l2.eq_2 _ _ _ _ _) (Ev.pos (by omega) (Ev.bind (Ev.const gu) (Ev.bind (Ev.const gv) (Ev.bind (Ev.const (ahead_eq _ _)) (Ev.pos e0 (Ev.bind (Ev.const gu) (Ev.bind (Ev.const ((hurdleAt_hA _ hi).trans (congrArg some hh.symm))) (Ev.bind (Ev.const (chkT (by simp; omega))) k))))))))
     · have k := ih acc (by omega)
       rw [← w4] at k
       have hne : ¬ nx (sp x y) (i : Int) = v := fun e => c (nx_inj (show x < 10 by omega) (show y < 10 by omega) hi hi0 (e.trans e0.symm))
       have e : (if i ≤ i0 then acc ++ [hb (sp x y) v] else acc) = if i + 1 ≤ i0 then acc ++ [hb (sp x y) v] else acc := by
         by_cases d : i ≤ i0
         · rw [if_pos d, if_pos (by omega)]
         · rw [if_neg d, if_neg (by omega)]
       rw [e]
       exact Ev.step (fun k => q0p.l2.eq_2 _ _ _ _ _) (Ev.pos (by omega) (Ev.bind (Ev.const gu) (Ev.bind (Ev.const gv) (Ev.bind (Ev.const (ahead_eq _ _)) (Ev.neg hne k)))))
 have := key 0 (Nat.zero_le _) acc (by omega)
 rw [if_pos (Nat.zero_le _)] at this
 exact this
theorem wy_at (hw : okW p = true) : ∀ {l : List Spot} {u : Spot}, inP p [u] → Wy p b u l → ∀ j (hj : j < (u :: l).length), 1 ≤ j → inP p [(u :: l)[j - 1]] ∧ (u :: l)[j] ∈ nbL p (u :: l)[j - 1]
  | [], u, _, _, j, hj, h1 => by simp at hj; omega
  | v :: l, u, hu, hl, j, hj, h1 => by
    obtain ⟨_, _, x', y', h3, h4, rfl⟩ := adj_ends hw ((nbL_hb hw hu).1 hl.1).1
    cases j with
    | zero => omega
    | succ j =>
      cases j with
      | zero => exact ⟨hu, hl.1⟩
      | succ j =>
        have := wy_at hw (inP1 h3 h4) hl.2 (j + 1) (by simpa using hj) (by omega)
        simpa using this
theorem hbs_drop {w : List Spot} {j : Nat} (h1 : 1 ≤ j) (hj : j < w.length) : hbs (w.drop (j - 1)) = hb w[j - 1] w[j] :: hbs (w.drop j) := by
 have e1 : w.drop (j - 1) = w[j - 1] :: w.drop (j - 1 + 1) := List.drop_eq_getElem_cons (by omega)
 rw [show j - 1 + 1 = j by omega] at e1
 rw [e1, List.drop_eq_getElem_cons hj, hbs]
theorem along_ev (hw : okW p = true) {u : Spot} {W : List Spot} (hu : inP p [u]) (hW : Wy p b u W) (hl : (u :: W).length ≤ 4000) : Ev (fun k => q0p.f k (u :: W)) (hbs (u :: W)) := by
 have key : ∀ j, j ≤ (u :: W).length → 1 ≤ j → ∀ acc : List Hurdle, acc.length ≤ j → Ev (fun k => q0p.l1 (u :: W) k acc (j : Int)) (acc ++ hbs ((u :: W).drop (j - 1))) := by
   refine upL ?_ ?_
   · intro _ acc ha
     have e : hbs ((u :: W).drop ((u :: W).length - 1)) = [] := by
       exact hbs_one (by rw [List.length_drop]; omega)
     rw [e, List.append_nil]
     exact Ev.step (fun k => q0p.l1.eq_2 _ _ _ _) (Ev.neg (by omega) (Ev.const rfl))
   · intro j hj ih h1 acc ha
     obtain ⟨k1, k2⟩ := wy_at hw hu hW j hj h1
     have e := along2 hw h1 hj k1 k2 (by omega) acc (by omega)
     have k := ih (by omega) (acc ++ [hb (u :: W)[j - 1] (u :: W)[j]]) (by simp; omega)
     rw [← wsucc hj (by omega), List.append_assoc, Nat.add_sub_cancel] at k
     rw [hbs_drop h1 hj]
     exact Ev.step (fun k => q0p.l1.eq_2 _ _ _ _) (Ev.pos (by omega) (Ev.bind (e.bind (Ev.const rfl)) k))
 have := key 1 (by simp) (Nat.le_refl _) [] (by simp)
 rw [List.nil_append, Nat.sub_self, List.drop_zero] at this
 exact this.bind (Ev.const rfl)
theorem alongS_ev (hw : okW p = true) {u : Spot} {W : List Spot} (hu : inP p [u]) (hW : Wy p b u W) (hl : (u :: W).length ≤ 4000) (q : Pasture) : Ev (fun k => q0x.l2 (u :: W) k q 1) (putL true q (hbs (u :: W))) := by
 have ht := hbs_told hw hu hW
 have key : ∀ j, j ≤ (u :: W).length → 1 ≤ j → ∀ q : Pasture, Ev (fun k => q0x.l2 (u :: W) k q (j : Int)) (putL true q (hbs ((u :: W).drop (j - 1)))) := by
   refine upL ?_ ?_
   · intro _ q
     have e : hbs ((u :: W).drop ((u :: W).length - 1)) = [] := by
       exact hbs_one (by rw [List.length_drop]; omega)
     rw [e]
     exact Ev.step (fun k => q0x.l2.eq_2 _ _ _ _) (Ev.neg (by omega) (Ev.const rfl))
   · intro j hj ih h1 q
     obtain ⟨k1, k2⟩ := wy_at hw hu hW j hj h1
     have htj := (adj_ends hw ((nbL_hb hw k1).1 k2).1).1
     have gu : getI (u :: W) (IntKind.i64.wrap ((j : Int) - 1)) = some (u :: W)[j - 1] := by
       rw [show IntKind.i64.wrap ((j : Int) - 1) = ((j - 1 : Nat) : Int) by rw [w64 (by omega) (by omega)]; omega]
       exact getI_nat (by omega)
     have k := ih (by omega) (putL true q [hb (u :: W)[j - 1] (u :: W)[j]])
     rw [← wsucc hj (by omega), Nat.add_sub_cancel, ← putL_app] at k
     rw [hbs_drop h1 hj]
     obtain ⟨x, y, s, hx, hy, eh⟩ := told_10 hw htj
     have hS : q26.f q (sp x y) (sdI s : Int) true = some (putB q x y s true) := by
       have := putS_eq q hx hy s true
       cases s <;> exact this
     refine Ev.step (fun k => q0x.l2.eq_2 _ _ _ _) (Ev.pos (by omega) (Ev.bind (Ev.const gu) (Ev.bind (Ev.const (getI_nat hj)) (Ev.bind (Ev.const (between_eq _ _)) (Ev.bind (Ev.const (side_eq _)) (Ev.bind (a := putL true q [hb (u :: W)[j - 1] (u :: W)[j]]) (Ev.const ?_) k))))))
     rw [eh]; exact hS
 have := key 1 (by simp) (Nat.le_refl _) q
 rw [Nat.sub_self, List.drop_zero] at this
 exact this
end
section
variable {p q : Pasture} {a b T : List Spot} {s t : Spot} {x y i : Nat} {l : List Hurdle}
inductive Wm (a b : List Spot) : Pasture → List (List Spot) → Prop
  | nil {p : Pasture} : (∀ s ∈ a, ∀ l, ¬ Wy p b s l) → Wm a b p []
  | cons {p : Pasture} {s : Spot} {W : List Spot} {ws : List (List Spot)} : s ∈ a → Wy p b s W → (∀ s' ∈ a, ∀ l, Wy p b s' l → leW (s :: W) (s' :: l)) → Wm a b (putL true p (hbs (s :: W))) ws → Wm a b p ((s :: W) :: ws)
theorem More.pt (h : Pt p a b) (m : More p l q) : Pt q a b := ⟨m.v, m.ok, m.inP.2 h.ia, m.inP.2 h.ib, h.al, h.bl, h.no⟩
theorem one_way (h : Pt p a b) {s : Spot} {W : List Spot} (hs : s ∈ a) (hW : Wy p b s W) (hle : ∀ s' ∈ a, ∀ l, Wy p b s' l → leW (s :: W) (s' :: l)) : inP p [s] ∧ (s :: W).length ≤ 4000 ∧ More p (hbs (s :: W)) (putL true p (hbs (s :: W))) := by
 have hw := vP_okW h.ok
 have h2 := h.bl
 have hps : inP p [s] := fun z hz => by rw [List.mem_singleton.1 hz]; exact h.ia s hs
 have := wy_len hw h.v h.ib (s :: W) s W rfl hps hW (fun l hl => hle s hs l hl) (by omega)
 exact ⟨hps, by simp; omega, put_more h.v h.ok (hbs_told hw hps hW)⟩
theorem cut_less (h : Pt p a b) (hT : ∀ s ∈ a, s ∈ T) (hB : ∀ s ∈ b, s ∉ T) {s : Spot} {W : List Spot} (hs : s ∈ a) (hps : inP p [s]) (hW : Wy p b s W) (m : More p (hbs (s :: W)) q) : (OSd q T).length < (OSd p T).length := by
 have hw := vP_okW h.ok
 obtain ⟨g, g1, g2⟩ := hbs_cut hw hps hW (hT s hs) hB
 have := nodup_leG (A := g :: OSd q T) (B := OSd p T) (List.nodup_cons.2 ⟨fun hg => (m.OSd.1 hg).2 g1, OS_nodup⟩) fun z hz => by
   rcases List.mem_cons.1 hz with rfl | hz
   · exact g2
   · exact (m.OSd.1 hz).1
 rw [List.length_cons] at this; omega
theorem Wy.dist (hw : okW p = true) {m : Tb} (d : Ds p b m) : ∀ {l : List Spot} {x y : Nat}, x < p.Wide.toNat → y < p.High.toNat → Wy p b (sp x y) l → (l.length : Int) = g2 m y x → (∀ z ∈ l, gS m z < g2 m y x) ∧ (sp x y :: l).Nodup
  | [], x, y, _, _, _, _ => ⟨fun z hz => by simp at hz, by simp⟩
  | v :: l, x, y, hx, hy, h, hl => by
    obtain ⟨w1, w2⟩ := okW_iff.1 hw
    obtain ⟨x', y', hx', hy', rfl, hs⟩ := nbL_in hw h.1
    have k1 := Wy.far hw d hx' hy' h.2
    have k2 := d.rel y' x' y x (by omega) (by omega) k1.1 ((nbL_iff hw).1 (nbL_back hw hx hy h.1))
    rw [List.length_cons] at hl
    obtain ⟨k3, k4⟩ := Wy.dist hw d hx' hy' h.2 (by omega)
    have k5 : ∀ z ∈ sp x' y' :: l, gS m z < g2 m y x := fun z hz => by
      rcases List.mem_cons.1 hz with rfl | hz
      · rw [gS_sp]; omega
      · have := k3 z hz; omega
    refine ⟨k5, List.nodup_cons.2 ⟨fun hm => ?_, k4⟩⟩
    have := k5 _ hm
    rw [gS_sp] at this; omega
theorem way_nodup (h : Pt p a b) {s : Spot} {W : List Spot} (hs : s ∈ a) (hW : Wy p b s W) (hle : ∀ s' ∈ a, ∀ l, Wy p b s' l → leW (s :: W) (s' :: l)) : (s :: W).Nodup := by
 have hw := vP_okW h.ok
 have h2 := h.bl
 obtain ⟨w1, w2⟩ := okW_iff.1 hw
 obtain ⟨m, _, d⟩ := farS_ev h.v hw (L := b) (by omega) h.ib
 obtain ⟨x, y, hx, hy, rfl⟩ := h.ia s hs
 have h1 := hW.far hw d hx hy
 have h2 := d.lo y x (by omega) (by omega)
 obtain ⟨k, hk⟩ := Int.eq_ofNat_of_zero_le h1.1
 obtain ⟨W', z1, z2, z3, z4⟩ := wayS_ev h.v hw h.ib d k x y hx hy hk [] (by simp; omega)
 have : W.length ≤ W'.length := by
   rcases hle _ hs W' z2 with h | ⟨h, _⟩
   · simp only [List.length_cons] at h; omega
   · simp only [List.length_cons] at h; omega
 exact (hW.dist hw d hx hy (by omega)).2
theorem ways_fin (n : Nat) (h : Pt p a b) (f0 : Fst p a b []) : ∃ ws, Wm a b p ws ∧ ws.length ≤ (OSd p T).length ∧ (∀ acc : List (List Spot), acc.length + n ≤ 10000 → Ev (fun k => q0l.l1 a b k p acc) (.inl (acc ++ ws, 0))) ∧ ∀ acc : List (List Spot), acc.length + n ≤ 10000 → ∀ w, Fst p a b w → Ev (fun k => q0x.l1 a b k p acc w) (acc ++ ws) := by
 obtain ⟨m, r, m1, m2, m3, m4⟩ := firstI_ev h
 refine ⟨[], .nil ?_, Nat.zero_le _, fun acc ha => ?_, fun acc ha w hf => ?_⟩
 ·rcases f0 with ⟨_, f0⟩ | ⟨s, W, e, _⟩
  ·exact f0
  simp at e
 ·rcases m4 with ⟨c, _⟩ | ⟨_, w, _, m5, m6⟩
  ·rw [List.append_nil]
   exact Ev.step (fun k => q0l.l1.eq_2 _ _ _ _ _) (m1.bind (m2.bind (m3.bind (Ev.pos c (Ev.const rfl)))))
  exact absurd (m5.uniq f0) m6
 rw [hf.uniq f0, List.append_nil]
 exact Ev.step (fun k => q0x.l1.eq_2 _ _ _ _ _ _) (Ev.neg (by simp) (Ev.const rfl))
theorem ways_loop (hT : ∀ s ∈ a, s ∈ T) (hB : ∀ s ∈ b, s ∉ T) : ∀ (n : Nat) (p : Pasture), Pt p a b → (OSd p T).length ≤ n → ∃ ws, Wm a b p ws ∧ ws.length ≤ (OSd p T).length ∧ (∀ acc : List (List Spot), acc.length + n ≤ 10000 → Ev (fun k => q0l.l1 a b k p acc) (.inl (acc ++ ws, 0))) ∧ ∀ acc : List (List Spot), acc.length + n ≤ 10000 → ∀ w, Fst p a b w → Ev (fun k => q0x.l1 a b k p acc w) (acc ++ ws)
  | 0, p, h, hn => by
    obtain ⟨w, e1, e2⟩ := first_ev h
    rcases e2 with ⟨rfl, e2⟩ | ⟨s, W, rfl, k1, k2, k3⟩
    · exact ways_fin 0 h (.inl ⟨rfl, e2⟩)
    · obtain ⟨hps, hl, mo⟩ := one_way h k1 k2 k3
      have := cut_less h hT hB k1 hps k2 mo
      omega
  | n + 1, p, h, hn => by
    obtain ⟨w, e1, e2⟩ := first_ev h
    rcases id e2 with ⟨rfl, e3⟩ | ⟨s, W, rfl, k1, k2, k3⟩
    · exact ways_fin (n + 1) h (.inl ⟨rfl, e3⟩)
    · obtain ⟨hps, hl, mo⟩ := one_way h k1 k2 k3
      have hw := vP_okW h.ok
      have hless := cut_less h hT hB k1 hps k2 mo
      have hq := mo.pt h
      obtain ⟨ws, z1, z2, z3, z4⟩ := ways_loop hT hB n _ hq (by omega)
      obtain ⟨w', f1, f2⟩ := first_ev hq
      have hh := hbs_len (s :: W)
      have hwith := withL_ev true (fun g hg => told_10 hw (hbs_told hw hps k2 g hg)) (l := hbs (s :: W)) (by omega) p
      obtain ⟨m, r, m1, m2, m3, m4⟩ := firstI_ev h
      refine ⟨(s :: W) :: ws, .cons k1 k2 k3 z1, by rw [List.length_cons]; omega, fun acc ha => ?_, fun acc ha w1 hf => ?_⟩
      · rcases m4 with ⟨_, m5⟩ | ⟨c, w, m4, m5, m6⟩
        · have := m5.uniq e2; simp at this
        · obtain rfl := m5.uniq e2
          have k := z3 (acc ++ [s :: W]) (by rw [List.length_append]; simp; omega)
          rw [List.append_assoc] at k
          exact Ev.step (fun k => q0l.l1.eq_2 _ _ _ _ _) (m1.bind (m2.bind (m3.bind (Ev.neg c (m4.bind (Ev.bind (Ev.const (chkT (by simp; omega))) ((along_ev hw hps k2 hl).bind (hwith.bind k))))))))
      · obtain rfl := hf.uniq e2
        have k := z4 (acc ++ [s :: W]) (by rw [List.length_append]; simp; omega) w' f2
        rw [List.append_assoc] at k
        exact Ev.step (fun k => q0x.l1.eq_2 _ _ _ _ _ _) (Ev.pos (by rw [List.length_cons]; omega) (Ev.bind (Ev.const (chkT (by simp; omega))) ((alongS_ev hw hps k2 hl p).bind (f1.bind k))))
theorem waysApart_ev (h : Pt p a b) (k : Lc p a b T) : ∃ ws, Wm a b p ws ∧ ws.length ≤ (OSd p T).length ∧ Ev (fun k => q0l.f k p a b) (ws, 0) ∧ Ev (fun k => q0x.f k p a b) (ws, 0) := by
 have hn := OS_len (vP_okW h.ok) T
 obtain ⟨ws, z1, z2, z3, z4⟩ := ways_loop k.own k.far _ p h (Nat.le_refl _)
 obtain ⟨w, e1, e2⟩ := first_ev h
 have z3 := z3 [] (by simp; omega)
 have z4 := z4 [] (by simp; omega) w e2
 rw [List.nil_append] at z3 z4
 exact ⟨ws, z1, z2, h.code.1.bind (Ev.neg (by simp) (z3.bind (Ev.const rfl))), h.code.2.bind (Ev.neg (by simp) (e1.bind (z4.bind (Ev.const rfl))))⟩
theorem Wm.no (h : Pt p a b) (k : Lc p a b T) (m : Wm a b p []) : OSd p T = [] := by
 have hw := vP_okW h.ok
 obtain ⟨w1, w2⟩ := okW_iff.1 hw
 have h1 := h.al
 have n1 : ∀ s ∈ a, ∀ l, ¬ Wy p b s l := by
   cases m with
   | nil n => exact n
 obtain ⟨tb, _, d⟩ := farS_ev h.v hw (L := a) (by omega) h.ia
 have mo : More p [] p := ⟨h.v, h.ok, rfl, rfl, fun g _ => by simp⟩
 have hreach : ∀ x y, x < 10 → y < 10 → 0 ≤ g2 tb y x → ∃ s ∈ a, ∃ l, Wy p [sp x y] s l := fun x y hx hy hr =>
   d.min (T := fun y x => ∃ s ∈ a, ∃ l, Wy p [sp x y] s l) (fun y x y' x' hy hx ⟨s, hs, l, hl⟩ hst => by
     have key : ∀ {l : List Spot} {u : Spot}, Wy p [sp x y] u l → Wy p [sp x' y'] u (l ++ [sp x' y']) := by
       intro l
       induction l with
       | nil => intro u hu; rw [List.mem_singleton.1 (show u ∈ [sp x y] from hu)]; exact ⟨(nbL_iff hw).2 hst, List.mem_singleton.2 rfl⟩
       | cons v l ih => intro u hu; exact ⟨hu.1, ih hu.2⟩
     exact ⟨s, hs, _, key hl⟩) (fun b a hb ha hm => ⟨_, hm, [], List.mem_singleton.2 rfl⟩) y x hy hx hr
 have hm := k.min (rch p tb) rch_in (cL_nodup.filter _) (fun s hs => by
   obtain ⟨x, y, hx, hy, rfl⟩ := h.ia s hs
   refine rch_sp.2 ⟨⟨hx, hy⟩, ?_⟩
   rw [(d.zero y x (by omega) (by omega)).2 hs]; omega) (fun s hs hr => by
   obtain ⟨x, y, hx, hy, rfl⟩ := h.ib s hs
   obtain ⟨s, hs', l, hl⟩ := hreach x y (by omega) (by omega) (rch_sp.1 hr).2
   exact n1 s hs' l (hl.mono fun z hz => by rw [List.mem_singleton.1 hz]; exact hs))
 have h0 : OSd p (rch p tb) = [] := List.eq_nil_iff_forall_not_mem.2 fun g hg => by
   have := rch_OS hw mo d g hg
   simp at this
 rw [h0] at hm
 exact List.eq_nil_of_length_eq_zero (by simpa using hm)
end
section
variable {p q : Pasture} {a b T : List Spot} {s t : Spot} {x y i : Nat} {l : List Hurdle}
theorem hbs_take : ∀ {w : List Spot} {j : Nat} (h1 : 1 ≤ j) (hj : j < w.length), hbs (w.take (j + 1)) = hbs (w.take j) ++ [hb w[j - 1] w[j]]
  | [], j, h1, hj => by simp at hj
  | [_], j, h1, hj => by simp at hj; omega
  | u :: v :: l, 0, h1, hj => by omega
  | u :: v :: l, 1, h1, hj => rfl
  | u :: v :: l, j + 2, h1, hj => by
    have := hbs_take (w := v :: l) (j := j + 1) (by omega) (by simpa using hj)
    show hb u v :: hbs ((v :: l).take (j + 2)) = (hb u v :: hbs ((v :: l).take (j + 1))) ++ _
    rw [this]; rfl
theorem hbs_ends {g : Hurdle} : ∀ {w : List Spot}, g ∈ hbs w → ∃ (i : Nat) (hi : i < w.length), 1 ≤ i ∧ g = hb w[i - 1] w[i]
  | [], h => by simp [hbs] at h
  | [_], h => by simp [hbs] at h
  | u :: v :: l, h => by
    rw [hbs] at h
    rcases List.mem_cons.1 h with rfl | h
    · exact ⟨1, by simp, Nat.le_refl _, rfl⟩
    · obtain ⟨i, hi, h1, e⟩ := hbs_ends h
      refine ⟨i + 1, by simpa using hi, by omega, ?_⟩
      rw [e]
      obtain ⟨i, rfl⟩ : ∃ z, i = z + 1 := ⟨i - 1, by omega⟩
      rfl
theorem hb_eq (hw : okW p = true) {c d : Spot} (h : adj p s t) (k : adj p c d) (e : hb s t = hb c d) : t = c ∨ t = d := by
 have h1 := (adj_ends hw h).2.1
 have k1 := (adj_ends hw k).2.1
 rw [← e] at k1
 rcases h1 with ⟨a1, a2⟩ | ⟨a1, a2⟩ <;> rcases k1 with ⟨b1, b2⟩ | ⟨b1, b2⟩
 ·exact .inr (a2.symm.trans b2)
 ·exact .inl (a2.symm.trans b2)
 ·exact .inl (a1.symm.trans b1)
 exact .inr (a1.symm.trans b1)
theorem hb_new (hw : okW p = true) {u : Spot} {W : List Spot} (hu : inP p [u]) (hW : Wy p b u W) (hn : (u :: W).Nodup) {j : Nat} (h1 : 1 ≤ j) (hj : j < (u :: W).length) : hb (u :: W)[j - 1] (u :: W)[j] ∉ hbs ((u :: W).take j) := fun h => by
  obtain ⟨i, hi, i1, e⟩ := hbs_ends h
  rw [List.length_take] at hi
  rw [List.getElem_take, List.getElem_take] at e
  obtain ⟨k1, k2⟩ := wy_at hw hu hW j hj h1
  obtain ⟨k3, k4⟩ := wy_at hw hu hW i (by omega) i1
  have hne : ∀ m, m < j → (hm : m < (u :: W).length) → (u :: W)[m] ≠ (u :: W)[j] := fun m hmj hm => (List.pairwise_iff_getElem.1 hn) m j hm hj hmj
  rcases hb_eq hw ((nbL_hb hw k1).1 k2).1 ((nbL_hb hw k3).1 k4).1 e with e | e
  · exact hne (i - 1) (by omega) (by omega) e.symm
  · exact hne i (by omega) (by omega) e.symm
theorem steps_ev (h : Pt p a b) {u : Spot} {W : List Spot} (hu : inP p [u]) (hW : Wy p b u W) (hn : (u :: W).Nodup) (hl : (u :: W).length ≤ 4000) : Ev (fun k => q0f.l2 (u :: W) k p 1) (.inr (putL true p (hbs (u :: W)))) := by
 have hw := vP_okW h.ok
 have ht := hbs_told hw hu hW
 have key : ∀ j, j ≤ (u :: W).length → 1 ≤ j → Ev (fun k => q0f.l2 (u :: W) k (putL true p (hbs ((u :: W).take j))) (j : Int)) (.inr (putL true p (hbs (u :: W)))) := by
   refine upL ?_ ?_
   · intro _
     rw [List.take_length]
     exact Ev.step (fun k => q0f.l2.eq_2 _ _ _ _) (Ev.neg (by omega) (Ev.const rfl))
   · intro j hj ih h1
     obtain ⟨k1, k2⟩ := wy_at hw hu hW j hj h1
     have hnew := hb_new hw hu hW hn h1 hj
     have htk : ∀ g ∈ hbs ((u :: W).take j), told p g := fun g hg => by
       obtain ⟨i, hi, i1, e⟩ := hbs_ends hg
       rw [List.length_take] at hi
       rw [List.getElem_take, List.getElem_take] at e
       obtain ⟨k3, k4⟩ := wy_at hw hu hW i (by omega) i1
       rw [e]; exact (adj_ends hw ((nbL_hb hw k3).1 k4).1).1
     have mo := put_more h.v h.ok htk
     have ih := ih (by omega)
     rw [hbs_take h1 hj, putL_app, ← wsucc hj (by omega)] at ih
     have e1 : IntKind.i64.wrap ((j : Int) - 1) = ((j - 1 : Nat) : Int) := by rw [w64 (by omega) (by omega)]; omega
     have e2 : IntKind.i64.wrap ((j : Int) + 1) = ((j + 1 : Nat) : Int) := wsucc hj (by omega)
     have gu : getI (u :: W) (IntKind.i64.wrap ((j : Int) - 1)) = some (u :: W)[j - 1] := by rw [e1]; exact getI_nat (by omega)
     have gv : getI (u :: W) (j : Int) = some (u :: W)[j] := getI_nat hj
     have es : ((u :: W).drop ((IntKind.i64.wrap ((j : Int) - 1)).toNat)).take ((IntKind.i64.wrap ((j : Int) + 1)).toNat - (IntKind.i64.wrap ((j : Int) - 1)).toNat) = [(u :: W)[j - 1], (u :: W)[j]] := by
       rw [e1, e2, Int.toNat_natCast, Int.toNat_natCast, show j + 1 - (j - 1) = 2 by omega]
       have d1 : (u :: W).drop (j - 1) = (u :: W)[j - 1] :: (u :: W).drop (j - 1 + 1) := List.drop_eq_getElem_cons (by omega)
       rw [show j - 1 + 1 = j by omega] at d1
       rw [d1, List.drop_eq_getElem_cons hj]; rfl
     generalize (u :: W)[j - 1] = c at gu k1 k2 hnew ih es
     generalize (u :: W)[j] = d at gv k2 hnew ih es
     have hb1 := (besideN_ev mo.v (vP_okW mo.ok) (mo.inP.2 k1) (List.mem_singleton.2 rfl)).1
     have hnl := nbL_len (p := putL true p (hbs ((u :: W).take j))) c
     have hc := contS_ev (nbL (putL true p (hbs ((u :: W).take j))) c) d (by omega)
     rw [decide_eq_true ((mo.nb hw k1).2 ⟨k2, hnew⟩)] at hc
     have hal := along_ev (b := [d]) hw k1 (W := [d]) ⟨k2, List.mem_singleton.2 rfl⟩ (by simp)
     have htd := (adj_ends hw ((nbL_hb hw k1).1 k2).1).1
     have hwi := withL_ev true (l := [hb c d]) (fun g hg => by rw [List.mem_singleton.1 hg]; exact told_10 hw htd) (by simp) (putL true p (hbs ((u :: W).take j)))
     refine Ev.step (fun k => q0f.l2.eq_2 _ _ _ _) (Ev.pos (by omega) (Ev.bind (Ev.const gu) (Ev.bind (Ev.const gv) (hb1.bind (hc.bind (Ev.neg (by simp) (Ev.bind (Ev.const (chkT (by rw [e1, e2]; omega))) ?_)))))))
     rw [es]
     exact hal.bind (hwi.bind ih)
 exact key 1 (by simp) (Nat.le_refl _)
theorem getI_app {α : Type} (pre : List α) (w : α) (post : List α) : getI (pre ++ (w :: post)) (pre.length : Int) = some w := by
 rw [getI_nat (by simp)]
 rw [List.getElem_append_right (Nat.le_refl _)]
 simp
theorem look_ev (h : Pt p a b) {u : Spot} {W : List Spot} (hu : u ∈ a) (hlast : (u :: W).getLast (by simp) ∈ b) (hl : (u :: W).length ≤ 4000) : Ev (fun k => (getI (u :: W) 0).bind fun t19 => (q09.f k a t19).bind fun t20 => if (!t20) = true then (some true) else ((getI (u :: W) (IntKind.i64.wrap (((u :: W).length : Int) - 1))).bind fun t21 => (q09.f k b t21).bind fun t22 => some (!t22))) false := by
 have h1 := h.al; have h2 := h.bl
 have c1 := contS_ev a u (by omega)
 rw [decide_eq_true hu] at c1
 have c2 := contS_ev b ((u :: W).getLast (by simp)) (by omega)
 rw [decide_eq_true hlast] at c2
 have g2 : getI (u :: W) (IntKind.i64.wrap (((u :: W).length : Int) - 1)) = some ((u :: W).getLast (by simp)) := by
   rw [show IntKind.i64.wrap (((u :: W).length : Int) - 1) = (((u :: W).length - 1 : Nat) : Int) by rw [w64 (by omega) (by omega)]; simp]
   rw [getI_nat (by simp), List.getLast_eq_getElem]
 exact Ev.bind (Ev.const (show getI (u :: W) 0 = some u from rfl)) (c1.bind (Ev.neg (by simp) (Ev.bind (Ev.const g2) (c2.bind (Ev.const rfl)))))
theorem checks_ev : ∀ (ws : List (List Spot)) (p : Pasture) (pre post : List (List Spot)), Pt p a b → Wm a b p ws → (pre ++ (ws ++ post)).length ≤ 100000 → ∀ {r}, Ev (fun k => q0f.l1 a b (pre ++ (ws ++ post)) k (putL true p (ws.map hbs).flatten) ((pre.length + ws.length : Nat) : Int)) r → Ev (fun k => q0f.l1 a b (pre ++ (ws ++ post)) k p (pre.length : Int)) r
  | [], p, pre, post, h, m, hl, r, hr => by simpa [putL] using hr
  | w :: ws, p, pre, post, h, m, hl, r, hr => by
    have hw := vP_okW h.ok
    cases m with
    | @cons _ s W _ k1 k2 k3 k4 =>
      obtain ⟨hps, hl1, mo⟩ := one_way h k1 k2 k3
      have hn := way_nodup h k1 k2 k3
      have ih := checks_ev ws (putL true p (hbs (s :: W))) (pre ++ [s :: W]) post (mo.pt h) k4 (by simpa using hl) (r := r)
      have e : (pre ++ [s :: W]) ++ (ws ++ post) = pre ++ ((s :: W) :: ws ++ post) := by simp
      rw [e, List.length_append, show ([s :: W] : List (List Spot)).length = 1 from rfl] at ih
      rw [List.map_cons, List.flatten_cons, putL_app, List.length_cons, show pre.length + (ws.length + 1) = pre.length + 1 + ws.length by omega] at hr
      have ih := ih hr
      have hlt : pre.length < (pre ++ ((s :: W) :: ws ++ post)).length := by simp
      rw [← wsucc hlt (by omega)] at ih
      exact Ev.step (fun k => q0f.l1.eq_2 _ _ _ _ _ _) (Ev.pos (by simp; omega) (Ev.bind (Ev.bind (Ev.const (getI_app pre (s :: W) (ws ++ post))) ((look_ev h k1 k2.last hl1).bind (Ev.neg (by simp) ((steps_ev h hps k2 hn hl1).bind (Ev.const rfl))))) ih))
theorem Wm.all : ∀ {ws : List (List Spot)} {p : Pasture}, Pt p a b → Wm a b p ws → (∀ w ∈ ws, w ≠ [] ∧ Go.Proofs.YtegibnmfiogebaaGreatDoor.inP p w ∧ w.length ≤ 100) ∧ ∀ g ∈ (ws.map hbs).flatten, told p g
  | [], p, h, m => ⟨fun w hw => by simp at hw, fun g hg => by simp at hg⟩
  | w :: ws, p, h, m => by
    have hw := vP_okW h.ok
    cases m with
    | @cons _ s W _ k1 k2 k3 k4 =>
      obtain ⟨hps, hl1, mo⟩ := one_way h k1 k2 k3
      have hn := way_nodup h k1 k2 k3
      have hin := Wy.inP hw hps k2
      obtain ⟨i1, i2⟩ := Wm.all (mo.pt h) k4
      refine ⟨fun w hw' => ?_, fun g hg => ?_⟩
      · rcases List.mem_cons.1 hw' with rfl | hw'
        · exact ⟨by simp, hin, inP_len hw hin hn⟩
        · obtain ⟨j1, j2, j3⟩ := i1 w hw'
          exact ⟨j1, mo.inP.1 j2, j3⟩
      · rw [List.map_cons, List.flatten_cons] at hg
        rcases List.mem_append.1 hg with hg | hg
        · exact hbs_told hw hps k2 g hg
        · exact (told_size mo.w mo.h).1 (i2 g hg)
theorem ne_ev {L : List (List Spot)} (hne : ∀ w ∈ L, w ≠ []) (hl : L.length ≤ 100000) : Ev (fun k => q12.f k L q27.f) false := by
 have key : ∀ i, i ≤ L.length → Ev (fun k => q0d.l1 L q27.f k (i : Int)) (.inr ()) := by
   refine upL ?_ ?_
   · exact Ev.step (fun k => q0d.l1.eq_2 _ _ _ _) (Ev.neg (by omega) (Ev.const rfl))
   · intro i hi ih
     rw [← wsucc hi (by omega)] at ih
     have h0 := List.length_pos_iff.2 (hne _ (List.getElem_mem hi))
     have e : q27.f L[i] = some false := by
       unfold q27.f
       rw [decide_eq_false (by omega)]
     exact Ev.step (fun k => q0d.l1.eq_2 _ _ _ _) (Ev.pos (by omega) (Ev.bind (Ev.const (getI_nat hi)) (Ev.bind (Ev.const e) (Ev.neg (by simp) ih))))
 exact Ev.bind (a := (-1 : Int)) ((key 0 (Nat.zero_le _)).bind (Ev.const rfl)) (Ev.const rfl)
theorem flat_len {L : List (List Spot)} {n : Nat} (h : ∀ w ∈ L, w.length ≤ n) : L.flatten.length ≤ L.length * n := by
  induction L with
  | nil => simp
  | cons w L ih =>
    have h1 := h w (List.mem_cons_self ..)
    have h2 := ih fun w hw => h w (List.mem_cons_of_mem _ hw)
    rw [List.flatten_cons, List.length_append, List.length_cons, Nat.add_mul]; omega
theorem wcode_ev (h : Pt p a b) {L : List (List Spot)} (hL : ∀ w ∈ L, w ≠ [] ∧ inP p w ∧ w.length ≤ 100) (hl : L.length ≤ 1000) {r : Bool × Int} (hr : Ev (fun k => (q0f.l1 a b L k p 0).bind fun s361 => match s361 with | .inl r => some r | .inr _ => some (true, 0)) r) : Ev (fun k => q0f.f k p a b L) r := by
 have h1 := h.al; have h2 := h.bl
 have hf := flat_len (n := 100) fun w hw => (hL w hw).2.2
 have c1 := concat_ev L (by omega) (by omega)
 have c2 := concat_ev [a, b, L.flatten] (by simp) (by simp only [List.flatten_cons, List.flatten_nil, List.length_append, List.length_nil]; omega)
 have e : [a, b, L.flatten].flatten = a ++ (b ++ L.flatten) := by simp
 rw [e] at c2
 have hin : inP p (a ++ (b ++ L.flatten)) := fun z hz => by
   rcases List.mem_append.1 hz with hz | hz
   · exact h.ia z hz
   · rcases List.mem_append.1 hz with hz | hz
     · exact h.ib z hz
     · obtain ⟨w, hw, hz⟩ := List.mem_flatten.1 hz
       exact (hL w hw).2.1 z hz
 have c3 := (code0 h.v h.ok hin (by rw [List.length_append, List.length_append]; omega)).1
 exact (ne_ev (fun w hw => (hL w hw).1) (by omega)).bind (c1.bind (c2.bind (c3.bind (Ev.bind (Ev.const (unless_eq _ _)) (firstOf00.bind (Ev.neg (by simp) hr))))))
theorem checkWays_ev (h : Pt p a b) {ws : List (List Spot)} (m : Wm a b p ws) (hl : ws.length ≤ 200) : Ev (fun k => q0f.f k p a b ws) (true, 0) := by
 obtain ⟨m1, m2⟩ := m.all h
 have e := checks_ev ws p [] [] h m (by simp; omega) (r := .inr ()) (by
   rw [List.append_nil, List.nil_append]
   exact Ev.step (fun k => q0f.l1.eq_2 _ _ _ _ _ _) (Ev.neg (by simp) (Ev.const rfl)))
 rw [List.append_nil, List.nil_append] at e
 exact wcode_ev h m1 (by omega) (e.bind (Ev.const rfl))
theorem checkTwice_ev (h : Pt p a b) {w : List Spot} {ws : List (List Spot)} (m : Wm a b p (w :: ws)) (hl : (w :: ws).length ≤ 200) : Ev (fun k => q0f.f k p a b ((w :: ws) ++ [w])) (false, 0) := by
  have hw := vP_okW h.ok
  obtain ⟨m1, m2⟩ := m.all h
  have mo := put_more h.v h.ok m2
  have e := checks_ev (w :: ws) p [] [w] h m (by simp at hl ⊢; omega) (r := .inl (false, 0))
  rw [List.nil_append] at e
  cases m with
  | @cons _ s W _ k1 k2 k3 k4 =>
    obtain ⟨hps, hl1, _⟩ := one_way h k1 k2 k3
    cases W with
    | nil => exact absurd k2 (h.no s k1)
    | cons v W =>
      have hnot : v ∉ nbL (putL true p (((s :: v :: W) :: ws).map hbs).flatten) s := fun hv => by
        refine ((mo.nb hw hps).1 hv).2 ?_
        rw [List.map_cons, List.flatten_cons, hbs]
        exact List.mem_append_left _ (List.mem_cons_self ..)
      have hb1 := (besideN_ev mo.v (vP_okW mo.ok) (mo.inP.2 hps) (List.mem_singleton.2 rfl)).1
      have hnl := nbL_len (p := putL true p (((s :: v :: W) :: ws).map hbs).flatten) s
      have hc := contS_ev (nbL (putL true p (((s :: v :: W) :: ws).map hbs).flatten) s) v (by omega)
      rw [decide_eq_false hnot] at hc
      have w0 : IntKind.i64.wrap (1 - 1) = 0 := by decide
      have hs2 : Ev (fun k => q0f.l2 (s :: v :: W) k (putL true p (((s :: v :: W) :: ws).map hbs).flatten) 1) (.inl (.inl (.inl (false, 0)))) :=
        Ev.step (fun k => q0f.l2.eq_2 _ _ _ _) (Ev.pos (by simp; omega) (Ev.bind (Ev.const (show getI (s :: v :: W) (IntKind.i64.wrap (1 - 1)) = some s by rw [w0]; rfl)) (Ev.bind (Ev.const (show getI (s :: v :: W) 1 = some v from rfl)) (hb1.bind (hc.bind (Ev.pos rfl (Ev.const rfl)))))))
      have hfin : Ev (fun k => q0f.l1 a b (((s :: v :: W) :: ws) ++ [s :: v :: W]) k (putL true p (((s :: v :: W) :: ws).map hbs).flatten) (((([] : List (List Spot)).length + ((s :: v :: W) :: ws).length : Nat)) : Int)) (.inl (false, 0)) := by
        rw [List.length_nil, Nat.zero_add]
        exact Ev.step (fun k => q0f.l1.eq_2 _ _ _ _ _ _) (Ev.pos (by simp; omega) (Ev.bind (a := (Sum.inl (Sum.inl (false, 0)) : ((Bool × Int) ⊕ Unit) ⊕ Pasture)) (Ev.bind (Ev.const (getI_app ((s :: v :: W) :: ws) (s :: v :: W) [])) ((look_ev (mo.pt h) k1 k2.last hl1).bind (Ev.neg (by simp) (hs2.bind (Ev.const rfl))))) (Ev.const rfl)))
      refine wcode_ev h (fun w' hw' => ?_) (by simp at hl ⊢; omega) ((e hfin).bind (Ev.const rfl))
      rcases List.mem_append.1 hw' with hw' | hw'
      · exact m1 w' hw'
      · rw [List.mem_singleton.1 hw']; exact m1 _ (List.mem_cons_self ..)
end
section
theorem chkX {p : Prop} [Decidable p] (h : p) : chk p = some () := if_pos h
theorem size_toList (s : ByteArray) : s.size = s.data.toList.length := by
 rw [Array.length_toList]
 rfl
theorem itoa_nat (n : Nat) : itoaB (n : Int) = ⟨(Go.Lib.decDigits n).toArray⟩ := by
 unfold itoaB Go.Lib.itoa
 rw [if_neg (by omega), Int.toNat_natCast]
theorem dec_len : ∀ (d n : Nat), n < 10 ^ (d + 1) → (Go.Lib.decDigits n).length ≤ d + 1
  | 0, n, h => by rw [Go.Lib.decDigits, dif_pos (by simpa using h)]; simp
  | d + 1, n, h => by
    rw [Go.Lib.decDigits]
    split
    · simp
    · have := dec_len d (n / 10) (by rw [Nat.pow_succ] at h; omega)
      rw [List.length_append]
      simp only [List.length_singleton]
      omega
theorem itoa_size {n d : Nat} (h : n < 10 ^ (d + 1)) : (itoaB (n : Int)).size ≤ d + 1 := by
 rw [itoa_nat, size_toList]
 simpa using dec_len d n h
theorem decimal_eq {n : Int} (h0 : 0 ≤ n) (h1 : n ≤ 1000000000) : q29.f n = some (itoaB n) := by
 unfold q29.f q2m.f
 rw [chkX ⟨rfl, by omega, by omega⟩]; rfl
def catB (s : ByteArray) : ByteArray → List ByteArray → ByteArray
  | a, [] => a
  | a, y :: ys => catB s (a ++ (s ++ y)) ys
theorem catB_list (s : ByteArray) : ∀ (xs : List ByteArray) (a : ByteArray), (catB s a xs).data.toList = a.data.toList ++ Go.Lib.joinTail s.data.toList (xs.map (·.data.toList))
  | [], a => by simp [catB, Go.Lib.joinTail]
  | y :: ys, a => by
    show (catB s (a ++ (s ++ y)) ys).data.toList = _
    rw [catB_list s ys, ByteArray.data_append, ByteArray.data_append]
    simp [Go.Lib.joinTail]
theorem joinB_cons (x : ByteArray) (xs : List ByteArray) (s : ByteArray) : joinB (x :: xs) s = catB s x xs := by
 apply ByteArray.ext
 show (Go.Lib.join ((x :: xs).map (·.data.toList)) s.data.toList).toArray = (catB s x xs).data
 rw [List.map_cons, Go.Lib.join_cons, ← catB_list s xs x]
theorem catB_size (s : ByteArray) (b : Nat) : ∀ (xs : List ByteArray) (a : ByteArray), (∀ x ∈ xs, x.size ≤ b) → (catB s a xs).size ≤ a.size + (s.size + b) * xs.length
  | [], a, _ => by simp [catB]
  | y :: ys, a, h => by
    have ih := catB_size s b ys (a ++ (s ++ y)) fun x hx => h x (List.mem_cons_of_mem _ hx)
    have hy := h y (List.mem_cons_self ..)
    rw [ByteArray.size_append, ByteArray.size_append] at ih
    show (catB s (a ++ (s ++ y)) ys).size ≤ _
    rw [List.length_cons, Nat.mul_succ]
    omega
theorem join_eq (x : ByteArray) (xs : List ByteArray) (s : ByteArray) (hl : (x :: xs).length ≤ 4294967296) (hz : (catB s x xs).size ≤ 4294967296) : q3c.f (x :: xs) s = some (catB s x xs, x :: xs) := by
 unfold q3c.f
 rw [joinB_cons, chkX ⟨hl, hz⟩]; rfl
end
section
def toB (l : List UInt8) : ByteArray := ⟨l.toArray⟩
theorem toB_list (l : List UInt8) : (toB l).data.toList = l := rfl
theorem toB_of (s : ByteArray) : toB s.data.toList = s := by
 apply ByteArray.ext
 simp [toB]
theorem toB_inj {l m : List UInt8} (h : toB l = toB m) : l = m := by
 have := congrArg (fun s : ByteArray => s.data.toList) h
 simpa [toB] using this
theorem toB_size (l : List UInt8) : (toB l).size = l.length := by rw [size_toList, toB_list]
theorem map_toB (xs : List ByteArray) : (xs.map (·.data.toList)).map toB = xs := by
 rw [List.map_map]
 conv => rhs; rw [← List.map_id xs]
 exact List.map_congr_left fun x _ => toB_of x
def exL (l : List UInt8) (a b : Nat) : List UInt8 := (l.drop a).take (b - a)
theorem ex_toB (s : ByteArray) (a b : Nat) : s.extract a b = toB (exL s.data.toList a b) := by
 apply ByteArray.ext
 apply Array.ext'
 rw [ByteArray.data_extract, Array.toList_extract]
 rfl
def preL (p : List UInt8) : List (List UInt8) → List (List UInt8)
  | [] => [p]
  | x :: xs => (p ++ x) :: xs
def spl (c : UInt8) : List UInt8 → List (List UInt8)
  | [] => [[]]
  | b :: l => if b = c then [] :: spl c l else preL [b] (spl c l)
theorem spl_hit {c : UInt8} {r : List UInt8} : ∀ {a : List UInt8}, c ∉ a → spl c (a ++ c :: r) = a :: spl c r
  | [], _ => by simp [spl]
  | b :: a, h => by
    have hb : b ≠ c := fun e => h (by simp [e])
    have ih := spl_hit (c := c) (r := r) (a := a) fun hm => h (by simp [hm])
    show spl c (b :: (a ++ c :: r)) = _
    rw [spl, if_neg hb, ih]; rfl
theorem spl_miss {c : UInt8} : ∀ {a : List UInt8}, c ∉ a → spl c a = [a]
  | [], _ => rfl
  | b :: a, h => by
    have hb : b ≠ c := fun e => h (by simp [e])
    rw [spl, if_neg hb, spl_miss (a := a) fun hm => h (by simp [hm])]; rfl
theorem first_of (c : UInt8) : ∀ l : List UInt8, c ∉ l ∨ ∃ a r, c ∉ a ∧ l = a ++ c :: r
  | [] => .inl (by simp)
  | b :: l => by
    by_cases hb : b = c
    · exact .inr ⟨[], l, by simp, by simp [hb]⟩
    · rcases first_of c l with h | ⟨a, r, h1, h2⟩
      · exact .inl fun hm => (List.mem_cons.1 hm).elim (fun e => hb e.symm) h
      · exact .inr ⟨b :: a, r, fun hm => (List.mem_cons.1 hm).elim (fun e => hb e.symm) h1, by simp [h2]⟩
theorem index_hit1 {c : UInt8} {r : List UInt8} : ∀ {a : List UInt8}, c ∉ a → Go.Lib.index (a ++ c :: r) [c] = (a.length : Int)
  | [], _ => by simp [Go.Lib.index, List.isPrefixOf]
  | b :: a, h => by
    have hb : b ≠ c := fun e => h (by simp [e])
    have ih := index_hit1 (c := c) (r := r) (a := a) fun hm => h (by simp [hm])
    show Go.Lib.index (b :: (a ++ c :: r)) [c] = _
    rw [Go.Lib.index, if_neg (by simp [List.isPrefixOf, Ne.symm hb]), ih, if_neg (by simp)]
    simp
theorem splitK_spl (c : UInt8) : ∀ (n : Nat) (l : List UInt8), l.count c = n → Go.Lib.splitK [c] 0 n l = spl c l := by
  intro n
  induction n with
  | zero =>
    intro l hl
    rw [spl_miss (List.count_eq_zero.1 hl)]; rfl
  | succ n ih =>
    intro l hl
    rcases first_of c l with h | ⟨a, r, h1, rfl⟩
    · rw [List.count_eq_zero.2 h] at hl; cases hl
    · rw [List.count_append, List.count_eq_zero.2 h1, List.count_cons_self] at hl
      have hi := index_hit1 (r := r) h1
      rw [spl_hit h1, Go.Lib.splitK, if_neg (by rw [hi]; simp), hi, Int.toNat_natCast]
      rw [show (a ++ c :: r).take (a.length + 0) = a by simp, show (a ++ c :: r).drop (a.length + [c].length) = r by
        rw [List.length_singleton, ← List.drop_drop, List.drop_left]; rfl, ih r (by omega)]
theorem split_spl (s : ByteArray) (c : UInt8) : splitS s ⟨#[c]⟩ = (spl c s.data.toList).map toB := by
 rw [← map_toB (splitS s ⟨#[c]⟩)]
 congr 1
 unfold splitS
 rw [Go.Lib.splitB_data]
 refine splitK_spl c _ _ ?_
 show s.data.toList.count c = Go.Lib.count s.data.toList [c]
 rw [Go.Lib.count_one]
theorem cut_hit (c : UInt8) {s : ByteArray} {a r : List UInt8} (h : c ∉ a) (hs : s.data.toList = a ++ c :: r) : cutS s ⟨#[c]⟩ = (toB a, toB r, true) := by
 unfold cutS Go.Lib.cut
 have hi : Go.Lib.index s.data.toList (⟨#[c]⟩ : ByteArray).data.toList = (a.length : Int) := by rw [hs]; exact index_hit1 h
 rw [hi, if_pos (by omega), Int.toNat_natCast, hs]
 rw [show (a ++ c :: r).take a.length = a by simp, show (a ++ c :: r).drop (a.length + (⟨#[c]⟩ : ByteArray).data.toList.length) = r by
   rw [← List.drop_drop, List.drop_left]; rfl]
 rfl
def digB (b : UInt8) : Bool := decide (48 ≤ b.toNat ∧ b.toNat ≤ 57)
def valF (acc : Nat) : List UInt8 → Nat
  | [] => acc
  | b :: l => valF (10 * acc + (b.toNat - 48)) l
def okShape (l : List UInt8) : Prop := l ≠ [] ∧ l.length ≤ 9 ∧ ¬ (l.head? = some 48 ∧ 1 < l.length)
instance (l : List UInt8) : Decidable (okShape l) := by unfold okShape; infer_instance
def okNum (l : List UInt8) : Bool := decide (okShape l) && l.all digB
theorem head_app {l m : List UInt8} (h : l ≠ []) : (l ++ m).head? = l.head? := by
  cases l with
  | nil => exact absurd rfl h
  | cons a l => rfl
theorem valF_app (b : UInt8) : ∀ (l : List UInt8) (acc : Nat), valF acc (l ++ [b]) = 10 * valF acc l + (b.toNat - 48)
  | [], acc => rfl
  | a :: l, acc => valF_app b l _
theorem valF_lt : ∀ (l : List UInt8) (acc k : Nat), l.all digB = true → acc < 10 ^ k → valF acc l < 10 ^ (k + l.length)
  | [], acc, k, _, h => h
  | a :: l, acc, k, hd, h => by
    simp only [List.all_cons, Bool.and_eq_true] at hd
    have ha := of_decide_eq_true hd.1
    have := valF_lt l (10 * acc + (a.toNat - 48)) (k + 1) hd.2 (by rw [Nat.pow_succ]; omega)
    show valF (10 * acc + (a.toNat - 48)) l < _
    rw [List.length_cons, show k + (l.length + 1) = k + 1 + l.length by omega]
    exact this
theorem dig_of {d : Nat} (h : d < 10) : (UInt8.ofNat (48 + d)).toNat = 48 + d := by
 rw [UInt8.toNat_ofNat']; omega
theorem dec_all : ∀ n : Nat, (Go.Lib.decDigits n).all digB = true := by
  intro n
  induction n using Nat.strongRecOn with
  | _ n ih =>
    rw [Go.Lib.decDigits]
    split
    · rename_i h
      simp only [List.all_cons, List.all_nil, Bool.and_true]
      exact decide_eq_true (by rw [dig_of h]; omega)
    · rename_i h
      rw [List.all_append, ih (n / 10) (by omega)]
      simp only [List.all_cons, List.all_nil, Bool.and_true, Bool.true_and]
      exact decide_eq_true (by rw [dig_of (by omega)]; omega)
theorem dec_val : ∀ n : Nat, valF 0 (Go.Lib.decDigits n) = n := by
  intro n
  induction n using Nat.strongRecOn with
  | _ n ih =>
    rw [Go.Lib.decDigits]
    split
    · rename_i h
      show 10 * 0 + ((UInt8.ofNat (48 + n)).toNat - 48) = n
      rw [dig_of h]; omega
    · rename_i h
      rw [valF_app, ih (n / 10) (by omega), dig_of (by omega)]; omega
theorem dec_ne (n : Nat) : Go.Lib.decDigits n ≠ [] := by
 rw [Go.Lib.decDigits]
 split <;> simp
theorem dec_head : ∀ n : Nat, (Go.Lib.decDigits n).head? = some 48 → n = 0 := by
  intro n
  induction n using Nat.strongRecOn with
  | _ n ih =>
    rw [Go.Lib.decDigits]
    split
    · rename_i h
      intro e
      have := congrArg (fun o : Option UInt8 => (o.getD 0).toNat) e
      simp only [List.head?_cons, Option.getD_some, dig_of h] at this
      have h48 : (48 : UInt8).toNat = 48 := rfl
      omega
    · rename_i h
      intro e
      rw [head_app (dec_ne _)] at e
      have := ih (n / 10) (by omega) e
      omega
theorem dec_okNum {n : Nat} (h : n < 1000000000) : okNum (Go.Lib.decDigits n) = true := by
 unfold okNum
 rw [dec_all, Bool.and_true]
 refine decide_eq_true ⟨dec_ne n, dec_len 8 n (by omega), fun hh => ?_⟩
 have := dec_head n hh.1
 subst this
 have := hh.2
 rw [Go.Lib.decDigits, dif_pos (by omega)] at this
 simp at this
theorem okNum_dec : ∀ (m : Nat) (l : List UInt8), l.length = m → okNum l = true → Go.Lib.decDigits (valF 0 l) = l := by
  intro m
  induction m with
  | zero =>
    intro l hl h
    unfold okNum at h
    simp only [Bool.and_eq_true, decide_eq_true_eq] at h
    exact absurd (List.length_eq_zero_iff.1 hl) h.1.1
  | succ m ih =>
    intro l hl h
    obtain ⟨l', b, rfl⟩ : ∃ l' b, l = l' ++ [b] := ⟨l.dropLast, l.getLast (by intro e; simp [e] at hl), (List.dropLast_concat_getLast _).symm⟩
    unfold okNum at h
    simp only [Bool.and_eq_true, decide_eq_true_eq, List.all_append, List.all_cons, List.all_nil, Bool.and_true] at h
    obtain ⟨⟨h1, h2, h3⟩, h4, h5⟩ := h
    have hb := of_decide_eq_true h5
    have hbv : UInt8.ofNat (48 + (b.toNat - 48)) = b := by
      apply UInt8.toNat_inj.1
      rw [dig_of (by omega)]; omega
    by_cases hn : l' = []
    · subst hn
      show Go.Lib.decDigits (10 * 0 + (b.toNat - 48)) = [b]
      rw [Go.Lib.decDigits, dif_pos (by omega), show 10 * 0 + (b.toNat - 48) = b.toNat - 48 by omega, hbv]
    · have hlp : 0 < l'.length := List.length_pos_iff.2 hn
      have hhd : (l' ++ [b]).head? = l'.head? := head_app hn
      rw [hhd] at h3
      have ho : okNum l' = true := by
        unfold okNum
        rw [h4, Bool.and_true]
        refine decide_eq_true ⟨hn, by simp at h2; omega, fun hh => h3 ⟨hh.1, by simp; omega⟩⟩
      have ih := ih l' (by simp at hl; omega) ho
      have hv : valF 0 l' ≠ 0 := by
        intro e
        rw [e, Go.Lib.decDigits, dif_pos (by omega)] at ih
        refine h3 ⟨by rw [← ih]; rfl, by simp; omega⟩
      rw [valF_app, Go.Lib.decDigits, dif_neg (by omega), show (10 * valF 0 l' + (b.toNat - 48)) / 10 = valF 0 l' by omega, ih, show (10 * valF 0 l' + (b.toNat - 48)) % 10 = b.toNat - 48 by omega, hbv]
theorem okNum_itoa {s : ByteArray} (h : okNum s.data.toList = true) : itoaB ((valF 0 s.data.toList : Nat) : Int) = s := by
 rw [itoa_nat, okNum_dec _ _ rfl h]
theorem okNum_lt {l : List UInt8} (h : okNum l = true) : valF 0 l < 1000000000 := by
 unfold okNum at h
 simp only [Bool.and_eq_true, decide_eq_true_eq] at h
 have := valF_lt l 0 0 h.2 (by omega)
 have hl := h.1.2.1
 have h9 : (10 : Nat) ^ (0 + l.length) ≤ 10 ^ 9 := Nat.pow_le_pow_right (by omega) (by omega)
 omega
theorem parse_dig : ∀ (l : List UInt8) (acc k : Nat), l.all digB = true → acc < 10 ^ k → l.length + k ≤ 18 → Go.Lib.parseUintM (2 ^ 64 - 1) acc l = .ok (valF acc l)
  | [], acc, k, _, _, _ => rfl
  | a :: l, acc, k, hd, hk, hl => by
    simp only [List.all_cons, Bool.and_eq_true] at hd
    have ha := of_decide_eq_true hd.1
    have h17 : (10 : Nat) ^ k ≤ 10 ^ 17 := Nat.pow_le_pow_right (by omega) (by simp at hl; omega)
    rw [Go.Lib.parseUintM, if_pos ha, if_neg (by omega), if_neg (by omega), show acc * 10 + (a.toNat - 48) = 10 * acc + (a.toNat - 48) by omega]
    exact parse_dig l _ (k + 1) hd.2 (by rw [Nat.pow_succ]; omega) (by simp at hl; omega)
theorem parse_ok {l : List UInt8} (h : okNum l = true) : Go.Lib.parseIntB 64 l = .ok ((valF 0 l : Nat) : Int) := by
  have hlt := okNum_lt h
  unfold okNum at h
  simp only [Bool.and_eq_true, decide_eq_true_eq] at h
  cases l with
  | nil => exact absurd rfl h.1.1
  | cons c r =>
    have hc : digB c = true := by have := h.2; simp only [List.all_cons, Bool.and_eq_true] at this; exact this.1
    have hc := of_decide_eq_true hc
    have hne : ¬ (c.toNat = 43 ∨ c.toNat = 45) := by omega
    unfold Go.Lib.parseIntB Go.Lib.parseUintB
    simp only
    rw [if_neg hne, if_neg (show ¬ (c :: r = []) by simp), parse_dig (c :: r) 0 0 h.2 (by omega) (by have := h.1.2.1; omega)]
    simp only
    rw [if_neg (by omega), if_neg (by omega), if_neg (by omega)]
theorem parseI_ok {s : ByteArray} {v : Int} (h : Go.Lib.parseIntB 64 s.data.toList = .ok v) : parseI s = (v, false) := by
 unfold parseI; rw [h]
theorem parseI_syn {s : ByteArray} (h : Go.Lib.parseIntB 64 s.data.toList = .syntax) : (parseI s).2 = true := by
 unfold parseI; rw [h]
theorem parseI_rng {s : ByteArray} (h : Go.Lib.parseIntB 64 s.data.toList = .range) : (parseI s).2 = true := by
 unfold parseI; rw [h]
theorem number_eq (s : ByteArray) (most : Int) (hs : s.size ≤ 4294967296) (hm : most ≤ 1000000) : q2u.f s most = some (if okNum s.data.toList = true ∧ ((valF 0 s.data.toList : Nat) : Int) ≤ most then ((((valF 0 s.data.toList : Nat) : Int)), true) else (0, false)) := by
  unfold q2u.f q2z.f
  rw [chkX ⟨hs, rfl, rfl⟩, Option.bind_some, Option.bind_some]
  cases hp : Go.Lib.parseIntB 64 s.data.toList with
  | «syntax» =>
    rw [if_pos (parseI_syn hp), if_neg fun h => by rw [parse_ok h.1] at hp; cases hp]
  | range =>
    rw [if_pos (parseI_rng hp), if_neg fun h => by rw [parse_ok h.1] at hp; cases hp]
  | ok v =>
    obtain ⟨b1, b2⟩ := Go.Lib.parseIntB_bounds hp
    have hd : q29.f v = some (itoaB v) := by
      unfold q29.f q2m.f
      rw [chkX ⟨rfl, by omega, by omega⟩]; rfl
    rw [parseI_ok hp]
    simp only [if_neg (show ¬ (false = true) by simp), hd, Option.bind_some, within_eq]
    have hv : okNum s.data.toList = true → v = ((valF 0 s.data.toList : Nat) : Int) := fun h => by
      rw [parse_ok h] at hp
      injection hp with hp
      exact hp.symm
    by_cases h1 : itoaB v = s
    · rw [if_neg (by simp [h1])]
      by_cases h2 : 0 ≤ v ∧ v ≤ most
      · obtain ⟨n, rfl⟩ := Int.eq_ofNat_of_zero_le h2.1
        have hok : okNum s.data.toList = true := by
          rw [← h1, itoa_nat]
          exact dec_okNum (by omega)
        rw [if_neg (by simp [h2]), if_pos ⟨hok, by rw [← hv hok]; exact h2.2⟩, ← hv hok]
      · rw [if_pos (by simp only [decide_eq_false h2]; rfl), if_neg fun h => h2 (by rw [hv h.1]; exact ⟨by omega, h.2⟩)]
    · rw [if_pos h1, if_neg fun h => h1 (by rw [hv h.1]; exact okNum_itoa h.1)]
end
section
variable {x : Hurdle} {p q : Pasture} {a b T : List Spot} {l : List Hurdle} {h : Hurdle}
def cutE (c : UInt8) (l : List UInt8) : List UInt8 × Bool := if l.getLast? = some c then (l.dropLast, true) else (l, false)
theorem exL_all (l : List UInt8) {n : Nat} : exL l 0 n = l.take n := by simp [exL]
theorem implCut_eq (l : List UInt8) (c : UInt8) (hl : l.length ≤ 1048576) : q1x.f (toB l) (⟨#[c]⟩ : ByteArray) = some (toB (cutE c l).1, (cutE c l).2) := by
 have hz : (toB l).size = l.length := toB_size l
 have h1 : (⟨#[c]⟩ : ByteArray).size = 1 := rfl
 unfold q1x.f q1u.f q1t.f
 by_cases h0 : l = []
 ·subst h0
  rw [if_neg (by rw [hz, h1]; simp)]
  rfl
 have hpos : 0 < l.length := List.length_pos_iff.2 h0
 have e1 : IntKind.i64.wrap (((toB l).size : Int) - ((⟨#[c]⟩ : ByteArray).size : Int)) = ((l.length - 1 : Nat) : Int) := by rw [hz, h1, w64 (by omega) (by omega)]; omega
 have hlast : l.getLast? = some l[l.length - 1] := by rw [List.getLast?_eq_getElem?, List.getElem?_eq_getElem (by omega)]
 have ex : (toB l).extract (l.length - 1) (toB l).size = toB [l[l.length - 1]] := by
   rw [ex_toB, toB_list, hz]
   unfold exL
   rw [List.drop_eq_getElem_cons (by omega), show l.length - (l.length - 1) = 1 by omega]; rfl
 rw [if_pos (by rw [hz, h1]; omega), e1, chkX ⟨by omega, by omega, by omega⟩, Option.bind_some, Int.toNat_natCast, ex, Option.bind_some]
 unfold cutE
 rw [hlast]
 by_cases hc : l[l.length - 1] = c
 ·rw [hc, decide_eq_true (show toB [c] = (⟨#[c]⟩ : ByteArray) from rfl), if_neg (show ¬ (!true) = true by simp), if_pos (show some c = some c from rfl), chkX ⟨by omega, by omega, by omega⟩, Option.bind_some, Option.bind_some, ex_toB, toB_list, exL_all, ← List.dropLast_eq_take]
 rw [if_neg (fun h => hc (Option.some.inj h))]
 rw [decide_eq_false (show ¬ toB [l[l.length - 1]] = (⟨#[c]⟩ : ByteArray) from fun h => hc (by have := toB_inj (m := [c]) h; exact (List.cons.inj this).1)), if_pos (show (!false) = true from rfl)]; rfl
abbrev dD (n : Int) : List UInt8 := Go.Lib.decDigits n.toNat
theorem dD_no {c : UInt8} (hc : digB c = false) (n : Int) : c ∉ dD n := fun h => by
  have := List.all_eq_true.1 (dec_all n.toNat) c h
  rw [hc] at this; cases this
theorem dD_B {n : Int} (h : 0 ≤ n) : (itoaB n).data.toList = dD n := by
 obtain ⟨m, rfl⟩ := Int.eq_ofNat_of_zero_le h
 rw [itoa_nat]
 rfl
theorem dD_v {n : Int} (h : 0 ≤ n) : ((valF 0 (dD n) : Nat) : Int) = n := by
 rw [dec_val]; omega
theorem spl_tail {c : UInt8} : ∀ (ws : List (List UInt8)) (a : List UInt8), c ∉ a → (∀ w ∈ ws, c ∉ w) → spl c (a ++ Go.Lib.joinTail [c] ws) = a :: ws
  | [], a, h, _ => by simp [Go.Lib.joinTail, spl_miss h]
  | y :: ys, a, h, hw => by
    have ih := spl_tail ys y (hw y (by simp)) (fun w hy => hw w (List.mem_cons_of_mem _ hy))
    have : a ++ Go.Lib.joinTail [c] (y :: ys) = a ++ c :: (y ++ Go.Lib.joinTail [c] ys) := by simp [Go.Lib.joinTail]
    rw [this, spl_hit h, ih]
theorem itoa_ok {n : Int} {d : Nat} (h0 : 0 ≤ n) (h1 : n < 10 ^ (d + 1)) : (itoaB n).size ≤ d + 1 := by
 obtain ⟨z, rfl⟩ := Int.eq_ofNat_of_zero_le h0
 exact itoa_size (by exact_mod_cast h1)
def com : ByteArray := ⟨#[44]⟩
def spc : ByteArray := ⟨#[32]⟩

structure goodH (h : Hurdle) : Prop where
  x0 : 0 ≤ h.At.X
  x1 : h.At.X ≤ 9
  y0 : 0 ≤ h.At.Y
  y1 : h.At.Y ≤ 9
theorem told_good (hw : okW p = true) (ht : told p h) : goodH h := by
 obtain ⟨x, y, s, hx, hy, rfl⟩ := told_10 hw ht
 refine ⟨?_, ?_, ?_, ?_⟩
 ·show 0 ≤ (x : Int); omega
 ·show (x : Int) ≤ 9; omega
 ·show 0 ≤ (y : Int); omega
 show (y : Int) ≤ 9; omega
def mk8 (s : Bool) : UInt8 := if s = true then 95 else 124
def spotH (h : Hurdle) : ByteArray := (itoaB h.At.X ++ com) ++ itoaB h.At.Y
def wordH (h : Hurdle) : ByteArray := spotH h ++ (if h.South = true then (⟨#[95]⟩ : ByteArray) else (⟨#[124]⟩ : ByteArray))
theorem mk1 (s : Bool) : (if s = true then (⟨#[95]⟩ : ByteArray) else (⟨#[124]⟩ : ByteArray)).size = 1 := by cases s <;> rfl
theorem wordH_size (h : goodH x) : (itoaB x.At.X).size ≤ 1 ∧ (itoaB x.At.Y).size ≤ 1 ∧ (spotH x).size ≤ 3 ∧ (wordH x).size ≤ 4 := by
 have h1 : (itoaB x.At.X).size ≤ 1 := itoa_ok (d := 0) h.x0 (by have := h.x1; omega)
 have h2 : (itoaB x.At.Y).size ≤ 1 := itoa_ok (d := 0) h.y0 (by have := h.y1; omega)
 have d1 : com.size = 1 := rfl
 have h4 : (spotH x).size ≤ 3 := by
   unfold spotH
   rw [ByteArray.size_append, ByteArray.size_append, d1]; omega
 refine ⟨h1, h2, h4, ?_⟩
 unfold wordH
 rw [ByteArray.size_append, mk1]; omega
theorem spotH_text (h : goodH x) : q2k.f x.At = some (spotH x) := by
 obtain ⟨w1, w2, w3, w4⟩ := wordH_size h
 have hx0 := h.x0
 have hx1 := h.x1
 have hy0 := h.y0
 have hy1 := h.y1
 have d2 : com.size = 1 := rfl
 have c1 : chk ((itoaB x.At.X).size + (⟨#[44]⟩ : ByteArray).size ≤ 4294967296) = some () := chkX (by show (itoaB x.At.X).size + com.size ≤ _; omega)
 have c2 : chk ((itoaB x.At.X ++ (⟨#[44]⟩ : ByteArray)).size + (itoaB x.At.Y).size ≤ 4294967296) = some () := chkX (by show (itoaB x.At.X ++ com).size + _ ≤ _; rw [ByteArray.size_append]; omega)
 unfold q2k.f
 rw [w64 (by omega) (by omega), decimal_eq hx0 (by omega), Option.bind_some, c1, Option.bind_some, w64 (by omega) (by omega), decimal_eq hy0 (by omega), Option.bind_some, c2]
 rfl
theorem isSpotH (h : goodH x) : q3h.f x.At = some true := by
 have hx0 := h.x0
 have hx1 := h.x1
 have hy0 := h.y0
 have hy1 := h.y1
 have e : IntKind.i64.wrap ((if (10 : Int) < IntKind.i64.wrap 10 then 10 else IntKind.i64.wrap 10) - 1) = 9 := by decide
 unfold q3h.f q0m.f
 simp only [within_eq, e]
 rw [w64 (x := x.At.X) (by omega) (by omega), w64 (x := x.At.Y) (by omega) (by omega), decide_eq_true ⟨hx0, hx1⟩, decide_eq_true ⟨hy0, hy1⟩]
 rfl
theorem fence_text {l : List Hurdle} (hl : l.length ≤ 180) (hg : ∀ s ∈ l, goodH s) : Ev (fun k => q1i.f k l) (joinB (l.map wordH) spc) := by
  have hcont := contF_H l (g := q2i.f) (dl := fun _ => false) (fun h hh => by
    unfold q2i.f
    rw [isSpotH (hg h hh)]; rfl) (by omega)
  have e : (l.any fun _ => false) = false := List.any_eq_false.2 fun _ _ => by simp
  rw [e] at hcont
  have hw : ∀ i, i ≤ l.length → ∀ ws : List ByteArray, ws.length ≤ i → Ev (fun k => q1i.l1 l k ws (i : Int)) (ws ++ (l.drop i).map wordH) := by
    refine upL ?_ ?_
    · intro ws hw
      refine Ev.step (fun k => q1i.l1.eq_2 _ _ _ _) (Ev.neg (by omega) (Ev.const ?_))
      rw [List.drop_length]; simp
    · intro i hi ih ws hw
      have g := hg _ (List.getElem_mem hi)
      obtain ⟨w1, w2, w3, w4⟩ := wordH_size g
      have hh := ih (ws ++ [wordH l[i]]) (by simp; omega)
      rw [← wsucc hi (by omega), List.append_assoc] at hh
      rw [List.drop_eq_getElem_cons hi, List.map_cons]
      cases hs : l[i].South
      · have ew : wordH l[i] = spotH l[i] ++ (⟨#[124]⟩ : ByteArray) := by unfold wordH; rw [hs]; rfl
        rw [ew] at hh ⊢
        exact Ev.step (fun k => q1i.l1.eq_2 _ _ _ _) (Ev.pos (by omega) (Ev.bind (Ev.const (getI_nat hi)) (Ev.neg (by rw [hs]; simp) (Ev.bind (Ev.const (spotH_text g)) (Ev.bind (Ev.const (chkX (by show (spotH l[i]).size + 1 ≤ _; omega))) (Ev.bind (Ev.const (chkX (by simp; omega))) hh))))))
      · have ew : wordH l[i] = spotH l[i] ++ (⟨#[95]⟩ : ByteArray) := by unfold wordH; rw [hs]; rfl
        rw [ew] at hh ⊢
        exact Ev.step (fun k => q1i.l1.eq_2 _ _ _ _) (Ev.pos (by omega) (Ev.bind (Ev.const (getI_nat hi)) (Ev.pos hs (Ev.bind (Ev.const (spotH_text g)) (Ev.bind (Ev.const (chkX (by show (spotH l[i]).size + 1 ≤ _; omega))) (Ev.bind (Ev.const (chkX (by simp; omega))) hh))))))
  have h0 := hw 0 (Nat.zero_le _) [] (by simp)
  rw [List.nil_append, List.drop_zero] at h0
  refine Ev.bind (a := false) (Ev.neg (by omega) (hcont.bind (Ev.const rfl))) (Ev.neg (by simp) (h0.bind ?_))
  cases hxs : l with
  | nil => exact Ev.const rfl
  | cons z zs =>
    have hsz := catB_size spc 4 (zs.map wordH) (wordH z) (fun q hq => by
      obtain ⟨u, hu, rfl⟩ := List.mem_map.1 hq
      exact (wordH_size (hg u (by rw [hxs]; exact List.mem_cons_of_mem _ hu))).2.2.2)
    have hz7 := (wordH_size (hg z (by rw [hxs]; simp))).2.2.2
    have hlx : zs.length ≤ 179 := by rw [hxs] at hl; simp at hl; omega
    have hs1 : spc.size = 1 := rfl
    rw [List.length_map, hs1] at hsz
    have hj := join_eq (wordH z) (zs.map wordH) spc (by simp; omega) (by omega)
    rw [List.map_cons, joinB_cons]
    exact Ev.bind (Ev.const hj) (Ev.const rfl)
def spotL (h : Hurdle) : List UInt8 := dD h.At.X ++ 44 :: dD h.At.Y
def wordLH (h : Hurdle) : List UInt8 := spotL h ++ [mk8 h.South]
theorem wordH_bytes (h : goodH x) : (wordH x).data.toList = wordLH x := by
 unfold wordH spotH wordLH spotL mk8
 cases x.South
 ·simp only [ByteArray.data_append, Array.toList_append, dD_B h.x0, dD_B h.y0]
  simp [com]
 simp only [ByteArray.data_append, Array.toList_append, dD_B h.x0, dD_B h.y0]
 simp [com]
theorem spotL_no {c : UInt8} (hc : digB c = false) (h1 : c ≠ 44) : c ∉ spotL x := by
 unfold spotL
 simp only [List.mem_append, List.mem_cons, not_or]
 exact ⟨dD_no hc _, h1, dD_no hc _⟩
theorem wordLH_no {c : UInt8} (hc : digB c = false) (h1 : c ≠ 44) (h2 : c ≠ 95) (h3 : c ≠ 124) : c ∉ wordLH x := by
 unfold wordLH
 rw [List.mem_append, List.mem_singleton, not_or]
 refine ⟨spotL_no hc h1, ?_⟩
 unfold mk8; split <;> assumption
theorem num_back {n : Int} {most : Int} (h0 : 0 ≤ n) (h1 : n ≤ most) (hm : most ≤ 1000) : q2u.f (toB (dD n)) most = some (n, true) := by
 have hl : (dD n).length ≤ 4 := Go.Proofs.YtegibnmfiogebaaGreatDoor.dec_len 3 n.toNat (by omega)
 rw [number_eq _ _ (by rw [toB_size]; omega) (by omega), toB_list, dD_v h0, if_pos ⟨dec_okNum (by omega), h1⟩]
theorem cutE_snoc (c d : UInt8) (l : List UInt8) : cutE c (l ++ [d]) = if d = c then (l, true) else (l ++ [d], false) := by
 unfold cutE
 rw [List.getLast?_concat, List.dropLast_concat]
 by_cases h : d = c
 ·rw [if_pos h, if_pos (by rw [h])]
 rw [if_neg h, if_neg fun e => h (Option.some.inj e)]
theorem cutE_no {c : UInt8} {l : List UInt8} (h : c ∉ l) : cutE c l = (l, false) := by
 unfold cutE
 rw [if_neg]
 intro e
 obtain ⟨ys, rfl⟩ := List.getLast?_eq_some_iff.1 e
 exact h (by simp)
theorem spotL_len (h : goodH x) : (spotL x).length ≤ 20 := by
 have l1 : (dD x.At.X).length ≤ 4 := Go.Proofs.YtegibnmfiogebaaGreatDoor.dec_len 3 x.At.X.toNat (by have := h.x1; omega)
 have l2 : (dD x.At.Y).length ≤ 4 := Go.Proofs.YtegibnmfiogebaaGreatDoor.dec_len 3 x.At.Y.toNat (by have := h.y1; omega)
 unfold spotL; simp; omega
theorem readH_word (h : goodH x) : q1x.f (toB (wordLH x)) (⟨#[124]⟩ : ByteArray) = some (if x.South = true then toB (wordLH x) else toB (spotL x), !x.South) ∧ q1x.f (if x.South = true then toB (wordLH x) else toB (spotL x)) (⟨#[95]⟩ : ByteArray) = some (toB (spotL x), x.South) ∧ q38.f (toB (spotL x)) = some (x.At, true) := by
 have n44 : digB 44 = false := by decide
 have n95 : digB 95 = false := by decide
 have hl := spotL_len h
 have hwl : (wordLH x).length ≤ 21 := by unfold wordLH; simp; omega
 refine ⟨?_, ?_, ?_⟩
 ·rw [implCut_eq _ _ (by omega)]
  unfold wordLH
  rw [cutE_snoc]
  cases x.South <;> rfl
 ·cases hs : x.South
  ·rw [if_neg (by simp), implCut_eq _ _ (by omega), cutE_no (spotL_no n95 (by decide))]
  rw [if_pos rfl, implCut_eq _ _ (by omega)]
  unfold wordLH
  rw [cutE_snoc, hs]; rfl
 unfold q38.f q3j.f
 rw [chkX (by rw [toB_size]; omega), Option.bind_some, cut_hit 44 (dD_no n44 x.At.X) (s := toB (spotL x)) (r := dD x.At.Y) (toB_list _)]
 simp only [Option.bind_some]
 have hx0 := h.x0
 have hx1 := h.x1
 have hy0 := h.y0
 have hy1 := h.y1
 rw [num_back h.x0 h.x1 (by omega), Option.bind_some, num_back h.y0 h.y1 (by omega), Option.bind_some]
 simp only [w8 (x := x.At.X) (by omega) (by omega), w8 (x := x.At.Y) (by omega) (by omega)]
 rfl
theorem fence_read {l : List Hurdle} (hl : l.length ≤ 180) (hg : ∀ s ∈ l, goodH s) : Ev (fun k => q1o.f k (joinB (l.map wordH) spc)) (l, 0) := by
  cases hxs : l with
  | nil => exact Ev.pos rfl (Ev.const rfl)
  | cons z zs =>
    rw [← hxs]
    have n32 : digB 32 = false := by decide
    have hb : (l.map wordH).map (·.data.toList) = l.map wordLH := by
      rw [List.map_map]
      exact List.map_congr_left fun s hs => wordH_bytes (hg s hs)
    have hj : (joinB (l.map wordH) spc).data.toList = Go.Lib.join (l.map wordLH) [32] := by
      unfold joinB
      rw [hb]; rfl
    have hsp : spl 32 (joinB (l.map wordH) spc).data.toList = l.map wordLH := by
      rw [hj, hxs, List.map_cons, Go.Lib.join_cons]
      refine spl_tail _ _ (wordLH_no n32 (by decide) (by decide) (by decide)) (fun w hw => ?_)
      obtain ⟨s, _, rfl⟩ := List.mem_map.1 hw
      exact wordLH_no n32 (by decide) (by decide) (by decide)
    have hsz : (joinB (l.map wordH) spc).size ≤ 1000 := by
      have hsz := catB_size spc 4 (zs.map wordH) (wordH z) (fun q hq => by
        obtain ⟨u, hu, rfl⟩ := List.mem_map.1 hq
        exact (wordH_size (hg u (by rw [hxs]; exact List.mem_cons_of_mem _ hu))).2.2.2)
      have hz7 := (wordH_size (hg z (by rw [hxs]; simp))).2.2.2
      have hlx : zs.length ≤ 179 := by rw [hxs] at hl; simp at hl; omega
      have hs1 : spc.size = 1 := rfl
      rw [List.length_map, hs1] at hsz
      rw [hxs, List.map_cons, joinB_cons]
      omega
    generalize ht : joinB (l.map wordH) spc = t at hsp hsz
    have hne : ¬ t = ByteArray.empty := by
      intro e
      rw [e] at hsp
      rw [hxs] at hsp
      have h47 : (44 : UInt8) ∈ wordLH z := by unfold wordLH spotL; simp
      have : spl 32 ByteArray.empty.data.toList = [[]] := rfl
      rw [this, List.map_cons] at hsp
      have := (List.cons.inj hsp).1
      rw [← this] at h47
      cases h47
    have s2 : q37.f t (⟨#[32]⟩ : ByteArray) = some ((l.map wordLH).map toB) := by
      unfold q37.f
      rw [chkX ⟨by omega, Nat.le_refl _⟩, Option.bind_some, split_spl, hsp]
    have hml : ((l.map wordLH).map toB).length = l.length := by rw [List.length_map, List.length_map]
    have key : ∀ i, i ≤ l.length → Ev (fun k => q1o.l1 ((l.map wordLH).map toB) k (l.take i) (i : Int)) (.inr l) := by
      refine upL ?_ ?_
      · exact Ev.step (fun k => q1o.l1.eq_2 _ _ _ _) (Ev.neg (by omega) (Ev.const (by rw [List.take_length])))
      · intro i hi ih
        have g := hg _ (List.getElem_mem hi)
        obtain ⟨c1, c2, c3⟩ := readH_word g
        have e1 : IntKind.i64.wrap ((i : Int) + 1) = ((i + 1 : Nat) : Int) := wsucc hi (by omega)
        rw [← e1] at ih
        have gi : getI ((l.map wordLH).map toB) (i : Int) = some (toB (wordLH l[i])) := by
          rw [getI_nat (show i < ((l.map wordLH).map toB).length by omega), List.getElem_map, List.getElem_map]
        have lt : (l.take i).length = i := by rw [List.length_take]; omega
        have et : l.take i ++ ([(⟨l[i].At, l[i].South⟩ : Hurdle)] : List Hurdle) = l.take (i + 1) := by
          rw [List.take_add_one, List.getElem?_eq_getElem hi]; rfl
        refine Ev.step (fun k => q1o.l1.eq_2 _ _ _ _) (Ev.pos (by omega) (Ev.bind (Ev.const gi) (Ev.bind (Ev.const c1) (Ev.bind (Ev.const c2) (Ev.bind (Ev.const c3) (Ev.bind (a := false) (Ev.neg (by simp) (Ev.neg (by cases l[i].South <;> simp) (Ev.const (by rw [lt, decide_eq_false (by omega)])))) (Ev.neg (by simp) (Ev.bind (Ev.const (chkX (by simp; omega))) ?_))))))))
        show Ev (fun k => q1o.l1 ((l.map wordLH).map toB) k (l.take i ++ ([(⟨l[i].At, l[i].South⟩ : Hurdle)] : List Hurdle)) (IntKind.i64.wrap ((i : Int) + 1))) (.inr l)
        rw [et]; exact ih
    have h0 := key 0 (Nat.zero_le _)
    exact Ev.neg hne (Ev.bind (Ev.const s2) (h0.bind (Ev.const rfl)))
end
section
variable {p q : Pasture} {a b T : List Spot} {W H : Nat}
theorem hasSpotB {xs : List Spot} {c : Spot} (hl : xs.length ≤ 1000) : Ev (fun k => q1h.f k xs c) (decide (c ∈ xs)) := by
 have key : ∀ i, i ≤ xs.length → ∃ r : Bool ⊕ Unit, Ev (fun k => q1h.l1 xs c k (i : Int)) r ∧ ((c ∈ xs.drop i ∧ r = .inl true) ∨ (c ∉ xs.drop i ∧ r = .inr ())) := by
   refine upL ?_ ?_
   · exact ⟨.inr (), Ev.step (fun k => q1h.l1.eq_2 _ _ _ _) (Ev.neg (by omega) (Ev.const rfl)), .inr ⟨by rw [List.drop_length]; simp, rfl⟩⟩
   · intro i hi ih
     obtain ⟨r, r1, r2⟩ := ih
     rw [← wsucc hi (by omega)] at r1
     rw [List.drop_eq_getElem_cons hi]
     by_cases e : xs[i] = c
     · exact ⟨.inl true, Ev.step (fun k => q1h.l1.eq_2 _ _ _ _) (Ev.pos (by omega) (Ev.bind (Ev.const (getI_nat hi)) (Ev.pos e (Ev.const rfl)))), .inl ⟨by rw [e]; exact List.mem_cons_self .., rfl⟩⟩
     · refine ⟨r, Ev.step (fun k => q1h.l1.eq_2 _ _ _ _) (Ev.pos (by omega) (Ev.bind (Ev.const (getI_nat hi)) (Ev.neg e r1))), ?_⟩
       rcases r2 with ⟨h1, h2⟩ | ⟨h1, h2⟩
       · exact .inl ⟨List.mem_cons_of_mem _ h1, h2⟩
       · exact .inr ⟨fun hm => (List.mem_cons.1 hm).elim (fun z => e z.symm) h1, h2⟩
 obtain ⟨r, r1, r2⟩ := key 0 (Nat.zero_le _)
 rw [List.drop_zero] at r2
 rcases r2 with ⟨h1, rfl⟩ | ⟨h1, rfl⟩
 ·rw [decide_eq_true h1]; exact r1.bind (Ev.const rfl)
 rw [decide_eq_false h1]; exact r1.bind (Ev.const rfl)
theorem sameSpots_ev {Y : List Spot} (hl : Y.length ≤ 1000) : Ev (fun k => q1d.f k Y Y) true := by
 have key : ∀ i, i ≤ Y.length → Ev (fun k => q1d.l1 Y Y k (i : Int)) (.inr ()) := by
   refine upL ?_ ?_
   · exact Ev.step (fun k => q1d.l1.eq_2 _ _ _ _) (Ev.neg (by omega) (Ev.const rfl))
   · intro i hi ih
     rw [← wsucc hi (by omega)] at ih
     exact Ev.step (fun k => q1d.l1.eq_2 _ _ _ _) (Ev.pos (by omega) (Ev.bind (Ev.const (getI_nat hi)) (Ev.bind (Ev.const (getI_nat hi)) (Ev.neg (by simp) ih))))
 exact Ev.neg (by simp) ((key 0 (Nat.zero_le _)).bind (Ev.const rfl))
theorem sameFence_ev {L : List Hurdle} (hl : L.length ≤ 1000) : Ev (fun k => q17.f k L L) true := by
 have key : ∀ i, i ≤ L.length → Ev (fun k => q17.l1 L L k (i : Int)) (.inr ()) := by
   refine upL ?_ ?_
   · exact Ev.step (fun k => q17.l1.eq_2 _ _ _ _) (Ev.neg (by omega) (Ev.const rfl))
   · intro i hi ih
     rw [← wsucc hi (by omega)] at ih
     exact Ev.step (fun k => q17.l1.eq_2 _ _ _ _) (Ev.pos (by omega) (Ev.bind (Ev.const (getI_nat hi)) (Ev.bind (Ev.const (getI_nat hi)) (Ev.neg (by simp) ih))))
 exact Ev.neg (by simp) ((key 0 (Nat.zero_le _)).bind (Ev.const rfl))
theorem sameWays_ev {L : List (List Spot)} (hl : L.length ≤ 1000) (hw : ∀ w ∈ L, w.length ≤ 1000) : Ev (fun k => q1w.f k L L) true := by
 have key : ∀ i, i ≤ L.length → Ev (fun k => q1w.l1 L L k (i : Int)) (.inr ()) := by
   refine upL ?_ ?_
   · exact Ev.step (fun k => q1w.l1.eq_2 _ _ _ _) (Ev.neg (by omega) (Ev.const rfl))
   · intro i hi ih
     rw [← wsucc hi (by omega)] at ih
     exact Ev.step (fun k => q1w.l1.eq_2 _ _ _ _) (Ev.pos (by omega) (Ev.bind (Ev.const (getI_nat hi)) (Ev.bind (Ev.const (getI_nat hi)) ((sameSpots_ev (hw _ (List.getElem_mem hi))).bind (Ev.neg (by simp) ih)))))
 exact Ev.neg (by simp) ((key 0 (Nat.zero_le _)).bind (Ev.const rfl))
theorem spots_loop {c : List Int} (hc : byteL c) (hW : p.Wide = (W : Int)) (hH : p.High = (H : Int)) (hW' : 1 ≤ W ∧ W ≤ 10) (hH' : 1 ≤ H ∧ H ≤ 10) : ∀ (n : Nat) (l : List Spot) (at_ seed : Int), n + l.length ≤ 10 → 0 ≤ at_ → at_ + 4 * (n : Int) ≤ 1000 → (∀ s ∈ l, ∃ x y : Nat, x < W ∧ y < H ∧ s = sp x y) →
 ∃ l' : List Spot, Ev (fun k => q1s.l1 c p k l (n : Int) at_ seed) l' ∧ (∀ s ∈ l', ∃ x y : Nat, x < W ∧ y < H ∧ s = sp x y) ∧ l'.length = n + l.length
  | 0, l, at_, seed, _, _, _, h => ⟨l, Ev.step (fun k => q1s.l1.eq_2 _ _ _ _ _ _ _) (Ev.neg (by omega) (Ev.const rfl)), h, by simp⟩
  | n + 1, l, at_, seed, hn, h0, h1, h => by
    obtain ⟨vx, a1, s1, e1, x0, x1, q1, q1'⟩ := pick_ok hc (seed := seed) h0 (by push_cast at h1; omega) (W : Int)
    obtain ⟨vy, a2, s2, e2, y0, y1, q2, q2'⟩ := pick_ok hc (at_ := a1) (seed := s1) (by omega) (by push_cast at h1; omega) (H : Int)
    obtain ⟨X, rfl⟩ := Int.eq_ofNat_of_zero_le x0
    obtain ⟨Y, rfl⟩ := Int.eq_ofNat_of_zero_le y0
    have eS : (⟨IntKind.i8.wrap (X : Int), IntKind.i8.wrap (Y : Int)⟩ : Spot) = sp X Y := by rw [w8 (x := (X : Int)) (by omega) (by omega), w8 (x := (Y : Int)) (by omega) (by omega)]; rfl
    obtain ⟨l', g1, g2, g3⟩ := spots_loop hc hW hH hW' hH' n (l ++ [sp X Y]) a2 s2 (by simp; omega) (by omega) (by push_cast at h1; omega) (fun s hs => by
      rcases List.mem_append.1 hs with hs | hs
      · exact h s hs
      · exact ⟨X, Y, by omega, by omega, List.mem_singleton.1 hs⟩)
    have en : IntKind.i64.wrap (((n + 1 : Nat) : Int) - 1) = (n : Int) := by rw [w64 (by omega) (by omega)]; omega
    rw [← en] at g1
    have f1 : q0t.f (⟨c, at_, seed⟩ : l00Src) (IntKind.i64.wrap p.Wide) = some ((X : Int), ⟨c, a1, s1⟩) := by rw [hW, w64 (by omega) (by omega)]; exact e1
    have f2 : q0t.f (⟨c, a1, s1⟩ : l00Src) (IntKind.i64.wrap p.High) = some ((Y : Int), ⟨c, a2, s2⟩) := by rw [hH, w64 (by omega) (by omega)]; exact e2
    refine ⟨l', Ev.step (fun k => q1s.l1.eq_2 _ _ _ _ _ _ _) (Ev.pos (by omega) (Ev.bind (Ev.const f1) (Ev.bind (Ev.const f2) (Ev.bind (Ev.const (chkT (by simp; omega))) ?_)))), g2, by rw [g3]; simp; omega⟩
    simp only [eS]
    exact g1
theorem spots_ev {c : List Int} (hc : byteL c) (hW : p.Wide = (W : Int)) (hH : p.High = (H : Int)) (hW' : 1 ≤ W ∧ W ≤ 10) (hH' : 1 ≤ H ∧ H ≤ 10) : ∃ l : List Spot, Ev (fun k => q1s.f k c p) l ∧ (∀ s ∈ l, ∃ x y : Nat, x < W ∧ y < H ∧ s = sp x y) ∧ l.length ≤ 4 := by
 obtain ⟨n, a1, s1, e1, n0, n1, q1, q1'⟩ := pick_ok hc (at_ := 0) (seed := 0) (by omega) (by omega) 5
 obtain ⟨m, rfl⟩ := Int.eq_ofNat_of_zero_le n0
 obtain ⟨l, g1, g2, g3⟩ := spots_loop hc hW hH hW' hH' m [] a1 s1 (by simp; omega) (by omega) (by omega) (fun s hs => by simp at hs)
 exact ⟨l, Ev.bind (a := (⟨c, 0, 0⟩ : l00Src)) (Ev.const rfl) (Ev.bind (Ev.const e1) (g1.bind (Ev.const rfl))), g2, by rw [g3]; simp; omega⟩
theorem others_ev {c : List Int} {L : List Spot} (h : Ev (fun k => q1s.f k c p) L) (hl : L.length ≤ 4) (ha : a.length ≤ 1000) : Ev (fun k => q1p.f k c p a) (L.filter fun s => !decide (s ∈ a)) := by
 have key : ∀ i, i ≤ L.length → ∀ acc : List Spot, acc.length ≤ i → Ev (fun k => q1p.l1 a L k acc (i : Int)) (acc ++ (L.drop i).filter fun s => !decide (s ∈ a)) := by
   refine upL ?_ ?_
   · intro acc hac
     exact Ev.step (fun k => q1p.l1.eq_2 _ _ _ _ _) (Ev.neg (by omega) (Ev.const (by rw [List.drop_length]; simp)))
   · intro i hi ih acc hac
     have g := getI_nat hi
     rw [List.drop_eq_getElem_cons hi, List.filter_cons]
     have hb := hasSpotB (c := L[i]) ha
     have hw := wsucc hi (by omega)
     by_cases c : L[i] ∈ a
     · have k := ih acc (by omega)
       rw [← hw] at k
       rw [decide_eq_true c] at hb ⊢
       exact Ev.step (fun k => q1p.l1.eq_2 _ _ _ _ _) (Ev.pos (by omega) (Ev.bind (Ev.const g) (hb.bind (Ev.neg (by simp) (by simpa using k)))))
     · have k := ih (acc ++ [L[i]]) (by simp; omega)
       rw [← hw, List.append_assoc] at k
       rw [decide_eq_false c] at hb ⊢
       exact Ev.step (fun k => q1p.l1.eq_2 _ _ _ _ _) (Ev.pos (by omega) (Ev.bind (Ev.const g) (hb.bind (Ev.pos rfl (Ev.bind (Ev.const g) (Ev.bind (Ev.const (chkT (by simp; omega))) (by simpa using k)))))))
 have := key 0 (Nat.zero_le _) [] (by simp)
 rw [List.nil_append, List.drop_zero] at this
 exact h.bind (this.bind (Ev.const rfl))
theorem own_loop {L : List Spot} (hT : ∀ s ∈ L, s ∈ T) (hl : L.length ≤ 1000) (hTl : T.length ≤ 1000) (r : Int) : Ev (fun k => q0o.l1 L (T, r) k 0) (.inr ()) := by
 have key : ∀ i, i ≤ L.length → Ev (fun k => q0o.l1 L (T, r) k (i : Int)) (.inr ()) := by
   refine upL ?_ ?_
   · exact Ev.step (fun k => q0o.l1.eq_2 _ _ _ _) (Ev.neg (by omega) (Ev.const rfl))
   · intro i hi ih
     rw [← wsucc hi (by omega)] at ih
     have hb := hasSpotB (c := L[i]) hTl
     rw [decide_eq_true (hT _ (List.getElem_mem hi))] at hb
     exact Ev.step (fun k => q0o.l1.eq_2 _ _ _ _) (Ev.pos (by omega) (Ev.bind (Ev.const (getI_nat hi)) (hb.bind (Ev.neg (by simp) ih))))
 exact key 0 (Nat.zero_le _)
theorem far_loop {L : List Spot} (hT : ∀ s ∈ L, s ∉ T) (hl : L.length ≤ 1000) (hTl : T.length ≤ 1000) (r : Int) : Ev (fun k => q0o.l2 L (T, r) k 0) (.inr ()) := by
 have key : ∀ i, i ≤ L.length → Ev (fun k => q0o.l2 L (T, r) k (i : Int)) (.inr ()) := by
   refine upL ?_ ?_
   · exact Ev.step (fun k => q0o.l2.eq_2 _ _ _ _) (Ev.neg (by omega) (Ev.const rfl))
   · intro i hi ih
     rw [← wsucc hi (by omega)] at ih
     have hb := hasSpotB (c := L[i]) hTl
     rw [decide_eq_false (hT _ (List.getElem_mem hi))] at hb
     exact Ev.step (fun k => q0o.l2.eq_2 _ _ _ _) (Ev.pos (by omega) (Ev.bind (Ev.const (getI_nat hi)) (hb.bind (Ev.neg (by simp) ih))))
 exact key 0 (Nat.zero_le _)
theorem less_loop (h : Pt p a b) (k : Lc p a b T) (hn : (OSd p T).length ≤ 1000) (r : Int) : Ev (fun j => q0o.l3 p a b (OSd p T, r) j 0) (.inr ()) := by
 have key : ∀ i, i ≤ (OSd p T).length → Ev (fun j => q0o.l3 p a b (OSd p T, r) j (i : Int)) (.inr ()) := by
   refine upL ?_ ?_
   · exact Ev.step (fun j => q0o.l3.eq_2 _ _ _ _ _ _) (Ev.neg (show ¬ (((OSd p T).length : Nat) : Int) < ((OSd p T).length : Int) by omega) (Ev.const rfl))
   · intro i hi ih
     have hw1 : IntKind.i64.wrap ((i : Int) + 1) = ((i + 1 : Nat) : Int) := wsucc hi (by omega)
     rw [← hw1] at ih
     have el : (([] : List Hurdle) ++ (((OSd p T).drop 0).take ((i : Int).toNat - 0))) ++ (((OSd p T).drop ((IntKind.i64.wrap ((i : Int) + 1)).toNat)).take ((OSd p T).length - ((IntKind.i64.wrap ((i : Int) + 1)).toNat))) = (OSd p T).take i ++ (OSd p T).drop (i + 1) := by
       rw [hw1, Int.toNat_natCast, Int.toNat_natCast, List.nil_append, List.drop_zero, Nat.sub_zero, List.take_of_length_le (l := (OSd p T).drop (i + 1)) (by rw [List.length_drop]; exact Nat.le_refl _)]
     have hc := check_less h k (l := (OSd p T).take i ++ (OSd p T).drop (i + 1)) (fun g hg => by
       rcases List.mem_append.1 hg with hg | hg
       · exact OS_told g (List.mem_of_mem_take hg)
       · exact OS_told g (List.mem_of_mem_drop hg)) (by rw [List.length_append, List.length_take, List.length_drop]; omega)
     refine Ev.step (fun j => q0o.l3.eq_2 _ _ _ _ _ _) (Ev.pos (show (i : Int) < ((OSd p T).length : Int) by omega) (Ev.bind (Ev.const (chkT (show (0 : Int) ≤ 0 ∧ 0 ≤ (i : Int) ∧ (i : Int) ≤ ((OSd p T).length : Int) by omega))) (Ev.bind (Ev.const (chkT (show (0 : Int) ≤ (IntKind.i64.wrap ((i : Int) + 1)) ∧ (IntKind.i64.wrap ((i : Int) + 1)) ≤ ((OSd p T).length : Int) ∧ ((OSd p T).length : Int) ≤ ((OSd p T).length : Int) by rw [hw1]; omega))) (Ev.bind (Ev.const (chkT (by rw [List.length_take]; simp; omega))) (Ev.bind (Ev.const (chkT (by simp only [List.length_append, List.length_take, List.length_nil]; omega))) ?_)))))
     show Ev (fun j => (q28.f j p a b ((([] : List Hurdle) ++ (((OSd p T).drop 0).take ((i : Int).toNat - 0))) ++ (((OSd p T).drop ((IntKind.i64.wrap ((i : Int) + 1)).toNat)).take ((OSd p T).length - ((IntKind.i64.wrap ((i : Int) + 1)).toNat))))).bind _) _
     rw [el]
     exact hc.bind (Ev.neg (by simp) (Ev.neg (by simp) (Ev.bind (Ev.const (getI_nat hi)) ((valid_told h.v h.ok (OS_told _ (List.getElem_mem hi))).bind (Ev.neg (by simp) ih)))))
 exact key 0 (Nat.zero_le _)
theorem FnParted.pure (x0 : List Int) (hv0 : ∀ x ∈ x0, (inI .u8) x) (hb0 : x0.length * 1 ≤ 140737488351232) (x1 : List Int) (hv1 : ∀ x ∈ x1, (inI .u8) x) (hb1 : x1.length * 1 ≤ 140737488351232) : ∃ k, q0o.f k x0 x1 = some true := by
  refine Ev.get (r := true) ?_
  have b0 : q3a.f x0 = some (decide (4096 < (x0.length : Int))) := rfl
  have b1 : q3a.f x1 = some (decide (4096 < (x1.length : Int))) := rfl
  by_cases h0 : 4096 < (x0.length : Int)
  · exact Ev.bind (a := true) (Ev.bind (Ev.const b0) (Ev.pos (decide_eq_true h0) (Ev.const rfl))) (Ev.pos rfl (Ev.const rfl))
  by_cases h1 : 4096 < (x1.length : Int)
  · exact Ev.bind (a := true) (Ev.bind (Ev.const b0) (Ev.neg (by simpa using h0) (Ev.bind (Ev.const b1) (Ev.const (by rw [decide_eq_true h1]))))) (Ev.pos rfl (Ev.const rfl))
  refine Ev.bind (a := false) (Ev.bind (Ev.const b0) (Ev.neg (by simpa using h0) (Ev.bind (Ev.const b1) (Ev.const (by rw [decide_eq_false h1]))))) (Ev.neg (by simp) ?_)
  obtain ⟨W, H, p, hW5, hH5, dr, ep⟩ := pasture_ev (byteL_of hv0)
  have hW : 1 ≤ W ∧ W ≤ 10 := by omega
  have hH : 1 ≤ H ∧ H ≤ 10 := by omega
  have hc1 := byteL_of hv1
  have hc2 : byteL (([5] : List Int) ++ x1) := fun z hz => by
    rcases List.mem_append.1 hz with hz | hz
    · rw [List.mem_singleton.1 hz]; omega
    · exact hc1 z hz
  have v := dr.V hW.2 hH.2
  have hp := dr.ok hW hH
  have hw := vP_okW hp
  have eW : p.Wide.toNat = W := by rw [dr.w]; omega
  have eH : p.High.toNat = H := by rw [dr.h]; omega
  obtain ⟨a, ea, a1, a2⟩ := spots_ev hc1 dr.w dr.h hW hH
  obtain ⟨L, eL, L1, L2⟩ := spots_ev hc2 dr.w dr.h hW hH
  have eb := others_ev (a := a) eL L2 (by omega)
  have hbl : (L.filter fun s => !decide (s ∈ a)).length ≤ 4 := Nat.le_trans (List.length_filter_le _ _) L2
  have hb : ∀ s ∈ L.filter (fun s => !decide (s ∈ a)), s ∈ L ∧ s ∉ a := fun s hs => by
    rw [List.mem_filter] at hs; simpa using hs
  generalize L.filter (fun s => !decide (s ∈ a)) = b at eb hbl hb
  have hpt : Pt p a b := ⟨v, hp, fun s hs => by rw [eW, eH]; exact a1 s hs, fun s hs => by rw [eW, eH]; exact L1 s (hb s hs).1, by omega, by omega, fun s hs hs' => (hb s hs').2 hs⟩
  obtain ⟨T, k, n1, n2, n3, n4⟩ := part_ev hpt
  obtain ⟨T', k', _, _, t3, _⟩ := part_ev hpt.swap
  obtain ⟨ws, m, ml, u1, u2⟩ := waysApart_ev hpt k
  have hdl := k.len hpt
  have hTl : T.length ≤ 100 := inP_len hw k.cells (nodup_bef k.srt)
  have hgood : ∀ g ∈ OSd p T, goodH g := fun g hg => told_good hw (OS_told g hg)
  obtain ⟨m1, m2⟩ := m.all hpt
  have cd := check_due hpt k
  have cw := checkWays_ev hpt m (by omega)
  have ft := fence_text (l := OSd p T) (by omega) hgood
  have fr := fence_read (l := OSd p T) (by omega) hgood
  have sF : Ev (fun j => q17.f j (OSd p T) (OSd p T)) true := sameFence_ev (by omega)
  have sS : Ev (fun j => q1d.f j T T) true := sameSpots_ev (by omega)
  have sW : Ev (fun j => q1w.f j ws ws) true := sameWays_ev (by omega) fun w hw => by have := (m1 w hw).2.2; omega
  have oT := implOpen2_ev v hp k.cells (by omega)
  rw [ord_id k.srt] at oT
  have oa := implOpen2_ev v hp hpt.ia (by omega)
  have hol := k.open_ hpt
  have hturn : (OSd p T').length = (OSd p T).length := by
    have := k.turn hpt k'
    have := k'.turn hpt.swap k
    omega
  have ad := addH_ev v hp (OS_told (p := p) (T := T)) (by omega)
  have tk := takeH_ev v hp (l := OSd p T) (fun g hg => ⟨(OS_mem.1 hg).1, (OS_mem.1 hg).2.2⟩) (by omega)
  refine ep.bind (ea.bind (Ev.bind (Ev.const (chkT (by simp; omega))) (eb.bind (n3.bind (n4.bind (n1.bind (n2.bind (u1.bind (u2.bind (cd.bind (cw.bind (ft.bind (fr.bind ?_)))))))))))))
  refine Ev.bind (a := false) (Ev.neg (by simp) (Ev.neg (by simp) (sF.bind (Ev.neg (by simp) (Ev.neg (by simp) (Ev.neg (by simp) (sS.bind (Ev.neg (by simp) (Ev.neg (by simp) (Ev.neg (by simp) (sW.bind (Ev.neg (by simp) (Ev.neg (by simp) (Ev.neg (by simp) (Ev.neg (by simp) (Ev.neg (by simp) (Ev.neg (by simp) (sF.bind (Ev.neg (by simp) (Ev.const ?_)))))))))))))))))))) (Ev.neg (by simp) ?_)
  · rw [decide_eq_false (show ¬ ((OSd p T).length : Int) < (ws.length : Int) by omega)]
  have hnone : ws = [] → OSd p T = [] := fun e => by rw [e] at m; exact m.no hpt k
  refine oT.bind (Ev.bind (a := false) (Ev.neg (by simp) (sF.bind (Ev.neg (by simp) ?_))) (Ev.neg (by simp) ?_))
  · by_cases c : 0 < ((OSd p T).length : Int)
    · refine Ev.pos c (Ev.const ?_)
      rw [decide_eq_false]
      intro e
      have e : (ws.length : Int) = 0 := e
      have : ws = [] := List.eq_nil_of_length_eq_zero (by omega)
      rw [hnone this] at c; simp at c
    · exact Ev.neg c (Ev.const rfl)
  refine (own_loop k.own (by omega) (by omega) 0).bind ((far_loop k.far (by omega) (by omega) 0).bind ((less_loop hpt k (by omega) 0).bind (t3.bind (oa.bind (ad.bind (tk.bind ?_))))))
  refine Ev.bind (a := false) (Ev.neg (by simp) (Ev.neg (show ¬ ((OSd p T').length : Int) ≠ ((OSd p T).length : Int) from fun h => h (by omega)) (Ev.neg (by simp) (Ev.neg (by show ¬ ((OSd p (ord a)).length : Int) < ((OSd p T).length : Int); omega) (Ev.neg (by simp) (Ev.neg (by simp) (Ev.const (by simp)))))))) (Ev.neg (by simp) ?_)
  cases hws : ws with
  | nil => exact Ev.pos (by simp) (Ev.const rfl)
  | cons w ws' =>
    rw [hws] at m ml m1
    have tw := checkTwice_ev hpt m (by omega)
    exact Ev.neg (by rw [List.length_cons]; omega) (Ev.bind (Ev.const (show getI (w :: ws') 0 = some w from rfl)) (Ev.bind (Ev.const (chkT (by simp at ml ⊢; omega))) (Ev.bind (Ev.const (chkT (by simp at ml ⊢; omega))) (tw.bind (Ev.pos rfl (Ev.const rfl))))))
end
end Go.Proofs.YtegibnmfiogebaaGreatDoor
