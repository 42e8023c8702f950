import Derived.Test.YtloljfkfnpgjfaaGreatD2
import Derived.Test.YtloljfkfnpgjfaaGreatW4
import Derived.Test.YtloljfkfnpgjfaaGreatSD
import Derived.Test.YtloljfkfnpgjfaaGreatQYw
import Derived.Test.YtloljfkfnpgjfaaGreatQG
/-
  Plain laws that are shared: steps told by cells, hurdles put or taken away, yards in order.
-/
namespace Go.Proofs.YtloljfkfnpgjfaaGreat
open G
set_option linter.unusedVariables false
set_option linter.unusedSimpArgs false
variable {W H : Nat} {p q : Pasture} {Gr : Nat → Nat → Int} {E S E' S' : Nat → Nat → Bool}
/-- A step, told by cells. -/
def stepT (W H : Nat) (E S : Nat → Nat → Bool) (y x y' x' : Nat) : Prop := (y' = y ∧ x' = x + 1 ∧ x + 1 < W ∧ E y x = false) ∨ (y' = y + 1 ∧ x' = x ∧ y + 1 < H ∧ S y x = false) ∨ (y' = y ∧ x' + 1 = x ∧ E y x' = false) ∨ (x' = x ∧ y' + 1 = y ∧ S y' x = false)
theorem nx3z (y : Nat) : nx (sp 0 y) 3 = ⟨-1, (y : Int)⟩ := by
  unfold nx sp; simp; rw [w8 (by omega) (by omega)]
theorem nx0z (x : Nat) : nx (sp x 0) 0 = ⟨(x : Int), -1⟩ := by
  unfold nx sp; simp; rw [w8 (by omega) (by omega)]
theorem open_cell {x y i : Nat} (h : openB p x y i = true) : cellB p (nx (sp x y) i).X (nx (sp x y) i).Y = true := by
  unfold openB at h
  rw [Bool.and_eq_true] at h
  exact h.1
theorem PD.step (h : PD W H Gr E S p) (hW : W ≤ 10) (hH : H ≤ 10) {y x y' x' : Nat} (hx : x < W) (hy : y < H) : stepP p y x y' x' ↔ stepT W H E S y x y' x' := by
  constructor
  · rintro ⟨h1, h2, i, hi, ho, e⟩
    have hc := open_cell ho
    rcases (show i = 0 ∨ i = 1 ∨ i = 2 ∨ i = 3 by omega) with rfl | rfl | rfl | rfl
    · rcases Nat.eq_zero_or_pos y with rfl | hp
      · have e : nx (sp x 0) 0 = sp x' y' := e
        rw [nx0z] at e
        have := congrArg Spot.Y e
        have : (-1 : Int) = (y' : Int) := this
        omega
      · have e : nx (sp x y) 0 = sp x' y' := e
        rw [nx0 hp (by omega)] at e
        obtain ⟨e1, e2⟩ := sp_inj' e
        have ho2 := open0 h.w h.h hW hH hp hx hy
        rw [ho, h.eS hW hH hx (by omega)] at ho2
        refine .inr (.inr (.inr ⟨e1.symm, by omega, ?_⟩))
        rw [show y' = y - 1 by omega, ← ho2]; rfl
    · have e : nx (sp x y) 1 = sp x' y' := e
      have hc : cellB p (nx (sp x y) 1).X (nx (sp x y) 1).Y = true := hc
      rw [nx1 (by omega)] at e hc
      rw [h.cell, decide_eq_true_eq] at hc
      obtain ⟨e1, e2⟩ := sp_inj' e
      have ho2 := open1 h.w h.h hW hH hc.1 hy
      rw [ho, h.eE hW hH hc.1 hy] at ho2
      exact .inl ⟨e2.symm, e1.symm, hc.1, ho2.symm⟩
    · have e : nx (sp x y) 2 = sp x' y' := e
      have hc : cellB p (nx (sp x y) 2).X (nx (sp x y) 2).Y = true := hc
      rw [nx2 (by omega)] at e hc
      rw [h.cell, decide_eq_true_eq] at hc
      obtain ⟨e1, e2⟩ := sp_inj' e
      have ho2 := open2 h.w h.h hW hH hx hc.2
      rw [ho, h.eS hW hH hx hc.2] at ho2
      exact .inr (.inl ⟨e2.symm, e1.symm, hc.2, ho2.symm⟩)
    · rcases Nat.eq_zero_or_pos x with rfl | hp
      · have e : nx (sp 0 y) 3 = sp x' y' := e
        rw [nx3z] at e
        have := congrArg Spot.X e
        have : (-1 : Int) = (x' : Int) := this
        omega
      · have e : nx (sp x y) 3 = sp x' y' := e
        rw [nx3 hp (by omega)] at e
        obtain ⟨e1, e2⟩ := sp_inj' e
        have ho2 := open3 h.w h.h hW hH hp hx hy
        rw [ho, h.eE hW hH (by omega) hy] at ho2
        refine .inr (.inr (.inl ⟨e2.symm, by omega, ?_⟩))
        rw [show x' = x - 1 by omega, ← ho2]; rfl
  · rintro (⟨rfl, rfl, c, o⟩ | ⟨rfl, rfl, c, o⟩ | ⟨rfl, rfl, o⟩ | ⟨rfl, rfl, o⟩)
    · have ho := open1 h.w h.h hW hH c hy
      rw [h.eE hW hH c hy, o] at ho
      exact ⟨by omega, by omega, 1, by omega, by simpa using ho, nx1 (by omega)⟩
    · have ho := open2 h.w h.h hW hH hx c
      rw [h.eS hW hH hx c, o] at ho
      exact ⟨by omega, by omega, 2, by omega, by simpa using ho, nx2 (by omega)⟩
    · have ho := open3 h.w h.h hW hH (x := x' + 1) (by omega) hx hy
      rw [Nat.add_sub_cancel, h.eE hW hH hx hy, o] at ho
      exact ⟨by omega, by omega, 3, by omega, by simpa using ho, nx3 (x := x' + 1) (by omega) (by omega)⟩
    · have ho := open0 h.w h.h hW hH (y := y' + 1) (by omega) hx hy
      rw [Nat.add_sub_cancel, h.eS hW hH hx hy, o] at ho
      exact ⟨by omega, by omega, 0, by omega, by simpa using ho, nx0 (y := y' + 1) (by omega) (by omega)⟩
/-- A hurdle that lies between two cells. -/
def inW (W H : Nat) (h : Hurdle) : Prop := ∃ (x y : Nat) (s : Bool), h = hu x y s ∧ x < 10 ∧ y < 10 ∧ if s = true then x < W ∧ y + 1 < H else x + 1 < W ∧ y < H
theorem hu_inj {x y x' y' : Nat} {s s' : Bool} (h : hu x y s = hu x' y' s') : x = x' ∧ y = y' ∧ s = s' := by
  unfold hu at h
  obtain ⟨h1, h2⟩ := Hurdle.mk.inj h
  obtain ⟨a, b⟩ := sp_inj' h1
  exact ⟨a, b, h2⟩
theorem with_loop (on : Bool) {L : List Hurdle} (hl : L.length ≤ 1000) (hL : ∀ h ∈ L, inW W H h) : ∀ i, i ≤ L.length → ∀ (p : Pasture) (E S : Nat → Nat → Bool), PD W H Gr E S p → ∃ q, Ev (fun k => impl_Pasture_with.l1 L on k p (i : Int)) q ∧ PD W H Gr (fun y x => if hu x y false ∈ L.drop i then on else E y x) (fun y x => if hu x y true ∈ L.drop i then on else S y x) q := by
  refine upL ?_ ?_
  · intro p E S h
    refine ⟨p, Ev.step (fun k => impl_Pasture_with.l1.eq_2 _ _ _ _ _) (Ev.neg (by omega) (Ev.const rfl)), h.congr (fun _ _ _ _ => rfl) (fun y x _ _ => ?_) (fun y x _ _ => ?_)⟩
    · rw [List.drop_length, if_neg (by simp)]
    · rw [List.drop_length, if_neg (by simp)]
  · intro i hi ih p E S h
    obtain ⟨x, y, s, e, hx, hy, hd⟩ := hL _ (List.getElem_mem hi)
    have h1 := h.put hx hy s on (fun _ => hd)
    obtain ⟨q, q1, q2⟩ := ih _ _ _ h1
    rw [← wsucc hi (by omega)] at q1
    have hg : getI L (i : Int) = some (hu x y s) := by rw [getI_nat hi, e]
    refine ⟨q, Ev.step (fun k => impl_Pasture_with.l1.eq_2 _ _ _ _ _) (Ev.pos (by omega) (Ev.bind (Ev.const hg) (Ev.bind (Ev.const (putI_eq p hx hy s on)) q1))), q2.congr (fun _ _ _ _ => rfl) (fun b a _ _ => ?_) (fun b a _ _ => ?_)⟩
    · rw [List.drop_eq_getElem_cons hi, e]
      by_cases c : hu a b false ∈ L.drop (i + 1)
      · rw [if_pos c, if_pos (List.mem_cons_of_mem _ c)]
      · rw [if_neg c]
        cases s
        · simp only [Bool.false_eq_true, if_false]
          unfold upd
          by_cases z : b = y ∧ a = x
          · obtain ⟨rfl, rfl⟩ := z
            rw [if_pos ⟨rfl, rfl⟩, if_pos (List.mem_cons.2 (.inl rfl))]
          · rw [if_neg z, if_neg]
            rw [List.mem_cons]
            rintro (k | k)
            · obtain ⟨k1, k2, _⟩ := hu_inj k
              exact z ⟨k2, k1⟩
            · exact c k
        · simp only [if_true]
          rw [if_neg]
          rw [List.mem_cons]
          rintro (k | k)
          · obtain ⟨_, _, k3⟩ := hu_inj k; cases k3
          · exact c k
    · rw [List.drop_eq_getElem_cons hi, e]
      by_cases c : hu a b true ∈ L.drop (i + 1)
      · rw [if_pos c, if_pos (List.mem_cons_of_mem _ c)]
      · rw [if_neg c]
        cases s
        · simp only [Bool.false_eq_true, if_false]
          rw [if_neg]
          rw [List.mem_cons]
          rintro (k | k)
          · obtain ⟨_, _, k3⟩ := hu_inj k; cases k3
          · exact c k
        · simp only [if_true]
          unfold upd
          by_cases z : b = y ∧ a = x
          · obtain ⟨rfl, rfl⟩ := z
            rw [if_pos ⟨rfl, rfl⟩, if_pos (List.mem_cons.2 (.inl rfl))]
          · rw [if_neg z, if_neg]
            rw [List.mem_cons]
            rintro (k | k)
            · obtain ⟨k1, k2, _⟩ := hu_inj k
              exact z ⟨k2, k1⟩
            · exact c k
theorem with_ev (on : Bool) {L : List Hurdle} (hl : L.length ≤ 1000) (hL : ∀ h ∈ L, inW W H h) (h : PD W H Gr E S p) : ∃ q, Ev (fun k => impl_Pasture_with.f k p L on) q ∧ PD W H Gr (fun y x => if hu x y false ∈ L then on else E y x) (fun y x => if hu x y true ∈ L then on else S y x) q := by
  obtain ⟨q, q1, q2⟩ := with_loop on hl hL 0 (Nat.zero_le _) p E S h
  rw [List.drop_zero] at q2
  exact ⟨q, q1.bind (Ev.const rfl), q2⟩
theorem rowH_mem {p : Pasture} {y x0 : Nat} {h : Hurdle} (hh : h ∈ cellH p x0 y) : ∀ n x, x ≤ x0 → x0 < x + n → h ∈ rowH p y x n
  | 0, x, h1, h2 => by omega
  | n + 1, x, h1, h2 => by
    unfold rowH
    by_cases c : x = x0
    · subst c; exact List.mem_append.2 (.inl hh)
    · exact List.mem_append.2 (.inr (rowH_mem hh n (x + 1) (by omega) (by omega)))
theorem gridH_mem {p : Pasture} {W x0 y0 : Nat} {h : Hurdle} (hh : h ∈ cellH p x0 y0) (hx : x0 < W) : ∀ n y, y ≤ y0 → y0 < y + n → h ∈ gridH p W y n
  | 0, y, h1, h2 => by omega
  | n + 1, y, h1, h2 => by
    unfold gridH
    by_cases c : y = y0
    · subst c; exact List.mem_append.2 (.inl (rowH_mem hh W 0 (Nat.zero_le _) (by omega)))
    · exact List.mem_append.2 (.inr (gridH_mem hh hx n (y + 1) (by omega) (by omega)))
theorem PD.isBe (h : PD W H Gr E S p) (hW : W ≤ 10) (hH : H ≤ 10) {x y : Nat} (hx : x < W) (hy : y < H) : isB p x y false = decide (x + 1 < W) := by
  show cellB p (nx (sp x y) (1 : Int)).X (nx (sp x y) (1 : Int)).Y = _
  rw [nx1 (by omega), h.cell]
  exact decide_eq_decide.2 ⟨fun z => z.1, fun z => ⟨z, hy⟩⟩
theorem PD.isBs (h : PD W H Gr E S p) (hW : W ≤ 10) (hH : H ≤ 10) {x y : Nat} (hx : x < W) (hy : y < H) : isB p x y true = decide (y + 1 < H) := by
  show cellB p (nx (sp x y) (2 : Int)).X (nx (sp x y) (2 : Int)).Y = _
  rw [nx2 (by omega), h.cell]
  exact decide_eq_decide.2 ⟨fun z => z.2, fun z => ⟨hx, z⟩⟩
end Go.Proofs.YtloljfkfnpgjfaaGreat
/-
  Plain law: what is connected; the search and the yards, told by it.
-/
namespace Go.Proofs.YtloljfkfnpgjfaaGreat
open G
set_option linter.unusedVariables false
set_option linter.unusedSimpArgs false
variable {W H : Nat} {p q : Pasture} {Gr : Nat → Nat → Int} {E S E' S' : Nat → Nat → Bool} {y x b a d c y' x' : Nat}
/-- A cell is reached from another one. -/
def Rt (W H : Nat) (E S : Nat → Nat → Bool) (y x b a : Nat) : Prop := ∀ T : Nat → Nat → Prop, (∀ y x y' x', x < W → y < H → T y x → stepT W H E S y x y' x' → T y' x') → T y x → T b a
theorem Rt.refl : Rt W H E S y x y x := fun T _ h => h
theorem Rt.trans (h : Rt W H E S y x b a) (k : Rt W H E S b a d c) : Rt W H E S y x d c := fun T hT h0 => k T hT (h T hT h0)
theorem Rt.step (hx : x < W) (hy : y < H) (s : stepT W H E S y x y' x') : Rt W H E S y x y' x' := fun T hT h0 => hT y x y' x' hx hy h0 s
theorem stepT.in_ (hx : x < W) (hy : y < H) (s : stepT W H E S y x y' x') : x' < W ∧ y' < H := by
  rcases s with ⟨rfl, rfl, c, o⟩ | ⟨rfl, rfl, c, o⟩ | ⟨rfl, rfl, o⟩ | ⟨rfl, rfl, o⟩ <;> omega
theorem stepT.symm (hx : x < W) (hy : y < H) (s : stepT W H E S y x y' x') : stepT W H E S y' x' y x := by
  rcases s with ⟨rfl, rfl, c, o⟩ | ⟨rfl, rfl, c, o⟩ | ⟨rfl, rfl, o⟩ | ⟨rfl, rfl, o⟩
  · exact .inr (.inr (.inl ⟨rfl, rfl, o⟩))
  · exact .inr (.inr (.inr ⟨rfl, rfl, o⟩))
  · exact .inl ⟨rfl, rfl, hx, o⟩
  · exact .inr (.inl ⟨rfl, rfl, hy, o⟩)
theorem Rt.in_ (hx : x < W) (hy : y < H) (h : Rt W H E S y x b a) : a < W ∧ b < H := h (fun b a => a < W ∧ b < H) (fun _ _ _ _ h1 h2 _ s => s.in_ h1 h2) ⟨hx, hy⟩
/-- What each step of one keeps in the other. -/
theorem Rt.lift (hx : x < W) (hy : y < H) (hm : ∀ y x y' x', x < W → y < H → stepT W H E S y x y' x' → Rt W H E' S' y x y' x') (h : Rt W H E S y x b a) : Rt W H E' S' y x b a :=
  h (fun b a => Rt W H E' S' y x b a) (fun y1 x1 y2 x2 h1 h2 h3 s => h3.trans (hm y1 x1 y2 x2 h1 h2 s)) Rt.refl
theorem Rt.symm (hx : x < W) (hy : y < H) (h : Rt W H E S y x b a) : Rt W H E S b a y x :=
  (h (fun b a => (a < W ∧ b < H) ∧ Rt W H E S b a y x) (fun y1 x1 y2 x2 h1 h2 h3 s => ⟨s.in_ h1 h2, (Rt.step (s.in_ h1 h2).1 (s.in_ h1 h2).2 (s.symm h1 h2)).trans h3.2⟩) ⟨⟨hx, hy⟩, Rt.refl⟩).2
/-- The search from a cell. -/
theorem far_rt (h : PD W H Gr E S p) (hG : ∀ y x, x < W → y < H → 0 ≤ Gr y x ∧ Gr y x ≤ 1000) (hW : 1 ≤ W ∧ W ≤ 10) (hH : 1 ≤ H ∧ H ≤ 10) (hx : x < W) (hy : y < H) : ∃ m n : Tb, Ev (fun k => impl_Pasture_far.f k p ([sp x y] : List Spot)) m ∧ Ev (fun k => spec_l01Steps.f k p (sp x y)) n ∧ (∀ b a, b < 10 → a < 10 → g2 n b a = g2 m b a + 1 ∧ -1 ≤ g2 m b a ∧ g2 m b a ≤ 101) ∧ ∀ b a, b < H → a < W → (0 ≤ g2 m b a ↔ Rt W H E S y x b a) := by
  have v := h.V hW.2 hH.2 hG
  have hw := vP_okW (h.ok hW hH hG)
  obtain ⟨m, n, e1, e2, d, hm⟩ := farD_ev v hw (x := x) (y := y) (by omega) (by omega)
  refine ⟨m, n, e1, e2, hm, fun b a hb ha => ⟨fun h0 => ?_, fun hr => ?_⟩⟩
  · have key : ∀ (k b a : Nat), b < 10 → a < 10 → g2 m b a = (k : Int) → Rt W H E S y x b a ∧ a < W ∧ b < H := by
      intro k
      induction k with
      | zero =>
        intro b a hb ha e
        obtain ⟨rfl, rfl⟩ := d.one b a hb ha e
        exact ⟨Rt.refl, hx, hy⟩
      | succ k ih =>
        intro b a hb ha e
        obtain ⟨y1, x1, h1, h2, h3, h4, h5⟩ := d.pre b a hb ha (by omega)
        obtain ⟨i1, i2, i3⟩ := ih y1 x1 h1 h2 (by push_cast at e; omega)
        have s := (h.step hW.2 hH.2 i2 i3).1 h3
        exact ⟨i1.trans (Rt.step i2 i3 s), s.in_ i2 i3⟩
    obtain ⟨k, hk⟩ := Int.eq_ofNat_of_zero_le h0
    exact (key k b a (by omega) (by omega) hk).1
  · exact hr (fun b a => 0 ≤ g2 m b a) (fun y1 x1 y2 x2 h1 h2 h3 s => (d.rel y1 x1 y2 x2 (by omega) (by omega) h3 ((h.step hW.2 hH.2 h1 h2).2 s)).1) (by show 0 ≤ g2 m y x; rw [d.zero]; omega)
/-- The yard of a cell. -/
theorem yard_rt (h : PD W H Gr E S p) (hG : ∀ y x, x < W → y < H → 0 ≤ Gr y x ∧ Gr y x ≤ 1000) (hW : 1 ≤ W ∧ W ≤ 10) (hH : 1 ≤ H ∧ H ≤ 10) (hx : x < W) (hy : y < H) : ∃ Y : List Spot, isYard p Y ∧ (∀ b a, b < H → a < W → (sp a b ∈ Y ↔ Rt W H E S y x b a)) ∧ Ev (fun k => spec_l01Yard.f k p (sp x y)) Y ∧ Ev (fun k => impl_Pasture_yard.f k p (sp x y)) Y := by
  have v := h.V hW.2 hH.2 hG
  have hw := vP_okW (h.ok hW hH hG)
  have eW : p.Wide.toNat = W := by rw [h.w]; omega
  have eH : p.High.toNat = H := by rw [h.h]; omega
  obtain ⟨Y, y1, y2, y3, y4, y5, y6⟩ := yard2_ev v hw (x := x) (y := y) (by omega) (by omega)
  refine ⟨Y, y1, fun b a hb ha => ⟨fun hm => ?_, fun hr => ?_⟩, y5, y6⟩
  · refine (y4 (fun b a => (a < W ∧ b < H) ∧ Rt W H E S y x b a) (fun y1 x1 y2 x2 h1 h2 h3 s => ?_) ⟨⟨hx, hy⟩, Rt.refl⟩ b a (by omega) (by omega) hm).2
    have s := (h.step hW.2 hH.2 h3.1.1 h3.1.2).1 s
    exact ⟨s.in_ h3.1.1 h3.1.2, h3.2.trans (Rt.step h3.1.1 h3.1.2 s)⟩
  · exact hr (fun b a => sp a b ∈ Y) (fun d1 c1 d2 c2 h1 h2 h3 s => y2 d1 c1 d2 c2 (by omega) (by omega) h3 ((h.step hW.2 hH.2 h1 h2).2 s)) y3
/-- A table that numbers what is connected, from 1 to n. -/
structure NT (W H : Nat) (E S : Nat → Nat → Bool) (tab : Tb) (n : Nat) : Prop where
  pos : ∀ y x, x < W → y < H → 1 ≤ g2 tab y x ∧ g2 tab y x ≤ n
  eq : ∀ y x b a, x < W → y < H → a < W → b < H → (Rt W H E S y x b a ↔ g2 tab y x = g2 tab b a)
  sur : ∀ i, i < n → ∃ y x, x < W ∧ y < H ∧ g2 tab y x = ((i + 1 : Nat) : Int)
structure N3 (W H : Nat) (E S : Nat → Nat → Bool) (tab : Tb) (n : Nat) : Prop where
  pos : ∀ y x, x < W → y < H → 0 ≤ g2 tab y x ∧ g2 tab y x ≤ n
  eq : ∀ y x b a, x < W → y < H → a < W → b < H → 0 < g2 tab y x → (Rt W H E S y x b a ↔ g2 tab y x = g2 tab b a)
  sur : ∀ i, i < n → ∃ y x, x < W ∧ y < H ∧ g2 tab y x = ((i + 1 : Nat) : Int)
theorem numS_row (h : PD W H Gr E S p) (hG : ∀ y x, x < W → y < H → 0 ≤ Gr y x ∧ Gr y x ≤ 1000) (hW : 1 ≤ W ∧ W ≤ 10) (hH : 1 ≤ H ∧ H ≤ 10) {y : Nat} (hy : y < H) : ∀ x, x ≤ W → ∀ (tab : Tb) (ys : List (List Spot)), N3 W H E S tab ys.length → ys.length ≤ y * W + x →
    ∃ (tab' : Tb) (ys' : List (List Spot)), N3 W H E S tab' ys'.length ∧ ys'.length ≤ (y + 1) * W ∧ (∀ b a, a < W → b < H → 0 < g2 tab b a → 0 < g2 tab' b a) ∧ (∀ j, x ≤ j → j < W → 0 < g2 tab' y j) ∧ Ev (fun k => spec_l01Numbers.l2 p (y : Int) k tab ys (x : Int)) (tab', ys') := by
  have v := h.V hW.2 hH.2 hG
  have hw := vP_okW (h.ok hW hH hG)
  have hpW := h.w
  have hHW : H * W ≤ 10 * 10 := Nat.mul_le_mul hH.2 hW.2
  have hyW : (y + 1) * W ≤ H * W := Nat.mul_le_mul_right _ hy
  have hyW' : (y + 1) * W = y * W + W := by rw [Nat.add_mul]; omega
  refine upL ?_ ?_
  · intro tab ys ht hl
    exact ⟨tab, ys, ht, by omega, fun _ _ _ _ h => h, fun j h1 h2 => by omega, Ev.step (fun k => spec_l01Numbers.l2.eq_2 _ _ _ _ _ _) (Ev.neg (by omega) (Ev.const rfl))⟩
  · intro x hx ih tab ys ht hl
    have e : IntKind.i8.wrap ((x : Int) + 1) = ((x + 1 : Nat) : Int) := by rw [w8 (by omega) (by omega)]; omega
    by_cases h0 : 0 < g2 tab y x
    · obtain ⟨tab', ys', a1, a2, a3, a4, a5⟩ := ih tab ys ht (by omega)
      rw [← e] at a5
      refine ⟨tab', ys', a1, a2, a3, fun j h1 h2 => ?_, Ev.step (fun k => spec_l01Numbers.l2.eq_2 _ _ _ _ _ _) (Ev.pos (by omega) (Ev.bind (a := (tab, ys)) (Ev.bind (Ev.const (getR tab (by omega))) (Ev.bind (Ev.const (getA _ (by omega))) (Ev.pos h0 (Ev.const rfl)))) a5))⟩
      by_cases hj : j = x
      · subst hj; exact a3 _ _ hx hy h0
      · exact a4 j (by omega) h2
    · obtain ⟨Y, y1, ym, y5, _⟩ := yard_rt h hG hW hH hx hy
      have yl := isYard_len hw y1
      have eW : p.Wide.toNat = W := by omega
      have eH : p.High.toNat = H := by rw [h.h]; omega
      have ymm : ∀ s ∈ Y, ∃ x y : Nat, x < 10 ∧ y < 10 ∧ s = sp x y := fun s hs => by
        obtain ⟨a, b, h1, h2, h3⟩ := isYard_mem y1 hs
        exact ⟨a, b, by omega, by omega, h3⟩
      obtain ⟨tab1, t1, t2⟩ := put_loop (ys := ys) ymm yl 0 (Nat.zero_le _) tab
      rw [List.drop_zero] at t2
      have hl1 : (ys ++ [Y]).length = ys.length + 1 := by simp
      rw [hl1] at t2
      have g1 : ∀ b a, a < W → b < H → Rt W H E S y x b a → g2 tab1 b a = ((ys.length + 1 : Nat) : Int) := fun b a ha hb hr => by
        rw [t2 b a (by omega) (by omega), if_pos ((ym b a hb ha).2 hr)]
      have g0 : ∀ b a, a < W → b < H → ¬ Rt W H E S y x b a → g2 tab1 b a = g2 tab b a := fun b a ha hb hr => by
        rw [t2 b a (by omega) (by omega), if_neg fun z => hr ((ym b a hb ha).1 z)]
      have ht1 : N3 W H E S tab1 (ys ++ [Y]).length := by
        rw [hl1]
        refine ⟨fun b a ha hb => ?_, fun b a d c ha hb hc hd h1 => ?_, fun i hi => ?_⟩
        · have := ht.pos b a ha hb
          by_cases hr : Rt W H E S y x b a
          · rw [g1 b a ha hb hr]; omega
          · rw [g0 b a ha hb hr]; omega
        · by_cases hr : Rt W H E S y x b a
          · rw [g1 b a ha hb hr]
            by_cases hr2 : Rt W H E S y x d c
            · rw [g1 d c hc hd hr2]
              exact ⟨fun _ => rfl, fun _ => (hr.symm hx hy).trans hr2⟩
            · rw [g0 d c hc hd hr2]
              have := ht.pos d c hc hd
              exact ⟨fun z => absurd (hr.trans z) hr2, fun z => by omega⟩
          · rw [g0 b a ha hb hr] at h1 ⊢
            by_cases hr2 : Rt W H E S y x d c
            · rw [g1 d c hc hd hr2]
              have := ht.pos b a ha hb
              exact ⟨fun z => absurd (hr2.trans (z.symm ha hb)) hr, fun z => by omega⟩
            · rw [g0 d c hc hd hr2]
              exact ht.eq b a d c ha hb hc hd h1
        · by_cases hi2 : i < ys.length
          · obtain ⟨b, a, ha, hb, e2⟩ := ht.sur i hi2
            refine ⟨b, a, ha, hb, ?_⟩
            rw [g0 b a ha hb fun hr => ?_]
            · exact e2
            · have := (ht.eq b a y x ha hb hx hy (by omega)).1 (hr.symm hx hy)
              omega
          · have : i = ys.length := by omega
            subst this
            exact ⟨y, x, hx, hy, g1 y x hx hy Rt.refl⟩
      obtain ⟨tab', ys', a1, a2, a3, a4, a5⟩ := ih tab1 (ys ++ [Y]) ht1 (by simp; omega)
      rw [← e] at a5
      have ca : chk (ys.length + [Y].length ≤ 4294967296) = some () := chk_t (by simp; omega)
      have keep : ∀ b a, a < W → b < H → 0 < g2 tab b a → 0 < g2 tab1 b a := fun b a ha hb h2 => by
        by_cases hr : Rt W H E S y x b a
        · rw [g1 b a ha hb hr]; omega
        · rw [g0 b a ha hb hr]; exact h2
      refine ⟨tab', ys', a1, a2, fun b a ha hb h2 => a3 b a ha hb (keep b a ha hb h2), fun j h1 h2 => ?_, Ev.step (fun k => spec_l01Numbers.l2.eq_2 _ _ _ _ _ _) (Ev.pos (by omega) (Ev.bind (a := (tab1, ys ++ [Y])) (Ev.bind (Ev.const (getR tab (by omega))) (Ev.bind (Ev.const (getA _ (by omega))) (Ev.neg h0 (Ev.bind y5 (Ev.bind (Ev.const ca) (Ev.bind t1 (Ev.const rfl))))))) a5))⟩
      by_cases hj : j = x
      · subst hj
        exact a3 _ _ hx hy (by rw [g1 y j hx hy Rt.refl]; omega)
      · exact a4 j (by omega) h2
theorem numS_ev (h : PD W H Gr E S p) (hG : ∀ y x, x < W → y < H → 0 ≤ Gr y x ∧ Gr y x ≤ 1000) (hW : 1 ≤ W ∧ W ≤ 10) (hH : 1 ≤ H ∧ H ≤ 10) : ∃ (tab : Tb) (ys : List (List Spot)), NT W H E S tab ys.length ∧ ys.length ≤ 100 ∧ Ev (fun k => spec_l01Numbers.f k p) (tab, ys) ∧ Ev (fun k => spec_YardsOf.f k p) (ys, 0) := by
  have v := h.V hW.2 hH.2 hG
  have hp := h.ok hW hH hG
  have hpH := h.h
  have hHW : H * W ≤ 10 * 10 := Nat.mul_le_mul hH.2 hW.2
  have key : ∀ y, y ≤ H → ∀ (tab : Tb) (ys : List (List Spot)), N3 W H E S tab ys.length → ys.length ≤ y * W →
      ∃ (tab' : Tb) (ys' : List (List Spot)), N3 W H E S tab' ys'.length ∧ ys'.length ≤ H * W ∧ (∀ b a, a < W → b < H → 0 < g2 tab b a → 0 < g2 tab' b a) ∧ (∀ i j, y ≤ i → i < H → j < W → 0 < g2 tab' i j) ∧ Ev (fun k => spec_l01Numbers.l1 p k tab ys (y : Int)) (tab', ys') := by
    refine upL ?_ ?_
    · intro tab ys ht hl
      exact ⟨tab, ys, ht, hl, fun _ _ _ _ h => h, fun i j h1 h2 => by omega, Ev.step (fun k => spec_l01Numbers.l1.eq_2 _ _ _ _ _) (Ev.neg (by omega) (Ev.const rfl))⟩
    · intro y hy ih tab ys ht hl
      have e : IntKind.i8.wrap ((y : Int) + 1) = ((y + 1 : Nat) : Int) := by rw [w8 (by omega) (by omega)]; omega
      obtain ⟨tab1, ys1, a1, a2, a3, a4, a5⟩ := numS_row h hG hW hH hy 0 (Nat.zero_le _) tab ys ht (by omega)
      obtain ⟨tab2, ys2, c1, c2, c3, c4, c5⟩ := ih tab1 ys1 a1 a2
      rw [← e] at c5
      refine ⟨tab2, ys2, c1, c2, fun b a ha hb h2 => c3 b a ha hb (a3 b a ha hb h2), fun i j h1 h2 h3 => ?_, Ev.step (fun k => spec_l01Numbers.l1.eq_2 _ _ _ _ _) (Ev.pos (by omega) (Ev.bind (Ev.bind a5 (Ev.const rfl)) c5))⟩
      by_cases hi : i = y
      · subst hi; exact c3 _ _ h3 h2 (a4 j (Nat.zero_le _) h3)
      · exact c4 i j (by omega) h2 h3
  have t0 : N3 W H E S (Arr.mk' (Arr.mk' 0 : Arr 10 Int) : Tb) ([] : List (List Spot)).length := ⟨fun y x hx hy => by rw [g2_zero (by omega) (by omega)]; simp, fun y x b a hx hy _ _ h => by rw [g2_zero (by omega) (by omega)] at h; omega, fun i hi => by simp at hi⟩
  obtain ⟨tab, ys, c1, c2, _, c4, c5⟩ := key 0 (Nat.zero_le _) _ [] t0 (by simp)
  have hN : Ev (fun k => spec_l01Numbers.f k p) (tab, ys) := Ev.bind c5 (Ev.const rfl)
  refine ⟨tab, ys, ⟨fun y x hx hy => ?_, fun y x b a hx hy ha hb => c1.eq y x b a hx hy ha hb (c4 y x (Nat.zero_le _) hy hx), c1.sur⟩, by omega, hN, ?_⟩
  · have := c1.pos y x hx hy
    have := c4 y x (Nat.zero_le _) hy hx
    omega
  · refine (specOk_ev v).bind ?_
    rw [hp]
    exact Ev.neg (by simp) (hN.bind (Ev.const rfl))
end Go.Proofs.YtloljfkfnpgjfaaGreat
/-
  Plain law: a hurdle less between two yards is one yard less; yards are joined.
-/
namespace Go.Proofs.YtloljfkfnpgjfaaGreat
open G
set_option linter.unusedVariables false
set_option linter.unusedSimpArgs false
variable {W H : Nat} {p q : Pasture} {Gr : Nat → Nat → Int} {E S E' S' : Nat → Nat → Bool} {y x b a d c y' x' : Nat} {s : Bool}
def bX (s : Bool) (x : Nat) : Nat := if s = true then x else x + 1
def bY (s : Bool) (y : Nat) : Nat := if s = true then y + 1 else y
def opE (s : Bool) (E : Nat → Nat → Bool) (y x : Nat) (on : Bool) : Nat → Nat → Bool := if s = true then E else upd E y x on
def opS (s : Bool) (S : Nat → Nat → Bool) (y x : Nat) (on : Bool) : Nat → Nat → Bool := if s = true then upd S y x on else S
/-- A side between two cells. -/
def bet (W H x y : Nat) (s : Bool) : Prop := if s = true then x < W ∧ y + 1 < H else x + 1 < W ∧ y < H
theorem bet.both (h : bet W H x y s) : (x < W ∧ y < H) ∧ bX s x < W ∧ bY s y < H := by
  unfold bet at h
  unfold bX bY
  cases s
  · simp only [Bool.false_eq_true, if_false] at h ⊢; omega
  · simp only [if_true] at h ⊢; omega
theorem beyond (hx : x < 10) (hy : y < 10) (s : Bool) : nx (sp x y) (sdI s : Int) = sp (bX s x) (bY s y) := by
  cases s
  · exact nx1 hx
  · exact nx2 hy
theorem step_open (h : stepT W H (opE s E y x false) (opS s S y x false) d c y' x') : stepT W H E S d c y' x' ∨ (d = y ∧ c = x ∧ y' = bY s y ∧ x' = bX s x) ∨ (y' = y ∧ x' = x ∧ d = bY s y ∧ c = bX s x) := by
  cases s
  · unfold opE opS at h
    simp only [Bool.false_eq_true, if_false] at h
    unfold bX bY
    simp only [Bool.false_eq_true, if_false]
    rcases h with ⟨rfl, rfl, k, o⟩ | ⟨rfl, rfl, k, o⟩ | ⟨rfl, k, o⟩ | ⟨k, rfl, o⟩
    · unfold upd at o
      by_cases z : y' = y ∧ c = x
      · obtain ⟨rfl, rfl⟩ := z
        exact .inr (.inl ⟨rfl, rfl, rfl, rfl⟩)
      · rw [if_neg z] at o
        exact .inl (.inl ⟨rfl, rfl, k, o⟩)
    · exact .inl (.inr (.inl ⟨rfl, rfl, k, o⟩))
    · unfold upd at o
      by_cases z : y' = y ∧ x' = x
      · obtain ⟨rfl, rfl⟩ := z
        exact .inr (.inr ⟨rfl, rfl, rfl, k.symm⟩)
      · rw [if_neg z] at o
        exact .inl (.inr (.inr (.inl ⟨rfl, k, o⟩)))
    · exact .inl (.inr (.inr (.inr ⟨k, rfl, o⟩)))
  · unfold opE opS at h
    simp only [if_true] at h
    unfold bX bY
    simp only [if_true]
    rcases h with ⟨rfl, rfl, k, o⟩ | ⟨rfl, rfl, k, o⟩ | ⟨rfl, k, o⟩ | ⟨k, rfl, o⟩
    · exact .inl (.inl ⟨rfl, rfl, k, o⟩)
    · unfold upd at o
      by_cases z : d = y ∧ x' = x
      · obtain ⟨rfl, rfl⟩ := z
        exact .inr (.inl ⟨rfl, rfl, rfl, rfl⟩)
      · rw [if_neg z] at o
        exact .inl (.inr (.inl ⟨rfl, rfl, k, o⟩))
    · exact .inl (.inr (.inr (.inl ⟨rfl, k, o⟩)))
    · unfold upd at o
      by_cases z : y' = y ∧ c = x
      · obtain ⟨rfl, rfl⟩ := z
        exact .inr (.inr ⟨rfl, k, rfl, rfl⟩)
      · rw [if_neg z] at o
        exact .inl (.inr (.inr (.inr ⟨k, rfl, o⟩)))
/-- Less hurdles: what was a step stays one. -/
theorem stepT.mono (hE : ∀ b a, E b a = false → E' b a = false) (hS : ∀ b a, S b a = false → S' b a = false) (h : stepT W H E S d c y' x') : stepT W H E' S' d c y' x' := by
  rcases h with ⟨h1, h2, k, o⟩ | ⟨h1, h2, k, o⟩ | ⟨h1, k, o⟩ | ⟨k, h1, o⟩
  · exact .inl ⟨h1, h2, k, hE _ _ o⟩
  · exact .inr (.inl ⟨h1, h2, k, hS _ _ o⟩)
  · exact .inr (.inr (.inl ⟨h1, k, hE _ _ o⟩))
  · exact .inr (.inr (.inr ⟨k, h1, hS _ _ o⟩))
theorem Rt.mono (hE : ∀ b a, E b a = false → E' b a = false) (hS : ∀ b a, S b a = false → S' b a = false) (hx : x < W) (hy : y < H) (h : Rt W H E S y x b a) : Rt W H E' S' y x b a :=
  h.lift hx hy fun _ _ _ _ h1 h2 s => Rt.step h1 h2 (s.mono hE hS)
theorem opE_le (b a : Nat) (h : E b a = false) : opE s E y x false b a = false := by
  unfold opE upd
  split
  · exact h
  · dsimp only
    split
    · rfl
    · exact h
theorem opS_le (b a : Nat) (h : S b a = false) : opS s S y x false b a = false := by
  unfold opS upd
  split
  · dsimp only
    split
    · rfl
    · exact h
  · exact h
theorem open_step (hb : bet W H x y s) : stepT W H (opE s E y x false) (opS s S y x false) y x (bY s y) (bX s x) := by
  unfold bet at hb
  cases s
  · simp only [Bool.false_eq_true, if_false] at hb
    exact .inl ⟨rfl, rfl, hb.1, by unfold opE upd; simp⟩
  · simp only [if_true] at hb
    exact .inr (.inl ⟨rfl, rfl, hb.2, by unfold opS upd; simp⟩)
/-- With one hurdle less. -/
theorem rt_open (hb : bet W H x y s) (ha : a < W) (hbb : b < H) : Rt W H (opE s E y x false) (opS s S y x false) b a d c ↔ (Rt W H E S b a d c ∨ (Rt W H E S b a y x ∧ Rt W H E S (bY s y) (bX s x) d c) ∨ (Rt W H E S b a (bY s y) (bX s x) ∧ Rt W H E S y x d c)) := by
  obtain ⟨⟨h1, h2⟩, h3, h4⟩ := hb.both
  constructor
  · intro h
    refine h (fun d c => Rt W H E S b a d c ∨ (Rt W H E S b a y x ∧ Rt W H E S (bY s y) (bX s x) d c) ∨ (Rt W H E S b a (bY s y) (bX s x) ∧ Rt W H E S y x d c)) (fun d1 c1 d2 c2 i1 i2 t st => ?_) (.inl Rt.refl)
    rcases step_open st with st | ⟨rfl, rfl, rfl, rfl⟩ | ⟨rfl, rfl, rfl, rfl⟩
    · have r := Rt.step i1 i2 st
      rcases t with t | ⟨t1, t2⟩ | ⟨t1, t2⟩
      · exact .inl (t.trans r)
      · exact .inr (.inl ⟨t1, t2.trans r⟩)
      · exact .inr (.inr ⟨t1, t2.trans r⟩)
    · rcases t with t | ⟨t1, t2⟩ | ⟨t1, t2⟩
      · exact .inr (.inl ⟨t, Rt.refl⟩)
      · exact .inr (.inl ⟨t1, Rt.refl⟩)
      · exact .inl t1
    · rcases t with t | ⟨t1, t2⟩ | ⟨t1, t2⟩
      · exact .inr (.inr ⟨t, Rt.refl⟩)
      · exact .inl t1
      · exact .inr (.inr ⟨t1, Rt.refl⟩)
  · have m : ∀ {b a d c}, a < W → b < H → Rt W H E S b a d c → Rt W H (opE s E y x false) (opS s S y x false) b a d c := fun h5 h6 h => h.mono opE_le opS_le h5 h6
    have st : Rt W H (opE s E y x false) (opS s S y x false) y x (bY s y) (bX s x) := Rt.step h1 h2 (open_step hb)
    rintro (h | ⟨h, k⟩ | ⟨h, k⟩)
    · exact m ha hbb h
    · exact (m ha hbb h).trans (st.trans (m h3 h4 k))
    · exact (m ha hbb h).trans ((st.symm h1 h2).trans (m h1 h2 k))
/-- The place of a cell's number. -/
def ix (tab : Tb) (y x : Nat) : Nat := (g2 tab y x - 1).toNat
theorem NT.ix_lt {tab : Tb} {n : Nat} (t : NT W H E S tab n) (hx : x < W) (hy : y < H) : ix tab y x < n ∧ g2 tab y x = ((ix tab y x + 1 : Nat) : Int) := by
  have := t.pos y x hx hy
  unfold ix; omega
theorem nodup_map {α : Type} {f : α → Nat} : ∀ {l : List α}, l.Nodup → (∀ i ∈ l, ∀ j ∈ l, f i = f j → i = j) → (l.map f).Nodup
  | [], _, _ => by simp
  | i :: l, h, hf => by
    rw [List.map_cons, List.nodup_cons]
    rw [List.nodup_cons] at h
    refine ⟨fun hm => ?_, nodup_map h.2 fun i hi j hj => hf i (List.mem_cons_of_mem _ hi) j (List.mem_cons_of_mem _ hj)⟩
    obtain ⟨j, hj, e⟩ := List.mem_map.1 hm
    have := hf i (List.mem_cons_self ..) j (List.mem_cons_of_mem _ hj) e.symm
    rw [this] at h
    exact h.1 hj
theorem NT.merge {tab tab' : Tb} {n k : Nat} (t : NT W H E S tab n) (hb : bet W H x y s) (hne : ¬ Rt W H E S y x (bY s y) (bX s x)) (t' : NT W H (opE s E y x false) (opS s S y x false) tab' k) : n = k + 1 := by
  obtain ⟨⟨h1, h2⟩, h3, h4⟩ := hb.both
  obtain ⟨v1, v2⟩ := t.ix_lt h3 h4
  obtain ⟨u1, u2⟩ := t.ix_lt h1 h2
  have hch : ∀ i, ∃ c : Nat × Nat, i < n → c.2 < W ∧ c.1 < H ∧ g2 tab c.1 c.2 = ((i + 1 : Nat) : Int) := fun i => by
    by_cases hi : i < n
    · obtain ⟨y, x, a, b, e⟩ := t.sur i hi
      exact ⟨(y, x), fun _ => ⟨a, b, e⟩⟩
    · exact ⟨(0, 0), fun z => absurd z hi⟩
  have hch2 : ∃ C : Nat → Nat × Nat, ∀ i, i < n → (C i).2 < W ∧ (C i).1 < H ∧ g2 tab (C i).1 (C i).2 = ((i + 1 : Nat) : Int) := ⟨fun i => Classical.choose (hch i), fun i => Classical.choose_spec (hch i)⟩
  obtain ⟨C, hC⟩ := hch2
  have hL : ∀ i, i ∈ (List.range n).erase (ix tab (bY s y) (bX s x)) ↔ i ≠ ix tab (bY s y) (bX s x) ∧ i < n := fun i => by
    rw [List.Nodup.mem_erase_iff List.nodup_range, List.mem_range]
  have hnd : ((List.range n).erase (ix tab (bY s y) (bX s x))).Nodup := List.nodup_range.erase _
  have hlen : ((List.range n).erase (ix tab (bY s y) (bX s x))).length = n - 1 := by
    rw [List.length_erase_of_mem (List.mem_range.2 v1), List.length_range]
  have hP : (((List.range n).erase (ix tab (bY s y) (bX s x))).map fun i => ix tab' (C i).1 (C i).2).Perm (List.range k) := by
    refine (List.perm_ext_iff_of_nodup (nodup_map hnd fun i hi j hj e => ?_) List.nodup_range).2 fun m => ⟨fun hm => ?_, fun hm => ?_⟩
    · obtain ⟨i1, i2⟩ := (hL i).1 hi
      obtain ⟨j1, j2⟩ := (hL j).1 hj
      obtain ⟨ci1, ci2, ci3⟩ := hC i i2
      obtain ⟨cj1, cj2, cj3⟩ := hC j j2
      have ei := (t'.ix_lt ci1 ci2).2
      have ej := (t'.ix_lt cj1 cj2).2
      have e : ix tab' (C i).1 (C i).2 = ix tab' (C j).1 (C j).2 := e
      have hr := (t'.eq _ _ _ _ ci1 ci2 cj1 cj2).2 (by rw [ei, ej, e])
      rcases (rt_open hb ci1 ci2).1 hr with hr | ⟨hr1, hr2⟩ | ⟨hr1, hr2⟩
      · have := (t.eq _ _ _ _ ci1 ci2 cj1 cj2).1 hr
        omega
      · have := (t.eq _ _ _ _ h3 h4 cj1 cj2).1 hr2
        omega
      · have := (t.eq _ _ _ _ ci1 ci2 h3 h4).1 hr1
        omega
    · obtain ⟨i, hi, rfl⟩ := List.mem_map.1 hm
      obtain ⟨ci1, ci2, ci3⟩ := hC i ((hL i).1 hi).2
      exact List.mem_range.2 (t'.ix_lt ci1 ci2).1
    · obtain ⟨d, c, hc, hd, e⟩ := t'.sur m (List.mem_range.1 hm)
      have key : ∀ i, i < n → i ≠ ix tab (bY s y) (bX s x) → Rt W H (opE s E y x false) (opS s S y x false) (C i).1 (C i).2 d c → m ∈ ((List.range n).erase (ix tab (bY s y) (bX s x))).map fun i => ix tab' (C i).1 (C i).2 := fun i hi hne hr => by
        obtain ⟨ci1, ci2, ci3⟩ := hC i hi
        refine List.mem_map.2 ⟨i, (hL i).2 ⟨hne, hi⟩, ?_⟩
        have := (t'.eq _ _ _ _ ci1 ci2 hc hd).1 hr
        unfold ix; omega
      obtain ⟨d1, d2⟩ := t.ix_lt hc hd
      by_cases ec : ix tab d c = ix tab (bY s y) (bX s x)
      · have hun : ix tab y x ≠ ix tab (bY s y) (bX s x) := fun z => hne ((t.eq _ _ _ _ h1 h2 h3 h4).2 (by rw [u2, v2, z]))
        obtain ⟨ci1, ci2, ci3⟩ := hC _ u1
        refine key _ u1 hun ((rt_open hb ci1 ci2).2 (.inr (.inl ⟨(t.eq _ _ _ _ ci1 ci2 h1 h2).2 (by rw [ci3, u2]), (t.eq _ _ _ _ h3 h4 hc hd).2 (by rw [v2, d2, ec])⟩)))
      · obtain ⟨ci1, ci2, ci3⟩ := hC _ d1
        exact key _ d1 ec ((rt_open hb ci1 ci2).2 (.inl ((t.eq _ _ _ _ ci1 ci2 hc hd).2 (by rw [ci3, d2]))))
  have := hP.length_eq
  rw [List.length_map, hlen, List.length_range] at this
  omega
end Go.Proofs.YtloljfkfnpgjfaaGreat
/-
  Plain law: yards are joined, by the program and by the reference.
-/
namespace Go.Proofs.YtloljfkfnpgjfaaGreat
open G
set_option linter.unusedVariables false
set_option linter.unusedSimpArgs false
variable {W H : Nat} {p q : Pasture} {Gr : Nat → Nat → Int} {E S E' S' : Nat → Nat → Bool} {y x b a d c y' x' : Nat} {s : Bool}
theorem steps_at {m : Tb} {x y : Nat} (hx : x < 10) (hy : y < 10) (h : -1 ≤ g2 m y x ∧ g2 m y x ≤ 102) : impl_steps_at.f m (sp x y) = some (g2 m y x) := by
  have hw : IntKind.i64.wrap (gA (gR m y) x) = g2 m y x := w64 (show -9223372036854775808 ≤ g2 m y x by omega) (show g2 m y x ≤ 9223372036854775807 by omega)
  unfold impl_steps_at.f
  show ((getI m.l ((y : Nat) : Int)).bind _) = _
  rw [getR m hy, Option.bind_some]
  show ((getI (gR m y).l ((x : Nat) : Int)).bind _) = _
  rw [getA _ hx, Option.bind_some, hw]
theorem setS_eq' (p : Pasture) (hx : x < 10) (hy : y < 10) (s on : Bool) : spec_l01Set.f p (sp x y) (sdI s : Int) on = some (putB p x y s on) := by
  have := putS_eq p hx hy s on
  cases s
  · exact this
  · exact this
/-- A list of sides between cells, in order. -/
def Btw (W H : Nat) (l : List Hurdle) : Prop := ∀ h ∈ l, ∃ (x y : Nat) (s : Bool), h = hu x y s ∧ bet W H x y s
theorem PD.opened (h : PD W H Gr E S p) (hW : W ≤ 10) (hH : H ≤ 10) (hb : bet W H x y s) : PD W H Gr (opE s E y x false) (opS s S y x false) (putB p x y s false) := by
  obtain ⟨⟨h1, h2⟩, _⟩ := hb.both
  exact h.put (by omega) (by omega) s false (fun z => by cases z)
/-- A hurdle of a cell beyond: is it reached? -/
theorem hur_ev (h : PD W H Gr E S p) (hG : ∀ y x, x < W → y < H → 0 ≤ Gr y x ∧ Gr y x ≤ 1000) (hW : 1 ≤ W ∧ W ≤ 10) (hH : 1 ≤ H ∧ H ≤ 10) (hb : bet W H x y s) : ∃ m n : Tb, Ev (fun k => impl_Pasture_far.f k p ([(hu x y s).At] : List Spot)) m ∧ Ev (fun k => spec_l01Steps.f k p (hu x y s).At) n ∧ impl_Hurdle_other.f (hu x y s) = some (sp (bX s x) (bY s y)) ∧ impl_steps_at.f m (sp (bX s x) (bY s y)) = some (g2 m (bY s y) (bX s x)) ∧
    spec_l03Side.f (hu x y s) = some (sdI s : Int) ∧ spec_l01Next.f (hu x y s).At (sdI s : Int) = some (sp (bX s x) (bY s y)) ∧ g2 n (bY s y) (bX s x) = g2 m (bY s y) (bX s x) + 1 ∧ -1 ≤ g2 m (bY s y) (bX s x) ∧ (0 ≤ g2 m (bY s y) (bX s x) ↔ Rt W H E S y x (bY s y) (bX s x)) := by
  obtain ⟨⟨h1, h2⟩, h3, h4⟩ := hb.both
  obtain ⟨m, n, e1, e2, hm, hr⟩ := far_rt h hG hW hH h1 h2
  have g := hm (bY s y) (bX s x) (by omega) (by omega)
  exact ⟨m, n, e1, e2, (other_eq _).trans (congrArg some (beyond (by omega) (by omega) s)), steps_at (by omega) (by omega) (by omega), side_eq _, (next_eq _ _).trans (congrArg some (beyond (by omega) (by omega) s)), g.1, g.2.1, hr _ _ h4 h3⟩
theorem join_loop (hG : ∀ y x, x < W → y < H → 0 ≤ Gr y x ∧ Gr y x ≤ 1000) (hW : 1 ≤ W ∧ W ≤ 10) (hH : 1 ≤ H ∧ H ≤ 10) {l : List Hurdle} (hl : l.length ≤ 1000) (hL : Btw W H l) : ∀ i, i ≤ l.length → ∀ (r : Pasture) (E S : Nat → Nat → Bool) (acc : List Hurdle), PD W H Gr E S r → acc.length ≤ i →
    ∃ (out : List Hurdle) (q : Pasture) (E' S' : Nat → Nat → Bool), PD W H Gr E' S' q ∧ Ev (fun k => impl_JoinYards.l1 l k r acc (i : Int)) (acc ++ out) ∧ Ev (fun k => spec_JoinYards.l1 l k r acc (i : Int)) (acc ++ out) ∧ out.length ≤ l.length - i ∧ (∀ h ∈ out, h ∈ l) ∧
      (∀ tab n, NT W H E S tab n → ∃ tab' k, NT W H E' S' tab' k ∧ n = k + out.length) ∧
      (∀ b a, E' b a = if hu a b false ∈ out then false else E b a) ∧ (∀ b a, S' b a = if hu a b true ∈ out then false else S b a) ∧
      (∀ x y s, hu x y s ∈ l.drop i → Rt W H E' S' y x (bY s y) (bX s x)) := by
  refine upL ?_ ?_
  · intro r E S acc h ha
    refine ⟨[], r, E, S, h, ?_, ?_, by simp, by simp, fun tab n t => ⟨tab, n, t, rfl⟩, fun b a => by simp, fun b a => by simp, fun x y s hm => ?_⟩
    · rw [List.append_nil]
      exact Ev.step (fun k => impl_JoinYards.l1.eq_2 _ _ _ _ _) (Ev.neg (by omega) (Ev.const rfl))
    · rw [List.append_nil]
      exact Ev.step (fun k => spec_JoinYards.l1.eq_2 _ _ _ _ _) (Ev.neg (by omega) (Ev.const rfl))
    · rw [List.drop_length] at hm
      simp at hm
  · intro i hi ih r E S acc h ha
    obtain ⟨x, y, s, e, hb⟩ := hL _ (List.getElem_mem hi)
    obtain ⟨⟨h1, h2⟩, h3, h4⟩ := hb.both
    obtain ⟨m, n, e1, e2, e3, e4, e5, e6, e7, e8, e9⟩ := hur_ev h hG hW hH hb
    have g : getI l (i : Int) = some (hu x y s) := (getI_nat hi).trans (congrArg some e)
    have gn1 := getR n (show bY s y < 10 by omega)
    have gn2 := getA (gR n (bY s y)) (show bX s x < 10 by omega)
    by_cases c : g2 m (bY s y) (bX s x) < 0
    · have hne : ¬ Rt W H E S y x (bY s y) (bX s x) := fun z => by have := e9.2 z; omega
      have hq := h.opened hW.2 hH.2 hb
      obtain ⟨out, q, E', S', k1, k2, k3, k4, k5, k6, k7, k8, k9⟩ := ih (putB r x y s false) _ _ (acc ++ [hu x y s]) hq (by simp; omega)
      rw [← wsucc hi (by omega)] at k2 k3
      rw [List.append_assoc] at k2 k3
      refine ⟨[hu x y s] ++ out, q, E', S', k1, ?_, ?_, by simp; omega, fun g hg => ?_, fun tab n t => ?_, fun b a => ?_, fun b a => ?_, fun x1 y1 s1 hm => ?_⟩
      · exact Ev.step (fun k => impl_JoinYards.l1.eq_2 _ _ _ _ _) (Ev.pos (by omega) (Ev.bind (Ev.const g) (e1.bind (Ev.bind (Ev.const e3) (Ev.bind (Ev.const e4) (Ev.pos c (Ev.bind (Ev.const (chk_t (by simp; omega))) (Ev.bind (Ev.const (putI_eq r (by omega) (by omega) s false)) k2))))))))
      · exact Ev.step (fun k => spec_JoinYards.l1.eq_2 _ _ _ _ _) (Ev.pos (by omega) (Ev.bind (Ev.const g) (e2.bind (Ev.bind (Ev.const g) (Ev.bind (Ev.const g) (Ev.bind (Ev.const e5) (Ev.bind (Ev.const e6) (Ev.bind (Ev.const gn1) (Ev.bind (Ev.const gn2) (Ev.pos (by show g2 n (bY s y) (bX s x) = 0; omega) (Ev.bind (Ev.const g) (Ev.bind (Ev.const (chk_t (by simp; omega))) (Ev.bind (Ev.const g) (Ev.bind (Ev.const g) (Ev.bind (Ev.const e5) (Ev.bind (Ev.const (setS_eq' r (by omega) (by omega) s false)) k3))))))))))))))))
      · rcases List.mem_append.1 hg with hg | hg
        · rw [List.mem_singleton.1 hg, ← e]; exact List.getElem_mem hi
        · exact k5 g hg
      · obtain ⟨tab1, ys1, t1, _⟩ := numS_ev hq hG hW hH
        obtain ⟨tab', k, t', ek⟩ := k6 tab1 ys1.length t1
        refine ⟨tab', k, t', ?_⟩
        rw [t.merge hb hne t1, ek, List.length_append]; simp; omega
      · rw [k7 b a]
        by_cases z : hu a b false ∈ out
        · rw [if_pos z, if_pos (List.mem_append.2 (.inr z))]
        · rw [if_neg z]
          by_cases z2 : hu a b false = hu x y s
          · obtain ⟨rfl, rfl, rfl⟩ := hu_inj z2
            rw [if_pos (List.mem_append.2 (.inl (List.mem_singleton.2 rfl)))]
            unfold opE upd; simp
          · rw [if_neg (show ¬ hu a b false ∈ [hu x y s] ++ out by rw [List.mem_append, List.mem_singleton]; rintro (u | u) <;> contradiction)]
            unfold opE upd
            cases s
            · simp only [Bool.false_eq_true, if_false]
              rw [if_neg]
              rintro ⟨rfl, rfl⟩
              exact z2 rfl
            · rfl
      · rw [k8 b a]
        by_cases z : hu a b true ∈ out
        · rw [if_pos z, if_pos (List.mem_append.2 (.inr z))]
        · rw [if_neg z]
          by_cases z2 : hu a b true = hu x y s
          · obtain ⟨rfl, rfl, rfl⟩ := hu_inj z2
            rw [if_pos (List.mem_append.2 (.inl (List.mem_singleton.2 rfl)))]
            unfold opS upd; simp
          · rw [if_neg (show ¬ hu a b true ∈ [hu x y s] ++ out by rw [List.mem_append, List.mem_singleton]; rintro (u | u) <;> contradiction)]
            unfold opS upd
            cases s
            · rfl
            · simp only [if_true]
              rw [if_neg]
              rintro ⟨rfl, rfl⟩
              exact z2 rfl
      · rw [List.drop_eq_getElem_cons hi, e] at hm
        rcases List.mem_cons.1 hm with hm | hm
        · obtain ⟨rfl, rfl, rfl⟩ := hu_inj hm
          exact (Rt.step h1 h2 (open_step hb)).mono (E' := E') (S' := S') (fun b a z => by rw [k7 b a]; split <;> first | rfl | exact z) (fun b a z => by rw [k8 b a]; split <;> first | rfl | exact z) h1 h2
        · exact k9 x1 y1 s1 hm
    · obtain ⟨out, q, E', S', k1, k2, k3, k4, k5, k6, k7, k8, k9⟩ := ih r E S acc h (by omega)
      rw [← wsucc hi (by omega)] at k2 k3
      refine ⟨out, q, E', S', k1, ?_, ?_, by omega, k5, k6, k7, k8, fun x1 y1 s1 hm => ?_⟩
      · exact Ev.step (fun k => impl_JoinYards.l1.eq_2 _ _ _ _ _) (Ev.pos (by omega) (Ev.bind (Ev.const g) (e1.bind (Ev.bind (Ev.const e3) (Ev.bind (Ev.const e4) (Ev.neg c k2))))))
      · exact Ev.step (fun k => spec_JoinYards.l1.eq_2 _ _ _ _ _) (Ev.pos (by omega) (Ev.bind (Ev.const g) (e2.bind (Ev.bind (Ev.const g) (Ev.bind (Ev.const g) (Ev.bind (Ev.const e5) (Ev.bind (Ev.const e6) (Ev.bind (Ev.const gn1) (Ev.bind (Ev.const gn2) (Ev.neg (by show ¬ g2 n (bY s y) (bX s x) = 0; omega) k3))))))))))
      · rw [List.drop_eq_getElem_cons hi, e] at hm
        rcases List.mem_cons.1 hm with hm | hm
        · obtain ⟨rfl, rfl, rfl⟩ := hu_inj hm
          exact (e9.1 (by omega)).mono (E' := E') (S' := S') (fun b a z => by rw [k7 b a]; split <;> first | rfl | exact z) (fun b a z => by rw [k8 b a]; split <;> first | rfl | exact z) h1 h2
        · exact k9 x1 y1 s1 hm
end Go.Proofs.YtloljfkfnpgjfaaGreat
/-
  Plain law: hurdles that stand, taken away or put; when all is joined there is one yard.
-/
namespace Go.Proofs.YtloljfkfnpgjfaaGreat
open G
set_option linter.unusedVariables false
set_option linter.unusedSimpArgs false
variable {W H : Nat} {p q : Pasture} {Gr : Nat → Nat → Int} {E S E' S' : Nat → Nat → Bool} {y x b a d c y' x' : Nat} {s : Bool}
theorem PD.grid_mem (h : PD W H Gr E S p) (hW : W ≤ 10) (hH : H ≤ 10) (g : Hurdle) : g ∈ gridH p W 0 H ↔ ∃ (x y : Nat) (s : Bool), g = hu x y s ∧ bet W H x y s := by
  have eW : p.Wide.toNat = W := by rw [h.w]; omega
  have eH : p.High.toNat = H := by rw [h.h]; omega
  constructor
  · intro hg
    have hg' : g ∈ gridH p p.Wide.toNat 0 H := by rw [eW]; exact hg
    obtain ⟨x, y, s, hx, hy, hi, rfl⟩ := gridH_told (p := p) H 0 (by omega) g hg'
    rw [eW] at hx; rw [eH] at hy
    refine ⟨x, y, s, rfl, ?_⟩
    unfold bet
    cases s
    · rw [h.isBe hW hH hx hy, decide_eq_true_eq] at hi
      simp only [Bool.false_eq_true, if_false]
      exact ⟨hi, hy⟩
    · rw [h.isBs hW hH hx hy, decide_eq_true_eq] at hi
      simp only [if_true]
      exact ⟨hx, hi⟩
  · rintro ⟨x, y, s, rfl, hb⟩
    obtain ⟨⟨h1, h2⟩, _⟩ := hb.both
    refine gridH_mem (x0 := x) (y0 := y) ?_ h1 H 0 (Nat.zero_le _) (by omega)
    unfold cellH
    unfold bet at hb
    cases s
    · simp only [Bool.false_eq_true, if_false] at hb
      rw [h.isBe hW hH h1 h2, decide_eq_true hb.1, if_pos rfl]
      exact List.mem_append.2 (.inl (List.mem_singleton.2 rfl))
    · simp only [if_true] at hb
      rw [h.isBs hW hH h1 h2, decide_eq_true hb.2]
      exact List.mem_append.2 (.inr (by rw [if_pos rfl]; exact List.mem_singleton.2 rfl))
def stOf (E S : Nat → Nat → Bool) (x y : Nat) (s : Bool) : Bool := if s = true then S y x else E y x
theorem PD.st (h : PD W H Gr E S p) (hW : W ≤ 10) (hH : H ≤ 10) (hb : bet W H x y s) : stH p (hu x y s) = stOf E S x y s := by
  unfold bet at hb
  cases s
  · simp only [Bool.false_eq_true, if_false] at hb
    exact h.eE hW hH hb.1 hb.2
  · simp only [if_true] at hb
    exact h.eS hW hH hb.1 hb.2
/-- The hurdles that stand. -/
def stL (p : Pasture) : List Hurdle := (gridH p p.Wide.toNat 0 p.High.toNat).filter (stH p)
theorem stL_len (hw : okW p = true) : (stL p).length ≤ 200 ∧ (gridH p p.Wide.toNat 0 p.High.toNat).length ≤ 200 := by
  obtain ⟨w1, w2⟩ := okW_iff.1 hw
  have := gridH_len p p.Wide.toNat p.High.toNat 0
  have h2 : 2 * p.Wide.toNat * p.High.toNat ≤ 20 * 10 := Nat.mul_le_mul (by omega) (by omega)
  have h3 := List.length_filter_le (stH p) (gridH p p.Wide.toNat 0 p.High.toNat)
  unfold stL
  omega
theorem PD.stL_mem (h : PD W H Gr E S p) (hW : W ≤ 10) (hH : H ≤ 10) (g : Hurdle) : g ∈ stL p ↔ ∃ (x y : Nat) (s : Bool), g = hu x y s ∧ bet W H x y s ∧ stOf E S x y s = true := by
  have eW : p.Wide.toNat = W := by rw [h.w]; omega
  have eH : p.High.toNat = H := by rw [h.h]; omega
  unfold stL
  rw [eW, eH, List.mem_filter, h.grid_mem hW hH]
  constructor
  · rintro ⟨⟨x, y, s, rfl, hb⟩, hs⟩
    rw [h.st hW hH hb] at hs
    exact ⟨x, y, s, rfl, hb, hs⟩
  · rintro ⟨x, y, s, rfl, hb, hs⟩
    exact ⟨⟨x, y, s, rfl, hb⟩, by rw [h.st hW hH hb]; exact hs⟩
theorem PD.stL_btw (h : PD W H Gr E S p) (hW : W ≤ 10) (hH : H ≤ 10) : Btw W H (stL p) := fun g hg => by
  obtain ⟨x, y, s, e, hb, _⟩ := (h.stL_mem hW hH g).1 hg
  exact ⟨x, y, s, e, hb⟩
theorem PD.is_bet (h : PD W H Gr E S p) (hW : W ≤ 10) (hH : H ≤ 10) (hb : bet W H x y s) : isB p x y s = true := by
  obtain ⟨⟨h1, h2⟩, _⟩ := hb.both
  unfold bet at hb
  cases s
  · simp only [Bool.false_eq_true, if_false] at hb
    rw [h.isBe hW hH h1 h2, decide_eq_true hb.1]
  · simp only [if_true] at hb
    rw [h.isBs hW hH h1 h2, decide_eq_true hb.2]
theorem PD.code (h : PD W H Gr E S p) (hG : ∀ y x, x < W → y < H → 0 ≤ Gr y x ∧ Gr y x ≤ 1000) (hW : 1 ≤ W ∧ W ≤ 10) (hH : 1 ≤ H ∧ H ≤ 10) {L : List Hurdle} (hl : L.length ≤ 1000) (hL : Btw W H L) : Ev (fun k => impl_hurdleCode.f k p L) 0 ∧ Ev (fun k => spec_l03Asked.f k p L) 0 := by
  have v := h.V hW.2 hH.2 hG
  have hp := h.ok hW hH hG
  have hw := vP_okW hp
  have hc : ∀ x y s, bet W H x y s → cellB p (x : Int) (y : Int) = true := fun x y s hb => by
    obtain ⟨⟨h1, h2⟩, _⟩ := hb.both
    exact cellB_grid hw (by rw [h.w]; omega) (by rw [h.h]; omega)
  have key : ∀ i, i ≤ L.length → Ev (fun k => slices_IndexFunc_impl_Hurdle_impl_Hurdle.l1 L (impl_hurdleCode_1.f p) k (i : Int)) (.inr ()) := by
    refine upL ?_ ?_
    · exact Ev.step (fun k => slices_IndexFunc_impl_Hurdle_impl_Hurdle.l1.eq_2 _ _ _ _) (Ev.neg (by omega) (Ev.const rfl))
    · intro i hi ih
      rw [← wsucc hi (by omega)] at ih
      obtain ⟨x, y, s, e, hb⟩ := hL _ (List.getElem_mem hi)
      obtain ⟨⟨h1, h2⟩, _⟩ := hb.both
      have hs : impl_hurdleCode_1.f p (hu x y s) = some false := by
        unfold impl_hurdleCode_1.f
        have h5 : impl_Pasture_isHurdle.f p (hu x y s) = some (isB p x y s) := implIs_eq v hw (x := x) (y := y) (by omega) (by omega) (hc x y s hb) s
        rw [h5, h.is_bet hW.2 hH.2 hb]; rfl
      exact Ev.step (fun k => slices_IndexFunc_impl_Hurdle_impl_Hurdle.l1.eq_2 _ _ _ _) (Ev.pos (by omega) (Ev.bind (Ev.const ((getI_nat hi).trans (congrArg some e))) (Ev.bind (Ev.const hs) (Ev.neg (by simp) ih))))
  have key2 : ∀ i, i ≤ L.length → Ev (fun k => spec_l03Asked.l1 p L k (i : Int)) (.inr ()) := by
    refine upL ?_ ?_
    · exact Ev.step (fun k => spec_l03Asked.l1.eq_2 _ _ _ _) (Ev.neg (by omega) (Ev.const rfl))
    · intro i hi ih
      rw [← wsucc hi (by omega)] at ih
      obtain ⟨x, y, s, e, hb⟩ := hL _ (List.getElem_mem hi)
      obtain ⟨⟨h1, h2⟩, _⟩ := hb.both
      have hs : spec_l03Is.f p (hu x y s) = some true := (specIs_eq v (x := x) (y := y) (by omega) (by omega) (hc x y s hb) s).trans (congrArg some (h.is_bet hW.2 hH.2 hb))
      exact Ev.step (fun k => spec_l03Asked.l1.eq_2 _ _ _ _) (Ev.pos (by omega) (Ev.bind (Ev.const ((getI_nat hi).trans (congrArg some e))) (Ev.bind (Ev.const hs) (Ev.neg (by simp) ih))))
  refine ⟨?_, ?_⟩
  · refine (implOk_ev v).bind ?_
    rw [hp]
    exact Ev.neg (by simp) (Ev.bind (a := false) (Ev.bind (a := (-1 : Int)) ((key 0 (Nat.zero_le _)).bind (Ev.const rfl)) (Ev.const rfl)) (Ev.bind (a := (0 : Int)) (Ev.const rfl) (Ev.const rfl)))
  · refine (specOk_ev v).bind ?_
    rw [hp]
    exact Ev.neg (by simp) ((key2 0 (Nat.zero_le _)).bind (Ev.const rfl))
theorem Btw.inW {L : List Hurdle} (hW : W ≤ 10) (hH : H ≤ 10) (hL : Btw W H L) : ∀ h ∈ L, inW W H h := fun h hh => by
  obtain ⟨x, y, s, e, hb⟩ := hL h hh
  obtain ⟨⟨h1, h2⟩, _⟩ := hb.both
  exact ⟨x, y, s, e, by omega, by omega, hb⟩
theorem PD.take (h : PD W H Gr E S p) (hG : ∀ y x, x < W → y < H → 0 ≤ Gr y x ∧ Gr y x ≤ 1000) (hW : 1 ≤ W ∧ W ≤ 10) (hH : 1 ≤ H ∧ H ≤ 10) {L : List Hurdle} (hl : L.length ≤ 1000) (hL : Btw W H L) : ∃ q, Ev (fun k => impl_TakeHurdles.f k p L) (q, 0) ∧ PD W H Gr (fun y x => if hu x y false ∈ L then false else E y x) (fun y x => if hu x y true ∈ L then false else S y x) q := by
  obtain ⟨q, q1, q2⟩ := with_ev false hl (hL.inW hW.2 hH.2) h
  exact ⟨q, (h.code hG hW hH hl hL).1.bind (Ev.neg (by simp) (q1.bind (Ev.const rfl))), q2⟩
/-- The reference puts hurdles. -/
theorem put_one (p : Pasture) (hx : x < 10) (hy : y < 10) (s on : Bool) : Ev (fun k => spec_l03Put.f k p [hu x y s] on) (putB p x y s on) ∧ Ev (fun k => impl_Pasture_with.f k p [hu x y s] on) (putB p x y s on) := by
  have g : getI ([hu x y s] : List Hurdle) 0 = some (hu x y s) := rfl
  have w : IntKind.i64.wrap (0 + 1) = 1 := by decide
  have e1 : Ev (fun k => spec_l03Put.l1 [hu x y s] on k (putB p x y s on) (IntKind.i64.wrap (0 + 1))) (putB p x y s on) := Ev.step (fun k => spec_l03Put.l1.eq_2 _ _ _ _ _) (Ev.neg (by rw [w]; simp) (Ev.const rfl))
  have e2 : Ev (fun k => impl_Pasture_with.l1 [hu x y s] on k (putB p x y s on) (IntKind.i64.wrap (0 + 1))) (putB p x y s on) := Ev.step (fun k => impl_Pasture_with.l1.eq_2 _ _ _ _ _) (Ev.neg (by rw [w]; simp) (Ev.const rfl))
  have f1 : Ev (fun k => spec_l03Put.l1 [hu x y s] on k p 0) (putB p x y s on) := Ev.step (fun k => spec_l03Put.l1.eq_2 _ _ _ _ _) (Ev.pos (by simp) (Ev.bind (Ev.const g) (Ev.bind (Ev.const g) (Ev.bind (Ev.const (side_eq _)) (Ev.bind (Ev.const (setS_eq' p hx hy s on)) e1)))))
  have f2 : Ev (fun k => impl_Pasture_with.l1 [hu x y s] on k p 0) (putB p x y s on) := Ev.step (fun k => impl_Pasture_with.l1.eq_2 _ _ _ _ _) (Ev.pos (by simp) (Ev.bind (Ev.const g) (Ev.bind (Ev.const (putI_eq p hx hy s on)) e2)))
  exact ⟨f1.bind (Ev.const rfl), f2.bind (Ev.const rfl)⟩
/-! ### One yard -/
theorem all_conn (hW : 1 ≤ W) (hH : 1 ≤ H) (h : ∀ x y s, bet W H x y s → Rt W H E S y x (bY s y) (bX s x)) : ∀ y x b a, x < W → y < H → a < W → b < H → Rt W H E S y x b a := by
  have r1 : ∀ x, x < W → Rt W H E S 0 0 0 x := by
    intro x
    induction x with
    | zero => intro _; exact Rt.refl
    | succ x ih => intro hx; exact (ih (by omega)).trans (h x 0 false (by unfold bet; simp; omega))
  have r2 : ∀ y x, x < W → y < H → Rt W H E S 0 0 y x := by
    intro y
    induction y with
    | zero => intro x hx _; exact r1 x hx
    | succ y ih => intro x hx hy; exact (ih x hx (by omega)).trans (h x y true (by unfold bet; simp; omega))
  exact fun y x b a hx hy ha hb => ((r2 y x hx hy).symm hW hH).trans (r2 b a ha hb)
theorem NT.one {tab : Tb} {n : Nat} (t : NT W H E S tab n) (hW : 1 ≤ W) (hH : 1 ≤ H) (h : ∀ y x b a, x < W → y < H → a < W → b < H → Rt W H E S y x b a) : n = 1 := by
  have p0 := t.pos 0 0 hW hH
  by_cases c : 2 ≤ n
  · obtain ⟨y, x, hx, hy, e⟩ := t.sur 0 (by omega)
    obtain ⟨b, a, ha, hb, e2⟩ := t.sur 1 (by omega)
    have := (t.eq y x b a hx hy ha hb).1 (h y x b a hx hy ha hb)
    omega
  · omega
theorem sameFence_ev {L : List Hurdle} (hl : L.length ≤ 1000) : Ev (fun k => spec_SameFence.f k L L) true := by
  have key : ∀ i, i ≤ L.length → Ev (fun k => spec_SameFence.l1 L L k (i : Int)) (.inr ()) := by
    refine upL ?_ ?_
    · exact Ev.step (fun k => spec_SameFence.l1.eq_2 _ _ _ _) (Ev.neg (by omega) (Ev.const rfl))
    · intro i hi ih
      rw [← wsucc hi (by omega)] at ih
      exact Ev.step (fun k => spec_SameFence.l1.eq_2 _ _ _ _) (Ev.pos (by omega) (Ev.bind (Ev.const (getI_nat hi)) (Ev.bind (Ev.const (getI_nat hi)) (Ev.neg (by simp) ih))))
  exact Ev.neg (by simp) ((key 0 (Nat.zero_le _)).bind (Ev.const rfl))
theorem joins_ev (h : PD W H Gr E S p) (hG : ∀ y x, x < W → y < H → 0 ≤ Gr y x ∧ Gr y x ≤ 1000) (hW : 1 ≤ W ∧ W ≤ 10) (hH : 1 ≤ H ∧ H ≤ 10) : ∃ (due : List Hurdle) (q : Pasture) (tab : Tb) (ys ys' : List (List Spot)), due.length ≤ 200 ∧ Ev (fun k => impl_JoinYards.f k p) (due, 0) ∧ Ev (fun k => spec_JoinYards.f k p) (due, 0) ∧ NT W H E S tab ys.length ∧ ys.length ≤ 100 ∧ Ev (fun k => spec_YardsOf.f k p) (ys, 0) ∧ ys.length = due.length + 1 ∧ Ev (fun k => impl_TakeHurdles.f k p due) (q, 0) ∧ Ev (fun k => spec_YardsOf.f k q) (ys', 0) ∧ ys'.length = 1 := by
  have v := h.V hW.2 hH.2 hG
  have hp := h.ok hW hH hG
  have hw := vP_okW hp
  have hl := stL_len hw
  have hB := h.stL_btw hW.2 hH.2
  obtain ⟨out, q, E', S', k1, k2, k3, k4, k5, k6, k7, k8, k9⟩ := join_loop hG hW hH (l := stL p) (by omega) hB 0 (Nat.zero_le _) p E S [] h (by simp)
  rw [List.nil_append] at k2 k3
  obtain ⟨tab, ys, t, tl, _, ty⟩ := numS_ev h hG hW hH
  obtain ⟨q', q1, q2⟩ := h.take hG hW hH (L := out) (by omega) (fun g hg => hB g (k5 g hg))
  have e : q' = q := q2.ext k1 (fun _ _ _ _ => rfl) (fun b a _ _ => (k7 b a).symm) (fun b a _ _ => (k8 b a).symm)
  subst e
  have hall : ∀ y x b a, x < W → y < H → a < W → b < H → Rt W H E' S' y x b a := all_conn hW.1 hH.1 fun x y s hb => by
    obtain ⟨⟨h1, h2⟩, _⟩ := hb.both
    cases hs : stOf E S x y s
    · have e : stepT W H E S y x (bY s y) (bX s x) := by
        unfold bet at hb
        unfold stOf at hs
        cases s
        · simp only [Bool.false_eq_true, if_false] at hb hs
          exact .inl ⟨rfl, rfl, hb.1, hs⟩
        · simp only [if_true] at hb hs
          exact .inr (.inl ⟨rfl, rfl, hb.2, hs⟩)
      exact (Rt.step h1 h2 e).mono (fun b a z => by rw [k7 b a]; split <;> first | rfl | exact z) (fun b a z => by rw [k8 b a]; split <;> first | rfl | exact z) h1 h2
    · exact k9 x y s (by rw [List.drop_zero]; exact (h.stL_mem hW.2 hH.2 _).2 ⟨x, y, s, rfl, hb, hs⟩)
  obtain ⟨tab', k, t', ek⟩ := k6 tab ys.length t
  have ek1 := t'.one hW.1 hH.1 hall
  obtain ⟨tab2, ys', t2, _, _, ty2⟩ := numS_ev k1 hG hW hH
  refine ⟨out, q', tab, ys, ys', by omega, ?_, ?_, t, tl, ty, by omega, q1, ty2, t2.one hW.1 hH.1 hall⟩
  · refine (implOk_ev v).bind ?_
    rw [hp]
    exact Ev.neg (by simp) ((hurdles_ev v hw).bind (k2.bind (Ev.const rfl)))
  · refine (specOk_ev v).bind ?_
    rw [hp]
    exact Ev.neg (by simp) ((standing_ev v hw).bind (k3.bind (Ev.const rfl)))
end Go.Proofs.YtloljfkfnpgjfaaGreat
/-
  Plain law: weak sides.
-/
namespace Go.Proofs.YtloljfkfnpgjfaaGreat
open G
set_option linter.unusedVariables false
set_option linter.unusedSimpArgs false
variable {W H : Nat} {p q : Pasture} {Gr : Nat → Nat → Int} {E S E' S' : Nat → Nat → Bool} {y x b a d c y' x' : Nat} {s : Bool}
theorem sides_l2_eq (v : VPasture p) (hw : okW p = true) (hx : x < p.Wide.toNat) (hy : y < p.High.toNat) {g : Hurdle → Option Bool} {f : Hurdle → Bool} (hg : ∀ s, isB p x y s = true → g (hu x y s) = some (f (hu x y s))) (acc : List Hurdle) (ha : acc.length ≤ 4000) {k : Nat} (hk : 3 ≤ k) : impl_Pasture_sides.l2 p g (sp x y) k acc 0 = some (acc ++ (cellH p x y).filter f) := by
  obtain ⟨w1, w2⟩ := okW_iff.1 hw
  have hc := cellB_grid hw hx hy
  have one : ∀ (s : Bool) (i : Nat) (acc : List Hurdle) (k : Nat), i < 2 → acc.length ≤ 4001 → getI ([false, true] : List Bool) (i : Int) = some s →
      impl_Pasture_sides.l2 p g (sp x y) (k + 1) acc (i : Int) = impl_Pasture_sides.l2 p g (sp x y) k (acc ++ (if isB p x y s = true ∧ f (hu x y s) = true then [hu x y s] else [])) ((i + 1 : Nat) : Int) := by
    intro s i acc k hi hal hgi
    have h1 : impl_Pasture_isHurdle.f p (⟨sp x y, s⟩ : Hurdle) = some (isB p x y s) := implIs_eq v hw (x := x) (y := y) (by omega) (by omega) hc s
    have e : IntKind.i64.wrap ((i : Int) + 1) = ((i + 1 : Nat) : Int) := wsucc hi (by omega)
    rw [impl_Pasture_sides.l2.eq_2, if_pos (by simp; omega), hgi, Option.bind_some, h1, Option.bind_some, e]
    cases i1 : isB p x y s
    · rw [if_neg (by simp), if_neg (by simp), List.append_nil]
    · have h2 : g (⟨sp x y, s⟩ : Hurdle) = some (f (hu x y s)) := hg s i1
      rw [if_pos rfl, h2, Option.bind_some]
      cases i2 : f (hu x y s)
      · rw [if_neg (by simp), if_neg (by simp), List.append_nil]
      · rw [if_pos rfl, if_pos (by simp), chkT (by simp; omega), Option.bind_some]
        rfl
  obtain ⟨k, rfl⟩ : ∃ k', k = k' + 1 + 1 + 1 := ⟨k - 3, by omega⟩
  have h1 := one false 0 acc (k + 1 + 1) (by omega) (by omega) rfl
  have h2 := one true 1 (acc ++ (if isB p x y false = true ∧ f (hu x y false) = true then [hu x y false] else [])) (k + 1) (by omega) (by rw [List.length_append]; split <;> simp <;> omega) rfl
  have h3 : ((0 : Nat) : Int) = 0 := rfl
  rw [← h3, h1, h2, impl_Pasture_sides.l2.eq_2, if_neg (by simp), List.append_assoc]
  congr 2
  unfold cellH
  rw [List.filter_append]
  cases isB p x y false <;> cases isB p x y true <;> cases h3 : f (hu x y false) <;> cases h4 : f (hu x y true) <;> simp [h3, h4]
def flF (p : Pasture) (f : Hurdle → Bool) (l : List Spot) : List Hurdle := l.flatMap fun s => (cellH p s.X.toNat s.Y.toNat).filter f
theorem flF_row (p : Pasture) (f : Hurdle → Bool) (y : Nat) : ∀ n x, flF p f (rowF (fun _ => true) y x n) = (rowH p y x n).filter f
  | 0, x => rfl
  | n + 1, x => by
    rw [rowF, rowH, List.filter_append, ← flF_row p f y n (x + 1), if_pos rfl]
    unfold flF
    rw [List.flatMap_append]
    congr 1
    show (cellH p (x : Int).toNat (y : Int).toNat).filter f ++ [] = _
    rw [List.append_nil]; rfl
theorem flF_grid (p : Pasture) (f : Hurdle → Bool) (W : Nat) : ∀ n y, flF p f (gridF (fun _ _ => true) W y n) = (gridH p W y n).filter f
  | 0, y => rfl
  | n + 1, y => by
    rw [gridF, gridH, List.filter_append, ← flF_grid p f W n (y + 1), ← flF_row]
    unfold flF
    rw [List.flatMap_append]
theorem sides_eq (v : VPasture p) (hw : okW p = true) {g : Hurdle → Option Bool} {f : Hurdle → Bool} (hg : ∀ h ∈ gridH p p.Wide.toNat 0 p.High.toNat, g h = some (f h)) {k : Nat} (hk : 200 ≤ k) : impl_Pasture_sides.f k p g = some ((gridH p p.Wide.toNat 0 p.High.toNat).filter f) := by
  obtain ⟨a, b⟩ := okW_iff.1 hw
  have hlen : (gridF (fun _ _ => true) p.Wide.toNat 0 p.High.toNat).length ≤ 100 := by
    have := gridF_len (fun _ _ => true) p.Wide.toNat p.High.toNat 0
    have h2 : p.High.toNat * p.Wide.toNat ≤ 10 * 10 := Nat.mul_le_mul (by omega) (by omega)
    omega
  have key : ∀ i, i ≤ (gridF (fun _ _ => true) p.Wide.toNat 0 p.High.toNat).length → ∀ (acc : List Hurdle) (k : Nat), acc.length ≤ 2 * i → (gridF (fun _ _ => true) p.Wide.toNat 0 p.High.toNat).length - i + 4 ≤ k → impl_Pasture_sides.l1 p g (gridF (fun _ _ => true) p.Wide.toNat 0 p.High.toNat) k acc (i : Int) = some (acc ++ flF p f ((gridF (fun _ _ => true) p.Wide.toNat 0 p.High.toNat).drop i)) := by
    refine upL ?_ ?_
    · intro acc k ha hk
      obtain ⟨k, rfl⟩ : ∃ k', k = k' + 1 := ⟨k - 1, by omega⟩
      rw [impl_Pasture_sides.l1.eq_2, if_neg (by omega), List.drop_length]
      simp [flF]
    · intro i hi ih acc k ha hk
      obtain ⟨k, rfl⟩ : ∃ k', k = k' + 1 := ⟨k - 1, by omega⟩
      obtain ⟨y, x, _, hy, hx, _, e⟩ := gridF_mem.1 (List.getElem_mem hi)
      have hgi : getI (gridF (fun _ _ => true) p.Wide.toNat 0 p.High.toNat) (i : Int) = some (sp x y) := by rw [getI_nat hi, e]; rfl
      have hc := sides_l2_eq v hw (x := x) (y := y) hx (by omega) (g := g) (f := f) (fun s hs => hg _ (gridH_mem (x0 := x) (y0 := y) (by
        unfold cellH
        cases s
        · rw [hs, if_pos rfl]; exact List.mem_append.2 (.inl (List.mem_singleton.2 rfl))
        · rw [hs]; exact List.mem_append.2 (.inr (by rw [if_pos rfl]; exact List.mem_singleton.2 rfl))) hx _ 0 (Nat.zero_le _) (by omega))) acc (by omega) (k := k) (by omega)
      have hl : ((cellH p x y).filter f).length ≤ 2 := Nat.le_trans (List.length_filter_le _ _) (cellH_len p x y)
      have := ih (acc ++ (cellH p x y).filter f) k (by rw [List.length_append]; omega) (by omega)
      rw [List.append_assoc] at this
      rw [impl_Pasture_sides.l1.eq_2, if_pos (by omega), hgi, Option.bind_some, hc, Option.bind_some, Option.bind_some, wsucc hi (by omega), this, List.drop_eq_getElem_cons hi, e]
      congr 2
  have := key 0 (Nat.zero_le _) [] k (by simp) (by omega)
  rw [List.nil_append, List.drop_zero, flF_grid] at this
  unfold impl_Pasture_sides.f
  rw [all_eq hw (by omega), Option.bind_some]
  have e0 : ((0 : Nat) : Int) = 0 := rfl
  rw [e0] at this
  rw [this]; rfl
theorem evAllH {xs : List Hurdle} {g : Nat → Hurdle → Option Bool} {p : Hurdle → Bool} (h : ∀ x ∈ xs, Ev (fun k => g k x) (p x)) : ∃ J, ∀ j, J ≤ j → ∀ x ∈ xs, g j x = some (p x) := by
  induction xs with
  | nil => exact ⟨0, fun j _ x hx => by simp at hx⟩
  | cons y ys ih =>
    obtain ⟨J, hJ⟩ := ih fun x hx => h x (List.mem_cons_of_mem _ hx)
    obtain ⟨K, hK⟩ := h y (List.mem_cons_self ..)
    refine ⟨J + K, fun j hj x hx => ?_⟩
    rcases List.mem_cons.1 hx with rfl | hx
    · exact hK j (by omega)
    · exact hJ j (by omega) x hx
/-- One side of a list. -/
theorem slice1 {α : Type} {l : List α} {i : Nat} (hi : i < l.length) (hl : l.length ≤ 1000) : chk ((0 : Int) ≤ (i : Int) ∧ (i : Int) ≤ IntKind.i64.wrap ((i : Int) + 1) ∧ IntKind.i64.wrap ((i : Int) + 1) ≤ (l.length : Int)) = some () ∧ (l.drop (i : Int).toNat).take ((IntKind.i64.wrap ((i : Int) + 1)).toNat - (i : Int).toNat) = [l[i]] := by
  have e : IntKind.i64.wrap ((i : Int) + 1) = ((i + 1 : Nat) : Int) := by rw [w64 (by omega) (by omega)]; omega
  rw [e]
  refine ⟨chk_t (by omega), ?_⟩
  rw [show (i : Int).toNat = i by omega, show ((i + 1 : Nat) : Int).toNat - i = 1 by omega, List.drop_eq_getElem_cons hi]
  rfl
theorem PD.shut (h : PD W H Gr E S p) (hW : W ≤ 10) (hH : H ≤ 10) (hb : bet W H x y s) : PD W H Gr (opE s E y x true) (opS s S y x true) (putB p x y s true) := by
  obtain ⟨⟨h1, h2⟩, _⟩ := hb.both
  exact h.put (by omega) (by omega) s true (fun _ => hb)
theorem weak_one (h : PD W H Gr E S p) (hG : ∀ y x, x < W → y < H → 0 ≤ Gr y x ∧ Gr y x ≤ 1000) (hW : 1 ≤ W ∧ W ≤ 10) (hH : 1 ≤ H ∧ H ≤ 10) (hb : bet W H x y s) : ∃ w : Bool, Ev (fun k => impl_WeakSides_1.f k p (hu x y s)) w ∧ (stOf E S x y s = true → w = false) ∧
    (stOf E S x y s = false → ∃ n : Tb, Ev (fun k => spec_l03Put.f k p [hu x y s] true) (putB p x y s true) ∧ Ev (fun k => spec_l01Steps.f k (putB p x y s true) (hu x y s).At) n ∧ (g2 n (bY s y) (bX s x) = 0 ↔ w = true)) ∧
    (w = true → stOf E S x y s = false ∧ ¬ Rt W H (opE s E y x true) (opS s S y x true) y x (bY s y) (bX s x)) := by
  obtain ⟨⟨h1, h2⟩, h3, h4⟩ := hb.both
  have hq := h.shut hW.2 hH.2 hb
  obtain ⟨m, n, e1, e2, e3, e4, _, _, e7, e8, e9⟩ := hur_ev hq hG hW hH hb
  obtain ⟨f1, f2⟩ := put_one p (x := x) (y := y) (by omega) (by omega) s true
  have hst : impl_Pasture_stands.f p (hu x y s) = some (stOf E S x y s) := (implSt_eq p (x := x) (y := y) (by omega) s).trans (congrArg some (h.st hW.2 hH.2 hb))
  cases c : stOf E S x y s
  · rw [c] at hst
    refine ⟨decide (g2 m (bY s y) (bX s x) < 0), f2.bind (e1.bind (Ev.bind (Ev.const hst) (Ev.pos rfl (Ev.bind (Ev.const e3) (Ev.bind (Ev.const e4) (Ev.const rfl)))))), (fun z => by cases z), fun _ => ⟨n, f1, e2, ?_⟩, fun z => ⟨rfl, fun r => ?_⟩⟩
    · rw [decide_eq_true_eq]; omega
    · rw [decide_eq_true_eq] at z
      have := e9.2 r
      omega
  · rw [c] at hst
    exact ⟨false, f2.bind (e1.bind (Ev.bind (Ev.const hst) (Ev.neg (by simp) (Ev.const rfl)))), fun _ => rfl, (fun z => by cases z), (fun z => by cases z)⟩
theorem weak_ev (h : PD W H Gr E S p) (hG : ∀ y x, x < W → y < H → 0 ≤ Gr y x ∧ Gr y x ≤ 1000) (hW : 1 ≤ W ∧ W ≤ 10) (hH : 1 ≤ H ∧ H ≤ 10) : ∃ L : List Hurdle, L.length ≤ 200 ∧ Ev (fun k => impl_WeakSides.f k p) (L, 0) ∧ Ev (fun k => spec_WeakSides.f k p) (L, 0) ∧ ∀ g ∈ L, ∃ x y s, g = hu x y s ∧ bet W H x y s ∧ stOf E S x y s = false ∧ ¬ Rt W H (opE s E y x true) (opS s S y x true) y x (bY s y) (bX s x) := by
  have v := h.V hW.2 hH.2 hG
  have hp := h.ok hW hH hG
  have hw := vP_okW hp
  have hl := (stL_len hw).2
  have eW : p.Wide.toNat = W := by rw [h.w]; omega
  have eH : p.High.toNat = H := by rw [h.h]; omega
  have hch : ∀ g : Hurdle, ∃ w : Bool, ∀ x y s, g = hu x y s → bet W H x y s → Ev (fun k => impl_WeakSides_1.f k p g) w ∧ (stOf E S x y s = true → w = false) ∧
    (stOf E S x y s = false → ∃ n : Tb, Ev (fun k => spec_l03Put.f k p [g] true) (putB p x y s true) ∧ Ev (fun k => spec_l01Steps.f k (putB p x y s true) g.At) n ∧ (g2 n (bY s y) (bX s x) = 0 ↔ w = true)) ∧
    (w = true → stOf E S x y s = false ∧ ¬ Rt W H (opE s E y x true) (opS s S y x true) y x (bY s y) (bX s x)) := fun g => by
      by_cases hg : ∃ x y s, g = hu x y s ∧ bet W H x y s
      · obtain ⟨x, y, s, rfl, hb⟩ := hg
        obtain ⟨w, r⟩ := weak_one h hG hW hH hb
        refine ⟨w, fun x1 y1 s1 e hb1 => ?_⟩
        obtain ⟨rfl, rfl, rfl⟩ := hu_inj e
        exact r
      · exact ⟨false, fun x y s e hb => absurd ⟨x, y, s, e, hb⟩ hg⟩
  have hch2 : ∃ f : Hurdle → Bool, ∀ g x y s, g = hu x y s → bet W H x y s → Ev (fun k => impl_WeakSides_1.f k p g) (f g) ∧ (stOf E S x y s = true → f g = false) ∧
    (stOf E S x y s = false → ∃ n : Tb, Ev (fun k => spec_l03Put.f k p [g] true) (putB p x y s true) ∧ Ev (fun k => spec_l01Steps.f k (putB p x y s true) g.At) n ∧ (g2 n (bY s y) (bX s x) = 0 ↔ f g = true)) ∧
    (f g = true → stOf E S x y s = false ∧ ¬ Rt W H (opE s E y x true) (opS s S y x true) y x (bY s y) (bX s x)) := ⟨fun g => Classical.choose (hch g), fun g => Classical.choose_spec (hch g)⟩
  obtain ⟨f, hf⟩ := hch2
  have hB : Btw W H (gridH p p.Wide.toNat 0 p.High.toNat) := fun g hg => by
    rw [eW, eH] at hg
    exact (h.grid_mem hW.2 hH.2 g).1 hg
  obtain ⟨J, hJ⟩ := evAllH (xs := gridH p p.Wide.toNat 0 p.High.toNat) (g := fun k => impl_WeakSides_1.f k p) (p := f) (fun g hg => by
    obtain ⟨x, y, s, e, hb⟩ := hB g hg
    exact (hf g x y s e hb).1)
  have hS : Ev (fun k => impl_Pasture_sides.f k p (impl_WeakSides_1.f k p)) ((gridH p p.Wide.toNat 0 p.High.toNat).filter f) := ⟨J + 200, fun k hk => sides_eq v hw (hJ k (by omega)) (by omega)⟩
  have key : ∀ i, i ≤ (gridH p p.Wide.toNat 0 p.High.toNat).length → ∀ acc : List Hurdle, acc.length ≤ i → Ev (fun k => spec_WeakSides.l1 p (gridH p p.Wide.toNat 0 p.High.toNat) k acc (i : Int)) (acc ++ ((gridH p p.Wide.toNat 0 p.High.toNat).drop i).filter f) := by
    refine upL ?_ ?_
    · intro acc ha
      rw [List.drop_length]
      exact Ev.step (fun k => spec_WeakSides.l1.eq_2 _ _ _ _ _) (Ev.neg (by omega) (Ev.const (by simp)))
    · intro i hi ih acc ha
      obtain ⟨x, y, s, e, hb⟩ := hB _ (List.getElem_mem hi)
      obtain ⟨⟨h1, h2⟩, h3, h4⟩ := hb.both
      obtain ⟨_, g1, g2', _⟩ := hf _ x y s e hb
      have hget := getI_nat hi
      have hst : spec_l03Stands.f p (gridH p p.Wide.toNat 0 p.High.toNat)[i] = some (stOf E S x y s) := by
        rw [e]
        exact (specSt_eq v hw (x := x) (y := y) (by omega) (by omega) (s := s) (h.is_bet hW.2 hH.2 hb)).trans (congrArg some (h.st hW.2 hH.2 hb))
      rw [List.drop_eq_getElem_cons hi, List.filter_cons]
      cases c : stOf E S x y s
      · rw [c] at hst
        obtain ⟨n, p1, p2, p3⟩ := g2' c
        obtain ⟨s1, s2⟩ := slice1 hi (by omega)
        have hd : spec_l03Side.f (gridH p p.Wide.toNat 0 p.High.toNat)[i] = some (sdI s : Int) := by rw [e]; exact side_eq _
        have hn : spec_l01Next.f (gridH p p.Wide.toNat 0 p.High.toNat)[i].At (sdI s : Int) = some (sp (bX s x) (bY s y)) := by
          rw [e]; exact (next_eq _ _).trans (congrArg some (beyond (by omega) (by omega) s))
        have gn1 := getR n (show bY s y < 10 by omega)
        have gn2 := getA (gR n (bY s y)) (show bX s x < 10 by omega)
        have p1' : Ev (fun k => spec_l03Put.f k p (((gridH p p.Wide.toNat 0 p.High.toNat).drop (i : Int).toNat).take ((IntKind.i64.wrap ((i : Int) + 1)).toNat - (i : Int).toNat)) true) (putB p x y s true) := by rw [s2]; exact p1
        by_cases z : g2 n (bY s y) (bX s x) = 0
        · rw [if_pos (p3.1 z)]
          have ih := ih (acc ++ [(gridH p p.Wide.toNat 0 p.High.toNat)[i]]) (by simp; omega)
          rw [← wsucc hi (by omega), List.append_assoc] at ih
          exact Ev.step (fun k => spec_WeakSides.l1.eq_2 _ _ _ _ _) (Ev.pos (by omega) (Ev.bind (Ev.const hget) (Ev.bind (Ev.const hst) (Ev.neg (by simp) (Ev.bind (Ev.const s1) (p1'.bind (Ev.bind (Ev.const hget) (p2.bind (Ev.bind (Ev.const hget) (Ev.bind (Ev.const hget) (Ev.bind (Ev.const hd) (Ev.bind (Ev.const hn) (Ev.bind (Ev.const gn1) (Ev.bind (Ev.const gn2) (Ev.pos z (Ev.bind (Ev.const hget) (Ev.bind (Ev.const (chk_t (by simp; omega))) ih)))))))))))))))))
        · rw [if_neg fun u => z (p3.2 u)]
          have ih := ih acc (by omega)
          rw [← wsucc hi (by omega)] at ih
          exact Ev.step (fun k => spec_WeakSides.l1.eq_2 _ _ _ _ _) (Ev.pos (by omega) (Ev.bind (Ev.const hget) (Ev.bind (Ev.const hst) (Ev.neg (by simp) (Ev.bind (Ev.const s1) (p1'.bind (Ev.bind (Ev.const hget) (p2.bind (Ev.bind (Ev.const hget) (Ev.bind (Ev.const hget) (Ev.bind (Ev.const hd) (Ev.bind (Ev.const hn) (Ev.bind (Ev.const gn1) (Ev.bind (Ev.const gn2) (Ev.neg z ih)))))))))))))))
      · rw [c] at hst
        rw [if_neg (by rw [g1 c]; simp)]
        have ih := ih acc (by omega)
        rw [← wsucc hi (by omega)] at ih
        exact Ev.step (fun k => spec_WeakSides.l1.eq_2 _ _ _ _ _) (Ev.pos (by omega) (Ev.bind (Ev.const hget) (Ev.bind (Ev.const hst) (Ev.pos rfl ih))))
  have k0 := key 0 (Nat.zero_le _) [] (by simp)
  rw [List.nil_append, List.drop_zero] at k0
  refine ⟨(gridH p p.Wide.toNat 0 p.High.toNat).filter f, Nat.le_trans (List.length_filter_le _ _) hl, ?_, ?_, fun g hg => ?_⟩
  · refine (implOk_ev v).bind ?_
    rw [hp]
    exact Ev.neg (by simp) (hS.bind (Ev.const rfl))
  · refine (specOk_ev v).bind ?_
    rw [hp]
    exact Ev.neg (by simp) ((specAllH_ev v hw).bind (k0.bind (Ev.const rfl)))
  · obtain ⟨m1, m2⟩ := List.mem_filter.1 hg
    obtain ⟨x, y, s, e, hb⟩ := hB g m1
    obtain ⟨_, _, _, r⟩ := hf g x y s e hb
    exact ⟨x, y, s, e, hb, r m2⟩
end Go.Proofs.YtloljfkfnpgjfaaGreat
/-
  Plain law: each weak side parts its yard; the best gate.
-/
namespace Go.Proofs.YtloljfkfnpgjfaaGreat
open G
set_option linter.unusedVariables false
set_option linter.unusedSimpArgs false
variable {W H : Nat} {p q : Pasture} {Gr : Nat → Nat → Int} {E S E' S' : Nat → Nat → Bool} {y x b a d c y' x' : Nat} {s : Bool}
theorem cells_code {xs : List Spot} (v : VPasture p) (ok : vP p = true) (hx : xs.length ≤ 1000) (h : ∀ s ∈ xs, ∃ x y : Nat, x < p.Wide.toNat ∧ y < p.High.toNat ∧ s = sp x y) : Ev (fun k => impl_cellCode.f k p xs) 0 := by
  obtain ⟨w1, w2⟩ := okW_iff.1 (vP_okW ok)
  have hc := cellCode_ev v xs (fun s hs => by
    obtain ⟨x, y, hx, hy, rfl⟩ := h s hs
    exact VSpot_nat (by omega) (by omega)) (by omega)
  have e : cCode p xs = 0 := by
    unfold cCode
    rw [ok]
    have : okC p xs = true := List.all_eq_true.2 fun s hs => by
      obtain ⟨x, y, hx, hy, rfl⟩ := h s hs
      exact cellB_grid (vP_okW ok) hx hy
    rw [this]; rfl
  rw [e] at hc
  exact hc
theorem add_one (h : PD W H Gr E S p) (hG : ∀ y x, x < W → y < H → 0 ≤ Gr y x ∧ Gr y x ≤ 1000) (hW : 1 ≤ W ∧ W ≤ 10) (hH : 1 ≤ H ∧ H ≤ 10) (hb : bet W H x y s) : Ev (fun k => impl_AddHurdles.f k p [hu x y s]) (putB p x y s true, 0) ∧ Ev (fun k => impl_TakeHurdles.f k p [hu x y s]) (putB p x y s false, 0) ∧ Ev (fun k => spec_TakeHurdles.f k p [hu x y s]) (putB p x y s false, 0) := by
  obtain ⟨⟨h1, h2⟩, _⟩ := hb.both
  obtain ⟨c1, c2⟩ := h.code hG hW hH (L := [hu x y s]) (by simp) (fun g hg => ⟨x, y, s, List.mem_singleton.1 hg, hb⟩)
  have f1 := (put_one p (x := x) (y := y) (by omega) (by omega) s true).2
  obtain ⟨f2, f3⟩ := put_one p (x := x) (y := y) (by omega) (by omega) s false
  exact ⟨c1.bind (Ev.neg (by simp) (f1.bind (Ev.const rfl))), c1.bind (Ev.neg (by simp) (f3.bind (Ev.const rfl))), c2.bind (Ev.neg (by simp) (f2.bind (Ev.const rfl)))⟩
theorem opE_back (hs : stOf E S x y s = false) : opE s (opE s E y x true) y x false = E ∧ opS s (opS s S y x true) y x false = S := by
  unfold stOf at hs
  unfold opE opS
  cases s
  · simp only [Bool.false_eq_true, if_false] at hs ⊢
    refine ⟨?_, trivial⟩
    funext b a
    unfold upd
    by_cases z : b = y ∧ a = x
    · rw [if_pos z, z.1, z.2]; exact hs.symm
    · rw [if_neg z, if_neg z]
  · simp only [if_true] at hs ⊢
    refine ⟨trivial, ?_⟩
    funext b a
    unfold upd
    by_cases z : b = y ∧ a = x
    · rw [if_pos z, z.1, z.2]; exact hs.symm
    · rw [if_neg z, if_neg z]
theorem weakLaw_loop (h : PD W H Gr E S p) (hG : ∀ y x, x < W → y < H → 0 ≤ Gr y x ∧ Gr y x ≤ 1000) (hW : 1 ≤ W ∧ W ≤ 10) (hH : 1 ≤ H ∧ H ≤ 10) {tab : Tb} {ys : List (List Spot)} (t : NT W H E S tab ys.length) (tl : ys.length ≤ 100) {L : List Hurdle} (hl : L.length ≤ 200) (hL : ∀ g ∈ L, ∃ x y s, g = hu x y s ∧ bet W H x y s ∧ stOf E S x y s = false ∧ ¬ Rt W H (opE s E y x true) (opS s S y x true) y x (bY s y) (bX s x)) : ∀ i, i ≤ L.length → Ev (fun k => laws_FnGates.l1 p (ys, 0) (L, 0) k (i : Int)) (.inr ()) := by
  refine upL ?_ ?_
  · exact Ev.step (fun k => laws_FnGates.l1.eq_2 _ _ _ _ _) (Ev.neg (Int.lt_irrefl _) (Ev.const rfl))
  · intro i hi ih
    rw [← wsucc hi (by omega)] at ih
    obtain ⟨x, y, s, e, hb, hs, hn⟩ := hL _ (List.getElem_mem hi)
    obtain ⟨s1, s2⟩ := slice1 hi (by omega)
    rw [e] at s2
    have hq := h.shut hW.2 hH.2 hb
    obtain ⟨tab1, ys1, t1, tl1, _, ty1⟩ := numS_ev hq hG hW hH
    obtain ⟨o1, o2⟩ := opE_back hs
    have hm := t1.merge hb hn (tab' := tab) (k := ys.length) (by rw [o1, o2]; exact t)
    have a1 : Ev (fun k => impl_AddHurdles.f k p ((L.drop (i : Int).toNat).take ((IntKind.i64.wrap ((i : Int) + 1)).toNat - (i : Int).toNat))) (putB p x y s true, 0) := by rw [s2]; exact (add_one h hG hW hH hb).1
    have wl : IntKind.i64.wrap ((ys.length : Int) + 1) = (ys1.length : Int) := by rw [w64 (by omega) (by omega)]; omega
    exact Ev.step (fun k => laws_FnGates.l1.eq_2 _ _ _ _ _) (Ev.pos (Int.ofNat_lt.2 hi) (Ev.bind (Ev.const s1) (a1.bind (ty1.bind (Ev.neg (by simp) (Ev.neg (by simp) (Ev.neg (by show ¬ (ys1.length : Int) ≠ IntKind.i64.wrap ((ys.length : Int) + 1); rw [wl]; simp) ih)))))))
/-! ### Steps between two cells -/
theorem steps_ev (h : PD W H Gr E S p) (hG : ∀ y x, x < W → y < H → 0 ≤ Gr y x ∧ Gr y x ≤ 1000) (hW : 1 ≤ W ∧ W ≤ 10) (hH : 1 ≤ H ∧ H ≤ 10) {ax ay bx by_ : Nat} (ha : ax < W ∧ ay < H) (hb : bx < W ∧ by_ < H) : ∃ (m n : Tb) (v : Int), -1 ≤ v ∧ v ≤ 101 ∧ Ev (fun k => impl_Pasture_far.f k p ([sp ax ay] : List Spot)) m ∧ impl_steps_at.f m (sp bx by_) = some v ∧ Ev (fun k => spec_l01Steps.f k p (sp ax ay)) n ∧ g2 n by_ bx = v + 1 ∧
    Ev (fun k => impl_StepsBetween.f k p (sp ax ay) (sp bx by_)) (if v < 0 then (0, 6) else (v, 0)) ∧ Ev (fun k => spec_StepsBetween.f k p (sp ax ay) (sp bx by_)) (if v < 0 then (0, 6) else (v, 0)) ∧ (0 ≤ v ↔ Rt W H E S ay ax by_ bx) ∧ Ev (fun k => spec_l01Asked.f k p (sp ax ay) true) 0 ∧ spec_l01Is.f p (sp bx by_) = some true ∧ Ev (fun k => impl_cellCode.f k p ([sp ax ay, sp bx by_] : List Spot)) 0 := by
  have v := h.V hW.2 hH.2 hG
  have hp := h.ok hW hH hG
  have hw := vP_okW hp
  have eW : p.Wide.toNat = W := by rw [h.w]; omega
  have eH : p.High.toNat = H := by rw [h.h]; omega
  obtain ⟨m, n, e1, e2, hm, hr⟩ := far_rt h hG hW hH ha.1 ha.2
  have g := hm by_ bx (by omega) (by omega)
  have hst := steps_at (m := m) (x := bx) (y := by_) (by omega) (by omega) (by omega)
  have code : Ev (fun k => impl_cellCode.f k p ([sp ax ay, sp bx by_] : List Spot)) 0 := by
    refine cells_code v hp (by simp) fun s hs => ?_
    simp only [List.mem_cons, List.not_mem_nil, or_false] at hs
    rcases hs with rfl | rfl
    · exact ⟨ax, ay, by omega, by omega, rfl⟩
    · exact ⟨bx, by_, by omega, by omega, rfl⟩
  have hIs : spec_l01Is.f p (sp bx by_) = some true := (l01Is_eq v (sp bx by_) (VSpot_nat (x := bx) (y := by_) (by omega) (by omega))).trans (congrArg some (cellB_grid hw (by omega) (by omega)))
  have hIa : spec_l01Is.f p (sp ax ay) = some true := (l01Is_eq v (sp ax ay) (VSpot_nat (x := ax) (y := ay) (by omega) (by omega))).trans (congrArg some (cellB_grid hw (by omega) (by omega)))
  have hAsk : Ev (fun k => spec_l01Asked.f k p (sp ax ay) true) 0 := by
    refine (specOk_ev v).bind ?_
    rw [hp]
    exact Ev.neg (by simp) (Ev.bind (Ev.const hIa) (Ev.neg (by simp) (Ev.neg (by simp) (Ev.const rfl))))
  have gn1 := getR n (show by_ < 10 by omega)
  have gn2 : getI (gR n by_).l (bx : Int) = some (g2 n by_ bx) := getA _ (show bx < 10 by omega)
  refine ⟨m, n, g2 m by_ bx, g.2.1, g.2.2, e1, hst, e2, g.1, ?_, ?_, hr by_ bx hb.2 hb.1, hAsk, hIs, code⟩
  · refine code.bind (Ev.neg (by simp) (e1.bind (Ev.bind (Ev.const hst) ?_)))
    by_cases c : g2 m by_ bx < 0
    · rw [show (if g2 m by_ bx < 0 then ((0 : Int), (6 : Int)) else (g2 m by_ bx, 0)) = (0, 6) from if_pos c]; exact Ev.pos c (Ev.const rfl)
    · rw [show (if g2 m by_ bx < 0 then ((0 : Int), (6 : Int)) else (g2 m by_ bx, 0)) = (g2 m by_ bx, 0) from if_neg c]; exact Ev.neg c (Ev.bind (Ev.const hst) (Ev.const rfl))
  · refine Ev.bind (Ev.const hIs) (hAsk.bind (Ev.neg (by simp) (e2.bind (Ev.bind (Ev.const gn1) (Ev.bind (Ev.const gn2) ?_)))))
    by_cases c : g2 m by_ bx < 0
    · rw [show (if g2 m by_ bx < 0 then ((0 : Int), (6 : Int)) else (g2 m by_ bx, 0)) = (0, 6) from if_pos c]; exact Ev.pos (by omega) (Ev.const rfl)
    · rw [show (if g2 m by_ bx < 0 then ((0 : Int), (6 : Int)) else (g2 m by_ bx, 0)) = (g2 m by_ bx, 0) from if_neg c]
      refine Ev.neg (by omega) (Ev.bind (Ev.const gn1) (Ev.bind (Ev.const gn2) (Ev.const ?_)))
      rw [g.1, w64 (by omega) (by omega)]
      congr 2
      omega
/-! ### The best gate -/
/-- What a hurdle less brings. -/
structure HD (W H : Nat) (E S : Nat → Nat → Bool) (p : Pasture) (ax ay bx by_ : Nat) (g : Hurdle) (v : Int) : Prop where
  lo : -1 ≤ v
  hi : v ≤ 101
  iff : ∀ x y s, g = hu x y s → (0 ≤ v ↔ Rt W H (opE s E y x false) (opS s S y x false) ay ax by_ bx)
  ev : ∃ (q : Pasture) (m n : Tb), Ev (fun k => impl_TakeHurdles.f k p [g]) (q, 0) ∧ Ev (fun k => spec_TakeHurdles.f k p [g]) (q, 0) ∧ Ev (fun k => spec_l03Put.f k p [g] false) q ∧ Ev (fun k => impl_Pasture_with.f k p [g] false) q ∧
    Ev (fun k => impl_Pasture_far.f k q ([sp ax ay] : List Spot)) m ∧ impl_steps_at.f m (sp bx by_) = some v ∧ Ev (fun k => spec_l01Steps.f k q (sp ax ay)) n ∧ g2 n by_ bx = v + 1 ∧
    Ev (fun k => impl_StepsBetween.f k q (sp ax ay) (sp bx by_)) (if v < 0 then (0, 6) else (v, 0)) ∧ Ev (fun k => spec_StepsBetween.f k q (sp ax ay) (sp bx by_)) (if v < 0 then (0, 6) else (v, 0))
theorem hd_ev (h : PD W H Gr E S p) (hG : ∀ y x, x < W → y < H → 0 ≤ Gr y x ∧ Gr y x ≤ 1000) (hW : 1 ≤ W ∧ W ≤ 10) (hH : 1 ≤ H ∧ H ≤ 10) {ax ay bx by_ : Nat} (ha : ax < W ∧ ay < H) (hb : bx < W ∧ by_ < H) : ∃ D : Hurdle → Int, ∀ g x y s, g = hu x y s → bet W H x y s → HD W H E S p ax ay bx by_ g (D g) := by
  have hch : ∀ g : Hurdle, ∃ v : Int, ∀ x y s, g = hu x y s → bet W H x y s → HD W H E S p ax ay bx by_ g v := fun g => by
    by_cases hg : ∃ x y s, g = hu x y s ∧ bet W H x y s
    · obtain ⟨x, y, s, rfl, hbt⟩ := hg
      obtain ⟨⟨h1, h2⟩, _⟩ := hbt.both
      have hq := h.opened hW.2 hH.2 hbt
      obtain ⟨m, n, v, v0, v1, e1, e2, e3, e4, e5, e6, e7, _⟩ := steps_ev hq hG hW hH ha hb
      obtain ⟨f1, f2⟩ := put_one p (x := x) (y := y) (by omega) (by omega) s false
      obtain ⟨_, t1, t2⟩ := add_one h hG hW hH hbt
      refine ⟨v, fun x1 y1 s1 e hb1 => ⟨v0, v1, fun x2 y2 s2 e2 => ?_, ⟨putB p x y s false, m, n, t1, t2, f1, f2, e1, e2, e3, e4, e5, e6⟩⟩⟩
      obtain ⟨rfl, rfl, rfl⟩ := hu_inj e2
      exact e7
    · exact ⟨0, fun x y s e hb => absurd ⟨x, y, s, e, hb⟩ hg⟩
  exact ⟨fun g => Classical.choose (hch g), fun g => Classical.choose_spec (hch g)⟩
theorem best_loop {ax ay bx by_ : Nat} (hbx : bx < 10) (hby : by_ < 10) {D : Hurdle → Int} {l : List Hurdle} (hl : l.length ≤ 1000) (hD : ∀ g ∈ l, HD W H E S p ax ay bx by_ g (D g)) : ∀ i, i ≤ l.length → ∀ (best : Hurdle) (least : Int), -1 ≤ least → least ≤ 101 →
    ∃ (best' : Hurdle) (least' : Int), -1 ≤ least' ∧ least' ≤ 101 ∧ Ev (fun k => impl_BestGate.l1 p (sp ax ay) (sp bx by_) l k best least (i : Int)) (best', least') ∧ Ev (fun k => spec_BestGate.l1 p (sp ax ay) (sp bx by_) l k best (least + 1) (i : Int)) (best', least' + 1) ∧
      (least' < 0 → least < 0 ∧ ∀ g ∈ l.drop i, D g < 0) ∧ (0 ≤ least' → ((best' = best ∧ least' = least) ∨ (best' ∈ l.drop i ∧ D best' = least')) ∧ (0 ≤ least → least' ≤ least) ∧ ∀ g ∈ l.drop i, 0 ≤ D g → least' ≤ D g) := by
  refine upL ?_ ?_
  · intro best least h0 h1
    refine ⟨best, least, h0, h1, Ev.step (fun k => impl_BestGate.l1.eq_2 _ _ _ _ _ _ _ _) (Ev.neg (by omega) (Ev.const rfl)), Ev.step (fun k => spec_BestGate.l1.eq_2 _ _ _ _ _ _ _ _) (Ev.neg (by omega) (Ev.const rfl)), fun h => ⟨h, ?_⟩, fun h => ⟨.inl ⟨rfl, rfl⟩, fun _ => Int.le_refl _, ?_⟩⟩
    · rw [List.drop_length]; simp
    · rw [List.drop_length]; simp
  · intro i hi ih best least h0 h1
    have hd := hD _ (List.getElem_mem hi)
    obtain ⟨q, m, n, _, _, f1, f2, e1, e2, e3, e4, _, _⟩ := hd.ev
    have d0 := hd.lo
    have d1 := hd.hi
    have hget := getI_nat hi
    obtain ⟨s1, s2⟩ := slice1 hi (by omega)
    have f1' : Ev (fun k => spec_l03Put.f k p ((l.drop (i : Int).toNat).take ((IntKind.i64.wrap ((i : Int) + 1)).toNat - (i : Int).toNat)) false) q := by rw [s2]; exact f1
    have gn1 := getR n hby
    have gn2 : getI (gR n by_).l (bx : Int) = some (g2 n by_ bx) := getA _ hbx
    rw [List.drop_eq_getElem_cons hi]
    by_cases c : 0 ≤ D l[i] ∧ (least < 0 ∨ D l[i] < least)
    · obtain ⟨b', l', a1, a2, a3, a4, a5, a6⟩ := ih l[i] (D l[i]) d0 d1
      rw [← wsucc hi (by omega)] at a3 a4
      refine ⟨b', l', a1, a2, Ev.step (fun k => impl_BestGate.l1.eq_2 _ _ _ _ _ _ _ _) (Ev.pos (by omega) (Ev.bind (Ev.const hget) (f2.bind (e1.bind (Ev.bind (Ev.const e2) (Ev.pos c.1 ?_)))))), Ev.step (fun k => spec_BestGate.l1.eq_2 _ _ _ _ _ _ _ _) (Ev.pos (by omega) (Ev.bind (Ev.const s1) (f1'.bind (e3.bind (Ev.bind (Ev.const gn1) (Ev.bind (Ev.const gn2) (Ev.bind (a := true) (Ev.pos (by omega) ?_) (Ev.pos rfl (Ev.bind (Ev.const hget) ?_))))))))), fun h => ?_, fun h => ?_⟩
      · by_cases c2 : least < 0
        · exact Ev.pos c2 a3
        · exact Ev.neg c2 (Ev.pos (by omega) a3)
      · by_cases c2 : least + 1 = 0
        · exact Ev.pos c2 (Ev.const rfl)
        · exact Ev.neg c2 (Ev.const (by rw [decide_eq_true (by omega)]))
      · rw [e4]; exact a4
      · have := (a5 h).1; omega
      · obtain ⟨k1, k2, k3⟩ := a6 h
        refine ⟨.inr ?_, fun hl0 => ?_, fun g hg hg0 => ?_⟩
        · rcases k1 with ⟨rfl, k1⟩ | ⟨k0, k1⟩
          · exact ⟨List.mem_cons_self .., k1.symm⟩
          · exact ⟨List.mem_cons_of_mem _ k0, k1⟩
        · have := k2 c.1; omega
        · rcases List.mem_cons.1 hg with rfl | hg
          · exact k2 c.1
          · exact k3 g hg hg0
    · obtain ⟨b', l', a1, a2, a3, a4, a5, a6⟩ := ih best least h0 h1
      rw [← wsucc hi (by omega)] at a3 a4
      refine ⟨b', l', a1, a2, Ev.step (fun k => impl_BestGate.l1.eq_2 _ _ _ _ _ _ _ _) (Ev.pos (by omega) (Ev.bind (Ev.const hget) (f2.bind (e1.bind (Ev.bind (Ev.const e2) ?_))))), Ev.step (fun k => spec_BestGate.l1.eq_2 _ _ _ _ _ _ _ _) (Ev.pos (by omega) (Ev.bind (Ev.const s1) (f1'.bind (e3.bind (Ev.bind (Ev.const gn1) (Ev.bind (Ev.const gn2) (Ev.bind (a := false) ?_ (Ev.neg (by simp) a4)))))))), fun h => ?_, fun h => ?_⟩
      · by_cases c2 : 0 ≤ D l[i]
        · exact Ev.pos c2 (Ev.neg (by omega) (Ev.neg (by omega) a3))
        · exact Ev.neg c2 a3
      · by_cases c2 : 0 ≤ D l[i]
        · exact Ev.pos (by omega) (Ev.neg (by omega) (Ev.const (by rw [decide_eq_false (by omega)])))
        · exact Ev.neg (by omega) (Ev.const rfl)
      · obtain ⟨k1, k2⟩ := a5 h
        refine ⟨k1, fun g hg => ?_⟩
        rcases List.mem_cons.1 hg with rfl | hg
        · omega
        · exact k2 g hg
      · obtain ⟨k1, k2, k3⟩ := a6 h
        refine ⟨?_, k2, fun g hg hg0 => ?_⟩
        · rcases k1 with k1 | ⟨k0, k1⟩
          · exact .inl k1
          · exact .inr ⟨List.mem_cons_of_mem _ k0, k1⟩
        · rcases List.mem_cons.1 hg with rfl | hg
          · have := k2 (by omega); omega
          · exact k3 g hg hg0
end Go.Proofs.YtloljfkfnpgjfaaGreat
/-
  Plain law: the search from several cells.
-/
namespace Go.Proofs.YtloljfkfnpgjfaaGreat
open G
set_option linter.unusedVariables false
set_option linter.unusedSimpArgs false
variable {W H : Nat} {p q : Pasture} {Gr : Nat → Nat → Int} {E S E' S' : Nat → Nat → Bool} {y x b a d c y' x' : Nat} {s : Bool}
structure Km (p : Pasture) (T0 : Nat → Nat → Prop) (m : Tb) (q : List Spot) : Prop where
  lo : ∀ b a, b < 10 → a < 10 → -1 ≤ g2 m b a
  hi : ∀ b a, b < 10 → a < 10 → g2 m b a ≤ q.length
  fr : q.length + frA m 10 ≤ 3000
  cells : ∀ s ∈ q, ∃ x y : Nat, x < 10 ∧ y < 10 ∧ s = sp x y
  inq : ∀ b a, b < 10 → a < 10 → 0 ≤ g2 m b a → sp a b ∈ q
  mkd : ∀ b a, b < 10 → a < 10 → sp a b ∈ q → 0 ≤ g2 m b a
  min : ∀ T : Nat → Nat → Prop, closedT p T → (∀ b a, b < 10 → a < 10 → T0 b a → T b a) → ∀ b a, b < 10 → a < 10 → 0 ≤ g2 m b a → T b a
theorem Km.put {T0 : Nat → Nat → Prop} {m : Tb} {q : List Spot} (h : Km p T0 m q) (hy : y < 10) (hx : x < 10) (hm : 0 ≤ g2 m y x) (hs : stepP p y x y' x') (hg : g2 m y' x' < 0) : Km p T0 (put2 m y' x' (g2 m y x + 1)) (q ++ [sp x' y']) := by
  obtain ⟨hy', hx', _⟩ := id hs
  have hf := (frA_put m hy' hx' (v := g2 m y x + 1) (by omega) hg 10).2 hy'
  have hfr := h.fr
  refine ⟨fun b a hb ha => ?_, fun b a hb ha => ?_, ?_, fun s hs => ?_, fun b a hb ha hp => ?_, fun b a hb ha hp => ?_, fun T hT h0 b a hb ha hp => ?_⟩
  · rw [g2_put m hy' hx']
    split
    · omega
    · exact h.lo b a hb ha
  · have := h.hi b a hb ha
    have := h.hi y x hy hx
    rw [g2_put m hy' hx', List.length_append]
    split
    · simp; omega
    · simp; omega
  · simp only [List.length_append, List.length_cons, List.length_nil]; omega
  · rcases List.mem_append.1 hs with hs | hs
    · exact h.cells s hs
    · exact ⟨x', y', hx', hy', List.mem_singleton.1 hs⟩
  · rw [g2_put m hy' hx'] at hp
    split at hp
    · rename_i e
      rw [← e.1, ← e.2]; simp
    · exact List.mem_append_left _ (h.inq b a hb ha hp)
  · rw [g2_put m hy' hx']
    split
    · omega
    · rename_i e
      rcases List.mem_append.1 hp with hp | hp
      · exact h.mkd b a hb ha hp
      · have := sp_inj' (List.mem_singleton.1 hp)
        exact absurd ⟨this.2.symm, this.1.symm⟩ e
  · rw [g2_put m hy' hx'] at hp
    split at hp
    · rename_i e
      rw [← e.1, ← e.2]
      exact hT y x y' x' hy hx (h.min T hT h0 y x hy hx hm) hs
    · exact h.min T hT h0 b a hb ha hp
theorem innerM {T0 : Nat → Nat → Prop} (v : VPasture p) (hw : okW p = true) (hx : x < 10) (hy : y < 10) : ∀ i, i ≤ 4 → ∀ (m : Tb) (q : List Spot), Km p T0 m q → 0 ≤ g2 m y x →
    ∃ (m' : Tb) (r : List Spot), Km p T0 m' (q ++ r) ∧ (q ++ r).length + frA m' 10 = q.length + frA m 10 ∧ (∀ b a, b < 10 → a < 10 → 0 ≤ g2 m b a → 0 ≤ g2 m' b a) ∧ (∀ j : Nat, i ≤ j → j < 4 → openB p x y j = true → ∀ x' y', x' < 10 → y' < 10 → nx (sp x y) (j : Int) = sp x' y' → 0 ≤ g2 m' y' x') ∧ Ev (fun k => impl_Pasture_far.l5 p (sp x y) k m q (i : Int)) (m', q ++ r) := by
  refine upL ?_ ?_
  · intro m q hk h0
    refine ⟨m, [], by rw [List.append_nil]; exact hk, by rw [List.append_nil], fun _ _ _ _ h => h, fun j h1 h2 => by omega, ?_⟩
    rw [List.append_nil]
    exact Ev.step (fun k => impl_Pasture_far.l5.eq_2 _ _ _ _ _ _) (Ev.neg (by omega) (Ev.const rfl))
  · intro i hi ih m q hk h0
    have hg := canGo_eq v hw hx hy hi
    cases ho : openB p x y i
    · rw [ho] at hg
      obtain ⟨m', r, r1, r2, r3, r4, r5⟩ := ih m q hk h0
      rw [← wsucc hi (by omega)] at r5
      refine ⟨m', r, r1, r2, r3, fun j h1 h2 h3 => ?_, Ev.step (fun k => impl_Pasture_far.l5.eq_2 _ _ _ _ _ _) (Ev.pos (by omega) (Ev.bind (Ev.const (ahead_eq _ _)) (Ev.bind (Ev.bind (Ev.const hg) (Ev.neg (by simp) (Ev.const rfl))) (Ev.neg (by simp) r5))))⟩
      by_cases hj : j = i
      · subst hj; rw [ho] at h3; cases h3
      · exact r4 j (by omega) h2 h3
    · rw [ho] at hg
      have hc : cellB p (nx (sp x y) (i : Int)).X (nx (sp x y) (i : Int)).Y = true := open_cell ho
      obtain ⟨x', y', hx', hy', e⟩ := cellB_nat hw hc
      have ha : impl_Spot_ahead.f (sp x y) (i : Int) = some (sp x' y') := (ahead_eq _ _).trans (congrArg some e)
      have hst : stepP p y x y' x' := ⟨hy', hx', i, hi, ho, e⟩
      have l1 := hk.lo y x hy hx
      have l2 := hk.hi y x hy hx
      have l3 := hk.fr
      have cm : Ev (fun k => (impl_Pasture_canGo.f p (sp x y) (i : Int)).bind fun t47 => if t47 = true then ((getI m.l (sp x' y').Y).bind fun t48 => (getI t48.l (sp x' y').X).bind fun t49 => some (decide (t49 < 0))) else (some false)) (decide (g2 m y' x' < 0)) :=
        Ev.bind (Ev.const hg) (Ev.pos rfl (Ev.bind (Ev.const (getR m hy')) (Ev.bind (Ev.const (getA _ hx')) (Ev.const rfl))))
      by_cases hneg : g2 m y' x' < 0
      · have hk1 := hk.put hy hx h0 hst hneg
        have hf := (frA_put m hy' hx' (v := g2 m y x + 1) (by omega) hneg 10).2 hy'
        have mono : ∀ b a, b < 10 → a < 10 → 0 ≤ g2 m b a → 0 ≤ g2 (put2 m y' x' (g2 m y x + 1)) b a := fun b a hb ha h => by
          rw [g2_put m hy' hx']
          split
          · omega
          · exact h
        obtain ⟨m', r, r1, r2, r3, r4, r5⟩ := ih _ _ hk1 (mono y x hy hx h0)
        rw [← wsucc hi (by omega)] at r5
        rw [List.append_assoc] at r1 r2 r5
        have e16 : IntKind.i16.wrap (gA (gR m y) x + 1) = g2 m y x + 1 := w16 (show -32768 ≤ g2 m y x + 1 by omega) (show g2 m y x + 1 ≤ 32767 by omega)
        refine ⟨m', [sp x' y'] ++ r, r1, by rw [r2]; simp only [List.length_append, List.length_cons, List.length_nil]; omega, fun b a hb ha h => r3 b a hb ha (mono b a hb ha h), fun j h1 h2 h3 x1 y1 hx1 hy1 e1 => ?_, Ev.step (fun k => impl_Pasture_far.l5.eq_2 _ _ _ _ _ _) (Ev.pos (by omega) (Ev.bind (Ev.const ha) (Ev.bind cm (Ev.pos (decide_eq_true hneg) (Ev.bind (Ev.const (getR m hy)) (Ev.bind (Ev.const (getA _ hx)) (Ev.bind (Ev.const (getR m hy')) (Ev.bind (Ev.const (getA _ hx')) (Ev.bind (Ev.const (chkT (by simp; omega))) ?_)))))))))⟩
        · by_cases hj : j = i
          · subst hj
            rw [e] at e1
            obtain ⟨rfl, rfl⟩ := sp_inj' e1
            refine r3 y' x' hy' hx' ?_
            rw [g2_put m hy' hx', if_pos ⟨rfl, rfl⟩]; omega
          · exact r4 j (by omega) h2 h3 x1 y1 hx1 hy1 e1
        · rw [e16]; exact r5
      · obtain ⟨m', r, r1, r2, r3, r4, r5⟩ := ih m q hk h0
        rw [← wsucc hi (by omega)] at r5
        refine ⟨m', r, r1, r2, r3, fun j h1 h2 h3 x1 y1 hx1 hy1 e1 => ?_, Ev.step (fun k => impl_Pasture_far.l5.eq_2 _ _ _ _ _ _) (Ev.pos (by omega) (Ev.bind (Ev.const ha) (Ev.bind cm (Ev.neg (by simp only [decide_eq_true_eq]; exact hneg) r5))))⟩
        by_cases hj : j = i
        · subst hj
          rw [e] at e1
          obtain ⟨rfl, rfl⟩ := sp_inj' e1
          exact r3 y' x' hy' hx' (by omega)
        · exact r4 j (by omega) h2 h3 x1 y1 hx1 hy1 e1
/-- What the search from a list comes to. -/
structure Fm (p : Pasture) (T0 : Nat → Nat → Prop) (m : Tb) : Prop where
  lo : ∀ b a, b < 10 → a < 10 → -1 ≤ g2 m b a ∧ g2 m b a ≤ 3000
  shut : closedT p (fun b a => 0 ≤ g2 m b a)
  min : ∀ T : Nat → Nat → Prop, closedT p T → (∀ b a, b < 10 → a < 10 → T0 b a → T b a) → ∀ b a, b < 10 → a < 10 → 0 ≤ g2 m b a → T b a
theorem outerM {T0 : Nat → Nat → Prop} (v : VPasture p) (hw : okW p = true) : ∀ (d i : Nat) (m : Tb) (q : List Spot), Km p T0 m q → i ≤ q.length → (∀ s ∈ q.take i, doneC p m s) → q.length - i + frA m 10 ≤ d →
    ∃ m' : Tb, Ev (fun k => impl_Pasture_far.l4 p k m q (i : Int)) m' ∧ Fm p T0 m' ∧ ∀ b a, b < 10 → a < 10 → 0 ≤ g2 m b a → 0 ≤ g2 m' b a := by
  intro d
  have fin : ∀ (i : Nat) (m : Tb) (q : List Spot), Km p T0 m q → i = q.length → (∀ s ∈ q.take i, doneC p m s) → ∃ m' : Tb, Ev (fun k => impl_Pasture_far.l4 p k m q (i : Int)) m' ∧ Fm p T0 m' ∧ ∀ b a, b < 10 → a < 10 → 0 ≤ g2 m b a → 0 ≤ g2 m' b a := by
    intro i m q hk hi hd
    have hfr := hk.fr
    refine ⟨m, Ev.step (fun k => impl_Pasture_far.l4.eq_2 _ _ _ _ _) (Ev.neg (by omega) (Ev.const rfl)), ⟨fun b a hb ha => ?_, fun y x y' x' hy hx hm hs => ?_, hk.min⟩, fun _ _ _ _ h => h⟩
    · have := hk.lo b a hb ha
      have := hk.hi b a hb ha
      omega
    · rw [hi, List.take_length] at hd
      exact hd _ (hk.inq y x hy hx hm) y x y' x' hy hx rfl hs
  induction d with
  | zero =>
    intro i m q hk hi hd hdd
    exact fin i m q hk (by omega) hd
  | succ d ih =>
    intro i m q hk hi hd hdd
    have hfr := hk.fr
    by_cases hlt : i < q.length
    · obtain ⟨x, y, hx, hy, e⟩ := hk.cells q[i] (List.getElem_mem hlt)
      have hg : getI q (i : Int) = some (sp x y) := by rw [getI_nat hlt, e]
      have hmk := hk.mkd y x hy hx (by rw [← e]; exact List.getElem_mem hlt)
      obtain ⟨m1, r, r1, r2, r3, r4, r5⟩ := innerM v hw hx hy 0 (Nat.zero_le _) m q hk hmk
      have hd1 : ∀ s ∈ (q ++ r).take (i + 1), doneC p m1 s := by
        intro s hs
        rw [List.take_append_of_le_length (by omega), List.take_add_one, List.getElem?_eq_getElem hlt] at hs
        rcases List.mem_append.1 hs with hs | hs
        · intro b a b' a' hb ha he hst
          exact r3 b' a' hst.1 hst.2.1 (hd s hs b a b' a' hb ha he hst)
        · have hs : s = q[i] := by simpa using hs
          intro b a b' a' hb ha he hst
          rw [hs, e] at he
          obtain ⟨rfl, rfl⟩ := sp_inj' he
          obtain ⟨hb', ha', j, hj, ho, en⟩ := hst
          exact r4 j (Nat.zero_le _) hj ho a' b' ha' hb' en
      have hql : q.length ≤ (q ++ r).length := by simp
      obtain ⟨m', g1, g2', g4⟩ := ih (i + 1) m1 (q ++ r) r1 (by omega) hd1 (by omega)
      rw [← wsucc hlt (by omega)] at g1
      exact ⟨m', Ev.step (fun k => impl_Pasture_far.l4.eq_2 _ _ _ _ _) (Ev.pos (by omega) (Ev.bind (Ev.bind (Ev.const hg) (Ev.bind r5 (Ev.const rfl))) g1)), g2', fun b a hb ha h => g4 b a hb ha (r3 b a hb ha h)⟩
    · exact fin i m q hk (by omega) hd
theorem start_loop {L : List Spot} (hl : L.length ≤ 2000) (hL : ∀ s ∈ L, ∃ x y : Nat, x < 10 ∧ y < 10 ∧ s = sp x y) : ∀ i, i ≤ L.length → ∀ m : Tb, ∃ m' : Tb, Ev (fun k => impl_Pasture_far.l3 L k m (i : Int)) m' ∧ ∀ b a, b < 10 → a < 10 → g2 m' b a = if sp a b ∈ L.drop i then 0 else g2 m b a := by
  refine upL ?_ ?_
  · intro m
    exact ⟨m, Ev.step (fun k => impl_Pasture_far.l3.eq_2 _ _ _ _) (Ev.neg (by omega) (Ev.const rfl)), fun b a _ _ => by rw [List.drop_length, if_neg (by simp)]⟩
  · intro i hi ih m
    obtain ⟨x, y, hx, hy, e⟩ := hL _ (List.getElem_mem hi)
    obtain ⟨m', h1, h2⟩ := ih (put2 m y x 0)
    rw [← wsucc hi (by omega)] at h1
    refine ⟨m', Ev.step (fun k => impl_Pasture_far.l3.eq_2 _ _ _ _) (Ev.pos (by omega) (Ev.bind (Ev.const ((getI_nat hi).trans (congrArg some e))) (Ev.bind (Ev.const (getR m hy)) (Ev.bind (Ev.const (getA _ hx)) h1)))), fun b a hb ha => ?_⟩
    rw [h2 b a hb ha, List.drop_eq_getElem_cons hi, e]
    by_cases c : sp a b ∈ L.drop (i + 1)
    · rw [if_pos c, if_pos (List.mem_cons_of_mem _ c)]
    · rw [if_neg c, g2_put m hy hx]
      by_cases z : y = b ∧ x = a
      · obtain ⟨rfl, rfl⟩ := z
        rw [if_pos ⟨rfl, rfl⟩, if_pos (List.mem_cons_self ..)]
      · rw [if_neg z, if_neg]
        rw [List.mem_cons]
        rintro (u | u)
        · have := sp_inj' u
          exact z ⟨this.2.symm, this.1.symm⟩
        · exact c u
theorem frA_le (m : Tb) : ∀ n, n ≤ 10 → frA m n ≤ n * 10
  | 0, _ => Nat.le_refl _
  | n + 1, h => by
    have h1 := frA_le m n (by omega)
    have h2 : ∀ k, fr1 m n k ≤ k := fun k => by
      induction k with
      | zero => exact Nat.le_refl _
      | succ k ih => simp only [fr1]; split <;> omega
    have h3 := h2 10
    rw [frA, Nat.add_mul]; omega
theorem farL_ev (h : PD W H Gr E S p) (hG : ∀ y x, x < W → y < H → 0 ≤ Gr y x ∧ Gr y x ≤ 1000) (hW : 1 ≤ W ∧ W ≤ 10) (hH : 1 ≤ H ∧ H ≤ 10) {L : List Spot} (hl : L.length ≤ 2000) (hL : ∀ s ∈ L, ∃ x y : Nat, x < W ∧ y < H ∧ s = sp x y) : ∃ m : Tb, Ev (fun k => impl_Pasture_far.f k p L) m ∧ (∀ b a, b < 10 → a < 10 → -1 ≤ g2 m b a ∧ g2 m b a ≤ 3000) ∧ ∀ b a, b < H → a < W → (0 ≤ g2 m b a ↔ ∃ d c, d < H ∧ c < W ∧ sp c d ∈ L ∧ Rt W H E S d c b a) := by
  have v := h.V hW.2 hH.2 hG
  have hw := vP_okW (h.ok hW hH hG)
  have hL10 : ∀ s ∈ L, ∃ x y : Nat, x < 10 ∧ y < 10 ∧ s = sp x y := fun s hs => by
    obtain ⟨x, y, hx, hy, e⟩ := hL s hs
    exact ⟨x, y, by omega, by omega, e⟩
  obtain ⟨m0, a1, a2⟩ := tab_ev 0 (Nat.zero_le _) (Arr.mk' (Arr.mk' 0 : Arr 10 Int) : Tb)
  have hneg : ∀ y x, y < 10 → x < 10 → g2 m0 y x = -1 := fun y x hy hx => by rw [a1 y x hy hx, if_pos (Nat.zero_le _)]
  obtain ⟨m1, b1, b2⟩ := start_loop hl hL10 0 (Nat.zero_le _) m0
  rw [List.drop_zero] at b2
  have hk : Km p (fun b a => sp a b ∈ L) m1 L := by
    refine ⟨fun b a hb ha => ?_, fun b a hb ha => ?_, ?_, hL10, fun b a hb ha h0 => ?_, fun b a hb ha hm => ?_, fun T hT h0 b a hb ha hp => ?_⟩
    · rw [b2 b a hb ha, hneg b a hb ha]; split <;> omega
    · rw [b2 b a hb ha, hneg b a hb ha]; split <;> omega
    · have := frA_le m1 10 (Nat.le_refl _); omega
    · rw [b2 b a hb ha, hneg b a hb ha] at h0
      by_cases c : sp a b ∈ L
      · exact c
      · rw [if_neg c] at h0; omega
    · rw [b2 b a hb ha, if_pos hm]; omega
    · rw [b2 b a hb ha, hneg b a hb ha] at hp
      by_cases c : sp a b ∈ L
      · exact h0 b a hb ha c
      · rw [if_neg c] at hp; omega
  have hfr := frA_le m1 10 (Nat.le_refl _)
  obtain ⟨m, c1, c2, c3⟩ := outerM v hw 3000 0 m1 L hk (Nat.zero_le _) (by simp) (by omega)
  have hcl : slices_Clone_impl_Spot_impl_Spot.f L = some L := by
    unfold slices_Clone_impl_Spot_impl_Spot.f
    rw [chk_t (by simp; omega)]; rfl
  refine ⟨m, a2.bind (b1.bind (Ev.bind (Ev.const hcl) (c1.bind (Ev.const rfl)))), c2.lo, fun b a hb ha => ⟨fun h0 => ?_, fun hr => ?_⟩⟩
  · refine (c2.min (fun b a => (a < W ∧ b < H) ∧ ∃ d c, d < H ∧ c < W ∧ sp c d ∈ L ∧ Rt W H E S d c b a) (fun y1 x1 y2 x2 h1 h2 h3 s => ?_) (fun b a hb ha hm => ?_) b a (by omega) (by omega) h0).2
    · obtain ⟨⟨i1, i2⟩, d, c, i3, i4, i5, i6⟩ := h3
      have s := (h.step hW.2 hH.2 i1 i2).1 s
      exact ⟨s.in_ i1 i2, d, c, i3, i4, i5, i6.trans (Rt.step i1 i2 s)⟩
    · obtain ⟨x, y, hx, hy, e⟩ := hL _ hm
      obtain ⟨rfl, rfl⟩ := sp_inj' e
      exact ⟨⟨hx, hy⟩, b, a, hy, hx, hm, Rt.refl⟩
  · obtain ⟨d, c, hd, hc, hm, hr⟩ := hr
    exact hr (fun b a => 0 ≤ g2 m b a) (fun y1 x1 y2 x2 h1 h2 h3 s => c2.shut y1 x1 y2 x2 (by omega) (by omega) h3 ((h.step hW.2 hH.2 h1 h2).2 s)) (c3 d c (by omega) (by omega) (by rw [b2 d c (by omega) (by omega), if_pos hm]; omega))
end Go.Proofs.YtloljfkfnpgjfaaGreat
/-
  Plain law: how many gates a cell lies away.
-/
namespace Go.Proofs.YtloljfkfnpgjfaaGreat
open G
set_option linter.unusedVariables false
set_option linter.unusedSimpArgs false
variable {W H : Nat} {p q : Pasture} {Gr : Nat → Nat → Int} {E S E' S' : Nat → Nat → Bool} {y x b a d c y' x' : Nat} {s : Bool}
def NO : Nat → Nat → Bool := fun _ _ => false
/-- Cells beside each other. -/
def adj (W H y x y' x' : Nat) : Prop := stepT W H NO NO y x y' x'
theorem conn (hW : 1 ≤ W) (hH : 1 ≤ H) : ∀ y x b a, x < W → y < H → a < W → b < H → Rt W H NO NO y x b a := all_conn hW hH fun x y s hb => by
  obtain ⟨⟨h1, h2⟩, _⟩ := hb.both
  refine Rt.step h1 h2 ?_
  unfold bet at hb
  cases s
  · simp only [Bool.false_eq_true, if_false] at hb
    exact .inl ⟨rfl, rfl, hb.1, rfl⟩
  · simp only [if_true] at hb
    exact .inr (.inl ⟨rfl, rfl, hb.2, rfl⟩)
/-- Cells that are reached through so many gates. -/
def Lv (W H : Nat) (E S : Nat → Nat → Bool) (ay ax : Nat) : Nat → Nat → Nat → Prop
  | 0, b, a => Rt W H E S ay ax b a
  | k + 1, b, a => ∃ d c d' c', (c < W ∧ d < H) ∧ (c' < W ∧ d' < H) ∧ Lv W H E S ay ax k d c ∧ ((d' = d ∧ c' = c) ∨ adj W H d c d' c') ∧ Rt W H E S d' c' b a
variable {ay ax k : Nat}
theorem Lv.in_ (hx : ax < W) (hy : ay < H) : ∀ {k b a : Nat}, Lv W H E S ay ax k b a → a < W ∧ b < H
  | 0, b, a, h => Rt.in_ hx hy h
  | k + 1, b, a, ⟨d, c, d', c', h1, h2, h3, h4, h5⟩ => h5.in_ h2.1 h2.2
theorem Lv.closed : ∀ {k b a : Nat}, Lv W H E S ay ax k b a → Rt W H E S b a y x → Lv W H E S ay ax k y x
  | 0, b, a, h, r => Rt.trans h r
  | k + 1, b, a, ⟨d, c, d', c', h1, h2, h3, h4, h5⟩, r => ⟨d, c, d', c', h1, h2, h3, h4, h5.trans r⟩
theorem Lv.up (hx : ax < W) (hy : ay < H) (h : Lv W H E S ay ax k b a) : Lv W H E S ay ax (k + 1) b a := ⟨b, a, b, a, h.in_ hx hy, h.in_ hx hy, h, .inl ⟨rfl, rfl⟩, Rt.refl⟩
theorem Lv.nbr (hx : ax < W) (hy : ay < H) (h : Lv W H E S ay ax k b a) (s : adj W H b a y x) : Lv W H E S ay ax (k + 1) y x := ⟨b, a, y, x, h.in_ hx hy, s.in_ (h.in_ hx hy).1 (h.in_ hx hy).2, h, .inr s, Rt.refl⟩
theorem Lv.cons {d c d' c' : Nat} (i1 : c < W ∧ d < H) (i2 : c' < W ∧ d' < H) (h : Rt W H E S ay ax d c) (s : (d' = d ∧ c' = c) ∨ adj W H d c d' c') : ∀ {k b a : Nat}, Lv W H E S d' c' k b a → Lv W H E S ay ax (k + 1) b a
  | 0, b, a, r => ⟨d, c, d', c', i1, i2, h, s, r⟩
  | k + 1, b, a, ⟨e, f, e', f', h1, h2, h3, h4, h5⟩ => ⟨e, f, e', f', h1, h2, Lv.cons i1 i2 h s h3, h4, h5⟩
theorem Lv.symm (hx : ax < W) (hy : ay < H) : ∀ {k b a : Nat}, Lv W H E S ay ax k b a → Lv W H E S b a k ay ax
  | 0, b, a, h => Rt.symm hx hy h
  | k + 1, b, a, ⟨d, c, d', c', h1, h2, h3, h4, h5⟩ => by
    refine Lv.cons h2 h1 (h5.symm h2.1 h2.2) ?_ (Lv.symm hx hy h3)
    rcases h4 with ⟨e1, e2⟩ | h4
    · exact .inl ⟨e1.symm, e2.symm⟩
    · exact .inr (stepT.symm h1.1 h1.2 h4)
theorem nodup_le : ∀ (n : Nat) (l : List Nat), l.Nodup → (∀ i ∈ l, i < n) → l.length ≤ n
  | 0, l, _, h => by
    cases l with
    | nil => simp
    | cons i l => have := h i (List.mem_cons_self ..); omega
  | n + 1, l, hn, h => by
    have h1 := nodup_le n (l.erase n) (hn.erase _) (fun i hi => by
      have := (hn.mem_erase_iff).1 hi
      have := h i this.2
      omega)
    have h2 := List.length_erase_le (a := n) (l := l)
    by_cases c : n ∈ l
    · rw [List.length_erase_of_mem c] at h1; omega
    · rw [List.erase_of_not_mem c] at h1; omega
/-- No more gates than yards to go to. -/
theorem Lv.few {tab : Tb} {n : Nat} (t : NT W H E S tab n) (hx : ax < W) (hy : ay < H) : ∀ (k b a : Nat), Lv W H E S ay ax k b a → (∀ j, j < k → ¬ Lv W H E S ay ax j b a) → ∃ l : List Nat, l.Nodup ∧ l.length = k + 1 ∧ (∀ i ∈ l, i < n) ∧ ∀ i ∈ l, ∃ y x, x < W ∧ y < H ∧ ix tab y x = i ∧ Lv W H E S ay ax k y x
  | 0, b, a, h, _ => by
    have hi := h.in_ hx hy
    exact ⟨[ix tab b a], by simp, rfl, fun i hm => by rw [List.mem_singleton.1 hm]; exact (t.ix_lt hi.1 hi.2).1, fun i hm => ⟨b, a, hi.1, hi.2, (List.mem_singleton.1 hm).symm, h⟩⟩
  | k + 1, b, a, h, hn => by
    have hi := h.in_ hx hy
    obtain ⟨d, c, d', c', h1, h2, h3, h4, h5⟩ := id h
    obtain ⟨l, l1, l2, l3, l4⟩ := Lv.few t hx hy k d c h3 (fun j hj hl => hn (j + 1) (by omega) ⟨d, c, d', c', h1, h2, hl, h4, h5⟩)
    refine ⟨ix tab b a :: l, ?_, by rw [List.length_cons, l2], fun i hm => ?_, fun i hm => ?_⟩
    · rw [List.nodup_cons]
      refine ⟨fun hm => ?_, l1⟩
      obtain ⟨y, x, k1, k2, k3, k4⟩ := l4 _ hm
      have e1 := (t.ix_lt k1 k2).2
      have e2 := (t.ix_lt hi.1 hi.2).2
      exact hn k (by omega) (k4.closed ((t.eq y x b a k1 k2 hi.1 hi.2).2 (by rw [e1, e2, k3])))
    · rcases List.mem_cons.1 hm with rfl | hm
      · exact (t.ix_lt hi.1 hi.2).1
      · exact l3 i hm
    · rcases List.mem_cons.1 hm with rfl | hm
      · exact ⟨b, a, hi.1, hi.2, rfl, h⟩
      · obtain ⟨y, x, k1, k2, k3, k4⟩ := l4 i hm
        exact ⟨y, x, k1, k2, k3, k4.up hx hy⟩
/-- Sides and cells beside each other. -/
theorem adj_bet (hx : x < W) (hy : y < H) (h : adj W H y x y' x') : ∃ u v s, bet W H u v s ∧ ((y = v ∧ x = u ∧ y' = bY s v ∧ x' = bX s u) ∨ (y' = v ∧ x' = u ∧ y = bY s v ∧ x = bX s u)) := by
  rcases h with ⟨rfl, rfl, k, _⟩ | ⟨rfl, rfl, k, _⟩ | ⟨rfl, k, _⟩ | ⟨rfl, k, _⟩
  · exact ⟨x, y', false, by unfold bet; simp; omega, .inl ⟨rfl, rfl, rfl, rfl⟩⟩
  · exact ⟨x', y, true, by unfold bet; simp; omega, .inl ⟨rfl, rfl, rfl, rfl⟩⟩
  · exact ⟨x', y', false, by unfold bet; simp; omega, .inr ⟨rfl, rfl, rfl, k.symm⟩⟩
  · exact ⟨x', y', true, by unfold bet; simp; omega, .inr ⟨rfl, rfl, k.symm, rfl⟩⟩
theorem bet.adj (hb : bet W H x y s) : adj W H y x (bY s y) (bX s x) := by
  unfold bet at hb
  cases s
  · simp only [Bool.false_eq_true, if_false] at hb
    exact .inl ⟨rfl, rfl, hb.1, rfl⟩
  · simp only [if_true] at hb
    exact .inr (.inl ⟨rfl, rfl, hb.2, rfl⟩)
theorem bet.step (hb : bet W H x y s) (hs : stOf E S x y s = false) : stepT W H E S y x (bY s y) (bX s x) := by
  unfold bet at hb
  unfold stOf at hs
  cases s
  · simp only [Bool.false_eq_true, if_false] at hb hs
    exact .inl ⟨rfl, rfl, hb.1, hs⟩
  · simp only [if_true] at hb hs
    exact .inr (.inl ⟨rfl, rfl, hb.2, hs⟩)
/-- One gate is enough where one hurdle less is. -/
theorem one_gate {bx by_ : Nat} (ha : ax < W ∧ ay < H) (hb : bx < W ∧ by_ < H) (hne : ¬ Rt W H E S ay ax by_ bx) : Lv W H E S ay ax 1 by_ bx ↔ ∃ x y s, bet W H x y s ∧ stOf E S x y s = true ∧ Rt W H (opE s E y x false) (opS s S y x false) ay ax by_ bx := by
  constructor
  · rintro ⟨d, c, d', c', h1, h2, h3, h4, h5⟩
    have h3 : Rt W H E S ay ax d c := h3
    rcases h4 with ⟨rfl, rfl⟩ | h4
    · exact absurd (h3.trans h5) hne
    · obtain ⟨u, v, s, hbt, he⟩ := adj_bet h1.1 h1.2 h4
      obtain ⟨⟨g1, g2⟩, g3, g4⟩ := hbt.both
      refine ⟨u, v, s, hbt, ?_, ?_⟩
      · cases hs : stOf E S u v s
        · have st := Rt.step g1 g2 (hbt.step hs)
          rcases he with ⟨rfl, rfl, rfl, rfl⟩ | ⟨rfl, rfl, rfl, rfl⟩
          · exact absurd (h3.trans (st.trans h5)) hne
          · exact absurd (h3.trans ((st.symm g1 g2).trans h5)) hne
        · rfl
      · rcases he with ⟨rfl, rfl, rfl, rfl⟩ | ⟨rfl, rfl, rfl, rfl⟩
        · exact (rt_open hbt ha.1 ha.2).2 (.inr (.inl ⟨h3, h5⟩))
        · exact (rt_open hbt ha.1 ha.2).2 (.inr (.inr ⟨h3, h5⟩))
  · rintro ⟨x, y, s, hbt, hs, hr⟩
    obtain ⟨⟨g1, g2⟩, g3, g4⟩ := hbt.both
    rcases (rt_open hbt ha.1 ha.2).1 hr with h | ⟨h, k⟩ | ⟨h, k⟩
    · exact absurd h hne
    · exact ⟨y, x, _, _, ⟨g1, g2⟩, ⟨g3, g4⟩, h, .inr hbt.adj, k⟩
    · exact ⟨_, _, y, x, ⟨g3, g4⟩, ⟨g1, g2⟩, h, .inr (stepT.symm g1 g2 hbt.adj), k⟩
end Go.Proofs.YtloljfkfnpgjfaaGreat
/-
  Plain law: one round of the program's search for gates.
-/
namespace Go.Proofs.YtloljfkfnpgjfaaGreat
open G
set_option linter.unusedVariables false
set_option linter.unusedSimpArgs false
variable {W H : Nat} {p q : Pasture} {Gr : Nat → Nat → Int} {E S E' S' : Nat → Nat → Bool} {y x b a d c y' x' : Nat} {s : Bool} {ax ay k : Nat}
theorem indexS_loop (xs : List Spot) (s : Spot) (hx : xs.length ≤ 1048576) : ∀ i, i ≤ xs.length → ∃ r : Int ⊕ Unit, Ev (fun k => slices_Index_impl_Spot_impl_Spot.l1 xs s k (i : Int)) r ∧ ((s ∈ xs.drop i ∧ ∃ j : Nat, r = .inl (j : Int)) ∨ (s ∉ xs.drop i ∧ r = .inr ())) := by
  refine upL ?_ ?_
  · rw [List.drop_length]
    exact ⟨.inr (), Ev.step (fun k => slices_Index_impl_Spot_impl_Spot.l1.eq_2 _ _ _ _) (Ev.neg (by omega) (Ev.const rfl)), .inr ⟨by simp, rfl⟩⟩
  · rintro i hi ⟨r, h1, h2⟩
    rw [← wsucc hi (by omega)] at h1
    rw [List.drop_eq_getElem_cons hi]
    by_cases h : s = xs[i]
    · exact ⟨.inl (i : Int), Ev.step (fun k => slices_Index_impl_Spot_impl_Spot.l1.eq_2 _ _ _ _) (Ev.pos (by omega) (Ev.bind (Ev.const (getI_nat hi)) (Ev.pos h (Ev.const rfl)))), .inl ⟨by rw [h]; exact List.mem_cons_self .., i, rfl⟩⟩
    · refine ⟨r, Ev.step (fun k => slices_Index_impl_Spot_impl_Spot.l1.eq_2 _ _ _ _) (Ev.pos (by omega) (Ev.bind (Ev.const (getI_nat hi)) (Ev.neg h h1))), ?_⟩
      rcases h2 with ⟨a, b⟩ | ⟨a, b⟩
      · exact .inl ⟨List.mem_cons_of_mem _ a, b⟩
      · exact .inr ⟨fun hm => (List.mem_cons.1 hm).elim h a, b⟩
theorem contS_ev (xs : List Spot) (s : Spot) (hx : xs.length ≤ 1048576) : Ev (fun k => slices_Contains_impl_Spot_impl_Spot.f k xs s) (decide (s ∈ xs)) := by
  obtain ⟨r, h1, h2⟩ := indexS_loop xs s hx 0 (Nat.zero_le _)
  rw [List.drop_zero] at h2
  rcases h2 with ⟨a, j, rfl⟩ | ⟨a, rfl⟩
  · rw [decide_eq_true a]
    refine Ev.bind (Ev.bind h1 (Ev.const rfl)) (Ev.const ?_)
    rw [decide_eq_true (show (0 : Int) ≤ (j : Int) by omega)]
  · rw [decide_eq_false a]
    exact Ev.bind (Ev.bind h1 (Ev.const rfl)) (Ev.const rfl)
def bef (a b : Spot) : Prop := a.Y < b.Y ∨ (a.Y = b.Y ∧ a.X < b.X)
theorem rowF_told (q : Nat → Bool) (y : Nat) : ∀ n x, ∀ s ∈ rowF q y x n, s.Y = (y : Int) ∧ (x : Int) ≤ s.X
  | 0, x, s, h => by simp [rowF] at h
  | n + 1, x, s, h => by
    rw [rowF] at h
    rcases List.mem_append.1 h with h | h
    · split at h
      · rw [List.mem_singleton.1 h]; exact ⟨rfl, Int.le_refl _⟩
      · simp at h
    · have := rowF_told q y n (x + 1) s h
      exact ⟨this.1, by omega⟩
theorem rowF_order (q : Nat → Bool) (y : Nat) : ∀ n x, (rowF q y x n).Pairwise bef
  | 0, x => List.Pairwise.nil
  | n + 1, x => by
    rw [rowF, List.pairwise_append]
    refine ⟨?_, rowF_order q y n (x + 1), fun a ha b hb => ?_⟩
    · split
      · exact List.pairwise_singleton _ _
      · exact List.Pairwise.nil
    · split at ha
      · rw [List.mem_singleton.1 ha]
        have := rowF_told q y n (x + 1) b hb
        exact .inr ⟨this.1.symm, by show (x : Int) < b.X; omega⟩
      · simp at ha
theorem gridF_told (q : Nat → Nat → Bool) (W : Nat) : ∀ n y, ∀ s ∈ gridF q W y n, (y : Int) ≤ s.Y
  | 0, y, s, h => by simp [gridF] at h
  | n + 1, y, s, h => by
    rw [gridF] at h
    rcases List.mem_append.1 h with h | h
    · have := rowF_told _ _ _ _ s h; omega
    · have := gridF_told q W n (y + 1) s h; omega
theorem gridF_order (q : Nat → Nat → Bool) (W : Nat) : ∀ n y, (gridF q W y n).Pairwise bef
  | 0, y => List.Pairwise.nil
  | n + 1, y => by
    rw [gridF, List.pairwise_append]
    refine ⟨rowF_order _ _ _ _, gridF_order q W n (y + 1), fun a ha b hb => ?_⟩
    have h1 := rowF_told _ _ _ _ a ha
    have h2 := gridF_told _ _ _ _ b hb
    exact .inl (by omega)
theorem isYard_order {Y : List Spot} (h : isYard p Y) : Y.Pairwise bef := by
  obtain ⟨q, rfl⟩ := h
  exact gridF_order _ _ _ _
theorem isYard_cellIn (hw : okW p = true) {Y : List Spot} (h : isYard p Y) : ∀ s ∈ Y, cellIn s := fun s hs => by
  obtain ⟨a, b⟩ := okW_iff.1 hw
  obtain ⟨x, y, hx, hy, rfl⟩ := isYard_mem h hs
  exact ⟨x, y, by omega, by omega, rfl⟩
theorem compact_loop {Y : List Spot} (h : Y.Pairwise bef) (hl : Y.length ≤ 1000) : ∀ i, i ≤ Y.length → 1 ≤ i → Ev (fun k => slices_Compact_impl_Spot_impl_Spot.l1 Y k (i : Int)) () := by
  refine upL ?_ ?_
  · intro _
    exact Ev.step (fun k => slices_Compact_impl_Spot_impl_Spot.l1.eq_2 _ _ _) (Ev.neg (by omega) (Ev.const rfl))
  · intro i hi ih h1
    have ih := ih (by omega)
    rw [← wsucc hi (by omega)] at ih
    have hj : i - 1 < Y.length := by omega
    have g : getI Y (IntKind.i64.wrap ((i : Int) - 1)) = some Y[i - 1] := by
      rw [w64 (by omega) (by omega), show ((i : Int) - 1) = ((i - 1 : Nat) : Int) by omega]
      exact getI_nat hj
    have hne : ¬ Y[i] = Y[i - 1] := fun e => by
      have := List.pairwise_iff_getElem.1 h (i - 1) i hj hi (by omega)
      rw [e] at this
      rcases this with h | h <;> omega
    exact Ev.step (fun k => slices_Compact_impl_Spot_impl_Spot.l1.eq_2 _ _ _) (Ev.pos (by omega) (Ev.bind (a := ()) (Ev.bind (Ev.const (getI_nat hi)) (Ev.bind (Ev.const g) (Ev.neg hne (Ev.const rfl)))) ih))
theorem ordered_ev {Y : List Spot} (h : Y.Pairwise bef) (hc : ∀ s ∈ Y, cellIn s) (hl : Y.length ≤ 1000) : Ev (fun k => impl_ordered.f k Y) Y := by
  have hcl : slices_Clone_impl_Spot_impl_Spot.f Y = some Y := by
    unfold slices_Clone_impl_Spot_impl_Spot.f
    rw [chk_t (by simp; omega)]; rfl
  have hok : Y.all okSpot = true := List.all_eq_true.2 fun s hs => by
    obtain ⟨x, y, hx, hy, rfl⟩ := hc s hs
    rw [okSpot_iff]
    show (-128 ≤ (x : Int) ∧ (x : Int) ≤ 127) ∧ (-128 ≤ (y : Int) ∧ (y : Int) ≤ 127)
    omega
  have hsrt : Y.mergeSort leSpot = Y := List.mergeSort_of_pairwise (h.imp fun {a b} hab => by
    unfold leSpot
    rw [decide_eq_true_eq]
    rcases hab with h | h
    · exact .inl h
    · exact .inr ⟨h.1, by omega⟩)
  have hso : slices_SortFunc_impl_Spot_impl_Spot.f Y impl_compareSpots.f = some Y := by
    unfold slices_SortFunc_impl_Spot_impl_Spot.f
    rw [chk_t ⟨by omega, hok⟩, Option.bind_some, hsrt]
  have hco : Ev (fun k => slices_Compact_impl_Spot_impl_Spot.f k Y) Y := by
    by_cases c : (Y.length : Int) < 2
    · exact Ev.pos c (Ev.const rfl)
    · exact Ev.neg c ((compact_loop h hl 1 (by omega) (Nat.le_refl _)).bind (Ev.const rfl))
  exact Ev.bind (Ev.const hcl) (Ev.bind (Ev.const hso) (hco.bind (Ev.const rfl)))
theorem hurdle0 {x y : Nat} (h1 : 1 ≤ y) (hy : y < 10) : impl_hurdleAt.f (sp x y) 0 = some (hu x (y - 1) true) := by
  have hn : impl_Spot_ahead.f (sp x y) 0 = some (sp x (y - 1)) := by rw [ahead_eq, nx0 h1 hy]
  unfold impl_hurdleAt.f
  simp [hn, hu]
theorem hurdle3 {x y : Nat} (h1 : 1 ≤ x) (hx : x < 10) : impl_hurdleAt.f (sp x y) 3 = some (hu (x - 1) y false) := by
  have hn : impl_Spot_ahead.f (sp x y) 3 = some (sp (x - 1) y) := by rw [ahead_eq, nx3 h1 hx]
  unfold impl_hurdleAt.f
  simp [hn, hu]
/-- A side ahead and its hurdle. -/
theorem hat (h : PD W H Gr E S p) (hW : W ≤ 10) (hH : H ≤ 10) (hx : x < W) (hy : y < H) {j : Nat} (hj : j < 4) (hc : cellB p (nx (sp x y) (j : Int)).X (nx (sp x y) (j : Int)).Y = true) : ∃ x' y' g o, nx (sp x y) (j : Int) = sp x' y' ∧ adj W H y x y' x' ∧ impl_hurdleAt.f (sp x y) (j : Int) = some g ∧ impl_Hurdle_other.f g = some o ∧ ((g.At = sp x y ∧ o = sp x' y') ∨ (g.At = sp x' y' ∧ o = sp x y)) := by
  rcases (show j = 0 ∨ j = 1 ∨ j = 2 ∨ j = 3 by omega) with rfl | rfl | rfl | rfl
  · rcases Nat.eq_zero_or_pos y with rfl | hp
    · have e : nx (sp x 0) ((0 : Nat) : Int) = ⟨(x : Int), -1⟩ := nx0z x
      rw [e] at hc
      unfold cellB at hc
      simp only [Bool.and_eq_true, decide_eq_true_eq] at hc
      omega
    · refine ⟨x, y - 1, hu x (y - 1) true, sp x y, nx0 hp (by omega), .inr (.inr (.inr ⟨rfl, by omega, rfl⟩)), hurdle0 hp (by omega), ?_, .inr ⟨rfl, rfl⟩⟩
      refine (other_eq _).trans (congrArg some ?_)
      refine (nx2 (x := x) (y := y - 1) (by omega)).trans ?_
      rw [Nat.sub_add_cancel hp]
  · have e : nx (sp x y) ((1 : Nat) : Int) = sp (x + 1) y := nx1 (by omega)
    rw [e, h.cell, decide_eq_true_eq] at hc
    exact ⟨x + 1, y, hu x y false, sp (x + 1) y, e, .inl ⟨rfl, rfl, hc.1, rfl⟩, hurdleAt_eq x y false, (other_eq _).trans (congrArg some (nx1 (by omega))), .inl ⟨rfl, rfl⟩⟩
  · have e : nx (sp x y) ((2 : Nat) : Int) = sp x (y + 1) := nx2 (by omega)
    rw [e, h.cell, decide_eq_true_eq] at hc
    exact ⟨x, y + 1, hu x y true, sp x (y + 1), e, .inr (.inl ⟨rfl, rfl, hc.2, rfl⟩), hurdleAt_eq x y true, (other_eq _).trans (congrArg some (nx2 (by omega))), .inl ⟨rfl, rfl⟩⟩
  · rcases Nat.eq_zero_or_pos x with rfl | hp
    · have e : nx (sp 0 y) ((3 : Nat) : Int) = ⟨-1, (y : Int)⟩ := nx3z y
      rw [e] at hc
      unfold cellB at hc
      simp only [Bool.and_eq_true, decide_eq_true_eq] at hc
      omega
    · refine ⟨x - 1, y, hu (x - 1) y false, sp x y, nx3 hp (by omega), .inr (.inr (.inl ⟨rfl, by omega, rfl⟩)), hurdle3 hp (by omega), ?_, .inr ⟨rfl, rfl⟩⟩
      refine (other_eq _).trans (congrArg some ?_)
      refine (nx1 (x := x - 1) (y := y) (by omega)).trans ?_
      rw [Nat.sub_add_cancel hp]
theorem adj_dir (h : PD W H Gr E S p) (hW : W ≤ 10) (hH : H ≤ 10) (hx : x < W) (hy : y < H) (s : adj W H y x y' x') : ∃ j : Nat, j < 4 ∧ nx (sp x y) (j : Int) = sp x' y' ∧ cellB p (nx (sp x y) (j : Int)).X (nx (sp x y) (j : Int)).Y = true := by
  have hi := s.in_ hx hy
  have key : ∀ j : Nat, nx (sp x y) (j : Int) = sp x' y' → cellB p (nx (sp x y) (j : Int)).X (nx (sp x y) (j : Int)).Y = true := fun j e => by rw [e, h.cell, decide_eq_true hi]
  rcases s with ⟨rfl, rfl, k, _⟩ | ⟨rfl, rfl, k, _⟩ | ⟨rfl, k, _⟩ | ⟨rfl, k, _⟩
  · exact ⟨1, by omega, nx1 (by omega), key 1 (nx1 (by omega))⟩
  · exact ⟨2, by omega, nx2 (by omega), key 2 (nx2 (by omega))⟩
  · subst k
    have e : nx (sp (x' + 1) y') ((3 : Nat) : Int) = sp x' y' := nx3 (x := x' + 1) (by omega) (by omega)
    exact ⟨3, by omega, e, key 3 e⟩
  · subst k
    have e : nx (sp x' (y' + 1)) ((0 : Nat) : Int) = sp x' y' := nx0 (y := y' + 1) (by omega) (by omega)
    exact ⟨0, by omega, e, key 0 e⟩
theorem sidesC_cell (h : PD W H Gr E S p) (hG : ∀ y x, x < W → y < H → 0 ≤ Gr y x ∧ Gr y x ≤ 1000) (hW : 1 ≤ W ∧ W ≤ 10) (hH : 1 ≤ H ∧ H ≤ 10) {Y : List Spot} (hl : Y.length ≤ 1000) (hx : x < W) (hy : y < H) : ∀ i, i ≤ 4 → ∀ acc : List Hurdle, acc.length ≤ 100000 + i → ∃ L, Ev (fun k => impl_Pasture_sidesOf.l2 p Y (sp x y) k acc (i : Int)) (acc ++ L) ∧ L.length ≤ 4 - i ∧ (∀ g ∈ L, ∃ j : Nat, j < 4 ∧ cellB p (nx (sp x y) (j : Int)).X (nx (sp x y) (j : Int)).Y = true ∧ impl_hurdleAt.f (sp x y) (j : Int) = some g) ∧
    ∀ j : Nat, i ≤ j → j < 4 → cellB p (nx (sp x y) (j : Int)).X (nx (sp x y) (j : Int)).Y = true → nx (sp x y) (j : Int) ∉ Y → ∃ g ∈ L, impl_hurdleAt.f (sp x y) (j : Int) = some g := by
  have v := h.V hW.2 hH.2 hG
  have hw := vP_okW (h.ok hW hH hG)
  refine upL ?_ ?_
  · intro acc ha
    exact ⟨[], by rw [List.append_nil]; exact Ev.step (fun k => impl_Pasture_sidesOf.l2.eq_2 _ _ _ _ _ _) (Ev.neg (by omega) (Ev.const rfl)), by simp, fun g hg => by simp at hg, fun j h1 h2 => by omega⟩
  · intro i hi ih acc ha
    have hv : VSpot (nx (sp x y) (i : Int)) := nx_in (by omega) (by omega) _
    by_cases c : cellB p (nx (sp x y) (i : Int)).X (nx (sp x y) (i : Int)).Y = true ∧ nx (sp x y) (i : Int) ∉ Y
    · obtain ⟨_, _, g, o, _, _, hg, _⟩ := hat h hW.2 hH.2 hx hy hi c.1
      obtain ⟨L, l1, l2, l3, l4⟩ := ih (acc ++ [g]) (by simp; omega)
      rw [← wsucc (n := 4) hi (by omega), List.append_assoc] at l1
      have cn : decide (nx (sp x y) (i : Int) ∈ Y) = false := decide_eq_false c.2
      refine ⟨[g] ++ L, Ev.step (fun k => impl_Pasture_sidesOf.l2.eq_2 _ _ _ _ _ _) (Ev.pos (by omega) (Ev.bind (Ev.const (ahead_eq (sp x y) i)) (Ev.bind (a := true) (Ev.bind (Ev.const (isCell_eq v hw _ hv)) (Ev.pos c.1 ((contS_ev Y _ (by omega)).bind (Ev.const (by rw [cn]; rfl))))) (Ev.pos rfl (Ev.bind (Ev.const hg) (Ev.bind (Ev.const (chk_t (by simp; omega))) l1)))))), by simp; omega, fun g' hm => ?_, fun j h1 h2 h3 h4 => ?_⟩
      · rcases List.mem_append.1 hm with hm | hm
        · rw [List.mem_singleton.1 hm]; exact ⟨i, hi, c.1, hg⟩
        · exact l3 g' hm
      · by_cases hj : j = i
        · subst hj; exact ⟨g, List.mem_append.2 (.inl (List.mem_singleton.2 rfl)), hg⟩
        · obtain ⟨g', m1, m2⟩ := l4 j (by omega) h2 h3 h4
          exact ⟨g', List.mem_append.2 (.inr m1), m2⟩
    · obtain ⟨L, l1, l2, l3, l4⟩ := ih acc (by omega)
      rw [← wsucc (n := 4) hi (by omega)] at l1
      refine ⟨L, Ev.step (fun k => impl_Pasture_sidesOf.l2.eq_2 _ _ _ _ _ _) (Ev.pos (by omega) (Ev.bind (Ev.const (ahead_eq (sp x y) i)) (Ev.bind (a := false) (Ev.bind (Ev.const (isCell_eq v hw _ hv)) ?_) (Ev.neg (by simp) l1)))), by omega, l3, fun j h1 h2 h3 h4 => ?_⟩
      · cases d : cellB p (nx (sp x y) (i : Int)).X (nx (sp x y) (i : Int)).Y
        · exact Ev.neg (by simp) (Ev.const rfl)
        · have cn : decide (nx (sp x y) (i : Int) ∈ Y) = true := decide_eq_true (Decidable.byContradiction fun z => c ⟨d, z⟩)
          exact Ev.pos rfl ((contS_ev Y _ (by omega)).bind (Ev.const (by rw [cn]; rfl)))
      · by_cases hj : j = i
        · subst hj; exact absurd ⟨h3, h4⟩ c
        · exact l4 j (by omega) h2 h3 h4
theorem sidesC_loop (h : PD W H Gr E S p) (hG : ∀ y x, x < W → y < H → 0 ≤ Gr y x ∧ Gr y x ≤ 1000) (hW : 1 ≤ W ∧ W ≤ 10) (hH : 1 ≤ H ∧ H ≤ 10) {Y : List Spot} (hl : Y.length ≤ 1000) (hY : ∀ s ∈ Y, ∃ x y : Nat, x < W ∧ y < H ∧ s = sp x y) : ∀ i, i ≤ Y.length → ∀ acc : List Hurdle, acc.length ≤ 4 * i → ∃ L, Ev (fun k => impl_Pasture_sidesOf.l1 p Y Y k acc (i : Int)) (acc ++ L) ∧ L.length ≤ 4 * (Y.length - i) ∧ (∀ g ∈ L, ∃ (x y j : Nat), x < W ∧ y < H ∧ sp x y ∈ Y ∧ j < 4 ∧ cellB p (nx (sp x y) (j : Int)).X (nx (sp x y) (j : Int)).Y = true ∧ impl_hurdleAt.f (sp x y) (j : Int) = some g) ∧
    ∀ (x y j : Nat), x < W → y < H → sp x y ∈ Y.drop i → j < 4 → cellB p (nx (sp x y) (j : Int)).X (nx (sp x y) (j : Int)).Y = true → nx (sp x y) (j : Int) ∉ Y → ∃ g ∈ L, impl_hurdleAt.f (sp x y) (j : Int) = some g := by
  refine upL ?_ ?_
  · intro acc ha
    exact ⟨[], by rw [List.append_nil]; exact Ev.step (fun k => impl_Pasture_sidesOf.l1.eq_2 _ _ _ _ _ _) (Ev.neg (by omega) (Ev.const rfl)), by simp, fun g hg => by simp at hg, fun x y j _ _ h1 => by rw [List.drop_length] at h1; simp at h1⟩
  · intro i hi ih acc ha
    obtain ⟨x, y, hx, hy, e⟩ := hY _ (List.getElem_mem hi)
    obtain ⟨L1, a1, a2, a3, a4⟩ := sidesC_cell h hG hW hH hl hx hy 0 (Nat.zero_le _) acc (by omega)
    obtain ⟨L, l1, l2, l3, l4⟩ := ih (acc ++ L1) (by rw [List.length_append]; omega)
    rw [← wsucc hi (by omega), List.append_assoc] at l1
    refine ⟨L1 ++ L, Ev.step (fun k => impl_Pasture_sidesOf.l1.eq_2 _ _ _ _ _ _) (Ev.pos (by omega) (Ev.bind (Ev.bind (Ev.const ((getI_nat hi).trans (congrArg some e))) (a1.bind (Ev.const rfl))) l1)), by rw [List.length_append]; omega, fun g hg => ?_, fun x1 y1 j h1 h2 h3 h4 h5 h6 => ?_⟩
    · rcases List.mem_append.1 hg with hg | hg
      · obtain ⟨j, j1, j2, j3⟩ := a3 g hg
        exact ⟨x, y, j, hx, hy, by rw [← e]; exact List.getElem_mem hi, j1, j2, j3⟩
      · exact l3 g hg
    · rw [List.drop_eq_getElem_cons hi, e] at h3
      rcases List.mem_cons.1 h3 with h3 | h3
      · obtain ⟨rfl, rfl⟩ := sp_inj' h3
        obtain ⟨g, g1, g2⟩ := a4 j (Nat.zero_le _) h4 h5 h6
        exact ⟨g, List.mem_append.2 (.inl g1), g2⟩
      · obtain ⟨g, g1, g2⟩ := l4 x1 y1 j h1 h2 h3 h4 h5 h6
        exact ⟨g, List.mem_append.2 (.inr g1), g2⟩
theorem pairs_loop {L : List Hurdle} (hl : L.length ≤ 1000) : ∀ i, i ≤ L.length → ∀ acc : List Spot, acc.length ≤ 1000 + 2 * i → ∃ B, Ev (fun k => impl_GatesNeeded.l2 L k acc (i : Int)) (acc ++ B) ∧ B.length = 2 * (L.length - i) ∧ (∀ s ∈ B, ∃ g ∈ L, s = g.At ∨ impl_Hurdle_other.f g = some s) ∧ ∀ g ∈ L.drop i, ∀ o, impl_Hurdle_other.f g = some o → g.At ∈ B ∧ o ∈ B := by
  refine upL ?_ ?_
  · intro acc ha
    exact ⟨[], by rw [List.append_nil]; exact Ev.step (fun k => impl_GatesNeeded.l2.eq_2 _ _ _ _) (Ev.neg (by omega) (Ev.const rfl)), by simp, fun s hs => by simp at hs, fun g hg => by rw [List.drop_length] at hg; simp at hg⟩
  · intro i hi ih acc ha
    have ho := other_eq L[i]
    obtain ⟨B, b1, b2, b3, b4⟩ := ih (acc ++ [L[i].At, nx L[i].At (sdI L[i].South : Int)]) (by simp; omega)
    rw [← wsucc hi (by omega), List.append_assoc] at b1
    refine ⟨[L[i].At, nx L[i].At (sdI L[i].South : Int)] ++ B, Ev.step (fun k => impl_GatesNeeded.l2.eq_2 _ _ _ _) (Ev.pos (by omega) (Ev.bind (Ev.const (getI_nat hi)) (Ev.bind (Ev.const ho) (Ev.bind (Ev.const (chk_t (by simp; omega))) b1)))), by rw [List.length_append, b2]; simp; omega, fun s hs => ?_, fun g hg o hgo => ?_⟩
    · rcases List.mem_append.1 hs with hs | hs
      · simp only [List.mem_cons, List.not_mem_nil, or_false] at hs
        rcases hs with rfl | rfl
        · exact ⟨_, List.getElem_mem hi, .inl rfl⟩
        · exact ⟨_, List.getElem_mem hi, .inr ho⟩
      · exact b3 s hs
    · rw [List.drop_eq_getElem_cons hi] at hg
      rcases List.mem_cons.1 hg with rfl | hg
      · rw [ho] at hgo
        obtain rfl := Option.some.inj hgo
        exact ⟨List.mem_append.2 (.inl (by simp)), List.mem_append.2 (.inl (by simp))⟩
      · obtain ⟨c1, c2⟩ := b4 g hg o hgo
        exact ⟨List.mem_append.2 (.inr c1), List.mem_append.2 (.inr c2)⟩
/-- The cells of a list are those of a level. -/
def atLv (W H : Nat) (p : Pasture) (T : Nat → Nat → Prop) (Y : List Spot) : Prop := isYard p Y ∧ ∀ b a, b < H → a < W → (sp a b ∈ Y ↔ T b a)
theorem round_ev (h : PD W H Gr E S p) (hG : ∀ y x, x < W → y < H → 0 ≤ Gr y x ∧ Gr y x ≤ 1000) (hW : 1 ≤ W ∧ W ≤ 10) (hH : 1 ≤ H ∧ H ≤ 10) (hax : ax < W) (hay : ay < H) {k : Nat} {Y : List Spot} (hY : atLv W H p (Lv W H E S ay ax k) Y) :
    ∃ (L : List Hurdle) (B : List Spot) (m : Tb) (Y' : List Spot), slices_Clone_impl_Spot_impl_Spot.f Y = some Y ∧ Ev (fun k => impl_Pasture_sidesOf.f k p Y) L ∧ Ev (fun k => impl_GatesNeeded.l2 L k Y 0) B ∧ Ev (fun k => impl_Pasture_far.f k p B) m ∧ Ev (fun k => impl_Pasture_cells.f k p (impl_GatesNeeded_1.f m)) Y' ∧ atLv W H p (Lv W H E S ay ax (k + 1)) Y' := by
  have v := h.V hW.2 hH.2 hG
  have hw := vP_okW (h.ok hW hH hG)
  have eW : p.Wide.toNat = W := by rw [h.w]; omega
  have eH : p.High.toNat = H := by rw [h.h]; omega
  obtain ⟨hY1, hY2⟩ := hY
  have hl := isYard_len hw hY1
  have hYc : ∀ s ∈ Y, ∃ x y : Nat, x < W ∧ y < H ∧ s = sp x y := fun s hs => by
    obtain ⟨x, y, hx, hy, e⟩ := isYard_mem hY1 hs
    exact ⟨x, y, by omega, by omega, e⟩
  have hcl : slices_Clone_impl_Spot_impl_Spot.f Y = some Y := by
    unfold slices_Clone_impl_Spot_impl_Spot.f
    rw [chk_t (by simp; omega)]; rfl
  obtain ⟨L, l1, l2, l3, l4⟩ := sidesC_loop h hG hW hH (by omega) hYc 0 (Nat.zero_le _) [] (by simp)
  rw [List.nil_append] at l1
  rw [List.drop_zero] at l4
  have hso : Ev (fun k => impl_Pasture_sidesOf.f k p Y) L := (ordered_ev (isYard_order hY1) (isYard_cellIn hw hY1) (by omega)).bind (l1.bind (Ev.const rfl))
  obtain ⟨B, b1, b2, b3, b4⟩ := pairs_loop (L := L) (by omega) 0 (Nat.zero_le _) Y (by omega)
  rw [List.drop_zero] at b4
  -- what is in the list of starts
  have hB : ∀ s ∈ Y ++ B, ∃ x y : Nat, x < W ∧ y < H ∧ s = sp x y ∧ Lv W H E S ay ax (k + 1) y x := fun s hs => by
    have old : ∀ x y, x < W → y < H → sp x y ∈ Y → Lv W H E S ay ax (k + 1) y x := fun x y hx hy hm => ((hY2 y x hy hx).1 hm).up hax hay
    rcases List.mem_append.1 hs with hs | hs
    · obtain ⟨x, y, hx, hy, rfl⟩ := hYc s hs
      exact ⟨x, y, hx, hy, rfl, old x y hx hy hs⟩
    · obtain ⟨g, g1, g2⟩ := b3 s hs
      obtain ⟨x, y, j, hx, hy, hm, hj, hc, hg⟩ := l3 g g1
      obtain ⟨x', y', g', o, e1, e2, e3, e4, e5⟩ := hat h hW.2 hH.2 hx hy hj hc
      rw [hg] at e3
      obtain rfl := Option.some.inj e3
      have hi := e2.in_ hx hy
      have new : Lv W H E S ay ax (k + 1) y' x' := ((hY2 y x hy hx).1 hm).nbr hax hay e2
      rcases g2 with rfl | g2
      · rcases e5 with ⟨e5, _⟩ | ⟨e5, _⟩
        · exact ⟨x, y, hx, hy, e5, old x y hx hy hm⟩
        · exact ⟨x', y', hi.1, hi.2, e5, new⟩
      · rw [e4] at g2
        obtain rfl := Option.some.inj g2
        rcases e5 with ⟨_, e5⟩ | ⟨_, e5⟩
        · exact ⟨x', y', hi.1, hi.2, e5, new⟩
        · exact ⟨x, y, hx, hy, e5, old x y hx hy hm⟩
  obtain ⟨m, m1, m2, m3⟩ := farL_ev h hG hW hH (L := Y ++ B) (by rw [List.length_append]; omega) (fun s hs => by
    obtain ⟨x, y, hx, hy, e, _⟩ := hB s hs
    exact ⟨x, y, hx, hy, e⟩)
  have hcells : ∀ k, 24 ≤ k → impl_Pasture_cells.f k p (impl_GatesNeeded_1.f m) = some (gridF (fun y x => decide (0 ≤ g2 m y x)) p.Wide.toNat 0 p.High.toNat) := fun k hk => cells_eq hw (fun y x hy hx => by
    have := m2 y x (by omega) (by omega)
    unfold impl_GatesNeeded_1.f impl_steps_at.f
    rw [getR m (show y < 10 by omega), Option.bind_some, getA _ (show x < 10 by omega), Option.bind_some, Option.bind_some]
    show some (decide (0 ≤ IntKind.i64.wrap (g2 m y x))) = _
    rw [w64 (by omega) (by omega)]) hk
  refine ⟨L, Y ++ B, m, _, hcl, hso, b1, m1, ⟨24, hcells⟩, ⟨_, rfl⟩, fun b a hb ha => ?_⟩
  have hmem : sp a b ∈ gridF (fun y x => decide (0 ≤ g2 m y x)) p.Wide.toNat 0 p.High.toNat ↔ 0 ≤ g2 m b a := by
    rw [gridF_mem]
    constructor
    · rintro ⟨i, j, c1, c2, c3, c4, c5⟩
      obtain ⟨rfl, rfl⟩ := sp_inj' (x := a) (y := b) (x' := j) (y' := i) c5
      exact of_decide_eq_true c4
    · intro c
      exact ⟨b, a, Nat.zero_le _, by omega, by omega, decide_eq_true c, rfl⟩
  rw [hmem, m3 b a hb ha]
  constructor
  · rintro ⟨d, c, hd, hc, hm, hr⟩
    obtain ⟨x, y, hx, hy, e, hL⟩ := hB _ hm
    obtain ⟨rfl, rfl⟩ := sp_inj' e
    exact hL.closed hr
  · rintro ⟨d, c, d', c', i1, i2, h3, h4, h5⟩
    refine ⟨d', c', i2.2, i2.1, ?_, h5⟩
    have hd := (hY2 d c i1.2 i1.1).2 h3
    rcases h4 with ⟨rfl, rfl⟩ | h4
    · exact List.mem_append.2 (.inl hd)
    · by_cases hin : sp c' d' ∈ Y
      · exact List.mem_append.2 (.inl hin)
      · obtain ⟨j, j1, j2, j3⟩ := adj_dir h hW.2 hH.2 i1.1 i1.2 h4
        obtain ⟨g, g1, g2⟩ := l4 c d j i1.1 i1.2 hd j1 j3 (by rw [j2]; exact hin)
        obtain ⟨x', y', g', o, e1, e2, e3, e4, e5⟩ := hat h hW.2 hH.2 i1.1 i1.2 j1 j3
        rw [g2] at e3
        obtain rfl := Option.some.inj e3
        obtain ⟨f1, f2⟩ := b4 g g1 o e4
        rw [j2] at e1
        obtain ⟨rfl, rfl⟩ := sp_inj' e1
        rcases e5 with ⟨_, e5⟩ | ⟨e5, _⟩
        · rw [← e5]; exact List.mem_append.2 (.inr f2)
        · rw [← e5]; exact List.mem_append.2 (.inr f1)
end Go.Proofs.YtloljfkfnpgjfaaGreat
/-
  Plain law: one round of the reference's search for gates.
-/
namespace Go.Proofs.YtloljfkfnpgjfaaGreat
open G
set_option linter.unusedVariables false
set_option linter.unusedSimpArgs false
variable {W H : Nat} {p q : Pasture} {Gr : Nat → Nat → Int} {E S E' S' : Nat → Nat → Bool} {y x b a d c y' x' : Nat} {s : Bool} {ax ay k : Nat}
abbrev Tbb := Arr 10 (Arr 10 Bool)
def bA (r : Arr 10 Bool) (i : Nat) : Bool := r.l.getD i false
def bR (m : Tbb) (i : Nat) : Arr 10 Bool := (m.l[i]?).getD (Arr.mk' false)
def b2 (m : Tbb) (y x : Nat) : Bool := bA (bR m y) x
theorem getBA (r : Arr 10 Bool) {i : Nat} (h : i < 10) : getI r.l (i : Int) = some (bA r i) := by
  have hl : i < r.l.length := by rw [r.len]; exact h
  rw [getI_nat hl]
  unfold bA
  rw [List.getD_eq_getElem?_getD, List.getElem?_eq_getElem hl]; rfl
theorem getBR (m : Tbb) {i : Nat} (h : i < 10) : getI m.l (i : Int) = some (bR m i) := by
  have hl : i < m.l.length := by rw [m.len]; exact h
  rw [getI_nat hl]
  unfold bR
  rw [List.getElem?_eq_getElem hl]; rfl
def putT2 (m : Tbb) (y x : Nat) (v : Bool) : Tbb := aset m y (aset (bR m y) x v)
theorem b2_put (m : Tbb) (hy : y < 10) (hx : x < 10) (v : Bool) (b a : Nat) : b2 (putT2 m y x v) b a = if y = b ∧ x = a then v else b2 m b a := by
  have hR : ∀ r : Arr 10 Bool, bR (aset m y r) b = if y = b then r else bR m b := fun r => by
    unfold bR aset
    simp only [List.getElem?_set]
    by_cases e : y = b
    · subst e
      rw [if_pos rfl, if_pos rfl, if_pos (by rw [m.len]; exact hy)]; rfl
    · rw [if_neg e, if_neg e]
  have hA : ∀ r : Arr 10 Bool, bA (aset r x v) a = if x = a then v else bA r a := fun r => by
    unfold bA aset
    simp only [List.getD_eq_getElem?_getD, List.getElem?_set]
    by_cases e : x = a
    · subst e
      rw [if_pos rfl, if_pos rfl, if_pos (by rw [r.len]; exact hx)]; rfl
    · rw [if_neg e, if_neg e]
  unfold b2 putT2
  rw [hR]
  by_cases e : y = b
  · subst e
    rw [if_pos rfl, hA]
    by_cases e2 : x = a
    · rw [if_pos e2, if_pos ⟨rfl, e2⟩]
    · rw [if_neg e2, if_neg (fun z => e2 z.2)]
  · rw [if_neg e, if_neg (fun z => e z.1)]
theorem b2_zero (hy : y < 10) (hx : x < 10) : b2 (Arr.mk' (Arr.mk' false : Arr 10 Bool) : Tbb) y x = false := by
  have : ∀ a b : Fin 10, b2 (Arr.mk' (Arr.mk' false : Arr 10 Bool) : Tbb) a b = false := by decide
  exact this ⟨y, hy⟩ ⟨x, hx⟩
theorem mask_ev {L : List Spot} (hl : L.length ≤ 1000) (hL : ∀ s ∈ L, cellIn s) : ∃ m : Tbb, Ev (fun k => spec_l01Mask.f k L) m ∧ ∀ b a, b < 10 → a < 10 → (b2 m b a = true ↔ sp a b ∈ L) := by
  have key : ∀ i, i ≤ L.length → ∀ m : Tbb, ∃ m' : Tbb, Ev (fun k => spec_l01Mask.l1 L k m (i : Int)) m' ∧ ∀ b a, b < 10 → a < 10 → (b2 m' b a = true ↔ b2 m b a = true ∨ sp a b ∈ L.drop i) := by
    refine upL ?_ ?_
    · intro m
      exact ⟨m, Ev.step (fun k => spec_l01Mask.l1.eq_2 _ _ _ _) (Ev.neg (by omega) (Ev.const rfl)), fun b a _ _ => by rw [List.drop_length]; simp⟩
    · intro i hi ih m
      obtain ⟨x, y, hx, hy, e⟩ := hL _ (List.getElem_mem hi)
      have e : L[i] = sp x y := e
      obtain ⟨m', h1, h2⟩ := ih (putT2 m y x true)
      rw [← wsucc hi (by omega)] at h1
      have g : getI L (i : Int) = some (sp x y) := (getI_nat hi).trans (congrArg some e)
      refine ⟨m', Ev.step (fun k => spec_l01Mask.l1.eq_2 _ _ _ _) (Ev.pos (by omega) (Ev.bind (Ev.const g) (Ev.bind (Ev.const g) (Ev.bind (Ev.const (getBR m hy)) (Ev.bind (Ev.const (getBA _ hx)) h1))))), fun b a hb ha => ?_⟩
      rw [h2 b a hb ha, b2_put m hy hx, List.drop_eq_getElem_cons hi, e, List.mem_cons]
      by_cases z : y = b ∧ x = a
      · obtain ⟨rfl, rfl⟩ := z
        rw [if_pos ⟨rfl, rfl⟩]
        exact ⟨fun _ => .inr (.inl rfl), fun _ => .inl rfl⟩
      · rw [if_neg z]
        constructor
        · rintro (u | u)
          · exact .inl u
          · exact .inr (.inr u)
        · rintro (u | u | u)
          · exact .inl u
          · have := sp_inj' u
            exact absurd ⟨this.2.symm, this.1.symm⟩ z
          · exact .inr u
  obtain ⟨m, h1, h2⟩ := key 0 (Nat.zero_le _) (Arr.mk' (Arr.mk' false : Arr 10 Bool) : Tbb)
  refine ⟨m, h1.bind (Ev.const rfl), fun b a hb ha => ?_⟩
  rw [h2 b a hb ha, b2_zero hb ha, List.drop_zero]; simp
/-! ### Cells beside those of a mask -/
/-- A cell beside, inside. -/
def bes (p : Pasture) (x y b a : Nat) (i : Nat) : Prop := ∃ j : Nat, i ≤ j ∧ j < 4 ∧ cellB p (nx (sp x y) (j : Int)).X (nx (sp x y) (j : Int)).Y = true ∧ nx (sp x y) (j : Int) = sp a b
theorem next4 (v : VPasture p) (hw : okW p = true) {inn : Tbb} (hx : x < 10) (hy : y < 10) (ht : b2 inn y x = true) : ∀ i : Nat, i ≤ 4 → ∀ m : Tbb, ∃ m' : Tbb, Ev (fun k => spec_GatesNeeded.l4 p inn (y : Int) (x : Int) k m (i : Int)) m' ∧ ∀ b a, b < 10 → a < 10 → (b2 m' b a = true ↔ b2 m b a = true ∨ bes p x y b a i) := by
  have g1 := getBR inn hy
  have g2' : getI (bR inn y).l (x : Int) = some true := (getBA _ hx).trans (congrArg some ht)
  refine upL ?_ ?_
  · intro m
    refine ⟨m, Ev.step (fun k => spec_GatesNeeded.l4.eq_2 _ _ _ _ _ _ _) (Ev.bind (a := false) (Ev.neg (by omega) (Ev.const rfl)) (Ev.neg (by simp) (Ev.const rfl))), fun b a _ _ => ⟨.inl, ?_⟩⟩
    rintro (u | ⟨j, h1, h2, _⟩)
    · exact u
    · omega
  · intro i hi ih m
    have hn : spec_l01Next.f (⟨(x : Int), (y : Int)⟩ : Spot) (i : Int) = some (nx (sp x y) (i : Int)) := next_eq (sp x y) i
    have hIs := l01Is_eq v (nx (sp x y) (i : Int)) (nx_in hx hy _)
    have stp : ∀ {m' : Tbb} {r : Tbb}, Ev (fun k => (spec_l01Next.f (⟨(x : Int), (y : Int)⟩ : Spot) (i : Int)).bind fun t31 => (spec_l01Is.f p t31).bind fun t33 => if t33 = true then ((getI m.l t31.Y).bind fun t34 => (getI t34.l t31.X).bind fun t35 => spec_GatesNeeded.l4 p inn (y : Int) (x : Int) k (aset m t31.Y.toNat (aset t34 t31.X.toNat true)) (IntKind.i64.wrap ((i : Int) + 1))) else (spec_GatesNeeded.l4 p inn (y : Int) (x : Int) k m (IntKind.i64.wrap ((i : Int) + 1)))) r → Ev (fun k => spec_GatesNeeded.l4 p inn (y : Int) (x : Int) k m (i : Int)) r := fun {_ r} h => Ev.step (fun k => spec_GatesNeeded.l4.eq_2 _ _ _ _ _ _ _) (Ev.bind (a := true) (Ev.pos (by omega) (Ev.bind (Ev.const g1) (Ev.bind (Ev.const g2') (Ev.const rfl)))) (Ev.pos rfl h))
    cases c : cellB p (nx (sp x y) (i : Int)).X (nx (sp x y) (i : Int)).Y
    · obtain ⟨m', h1, h2⟩ := ih m
      rw [← wsucc (n := 4) hi (by omega)] at h1
      refine ⟨m', stp (m' := m) (Ev.bind (Ev.const hn) (Ev.bind (Ev.const hIs) (Ev.neg (by rw [c]; simp) h1))), fun b a hb ha => ?_⟩
      rw [h2 b a hb ha]
      constructor
      · rintro (u | ⟨j, j1, j2⟩)
        · exact .inl u
        · exact .inr ⟨j, by omega, j2⟩
      · rintro (u | ⟨j, j1, j2, j3, j4⟩)
        · exact .inl u
        · by_cases e : j = i
          · subst e; rw [c] at j3; cases j3
          · exact .inr ⟨j, by omega, j2, j3, j4⟩
    · obtain ⟨x', y', hx', hy', e⟩ := cellB_nat hw c
      obtain ⟨m', h1, h2⟩ := ih (putT2 m y' x' true)
      rw [← wsucc (n := 4) hi (by omega)] at h1
      rw [e] at hn hIs
      refine ⟨m', stp (m' := m) (Ev.bind (Ev.const hn) (Ev.bind (Ev.const hIs) (Ev.pos (by rw [← e]; exact c) (Ev.bind (Ev.const (getBR m hy')) (Ev.bind (Ev.const (getBA _ hx')) h1))))), fun b a hb ha => ?_⟩
      rw [h2 b a hb ha, b2_put m hy' hx']
      constructor
      · rintro (u | ⟨j, j1, j2⟩)
        · by_cases z : y' = b ∧ x' = a
          · obtain ⟨rfl, rfl⟩ := z
            exact .inr ⟨i, Nat.le_refl _, hi, c, e⟩
          · rw [if_neg z] at u; exact .inl u
        · exact .inr ⟨j, by omega, j2⟩
      · rintro (u | ⟨j, j1, j2, j3, j4⟩)
        · left
          split
          · rfl
          · exact u
        · by_cases e2 : j = i
          · subst e2
            rw [e] at j4
            obtain ⟨rfl, rfl⟩ := sp_inj' j4
            left
            rw [if_pos ⟨rfl, rfl⟩]
          · exact .inr ⟨j, by omega, j2, j3, j4⟩
theorem next_ev (h : PD W H Gr E S p) (hG : ∀ y x, x < W → y < H → 0 ≤ Gr y x ∧ Gr y x ≤ 1000) (hW : 1 ≤ W ∧ W ≤ 10) (hH : 1 ≤ H ∧ H ≤ 10) (inn : Tbb) : ∃ m' : Tbb, Ev (fun k => spec_GatesNeeded.l2 p inn k inn 0) m' ∧ ∀ b a, b < 10 → a < 10 → (b2 m' b a = true ↔ b2 inn b a = true ∨ ∃ y x, x < W ∧ y < H ∧ b2 inn y x = true ∧ bes p x y b a 0) := by
  have v := h.V hW.2 hH.2 hG
  have hw := vP_okW (h.ok hW hH hG)
  have pw := h.w
  have ph := h.h
  have row : ∀ y, y < H → ∀ x, x ≤ W → ∀ m : Tbb, ∃ m' : Tbb, Ev (fun k => spec_GatesNeeded.l3 p inn (y : Int) k m (x : Int)) m' ∧ ∀ b a, b < 10 → a < 10 → (b2 m' b a = true ↔ b2 m b a = true ∨ ∃ x1, x ≤ x1 ∧ x1 < W ∧ b2 inn y x1 = true ∧ bes p x1 y b a 0) := fun y hy => by
    refine upL ?_ ?_
    · intro m
      refine ⟨m, Ev.step (fun k => spec_GatesNeeded.l3.eq_2 _ _ _ _ _ _) (Ev.neg (by omega) (Ev.const rfl)), fun b a _ _ => ⟨.inl, ?_⟩⟩
      rintro (u | ⟨x1, h1, h2, _⟩)
      · exact u
      · omega
    · intro x hx ih m
      have e : IntKind.i8.wrap ((x : Int) + 1) = ((x + 1 : Nat) : Int) := by rw [w8 (by omega) (by omega)]; omega
      cases c : b2 inn y x
      · obtain ⟨m', h1, h2⟩ := ih m
        rw [← e] at h1
        have g2' : getI (bR inn y).l (x : Int) = some false := (getBA _ (by omega)).trans (congrArg some c)
        refine ⟨m', Ev.step (fun k => spec_GatesNeeded.l3.eq_2 _ _ _ _ _ _) (Ev.pos (by omega) (Ev.bind (a := m) (Ev.bind (a := m) (Ev.step (fun k => spec_GatesNeeded.l4.eq_2 _ _ _ _ _ _ _) (Ev.bind (a := false) (Ev.pos (by omega) (Ev.bind (Ev.const (getBR inn (by omega))) (Ev.bind (Ev.const g2') (Ev.const rfl)))) (Ev.neg (by simp) (Ev.const rfl)))) (Ev.const rfl)) h1)), fun b a hb ha => ?_⟩
        rw [h2 b a hb ha]
        constructor
        · rintro (u | ⟨x1, k1, k2⟩)
          · exact .inl u
          · exact .inr ⟨x1, by omega, k2⟩
        · rintro (u | ⟨x1, k1, k2, k3, k4⟩)
          · exact .inl u
          · by_cases z : x1 = x
            · subst z; rw [c] at k3; cases k3
            · exact .inr ⟨x1, by omega, k2, k3, k4⟩
      · obtain ⟨m1, a1, a2⟩ := next4 v hw (inn := inn) (x := x) (y := y) (by omega) (by omega) c 0 (Nat.zero_le _) m
        obtain ⟨m', h1, h2⟩ := ih m1
        rw [← e] at h1
        refine ⟨m', Ev.step (fun k => spec_GatesNeeded.l3.eq_2 _ _ _ _ _ _) (Ev.pos (by omega) (Ev.bind (a1.bind (Ev.const rfl)) h1)), fun b a hb ha => ?_⟩
        rw [h2 b a hb ha, a2 b a hb ha]
        constructor
        · rintro ((u | u) | ⟨x1, k1, k2⟩)
          · exact .inl u
          · exact .inr ⟨x, Nat.le_refl _, hx, c, u⟩
          · exact .inr ⟨x1, by omega, k2⟩
        · rintro (u | ⟨x1, k1, k2, k3, k4⟩)
          · exact .inl (.inl u)
          · by_cases z : x1 = x
            · subst z; exact .inl (.inr k4)
            · exact .inr ⟨x1, by omega, k2, k3, k4⟩
  have key : ∀ y, y ≤ H → ∀ m : Tbb, ∃ m' : Tbb, Ev (fun k => spec_GatesNeeded.l2 p inn k m (y : Int)) m' ∧ ∀ b a, b < 10 → a < 10 → (b2 m' b a = true ↔ b2 m b a = true ∨ ∃ y1 x1, y ≤ y1 ∧ x1 < W ∧ y1 < H ∧ b2 inn y1 x1 = true ∧ bes p x1 y1 b a 0) := by
    refine upL ?_ ?_
    · intro m
      refine ⟨m, Ev.step (fun k => spec_GatesNeeded.l2.eq_2 _ _ _ _ _) (Ev.neg (by omega) (Ev.const rfl)), fun b a _ _ => ⟨.inl, ?_⟩⟩
      rintro (u | ⟨y1, x1, h1, h2, h3, _⟩)
      · exact u
      · omega
    · intro y hy ih m
      have e : IntKind.i8.wrap ((y : Int) + 1) = ((y + 1 : Nat) : Int) := by rw [w8 (by omega) (by omega)]; omega
      obtain ⟨m1, a1, a2⟩ := row y hy 0 (Nat.zero_le _) m
      obtain ⟨m', h1, h2⟩ := ih m1
      rw [← e] at h1
      refine ⟨m', Ev.step (fun k => spec_GatesNeeded.l2.eq_2 _ _ _ _ _) (Ev.pos (by omega) (Ev.bind (a1.bind (Ev.const rfl)) h1)), fun b a hb ha => ?_⟩
      rw [h2 b a hb ha, a2 b a hb ha]
      constructor
      · rintro ((u | ⟨x1, k1, k2, k3, k4⟩) | ⟨y1, x1, k1, k2⟩)
        · exact .inl u
        · exact .inr ⟨y, x1, Nat.le_refl _, k2, hy, k3, k4⟩
        · exact .inr ⟨y1, x1, by omega, k2⟩
      · rintro (u | ⟨y1, x1, k1, k2, k3, k4, k5⟩)
        · exact .inl (.inl u)
        · by_cases z : y1 = y
          · subst z; exact .inl (.inr ⟨x1, Nat.zero_le _, k2, k4, k5⟩)
          · exact .inr ⟨y1, x1, by omega, k2, k3, k4, k5⟩
  obtain ⟨m', h1, h2⟩ := key 0 (Nat.zero_le _) inn
  refine ⟨m', h1, fun b a hb ha => ?_⟩
  rw [h2 b a hb ha]
  constructor
  · rintro (u | ⟨y1, x1, k1, k2, k3, k4, k5⟩)
    · exact .inl u
    · exact .inr ⟨y1, x1, k2, k3, k4, k5⟩
  · rintro (u | ⟨y1, x1, k2, k3, k4, k5⟩)
    · exact .inl u
    · exact .inr ⟨y1, x1, Nat.zero_le _, k2, k3, k4, k5⟩
end Go.Proofs.YtloljfkfnpgjfaaGreat
/-
  Plain law: how many gates are needed, by the program and by the reference.
-/
namespace Go.Proofs.YtloljfkfnpgjfaaGreat
open G
set_option linter.unusedVariables false
set_option linter.unusedSimpArgs false
variable {W H : Nat} {p q : Pasture} {Gr : Nat → Nat → Int} {E S E' S' : Nat → Nat → Bool} {y x b a d c y' x' : Nat} {s : Bool} {ax ay : Nat}
theorem wset (w : List Bool) {i : Nat} (hi : i < w.length) (v : Nat) : ((w.set i true).getD v false = true ↔ w.getD v false = true ∨ v = i) := by
  rw [List.getD_eq_getElem?_getD, List.getD_eq_getElem?_getD, List.getElem?_set]
  by_cases e : i = v
  · subst e
    rw [if_pos rfl, if_pos hi]; simp
  · rw [if_neg e]
    exact ⟨.inl, fun h => h.resolve_right fun z => e z.symm⟩
theorem wget {w : List Bool} {i : Nat} (hi : i < w.length) : getI w (i : Int) = some (w.getD i false) := by
  rw [getI_nat hi, List.getD_eq_getElem?_getD, List.getElem?_eq_getElem hi]; rfl
/-- What stands in yards of which a cell is told. -/
theorem filled_ev (h : PD W H Gr E S p) (hG : ∀ y x, x < W → y < H → 0 ≤ Gr y x ∧ Gr y x ≤ 1000) (hW : 1 ≤ W ∧ W ≤ 10) (hH : 1 ≤ H ∧ H ≤ 10) (inn : Tbb) : ∃ m' : Tbb, Ev (fun k => spec_l03Filled.f k p inn) m' ∧ ∀ b a, b < H → a < W → (b2 m' b a = true ↔ ∃ d c, c < W ∧ d < H ∧ b2 inn d c = true ∧ Rt W H E S d c b a) := by
  obtain ⟨tab, ys, t, tl, hN, _⟩ := numS_ev h hG hW hH
  have pw := h.w
  have ph := h.h
  -- which yards
  have row : ∀ y, y < H → ∀ x, x ≤ W → ∀ w : List Bool, w.length = ys.length + 1 → ∃ w' : List Bool, Ev (fun k => spec_l03Filled.l2 p inn (tab, ys) (y : Int) k w (x : Int)) w' ∧ w'.length = ys.length + 1 ∧ ∀ v : Nat, (w'.getD v false = true ↔ w.getD v false = true ∨ ∃ x1, x ≤ x1 ∧ x1 < W ∧ b2 inn y x1 = true ∧ g2 tab y x1 = (v : Int)) := fun y hy => by
    refine upL ?_ ?_
    · intro w hw
      refine ⟨w, Ev.step (fun k => spec_l03Filled.l2.eq_2 _ _ _ _ _ _ _) (Ev.neg (by omega) (Ev.const rfl)), hw, fun v => ⟨.inl, ?_⟩⟩
      rintro (u | ⟨x1, h1, h2, _⟩)
      · exact u
      · omega
    · intro x hx ih w hwl
      have e : IntKind.i8.wrap ((x : Int) + 1) = ((x + 1 : Nat) : Int) := by rw [w8 (by omega) (by omega)]; omega
      have g1 := getBR inn (show y < 10 by omega)
      have g2' : getI (bR inn y).l (x : Int) = some (b2 inn y x) := getBA _ (show x < 10 by omega)
      have tp := t.pos y x hx hy
      cases c : b2 inn y x
      · rw [c] at g2'
        obtain ⟨w', h1, h2, h3⟩ := ih w hwl
        rw [← e] at h1
        refine ⟨w', Ev.step (fun k => spec_l03Filled.l2.eq_2 _ _ _ _ _ _ _) (Ev.pos (by omega) (Ev.bind (Ev.const g1) (Ev.bind (Ev.const g2') (Ev.neg (by simp) h1)))), h2, fun v => ?_⟩
        rw [h3 v]
        constructor
        · rintro (u | ⟨x1, k1, k2⟩)
          · exact .inl u
          · exact .inr ⟨x1, by omega, k2⟩
        · rintro (u | ⟨x1, k1, k2, k3, k4⟩)
          · exact .inl u
          · by_cases z : x1 = x
            · subst z; rw [c] at k3; cases k3
            · exact .inr ⟨x1, by omega, k2, k3, k4⟩
      · rw [c] at g2'
        obtain ⟨n, hn⟩ := Int.eq_ofNat_of_zero_le (show 0 ≤ g2 tab y x by omega)
        have hnl : n < w.length := by omega
        have t1 := getR tab (show y < 10 by omega)
        have t2 : getI (gR tab y).l (x : Int) = some (n : Int) := (getA _ (show x < 10 by omega)).trans (congrArg some hn)
        obtain ⟨w', h1, h2, h3⟩ := ih (w.set n true) (by rw [List.length_set]; exact hwl)
        rw [← e] at h1
        refine ⟨w', Ev.step (fun k => spec_l03Filled.l2.eq_2 _ _ _ _ _ _ _) (Ev.pos (by omega) (Ev.bind (Ev.const g1) (Ev.bind (Ev.const g2') (Ev.pos rfl (Ev.bind (Ev.const t1) (Ev.bind (Ev.const t2) (Ev.bind (Ev.const (wget hnl)) h1))))))), h2, fun v => ?_⟩
        rw [h3 v, wset w hnl]
        constructor
        · rintro ((u | u) | ⟨x1, k1, k2⟩)
          · exact .inl u
          · exact .inr ⟨x, Nat.le_refl _, hx, c, by rw [hn, u]⟩
          · exact .inr ⟨x1, by omega, k2⟩
        · rintro (u | ⟨x1, k1, k2, k3, k4⟩)
          · exact .inl (.inl u)
          · by_cases z : x1 = x
            · subst z; exact .inl (.inr (by omega))
            · exact .inr ⟨x1, by omega, k2, k3, k4⟩
  have key : ∀ y, y ≤ H → ∀ w : List Bool, w.length = ys.length + 1 → ∃ w' : List Bool, Ev (fun k => spec_l03Filled.l1 p inn (tab, ys) k w (y : Int)) w' ∧ w'.length = ys.length + 1 ∧ ∀ v : Nat, (w'.getD v false = true ↔ w.getD v false = true ∨ ∃ y1 x1, y ≤ y1 ∧ x1 < W ∧ y1 < H ∧ b2 inn y1 x1 = true ∧ g2 tab y1 x1 = (v : Int)) := by
    refine upL ?_ ?_
    · intro w hw
      refine ⟨w, Ev.step (fun k => spec_l03Filled.l1.eq_2 _ _ _ _ _ _) (Ev.neg (by omega) (Ev.const rfl)), hw, fun v => ⟨.inl, ?_⟩⟩
      rintro (u | ⟨y1, x1, h1, h2, h3, _⟩)
      · exact u
      · omega
    · intro y hy ih w hwl
      have e : IntKind.i8.wrap ((y : Int) + 1) = ((y + 1 : Nat) : Int) := by rw [w8 (by omega) (by omega)]; omega
      obtain ⟨w1, a1, a2, a3⟩ := row y hy 0 (Nat.zero_le _) w hwl
      obtain ⟨w', h1, h2, h3⟩ := ih w1 a2
      rw [← e] at h1
      refine ⟨w', Ev.step (fun k => spec_l03Filled.l1.eq_2 _ _ _ _ _ _) (Ev.pos (by omega) (Ev.bind (a1.bind (Ev.const rfl)) h1)), h2, fun v => ?_⟩
      rw [h3 v, a3 v]
      constructor
      · rintro ((u | ⟨x1, k1, k2, k3, k4⟩) | ⟨y1, x1, k1, k2⟩)
        · exact .inl u
        · exact .inr ⟨y, x1, Nat.le_refl _, k2, hy, k3, k4⟩
        · exact .inr ⟨y1, x1, by omega, k2⟩
      · rintro (u | ⟨y1, x1, k1, k2, k3, k4, k5⟩)
        · exact .inl (.inl u)
        · by_cases z : y1 = y
          · subst z; exact .inl (.inr ⟨x1, Nat.zero_le _, k2, k4, k5⟩)
          · exact .inr ⟨y1, x1, by omega, k2, k3, k4, k5⟩
  obtain ⟨w, w1, w2, w3⟩ := key 0 (Nat.zero_le _) (List.replicate (ys.length + 1) false) (by rw [List.length_replicate])
  have w3 : ∀ v : Nat, (w.getD v false = true ↔ ∃ y1 x1, x1 < W ∧ y1 < H ∧ b2 inn y1 x1 = true ∧ g2 tab y1 x1 = (v : Int)) := fun v => by
    rw [w3 v]
    constructor
    · rintro (u | ⟨y1, x1, k1, k2, k3, k4, k5⟩)
      · rw [List.getD_eq_getElem?_getD, List.getElem?_replicate] at u
        split at u <;> cases u
      · exact ⟨y1, x1, k2, k3, k4, k5⟩
    · rintro ⟨y1, x1, k2, k3, k4, k5⟩
      exact .inr ⟨y1, x1, Nat.zero_le _, k2, k3, k4, k5⟩
  -- their cells
  have row2 : ∀ y, y < H → ∀ x, x ≤ W → ∀ m : Tbb, ∃ m' : Tbb, Ev (fun k => spec_l03Filled.l4 p (tab, ys) w (y : Int) k m (x : Int)) m' ∧ ∀ b a, b < 10 → a < 10 → b2 m' b a = if b = y ∧ x ≤ a ∧ a < W then w.getD (g2 tab b a).toNat false else b2 m b a := fun y hy => by
    refine upL ?_ ?_
    · intro m
      exact ⟨m, Ev.step (fun k => spec_l03Filled.l4.eq_2 _ _ _ _ _ _ _) (Ev.neg (by omega) (Ev.const rfl)), fun b a _ _ => by rw [if_neg (by omega)]⟩
    · intro x hx ih m
      have e : IntKind.i8.wrap ((x : Int) + 1) = ((x + 1 : Nat) : Int) := by rw [w8 (by omega) (by omega)]; omega
      have tp := t.pos y x hx hy
      obtain ⟨n, hn⟩ := Int.eq_ofNat_of_zero_le (show 0 ≤ g2 tab y x by omega)
      have hnl : n < w.length := by omega
      have t1 := getR tab (show y < 10 by omega)
      have t2 : getI (gR tab y).l (x : Int) = some (n : Int) := (getA _ (show x < 10 by omega)).trans (congrArg some hn)
      obtain ⟨m', h1, h2⟩ := ih (putT2 m y x (w.getD n false))
      rw [← e] at h1
      refine ⟨m', Ev.step (fun k => spec_l03Filled.l4.eq_2 _ _ _ _ _ _ _) (Ev.pos (by omega) (Ev.bind (Ev.const t1) (Ev.bind (Ev.const t2) (Ev.bind (Ev.const (wget hnl)) (Ev.bind (Ev.const (getBR m (by omega))) (Ev.bind (Ev.const (getBA _ (by omega))) h1)))))), fun b a hb ha => ?_⟩
      rw [h2 b a hb ha, b2_put m (by omega) (by omega)]
      by_cases z : b = y ∧ x + 1 ≤ a ∧ a < W
      · rw [if_pos z, if_pos (by omega)]
      · rw [if_neg z]
        by_cases z2 : y = b ∧ x = a
        · obtain ⟨rfl, rfl⟩ := z2
          rw [if_pos ⟨rfl, rfl⟩, if_pos (by omega), hn]; rfl
        · rw [if_neg z2, if_neg (by omega)]
  have key2 : ∀ y, y ≤ H → ∀ m : Tbb, ∃ m' : Tbb, Ev (fun k => spec_l03Filled.l3 p (tab, ys) w k m (y : Int)) m' ∧ ∀ b a, b < 10 → a < 10 → b2 m' b a = if y ≤ b ∧ b < H ∧ a < W then w.getD (g2 tab b a).toNat false else b2 m b a := by
    refine upL ?_ ?_
    · intro m
      exact ⟨m, Ev.step (fun k => spec_l03Filled.l3.eq_2 _ _ _ _ _ _) (Ev.neg (by omega) (Ev.const rfl)), fun b a _ _ => by rw [if_neg (by omega)]⟩
    · intro y hy ih m
      have e : IntKind.i8.wrap ((y : Int) + 1) = ((y + 1 : Nat) : Int) := by rw [w8 (by omega) (by omega)]; omega
      obtain ⟨m1, a1, a2⟩ := row2 y hy 0 (Nat.zero_le _) m
      obtain ⟨m', h1, h2⟩ := ih m1
      rw [← e] at h1
      refine ⟨m', Ev.step (fun k => spec_l03Filled.l3.eq_2 _ _ _ _ _ _) (Ev.pos (by omega) (Ev.bind (a1.bind (Ev.const rfl)) h1)), fun b a hb ha => ?_⟩
      rw [h2 b a hb ha, a2 b a hb ha]
      by_cases z : y + 1 ≤ b ∧ b < H ∧ a < W
      · rw [if_pos z, if_pos (by omega)]
      · rw [if_neg z]
        by_cases z2 : b = y ∧ 0 ≤ a ∧ a < W
        · rw [if_pos z2, if_pos (by omega)]
        · rw [if_neg z2, if_neg (by omega)]
  obtain ⟨m', m1, m2⟩ := key2 0 (Nat.zero_le _) (Arr.mk' (Arr.mk' false : Arr 10 Bool) : Tbb)
  have wl : IntKind.i64.wrap ((ys.length : Int) + 1) = ((ys.length + 1 : Nat) : Int) := by rw [w64 (by omega) (by omega)]; omega
  refine ⟨m', hN.bind ?_, fun b a hb ha => ?_⟩
  · show Ev (fun k => (chk (0 ≤ IntKind.i64.wrap ((ys.length : Int) + 1) ∧ IntKind.i64.wrap ((ys.length : Int) + 1) ≤ 4294967296)).bind fun u7 => (spec_l03Filled.l1 p inn (tab, ys) k (List.replicate ((IntKind.i64.wrap ((ys.length : Int) + 1)).toNat) false : List Bool) 0).bind fun y9 => (spec_l03Filled.l3 p (tab, ys) y9 k (Arr.mk' (Arr.mk' false : Arr 10 Bool) : Arr 10 (Arr 10 Bool)) 0).bind fun y22 => some y22) m'
    rw [wl]
    exact Ev.bind (Ev.const (chk_t (by omega))) (Ev.bind (by rw [show ((ys.length + 1 : Nat) : Int).toNat = ys.length + 1 by omega]; exact w1) (m1.bind (Ev.const rfl)))
  · have tp := t.pos b a ha hb
    rw [m2 b a (by omega) (by omega), if_pos ⟨Nat.zero_le _, hb, ha⟩, w3]
    constructor
    · rintro ⟨d, c, k2, k3, k4, k5⟩
      exact ⟨d, c, k2, k3, k4, (t.eq d c b a k2 k3 ha hb).2 (by omega)⟩
    · rintro ⟨d, c, k2, k3, k4, k5⟩
      have := (t.eq d c b a k2 k3 ha hb).1 k5
      exact ⟨d, c, k2, k3, k4, by omega⟩
/-- A mask of a level: the next one. -/
theorem roundS_ev (h : PD W H Gr E S p) (hG : ∀ y x, x < W → y < H → 0 ≤ Gr y x ∧ Gr y x ≤ 1000) (hW : 1 ≤ W ∧ W ≤ 10) (hH : 1 ≤ H ∧ H ≤ 10) (hax : ax < W) (hay : ay < H) {k : Nat} {inn : Tbb} (hi : ∀ b a, b < H → a < W → (b2 inn b a = true ↔ Lv W H E S ay ax k b a)) :
    ∃ (m m' : Tbb), Ev (fun k => spec_GatesNeeded.l2 p inn k inn 0) m ∧ Ev (fun k => spec_l03Filled.f k p m) m' ∧ ∀ b a, b < H → a < W → (b2 m' b a = true ↔ Lv W H E S ay ax (k + 1) b a) := by
  obtain ⟨m, m1, m2⟩ := next_ev h hG hW hH inn
  obtain ⟨m', f1, f2⟩ := filled_ev h hG hW hH m
  refine ⟨m, m', m1, f1, fun b a hb ha => ?_⟩
  rw [f2 b a hb ha]
  constructor
  · rintro ⟨d, c, hc, hd, h1, h2⟩
    rcases (m2 d c (by omega) (by omega)).1 h1 with h1 | ⟨y, x, hx, hy, h1, j, _, hj, hcb, hn⟩
    · exact (((hi d c hd hc).1 h1).up hax hay).closed h2
    · obtain ⟨x', y', g, o, e1, e2, _⟩ := hat h hW.2 hH.2 hx hy hj hcb
      rw [hn] at e1
      obtain ⟨rfl, rfl⟩ := sp_inj' e1
      exact (((hi y x hy hx).1 h1).nbr hax hay e2).closed h2
  · rintro ⟨d, c, d', c', i1, i2, h3, h4, h5⟩
    refine ⟨d', c', i2.1, i2.2, (m2 d' c' (by omega) (by omega)).2 ?_, h5⟩
    have h3 := (hi d c i1.2 i1.1).2 h3
    rcases h4 with ⟨rfl, rfl⟩ | h4
    · exact .inl h3
    · obtain ⟨j, j1, j2, j3⟩ := adj_dir h hW.2 hH.2 i1.1 i1.2 h4
      exact .inr ⟨d, c, i1.1, i1.2, h3, j, Nat.zero_le _, j1, j3, j2⟩
end Go.Proofs.YtloljfkfnpgjfaaGreat
/-
  Plain law: the yards part the pasture.
-/
namespace Go.Proofs.YtloljfkfnpgjfaaGreat
open G
set_option linter.unusedVariables false
set_option linter.unusedSimpArgs false
theorem rowF_nodup (q : Nat → Bool) (y : Nat) : ∀ n x : Nat, (rowF q y x n).Nodup
  | 0, x => by simp [rowF]
  | n + 1, x => by
    have ih := rowF_nodup q y n (x + 1)
    rw [rowF]
    split
    · refine List.nodup_cons.2 ⟨fun h => ?_, ih⟩
      obtain ⟨j, h1, _, _, e⟩ := rowF_mem.1 h
      have := (Spot.mk.inj e).1
      omega
    · exact ih
theorem gridF_nodup (q : Nat → Nat → Bool) (W : Nat) : ∀ n y : Nat, (gridF q W y n).Nodup
  | 0, y => by simp [gridF]
  | n + 1, y => by
    rw [gridF]
    refine List.nodup_append.2 ⟨rowF_nodup _ _ _ _, gridF_nodup q W n (y + 1), fun a ha b hb e => ?_⟩
    obtain ⟨j, _, _, _, rfl⟩ := rowF_mem.1 ha
    obtain ⟨i, j', h1, _, _, _, rfl⟩ := gridF_mem.1 hb
    have := (Spot.mk.inj e).2
    omega
end Go.Proofs.YtloljfkfnpgjfaaGreat
/-
  Plain law: gates needed; the best gate.
-/
namespace Go.Proofs.YtloljfkfnpgjfaaGreat
open G
set_option linter.unusedVariables false
set_option linter.unusedSimpArgs false
variable {W H : Nat} {p q : Pasture} {Gr : Nat → Nat → Int} {E S E' S' : Nat → Nat → Bool} {y x b a d c y' x' : Nat} {s : Bool} {ax ay bx by_ : Nat}
theorem nodup_sub : ∀ (l l' : List Spot), l.Nodup → (∀ s ∈ l, s ∈ l') → l.length ≤ l'.length
  | [], _, _, _ => by simp
  | s :: l, l', h, hs => by
    rw [List.nodup_cons] at h
    have h1 := nodup_sub l (l'.erase s) h.2 fun t ht => (List.mem_erase_of_ne (fun e => h.1 (by rw [← e]; exact ht))).2 (hs t (List.mem_cons_of_mem _ ht))
    have hm := hs s (List.mem_cons_self ..)
    rw [List.length_erase_of_mem hm] at h1
    have := List.length_pos_of_mem hm
    rw [List.length_cons]; omega
theorem Lv.start (hx : ax < W) (hy : ay < H) : ∀ k, Lv W H E S ay ax k ay ax
  | 0 => Rt.refl
  | k + 1 => (Lv.start hx hy k).up hx hy
/-- The next level has more cells, unless all is reached. -/
theorem grow (hW : 1 ≤ W ∧ W ≤ 10) (hH : 1 ≤ H ∧ H ≤ 10) (hw : p.Wide = (W : Int)) (hh : p.High = (H : Int)) (ha : ax < W ∧ ay < H) (hb : bx < W ∧ by_ < H) {k : Nat} {Y Y' : List Spot} (hY : atLv W H p (Lv W H E S ay ax k) Y) (hY' : atLv W H p (Lv W H E S ay ax (k + 1)) Y') (hn : ¬ Lv W H E S ay ax k by_ bx) : Y.length < Y'.length := by
  have hex : ∃ d c d' c', c < W ∧ d < H ∧ Lv W H E S ay ax k d c ∧ adj W H d c d' c' ∧ ¬ Lv W H E S ay ax k d' c' := Classical.byContradiction fun hno => hn (conn hW.1 hH.1 ay ax by_ bx ha.1 ha.2 hb.1 hb.2 (fun b a => Lv W H E S ay ax k b a) (fun y1 x1 y2 x2 h1 h2 h3 s => Classical.byContradiction fun h4 => hno ⟨y1, x1, y2, x2, h1, h2, h3, s, h4⟩) (Lv.start ha.1 ha.2 k))
  obtain ⟨d, c, d', c', hc, hd, h1, h2, h3⟩ := hex
  have hi := h2.in_ hc hd
  have hin : sp c' d' ∈ Y' := (hY'.2 d' c' hi.2 hi.1).2 (h1.nbr ha.1 ha.2 h2)
  have hout : sp c' d' ∉ Y := fun z => h3 ((hY.2 d' c' hi.2 hi.1).1 z)
  have hnd : Y.Nodup := by
    obtain ⟨q, rfl⟩ := hY.1
    exact gridF_nodup _ _ _ _
  have := nodup_sub (sp c' d' :: Y) Y' (List.nodup_cons.2 ⟨hout, hnd⟩) (fun s hs => by
    rcases List.mem_cons.1 hs with rfl | hs
    · exact hin
    · obtain ⟨x, y, hx, hy, rfl⟩ := isYard_mem hY.1 hs
      exact (hY'.2 y x (by omega) (by omega)).2 (((hY.2 y x (by omega) (by omega)).1 hs).up ha.1 ha.2))
  rw [List.length_cons] at this
  omega
theorem gates_loop (h : PD W H Gr E S p) (hG : ∀ y x, x < W → y < H → 0 ≤ Gr y x ∧ Gr y x ≤ 1000) (hW : 1 ≤ W ∧ W ≤ 10) (hH : 1 ≤ H ∧ H ≤ 10) (ha : ax < W ∧ ay < H) (hb : bx < W ∧ by_ < H) : ∀ (d k : Nat) (Y : List Spot) (inn : Tbb), atLv W H p (Lv W H E S ay ax k) Y → (∀ b a, b < H → a < W → (b2 inn b a = true ↔ Lv W H E S ay ax k b a)) → (∀ j, j < k → ¬ Lv W H E S ay ax j by_ bx) → 101 ≤ Y.length + d → k + 1 ≤ Y.length →
    ∃ K, K ≤ 100 ∧ Lv W H E S ay ax K by_ bx ∧ (∀ j, j < K → ¬ Lv W H E S ay ax j by_ bx) ∧ Ev (fun f => impl_GatesNeeded.l1 p (sp bx by_) f Y (k : Int)) (.inl ((K : Int), 0)) ∧ Ev (fun f => spec_GatesNeeded.l1 p (sp bx by_) f inn (k : Int)) (K : Int) := by
  have v := h.V hW.2 hH.2 hG
  have hw := vP_okW (h.ok hW hH hG)
  intro d
  induction d with
  | zero =>
    intro k Y inn hY hi hn hd hk
    have hl := isYard_len hw hY.1
    omega
  | succ d ih =>
    intro k Y inn hY hi hn hd hk
    have hl := isYard_len hw hY.1
    have g1 := getBR inn (show by_ < 10 by omega)
    have g2' : getI (bR inn by_).l (bx : Int) = some (b2 inn by_ bx) := getBA _ (show bx < 10 by omega)
    have hc := contS_ev Y (sp bx by_) (by omega)
    by_cases c : Lv W H E S ay ax k by_ bx
    · rw [decide_eq_true ((hY.2 by_ bx hb.2 hb.1).2 c)] at hc
      rw [(hi by_ bx hb.2 hb.1).2 c] at g2'
      exact ⟨k, by omega, c, hn, Ev.step (fun k => impl_GatesNeeded.l1.eq_2 _ _ _ _ _) (Ev.bind (a := (Sum.inl (Sum.inl ((k : Int), 0)) : ((Int × Int) ⊕ Unit) ⊕ List Spot)) (hc.bind (Ev.pos rfl (Ev.const rfl))) (Ev.const rfl)), Ev.step (fun k => spec_GatesNeeded.l1.eq_2 _ _ _ _ _) (Ev.bind (Ev.const g1) (Ev.bind (Ev.const g2') (Ev.neg (by simp) (Ev.const rfl))))⟩
    · rw [decide_eq_false fun z => c ((hY.2 by_ bx hb.2 hb.1).1 z)] at hc
      have hbf : b2 inn by_ bx = false := by
        cases z : b2 inn by_ bx
        · rfl
        · exact absurd ((hi by_ bx hb.2 hb.1).1 z) c
      rw [hbf] at g2'
      obtain ⟨L, B, m, Y', r1, r2, r3, r4, r5, hY'⟩ := round_ev h hG hW hH ha.1 ha.2 hY
      obtain ⟨mm, inn', s1, s2, hi'⟩ := roundS_ev h hG hW hH ha.1 ha.2 hi
      have hgr := grow hW hH h.w h.h ha hb hY hY' c
      have e : IntKind.i64.wrap ((k : Int) + 1) = ((k + 1 : Nat) : Int) := by rw [w64 (by omega) (by omega)]; omega
      obtain ⟨K, k1, k2, k3, k4, k5⟩ := ih (k + 1) Y' inn' hY' hi' (fun j hj hl => by
        by_cases z : j = k
        · subst z; exact c hl
        · exact hn j (by omega) hl) (by omega) (by omega)
      rw [← e] at k4 k5
      exact ⟨K, k1, k2, k3, Ev.step (fun k => impl_GatesNeeded.l1.eq_2 _ _ _ _ _) (Ev.bind (a := (Sum.inr Y' : ((Int × Int) ⊕ Unit) ⊕ List Spot)) (hc.bind (Ev.neg (by simp) (Ev.bind (Ev.const r1) (r2.bind (r3.bind (r4.bind (r5.bind (Ev.const rfl)))))))) k4), Ev.step (fun k => spec_GatesNeeded.l1.eq_2 _ _ _ _ _) (Ev.bind (Ev.const g1) (Ev.bind (Ev.const g2') (Ev.pos rfl (s1.bind (s2.bind k5)))))⟩
theorem gates_ev (h : PD W H Gr E S p) (hG : ∀ y x, x < W → y < H → 0 ≤ Gr y x ∧ Gr y x ≤ 1000) (hW : 1 ≤ W ∧ W ≤ 10) (hH : 1 ≤ H ∧ H ≤ 10) (ha : ax < W ∧ ay < H) (hb : bx < W ∧ by_ < H) : ∃ K : Nat, K ≤ 100 ∧ Lv W H E S ay ax K by_ bx ∧ (∀ j, j < K → ¬ Lv W H E S ay ax j by_ bx) ∧ Ev (fun f => impl_GatesNeeded.f f p (sp ax ay) (sp bx by_)) ((K : Int), 0) ∧ Ev (fun f => spec_GatesNeeded.f f p (sp ax ay) (sp bx by_)) ((K : Int), 0) := by
  have v := h.V hW.2 hH.2 hG
  have hw := vP_okW (h.ok hW hH hG)
  obtain ⟨_, _, _, _, _, _, _, _, _, _, _, _, hAsk, hIs, code⟩ := steps_ev h hG hW hH ha hb
  obtain ⟨Y, y1, y2, y3, y4⟩ := yard_rt h hG hW hH ha.1 ha.2
  have hl := isYard_len hw y1
  have hY : atLv W H p (Lv W H E S ay ax 0) Y := ⟨y1, y2⟩
  obtain ⟨m, m1, m2⟩ := mask_ev (L := Y) (by omega) (isYard_cellIn hw y1)
  have hpos : 0 < Y.length := List.length_pos_iff_exists_mem.2 ⟨sp ax ay, (y2 ay ax ha.2 ha.1).2 Rt.refl⟩
  obtain ⟨K, k1, k2, k3, k4, k5⟩ := gates_loop h hG hW hH ha hb 101 0 Y m hY (fun b a hb ha => (m2 b a (by omega) (by omega)).trans (y2 b a hb ha)) (fun j hj => by omega) (by omega) (by omega)
  exact ⟨K, k1, k2, k3, code.bind (Ev.neg (by simp) (y4.bind (k4.bind (Ev.const rfl)))), Ev.bind (Ev.const hIs) (hAsk.bind (Ev.neg (by simp) (y3.bind (m1.bind (k5.bind (Ev.const rfl))))))⟩
/-- What the best gate comes to. -/
theorem best_ev (h : PD W H Gr E S p) (hG : ∀ y x, x < W → y < H → 0 ≤ Gr y x ∧ Gr y x ≤ 1000) (hW : 1 ≤ W ∧ W ≤ 10) (hH : 1 ≤ H ∧ H ≤ 10) (ha : ax < W ∧ ay < H) (hb : bx < W ∧ by_ < H) : ∃ (D : Hurdle → Int) (g : Hurdle) (w code : Int), (∀ g ∈ stL p, HD W H E S p ax ay bx by_ g (D g)) ∧ Ev (fun k => impl_BestGate.f k p (sp ax ay) (sp bx by_)) (g, w, code) ∧ Ev (fun k => spec_BestGate.f k p (sp ax ay) (sp bx by_)) (g, w, code) ∧
    ((code = 4 ∧ Rt W H E S ay ax by_ bx) ∨ (code = 6 ∧ ¬ Rt W H E S ay ax by_ bx ∧ ∀ g ∈ stL p, D g < 0) ∨ (code = 0 ∧ ¬ Rt W H E S ay ax by_ bx ∧ g ∈ stL p ∧ 0 ≤ D g ∧ w = D g ∧ ∀ g' ∈ stL p, 0 ≤ D g' → D g ≤ D g')) := by
  have v := h.V hW.2 hH.2 hG
  have hp := h.ok hW hH hG
  have hw := vP_okW hp
  obtain ⟨m, n, u, u0, u1, e1, e2, e3, e4, e5, e6, e7, hAsk, hIs, code⟩ := steps_ev h hG hW hH ha hb
  obtain ⟨D, hD⟩ := hd_ev h hG hW hH ha hb
  have hD' : ∀ g ∈ stL p, HD W H E S p ax ay bx by_ g (D g) := fun g hg => by
    obtain ⟨x, y, s, e, hbt⟩ := h.stL_btw hW.2 hH.2 g hg
    exact hD g x y s e hbt
  have gn1 := getR n (show by_ < 10 by omega)
  have gn2 : getI (gR n by_).l (bx : Int) = some (g2 n by_ bx) := getA _ (show bx < 10 by omega)
  by_cases c : u < 0
  · rw [if_pos c] at e5
    have hne : ¬ Rt W H E S ay ax by_ bx := fun z => by have := e7.2 z; omega
    have hl := (stL_len hw).1
    obtain ⟨g, w, w0, w1, l1, l2, l3, l4⟩ := best_loop (ax := ax) (ay := ay) (show bx < 10 by omega) (show by_ < 10 by omega) (D := D) (l := stL p) (by omega) hD' 0 (Nat.zero_le _) (⟨(⟨0, 0⟩ : Spot), false⟩ : Hurdle) (-1) (by omega) (by omega)
    rw [List.drop_zero] at l3 l4
    have hI : ∀ r, Ev (fun k => if w < 0 then some ((⟨(⟨0, 0⟩ : Spot), false⟩ : Hurdle), (0 : Int), (6 : Int)) else some (g, w, 0)) r → Ev (fun k => impl_BestGate.f k p (sp ax ay) (sp bx by_)) r := fun r hr => e5.bind (Ev.neg (by simp) (Ev.pos rfl ((hurdles_ev v hw).bind (l1.bind hr))))
    have hS : ∀ r, Ev (fun k => if w + 1 = 0 then some ((⟨(⟨0, 0⟩ : Spot), false⟩ : Hurdle), (0 : Int), (6 : Int)) else some (g, IntKind.i64.wrap (w + 1 - 1), 0)) r → Ev (fun k => spec_BestGate.f k p (sp ax ay) (sp bx by_)) r := fun r hr => Ev.bind (Ev.const hIs) (hAsk.bind (Ev.neg (by simp) (e3.bind (Ev.bind (Ev.const gn1) (Ev.bind (Ev.const gn2) (Ev.neg (by omega) ((standing_ev v hw).bind (l2.bind hr))))))))
    by_cases c2 : w < 0
    · exact ⟨D, _, _, _, hD', hI _ (Ev.pos c2 (Ev.const rfl)), hS _ (Ev.pos (by omega) (Ev.const rfl)), .inr (.inl ⟨rfl, hne, (l3 c2).2⟩)⟩
    · obtain ⟨k1, _, k3⟩ := l4 (by omega)
      rcases k1 with ⟨_, k1⟩ | ⟨k1, k2⟩
      · omega
      · refine ⟨D, g, w, 0, hD', hI _ (Ev.neg c2 (Ev.const rfl)), hS _ (Ev.neg (by omega) (Ev.const ?_)), .inr (.inr ⟨rfl, hne, k1, by omega, k2.symm, fun g' h1 h2 => by rw [k2]; exact k3 g' h1 h2⟩)⟩
        rw [show w + 1 - 1 = w by omega, w64 (by omega) (by omega)]
  · rw [if_neg c] at e5
    exact ⟨D, _, _, _, hD', e5.bind (Ev.pos rfl (Ev.const rfl)), Ev.bind (Ev.const hIs) (hAsk.bind (Ev.neg (by simp) (e3.bind (Ev.bind (Ev.const gn1) (Ev.bind (Ev.const gn2) (Ev.pos (by omega) (Ev.const rfl))))))), .inl ⟨rfl, e7.1 (by omega)⟩⟩
theorem lawFar_loop {D : Hurdle → Int} {g : Hurdle} (hl : (stL p).length ≤ 1000) (hD : ∀ g ∈ stL p, HD W H E S p ax ay bx by_ g (D g)) (hm : ∀ g' ∈ stL p, 0 ≤ D g' → D g ≤ D g') : ∀ i, i ≤ (stL p).length → Ev (fun k => laws_FnGates.l2 p (stL p, 0) (sp ax ay) (sp bx by_) (g, D g, 0) k (i : Int)) (.inr ()) := by
  refine upL ?_ ?_
  · exact Ev.step (fun k => laws_FnGates.l2.eq_2 _ _ _ _ _ _ _) (Ev.neg (Int.lt_irrefl _) (Ev.const rfl))
  · intro i hi ih
    rw [← wsucc hi (by omega)] at ih
    have hmem := List.getElem_mem hi
    obtain ⟨s1, s2⟩ := slice1 hi hl
    obtain ⟨q, m, n, _, t2, _, _, _, _, _, _, _, sB⟩ := (hD _ hmem).ev
    have t2' : Ev (fun k => spec_TakeHurdles.f k p (((stL p).drop (i : Int).toNat).take ((IntKind.i64.wrap ((i : Int) + 1)).toNat - (i : Int).toNat))) (q, 0) := by rw [s2]; exact t2
    refine Ev.step (fun k => laws_FnGates.l2.eq_2 _ _ _ _ _ _ _) (Ev.pos (Int.ofNat_lt.2 hi) (Ev.bind (Ev.const s1) (t2'.bind ?_)))
    by_cases c : D (stL p)[i] < 0
    · rw [if_pos c] at sB
      exact sB.bind (Ev.neg (by simp) (Ev.neg (by simp) ih))
    · rw [if_neg c] at sB
      have := hm _ hmem (by omega)
      exact sB.bind (Ev.neg (by simp) (Ev.pos rfl (Ev.neg (by show ¬ D (stL p)[i] < D g; omega) ih)))
end Go.Proofs.YtloljfkfnpgjfaaGreat
/-
  Plain law of FnGates: it answers yes.
-/
namespace Go.Proofs.YtloljfkfnpgjfaaGreat
open G
set_option linter.unusedVariables false
set_option linter.unusedSimpArgs false
variable {W H : Nat} {p q : Pasture} {Gr : Nat → Nat → Int} {E S E' S' : Nat → Nat → Bool} {ax ay bx by_ : Nat}
theorem spot_ev {c : List Int} (hc : byteL c) (hw : p.Wide = (W : Int)) (hh : p.High = (H : Int)) (hW : 1 ≤ W ∧ W ≤ 10) (hH : 1 ≤ H ∧ H ≤ 10) : ∃ x y : Nat, x < W ∧ y < H ∧ spec_P6Spot.f c p = some (sp x y) := by
  obtain ⟨x, a1, s1, e1, x0, x1, q1, q1'⟩ := pick_ok hc (at_ := 0) (seed := 0) (by omega) (by omega) (W : Int)
  obtain ⟨y, a2, s2, e2, y0, y1, q2, q2'⟩ := pick_ok hc (at_ := a1) (seed := s1) (by omega) (by omega) (H : Int)
  obtain ⟨X, rfl⟩ := Int.eq_ofNat_of_zero_le x0
  obtain ⟨Y, rfl⟩ := Int.eq_ofNat_of_zero_le y0
  refine ⟨X, Y, by omega, by omega, ?_⟩
  unfold spec_P6Spot.f spec_l00From.f
  simp only [Option.bind_some]
  rw [hw, hh, w64 (x := (W : Int)) (by omega) (by omega), w64 (x := (H : Int)) (by omega) (by omega), e1, Option.bind_some, e2, Option.bind_some, w8 (x := (X : Int)) (by omega) (by omega), w8 (x := (Y : Int)) (by omega) (by omega)]
  rfl
/-- Gates, both ways, and the best gate. -/
theorem gates_told {D : Hurdle → Int} {g : Hurdle} {w code : Int} (h : PD W H Gr E S p) (hG : ∀ y x, x < W → y < H → 0 ≤ Gr y x ∧ Gr y x ≤ 1000) (hW : 1 ≤ W ∧ W ≤ 10) (hH : 1 ≤ H ∧ H ≤ 10) (ha : ax < W ∧ ay < H) (hb : bx < W ∧ by_ < H) {K K' : Nat} (k2 : Lv W H E S ay ax K by_ bx) (k3 : ∀ j, j < K → ¬ Lv W H E S ay ax j by_ bx) (k2' : Lv W H E S by_ bx K' ay ax) (k3' : ∀ j, j < K' → ¬ Lv W H E S by_ bx j ay ax)
    (hD : ∀ g ∈ stL p, HD W H E S p ax ay bx by_ g (D g)) (hc : (code = 4 ∧ Rt W H E S ay ax by_ bx) ∨ (code = 6 ∧ ¬ Rt W H E S ay ax by_ bx ∧ ∀ g ∈ stL p, D g < 0) ∨ (code = 0 ∧ ¬ Rt W H E S ay ax by_ bx ∧ g ∈ stL p ∧ 0 ≤ D g ∧ w = D g ∧ ∀ g' ∈ stL p, 0 ≤ D g' → D g ≤ D g')) :
    K' = K ∧ (code = 4 ↔ (K : Int) = 0) ∧ (code = 0 ↔ (K : Int) = 1) := by
  have e : K' = K := by
    have h1 : ¬ K' < K := fun z => k3 K' z (k2'.symm hb.1 hb.2)
    have h2 : ¬ K < K' := fun z => k3' K z (k2.symm ha.1 ha.2)
    omega
  have hz : Rt W H E S ay ax by_ bx ↔ K = 0 := by
    constructor
    · intro hr
      by_cases z : K = 0
      · exact z
      · exact absurd hr (k3 0 (by omega))
    · intro z
      subst z
      exact k2
  have hone : ¬ Rt W H E S ay ax by_ bx → ((∃ g ∈ stL p, 0 ≤ D g) ↔ K = 1) := fun hne => by
    have hk0 : K ≠ 0 := fun z => hne (hz.2 z)
    have o := one_gate ha hb hne
    constructor
    · rintro ⟨g, hg, h0⟩
      obtain ⟨x, y, s, rfl, hbt, hs⟩ := (h.stL_mem hW.2 hH.2 g).1 hg
      have hr := ((hD _ hg).iff x y s rfl).1 h0
      have h1 := o.2 ⟨x, y, s, hbt, hs, hr⟩
      by_cases z : 1 < K
      · exact absurd h1 (k3 1 z)
      · omega
    · intro z
      subst z
      obtain ⟨x, y, s, hbt, hs, hr⟩ := o.1 k2
      have hg := (h.stL_mem hW.2 hH.2 (hu x y s)).2 ⟨x, y, s, rfl, hbt, hs⟩
      exact ⟨_, hg, ((hD _ hg).iff x y s rfl).2 hr⟩
  refine ⟨e, ?_, ?_⟩
  · rcases hc with ⟨c, hr⟩ | ⟨c, hr, _⟩ | ⟨c, hr, _⟩
    · have := hz.1 hr; omega
    · have : ¬ K = 0 := fun z => hr (hz.2 z)
      omega
    · have : ¬ K = 0 := fun z => hr (hz.2 z)
      omega
  · rcases hc with ⟨c, hr⟩ | ⟨c, hr, hall⟩ | ⟨c, hr, hg, h0, _⟩
    · have := hz.1 hr; omega
    · have : ¬ K = 1 := fun z => by
        obtain ⟨g, hg, h0⟩ := (hone hr).2 z
        have := hall g hg
        omega
      omega
    · have := (hone hr).1 ⟨g, hg, h0⟩
      omega
theorem FnGates.pure (x0 : List Int) (hv0 : ∀ x ∈ x0, (inI .u8) x) (hb0 : x0.length * 1 ≤ 140737488351232) (x1 : List Int) (hv1 : ∀ x ∈ x1, (inI .u8) x) (hb1 : x1.length * 1 ≤ 140737488351232) : ∃ k, laws_FnGates.f k x0 x1 = some true := by
  refine Ev.get (r := true) ?_
  have b0 : laws_f6big.f x0 = some (decide (4096 < (x0.length : Int))) := rfl
  have b1 : laws_f6big.f x1 = some (decide (4096 < (x1.length : Int))) := rfl
  by_cases h0 : 4096 < (x0.length : Int)
  · exact Ev.bind (a := true) (Ev.bind (Ev.const b0) (Ev.pos (decide_eq_true h0) (Ev.const rfl))) (Ev.pos rfl (Ev.const rfl))
  by_cases h1 : 4096 < (x1.length : Int)
  · exact Ev.bind (a := true) (Ev.bind (Ev.const b0) (Ev.neg (by simpa using h0) (Ev.bind (Ev.const b1) (Ev.const (by rw [decide_eq_true h1]))))) (Ev.pos rfl (Ev.const rfl))
  refine Ev.bind (a := false) (Ev.bind (Ev.const b0) (Ev.neg (by simpa using h0) (Ev.bind (Ev.const b1) (Ev.const (by rw [decide_eq_false h1]))))) (Ev.neg (by simp) ?_)
  obtain ⟨W, H, p, hW5, hH5, dr, ep⟩ := pasture_ev (byteL_of hv0)
  have hW : 1 ≤ W ∧ W ≤ 10 := by omega
  have hH : 1 ≤ H ∧ H ≤ 10 := by omega
  have hc1 := byteL_of hv1
  obtain ⟨ax, ay, hax, hay, ea⟩ := spot_ev hc1 dr.w dr.h hW hH
  have hc2 : byteL (([3] : List Int) ++ x1) := fun z hz => by
    rcases List.mem_append.1 hz with h | h
    · rw [List.mem_singleton.1 h]; omega
    · exact hc1 z h
  obtain ⟨bx, by_, hbx, hby, eb⟩ := spot_ev hc2 dr.w dr.h hW hH
  have v := dr.V hW.2 hH.2
  have hp := dr.ok hW hH
  have hw := vP_okW hp
  have eW : p.Wide.toNat = W := by rw [dr.w]; omega
  have eH : p.High.toNat = H := by rw [dr.h]; omega
  have h := PD.of v hp
  rw [eW, eH] at h
  have hg11 : ∀ y x, x < W → y < H → 0 ≤ gG p y x ∧ gG p y x ≤ 11 := fun y x hx hy => by
    have := dr.g y x (by omega) (by omega)
    omega
  generalize hGr : gG p = Gr at h hg11
  generalize (fun y x => btB (gA p.East y) x) = E at h
  generalize (fun y x => btB (gA p.South y) x) = S at h
  have hG : ∀ y x, x < W → y < H → 0 ≤ Gr y x ∧ Gr y x ≤ 1000 := fun y x hx hy => by have := hg11 y x hx hy; omega
  obtain ⟨due, q, tab, ys, ys', dl, jI, jS, t, tl, yS, en, tI, yS', e1⟩ := joins_ev h hG hW hH
  have sl := (stL_len hw).1
  have hI : Ev (fun k => impl_HurdlesOf.f k p) (stL p, 0) := by
    refine (implOk_ev v).bind ?_
    rw [hp]
    exact Ev.neg (by simp) ((hurdles_ev v hw).bind (Ev.const rfl))
  have hS : Ev (fun k => spec_HurdlesOf.f k p) (stL p, 0) := by
    refine (specOk_ev v).bind ?_
    rw [hp]
    exact Ev.neg (by simp) ((standing_ev v hw).bind (Ev.const rfl))
  have hC : Ev (fun k => impl_CountHurdles.f k p) (((stL p).length : Int), 0) := hI.bind (Ev.bind (a := ((stL p).length : Int)) (Ev.const rfl) (Ev.const rfl))
  obtain ⟨L, ll, wI, wS, hL⟩ := weak_ev h hG hW hH
  have wl := weakLaw_loop h hG hW hH t tl ll hL 0 (Nat.zero_le _)
  obtain ⟨D, g, w, code, hD, gI, gS, hc⟩ := best_ev h hG hW hH ⟨hax, hay⟩ ⟨hbx, hby⟩
  obtain ⟨K, kl, k2, k3, kI, kS⟩ := gates_ev h hG hW hH ⟨hax, hay⟩ ⟨hbx, hby⟩
  obtain ⟨K', _, k2', k3', kI', _⟩ := gates_ev h hG hW hH ⟨hbx, hby⟩ ⟨hax, hay⟩
  obtain ⟨eK, e4, e0⟩ := gates_told h hG hW hH ⟨hax, hay⟩ ⟨hbx, hby⟩ k2 k3 k2' k3' hD hc
  rw [eK] at kI'
  obtain ⟨l, n1, n2, n3, _⟩ := Lv.few t hax hay K by_ bx k2 k3
  have n4 := nodup_le ys.length l n1 n3
  have sf1 := sameFence_ev (L := due) (by omega)
  have sf2 := sameFence_ev (L := stL p) (by omega)
  have sf3 := sameFence_ev (L := L) (by omega)
  have wy : IntKind.i64.wrap ((ys.length : Int) - 1) = (due.length : Int) := by rw [w64 (by omega) (by omega)]; omega
  have hx1 : chk (([3] : List Int).length + x1.length ≤ 4294967296) = some () := chk_t (by simp; omega)
  have d4 : decide (code = 4) = decide ((K : Int) = 0) := decide_eq_decide.2 e4
  have d0 : decide (code = 0) = decide ((K : Int) = 1) := decide_eq_decide.2 e0
  refine ep.bind (yS.bind (jI.bind (jS.bind (tI.bind (yS'.bind (hI.bind (hS.bind (hC.bind (Ev.bind (a := false) ?_ (Ev.neg (by simp) (wI.bind (wS.bind (Ev.bind (a := false) ?_ (Ev.neg (by simp) (wl.bind (Ev.bind (Ev.const ea) (Ev.bind (Ev.const hx1) (Ev.bind (Ev.const eb) (gI.bind (gS.bind (kI.bind (kS.bind (kI'.bind (Ev.bind (a := false) ?_ (Ev.neg (by simp) ?_)))))))))))))))))))))))))
  · refine Ev.neg (by simp) (Ev.neg (by simp) (Ev.neg (by simp) (sf1.bind (Ev.neg (by simp) (Ev.neg ?_ (Ev.neg (by simp) (Ev.neg (by simp) (Ev.neg ?_ (Ev.neg (by simp) (Ev.neg (by simp) (sf2.bind (Ev.neg (by simp) (Ev.neg (by simp) (Ev.const (by simp)))))))))))))))
    · rw [wy]; simp
    · show ¬ (ys'.length : Int) ≠ 1
      rw [e1]; simp
  · exact Ev.neg (by simp) (Ev.neg (by simp) (sf3.bind (Ev.const rfl)))
  · refine Ev.neg (by simp) (Ev.neg (by simp) (Ev.neg (by simp) (Ev.neg (by simp) (Ev.neg (by simp) (Ev.neg (by simp) (Ev.neg (by simp) (Ev.neg (by simp) (Ev.neg ?_ (Ev.neg ?_ (Ev.const ?_))))))))))
    · show ¬ decide (code = 4) ≠ decide ((K : Int) = 0)
      rw [d4]; simp
    · show ¬ decide (code = 0) ≠ decide ((K : Int) = 1)
      rw [d0]; simp
    · show some (decide ((due.length : Int) < (K : Int))) = some false
      rw [decide_eq_false (by omega)]
  · rcases hc with ⟨rfl, hr⟩ | ⟨rfl, hr, hall⟩ | ⟨rfl, hr, hg, g0, rfl, hm⟩
    · exact Ev.pos (by simp) (Ev.bind (Ev.pos rfl (Ev.const rfl)) (Ev.const rfl))
    · exact Ev.pos (by simp) (Ev.bind (a := true) (Ev.neg (by simp) (Ev.const (by simp))) (Ev.const rfl))
    · obtain ⟨q2, m, n, tt, _, _, _, _, _, _, _, sA, _⟩ := (hD g hg).ev
      rw [if_neg (by omega)] at sA
      have lf := lawFar_loop (p := p) (g := g) (by omega) hD hm 0 (Nat.zero_le _)
      exact Ev.neg (by simp) (tt.bind (sA.bind (Ev.bind (a := false) (Ev.neg (by simp) (Ev.neg (by simp) (Ev.const (by simp)))) (Ev.neg (by simp) (lf.bind (Ev.const rfl))))))
end Go.Proofs.YtloljfkfnpgjfaaGreat
