import Derived.Test.YtokanemjghfadaaGreatDoorT3
import Derived.Test.YtokanemjghfadaaGreatDoorQB
import Derived.Test.YtokanemjghfadaaGreatDoorSD
import Derived.Test.YtokanemjghfadaaGreatDoorQV1
/-
  Plain law: goats are drawn; their text is read back.
-/
namespace Go.Proofs.YtokanemjghfadaaGreatDoor
open G
set_option linter.unusedVariables false
set_option linter.unusedSimpArgs false
variable {W H : Nat} {p q : Pasture} {Gr : Nat → Nat → Int} {E S : Nat → Nat → Bool} {y x b a sx sy ax ay : Nat} {r : Int} {rb : Nat → Nat → Nat → Nat → Bool} {g : Goat} {l : List Goat}
/-! ### Drawn -/
theorem pasture_ev {c : List Int} (hc : byteL c) : ∃ (W H : Nat) (p : Pasture), (1 ≤ W ∧ W ≤ 5) ∧ (1 ≤ H ∧ H ≤ 5) ∧ Dr W H p ∧ Ev (fun k => spec_A2Pasture.f k c) p := by
 obtain ⟨w, a1, s1, e1, w0, w1, q1, q1'⟩ := pick_ok hc (at_ := 0) (seed := 0) (by omega) (by omega) 5
 obtain ⟨h, a2, s2, e2, h0, h1, q2, q2'⟩ := pick_ok hc (at_ := a1) (seed := s1) (by omega) (by omega) 5
 obtain ⟨m, a3, s3, e3, m0, m1, q3, q3'⟩ := pick_ok hc (at_ := a2) (seed := s2) (by omega) (by omega) 5
 have ww : IntKind.i8.wrap (IntKind.i64.wrap (1 + w)) = (((1 + w).toNat : Nat) : Int) := by rw [w64 (by omega) (by omega), w8 (by omega) (by omega)]; omega
 have wh : IntKind.i8.wrap (IntKind.i64.wrap (1 + h)) = (((1 + h).toNat : Nat) : Int) := by rw [w64 (by omega) (by omega), w8 (by omega) (by omega)]; omega
 have h0' : Dr (1 + w).toNat (1 + h).toNat (⟨(((1 + w).toNat : Nat) : Int), (((1 + h).toNat : Nat) : Int), (Arr.mk' (Arr.mk' 0 : Arr 10 Int) : Arr 10 (Arr 10 Int)), (Arr.mk' 0 : Arr 10 Int), (Arr.mk' 0 : Arr 10 Int)⟩ : Pasture) := by
   refine ⟨rfl, rfl, fun y x hy hx => ?_, ⟨fun y hy => ?_, fun y hy => ?_⟩⟩
   · have : gG (⟨(((1 + w).toNat : Nat) : Int), (((1 + h).toNat : Nat) : Int), (Arr.mk' (Arr.mk' 0 : Arr 10 Int) : Arr 10 (Arr 10 Int)), (Arr.mk' 0 : Arr 10 Int), (Arr.mk' 0 : Arr 10 Int)⟩ : Pasture) y x = 0 := gG_zero hy hx
     rw [this]; omega
   · show (0 ≤ gA (Arr.mk' 0 : Arr 10 Int) y ∧ _) ∧ _
     rw [gA_zero hy]
     exact ⟨by omega, fun j _ hb => by rw [bt_zero] at hb; cases hb⟩
   · show (0 ≤ gA (Arr.mk' 0 : Arr 10 Int) y ∧ _) ∧ _
     rw [gA_zero hy]
     exact ⟨by omega, fun j _ hb => by rw [bt_zero] at hb; cases hb⟩
 obtain ⟨p, a4, s4, d1, d2⟩ := drawn1_loop hc (m, ⟨c, a3, s3⟩) (W := (1 + w).toNat) (H := (1 + h).toNat) (by omega) (by omega) 0 (Nat.zero_le _) _ a3 s3 h0' (by omega) (by omega)
 refine ⟨(1 + w).toNat, (1 + h).toNat, p, by omega, by omega, d2, ?_⟩
 unfold spec_A2Pasture.f spec_l00From.f
 simp only [Option.bind_some]
 refine Ev.bind (a := (p, ⟨c, a4, s4⟩)) ?_ (Ev.const rfl)
 unfold spec_l01Drawn.f
 refine Ev.bind (Ev.const e1) (Ev.bind (Ev.const e2) (Ev.bind (Ev.const e3) ?_))
 simp only [ww, wh]
 exact d1.bind (Ev.const rfl)
theorem among_ok {c : List Int} (hc : byteL c) {at_ seed : Int} (h0 : 0 ≤ at_) (h1 : at_ ≤ 1000000000000) (l : List Int) (hl : 1 ≤ l.length) (hl2 : l.length ≤ 200) :
 ∃ v at' seed', spec_l00Src_among.f ⟨c, at_, seed⟩ l = some (v, ⟨c, at', seed'⟩) ∧ v ∈ l ∧ at_ ≤ at' ∧ at' ≤ at_ + 2 := by
 obtain ⟨i, a, s, e, i0, i1, q1, q2⟩ := pick_ok hc (seed := seed) h0 h1 (l.length : Int)
 have hi : i.toNat < l.length := by omega
 have hg : getI l i = some l[i.toNat] := by
   have := getI_nat hi
   rwa [show ((i.toNat : Nat) : Int) = i by omega] at this
 refine ⟨l[i.toNat], a, s, ?_, List.getElem_mem hi, q1, q2⟩
 unfold spec_l00Src_among.f
 rw [e, Option.bind_some, hg]
 rfl
theorem sq5 (h1 : sx < 5) (h2 : sy < 5) (hx : x < 5) (hy : y < 5) : 0 ≤ sqI sx sy x y ∧ sqI sx sy x y ≤ 32 := by
 have key : ∀ d : Int, -4 ≤ d → d ≤ 4 → 0 ≤ d * d ∧ d * d ≤ 16 := fun d h0 h1 => by
   have e : d * d = ((d.natAbs * d.natAbs : Nat) : Int) := by rw [Int.natAbs_mul_self]
   have : d.natAbs * d.natAbs ≤ 4 * 4 := Nat.mul_le_mul (by omega) (by omega)
   rw [e]; omega
 have a := key ((sx : Int) - x) (by omega) (by omega)
 have b := key ((sy : Int) - y) (by omega) (by omega)
 unfold sqI; omega
theorem goat_ok {c : List Int} (hc : byteL c) (hW : p.Wide = (W : Int)) (hH : p.High = (H : Int)) (hW' : 1 ≤ W ∧ W ≤ 5) (hH' : 1 ≤ H ∧ H ≤ 5) {at_ seed : Int} (h0 : 0 ≤ at_) (h1 : at_ ≤ 1000000) :
 ∃ g at' seed', spec_l02Drawn.f (⟨c, at_, seed⟩ : l00Src) p = some (g, ⟨c, at', seed'⟩) ∧ okT W H g ∧ at_ ≤ at' ∧ at' ≤ at_ + 20 := by
 obtain ⟨vx, a1, s1, e1, x0, x1, q1, q1'⟩ := pick_ok hc (seed := seed) h0 (by omega) (W : Int)
 obtain ⟨vy, a2, s2, e2, y0, y1, q2, q2'⟩ := pick_ok hc (at_ := a1) (seed := s1) (by omega) (by omega) (H : Int)
 obtain ⟨ve, a3, s3, e3, em, q3, q3'⟩ := among_ok hc (at_ := a2) (seed := s2) (by omega) (by omega) [0, 3, 5, 7, 12, 30, 100] (by simp) (by simp)
 obtain ⟨vl, a4, s4, e4, l0, l1, q4, q4'⟩ := pick_ok hc (at_ := a3) (seed := s3) (by omega) (by omega) 2
 obtain ⟨v5, a5, s5, e5, q5, q5'⟩ := one_ok hc (at_ := a4) (seed := s4) (by omega) (by omega) 2
 obtain ⟨X, rfl⟩ := Int.eq_ofNat_of_zero_le x0
 obtain ⟨Y, rfl⟩ := Int.eq_ofNat_of_zero_le y0
 have he : 0 ≤ ve ∧ ve ≤ 100 := by
   simp only [List.mem_cons, List.not_mem_nil, or_false] at em
   omega
 have eW : IntKind.i64.wrap p.Wide = (W : Int) := by rw [hW, w64 (by omega) (by omega)]
 have eH : IntKind.i64.wrap p.High = (H : Int) := by rw [hH, w64 (by omega) (by omega)]
 have wX : IntKind.i8.wrap (X : Int) = (X : Int) := w8 (by omega) (by omega)
 have wY : IntKind.i8.wrap (Y : Int) = (Y : Int) := w8 (by omega) (by omega)
 have we : IntKind.i16.wrap ve = ve := w16 (by omega) (by omega)
 have wl : IntKind.i8.wrap vl = vl := w8 (by omega) (by omega)
 unfold spec_l02Drawn.f
 rw [eW, eH]
 simp only [e1, e2, e3, e4, e5, Option.bind_some, wX, wY, we, wl]
 cases v5
 ·refine ⟨_, a5, s5, rfl, ⟨X, Y, 0, 0, by omega, by omega, by omega, by omega, rfl, rfl, ?_, ?_, ?_, ?_, ?_, ?_, fun _ => rfl, fun h => ?_⟩, by omega, by omega⟩
  ·show (-1 : Int) ≤ -1; omega
  ·show (-1 : Int) ≤ 200; omega
  ·exact he.1
  ·exact he.2
  ·exact l0
  ·show vl ≤ 1; omega
  exact absurd (show (0 : Int) ≤ -1 from h) (by omega)
 obtain ⟨vr, a6, s6, e6, rm, q6, q6'⟩ := among_ok hc (at_ := a5) (seed := s5) (by omega) (by omega) [0, 1, 2, 4, 9, 200] (by simp) (by simp)
 obtain ⟨v7, a7, s7, e7, q7, q7'⟩ := one_ok hc (at_ := a6) (seed := s6) (by omega) (by omega) 2
 have hr : 0 ≤ vr ∧ vr ≤ 200 := by
   simp only [List.mem_cons, List.not_mem_nil, or_false] at rm
   omega
 have wr : IntKind.i16.wrap vr = vr := w16 (by omega) (by omega)
 rw [if_pos rfl]
 simp only [e6, e7, Option.bind_some, wr]
 cases v7
 ·refine ⟨_, a7, s7, rfl, ⟨X, Y, X, Y, by omega, by omega, by omega, by omega, rfl, rfl, ?_, ?_, ?_, ?_, ?_, ?_, fun h => ?_, fun h => ?_⟩, by omega, by omega⟩
  ·show -1 ≤ vr; omega
  ·exact hr.2
  ·exact he.1
  ·exact he.2
  ·exact l0
  ·show vl ≤ 1; omega
  ·exact absurd (show vr = -1 from h) (by omega)
  rw [sq_self]; exact h
 obtain ⟨ux, a8, s8, e8, ux0, ux1, q8, q8'⟩ := pick_ok hc (at_ := a7) (seed := s7) (by omega) (by omega) (W : Int)
 obtain ⟨uy, a9, s9, e9, uy0, uy1, q9, q9'⟩ := pick_ok hc (at_ := a8) (seed := s8) (by omega) (by omega) (H : Int)
 obtain ⟨U, rfl⟩ := Int.eq_ofNat_of_zero_le ux0
 obtain ⟨V, rfl⟩ := Int.eq_ofNat_of_zero_le uy0
 have wU : IntKind.i8.wrap (U : Int) = (U : Int) := w8 (by omega) (by omega)
 have wV : IntKind.i8.wrap (V : Int) = (V : Int) := w8 (by omega) (by omega)
 have hs := sq5 (sx := U) (sy := V) (x := X) (y := Y) (by omega) (by omega) (by omega) (by omega)
 have eq : spec_l02Square.f (⟨(X : Int), (Y : Int)⟩ : Spot) (⟨(U : Int), (V : Int)⟩ : Spot) = some (sqI U V X Y) := sqSp (by omega) (by omega) (by omega) (by omega)
 rw [if_pos rfl]
 simp only [e8, e9, Option.bind_some, wU, wV, eq]
 have w6 : IntKind.i64.wrap vr = vr := w64 (by omega) (by omega)
 unfold spec_l00Max.f
 rw [w6]
 by_cases c : sqI U V X Y < vr
 ·rw [if_pos c, Option.bind_some, wr]
  refine ⟨_, a9, s9, rfl, ⟨X, Y, U, V, by omega, by omega, by omega, by omega, rfl, rfl, ?_, ?_, ?_, ?_, ?_, ?_, fun h => ?_, fun h => ?_⟩, by omega, by omega⟩
  ·show -1 ≤ vr; omega
  ·exact hr.2
  ·exact he.1
  ·exact he.2
  ·exact l0
  ·show vl ≤ 1; omega
  ·exact absurd (show vr = -1 from h) (by omega)
  show sqI U V X Y ≤ vr; omega
 have w7 : IntKind.i16.wrap (sqI U V X Y) = sqI U V X Y := w16 (by omega) (by omega)
 rw [if_neg c, Option.bind_some, w7]
 refine ⟨_, a9, s9, rfl, ⟨X, Y, U, V, by omega, by omega, by omega, by omega, rfl, rfl, ?_, ?_, ?_, ?_, ?_, ?_, fun h => ?_, fun h => ?_⟩, by omega, by omega⟩
 ·show -1 ≤ sqI U V X Y; omega
 ·show sqI U V X Y ≤ 200; omega
 ·exact he.1
 ·exact he.2
 ·exact l0
 ·show vl ≤ 1; omega
 ·exact absurd (show sqI U V X Y = -1 from h) (by omega)
 exact Int.le_refl _
theorem goats_ev {c : List Int} (hc : byteL c) (hW : p.Wide = (W : Int)) (hH : p.High = (H : Int)) (hW' : 1 ≤ W ∧ W ≤ 5) (hH' : 1 ≤ H ∧ H ≤ 5) : ∃ l : List Goat, Ev (fun k => spec_A2Goats.f k c p) l ∧ l.length ≤ 20 ∧ ∀ g ∈ l, okT W H g := by
 obtain ⟨g, a1, s1, e1, ok, q1, q1'⟩ := goat_ok hc hW hH hW' hH' (at_ := 0) (seed := 0) (by omega) (by omega)
 obtain ⟨n, a2, s2, e2, n0, n1, q2, q2'⟩ := pick_ok hc (at_ := a1) (seed := s1) (by omega) (by omega) 4
 obtain ⟨m, rfl⟩ := Int.eq_ofNat_of_zero_le n0
 have key : ∀ (n : Nat) (l : List Goat) (at_ seed : Int), n + l.length ≤ 20 → 0 ≤ at_ → at_ + 20 * (n : Int) ≤ 100000 → (∀ g ∈ l, okT W H g) → ∃ l' : List Goat, Ev (fun k => spec_A2Goats.l1 c p k l (n : Int) at_ seed) l' ∧ l'.length ≤ 20 ∧ ∀ g ∈ l', okT W H g := by
   intro n
   induction n with
   | zero => exact fun l at_ seed hn h0 h1 h => ⟨l, Ev.step (fun k => spec_A2Goats.l1.eq_2 _ _ _ _ _ _ _) (Ev.neg (by omega) (Ev.const rfl)), by omega, h⟩
   | succ n ih =>
     intro l at_ seed hn h0 h1 h
     obtain ⟨g, a1, s1, e1, ok, q1, q1'⟩ := goat_ok hc hW hH hW' hH' (at_ := at_) (seed := seed) h0 (by push_cast at h1; omega)
     obtain ⟨l', g1, g2, g3⟩ := ih (l ++ [g]) a1 s1 (by simp; omega) (by omega) (by push_cast at h1; omega) (fun z hz => by
       rcases List.mem_append.1 hz with hz | hz
       · exact h z hz
       · rw [List.mem_singleton.1 hz]; exact ok)
     have en : IntKind.i64.wrap (((n + 1 : Nat) : Int) - 1) = (n : Int) := by rw [w64 (by omega) (by omega)]; omega
     rw [← en] at g1
     exact ⟨l', Ev.step (fun k => spec_A2Goats.l1.eq_2 _ _ _ _ _ _ _) (Ev.pos (by omega) (Ev.bind (Ev.const e1) (Ev.bind (Ev.const (chk_t (by simp; omega))) g1))), g2, g3⟩
 obtain ⟨l, g1, g2, g3⟩ := key m [g] a2 s2 (by simp; omega) (by omega) (by omega) (one_goat ok)
 exact ⟨l, Ev.bind (a := (⟨c, 0, 0⟩ : l00Src)) (Ev.const rfl) (Ev.bind (Ev.const e1) (Ev.bind (Ev.const e2) (g1.bind (Ev.const rfl)))), g2, g3⟩
end Go.Proofs.YtokanemjghfadaaGreatDoor
/-
  Plain law: the text of goats, read back.
-/
namespace Go.Proofs.YtokanemjghfadaaGreatDoor
open G
set_option linter.unusedVariables false
set_option linter.unusedSimpArgs false
variable {W H : Nat} {p q : Pasture} {Gr : Nat → Nat → Int} {E S : Nat → Nat → Bool} {y x b a sx sy ax ay : Nat} {r : Int} {rb : Nat → Nat → Nat → Nat → Bool} {g : Goat} {l : List Goat}
abbrev dD (n : Int) : List UInt8 := Go.Lib.decDigits n.toNat
theorem dD_no {c : UInt8} (hc : digB c = false) (n : Int) : c ∉ dD n := fun h => by
  have := List.all_eq_true.1 (dec_all n.toNat) c h
  rw [hc] at this; cases this
theorem dD_B {n : Int} (h : 0 ≤ n) : (itoaB n).data.toList = dD n := by
 obtain ⟨m, rfl⟩ := Int.eq_ofNat_of_zero_le h
 rw [itoa_nat]
 rfl
theorem dD_v {n : Int} (h : 0 ≤ n) : ((valF 0 (dD n) : Nat) : Int) = n := by
 rw [dec_val]; omega
theorem itoa_ok {n : Int} {d : Nat} (h0 : 0 ≤ n) (h1 : n < 10 ^ (d + 1)) : (itoaB n).size ≤ d + 1 := by
 obtain ⟨z, rfl⟩ := Int.eq_ofNat_of_zero_le h0
 exact itoa_size (by exact_mod_cast h1)
abbrev com : ByteArray := ⟨#[44]⟩
abbrev til : ByteArray := ⟨#[126]⟩
abbrev spc : ByteArray := ⟨#[32]⟩
abbrev nlB : ByteArray := ⟨#[10]⟩
abbrev freeB : ByteArray := ⟨#[102, 114, 101, 101]⟩
abbrev richB : ByteArray := ⟨#[114, 105, 99, 104]⟩
abbrev nearB : ByteArray := ⟨#[110, 101, 97, 114]⟩
/-- What is written of a spot, of a goat. -/
structure goodS (s : Spot) : Prop where
  x0 : 0 ≤ s.X
  x1 : s.X ≤ 9
  y0 : 0 ≤ s.Y
  y1 : s.Y ≤ 9
structure good (g : Goat) : Prop where
  At : goodS g.At
  Stake : goodS g.Stake
  r0 : -1 ≤ g.Rope
  r1 : g.Rope ≤ 200
  e0 : 0 ≤ g.Eats
  e1 : g.Eats ≤ 100
  l0 : 0 ≤ g.Likes
  l1 : g.Likes ≤ 1
  free : g.Rope = -1 → g.Stake = (⟨0, 0⟩ : Spot)
theorem goodS_sp (hx : x < 10) (hy : y < 10) : goodS (sp x y) := by
 exact ⟨show (0 : Int) ≤ (x : Int) by omega, show (x : Int) ≤ 9 by omega, show (0 : Int) ≤ (y : Int) by omega, show (y : Int) ≤ 9 by omega⟩
theorem okT.good (h : okT W H g) (hW : W ≤ 10) (hH : H ≤ 10) : good g := by
 obtain ⟨ax, ay, sx, sy, k⟩ := h
 have h1 := k.hax
 have h2 := k.hay
 have h3 := k.hsx
 have h4 := k.hsy
 exact ⟨by rw [k.At]; exact goodS_sp (by omega) (by omega), by rw [k.Stake]; exact goodS_sp (by omega) (by omega), k.r0, k.r1, k.e0, k.e1, k.l0, k.l1, k.free⟩
def spotT (s : Spot) : ByteArray := (itoaB s.X ++ com) ++ itoaB s.Y
def tiedT (g : Goat) : ByteArray := if 0 ≤ g.Rope then (spotT g.Stake ++ til) ++ itoaB g.Rope else freeB
def likeT (g : Goat) : ByteArray := if g.Likes = 0 then richB else nearB
def lineT (g : Goat) : ByteArray := ((((((spotT g.At ++ spc) ++ tiedT g) ++ spc) ++ itoaB g.Eats) ++ spc) ++ likeT g) ++ nlB
theorem s1 (c : UInt8) : (⟨#[c]⟩ : ByteArray).size = 1 := rfl
theorem spot_size {s : Spot} (h : goodS s) : (itoaB s.X).size ≤ 1 ∧ (itoaB s.Y).size ≤ 1 ∧ (spotT s).size ≤ 3 := by
 have h1 : (itoaB s.X).size ≤ 1 := itoa_ok (d := 0) h.x0 (by have := h.x1; omega)
 have h2 : (itoaB s.Y).size ≤ 1 := itoa_ok (d := 0) h.y0 (by have := h.y1; omega)
 refine ⟨h1, h2, ?_⟩
 unfold spotT
 rw [ByteArray.size_append, ByteArray.size_append, s1]; omega
theorem spot_text {s : Spot} (h : goodS s) : impl_Spot_text.f s = some (spotT s) := by
 obtain ⟨w1, w2, w3⟩ := spot_size h
 have hx0 := h.x0
 have hx1 := h.x1
 have hy0 := h.y0
 have hy1 := h.y1
 have c1 : chk ((itoaB s.X).size + com.size ≤ 4294967296) = some () := chkX (by rw [s1]; omega)
 have c2 : chk ((itoaB s.X ++ com).size + (itoaB s.Y).size ≤ 4294967296) = some () := chkX (by rw [ByteArray.size_append, s1]; omega)
 unfold impl_Spot_text.f
 rw [w64 (by omega) (by omega), decimal_eq hx0 (by omega), Option.bind_some, c1, Option.bind_some, w64 (by omega) (by omega), decimal_eq hy0 (by omega), Option.bind_some, c2]
 rfl
theorem isSpot_eq {s : Spot} (h : goodS s) : impl_isSpot.f s = some true := by
 have hx0 := h.x0
 have hx1 := h.x1
 have hy0 := h.y0
 have hy1 := h.y1
 have e : IntKind.i64.wrap ((if (10 : Int) < IntKind.i64.wrap 10 then 10 else IntKind.i64.wrap 10) - 1) = 9 := by decide
 unfold impl_isSpot.f impl_Pasture_isCell.f
 simp only [within_eq, e]
 rw [w64 (x := s.X) (by omega) (by omega), w64 (x := s.Y) (by omega) (by omega), decide_eq_true ⟨hx0, hx1⟩, decide_eq_true ⟨hy0, hy1⟩]
 rfl
theorem isGoat_eq (h : good g) : impl_isGoat.f g = some true := by
 have e0 := h.e0
 have e1 := h.e1
 have l0 := h.l0
 have l1 := h.l1
 have r0 := h.r0
 have r1 := h.r1
 unfold impl_isGoat.f
 by_cases c : g.Rope = -1
 ·rw [if_neg (by simpa using c), h.free c, within_eq, within_eq, within_eq, w64 (x := g.Rope) (by omega) (by omega), w64 (x := g.Eats) (by omega) (by omega), w64 (x := g.Likes) (by omega) (by omega), decide_eq_true (show -1 ≤ g.Rope ∧ g.Rope ≤ 200 from ⟨r0, r1⟩), decide_eq_true (show 0 ≤ g.Eats ∧ g.Eats ≤ 100 from ⟨e0, e1⟩), decide_eq_true (show 0 ≤ g.Likes ∧ g.Likes ≤ 1 from ⟨l0, l1⟩)]
  rfl
 rw [if_pos c, within_eq, within_eq, within_eq, w64 (x := g.Rope) (by omega) (by omega), w64 (x := g.Eats) (by omega) (by omega), w64 (x := g.Likes) (by omega) (by omega), decide_eq_true (show -1 ≤ g.Rope ∧ g.Rope ≤ 200 from ⟨r0, r1⟩), decide_eq_true (show 0 ≤ g.Eats ∧ g.Eats ≤ 100 from ⟨e0, e1⟩), decide_eq_true (show 0 ≤ g.Likes ∧ g.Likes ≤ 1 from ⟨l0, l1⟩)]
 rfl
theorem line_size (h : good g) : (spotT g.At).size ≤ 3 ∧ (spotT g.Stake).size ≤ 3 ∧ (0 ≤ g.Rope → (itoaB g.Rope).size ≤ 3) ∧ (tiedT g).size ≤ 7 ∧ (itoaB g.Eats).size ≤ 3 ∧ (likeT g).size = 4 ∧ (lineT g).size ≤ 22 := by
 have h1 := (spot_size h.At).2.2
 have h2 := (spot_size h.Stake).2.2
 have h3 : 0 ≤ g.Rope → (itoaB g.Rope).size ≤ 3 := fun c => itoa_ok (d := 2) c (by have := h.r1; omega)
 have h4 : (tiedT g).size ≤ 7 := by
   unfold tiedT
   by_cases c : 0 ≤ g.Rope
   · have := h3 c
     rw [if_pos c, ByteArray.size_append, ByteArray.size_append, s1]; omega
   · rw [if_neg c]; show 4 ≤ 7; omega
 have h5 : (itoaB g.Eats).size ≤ 3 := itoa_ok (d := 2) h.e0 (by have := h.e1; omega)
 have h6 : (likeT g).size = 4 := by
   unfold likeT
   by_cases c : g.Likes = 0
   · rw [if_pos c]; rfl
   · rw [if_neg c]; rfl
 refine ⟨h1, h2, h3, h4, h5, h6, ?_⟩
 unfold lineT
 simp only [ByteArray.size_append, s1, h6]
 omega
def textT : List Goat → ByteArray → ByteArray
  | [], t => t
  | g :: l, t => textT l (t ++ lineT g)
theorem text_loop (hl : l.length ≤ 20) (hg : ∀ g ∈ l, good g) : ∀ i, i ≤ l.length → ∀ t : ByteArray, t.size ≤ 22 * i → Ev (fun k => impl_GoatsText.l1 l k t (i : Int)) (textT (l.drop i) t) := by
 refine upL ?_ ?_
 ·intro t ht
  exact Ev.step (fun k => impl_GoatsText.l1.eq_2 _ _ _ _) (Ev.neg (by omega) (Ev.const (by rw [List.drop_length]; rfl)))
 intro i hi ih t ht
 have h := hg _ (List.getElem_mem hi)
 obtain ⟨z1, z2, z3, z4, z5, z6, z7⟩ := line_size h
 have r0 := h.r0
 have r1 := h.r1
 have e0 := h.e0
 have e1 := h.e1
 have l0 := h.l0
 have l1 := h.l1
 have ih := ih (t ++ lineT l[i]) (by rw [ByteArray.size_append]; omega)
 rw [← wsucc hi (by omega)] at ih
 rw [List.drop_eq_getElem_cons hi, textT]
 have hE : impl_decimal.f (IntKind.i64.wrap l[i].Eats) = some (itoaB l[i].Eats) := by rw [w64 (by omega) (by omega)]; exact decimal_eq e0 (by omega)
 have hL : getI ([richB, nearB] : List ByteArray) l[i].Likes = some (likeT l[i]) := by
   unfold likeT
   by_cases c : l[i].Likes = 0
   · rw [if_pos c, c]; rfl
   · rw [if_neg c, show l[i].Likes = 1 by omega]; rfl
 have f4 : freeB.size = 4 := rfl
 refine Ev.step (fun k => impl_GoatsText.l1.eq_2 _ _ _ _) (Ev.pos (by omega) (Ev.bind (Ev.const (getI_nat hi)) ?_))
 by_cases c : 0 ≤ l[i].Rope
 ·have z3 := z3 c
  have hR : impl_decimal.f (IntKind.i64.wrap l[i].Rope) = some (itoaB l[i].Rope) := by rw [w64 (by omega) (by omega)]; exact decimal_eq c (by omega)
  have eT : tiedT l[i] = (spotT l[i].Stake ++ til) ++ itoaB l[i].Rope := if_pos c
  unfold lineT at ih z7 ⊢
  rw [eT] at ih z4 z7 ⊢
  refine Ev.pos c (Ev.bind (Ev.const (spot_text h.Stake)) (Ev.bind (Ev.const (chkX ?_)) (Ev.bind (Ev.const hR) (Ev.bind (Ev.const (chkX ?_)) (Ev.bind (Ev.const (spot_text h.At)) (Ev.bind (Ev.const (chkX ?_)) (Ev.bind (Ev.const (chkX ?_)) (Ev.bind (Ev.const (chkX ?_)) (Ev.bind (Ev.const hE) (Ev.bind (Ev.const (chkX ?_)) (Ev.bind (Ev.const (chkX ?_)) (Ev.bind (Ev.const rfl) (Ev.bind (Ev.const hL) (Ev.bind (Ev.const (chkX ?_)) (Ev.bind (Ev.const (chkX ?_)) (Ev.bind (Ev.const (chkX ?_)) ?_))))))))))))))))
  all_goals first | exact ih | (simp only [ByteArray.size_append, s1, z6] at z7 ⊢; omega)
 have eT : tiedT l[i] = freeB := if_neg c
 unfold lineT at ih z7 ⊢
 rw [eT] at ih z4 z7 ⊢
 refine Ev.neg c (Ev.bind (Ev.const (spot_text h.At)) (Ev.bind (Ev.const (chkX ?_)) (Ev.bind (Ev.const (chkX ?_)) (Ev.bind (Ev.const (chkX ?_)) (Ev.bind (Ev.const hE) (Ev.bind (Ev.const (chkX ?_)) (Ev.bind (Ev.const (chkX ?_)) (Ev.bind (Ev.const rfl) (Ev.bind (Ev.const hL) (Ev.bind (Ev.const (chkX ?_)) (Ev.bind (Ev.const (chkX ?_)) (Ev.bind (Ev.const (chkX ?_)) ?_))))))))))))
 all_goals first | exact ih | (simp only [ByteArray.size_append, s1, f4, z6] at z7 ⊢; omega)
theorem text_ev (hl : l.length ≤ 20) (hg : ∀ g ∈ l, good g) : Ev (fun k => impl_GoatsText.f k l) (textT l ByteArray.empty) := by
 have hidx : ∀ i, i ≤ l.length → Ev (fun k => slices_IndexFunc_impl_Goat_impl_Goat.l1 l impl_GoatsText_1.f k (i : Int)) (.inr ()) := by
   refine upL ?_ ?_
   · exact Ev.step (fun k => slices_IndexFunc_impl_Goat_impl_Goat.l1.eq_2 _ _ _ _) (Ev.neg (by omega) (Ev.const rfl))
   · intro i hi ih
     rw [← wsucc hi (by omega)] at ih
     have h := hg _ (List.getElem_mem hi)
     have hs : impl_GoatsText_1.f l[i] = some false := by
       unfold impl_GoatsText_1.f
       rw [isSpot_eq h.At, Option.bind_some, if_neg (by simp), isSpot_eq h.Stake, Option.bind_some, if_neg (by simp), isGoat_eq h]
       rfl
     exact Ev.step (fun k => slices_IndexFunc_impl_Goat_impl_Goat.l1.eq_2 _ _ _ _) (Ev.pos (by omega) (Ev.bind (Ev.const (getI_nat hi)) (Ev.bind (Ev.const hs) (Ev.neg (by simp) ih))))
 have hcont : Ev (fun k => slices_ContainsFunc_impl_Goat_impl_Goat.f k l impl_GoatsText_1.f) false := Ev.bind (a := (-1 : Int)) ((hidx 0 (Nat.zero_le _)).bind (Ev.const rfl)) (Ev.const rfl)
 have h0 := text_loop hl hg 0 (Nat.zero_le _) ByteArray.empty (Nat.zero_le _)
 rw [List.drop_zero] at h0
 exact Ev.bind (a := false) (Ev.neg (by omega) (hcont.bind (Ev.const rfl))) (Ev.neg (by simp) (h0.bind (Ev.const rfl)))
/-! ### The lines -/
def spotL (s : Spot) : List UInt8 := dD s.X ++ 44 :: dD s.Y
def tiedL (g : Goat) : List UInt8 := if 0 ≤ g.Rope then spotL g.Stake ++ 126 :: dD g.Rope else [102, 114, 101, 101]
def likeL (g : Goat) : List UInt8 := if g.Likes = 0 then [114, 105, 99, 104] else [110, 101, 97, 114]
def bodyL (g : Goat) : List UInt8 := spotL g.At ++ 32 :: (tiedL g ++ 32 :: (dD g.Eats ++ 32 :: likeL g))
theorem spotT_L {s : Spot} (h : goodS s) : (spotT s).data.toList = spotL s := by
 unfold spotT spotL
 simp only [ByteArray.data_append, Array.toList_append, dD_B h.x0, dD_B h.y0]
 simp [com]
theorem tiedT_L (h : good g) : (tiedT g).data.toList = tiedL g := by
 unfold tiedT tiedL
 by_cases c : 0 ≤ g.Rope
 ·rw [if_pos c, if_pos c]
  simp only [ByteArray.data_append, Array.toList_append, dD_B c, spotT_L h.Stake]
  simp [til]
 rw [if_neg c, if_neg c]
theorem likeT_L : (likeT g).data.toList = likeL g := by
 unfold likeT likeL
 by_cases c : g.Likes = 0
 ·rw [if_pos c, if_pos c]
 rw [if_neg c, if_neg c]
theorem lineT_L (h : good g) : (lineT g).data.toList = bodyL g ++ [10] := by
 unfold lineT bodyL
 simp only [ByteArray.data_append, Array.toList_append, dD_B h.e0, spotT_L h.At, tiedT_L h, likeT_L]
 simp [spc, nlB]
def textL (l : List Goat) : List UInt8 := (l.map fun g => bodyL g ++ [10]).flatten
theorem textT_L : ∀ (l : List Goat) (t : ByteArray), (∀ g ∈ l, good g) → (textT l t).data.toList = t.data.toList ++ textL l
  | [], t, _ => by simp [textT, textL]
  | g :: l, t, h => by
    rw [textT, textT_L l _ (fun z hz => h z (List.mem_cons_of_mem _ hz)), ByteArray.data_append, Array.toList_append, lineT_L (h g (List.mem_cons_self ..))]
    simp [textL]
theorem no_spot {c : UInt8} (hc : digB c = false) (h44 : c ≠ 44) (s : Spot) : c ∉ spotL s := by
 unfold spotL
 simp only [List.mem_append, List.mem_cons, not_or]
 exact ⟨dD_no hc _, h44, dD_no hc _⟩
theorem no_tied {c : UInt8} (hc : digB c = false) (h44 : c ≠ 44) (h126 : c ≠ 126) (hf : c ∉ ([102, 114, 101, 101] : List UInt8)) (g : Goat) : c ∉ tiedL g := by
 unfold tiedL
 split
 ·simp only [List.mem_append, List.mem_cons, not_or]
  exact ⟨no_spot hc h44 _, h126, dD_no hc _⟩
 exact hf
theorem no_like {c : UInt8} (h1 : c ∉ ([114, 105, 99, 104] : List UInt8)) (h2 : c ∉ ([110, 101, 97, 114] : List UInt8)) (g : Goat) : c ∉ likeL g := by
 unfold likeL
 split
 ·exact h1
 exact h2
theorem no10 (g : Goat) : (10 : UInt8) ∉ bodyL g := by
 unfold bodyL
 simp only [List.mem_append, List.mem_cons, not_or]
 exact ⟨no_spot (by decide) (by decide) _, by decide, no_tied (by decide) (by decide) (by decide) (by decide) _, by decide, dD_no (by decide) _, by decide, no_like (by decide) (by decide) _⟩
theorem spl_body (g : Goat) : spl 32 (bodyL g) = [spotL g.At, tiedL g, dD g.Eats, likeL g] := by
 unfold bodyL
 rw [spl_hit (no_spot (by decide) (by decide) _), spl_hit (no_tied (by decide) (by decide) (by decide) (by decide) _), spl_hit (dD_no (by decide) _), spl_miss (no_like (by decide) (by decide) _)]
theorem ib_hit {c : UInt8} {r : List UInt8} : ∀ {a : List UInt8}, c ∉ a → Go.Lib.indexByte (a ++ c :: r) c = (a.length : Int)
  | [], _ => by simp [Go.Lib.indexByte]
  | b :: a, h => by
    have hb : ¬ b = c := fun e => h (by rw [e]; exact List.mem_cons_self ..)
    have ih := ib_hit (r := r) (a := a) (fun z => h (List.mem_cons_of_mem _ z))
    rw [List.cons_append, Go.Lib.indexByte, if_neg (by simpa using hb), ih, if_neg (by simp), List.length_cons]
    omega
theorem lines_cons {a r : List UInt8} (h : (10 : UInt8) ∉ a) : linesB (toB (a ++ 10 :: r)) = toB (a ++ [10]) :: linesB (toB r) := by
 have e : Go.Lib.indexByte (toB (a ++ 10 :: r)).data.toList 10 = (a.length : Int) := by rw [toB_list, ib_hit h]
 rw [linesB_hit (by rw [toB_size]; simp) (by rw [e]; omega), e, ex_toB, ex_toB, toB_list, toB_size]
 have t : ((a.length : Int) + 1).toNat = a.length + 1 := by omega
 rw [t]
 congr 1
 ·unfold exL
  rw [List.drop_zero, List.take_append]
  congr 1
  rw [List.take_of_length_le (by omega)]
  simp
 unfold exL
 rw [List.drop_append, List.drop_of_length_le (by omega)]
 simp only [List.nil_append, List.length_append, List.length_cons, Nat.add_sub_cancel_left, List.drop_succ_cons, List.drop_zero]
 rw [List.take_of_length_le (by omega)]
theorem lines_text : ∀ (l : List Goat), linesB (toB (textL l)) = l.map fun g => toB (bodyL g ++ [10])
  | [] => linesB_nil rfl
  | g :: l => by
    have e : textL (g :: l) = bodyL g ++ 10 :: textL l := by simp [textL]
    rw [e, lines_cons (no10 g), lines_text l]
    rfl
theorem trim_eq (a : List UInt8) (ha : a.length ≤ 1000000) : strings_TrimSuffix.f (toB (a ++ [10])) nlB = some (toB a) := by
 have hs : (toB (a ++ [10])).size = a.length + 1 := by rw [toB_size]; simp
 have hw : IntKind.i64.wrap (((toB (a ++ [10])).size : Int) - (nlB.size : Int)) = (a.length : Int) := by
   rw [hs, s1, w64 (by omega) (by omega)]; omega
 have hn : (a.length : Int).toNat = a.length := by omega
 unfold strings_TrimSuffix.f internal_stringslite_TrimSuffix.f internal_stringslite_HasSuffix.f
 rw [if_pos (by rw [hs, s1]; omega), hw, chkX (by rw [hs]; omega), Option.bind_some, hn]
 have e : (toB (a ++ [10])).extract a.length (toB (a ++ [10])).size = nlB := by
   rw [ex_toB, toB_list, hs]
   unfold exL
   rw [List.drop_append, List.drop_of_length_le (Nat.le_refl _)]
   simp
   rfl
 rw [e, decide_eq_true rfl, Option.bind_some, if_pos rfl, chkX (by rw [hs]; omega), Option.bind_some, Option.bind_some, ex_toB, toB_list]
 unfold exL
 simp
theorem num_back {n : Int} {most : Int} (h0 : 0 ≤ n) (h1 : n ≤ most) (hm : most ≤ 1000) : impl_number.f (toB (dD n)) most = some (n, true) := by
 have hl : (dD n).length ≤ 4 := dec_len 3 n.toNat (by omega)
 rw [number_eq _ _ (by rw [toB_size]; omega) (by omega), toB_list, dD_v h0, if_pos ⟨dec_okNum (by omega), h1⟩]
theorem spotL_len {s : Spot} (h : goodS s) : (spotL s).length ≤ 9 := by
 have l1 : (dD s.X).length ≤ 4 := dec_len 3 s.X.toNat (by have := h.x1; omega)
 have l2 : (dD s.Y).length ≤ 4 := dec_len 3 s.Y.toNat (by have := h.y1; omega)
 unfold spotL
 simp; omega
theorem read_spot {s : Spot} (h : goodS s) : impl_readSpot.f (toB (spotL s)) = some (s, true) := by
 have hlen := spotL_len h
 have hx0 := h.x0
 have hx1 := h.x1
 have hy0 := h.y0
 have hy1 := h.y1
 unfold impl_readSpot.f strings_Cut.f
 rw [chkX (by rw [toB_size]; omega), Option.bind_some, cut_hit 44 (s := toB (spotL s)) (r := dD s.Y) (dD_no (by decide) s.X) (toB_list _)]
 simp only [Option.bind_some]
 rw [num_back h.x0 h.x1 (by omega), Option.bind_some, num_back h.y0 h.y1 (by omega), Option.bind_some]
 simp only [w8 (x := s.X) (by omega) (by omega), w8 (x := s.Y) (by omega) (by omega)]
 rfl
theorem index_like (h : good g) : Ev (fun k => slices_Index_string_string.f k ([richB, nearB] : List ByteArray) (toB (likeL g))) g.Likes := by
 have l0 := h.l0
 have l1 := h.l1
 have w1 : IntKind.i64.wrap (0 + 1) = 1 := by decide
 unfold likeL
 by_cases c : g.Likes = 0
 ·rw [if_pos c, c]
  exact Ev.bind (a := .inl 0) (Ev.step (fun k => slices_Index_string_string.l1.eq_2 _ _ _ _) (Ev.pos (by simp) (Ev.bind (a := richB) (Ev.const rfl) (Ev.pos rfl (Ev.const rfl))))) (Ev.const rfl)
 have e1 : g.Likes = 1 := by omega
 rw [if_neg c, e1]
 have h2 : Ev (fun k => slices_Index_string_string.l1 ([richB, nearB] : List ByteArray) (toB [110, 101, 97, 114]) k (IntKind.i64.wrap (0 + 1))) (.inl 1) := by
   rw [w1]
   exact Ev.step (fun k => slices_Index_string_string.l1.eq_2 _ _ _ _) (Ev.pos (by simp) (Ev.bind (a := nearB) (Ev.const rfl) (Ev.pos rfl (Ev.const rfl))))
 have hne : ¬ toB [110, 101, 97, 114] = richB := fun e => by
   have : ([110, 101, 97, 114] : List UInt8) = [114, 105, 99, 104] := congrArg (fun b : ByteArray => b.data.toList) e
   simp at this
 exact Ev.bind (a := .inl 1) (Ev.step (fun k => slices_Index_string_string.l1.eq_2 _ _ _ _) (Ev.pos (by simp) (Ev.bind (a := richB) (Ev.const rfl) (Ev.neg hne h2)))) (Ev.const rfl)
theorem read_goat (h : good g) : Ev (fun k => impl_readGoat.f k [toB (spotL g.At), toB (tiedL g), toB (dD g.Eats), toB (likeL g)]) (g, true) := by
 have r0 := h.r0
 have r1 := h.r1
 have e0 := h.e0
 have e1 := h.e1
 have l0 := h.l0
 have l1 := h.l1
 have we : IntKind.i16.wrap g.Eats = g.Eats := w16 (by omega) (by omega)
 have wl : IntKind.i8.wrap g.Likes = g.Likes := w8 (by omega) (by omega)
 refine Ev.neg (by simp) (Ev.bind (a := toB (spotL g.At)) (Ev.const rfl) (Ev.bind (Ev.const (read_spot h.At)) (Ev.bind (a := toB (dD g.Eats)) (Ev.const rfl) (Ev.bind (Ev.const (num_back e0 e1 (by omega))) (Ev.bind (a := toB (likeL g)) (Ev.const rfl) (Ev.bind (a := ([richB, nearB] : List ByteArray)) (Ev.const rfl) ((index_like h).bind (Ev.bind (a := toB (tiedL g)) (Ev.const rfl) ?_))))))))
 by_cases c : 0 ≤ g.Rope
 ·have eT : tiedL g = spotL g.Stake ++ 126 :: dD g.Rope := if_pos c
  have hne : toB (tiedL g) ≠ freeB := fun e => by
    have : tiedL g = [102, 114, 101, 101] := congrArg (fun b : ByteArray => b.data.toList) e
    have m : (126 : UInt8) ∈ tiedL g := by rw [eT]; simp
    rw [this] at m
    simp at m
  have hlen := spotL_len h.Stake
  have l3 : (dD g.Rope).length ≤ 4 := dec_len 3 g.Rope.toNat (by omega)
  have hcut : strings_Cut.f (toB (tiedL g)) til = some (toB (spotL g.Stake), toB (dD g.Rope), true) := by
    unfold strings_Cut.f
    rw [chkX (by rw [toB_size, eT]; simp; omega), Option.bind_some, cut_hit 126 (s := toB (tiedL g)) (no_spot (by decide) (by decide) _) (by rw [toB_list, eT])]
  have wr : IntKind.i16.wrap g.Rope = g.Rope := w16 (by omega) (by omega)
  refine Ev.pos hne (Ev.bind (a := toB (tiedL g)) (Ev.const rfl) (Ev.bind (Ev.const hcut) (Ev.bind (Ev.const (num_back c r1 (by omega))) (Ev.bind (Ev.const (read_spot h.Stake)) (Ev.bind (a := false) (Ev.neg (by simp) (Ev.const rfl)) (Ev.neg (by simp) (Ev.pos rfl (Ev.const ?_))))))))
  simp only [we, wl, wr]
 have eR : g.Rope = -1 := by omega
 have eT : toB (tiedL g) = freeB := by unfold tiedL; rw [if_neg c]; rfl
 refine Ev.neg (by rw [eT]; simp) (Ev.pos rfl (Ev.const ?_))
 rw [we, wl, ← eR, ← h.free eR]
theorem read_loop (hg : ∀ g ∈ l, good g) : ∀ acc : List Goat, acc.length + l.length ≤ 20 → Ev (fun k => impl_ReadGoats.l1 k (l.map fun g => toB (bodyL g ++ [10])) acc) (.inr (acc ++ l)) := by
  induction l with
  | nil => intro acc _; rw [List.append_nil]; exact Ev.const rfl
  | cons g l ih =>
    intro acc ha
    have h := hg g (List.mem_cons_self ..)
    have ih := ih (fun z hz => hg z (List.mem_cons_of_mem _ hz)) (acc ++ [g]) (by simp at ha ⊢; omega)
    rw [List.append_assoc] at ih
    have hl : (bodyL g).length ≤ 1000 := by
      have := (line_size h).2.2.2.2.2.2
      rw [size_toList, lineT_L h] at this
      simp at this
      omega
    have hsp : strings_Split.f (toB (bodyL g)) spc = some [toB (spotL g.At), toB (tiedL g), toB (dD g.Eats), toB (likeL g)] := by
      unfold strings_Split.f
      rw [chkX ⟨by rw [toB_size]; omega, Nat.le_refl _⟩, Option.bind_some, split_spl, toB_list, spl_body]
      rfl
    exact Ev.bind (Ev.const (trim_eq _ (by omega))) (Ev.bind (Ev.const hsp) ((read_goat h).bind (Ev.neg (by simp) (Ev.bind (Ev.const (chk_t (by simp at ha ⊢; omega))) ih))))
theorem read_ev (hl : l.length ≤ 20) (hg : ∀ g ∈ l, good g) : Ev (fun k => impl_ReadGoats.f k (textT l ByteArray.empty)) (l, 0) := by
 have e : (textT l ByteArray.empty).data.toList = textL l := by rw [textT_L l _ hg]; rfl
 have e2 : textT l ByteArray.empty = toB (textL l) := by rw [← e, toB_of]
 have hsz : ∀ (l : List Goat) (t : ByteArray), (∀ g ∈ l, good g) → (textT l t).size ≤ t.size + 22 * l.length := by
   intro l
   induction l with
   | nil => intro t _; exact Nat.le_refl _
   | cons g l ih =>
     intro t h
     have h1 := ih (t ++ lineT g) (fun z hz => h z (List.mem_cons_of_mem _ hz))
     have h2 := (line_size (h g (List.mem_cons_self ..))).2.2.2.2.2.2
     rw [ByteArray.size_append] at h1
     rw [textT, List.length_cons]
     omega
 have h1 := hsz l ByteArray.empty hg
 have h2 : ByteArray.empty.size = 0 := rfl
 have hr := read_loop hg [] (by simpa using hl)
 rw [List.nil_append, ← lines_text, ← e2] at hr
 exact Ev.bind (Ev.const (chkX (by omega))) (hr.bind ((text_ev hl hg).bind (Ev.neg (by simp) (Ev.const rfl))))
theorem sameGoats_ev (hl : l.length ≤ 20) : Ev (fun k => spec_SameGoats.f k l l) true ∧ Ev (fun k => impl_SameGoats.f k l l) true := by
 have k1 : ∀ i, i ≤ l.length → Ev (fun k => spec_SameGoats.l1 l l k (i : Int)) (.inr ()) := by
   refine upL ?_ ?_
   · exact Ev.step (fun k => spec_SameGoats.l1.eq_2 _ _ _ _) (Ev.neg (by omega) (Ev.const rfl))
   · intro i hi ih
     rw [← wsucc hi (by omega)] at ih
     exact Ev.step (fun k => spec_SameGoats.l1.eq_2 _ _ _ _) (Ev.pos (by omega) (Ev.bind (Ev.const (getI_nat hi)) (Ev.bind (Ev.const (getI_nat hi)) (Ev.neg (by simp) ih))))
 have k2 : ∀ i, i ≤ l.length → Ev (fun k => slices_Equal_impl_Goat_impl_Goat.l1 l l k (i : Int)) (.inr ()) := by
   refine upL ?_ ?_
   · exact Ev.step (fun k => slices_Equal_impl_Goat_impl_Goat.l1.eq_2 _ _ _ _) (Ev.neg (by omega) (Ev.const rfl))
   · intro i hi ih
     rw [← wsucc hi (by omega)] at ih
     exact Ev.step (fun k => slices_Equal_impl_Goat_impl_Goat.l1.eq_2 _ _ _ _) (Ev.pos (by omega) (Ev.bind (Ev.const (getI_nat hi)) (Ev.bind (Ev.const (getI_nat hi)) (Ev.neg (by simp) ih))))
 have h2 : Ev (fun k => slices_Equal_impl_Goat_impl_Goat.f k l l) true := Ev.neg (by simp) ((k2 0 (Nat.zero_le _)).bind (Ev.const rfl))
 exact ⟨Ev.neg (by simp) ((k1 0 (Nat.zero_le _)).bind (Ev.const rfl)), h2.bind (Ev.const rfl)⟩
end Go.Proofs.YtokanemjghfadaaGreatDoor
/-
  Plain law: the cell that a goat chooses; steps; a goat that is tied.
-/
namespace Go.Proofs.YtokanemjghfadaaGreatDoor
open G
set_option linter.unusedVariables false
set_option linter.unusedSimpArgs false
variable {W H : Nat} {p q : Pasture} {Gr : Nat → Nat → Int} {E S : Nat → Nat → Bool} {y x b a sx sy ax ay : Nat} {r : Int} {rb : Nat → Nat → Nat → Nat → Bool} {g : Goat} {l : List Goat}
def gC (Gr : Nat → Nat → Int) (s : Spot) : Int := Gr s.Y.toNat s.X.toNat
theorem gC_sp (Gr : Nat → Nat → Int) (x y : Nat) : gC Gr (sp x y) = Gr y x := by unfold gC sp; simp
/-- Whether one cell is better than another one. -/
def bet (lk gs fs gb fb : Int) : Bool := if lk = 1 then decide (fs < fb ∨ (fs = fb ∧ gb < gs)) else decide (gb < gs ∨ (gs = gb ∧ fs < fb))
theorem bet_t1 {lk gs fs gb fb gc fc : Int} (h : bet lk gs fs gb fb = true) (k : bet lk gs fs gc fc = false) : bet lk gb fb gc fc = false := by
 unfold bet at *
 by_cases c : lk = 1
 ·rw [if_pos c] at *
  rw [decide_eq_false_iff_not] at *
  rw [decide_eq_true_eq] at h
  omega
 rw [if_neg c] at *
 rw [decide_eq_false_iff_not] at *
 rw [decide_eq_true_eq] at h
 omega
theorem bet_t2 {lk gs fs gb fb gc fc : Int} (h : bet lk gs fs gb fb = false) (k : bet lk gb fb gc fc = false) : bet lk gs fs gc fc = false := by
 unfold bet at *
 by_cases c : lk = 1
 ·rw [if_pos c] at *
  rw [decide_eq_false_iff_not] at *
  omega
 rw [if_neg c] at *
 rw [decide_eq_false_iff_not] at *
 omega
def pickC (lk : Int) (Gr : Nat → Nat → Int) (m : Tb) : List Spot → Spot → Bool → Spot × Bool
  | [], b, f => (b, f)
  | s :: l, b, f => if gC Gr s = 0 then pickC lk Gr m l b f else if f = false ∨ bet lk (gC Gr s) (gS m s) (gC Gr b) (gS m b) = true then pickC lk Gr m l s true else pickC lk Gr m l b f
def beats (lk : Int) (Gr : Nat → Nat → Int) (m : Tb) (s t : Spot) : Bool := bet lk (gC Gr s) (gS m s) (gC Gr t) (gS m t)
theorem beats_self (lk : Int) (Gr : Nat → Nat → Int) (m : Tb) (s : Spot) : beats lk Gr m s s = false := by
 unfold beats bet
 split <;> rw [decide_eq_false_iff_not] <;> omega
theorem pickC_ok (lk : Int) (Gr : Nat → Nat → Int) (m : Tb) : ∀ (l : List Spot) (b : Spot) (f : Bool), (pickC lk Gr m l b f).2 = (f || l.any fun s => decide (gC Gr s ≠ 0)) ∧ ((pickC lk Gr m l b f).2 = true → (f = true ∧ (pickC lk Gr m l b f).1 = b) ∨ ((pickC lk Gr m l b f).1 ∈ l ∧ gC Gr (pickC lk Gr m l b f).1 ≠ 0)) ∧ (∀ s ∈ l, gC Gr s ≠ 0 → beats lk Gr m s (pickC lk Gr m l b f).1 = false) ∧ (f = true → beats lk Gr m b (pickC lk Gr m l b f).1 = false)
  | [], b, f => ⟨by simp [pickC], fun h => .inl ⟨h, rfl⟩, fun s hs => by simp at hs, fun _ => beats_self ..⟩
  | s :: l, b, f => by
    by_cases z : gC Gr s = 0
    · obtain ⟨h1, h2, h3, h4⟩ := pickC_ok lk Gr m l b f
      have e : pickC lk Gr m (s :: l) b f = pickC lk Gr m l b f := by rw [pickC, if_pos z]
      rw [e]
      refine ⟨by rw [h1]; simp [z], fun h => (h2 h).imp id (fun h => ⟨List.mem_cons_of_mem _ h.1, h.2⟩), fun t ht hz => ?_, h4⟩
      rcases List.mem_cons.1 ht with rfl | ht
      · exact absurd z hz
      · exact h3 t ht hz
    · by_cases c : f = false ∨ bet lk (gC Gr s) (gS m s) (gC Gr b) (gS m b) = true
      · obtain ⟨h1, h2, h3, h4⟩ := pickC_ok lk Gr m l s true
        have e : pickC lk Gr m (s :: l) b f = pickC lk Gr m l s true := by rw [pickC, if_neg z, if_pos c]
        rw [e]
        refine ⟨by rw [h1]; simp [z], fun h => .inr ?_, fun t ht hz => ?_, fun hf => ?_⟩
        · rcases h2 h with ⟨_, h⟩ | h
          · rw [h]; exact ⟨List.mem_cons_self .., z⟩
          · exact ⟨List.mem_cons_of_mem _ h.1, h.2⟩
        · rcases List.mem_cons.1 ht with rfl | ht
          · exact h4 rfl
          · exact h3 t ht hz
        · exact bet_t1 (c.resolve_left (by rw [hf]; simp)) (h4 rfl)
      · obtain ⟨h1, h2, h3, h4⟩ := pickC_ok lk Gr m l b f
        have e : pickC lk Gr m (s :: l) b f = pickC lk Gr m l b f := by rw [pickC, if_neg z, if_neg c]
        have hf : f = true := by
          cases f
          · exact absurd (.inl rfl) c
          · rfl
        have hb : bet lk (gC Gr s) (gS m s) (gC Gr b) (gS m b) = false := by
          cases z : bet lk (gC Gr s) (gS m s) (gC Gr b) (gS m b)
          · rfl
          · exact absurd (.inr z) c
        rw [e]
        refine ⟨by rw [h1, hf]; simp, fun h => (h2 h).imp id (fun h => ⟨List.mem_cons_of_mem _ h.1, h.2⟩), fun t ht hz => ?_, h4⟩
        rcases List.mem_cons.1 ht with rfl | ht
        · exact bet_t2 hb (h4 hf)
        · exact h3 t ht hz
theorem PK.choiceI (k : PK W H Gr E S p rb) {m : Tb} (hm : ∀ b a, b < 10 → a < 10 → -1 ≤ g2 m b a ∧ g2 m b a ≤ 101) {xs : List Spot} (hl : xs.length ≤ 1000) (hx : ∀ s ∈ xs, ∃ x y : Nat, x < W ∧ y < H ∧ s = sp x y) : ∀ i, i ≤ xs.length → ∀ (bx by' : Nat) (f : Bool), bx < W → by' < H → Ev (fun z => impl_Pasture_choice.l1 p g m xs z (sp bx by') f (i : Int)) (pickC g.Likes Gr m (xs.drop i) (sp bx by') f) := by
 have hW := k.hW
 have hH := k.hH
 refine upL ?_ ?_
 ·intro bx by' f _ _
  exact Ev.step (fun k => impl_Pasture_choice.l1.eq_2 _ _ _ _ _ _ _ _) (Ev.neg (by omega) (Ev.const (by rw [List.drop_length]; rfl)))
 intro i hi ih bx by' f hbx hby
 obtain ⟨x, y, hxW, hyH, e⟩ := hx _ (List.getElem_mem hi)
 have g0 := k.hG y x hxW hyH
 have g1 := k.hG by' bx hbx hby
 have f0 := hm y x (by omega) (by omega)
 have f1 := hm by' bx (by omega) (by omega)
 have es : impl_steps_at.f m (sp x y) = some (g2 m y x) := steps_at (by omega) (by omega) (by omega)
 have eb : impl_steps_at.f m (sp bx by') = some (g2 m by' bx) := steps_at (by omega) (by omega) (by omega)
 have w1 : IntKind.i64.wrap (g2 m by' bx - g2 m y x) = g2 m by' bx - g2 m y x := w64 (by omega) (by omega)
 have w2 : IntKind.i64.wrap (Gr y x - Gr by' bx) = Gr y x - Gr by' bx := w64 (by omega) (by omega)
 have ihT := ih x y true hxW hyH
 have ihK := ih bx by' f hbx hby
 have gi := getI_nat hi
 rw [e] at gi
 rw [← wsucc hi (by omega)] at ihT ihK
 rw [List.drop_eq_getElem_cons hi, e]
 refine Ev.step (fun k => impl_Pasture_choice.l1.eq_2 _ _ _ _ _ _ _ _) (Ev.pos (by omega) (Ev.bind (Ev.const gi) (Ev.bind (Ev.const (k.grassI hxW hyH)) ?_)))
 by_cases z : Gr y x = 0
 ·rw [pickC, gC_sp, if_pos z]
  exact Ev.pos z ihK
 have T : (f = false ∨ bet g.Likes (Gr y x) (g2 m y x) (Gr by' bx) (g2 m by' bx) = true) → Ev (fun z => impl_Pasture_choice.l1 p g m xs z (sp x y) true (IntKind.i64.wrap ((i : Int) + 1))) (pickC g.Likes Gr m (sp x y :: xs.drop (i + 1)) (sp bx by') f) := fun c => by
   rw [pickC, gC_sp, gC_sp, gS_sp, gS_sp, if_neg z, if_pos c]; exact ihT
 have K : ¬ (f = false ∨ bet g.Likes (Gr y x) (g2 m y x) (Gr by' bx) (g2 m by' bx) = true) → Ev (fun z => impl_Pasture_choice.l1 p g m xs z (sp bx by') f (IntKind.i64.wrap ((i : Int) + 1))) (pickC g.Likes Gr m (sp x y :: xs.drop (i + 1)) (sp bx by') f) := fun c => by
   rw [pickC, gC_sp, gC_sp, gS_sp, gS_sp, if_neg z, if_neg c]; exact ihK
 refine Ev.neg z (Ev.bind (Ev.const (k.grassI hxW hyH)) (Ev.bind (Ev.const (k.grassI hbx hby)) (Ev.bind (Ev.const eb) (Ev.bind (Ev.const es) ?_))))
 cases f
 ·by_cases lk : g.Likes = 1
  ·exact Ev.pos lk (Ev.pos rfl (T (.inl rfl)))
  exact Ev.neg lk (Ev.pos rfl (T (.inl rfl)))
 unfold bet at T K
 by_cases lk : g.Likes = 1
 ·rw [if_pos lk] at T K
  refine Ev.pos lk (Ev.neg (by simp) ?_)
  by_cases c1 : g2 m y x < g2 m by' bx
  ·exact Ev.pos (by rw [w1]; omega) (T (.inr (decide_eq_true (by omega))))
  refine Ev.neg (by rw [w1]; omega) ?_
  by_cases c2 : g2 m y x = g2 m by' bx
  ·refine Ev.pos (by rw [w1]; omega) ?_
   by_cases c3 : Gr by' bx < Gr y x
   ·exact Ev.pos (by rw [w2]; omega) (T (.inr (decide_eq_true (by omega))))
   exact Ev.neg (by rw [w2]; omega) (K (fun h => by simp at h; omega))
  exact Ev.neg (by rw [w1]; omega) (K (fun h => by simp at h; omega))
 rw [if_neg lk] at T K
 refine Ev.neg lk (Ev.neg (by simp) ?_)
 by_cases c1 : Gr by' bx < Gr y x
 ·exact Ev.pos (by rw [w2]; omega) (T (.inr (decide_eq_true (by omega))))
 refine Ev.neg (by rw [w2]; omega) ?_
 by_cases c2 : Gr y x = Gr by' bx
 ·refine Ev.pos (by rw [w2]; omega) ?_
  by_cases c3 : g2 m y x < g2 m by' bx
  ·exact Ev.pos (by rw [w1]; omega) (T (.inr (decide_eq_true (by omega))))
  exact Ev.neg (by rw [w1]; omega) (K (fun h => by simp at h; omega))
 exact Ev.neg (by rw [w2]; omega) (K (fun h => by simp at h; omega))
theorem PK.choiceS (k : PK W H Gr E S p rb) {m n : Tb} (hm : ∀ b a, b < 10 → a < 10 → g2 n b a = g2 m b a + 1 ∧ -1 ≤ g2 m b a ∧ g2 m b a ≤ 101) {xs : List Spot} (hl : xs.length ≤ 1000) (hx : ∀ s ∈ xs, ∃ x y : Nat, x < W ∧ y < H ∧ s = sp x y) : ∀ i, i ≤ xs.length → ∀ (bx by' : Nat) (f : Bool), bx < W → by' < H → Ev (fun z => spec_l02Choice.l1 p g xs n z (sp bx by') f (i : Int)) (pickC g.Likes Gr m (xs.drop i) (sp bx by') f) := by
 have hW := k.hW
 have hH := k.hH
 refine upL ?_ ?_
 ·intro bx by' f _ _
  exact Ev.step (fun k => spec_l02Choice.l1.eq_2 _ _ _ _ _ _ _ _) (Ev.neg (by omega) (Ev.const (by rw [List.drop_length]; rfl)))
 intro i hi ih bx by' f hbx hby
 obtain ⟨x, y, hxW, hyH, e⟩ := hx _ (List.getElem_mem hi)
 have g0 := k.hG y x hxW hyH
 have g1 := k.hG by' bx hbx hby
 have f0 := hm y x (by omega) (by omega)
 have f1 := hm by' bx (by omega) (by omega)
 have a1 : getI n.l ((sp x y).Y) = some (gR n y) := getR n (by omega)
 have a2 : getI (gR n y).l ((sp x y).X) = some (g2 n y x) := getA _ (by omega)
 have b1 : getI n.l ((sp bx by').Y) = some (gR n by') := getR n (by omega)
 have b2 : getI (gR n by').l ((sp bx by').X) = some (g2 n by' bx) := getA _ (by omega)
 obtain ⟨a3, a4⟩ := k.grassAt hxW hyH
 obtain ⟨b3, b4⟩ := k.grassAt hbx hby
 have w1 : IntKind.i64.wrap (Gr y x) = Gr y x := w64 (by omega) (by omega)
 have w2 : IntKind.i64.wrap (Gr by' bx) = Gr by' bx := w64 (by omega) (by omega)
 have ihT := ih x y true hxW hyH
 have ihK := ih bx by' f hbx hby
 have gi := getI_nat hi
 rw [e] at gi
 rw [← wsucc hi (by omega)] at ihT ihK
 rw [List.drop_eq_getElem_cons hi, e]
 refine Ev.step (fun k => spec_l02Choice.l1.eq_2 _ _ _ _ _ _ _ _) (Ev.pos (by omega) (Ev.bind (Ev.const gi) (Ev.bind (Ev.const a3) (Ev.bind (Ev.const a4) (Ev.bind (Ev.const a1) (Ev.bind (Ev.const a2) ?_))))))
 by_cases z : Gr y x = 0
 ·rw [pickC, gC_sp, if_pos z]
  exact Ev.pos (by rw [w1]; exact z) ihK
 have T : (f = false ∨ bet g.Likes (Gr y x) (g2 m y x) (Gr by' bx) (g2 m by' bx) = true) → Ev (fun z => spec_l02Choice.l1 p g xs n z (sp x y) true (IntKind.i64.wrap ((i : Int) + 1))) (pickC g.Likes Gr m (sp x y :: xs.drop (i + 1)) (sp bx by') f) := fun c => by
   rw [pickC, gC_sp, gC_sp, gS_sp, gS_sp, if_neg z, if_pos c]; exact ihT
 have K : ¬ (f = false ∨ bet g.Likes (Gr y x) (g2 m y x) (Gr by' bx) (g2 m by' bx) = true) → Ev (fun z => spec_l02Choice.l1 p g xs n z (sp bx by') f (IntKind.i64.wrap ((i : Int) + 1))) (pickC g.Likes Gr m (sp x y :: xs.drop (i + 1)) (sp bx by') f) := fun c => by
   rw [pickC, gC_sp, gC_sp, gS_sp, gS_sp, if_neg z, if_neg c]; exact ihK
 refine Ev.neg (by rw [w1]; exact z) (Ev.bind (Ev.const b3) (Ev.bind (Ev.const b4) (Ev.bind (Ev.const b1) (Ev.bind (Ev.const b2) ?_))))
 refine Ev.bind (a := decide (Gr by' bx < Gr y x ∨ (Gr y x = Gr by' bx ∧ g2 n y x < g2 n by' bx))) ?_ ?_
 ·by_cases c1 : Gr by' bx < Gr y x
  ·exact Ev.pos (by rw [w1, w2]; exact c1) (Ev.const (by rw [decide_eq_true (.inl c1)]))
  refine Ev.neg (by rw [w1, w2]; exact c1) ?_
  by_cases c2 : Gr y x = Gr by' bx
  ·exact Ev.pos (by rw [w1, w2]; exact c2) (Ev.const (congrArg some (decide_eq_decide.2 ⟨fun h => .inr ⟨c2, h⟩, fun h => (h.resolve_left c1).2⟩)))
  exact Ev.neg (by rw [w1, w2]; exact c2) (Ev.const (congrArg some (decide_eq_false (by omega)).symm))
 by_cases lk : g.Likes = 1
 ·refine Ev.pos lk ?_
  unfold bet at T K
  rw [if_pos lk] at T K
  by_cases c1 : g2 n y x < g2 n by' bx
  ·refine Ev.pos c1 ?_
   have t := T (.inr (decide_eq_true (by omega)))
   cases f
   ·exact Ev.pos rfl t
   exact Ev.neg (by simp) t
  refine Ev.neg c1 ?_
  by_cases c2 : g2 n y x = g2 n by' bx
  ·refine Ev.pos c2 ?_
   cases f
   ·exact Ev.pos rfl (T (.inl rfl))
   refine Ev.neg (by simp) ?_
   by_cases c3 : Gr by' bx < Gr y x
   ·exact Ev.pos (by rw [w1, w2]; exact c3) (T (.inr (decide_eq_true (by omega))))
   exact Ev.neg (by rw [w1, w2]; exact c3) (K (fun h => by simp at h; omega))
  refine Ev.neg c2 ?_
  cases f
  ·exact Ev.pos rfl (T (.inl rfl))
  exact Ev.neg (by simp) (K (fun h => by simp at h; omega))
 refine Ev.neg lk ?_
 unfold bet at T K
 rw [if_neg lk] at T K
 cases f
 ·exact Ev.pos rfl (T (.inl rfl))
 refine Ev.neg (by simp) ?_
 by_cases c : Gr by' bx < Gr y x ∨ (Gr y x = Gr by' bx ∧ g2 n y x < g2 n by' bx)
 ·exact Ev.pos (decide_eq_true c) (T (.inr (decide_eq_true (by omega))))
 exact Ev.neg (by rw [decide_eq_false c]; simp) (K (fun h => by simp at h; omega))
theorem CG_in (k : PK W H Gr E S p rb) : ∀ s ∈ CG W H rb g, ∃ x y : Nat, x < W ∧ y < H ∧ s = sp x y := fun s hs => by
  obtain ⟨x, y, hx, hy, e, _⟩ := (k.RS_in _).1 hs
  exact ⟨x, y, hx, hy, e⟩
/-- The tables of steps from a cell. -/
structure TK (W H : Nat) (E S : Nat → Nat → Bool) (p : Pasture) (y x : Nat) (m n : Tb) : Prop where
  eI : Ev (fun k => impl_Pasture_far.f k p ([sp x y] : List Spot)) m
  eS : Ev (fun k => spec_l01Steps.f k p (sp x y)) n
  hm : ∀ b a, b < 10 → a < 10 → g2 n b a = g2 m b a + 1 ∧ -1 ≤ g2 m b a ∧ g2 m b a ≤ 101
  hr : ∀ b a, b < H → a < W → (0 ≤ g2 m b a ↔ Rt W H E S y x b a)
theorem PK.tables (k : PK W H Gr E S p rb) (hx : x < W) (hy : y < H) : ∃ m n : Tb, TK W H E S p y x m n := by
 obtain ⟨m, n, e1, e2, h1, h2⟩ := far_rt k.h k.hG k.hW k.hH hx hy
 exact ⟨m, n, e1, e2, h1, h2⟩
def chs (W H : Nat) (Gr : Nat → Nat → Int) (rb : Nat → Nat → Nat → Nat → Bool) (m : Tb) (g : Goat) : Spot × Bool := pickC g.Likes Gr m (CG W H rb g) (sp 0 0) false
theorem PK.choice2 (k : PK W H Gr E S p rb) (h : GK W H ax ay sx sy g) {m n : Tb} (t : TK W H E S p ay ax m n) : Ev (fun f => impl_Pasture_choice.f f p g) (chs W H Gr rb m g) ∧ Ev (fun f => spec_l02Choice.f f p g) (chs W H Gr rb m g) := by
 have hW := k.hW
 have hH := k.hH
 have hl : (CG W H rb g).length ≤ 1000 := by have := k.RS_len (qG rb g); unfold CG; omega
 have hi := k.choiceI (g := g) (m := m) (fun b a hb ha => (t.hm b a hb ha).2) hl (CG_in k) 0 (Nat.zero_le _) 0 0 false (by omega) (by omega)
 have hs := k.choiceS (g := g) t.hm hl (CG_in k) 0 (Nat.zero_le _) 0 0 false (by omega) (by omega)
 rw [List.drop_zero] at hi hs
 have ok : okT W H g := ⟨ax, ay, sx, sy, h⟩
 have eI := t.eI
 have eS := t.eS
 rw [← h.At] at eI eS
 exact ⟨eI.bind ((k.cellsI ok).bind (hi.bind (Ev.const rfl))), (k.cellsS ok).bind (eS.bind (hs.bind (Ev.const rfl)))⟩
theorem firstOf3 : Ev (fun k => impl_firstOf.f k ([0, 0, 0] : List Int)) 0 := by
 have w1 : IntKind.i64.wrap (0 + 1) = 1 := by decide
 have w2 : IntKind.i64.wrap (1 + 1) = 2 := by decide
 have w3 : IntKind.i64.wrap (2 + 1) = 3 := by decide
 have e4 : Ev (fun k => impl_firstOf.l1 ([0, 0, 0] : List Int) k (IntKind.i64.wrap (2 + 1))) (.inr ()) := Ev.step (fun k => impl_firstOf.l1.eq_2 _ _ _) (Ev.neg (by rw [w3]; simp) (Ev.const rfl))
 have e3 : Ev (fun k => impl_firstOf.l1 ([0, 0, 0] : List Int) k (IntKind.i64.wrap (1 + 1))) (.inr ()) := by
   rw [w2]
   exact Ev.step (fun k => impl_firstOf.l1.eq_2 _ _ _) (Ev.pos (by simp) (Ev.bind (a := 0) (Ev.const rfl) (Ev.neg (by simp) e4)))
 have e2 : Ev (fun k => impl_firstOf.l1 ([0, 0, 0] : List Int) k (IntKind.i64.wrap (0 + 1))) (.inr ()) := by
   rw [w1]
   exact Ev.step (fun k => impl_firstOf.l1.eq_2 _ _ _) (Ev.pos (by simp) (Ev.bind (a := 0) (Ev.const rfl) (Ev.neg (by simp) e3)))
 have e1 : Ev (fun k => impl_firstOf.l1 ([0, 0, 0] : List Int) k 0) (.inr ()) := Ev.step (fun k => impl_firstOf.l1.eq_2 _ _ _) (Ev.pos (by simp) (Ev.bind (a := 0) (Ev.const rfl) (Ev.neg (by simp) e2)))
 exact e1.bind (Ev.const rfl)
theorem PK.choiceOf (k : PK W H Gr E S p rb) (h : GK W H ax ay sx sy g) {m n : Tb} (t : TK W H E S p ay ax m n) : Ev (fun f => impl_ChoiceOf.f f p g 5) (if (chs W H Gr rb m g).2 = true then ((chs W H Gr rb m g).1, 0) else ((⟨0, 0⟩ : Spot), 6)) ∧ Ev (fun f => spec_ChoiceOf.f f p g 5) (if (chs W H Gr rb m g).2 = true then ((chs W H Gr rb m g).1, 0) else ((⟨0, 0⟩ : Spot), 6)) := by
 obtain ⟨e1, e2⟩ := k.choice2 h t
 have ok : okT W H g := ⟨ax, ay, sx, sy, h⟩
 have hc : Ev (fun f => impl_hungryCode.f f p g 5) 0 := (k.codeG (one_goat ok) (by simp)).bind (Ev.bind (a := true) (Ev.const rfl) (Ev.bind (a := 0) (Ev.const rfl) (Ev.bind (a := 0) (Ev.const rfl) (firstOf3.bind (Ev.const rfl)))))
 have hin : spec_l00In.f 5 0 100 = some true := by rw [l00In_eq]; rfl
 cases z : (chs W H Gr rb m g).2
 ·rw [if_neg (by simp)]
  have hA : Ev (fun f => spec_l02Asked.f f p g 5) 6 := (k.oneS ok).bind (Ev.bind (a := false) (Ev.pos rfl (Ev.bind (Ev.const hin) (Ev.const rfl))) (Ev.neg (by simp) (Ev.bind (a := false) (Ev.pos rfl (Ev.const rfl)) (Ev.neg (by simp) (Ev.pos rfl (e2.bind (Ev.pos (by rw [z]; rfl) (Ev.const rfl))))))))
  exact ⟨hc.bind (Ev.neg (by simp) (e1.bind (Ev.pos (by rw [z]; rfl) (Ev.const rfl)))), hA.bind (Ev.pos (by decide) (Ev.const rfl))⟩
 rw [if_pos rfl]
 have hA : Ev (fun f => spec_l02Asked.f f p g 5) 0 := (k.oneS ok).bind (Ev.bind (a := false) (Ev.pos rfl (Ev.bind (Ev.const hin) (Ev.const rfl))) (Ev.neg (by simp) (Ev.bind (a := false) (Ev.pos rfl (Ev.const rfl)) (Ev.neg (by simp) (Ev.pos rfl (e2.bind (Ev.neg (by rw [z]; simp) (Ev.const rfl))))))))
 exact ⟨hc.bind (Ev.neg (by simp) (e1.bind (Ev.neg (by rw [z]; simp) (Ev.const rfl)))), hA.bind (Ev.neg (by simp) (e2.bind (Ev.const rfl)))⟩
theorem PK.stepsB (k : PK W H Gr E S p rb) {m n : Tb} (t : TK W H E S p y x m n) (hx : x < W) (hy : y < H) (ha : a < W) (hb : b < H) (h0 : 0 ≤ g2 m b a) : Ev (fun f => impl_StepsBetween.f f p (sp x y) (sp a b)) (g2 m b a, 0) ∧ Ev (fun f => spec_StepsBetween.f f p (sp x y) (sp a b)) (g2 m b a, 0) := by
 have hW := k.hW
 have hH := k.hH
 have hm := t.hm b a (by omega) (by omega)
 have hcc := k.cellC (xs := [sp x y, sp a b]) (by simp) (fun s hs => by
   rcases List.mem_cons.1 hs with rfl | hs
   · exact ⟨x, y, hx, hy, rfl⟩
   · exact ⟨a, b, ha, hb, List.mem_singleton.1 hs⟩)
 have es : impl_steps_at.f m (sp a b) = some (g2 m b a) := steps_at (by omega) (by omega) (by omega)
 have a1 : getI n.l ((sp a b).Y) = some (gR n b) := getR n (by omega)
 have a2 : getI (gR n b).l ((sp a b).X) = some (g2 n b a) := getA _ (by omega)
 have hA : Ev (fun f => spec_l01Asked.f f p (sp x y) true) 0 := by
   refine (specOk_ev k.v).bind ?_
   rw [k.p_ok]
   exact Ev.neg (by simp) (Ev.bind (Ev.const (k.is_ hx hy).1) (Ev.neg (by simp) (Ev.neg (by simp) (Ev.const rfl))))
 refine ⟨hcc.bind (Ev.neg (by simp) (t.eI.bind (Ev.bind (Ev.const es) (Ev.neg (by omega) (Ev.bind (Ev.const es) (Ev.const rfl)))))), Ev.bind (Ev.const (k.is_ ha hb).1) (hA.bind (Ev.neg (by simp) (t.eS.bind (Ev.bind (Ev.const a1) (Ev.bind (Ev.const a2) (Ev.neg (by omega) (Ev.bind (Ev.const a1) (Ev.bind (Ev.const a2) (Ev.const ?_)))))))))⟩
 rw [hm.1, w64 (by omega) (by omega)]
 congr 2
 omega
/-! ### A goat that is tied -/
def tieG (g : Goat) : Goat := ⟨g.At, g.At, 2, g.Eats, g.Likes⟩
theorem GK.tie (h : GK W H ax ay sx sy g) : GK W H ax ay ax ay (tieG g) :=
  ⟨h.hax, h.hay, h.hax, h.hay, h.At, h.At, show (-1 : Int) ≤ 2 by omega, show (2 : Int) ≤ 200 by omega, h.e0, h.e1, h.l0, h.l1, fun c => absurd (show (2 : Int) = -1 from c) (by omega), fun _ => by rw [sq_self]; show (0 : Int) ≤ 2; omega⟩
theorem PK.tie (k : PK W H Gr E S p rb) (h : GK W H ax ay sx sy g) : Ev (fun f => impl_TieGoat.f f p g 2) (tieG g, 0) := by
 have ok : okT W H g := ⟨ax, ay, sx, sy, h⟩
 exact (k.codeG (one_goat ok) (by simp)).bind (Ev.bind (a := true) (Ev.const rfl) (Ev.bind (a := 0) (Ev.const rfl) (firstOf0.bind (Ev.neg (by simp) (Ev.const rfl)))))
theorem row_few {q : Nat → Bool} {c : Nat} (h : ∀ i, q i = true → c ≤ i + 1 ∧ i ≤ c + 1) (y : Nat) : ∀ n x, (rowF q y x n).length ≤ (c + 2) - max x (c - 1)
  | 0, x => by rw [rowF]; exact Nat.zero_le _
  | n + 1, x => by
    have ih := row_few h y n (x + 1)
    rw [rowF, List.length_append]
    cases z : q x
    · rw [if_neg (by simp), List.length_nil]; omega
    · have := h x z
      rw [if_pos rfl, List.length_singleton]; omega
theorem grid_few {q : Nat → Nat → Bool} {c d : Nat} (h : ∀ y x, q y x = true → (c ≤ x + 1 ∧ x ≤ c + 1) ∧ d ≤ y + 1 ∧ y ≤ d + 1) (W : Nat) : ∀ n y, (gridF q W y n).length ≤ 3 * ((d + 2) - max y (d - 1))
  | 0, y => by rw [gridF]; exact Nat.zero_le _
  | n + 1, y => by
    have ih := grid_few h W n (y + 1)
    have hr := row_few (q := q y) (c := c) (fun i hi => (h y i hi).1) y W 0
    rw [gridF, List.length_append]
    by_cases z : d ≤ y + 1 ∧ y ≤ d + 1
    · omega
    · have : rowF (q y) y 0 W = [] := rowF_none W 0 fun i _ _ => by
        cases e : q y i
        · rfl
        · exact absurd (h y i e).2 z
      rw [this, List.length_nil]; omega
theorem sq2 {d : Int} (h : d * d ≤ 2) : -1 ≤ d ∧ d ≤ 1 := by
 have e : d * d = ((d.natAbs * d.natAbs : Nat) : Int) := by rw [Int.natAbs_mul_self]
 by_cases c : d.natAbs ≤ 1
 ·omega
 have : 2 * 2 ≤ d.natAbs * d.natAbs := Nat.mul_le_mul (by omega) (by omega)
 omega
theorem PK.near9 (k : PK W H Gr E S p rb) (h : GK W H ax ay sx sy g) : (CG W H rb (tieG g)).length ≤ 9 := by
 have hq := h.tie.qe (rb := rb)
 unfold CG
 rw [hq]
 have := grid_few (q := fun y x => rb ay ax y x && decide ((tieG g).Rope = -1 ∨ sqI ax ay x y ≤ (tieG g).Rope)) (c := ax) (d := ay) (fun y x hyx => by
   rw [Bool.and_eq_true, decide_eq_true_eq] at hyx
   have h2 : sqI ax ay x y ≤ 2 := hyx.2.resolve_left (by show ¬ (2 : Int) = -1; omega)
   unfold sqI at h2
   have p1 : 0 ≤ ((ax : Int) - x) * ((ax : Int) - x) := by
     rw [show ((ax : Int) - x) * ((ax : Int) - x) = ((((ax : Int) - x).natAbs * ((ax : Int) - x).natAbs : Nat) : Int) by rw [Int.natAbs_mul_self]]; omega
   have p2 : 0 ≤ ((ay : Int) - y) * ((ay : Int) - y) := by
     rw [show ((ay : Int) - y) * ((ay : Int) - y) = ((((ay : Int) - y).natAbs * ((ay : Int) - y).natAbs : Nat) : Int) by rw [Int.natAbs_mul_self]]; omega
   have q1 := sq2 (d := (ax : Int) - x) (by omega)
   have q2 := sq2 (d := (ay : Int) - y) (by omega)
   omega) W H 0
 omega
end Go.Proofs.YtokanemjghfadaaGreatDoor
/-
  Plain law of FnTied: it answers yes.
-/
namespace Go.Proofs.YtokanemjghfadaaGreatDoor
open G
set_option linter.unusedVariables false
set_option linter.unusedSimpArgs false
variable {W H : Nat} {p q : Pasture} {Gr : Nat → Nat → Int} {E S : Nat → Nat → Bool} {y x b a sx sy ax ay : Nat} {r : Int} {rb : Nat → Nat → Nat → Nat → Bool} {g : Goat} {l : List Goat}
theorem PK.law2 (k : PK W H Gr E S p rb) (hl : l.length ≤ 20) (hg : ∀ g ∈ l, okT W H g) {i : Nat} (hi : i < l.length) (h : GK W H ax ay sx sy l[i]) : ∀ j, j ≤ (CG W H rb l[i]).length → ∀ v : Bool, Ev (fun f => laws_FnTied.l2 p l (i : Int) l[i] (CG W H rb l[i], 0) (CG W H rb l[i], 0) (gridF (rb ay ax) W 0 H, 0) f v (j : Int)) (.inr (v || ((CG W H rb l[i]).drop j).any fun s => decide (0 < gC Gr s))) := by
 have hW := k.hW
 have hH := k.hH
 have hlen : (CG W H rb l[i]).length ≤ 1000 := by have := k.RS_len (qG rb l[i]); unfold CG; omega
 have hlen2 := k.RS_len (rb ay ax)
 have h1 := h.hsx
 have h2 := h.hsy
 have r0 := h.r0
 have r1 := h.r1
 refine upL ?_ ?_
 ·intro v
  exact Ev.step (fun k => laws_FnTied.l2.eq_2 _ _ _ _ _ _ _ _ _ _) (Ev.neg (by show ¬ (((CG W H rb l[i]).length : Nat) : Int) < (((CG W H rb l[i]).length : Nat) : Int); omega) (Ev.const (by rw [List.drop_length]; simp)))
 intro j hj ih v
 obtain ⟨x, y, hx, hy, e, hq⟩ := (k.RS_in _).1 (List.getElem_mem hj)
 have e : (CG W H rb l[i])[j] = sp x y := e
 rw [h.qe, Bool.and_eq_true, decide_eq_true_eq] at hq
 have gj := getI_nat hj
 rw [e] at gj
 have ih := ih (v || decide (0 < Gr y x))
 rw [← wsucc hj (by omega)] at ih
 rw [List.drop_eq_getElem_cons hj, e, List.any_cons, gC_sp, ← Bool.or_assoc]
 have hs : Ev (fun f => spec_A2HasSpot.f f (gridF (rb ay ax) W 0 H) (sp x y)) true := by
   have := hasSpotB (xs := gridF (rb ay ax) W 0 H) (c := sp x y) (by omega)
   rwa [decide_eq_true ((k.RS_sp _ hx hy).2 hq.1)] at this
 obtain ⟨L, L1, L2, L3⟩ := k.who hg hl hx hy
 have hb : Ev (fun f => spec_A2Has.f f L (i : Int)) true := by
   have := hasB (xs := L) (c := (i : Int)) (by omega)
   rwa [decide_eq_true (L3 i hi (by rw [h.qe]; simp only [Bool.and_eq_true, decide_eq_true_eq]; exact hq))] at this
 obtain ⟨a3, a4⟩ := k.grassAt hx hy
 refine Ev.step (fun k => laws_FnTied.l2.eq_2 _ _ _ _ _ _ _ _ _ _) (Ev.pos (by show ((j : Nat) : Int) < (((CG W H rb l[i]).length : Nat) : Int); omega) (Ev.bind (Ev.const gj) (Ev.bind (Ev.const gj) (Ev.bind (a := false) ?_ (Ev.neg (by simp) (Ev.bind (a := v || decide (0 < Gr y x)) ?_ (Ev.bind (Ev.const gj) (L1.bind (Ev.neg (by simp) (hb.bind (Ev.neg (by simp) ih)))))))))))
 ·refine Ev.bind (Ev.const gj) (Ev.bind (Ev.const gj) (Ev.neg (by simp) (Ev.bind (Ev.const gj) (hs.bind (Ev.neg (by simp) ?_)))))
  by_cases c : 0 ≤ l[i].Rope
  ·refine Ev.pos c (Ev.const ?_)
   have := sqW (sx := x) (sy := y) (x := sx) (y := sy) (by omega) (by omega) (by omega) (by omega)
   rw [h.Stake, w64 (x := l[i].Rope) (by omega) (by omega)]
   show some (decide (l[i].Rope < IntKind.i64.wrap ((IntKind.i64.wrap ((IntKind.i64.wrap ((IntKind.i64.wrap (x : Int)) - (IntKind.i64.wrap (sx : Int)))) * (IntKind.i64.wrap ((IntKind.i64.wrap (x : Int)) - (IntKind.i64.wrap (sx : Int)))))) + (IntKind.i64.wrap ((IntKind.i64.wrap ((IntKind.i64.wrap (y : Int)) - (IntKind.i64.wrap (sy : Int)))) * (IntKind.i64.wrap ((IntKind.i64.wrap (y : Int)) - (IntKind.i64.wrap (sy : Int))))))))) = some false
   rw [this, ← sqI_sub, decide_eq_false]
   have := hq.2.resolve_left (by omega)
   omega
  exact Ev.neg c (Ev.const rfl)
 cases v
 ·exact Ev.neg (by simp) (Ev.bind (Ev.const gj) (Ev.bind (Ev.const gj) (Ev.bind (Ev.const a3) (Ev.bind (Ev.const a4) (Ev.const (by simp))))))
 exact Ev.pos rfl (Ev.const (by simp))
theorem PK.law3 (k : PK W H Gr E S p rb) (h : GK W H ax ay sx sy g) {m n : Tb} (t : TK W H E S p ay ax m n) {c : Spot} (hc : ∀ s ∈ CG W H rb g, gC Gr s ≠ 0 → beats g.Likes Gr m s c = false) : ∀ j, j ≤ (CG W H rb g).length → Ev (fun f => laws_FnTied.l3 p g (CG W H rb g, 0) (gS m c, 0) (gC Gr c) f (j : Int)) (.inr ()) := by
 have hW := k.hW
 have hH := k.hH
 have hlen : (CG W H rb g).length ≤ 1000 := by have := k.RS_len (qG rb g); unfold CG; omega
 have l0 := h.l0
 have l1 := h.l1
 refine upL ?_ ?_
 ·exact Ev.step (fun k => laws_FnTied.l3.eq_2 _ _ _ _ _ _ _) (Ev.neg (by show ¬ (((CG W H rb g).length : Nat) : Int) < (((CG W H rb g).length : Nat) : Int); omega) (Ev.const rfl))
 intro j hj ih
 obtain ⟨x, y, hx, hy, e, hq⟩ := (k.RS_in _).1 (List.getElem_mem hj)
 have e : (CG W H rb g)[j] = sp x y := e
 rw [h.qe, Bool.and_eq_true, decide_eq_true_eq] at hq
 have gj := getI_nat hj
 have hcj := hc _ (List.getElem_mem hj)
 rw [e] at gj hcj
 rw [← wsucc hj (by omega)] at ih
 have g0 := k.hG y x hx hy
 obtain ⟨a3, a4⟩ := k.grassAt hx hy
 have hst := (k.stepsB t h.hax h.hay hx hy ((t.hr y x hy hx).2 ((k.hr _ _ _ _).1 hq.1))).2
 rw [← h.At] at hst
 unfold beats at hcj
 rw [gC_sp, gS_sp] at hcj
 refine Ev.step (fun k => laws_FnTied.l3.eq_2 _ _ _ _ _ _ _) (Ev.pos (by show ((j : Nat) : Int) < (((CG W H rb g).length : Nat) : Int); omega) (Ev.bind (Ev.const gj) (Ev.bind (Ev.const gj) (Ev.bind (Ev.const a3) (Ev.bind (Ev.const a4) (Ev.bind (Ev.const gj) (hst.bind (Ev.neg (by simp) ?_))))))))
 by_cases z : 0 < Gr y x
 ·have hb := hcj (by omega)
  unfold bet at hb
  refine Ev.pos z ?_
  by_cases lk : g.Likes = 1
  ·rw [if_pos lk, decide_eq_false_iff_not] at hb
   refine Ev.neg (by omega) (Ev.pos lk (Ev.neg (by show ¬ g2 m y x < gS m c; omega) ?_))
   by_cases c2 : g2 m y x = gS m c
   ·exact Ev.pos c2 (Ev.neg (by omega) ih)
   exact Ev.neg c2 ih
  rw [if_neg lk, decide_eq_false_iff_not] at hb
  refine Ev.pos (by omega) (Ev.neg (by omega) ?_)
  by_cases c2 : Gr y x = gC Gr c
  ·exact Ev.pos c2 (Ev.neg (by show ¬ g2 m y x < gS m c; omega) (Ev.neg lk ih))
  exact Ev.neg c2 (Ev.neg lk ih)
 exact Ev.neg z ih
theorem PK.law1 (k : PK W H Gr E S p rb) (hl : l.length ≤ 20) (hg : ∀ g ∈ l, okT W H g) : ∀ i, i ≤ l.length → Ev (fun f => laws_FnTied.l1 p l (BL W H Gr, 0) f (i : Int)) (.inr ()) := by
 have hW := k.hW
 have hH := k.hH
 refine upL ?_ ?_
 ·exact Ev.step (fun k => laws_FnTied.l1.eq_2 _ _ _ _ _) (Ev.neg (by omega) (Ev.const rfl))
 intro i hi ih
 rw [← wsucc hi (by omega)] at ih
 have ok := hg _ (List.getElem_mem hi)
 have own := k.own ok
 obtain ⟨ax, ay, sx, sy, h⟩ := hg _ (List.getElem_mem hi)
 obtain ⟨c1, c2⟩ := k.cellsFor ok
 have hlen : (CG W H rb l[i]).length ≤ 1000 := by have := k.RS_len (qG rb l[i]); unfold CG; omega
 have hpos : 0 < (CG W H rb l[i]).length := List.length_pos_of_mem own
 have hyd := k.yardOf h.hax h.hay
 rw [← h.At] at hyd
 obtain ⟨m, n, t⟩ := k.tables h.hax h.hay
 obtain ⟨f1, f2⟩ := k.choiceOf h t
 have L2 := k.law2 hl hg hi h 0 (Nat.zero_le _) false
 rw [List.drop_zero, Bool.false_or] at L2
 obtain ⟨q1, q2, q3, _⟩ := pickC_ok l[i].Likes Gr m (CG W H rb l[i]) (sp 0 0) false
 have q1 : (chs W H Gr rb m l[i]).2 = _ := q1
 have q2 : (chs W H Gr rb m l[i]).2 = true → (false = true ∧ (chs W H Gr rb m l[i]).1 = _) ∨ ((chs W H Gr rb m l[i]).1 ∈ _ ∧ gC Gr (chs W H Gr rb m l[i]).1 ≠ 0) := q2
 have q3 : ∀ s ∈ CG W H rb l[i], gC Gr s ≠ 0 → beats l[i].Likes Gr m s (chs W H Gr rb m l[i]).1 = false := q3
 have hany : ((CG W H rb l[i]).any fun s => decide (0 < gC Gr s)) = (chs W H Gr rb m l[i]).2 := by
   rw [q1, Bool.false_or, Bool.eq_iff_iff, List.any_eq_true, List.any_eq_true]
   constructor
   · rintro ⟨s, hs, hz⟩
     exact ⟨s, hs, decide_eq_true (by have := of_decide_eq_true hz; omega)⟩
   · rintro ⟨s, hs, hz⟩
     obtain ⟨x, y, hx, hy, rfl⟩ := CG_in k s hs
     have := k.hG y x hx hy
     have hz := of_decide_eq_true hz
     rw [gC_sp] at hz
     exact ⟨_, hs, decide_eq_true (by rw [gC_sp]; omega)⟩
 rw [hany] at L2
 have hown : Ev (fun f => spec_A2HasSpot.f f (CG W H rb l[i]) l[i].At) true := by
   have := hasSpotB (xs := CG W H rb l[i]) (c := l[i].At) hlen
   rwa [decide_eq_true own] at this
 refine Ev.step (fun k => laws_FnTied.l1.eq_2 _ _ _ _ _) (Ev.pos (by omega) (Ev.bind (a := (.inr () : (Bool ⊕ Unit) ⊕ Unit)) ?_ ih))
 refine Ev.bind (Ev.const (getI_nat hi)) (c1.bind (c2.bind (hyd.bind (Ev.bind (a := false) (Ev.neg (by simp) (Ev.neg (by simp) (Ev.neg (by simp) (Ev.neg (by simp) (Ev.neg (by show ¬ (((CG W H rb l[i]).length : Nat) : Int) < 1; omega) (hown.bind (Ev.const rfl))))))) (Ev.neg (by simp) (L2.bind ?_))))))
 cases z : (chs W H Gr rb m l[i]).2
 ·rw [z, if_neg (by simp)] at f1 f2
  refine f1.bind (f2.bind ?_)
  exact Ev.bind (a := false) (Ev.neg (by simp) (Ev.neg (by simp) (Ev.neg (by simp) (Ev.pos (by simp) (Ev.const rfl))))) (Ev.neg (by simp) (Ev.pos (by simp) (Ev.const rfl)))
 rw [z, if_pos rfl] at f1 f2
 refine f1.bind (f2.bind ?_)
 rcases q2 z with ⟨hf, _⟩ | ⟨hin, hne⟩
 ·cases hf
 obtain ⟨x, y, hx, hy, e, hq⟩ := (k.RS_in _).1 hin
 rw [h.qe, Bool.and_eq_true, decide_eq_true_eq] at hq
 have h0 := (t.hr y x hy hx).2 ((k.hr _ _ _ _).1 hq.1)
 have hst := (k.stepsB t h.hax h.hay hx hy h0).1
 rw [← h.At, ← e, ← gS_sp, ← e] at hst
 have g0 := k.hG y x hx hy
 obtain ⟨a3, a4⟩ := k.grassAt hx hy
 have egr : gC Gr (chs W H Gr rb m l[i]).1 = Gr y x := by rw [e, gC_sp]
 rw [← e, ← egr] at a4
 rw [← e] at a3
 have hbare : Ev (fun f => spec_A2HasSpot.f f (BL W H Gr) (chs W H Gr rb m l[i]).1) false := by
   have hbl : (BL W H Gr).length ≤ 1000 := by have := k.RS_len (fun y x => decide (Gr y x = 0)); unfold BL; omega
   have := hasSpotB (xs := BL W H Gr) (c := (chs W H Gr rb m l[i]).1) hbl
   rwa [decide_eq_false (fun hb => by
     rw [e] at hb
     have := (k.RS_sp _ hx hy).1 hb
     rw [decide_eq_true_eq] at this
     omega)] at this
 have hmod : Ev (fun f => spec_A2HasSpot.f f (CG W H rb l[i]) (chs W H Gr rb m l[i]).1) true := by
   have := hasSpotB (xs := CG W H rb l[i]) (c := (chs W H Gr rb m l[i]).1) hlen
   rwa [decide_eq_true hin] at this
 have L3 := k.law3 h t q3 0 (Nat.zero_le _)
 have okt : okT W H (tieG l[i]) := ⟨_, _, _, _, h.tie⟩
 have d1 := (k.cellsFor okt).1
 have dpos : 0 < (CG W H rb (tieG l[i])).length := List.length_pos_of_mem (k.own okt)
 have d9 := k.near9 h
 refine Ev.bind (a := false) (Ev.neg (by simp) (Ev.neg (by simp) (Ev.neg (by simp) (Ev.neg (by simp) (Ev.const rfl))))) (Ev.neg (by simp) (Ev.neg (by simp) (hst.bind (Ev.bind (Ev.const a3) (Ev.bind (Ev.const a4) (Ev.bind (a := false) ?_ (Ev.neg (by simp) (L3.bind ((k.tie h).bind (Ev.bind (a := false) ?_ (Ev.neg (by simp) (d1.bind (Ev.neg (by simp) (Ev.neg (by show ¬ (((CG W H rb (tieG l[i])).length : Nat) : Int) < 1; omega) (Ev.neg (by show ¬ 9 < (((CG W H rb (tieG l[i])).length : Nat) : Int); omega) (Ev.const rfl))))))))))))))))
 ·exact Ev.neg (by simp) (Ev.neg (by omega) (hmod.bind (Ev.neg (by simp) (hbare.bind (Ev.const rfl)))))
 exact Ev.neg (by simp) (Ev.neg (by simp [tieG]) (Ev.neg (by simp [tieG]) (Ev.const (by simp [tieG]))))
theorem FnTied.pure (x0 : List Int) (hv0 : ∀ x ∈ x0, (inI .u8) x) (hb0 : x0.length * 1 ≤ 140737488351232) (x1 : List Int) (hv1 : ∀ x ∈ x1, (inI .u8) x) (hb1 : x1.length * 1 ≤ 140737488351232) : ∃ k, laws_FnTied.f k x0 x1 = some true := by
  refine Ev.get (r := true) ?_
  cases hlong : laws_a2Long.f x0 x1 with
  | none =>
    exfalso
    unfold laws_a2Long.f at hlong
    split at hlong <;> simp at hlong
  | some v =>
    cases v
    · refine Ev.bind (Ev.const hlong) (Ev.neg (by simp) ?_)
      obtain ⟨W, H, p, hW5, hH5, dr, ep⟩ := pasture_ev (byteL_of hv0)
      have hW : 1 ≤ W ∧ W ≤ 10 := by omega
      have hH : 1 ≤ H ∧ H ≤ 10 := by omega
      have hc1 := byteL_of hv1
      obtain ⟨l, el, hl, hg⟩ := goats_ev hc1 dr.w dr.h hW5 hH5
      have v := dr.V hW.2 hH.2
      have hp := dr.ok hW hH
      have eW : p.Wide.toNat = W := by rw [dr.w]; omega
      have eH : p.High.toNat = H := by rw [dr.h]; omega
      have h := PD.of v hp
      rw [eW, eH] at h
      have hg11 : ∀ y x, x < W → y < H → 0 ≤ gG p y x ∧ gG p y x ≤ 11 := fun y x hx hy => by
        have := dr.g y x (by omega) (by omega)
        omega
      generalize hGr : gG p = Gr at h hg11
      generalize (fun y x => btB (gA p.East y) x) = E at h
      generalize (fun y x => btB (gA p.South y) x) = S at h
      have hG : ∀ y x, x < W → y < H → 0 ≤ Gr y x ∧ Gr y x ≤ 1000 := fun y x hx hy => by have := hg11 y x hx hy; omega
      obtain ⟨rb, hr⟩ := rb_is W H E S
      have k : PK W H Gr E S p rb := ⟨h, hG, hW, hH, hr⟩
      have good : ∀ g ∈ l, good g := fun g hm => (hg g hm).good hW.2 hH.2
      obtain ⟨P, m1, m2, m3⟩ := k.meet2 hg hl
      obtain ⟨s1, s2⟩ := sameGoats_ev hl
      have L1 := k.law1 hl hg 0 (Nat.zero_le _)
      refine ep.bind (el.bind ((text_ev hl good).bind ((read_ev hl good).bind (m1.bind (m2.bind (k.bare.bind (Ev.bind (a := false) ?_ (Ev.neg (by simp) (L1.bind (Ev.const rfl))))))))))
      exact Ev.neg (by simp) (Ev.neg (by simp) (s1.bind (Ev.neg (by simp) (s2.bind (Ev.neg (by simp) ((k.validG hg hl).bind (Ev.neg (by simp) (Ev.neg (by simp) (Ev.neg (by simp) ((samePairs_ev m3).bind (Ev.neg (by simp) (Ev.const rfl))))))))))))
    · exact Ev.bind (Ev.const hlong) (Ev.pos rfl (Ev.const rfl))
end Go.Proofs.YtokanemjghfadaaGreatDoor
