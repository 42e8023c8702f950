/-
  Slices of slices whose inner slices are ends of rows that are the call's own: they are only read.
-/
import Derived.Test.YtplfdbfdalaefaaGreatDoorGW
import Derived.Test.YtplfdbfdalaefaaGreatDoorGX
namespace Go.Proofs.YtplfdbfdalaefaaGreatDoor
namespace G
set_option linter.unusedVariables false
set_option linter.unusedSimpArgs false
variable {P : Program} {F : Fm} {o : Oper} {w w' w0 : World} {X : Nat → Prop} {L R : List Chunk} {α : Type} {C : Cd α}
abbrev TH (α : Type) := Option Addr × Nat × List α
def tlD (C : Cd α) (lo : Nat) (D : List (TH α)) : List SH := D.map fun d => (cutA d.1 d.2.1 lo C.sz, d.2.1 - lo)
def tlX (lo : Nat) (D : List (TH α)) : List (List α) := D.map fun d => d.2.2.drop lo
def tlI (C : Cd α) (e : Nat) (D : List (TH α)) : List Chunk := D.map fun d => rowC C d.1 d.2.1 e d.2.2
def tlsC (C : Cd α) (lo : Nat) (A : Option Addr) (c E e : Nat) (D : List (TH α)) (xss : List (List α)) : Chunk where
  fp := (sepC (rowC csv A c E (hsl (tlD C lo D) xss) :: tlI C e D)).fp
  holds := fun w => (xss = tlX lo D ∧ ∀ d ∈ D, lo ≤ d.2.2.length) ∧ (sepC (rowC csv A c E (hsl (tlD C lo D) xss) :: tlI C e D)).holds w
  stable := fun h hs => ⟨h.1, (sepC _).stable h.2 hs⟩
  lt := fun h => (sepC _).lt h.2
theorem tl_len {lo : Nat} {D : List (TH α)} {xss : List (List α)} (h : xss = tlX lo D) : (tlD C lo D).length = xss.length := by
 subst h
 unfold tlD tlX
 rw [List.length_map, List.length_map]
theorem St.tlsO {lo : Nat} {A : Option Addr} {c E e : Nat} {D : List (TH α)} {xss : List (List α)} (h : St w0 X w (tlsC C lo A c E e D xss :: L) R) : (xss = tlX lo D ∧ ∀ d ∈ D, lo ≤ d.2.2.length) ∧ St w0 X w (rowC csv A c E (hsl (tlD C lo D) xss) :: (tlI C e D ++ L)) R := by
 have hh : (xss = tlX lo D ∧ ∀ d ∈ D, lo ≤ d.2.2.length) ∧ (sepC (rowC csv A c E (hsl (tlD C lo D) xss) :: tlI C e D)).holds w := h.holds _ (List.mem_cons_self ..)
 refine ⟨hh.1, St.sepO (l := rowC csv A c E (hsl (tlD C lo D) xss) :: tlI C e D) ⟨h.chg, fun d hd => ?_, fun d hd => ?_, ?_, h.reads, fun d hd x hx => ?_⟩⟩
 ·rcases List.mem_cons.1 hd with rfl | hd
  ·exact hh.2
  exact h.holds d (List.mem_cons_of_mem _ hd)
 ·rcases List.mem_cons.1 hd with rfl | hd
  ·exact fun b hb => h.own (tlsC C lo A c E e D xss) (List.mem_cons_self ..) b hb
  exact h.own d (List.mem_cons_of_mem _ hd)
 ·exact List.pairwise_cons.2 ⟨fun b hb => (List.pairwise_cons.1 h.apart).1 b hb, (List.pairwise_cons.1 h.apart).2⟩
 rcases List.mem_cons.1 hx with rfl | hx
 ·exact fun b hb hb' => h.away d hd (tlsC C lo A c E e D xss) (List.mem_cons_self ..) b hb hb'
 exact h.away d hd x (List.mem_cons_of_mem _ hx)
theorem St.tlsI {lo : Nat} {A : Option Addr} {c E e : Nat} {D : List (TH α)} {xss : List (List α)} (hl : xss = tlX lo D ∧ ∀ d ∈ D, lo ≤ d.2.2.length) (h : St w0 X w (rowC csv A c E (hsl (tlD C lo D) xss) :: (tlI C e D ++ L)) R) : St w0 X w (tlsC C lo A c E e D xss :: L) R := by
 have h := St.sepI (l := rowC csv A c E (hsl (tlD C lo D) xss) :: tlI C e D) h
 refine ⟨h.chg, fun d hd => ?_, fun d hd => ?_, ?_, h.reads, fun d hd x hx => ?_⟩
 ·rcases List.mem_cons.1 hd with rfl | hd
  ·exact ⟨hl, h.holds _ (List.mem_cons_self ..)⟩
  exact h.holds d (List.mem_cons_of_mem _ hd)
 ·rcases List.mem_cons.1 hd with rfl | hd
  ·exact fun b hb => h.own (sepC (rowC csv A c E (hsl (tlD C lo D) xss) :: tlI C e D)) (List.mem_cons_self ..) b hb
  exact h.own d (List.mem_cons_of_mem _ hd)
 ·exact List.pairwise_cons.2 ⟨fun b hb => (List.pairwise_cons.1 h.apart).1 b hb, (List.pairwise_cons.1 h.apart).2⟩
 rcases List.mem_cons.1 hx with rfl | hx
 ·exact fun b hb hb' => h.away d hd (sepC (rowC csv A c E (hsl (tlD C lo D) xss) :: tlI C e D)) (List.mem_cons_self ..) b hb hb'
 exact h.away d hd x (List.mem_cons_of_mem _ hx)
theorem St.tlsRo {lo : Nat} {A : Option Addr} {c E e i : Nat} {D : List (TH α)} {xss : List (List α)} (h : St w0 X w L R) (hi : L[i]? = some (tlsC C lo A c E e D xss)) : (rosC C A c (tlD C lo D) xss).holds w := by
  obtain ⟨⟨hx, hl⟩, hs, _⟩ := h.at_ hi
  refine ⟨tl_len hx, rowAt_ro (hs _ (List.mem_cons_self ..)), fun i p xs hp hxs => ?_⟩
  subst hx
  unfold tlD at hp
  unfold tlX at hxs
  rw [List.getElem?_map] at hp hxs
  cases hd : D[i]? with
  | none => rw [hd] at hp; cases hp
  | some d =>
    rw [hd] at hp hxs
    obtain rfl := Option.some.inj hp
    obtain rfl := Option.some.inj hxs
    have hm := List.mem_of_getElem? hd
    have hr : RowAt w d.1 d.2.1 e C.sz d.2.2.length (flat C d.2.2) := hs (rowC C d.1 d.2.1 e d.2.2) (List.mem_cons_of_mem _ (List.mem_map.2 ⟨d, hm, rfl⟩))
    have hle := hl d hm
    have := hr.le
    exact ⟨(RowAt.rd hr).part hle hr.le, by rw [List.length_drop]; show _ ≤ d.2.1 - lo; omega⟩
theorem Ef.litT0 {U : List (Nat × TypeDesc)} {UI : List (Nat × TI)} (hU : okU P U) (hI : okI P UI) {t E e lo : Nat} {ti : TI} (hS : St w0 X w L R)
 (ho : o.op = .buildSlice t 0 #[]) (ht : lkT U t = some (.slice E)) (hti : lkT UI E = some ti) (hs : ti.size = 1) (C : Cd α) :
 Ef P F w o fun v w' => ∃ A', v = .slice A' ([] : List (List α)).length ([] : List (List α)).length ∧ St w0 X w' (L ++ [tlsC C lo A' ([] : List (List α)).length E e [] []]) R := by
 obtain ⟨v, w1, hr, hx, A', rfl, h1⟩ := Ef.lit (P := P) (F := F) (o := o) hU hI hS ho ht hti (C := csv) (by rw [hs]; rfl) (vs := []) rfl rfl [] rfl (by rw [hs]; rfl) (by rw [hs]; rfl) rfl
 refine ⟨_, w1, hr, hx, A', rfl, ?_⟩
 have h2 := h1.takeI (i := L.length) (c := rowC csv A' 0 E []) (by simp)
 have h3 : St w0 X w1 (tlsC C lo A' 0 E e [] [] :: (L ++ [rowC csv A' 0 E []]).set L.length gone) R := St.tlsI ⟨rfl, by simp⟩ h2
 have h4 := h3.putI (i := L.length) (by simp)
 simpa using h4
theorem Ef.litT1 {U : List (Nat × TypeDesc)} {UI : List (Nat × TI)} (hU : okU P U) (hI : okI P UI) {t E e k c lo : Nat} {ti : TI} {x : Operand} {A : Option Addr} {xs : List α} (hS : St w0 X w L R) (hk : L[k]? = some (rowC C A c e xs)) (hlo : lo ≤ xs.length)
 (ho : o.op = .buildSlice t 1 #[(0, x)]) (ht : lkT U t = some (.slice E)) (hti : lkT UI E = some ti) (hs : ti.size = 1) (hx : evO F x = some (.slice (cutA A c lo C.sz) (xs.length - lo) (c - lo))) :
 Ef P F w o fun v w' => ∃ A', v = .slice A' [xs.drop lo].length [xs.drop lo].length ∧ St w0 X w' (L.set k gone ++ [tlsC C lo A' [xs.drop lo].length E e [(A, c, xs)] [xs.drop lo]]) R := by
 have hx' : evO F x = some (.slice (cutA A c lo C.sz) (xs.drop lo).length (c - lo)) := by rw [List.length_drop]; exact hx
 obtain ⟨v, w1, hr, hxx, A', rfl, h1⟩ := Ef.lit (P := P) (F := F) (o := o) hU hI hS ho ht hti (C := csv) (by rw [hs]; rfl) (vs := [.slice (cutA A c lo C.sz) (xs.drop lo).length (c - lo)]) (by simp [allV, hx']) rfl [(cutA A c lo C.sz, (xs.drop lo).length, c - lo)] rfl (by rw [hs]; rfl) (by rw [hs]; rfl) rfl
 refine ⟨_, w1, hr, hxx, A', rfl, ?_⟩
 have hkl := (List.getElem?_eq_some_iff.1 hk).1
 have h2 := h1.takeI (i := k) (c := rowC C A c e xs) (by rw [List.getElem?_append_left hkl]; exact hk)
 have e1 : (L ++ [rowC csv A' [(cutA A c lo C.sz, (xs.drop lo).length, c - lo)].length E [(cutA A c lo C.sz, (xs.drop lo).length, c - lo)]]).set k gone = L.set k gone ++ [rowC csv A' 1 E [(cutA A c lo C.sz, (xs.drop lo).length, c - lo)]] := by rw [List.set_append_left _ _ hkl]; rfl
 rw [e1] at h2
 have h3 := h2.takeI (i := (L.set k gone).length + 1) (c := rowC csv A' 1 E [(cutA A c lo C.sz, (xs.drop lo).length, c - lo)]) (by simp)
 have e2 : (rowC C A c e xs :: (L.set k gone ++ [rowC csv A' 1 E [(cutA A c lo C.sz, (xs.drop lo).length, c - lo)]])).set ((L.set k gone).length + 1) gone = rowC C A c e xs :: (L.set k gone ++ [gone]) := by
   rw [List.set_cons_succ, List.set_append_right _ _ (Nat.le_refl _), Nat.sub_self]; rfl
 rw [e2] at h3
 have h4 : St w0 X w1 (tlsC C lo A' 1 E e [(A, c, xs)] [xs.drop lo] :: (L.set k gone ++ [gone])) R := St.tlsI ⟨rfl, fun d hd => by obtain rfl := List.mem_singleton.1 hd; exact hlo⟩ h3
 have h5 := h4.putI (i := (L.set k gone).length) (by simp)
 rw [List.set_append_right _ _ (Nat.le_refl _), Nat.sub_self] at h5
 exact h5
theorem tlD_app {lo : Nat} {D D' : List (TH α)} : tlD C lo (D ++ D') = tlD C lo D ++ tlD C lo D' := List.map_append
theorem tlX_app {lo : Nat} {D D' : List (TH α)} : tlX lo (D ++ D') = tlX lo D ++ tlX lo D' := List.map_append
theorem tlI_app {e : Nat} {D D' : List (TH α)} : tlI C e (D ++ D') = tlI C e D ++ tlI C e D' := List.map_append
theorem Ew.appendT {U : List (Nat × TypeDesc)} {UI : List (Nat × TI)} (hU : okU P U) (hI : okI P UI) {t E e i j c c2 lo : Nat} {ti : TI} {x y : Operand} {cl : Call} {A A2 : Option Addr} {D D2 : List (TH α)} {xss yss : List (List α)} (hS : St w0 X w L R)
 (hi : L[i]? = some (tlsC C lo A c E e D xss)) (hj : L[j]? = some (tlsC C lo A2 c2 E e D2 yss)) (hij : Nat.beq i j = false)
 (ho : o.op = .call cl) (hcl : cl.callee = .builtin .append) (hca : cl.args = #[x, y]) (hct : cl.argTypes = #[t, t])
 (ht : lkT U t = some (.slice E)) (hti : lkT UI E = some ti) (hs : ti.size = 1) (hzs : ti.zero.cells.size = ti.size) (hb : Nat.ble ti.bytes 32768 = true)
 (hx : evO F x = some (.slice A xss.length c)) (hy : evO F y = some (.slice A2 yss.length c2)) (h63 : xss.length + yss.length ≤ 4294967296) :
 Ew P F w o fun v w' => ∃ A' c', v = .slice A' (xss ++ yss).length c' ∧ St w0 X w' ((L.set i (tlsC C lo A' c' E e (D ++ D2) (xss ++ yss))).set j gone) R := by
 have hne := Nat.ne_of_beq_eq_false hij
 have hil := (List.getElem?_eq_some_iff.1 hi).1
 have hjl := (List.getElem?_eq_some_iff.1 hj).1
 have h1 := hS.takeI hi
 have hj1 : (tlsC C lo A c E e D xss :: L.set i gone)[j + 1]? = some (tlsC C lo A2 c2 E e D2 yss) := by
   rw [List.getElem?_cons_succ, List.getElem?_set_ne hne]; exact hj
 have h2 := h1.takeI hj1
 rw [List.set_cons_succ] at h2
 obtain ⟨⟨l2, m2⟩, h3⟩ := h2.tlsO
 have h4 : St w0 X w (tlsC C lo A c E e D xss :: (rowC csv A2 c2 E (hsl (tlD C lo D2) yss) :: (tlI C e D2 ++ (L.set i gone).set j gone))) R := h3.perm (by
   have : (rowC csv A2 c2 E (hsl (tlD C lo D2) yss) :: (tlI C e D2 ++ tlsC C lo A c E e D xss :: (L.set i gone).set j gone)).Perm (tlsC C lo A c E e D xss :: (rowC csv A2 c2 E (hsl (tlD C lo D2) yss) :: (tlI C e D2 ++ (L.set i gone).set j gone))) := List.perm_middle (l₁ := rowC csv A2 c2 E (hsl (tlD C lo D2) yss) :: tlI C e D2)
   exact this)
 obtain ⟨⟨l1, m1⟩, h5⟩ := h4.tlsO
 have hl1 := hsl_len (tl_len (C := C) l1)
 have hl2 := hsl_len (tl_len (C := C) l2)
 have ho2 : RowAt w A2 c2 E csv.sz (hsl (tlD C lo D2) yss).length (flat csv (hsl (tlD C lo D2) yss)) := h5.holds (rowC csv A2 c2 E (hsl (tlD C lo D2) yss)) (List.mem_cons_of_mem _ (List.mem_append_right _ (List.mem_cons_self ..)))
 obtain ⟨v, w1, hr, A', c', rfl, h6⟩ := Ew.append (P := P) (F := F) (o := o) hU hI (C := csv) (xs := hsl (tlD C lo D) xss) (ys := hsl (tlD C lo D2) yss) h5 (i := 0) rfl ho hcl hca hct ht hti (by rw [hs]; rfl) hzs (by rw [hs]; rfl) hb (by rw [hl1]; exact hx) (by rw [hl2]; exact hy) (RowAt.rd ho2) (by rw [hl1, hl2]; exact h63)
 have hD : (tlD C lo (D ++ D2)).length = (xss ++ yss).length := by rw [tlD_app, List.length_append, List.length_append, tl_len l1, tl_len l2]
 rw [List.set_cons_zero, ← hsl_app (tl_len l1), ← tlD_app] at h6
 refine ⟨_, w1, hr, A', c', by rw [← hsl_app (tl_len l1), ← tlD_app, hsl_len hD], ?_⟩
 have h7 : St w0 X w1 (rowC csv A' c' E (hsl (tlD C lo (D ++ D2)) (xss ++ yss)) :: (tlI C e (D ++ D2) ++ (rowC csv A2 c2 E (hsl (tlD C lo D2) yss) :: (L.set i gone).set j gone))) R := h6.perm (by
   rw [tlI_app]
   refine List.Perm.cons _ ?_
   rw [List.append_assoc]
   refine List.Perm.append_left _ ?_
   exact (List.perm_middle (l₁ := tlI C e D2)).symm)
 have h8 := St.tlsI ⟨by rw [l1, l2, tlX_app], fun d hd => (List.mem_append.1 hd).elim (m1 d) (m2 d)⟩ h7
 have h9 := (h8.perm (List.Perm.swap ..)).tail
 have hgi : ((L.set i gone).set j gone)[i]? = some gone := by
   rw [List.getElem?_set_ne (Ne.symm hne), List.getElem?_set_self hil]
 have h10 := h9.putI hgi
 rw [List.set_comm _ _ (Ne.symm hne), List.set_set] at h10
 exact h10
end G
end Go.Proofs.YtplfdbfdalaefaaGreatDoor
