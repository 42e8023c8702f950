/-
  Slices of slices that are the call's own, or that are read.
-/
import Derived.Test.YtegibnmfiogebaaGreatDoorGN
namespace Go.Proofs.YtegibnmfiogebaaGreatDoor
namespace G
set_option linter.unusedVariables false
set_option linter.unusedSimpArgs false
variable {P : Program} {F : Fm} {o : Oper} {w w' w0 : World} {X : Nat → Prop} {L R : List Chunk} {α : Type} {C : Cd α}
theorem St.perm {L' : List Chunk} (h : St w0 X w L R) (hp : L.Perm L') : St w0 X w L' R :=
  ⟨h.chg, fun c hc => h.holds c (hp.mem_iff.2 hc), fun c hc => h.own c (hp.mem_iff.2 hc), hp.pairwise h.apart (fun {a b} hab k hk hk' => hab k hk' hk), h.reads, fun c hc d hd => h.away c hc d (hp.mem_iff.2 hd)⟩
theorem set_perm {c : Chunk} : ∀ {L : List Chunk} {i : Nat}, i < L.length → (L.set i c).Perm (c :: L.eraseIdx i)
  | [], i, h => by simp at h
  | a :: L, 0, h => List.Perm.refl _
  | a :: L, i + 1, h => ((set_perm (L := L) (i := i) (by simpa using h)).cons a).trans (List.Perm.swap ..)
theorem St.consGone (h : St w0 X w L R) : St w0 X w (gone :: L) R :=
  ⟨h.chg, fun c hc => by
    rcases List.mem_cons.1 hc with rfl | hc
    · trivial
    · exact h.holds c hc, fun c hc => by
    rcases List.mem_cons.1 hc with rfl | hc
    · exact fun b hb => hb.elim
    · exact h.own c hc, List.pairwise_cons.2 ⟨fun d _ k hk => hk.elim, h.apart⟩, h.reads, fun c hc d hd => by
    rcases List.mem_cons.1 hd with rfl | hd
    · exact fun k _ hk => hk.elim
    · exact h.away c hc d hd⟩
theorem St.tail {c : Chunk} (h : St w0 X w (c :: L) R) : St w0 X w L R :=
  ⟨h.chg, fun d hd => h.holds d (List.mem_cons_of_mem _ hd), fun d hd => h.own d (List.mem_cons_of_mem _ hd), (List.pairwise_cons.1 h.apart).2, h.reads, fun d hd e he => h.away d hd e (List.mem_cons_of_mem _ he)⟩
theorem St.takeI (h : St w0 X w L R) {i : Nat} {c : Chunk} (hi : L[i]? = some c) : St w0 X w (c :: L.set i gone) R := by
 obtain ⟨hl, rfl⟩ := List.getElem?_eq_some_iff.1 hi
 have h1 : L.Perm (L[i] :: L.eraseIdx i) := by
   have := set_perm (c := L[i]) hl
   rwa [List.set_getElem_self] at this
 have h2 := (h.perm h1).consGone
 exact (h2.perm (List.Perm.swap ..)).perm (((set_perm (c := gone) hl).symm).cons _)
theorem St.putI {c : Chunk} (h : St w0 X w (c :: L) R) {i : Nat} (hi : L[i]? = some gone) : St w0 X w (L.set i c) R := by
 obtain ⟨hl, e⟩ := List.getElem?_eq_some_iff.1 hi
 have h1 : L.Perm (gone :: L.eraseIdx i) := by
   have := set_perm (c := L[i]) hl
   rw [List.set_getElem_self, e] at this
   exact this
 exact (((h.perm (h1.cons c)).perm (List.Perm.swap ..)).tail).perm (set_perm hl).symm
def sepC (l : List Chunk) : Chunk where
  fp := fun k => ∃ d ∈ l, d.fp k
  holds := fun w => (∀ d ∈ l, d.holds w) ∧ l.Pairwise fun (a b : Chunk) => ∀ k : Nat, a.fp k → ¬ b.fp k
  stable := fun {w w'} h hs => ⟨fun d hd => d.stable (h.1 d hd) fun b hb => hs b ⟨d, hd, hb⟩, h.2⟩
  lt := fun {w} h k ⟨d, hd, hk⟩ => d.lt (h.1 d hd) k hk
theorem St.sepO {l : List Chunk} (h : St w0 X w (sepC l :: L) R) : St w0 X w (l ++ L) R := by
 have hh : (∀ d ∈ l, d.holds w) ∧ l.Pairwise fun a b => ∀ k, a.fp k → ¬ b.fp k := h.holds _ (List.mem_cons_self ..)
 have hp := List.pairwise_cons.1 h.apart
 refine ⟨h.chg, fun c hc => ?_, fun c hc k hk => ?_, List.pairwise_append.2 ⟨hh.2, hp.2, fun a ha b hb k hk hk' => hp.1 b hb k ⟨a, ha, hk⟩ hk'⟩, h.reads, fun c hc d hd k hk hk' => ?_⟩
 ·rcases List.mem_append.1 hc with hc | hc
  ·exact hh.1 c hc
  exact h.holds c (List.mem_cons_of_mem _ hc)
 ·rcases List.mem_append.1 hc with hc | hc
  ·exact h.own _ (List.mem_cons_self ..) k ⟨c, hc, hk⟩
  exact h.own c (List.mem_cons_of_mem _ hc) k hk
 rcases List.mem_append.1 hd with hd | hd
 ·exact h.away c hc _ (List.mem_cons_self ..) k hk ⟨d, hd, hk'⟩
 exact h.away c hc d (List.mem_cons_of_mem _ hd) k hk hk'
theorem St.sepI {l : List Chunk} (h : St w0 X w (l ++ L) R) : St w0 X w (sepC l :: L) R := by
 have hp := List.pairwise_append.1 h.apart
 refine ⟨h.chg, fun c hc => ?_, fun c hc k hk => ?_, List.pairwise_cons.2 ⟨fun b hb k ⟨a, ha, hk⟩ hk' => hp.2.2 a ha b hb k hk hk', hp.2.1⟩, h.reads, fun c hc d hd k hk hk' => ?_⟩
 ·rcases List.mem_cons.1 hc with rfl | hc
  ·exact ⟨fun d hd => h.holds d (List.mem_append_left _ hd), hp.1⟩
  exact h.holds c (List.mem_append_right _ hc)
 ·rcases List.mem_cons.1 hc with rfl | hc
  ·obtain ⟨d, hd, hk⟩ := hk
   exact h.own d (List.mem_append_left _ hd) k hk
  exact h.own c (List.mem_append_right _ hc) k hk
 rcases List.mem_cons.1 hd with rfl | hd
 ·obtain ⟨e, he, hk'⟩ := hk'
  exact h.away c hc e (List.mem_append_left _ he) k hk hk'
 exact h.away c hc d (List.mem_append_right _ hd) k hk hk'
abbrev SH := Option Addr × Nat
def csv : Cd (Option Addr × Nat × Nat) := ⟨1, fun x => [.slice x.1 x.2.1 x.2.2], fun _ => rfl, fun x u hu => by obtain rfl := List.mem_singleton.1 hu; rfl⟩
def hsl (D : List SH) (xss : List (List α)) : List (Option Addr × Nat × Nat) := List.zipWith (fun p xs => (p.1, xs.length, p.2)) D xss
def innC (C : Cd α) (e : Nat) (D : List SH) (xss : List (List α)) : List Chunk := List.zipWith (fun p xs => rowC C p.1 p.2 e xs) D xss
theorem hsl_len {D : List SH} {xss : List (List α)} (h : D.length = xss.length) : (hsl D xss).length = xss.length := by
 unfold hsl
 rw [List.length_zipWith, h, Nat.min_self]
theorem hsl_app {D D' : List SH} {xss yss : List (List α)} (h : D.length = xss.length) : hsl (D ++ D') (xss ++ yss) = hsl D xss ++ hsl D' yss := List.zipWith_append h
theorem innC_app {e : Nat} {D D' : List SH} {xss yss : List (List α)} (h : D.length = xss.length) : innC C e (D ++ D') (xss ++ yss) = innC C e D xss ++ innC C e D' yss := List.zipWith_append h
theorem hsl_at {D : List SH} {xss : List (List α)} (h : D.length = xss.length) {y : Int} {xs : List α} (hx : getI xss y = some xs) : ∃ A c, getI (hsl D xss) y = some (A, xs.length, c) ∧ D[y.toNat]? = some (A, c) ∧ xss[y.toNat]? = some xs := by
 obtain ⟨⟨h0, h1⟩, h2⟩ := getI_some hx
 have hl : y.toNat < D.length := by omega
 refine ⟨D[y.toNat].1, D[y.toNat].2, ?_, List.getElem?_eq_getElem hl, h2⟩
 unfold getI hsl
 rw [if_pos h0, List.getElem?_zipWith, List.getElem?_eq_getElem hl, h2]
def rowsC (C : Cd α) (A : Option Addr) (c E e : Nat) (D : List SH) (xss : List (List α)) : Chunk where
  fp := (sepC (rowC csv A c E (hsl D xss) :: innC C e D xss)).fp
  holds := fun w => D.length = xss.length ∧ (sepC (rowC csv A c E (hsl D xss) :: innC C e D xss)).holds w
  stable := fun h hs => ⟨h.1, (sepC _).stable h.2 hs⟩
  lt := fun h => (sepC _).lt h.2
theorem St.rowsO {A : Option Addr} {c E e : Nat} {D : List SH} {xss : List (List α)} (h : St w0 X w (rowsC C A c E e D xss :: L) R) : D.length = xss.length ∧ St w0 X w (rowC csv A c E (hsl D xss) :: (innC C e D xss ++ L)) R := by
 have hh : D.length = xss.length ∧ (sepC (rowC csv A c E (hsl D xss) :: innC C e D xss)).holds w := h.holds _ (List.mem_cons_self ..)
 refine ⟨hh.1, St.sepO (l := rowC csv A c E (hsl D xss) :: innC C e D xss) ⟨h.chg, fun d hd => ?_, fun d hd => ?_, ?_, h.reads, fun d hd x hx => ?_⟩⟩
 ·rcases List.mem_cons.1 hd with rfl | hd
  ·exact hh.2
  exact h.holds d (List.mem_cons_of_mem _ hd)
 ·rcases List.mem_cons.1 hd with rfl | hd
  ·exact fun b hb => h.own (rowsC C A c E e D xss) (List.mem_cons_self ..) b hb
  exact h.own d (List.mem_cons_of_mem _ hd)
 ·exact List.pairwise_cons.2 ⟨fun b hb => (List.pairwise_cons.1 h.apart).1 b hb, (List.pairwise_cons.1 h.apart).2⟩
 rcases List.mem_cons.1 hx with rfl | hx
 ·exact fun b hb hb' => h.away d hd (rowsC C A c E e D xss) (List.mem_cons_self ..) b hb hb'
 exact h.away d hd x (List.mem_cons_of_mem _ hx)
theorem St.rowsI {A : Option Addr} {c E e : Nat} {D : List SH} {xss : List (List α)} (hl : D.length = xss.length) (h : St w0 X w (rowC csv A c E (hsl D xss) :: (innC C e D xss ++ L)) R) : St w0 X w (rowsC C A c E e D xss :: L) R := by
 have h := St.sepI (l := rowC csv A c E (hsl D xss) :: innC C e D xss) h
 refine ⟨h.chg, fun d hd => ?_, fun d hd => ?_, ?_, h.reads, fun d hd x hx => ?_⟩
 ·rcases List.mem_cons.1 hd with rfl | hd
  ·exact ⟨hl, h.holds _ (List.mem_cons_self ..)⟩
  exact h.holds d (List.mem_cons_of_mem _ hd)
 ·rcases List.mem_cons.1 hd with rfl | hd
  ·exact fun b hb => h.own (sepC (rowC csv A c E (hsl D xss) :: innC C e D xss)) (List.mem_cons_self ..) b hb
  exact h.own d (List.mem_cons_of_mem _ hd)
 ·exact List.pairwise_cons.2 ⟨fun b hb => (List.pairwise_cons.1 h.apart).1 b hb, (List.pairwise_cons.1 h.apart).2⟩
 rcases List.mem_cons.1 hx with rfl | hx
 ·exact fun b hb hb' => h.away d hd (sepC (rowC csv A c E (hsl D xss) :: innC C e D xss)) (List.mem_cons_self ..) b hb hb'
 exact h.away d hd x (List.mem_cons_of_mem _ hx)
theorem rows_facts {A : Option Addr} {c E e : Nat} {D : List SH} {xss : List (List α)} (h : (rowsC C A c E e D xss).holds w) : D.length = xss.length ∧ RowAt w A c E csv.sz (hsl D xss).length (flat csv (hsl D xss)) ∧ ∀ (i : Nat) p xs, D[i]? = some p → xss[i]? = some xs → RowAt w p.1 p.2 e C.sz xs.length (flat C xs) := by
 refine ⟨h.1, h.2.1 _ (List.mem_cons_self ..), fun i p xs hp hx => h.2.1 (rowC C p.1 p.2 e xs) (List.mem_cons_of_mem _ (List.mem_of_getElem? (i := i) ?_))⟩
 unfold innC
 rw [List.getElem?_zipWith, hp, hx]
def rosC (C : Cd α) (A : Option Addr) (c : Nat) (D : List SH) (xss : List (List α)) : Chunk where
  fp := fun k => (roC csv A c (hsl D xss)).fp k ∨ ∃ (i : Nat) (p : SH) (xs : List α), D[i]? = some p ∧ xss[i]? = some xs ∧ (roC C p.1 p.2 xs).fp k
  holds := fun w => D.length = xss.length ∧ (roC csv A c (hsl D xss)).holds w ∧ ∀ (i : Nat) (p : SH) (xs : List α), D[i]? = some p → xss[i]? = some xs → (roC C p.1 p.2 xs).holds w
  stable := fun {w w'} h hs => ⟨h.1, (roC csv A c _).stable h.2.1 fun b hb => hs b (.inl hb), fun i p xs hp hx => (roC C p.1 p.2 xs).stable (h.2.2 i p xs hp hx) fun b hb => hs b (.inr ⟨i, p, xs, hp, hx, hb⟩)⟩
  lt := fun {w} h k hk => by
    rcases hk with hk | ⟨i, p, xs, hp, hx, hk⟩
    · exact (roC csv A c _).lt h.2.1 k hk
    · exact (roC C p.1 p.2 xs).lt (h.2.2 i p xs hp hx) k hk
theorem rowAt_ro {C : Cd α} {A : Option Addr} {c T : Nat} {xs : List α} (h : RowAt w A c T C.sz xs.length (flat C xs)) : (roC C A c xs).holds w := ⟨RowAt.rd h, h.le⟩
theorem St.rowsRo {A : Option Addr} {c E e i : Nat} {D : List SH} {xss : List (List α)} (h : St w0 X w L R) (hi : L[i]? = some (rowsC C A c E e D xss)) : (rosC C A c D xss).holds w := by
 obtain ⟨h1, h2, h3⟩ := rows_facts (h.at_ hi)
 exact ⟨h1, rowAt_ro h2, fun i p xs hp hx => rowAt_ro (h3 i p xs hp hx)⟩
theorem St.rosH {A : Option Addr} {c i : Nat} {D : List SH} {xss : List (List α)} (h : St w0 X w L R) (hi : R[i]? = some (rosC C A c D xss)) : (rosC C A c D xss).holds w := h.ro hi
theorem ros_el {A : Option Addr} {c : Nat} {D : List SH} {xss : List (List α)} (h : (rosC C A c D xss).holds w) {y : Int} {xs : List α} (hx : getI xss y = some xs) : ∃ A' c', getI (hsl D xss) y = some (A', xs.length, c') ∧ D[y.toNat]? = some (A', c') ∧ xss[y.toNat]? = some xs := hsl_at h.1 hx
theorem ros_rd {A : Option Addr} {c : Nat} {D : List SH} {xss : List (List α)} (h : (rosC C A c D xss).holds w) : Rd csv w A (hsl D xss) := h.2.1.1
theorem ros_sub {A A' : Option Addr} {c c' i : Nat} {D : List SH} {xss : List (List α)} {xs : List α} (h : (rosC C A c D xss).holds w) (hd : D[i]? = some (A', c')) (hx : xss[i]? = some xs) : Rd C w A' xs := (h.2.2 i _ xs hd hx).1
theorem ros_subLe {A A' : Option Addr} {c c' i : Nat} {D : List SH} {xss : List (List α)} {xs : List α} (h : (rosC C A c D xss).holds w) (hd : D[i]? = some (A', c')) (hx : xss[i]? = some xs) : xs.length ≤ c' := (h.2.2 i _ xs hd hx).2
theorem St.addNilS (h : St w0 X w L R) (C : Cd α) (E e : Nat) : St w0 X w (L ++ [rowsC C none 0 E e [] []]) R := by
 have h1 := h.addNil csv E none
 have h2 := h1.takeI (i := L.length) (c := rowC csv none 0 E []) (by simp)
 have h3 : St w0 X w (rowsC C none 0 E e [] [] :: (L ++ [rowC csv none 0 E []]).set L.length gone) R := St.rowsI rfl h2
 have h4 := h3.putI (i := L.length) (by simp)
 simpa using h4
theorem St.paramC {w : World} {R : List Chunk} (h : St w no w [] R) (c : Chunk) (hc : c.holds w) : St w no w [] (R ++ [c]) := h.read c hc (by simp)
theorem subD {α : Type} {D D2 : List α} {n k : Nat} {p : α} (hl : D.length = n) (h : D2[k]? = some p) : (D ++ D2)[n + k]? = some p := by
 subst hl
 rw [List.getElem?_append_right (by omega), show D.length + k - D.length = k by omega]
 exact h
theorem Ef.litS0 {U : List (Nat × TypeDesc)} {UI : List (Nat × TI)} (hU : okU P U) (hI : okI P UI) {t E e : Nat} {ti : TI} (hS : St w0 X w L R)
 (ho : o.op = .buildSlice t 0 #[]) (ht : lkT U t = some (.slice E)) (hti : lkT UI E = some ti) (hs : ti.size = 1) (C : Cd α) :
 Ef P F w o fun v w' => ∃ A', v = .slice A' ([] : List (List α)).length ([] : List (List α)).length ∧ St w0 X w' (L ++ [rowsC C A' ([] : List (List α)).length E e [] []]) R := by
 obtain ⟨v, w1, hr, hx, A', rfl, h1⟩ := Ef.lit (P := P) (F := F) (o := o) hU hI hS ho ht hti (C := csv) (by rw [hs]; rfl) (vs := []) rfl rfl [] rfl (by rw [hs]; rfl) (by rw [hs]; rfl) rfl
 refine ⟨_, w1, hr, hx, A', rfl, ?_⟩
 have h2 := h1.takeI (i := L.length) (c := rowC csv A' 0 E []) (by simp)
 have h3 : St w0 X w1 (rowsC C A' 0 E e [] [] :: (L ++ [rowC csv A' 0 E []]).set L.length gone) R := St.rowsI rfl h2
 have h4 := h3.putI (i := L.length) (by simp)
 simpa using h4
theorem Ef.litS1 {U : List (Nat × TypeDesc)} {UI : List (Nat × TI)} (hU : okU P U) (hI : okI P UI) {t E e k c : Nat} {ti : TI} {x : Operand} {A : Option Addr} {xs : List α} (hS : St w0 X w L R) (hk : L[k]? = some (rowC C A c e xs))
 (ho : o.op = .buildSlice t 1 #[(0, x)]) (ht : lkT U t = some (.slice E)) (hti : lkT UI E = some ti) (hs : ti.size = 1) (hx : evO F x = some (.slice A xs.length c)) :
 Ef P F w o fun v w' => ∃ A', v = .slice A' [xs].length [xs].length ∧ St w0 X w' (L.set k gone ++ [rowsC C A' [xs].length E e [(A, c)] [xs]]) R := by
 obtain ⟨v, w1, hr, hxx, A', rfl, h1⟩ := Ef.lit (P := P) (F := F) (o := o) hU hI hS ho ht hti (C := csv) (by rw [hs]; rfl) (vs := [.slice A xs.length c]) (by simp [allV, hx]) rfl [(A, xs.length, c)] rfl (by rw [hs]; rfl) (by rw [hs]; rfl) rfl
 refine ⟨_, w1, hr, hxx, A', rfl, ?_⟩
 have hkl := (List.getElem?_eq_some_iff.1 hk).1
 have h2 := h1.takeI (i := k) (c := rowC C A c e xs) (by rw [List.getElem?_append_left hkl]; exact hk)
 have e1 : (L ++ [rowC csv A' [(A, xs.length, c)].length E [(A, xs.length, c)]]).set k gone = L.set k gone ++ [rowC csv A' 1 E [(A, xs.length, c)]] := by rw [List.set_append_left _ _ hkl]; rfl
 rw [e1] at h2
 have h3 := h2.takeI (i := (L.set k gone).length + 1) (c := rowC csv A' 1 E [(A, xs.length, c)]) (by simp)
 have e2 : (rowC C A c e xs :: (L.set k gone ++ [rowC csv A' 1 E [(A, xs.length, c)]])).set ((L.set k gone).length + 1) gone = rowC C A c e xs :: (L.set k gone ++ [gone]) := by
   rw [List.set_cons_succ, List.set_append_right _ _ (Nat.le_refl _), Nat.sub_self]; rfl
 rw [e2] at h3
 have h4 : St w0 X w1 (rowsC C A' 1 E e [(A, c)] [xs] :: (L.set k gone ++ [gone])) R := St.rowsI rfl h3
 have h5 := h4.putI (i := (L.set k gone).length) (by simp)
 rw [List.set_append_right _ _ (Nat.le_refl _), Nat.sub_self] at h5
 exact h5
theorem Ew.appendS {U : List (Nat × TypeDesc)} {UI : List (Nat × TI)} (hU : okU P U) (hI : okI P UI) {t E e i j c c2 : Nat} {ti : TI} {x y : Operand} {cl : Call} {A A2 : Option Addr} {D D2 : List SH} {xss yss : List (List α)} (hS : St w0 X w L R)
 (hi : L[i]? = some (rowsC C A c E e D xss)) (hj : L[j]? = some (rowsC C A2 c2 E e D2 yss)) (hij : Nat.beq i j = false)
 (ho : o.op = .call cl) (hcl : cl.callee = .builtin .append) (hca : cl.args = #[x, y]) (hct : cl.argTypes = #[t, t])
 (ht : lkT U t = some (.slice E)) (hti : lkT UI E = some ti) (hs : ti.size = 1) (hzs : ti.zero.cells.size = ti.size) (hb : Nat.ble ti.bytes 32768 = true)
 (hx : evO F x = some (.slice A xss.length c)) (hy : evO F y = some (.slice A2 yss.length c2)) (h63 : xss.length + yss.length ≤ 4294967296) :
 Ew P F w o fun v w' => ∃ A' c', v = .slice A' (xss ++ yss).length c' ∧ St w0 X w' ((L.set i (rowsC C A' c' E e (D ++ D2) (xss ++ yss))).set j gone) R := by
 have hne := Nat.ne_of_beq_eq_false hij
 have hil := (List.getElem?_eq_some_iff.1 hi).1
 have hjl := (List.getElem?_eq_some_iff.1 hj).1
 have h1 := hS.takeI hi
 have hj1 : (rowsC C A c E e D xss :: L.set i gone)[j + 1]? = some (rowsC C A2 c2 E e D2 yss) := by
   rw [List.getElem?_cons_succ, List.getElem?_set_ne hne]; exact hj
 have h2 := h1.takeI hj1
 rw [List.set_cons_succ] at h2
 obtain ⟨l2, h3⟩ := h2.rowsO
 have h4 : St w0 X w (rowsC C A c E e D xss :: (rowC csv A2 c2 E (hsl D2 yss) :: (innC C e D2 yss ++ (L.set i gone).set j gone))) R := h3.perm (by
   have : (rowC csv A2 c2 E (hsl D2 yss) :: (innC C e D2 yss ++ rowsC C A c E e D xss :: (L.set i gone).set j gone)).Perm (rowsC C A c E e D xss :: (rowC csv A2 c2 E (hsl D2 yss) :: (innC C e D2 yss ++ (L.set i gone).set j gone))) := List.perm_middle (l₁ := rowC csv A2 c2 E (hsl D2 yss) :: innC C e D2 yss)
   exact this)
 obtain ⟨l1, h5⟩ := h4.rowsO
 have hl1 := hsl_len l1
 have hl2 := hsl_len l2
 have ho2 : RowAt w A2 c2 E csv.sz (hsl D2 yss).length (flat csv (hsl D2 yss)) := h5.holds (rowC csv A2 c2 E (hsl D2 yss)) (List.mem_cons_of_mem _ (List.mem_append_right _ (List.mem_cons_self ..)))
 obtain ⟨v, w1, hr, A', c', rfl, h6⟩ := Ew.append (P := P) (F := F) (o := o) hU hI (C := csv) (xs := hsl D xss) (ys := hsl D2 yss) h5 (i := 0) rfl ho hcl hca hct ht hti (by rw [hs]; rfl) hzs (by rw [hs]; rfl) hb (by rw [hl1]; exact hx) (by rw [hl2]; exact hy) (RowAt.rd ho2) (by rw [hl1, hl2]; exact h63)
 rw [List.set_cons_zero, ← hsl_app l1] at h6
 refine ⟨_, w1, hr, A', c', by rw [← hsl_app l1, hsl_len (by simp [l1, l2])], ?_⟩
 have h7 : St w0 X w1 (rowC csv A' c' E (hsl (D ++ D2) (xss ++ yss)) :: (innC C e (D ++ D2) (xss ++ yss) ++ (rowC csv A2 c2 E (hsl D2 yss) :: (L.set i gone).set j gone))) R := h6.perm (by
   rw [innC_app l1]
   refine List.Perm.cons _ ?_
   rw [List.append_assoc]
   refine List.Perm.append_left _ ?_
   exact (List.perm_middle (l₁ := innC C e D2 yss)).symm)
 have h8 := St.rowsI (by simp [l1, l2]) h7
 have h9 := (h8.perm (List.Perm.swap ..)).tail
 have hgi : ((L.set i gone).set j gone)[i]? = some gone := by
   rw [List.getElem?_set_ne (Ne.symm hne), List.getElem?_set_self hil]
 have h10 := h9.putI hgi
 rw [List.set_comm _ _ (Ne.symm hne), List.set_set] at h10
 exact h10
end G
end Go.Proofs.YtegibnmfiogebaaGreatDoor
