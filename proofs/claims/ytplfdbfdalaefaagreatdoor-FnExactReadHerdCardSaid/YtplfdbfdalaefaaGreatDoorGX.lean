/-
  Step lemmas: what the builtin copy does to a row that is the call's own.
-/
import Derived.Test.YtplfdbfdalaefaaGreatDoorGS
import Derived.Laws.CopyRow
import Derived.Laws.IdiomCopy
namespace Go.Proofs.YtplfdbfdalaefaaGreatDoor
namespace G
set_option linter.unusedVariables false
set_option linter.unusedSimpArgs false
variable {P : Program} {F : Fm} {o : Oper} {w w' w0 : World} {X : Nat → Prop} {L R : List Chunk} {α : Type} {C : Cd α}
def cpyN (n1 : Nat) (ys : List α) : Nat := Nat.min ys.length n1
def cpy (xs : List α) (lo n1 : Nat) (ys : List α) : List α := xs.take lo ++ ys.take (cpyN n1 ys) ++ xs.drop (lo + cpyN n1 ys)
theorem cpyN_le (n1 : Nat) (ys : List α) : cpyN n1 ys ≤ n1 ∧ cpyN n1 ys ≤ ys.length := ⟨Nat.min_le_right _ _, Nat.min_le_left _ _⟩
theorem cpy_len {xs ys : List α} {lo n1 : Nat} (hlo : lo + n1 ≤ xs.length) : (cpy xs lo n1 ys).length = xs.length := by
  have := cpyN_le n1 ys
  simp only [cpy, List.length_append, List.length_take, List.length_drop]
  omega
theorem cutA_at {A : Option Addr} {c lo n : Nat} (hn : n ≤ c) {g : Nat} (h0 : 0 < n - lo) (hA : A = some ⟨g, 0, none⟩) : cutA A c lo 1 = some ⟨g, lo, none⟩ := by
  subst hA
  unfold cutA
  rw [if_neg (by omega), Option.map_some, add_lit, Nat.zero_add, Nat.mul_one]
theorem Rd.take {A : Option Addr} {xs : List α} (h : Rd C w A xs) (n : Nat) : Rd C w A (xs.take n) :=
  ⟨fun h0 => h.some_ (by rw [List.length_take] at h0; omega), fun ad e j v hv => h.cells ad e j v (by
    have hx : flat C xs = flat C (xs.take n) ++ flat C (xs.drop n) := by rw [← flat_app, List.take_append_drop]
    rw [hx, List.getElem?_append_left (List.getElem?_eq_some_iff.1 hv).1]
    exact hv)⟩
theorem Rd.part {A : Option Addr} {xs : List α} (h : Rd C w A xs) {c lo : Nat} (h2 : lo ≤ xs.length) (hc : xs.length ≤ c) : Rd C w (cutA A c lo C.sz) (xs.drop lo) := by
  have := h.cut' (c := c) (lo := lo) (hi := xs.length) h2 (Nat.le_refl _) hc
  rwa [List.take_of_length_le (by rw [List.length_drop]; omega)] at this
theorem part_le {xs : List α} {c lo : Nat} (hc : xs.length ≤ c) : (xs.drop lo).length ≤ c - lo := by rw [List.length_drop]; omega
theorem Ew.copy {U : List (Nat × TypeDesc)} {UI : List (Nat × TI)} (hU : okU P U) (hI : okI P UI) {t e i c lo n1 c1 n2 c2 : Nat} {ti : TI} {x y : Operand} {cl : Call} {A A1 A2 : Option Addr} {xs ys : List α} (hS : St w0 X w L R) (hi : L[i]? = some (rowC C A c e xs))
    (ho : o.op = .call cl) (hcl : cl.callee = .builtin .copy) (hca : cl.args = #[x, y]) (hct : cl.argTypes = #[t, t])
    (ht : lkT U t = some (.slice e)) (hti : lkT UI e = some ti) (hC : C.sz = 1) (hsz : ti.size = 1)
    (hx : evO F x = some (.slice A1 n1 c1)) (hlo : lo + n1 ≤ xs.length) (hA : ∀ g, 0 < n1 → A = some ⟨g, 0, none⟩ → A1 = some ⟨g, lo, none⟩)
    (hy : evO F y = some (.slice A2 n2 c2)) (hn2 : ys.length = n2) (hr : Rd C w A2 ys) :
    Ew P F w o fun v w' => v = .int .i64 ((cpyN n1 ys : Nat) : Int) ∧ St w0 X w' (L.set i (rowC C A c e (cpy xs lo n1 ys))) R := by
  subst hn2
  obtain ⟨ii, hii, hiz, hs, hby⟩ := hI.at_ hti
  have hu := hU.at_ ht
  have hsz1 : (P.info? e).map (·.size) = some 1 := by rw [hii, Option.map_some, hs, hsz]
  have hrow : RowAt w A c e C.sz xs.length (flat C xs) := hS.at_ hi
  obtain ⟨m1, m2⟩ := cpyN_le n1 ys
  have run : ∀ {v : Value} {w' : World}, (Builtin.copy_ #[t, t] o.type #[.slice A1 n1 c1, .slice A2 ys.length c2]).run P w = .ok v w' → ∀ ρ, Has F ρ → (execOp ρ o).run P w = .ok (.value v) w' := by
    intro v w' hr ρ hρ
    unfold execOp
    simp only [ho, resolve, hcl, hca, hct, Sem.run_bind, Sem.run_pure, Result.andThen_ok, invoke, builtin, List.map_toArray, List.map_cons, List.map_nil, hρ _ _ hx, hρ _ _ hy, hr]
  rcases Nat.eq_zero_or_pos (cpyN n1 ys) with h0 | h0
  · refine ⟨_, w, run (run_copy_none w t t o.type e A1 A2 n1 c1 ys.length c2 hu hsz1 h0), by rw [h0]; rfl, ?_⟩
    have e0 : cpy xs lo n1 ys = xs := by
      unfold cpy
      rw [h0, List.take_zero, List.append_nil, Nat.add_zero, List.take_append_drop]
    rw [e0, set_same hi]
    exact hS
  · rcases hrow.arr with hc | ⟨g, cur, rfl, hgc, hcs, htake⟩
    · have := hrow.le; omega
    obtain rfl := hA g (by omega) rfl
    obtain ⟨ad, rfl⟩ := hr.some_ (by omega)
    rw [hC, Nat.mul_one] at hcs htake
    have hflat : (flat C (ys.take (cpyN n1 ys))).length = cpyN n1 ys := by rw [flat_len, hC, List.length_take]; omega
    have hcl2 : cur.size = cur.toList.length := by simp
    have hle := hrow.le
    have hrun := run_copy_row (P := P) w t t o.type e g lo n1 c1 ad ys.length c2 cur e (flat C (ys.take (cpyN n1 ys))) hu hsz1 hgc hflat
      (fun j v hv => (hr.take (cpyN n1 ys)).cells ad rfl j v hv) (by rw [hflat, hcs]; omega) (flat_mem C _)
    refine ⟨_, _, run hrun, by rw [hflat]; rfl, hS.upd hi _ ?_ ?_ ?_⟩
    · refine ⟨rfl, rfl, rfl, by simp [World.setRow], fun b hb hnb => setRow_other w g b _ ?_⟩
      rintro rfl
      exact hnb ⟨by omega, rfl⟩
    · have hl : (cpy xs lo n1 ys).length = xs.length := cpy_len hlo
      refine (show RowAt _ _ _ _ _ _ _ from ⟨flat_len C _, by rw [hl]; exact hle, hrow.cap, .inr ⟨g, _, rfl, setRow_heap w g cur _ e _ hgc, ?_, ?_⟩⟩)
      · rw [hC, Nat.mul_one]
        simp only [List.size_toArray, List.length_append, List.length_take, List.length_drop, hflat, ← hcl2, hcs]
        omega
      · rw [hl, hC, Nat.mul_one]
        unfold cpy
        rw [flat_app, flat_app, hflat]
        have f1 : flat C (xs.take lo) = cur.toList.take lo := by
          have := flat_take C xs lo (by omega)
          rw [hC, Nat.mul_one] at this
          rw [← this, ← htake, List.take_take, Nat.min_eq_left (by omega)]
        have f2 : flat C (xs.drop (lo + cpyN n1 ys)) = (cur.toList.take xs.length).drop (lo + cpyN n1 ys) := by
          have := flat_drop C xs (lo + cpyN n1 ys) (by omega)
          rw [hC, Nat.mul_one] at this
          rw [← this, ← htake]
        rw [f1, f2, List.drop_take]
        have hlt : (cur.toList.take lo).length = lo := by rw [List.length_take]; omega
        rw [List.take_append, List.take_append]
        have e1 : (cur.toList.take lo).take xs.length = cur.toList.take lo := List.take_of_length_le (by rw [hlt]; omega)
        have e2 : (flat C (ys.take (cpyN n1 ys))).take (xs.length - (cur.toList.take lo).length) = flat C (ys.take (cpyN n1 ys)) := List.take_of_length_le (by rw [hflat, hlt]; omega)
        rw [List.length_append, e1, e2, hlt, hflat]
    · exact fun k hk => .inl hk
end G
end Go.Proofs.YtplfdbfdalaefaaGreatDoor
