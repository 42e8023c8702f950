/-
  Literals of slices that are only read.
-/
import Derived.Test.YtegibnmfiogebaaGreatDoorGW
namespace Go.Proofs.YtegibnmfiogebaaGreatDoor
namespace G
set_option linter.unusedVariables false
set_option linter.unusedSimpArgs false
variable {w w' w0 : World} {X : Nat → Prop} {L R : List Chunk} {α : Type} {C : Cd α}
def Inn (C : Cd α) (w : World) : List SH → List (List α) → Prop
  | [], [] => True
  | p :: D, xs :: r => (Rd C w p.1 xs ∧ xs.length ≤ p.2) ∧ Inn C w D r
  | _, _ => False
theorem Inn.at_ : ∀ {D : List SH} {xss : List (List α)}, Inn C w D xss → D.length = xss.length ∧ ∀ (i : Nat) (p : SH) (xs : List α), D[i]? = some p → xss[i]? = some xs → (roC C p.1 p.2 xs).holds w
  | [], [], _ => ⟨rfl, fun i p xs h => by simp at h⟩
  | [], _ :: _, h => h.elim
  | _ :: _, [], h => h.elim
  | q :: D, ys :: r, h => by
    obtain ⟨h1, h2⟩ := h.2.at_
    refine ⟨by simp [h1], fun i p xs hp hx => ?_⟩
    cases i with
    | zero =>
      simp only [List.getElem?_cons_zero, Option.some.injEq] at hp hx
      subst hp hx
      exact h.1
    | succ i => exact h2 i p xs (by simpa using hp) (by simpa using hx)
theorem ros_lit {A : Option Addr} {c E i : Nat} {D : List SH} {xss : List (List α)} (h : St w0 X w L R) (hi : L[i]? = some (rowC csv A c E (hsl D xss))) (hD : Inn C w D xss) : (rosC C A c D xss).holds w := by
 obtain ⟨h1, h2⟩ := hD.at_
 exact ⟨h1, rowAt_ro (h.at_ hi), h2⟩
theorem St.rowsRoR {A : Option Addr} {c E e i : Nat} {D : List SH} {xss : List (List α)} (h : St w0 X w L R) (hi : R[i]? = some (rowsC C A c E e D xss)) : (rosC C A c D xss).holds w := by
 obtain ⟨h1, h2, h3⟩ := rows_facts (h.ro hi)
 exact ⟨h1, rowAt_ro h2, fun i p xs hp hx => rowAt_ro (h3 i p xs hp hx)⟩
theorem St.subR {A A' : Option Addr} {c c' i j : Nat} {D : List SH} {xss : List (List α)} {xs : List α} (h : St w0 X w L R) (hj : R[j]? = some (rosC C A c D xss)) (hd : D[i]? = some (A', c')) (hx : xss[i]? = some xs) : St w0 X w L (R ++ [roC C A' c' xs]) := by
 have hh : (rosC C A c D xss).holds w := h.ro hj
 have hs : ∀ b, (roC C A' c' xs).fp b → (rosC C A c D xss).fp b := fun b hb => .inr ⟨i, (A', c'), xs, hd, hx, hb⟩
 exact h.read _ (hh.2.2 i _ xs hd hx) fun e he b hb => h.away _ (List.mem_of_getElem? hj) e he b (hs b hb)
variable {P : Program} {F : Fm} {o : Oper}
theorem Inn.app : ∀ {D : List SH} {xss : List (List α)} {D' : List SH} {xss' : List (List α)}, Inn C w D xss → Inn C w D' xss' → Inn C w (D ++ D') (xss ++ xss')
  | [], [], _, _, _, k => k
  | [], _ :: _, _, _, h, _ => h.elim
  | _ :: _, [], _, _, h, _ => h.elim
  | p :: D, xs :: r, _, _, h, k => ⟨h.1, Inn.app h.2 k⟩
theorem Inn.of_ : ∀ {D : List SH} {xss : List (List α)}, D.length = xss.length → (∀ (i : Nat) (p : SH) (xs : List α), D[i]? = some p → xss[i]? = some xs → (roC C p.1 p.2 xs).holds w) → Inn C w D xss
  | [], [], _, _ => trivial
  | [], _ :: _, h, _ => by simp at h
  | _ :: _, [], h, _ => by simp at h
  | p :: D, xs :: r, h, k => ⟨k 0 p xs rfl rfl, Inn.of_ (by simpa using h) fun i q ys hq hy => k (i + 1) q ys (by simpa using hq) (by simpa using hy)⟩
theorem Inn.of {A : Option Addr} {c : Nat} {D : List SH} {xss : List (List α)} (h : (rosC C A c D xss).holds w) : Inn C w D xss := Inn.of_ h.1 h.2.2
theorem len2 {α β : Type} {a b : List α} {c d : List β} (h : a.length = c.length) (k : b.length = d.length) : (a ++ b).length = (c ++ d).length := by rw [List.length_append, List.length_append, h, k]
theorem ros_lit' {A : Option Addr} {c E i : Nat} {D : List SH} {xss : List (List α)} {hs : List (Option Addr × Nat × Nat)} (h : St w0 X w L R) (hi : L[i]? = some (rowC csv A c E hs)) (he : hs = hsl D xss) (hD : Inn C w D xss) : (rosC C A c D xss).holds w := by
 subst he; exact ros_lit h hi hD
theorem Ew.appendL {n1 n2 n3 : Nat} {U : List (Nat × TypeDesc)} {UI : List (Nat × TI)} (hU : okU P U) (hI : okI P UI) {t e i c c2 : Nat} {ti : TI} {x y : Operand} {cl : Call} {A A2 : Option Addr} {xs ys : List α} (hS : St w0 X w L R) (hi : L[i]? = some (rowC C A c e xs))
 (ho : o.op = .call cl) (hcl : cl.callee = .builtin .append) (hca : cl.args = #[x, y]) (hct : cl.argTypes = #[t, t])
 (ht : lkT U t = some (.slice e)) (hti : lkT UI e = some ti) (hC : C.sz = ti.size) (hzs : ti.zero.cells.size = ti.size) (hsz : Nat.ble 1 ti.size = true) (hb : Nat.ble ti.bytes 32768 = true)
 (hx : evO F x = some (.slice A n1 c)) (hy : evO F y = some (.slice A2 n2 c2)) (hr : Rd C w A2 ys) (h63 : xs.length + ys.length ≤ 4294967296) (e1 : xs.length = n1) (e2 : ys.length = n2) (e3 : (xs ++ ys).length = n3) :
 Ew P F w o fun v w' => ∃ A' c', v = .slice A' n3 c' ∧ St w0 X w' (L.set i (rowC C A' c' e (xs ++ ys))) R := by
 subst e1 e2 e3
 exact Ew.append hU hI hS hi ho hcl hca hct ht hti hC hzs hsz hb hx hy hr h63
end G
end Go.Proofs.YtegibnmfiogebaaGreatDoor
