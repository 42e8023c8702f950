import Derived.Test.YtegibnmfiogebaaGreatDoorQC
import Derived.Test.YtegibnmfiogebaaGreatDoorD5
/-
  Flows and cuts, in plain words: sums over lists, what flows over a cut.
-/
namespace Go.Proofs.YtegibnmfiogebaaGreatDoor
open G
set_option linter.unusedVariables false
set_option linter.unusedSimpArgs false
section
section
variable {α β : Type}
def sm (f : α → Int) : List α → Int
  | [] => 0
  | a :: l => f a + sm f l
theorem sm_congr {f g : α → Int} : ∀ l : List α, (∀ a ∈ l, f a = g a) → sm f l = sm g l
  | [], _ => rfl
  | a :: l, h => by rw [sm, sm, h a (List.mem_cons_self ..), sm_congr l fun b hb => h b (List.mem_cons_of_mem _ hb)]
theorem sm_le {f g : α → Int} : ∀ l : List α, (∀ a ∈ l, f a ≤ g a) → sm f l ≤ sm g l
  | [], _ => Int.le_refl _
  | a :: l, h => by
    have h1 := h a (List.mem_cons_self ..)
    have h2 := sm_le l fun b hb => h b (List.mem_cons_of_mem _ hb)
    rw [sm, sm]; omega
theorem sm_eq {f g : α → Int} : ∀ l : List α, (∀ a ∈ l, f a ≤ g a) → sm f l = sm g l → ∀ a ∈ l, f a = g a
  | [], _, _ => fun a h => by simp at h
  | b :: l, h, e => fun a ha => by
    have h1 := h b (List.mem_cons_self ..)
    have h2 := sm_le l fun c hc => h c (List.mem_cons_of_mem _ hc)
    rw [sm, sm] at e
    rcases List.mem_cons.1 ha with rfl | ha
    · omega
    · exact sm_eq l (fun c hc => h c (List.mem_cons_of_mem _ hc)) (by omega) a ha
theorem sm_zero {f : α → Int} : ∀ l : List α, (∀ a ∈ l, f a = 0) → sm f l = 0
  | [], _ => rfl
  | a :: l, h => by rw [sm, h a (List.mem_cons_self ..), sm_zero l fun b hb => h b (List.mem_cons_of_mem _ hb)]; rfl
theorem sm_add (f g : α → Int) : ∀ l : List α, sm (fun a => f a + g a) l = sm f l + sm g l
  | [] => rfl
  | a :: l => by simp only [sm, sm_add f g l]; omega
theorem sm_neg (f : α → Int) : ∀ l : List α, sm (fun a => - f a) l = - sm f l
  | [] => rfl
  | a :: l => by simp only [sm, sm_neg f l]; omega
theorem sm_swap (h : α → β → Int) (B : List β) : ∀ A : List α, sm (fun a => sm (h a) B) A = sm (fun b => sm (fun a => h a b) A) B
  | [] => (sm_zero B fun _ _ => rfl).symm
  | a :: A => by
    rw [sm, sm_swap h B A, ← sm_add]; rfl
theorem sm_split (f : α → Int) (y : α → Bool) : ∀ l : List α, sm f l = sm f (l.filter y) + sm f (l.filter fun a => !y a)
  | [] => rfl
  | a :: l => by
    rw [sm, sm_split f y l, List.filter_cons, List.filter_cons]
    cases y a
    · simp [sm]; omega
    · simp [sm]; omega
theorem sm_perm (f : α → Int) {a b : List α} (h : a.Perm b) : sm f a = sm f b := by
  induction h with
  | nil => rfl
  | cons x _ ih => simp only [sm, ih]
  | swap x y l => simp only [sm]; omega
  | trans _ _ h1 h2 => exact h1.trans h2
theorem sm_anti {g : α → α → Int} (h : ∀ s t, g s t = - g t s) (A : List α) : sm (fun s => sm (g s) A) A = 0 := by
 have h1 := sm_swap g A A
 have h2 : sm (fun b => sm (fun a => g a b) A) A = - sm (fun s => sm (g s) A) A := by
   rw [← sm_neg]
   exact sm_congr A fun b _ => by rw [← sm_neg]; exact sm_congr A fun a _ => h a b
 omega
structure Fl (C : List α) (e : α → α → Bool) (A B : α → Bool) (g : α → α → Int) : Prop where
  anti : ∀ s t, g s t = - g t s
  cap : ∀ s t, g s t ≤ if e s t = true then 1 else 0
  cons : ∀ s ∈ C, A s = false → B s = false → sm (g s) C = 0
def val (C : List α) (A : α → Bool) (g : α → α → Int) : Int := sm (fun s => sm (g s) C) (C.filter A)
def capC (C : List α) (e : α → α → Bool) (y : α → Bool) : Int := sm (fun s => sm (fun t => if e s t = true then 1 else 0) (C.filter fun t => !y t)) (C.filter y)
theorem filter_sub {A y : α → Bool} (h : ∀ s, A s = true → y s = true) : ∀ C : List α, (C.filter y).filter A = C.filter A := fun C => by
  rw [List.filter_filter]
  refine List.filter_congr fun a _ => ?_
  cases e : A a
  · rfl
  · rw [h a e]; rfl
theorem Fl.cut {C : List α} {e : α → α → Bool} {A B y : α → Bool} {g : α → α → Int} (h : Fl C e A B g) (hA : ∀ s, A s = true → y s = true) (hB : ∀ s, B s = true → y s = false) : val C A g = sm (fun s => sm (g s) (C.filter fun t => !y t)) (C.filter y) := by
 have h1 : val C A g = sm (fun s => sm (g s) C) (C.filter y) := by
   rw [sm_split (fun s => sm (g s) C) A (C.filter y), filter_sub hA]
   rw [sm_zero ((C.filter y).filter fun a => !A a) fun s hs => ?_, Int.add_zero]; rfl
   rw [List.mem_filter, List.mem_filter, Bool.not_eq_true'] at hs
   refine h.cons s hs.1.1 hs.2 ?_
   cases c : B s
   · rfl
   · rw [hB s c] at hs; exact absurd hs.1.2 (by simp)
 rw [h1, sm_congr (C.filter y) (g := fun s => sm (g s) (C.filter y) + sm (g s) (C.filter fun t => !y t)) fun s _ => sm_split (g s) y C, sm_add, sm_anti h.anti, Int.zero_add]
theorem Fl.le {C : List α} {e : α → α → Bool} {A B y : α → Bool} {g : α → α → Int} (h : Fl C e A B g) (hA : ∀ s, A s = true → y s = true) (hB : ∀ s, B s = true → y s = false) : val C A g ≤ capC C e y := by
 rw [h.cut hA hB]
 exact sm_le _ fun s _ => sm_le _ fun t _ => h.cap s t
theorem Fl.full {C : List α} {e : α → α → Bool} {A B y : α → Bool} {g : α → α → Int} (h : Fl C e A B g) (hA : ∀ s, A s = true → y s = true) (hB : ∀ s, B s = true → y s = false) (hf : ∀ s ∈ C, ∀ t ∈ C, y s = true → y t = false → e s t = true → 0 < g s t) (he : ∀ s t, e s t = e t s) : val C A g = capC C e y := by
 rw [h.cut hA hB]
 refine sm_congr _ fun s hs => sm_congr _ fun t ht => ?_
 rw [List.mem_filter] at hs ht
 have h1 := h.cap s t
 have h2 := h.cap t s
 have h3 := h.anti s t
 rw [he t s] at h2
 cases c : e s t
 ·simp [c] at h1 h2 ⊢; omega
 have := hf s hs.1 t ht.1 hs.2 (by simpa using ht.2) c
 simp [c] at h1 ⊢; omega
theorem Fl.tight {C : List α} {e : α → α → Bool} {A B y : α → Bool} {g : α → α → Int} (h : Fl C e A B g) (hA : ∀ s, A s = true → y s = true) (hB : ∀ s, B s = true → y s = false) (hv : val C A g = capC C e y) : ∀ s ∈ C, ∀ t ∈ C, y s = true → y t = false → e s t = true → g s t = 1 := by
 intro s hs t ht ys yt est
 rw [h.cut hA hB] at hv
 have h1 := sm_eq _ (fun s _ => sm_le _ fun t _ => h.cap s t) hv s (List.mem_filter.2 ⟨hs, ys⟩)
 have h2 := sm_eq _ (fun t _ => h.cap s t) h1 t (List.mem_filter.2 ⟨ht, by rw [yt]; rfl⟩)
 rw [h2, if_pos est]
end
end
section
section
variable {α : Type} {C : List α} {e : α → α → Bool} {A B : α → Bool} {g g1 g2 : α → α → Int}
inductive Res (C : List α) (e : α → α → Bool) (A : α → Bool) (g : α → α → Int) : α → Prop
  | base {s : α} : s ∈ C → A s = true → Res C e A g s
  | step {s t : α} : Res C e A g s → t ∈ C → e s t = true → g s t ≤ 0 → Res C e A g t
theorem Res.mem {s : α} (h : Res C e A g s) : s ∈ C := by cases h <;> assumption
theorem Res.within (h : Fl C e A B g) {y : α → Bool} (hA : ∀ s, A s = true → y s = true) (hB : ∀ s, B s = true → y s = false) (hv : val C A g = capC C e y) {s : α} (hs : Res C e A g s) : y s = true := by
  induction hs with
  | base _ ha => exact hA _ ha
  | @step s t h1 ht he hg ih =>
    cases c : y t
    · have := h.tight hA hB hv s h1.mem t ht ih c he
      omega
    · rfl
theorem Res.full (h : Fl C e A B g) (hAC : ∀ s, A s = true → s ∈ C) (he : ∀ s t, e s t = e t s) {x : α → Bool} (hx : ∀ s, x s = true ↔ Res C e A g s) (hB : ∀ s, B s = true → x s = false) : val C A g = capC C e x := by
 refine h.full (fun s hs => (hx s).2 (.base (hAC s hs) hs)) hB (fun s hs t ht ys yt est => ?_) he
 apply Classical.byContradiction
 intro hn
 have := (hx t).2 (.step ((hx s).1 ys) ht est (by omega))
 rw [yt] at this; exact absurd this (by simp)
theorem Res.same (h1 : Fl C e A B g1) (h2 : Fl C e A B g2) (hAC : ∀ s, A s = true → s ∈ C) (he : ∀ s t, e s t = e t s) {x1 x2 : α → Bool} (k1 : ∀ s, x1 s = true ↔ Res C e A g1 s) (k2 : ∀ s, x2 s = true ↔ Res C e A g2 s) (b1 : ∀ s, B s = true → x1 s = false) (b2 : ∀ s, B s = true → x2 s = false) : x1 = x2 := by
 have a1 : ∀ s, A s = true → x1 s = true := fun s hs => (k1 s).2 (.base (hAC s hs) hs)
 have a2 : ∀ s, A s = true → x2 s = true := fun s hs => (k2 s).2 (.base (hAC s hs) hs)
 have v1 := Res.full h1 hAC he k1 b1
 have v2 := Res.full h2 hAC he k2 b2
 have l1 := h1.le a2 b2
 have l2 := h2.le a1 b1
 funext s
 rw [Bool.eq_iff_iff]
 constructor
 ·intro hs
  exact Res.within h1 a2 b2 (by omega) ((k1 s).1 hs)
 intro hs
 exact Res.within h2 a1 b1 (by omega) ((k2 s).1 hs)
end
end
section
section
variable {α : Type} [DecidableEq α] {C : List α} {e : α → α → Bool} {A B : α → Bool} {g : α → α → Int} {x : α → Int}
def un (u v s t : α) : Int := (if s = u ∧ t = v then 1 else 0) - (if s = v ∧ t = u then 1 else 0)
theorem ite_and_comm (p q : Prop) [Decidable p] [Decidable q] : (if p ∧ q then (1 : Int) else 0) = if q ∧ p then 1 else 0 := by
 by_cases a : p <;> by_cases b : q <;> simp [a, b]
theorem sm_one {p : Prop} [Decidable p] {v : α} : ∀ {l : List α}, l.Nodup → v ∈ l → sm (fun t => if p ∧ t = v then 1 else 0) l = if p then 1 else 0
  | [], _, h => by simp at h
  | a :: l, hn, h => by
    rw [List.nodup_cons] at hn
    rw [sm]
    by_cases c : a = v
    · subst c
      rw [sm_zero l fun b hb => if_neg fun (h : p ∧ b = a) => hn.1 (h.2 ▸ hb)]
      simp
    · rw [sm_one hn.2 ((List.mem_cons.1 h).resolve_left fun e => c e.symm), if_neg fun h => c h.2]
      omega
theorem un_sum {u v s : α} (hn : C.Nodup) (hu : u ∈ C) (hv : v ∈ C) : sm (un u v s) C = (if s = u then 1 else 0) - (if s = v then 1 else 0) := by
 have h1 : sm (un u v s) C = sm (fun t => if s = u ∧ t = v then 1 else 0) C + sm (fun t => - (if s = v ∧ t = u then 1 else 0)) C := by
   rw [← sm_add]; exact sm_congr C fun t _ => by unfold un; omega
 rw [h1, sm_neg, sm_one hn hv, sm_one hn hu]; omega
structure Fx (C : List α) (e : α → α → Bool) (x : α → Int) (g : α → α → Int) : Prop where
  anti : ∀ s t, g s t = - g t s
  cap : ∀ s t, g s t ≤ if e s t = true then 1 else 0
  ex : ∀ s ∈ C, sm (g s) C = x s
theorem Fx.unit (h : Fx C e x g) (hn : C.Nodup) (he : ∀ s t, e s t = e t s) {u v : α} (hu : u ∈ C) (hv : v ∈ C) (hne : u ≠ v) (hs : e u v = true) (hg : g u v ≤ 0) : Fx C e (fun s => x s + ((if s = u then 1 else 0) - (if s = v then 1 else 0))) (fun s t => g s t + un u v s t) := by
 refine ⟨fun s t => ?_, fun s t => ?_, fun s hsC => ?_⟩
 ·have := h.anti s t
  have e1 : un u v t s = - un u v s t := by
    unfold un
    have a1 : (if t = u ∧ s = v then (1 : Int) else 0) = if s = v ∧ t = u then 1 else 0 := ite_and_comm _ _
    have a2 : (if t = v ∧ s = u then (1 : Int) else 0) = if s = u ∧ t = v then 1 else 0 := ite_and_comm _ _
    rw [a1, a2]; omega
  rw [e1]; omega
 ·have h1 := h.cap s t
  unfold un
  by_cases c : s = u ∧ t = v
  ·obtain ⟨rfl, rfl⟩ := c
   rw [if_pos ⟨rfl, rfl⟩, hs, if_pos rfl, if_neg fun h => hne h.1]; omega
  rw [if_neg c]
  split <;> omega
 rw [sm_add, h.ex s hsC, un_sum hn hu hv]
end
end
section
section
variable {α : Type} [DecidableEq α] {C : List α} {e : α → α → Bool} {A B : α → Bool} {g : α → α → Int} {x : α → Int}
def aug (g : α → α → Int) : List α → α → α → Int
  | u :: v :: l => fun s t => aug g (v :: l) s t + un u v s t
  | _ => g
theorem aug_off {s t : α} : ∀ {P : List α}, s ∉ P → aug g P s t = g s t
  | [], _ => rfl
  | [_], _ => rfl
  | u :: v :: l, h => by
    have h1 : s ≠ u := fun e => h (by rw [e]; exact List.mem_cons_self ..)
    have h2 : s ∉ v :: l := fun e => h (List.mem_cons_of_mem _ e)
    have h3 : s ≠ v := fun e => h2 (by rw [e]; exact List.mem_cons_self ..)
    show aug g (v :: l) s t + un u v s t = g s t
    rw [aug_off h2]
    unfold un
    rw [if_neg fun h => h1 h.1, if_neg fun h => h3 h.1]; omega
def free (e : α → α → Bool) (g : α → α → Int) : List α → Prop
  | u :: v :: l => (e u v = true ∧ g u v ≤ 0) ∧ free e g (v :: l)
  | _ => True
theorem Fx.along (hn : C.Nodup) (he : ∀ s t, e s t = e t s) (h : Fx C e x g) : ∀ (u : α) (l : List α), (u :: l).Nodup → (∀ z ∈ u :: l, z ∈ C) → free e g (u :: l) → Fx C e (fun s => x s + ((if s = u then 1 else 0) - (if s = (u :: l).getLast (by simp) then 1 else 0))) (aug g (u :: l))
  | u, [], _, _, _ => ⟨h.anti, h.cap, fun s hs => by
    show sm (g s) C = x s + ((if s = u then 1 else 0) - (if s = u then 1 else 0))
    rw [h.ex s hs]; omega⟩
  | u, v :: l, hd, hc, hf => by
    rw [List.nodup_cons] at hd
    have ih := Fx.along hn he h v l hd.2 (fun z hz => hc z (List.mem_cons_of_mem _ hz)) hf.2
    have huv : u ≠ v := fun e => hd.1 (by rw [e]; exact List.mem_cons_self ..)
    have hg : aug g (v :: l) u v ≤ 0 := by rw [aug_off hd.1]; exact hf.1.2
    have k := ih.unit hn he (hc u (List.mem_cons_self ..)) (hc v (List.mem_cons_of_mem _ (List.mem_cons_self ..))) huv hf.1.1 hg
    refine ⟨k.anti, k.cap, fun s hs => ?_⟩
    have e1 : (u :: v :: l).getLast (by simp) = (v :: l).getLast (by simp) := List.getLast_cons_cons
    rw [e1]
    refine (k.ex s hs).trans ?_
    generalize (v :: l).getLast (by simp) = z
    generalize (if s = u then (1 : Int) else 0) = i1
    generalize (if s = v then (1 : Int) else 0) = i2
    generalize (if s = z then (1 : Int) else 0) = i3
    omega
end
end
section
abbrev pr (s t : Spot) : Arr 2 Spot := ⟨[s, t], rfl⟩
theorem pr_inj {s t s' t' : Spot} : pr s t = pr s' t' ↔ s = s' ∧ t = t' := by
 constructor
 ·intro h
  have := congrArg Arr.l h
  simpa using this
 rintro ⟨rfl, rfl⟩; rfl
theorem delS_mem {α : Type} [DecidableEq α] {k z : α} : ∀ {l : List α}, l.Nodup → (z ∈ delS l k ↔ z ∈ l ∧ z ≠ k)
  | [], _ => by simp [delS]
  | y :: l, h => by
    rw [List.nodup_cons] at h
    rw [delS]
    by_cases c : k = y
    · subst c
      rw [if_pos rfl, List.mem_cons]
      constructor
      · exact fun hz => ⟨.inr hz, fun e => h.1 (e ▸ hz)⟩
      · rintro ⟨rfl | hz, hne⟩
        · exact absurd rfl hne
        · exact hz
    · rw [if_neg c, List.mem_cons, delS_mem h.2, List.mem_cons]
      constructor
      · rintro (rfl | ⟨h1, h2⟩)
        · exact ⟨.inl rfl, fun e => c e.symm⟩
        · exact ⟨.inr h1, h2⟩
      · rintro ⟨rfl | h1, h2⟩
        · exact .inl rfl
        · exact .inr ⟨h1, h2⟩
theorem delS_nodup {α : Type} [DecidableEq α] {k : α} : ∀ {l : List α}, l.Nodup → (delS l k).Nodup
  | [], _ => List.nodup_nil
  | y :: l, h => by
    have h' := List.nodup_cons.1 h
    rw [delS]
    split
    · exact h'.2
    · exact List.nodup_cons.2 ⟨fun hy => h'.1 ((delS_mem h'.2).1 hy).1, delS_nodup h'.2⟩
theorem addS_memG {α : Type} [DecidableEq α] {l : List α} {k z : α} : z ∈ addS l k ↔ z ∈ l ∨ z = k := by
 unfold addS
 split
 ·rename_i h
  exact ⟨.inl, fun h1 => h1.elim id fun e => e ▸ h⟩
 simp
theorem addS_nodup {α : Type} [DecidableEq α] {l : List α} {k : α} (h : l.Nodup) : (addS l k).Nodup := by
 unfold addS
 split
 ·exact h
 rename_i hk
 exact List.nodup_append.2 ⟨h, by simp, fun a ha b hb e => by rw [List.mem_singleton.1 hb] at e; exact hk (e ▸ ha)⟩
structure Wf (f : List (Arr 2 Spot)) : Prop where
  nd : f.Nodup
  one : ∀ s t, pr s t ∈ f → pr t s ∉ f
def gI (f : List (Arr 2 Spot)) (s t : Spot) : Int := (if pr s t ∈ f then 1 else 0) - (if pr t s ∈ f then 1 else 0)
theorem gI_del {f : List (Arr 2 Spot)} (h : Wf f) {u v : Spot} (hne : u ≠ v) (hv : pr v u ∈ f) : Wf (delS f (pr v u)) ∧ gI (delS f (pr v u)) = fun s t => gI f s t + un u v s t := by
 have hm : ∀ z, z ∈ delS f (pr v u) ↔ z ∈ f ∧ z ≠ pr v u := fun z => delS_mem h.nd
 refine ⟨⟨delS_nodup h.nd, fun s t hs ht => h.one s t ((hm _).1 hs).1 ((hm _).1 ht).1⟩, ?_⟩
 funext s t
 have e1 : (if pr s t ∈ delS f (pr v u) then (1 : Int) else 0) = (if pr s t ∈ f then 1 else 0) - (if s = v ∧ t = u then 1 else 0) := by
   by_cases c : s = v ∧ t = u
   · obtain ⟨rfl, rfl⟩ := c
     rw [if_neg fun hz => ((hm _).1 hz).2 rfl, if_pos hv, if_pos ⟨rfl, rfl⟩]; rfl
   · rw [if_neg c]
     by_cases d : pr s t ∈ f
     · rw [if_pos ((hm _).2 ⟨d, fun e => c (pr_inj.1 e)⟩), if_pos d]; rfl
     · rw [if_neg fun hz => d ((hm _).1 hz).1, if_neg d]; rfl
 have e2 : (if pr t s ∈ delS f (pr v u) then (1 : Int) else 0) = (if pr t s ∈ f then 1 else 0) - (if s = u ∧ t = v then 1 else 0) := by
   by_cases c : s = u ∧ t = v
   · obtain ⟨rfl, rfl⟩ := c
     rw [if_neg fun hz => ((hm _).1 hz).2 rfl, if_pos hv, if_pos ⟨rfl, rfl⟩]; rfl
   · rw [if_neg c]
     by_cases d : pr t s ∈ f
     · rw [if_pos ((hm _).2 ⟨d, fun e => c ⟨(pr_inj.1 e).2, (pr_inj.1 e).1⟩⟩), if_pos d]; rfl
     · rw [if_neg fun hz => d ((hm _).1 hz).1, if_neg d]; rfl
 unfold gI un
 rw [e1, e2]; omega
theorem gI_add {f : List (Arr 2 Spot)} (h : Wf f) {u v : Spot} (hne : u ≠ v) (h1 : pr u v ∉ f) (h2 : pr v u ∉ f) : Wf (addS f (pr u v)) ∧ gI (addS f (pr u v)) = fun s t => gI f s t + un u v s t := by
 have hm : ∀ z, z ∈ addS f (pr u v) ↔ z ∈ f ∨ z = pr u v := fun z => addS_memG
 refine ⟨⟨addS_nodup h.nd, fun s t hs ht => ?_⟩, ?_⟩
 ·rcases (hm _).1 hs with a | a <;> rcases (hm _).1 ht with b | b
  ·exact h.one s t a b
  ·obtain ⟨rfl, rfl⟩ := pr_inj.1 b; exact h2 a
  ·obtain ⟨rfl, rfl⟩ := pr_inj.1 a; exact h2 b
  obtain ⟨rfl, rfl⟩ := pr_inj.1 a; exact hne (pr_inj.1 b).1.symm
 funext s t
 have key : ∀ s t : Spot, (if pr s t ∈ addS f (pr u v) then (1 : Int) else 0) = (if pr s t ∈ f then 1 else 0) + (if s = u ∧ t = v then 1 else 0) := fun s t => by
   by_cases c : s = u ∧ t = v
   · obtain ⟨rfl, rfl⟩ := c
     rw [if_pos ((hm _).2 (.inr rfl)), if_neg h1, if_pos ⟨rfl, rfl⟩]; rfl
   · rw [if_neg c]
     by_cases d : pr s t ∈ f
     · rw [if_pos ((hm _).2 (.inl d)), if_pos d]; rfl
     · rw [if_neg fun hz => ((hm _).1 hz).elim d fun e => c (pr_inj.1 e), if_neg d]; rfl
 have e3 : (if t = u ∧ s = v then (1 : Int) else 0) = if s = v ∧ t = u then 1 else 0 := ite_and_comm _ _
 unfold gI un
 rw [key s t, key t s, e3]; omega
end
section
variable {W H : Nat} {p q : Pasture} {Gr : Nat → Nat → Int} {E S : Nat → Nat → Bool} {s : Spot}
def nbL (p : Pasture) (s : Spot) : List Spot := nbs p s.X.toNat s.Y.toNat 4 0
theorem nbL_len (s : Spot) : (nbL p s).length ≤ 4 := nbs_len p _ _ 4 0
theorem nbL_iff (hw : okW p = true) {x y x' y' : Nat} : sp x' y' ∈ nbL p (sp x y) ↔ stepP p y x y' x' := nbs_iff hw
theorem nbL_in (hw : okW p = true) {x y : Nat} {t : Spot} (h : t ∈ nbL p (sp x y)) : ∃ x' y', x' < p.Wide.toNat ∧ y' < p.High.toNat ∧ t = sp x' y' ∧ stepP p y x y' x' := by
 obtain ⟨x', y', _, _, e, hs⟩ := nbs_mem hw 4 0 (by omega) (show t ∈ nbs p x y 4 0 from h)
 have := (cellB_sp hw).1 (hs.cell hw)
 exact ⟨x', y', this.1, this.2, e, hs⟩
theorem hasK_t {α : Type} [DecidableEq α] {met : List α} {k : α} (h : k ∈ met) : hasK met k = true := by unfold hasK; exact decide_eq_true h
theorem hasK_f {α : Type} [DecidableEq α] {met : List α} {k : α} (h : k ∉ met) : hasK met k = false := by unfold hasK; exact decide_eq_false h
theorem nbL_inP (hw : okW p = true) {T : List Spot} (hT : inP p T) {a : Spot} (ha : a ∈ T) : inP p (nbL p a) := fun z hz => by
  obtain ⟨x, y, _, _, rfl⟩ := hT a ha
  obtain ⟨x', y', h1, h2, h3, _⟩ := nbL_in hw hz
  exact ⟨x', y', h1, h2, h3⟩
theorem besideN_ev (v : VPasture p) (hw : okW p = true) {T : List Spot} (hT : inP p T) {a : Spot} (ha : a ∈ T) : Ev (fun k => q0q.f k p a) (nbL p a) ∧ Ev (fun k => q1a.f k p a) (nbL p a) := by
 obtain ⟨w1, w2⟩ := okW_iff.1 hw
 obtain ⟨x, y, hx, hy, rfl⟩ := hT a ha
 exact ⟨besideI_ev v hw (by omega) (by omega), beside_ev v hw (by omega) (by omega)⟩
theorem nodup_len : ∀ {A B : List Spot}, A.Nodup → (∀ z ∈ A, z ∈ B) → A.length ≤ B.length
  | [], B, _, _ => Nat.zero_le _
  | a :: A, B, h, hs => by
    have ha := hs a (List.mem_cons_self ..)
    rw [List.nodup_cons] at h
    have := nodup_len (A := A) (B := B.erase a) h.2 fun z hz => by
      have hne : z ≠ a := fun e => h.1 (e ▸ hz)
      exact (List.mem_erase_of_ne hne).2 (hs z (List.mem_cons_of_mem _ hz))
    rw [List.length_erase_of_mem ha] at this
    have := List.length_pos_of_mem ha
    rw [List.length_cons]; omega
theorem evUp {α : Type} {f : Nat → Option α} {r : α} (h : Ev f r) {φ : Nat → Nat} (hφ : ∀ k, k ≤ φ k) : Ev (fun k => f (φ k)) r := by
 obtain ⟨K, hK⟩ := h
 exact ⟨K, fun k hk => hK _ (Nat.le_trans hk (hφ k))⟩
def eB (p : Pasture) (s t : Spot) : Bool := cellB p s.X s.Y && decide (t ∈ nbL p s)
theorem eB_sp (hw : okW p = true) {x y : Nat} (hx : x < p.Wide.toNat) (hy : y < p.High.toNat) {t : Spot} : eB p (sp x y) t = true ↔ t ∈ nbL p (sp x y) := by
 unfold eB
 rw [Bool.and_eq_true, decide_eq_true_eq]
 exact ⟨fun h => h.2, fun h => ⟨(cellB_sp hw).2 ⟨hx, hy⟩, h⟩⟩
theorem eB_in (hw : okW p = true) {s t : Spot} (h : eB p s t = true) : ∃ x y x' y', x < p.Wide.toNat ∧ y < p.High.toNat ∧ x' < p.Wide.toNat ∧ y' < p.High.toNat ∧ s = sp x y ∧ t = sp x' y' ∧ stepP p y x y' x' := by
 unfold eB at h
 rw [Bool.and_eq_true, decide_eq_true_eq] at h
 obtain ⟨x, y, hx, hy, rfl⟩ := cellB_nat hw h.1
 obtain ⟨h1, h2⟩ := (cellB_sp hw).1 h.1
 obtain ⟨x', y', h3, h4, rfl, h5⟩ := nbL_in hw h.2
 exact ⟨x, y, x', y', h1, h2, h3, h4, rfl, rfl, h5⟩
theorem nbL_back (hw : okW p = true) {x y : Nat} (hx : x < p.Wide.toNat) (hy : y < p.High.toNat) {t : Spot} (h : t ∈ nbL p (sp x y)) : sp x y ∈ nbL p t := by
 obtain ⟨w1, w2⟩ := okW_iff.1 hw
 obtain ⟨x', y', h1, h2, rfl, hs⟩ := nbL_in hw h
 exact (nbL_iff hw).2 (step_back hw (by omega) (by omega) ((cellB_sp hw).2 ⟨hx, hy⟩) hs)
theorem eB_back (hw : okW p = true) {s t : Spot} (h : eB p s t = true) : eB p t s = true := by
 obtain ⟨x, y, x', y', h1, h2, h3, h4, rfl, rfl, h5⟩ := eB_in hw h
 exact (eB_sp hw h3 h4).2 (nbL_back hw h1 h2 ((eB_sp hw h1 h2).1 h))
theorem eB_symm (hw : okW p = true) (s t : Spot) : eB p s t = eB p t s := by
 rw [Bool.eq_iff_iff]; exact ⟨eB_back hw, eB_back hw⟩
def cL (p : Pasture) : List Spot := gridF (fun _ _ => true) p.Wide.toNat 0 p.High.toNat
theorem cL_sp {x y : Nat} : sp x y ∈ cL p ↔ x < p.Wide.toNat ∧ y < p.High.toNat := by
 unfold cL
 rw [gridF_mem]
 constructor
 ·rintro ⟨i, j, _, h1, h2, _, e⟩
  obtain ⟨rfl, rfl⟩ := sp_inj' (x := x) (y := y) (x' := j) (y' := i) e
  exact ⟨h2, by omega⟩
 rintro ⟨h1, h2⟩
 exact ⟨y, x, Nat.zero_le _, by omega, h1, rfl, rfl⟩
theorem cL_mem {s : Spot} : s ∈ cL p ↔ inP p [s] := by
 constructor
 ·intro h z hz
  rw [List.mem_singleton.1 hz]
  obtain ⟨i, j, _, h1, h2, _, e⟩ := gridF_mem.1 h
  exact ⟨j, i, h2, by omega, e⟩
 intro h
 obtain ⟨x, y, hx, hy, rfl⟩ := h s (List.mem_singleton.2 rfl)
 exact cL_sp.2 ⟨hx, hy⟩
theorem cL_nodup : (cL p).Nodup := nodup_bef (gridF_order _ _ _ _)
theorem cL_inP : inP p (cL p) := fun s hs => cL_mem.1 hs s (List.mem_singleton.2 rfl)
theorem inP_cL {T : List Spot} (h : inP p T) {s : Spot} (hs : s ∈ T) : s ∈ cL p := cL_mem.2 fun z hz => by rw [List.mem_singleton.1 hz]; exact h s hs
structure Sent (p : Pasture) (goals : List Spot) (f : List (Arr 2 Spot)) (s : Spot) (met : List Spot) (f' : List (Arr 2 Spot)) : Prop where
  way : ∃ l : List Spot, (s :: l).Nodup ∧ inP p (s :: l) ∧ free (eB p) (gI f) (s :: l) ∧ (s :: l).getLast (by simp) ∈ goals ∧ (∀ z ∈ s :: l, z ∉ met) ∧ gI f' = aug (gI f) (s :: l)
  wf : Wf f'
structure Shut (p : Pasture) (goals : List Spot) (f : List (Arr 2 Spot)) (met met' : List Spot) : Prop where
  nogoal : ∀ z ∈ met', z ∉ met → z ∉ goals
  done : ∀ z ∈ met', z ∉ met → ∀ t ∈ nbL p z, gI f z t ≤ 0 → t ∈ met'
end
section
section
variable {α : Type} [DecidableEq α] {C : List α} {e : α → α → Bool} {A B : α → Bool} {g : α → α → Int} {x : α → Int}
theorem Fl.more (hn : C.Nodup) (he : ∀ s t, e s t = e t s) (hAC : ∀ s, A s = true → s ∈ C) (hAB : ∀ s, A s = true → B s = false) (h : Fl C e A B g) {u : α} {l : List α} (hd : (u :: l).Nodup) (hc : ∀ z ∈ u :: l, z ∈ C) (hf : free e g (u :: l)) (hu : A u = true) (hl : B ((u :: l).getLast (by simp)) = true) : Fl C e A B (aug g (u :: l)) ∧ val C A (aug g (u :: l)) = val C A g + 1 := by
 have hx : Fx C e (fun s => sm (g s) C) g := ⟨h.anti, h.cap, fun s _ => rfl⟩
 have k := hx.along hn he u l hd hc hf
 generalize hz : (u :: l).getLast (by simp) = z at hl k
 have hza : A z = false := by
   cases c : A z
   · rfl
   · rw [hAB z c] at hl; cases hl
 refine ⟨⟨k.anti, k.cap, fun s hs ha hb => ?_⟩, ?_⟩
 ·rw [k.ex s hs, h.cons s hs ha hb, if_neg, if_neg]
  ·rfl
  ·rintro rfl; rw [hl] at hb; cases hb
  rintro rfl; rw [hu] at ha; cases ha
 unfold val
 have e1 : sm (fun s => sm (aug g (u :: l) s) C) (C.filter A) = sm (fun s => sm (g s) C + (if True ∧ s = u then 1 else 0)) (C.filter A) := sm_congr _ fun s hs => by
   rw [List.mem_filter] at hs
   rw [k.ex s hs.1, if_neg (show ¬ s = z from fun e => by rw [e, hza] at hs; exact absurd hs.2 (by simp))]
   simp
 rw [e1, sm_add, sm_one (hn.filter _) (List.mem_filter.2 ⟨hAC u hu, hu⟩), if_pos trivial]
end
section
variable {α : Type} {C : List α} {e : α → α → Bool} {A B : α → Bool} {g : α → α → Int} {x : α → Int}
theorem sm_count (P : α → Bool) : ∀ l : List α, sm (fun t => if P t = true then 1 else 0) l = (l.filter P).length
  | [] => rfl
  | a :: l => by
    rw [sm, sm_count P l, List.filter_cons]
    cases P a
    · simp
    · simp; omega
structure Nr (C : List α) (e : α → α → Bool) (A B : α → Bool) (x : α → Bool) : Prop where
  ex : ∃ g, Fl C e A B g ∧ ∀ s, x s = true ↔ Res C e A g s
  far : ∀ s, B s = true → x s = false
theorem Nr.same (hAC : ∀ s, A s = true → s ∈ C) (he : ∀ s t, e s t = e t s) {x y : α → Bool} (h : Nr C e A B x) (k : Nr C e A B y) : x = y := by
 obtain ⟨⟨g1, f1, r1⟩, b1⟩ := h
 obtain ⟨⟨g2, f2, r2⟩, b2⟩ := k
 exact Res.same f1 f2 hAC he r1 r2 b1 b2
theorem Nr.own (hAC : ∀ s, A s = true → s ∈ C) {x : α → Bool} (h : Nr C e A B x) : ∀ s, A s = true → x s = true := fun s hs => by
  obtain ⟨⟨g1, f1, r1⟩, b1⟩ := h
  exact (r1 s).2 (.base (hAC s hs) hs)
theorem Nr.in_ {x : α → Bool} (h : Nr C e A B x) : ∀ s, x s = true → s ∈ C := fun s hs => by
  obtain ⟨⟨g1, f1, r1⟩, b1⟩ := h
  exact ((r1 s).1 hs).mem
theorem Nr.least (hAC : ∀ s, A s = true → s ∈ C) (he : ∀ s t, e s t = e t s) {x y : α → Bool} (h : Nr C e A B x) (hA : ∀ s, A s = true → y s = true) (hB : ∀ s, B s = true → y s = false) : capC C e x ≤ capC C e y := by
 obtain ⟨⟨g1, f1, r1⟩, b1⟩ := h
 rw [← Res.full f1 hAC he r1 b1]
 exact f1.le hA hB
end
end
section
variable {p : Pasture} {T A B : List Spot}
theorem same_len {α : Type} [DecidableEq α] {a b : List α} (ha : a.Nodup) (hb : b.Nodup) (h : ∀ z, z ∈ a ↔ z ∈ b) : a.length = b.length :=
  ((List.perm_ext_iff_of_nodup ha hb).2 h).length_eq
theorem nbs_nodup (hw : okW p = true) {x y : Nat} (hx : x < 10) (hy : y < 10) : ∀ n i, i + n ≤ 4 → (nbs p x y n i).Nodup
  | 0, i, _ => List.nodup_nil
  | n + 1, i, h => by
    unfold nbs
    refine List.nodup_append.2 ⟨?_, nbs_nodup hw hx hy n (i + 1) (by omega), fun a ha b hb e => ?_⟩
    · split <;> simp
    · have key : ∀ n j, nx (sp x y) (i : Int) ∈ nbs p x y n j → i < j → j + n ≤ 4 → False := by
        intro n
        induction n with
        | zero => intro j h _ _; simp [nbs] at h
        | succ n ih =>
          intro j h hj hn
          unfold nbs at h
          rcases List.mem_append.1 h with h | h
          · split at h
            · have := nx_inj hx hy (show i < 4 by omega) (show j < 4 by omega) (List.mem_singleton.1 h)
              omega
            · simp at h
          · exact ih (j + 1) h (by omega) (by omega)
      split at ha
      · rw [← e, List.mem_singleton.1 ha] at hb
        exact key n (i + 1) hb (by omega) (by omega)
      · simp at ha
theorem nbL_nodup (hw : okW p = true) {x y : Nat} (hx : x < p.Wide.toNat) (hy : y < p.High.toNat) : (nbL p (sp x y)).Nodup := by
 obtain ⟨w1, w2⟩ := okW_iff.1 hw
 exact nbs_nodup (x := x) (y := y) hw (by omega) (by omega) 4 0 (by omega)
theorem sd4_nbs (hw : okW p = true) {x y : Nat} (hx : x < p.Wide.toNat) (hy : y < p.High.toNat) : ∀ n i, i + n ≤ 4 → ((sd4 p T (sp x y) n i).filter fun h => !stH p h).length = ((nbs p x y n i).filter fun t => !decide (t ∈ T)).length
  | 0, i, _ => rfl
  | n + 1, i, h => by
    have ih := sd4_nbs hw hx hy n (i + 1) (by omega)
    unfold nbs
    rw [sd4, List.filter_append, List.filter_append, List.length_append, List.length_append, ih]
    congr 1
    by_cases c : cellB p (nx (sp x y) (i : Int)).X (nx (sp x y) (i : Int)).Y = true
    · obtain ⟨x', y', a, b, s, e1, _, _, e2, ha, hb, hi, e3, _⟩ := hA_ends hw hx hy (show i < 4 by omega) c
      have hst : stH p (hA (sp x y) i) = hurB p x y i := by rw [e2, ← e3]; rfl
      have ho : openB p x y i = !hurB p x y i := by unfold openB; rw [c]; rfl
      have hd : sdC p T (sp x y) i = !decide (nx (sp x y) (i : Int) ∈ T) := by unfold sdC; rw [c]; rfl
      rw [ho, hd]
      cases hu : hurB p x y i <;> by_cases d : nx (sp x y) (i : Int) ∈ T <;> simp [d, hst, hu]
    · have c' : cellB p (nx (sp x y) (i : Int)).X (nx (sp x y) (i : Int)).Y = false := by simpa using c
      have ho : openB p x y i = false := by unfold openB; rw [c']; rfl
      have hd : sdC p T (sp x y) i = false := by unfold sdC; rw [c']; rfl
      rw [ho, hd]; simp
theorem OS_sum (hw : okW p = true) (hT : inP p T) (hn : T.Nodup) : ((OSd p T).length : Int) = sm (fun s => (((nbL p s).filter fun t => !decide (t ∈ T)).length : Int)) T := by
 have h1 : ((sdL p T T).filter fun h => !stH p h).Nodup := (sdL_nodup hw hT hn).filter _
 have h2 : (OSd p T).Nodup := by
   have h0 : (gridH p p.Wide.toNat 0 p.High.toNat).Nodup := (gridH_order _ _).imp fun {a b} h e => by subst e; exact befH_as _ _ h h
   exact h0.filter _
 have h3 : (OSd p T).length = ((sdL p T T).filter fun h => !stH p h).length := same_len h2 h1 fun h => by
   rw [List.mem_filter, sdL_mem hw hT, OS_mem, Bool.not_eq_true', and_assoc]
 have key : ∀ l : List Spot, inP p l → ((((sdL p T l).filter fun h => !stH p h).length : Nat) : Int) = sm (fun s => (((nbL p s).filter fun t => !decide (t ∈ T)).length : Int)) l := by
   intro l
   induction l with
   | nil => intro _; rfl
   | cons s l ih =>
     intro hl
     obtain ⟨x, y, hx, hy, rfl⟩ := hl s (List.mem_cons_self ..)
     have := ih fun z hz => hl z (List.mem_cons_of_mem _ hz)
     have e := sd4_nbs (T := T) hw hx hy 4 0 (by omega)
     rw [sm, ← this]
     unfold sdL
     rw [List.flatMap_cons, List.filter_append, List.length_append, e]
     push_cast; rfl
 rw [h3]; exact key T hT
theorem capC_OS (hw : okW p = true) (hT : inP p T) (hn : T.Nodup) : capC (cL p) (eB p) (fun s => decide (s ∈ T)) = ((OSd p T).length : Int) := by
 have hP : ((cL p).filter fun s => decide (s ∈ T)).Perm T := (List.perm_ext_iff_of_nodup (cL_nodup.filter _) hn).2 fun s => by
   rw [List.mem_filter, decide_eq_true_eq]
   exact ⟨fun h => h.2, fun h => ⟨inP_cL hT h, h⟩⟩
 unfold capC
 rw [sm_perm _ hP, OS_sum hw hT hn]
 refine sm_congr T fun s hs => ?_
 obtain ⟨x, y, hx, hy, rfl⟩ := hT s hs
 rw [sm_count (fun t => eB p (sp x y) t)]
 congr 1
 refine same_len ((cL_nodup.filter _).filter _) ((nbL_nodup hw hx hy).filter _) fun t => ?_
 rw [List.mem_filter, List.mem_filter, List.mem_filter, eB_sp hw hx hy]
 constructor
 ·exact fun h => ⟨h.2, h.1.2⟩
 intro h
 refine ⟨⟨?_, h.2⟩, h.1⟩
 obtain ⟨x', y', h1, h2, rfl, _⟩ := nbL_in hw h.1
 exact cL_sp.2 ⟨h1, h2⟩
end
section
variable {p : Pasture} {A B : Spot → Bool} {g : Spot → Spot → Int}
def gF (m : Tb) (s : Spot) : Int := if 0 ≤ s.X ∧ 0 ≤ s.Y then g2 m s.Y.toNat s.X.toNat else 0
theorem gF_sp (m : Tb) (x y : Nat) : gF m (sp x y) = g2 m y x := by unfold gF sp; simp
theorem gF_put (m : Tb) {y x : Nat} (hy : y < 10) (hx : x < 10) (v : Int) (a : Spot) : gF (put2 m y x v) a = if a = sp x y then v else gF m a := by
 unfold gF
 by_cases c : 0 ≤ a.X ∧ 0 ≤ a.Y
 ·rw [if_pos c, if_pos c, g2_put m hy hx]
  by_cases d : a = sp x y
  ·rw [if_pos d, d, if_pos]; simp [sp]
  rw [if_neg d, if_neg]
  rintro ⟨h1, h2⟩
  refine d (spot_ext ?_ ?_)
  ·show a.X = (x : Int); omega
  show a.Y = (y : Int); omega
 rw [if_neg c, if_neg c, if_neg]
 rintro rfl
 exact c ⟨by show (0 : Int) ≤ (x : Int); omega, by show (0 : Int) ≤ (y : Int); omega⟩
def oEd (s t : Spot) : Bool := decide (s.Y = t.Y ∧ t.X = s.X + 1)
def oSd (s t : Spot) : Bool := decide (s.X = t.X ∧ t.Y = s.Y + 1)
def gT (e s' : Tb) (s t : Spot) : Int := (if oEd s t = true then gF e s else 0) - (if oEd t s = true then gF e t else 0) + ((if oSd s t = true then gF s' s else 0) - (if oSd t s = true then gF s' t else 0))
theorem gT_anti (e s' : Tb) (s t : Spot) : gT e s' s t = - gT e s' t s := by unfold gT; omega
theorem oE_east (x y : Nat) : oEd (sp x y) (sp (x + 1) y) = true ∧ oEd (sp (x + 1) y) (sp x y) = false ∧ oSd (sp x y) (sp (x + 1) y) = false ∧ oSd (sp (x + 1) y) (sp x y) = false := by
 unfold oEd oSd sp
 refine ⟨decide_eq_true ⟨rfl, by push_cast; rfl⟩, decide_eq_false fun h => ?_, decide_eq_false fun h => ?_, decide_eq_false fun h => ?_⟩
 ·have : (x : Int) = ((x + 1 : Nat) : Int) + 1 := h.2
  omega
 ·have : (x : Int) = ((x + 1 : Nat) : Int) := h.1
  omega
 have : ((x + 1 : Nat) : Int) = (x : Int) := h.1
 omega
theorem oS_south (x y : Nat) : oSd (sp x y) (sp x (y + 1)) = true ∧ oSd (sp x (y + 1)) (sp x y) = false ∧ oEd (sp x y) (sp x (y + 1)) = false ∧ oEd (sp x (y + 1)) (sp x y) = false := by
 unfold oEd oSd sp
 refine ⟨decide_eq_true ⟨rfl, by push_cast; rfl⟩, decide_eq_false fun h => ?_, decide_eq_false fun h => ?_, decide_eq_false fun h => ?_⟩
 ·have : (y : Int) = ((y + 1 : Nat) : Int) + 1 := h.2
  omega
 ·have : (y : Int) = ((y + 1 : Nat) : Int) := h.1
  omega
 have : ((y + 1 : Nat) : Int) = (y : Int) := h.1
 omega
theorem gT_east (e s : Tb) (x y : Nat) : gT e s (sp x y) (sp (x + 1) y) = g2 e y x := by
 obtain ⟨h1, h2, h3, h4⟩ := oE_east x y
 unfold gT
 rw [h1, h2, h3, h4]; simp [gF_sp]
theorem gT_south (e s : Tb) (x y : Nat) : gT e s (sp x y) (sp x (y + 1)) = g2 s y x := by
 obtain ⟨h1, h2, h3, h4⟩ := oS_south x y
 unfold gT
 rw [h1, h2, h3, h4]; simp [gF_sp]
theorem ite_un {P Q R : Prop} [Decidable P] [Decidable Q] [Decidable R] {v d : Int} (h : R ↔ P ∧ Q) : (if P then (if Q then v + d else v) else 0) = (if P then v else 0) + if R then d else 0 := by
 by_cases a : P <;> by_cases b : Q <;> simp [a, b, h]
theorem gT_addE (e s : Tb) {x y : Nat} (hx : x < 10) (hy : y < 10) (d : Int) (a b : Spot) : gT (put2 e y x (g2 e y x + d)) s a b = gT e s a b + d * un (sp x y) (sp (x + 1) y) a b := by
 have k : ∀ a b : Spot, (if oEd a b = true then gF (put2 e y x (g2 e y x + d)) a else 0) = (if oEd a b = true then gF e a else 0) + if a = sp x y ∧ b = sp (x + 1) y then d else 0 := fun a b => by
   have h1 : gF (put2 e y x (g2 e y x + d)) a = if a = sp x y then gF e a + d else gF e a := by
     rw [gF_put e hy hx]
     by_cases c : a = sp x y
     · rw [if_pos c, if_pos c, c, gF_sp]
     · rw [if_neg c, if_neg c]
   rw [h1]
   refine ite_un ?_
   constructor
   · rintro ⟨rfl, rfl⟩; exact ⟨(oE_east x y).1, rfl⟩
   · rintro ⟨h, rfl⟩
     refine ⟨rfl, ?_⟩
     unfold oEd at h
     rw [decide_eq_true_eq] at h
     refine spot_ext ?_ ?_
     · show b.X = ((x + 1 : Nat) : Int)
       have : b.X = (x : Int) + 1 := h.2
       omega
     · exact h.1.symm
 have e1 : (if b = sp x y ∧ a = sp (x + 1) y then d else 0) = d * (if a = sp (x + 1) y ∧ b = sp x y then 1 else 0) := by
   by_cases c : a = sp (x + 1) y ∧ b = sp x y
   · rw [if_pos ⟨c.2, c.1⟩, if_pos c]; omega
   · rw [if_neg fun h => c ⟨h.2, h.1⟩, if_neg c]; omega
 have e2 : (if a = sp x y ∧ b = sp (x + 1) y then d else 0) = d * (if a = sp x y ∧ b = sp (x + 1) y then 1 else 0) := by
   split <;> omega
 unfold gT un
 rw [k a b, k b a, e1, e2, Int.mul_sub]; omega
theorem gT_addS (e s : Tb) {x y : Nat} (hx : x < 10) (hy : y < 10) (d : Int) (a b : Spot) : gT e (put2 s y x (g2 s y x + d)) a b = gT e s a b + d * un (sp x y) (sp x (y + 1)) a b := by
 have k : ∀ a b : Spot, (if oSd a b = true then gF (put2 s y x (g2 s y x + d)) a else 0) = (if oSd a b = true then gF s a else 0) + if a = sp x y ∧ b = sp x (y + 1) then d else 0 := fun a b => by
   have h1 : gF (put2 s y x (g2 s y x + d)) a = if a = sp x y then gF s a + d else gF s a := by
     rw [gF_put s hy hx]
     by_cases c : a = sp x y
     · rw [if_pos c, if_pos c, c, gF_sp]
     · rw [if_neg c, if_neg c]
   rw [h1]
   refine ite_un ?_
   constructor
   · rintro ⟨rfl, rfl⟩; exact ⟨(oS_south x y).1, rfl⟩
   · rintro ⟨h, rfl⟩
     refine ⟨rfl, ?_⟩
     unfold oSd at h
     rw [decide_eq_true_eq] at h
     refine spot_ext ?_ ?_
     · exact h.1.symm
     · show b.Y = ((y + 1 : Nat) : Int)
       have : b.Y = (y : Int) + 1 := h.2
       omega
 have e1 : (if b = sp x y ∧ a = sp x (y + 1) then d else 0) = d * (if a = sp x (y + 1) ∧ b = sp x y then 1 else 0) := by
   by_cases c : a = sp x (y + 1) ∧ b = sp x y
   · rw [if_pos ⟨c.2, c.1⟩, if_pos c]; omega
   · rw [if_neg fun h => c ⟨h.2, h.1⟩, if_neg c]; omega
 have e2 : (if a = sp x y ∧ b = sp x (y + 1) then d else 0) = d * (if a = sp x y ∧ b = sp x (y + 1) then 1 else 0) := by
   split <;> omega
 unfold gT un
 rw [k a b, k b a, e1, e2, Int.mul_sub]; omega
theorem un_swap {α : Type} [DecidableEq α] (u v s t : α) : un u v s t = - un v u s t := by unfold un; omega
inductive Bk (p : Pasture) (A : Spot → Bool) (g : Spot → Spot → Int) (by_ : Spot → Int) : Spot → List Spot → Prop
  | base {s : Spot} : A s = true → by_ s = -1 → Bk p A g by_ s [s]
  | step {s t : Spot} {r : List Spot} {i : Nat} : Bk p A g by_ t r → i < 4 → by_ s = (i : Int) → nx s (i : Int) = t → eB p t s = true → g t s ≤ 0 → Bk p A g by_ s (r ++ [s])
theorem Bk.congr {b b' : Spot → Int} {s : Spot} {r : List Spot} (h : Bk p A g b s r) (k : ∀ z ∈ r, b' z = b z) : Bk p A g b' s r := by
  induction h with
  | base h1 h2 => exact .base h1 ((k _ (List.mem_singleton.2 rfl)).trans h2)
  | step h1 h2 h3 h4 h5 h6 ih =>
    exact .step (ih fun z hz => k z (List.mem_append_left _ hz)) h2 ((k _ (List.mem_append_right _ (List.mem_singleton.2 rfl))).trans h3) h4 h5 h6
theorem Bk.last {b : Spot → Int} {s : Spot} {r : List Spot} (h : Bk p A g b s r) : ∃ r', r = r' ++ [s] := by
  cases h with
  | base _ _ => exact ⟨[], rfl⟩
  | step => exact ⟨_, rfl⟩
theorem free_snoc {e : Spot → Spot → Bool} {t s : Spot} : ∀ {l : List Spot}, free e g (l ++ [t]) → e t s = true → g t s ≤ 0 → free e g (l ++ [t] ++ [s])
  | [], _, h1, h2 => ⟨⟨h1, h2⟩, trivial⟩
  | [a], h, h1, h2 => ⟨h.1, ⟨h1, h2⟩, trivial⟩
  | a :: b :: l, h, h1, h2 => ⟨h.1, free_snoc (l := b :: l) h.2 h1 h2⟩
theorem Bk.way {b : Spot → Int} {s : Spot} {r : List Spot} (h : Bk p A g b s r) : free (eB p) g r ∧ ∃ u l, r = u :: l ∧ A u = true ∧ (u :: l).getLast (by simp) = s := by
  induction h with
  | base h1 _ => exact ⟨trivial, _, [], rfl, h1, rfl⟩
  | @step s t r i h1 h2 h3 h4 h5 h6 ih =>
    obtain ⟨k, u, l, rfl, k1, k2⟩ := ih
    obtain ⟨r', e⟩ := h1.last
    refine ⟨?_, u, l ++ [s], rfl, k1, List.getLast_concat (l := u :: l)⟩
    rw [e] at k ⊢
    exact free_snoc k h5 h6
theorem aug_snoc {t s : Spot} : ∀ (l : List Spot) (g : Spot → Spot → Int), aug g (l ++ [t] ++ [s]) = aug (fun a b => g a b + un t s a b) (l ++ [t])
  | [], g => rfl
  | [a], g => by
    funext c d
    show (g c d + un t s c d) + un a t c d = _
    rfl
  | a :: b :: l, g => by
    funext c d
    have := congrFun (congrFun (aug_snoc (t := t) (s := s) (b :: l) g) c) d
    show aug g (b :: l ++ [t] ++ [s]) c d + un a b c d = aug (fun a b => g a b + un t s a b) (b :: l ++ [t]) c d + un a b c d
    rw [this]
end
section
variable {W H : Nat} {p q : Pasture} {Gr : Nat → Nat → Int} {E S : Nat → Nat → Bool} {s : Spot}
inductive Rc (p : Pasture) (f : List (Arr 2 Spot)) (s : Spot) : Spot → Prop
  | refl : Rc p f s s
  | step {u t : Spot} : Rc p f s u → t ∈ nbL p u → gI f u t ≤ 0 → Rc p f s t
theorem Rc.head {f : List (Arr 2 Spot)} {s t z : Spot} (h1 : t ∈ nbL p s) (h2 : gI f s t ≤ 0) (h : Rc p f t z) : Rc p f s z := by
  induction h with
  | refl => exact .step .refl h1 h2
  | step _ a b ih => exact .step ih a b
theorem gI_free {f : List (Arr 2 Spot)} {s t : Spot} (h : pr s t ∉ f) : gI f s t ≤ 0 := by
 unfold gI; rw [if_neg h]; split <;> omega
theorem gI_used {f : List (Arr 2 Spot)} (w : Wf f) {s t : Spot} (h : pr s t ∈ f) : 0 < gI f s t := by
 unfold gI; rw [if_pos h, if_neg (w.one s t h)]; omega
theorem inP_len (hw : okW p = true) {l : List Spot} (h : inP p l) (hn : l.Nodup) : l.length ≤ 100 := by
 obtain ⟨w1, w2⟩ := okW_iff.1 hw
 have h1 := nodup_len (B := gridF (fun _ _ => true) p.Wide.toNat 0 p.High.toNat) hn fun z hz => by
   obtain ⟨x, y, hx, hy, rfl⟩ := h z hz
   exact gridF_mem.2 ⟨y, x, Nat.zero_le _, by omega, hx, rfl, rfl⟩
 rw [gridT_len] at h1
 have h2 : p.High.toNat * p.Wide.toNat ≤ 10 * 10 := Nat.mul_le_mul (by omega) (by omega)
 omega
structure Dead (p : Pasture) (goals : List Spot) (f : List (Arr 2 Spot)) (s : Spot) (met met' : List Spot) : Prop where
  self : s ∈ met'
  more : ∀ z ∈ met, z ∈ met'
  nd : met'.Nodup
  cells : inP p met'
  shut : Shut p goals f met met'
  rc : ∀ z ∈ met', z ∈ met ∨ Rc p f s z
theorem push_ev (v : VPasture p) (hw : okW p = true) {goals : List Spot} (hg : goals.length ≤ 1000) : ∀ (d : Nat) (f : List (Arr 2 Spot)) (s : Spot) (met : List Spot), Wf f → inP p [s] → inP p met → met.Nodup → s ∉ met → 100 - met.length ≤ d →
 (∃ f' met', Ev (fun k => q0b.f k p f s goals met) (true, f', met') ∧ Sent p goals f s met f') ∨ ∃ met', Ev (fun k => q0b.f k p f s goals met) (false, f, met') ∧ Dead p goals f s met met'
  | 0, f, s, met, hf, hs, hm, hn, hsm, hd => by
    exfalso
    have := inP_len hw (l := s :: met) (fun z hz => by
      rcases List.mem_cons.1 hz with rfl | hz
      · exact hs _ (List.mem_singleton.2 rfl)
      · exact hm z hz) (List.nodup_cons.2 ⟨hsm, hn⟩)
    rw [List.length_cons] at this
    omega
  | d + 1, f, s, met, hf, hs, hm, hn, hsm, hd => by
    obtain ⟨w1, w2⟩ := okW_iff.1 hw
    have hc := contS_ev goals s (by omega)
    by_cases hgs : s ∈ goals
    · left
      exact ⟨f, met, Ev.step (fun k => q0b.f.eq_2 _ _ _ _ _ _) (hc.bind (Ev.pos (decide_eq_true hgs) (Ev.const rfl))), ⟨[], by simp, hs, trivial, hgs, fun z hz => by rw [List.mem_singleton.1 hz]; exact hsm, rfl⟩, hf⟩
    · have hb := (besideN_ev v hw hs (List.mem_singleton.2 rfl)).1
      have hnl := nbL_len (p := p) s
      have hni := nbL_inP hw hs (List.mem_singleton.2 rfl)
      have e0 : addS met s = met ++ [s] := by unfold addS; rw [if_neg hsm]
      have i0 : ∀ z, z ∈ addS met s ↔ z ∈ met ∨ z = s := fun z => addS_memG
      have key : ∀ i, i ≤ (nbL p s).length → ∀ m : List Spot, inP p m → m.Nodup → (∀ z ∈ addS met s, z ∈ m) → (∀ z ∈ m, z ∉ addS met s → z ∉ goals ∧ ∀ t ∈ nbL p z, gI f z t ≤ 0 → t ∈ m) → (∀ j (hj : j < (nbL p s).length), j < i → gI f s (nbL p s)[j] ≤ 0 → (nbL p s)[j] ∈ m) → (∀ z ∈ m, z ∈ addS met s ∨ Rc p f s z) → ∀ φ : Nat → Nat, (∀ k, k ≤ φ k) →
          (∃ f' m', Ev (fun k => q0b.l1 (q0b.f (φ k)) p s goals (nbL p s) k f m (i : Int)) (.inl (true, f', m')) ∧ Sent p goals f s met f') ∨ ∃ m', Ev (fun k => q0b.l1 (q0b.f (φ k)) p s goals (nbL p s) k f m (i : Int)) (.inr (f, m')) ∧ Dead p goals f s met m' := by
        refine upL ?_ ?_
        · intro m a1 a2 a3 a4 a5 a6 φ hφ
          right
          refine ⟨m, Ev.step (fun k => q0b.l1.eq_2 _ _ _ _ _ _ _ _ _) (Ev.neg (by omega) (Ev.const rfl)), a3 s ((i0 s).2 (.inr rfl)), fun z hz => a3 z ((i0 z).2 (.inl hz)), a2, a1, ⟨fun z hz hz' => ?_, fun z hz hz' t ht hf' => ?_⟩, fun z hz => ?_⟩
          · by_cases c : z = s
            · rw [c]; exact hgs
            · exact (a4 z hz fun h => ((i0 z).1 h).elim hz' c).1
          · by_cases c : z = s
            · subst c
              obtain ⟨j, hj, e⟩ := List.getElem_of_mem ht
              rw [← e] at hf' ⊢
              exact a5 j hj hj hf'
            · exact (a4 z hz fun h => ((i0 z).1 h).elim hz' c).2 t ht hf'
          · rcases a6 z hz with h | h
            · rcases (i0 z).1 h with h | h
              · exact .inl h
              · rw [h]; exact .inr .refl
            · exact .inr h
        · intro i hi ih m a1 a2 a3 a4 a5 a6 φ hφ
          have hφ' : ∀ k, k ≤ φ (k + 1) := fun k => Nat.le_trans (Nat.le_succ k) (hφ (k + 1))
          have g : getI (nbL p s) (i : Int) = some (nbL p s)[i] := getI_nat hi
          have htn := List.getElem_mem hi
          generalize ht : (nbL p s)[i] = t at g htn
          have hw1 := wsucc hi (by omega)
          by_cases hsk : t ∈ m ∨ pr s t ∈ f
          · have hy : ∀ j (hj : j < (nbL p s).length), j < i + 1 → gI f s (nbL p s)[j] ≤ 0 → (nbL p s)[j] ∈ m := fun j hj hji hf' => by
              rcases Nat.lt_succ_iff_lt_or_eq.1 hji with h | h
              · exact a5 j hj h hf'
              · subst h
                rw [ht] at hf' ⊢
                rcases hsk with h | h
                · exact h
                · have := gI_used hf h; omega
            have sk : Ev (fun _ : Nat => if hasK m t = true then some true else some (hasK f (⟨[s, t], rfl⟩ : Arr 2 Spot))) true := by
              by_cases c : t ∈ m
              · exact Ev.pos (hasK_t c) (Ev.const rfl)
              · exact Ev.neg (by rw [hasK_f c]; simp) (Ev.const (by rw [hasK_t (hsk.resolve_left c)]))
            have st : ∀ {r}, Ev (fun k => q0b.l1 (q0b.f (φ (k + 1))) p s goals (nbL p s) k f m ((i + 1 : Nat) : Int)) r → Ev (fun k => q0b.l1 (q0b.f (φ k)) p s goals (nbL p s) k f m (i : Int)) r := fun {r} h => by
              rw [← hw1] at h
              exact Ev.step (fun k => q0b.l1.eq_2 _ _ _ _ _ _ _ _ _) (Ev.pos (by omega) (Ev.bind (Ev.const g) (sk.bind (Ev.pos rfl h))))
            rcases ih m a1 a2 a3 a4 hy a6 (fun k => φ (k + 1)) hφ' with ⟨f', m', h1, h2⟩ | ⟨m', h1, h2⟩
            · exact .inl ⟨f', m', st h1, h2⟩
            · exact .inr ⟨m', st h1, h2⟩
          · have htm : t ∉ m := fun h => hsk (.inl h)
            have htf : pr s t ∉ f := fun h => hsk (.inr h)
            have sk : Ev (fun _ : Nat => if hasK m t = true then some true else some (hasK f (⟨[s, t], rfl⟩ : Arr 2 Spot))) false := Ev.neg (by rw [hasK_f htm]; simp) (Ev.const (by rw [hasK_f htf]))
            have htp : inP p [t] := fun z hz => by rw [List.mem_singleton.1 hz]; exact hni t htn
            have hlen : met.length + 1 ≤ m.length := by
              have := nodup_len (A := addS met s) (B := m) (addS_nodup hn) a3
              rw [e0, List.length_append] at this
              simpa using this
            have hsm' : s ∈ m := a3 s ((i0 s).2 (.inr rfl))
            rcases push_ev v hw hg d f t m hf htp a1 a2 htm (by omega) with ⟨f2, m2, h1, ⟨l, k1, k2, k3, k4, k5, k6⟩, k7⟩ | ⟨m2, h1, h2⟩
            · left
              have h1 := evUp h1 hφ'
              have hso : s ∉ t :: l := fun h => k5 s h hsm'
              have hst : s ≠ t := fun e => hso (by rw [e]; exact List.mem_cons_self ..)
              have hgs0 : gI f s t ≤ 0 := gI_free htf
              have hns : pr s t ∉ f2 := fun h => by
                have := gI_used k7 h
                rw [k6, aug_off hso] at this; omega
              obtain ⟨x, y, hx, hy, es⟩ := hs s (List.mem_singleton.2 rfl)
              have heb : eB p s t = true := by rw [es] at htn ⊢; exact (eB_sp hw hx hy).2 htn
              have way : ∀ f', Wf f' → (gI f' = fun a b => gI f2 a b + un s t a b) → Sent p goals f s met f' := fun f' w e => by
                refine ⟨⟨t :: l, List.nodup_cons.2 ⟨hso, k1⟩, fun z hz => ?_, ⟨⟨heb, hgs0⟩, k3⟩, ?_, fun z hz => ?_, ?_⟩, w⟩
                · rcases List.mem_cons.1 hz with rfl | hz
                  · exact hs z (List.mem_singleton.2 rfl)
                  · exact k2 z hz
                · rw [List.getLast_cons_cons]; exact k4
                · rcases List.mem_cons.1 hz with rfl | hz
                  · exact hsm
                  · exact fun h => k5 z hz (a3 z ((i0 z).2 (.inl h)))
                · rw [e, k6]; rfl
              by_cases hts : pr t s ∈ f2
              · obtain ⟨z1, z2⟩ := gI_del k7 hst hts
                exact ⟨_, _, Ev.step (fun k => q0b.l1.eq_2 _ _ _ _ _ _ _ _ _) (Ev.pos (by omega) (Ev.bind (Ev.const g) (sk.bind (Ev.neg (by simp) (h1.bind (Ev.pos rfl (Ev.pos (hasK_t hts) (Ev.const rfl)))))))), way _ z1 z2⟩
              · obtain ⟨z1, z2⟩ := gI_add k7 hst hns hts
                exact ⟨_, _, Ev.step (fun k => q0b.l1.eq_2 _ _ _ _ _ _ _ _ _) (Ev.pos (by omega) (Ev.bind (Ev.const g) (sk.bind (Ev.neg (by simp) (h1.bind (Ev.pos rfl (Ev.neg (by rw [hasK_f hts]; simp) (Ev.const rfl)))))))), way _ z1 z2⟩
            · have h1 := evUp h1 hφ'
              have st : ∀ {r}, Ev (fun k => q0b.l1 (q0b.f (φ (k + 1))) p s goals (nbL p s) k f m2 ((i + 1 : Nat) : Int)) r → Ev (fun k => q0b.l1 (q0b.f (φ k)) p s goals (nbL p s) k f m (i : Int)) r := fun {r} h => by
                rw [← hw1] at h
                exact Ev.step (fun k => q0b.l1.eq_2 _ _ _ _ _ _ _ _ _) (Ev.pos (by omega) (Ev.bind (Ev.const g) (sk.bind (Ev.neg (by simp) (h1.bind (Ev.neg (by simp) h))))))
              have b3 : ∀ z ∈ addS met s, z ∈ m2 := fun z hz => h2.more z (a3 z hz)
              have b4 : ∀ z ∈ m2, z ∉ addS met s → z ∉ goals ∧ ∀ t ∈ nbL p z, gI f z t ≤ 0 → t ∈ m2 := fun z hz hz' => by
                by_cases c : z ∈ m
                · obtain ⟨c1, c2⟩ := a4 z c hz'
                  exact ⟨c1, fun t ht hf' => h2.more t (c2 t ht hf')⟩
                · exact ⟨h2.shut.nogoal z hz c, h2.shut.done z hz c⟩
              have b5 : ∀ j (hj : j < (nbL p s).length), j < i + 1 → gI f s (nbL p s)[j] ≤ 0 → (nbL p s)[j] ∈ m2 := fun j hj hji hf' => by
                rcases Nat.lt_succ_iff_lt_or_eq.1 hji with h | h
                · exact h2.more _ (a5 j hj h hf')
                · subst h
                  rw [ht]; exact h2.self
              have b6 : ∀ z ∈ m2, z ∈ addS met s ∨ Rc p f s z := fun z hz => by
                rcases h2.rc z hz with h | h
                · exact a6 z h
                · exact .inr (h.head htn (gI_free htf))
              rcases ih m2 h2.cells h2.nd b3 b4 b5 b6 (fun k => φ (k + 1)) hφ' with ⟨f', m', h1, h2⟩ | ⟨m', h1, h2⟩
              · exact .inl ⟨f', m', st h1, h2⟩
              · exact .inr ⟨m', st h1, h2⟩
      have m0 : inP p (addS met s) := fun z hz => by
        rcases (i0 z).1 hz with h | h
        · exact hm z h
        · rw [h]; exact hs s (List.mem_singleton.2 rfl)
      rcases key 0 (Nat.zero_le _) (addS met s) m0 (addS_nodup hn) (fun z hz => hz) (fun z hz hz' => absurd hz hz') (fun j hj h => by omega) (fun z hz => .inl hz) (fun k => k) (fun k => Nat.le_refl k) with ⟨f', m', h1, h2⟩ | ⟨m', h1, h2⟩
      · exact .inl ⟨f', m', Ev.step (fun k => q0b.f.eq_2 _ _ _ _ _ _) (hc.bind (Ev.neg (by simpa using hgs) (hb.bind (h1.bind (Ev.const rfl))))), h2⟩
      · exact .inr ⟨m', Ev.step (fun k => q0b.f.eq_2 _ _ _ _ _ _) (hc.bind (Ev.neg (by simpa using hgs) (hb.bind (h1.bind (Ev.const rfl))))), h2⟩
end
section
variable {p : Pasture} {a b : List Spot} {s : Spot}
abbrev inB (a : List Spot) : Spot → Bool := fun s => decide (s ∈ a)
theorem inB_t {a : List Spot} {s : Spot} : inB a s = true ↔ s ∈ a := decide_eq_true_iff
structure Pt (p : Pasture) (a b : List Spot) : Prop where
  v : VPasture p
  ok : vP p = true
  ia : inP p a
  ib : inP p b
  al : a.length ≤ 100
  bl : b.length ≤ 100
  no : ∀ s ∈ a, s ∉ b
theorem Pt.AC (h : Pt p a b) : ∀ s, inB a s = true → s ∈ cL p := fun s hs => inP_cL h.ia (inB_t.1 hs)
theorem Pt.AB (h : Pt p a b) : ∀ s, inB a s = true → inB b s = false := fun s hs => decide_eq_false (h.no s (inB_t.1 hs))
theorem Pt.le (h : Pt p a b) {g : Spot → Spot → Int} (hf : Fl (cL p) (eB p) (inB a) (inB b) g) : val (cL p) (inB a) g ≤ capC (cL p) (eB p) (inB a) := hf.le (fun _ h => h) (fun s hs => by
  cases c : inB a s
  · rfl
  · rw [h.AB s c] at hs; cases hs)
abbrev FlI (p : Pasture) (a b : List Spot) (f : List (Arr 2 Spot)) : Prop := Fl (cL p) (eB p) (inB a) (inB b) (gI f)
theorem Rc.res {f : List (Arr 2 Spot)} (hw : okW p = true) (hp : inP p [s]) (h0 : Res (cL p) (eB p) (inB a) (gI f) s) {t : Spot} (h : Rc p f s t) : Res (cL p) (eB p) (inB a) (gI f) t := by
  induction h with
  | refl => exact h0
  | @step u t _ h1 h2 ih =>
    obtain ⟨x, y, hx, hy, rfl⟩ := cL_inP u ih.mem
    obtain ⟨x', y', hx', hy', rfl, _⟩ := nbL_in hw h1
    exact .step ih (cL_sp.2 ⟨hx', hy'⟩) ((eB_sp hw hx hy).2 h1) h2
theorem round_ev (h : Pt p a b) {f : List (Arr 2 Spot)} (hf : Wf f) (hF : FlI p a b f) :
 (∃ f' met, Ev (fun k => q08.l2 p a b k f [] 0) (f', met, true) ∧ Wf f' ∧ FlI p a b f' ∧ val (cL p) (inB a) (gI f') = val (cL p) (inB a) (gI f) + 1) ∨
 ∃ met, Ev (fun k => q08.l2 p a b k f [] 0) (f, met, false) ∧ (∀ s, s ∈ met ↔ Res (cL p) (eB p) (inB a) (gI f) s) ∧ ∀ s ∈ met, s ∉ b := by
 have hw := vP_okW h.ok
 have al := h.al
 have bl := h.bl
 have key : ∀ i, i ≤ a.length → ∀ m : List Spot, inP p m → m.Nodup → (∀ z ∈ m, z ∉ b ∧ ∀ t ∈ nbL p z, gI f z t ≤ 0 → t ∈ m) → (∀ j (hj : j < a.length), j < i → a[j] ∈ m) → (∀ z ∈ m, Res (cL p) (eB p) (inB a) (gI f) z) →
     (∃ f' met, Ev (fun k => q08.l2 p a b k f m (i : Int)) (f', met, true) ∧ Wf f' ∧ FlI p a b f' ∧ val (cL p) (inB a) (gI f') = val (cL p) (inB a) (gI f) + 1) ∨
     ∃ met, Ev (fun k => q08.l2 p a b k f m (i : Int)) (f, met, false) ∧ (∀ s, s ∈ met ↔ Res (cL p) (eB p) (inB a) (gI f) s) ∧ ∀ s ∈ met, s ∉ b := by
   refine upL ?_ ?_
   · intro m m1 m2 m3 m4 m5
     right
     refine ⟨m, Ev.step (fun k => q08.l2.eq_2 _ _ _ _ _ _ _) (Ev.neg (by omega) (Ev.const rfl)), fun s => ⟨m5 s, fun hr => ?_⟩, fun s hs => (m3 s hs).1⟩
     induction hr with
     | base _ ha =>
       obtain ⟨j, hj, e⟩ := List.getElem_of_mem (inB_t.1 ha)
       rw [← e]; exact m4 j hj hj
     | @step s t h1 ht he hg ih =>
       obtain ⟨x, y, hx, hy, rfl⟩ := cL_inP s h1.mem
       exact (m3 _ ih).2 t ((eB_sp hw hx hy).1 he) hg
   · intro i hi ih m m1 m2 m3 m4 m5
     have g : getI a (i : Int) = some a[i] := getI_nat hi
     have hia := List.getElem_mem hi
     have m4' : ∀ m' : List Spot, (∀ z ∈ m, z ∈ m') → a[i] ∈ m' → ∀ j (hj : j < a.length), j < i + 1 → a[j] ∈ m' := fun m' hm hs j hj hji => by
       rcases Nat.lt_succ_iff_lt_or_eq.1 hji with h | h
       · exact hm _ (m4 j hj h)
       · subst h; exact hs
     generalize hs : a[i] = s at g hia m4'
     have hsp : inP p [s] := fun z hz => by rw [List.mem_singleton.1 hz]; exact h.ia s hia
     by_cases c : s ∈ m
     · have e := ih m m1 m2 m3 (m4' m (fun z hz => hz) c) m5
       rw [← wsucc hi (by omega)] at e
       have st : ∀ {r}, Ev (fun k => q08.l2 p a b k f m (IntKind.i64.wrap ((i : Int) + 1))) r → Ev (fun k => q08.l2 p a b k f m (i : Int)) r := fun {r} h =>
         Ev.step (fun k => q08.l2.eq_2 _ _ _ _ _ _ _) (Ev.pos (by omega) (Ev.bind (Ev.const g) (Ev.neg (by rw [hasK_t c]; simp) h)))
       rcases e with ⟨f', met, e1, e2⟩ | ⟨met, e1, e2⟩
       · exact .inl ⟨f', met, st e1, e2⟩
       · exact .inr ⟨met, st e1, e2⟩
     · rcases push_ev h.v hw (goals := b) (by omega) 100 f s m hf hsp m1 m2 c (by omega) with ⟨f', m', e1, ⟨l, k1, k2, k3, k4, k5, k6⟩, k7⟩ | ⟨m', e1, e2⟩
       · left
         obtain ⟨z1, z2⟩ := hF.more cL_nodup (eB_symm hw) h.AC h.AB k1 (fun z hz => inP_cL k2 hz) k3 (inB_t.2 hia) (inB_t.2 k4)
         refine ⟨f', m', Ev.step (fun k => q08.l2.eq_2 _ _ _ _ _ _ _) (Ev.pos (by omega) (Ev.bind (Ev.const g) (Ev.pos (by rw [hasK_f c]; rfl) (e1.bind (Ev.pos rfl (Ev.const rfl)))))), k7, ?_, ?_⟩
         · show Fl _ _ _ _ (gI f')
           rw [k6]; exact z1
         · rw [k6]; exact z2
       · have hr : Res (cL p) (eB p) (inB a) (gI f) s := .base (inP_cL h.ia hia) (inB_t.2 hia)
         have e := ih m' e2.cells e2.nd (fun z hz => by
           by_cases d : z ∈ m
           · obtain ⟨d1, d2⟩ := m3 z d
             exact ⟨d1, fun t ht hg => e2.more t (d2 t ht hg)⟩
           · exact ⟨e2.shut.nogoal z hz d, e2.shut.done z hz d⟩) (m4' m' e2.more e2.self) (fun z hz => by
           rcases e2.rc z hz with d | d
           · exact m5 z d
           · exact d.res hw hsp hr)
         rw [← wsucc hi (by omega)] at e
         have st : ∀ {r}, Ev (fun k => q08.l2 p a b k f m' (IntKind.i64.wrap ((i : Int) + 1))) r → Ev (fun k => q08.l2 p a b k f m (i : Int)) r := fun {r} h =>
           Ev.step (fun k => q08.l2.eq_2 _ _ _ _ _ _ _) (Ev.pos (by omega) (Ev.bind (Ev.const g) (Ev.pos (by rw [hasK_f c]; rfl) (e1.bind (Ev.neg (by simp) h)))))
         rcases e with ⟨f', met, e1, e2⟩ | ⟨met, e1, e2⟩
         · exact .inl ⟨f', met, st e1, e2⟩
         · exact .inr ⟨met, st e1, e2⟩
 exact key 0 (Nat.zero_le _) [] (fun z hz => by simp at hz) List.nodup_nil (fun z hz => by simp at hz) (fun j hj h => by omega) (fun z hz => by simp at hz)
structure NearL (p : Pasture) (a b T : List Spot) : Prop where
  srt : T.Pairwise bef
  cells : inP p T
  nr : Nr (cL p) (eB p) (inB a) (inB b) (inB T)
theorem grid_in (q : Nat → Nat → Bool) : (gridF q p.Wide.toNat 0 p.High.toNat).Pairwise bef ∧ inP p (gridF q p.Wide.toNat 0 p.High.toNat) ∧ ∀ x y, x < p.Wide.toNat → y < p.High.toNat → (sp x y ∈ gridF q p.Wide.toNat 0 p.High.toNat ↔ q y x = true) := by
 refine ⟨gridF_order _ _ _ _, fun s hs => ?_, fun x y hx hy => ?_⟩
 ·obtain ⟨i, j, _, h1, h2, _, e⟩ := gridF_mem.1 hs
  exact ⟨j, i, h2, by omega, e⟩
 rw [gridF_mem]
 constructor
 ·rintro ⟨i, j, _, h1, h2, h3, e⟩
  obtain ⟨rfl, rfl⟩ := sp_inj' (x := x) (y := y) (x' := j) (y' := i) e
  exact h3
 intro h; exact ⟨y, x, Nat.zero_le _, by omega, hx, h, rfl⟩
theorem near_fin (h : Pt p a b) {f : List (Arr 2 Spot)} (hF : FlI p a b f) {met : List Spot} (e1 : Ev (fun k => q08.l2 p a b k f [] 0) (f, met, false)) (e2 : ∀ s, s ∈ met ↔ Res (cL p) (eB p) (inB a) (gI f) s) (e3 : ∀ s ∈ met, s ∉ b) : ∃ T, Ev (fun k => q08.l1 p a b k f) (.inl T) ∧ NearL p a b T := by
 have hw := vP_okW h.ok
 obtain ⟨g1, g2, g3⟩ := grid_in (p := p) (fun y x => hasK met (sp x y))
 have hm : ∀ s, s ∈ gridF (fun y x => hasK met (sp x y)) p.Wide.toNat 0 p.High.toNat ↔ s ∈ met := fun s => by
   constructor
   · intro hs
     obtain ⟨x, y, hx, hy, rfl⟩ := g2 s hs
     have := (g3 x y hx hy).1 hs
     by_cases c : sp x y ∈ met
     · exact c
     · rw [hasK_f c] at this; exact absurd this (by simp)
   · intro hs
     obtain ⟨x, y, hx, hy, rfl⟩ := cL_inP s ((e2 s).1 hs).mem
     exact (g3 x y hx hy).2 (hasK_t hs)
 refine ⟨_, Ev.step (fun k => q08.l1.eq_2 _ _ _ _ _) (e1.bind (Ev.pos (by simp) (Ev.bind (Ev.of 24 fun k hk => cells_eq hw (g := q21.f met) (q := fun y x => hasK met (sp x y)) (fun y x hy hx => rfl) hk) (Ev.const rfl)))), g1, g2, ⟨gI f, hF, fun s => ?_⟩, fun s hs => ?_⟩
 ·rw [inB_t, hm, e2]
 refine decide_eq_false fun hT => ?_
 exact e3 s ((hm s).1 hT) (inB_t.1 hs)
theorem nearI_loop (h : Pt p a b) : ∀ (n : Nat) (f : List (Arr 2 Spot)), Wf f → FlI p a b f → (capC (cL p) (eB p) (inB a) - val (cL p) (inB a) (gI f)).toNat ≤ n → ∃ T, Ev (fun k => q08.l1 p a b k f) (.inl T) ∧ NearL p a b T := by
  intro n
  induction n with
  | zero =>
    intro f hf hF hn
    rcases round_ev h hf hF with ⟨f', met, e1, e2, e3, e4⟩ | ⟨met, e1, e2, e3⟩
    · have := h.le e3
      omega
    · exact near_fin h hF e1 e2 e3
  | succ n ih =>
    intro f hf hF hn
    rcases round_ev h hf hF with ⟨f', met, e1, e2, e3, e4⟩ | ⟨met, e1, e2, e3⟩
    · have := h.le e3
      obtain ⟨T, t1, t2⟩ := ih f' e2 e3 (by omega)
      exact ⟨T, Ev.step (fun k => q08.l1.eq_2 _ _ _ _ _) (e1.bind (Ev.neg (by simp) t1)), t2⟩
    · exact near_fin h hF e1 e2 e3
theorem nearI_ev (h : Pt p a b) : ∃ T, Ev (fun k => q08.f k p a b) T ∧ NearL p a b T := by
 have h0 : ∀ s t, gI [] s t = 0 := fun s t => by unfold gI; simp
 obtain ⟨T, t1, t2⟩ := nearI_loop h _ [] ⟨List.nodup_nil, fun s t hs => by simp at hs⟩ ⟨fun s t => by rw [h0, h0]; rfl, fun s t => by rw [h0]; split <;> omega, fun s _ _ _ => sm_zero _ fun t _ => h0 s t⟩ (Nat.le_refl _)
 exact ⟨T, t1.bind (Ev.const rfl), t2⟩
end
section
variable {p : Pasture} {a b : List Spot} {s t : Spot} {x y i : Nat} {A B : Spot → Bool} {g : Spot → Spot → Int}
theorem side4 (hw : okW p = true) (hx : x < p.Wide.toNat) (hy : y < p.High.toNat) (hi : i < 4) (hc : cellB p (nx (sp x y) (i : Int)).X (nx (sp x y) (i : Int)).Y = true) :
 (i = 0 ∧ ∃ z, y = z + 1 ∧ nx (sp x y) (i : Int) = sp x z) ∨ (i = 1 ∧ nx (sp x y) (i : Int) = sp (x + 1) y ∧ x + 1 < p.Wide.toNat) ∨ (i = 2 ∧ nx (sp x y) (i : Int) = sp x (y + 1) ∧ y + 1 < p.High.toNat) ∨ (i = 3 ∧ ∃ z, x = z + 1 ∧ nx (sp x y) (i : Int) = sp z y) := by
  obtain ⟨w1, w2⟩ := okW_iff.1 hw
  obtain ⟨x', y', e1, h1, h2⟩ : ∃ x' y', nx (sp x y) (i : Int) = sp x' y' ∧ x' < p.Wide.toNat ∧ y' < p.High.toNat := by
    obtain ⟨x', y', a, b, s, e1, h1, h2, _⟩ := hA_ends hw hx hy hi hc
    exact ⟨x', y', e1, h1, h2⟩
  rcases side hi with rfl | rfl | rfl | rfl
  · left
    cases y with
    | zero =>
      exfalso
      rw [show ((0 : Nat) : Int) = 0 from rfl] at e1
      rw [show nx (sp x 0) 0 = ⟨(x : Int), IntKind.i8.wrap (((0 : Nat) : Int) - 1)⟩ from rfl, show IntKind.i8.wrap (((0 : Nat) : Int) - 1) = -1 by decide] at e1
      have : (-1 : Int) = (y' : Int) := congrArg Spot.Y e1
      omega
    | succ z => exact ⟨rfl, z, rfl, nx0 (x := x) (y := z + 1) (by omega) (by omega)⟩
  · right; left
    have e := nx1 (y := y) (show x < 10 by omega)
    have e2 : nx (sp x y) 1 = sp x' y' := e1
    rw [e] at e2
    obtain ⟨rfl, _⟩ := sp_inj' e2
    exact ⟨rfl, e, h1⟩
  · right; right; left
    have e := nx2 (x := x) (show y < 10 by omega)
    have e2 : nx (sp x y) 2 = sp x' y' := e1
    rw [e] at e2
    obtain ⟨_, rfl⟩ := sp_inj' e2
    exact ⟨rfl, e, h2⟩
  right; right; right
  cases x with
  | zero =>
    exfalso
    rw [show ((3 : Nat) : Int) = 3 from rfl] at e1
    rw [show nx (sp 0 y) 3 = ⟨IntKind.i8.wrap (((0 : Nat) : Int) - 1), (y : Int)⟩ from rfl, show IntKind.i8.wrap (((0 : Nat) : Int) - 1) = -1 by decide] at e1
    have : (-1 : Int) = (x' : Int) := congrArg Spot.X e1
    omega
  | succ z => exact ⟨rfl, z, rfl, nx3 (x := z + 1) (y := y) (by omega) (by omega)⟩
def bnd (k : Int) (f : l03Flow) : Prop := ∀ y x, y < 10 → x < 10 → (-k ≤ g2 f.east y x ∧ g2 f.east y x ≤ k) ∧ -k ≤ g2 f.south y x ∧ g2 f.south y x ≤ k
def gTf (f : l03Flow) (s t : Spot) : Int := gT f.east f.south s t
theorem at_eq (hw : okW p = true) {f : l03Flow} (hb : bnd 120 f) (hx : x < p.Wide.toNat) (hy : y < p.High.toNat) (hi : i < 4) (hc : cellB p (nx (sp x y) (i : Int)).X (nx (sp x y) (i : Int)).Y = true) : q2n.f f (sp x y) (i : Int) = some (gTf f (sp x y) (nx (sp x y) (i : Int))) := by
 obtain ⟨w1, w2⟩ := okW_iff.1 hw
 unfold q2n.f
 rw [next_eq, Option.bind_some]
 rcases side4 hw hx hy hi hc with ⟨rfl, z, rfl, e⟩ | ⟨rfl, e, h⟩ | ⟨rfl, e, h⟩ | ⟨rfl, z, rfl, e⟩
 ·rw [e, if_pos (show ((0 : Nat) : Int) = 0 from rfl)]
  show ((getI f.south.l (z : Int)).bind fun t4 => (getI t4.l (x : Int)).bind fun t5 => some (IntKind.i8.wrap (0 - t5))) = _
  have := hb z x (by omega) (by omega)
  rw [getR _ (show z < 10 by omega), Option.bind_some, getA _ (show x < 10 by omega), Option.bind_some]
  show some (IntKind.i8.wrap (0 - g2 f.south z x)) = _
  rw [w8 (by omega) (by omega)]
  unfold gTf
  rw [gT_anti, gT_south]; congr 1; omega
 ·rw [e, if_neg (show ¬ ((1 : Nat) : Int) = 0 by omega), if_pos (show ((1 : Nat) : Int) = 1 from rfl)]
  show ((getI f.east.l (y : Int)).bind fun t4 => (getI t4.l (x : Int)).bind fun t5 => some t5) = _
  rw [getR _ (show y < 10 by omega), Option.bind_some, getA _ (show x < 10 by omega), Option.bind_some]
  unfold gTf
  rw [gT_east]; rfl
 ·rw [e, if_neg (show ¬ ((2 : Nat) : Int) = 0 by omega), if_neg (show ¬ ((2 : Nat) : Int) = 1 by omega), if_pos (show ((2 : Nat) : Int) = 2 from rfl)]
  show ((getI f.south.l (y : Int)).bind fun t4 => (getI t4.l (x : Int)).bind fun t5 => some t5) = _
  rw [getR _ (show y < 10 by omega), Option.bind_some, getA _ (show x < 10 by omega), Option.bind_some]
  unfold gTf
  rw [gT_south]; rfl
 rw [e, if_neg (show ¬ ((3 : Nat) : Int) = 0 by omega), if_neg (show ¬ ((3 : Nat) : Int) = 1 by omega), if_neg (show ¬ ((3 : Nat) : Int) = 2 by omega)]
 show ((getI f.east.l (y : Int)).bind fun t4 => (getI t4.l (z : Int)).bind fun t5 => some (IntKind.i8.wrap (0 - t5))) = _
 have := hb y z (by omega) (by omega)
 rw [getR _ (show y < 10 by omega), Option.bind_some, getA _ (show z < 10 by omega), Option.bind_some]
 show some (IntKind.i8.wrap (0 - g2 f.east y z)) = _
 rw [w8 (by omega) (by omega)]
 unfold gTf
 rw [gT_anti, gT_east]; congr 1; omega
theorem bnd_mono {f : l03Flow} {k k' : Int} (h : bnd k f) (hk : k ≤ k') : bnd k' f := fun y x hy hx => by
  have := h y x hy hx; omega
theorem put_bnd {m : Tb} {k : Int} {y x : Nat} (h : ∀ b a, b < 10 → a < 10 → -k ≤ g2 m b a ∧ g2 m b a ≤ k) (hy : y < 10) (hx : x < 10) {d : Int} (hd : -1 ≤ d ∧ d ≤ 1) : ∀ b a, b < 10 → a < 10 → -(k + 1) ≤ g2 (put2 m y x (g2 m y x + d)) b a ∧ g2 (put2 m y x (g2 m y x + d)) b a ≤ k + 1 := fun b a hb ha => by
  have h1 := h y x hy hx
  have h2 := h b a hb ha
  rw [g2_put m hy hx]
  split <;> omega
theorem add_eq (hw : okW p = true) {f : l03Flow} {k : Int} (hk : k ≤ 120) (hb : bnd k f) (hx : x < p.Wide.toNat) (hy : y < p.High.toNat) (hi : i < 4) (hc : cellB p (nx (sp x y) (i : Int)).X (nx (sp x y) (i : Int)).Y = true) : ∃ f', q2q.f f (sp x y) (i : Int) = some f' ∧ bnd (k + 1) f' ∧ gTf f' = fun s t => gTf f s t + un (sp x y) (nx (sp x y) (i : Int)) s t := by
 obtain ⟨w1, w2⟩ := okW_iff.1 hw
 unfold q2q.f
 rw [next_eq, Option.bind_some]
 have hE : ∀ b a, b < 10 → a < 10 → -k ≤ g2 f.east b a ∧ g2 f.east b a ≤ k := fun b a hb' ha => (hb b a hb' ha).1
 have hS : ∀ b a, b < 10 → a < 10 → -k ≤ g2 f.south b a ∧ g2 f.south b a ≤ k := fun b a hb' ha => (hb b a hb' ha).2
 have mono : ∀ {m : Tb}, (∀ b a, b < 10 → a < 10 → -k ≤ g2 m b a ∧ g2 m b a ≤ k) → ∀ b a, b < 10 → a < 10 → -(k + 1) ≤ g2 m b a ∧ g2 m b a ≤ k + 1 := fun h b a hb ha => by have := h b a hb ha; omega
 rcases side4 hw hx hy hi hc with ⟨rfl, z, rfl, e⟩ | ⟨rfl, e, h⟩ | ⟨rfl, e, h⟩ | ⟨rfl, z, rfl, e⟩
 ·rw [e, if_pos (show ((0 : Nat) : Int) = 0 from rfl)]
  have hz := hS z x (by omega) (by omega)
  refine ⟨⟨f.east, put2 f.south z x (g2 f.south z x + (-1))⟩, ?_, fun b a hb' ha => ⟨mono hE b a hb' ha, put_bnd hS (by omega) (by omega) (by omega) b a hb' ha⟩, ?_⟩
  ·show ((getI f.south.l (z : Int)).bind fun t4 => (getI t4.l (x : Int)).bind fun t5 => (getI f.south.l (z : Int)).bind fun t6 => (getI t6.l (x : Int)).bind fun t7 => some (⟨f.east, aset f.south (z : Int).toNat (aset t6 (x : Int).toNat (IntKind.i8.wrap (t5 - 1)))⟩ : l03Flow)) = _
   simp only [getR _ (show z < 10 by omega), getA _ (show x < 10 by omega), Option.bind_some]
   show some (⟨f.east, aset f.south (z : Int).toNat (aset (gR f.south z) (x : Int).toNat (IntKind.i8.wrap (g2 f.south z x - 1)))⟩ : l03Flow) = _
   rw [w8 (by omega) (by omega)]; rfl
  funext s t
  show gT f.east (put2 f.south z x (g2 f.south z x + (-1))) s t = _
  rw [gT_addS _ _ (by omega) (by omega), un_swap (sp x (z + 1)) (sp x z)]
  unfold gTf; omega
 ·rw [e, if_neg (show ¬ ((1 : Nat) : Int) = 0 by omega), if_pos (show ((1 : Nat) : Int) = 1 from rfl)]
  have hz := hE y x (by omega) (by omega)
  refine ⟨⟨put2 f.east y x (g2 f.east y x + 1), f.south⟩, ?_, fun b a hb' ha => ⟨put_bnd hE (by omega) (by omega) (by omega) b a hb' ha, mono hS b a hb' ha⟩, ?_⟩
  ·show ((getI f.east.l (y : Int)).bind fun t4 => (getI t4.l (x : Int)).bind fun t5 => (getI f.east.l (y : Int)).bind fun t6 => (getI t6.l (x : Int)).bind fun t7 => some (⟨aset f.east (y : Int).toNat (aset t6 (x : Int).toNat (IntKind.i8.wrap (t5 + 1))), f.south⟩ : l03Flow)) = _
   simp only [getR _ (show y < 10 by omega), getA _ (show x < 10 by omega), Option.bind_some]
   show some (⟨aset f.east (y : Int).toNat (aset (gR f.east y) (x : Int).toNat (IntKind.i8.wrap (g2 f.east y x + 1))), f.south⟩ : l03Flow) = _
   rw [w8 (by omega) (by omega)]; rfl
  funext s t
  show gT (put2 f.east y x (g2 f.east y x + 1)) f.south s t = _
  rw [gT_addE _ _ (by omega) (by omega)]
  unfold gTf; omega
 ·rw [e, if_neg (show ¬ ((2 : Nat) : Int) = 0 by omega), if_neg (show ¬ ((2 : Nat) : Int) = 1 by omega), if_pos (show ((2 : Nat) : Int) = 2 from rfl)]
  have hz := hS y x (by omega) (by omega)
  refine ⟨⟨f.east, put2 f.south y x (g2 f.south y x + 1)⟩, ?_, fun b a hb' ha => ⟨mono hE b a hb' ha, put_bnd hS (by omega) (by omega) (by omega) b a hb' ha⟩, ?_⟩
  ·show ((getI f.south.l (y : Int)).bind fun t4 => (getI t4.l (x : Int)).bind fun t5 => (getI f.south.l (y : Int)).bind fun t6 => (getI t6.l (x : Int)).bind fun t7 => some (⟨f.east, aset f.south (y : Int).toNat (aset t6 (x : Int).toNat (IntKind.i8.wrap (t5 + 1)))⟩ : l03Flow)) = _
   simp only [getR _ (show y < 10 by omega), getA _ (show x < 10 by omega), Option.bind_some]
   show some (⟨f.east, aset f.south (y : Int).toNat (aset (gR f.south y) (x : Int).toNat (IntKind.i8.wrap (g2 f.south y x + 1)))⟩ : l03Flow) = _
   rw [w8 (by omega) (by omega)]; rfl
  funext s t
  show gT f.east (put2 f.south y x (g2 f.south y x + 1)) s t = _
  rw [gT_addS _ _ (by omega) (by omega)]
  unfold gTf; omega
 rw [e, if_neg (show ¬ ((3 : Nat) : Int) = 0 by omega), if_neg (show ¬ ((3 : Nat) : Int) = 1 by omega), if_neg (show ¬ ((3 : Nat) : Int) = 2 by omega)]
 have hz := hE y z (by omega) (by omega)
 refine ⟨⟨put2 f.east y z (g2 f.east y z + (-1)), f.south⟩, ?_, fun b a hb' ha => ⟨put_bnd hE (by omega) (by omega) (by omega) b a hb' ha, mono hS b a hb' ha⟩, ?_⟩
 ·show ((getI f.east.l (y : Int)).bind fun t4 => (getI t4.l (z : Int)).bind fun t5 => (getI f.east.l (y : Int)).bind fun t6 => (getI t6.l (z : Int)).bind fun t7 => some (⟨aset f.east (y : Int).toNat (aset t6 (z : Int).toNat (IntKind.i8.wrap (t5 - 1))), f.south⟩ : l03Flow)) = _
  simp only [getR _ (show y < 10 by omega), getA _ (show z < 10 by omega), Option.bind_some]
  show some (⟨aset f.east (y : Int).toNat (aset (gR f.east y) (z : Int).toNat (IntKind.i8.wrap (g2 f.east y z - 1))), f.south⟩ : l03Flow) = _
  rw [w8 (by omega) (by omega)]; rfl
 funext s t
 show gT (put2 f.east y z (g2 f.east y z + (-1))) f.south s t = _
 rw [gT_addE _ _ (by omega) (by omega), un_swap (sp (z + 1) y) (sp z y)]
 unfold gTf; omega
theorem nx_back (hw : okW p = true) (hx : x < p.Wide.toNat) (hy : y < p.High.toNat) (hi : i < 4) (hc : cellB p (nx (sp x y) (i : Int)).X (nx (sp x y) (i : Int)).Y = true) : nx (nx (sp x y) (i : Int)) (((i + 2) % 4 : Nat) : Int) = sp x y := by
 obtain ⟨w1, w2⟩ := okW_iff.1 hw
 rcases side4 hw hx hy hi hc with ⟨rfl, z, rfl, e⟩ | ⟨rfl, e, h⟩ | ⟨rfl, e, h⟩ | ⟨rfl, z, rfl, e⟩
 ·rw [e]; exact nx2 (by omega)
 ·rw [e]
  have := nx3 (x := x + 1) (y := y) (by omega) (by omega)
  rw [Nat.add_sub_cancel] at this; exact this
 ·rw [e]
  have := nx0 (x := x) (y := y + 1) (by omega) (by omega)
  rw [Nat.add_sub_cancel] at this; exact this
 rw [e]; exact nx1 (by omega)
theorem tmod4 {i : Nat} (hi : i < 4) : Int.tmod (IntKind.i64.wrap ((i : Int) + 2)) 4 = (((i + 2) % 4 : Nat) : Int) := by
 rcases side hi with rfl | rfl | rfl | rfl <;> decide
theorem back_ev (hw : okW p = true) {m : Tb} {s : Spot} {r : List Spot} (h : Bk p A g (gF m) s r) : (∀ z ∈ r, inP p [z]) → ∀ (f : l03Flow) (k : Nat), bnd (k : Int) f → k + r.length ≤ 119 → ∃ f', Ev (fun j => q07.l4 m j f s) f' ∧ gTf f' = aug (gTf f) r := by
  obtain ⟨w1, w2⟩ := okW_iff.1 hw
  induction h with
  | @base s h1 h2 =>
    intro hr f k hb hk
    obtain ⟨x, y, hx, hy, rfl⟩ := hr s (List.mem_singleton.2 rfl) s (List.mem_singleton.2 rfl)
    rw [gF_sp] at h2
    refine ⟨f, Ev.step (fun j => q07.l4.eq_2 _ _ _ _) (Ev.bind (Ev.const (getR m (show y < 10 by omega))) (Ev.bind (Ev.const (getA _ (show x < 10 by omega))) (Ev.neg ?_ (Ev.const rfl)))), rfl⟩
    show ¬ 0 ≤ g2 m y x
    omega
  | @step s t r i h1 hi h3 h4 h5 h6 ih =>
    intro hr f k hb hk
    obtain ⟨x, y, hx, hy, rfl⟩ := hr s (List.mem_append_right _ (List.mem_singleton.2 rfl)) s (List.mem_singleton.2 rfl)
    obtain ⟨r', e⟩ := h1.last
    have htr : t ∈ r := by rw [e]; simp
    obtain ⟨x', y', hx', hy', et⟩ := hr t (List.mem_append_left _ htr) t (List.mem_singleton.2 rfl)
    rw [gF_sp] at h3
    have hc : cellB p (nx (sp x y) (i : Int)).X (nx (sp x y) (i : Int)).Y = true := by rw [h4, et]; exact (cellB_sp hw).2 ⟨hx', hy'⟩
    have hbk := nx_back hw hx hy hi hc
    rw [h4] at hbk
    have hi' : (i + 2) % 4 < 4 := Nat.mod_lt _ (by omega)
    have hc' : cellB p (nx (sp x' y') (((i + 2) % 4 : Nat) : Int)).X (nx (sp x' y') (((i + 2) % 4 : Nat) : Int)).Y = true := by rw [← et, hbk]; exact (cellB_sp hw).2 ⟨hx, hy⟩
    obtain ⟨f1, e1, e2, e3⟩ := add_eq hw (f := f) (k := (k : Int)) (by omega) hb hx' hy' hi' hc'
    rw [← et] at e1 e3
    rw [hbk] at e3
    rw [List.length_append] at hk
    simp only [List.length_cons, List.length_nil] at hk
    obtain ⟨f', z1, z2⟩ := ih (fun z hz => hr z (List.mem_append_left _ hz)) f1 (k + 1) (by push_cast; exact e2) (by omega)
    refine ⟨f', ?_, ?_⟩
    · have gg : gA (gR m y) x = (i : Int) := h3
      refine Ev.step (fun j => q07.l4.eq_2 _ _ _ _) (Ev.bind (Ev.const (getR m (show y < 10 by omega))) (Ev.bind (Ev.const ((getA _ (show x < 10 by omega)).trans (congrArg some gg))) (Ev.pos (by omega) (Ev.bind (Ev.const (getR m (show y < 10 by omega))) (Ev.bind (Ev.const ((getA _ (show x < 10 by omega)).trans (congrArg some gg))) (Ev.bind (Ev.const ((next_eq _ _).trans (congrArg some h4))) (Ev.bind (Ev.const (getR m (show y < 10 by omega))) (Ev.bind (Ev.const ((getA _ (show x < 10 by omega)).trans (congrArg some gg))) ?_))))))))
      rw [tmod4 hi]
      exact Ev.bind (Ev.const e1) z1
    · rw [z2, e3, e, aug_snoc]
end
section
variable {p : Pasture} {a b : List Spot} {s t : Spot} {x y i : Nat} {A B : Spot → Bool} {g : Spot → Spot → Int}
structure KR (p : Pasture) (A : Spot → Bool) (g : Spot → Spot → Int) (m : Bt) (by_ : Tb) (q : List Spot) : Prop where
  cells : inP p q
  nd : q.Nodup
  seen : ∀ x y, x < 10 → y < 10 → (b2 m y x = true ↔ sp x y ∈ q)
  ch : ∀ s ∈ q, ∃ r, Bk p A g (gF by_) s r ∧ r.Nodup ∧ ∀ z ∈ r, z ∈ q
theorem KR.put (hw : okW p = true) {m : Bt} {by_ : Tb} {q : List Spot} (h : KR p A g m by_ q) {x' y' : Nat} (hx : x < p.Wide.toNat) (hy : y < p.High.toNat) (hs : sp x y ∈ q) (hx' : x' < p.Wide.toNat) (hy' : y' < p.High.toNat) (hi : i < 4) (e : nx (sp x y) (i : Int) = sp x' y') (ht : sp x' y' ∉ q) (he : eB p (sp x y) (sp x' y') = true) (hg : g (sp x y) (sp x' y') ≤ 0) : KR p A g (putM m y' x') (put2 by_ y' x' (((i + 2) % 4 : Nat) : Int)) (q ++ [sp x' y']) := by
 obtain ⟨w1, w2⟩ := okW_iff.1 hw
 have hbk := nx_back hw hx hy hi (by rw [e]; exact (cellB_sp hw).2 ⟨hx', hy'⟩)
 rw [e] at hbk
 have same : ∀ z, z ≠ sp x' y' → gF (put2 by_ y' x' (((i + 2) % 4 : Nat) : Int)) z = gF by_ z := fun z hz => by rw [gF_put _ (by omega) (by omega), if_neg hz]
 refine ⟨fun z hz => ?_, List.nodup_append.2 ⟨h.nd, by simp, fun a ha b hb e => ?_⟩, fun c d hc hd => ?_, fun z hz => ?_⟩
 ·rcases List.mem_append.1 hz with hz | hz
  ·exact h.cells z hz
  exact ⟨x', y', hx', hy', List.mem_singleton.1 hz⟩
 ·rw [List.mem_singleton.1 hb] at e; rw [e] at ha; exact ht ha
 ·rw [b2_put m (by omega) (by omega), Bool.or_eq_true, decide_eq_true_eq, h.seen c d hc hd, List.mem_append, List.mem_singleton, sp_inj]
  constructor
  ·rintro (⟨h1, h2⟩ | h1)
   ·exact .inr ⟨h2.symm, h1.symm⟩
   exact .inl h1
  rintro (h1 | ⟨h1, h2⟩)
  ·exact .inr h1
  exact .inl ⟨h2.symm, h1.symm⟩
 rcases List.mem_append.1 hz with hz | hz
 ·obtain ⟨r, r1, r2, r3⟩ := h.ch z hz
  exact ⟨r, r1.congr fun z hz => same z fun e => ht (e ▸ r3 z hz), r2, fun z hz => List.mem_append_left _ (r3 z hz)⟩
 rw [List.mem_singleton.1 hz]
 obtain ⟨r, r1, r2, r3⟩ := h.ch _ hs
 refine ⟨r ++ [sp x' y'], .step (r1.congr fun z hz => same z fun e => ht (e ▸ r3 z hz)) (Nat.mod_lt _ (by omega)) (by rw [gF_put _ (by omega) (by omega), if_pos rfl]) hbk he hg, List.nodup_append.2 ⟨r2, by simp, fun a ha b hb e => ?_⟩, fun z hz => ?_⟩
 ·rw [List.mem_singleton.1 hb] at e; rw [e] at ha; exact ht (r3 _ ha)
 rcases List.mem_append.1 hz with hz | hz
 ·exact List.mem_append_left _ (r3 z hz)
 exact List.mem_append_right _ hz
theorem reach5 (v : VPasture p) (hw : okW p = true) {f : l03Flow} (hb : bnd 1 f) (hx : x < p.Wide.toNat) (hy : y < p.High.toNat) : ∀ i : Nat, i ≤ 4 → ∀ (m : Bt) (by_ : Tb) (q : List Spot), KR p A (gTf f) m by_ q → sp x y ∈ q →
 ∃ m' by' r, KR p A (gTf f) m' by' (q ++ r) ∧ Ev (fun k => q07.l5 p f (sp x y) k m by_ q (i : Int)) (m', by', q ++ r) ∧ ∀ j : Nat, i ≤ j → j < 4 → openB p x y j = true → gTf f (sp x y) (nx (sp x y) (j : Int)) ≤ 0 → nx (sp x y) (j : Int) ∈ q ++ r := by
 obtain ⟨w1, w2⟩ := okW_iff.1 hw
 refine upL ?_ ?_
 ·intro m by_ q hk hs
  refine ⟨m, by_, [], by rw [List.append_nil]; exact hk, ?_, fun j h1 h2 => by omega⟩
  rw [List.append_nil]
  exact Ev.step (fun k => q07.l5.eq_2 _ _ _ _ _ _ _ _) (Ev.neg (by omega) (Ev.const rfl))
 intro i hi ih m by_ q hk hs
 have hcl := closed_eq v hw (show x < 10 by omega) (show y < 10 by omega) hi
 have skip : (openB p x y i = true → gTf f (sp x y) (nx (sp x y) (i : Int)) ≤ 0 → nx (sp x y) (i : Int) ∈ q) → Ev (fun k => (q23.f p (sp x y) (i : Int)).bind fun t86 => if t86 = true then (some true) else ((getI m.l (nx (sp x y) (i : Int)).Y).bind fun t87 => (getI t87.l (nx (sp x y) (i : Int)).X).bind fun t88 => if t88 = true then (some true) else ((q2n.f f (sp x y) (i : Int)).bind fun t89 => some (decide (0 < t89))))) true → ∃ m' by' r, KR p A (gTf f) m' by' (q ++ r) ∧ Ev (fun k => q07.l5 p f (sp x y) k m by_ q (i : Int)) (m', by', q ++ r) ∧ ∀ j : Nat, i ≤ j → j < 4 → openB p x y j = true → gTf f (sp x y) (nx (sp x y) (j : Int)) ≤ 0 → nx (sp x y) (j : Int) ∈ q ++ r := fun h0 h1 => by
   obtain ⟨m', by', r, r1, r2, r3⟩ := ih m by_ q hk hs
   rw [← wsucc hi (by omega)] at r2
   refine ⟨m', by', r, r1, Ev.step (fun k => q07.l5.eq_2 _ _ _ _ _ _ _ _) (Ev.pos (by omega) (Ev.bind (Ev.const (next_eq _ _)) (h1.bind (Ev.pos rfl r2)))), fun j j1 j2 j3 j4 => ?_⟩
   by_cases c : j = i
   · subst c; exact List.mem_append_left _ (h0 j3 j4)
   · exact r3 j (by omega) j2 j3 j4
 cases ho : openB p x y i
 ·rw [ho] at hcl
  exact skip (fun h => by rw [ho] at h; cases h) (Ev.bind (Ev.const hcl) (Ev.pos (by simp) (Ev.const rfl)))
 rw [ho] at hcl
 have hc := ho
 unfold openB at hc
 rw [Bool.and_eq_true] at hc
 obtain ⟨x', y', _, _, _, e, hx', hy', _⟩ := hA_ends hw hx hy hi hc.1
 have hat := at_eq hw (bnd_mono hb (by omega)) hx hy hi hc.1
 have hsn := hk.seen x' y' (by omega) (by omega)
 have gm : getI m.l (nx (sp x y) (i : Int)).Y = some (bR m y') ∧ getI (bR m y').l (nx (sp x y) (i : Int)).X = some (b2 m y' x') := by
   rw [e]; exact ⟨bR_get m (by omega), bA_get _ (by omega)⟩
 by_cases cs : b2 m y' x' = true
 ·refine skip (fun _ _ => by rw [e]; exact hsn.1 cs) (Ev.bind (Ev.const hcl) (Ev.neg (by simp) (Ev.bind (Ev.const gm.1) (Ev.bind (Ev.const gm.2) (Ev.pos cs (Ev.const rfl))))))
 by_cases cg : 0 < gTf f (sp x y) (nx (sp x y) (i : Int))
 ·exact skip (fun _ h => by omega) (Ev.bind (Ev.const hcl) (Ev.neg (by simp) (Ev.bind (Ev.const gm.1) (Ev.bind (Ev.const gm.2) (Ev.neg cs (Ev.bind (Ev.const hat) (Ev.const (by rw [decide_eq_true cg]))))))))
 have ht : sp x' y' ∉ q := fun h => cs (hsn.2 h)
 have hst : sp x' y' ∈ nbL p (sp x y) := (nbL_iff hw).2 ⟨by omega, by omega, i, hi, ho, e⟩
 have hk1 := hk.put hw hx hy hs hx' hy' hi e ht ((eB_sp hw hx hy).2 hst) (by rw [← e]; omega)
 obtain ⟨m', by', r, r1, r2, r3⟩ := ih _ _ _ hk1 (List.mem_append_left _ hs)
 rw [← wsucc hi (by omega), List.append_assoc] at r2
 rw [List.append_assoc] at r1 r3
 have hl := inP_len hw hk.cells hk.nd
 refine ⟨m', by', [sp x' y'] ++ r, r1, Ev.step (fun k => q07.l5.eq_2 _ _ _ _ _ _ _ _) (Ev.pos (by omega) (Ev.bind (Ev.const ((next_eq _ _).trans (congrArg some e))) (Ev.bind (a := false) (Ev.bind (Ev.const hcl) (Ev.neg (by simp) (Ev.bind (Ev.const (bR_get m (show y' < 10 by omega))) (Ev.bind (Ev.const (bA_get _ (show x' < 10 by omega))) (Ev.neg cs (Ev.bind (Ev.const hat) (Ev.const (by rw [decide_eq_false cg])))))))) (Ev.neg (by simp) (Ev.bind (Ev.const (bR_get m (show y' < 10 by omega))) (Ev.bind (Ev.const (bA_get _ (show x' < 10 by omega))) (Ev.bind (Ev.const (getR by_ (show y' < 10 by omega))) (Ev.bind (Ev.const (getA _ (show x' < 10 by omega))) (Ev.bind (Ev.const (chkT (by simp; omega))) ?_))))))))), fun j j1 j2 j3 j4 => ?_⟩
 ·rw [tmod4 hi]; exact r2
 by_cases c : j = i
 ·subst c; rw [e]; simp
 exact r3 j (by omega) j2 j3 j4
theorem reach3 (v : VPasture p) (hw : okW p = true) {f : l03Flow} (hb : bnd 1 f) {mb : Bt} {b : List Spot} (hmb : ∀ y x, y < 10 → x < 10 → b2 mb y x = decide (sp x y ∈ b)) : ∀ (d i : Nat) (m : Bt) (by_ : Tb) (q : List Spot), KR p A (gTf f) m by_ q → i ≤ q.length → (∀ s ∈ q.take i, s ∉ b ∧ ∀ t ∈ nbL p s, gTf f s t ≤ 0 → t ∈ q) → 100 - i ≤ d →
 (∃ m' f' s r, Ev (fun k => q07.l3 p f mb k m by_ q (i : Int)) (.inl (m', true, f')) ∧ (∃ B, Bk p A (gTf f) B s r) ∧ r.Nodup ∧ inP p r ∧ s ∈ b ∧ gTf f' = aug (gTf f) r) ∨
 ∃ m' by' r, Ev (fun k => q07.l3 p f mb k m by_ q (i : Int)) (.inr m') ∧ KR p A (gTf f) m' by' (q ++ r) ∧ ∀ s ∈ q ++ r, s ∉ b ∧ ∀ t ∈ nbL p s, gTf f s t ≤ 0 → t ∈ q ++ r := by
  obtain ⟨w1, w2⟩ := okW_iff.1 hw
  intro d
  induction d with
  | zero =>
    intro i m by_ q hk hi hd hdd
    right
    have hl := inP_len hw hk.cells hk.nd
    have e : i = q.length := by omega
    refine ⟨m, by_, [], Ev.step (fun k => q07.l3.eq_2 _ _ _ _ _ _ _ _) (Ev.neg (by omega) (Ev.const rfl)), by rw [List.append_nil]; exact hk, ?_⟩
    rw [List.append_nil]
    rw [e, List.take_length] at hd
    exact hd
  | succ d ih =>
    intro i m by_ q hk hi hd hdd
    have hl := inP_len hw hk.cells hk.nd
    by_cases hlt : i < q.length
    · have hq := List.getElem_mem hlt
      obtain ⟨x, y, hx, hy, e⟩ := hk.cells q[i] hq
      have g : getI q (i : Int) = some (sp x y) := (getI_nat hlt).trans (congrArg some e)
      rw [e] at hq
      have gm : b2 mb y x = decide (sp x y ∈ b) := hmb y x (by omega) (by omega)
      by_cases cb : sp x y ∈ b
      · left
        rw [decide_eq_true cb] at gm
        obtain ⟨r, r1, r2, r3⟩ := hk.ch _ hq
        have hrp : inP p r := fun z hz => hk.cells z (r3 z hz)
        have hrl := inP_len hw hrp r2
        obtain ⟨f', z1, z2⟩ := back_ev hw r1 (fun z hz u hu => by rw [List.mem_singleton.1 hu]; exact hrp z hz) f 1 (by simpa using hb) (by omega)
        exact ⟨m, f', sp x y, r, Ev.step (fun k => q07.l3.eq_2 _ _ _ _ _ _ _ _) (Ev.pos (by omega) (Ev.bind (Ev.bind (Ev.const g) (Ev.bind (Ev.const (bR_get mb (show y < 10 by omega))) (Ev.bind (Ev.const (bA_get _ (show x < 10 by omega))) (Ev.pos gm (z1.bind (Ev.const rfl)))))) (Ev.const rfl))), ⟨_, r1⟩, r2, hrp, cb, z2⟩
      · rw [decide_eq_false cb] at gm
        obtain ⟨m1, b1, r, r1, r2, r3⟩ := reach5 (A := A) v hw hb hx hy 0 (Nat.zero_le _) m by_ q hk hq
        have hd1 : ∀ s ∈ (q ++ r).take (i + 1), s ∉ b ∧ ∀ t ∈ nbL p s, gTf f s t ≤ 0 → t ∈ q ++ r := fun s hs => by
          rw [List.take_append_of_le_length (by omega), List.take_add_one, List.getElem?_eq_getElem hlt] at hs
          rcases List.mem_append.1 hs with hs | hs
          · obtain ⟨c1, c2⟩ := hd s hs
            exact ⟨c1, fun t ht hg => List.mem_append_left _ (c2 t ht hg)⟩
          · have hs : s = sp x y := by rw [← e]; simpa using hs
            subst hs
            refine ⟨cb, fun t ht hg => ?_⟩
            obtain ⟨x', y', _, _, rfl, _, _, j, hj, ho, en⟩ := nbL_in hw ht
            rw [← en] at hg ⊢
            exact r3 j (Nat.zero_le _) hj ho hg
        have hst : ∀ {res}, Ev (fun k => q07.l3 p f mb k m1 b1 (q ++ r) ((i + 1 : Nat) : Int)) res → Ev (fun k => q07.l3 p f mb k m by_ q (i : Int)) res := fun {res} h => by
          rw [← wsucc hlt (by omega)] at h
          exact Ev.step (fun k => q07.l3.eq_2 _ _ _ _ _ _ _ _) (Ev.pos (by omega) (Ev.bind (a := (Sum.inr (m1, b1, q ++ r) : ((Bt × Bool × l03Flow) ⊕ Bt) ⊕ (Bt × Tb × List Spot))) (Ev.bind (Ev.const g) (Ev.bind (Ev.const (bR_get mb (show y < 10 by omega))) (Ev.bind (Ev.const (bA_get _ (show x < 10 by omega))) (Ev.neg (by show ¬ b2 mb y x = true; rw [gm]; simp) (r2.bind (Ev.const rfl)))))) h))
        have hql : q.length ≤ (q ++ r).length := by simp
        rcases ih (i + 1) m1 b1 (q ++ r) r1 (by omega) hd1 (by omega) with ⟨m', f', s, r', z1, z2⟩ | ⟨m', by', r', z1, z2, z3⟩
        · exact .inl ⟨m', f', s, r', hst z1, z2⟩
        · rw [List.append_assoc] at z2 z3
          exact .inr ⟨m', by', r ++ r', hst z1, z2, z3⟩
    · right
      have e : i = q.length := by omega
      refine ⟨m, by_, [], Ev.step (fun k => q07.l3.eq_2 _ _ _ _ _ _ _ _) (Ev.neg (by omega) (Ev.const rfl)), by rw [List.append_nil]; exact hk, ?_⟩
      rw [List.append_nil]
      rw [e, List.take_length] at hd
      exact hd
structure K0 (p : Pasture) (a : List Spot) (m : Bt) (by_ : Tb) (q : List Spot) (y x : Nat) : Prop where
  cells : inP p q
  nd : q.Nodup
  seen : ∀ x y, x < 10 → y < 10 → (b2 m y x = true ↔ sp x y ∈ q)
  by1 : ∀ z ∈ q, gF by_ z = -1
  own : ∀ z ∈ q, z ∈ a
  bef : ∀ c d, sp c d ∈ q → d < y ∨ (d = y ∧ c < x)
  all : ∀ c d, c < p.Wide.toNat → d < p.High.toNat → sp c d ∈ a → d < y ∨ (d = y ∧ c < x) → sp c d ∈ q
theorem row0 (hw : okW p = true) {ma : Bt} (hma : ∀ y x, y < 10 → x < 10 → b2 ma y x = decide (sp x y ∈ a)) (hy : y < p.High.toNat) : ∀ x, x ≤ p.Wide.toNat → ∀ (m : Bt) (by_ : Tb) (q : List Spot), K0 p a m by_ q y x → ∃ m' by' q', Ev (fun k => q07.l2 p ma (y : Int) k m by_ q (x : Int)) (m', by', q') ∧ K0 p a m' by' q' y p.Wide.toNat := by
 obtain ⟨w1, w2⟩ := okW_iff.1 hw
 refine upL ?_ ?_
 ·intro m by_ q h
  exact ⟨m, by_, q, Ev.step (fun k => q07.l2.eq_2 _ _ _ _ _ _ _ _) (Ev.neg (by omega) (Ev.const rfl)), h⟩
 intro x hx ih m by_ q h
 have e8 : IntKind.i8.wrap ((x : Int) + 1) = ((x + 1 : Nat) : Int) := by rw [w8 (by omega) (by omega)]; omega
 have gm : b2 ma y x = decide (sp x y ∈ a) := hma y x (by omega) (by omega)
 have hl := inP_len hw h.cells h.nd
 by_cases c : sp x y ∈ a
 ·rw [decide_eq_true c] at gm
  have hn : sp x y ∉ q := fun hq => by
    have := h.bef x y hq; omega
  have h1 : K0 p a (putM m y x) (put2 by_ y x (-1)) (q ++ [sp x y]) y (x + 1) := by
    refine ⟨fun z hz => ?_, List.nodup_append.2 ⟨h.nd, by simp, fun a ha b hb e => ?_⟩, fun c d hc hd => ?_, fun z hz => ?_, fun z hz => ?_, fun c d hz => ?_, fun c d hc hd hz hl => ?_⟩
    · rcases List.mem_append.1 hz with hz | hz
      · exact h.cells z hz
      · exact ⟨x, y, hx, hy, List.mem_singleton.1 hz⟩
    · rw [List.mem_singleton.1 hb] at e; rw [e] at ha; exact hn ha
    · rw [b2_put m (by omega) (by omega), Bool.or_eq_true, decide_eq_true_eq, h.seen c d hc hd, List.mem_append, List.mem_singleton, sp_inj]
      constructor
      · rintro (⟨h1, h2⟩ | h1)
        · exact .inr ⟨h2.symm, h1.symm⟩
        · exact .inl h1
      · rintro (h1 | ⟨h1, h2⟩)
        · exact .inr h1
        · exact .inl ⟨h2.symm, h1.symm⟩
    · rw [gF_put _ (by omega) (by omega)]
      split
      · rfl
      · rename_i hne
        exact h.by1 z ((List.mem_append.1 hz).resolve_right fun hz => hne (List.mem_singleton.1 hz))
    · rcases List.mem_append.1 hz with hz | hz
      · exact h.own z hz
      · rw [List.mem_singleton.1 hz]; exact c
    · rcases List.mem_append.1 hz with hz | hz
      · have := h.bef c d hz; omega
      · obtain ⟨rfl, rfl⟩ := sp_inj' (List.mem_singleton.1 hz); omega
    · by_cases e : c = x ∧ d = y
      · obtain ⟨rfl, rfl⟩ := e; simp
      · exact List.mem_append_left _ (h.all c d hc hd hz (by omega))
  obtain ⟨m', by', q', z1, z2⟩ := ih _ _ _ h1
  rw [← e8] at z1
  exact ⟨m', by', q', Ev.step (fun k => q07.l2.eq_2 _ _ _ _ _ _ _ _) (Ev.pos (by omega) (Ev.bind (Ev.const (bR_get ma (show y < 10 by omega))) (Ev.bind (Ev.const (bA_get _ (show x < 10 by omega))) (Ev.pos gm (Ev.bind (Ev.const (bR_get m (show y < 10 by omega))) (Ev.bind (Ev.const (bA_get _ (show x < 10 by omega))) (Ev.bind (Ev.const (getR by_ (show y < 10 by omega))) (Ev.bind (Ev.const (getA _ (show x < 10 by omega))) (Ev.bind (Ev.const (chkT (by simp; omega))) z1))))))))), z2⟩
 rw [decide_eq_false c] at gm
 have h1 : K0 p a m by_ q y (x + 1) := ⟨h.cells, h.nd, h.seen, h.by1, h.own, fun c d hz => by have := h.bef c d hz; omega, fun c' d hc hd hz hl => by
   by_cases e : c' = x ∧ d = y
   · obtain ⟨rfl, rfl⟩ := e; exact absurd hz c
   · exact h.all c' d hc hd hz (by omega)⟩
 obtain ⟨m', by', q', z1, z2⟩ := ih _ _ _ h1
 rw [← e8] at z1
 exact ⟨m', by', q', Ev.step (fun k => q07.l2.eq_2 _ _ _ _ _ _ _ _) (Ev.pos (by omega) (Ev.bind (Ev.const (bR_get ma (show y < 10 by omega))) (Ev.bind (Ev.const (bA_get _ (show x < 10 by omega))) (Ev.neg (by show ¬ b2 ma y x = true; rw [gm]; simp) z1)))), z2⟩
theorem grid0 (hw : okW p = true) {ma : Bt} (hma : ∀ y x, y < 10 → x < 10 → b2 ma y x = decide (sp x y ∈ a)) : ∀ y, y ≤ p.High.toNat → ∀ (m : Bt) (by_ : Tb) (q : List Spot), K0 p a m by_ q y 0 → ∃ m' by' q', Ev (fun k => q07.l1 p ma k m by_ q (y : Int)) (m', by', q') ∧ K0 p a m' by' q' p.High.toNat 0 := by
 obtain ⟨w1, w2⟩ := okW_iff.1 hw
 refine upL ?_ ?_
 ·intro m by_ q h
  exact ⟨m, by_, q, Ev.step (fun k => q07.l1.eq_2 _ _ _ _ _ _ _) (Ev.neg (by omega) (Ev.const rfl)), h⟩
 intro y hy ih m by_ q h
 have e8 : IntKind.i8.wrap ((y : Int) + 1) = ((y + 1 : Nat) : Int) := by rw [w8 (by omega) (by omega)]; omega
 obtain ⟨m1, b1, q1, z1, z2⟩ := row0 hw hma hy 0 (Nat.zero_le _) m by_ q h
 have h1 : K0 p a m1 b1 q1 (y + 1) 0 := ⟨z2.cells, z2.nd, z2.seen, z2.by1, z2.own, fun c d hz => by have := z2.bef c d hz; omega, fun c d hc hd hz hl => z2.all c d hc hd hz (by omega)⟩
 obtain ⟨m', by', q', z3, z4⟩ := ih _ _ _ h1
 rw [← e8] at z3
 exact ⟨m', by', q', Ev.step (fun k => q07.l1.eq_2 _ _ _ _ _ _ _) (Ev.pos (by omega) (Ev.bind (Ev.bind z1 (Ev.const rfl)) z3)), z4⟩
end
end Go.Proofs.YtegibnmfiogebaaGreatDoor
