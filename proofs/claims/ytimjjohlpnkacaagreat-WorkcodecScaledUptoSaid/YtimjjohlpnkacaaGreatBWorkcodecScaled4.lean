/- Texts of the claim, merged by a program; what the statement does not reach is left out. -/
import Derived.Test.YtimjjohlpnkacaaGreatBWorkcodecScaled3

section
/- The library's stable sort as plain functions on lists, and what it answers: the stably sorted list. Program-free. -/
namespace Go.Pv.Srt
section
variable {α : Type} (z : α) (c : α → α → Int)
def gt (d : List α) (i : Int) : α := d.getD i.toNat z
def sw (d : List α) (i j : Int) : List α := (d.set i.toNat (gt z d j)).set j.toNat (gt z d i)
def ins1 (a : Int) : Nat → List α → Int → List α
 | 0, v, _ => v
 | k + 1, v, j => bif decide (a < j) then (bif decide (c (gt z v j) (gt z v (j - 1)) < 0) then ins1 a k (sw z v j (j - 1)) (j - 1) else v) else v
def ins0 (a b : Int) : Nat → Int → List α → List α
 | 0, _, v => v
 | k + 1, i, v => bif decide (i < b) then ins0 a b k (i + 1) (ins1 z c a (i.toNat + 1) v i) else v
def ins (d : List α) (a b : Int) : List α := ins0 z c a b ((b - (a + 1)).toNat + 1) (a + 1) d
theorem Q1ht {d A C : List α} {x : α} {i : Int} (hd : d = A ++ x :: C) (hi : i = (A.length : Int)) : gt z d i = x := by
 subst hd hi
 simp [gt]
theorem Q1kv {A C : List α} {x y : α} {i : Int} (hi : i = (A.length : Int)) : (A ++ x :: C).set i.toNat y = A ++ y :: C := by
 subst hi
 simp
theorem Q1mw {A M C : List α} {x y : α} {i j : Int} (hi : i = (A.length : Int)) (hj : j = (A.length : Int) + 1 + (M.length : Int)) : sw z (A ++ x :: (M ++ y :: C)) j i = A ++ y :: (M ++ x :: C) := by
 have e1 : gt z (A ++ x :: (M ++ y :: C)) i = x := Q1ht z rfl hi
 have e2 : gt z (A ++ x :: (M ++ y :: C)) j = y := Q1ht z (A := A ++ x :: M) (C := C) (by simp) (by simp; omega)
 unfold sw
 rw [e1, e2]
 have e3 : A ++ x :: (M ++ y :: C) = (A ++ x :: M) ++ y :: C := by simp
 rw [e3, Q1kv (A := A ++ x :: M) (by simp; omega)]
 have e4 : (A ++ x :: M) ++ x :: C = A ++ x :: (M ++ x :: C) := by simp
 rw [e4, Q1kv hi]
def insR (x : α) : List α → List α
 | [] => [x]
 | s :: t => bif decide (c x s < 0) then s :: insR x t else x :: s :: t
def Qea (l : List α) : List α := (l.foldl (fun r x => insR c x r) []).reverse
theorem Q106 (a : Int) (A : List α) (x : α) (ha : a = (A.length : Int)) : ∀ (R C : List α) (k : Nat) (j : Int), j = (A.length : Int) + (R.length : Int) → R.length < k → ins1 z c a k (A ++ (R.reverse ++ x :: C)) j = A ++ ((insR c x R).reverse ++ C)
 | _, _, 0, _, _, h => absurd h (Nat.not_lt_zero _)
 | [], C, k + 1, j, hj, _ => by
  rw [ins1, show decide (a < j) = false by simp at hj ⊢; omega]
  simp [insR]
 | s :: t, C, k + 1, j, hj, hk => by
  simp only [List.length_cons] at hj hk
  have e0 : A ++ ((s :: t).reverse ++ x :: C) = (A ++ t.reverse) ++ s :: ([] ++ x :: C) := by simp
  rw [ins1, show decide (a < j) = true by simp; omega, cond_true, e0]
  have e1 : gt z ((A ++ t.reverse) ++ s :: ([] ++ x :: C)) j = x := Q1ht z (A := A ++ t.reverse ++ [s]) (C := C) (by simp) (by simp; omega)
  have e2 : gt z ((A ++ t.reverse) ++ s :: ([] ++ x :: C)) (j - 1) = s := Q1ht z (A := A ++ t.reverse) rfl (by simp; omega)
  rw [e1, e2, insR]
  cases decide (c x s < 0) with
  | true =>
   rw [cond_true, cond_true, Q1mw z (by simp; omega) (by simp; omega)]
   have e3 : (A ++ t.reverse) ++ x :: ([] ++ s :: C) = A ++ (t.reverse ++ x :: (s :: C)) := by simp
   rw [e3, Q106 a A x ha t (s :: C) k (j - 1) (by omega) (by omega)]
   simp
  | false => simp
theorem Q105 (a b : Int) (A : List α) (ha : a = (A.length : Int)) : ∀ (M R C : List α) (k : Nat) (i : Int), i = (A.length : Int) + (R.length : Int) → b = i + (M.length : Int) → M.length < k →
  ins0 z c a b k i (A ++ (R.reverse ++ (M ++ C))) = A ++ ((M.foldl (fun r x => insR c x r) R).reverse ++ C)
 | _, _, _, 0, _, _, _, h => absurd h (Nat.not_lt_zero _)
 | [], R, C, k + 1, i, hi, hb, _ => by
  rw [ins0, show decide (i < b) = false by simp at hb ⊢; omega]
  simp
 | x :: M, R, C, k + 1, i, hi, hb, hk => by
  simp only [List.length_cons] at hb hk
  rw [ins0, show decide (i < b) = true by simp; omega, cond_true, List.cons_append, Q106 z c a A x ha R (M ++ C) _ i hi (by omega)]
  have hl : (insR c x R).length = R.length + 1 := by
   clear hi hb hk
   induction R with
   | nil => rfl
   | cons s t ih => rw [insR]; cases decide (c x s < 0) <;> simp [ih]
  rw [Q105 a b A ha M (insR c x R) C k (i + 1) (by omega) (by omega) (by omega)]
  rfl
theorem Qw0 {d A M C : List α} {a b : Int} (hd : d = A ++ (M ++ C)) (ha : a = (A.length : Int)) (hb : b = a + (M.length : Int)) : ins z c d a b = A ++ (Qea c M ++ C) := by
 subst hd
 unfold ins Qea
 cases M with
 | nil =>
  simp only [List.length_nil, Int.ofNat_zero] at hb
  rw [ins0, show decide (a + 1 < b) = false by simp; omega]
  rfl
 | cons x M =>
  simp only [List.length_cons] at hb
  have e : A ++ (x :: M ++ C) = A ++ ([x].reverse ++ (M ++ C)) := by simp
  rw [e, Q105 z c a b A ha M [x] C _ _ (by simp; omega) (by omega) (by omega)]
  rfl
end
end Go.Pv.Srt
end

section
/- The library's stable sort: its merging, and that it answers the stably sorted list. Program-free. -/
namespace Go.Pv.Srt
section
variable {α : Type} (z : α) (c : α → α → Int)
structure Tot : Prop where
  asym : ∀ x y, c x y < 0 → ¬ c y x < 0
  tr : ∀ x y w, ¬ c y x < 0 → ¬ c w y < 0 → ¬ c w x < 0
def le (x y : α) : Prop := ¬ c y x < 0
def Up (l : List α) : Prop := l.Pairwise (le c)
def eqv (x y : α) : Bool := decide (¬ c x y < 0) && decide (¬ c y x < 0)
def F (l r : List α) : Prop := l.length = r.length ∧ ∀ x, l.filter (eqv c x) = r.filter (eqv c x)
variable {c}
theorem F.rfl {l : List α} : F c l l := ⟨Eq.refl _, fun _ => Eq.refl _⟩
theorem F.trans {l r s : List α} (h : F c l r) (g : F c r s) : F c l s := ⟨h.1.trans g.1, fun x => (h.2 x).trans (g.2 x)⟩
theorem F.symm {l r : List α} (h : F c l r) : F c r l := ⟨h.1.symm, fun x => (h.2 x).symm⟩
theorem F.app {l r l' r' : List α} (h : F c l r) (g : F c l' r') : F c (l ++ l') (r ++ r') :=
 ⟨by rw [List.length_append, List.length_append, h.1, g.1], fun x => by rw [List.filter_append, List.filter_append, h.2 x, g.2 x]⟩
theorem Tot.refl (T : Tot c) (x : α) : ¬ c x x < 0 := fun h => T.asym x x h h
theorem Q1gy (T : Tot c) (x : α) : eqv c x x = true := by simpa [eqv] using T.refl x
theorem F.mem (T : Tot c) {l r : List α} (h : F c l r) {x : α} (hx : x ∈ l) : x ∈ r := by
 have h1 : x ∈ l.filter (eqv c x) := List.mem_filter.2 ⟨hx, Q1gy T x⟩
 rw [h.2 x] at h1
 exact (List.mem_filter.1 h1).1
theorem F.swap (T : Tot c) {A B : List α} (h : ∀ a ∈ A, ∀ b ∈ B, c b a < 0) : F c (A ++ B) (B ++ A) := by
  refine ⟨by simp [Nat.add_comm], fun x => ?_⟩
  rw [List.filter_append, List.filter_append]
  by_cases hA : A.filter (eqv c x) = []
  · rw [hA]
    simp
  · have hB : B.filter (eqv c x) = [] := by
      obtain ⟨a, ha⟩ := List.exists_mem_of_ne_nil _ hA
      obtain ⟨ha, hxa⟩ := List.mem_filter.1 ha
      refine List.filter_eq_nil_iff.2 fun b hb hxb => ?_
      simp only [eqv, Bool.and_eq_true, decide_eq_true_eq] at hxa hxb
      exact T.tr a x b hxa.1 hxb.2 (h a ha b hb)
    rw [hB]
    simp
theorem Q15x {x y : α} : ∀ {R : List α}, y ∈ insR c x R → y = x ∨ y ∈ R
  | [], h => by simpa [insR] using h
  | s :: t, h => by
    rw [insR] at h
    cases hd : decide (c x s < 0) with
    | true =>
      rw [hd, cond_true] at h
      rcases List.mem_cons.1 h with e | e
      · exact Or.inr (by simp [e])
      · rcases Q15x e with e | e
        · exact Or.inl e
        · exact Or.inr (List.mem_cons_of_mem _ e)
    | false =>
      rw [hd, cond_false] at h
      rcases List.mem_cons.1 h with e | e
      · exact Or.inl e
      · exact Or.inr e
theorem Q1du (T : Tot c) (x : α) : ∀ {R : List α}, R.Pairwise (fun a b => le c b a) → (insR c x R).Pairwise (fun a b => le c b a)
  | [], _ => by simp [insR]
  | s :: t, h => by
    have h' := List.pairwise_cons.1 h
    rw [insR]
    by_cases hd : c x s < 0
    · rw [show decide (c x s < 0) = true by simpa using hd, cond_true]
      refine List.pairwise_cons.2 ⟨fun y hy => ?_, Q1du T x h'.2⟩
      rcases Q15x hy with e | e
      · subst e
        exact T.asym _ _ hd
      · exact h'.1 y e
    · rw [show decide (c x s < 0) = false by simpa using hd, cond_false]
      refine List.pairwise_cons.2 ⟨fun y hy => ?_, h⟩
      rcases List.mem_cons.1 hy with e | e
      · subst e
        exact hd
      · exact T.tr y s x (h'.1 y e) hd
theorem Q1kl (T : Tot c) (x : α) : ∀ (R : List α), F c (R.reverse ++ [x]) (insR c x R).reverse
  | [] => F.rfl
  | s :: t => by
    rw [insR]
    by_cases hd : c x s < 0
    · rw [show decide (c x s < 0) = true by simpa using hd, cond_true, List.reverse_cons, List.reverse_cons, List.append_assoc]
      have h1 : F c ([s] ++ [x]) ([x] ++ [s]) := F.swap T (by simpa using hd)
      exact (F.rfl.app h1).trans (by rw [← List.append_assoc]; exact (Q1kl T x t).app F.rfl)
    · rw [show decide (c x s < 0) = false by simpa using hd, cond_false, List.reverse_cons (a := x)]
      exact F.rfl
theorem Q12p (T : Tot c) : ∀ (M R : List α), R.Pairwise (fun a b => le c b a) → (M.foldl (fun r x => insR c x r) R).Pairwise (fun a b => le c b a) ∧ F c (R.reverse ++ M) (M.foldl (fun r x => insR c x r) R).reverse
 | [], R, h => ⟨h, by simpa using F.rfl⟩
 | x :: M, R, h => by
  obtain ⟨h1, h2⟩ := Q12p T M (insR c x R) (Q1du T x h)
  refine ⟨h1, F.trans ?_ h2⟩
  have e : R.reverse ++ x :: M = (R.reverse ++ [x]) ++ M := by simp
  rw [e]
  exact (Q1kl T x R).app F.rfl
theorem Q15z (T : Tot c) (l : List α) : Up c (Qea c l) := by
 unfold Up Qea
 rw [List.pairwise_reverse]
 exact (Q12p T l [] List.Pairwise.nil).1
theorem Q1dy (T : Tot c) (l : List α) : F c l (Qea c l) := (Q12p T l [] List.Pairwise.nil).2
def bs (g : Int → Bool) : Nat → Int → Int → Int
 | 0, i, _ => i
 | k + 1, i, j => bif decide (i < j) then (bif g ((i + j) / 2) then bs g k ((i + j) / 2 + 1) j else bs g k i ((i + j) / 2)) else i
end
end Go.Pv.Srt
end

section
/- The library's stable sort: symmetric merging and the sort as a whole answer the stably sorted list. Program-free. -/
namespace Go.Pv.Srt
section
variable {α : Type} (z : α) (c : α → α → Int)
def st1 (d : List α) (a m b : Int) : Int := bs (fun h => decide (c (gt z d h) (gt z d a) < 0)) ((b - m).toNat + 1) m b
variable {c}
end
end Go.Pv.Srt
end

section
/- The library's stable sort: merging in general, blocks, the whole. Program-free. -/
namespace Go.Pv.Srt
section
variable {α : Type} (z : α) {c : α → α → Int}
end
end Go.Pv.Srt
end

section
/- The library's stable sort: blocks, and the whole: it answers what insertion answers. Program-free. -/
namespace Go.Pv.Srt
section
variable {α : Type} (z : α) (c : α → α → Int)
inductive Bl (s : Nat) : List α → Prop
  | last {l : List α} : l.length ≤ s → Up c l → Bl s l
  | cons {l r : List α} : l.length = s → Up c l → Bl s r → Bl s (l ++ r)
inductive Fu (s : Nat) : List α → Prop
  | nil : Fu s []
  | snoc {p l : List α} : Fu s p → l.length = s → Up c l → Fu s (p ++ l)
variable {c}
theorem Bl.one {s : Nat} {Q : List α} (h : Bl c s Q) (hl : Q.length ≤ s) : Up c Q := by
 cases h with
 | last _ h => exact h
 | cons h1 h2 h3 =>
  rename_i l r
  rw [List.length_append] at hl
  rw [List.length_eq_zero_iff.1 (show r.length = 0 by omega), List.append_nil]
  exact h2
theorem Bl.split {s : Nat} {Q : List α} (h : Bl c s Q) (hl : s < Q.length) : ∃ l r, Q = l ++ r ∧ l.length = s ∧ Up c l ∧ Bl c s r := by
 cases h with
 | last h _ => omega
 | cons h1 h2 h3 => exact ⟨_, _, rfl, h1, h2, h3⟩
end
end Go.Pv.Srt
end

section
/- Lists of fields: strictly sorted lists are known by their members; keeping the last field of each name of a sorted list; putting a field into a sorted list. -/
namespace Go.Pv
open Srt
theorem Q8u (a : ByteArray) : sCmp a a = 0 := Q11y.2 rfl
theorem Q13f {a b d : ByteArray} (h : sCmp a b < 0) (g : sCmp b d < 0) : sCmp a d < 0 := by
 have t := Q1fh a b d
 have h1 := Qo3 a b
 have h2 := Qo3 b d
 unfold R3 at h1 h2
 unfold T3 at t
 omega
theorem Q1ku {a b : ByteArray} : sEq a b = false ↔ a ≠ b := by
 cases h : sEq a b with
 | true => simp [Q55.1 h]
 | false => exact ⟨fun _ e => (by rw [Q55.2 e] at h; cases h), fun _ => rfl⟩
theorem Qig (a b : ByteArray) : sCmp a b < 0 ∨ a = b ∨ sCmp b a < 0 := by
  have h1 := Qo3 a b
  have h2 := Q84 a b
  have h3 : sCmp a b = 0 → a = b := Q11y.1
  unfold R3 at h1
  by_cases e : sCmp a b = 0
  · exact .inr (.inl (h3 e))
  · omega
theorem Qb8 {α : Type} (f : α → ByteArray) : Tot (fun x y : α => sCmp (f x) (f y)) := by
  refine ⟨fun x y h => ?_, fun x y w h g => ?_⟩
  · rw [Q84]
    omega
  · have t := Q1fh (f w) (f y) (f x)
    have h1 := Qo3 (f w) (f y)
    have h2 := Qo3 (f y) (f x)
    rw [Q84] at h
    rw [Q84] at g
    have h3 := Q84 (f w) (f y)
    have h4 := Q84 (f y) (f x)
    have h5 := Q84 (f y) (f w)
    have h6 := Q84 (f x) (f y)
    unfold R3 at h1 h2
    unfold T3 at t
    omega
abbrev nlt (x y : Fld) : Prop := sCmp x.name y.name < 0
def SS (l : List Fld) : Prop := l.Pairwise nlt
theorem SS.cons {x : Fld} {l : List Fld} : SS (x :: l) ↔ (∀ y ∈ l, nlt x y) ∧ SS l := List.pairwise_cons
theorem SS.nil : SS [] := List.Pairwise.nil
theorem Q134 (x : Fld) : ¬ nlt x x := by unfold nlt; rw [Q8u]; omega
theorem Q1kw : ∀ {l r : List Fld}, SS l → SS r → (∀ f, f ∈ l ↔ f ∈ r) → l = r
  | [], [], _, _, _ => rfl
  | [], y :: r, _, _, h => by have := (h y).2 List.mem_cons_self; cases this
  | x :: l, [], _, _, h => by have := (h x).1 List.mem_cons_self; cases this
  | x :: l, y :: r, hl, hr, h => by
    obtain ⟨hx, hl'⟩ := SS.cons.1 hl
    obtain ⟨hy, hr'⟩ := SS.cons.1 hr
    have e : x = y := by
      rcases List.mem_cons.1 ((h x).1 List.mem_cons_self) with e | e
      · exact e
      · rcases List.mem_cons.1 ((h y).2 List.mem_cons_self) with e' | e'
        · exact e'.symm
        · exact absurd (Q13f (hx y e') (hy x e)) (Q134 x)
    subst e
    have k1 : ∀ f, f ∈ l → f ∈ r := fun f hf => by
      rcases List.mem_cons.1 ((h f).1 (List.mem_cons_of_mem _ hf)) with e | e
      · subst e; exact absurd (hx _ hf) (Q134 _)
      · exact e
    have k2 : ∀ f, f ∈ r → f ∈ l := fun f hf => by
      rcases List.mem_cons.1 ((h f).2 (List.mem_cons_of_mem _ hf)) with e | e
      · subst e; exact absurd (hy _ hf) (Q134 _)
      · exact e
    rw [Q1kw hl' hr' fun f => ⟨k1 f, k2 f⟩]
theorem SS.filter {l : List Fld} (h : SS l) (p : Fld → Bool) : SS (l.filter p) := h.sublist List.filter_sublist
theorem SS.inj {l : List Fld} (h : SS l) {x y : Fld} (hx : x ∈ l) (hy : y ∈ l) (e : x.name = y.name) : x = y := by
  induction l with
  | nil => cases hx
  | cons z l ih =>
    obtain ⟨hz, hl⟩ := SS.cons.1 h
    rcases List.mem_cons.1 hx with e1 | hx' <;> rcases List.mem_cons.1 hy with e2 | hy'
    · rw [e1, e2]
    · subst e1; have := hz y hy'; unfold nlt at this; rw [e, Q8u] at this; omega
    · subst e2; have := hz x hx'; unfold nlt at this; rw [e, Q8u] at this; omega
    · exact ih hl hx' hy'
def lastOf (l : List Fld) (f : Fld) : Prop := (l.filter fun y => decide (y.name = f.name)).getLast? = some f
theorem Qec (f : Fld) : ¬ lastOf [] f := by simp [lastOf]
theorem Qbn (x f : Fld) (l : List Fld) : lastOf (x :: l) f ↔ lastOf l f ∨ (f = x ∧ ∀ y ∈ l, y.name ≠ x.name) := by
  unfold lastOf
  by_cases h : x.name = f.name
  · rw [List.filter_cons_of_pos (by simpa using h)]
    cases e : l.filter fun y => decide (y.name = f.name) with
    | nil =>
      have := List.filter_eq_nil_iff.1 e
      simp only [List.getLast?_singleton, Option.some.injEq, List.getLast?_nil, reduceCtorEq, false_or]
      exact ⟨fun g => ⟨g.symm, fun y hy => by have := this y hy; rw [h]; simpa using this⟩, fun g => g.1.symm⟩
    | cons a r =>
      rw [List.getLast?_cons_cons]
      refine ⟨.inl, fun g => ?_⟩
      rcases g with g | g
      · exact g
      · have : a ∈ l.filter fun y => decide (y.name = f.name) := by rw [e]; exact List.mem_cons_self
        obtain ⟨h1, h2⟩ := List.mem_filter.1 this
        exact absurd ((of_decide_eq_true h2).trans (by rw [g.1])) (g.2 a h1)
  · rw [List.filter_cons_of_neg (by simpa using h)]
    exact ⟨.inl, fun g => by
      rcases g with g | g
      · exact g
      · exact absurd (by rw [g.1]) h⟩
theorem Q18j {l : List Fld} {f : Fld} (h : lastOf l f) : f ∈ l := (List.mem_filter.1 (List.mem_of_getLast? h)).1
theorem Q1dz {l : List Fld} (h : SS l) (f : Fld) : lastOf l f ↔ f ∈ l := by
 induction l with
 | nil => exact ⟨fun g => absurd g (Qec f), fun g => by cases g⟩
 | cons x l ih =>
  obtain ⟨hx, hl⟩ := SS.cons.1 h
  rw [Qbn, ih hl, List.mem_cons]
  exact ⟨fun g => g.elim .inr fun g => .inl g.1, fun g => g.elim (fun g => .inr ⟨g, fun y hy e => by have := hx y hy; unfold nlt at this; rw [e, Q8u] at this; omega⟩) .inl⟩
def lasts : List Fld → List Fld
 | [] => []
 | [x] => [x]
 | x :: y :: r => bif sEq y.name x.name then lasts (y :: r) else x :: lasts (y :: r)
abbrev cNm (x y : Fld) : Int := sCmp x.name y.name
theorem Q108 : ∀ (l : List Fld), Up cNm l → ∀ f, f ∈ lasts l ↔ lastOf l f
  | [], _, f => ⟨fun g => (by cases g), fun g => absurd g (Qec f)⟩
  | [x], _, f => by
    rw [Qbn]
    simp [lasts, Qec]
  | x :: y :: r, h, f => by
    have h' := List.pairwise_cons.1 h
    have ih := Q108 (y :: r) h'.2 f
    rw [lasts, Qbn]
    cases e : sEq y.name x.name with
    | true =>
      rw [cond_true, ih]
      exact ⟨.inl, fun g => g.elim id fun g => absurd (Q55.1 e) (g.2 y List.mem_cons_self)⟩
    | false =>
      rw [cond_false, List.mem_cons, ih]
      refine ⟨fun g => g.elim (fun g => .inr ⟨g, fun w hw hn => ?_⟩) .inl, fun g => g.elim .inr fun g => .inl g.1⟩
      have e := Q1ku.1 e
      rcases List.mem_cons.1 hw with rfl | hw
      · exact e hn
      · have h1 := (List.pairwise_cons.1 h'.2).1 w hw
        have h2 := h'.1 y List.mem_cons_self
        unfold le cNm at h1 h2
        rw [hn] at h1
        rcases Qig x.name y.name with g | g | g
        · exact h1 g
        · exact e g.symm
        · exact h2 g
theorem Qde : ∀ (l : List Fld), (lasts l).Sublist l
 | [] => List.Sublist.slnil
 | [x] => List.Sublist.refl _
 | x :: y :: r => by
  rw [lasts]
  cases sEq y.name x.name with
  | true => exact (Qde (y :: r)).cons x
  | false => exact (Qde (y :: r)).cons_cons x
theorem Q1hy (l : List Fld) (h : Up cNm l) : SS (lasts l) := by
  induction l with
  | nil => exact SS.nil
  | cons x l ih =>
    cases l with
    | nil => exact SS.cons.2 ⟨fun _ g => (by cases g), SS.nil⟩
    | cons y r =>
      have h' := List.pairwise_cons.1 h
      rw [lasts]
      cases e : sEq y.name x.name with
      | true => exact ih h'.2
      | false =>
        rw [cond_false]
        refine SS.cons.2 ⟨fun w hw => ?_, ih h'.2⟩
        have e := Q1ku.1 e
        have h2 := h'.1 y List.mem_cons_self
        unfold le cNm at h2
        have hxy : sCmp x.name y.name < 0 := by
          rcases Qig x.name y.name with g | g | g
          · exact g
          · exact absurd g.symm e
          · exact absurd g h2
        rcases List.mem_cons.1 ((Qde _).mem hw) with rfl | hw
        · exact hxy
        · have h1 := (List.pairwise_cons.1 h'.2).1 w hw
          unfold le cNm at h1
          unfold nlt
          rcases Qig y.name w.name with g | g | g
          · exact Q13f hxy g
          · rw [← g]; exact hxy
          · exact absurd g h1
theorem Q1tg (x y : Fld) : Srt.eqv cNm x y = decide (y.name = x.name) := by
  unfold Srt.eqv cNm
  have h1 : (y.name = x.name) ↔ (¬ sCmp x.name y.name < 0 ∧ ¬ sCmp y.name x.name < 0) := by
    constructor
    · intro e; rw [e, Q8u]; omega
    · intro ⟨g1, g2⟩
      rcases Qig x.name y.name with g | g | g
      · exact absurd g g1
      · exact g.symm
      · exact absurd g g2
  rw [← Bool.decide_and]
  exact decide_eq_decide.2 h1.symm
theorem Q1hx {l r : List Fld} (h : F cNm l r) (f : Fld) : lastOf l f ↔ lastOf r f := by
 have := h.2 f
 unfold lastOf
 rw [show (fun y : Fld => decide (y.name = f.name)) = Srt.eqv cNm f from funext fun y => (Q1tg f y).symm, this]
def mapOf (l : List Fld) : List Fld := lasts (Qea cNm l)
theorem Q1i0 (l : List Fld) : SS (mapOf l) := Q1hy _ (Q15z (Qb8 Fld.name) l)
theorem Q11j (l : List Fld) (f : Fld) : f ∈ mapOf l ↔ lastOf l f := by
 unfold mapOf
 rw [Q108 _ (Q15z (Qb8 Fld.name) l)]
 exact (Q1hx (Q1dy (Qb8 Fld.name) l) f).symm
theorem Q133 {l : List Fld} (h : SS l) : mapOf l = l := Q1kw (Q1i0 l) h fun f => by rw [Q11j, Q1dz h]
theorem Qnl {α : Type} (c : α → α → Int) (T : Tot c) (l : List α) : (Qea c l).length = l.length := (Q1dy T l).1.symm
theorem Q1e7 (l : List Fld) : (mapOf l).length ≤ l.length := Nat.le_trans (Qde _).length_le (Nat.le_of_eq (Qnl _ (Qb8 Fld.name) l))
theorem Q1e9 {l : List Fld} {f : Fld} (h : f ∈ mapOf l) : f ∈ l := Q18j ((Q11j l f).1 h)
end Go.Pv
end

section
/- How many values a value holds; what that bounds. -/
namespace Go.Pv
open Srt
end Go.Pv
end

section
/- Structures as values: the parts of a map, their kinds; what decodes what was encoded. No program is in sight here. -/
namespace Go.Pv
abbrev vZ : Val := .mk 0 0 (⟨#[]⟩ : ByteArray) [] []
abbrev vN (n : Int) : Val := .mk 2 n (⟨#[]⟩ : ByteArray) [] []
abbrev vS (s : ByteArray) : Val := .mk 3 0 s [] []
abbrev vB (b : Bool) : Val := .mk 1 (bif b then 1 else 0) (⟨#[]⟩ : ByteArray) [] []
abbrev vL (l : List Val) : Val := .mk 4 0 (⟨#[]⟩ : ByteArray) l []
abbrev vM (l : List Fld) : Val := .mk 5 0 (⟨#[]⟩ : ByteArray) [] l
def Q18m (n : ByteArray) : List Fld → Val
 | [] => vZ
 | x :: r => bif sEq x.name n then x.v else Q18m n r
def prt (v : Val) (n : ByteArray) : Val := bif v.kind == 5 then Q18m n v.fields else vZ
def isM (v : Val) : Bool := v.kind == 5 || v.kind == 0
def xN (x : Val) : Int × Bool := bif x.kind == 2 then (x.n, true) else (0, x.kind == 0)
def xS (x : Val) : ByteArray × Bool := bif x.kind == 3 then (x.s, true) else ((⟨#[]⟩ : ByteArray), x.kind == 0)
def xB (x : Val) : Bool × Bool := bif x.kind == 1 then (!(x.n == 0), true) else (false, x.kind == 0)
def xL (x : Val) : List Val × Bool := bif x.kind == 4 then (x.list, true) else ([], x.kind == 0)
def xE {α : Type} (f : Val → α × Bool) (x : Val) : List α × Bool := ((xL x).1.map fun y => (f y).1, (xL x).2 && (xL x).1.all fun y => (f y).2)
abbrev dN (v : Val) (n : ByteArray) : Int × Bool := xN (prt v n)
abbrev dS (v : Val) (n : ByteArray) : ByteArray × Bool := xS (prt v n)
abbrev dB (v : Val) (n : ByteArray) : Bool × Bool := xB (prt v n)
abbrev dL (v : Val) (n : ByteArray) : List Val × Bool := xL (prt v n)
abbrev dE {α : Type} (f : Val → α × Bool) (v : Val) (n : ByteArray) : List α × Bool := xE f (prt v n)
abbrev dT {α : Type} (f : Val → α × Bool) (v : Val) (n : ByteArray) : α × Bool := f (prt v n)
theorem Qnx {v : Val} (h : (v.kind == 5) = false) (n : ByteArray) : prt v n = vZ := by unfold prt; rw [h]; rfl
theorem Q1dx {v : Val} (h : (v.kind == 5) = true) : isM v = true := by unfold isM; rw [h]; rfl
theorem Qnk {v : Val} (h : (v.kind == 5) = false) : isM v = (v.kind == 0) := by unfold isM; rw [h]; rfl
theorem xB_b (b : Bool) : xB (vB b) = (b, true) := by cases b <;> rfl
theorem Q6w {α : Type} {f : Val → α × Bool} {e : α → Val} (h : ∀ y, f (e y) = (y, true)) (l : List α) : xE f (vL (l.map e)) = (l, true) := by
 have h1 : ∀ l : List α, (l.map e).map (fun y => (f y).1) = l := by
  intro l
  induction l with
  | nil => rfl
  | cons y l ih => rw [List.map_cons, List.map_cons, ih, h y]
 have h2 : ∀ l : List α, ((l.map e).all fun y => (f y).2) = true := by
  intro l
  induction l with
  | nil => rfl
  | cons y l ih => rw [List.map_cons, List.all_cons, ih, h y]; rfl
 show ((l.map e).map (fun y => (f y).1), true && (l.map e).all fun y => (f y).2) = _
 rw [h1, h2]
 rfl
abbrev sB : Nat := 1000000000
theorem Q1ud : Val.Sm sB vZ := Val.Sm.leaf 0 0 _
theorem Q24y {l : List Val} (h : l.length ≤ sB) (g : ∀ x ∈ l, Val.Sm sB x) : Val.Sm sB (vL l) := .mk _ h (Nat.zero_le _) g (fun _ h => by cases h)
theorem Q9r {l : List Fld} (h : l.length ≤ sB) (g : ∀ x ∈ l, Val.Sm sB x.v) : Val.Sm sB (vM l) := .mk _ (Nat.zero_le _) h (fun _ h => by cases h) g
theorem Q1fu {B : Nat} (n : ByteArray) : ∀ {l : List Fld}, (∀ x ∈ l, Val.Sm B x.v) → Val.Sm B (Q18m n l)
 | [], _ => Val.Sm.leaf 0 0 _
 | x :: l, h => by
  unfold Q18m
  cases sEq x.name n with
  | true => exact h x List.mem_cons_self
  | false => exact Q1fu n fun y hy => h y (List.mem_cons_of_mem _ hy)
theorem Q3j {B : Nat} {v : Val} (h : Val.Sm B v) (n : ByteArray) : Val.Sm B (prt v n) := by
 unfold prt
 cases v.kind == 5 with
 | true => exact Q1fu n h.all.2.2.2
 | false => exact Val.Sm.leaf 0 0 _
def LSm {α : Type} (p : α → Prop) (l : List α) : Prop := l.length ≤ sB ∧ ∀ x ∈ l, p x
theorem LSm.leaf {α : Type} {l : List α} (h : l.length ≤ sB) : LSm (fun _ => True) l := ⟨h, fun _ _ => trivial⟩
theorem LSm.nil {α : Type} {p : α → Prop} : LSm p [] := ⟨Nat.zero_le _, fun _ h => by cases h⟩
theorem Qem {x : Val} (h : Val.Sm sB x) : (xL x).1.length ≤ sB ∧ ∀ y ∈ (xL x).1, Val.Sm sB y := by
 unfold xL
 cases x.kind == 4 with
 | true => exact ⟨h.all.1, h.all.2.2.1⟩
 | false => exact ⟨Nat.zero_le _, fun _ h => by cases h⟩
theorem Q3i {α : Type} {e : α → Val} {p : α → Prop} (he : ∀ x, p x → Val.Sm sB (e x)) {l : List α} (h : LSm p l) : Val.Sm sB (vL (l.map e)) :=
 Q24y (by rw [List.length_map]; exact h.1) fun z hz => by
  obtain ⟨x, hx, rfl⟩ := List.mem_map.1 hz
  exact he x (h.2 x hx)
def ssb : List Fld → Bool
 | [] => true
 | [_] => true
 | x :: y :: r => decide (sCmp x.name y.name < 0) && ssb (y :: r)
theorem Q1kx : ∀ {l : List Fld}, ssb l = true → SS l
  | [], _ => SS.nil
  | [x], _ => SS.cons.2 ⟨(fun _ h => by cases h), SS.nil⟩
  | x :: y :: r, h => by
    unfold ssb at h
    rw [Bool.and_eq_true] at h
    have h1 := of_decide_eq_true h.1
    have h2 := Q1kx h.2
    refine SS.cons.2 ⟨fun z hz => ?_, h2⟩
    rcases List.mem_cons.1 hz with rfl | hz
    · exact h1
    · exact Q13f h1 ((SS.cons.1 h2).1 z hz)
theorem Q1e8 {l : List Fld} (h : ssb l = true) : mapOf l = l := Q133 (Q1kx h)
def s5 (x : Val) : Val := bif x.kind == 5 then x else vZ
theorem Qo5 {x : Val} (h : Val.Sm sB x) : Val.Sm sB (s5 x) := by
 unfold s5
 cases x.kind == 5 with
 | true => exact h
 | false => exact Q1ud
theorem Q157 {α : Type} {f : Val → α × Bool} (hn : ∀ v, (v.kind == 5) = false → f v = ((f vZ).1, v.kind == 0)) (hz : (f vZ).2 = true) (x : Val) : (f (s5 x)).1 = (f x).1 ∧ (f x).2 = (isM x && (f (s5 x)).2) := by
 unfold s5
 cases h : x.kind == 5 with
 | true => exact ⟨rfl, by rw [Q1dx h, cond_true, Bool.true_and]⟩
 | false => rw [hn x h, cond_false, Qnk h, hz]; exact ⟨rfl, by rw [Bool.and_true]⟩
end Go.Pv
end

section
/- Decoders that count what is of a wrong kind: counters, and when they stay. No program is in sight here. -/
namespace Go.Pv
def bw (w : Int) (n : Nat) : Int := bif n == 0 then w else w64 (w + (n : Int))
theorem Q1q2 (x y : Int) : w64 (w64 x + y) = w64 (x + y) := by
 unfold w64 IntKind.wrap
 simp [IntKind.signed, IntKind.bits]
 omega
theorem Qvn (w : Int) (a b : Nat) : bw (bw w a) b = bw w (a + b) := by
 unfold bw
 cases ha : (a == 0) with
 | true =>
  have := eq_of_beq ha
  subst this
  rw [Nat.zero_add]
  rfl
 | false =>
  have ha' := beq_eq_false_iff_ne.1 ha
  cases hb : (b == 0) with
  | true =>
   have := eq_of_beq hb
   subst this
   rw [Nat.add_zero, ha]
   rfl
  | false =>
   rw [show (a + b == 0) = false from beq_eq_false_iff_ne.2 (by omega), cond_false, cond_false, cond_false, Q1q2]
   congr 1
   omega
theorem Q1td {n : Nat} (h : n ≤ 4611686018427387904) : decide (0 < bw 0 n) = !(n == 0) := by
 unfold bw
 cases hn : (n == 0) with
 | true => rfl
 | false =>
  have := beq_eq_false_iff_ne.1 hn
  rw [cond_false, Q125 (by omega)]
  simp
  omega
def nb (b : Bool) : Nat := bif b then 0 else 1
theorem nb0 (b : Bool) : (nb b == 0) = b := by cases b <;> rfl
theorem Q1i3 (b : Bool) : nb b ≤ 1 := by cases b <;> exact Nat.le_of_ble_eq_true rfl
theorem add0 (a b : Nat) : (a + b == 0) = (a == 0 && b == 0) := by
 cases a with
 | zero => rw [Nat.zero_add]; rfl
 | succ a => rw [show (a + 1 + b == 0) = false from beq_eq_false_iff_ne.2 (by omega)]; rfl
def cK (k : Int) (x : Val) : Nat := nb (x.kind == k || x.kind == 0)
def cM (v : Val) : Nat := cK 5 v
theorem cM0 (v : Val) : (cM v == 0) = isM v := nb0 _
def pK (k : Int) (v : Val) (n : ByteArray) : Nat := cM v + cK k (prt v n)
theorem kN (x : Val) : (cK 2 x == 0) = (xN x).2 := by unfold cK xN; rw [nb0]; cases (x.kind == 2) <;> rfl
theorem kS (x : Val) : (cK 3 x == 0) = (xS x).2 := by unfold cK xS; rw [nb0]; cases (x.kind == 3) <;> rfl
theorem kB (x : Val) : (cK 1 x == 0) = (xB x).2 := by unfold cK xB; rw [nb0]; cases (x.kind == 1) <;> rfl
theorem kL (x : Val) : (cK 4 x == 0) = (xL x).2 := by unfold cK xL; rw [nb0]; cases (x.kind == 4) <;> rfl
theorem pN0 (v : Val) (n : ByteArray) : (pK 2 v n == 0) = (isM v && (dN v n).2) := by unfold pK; rw [add0, cM0, kN]
theorem pS0 (v : Val) (n : ByteArray) : (pK 3 v n == 0) = (isM v && (dS v n).2) := by unfold pK; rw [add0, cM0, kS]
theorem pB0 (v : Val) (n : ByteArray) : (pK 1 v n == 0) = (isM v && (dB v n).2) := by unfold pK; rw [add0, cM0, kB]
theorem Qvo (k : Int) (x : Val) : cK k x ≤ 1 := Q1i3 _
theorem Q5a (k : Int) (v : Val) (n : ByteArray) : pK k v n ≤ 2 := by have := Qvo 5 v; have := Qvo k (prt v n); unfold pK cM; omega
def sumC (c : Val → Nat) : List Val → Nat
 | [] => 0
 | x :: r => c x + sumC c r
theorem Q1ue {c : Val → Nat} {p : Val → Bool} (h : ∀ x, (c x == 0) = p x) : ∀ l : List Val, (sumC c l == 0) = l.all p
 | [] => rfl
 | x :: l => by rw [sumC, add0, h, Q1ue h l, List.all_cons]
theorem Q1fw {c : Val → Nat} {K B : Nat} {P : Val → Prop} (hc : ∀ x, P x → c x ≤ K) : ∀ {l : List Val}, (∀ x ∈ l, P x) → l.length ≤ B → sumC c l ≤ B * K
 | [], _, _ => Nat.zero_le _
 | x :: l, h, hl => by
  cases B with
  | zero => simp at hl
  | succ B =>
   have h1 := hc x (h x List.mem_cons_self)
   have h2 := Q1fw (B := B) hc (fun y hy => h y (List.mem_cons_of_mem _ hy)) (by simp at hl; omega)
   rw [sumC, Nat.succ_mul]
   omega
def pE (c : Val → Nat) (v : Val) (n : ByteArray) : Nat := pK 4 v n + sumC c (dL v n).1
theorem pE0 {α : Type} {f : Val → α × Bool} {c : Val → Nat} (h : ∀ x, (c x == 0) = (f x).2) (v : Val) (n : ByteArray) : (pE c v n == 0) = (isM v && (dE f v n).2) := by
 unfold pE pK
 rw [add0, add0, cM0, kL, Q1ue h, Bool.and_assoc]
 rfl
theorem Q1wc {B : Nat} {x : Val} (h : Val.Sm B x) : (xL x).1.length ≤ B ∧ ∀ y ∈ (xL x).1, Val.Sm B y := by
 unfold xL
 cases x.kind == 4 with
 | true => exact ⟨h.all.1, h.all.2.2.1⟩
 | false => exact ⟨Nat.zero_le _, fun _ h => by cases h⟩
theorem Q1i5 {c : Val → Nat} {B K : Nat} (hc : ∀ x, Val.Sm B x → c x ≤ K) {v : Val} (h : Val.Sm B v) (n : ByteArray) : pE c v n ≤ 2 + B * K := by
 have hx := Q1wc (Q3j h n)
 have h1 := Q1fw hc hx.2 hx.1
 have h2 := Q5a 4 v n
 change pK 4 v n + sumC c (xL (prt v n)).1 ≤ _
 omega
theorem Q1fi (s : ByteArray) : sLt s s = false := by rw [Q1mt, Q8u]; rfl
theorem and_tt {a b : Bool} (h : a = true) (k : b = true) : (a && b) = true := by rw [h, k]; rfl
theorem Q1tt {a b : Bool} (h : b = true) : (a || b) = true := by rw [h, Bool.or_true]
theorem Q8f {α : Type} {G : Nat → Option Fun} {c : α → En} {r : Rs} {x y : α} (h : x = y) (t : Qd G (c x) r) : Qd G (c y) r := h ▸ t
def resC {α : Type} (n : Nat) (x z : α) : α × Int := bif decide (0 < bw 0 n) then (z, 6) else (x, 0)
theorem Q1ff {α : Type} {n : Nat} (h : n ≤ 4611686018427387904) (x z : α) : resC n x z = bif n == 0 then (x, 0) else (z, 6) := by
 unfold resC
 rw [Q1td h]
 cases (n == 0) <;> rfl
end Go.Pv
end

section
/- Small values; equality of what is the same (printed by a program). -/
namespace Go.Proofs.YtimjjohlpnkacaaGreat
open Go.Pv
abbrev G : Nat → Option Fun := tabG Ir.table
abbrev Γ : Nat → Option Ty := gam 51
abbrev BA : Type := ByteArray
theorem Q1j4 (a b : BA) : Qd G (.call 221 [.str a, .str b] []) (.ret (.int .i64 (sCmp a b)) []) := ⟨1, by kernel_rfl⟩
inductive Qvh where
  | k0 (q0 : Int)
  | k1
mutual
def Q9p (p0 : Val) (p1 : Int) (p2 : Int) : Int :=
 bif (decide (p1 ≤ 0)) then
  (-1)
 else
  bif (decide (p2 ≤ 0)) then
   (-1)
  else
   bif (decide (1000 < (ByteArray.size p0.s : Int))) then
    (-1)
   else
    (match (Q4d p0 p2 p0.fields 0 (Q41 p0 p2 p0.list 0 (w64 (p1 - 1)))) with
    | .k0 y4_0 => y4_0
    | .k1 => (-1))
termination_by SizeOf.sizeOf p0
decreasing_by all_goals first | exact Val.Q132 _ | exact Val.Qnr _
def Q41 (p0 : Val) (p2 : Int) : List Val → Nat → Int → Int
 | [], _i0, v0_1 =>
  v0_1
 | x0 :: r0, i0, v0_1 =>
  bif (decide (0 ≤ v0_1)) then
   Q41 p0 p2 r0 (i0 + 1) (Q9p x0 v0_1 (w64 (p2 - 1)))
  else
   v0_1
termination_by l => SizeOf.sizeOf l
decreasing_by all_goals first | exact Q131 _ _ | exact Q1e6 _ _ | exact Q16o _ _
def Q4d (p0 : Val) (p2 : Int) : List Fld → Nat → Int → Qvh
 | [], _i1, v1_1 =>
  (.k0 v1_1)
 | x1 :: r1, i1, v1_1 =>
  bif (decide (0 ≤ v1_1)) then
   bif (decide (1000 < (ByteArray.size x1.name : Int))) then
    (.k1)
   else
    Q4d p0 p2 r1 (i1 + 1) (Q9p x1.v v1_1 (w64 (p2 - 1)))
  else
   (.k0 v1_1)
termination_by l => SizeOf.sizeOf l
decreasing_by all_goals first | exact Q131 _ _ | exact Q1e6 _ _ | exact Q16o _ _
end
def Qxd (_p0 : Val) (p2 : Int) (i0 : Nat) (v0_1 : Int) : List PV :=
  [.un, .int .i64 v0_1, .int .i64 p2, .bx 0 0, .un, .un, .un, .int .i64 (i0 : Int)] ++ nuns 65
def Qyc (p0 : Val) (_p2 : Int) (_i0 : Nat) (_v0_1 : Int) : List Ob :=
  [⟨5, 0, true, [.int .i64 p0.kind, .int .i64 p0.n, .str p0.s, .sl (Val.rows p0.list), .sl (Fld.rows p0.fields)]⟩]
def Qca (p0 : Val) (p2 : Int) (i0 : Nat) (v0_1 : Int) : En := .loop 0 Ir.Qkb Ir.Q1ji (Qxd p0 p2 i0 v0_1) (Qyc p0 p2 i0 v0_1)
def Qe5 (p0 : Val) (p2 : Int) (q0 : Int) (z : Nat → PV) (_zo : Nat → List PV) : St :=
  ⟨[z 0, .int .i64 q0, .int .i64 p2, .bx 0 0] ++ zr z 4 69, [(0, ⟨5, 0, true, [.int .i64 p0.kind, .int .i64 p0.n, .str p0.s, .sl (Val.rows p0.list), .sl (Fld.rows p0.fields)]⟩)], 577⟩
def Qcp (p0 : Val) (p2 : Int) (e : En) (q : Int) : Prop := ∃ z zo, Qd G e (.st (.exit 0) (Qe5 p0 p2 q z zo))
theorem Qu9 (p0 : Val) (p2 : Int) {e e' : En} (h : ∀ r, Qd G e r → Qd G e' r) : ∀ q, Qcp p0 p2 e q → Qcp p0 p2 e' q
  | _, ⟨z, zo, hz⟩ => ⟨z, zo, h _ hz⟩
def Qxe (_p0 : Val) (p2 : Int) (i1 : Nat) (v1_1 : Int) : List PV :=
  [.un, .int .i64 v1_1, .int .i64 p2, .bx 0 0, .un, .un, .un, .un, .int .i64 (i1 : Int)] ++ nuns 64
def Qyd (p0 : Val) (_p2 : Int) (_i1 : Nat) (_v1_1 : Int) : List Ob :=
  [⟨5, 0, true, [.int .i64 p0.kind, .int .i64 p0.n, .str p0.s, .sl (Val.rows p0.list), .sl (Fld.rows p0.fields)]⟩]
def Qam (p0 : Val) (p2 : Int) (i1 : Nat) (v1_1 : Int) : En := .loop 0 Ir.Qkc Ir.Q1jj (Qxe p0 p2 i1 v1_1) (Qyd p0 p2 i1 v1_1)
def Qe6 (p0 : Val) (_p2 : Int) (q0 : Int) (z : Nat → PV) (_zo : Nat → List PV) : St :=
  ⟨[z 0, .int .i64 q0] ++ zr z 2 71, [(0, ⟨5, 0, true, [.int .i64 p0.kind, .int .i64 p0.n, .str p0.s, .sl (Val.rows p0.list), .sl (Fld.rows p0.fields)]⟩)], 577⟩
def Qph (_p0 : Val) (_p2 : Int) (z : Nat → PV) (zo : Nat → List PV) : St :=
  ⟨zr z 0 6 ++ [.int .i64 (-1)] ++ zr z 7 66, [(0, ⟨5, 0, true, zo 0⟩)], 1153⟩
def Qat (p0 : Val) (p2 : Int) (e : En) : Qvh → Prop
  | .k0 q0 => ∃ z zo, Qd G e (.st (.exit 2) (Qe6 p0 p2 q0 z zo))
  | .k1 => ∃ z zo, Qd G e (.st .ret (Qph p0 p2 z zo))
theorem Qub (p0 : Val) (p2 : Int) {e e' : En} (h : ∀ r, Qd G e r → Qd G e' r) : ∀ q, Qat p0 p2 e q → Qat p0 p2 e' q
  | .k0 _, ⟨z, zo, hz⟩ => ⟨z, zo, h _ hz⟩
  | .k1, ⟨z, zo, hz⟩ => ⟨z, zo, h _ hz⟩
def Q1gs (p0 : Val) (p1 : Int) (p2 : Int) : En := .call 170 [.agg (Val.cells p0), .int .i64 p1, .int .i64 p2] []
def Q1d0 (p0 : Val) (p1 : Int) (p2 : Int) : Rs := .ret (.int .i64 (Q9p p0 p1 p2)) []
abbrev Qyl (p0 : Val) : Prop := Val.Sm 4611686018427387904 p0
def Q89 (p0 : Val) : Prop := ∀ (q : Val), SizeOf.sizeOf q < SizeOf.sizeOf p0 → ∀ (p1 : Int), ∀ (p2 : Int), Qyl q → Qd G (Q1gs q p1 p2) (Q1d0 q p1 p2)
def Qap (p0 : Val) (_p2 : Int) : Prop := (List.length p0.list ≤ 4611686018427387904) ∧ (∀ x0 ∈ p0.list, Qyl x0) ∧ True
def Q93 (p0 : Val) (_p2 : Int) : Prop := (List.length p0.fields ≤ 4611686018427387904) ∧ (∀ x1 ∈ p0.fields, Qyl x1.v) ∧ True
theorem Q15j (p0 : Val) (_p1 : Int) (p2 : Int) (H : Qyl p0) : (Qap p0 p2) ∧ (Q93 p0 p2) ∧ True := by
  obtain ⟨h1, h2, h3, h4⟩ := H.all
  simp only [Qap, Q93]
  exact ⟨⟨h1, h3, trivial⟩, ⟨h2, h4, trivial⟩, trivial⟩
def Qr1 (p0 : Val) (_p2 : Int) (i0 : Nat) (_v0_1 : Int) : List PV :=
  nuns 7 ++ [.int .i64 (i0 : Int)] ++ nuns 15 ++ [.int .i64 (i0 : Int), .bx 0 3, .sl (Val.rows p0.list), .int .i64 ((List.length p0.list) : Int), .bool false, .bool false, .tup [], .tup [], .bool false]
def Qlz (_p0 : Val) (_p2 : Int) (_i0 : Nat) (_v0_1 : Int) : List (Nat × List PV) :=
  []
theorem Q1bb (p0 : Val) (p2 : Int) (_H : Qap p0 p2) (_rec : Q89 p0) (i0 : Nat) (v0_1 : Int) (hc0 : (decide ((i0 : Int) < ((List.length p0.list) : Int))) = false) : Qcp p0 p2 (Qca p0 p2 i0 v0_1) v0_1 := by
 exact ⟨(envF (Qr1 p0 p2 i0 v0_1)), (zoF (Qlz p0 p2 i0 v0_1)), Qv VOK.nil (x := ((.exit 0), Qe5 p0 p2 v0_1 (envF (Qr1 p0 p2 i0 v0_1)) (zoF (Qlz p0 p2 i0 v0_1)))) [hP 3 (Q1g (Val.rows p0.list) (List.length p0.list) (Val.Qa p0.list)), hB 0 hc0] [] (by kernel_rfl)⟩
theorem Q190 (p0 : Val) (p2 : Int) (H : Qap p0 p2) (rec : Q89 p0) (x0 : Val) (i0 : Nat) (v0_1 : Int) (hx0 : p0.list[i0]? = some x0) (hi0 : i0 < List.length p0.list) (hc0 : (decide ((i0 : Int) < ((List.length p0.list) : Int))) = true) (h0 : (decide (0 ≤ v0_1)) = true) {r : Rs} (hr : Qd G (Qca p0 p2 (i0 + 1) (Q9p x0 v0_1 (w64 (p2 - 1)))) r) : Qd G (Qca p0 p2 i0 v0_1) r := by
 have hB0 := H.1; have e0 := of_decide_eq_true h0
 exact Qu VOK.nil (y := (Qxd p0 p2 (i0 + 1) (Q9p x0 v0_1 (w64 (p2 - 1))), Qyc p0 p2 (i0 + 1) (Q9p x0 v0_1 (w64 (p2 - 1))))) [hP 3 (Q1g (Val.rows p0.list) (List.length p0.list) (Val.Qa p0.list)), hB 0 hc0, hB 2 h0, hP 4 (Q35 5 (Val.rows p0.list) i0 _ (Val.Qz hx0) rfl), hP 7 (Q2s i0 (by omega))] [aN (rec x0 (szL hx0) v0_1 (w64 (p2 - 1)) (H.2.1 x0 (Q2z hx0)))] (by kernel_rfl) hr
def Qr2 (p0 : Val) (_p2 : Int) (i0 : Nat) (v0_1 : Int) (_x0 : Val) : List PV :=
  nuns 7 ++ [.int .i64 (i0 : Int)] ++ nuns 15 ++ [.int .i64 (i0 : Int), .bx 0 3, .sl (Val.rows p0.list), .int .i64 ((List.length p0.list) : Int), .bool true, .bool true, .int .i64 v0_1, .bool false, .bool false]
def Qm0 (_p0 : Val) (_p2 : Int) (_i0 : Nat) (_v0_1 : Int) (_x0 : Val) : List (Nat × List PV) :=
  []
theorem Q1bc (p0 : Val) (p2 : Int) (_H : Qap p0 p2) (_rec : Q89 p0) (x0 : Val) (i0 : Nat) (v0_1 : Int) (_hx0 : p0.list[i0]? = some x0) (_hi0 : i0 < List.length p0.list) (hc0 : (decide ((i0 : Int) < ((List.length p0.list) : Int))) = true) (h0 : (decide (0 ≤ v0_1)) = false) : Qcp p0 p2 (Qca p0 p2 i0 v0_1) v0_1 := by
 exact ⟨(envF (Qr2 p0 p2 i0 v0_1 x0)), (zoF (Qm0 p0 p2 i0 v0_1 x0)), Qv VOK.nil (x := ((.exit 0), Qe5 p0 p2 v0_1 (envF (Qr2 p0 p2 i0 v0_1 x0)) (zoF (Qm0 p0 p2 i0 v0_1 x0)))) [hP 3 (Q1g (Val.rows p0.list) (List.length p0.list) (Val.Qa p0.list)), hB 0 hc0, hB 2 h0] [] (by kernel_rfl)⟩
theorem Q10m (p0 : Val) (p2 : Int) (H : Qap p0 p2) (rec : Q89 p0) : ∀ (r0 : List Val) (i0 : Nat) (v0_1 : Int), List.drop i0 p0.list = r0 → Qcp p0 p2 (Qca p0 p2 i0 v0_1) (Q41 p0 p2 r0 i0 v0_1)
 | [], i0, v0_1, hd => by
  have hc0 : (decide ((i0 : Int) < ((List.length p0.list) : Int))) = false := by have := Q1y hd; simp; omega
  rw [Q41]
  exact Q1bb p0 p2 H rec i0 v0_1 hc0
 | x0 :: r0, i0, v0_1, hd => by
  obtain ⟨hx0, hi0, hd'⟩ := Q1v hd
  have hc0 : (decide ((i0 : Int) < ((List.length p0.list) : Int))) = true := by simp; omega
  rw [Q41]
  cases h0 : (decide (0 ≤ v0_1)) with
  | true =>
   exact Qu9 p0 p2 (fun r hr => Q190 p0 p2 H rec x0 i0 v0_1 hx0 hi0 hc0 h0 hr) _ (Q10m p0 p2 H rec r0 (i0 + 1) (Q9p x0 v0_1 (w64 (p2 - 1))) hd')
  | false =>
   exact Q1bc p0 p2 H rec x0 i0 v0_1 hx0 hi0 hc0 h0
def Qr3 (p0 : Val) (p2 : Int) (i1 : Nat) (_v1_1 : Int) : List PV :=
  [.un, .un, .int .i64 p2, .bx 0 0, .un, .un, .un, .un, .int .i64 (i1 : Int)] ++ nuns 34 ++ [.int .i64 (i1 : Int), .bx 0 4, .sl (Fld.rows p0.fields), .int .i64 ((List.length p0.fields) : Int), .bool false, .bool false, .tup [], .tup [], .bool false]
def Qm1 (_p0 : Val) (_p2 : Int) (_i1 : Nat) (_v1_1 : Int) : List (Nat × List PV) :=
  []
theorem Q1bd (p0 : Val) (p2 : Int) (_H : Q93 p0 p2) (_rec : Q89 p0) (i1 : Nat) (v1_1 : Int) (hc1 : (decide ((i1 : Int) < ((List.length p0.fields) : Int))) = false) : Qat p0 p2 (Qam p0 p2 i1 v1_1) (.k0 v1_1) := by
 exact ⟨(envF (Qr3 p0 p2 i1 v1_1)), (zoF (Qm1 p0 p2 i1 v1_1)), Qv VOK.nil (x := ((.exit 2), Qe6 p0 p2 v1_1 (envF (Qr3 p0 p2 i1 v1_1)) (zoF (Qm1 p0 p2 i1 v1_1)))) [hP 3 (Q1g (Fld.rows p0.fields) (List.length p0.fields) (Fld.Qa p0.fields)), hB 0 hc1] [] (by kernel_rfl)⟩
def Qr4 (p0 : Val) (p2 : Int) (i1 : Nat) (v1_1 : Int) (x1 : Fld) : List PV :=
  [.un, .int .i64 v1_1, .int .i64 p2, .bx 0 0, .un, .un, .un, .un, .int .i64 (i1 : Int)] ++ nuns 34 ++ [.int .i64 (i1 : Int), .bx 0 4, .sl (Fld.rows p0.fields), .int .i64 ((List.length p0.fields) : Int), .bool true, .bool true, .int .i64 v1_1, .bool true, .bool true, .un, .un, .bx 0 4, .sl (Fld.rows p0.fields), .int .i64 (i1 : Int), .rf [.str x1.name, .int .i64 x1.v.kind, .int .i64 x1.v.n, .str x1.v.s, .sl (Val.rows x1.v.list), .sl (Fld.rows x1.v.fields)], .rf [.str x1.name, .int .i64 x1.v.kind, .int .i64 x1.v.n, .str x1.v.s, .sl (Val.rows x1.v.list), .sl (Fld.rows x1.v.fields)], .str x1.name, .int .i64 (ByteArray.size x1.name : Int), .bool true]
def Qm2 (p0 : Val) (_p2 : Int) (_i1 : Nat) (_v1_1 : Int) (_x1 : Fld) : List (Nat × List PV) :=
  [(0, [.int .i64 p0.kind, .int .i64 p0.n, .str p0.s, .sl (Val.rows p0.list), .sl (Fld.rows p0.fields)])]
theorem Q1be (p0 : Val) (p2 : Int) (_H : Q93 p0 p2) (_rec : Q89 p0) (x1 : Fld) (i1 : Nat) (v1_1 : Int) (hx1 : p0.fields[i1]? = some x1) (_hi1 : i1 < List.length p0.fields) (hc1 : (decide ((i1 : Int) < ((List.length p0.fields) : Int))) = true) (h0 : (decide (0 ≤ v1_1)) = true) (h1 : (decide (1000 < (ByteArray.size x1.name : Int))) = true) : Qat p0 p2 (Qam p0 p2 i1 v1_1) (.k1) := by
 exact ⟨(envF (Qr4 p0 p2 i1 v1_1 x1)), (zoF (Qm2 p0 p2 i1 v1_1 x1)), Qv VOK.nil (x := (.ret, Qph p0 p2 (envF (Qr4 p0 p2 i1 v1_1 x1)) (zoF (Qm2 p0 p2 i1 v1_1 x1)))) [hP 3 (Q1g (Fld.rows p0.fields) (List.length p0.fields) (Fld.Qa p0.fields)), hB 0 hc1, hB 2 h0, hP 4 (Q35 6 (Fld.rows p0.fields) i1 _ (Fld.Qz hx1) rfl), hB 3 h1] [] (by kernel_rfl)⟩
theorem Q191 (p0 : Val) (p2 : Int) (H : Q93 p0 p2) (rec : Q89 p0) (x1 : Fld) (i1 : Nat) (v1_1 : Int) (hx1 : p0.fields[i1]? = some x1) (hi1 : i1 < List.length p0.fields) (hc1 : (decide ((i1 : Int) < ((List.length p0.fields) : Int))) = true) (h0 : (decide (0 ≤ v1_1)) = true) (h1 : (decide (1000 < (ByteArray.size x1.name : Int))) = false) {r : Rs} (hr : Qd G (Qam p0 p2 (i1 + 1) (Q9p x1.v v1_1 (w64 (p2 - 1)))) r) : Qd G (Qam p0 p2 i1 v1_1) r := by
 have hB0 := H.1; have e0 := of_decide_eq_true h0; have e1 := of_decide_eq_false h1
 exact Qu VOK.nil (y := (Qxe p0 p2 (i1 + 1) (Q9p x1.v v1_1 (w64 (p2 - 1))), Qyd p0 p2 (i1 + 1) (Q9p x1.v v1_1 (w64 (p2 - 1))))) [hP 3 (Q1g (Fld.rows p0.fields) (List.length p0.fields) (Fld.Qa p0.fields)), hB 0 hc1, hB 2 h0, hP 4 (Q35 6 (Fld.rows p0.fields) i1 _ (Fld.Qz hx1) rfl), hB 3 h1, hP 3 (Q35 6 (Fld.rows p0.fields) i1 _ (Fld.Qz hx1) rfl), hP 8 (Q2s i1 (by omega))] [aN (rec x1.v (szF hx1) v1_1 (w64 (p2 - 1)) (H.2.1 x1 (Q2z hx1)))] (by kernel_rfl) hr
def Qr5 (p0 : Val) (p2 : Int) (i1 : Nat) (v1_1 : Int) (_x1 : Fld) : List PV :=
  [.un, .un, .int .i64 p2, .bx 0 0, .un, .un, .un, .un, .int .i64 (i1 : Int)] ++ nuns 34 ++ [.int .i64 (i1 : Int), .bx 0 4, .sl (Fld.rows p0.fields), .int .i64 ((List.length p0.fields) : Int), .bool true, .bool true, .int .i64 v1_1, .bool false, .bool false]
def Qm3 (_p0 : Val) (_p2 : Int) (_i1 : Nat) (_v1_1 : Int) (_x1 : Fld) : List (Nat × List PV) :=
  []
theorem Q1bf (p0 : Val) (p2 : Int) (_H : Q93 p0 p2) (_rec : Q89 p0) (x1 : Fld) (i1 : Nat) (v1_1 : Int) (_hx1 : p0.fields[i1]? = some x1) (_hi1 : i1 < List.length p0.fields) (hc1 : (decide ((i1 : Int) < ((List.length p0.fields) : Int))) = true) (h0 : (decide (0 ≤ v1_1)) = false) : Qat p0 p2 (Qam p0 p2 i1 v1_1) (.k0 v1_1) := by
 exact ⟨(envF (Qr5 p0 p2 i1 v1_1 x1)), (zoF (Qm3 p0 p2 i1 v1_1 x1)), Qv VOK.nil (x := ((.exit 2), Qe6 p0 p2 v1_1 (envF (Qr5 p0 p2 i1 v1_1 x1)) (zoF (Qm3 p0 p2 i1 v1_1 x1)))) [hP 3 (Q1g (Fld.rows p0.fields) (List.length p0.fields) (Fld.Qa p0.fields)), hB 0 hc1, hB 2 h0] [] (by kernel_rfl)⟩
theorem Q10n (p0 : Val) (p2 : Int) (H : Q93 p0 p2) (rec : Q89 p0) : ∀ (r1 : List Fld) (i1 : Nat) (v1_1 : Int), List.drop i1 p0.fields = r1 → Qat p0 p2 (Qam p0 p2 i1 v1_1) (Q4d p0 p2 r1 i1 v1_1)
 | [], i1, v1_1, hd => by
  have hc1 : (decide ((i1 : Int) < ((List.length p0.fields) : Int))) = false := by have := Q1y hd; simp; omega
  rw [Q4d]
  exact Q1bd p0 p2 H rec i1 v1_1 hc1
 | x1 :: r1, i1, v1_1, hd => by
  obtain ⟨hx1, hi1, hd'⟩ := Q1v hd
  have hc1 : (decide ((i1 : Int) < ((List.length p0.fields) : Int))) = true := by simp; omega
  rw [Q4d]
  cases h0 : (decide (0 ≤ v1_1)) with
  | true =>
   cases h1 : (decide (1000 < (ByteArray.size x1.name : Int))) with
   | true =>
    exact Q1be p0 p2 H rec x1 i1 v1_1 hx1 hi1 hc1 h0 h1
   | false =>
    exact Qub p0 p2 (fun r hr => Q191 p0 p2 H rec x1 i1 v1_1 hx1 hi1 hc1 h0 h1 hr) _ (Q10n p0 p2 H rec r1 (i1 + 1) (Q9p x1.v v1_1 (w64 (p2 - 1))) hd')
  | false =>
   exact Q1bf p0 p2 H rec x1 i1 v1_1 hx1 hi1 hc1 h0
theorem Q24c (p0 : Val) (p1 : Int) (p2 : Int) (H : Qyl p0) (rec : Q89 p0) : Qd G (Q1gs p0 p1 p2) (Q1d0 p0 p1 p2) := by
  unfold Q1d0
  rw [Q9p]
  cases h0 : (decide (p1 ≤ 0)) with
  | true =>
   exact Qj (fn := Ir.K1s) rfl VOK.nil [hB 3 h0] [] (by kernel_rfl)
  | false =>
   cases h1 : (decide (p2 ≤ 0)) with
   | true =>
    exact Qj (fn := Ir.K1s) rfl VOK.nil [hB 3 h0, hB 2 h1] [] (by kernel_rfl)
   | false =>
    cases h2 : (decide (1000 < (ByteArray.size p0.s : Int))) with
    | true =>
     exact Qj (fn := Ir.K1s) rfl VOK.nil [hB 3 h0, hB 2 h1, hB 5 h2] [] (by kernel_rfl)
    | false =>
     have hl3 := Q10m p0 p2 ((Q15j p0 p1 p2 H).1) rec p0.list 0 (w64 (p1 - 1)) (by simp)
     obtain ⟨z3, zo3, hl3⟩ := hl3
     have hl4 := Q10n p0 p2 ((Q15j p0 p1 p2 H).2.1) rec p0.fields 0 (Q41 p0 p2 p0.list 0 (w64 (p1 - 1))) (by simp)
     cases hr4 : (Q4d p0 p2 p0.fields 0 (Q41 p0 p2 p0.list 0 (w64 (p1 - 1)))) with
     | k0 y4_0 =>
       rw [hr4] at hl4
       obtain ⟨z4, zo4, hl4⟩ := hl4
       exact Qj (fn := Ir.K1s) rfl VOK.nil [hB 3 h0, hB 2 h1, hB 5 h2] [aN hl3, aN hl4] (by kernel_rfl)
     | k1 =>
       rw [hr4] at hl4
       obtain ⟨z4, zo4, hl4⟩ := hl4
       exact Qj (fn := Ir.K1s) rfl VOK.nil [hB 3 h0, hB 2 h1, hB 5 h2] [aN hl3, aN hl4] (by kernel_rfl)
theorem Q1ti : ∀ (k : Nat) (p0 : Val), SizeOf.sizeOf p0 < k → ∀ (p1 : Int), ∀ (p2 : Int), Qyl p0 → Qd G (Q1gs p0 p1 p2) (Q1d0 p0 p1 p2)
  | 0, _, h, _, _, _ => absurd h (Nat.not_lt_zero _)
  | k + 1, p0, h, p1, p2, H => Q24c p0 p1 p2 H (fun q hq p1 p2 hH => Q1ti k q (by omega) p1 p2 hH)
theorem Q25b (p0 : Val) (p1 : Int) (p2 : Int) (H : Qyl p0) : Qd G (Q1gs p0 p1 p2) (Q1d0 p0 p1 p2) := Q1ti _ p0 (Nat.lt_succ_self _) p1 p2 H
def Qwp (p0 : Val) (p1 : Int) : Bool :=
 (decide (0 ≤ (Q9p p0 p1 p1)))
def Q207 (p0 : Val) (p1 : Int) : En := .call 63 [.agg (Val.cells p0), .int .i64 p1] []
def Q1r4 (p0 : Val) (p1 : Int) : Rs := .ret (.bool (Qwp p0 p1)) []
def Q1la (p0 : Val) (_p1 : Int) : Prop := (Qyl p0) ∧ True
theorem Q1mx (p0 : Val) (p1 : Int) (H : Q1la p0 p1) : Qd G (Q207 p0 p1) (Q1r4 p0 p1) := by
 unfold Q1r4 Qwp
 exact Qj (fn := Ir.K1r) rfl VOK.nil [] [aN (Q25b p0 p1 p1 H.1)] (by kernel_rfl)
def Q1u7 (p0 : Bool) (p1 : Bool) : Int :=
 bif p0 then
  bif p1 then
   (-1)
  else
   (-1)
 else
  bif p1 then
   1
  else
   0
def Q208 (p0 : Bool) (p1 : Bool) : En := .call 230 [.bool p0, .bool p1] []
def Q1r5 (p0 : Bool) (p1 : Bool) : Rs := .ret (.int .i64 (Q1u7 p0 p1)) []
theorem Q1an (p0 : Bool) (p1 : Bool) : Qd G (Q208 p0 p1) (Q1r5 p0 p1) := by
 unfold Q1r5 Q1u7
 cases h0 : p0 with
 | true =>
  cases h1 : p1 with
  | true =>
   exact Qj (fn := Ir.K1t) rfl VOK.nil [] [] (by kernel_rfl)
  | false =>
   exact Qj (fn := Ir.K1t) rfl VOK.nil [] [] (by kernel_rfl)
 | false =>
  cases h1 : p1 with
  | true =>
   exact Qj (fn := Ir.K1t) rfl VOK.nil [] [] (by kernel_rfl)
  | false =>
   exact Qj (fn := Ir.K1t) rfl VOK.nil [] [] (by kernel_rfl)
def Q1u5 (_ : Val) : Int := 0
def Q162 (p0 : Val) : List Val → Nat → Unit
 | [], _i0 =>
  ()
 | _x0 :: r0, i0 =>
  Q162 p0 r0 (i0 + 1)
def Qxb (_p0 : Val) (i0 : Nat) : List PV :=
  [.un, .un, .bx 0 0, .bx 1 0, .un, .int .i64 0, .int .i64 (i0 : Int)] ++ nuns 162
def Qya (p0 : Val) (_i0 : Nat) : List Ob :=
  [⟨5, 0, true, [.int .i64 p0.kind, .int .i64 p0.n, .str p0.s, .sl (Val.rows p0.list), .sl (Fld.rows p0.fields)]⟩, ⟨5, 0, true, [.int .i64 p0.kind, .int .i64 p0.n, .str p0.s, .sl (Val.rows p0.list), .sl (Fld.rows p0.fields)]⟩]
def Qfl (p0 : Val) (i0 : Nat) : En := .loop 0 Ir.Qk9 Ir.Q1jg (Qxb p0 i0) (Qya p0 i0)
def Qpf (p0 : Val) (z : Nat → PV) (_zo : Nat → List PV) : St :=
  ⟨[z 0, z 1, .bx 0 0, .bx 1 0, z 4, .int .i64 0] ++ zr z 6 163, [(0, ⟨5, 0, true, [.int .i64 p0.kind, .int .i64 p0.n, .str p0.s, .sl (Val.rows p0.list), .sl (Fld.rows p0.fields)]⟩), (1, ⟨5, 0, true, [.int .i64 p0.kind, .int .i64 p0.n, .str p0.s, .sl (Val.rows p0.list), .sl (Fld.rows p0.fields)]⟩)], 1026⟩
def Qar (p0 : Val) (e : En) (_q : Unit) : Prop := ∃ z zo, Qd G e (.st (.exit 0) (Qpf p0 z zo))
theorem Qu7 (p0 : Val) {e e' : En} (h : ∀ r, Qd G e r → Qd G e' r) : ∀ q, Qar p0 e q → Qar p0 e' q
  | _, ⟨z, zo, hz⟩ => ⟨z, zo, h _ hz⟩
def Q163 (p0 : Val) : List Fld → Nat → Unit
 | [], _i1 =>
  ()
 | _x1 :: r1, i1 =>
  Q163 p0 r1 (i1 + 1)
def Qxc (_p0 : Val) (i1 : Nat) : List PV :=
  [.un, .un, .bx 0 0, .bx 1 0, .un, .int .i64 0, .un, .int .i64 (i1 : Int)] ++ nuns 161
def Qyb (p0 : Val) (_i1 : Nat) : List Ob :=
  [⟨5, 0, true, [.int .i64 p0.kind, .int .i64 p0.n, .str p0.s, .sl (Val.rows p0.list), .sl (Fld.rows p0.fields)]⟩, ⟨5, 0, true, [.int .i64 p0.kind, .int .i64 p0.n, .str p0.s, .sl (Val.rows p0.list), .sl (Fld.rows p0.fields)]⟩]
def Qfm (p0 : Val) (i1 : Nat) : En := .loop 0 Ir.Qka Ir.Q1jh (Qxc p0 i1) (Qyb p0 i1)
def Qpg (p0 : Val) (z : Nat → PV) (_zo : Nat → List PV) : St :=
  ⟨[z 0, z 1, .bx 0 0, .bx 1 0, z 4, .int .i64 0] ++ zr z 6 163, [(0, ⟨5, 0, true, [.int .i64 p0.kind, .int .i64 p0.n, .str p0.s, .sl (Val.rows p0.list), .sl (Fld.rows p0.fields)]⟩), (1, ⟨5, 0, true, [.int .i64 p0.kind, .int .i64 p0.n, .str p0.s, .sl (Val.rows p0.list), .sl (Fld.rows p0.fields)]⟩)], 1026⟩
def Qas (p0 : Val) (e : En) (_q : Unit) : Prop := ∃ z zo, Qd G e (.st (.exit 2) (Qpg p0 z zo))
theorem Qu8 (p0 : Val) {e e' : En} (h : ∀ r, Qd G e r → Qd G e' r) : ∀ q, Qas p0 e q → Qas p0 e' q
  | _, ⟨z, zo, hz⟩ => ⟨z, zo, h _ hz⟩
theorem Q22l (p0 : Val) : Q1u5 p0 = (0) := by
  rfl
def Q1gr (p0 : Val) : En := .call 194 [.agg (Val.cells p0), .agg (Val.cells p0)] []
def Q1cz (p0 : Val) : Rs := .ret (.int .i64 (Q1u5 p0)) []
abbrev Qyk (p0 : Val) : Prop := Val.Sm 4611686018427387904 p0
def Qbj (p0 : Val) : Prop := ∀ (q : Val), SizeOf.sizeOf q < SizeOf.sizeOf p0 → Qyk q → Qd G (Q1gr q) (Q1cz q)
def Qcf (p0 : Val) : Prop := (List.length p0.list ≤ 4611686018427387904) ∧ (∀ x0 ∈ p0.list, Qyk x0) ∧ True
def Qcg (p0 : Val) : Prop := (List.length p0.fields ≤ 4611686018427387904) ∧ (∀ x1 ∈ p0.fields, Qyk x1.v) ∧ True
theorem Q15i (p0 : Val) (H : Qyk p0) : (Qcf p0) ∧ (Qcg p0) ∧ True := by
  obtain ⟨h1, h2, h3, h4⟩ := H.all
  simp only [Qcf, Qcg]
  exact ⟨⟨h1, h3, trivial⟩, ⟨h2, h4, trivial⟩, trivial⟩
def Qqz (p0 : Val) (i0 : Nat) : List PV :=
  nuns 6 ++ [.int .i64 (i0 : Int)] ++ nuns 38 ++ [.int .i64 (i0 : Int), .bx 0 3, .sl (Val.rows p0.list), .int .i64 ((List.length p0.list) : Int), .bool false, .bool false, .tup [], .tup [], .tup [], .tup [], .tup [], .bool false, .bool false, .tup [], .tup [], .bool false]
def Qlx (_p0 : Val) (_i0 : Nat) : List (Nat × List PV) :=
  []
theorem Q1b9 (p0 : Val) (_H : Qcf p0) (_rec : Qbj p0) (i0 : Nat) (hc0 : (decide ((i0 : Int) < ((List.length p0.list) : Int))) = false) : Qar p0 (Qfl p0 i0) () := by
 exact ⟨(envF (Qqz p0 i0)), (zoF (Qlx p0 i0)), Qv VOK.nil (x := ((.exit 0), Qpf p0 (envF (Qqz p0 i0)) (zoF (Qlx p0 i0)))) [hP 3 (Q1g (Val.rows p0.list) (List.length p0.list) (Val.Qa p0.list)), hB 0 hc0] [] (by kernel_rfl)⟩
theorem Q18y (p0 : Val) (H : Qcf p0) (rec : Qbj p0) (x0 : Val) (i0 : Nat) (hx0 : p0.list[i0]? = some x0) (hi0 : i0 < List.length p0.list) (hc0 : (decide ((i0 : Int) < ((List.length p0.list) : Int))) = true) {r : Rs} (hr : Qd G (Qfl p0 (i0 + 1)) r) : Qd G (Qfl p0 i0) r := by
 have hB0 := H.1
 exact Qu VOK.nil (y := (Qxb p0 (i0 + 1), Qya p0 (i0 + 1))) [hP 3 (Q1g (Val.rows p0.list) (List.length p0.list) (Val.Qa p0.list)), hB 0 hc0, hP 4 (Q1g (Val.rows p0.list) (List.length p0.list) (Val.Qa p0.list)), hB 0 hc0, hP 8 (Q35 5 (Val.rows p0.list) i0 _ (Val.Qz hx0) rfl), hP 4 (Q35 5 (Val.rows p0.list) i0 _ (Val.Qz hx0) rfl), hP 4 (Q2s i0 (by omega))] [aN (rec x0 (szL hx0) (H.2.1 x0 (Q2z hx0)))] (by kernel_rfl) hr
theorem Q10k (p0 : Val) (H : Qcf p0) (rec : Qbj p0) : ∀ (r0 : List Val) (i0 : Nat), List.drop i0 p0.list = r0 → Qar p0 (Qfl p0 i0) (Q162 p0 r0 i0)
 | [], i0, hd => by
  have hc0 : (decide ((i0 : Int) < ((List.length p0.list) : Int))) = false := by have := Q1y hd; simp; omega
  show Qar p0 _ ()
  exact Q1b9 p0 H rec i0 hc0
 | x0 :: r0, i0, hd => by
  obtain ⟨hx0, hi0, hd'⟩ := Q1v hd
  have hc0 : (decide ((i0 : Int) < ((List.length p0.list) : Int))) = true := by simp; omega
  show Qar p0 _ ()
  exact Qu7 p0 (fun r hr => Q18y p0 H rec x0 i0 hx0 hi0 hc0 hr) _ (Q10k p0 H rec r0 (i0 + 1) hd')
def Qr0 (p0 : Val) (i1 : Nat) : List PV :=
  nuns 7 ++ [.int .i64 (i1 : Int)] ++ nuns 83 ++ [.int .i64 (i1 : Int), .bx 0 4, .sl (Fld.rows p0.fields), .int .i64 ((List.length p0.fields) : Int), .bool false, .bool false, .tup [], .tup [], .tup [], .tup [], .tup [], .bool false, .bool false, .tup [], .tup [], .bool false]
def Qly (_p0 : Val) (_i1 : Nat) : List (Nat × List PV) :=
  []
theorem Q1ba (p0 : Val) (_H : Qcg p0) (_rec : Qbj p0) (i1 : Nat) (hc1 : (decide ((i1 : Int) < ((List.length p0.fields) : Int))) = false) : Qas p0 (Qfm p0 i1) () := by
 exact ⟨(envF (Qr0 p0 i1)), (zoF (Qly p0 i1)), Qv VOK.nil (x := ((.exit 2), Qpg p0 (envF (Qr0 p0 i1)) (zoF (Qly p0 i1)))) [hP 3 (Q1g (Fld.rows p0.fields) (List.length p0.fields) (Fld.Qa p0.fields)), hB 0 hc1] [] (by kernel_rfl)⟩
theorem Q18z (p0 : Val) (H : Qcg p0) (rec : Qbj p0) (x1 : Fld) (i1 : Nat) (hx1 : p0.fields[i1]? = some x1) (hi1 : i1 < List.length p0.fields) (hc1 : (decide ((i1 : Int) < ((List.length p0.fields) : Int))) = true) {r : Rs} (hr : Qd G (Qfm p0 (i1 + 1)) r) : Qd G (Qfm p0 i1) r := by
 have hB0 := H.1
 exact Qu VOK.nil (y := (Qxc p0 (i1 + 1), Qyb p0 (i1 + 1))) [hP 3 (Q1g (Fld.rows p0.fields) (List.length p0.fields) (Fld.Qa p0.fields)), hB 0 hc1, hP 4 (Q1g (Fld.rows p0.fields) (List.length p0.fields) (Fld.Qa p0.fields)), hB 0 hc1, hP 8 (Q35 6 (Fld.rows p0.fields) i1 _ (Fld.Qz hx1) rfl), hP 5 (Q35 6 (Fld.rows p0.fields) i1 _ (Fld.Qz hx1) rfl), hP 2 (dec (sLt x1.name x1.name) false (Q1fi _)), hP 3 (Q35 6 (Fld.rows p0.fields) i1 _ (Fld.Qz hx1) rfl), hP 5 (Q35 6 (Fld.rows p0.fields) i1 _ (Fld.Qz hx1) rfl), hP 2 (dec (!((sLt x1.name x1.name) || (sEq x1.name x1.name))) false (by rw [(Q1tt (Q55.2 rfl))]; rfl)), hP 7 (Q35 6 (Fld.rows p0.fields) i1 _ (Fld.Qz hx1) rfl), hP 5 (Q35 6 (Fld.rows p0.fields) i1 _ (Fld.Qz hx1) rfl), hP 5 (Q2s i1 (by omega))] [aN (Q1an false false), aN (rec x1.v (szF hx1) (H.2.1 x1 (Q2z hx1)))] (by kernel_rfl) hr
theorem Q10l (p0 : Val) (H : Qcg p0) (rec : Qbj p0) : ∀ (r1 : List Fld) (i1 : Nat), List.drop i1 p0.fields = r1 → Qas p0 (Qfm p0 i1) (Q163 p0 r1 i1)
 | [], i1, hd => by
  have hc1 : (decide ((i1 : Int) < ((List.length p0.fields) : Int))) = false := by have := Q1y hd; simp; omega
  show Qas p0 _ ()
  exact Q1ba p0 H rec i1 hc1
 | x1 :: r1, i1, hd => by
  obtain ⟨hx1, hi1, hd'⟩ := Q1v hd
  have hc1 : (decide ((i1 : Int) < ((List.length p0.fields) : Int))) = true := by simp; omega
  show Qas p0 _ ()
  exact Qu8 p0 (fun r hr => Q18z p0 H rec x1 i1 hx1 hi1 hc1 hr) _ (Q10l p0 H rec r1 (i1 + 1) hd')
theorem Q24b (p0 : Val) (H : Qyk p0) (rec : Qbj p0) : Qd G (Q1gr p0) (Q1cz p0) := by
  unfold Q1cz
  rw [Q22l]
  have hl0 := Q10k p0 ((Q15i p0 H).1) rec p0.list 0 (by simp)
  obtain ⟨z0, zo0, hl0⟩ := hl0
  have hl1 := Q10l p0 ((Q15i p0 H).2.1) rec p0.fields 0 (by simp)
  obtain ⟨z1, zo1, hl1⟩ := hl1
  exact Qj (fn := Ir.K1l) rfl VOK.nil [hP 7 (dec (decide (p0.kind < p0.kind)) false (decide_eq_false (Int.lt_irrefl _))), hP 4 (dec (decide (p0.kind < p0.kind)) false (decide_eq_false (Int.lt_irrefl _))), hP 8 (dec (decide (p0.n < p0.n)) false (decide_eq_false (Int.lt_irrefl _))), hP 4 (dec (decide (p0.n < p0.n)) false (decide_eq_false (Int.lt_irrefl _))), hP 8 (dec (sLt p0.s p0.s) false (Q1fi _)), hP 4 (dec (!((sLt p0.s p0.s) || (sEq p0.s p0.s))) false (by rw [(Q1tt (Q55.2 rfl))]; rfl)), hP 7 (Q1g (Val.rows p0.list) (List.length p0.list) (Val.Qa p0.list)), hP 2 (Q1g (Val.rows p0.list) (List.length p0.list) (Val.Qa p0.list)), hP 0 (dec (decide (((List.length p0.list) : Int) < ((List.length p0.list) : Int))) false (decide_eq_false (Int.lt_irrefl _))), hP 2 (Q1g (Val.rows p0.list) (List.length p0.list) (Val.Qa p0.list)), hP 2 (Q1g (Val.rows p0.list) (List.length p0.list) (Val.Qa p0.list)), hP 0 (dec (decide (((List.length p0.list) : Int) < ((List.length p0.list) : Int))) false (decide_eq_false (Int.lt_irrefl _))), hP 7 (Q1g (Fld.rows p0.fields) (List.length p0.fields) (Fld.Qa p0.fields)), hP 2 (Q1g (Fld.rows p0.fields) (List.length p0.fields) (Fld.Qa p0.fields)), hP 0 (dec (decide (((List.length p0.fields) : Int) < ((List.length p0.fields) : Int))) false (decide_eq_false (Int.lt_irrefl _))), hP 2 (Q1g (Fld.rows p0.fields) (List.length p0.fields) (Fld.Qa p0.fields)), hP 2 (Q1g (Fld.rows p0.fields) (List.length p0.fields) (Fld.Qa p0.fields)), hP 0 (dec (decide (((List.length p0.fields) : Int) < ((List.length p0.fields) : Int))) false (decide_eq_false (Int.lt_irrefl _)))] [aN (Q1an false false), aN (Q1an false false), aN (Q1an false false), aN hl0, aN (Q1an false false), aN hl1, aN (Q1an false false)] (by kernel_rfl)
theorem Q1th : ∀ (k : Nat) (p0 : Val), SizeOf.sizeOf p0 < k → Qyk p0 → Qd G (Q1gr p0) (Q1cz p0)
  | 0, _, h, _ => absurd h (Nat.not_lt_zero _)
  | k + 1, p0, h, H => Q24b p0 H (fun q hq hH => Q1th k q (by omega) hH)
theorem Q25a (p0 : Val) (H : Qyk p0) : Qd G (Q1gr p0) (Q1cz p0) := Q1th _ p0 (Nat.lt_succ_self _) H
def Q1u6 (_p0 : Val) : Bool :=
 true
def Q206 (p0 : Val) : En := .call 98 [.agg (Val.cells p0), .agg (Val.cells p0)] []
def Q1r3 (p0 : Val) : Rs := .ret (.bool (Q1u6 p0)) []
def Q1l9 (p0 : Val) : Prop := (Qyk p0) ∧ True
theorem Q1ug (p0 : Val) (H : Q1l9 p0) : Qd G (Q206 p0) (Q1r3 p0) := by
 unfold Q1r3 Q1u6
 exact Qj (fn := Ir.K1n) rfl VOK.nil [] [aN (Q8f (c := fun y => .call 194 [.agg (Val.cells p0), .agg (Val.cells y)] []) rfl (Q25a p0 H.1))] (by kernel_rfl)
def Q167 (p0 : List ByteArray) : List ByteArray → Nat → Unit
 | [], _i0 =>
  ()
 | _x0 :: r0, i0 =>
  Q167 p0 r0 (i0 + 1)
def Qxi (p0 : List ByteArray) (i0 : Nat) : List PV :=
  [.sl (Q10 p0), .sl (Q10 p0), .un, .un, .un, .int .i64 (i0 : Int)] ++ nuns 20
def Qyh (_p0 : List ByteArray) (_i0 : Nat) : List Ob :=
  []
def Qfq (p0 : List ByteArray) (i0 : Nat) : En := .loop 0 Ir.Qkg Ir.Q1jn (Qxi p0 i0) (Qyh p0 i0)
def Qpl (_p0 : List ByteArray) (z : Nat → PV) (_zo : Nat → List PV) : St :=
  ⟨zr z 0 26, [], 256⟩
def Qax (p0 : List ByteArray) (e : En) (_q : Unit) : Prop := ∃ z zo, Qd G e (.st (.exit 0) (Qpl p0 z zo))
theorem Quf (p0 : List ByteArray) {e e' : En} (h : ∀ r, Qd G e r → Qd G e' r) : ∀ q, Qax p0 e q → Qax p0 e' q
  | _, ⟨z, zo, hz⟩ => ⟨z, zo, h _ hz⟩
def Qgr (p0 : List ByteArray) : Prop := (List.length p0 ≤ 4611686018427387904) ∧ True
def Qr9 (p0 : List ByteArray) (i0 : Nat) : List PV :=
  [.sl (Q10 p0), .sl (Q10 p0), .un, .un, .un, .int .i64 (i0 : Int)] ++ nuns 5 ++ [.int .i64 (i0 : Int), .sl (Q10 p0), .int .i64 ((List.length p0) : Int), .bool false]
def Qm7 (_p0 : List ByteArray) (_i0 : Nat) : List (Nat × List PV) :=
  []
theorem Q1bj (p0 : List ByteArray) (_H : Qgr p0) (i0 : Nat) (hc0 : (decide ((i0 : Int) < ((List.length p0) : Int))) = false) : Qax p0 (Qfq p0 i0) () := by
 exact ⟨(envF (Qr9 p0 i0)), (zoF (Qm7 p0 i0)), Qv VOK.nil (x := ((.exit 0), Qpl p0 (envF (Qr9 p0 i0)) (zoF (Qm7 p0 i0)))) [hP 2 (Q1g (Q10 p0) (List.length p0) (Q30 p0)), hB 0 hc0] [] (by kernel_rfl)⟩
theorem Q195 (p0 : List ByteArray) (H : Qgr p0) (x0 : BA) (i0 : Nat) (hx0 : p0[i0]? = some x0) (hi0 : i0 < List.length p0) (hc0 : (decide ((i0 : Int) < ((List.length p0) : Int))) = true) {r : Rs} (hr : Qd G (Qfq p0 (i0 + 1)) r) : Qd G (Qfq p0 i0) r := by
 have hB0 := H.1
 exact Qu VOK.nil (y := (Qxi p0 (i0 + 1), Qyh p0 (i0 + 1))) [hP 2 (Q1g (Q10 p0) (List.length p0) (Q30 p0)), hB 0 hc0, hP 2 (Q35 1 (Q10 p0) i0 _ (Q8v hx0) rfl), hP 3 (Q35 1 (Q10 p0) i0 _ (Q8v hx0) rfl), hP 1 (dec (!(sEq x0 x0)) false (by rw [(Q55.2 rfl)]; rfl)), hP 1 (Q2s i0 (by omega))] [] (by kernel_rfl) hr
theorem Q10r (p0 : List ByteArray) (H : Qgr p0) : ∀ (r0 : List ByteArray) (i0 : Nat), List.drop i0 p0 = r0 → Qax p0 (Qfq p0 i0) (Q167 p0 r0 i0)
 | [], i0, hd => by
  have hc0 : (decide ((i0 : Int) < ((List.length p0) : Int))) = false := by have := Q1y hd; simp; omega
  show Qax p0 _ ()
  exact Q1bj p0 H i0 hc0
 | x0 :: r0, i0, hd => by
  obtain ⟨hx0, hi0, hd'⟩ := Q1v hd
  have hc0 : (decide ((i0 : Int) < ((List.length p0) : Int))) = true := by simp; omega
  show Qax p0 _ ()
  exact Quf p0 (fun r hr => Q195 p0 H x0 i0 hx0 hi0 hc0 hr) _ (Q10r p0 H r0 (i0 + 1) hd')
def Q1ua (_p0 : List ByteArray) : Bool :=
 true
def Q20d (p0 : List ByteArray) : En := .call 120 [.sl (Q10 p0), .sl (Q10 p0)] []
def Q1ra (p0 : List ByteArray) : Rs := .ret (.bool (Q1ua p0)) []
def Q1lc (p0 : List ByteArray) : Prop := (Qgr p0) ∧ True
theorem Q1ui (p0 : List ByteArray) (H : Q1lc p0) : Qd G (Q20d p0) (Q1ra p0) := by
 unfold Q1ra Q1ua
 have hl0 := Q10r p0 (H.1) p0 0 (by simp)
 obtain ⟨z0, zo0, hl0⟩ := hl0
 exact Qj (fn := Ir.K1z) rfl VOK.nil [hP 2 (Q1g (Q10 p0) (List.length p0) (Q30 p0)), hP 1 (Q1g (Q10 p0) (List.length p0) (Q30 p0)), hP 0 (dec (!(((List.length p0) : Int) == ((List.length p0) : Int))) false (by rw [(beq_self_eq_true _)]; rfl))] [aN hl0] (by kernel_rfl)
end Go.Proofs.YtimjjohlpnkacaaGreat
end

section
/- Parts of a slice of one's own, and appends of them. -/
namespace Go.Pv
def slmE (id sz n : Nat) (lo hi : Option Int) : Option Eff := (opP (fun _ => .un) (.slice sz (.c (.ms id sz 0 n)) (optI lo) (optI hi) none)).bind fun v => some ⟨v, [], []⟩
theorem Q17d (id sz n : Nat) (k : Int) (h0 : 0 ≤ k) (h1 : k ≤ (n : Int)) : slmE id sz n none (some k) = some (vE (.ms id sz 0 k.toNat)) := by
 unfold slmE
 simp only [opP, optI, Opd.ev, Q6b, asNat, Option.bind_some]
 have e0 : decide (0 ≤ k) = true := by simpa using h0
 rw [e0]
 simp only [cond_true, Option.bind_some]
 have e1 : (Nat.beq sz sz && Nat.ble 0 k.toNat && Nat.ble k.toNat n) = true := by
  rw [Nat.ble_eq_true_of_le (Nat.zero_le _), Nat.ble_eq_true_of_le (show k.toNat ≤ n by omega), Nat.beq_refl]
  rfl
 rw [e1]
 simp [vE]
theorem Q158 (id sz n : Nat) (k : Int) (h0 : 0 ≤ k) (h1 : k ≤ (n : Int)) : slmE id sz n (some k) none = some (vE (.ms id sz k.toNat (n - k.toNat))) := by
 unfold slmE
 simp only [opP, optI, Opd.ev, Q6b, asNat, Option.bind_some]
 have e0 : decide (0 ≤ k) = true := by simpa using h0
 rw [e0]
 simp only [cond_true, Option.bind_some]
 have e1 : (Nat.beq sz sz && Nat.ble k.toNat n && Nat.ble n n) = true := by
  rw [Nat.ble_eq_true_of_le (show k.toNat ≤ n by omega), Nat.ble_eq_true_of_le (Nat.le_refl n), Nat.beq_refl]
  rfl
 rw [e1]
 simp [vE]
theorem Qnu {sz : Nat} {rows : List (List PV)} (hs : ∀ r ∈ rows, r.length = sz) (off len : Nat) (h : off + len ≤ rows.length) :
  (rows.flatten.drop (off * sz)).take (len * sz) = ((rows.drop off).take len).flatten ∧ Nat.ble ((off + len) * sz) rows.flatten.length = true := by
 have hs' : ∀ r ∈ rows.drop off, r.length = sz := fun r hr => hs r (List.mem_of_mem_drop hr)
 have e : ∀ (l : List (List PV)) (k : Nat), (∀ r ∈ l, r.length = sz) → l.flatten.take (k * sz) = (l.take k).flatten := by
  intro l
  induction l with
  | nil => simp
  | cons q l ih =>
   intro k hl
   cases k with
   | zero => simp
   | succ k =>
    have hq := hl q List.mem_cons_self
    rw [List.flatten_cons, List.take_succ_cons, List.flatten_cons, ← ih k (fun r hr => hl r (List.mem_cons_of_mem _ hr)), show (k + 1) * sz = q.length + k * sz by rw [hq, Nat.add_mul]; omega, List.take_length_add_append]
 refine ⟨by rw [Qad sz rows off hs, e _ _ hs'], Nat.ble_eq_true_of_le ?_⟩
 rw [Q6d sz rows hs]
 exact Nat.mul_le_mul_right _ h
def appE (id fr sz bytes ro : Nat) (gr : Bool) (rows : List (List PV)) (off len : Nat) : Option Eff := Q50 (look [(id, ⟨sz, ro, gr, rows.flatten⟩)]) fr sz bytes (.ns sz) (.ms id sz off len)
theorem Q1go (id fr sz bytes ro : Nat) (gr : Bool) (rows : List (List PV)) (off len : Nat) (hs : ∀ r ∈ rows, r.length = sz) (h : off + len ≤ rows.length) (h0 : len = 0) : appE id fr sz bytes ro gr rows off len = some ⟨.ns sz, [], [id]⟩ := by
 subst h0
 obtain ⟨_, h2⟩ := Qnu hs off 0 h
 unfold appE Q50
 simp only [source, look, Nat.beq_refl, cond_true, Option.bind_some, Bool.true_and]
 rw [h2]
 simp
 rfl
theorem Q1tb (id fr sz bytes ro : Nat) (gr : Bool) (rows rows' : List (List PV)) (off len n' : Nat) (hs : ∀ r ∈ rows, r.length = sz) (h : off + len ≤ rows.length) (h0 : len ≠ 0) (hr : rows' = (rows.drop off).take len) (hn : n' = len) (hb : len * bytes ≤ 140737488355328) :
  appE id fr sz bytes ro gr rows off len = some ⟨.ms fr sz 0 n', [(fr, some ⟨sz, 0, true, rows'.flatten⟩)], [id]⟩ := by
 subst hr hn
 obtain ⟨h1, h2⟩ := Qnu hs off n' h
 unfold appE Q50
 simp only [source, look, Nat.beq_refl, cond_true, Option.bind_some, Bool.true_and]
 rw [h2]
 simp only [cond_true, Option.bind_some]
 rw [Nat.ble_eq_true_of_le hb, h1]
 cases n' with
 | zero => exact absurd rfl h0
 | succ n => rfl
def Q1t9 (id yid fr sz bytes ro : Nat) (cells : List PV) (yro : Nat) (ygr : Bool) (yrows : List (List PV)) (n off len : Nat) : Option Eff := Q50 (look [(id, ⟨sz, ro, true, cells⟩), (yid, ⟨sz, yro, ygr, yrows.flatten⟩)]) fr sz bytes (.ms id sz 0 n) (.ms yid sz off len)
theorem Q1d2 (id yid fr sz bytes ro : Nat) (cells : List PV) (rows0 : List (List PV)) (yro : Nat) (ygr : Bool) (yrows rows' : List (List PV)) (n off len n' : Nat) (hne : Nat.beq id yid = false) (hc : cells = rows0.flatten) (hn : n = rows0.length) (hn' : n' = rows'.length) (hr' : rows' = rows0 ++ (yrows.drop off).take len)
  (hs0 : ∀ r ∈ rows0, r.length = sz) (hs : ∀ r ∈ yrows, r.length = sz) (h : off + len ≤ yrows.length) (hb : (n + len) * bytes ≤ 140737488355328) :
  Q1t9 id yid fr sz bytes ro cells yro ygr yrows n off len = some ⟨.ms fr sz 0 n', [(id, none), (fr, some ⟨sz, ro, true, rows'.flatten⟩)], [id, yid]⟩ := by
 subst hc hn hn' hr'
 obtain ⟨h1, h2⟩ := Qnu hs off len h
 unfold Q1t9 Q50
 simp only [source, look, hne, Nat.beq_refl, cond_true, cond_false, Option.bind_some, Bool.true_and]
 rw [h2]
 simp only [cond_true, Option.bind_some]
 rw [Nat.ble_eq_true_of_le hb, h1, cond_true, Q1ki (ob := ⟨sz, ro, true, rows0.flatten⟩) (Q6d sz rows0 hs0)]
 have hl : ((yrows.drop off).take len).length = len := by simp; omega
 simp [hl]
end Go.Pv
end

section
/- Slices that are made with a length: their rows. -/
namespace Go.Pv
end Go.Pv
end

section
/- Rows of one's own: cleared behind a place, appended to from a place on. -/
namespace Go.Pv
theorem Val.Qwn (l : List Val) (k : Nat) (x : Val) : Val.rows (l.set k x) = (Val.rows l).set k (Val.cells x) := by simp [Val.Q46, List.map_set]
theorem Fld.Qwn (l : List Fld) (k : Nat) (x : Fld) : Fld.rows (l.set k x) = (Fld.rows l).set k (Fld.cells x) := by simp [Fld.Q46, List.map_set]
theorem Q13k {l : List (List PV)} {k : Nat} {r : List PV} (h : l[k]? = some r) : l = l.set k r := by
  apply List.ext_getElem?
  intro i
  rw [List.getElem?_set]
  by_cases e : k = i
  · subst e
    rw [if_pos rfl, h, if_pos (List.getElem?_eq_some_iff.1 h).1]
  · rw [if_neg e]
end Go.Pv
end

section
/- What copying values computes (printed by a program). -/
namespace Go.Proofs.YtimjjohlpnkacaaGreat
open Go.Pv
def Q1ub (p0 : Val) : Val := p0
def Q168 (p0 : Val) : List Val → Nat → Unit
 | [], _i0 =>
  ()
 | _x0 :: r0, i0 =>
  Q168 p0 r0 (i0 + 1)
def Qxz (p0 : Val) (i0 : Nat) : List PV :=
  [.un, .bx 0 0, .bx 1 0] ++ nuns 9 ++ [.ms 2 5 0 (List.length p0.list), .int .i64 ((List.length p0.list) : Int), .int .i64 (i0 : Int)] ++ nuns 33
abbrev eB : ByteArray := ⟨#[]⟩
def Qjd (p0 : Val) (_i0 : Nat) : List Ob :=
  [⟨5, 0, true, [.int .i64 p0.kind, .int .i64 p0.n, .str p0.s, .ms 2 5 0 (List.length p0.list), .sl (Fld.rows p0.fields)]⟩, ⟨5, 0, true, [.int .i64 0, .int .i64 0, .str eB, .ms 3 5 0 0, .ms 4 6 0 0]⟩, ⟨5, 0, true, (Val.rows p0.list).flatten⟩, ⟨5, 0, true, []⟩, ⟨6, 0, true, []⟩]
def Qg4 (p0 : Val) (i0 : Nat) : En := .loop 0 Ir.Ql0 Ir.Q1k7 (Qxz p0 i0) (Qjd p0 i0)
def Qq4 (p0 : Val) (z : Nat → PV) (_zo : Nat → List PV) : St :=
  ⟨[z 0, .bx 0 0, .bx 1 0] ++ zr z 3 45, [(0, ⟨5, 0, true, [.int .i64 p0.kind, .int .i64 p0.n, .str p0.s, .ms 2 5 0 (List.length p0.list), .sl (Fld.rows p0.fields)]⟩), (1, ⟨5, 0, true, [.int .i64 0, .int .i64 0, .str eB, .ms 3 5 0 0, .ms 4 6 0 0]⟩), (2, ⟨5, 0, true, (Val.rows p0.list).flatten⟩), (3, ⟨5, 0, true, []⟩), (4, ⟨6, 0, true, []⟩)], 69⟩
theorem Q14r (p0 : Val) (i0 : Nat) : VOK (Go.Pv.look (number 0 (Qjd p0 i0))) [(2, Val.rows p0.list)] := (VOK.cons (show Seen _ _ from Q3r (ob := ⟨5, 0, true, (Val.rows p0.list).flatten⟩) (Val.Qk p0.list 5 rfl)) VOK.nil)
def Qay (p0 : Val) (e : En) (_q : Unit) : Prop := ∃ z zo, Qd G e (.st (.exit 0) (Qq4 p0 z zo))
theorem Quw (p0 : Val) {e e' : En} (h : ∀ r, Qd G e r → Qd G e' r) : ∀ q, Qay p0 e q → Qay p0 e' q
  | _, ⟨z, zo, hz⟩ => ⟨z, zo, h _ hz⟩
def Q169 (p0 : Val) : List Fld → Nat → Unit
 | [], _i1 =>
  ()
 | _x1 :: r1, i1 =>
  Q169 p0 r1 (i1 + 1)
def Qy0 (p0 : Val) (i1 : Nat) : List PV :=
  [.un, .bx 0 0, .bx 1 0] ++ nuns 28 ++ [.ms 2 6 0 (List.length p0.fields), .int .i64 ((List.length p0.fields) : Int), .int .i64 (i1 : Int)] ++ nuns 14
def Qje (p0 : Val) (_i1 : Nat) : List Ob :=
  [⟨5, 0, true, [.int .i64 p0.kind, .int .i64 p0.n, .str p0.s, .ms 3 5 0 (List.length p0.list), .ms 2 6 0 (List.length p0.fields)]⟩, ⟨5, 0, true, [.int .i64 0, .int .i64 0, .str eB, .ms 4 5 0 0, .ms 5 6 0 0]⟩, ⟨6, 0, true, (Fld.rows p0.fields).flatten⟩, ⟨5, 0, true, (Val.rows p0.list).flatten⟩, ⟨5, 0, true, []⟩, ⟨6, 0, true, []⟩]
def Qg5 (p0 : Val) (i1 : Nat) : En := .loop 0 Ir.Ql1 Ir.Q1k8 (Qy0 p0 i1) (Qje p0 i1)
def Qq5 (p0 : Val) (z : Nat → PV) (_zo : Nat → List PV) : St :=
  ⟨[z 0, .bx 0 0, .bx 1 0] ++ zr z 3 45, [(0, ⟨5, 0, true, [.int .i64 p0.kind, .int .i64 p0.n, .str p0.s, .ms 3 5 0 (List.length p0.list), .ms 2 6 0 (List.length p0.fields)]⟩), (1, ⟨5, 0, true, [.int .i64 0, .int .i64 0, .str eB, .ms 4 5 0 0, .ms 5 6 0 0]⟩), (2, ⟨6, 0, true, (Fld.rows p0.fields).flatten⟩), (3, ⟨5, 0, true, (Val.rows p0.list).flatten⟩), (4, ⟨5, 0, true, []⟩), (5, ⟨6, 0, true, []⟩)], 70⟩
theorem Q14s (p0 : Val) (i1 : Nat) : VOK (Go.Pv.look (number 0 (Qje p0 i1))) [(2, Fld.rows p0.fields), (3, Val.rows p0.list)] := (VOK.cons (show Seen _ _ from Q3r (ob := ⟨6, 0, true, (Fld.rows p0.fields).flatten⟩) (Fld.Qk p0.fields 6 rfl)) (VOK.cons (show Seen _ _ from Q3r (ob := ⟨5, 0, true, (Val.rows p0.list).flatten⟩) (Val.Qk p0.list 5 rfl)) VOK.nil))
def Qaz (p0 : Val) (e : En) (_q : Unit) : Prop := ∃ z zo, Qd G e (.st (.exit 2) (Qq5 p0 z zo))
theorem Qux (p0 : Val) {e e' : En} (h : ∀ r, Qd G e r → Qd G e' r) : ∀ q, Qaz p0 e q → Qaz p0 e' q
  | _, ⟨z, zo, hz⟩ => ⟨z, zo, h _ hz⟩
theorem Q237 (p0 : Val) : Q1ub p0 = (p0) := by
  rfl
def Q1gt (p0 : Val) : En := .call 189 [.agg (Val.cells p0)] []
def Q1d1 (p0 : Val) : Rs := .ret (.agg (Val.cells (Q1ub p0))) []
abbrev Qof (p0 : Val) : Prop := Val.Sm 1000000000 p0
def Qbk (p0 : Val) : Prop := ∀ (q : Val), SizeOf.sizeOf q < SizeOf.sizeOf p0 → Qof q → Qd G (Q1gt q) (Q1d1 q)
def Qh3 (p0 : Val) : Prop := (List.length p0.list ≤ 4611686018427387904) ∧ (∀ x0 ∈ p0.list, Qof x0) ∧ True
def Qh4 (p0 : Val) : Prop := (List.length p0.fields ≤ 4611686018427387904) ∧ (∀ x1 ∈ p0.fields, Qof x1.v) ∧ True
theorem Qic (p0 : Val) (H : Qof p0) : (List.length p0.list * 80 ≤ 140737488355328) ∧ (Qh3 p0) ∧ (List.length p0.fields * 96 ≤ 140737488355328) ∧ (Qh4 p0) ∧ True := by
  obtain ⟨h1, h2, h3, h4⟩ := H.all
  exact ⟨by omega, ⟨by omega, h3, trivial⟩, by omega, ⟨by omega, h4, trivial⟩, trivial⟩
def Qrw (p0 : Val) (i0 : Nat) : List PV :=
  nuns 12 ++ [.ms 2 5 0 (List.length p0.list), .int .i64 ((List.length p0.list) : Int), .int .i64 (i0 : Int), .bool false]
def Qmu (_p0 : Val) (_i0 : Nat) : List (Nat × List PV) :=
  []
theorem Q1c6 (p0 : Val) (_H : Qh3 p0) (_rec : Qbk p0) (i0 : Nat) (hc0 : (decide ((i0 : Int) < ((List.length p0.list) : Int))) = false) : Qay p0 (Qg4 p0 i0) () := by
 exact ⟨(envF (Qrw p0 i0)), (zoF (Qmu p0 i0)), Qv (Q14r p0 i0) (x := ((.exit 0), Qq4 p0 (envF (Qrw p0 i0)) (zoF (Qmu p0 i0)))) [hB 0 hc0] [] (by kernel_rfl)⟩
theorem Q19r (p0 : Val) (H : Qh3 p0) (rec : Qbk p0) (x0 : Val) (i0 : Nat) (hx0 : p0.list[i0]? = some x0) (hi0 : i0 < List.length p0.list) (hc0 : (decide ((i0 : Int) < ((List.length p0.list) : Int))) = true) {r : Rs} (hr : Qd G (Qg4 p0 (i0 + 1)) r) : Qd G (Qg4 p0 i0) r := by
 have hB0 := H.1
 exact Qu (Q14r p0 i0) (y := (Qxz p0 (i0 + 1), Qjd p0 (i0 + 1))) [hB 0 hc0, hP 1 (Q58 2 5 (List.length p0.list) (i0 : Int) i0 (by omega) (by omega) (by omega)), hP 0 (Qba 2 5 0 true ((Val.rows p0.list).flatten) (Val.rows p0.list) 5 true i0 0 (i0 * 5) (Val.cells x0) (.agg [.int .i64 x0.kind, .int .i64 x0.n, .str x0.s, .sl (Val.rows x0.list), .sl (Fld.rows x0.fields)]) rfl rfl (Val.Qz hx0) (Val.Q12 p0.list) (by decide) rfl), hP 8 (Q58 2 5 (List.length p0.list) (i0 : Int) i0 (by omega) (by omega) (by omega)), hV 0 [(2, Val.rows p0.list)] (Q1fv 2 5 true ((Val.rows p0.list).flatten) (Val.rows p0.list) (Val.rows p0.list) 5 i0 0 (i0 * 5) _ (.agg [.int .i64 x0.kind, .int .i64 x0.n, .str x0.s, .sl (Val.rows x0.list), .sl (Fld.rows x0.fields)]) rfl rfl (Val.Qz hx0) (Val.Q12 p0.list) (by decide) rfl rfl (Q13k (Val.Qz hx0))), hS 0 true (Val.Qk p0.list 5 rfl), hP 0 (Q2s i0 (by omega))] [aN (rec x0 (szL hx0) (H.2.1 x0 (Q2z hx0)))] (by kernel_rfl) hr
theorem Q118 (p0 : Val) (H : Qh3 p0) (rec : Qbk p0) : ∀ (r0 : List Val) (i0 : Nat), List.drop i0 p0.list = r0 → Qay p0 (Qg4 p0 i0) (Q168 p0 r0 i0)
 | [], i0, hd => by
  have hc0 : (decide ((i0 : Int) < ((List.length p0.list) : Int))) = false := by have := Q1y hd; simp; omega
  show Qay p0 _ ()
  exact Q1c6 p0 H rec i0 hc0
 | x0 :: r0, i0, hd => by
  obtain ⟨hx0, hi0, hd'⟩ := Q1v hd
  have hc0 : (decide ((i0 : Int) < ((List.length p0.list) : Int))) = true := by simp; omega
  show Qay p0 _ ()
  exact Quw p0 (fun r hr => Q19r p0 H rec x0 i0 hx0 hi0 hc0 hr) _ (Q118 p0 H rec r0 (i0 + 1) hd')
def Qrx (p0 : Val) (i1 : Nat) : List PV :=
  nuns 31 ++ [.ms 2 6 0 (List.length p0.fields), .int .i64 ((List.length p0.fields) : Int), .int .i64 (i1 : Int), .bool false]
def Qmv (_p0 : Val) (_i1 : Nat) : List (Nat × List PV) :=
  []
theorem Q1c7 (p0 : Val) (_H : Qh4 p0) (_rec : Qbk p0) (i1 : Nat) (hc1 : (decide ((i1 : Int) < ((List.length p0.fields) : Int))) = false) : Qaz p0 (Qg5 p0 i1) () := by
 exact ⟨(envF (Qrx p0 i1)), (zoF (Qmv p0 i1)), Qv (Q14s p0 i1) (x := ((.exit 2), Qq5 p0 (envF (Qrx p0 i1)) (zoF (Qmv p0 i1)))) [hB 0 hc1] [] (by kernel_rfl)⟩
theorem Q19s (p0 : Val) (H : Qh4 p0) (rec : Qbk p0) (x1 : Fld) (i1 : Nat) (hx1 : p0.fields[i1]? = some x1) (hi1 : i1 < List.length p0.fields) (hc1 : (decide ((i1 : Int) < ((List.length p0.fields) : Int))) = true) {r : Rs} (hr : Qd G (Qg5 p0 (i1 + 1)) r) : Qd G (Qg5 p0 i1) r := by
 have hB0 := H.1
 exact Qu (Q14s p0 i1) (y := (Qy0 p0 (i1 + 1), Qje p0 (i1 + 1))) [hB 0 hc1, hP 1 (Q58 2 6 (List.length p0.fields) (i1 : Int) i1 (by omega) (by omega) (by omega)), hP 0 (Qba 2 6 0 true ((Fld.rows p0.fields).flatten) (Fld.rows p0.fields) 6 true i1 0 (i1 * 6) (Fld.cells x1) (.agg [.str x1.name, .int .i64 x1.v.kind, .int .i64 x1.v.n, .str x1.v.s, .sl (Val.rows x1.v.list), .sl (Fld.rows x1.v.fields)]) rfl rfl (Fld.Qz hx1) (Fld.Q12 p0.fields) (by decide) rfl), hP 9 (Q58 2 6 (List.length p0.fields) (i1 : Int) i1 (by omega) (by omega) (by omega)), hV 1 [(2, Fld.rows p0.fields)] (Q1fv 2 6 true ((Fld.rows p0.fields).flatten) (Fld.rows p0.fields) (Fld.rows p0.fields) 5 i1 1 (i1 * 6 + 1) _ (.agg [.int .i64 x1.v.kind, .int .i64 x1.v.n, .str x1.v.s, .sl (Val.rows x1.v.list), .sl (Fld.rows x1.v.fields)]) rfl rfl (Fld.Qz hx1) (Fld.Q12 p0.fields) (by decide) rfl rfl (Q13k (Fld.Qz hx1))), hS 0 true (Fld.Qk p0.fields 6 rfl), hP 0 (Q2s i1 (by omega))] [aN (rec x1.v (szF hx1) (H.2.1 x1 (Q2z hx1)))] (by kernel_rfl) hr
theorem Q119 (p0 : Val) (H : Qh4 p0) (rec : Qbk p0) : ∀ (r1 : List Fld) (i1 : Nat), List.drop i1 p0.fields = r1 → Qaz p0 (Qg5 p0 i1) (Q169 p0 r1 i1)
 | [], i1, hd => by
  have hc1 : (decide ((i1 : Int) < ((List.length p0.fields) : Int))) = false := by have := Q1y hd; simp; omega
  show Qaz p0 _ ()
  exact Q1c7 p0 H rec i1 hc1
 | x1 :: r1, i1, hd => by
  obtain ⟨hx1, hi1, hd'⟩ := Q1v hd
  have hc1 : (decide ((i1 : Int) < ((List.length p0.fields) : Int))) = true := by simp; omega
  show Qaz p0 _ ()
  exact Qux p0 (fun r hr => Q19s p0 H rec x1 i1 hx1 hi1 hc1 hr) _ (Q119 p0 H rec r1 (i1 + 1) hd')
theorem Q24d (p0 : Val) (H : Qof p0) (rec : Qbk p0) : Qd G (Q1gt p0) (Q1d1 p0) := by
  unfold Q1d1
  rw [Q237]
  have hl0 := Q118 p0 ((Qic p0 H).2.1) rec p0.list 0 (by simp)
  obtain ⟨z0, zo0, hl0⟩ := hl0
  have hl1 := Q119 p0 ((Qic p0 H).2.2.2.1) rec p0.fields 0 (by simp)
  obtain ⟨z1, zo1, hl1⟩ := hl1
  exact Qj (fn := Ir.K53) rfl VOK.nil [hQ (Val.Qk p0.list 5 rfl), hS 0 true (Val.Qk p0.list 5 rfl), hQ (Fld.Qk p0.fields 6 rfl), hS 0 true (Fld.Qk p0.fields 6 rfl), hS 0 true (Val.Qk p0.list 5 rfl), hQ (Val.Qa p0.list).symm, hQ (Fld.Qa p0.fields).symm] [aV [(0, Val.rows p0.list)] (Q9l (G := G) (f := 222) (sz := 5) (bytes := 80) rfl (Val.Qa p0.list) (Val.Qk p0.list 5 rfl) (Qic p0 H).1), aV [(2, Val.rows p0.list)] hl0, aV [(0, Fld.rows p0.fields)] (Q9l (G := G) (f := 185) (sz := 6) (bytes := 96) rfl (Fld.Qa p0.fields) (Fld.Qk p0.fields 6 rfl) (Qic p0 H).2.2.1), aV [(2, Fld.rows p0.fields), (3, Val.rows p0.list)] hl1] (by kernel_rfl)
theorem Q1tj : ∀ (k : Nat) (p0 : Val), SizeOf.sizeOf p0 < k → Qof p0 → Qd G (Q1gt p0) (Q1d1 p0)
  | 0, _, h, _ => absurd h (Nat.not_lt_zero _)
  | k + 1, p0, h, H => Q24d p0 H (fun q hq hH => Q1tj k q (by omega) hH)
theorem Q1mz (p0 : Val) (H : Qof p0) : Qd G (Q1gt p0) (Q1d1 p0) := Q1tj _ p0 (Nat.lt_succ_self _) H
inductive Q143 where
  | k0
  | k1 (q0 : Val)
def Q80 (p0 : Val) (p1 : BA) : List Fld → Nat → Q143
 | [], _i0 =>
  (.k0)
 | x0 :: r0, i0 =>
  bif (sEq x0.name p1) then
   (.k1 x0.v)
  else
   Q80 p0 p1 r0 (i0 + 1)
def Qxy (p0 : Val) (p1 : BA) (i0 : Nat) : List PV :=
  [.un, .str p1, .un, .un, .bx 0 0] ++ nuns 7 ++ [.sl (Fld.rows p0.fields), .int .i64 ((List.length p0.fields) : Int), .int .i64 (i0 : Int)] ++ nuns 12
def Qyj (_p0 : Val) (_p1 : BA) (_i0 : Nat) : List Ob :=
  [⟨5, 0, true, [.int .i64 0, .int .i64 0, .str eB, .ms 1 5 0 0, .ms 2 6 0 0]⟩, ⟨5, 0, true, []⟩, ⟨6, 0, true, []⟩]
def Qcb (p0 : Val) (p1 : BA) (i0 : Nat) : En := .loop 0 Ir.Qky Ir.Q1k5 (Qxy p0 p1 i0) (Qyj p0 p1 i0)
def Qq1 (_p0 : Val) (_p1 : BA) (z : Nat → PV) (_zo : Nat → List PV) : St :=
  ⟨[z 0, z 1, z 2, z 3, .bx 0 0] ++ zr z 5 22, [(0, ⟨5, 0, true, [.int .i64 0, .int .i64 0, .str eB, .ms 1 5 0 0, .ms 2 6 0 0]⟩), (1, ⟨5, 0, true, []⟩), (2, ⟨6, 0, true, []⟩)], 67⟩
def Qq2 (_p0 : Val) (_p1 : BA) (q0 : Val) (z : Nat → PV) (zo : Nat → List PV) : St :=
  ⟨[z 0, z 1, z 2, z 3, .bx 0 0, .bool true] ++ zr z 6 21, [(0, ⟨5, 0, true, [.int .i64 q0.kind, .int .i64 q0.n, .str q0.s, .sl (Val.rows q0.list), .sl (Fld.rows q0.fields)]⟩), (1, ⟨5, 0, true, zo 1⟩), (2, ⟨6, 0, true, zo 2⟩), (195, ⟨6, 0, true, zo 195⟩)], 899⟩
def Qct (p0 : Val) (p1 : BA) (e : En) : Q143 → Prop
  | .k0 => ∃ z zo, Qd G e (.st (.exit 0) (Qq1 p0 p1 z zo))
  | .k1 q0 => ∃ z zo, Qd G e (.st .ret (Qq2 p0 p1 q0 z zo))
theorem Quv (p0 : Val) (p1 : BA) {e e' : En} (h : ∀ r, Qd G e r → Qd G e' r) : ∀ q, Qct p0 p1 e q → Qct p0 p1 e' q
  | .k0, ⟨z, zo, hz⟩ => ⟨z, zo, h _ hz⟩
  | .k1 _, ⟨z, zo, hz⟩ => ⟨z, zo, h _ hz⟩
def Qci (p0 : Val) (_p1 : BA) : Prop := (List.length p0.fields ≤ 4611686018427387904) ∧ (∀ x0 ∈ p0.fields, Qof x0.v) ∧ True
def Qrt (p0 : Val) (p1 : BA) (i0 : Nat) : List PV :=
  [.un, .str p1] ++ nuns 10 ++ [.sl (Fld.rows p0.fields), .int .i64 ((List.length p0.fields) : Int), .int .i64 (i0 : Int), .bool false]
def Qmr (_p0 : Val) (_p1 : BA) (_i0 : Nat) : List (Nat × List PV) :=
  []
theorem Q1c3 (p0 : Val) (p1 : BA) (_H : Qci p0 p1) (i0 : Nat) (hc0 : (decide ((i0 : Int) < ((List.length p0.fields) : Int))) = false) : Qct p0 p1 (Qcb p0 p1 i0) (.k0) := by
 exact ⟨(envF (Qrt p0 p1 i0)), (zoF (Qmr p0 p1 i0)), Qv VOK.nil (x := ((.exit 0), Qq1 p0 p1 (envF (Qrt p0 p1 i0)) (zoF (Qmr p0 p1 i0)))) [hB 0 hc0] [] (by kernel_rfl)⟩
def Qru (p0 : Val) (p1 : BA) (i0 : Nat) (x0 : Fld) : List PV :=
  [.un, .str p1] ++ nuns 5 ++ [.bx 195 0, .un, .un, .un, .un, .sl (Fld.rows p0.fields), .int .i64 ((List.length p0.fields) : Int), .int .i64 (i0 : Int), .bool true, .rf [.str x0.name, .int .i64 x0.v.kind, .int .i64 x0.v.n, .str x0.v.s, .sl (Val.rows x0.v.list), .sl (Fld.rows x0.v.fields)], .agg [.str x0.name, .int .i64 x0.v.kind, .int .i64 x0.v.n, .str x0.v.s, .sl (Val.rows x0.v.list), .sl (Fld.rows x0.v.fields)], .bx 195 0, .str x0.name, .str p1, .bool true, .bx 195 1, .agg [.int .i64 x0.v.kind, .int .i64 x0.v.n, .str x0.v.s, .sl (Val.rows x0.v.list), .sl (Fld.rows x0.v.fields)], .agg [.int .i64 x0.v.kind, .int .i64 x0.v.n, .str x0.v.s, .sl (Val.rows x0.v.list), .sl (Fld.rows x0.v.fields)]]
def Qms (_p0 : Val) (_p1 : BA) (_i0 : Nat) (x0 : Fld) : List (Nat × List PV) :=
  [(1, []), (2, []), (195, [.str x0.name, .int .i64 x0.v.kind, .int .i64 x0.v.n, .str x0.v.s, .sl (Val.rows x0.v.list), .sl (Fld.rows x0.v.fields)])]
theorem Q1c4 (p0 : Val) (p1 : BA) (H : Qci p0 p1) (x0 : Fld) (i0 : Nat) (hx0 : p0.fields[i0]? = some x0) (_hi0 : i0 < List.length p0.fields) (hc0 : (decide ((i0 : Int) < ((List.length p0.fields) : Int))) = true) (h0 : (sEq x0.name p1) = true) : Qct p0 p1 (Qcb p0 p1 i0) (.k1 x0.v) := by
 exact ⟨(envF (Qru p0 p1 i0 x0)), (zoF (Qms p0 p1 i0 x0)), Qv VOK.nil (x := (.ret, Qq2 p0 p1 x0.v (envF (Qru p0 p1 i0 x0)) (zoF (Qms p0 p1 i0 x0)))) [hB 0 hc0, hP 0 (Q35 6 (Fld.rows p0.fields) i0 _ (Fld.Qz hx0) rfl), hB 6 h0] [aN (Q1mz x0.v (H.2.1 x0 (Q2z hx0)))] (by kernel_rfl)⟩
theorem Q19n (p0 : Val) (p1 : BA) (H : Qci p0 p1) (x0 : Fld) (i0 : Nat) (hx0 : p0.fields[i0]? = some x0) (hi0 : i0 < List.length p0.fields) (hc0 : (decide ((i0 : Int) < ((List.length p0.fields) : Int))) = true) (h0 : (sEq x0.name p1) = false) {r : Rs} (hr : Qd G (Qcb p0 p1 (i0 + 1)) r) : Qd G (Qcb p0 p1 i0) r := by
 have hB0 := H.1
 exact Qu VOK.nil (y := (Qxy p0 p1 (i0 + 1), Qyj p0 p1 (i0 + 1))) [hB 0 hc0, hP 0 (Q35 6 (Fld.rows p0.fields) i0 _ (Fld.Qz hx0) rfl), hB 6 h0, hP 0 (Q2s i0 (by omega))] [] (by kernel_rfl) hr
theorem Q117 (p0 : Val) (p1 : BA) (H : Qci p0 p1) : ∀ (r0 : List Fld) (i0 : Nat), List.drop i0 p0.fields = r0 → Qct p0 p1 (Qcb p0 p1 i0) (Q80 p0 p1 r0 i0)
 | [], i0, hd => by
  have hc0 : (decide ((i0 : Int) < ((List.length p0.fields) : Int))) = false := by have := Q1y hd; simp; omega
  rw [Q80]
  exact Q1c3 p0 p1 H i0 hc0
 | x0 :: r0, i0, hd => by
  obtain ⟨hx0, hi0, hd'⟩ := Q1v hd
  have hc0 : (decide ((i0 : Int) < ((List.length p0.fields) : Int))) = true := by simp; omega
  rw [Q80]
  cases h0 : (sEq x0.name p1) with
  | true =>
   exact Q1c4 p0 p1 H x0 i0 hx0 hi0 hc0 h0
  | false =>
   exact Quv p0 p1 (fun r hr => Q19n p0 p1 H x0 i0 hx0 hi0 hc0 h0 hr) _ (Q117 p0 p1 H r0 (i0 + 1) hd')
def Qoo (p0 : Val) (p1 : BA) : Val × Bool :=
 bif (p0.kind == 5) then
  (match (Q80 p0 p1 p0.fields 0) with
  | .k0 => ((Val.mk 0 0 eB [] []), false)
  | .k1 y1_0 => (y1_0, true))
 else
  ((Val.mk 0 0 eB [] []), false)
def Q213 (p0 : Val) (p1 : BA) : En := .call 184 [.agg (Val.cells p0), .str p1] []
def Q1s1 (p0 : Val) (p1 : BA) : Rs := .ret (.tup [.agg (Val.cells (Qoo p0 p1).1), .bool (Qoo p0 p1).2]) []
def Q1gh (p0 : Val) (p1 : BA) : Prop := (Qci p0 p1) ∧ True
theorem Q1ix (p0 : Val) (p1 : BA) (H : Q1gh p0 p1) : Qd G (Q213 p0 p1) (Q1s1 p0 p1) := by
 unfold Q1s1 Qoo
 cases h0 : (p0.kind == 5) with
 | true =>
  have hl1 := Q117 p0 p1 (H.1) p0.fields 0 (by simp)
  cases hr1 : (Q80 p0 p1 p0.fields 0) with
  | k0 =>
   rw [hr1] at hl1
   obtain ⟨z1, zo1, hl1⟩ := hl1
   exact Qj (fn := Ir.K4x) rfl VOK.nil [hB 5 h0, hP 2 (Q1g (Fld.rows p0.fields) (List.length p0.fields) (Fld.Qa p0.fields))] [aN hl1] (by kernel_rfl)
  | k1 y1_0 =>
   rw [hr1] at hl1
   obtain ⟨z1, zo1, hl1⟩ := hl1
   exact Qj (fn := Ir.K4x) rfl VOK.nil [hB 5 h0, hP 2 (Q1g (Fld.rows p0.fields) (List.length p0.fields) (Fld.Qa p0.fields))] [aN hl1] (by kernel_rfl)
 | false =>
  exact Qj (fn := Ir.K4x) rfl VOK.nil [hB 5 h0] [] (by kernel_rfl)
def Qo4 (p0 : List Val) : Val :=
 (Val.mk 4 0 eB p0 [])
def Q215 (p0 : List Val) : En := .call 256 [.sl (Val.rows p0)] []
def Q1s3 (p0 : List Val) : Rs := .ret (.agg (Val.cells (Qo4 p0))) []
def Qoe (p0 : List Val) : Prop := (Qof (Val.mk 4 0 eB p0 [])) ∧ True
theorem Qwv (p0 : List Val) (H : Qoe p0) : Qd G (Q215 p0) (Q1s3 p0) := by
 unfold Q1s3 Qo4
 exact Qj (fn := Ir.K4z) rfl VOK.nil [] [aN (Q1mz (Val.mk 4 0 eB p0 []) H.1)] (by kernel_rfl)
end Go.Proofs.YtimjjohlpnkacaaGreat
end

section
/- What building a map computes (printed by a program). -/
namespace Go.Proofs.YtimjjohlpnkacaaGreat
open Go.Pv
def Q1mv (p0 : BA) (p1 : BA) : Int :=
 (sCmp p0 p1)
def Q211 (p0 : BA) (p1 : BA) : En := .call 188 [.str p0, .str p1] []
def Q1rz (p0 : BA) (p1 : BA) : Rs := .ret (.int .i64 (Q1mv p0 p1)) []
theorem Q25r (p0 : BA) (p1 : BA) : Qd G (Q211 p0 p1) (Q1rz p0 p1) := by
 unfold Q1rz Q1mv
 exact Qj (fn := Ir.K4v) rfl VOK.nil [] [aN (Q1j4 p0 p1)] (by kernel_rfl)
def Q11z (p0 : Fld) (p1 : Fld) : Int :=
 (Q1mv p0.name p1.name)
def Q216 (p0 : Fld) (p1 : Fld) : En := .call 187 [.agg (Fld.cells p0), .agg (Fld.cells p1)] []
def Q1s5 (p0 : Fld) (p1 : Fld) : Rs := .ret (.int .i64 (Q11z p0 p1)) []
theorem Q1ul (p0 : Fld) (p1 : Fld) : Qd G (Q216 p0 p1) (Q1s5 p0 p1) := by
 unfold Q1s5 Q11z
 exact Qj (fn := Ir.K51) rfl VOK.nil [] [aN (Q25r p0.name p1.name)] (by kernel_rfl)
abbrev zF : Fld := (Fld.mk eB (Val.mk 0 0 eB [] []))
def Q42 (n0 : Nat) (p1 : Int) (p2 : Int) (v0_0 : Int) : Nat → (List Fld) → Int → List Fld
 | 0, v1_0, _v1_1 => v1_0
 | k1 + 1, v1_0, v1_1 =>
  bif (decide (p1 < v1_1)) then
   bif (decide ((Q11z (List.getD v1_0 (Int.toNat v1_1) zF) (List.getD v1_0 (Int.toNat (v1_1 - 1)) zF)) < 0)) then
    Q42 n0 p1 p2 v0_0 k1 (List.set (List.set v1_0 (Int.toNat v1_1) (List.getD v1_0 (Int.toNat (v1_1 - 1)) zF)) (Int.toNat (v1_1 - 1)) (List.getD v1_0 (Int.toNat v1_1) zF)) (v1_1 - 1)
   else
    v1_0
  else
   v1_0
def Qxw (n0 : Nat) (p1 : Int) (p2 : Int) (v0_0 : Int) (_v1_0 : List Fld) (v1_1 : Int) : List PV :=
  [.ms 0 6 0 n0, .int .i64 p1, .int .i64 p2, .fn 187 [] [], .un, .un, .un, .un, .int .i64 v0_0, .int .i64 v1_1] ++ nuns 43
def Qjb (_n0 : Nat) (_p1 : Int) (_p2 : Int) (_v0_0 : Int) (v1_0 : List Fld) (_v1_1 : Int) : List Ob :=
  [⟨6, 0, false, (Fld.rows v1_0).flatten⟩]
def Qao (n0 : Nat) (p1 : Int) (p2 : Int) (v0_0 : Int) (v1_0 : List Fld) (v1_1 : Int) : En := .loop 1 Ir.Qkv Ir.Q1k2 (Qxw n0 p1 p2 v0_0 v1_0 v1_1) (Qjb n0 p1 p2 v0_0 v1_0 v1_1)
def Qb1 (n0 : Nat) (p1 : Int) (p2 : Int) (v0_0 : Int) (q0 : List Fld) (z : Nat → PV) (_zo : Nat → List PV) : St :=
  ⟨[.ms 0 6 0 n0, .int .i64 p1, .int .i64 p2, .fn 187 [] [], z 4, z 5, z 6, z 7, .int .i64 v0_0] ++ zr z 9 44, [(0, ⟨6, 0, false, (Fld.rows q0).flatten⟩)], 1089⟩
theorem Qvl (n0 : Nat) (p1 : Int) (p2 : Int) (v0_0 : Int) (v1_0 : List Fld) (v1_1 : Int) : VOK (Go.Pv.look (number 0 (Qjb n0 p1 p2 v0_0 v1_0 v1_1))) [(0, Fld.rows v1_0)] := (VOK.cons (show Seen _ _ from Q3r (ob := ⟨6, 0, false, (Fld.rows v1_0).flatten⟩) (Fld.Qk v1_0 6 rfl)) VOK.nil)
def Qcs (n0 : Nat) (p1 : Int) (p2 : Int) (v0_0 : Int) (e : En) (q : List Fld) : Prop := ∃ z zo, Qd G e (.st (.exit 2) (Qb1 n0 p1 p2 v0_0 q z zo))
theorem Qut (n0 : Nat) (p1 : Int) (p2 : Int) (v0_0 : Int) {e e' : En} (h : ∀ r, Qd G e r → Qd G e' r) : ∀ q, Qcs n0 p1 p2 v0_0 e q → Qcs n0 p1 p2 v0_0 e' q
  | _, ⟨z, zo, hz⟩ => ⟨z, zo, h _ hz⟩
theorem Q19l (n0 : Nat) (p1 : Int) (p2 : Int) (v0_0 : Int) (v1_0 : List Fld) (v1_1 : Int) (ho1_0 : 0 ≤ p1) (_ho1_1 : p1 ≤ v1_1) (ho1_2 : v1_1 < n0) (ho1_3 : (n0 : Int) ≤ 20) (ho1_4 : List.length v1_0 = n0) (h0 : (decide (p1 < v1_1)) = true) (h1 : (decide ((Q11z (List.getD v1_0 (Int.toNat v1_1) zF) (List.getD v1_0 (Int.toNat (v1_1 - 1)) zF)) < 0)) = true) {r : Rs} (hr : Qd G (Qao n0 p1 p2 v0_0 (List.set (List.set v1_0 (Int.toNat v1_1) (List.getD v1_0 (Int.toNat (v1_1 - 1)) zF)) (Int.toNat (v1_1 - 1)) (List.getD v1_0 (Int.toNat v1_1) zF)) (v1_1 - 1)) r) : Qd G (Qao n0 p1 p2 v0_0 v1_0 v1_1) r := by
 have e0 := of_decide_eq_true h0; have e1 := of_decide_eq_true h1
 exact Qu (Qvl n0 p1 p2 v0_0 v1_0 v1_1) (y := (Qxw n0 p1 p2 v0_0 (List.set (List.set v1_0 (Int.toNat v1_1) (List.getD v1_0 (Int.toNat (v1_1 - 1)) zF)) (Int.toNat (v1_1 - 1)) (List.getD v1_0 (Int.toNat v1_1) zF)) (v1_1 - 1), Qjb n0 p1 p2 v0_0 (List.set (List.set v1_0 (Int.toNat v1_1) (List.getD v1_0 (Int.toNat (v1_1 - 1)) zF)) (Int.toNat (v1_1 - 1)) (List.getD v1_0 (Int.toNat v1_1) zF)) (v1_1 - 1))) [hB 2 h0, hP 4 (Q58 0 6 n0 v1_1 (Int.toNat v1_1) rfl (by omega) (by omega)), hP 0 (Qba 0 6 0 false ((Fld.rows v1_0).flatten) (Fld.rows v1_0) 6 true (Int.toNat v1_1) 0 ((Int.toNat v1_1) * 6) (Fld.cells (List.getD v1_0 (Int.toNat v1_1) zF)) (.agg [.str (List.getD v1_0 (Int.toNat v1_1) zF).name, .int .i64 (List.getD v1_0 (Int.toNat v1_1) zF).v.kind, .int .i64 (List.getD v1_0 (Int.toNat v1_1) zF).v.n, .str (List.getD v1_0 (Int.toNat v1_1) zF).v.s, .sl (Val.rows (List.getD v1_0 (Int.toNat v1_1) zF).v.list), .sl (Fld.rows (List.getD v1_0 (Int.toNat v1_1) zF).v.fields)]) rfl rfl (Fld.Qz (Q5j v1_0 (Int.toNat v1_1) zF (by omega))) (Fld.Q12 v1_0) (by decide) rfl), hP 2 (w_ok (v1_1 - 1) (by omega)), hP 0 (Q58 0 6 n0 (v1_1 - 1) (Int.toNat (v1_1 - 1)) rfl (by omega) (by omega)), hP 0 (Qba 0 6 0 false ((Fld.rows v1_0).flatten) (Fld.rows v1_0) 6 true (Int.toNat (v1_1 - 1)) 0 ((Int.toNat (v1_1 - 1)) * 6) (Fld.cells (List.getD v1_0 (Int.toNat (v1_1 - 1)) zF)) (.agg [.str (List.getD v1_0 (Int.toNat (v1_1 - 1)) zF).name, .int .i64 (List.getD v1_0 (Int.toNat (v1_1 - 1)) zF).v.kind, .int .i64 (List.getD v1_0 (Int.toNat (v1_1 - 1)) zF).v.n, .str (List.getD v1_0 (Int.toNat (v1_1 - 1)) zF).v.s, .sl (Val.rows (List.getD v1_0 (Int.toNat (v1_1 - 1)) zF).v.list), .sl (Fld.rows (List.getD v1_0 (Int.toNat (v1_1 - 1)) zF).v.fields)]) rfl rfl (Fld.Qz (Q5j v1_0 (Int.toNat (v1_1 - 1)) zF (by omega))) (Fld.Q12 v1_0) (by decide) rfl), hB 1 h1, hP 5 (w_ok (v1_1 - 1) (by omega)), hP 2 (w_ok (v1_1 - 1) (by omega)), hP 0 (Q58 0 6 n0 (v1_1 - 1) (Int.toNat (v1_1 - 1)) rfl (by omega) (by omega)), hP 0 (Qba 0 6 0 false ((Fld.rows v1_0).flatten) (Fld.rows v1_0) 6 true (Int.toNat (v1_1 - 1)) 0 ((Int.toNat (v1_1 - 1)) * 6) (Fld.cells (List.getD v1_0 (Int.toNat (v1_1 - 1)) zF)) (.agg [.str (List.getD v1_0 (Int.toNat (v1_1 - 1)) zF).name, .int .i64 (List.getD v1_0 (Int.toNat (v1_1 - 1)) zF).v.kind, .int .i64 (List.getD v1_0 (Int.toNat (v1_1 - 1)) zF).v.n, .str (List.getD v1_0 (Int.toNat (v1_1 - 1)) zF).v.s, .sl (Val.rows (List.getD v1_0 (Int.toNat (v1_1 - 1)) zF).v.list), .sl (Fld.rows (List.getD v1_0 (Int.toNat (v1_1 - 1)) zF).v.fields)]) rfl rfl (Fld.Qz (Q5j v1_0 (Int.toNat (v1_1 - 1)) zF (by omega))) (Fld.Q12 v1_0) (by decide) rfl), hP 2 (Q58 0 6 n0 v1_1 (Int.toNat v1_1) rfl (by omega) (by omega)), hP 0 (Qba 0 6 0 false ((Fld.rows v1_0).flatten) (Fld.rows v1_0) 6 true (Int.toNat v1_1) 0 ((Int.toNat v1_1) * 6) (Fld.cells (List.getD v1_0 (Int.toNat v1_1) zF)) (.agg [.str (List.getD v1_0 (Int.toNat v1_1) zF).name, .int .i64 (List.getD v1_0 (Int.toNat v1_1) zF).v.kind, .int .i64 (List.getD v1_0 (Int.toNat v1_1) zF).v.n, .str (List.getD v1_0 (Int.toNat v1_1) zF).v.s, .sl (Val.rows (List.getD v1_0 (Int.toNat v1_1) zF).v.list), .sl (Fld.rows (List.getD v1_0 (Int.toNat v1_1) zF).v.fields)]) rfl rfl (Fld.Qz (Q5j v1_0 (Int.toNat v1_1) zF (by omega))) (Fld.Q12 v1_0) (by decide) rfl), hP 0 (Q58 0 6 n0 v1_1 (Int.toNat v1_1) rfl (by omega) (by omega)), hV 0 [(0, Fld.rows (List.set v1_0 (Int.toNat v1_1) (List.getD v1_0 (Int.toNat (v1_1 - 1)) zF)))] (Q1fv 0 6 false ((Fld.rows v1_0).flatten) (Fld.rows v1_0) (Fld.rows (List.set v1_0 (Int.toNat v1_1) (List.getD v1_0 (Int.toNat (v1_1 - 1)) zF))) 6 (Int.toNat v1_1) 0 ((Int.toNat v1_1) * 6) _ (.agg [.str (List.getD v1_0 (Int.toNat (v1_1 - 1)) zF).name, .int .i64 (List.getD v1_0 (Int.toNat (v1_1 - 1)) zF).v.kind, .int .i64 (List.getD v1_0 (Int.toNat (v1_1 - 1)) zF).v.n, .str (List.getD v1_0 (Int.toNat (v1_1 - 1)) zF).v.s, .sl (Val.rows (List.getD v1_0 (Int.toNat (v1_1 - 1)) zF).v.list), .sl (Fld.rows (List.getD v1_0 (Int.toNat (v1_1 - 1)) zF).v.fields)]) rfl rfl (Fld.Qz (Q5j v1_0 (Int.toNat v1_1) zF (by omega))) (Fld.Q12 v1_0) (by decide) rfl rfl (Fld.Qwn v1_0 (Int.toNat v1_1) (List.getD v1_0 (Int.toNat (v1_1 - 1)) zF))), hS 0 false (Fld.Qk (List.set v1_0 (Int.toNat v1_1) (List.getD v1_0 (Int.toNat (v1_1 - 1)) zF)) 6 rfl), hP 0 (Q58 0 6 n0 (v1_1 - 1) (Int.toNat (v1_1 - 1)) rfl (by have f0 := (Q65 ho1_4 (Int.toNat v1_1) (List.getD v1_0 (Int.toNat (v1_1 - 1)) zF)); omega) (by have f0 := (Q65 ho1_4 (Int.toNat v1_1) (List.getD v1_0 (Int.toNat (v1_1 - 1)) zF)); omega)), hV 0 [(0, Fld.rows (List.set (List.set v1_0 (Int.toNat v1_1) (List.getD v1_0 (Int.toNat (v1_1 - 1)) zF)) (Int.toNat (v1_1 - 1)) (List.getD v1_0 (Int.toNat v1_1) zF)))] (Q1fv 0 6 false ((Fld.rows (List.set v1_0 (Int.toNat v1_1) (List.getD v1_0 (Int.toNat (v1_1 - 1)) zF))).flatten) (Fld.rows (List.set v1_0 (Int.toNat v1_1) (List.getD v1_0 (Int.toNat (v1_1 - 1)) zF))) (Fld.rows (List.set (List.set v1_0 (Int.toNat v1_1) (List.getD v1_0 (Int.toNat (v1_1 - 1)) zF)) (Int.toNat (v1_1 - 1)) (List.getD v1_0 (Int.toNat v1_1) zF))) 6 (Int.toNat (v1_1 - 1)) 0 ((Int.toNat (v1_1 - 1)) * 6) _ (.agg [.str (List.getD v1_0 (Int.toNat v1_1) zF).name, .int .i64 (List.getD v1_0 (Int.toNat v1_1) zF).v.kind, .int .i64 (List.getD v1_0 (Int.toNat v1_1) zF).v.n, .str (List.getD v1_0 (Int.toNat v1_1) zF).v.s, .sl (Val.rows (List.getD v1_0 (Int.toNat v1_1) zF).v.list), .sl (Fld.rows (List.getD v1_0 (Int.toNat v1_1) zF).v.fields)]) rfl rfl (Fld.Qz (Q5j (List.set v1_0 (Int.toNat v1_1) (List.getD v1_0 (Int.toNat (v1_1 - 1)) zF)) (Int.toNat (v1_1 - 1)) zF (by have f0 := (Q65 ho1_4 (Int.toNat v1_1) (List.getD v1_0 (Int.toNat (v1_1 - 1)) zF)); try simp only [List.length_set]; omega))) (Fld.Q12 (List.set v1_0 (Int.toNat v1_1) (List.getD v1_0 (Int.toNat (v1_1 - 1)) zF))) (by decide) rfl rfl (Fld.Qwn (List.set v1_0 (Int.toNat v1_1) (List.getD v1_0 (Int.toNat (v1_1 - 1)) zF)) (Int.toNat (v1_1 - 1)) (List.getD v1_0 (Int.toNat v1_1) zF))), hS 0 false (Fld.Qk (List.set (List.set v1_0 (Int.toNat v1_1) (List.getD v1_0 (Int.toNat (v1_1 - 1)) zF)) (Int.toNat (v1_1 - 1)) (List.getD v1_0 (Int.toNat v1_1) zF)) 6 rfl), hP 1 (w_ok (v1_1 - 1) (by have f0 := (Q65 (Q65 ho1_4 (Int.toNat v1_1) (List.getD v1_0 (Int.toNat (v1_1 - 1)) zF)) (Int.toNat (v1_1 - 1)) (List.getD v1_0 (Int.toNat v1_1) zF)); omega))] [aN (Q1ul (List.getD v1_0 (Int.toNat v1_1) zF) (List.getD v1_0 (Int.toNat (v1_1 - 1)) zF))] (by kernel_rfl) hr
def Qrp (n0 : Nat) (p1 : Int) (_p2 : Int) (_v0_0 : Int) (v1_0 : List Fld) (v1_1 : Int) : List PV :=
  nuns 9 ++ [.int .i64 v1_1] ++ nuns 8 ++ [.int .i64 v1_1, .int .i64 p1, .bool true, .bool true, .fn 187 [] [], .ms 0 6 0 n0, .int .i64 v1_1, .bx 0 ((Int.toNat v1_1) * 6), .agg [.str (List.getD v1_0 (Int.toNat v1_1) zF).name, .int .i64 (List.getD v1_0 (Int.toNat v1_1) zF).v.kind, .int .i64 (List.getD v1_0 (Int.toNat v1_1) zF).v.n, .str (List.getD v1_0 (Int.toNat v1_1) zF).v.s, .sl (Val.rows (List.getD v1_0 (Int.toNat v1_1) zF).v.list), .sl (Fld.rows (List.getD v1_0 (Int.toNat v1_1) zF).v.fields)], .ms 0 6 0 n0, .int .i64 v1_1, .int .i64 (v1_1 - 1), .bx 0 ((Int.toNat (v1_1 - 1)) * 6), .agg [.str (List.getD v1_0 (Int.toNat (v1_1 - 1)) zF).name, .int .i64 (List.getD v1_0 (Int.toNat (v1_1 - 1)) zF).v.kind, .int .i64 (List.getD v1_0 (Int.toNat (v1_1 - 1)) zF).v.n, .str (List.getD v1_0 (Int.toNat (v1_1 - 1)) zF).v.s, .sl (Val.rows (List.getD v1_0 (Int.toNat (v1_1 - 1)) zF).v.list), .sl (Fld.rows (List.getD v1_0 (Int.toNat (v1_1 - 1)) zF).v.fields)], .int .i64 (Q11z (List.getD v1_0 (Int.toNat v1_1) zF) (List.getD v1_0 (Int.toNat (v1_1 - 1)) zF)), .bool false, .bool false]
def Qmn (_n0 : Nat) (_p1 : Int) (_p2 : Int) (_v0_0 : Int) (_v1_0 : List Fld) (_v1_1 : Int) : List (Nat × List PV) :=
  []
theorem Q1bz (n0 : Nat) (p1 : Int) (p2 : Int) (v0_0 : Int) (v1_0 : List Fld) (v1_1 : Int) (ho1_0 : 0 ≤ p1) (_ho1_1 : p1 ≤ v1_1) (ho1_2 : v1_1 < n0) (ho1_3 : (n0 : Int) ≤ 20) (ho1_4 : List.length v1_0 = n0) (h0 : (decide (p1 < v1_1)) = true) (h1 : (decide ((Q11z (List.getD v1_0 (Int.toNat v1_1) zF) (List.getD v1_0 (Int.toNat (v1_1 - 1)) zF)) < 0)) = false) : Qcs n0 p1 p2 v0_0 (Qao n0 p1 p2 v0_0 v1_0 v1_1) v1_0 := by
 have e0 := of_decide_eq_true h0; have e1 := of_decide_eq_false h1
 exact ⟨(envF (Qrp n0 p1 p2 v0_0 v1_0 v1_1)), (zoF (Qmn n0 p1 p2 v0_0 v1_0 v1_1)), Qv (Qvl n0 p1 p2 v0_0 v1_0 v1_1) (x := ((.exit 2), Qb1 n0 p1 p2 v0_0 v1_0 (envF (Qrp n0 p1 p2 v0_0 v1_0 v1_1)) (zoF (Qmn n0 p1 p2 v0_0 v1_0 v1_1)))) [hB 2 h0, hP 4 (Q58 0 6 n0 v1_1 (Int.toNat v1_1) rfl (by omega) (by omega)), hP 0 (Qba 0 6 0 false ((Fld.rows v1_0).flatten) (Fld.rows v1_0) 6 true (Int.toNat v1_1) 0 ((Int.toNat v1_1) * 6) (Fld.cells (List.getD v1_0 (Int.toNat v1_1) zF)) (.agg [.str (List.getD v1_0 (Int.toNat v1_1) zF).name, .int .i64 (List.getD v1_0 (Int.toNat v1_1) zF).v.kind, .int .i64 (List.getD v1_0 (Int.toNat v1_1) zF).v.n, .str (List.getD v1_0 (Int.toNat v1_1) zF).v.s, .sl (Val.rows (List.getD v1_0 (Int.toNat v1_1) zF).v.list), .sl (Fld.rows (List.getD v1_0 (Int.toNat v1_1) zF).v.fields)]) rfl rfl (Fld.Qz (Q5j v1_0 (Int.toNat v1_1) zF (by omega))) (Fld.Q12 v1_0) (by decide) rfl), hP 2 (w_ok (v1_1 - 1) (by omega)), hP 0 (Q58 0 6 n0 (v1_1 - 1) (Int.toNat (v1_1 - 1)) rfl (by omega) (by omega)), hP 0 (Qba 0 6 0 false ((Fld.rows v1_0).flatten) (Fld.rows v1_0) 6 true (Int.toNat (v1_1 - 1)) 0 ((Int.toNat (v1_1 - 1)) * 6) (Fld.cells (List.getD v1_0 (Int.toNat (v1_1 - 1)) zF)) (.agg [.str (List.getD v1_0 (Int.toNat (v1_1 - 1)) zF).name, .int .i64 (List.getD v1_0 (Int.toNat (v1_1 - 1)) zF).v.kind, .int .i64 (List.getD v1_0 (Int.toNat (v1_1 - 1)) zF).v.n, .str (List.getD v1_0 (Int.toNat (v1_1 - 1)) zF).v.s, .sl (Val.rows (List.getD v1_0 (Int.toNat (v1_1 - 1)) zF).v.list), .sl (Fld.rows (List.getD v1_0 (Int.toNat (v1_1 - 1)) zF).v.fields)]) rfl rfl (Fld.Qz (Q5j v1_0 (Int.toNat (v1_1 - 1)) zF (by omega))) (Fld.Q12 v1_0) (by decide) rfl), hB 1 h1] [aN (Q1ul (List.getD v1_0 (Int.toNat v1_1) zF) (List.getD v1_0 (Int.toNat (v1_1 - 1)) zF))] (by kernel_rfl)⟩
def Qrq (_n0 : Nat) (p1 : Int) (_p2 : Int) (_v0_0 : Int) (_v1_0 : List Fld) (v1_1 : Int) : List PV :=
  nuns 9 ++ [.int .i64 v1_1] ++ nuns 8 ++ [.int .i64 v1_1, .int .i64 p1, .bool false, .bool false, .tup [], .tup [], .tup [], .tup [], .tup [], .tup [], .tup [], .tup [], .tup [], .tup [], .tup [], .tup [], .bool false]
def Qmo (_n0 : Nat) (_p1 : Int) (_p2 : Int) (_v0_0 : Int) (_v1_0 : List Fld) (_v1_1 : Int) : List (Nat × List PV) :=
  []
theorem Q1c0 (n0 : Nat) (p1 : Int) (p2 : Int) (v0_0 : Int) (v1_0 : List Fld) (v1_1 : Int) (_ho1_0 : 0 ≤ p1) (_ho1_1 : p1 ≤ v1_1) (_ho1_2 : v1_1 < n0) (_ho1_3 : (n0 : Int) ≤ 20) (_ho1_4 : List.length v1_0 = n0) (h0 : (decide (p1 < v1_1)) = false) : Qcs n0 p1 p2 v0_0 (Qao n0 p1 p2 v0_0 v1_0 v1_1) v1_0 := by
 exact ⟨(envF (Qrq n0 p1 p2 v0_0 v1_0 v1_1)), (zoF (Qmo n0 p1 p2 v0_0 v1_0 v1_1)), Qv (Qvl n0 p1 p2 v0_0 v1_0 v1_1) (x := ((.exit 2), Qb1 n0 p1 p2 v0_0 v1_0 (envF (Qrq n0 p1 p2 v0_0 v1_0 v1_1)) (zoF (Qmo n0 p1 p2 v0_0 v1_0 v1_1)))) [hB 2 h0] [] (by kernel_rfl)⟩
theorem Q115 (n0 : Nat) (p1 : Int) (p2 : Int) (v0_0 : Int) : ∀ (k1 : Nat) (v1_0 : List Fld) (v1_1 : Int), 0 ≤ p1 → p1 ≤ v1_1 → v1_1 < n0 → (n0 : Int) ≤ 20 → List.length v1_0 = n0 → Int.toNat v1_1 < k1 → Qcs n0 p1 p2 v0_0 (Qao n0 p1 p2 v0_0 v1_0 v1_1) (Q42 n0 p1 p2 v0_0 k1 v1_0 v1_1)
 | 0, v1_0, v1_1, _, _, _, _, _, hm => absurd hm (Nat.not_lt_zero _)
 | k1 + 1, v1_0, v1_1, ho1_0, ho1_1, ho1_2, ho1_3, ho1_4, hm => by
  rw [Q42]
  cases h0 : (decide (p1 < v1_1)) with
  | true =>
   have e0 := of_decide_eq_true h0
   cases h1 : (decide ((Q11z (List.getD v1_0 (Int.toNat v1_1) zF) (List.getD v1_0 (Int.toNat (v1_1 - 1)) zF)) < 0)) with
   | true =>
    have e1 := of_decide_eq_true h1
    exact Qut n0 p1 p2 v0_0 (fun r hr => Q19l n0 p1 p2 v0_0 v1_0 v1_1 ho1_0 ho1_1 ho1_2 ho1_3 ho1_4 h0 h1 hr) _ (Q115 n0 p1 p2 v0_0 k1 (List.set (List.set v1_0 (Int.toNat v1_1) (List.getD v1_0 (Int.toNat (v1_1 - 1)) zF)) (Int.toNat (v1_1 - 1)) (List.getD v1_0 (Int.toNat v1_1) zF)) (v1_1 - 1) (by have f0 := (Q65 (Q65 ho1_4 (Int.toNat v1_1) (List.getD v1_0 (Int.toNat (v1_1 - 1)) zF)) (Int.toNat (v1_1 - 1)) (List.getD v1_0 (Int.toNat v1_1) zF)); omega) (by have f0 := (Q65 (Q65 ho1_4 (Int.toNat v1_1) (List.getD v1_0 (Int.toNat (v1_1 - 1)) zF)) (Int.toNat (v1_1 - 1)) (List.getD v1_0 (Int.toNat v1_1) zF)); omega) (by have f0 := (Q65 (Q65 ho1_4 (Int.toNat v1_1) (List.getD v1_0 (Int.toNat (v1_1 - 1)) zF)) (Int.toNat (v1_1 - 1)) (List.getD v1_0 (Int.toNat v1_1) zF)); omega) (by have f0 := (Q65 (Q65 ho1_4 (Int.toNat v1_1) (List.getD v1_0 (Int.toNat (v1_1 - 1)) zF)) (Int.toNat (v1_1 - 1)) (List.getD v1_0 (Int.toNat v1_1) zF)); omega) (Q65 (Q65 ho1_4 (Int.toNat v1_1) (List.getD v1_0 (Int.toNat (v1_1 - 1)) zF)) (Int.toNat (v1_1 - 1)) (List.getD v1_0 (Int.toNat v1_1) zF)) (by have f0 := (Q65 (Q65 ho1_4 (Int.toNat v1_1) (List.getD v1_0 (Int.toNat (v1_1 - 1)) zF)) (Int.toNat (v1_1 - 1)) (List.getD v1_0 (Int.toNat v1_1) zF)); omega))
   | false =>
    exact Q1bz n0 p1 p2 v0_0 v1_0 v1_1 ho1_0 ho1_1 ho1_2 ho1_3 ho1_4 h0 h1
  | false =>
   exact Q1c0 n0 p1 p2 v0_0 v1_0 v1_1 ho1_0 ho1_1 ho1_2 ho1_3 ho1_4 h0
theorem Q4e (n0 : Nat) (p1 : Int) (p2 : Int) (v0_0 : Int) : ∀ (k1 : Nat) (v1_0 : List Fld) (v1_1 : Int), List.length v1_0 = n0 → List.length (Q42 n0 p1 p2 v0_0 k1 v1_0 v1_1) = n0
 | 0, v1_0, v1_1, ho1_4 => by rw [Q42]; exact ho1_4
 | k1 + 1, v1_0, v1_1, ho1_4 => by
  rw [Q42]
  cases h0 : (decide (p1 < v1_1)) with
  | true =>
   cases h1 : (decide ((Q11z (List.getD v1_0 (Int.toNat v1_1) zF) (List.getD v1_0 (Int.toNat (v1_1 - 1)) zF)) < 0)) with
   | true =>
    exact Q4e n0 p1 p2 v0_0 k1 (List.set (List.set v1_0 (Int.toNat v1_1) (List.getD v1_0 (Int.toNat (v1_1 - 1)) zF)) (Int.toNat (v1_1 - 1)) (List.getD v1_0 (Int.toNat v1_1) zF)) (v1_1 - 1) (Q65 (Q65 ho1_4 (Int.toNat v1_1) (List.getD v1_0 (Int.toNat (v1_1 - 1)) zF)) (Int.toNat (v1_1 - 1)) (List.getD v1_0 (Int.toNat v1_1) zF))
   | false =>
    exact ho1_4
  | false =>
   exact ho1_4
def Q4z (n0 : Nat) (p1 : Int) (p2 : Int) : Nat → Int → (List Fld) → List Fld
 | 0, _v0_0, v0_1 => v0_1
 | k0 + 1, v0_0, v0_1 =>
  bif (decide (v0_0 < p2)) then
   Q4z n0 p1 p2 k0 (v0_0 + 1) (Q42 n0 p1 p2 v0_0 ((Int.toNat v0_0) + 1) v0_1 v0_0)
  else
   v0_1
def Qxv (n0 : Nat) (p1 : Int) (p2 : Int) (v0_0 : Int) (_v0_1 : List Fld) : List PV :=
  [.ms 0 6 0 n0, .int .i64 p1, .int .i64 p2, .fn 187 [] [], .un, .un, .un, .un, .int .i64 v0_0] ++ nuns 44
def Qja (_n0 : Nat) (_p1 : Int) (_p2 : Int) (_v0_0 : Int) (v0_1 : List Fld) : List Ob :=
  [⟨6, 0, false, (Fld.rows v0_1).flatten⟩]
def Qg2 (n0 : Nat) (p1 : Int) (p2 : Int) (v0_0 : Int) (v0_1 : List Fld) : En := .loop 1 Ir.Qku Ir.Q1k1 (Qxv n0 p1 p2 v0_0 v0_1) (Qja n0 p1 p2 v0_0 v0_1)
def Qpy (_n0 : Nat) (_p1 : Int) (_p2 : Int) (q0 : List Fld) (z : Nat → PV) (_zo : Nat → List PV) : St :=
  ⟨zr z 0 53, [(0, ⟨6, 0, false, (Fld.rows q0).flatten⟩)], 193⟩
theorem Q14p (n0 : Nat) (p1 : Int) (p2 : Int) (v0_0 : Int) (v0_1 : List Fld) : VOK (Go.Pv.look (number 0 (Qja n0 p1 p2 v0_0 v0_1))) [(0, Fld.rows v0_1)] := (VOK.cons (show Seen _ _ from Q3r (ob := ⟨6, 0, false, (Fld.rows v0_1).flatten⟩) (Fld.Qk v0_1 6 rfl)) VOK.nil)
def Qhw (n0 : Nat) (p1 : Int) (p2 : Int) (e : En) (q : List Fld) : Prop := ∃ z zo, Qd G e (.st (.exit 0) (Qpy n0 p1 p2 q z zo))
theorem Qus (n0 : Nat) (p1 : Int) (p2 : Int) {e e' : En} (h : ∀ r, Qd G e r → Qd G e' r) : ∀ q, Qhw n0 p1 p2 e q → Qhw n0 p1 p2 e' q
  | _, ⟨z, zo, hz⟩ => ⟨z, zo, h _ hz⟩
theorem Q19k (n0 : Nat) (p1 : Int) (p2 : Int) (v0_0 : Int) (v0_1 : List Fld) (ho0_0 : 0 ≤ p1) (ho0_1 : p1 < v0_0) (ho0_2 : p2 ≤ n0) (ho0_3 : (n0 : Int) ≤ 20) (ho0_4 : List.length v0_1 = n0) (h0 : (decide (v0_0 < p2)) = true) (z1 : Nat → PV) (zo1 : Nat → List PV) (hl1 : Qd G (Qao n0 p1 p2 v0_0 v0_1 v0_0) (.st (.exit 2) (Qb1 n0 p1 p2 v0_0 (Q42 n0 p1 p2 v0_0 ((Int.toNat v0_0) + 1) v0_1 v0_0) z1 zo1))) {r : Rs} (hr : Qd G (Qg2 n0 p1 p2 (v0_0 + 1) (Q42 n0 p1 p2 v0_0 ((Int.toNat v0_0) + 1) v0_1 v0_0)) r) : Qd G (Qg2 n0 p1 p2 v0_0 v0_1) r := by
 have e0 := of_decide_eq_true h0
 exact Qu (Q14p n0 p1 p2 v0_0 v0_1) (y := (Qxv n0 p1 p2 (v0_0 + 1) (Q42 n0 p1 p2 v0_0 ((Int.toNat v0_0) + 1) v0_1 v0_0), Qja n0 p1 p2 (v0_0 + 1) (Q42 n0 p1 p2 v0_0 ((Int.toNat v0_0) + 1) v0_1 v0_0))) [hB 2 h0, hS 0 false (Fld.Qk (Q42 n0 p1 p2 v0_0 ((Int.toNat v0_0) + 1) v0_1 v0_0) 6 rfl), hP 3 (w_ok (v0_0 + 1) (by have f0 := (Q4e n0 p1 p2 v0_0 ((Int.toNat v0_0) + 1) v0_1 v0_0 ho0_4); omega))] [aV [(0, Fld.rows (Q42 n0 p1 p2 v0_0 ((Int.toNat v0_0) + 1) v0_1 v0_0))] hl1] (by kernel_rfl) hr
def Qro (n0 : Nat) (p1 : Int) (p2 : Int) (v0_0 : Int) (_v0_1 : List Fld) : List PV :=
  [.ms 0 6 0 n0, .int .i64 p1, .int .i64 p2, .fn 187 [] [], .un, .un, .un, .un, .int .i64 v0_0, .un, .un, .un, .int .i64 v0_0, .int .i64 p2, .bool false]
def Qmm (_n0 : Nat) (_p1 : Int) (_p2 : Int) (_v0_0 : Int) (_v0_1 : List Fld) : List (Nat × List PV) :=
  []
theorem Q1by (n0 : Nat) (p1 : Int) (p2 : Int) (v0_0 : Int) (v0_1 : List Fld) (_ho0_0 : 0 ≤ p1) (_ho0_1 : p1 < v0_0) (_ho0_2 : p2 ≤ n0) (_ho0_3 : (n0 : Int) ≤ 20) (_ho0_4 : List.length v0_1 = n0) (h0 : (decide (v0_0 < p2)) = false) : Qhw n0 p1 p2 (Qg2 n0 p1 p2 v0_0 v0_1) v0_1 := by
 exact ⟨(envF (Qro n0 p1 p2 v0_0 v0_1)), (zoF (Qmm n0 p1 p2 v0_0 v0_1)), Qv (Q14p n0 p1 p2 v0_0 v0_1) (x := ((.exit 0), Qpy n0 p1 p2 v0_1 (envF (Qro n0 p1 p2 v0_0 v0_1)) (zoF (Qmm n0 p1 p2 v0_0 v0_1)))) [hB 2 h0] [] (by kernel_rfl)⟩
theorem Q114 (n0 : Nat) (p1 : Int) (p2 : Int) : ∀ (k0 : Nat) (v0_0 : Int) (v0_1 : List Fld), 0 ≤ p1 → p1 < v0_0 → p2 ≤ n0 → (n0 : Int) ≤ 20 → List.length v0_1 = n0 → Int.toNat (p2 - v0_0) < k0 → Qhw n0 p1 p2 (Qg2 n0 p1 p2 v0_0 v0_1) (Q4z n0 p1 p2 k0 v0_0 v0_1)
 | 0, v0_0, v0_1, _, _, _, _, _, hm => absurd hm (Nat.not_lt_zero _)
 | k0 + 1, v0_0, v0_1, ho0_0, ho0_1, ho0_2, ho0_3, ho0_4, hm => by
  rw [Q4z]
  cases h0 : (decide (v0_0 < p2)) with
  | true =>
   have e0 := of_decide_eq_true h0
   have hl1 := Q115 n0 p1 p2 v0_0 ((Int.toNat v0_0) + 1) v0_1 v0_0 (by omega) (by omega) (by omega) (by omega) ho0_4 (by omega)
   obtain ⟨z1, zo1, hl1⟩ := hl1
   exact Qus n0 p1 p2 (fun r hr => Q19k n0 p1 p2 v0_0 v0_1 ho0_0 ho0_1 ho0_2 ho0_3 ho0_4 h0 z1 zo1 hl1 hr) _ (Q114 n0 p1 p2 k0 (v0_0 + 1) (Q42 n0 p1 p2 v0_0 ((Int.toNat v0_0) + 1) v0_1 v0_0) (by have f0 := (Q4e n0 p1 p2 v0_0 ((Int.toNat v0_0) + 1) v0_1 v0_0 ho0_4); omega) (by have f0 := (Q4e n0 p1 p2 v0_0 ((Int.toNat v0_0) + 1) v0_1 v0_0 ho0_4); omega) (by have f0 := (Q4e n0 p1 p2 v0_0 ((Int.toNat v0_0) + 1) v0_1 v0_0 ho0_4); omega) (by have f0 := (Q4e n0 p1 p2 v0_0 ((Int.toNat v0_0) + 1) v0_1 v0_0 ho0_4); omega) (Q4e n0 p1 p2 v0_0 ((Int.toNat v0_0) + 1) v0_1 v0_0 ho0_4) (by have f0 := (Q4e n0 p1 p2 v0_0 ((Int.toNat v0_0) + 1) v0_1 v0_0 ho0_4); omega))
  | false =>
   exact Q1by n0 p1 p2 v0_0 v0_1 ho0_0 ho0_1 ho0_2 ho0_3 ho0_4 h0
theorem Qbo (n0 : Nat) (p1 : Int) (p2 : Int) : ∀ (k0 : Nat) (v0_0 : Int) (v0_1 : List Fld), List.length v0_1 = n0 → List.length (Q4z n0 p1 p2 k0 v0_0 v0_1) = n0
 | 0, v0_0, v0_1, ho0_4 => by rw [Q4z]; exact ho0_4
 | k0 + 1, v0_0, v0_1, ho0_4 => by
  rw [Q4z]
  cases h0 : (decide (v0_0 < p2)) with
  | true =>
   exact Qbo n0 p1 p2 k0 (v0_0 + 1) (Q42 n0 p1 p2 v0_0 ((Int.toNat v0_0) + 1) v0_1 v0_0) (Q4e n0 p1 p2 v0_0 ((Int.toNat v0_0) + 1) v0_1 v0_0 ho0_4)
  | false =>
   exact ho0_4
def Q2v (n0 : Nat) (p0 : List Fld) (p1 : Int) (p2 : Int) : List Fld :=
 (Q4z n0 p1 p2 ((Int.toNat (p2 - (p1 + 1))) + 1) (p1 + 1) p0)
def Q17v (n0 : Nat) (p0 : List Fld) (p1 : Int) (p2 : Int) : En := .call 253 [.ms 0 6 0 n0, .int .i64 p1, .int .i64 p2, .fn 187 [] []] [⟨6, 0, false, (Fld.rows p0).flatten⟩]
def Qsh (n0 : Nat) (p0 : List Fld) (p1 : Int) (p2 : Int) : Rs := .ret (.tup []) [⟨6, 0, false, (Fld.rows (Q2v n0 p0 p1 p2)).flatten⟩]
theorem Q2a (n0 : Nat) (p0 : List Fld) (p1 : Int) (p2 : Int) (hn : List.length p0 = n0) : List.length (Q2v n0 p0 p1 p2) = n0 := by
 unfold Q2v
 have hz0_0 : List.length (Q4z n0 p1 p2 ((Int.toNat (p2 - (p1 + 1))) + 1) (p1 + 1) p0) = n0 := Qbo n0 p1 p2 ((Int.toNat (p2 - (p1 + 1))) + 1) (p1 + 1) p0 hn
 obtain ⟨R0, eR0⟩ : ∃ R, (Q4z n0 p1 p2 ((Int.toNat (p2 - (p1 + 1))) + 1) (p1 + 1) p0) = R := ⟨_, rfl⟩
 rw [eR0] at hz0_0 ⊢
 exact hz0_0
theorem Qt7 (n0 : Nat) (p0 : List Fld) (p1 : Int) (p2 : Int) (hn : List.length p0 = n0) (hq0 : 0 ≤ p1 ∧ p1 ≤ p2 ∧ p2 ≤ n0 ∧ (n0 : Int) ≤ 20) : Qd G (Q17v n0 p0 p1 p2) (Qsh n0 p0 p1 p2) := by
 unfold Qsh Q2v
 have hl0 := Q114 n0 p1 p2 ((Int.toNat (p2 - (p1 + 1))) + 1) (p1 + 1) p0 (by omega) (by omega) (by omega) (by omega) hn (by omega)
 have hz0_0 : List.length (Q4z n0 p1 p2 ((Int.toNat (p2 - (p1 + 1))) + 1) (p1 + 1) p0) = n0 := Qbo n0 p1 p2 ((Int.toNat (p2 - (p1 + 1))) + 1) (p1 + 1) p0 hn
 obtain ⟨R0, eR0⟩ : ∃ R, (Q4z n0 p1 p2 ((Int.toNat (p2 - (p1 + 1))) + 1) (p1 + 1) p0) = R := ⟨_, rfl⟩
 rw [eR0] at hz0_0 hl0 ⊢
 obtain ⟨z0, zo0, hl0⟩ := hl0
 exact Qj (fn := Ir.K4t) rfl (vk1 (Fld.Qk p0 6 rfl)) [hP 1 (w_ok (p1 + 1) (by omega)), hS 0 false (Fld.Qk R0 6 rfl)] [aV [(0, Fld.rows R0)] hl0] (by kernel_rfl)
def Q3t (n0 : Nat) (p1 : Int) : Nat → (List Fld) → Int → Int → (List Fld) × Int
 | 0, v0_0, v0_1, _v0_2 => (v0_0, v0_1)
 | k0 + 1, v0_0, v0_1, v0_2 =>
  bif (decide (v0_2 ≤ p1)) then
   Q3t n0 p1 k0 (Q2v n0 v0_0 v0_1 v0_2) v0_2 (v0_2 + 20)
  else
   (v0_0, v0_1)
def Qxx (n0 : Nat) (p1 : Int) (_v0_0 : List Fld) (v0_1 : Int) (v0_2 : Int) : List PV :=
  [.ms 0 6 0 n0, .int .i64 p1, .fn 187 [] [], .un, .un, .un, .int .i64 20, .int .i64 v0_1, .int .i64 v0_2] ++ nuns 54
def Qjc (_n0 : Nat) (_p1 : Int) (v0_0 : List Fld) (_v0_1 : Int) (_v0_2 : Int) : List Ob :=
  [⟨6, 0, false, (Fld.rows v0_0).flatten⟩]
def Qg3 (n0 : Nat) (p1 : Int) (v0_0 : List Fld) (v0_1 : Int) (v0_2 : Int) : En := .loop 1 Ir.Qkw Ir.Q1k3 (Qxx n0 p1 v0_0 v0_1 v0_2) (Qjc n0 p1 v0_0 v0_1 v0_2)
def Qpz (n0 : Nat) (p1 : Int) (q0 : List Fld) (q1 : Int) (z : Nat → PV) (_zo : Nat → List PV) : St :=
  ⟨[.ms 0 6 0 n0, .int .i64 p1, .fn 187 [] [], z 3, z 4, z 5, .int .i64 20, .int .i64 q1] ++ zr z 8 55, [(0, ⟨6, 0, false, (Fld.rows q0).flatten⟩)], 193⟩
theorem Q14q (n0 : Nat) (p1 : Int) (v0_0 : List Fld) (v0_1 : Int) (v0_2 : Int) : VOK (Go.Pv.look (number 0 (Qjc n0 p1 v0_0 v0_1 v0_2))) [(0, Fld.rows v0_0)] := (VOK.cons (show Seen _ _ from Q3r (ob := ⟨6, 0, false, (Fld.rows v0_0).flatten⟩) (Fld.Qk v0_0 6 rfl)) VOK.nil)
def Qhx (n0 : Nat) (p1 : Int) (e : En) (q : (List Fld) × Int) : Prop := ∃ z zo, Qd G e (.st (.exit 0) (Qpz n0 p1 q.1 q.2 z zo))
theorem Quu (n0 : Nat) (p1 : Int) {e e' : En} (h : ∀ r, Qd G e r → Qd G e' r) : ∀ q, Qhx n0 p1 e q → Qhx n0 p1 e' q
  | _, ⟨z, zo, hz⟩ => ⟨z, zo, h _ hz⟩
theorem Q19m (n0 : Nat) (p1 : Int) (v0_0 : List Fld) (v0_1 : Int) (v0_2 : Int) (ho0_0 : 0 ≤ v0_1) (_ho0_1 : v0_1 ≤ n0) (ho0_2 : v0_1 + 20 = v0_2) (ho0_3 : p1 = n0) (ho0_4 : (n0 : Int) ≤ 20) (ho0_5 : List.length v0_0 = n0) (h0 : (decide (v0_2 ≤ p1)) = true) {r : Rs} (hr : Qd G (Qg3 n0 p1 (Q2v n0 v0_0 v0_1 v0_2) v0_2 (v0_2 + 20)) r) : Qd G (Qg3 n0 p1 v0_0 v0_1 v0_2) r := by
 have e0 := of_decide_eq_true h0
 exact Qu (Q14q n0 p1 v0_0 v0_1 v0_2) (y := (Qxx n0 p1 (Q2v n0 v0_0 v0_1 v0_2) v0_2 (v0_2 + 20), Qjc n0 p1 (Q2v n0 v0_0 v0_1 v0_2) v0_2 (v0_2 + 20))) [hB 2 h0, hQ (Fld.Qk (Q2v n0 v0_0 v0_1 v0_2) 6 rfl), hP 9 (w_ok (v0_2 + 20) (by have f0 := (Q2a n0 v0_0 v0_1 v0_2 ho0_5); omega))] [aV [(0, Fld.rows (Q2v n0 v0_0 v0_1 v0_2))] (Qt7 n0 v0_0 v0_1 v0_2 ho0_5 (by omega))] (by kernel_rfl) hr
def Qrr (_n0 : Nat) (p1 : Int) (_v0_0 : List Fld) (_v0_1 : Int) (v0_2 : Int) : List PV :=
  nuns 8 ++ [.int .i64 v0_2, .un, .un, .int .i64 v0_2, .int .i64 p1, .bool false]
def Qmp (_n0 : Nat) (_p1 : Int) (_v0_0 : List Fld) (_v0_1 : Int) (_v0_2 : Int) : List (Nat × List PV) :=
  []
theorem Q1c1 (n0 : Nat) (p1 : Int) (v0_0 : List Fld) (v0_1 : Int) (v0_2 : Int) (_ho0_0 : 0 ≤ v0_1) (_ho0_1 : v0_1 ≤ n0) (_ho0_2 : v0_1 + 20 = v0_2) (_ho0_3 : p1 = n0) (_ho0_4 : (n0 : Int) ≤ 20) (_ho0_5 : List.length v0_0 = n0) (h0 : (decide (v0_2 ≤ p1)) = false) : Qhx n0 p1 (Qg3 n0 p1 v0_0 v0_1 v0_2) (v0_0, v0_1) := by
 exact ⟨(envF (Qrr n0 p1 v0_0 v0_1 v0_2)), (zoF (Qmp n0 p1 v0_0 v0_1 v0_2)), Qv (Q14q n0 p1 v0_0 v0_1 v0_2) (x := ((.exit 0), Qpz n0 p1 v0_0 v0_1 (envF (Qrr n0 p1 v0_0 v0_1 v0_2)) (zoF (Qmp n0 p1 v0_0 v0_1 v0_2)))) [hB 2 h0] [] (by kernel_rfl)⟩
theorem Q116 (n0 : Nat) (p1 : Int) : ∀ (k0 : Nat) (v0_0 : List Fld) (v0_1 : Int) (v0_2 : Int), 0 ≤ v0_1 → v0_1 ≤ n0 → v0_1 + 20 = v0_2 → p1 = n0 → (n0 : Int) ≤ 20 → List.length v0_0 = n0 → Int.toNat (p1 + 20 - v0_2) < k0 → Qhx n0 p1 (Qg3 n0 p1 v0_0 v0_1 v0_2) (Q3t n0 p1 k0 v0_0 v0_1 v0_2)
 | 0, v0_0, v0_1, v0_2, _, _, _, _, _, _, hm => absurd hm (Nat.not_lt_zero _)
 | k0 + 1, v0_0, v0_1, v0_2, ho0_0, ho0_1, ho0_2, ho0_3, ho0_4, ho0_5, hm => by
  rw [Q3t]
  cases h0 : (decide (v0_2 ≤ p1)) with
  | true =>
   have e0 := of_decide_eq_true h0
   exact Quu n0 p1 (fun r hr => Q19m n0 p1 v0_0 v0_1 v0_2 ho0_0 ho0_1 ho0_2 ho0_3 ho0_4 ho0_5 h0 hr) _ (Q116 n0 p1 k0 (Q2v n0 v0_0 v0_1 v0_2) v0_2 (v0_2 + 20) (by have f0 := (Q2a n0 v0_0 v0_1 v0_2 ho0_5); omega) (by have f0 := (Q2a n0 v0_0 v0_1 v0_2 ho0_5); omega) (by have f0 := (Q2a n0 v0_0 v0_1 v0_2 ho0_5); omega) (by have f0 := (Q2a n0 v0_0 v0_1 v0_2 ho0_5); omega) (by have f0 := (Q2a n0 v0_0 v0_1 v0_2 ho0_5); omega) (Q2a n0 v0_0 v0_1 v0_2 ho0_5) (by have f0 := (Q2a n0 v0_0 v0_1 v0_2 ho0_5); omega))
  | false =>
   exact Q1c1 n0 p1 v0_0 v0_1 v0_2 ho0_0 ho0_1 ho0_2 ho0_3 ho0_4 ho0_5 h0
theorem Qbp (n0 : Nat) (p1 : Int) : ∀ (k0 : Nat) (v0_0 : List Fld) (v0_1 : Int) (v0_2 : Int), List.length v0_0 = n0 → List.length (Q3t n0 p1 k0 v0_0 v0_1 v0_2).1 = n0
 | 0, v0_0, v0_1, v0_2, ho0_5 => by rw [Q3t]; exact ho0_5
 | k0 + 1, v0_0, v0_1, v0_2, ho0_5 => by
  rw [Q3t]
  cases h0 : (decide (v0_2 ≤ p1)) with
  | true =>
   exact Qbp n0 p1 k0 (Q2v n0 v0_0 v0_1 v0_2) v0_2 (v0_2 + 20) (Q2a n0 v0_0 v0_1 v0_2 ho0_5)
  | false =>
   exact ho0_5
theorem Q11s (n0 : Nat) (p1 : Int) : ∀ (k0 : Nat) (v0_0 : List Fld) (v0_1 : Int) (v0_2 : Int), 0 ≤ v0_1 → v0_1 ≤ n0 → v0_1 + 20 = v0_2 → p1 = n0 → (n0 : Int) ≤ 20 → List.length v0_0 = n0 → Int.toNat (p1 + 20 - v0_2) < k0 → 0 ≤ (Q3t n0 p1 k0 v0_0 v0_1 v0_2).2 ∧ (Q3t n0 p1 k0 v0_0 v0_1 v0_2).2 ≤ n0
 | 0, v0_0, v0_1, v0_2, _, _, _, _, _, _, hm => absurd hm (Nat.not_lt_zero _)
 | k0 + 1, v0_0, v0_1, v0_2, ho0_0, ho0_1, ho0_2, ho0_3, ho0_4, ho0_5, hm => by
  rw [Q3t]
  cases h0 : (decide (v0_2 ≤ p1)) with
  | true =>
   have e0 := of_decide_eq_true h0
   exact Q11s n0 p1 k0 (Q2v n0 v0_0 v0_1 v0_2) v0_2 (v0_2 + 20) (by have f0 := (Q2a n0 v0_0 v0_1 v0_2 ho0_5); omega) (by have f0 := (Q2a n0 v0_0 v0_1 v0_2 ho0_5); omega) (by have f0 := (Q2a n0 v0_0 v0_1 v0_2 ho0_5); omega) (by have f0 := (Q2a n0 v0_0 v0_1 v0_2 ho0_5); omega) (by have f0 := (Q2a n0 v0_0 v0_1 v0_2 ho0_5); omega) (Q2a n0 v0_0 v0_1 v0_2 ho0_5) (by have f0 := (Q2a n0 v0_0 v0_1 v0_2 ho0_5); omega)
  | false =>
   have e0 := of_decide_eq_false h0
   exact (show 0 ≤ v0_1 ∧ v0_1 ≤ n0 from ⟨(by omega), (by omega)⟩)
def Q60 (_n0 : Nat) (_p1 : Int) : Nat → (List Fld) → List Fld
 | 0, v1_0 => v1_0
 | _k1 + 1, v1_0 =>
  v1_0
def Q1ci (n0 : Nat) (p1 : Int) (_v1_0 : List Fld) : List PV :=
  [.ms 0 6 0 n0, .int .i64 p1, .fn 187 [] [], .un, .un, .un, .int .i64 20] ++ nuns 56
def Qyi (_n0 : Nat) (_p1 : Int) (v1_0 : List Fld) : List Ob :=
  [⟨6, 0, false, (Fld.rows v1_0).flatten⟩]
def Q13q (n0 : Nat) (p1 : Int) (v1_0 : List Fld) : En := .loop 1 Ir.Qkx Ir.Q1k4 (Q1ci n0 p1 v1_0) (Qyi n0 p1 v1_0)
def Qq0 (_n0 : Nat) (_p1 : Int) (q0 : List Fld) (z : Nat → PV) (_zo : Nat → List PV) : St :=
  ⟨zr z 0 63, [(0, ⟨6, 0, false, (Fld.rows q0).flatten⟩)], 193⟩
theorem Q1gm (n0 : Nat) (p1 : Int) (v1_0 : List Fld) : VOK (Go.Pv.look (number 0 (Qyi n0 p1 v1_0))) [(0, Fld.rows v1_0)] := (VOK.cons (show Seen _ _ from Q3r (ob := ⟨6, 0, false, (Fld.rows v1_0).flatten⟩) (Fld.Qk v1_0 6 rfl)) VOK.nil)
def Q142 (n0 : Nat) (p1 : Int) (e : En) (q : List Fld) : Prop := ∃ z zo, Qd G e (.st (.exit 2) (Qq0 n0 p1 q z zo))
def Qrs (n0 : Nat) (p1 : Int) (_v1_0 : List Fld) : List PV :=
  [.ms 0 6 0 n0, .int .i64 p1, .fn 187 [] [], .un, .un, .un, .int .i64 20] ++ nuns 21 ++ [.int .i64 20, .int .i64 p1, .bool false]
def Qmq (_n0 : Nat) (_p1 : Int) (_v1_0 : List Fld) : List (Nat × List PV) :=
  []
theorem Q1c2 (n0 : Nat) (p1 : Int) (v1_0 : List Fld) (ho1_0 : p1 = n0) (ho1_1 : (n0 : Int) ≤ 20) (ho1_2 : List.length v1_0 = n0) : Q142 n0 p1 (Q13q n0 p1 v1_0) v1_0 := by
 exact ⟨(envF (Qrs n0 p1 v1_0)), (zoF (Qmq n0 p1 v1_0)), Qv (Q1gm n0 p1 v1_0) (x := ((.exit 2), Qq0 n0 p1 v1_0 (envF (Qrs n0 p1 v1_0)) (zoF (Qmq n0 p1 v1_0)))) [hP 2 (dec (decide (20 < p1)) false (decide_eq_false (by omega)))] [] (by kernel_rfl)⟩
theorem Q1e5 (n0 : Nat) (p1 : Int) : ∀ (k1 : Nat) (v1_0 : List Fld), p1 = n0 → (n0 : Int) ≤ 20 → List.length v1_0 = n0 → 0 < k1 → Q142 n0 p1 (Q13q n0 p1 v1_0) (Q60 n0 p1 k1 v1_0)
 | 0, v1_0, _, _, _, hm => absurd hm (Nat.not_lt_zero _)
 | k1 + 1, v1_0, ho1_0, ho1_1, ho1_2, hm => by
  rw [Q60]
  exact Q1c2 n0 p1 v1_0 ho1_0 ho1_1 ho1_2
theorem Qnn (n0 : Nat) (p1 : Int) : ∀ (k1 : Nat) (v1_0 : List Fld), List.length v1_0 = n0 → List.length (Q60 n0 p1 k1 v1_0) = n0
 | 0, v1_0, ho1_2 => by rw [Q60]; exact ho1_2
 | k1 + 1, v1_0, ho1_2 => by
  rw [Q60]
  exact ho1_2
def Q5p (n0 : Nat) (p0 : List Fld) (p1 : Int) : List Fld :=
 (Q60 n0 p1 (0 + 1) (Q2v n0 (Q3t n0 p1 ((Int.toNat (p1 + 20 - 20)) + 1) p0 0 20).1 (Q3t n0 p1 ((Int.toNat (p1 + 20 - 20)) + 1) p0 0 20).2 p1))
def Q17w (n0 : Nat) (p0 : List Fld) (p1 : Int) : En := .call 220 [.ms 0 6 0 n0, .int .i64 p1, .fn 187 [] []] [⟨6, 0, false, (Fld.rows p0).flatten⟩]
def Qsi (n0 : Nat) (p0 : List Fld) (p1 : Int) : Rs := .ret (.tup []) [⟨6, 0, false, (Fld.rows (Q5p n0 p0 p1)).flatten⟩]
theorem Qw1 (n0 : Nat) (p0 : List Fld) (p1 : Int) (hn : List.length p0 = n0) : List.length (Q5p n0 p0 p1) = n0 := by
 unfold Q5p
 have hz0_0 : List.length (Q3t n0 p1 ((Int.toNat (p1 + 20 - 20)) + 1) p0 0 20).1 = n0 := Qbp n0 p1 ((Int.toNat (p1 + 20 - 20)) + 1) p0 0 20 hn
 obtain ⟨R1, eR1⟩ : ∃ R, (Q3t n0 p1 ((Int.toNat (p1 + 20 - 20)) + 1) p0 0 20) = R := ⟨_, rfl⟩
 rw [eR1] at hz0_0 ⊢
 have hz1_0 : List.length (Q60 n0 p1 (0 + 1) (Q2v n0 R1.1 R1.2 p1)) = n0 := Qnn n0 p1 (0 + 1) (Q2v n0 R1.1 R1.2 p1) (Q2a n0 R1.1 R1.2 p1 hz0_0)
 obtain ⟨R2, eR2⟩ : ∃ R, (Q60 n0 p1 (0 + 1) (Q2v n0 R1.1 R1.2 p1)) = R := ⟨_, rfl⟩
 rw [eR2] at hz1_0 ⊢
 exact hz1_0
theorem Q1ap (n0 : Nat) (p0 : List Fld) (p1 : Int) (hn : List.length p0 = n0) (hq0 : 0 ≤ p1 ∧ p1 = n0 ∧ (n0 : Int) ≤ 20) : Qd G (Q17w n0 p0 p1) (Qsi n0 p0 p1) := by
 unfold Qsi Q5p
 have hl0 := Q116 n0 p1 ((Int.toNat (p1 + 20 - 20)) + 1) p0 0 20 (by omega) (by omega) (by omega) (by omega) (by omega) hn (by omega)
 have hz0_0 : List.length (Q3t n0 p1 ((Int.toNat (p1 + 20 - 20)) + 1) p0 0 20).1 = n0 := Qbp n0 p1 ((Int.toNat (p1 + 20 - 20)) + 1) p0 0 20 hn
 have hy0 : 0 ≤ (Q3t n0 p1 ((Int.toNat (p1 + 20 - 20)) + 1) p0 0 20).2 ∧ (Q3t n0 p1 ((Int.toNat (p1 + 20 - 20)) + 1) p0 0 20).2 ≤ n0 := Q11s n0 p1 ((Int.toNat (p1 + 20 - 20)) + 1) p0 0 20 (by omega) (by omega) (by omega) (by omega) (by omega) hn (by omega)
 obtain ⟨R1, eR1⟩ : ∃ R, (Q3t n0 p1 ((Int.toNat (p1 + 20 - 20)) + 1) p0 0 20) = R := ⟨_, rfl⟩
 rw [eR1] at hz0_0 hy0 hl0 ⊢
 obtain ⟨z0, zo0, hl0⟩ := hl0
 have hl1 := Q1e5 n0 p1 (0 + 1) (Q2v n0 R1.1 R1.2 p1) (by have f0 := (Q2a n0 R1.1 R1.2 p1 hz0_0); have g0 := hy0; omega) (by have f0 := (Q2a n0 R1.1 R1.2 p1 hz0_0); have g0 := hy0; omega) (Q2a n0 R1.1 R1.2 p1 hz0_0) (by omega)
 have hz1_0 : List.length (Q60 n0 p1 (0 + 1) (Q2v n0 R1.1 R1.2 p1)) = n0 := Qnn n0 p1 (0 + 1) (Q2v n0 R1.1 R1.2 p1) (Q2a n0 R1.1 R1.2 p1 hz0_0)
 obtain ⟨R2, eR2⟩ : ∃ R, (Q60 n0 p1 (0 + 1) (Q2v n0 R1.1 R1.2 p1)) = R := ⟨_, rfl⟩
 rw [eR2] at hz1_0 hl1 ⊢
 obtain ⟨z1, zo1, hl1⟩ := hl1
 exact Qj (fn := Ir.K4u) rfl (vk1 (Fld.Qk p0 6 rfl)) [hS 0 false (Fld.Qk R1.1 6 rfl), hQ (Fld.Qk (Q2v n0 R1.1 R1.2 p1) 6 rfl), hS 0 false (Fld.Qk R2 6 rfl)] [aV [(0, Fld.rows R1.1)] hl0, aV [(0, Fld.rows (Q2v n0 R1.1 R1.2 p1))] (Qt7 n0 R1.1 R1.2 p1 hz0_0 (by have g0 := hy0; omega)), aV [(0, Fld.rows R2)] hl1] (by kernel_rfl)
def Q19 (n0 : Nat) (p0 : List Fld) : List Fld :=
 (Q5p n0 p0 (n0 : Int))
def Q17u (n0 : Nat) (p0 : List Fld) : En := .call 186 [.ms 0 6 0 n0, .fn 187 [] []] [⟨6, 0, false, (Fld.rows p0).flatten⟩]
def Qsg (n0 : Nat) (p0 : List Fld) : Rs := .ret (.tup []) [⟨6, 0, false, (Fld.rows (Q19 n0 p0)).flatten⟩]
theorem Q36 (n0 : Nat) (p0 : List Fld) (hn : List.length p0 = n0) : List.length (Q19 n0 p0) = n0 := by
 unfold Q19
 exact (Qw1 n0 p0 (n0 : Int) hn)
theorem Q1ao (n0 : Nat) (p0 : List Fld) (hn : List.length p0 = n0) (hq0 : (n0 : Int) ≤ 20) : Qd G (Q17u n0 p0) (Qsg n0 p0) := by
 unfold Qsg Q19
 exact Qj (fn := Ir.K4s) rfl (vk1 (Fld.Qk p0 6 rfl)) [hQ (Fld.Qk (Q5p n0 p0 (n0 : Int)) 6 rfl)] [aV [(0, Fld.rows (Q5p n0 p0 (n0 : Int)))] (Q1ap n0 p0 (n0 : Int) hn (by omega))] (by kernel_rfl)
def Q40 (p0 : List Fld) : List Fld → Nat → (List Fld) → List Fld
 | [], _i0, v0_1 =>
  v0_1
 | x0 :: r0, i0, v0_1 =>
  bif (((i0 + 1 : Nat) : Int) == ((List.length p0) : Int)) then
   Q40 p0 r0 (i0 + 1) (v0_1 ++ [x0])
  else
   bif (sEq (List.getD (Q19 (List.length p0) p0) (Int.toNat ((i0 + 1 : Nat) : Int)) zF).name x0.name) then
    Q40 p0 r0 (i0 + 1) v0_1
   else
    Q40 p0 r0 (i0 + 1) (v0_1 ++ [x0])
def Qcc (p0 : List Fld) (i0 : Nat) (_v0_1 : List Fld) : List PV :=
  [.un, .un, .bx 0 0, .ms 1 6 0 (List.length p0), .bx 2 0] ++ nuns 7 ++ [.ms 1 6 0 (List.length p0), .int .i64 ((List.length p0) : Int), .int .i64 (i0 : Int)] ++ nuns 29
def Q9w (p0 : List Fld) (_i0 : Nat) (v0_1 : List Fld) : List Ob :=
  [⟨5, 0, true, [.int .i64 0, .int .i64 0, .str eB, .ms 3 5 0 0, .ms 4 6 0 0]⟩, ⟨6, 0, false, (Fld.rows (Q19 (List.length p0) p0)).flatten⟩, ⟨5, 0, true, [.int .i64 5, .int .i64 0, .str eB, .ms 5 5 0 0, .ms 6 6 0 (List.length v0_1)]⟩, ⟨5, 0, true, []⟩, ⟨6, 0, true, []⟩, ⟨5, 0, true, []⟩, ⟨6, 0, true, (Fld.rows v0_1).flatten⟩]
def Q7x (p0 : List Fld) (i0 : Nat) (v0_1 : List Fld) : En := .loop 0 Ir.Qkz Ir.Q1k6 (Qcc p0 i0 v0_1) (Q9w p0 i0 v0_1)
def Qq3 (p0 : List Fld) (q0 : List Fld) (z : Nat → PV) (_zo : Nat → List PV) : St :=
  ⟨[z 0, z 1, .bx 0 0, z 3, .bx 2 0] ++ zr z 5 39, [(0, ⟨5, 0, true, [.int .i64 0, .int .i64 0, .str eB, .ms 3 5 0 0, .ms 4 6 0 0]⟩), (1, ⟨6, 0, false, (Fld.rows (Q19 (List.length p0) p0)).flatten⟩), (2, ⟨5, 0, true, [.int .i64 5, .int .i64 0, .str eB, .ms 5 5 0 0, .ms 6 6 0 (List.length q0)]⟩), (3, ⟨5, 0, true, []⟩), (4, ⟨6, 0, true, []⟩), (5, ⟨5, 0, true, []⟩), (6, ⟨6, 0, true, (Fld.rows q0).flatten⟩)], 71⟩
theorem Qi8 (p0 : List Fld) (i0 : Nat) (v0_1 : List Fld) : VOK (Go.Pv.look (number 0 (Q9w p0 i0 v0_1))) [(1, Fld.rows (Q19 (List.length p0) p0)), (6, Fld.rows v0_1)] := (VOK.cons (show Seen _ _ from Q3r (ob := ⟨6, 0, false, (Fld.rows (Q19 (List.length p0) p0)).flatten⟩) (Fld.Qk (Q19 (List.length p0) p0) 6 rfl)) (VOK.cons (show Seen _ _ from Q3r (ob := ⟨6, 0, true, (Fld.rows v0_1).flatten⟩) (Fld.Qk v0_1 6 rfl)) VOK.nil))
def Qhy (p0 : List Fld) (e : En) (q : List Fld) : Prop := ∃ z zo, Qd G e (.st (.exit 0) (Qq3 p0 q z zo))
theorem Q95 (p0 : List Fld) {e e' : En} (h : ∀ r, Qd G e r → Qd G e' r) : ∀ q, Qhy p0 e q → Qhy p0 e' q
  | _, ⟨z, zo, hz⟩ => ⟨z, zo, h _ hz⟩
def Qaq (p0 : List Fld) : Prop := (List.length (Q19 (List.length p0) p0) ≤ 137438953472) ∧ True
def Qrv (p0 : List Fld) (i0 : Nat) (_v0_1 : List Fld) : List PV :=
  [.un, .un, .un, .ms 1 6 0 (List.length p0)] ++ nuns 8 ++ [.ms 1 6 0 (List.length p0), .int .i64 ((List.length p0) : Int), .int .i64 (i0 : Int), .bool false]
def Qmt (_p0 : List Fld) (_i0 : Nat) (_v0_1 : List Fld) : List (Nat × List PV) :=
  []
theorem Q1c5 (p0 : List Fld) (_H : Qaq p0) (i0 : Nat) (v0_1 : List Fld) (_ho0_0 : List.length v0_1 ≤ i0) (hc0 : (decide ((i0 : Int) < ((List.length p0) : Int))) = false) : Qhy p0 (Q7x p0 i0 v0_1) v0_1 := by
 exact ⟨(envF (Qrv p0 i0 v0_1)), (zoF (Qmt p0 i0 v0_1)), Qv (Qi8 p0 i0 v0_1) (x := ((.exit 0), Qq3 p0 v0_1 (envF (Qrv p0 i0 v0_1)) (zoF (Qmt p0 i0 v0_1)))) [hB 0 hc0] [] (by kernel_rfl)⟩
theorem Q19o (p0 : List Fld) (H : Qaq p0) (x0 : Fld) (i0 : Nat) (v0_1 : List Fld) (hx0 : (Q19 (List.length p0) p0)[i0]? = some x0) (hi0 : i0 < List.length (Q19 (List.length p0) p0)) (ho0_0 : List.length v0_1 ≤ i0) (hc0 : (decide ((i0 : Int) < ((List.length p0) : Int))) = true) (h0 : (((i0 + 1 : Nat) : Int) == ((List.length p0) : Int)) = true) {r : Rs} (hr : Qd G (Q7x p0 (i0 + 1) (v0_1 ++ [x0])) r) : Qd G (Q7x p0 i0 v0_1) r := by
 have hB0 := H.1; have e0 := eq_of_beq h0
 exact Qu (Qi8 p0 i0 v0_1) (y := (Qcc p0 (i0 + 1) (v0_1 ++ [x0]), Q9w p0 (i0 + 1) (v0_1 ++ [x0]))) [hB 0 hc0, hP 1 (Q58 1 6 (List.length p0) (i0 : Int) i0 (by omega) (by have f1 := (Q36 (List.length p0) p0 rfl); omega) (by have f1 := (Q36 (List.length p0) p0 rfl); omega)), hP 0 (Qba 1 6 0 false ((Fld.rows (Q19 (List.length p0) p0)).flatten) (Fld.rows (Q19 (List.length p0) p0)) 6 true i0 0 (i0 * 6) (Fld.cells x0) (.agg [.str x0.name, .int .i64 x0.v.kind, .int .i64 x0.v.n, .str x0.v.s, .sl (Val.rows x0.v.list), .sl (Fld.rows x0.v.fields)]) rfl rfl (Fld.Qz hx0) (Fld.Q12 (Q19 (List.length p0) p0)) (by decide) rfl), hP 4 (Q2s i0 (by omega)), hB 2 h0, hV 15 [(1735, Fld.rows (v0_1 ++ [x0]))] (Q4a 6 1671 1735 6 96 0 0 true (Fld.rows v0_1) (Fld.rows (v0_1 ++ [x0])) (Fld.cells x0) (List.length v0_1) (List.length (v0_1 ++ [x0])) rfl (Fld.Qa v0_1).symm (Fld.Qa (v0_1 ++ [x0])).symm (Fld.Q23 v0_1 x0) (Fld.Q12 v0_1) rfl (by omega)), hS 0 true (Fld.Qk (v0_1 ++ [x0]) 6 rfl), hP 2 (Q2s i0 (by omega))] [] (by kernel_rfl) hr
theorem Q19p (p0 : List Fld) (H : Qaq p0) (x0 : Fld) (i0 : Nat) (v0_1 : List Fld) (hx0 : (Q19 (List.length p0) p0)[i0]? = some x0) (hi0 : i0 < List.length (Q19 (List.length p0) p0)) (_ho0_0 : List.length v0_1 ≤ i0) (hc0 : (decide ((i0 : Int) < ((List.length p0) : Int))) = true) (h0 : (((i0 + 1 : Nat) : Int) == ((List.length p0) : Int)) = false) (h1 : (sEq (List.getD (Q19 (List.length p0) p0) (Int.toNat ((i0 + 1 : Nat) : Int)) zF).name x0.name) = true) {r : Rs} (hr : Qd G (Q7x p0 (i0 + 1) v0_1) r) : Qd G (Q7x p0 i0 v0_1) r := by
 have hB0 := H.1; have e0 := beq_eq_false_iff_ne.1 h0
 exact Qu (Qi8 p0 i0 v0_1) (y := (Qcc p0 (i0 + 1) v0_1, Q9w p0 (i0 + 1) v0_1)) [hB 0 hc0, hP 1 (Q58 1 6 (List.length p0) (i0 : Int) i0 (by omega) (by have f1 := (Q36 (List.length p0) p0 rfl); omega) (by have f1 := (Q36 (List.length p0) p0 rfl); omega)), hP 0 (Qba 1 6 0 false ((Fld.rows (Q19 (List.length p0) p0)).flatten) (Fld.rows (Q19 (List.length p0) p0)) 6 true i0 0 (i0 * 6) (Fld.cells x0) (.agg [.str x0.name, .int .i64 x0.v.kind, .int .i64 x0.v.n, .str x0.v.s, .sl (Val.rows x0.v.list), .sl (Fld.rows x0.v.fields)]) rfl rfl (Fld.Qz hx0) (Fld.Q12 (Q19 (List.length p0) p0)) (by decide) rfl), hP 4 (Q2s i0 (by omega)), hB 2 h0, hP 3 (Q2s i0 (by omega)), hP 0 (Q58 1 6 (List.length p0) ((i0 + 1 : Nat) : Int) (Int.toNat ((i0 + 1 : Nat) : Int)) rfl (by have f1 := (Q36 (List.length p0) p0 rfl); omega) (by have f1 := (Q36 (List.length p0) p0 rfl); omega)), hP 1 (Qba 1 6 0 false ((Fld.rows (Q19 (List.length p0) p0)).flatten) (Fld.rows (Q19 (List.length p0) p0)) 1 false (Int.toNat ((i0 + 1 : Nat) : Int)) 0 ((Int.toNat ((i0 + 1 : Nat) : Int)) * 6) (Fld.cells (List.getD (Q19 (List.length p0) p0) (Int.toNat ((i0 + 1 : Nat) : Int)) zF)) (.str (List.getD (Q19 (List.length p0) p0) (Int.toNat ((i0 + 1 : Nat) : Int)) zF).name) rfl rfl (Fld.Qz (Q5j (Q19 (List.length p0) p0) (Int.toNat ((i0 + 1 : Nat) : Int)) zF (by have f1 := (Q36 (List.length p0) p0 rfl); omega))) (Fld.Q12 (Q19 (List.length p0) p0)) (by decide) rfl), hP 2 (dec (!(sEq (List.getD (Q19 (List.length p0) p0) (Int.toNat ((i0 + 1 : Nat) : Int)) zF).name x0.name)) false (by rw [h1]; rfl)), hP 1 (Q2s i0 (by omega))] [] (by kernel_rfl) hr
theorem Q19q (p0 : List Fld) (H : Qaq p0) (x0 : Fld) (i0 : Nat) (v0_1 : List Fld) (hx0 : (Q19 (List.length p0) p0)[i0]? = some x0) (hi0 : i0 < List.length (Q19 (List.length p0) p0)) (ho0_0 : List.length v0_1 ≤ i0) (hc0 : (decide ((i0 : Int) < ((List.length p0) : Int))) = true) (h0 : (((i0 + 1 : Nat) : Int) == ((List.length p0) : Int)) = false) (h1 : (sEq (List.getD (Q19 (List.length p0) p0) (Int.toNat ((i0 + 1 : Nat) : Int)) zF).name x0.name) = false) {r : Rs} (hr : Qd G (Q7x p0 (i0 + 1) (v0_1 ++ [x0])) r) : Qd G (Q7x p0 i0 v0_1) r := by
 have hB0 := H.1; have e0 := beq_eq_false_iff_ne.1 h0
 exact Qu (Qi8 p0 i0 v0_1) (y := (Qcc p0 (i0 + 1) (v0_1 ++ [x0]), Q9w p0 (i0 + 1) (v0_1 ++ [x0]))) [hB 0 hc0, hP 1 (Q58 1 6 (List.length p0) (i0 : Int) i0 (by omega) (by have f1 := (Q36 (List.length p0) p0 rfl); omega) (by have f1 := (Q36 (List.length p0) p0 rfl); omega)), hP 0 (Qba 1 6 0 false ((Fld.rows (Q19 (List.length p0) p0)).flatten) (Fld.rows (Q19 (List.length p0) p0)) 6 true i0 0 (i0 * 6) (Fld.cells x0) (.agg [.str x0.name, .int .i64 x0.v.kind, .int .i64 x0.v.n, .str x0.v.s, .sl (Val.rows x0.v.list), .sl (Fld.rows x0.v.fields)]) rfl rfl (Fld.Qz hx0) (Fld.Q12 (Q19 (List.length p0) p0)) (by decide) rfl), hP 4 (Q2s i0 (by omega)), hB 2 h0, hP 3 (Q2s i0 (by omega)), hP 0 (Q58 1 6 (List.length p0) ((i0 + 1 : Nat) : Int) (Int.toNat ((i0 + 1 : Nat) : Int)) rfl (by have f1 := (Q36 (List.length p0) p0 rfl); omega) (by have f1 := (Q36 (List.length p0) p0 rfl); omega)), hP 1 (Qba 1 6 0 false ((Fld.rows (Q19 (List.length p0) p0)).flatten) (Fld.rows (Q19 (List.length p0) p0)) 1 false (Int.toNat ((i0 + 1 : Nat) : Int)) 0 ((Int.toNat ((i0 + 1 : Nat) : Int)) * 6) (Fld.cells (List.getD (Q19 (List.length p0) p0) (Int.toNat ((i0 + 1 : Nat) : Int)) zF)) (.str (List.getD (Q19 (List.length p0) p0) (Int.toNat ((i0 + 1 : Nat) : Int)) zF).name) rfl rfl (Fld.Qz (Q5j (Q19 (List.length p0) p0) (Int.toNat ((i0 + 1 : Nat) : Int)) zF (by have f1 := (Q36 (List.length p0) p0 rfl); omega))) (Fld.Q12 (Q19 (List.length p0) p0)) (by decide) rfl), hP 2 (dec (!(sEq (List.getD (Q19 (List.length p0) p0) (Int.toNat ((i0 + 1 : Nat) : Int)) zF).name x0.name)) true (by rw [h1]; rfl)), hV 5 [(1735, Fld.rows (v0_1 ++ [x0]))] (Q4a 6 1671 1735 6 96 0 0 true (Fld.rows v0_1) (Fld.rows (v0_1 ++ [x0])) (Fld.cells x0) (List.length v0_1) (List.length (v0_1 ++ [x0])) rfl (Fld.Qa v0_1).symm (Fld.Qa (v0_1 ++ [x0])).symm (Fld.Q23 v0_1 x0) (Fld.Q12 v0_1) rfl (by omega)), hS 0 true (Fld.Qk (v0_1 ++ [x0]) 6 rfl), hP 2 (Q2s i0 (by omega))] [] (by kernel_rfl) hr
theorem Qdg (p0 : List Fld) (H : Qaq p0) : ∀ (r0 : List Fld) (i0 : Nat) (v0_1 : List Fld), List.drop i0 (Q19 (List.length p0) p0) = r0 → List.length v0_1 ≤ i0 → Qhy p0 (Q7x p0 i0 v0_1) (Q40 p0 r0 i0 v0_1)
 | [], i0, v0_1, hd, ho0_0 => by
  have hc0 : (decide ((i0 : Int) < ((List.length p0) : Int))) = false := by have hL := (Q36 (List.length p0) p0 rfl); have := Q1y hd; simp; omega
  rw [Q40]
  exact Q1c5 p0 H i0 v0_1 ho0_0 hc0
 | x0 :: r0, i0, v0_1, hd, ho0_0 => by
  obtain ⟨hx0, hi0, hd'⟩ := Q1v hd
  have hc0 : (decide ((i0 : Int) < ((List.length p0) : Int))) = true := by have hL := (Q36 (List.length p0) p0 rfl); simp; omega
  rw [Q40]
  cases h0 : (((i0 + 1 : Nat) : Int) == ((List.length p0) : Int)) with
  | true =>
   have e0 := eq_of_beq h0
   exact Q95 p0 (fun r hr => Q19o p0 H x0 i0 v0_1 hx0 hi0 ho0_0 hc0 h0 hr) _ (Qdg p0 H r0 (i0 + 1) (v0_1 ++ [x0]) hd' (by first | omega | (simp; omega)))
  | false =>
   have e0 := beq_eq_false_iff_ne.1 h0
   cases h1 : (sEq (List.getD (Q19 (List.length p0) p0) (Int.toNat ((i0 + 1 : Nat) : Int)) zF).name x0.name) with
   | true =>
    exact Q95 p0 (fun r hr => Q19p p0 H x0 i0 v0_1 hx0 hi0 ho0_0 hc0 h0 h1 hr) _ (Qdg p0 H r0 (i0 + 1) v0_1 hd' (by first | omega | (simp; omega)))
   | false =>
    exact Q95 p0 (fun r hr => Q19q p0 H x0 i0 v0_1 hx0 hi0 ho0_0 hc0 h0 h1 hr) _ (Qdg p0 H r0 (i0 + 1) (v0_1 ++ [x0]) hd' (by first | omega | (simp; omega)))
def Q51 (p0 : List Fld) : Val :=
 (Val.mk 5 0 eB [] (Q40 p0 (Q19 (List.length p0) p0) 0 []))
def Q8l (p0 : List Fld) : En := .call 78 [.sl (Fld.rows p0)] []
def Q1s4 (p0 : List Fld) : Rs := .ret (.agg (Val.cells (Q51 p0))) []
def Q87 (p0 : List Fld) : Prop := (List.length p0 * 96 ≤ 140737488355328) ∧ (((List.length p0) : Int) ≤ 20) ∧ (Qaq p0) ∧ (Qof (Val.mk 5 0 eB [] (Q40 p0 (Q19 (List.length p0) p0) 0 []))) ∧ True
theorem Q9k (p0 : List Fld) (H : Q87 p0) : Qd G (Q8l p0) (Q1s4 p0) := by
 unfold Q1s4 Q51
 have hl0 := Qdg p0 (H.2.2.1) (Q19 (List.length p0) p0) 0 [] (by simp) (by simp)
 obtain ⟨z0, zo0, hl0⟩ := hl0
 exact Qj (fn := Ir.K50) rfl VOK.nil [hQ (Fld.Qk p0 6 rfl), hQ (Fld.Qk (Q19 (List.length p0) p0) 6 rfl), hS 0 false (Fld.Qk (Q19 (List.length p0) p0) 6 rfl), hS 0 true (Fld.Qk (Q40 p0 (Q19 (List.length p0) p0) 0 []) 6 rfl), hQ (Fld.Qa (Q40 p0 (Q19 (List.length p0) p0) 0 [])).symm] [aV [(0, Fld.rows p0)] (Q9l (G := G) (f := 185) (sz := 6) (bytes := 96) rfl (Fld.Qa p0) (Fld.Qk p0 6 rfl) H.1), aV [(0, Fld.rows (Q19 (List.length p0) p0))] (Q1ao (List.length p0) p0 rfl (H.2.1)), aV [(1, Fld.rows (Q19 (List.length p0) p0)), (6, Fld.rows (Q40 p0 (Q19 (List.length p0) p0) 0 []))] hl0, aN (Q1mz (Val.mk 5 0 eB [] (Q40 p0 (Q19 (List.length p0) p0) 0 [])) H.2.2.2.1)] (by kernel_rfl)
end Go.Proofs.YtimjjohlpnkacaaGreat
end

section
/- Maps of at most 20 fields, fields of a name and equality in plain words. -/
namespace Go.Proofs.YtimjjohlpnkacaaGreat
open Go.Pv Go.Pv.Srt
theorem vind {P : Val → Prop} (h : ∀ v : Val, (∀ x ∈ v.list, P x) → (∀ f ∈ v.fields, P f.v) → P v) : ∀ v, P v := by
  have key : ∀ (k : Nat) (v : Val), SizeOf.sizeOf v < k → P v := by
    intro k
    induction k with
    | zero => intro v hv; exact absurd hv (Nat.not_lt_zero _)
    | succ k ih => intro v hv; exact h v (fun x hx => ih x (by have := szM hx; omega)) (fun f hf => ih f.v (by have := szN hf; omega))
  exact fun v => key _ v (Nat.lt_succ_self _)
theorem vprt (v : Val) (n : BA) : (Qoo v n).1 = prt v n := by
  unfold Qoo prt
  cases v.kind == 5 with
  | false => rfl
  | true =>
    simp only [cond_true]
    have : ∀ (l : List Fld) (i : Nat), (match Q80 v n l i with | .k0 => (Val.mk 0 0 ⟨#[]⟩ [] [], false) | .k1 y => (y, true)).1 = Q18m n l := by
      intro l
      induction l with
      | nil => intro i; rfl
      | cons x l ih =>
        intro i
        rw [Q80, Q18m]
        cases sEq x.name n with
        | true => rfl
        | false => exact ih (i + 1)
    exact this _ _
abbrev Qei : Fld := zF
theorem Q1kt (n0 : Nat) (a b i : Int) : ∀ (k : Nat) (v : List Fld) (j : Int), Q42 n0 a b i k v j = ins1 Qei cNm a k v j
  | 0, _, _ => rfl
  | k + 1, v, j => by
    rw [Q42, ins1, Q1kt n0 a b i k]
    rfl
theorem Q1ks (n0 : Nat) (a b : Int) : ∀ (k : Nat) (i : Int) (v : List Fld), Q4z n0 a b k i v = ins0 Qei cNm a b k i v
  | 0, _, _ => rfl
  | k + 1, i, v => by
    rw [Q4z, ins0, Q1ks n0 a b k, Q1kt]
theorem Q1u2 (n0 : Nat) (d : List Fld) (a b : Int) : Q2v n0 d a b = ins Qei cNm d a b := Q1ks n0 a b _ _ _
theorem Qws {l : List Fld} (h : l.length ≤ 20) : Q19 l.length l = Qea cNm l := by
  unfold Q19 Q5p
  have i1 : ∀ v, Q60 l.length (l.length : Int) (0 + 1) v = v := fun v => rfl
  rw [i1, Q1u2, Q3t]
  by_cases c : (20 : Int) ≤ (l.length : Int)
  · rw [show decide ((20 : Int) ≤ (l.length : Int)) = true by simpa using c, cond_true, Q1u2, show Int.toNat ((l.length : Int) + 20 - 20) = 19 + 1 by omega, Q3t, show decide ((20 : Int) + 20 ≤ (l.length : Int)) = false by simp; omega, cond_false]
    have e1 := Qw0 (z := Qei) (c := cNm) (d := l) (A := []) (M := l) (C := []) (a := 0) (b := 20) (by simp) rfl (by omega)
    rw [List.nil_append, List.append_nil] at e1
    rw [e1, Qw0 (z := Qei) (c := cNm) (d := Qea cNm l) (A := Qea cNm l) (M := []) (C := []) (by simp) (by rw [Qnl _ (Qb8 Fld.name)]; omega) (by simp; omega)]
    simp [Qea]
  · rw [show decide ((20 : Int) ≤ (l.length : Int)) = false by simpa using c, cond_false]
    have e1 := Qw0 (z := Qei) (c := cNm) (d := l) (A := []) (M := l) (C := []) (a := 0) (b := (l.length : Int)) (by simp) rfl (by omega)
    rw [List.nil_append, List.append_nil] at e1
    exact e1
theorem Qeb (p : List Fld) : (Qea cNm p).length = p.length := Qnl _ (Qb8 Fld.name) p
theorem Q1ea {p : List Fld} (hp : p.length ≤ 20) : ∀ (r : List Fld) (i : Nat) (a : List Fld), (Qea cNm p).drop i = r → Q40 p r i a = a ++ lasts r
  | [], i, a, _ => by rw [Q40, lasts]; simp
  | [x], i, a, hd => by
    have hl := Qeb p
    have h := congrArg List.length hd
    rw [List.length_drop, List.length_singleton] at h
    rw [Q40, show (((i + 1 : Nat) : Int) == (List.length p : Int)) = true by simp; omega, cond_true, Q40]
    rfl
  | x :: y :: r, i, a, hd => by
    have hl := Qeb p
    have h := congrArg List.length hd
    rw [List.length_drop, List.length_cons, List.length_cons] at h
    obtain ⟨_, _, hd'⟩ := Q1v hd
    obtain ⟨hy, _, _⟩ := Q1v hd'
    rw [Q40, show (((i + 1 : Nat) : Int) == (List.length p : Int)) = false by simp; omega, cond_false, Qws hp, Int.toNat_natCast, List.getD_eq_getElem?_getD, hy, Option.getD_some, lasts]
    cases sEq y.name x.name with
    | true => rw [cond_true, cond_true, Q1ea hp (y :: r) (i + 1) a hd']
    | false => rw [cond_false, cond_false, Q1ea hp (y :: r) (i + 1) _ hd']; simp
theorem Qob {p : List Fld} (hp : p.length ≤ 20) : Q40 p (Q19 p.length p) 0 [] = mapOf p := by
  rw [Q1ea hp _ 0 [] (by rw [Qws hp]; rfl), Qws hp]
  rfl
theorem vmap {p : List Fld} (hp : p.length ≤ 20) : Q51 p = vM (mapOf p) := by
  unfold Q51
  rw [Qob hp]
theorem Q6a {p : List Fld} (hp : p.length ≤ 20) (hs : ssb p = true) : Q51 p = vM p := by rw [vmap hp, Q1e8 hs]
theorem Q1qo {l : List Fld} (hl : l.length ≤ 20) (h : ∀ f ∈ l, Val.Sm sB f.v) : Val.Sm sB (vM (mapOf l)) :=
  .mk _ (Nat.zero_le _) (Nat.le_trans (Q1e7 l) (by show l.length ≤ 1000000000; omega)) (fun _ g => by cases g) fun f hf => h f (Q1e9 hf)
theorem Q94 {l : List Fld} (hl : l.length ≤ 20) (h : ∀ f ∈ l, Val.Sm sB f.v) : Q87 l := by
  refine ⟨by omega, by omega, ⟨?_, trivial⟩, ?_, trivial⟩
  · rw [Qws hl, Qeb]
    omega
  · rw [Qob hl]
    exact Q1qo hl h
theorem Q1q6 {v : Val} (h : Val.Sm sB v) (n : BA) : Q1gh v n := ⟨⟨Nat.le_trans h.all.2.1 (Nat.le_of_ble_eq_true rfl), h.all.2.2.2, trivial⟩, trivial⟩
end Go.Proofs.YtimjjohlpnkacaaGreat
end

section
/- Structures and kinds of objects as values, in plain words (printed by a program). -/
namespace Go.Proofs.YtimjjohlpnkacaaGreat
open Go.Pv
structure Requirement where
  key : ByteArray
  op : Int
  values : List ByteArray
def Requirement.cells (x : Requirement) : List PV :=
  [.str x.key, .int .i64 x.op, .sl (Q10 x.values)]
def Requirement.rows (l : List Requirement) : List (List PV) := l.map Requirement.cells
theorem Requirement.Qa (l : List Requirement) : (Requirement.rows l).length = l.length := by simp [Requirement.rows]
theorem Requirement.Qz {l : List Requirement} {i : Nat} {x : Requirement} (h : l[i]? = some x) : (Requirement.rows l)[i]? = some (Requirement.cells x) := Go.Pv.Qz h
theorem Requirement.Q23 (l : List Requirement) (x : Requirement) : Requirement.rows (l ++ [x]) = Requirement.rows l ++ [Requirement.cells x] := by simp [Requirement.rows]
theorem Requirement.Q12 (l : List Requirement) : ∀ r ∈ Requirement.rows l, r.length = 3 := Q5k (f := Requirement.cells) (fun _ => rfl) l
theorem Requirement.Qk (l : List Requirement) (sz : Nat) (h : sz = 3) : ViewOK sz (Requirement.rows l).flatten (Requirement.rows l) := by subst h; exact ⟨rfl, Requirement.Q12 l, Q4f (f := Requirement.cells) (fun _ => rfl) l⟩
structure Label where
  key : ByteArray
  value : ByteArray
def Label.cells (x : Label) : List PV :=
  [.str x.key, .str x.value]
def Label.rows (l : List Label) : List (List PV) := l.map Label.cells
theorem Label.Qa (l : List Label) : (Label.rows l).length = l.length := by simp [Label.rows]
theorem Label.Qz {l : List Label} {i : Nat} {x : Label} (h : l[i]? = some x) : (Label.rows l)[i]? = some (Label.cells x) := Go.Pv.Qz h
theorem Label.Q23 (l : List Label) (x : Label) : Label.rows (l ++ [x]) = Label.rows l ++ [Label.cells x] := by simp [Label.rows]
theorem Label.Q12 (l : List Label) : ∀ r ∈ Label.rows l, r.length = 2 := Q5k (f := Label.cells) (fun _ => rfl) l
theorem Label.Qk (l : List Label) (sz : Nat) (h : sz = 2) : ViewOK sz (Label.rows l).flatten (Label.rows l) := by subst h; exact ⟨rfl, Label.Q12 l, Q4f (f := Label.cells) (fun _ => rfl) l⟩
structure Resources where
  cPU : Int
  memory : Int
  disk : Int
def Resources.cells (x : Resources) : List PV :=
  [.int .i64 x.cPU, .int .i64 x.memory, .int .i64 x.disk]
def Resources.rows (l : List Resources) : List (List PV) := l.map Resources.cells
structure Probe where
  delay : Int
  period : Int
  success : Int
  failure : Int
def Probe.cells (x : Probe) : List PV :=
  [.int .i64 x.delay, .int .i64 x.period, .int .i64 x.success, .int .i64 x.failure]
def Probe.rows (l : List Probe) : List (List PV) := l.map Probe.cells
theorem Probe.Qa (l : List Probe) : (Probe.rows l).length = l.length := by simp [Probe.rows]
theorem Probe.Qz {l : List Probe} {i : Nat} {x : Probe} (h : l[i]? = some x) : (Probe.rows l)[i]? = some (Probe.cells x) := Go.Pv.Qz h
theorem Probe.Q23 (l : List Probe) (x : Probe) : Probe.rows (l ++ [x]) = Probe.rows l ++ [Probe.cells x] := by simp [Probe.rows]
theorem Probe.Q12 (l : List Probe) : ∀ r ∈ Probe.rows l, r.length = 4 := Q5k (f := Probe.cells) (fun _ => rfl) l
theorem Probe.Qk (l : List Probe) (sz : Nat) (h : sz = 4) : ViewOK sz (Probe.rows l).flatten (Probe.rows l) := by subst h; exact ⟨rfl, Probe.Q12 l, Q4f (f := Probe.cells) (fun _ => rfl) l⟩
structure Container where
  name : ByteArray
  image : ByteArray
  request : Resources
  limit : Resources
  live : List Probe
  ready : List Probe
  startup : List Probe
def Container.cells (x : Container) : List PV :=
  [.str x.name, .str x.image, .int .i64 x.request.cPU, .int .i64 x.request.memory, .int .i64 x.request.disk, .int .i64 x.limit.cPU, .int .i64 x.limit.memory, .int .i64 x.limit.disk, .sl (Probe.rows x.live), .sl (Probe.rows x.ready), .sl (Probe.rows x.startup)]
def Container.rows (l : List Container) : List (List PV) := l.map Container.cells
theorem Container.Qa (l : List Container) : (Container.rows l).length = l.length := by simp [Container.rows]
theorem Container.Qz {l : List Container} {i : Nat} {x : Container} (h : l[i]? = some x) : (Container.rows l)[i]? = some (Container.cells x) := Go.Pv.Qz h
theorem Container.Q23 (l : List Container) (x : Container) : Container.rows (l ++ [x]) = Container.rows l ++ [Container.cells x] := by simp [Container.rows]
theorem Container.Q12 (l : List Container) : ∀ r ∈ Container.rows l, r.length = 11 := Q5k (f := Container.cells) (fun _ => rfl) l
theorem Container.Qk (l : List Container) (sz : Nat) (h : sz = 11) : ViewOK sz (Container.rows l).flatten (Container.rows l) := by subst h; exact ⟨rfl, Container.Q12 l, Q4f (f := Container.cells) (fun _ => rfl) l⟩
structure NodeTerm where
  required : Bool
  selector : List Requirement
  weight : Int
def NodeTerm.cells (x : NodeTerm) : List PV :=
  [.bool x.required, .sl (Requirement.rows x.selector), .int .i64 x.weight]
def NodeTerm.rows (l : List NodeTerm) : List (List PV) := l.map NodeTerm.cells
theorem NodeTerm.Qa (l : List NodeTerm) : (NodeTerm.rows l).length = l.length := by simp [NodeTerm.rows]
theorem NodeTerm.Qz {l : List NodeTerm} {i : Nat} {x : NodeTerm} (h : l[i]? = some x) : (NodeTerm.rows l)[i]? = some (NodeTerm.cells x) := Go.Pv.Qz h
theorem NodeTerm.Q23 (l : List NodeTerm) (x : NodeTerm) : NodeTerm.rows (l ++ [x]) = NodeTerm.rows l ++ [NodeTerm.cells x] := by simp [NodeTerm.rows]
theorem NodeTerm.Q12 (l : List NodeTerm) : ∀ r ∈ NodeTerm.rows l, r.length = 3 := Q5k (f := NodeTerm.cells) (fun _ => rfl) l
theorem NodeTerm.Qk (l : List NodeTerm) (sz : Nat) (h : sz = 3) : ViewOK sz (NodeTerm.rows l).flatten (NodeTerm.rows l) := by subst h; exact ⟨rfl, NodeTerm.Q12 l, Q4f (f := NodeTerm.cells) (fun _ => rfl) l⟩
structure PodTerm where
  required : Bool
  anti : Bool
  selector : List Requirement
  topology : ByteArray
  weight : Int
def PodTerm.cells (x : PodTerm) : List PV :=
  [.bool x.required, .bool x.anti, .sl (Requirement.rows x.selector), .str x.topology, .int .i64 x.weight]
def PodTerm.rows (l : List PodTerm) : List (List PV) := l.map PodTerm.cells
theorem PodTerm.Qa (l : List PodTerm) : (PodTerm.rows l).length = l.length := by simp [PodTerm.rows]
theorem PodTerm.Qz {l : List PodTerm} {i : Nat} {x : PodTerm} (h : l[i]? = some x) : (PodTerm.rows l)[i]? = some (PodTerm.cells x) := Go.Pv.Qz h
theorem PodTerm.Q23 (l : List PodTerm) (x : PodTerm) : PodTerm.rows (l ++ [x]) = PodTerm.rows l ++ [PodTerm.cells x] := by simp [PodTerm.rows]
theorem PodTerm.Q12 (l : List PodTerm) : ∀ r ∈ PodTerm.rows l, r.length = 5 := Q5k (f := PodTerm.cells) (fun _ => rfl) l
theorem PodTerm.Qk (l : List PodTerm) (sz : Nat) (h : sz = 5) : ViewOK sz (PodTerm.rows l).flatten (PodTerm.rows l) := by subst h; exact ⟨rfl, PodTerm.Q12 l, Q4f (f := PodTerm.cells) (fun _ => rfl) l⟩
structure SpreadRule where
  maxSkew : Int
  topology : ByteArray
  selector : List Requirement
  required : Bool
def SpreadRule.cells (x : SpreadRule) : List PV :=
  [.int .i64 x.maxSkew, .str x.topology, .sl (Requirement.rows x.selector), .bool x.required]
def SpreadRule.rows (l : List SpreadRule) : List (List PV) := l.map SpreadRule.cells
theorem SpreadRule.Qa (l : List SpreadRule) : (SpreadRule.rows l).length = l.length := by simp [SpreadRule.rows]
theorem SpreadRule.Qz {l : List SpreadRule} {i : Nat} {x : SpreadRule} (h : l[i]? = some x) : (SpreadRule.rows l)[i]? = some (SpreadRule.cells x) := Go.Pv.Qz h
theorem SpreadRule.Q23 (l : List SpreadRule) (x : SpreadRule) : SpreadRule.rows (l ++ [x]) = SpreadRule.rows l ++ [SpreadRule.cells x] := by simp [SpreadRule.rows]
theorem SpreadRule.Q12 (l : List SpreadRule) : ∀ r ∈ SpreadRule.rows l, r.length = 4 := Q5k (f := SpreadRule.cells) (fun _ => rfl) l
theorem SpreadRule.Qk (l : List SpreadRule) (sz : Nat) (h : sz = 4) : ViewOK sz (SpreadRule.rows l).flatten (SpreadRule.rows l) := by subst h; exact ⟨rfl, SpreadRule.Q12 l, Q4f (f := SpreadRule.cells) (fun _ => rfl) l⟩
structure Toleration where
  key : ByteArray
  value : ByteArray
  exists_ : Bool
  effect : Int
  seconds : Int
def Toleration.cells (x : Toleration) : List PV :=
  [.str x.key, .str x.value, .bool x.exists_, .int .i64 x.effect, .int .i64 x.seconds]
def Toleration.rows (l : List Toleration) : List (List PV) := l.map Toleration.cells
theorem Toleration.Qa (l : List Toleration) : (Toleration.rows l).length = l.length := by simp [Toleration.rows]
theorem Toleration.Qz {l : List Toleration} {i : Nat} {x : Toleration} (h : l[i]? = some x) : (Toleration.rows l)[i]? = some (Toleration.cells x) := Go.Pv.Qz h
theorem Toleration.Q23 (l : List Toleration) (x : Toleration) : Toleration.rows (l ++ [x]) = Toleration.rows l ++ [Toleration.cells x] := by simp [Toleration.rows]
theorem Toleration.Q12 (l : List Toleration) : ∀ r ∈ Toleration.rows l, r.length = 5 := Q5k (f := Toleration.cells) (fun _ => rfl) l
theorem Toleration.Qk (l : List Toleration) (sz : Nat) (h : sz = 5) : ViewOK sz (Toleration.rows l).flatten (Toleration.rows l) := by subst h; exact ⟨rfl, Toleration.Q12 l, Q4f (f := Toleration.cells) (fun _ => rfl) l⟩
structure PodSpec where
  node : ByteArray
  priority : Int
  restart : Int
  grace : Int
  containers : List Container
  nodeSelector : List Requirement
  nodeTerms : List NodeTerm
  podTerms : List PodTerm
  spread : List SpreadRule
  tolerations : List Toleration
def PodSpec.cells (x : PodSpec) : List PV :=
  [.str x.node, .int .i64 x.priority, .int .i64 x.restart, .int .i64 x.grace, .sl (Container.rows x.containers), .sl (Requirement.rows x.nodeSelector), .sl (NodeTerm.rows x.nodeTerms), .sl (PodTerm.rows x.podTerms), .sl (SpreadRule.rows x.spread), .sl (Toleration.rows x.tolerations)]
def PodSpec.rows (l : List PodSpec) : List (List PV) := l.map PodSpec.cells
structure Template where
  labels : List Label
  spec : PodSpec
def Template.cells (x : Template) : List PV :=
  [.sl (Label.rows x.labels), .str x.spec.node, .int .i64 x.spec.priority, .int .i64 x.spec.restart, .int .i64 x.spec.grace, .sl (Container.rows x.spec.containers), .sl (Requirement.rows x.spec.nodeSelector), .sl (NodeTerm.rows x.spec.nodeTerms), .sl (PodTerm.rows x.spec.podTerms), .sl (SpreadRule.rows x.spec.spread), .sl (Toleration.rows x.spec.tolerations)]
def Template.rows (l : List Template) : List (List PV) := l.map Template.cells
structure Amount where
  percent : Bool
  n : Int
def Amount.cells (x : Amount) : List PV :=
  [.bool x.percent, .int .i64 x.n]
def Amount.rows (l : List Amount) : List (List PV) := l.map Amount.cells
structure WorkStatus where
  observed : Int
  replicas : Int
  updated : Int
  ready : Int
  available : Int
  progress : Int
  failed : Bool
def WorkStatus.cells (x : WorkStatus) : List PV :=
  [.int .i64 x.observed, .int .i64 x.replicas, .int .i64 x.updated, .int .i64 x.ready, .int .i64 x.available, .int .i64 x.progress, .bool x.failed]
def WorkStatus.rows (l : List WorkStatus) : List (List PV) := l.map WorkStatus.cells
structure Metric where
  name : ByteArray
  target : Int
def Metric.cells (x : Metric) : List PV :=
  [.str x.name, .int .i64 x.target]
def Metric.rows (l : List Metric) : List (List PV) := l.map Metric.cells
theorem Metric.Qa (l : List Metric) : (Metric.rows l).length = l.length := by simp [Metric.rows]
theorem Metric.Qz {l : List Metric} {i : Nat} {x : Metric} (h : l[i]? = some x) : (Metric.rows l)[i]? = some (Metric.cells x) := Go.Pv.Qz h
theorem Metric.Q23 (l : List Metric) (x : Metric) : Metric.rows (l ++ [x]) = Metric.rows l ++ [Metric.cells x] := by simp [Metric.rows]
theorem Metric.Q12 (l : List Metric) : ∀ r ∈ Metric.rows l, r.length = 2 := Q5k (f := Metric.cells) (fun _ => rfl) l
theorem Metric.Qk (l : List Metric) (sz : Nat) (h : sz = 2) : ViewOK sz (Metric.rows l).flatten (Metric.rows l) := by subst h; exact ⟨rfl, Metric.Q12 l, Q4f (f := Metric.cells) (fun _ => rfl) l⟩
structure Advice where
  at_ : Int
  replicas : Int
def Advice.cells (x : Advice) : List PV :=
  [.int .i64 x.at_, .int .i64 x.replicas]
def Advice.rows (l : List Advice) : List (List PV) := l.map Advice.cells
theorem Advice.Qa (l : List Advice) : (Advice.rows l).length = l.length := by simp [Advice.rows]
theorem Advice.Qz {l : List Advice} {i : Nat} {x : Advice} (h : l[i]? = some x) : (Advice.rows l)[i]? = some (Advice.cells x) := Go.Pv.Qz h
theorem Advice.Q23 (l : List Advice) (x : Advice) : Advice.rows (l ++ [x]) = Advice.rows l ++ [Advice.cells x] := by simp [Advice.rows]
theorem Advice.Q12 (l : List Advice) : ∀ r ∈ Advice.rows l, r.length = 2 := Q5k (f := Advice.cells) (fun _ => rfl) l
theorem Advice.Qk (l : List Advice) (sz : Nat) (h : sz = 2) : ViewOK sz (Advice.rows l).flatten (Advice.rows l) := by subst h; exact ⟨rfl, Advice.Q12 l, Q4f (f := Advice.cells) (fun _ => rfl) l⟩
structure WorkItem where
  key : ByteArray
  at_ : Int
def WorkItem.cells (x : WorkItem) : List PV :=
  [.str x.key, .int .i64 x.at_]
def WorkItem.rows (l : List WorkItem) : List (List PV) := l.map WorkItem.cells
structure ServicePort where
  name : ByteArray
  port : Int
  target : Int
def ServicePort.cells (x : ServicePort) : List PV :=
  [.str x.name, .int .i64 x.port, .int .i64 x.target]
def ServicePort.rows (l : List ServicePort) : List (List PV) := l.map ServicePort.cells
structure Endpoint where
  pod : ByteArray
  node : ByteArray
  address : Int
  ready : Bool
  terminating : Bool
def Endpoint.cells (x : Endpoint) : List PV :=
  [.str x.pod, .str x.node, .int .i64 x.address, .bool x.ready, .bool x.terminating]
def Endpoint.rows (l : List Endpoint) : List (List PV) := l.map Endpoint.cells
structure Peer where
  namespace_ : ByteArray
  selector : List Requirement
def Peer.cells (x : Peer) : List PV :=
  [.str x.namespace_, .sl (Requirement.rows x.selector)]
def Peer.rows (l : List Peer) : List (List PV) := l.map Peer.cells
structure PolicyRule where
  egress : Bool
  peers : List Peer
  ports : List Int
def PolicyRule.cells (x : PolicyRule) : List PV :=
  [.bool x.egress, .sl (Peer.rows x.peers), .sl (Q12x x.ports)]
def PolicyRule.rows (l : List PolicyRule) : List (List PV) := l.map PolicyRule.cells
structure Owner where
  kind : ByteArray
  name : ByteArray
  uid : Int
  controller : Bool
  block : Bool
def Owner.cells (x : Owner) : List PV :=
  [.str x.kind, .str x.name, .int .i64 x.uid, .bool x.controller, .bool x.block]
def Owner.rows (l : List Owner) : List (List PV) := l.map Owner.cells
theorem Owner.Qa (l : List Owner) : (Owner.rows l).length = l.length := by simp [Owner.rows]
theorem Owner.Qz {l : List Owner} {i : Nat} {x : Owner} (h : l[i]? = some x) : (Owner.rows l)[i]? = some (Owner.cells x) := Go.Pv.Qz h
theorem Owner.Q12 (l : List Owner) : ∀ r ∈ Owner.rows l, r.length = 5 := Q5k (f := Owner.cells) (fun _ => rfl) l
theorem Owner.Qk (l : List Owner) (sz : Nat) (h : sz = 5) : ViewOK sz (Owner.rows l).flatten (Owner.rows l) := by subst h; exact ⟨rfl, Owner.Q12 l, Q4f (f := Owner.cells) (fun _ => rfl) l⟩
structure Manager where
  name : ByteArray
  fields : List ByteArray
def Manager.cells (x : Manager) : List PV :=
  [.str x.name, .sl (Q10 x.fields)]
def Manager.rows (l : List Manager) : List (List PV) := l.map Manager.cells
theorem Manager.Qa (l : List Manager) : (Manager.rows l).length = l.length := by simp [Manager.rows]
theorem Manager.Qz {l : List Manager} {i : Nat} {x : Manager} (h : l[i]? = some x) : (Manager.rows l)[i]? = some (Manager.cells x) := Go.Pv.Qz h
theorem Manager.Q12 (l : List Manager) : ∀ r ∈ Manager.rows l, r.length = 2 := Q5k (f := Manager.cells) (fun _ => rfl) l
theorem Manager.Qk (l : List Manager) (sz : Nat) (h : sz = 2) : ViewOK sz (Manager.rows l).flatten (Manager.rows l) := by subst h; exact ⟨rfl, Manager.Q12 l, Q4f (f := Manager.cells) (fun _ => rfl) l⟩
structure Meta where
  kind : ByteArray
  namespace_ : ByteArray
  name : ByteArray
  uid : Int
  version : Int
  generation : Int
  created : Int
  deleting : Bool
  deleteAt : Int
  labels : List Label
  owners : List Owner
  finalizers : List ByteArray
  managers : List Manager
def Meta.cells (x : Meta) : List PV :=
  [.str x.kind, .str x.namespace_, .str x.name, .int .i64 x.uid, .int .i64 x.version, .int .i64 x.generation, .int .i64 x.created, .bool x.deleting, .int .i64 x.deleteAt, .sl (Label.rows x.labels), .sl (Owner.rows x.owners), .sl (Q10 x.finalizers), .sl (Manager.rows x.managers)]
def Meta.rows (l : List Meta) : List (List PV) := l.map Meta.cells
structure Object where
  meta_ : Meta
  spec : Val
  status : Val
def Object.cells (x : Object) : List PV :=
  [.str x.meta_.kind, .str x.meta_.namespace_, .str x.meta_.name, .int .i64 x.meta_.uid, .int .i64 x.meta_.version, .int .i64 x.meta_.generation, .int .i64 x.meta_.created, .bool x.meta_.deleting, .int .i64 x.meta_.deleteAt, .sl (Label.rows x.meta_.labels), .sl (Owner.rows x.meta_.owners), .sl (Q10 x.meta_.finalizers), .sl (Manager.rows x.meta_.managers), .int .i64 x.spec.kind, .int .i64 x.spec.n, .str x.spec.s, .sl (Val.rows x.spec.list), .sl (Fld.rows x.spec.fields), .int .i64 x.status.kind, .int .i64 x.status.n, .str x.status.s, .sl (Val.rows x.status.list), .sl (Fld.rows x.status.fields)]
def Object.rows (l : List Object) : List (List PV) := l.map Object.cells
structure Job where
  meta_ : Meta
  completions : Int
  parallelism : Int
  retries : Int
  deadline : Int
  indexed : Bool
  suspended : Bool
  template : Template
  active : Int
  succeeded : Int
  failed : Int
  started : Int
  finished : Int
  done : List Int
  result : Int
def Job.cells (x : Job) : List PV :=
  [.str x.meta_.kind, .str x.meta_.namespace_, .str x.meta_.name, .int .i64 x.meta_.uid, .int .i64 x.meta_.version, .int .i64 x.meta_.generation, .int .i64 x.meta_.created, .bool x.meta_.deleting, .int .i64 x.meta_.deleteAt, .sl (Label.rows x.meta_.labels), .sl (Owner.rows x.meta_.owners), .sl (Q10 x.meta_.finalizers), .sl (Manager.rows x.meta_.managers), .int .i64 x.completions, .int .i64 x.parallelism, .int .i64 x.retries, .int .i64 x.deadline, .bool x.indexed, .bool x.suspended, .sl (Label.rows x.template.labels), .str x.template.spec.node, .int .i64 x.template.spec.priority, .int .i64 x.template.spec.restart, .int .i64 x.template.spec.grace, .sl (Container.rows x.template.spec.containers), .sl (Requirement.rows x.template.spec.nodeSelector), .sl (NodeTerm.rows x.template.spec.nodeTerms), .sl (PodTerm.rows x.template.spec.podTerms), .sl (SpreadRule.rows x.template.spec.spread), .sl (Toleration.rows x.template.spec.tolerations), .int .i64 x.active, .int .i64 x.succeeded, .int .i64 x.failed, .int .i64 x.started, .int .i64 x.finished, .sl (Q12x x.done), .int .i64 x.result]
def Job.rows (l : List Job) : List (List PV) := l.map Job.cells
structure Deployment where
  meta_ : Meta
  replicas : Int
  minReady : Int
  history : Int
  deadline : Int
  selector : List Requirement
  template : Template
  recreate : Bool
  paused : Bool
  surge : Amount
  unavailable : Amount
  undo : Int
  status : WorkStatus
def Deployment.cells (x : Deployment) : List PV :=
  [.str x.meta_.kind, .str x.meta_.namespace_, .str x.meta_.name, .int .i64 x.meta_.uid, .int .i64 x.meta_.version, .int .i64 x.meta_.generation, .int .i64 x.meta_.created, .bool x.meta_.deleting, .int .i64 x.meta_.deleteAt, .sl (Label.rows x.meta_.labels), .sl (Owner.rows x.meta_.owners), .sl (Q10 x.meta_.finalizers), .sl (Manager.rows x.meta_.managers), .int .i64 x.replicas, .int .i64 x.minReady, .int .i64 x.history, .int .i64 x.deadline, .sl (Requirement.rows x.selector), .sl (Label.rows x.template.labels), .str x.template.spec.node, .int .i64 x.template.spec.priority, .int .i64 x.template.spec.restart, .int .i64 x.template.spec.grace, .sl (Container.rows x.template.spec.containers), .sl (Requirement.rows x.template.spec.nodeSelector), .sl (NodeTerm.rows x.template.spec.nodeTerms), .sl (PodTerm.rows x.template.spec.podTerms), .sl (SpreadRule.rows x.template.spec.spread), .sl (Toleration.rows x.template.spec.tolerations), .bool x.recreate, .bool x.paused, .bool x.surge.percent, .int .i64 x.surge.n, .bool x.unavailable.percent, .int .i64 x.unavailable.n, .int .i64 x.undo, .int .i64 x.status.observed, .int .i64 x.status.replicas, .int .i64 x.status.updated, .int .i64 x.status.ready, .int .i64 x.status.available, .int .i64 x.status.progress, .bool x.status.failed]
def Deployment.rows (l : List Deployment) : List (List PV) := l.map Deployment.cells
structure Autoscaler where
  meta_ : Meta
  targetKind : ByteArray
  target : ByteArray
  min_ : Int
  max_ : Int
  metrics : List Metric
  tolerance : Int
  upWindow : Int
  downWindow : Int
  upStep : Amount
  downStep : Amount
  period : Int
  advice : List Advice
  scaled : Int
def Autoscaler.cells (x : Autoscaler) : List PV :=
  [.str x.meta_.kind, .str x.meta_.namespace_, .str x.meta_.name, .int .i64 x.meta_.uid, .int .i64 x.meta_.version, .int .i64 x.meta_.generation, .int .i64 x.meta_.created, .bool x.meta_.deleting, .int .i64 x.meta_.deleteAt, .sl (Label.rows x.meta_.labels), .sl (Owner.rows x.meta_.owners), .sl (Q10 x.meta_.finalizers), .sl (Manager.rows x.meta_.managers), .str x.targetKind, .str x.target, .int .i64 x.min_, .int .i64 x.max_, .sl (Metric.rows x.metrics), .int .i64 x.tolerance, .int .i64 x.upWindow, .int .i64 x.downWindow, .bool x.upStep.percent, .int .i64 x.upStep.n, .bool x.downStep.percent, .int .i64 x.downStep.n, .int .i64 x.period, .sl (Advice.rows x.advice), .int .i64 x.scaled]
def Autoscaler.rows (l : List Autoscaler) : List (List PV) := l.map Autoscaler.cells
structure ReplicaSet where
  meta_ : Meta
  replicas : Int
  minReady : Int
  revision : Int
  selector : List Requirement
  template : Template
  status : WorkStatus
def ReplicaSet.cells (x : ReplicaSet) : List PV :=
  [.str x.meta_.kind, .str x.meta_.namespace_, .str x.meta_.name, .int .i64 x.meta_.uid, .int .i64 x.meta_.version, .int .i64 x.meta_.generation, .int .i64 x.meta_.created, .bool x.meta_.deleting, .int .i64 x.meta_.deleteAt, .sl (Label.rows x.meta_.labels), .sl (Owner.rows x.meta_.owners), .sl (Q10 x.meta_.finalizers), .sl (Manager.rows x.meta_.managers), .int .i64 x.replicas, .int .i64 x.minReady, .int .i64 x.revision, .sl (Requirement.rows x.selector), .sl (Label.rows x.template.labels), .str x.template.spec.node, .int .i64 x.template.spec.priority, .int .i64 x.template.spec.restart, .int .i64 x.template.spec.grace, .sl (Container.rows x.template.spec.containers), .sl (Requirement.rows x.template.spec.nodeSelector), .sl (NodeTerm.rows x.template.spec.nodeTerms), .sl (PodTerm.rows x.template.spec.podTerms), .sl (SpreadRule.rows x.template.spec.spread), .sl (Toleration.rows x.template.spec.tolerations), .int .i64 x.status.observed, .int .i64 x.status.replicas, .int .i64 x.status.updated, .int .i64 x.status.ready, .int .i64 x.status.available, .int .i64 x.status.progress, .bool x.status.failed]
def ReplicaSet.rows (l : List ReplicaSet) : List (List PV) := l.map ReplicaSet.cells
structure Budget where
  meta_ : Meta
  selector : List Requirement
  minAvailable : List Amount
  maxUnavailable : List Amount
  observed : Int
  healthy : Int
  desired : Int
  expected : Int
  allowed : Int
  disrupted : List WorkItem
def Budget.cells (x : Budget) : List PV :=
  [.str x.meta_.kind, .str x.meta_.namespace_, .str x.meta_.name, .int .i64 x.meta_.uid, .int .i64 x.meta_.version, .int .i64 x.meta_.generation, .int .i64 x.meta_.created, .bool x.meta_.deleting, .int .i64 x.meta_.deleteAt, .sl (Label.rows x.meta_.labels), .sl (Owner.rows x.meta_.owners), .sl (Q10 x.meta_.finalizers), .sl (Manager.rows x.meta_.managers), .sl (Requirement.rows x.selector), .sl (Amount.rows x.minAvailable), .sl (Amount.rows x.maxUnavailable), .int .i64 x.observed, .int .i64 x.healthy, .int .i64 x.desired, .int .i64 x.expected, .int .i64 x.allowed, .sl (WorkItem.rows x.disrupted)]
def Budget.rows (l : List Budget) : List (List PV) := l.map Budget.cells
structure StatefulSet where
  meta_ : Meta
  replicas : Int
  partition : Int
  minReady : Int
  parallel : Bool
  selector : List Requirement
  template : Template
  status : WorkStatus
def StatefulSet.cells (x : StatefulSet) : List PV :=
  [.str x.meta_.kind, .str x.meta_.namespace_, .str x.meta_.name, .int .i64 x.meta_.uid, .int .i64 x.meta_.version, .int .i64 x.meta_.generation, .int .i64 x.meta_.created, .bool x.meta_.deleting, .int .i64 x.meta_.deleteAt, .sl (Label.rows x.meta_.labels), .sl (Owner.rows x.meta_.owners), .sl (Q10 x.meta_.finalizers), .sl (Manager.rows x.meta_.managers), .int .i64 x.replicas, .int .i64 x.partition, .int .i64 x.minReady, .bool x.parallel, .sl (Requirement.rows x.selector), .sl (Label.rows x.template.labels), .str x.template.spec.node, .int .i64 x.template.spec.priority, .int .i64 x.template.spec.restart, .int .i64 x.template.spec.grace, .sl (Container.rows x.template.spec.containers), .sl (Requirement.rows x.template.spec.nodeSelector), .sl (NodeTerm.rows x.template.spec.nodeTerms), .sl (PodTerm.rows x.template.spec.podTerms), .sl (SpreadRule.rows x.template.spec.spread), .sl (Toleration.rows x.template.spec.tolerations), .int .i64 x.status.observed, .int .i64 x.status.replicas, .int .i64 x.status.updated, .int .i64 x.status.ready, .int .i64 x.status.available, .int .i64 x.status.progress, .bool x.status.failed]
def StatefulSet.rows (l : List StatefulSet) : List (List PV) := l.map StatefulSet.cells
structure DaemonSet where
  meta_ : Meta
  minReady : Int
  unavailable : Amount
  selector : List Requirement
  template : Template
  status : WorkStatus
def DaemonSet.cells (x : DaemonSet) : List PV :=
  [.str x.meta_.kind, .str x.meta_.namespace_, .str x.meta_.name, .int .i64 x.meta_.uid, .int .i64 x.meta_.version, .int .i64 x.meta_.generation, .int .i64 x.meta_.created, .bool x.meta_.deleting, .int .i64 x.meta_.deleteAt, .sl (Label.rows x.meta_.labels), .sl (Owner.rows x.meta_.owners), .sl (Q10 x.meta_.finalizers), .sl (Manager.rows x.meta_.managers), .int .i64 x.minReady, .bool x.unavailable.percent, .int .i64 x.unavailable.n, .sl (Requirement.rows x.selector), .sl (Label.rows x.template.labels), .str x.template.spec.node, .int .i64 x.template.spec.priority, .int .i64 x.template.spec.restart, .int .i64 x.template.spec.grace, .sl (Container.rows x.template.spec.containers), .sl (Requirement.rows x.template.spec.nodeSelector), .sl (NodeTerm.rows x.template.spec.nodeTerms), .sl (PodTerm.rows x.template.spec.podTerms), .sl (SpreadRule.rows x.template.spec.spread), .sl (Toleration.rows x.template.spec.tolerations), .int .i64 x.status.observed, .int .i64 x.status.replicas, .int .i64 x.status.updated, .int .i64 x.status.ready, .int .i64 x.status.available, .int .i64 x.status.progress, .bool x.status.failed]
def DaemonSet.rows (l : List DaemonSet) : List (List PV) := l.map DaemonSet.cells
structure Service where
  meta_ : Meta
  selector : List Requirement
  ports : List ServicePort
  sticky : Bool
  address : Int
def Service.cells (x : Service) : List PV :=
  [.str x.meta_.kind, .str x.meta_.namespace_, .str x.meta_.name, .int .i64 x.meta_.uid, .int .i64 x.meta_.version, .int .i64 x.meta_.generation, .int .i64 x.meta_.created, .bool x.meta_.deleting, .int .i64 x.meta_.deleteAt, .sl (Label.rows x.meta_.labels), .sl (Owner.rows x.meta_.owners), .sl (Q10 x.meta_.finalizers), .sl (Manager.rows x.meta_.managers), .sl (Requirement.rows x.selector), .sl (ServicePort.rows x.ports), .bool x.sticky, .int .i64 x.address]
def Service.rows (l : List Service) : List (List PV) := l.map Service.cells
structure EndpointSet where
  meta_ : Meta
  ports : List ServicePort
  items : List Endpoint
def EndpointSet.cells (x : EndpointSet) : List PV :=
  [.str x.meta_.kind, .str x.meta_.namespace_, .str x.meta_.name, .int .i64 x.meta_.uid, .int .i64 x.meta_.version, .int .i64 x.meta_.generation, .int .i64 x.meta_.created, .bool x.meta_.deleting, .int .i64 x.meta_.deleteAt, .sl (Label.rows x.meta_.labels), .sl (Owner.rows x.meta_.owners), .sl (Q10 x.meta_.finalizers), .sl (Manager.rows x.meta_.managers), .sl (ServicePort.rows x.ports), .sl (Endpoint.rows x.items)]
def EndpointSet.rows (l : List EndpointSet) : List (List PV) := l.map EndpointSet.cells
structure NetworkPolicy where
  meta_ : Meta
  selector : List Requirement
  ingress : Bool
  egress : Bool
  rules : List PolicyRule
def NetworkPolicy.cells (x : NetworkPolicy) : List PV :=
  [.str x.meta_.kind, .str x.meta_.namespace_, .str x.meta_.name, .int .i64 x.meta_.uid, .int .i64 x.meta_.version, .int .i64 x.meta_.generation, .int .i64 x.meta_.created, .bool x.meta_.deleting, .int .i64 x.meta_.deleteAt, .sl (Label.rows x.meta_.labels), .sl (Owner.rows x.meta_.owners), .sl (Q10 x.meta_.finalizers), .sl (Manager.rows x.meta_.managers), .sl (Requirement.rows x.selector), .bool x.ingress, .bool x.egress, .sl (PolicyRule.rows x.rules)]
def NetworkPolicy.rows (l : List NetworkPolicy) : List (List PV) := l.map NetworkPolicy.cells
structure Quota where
  meta_ : Meta
  hard : Resources
  used : Resources
  pods : Int
  has : Int
def Quota.cells (x : Quota) : List PV :=
  [.str x.meta_.kind, .str x.meta_.namespace_, .str x.meta_.name, .int .i64 x.meta_.uid, .int .i64 x.meta_.version, .int .i64 x.meta_.generation, .int .i64 x.meta_.created, .bool x.meta_.deleting, .int .i64 x.meta_.deleteAt, .sl (Label.rows x.meta_.labels), .sl (Owner.rows x.meta_.owners), .sl (Q10 x.meta_.finalizers), .sl (Manager.rows x.meta_.managers), .int .i64 x.hard.cPU, .int .i64 x.hard.memory, .int .i64 x.hard.disk, .int .i64 x.used.cPU, .int .i64 x.used.memory, .int .i64 x.used.disk, .int .i64 x.pods, .int .i64 x.has]
def Quota.rows (l : List Quota) : List (List PV) := l.map Quota.cells
structure CronJob where
  meta_ : Meta
  schedule : ByteArray
  policy : Int
  startWithin : Int
  keepDone : Int
  suspended : Bool
  job : Job
  last : Int
def CronJob.cells (x : CronJob) : List PV :=
  [.str x.meta_.kind, .str x.meta_.namespace_, .str x.meta_.name, .int .i64 x.meta_.uid, .int .i64 x.meta_.version, .int .i64 x.meta_.generation, .int .i64 x.meta_.created, .bool x.meta_.deleting, .int .i64 x.meta_.deleteAt, .sl (Label.rows x.meta_.labels), .sl (Owner.rows x.meta_.owners), .sl (Q10 x.meta_.finalizers), .sl (Manager.rows x.meta_.managers), .str x.schedule, .int .i64 x.policy, .int .i64 x.startWithin, .int .i64 x.keepDone, .bool x.suspended, .str x.job.meta_.kind, .str x.job.meta_.namespace_, .str x.job.meta_.name, .int .i64 x.job.meta_.uid, .int .i64 x.job.meta_.version, .int .i64 x.job.meta_.generation, .int .i64 x.job.meta_.created, .bool x.job.meta_.deleting, .int .i64 x.job.meta_.deleteAt, .sl (Label.rows x.job.meta_.labels), .sl (Owner.rows x.job.meta_.owners), .sl (Q10 x.job.meta_.finalizers), .sl (Manager.rows x.job.meta_.managers), .int .i64 x.job.completions, .int .i64 x.job.parallelism, .int .i64 x.job.retries, .int .i64 x.job.deadline, .bool x.job.indexed, .bool x.job.suspended, .sl (Label.rows x.job.template.labels), .str x.job.template.spec.node, .int .i64 x.job.template.spec.priority, .int .i64 x.job.template.spec.restart, .int .i64 x.job.template.spec.grace, .sl (Container.rows x.job.template.spec.containers), .sl (Requirement.rows x.job.template.spec.nodeSelector), .sl (NodeTerm.rows x.job.template.spec.nodeTerms), .sl (PodTerm.rows x.job.template.spec.podTerms), .sl (SpreadRule.rows x.job.template.spec.spread), .sl (Toleration.rows x.job.template.spec.tolerations), .int .i64 x.job.active, .int .i64 x.job.succeeded, .int .i64 x.job.failed, .int .i64 x.job.started, .int .i64 x.job.finished, .sl (Q12x x.job.done), .int .i64 x.job.result, .int .i64 x.last]
def CronJob.rows (l : List CronJob) : List (List PV) := l.map CronJob.cells
def Q6 : ByteArray := ⟨#[65, 117, 116, 111, 115, 99, 97, 108, 101, 114]⟩
def Q7 : ByteArray := ⟨#[68, 101, 112, 108, 111, 121, 109, 101, 110, 116]⟩
def Qp : ByteArray := ⟨#[97, 100, 118, 105, 99, 101]⟩
def Q3a : ByteArray := ⟨#[97, 110, 116, 105]⟩
def Q59 : ByteArray := ⟨#[97, 116]⟩
def Q2e : ByteArray := ⟨#[97, 118, 97, 105, 108, 97, 98, 108, 101]⟩
def Q1x : ByteArray := ⟨#[99, 111, 110, 116, 97, 105, 110, 101, 114, 115]⟩
def Q5o : ByteArray := ⟨#[99, 112, 117]⟩
def Qf : ByteArray := ⟨#[100, 101, 97, 100, 108, 105, 110, 101]⟩
def Q2u : ByteArray := ⟨#[100, 101, 108, 97, 121]⟩
def Q54 : ByteArray := ⟨#[100, 105, 115, 107]⟩
def Q18 : ByteArray := ⟨#[100, 111, 119, 110, 83, 116, 101, 112]⟩
def Qb : ByteArray := ⟨#[100, 111, 119, 110, 87, 105, 110, 100, 111, 119]⟩
def Q2r : ByteArray := ⟨#[101, 102, 102, 101, 99, 116]⟩
def Q2m : ByteArray := ⟨#[101, 120, 105, 115, 116, 115]⟩
def Q3k : ByteArray := ⟨#[102, 97, 105, 108, 101, 100]⟩
def Q2i : ByteArray := ⟨#[102, 97, 105, 108, 117, 114, 101]⟩
def Q38 : ByteArray := ⟨#[103, 114, 97, 99, 101]⟩
def Ql : ByteArray := ⟨#[104, 105, 115, 116, 111, 114, 121]⟩
def Q1f : ByteArray := ⟨#[105, 109, 97, 103, 101]⟩
def Q1m : ByteArray := ⟨#[107, 101, 121]⟩
def Q2h : ByteArray := ⟨#[108, 97, 98, 101, 108, 115]⟩
def Q28 : ByteArray := ⟨#[108, 105, 109, 105, 116]⟩
def Q3e : ByteArray := ⟨#[108, 105, 118, 101]⟩
def Q1n : ByteArray := ⟨#[109, 97, 120]⟩
def Q25 : ByteArray := ⟨#[109, 97, 120, 83, 107, 101, 119]⟩
def Q3l : ByteArray := ⟨#[109, 101, 109, 111, 114, 121]⟩
def Qg : ByteArray := ⟨#[109, 101, 116, 114, 105, 99, 115]⟩
def Q1j : ByteArray := ⟨#[109, 105, 110]⟩
def Qc : ByteArray := ⟨#[109, 105, 110, 82, 101, 97, 100, 121]⟩
def kw_n : ByteArray := ⟨#[110]⟩
def Q17 : ByteArray := ⟨#[110, 97, 109, 101]⟩
def Q3b : ByteArray := ⟨#[110, 111, 100, 101]⟩
def Q1t : ByteArray := ⟨#[110, 111, 100, 101, 83, 101, 108, 101, 99, 116, 111, 114]⟩
def Q2f : ByteArray := ⟨#[110, 111, 100, 101, 84, 101, 114, 109, 115]⟩
def Q24 : ByteArray := ⟨#[111, 98, 115, 101, 114, 118, 101, 100]⟩
def Q4b : ByteArray := ⟨#[111, 112]⟩
def Qq : ByteArray := ⟨#[112, 97, 117, 115, 101, 100]⟩
def Q37 : ByteArray := ⟨#[112, 101, 114, 99, 101, 110, 116]⟩
def Q1d : ByteArray := ⟨#[112, 101, 114, 105, 111, 100]⟩
def Q2x : ByteArray := ⟨#[112, 111, 100, 84, 101, 114, 109, 115]⟩
def Q1z : ByteArray := ⟨#[112, 114, 105, 111, 114, 105, 116, 121]⟩
def Q2y : ByteArray := ⟨#[112, 114, 111, 103, 114, 101, 115, 115]⟩
def Q1w : ByteArray := ⟨#[114, 101, 97, 100, 121]⟩
def Qm : ByteArray := ⟨#[114, 101, 99, 114, 101, 97, 116, 101]⟩
def Q5 : ByteArray := ⟨#[114, 101, 112, 108, 105, 99, 97, 115]⟩
def Qx : ByteArray := ⟨#[114, 101, 113, 117, 101, 115, 116]⟩
def Qo : ByteArray := ⟨#[114, 101, 113, 117, 105, 114, 101, 100]⟩
def Q2b : ByteArray := ⟨#[114, 101, 115, 116, 97, 114, 116]⟩
def Q31 : ByteArray := ⟨#[115, 99, 97, 108, 101, 100]⟩
def Q2j : ByteArray := ⟨#[115, 101, 99, 111, 110, 100, 115]⟩
def Qh : ByteArray := ⟨#[115, 101, 108, 101, 99, 116, 111, 114]⟩
def Q3g : ByteArray := ⟨#[115, 112, 101, 99]⟩
def Q3m : ByteArray := ⟨#[115, 112, 114, 101, 97, 100]⟩
def Q2k : ByteArray := ⟨#[115, 116, 97, 114, 116, 117, 112]⟩
def Q2c : ByteArray := ⟨#[115, 117, 99, 99, 101, 115, 115]⟩
def Q11 : ByteArray := ⟨#[115, 117, 114, 103, 101]⟩
def Qi : ByteArray := ⟨#[116, 97, 114, 103, 101, 116]⟩
def Q8 : ByteArray := ⟨#[116, 97, 114, 103, 101, 116, 75, 105, 110, 100]⟩
def Q1s : ByteArray := ⟨#[116, 101, 109, 112, 108, 97, 116, 101]⟩
def Qe : ByteArray := ⟨#[116, 111, 108, 101, 114, 97, 110, 99, 101]⟩
def Q2q : ByteArray := ⟨#[116, 111, 108, 101, 114, 97, 116, 105, 111, 110, 115]⟩
def Qy : ByteArray := ⟨#[116, 111, 112, 111, 108, 111, 103, 121]⟩
def Qr : ByteArray := ⟨#[117, 110, 97, 118, 97, 105, 108, 97, 98, 108, 101]⟩
def Q3h : ByteArray := ⟨#[117, 110, 100, 111]⟩
def Qs : ByteArray := ⟨#[117, 112, 83, 116, 101, 112]⟩
def Qn : ByteArray := ⟨#[117, 112, 87, 105, 110, 100, 111, 119]⟩
def Q2p : ByteArray := ⟨#[117, 112, 100, 97, 116, 101, 100]⟩
def Q1q : ByteArray := ⟨#[118, 97, 108, 117, 101]⟩
def Q20 : ByteArray := ⟨#[118, 97, 108, 117, 101, 115]⟩
def Q1k : ByteArray := ⟨#[119, 101, 105, 103, 104, 116]⟩
def Requirement.enc (x : Requirement) : Val := vM [.mk Q1m (vS x.key), .mk Q4b (vN x.op), .mk Q20 (vL (x.values.map vS))]
def Requirement.dec (v : Val) : Requirement × Bool := (Requirement.mk (dS v Q1m).1 (dN v Q4b).1 (dE xS v Q20).1, isM v && (dS v Q1m).2 && (dN v Q4b).2 && (dE xS v Q20).2)
def Requirement.sm (x : Requirement) : Prop := LSm (fun _ : ByteArray => True) x.values ∧ True
theorem Requirement.Q2l {x : Requirement} (h : Requirement.sm x) : Val.Sm sB (Requirement.enc x) := Q9r (Nat.le_of_ble_eq_true rfl) (List.forall_mem_cons.2 ⟨Val.Sm.leaf 3 _ _, List.forall_mem_cons.2 ⟨Val.Sm.leaf 2 _ _, List.forall_mem_cons.2 ⟨Q3i (fun _ h => Val.Sm.leaf _ _ _) h.1, fun _ h => by cases h⟩⟩⟩)
theorem Requirement.Q1et (x : Requirement) : prt (Requirement.enc x) Q1m = vS x.key := by kernel_rfl
theorem Requirement.p_op (x : Requirement) : prt (Requirement.enc x) Q4b = vN x.op := by kernel_rfl
theorem Requirement.Q1if (x : Requirement) : prt (Requirement.enc x) Q20 = vL (x.values.map vS) := by kernel_rfl
theorem Requirement.Q34 (x : Requirement) : Requirement.dec (Requirement.enc x) = (x, true) := by
  have h0 : dS (Requirement.enc x) Q1m = (x.key, true) := by unfold dS; rw [Requirement.Q1et]; rfl
  have h1 : dN (Requirement.enc x) Q4b = (x.op, true) := by unfold dN; rw [Requirement.p_op]; rfl
  have h2 : dE xS (Requirement.enc x) Q20 = (x.values, true) := by unfold dE; rw [Requirement.Q1if]; exact Q6w (fun _ => rfl) _
  unfold Requirement.dec
  rw [h0, h1, h2]
  rfl
def Label.enc (x : Label) : Val := vM [.mk Q1m (vS x.key), .mk Q1q (vS x.value)]
def Label.dec (v : Val) : Label × Bool := (Label.mk (dS v Q1m).1 (dS v Q1q).1, isM v && (dS v Q1m).2 && (dS v Q1q).2)
def Label.sm (_ : Label) : Prop := True
theorem Label.Q2l {x : Label} (_ : Label.sm x) : Val.Sm sB (Label.enc x) := Q9r (Nat.le_of_ble_eq_true rfl) (List.forall_mem_cons.2 ⟨Val.Sm.leaf 3 _ _, List.forall_mem_cons.2 ⟨Val.Sm.leaf 3 _ _, fun _ h => by cases h⟩⟩)
theorem Label.Q1et (x : Label) : prt (Label.enc x) Q1m = vS x.key := by kernel_rfl
theorem Label.Q13a (x : Label) : prt (Label.enc x) Q1q = vS x.value := by kernel_rfl
theorem Label.Q34 (x : Label) : Label.dec (Label.enc x) = (x, true) := by
  have h0 : dS (Label.enc x) Q1m = (x.key, true) := by unfold dS; rw [Label.Q1et]; rfl
  have h1 : dS (Label.enc x) Q1q = (x.value, true) := by unfold dS; rw [Label.Q13a]; rfl
  unfold Label.dec
  rw [h0, h1]
  rfl
def Resources.enc (x : Resources) : Val := vM [.mk Q5o (vN x.cPU), .mk Q54 (vN x.disk), .mk Q3l (vN x.memory)]
def Resources.dec (v : Val) : Resources × Bool := (Resources.mk (dN v Q5o).1 (dN v Q3l).1 (dN v Q54).1, isM v && (dN v Q5o).2 && (dN v Q54).2 && (dN v Q3l).2)
def Resources.sm (_ : Resources) : Prop := True
theorem Resources.Q2l {x : Resources} (_ : Resources.sm x) : Val.Sm sB (Resources.enc x) := Q9r (Nat.le_of_ble_eq_true rfl) (List.forall_mem_cons.2 ⟨Val.Sm.leaf 2 _ _, List.forall_mem_cons.2 ⟨Val.Sm.leaf 2 _ _, List.forall_mem_cons.2 ⟨Val.Sm.leaf 2 _ _, fun _ h => by cases h⟩⟩⟩)
theorem Resources.Q249 (x : Resources) : prt (Resources.enc x) Q5o = vN x.cPU := by kernel_rfl
theorem Resources.Q1ia (x : Resources) : prt (Resources.enc x) Q3l = vN x.memory := by kernel_rfl
theorem Resources.Q1tv (x : Resources) : prt (Resources.enc x) Q54 = vN x.disk := by kernel_rfl
theorem Resources.Q34 (x : Resources) : Resources.dec (Resources.enc x) = (x, true) := by
  have h0 : dN (Resources.enc x) Q5o = (x.cPU, true) := by unfold dN; rw [Resources.Q249]; rfl
  have h1 : dN (Resources.enc x) Q3l = (x.memory, true) := by unfold dN; rw [Resources.Q1ia]; rfl
  have h2 : dN (Resources.enc x) Q54 = (x.disk, true) := by unfold dN; rw [Resources.Q1tv]; rfl
  unfold Resources.dec
  rw [h0, h1, h2]
  rfl
theorem Resources.Qa9 {v : Val} (h : (v.kind == 5) = false) : Resources.dec v = ((Resources.dec vZ).1, v.kind == 0) := by
  unfold Resources.dec
  simp only [dN, Qnx h, Qnk h]
  generalize (v.kind == 0) = b
  cases b <;> rfl
theorem Resources.sub1 (x : Val) : (Resources.dec (s5 x)).1 = (Resources.dec x).1 := (Q157 (f := Resources.dec) (fun _ h => Resources.Qa9 h) rfl x).1
theorem Resources.sub2 (v : Val) (k : BA) : (Resources.dec (prt v k)).2 = (isM (prt v k) && (Resources.dec (s5 (prt v k))).2) := (Q157 (f := Resources.dec) (fun _ h => Resources.Qa9 h) rfl _).2
def Probe.enc (x : Probe) : Val := vM [.mk Q2u (vN x.delay), .mk Q2i (vN x.failure), .mk Q1d (vN x.period), .mk Q2c (vN x.success)]
def Probe.dec (v : Val) : Probe × Bool := (Probe.mk (dN v Q2u).1 (dN v Q1d).1 (dN v Q2c).1 (dN v Q2i).1, isM v && (dN v Q2u).2 && (dN v Q2i).2 && (dN v Q1d).2 && (dN v Q2c).2)
def Probe.sm (_ : Probe) : Prop := True
theorem Probe.Q2l {x : Probe} (_ : Probe.sm x) : Val.Sm sB (Probe.enc x) := Q9r (Nat.le_of_ble_eq_true rfl) (List.forall_mem_cons.2 ⟨Val.Sm.leaf 2 _ _, List.forall_mem_cons.2 ⟨Val.Sm.leaf 2 _ _, List.forall_mem_cons.2 ⟨Val.Sm.leaf 2 _ _, List.forall_mem_cons.2 ⟨Val.Sm.leaf 2 _ _, fun _ h => by cases h⟩⟩⟩⟩)
theorem Probe.Q1mm (x : Probe) : prt (Probe.enc x) Q2u = vN x.delay := by kernel_rfl
theorem Probe.Qwg (x : Probe) : prt (Probe.enc x) Q1d = vN x.period := by kernel_rfl
theorem Probe.Q1f2 (x : Probe) : prt (Probe.enc x) Q2c = vN x.success := by kernel_rfl
theorem Probe.Q1er (x : Probe) : prt (Probe.enc x) Q2i = vN x.failure := by kernel_rfl
theorem Probe.Q34 (x : Probe) : Probe.dec (Probe.enc x) = (x, true) := by
  have h0 : dN (Probe.enc x) Q2u = (x.delay, true) := by unfold dN; rw [Probe.Q1mm]; rfl
  have h1 : dN (Probe.enc x) Q1d = (x.period, true) := by unfold dN; rw [Probe.Qwg]; rfl
  have h2 : dN (Probe.enc x) Q2c = (x.success, true) := by unfold dN; rw [Probe.Q1f2]; rfl
  have h3 : dN (Probe.enc x) Q2i = (x.failure, true) := by unfold dN; rw [Probe.Q1er]; rfl
  unfold Probe.dec
  rw [h0, h1, h2, h3]
  rfl
def Container.enc (x : Container) : Val := vM [.mk Q1f (vS x.image), .mk Q28 (Resources.enc x.limit), .mk Q3e (vL (x.live.map Probe.enc)), .mk Q17 (vS x.name), .mk Q1w (vL (x.ready.map Probe.enc)), .mk Qx (Resources.enc x.request), .mk Q2k (vL (x.startup.map Probe.enc))]
def Container.dec (v : Val) : Container × Bool := (Container.mk (dS v Q17).1 (dS v Q1f).1 (dT Resources.dec v Qx).1 (dT Resources.dec v Q28).1 (dE Probe.dec v Q3e).1 (dE Probe.dec v Q1w).1 (dE Probe.dec v Q2k).1, isM v && (dS v Q1f).2 && (dT Resources.dec v Q28).2 && (dE Probe.dec v Q3e).2 && (dS v Q17).2 && (dE Probe.dec v Q1w).2 && (dT Resources.dec v Qx).2 && (dE Probe.dec v Q2k).2)
def Container.sm (x : Container) : Prop := Resources.sm x.request ∧ Resources.sm x.limit ∧ LSm Probe.sm x.live ∧ LSm Probe.sm x.ready ∧ LSm Probe.sm x.startup ∧ True
theorem Container.Q2l {x : Container} (h : Container.sm x) : Val.Sm sB (Container.enc x) := Q9r (Nat.le_of_ble_eq_true rfl) (List.forall_mem_cons.2 ⟨Val.Sm.leaf 3 _ _, List.forall_mem_cons.2 ⟨Resources.Q2l h.2.1, List.forall_mem_cons.2 ⟨Q3i (fun _ h => Probe.Q2l h) h.2.2.1, List.forall_mem_cons.2 ⟨Val.Sm.leaf 3 _ _, List.forall_mem_cons.2 ⟨Q3i (fun _ h => Probe.Q2l h) h.2.2.2.1, List.forall_mem_cons.2 ⟨Resources.Q2l h.1, List.forall_mem_cons.2 ⟨Q3i (fun _ h => Probe.Q2l h) h.2.2.2.2.1, fun _ h => by cases h⟩⟩⟩⟩⟩⟩⟩)
theorem Container.Q1ew (x : Container) : prt (Container.enc x) Q17 = vS x.name := by kernel_rfl
theorem Container.Q1mo (x : Container) : prt (Container.enc x) Q1f = vS x.image := by kernel_rfl
theorem Container.Q1ey (x : Container) : prt (Container.enc x) Qx = Resources.enc x.request := by kernel_rfl
theorem Container.Q1mp (x : Container) : prt (Container.enc x) Q28 = Resources.enc x.limit := by kernel_rfl
theorem Container.Q1tw (x : Container) : prt (Container.enc x) Q3e = vL (x.live.map Probe.enc) := by kernel_rfl
theorem Container.Q138 (x : Container) : prt (Container.enc x) Q1w = vL (x.ready.map Probe.enc) := by kernel_rfl
theorem Container.Q1f1 (x : Container) : prt (Container.enc x) Q2k = vL (x.startup.map Probe.enc) := by kernel_rfl
theorem Container.Q34 (x : Container) : Container.dec (Container.enc x) = (x, true) := by
  have h0 : dS (Container.enc x) Q17 = (x.name, true) := by unfold dS; rw [Container.Q1ew]; rfl
  have h1 : dS (Container.enc x) Q1f = (x.image, true) := by unfold dS; rw [Container.Q1mo]; rfl
  have h2 : dT Resources.dec (Container.enc x) Qx = (x.request, true) := by unfold dT; rw [Container.Q1ey]; exact Resources.Q34 _
  have h3 : dT Resources.dec (Container.enc x) Q28 = (x.limit, true) := by unfold dT; rw [Container.Q1mp]; exact Resources.Q34 _
  have h4 : dE Probe.dec (Container.enc x) Q3e = (x.live, true) := by unfold dE; rw [Container.Q1tw]; exact Q6w Probe.Q34 _
  have h5 : dE Probe.dec (Container.enc x) Q1w = (x.ready, true) := by unfold dE; rw [Container.Q138]; exact Q6w Probe.Q34 _
  have h6 : dE Probe.dec (Container.enc x) Q2k = (x.startup, true) := by unfold dE; rw [Container.Q1f1]; exact Q6w Probe.Q34 _
  unfold Container.dec
  rw [h0, h1, h2, h3, h4, h5, h6]
  rfl
def NodeTerm.enc (x : NodeTerm) : Val := vM [.mk Qo (vB x.required), .mk Qh (vL (x.selector.map Requirement.enc)), .mk Q1k (vN x.weight)]
def NodeTerm.dec (v : Val) : NodeTerm × Bool := (NodeTerm.mk (dB v Qo).1 (dE Requirement.dec v Qh).1 (dN v Q1k).1, isM v && (dB v Qo).2 && (dE Requirement.dec v Qh).2 && (dN v Q1k).2)
def NodeTerm.sm (x : NodeTerm) : Prop := LSm Requirement.sm x.selector ∧ True
theorem NodeTerm.Q2l {x : NodeTerm} (h : NodeTerm.sm x) : Val.Sm sB (NodeTerm.enc x) := Q9r (Nat.le_of_ble_eq_true rfl) (List.forall_mem_cons.2 ⟨Val.Sm.leaf 1 _ _, List.forall_mem_cons.2 ⟨Q3i (fun _ h => Requirement.Q2l h) h.1, List.forall_mem_cons.2 ⟨Val.Sm.leaf 2 _ _, fun _ h => by cases h⟩⟩⟩)
theorem NodeTerm.Q8r (x : NodeTerm) : prt (NodeTerm.enc x) Qo = vB x.required := by kernel_rfl
theorem NodeTerm.Q6g (x : NodeTerm) : prt (NodeTerm.enc x) Qh = vL (x.selector.map Requirement.enc) := by kernel_rfl
theorem NodeTerm.Qwk (x : NodeTerm) : prt (NodeTerm.enc x) Q1k = vN x.weight := by kernel_rfl
theorem NodeTerm.Q34 (x : NodeTerm) : NodeTerm.dec (NodeTerm.enc x) = (x, true) := by
  have h0 : dB (NodeTerm.enc x) Qo = (x.required, true) := by unfold dB; rw [NodeTerm.Q8r]; exact xB_b _
  have h1 : dE Requirement.dec (NodeTerm.enc x) Qh = (x.selector, true) := by unfold dE; rw [NodeTerm.Q6g]; exact Q6w Requirement.Q34 _
  have h2 : dN (NodeTerm.enc x) Q1k = (x.weight, true) := by unfold dN; rw [NodeTerm.Qwk]; rfl
  unfold NodeTerm.dec
  rw [h0, h1, h2]
  rfl
def PodTerm.enc (x : PodTerm) : Val := vM [.mk Q3a (vB x.anti), .mk Qo (vB x.required), .mk Qh (vL (x.selector.map Requirement.enc)), .mk Qy (vS x.topology), .mk Q1k (vN x.weight)]
def PodTerm.dec (v : Val) : PodTerm × Bool := (PodTerm.mk (dB v Qo).1 (dB v Q3a).1 (dE Requirement.dec v Qh).1 (dS v Qy).1 (dN v Q1k).1, isM v && (dB v Q3a).2 && (dB v Qo).2 && (dE Requirement.dec v Qh).2 && (dS v Qy).2 && (dN v Q1k).2)
def PodTerm.sm (x : PodTerm) : Prop := LSm Requirement.sm x.selector ∧ True
theorem PodTerm.Q2l {x : PodTerm} (h : PodTerm.sm x) : Val.Sm sB (PodTerm.enc x) := Q9r (Nat.le_of_ble_eq_true rfl) (List.forall_mem_cons.2 ⟨Val.Sm.leaf 1 _ _, List.forall_mem_cons.2 ⟨Val.Sm.leaf 1 _ _, List.forall_mem_cons.2 ⟨Q3i (fun _ h => Requirement.Q2l h) h.1, List.forall_mem_cons.2 ⟨Val.Sm.leaf 3 _ _, List.forall_mem_cons.2 ⟨Val.Sm.leaf 2 _ _, fun _ h => by cases h⟩⟩⟩⟩⟩)
theorem PodTerm.Q8r (x : PodTerm) : prt (PodTerm.enc x) Qo = vB x.required := by kernel_rfl
theorem PodTerm.Q1tu (x : PodTerm) : prt (PodTerm.enc x) Q3a = vB x.anti := by kernel_rfl
theorem PodTerm.Q6g (x : PodTerm) : prt (PodTerm.enc x) Qh = vL (x.selector.map Requirement.enc) := by kernel_rfl
theorem PodTerm.Qef (x : PodTerm) : prt (PodTerm.enc x) Qy = vS x.topology := by kernel_rfl
theorem PodTerm.Qwk (x : PodTerm) : prt (PodTerm.enc x) Q1k = vN x.weight := by kernel_rfl
theorem PodTerm.Q34 (x : PodTerm) : PodTerm.dec (PodTerm.enc x) = (x, true) := by
  have h0 : dB (PodTerm.enc x) Qo = (x.required, true) := by unfold dB; rw [PodTerm.Q8r]; exact xB_b _
  have h1 : dB (PodTerm.enc x) Q3a = (x.anti, true) := by unfold dB; rw [PodTerm.Q1tu]; exact xB_b _
  have h2 : dE Requirement.dec (PodTerm.enc x) Qh = (x.selector, true) := by unfold dE; rw [PodTerm.Q6g]; exact Q6w Requirement.Q34 _
  have h3 : dS (PodTerm.enc x) Qy = (x.topology, true) := by unfold dS; rw [PodTerm.Qef]; rfl
  have h4 : dN (PodTerm.enc x) Q1k = (x.weight, true) := by unfold dN; rw [PodTerm.Qwk]; rfl
  unfold PodTerm.dec
  rw [h0, h1, h2, h3, h4]
  rfl
def SpreadRule.enc (x : SpreadRule) : Val := vM [.mk Q25 (vN x.maxSkew), .mk Qo (vB x.required), .mk Qh (vL (x.selector.map Requirement.enc)), .mk Qy (vS x.topology)]
def SpreadRule.dec (v : Val) : SpreadRule × Bool := (SpreadRule.mk (dN v Q25).1 (dS v Qy).1 (dE Requirement.dec v Qh).1 (dB v Qo).1, isM v && (dN v Q25).2 && (dB v Qo).2 && (dE Requirement.dec v Qh).2 && (dS v Qy).2)
def SpreadRule.sm (x : SpreadRule) : Prop := LSm Requirement.sm x.selector ∧ True
theorem SpreadRule.Q2l {x : SpreadRule} (h : SpreadRule.sm x) : Val.Sm sB (SpreadRule.enc x) := Q9r (Nat.le_of_ble_eq_true rfl) (List.forall_mem_cons.2 ⟨Val.Sm.leaf 2 _ _, List.forall_mem_cons.2 ⟨Val.Sm.leaf 1 _ _, List.forall_mem_cons.2 ⟨Q3i (fun _ h => Requirement.Q2l h) h.1, List.forall_mem_cons.2 ⟨Val.Sm.leaf 3 _ _, fun _ h => by cases h⟩⟩⟩⟩)
theorem SpreadRule.Q1eu (x : SpreadRule) : prt (SpreadRule.enc x) Q25 = vN x.maxSkew := by kernel_rfl
theorem SpreadRule.Qef (x : SpreadRule) : prt (SpreadRule.enc x) Qy = vS x.topology := by kernel_rfl
theorem SpreadRule.Q6g (x : SpreadRule) : prt (SpreadRule.enc x) Qh = vL (x.selector.map Requirement.enc) := by kernel_rfl
theorem SpreadRule.Q8r (x : SpreadRule) : prt (SpreadRule.enc x) Qo = vB x.required := by kernel_rfl
theorem SpreadRule.Q34 (x : SpreadRule) : SpreadRule.dec (SpreadRule.enc x) = (x, true) := by
  have h0 : dN (SpreadRule.enc x) Q25 = (x.maxSkew, true) := by unfold dN; rw [SpreadRule.Q1eu]; rfl
  have h1 : dS (SpreadRule.enc x) Qy = (x.topology, true) := by unfold dS; rw [SpreadRule.Qef]; rfl
  have h2 : dE Requirement.dec (SpreadRule.enc x) Qh = (x.selector, true) := by unfold dE; rw [SpreadRule.Q6g]; exact Q6w Requirement.Q34 _
  have h3 : dB (SpreadRule.enc x) Qo = (x.required, true) := by unfold dB; rw [SpreadRule.Q8r]; exact xB_b _
  unfold SpreadRule.dec
  rw [h0, h1, h2, h3]
  rfl
def Toleration.enc (x : Toleration) : Val := vM [.mk Q2r (vN x.effect), .mk Q2m (vB x.exists_), .mk Q1m (vS x.key), .mk Q2j (vN x.seconds), .mk Q1q (vS x.value)]
def Toleration.dec (v : Val) : Toleration × Bool := (Toleration.mk (dS v Q1m).1 (dS v Q1q).1 (dB v Q2m).1 (dN v Q2r).1 (dN v Q2j).1, isM v && (dN v Q2r).2 && (dB v Q2m).2 && (dS v Q1m).2 && (dN v Q2j).2 && (dS v Q1q).2)
def Toleration.sm (_ : Toleration) : Prop := True
theorem Toleration.Q2l {x : Toleration} (_ : Toleration.sm x) : Val.Sm sB (Toleration.enc x) := Q9r (Nat.le_of_ble_eq_true rfl) (List.forall_mem_cons.2 ⟨Val.Sm.leaf 2 _ _, List.forall_mem_cons.2 ⟨Val.Sm.leaf 1 _ _, List.forall_mem_cons.2 ⟨Val.Sm.leaf 3 _ _, List.forall_mem_cons.2 ⟨Val.Sm.leaf 2 _ _, List.forall_mem_cons.2 ⟨Val.Sm.leaf 3 _ _, fun _ h => by cases h⟩⟩⟩⟩⟩)
theorem Toleration.Q1et (x : Toleration) : prt (Toleration.enc x) Q1m = vS x.key := by kernel_rfl
theorem Toleration.Q13a (x : Toleration) : prt (Toleration.enc x) Q1q = vS x.value := by kernel_rfl
theorem Toleration.Q1eq (x : Toleration) : prt (Toleration.enc x) Q2m = vB x.exists_ := by kernel_rfl
theorem Toleration.Q1i7 (x : Toleration) : prt (Toleration.enc x) Q2r = vN x.effect := by kernel_rfl
theorem Toleration.Q1f0 (x : Toleration) : prt (Toleration.enc x) Q2j = vN x.seconds := by kernel_rfl
theorem Toleration.Q34 (x : Toleration) : Toleration.dec (Toleration.enc x) = (x, true) := by
  have h0 : dS (Toleration.enc x) Q1m = (x.key, true) := by unfold dS; rw [Toleration.Q1et]; rfl
  have h1 : dS (Toleration.enc x) Q1q = (x.value, true) := by unfold dS; rw [Toleration.Q13a]; rfl
  have h2 : dB (Toleration.enc x) Q2m = (x.exists_, true) := by unfold dB; rw [Toleration.Q1eq]; exact xB_b _
  have h3 : dN (Toleration.enc x) Q2r = (x.effect, true) := by unfold dN; rw [Toleration.Q1i7]; rfl
  have h4 : dN (Toleration.enc x) Q2j = (x.seconds, true) := by unfold dN; rw [Toleration.Q1f0]; rfl
  unfold Toleration.dec
  rw [h0, h1, h2, h3, h4]
  rfl
def PodSpec.enc (x : PodSpec) : Val := vM [.mk Q1x (vL (x.containers.map Container.enc)), .mk Q38 (vN x.grace), .mk Q3b (vS x.node), .mk Q1t (vL (x.nodeSelector.map Requirement.enc)), .mk Q2f (vL (x.nodeTerms.map NodeTerm.enc)), .mk Q2x (vL (x.podTerms.map PodTerm.enc)), .mk Q1z (vN x.priority), .mk Q2b (vN x.restart), .mk Q3m (vL (x.spread.map SpreadRule.enc)), .mk Q2q (vL (x.tolerations.map Toleration.enc))]
def PodSpec.dec (v : Val) : PodSpec × Bool := (PodSpec.mk (dS v Q3b).1 (dN v Q1z).1 (dN v Q2b).1 (dN v Q38).1 (dE Container.dec v Q1x).1 (dE Requirement.dec v Q1t).1 (dE NodeTerm.dec v Q2f).1 (dE PodTerm.dec v Q2x).1 (dE SpreadRule.dec v Q3m).1 (dE Toleration.dec v Q2q).1, isM v && (dE Container.dec v Q1x).2 && (dN v Q38).2 && (dS v Q3b).2 && (dE Requirement.dec v Q1t).2 && (dE NodeTerm.dec v Q2f).2 && (dE PodTerm.dec v Q2x).2 && (dN v Q1z).2 && (dN v Q2b).2 && (dE SpreadRule.dec v Q3m).2 && (dE Toleration.dec v Q2q).2)
def PodSpec.sm (x : PodSpec) : Prop := LSm Container.sm x.containers ∧ LSm Requirement.sm x.nodeSelector ∧ LSm NodeTerm.sm x.nodeTerms ∧ LSm PodTerm.sm x.podTerms ∧ LSm SpreadRule.sm x.spread ∧ LSm Toleration.sm x.tolerations ∧ True
theorem PodSpec.Q2l {x : PodSpec} (h : PodSpec.sm x) : Val.Sm sB (PodSpec.enc x) := Q9r (Nat.le_of_ble_eq_true rfl) (List.forall_mem_cons.2 ⟨Q3i (fun _ h => Container.Q2l h) h.1, List.forall_mem_cons.2 ⟨Val.Sm.leaf 2 _ _, List.forall_mem_cons.2 ⟨Val.Sm.leaf 3 _ _, List.forall_mem_cons.2 ⟨Q3i (fun _ h => Requirement.Q2l h) h.2.1, List.forall_mem_cons.2 ⟨Q3i (fun _ h => NodeTerm.Q2l h) h.2.2.1, List.forall_mem_cons.2 ⟨Q3i (fun _ h => PodTerm.Q2l h) h.2.2.2.1, List.forall_mem_cons.2 ⟨Val.Sm.leaf 2 _ _, List.forall_mem_cons.2 ⟨Val.Sm.leaf 2 _ _, List.forall_mem_cons.2 ⟨Q3i (fun _ h => SpreadRule.Q2l h) h.2.2.2.2.1, List.forall_mem_cons.2 ⟨Q3i (fun _ h => Toleration.Q2l h) h.2.2.2.2.2.1, fun _ h => by cases h⟩⟩⟩⟩⟩⟩⟩⟩⟩⟩)
theorem PodSpec.Q1tz (x : PodSpec) : prt (PodSpec.enc x) Q3b = vS x.node := by kernel_rfl
theorem PodSpec.Q1a8 (x : PodSpec) : prt (PodSpec.enc x) Q1z = vN x.priority := by kernel_rfl
theorem PodSpec.Q1ez (x : PodSpec) : prt (PodSpec.enc x) Q2b = vN x.restart := by kernel_rfl
theorem PodSpec.Q1mn (x : PodSpec) : prt (PodSpec.enc x) Q38 = vN x.grace := by kernel_rfl
theorem PodSpec.Q11p (x : PodSpec) : prt (PodSpec.enc x) Q1x = vL (x.containers.map Container.enc) := by kernel_rfl
theorem PodSpec.Qok (x : PodSpec) : prt (PodSpec.enc x) Q1t = vL (x.nodeSelector.map Requirement.enc) := by kernel_rfl
theorem PodSpec.Q137 (x : PodSpec) : prt (PodSpec.enc x) Q2f = vL (x.nodeTerms.map NodeTerm.enc) := by kernel_rfl
theorem PodSpec.Q1a7 (x : PodSpec) : prt (PodSpec.enc x) Q2x = vL (x.podTerms.map PodTerm.enc) := by kernel_rfl
theorem PodSpec.Q1id (x : PodSpec) : prt (PodSpec.enc x) Q3m = vL (x.spread.map SpreadRule.enc) := by kernel_rfl
theorem PodSpec.Qwi (x : PodSpec) : prt (PodSpec.enc x) Q2q = vL (x.tolerations.map Toleration.enc) := by kernel_rfl
theorem PodSpec.Q34 (x : PodSpec) : PodSpec.dec (PodSpec.enc x) = (x, true) := by
  have h0 : dS (PodSpec.enc x) Q3b = (x.node, true) := by unfold dS; rw [PodSpec.Q1tz]; rfl
  have h1 : dN (PodSpec.enc x) Q1z = (x.priority, true) := by unfold dN; rw [PodSpec.Q1a8]; rfl
  have h2 : dN (PodSpec.enc x) Q2b = (x.restart, true) := by unfold dN; rw [PodSpec.Q1ez]; rfl
  have h3 : dN (PodSpec.enc x) Q38 = (x.grace, true) := by unfold dN; rw [PodSpec.Q1mn]; rfl
  have h4 : dE Container.dec (PodSpec.enc x) Q1x = (x.containers, true) := by unfold dE; rw [PodSpec.Q11p]; exact Q6w Container.Q34 _
  have h5 : dE Requirement.dec (PodSpec.enc x) Q1t = (x.nodeSelector, true) := by unfold dE; rw [PodSpec.Qok]; exact Q6w Requirement.Q34 _
  have h6 : dE NodeTerm.dec (PodSpec.enc x) Q2f = (x.nodeTerms, true) := by unfold dE; rw [PodSpec.Q137]; exact Q6w NodeTerm.Q34 _
  have h7 : dE PodTerm.dec (PodSpec.enc x) Q2x = (x.podTerms, true) := by unfold dE; rw [PodSpec.Q1a7]; exact Q6w PodTerm.Q34 _
  have h8 : dE SpreadRule.dec (PodSpec.enc x) Q3m = (x.spread, true) := by unfold dE; rw [PodSpec.Q1id]; exact Q6w SpreadRule.Q34 _
  have h9 : dE Toleration.dec (PodSpec.enc x) Q2q = (x.tolerations, true) := by unfold dE; rw [PodSpec.Qwi]; exact Q6w Toleration.Q34 _
  unfold PodSpec.dec
  rw [h0, h1, h2, h3, h4, h5, h6, h7, h8, h9]
  rfl
theorem PodSpec.Qa9 {v : Val} (h : (v.kind == 5) = false) : PodSpec.dec v = ((PodSpec.dec vZ).1, v.kind == 0) := by
  unfold PodSpec.dec
  simp only [dN, dS, dE, Qnx h, Qnk h]
  generalize (v.kind == 0) = b
  cases b <;> rfl
theorem PodSpec.sub1 (x : Val) : (PodSpec.dec (s5 x)).1 = (PodSpec.dec x).1 := (Q157 (f := PodSpec.dec) (fun _ h => PodSpec.Qa9 h) rfl x).1
theorem PodSpec.sub2 (v : Val) (k : BA) : (PodSpec.dec (prt v k)).2 = (isM (prt v k) && (PodSpec.dec (s5 (prt v k))).2) := (Q157 (f := PodSpec.dec) (fun _ h => PodSpec.Qa9 h) rfl _).2
def Template.enc (x : Template) : Val := vM [.mk Q2h (vL (x.labels.map Label.enc)), .mk Q3g (PodSpec.enc x.spec)]
def Template.dec (v : Val) : Template × Bool := (Template.mk (dE Label.dec v Q2h).1 (dT PodSpec.dec v Q3g).1, isM v && (dE Label.dec v Q2h).2 && (dT PodSpec.dec v Q3g).2)
def Template.sm (x : Template) : Prop := LSm Label.sm x.labels ∧ PodSpec.sm x.spec ∧ True
theorem Template.Q2l {x : Template} (h : Template.sm x) : Val.Sm sB (Template.enc x) := Q9r (Nat.le_of_ble_eq_true rfl) (List.forall_mem_cons.2 ⟨Q3i (fun _ h => Label.Q2l h) h.1, List.forall_mem_cons.2 ⟨PodSpec.Q2l h.2.1, fun _ h => by cases h⟩⟩)
theorem Template.Q1i9 (x : Template) : prt (Template.enc x) Q2h = vL (x.labels.map Label.enc) := by kernel_rfl
theorem Template.Q1u0 (x : Template) : prt (Template.enc x) Q3g = PodSpec.enc x.spec := by kernel_rfl
theorem Template.Q34 (x : Template) : Template.dec (Template.enc x) = (x, true) := by
  have h0 : dE Label.dec (Template.enc x) Q2h = (x.labels, true) := by unfold dE; rw [Template.Q1i9]; exact Q6w Label.Q34 _
  have h1 : dT PodSpec.dec (Template.enc x) Q3g = (x.spec, true) := by unfold dT; rw [Template.Q1u0]; exact PodSpec.Q34 _
  unfold Template.dec
  rw [h0, h1]
  rfl
theorem Template.Qa9 {v : Val} (h : (v.kind == 5) = false) : Template.dec v = ((Template.dec vZ).1, v.kind == 0) := by
  unfold Template.dec
  simp only [dE, dT, Qnx h, Qnk h]
  generalize (v.kind == 0) = b
  cases b <;> rfl
def Amount.enc (x : Amount) : Val := vM [.mk kw_n (vN x.n), .mk Q37 (vB x.percent)]
def Amount.dec (v : Val) : Amount × Bool := (Amount.mk (dB v Q37).1 (dN v kw_n).1, isM v && (dN v kw_n).2 && (dB v Q37).2)
def Amount.sm (_ : Amount) : Prop := True
theorem Amount.Q2l {x : Amount} (_ : Amount.sm x) : Val.Sm sB (Amount.enc x) := Q9r (Nat.le_of_ble_eq_true rfl) (List.forall_mem_cons.2 ⟨Val.Sm.leaf 2 _ _, List.forall_mem_cons.2 ⟨Val.Sm.leaf 1 _ _, fun _ h => by cases h⟩⟩)
theorem Amount.Q1ex (x : Amount) : prt (Amount.enc x) Q37 = vB x.percent := by kernel_rfl
theorem Amount.p_n (x : Amount) : prt (Amount.enc x) kw_n = vN x.n := by kernel_rfl
theorem Amount.Q34 (x : Amount) : Amount.dec (Amount.enc x) = (x, true) := by
  have h0 : dB (Amount.enc x) Q37 = (x.percent, true) := by unfold dB; rw [Amount.Q1ex]; exact xB_b _
  have h1 : dN (Amount.enc x) kw_n = (x.n, true) := by unfold dN; rw [Amount.p_n]; rfl
  unfold Amount.dec
  rw [h0, h1]
  rfl
def WorkStatus.enc (x : WorkStatus) : Val := vM [.mk Q2e (vN x.available), .mk Q3k (vB x.failed), .mk Q24 (vN x.observed), .mk Q2y (vN x.progress), .mk Q1w (vN x.ready), .mk Q5 (vN x.replicas), .mk Q2p (vN x.updated)]
def WorkStatus.dec (v : Val) : WorkStatus × Bool := (WorkStatus.mk (dN v Q24).1 (dN v Q5).1 (dN v Q2p).1 (dN v Q1w).1 (dN v Q2e).1 (dN v Q2y).1 (dB v Q3k).1, isM v && (dN v Q2e).2 && (dB v Q3k).2 && (dN v Q24).2 && (dN v Q2y).2 && (dN v Q1w).2 && (dN v Q5).2 && (dN v Q2p).2)
def WorkStatus.sm (_ : WorkStatus) : Prop := True
theorem WorkStatus.Q2l {x : WorkStatus} (_ : WorkStatus.sm x) : Val.Sm sB (WorkStatus.enc x) := Q9r (Nat.le_of_ble_eq_true rfl) (List.forall_mem_cons.2 ⟨Val.Sm.leaf 2 _ _, List.forall_mem_cons.2 ⟨Val.Sm.leaf 1 _ _, List.forall_mem_cons.2 ⟨Val.Sm.leaf 2 _ _, List.forall_mem_cons.2 ⟨Val.Sm.leaf 2 _ _, List.forall_mem_cons.2 ⟨Val.Sm.leaf 2 _ _, List.forall_mem_cons.2 ⟨Val.Sm.leaf 2 _ _, List.forall_mem_cons.2 ⟨Val.Sm.leaf 2 _ _, fun _ h => by cases h⟩⟩⟩⟩⟩⟩⟩)
theorem WorkStatus.Q1a6 (x : WorkStatus) : prt (WorkStatus.enc x) Q24 = vN x.observed := by kernel_rfl
theorem WorkStatus.Q8q (x : WorkStatus) : prt (WorkStatus.enc x) Q5 = vN x.replicas := by kernel_rfl
theorem WorkStatus.Q1f3 (x : WorkStatus) : prt (WorkStatus.enc x) Q2p = vN x.updated := by kernel_rfl
theorem WorkStatus.Q138 (x : WorkStatus) : prt (WorkStatus.enc x) Q1w = vN x.ready := by kernel_rfl
theorem WorkStatus.Q136 (x : WorkStatus) : prt (WorkStatus.enc x) Q2e = vN x.available := by kernel_rfl
theorem WorkStatus.Q1a9 (x : WorkStatus) : prt (WorkStatus.enc x) Q2y = vN x.progress := by kernel_rfl
theorem WorkStatus.Q1i8 (x : WorkStatus) : prt (WorkStatus.enc x) Q3k = vB x.failed := by kernel_rfl
theorem WorkStatus.Q34 (x : WorkStatus) : WorkStatus.dec (WorkStatus.enc x) = (x, true) := by
  have h0 : dN (WorkStatus.enc x) Q24 = (x.observed, true) := by unfold dN; rw [WorkStatus.Q1a6]; rfl
  have h1 : dN (WorkStatus.enc x) Q5 = (x.replicas, true) := by unfold dN; rw [WorkStatus.Q8q]; rfl
  have h2 : dN (WorkStatus.enc x) Q2p = (x.updated, true) := by unfold dN; rw [WorkStatus.Q1f3]; rfl
  have h3 : dN (WorkStatus.enc x) Q1w = (x.ready, true) := by unfold dN; rw [WorkStatus.Q138]; rfl
  have h4 : dN (WorkStatus.enc x) Q2e = (x.available, true) := by unfold dN; rw [WorkStatus.Q136]; rfl
  have h5 : dN (WorkStatus.enc x) Q2y = (x.progress, true) := by unfold dN; rw [WorkStatus.Q1a9]; rfl
  have h6 : dB (WorkStatus.enc x) Q3k = (x.failed, true) := by unfold dB; rw [WorkStatus.Q1i8]; exact xB_b _
  unfold WorkStatus.dec
  rw [h0, h1, h2, h3, h4, h5, h6]
  rfl
def Metric.enc (x : Metric) : Val := vM [.mk Q17 (vS x.name), .mk Qi (vN x.target)]
def Metric.dec (v : Val) : Metric × Bool := (Metric.mk (dS v Q17).1 (dN v Qi).1, isM v && (dS v Q17).2 && (dN v Qi).2)
def Metric.sm (_ : Metric) : Prop := True
theorem Metric.Q2l {x : Metric} (_ : Metric.sm x) : Val.Sm sB (Metric.enc x) := Q9r (Nat.le_of_ble_eq_true rfl) (List.forall_mem_cons.2 ⟨Val.Sm.leaf 3 _ _, List.forall_mem_cons.2 ⟨Val.Sm.leaf 2 _ _, fun _ h => by cases h⟩⟩)
theorem Metric.Q1ew (x : Metric) : prt (Metric.enc x) Q17 = vS x.name := by kernel_rfl
theorem Metric.Qwh (x : Metric) : prt (Metric.enc x) Qi = vN x.target := by kernel_rfl
theorem Metric.Q34 (x : Metric) : Metric.dec (Metric.enc x) = (x, true) := by
  have h0 : dS (Metric.enc x) Q17 = (x.name, true) := by unfold dS; rw [Metric.Q1ew]; rfl
  have h1 : dN (Metric.enc x) Qi = (x.target, true) := by unfold dN; rw [Metric.Qwh]; rfl
  unfold Metric.dec
  rw [h0, h1]
  rfl
def Advice.enc (x : Advice) : Val := vM [.mk Q59 (vN x.at_), .mk Q5 (vN x.replicas)]
def Advice.dec (v : Val) : Advice × Bool := (Advice.mk (dN v Q59).1 (dN v Q5).1, isM v && (dN v Q59).2 && (dN v Q5).2)
def Advice.sm (_ : Advice) : Prop := True
theorem Advice.Q2l {x : Advice} (_ : Advice.sm x) : Val.Sm sB (Advice.enc x) := Q9r (Nat.le_of_ble_eq_true rfl) (List.forall_mem_cons.2 ⟨Val.Sm.leaf 2 _ _, List.forall_mem_cons.2 ⟨Val.Sm.leaf 2 _ _, fun _ h => by cases h⟩⟩)
theorem Advice.Q248 (x : Advice) : prt (Advice.enc x) Q59 = vN x.at_ := by kernel_rfl
theorem Advice.Q8q (x : Advice) : prt (Advice.enc x) Q5 = vN x.replicas := by kernel_rfl
theorem Advice.Q34 (x : Advice) : Advice.dec (Advice.enc x) = (x, true) := by
  have h0 : dN (Advice.enc x) Q59 = (x.at_, true) := by unfold dN; rw [Advice.Q248]; rfl
  have h1 : dN (Advice.enc x) Q5 = (x.replicas, true) := by unfold dN; rw [Advice.Q8q]; rfl
  unfold Advice.dec
  rw [h0, h1]
  rfl
def Q1ge : Template := (Template.mk [] (PodSpec.mk eB 0 0 0 [] [] [] [] [] []))
def Q1av (v : Val) : Template × Int := bif !(Template.dec v).2 then (Q1ge, 6) else ((Template.dec v).1, 0)
def tD (v : Val) (n : BA) : Template × Bool := ((Q1av (prt v n)).1, (Template.dec (prt v n)).2)
def tC (v : Val) (n : BA) : Nat := cM v + (bif (prt v n).kind == 0 then 0 else nb (Template.dec (prt v n)).2)
theorem tC0 (v : Val) (n : BA) : (tC v n == 0) = (isM v && (tD v n).2) := by
  have z : ∀ x : Val, (x.kind == 0) = true → (Template.dec x).2 = true := fun x h => by
    have h5 : (x.kind == 5) = false := by rw [eq_of_beq h]; rfl
    rw [Template.Qa9 h5]
    exact h
  unfold tC tD
  rw [add0, cM0]
  cases h : ((prt v n).kind == 0) with
  | true => rw [z _ h]; rfl
  | false => rw [cond_false, nb0]
theorem Q24z (v : Val) (n : BA) : tC v n ≤ 2 := by
  have a := Qvo 5 v
  have b := Q1i3 (Template.dec (prt v n)).2
  unfold tC cM
  cases ((prt v n).kind == 0) with
  | true => rw [cond_true]; omega
  | false => rw [cond_false]; omega
def Requirement.cnt (v : Val) : Nat := cM v + pK 3 v Q1m + pK 2 v Q4b + pE (cK 3) v Q20
theorem Requirement.cnt0 (v : Val) : (Requirement.cnt v == 0) = (Requirement.dec v).2 := by
  unfold Requirement.cnt Requirement.dec
  simp only [add0, cM0, pS0, pN0, pE0 kS, dN, dS, dE, Bool.and_assoc, Bool.and_left_comm, Bool.and_comm, Bool.and_self_left]
theorem Requirement.Q76 {v : Val} (h : Val.Sm 1000 v) : Requirement.cnt v ≤ 1007 := by
  have g0 := Qvo 5 v
  have g1 := Q5a 3 v Q1m
  have g2 := Q5a 2 v Q4b
  have g3 := Q1i5 (c := (cK 3)) (K := 1) (fun x hx => Qvo _ _) h Q20
  unfold Requirement.cnt cM
  omega
def Amount.cnt (v : Val) : Nat := pK 1 v Q37 + pK 2 v kw_n
theorem Amount.cnt0 (v : Val) : (Amount.cnt v == 0) = (Amount.dec v).2 := by
  unfold Amount.cnt Amount.dec
  simp only [add0, pB0, pN0, dN, dB, Bool.and_assoc, Bool.and_left_comm, Bool.and_comm, Bool.and_self_left]
theorem Amount.Q76 {v : Val} (_ : Val.Sm 1000 v) : Amount.cnt v ≤ 4 := by
  have g0 := Q5a 1 v Q37
  have g1 := Q5a 2 v kw_n
  unfold Amount.cnt
  omega
def WorkStatus.cnt (v : Val) : Nat := pK 2 v Q24 + pK 2 v Q5 + pK 2 v Q2p + pK 2 v Q1w + pK 2 v Q2e + pK 2 v Q2y + pK 1 v Q3k
theorem WorkStatus.cnt0 (v : Val) : (WorkStatus.cnt v == 0) = (WorkStatus.dec v).2 := by
  unfold WorkStatus.cnt WorkStatus.dec
  simp only [add0, pN0, pB0, dN, dB, Bool.and_assoc, Bool.and_left_comm, Bool.and_comm, Bool.and_self_left]
theorem WorkStatus.Q76 {v : Val} (_ : Val.Sm 1000 v) : WorkStatus.cnt v ≤ 14 := by
  have g0 := Q5a 2 v Q24
  have g1 := Q5a 2 v Q5
  have g2 := Q5a 2 v Q2p
  have g3 := Q5a 2 v Q1w
  have g4 := Q5a 2 v Q2e
  have g5 := Q5a 2 v Q2y
  have g6 := Q5a 1 v Q3k
  unfold WorkStatus.cnt
  omega
def Metric.cnt (v : Val) : Nat := pK 3 v Q17 + pK 2 v Qi
theorem Metric.cnt0 (v : Val) : (Metric.cnt v == 0) = (Metric.dec v).2 := by
  unfold Metric.cnt Metric.dec
  simp only [add0, pS0, pN0, dN, dS, Bool.and_assoc, Bool.and_left_comm, Bool.and_comm, Bool.and_self_left]
theorem Metric.Q76 {v : Val} (_ : Val.Sm 1000 v) : Metric.cnt v ≤ 4 := by
  have g0 := Q5a 3 v Q17
  have g1 := Q5a 2 v Qi
  unfold Metric.cnt
  omega
def Advice.cnt (v : Val) : Nat := pK 2 v Q59 + pK 2 v Q5
theorem Advice.cnt0 (v : Val) : (Advice.cnt v == 0) = (Advice.dec v).2 := by
  unfold Advice.cnt Advice.dec
  simp only [add0, pN0, dN, Bool.and_assoc, Bool.and_left_comm, Bool.and_comm, Bool.and_self_left]
theorem Advice.Q76 {v : Val} (_ : Val.Sm 1000 v) : Advice.cnt v ≤ 4 := by
  have g0 := Q5a 2 v Q59
  have g1 := Q5a 2 v Q5
  unfold Advice.cnt
  omega
def Deployment.encS (x : Deployment) : Val := vM [.mk Qf (vN x.deadline), .mk Ql (vN x.history), .mk Qc (vN x.minReady), .mk Qq (vB x.paused), .mk Qm (vB x.recreate), .mk Q5 (vN x.replicas), .mk Qh (vL (x.selector.map Requirement.enc)), .mk Q11 (Amount.enc x.surge), .mk Q1s (Template.enc x.template), .mk Qr (Amount.enc x.unavailable), .mk Q3h (vN x.undo)]
def Deployment.encT (x : Deployment) : Val := WorkStatus.enc x.status
def Deployment.obj (x : Deployment) : Object := ⟨{ x.meta_ with kind := Q7 }, Deployment.encS x, Deployment.encT x⟩
def Deployment.of (o : Object) : Deployment := Deployment.mk o.meta_ (dN o.spec Q5).1 (dN o.spec Qc).1 (dN o.spec Ql).1 (dN o.spec Qf).1 (dE Requirement.dec o.spec Qh).1 (tD o.spec Q1s).1 (dB o.spec Qm).1 (dB o.spec Qq).1 (dT Amount.dec o.spec Q11).1 (dT Amount.dec o.spec Qr).1 (dN o.spec Q3h).1 (WorkStatus.dec o.status).1
def Deployment.ok (o : Object) : Bool := sEq o.meta_.kind Q7 && (isM o.spec && (isM o.status && ((dN o.spec Qf).2 && ((dN o.spec Ql).2 && ((dN o.spec Qc).2 && ((dB o.spec Qq).2 && ((dB o.spec Qm).2 && ((dN o.spec Q5).2 && ((dE Requirement.dec o.spec Qh).2 && ((dT Amount.dec o.spec Q11).2 && ((tD o.spec Q1s).2 && ((dT Amount.dec o.spec Qr).2 && ((dN o.spec Q3h).2 && (WorkStatus.dec o.status).2)))))))))))))
def Deployment.cnt (o : Object) : Nat := nb (sEq o.meta_.kind Q7) + cM o.spec + cM o.status + pK 2 o.spec Q5 + pK 2 o.spec Qc + pK 2 o.spec Ql + pK 2 o.spec Qf + pE Requirement.cnt o.spec Qh + tC o.spec Q1s + pK 1 o.spec Qm + pK 1 o.spec Qq + (cM o.spec + Amount.cnt (prt o.spec Q11)) + (cM o.spec + Amount.cnt (prt o.spec Qr)) + pK 2 o.spec Q3h + WorkStatus.cnt o.status
theorem Deployment.cnt0 (o : Object) : (Deployment.cnt o == 0) = Deployment.ok o := by
  unfold Deployment.cnt Deployment.ok
  simp only [add0, nb0, cM0, pN0, pE0 Requirement.cnt0, tC0, pB0, Amount.cnt0, WorkStatus.cnt0, dN, dB, dE, dT, Bool.and_assoc, Bool.and_left_comm, Bool.and_comm, Bool.and_self_left]
theorem Deployment.Q76 {o : Object} (h : Val.Sm 1000 o.spec ∧ Val.Sm 1000 o.status) : Deployment.cnt o ≤ 1007045 := by
  have g0 := Q1i3 (sEq o.meta_.kind Q7)
  have g1 := Qvo 5 o.spec
  have g2 := Qvo 5 o.status
  have g3 := Q5a 2 o.spec Q5
  have g4 := Q5a 2 o.spec Qc
  have g5 := Q5a 2 o.spec Ql
  have g6 := Q5a 2 o.spec Qf
  have g7 := Q1i5 (c := Requirement.cnt) (K := 1007) (fun x hx => Requirement.Q76 hx) h.1 Qh
  have g8 := Q24z o.spec Q1s
  have g9 := Q5a 1 o.spec Qm
  have g10 := Q5a 1 o.spec Qq
  have g11 := Amount.Q76 (Q3j h.1 Q11)
  have g12 := Amount.Q76 (Q3j h.1 Qr)
  have g13 := Q5a 2 o.spec Q3h
  have g14 := WorkStatus.Q76 h.2
  unfold Deployment.cnt cM
  omega
theorem Deployment.Q8q (x : Deployment) : prt (Deployment.encS x) Q5 = vN x.replicas := by kernel_rfl
theorem Deployment.Q1a5 (x : Deployment) : prt (Deployment.encS x) Qc = vN x.minReady := by kernel_rfl
theorem Deployment.Q1es (x : Deployment) : prt (Deployment.encS x) Ql = vN x.history := by kernel_rfl
theorem Deployment.Q1a3 (x : Deployment) : prt (Deployment.encS x) Qf = vN x.deadline := by kernel_rfl
theorem Deployment.Q6g (x : Deployment) : prt (Deployment.encS x) Qh = vL (x.selector.map Requirement.enc) := by kernel_rfl
theorem Deployment.Q1ab (x : Deployment) : prt (Deployment.encS x) Q1s = Template.enc x.template := by kernel_rfl
theorem Deployment.Q1aa (x : Deployment) : prt (Deployment.encS x) Qm = vB x.recreate := by kernel_rfl
theorem Deployment.Q1ib (x : Deployment) : prt (Deployment.encS x) Qq = vB x.paused := by kernel_rfl
theorem Deployment.Q1mq (x : Deployment) : prt (Deployment.encS x) Q11 = Amount.enc x.surge := by kernel_rfl
theorem Deployment.Qwj (x : Deployment) : prt (Deployment.encS x) Qr = Amount.enc x.unavailable := by kernel_rfl
theorem Deployment.Q1u1 (x : Deployment) : prt (Deployment.encS x) Q3h = vN x.undo := by kernel_rfl
theorem Deployment.back (x : Deployment) : Deployment.of (Deployment.obj x) = Deployment.mk { x.meta_ with kind := Q7 } x.replicas x.minReady x.history x.deadline x.selector x.template x.recreate x.paused x.surge x.unavailable x.undo x.status ∧ Deployment.ok (Deployment.obj x) = true := by
  have h0 : dN (Deployment.encS x) Q5 = (x.replicas, true) := by unfold dN; rw [Deployment.Q8q]; rfl
  have h1 : dN (Deployment.encS x) Qc = (x.minReady, true) := by unfold dN; rw [Deployment.Q1a5]; rfl
  have h2 : dN (Deployment.encS x) Ql = (x.history, true) := by unfold dN; rw [Deployment.Q1es]; rfl
  have h3 : dN (Deployment.encS x) Qf = (x.deadline, true) := by unfold dN; rw [Deployment.Q1a3]; rfl
  have h4 : dE Requirement.dec (Deployment.encS x) Qh = (x.selector, true) := by unfold dE; rw [Deployment.Q6g]; exact Q6w Requirement.Q34 _
  have h5 : tD (Deployment.encS x) Q1s = (x.template, true) := by unfold tD; rw [Deployment.Q1ab]; unfold Q1av; rw [Template.Q34]; rfl
  have h6 : dB (Deployment.encS x) Qm = (x.recreate, true) := by unfold dB; rw [Deployment.Q1aa]; exact xB_b _
  have h7 : dB (Deployment.encS x) Qq = (x.paused, true) := by unfold dB; rw [Deployment.Q1ib]; exact xB_b _
  have h8 : dT Amount.dec (Deployment.encS x) Q11 = (x.surge, true) := by unfold dT; rw [Deployment.Q1mq]; exact Amount.Q34 _
  have h9 : dT Amount.dec (Deployment.encS x) Qr = (x.unavailable, true) := by unfold dT; rw [Deployment.Qwj]; exact Amount.Q34 _
  have h10 : dN (Deployment.encS x) Q3h = (x.undo, true) := by unfold dN; rw [Deployment.Q1u1]; rfl
  have h11 : WorkStatus.dec (Deployment.encT x) = (x.status, true) := WorkStatus.Q34 _
  refine ⟨?_, ?_⟩
  · show Deployment.mk _ (dN (Deployment.encS x) Q5).1 (dN (Deployment.encS x) Qc).1 (dN (Deployment.encS x) Ql).1 (dN (Deployment.encS x) Qf).1 (dE Requirement.dec (Deployment.encS x) Qh).1 (tD (Deployment.encS x) Q1s).1 (dB (Deployment.encS x) Qm).1 (dB (Deployment.encS x) Qq).1 (dT Amount.dec (Deployment.encS x) Q11).1 (dT Amount.dec (Deployment.encS x) Qr).1 (dN (Deployment.encS x) Q3h).1 (WorkStatus.dec (Deployment.encT x)).1 = _
    rw [h0, h1, h2, h3, h4, h5, h6, h7, h8, h9, h10, h11]
    all_goals rfl
  · unfold Deployment.ok
    show (sEq Q7 Q7 && (true && (true && ((dN (Deployment.encS x) Qf).2 && ((dN (Deployment.encS x) Ql).2 && ((dN (Deployment.encS x) Qc).2 && ((dB (Deployment.encS x) Qq).2 && ((dB (Deployment.encS x) Qm).2 && ((dN (Deployment.encS x) Q5).2 && ((dE Requirement.dec (Deployment.encS x) Qh).2 && ((dT Amount.dec (Deployment.encS x) Q11).2 && ((tD (Deployment.encS x) Q1s).2 && ((dT Amount.dec (Deployment.encS x) Qr).2 && ((dN (Deployment.encS x) Q3h).2 && (WorkStatus.dec (Deployment.encT x)).2)))))))))))))) = true
    rw [h0, h1, h2, h3, h4, h5, h6, h7, h8, h9, h10, h11, Q55.2 rfl]
    all_goals rfl
def Deployment.sm (x : Deployment) : Prop := LSm Requirement.sm x.selector ∧ Template.sm x.template ∧ Amount.sm x.surge ∧ Amount.sm x.unavailable ∧ WorkStatus.sm x.status ∧ True
theorem Deployment.Q1el {x : Deployment} (h : Deployment.sm x) : Val.Sm sB (Deployment.encS x) ∧ Val.Sm sB (Deployment.encT x) := ⟨Q9r (Nat.le_of_ble_eq_true rfl) (List.forall_mem_cons.2 ⟨Val.Sm.leaf 2 _ _, List.forall_mem_cons.2 ⟨Val.Sm.leaf 2 _ _, List.forall_mem_cons.2 ⟨Val.Sm.leaf 2 _ _, List.forall_mem_cons.2 ⟨Val.Sm.leaf 1 _ _, List.forall_mem_cons.2 ⟨Val.Sm.leaf 1 _ _, List.forall_mem_cons.2 ⟨Val.Sm.leaf 2 _ _, List.forall_mem_cons.2 ⟨Q3i (fun _ h => Requirement.Q2l h) h.1, List.forall_mem_cons.2 ⟨Amount.Q2l h.2.2.1, List.forall_mem_cons.2 ⟨Template.Q2l h.2.1, List.forall_mem_cons.2 ⟨Amount.Q2l h.2.2.2.1, List.forall_mem_cons.2 ⟨Val.Sm.leaf 2 _ _, fun _ h => by cases h⟩⟩⟩⟩⟩⟩⟩⟩⟩⟩⟩), WorkStatus.Q2l h.2.2.2.2.1⟩
def Deployment.R (o : Object) : Deployment × Int := bif Deployment.ok o then (Deployment.of o, 0) else ((Deployment.mk (Meta.mk eB eB eB 0 0 0 0 false 0 [] [] [] []) 0 0 0 0 [] (Template.mk [] (PodSpec.mk eB 0 0 0 [] [] [] [] [] [])) false false (Amount.mk false 0) (Amount.mk false 0) 0 (WorkStatus.mk 0 0 0 0 0 0 false)), 6)
def Deployment.at (x : Deployment) : Deployment := Deployment.mk { x.meta_ with kind := Q7 } x.replicas x.minReady x.history x.deadline x.selector x.template x.recreate x.paused x.surge x.unavailable x.undo x.status
abbrev Deployment.z : Deployment := (Deployment.mk (Meta.mk eB eB eB 0 0 0 0 false 0 [] [] [] []) 0 0 0 0 [] (Template.mk [] (PodSpec.mk eB 0 0 0 [] [] [] [] [] [])) false false (Amount.mk false 0) (Amount.mk false 0) 0 (WorkStatus.mk 0 0 0 0 0 0 false))
theorem Deployment.R_at (x : Deployment) : Deployment.R (Deployment.obj x) = (Deployment.at x, 0) := by
  unfold Deployment.R
  rw [(Deployment.back x).2, (Deployment.back x).1]
  rfl
theorem Deployment.rc {o : Object} (h : Val.Sm 1000 o.spec ∧ Val.Sm 1000 o.status) : resC (Deployment.cnt o) (Deployment.of o) Deployment.z = Deployment.R o := by
  rw [Q1ff (Nat.le_trans (Deployment.Q76 h) (Nat.le_of_ble_eq_true rfl)), Deployment.cnt0]
  rfl
def Autoscaler.encS (x : Autoscaler) : Val := vM [.mk Q18 (Amount.enc x.downStep), .mk Qb (vN x.downWindow), .mk Q1n (vN x.max_), .mk Qg (vL (x.metrics.map Metric.enc)), .mk Q1j (vN x.min_), .mk Q1d (vN x.period), .mk Qi (vS x.target), .mk Q8 (vS x.targetKind), .mk Qe (vN x.tolerance), .mk Qs (Amount.enc x.upStep), .mk Qn (vN x.upWindow)]
def Autoscaler.encT (x : Autoscaler) : Val := vM [.mk Qp (vL (x.advice.map Advice.enc)), .mk Q31 (vN x.scaled)]
def Autoscaler.obj (x : Autoscaler) : Object := ⟨{ x.meta_ with kind := Q6 }, Autoscaler.encS x, Autoscaler.encT x⟩
def Autoscaler.of (o : Object) : Autoscaler := Autoscaler.mk o.meta_ (dS o.spec Q8).1 (dS o.spec Qi).1 (dN o.spec Q1j).1 (dN o.spec Q1n).1 (dE Metric.dec o.spec Qg).1 (dN o.spec Qe).1 (dN o.spec Qn).1 (dN o.spec Qb).1 (dT Amount.dec o.spec Qs).1 (dT Amount.dec o.spec Q18).1 (dN o.spec Q1d).1 (dE Advice.dec o.status Qp).1 (dN o.status Q31).1
def Autoscaler.ok (o : Object) : Bool := sEq o.meta_.kind Q6 && (isM o.spec && (isM o.status && ((dT Amount.dec o.spec Q18).2 && ((dN o.spec Qb).2 && ((dN o.spec Q1n).2 && ((dE Metric.dec o.spec Qg).2 && ((dN o.spec Q1j).2 && ((dN o.spec Q1d).2 && ((dS o.spec Qi).2 && ((dS o.spec Q8).2 && ((dN o.spec Qe).2 && ((dT Amount.dec o.spec Qs).2 && ((dN o.spec Qn).2 && ((dE Advice.dec o.status Qp).2 && (dN o.status Q31).2))))))))))))))
def Autoscaler.cnt (o : Object) : Nat := nb (sEq o.meta_.kind Q6) + cM o.spec + cM o.status + pK 3 o.spec Q8 + pK 3 o.spec Qi + pK 2 o.spec Q1j + pK 2 o.spec Q1n + pE Metric.cnt o.spec Qg + pK 2 o.spec Qe + pK 2 o.spec Qn + pK 2 o.spec Qb + (cM o.spec + Amount.cnt (prt o.spec Qs)) + (cM o.spec + Amount.cnt (prt o.spec Q18)) + pK 2 o.spec Q1d + pE Advice.cnt o.status Qp + pK 2 o.status Q31
theorem Autoscaler.cnt0 (o : Object) : (Autoscaler.cnt o == 0) = Autoscaler.ok o := by
  unfold Autoscaler.cnt Autoscaler.ok
  simp only [add0, nb0, cM0, pS0, pN0, pE0 Metric.cnt0, Amount.cnt0, pE0 Advice.cnt0, dN, dS, dE, dT, Bool.and_assoc, Bool.and_left_comm, Bool.and_comm, Bool.and_self_left]
theorem Autoscaler.Q76 {o : Object} (h : Val.Sm 1000 o.spec ∧ Val.Sm 1000 o.status) : Autoscaler.cnt o ≤ 8035 := by
  have g0 := Q1i3 (sEq o.meta_.kind Q6)
  have g1 := Qvo 5 o.spec
  have g2 := Qvo 5 o.status
  have g3 := Q5a 3 o.spec Q8
  have g4 := Q5a 3 o.spec Qi
  have g5 := Q5a 2 o.spec Q1j
  have g6 := Q5a 2 o.spec Q1n
  have g7 := Q1i5 (c := Metric.cnt) (K := 4) (fun x hx => Metric.Q76 hx) h.1 Qg
  have g8 := Q5a 2 o.spec Qe
  have g9 := Q5a 2 o.spec Qn
  have g10 := Q5a 2 o.spec Qb
  have g11 := Amount.Q76 (Q3j h.1 Qs)
  have g12 := Amount.Q76 (Q3j h.1 Q18)
  have g13 := Q5a 2 o.spec Q1d
  have g14 := Q1i5 (c := Advice.cnt) (K := 4) (fun x hx => Advice.Q76 hx) h.2 Qp
  have g15 := Q5a 2 o.status Q31
  unfold Autoscaler.cnt cM
  omega
theorem Autoscaler.Q11r (x : Autoscaler) : prt (Autoscaler.encS x) Q8 = vS x.targetKind := by kernel_rfl
theorem Autoscaler.Qwh (x : Autoscaler) : prt (Autoscaler.encS x) Qi = vS x.target := by kernel_rfl
theorem Autoscaler.Q1ty (x : Autoscaler) : prt (Autoscaler.encS x) Q1j = vN x.min_ := by kernel_rfl
theorem Autoscaler.Q1tx (x : Autoscaler) : prt (Autoscaler.encS x) Q1n = vN x.max_ := by kernel_rfl
theorem Autoscaler.Q1ev (x : Autoscaler) : prt (Autoscaler.encS x) Qg = vL (x.metrics.map Metric.enc) := by kernel_rfl
theorem Autoscaler.Q139 (x : Autoscaler) : prt (Autoscaler.encS x) Qe = vN x.tolerance := by kernel_rfl
theorem Autoscaler.Q1ac (x : Autoscaler) : prt (Autoscaler.encS x) Qn = vN x.upWindow := by kernel_rfl
theorem Autoscaler.Q11q (x : Autoscaler) : prt (Autoscaler.encS x) Qb = vN x.downWindow := by kernel_rfl
theorem Autoscaler.Q1ie (x : Autoscaler) : prt (Autoscaler.encS x) Qs = Amount.enc x.upStep := by kernel_rfl
theorem Autoscaler.Q1a4 (x : Autoscaler) : prt (Autoscaler.encS x) Q18 = Amount.enc x.downStep := by kernel_rfl
theorem Autoscaler.Qwg (x : Autoscaler) : prt (Autoscaler.encS x) Q1d = vN x.period := by kernel_rfl
theorem Autoscaler.Q1i6 (x : Autoscaler) : prt (Autoscaler.encT x) Qp = vL (x.advice.map Advice.enc) := by kernel_rfl
theorem Autoscaler.Q1ic (x : Autoscaler) : prt (Autoscaler.encT x) Q31 = vN x.scaled := by kernel_rfl
theorem Autoscaler.back (x : Autoscaler) : Autoscaler.of (Autoscaler.obj x) = Autoscaler.mk { x.meta_ with kind := Q6 } x.targetKind x.target x.min_ x.max_ x.metrics x.tolerance x.upWindow x.downWindow x.upStep x.downStep x.period x.advice x.scaled ∧ Autoscaler.ok (Autoscaler.obj x) = true := by
  have h0 : dS (Autoscaler.encS x) Q8 = (x.targetKind, true) := by unfold dS; rw [Autoscaler.Q11r]; rfl
  have h1 : dS (Autoscaler.encS x) Qi = (x.target, true) := by unfold dS; rw [Autoscaler.Qwh]; rfl
  have h2 : dN (Autoscaler.encS x) Q1j = (x.min_, true) := by unfold dN; rw [Autoscaler.Q1ty]; rfl
  have h3 : dN (Autoscaler.encS x) Q1n = (x.max_, true) := by unfold dN; rw [Autoscaler.Q1tx]; rfl
  have h4 : dE Metric.dec (Autoscaler.encS x) Qg = (x.metrics, true) := by unfold dE; rw [Autoscaler.Q1ev]; exact Q6w Metric.Q34 _
  have h5 : dN (Autoscaler.encS x) Qe = (x.tolerance, true) := by unfold dN; rw [Autoscaler.Q139]; rfl
  have h6 : dN (Autoscaler.encS x) Qn = (x.upWindow, true) := by unfold dN; rw [Autoscaler.Q1ac]; rfl
  have h7 : dN (Autoscaler.encS x) Qb = (x.downWindow, true) := by unfold dN; rw [Autoscaler.Q11q]; rfl
  have h8 : dT Amount.dec (Autoscaler.encS x) Qs = (x.upStep, true) := by unfold dT; rw [Autoscaler.Q1ie]; exact Amount.Q34 _
  have h9 : dT Amount.dec (Autoscaler.encS x) Q18 = (x.downStep, true) := by unfold dT; rw [Autoscaler.Q1a4]; exact Amount.Q34 _
  have h10 : dN (Autoscaler.encS x) Q1d = (x.period, true) := by unfold dN; rw [Autoscaler.Qwg]; rfl
  have h11 : dE Advice.dec (Autoscaler.encT x) Qp = (x.advice, true) := by unfold dE; rw [Autoscaler.Q1i6]; exact Q6w Advice.Q34 _
  have h12 : dN (Autoscaler.encT x) Q31 = (x.scaled, true) := by unfold dN; rw [Autoscaler.Q1ic]; rfl
  refine ⟨?_, ?_⟩
  · show Autoscaler.mk _ (dS (Autoscaler.encS x) Q8).1 (dS (Autoscaler.encS x) Qi).1 (dN (Autoscaler.encS x) Q1j).1 (dN (Autoscaler.encS x) Q1n).1 (dE Metric.dec (Autoscaler.encS x) Qg).1 (dN (Autoscaler.encS x) Qe).1 (dN (Autoscaler.encS x) Qn).1 (dN (Autoscaler.encS x) Qb).1 (dT Amount.dec (Autoscaler.encS x) Qs).1 (dT Amount.dec (Autoscaler.encS x) Q18).1 (dN (Autoscaler.encS x) Q1d).1 (dE Advice.dec (Autoscaler.encT x) Qp).1 (dN (Autoscaler.encT x) Q31).1 = _
    rw [h0, h1, h2, h3, h4, h5, h6, h7, h8, h9, h10, h11, h12]
    all_goals rfl
  · unfold Autoscaler.ok
    show (sEq Q6 Q6 && (true && (true && ((dT Amount.dec (Autoscaler.encS x) Q18).2 && ((dN (Autoscaler.encS x) Qb).2 && ((dN (Autoscaler.encS x) Q1n).2 && ((dE Metric.dec (Autoscaler.encS x) Qg).2 && ((dN (Autoscaler.encS x) Q1j).2 && ((dN (Autoscaler.encS x) Q1d).2 && ((dS (Autoscaler.encS x) Qi).2 && ((dS (Autoscaler.encS x) Q8).2 && ((dN (Autoscaler.encS x) Qe).2 && ((dT Amount.dec (Autoscaler.encS x) Qs).2 && ((dN (Autoscaler.encS x) Qn).2 && ((dE Advice.dec (Autoscaler.encT x) Qp).2 && (dN (Autoscaler.encT x) Q31).2))))))))))))))) = true
    rw [h0, h1, h2, h3, h4, h5, h6, h7, h8, h9, h10, h11, h12, Q55.2 rfl]
    all_goals rfl
def Autoscaler.sm (x : Autoscaler) : Prop := LSm Metric.sm x.metrics ∧ Amount.sm x.upStep ∧ Amount.sm x.downStep ∧ LSm Advice.sm x.advice ∧ True
theorem Autoscaler.Q1el {x : Autoscaler} (h : Autoscaler.sm x) : Val.Sm sB (Autoscaler.encS x) ∧ Val.Sm sB (Autoscaler.encT x) := ⟨Q9r (Nat.le_of_ble_eq_true rfl) (List.forall_mem_cons.2 ⟨Amount.Q2l h.2.2.1, List.forall_mem_cons.2 ⟨Val.Sm.leaf 2 _ _, List.forall_mem_cons.2 ⟨Val.Sm.leaf 2 _ _, List.forall_mem_cons.2 ⟨Q3i (fun _ h => Metric.Q2l h) h.1, List.forall_mem_cons.2 ⟨Val.Sm.leaf 2 _ _, List.forall_mem_cons.2 ⟨Val.Sm.leaf 2 _ _, List.forall_mem_cons.2 ⟨Val.Sm.leaf 3 _ _, List.forall_mem_cons.2 ⟨Val.Sm.leaf 3 _ _, List.forall_mem_cons.2 ⟨Val.Sm.leaf 2 _ _, List.forall_mem_cons.2 ⟨Amount.Q2l h.2.1, List.forall_mem_cons.2 ⟨Val.Sm.leaf 2 _ _, fun _ h => by cases h⟩⟩⟩⟩⟩⟩⟩⟩⟩⟩⟩), Q9r (Nat.le_of_ble_eq_true rfl) (List.forall_mem_cons.2 ⟨Q3i (fun _ h => Advice.Q2l h) h.2.2.2.1, List.forall_mem_cons.2 ⟨Val.Sm.leaf 2 _ _, fun _ h => by cases h⟩⟩)⟩
def Autoscaler.R (o : Object) : Autoscaler × Int := bif Autoscaler.ok o then (Autoscaler.of o, 0) else ((Autoscaler.mk (Meta.mk eB eB eB 0 0 0 0 false 0 [] [] [] []) eB eB 0 0 [] 0 0 0 (Amount.mk false 0) (Amount.mk false 0) 0 [] 0), 6)
def Autoscaler.at (x : Autoscaler) : Autoscaler := Autoscaler.mk { x.meta_ with kind := Q6 } x.targetKind x.target x.min_ x.max_ x.metrics x.tolerance x.upWindow x.downWindow x.upStep x.downStep x.period x.advice x.scaled
abbrev Autoscaler.z : Autoscaler := (Autoscaler.mk (Meta.mk eB eB eB 0 0 0 0 false 0 [] [] [] []) eB eB 0 0 [] 0 0 0 (Amount.mk false 0) (Amount.mk false 0) 0 [] 0)
theorem Autoscaler.R_at (x : Autoscaler) : Autoscaler.R (Autoscaler.obj x) = (Autoscaler.at x, 0) := by
  unfold Autoscaler.R
  rw [(Autoscaler.back x).2, (Autoscaler.back x).1]
  rfl
theorem Autoscaler.rc {o : Object} (h : Val.Sm 1000 o.spec ∧ Val.Sm 1000 o.status) : resC (Autoscaler.cnt o) (Autoscaler.of o) Autoscaler.z = Autoscaler.R o := by
  rw [Q1ff (Nat.le_trans (Autoscaler.Q76 h) (Nat.le_of_ble_eq_true rfl)), Autoscaler.cnt0]
  rfl
def Object.sm (x : Object) : Prop := Val.Sm sB x.spec ∧ Val.Sm sB x.status
theorem Q1fe {α : Type} {n m : Nat} {x y z : α} (h : n = m) (g : x = y) : resC n x z = resC m y z := by rw [h, g]
theorem Qal {p q : List Fld} (hp : p.length ≤ 20) (h : mapOf p = q) : Q51 p = vM q := by rw [vmap hp, h]
theorem getL (x : Val) : (bif x.kind == 4 then x else vZ).list = (xL x).1 := by
  unfold xL
  cases (x.kind == 4) <;> rfl
theorem getN (x : Val) : (bif x.kind == 2 then x else vZ).n = (xN x).1 := by
  unfold xN
  cases (x.kind == 2) <;> rfl
theorem getS (x : Val) : (bif x.kind == 3 then x else vZ).s = (xS x).1 := by
  unfold xS
  cases (x.kind == 3) <;> rfl
theorem getB (x : Val) : (!((bif x.kind == 1 then x else vZ).n == 0)) = (xB x).1 := by
  unfold xB
  cases (x.kind == 1) <;> rfl
end Go.Proofs.YtimjjohlpnkacaaGreat
end

section
/- Metadata that are copied (printed by a program). -/
namespace Go.Proofs.YtimjjohlpnkacaaGreat
open Go.Pv
def Q16a (p0 : Meta) : List Manager → Nat → Unit
 | [], _i0 =>
  ()
 | _x0 :: r0, i0 =>
  Q16a p0 r0 (i0 + 1)
def Qy1 (p0 : Meta) (i0 : Nat) : List PV :=
  [.un, .bx 0 0, .bx 1 0] ++ nuns 19 ++ [.ms 2 2 0 (List.length p0.managers), .int .i64 ((List.length p0.managers) : Int), .int .i64 (i0 : Int)] ++ nuns 14
def Qjf (p0 : Meta) (_i0 : Nat) : List Ob :=
  [⟨13, 0, true, [.str p0.kind, .str p0.namespace_, .str p0.name, .int .i64 p0.uid, .int .i64 p0.version, .int .i64 p0.generation, .int .i64 p0.created, .bool p0.deleting, .int .i64 p0.deleteAt, .sl (Label.rows p0.labels), .sl (Owner.rows p0.owners), .sl (Q10 p0.finalizers), .ms 2 2 0 (List.length p0.managers)]⟩, ⟨13, 0, true, [.str eB, .str eB, .str eB, .int .i64 0, .int .i64 0, .int .i64 0, .int .i64 0, .bool false, .int .i64 0, .ms 3 2 0 0, .ms 4 5 0 0, .ms 5 1 0 0, .ms 6 2 0 0]⟩, ⟨2, 0, true, (Manager.rows p0.managers).flatten⟩, ⟨2, 0, true, []⟩, ⟨5, 0, true, []⟩, ⟨1, 0, true, []⟩, ⟨2, 0, true, []⟩]
def Qg6 (p0 : Meta) (i0 : Nat) : En := .loop 0 Ir.Ql2 Ir.Q1k9 (Qy1 p0 i0) (Qjf p0 i0)
def Qq6 (p0 : Meta) (z : Nat → PV) (_zo : Nat → List PV) : St :=
  ⟨[z 0, .bx 0 0, .bx 1 0] ++ zr z 3 36, [(0, ⟨13, 0, true, [.str p0.kind, .str p0.namespace_, .str p0.name, .int .i64 p0.uid, .int .i64 p0.version, .int .i64 p0.generation, .int .i64 p0.created, .bool p0.deleting, .int .i64 p0.deleteAt, .sl (Label.rows p0.labels), .sl (Owner.rows p0.owners), .sl (Q10 p0.finalizers), .ms 2 2 0 (List.length p0.managers)]⟩), (1, ⟨13, 0, true, [.str eB, .str eB, .str eB, .int .i64 0, .int .i64 0, .int .i64 0, .int .i64 0, .bool false, .int .i64 0, .ms 3 2 0 0, .ms 4 5 0 0, .ms 5 1 0 0, .ms 6 2 0 0]⟩), (2, ⟨2, 0, true, (Manager.rows p0.managers).flatten⟩), (3, ⟨2, 0, true, []⟩), (4, ⟨5, 0, true, []⟩), (5, ⟨1, 0, true, []⟩), (6, ⟨2, 0, true, []⟩)], 71⟩
theorem Q14t (p0 : Meta) (i0 : Nat) : VOK (Go.Pv.look (number 0 (Qjf p0 i0))) [(2, Manager.rows p0.managers)] := (VOK.cons (show Seen _ _ from Q3r (ob := ⟨2, 0, true, (Manager.rows p0.managers).flatten⟩) (Manager.Qk p0.managers 2 rfl)) VOK.nil)
def Qb0 (p0 : Meta) (e : En) (_q : Unit) : Prop := ∃ z zo, Qd G e (.st (.exit 0) (Qq6 p0 z zo))
theorem Quy (p0 : Meta) {e e' : En} (h : ∀ r, Qd G e r → Qd G e' r) : ∀ q, Qb0 p0 e q → Qb0 p0 e' q
  | _, ⟨z, zo, hz⟩ => ⟨z, zo, h _ hz⟩
def Qh5 (p0 : Meta) : Prop := (List.length p0.managers ≤ 4611686018427387904) ∧ (∀ x0 ∈ p0.managers, List.length x0.fields * 16 ≤ 140737488355328) ∧ True
def Qry (p0 : Meta) (i0 : Nat) : List PV :=
  nuns 22 ++ [.ms 2 2 0 (List.length p0.managers), .int .i64 ((List.length p0.managers) : Int), .int .i64 (i0 : Int), .bool false]
def Qmw (_p0 : Meta) (_i0 : Nat) : List (Nat × List PV) :=
  []
theorem Q1c8 (p0 : Meta) (_H : Qh5 p0) (i0 : Nat) (hc0 : (decide ((i0 : Int) < ((List.length p0.managers) : Int))) = false) : Qb0 p0 (Qg6 p0 i0) () := by
 exact ⟨(envF (Qry p0 i0)), (zoF (Qmw p0 i0)), Qv (Q14t p0 i0) (x := ((.exit 0), Qq6 p0 (envF (Qry p0 i0)) (zoF (Qmw p0 i0)))) [hB 0 hc0] [] (by kernel_rfl)⟩
theorem Q19t (p0 : Meta) (H : Qh5 p0) (x0 : Manager) (i0 : Nat) (hx0 : p0.managers[i0]? = some x0) (hi0 : i0 < List.length p0.managers) (hc0 : (decide ((i0 : Int) < ((List.length p0.managers) : Int))) = true) {r : Rs} (hr : Qd G (Qg6 p0 (i0 + 1)) r) : Qd G (Qg6 p0 i0) r := by
 have hB0 := H.1
 exact Qu (Q14t p0 i0) (y := (Qy1 p0 (i0 + 1), Qjf p0 (i0 + 1))) [hB 0 hc0, hP 1 (Q58 2 2 (List.length p0.managers) (i0 : Int) i0 (by omega) (by omega) (by omega)), hP 0 (Qba 2 2 0 true ((Manager.rows p0.managers).flatten) (Manager.rows p0.managers) 2 true i0 0 (i0 * 2) (Manager.cells x0) (.agg [.str x0.name, .sl (Q10 x0.fields)]) rfl rfl (Manager.Qz hx0) (Manager.Q12 p0.managers) (by decide) rfl), hP 9 (Q58 2 2 (List.length p0.managers) (i0 : Int) i0 (by omega) (by omega) (by omega)), hV 1 [(2, Manager.rows p0.managers)] (Q1fv 2 2 true ((Manager.rows p0.managers).flatten) (Manager.rows p0.managers) (Manager.rows p0.managers) 1 i0 1 (i0 * 2 + 1) _ (.sl (Q10 x0.fields)) rfl rfl (Manager.Qz hx0) (Manager.Q12 p0.managers) (by decide) rfl rfl (Q13k (Manager.Qz hx0))), hS 0 true (Manager.Qk p0.managers 2 rfl), hP 0 (Q2s i0 (by omega))] [aN (Q85 (G := G) (f := 177) (sz := 1) (bytes := 16) rfl (Q30 x0.fields) (Q4n x0.fields 1 rfl) (H.2.1 x0 (Q2z hx0)))] (by kernel_rfl) hr
theorem Q11a (p0 : Meta) (H : Qh5 p0) : ∀ (r0 : List Manager) (i0 : Nat), List.drop i0 p0.managers = r0 → Qb0 p0 (Qg6 p0 i0) (Q16a p0 r0 i0)
 | [], i0, hd => by
  have hc0 : (decide ((i0 : Int) < ((List.length p0.managers) : Int))) = false := by have := Q1y hd; simp; omega
  show Qb0 p0 _ ()
  exact Q1c8 p0 H i0 hc0
 | x0 :: r0, i0, hd => by
  obtain ⟨hx0, hi0, hd'⟩ := Q1v hd
  have hc0 : (decide ((i0 : Int) < ((List.length p0.managers) : Int))) = true := by simp; omega
  show Qb0 p0 _ ()
  exact Quy p0 (fun r hr => Q19t p0 H x0 i0 hx0 hi0 hc0 hr) _ (Q11a p0 H r0 (i0 + 1) hd')
def Q1uc (p0 : Meta) : Meta := p0
theorem Q23g (p0 : Meta) : Q1uc p0 = (p0) := by
  rfl
def Q21g (p0 : Meta) : En := .call 70 [.agg (Meta.cells p0)] []
def Q1sf (p0 : Meta) : Rs := .ret (.agg (Meta.cells (Q1uc p0))) []
def Qtq (p0 : Meta) : Prop := (List.length p0.labels * 32 ≤ 140737488355328) ∧ (List.length p0.owners * 48 ≤ 140737488355328) ∧ (List.length p0.finalizers * 16 ≤ 140737488355328) ∧ (List.length p0.managers * 40 ≤ 140737488355328) ∧ (Qh5 p0) ∧ True
theorem Q1n0 (p0 : Meta) (H : Qtq p0) : Qd G (Q21g p0) (Q1sf p0) := by
 unfold Q1sf
 rw [Q23g]
 have hl0 := Q11a p0 (H.2.2.2.2.1) p0.managers 0 (by simp)
 obtain ⟨z0, zo0, hl0⟩ := hl0
 exact Qj (fn := Ir.K5z) rfl VOK.nil [hQ (Manager.Qk p0.managers 2 rfl), hS 0 true (Manager.Qk p0.managers 2 rfl), hQ (Manager.Qa p0.managers).symm] [aN (Q85 (G := G) (f := 175) (sz := 2) (bytes := 32) rfl (Label.Qa p0.labels) (Label.Qk p0.labels 2 rfl) H.1), aN (Q85 (G := G) (f := 176) (sz := 5) (bytes := 48) rfl (Owner.Qa p0.owners) (Owner.Qk p0.owners 5 rfl) H.2.1), aN (Q85 (G := G) (f := 177) (sz := 1) (bytes := 16) rfl (Q30 p0.finalizers) (Q4n p0.finalizers 1 rfl) H.2.2.1), aV [(0, Manager.rows p0.managers)] (Q9l (G := G) (f := 178) (sz := 2) (bytes := 40) rfl (Manager.Qa p0.managers) (Manager.Qk p0.managers 2 rfl) H.2.2.2.1), aV [(2, Manager.rows p0.managers)] hl0] (by kernel_rfl)
end Go.Proofs.YtimjjohlpnkacaaGreat
end

