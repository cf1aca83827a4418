/- Texts of the claim, merged by a program; what the statement does not reach is left out. -/
import Derived.Test.YtimjjohlpnkacaaGreatBWorkcodecJobs3

section
/- Lists of fields: strictly sorted lists are known by their members; keeping the last field of each name of a sorted list; putting a field into a sorted list. -/
namespace Go.Pv
open Srt
theorem Q85 (a : ByteArray) : sCmp a a = 0 := Qzr.2 rfl
theorem Q116 {a b d : ByteArray} (h : sCmp a b < 0) (g : sCmp b d < 0) : sCmp a d < 0 := by
 have t := Q1cl a b d
 have h1 := Qmk a b
 have h2 := Qmk b d
 unfold R3 at h1 h2
 unfold T3 at t
 omega
theorem Q1hn {a b : ByteArray} : sEq a b = false ↔ a ≠ b := by
 cases h : sEq a b with
 | true => simp [Q4o.1 h]
 | false => exact ⟨fun _ e => (by rw [Q4o.2 e] at h; cases h), fun _ => rfl⟩
theorem Qhc (a b : ByteArray) : sCmp a b < 0 ∨ a = b ∨ sCmp b a < 0 := by
  have h1 := Qmk a b
  have h2 := Q7g a b
  have h3 : sCmp a b = 0 → a = b := Qzr.1
  unfold R3 at h1
  by_cases e : sCmp a b = 0
  · exact .inr (.inl (h3 e))
  · omega
theorem Qac {α : Type} (f : α → ByteArray) : Tot (fun x y : α => sCmp (f x) (f y)) := by
  refine ⟨fun x y h => ?_, fun x y w h g => ?_⟩
  · rw [Q7g]
    omega
  · have t := Q1cl (f w) (f y) (f x)
    have h1 := Qmk (f w) (f y)
    have h2 := Qmk (f y) (f x)
    rw [Q7g] at h
    rw [Q7g] at g
    have h3 := Q7g (f w) (f y)
    have h4 := Q7g (f y) (f x)
    have h5 := Q7g (f y) (f w)
    have h6 := Q7g (f x) (f y)
    unfold R3 at h1 h2
    unfold T3 at t
    omega
abbrev nlt (x y : Fld) : Prop := sCmp x.name y.name < 0
def SS (l : List Fld) : Prop := l.Pairwise nlt
theorem SS.cons {x : Fld} {l : List Fld} : SS (x :: l) ↔ (∀ y ∈ l, nlt x y) ∧ SS l := List.pairwise_cons
theorem SS.nil : SS [] := List.Pairwise.nil
theorem Q10w (x : Fld) : ¬ nlt x x := by unfold nlt; rw [Q85]; omega
theorem Q1hp : ∀ {l r : List Fld}, SS l → SS r → (∀ f, f ∈ l ↔ f ∈ r) → l = r
  | [], [], _, _, _ => rfl
  | [], y :: r, _, _, h => by have := (h y).2 List.mem_cons_self; cases this
  | x :: l, [], _, _, h => by have := (h x).1 List.mem_cons_self; cases this
  | x :: l, y :: r, hl, hr, h => by
    obtain ⟨hx, hl'⟩ := SS.cons.1 hl
    obtain ⟨hy, hr'⟩ := SS.cons.1 hr
    have e : x = y := by
      rcases List.mem_cons.1 ((h x).1 List.mem_cons_self) with e | e
      · exact e
      · rcases List.mem_cons.1 ((h y).2 List.mem_cons_self) with e' | e'
        · exact e'.symm
        · exact absurd (Q116 (hx y e') (hy x e)) (Q10w x)
    subst e
    have k1 : ∀ f, f ∈ l → f ∈ r := fun f hf => by
      rcases List.mem_cons.1 ((h f).1 (List.mem_cons_of_mem _ hf)) with e | e
      · subst e; exact absurd (hx _ hf) (Q10w _)
      · exact e
    have k2 : ∀ f, f ∈ r → f ∈ l := fun f hf => by
      rcases List.mem_cons.1 ((h f).2 (List.mem_cons_of_mem _ hf)) with e | e
      · subst e; exact absurd (hy _ hf) (Q10w _)
      · exact e
    rw [Q1hp hl' hr' fun f => ⟨k1 f, k2 f⟩]
theorem SS.filter {l : List Fld} (h : SS l) (p : Fld → Bool) : SS (l.filter p) := h.sublist List.filter_sublist
theorem SS.inj {l : List Fld} (h : SS l) {x y : Fld} (hx : x ∈ l) (hy : y ∈ l) (e : x.name = y.name) : x = y := by
  induction l with
  | nil => cases hx
  | cons z l ih =>
    obtain ⟨hz, hl⟩ := SS.cons.1 h
    rcases List.mem_cons.1 hx with e1 | hx' <;> rcases List.mem_cons.1 hy with e2 | hy'
    · rw [e1, e2]
    · subst e1; have := hz y hy'; unfold nlt at this; rw [e, Q85] at this; omega
    · subst e2; have := hz x hx'; unfold nlt at this; rw [e, Q85] at this; omega
    · exact ih hl hx' hy'
def lastOf (l : List Fld) (f : Fld) : Prop := (l.filter fun y => decide (y.name = f.name)).getLast? = some f
theorem Qdi (f : Fld) : ¬ lastOf [] f := by simp [lastOf]
theorem Qb0 (x f : Fld) (l : List Fld) : lastOf (x :: l) f ↔ lastOf l f ∨ (f = x ∧ ∀ y ∈ l, y.name ≠ x.name) := by
  unfold lastOf
  by_cases h : x.name = f.name
  · rw [List.filter_cons_of_pos (by simpa using h)]
    cases e : l.filter fun y => decide (y.name = f.name) with
    | nil =>
      have := List.filter_eq_nil_iff.1 e
      simp only [List.getLast?_singleton, Option.some.injEq, List.getLast?_nil, reduceCtorEq, false_or]
      exact ⟨fun g => ⟨g.symm, fun y hy => by have := this y hy; rw [h]; simpa using this⟩, fun g => g.1.symm⟩
    | cons a r =>
      rw [List.getLast?_cons_cons]
      refine ⟨.inl, fun g => ?_⟩
      rcases g with g | g
      · exact g
      · have : a ∈ l.filter fun y => decide (y.name = f.name) := by rw [e]; exact List.mem_cons_self
        obtain ⟨h1, h2⟩ := List.mem_filter.1 this
        exact absurd ((of_decide_eq_true h2).trans (by rw [g.1])) (g.2 a h1)
  · rw [List.filter_cons_of_neg (by simpa using h)]
    exact ⟨.inl, fun g => by
      rcases g with g | g
      · exact g
      · exact absurd (by rw [g.1]) h⟩
theorem Q15z {l : List Fld} {f : Fld} (h : lastOf l f) : f ∈ l := (List.mem_filter.1 (List.mem_of_getLast? h)).1
theorem Q1b7 {l : List Fld} (h : SS l) (f : Fld) : lastOf l f ↔ f ∈ l := by
 induction l with
 | nil => exact ⟨fun g => absurd g (Qdi f), fun g => by cases g⟩
 | cons x l ih =>
  obtain ⟨hx, hl⟩ := SS.cons.1 h
  rw [Qb0, ih hl, List.mem_cons]
  exact ⟨fun g => g.elim .inr fun g => .inl g.1, fun g => g.elim (fun g => .inr ⟨g, fun y hy e => by have := hx y hy; unfold nlt at this; rw [e, Q85] at this; omega⟩) .inl⟩
def lasts : List Fld → List Fld
 | [] => []
 | [x] => [x]
 | x :: y :: r => bif sEq y.name x.name then lasts (y :: r) else x :: lasts (y :: r)
abbrev cNm (x y : Fld) : Int := sCmp x.name y.name
theorem Qy7 : ∀ (l : List Fld), Up cNm l → ∀ f, f ∈ lasts l ↔ lastOf l f
  | [], _, f => ⟨fun g => (by cases g), fun g => absurd g (Qdi f)⟩
  | [x], _, f => by
    rw [Qb0]
    simp [lasts, Qdi]
  | x :: y :: r, h, f => by
    have h' := List.pairwise_cons.1 h
    have ih := Qy7 (y :: r) h'.2 f
    rw [lasts, Qb0]
    cases e : sEq y.name x.name with
    | true =>
      rw [cond_true, ih]
      exact ⟨.inl, fun g => g.elim id fun g => absurd (Q4o.1 e) (g.2 y List.mem_cons_self)⟩
    | false =>
      rw [cond_false, List.mem_cons, ih]
      refine ⟨fun g => g.elim (fun g => .inr ⟨g, fun w hw hn => ?_⟩) .inl, fun g => g.elim .inr fun g => .inl g.1⟩
      have e := Q1hn.1 e
      rcases List.mem_cons.1 hw with rfl | hw
      · exact e hn
      · have h1 := (List.pairwise_cons.1 h'.2).1 w hw
        have h2 := h'.1 y List.mem_cons_self
        unfold le cNm at h1 h2
        rw [hn] at h1
        rcases Qhc x.name y.name with g | g | g
        · exact h1 g
        · exact e g.symm
        · exact h2 g
theorem Qck : ∀ (l : List Fld), (lasts l).Sublist l
 | [] => List.Sublist.slnil
 | [x] => List.Sublist.refl _
 | x :: y :: r => by
  rw [lasts]
  cases sEq y.name x.name with
  | true => exact (Qck (y :: r)).cons x
  | false => exact (Qck (y :: r)).cons_cons x
theorem Q1f0 (l : List Fld) (h : Up cNm l) : SS (lasts l) := by
  induction l with
  | nil => exact SS.nil
  | cons x l ih =>
    cases l with
    | nil => exact SS.cons.2 ⟨fun _ g => (by cases g), SS.nil⟩
    | cons y r =>
      have h' := List.pairwise_cons.1 h
      rw [lasts]
      cases e : sEq y.name x.name with
      | true => exact ih h'.2
      | false =>
        rw [cond_false]
        refine SS.cons.2 ⟨fun w hw => ?_, ih h'.2⟩
        have e := Q1hn.1 e
        have h2 := h'.1 y List.mem_cons_self
        unfold le cNm at h2
        have hxy : sCmp x.name y.name < 0 := by
          rcases Qhc x.name y.name with g | g | g
          · exact g
          · exact absurd g.symm e
          · exact absurd g h2
        rcases List.mem_cons.1 ((Qck _).mem hw) with rfl | hw
        · exact hxy
        · have h1 := (List.pairwise_cons.1 h'.2).1 w hw
          unfold le cNm at h1
          unfold nlt
          rcases Qhc y.name w.name with g | g | g
          · exact Q116 hxy g
          · rw [← g]; exact hxy
          · exact absurd g h1
theorem Q1qc (x y : Fld) : Srt.eqv cNm x y = decide (y.name = x.name) := by
  unfold Srt.eqv cNm
  have h1 : (y.name = x.name) ↔ (¬ sCmp x.name y.name < 0 ∧ ¬ sCmp y.name x.name < 0) := by
    constructor
    · intro e; rw [e, Q85]; omega
    · intro ⟨g1, g2⟩
      rcases Qhc x.name y.name with g | g | g
      · exact absurd g g1
      · exact g.symm
      · exact absurd g g2
  rw [← Bool.decide_and]
  exact decide_eq_decide.2 h1.symm
theorem Q1ez {l r : List Fld} (h : F cNm l r) (f : Fld) : lastOf l f ↔ lastOf r f := by
 have := h.2 f
 unfold lastOf
 rw [show (fun y : Fld => decide (y.name = f.name)) = Srt.eqv cNm f from funext fun y => (Q1qc f y).symm, this]
def mapOf (l : List Fld) : List Fld := lasts (Qdd cNm l)
theorem Q1f2 (l : List Fld) : SS (mapOf l) := Q1f0 _ (Q13n (Qac Fld.name) l)
theorem Qze (l : List Fld) (f : Fld) : f ∈ mapOf l ↔ lastOf l f := by
 unfold mapOf
 rw [Qy7 _ (Q13n (Qac Fld.name) l)]
 exact (Q1ez (Q1b5 (Qac Fld.name) l) f).symm
theorem Q10v {l : List Fld} (h : SS l) : mapOf l = l := Q1hp (Q1f2 l) h fun f => by rw [Qze, Q1b7 h]
theorem Qlz {α : Type} (c : α → α → Int) (T : Tot c) (l : List α) : (Qdd c l).length = l.length := (Q1b5 T l).1.symm
theorem Q1bf (l : List Fld) : (mapOf l).length ≤ l.length := Nat.le_trans (Qck _).length_le (Nat.le_of_eq (Qlz _ (Qac Fld.name) l))
theorem Q1bh {l : List Fld} {f : Fld} (h : f ∈ mapOf l) : f ∈ l := Q15z ((Qze l f).1 h)
end Go.Pv
end

section
/- How many values a value holds; what that bounds. -/
namespace Go.Pv
open Srt
end Go.Pv
end

section
/- Structures as values: the parts of a map, their kinds; what decodes what was encoded. No program is in sight here. -/
namespace Go.Pv
abbrev vZ : Val := .mk 0 0 (⟨#[]⟩ : ByteArray) [] []
abbrev vN (n : Int) : Val := .mk 2 n (⟨#[]⟩ : ByteArray) [] []
abbrev vS (s : ByteArray) : Val := .mk 3 0 s [] []
abbrev vB (b : Bool) : Val := .mk 1 (bif b then 1 else 0) (⟨#[]⟩ : ByteArray) [] []
abbrev vL (l : List Val) : Val := .mk 4 0 (⟨#[]⟩ : ByteArray) l []
abbrev vM (l : List Fld) : Val := .mk 5 0 (⟨#[]⟩ : ByteArray) [] l
def Q162 (n : ByteArray) : List Fld → Val
 | [] => vZ
 | x :: r => bif sEq x.name n then x.v else Q162 n r
def prt (v : Val) (n : ByteArray) : Val := bif v.kind == 5 then Q162 n v.fields else vZ
def isM (v : Val) : Bool := v.kind == 5 || v.kind == 0
def xN (x : Val) : Int × Bool := bif x.kind == 2 then (x.n, true) else (0, x.kind == 0)
def xS (x : Val) : ByteArray × Bool := bif x.kind == 3 then (x.s, true) else ((⟨#[]⟩ : ByteArray), x.kind == 0)
def xB (x : Val) : Bool × Bool := bif x.kind == 1 then (!(x.n == 0), true) else (false, x.kind == 0)
def xL (x : Val) : List Val × Bool := bif x.kind == 4 then (x.list, true) else ([], x.kind == 0)
def xE {α : Type} (f : Val → α × Bool) (x : Val) : List α × Bool := ((xL x).1.map fun y => (f y).1, (xL x).2 && (xL x).1.all fun y => (f y).2)
abbrev dN (v : Val) (n : ByteArray) : Int × Bool := xN (prt v n)
abbrev dS (v : Val) (n : ByteArray) : ByteArray × Bool := xS (prt v n)
abbrev dB (v : Val) (n : ByteArray) : Bool × Bool := xB (prt v n)
abbrev dL (v : Val) (n : ByteArray) : List Val × Bool := xL (prt v n)
abbrev dE {α : Type} (f : Val → α × Bool) (v : Val) (n : ByteArray) : List α × Bool := xE f (prt v n)
abbrev dT {α : Type} (f : Val → α × Bool) (v : Val) (n : ByteArray) : α × Bool := f (prt v n)
theorem Qme {v : Val} (h : (v.kind == 5) = false) (n : ByteArray) : prt v n = vZ := by unfold prt; rw [h]; rfl
theorem Q1b4 {v : Val} (h : (v.kind == 5) = true) : isM v = true := by unfold isM; rw [h]; rfl
theorem Qly {v : Val} (h : (v.kind == 5) = false) : isM v = (v.kind == 0) := by unfold isM; rw [h]; rfl
theorem xB_b (b : Bool) : xB (vB b) = (b, true) := by cases b <;> rfl
theorem Q77 {α : Type} {f : Val → α × Bool} {e : α → Val} (h : ∀ y, f (e y) = (y, true)) (l : List α) : xE f (vL (l.map e)) = (l, true) := by
 have h1 : ∀ l : List α, (l.map e).map (fun y => (f y).1) = l := by
  intro l
  induction l with
  | nil => rfl
  | cons y l ih => rw [List.map_cons, List.map_cons, ih, h y]
 have h2 : ∀ l : List α, ((l.map e).all fun y => (f y).2) = true := by
  intro l
  induction l with
  | nil => rfl
  | cons y l ih => rw [List.map_cons, List.all_cons, ih, h y]; rfl
 show ((l.map e).map (fun y => (f y).1), true && (l.map e).all fun y => (f y).2) = _
 rw [h1, h2]
 rfl
abbrev sB : Nat := 1000000000
theorem Q1ra : Val.Sm sB vZ := Val.Sm.leaf 0 0 _
theorem Q211 {l : List Val} (h : l.length ≤ sB) (g : ∀ x ∈ l, Val.Sm sB x) : Val.Sm sB (vL l) := .mk _ h (Nat.zero_le _) g (fun _ h => by cases h)
theorem Qah {l : List Fld} (h : l.length ≤ sB) (g : ∀ x ∈ l, Val.Sm sB x.v) : Val.Sm sB (vM l) := .mk _ (Nat.zero_le _) h (fun _ h => by cases h) g
theorem Q1cy {B : Nat} (n : ByteArray) : ∀ {l : List Fld}, (∀ x ∈ l, Val.Sm B x.v) → Val.Sm B (Q162 n l)
 | [], _ => Val.Sm.leaf 0 0 _
 | x :: l, h => by
  unfold Q162
  cases sEq x.name n with
  | true => exact h x List.mem_cons_self
  | false => exact Q1cy n fun y hy => h y (List.mem_cons_of_mem _ hy)
theorem Q3t {B : Nat} {v : Val} (h : Val.Sm B v) (n : ByteArray) : Val.Sm B (prt v n) := by
 unfold prt
 cases v.kind == 5 with
 | true => exact Q1cy n h.all.2.2.2
 | false => exact Val.Sm.leaf 0 0 _
def LSm {α : Type} (p : α → Prop) (l : List α) : Prop := l.length ≤ sB ∧ ∀ x ∈ l, p x
theorem LSm.leaf {α : Type} {l : List α} (h : l.length ≤ sB) : LSm (fun _ => True) l := ⟨h, fun _ _ => trivial⟩
theorem LSm.nil {α : Type} {p : α → Prop} : LSm p [] := ⟨Nat.zero_le _, fun _ h => by cases h⟩
theorem Qn5 {x : Val} (h : Val.Sm sB x) : (xL x).1.length ≤ sB ∧ ∀ y ∈ (xL x).1, Val.Sm sB y := by
 unfold xL
 cases x.kind == 4 with
 | true => exact ⟨h.all.1, h.all.2.2.1⟩
 | false => exact ⟨Nat.zero_le _, fun _ h => by cases h⟩
theorem Q3d {α : Type} {e : α → Val} {p : α → Prop} (he : ∀ x, p x → Val.Sm sB (e x)) {l : List α} (h : LSm p l) : Val.Sm sB (vL (l.map e)) :=
 Q211 (by rw [List.length_map]; exact h.1) fun z hz => by
  obtain ⟨x, hx, rfl⟩ := List.mem_map.1 hz
  exact he x (h.2 x hx)
def ssb : List Fld → Bool
 | [] => true
 | [_] => true
 | x :: y :: r => decide (sCmp x.name y.name < 0) && ssb (y :: r)
theorem Q1hq : ∀ {l : List Fld}, ssb l = true → SS l
  | [], _ => SS.nil
  | [x], _ => SS.cons.2 ⟨(fun _ h => by cases h), SS.nil⟩
  | x :: y :: r, h => by
    unfold ssb at h
    rw [Bool.and_eq_true] at h
    have h1 := of_decide_eq_true h.1
    have h2 := Q1hq h.2
    refine SS.cons.2 ⟨fun z hz => ?_, h2⟩
    rcases List.mem_cons.1 hz with rfl | hz
    · exact h1
    · exact Q116 h1 ((SS.cons.1 h2).1 z hz)
theorem Q1bg {l : List Fld} (h : ssb l = true) : mapOf l = l := Q10v (Q1hq h)
def s5 (x : Val) : Val := bif x.kind == 5 then x else vZ
theorem Qmm {x : Val} (h : Val.Sm sB x) : Val.Sm sB (s5 x) := by
 unfold s5
 cases x.kind == 5 with
 | true => exact h
 | false => exact Q1ra
theorem Q12z {α : Type} {f : Val → α × Bool} (hn : ∀ v, (v.kind == 5) = false → f v = ((f vZ).1, v.kind == 0)) (hz : (f vZ).2 = true) (x : Val) : (f (s5 x)).1 = (f x).1 ∧ (f x).2 = (isM x && (f (s5 x)).2) := by
 unfold s5
 cases h : x.kind == 5 with
 | true => exact ⟨rfl, by rw [Q1b4 h, cond_true, Bool.true_and]⟩
 | false => rw [hn x h, cond_false, Qly h, hz]; exact ⟨rfl, by rw [Bool.and_true]⟩
end Go.Pv
end

section
/- Decoders that count what is of a wrong kind: counters, and when they stay. No program is in sight here. -/
namespace Go.Pv
def bw (w : Int) (n : Nat) : Int := bif n == 0 then w else w64 (w + (n : Int))
theorem Q1n9 (x y : Int) : w64 (w64 x + y) = w64 (x + y) := by
 unfold w64 IntKind.wrap
 simp [IntKind.signed, IntKind.bits]
 omega
theorem Q1is (w : Int) (a b : Nat) : bw (bw w a) b = bw w (a + b) := by
 unfold bw
 cases ha : (a == 0) with
 | true =>
  have := eq_of_beq ha
  subst this
  rw [Nat.zero_add]
  rfl
 | false =>
  have ha' := beq_eq_false_iff_ne.1 ha
  cases hb : (b == 0) with
  | true =>
   have := eq_of_beq hb
   subst this
   rw [Nat.add_zero, ha]
   rfl
  | false =>
   rw [show (a + b == 0) = false from beq_eq_false_iff_ne.2 (by omega), cond_false, cond_false, cond_false, Q1n9]
   congr 1
   omega
theorem Q1q8 {n : Nat} (h : n ≤ 4611686018427387904) : decide (0 < bw 0 n) = !(n == 0) := by
 unfold bw
 cases hn : (n == 0) with
 | true => rfl
 | false =>
  have := beq_eq_false_iff_ne.1 hn
  rw [cond_false, Q103 (by omega)]
  simp
  omega
def nb (b : Bool) : Nat := bif b then 0 else 1
theorem nb0 (b : Bool) : (nb b == 0) = b := by cases b <;> rfl
theorem Q1f5 (b : Bool) : nb b ≤ 1 := by cases b <;> exact Nat.le_of_ble_eq_true rfl
theorem add0 (a b : Nat) : (a + b == 0) = (a == 0 && b == 0) := by
 cases a with
 | zero => rw [Nat.zero_add]; rfl
 | succ a => rw [show (a + 1 + b == 0) = false from beq_eq_false_iff_ne.2 (by omega)]; rfl
def cK (k : Int) (x : Val) : Nat := nb (x.kind == k || x.kind == 0)
def cM (v : Val) : Nat := cK 5 v
theorem cM0 (v : Val) : (cM v == 0) = isM v := nb0 _
def pK (k : Int) (v : Val) (n : ByteArray) : Nat := cM v + cK k (prt v n)
theorem kN (x : Val) : (cK 2 x == 0) = (xN x).2 := by unfold cK xN; rw [nb0]; cases (x.kind == 2) <;> rfl
theorem kS (x : Val) : (cK 3 x == 0) = (xS x).2 := by unfold cK xS; rw [nb0]; cases (x.kind == 3) <;> rfl
theorem kB (x : Val) : (cK 1 x == 0) = (xB x).2 := by unfold cK xB; rw [nb0]; cases (x.kind == 1) <;> rfl
theorem kL (x : Val) : (cK 4 x == 0) = (xL x).2 := by unfold cK xL; rw [nb0]; cases (x.kind == 4) <;> rfl
theorem pN0 (v : Val) (n : ByteArray) : (pK 2 v n == 0) = (isM v && (dN v n).2) := by unfold pK; rw [add0, cM0, kN]
theorem pS0 (v : Val) (n : ByteArray) : (pK 3 v n == 0) = (isM v && (dS v n).2) := by unfold pK; rw [add0, cM0, kS]
theorem pB0 (v : Val) (n : ByteArray) : (pK 1 v n == 0) = (isM v && (dB v n).2) := by unfold pK; rw [add0, cM0, kB]
theorem Qtu (k : Int) (x : Val) : cK k x ≤ 1 := Q1f5 _
theorem Q6i (k : Int) (v : Val) (n : ByteArray) : pK k v n ≤ 2 := by have := Qtu 5 v; have := Qtu k (prt v n); unfold pK cM; omega
def sumC (c : Val → Nat) : List Val → Nat
 | [] => 0
 | x :: r => c x + sumC c r
theorem Q1rb {c : Val → Nat} {p : Val → Bool} (h : ∀ x, (c x == 0) = p x) : ∀ l : List Val, (sumC c l == 0) = l.all p
 | [] => rfl
 | x :: l => by rw [sumC, add0, h, Q1rb h l, List.all_cons]
theorem Q1d0 {c : Val → Nat} {K B : Nat} {P : Val → Prop} (hc : ∀ x, P x → c x ≤ K) : ∀ {l : List Val}, (∀ x ∈ l, P x) → l.length ≤ B → sumC c l ≤ B * K
 | [], _, _ => Nat.zero_le _
 | x :: l, h, hl => by
  cases B with
  | zero => simp at hl
  | succ B =>
   have h1 := hc x (h x List.mem_cons_self)
   have h2 := Q1d0 (B := B) hc (fun y hy => h y (List.mem_cons_of_mem _ hy)) (by simp at hl; omega)
   rw [sumC, Nat.succ_mul]
   omega
def pE (c : Val → Nat) (v : Val) (n : ByteArray) : Nat := pK 4 v n + sumC c (dL v n).1
theorem pE0 {α : Type} {f : Val → α × Bool} {c : Val → Nat} (h : ∀ x, (c x == 0) = (f x).2) (v : Val) (n : ByteArray) : (pE c v n == 0) = (isM v && (dE f v n).2) := by
 unfold pE pK
 rw [add0, add0, cM0, kL, Q1rb h, Bool.and_assoc]
 rfl
theorem Q1sy {B : Nat} {x : Val} (h : Val.Sm B x) : (xL x).1.length ≤ B ∧ ∀ y ∈ (xL x).1, Val.Sm B y := by
 unfold xL
 cases x.kind == 4 with
 | true => exact ⟨h.all.1, h.all.2.2.1⟩
 | false => exact ⟨Nat.zero_le _, fun _ h => by cases h⟩
theorem Q1zv {c : Val → Nat} {B K : Nat} (hc : ∀ x, Val.Sm B x → c x ≤ K) {v : Val} (h : Val.Sm B v) (n : ByteArray) : pE c v n ≤ 2 + B * K := by
 have hx := Q1sy (Q3t h n)
 have h1 := Q1d0 hc hx.2 hx.1
 have h2 := Q6i 4 v n
 change pK 4 v n + sumC c (xL (prt v n)).1 ≤ _
 omega
theorem Q1cm (s : ByteArray) : sLt s s = false := by rw [Q1jc, Q85]; rfl
theorem and_tt {a b : Bool} (h : a = true) (k : b = true) : (a && b) = true := by rw [h, k]; rfl
theorem Q1qq {a b : Bool} (h : b = true) : (a || b) = true := by rw [h, Bool.or_true]
theorem Q45 {α : Type} {G : Nat → Option Fun} {c : α → En} {r : Rs} {x y : α} (h : x = y) (t : Q5 G (c x) r) : Q5 G (c y) r := h ▸ t
def resC {α : Type} (n : Nat) (x z : α) : α × Int := bif decide (0 < bw 0 n) then (z, 6) else (x, 0)
theorem Q1cj {α : Type} {n : Nat} (h : n ≤ 4611686018427387904) (x z : α) : resC n x z = bif n == 0 then (x, 0) else (z, 6) := by
 unfold resC
 rw [Q1q8 h]
 cases (n == 0) <;> rfl
end Go.Pv
end

section
/- Small values; equality of what is the same (printed by a program). -/
namespace Go.Proofs.YtimjjohlpnkacaaGreat
open Go.Pv
abbrev G : Nat → Option Fun := tabG Ir.table
abbrev Γ : Nat → Option Ty := gam 51
abbrev BA : Type := ByteArray
theorem Q1fx (a b : BA) : Q5 G (.call 221 [.str a, .str b] []) (.ret (.int .i64 (sCmp a b)) []) := ⟨1, by kernel_rfl⟩
inductive Qto where
  | k0 (q0 : Int)
  | k1
mutual
def Q8v (p0 : Val) (p1 : Int) (p2 : Int) : Int :=
 bif (decide (p1 ≤ 0)) then
  (-1)
 else
  bif (decide (p2 ≤ 0)) then
   (-1)
  else
   bif (decide (1000 < (ByteArray.size p0.s : Int))) then
    (-1)
   else
    (match (Q3z p0 p2 p0.fields 0 (Q3n p0 p2 p0.list 0 (w64 (p1 - 1)))) with
    | .k0 y4_0 => y4_0
    | .k1 => (-1))
termination_by SizeOf.sizeOf p0
decreasing_by all_goals first | exact Val.Q10u _ | exact Val.Qm6 _
def Q3n (p0 : Val) (p2 : Int) : List Val → Nat → Int → Int
 | [], _i0, v0_1 =>
  v0_1
 | x0 :: r0, i0, v0_1 =>
  bif (decide (0 ≤ v0_1)) then
   Q3n p0 p2 r0 (i0 + 1) (Q8v x0 v0_1 (w64 (p2 - 1)))
  else
   v0_1
termination_by l => SizeOf.sizeOf l
decreasing_by all_goals first | exact Q10t _ _ | exact Q1be _ _ | exact Q14c _ _
def Q3z (p0 : Val) (p2 : Int) : List Fld → Nat → Int → Qto
 | [], _i1, v1_1 =>
  (.k0 v1_1)
 | x1 :: r1, i1, v1_1 =>
  bif (decide (0 ≤ v1_1)) then
   bif (decide (1000 < (ByteArray.size x1.name : Int))) then
    (.k1)
   else
    Q3z p0 p2 r1 (i1 + 1) (Q8v x1.v v1_1 (w64 (p2 - 1)))
  else
   (.k0 v1_1)
termination_by l => SizeOf.sizeOf l
decreasing_by all_goals first | exact Q10t _ _ | exact Q1be _ _ | exact Q14c _ _
end
def Qvk (_p0 : Val) (p2 : Int) (i0 : Nat) (v0_1 : Int) : List PV :=
  [.un, .int .i64 v0_1, .int .i64 p2, .bx 0 0, .un, .un, .un, .int .i64 (i0 : Int)] ++ nuns 65
def Qwd (p0 : Val) (_p2 : Int) (_i0 : Nat) (_v0_1 : Int) : List Ob :=
  [⟨5, 0, true, [.int .i64 p0.kind, .int .i64 p0.n, .str p0.s, .sl (Val.rows p0.list), .sl (Fld.rows p0.fields)]⟩]
def Qbj (p0 : Val) (p2 : Int) (i0 : Nat) (v0_1 : Int) : En := .loop 0 Ir.Qiz Ir.Q1gf (Qvk p0 p2 i0 v0_1) (Qwd p0 p2 i0 v0_1)
def Qd8 (p0 : Val) (p2 : Int) (q0 : Int) (z : Nat → PV) (_zo : Nat → List PV) : St :=
  ⟨[z 0, .int .i64 q0, .int .i64 p2, .bx 0 0] ++ zr z 4 69, [(0, ⟨5, 0, true, [.int .i64 p0.kind, .int .i64 p0.n, .str p0.s, .sl (Val.rows p0.list), .sl (Fld.rows p0.fields)]⟩)], 577⟩
def Qbv (p0 : Val) (p2 : Int) (e : En) (q : Int) : Prop := ∃ z zo, Q5 G e (.st (.exit 0) (Qd8 p0 p2 q z zo))
theorem Qso (p0 : Val) (p2 : Int) {e e' : En} (h : ∀ r, Q5 G e r → Q5 G e' r) : ∀ q, Qbv p0 p2 e q → Qbv p0 p2 e' q
  | _, ⟨z, zo, hz⟩ => ⟨z, zo, h _ hz⟩
def Qvl (_p0 : Val) (p2 : Int) (i1 : Nat) (v1_1 : Int) : List PV :=
  [.un, .int .i64 v1_1, .int .i64 p2, .bx 0 0, .un, .un, .un, .un, .int .i64 (i1 : Int)] ++ nuns 64
def Qwe (p0 : Val) (_p2 : Int) (_i1 : Nat) (_v1_1 : Int) : List Ob :=
  [⟨5, 0, true, [.int .i64 p0.kind, .int .i64 p0.n, .str p0.s, .sl (Val.rows p0.list), .sl (Fld.rows p0.fields)]⟩]
def Q9p (p0 : Val) (p2 : Int) (i1 : Nat) (v1_1 : Int) : En := .loop 0 Ir.Qj0 Ir.Q1gg (Qvl p0 p2 i1 v1_1) (Qwe p0 p2 i1 v1_1)
def Qd9 (p0 : Val) (_p2 : Int) (q0 : Int) (z : Nat → PV) (_zo : Nat → List PV) : St :=
  ⟨[z 0, .int .i64 q0] ++ zr z 2 71, [(0, ⟨5, 0, true, [.int .i64 p0.kind, .int .i64 p0.n, .str p0.s, .sl (Val.rows p0.list), .sl (Fld.rows p0.fields)]⟩)], 577⟩
def Qo1 (_p0 : Val) (_p2 : Int) (z : Nat → PV) (zo : Nat → List PV) : St :=
  ⟨zr z 0 6 ++ [.int .i64 (-1)] ++ zr z 7 66, [(0, ⟨5, 0, true, zo 0⟩)], 1153⟩
def Q9w (p0 : Val) (p2 : Int) (e : En) : Qto → Prop
  | .k0 q0 => ∃ z zo, Q5 G e (.st (.exit 2) (Qd9 p0 p2 q0 z zo))
  | .k1 => ∃ z zo, Q5 G e (.st .ret (Qo1 p0 p2 z zo))
theorem Qsp (p0 : Val) (p2 : Int) {e e' : En} (h : ∀ r, Q5 G e r → Q5 G e' r) : ∀ q, Q9w p0 p2 e q → Q9w p0 p2 e' q
  | .k0 _, ⟨z, zo, hz⟩ => ⟨z, zo, h _ hz⟩
  | .k1, ⟨z, zo, hz⟩ => ⟨z, zo, h _ hz⟩
def Q1dz (p0 : Val) (p1 : Int) (p2 : Int) : En := .call 170 [.agg (Val.cells p0), .int .i64 p1, .int .i64 p2] []
def Q1ab (p0 : Val) (p1 : Int) (p2 : Int) : Rs := .ret (.int .i64 (Q8v p0 p1 p2)) []
abbrev Qwn (p0 : Val) : Prop := Val.Sm 4611686018427387904 p0
def Q7k (p0 : Val) : Prop := ∀ (q : Val), SizeOf.sizeOf q < SizeOf.sizeOf p0 → ∀ (p1 : Int), ∀ (p2 : Int), Qwn q → Q5 G (Q1dz q p1 p2) (Q1ab q p1 p2)
def Q9s (p0 : Val) (_p2 : Int) : Prop := (List.length p0.list ≤ 4611686018427387904) ∧ (∀ x0 ∈ p0.list, Qwn x0) ∧ True
def Q8b (p0 : Val) (_p2 : Int) : Prop := (List.length p0.fields ≤ 4611686018427387904) ∧ (∀ x1 ∈ p0.fields, Qwn x1.v) ∧ True
theorem Q13d (p0 : Val) (_p1 : Int) (p2 : Int) (H : Qwn p0) : (Q9s p0 p2) ∧ (Q8b p0 p2) ∧ True := by
  obtain ⟨h1, h2, h3, h4⟩ := H.all
  simp only [Q9s, Q8b]
  exact ⟨⟨h1, h3, trivial⟩, ⟨h2, h4, trivial⟩, trivial⟩
def Qpi (p0 : Val) (_p2 : Int) (i0 : Nat) (_v0_1 : Int) : List PV :=
  nuns 7 ++ [.int .i64 (i0 : Int)] ++ nuns 15 ++ [.int .i64 (i0 : Int), .bx 0 3, .sl (Val.rows p0.list), .int .i64 ((List.length p0.list) : Int), .bool false, .bool false, .tup [], .tup [], .bool false]
def Qki (_p0 : Val) (_p2 : Int) (_i0 : Nat) (_v0_1 : Int) : List (Nat × List PV) :=
  []
theorem Q18r (p0 : Val) (p2 : Int) (_H : Q9s p0 p2) (_rec : Q7k p0) (i0 : Nat) (v0_1 : Int) (hc0 : (decide ((i0 : Int) < ((List.length p0.list) : Int))) = false) : Qbv p0 p2 (Qbj p0 p2 i0 v0_1) v0_1 := by
 exact ⟨(envF (Qpi p0 p2 i0 v0_1)), (zoF (Qki p0 p2 i0 v0_1)), Qj VOK.nil (x := ((.exit 0), Qd8 p0 p2 v0_1 (envF (Qpi p0 p2 i0 v0_1)) (zoF (Qki p0 p2 i0 v0_1)))) [hP 3 (Qw (Val.rows p0.list) (List.length p0.list) (Val.Q0 p0.list)), hB 0 hc0] [] (by kernel_rfl)⟩
theorem Q16j (p0 : Val) (p2 : Int) (H : Q9s p0 p2) (rec : Q7k p0) (x0 : Val) (i0 : Nat) (v0_1 : Int) (hx0 : p0.list[i0]? = some x0) (hi0 : i0 < List.length p0.list) (hc0 : (decide ((i0 : Int) < ((List.length p0.list) : Int))) = true) (h0 : (decide (0 ≤ v0_1)) = true) {r : Rs} (hr : Q5 G (Qbj p0 p2 (i0 + 1) (Q8v x0 v0_1 (w64 (p2 - 1)))) r) : Q5 G (Qbj p0 p2 i0 v0_1) r := by
 have hB0 := H.1; have e0 := of_decide_eq_true h0
 exact Qd VOK.nil (y := (Qvk p0 p2 (i0 + 1) (Q8v x0 v0_1 (w64 (p2 - 1))), Qwd p0 p2 (i0 + 1) (Q8v x0 v0_1 (w64 (p2 - 1))))) [hP 3 (Qw (Val.rows p0.list) (List.length p0.list) (Val.Q0 p0.list)), hB 0 hc0, hB 2 h0, hP 4 (Q2g 5 (Val.rows p0.list) i0 _ (Val.Qe hx0) rfl), hP 7 (Q28 i0 (by omega))] [aN (rec x0 (szL hx0) v0_1 (w64 (p2 - 1)) (H.2.1 x0 (Q2o hx0)))] (by kernel_rfl) hr
def Qpj (p0 : Val) (_p2 : Int) (i0 : Nat) (v0_1 : Int) (_x0 : Val) : List PV :=
  nuns 7 ++ [.int .i64 (i0 : Int)] ++ nuns 15 ++ [.int .i64 (i0 : Int), .bx 0 3, .sl (Val.rows p0.list), .int .i64 ((List.length p0.list) : Int), .bool true, .bool true, .int .i64 v0_1, .bool false, .bool false]
def Qkj (_p0 : Val) (_p2 : Int) (_i0 : Nat) (_v0_1 : Int) (_x0 : Val) : List (Nat × List PV) :=
  []
theorem Q18s (p0 : Val) (p2 : Int) (_H : Q9s p0 p2) (_rec : Q7k p0) (x0 : Val) (i0 : Nat) (v0_1 : Int) (_hx0 : p0.list[i0]? = some x0) (_hi0 : i0 < List.length p0.list) (hc0 : (decide ((i0 : Int) < ((List.length p0.list) : Int))) = true) (h0 : (decide (0 ≤ v0_1)) = false) : Qbv p0 p2 (Qbj p0 p2 i0 v0_1) v0_1 := by
 exact ⟨(envF (Qpj p0 p2 i0 v0_1 x0)), (zoF (Qkj p0 p2 i0 v0_1 x0)), Qj VOK.nil (x := ((.exit 0), Qd8 p0 p2 v0_1 (envF (Qpj p0 p2 i0 v0_1 x0)) (zoF (Qkj p0 p2 i0 v0_1 x0)))) [hP 3 (Qw (Val.rows p0.list) (List.length p0.list) (Val.Q0 p0.list)), hB 0 hc0, hB 2 h0] [] (by kernel_rfl)⟩
theorem Qyo (p0 : Val) (p2 : Int) (H : Q9s p0 p2) (rec : Q7k p0) : ∀ (r0 : List Val) (i0 : Nat) (v0_1 : Int), List.drop i0 p0.list = r0 → Qbv p0 p2 (Qbj p0 p2 i0 v0_1) (Q3n p0 p2 r0 i0 v0_1)
 | [], i0, v0_1, hd => by
  have hc0 : (decide ((i0 : Int) < ((List.length p0.list) : Int))) = false := by have := Q1o hd; simp; omega
  rw [Q3n]
  exact Q18r p0 p2 H rec i0 v0_1 hc0
 | x0 :: r0, i0, v0_1, hd => by
  obtain ⟨hx0, hi0, hd'⟩ := Q1i hd
  have hc0 : (decide ((i0 : Int) < ((List.length p0.list) : Int))) = true := by simp; omega
  rw [Q3n]
  cases h0 : (decide (0 ≤ v0_1)) with
  | true =>
   exact Qso p0 p2 (fun r hr => Q16j p0 p2 H rec x0 i0 v0_1 hx0 hi0 hc0 h0 hr) _ (Qyo p0 p2 H rec r0 (i0 + 1) (Q8v x0 v0_1 (w64 (p2 - 1))) hd')
  | false =>
   exact Q18s p0 p2 H rec x0 i0 v0_1 hx0 hi0 hc0 h0
def Qpk (p0 : Val) (p2 : Int) (i1 : Nat) (_v1_1 : Int) : List PV :=
  [.un, .un, .int .i64 p2, .bx 0 0, .un, .un, .un, .un, .int .i64 (i1 : Int)] ++ nuns 34 ++ [.int .i64 (i1 : Int), .bx 0 4, .sl (Fld.rows p0.fields), .int .i64 ((List.length p0.fields) : Int), .bool false, .bool false, .tup [], .tup [], .bool false]
def Qkk (_p0 : Val) (_p2 : Int) (_i1 : Nat) (_v1_1 : Int) : List (Nat × List PV) :=
  []
theorem Q18t (p0 : Val) (p2 : Int) (_H : Q8b p0 p2) (_rec : Q7k p0) (i1 : Nat) (v1_1 : Int) (hc1 : (decide ((i1 : Int) < ((List.length p0.fields) : Int))) = false) : Q9w p0 p2 (Q9p p0 p2 i1 v1_1) (.k0 v1_1) := by
 exact ⟨(envF (Qpk p0 p2 i1 v1_1)), (zoF (Qkk p0 p2 i1 v1_1)), Qj VOK.nil (x := ((.exit 2), Qd9 p0 p2 v1_1 (envF (Qpk p0 p2 i1 v1_1)) (zoF (Qkk p0 p2 i1 v1_1)))) [hP 3 (Qw (Fld.rows p0.fields) (List.length p0.fields) (Fld.Q0 p0.fields)), hB 0 hc1] [] (by kernel_rfl)⟩
def Qpl (p0 : Val) (p2 : Int) (i1 : Nat) (v1_1 : Int) (x1 : Fld) : List PV :=
  [.un, .int .i64 v1_1, .int .i64 p2, .bx 0 0, .un, .un, .un, .un, .int .i64 (i1 : Int)] ++ nuns 34 ++ [.int .i64 (i1 : Int), .bx 0 4, .sl (Fld.rows p0.fields), .int .i64 ((List.length p0.fields) : Int), .bool true, .bool true, .int .i64 v1_1, .bool true, .bool true, .un, .un, .bx 0 4, .sl (Fld.rows p0.fields), .int .i64 (i1 : Int), .rf [.str x1.name, .int .i64 x1.v.kind, .int .i64 x1.v.n, .str x1.v.s, .sl (Val.rows x1.v.list), .sl (Fld.rows x1.v.fields)], .rf [.str x1.name, .int .i64 x1.v.kind, .int .i64 x1.v.n, .str x1.v.s, .sl (Val.rows x1.v.list), .sl (Fld.rows x1.v.fields)], .str x1.name, .int .i64 (ByteArray.size x1.name : Int), .bool true]
def Qkl (p0 : Val) (_p2 : Int) (_i1 : Nat) (_v1_1 : Int) (_x1 : Fld) : List (Nat × List PV) :=
  [(0, [.int .i64 p0.kind, .int .i64 p0.n, .str p0.s, .sl (Val.rows p0.list), .sl (Fld.rows p0.fields)])]
theorem Q18u (p0 : Val) (p2 : Int) (_H : Q8b p0 p2) (_rec : Q7k p0) (x1 : Fld) (i1 : Nat) (v1_1 : Int) (hx1 : p0.fields[i1]? = some x1) (_hi1 : i1 < List.length p0.fields) (hc1 : (decide ((i1 : Int) < ((List.length p0.fields) : Int))) = true) (h0 : (decide (0 ≤ v1_1)) = true) (h1 : (decide (1000 < (ByteArray.size x1.name : Int))) = true) : Q9w p0 p2 (Q9p p0 p2 i1 v1_1) (.k1) := by
 exact ⟨(envF (Qpl p0 p2 i1 v1_1 x1)), (zoF (Qkl p0 p2 i1 v1_1 x1)), Qj VOK.nil (x := (.ret, Qo1 p0 p2 (envF (Qpl p0 p2 i1 v1_1 x1)) (zoF (Qkl p0 p2 i1 v1_1 x1)))) [hP 3 (Qw (Fld.rows p0.fields) (List.length p0.fields) (Fld.Q0 p0.fields)), hB 0 hc1, hB 2 h0, hP 4 (Q2g 6 (Fld.rows p0.fields) i1 _ (Fld.Qe hx1) rfl), hB 3 h1] [] (by kernel_rfl)⟩
theorem Q16k (p0 : Val) (p2 : Int) (H : Q8b p0 p2) (rec : Q7k p0) (x1 : Fld) (i1 : Nat) (v1_1 : Int) (hx1 : p0.fields[i1]? = some x1) (hi1 : i1 < List.length p0.fields) (hc1 : (decide ((i1 : Int) < ((List.length p0.fields) : Int))) = true) (h0 : (decide (0 ≤ v1_1)) = true) (h1 : (decide (1000 < (ByteArray.size x1.name : Int))) = false) {r : Rs} (hr : Q5 G (Q9p p0 p2 (i1 + 1) (Q8v x1.v v1_1 (w64 (p2 - 1)))) r) : Q5 G (Q9p p0 p2 i1 v1_1) r := by
 have hB0 := H.1; have e0 := of_decide_eq_true h0; have e1 := of_decide_eq_false h1
 exact Qd VOK.nil (y := (Qvl p0 p2 (i1 + 1) (Q8v x1.v v1_1 (w64 (p2 - 1))), Qwe p0 p2 (i1 + 1) (Q8v x1.v v1_1 (w64 (p2 - 1))))) [hP 3 (Qw (Fld.rows p0.fields) (List.length p0.fields) (Fld.Q0 p0.fields)), hB 0 hc1, hB 2 h0, hP 4 (Q2g 6 (Fld.rows p0.fields) i1 _ (Fld.Qe hx1) rfl), hB 3 h1, hP 3 (Q2g 6 (Fld.rows p0.fields) i1 _ (Fld.Qe hx1) rfl), hP 8 (Q28 i1 (by omega))] [aN (rec x1.v (szF hx1) v1_1 (w64 (p2 - 1)) (H.2.1 x1 (Q2o hx1)))] (by kernel_rfl) hr
def Qpm (p0 : Val) (p2 : Int) (i1 : Nat) (v1_1 : Int) (_x1 : Fld) : List PV :=
  [.un, .un, .int .i64 p2, .bx 0 0, .un, .un, .un, .un, .int .i64 (i1 : Int)] ++ nuns 34 ++ [.int .i64 (i1 : Int), .bx 0 4, .sl (Fld.rows p0.fields), .int .i64 ((List.length p0.fields) : Int), .bool true, .bool true, .int .i64 v1_1, .bool false, .bool false]
def Qkm (_p0 : Val) (_p2 : Int) (_i1 : Nat) (_v1_1 : Int) (_x1 : Fld) : List (Nat × List PV) :=
  []
theorem Q18v (p0 : Val) (p2 : Int) (_H : Q8b p0 p2) (_rec : Q7k p0) (x1 : Fld) (i1 : Nat) (v1_1 : Int) (_hx1 : p0.fields[i1]? = some x1) (_hi1 : i1 < List.length p0.fields) (hc1 : (decide ((i1 : Int) < ((List.length p0.fields) : Int))) = true) (h0 : (decide (0 ≤ v1_1)) = false) : Q9w p0 p2 (Q9p p0 p2 i1 v1_1) (.k0 v1_1) := by
 exact ⟨(envF (Qpm p0 p2 i1 v1_1 x1)), (zoF (Qkm p0 p2 i1 v1_1 x1)), Qj VOK.nil (x := ((.exit 2), Qd9 p0 p2 v1_1 (envF (Qpm p0 p2 i1 v1_1 x1)) (zoF (Qkm p0 p2 i1 v1_1 x1)))) [hP 3 (Qw (Fld.rows p0.fields) (List.length p0.fields) (Fld.Q0 p0.fields)), hB 0 hc1, hB 2 h0] [] (by kernel_rfl)⟩
theorem Qyp (p0 : Val) (p2 : Int) (H : Q8b p0 p2) (rec : Q7k p0) : ∀ (r1 : List Fld) (i1 : Nat) (v1_1 : Int), List.drop i1 p0.fields = r1 → Q9w p0 p2 (Q9p p0 p2 i1 v1_1) (Q3z p0 p2 r1 i1 v1_1)
 | [], i1, v1_1, hd => by
  have hc1 : (decide ((i1 : Int) < ((List.length p0.fields) : Int))) = false := by have := Q1o hd; simp; omega
  rw [Q3z]
  exact Q18t p0 p2 H rec i1 v1_1 hc1
 | x1 :: r1, i1, v1_1, hd => by
  obtain ⟨hx1, hi1, hd'⟩ := Q1i hd
  have hc1 : (decide ((i1 : Int) < ((List.length p0.fields) : Int))) = true := by simp; omega
  rw [Q3z]
  cases h0 : (decide (0 ≤ v1_1)) with
  | true =>
   cases h1 : (decide (1000 < (ByteArray.size x1.name : Int))) with
   | true =>
    exact Q18u p0 p2 H rec x1 i1 v1_1 hx1 hi1 hc1 h0 h1
   | false =>
    exact Qsp p0 p2 (fun r hr => Q16k p0 p2 H rec x1 i1 v1_1 hx1 hi1 hc1 h0 h1 hr) _ (Qyp p0 p2 H rec r1 (i1 + 1) (Q8v x1.v v1_1 (w64 (p2 - 1))) hd')
  | false =>
   exact Q18v p0 p2 H rec x1 i1 v1_1 hx1 hi1 hc1 h0
theorem Q201 (p0 : Val) (p1 : Int) (p2 : Int) (H : Qwn p0) (rec : Q7k p0) : Q5 G (Q1dz p0 p1 p2) (Q1ab p0 p1 p2) := by
  unfold Q1ab
  rw [Q8v]
  cases h0 : (decide (p1 ≤ 0)) with
  | true =>
   exact Q6 (fn := Ir.K1s) rfl VOK.nil [hB 3 h0] [] (by kernel_rfl)
  | false =>
   cases h1 : (decide (p2 ≤ 0)) with
   | true =>
    exact Q6 (fn := Ir.K1s) rfl VOK.nil [hB 3 h0, hB 2 h1] [] (by kernel_rfl)
   | false =>
    cases h2 : (decide (1000 < (ByteArray.size p0.s : Int))) with
    | true =>
     exact Q6 (fn := Ir.K1s) rfl VOK.nil [hB 3 h0, hB 2 h1, hB 5 h2] [] (by kernel_rfl)
    | false =>
     have hl3 := Qyo p0 p2 ((Q13d p0 p1 p2 H).1) rec p0.list 0 (w64 (p1 - 1)) (by simp)
     obtain ⟨z3, zo3, hl3⟩ := hl3
     have hl4 := Qyp p0 p2 ((Q13d p0 p1 p2 H).2.1) rec p0.fields 0 (Q3n p0 p2 p0.list 0 (w64 (p1 - 1))) (by simp)
     cases hr4 : (Q3z p0 p2 p0.fields 0 (Q3n p0 p2 p0.list 0 (w64 (p1 - 1)))) with
     | k0 y4_0 =>
       rw [hr4] at hl4
       obtain ⟨z4, zo4, hl4⟩ := hl4
       exact Q6 (fn := Ir.K1s) rfl VOK.nil [hB 3 h0, hB 2 h1, hB 5 h2] [aN hl3, aN hl4] (by kernel_rfl)
     | k1 =>
       rw [hr4] at hl4
       obtain ⟨z4, zo4, hl4⟩ := hl4
       exact Q6 (fn := Ir.K1s) rfl VOK.nil [hB 3 h0, hB 2 h1, hB 5 h2] [aN hl3, aN hl4] (by kernel_rfl)
theorem Q1qf : ∀ (k : Nat) (p0 : Val), SizeOf.sizeOf p0 < k → ∀ (p1 : Int), ∀ (p2 : Int), Qwn p0 → Q5 G (Q1dz p0 p1 p2) (Q1ab p0 p1 p2)
  | 0, _, h, _, _, _ => absurd h (Nat.not_lt_zero _)
  | k + 1, p0, h, p1, p2, H => Q201 p0 p1 p2 H (fun q hq p1 p2 hH => Q1qf k q (by omega) p1 p2 hH)
theorem Q21g (p0 : Val) (p1 : Int) (p2 : Int) (H : Qwn p0) : Q5 G (Q1dz p0 p1 p2) (Q1ab p0 p1 p2) := Q1qf _ p0 (Nat.lt_succ_self _) p1 p2 H
def Qut (p0 : Val) (p1 : Int) : Bool :=
 (decide (0 ≤ (Q8v p0 p1 p1)))
def Q1wj (p0 : Val) (p1 : Int) : En := .call 63 [.agg (Val.cells p0), .int .i64 p1] []
def Q1oc (p0 : Val) (p1 : Int) : Rs := .ret (.bool (Qut p0 p1)) []
def Q1i4 (p0 : Val) (_p1 : Int) : Prop := (Qwn p0) ∧ True
theorem Q1jv (p0 : Val) (p1 : Int) (H : Q1i4 p0 p1) : Q5 G (Q1wj p0 p1) (Q1oc p0 p1) := by
 unfold Q1oc Qut
 exact Q6 (fn := Ir.K1r) rfl VOK.nil [] [aN (Q21g p0 p1 p1 H.1)] (by kernel_rfl)
def Q1r4 (p0 : Bool) (p1 : Bool) : Int :=
 bif p0 then
  bif p1 then
   (-1)
  else
   (-1)
 else
  bif p1 then
   1
  else
   0
def Q1wk (p0 : Bool) (p1 : Bool) : En := .call 230 [.bool p0, .bool p1] []
def Q1od (p0 : Bool) (p1 : Bool) : Rs := .ret (.int .i64 (Q1r4 p0 p1)) []
theorem Q181 (p0 : Bool) (p1 : Bool) : Q5 G (Q1wk p0 p1) (Q1od p0 p1) := by
 unfold Q1od Q1r4
 cases h0 : p0 with
 | true =>
  cases h1 : p1 with
  | true =>
   exact Q6 (fn := Ir.K1t) rfl VOK.nil [] [] (by kernel_rfl)
  | false =>
   exact Q6 (fn := Ir.K1t) rfl VOK.nil [] [] (by kernel_rfl)
 | false =>
  cases h1 : p1 with
  | true =>
   exact Q6 (fn := Ir.K1t) rfl VOK.nil [] [] (by kernel_rfl)
  | false =>
   exact Q6 (fn := Ir.K1t) rfl VOK.nil [] [] (by kernel_rfl)
def Q1r2 (_ : Val) : Int := 0
def Q13q (p0 : Val) : List Val → Nat → Unit
 | [], _i0 =>
  ()
 | _x0 :: r0, i0 =>
  Q13q p0 r0 (i0 + 1)
def Qvf (_p0 : Val) (i0 : Nat) : List PV :=
  [.un, .un, .bx 0 0, .bx 1 0, .un, .int .i64 0, .int .i64 (i0 : Int)] ++ nuns 162
def Qwa (p0 : Val) (_i0 : Nat) : List Ob :=
  [⟨5, 0, true, [.int .i64 p0.kind, .int .i64 p0.n, .str p0.s, .sl (Val.rows p0.list), .sl (Fld.rows p0.fields)]⟩, ⟨5, 0, true, [.int .i64 p0.kind, .int .i64 p0.n, .str p0.s, .sl (Val.rows p0.list), .sl (Fld.rows p0.fields)]⟩]
def Qen (p0 : Val) (i0 : Nat) : En := .loop 0 Ir.Qiu Ir.Q1ga (Qvf p0 i0) (Qwa p0 i0)
def Qnw (p0 : Val) (z : Nat → PV) (_zo : Nat → List PV) : St :=
  ⟨[z 0, z 1, .bx 0 0, .bx 1 0, z 4, .int .i64 0] ++ zr z 6 163, [(0, ⟨5, 0, true, [.int .i64 p0.kind, .int .i64 p0.n, .str p0.s, .sl (Val.rows p0.list), .sl (Fld.rows p0.fields)]⟩), (1, ⟨5, 0, true, [.int .i64 p0.kind, .int .i64 p0.n, .str p0.s, .sl (Val.rows p0.list), .sl (Fld.rows p0.fields)]⟩)], 1026⟩
def Q9u (p0 : Val) (e : En) (_q : Unit) : Prop := ∃ z zo, Q5 G e (.st (.exit 0) (Qnw p0 z zo))
theorem Qsj (p0 : Val) {e e' : En} (h : ∀ r, Q5 G e r → Q5 G e' r) : ∀ q, Q9u p0 e q → Q9u p0 e' q
  | _, ⟨z, zo, hz⟩ => ⟨z, zo, h _ hz⟩
def Q13r (p0 : Val) : List Fld → Nat → Unit
 | [], _i1 =>
  ()
 | _x1 :: r1, i1 =>
  Q13r p0 r1 (i1 + 1)
def Qvg (_p0 : Val) (i1 : Nat) : List PV :=
  [.un, .un, .bx 0 0, .bx 1 0, .un, .int .i64 0, .un, .int .i64 (i1 : Int)] ++ nuns 161
def Qwb (p0 : Val) (_i1 : Nat) : List Ob :=
  [⟨5, 0, true, [.int .i64 p0.kind, .int .i64 p0.n, .str p0.s, .sl (Val.rows p0.list), .sl (Fld.rows p0.fields)]⟩, ⟨5, 0, true, [.int .i64 p0.kind, .int .i64 p0.n, .str p0.s, .sl (Val.rows p0.list), .sl (Fld.rows p0.fields)]⟩]
def Qeo (p0 : Val) (i1 : Nat) : En := .loop 0 Ir.Qiv Ir.Q1gb (Qvg p0 i1) (Qwb p0 i1)
def Qnx (p0 : Val) (z : Nat → PV) (_zo : Nat → List PV) : St :=
  ⟨[z 0, z 1, .bx 0 0, .bx 1 0, z 4, .int .i64 0] ++ zr z 6 163, [(0, ⟨5, 0, true, [.int .i64 p0.kind, .int .i64 p0.n, .str p0.s, .sl (Val.rows p0.list), .sl (Fld.rows p0.fields)]⟩), (1, ⟨5, 0, true, [.int .i64 p0.kind, .int .i64 p0.n, .str p0.s, .sl (Val.rows p0.list), .sl (Fld.rows p0.fields)]⟩)], 1026⟩
def Q9v (p0 : Val) (e : En) (_q : Unit) : Prop := ∃ z zo, Q5 G e (.st (.exit 2) (Qnx p0 z zo))
theorem Qsk (p0 : Val) {e e' : En} (h : ∀ r, Q5 G e r → Q5 G e' r) : ∀ q, Q9v p0 e q → Q9v p0 e' q
  | _, ⟨z, zo, hz⟩ => ⟨z, zo, h _ hz⟩
theorem Q1yk (p0 : Val) : Q1r2 p0 = (0) := by
  rfl
def Q1dx (p0 : Val) : En := .call 194 [.agg (Val.cells p0), .agg (Val.cells p0)] []
def Q1a9 (p0 : Val) : Rs := .ret (.int .i64 (Q1r2 p0)) []
abbrev Qwl (p0 : Val) : Prop := Val.Sm 4611686018427387904 p0
def Qar (p0 : Val) : Prop := ∀ (q : Val), SizeOf.sizeOf q < SizeOf.sizeOf p0 → Qwl q → Q5 G (Q1dx q) (Q1a9 q)
def Qbo (p0 : Val) : Prop := (List.length p0.list ≤ 4611686018427387904) ∧ (∀ x0 ∈ p0.list, Qwl x0) ∧ True
def Qbp (p0 : Val) : Prop := (List.length p0.fields ≤ 4611686018427387904) ∧ (∀ x1 ∈ p0.fields, Qwl x1.v) ∧ True
theorem Q13a (p0 : Val) (H : Qwl p0) : (Qbo p0) ∧ (Qbp p0) ∧ True := by
  obtain ⟨h1, h2, h3, h4⟩ := H.all
  simp only [Qbo, Qbp]
  exact ⟨⟨h1, h3, trivial⟩, ⟨h2, h4, trivial⟩, trivial⟩
def Qpd (p0 : Val) (i0 : Nat) : List PV :=
  nuns 6 ++ [.int .i64 (i0 : Int)] ++ nuns 38 ++ [.int .i64 (i0 : Int), .bx 0 3, .sl (Val.rows p0.list), .int .i64 ((List.length p0.list) : Int), .bool false, .bool false, .tup [], .tup [], .tup [], .tup [], .tup [], .bool false, .bool false, .tup [], .tup [], .bool false]
def Qkd (_p0 : Val) (_i0 : Nat) : List (Nat × List PV) :=
  []
theorem Q18m (p0 : Val) (_H : Qbo p0) (_rec : Qar p0) (i0 : Nat) (hc0 : (decide ((i0 : Int) < ((List.length p0.list) : Int))) = false) : Q9u p0 (Qen p0 i0) () := by
 exact ⟨(envF (Qpd p0 i0)), (zoF (Qkd p0 i0)), Qj VOK.nil (x := ((.exit 0), Qnw p0 (envF (Qpd p0 i0)) (zoF (Qkd p0 i0)))) [hP 3 (Qw (Val.rows p0.list) (List.length p0.list) (Val.Q0 p0.list)), hB 0 hc0] [] (by kernel_rfl)⟩
theorem Q16e (p0 : Val) (H : Qbo p0) (rec : Qar p0) (x0 : Val) (i0 : Nat) (hx0 : p0.list[i0]? = some x0) (hi0 : i0 < List.length p0.list) (hc0 : (decide ((i0 : Int) < ((List.length p0.list) : Int))) = true) {r : Rs} (hr : Q5 G (Qen p0 (i0 + 1)) r) : Q5 G (Qen p0 i0) r := by
 have hB0 := H.1
 exact Qd VOK.nil (y := (Qvf p0 (i0 + 1), Qwa p0 (i0 + 1))) [hP 3 (Qw (Val.rows p0.list) (List.length p0.list) (Val.Q0 p0.list)), hB 0 hc0, hP 4 (Qw (Val.rows p0.list) (List.length p0.list) (Val.Q0 p0.list)), hB 0 hc0, hP 8 (Q2g 5 (Val.rows p0.list) i0 _ (Val.Qe hx0) rfl), hP 4 (Q2g 5 (Val.rows p0.list) i0 _ (Val.Qe hx0) rfl), hP 4 (Q28 i0 (by omega))] [aN (rec x0 (szL hx0) (H.2.1 x0 (Q2o hx0)))] (by kernel_rfl) hr
theorem Qyj (p0 : Val) (H : Qbo p0) (rec : Qar p0) : ∀ (r0 : List Val) (i0 : Nat), List.drop i0 p0.list = r0 → Q9u p0 (Qen p0 i0) (Q13q p0 r0 i0)
 | [], i0, hd => by
  have hc0 : (decide ((i0 : Int) < ((List.length p0.list) : Int))) = false := by have := Q1o hd; simp; omega
  show Q9u p0 _ ()
  exact Q18m p0 H rec i0 hc0
 | x0 :: r0, i0, hd => by
  obtain ⟨hx0, hi0, hd'⟩ := Q1i hd
  have hc0 : (decide ((i0 : Int) < ((List.length p0.list) : Int))) = true := by simp; omega
  show Q9u p0 _ ()
  exact Qsj p0 (fun r hr => Q16e p0 H rec x0 i0 hx0 hi0 hc0 hr) _ (Qyj p0 H rec r0 (i0 + 1) hd')
def Qpe (p0 : Val) (i1 : Nat) : List PV :=
  nuns 7 ++ [.int .i64 (i1 : Int)] ++ nuns 83 ++ [.int .i64 (i1 : Int), .bx 0 4, .sl (Fld.rows p0.fields), .int .i64 ((List.length p0.fields) : Int), .bool false, .bool false, .tup [], .tup [], .tup [], .tup [], .tup [], .bool false, .bool false, .tup [], .tup [], .bool false]
def Qke (_p0 : Val) (_i1 : Nat) : List (Nat × List PV) :=
  []
theorem Q18n (p0 : Val) (_H : Qbp p0) (_rec : Qar p0) (i1 : Nat) (hc1 : (decide ((i1 : Int) < ((List.length p0.fields) : Int))) = false) : Q9v p0 (Qeo p0 i1) () := by
 exact ⟨(envF (Qpe p0 i1)), (zoF (Qke p0 i1)), Qj VOK.nil (x := ((.exit 2), Qnx p0 (envF (Qpe p0 i1)) (zoF (Qke p0 i1)))) [hP 3 (Qw (Fld.rows p0.fields) (List.length p0.fields) (Fld.Q0 p0.fields)), hB 0 hc1] [] (by kernel_rfl)⟩
theorem Q16f (p0 : Val) (H : Qbp p0) (rec : Qar p0) (x1 : Fld) (i1 : Nat) (hx1 : p0.fields[i1]? = some x1) (hi1 : i1 < List.length p0.fields) (hc1 : (decide ((i1 : Int) < ((List.length p0.fields) : Int))) = true) {r : Rs} (hr : Q5 G (Qeo p0 (i1 + 1)) r) : Q5 G (Qeo p0 i1) r := by
 have hB0 := H.1
 exact Qd VOK.nil (y := (Qvg p0 (i1 + 1), Qwb p0 (i1 + 1))) [hP 3 (Qw (Fld.rows p0.fields) (List.length p0.fields) (Fld.Q0 p0.fields)), hB 0 hc1, hP 4 (Qw (Fld.rows p0.fields) (List.length p0.fields) (Fld.Q0 p0.fields)), hB 0 hc1, hP 8 (Q2g 6 (Fld.rows p0.fields) i1 _ (Fld.Qe hx1) rfl), hP 5 (Q2g 6 (Fld.rows p0.fields) i1 _ (Fld.Qe hx1) rfl), hP 2 (dec (sLt x1.name x1.name) false (Q1cm _)), hP 3 (Q2g 6 (Fld.rows p0.fields) i1 _ (Fld.Qe hx1) rfl), hP 5 (Q2g 6 (Fld.rows p0.fields) i1 _ (Fld.Qe hx1) rfl), hP 2 (dec (!((sLt x1.name x1.name) || (sEq x1.name x1.name))) false (by rw [(Q1qq (Q4o.2 rfl))]; rfl)), hP 7 (Q2g 6 (Fld.rows p0.fields) i1 _ (Fld.Qe hx1) rfl), hP 5 (Q2g 6 (Fld.rows p0.fields) i1 _ (Fld.Qe hx1) rfl), hP 5 (Q28 i1 (by omega))] [aN (Q181 false false), aN (rec x1.v (szF hx1) (H.2.1 x1 (Q2o hx1)))] (by kernel_rfl) hr
theorem Qyk (p0 : Val) (H : Qbp p0) (rec : Qar p0) : ∀ (r1 : List Fld) (i1 : Nat), List.drop i1 p0.fields = r1 → Q9v p0 (Qeo p0 i1) (Q13r p0 r1 i1)
 | [], i1, hd => by
  have hc1 : (decide ((i1 : Int) < ((List.length p0.fields) : Int))) = false := by have := Q1o hd; simp; omega
  show Q9v p0 _ ()
  exact Q18n p0 H rec i1 hc1
 | x1 :: r1, i1, hd => by
  obtain ⟨hx1, hi1, hd'⟩ := Q1i hd
  have hc1 : (decide ((i1 : Int) < ((List.length p0.fields) : Int))) = true := by simp; omega
  show Q9v p0 _ ()
  exact Qsk p0 (fun r hr => Q16f p0 H rec x1 i1 hx1 hi1 hc1 hr) _ (Qyk p0 H rec r1 (i1 + 1) hd')
theorem Q1zz (p0 : Val) (H : Qwl p0) (rec : Qar p0) : Q5 G (Q1dx p0) (Q1a9 p0) := by
  unfold Q1a9
  rw [Q1yk]
  have hl0 := Qyj p0 ((Q13a p0 H).1) rec p0.list 0 (by simp)
  obtain ⟨z0, zo0, hl0⟩ := hl0
  have hl1 := Qyk p0 ((Q13a p0 H).2.1) rec p0.fields 0 (by simp)
  obtain ⟨z1, zo1, hl1⟩ := hl1
  exact Q6 (fn := Ir.K1l) rfl VOK.nil [hP 7 (dec (decide (p0.kind < p0.kind)) false (decide_eq_false (Int.lt_irrefl _))), hP 4 (dec (decide (p0.kind < p0.kind)) false (decide_eq_false (Int.lt_irrefl _))), hP 8 (dec (decide (p0.n < p0.n)) false (decide_eq_false (Int.lt_irrefl _))), hP 4 (dec (decide (p0.n < p0.n)) false (decide_eq_false (Int.lt_irrefl _))), hP 8 (dec (sLt p0.s p0.s) false (Q1cm _)), hP 4 (dec (!((sLt p0.s p0.s) || (sEq p0.s p0.s))) false (by rw [(Q1qq (Q4o.2 rfl))]; rfl)), hP 7 (Qw (Val.rows p0.list) (List.length p0.list) (Val.Q0 p0.list)), hP 2 (Qw (Val.rows p0.list) (List.length p0.list) (Val.Q0 p0.list)), hP 0 (dec (decide (((List.length p0.list) : Int) < ((List.length p0.list) : Int))) false (decide_eq_false (Int.lt_irrefl _))), hP 2 (Qw (Val.rows p0.list) (List.length p0.list) (Val.Q0 p0.list)), hP 2 (Qw (Val.rows p0.list) (List.length p0.list) (Val.Q0 p0.list)), hP 0 (dec (decide (((List.length p0.list) : Int) < ((List.length p0.list) : Int))) false (decide_eq_false (Int.lt_irrefl _))), hP 7 (Qw (Fld.rows p0.fields) (List.length p0.fields) (Fld.Q0 p0.fields)), hP 2 (Qw (Fld.rows p0.fields) (List.length p0.fields) (Fld.Q0 p0.fields)), hP 0 (dec (decide (((List.length p0.fields) : Int) < ((List.length p0.fields) : Int))) false (decide_eq_false (Int.lt_irrefl _))), hP 2 (Qw (Fld.rows p0.fields) (List.length p0.fields) (Fld.Q0 p0.fields)), hP 2 (Qw (Fld.rows p0.fields) (List.length p0.fields) (Fld.Q0 p0.fields)), hP 0 (dec (decide (((List.length p0.fields) : Int) < ((List.length p0.fields) : Int))) false (decide_eq_false (Int.lt_irrefl _)))] [aN (Q181 false false), aN (Q181 false false), aN (Q181 false false), aN hl0, aN (Q181 false false), aN hl1, aN (Q181 false false)] (by kernel_rfl)
theorem Q1qd : ∀ (k : Nat) (p0 : Val), SizeOf.sizeOf p0 < k → Qwl p0 → Q5 G (Q1dx p0) (Q1a9 p0)
  | 0, _, h, _ => absurd h (Nat.not_lt_zero _)
  | k + 1, p0, h, H => Q1zz p0 H (fun q hq hH => Q1qd k q (by omega) hH)
theorem Q21c (p0 : Val) (H : Qwl p0) : Q5 G (Q1dx p0) (Q1a9 p0) := Q1qd _ p0 (Nat.lt_succ_self _) H
def Q1r3 (_p0 : Val) : Bool :=
 true
def Q1wh (p0 : Val) : En := .call 98 [.agg (Val.cells p0), .agg (Val.cells p0)] []
def Q1o9 (p0 : Val) : Rs := .ret (.bool (Q1r3 p0)) []
def Q1i2 (p0 : Val) : Prop := (Qwl p0) ∧ True
theorem Q1re (p0 : Val) (H : Q1i2 p0) : Q5 G (Q1wh p0) (Q1o9 p0) := by
 unfold Q1o9 Q1r3
 exact Q6 (fn := Ir.K1n) rfl VOK.nil [] [aN (Q45 (c := fun y => .call 194 [.agg (Val.cells p0), .agg (Val.cells y)] []) rfl (Q21c p0 H.1))] (by kernel_rfl)
def Q13v (p0 : List ByteArray) : List ByteArray → Nat → Unit
 | [], _i0 =>
  ()
 | _x0 :: r0, i0 =>
  Q13v p0 r0 (i0 + 1)
def Qvp (p0 : List ByteArray) (i0 : Nat) : List PV :=
  [.sl (Qu p0), .sl (Qu p0), .un, .un, .un, .int .i64 (i0 : Int)] ++ nuns 20
def Qwi (_p0 : List ByteArray) (_i0 : Nat) : List Ob :=
  []
def Qev (p0 : List ByteArray) (i0 : Nat) : En := .loop 0 Ir.Qj5 Ir.Q1gl (Qvp p0 i0) (Qwi p0 i0)
def Qo6 (_p0 : List ByteArray) (z : Nat → PV) (_zo : Nat → List PV) : St :=
  ⟨zr z 0 26, [], 256⟩
def Qa0 (p0 : List ByteArray) (e : En) (_q : Unit) : Prop := ∃ z zo, Q5 G e (.st (.exit 0) (Qo6 p0 z zo))
theorem Qst (p0 : List ByteArray) {e e' : En} (h : ∀ r, Q5 G e r → Q5 G e' r) : ∀ q, Qa0 p0 e q → Qa0 p0 e' q
  | _, ⟨z, zo, hz⟩ => ⟨z, zo, h _ hz⟩
def Qfs (p0 : List ByteArray) : Prop := (List.length p0 ≤ 4611686018427387904) ∧ True
def Qpr (p0 : List ByteArray) (i0 : Nat) : List PV :=
  [.sl (Qu p0), .sl (Qu p0), .un, .un, .un, .int .i64 (i0 : Int)] ++ nuns 5 ++ [.int .i64 (i0 : Int), .sl (Qu p0), .int .i64 ((List.length p0) : Int), .bool false]
def Qkr (_p0 : List ByteArray) (_i0 : Nat) : List (Nat × List PV) :=
  []
theorem Q190 (p0 : List ByteArray) (_H : Qfs p0) (i0 : Nat) (hc0 : (decide ((i0 : Int) < ((List.length p0) : Int))) = false) : Qa0 p0 (Qev p0 i0) () := by
 exact ⟨(envF (Qpr p0 i0)), (zoF (Qkr p0 i0)), Qj VOK.nil (x := ((.exit 0), Qo6 p0 (envF (Qpr p0 i0)) (zoF (Qkr p0 i0)))) [hP 2 (Qw (Qu p0) (List.length p0) (Q2u p0)), hB 0 hc0] [] (by kernel_rfl)⟩
theorem Q16u (p0 : List ByteArray) (H : Qfs p0) (x0 : BA) (i0 : Nat) (hx0 : p0[i0]? = some x0) (hi0 : i0 < List.length p0) (hc0 : (decide ((i0 : Int) < ((List.length p0) : Int))) = true) {r : Rs} (hr : Q5 G (Qev p0 (i0 + 1)) r) : Q5 G (Qev p0 i0) r := by
 have hB0 := H.1
 exact Qd VOK.nil (y := (Qvp p0 (i0 + 1), Qwi p0 (i0 + 1))) [hP 2 (Qw (Qu p0) (List.length p0) (Q2u p0)), hB 0 hc0, hP 2 (Q2g 1 (Qu p0) i0 _ (Qaa hx0) rfl), hP 3 (Q2g 1 (Qu p0) i0 _ (Qaa hx0) rfl), hP 1 (dec (!(sEq x0 x0)) false (by rw [(Q4o.2 rfl)]; rfl)), hP 1 (Q28 i0 (by omega))] [] (by kernel_rfl) hr
theorem Qyt (p0 : List ByteArray) (H : Qfs p0) : ∀ (r0 : List ByteArray) (i0 : Nat), List.drop i0 p0 = r0 → Qa0 p0 (Qev p0 i0) (Q13v p0 r0 i0)
 | [], i0, hd => by
  have hc0 : (decide ((i0 : Int) < ((List.length p0) : Int))) = false := by have := Q1o hd; simp; omega
  show Qa0 p0 _ ()
  exact Q190 p0 H i0 hc0
 | x0 :: r0, i0, hd => by
  obtain ⟨hx0, hi0, hd'⟩ := Q1i hd
  have hc0 : (decide ((i0 : Int) < ((List.length p0) : Int))) = true := by simp; omega
  show Qa0 p0 _ ()
  exact Qst p0 (fun r hr => Q16u p0 H x0 i0 hx0 hi0 hc0 hr) _ (Qyt p0 H r0 (i0 + 1) hd')
def Q1r7 (_p0 : List ByteArray) : Bool :=
 true
def Q1wq (p0 : List ByteArray) : En := .call 120 [.sl (Qu p0), .sl (Qu p0)] []
def Q1oj (p0 : List ByteArray) : Rs := .ret (.bool (Q1r7 p0)) []
def Q1i5 (p0 : List ByteArray) : Prop := (Qfs p0) ∧ True
theorem Q1rg (p0 : List ByteArray) (H : Q1i5 p0) : Q5 G (Q1wq p0) (Q1oj p0) := by
 unfold Q1oj Q1r7
 have hl0 := Qyt p0 (H.1) p0 0 (by simp)
 obtain ⟨z0, zo0, hl0⟩ := hl0
 exact Q6 (fn := Ir.K1z) rfl VOK.nil [hP 2 (Qw (Qu p0) (List.length p0) (Q2u p0)), hP 1 (Qw (Qu p0) (List.length p0) (Q2u p0)), hP 0 (dec (!(((List.length p0) : Int) == ((List.length p0) : Int))) false (by rw [(beq_self_eq_true _)]; rfl))] [aN hl0] (by kernel_rfl)
end Go.Proofs.YtimjjohlpnkacaaGreat
end

section
/- Parts of a slice of one's own, and appends of them. -/
namespace Go.Pv
def slmE (id sz n : Nat) (lo hi : Option Int) : Option Eff := (opP (fun _ => .un) (.slice sz (.c (.ms id sz 0 n)) (optI lo) (optI hi) none)).bind fun v => some ⟨v, [], []⟩
theorem Q14u (id sz n : Nat) (k : Int) (h0 : 0 ≤ k) (h1 : k ≤ (n : Int)) : slmE id sz n none (some k) = some (vE (.ms id sz 0 k.toNat)) := by
 unfold slmE
 simp only [opP, optI, Opd.ev, Q5s, asNat, Option.bind_some]
 have e0 : decide (0 ≤ k) = true := by simpa using h0
 rw [e0]
 simp only [cond_true, Option.bind_some]
 have e1 : (Nat.beq sz sz && Nat.ble 0 k.toNat && Nat.ble k.toNat n) = true := by
  rw [Nat.ble_eq_true_of_le (Nat.zero_le _), Nat.ble_eq_true_of_le (show k.toNat ≤ n by omega), Nat.beq_refl]
  rfl
 rw [e1]
 simp [vE]
theorem Q130 (id sz n : Nat) (k : Int) (h0 : 0 ≤ k) (h1 : k ≤ (n : Int)) : slmE id sz n (some k) none = some (vE (.ms id sz k.toNat (n - k.toNat))) := by
 unfold slmE
 simp only [opP, optI, Opd.ev, Q5s, asNat, Option.bind_some]
 have e0 : decide (0 ≤ k) = true := by simpa using h0
 rw [e0]
 simp only [cond_true, Option.bind_some]
 have e1 : (Nat.beq sz sz && Nat.ble k.toNat n && Nat.ble n n) = true := by
  rw [Nat.ble_eq_true_of_le (show k.toNat ≤ n by omega), Nat.ble_eq_true_of_le (Nat.le_refl n), Nat.beq_refl]
  rfl
 rw [e1]
 simp [vE]
theorem Qmb {sz : Nat} {rows : List (List PV)} (hs : ∀ r ∈ rows, r.length = sz) (off len : Nat) (h : off + len ≤ rows.length) :
  (rows.flatten.drop (off * sz)).take (len * sz) = ((rows.drop off).take len).flatten ∧ Nat.ble ((off + len) * sz) rows.flatten.length = true := by
 have hs' : ∀ r ∈ rows.drop off, r.length = sz := fun r hr => hs r (List.mem_of_mem_drop hr)
 have e : ∀ (l : List (List PV)) (k : Nat), (∀ r ∈ l, r.length = sz) → l.flatten.take (k * sz) = (l.take k).flatten := by
  intro l
  induction l with
  | nil => simp
  | cons q l ih =>
   intro k hl
   cases k with
   | zero => simp
   | succ k =>
    have hq := hl q List.mem_cons_self
    rw [List.flatten_cons, List.take_succ_cons, List.flatten_cons, ← ih k (fun r hr => hl r (List.mem_cons_of_mem _ hr)), show (k + 1) * sz = q.length + k * sz by rw [hq, Nat.add_mul]; omega, List.take_length_add_append]
 refine ⟨by rw [Q9g sz rows off hs, e _ _ hs'], Nat.ble_eq_true_of_le ?_⟩
 rw [Q5u sz rows hs]
 exact Nat.mul_le_mul_right _ h
def appE (id fr sz bytes ro : Nat) (gr : Bool) (rows : List (List PV)) (off len : Nat) : Option Eff := Q4k (look [(id, ⟨sz, ro, gr, rows.flatten⟩)]) fr sz bytes (.ns sz) (.ms id sz off len)
theorem Q1du (id fr sz bytes ro : Nat) (gr : Bool) (rows : List (List PV)) (off len : Nat) (hs : ∀ r ∈ rows, r.length = sz) (h : off + len ≤ rows.length) (h0 : len = 0) : appE id fr sz bytes ro gr rows off len = some ⟨.ns sz, [], [id]⟩ := by
 subst h0
 obtain ⟨_, h2⟩ := Qmb hs off 0 h
 unfold appE Q4k
 simp only [source, look, Nat.beq_refl, cond_true, Option.bind_some, Bool.true_and]
 rw [h2]
 simp
 rfl
theorem Q1q6 (id fr sz bytes ro : Nat) (gr : Bool) (rows rows' : List (List PV)) (off len n' : Nat) (hs : ∀ r ∈ rows, r.length = sz) (h : off + len ≤ rows.length) (h0 : len ≠ 0) (hr : rows' = (rows.drop off).take len) (hn : n' = len) (hb : len * bytes ≤ 140737488355328) :
  appE id fr sz bytes ro gr rows off len = some ⟨.ms fr sz 0 n', [(fr, some ⟨sz, 0, true, rows'.flatten⟩)], [id]⟩ := by
 subst hr hn
 obtain ⟨h1, h2⟩ := Qmb hs off n' h
 unfold appE Q4k
 simp only [source, look, Nat.beq_refl, cond_true, Option.bind_some, Bool.true_and]
 rw [h2]
 simp only [cond_true, Option.bind_some]
 rw [Nat.ble_eq_true_of_le hb, h1]
 cases n' with
 | zero => exact absurd rfl h0
 | succ n => rfl
def Q1q4 (id yid fr sz bytes ro : Nat) (cells : List PV) (yro : Nat) (ygr : Bool) (yrows : List (List PV)) (n off len : Nat) : Option Eff := Q4k (look [(id, ⟨sz, ro, true, cells⟩), (yid, ⟨sz, yro, ygr, yrows.flatten⟩)]) fr sz bytes (.ms id sz 0 n) (.ms yid sz off len)
theorem Q1ad (id yid fr sz bytes ro : Nat) (cells : List PV) (rows0 : List (List PV)) (yro : Nat) (ygr : Bool) (yrows rows' : List (List PV)) (n off len n' : Nat) (hne : Nat.beq id yid = false) (hc : cells = rows0.flatten) (hn : n = rows0.length) (hn' : n' = rows'.length) (hr' : rows' = rows0 ++ (yrows.drop off).take len)
  (hs0 : ∀ r ∈ rows0, r.length = sz) (hs : ∀ r ∈ yrows, r.length = sz) (h : off + len ≤ yrows.length) (hb : (n + len) * bytes ≤ 140737488355328) :
  Q1q4 id yid fr sz bytes ro cells yro ygr yrows n off len = some ⟨.ms fr sz 0 n', [(id, none), (fr, some ⟨sz, ro, true, rows'.flatten⟩)], [id, yid]⟩ := by
 subst hc hn hn' hr'
 obtain ⟨h1, h2⟩ := Qmb hs off len h
 unfold Q1q4 Q4k
 simp only [source, look, hne, Nat.beq_refl, cond_true, cond_false, Option.bind_some, Bool.true_and]
 rw [h2]
 simp only [cond_true, Option.bind_some]
 rw [Nat.ble_eq_true_of_le hb, h1, cond_true, Q1h9 (ob := ⟨sz, ro, true, rows0.flatten⟩) (Q5u sz rows0 hs0)]
 have hl : ((yrows.drop off).take len).length = len := by simp; omega
 simp [hl]
end Go.Pv
end

section
/- Slices that are made with a length: their rows. -/
namespace Go.Pv
end Go.Pv
end

section
/- Rows of one's own: cleared behind a place, appended to from a place on. -/
namespace Go.Pv
theorem Val.Qur (l : List Val) (k : Nat) (x : Val) : Val.rows (l.set k x) = (Val.rows l).set k (Val.cells x) := by simp [Val.Q3v, List.map_set]
theorem Fld.Qur (l : List Fld) (k : Nat) (x : Fld) : Fld.rows (l.set k x) = (Fld.rows l).set k (Fld.cells x) := by simp [Fld.Q3v, List.map_set]
theorem Q11d {l : List (List PV)} {k : Nat} {r : List PV} (h : l[k]? = some r) : l = l.set k r := by
  apply List.ext_getElem?
  intro i
  rw [List.getElem?_set]
  by_cases e : k = i
  · subst e
    rw [if_pos rfl, h, if_pos (List.getElem?_eq_some_iff.1 h).1]
  · rw [if_neg e]
end Go.Pv
end

section
/- What copying values computes (printed by a program). -/
namespace Go.Proofs.YtimjjohlpnkacaaGreat
open Go.Pv
def Q1r8 (p0 : Val) : Val := p0
def Q13w (p0 : Val) : List Val → Nat → Unit
 | [], _i0 =>
  ()
 | _x0 :: r0, i0 =>
  Q13w p0 r0 (i0 + 1)
def Qw5 (p0 : Val) (i0 : Nat) : List PV :=
  [.un, .bx 0 0, .bx 1 0] ++ nuns 9 ++ [.ms 2 5 0 (List.length p0.list), .int .i64 ((List.length p0.list) : Int), .int .i64 (i0 : Int)] ++ nuns 33
abbrev eB : ByteArray := ⟨#[]⟩
def Qi6 (p0 : Val) (_i0 : Nat) : List Ob :=
  [⟨5, 0, true, [.int .i64 p0.kind, .int .i64 p0.n, .str p0.s, .ms 2 5 0 (List.length p0.list), .sl (Fld.rows p0.fields)]⟩, ⟨5, 0, true, [.int .i64 0, .int .i64 0, .str eB, .ms 3 5 0 0, .ms 4 6 0 0]⟩, ⟨5, 0, true, (Val.rows p0.list).flatten⟩, ⟨5, 0, true, []⟩, ⟨6, 0, true, []⟩]
def Qf8 (p0 : Val) (i0 : Nat) : En := .loop 0 Ir.Qjo Ir.Q1h4 (Qw5 p0 i0) (Qi6 p0 i0)
def Qoo (p0 : Val) (z : Nat → PV) (_zo : Nat → List PV) : St :=
  ⟨[z 0, .bx 0 0, .bx 1 0] ++ zr z 3 45, [(0, ⟨5, 0, true, [.int .i64 p0.kind, .int .i64 p0.n, .str p0.s, .ms 2 5 0 (List.length p0.list), .sl (Fld.rows p0.fields)]⟩), (1, ⟨5, 0, true, [.int .i64 0, .int .i64 0, .str eB, .ms 3 5 0 0, .ms 4 6 0 0]⟩), (2, ⟨5, 0, true, (Val.rows p0.list).flatten⟩), (3, ⟨5, 0, true, []⟩), (4, ⟨6, 0, true, []⟩)], 69⟩
theorem Q12p (p0 : Val) (i0 : Nat) : VOK (Go.Pv.look (number 0 (Qi6 p0 i0))) [(2, Val.rows p0.list)] := (VOK.cons (show Seen _ _ from Q3i (ob := ⟨5, 0, true, (Val.rows p0.list).flatten⟩) (Val.Q7 p0.list 5 rfl)) VOK.nil)
def Qa1 (p0 : Val) (e : En) (_q : Unit) : Prop := ∃ z zo, Q5 G e (.st (.exit 0) (Qoo p0 z zo))
theorem Qt9 (p0 : Val) {e e' : En} (h : ∀ r, Q5 G e r → Q5 G e' r) : ∀ q, Qa1 p0 e q → Qa1 p0 e' q
  | _, ⟨z, zo, hz⟩ => ⟨z, zo, h _ hz⟩
def Q13x (p0 : Val) : List Fld → Nat → Unit
 | [], _i1 =>
  ()
 | _x1 :: r1, i1 =>
  Q13x p0 r1 (i1 + 1)
def Qw6 (p0 : Val) (i1 : Nat) : List PV :=
  [.un, .bx 0 0, .bx 1 0] ++ nuns 28 ++ [.ms 2 6 0 (List.length p0.fields), .int .i64 ((List.length p0.fields) : Int), .int .i64 (i1 : Int)] ++ nuns 14
def Qi7 (p0 : Val) (_i1 : Nat) : List Ob :=
  [⟨5, 0, true, [.int .i64 p0.kind, .int .i64 p0.n, .str p0.s, .ms 3 5 0 (List.length p0.list), .ms 2 6 0 (List.length p0.fields)]⟩, ⟨5, 0, true, [.int .i64 0, .int .i64 0, .str eB, .ms 4 5 0 0, .ms 5 6 0 0]⟩, ⟨6, 0, true, (Fld.rows p0.fields).flatten⟩, ⟨5, 0, true, (Val.rows p0.list).flatten⟩, ⟨5, 0, true, []⟩, ⟨6, 0, true, []⟩]
def Qf9 (p0 : Val) (i1 : Nat) : En := .loop 0 Ir.Qjp Ir.Q1h5 (Qw6 p0 i1) (Qi7 p0 i1)
def Qop (p0 : Val) (z : Nat → PV) (_zo : Nat → List PV) : St :=
  ⟨[z 0, .bx 0 0, .bx 1 0] ++ zr z 3 45, [(0, ⟨5, 0, true, [.int .i64 p0.kind, .int .i64 p0.n, .str p0.s, .ms 3 5 0 (List.length p0.list), .ms 2 6 0 (List.length p0.fields)]⟩), (1, ⟨5, 0, true, [.int .i64 0, .int .i64 0, .str eB, .ms 4 5 0 0, .ms 5 6 0 0]⟩), (2, ⟨6, 0, true, (Fld.rows p0.fields).flatten⟩), (3, ⟨5, 0, true, (Val.rows p0.list).flatten⟩), (4, ⟨5, 0, true, []⟩), (5, ⟨6, 0, true, []⟩)], 70⟩
theorem Q12q (p0 : Val) (i1 : Nat) : VOK (Go.Pv.look (number 0 (Qi7 p0 i1))) [(2, Fld.rows p0.fields), (3, Val.rows p0.list)] := (VOK.cons (show Seen _ _ from Q3i (ob := ⟨6, 0, true, (Fld.rows p0.fields).flatten⟩) (Fld.Q7 p0.fields 6 rfl)) (VOK.cons (show Seen _ _ from Q3i (ob := ⟨5, 0, true, (Val.rows p0.list).flatten⟩) (Val.Q7 p0.list 5 rfl)) VOK.nil))
def Qa2 (p0 : Val) (e : En) (_q : Unit) : Prop := ∃ z zo, Q5 G e (.st (.exit 2) (Qop p0 z zo))
theorem Qta (p0 : Val) {e e' : En} (h : ∀ r, Q5 G e r → Q5 G e' r) : ∀ q, Qa2 p0 e q → Qa2 p0 e' q
  | _, ⟨z, zo, hz⟩ => ⟨z, zo, h _ hz⟩
theorem Q1z6 (p0 : Val) : Q1r8 p0 = (p0) := by
  rfl
def Q1e0 (p0 : Val) : En := .call 189 [.agg (Val.cells p0)] []
def Q1ac (p0 : Val) : Rs := .ret (.agg (Val.cells (Q1r8 p0))) []
abbrev Qmw (p0 : Val) : Prop := Val.Sm 1000000000 p0
def Qat (p0 : Val) : Prop := ∀ (q : Val), SizeOf.sizeOf q < SizeOf.sizeOf p0 → Qmw q → Q5 G (Q1e0 q) (Q1ac q)
def Qg3 (p0 : Val) : Prop := (List.length p0.list ≤ 4611686018427387904) ∧ (∀ x0 ∈ p0.list, Qmw x0) ∧ True
def Qg4 (p0 : Val) : Prop := (List.length p0.fields ≤ 4611686018427387904) ∧ (∀ x1 ∈ p0.fields, Qmw x1.v) ∧ True
theorem Qh6 (p0 : Val) (H : Qmw p0) : (List.length p0.list * 80 ≤ 140737488355328) ∧ (Qg3 p0) ∧ (List.length p0.fields * 96 ≤ 140737488355328) ∧ (Qg4 p0) ∧ True := by
  obtain ⟨h1, h2, h3, h4⟩ := H.all
  exact ⟨by omega, ⟨by omega, h3, trivial⟩, by omega, ⟨by omega, h4, trivial⟩, trivial⟩
def Qqd (p0 : Val) (i0 : Nat) : List PV :=
  nuns 12 ++ [.ms 2 5 0 (List.length p0.list), .int .i64 ((List.length p0.list) : Int), .int .i64 (i0 : Int), .bool false]
def Qld (_p0 : Val) (_i0 : Nat) : List (Nat × List PV) :=
  []
theorem Q19m (p0 : Val) (_H : Qg3 p0) (_rec : Qat p0) (i0 : Nat) (hc0 : (decide ((i0 : Int) < ((List.length p0.list) : Int))) = false) : Qa1 p0 (Qf8 p0 i0) () := by
 exact ⟨(envF (Qqd p0 i0)), (zoF (Qld p0 i0)), Qj (Q12p p0 i0) (x := ((.exit 0), Qoo p0 (envF (Qqd p0 i0)) (zoF (Qld p0 i0)))) [hB 0 hc0] [] (by kernel_rfl)⟩
theorem Q17f (p0 : Val) (H : Qg3 p0) (rec : Qat p0) (x0 : Val) (i0 : Nat) (hx0 : p0.list[i0]? = some x0) (hi0 : i0 < List.length p0.list) (hc0 : (decide ((i0 : Int) < ((List.length p0.list) : Int))) = true) {r : Rs} (hr : Q5 G (Qf8 p0 (i0 + 1)) r) : Q5 G (Qf8 p0 i0) r := by
 have hB0 := H.1
 exact Qd (Q12p p0 i0) (y := (Qw5 p0 (i0 + 1), Qi6 p0 (i0 + 1))) [hB 0 hc0, hP 1 (Q4s 2 5 (List.length p0.list) (i0 : Int) i0 (by omega) (by omega) (by omega)), hP 0 (Qaf 2 5 0 true ((Val.rows p0.list).flatten) (Val.rows p0.list) 5 true i0 0 (i0 * 5) (Val.cells x0) (.agg [.int .i64 x0.kind, .int .i64 x0.n, .str x0.s, .sl (Val.rows x0.list), .sl (Fld.rows x0.fields)]) rfl rfl (Val.Qe hx0) (Val.Ql p0.list) (by decide) rfl), hP 8 (Q4s 2 5 (List.length p0.list) (i0 : Int) i0 (by omega) (by omega) (by omega)), hV 0 [(2, Val.rows p0.list)] (Q1cz 2 5 true ((Val.rows p0.list).flatten) (Val.rows p0.list) (Val.rows p0.list) 5 i0 0 (i0 * 5) _ (.agg [.int .i64 x0.kind, .int .i64 x0.n, .str x0.s, .sl (Val.rows x0.list), .sl (Fld.rows x0.fields)]) rfl rfl (Val.Qe hx0) (Val.Ql p0.list) (by decide) rfl rfl (Q11d (Val.Qe hx0))), hS 0 true (Val.Q7 p0.list 5 rfl), hP 0 (Q28 i0 (by omega))] [aN (rec x0 (szL hx0) (H.2.1 x0 (Q2o hx0)))] (by kernel_rfl) hr
theorem Qz9 (p0 : Val) (H : Qg3 p0) (rec : Qat p0) : ∀ (r0 : List Val) (i0 : Nat), List.drop i0 p0.list = r0 → Qa1 p0 (Qf8 p0 i0) (Q13w p0 r0 i0)
 | [], i0, hd => by
  have hc0 : (decide ((i0 : Int) < ((List.length p0.list) : Int))) = false := by have := Q1o hd; simp; omega
  show Qa1 p0 _ ()
  exact Q19m p0 H rec i0 hc0
 | x0 :: r0, i0, hd => by
  obtain ⟨hx0, hi0, hd'⟩ := Q1i hd
  have hc0 : (decide ((i0 : Int) < ((List.length p0.list) : Int))) = true := by simp; omega
  show Qa1 p0 _ ()
  exact Qt9 p0 (fun r hr => Q17f p0 H rec x0 i0 hx0 hi0 hc0 hr) _ (Qz9 p0 H rec r0 (i0 + 1) hd')
def Qqe (p0 : Val) (i1 : Nat) : List PV :=
  nuns 31 ++ [.ms 2 6 0 (List.length p0.fields), .int .i64 ((List.length p0.fields) : Int), .int .i64 (i1 : Int), .bool false]
def Qle (_p0 : Val) (_i1 : Nat) : List (Nat × List PV) :=
  []
theorem Q19n (p0 : Val) (_H : Qg4 p0) (_rec : Qat p0) (i1 : Nat) (hc1 : (decide ((i1 : Int) < ((List.length p0.fields) : Int))) = false) : Qa2 p0 (Qf9 p0 i1) () := by
 exact ⟨(envF (Qqe p0 i1)), (zoF (Qle p0 i1)), Qj (Q12q p0 i1) (x := ((.exit 2), Qop p0 (envF (Qqe p0 i1)) (zoF (Qle p0 i1)))) [hB 0 hc1] [] (by kernel_rfl)⟩
theorem Q17g (p0 : Val) (H : Qg4 p0) (rec : Qat p0) (x1 : Fld) (i1 : Nat) (hx1 : p0.fields[i1]? = some x1) (hi1 : i1 < List.length p0.fields) (hc1 : (decide ((i1 : Int) < ((List.length p0.fields) : Int))) = true) {r : Rs} (hr : Q5 G (Qf9 p0 (i1 + 1)) r) : Q5 G (Qf9 p0 i1) r := by
 have hB0 := H.1
 exact Qd (Q12q p0 i1) (y := (Qw6 p0 (i1 + 1), Qi7 p0 (i1 + 1))) [hB 0 hc1, hP 1 (Q4s 2 6 (List.length p0.fields) (i1 : Int) i1 (by omega) (by omega) (by omega)), hP 0 (Qaf 2 6 0 true ((Fld.rows p0.fields).flatten) (Fld.rows p0.fields) 6 true i1 0 (i1 * 6) (Fld.cells x1) (.agg [.str x1.name, .int .i64 x1.v.kind, .int .i64 x1.v.n, .str x1.v.s, .sl (Val.rows x1.v.list), .sl (Fld.rows x1.v.fields)]) rfl rfl (Fld.Qe hx1) (Fld.Ql p0.fields) (by decide) rfl), hP 9 (Q4s 2 6 (List.length p0.fields) (i1 : Int) i1 (by omega) (by omega) (by omega)), hV 1 [(2, Fld.rows p0.fields)] (Q1cz 2 6 true ((Fld.rows p0.fields).flatten) (Fld.rows p0.fields) (Fld.rows p0.fields) 5 i1 1 (i1 * 6 + 1) _ (.agg [.int .i64 x1.v.kind, .int .i64 x1.v.n, .str x1.v.s, .sl (Val.rows x1.v.list), .sl (Fld.rows x1.v.fields)]) rfl rfl (Fld.Qe hx1) (Fld.Ql p0.fields) (by decide) rfl rfl (Q11d (Fld.Qe hx1))), hS 0 true (Fld.Q7 p0.fields 6 rfl), hP 0 (Q28 i1 (by omega))] [aN (rec x1.v (szF hx1) (H.2.1 x1 (Q2o hx1)))] (by kernel_rfl) hr
theorem Qza (p0 : Val) (H : Qg4 p0) (rec : Qat p0) : ∀ (r1 : List Fld) (i1 : Nat), List.drop i1 p0.fields = r1 → Qa2 p0 (Qf9 p0 i1) (Q13x p0 r1 i1)
 | [], i1, hd => by
  have hc1 : (decide ((i1 : Int) < ((List.length p0.fields) : Int))) = false := by have := Q1o hd; simp; omega
  show Qa2 p0 _ ()
  exact Q19n p0 H rec i1 hc1
 | x1 :: r1, i1, hd => by
  obtain ⟨hx1, hi1, hd'⟩ := Q1i hd
  have hc1 : (decide ((i1 : Int) < ((List.length p0.fields) : Int))) = true := by simp; omega
  show Qa2 p0 _ ()
  exact Qta p0 (fun r hr => Q17g p0 H rec x1 i1 hx1 hi1 hc1 hr) _ (Qza p0 H rec r1 (i1 + 1) hd')
theorem Q202 (p0 : Val) (H : Qmw p0) (rec : Qat p0) : Q5 G (Q1e0 p0) (Q1ac p0) := by
  unfold Q1ac
  rw [Q1z6]
  have hl0 := Qz9 p0 ((Qh6 p0 H).2.1) rec p0.list 0 (by simp)
  obtain ⟨z0, zo0, hl0⟩ := hl0
  have hl1 := Qza p0 ((Qh6 p0 H).2.2.2.1) rec p0.fields 0 (by simp)
  obtain ⟨z1, zo1, hl1⟩ := hl1
  exact Q6 (fn := Ir.K53) rfl VOK.nil [hQ (Val.Q7 p0.list 5 rfl), hS 0 true (Val.Q7 p0.list 5 rfl), hQ (Fld.Q7 p0.fields 6 rfl), hS 0 true (Fld.Q7 p0.fields 6 rfl), hS 0 true (Val.Q7 p0.list 5 rfl), hQ (Val.Q0 p0.list).symm, hQ (Fld.Q0 p0.fields).symm] [aV [(0, Val.rows p0.list)] (Q8r (G := G) (f := 222) (sz := 5) (bytes := 80) rfl (Val.Q0 p0.list) (Val.Q7 p0.list 5 rfl) (Qh6 p0 H).1), aV [(2, Val.rows p0.list)] hl0, aV [(0, Fld.rows p0.fields)] (Q8r (G := G) (f := 185) (sz := 6) (bytes := 96) rfl (Fld.Q0 p0.fields) (Fld.Q7 p0.fields 6 rfl) (Qh6 p0 H).2.2.1), aV [(2, Fld.rows p0.fields), (3, Val.rows p0.list)] hl1] (by kernel_rfl)
theorem Q1qg : ∀ (k : Nat) (p0 : Val), SizeOf.sizeOf p0 < k → Qmw p0 → Q5 G (Q1e0 p0) (Q1ac p0)
  | 0, _, h, _ => absurd h (Nat.not_lt_zero _)
  | k + 1, p0, h, H => Q202 p0 H (fun q hq hH => Q1qg k q (by omega) hH)
theorem Q1jx (p0 : Val) (H : Qmw p0) : Q5 G (Q1e0 p0) (Q1ac p0) := Q1qg _ p0 (Nat.lt_succ_self _) H
inductive Q120 where
  | k0
  | k1 (q0 : Val)
def Q7c (p0 : Val) (p1 : BA) : List Fld → Nat → Q120
 | [], _i0 =>
  (.k0)
 | x0 :: r0, i0 =>
  bif (sEq x0.name p1) then
   (.k1 x0.v)
  else
   Q7c p0 p1 r0 (i0 + 1)
def Qw4 (p0 : Val) (p1 : BA) (i0 : Nat) : List PV :=
  [.un, .str p1, .un, .un, .bx 0 0] ++ nuns 7 ++ [.sl (Fld.rows p0.fields), .int .i64 ((List.length p0.fields) : Int), .int .i64 (i0 : Int)] ++ nuns 12
def Qwk (_p0 : Val) (_p1 : BA) (_i0 : Nat) : List Ob :=
  [⟨5, 0, true, [.int .i64 0, .int .i64 0, .str eB, .ms 1 5 0 0, .ms 2 6 0 0]⟩, ⟨5, 0, true, []⟩, ⟨6, 0, true, []⟩]
def Qbk (p0 : Val) (p1 : BA) (i0 : Nat) : En := .loop 0 Ir.Qjm Ir.Q1h2 (Qw4 p0 p1 i0) (Qwk p0 p1 i0)
def Qol (_p0 : Val) (_p1 : BA) (z : Nat → PV) (_zo : Nat → List PV) : St :=
  ⟨[z 0, z 1, z 2, z 3, .bx 0 0] ++ zr z 5 22, [(0, ⟨5, 0, true, [.int .i64 0, .int .i64 0, .str eB, .ms 1 5 0 0, .ms 2 6 0 0]⟩), (1, ⟨5, 0, true, []⟩), (2, ⟨6, 0, true, []⟩)], 67⟩
def Qom (_p0 : Val) (_p1 : BA) (q0 : Val) (z : Nat → PV) (zo : Nat → List PV) : St :=
  ⟨[z 0, z 1, z 2, z 3, .bx 0 0, .bool true] ++ zr z 6 21, [(0, ⟨5, 0, true, [.int .i64 q0.kind, .int .i64 q0.n, .str q0.s, .sl (Val.rows q0.list), .sl (Fld.rows q0.fields)]⟩), (1, ⟨5, 0, true, zo 1⟩), (2, ⟨6, 0, true, zo 2⟩), (195, ⟨6, 0, true, zo 195⟩)], 899⟩
def Qbz (p0 : Val) (p1 : BA) (e : En) : Q120 → Prop
  | .k0 => ∃ z zo, Q5 G e (.st (.exit 0) (Qol p0 p1 z zo))
  | .k1 q0 => ∃ z zo, Q5 G e (.st .ret (Qom p0 p1 q0 z zo))
theorem Qt8 (p0 : Val) (p1 : BA) {e e' : En} (h : ∀ r, Q5 G e r → Q5 G e' r) : ∀ q, Qbz p0 p1 e q → Qbz p0 p1 e' q
  | .k0, ⟨z, zo, hz⟩ => ⟨z, zo, h _ hz⟩
  | .k1 _, ⟨z, zo, hz⟩ => ⟨z, zo, h _ hz⟩
def Qbr (p0 : Val) (_p1 : BA) : Prop := (List.length p0.fields ≤ 4611686018427387904) ∧ (∀ x0 ∈ p0.fields, Qmw x0.v) ∧ True
def Qqa (p0 : Val) (p1 : BA) (i0 : Nat) : List PV :=
  [.un, .str p1] ++ nuns 10 ++ [.sl (Fld.rows p0.fields), .int .i64 ((List.length p0.fields) : Int), .int .i64 (i0 : Int), .bool false]
def Qla (_p0 : Val) (_p1 : BA) (_i0 : Nat) : List (Nat × List PV) :=
  []
theorem Q19j (p0 : Val) (p1 : BA) (_H : Qbr p0 p1) (i0 : Nat) (hc0 : (decide ((i0 : Int) < ((List.length p0.fields) : Int))) = false) : Qbz p0 p1 (Qbk p0 p1 i0) (.k0) := by
 exact ⟨(envF (Qqa p0 p1 i0)), (zoF (Qla p0 p1 i0)), Qj VOK.nil (x := ((.exit 0), Qol p0 p1 (envF (Qqa p0 p1 i0)) (zoF (Qla p0 p1 i0)))) [hB 0 hc0] [] (by kernel_rfl)⟩
def Qqb (p0 : Val) (p1 : BA) (i0 : Nat) (x0 : Fld) : List PV :=
  [.un, .str p1] ++ nuns 5 ++ [.bx 195 0, .un, .un, .un, .un, .sl (Fld.rows p0.fields), .int .i64 ((List.length p0.fields) : Int), .int .i64 (i0 : Int), .bool true, .rf [.str x0.name, .int .i64 x0.v.kind, .int .i64 x0.v.n, .str x0.v.s, .sl (Val.rows x0.v.list), .sl (Fld.rows x0.v.fields)], .agg [.str x0.name, .int .i64 x0.v.kind, .int .i64 x0.v.n, .str x0.v.s, .sl (Val.rows x0.v.list), .sl (Fld.rows x0.v.fields)], .bx 195 0, .str x0.name, .str p1, .bool true, .bx 195 1, .agg [.int .i64 x0.v.kind, .int .i64 x0.v.n, .str x0.v.s, .sl (Val.rows x0.v.list), .sl (Fld.rows x0.v.fields)], .agg [.int .i64 x0.v.kind, .int .i64 x0.v.n, .str x0.v.s, .sl (Val.rows x0.v.list), .sl (Fld.rows x0.v.fields)]]
def Qlb (_p0 : Val) (_p1 : BA) (_i0 : Nat) (x0 : Fld) : List (Nat × List PV) :=
  [(1, []), (2, []), (195, [.str x0.name, .int .i64 x0.v.kind, .int .i64 x0.v.n, .str x0.v.s, .sl (Val.rows x0.v.list), .sl (Fld.rows x0.v.fields)])]
theorem Q19k (p0 : Val) (p1 : BA) (H : Qbr p0 p1) (x0 : Fld) (i0 : Nat) (hx0 : p0.fields[i0]? = some x0) (_hi0 : i0 < List.length p0.fields) (hc0 : (decide ((i0 : Int) < ((List.length p0.fields) : Int))) = true) (h0 : (sEq x0.name p1) = true) : Qbz p0 p1 (Qbk p0 p1 i0) (.k1 x0.v) := by
 exact ⟨(envF (Qqb p0 p1 i0 x0)), (zoF (Qlb p0 p1 i0 x0)), Qj VOK.nil (x := (.ret, Qom p0 p1 x0.v (envF (Qqb p0 p1 i0 x0)) (zoF (Qlb p0 p1 i0 x0)))) [hB 0 hc0, hP 0 (Q2g 6 (Fld.rows p0.fields) i0 _ (Fld.Qe hx0) rfl), hB 6 h0] [aN (Q1jx x0.v (H.2.1 x0 (Q2o hx0)))] (by kernel_rfl)⟩
theorem Q17b (p0 : Val) (p1 : BA) (H : Qbr p0 p1) (x0 : Fld) (i0 : Nat) (hx0 : p0.fields[i0]? = some x0) (hi0 : i0 < List.length p0.fields) (hc0 : (decide ((i0 : Int) < ((List.length p0.fields) : Int))) = true) (h0 : (sEq x0.name p1) = false) {r : Rs} (hr : Q5 G (Qbk p0 p1 (i0 + 1)) r) : Q5 G (Qbk p0 p1 i0) r := by
 have hB0 := H.1
 exact Qd VOK.nil (y := (Qw4 p0 p1 (i0 + 1), Qwk p0 p1 (i0 + 1))) [hB 0 hc0, hP 0 (Q2g 6 (Fld.rows p0.fields) i0 _ (Fld.Qe hx0) rfl), hB 6 h0, hP 0 (Q28 i0 (by omega))] [] (by kernel_rfl) hr
theorem Qz8 (p0 : Val) (p1 : BA) (H : Qbr p0 p1) : ∀ (r0 : List Fld) (i0 : Nat), List.drop i0 p0.fields = r0 → Qbz p0 p1 (Qbk p0 p1 i0) (Q7c p0 p1 r0 i0)
 | [], i0, hd => by
  have hc0 : (decide ((i0 : Int) < ((List.length p0.fields) : Int))) = false := by have := Q1o hd; simp; omega
  rw [Q7c]
  exact Q19j p0 p1 H i0 hc0
 | x0 :: r0, i0, hd => by
  obtain ⟨hx0, hi0, hd'⟩ := Q1i hd
  have hc0 : (decide ((i0 : Int) < ((List.length p0.fields) : Int))) = true := by simp; omega
  rw [Q7c]
  cases h0 : (sEq x0.name p1) with
  | true =>
   exact Q19k p0 p1 H x0 i0 hx0 hi0 hc0 h0
  | false =>
   exact Qt8 p0 p1 (fun r hr => Q17b p0 p1 H x0 i0 hx0 hi0 hc0 h0 hr) _ (Qz8 p0 p1 H r0 (i0 + 1) hd')
def Qn3 (p0 : Val) (p1 : BA) : Val × Bool :=
 bif (p0.kind == 5) then
  (match (Q7c p0 p1 p0.fields 0) with
  | .k0 => ((Val.mk 0 0 eB [] []), false)
  | .k1 y1_0 => (y1_0, true))
 else
  ((Val.mk 0 0 eB [] []), false)
def Q1xf (p0 : Val) (p1 : BA) : En := .call 184 [.agg (Val.cells p0), .str p1] []
def Q1p9 (p0 : Val) (p1 : BA) : Rs := .ret (.tup [.agg (Val.cells (Qn3 p0 p1).1), .bool (Qn3 p0 p1).2]) []
def Q1dk (p0 : Val) (p1 : BA) : Prop := (Qbr p0 p1) ∧ True
theorem Q1fw (p0 : Val) (p1 : BA) (H : Q1dk p0 p1) : Q5 G (Q1xf p0 p1) (Q1p9 p0 p1) := by
 unfold Q1p9 Qn3
 cases h0 : (p0.kind == 5) with
 | true =>
  have hl1 := Qz8 p0 p1 (H.1) p0.fields 0 (by simp)
  cases hr1 : (Q7c p0 p1 p0.fields 0) with
  | k0 =>
   rw [hr1] at hl1
   obtain ⟨z1, zo1, hl1⟩ := hl1
   exact Q6 (fn := Ir.K4x) rfl VOK.nil [hB 5 h0, hP 2 (Qw (Fld.rows p0.fields) (List.length p0.fields) (Fld.Q0 p0.fields))] [aN hl1] (by kernel_rfl)
  | k1 y1_0 =>
   rw [hr1] at hl1
   obtain ⟨z1, zo1, hl1⟩ := hl1
   exact Q6 (fn := Ir.K4x) rfl VOK.nil [hB 5 h0, hP 2 (Qw (Fld.rows p0.fields) (List.length p0.fields) (Fld.Q0 p0.fields))] [aN hl1] (by kernel_rfl)
 | false =>
  exact Q6 (fn := Ir.K4x) rfl VOK.nil [hB 5 h0] [] (by kernel_rfl)
def Qml (p0 : List Val) : Val :=
 (Val.mk 4 0 eB p0 [])
def Q1xh (p0 : List Val) : En := .call 256 [.sl (Val.rows p0)] []
def Q1pb (p0 : List Val) : Rs := .ret (.agg (Val.cells (Qml p0))) []
def Qmv (p0 : List Val) : Prop := (Qmw (Val.mk 4 0 eB p0 [])) ∧ True
theorem Quz (p0 : List Val) (H : Qmv p0) : Q5 G (Q1xh p0) (Q1pb p0) := by
 unfold Q1pb Qml
 exact Q6 (fn := Ir.K4z) rfl VOK.nil [] [aN (Q1jx (Val.mk 4 0 eB p0 []) H.1)] (by kernel_rfl)
end Go.Proofs.YtimjjohlpnkacaaGreat
end

section
/- What building a map computes (printed by a program). -/
namespace Go.Proofs.YtimjjohlpnkacaaGreat
open Go.Pv
def Q1jf (p0 : BA) (p1 : BA) : Int :=
 (sCmp p0 p1)
def Q1xd (p0 : BA) (p1 : BA) : En := .call 188 [.str p0, .str p1] []
def Q1p7 (p0 : BA) (p1 : BA) : Rs := .ret (.int .i64 (Q1jf p0 p1)) []
theorem Q21v (p0 : BA) (p1 : BA) : Q5 G (Q1xd p0 p1) (Q1p7 p0 p1) := by
 unfold Q1p7 Q1jf
 exact Q6 (fn := Ir.K4v) rfl VOK.nil [] [aN (Q1fx p0 p1)] (by kernel_rfl)
def Qzt (p0 : Fld) (p1 : Fld) : Int :=
 (Q1jf p0.name p1.name)
def Q1xi (p0 : Fld) (p1 : Fld) : En := .call 187 [.agg (Fld.cells p0), .agg (Fld.cells p1)] []
def Q1pd (p0 : Fld) (p1 : Fld) : Rs := .ret (.int .i64 (Qzt p0 p1)) []
theorem Q1rk (p0 : Fld) (p1 : Fld) : Q5 G (Q1xi p0 p1) (Q1pd p0 p1) := by
 unfold Q1pd Qzt
 exact Q6 (fn := Ir.K51) rfl VOK.nil [] [aN (Q21v p0.name p1.name)] (by kernel_rfl)
abbrev zF : Fld := (Fld.mk eB (Val.mk 0 0 eB [] []))
def Q3o (n0 : Nat) (p1 : Int) (p2 : Int) (v0_0 : Int) : Nat → (List Fld) → Int → List Fld
 | 0, v1_0, _v1_1 => v1_0
 | k1 + 1, v1_0, v1_1 =>
  bif (decide (p1 < v1_1)) then
   bif (decide ((Qzt (List.getD v1_0 (Int.toNat v1_1) zF) (List.getD v1_0 (Int.toNat (v1_1 - 1)) zF)) < 0)) then
    Q3o n0 p1 p2 v0_0 k1 (List.set (List.set v1_0 (Int.toNat v1_1) (List.getD v1_0 (Int.toNat (v1_1 - 1)) zF)) (Int.toNat (v1_1 - 1)) (List.getD v1_0 (Int.toNat v1_1) zF)) (v1_1 - 1)
   else
    v1_0
  else
   v1_0
def Qw2 (n0 : Nat) (p1 : Int) (p2 : Int) (v0_0 : Int) (_v1_0 : List Fld) (v1_1 : Int) : List PV :=
  [.ms 0 6 0 n0, .int .i64 p1, .int .i64 p2, .fn 187 [] [], .un, .un, .un, .un, .int .i64 v0_0, .int .i64 v1_1] ++ nuns 43
def Qi4 (_n0 : Nat) (_p1 : Int) (_p2 : Int) (_v0_0 : Int) (v1_0 : List Fld) (_v1_1 : Int) : List Ob :=
  [⟨6, 0, false, (Fld.rows v1_0).flatten⟩]
def Q9r (n0 : Nat) (p1 : Int) (p2 : Int) (v0_0 : Int) (v1_0 : List Fld) (v1_1 : Int) : En := .loop 1 Ir.Qjj Ir.Q1gz (Qw2 n0 p1 p2 v0_0 v1_0 v1_1) (Qi4 n0 p1 p2 v0_0 v1_0 v1_1)
def Qa4 (n0 : Nat) (p1 : Int) (p2 : Int) (v0_0 : Int) (q0 : List Fld) (z : Nat → PV) (_zo : Nat → List PV) : St :=
  ⟨[.ms 0 6 0 n0, .int .i64 p1, .int .i64 p2, .fn 187 [] [], z 4, z 5, z 6, z 7, .int .i64 v0_0] ++ zr z 9 44, [(0, ⟨6, 0, false, (Fld.rows q0).flatten⟩)], 1089⟩
theorem Qts (n0 : Nat) (p1 : Int) (p2 : Int) (v0_0 : Int) (v1_0 : List Fld) (v1_1 : Int) : VOK (Go.Pv.look (number 0 (Qi4 n0 p1 p2 v0_0 v1_0 v1_1))) [(0, Fld.rows v1_0)] := (VOK.cons (show Seen _ _ from Q3i (ob := ⟨6, 0, false, (Fld.rows v1_0).flatten⟩) (Fld.Q7 v1_0 6 rfl)) VOK.nil)
def Qby (n0 : Nat) (p1 : Int) (p2 : Int) (v0_0 : Int) (e : En) (q : List Fld) : Prop := ∃ z zo, Q5 G e (.st (.exit 2) (Qa4 n0 p1 p2 v0_0 q z zo))
theorem Qt6 (n0 : Nat) (p1 : Int) (p2 : Int) (v0_0 : Int) {e e' : En} (h : ∀ r, Q5 G e r → Q5 G e' r) : ∀ q, Qby n0 p1 p2 v0_0 e q → Qby n0 p1 p2 v0_0 e' q
  | _, ⟨z, zo, hz⟩ => ⟨z, zo, h _ hz⟩
theorem Q179 (n0 : Nat) (p1 : Int) (p2 : Int) (v0_0 : Int) (v1_0 : List Fld) (v1_1 : Int) (ho1_0 : 0 ≤ p1) (_ho1_1 : p1 ≤ v1_1) (ho1_2 : v1_1 < n0) (ho1_3 : (n0 : Int) ≤ 20) (ho1_4 : List.length v1_0 = n0) (h0 : (decide (p1 < v1_1)) = true) (h1 : (decide ((Qzt (List.getD v1_0 (Int.toNat v1_1) zF) (List.getD v1_0 (Int.toNat (v1_1 - 1)) zF)) < 0)) = true) {r : Rs} (hr : Q5 G (Q9r n0 p1 p2 v0_0 (List.set (List.set v1_0 (Int.toNat v1_1) (List.getD v1_0 (Int.toNat (v1_1 - 1)) zF)) (Int.toNat (v1_1 - 1)) (List.getD v1_0 (Int.toNat v1_1) zF)) (v1_1 - 1)) r) : Q5 G (Q9r n0 p1 p2 v0_0 v1_0 v1_1) r := by
 have e0 := of_decide_eq_true h0; have e1 := of_decide_eq_true h1
 exact Qd (Qts n0 p1 p2 v0_0 v1_0 v1_1) (y := (Qw2 n0 p1 p2 v0_0 (List.set (List.set v1_0 (Int.toNat v1_1) (List.getD v1_0 (Int.toNat (v1_1 - 1)) zF)) (Int.toNat (v1_1 - 1)) (List.getD v1_0 (Int.toNat v1_1) zF)) (v1_1 - 1), Qi4 n0 p1 p2 v0_0 (List.set (List.set v1_0 (Int.toNat v1_1) (List.getD v1_0 (Int.toNat (v1_1 - 1)) zF)) (Int.toNat (v1_1 - 1)) (List.getD v1_0 (Int.toNat v1_1) zF)) (v1_1 - 1))) [hB 2 h0, hP 4 (Q4s 0 6 n0 v1_1 (Int.toNat v1_1) rfl (by omega) (by omega)), hP 0 (Qaf 0 6 0 false ((Fld.rows v1_0).flatten) (Fld.rows v1_0) 6 true (Int.toNat v1_1) 0 ((Int.toNat v1_1) * 6) (Fld.cells (List.getD v1_0 (Int.toNat v1_1) zF)) (.agg [.str (List.getD v1_0 (Int.toNat v1_1) zF).name, .int .i64 (List.getD v1_0 (Int.toNat v1_1) zF).v.kind, .int .i64 (List.getD v1_0 (Int.toNat v1_1) zF).v.n, .str (List.getD v1_0 (Int.toNat v1_1) zF).v.s, .sl (Val.rows (List.getD v1_0 (Int.toNat v1_1) zF).v.list), .sl (Fld.rows (List.getD v1_0 (Int.toNat v1_1) zF).v.fields)]) rfl rfl (Fld.Qe (Q50 v1_0 (Int.toNat v1_1) zF (by omega))) (Fld.Ql v1_0) (by decide) rfl), hP 2 (w_ok (v1_1 - 1) (by omega)), hP 0 (Q4s 0 6 n0 (v1_1 - 1) (Int.toNat (v1_1 - 1)) rfl (by omega) (by omega)), hP 0 (Qaf 0 6 0 false ((Fld.rows v1_0).flatten) (Fld.rows v1_0) 6 true (Int.toNat (v1_1 - 1)) 0 ((Int.toNat (v1_1 - 1)) * 6) (Fld.cells (List.getD v1_0 (Int.toNat (v1_1 - 1)) zF)) (.agg [.str (List.getD v1_0 (Int.toNat (v1_1 - 1)) zF).name, .int .i64 (List.getD v1_0 (Int.toNat (v1_1 - 1)) zF).v.kind, .int .i64 (List.getD v1_0 (Int.toNat (v1_1 - 1)) zF).v.n, .str (List.getD v1_0 (Int.toNat (v1_1 - 1)) zF).v.s, .sl (Val.rows (List.getD v1_0 (Int.toNat (v1_1 - 1)) zF).v.list), .sl (Fld.rows (List.getD v1_0 (Int.toNat (v1_1 - 1)) zF).v.fields)]) rfl rfl (Fld.Qe (Q50 v1_0 (Int.toNat (v1_1 - 1)) zF (by omega))) (Fld.Ql v1_0) (by decide) rfl), hB 1 h1, hP 5 (w_ok (v1_1 - 1) (by omega)), hP 2 (w_ok (v1_1 - 1) (by omega)), hP 0 (Q4s 0 6 n0 (v1_1 - 1) (Int.toNat (v1_1 - 1)) rfl (by omega) (by omega)), hP 0 (Qaf 0 6 0 false ((Fld.rows v1_0).flatten) (Fld.rows v1_0) 6 true (Int.toNat (v1_1 - 1)) 0 ((Int.toNat (v1_1 - 1)) * 6) (Fld.cells (List.getD v1_0 (Int.toNat (v1_1 - 1)) zF)) (.agg [.str (List.getD v1_0 (Int.toNat (v1_1 - 1)) zF).name, .int .i64 (List.getD v1_0 (Int.toNat (v1_1 - 1)) zF).v.kind, .int .i64 (List.getD v1_0 (Int.toNat (v1_1 - 1)) zF).v.n, .str (List.getD v1_0 (Int.toNat (v1_1 - 1)) zF).v.s, .sl (Val.rows (List.getD v1_0 (Int.toNat (v1_1 - 1)) zF).v.list), .sl (Fld.rows (List.getD v1_0 (Int.toNat (v1_1 - 1)) zF).v.fields)]) rfl rfl (Fld.Qe (Q50 v1_0 (Int.toNat (v1_1 - 1)) zF (by omega))) (Fld.Ql v1_0) (by decide) rfl), hP 2 (Q4s 0 6 n0 v1_1 (Int.toNat v1_1) rfl (by omega) (by omega)), hP 0 (Qaf 0 6 0 false ((Fld.rows v1_0).flatten) (Fld.rows v1_0) 6 true (Int.toNat v1_1) 0 ((Int.toNat v1_1) * 6) (Fld.cells (List.getD v1_0 (Int.toNat v1_1) zF)) (.agg [.str (List.getD v1_0 (Int.toNat v1_1) zF).name, .int .i64 (List.getD v1_0 (Int.toNat v1_1) zF).v.kind, .int .i64 (List.getD v1_0 (Int.toNat v1_1) zF).v.n, .str (List.getD v1_0 (Int.toNat v1_1) zF).v.s, .sl (Val.rows (List.getD v1_0 (Int.toNat v1_1) zF).v.list), .sl (Fld.rows (List.getD v1_0 (Int.toNat v1_1) zF).v.fields)]) rfl rfl (Fld.Qe (Q50 v1_0 (Int.toNat v1_1) zF (by omega))) (Fld.Ql v1_0) (by decide) rfl), hP 0 (Q4s 0 6 n0 v1_1 (Int.toNat v1_1) rfl (by omega) (by omega)), hV 0 [(0, Fld.rows (List.set v1_0 (Int.toNat v1_1) (List.getD v1_0 (Int.toNat (v1_1 - 1)) zF)))] (Q1cz 0 6 false ((Fld.rows v1_0).flatten) (Fld.rows v1_0) (Fld.rows (List.set v1_0 (Int.toNat v1_1) (List.getD v1_0 (Int.toNat (v1_1 - 1)) zF))) 6 (Int.toNat v1_1) 0 ((Int.toNat v1_1) * 6) _ (.agg [.str (List.getD v1_0 (Int.toNat (v1_1 - 1)) zF).name, .int .i64 (List.getD v1_0 (Int.toNat (v1_1 - 1)) zF).v.kind, .int .i64 (List.getD v1_0 (Int.toNat (v1_1 - 1)) zF).v.n, .str (List.getD v1_0 (Int.toNat (v1_1 - 1)) zF).v.s, .sl (Val.rows (List.getD v1_0 (Int.toNat (v1_1 - 1)) zF).v.list), .sl (Fld.rows (List.getD v1_0 (Int.toNat (v1_1 - 1)) zF).v.fields)]) rfl rfl (Fld.Qe (Q50 v1_0 (Int.toNat v1_1) zF (by omega))) (Fld.Ql v1_0) (by decide) rfl rfl (Fld.Qur v1_0 (Int.toNat v1_1) (List.getD v1_0 (Int.toNat (v1_1 - 1)) zF))), hS 0 false (Fld.Q7 (List.set v1_0 (Int.toNat v1_1) (List.getD v1_0 (Int.toNat (v1_1 - 1)) zF)) 6 rfl), hP 0 (Q4s 0 6 n0 (v1_1 - 1) (Int.toNat (v1_1 - 1)) rfl (by have f0 := (Q5n ho1_4 (Int.toNat v1_1) (List.getD v1_0 (Int.toNat (v1_1 - 1)) zF)); omega) (by have f0 := (Q5n ho1_4 (Int.toNat v1_1) (List.getD v1_0 (Int.toNat (v1_1 - 1)) zF)); omega)), hV 0 [(0, Fld.rows (List.set (List.set v1_0 (Int.toNat v1_1) (List.getD v1_0 (Int.toNat (v1_1 - 1)) zF)) (Int.toNat (v1_1 - 1)) (List.getD v1_0 (Int.toNat v1_1) zF)))] (Q1cz 0 6 false ((Fld.rows (List.set v1_0 (Int.toNat v1_1) (List.getD v1_0 (Int.toNat (v1_1 - 1)) zF))).flatten) (Fld.rows (List.set v1_0 (Int.toNat v1_1) (List.getD v1_0 (Int.toNat (v1_1 - 1)) zF))) (Fld.rows (List.set (List.set v1_0 (Int.toNat v1_1) (List.getD v1_0 (Int.toNat (v1_1 - 1)) zF)) (Int.toNat (v1_1 - 1)) (List.getD v1_0 (Int.toNat v1_1) zF))) 6 (Int.toNat (v1_1 - 1)) 0 ((Int.toNat (v1_1 - 1)) * 6) _ (.agg [.str (List.getD v1_0 (Int.toNat v1_1) zF).name, .int .i64 (List.getD v1_0 (Int.toNat v1_1) zF).v.kind, .int .i64 (List.getD v1_0 (Int.toNat v1_1) zF).v.n, .str (List.getD v1_0 (Int.toNat v1_1) zF).v.s, .sl (Val.rows (List.getD v1_0 (Int.toNat v1_1) zF).v.list), .sl (Fld.rows (List.getD v1_0 (Int.toNat v1_1) zF).v.fields)]) rfl rfl (Fld.Qe (Q50 (List.set v1_0 (Int.toNat v1_1) (List.getD v1_0 (Int.toNat (v1_1 - 1)) zF)) (Int.toNat (v1_1 - 1)) zF (by have f0 := (Q5n ho1_4 (Int.toNat v1_1) (List.getD v1_0 (Int.toNat (v1_1 - 1)) zF)); try simp only [List.length_set]; omega))) (Fld.Ql (List.set v1_0 (Int.toNat v1_1) (List.getD v1_0 (Int.toNat (v1_1 - 1)) zF))) (by decide) rfl rfl (Fld.Qur (List.set v1_0 (Int.toNat v1_1) (List.getD v1_0 (Int.toNat (v1_1 - 1)) zF)) (Int.toNat (v1_1 - 1)) (List.getD v1_0 (Int.toNat v1_1) zF))), hS 0 false (Fld.Q7 (List.set (List.set v1_0 (Int.toNat v1_1) (List.getD v1_0 (Int.toNat (v1_1 - 1)) zF)) (Int.toNat (v1_1 - 1)) (List.getD v1_0 (Int.toNat v1_1) zF)) 6 rfl), hP 1 (w_ok (v1_1 - 1) (by have f0 := (Q5n (Q5n ho1_4 (Int.toNat v1_1) (List.getD v1_0 (Int.toNat (v1_1 - 1)) zF)) (Int.toNat (v1_1 - 1)) (List.getD v1_0 (Int.toNat v1_1) zF)); omega))] [aN (Q1rk (List.getD v1_0 (Int.toNat v1_1) zF) (List.getD v1_0 (Int.toNat (v1_1 - 1)) zF))] (by kernel_rfl) hr
def Qq6 (n0 : Nat) (p1 : Int) (_p2 : Int) (_v0_0 : Int) (v1_0 : List Fld) (v1_1 : Int) : List PV :=
  nuns 9 ++ [.int .i64 v1_1] ++ nuns 8 ++ [.int .i64 v1_1, .int .i64 p1, .bool true, .bool true, .fn 187 [] [], .ms 0 6 0 n0, .int .i64 v1_1, .bx 0 ((Int.toNat v1_1) * 6), .agg [.str (List.getD v1_0 (Int.toNat v1_1) zF).name, .int .i64 (List.getD v1_0 (Int.toNat v1_1) zF).v.kind, .int .i64 (List.getD v1_0 (Int.toNat v1_1) zF).v.n, .str (List.getD v1_0 (Int.toNat v1_1) zF).v.s, .sl (Val.rows (List.getD v1_0 (Int.toNat v1_1) zF).v.list), .sl (Fld.rows (List.getD v1_0 (Int.toNat v1_1) zF).v.fields)], .ms 0 6 0 n0, .int .i64 v1_1, .int .i64 (v1_1 - 1), .bx 0 ((Int.toNat (v1_1 - 1)) * 6), .agg [.str (List.getD v1_0 (Int.toNat (v1_1 - 1)) zF).name, .int .i64 (List.getD v1_0 (Int.toNat (v1_1 - 1)) zF).v.kind, .int .i64 (List.getD v1_0 (Int.toNat (v1_1 - 1)) zF).v.n, .str (List.getD v1_0 (Int.toNat (v1_1 - 1)) zF).v.s, .sl (Val.rows (List.getD v1_0 (Int.toNat (v1_1 - 1)) zF).v.list), .sl (Fld.rows (List.getD v1_0 (Int.toNat (v1_1 - 1)) zF).v.fields)], .int .i64 (Qzt (List.getD v1_0 (Int.toNat v1_1) zF) (List.getD v1_0 (Int.toNat (v1_1 - 1)) zF)), .bool false, .bool false]
def Ql6 (_n0 : Nat) (_p1 : Int) (_p2 : Int) (_v0_0 : Int) (_v1_0 : List Fld) (_v1_1 : Int) : List (Nat × List PV) :=
  []
theorem Q19f (n0 : Nat) (p1 : Int) (p2 : Int) (v0_0 : Int) (v1_0 : List Fld) (v1_1 : Int) (ho1_0 : 0 ≤ p1) (_ho1_1 : p1 ≤ v1_1) (ho1_2 : v1_1 < n0) (ho1_3 : (n0 : Int) ≤ 20) (ho1_4 : List.length v1_0 = n0) (h0 : (decide (p1 < v1_1)) = true) (h1 : (decide ((Qzt (List.getD v1_0 (Int.toNat v1_1) zF) (List.getD v1_0 (Int.toNat (v1_1 - 1)) zF)) < 0)) = false) : Qby n0 p1 p2 v0_0 (Q9r n0 p1 p2 v0_0 v1_0 v1_1) v1_0 := by
 have e0 := of_decide_eq_true h0; have e1 := of_decide_eq_false h1
 exact ⟨(envF (Qq6 n0 p1 p2 v0_0 v1_0 v1_1)), (zoF (Ql6 n0 p1 p2 v0_0 v1_0 v1_1)), Qj (Qts n0 p1 p2 v0_0 v1_0 v1_1) (x := ((.exit 2), Qa4 n0 p1 p2 v0_0 v1_0 (envF (Qq6 n0 p1 p2 v0_0 v1_0 v1_1)) (zoF (Ql6 n0 p1 p2 v0_0 v1_0 v1_1)))) [hB 2 h0, hP 4 (Q4s 0 6 n0 v1_1 (Int.toNat v1_1) rfl (by omega) (by omega)), hP 0 (Qaf 0 6 0 false ((Fld.rows v1_0).flatten) (Fld.rows v1_0) 6 true (Int.toNat v1_1) 0 ((Int.toNat v1_1) * 6) (Fld.cells (List.getD v1_0 (Int.toNat v1_1) zF)) (.agg [.str (List.getD v1_0 (Int.toNat v1_1) zF).name, .int .i64 (List.getD v1_0 (Int.toNat v1_1) zF).v.kind, .int .i64 (List.getD v1_0 (Int.toNat v1_1) zF).v.n, .str (List.getD v1_0 (Int.toNat v1_1) zF).v.s, .sl (Val.rows (List.getD v1_0 (Int.toNat v1_1) zF).v.list), .sl (Fld.rows (List.getD v1_0 (Int.toNat v1_1) zF).v.fields)]) rfl rfl (Fld.Qe (Q50 v1_0 (Int.toNat v1_1) zF (by omega))) (Fld.Ql v1_0) (by decide) rfl), hP 2 (w_ok (v1_1 - 1) (by omega)), hP 0 (Q4s 0 6 n0 (v1_1 - 1) (Int.toNat (v1_1 - 1)) rfl (by omega) (by omega)), hP 0 (Qaf 0 6 0 false ((Fld.rows v1_0).flatten) (Fld.rows v1_0) 6 true (Int.toNat (v1_1 - 1)) 0 ((Int.toNat (v1_1 - 1)) * 6) (Fld.cells (List.getD v1_0 (Int.toNat (v1_1 - 1)) zF)) (.agg [.str (List.getD v1_0 (Int.toNat (v1_1 - 1)) zF).name, .int .i64 (List.getD v1_0 (Int.toNat (v1_1 - 1)) zF).v.kind, .int .i64 (List.getD v1_0 (Int.toNat (v1_1 - 1)) zF).v.n, .str (List.getD v1_0 (Int.toNat (v1_1 - 1)) zF).v.s, .sl (Val.rows (List.getD v1_0 (Int.toNat (v1_1 - 1)) zF).v.list), .sl (Fld.rows (List.getD v1_0 (Int.toNat (v1_1 - 1)) zF).v.fields)]) rfl rfl (Fld.Qe (Q50 v1_0 (Int.toNat (v1_1 - 1)) zF (by omega))) (Fld.Ql v1_0) (by decide) rfl), hB 1 h1] [aN (Q1rk (List.getD v1_0 (Int.toNat v1_1) zF) (List.getD v1_0 (Int.toNat (v1_1 - 1)) zF))] (by kernel_rfl)⟩
def Qq7 (_n0 : Nat) (p1 : Int) (_p2 : Int) (_v0_0 : Int) (_v1_0 : List Fld) (v1_1 : Int) : List PV :=
  nuns 9 ++ [.int .i64 v1_1] ++ nuns 8 ++ [.int .i64 v1_1, .int .i64 p1, .bool false, .bool false, .tup [], .tup [], .tup [], .tup [], .tup [], .tup [], .tup [], .tup [], .tup [], .tup [], .tup [], .tup [], .bool false]
def Ql7 (_n0 : Nat) (_p1 : Int) (_p2 : Int) (_v0_0 : Int) (_v1_0 : List Fld) (_v1_1 : Int) : List (Nat × List PV) :=
  []
theorem Q19g (n0 : Nat) (p1 : Int) (p2 : Int) (v0_0 : Int) (v1_0 : List Fld) (v1_1 : Int) (_ho1_0 : 0 ≤ p1) (_ho1_1 : p1 ≤ v1_1) (_ho1_2 : v1_1 < n0) (_ho1_3 : (n0 : Int) ≤ 20) (_ho1_4 : List.length v1_0 = n0) (h0 : (decide (p1 < v1_1)) = false) : Qby n0 p1 p2 v0_0 (Q9r n0 p1 p2 v0_0 v1_0 v1_1) v1_0 := by
 exact ⟨(envF (Qq7 n0 p1 p2 v0_0 v1_0 v1_1)), (zoF (Ql7 n0 p1 p2 v0_0 v1_0 v1_1)), Qj (Qts n0 p1 p2 v0_0 v1_0 v1_1) (x := ((.exit 2), Qa4 n0 p1 p2 v0_0 v1_0 (envF (Qq7 n0 p1 p2 v0_0 v1_0 v1_1)) (zoF (Ql7 n0 p1 p2 v0_0 v1_0 v1_1)))) [hB 2 h0] [] (by kernel_rfl)⟩
theorem Qz6 (n0 : Nat) (p1 : Int) (p2 : Int) (v0_0 : Int) : ∀ (k1 : Nat) (v1_0 : List Fld) (v1_1 : Int), 0 ≤ p1 → p1 ≤ v1_1 → v1_1 < n0 → (n0 : Int) ≤ 20 → List.length v1_0 = n0 → Int.toNat v1_1 < k1 → Qby n0 p1 p2 v0_0 (Q9r n0 p1 p2 v0_0 v1_0 v1_1) (Q3o n0 p1 p2 v0_0 k1 v1_0 v1_1)
 | 0, v1_0, v1_1, _, _, _, _, _, hm => absurd hm (Nat.not_lt_zero _)
 | k1 + 1, v1_0, v1_1, ho1_0, ho1_1, ho1_2, ho1_3, ho1_4, hm => by
  rw [Q3o]
  cases h0 : (decide (p1 < v1_1)) with
  | true =>
   have e0 := of_decide_eq_true h0
   cases h1 : (decide ((Qzt (List.getD v1_0 (Int.toNat v1_1) zF) (List.getD v1_0 (Int.toNat (v1_1 - 1)) zF)) < 0)) with
   | true =>
    have e1 := of_decide_eq_true h1
    exact Qt6 n0 p1 p2 v0_0 (fun r hr => Q179 n0 p1 p2 v0_0 v1_0 v1_1 ho1_0 ho1_1 ho1_2 ho1_3 ho1_4 h0 h1 hr) _ (Qz6 n0 p1 p2 v0_0 k1 (List.set (List.set v1_0 (Int.toNat v1_1) (List.getD v1_0 (Int.toNat (v1_1 - 1)) zF)) (Int.toNat (v1_1 - 1)) (List.getD v1_0 (Int.toNat v1_1) zF)) (v1_1 - 1) (by have f0 := (Q5n (Q5n ho1_4 (Int.toNat v1_1) (List.getD v1_0 (Int.toNat (v1_1 - 1)) zF)) (Int.toNat (v1_1 - 1)) (List.getD v1_0 (Int.toNat v1_1) zF)); omega) (by have f0 := (Q5n (Q5n ho1_4 (Int.toNat v1_1) (List.getD v1_0 (Int.toNat (v1_1 - 1)) zF)) (Int.toNat (v1_1 - 1)) (List.getD v1_0 (Int.toNat v1_1) zF)); omega) (by have f0 := (Q5n (Q5n ho1_4 (Int.toNat v1_1) (List.getD v1_0 (Int.toNat (v1_1 - 1)) zF)) (Int.toNat (v1_1 - 1)) (List.getD v1_0 (Int.toNat v1_1) zF)); omega) (by have f0 := (Q5n (Q5n ho1_4 (Int.toNat v1_1) (List.getD v1_0 (Int.toNat (v1_1 - 1)) zF)) (Int.toNat (v1_1 - 1)) (List.getD v1_0 (Int.toNat v1_1) zF)); omega) (Q5n (Q5n ho1_4 (Int.toNat v1_1) (List.getD v1_0 (Int.toNat (v1_1 - 1)) zF)) (Int.toNat (v1_1 - 1)) (List.getD v1_0 (Int.toNat v1_1) zF)) (by have f0 := (Q5n (Q5n ho1_4 (Int.toNat v1_1) (List.getD v1_0 (Int.toNat (v1_1 - 1)) zF)) (Int.toNat (v1_1 - 1)) (List.getD v1_0 (Int.toNat v1_1) zF)); omega))
   | false =>
    exact Q19f n0 p1 p2 v0_0 v1_0 v1_1 ho1_0 ho1_1 ho1_2 ho1_3 ho1_4 h0 h1
  | false =>
   exact Q19g n0 p1 p2 v0_0 v1_0 v1_1 ho1_0 ho1_1 ho1_2 ho1_3 ho1_4 h0
theorem Q40 (n0 : Nat) (p1 : Int) (p2 : Int) (v0_0 : Int) : ∀ (k1 : Nat) (v1_0 : List Fld) (v1_1 : Int), List.length v1_0 = n0 → List.length (Q3o n0 p1 p2 v0_0 k1 v1_0 v1_1) = n0
 | 0, v1_0, v1_1, ho1_4 => by rw [Q3o]; exact ho1_4
 | k1 + 1, v1_0, v1_1, ho1_4 => by
  rw [Q3o]
  cases h0 : (decide (p1 < v1_1)) with
  | true =>
   cases h1 : (decide ((Qzt (List.getD v1_0 (Int.toNat v1_1) zF) (List.getD v1_0 (Int.toNat (v1_1 - 1)) zF)) < 0)) with
   | true =>
    exact Q40 n0 p1 p2 v0_0 k1 (List.set (List.set v1_0 (Int.toNat v1_1) (List.getD v1_0 (Int.toNat (v1_1 - 1)) zF)) (Int.toNat (v1_1 - 1)) (List.getD v1_0 (Int.toNat v1_1) zF)) (v1_1 - 1) (Q5n (Q5n ho1_4 (Int.toNat v1_1) (List.getD v1_0 (Int.toNat (v1_1 - 1)) zF)) (Int.toNat (v1_1 - 1)) (List.getD v1_0 (Int.toNat v1_1) zF))
   | false =>
    exact ho1_4
  | false =>
   exact ho1_4
def Q4j (n0 : Nat) (p1 : Int) (p2 : Int) : Nat → Int → (List Fld) → List Fld
 | 0, _v0_0, v0_1 => v0_1
 | k0 + 1, v0_0, v0_1 =>
  bif (decide (v0_0 < p2)) then
   Q4j n0 p1 p2 k0 (v0_0 + 1) (Q3o n0 p1 p2 v0_0 ((Int.toNat v0_0) + 1) v0_1 v0_0)
  else
   v0_1
def Qw1 (n0 : Nat) (p1 : Int) (p2 : Int) (v0_0 : Int) (_v0_1 : List Fld) : List PV :=
  [.ms 0 6 0 n0, .int .i64 p1, .int .i64 p2, .fn 187 [] [], .un, .un, .un, .un, .int .i64 v0_0] ++ nuns 44
def Qi3 (_n0 : Nat) (_p1 : Int) (_p2 : Int) (_v0_0 : Int) (v0_1 : List Fld) : List Ob :=
  [⟨6, 0, false, (Fld.rows v0_1).flatten⟩]
def Qf6 (n0 : Nat) (p1 : Int) (p2 : Int) (v0_0 : Int) (v0_1 : List Fld) : En := .loop 1 Ir.Qji Ir.Q1gy (Qw1 n0 p1 p2 v0_0 v0_1) (Qi3 n0 p1 p2 v0_0 v0_1)
def Qoi (_n0 : Nat) (_p1 : Int) (_p2 : Int) (q0 : List Fld) (z : Nat → PV) (_zo : Nat → List PV) : St :=
  ⟨zr z 0 53, [(0, ⟨6, 0, false, (Fld.rows q0).flatten⟩)], 193⟩
theorem Q12n (n0 : Nat) (p1 : Int) (p2 : Int) (v0_0 : Int) (v0_1 : List Fld) : VOK (Go.Pv.look (number 0 (Qi3 n0 p1 p2 v0_0 v0_1))) [(0, Fld.rows v0_1)] := (VOK.cons (show Seen _ _ from Q3i (ob := ⟨6, 0, false, (Fld.rows v0_1).flatten⟩) (Fld.Q7 v0_1 6 rfl)) VOK.nil)
def Qgw (n0 : Nat) (p1 : Int) (p2 : Int) (e : En) (q : List Fld) : Prop := ∃ z zo, Q5 G e (.st (.exit 0) (Qoi n0 p1 p2 q z zo))
theorem Qt5 (n0 : Nat) (p1 : Int) (p2 : Int) {e e' : En} (h : ∀ r, Q5 G e r → Q5 G e' r) : ∀ q, Qgw n0 p1 p2 e q → Qgw n0 p1 p2 e' q
  | _, ⟨z, zo, hz⟩ => ⟨z, zo, h _ hz⟩
theorem Q178 (n0 : Nat) (p1 : Int) (p2 : Int) (v0_0 : Int) (v0_1 : List Fld) (ho0_0 : 0 ≤ p1) (ho0_1 : p1 < v0_0) (ho0_2 : p2 ≤ n0) (ho0_3 : (n0 : Int) ≤ 20) (ho0_4 : List.length v0_1 = n0) (h0 : (decide (v0_0 < p2)) = true) (z1 : Nat → PV) (zo1 : Nat → List PV) (hl1 : Q5 G (Q9r n0 p1 p2 v0_0 v0_1 v0_0) (.st (.exit 2) (Qa4 n0 p1 p2 v0_0 (Q3o n0 p1 p2 v0_0 ((Int.toNat v0_0) + 1) v0_1 v0_0) z1 zo1))) {r : Rs} (hr : Q5 G (Qf6 n0 p1 p2 (v0_0 + 1) (Q3o n0 p1 p2 v0_0 ((Int.toNat v0_0) + 1) v0_1 v0_0)) r) : Q5 G (Qf6 n0 p1 p2 v0_0 v0_1) r := by
 have e0 := of_decide_eq_true h0
 exact Qd (Q12n n0 p1 p2 v0_0 v0_1) (y := (Qw1 n0 p1 p2 (v0_0 + 1) (Q3o n0 p1 p2 v0_0 ((Int.toNat v0_0) + 1) v0_1 v0_0), Qi3 n0 p1 p2 (v0_0 + 1) (Q3o n0 p1 p2 v0_0 ((Int.toNat v0_0) + 1) v0_1 v0_0))) [hB 2 h0, hS 0 false (Fld.Q7 (Q3o n0 p1 p2 v0_0 ((Int.toNat v0_0) + 1) v0_1 v0_0) 6 rfl), hP 3 (w_ok (v0_0 + 1) (by have f0 := (Q40 n0 p1 p2 v0_0 ((Int.toNat v0_0) + 1) v0_1 v0_0 ho0_4); omega))] [aV [(0, Fld.rows (Q3o n0 p1 p2 v0_0 ((Int.toNat v0_0) + 1) v0_1 v0_0))] hl1] (by kernel_rfl) hr
def Qq5 (n0 : Nat) (p1 : Int) (p2 : Int) (v0_0 : Int) (_v0_1 : List Fld) : List PV :=
  [.ms 0 6 0 n0, .int .i64 p1, .int .i64 p2, .fn 187 [] [], .un, .un, .un, .un, .int .i64 v0_0, .un, .un, .un, .int .i64 v0_0, .int .i64 p2, .bool false]
def Ql5 (_n0 : Nat) (_p1 : Int) (_p2 : Int) (_v0_0 : Int) (_v0_1 : List Fld) : List (Nat × List PV) :=
  []
theorem Q19e (n0 : Nat) (p1 : Int) (p2 : Int) (v0_0 : Int) (v0_1 : List Fld) (_ho0_0 : 0 ≤ p1) (_ho0_1 : p1 < v0_0) (_ho0_2 : p2 ≤ n0) (_ho0_3 : (n0 : Int) ≤ 20) (_ho0_4 : List.length v0_1 = n0) (h0 : (decide (v0_0 < p2)) = false) : Qgw n0 p1 p2 (Qf6 n0 p1 p2 v0_0 v0_1) v0_1 := by
 exact ⟨(envF (Qq5 n0 p1 p2 v0_0 v0_1)), (zoF (Ql5 n0 p1 p2 v0_0 v0_1)), Qj (Q12n n0 p1 p2 v0_0 v0_1) (x := ((.exit 0), Qoi n0 p1 p2 v0_1 (envF (Qq5 n0 p1 p2 v0_0 v0_1)) (zoF (Ql5 n0 p1 p2 v0_0 v0_1)))) [hB 2 h0] [] (by kernel_rfl)⟩
theorem Qz5 (n0 : Nat) (p1 : Int) (p2 : Int) : ∀ (k0 : Nat) (v0_0 : Int) (v0_1 : List Fld), 0 ≤ p1 → p1 < v0_0 → p2 ≤ n0 → (n0 : Int) ≤ 20 → List.length v0_1 = n0 → Int.toNat (p2 - v0_0) < k0 → Qgw n0 p1 p2 (Qf6 n0 p1 p2 v0_0 v0_1) (Q4j n0 p1 p2 k0 v0_0 v0_1)
 | 0, v0_0, v0_1, _, _, _, _, _, hm => absurd hm (Nat.not_lt_zero _)
 | k0 + 1, v0_0, v0_1, ho0_0, ho0_1, ho0_2, ho0_3, ho0_4, hm => by
  rw [Q4j]
  cases h0 : (decide (v0_0 < p2)) with
  | true =>
   have e0 := of_decide_eq_true h0
   have hl1 := Qz6 n0 p1 p2 v0_0 ((Int.toNat v0_0) + 1) v0_1 v0_0 (by omega) (by omega) (by omega) (by omega) ho0_4 (by omega)
   obtain ⟨z1, zo1, hl1⟩ := hl1
   exact Qt5 n0 p1 p2 (fun r hr => Q178 n0 p1 p2 v0_0 v0_1 ho0_0 ho0_1 ho0_2 ho0_3 ho0_4 h0 z1 zo1 hl1 hr) _ (Qz5 n0 p1 p2 k0 (v0_0 + 1) (Q3o n0 p1 p2 v0_0 ((Int.toNat v0_0) + 1) v0_1 v0_0) (by have f0 := (Q40 n0 p1 p2 v0_0 ((Int.toNat v0_0) + 1) v0_1 v0_0 ho0_4); omega) (by have f0 := (Q40 n0 p1 p2 v0_0 ((Int.toNat v0_0) + 1) v0_1 v0_0 ho0_4); omega) (by have f0 := (Q40 n0 p1 p2 v0_0 ((Int.toNat v0_0) + 1) v0_1 v0_0 ho0_4); omega) (by have f0 := (Q40 n0 p1 p2 v0_0 ((Int.toNat v0_0) + 1) v0_1 v0_0 ho0_4); omega) (Q40 n0 p1 p2 v0_0 ((Int.toNat v0_0) + 1) v0_1 v0_0 ho0_4) (by have f0 := (Q40 n0 p1 p2 v0_0 ((Int.toNat v0_0) + 1) v0_1 v0_0 ho0_4); omega))
  | false =>
   exact Q19e n0 p1 p2 v0_0 v0_1 ho0_0 ho0_1 ho0_2 ho0_3 ho0_4 h0
theorem Qb1 (n0 : Nat) (p1 : Int) (p2 : Int) : ∀ (k0 : Nat) (v0_0 : Int) (v0_1 : List Fld), List.length v0_1 = n0 → List.length (Q4j n0 p1 p2 k0 v0_0 v0_1) = n0
 | 0, v0_0, v0_1, ho0_4 => by rw [Q4j]; exact ho0_4
 | k0 + 1, v0_0, v0_1, ho0_4 => by
  rw [Q4j]
  cases h0 : (decide (v0_0 < p2)) with
  | true =>
   exact Qb1 n0 p1 p2 k0 (v0_0 + 1) (Q3o n0 p1 p2 v0_0 ((Int.toNat v0_0) + 1) v0_1 v0_0) (Q40 n0 p1 p2 v0_0 ((Int.toNat v0_0) + 1) v0_1 v0_0 ho0_4)
  | false =>
   exact ho0_4
def Q2e (n0 : Nat) (p0 : List Fld) (p1 : Int) (p2 : Int) : List Fld :=
 (Q4j n0 p1 p2 ((Int.toNat (p2 - (p1 + 1))) + 1) (p1 + 1) p0)
def Q15c (n0 : Nat) (p0 : List Fld) (p1 : Int) (p2 : Int) : En := .call 253 [.ms 0 6 0 n0, .int .i64 p1, .int .i64 p2, .fn 187 [] []] [⟨6, 0, false, (Fld.rows p0).flatten⟩]
def Qqs (n0 : Nat) (p0 : List Fld) (p1 : Int) (p2 : Int) : Rs := .ret (.tup []) [⟨6, 0, false, (Fld.rows (Q2e n0 p0 p1 p2)).flatten⟩]
theorem Q1u (n0 : Nat) (p0 : List Fld) (p1 : Int) (p2 : Int) (hn : List.length p0 = n0) : List.length (Q2e n0 p0 p1 p2) = n0 := by
 unfold Q2e
 have hz0_0 : List.length (Q4j n0 p1 p2 ((Int.toNat (p2 - (p1 + 1))) + 1) (p1 + 1) p0) = n0 := Qb1 n0 p1 p2 ((Int.toNat (p2 - (p1 + 1))) + 1) (p1 + 1) p0 hn
 obtain ⟨R0, eR0⟩ : ∃ R, (Q4j n0 p1 p2 ((Int.toNat (p2 - (p1 + 1))) + 1) (p1 + 1) p0) = R := ⟨_, rfl⟩
 rw [eR0] at hz0_0 ⊢
 exact hz0_0
theorem Qri (n0 : Nat) (p0 : List Fld) (p1 : Int) (p2 : Int) (hn : List.length p0 = n0) (hq0 : 0 ≤ p1 ∧ p1 ≤ p2 ∧ p2 ≤ n0 ∧ (n0 : Int) ≤ 20) : Q5 G (Q15c n0 p0 p1 p2) (Qqs n0 p0 p1 p2) := by
 unfold Qqs Q2e
 have hl0 := Qz5 n0 p1 p2 ((Int.toNat (p2 - (p1 + 1))) + 1) (p1 + 1) p0 (by omega) (by omega) (by omega) (by omega) hn (by omega)
 have hz0_0 : List.length (Q4j n0 p1 p2 ((Int.toNat (p2 - (p1 + 1))) + 1) (p1 + 1) p0) = n0 := Qb1 n0 p1 p2 ((Int.toNat (p2 - (p1 + 1))) + 1) (p1 + 1) p0 hn
 obtain ⟨R0, eR0⟩ : ∃ R, (Q4j n0 p1 p2 ((Int.toNat (p2 - (p1 + 1))) + 1) (p1 + 1) p0) = R := ⟨_, rfl⟩
 rw [eR0] at hz0_0 hl0 ⊢
 obtain ⟨z0, zo0, hl0⟩ := hl0
 exact Q6 (fn := Ir.K4t) rfl (vk1 (Fld.Q7 p0 6 rfl)) [hP 1 (w_ok (p1 + 1) (by omega)), hS 0 false (Fld.Q7 R0 6 rfl)] [aV [(0, Fld.rows R0)] hl0] (by kernel_rfl)
def Q3g (n0 : Nat) (p1 : Int) : Nat → (List Fld) → Int → Int → (List Fld) × Int
 | 0, v0_0, v0_1, _v0_2 => (v0_0, v0_1)
 | k0 + 1, v0_0, v0_1, v0_2 =>
  bif (decide (v0_2 ≤ p1)) then
   Q3g n0 p1 k0 (Q2e n0 v0_0 v0_1 v0_2) v0_2 (v0_2 + 20)
  else
   (v0_0, v0_1)
def Qw3 (n0 : Nat) (p1 : Int) (_v0_0 : List Fld) (v0_1 : Int) (v0_2 : Int) : List PV :=
  [.ms 0 6 0 n0, .int .i64 p1, .fn 187 [] [], .un, .un, .un, .int .i64 20, .int .i64 v0_1, .int .i64 v0_2] ++ nuns 54
def Qi5 (_n0 : Nat) (_p1 : Int) (v0_0 : List Fld) (_v0_1 : Int) (_v0_2 : Int) : List Ob :=
  [⟨6, 0, false, (Fld.rows v0_0).flatten⟩]
def Qf7 (n0 : Nat) (p1 : Int) (v0_0 : List Fld) (v0_1 : Int) (v0_2 : Int) : En := .loop 1 Ir.Qjk Ir.Q1h0 (Qw3 n0 p1 v0_0 v0_1 v0_2) (Qi5 n0 p1 v0_0 v0_1 v0_2)
def Qoj (n0 : Nat) (p1 : Int) (q0 : List Fld) (q1 : Int) (z : Nat → PV) (_zo : Nat → List PV) : St :=
  ⟨[.ms 0 6 0 n0, .int .i64 p1, .fn 187 [] [], z 3, z 4, z 5, .int .i64 20, .int .i64 q1] ++ zr z 8 55, [(0, ⟨6, 0, false, (Fld.rows q0).flatten⟩)], 193⟩
theorem Q12o (n0 : Nat) (p1 : Int) (v0_0 : List Fld) (v0_1 : Int) (v0_2 : Int) : VOK (Go.Pv.look (number 0 (Qi5 n0 p1 v0_0 v0_1 v0_2))) [(0, Fld.rows v0_0)] := (VOK.cons (show Seen _ _ from Q3i (ob := ⟨6, 0, false, (Fld.rows v0_0).flatten⟩) (Fld.Q7 v0_0 6 rfl)) VOK.nil)
def Qgx (n0 : Nat) (p1 : Int) (e : En) (q : (List Fld) × Int) : Prop := ∃ z zo, Q5 G e (.st (.exit 0) (Qoj n0 p1 q.1 q.2 z zo))
theorem Qt7 (n0 : Nat) (p1 : Int) {e e' : En} (h : ∀ r, Q5 G e r → Q5 G e' r) : ∀ q, Qgx n0 p1 e q → Qgx n0 p1 e' q
  | _, ⟨z, zo, hz⟩ => ⟨z, zo, h _ hz⟩
theorem Q17a (n0 : Nat) (p1 : Int) (v0_0 : List Fld) (v0_1 : Int) (v0_2 : Int) (ho0_0 : 0 ≤ v0_1) (_ho0_1 : v0_1 ≤ n0) (ho0_2 : v0_1 + 20 = v0_2) (ho0_3 : p1 = n0) (ho0_4 : (n0 : Int) ≤ 20) (ho0_5 : List.length v0_0 = n0) (h0 : (decide (v0_2 ≤ p1)) = true) {r : Rs} (hr : Q5 G (Qf7 n0 p1 (Q2e n0 v0_0 v0_1 v0_2) v0_2 (v0_2 + 20)) r) : Q5 G (Qf7 n0 p1 v0_0 v0_1 v0_2) r := by
 have e0 := of_decide_eq_true h0
 exact Qd (Q12o n0 p1 v0_0 v0_1 v0_2) (y := (Qw3 n0 p1 (Q2e n0 v0_0 v0_1 v0_2) v0_2 (v0_2 + 20), Qi5 n0 p1 (Q2e n0 v0_0 v0_1 v0_2) v0_2 (v0_2 + 20))) [hB 2 h0, hQ (Fld.Q7 (Q2e n0 v0_0 v0_1 v0_2) 6 rfl), hP 9 (w_ok (v0_2 + 20) (by have f0 := (Q1u n0 v0_0 v0_1 v0_2 ho0_5); omega))] [aV [(0, Fld.rows (Q2e n0 v0_0 v0_1 v0_2))] (Qri n0 v0_0 v0_1 v0_2 ho0_5 (by omega))] (by kernel_rfl) hr
def Qq8 (_n0 : Nat) (p1 : Int) (_v0_0 : List Fld) (_v0_1 : Int) (v0_2 : Int) : List PV :=
  nuns 8 ++ [.int .i64 v0_2, .un, .un, .int .i64 v0_2, .int .i64 p1, .bool false]
def Ql8 (_n0 : Nat) (_p1 : Int) (_v0_0 : List Fld) (_v0_1 : Int) (_v0_2 : Int) : List (Nat × List PV) :=
  []
theorem Q19h (n0 : Nat) (p1 : Int) (v0_0 : List Fld) (v0_1 : Int) (v0_2 : Int) (_ho0_0 : 0 ≤ v0_1) (_ho0_1 : v0_1 ≤ n0) (_ho0_2 : v0_1 + 20 = v0_2) (_ho0_3 : p1 = n0) (_ho0_4 : (n0 : Int) ≤ 20) (_ho0_5 : List.length v0_0 = n0) (h0 : (decide (v0_2 ≤ p1)) = false) : Qgx n0 p1 (Qf7 n0 p1 v0_0 v0_1 v0_2) (v0_0, v0_1) := by
 exact ⟨(envF (Qq8 n0 p1 v0_0 v0_1 v0_2)), (zoF (Ql8 n0 p1 v0_0 v0_1 v0_2)), Qj (Q12o n0 p1 v0_0 v0_1 v0_2) (x := ((.exit 0), Qoj n0 p1 v0_0 v0_1 (envF (Qq8 n0 p1 v0_0 v0_1 v0_2)) (zoF (Ql8 n0 p1 v0_0 v0_1 v0_2)))) [hB 2 h0] [] (by kernel_rfl)⟩
theorem Qz7 (n0 : Nat) (p1 : Int) : ∀ (k0 : Nat) (v0_0 : List Fld) (v0_1 : Int) (v0_2 : Int), 0 ≤ v0_1 → v0_1 ≤ n0 → v0_1 + 20 = v0_2 → p1 = n0 → (n0 : Int) ≤ 20 → List.length v0_0 = n0 → Int.toNat (p1 + 20 - v0_2) < k0 → Qgx n0 p1 (Qf7 n0 p1 v0_0 v0_1 v0_2) (Q3g n0 p1 k0 v0_0 v0_1 v0_2)
 | 0, v0_0, v0_1, v0_2, _, _, _, _, _, _, hm => absurd hm (Nat.not_lt_zero _)
 | k0 + 1, v0_0, v0_1, v0_2, ho0_0, ho0_1, ho0_2, ho0_3, ho0_4, ho0_5, hm => by
  rw [Q3g]
  cases h0 : (decide (v0_2 ≤ p1)) with
  | true =>
   have e0 := of_decide_eq_true h0
   exact Qt7 n0 p1 (fun r hr => Q17a n0 p1 v0_0 v0_1 v0_2 ho0_0 ho0_1 ho0_2 ho0_3 ho0_4 ho0_5 h0 hr) _ (Qz7 n0 p1 k0 (Q2e n0 v0_0 v0_1 v0_2) v0_2 (v0_2 + 20) (by have f0 := (Q1u n0 v0_0 v0_1 v0_2 ho0_5); omega) (by have f0 := (Q1u n0 v0_0 v0_1 v0_2 ho0_5); omega) (by have f0 := (Q1u n0 v0_0 v0_1 v0_2 ho0_5); omega) (by have f0 := (Q1u n0 v0_0 v0_1 v0_2 ho0_5); omega) (by have f0 := (Q1u n0 v0_0 v0_1 v0_2 ho0_5); omega) (Q1u n0 v0_0 v0_1 v0_2 ho0_5) (by have f0 := (Q1u n0 v0_0 v0_1 v0_2 ho0_5); omega))
  | false =>
   exact Q19h n0 p1 v0_0 v0_1 v0_2 ho0_0 ho0_1 ho0_2 ho0_3 ho0_4 ho0_5 h0
theorem Qb2 (n0 : Nat) (p1 : Int) : ∀ (k0 : Nat) (v0_0 : List Fld) (v0_1 : Int) (v0_2 : Int), List.length v0_0 = n0 → List.length (Q3g n0 p1 k0 v0_0 v0_1 v0_2).1 = n0
 | 0, v0_0, v0_1, v0_2, ho0_5 => by rw [Q3g]; exact ho0_5
 | k0 + 1, v0_0, v0_1, v0_2, ho0_5 => by
  rw [Q3g]
  cases h0 : (decide (v0_2 ≤ p1)) with
  | true =>
   exact Qb2 n0 p1 k0 (Q2e n0 v0_0 v0_1 v0_2) v0_2 (v0_2 + 20) (Q1u n0 v0_0 v0_1 v0_2 ho0_5)
  | false =>
   exact ho0_5
theorem Qzl (n0 : Nat) (p1 : Int) : ∀ (k0 : Nat) (v0_0 : List Fld) (v0_1 : Int) (v0_2 : Int), 0 ≤ v0_1 → v0_1 ≤ n0 → v0_1 + 20 = v0_2 → p1 = n0 → (n0 : Int) ≤ 20 → List.length v0_0 = n0 → Int.toNat (p1 + 20 - v0_2) < k0 → 0 ≤ (Q3g n0 p1 k0 v0_0 v0_1 v0_2).2 ∧ (Q3g n0 p1 k0 v0_0 v0_1 v0_2).2 ≤ n0
 | 0, v0_0, v0_1, v0_2, _, _, _, _, _, _, hm => absurd hm (Nat.not_lt_zero _)
 | k0 + 1, v0_0, v0_1, v0_2, ho0_0, ho0_1, ho0_2, ho0_3, ho0_4, ho0_5, hm => by
  rw [Q3g]
  cases h0 : (decide (v0_2 ≤ p1)) with
  | true =>
   have e0 := of_decide_eq_true h0
   exact Qzl n0 p1 k0 (Q2e n0 v0_0 v0_1 v0_2) v0_2 (v0_2 + 20) (by have f0 := (Q1u n0 v0_0 v0_1 v0_2 ho0_5); omega) (by have f0 := (Q1u n0 v0_0 v0_1 v0_2 ho0_5); omega) (by have f0 := (Q1u n0 v0_0 v0_1 v0_2 ho0_5); omega) (by have f0 := (Q1u n0 v0_0 v0_1 v0_2 ho0_5); omega) (by have f0 := (Q1u n0 v0_0 v0_1 v0_2 ho0_5); omega) (Q1u n0 v0_0 v0_1 v0_2 ho0_5) (by have f0 := (Q1u n0 v0_0 v0_1 v0_2 ho0_5); omega)
  | false =>
   have e0 := of_decide_eq_false h0
   exact (show 0 ≤ v0_1 ∧ v0_1 ≤ n0 from ⟨(by omega), (by omega)⟩)
def Q5l (_n0 : Nat) (_p1 : Int) : Nat → (List Fld) → List Fld
 | 0, v1_0 => v1_0
 | _k1 + 1, v1_0 =>
  v1_0
def Q19s (n0 : Nat) (p1 : Int) (_v1_0 : List Fld) : List PV :=
  [.ms 0 6 0 n0, .int .i64 p1, .fn 187 [] [], .un, .un, .un, .int .i64 20] ++ nuns 56
def Qwj (_n0 : Nat) (_p1 : Int) (v1_0 : List Fld) : List Ob :=
  [⟨6, 0, false, (Fld.rows v1_0).flatten⟩]
def Q11l (n0 : Nat) (p1 : Int) (v1_0 : List Fld) : En := .loop 1 Ir.Qjl Ir.Q1h1 (Q19s n0 p1 v1_0) (Qwj n0 p1 v1_0)
def Qok (_n0 : Nat) (_p1 : Int) (q0 : List Fld) (z : Nat → PV) (_zo : Nat → List PV) : St :=
  ⟨zr z 0 63, [(0, ⟨6, 0, false, (Fld.rows q0).flatten⟩)], 193⟩
theorem Q1ds (n0 : Nat) (p1 : Int) (v1_0 : List Fld) : VOK (Go.Pv.look (number 0 (Qwj n0 p1 v1_0))) [(0, Fld.rows v1_0)] := (VOK.cons (show Seen _ _ from Q3i (ob := ⟨6, 0, false, (Fld.rows v1_0).flatten⟩) (Fld.Q7 v1_0 6 rfl)) VOK.nil)
def Q11z (n0 : Nat) (p1 : Int) (e : En) (q : List Fld) : Prop := ∃ z zo, Q5 G e (.st (.exit 2) (Qok n0 p1 q z zo))
def Qq9 (n0 : Nat) (p1 : Int) (_v1_0 : List Fld) : List PV :=
  [.ms 0 6 0 n0, .int .i64 p1, .fn 187 [] [], .un, .un, .un, .int .i64 20] ++ nuns 21 ++ [.int .i64 20, .int .i64 p1, .bool false]
def Ql9 (_n0 : Nat) (_p1 : Int) (_v1_0 : List Fld) : List (Nat × List PV) :=
  []
theorem Q19i (n0 : Nat) (p1 : Int) (v1_0 : List Fld) (ho1_0 : p1 = n0) (ho1_1 : (n0 : Int) ≤ 20) (ho1_2 : List.length v1_0 = n0) : Q11z n0 p1 (Q11l n0 p1 v1_0) v1_0 := by
 exact ⟨(envF (Qq9 n0 p1 v1_0)), (zoF (Ql9 n0 p1 v1_0)), Qj (Q1ds n0 p1 v1_0) (x := ((.exit 2), Qok n0 p1 v1_0 (envF (Qq9 n0 p1 v1_0)) (zoF (Ql9 n0 p1 v1_0)))) [hP 2 (dec (decide (20 < p1)) false (decide_eq_false (by omega)))] [] (by kernel_rfl)⟩
theorem Q1bd (n0 : Nat) (p1 : Int) : ∀ (k1 : Nat) (v1_0 : List Fld), p1 = n0 → (n0 : Int) ≤ 20 → List.length v1_0 = n0 → 0 < k1 → Q11z n0 p1 (Q11l n0 p1 v1_0) (Q5l n0 p1 k1 v1_0)
 | 0, v1_0, _, _, _, hm => absurd hm (Nat.not_lt_zero _)
 | k1 + 1, v1_0, ho1_0, ho1_1, ho1_2, hm => by
  rw [Q5l]
  exact Q19i n0 p1 v1_0 ho1_0 ho1_1 ho1_2
theorem Qm2 (n0 : Nat) (p1 : Int) : ∀ (k1 : Nat) (v1_0 : List Fld), List.length v1_0 = n0 → List.length (Q5l n0 p1 k1 v1_0) = n0
 | 0, v1_0, ho1_2 => by rw [Q5l]; exact ho1_2
 | k1 + 1, v1_0, ho1_2 => by
  rw [Q5l]
  exact ho1_2
def Q56 (n0 : Nat) (p0 : List Fld) (p1 : Int) : List Fld :=
 (Q5l n0 p1 (0 + 1) (Q2e n0 (Q3g n0 p1 ((Int.toNat (p1 + 20 - 20)) + 1) p0 0 20).1 (Q3g n0 p1 ((Int.toNat (p1 + 20 - 20)) + 1) p0 0 20).2 p1))
def Q15d (n0 : Nat) (p0 : List Fld) (p1 : Int) : En := .call 220 [.ms 0 6 0 n0, .int .i64 p1, .fn 187 [] []] [⟨6, 0, false, (Fld.rows p0).flatten⟩]
def Qqt (n0 : Nat) (p0 : List Fld) (p1 : Int) : Rs := .ret (.tup []) [⟨6, 0, false, (Fld.rows (Q56 n0 p0 p1)).flatten⟩]
theorem Qu6 (n0 : Nat) (p0 : List Fld) (p1 : Int) (hn : List.length p0 = n0) : List.length (Q56 n0 p0 p1) = n0 := by
 unfold Q56
 have hz0_0 : List.length (Q3g n0 p1 ((Int.toNat (p1 + 20 - 20)) + 1) p0 0 20).1 = n0 := Qb2 n0 p1 ((Int.toNat (p1 + 20 - 20)) + 1) p0 0 20 hn
 obtain ⟨R1, eR1⟩ : ∃ R, (Q3g n0 p1 ((Int.toNat (p1 + 20 - 20)) + 1) p0 0 20) = R := ⟨_, rfl⟩
 rw [eR1] at hz0_0 ⊢
 have hz1_0 : List.length (Q5l n0 p1 (0 + 1) (Q2e n0 R1.1 R1.2 p1)) = n0 := Qm2 n0 p1 (0 + 1) (Q2e n0 R1.1 R1.2 p1) (Q1u n0 R1.1 R1.2 p1 hz0_0)
 obtain ⟨R2, eR2⟩ : ∃ R, (Q5l n0 p1 (0 + 1) (Q2e n0 R1.1 R1.2 p1)) = R := ⟨_, rfl⟩
 rw [eR2] at hz1_0 ⊢
 exact hz1_0
theorem Q183 (n0 : Nat) (p0 : List Fld) (p1 : Int) (hn : List.length p0 = n0) (hq0 : 0 ≤ p1 ∧ p1 = n0 ∧ (n0 : Int) ≤ 20) : Q5 G (Q15d n0 p0 p1) (Qqt n0 p0 p1) := by
 unfold Qqt Q56
 have hl0 := Qz7 n0 p1 ((Int.toNat (p1 + 20 - 20)) + 1) p0 0 20 (by omega) (by omega) (by omega) (by omega) (by omega) hn (by omega)
 have hz0_0 : List.length (Q3g n0 p1 ((Int.toNat (p1 + 20 - 20)) + 1) p0 0 20).1 = n0 := Qb2 n0 p1 ((Int.toNat (p1 + 20 - 20)) + 1) p0 0 20 hn
 have hy0 : 0 ≤ (Q3g n0 p1 ((Int.toNat (p1 + 20 - 20)) + 1) p0 0 20).2 ∧ (Q3g n0 p1 ((Int.toNat (p1 + 20 - 20)) + 1) p0 0 20).2 ≤ n0 := Qzl n0 p1 ((Int.toNat (p1 + 20 - 20)) + 1) p0 0 20 (by omega) (by omega) (by omega) (by omega) (by omega) hn (by omega)
 obtain ⟨R1, eR1⟩ : ∃ R, (Q3g n0 p1 ((Int.toNat (p1 + 20 - 20)) + 1) p0 0 20) = R := ⟨_, rfl⟩
 rw [eR1] at hz0_0 hy0 hl0 ⊢
 obtain ⟨z0, zo0, hl0⟩ := hl0
 have hl1 := Q1bd n0 p1 (0 + 1) (Q2e n0 R1.1 R1.2 p1) (by have f0 := (Q1u n0 R1.1 R1.2 p1 hz0_0); have g0 := hy0; omega) (by have f0 := (Q1u n0 R1.1 R1.2 p1 hz0_0); have g0 := hy0; omega) (Q1u n0 R1.1 R1.2 p1 hz0_0) (by omega)
 have hz1_0 : List.length (Q5l n0 p1 (0 + 1) (Q2e n0 R1.1 R1.2 p1)) = n0 := Qm2 n0 p1 (0 + 1) (Q2e n0 R1.1 R1.2 p1) (Q1u n0 R1.1 R1.2 p1 hz0_0)
 obtain ⟨R2, eR2⟩ : ∃ R, (Q5l n0 p1 (0 + 1) (Q2e n0 R1.1 R1.2 p1)) = R := ⟨_, rfl⟩
 rw [eR2] at hz1_0 hl1 ⊢
 obtain ⟨z1, zo1, hl1⟩ := hl1
 exact Q6 (fn := Ir.K4u) rfl (vk1 (Fld.Q7 p0 6 rfl)) [hS 0 false (Fld.Q7 R1.1 6 rfl), hQ (Fld.Q7 (Q2e n0 R1.1 R1.2 p1) 6 rfl), hS 0 false (Fld.Q7 R2 6 rfl)] [aV [(0, Fld.rows R1.1)] hl0, aV [(0, Fld.rows (Q2e n0 R1.1 R1.2 p1))] (Qri n0 R1.1 R1.2 p1 hz0_0 (by have g0 := hy0; omega)), aV [(0, Fld.rows R2)] hl1] (by kernel_rfl)
def Qt (n0 : Nat) (p0 : List Fld) : List Fld :=
 (Q56 n0 p0 (n0 : Int))
def Q15b (n0 : Nat) (p0 : List Fld) : En := .call 186 [.ms 0 6 0 n0, .fn 187 [] []] [⟨6, 0, false, (Fld.rows p0).flatten⟩]
def Qqr (n0 : Nat) (p0 : List Fld) : Rs := .ret (.tup []) [⟨6, 0, false, (Fld.rows (Qt n0 p0)).flatten⟩]
theorem Q2q (n0 : Nat) (p0 : List Fld) (hn : List.length p0 = n0) : List.length (Qt n0 p0) = n0 := by
 unfold Qt
 exact (Qu6 n0 p0 (n0 : Int) hn)
theorem Q182 (n0 : Nat) (p0 : List Fld) (hn : List.length p0 = n0) (hq0 : (n0 : Int) ≤ 20) : Q5 G (Q15b n0 p0) (Qqr n0 p0) := by
 unfold Qqr Qt
 exact Q6 (fn := Ir.K4s) rfl (vk1 (Fld.Q7 p0 6 rfl)) [hQ (Fld.Q7 (Q56 n0 p0 (n0 : Int)) 6 rfl)] [aV [(0, Fld.rows (Q56 n0 p0 (n0 : Int)))] (Q183 n0 p0 (n0 : Int) hn (by omega))] (by kernel_rfl)
def Q3m (p0 : List Fld) : List Fld → Nat → (List Fld) → List Fld
 | [], _i0, v0_1 =>
  v0_1
 | x0 :: r0, i0, v0_1 =>
  bif (((i0 + 1 : Nat) : Int) == ((List.length p0) : Int)) then
   Q3m p0 r0 (i0 + 1) (v0_1 ++ [x0])
  else
   bif (sEq (List.getD (Qt (List.length p0) p0) (Int.toNat ((i0 + 1 : Nat) : Int)) zF).name x0.name) then
    Q3m p0 r0 (i0 + 1) v0_1
   else
    Q3m p0 r0 (i0 + 1) (v0_1 ++ [x0])
def Qbl (p0 : List Fld) (i0 : Nat) (_v0_1 : List Fld) : List PV :=
  [.un, .un, .bx 0 0, .ms 1 6 0 (List.length p0), .bx 2 0] ++ nuns 7 ++ [.ms 1 6 0 (List.length p0), .int .i64 ((List.length p0) : Int), .int .i64 (i0 : Int)] ++ nuns 29
def Q8z (p0 : List Fld) (_i0 : Nat) (v0_1 : List Fld) : List Ob :=
  [⟨5, 0, true, [.int .i64 0, .int .i64 0, .str eB, .ms 3 5 0 0, .ms 4 6 0 0]⟩, ⟨6, 0, false, (Fld.rows (Qt (List.length p0) p0)).flatten⟩, ⟨5, 0, true, [.int .i64 5, .int .i64 0, .str eB, .ms 5 5 0 0, .ms 6 6 0 (List.length v0_1)]⟩, ⟨5, 0, true, []⟩, ⟨6, 0, true, []⟩, ⟨5, 0, true, []⟩, ⟨6, 0, true, (Fld.rows v0_1).flatten⟩]
def Q79 (p0 : List Fld) (i0 : Nat) (v0_1 : List Fld) : En := .loop 0 Ir.Qjn Ir.Q1h3 (Qbl p0 i0 v0_1) (Q8z p0 i0 v0_1)
def Qon (p0 : List Fld) (q0 : List Fld) (z : Nat → PV) (_zo : Nat → List PV) : St :=
  ⟨[z 0, z 1, .bx 0 0, z 3, .bx 2 0] ++ zr z 5 39, [(0, ⟨5, 0, true, [.int .i64 0, .int .i64 0, .str eB, .ms 3 5 0 0, .ms 4 6 0 0]⟩), (1, ⟨6, 0, false, (Fld.rows (Qt (List.length p0) p0)).flatten⟩), (2, ⟨5, 0, true, [.int .i64 5, .int .i64 0, .str eB, .ms 5 5 0 0, .ms 6 6 0 (List.length q0)]⟩), (3, ⟨5, 0, true, []⟩), (4, ⟨6, 0, true, []⟩), (5, ⟨5, 0, true, []⟩), (6, ⟨6, 0, true, (Fld.rows q0).flatten⟩)], 71⟩
theorem Qh2 (p0 : List Fld) (i0 : Nat) (v0_1 : List Fld) : VOK (Go.Pv.look (number 0 (Q8z p0 i0 v0_1))) [(1, Fld.rows (Qt (List.length p0) p0)), (6, Fld.rows v0_1)] := (VOK.cons (show Seen _ _ from Q3i (ob := ⟨6, 0, false, (Fld.rows (Qt (List.length p0) p0)).flatten⟩) (Fld.Q7 (Qt (List.length p0) p0) 6 rfl)) (VOK.cons (show Seen _ _ from Q3i (ob := ⟨6, 0, true, (Fld.rows v0_1).flatten⟩) (Fld.Q7 v0_1 6 rfl)) VOK.nil))
def Qgy (p0 : List Fld) (e : En) (q : List Fld) : Prop := ∃ z zo, Q5 G e (.st (.exit 0) (Qon p0 q z zo))
theorem Q8c (p0 : List Fld) {e e' : En} (h : ∀ r, Q5 G e r → Q5 G e' r) : ∀ q, Qgy p0 e q → Qgy p0 e' q
  | _, ⟨z, zo, hz⟩ => ⟨z, zo, h _ hz⟩
def Q9t (p0 : List Fld) : Prop := (List.length (Qt (List.length p0) p0) ≤ 137438953472) ∧ True
def Qqc (p0 : List Fld) (i0 : Nat) (_v0_1 : List Fld) : List PV :=
  [.un, .un, .un, .ms 1 6 0 (List.length p0)] ++ nuns 8 ++ [.ms 1 6 0 (List.length p0), .int .i64 ((List.length p0) : Int), .int .i64 (i0 : Int), .bool false]
def Qlc (_p0 : List Fld) (_i0 : Nat) (_v0_1 : List Fld) : List (Nat × List PV) :=
  []
theorem Q19l (p0 : List Fld) (_H : Q9t p0) (i0 : Nat) (v0_1 : List Fld) (_ho0_0 : List.length v0_1 ≤ i0) (hc0 : (decide ((i0 : Int) < ((List.length p0) : Int))) = false) : Qgy p0 (Q79 p0 i0 v0_1) v0_1 := by
 exact ⟨(envF (Qqc p0 i0 v0_1)), (zoF (Qlc p0 i0 v0_1)), Qj (Qh2 p0 i0 v0_1) (x := ((.exit 0), Qon p0 v0_1 (envF (Qqc p0 i0 v0_1)) (zoF (Qlc p0 i0 v0_1)))) [hB 0 hc0] [] (by kernel_rfl)⟩
theorem Q17c (p0 : List Fld) (H : Q9t p0) (x0 : Fld) (i0 : Nat) (v0_1 : List Fld) (hx0 : (Qt (List.length p0) p0)[i0]? = some x0) (hi0 : i0 < List.length (Qt (List.length p0) p0)) (ho0_0 : List.length v0_1 ≤ i0) (hc0 : (decide ((i0 : Int) < ((List.length p0) : Int))) = true) (h0 : (((i0 + 1 : Nat) : Int) == ((List.length p0) : Int)) = true) {r : Rs} (hr : Q5 G (Q79 p0 (i0 + 1) (v0_1 ++ [x0])) r) : Q5 G (Q79 p0 i0 v0_1) r := by
 have hB0 := H.1; have e0 := eq_of_beq h0
 exact Qd (Qh2 p0 i0 v0_1) (y := (Qbl p0 (i0 + 1) (v0_1 ++ [x0]), Q8z p0 (i0 + 1) (v0_1 ++ [x0]))) [hB 0 hc0, hP 1 (Q4s 1 6 (List.length p0) (i0 : Int) i0 (by omega) (by have f1 := (Q2q (List.length p0) p0 rfl); omega) (by have f1 := (Q2q (List.length p0) p0 rfl); omega)), hP 0 (Qaf 1 6 0 false ((Fld.rows (Qt (List.length p0) p0)).flatten) (Fld.rows (Qt (List.length p0) p0)) 6 true i0 0 (i0 * 6) (Fld.cells x0) (.agg [.str x0.name, .int .i64 x0.v.kind, .int .i64 x0.v.n, .str x0.v.s, .sl (Val.rows x0.v.list), .sl (Fld.rows x0.v.fields)]) rfl rfl (Fld.Qe hx0) (Fld.Ql (Qt (List.length p0) p0)) (by decide) rfl), hP 4 (Q28 i0 (by omega)), hB 2 h0, hV 15 [(1735, Fld.rows (v0_1 ++ [x0]))] (Q3x 6 1671 1735 6 96 0 0 true (Fld.rows v0_1) (Fld.rows (v0_1 ++ [x0])) (Fld.cells x0) (List.length v0_1) (List.length (v0_1 ++ [x0])) rfl (Fld.Q0 v0_1).symm (Fld.Q0 (v0_1 ++ [x0])).symm (Fld.Q1q v0_1 x0) (Fld.Ql v0_1) rfl (by omega)), hS 0 true (Fld.Q7 (v0_1 ++ [x0]) 6 rfl), hP 2 (Q28 i0 (by omega))] [] (by kernel_rfl) hr
theorem Q17d (p0 : List Fld) (H : Q9t p0) (x0 : Fld) (i0 : Nat) (v0_1 : List Fld) (hx0 : (Qt (List.length p0) p0)[i0]? = some x0) (hi0 : i0 < List.length (Qt (List.length p0) p0)) (_ho0_0 : List.length v0_1 ≤ i0) (hc0 : (decide ((i0 : Int) < ((List.length p0) : Int))) = true) (h0 : (((i0 + 1 : Nat) : Int) == ((List.length p0) : Int)) = false) (h1 : (sEq (List.getD (Qt (List.length p0) p0) (Int.toNat ((i0 + 1 : Nat) : Int)) zF).name x0.name) = true) {r : Rs} (hr : Q5 G (Q79 p0 (i0 + 1) v0_1) r) : Q5 G (Q79 p0 i0 v0_1) r := by
 have hB0 := H.1; have e0 := beq_eq_false_iff_ne.1 h0
 exact Qd (Qh2 p0 i0 v0_1) (y := (Qbl p0 (i0 + 1) v0_1, Q8z p0 (i0 + 1) v0_1)) [hB 0 hc0, hP 1 (Q4s 1 6 (List.length p0) (i0 : Int) i0 (by omega) (by have f1 := (Q2q (List.length p0) p0 rfl); omega) (by have f1 := (Q2q (List.length p0) p0 rfl); omega)), hP 0 (Qaf 1 6 0 false ((Fld.rows (Qt (List.length p0) p0)).flatten) (Fld.rows (Qt (List.length p0) p0)) 6 true i0 0 (i0 * 6) (Fld.cells x0) (.agg [.str x0.name, .int .i64 x0.v.kind, .int .i64 x0.v.n, .str x0.v.s, .sl (Val.rows x0.v.list), .sl (Fld.rows x0.v.fields)]) rfl rfl (Fld.Qe hx0) (Fld.Ql (Qt (List.length p0) p0)) (by decide) rfl), hP 4 (Q28 i0 (by omega)), hB 2 h0, hP 3 (Q28 i0 (by omega)), hP 0 (Q4s 1 6 (List.length p0) ((i0 + 1 : Nat) : Int) (Int.toNat ((i0 + 1 : Nat) : Int)) rfl (by have f1 := (Q2q (List.length p0) p0 rfl); omega) (by have f1 := (Q2q (List.length p0) p0 rfl); omega)), hP 1 (Qaf 1 6 0 false ((Fld.rows (Qt (List.length p0) p0)).flatten) (Fld.rows (Qt (List.length p0) p0)) 1 false (Int.toNat ((i0 + 1 : Nat) : Int)) 0 ((Int.toNat ((i0 + 1 : Nat) : Int)) * 6) (Fld.cells (List.getD (Qt (List.length p0) p0) (Int.toNat ((i0 + 1 : Nat) : Int)) zF)) (.str (List.getD (Qt (List.length p0) p0) (Int.toNat ((i0 + 1 : Nat) : Int)) zF).name) rfl rfl (Fld.Qe (Q50 (Qt (List.length p0) p0) (Int.toNat ((i0 + 1 : Nat) : Int)) zF (by have f1 := (Q2q (List.length p0) p0 rfl); omega))) (Fld.Ql (Qt (List.length p0) p0)) (by decide) rfl), hP 2 (dec (!(sEq (List.getD (Qt (List.length p0) p0) (Int.toNat ((i0 + 1 : Nat) : Int)) zF).name x0.name)) false (by rw [h1]; rfl)), hP 1 (Q28 i0 (by omega))] [] (by kernel_rfl) hr
theorem Q17e (p0 : List Fld) (H : Q9t p0) (x0 : Fld) (i0 : Nat) (v0_1 : List Fld) (hx0 : (Qt (List.length p0) p0)[i0]? = some x0) (hi0 : i0 < List.length (Qt (List.length p0) p0)) (ho0_0 : List.length v0_1 ≤ i0) (hc0 : (decide ((i0 : Int) < ((List.length p0) : Int))) = true) (h0 : (((i0 + 1 : Nat) : Int) == ((List.length p0) : Int)) = false) (h1 : (sEq (List.getD (Qt (List.length p0) p0) (Int.toNat ((i0 + 1 : Nat) : Int)) zF).name x0.name) = false) {r : Rs} (hr : Q5 G (Q79 p0 (i0 + 1) (v0_1 ++ [x0])) r) : Q5 G (Q79 p0 i0 v0_1) r := by
 have hB0 := H.1; have e0 := beq_eq_false_iff_ne.1 h0
 exact Qd (Qh2 p0 i0 v0_1) (y := (Qbl p0 (i0 + 1) (v0_1 ++ [x0]), Q8z p0 (i0 + 1) (v0_1 ++ [x0]))) [hB 0 hc0, hP 1 (Q4s 1 6 (List.length p0) (i0 : Int) i0 (by omega) (by have f1 := (Q2q (List.length p0) p0 rfl); omega) (by have f1 := (Q2q (List.length p0) p0 rfl); omega)), hP 0 (Qaf 1 6 0 false ((Fld.rows (Qt (List.length p0) p0)).flatten) (Fld.rows (Qt (List.length p0) p0)) 6 true i0 0 (i0 * 6) (Fld.cells x0) (.agg [.str x0.name, .int .i64 x0.v.kind, .int .i64 x0.v.n, .str x0.v.s, .sl (Val.rows x0.v.list), .sl (Fld.rows x0.v.fields)]) rfl rfl (Fld.Qe hx0) (Fld.Ql (Qt (List.length p0) p0)) (by decide) rfl), hP 4 (Q28 i0 (by omega)), hB 2 h0, hP 3 (Q28 i0 (by omega)), hP 0 (Q4s 1 6 (List.length p0) ((i0 + 1 : Nat) : Int) (Int.toNat ((i0 + 1 : Nat) : Int)) rfl (by have f1 := (Q2q (List.length p0) p0 rfl); omega) (by have f1 := (Q2q (List.length p0) p0 rfl); omega)), hP 1 (Qaf 1 6 0 false ((Fld.rows (Qt (List.length p0) p0)).flatten) (Fld.rows (Qt (List.length p0) p0)) 1 false (Int.toNat ((i0 + 1 : Nat) : Int)) 0 ((Int.toNat ((i0 + 1 : Nat) : Int)) * 6) (Fld.cells (List.getD (Qt (List.length p0) p0) (Int.toNat ((i0 + 1 : Nat) : Int)) zF)) (.str (List.getD (Qt (List.length p0) p0) (Int.toNat ((i0 + 1 : Nat) : Int)) zF).name) rfl rfl (Fld.Qe (Q50 (Qt (List.length p0) p0) (Int.toNat ((i0 + 1 : Nat) : Int)) zF (by have f1 := (Q2q (List.length p0) p0 rfl); omega))) (Fld.Ql (Qt (List.length p0) p0)) (by decide) rfl), hP 2 (dec (!(sEq (List.getD (Qt (List.length p0) p0) (Int.toNat ((i0 + 1 : Nat) : Int)) zF).name x0.name)) true (by rw [h1]; rfl)), hV 5 [(1735, Fld.rows (v0_1 ++ [x0]))] (Q3x 6 1671 1735 6 96 0 0 true (Fld.rows v0_1) (Fld.rows (v0_1 ++ [x0])) (Fld.cells x0) (List.length v0_1) (List.length (v0_1 ++ [x0])) rfl (Fld.Q0 v0_1).symm (Fld.Q0 (v0_1 ++ [x0])).symm (Fld.Q1q v0_1 x0) (Fld.Ql v0_1) rfl (by omega)), hS 0 true (Fld.Q7 (v0_1 ++ [x0]) 6 rfl), hP 2 (Q28 i0 (by omega))] [] (by kernel_rfl) hr
theorem Qcm (p0 : List Fld) (H : Q9t p0) : ∀ (r0 : List Fld) (i0 : Nat) (v0_1 : List Fld), List.drop i0 (Qt (List.length p0) p0) = r0 → List.length v0_1 ≤ i0 → Qgy p0 (Q79 p0 i0 v0_1) (Q3m p0 r0 i0 v0_1)
 | [], i0, v0_1, hd, ho0_0 => by
  have hc0 : (decide ((i0 : Int) < ((List.length p0) : Int))) = false := by have hL := (Q2q (List.length p0) p0 rfl); have := Q1o hd; simp; omega
  rw [Q3m]
  exact Q19l p0 H i0 v0_1 ho0_0 hc0
 | x0 :: r0, i0, v0_1, hd, ho0_0 => by
  obtain ⟨hx0, hi0, hd'⟩ := Q1i hd
  have hc0 : (decide ((i0 : Int) < ((List.length p0) : Int))) = true := by have hL := (Q2q (List.length p0) p0 rfl); simp; omega
  rw [Q3m]
  cases h0 : (((i0 + 1 : Nat) : Int) == ((List.length p0) : Int)) with
  | true =>
   have e0 := eq_of_beq h0
   exact Q8c p0 (fun r hr => Q17c p0 H x0 i0 v0_1 hx0 hi0 ho0_0 hc0 h0 hr) _ (Qcm p0 H r0 (i0 + 1) (v0_1 ++ [x0]) hd' (by first | omega | (simp; omega)))
  | false =>
   have e0 := beq_eq_false_iff_ne.1 h0
   cases h1 : (sEq (List.getD (Qt (List.length p0) p0) (Int.toNat ((i0 + 1 : Nat) : Int)) zF).name x0.name) with
   | true =>
    exact Q8c p0 (fun r hr => Q17d p0 H x0 i0 v0_1 hx0 hi0 ho0_0 hc0 h0 h1 hr) _ (Qcm p0 H r0 (i0 + 1) v0_1 hd' (by first | omega | (simp; omega)))
   | false =>
    exact Q8c p0 (fun r hr => Q17e p0 H x0 i0 v0_1 hx0 hi0 ho0_0 hc0 h0 h1 hr) _ (Qcm p0 H r0 (i0 + 1) (v0_1 ++ [x0]) hd' (by first | omega | (simp; omega)))
def Q57 (p0 : List Fld) : Val :=
 (Val.mk 5 0 eB [] (Q3m p0 (Qt (List.length p0) p0) 0 []))
def Qae (p0 : List Fld) : En := .call 78 [.sl (Fld.rows p0)] []
def Q1pc (p0 : List Fld) : Rs := .ret (.agg (Val.cells (Q57 p0))) []
def Q90 (p0 : List Fld) : Prop := (List.length p0 * 96 ≤ 140737488355328) ∧ (((List.length p0) : Int) ≤ 20) ∧ (Q9t p0) ∧ (Qmw (Val.mk 5 0 eB [] (Q3m p0 (Qt (List.length p0) p0) 0 []))) ∧ True
theorem Qbh (p0 : List Fld) (H : Q90 p0) : Q5 G (Qae p0) (Q1pc p0) := by
 unfold Q1pc Q57
 have hl0 := Qcm p0 (H.2.2.1) (Qt (List.length p0) p0) 0 [] (by simp) (by simp)
 obtain ⟨z0, zo0, hl0⟩ := hl0
 exact Q6 (fn := Ir.K50) rfl VOK.nil [hQ (Fld.Q7 p0 6 rfl), hQ (Fld.Q7 (Qt (List.length p0) p0) 6 rfl), hS 0 false (Fld.Q7 (Qt (List.length p0) p0) 6 rfl), hS 0 true (Fld.Q7 (Q3m p0 (Qt (List.length p0) p0) 0 []) 6 rfl), hQ (Fld.Q0 (Q3m p0 (Qt (List.length p0) p0) 0 [])).symm] [aV [(0, Fld.rows p0)] (Q8r (G := G) (f := 185) (sz := 6) (bytes := 96) rfl (Fld.Q0 p0) (Fld.Q7 p0 6 rfl) H.1), aV [(0, Fld.rows (Qt (List.length p0) p0))] (Q182 (List.length p0) p0 rfl (H.2.1)), aV [(1, Fld.rows (Qt (List.length p0) p0)), (6, Fld.rows (Q3m p0 (Qt (List.length p0) p0) 0 []))] hl0, aN (Q1jx (Val.mk 5 0 eB [] (Q3m p0 (Qt (List.length p0) p0) 0 [])) H.2.2.2.1)] (by kernel_rfl)
end Go.Proofs.YtimjjohlpnkacaaGreat
end

section
/- Maps of at most 20 fields, fields of a name and equality in plain words. -/
namespace Go.Proofs.YtimjjohlpnkacaaGreat
open Go.Pv Go.Pv.Srt
theorem vind {P : Val → Prop} (h : ∀ v : Val, (∀ x ∈ v.list, P x) → (∀ f ∈ v.fields, P f.v) → P v) : ∀ v, P v := by
  have key : ∀ (k : Nat) (v : Val), SizeOf.sizeOf v < k → P v := by
    intro k
    induction k with
    | zero => intro v hv; exact absurd hv (Nat.not_lt_zero _)
    | succ k ih => intro v hv; exact h v (fun x hx => ih x (by have := szM hx; omega)) (fun f hf => ih f.v (by have := szN hf; omega))
  exact fun v => key _ v (Nat.lt_succ_self _)
theorem vprt (v : Val) (n : BA) : (Qn3 v n).1 = prt v n := by
  unfold Qn3 prt
  cases v.kind == 5 with
  | false => rfl
  | true =>
    simp only [cond_true]
    have : ∀ (l : List Fld) (i : Nat), (match Q7c v n l i with | .k0 => (Val.mk 0 0 ⟨#[]⟩ [] [], false) | .k1 y => (y, true)).1 = Q162 n l := by
      intro l
      induction l with
      | nil => intro i; rfl
      | cons x l ih =>
        intro i
        rw [Q7c, Q162]
        cases sEq x.name n with
        | true => rfl
        | false => exact ih (i + 1)
    exact this _ _
abbrev Qdp : Fld := zF
theorem Q1hm (n0 : Nat) (a b i : Int) : ∀ (k : Nat) (v : List Fld) (j : Int), Q3o n0 a b i k v j = ins1 Qdp cNm a k v j
  | 0, _, _ => rfl
  | k + 1, v, j => by
    rw [Q3o, ins1, Q1hm n0 a b i k]
    rfl
theorem Q1hl (n0 : Nat) (a b : Int) : ∀ (k : Nat) (i : Int) (v : List Fld), Q4j n0 a b k i v = ins0 Qdp cNm a b k i v
  | 0, _, _ => rfl
  | k + 1, i, v => by
    rw [Q4j, ins0, Q1hl n0 a b k, Q1hm]
theorem Q1qz (n0 : Nat) (d : List Fld) (a b : Int) : Q2e n0 d a b = ins Qdp cNm d a b := Q1hl n0 a b _ _ _
theorem Qux {l : List Fld} (h : l.length ≤ 20) : Qt l.length l = Qdd cNm l := by
  unfold Qt Q56
  have i1 : ∀ v, Q5l l.length (l.length : Int) (0 + 1) v = v := fun v => rfl
  rw [i1, Q1qz, Q3g]
  by_cases c : (20 : Int) ≤ (l.length : Int)
  · rw [show decide ((20 : Int) ≤ (l.length : Int)) = true by simpa using c, cond_true, Q1qz, show Int.toNat ((l.length : Int) + 20 - 20) = 19 + 1 by omega, Q3g, show decide ((20 : Int) + 20 ≤ (l.length : Int)) = false by simp; omega, cond_false]
    have e1 := Qu4 (z := Qdp) (c := cNm) (d := l) (A := []) (M := l) (C := []) (a := 0) (b := 20) (by simp) rfl (by omega)
    rw [List.nil_append, List.append_nil] at e1
    rw [e1, Qu4 (z := Qdp) (c := cNm) (d := Qdd cNm l) (A := Qdd cNm l) (M := []) (C := []) (by simp) (by rw [Qlz _ (Qac Fld.name)]; omega) (by simp; omega)]
    simp [Qdd]
  · rw [show decide ((20 : Int) ≤ (l.length : Int)) = false by simpa using c, cond_false]
    have e1 := Qu4 (z := Qdp) (c := cNm) (d := l) (A := []) (M := l) (C := []) (a := 0) (b := (l.length : Int)) (by simp) rfl (by omega)
    rw [List.nil_append, List.append_nil] at e1
    exact e1
theorem Qde (p : List Fld) : (Qdd cNm p).length = p.length := Qlz _ (Qac Fld.name) p
theorem Q1bi {p : List Fld} (hp : p.length ≤ 20) : ∀ (r : List Fld) (i : Nat) (a : List Fld), (Qdd cNm p).drop i = r → Q3m p r i a = a ++ lasts r
  | [], i, a, _ => by rw [Q3m, lasts]; simp
  | [x], i, a, hd => by
    have hl := Qde p
    have h := congrArg List.length hd
    rw [List.length_drop, List.length_singleton] at h
    rw [Q3m, show (((i + 1 : Nat) : Int) == (List.length p : Int)) = true by simp; omega, cond_true, Q3m]
    rfl
  | x :: y :: r, i, a, hd => by
    have hl := Qde p
    have h := congrArg List.length hd
    rw [List.length_drop, List.length_cons, List.length_cons] at h
    obtain ⟨_, _, hd'⟩ := Q1i hd
    obtain ⟨hy, _, _⟩ := Q1i hd'
    rw [Q3m, show (((i + 1 : Nat) : Int) == (List.length p : Int)) = false by simp; omega, cond_false, Qux hp, Int.toNat_natCast, List.getD_eq_getElem?_getD, hy, Option.getD_some, lasts]
    cases sEq y.name x.name with
    | true => rw [cond_true, cond_true, Q1bi hp (y :: r) (i + 1) a hd']
    | false => rw [cond_false, cond_false, Q1bi hp (y :: r) (i + 1) _ hd']; simp
theorem Qms {p : List Fld} (hp : p.length ≤ 20) : Q3m p (Qt p.length p) 0 [] = mapOf p := by
  rw [Q1bi hp _ 0 [] (by rw [Qux hp]; rfl), Qux hp]
  rfl
theorem vmap {p : List Fld} (hp : p.length ≤ 20) : Q57 p = vM (mapOf p) := by
  unfold Q57
  rw [Qms hp]
theorem Q5r {p : List Fld} (hp : p.length ≤ 20) (hs : ssb p = true) : Q57 p = vM p := by rw [vmap hp, Q1bg hs]
theorem Q1nu {l : List Fld} (hl : l.length ≤ 20) (h : ∀ f ∈ l, Val.Sm sB f.v) : Val.Sm sB (vM (mapOf l)) :=
  .mk _ (Nat.zero_le _) (Nat.le_trans (Q1bf l) (by show l.length ≤ 1000000000; omega)) (fun _ g => by cases g) fun f hf => h f (Q1bh hf)
theorem Qam {l : List Fld} (hl : l.length ≤ 20) (h : ∀ f ∈ l, Val.Sm sB f.v) : Q90 l := by
  refine ⟨by omega, by omega, ⟨?_, trivial⟩, ?_, trivial⟩
  · rw [Qux hl, Qde]
    omega
  · rw [Qms hl]
    exact Q1nu hl h
theorem Q1ne {v : Val} (h : Val.Sm sB v) (n : BA) : Q1dk v n := ⟨⟨Nat.le_trans h.all.2.1 (Nat.le_of_ble_eq_true rfl), h.all.2.2.2, trivial⟩, trivial⟩
end Go.Proofs.YtimjjohlpnkacaaGreat
end

section
/- Structures and kinds of objects as values, in plain words (printed by a program). -/
namespace Go.Proofs.YtimjjohlpnkacaaGreat
open Go.Pv
structure Requirement where
  key : ByteArray
  op : Int
  values : List ByteArray
def Requirement.cells (x : Requirement) : List PV :=
  [.str x.key, .int .i64 x.op, .sl (Qu x.values)]
def Requirement.rows (l : List Requirement) : List (List PV) := l.map Requirement.cells
theorem Requirement.Q0 (l : List Requirement) : (Requirement.rows l).length = l.length := by simp [Requirement.rows]
theorem Requirement.Qe {l : List Requirement} {i : Nat} {x : Requirement} (h : l[i]? = some x) : (Requirement.rows l)[i]? = some (Requirement.cells x) := Go.Pv.Qe h
theorem Requirement.Q1q (l : List Requirement) (x : Requirement) : Requirement.rows (l ++ [x]) = Requirement.rows l ++ [Requirement.cells x] := by simp [Requirement.rows]
theorem Requirement.Ql (l : List Requirement) : ∀ r ∈ Requirement.rows l, r.length = 3 := Q5o (f := Requirement.cells) (fun _ => rfl) l
theorem Requirement.Q7 (l : List Requirement) (sz : Nat) (h : sz = 3) : ViewOK sz (Requirement.rows l).flatten (Requirement.rows l) := by subst h; exact ⟨rfl, Requirement.Ql l, Q44 (f := Requirement.cells) (fun _ => rfl) l⟩
structure Label where
  key : ByteArray
  value : ByteArray
def Label.cells (x : Label) : List PV :=
  [.str x.key, .str x.value]
def Label.rows (l : List Label) : List (List PV) := l.map Label.cells
theorem Label.Q0 (l : List Label) : (Label.rows l).length = l.length := by simp [Label.rows]
theorem Label.Qe {l : List Label} {i : Nat} {x : Label} (h : l[i]? = some x) : (Label.rows l)[i]? = some (Label.cells x) := Go.Pv.Qe h
theorem Label.Q1q (l : List Label) (x : Label) : Label.rows (l ++ [x]) = Label.rows l ++ [Label.cells x] := by simp [Label.rows]
theorem Label.Ql (l : List Label) : ∀ r ∈ Label.rows l, r.length = 2 := Q5o (f := Label.cells) (fun _ => rfl) l
theorem Label.Q7 (l : List Label) (sz : Nat) (h : sz = 2) : ViewOK sz (Label.rows l).flatten (Label.rows l) := by subst h; exact ⟨rfl, Label.Ql l, Q44 (f := Label.cells) (fun _ => rfl) l⟩
structure Resources where
  cPU : Int
  memory : Int
  disk : Int
def Resources.cells (x : Resources) : List PV :=
  [.int .i64 x.cPU, .int .i64 x.memory, .int .i64 x.disk]
def Resources.rows (l : List Resources) : List (List PV) := l.map Resources.cells
structure Probe where
  delay : Int
  period : Int
  success : Int
  failure : Int
def Probe.cells (x : Probe) : List PV :=
  [.int .i64 x.delay, .int .i64 x.period, .int .i64 x.success, .int .i64 x.failure]
def Probe.rows (l : List Probe) : List (List PV) := l.map Probe.cells
theorem Probe.Q0 (l : List Probe) : (Probe.rows l).length = l.length := by simp [Probe.rows]
theorem Probe.Qe {l : List Probe} {i : Nat} {x : Probe} (h : l[i]? = some x) : (Probe.rows l)[i]? = some (Probe.cells x) := Go.Pv.Qe h
theorem Probe.Q1q (l : List Probe) (x : Probe) : Probe.rows (l ++ [x]) = Probe.rows l ++ [Probe.cells x] := by simp [Probe.rows]
theorem Probe.Ql (l : List Probe) : ∀ r ∈ Probe.rows l, r.length = 4 := Q5o (f := Probe.cells) (fun _ => rfl) l
theorem Probe.Q7 (l : List Probe) (sz : Nat) (h : sz = 4) : ViewOK sz (Probe.rows l).flatten (Probe.rows l) := by subst h; exact ⟨rfl, Probe.Ql l, Q44 (f := Probe.cells) (fun _ => rfl) l⟩
structure Container where
  name : ByteArray
  image : ByteArray
  request : Resources
  limit : Resources
  live : List Probe
  ready : List Probe
  startup : List Probe
def Container.cells (x : Container) : List PV :=
  [.str x.name, .str x.image, .int .i64 x.request.cPU, .int .i64 x.request.memory, .int .i64 x.request.disk, .int .i64 x.limit.cPU, .int .i64 x.limit.memory, .int .i64 x.limit.disk, .sl (Probe.rows x.live), .sl (Probe.rows x.ready), .sl (Probe.rows x.startup)]
def Container.rows (l : List Container) : List (List PV) := l.map Container.cells
theorem Container.Q0 (l : List Container) : (Container.rows l).length = l.length := by simp [Container.rows]
theorem Container.Qe {l : List Container} {i : Nat} {x : Container} (h : l[i]? = some x) : (Container.rows l)[i]? = some (Container.cells x) := Go.Pv.Qe h
theorem Container.Q1q (l : List Container) (x : Container) : Container.rows (l ++ [x]) = Container.rows l ++ [Container.cells x] := by simp [Container.rows]
theorem Container.Ql (l : List Container) : ∀ r ∈ Container.rows l, r.length = 11 := Q5o (f := Container.cells) (fun _ => rfl) l
theorem Container.Q7 (l : List Container) (sz : Nat) (h : sz = 11) : ViewOK sz (Container.rows l).flatten (Container.rows l) := by subst h; exact ⟨rfl, Container.Ql l, Q44 (f := Container.cells) (fun _ => rfl) l⟩
structure NodeTerm where
  required : Bool
  selector : List Requirement
  weight : Int
def NodeTerm.cells (x : NodeTerm) : List PV :=
  [.bool x.required, .sl (Requirement.rows x.selector), .int .i64 x.weight]
def NodeTerm.rows (l : List NodeTerm) : List (List PV) := l.map NodeTerm.cells
theorem NodeTerm.Q0 (l : List NodeTerm) : (NodeTerm.rows l).length = l.length := by simp [NodeTerm.rows]
theorem NodeTerm.Qe {l : List NodeTerm} {i : Nat} {x : NodeTerm} (h : l[i]? = some x) : (NodeTerm.rows l)[i]? = some (NodeTerm.cells x) := Go.Pv.Qe h
theorem NodeTerm.Q1q (l : List NodeTerm) (x : NodeTerm) : NodeTerm.rows (l ++ [x]) = NodeTerm.rows l ++ [NodeTerm.cells x] := by simp [NodeTerm.rows]
theorem NodeTerm.Ql (l : List NodeTerm) : ∀ r ∈ NodeTerm.rows l, r.length = 3 := Q5o (f := NodeTerm.cells) (fun _ => rfl) l
theorem NodeTerm.Q7 (l : List NodeTerm) (sz : Nat) (h : sz = 3) : ViewOK sz (NodeTerm.rows l).flatten (NodeTerm.rows l) := by subst h; exact ⟨rfl, NodeTerm.Ql l, Q44 (f := NodeTerm.cells) (fun _ => rfl) l⟩
structure PodTerm where
  required : Bool
  anti : Bool
  selector : List Requirement
  topology : ByteArray
  weight : Int
def PodTerm.cells (x : PodTerm) : List PV :=
  [.bool x.required, .bool x.anti, .sl (Requirement.rows x.selector), .str x.topology, .int .i64 x.weight]
def PodTerm.rows (l : List PodTerm) : List (List PV) := l.map PodTerm.cells
theorem PodTerm.Q0 (l : List PodTerm) : (PodTerm.rows l).length = l.length := by simp [PodTerm.rows]
theorem PodTerm.Qe {l : List PodTerm} {i : Nat} {x : PodTerm} (h : l[i]? = some x) : (PodTerm.rows l)[i]? = some (PodTerm.cells x) := Go.Pv.Qe h
theorem PodTerm.Q1q (l : List PodTerm) (x : PodTerm) : PodTerm.rows (l ++ [x]) = PodTerm.rows l ++ [PodTerm.cells x] := by simp [PodTerm.rows]
theorem PodTerm.Ql (l : List PodTerm) : ∀ r ∈ PodTerm.rows l, r.length = 5 := Q5o (f := PodTerm.cells) (fun _ => rfl) l
theorem PodTerm.Q7 (l : List PodTerm) (sz : Nat) (h : sz = 5) : ViewOK sz (PodTerm.rows l).flatten (PodTerm.rows l) := by subst h; exact ⟨rfl, PodTerm.Ql l, Q44 (f := PodTerm.cells) (fun _ => rfl) l⟩
structure SpreadRule where
  maxSkew : Int
  topology : ByteArray
  selector : List Requirement
  required : Bool
def SpreadRule.cells (x : SpreadRule) : List PV :=
  [.int .i64 x.maxSkew, .str x.topology, .sl (Requirement.rows x.selector), .bool x.required]
def SpreadRule.rows (l : List SpreadRule) : List (List PV) := l.map SpreadRule.cells
theorem SpreadRule.Q0 (l : List SpreadRule) : (SpreadRule.rows l).length = l.length := by simp [SpreadRule.rows]
theorem SpreadRule.Qe {l : List SpreadRule} {i : Nat} {x : SpreadRule} (h : l[i]? = some x) : (SpreadRule.rows l)[i]? = some (SpreadRule.cells x) := Go.Pv.Qe h
theorem SpreadRule.Q1q (l : List SpreadRule) (x : SpreadRule) : SpreadRule.rows (l ++ [x]) = SpreadRule.rows l ++ [SpreadRule.cells x] := by simp [SpreadRule.rows]
theorem SpreadRule.Ql (l : List SpreadRule) : ∀ r ∈ SpreadRule.rows l, r.length = 4 := Q5o (f := SpreadRule.cells) (fun _ => rfl) l
theorem SpreadRule.Q7 (l : List SpreadRule) (sz : Nat) (h : sz = 4) : ViewOK sz (SpreadRule.rows l).flatten (SpreadRule.rows l) := by subst h; exact ⟨rfl, SpreadRule.Ql l, Q44 (f := SpreadRule.cells) (fun _ => rfl) l⟩
structure Toleration where
  key : ByteArray
  value : ByteArray
  exists_ : Bool
  effect : Int
  seconds : Int
def Toleration.cells (x : Toleration) : List PV :=
  [.str x.key, .str x.value, .bool x.exists_, .int .i64 x.effect, .int .i64 x.seconds]
def Toleration.rows (l : List Toleration) : List (List PV) := l.map Toleration.cells
theorem Toleration.Q0 (l : List Toleration) : (Toleration.rows l).length = l.length := by simp [Toleration.rows]
theorem Toleration.Qe {l : List Toleration} {i : Nat} {x : Toleration} (h : l[i]? = some x) : (Toleration.rows l)[i]? = some (Toleration.cells x) := Go.Pv.Qe h
theorem Toleration.Q1q (l : List Toleration) (x : Toleration) : Toleration.rows (l ++ [x]) = Toleration.rows l ++ [Toleration.cells x] := by simp [Toleration.rows]
theorem Toleration.Ql (l : List Toleration) : ∀ r ∈ Toleration.rows l, r.length = 5 := Q5o (f := Toleration.cells) (fun _ => rfl) l
theorem Toleration.Q7 (l : List Toleration) (sz : Nat) (h : sz = 5) : ViewOK sz (Toleration.rows l).flatten (Toleration.rows l) := by subst h; exact ⟨rfl, Toleration.Ql l, Q44 (f := Toleration.cells) (fun _ => rfl) l⟩
structure PodSpec where
  node : ByteArray
  priority : Int
  restart : Int
  grace : Int
  containers : List Container
  nodeSelector : List Requirement
  nodeTerms : List NodeTerm
  podTerms : List PodTerm
  spread : List SpreadRule
  tolerations : List Toleration
def PodSpec.cells (x : PodSpec) : List PV :=
  [.str x.node, .int .i64 x.priority, .int .i64 x.restart, .int .i64 x.grace, .sl (Container.rows x.containers), .sl (Requirement.rows x.nodeSelector), .sl (NodeTerm.rows x.nodeTerms), .sl (PodTerm.rows x.podTerms), .sl (SpreadRule.rows x.spread), .sl (Toleration.rows x.tolerations)]
def PodSpec.rows (l : List PodSpec) : List (List PV) := l.map PodSpec.cells
structure Template where
  labels : List Label
  spec : PodSpec
def Template.cells (x : Template) : List PV :=
  [.sl (Label.rows x.labels), .str x.spec.node, .int .i64 x.spec.priority, .int .i64 x.spec.restart, .int .i64 x.spec.grace, .sl (Container.rows x.spec.containers), .sl (Requirement.rows x.spec.nodeSelector), .sl (NodeTerm.rows x.spec.nodeTerms), .sl (PodTerm.rows x.spec.podTerms), .sl (SpreadRule.rows x.spec.spread), .sl (Toleration.rows x.spec.tolerations)]
def Template.rows (l : List Template) : List (List PV) := l.map Template.cells
structure Amount where
  percent : Bool
  n : Int
def Amount.cells (x : Amount) : List PV :=
  [.bool x.percent, .int .i64 x.n]
def Amount.rows (l : List Amount) : List (List PV) := l.map Amount.cells
structure WorkStatus where
  observed : Int
  replicas : Int
  updated : Int
  ready : Int
  available : Int
  progress : Int
  failed : Bool
def WorkStatus.cells (x : WorkStatus) : List PV :=
  [.int .i64 x.observed, .int .i64 x.replicas, .int .i64 x.updated, .int .i64 x.ready, .int .i64 x.available, .int .i64 x.progress, .bool x.failed]
def WorkStatus.rows (l : List WorkStatus) : List (List PV) := l.map WorkStatus.cells
structure Metric where
  name : ByteArray
  target : Int
def Metric.cells (x : Metric) : List PV :=
  [.str x.name, .int .i64 x.target]
def Metric.rows (l : List Metric) : List (List PV) := l.map Metric.cells
structure Advice where
  at_ : Int
  replicas : Int
def Advice.cells (x : Advice) : List PV :=
  [.int .i64 x.at_, .int .i64 x.replicas]
def Advice.rows (l : List Advice) : List (List PV) := l.map Advice.cells
structure WorkItem where
  key : ByteArray
  at_ : Int
def WorkItem.cells (x : WorkItem) : List PV :=
  [.str x.key, .int .i64 x.at_]
def WorkItem.rows (l : List WorkItem) : List (List PV) := l.map WorkItem.cells
structure ServicePort where
  name : ByteArray
  port : Int
  target : Int
def ServicePort.cells (x : ServicePort) : List PV :=
  [.str x.name, .int .i64 x.port, .int .i64 x.target]
def ServicePort.rows (l : List ServicePort) : List (List PV) := l.map ServicePort.cells
structure Endpoint where
  pod : ByteArray
  node : ByteArray
  address : Int
  ready : Bool
  terminating : Bool
def Endpoint.cells (x : Endpoint) : List PV :=
  [.str x.pod, .str x.node, .int .i64 x.address, .bool x.ready, .bool x.terminating]
def Endpoint.rows (l : List Endpoint) : List (List PV) := l.map Endpoint.cells
structure Peer where
  namespace_ : ByteArray
  selector : List Requirement
def Peer.cells (x : Peer) : List PV :=
  [.str x.namespace_, .sl (Requirement.rows x.selector)]
def Peer.rows (l : List Peer) : List (List PV) := l.map Peer.cells
structure PolicyRule where
  egress : Bool
  peers : List Peer
  ports : List Int
def PolicyRule.cells (x : PolicyRule) : List PV :=
  [.bool x.egress, .sl (Peer.rows x.peers), .sl (Q2n x.ports)]
def PolicyRule.rows (l : List PolicyRule) : List (List PV) := l.map PolicyRule.cells
structure Owner where
  kind : ByteArray
  name : ByteArray
  uid : Int
  controller : Bool
  block : Bool
def Owner.cells (x : Owner) : List PV :=
  [.str x.kind, .str x.name, .int .i64 x.uid, .bool x.controller, .bool x.block]
def Owner.rows (l : List Owner) : List (List PV) := l.map Owner.cells
theorem Owner.Q0 (l : List Owner) : (Owner.rows l).length = l.length := by simp [Owner.rows]
theorem Owner.Qe {l : List Owner} {i : Nat} {x : Owner} (h : l[i]? = some x) : (Owner.rows l)[i]? = some (Owner.cells x) := Go.Pv.Qe h
theorem Owner.Ql (l : List Owner) : ∀ r ∈ Owner.rows l, r.length = 5 := Q5o (f := Owner.cells) (fun _ => rfl) l
theorem Owner.Q7 (l : List Owner) (sz : Nat) (h : sz = 5) : ViewOK sz (Owner.rows l).flatten (Owner.rows l) := by subst h; exact ⟨rfl, Owner.Ql l, Q44 (f := Owner.cells) (fun _ => rfl) l⟩
structure Manager where
  name : ByteArray
  fields : List ByteArray
def Manager.cells (x : Manager) : List PV :=
  [.str x.name, .sl (Qu x.fields)]
def Manager.rows (l : List Manager) : List (List PV) := l.map Manager.cells
theorem Manager.Q0 (l : List Manager) : (Manager.rows l).length = l.length := by simp [Manager.rows]
theorem Manager.Qe {l : List Manager} {i : Nat} {x : Manager} (h : l[i]? = some x) : (Manager.rows l)[i]? = some (Manager.cells x) := Go.Pv.Qe h
theorem Manager.Ql (l : List Manager) : ∀ r ∈ Manager.rows l, r.length = 2 := Q5o (f := Manager.cells) (fun _ => rfl) l
theorem Manager.Q7 (l : List Manager) (sz : Nat) (h : sz = 2) : ViewOK sz (Manager.rows l).flatten (Manager.rows l) := by subst h; exact ⟨rfl, Manager.Ql l, Q44 (f := Manager.cells) (fun _ => rfl) l⟩
structure Meta where
  kind : ByteArray
  namespace_ : ByteArray
  name : ByteArray
  uid : Int
  version : Int
  generation : Int
  created : Int
  deleting : Bool
  deleteAt : Int
  labels : List Label
  owners : List Owner
  finalizers : List ByteArray
  managers : List Manager
def Meta.cells (x : Meta) : List PV :=
  [.str x.kind, .str x.namespace_, .str x.name, .int .i64 x.uid, .int .i64 x.version, .int .i64 x.generation, .int .i64 x.created, .bool x.deleting, .int .i64 x.deleteAt, .sl (Label.rows x.labels), .sl (Owner.rows x.owners), .sl (Qu x.finalizers), .sl (Manager.rows x.managers)]
def Meta.rows (l : List Meta) : List (List PV) := l.map Meta.cells
structure Object where
  meta_ : Meta
  spec : Val
  status : Val
def Object.cells (x : Object) : List PV :=
  [.str x.meta_.kind, .str x.meta_.namespace_, .str x.meta_.name, .int .i64 x.meta_.uid, .int .i64 x.meta_.version, .int .i64 x.meta_.generation, .int .i64 x.meta_.created, .bool x.meta_.deleting, .int .i64 x.meta_.deleteAt, .sl (Label.rows x.meta_.labels), .sl (Owner.rows x.meta_.owners), .sl (Qu x.meta_.finalizers), .sl (Manager.rows x.meta_.managers), .int .i64 x.spec.kind, .int .i64 x.spec.n, .str x.spec.s, .sl (Val.rows x.spec.list), .sl (Fld.rows x.spec.fields), .int .i64 x.status.kind, .int .i64 x.status.n, .str x.status.s, .sl (Val.rows x.status.list), .sl (Fld.rows x.status.fields)]
def Object.rows (l : List Object) : List (List PV) := l.map Object.cells
structure Job where
  meta_ : Meta
  completions : Int
  parallelism : Int
  retries : Int
  deadline : Int
  indexed : Bool
  suspended : Bool
  template : Template
  active : Int
  succeeded : Int
  failed : Int
  started : Int
  finished : Int
  done : List Int
  result : Int
def Job.cells (x : Job) : List PV :=
  [.str x.meta_.kind, .str x.meta_.namespace_, .str x.meta_.name, .int .i64 x.meta_.uid, .int .i64 x.meta_.version, .int .i64 x.meta_.generation, .int .i64 x.meta_.created, .bool x.meta_.deleting, .int .i64 x.meta_.deleteAt, .sl (Label.rows x.meta_.labels), .sl (Owner.rows x.meta_.owners), .sl (Qu x.meta_.finalizers), .sl (Manager.rows x.meta_.managers), .int .i64 x.completions, .int .i64 x.parallelism, .int .i64 x.retries, .int .i64 x.deadline, .bool x.indexed, .bool x.suspended, .sl (Label.rows x.template.labels), .str x.template.spec.node, .int .i64 x.template.spec.priority, .int .i64 x.template.spec.restart, .int .i64 x.template.spec.grace, .sl (Container.rows x.template.spec.containers), .sl (Requirement.rows x.template.spec.nodeSelector), .sl (NodeTerm.rows x.template.spec.nodeTerms), .sl (PodTerm.rows x.template.spec.podTerms), .sl (SpreadRule.rows x.template.spec.spread), .sl (Toleration.rows x.template.spec.tolerations), .int .i64 x.active, .int .i64 x.succeeded, .int .i64 x.failed, .int .i64 x.started, .int .i64 x.finished, .sl (Q2n x.done), .int .i64 x.result]
def Job.rows (l : List Job) : List (List PV) := l.map Job.cells
structure Deployment where
  meta_ : Meta
  replicas : Int
  minReady : Int
  history : Int
  deadline : Int
  selector : List Requirement
  template : Template
  recreate : Bool
  paused : Bool
  surge : Amount
  unavailable : Amount
  undo : Int
  status : WorkStatus
def Deployment.cells (x : Deployment) : List PV :=
  [.str x.meta_.kind, .str x.meta_.namespace_, .str x.meta_.name, .int .i64 x.meta_.uid, .int .i64 x.meta_.version, .int .i64 x.meta_.generation, .int .i64 x.meta_.created, .bool x.meta_.deleting, .int .i64 x.meta_.deleteAt, .sl (Label.rows x.meta_.labels), .sl (Owner.rows x.meta_.owners), .sl (Qu x.meta_.finalizers), .sl (Manager.rows x.meta_.managers), .int .i64 x.replicas, .int .i64 x.minReady, .int .i64 x.history, .int .i64 x.deadline, .sl (Requirement.rows x.selector), .sl (Label.rows x.template.labels), .str x.template.spec.node, .int .i64 x.template.spec.priority, .int .i64 x.template.spec.restart, .int .i64 x.template.spec.grace, .sl (Container.rows x.template.spec.containers), .sl (Requirement.rows x.template.spec.nodeSelector), .sl (NodeTerm.rows x.template.spec.nodeTerms), .sl (PodTerm.rows x.template.spec.podTerms), .sl (SpreadRule.rows x.template.spec.spread), .sl (Toleration.rows x.template.spec.tolerations), .bool x.recreate, .bool x.paused, .bool x.surge.percent, .int .i64 x.surge.n, .bool x.unavailable.percent, .int .i64 x.unavailable.n, .int .i64 x.undo, .int .i64 x.status.observed, .int .i64 x.status.replicas, .int .i64 x.status.updated, .int .i64 x.status.ready, .int .i64 x.status.available, .int .i64 x.status.progress, .bool x.status.failed]
def Deployment.rows (l : List Deployment) : List (List PV) := l.map Deployment.cells
structure Autoscaler where
  meta_ : Meta
  targetKind : ByteArray
  target : ByteArray
  min_ : Int
  max_ : Int
  metrics : List Metric
  tolerance : Int
  upWindow : Int
  downWindow : Int
  upStep : Amount
  downStep : Amount
  period : Int
  advice : List Advice
  scaled : Int
def Autoscaler.cells (x : Autoscaler) : List PV :=
  [.str x.meta_.kind, .str x.meta_.namespace_, .str x.meta_.name, .int .i64 x.meta_.uid, .int .i64 x.meta_.version, .int .i64 x.meta_.generation, .int .i64 x.meta_.created, .bool x.meta_.deleting, .int .i64 x.meta_.deleteAt, .sl (Label.rows x.meta_.labels), .sl (Owner.rows x.meta_.owners), .sl (Qu x.meta_.finalizers), .sl (Manager.rows x.meta_.managers), .str x.targetKind, .str x.target, .int .i64 x.min_, .int .i64 x.max_, .sl (Metric.rows x.metrics), .int .i64 x.tolerance, .int .i64 x.upWindow, .int .i64 x.downWindow, .bool x.upStep.percent, .int .i64 x.upStep.n, .bool x.downStep.percent, .int .i64 x.downStep.n, .int .i64 x.period, .sl (Advice.rows x.advice), .int .i64 x.scaled]
def Autoscaler.rows (l : List Autoscaler) : List (List PV) := l.map Autoscaler.cells
structure ReplicaSet where
  meta_ : Meta
  replicas : Int
  minReady : Int
  revision : Int
  selector : List Requirement
  template : Template
  status : WorkStatus
def ReplicaSet.cells (x : ReplicaSet) : List PV :=
  [.str x.meta_.kind, .str x.meta_.namespace_, .str x.meta_.name, .int .i64 x.meta_.uid, .int .i64 x.meta_.version, .int .i64 x.meta_.generation, .int .i64 x.meta_.created, .bool x.meta_.deleting, .int .i64 x.meta_.deleteAt, .sl (Label.rows x.meta_.labels), .sl (Owner.rows x.meta_.owners), .sl (Qu x.meta_.finalizers), .sl (Manager.rows x.meta_.managers), .int .i64 x.replicas, .int .i64 x.minReady, .int .i64 x.revision, .sl (Requirement.rows x.selector), .sl (Label.rows x.template.labels), .str x.template.spec.node, .int .i64 x.template.spec.priority, .int .i64 x.template.spec.restart, .int .i64 x.template.spec.grace, .sl (Container.rows x.template.spec.containers), .sl (Requirement.rows x.template.spec.nodeSelector), .sl (NodeTerm.rows x.template.spec.nodeTerms), .sl (PodTerm.rows x.template.spec.podTerms), .sl (SpreadRule.rows x.template.spec.spread), .sl (Toleration.rows x.template.spec.tolerations), .int .i64 x.status.observed, .int .i64 x.status.replicas, .int .i64 x.status.updated, .int .i64 x.status.ready, .int .i64 x.status.available, .int .i64 x.status.progress, .bool x.status.failed]
def ReplicaSet.rows (l : List ReplicaSet) : List (List PV) := l.map ReplicaSet.cells
structure Budget where
  meta_ : Meta
  selector : List Requirement
  minAvailable : List Amount
  maxUnavailable : List Amount
  observed : Int
  healthy : Int
  desired : Int
  expected : Int
  allowed : Int
  disrupted : List WorkItem
def Budget.cells (x : Budget) : List PV :=
  [.str x.meta_.kind, .str x.meta_.namespace_, .str x.meta_.name, .int .i64 x.meta_.uid, .int .i64 x.meta_.version, .int .i64 x.meta_.generation, .int .i64 x.meta_.created, .bool x.meta_.deleting, .int .i64 x.meta_.deleteAt, .sl (Label.rows x.meta_.labels), .sl (Owner.rows x.meta_.owners), .sl (Qu x.meta_.finalizers), .sl (Manager.rows x.meta_.managers), .sl (Requirement.rows x.selector), .sl (Amount.rows x.minAvailable), .sl (Amount.rows x.maxUnavailable), .int .i64 x.observed, .int .i64 x.healthy, .int .i64 x.desired, .int .i64 x.expected, .int .i64 x.allowed, .sl (WorkItem.rows x.disrupted)]
def Budget.rows (l : List Budget) : List (List PV) := l.map Budget.cells
structure StatefulSet where
  meta_ : Meta
  replicas : Int
  partition : Int
  minReady : Int
  parallel : Bool
  selector : List Requirement
  template : Template
  status : WorkStatus
def StatefulSet.cells (x : StatefulSet) : List PV :=
  [.str x.meta_.kind, .str x.meta_.namespace_, .str x.meta_.name, .int .i64 x.meta_.uid, .int .i64 x.meta_.version, .int .i64 x.meta_.generation, .int .i64 x.meta_.created, .bool x.meta_.deleting, .int .i64 x.meta_.deleteAt, .sl (Label.rows x.meta_.labels), .sl (Owner.rows x.meta_.owners), .sl (Qu x.meta_.finalizers), .sl (Manager.rows x.meta_.managers), .int .i64 x.replicas, .int .i64 x.partition, .int .i64 x.minReady, .bool x.parallel, .sl (Requirement.rows x.selector), .sl (Label.rows x.template.labels), .str x.template.spec.node, .int .i64 x.template.spec.priority, .int .i64 x.template.spec.restart, .int .i64 x.template.spec.grace, .sl (Container.rows x.template.spec.containers), .sl (Requirement.rows x.template.spec.nodeSelector), .sl (NodeTerm.rows x.template.spec.nodeTerms), .sl (PodTerm.rows x.template.spec.podTerms), .sl (SpreadRule.rows x.template.spec.spread), .sl (Toleration.rows x.template.spec.tolerations), .int .i64 x.status.observed, .int .i64 x.status.replicas, .int .i64 x.status.updated, .int .i64 x.status.ready, .int .i64 x.status.available, .int .i64 x.status.progress, .bool x.status.failed]
def StatefulSet.rows (l : List StatefulSet) : List (List PV) := l.map StatefulSet.cells
structure DaemonSet where
  meta_ : Meta
  minReady : Int
  unavailable : Amount
  selector : List Requirement
  template : Template
  status : WorkStatus
def DaemonSet.cells (x : DaemonSet) : List PV :=
  [.str x.meta_.kind, .str x.meta_.namespace_, .str x.meta_.name, .int .i64 x.meta_.uid, .int .i64 x.meta_.version, .int .i64 x.meta_.generation, .int .i64 x.meta_.created, .bool x.meta_.deleting, .int .i64 x.meta_.deleteAt, .sl (Label.rows x.meta_.labels), .sl (Owner.rows x.meta_.owners), .sl (Qu x.meta_.finalizers), .sl (Manager.rows x.meta_.managers), .int .i64 x.minReady, .bool x.unavailable.percent, .int .i64 x.unavailable.n, .sl (Requirement.rows x.selector), .sl (Label.rows x.template.labels), .str x.template.spec.node, .int .i64 x.template.spec.priority, .int .i64 x.template.spec.restart, .int .i64 x.template.spec.grace, .sl (Container.rows x.template.spec.containers), .sl (Requirement.rows x.template.spec.nodeSelector), .sl (NodeTerm.rows x.template.spec.nodeTerms), .sl (PodTerm.rows x.template.spec.podTerms), .sl (SpreadRule.rows x.template.spec.spread), .sl (Toleration.rows x.template.spec.tolerations), .int .i64 x.status.observed, .int .i64 x.status.replicas, .int .i64 x.status.updated, .int .i64 x.status.ready, .int .i64 x.status.available, .int .i64 x.status.progress, .bool x.status.failed]
def DaemonSet.rows (l : List DaemonSet) : List (List PV) := l.map DaemonSet.cells
structure Service where
  meta_ : Meta
  selector : List Requirement
  ports : List ServicePort
  sticky : Bool
  address : Int
def Service.cells (x : Service) : List PV :=
  [.str x.meta_.kind, .str x.meta_.namespace_, .str x.meta_.name, .int .i64 x.meta_.uid, .int .i64 x.meta_.version, .int .i64 x.meta_.generation, .int .i64 x.meta_.created, .bool x.meta_.deleting, .int .i64 x.meta_.deleteAt, .sl (Label.rows x.meta_.labels), .sl (Owner.rows x.meta_.owners), .sl (Qu x.meta_.finalizers), .sl (Manager.rows x.meta_.managers), .sl (Requirement.rows x.selector), .sl (ServicePort.rows x.ports), .bool x.sticky, .int .i64 x.address]
def Service.rows (l : List Service) : List (List PV) := l.map Service.cells
structure EndpointSet where
  meta_ : Meta
  ports : List ServicePort
  items : List Endpoint
def EndpointSet.cells (x : EndpointSet) : List PV :=
  [.str x.meta_.kind, .str x.meta_.namespace_, .str x.meta_.name, .int .i64 x.meta_.uid, .int .i64 x.meta_.version, .int .i64 x.meta_.generation, .int .i64 x.meta_.created, .bool x.meta_.deleting, .int .i64 x.meta_.deleteAt, .sl (Label.rows x.meta_.labels), .sl (Owner.rows x.meta_.owners), .sl (Qu x.meta_.finalizers), .sl (Manager.rows x.meta_.managers), .sl (ServicePort.rows x.ports), .sl (Endpoint.rows x.items)]
def EndpointSet.rows (l : List EndpointSet) : List (List PV) := l.map EndpointSet.cells
structure NetworkPolicy where
  meta_ : Meta
  selector : List Requirement
  ingress : Bool
  egress : Bool
  rules : List PolicyRule
def NetworkPolicy.cells (x : NetworkPolicy) : List PV :=
  [.str x.meta_.kind, .str x.meta_.namespace_, .str x.meta_.name, .int .i64 x.meta_.uid, .int .i64 x.meta_.version, .int .i64 x.meta_.generation, .int .i64 x.meta_.created, .bool x.meta_.deleting, .int .i64 x.meta_.deleteAt, .sl (Label.rows x.meta_.labels), .sl (Owner.rows x.meta_.owners), .sl (Qu x.meta_.finalizers), .sl (Manager.rows x.meta_.managers), .sl (Requirement.rows x.selector), .bool x.ingress, .bool x.egress, .sl (PolicyRule.rows x.rules)]
def NetworkPolicy.rows (l : List NetworkPolicy) : List (List PV) := l.map NetworkPolicy.cells
structure Quota where
  meta_ : Meta
  hard : Resources
  used : Resources
  pods : Int
  has : Int
def Quota.cells (x : Quota) : List PV :=
  [.str x.meta_.kind, .str x.meta_.namespace_, .str x.meta_.name, .int .i64 x.meta_.uid, .int .i64 x.meta_.version, .int .i64 x.meta_.generation, .int .i64 x.meta_.created, .bool x.meta_.deleting, .int .i64 x.meta_.deleteAt, .sl (Label.rows x.meta_.labels), .sl (Owner.rows x.meta_.owners), .sl (Qu x.meta_.finalizers), .sl (Manager.rows x.meta_.managers), .int .i64 x.hard.cPU, .int .i64 x.hard.memory, .int .i64 x.hard.disk, .int .i64 x.used.cPU, .int .i64 x.used.memory, .int .i64 x.used.disk, .int .i64 x.pods, .int .i64 x.has]
def Quota.rows (l : List Quota) : List (List PV) := l.map Quota.cells
structure CronJob where
  meta_ : Meta
  schedule : ByteArray
  policy : Int
  startWithin : Int
  keepDone : Int
  suspended : Bool
  job : Job
  last : Int
def CronJob.cells (x : CronJob) : List PV :=
  [.str x.meta_.kind, .str x.meta_.namespace_, .str x.meta_.name, .int .i64 x.meta_.uid, .int .i64 x.meta_.version, .int .i64 x.meta_.generation, .int .i64 x.meta_.created, .bool x.meta_.deleting, .int .i64 x.meta_.deleteAt, .sl (Label.rows x.meta_.labels), .sl (Owner.rows x.meta_.owners), .sl (Qu x.meta_.finalizers), .sl (Manager.rows x.meta_.managers), .str x.schedule, .int .i64 x.policy, .int .i64 x.startWithin, .int .i64 x.keepDone, .bool x.suspended, .str x.job.meta_.kind, .str x.job.meta_.namespace_, .str x.job.meta_.name, .int .i64 x.job.meta_.uid, .int .i64 x.job.meta_.version, .int .i64 x.job.meta_.generation, .int .i64 x.job.meta_.created, .bool x.job.meta_.deleting, .int .i64 x.job.meta_.deleteAt, .sl (Label.rows x.job.meta_.labels), .sl (Owner.rows x.job.meta_.owners), .sl (Qu x.job.meta_.finalizers), .sl (Manager.rows x.job.meta_.managers), .int .i64 x.job.completions, .int .i64 x.job.parallelism, .int .i64 x.job.retries, .int .i64 x.job.deadline, .bool x.job.indexed, .bool x.job.suspended, .sl (Label.rows x.job.template.labels), .str x.job.template.spec.node, .int .i64 x.job.template.spec.priority, .int .i64 x.job.template.spec.restart, .int .i64 x.job.template.spec.grace, .sl (Container.rows x.job.template.spec.containers), .sl (Requirement.rows x.job.template.spec.nodeSelector), .sl (NodeTerm.rows x.job.template.spec.nodeTerms), .sl (PodTerm.rows x.job.template.spec.podTerms), .sl (SpreadRule.rows x.job.template.spec.spread), .sl (Toleration.rows x.job.template.spec.tolerations), .int .i64 x.job.active, .int .i64 x.job.succeeded, .int .i64 x.job.failed, .int .i64 x.job.started, .int .i64 x.job.finished, .sl (Q2n x.job.done), .int .i64 x.job.result, .int .i64 x.last]
def CronJob.rows (l : List CronJob) : List (List PV) := l.map CronJob.cells
def Qq : ByteArray := ⟨#[67, 114, 111, 110, 74, 111, 98]⟩
def Q1x : ByteArray := ⟨#[74, 111, 98]⟩
def Q16 : ByteArray := ⟨#[97, 99, 116, 105, 118, 101]⟩
def Qdf : ByteArray := ⟨#[97, 100, 100, 114, 101, 115, 115]⟩
def Q2t : ByteArray := ⟨#[97, 110, 116, 105]⟩
def Q15y : ByteArray := ⟨#[97, 116]⟩
def Q9h : ByteArray := ⟨#[97, 118, 97, 105, 108, 97, 98, 108, 101]⟩
def Qn : ByteArray := ⟨#[99, 111, 109, 112, 108, 101, 116, 105, 111, 110, 115]⟩
def Q1g : ByteArray := ⟨#[99, 111, 110, 116, 97, 105, 110, 101, 114, 115]⟩
def Q4t : ByteArray := ⟨#[99, 112, 117]⟩
def Q1f : ByteArray := ⟨#[100, 101, 97, 100, 108, 105, 110, 101]⟩
def Q2d : ByteArray := ⟨#[100, 101, 108, 97, 121]⟩
def Q46 : ByteArray := ⟨#[100, 105, 115, 107]⟩
def Q31 : ByteArray := ⟨#[100, 111, 110, 101]⟩
def Q2a : ByteArray := ⟨#[101, 102, 102, 101, 99, 116]⟩
def Qm0 : ByteArray := ⟨#[101, 103, 114, 101, 115, 115]⟩
def Q25 : ByteArray := ⟨#[101, 120, 105, 115, 116, 115]⟩
def Q1c : ByteArray := ⟨#[102, 97, 105, 108, 101, 100]⟩
def Q22 : ByteArray := ⟨#[102, 97, 105, 108, 117, 114, 101]⟩
def Q1b : ByteArray := ⟨#[102, 105, 110, 105, 115, 104, 101, 100]⟩
def Q2r : ByteArray := ⟨#[103, 114, 97, 99, 101]⟩
def Qx : ByteArray := ⟨#[105, 109, 97, 103, 101]⟩
def Q1t : ByteArray := ⟨#[105, 110, 100, 101, 120, 101, 100]⟩
def Q2x : ByteArray := ⟨#[106, 111, 98]⟩
def Qs : ByteArray := ⟨#[107, 101, 101, 112, 68, 111, 110, 101]⟩
def Q15 : ByteArray := ⟨#[107, 101, 121]⟩
def Q21 : ByteArray := ⟨#[108, 97, 98, 101, 108, 115]⟩
def Q35 : ByteArray := ⟨#[108, 97, 115, 116]⟩
def Q1r : ByteArray := ⟨#[108, 105, 109, 105, 116]⟩
def Q2y : ByteArray := ⟨#[108, 105, 118, 101]⟩
def Q1p : ByteArray := ⟨#[109, 97, 120, 83, 107, 101, 119]⟩
def Q34 : ByteArray := ⟨#[109, 101, 109, 111, 114, 121]⟩
def kw_n : ByteArray := ⟨#[110]⟩
def Q11 : ByteArray := ⟨#[110, 97, 109, 101]⟩
def Q9i : ByteArray := ⟨#[110, 97, 109, 101, 115, 112, 97, 99, 101]⟩
def Q2p : ByteArray := ⟨#[110, 111, 100, 101]⟩
def Q18 : ByteArray := ⟨#[110, 111, 100, 101, 83, 101, 108, 101, 99, 116, 111, 114]⟩
def Q1y : ByteArray := ⟨#[110, 111, 100, 101, 84, 101, 114, 109, 115]⟩
def Qax : ByteArray := ⟨#[111, 98, 115, 101, 114, 118, 101, 100]⟩
def Q51 : ByteArray := ⟨#[111, 112]⟩
def Qr : ByteArray := ⟨#[112, 97, 114, 97, 108, 108, 101, 108, 105, 115, 109]⟩
def Qu5 : ByteArray := ⟨#[112, 101, 101, 114, 115]⟩
def Qdg : ByteArray := ⟨#[112, 101, 114, 99, 101, 110, 116]⟩
def Q26 : ByteArray := ⟨#[112, 101, 114, 105, 111, 100]⟩
def Q1b6 : ByteArray := ⟨#[112, 111, 100]⟩
def Q2h : ByteArray := ⟨#[112, 111, 100, 84, 101, 114, 109, 115]⟩
def Qy : ByteArray := ⟨#[112, 111, 108, 105, 99, 121]⟩
def Q10q : ByteArray := ⟨#[112, 111, 114, 116]⟩
def Qci : ByteArray := ⟨#[112, 111, 114, 116, 115]⟩
def Q1h : ByteArray := ⟨#[112, 114, 105, 111, 114, 105, 116, 121]⟩
def Qay : ByteArray := ⟨#[112, 114, 111, 103, 114, 101, 115, 115]⟩
def Q2b : ByteArray := ⟨#[114, 101, 97, 100, 121]⟩
def Q5w : ByteArray := ⟨#[114, 101, 112, 108, 105, 99, 97, 115]⟩
def Qh : ByteArray := ⟨#[114, 101, 113, 117, 101, 115, 116]⟩
def Q9 : ByteArray := ⟨#[114, 101, 113, 117, 105, 114, 101, 100]⟩
def Q1v : ByteArray := ⟨#[114, 101, 115, 116, 97, 114, 116]⟩
def Q2i : ByteArray := ⟨#[114, 101, 115, 117, 108, 116]⟩
def Q1m : ByteArray := ⟨#[114, 101, 116, 114, 105, 101, 115]⟩
def Qf : ByteArray := ⟨#[115, 99, 104, 101, 100, 117, 108, 101]⟩
def Q23 : ByteArray := ⟨#[115, 101, 99, 111, 110, 100, 115]⟩
def Q8 : ByteArray := ⟨#[115, 101, 108, 101, 99, 116, 111, 114]⟩
def Q32 : ByteArray := ⟨#[115, 112, 101, 99]⟩
def Q36 : ByteArray := ⟨#[115, 112, 114, 101, 97, 100]⟩
def Qb : ByteArray := ⟨#[115, 116, 97, 114, 116, 87, 105, 116, 104, 105, 110]⟩
def Q1d : ByteArray := ⟨#[115, 116, 97, 114, 116, 101, 100]⟩
def Q24 : ByteArray := ⟨#[115, 116, 97, 114, 116, 117, 112]⟩
def Qp : ByteArray := ⟨#[115, 117, 99, 99, 101, 101, 100, 101, 100]⟩
def Q1w : ByteArray := ⟨#[115, 117, 99, 99, 101, 115, 115]⟩
def Qa : ByteArray := ⟨#[115, 117, 115, 112, 101, 110, 100, 101, 100]⟩
def Q7x : ByteArray := ⟨#[116, 97, 114, 103, 101, 116]⟩
def Qz : ByteArray := ⟨#[116, 101, 109, 112, 108, 97, 116, 101]⟩
def Q7r : ByteArray := ⟨#[116, 101, 114, 109, 105, 110, 97, 116, 105, 110, 103]⟩
def Q29 : ByteArray := ⟨#[116, 111, 108, 101, 114, 97, 116, 105, 111, 110, 115]⟩
def Qi : ByteArray := ⟨#[116, 111, 112, 111, 108, 111, 103, 121]⟩
def Qdh : ByteArray := ⟨#[117, 112, 100, 97, 116, 101, 100]⟩
def Q13 : ByteArray := ⟨#[118, 97, 108, 117, 101]⟩
def Q2c : ByteArray := ⟨#[118, 97, 108, 117, 101, 115]⟩
def Q10 : ByteArray := ⟨#[119, 101, 105, 103, 104, 116]⟩
def Requirement.enc (x : Requirement) : Val := vM [.mk Q15 (vS x.key), .mk Q51 (vN x.op), .mk Q2c (vL (x.values.map vS))]
def Requirement.dec (v : Val) : Requirement × Bool := (Requirement.mk (dS v Q15).1 (dN v Q51).1 (dE xS v Q2c).1, isM v && (dS v Q15).2 && (dN v Q51).2 && (dE xS v Q2c).2)
def Requirement.sm (x : Requirement) : Prop := LSm (fun _ : ByteArray => True) x.values ∧ True
theorem Requirement.Q2m {x : Requirement} (h : Requirement.sm x) : Val.Sm sB (Requirement.enc x) := Qah (Nat.le_of_ble_eq_true rfl) (List.forall_mem_cons.2 ⟨Val.Sm.leaf 3 _ _, List.forall_mem_cons.2 ⟨Val.Sm.leaf 2 _ _, List.forall_mem_cons.2 ⟨Q3d (fun _ h => Val.Sm.leaf _ _ _) h.1, fun _ h => by cases h⟩⟩⟩)
theorem Requirement.Q1c0 (x : Requirement) : prt (Requirement.enc x) Q15 = vS x.key := by kernel_rfl
theorem Requirement.p_op (x : Requirement) : prt (Requirement.enc x) Q51 = vN x.op := by kernel_rfl
theorem Requirement.Q1fg (x : Requirement) : prt (Requirement.enc x) Q2c = vL (x.values.map vS) := by kernel_rfl
theorem Requirement.Q30 (x : Requirement) : Requirement.dec (Requirement.enc x) = (x, true) := by
  have h0 : dS (Requirement.enc x) Q15 = (x.key, true) := by unfold dS; rw [Requirement.Q1c0]; rfl
  have h1 : dN (Requirement.enc x) Q51 = (x.op, true) := by unfold dN; rw [Requirement.p_op]; rfl
  have h2 : dE xS (Requirement.enc x) Q2c = (x.values, true) := by unfold dE; rw [Requirement.Q1fg]; exact Q77 (fun _ => rfl) _
  unfold Requirement.dec
  rw [h0, h1, h2]
  rfl
def Label.enc (x : Label) : Val := vM [.mk Q15 (vS x.key), .mk Q13 (vS x.value)]
def Label.dec (v : Val) : Label × Bool := (Label.mk (dS v Q15).1 (dS v Q13).1, isM v && (dS v Q15).2 && (dS v Q13).2)
def Label.sm (_ : Label) : Prop := True
theorem Label.Q2m {x : Label} (_ : Label.sm x) : Val.Sm sB (Label.enc x) := Qah (Nat.le_of_ble_eq_true rfl) (List.forall_mem_cons.2 ⟨Val.Sm.leaf 3 _ _, List.forall_mem_cons.2 ⟨Val.Sm.leaf 3 _ _, fun _ h => by cases h⟩⟩)
theorem Label.Q1c0 (x : Label) : prt (Label.enc x) Q15 = vS x.key := by kernel_rfl
theorem Label.Q110 (x : Label) : prt (Label.enc x) Q13 = vS x.value := by kernel_rfl
theorem Label.Q30 (x : Label) : Label.dec (Label.enc x) = (x, true) := by
  have h0 : dS (Label.enc x) Q15 = (x.key, true) := by unfold dS; rw [Label.Q1c0]; rfl
  have h1 : dS (Label.enc x) Q13 = (x.value, true) := by unfold dS; rw [Label.Q110]; rfl
  unfold Label.dec
  rw [h0, h1]
  rfl
def Resources.enc (x : Resources) : Val := vM [.mk Q4t (vN x.cPU), .mk Q46 (vN x.disk), .mk Q34 (vN x.memory)]
def Resources.dec (v : Val) : Resources × Bool := (Resources.mk (dN v Q4t).1 (dN v Q34).1 (dN v Q46).1, isM v && (dN v Q4t).2 && (dN v Q46).2 && (dN v Q34).2)
def Resources.sm (_ : Resources) : Prop := True
theorem Resources.Q2m {x : Resources} (_ : Resources.sm x) : Val.Sm sB (Resources.enc x) := Qah (Nat.le_of_ble_eq_true rfl) (List.forall_mem_cons.2 ⟨Val.Sm.leaf 2 _ _, List.forall_mem_cons.2 ⟨Val.Sm.leaf 2 _ _, List.forall_mem_cons.2 ⟨Val.Sm.leaf 2 _ _, fun _ h => by cases h⟩⟩⟩)
theorem Resources.Q1zw (x : Resources) : prt (Resources.enc x) Q4t = vN x.cPU := by kernel_rfl
theorem Resources.Q1fb (x : Resources) : prt (Resources.enc x) Q34 = vN x.memory := by kernel_rfl
theorem Resources.Q1qs (x : Resources) : prt (Resources.enc x) Q46 = vN x.disk := by kernel_rfl
theorem Resources.Q30 (x : Resources) : Resources.dec (Resources.enc x) = (x, true) := by
  have h0 : dN (Resources.enc x) Q4t = (x.cPU, true) := by unfold dN; rw [Resources.Q1zw]; rfl
  have h1 : dN (Resources.enc x) Q34 = (x.memory, true) := by unfold dN; rw [Resources.Q1fb]; rfl
  have h2 : dN (Resources.enc x) Q46 = (x.disk, true) := by unfold dN; rw [Resources.Q1qs]; rfl
  unfold Resources.dec
  rw [h0, h1, h2]
  rfl
theorem Resources.Q9c {v : Val} (h : (v.kind == 5) = false) : Resources.dec v = ((Resources.dec vZ).1, v.kind == 0) := by
  unfold Resources.dec
  simp only [dN, Qme h, Qly h]
  generalize (v.kind == 0) = b
  cases b <;> rfl
theorem Resources.sub1 (x : Val) : (Resources.dec (s5 x)).1 = (Resources.dec x).1 := (Q12z (f := Resources.dec) (fun _ h => Resources.Q9c h) rfl x).1
theorem Resources.sub2 (v : Val) (k : BA) : (Resources.dec (prt v k)).2 = (isM (prt v k) && (Resources.dec (s5 (prt v k))).2) := (Q12z (f := Resources.dec) (fun _ h => Resources.Q9c h) rfl _).2
def Probe.enc (x : Probe) : Val := vM [.mk Q2d (vN x.delay), .mk Q22 (vN x.failure), .mk Q26 (vN x.period), .mk Q1w (vN x.success)]
def Probe.dec (v : Val) : Probe × Bool := (Probe.mk (dN v Q2d).1 (dN v Q26).1 (dN v Q1w).1 (dN v Q22).1, isM v && (dN v Q2d).2 && (dN v Q22).2 && (dN v Q26).2 && (dN v Q1w).2)
def Probe.sm (_ : Probe) : Prop := True
theorem Probe.Q2m {x : Probe} (_ : Probe.sm x) : Val.Sm sB (Probe.enc x) := Qah (Nat.le_of_ble_eq_true rfl) (List.forall_mem_cons.2 ⟨Val.Sm.leaf 2 _ _, List.forall_mem_cons.2 ⟨Val.Sm.leaf 2 _ _, List.forall_mem_cons.2 ⟨Val.Sm.leaf 2 _ _, List.forall_mem_cons.2 ⟨Val.Sm.leaf 2 _ _, fun _ h => by cases h⟩⟩⟩⟩)
theorem Probe.Q1j4 (x : Probe) : prt (Probe.enc x) Q2d = vN x.delay := by kernel_rfl
theorem Probe.Q1fc (x : Probe) : prt (Probe.enc x) Q26 = vN x.period := by kernel_rfl
theorem Probe.Q1c7 (x : Probe) : prt (Probe.enc x) Q1w = vN x.success := by kernel_rfl
theorem Probe.Q1bz (x : Probe) : prt (Probe.enc x) Q22 = vN x.failure := by kernel_rfl
theorem Probe.Q30 (x : Probe) : Probe.dec (Probe.enc x) = (x, true) := by
  have h0 : dN (Probe.enc x) Q2d = (x.delay, true) := by unfold dN; rw [Probe.Q1j4]; rfl
  have h1 : dN (Probe.enc x) Q26 = (x.period, true) := by unfold dN; rw [Probe.Q1fc]; rfl
  have h2 : dN (Probe.enc x) Q1w = (x.success, true) := by unfold dN; rw [Probe.Q1c7]; rfl
  have h3 : dN (Probe.enc x) Q22 = (x.failure, true) := by unfold dN; rw [Probe.Q1bz]; rfl
  unfold Probe.dec
  rw [h0, h1, h2, h3]
  rfl
def Container.enc (x : Container) : Val := vM [.mk Qx (vS x.image), .mk Q1r (Resources.enc x.limit), .mk Q2y (vL (x.live.map Probe.enc)), .mk Q11 (vS x.name), .mk Q2b (vL (x.ready.map Probe.enc)), .mk Qh (Resources.enc x.request), .mk Q24 (vL (x.startup.map Probe.enc))]
def Container.dec (v : Val) : Container × Bool := (Container.mk (dS v Q11).1 (dS v Qx).1 (dT Resources.dec v Qh).1 (dT Resources.dec v Q1r).1 (dE Probe.dec v Q2y).1 (dE Probe.dec v Q2b).1 (dE Probe.dec v Q24).1, isM v && (dS v Qx).2 && (dT Resources.dec v Q1r).2 && (dE Probe.dec v Q2y).2 && (dS v Q11).2 && (dE Probe.dec v Q2b).2 && (dT Resources.dec v Qh).2 && (dE Probe.dec v Q24).2)
def Container.sm (x : Container) : Prop := Resources.sm x.request ∧ Resources.sm x.limit ∧ LSm Probe.sm x.live ∧ LSm Probe.sm x.ready ∧ LSm Probe.sm x.startup ∧ True
theorem Container.Q2m {x : Container} (h : Container.sm x) : Val.Sm sB (Container.enc x) := Qah (Nat.le_of_ble_eq_true rfl) (List.forall_mem_cons.2 ⟨Val.Sm.leaf 3 _ _, List.forall_mem_cons.2 ⟨Resources.Q2m h.2.1, List.forall_mem_cons.2 ⟨Q3d (fun _ h => Probe.Q2m h) h.2.2.1, List.forall_mem_cons.2 ⟨Val.Sm.leaf 3 _ _, List.forall_mem_cons.2 ⟨Q3d (fun _ h => Probe.Q2m h) h.2.2.2.1, List.forall_mem_cons.2 ⟨Resources.Q2m h.1, List.forall_mem_cons.2 ⟨Q3d (fun _ h => Probe.Q2m h) h.2.2.2.2.1, fun _ h => by cases h⟩⟩⟩⟩⟩⟩⟩)
theorem Container.Q1qw (x : Container) : prt (Container.enc x) Q11 = vS x.name := by kernel_rfl
theorem Container.Q1j6 (x : Container) : prt (Container.enc x) Qx = vS x.image := by kernel_rfl
theorem Container.Q1c2 (x : Container) : prt (Container.enc x) Qh = Resources.enc x.request := by kernel_rfl
theorem Container.Q1j7 (x : Container) : prt (Container.enc x) Q1r = Resources.enc x.limit := by kernel_rfl
theorem Container.Q1qv (x : Container) : prt (Container.enc x) Q2y = vL (x.live.map Probe.enc) := by kernel_rfl
theorem Container.Q1j8 (x : Container) : prt (Container.enc x) Q2b = vL (x.ready.map Probe.enc) := by kernel_rfl
theorem Container.Q1c6 (x : Container) : prt (Container.enc x) Q24 = vL (x.startup.map Probe.enc) := by kernel_rfl
theorem Container.Q30 (x : Container) : Container.dec (Container.enc x) = (x, true) := by
  have h0 : dS (Container.enc x) Q11 = (x.name, true) := by unfold dS; rw [Container.Q1qw]; rfl
  have h1 : dS (Container.enc x) Qx = (x.image, true) := by unfold dS; rw [Container.Q1j6]; rfl
  have h2 : dT Resources.dec (Container.enc x) Qh = (x.request, true) := by unfold dT; rw [Container.Q1c2]; exact Resources.Q30 _
  have h3 : dT Resources.dec (Container.enc x) Q1r = (x.limit, true) := by unfold dT; rw [Container.Q1j7]; exact Resources.Q30 _
  have h4 : dE Probe.dec (Container.enc x) Q2y = (x.live, true) := by unfold dE; rw [Container.Q1qv]; exact Q77 Probe.Q30 _
  have h5 : dE Probe.dec (Container.enc x) Q2b = (x.ready, true) := by unfold dE; rw [Container.Q1j8]; exact Q77 Probe.Q30 _
  have h6 : dE Probe.dec (Container.enc x) Q24 = (x.startup, true) := by unfold dE; rw [Container.Q1c6]; exact Q77 Probe.Q30 _
  unfold Container.dec
  rw [h0, h1, h2, h3, h4, h5, h6]
  rfl
def NodeTerm.enc (x : NodeTerm) : Val := vM [.mk Q9 (vB x.required), .mk Q8 (vL (x.selector.map Requirement.enc)), .mk Q10 (vN x.weight)]
def NodeTerm.dec (v : Val) : NodeTerm × Bool := (NodeTerm.mk (dB v Q9).1 (dE Requirement.dec v Q8).1 (dN v Q10).1, isM v && (dB v Q9).2 && (dE Requirement.dec v Q8).2 && (dN v Q10).2)
def NodeTerm.sm (x : NodeTerm) : Prop := LSm Requirement.sm x.selector ∧ True
theorem NodeTerm.Q2m {x : NodeTerm} (h : NodeTerm.sm x) : Val.Sm sB (NodeTerm.enc x) := Qah (Nat.le_of_ble_eq_true rfl) (List.forall_mem_cons.2 ⟨Val.Sm.leaf 1 _ _, List.forall_mem_cons.2 ⟨Q3d (fun _ h => Requirement.Q2m h) h.1, List.forall_mem_cons.2 ⟨Val.Sm.leaf 2 _ _, fun _ h => by cases h⟩⟩⟩)
theorem NodeTerm.Q80 (x : NodeTerm) : prt (NodeTerm.enc x) Q9 = vB x.required := by kernel_rfl
theorem NodeTerm.Q81 (x : NodeTerm) : prt (NodeTerm.enc x) Q8 = vL (x.selector.map Requirement.enc) := by kernel_rfl
theorem NodeTerm.Quo (x : NodeTerm) : prt (NodeTerm.enc x) Q10 = vN x.weight := by kernel_rfl
theorem NodeTerm.Q30 (x : NodeTerm) : NodeTerm.dec (NodeTerm.enc x) = (x, true) := by
  have h0 : dB (NodeTerm.enc x) Q9 = (x.required, true) := by unfold dB; rw [NodeTerm.Q80]; exact xB_b _
  have h1 : dE Requirement.dec (NodeTerm.enc x) Q8 = (x.selector, true) := by unfold dE; rw [NodeTerm.Q81]; exact Q77 Requirement.Q30 _
  have h2 : dN (NodeTerm.enc x) Q10 = (x.weight, true) := by unfold dN; rw [NodeTerm.Quo]; rfl
  unfold NodeTerm.dec
  rw [h0, h1, h2]
  rfl
def PodTerm.enc (x : PodTerm) : Val := vM [.mk Q2t (vB x.anti), .mk Q9 (vB x.required), .mk Q8 (vL (x.selector.map Requirement.enc)), .mk Qi (vS x.topology), .mk Q10 (vN x.weight)]
def PodTerm.dec (v : Val) : PodTerm × Bool := (PodTerm.mk (dB v Q9).1 (dB v Q2t).1 (dE Requirement.dec v Q8).1 (dS v Qi).1 (dN v Q10).1, isM v && (dB v Q2t).2 && (dB v Q9).2 && (dE Requirement.dec v Q8).2 && (dS v Qi).2 && (dN v Q10).2)
def PodTerm.sm (x : PodTerm) : Prop := LSm Requirement.sm x.selector ∧ True
theorem PodTerm.Q2m {x : PodTerm} (h : PodTerm.sm x) : Val.Sm sB (PodTerm.enc x) := Qah (Nat.le_of_ble_eq_true rfl) (List.forall_mem_cons.2 ⟨Val.Sm.leaf 1 _ _, List.forall_mem_cons.2 ⟨Val.Sm.leaf 1 _ _, List.forall_mem_cons.2 ⟨Q3d (fun _ h => Requirement.Q2m h) h.1, List.forall_mem_cons.2 ⟨Val.Sm.leaf 3 _ _, List.forall_mem_cons.2 ⟨Val.Sm.leaf 2 _ _, fun _ h => by cases h⟩⟩⟩⟩⟩)
theorem PodTerm.Q80 (x : PodTerm) : prt (PodTerm.enc x) Q9 = vB x.required := by kernel_rfl
theorem PodTerm.Q1qr (x : PodTerm) : prt (PodTerm.enc x) Q2t = vB x.anti := by kernel_rfl
theorem PodTerm.Q81 (x : PodTerm) : prt (PodTerm.enc x) Q8 = vL (x.selector.map Requirement.enc) := by kernel_rfl
theorem PodTerm.Qdn (x : PodTerm) : prt (PodTerm.enc x) Qi = vS x.topology := by kernel_rfl
theorem PodTerm.Quo (x : PodTerm) : prt (PodTerm.enc x) Q10 = vN x.weight := by kernel_rfl
theorem PodTerm.Q30 (x : PodTerm) : PodTerm.dec (PodTerm.enc x) = (x, true) := by
  have h0 : dB (PodTerm.enc x) Q9 = (x.required, true) := by unfold dB; rw [PodTerm.Q80]; exact xB_b _
  have h1 : dB (PodTerm.enc x) Q2t = (x.anti, true) := by unfold dB; rw [PodTerm.Q1qr]; exact xB_b _
  have h2 : dE Requirement.dec (PodTerm.enc x) Q8 = (x.selector, true) := by unfold dE; rw [PodTerm.Q81]; exact Q77 Requirement.Q30 _
  have h3 : dS (PodTerm.enc x) Qi = (x.topology, true) := by unfold dS; rw [PodTerm.Qdn]; rfl
  have h4 : dN (PodTerm.enc x) Q10 = (x.weight, true) := by unfold dN; rw [PodTerm.Quo]; rfl
  unfold PodTerm.dec
  rw [h0, h1, h2, h3, h4]
  rfl
def SpreadRule.enc (x : SpreadRule) : Val := vM [.mk Q1p (vN x.maxSkew), .mk Q9 (vB x.required), .mk Q8 (vL (x.selector.map Requirement.enc)), .mk Qi (vS x.topology)]
def SpreadRule.dec (v : Val) : SpreadRule × Bool := (SpreadRule.mk (dN v Q1p).1 (dS v Qi).1 (dE Requirement.dec v Q8).1 (dB v Q9).1, isM v && (dN v Q1p).2 && (dB v Q9).2 && (dE Requirement.dec v Q8).2 && (dS v Qi).2)
def SpreadRule.sm (x : SpreadRule) : Prop := LSm Requirement.sm x.selector ∧ True
theorem SpreadRule.Q2m {x : SpreadRule} (h : SpreadRule.sm x) : Val.Sm sB (SpreadRule.enc x) := Qah (Nat.le_of_ble_eq_true rfl) (List.forall_mem_cons.2 ⟨Val.Sm.leaf 2 _ _, List.forall_mem_cons.2 ⟨Val.Sm.leaf 1 _ _, List.forall_mem_cons.2 ⟨Q3d (fun _ h => Requirement.Q2m h) h.1, List.forall_mem_cons.2 ⟨Val.Sm.leaf 3 _ _, fun _ h => by cases h⟩⟩⟩⟩)
theorem SpreadRule.Q1c1 (x : SpreadRule) : prt (SpreadRule.enc x) Q1p = vN x.maxSkew := by kernel_rfl
theorem SpreadRule.Qdn (x : SpreadRule) : prt (SpreadRule.enc x) Qi = vS x.topology := by kernel_rfl
theorem SpreadRule.Q81 (x : SpreadRule) : prt (SpreadRule.enc x) Q8 = vL (x.selector.map Requirement.enc) := by kernel_rfl
theorem SpreadRule.Q80 (x : SpreadRule) : prt (SpreadRule.enc x) Q9 = vB x.required := by kernel_rfl
theorem SpreadRule.Q30 (x : SpreadRule) : SpreadRule.dec (SpreadRule.enc x) = (x, true) := by
  have h0 : dN (SpreadRule.enc x) Q1p = (x.maxSkew, true) := by unfold dN; rw [SpreadRule.Q1c1]; rfl
  have h1 : dS (SpreadRule.enc x) Qi = (x.topology, true) := by unfold dS; rw [SpreadRule.Qdn]; rfl
  have h2 : dE Requirement.dec (SpreadRule.enc x) Q8 = (x.selector, true) := by unfold dE; rw [SpreadRule.Q81]; exact Q77 Requirement.Q30 _
  have h3 : dB (SpreadRule.enc x) Q9 = (x.required, true) := by unfold dB; rw [SpreadRule.Q80]; exact xB_b _
  unfold SpreadRule.dec
  rw [h0, h1, h2, h3]
  rfl
def Toleration.enc (x : Toleration) : Val := vM [.mk Q2a (vN x.effect), .mk Q25 (vB x.exists_), .mk Q15 (vS x.key), .mk Q23 (vN x.seconds), .mk Q13 (vS x.value)]
def Toleration.dec (v : Val) : Toleration × Bool := (Toleration.mk (dS v Q15).1 (dS v Q13).1 (dB v Q25).1 (dN v Q2a).1 (dN v Q23).1, isM v && (dN v Q2a).2 && (dB v Q25).2 && (dS v Q15).2 && (dN v Q23).2 && (dS v Q13).2)
def Toleration.sm (_ : Toleration) : Prop := True
theorem Toleration.Q2m {x : Toleration} (_ : Toleration.sm x) : Val.Sm sB (Toleration.enc x) := Qah (Nat.le_of_ble_eq_true rfl) (List.forall_mem_cons.2 ⟨Val.Sm.leaf 2 _ _, List.forall_mem_cons.2 ⟨Val.Sm.leaf 1 _ _, List.forall_mem_cons.2 ⟨Val.Sm.leaf 3 _ _, List.forall_mem_cons.2 ⟨Val.Sm.leaf 2 _ _, List.forall_mem_cons.2 ⟨Val.Sm.leaf 3 _ _, fun _ h => by cases h⟩⟩⟩⟩⟩)
theorem Toleration.Q1c0 (x : Toleration) : prt (Toleration.enc x) Q15 = vS x.key := by kernel_rfl
theorem Toleration.Q110 (x : Toleration) : prt (Toleration.enc x) Q13 = vS x.value := by kernel_rfl
theorem Toleration.Q1by (x : Toleration) : prt (Toleration.enc x) Q25 = vB x.exists_ := by kernel_rfl
theorem Toleration.Q1f8 (x : Toleration) : prt (Toleration.enc x) Q2a = vN x.effect := by kernel_rfl
theorem Toleration.Q1c4 (x : Toleration) : prt (Toleration.enc x) Q23 = vN x.seconds := by kernel_rfl
theorem Toleration.Q30 (x : Toleration) : Toleration.dec (Toleration.enc x) = (x, true) := by
  have h0 : dS (Toleration.enc x) Q15 = (x.key, true) := by unfold dS; rw [Toleration.Q1c0]; rfl
  have h1 : dS (Toleration.enc x) Q13 = (x.value, true) := by unfold dS; rw [Toleration.Q110]; rfl
  have h2 : dB (Toleration.enc x) Q25 = (x.exists_, true) := by unfold dB; rw [Toleration.Q1by]; exact xB_b _
  have h3 : dN (Toleration.enc x) Q2a = (x.effect, true) := by unfold dN; rw [Toleration.Q1f8]; rfl
  have h4 : dN (Toleration.enc x) Q23 = (x.seconds, true) := by unfold dN; rw [Toleration.Q1c4]; rfl
  unfold Toleration.dec
  rw [h0, h1, h2, h3, h4]
  rfl
def PodSpec.enc (x : PodSpec) : Val := vM [.mk Q1g (vL (x.containers.map Container.enc)), .mk Q2r (vN x.grace), .mk Q2p (vS x.node), .mk Q18 (vL (x.nodeSelector.map Requirement.enc)), .mk Q1y (vL (x.nodeTerms.map NodeTerm.enc)), .mk Q2h (vL (x.podTerms.map PodTerm.enc)), .mk Q1h (vN x.priority), .mk Q1v (vN x.restart), .mk Q36 (vL (x.spread.map SpreadRule.enc)), .mk Q29 (vL (x.tolerations.map Toleration.enc))]
def PodSpec.dec (v : Val) : PodSpec × Bool := (PodSpec.mk (dS v Q2p).1 (dN v Q1h).1 (dN v Q1v).1 (dN v Q2r).1 (dE Container.dec v Q1g).1 (dE Requirement.dec v Q18).1 (dE NodeTerm.dec v Q1y).1 (dE PodTerm.dec v Q2h).1 (dE SpreadRule.dec v Q36).1 (dE Toleration.dec v Q29).1, isM v && (dE Container.dec v Q1g).2 && (dN v Q2r).2 && (dS v Q2p).2 && (dE Requirement.dec v Q18).2 && (dE NodeTerm.dec v Q1y).2 && (dE PodTerm.dec v Q2h).2 && (dN v Q1h).2 && (dN v Q1v).2 && (dE SpreadRule.dec v Q36).2 && (dE Toleration.dec v Q29).2)
def PodSpec.sm (x : PodSpec) : Prop := LSm Container.sm x.containers ∧ LSm Requirement.sm x.nodeSelector ∧ LSm NodeTerm.sm x.nodeTerms ∧ LSm PodTerm.sm x.podTerms ∧ LSm SpreadRule.sm x.spread ∧ LSm Toleration.sm x.tolerations ∧ True
theorem PodSpec.Q2m {x : PodSpec} (h : PodSpec.sm x) : Val.Sm sB (PodSpec.enc x) := Qah (Nat.le_of_ble_eq_true rfl) (List.forall_mem_cons.2 ⟨Q3d (fun _ h => Container.Q2m h) h.1, List.forall_mem_cons.2 ⟨Val.Sm.leaf 2 _ _, List.forall_mem_cons.2 ⟨Val.Sm.leaf 3 _ _, List.forall_mem_cons.2 ⟨Q3d (fun _ h => Requirement.Q2m h) h.2.1, List.forall_mem_cons.2 ⟨Q3d (fun _ h => NodeTerm.Q2m h) h.2.2.1, List.forall_mem_cons.2 ⟨Q3d (fun _ h => PodTerm.Q2m h) h.2.2.2.1, List.forall_mem_cons.2 ⟨Val.Sm.leaf 2 _ _, List.forall_mem_cons.2 ⟨Val.Sm.leaf 2 _ _, List.forall_mem_cons.2 ⟨Q3d (fun _ h => SpreadRule.Q2m h) h.2.2.2.2.1, List.forall_mem_cons.2 ⟨Q3d (fun _ h => Toleration.Q2m h) h.2.2.2.2.2.1, fun _ h => by cases h⟩⟩⟩⟩⟩⟩⟩⟩⟩⟩)
theorem PodSpec.Q1qx (x : PodSpec) : prt (PodSpec.enc x) Q2p = vS x.node := by kernel_rfl
theorem PodSpec.Q17o (x : PodSpec) : prt (PodSpec.enc x) Q1h = vN x.priority := by kernel_rfl
theorem PodSpec.Q1c3 (x : PodSpec) : prt (PodSpec.enc x) Q1v = vN x.restart := by kernel_rfl
theorem PodSpec.Q1j5 (x : PodSpec) : prt (PodSpec.enc x) Q2r = vN x.grace := by kernel_rfl
theorem PodSpec.Qzk (x : PodSpec) : prt (PodSpec.enc x) Q1g = vL (x.containers.map Container.enc) := by kernel_rfl
theorem PodSpec.Qn1 (x : PodSpec) : prt (PodSpec.enc x) Q18 = vL (x.nodeSelector.map Requirement.enc) := by kernel_rfl
theorem PodSpec.Q10y (x : PodSpec) : prt (PodSpec.enc x) Q1y = vL (x.nodeTerms.map NodeTerm.enc) := by kernel_rfl
theorem PodSpec.Q17n (x : PodSpec) : prt (PodSpec.enc x) Q2h = vL (x.podTerms.map PodTerm.enc) := by kernel_rfl
theorem PodSpec.Q1ff (x : PodSpec) : prt (PodSpec.enc x) Q36 = vL (x.spread.map SpreadRule.enc) := by kernel_rfl
theorem PodSpec.Qun (x : PodSpec) : prt (PodSpec.enc x) Q29 = vL (x.tolerations.map Toleration.enc) := by kernel_rfl
theorem PodSpec.Q30 (x : PodSpec) : PodSpec.dec (PodSpec.enc x) = (x, true) := by
  have h0 : dS (PodSpec.enc x) Q2p = (x.node, true) := by unfold dS; rw [PodSpec.Q1qx]; rfl
  have h1 : dN (PodSpec.enc x) Q1h = (x.priority, true) := by unfold dN; rw [PodSpec.Q17o]; rfl
  have h2 : dN (PodSpec.enc x) Q1v = (x.restart, true) := by unfold dN; rw [PodSpec.Q1c3]; rfl
  have h3 : dN (PodSpec.enc x) Q2r = (x.grace, true) := by unfold dN; rw [PodSpec.Q1j5]; rfl
  have h4 : dE Container.dec (PodSpec.enc x) Q1g = (x.containers, true) := by unfold dE; rw [PodSpec.Qzk]; exact Q77 Container.Q30 _
  have h5 : dE Requirement.dec (PodSpec.enc x) Q18 = (x.nodeSelector, true) := by unfold dE; rw [PodSpec.Qn1]; exact Q77 Requirement.Q30 _
  have h6 : dE NodeTerm.dec (PodSpec.enc x) Q1y = (x.nodeTerms, true) := by unfold dE; rw [PodSpec.Q10y]; exact Q77 NodeTerm.Q30 _
  have h7 : dE PodTerm.dec (PodSpec.enc x) Q2h = (x.podTerms, true) := by unfold dE; rw [PodSpec.Q17n]; exact Q77 PodTerm.Q30 _
  have h8 : dE SpreadRule.dec (PodSpec.enc x) Q36 = (x.spread, true) := by unfold dE; rw [PodSpec.Q1ff]; exact Q77 SpreadRule.Q30 _
  have h9 : dE Toleration.dec (PodSpec.enc x) Q29 = (x.tolerations, true) := by unfold dE; rw [PodSpec.Qun]; exact Q77 Toleration.Q30 _
  unfold PodSpec.dec
  rw [h0, h1, h2, h3, h4, h5, h6, h7, h8, h9]
  rfl
theorem PodSpec.Q9c {v : Val} (h : (v.kind == 5) = false) : PodSpec.dec v = ((PodSpec.dec vZ).1, v.kind == 0) := by
  unfold PodSpec.dec
  simp only [dN, dS, dE, Qme h, Qly h]
  generalize (v.kind == 0) = b
  cases b <;> rfl
theorem PodSpec.sub1 (x : Val) : (PodSpec.dec (s5 x)).1 = (PodSpec.dec x).1 := (Q12z (f := PodSpec.dec) (fun _ h => PodSpec.Q9c h) rfl x).1
theorem PodSpec.sub2 (v : Val) (k : BA) : (PodSpec.dec (prt v k)).2 = (isM (prt v k) && (PodSpec.dec (s5 (prt v k))).2) := (Q12z (f := PodSpec.dec) (fun _ h => PodSpec.Q9c h) rfl _).2
def Template.enc (x : Template) : Val := vM [.mk Q21 (vL (x.labels.map Label.enc)), .mk Q32 (PodSpec.enc x.spec)]
def Template.dec (v : Val) : Template × Bool := (Template.mk (dE Label.dec v Q21).1 (dT PodSpec.dec v Q32).1, isM v && (dE Label.dec v Q21).2 && (dT PodSpec.dec v Q32).2)
def Template.sm (x : Template) : Prop := LSm Label.sm x.labels ∧ PodSpec.sm x.spec ∧ True
theorem Template.Q2m {x : Template} (h : Template.sm x) : Val.Sm sB (Template.enc x) := Qah (Nat.le_of_ble_eq_true rfl) (List.forall_mem_cons.2 ⟨Q3d (fun _ h => Label.Q2m h) h.1, List.forall_mem_cons.2 ⟨PodSpec.Q2m h.2.1, fun _ h => by cases h⟩⟩)
theorem Template.Q1fa (x : Template) : prt (Template.enc x) Q21 = vL (x.labels.map Label.enc) := by kernel_rfl
theorem Template.Q1qy (x : Template) : prt (Template.enc x) Q32 = PodSpec.enc x.spec := by kernel_rfl
theorem Template.Q30 (x : Template) : Template.dec (Template.enc x) = (x, true) := by
  have h0 : dE Label.dec (Template.enc x) Q21 = (x.labels, true) := by unfold dE; rw [Template.Q1fa]; exact Q77 Label.Q30 _
  have h1 : dT PodSpec.dec (Template.enc x) Q32 = (x.spec, true) := by unfold dT; rw [Template.Q1qy]; exact PodSpec.Q30 _
  unfold Template.dec
  rw [h0, h1]
  rfl
theorem Template.Q9c {v : Val} (h : (v.kind == 5) = false) : Template.dec v = ((Template.dec vZ).1, v.kind == 0) := by
  unfold Template.dec
  simp only [dE, dT, Qme h, Qly h]
  generalize (v.kind == 0) = b
  cases b <;> rfl
def Amount.dec (v : Val) : Amount × Bool := (Amount.mk (dB v Qdg).1 (dN v kw_n).1, isM v && (dN v kw_n).2 && (dB v Qdg).2)
def WorkStatus.dec (v : Val) : WorkStatus × Bool := (WorkStatus.mk (dN v Qax).1 (dN v Q5w).1 (dN v Qdh).1 (dN v Q2b).1 (dN v Q9h).1 (dN v Qay).1 (dB v Q1c).1, isM v && (dN v Q9h).2 && (dB v Q1c).2 && (dN v Qax).2 && (dN v Qay).2 && (dN v Q2b).2 && (dN v Q5w).2 && (dN v Qdh).2)
def Metric.dec (v : Val) : Metric × Bool := (Metric.mk (dS v Q11).1 (dN v Q7x).1, isM v && (dS v Q11).2 && (dN v Q7x).2)
def Advice.dec (v : Val) : Advice × Bool := (Advice.mk (dN v Q15y).1 (dN v Q5w).1, isM v && (dN v Q15y).2 && (dN v Q5w).2)
def WorkItem.dec (v : Val) : WorkItem × Bool := (WorkItem.mk (dS v Q15).1 (dN v Q15y).1, isM v && (dN v Q15y).2 && (dS v Q15).2)
def ServicePort.dec (v : Val) : ServicePort × Bool := (ServicePort.mk (dS v Q11).1 (dN v Q10q).1 (dN v Q7x).1, isM v && (dS v Q11).2 && (dN v Q10q).2 && (dN v Q7x).2)
def Endpoint.dec (v : Val) : Endpoint × Bool := (Endpoint.mk (dS v Q1b6).1 (dS v Q2p).1 (dN v Qdf).1 (dB v Q2b).1 (dB v Q7r).1, isM v && (dN v Qdf).2 && (dS v Q2p).2 && (dS v Q1b6).2 && (dB v Q2b).2 && (dB v Q7r).2)
def Peer.dec (v : Val) : Peer × Bool := (Peer.mk (dS v Q9i).1 (dE Requirement.dec v Q8).1, isM v && (dS v Q9i).2 && (dE Requirement.dec v Q8).2)
def PolicyRule.dec (v : Val) : PolicyRule × Bool := (PolicyRule.mk (dB v Qm0).1 (dE Peer.dec v Qu5).1 (dE xN v Qci).1, isM v && (dB v Qm0).2 && (dE Peer.dec v Qu5).2 && (dE xN v Qci).2)
def Q1df : Template := (Template.mk [] (PodSpec.mk eB 0 0 0 [] [] [] [] [] []))
def Q11h (v : Val) : Template × Int := bif !(Template.dec v).2 then (Q1df, 6) else ((Template.dec v).1, 0)
def tD (v : Val) (n : BA) : Template × Bool := ((Q11h (prt v n)).1, (Template.dec (prt v n)).2)
def tC (v : Val) (n : BA) : Nat := cM v + (bif (prt v n).kind == 0 then 0 else nb (Template.dec (prt v n)).2)
theorem tC0 (v : Val) (n : BA) : (tC v n == 0) = (isM v && (tD v n).2) := by
  have z : ∀ x : Val, (x.kind == 0) = true → (Template.dec x).2 = true := fun x h => by
    have h5 : (x.kind == 5) = false := by rw [eq_of_beq h]; rfl
    rw [Template.Q9c h5]
    exact h
  unfold tC tD
  rw [add0, cM0]
  cases h : ((prt v n).kind == 0) with
  | true => rw [z _ h]; rfl
  | false => rw [cond_false, nb0]
theorem Q1rc (v : Val) (n : BA) : tC v n ≤ 2 := by
  have a := Qtu 5 v
  have b := Q1f5 (Template.dec (prt v n)).2
  unfold tC cM
  cases ((prt v n).kind == 0) with
  | true => rw [cond_true]; omega
  | false => rw [cond_false]; omega
def Requirement.cnt (v : Val) : Nat := cM v + pK 3 v Q15 + pK 2 v Q51 + pE (cK 3) v Q2c
def Resources.cnt (v : Val) : Nat := pK 2 v Q4t + pK 2 v Q34 + pK 2 v Q46
def Amount.cnt (v : Val) : Nat := pK 1 v Qdg + pK 2 v kw_n
def WorkStatus.cnt (v : Val) : Nat := pK 2 v Qax + pK 2 v Q5w + pK 2 v Qdh + pK 2 v Q2b + pK 2 v Q9h + pK 2 v Qay + pK 1 v Q1c
def Metric.cnt (v : Val) : Nat := pK 3 v Q11 + pK 2 v Q7x
def Advice.cnt (v : Val) : Nat := pK 2 v Q15y + pK 2 v Q5w
def WorkItem.cnt (v : Val) : Nat := pK 3 v Q15 + pK 2 v Q15y
def ServicePort.cnt (v : Val) : Nat := pK 3 v Q11 + pK 2 v Q10q + pK 2 v Q7x
def Endpoint.cnt (v : Val) : Nat := pK 3 v Q1b6 + pK 3 v Q2p + pK 2 v Qdf + pK 1 v Q2b + pK 1 v Q7r
def Peer.cnt (v : Val) : Nat := pK 3 v Q9i + pE Requirement.cnt v Q8
def PolicyRule.cnt (v : Val) : Nat := pK 1 v Qm0 + pE Peer.cnt v Qu5 + pE (cK 2) v Qci
def JobS.enc (x : Job) : Val := vM [.mk Qn (vN x.completions), .mk Q1f (vN x.deadline), .mk Q1t (vB x.indexed), .mk Qr (vN x.parallelism), .mk Q1m (vN x.retries), .mk Qa (vB x.suspended), .mk Qz (Template.enc x.template)]
def JobS.dec (v : Val) : Job × Bool := (Job.mk ((Meta.mk eB eB eB 0 0 0 0 false 0 [] [] [] [])) (dN v Qn).1 (dN v Qr).1 (dN v Q1m).1 (dN v Q1f).1 (dB v Q1t).1 (dB v Qa).1 (tD v Qz).1 (0) (0) (0) (0) (0) ([]) (0), isM v && (dN v Qn).2 && (dN v Q1f).2 && (dB v Q1t).2 && (dN v Qr).2 && (dN v Q1m).2 && (dB v Qa).2 && (tD v Qz).2)
def JobS.strip (x : Job) : Job := Job.mk ((Meta.mk eB eB eB 0 0 0 0 false 0 [] [] [] [])) x.completions x.parallelism x.retries x.deadline x.indexed x.suspended x.template (0) (0) (0) (0) (0) ([]) (0)
theorem JobS.Q8n (x : Job) : prt (JobS.enc x) Qn = vN x.completions := by kernel_rfl
theorem JobS.Q8o (x : Job) : prt (JobS.enc x) Qr = vN x.parallelism := by kernel_rfl
theorem JobS.Qma (x : Job) : prt (JobS.enc x) Q1m = vN x.retries := by kernel_rfl
theorem JobS.Qdl (x : Job) : prt (JobS.enc x) Q1f = vN x.deadline := by kernel_rfl
theorem JobS.Qm9 (x : Job) : prt (JobS.enc x) Q1t = vB x.indexed := by kernel_rfl
theorem JobS.Q70 (x : Job) : prt (JobS.enc x) Qa = vB x.suspended := by kernel_rfl
theorem JobS.Qdm (x : Job) : prt (JobS.enc x) Qz = Template.enc x.template := by kernel_rfl
theorem JobS.Q30 (x : Job) : JobS.dec (JobS.enc x) = (JobS.strip x, true) := by
  have h0 : dN (JobS.enc x) Qn = (x.completions, true) := by unfold dN; rw [JobS.Q8n]; rfl
  have h1 : dN (JobS.enc x) Qr = (x.parallelism, true) := by unfold dN; rw [JobS.Q8o]; rfl
  have h2 : dN (JobS.enc x) Q1m = (x.retries, true) := by unfold dN; rw [JobS.Qma]; rfl
  have h3 : dN (JobS.enc x) Q1f = (x.deadline, true) := by unfold dN; rw [JobS.Qdl]; rfl
  have h4 : dB (JobS.enc x) Q1t = (x.indexed, true) := by unfold dB; rw [JobS.Qm9]; exact xB_b _
  have h5 : dB (JobS.enc x) Qa = (x.suspended, true) := by unfold dB; rw [JobS.Q70]; exact xB_b _
  have h6 : tD (JobS.enc x) Qz = (x.template, true) := by unfold tD; rw [JobS.Qdm]; unfold Q11h; rw [Template.Q30]; rfl
  unfold JobS.dec
  rw [h0, h1, h2, h3, h4, h5, h6]
  rfl
def JobS.cnt (v : Val) : Nat := pK 2 v Qn + pK 2 v Qr + pK 2 v Q1m + pK 2 v Q1f + pK 1 v Q1t + pK 1 v Qa + tC v Qz
theorem JobS.cnt0 (v : Val) : (JobS.cnt v == 0) = (JobS.dec v).2 := by
  unfold JobS.cnt JobS.dec
  simp only [add0, pN0, pB0, tC0, dN, dB, Bool.and_assoc, Bool.and_left_comm, Bool.and_comm, Bool.and_self_left]
theorem JobS.Qxv {v : Val} (_ : Val.Sm 1000 v) : JobS.cnt v ≤ 14 := by
  have g0 := Q6i 2 v Qn
  have g1 := Q6i 2 v Qr
  have g2 := Q6i 2 v Q1m
  have g3 := Q6i 2 v Q1f
  have g4 := Q6i 1 v Q1t
  have g5 := Q6i 1 v Qa
  have g6 := Q1rc v Qz
  unfold JobS.cnt
  omega
def JobS.fC (v : Val) (n : BA) : Nat := cM v + JobS.cnt (prt v n)
theorem JobS.fC0 (v : Val) (n : BA) : (JobS.fC v n == 0) = (isM v && (dT JobS.dec v n).2) := by unfold JobS.fC; rw [add0, cM0, JobS.cnt0]
theorem JobS.Q1zt {v : Val} (h : Val.Sm 1000 v) (n : BA) : JobS.fC v n ≤ 15 := by
  have a := Qtu 5 v
  have b := JobS.Qxv (Q3t h n)
  unfold JobS.fC cM
  omega
def JobS.sm (x : Job) : Prop := Template.sm x.template ∧ True
theorem JobS.Q2m {x : Job} (h : JobS.sm x) : Val.Sm sB (JobS.enc x) := Qah (Nat.le_of_ble_eq_true rfl) (List.forall_mem_cons.2 ⟨Val.Sm.leaf 2 _ _, List.forall_mem_cons.2 ⟨Val.Sm.leaf 2 _ _, List.forall_mem_cons.2 ⟨Val.Sm.leaf 1 _ _, List.forall_mem_cons.2 ⟨Val.Sm.leaf 2 _ _, List.forall_mem_cons.2 ⟨Val.Sm.leaf 2 _ _, List.forall_mem_cons.2 ⟨Val.Sm.leaf 1 _ _, List.forall_mem_cons.2 ⟨Template.Q2m h.1, fun _ h => by cases h⟩⟩⟩⟩⟩⟩⟩)
def Job.encS (x : Job) : Val := vM [.mk Qn (vN x.completions), .mk Q1f (vN x.deadline), .mk Q1t (vB x.indexed), .mk Qr (vN x.parallelism), .mk Q1m (vN x.retries), .mk Qa (vB x.suspended), .mk Qz (Template.enc x.template)]
def Job.encT (x : Job) : Val := vM [.mk Q16 (vN x.active), .mk Q31 (vL (x.done.map vN)), .mk Q1c (vN x.failed), .mk Q1b (vN x.finished), .mk Q2i (vN x.result), .mk Q1d (vN x.started), .mk Qp (vN x.succeeded)]
def Job.obj (x : Job) : Object := ⟨{ x.meta_ with kind := Q1x }, Job.encS x, Job.encT x⟩
def Job.of (o : Object) : Job := Job.mk o.meta_ (dN o.spec Qn).1 (dN o.spec Qr).1 (dN o.spec Q1m).1 (dN o.spec Q1f).1 (dB o.spec Q1t).1 (dB o.spec Qa).1 (tD o.spec Qz).1 (dN o.status Q16).1 (dN o.status Qp).1 (dN o.status Q1c).1 (dN o.status Q1d).1 (dN o.status Q1b).1 (dE xN o.status Q31).1 (dN o.status Q2i).1
def Job.ok (o : Object) : Bool := sEq o.meta_.kind Q1x && (isM o.spec && (isM o.status && ((dN o.spec Qn).2 && ((dN o.spec Q1f).2 && ((dB o.spec Q1t).2 && ((dN o.spec Qr).2 && ((dN o.spec Q1m).2 && ((dB o.spec Qa).2 && ((tD o.spec Qz).2 && ((dN o.status Q16).2 && ((dE xN o.status Q31).2 && ((dN o.status Q1c).2 && ((dN o.status Q1b).2 && ((dN o.status Q2i).2 && ((dN o.status Q1d).2 && (dN o.status Qp).2)))))))))))))))
def Job.cnt (o : Object) : Nat := nb (sEq o.meta_.kind Q1x) + cM o.spec + cM o.status + pK 2 o.spec Qn + pK 2 o.spec Qr + pK 2 o.spec Q1m + pK 2 o.spec Q1f + pK 1 o.spec Q1t + pK 1 o.spec Qa + tC o.spec Qz + pK 2 o.status Q16 + pK 2 o.status Qp + pK 2 o.status Q1c + pK 2 o.status Q1d + pK 2 o.status Q1b + pE (cK 2) o.status Q31 + pK 2 o.status Q2i
theorem Job.cnt0 (o : Object) : (Job.cnt o == 0) = Job.ok o := by
  unfold Job.cnt Job.ok
  simp only [add0, nb0, cM0, pN0, pB0, tC0, pE0 kN, dN, dB, dE, Bool.and_assoc, Bool.and_left_comm, Bool.and_comm, Bool.and_self_left]
theorem Job.Qxv {o : Object} (h : Val.Sm 1000 o.spec ∧ Val.Sm 1000 o.status) : Job.cnt o ≤ 1031 := by
  have g0 := Q1f5 (sEq o.meta_.kind Q1x)
  have g1 := Qtu 5 o.spec
  have g2 := Qtu 5 o.status
  have g3 := Q6i 2 o.spec Qn
  have g4 := Q6i 2 o.spec Qr
  have g5 := Q6i 2 o.spec Q1m
  have g6 := Q6i 2 o.spec Q1f
  have g7 := Q6i 1 o.spec Q1t
  have g8 := Q6i 1 o.spec Qa
  have g9 := Q1rc o.spec Qz
  have g10 := Q6i 2 o.status Q16
  have g11 := Q6i 2 o.status Qp
  have g12 := Q6i 2 o.status Q1c
  have g13 := Q6i 2 o.status Q1d
  have g14 := Q6i 2 o.status Q1b
  have g15 := Q1zv (c := (cK 2)) (K := 1) (fun x hx => Qtu _ _) h.2 Q31
  have g16 := Q6i 2 o.status Q2i
  unfold Job.cnt cM
  omega
theorem Job.Q8n (x : Job) : prt (Job.encS x) Qn = vN x.completions := by kernel_rfl
theorem Job.Q8o (x : Job) : prt (Job.encS x) Qr = vN x.parallelism := by kernel_rfl
theorem Job.Qma (x : Job) : prt (Job.encS x) Q1m = vN x.retries := by kernel_rfl
theorem Job.Qdl (x : Job) : prt (Job.encS x) Q1f = vN x.deadline := by kernel_rfl
theorem Job.Qm9 (x : Job) : prt (Job.encS x) Q1t = vB x.indexed := by kernel_rfl
theorem Job.Q70 (x : Job) : prt (Job.encS x) Qa = vB x.suspended := by kernel_rfl
theorem Job.Qdm (x : Job) : prt (Job.encS x) Qz = Template.enc x.template := by kernel_rfl
theorem Job.Q1f7 (x : Job) : prt (Job.encT x) Q16 = vN x.active := by kernel_rfl
theorem Job.Q10z (x : Job) : prt (Job.encT x) Qp = vN x.succeeded := by kernel_rfl
theorem Job.Q1f9 (x : Job) : prt (Job.encT x) Q1c = vN x.failed := by kernel_rfl
theorem Job.Q1c5 (x : Job) : prt (Job.encT x) Q1d = vN x.started := by kernel_rfl
theorem Job.Q17l (x : Job) : prt (Job.encT x) Q1b = vN x.finished := by kernel_rfl
theorem Job.Q1qt (x : Job) : prt (Job.encT x) Q31 = vL (x.done.map vN) := by kernel_rfl
theorem Job.Q1fe (x : Job) : prt (Job.encT x) Q2i = vN x.result := by kernel_rfl
theorem Job.back (x : Job) : Job.of (Job.obj x) = Job.mk { x.meta_ with kind := Q1x } x.completions x.parallelism x.retries x.deadline x.indexed x.suspended x.template x.active x.succeeded x.failed x.started x.finished x.done x.result ∧ Job.ok (Job.obj x) = true := by
  have h0 : dN (Job.encS x) Qn = (x.completions, true) := by unfold dN; rw [Job.Q8n]; rfl
  have h1 : dN (Job.encS x) Qr = (x.parallelism, true) := by unfold dN; rw [Job.Q8o]; rfl
  have h2 : dN (Job.encS x) Q1m = (x.retries, true) := by unfold dN; rw [Job.Qma]; rfl
  have h3 : dN (Job.encS x) Q1f = (x.deadline, true) := by unfold dN; rw [Job.Qdl]; rfl
  have h4 : dB (Job.encS x) Q1t = (x.indexed, true) := by unfold dB; rw [Job.Qm9]; exact xB_b _
  have h5 : dB (Job.encS x) Qa = (x.suspended, true) := by unfold dB; rw [Job.Q70]; exact xB_b _
  have h6 : tD (Job.encS x) Qz = (x.template, true) := by unfold tD; rw [Job.Qdm]; unfold Q11h; rw [Template.Q30]; rfl
  have h7 : dN (Job.encT x) Q16 = (x.active, true) := by unfold dN; rw [Job.Q1f7]; rfl
  have h8 : dN (Job.encT x) Qp = (x.succeeded, true) := by unfold dN; rw [Job.Q10z]; rfl
  have h9 : dN (Job.encT x) Q1c = (x.failed, true) := by unfold dN; rw [Job.Q1f9]; rfl
  have h10 : dN (Job.encT x) Q1d = (x.started, true) := by unfold dN; rw [Job.Q1c5]; rfl
  have h11 : dN (Job.encT x) Q1b = (x.finished, true) := by unfold dN; rw [Job.Q17l]; rfl
  have h12 : dE xN (Job.encT x) Q31 = (x.done, true) := by unfold dE; rw [Job.Q1qt]; exact Q77 (fun _ => rfl) _
  have h13 : dN (Job.encT x) Q2i = (x.result, true) := by unfold dN; rw [Job.Q1fe]; rfl
  refine ⟨?_, ?_⟩
  · show Job.mk _ (dN (Job.encS x) Qn).1 (dN (Job.encS x) Qr).1 (dN (Job.encS x) Q1m).1 (dN (Job.encS x) Q1f).1 (dB (Job.encS x) Q1t).1 (dB (Job.encS x) Qa).1 (tD (Job.encS x) Qz).1 (dN (Job.encT x) Q16).1 (dN (Job.encT x) Qp).1 (dN (Job.encT x) Q1c).1 (dN (Job.encT x) Q1d).1 (dN (Job.encT x) Q1b).1 (dE xN (Job.encT x) Q31).1 (dN (Job.encT x) Q2i).1 = _
    rw [h0, h1, h2, h3, h4, h5, h6, h7, h8, h9, h10, h11, h12, h13]
    all_goals rfl
  · unfold Job.ok
    show (sEq Q1x Q1x && (true && (true && ((dN (Job.encS x) Qn).2 && ((dN (Job.encS x) Q1f).2 && ((dB (Job.encS x) Q1t).2 && ((dN (Job.encS x) Qr).2 && ((dN (Job.encS x) Q1m).2 && ((dB (Job.encS x) Qa).2 && ((tD (Job.encS x) Qz).2 && ((dN (Job.encT x) Q16).2 && ((dE xN (Job.encT x) Q31).2 && ((dN (Job.encT x) Q1c).2 && ((dN (Job.encT x) Q1b).2 && ((dN (Job.encT x) Q2i).2 && ((dN (Job.encT x) Q1d).2 && (dN (Job.encT x) Qp).2)))))))))))))))) = true
    rw [h0, h1, h2, h3, h4, h5, h6, h7, h8, h9, h10, h11, h12, h13, Q4o.2 rfl]
    all_goals rfl
def Job.sm (x : Job) : Prop := Template.sm x.template ∧ LSm (fun _ : Int => True) x.done ∧ True
theorem Job.Q1bt {x : Job} (h : Job.sm x) : Val.Sm sB (Job.encS x) ∧ Val.Sm sB (Job.encT x) := ⟨Qah (Nat.le_of_ble_eq_true rfl) (List.forall_mem_cons.2 ⟨Val.Sm.leaf 2 _ _, List.forall_mem_cons.2 ⟨Val.Sm.leaf 2 _ _, List.forall_mem_cons.2 ⟨Val.Sm.leaf 1 _ _, List.forall_mem_cons.2 ⟨Val.Sm.leaf 2 _ _, List.forall_mem_cons.2 ⟨Val.Sm.leaf 2 _ _, List.forall_mem_cons.2 ⟨Val.Sm.leaf 1 _ _, List.forall_mem_cons.2 ⟨Template.Q2m h.1, fun _ h => by cases h⟩⟩⟩⟩⟩⟩⟩), Qah (Nat.le_of_ble_eq_true rfl) (List.forall_mem_cons.2 ⟨Val.Sm.leaf 2 _ _, List.forall_mem_cons.2 ⟨Q3d (fun _ h => Val.Sm.leaf _ _ _) h.2.1, List.forall_mem_cons.2 ⟨Val.Sm.leaf 2 _ _, List.forall_mem_cons.2 ⟨Val.Sm.leaf 2 _ _, List.forall_mem_cons.2 ⟨Val.Sm.leaf 2 _ _, List.forall_mem_cons.2 ⟨Val.Sm.leaf 2 _ _, List.forall_mem_cons.2 ⟨Val.Sm.leaf 2 _ _, fun _ h => by cases h⟩⟩⟩⟩⟩⟩⟩)⟩
def Job.R (o : Object) : Job × Int := bif Job.ok o then (Job.of o, 0) else ((Job.mk (Meta.mk eB eB eB 0 0 0 0 false 0 [] [] [] []) 0 0 0 0 false false (Template.mk [] (PodSpec.mk eB 0 0 0 [] [] [] [] [] [])) 0 0 0 0 0 [] 0), 6)
def Job.at (x : Job) : Job := Job.mk { x.meta_ with kind := Q1x } x.completions x.parallelism x.retries x.deadline x.indexed x.suspended x.template x.active x.succeeded x.failed x.started x.finished x.done x.result
abbrev Job.z : Job := (Job.mk (Meta.mk eB eB eB 0 0 0 0 false 0 [] [] [] []) 0 0 0 0 false false (Template.mk [] (PodSpec.mk eB 0 0 0 [] [] [] [] [] [])) 0 0 0 0 0 [] 0)
theorem Job.R_at (x : Job) : Job.R (Job.obj x) = (Job.at x, 0) := by
  unfold Job.R
  rw [(Job.back x).2, (Job.back x).1]
  rfl
theorem Job.rc {o : Object} (h : Val.Sm 1000 o.spec ∧ Val.Sm 1000 o.status) : resC (Job.cnt o) (Job.of o) Job.z = Job.R o := by
  rw [Q1cj (Nat.le_trans (Job.Qxv h) (Nat.le_of_ble_eq_true rfl)), Job.cnt0]
  rfl
def CronJob.encS (x : CronJob) : Val := vM [.mk Q2x (JobS.enc x.job), .mk Qs (vN x.keepDone), .mk Qy (vN x.policy), .mk Qf (vS x.schedule), .mk Qb (vN x.startWithin), .mk Qa (vB x.suspended)]
def CronJob.encT (x : CronJob) : Val := vM [.mk Q35 (vN x.last)]
def CronJob.obj (x : CronJob) : Object := ⟨{ x.meta_ with kind := Qq }, CronJob.encS x, CronJob.encT x⟩
def CronJob.of (o : Object) : CronJob := CronJob.mk o.meta_ (dS o.spec Qf).1 (dN o.spec Qy).1 (dN o.spec Qb).1 (dN o.spec Qs).1 (dB o.spec Qa).1 (dT JobS.dec o.spec Q2x).1 (dN o.status Q35).1
def CronJob.ok (o : Object) : Bool := sEq o.meta_.kind Qq && (isM o.spec && (isM o.status && ((dT JobS.dec o.spec Q2x).2 && ((dN o.spec Qs).2 && ((dN o.spec Qy).2 && ((dS o.spec Qf).2 && ((dN o.spec Qb).2 && ((dB o.spec Qa).2 && (dN o.status Q35).2))))))))
def CronJob.cnt (o : Object) : Nat := nb (sEq o.meta_.kind Qq) + cM o.spec + cM o.status + pK 3 o.spec Qf + pK 2 o.spec Qy + pK 2 o.spec Qb + pK 2 o.spec Qs + pK 1 o.spec Qa + JobS.fC o.spec Q2x + pK 2 o.status Q35
theorem CronJob.cnt0 (o : Object) : (CronJob.cnt o == 0) = CronJob.ok o := by
  unfold CronJob.cnt CronJob.ok
  simp only [add0, nb0, cM0, pS0, pN0, pB0, JobS.fC0, dN, dS, dB, dT, Bool.and_assoc, Bool.and_left_comm, Bool.and_comm, Bool.and_self_left]
theorem CronJob.Qxv {o : Object} (h : Val.Sm 1000 o.spec ∧ Val.Sm 1000 o.status) : CronJob.cnt o ≤ 30 := by
  have g0 := Q1f5 (sEq o.meta_.kind Qq)
  have g1 := Qtu 5 o.spec
  have g2 := Qtu 5 o.status
  have g3 := Q6i 3 o.spec Qf
  have g4 := Q6i 2 o.spec Qy
  have g5 := Q6i 2 o.spec Qb
  have g6 := Q6i 2 o.spec Qs
  have g7 := Q6i 1 o.spec Qa
  have g8 := JobS.Q1zt h.1 Q2x
  have g9 := Q6i 2 o.status Q35
  unfold CronJob.cnt cM
  omega
theorem CronJob.Q17p (x : CronJob) : prt (CronJob.encS x) Qf = vS x.schedule := by kernel_rfl
theorem CronJob.Q1fd (x : CronJob) : prt (CronJob.encS x) Qy = vN x.policy := by kernel_rfl
theorem CronJob.Qum (x : CronJob) : prt (CronJob.encS x) Qb = vN x.startWithin := by kernel_rfl
theorem CronJob.Q17m (x : CronJob) : prt (CronJob.encS x) Qs = vN x.keepDone := by kernel_rfl
theorem CronJob.Q70 (x : CronJob) : prt (CronJob.encS x) Qa = vB x.suspended := by kernel_rfl
theorem CronJob.Q1zx (x : CronJob) : prt (CronJob.encS x) Q2x = JobS.enc x.job := by kernel_rfl
theorem CronJob.Q1qu (x : CronJob) : prt (CronJob.encT x) Q35 = vN x.last := by kernel_rfl
theorem CronJob.back (x : CronJob) : CronJob.of (CronJob.obj x) = CronJob.mk { x.meta_ with kind := Qq } x.schedule x.policy x.startWithin x.keepDone x.suspended (JobS.strip x.job) x.last ∧ CronJob.ok (CronJob.obj x) = true := by
  have h0 : dS (CronJob.encS x) Qf = (x.schedule, true) := by unfold dS; rw [CronJob.Q17p]; rfl
  have h1 : dN (CronJob.encS x) Qy = (x.policy, true) := by unfold dN; rw [CronJob.Q1fd]; rfl
  have h2 : dN (CronJob.encS x) Qb = (x.startWithin, true) := by unfold dN; rw [CronJob.Qum]; rfl
  have h3 : dN (CronJob.encS x) Qs = (x.keepDone, true) := by unfold dN; rw [CronJob.Q17m]; rfl
  have h4 : dB (CronJob.encS x) Qa = (x.suspended, true) := by unfold dB; rw [CronJob.Q70]; exact xB_b _
  have h5 : dT JobS.dec (CronJob.encS x) Q2x = ((JobS.strip x.job), true) := by unfold dT; rw [CronJob.Q1zx]; exact JobS.Q30 _
  have h6 : dN (CronJob.encT x) Q35 = (x.last, true) := by unfold dN; rw [CronJob.Q1qu]; rfl
  refine ⟨?_, ?_⟩
  · show CronJob.mk _ (dS (CronJob.encS x) Qf).1 (dN (CronJob.encS x) Qy).1 (dN (CronJob.encS x) Qb).1 (dN (CronJob.encS x) Qs).1 (dB (CronJob.encS x) Qa).1 (dT JobS.dec (CronJob.encS x) Q2x).1 (dN (CronJob.encT x) Q35).1 = _
    rw [h0, h1, h2, h3, h4, h5, h6]
    all_goals rfl
  · unfold CronJob.ok
    show (sEq Qq Qq && (true && (true && ((dT JobS.dec (CronJob.encS x) Q2x).2 && ((dN (CronJob.encS x) Qs).2 && ((dN (CronJob.encS x) Qy).2 && ((dS (CronJob.encS x) Qf).2 && ((dN (CronJob.encS x) Qb).2 && ((dB (CronJob.encS x) Qa).2 && (dN (CronJob.encT x) Q35).2))))))))) = true
    rw [h0, h1, h2, h3, h4, h5, h6, Q4o.2 rfl]
    all_goals rfl
def CronJob.sm (x : CronJob) : Prop := JobS.sm x.job ∧ True
theorem CronJob.Q1bt {x : CronJob} (h : CronJob.sm x) : Val.Sm sB (CronJob.encS x) ∧ Val.Sm sB (CronJob.encT x) := ⟨Qah (Nat.le_of_ble_eq_true rfl) (List.forall_mem_cons.2 ⟨JobS.Q2m h.1, List.forall_mem_cons.2 ⟨Val.Sm.leaf 2 _ _, List.forall_mem_cons.2 ⟨Val.Sm.leaf 2 _ _, List.forall_mem_cons.2 ⟨Val.Sm.leaf 3 _ _, List.forall_mem_cons.2 ⟨Val.Sm.leaf 2 _ _, List.forall_mem_cons.2 ⟨Val.Sm.leaf 1 _ _, fun _ h => by cases h⟩⟩⟩⟩⟩⟩), Qah (Nat.le_of_ble_eq_true rfl) (List.forall_mem_cons.2 ⟨Val.Sm.leaf 2 _ _, fun _ h => by cases h⟩)⟩
def CronJob.R (o : Object) : CronJob × Int := bif CronJob.ok o then (CronJob.of o, 0) else ((CronJob.mk (Meta.mk eB eB eB 0 0 0 0 false 0 [] [] [] []) eB 0 0 0 false (Job.mk (Meta.mk eB eB eB 0 0 0 0 false 0 [] [] [] []) 0 0 0 0 false false (Template.mk [] (PodSpec.mk eB 0 0 0 [] [] [] [] [] [])) 0 0 0 0 0 [] 0) 0), 6)
def CronJob.at (x : CronJob) : CronJob := CronJob.mk { x.meta_ with kind := Qq } x.schedule x.policy x.startWithin x.keepDone x.suspended (JobS.strip x.job) x.last
abbrev CronJob.z : CronJob := (CronJob.mk (Meta.mk eB eB eB 0 0 0 0 false 0 [] [] [] []) eB 0 0 0 false (Job.mk (Meta.mk eB eB eB 0 0 0 0 false 0 [] [] [] []) 0 0 0 0 false false (Template.mk [] (PodSpec.mk eB 0 0 0 [] [] [] [] [] [])) 0 0 0 0 0 [] 0) 0)
theorem CronJob.R_at (x : CronJob) : CronJob.R (CronJob.obj x) = (CronJob.at x, 0) := by
  unfold CronJob.R
  rw [(CronJob.back x).2, (CronJob.back x).1]
  rfl
theorem CronJob.rc {o : Object} (h : Val.Sm 1000 o.spec ∧ Val.Sm 1000 o.status) : resC (CronJob.cnt o) (CronJob.of o) CronJob.z = CronJob.R o := by
  rw [Q1cj (Nat.le_trans (CronJob.Qxv h) (Nat.le_of_ble_eq_true rfl)), CronJob.cnt0]
  rfl
def Object.sm (x : Object) : Prop := Val.Sm sB x.spec ∧ Val.Sm sB x.status
theorem Q1ci {α : Type} {n m : Nat} {x y z : α} (h : n = m) (g : x = y) : resC n x z = resC m y z := by rw [h, g]
theorem Qv1 {p q : List Fld} (hp : p.length ≤ 20) (h : mapOf p = q) : Q57 p = vM q := by rw [vmap hp, h]
theorem getL (x : Val) : (bif x.kind == 4 then x else vZ).list = (xL x).1 := by
  unfold xL
  cases (x.kind == 4) <;> rfl
theorem getN (x : Val) : (bif x.kind == 2 then x else vZ).n = (xN x).1 := by
  unfold xN
  cases (x.kind == 2) <;> rfl
theorem getS (x : Val) : (bif x.kind == 3 then x else vZ).s = (xS x).1 := by
  unfold xS
  cases (x.kind == 3) <;> rfl
theorem getB (x : Val) : (!((bif x.kind == 1 then x else vZ).n == 0)) = (xB x).1 := by
  unfold xB
  cases (x.kind == 1) <;> rfl
end Go.Proofs.YtimjjohlpnkacaaGreat
end

section
/- Metadata that are copied (printed by a program). -/
namespace Go.Proofs.YtimjjohlpnkacaaGreat
open Go.Pv
def Q13y (p0 : Meta) : List Manager → Nat → Unit
 | [], _i0 =>
  ()
 | _x0 :: r0, i0 =>
  Q13y p0 r0 (i0 + 1)
def Qw7 (p0 : Meta) (i0 : Nat) : List PV :=
  [.un, .bx 0 0, .bx 1 0] ++ nuns 19 ++ [.ms 2 2 0 (List.length p0.managers), .int .i64 ((List.length p0.managers) : Int), .int .i64 (i0 : Int)] ++ nuns 14
def Qi8 (p0 : Meta) (_i0 : Nat) : List Ob :=
  [⟨13, 0, true, [.str p0.kind, .str p0.namespace_, .str p0.name, .int .i64 p0.uid, .int .i64 p0.version, .int .i64 p0.generation, .int .i64 p0.created, .bool p0.deleting, .int .i64 p0.deleteAt, .sl (Label.rows p0.labels), .sl (Owner.rows p0.owners), .sl (Qu p0.finalizers), .ms 2 2 0 (List.length p0.managers)]⟩, ⟨13, 0, true, [.str eB, .str eB, .str eB, .int .i64 0, .int .i64 0, .int .i64 0, .int .i64 0, .bool false, .int .i64 0, .ms 3 2 0 0, .ms 4 5 0 0, .ms 5 1 0 0, .ms 6 2 0 0]⟩, ⟨2, 0, true, (Manager.rows p0.managers).flatten⟩, ⟨2, 0, true, []⟩, ⟨5, 0, true, []⟩, ⟨1, 0, true, []⟩, ⟨2, 0, true, []⟩]
def Qfa (p0 : Meta) (i0 : Nat) : En := .loop 0 Ir.Qjq Ir.Q1h6 (Qw7 p0 i0) (Qi8 p0 i0)
def Qoq (p0 : Meta) (z : Nat → PV) (_zo : Nat → List PV) : St :=
  ⟨[z 0, .bx 0 0, .bx 1 0] ++ zr z 3 36, [(0, ⟨13, 0, true, [.str p0.kind, .str p0.namespace_, .str p0.name, .int .i64 p0.uid, .int .i64 p0.version, .int .i64 p0.generation, .int .i64 p0.created, .bool p0.deleting, .int .i64 p0.deleteAt, .sl (Label.rows p0.labels), .sl (Owner.rows p0.owners), .sl (Qu p0.finalizers), .ms 2 2 0 (List.length p0.managers)]⟩), (1, ⟨13, 0, true, [.str eB, .str eB, .str eB, .int .i64 0, .int .i64 0, .int .i64 0, .int .i64 0, .bool false, .int .i64 0, .ms 3 2 0 0, .ms 4 5 0 0, .ms 5 1 0 0, .ms 6 2 0 0]⟩), (2, ⟨2, 0, true, (Manager.rows p0.managers).flatten⟩), (3, ⟨2, 0, true, []⟩), (4, ⟨5, 0, true, []⟩), (5, ⟨1, 0, true, []⟩), (6, ⟨2, 0, true, []⟩)], 71⟩
theorem Q12r (p0 : Meta) (i0 : Nat) : VOK (Go.Pv.look (number 0 (Qi8 p0 i0))) [(2, Manager.rows p0.managers)] := (VOK.cons (show Seen _ _ from Q3i (ob := ⟨2, 0, true, (Manager.rows p0.managers).flatten⟩) (Manager.Q7 p0.managers 2 rfl)) VOK.nil)
def Qa3 (p0 : Meta) (e : En) (_q : Unit) : Prop := ∃ z zo, Q5 G e (.st (.exit 0) (Qoq p0 z zo))
theorem Qtb (p0 : Meta) {e e' : En} (h : ∀ r, Q5 G e r → Q5 G e' r) : ∀ q, Qa3 p0 e q → Qa3 p0 e' q
  | _, ⟨z, zo, hz⟩ => ⟨z, zo, h _ hz⟩
def Qg5 (p0 : Meta) : Prop := (List.length p0.managers ≤ 4611686018427387904) ∧ (∀ x0 ∈ p0.managers, List.length x0.fields * 16 ≤ 140737488355328) ∧ True
def Qqf (p0 : Meta) (i0 : Nat) : List PV :=
  nuns 22 ++ [.ms 2 2 0 (List.length p0.managers), .int .i64 ((List.length p0.managers) : Int), .int .i64 (i0 : Int), .bool false]
def Qlf (_p0 : Meta) (_i0 : Nat) : List (Nat × List PV) :=
  []
theorem Q19o (p0 : Meta) (_H : Qg5 p0) (i0 : Nat) (hc0 : (decide ((i0 : Int) < ((List.length p0.managers) : Int))) = false) : Qa3 p0 (Qfa p0 i0) () := by
 exact ⟨(envF (Qqf p0 i0)), (zoF (Qlf p0 i0)), Qj (Q12r p0 i0) (x := ((.exit 0), Qoq p0 (envF (Qqf p0 i0)) (zoF (Qlf p0 i0)))) [hB 0 hc0] [] (by kernel_rfl)⟩
theorem Q17h (p0 : Meta) (H : Qg5 p0) (x0 : Manager) (i0 : Nat) (hx0 : p0.managers[i0]? = some x0) (hi0 : i0 < List.length p0.managers) (hc0 : (decide ((i0 : Int) < ((List.length p0.managers) : Int))) = true) {r : Rs} (hr : Q5 G (Qfa p0 (i0 + 1)) r) : Q5 G (Qfa p0 i0) r := by
 have hB0 := H.1
 exact Qd (Q12r p0 i0) (y := (Qw7 p0 (i0 + 1), Qi8 p0 (i0 + 1))) [hB 0 hc0, hP 1 (Q4s 2 2 (List.length p0.managers) (i0 : Int) i0 (by omega) (by omega) (by omega)), hP 0 (Qaf 2 2 0 true ((Manager.rows p0.managers).flatten) (Manager.rows p0.managers) 2 true i0 0 (i0 * 2) (Manager.cells x0) (.agg [.str x0.name, .sl (Qu x0.fields)]) rfl rfl (Manager.Qe hx0) (Manager.Ql p0.managers) (by decide) rfl), hP 9 (Q4s 2 2 (List.length p0.managers) (i0 : Int) i0 (by omega) (by omega) (by omega)), hV 1 [(2, Manager.rows p0.managers)] (Q1cz 2 2 true ((Manager.rows p0.managers).flatten) (Manager.rows p0.managers) (Manager.rows p0.managers) 1 i0 1 (i0 * 2 + 1) _ (.sl (Qu x0.fields)) rfl rfl (Manager.Qe hx0) (Manager.Ql p0.managers) (by decide) rfl rfl (Q11d (Manager.Qe hx0))), hS 0 true (Manager.Q7 p0.managers 2 rfl), hP 0 (Q28 i0 (by omega))] [aN (Q7h (G := G) (f := 177) (sz := 1) (bytes := 16) rfl (Q2u x0.fields) (Q75 x0.fields 1 rfl) (H.2.1 x0 (Q2o hx0)))] (by kernel_rfl) hr
theorem Qzb (p0 : Meta) (H : Qg5 p0) : ∀ (r0 : List Manager) (i0 : Nat), List.drop i0 p0.managers = r0 → Qa3 p0 (Qfa p0 i0) (Q13y p0 r0 i0)
 | [], i0, hd => by
  have hc0 : (decide ((i0 : Int) < ((List.length p0.managers) : Int))) = false := by have := Q1o hd; simp; omega
  show Qa3 p0 _ ()
  exact Q19o p0 H i0 hc0
 | x0 :: r0, i0, hd => by
  obtain ⟨hx0, hi0, hd'⟩ := Q1i hd
  have hc0 : (decide ((i0 : Int) < ((List.length p0.managers) : Int))) = true := by simp; omega
  show Qa3 p0 _ ()
  exact Qtb p0 (fun r hr => Q17h p0 H x0 i0 hx0 hi0 hc0 hr) _ (Qzb p0 H r0 (i0 + 1) hd')
def Q1r9 (p0 : Meta) : Meta := p0
theorem Q1zb (p0 : Meta) : Q1r9 p0 = (p0) := by
  rfl
def Q1xo (p0 : Meta) : En := .call 70 [.agg (Meta.cells p0)] []
def Q1pj (p0 : Meta) : Rs := .ret (.agg (Meta.cells (Q1r9 p0))) []
def Qs2 (p0 : Meta) : Prop := (List.length p0.labels * 32 ≤ 140737488355328) ∧ (List.length p0.owners * 48 ≤ 140737488355328) ∧ (List.length p0.finalizers * 16 ≤ 140737488355328) ∧ (List.length p0.managers * 40 ≤ 140737488355328) ∧ (Qg5 p0) ∧ True
theorem Q1jy (p0 : Meta) (H : Qs2 p0) : Q5 G (Q1xo p0) (Q1pj p0) := by
 unfold Q1pj
 rw [Q1zb]
 have hl0 := Qzb p0 (H.2.2.2.2.1) p0.managers 0 (by simp)
 obtain ⟨z0, zo0, hl0⟩ := hl0
 exact Q6 (fn := Ir.K5z) rfl VOK.nil [hQ (Manager.Q7 p0.managers 2 rfl), hS 0 true (Manager.Q7 p0.managers 2 rfl), hQ (Manager.Q0 p0.managers).symm] [aN (Q7h (G := G) (f := 175) (sz := 2) (bytes := 32) rfl (Label.Q0 p0.labels) (Label.Q7 p0.labels 2 rfl) H.1), aN (Q7h (G := G) (f := 176) (sz := 5) (bytes := 48) rfl (Owner.Q0 p0.owners) (Owner.Q7 p0.owners 5 rfl) H.2.1), aN (Q7h (G := G) (f := 177) (sz := 1) (bytes := 16) rfl (Q2u p0.finalizers) (Q75 p0.finalizers 1 rfl) H.2.2.1), aV [(0, Manager.rows p0.managers)] (Q8r (G := G) (f := 178) (sz := 2) (bytes := 40) rfl (Manager.Q0 p0.managers) (Manager.Q7 p0.managers 2 rfl) H.2.2.2.1), aV [(2, Manager.rows p0.managers)] hl0] (by kernel_rfl)
end Go.Proofs.YtimjjohlpnkacaaGreat
end

