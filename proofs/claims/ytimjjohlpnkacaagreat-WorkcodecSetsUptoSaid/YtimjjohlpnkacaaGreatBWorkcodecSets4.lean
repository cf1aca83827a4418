/- Texts of the claim, merged by a program; what the statement does not reach is left out. -/
import Derived.Test.YtimjjohlpnkacaaGreatBWorkcodecSets3

section
/- Lists of fields: strictly sorted lists are known by their members; keeping the last field of each name of a sorted list; putting a field into a sorted list. -/
namespace Go.Pv
open Srt
theorem Q85 (a : ByteArray) : sCmp a a = 0 := Qzg.2 rfl
theorem Q110 {a b d : ByteArray} (h : sCmp a b < 0) (g : sCmp b d < 0) : sCmp a d < 0 := by
 have t := Q1cb a b d
 have h1 := Qmk a b
 have h2 := Qmk b d
 unfold R3 at h1 h2
 unfold T3 at t
 omega
theorem Q1h5 {a b : ByteArray} : sEq a b = false ↔ a ≠ b := by
 cases h : sEq a b with
 | true => simp [Q3v.1 h]
 | false => exact ⟨fun _ e => (by rw [Q3v.2 e] at h; cases h), fun _ => rfl⟩
theorem Qhi (a b : ByteArray) : sCmp a b < 0 ∨ a = b ∨ sCmp b a < 0 := by
  have h1 := Qmk a b
  have h2 := Q7d a b
  have h3 : sCmp a b = 0 → a = b := Qzg.1
  unfold R3 at h1
  by_cases e : sCmp a b = 0
  · exact .inr (.inl (h3 e))
  · omega
theorem Qal {α : Type} (f : α → ByteArray) : Tot (fun x y : α => sCmp (f x) (f y)) := by
  refine ⟨fun x y h => ?_, fun x y w h g => ?_⟩
  · rw [Q7d]
    omega
  · have t := Q1cb (f w) (f y) (f x)
    have h1 := Qmk (f w) (f y)
    have h2 := Qmk (f y) (f x)
    rw [Q7d] at h
    rw [Q7d] at g
    have h3 := Q7d (f w) (f y)
    have h4 := Q7d (f y) (f x)
    have h5 := Q7d (f y) (f w)
    have h6 := Q7d (f x) (f y)
    unfold R3 at h1 h2
    unfold T3 at t
    omega
abbrev nlt (x y : Fld) : Prop := sCmp x.name y.name < 0
def SS (l : List Fld) : Prop := l.Pairwise nlt
theorem SS.cons {x : Fld} {l : List Fld} : SS (x :: l) ↔ (∀ y ∈ l, nlt x y) ∧ SS l := List.pairwise_cons
theorem SS.nil : SS [] := List.Pairwise.nil
theorem Q10n (x : Fld) : ¬ nlt x x := by unfold nlt; rw [Q85]; omega
theorem Q1h7 : ∀ {l r : List Fld}, SS l → SS r → (∀ f, f ∈ l ↔ f ∈ r) → l = r
  | [], [], _, _, _ => rfl
  | [], y :: r, _, _, h => by have := (h y).2 List.mem_cons_self; cases this
  | x :: l, [], _, _, h => by have := (h x).1 List.mem_cons_self; cases this
  | x :: l, y :: r, hl, hr, h => by
    obtain ⟨hx, hl'⟩ := SS.cons.1 hl
    obtain ⟨hy, hr'⟩ := SS.cons.1 hr
    have e : x = y := by
      rcases List.mem_cons.1 ((h x).1 List.mem_cons_self) with e | e
      · exact e
      · rcases List.mem_cons.1 ((h y).2 List.mem_cons_self) with e' | e'
        · exact e'.symm
        · exact absurd (Q110 (hx y e') (hy x e)) (Q10n x)
    subst e
    have k1 : ∀ f, f ∈ l → f ∈ r := fun f hf => by
      rcases List.mem_cons.1 ((h f).1 (List.mem_cons_of_mem _ hf)) with e | e
      · subst e; exact absurd (hx _ hf) (Q10n _)
      · exact e
    have k2 : ∀ f, f ∈ r → f ∈ l := fun f hf => by
      rcases List.mem_cons.1 ((h f).2 (List.mem_cons_of_mem _ hf)) with e | e
      · subst e; exact absurd (hy _ hf) (Q10n _)
      · exact e
    rw [Q1h7 hl' hr' fun f => ⟨k1 f, k2 f⟩]
theorem SS.filter {l : List Fld} (h : SS l) (p : Fld → Bool) : SS (l.filter p) := h.sublist List.filter_sublist
theorem SS.inj {l : List Fld} (h : SS l) {x y : Fld} (hx : x ∈ l) (hy : y ∈ l) (e : x.name = y.name) : x = y := by
  induction l with
  | nil => cases hx
  | cons z l ih =>
    obtain ⟨hz, hl⟩ := SS.cons.1 h
    rcases List.mem_cons.1 hx with e1 | hx' <;> rcases List.mem_cons.1 hy with e2 | hy'
    · rw [e1, e2]
    · subst e1; have := hz y hy'; unfold nlt at this; rw [e, Q85] at this; omega
    · subst e2; have := hz x hx'; unfold nlt at this; rw [e, Q85] at this; omega
    · exact ih hl hx' hy'
def lastOf (l : List Fld) (f : Fld) : Prop := (l.filter fun y => decide (y.name = f.name)).getLast? = some f
theorem Qds (f : Fld) : ¬ lastOf [] f := by simp [lastOf]
theorem Qb5 (x f : Fld) (l : List Fld) : lastOf (x :: l) f ↔ lastOf l f ∨ (f = x ∧ ∀ y ∈ l, y.name ≠ x.name) := by
  unfold lastOf
  by_cases h : x.name = f.name
  · rw [List.filter_cons_of_pos (by simpa using h)]
    cases e : l.filter fun y => decide (y.name = f.name) with
    | nil =>
      have := List.filter_eq_nil_iff.1 e
      simp only [List.getLast?_singleton, Option.some.injEq, List.getLast?_nil, reduceCtorEq, false_or]
      exact ⟨fun g => ⟨g.symm, fun y hy => by have := this y hy; rw [h]; simpa using this⟩, fun g => g.1.symm⟩
    | cons a r =>
      rw [List.getLast?_cons_cons]
      refine ⟨.inl, fun g => ?_⟩
      rcases g with g | g
      · exact g
      · have : a ∈ l.filter fun y => decide (y.name = f.name) := by rw [e]; exact List.mem_cons_self
        obtain ⟨h1, h2⟩ := List.mem_filter.1 this
        exact absurd ((of_decide_eq_true h2).trans (by rw [g.1])) (g.2 a h1)
  · rw [List.filter_cons_of_neg (by simpa using h)]
    exact ⟨.inl, fun g => by
      rcases g with g | g
      · exact g
      · exact absurd (by rw [g.1]) h⟩
theorem Q15r {l : List Fld} {f : Fld} (h : lastOf l f) : f ∈ l := (List.mem_filter.1 (List.mem_of_getLast? h)).1
theorem Q1av {l : List Fld} (h : SS l) (f : Fld) : lastOf l f ↔ f ∈ l := by
 induction l with
 | nil => exact ⟨fun g => absurd g (Qds f), fun g => by cases g⟩
 | cons x l ih =>
  obtain ⟨hx, hl⟩ := SS.cons.1 h
  rw [Qb5, ih hl, List.mem_cons]
  exact ⟨fun g => g.elim .inr fun g => .inl g.1, fun g => g.elim (fun g => .inr ⟨g, fun y hy e => by have := hx y hy; unfold nlt at this; rw [e, Q85] at this; omega⟩) .inl⟩
def lasts : List Fld → List Fld
 | [] => []
 | [x] => [x]
 | x :: y :: r => bif sEq y.name x.name then lasts (y :: r) else x :: lasts (y :: r)
abbrev cNm (x y : Fld) : Int := sCmp x.name y.name
theorem Qxw : ∀ (l : List Fld), Up cNm l → ∀ f, f ∈ lasts l ↔ lastOf l f
  | [], _, f => ⟨fun g => (by cases g), fun g => absurd g (Qds f)⟩
  | [x], _, f => by
    rw [Qb5]
    simp [lasts, Qds]
  | x :: y :: r, h, f => by
    have h' := List.pairwise_cons.1 h
    have ih := Qxw (y :: r) h'.2 f
    rw [lasts, Qb5]
    cases e : sEq y.name x.name with
    | true =>
      rw [cond_true, ih]
      exact ⟨.inl, fun g => g.elim id fun g => absurd (Q3v.1 e) (g.2 y List.mem_cons_self)⟩
    | false =>
      rw [cond_false, List.mem_cons, ih]
      refine ⟨fun g => g.elim (fun g => .inr ⟨g, fun w hw hn => ?_⟩) .inl, fun g => g.elim .inr fun g => .inl g.1⟩
      have e := Q1h5.1 e
      rcases List.mem_cons.1 hw with rfl | hw
      · exact e hn
      · have h1 := (List.pairwise_cons.1 h'.2).1 w hw
        have h2 := h'.1 y List.mem_cons_self
        unfold le cNm at h1 h2
        rw [hn] at h1
        rcases Qhi x.name y.name with g | g | g
        · exact h1 g
        · exact e g.symm
        · exact h2 g
theorem Qcv : ∀ (l : List Fld), (lasts l).Sublist l
 | [] => List.Sublist.slnil
 | [x] => List.Sublist.refl _
 | x :: y :: r => by
  rw [lasts]
  cases sEq y.name x.name with
  | true => exact (Qcv (y :: r)).cons x
  | false => exact (Qcv (y :: r)).cons_cons x
theorem Q1er (l : List Fld) (h : Up cNm l) : SS (lasts l) := by
  induction l with
  | nil => exact SS.nil
  | cons x l ih =>
    cases l with
    | nil => exact SS.cons.2 ⟨fun _ g => (by cases g), SS.nil⟩
    | cons y r =>
      have h' := List.pairwise_cons.1 h
      rw [lasts]
      cases e : sEq y.name x.name with
      | true => exact ih h'.2
      | false =>
        rw [cond_false]
        refine SS.cons.2 ⟨fun w hw => ?_, ih h'.2⟩
        have e := Q1h5.1 e
        have h2 := h'.1 y List.mem_cons_self
        unfold le cNm at h2
        have hxy : sCmp x.name y.name < 0 := by
          rcases Qhi x.name y.name with g | g | g
          · exact g
          · exact absurd g.symm e
          · exact absurd g h2
        rcases List.mem_cons.1 ((Qcv _).mem hw) with rfl | hw
        · exact hxy
        · have h1 := (List.pairwise_cons.1 h'.2).1 w hw
          unfold le cNm at h1
          unfold nlt
          rcases Qhi y.name w.name with g | g | g
          · exact Q110 hxy g
          · rw [← g]; exact hxy
          · exact absurd g h1
theorem Q1q1 (x y : Fld) : Srt.eqv cNm x y = decide (y.name = x.name) := by
  unfold Srt.eqv cNm
  have h1 : (y.name = x.name) ↔ (¬ sCmp x.name y.name < 0 ∧ ¬ sCmp y.name x.name < 0) := by
    constructor
    · intro e; rw [e, Q85]; omega
    · intro ⟨g1, g2⟩
      rcases Qhi x.name y.name with g | g | g
      · exact absurd g g1
      · exact g.symm
      · exact absurd g g2
  rw [← Bool.decide_and]
  exact decide_eq_decide.2 h1.symm
theorem Q1eq {l r : List Fld} (h : F cNm l r) (f : Fld) : lastOf l f ↔ lastOf r f := by
 have := h.2 f
 unfold lastOf
 rw [show (fun y : Fld => decide (y.name = f.name)) = Srt.eqv cNm f from funext fun y => (Q1q1 f y).symm, this]
def mapOf (l : List Fld) : List Fld := lasts (Qdo cNm l)
theorem Q1et (l : List Fld) : SS (mapOf l) := Q1er _ (Q13d (Qal Fld.name) l)
theorem Qz1 (l : List Fld) (f : Fld) : f ∈ mapOf l ↔ lastOf l f := by
 unfold mapOf
 rw [Qxw _ (Q13d (Qal Fld.name) l)]
 exact (Q1eq (Q1au (Qal Fld.name) l) f).symm
theorem Q10m {l : List Fld} (h : SS l) : mapOf l = l := Q1h7 (Q1et l) h fun f => by rw [Qz1, Q1av h]
theorem Qm0 {α : Type} (c : α → α → Int) (T : Tot c) (l : List α) : (Qdo c l).length = l.length := (Q1au T l).1.symm
theorem Q1b4 (l : List Fld) : (mapOf l).length ≤ l.length := Nat.le_trans (Qcv _).length_le (Nat.le_of_eq (Qm0 _ (Qal Fld.name) l))
theorem Q1b6 {l : List Fld} {f : Fld} (h : f ∈ mapOf l) : f ∈ l := Q15r ((Qz1 l f).1 h)
end Go.Pv
end

section
/- How many values a value holds; what that bounds. -/
namespace Go.Pv
open Srt
end Go.Pv
end

section
/- Structures as values: the parts of a map, their kinds; what decodes what was encoded. No program is in sight here. -/
namespace Go.Pv
abbrev vZ : Val := .mk 0 0 (⟨#[]⟩ : ByteArray) [] []
abbrev vN (n : Int) : Val := .mk 2 n (⟨#[]⟩ : ByteArray) [] []
abbrev vS (s : ByteArray) : Val := .mk 3 0 s [] []
abbrev vB (b : Bool) : Val := .mk 1 (bif b then 1 else 0) (⟨#[]⟩ : ByteArray) [] []
abbrev vL (l : List Val) : Val := .mk 4 0 (⟨#[]⟩ : ByteArray) l []
abbrev vM (l : List Fld) : Val := .mk 5 0 (⟨#[]⟩ : ByteArray) [] l
def Q15u (n : ByteArray) : List Fld → Val
 | [] => vZ
 | x :: r => bif sEq x.name n then x.v else Q15u n r
def prt (v : Val) (n : ByteArray) : Val := bif v.kind == 5 then Q15u n v.fields else vZ
def isM (v : Val) : Bool := v.kind == 5 || v.kind == 0
def xN (x : Val) : Int × Bool := bif x.kind == 2 then (x.n, true) else (0, x.kind == 0)
def xS (x : Val) : ByteArray × Bool := bif x.kind == 3 then (x.s, true) else ((⟨#[]⟩ : ByteArray), x.kind == 0)
def xB (x : Val) : Bool × Bool := bif x.kind == 1 then (!(x.n == 0), true) else (false, x.kind == 0)
def xL (x : Val) : List Val × Bool := bif x.kind == 4 then (x.list, true) else ([], x.kind == 0)
def xE {α : Type} (f : Val → α × Bool) (x : Val) : List α × Bool := ((xL x).1.map fun y => (f y).1, (xL x).2 && (xL x).1.all fun y => (f y).2)
abbrev dN (v : Val) (n : ByteArray) : Int × Bool := xN (prt v n)
abbrev dS (v : Val) (n : ByteArray) : ByteArray × Bool := xS (prt v n)
abbrev dB (v : Val) (n : ByteArray) : Bool × Bool := xB (prt v n)
abbrev dL (v : Val) (n : ByteArray) : List Val × Bool := xL (prt v n)
abbrev dE {α : Type} (f : Val → α × Bool) (v : Val) (n : ByteArray) : List α × Bool := xE f (prt v n)
abbrev dT {α : Type} (f : Val → α × Bool) (v : Val) (n : ByteArray) : α × Bool := f (prt v n)
theorem Qmd {v : Val} (h : (v.kind == 5) = false) (n : ByteArray) : prt v n = vZ := by unfold prt; rw [h]; rfl
theorem Q1at {v : Val} (h : (v.kind == 5) = true) : isM v = true := by unfold isM; rw [h]; rfl
theorem Qlz {v : Val} (h : (v.kind == 5) = false) : isM v = (v.kind == 0) := by unfold isM; rw [h]; rfl
theorem xB_b (b : Bool) : xB (vB b) = (b, true) := by cases b <;> rfl
theorem Q65 {α : Type} {f : Val → α × Bool} {e : α → Val} (h : ∀ y, f (e y) = (y, true)) (l : List α) : xE f (vL (l.map e)) = (l, true) := by
 have h1 : ∀ l : List α, (l.map e).map (fun y => (f y).1) = l := by
  intro l
  induction l with
  | nil => rfl
  | cons y l ih => rw [List.map_cons, List.map_cons, ih, h y]
 have h2 : ∀ l : List α, ((l.map e).all fun y => (f y).2) = true := by
  intro l
  induction l with
  | nil => rfl
  | cons y l ih => rw [List.map_cons, List.all_cons, ih, h y]; rfl
 show ((l.map e).map (fun y => (f y).1), true && (l.map e).all fun y => (f y).2) = _
 rw [h1, h2]
 rfl
abbrev sB : Nat := 1000000000
theorem Q1r4 : Val.Sm sB vZ := Val.Sm.leaf 0 0 _
theorem Q211 {l : List Val} (h : l.length ≤ sB) (g : ∀ x ∈ l, Val.Sm sB x) : Val.Sm sB (vL l) := .mk _ h (Nat.zero_le _) g (fun _ h => by cases h)
theorem Qap {l : List Fld} (h : l.length ≤ sB) (g : ∀ x ∈ l, Val.Sm sB x.v) : Val.Sm sB (vM l) := .mk _ (Nat.zero_le _) h (fun _ h => by cases h) g
theorem Q1cp {B : Nat} (n : ByteArray) : ∀ {l : List Fld}, (∀ x ∈ l, Val.Sm B x.v) → Val.Sm B (Q15u n l)
 | [], _ => Val.Sm.leaf 0 0 _
 | x :: l, h => by
  unfold Q15u
  cases sEq x.name n with
  | true => exact h x List.mem_cons_self
  | false => exact Q1cp n fun y hy => h y (List.mem_cons_of_mem _ hy)
theorem Q3a {B : Nat} {v : Val} (h : Val.Sm B v) (n : ByteArray) : Val.Sm B (prt v n) := by
 unfold prt
 cases v.kind == 5 with
 | true => exact Q1cp n h.all.2.2.2
 | false => exact Val.Sm.leaf 0 0 _
def LSm {α : Type} (p : α → Prop) (l : List α) : Prop := l.length ≤ sB ∧ ∀ x ∈ l, p x
theorem LSm.leaf {α : Type} {l : List α} (h : l.length ≤ sB) : LSm (fun _ => True) l := ⟨h, fun _ _ => trivial⟩
theorem LSm.nil {α : Type} {p : α → Prop} : LSm p [] := ⟨Nat.zero_le _, fun _ h => by cases h⟩
theorem Qmx {x : Val} (h : Val.Sm sB x) : (xL x).1.length ≤ sB ∧ ∀ y ∈ (xL x).1, Val.Sm sB y := by
 unfold xL
 cases x.kind == 4 with
 | true => exact ⟨h.all.1, h.all.2.2.1⟩
 | false => exact ⟨Nat.zero_le _, fun _ h => by cases h⟩
theorem Q2x {α : Type} {e : α → Val} {p : α → Prop} (he : ∀ x, p x → Val.Sm sB (e x)) {l : List α} (h : LSm p l) : Val.Sm sB (vL (l.map e)) :=
 Q211 (by rw [List.length_map]; exact h.1) fun z hz => by
  obtain ⟨x, hx, rfl⟩ := List.mem_map.1 hz
  exact he x (h.2 x hx)
def ssb : List Fld → Bool
 | [] => true
 | [_] => true
 | x :: y :: r => decide (sCmp x.name y.name < 0) && ssb (y :: r)
theorem Q1h8 : ∀ {l : List Fld}, ssb l = true → SS l
  | [], _ => SS.nil
  | [x], _ => SS.cons.2 ⟨(fun _ h => by cases h), SS.nil⟩
  | x :: y :: r, h => by
    unfold ssb at h
    rw [Bool.and_eq_true] at h
    have h1 := of_decide_eq_true h.1
    have h2 := Q1h8 h.2
    refine SS.cons.2 ⟨fun z hz => ?_, h2⟩
    rcases List.mem_cons.1 hz with rfl | hz
    · exact h1
    · exact Q110 h1 ((SS.cons.1 h2).1 z hz)
theorem Q1b5 {l : List Fld} (h : ssb l = true) : mapOf l = l := Q10m (Q1h8 h)
def s5 (x : Val) : Val := bif x.kind == 5 then x else vZ
theorem Qmp {x : Val} (h : Val.Sm sB x) : Val.Sm sB (s5 x) := by
 unfold s5
 cases x.kind == 5 with
 | true => exact h
 | false => exact Q1r4
theorem Q12o {α : Type} {f : Val → α × Bool} (hn : ∀ v, (v.kind == 5) = false → f v = ((f vZ).1, v.kind == 0)) (hz : (f vZ).2 = true) (x : Val) : (f (s5 x)).1 = (f x).1 ∧ (f x).2 = (isM x && (f (s5 x)).2) := by
 unfold s5
 cases h : x.kind == 5 with
 | true => exact ⟨rfl, by rw [Q1at h, cond_true, Bool.true_and]⟩
 | false => rw [hn x h, cond_false, Qlz h, hz]; exact ⟨rfl, by rw [Bool.and_true]⟩
end Go.Pv
end

section
/- Decoders that count what is of a wrong kind: counters, and when they stay. No program is in sight here. -/
namespace Go.Pv
def bw (w : Int) (n : Nat) : Int := bif n == 0 then w else w64 (w + (n : Int))
theorem Q1mp (x y : Int) : w64 (w64 x + y) = w64 (x + y) := by
 unfold w64 IntKind.wrap
 simp [IntKind.signed, IntKind.bits]
 omega
theorem Q1a2 (w : Int) (a b : Nat) : bw (bw w a) b = bw w (a + b) := by
 unfold bw
 cases ha : (a == 0) with
 | true =>
  have := eq_of_beq ha
  subst this
  rw [Nat.zero_add]
  rfl
 | false =>
  have ha' := beq_eq_false_iff_ne.1 ha
  cases hb : (b == 0) with
  | true =>
   have := eq_of_beq hb
   subst this
   rw [Nat.add_zero, ha]
   rfl
  | false =>
   rw [show (a + b == 0) = false from beq_eq_false_iff_ne.2 (by omega), cond_false, cond_false, cond_false, Q1mp]
   congr 1
   omega
theorem Q1py {n : Nat} (h : n ≤ 4611686018427387904) : decide (0 < bw 0 n) = !(n == 0) := by
 unfold bw
 cases hn : (n == 0) with
 | true => rfl
 | false =>
  have := beq_eq_false_iff_ne.1 hn
  rw [cond_false, Qzs (by omega)]
  simp
  omega
def nb (b : Bool) : Nat := bif b then 0 else 1
theorem nb0 (b : Bool) : (nb b == 0) = b := by cases b <;> rfl
theorem Q1bh (b : Bool) : nb b ≤ 1 := by cases b <;> exact Nat.le_of_ble_eq_true rfl
theorem add0 (a b : Nat) : (a + b == 0) = (a == 0 && b == 0) := by
 cases a with
 | zero => rw [Nat.zero_add]; rfl
 | succ a => rw [show (a + 1 + b == 0) = false from beq_eq_false_iff_ne.2 (by omega)]; rfl
def cK (k : Int) (x : Val) : Nat := nb (x.kind == k || x.kind == 0)
def cM (v : Val) : Nat := cK 5 v
theorem cM0 (v : Val) : (cM v == 0) = isM v := nb0 _
def pK (k : Int) (v : Val) (n : ByteArray) : Nat := cM v + cK k (prt v n)
theorem kN (x : Val) : (cK 2 x == 0) = (xN x).2 := by unfold cK xN; rw [nb0]; cases (x.kind == 2) <;> rfl
theorem kS (x : Val) : (cK 3 x == 0) = (xS x).2 := by unfold cK xS; rw [nb0]; cases (x.kind == 3) <;> rfl
theorem kB (x : Val) : (cK 1 x == 0) = (xB x).2 := by unfold cK xB; rw [nb0]; cases (x.kind == 1) <;> rfl
theorem kL (x : Val) : (cK 4 x == 0) = (xL x).2 := by unfold cK xL; rw [nb0]; cases (x.kind == 4) <;> rfl
theorem pN0 (v : Val) (n : ByteArray) : (pK 2 v n == 0) = (isM v && (dN v n).2) := by unfold pK; rw [add0, cM0, kN]
theorem pS0 (v : Val) (n : ByteArray) : (pK 3 v n == 0) = (isM v && (dS v n).2) := by unfold pK; rw [add0, cM0, kS]
theorem pB0 (v : Val) (n : ByteArray) : (pK 1 v n == 0) = (isM v && (dB v n).2) := by unfold pK; rw [add0, cM0, kB]
theorem Qlj (k : Int) (x : Val) : cK k x ≤ 1 := Q1bh _
theorem Q7y (k : Int) (v : Val) (n : ByteArray) : pK k v n ≤ 2 := by have := Qlj 5 v; have := Qlj k (prt v n); unfold pK cM; omega
def sumC (c : Val → Nat) : List Val → Nat
 | [] => 0
 | x :: r => c x + sumC c r
theorem Q1r5 {c : Val → Nat} {p : Val → Bool} (h : ∀ x, (c x == 0) = p x) : ∀ l : List Val, (sumC c l == 0) = l.all p
 | [] => rfl
 | x :: l => by rw [sumC, add0, h, Q1r5 h l, List.all_cons]
theorem Q1cr {c : Val → Nat} {K B : Nat} {P : Val → Prop} (hc : ∀ x, P x → c x ≤ K) : ∀ {l : List Val}, (∀ x ∈ l, P x) → l.length ≤ B → sumC c l ≤ B * K
 | [], _, _ => Nat.zero_le _
 | x :: l, h, hl => by
  cases B with
  | zero => simp at hl
  | succ B =>
   have h1 := hc x (h x List.mem_cons_self)
   have h2 := Q1cr (B := B) hc (fun y hy => h y (List.mem_cons_of_mem _ hy)) (by simp at hl; omega)
   rw [sumC, Nat.succ_mul]
   omega
def pE (c : Val → Nat) (v : Val) (n : ByteArray) : Nat := pK 4 v n + sumC c (dL v n).1
theorem pE0 {α : Type} {f : Val → α × Bool} {c : Val → Nat} (h : ∀ x, (c x == 0) = (f x).2) (v : Val) (n : ByteArray) : (pE c v n == 0) = (isM v && (dE f v n).2) := by
 unfold pE pK
 rw [add0, add0, cM0, kL, Q1r5 h, Bool.and_assoc]
 rfl
theorem Q1ss {B : Nat} {x : Val} (h : Val.Sm B x) : (xL x).1.length ≤ B ∧ ∀ y ∈ (xL x).1, Val.Sm B y := by
 unfold xL
 cases x.kind == 4 with
 | true => exact ⟨h.all.1, h.all.2.2.1⟩
 | false => exact ⟨Nat.zero_le _, fun _ h => by cases h⟩
theorem Q1ex {c : Val → Nat} {B K : Nat} (hc : ∀ x, Val.Sm B x → c x ≤ K) {v : Val} (h : Val.Sm B v) (n : ByteArray) : pE c v n ≤ 2 + B * K := by
 have hx := Q1ss (Q3a h n)
 have h1 := Q1cr hc hx.2 hx.1
 have h2 := Q7y 4 v n
 change pK 4 v n + sumC c (xL (prt v n)).1 ≤ _
 omega
theorem Q1cc (s : ByteArray) : sLt s s = false := by rw [Q1is, Q85]; rfl
theorem and_tt {a b : Bool} (h : a = true) (k : b = true) : (a && b) = true := by rw [h, k]; rfl
theorem Q1qc {a b : Bool} (h : b = true) : (a || b) = true := by rw [h, Bool.or_true]
theorem Q3p {α : Type} {G : Nat → Option Fun} {c : α → En} {r : Rs} {x y : α} (h : x = y) (t : Q7 G (c x) r) : Q7 G (c y) r := h ▸ t
def resC {α : Type} (n : Nat) (x z : α) : α × Int := bif decide (0 < bw 0 n) then (z, 6) else (x, 0)
theorem Q10y {α : Type} {n : Nat} (h : n ≤ 4611686018427387904) (x z : α) : resC n x z = bif n == 0 then (x, 0) else (z, 6) := by
 unfold resC
 rw [Q1py h]
 cases (n == 0) <;> rfl
end Go.Pv
end

section
/- Small values; equality of what is the same (printed by a program). -/
namespace Go.Proofs.YtimjjohlpnkacaaGreat
open Go.Pv
abbrev G : Nat → Option Fun := tabG Ir.table
abbrev Γ : Nat → Option Ty := gam 51
abbrev BA : Type := ByteArray
theorem Q1fo (a b : BA) : Q7 G (.call 221 [.str a, .str b] []) (.ret (.int .i64 (sCmp a b)) []) := ⟨1, by kernel_rfl⟩
inductive Qth where
  | k0 (q0 : Int)
  | k1
mutual
def Q92 (p0 : Val) (p1 : Int) (p2 : Int) : Int :=
 bif (decide (p1 ≤ 0)) then
  (-1)
 else
  bif (decide (p2 ≤ 0)) then
   (-1)
  else
   bif (decide (1000 < (ByteArray.size p0.s : Int))) then
    (-1)
   else
    (match (Q3x p0 p2 p0.fields 0 (Q3l p0 p2 p0.list 0 (w64 (p1 - 1)))) with
    | .k0 y4_0 => y4_0
    | .k1 => (-1))
termination_by SizeOf.sizeOf p0
decreasing_by all_goals first | exact Val.Q10l _ | exact Val.Qm7 _
def Q3l (p0 : Val) (p2 : Int) : List Val → Nat → Int → Int
 | [], _i0, v0_1 =>
  v0_1
 | x0 :: r0, i0, v0_1 =>
  bif (decide (0 ≤ v0_1)) then
   Q3l p0 p2 r0 (i0 + 1) (Q92 x0 v0_1 (w64 (p2 - 1)))
  else
   v0_1
termination_by l => SizeOf.sizeOf l
decreasing_by all_goals first | exact Q10k _ _ | exact Q1b3 _ _ | exact Q141 _ _
def Q3x (p0 : Val) (p2 : Int) : List Fld → Nat → Int → Qth
 | [], _i1, v1_1 =>
  (.k0 v1_1)
 | x1 :: r1, i1, v1_1 =>
  bif (decide (0 ≤ v1_1)) then
   bif (decide (1000 < (ByteArray.size x1.name : Int))) then
    (.k1)
   else
    Q3x p0 p2 r1 (i1 + 1) (Q92 x1.v v1_1 (w64 (p2 - 1)))
  else
   (.k0 v1_1)
termination_by l => SizeOf.sizeOf l
decreasing_by all_goals first | exact Q10k _ _ | exact Q1b3 _ _ | exact Q141 _ _
end
def Qvd (_p0 : Val) (p2 : Int) (i0 : Nat) (v0_1 : Int) : List PV :=
  [.un, .int .i64 v0_1, .int .i64 p2, .bx 0 0, .un, .un, .un, .int .i64 (i0 : Int)] ++ nuns 65
def Qw6 (p0 : Val) (_p2 : Int) (_i0 : Nat) (_v0_1 : Int) : List Ob :=
  [⟨5, 0, true, [.int .i64 p0.kind, .int .i64 p0.n, .str p0.s, .sl (Val.rows p0.list), .sl (Fld.rows p0.fields)]⟩]
def Qbr (p0 : Val) (p2 : Int) (i0 : Nat) (v0_1 : Int) : En := .loop 0 Ir.Qj3 Ir.Q1g2 (Qvd p0 p2 i0 v0_1) (Qw6 p0 p2 i0 v0_1)
def Qdi (p0 : Val) (p2 : Int) (q0 : Int) (z : Nat → PV) (_zo : Nat → List PV) : St :=
  ⟨[z 0, .int .i64 q0, .int .i64 p2, .bx 0 0] ++ zr z 4 69, [(0, ⟨5, 0, true, [.int .i64 p0.kind, .int .i64 p0.n, .str p0.s, .sl (Val.rows p0.list), .sl (Fld.rows p0.fields)]⟩)], 577⟩
def Qc4 (p0 : Val) (p2 : Int) (e : En) (q : Int) : Prop := ∃ z zo, Q7 G e (.st (.exit 0) (Qdi p0 p2 q z zo))
theorem Qsg (p0 : Val) (p2 : Int) {e e' : En} (h : ∀ r, Q7 G e r → Q7 G e' r) : ∀ q, Qc4 p0 p2 e q → Qc4 p0 p2 e' q
  | _, ⟨z, zo, hz⟩ => ⟨z, zo, h _ hz⟩
def Qve (_p0 : Val) (p2 : Int) (i1 : Nat) (v1_1 : Int) : List PV :=
  [.un, .int .i64 v1_1, .int .i64 p2, .bx 0 0, .un, .un, .un, .un, .int .i64 (i1 : Int)] ++ nuns 64
def Qw7 (p0 : Val) (_p2 : Int) (_i1 : Nat) (_v1_1 : Int) : List Ob :=
  [⟨5, 0, true, [.int .i64 p0.kind, .int .i64 p0.n, .str p0.s, .sl (Val.rows p0.list), .sl (Fld.rows p0.fields)]⟩]
def Q9y (p0 : Val) (p2 : Int) (i1 : Nat) (v1_1 : Int) : En := .loop 0 Ir.Qj4 Ir.Q1g3 (Qve p0 p2 i1 v1_1) (Qw7 p0 p2 i1 v1_1)
def Qdj (p0 : Val) (_p2 : Int) (q0 : Int) (z : Nat → PV) (_zo : Nat → List PV) : St :=
  ⟨[z 0, .int .i64 q0] ++ zr z 2 71, [(0, ⟨5, 0, true, [.int .i64 p0.kind, .int .i64 p0.n, .str p0.s, .sl (Val.rows p0.list), .sl (Fld.rows p0.fields)]⟩)], 577⟩
def Qnz (_p0 : Val) (_p2 : Int) (z : Nat → PV) (zo : Nat → List PV) : St :=
  ⟨zr z 0 6 ++ [.int .i64 (-1)] ++ zr z 7 66, [(0, ⟨5, 0, true, zo 0⟩)], 1153⟩
def Qa5 (p0 : Val) (p2 : Int) (e : En) : Qth → Prop
  | .k0 q0 => ∃ z zo, Q7 G e (.st (.exit 2) (Qdj p0 p2 q0 z zo))
  | .k1 => ∃ z zo, Q7 G e (.st .ret (Qnz p0 p2 z zo))
theorem Qsh (p0 : Val) (p2 : Int) {e e' : En} (h : ∀ r, Q7 G e r → Q7 G e' r) : ∀ q, Qa5 p0 p2 e q → Qa5 p0 p2 e' q
  | .k0 _, ⟨z, zo, hz⟩ => ⟨z, zo, h _ hz⟩
  | .k1, ⟨z, zo, hz⟩ => ⟨z, zo, h _ hz⟩
def Q1dn (p0 : Val) (p1 : Int) (p2 : Int) : En := .call 170 [.agg (Val.cells p0), .int .i64 p1, .int .i64 p2] []
def Q19y (p0 : Val) (p1 : Int) (p2 : Int) : Rs := .ret (.int .i64 (Q92 p0 p1 p2)) []
abbrev Qwf (p0 : Val) : Prop := Val.Sm 4611686018427387904 p0
def Q7g (p0 : Val) : Prop := ∀ (q : Val), SizeOf.sizeOf q < SizeOf.sizeOf p0 → ∀ (p1 : Int), ∀ (p2 : Int), Qwf q → Q7 G (Q1dn q p1 p2) (Q19y q p1 p2)
def Qa1 (p0 : Val) (_p2 : Int) : Prop := (List.length p0.list ≤ 4611686018427387904) ∧ (∀ x0 ∈ p0.list, Qwf x0) ∧ True
def Q8d (p0 : Val) (_p2 : Int) : Prop := (List.length p0.fields ≤ 4611686018427387904) ∧ (∀ x1 ∈ p0.fields, Qwf x1.v) ∧ True
theorem Q130 (p0 : Val) (_p1 : Int) (p2 : Int) (H : Qwf p0) : (Qa1 p0 p2) ∧ (Q8d p0 p2) ∧ True := by
  obtain ⟨h1, h2, h3, h4⟩ := H.all
  simp only [Qa1, Q8d]
  exact ⟨⟨h1, h3, trivial⟩, ⟨h2, h4, trivial⟩, trivial⟩
def Qpd (p0 : Val) (_p2 : Int) (i0 : Nat) (_v0_1 : Int) : List PV :=
  nuns 7 ++ [.int .i64 (i0 : Int)] ++ nuns 15 ++ [.int .i64 (i0 : Int), .bx 0 3, .sl (Val.rows p0.list), .int .i64 ((List.length p0.list) : Int), .bool false, .bool false, .tup [], .tup [], .bool false]
def Qkj (_p0 : Val) (_p2 : Int) (_i0 : Nat) (_v0_1 : Int) : List (Nat × List PV) :=
  []
theorem Q188 (p0 : Val) (p2 : Int) (_H : Qa1 p0 p2) (_rec : Q7g p0) (i0 : Nat) (v0_1 : Int) (hc0 : (decide ((i0 : Int) < ((List.length p0.list) : Int))) = false) : Qc4 p0 p2 (Qbr p0 p2 i0 v0_1) v0_1 := by
 exact ⟨(envF (Qpd p0 p2 i0 v0_1)), (zoF (Qkj p0 p2 i0 v0_1)), Qm VOK.nil (x := ((.exit 0), Qdi p0 p2 v0_1 (envF (Qpd p0 p2 i0 v0_1)) (zoF (Qkj p0 p2 i0 v0_1)))) [hP 3 (Q11 (Val.rows p0.list) (List.length p0.list) (Val.Q9 p0.list)), hB 0 hc0] [] (by kernel_rfl)⟩
theorem Q167 (p0 : Val) (p2 : Int) (H : Qa1 p0 p2) (rec : Q7g p0) (x0 : Val) (i0 : Nat) (v0_1 : Int) (hx0 : p0.list[i0]? = some x0) (hi0 : i0 < List.length p0.list) (hc0 : (decide ((i0 : Int) < ((List.length p0.list) : Int))) = true) (h0 : (decide (0 ≤ v0_1)) = true) {r : Rs} (hr : Q7 G (Qbr p0 p2 (i0 + 1) (Q92 x0 v0_1 (w64 (p2 - 1)))) r) : Q7 G (Qbr p0 p2 i0 v0_1) r := by
 have hB0 := H.1; have e0 := of_decide_eq_true h0
 exact Ql VOK.nil (y := (Qvd p0 p2 (i0 + 1) (Q92 x0 v0_1 (w64 (p2 - 1))), Qw6 p0 p2 (i0 + 1) (Q92 x0 v0_1 (w64 (p2 - 1))))) [hP 3 (Q11 (Val.rows p0.list) (List.length p0.list) (Val.Q9 p0.list)), hB 0 hc0, hB 2 h0, hP 4 (Q2s 5 (Val.rows p0.list) i0 _ (Val.Qo hx0) rfl), hP 7 (Q2g i0 (by omega))] [aN (rec x0 (szL hx0) v0_1 (w64 (p2 - 1)) (H.2.1 x0 (Q2l hx0)))] (by kernel_rfl) hr
def Qpe (p0 : Val) (_p2 : Int) (i0 : Nat) (v0_1 : Int) (_x0 : Val) : List PV :=
  nuns 7 ++ [.int .i64 (i0 : Int)] ++ nuns 15 ++ [.int .i64 (i0 : Int), .bx 0 3, .sl (Val.rows p0.list), .int .i64 ((List.length p0.list) : Int), .bool true, .bool true, .int .i64 v0_1, .bool false, .bool false]
def Qkk (_p0 : Val) (_p2 : Int) (_i0 : Nat) (_v0_1 : Int) (_x0 : Val) : List (Nat × List PV) :=
  []
theorem Q189 (p0 : Val) (p2 : Int) (_H : Qa1 p0 p2) (_rec : Q7g p0) (x0 : Val) (i0 : Nat) (v0_1 : Int) (_hx0 : p0.list[i0]? = some x0) (_hi0 : i0 < List.length p0.list) (hc0 : (decide ((i0 : Int) < ((List.length p0.list) : Int))) = true) (h0 : (decide (0 ≤ v0_1)) = false) : Qc4 p0 p2 (Qbr p0 p2 i0 v0_1) v0_1 := by
 exact ⟨(envF (Qpe p0 p2 i0 v0_1 x0)), (zoF (Qkk p0 p2 i0 v0_1 x0)), Qm VOK.nil (x := ((.exit 0), Qdi p0 p2 v0_1 (envF (Qpe p0 p2 i0 v0_1 x0)) (zoF (Qkk p0 p2 i0 v0_1 x0)))) [hP 3 (Q11 (Val.rows p0.list) (List.length p0.list) (Val.Q9 p0.list)), hB 0 hc0, hB 2 h0] [] (by kernel_rfl)⟩
theorem Qya (p0 : Val) (p2 : Int) (H : Qa1 p0 p2) (rec : Q7g p0) : ∀ (r0 : List Val) (i0 : Nat) (v0_1 : Int), List.drop i0 p0.list = r0 → Qc4 p0 p2 (Qbr p0 p2 i0 v0_1) (Q3l p0 p2 r0 i0 v0_1)
 | [], i0, v0_1, hd => by
  have hc0 : (decide ((i0 : Int) < ((List.length p0.list) : Int))) = false := by have := Q1m hd; simp; omega
  rw [Q3l]
  exact Q188 p0 p2 H rec i0 v0_1 hc0
 | x0 :: r0, i0, v0_1, hd => by
  obtain ⟨hx0, hi0, hd'⟩ := Q1k hd
  have hc0 : (decide ((i0 : Int) < ((List.length p0.list) : Int))) = true := by simp; omega
  rw [Q3l]
  cases h0 : (decide (0 ≤ v0_1)) with
  | true =>
   exact Qsg p0 p2 (fun r hr => Q167 p0 p2 H rec x0 i0 v0_1 hx0 hi0 hc0 h0 hr) _ (Qya p0 p2 H rec r0 (i0 + 1) (Q92 x0 v0_1 (w64 (p2 - 1))) hd')
  | false =>
   exact Q189 p0 p2 H rec x0 i0 v0_1 hx0 hi0 hc0 h0
def Qpf (p0 : Val) (p2 : Int) (i1 : Nat) (_v1_1 : Int) : List PV :=
  [.un, .un, .int .i64 p2, .bx 0 0, .un, .un, .un, .un, .int .i64 (i1 : Int)] ++ nuns 34 ++ [.int .i64 (i1 : Int), .bx 0 4, .sl (Fld.rows p0.fields), .int .i64 ((List.length p0.fields) : Int), .bool false, .bool false, .tup [], .tup [], .bool false]
def Qkl (_p0 : Val) (_p2 : Int) (_i1 : Nat) (_v1_1 : Int) : List (Nat × List PV) :=
  []
theorem Q18a (p0 : Val) (p2 : Int) (_H : Q8d p0 p2) (_rec : Q7g p0) (i1 : Nat) (v1_1 : Int) (hc1 : (decide ((i1 : Int) < ((List.length p0.fields) : Int))) = false) : Qa5 p0 p2 (Q9y p0 p2 i1 v1_1) (.k0 v1_1) := by
 exact ⟨(envF (Qpf p0 p2 i1 v1_1)), (zoF (Qkl p0 p2 i1 v1_1)), Qm VOK.nil (x := ((.exit 2), Qdj p0 p2 v1_1 (envF (Qpf p0 p2 i1 v1_1)) (zoF (Qkl p0 p2 i1 v1_1)))) [hP 3 (Q11 (Fld.rows p0.fields) (List.length p0.fields) (Fld.Q9 p0.fields)), hB 0 hc1] [] (by kernel_rfl)⟩
def Qpg (p0 : Val) (p2 : Int) (i1 : Nat) (v1_1 : Int) (x1 : Fld) : List PV :=
  [.un, .int .i64 v1_1, .int .i64 p2, .bx 0 0, .un, .un, .un, .un, .int .i64 (i1 : Int)] ++ nuns 34 ++ [.int .i64 (i1 : Int), .bx 0 4, .sl (Fld.rows p0.fields), .int .i64 ((List.length p0.fields) : Int), .bool true, .bool true, .int .i64 v1_1, .bool true, .bool true, .un, .un, .bx 0 4, .sl (Fld.rows p0.fields), .int .i64 (i1 : Int), .rf [.str x1.name, .int .i64 x1.v.kind, .int .i64 x1.v.n, .str x1.v.s, .sl (Val.rows x1.v.list), .sl (Fld.rows x1.v.fields)], .rf [.str x1.name, .int .i64 x1.v.kind, .int .i64 x1.v.n, .str x1.v.s, .sl (Val.rows x1.v.list), .sl (Fld.rows x1.v.fields)], .str x1.name, .int .i64 (ByteArray.size x1.name : Int), .bool true]
def Qkm (p0 : Val) (_p2 : Int) (_i1 : Nat) (_v1_1 : Int) (_x1 : Fld) : List (Nat × List PV) :=
  [(0, [.int .i64 p0.kind, .int .i64 p0.n, .str p0.s, .sl (Val.rows p0.list), .sl (Fld.rows p0.fields)])]
theorem Q18b (p0 : Val) (p2 : Int) (_H : Q8d p0 p2) (_rec : Q7g p0) (x1 : Fld) (i1 : Nat) (v1_1 : Int) (hx1 : p0.fields[i1]? = some x1) (_hi1 : i1 < List.length p0.fields) (hc1 : (decide ((i1 : Int) < ((List.length p0.fields) : Int))) = true) (h0 : (decide (0 ≤ v1_1)) = true) (h1 : (decide (1000 < (ByteArray.size x1.name : Int))) = true) : Qa5 p0 p2 (Q9y p0 p2 i1 v1_1) (.k1) := by
 exact ⟨(envF (Qpg p0 p2 i1 v1_1 x1)), (zoF (Qkm p0 p2 i1 v1_1 x1)), Qm VOK.nil (x := (.ret, Qnz p0 p2 (envF (Qpg p0 p2 i1 v1_1 x1)) (zoF (Qkm p0 p2 i1 v1_1 x1)))) [hP 3 (Q11 (Fld.rows p0.fields) (List.length p0.fields) (Fld.Q9 p0.fields)), hB 0 hc1, hB 2 h0, hP 4 (Q2s 6 (Fld.rows p0.fields) i1 _ (Fld.Qo hx1) rfl), hB 3 h1] [] (by kernel_rfl)⟩
theorem Q168 (p0 : Val) (p2 : Int) (H : Q8d p0 p2) (rec : Q7g p0) (x1 : Fld) (i1 : Nat) (v1_1 : Int) (hx1 : p0.fields[i1]? = some x1) (hi1 : i1 < List.length p0.fields) (hc1 : (decide ((i1 : Int) < ((List.length p0.fields) : Int))) = true) (h0 : (decide (0 ≤ v1_1)) = true) (h1 : (decide (1000 < (ByteArray.size x1.name : Int))) = false) {r : Rs} (hr : Q7 G (Q9y p0 p2 (i1 + 1) (Q92 x1.v v1_1 (w64 (p2 - 1)))) r) : Q7 G (Q9y p0 p2 i1 v1_1) r := by
 have hB0 := H.1; have e0 := of_decide_eq_true h0; have e1 := of_decide_eq_false h1
 exact Ql VOK.nil (y := (Qve p0 p2 (i1 + 1) (Q92 x1.v v1_1 (w64 (p2 - 1))), Qw7 p0 p2 (i1 + 1) (Q92 x1.v v1_1 (w64 (p2 - 1))))) [hP 3 (Q11 (Fld.rows p0.fields) (List.length p0.fields) (Fld.Q9 p0.fields)), hB 0 hc1, hB 2 h0, hP 4 (Q2s 6 (Fld.rows p0.fields) i1 _ (Fld.Qo hx1) rfl), hB 3 h1, hP 3 (Q2s 6 (Fld.rows p0.fields) i1 _ (Fld.Qo hx1) rfl), hP 8 (Q2g i1 (by omega))] [aN (rec x1.v (szF hx1) v1_1 (w64 (p2 - 1)) (H.2.1 x1 (Q2l hx1)))] (by kernel_rfl) hr
def Qph (p0 : Val) (p2 : Int) (i1 : Nat) (v1_1 : Int) (_x1 : Fld) : List PV :=
  [.un, .un, .int .i64 p2, .bx 0 0, .un, .un, .un, .un, .int .i64 (i1 : Int)] ++ nuns 34 ++ [.int .i64 (i1 : Int), .bx 0 4, .sl (Fld.rows p0.fields), .int .i64 ((List.length p0.fields) : Int), .bool true, .bool true, .int .i64 v1_1, .bool false, .bool false]
def Qkn (_p0 : Val) (_p2 : Int) (_i1 : Nat) (_v1_1 : Int) (_x1 : Fld) : List (Nat × List PV) :=
  []
theorem Q18c (p0 : Val) (p2 : Int) (_H : Q8d p0 p2) (_rec : Q7g p0) (x1 : Fld) (i1 : Nat) (v1_1 : Int) (_hx1 : p0.fields[i1]? = some x1) (_hi1 : i1 < List.length p0.fields) (hc1 : (decide ((i1 : Int) < ((List.length p0.fields) : Int))) = true) (h0 : (decide (0 ≤ v1_1)) = false) : Qa5 p0 p2 (Q9y p0 p2 i1 v1_1) (.k0 v1_1) := by
 exact ⟨(envF (Qph p0 p2 i1 v1_1 x1)), (zoF (Qkn p0 p2 i1 v1_1 x1)), Qm VOK.nil (x := ((.exit 2), Qdj p0 p2 v1_1 (envF (Qph p0 p2 i1 v1_1 x1)) (zoF (Qkn p0 p2 i1 v1_1 x1)))) [hP 3 (Q11 (Fld.rows p0.fields) (List.length p0.fields) (Fld.Q9 p0.fields)), hB 0 hc1, hB 2 h0] [] (by kernel_rfl)⟩
theorem Qyb (p0 : Val) (p2 : Int) (H : Q8d p0 p2) (rec : Q7g p0) : ∀ (r1 : List Fld) (i1 : Nat) (v1_1 : Int), List.drop i1 p0.fields = r1 → Qa5 p0 p2 (Q9y p0 p2 i1 v1_1) (Q3x p0 p2 r1 i1 v1_1)
 | [], i1, v1_1, hd => by
  have hc1 : (decide ((i1 : Int) < ((List.length p0.fields) : Int))) = false := by have := Q1m hd; simp; omega
  rw [Q3x]
  exact Q18a p0 p2 H rec i1 v1_1 hc1
 | x1 :: r1, i1, v1_1, hd => by
  obtain ⟨hx1, hi1, hd'⟩ := Q1k hd
  have hc1 : (decide ((i1 : Int) < ((List.length p0.fields) : Int))) = true := by simp; omega
  rw [Q3x]
  cases h0 : (decide (0 ≤ v1_1)) with
  | true =>
   cases h1 : (decide (1000 < (ByteArray.size x1.name : Int))) with
   | true =>
    exact Q18b p0 p2 H rec x1 i1 v1_1 hx1 hi1 hc1 h0 h1
   | false =>
    exact Qsh p0 p2 (fun r hr => Q168 p0 p2 H rec x1 i1 v1_1 hx1 hi1 hc1 h0 h1 hr) _ (Qyb p0 p2 H rec r1 (i1 + 1) (Q92 x1.v v1_1 (w64 (p2 - 1))) hd')
  | false =>
   exact Q18c p0 p2 H rec x1 i1 v1_1 hx1 hi1 hc1 h0
theorem Q20i (p0 : Val) (p1 : Int) (p2 : Int) (H : Qwf p0) (rec : Q7g p0) : Q7 G (Q1dn p0 p1 p2) (Q19y p0 p1 p2) := by
  unfold Q19y
  rw [Q92]
  cases h0 : (decide (p1 ≤ 0)) with
  | true =>
   exact Q8 (fn := Ir.K1s) rfl VOK.nil [hB 3 h0] [] (by kernel_rfl)
  | false =>
   cases h1 : (decide (p2 ≤ 0)) with
   | true =>
    exact Q8 (fn := Ir.K1s) rfl VOK.nil [hB 3 h0, hB 2 h1] [] (by kernel_rfl)
   | false =>
    cases h2 : (decide (1000 < (ByteArray.size p0.s : Int))) with
    | true =>
     exact Q8 (fn := Ir.K1s) rfl VOK.nil [hB 3 h0, hB 2 h1, hB 5 h2] [] (by kernel_rfl)
    | false =>
     have hl3 := Qya p0 p2 ((Q130 p0 p1 p2 H).1) rec p0.list 0 (w64 (p1 - 1)) (by simp)
     obtain ⟨z3, zo3, hl3⟩ := hl3
     have hl4 := Qyb p0 p2 ((Q130 p0 p1 p2 H).2.1) rec p0.fields 0 (Q3l p0 p2 p0.list 0 (w64 (p1 - 1))) (by simp)
     cases hr4 : (Q3x p0 p2 p0.fields 0 (Q3l p0 p2 p0.list 0 (w64 (p1 - 1)))) with
     | k0 y4_0 =>
       rw [hr4] at hl4
       obtain ⟨z4, zo4, hl4⟩ := hl4
       exact Q8 (fn := Ir.K1s) rfl VOK.nil [hB 3 h0, hB 2 h1, hB 5 h2] [aN hl3, aN hl4] (by kernel_rfl)
     | k1 =>
       rw [hr4] at hl4
       obtain ⟨z4, zo4, hl4⟩ := hl4
       exact Q8 (fn := Ir.K1s) rfl VOK.nil [hB 3 h0, hB 2 h1, hB 5 h2] [aN hl3, aN hl4] (by kernel_rfl)
theorem Q1q3 : ∀ (k : Nat) (p0 : Val), SizeOf.sizeOf p0 < k → ∀ (p1 : Int), ∀ (p2 : Int), Qwf p0 → Q7 G (Q1dn p0 p1 p2) (Q19y p0 p1 p2)
  | 0, _, h, _, _, _ => absurd h (Nat.not_lt_zero _)
  | k + 1, p0, h, p1, p2, H => Q20i p0 p1 p2 H (fun q hq p1 p2 hH => Q1q3 k q (by omega) p1 p2 hH)
theorem Q21d (p0 : Val) (p1 : Int) (p2 : Int) (H : Qwf p0) : Q7 G (Q1dn p0 p1 p2) (Q19y p0 p1 p2) := Q1q3 _ p0 (Nat.lt_succ_self _) p1 p2 H
def Qun (p0 : Val) (p1 : Int) : Bool :=
 (decide (0 ≤ (Q92 p0 p1 p1)))
def Q1wj (p0 : Val) (p1 : Int) : En := .call 63 [.agg (Val.cells p0), .int .i64 p1] []
def Q1nr (p0 : Val) (p1 : Int) : Rs := .ret (.bool (Qun p0 p1)) []
def Q1hl (p0 : Val) (_p1 : Int) : Prop := (Qwf p0) ∧ True
theorem Q1j3 (p0 : Val) (p1 : Int) (H : Q1hl p0 p1) : Q7 G (Q1wj p0 p1) (Q1nr p0 p1) := by
 unfold Q1nr Qun
 exact Q8 (fn := Ir.K1r) rfl VOK.nil [] [aN (Q21d p0 p1 p1 H.1)] (by kernel_rfl)
def Q1qo (p0 : Bool) (p1 : Bool) : Int :=
 bif p0 then
  bif p1 then
   (-1)
  else
   (-1)
 else
  bif p1 then
   1
  else
   0
def Q1wk (p0 : Bool) (p1 : Bool) : En := .call 230 [.bool p0, .bool p1] []
def Q1ns (p0 : Bool) (p1 : Bool) : Rs := .ret (.int .i64 (Q1qo p0 p1)) []
theorem Q17l (p0 : Bool) (p1 : Bool) : Q7 G (Q1wk p0 p1) (Q1ns p0 p1) := by
 unfold Q1ns Q1qo
 cases h0 : p0 with
 | true =>
  cases h1 : p1 with
  | true =>
   exact Q8 (fn := Ir.K1t) rfl VOK.nil [] [] (by kernel_rfl)
  | false =>
   exact Q8 (fn := Ir.K1t) rfl VOK.nil [] [] (by kernel_rfl)
 | false =>
  cases h1 : p1 with
  | true =>
   exact Q8 (fn := Ir.K1t) rfl VOK.nil [] [] (by kernel_rfl)
  | false =>
   exact Q8 (fn := Ir.K1t) rfl VOK.nil [] [] (by kernel_rfl)
def Q1qm (_ : Val) : Int := 0
def Q13g (p0 : Val) : List Val → Nat → Unit
 | [], _i0 =>
  ()
 | _x0 :: r0, i0 =>
  Q13g p0 r0 (i0 + 1)
def Qvb (_p0 : Val) (i0 : Nat) : List PV :=
  [.un, .un, .bx 0 0, .bx 1 0, .un, .int .i64 0, .int .i64 (i0 : Int)] ++ nuns 162
def Qw4 (p0 : Val) (_i0 : Nat) : List Ob :=
  [⟨5, 0, true, [.int .i64 p0.kind, .int .i64 p0.n, .str p0.s, .sl (Val.rows p0.list), .sl (Fld.rows p0.fields)]⟩, ⟨5, 0, true, [.int .i64 p0.kind, .int .i64 p0.n, .str p0.s, .sl (Val.rows p0.list), .sl (Fld.rows p0.fields)]⟩]
def Qf2 (p0 : Val) (i0 : Nat) : En := .loop 0 Ir.Qj1 Ir.Q1g0 (Qvb p0 i0) (Qw4 p0 i0)
def Qnx (p0 : Val) (z : Nat → PV) (_zo : Nat → List PV) : St :=
  ⟨[z 0, z 1, .bx 0 0, .bx 1 0, z 4, .int .i64 0] ++ zr z 6 163, [(0, ⟨5, 0, true, [.int .i64 p0.kind, .int .i64 p0.n, .str p0.s, .sl (Val.rows p0.list), .sl (Fld.rows p0.fields)]⟩), (1, ⟨5, 0, true, [.int .i64 p0.kind, .int .i64 p0.n, .str p0.s, .sl (Val.rows p0.list), .sl (Fld.rows p0.fields)]⟩)], 1026⟩
def Qa3 (p0 : Val) (e : En) (_q : Unit) : Prop := ∃ z zo, Q7 G e (.st (.exit 0) (Qnx p0 z zo))
theorem Qse (p0 : Val) {e e' : En} (h : ∀ r, Q7 G e r → Q7 G e' r) : ∀ q, Qa3 p0 e q → Qa3 p0 e' q
  | _, ⟨z, zo, hz⟩ => ⟨z, zo, h _ hz⟩
def Q13h (p0 : Val) : List Fld → Nat → Unit
 | [], _i1 =>
  ()
 | _x1 :: r1, i1 =>
  Q13h p0 r1 (i1 + 1)
def Qvc (_p0 : Val) (i1 : Nat) : List PV :=
  [.un, .un, .bx 0 0, .bx 1 0, .un, .int .i64 0, .un, .int .i64 (i1 : Int)] ++ nuns 161
def Qw5 (p0 : Val) (_i1 : Nat) : List Ob :=
  [⟨5, 0, true, [.int .i64 p0.kind, .int .i64 p0.n, .str p0.s, .sl (Val.rows p0.list), .sl (Fld.rows p0.fields)]⟩, ⟨5, 0, true, [.int .i64 p0.kind, .int .i64 p0.n, .str p0.s, .sl (Val.rows p0.list), .sl (Fld.rows p0.fields)]⟩]
def Qf3 (p0 : Val) (i1 : Nat) : En := .loop 0 Ir.Qj2 Ir.Q1g1 (Qvc p0 i1) (Qw5 p0 i1)
def Qny (p0 : Val) (z : Nat → PV) (_zo : Nat → List PV) : St :=
  ⟨[z 0, z 1, .bx 0 0, .bx 1 0, z 4, .int .i64 0] ++ zr z 6 163, [(0, ⟨5, 0, true, [.int .i64 p0.kind, .int .i64 p0.n, .str p0.s, .sl (Val.rows p0.list), .sl (Fld.rows p0.fields)]⟩), (1, ⟨5, 0, true, [.int .i64 p0.kind, .int .i64 p0.n, .str p0.s, .sl (Val.rows p0.list), .sl (Fld.rows p0.fields)]⟩)], 1026⟩
def Qa4 (p0 : Val) (e : En) (_q : Unit) : Prop := ∃ z zo, Q7 G e (.st (.exit 2) (Qny p0 z zo))
theorem Qsf (p0 : Val) {e e' : En} (h : ∀ r, Q7 G e r → Q7 G e' r) : ∀ q, Qa4 p0 e q → Qa4 p0 e' q
  | _, ⟨z, zo, hz⟩ => ⟨z, zo, h _ hz⟩
theorem Q1yv (p0 : Val) : Q1qm p0 = (0) := by
  rfl
def Q1dm (p0 : Val) : En := .call 194 [.agg (Val.cells p0), .agg (Val.cells p0)] []
def Q19x (p0 : Val) : Rs := .ret (.int .i64 (Q1qm p0)) []
abbrev Qwe (p0 : Val) : Prop := Val.Sm 4611686018427387904 p0
def Qb0 (p0 : Val) : Prop := ∀ (q : Val), SizeOf.sizeOf q < SizeOf.sizeOf p0 → Qwe q → Q7 G (Q1dm q) (Q19x q)
def Qbw (p0 : Val) : Prop := (List.length p0.list ≤ 4611686018427387904) ∧ (∀ x0 ∈ p0.list, Qwe x0) ∧ True
def Qbx (p0 : Val) : Prop := (List.length p0.fields ≤ 4611686018427387904) ∧ (∀ x1 ∈ p0.fields, Qwe x1.v) ∧ True
theorem Q12z (p0 : Val) (H : Qwe p0) : (Qbw p0) ∧ (Qbx p0) ∧ True := by
  obtain ⟨h1, h2, h3, h4⟩ := H.all
  simp only [Qbw, Qbx]
  exact ⟨⟨h1, h3, trivial⟩, ⟨h2, h4, trivial⟩, trivial⟩
def Qpb (p0 : Val) (i0 : Nat) : List PV :=
  nuns 6 ++ [.int .i64 (i0 : Int)] ++ nuns 38 ++ [.int .i64 (i0 : Int), .bx 0 3, .sl (Val.rows p0.list), .int .i64 ((List.length p0.list) : Int), .bool false, .bool false, .tup [], .tup [], .tup [], .tup [], .tup [], .bool false, .bool false, .tup [], .tup [], .bool false]
def Qkh (_p0 : Val) (_i0 : Nat) : List (Nat × List PV) :=
  []
theorem Q186 (p0 : Val) (_H : Qbw p0) (_rec : Qb0 p0) (i0 : Nat) (hc0 : (decide ((i0 : Int) < ((List.length p0.list) : Int))) = false) : Qa3 p0 (Qf2 p0 i0) () := by
 exact ⟨(envF (Qpb p0 i0)), (zoF (Qkh p0 i0)), Qm VOK.nil (x := ((.exit 0), Qnx p0 (envF (Qpb p0 i0)) (zoF (Qkh p0 i0)))) [hP 3 (Q11 (Val.rows p0.list) (List.length p0.list) (Val.Q9 p0.list)), hB 0 hc0] [] (by kernel_rfl)⟩
theorem Q165 (p0 : Val) (H : Qbw p0) (rec : Qb0 p0) (x0 : Val) (i0 : Nat) (hx0 : p0.list[i0]? = some x0) (hi0 : i0 < List.length p0.list) (hc0 : (decide ((i0 : Int) < ((List.length p0.list) : Int))) = true) {r : Rs} (hr : Q7 G (Qf2 p0 (i0 + 1)) r) : Q7 G (Qf2 p0 i0) r := by
 have hB0 := H.1
 exact Ql VOK.nil (y := (Qvb p0 (i0 + 1), Qw4 p0 (i0 + 1))) [hP 3 (Q11 (Val.rows p0.list) (List.length p0.list) (Val.Q9 p0.list)), hB 0 hc0, hP 4 (Q11 (Val.rows p0.list) (List.length p0.list) (Val.Q9 p0.list)), hB 0 hc0, hP 8 (Q2s 5 (Val.rows p0.list) i0 _ (Val.Qo hx0) rfl), hP 4 (Q2s 5 (Val.rows p0.list) i0 _ (Val.Qo hx0) rfl), hP 4 (Q2g i0 (by omega))] [aN (rec x0 (szL hx0) (H.2.1 x0 (Q2l hx0)))] (by kernel_rfl) hr
theorem Qy8 (p0 : Val) (H : Qbw p0) (rec : Qb0 p0) : ∀ (r0 : List Val) (i0 : Nat), List.drop i0 p0.list = r0 → Qa3 p0 (Qf2 p0 i0) (Q13g p0 r0 i0)
 | [], i0, hd => by
  have hc0 : (decide ((i0 : Int) < ((List.length p0.list) : Int))) = false := by have := Q1m hd; simp; omega
  show Qa3 p0 _ ()
  exact Q186 p0 H rec i0 hc0
 | x0 :: r0, i0, hd => by
  obtain ⟨hx0, hi0, hd'⟩ := Q1k hd
  have hc0 : (decide ((i0 : Int) < ((List.length p0.list) : Int))) = true := by simp; omega
  show Qa3 p0 _ ()
  exact Qse p0 (fun r hr => Q165 p0 H rec x0 i0 hx0 hi0 hc0 hr) _ (Qy8 p0 H rec r0 (i0 + 1) hd')
def Qpc (p0 : Val) (i1 : Nat) : List PV :=
  nuns 7 ++ [.int .i64 (i1 : Int)] ++ nuns 83 ++ [.int .i64 (i1 : Int), .bx 0 4, .sl (Fld.rows p0.fields), .int .i64 ((List.length p0.fields) : Int), .bool false, .bool false, .tup [], .tup [], .tup [], .tup [], .tup [], .bool false, .bool false, .tup [], .tup [], .bool false]
def Qki (_p0 : Val) (_i1 : Nat) : List (Nat × List PV) :=
  []
theorem Q187 (p0 : Val) (_H : Qbx p0) (_rec : Qb0 p0) (i1 : Nat) (hc1 : (decide ((i1 : Int) < ((List.length p0.fields) : Int))) = false) : Qa4 p0 (Qf3 p0 i1) () := by
 exact ⟨(envF (Qpc p0 i1)), (zoF (Qki p0 i1)), Qm VOK.nil (x := ((.exit 2), Qny p0 (envF (Qpc p0 i1)) (zoF (Qki p0 i1)))) [hP 3 (Q11 (Fld.rows p0.fields) (List.length p0.fields) (Fld.Q9 p0.fields)), hB 0 hc1] [] (by kernel_rfl)⟩
theorem Q166 (p0 : Val) (H : Qbx p0) (rec : Qb0 p0) (x1 : Fld) (i1 : Nat) (hx1 : p0.fields[i1]? = some x1) (hi1 : i1 < List.length p0.fields) (hc1 : (decide ((i1 : Int) < ((List.length p0.fields) : Int))) = true) {r : Rs} (hr : Q7 G (Qf3 p0 (i1 + 1)) r) : Q7 G (Qf3 p0 i1) r := by
 have hB0 := H.1
 exact Ql VOK.nil (y := (Qvc p0 (i1 + 1), Qw5 p0 (i1 + 1))) [hP 3 (Q11 (Fld.rows p0.fields) (List.length p0.fields) (Fld.Q9 p0.fields)), hB 0 hc1, hP 4 (Q11 (Fld.rows p0.fields) (List.length p0.fields) (Fld.Q9 p0.fields)), hB 0 hc1, hP 8 (Q2s 6 (Fld.rows p0.fields) i1 _ (Fld.Qo hx1) rfl), hP 5 (Q2s 6 (Fld.rows p0.fields) i1 _ (Fld.Qo hx1) rfl), hP 2 (dec (sLt x1.name x1.name) false (Q1cc _)), hP 3 (Q2s 6 (Fld.rows p0.fields) i1 _ (Fld.Qo hx1) rfl), hP 5 (Q2s 6 (Fld.rows p0.fields) i1 _ (Fld.Qo hx1) rfl), hP 2 (dec (!((sLt x1.name x1.name) || (sEq x1.name x1.name))) false (by rw [(Q1qc (Q3v.2 rfl))]; rfl)), hP 7 (Q2s 6 (Fld.rows p0.fields) i1 _ (Fld.Qo hx1) rfl), hP 5 (Q2s 6 (Fld.rows p0.fields) i1 _ (Fld.Qo hx1) rfl), hP 5 (Q2g i1 (by omega))] [aN (Q17l false false), aN (rec x1.v (szF hx1) (H.2.1 x1 (Q2l hx1)))] (by kernel_rfl) hr
theorem Qy9 (p0 : Val) (H : Qbx p0) (rec : Qb0 p0) : ∀ (r1 : List Fld) (i1 : Nat), List.drop i1 p0.fields = r1 → Qa4 p0 (Qf3 p0 i1) (Q13h p0 r1 i1)
 | [], i1, hd => by
  have hc1 : (decide ((i1 : Int) < ((List.length p0.fields) : Int))) = false := by have := Q1m hd; simp; omega
  show Qa4 p0 _ ()
  exact Q187 p0 H rec i1 hc1
 | x1 :: r1, i1, hd => by
  obtain ⟨hx1, hi1, hd'⟩ := Q1k hd
  have hc1 : (decide ((i1 : Int) < ((List.length p0.fields) : Int))) = true := by simp; omega
  show Qa4 p0 _ ()
  exact Qsf p0 (fun r hr => Q166 p0 H rec x1 i1 hx1 hi1 hc1 hr) _ (Qy9 p0 H rec r1 (i1 + 1) hd')
theorem Q20h (p0 : Val) (H : Qwe p0) (rec : Qb0 p0) : Q7 G (Q1dm p0) (Q19x p0) := by
  unfold Q19x
  rw [Q1yv]
  have hl0 := Qy8 p0 ((Q12z p0 H).1) rec p0.list 0 (by simp)
  obtain ⟨z0, zo0, hl0⟩ := hl0
  have hl1 := Qy9 p0 ((Q12z p0 H).2.1) rec p0.fields 0 (by simp)
  obtain ⟨z1, zo1, hl1⟩ := hl1
  exact Q8 (fn := Ir.K1l) rfl VOK.nil [hP 7 (dec (decide (p0.kind < p0.kind)) false (decide_eq_false (Int.lt_irrefl _))), hP 4 (dec (decide (p0.kind < p0.kind)) false (decide_eq_false (Int.lt_irrefl _))), hP 8 (dec (decide (p0.n < p0.n)) false (decide_eq_false (Int.lt_irrefl _))), hP 4 (dec (decide (p0.n < p0.n)) false (decide_eq_false (Int.lt_irrefl _))), hP 8 (dec (sLt p0.s p0.s) false (Q1cc _)), hP 4 (dec (!((sLt p0.s p0.s) || (sEq p0.s p0.s))) false (by rw [(Q1qc (Q3v.2 rfl))]; rfl)), hP 7 (Q11 (Val.rows p0.list) (List.length p0.list) (Val.Q9 p0.list)), hP 2 (Q11 (Val.rows p0.list) (List.length p0.list) (Val.Q9 p0.list)), hP 0 (dec (decide (((List.length p0.list) : Int) < ((List.length p0.list) : Int))) false (decide_eq_false (Int.lt_irrefl _))), hP 2 (Q11 (Val.rows p0.list) (List.length p0.list) (Val.Q9 p0.list)), hP 2 (Q11 (Val.rows p0.list) (List.length p0.list) (Val.Q9 p0.list)), hP 0 (dec (decide (((List.length p0.list) : Int) < ((List.length p0.list) : Int))) false (decide_eq_false (Int.lt_irrefl _))), hP 7 (Q11 (Fld.rows p0.fields) (List.length p0.fields) (Fld.Q9 p0.fields)), hP 2 (Q11 (Fld.rows p0.fields) (List.length p0.fields) (Fld.Q9 p0.fields)), hP 0 (dec (decide (((List.length p0.fields) : Int) < ((List.length p0.fields) : Int))) false (decide_eq_false (Int.lt_irrefl _))), hP 2 (Q11 (Fld.rows p0.fields) (List.length p0.fields) (Fld.Q9 p0.fields)), hP 2 (Q11 (Fld.rows p0.fields) (List.length p0.fields) (Fld.Q9 p0.fields)), hP 0 (dec (decide (((List.length p0.fields) : Int) < ((List.length p0.fields) : Int))) false (decide_eq_false (Int.lt_irrefl _)))] [aN (Q17l false false), aN (Q17l false false), aN (Q17l false false), aN hl0, aN (Q17l false false), aN hl1, aN (Q17l false false)] (by kernel_rfl)
theorem Q1q2 : ∀ (k : Nat) (p0 : Val), SizeOf.sizeOf p0 < k → Qwe p0 → Q7 G (Q1dm p0) (Q19x p0)
  | 0, _, h, _ => absurd h (Nat.not_lt_zero _)
  | k + 1, p0, h, H => Q20h p0 H (fun q hq hH => Q1q2 k q (by omega) hH)
theorem Q21c (p0 : Val) (H : Qwe p0) : Q7 G (Q1dm p0) (Q19x p0) := Q1q2 _ p0 (Nat.lt_succ_self _) H
def Q1qn (_p0 : Val) : Bool :=
 true
def Q1wi (p0 : Val) : En := .call 98 [.agg (Val.cells p0), .agg (Val.cells p0)] []
def Q1nq (p0 : Val) : Rs := .ret (.bool (Q1qn p0)) []
def Q1hk (p0 : Val) : Prop := (Qwe p0) ∧ True
theorem Q1r7 (p0 : Val) (H : Q1hk p0) : Q7 G (Q1wi p0) (Q1nq p0) := by
 unfold Q1nq Q1qn
 exact Q8 (fn := Ir.K1n) rfl VOK.nil [] [aN (Q3p (c := fun y => .call 194 [.agg (Val.cells p0), .agg (Val.cells y)] []) rfl (Q21c p0 H.1))] (by kernel_rfl)
def Q13l (p0 : List ByteArray) : List ByteArray → Nat → Unit
 | [], _i0 =>
  ()
 | _x0 :: r0, i0 =>
  Q13l p0 r0 (i0 + 1)
def Qvi (p0 : List ByteArray) (i0 : Nat) : List PV :=
  [.sl (Qn p0), .sl (Qn p0), .un, .un, .un, .int .i64 (i0 : Int)] ++ nuns 20
def Qwb (_p0 : List ByteArray) (_i0 : Nat) : List Ob :=
  []
def Qf7 (p0 : List ByteArray) (i0 : Nat) : En := .loop 0 Ir.Qj8 Ir.Q1g7 (Qvi p0 i0) (Qwb p0 i0)
def Qo3 (_p0 : List ByteArray) (z : Nat → PV) (_zo : Nat → List PV) : St :=
  ⟨zr z 0 26, [], 256⟩
def Qa9 (p0 : List ByteArray) (e : En) (_q : Unit) : Prop := ∃ z zo, Q7 G e (.st (.exit 0) (Qo3 p0 z zo))
theorem Qsl (p0 : List ByteArray) {e e' : En} (h : ∀ r, Q7 G e r → Q7 G e' r) : ∀ q, Qa9 p0 e q → Qa9 p0 e' q
  | _, ⟨z, zo, hz⟩ => ⟨z, zo, h _ hz⟩
def Qg2 (p0 : List ByteArray) : Prop := (List.length p0 ≤ 4611686018427387904) ∧ True
def Qpl (p0 : List ByteArray) (i0 : Nat) : List PV :=
  [.sl (Qn p0), .sl (Qn p0), .un, .un, .un, .int .i64 (i0 : Int)] ++ nuns 5 ++ [.int .i64 (i0 : Int), .sl (Qn p0), .int .i64 ((List.length p0) : Int), .bool false]
def Qkr (_p0 : List ByteArray) (_i0 : Nat) : List (Nat × List PV) :=
  []
theorem Q18g (p0 : List ByteArray) (_H : Qg2 p0) (i0 : Nat) (hc0 : (decide ((i0 : Int) < ((List.length p0) : Int))) = false) : Qa9 p0 (Qf7 p0 i0) () := by
 exact ⟨(envF (Qpl p0 i0)), (zoF (Qkr p0 i0)), Qm VOK.nil (x := ((.exit 0), Qo3 p0 (envF (Qpl p0 i0)) (zoF (Qkr p0 i0)))) [hP 2 (Q11 (Qn p0) (List.length p0) (Q2f p0)), hB 0 hc0] [] (by kernel_rfl)⟩
theorem Q16c (p0 : List ByteArray) (H : Qg2 p0) (x0 : BA) (i0 : Nat) (hx0 : p0[i0]? = some x0) (hi0 : i0 < List.length p0) (hc0 : (decide ((i0 : Int) < ((List.length p0) : Int))) = true) {r : Rs} (hr : Q7 G (Qf7 p0 (i0 + 1)) r) : Q7 G (Qf7 p0 i0) r := by
 have hB0 := H.1
 exact Ql VOK.nil (y := (Qvi p0 (i0 + 1), Qwb p0 (i0 + 1))) [hP 2 (Q11 (Qn p0) (List.length p0) (Q2f p0)), hB 0 hc0, hP 2 (Q2s 1 (Qn p0) i0 _ (Q88 hx0) rfl), hP 3 (Q2s 1 (Qn p0) i0 _ (Q88 hx0) rfl), hP 1 (dec (!(sEq x0 x0)) false (by rw [(Q3v.2 rfl)]; rfl)), hP 1 (Q2g i0 (by omega))] [] (by kernel_rfl) hr
theorem Qyf (p0 : List ByteArray) (H : Qg2 p0) : ∀ (r0 : List ByteArray) (i0 : Nat), List.drop i0 p0 = r0 → Qa9 p0 (Qf7 p0 i0) (Q13l p0 r0 i0)
 | [], i0, hd => by
  have hc0 : (decide ((i0 : Int) < ((List.length p0) : Int))) = false := by have := Q1m hd; simp; omega
  show Qa9 p0 _ ()
  exact Q18g p0 H i0 hc0
 | x0 :: r0, i0, hd => by
  obtain ⟨hx0, hi0, hd'⟩ := Q1k hd
  have hc0 : (decide ((i0 : Int) < ((List.length p0) : Int))) = true := by simp; omega
  show Qa9 p0 _ ()
  exact Qsl p0 (fun r hr => Q16c p0 H x0 i0 hx0 hi0 hc0 hr) _ (Qyf p0 H r0 (i0 + 1) hd')
def Q1qr (_p0 : List ByteArray) : Bool :=
 true
def Q1wp (p0 : List ByteArray) : En := .call 120 [.sl (Qn p0), .sl (Qn p0)] []
def Q1nx (p0 : List ByteArray) : Rs := .ret (.bool (Q1qr p0)) []
def Q1hn (p0 : List ByteArray) : Prop := (Qg2 p0) ∧ True
theorem Q1r9 (p0 : List ByteArray) (H : Q1hn p0) : Q7 G (Q1wp p0) (Q1nx p0) := by
 unfold Q1nx Q1qr
 have hl0 := Qyf p0 (H.1) p0 0 (by simp)
 obtain ⟨z0, zo0, hl0⟩ := hl0
 exact Q8 (fn := Ir.K1z) rfl VOK.nil [hP 2 (Q11 (Qn p0) (List.length p0) (Q2f p0)), hP 1 (Q11 (Qn p0) (List.length p0) (Q2f p0)), hP 0 (dec (!(((List.length p0) : Int) == ((List.length p0) : Int))) false (by rw [(beq_self_eq_true _)]; rfl))] [aN hl0] (by kernel_rfl)
end Go.Proofs.YtimjjohlpnkacaaGreat
end

section
/- Parts of a slice of one's own, and appends of them. -/
namespace Go.Pv
def slmE (id sz n : Nat) (lo hi : Option Int) : Option Eff := (opP (fun _ => .un) (.slice sz (.c (.ms id sz 0 n)) (optI lo) (optI hi) none)).bind fun v => some ⟨v, [], []⟩
theorem Q14k (id sz n : Nat) (k : Int) (h0 : 0 ≤ k) (h1 : k ≤ (n : Int)) : slmE id sz n none (some k) = some (vE (.ms id sz 0 k.toNat)) := by
 unfold slmE
 simp only [opP, optI, Opd.ev, Q5j, asNat, Option.bind_some]
 have e0 : decide (0 ≤ k) = true := by simpa using h0
 rw [e0]
 simp only [cond_true, Option.bind_some]
 have e1 : (Nat.beq sz sz && Nat.ble 0 k.toNat && Nat.ble k.toNat n) = true := by
  rw [Nat.ble_eq_true_of_le (Nat.zero_le _), Nat.ble_eq_true_of_le (show k.toNat ≤ n by omega), Nat.beq_refl]
  rfl
 rw [e1]
 simp [vE]
theorem Q12p (id sz n : Nat) (k : Int) (h0 : 0 ≤ k) (h1 : k ≤ (n : Int)) : slmE id sz n (some k) none = some (vE (.ms id sz k.toNat (n - k.toNat))) := by
 unfold slmE
 simp only [opP, optI, Opd.ev, Q5j, asNat, Option.bind_some]
 have e0 : decide (0 ≤ k) = true := by simpa using h0
 rw [e0]
 simp only [cond_true, Option.bind_some]
 have e1 : (Nat.beq sz sz && Nat.ble k.toNat n && Nat.ble n n) = true := by
  rw [Nat.ble_eq_true_of_le (show k.toNat ≤ n by omega), Nat.ble_eq_true_of_le (Nat.le_refl n), Nat.beq_refl]
  rfl
 rw [e1]
 simp [vE]
theorem Qma {sz : Nat} {rows : List (List PV)} (hs : ∀ r ∈ rows, r.length = sz) (off len : Nat) (h : off + len ≤ rows.length) :
  (rows.flatten.drop (off * sz)).take (len * sz) = ((rows.drop off).take len).flatten ∧ Nat.ble ((off + len) * sz) rows.flatten.length = true := by
 have hs' : ∀ r ∈ rows.drop off, r.length = sz := fun r hr => hs r (List.mem_of_mem_drop hr)
 have e : ∀ (l : List (List PV)) (k : Nat), (∀ r ∈ l, r.length = sz) → l.flatten.take (k * sz) = (l.take k).flatten := by
  intro l
  induction l with
  | nil => simp
  | cons q l ih =>
   intro k hl
   cases k with
   | zero => simp
   | succ k =>
    have hq := hl q List.mem_cons_self
    rw [List.flatten_cons, List.take_succ_cons, List.flatten_cons, ← ih k (fun r hr => hl r (List.mem_cons_of_mem _ hr)), show (k + 1) * sz = q.length + k * sz by rw [hq, Nat.add_mul]; omega, List.take_length_add_append]
 refine ⟨by rw [Q9m sz rows off hs, e _ _ hs'], Nat.ble_eq_true_of_le ?_⟩
 rw [Q5l sz rows hs]
 exact Nat.mul_le_mul_right _ h
def appE (id fr sz bytes ro : Nat) (gr : Bool) (rows : List (List PV)) (off len : Nat) : Option Eff := Q4e (look [(id, ⟨sz, ro, gr, rows.flatten⟩)]) fr sz bytes (.ns sz) (.ms id sz off len)
theorem Q1dj (id fr sz bytes ro : Nat) (gr : Bool) (rows : List (List PV)) (off len : Nat) (hs : ∀ r ∈ rows, r.length = sz) (h : off + len ≤ rows.length) (h0 : len = 0) : appE id fr sz bytes ro gr rows off len = some ⟨.ns sz, [], [id]⟩ := by
 subst h0
 obtain ⟨_, h2⟩ := Qma hs off 0 h
 unfold appE Q4e
 simp only [source, look, Nat.beq_refl, cond_true, Option.bind_some, Bool.true_and]
 rw [h2]
 simp
 rfl
theorem Q1pw (id fr sz bytes ro : Nat) (gr : Bool) (rows rows' : List (List PV)) (off len n' : Nat) (hs : ∀ r ∈ rows, r.length = sz) (h : off + len ≤ rows.length) (h0 : len ≠ 0) (hr : rows' = (rows.drop off).take len) (hn : n' = len) (hb : len * bytes ≤ 140737488355328) :
  appE id fr sz bytes ro gr rows off len = some ⟨.ms fr sz 0 n', [(fr, some ⟨sz, 0, true, rows'.flatten⟩)], [id]⟩ := by
 subst hr hn
 obtain ⟨h1, h2⟩ := Qma hs off n' h
 unfold appE Q4e
 simp only [source, look, Nat.beq_refl, cond_true, Option.bind_some, Bool.true_and]
 rw [h2]
 simp only [cond_true, Option.bind_some]
 rw [Nat.ble_eq_true_of_le hb, h1]
 cases n' with
 | zero => exact absurd rfl h0
 | succ n => rfl
def Q1pu (id yid fr sz bytes ro : Nat) (cells : List PV) (yro : Nat) (ygr : Bool) (yrows : List (List PV)) (n off len : Nat) : Option Eff := Q4e (look [(id, ⟨sz, ro, true, cells⟩), (yid, ⟨sz, yro, ygr, yrows.flatten⟩)]) fr sz bytes (.ms id sz 0 n) (.ms yid sz off len)
theorem Q1a0 (id yid fr sz bytes ro : Nat) (cells : List PV) (rows0 : List (List PV)) (yro : Nat) (ygr : Bool) (yrows rows' : List (List PV)) (n off len n' : Nat) (hne : Nat.beq id yid = false) (hc : cells = rows0.flatten) (hn : n = rows0.length) (hn' : n' = rows'.length) (hr' : rows' = rows0 ++ (yrows.drop off).take len)
  (hs0 : ∀ r ∈ rows0, r.length = sz) (hs : ∀ r ∈ yrows, r.length = sz) (h : off + len ≤ yrows.length) (hb : (n + len) * bytes ≤ 140737488355328) :
  Q1pu id yid fr sz bytes ro cells yro ygr yrows n off len = some ⟨.ms fr sz 0 n', [(id, none), (fr, some ⟨sz, ro, true, rows'.flatten⟩)], [id, yid]⟩ := by
 subst hc hn hn' hr'
 obtain ⟨h1, h2⟩ := Qma hs off len h
 unfold Q1pu Q4e
 simp only [source, look, hne, Nat.beq_refl, cond_true, cond_false, Option.bind_some, Bool.true_and]
 rw [h2]
 simp only [cond_true, Option.bind_some]
 rw [Nat.ble_eq_true_of_le hb, h1, cond_true, Q1gw (ob := ⟨sz, ro, true, rows0.flatten⟩) (Q5l sz rows0 hs0)]
 have hl : ((yrows.drop off).take len).length = len := by simp; omega
 simp [hl]
end Go.Pv
end

section
/- Slices that are made with a length: their rows. -/
namespace Go.Pv
end Go.Pv
end

section
/- Rows of one's own: cleared behind a place, appended to from a place on. -/
namespace Go.Pv
theorem Val.Qul (l : List Val) (k : Nat) (x : Val) : Val.rows (l.set k x) = (Val.rows l).set k (Val.cells x) := by simp [Val.Q3r, List.map_set]
theorem Fld.Qul (l : List Fld) (k : Nat) (x : Fld) : Fld.rows (l.set k x) = (Fld.rows l).set k (Fld.cells x) := by simp [Fld.Q3r, List.map_set]
theorem Q115 {l : List (List PV)} {k : Nat} {r : List PV} (h : l[k]? = some r) : l = l.set k r := by
  apply List.ext_getElem?
  intro i
  rw [List.getElem?_set]
  by_cases e : k = i
  · subst e
    rw [if_pos rfl, h, if_pos (List.getElem?_eq_some_iff.1 h).1]
  · rw [if_neg e]
end Go.Pv
end

section
/- What copying values computes (printed by a program). -/
namespace Go.Proofs.YtimjjohlpnkacaaGreat
open Go.Pv
def Q1qs (p0 : Val) : Val := p0
def Q13m (p0 : Val) : List Val → Nat → Unit
 | [], _i0 =>
  ()
 | _x0 :: r0, i0 =>
  Q13m p0 r0 (i0 + 1)
def Qvx (p0 : Val) (i0 : Nat) : List PV :=
  [.un, .bx 0 0, .bx 1 0] ++ nuns 9 ++ [.ms 2 5 0 (List.length p0.list), .int .i64 ((List.length p0.list) : Int), .int .i64 (i0 : Int)] ++ nuns 33
abbrev eB : ByteArray := ⟨#[]⟩
def Qia (p0 : Val) (_i0 : Nat) : List Ob :=
  [⟨5, 0, true, [.int .i64 p0.kind, .int .i64 p0.n, .str p0.s, .ms 2 5 0 (List.length p0.list), .sl (Fld.rows p0.fields)]⟩, ⟨5, 0, true, [.int .i64 0, .int .i64 0, .str eB, .ms 3 5 0 0, .ms 4 6 0 0]⟩, ⟨5, 0, true, (Val.rows p0.list).flatten⟩, ⟨5, 0, true, []⟩, ⟨6, 0, true, []⟩]
def Qfj (p0 : Val) (i0 : Nat) : En := .loop 0 Ir.Qjq Ir.Q1gp (Qvx p0 i0) (Qia p0 i0)
def Qok (p0 : Val) (z : Nat → PV) (_zo : Nat → List PV) : St :=
  ⟨[z 0, .bx 0 0, .bx 1 0] ++ zr z 3 45, [(0, ⟨5, 0, true, [.int .i64 p0.kind, .int .i64 p0.n, .str p0.s, .ms 2 5 0 (List.length p0.list), .sl (Fld.rows p0.fields)]⟩), (1, ⟨5, 0, true, [.int .i64 0, .int .i64 0, .str eB, .ms 3 5 0 0, .ms 4 6 0 0]⟩), (2, ⟨5, 0, true, (Val.rows p0.list).flatten⟩), (3, ⟨5, 0, true, []⟩), (4, ⟨6, 0, true, []⟩)], 69⟩
theorem Q12c (p0 : Val) (i0 : Nat) : VOK (Go.Pv.look (number 0 (Qia p0 i0))) [(2, Val.rows p0.list)] := (VOK.cons (show Seen _ _ from Q3k (ob := ⟨5, 0, true, (Val.rows p0.list).flatten⟩) (Val.Qb p0.list 5 rfl)) VOK.nil)
def Qaa (p0 : Val) (e : En) (_q : Unit) : Prop := ∃ z zo, Q7 G e (.st (.exit 0) (Qok p0 z zo))
theorem Qt0 (p0 : Val) {e e' : En} (h : ∀ r, Q7 G e r → Q7 G e' r) : ∀ q, Qaa p0 e q → Qaa p0 e' q
  | _, ⟨z, zo, hz⟩ => ⟨z, zo, h _ hz⟩
def Q13n (p0 : Val) : List Fld → Nat → Unit
 | [], _i1 =>
  ()
 | _x1 :: r1, i1 =>
  Q13n p0 r1 (i1 + 1)
def Qvy (p0 : Val) (i1 : Nat) : List PV :=
  [.un, .bx 0 0, .bx 1 0] ++ nuns 28 ++ [.ms 2 6 0 (List.length p0.fields), .int .i64 ((List.length p0.fields) : Int), .int .i64 (i1 : Int)] ++ nuns 14
def Qib (p0 : Val) (_i1 : Nat) : List Ob :=
  [⟨5, 0, true, [.int .i64 p0.kind, .int .i64 p0.n, .str p0.s, .ms 3 5 0 (List.length p0.list), .ms 2 6 0 (List.length p0.fields)]⟩, ⟨5, 0, true, [.int .i64 0, .int .i64 0, .str eB, .ms 4 5 0 0, .ms 5 6 0 0]⟩, ⟨6, 0, true, (Fld.rows p0.fields).flatten⟩, ⟨5, 0, true, (Val.rows p0.list).flatten⟩, ⟨5, 0, true, []⟩, ⟨6, 0, true, []⟩]
def Qfk (p0 : Val) (i1 : Nat) : En := .loop 0 Ir.Qjr Ir.Q1gq (Qvy p0 i1) (Qib p0 i1)
def Qol (p0 : Val) (z : Nat → PV) (_zo : Nat → List PV) : St :=
  ⟨[z 0, .bx 0 0, .bx 1 0] ++ zr z 3 45, [(0, ⟨5, 0, true, [.int .i64 p0.kind, .int .i64 p0.n, .str p0.s, .ms 3 5 0 (List.length p0.list), .ms 2 6 0 (List.length p0.fields)]⟩), (1, ⟨5, 0, true, [.int .i64 0, .int .i64 0, .str eB, .ms 4 5 0 0, .ms 5 6 0 0]⟩), (2, ⟨6, 0, true, (Fld.rows p0.fields).flatten⟩), (3, ⟨5, 0, true, (Val.rows p0.list).flatten⟩), (4, ⟨5, 0, true, []⟩), (5, ⟨6, 0, true, []⟩)], 70⟩
theorem Q12d (p0 : Val) (i1 : Nat) : VOK (Go.Pv.look (number 0 (Qib p0 i1))) [(2, Fld.rows p0.fields), (3, Val.rows p0.list)] := (VOK.cons (show Seen _ _ from Q3k (ob := ⟨6, 0, true, (Fld.rows p0.fields).flatten⟩) (Fld.Qb p0.fields 6 rfl)) (VOK.cons (show Seen _ _ from Q3k (ob := ⟨5, 0, true, (Val.rows p0.list).flatten⟩) (Val.Qb p0.list 5 rfl)) VOK.nil))
def Qab (p0 : Val) (e : En) (_q : Unit) : Prop := ∃ z zo, Q7 G e (.st (.exit 2) (Qol p0 z zo))
theorem Qt1 (p0 : Val) {e e' : En} (h : ∀ r, Q7 G e r → Q7 G e' r) : ∀ q, Qab p0 e q → Qab p0 e' q
  | _, ⟨z, zo, hz⟩ => ⟨z, zo, h _ hz⟩
theorem Q1zi (p0 : Val) : Q1qs p0 = (p0) := by
  rfl
def Q1do (p0 : Val) : En := .call 189 [.agg (Val.cells p0)] []
def Q19z (p0 : Val) : Rs := .ret (.agg (Val.cells (Q1qs p0))) []
abbrev Qn2 (p0 : Val) : Prop := Val.Sm 1000000000 p0
def Qb1 (p0 : Val) : Prop := ∀ (q : Val), SizeOf.sizeOf q < SizeOf.sizeOf p0 → Qn2 q → Q7 G (Q1do q) (Q19z q)
def Qgc (p0 : Val) : Prop := (List.length p0.list ≤ 4611686018427387904) ∧ (∀ x0 ∈ p0.list, Qn2 x0) ∧ True
def Qgd (p0 : Val) : Prop := (List.length p0.fields ≤ 4611686018427387904) ∧ (∀ x1 ∈ p0.fields, Qn2 x1.v) ∧ True
theorem Qhe (p0 : Val) (H : Qn2 p0) : (List.length p0.list * 80 ≤ 140737488355328) ∧ (Qgc p0) ∧ (List.length p0.fields * 96 ≤ 140737488355328) ∧ (Qgd p0) ∧ True := by
  obtain ⟨h1, h2, h3, h4⟩ := H.all
  exact ⟨by omega, ⟨by omega, h3, trivial⟩, by omega, ⟨by omega, h4, trivial⟩, trivial⟩
def Qq6 (p0 : Val) (i0 : Nat) : List PV :=
  nuns 12 ++ [.ms 2 5 0 (List.length p0.list), .int .i64 ((List.length p0.list) : Int), .int .i64 (i0 : Int), .bool false]
def Qlc (_p0 : Val) (_i0 : Nat) : List (Nat × List PV) :=
  []
theorem Q191 (p0 : Val) (_H : Qgc p0) (_rec : Qb1 p0) (i0 : Nat) (hc0 : (decide ((i0 : Int) < ((List.length p0.list) : Int))) = false) : Qaa p0 (Qfj p0 i0) () := by
 exact ⟨(envF (Qq6 p0 i0)), (zoF (Qlc p0 i0)), Qm (Q12c p0 i0) (x := ((.exit 0), Qok p0 (envF (Qq6 p0 i0)) (zoF (Qlc p0 i0)))) [hB 0 hc0] [] (by kernel_rfl)⟩
theorem Q16w (p0 : Val) (H : Qgc p0) (rec : Qb1 p0) (x0 : Val) (i0 : Nat) (hx0 : p0.list[i0]? = some x0) (hi0 : i0 < List.length p0.list) (hc0 : (decide ((i0 : Int) < ((List.length p0.list) : Int))) = true) {r : Rs} (hr : Q7 G (Qfj p0 (i0 + 1)) r) : Q7 G (Qfj p0 i0) r := by
 have hB0 := H.1
 exact Ql (Q12c p0 i0) (y := (Qvx p0 (i0 + 1), Qia p0 (i0 + 1))) [hB 0 hc0, hP 1 (Q4n 2 5 (List.length p0.list) (i0 : Int) i0 (by omega) (by omega) (by omega)), hP 0 (Qan 2 5 0 true ((Val.rows p0.list).flatten) (Val.rows p0.list) 5 true i0 0 (i0 * 5) (Val.cells x0) (.agg [.int .i64 x0.kind, .int .i64 x0.n, .str x0.s, .sl (Val.rows x0.list), .sl (Fld.rows x0.fields)]) rfl rfl (Val.Qo hx0) (Val.Qu p0.list) (by decide) rfl), hP 8 (Q4n 2 5 (List.length p0.list) (i0 : Int) i0 (by omega) (by omega) (by omega)), hV 0 [(2, Val.rows p0.list)] (Q1cq 2 5 true ((Val.rows p0.list).flatten) (Val.rows p0.list) (Val.rows p0.list) 5 i0 0 (i0 * 5) _ (.agg [.int .i64 x0.kind, .int .i64 x0.n, .str x0.s, .sl (Val.rows x0.list), .sl (Fld.rows x0.fields)]) rfl rfl (Val.Qo hx0) (Val.Qu p0.list) (by decide) rfl rfl (Q115 (Val.Qo hx0))), hS 0 true (Val.Qb p0.list 5 rfl), hP 0 (Q2g i0 (by omega))] [aN (rec x0 (szL hx0) (H.2.1 x0 (Q2l hx0)))] (by kernel_rfl) hr
theorem Qyu (p0 : Val) (H : Qgc p0) (rec : Qb1 p0) : ∀ (r0 : List Val) (i0 : Nat), List.drop i0 p0.list = r0 → Qaa p0 (Qfj p0 i0) (Q13m p0 r0 i0)
 | [], i0, hd => by
  have hc0 : (decide ((i0 : Int) < ((List.length p0.list) : Int))) = false := by have := Q1m hd; simp; omega
  show Qaa p0 _ ()
  exact Q191 p0 H rec i0 hc0
 | x0 :: r0, i0, hd => by
  obtain ⟨hx0, hi0, hd'⟩ := Q1k hd
  have hc0 : (decide ((i0 : Int) < ((List.length p0.list) : Int))) = true := by simp; omega
  show Qaa p0 _ ()
  exact Qt0 p0 (fun r hr => Q16w p0 H rec x0 i0 hx0 hi0 hc0 hr) _ (Qyu p0 H rec r0 (i0 + 1) hd')
def Qq7 (p0 : Val) (i1 : Nat) : List PV :=
  nuns 31 ++ [.ms 2 6 0 (List.length p0.fields), .int .i64 ((List.length p0.fields) : Int), .int .i64 (i1 : Int), .bool false]
def Qld (_p0 : Val) (_i1 : Nat) : List (Nat × List PV) :=
  []
theorem Q192 (p0 : Val) (_H : Qgd p0) (_rec : Qb1 p0) (i1 : Nat) (hc1 : (decide ((i1 : Int) < ((List.length p0.fields) : Int))) = false) : Qab p0 (Qfk p0 i1) () := by
 exact ⟨(envF (Qq7 p0 i1)), (zoF (Qld p0 i1)), Qm (Q12d p0 i1) (x := ((.exit 2), Qol p0 (envF (Qq7 p0 i1)) (zoF (Qld p0 i1)))) [hB 0 hc1] [] (by kernel_rfl)⟩
theorem Q16x (p0 : Val) (H : Qgd p0) (rec : Qb1 p0) (x1 : Fld) (i1 : Nat) (hx1 : p0.fields[i1]? = some x1) (hi1 : i1 < List.length p0.fields) (hc1 : (decide ((i1 : Int) < ((List.length p0.fields) : Int))) = true) {r : Rs} (hr : Q7 G (Qfk p0 (i1 + 1)) r) : Q7 G (Qfk p0 i1) r := by
 have hB0 := H.1
 exact Ql (Q12d p0 i1) (y := (Qvy p0 (i1 + 1), Qib p0 (i1 + 1))) [hB 0 hc1, hP 1 (Q4n 2 6 (List.length p0.fields) (i1 : Int) i1 (by omega) (by omega) (by omega)), hP 0 (Qan 2 6 0 true ((Fld.rows p0.fields).flatten) (Fld.rows p0.fields) 6 true i1 0 (i1 * 6) (Fld.cells x1) (.agg [.str x1.name, .int .i64 x1.v.kind, .int .i64 x1.v.n, .str x1.v.s, .sl (Val.rows x1.v.list), .sl (Fld.rows x1.v.fields)]) rfl rfl (Fld.Qo hx1) (Fld.Qu p0.fields) (by decide) rfl), hP 9 (Q4n 2 6 (List.length p0.fields) (i1 : Int) i1 (by omega) (by omega) (by omega)), hV 1 [(2, Fld.rows p0.fields)] (Q1cq 2 6 true ((Fld.rows p0.fields).flatten) (Fld.rows p0.fields) (Fld.rows p0.fields) 5 i1 1 (i1 * 6 + 1) _ (.agg [.int .i64 x1.v.kind, .int .i64 x1.v.n, .str x1.v.s, .sl (Val.rows x1.v.list), .sl (Fld.rows x1.v.fields)]) rfl rfl (Fld.Qo hx1) (Fld.Qu p0.fields) (by decide) rfl rfl (Q115 (Fld.Qo hx1))), hS 0 true (Fld.Qb p0.fields 6 rfl), hP 0 (Q2g i1 (by omega))] [aN (rec x1.v (szF hx1) (H.2.1 x1 (Q2l hx1)))] (by kernel_rfl) hr
theorem Qyv (p0 : Val) (H : Qgd p0) (rec : Qb1 p0) : ∀ (r1 : List Fld) (i1 : Nat), List.drop i1 p0.fields = r1 → Qab p0 (Qfk p0 i1) (Q13n p0 r1 i1)
 | [], i1, hd => by
  have hc1 : (decide ((i1 : Int) < ((List.length p0.fields) : Int))) = false := by have := Q1m hd; simp; omega
  show Qab p0 _ ()
  exact Q192 p0 H rec i1 hc1
 | x1 :: r1, i1, hd => by
  obtain ⟨hx1, hi1, hd'⟩ := Q1k hd
  have hc1 : (decide ((i1 : Int) < ((List.length p0.fields) : Int))) = true := by simp; omega
  show Qab p0 _ ()
  exact Qt1 p0 (fun r hr => Q16x p0 H rec x1 i1 hx1 hi1 hc1 hr) _ (Qyv p0 H rec r1 (i1 + 1) hd')
theorem Q20j (p0 : Val) (H : Qn2 p0) (rec : Qb1 p0) : Q7 G (Q1do p0) (Q19z p0) := by
  unfold Q19z
  rw [Q1zi]
  have hl0 := Qyu p0 ((Qhe p0 H).2.1) rec p0.list 0 (by simp)
  obtain ⟨z0, zo0, hl0⟩ := hl0
  have hl1 := Qyv p0 ((Qhe p0 H).2.2.2.1) rec p0.fields 0 (by simp)
  obtain ⟨z1, zo1, hl1⟩ := hl1
  exact Q8 (fn := Ir.K53) rfl VOK.nil [hQ (Val.Qb p0.list 5 rfl), hS 0 true (Val.Qb p0.list 5 rfl), hQ (Fld.Qb p0.fields 6 rfl), hS 0 true (Fld.Qb p0.fields 6 rfl), hS 0 true (Val.Qb p0.list 5 rfl), hQ (Val.Q9 p0.list).symm, hQ (Fld.Q9 p0.fields).symm] [aV [(0, Val.rows p0.list)] (Q8x (G := G) (f := 222) (sz := 5) (bytes := 80) rfl (Val.Q9 p0.list) (Val.Qb p0.list 5 rfl) (Qhe p0 H).1), aV [(2, Val.rows p0.list)] hl0, aV [(0, Fld.rows p0.fields)] (Q8x (G := G) (f := 185) (sz := 6) (bytes := 96) rfl (Fld.Q9 p0.fields) (Fld.Qb p0.fields 6 rfl) (Qhe p0 H).2.2.1), aV [(2, Fld.rows p0.fields), (3, Val.rows p0.list)] hl1] (by kernel_rfl)
theorem Q1q4 : ∀ (k : Nat) (p0 : Val), SizeOf.sizeOf p0 < k → Qn2 p0 → Q7 G (Q1do p0) (Q19z p0)
  | 0, _, h, _ => absurd h (Nat.not_lt_zero _)
  | k + 1, p0, h, H => Q20j p0 H (fun q hq hH => Q1q4 k q (by omega) hH)
theorem Q1j8 (p0 : Val) (H : Qn2 p0) : Q7 G (Q1do p0) (Q19z p0) := Q1q4 _ p0 (Nat.lt_succ_self _) H
inductive Q11q where
  | k0
  | k1 (q0 : Val)
def Q79 (p0 : Val) (p1 : BA) : List Fld → Nat → Q11q
 | [], _i0 =>
  (.k0)
 | x0 :: r0, i0 =>
  bif (sEq x0.name p1) then
   (.k1 x0.v)
  else
   Q79 p0 p1 r0 (i0 + 1)
def Qvw (p0 : Val) (p1 : BA) (i0 : Nat) : List PV :=
  [.un, .str p1, .un, .un, .bx 0 0] ++ nuns 7 ++ [.sl (Fld.rows p0.fields), .int .i64 ((List.length p0.fields) : Int), .int .i64 (i0 : Int)] ++ nuns 12
def Qwd (_p0 : Val) (_p1 : BA) (_i0 : Nat) : List Ob :=
  [⟨5, 0, true, [.int .i64 0, .int .i64 0, .str eB, .ms 1 5 0 0, .ms 2 6 0 0]⟩, ⟨5, 0, true, []⟩, ⟨6, 0, true, []⟩]
def Qbs (p0 : Val) (p1 : BA) (i0 : Nat) : En := .loop 0 Ir.Qjo Ir.Q1gn (Qvw p0 p1 i0) (Qwd p0 p1 i0)
def Qoh (_p0 : Val) (_p1 : BA) (z : Nat → PV) (_zo : Nat → List PV) : St :=
  ⟨[z 0, z 1, z 2, z 3, .bx 0 0] ++ zr z 5 22, [(0, ⟨5, 0, true, [.int .i64 0, .int .i64 0, .str eB, .ms 1 5 0 0, .ms 2 6 0 0]⟩), (1, ⟨5, 0, true, []⟩), (2, ⟨6, 0, true, []⟩)], 67⟩
def Qoi (_p0 : Val) (_p1 : BA) (q0 : Val) (z : Nat → PV) (zo : Nat → List PV) : St :=
  ⟨[z 0, z 1, z 2, z 3, .bx 0 0, .bool true] ++ zr z 6 21, [(0, ⟨5, 0, true, [.int .i64 q0.kind, .int .i64 q0.n, .str q0.s, .sl (Val.rows q0.list), .sl (Fld.rows q0.fields)]⟩), (1, ⟨5, 0, true, zo 1⟩), (2, ⟨6, 0, true, zo 2⟩), (195, ⟨6, 0, true, zo 195⟩)], 899⟩
def Qc8 (p0 : Val) (p1 : BA) (e : En) : Q11q → Prop
  | .k0 => ∃ z zo, Q7 G e (.st (.exit 0) (Qoh p0 p1 z zo))
  | .k1 q0 => ∃ z zo, Q7 G e (.st .ret (Qoi p0 p1 q0 z zo))
theorem Qsz (p0 : Val) (p1 : BA) {e e' : En} (h : ∀ r, Q7 G e r → Q7 G e' r) : ∀ q, Qc8 p0 p1 e q → Qc8 p0 p1 e' q
  | .k0, ⟨z, zo, hz⟩ => ⟨z, zo, h _ hz⟩
  | .k1 _, ⟨z, zo, hz⟩ => ⟨z, zo, h _ hz⟩
def Qbz (p0 : Val) (_p1 : BA) : Prop := (List.length p0.fields ≤ 4611686018427387904) ∧ (∀ x0 ∈ p0.fields, Qn2 x0.v) ∧ True
def Qq3 (p0 : Val) (p1 : BA) (i0 : Nat) : List PV :=
  [.un, .str p1] ++ nuns 10 ++ [.sl (Fld.rows p0.fields), .int .i64 ((List.length p0.fields) : Int), .int .i64 (i0 : Int), .bool false]
def Ql9 (_p0 : Val) (_p1 : BA) (_i0 : Nat) : List (Nat × List PV) :=
  []
theorem Q18y (p0 : Val) (p1 : BA) (_H : Qbz p0 p1) (i0 : Nat) (hc0 : (decide ((i0 : Int) < ((List.length p0.fields) : Int))) = false) : Qc8 p0 p1 (Qbs p0 p1 i0) (.k0) := by
 exact ⟨(envF (Qq3 p0 p1 i0)), (zoF (Ql9 p0 p1 i0)), Qm VOK.nil (x := ((.exit 0), Qoh p0 p1 (envF (Qq3 p0 p1 i0)) (zoF (Ql9 p0 p1 i0)))) [hB 0 hc0] [] (by kernel_rfl)⟩
def Qq4 (p0 : Val) (p1 : BA) (i0 : Nat) (x0 : Fld) : List PV :=
  [.un, .str p1] ++ nuns 5 ++ [.bx 195 0, .un, .un, .un, .un, .sl (Fld.rows p0.fields), .int .i64 ((List.length p0.fields) : Int), .int .i64 (i0 : Int), .bool true, .rf [.str x0.name, .int .i64 x0.v.kind, .int .i64 x0.v.n, .str x0.v.s, .sl (Val.rows x0.v.list), .sl (Fld.rows x0.v.fields)], .agg [.str x0.name, .int .i64 x0.v.kind, .int .i64 x0.v.n, .str x0.v.s, .sl (Val.rows x0.v.list), .sl (Fld.rows x0.v.fields)], .bx 195 0, .str x0.name, .str p1, .bool true, .bx 195 1, .agg [.int .i64 x0.v.kind, .int .i64 x0.v.n, .str x0.v.s, .sl (Val.rows x0.v.list), .sl (Fld.rows x0.v.fields)], .agg [.int .i64 x0.v.kind, .int .i64 x0.v.n, .str x0.v.s, .sl (Val.rows x0.v.list), .sl (Fld.rows x0.v.fields)]]
def Qla (_p0 : Val) (_p1 : BA) (_i0 : Nat) (x0 : Fld) : List (Nat × List PV) :=
  [(1, []), (2, []), (195, [.str x0.name, .int .i64 x0.v.kind, .int .i64 x0.v.n, .str x0.v.s, .sl (Val.rows x0.v.list), .sl (Fld.rows x0.v.fields)])]
theorem Q18z (p0 : Val) (p1 : BA) (H : Qbz p0 p1) (x0 : Fld) (i0 : Nat) (hx0 : p0.fields[i0]? = some x0) (_hi0 : i0 < List.length p0.fields) (hc0 : (decide ((i0 : Int) < ((List.length p0.fields) : Int))) = true) (h0 : (sEq x0.name p1) = true) : Qc8 p0 p1 (Qbs p0 p1 i0) (.k1 x0.v) := by
 exact ⟨(envF (Qq4 p0 p1 i0 x0)), (zoF (Qla p0 p1 i0 x0)), Qm VOK.nil (x := (.ret, Qoi p0 p1 x0.v (envF (Qq4 p0 p1 i0 x0)) (zoF (Qla p0 p1 i0 x0)))) [hB 0 hc0, hP 0 (Q2s 6 (Fld.rows p0.fields) i0 _ (Fld.Qo hx0) rfl), hB 6 h0] [aN (Q1j8 x0.v (H.2.1 x0 (Q2l hx0)))] (by kernel_rfl)⟩
theorem Q16s (p0 : Val) (p1 : BA) (H : Qbz p0 p1) (x0 : Fld) (i0 : Nat) (hx0 : p0.fields[i0]? = some x0) (hi0 : i0 < List.length p0.fields) (hc0 : (decide ((i0 : Int) < ((List.length p0.fields) : Int))) = true) (h0 : (sEq x0.name p1) = false) {r : Rs} (hr : Q7 G (Qbs p0 p1 (i0 + 1)) r) : Q7 G (Qbs p0 p1 i0) r := by
 have hB0 := H.1
 exact Ql VOK.nil (y := (Qvw p0 p1 (i0 + 1), Qwd p0 p1 (i0 + 1))) [hB 0 hc0, hP 0 (Q2s 6 (Fld.rows p0.fields) i0 _ (Fld.Qo hx0) rfl), hB 6 h0, hP 0 (Q2g i0 (by omega))] [] (by kernel_rfl) hr
theorem Qyt (p0 : Val) (p1 : BA) (H : Qbz p0 p1) : ∀ (r0 : List Fld) (i0 : Nat), List.drop i0 p0.fields = r0 → Qc8 p0 p1 (Qbs p0 p1 i0) (Q79 p0 p1 r0 i0)
 | [], i0, hd => by
  have hc0 : (decide ((i0 : Int) < ((List.length p0.fields) : Int))) = false := by have := Q1m hd; simp; omega
  rw [Q79]
  exact Q18y p0 p1 H i0 hc0
 | x0 :: r0, i0, hd => by
  obtain ⟨hx0, hi0, hd'⟩ := Q1k hd
  have hc0 : (decide ((i0 : Int) < ((List.length p0.fields) : Int))) = true := by simp; omega
  rw [Q79]
  cases h0 : (sEq x0.name p1) with
  | true =>
   exact Q18z p0 p1 H x0 i0 hx0 hi0 hc0 h0
  | false =>
   exact Qsz p0 p1 (fun r hr => Q16s p0 p1 H x0 i0 hx0 hi0 hc0 h0 hr) _ (Qyt p0 p1 H r0 (i0 + 1) hd')
def Qn8 (p0 : Val) (p1 : BA) : Val × Bool :=
 bif (p0.kind == 5) then
  (match (Q79 p0 p1 p0.fields 0) with
  | .k0 => ((Val.mk 0 0 eB [] []), false)
  | .k1 y1_0 => (y1_0, true))
 else
  ((Val.mk 0 0 eB [] []), false)
def Q1xg (p0 : Val) (p1 : BA) : En := .call 184 [.agg (Val.cells p0), .str p1] []
def Q1op (p0 : Val) (p1 : BA) : Rs := .ret (.tup [.agg (Val.cells (Qn8 p0 p1).1), .bool (Qn8 p0 p1).2]) []
def Q1d9 (p0 : Val) (p1 : BA) : Prop := (Qbz p0 p1) ∧ True
theorem Q1fg (p0 : Val) (p1 : BA) (H : Q1d9 p0 p1) : Q7 G (Q1xg p0 p1) (Q1op p0 p1) := by
 unfold Q1op Qn8
 cases h0 : (p0.kind == 5) with
 | true =>
  have hl1 := Qyt p0 p1 (H.1) p0.fields 0 (by simp)
  cases hr1 : (Q79 p0 p1 p0.fields 0) with
  | k0 =>
   rw [hr1] at hl1
   obtain ⟨z1, zo1, hl1⟩ := hl1
   exact Q8 (fn := Ir.K4x) rfl VOK.nil [hB 5 h0, hP 2 (Q11 (Fld.rows p0.fields) (List.length p0.fields) (Fld.Q9 p0.fields))] [aN hl1] (by kernel_rfl)
  | k1 y1_0 =>
   rw [hr1] at hl1
   obtain ⟨z1, zo1, hl1⟩ := hl1
   exact Q8 (fn := Ir.K4x) rfl VOK.nil [hB 5 h0, hP 2 (Q11 (Fld.rows p0.fields) (List.length p0.fields) (Fld.Q9 p0.fields))] [aN hl1] (by kernel_rfl)
 | false =>
  exact Q8 (fn := Ir.K4x) rfl VOK.nil [hB 5 h0] [] (by kernel_rfl)
def Qmm (p0 : List Val) : Val :=
 (Val.mk 4 0 eB p0 [])
def Q1xi (p0 : List Val) : En := .call 256 [.sl (Val.rows p0)] []
def Q1or (p0 : List Val) : Rs := .ret (.agg (Val.cells (Qmm p0))) []
def Qn1 (p0 : List Val) : Prop := (Qn2 (Val.mk 4 0 eB p0 [])) ∧ True
theorem Qus (p0 : List Val) (H : Qn1 p0) : Q7 G (Q1xi p0) (Q1or p0) := by
 unfold Q1or Qmm
 exact Q8 (fn := Ir.K4z) rfl VOK.nil [] [aN (Q1j8 (Val.mk 4 0 eB p0 []) H.1)] (by kernel_rfl)
end Go.Proofs.YtimjjohlpnkacaaGreat
end

section
/- What building a map computes (printed by a program). -/
namespace Go.Proofs.YtimjjohlpnkacaaGreat
open Go.Pv
def Q1iu (p0 : BA) (p1 : BA) : Int :=
 (sCmp p0 p1)
def Q1xe (p0 : BA) (p1 : BA) : En := .call 188 [.str p0, .str p1] []
def Q1on (p0 : BA) (p1 : BA) : Rs := .ret (.int .i64 (Q1iu p0 p1)) []
theorem Q21s (p0 : BA) (p1 : BA) : Q7 G (Q1xe p0 p1) (Q1on p0 p1) := by
 unfold Q1on Q1iu
 exact Q8 (fn := Ir.K4v) rfl VOK.nil [] [aN (Q1fo p0 p1)] (by kernel_rfl)
def Qzi (p0 : Fld) (p1 : Fld) : Int :=
 (Q1iu p0.name p1.name)
def Q1xj (p0 : Fld) (p1 : Fld) : En := .call 187 [.agg (Fld.cells p0), .agg (Fld.cells p1)] []
def Q1ot (p0 : Fld) (p1 : Fld) : Rs := .ret (.int .i64 (Qzi p0 p1)) []
theorem Q1rb (p0 : Fld) (p1 : Fld) : Q7 G (Q1xj p0 p1) (Q1ot p0 p1) := by
 unfold Q1ot Qzi
 exact Q8 (fn := Ir.K51) rfl VOK.nil [] [aN (Q21s p0.name p1.name)] (by kernel_rfl)
abbrev zF : Fld := (Fld.mk eB (Val.mk 0 0 eB [] []))
def Q3m (n0 : Nat) (p1 : Int) (p2 : Int) (v0_0 : Int) : Nat → (List Fld) → Int → List Fld
 | 0, v1_0, _v1_1 => v1_0
 | k1 + 1, v1_0, v1_1 =>
  bif (decide (p1 < v1_1)) then
   bif (decide ((Qzi (List.getD v1_0 (Int.toNat v1_1) zF) (List.getD v1_0 (Int.toNat (v1_1 - 1)) zF)) < 0)) then
    Q3m n0 p1 p2 v0_0 k1 (List.set (List.set v1_0 (Int.toNat v1_1) (List.getD v1_0 (Int.toNat (v1_1 - 1)) zF)) (Int.toNat (v1_1 - 1)) (List.getD v1_0 (Int.toNat v1_1) zF)) (v1_1 - 1)
   else
    v1_0
  else
   v1_0
def Qvu (n0 : Nat) (p1 : Int) (p2 : Int) (v0_0 : Int) (_v1_0 : List Fld) (v1_1 : Int) : List PV :=
  [.ms 0 6 0 n0, .int .i64 p1, .int .i64 p2, .fn 187 [] [], .un, .un, .un, .un, .int .i64 v0_0, .int .i64 v1_1] ++ nuns 43
def Qi8 (_n0 : Nat) (_p1 : Int) (_p2 : Int) (_v0_0 : Int) (v1_0 : List Fld) (_v1_1 : Int) : List Ob :=
  [⟨6, 0, false, (Fld.rows v1_0).flatten⟩]
def Qa0 (n0 : Nat) (p1 : Int) (p2 : Int) (v0_0 : Int) (v1_0 : List Fld) (v1_1 : Int) : En := .loop 1 Ir.Qjl Ir.Q1gk (Qvu n0 p1 p2 v0_0 v1_0 v1_1) (Qi8 n0 p1 p2 v0_0 v1_0 v1_1)
def Qad (n0 : Nat) (p1 : Int) (p2 : Int) (v0_0 : Int) (q0 : List Fld) (z : Nat → PV) (_zo : Nat → List PV) : St :=
  ⟨[.ms 0 6 0 n0, .int .i64 p1, .int .i64 p2, .fn 187 [] [], z 4, z 5, z 6, z 7, .int .i64 v0_0] ++ zr z 9 44, [(0, ⟨6, 0, false, (Fld.rows q0).flatten⟩)], 1089⟩
theorem Qtk (n0 : Nat) (p1 : Int) (p2 : Int) (v0_0 : Int) (v1_0 : List Fld) (v1_1 : Int) : VOK (Go.Pv.look (number 0 (Qi8 n0 p1 p2 v0_0 v1_0 v1_1))) [(0, Fld.rows v1_0)] := (VOK.cons (show Seen _ _ from Q3k (ob := ⟨6, 0, false, (Fld.rows v1_0).flatten⟩) (Fld.Qb v1_0 6 rfl)) VOK.nil)
def Qc7 (n0 : Nat) (p1 : Int) (p2 : Int) (v0_0 : Int) (e : En) (q : List Fld) : Prop := ∃ z zo, Q7 G e (.st (.exit 2) (Qad n0 p1 p2 v0_0 q z zo))
theorem Qsx (n0 : Nat) (p1 : Int) (p2 : Int) (v0_0 : Int) {e e' : En} (h : ∀ r, Q7 G e r → Q7 G e' r) : ∀ q, Qc7 n0 p1 p2 v0_0 e q → Qc7 n0 p1 p2 v0_0 e' q
  | _, ⟨z, zo, hz⟩ => ⟨z, zo, h _ hz⟩
theorem Q16q (n0 : Nat) (p1 : Int) (p2 : Int) (v0_0 : Int) (v1_0 : List Fld) (v1_1 : Int) (ho1_0 : 0 ≤ p1) (_ho1_1 : p1 ≤ v1_1) (ho1_2 : v1_1 < n0) (ho1_3 : (n0 : Int) ≤ 20) (ho1_4 : List.length v1_0 = n0) (h0 : (decide (p1 < v1_1)) = true) (h1 : (decide ((Qzi (List.getD v1_0 (Int.toNat v1_1) zF) (List.getD v1_0 (Int.toNat (v1_1 - 1)) zF)) < 0)) = true) {r : Rs} (hr : Q7 G (Qa0 n0 p1 p2 v0_0 (List.set (List.set v1_0 (Int.toNat v1_1) (List.getD v1_0 (Int.toNat (v1_1 - 1)) zF)) (Int.toNat (v1_1 - 1)) (List.getD v1_0 (Int.toNat v1_1) zF)) (v1_1 - 1)) r) : Q7 G (Qa0 n0 p1 p2 v0_0 v1_0 v1_1) r := by
 have e0 := of_decide_eq_true h0; have e1 := of_decide_eq_true h1
 exact Ql (Qtk n0 p1 p2 v0_0 v1_0 v1_1) (y := (Qvu n0 p1 p2 v0_0 (List.set (List.set v1_0 (Int.toNat v1_1) (List.getD v1_0 (Int.toNat (v1_1 - 1)) zF)) (Int.toNat (v1_1 - 1)) (List.getD v1_0 (Int.toNat v1_1) zF)) (v1_1 - 1), Qi8 n0 p1 p2 v0_0 (List.set (List.set v1_0 (Int.toNat v1_1) (List.getD v1_0 (Int.toNat (v1_1 - 1)) zF)) (Int.toNat (v1_1 - 1)) (List.getD v1_0 (Int.toNat v1_1) zF)) (v1_1 - 1))) [hB 2 h0, hP 4 (Q4n 0 6 n0 v1_1 (Int.toNat v1_1) rfl (by omega) (by omega)), hP 0 (Qan 0 6 0 false ((Fld.rows v1_0).flatten) (Fld.rows v1_0) 6 true (Int.toNat v1_1) 0 ((Int.toNat v1_1) * 6) (Fld.cells (List.getD v1_0 (Int.toNat v1_1) zF)) (.agg [.str (List.getD v1_0 (Int.toNat v1_1) zF).name, .int .i64 (List.getD v1_0 (Int.toNat v1_1) zF).v.kind, .int .i64 (List.getD v1_0 (Int.toNat v1_1) zF).v.n, .str (List.getD v1_0 (Int.toNat v1_1) zF).v.s, .sl (Val.rows (List.getD v1_0 (Int.toNat v1_1) zF).v.list), .sl (Fld.rows (List.getD v1_0 (Int.toNat v1_1) zF).v.fields)]) rfl rfl (Fld.Qo (Q4u v1_0 (Int.toNat v1_1) zF (by omega))) (Fld.Qu v1_0) (by decide) rfl), hP 2 (w_ok (v1_1 - 1) (by omega)), hP 0 (Q4n 0 6 n0 (v1_1 - 1) (Int.toNat (v1_1 - 1)) rfl (by omega) (by omega)), hP 0 (Qan 0 6 0 false ((Fld.rows v1_0).flatten) (Fld.rows v1_0) 6 true (Int.toNat (v1_1 - 1)) 0 ((Int.toNat (v1_1 - 1)) * 6) (Fld.cells (List.getD v1_0 (Int.toNat (v1_1 - 1)) zF)) (.agg [.str (List.getD v1_0 (Int.toNat (v1_1 - 1)) zF).name, .int .i64 (List.getD v1_0 (Int.toNat (v1_1 - 1)) zF).v.kind, .int .i64 (List.getD v1_0 (Int.toNat (v1_1 - 1)) zF).v.n, .str (List.getD v1_0 (Int.toNat (v1_1 - 1)) zF).v.s, .sl (Val.rows (List.getD v1_0 (Int.toNat (v1_1 - 1)) zF).v.list), .sl (Fld.rows (List.getD v1_0 (Int.toNat (v1_1 - 1)) zF).v.fields)]) rfl rfl (Fld.Qo (Q4u v1_0 (Int.toNat (v1_1 - 1)) zF (by omega))) (Fld.Qu v1_0) (by decide) rfl), hB 1 h1, hP 5 (w_ok (v1_1 - 1) (by omega)), hP 2 (w_ok (v1_1 - 1) (by omega)), hP 0 (Q4n 0 6 n0 (v1_1 - 1) (Int.toNat (v1_1 - 1)) rfl (by omega) (by omega)), hP 0 (Qan 0 6 0 false ((Fld.rows v1_0).flatten) (Fld.rows v1_0) 6 true (Int.toNat (v1_1 - 1)) 0 ((Int.toNat (v1_1 - 1)) * 6) (Fld.cells (List.getD v1_0 (Int.toNat (v1_1 - 1)) zF)) (.agg [.str (List.getD v1_0 (Int.toNat (v1_1 - 1)) zF).name, .int .i64 (List.getD v1_0 (Int.toNat (v1_1 - 1)) zF).v.kind, .int .i64 (List.getD v1_0 (Int.toNat (v1_1 - 1)) zF).v.n, .str (List.getD v1_0 (Int.toNat (v1_1 - 1)) zF).v.s, .sl (Val.rows (List.getD v1_0 (Int.toNat (v1_1 - 1)) zF).v.list), .sl (Fld.rows (List.getD v1_0 (Int.toNat (v1_1 - 1)) zF).v.fields)]) rfl rfl (Fld.Qo (Q4u v1_0 (Int.toNat (v1_1 - 1)) zF (by omega))) (Fld.Qu v1_0) (by decide) rfl), hP 2 (Q4n 0 6 n0 v1_1 (Int.toNat v1_1) rfl (by omega) (by omega)), hP 0 (Qan 0 6 0 false ((Fld.rows v1_0).flatten) (Fld.rows v1_0) 6 true (Int.toNat v1_1) 0 ((Int.toNat v1_1) * 6) (Fld.cells (List.getD v1_0 (Int.toNat v1_1) zF)) (.agg [.str (List.getD v1_0 (Int.toNat v1_1) zF).name, .int .i64 (List.getD v1_0 (Int.toNat v1_1) zF).v.kind, .int .i64 (List.getD v1_0 (Int.toNat v1_1) zF).v.n, .str (List.getD v1_0 (Int.toNat v1_1) zF).v.s, .sl (Val.rows (List.getD v1_0 (Int.toNat v1_1) zF).v.list), .sl (Fld.rows (List.getD v1_0 (Int.toNat v1_1) zF).v.fields)]) rfl rfl (Fld.Qo (Q4u v1_0 (Int.toNat v1_1) zF (by omega))) (Fld.Qu v1_0) (by decide) rfl), hP 0 (Q4n 0 6 n0 v1_1 (Int.toNat v1_1) rfl (by omega) (by omega)), hV 0 [(0, Fld.rows (List.set v1_0 (Int.toNat v1_1) (List.getD v1_0 (Int.toNat (v1_1 - 1)) zF)))] (Q1cq 0 6 false ((Fld.rows v1_0).flatten) (Fld.rows v1_0) (Fld.rows (List.set v1_0 (Int.toNat v1_1) (List.getD v1_0 (Int.toNat (v1_1 - 1)) zF))) 6 (Int.toNat v1_1) 0 ((Int.toNat v1_1) * 6) _ (.agg [.str (List.getD v1_0 (Int.toNat (v1_1 - 1)) zF).name, .int .i64 (List.getD v1_0 (Int.toNat (v1_1 - 1)) zF).v.kind, .int .i64 (List.getD v1_0 (Int.toNat (v1_1 - 1)) zF).v.n, .str (List.getD v1_0 (Int.toNat (v1_1 - 1)) zF).v.s, .sl (Val.rows (List.getD v1_0 (Int.toNat (v1_1 - 1)) zF).v.list), .sl (Fld.rows (List.getD v1_0 (Int.toNat (v1_1 - 1)) zF).v.fields)]) rfl rfl (Fld.Qo (Q4u v1_0 (Int.toNat v1_1) zF (by omega))) (Fld.Qu v1_0) (by decide) rfl rfl (Fld.Qul v1_0 (Int.toNat v1_1) (List.getD v1_0 (Int.toNat (v1_1 - 1)) zF))), hS 0 false (Fld.Qb (List.set v1_0 (Int.toNat v1_1) (List.getD v1_0 (Int.toNat (v1_1 - 1)) zF)) 6 rfl), hP 0 (Q4n 0 6 n0 (v1_1 - 1) (Int.toNat (v1_1 - 1)) rfl (by have f0 := (Q5f ho1_4 (Int.toNat v1_1) (List.getD v1_0 (Int.toNat (v1_1 - 1)) zF)); omega) (by have f0 := (Q5f ho1_4 (Int.toNat v1_1) (List.getD v1_0 (Int.toNat (v1_1 - 1)) zF)); omega)), hV 0 [(0, Fld.rows (List.set (List.set v1_0 (Int.toNat v1_1) (List.getD v1_0 (Int.toNat (v1_1 - 1)) zF)) (Int.toNat (v1_1 - 1)) (List.getD v1_0 (Int.toNat v1_1) zF)))] (Q1cq 0 6 false ((Fld.rows (List.set v1_0 (Int.toNat v1_1) (List.getD v1_0 (Int.toNat (v1_1 - 1)) zF))).flatten) (Fld.rows (List.set v1_0 (Int.toNat v1_1) (List.getD v1_0 (Int.toNat (v1_1 - 1)) zF))) (Fld.rows (List.set (List.set v1_0 (Int.toNat v1_1) (List.getD v1_0 (Int.toNat (v1_1 - 1)) zF)) (Int.toNat (v1_1 - 1)) (List.getD v1_0 (Int.toNat v1_1) zF))) 6 (Int.toNat (v1_1 - 1)) 0 ((Int.toNat (v1_1 - 1)) * 6) _ (.agg [.str (List.getD v1_0 (Int.toNat v1_1) zF).name, .int .i64 (List.getD v1_0 (Int.toNat v1_1) zF).v.kind, .int .i64 (List.getD v1_0 (Int.toNat v1_1) zF).v.n, .str (List.getD v1_0 (Int.toNat v1_1) zF).v.s, .sl (Val.rows (List.getD v1_0 (Int.toNat v1_1) zF).v.list), .sl (Fld.rows (List.getD v1_0 (Int.toNat v1_1) zF).v.fields)]) rfl rfl (Fld.Qo (Q4u (List.set v1_0 (Int.toNat v1_1) (List.getD v1_0 (Int.toNat (v1_1 - 1)) zF)) (Int.toNat (v1_1 - 1)) zF (by have f0 := (Q5f ho1_4 (Int.toNat v1_1) (List.getD v1_0 (Int.toNat (v1_1 - 1)) zF)); try simp only [List.length_set]; omega))) (Fld.Qu (List.set v1_0 (Int.toNat v1_1) (List.getD v1_0 (Int.toNat (v1_1 - 1)) zF))) (by decide) rfl rfl (Fld.Qul (List.set v1_0 (Int.toNat v1_1) (List.getD v1_0 (Int.toNat (v1_1 - 1)) zF)) (Int.toNat (v1_1 - 1)) (List.getD v1_0 (Int.toNat v1_1) zF))), hS 0 false (Fld.Qb (List.set (List.set v1_0 (Int.toNat v1_1) (List.getD v1_0 (Int.toNat (v1_1 - 1)) zF)) (Int.toNat (v1_1 - 1)) (List.getD v1_0 (Int.toNat v1_1) zF)) 6 rfl), hP 1 (w_ok (v1_1 - 1) (by have f0 := (Q5f (Q5f ho1_4 (Int.toNat v1_1) (List.getD v1_0 (Int.toNat (v1_1 - 1)) zF)) (Int.toNat (v1_1 - 1)) (List.getD v1_0 (Int.toNat v1_1) zF)); omega))] [aN (Q1rb (List.getD v1_0 (Int.toNat v1_1) zF) (List.getD v1_0 (Int.toNat (v1_1 - 1)) zF))] (by kernel_rfl) hr
def Qpz (n0 : Nat) (p1 : Int) (_p2 : Int) (_v0_0 : Int) (v1_0 : List Fld) (v1_1 : Int) : List PV :=
  nuns 9 ++ [.int .i64 v1_1] ++ nuns 8 ++ [.int .i64 v1_1, .int .i64 p1, .bool true, .bool true, .fn 187 [] [], .ms 0 6 0 n0, .int .i64 v1_1, .bx 0 ((Int.toNat v1_1) * 6), .agg [.str (List.getD v1_0 (Int.toNat v1_1) zF).name, .int .i64 (List.getD v1_0 (Int.toNat v1_1) zF).v.kind, .int .i64 (List.getD v1_0 (Int.toNat v1_1) zF).v.n, .str (List.getD v1_0 (Int.toNat v1_1) zF).v.s, .sl (Val.rows (List.getD v1_0 (Int.toNat v1_1) zF).v.list), .sl (Fld.rows (List.getD v1_0 (Int.toNat v1_1) zF).v.fields)], .ms 0 6 0 n0, .int .i64 v1_1, .int .i64 (v1_1 - 1), .bx 0 ((Int.toNat (v1_1 - 1)) * 6), .agg [.str (List.getD v1_0 (Int.toNat (v1_1 - 1)) zF).name, .int .i64 (List.getD v1_0 (Int.toNat (v1_1 - 1)) zF).v.kind, .int .i64 (List.getD v1_0 (Int.toNat (v1_1 - 1)) zF).v.n, .str (List.getD v1_0 (Int.toNat (v1_1 - 1)) zF).v.s, .sl (Val.rows (List.getD v1_0 (Int.toNat (v1_1 - 1)) zF).v.list), .sl (Fld.rows (List.getD v1_0 (Int.toNat (v1_1 - 1)) zF).v.fields)], .int .i64 (Qzi (List.getD v1_0 (Int.toNat v1_1) zF) (List.getD v1_0 (Int.toNat (v1_1 - 1)) zF)), .bool false, .bool false]
def Ql5 (_n0 : Nat) (_p1 : Int) (_p2 : Int) (_v0_0 : Int) (_v1_0 : List Fld) (_v1_1 : Int) : List (Nat × List PV) :=
  []
theorem Q18u (n0 : Nat) (p1 : Int) (p2 : Int) (v0_0 : Int) (v1_0 : List Fld) (v1_1 : Int) (ho1_0 : 0 ≤ p1) (_ho1_1 : p1 ≤ v1_1) (ho1_2 : v1_1 < n0) (ho1_3 : (n0 : Int) ≤ 20) (ho1_4 : List.length v1_0 = n0) (h0 : (decide (p1 < v1_1)) = true) (h1 : (decide ((Qzi (List.getD v1_0 (Int.toNat v1_1) zF) (List.getD v1_0 (Int.toNat (v1_1 - 1)) zF)) < 0)) = false) : Qc7 n0 p1 p2 v0_0 (Qa0 n0 p1 p2 v0_0 v1_0 v1_1) v1_0 := by
 have e0 := of_decide_eq_true h0; have e1 := of_decide_eq_false h1
 exact ⟨(envF (Qpz n0 p1 p2 v0_0 v1_0 v1_1)), (zoF (Ql5 n0 p1 p2 v0_0 v1_0 v1_1)), Qm (Qtk n0 p1 p2 v0_0 v1_0 v1_1) (x := ((.exit 2), Qad n0 p1 p2 v0_0 v1_0 (envF (Qpz n0 p1 p2 v0_0 v1_0 v1_1)) (zoF (Ql5 n0 p1 p2 v0_0 v1_0 v1_1)))) [hB 2 h0, hP 4 (Q4n 0 6 n0 v1_1 (Int.toNat v1_1) rfl (by omega) (by omega)), hP 0 (Qan 0 6 0 false ((Fld.rows v1_0).flatten) (Fld.rows v1_0) 6 true (Int.toNat v1_1) 0 ((Int.toNat v1_1) * 6) (Fld.cells (List.getD v1_0 (Int.toNat v1_1) zF)) (.agg [.str (List.getD v1_0 (Int.toNat v1_1) zF).name, .int .i64 (List.getD v1_0 (Int.toNat v1_1) zF).v.kind, .int .i64 (List.getD v1_0 (Int.toNat v1_1) zF).v.n, .str (List.getD v1_0 (Int.toNat v1_1) zF).v.s, .sl (Val.rows (List.getD v1_0 (Int.toNat v1_1) zF).v.list), .sl (Fld.rows (List.getD v1_0 (Int.toNat v1_1) zF).v.fields)]) rfl rfl (Fld.Qo (Q4u v1_0 (Int.toNat v1_1) zF (by omega))) (Fld.Qu v1_0) (by decide) rfl), hP 2 (w_ok (v1_1 - 1) (by omega)), hP 0 (Q4n 0 6 n0 (v1_1 - 1) (Int.toNat (v1_1 - 1)) rfl (by omega) (by omega)), hP 0 (Qan 0 6 0 false ((Fld.rows v1_0).flatten) (Fld.rows v1_0) 6 true (Int.toNat (v1_1 - 1)) 0 ((Int.toNat (v1_1 - 1)) * 6) (Fld.cells (List.getD v1_0 (Int.toNat (v1_1 - 1)) zF)) (.agg [.str (List.getD v1_0 (Int.toNat (v1_1 - 1)) zF).name, .int .i64 (List.getD v1_0 (Int.toNat (v1_1 - 1)) zF).v.kind, .int .i64 (List.getD v1_0 (Int.toNat (v1_1 - 1)) zF).v.n, .str (List.getD v1_0 (Int.toNat (v1_1 - 1)) zF).v.s, .sl (Val.rows (List.getD v1_0 (Int.toNat (v1_1 - 1)) zF).v.list), .sl (Fld.rows (List.getD v1_0 (Int.toNat (v1_1 - 1)) zF).v.fields)]) rfl rfl (Fld.Qo (Q4u v1_0 (Int.toNat (v1_1 - 1)) zF (by omega))) (Fld.Qu v1_0) (by decide) rfl), hB 1 h1] [aN (Q1rb (List.getD v1_0 (Int.toNat v1_1) zF) (List.getD v1_0 (Int.toNat (v1_1 - 1)) zF))] (by kernel_rfl)⟩
def Qq0 (_n0 : Nat) (p1 : Int) (_p2 : Int) (_v0_0 : Int) (_v1_0 : List Fld) (v1_1 : Int) : List PV :=
  nuns 9 ++ [.int .i64 v1_1] ++ nuns 8 ++ [.int .i64 v1_1, .int .i64 p1, .bool false, .bool false, .tup [], .tup [], .tup [], .tup [], .tup [], .tup [], .tup [], .tup [], .tup [], .tup [], .tup [], .tup [], .bool false]
def Ql6 (_n0 : Nat) (_p1 : Int) (_p2 : Int) (_v0_0 : Int) (_v1_0 : List Fld) (_v1_1 : Int) : List (Nat × List PV) :=
  []
theorem Q18v (n0 : Nat) (p1 : Int) (p2 : Int) (v0_0 : Int) (v1_0 : List Fld) (v1_1 : Int) (_ho1_0 : 0 ≤ p1) (_ho1_1 : p1 ≤ v1_1) (_ho1_2 : v1_1 < n0) (_ho1_3 : (n0 : Int) ≤ 20) (_ho1_4 : List.length v1_0 = n0) (h0 : (decide (p1 < v1_1)) = false) : Qc7 n0 p1 p2 v0_0 (Qa0 n0 p1 p2 v0_0 v1_0 v1_1) v1_0 := by
 exact ⟨(envF (Qq0 n0 p1 p2 v0_0 v1_0 v1_1)), (zoF (Ql6 n0 p1 p2 v0_0 v1_0 v1_1)), Qm (Qtk n0 p1 p2 v0_0 v1_0 v1_1) (x := ((.exit 2), Qad n0 p1 p2 v0_0 v1_0 (envF (Qq0 n0 p1 p2 v0_0 v1_0 v1_1)) (zoF (Ql6 n0 p1 p2 v0_0 v1_0 v1_1)))) [hB 2 h0] [] (by kernel_rfl)⟩
theorem Qyr (n0 : Nat) (p1 : Int) (p2 : Int) (v0_0 : Int) : ∀ (k1 : Nat) (v1_0 : List Fld) (v1_1 : Int), 0 ≤ p1 → p1 ≤ v1_1 → v1_1 < n0 → (n0 : Int) ≤ 20 → List.length v1_0 = n0 → Int.toNat v1_1 < k1 → Qc7 n0 p1 p2 v0_0 (Qa0 n0 p1 p2 v0_0 v1_0 v1_1) (Q3m n0 p1 p2 v0_0 k1 v1_0 v1_1)
 | 0, v1_0, v1_1, _, _, _, _, _, hm => absurd hm (Nat.not_lt_zero _)
 | k1 + 1, v1_0, v1_1, ho1_0, ho1_1, ho1_2, ho1_3, ho1_4, hm => by
  rw [Q3m]
  cases h0 : (decide (p1 < v1_1)) with
  | true =>
   have e0 := of_decide_eq_true h0
   cases h1 : (decide ((Qzi (List.getD v1_0 (Int.toNat v1_1) zF) (List.getD v1_0 (Int.toNat (v1_1 - 1)) zF)) < 0)) with
   | true =>
    have e1 := of_decide_eq_true h1
    exact Qsx n0 p1 p2 v0_0 (fun r hr => Q16q n0 p1 p2 v0_0 v1_0 v1_1 ho1_0 ho1_1 ho1_2 ho1_3 ho1_4 h0 h1 hr) _ (Qyr n0 p1 p2 v0_0 k1 (List.set (List.set v1_0 (Int.toNat v1_1) (List.getD v1_0 (Int.toNat (v1_1 - 1)) zF)) (Int.toNat (v1_1 - 1)) (List.getD v1_0 (Int.toNat v1_1) zF)) (v1_1 - 1) (by have f0 := (Q5f (Q5f ho1_4 (Int.toNat v1_1) (List.getD v1_0 (Int.toNat (v1_1 - 1)) zF)) (Int.toNat (v1_1 - 1)) (List.getD v1_0 (Int.toNat v1_1) zF)); omega) (by have f0 := (Q5f (Q5f ho1_4 (Int.toNat v1_1) (List.getD v1_0 (Int.toNat (v1_1 - 1)) zF)) (Int.toNat (v1_1 - 1)) (List.getD v1_0 (Int.toNat v1_1) zF)); omega) (by have f0 := (Q5f (Q5f ho1_4 (Int.toNat v1_1) (List.getD v1_0 (Int.toNat (v1_1 - 1)) zF)) (Int.toNat (v1_1 - 1)) (List.getD v1_0 (Int.toNat v1_1) zF)); omega) (by have f0 := (Q5f (Q5f ho1_4 (Int.toNat v1_1) (List.getD v1_0 (Int.toNat (v1_1 - 1)) zF)) (Int.toNat (v1_1 - 1)) (List.getD v1_0 (Int.toNat v1_1) zF)); omega) (Q5f (Q5f ho1_4 (Int.toNat v1_1) (List.getD v1_0 (Int.toNat (v1_1 - 1)) zF)) (Int.toNat (v1_1 - 1)) (List.getD v1_0 (Int.toNat v1_1) zF)) (by have f0 := (Q5f (Q5f ho1_4 (Int.toNat v1_1) (List.getD v1_0 (Int.toNat (v1_1 - 1)) zF)) (Int.toNat (v1_1 - 1)) (List.getD v1_0 (Int.toNat v1_1) zF)); omega))
   | false =>
    exact Q18u n0 p1 p2 v0_0 v1_0 v1_1 ho1_0 ho1_1 ho1_2 ho1_3 ho1_4 h0 h1
  | false =>
   exact Q18v n0 p1 p2 v0_0 v1_0 v1_1 ho1_0 ho1_1 ho1_2 ho1_3 ho1_4 h0
theorem Q3y (n0 : Nat) (p1 : Int) (p2 : Int) (v0_0 : Int) : ∀ (k1 : Nat) (v1_0 : List Fld) (v1_1 : Int), List.length v1_0 = n0 → List.length (Q3m n0 p1 p2 v0_0 k1 v1_0 v1_1) = n0
 | 0, v1_0, v1_1, ho1_4 => by rw [Q3m]; exact ho1_4
 | k1 + 1, v1_0, v1_1, ho1_4 => by
  rw [Q3m]
  cases h0 : (decide (p1 < v1_1)) with
  | true =>
   cases h1 : (decide ((Qzi (List.getD v1_0 (Int.toNat v1_1) zF) (List.getD v1_0 (Int.toNat (v1_1 - 1)) zF)) < 0)) with
   | true =>
    exact Q3y n0 p1 p2 v0_0 k1 (List.set (List.set v1_0 (Int.toNat v1_1) (List.getD v1_0 (Int.toNat (v1_1 - 1)) zF)) (Int.toNat (v1_1 - 1)) (List.getD v1_0 (Int.toNat v1_1) zF)) (v1_1 - 1) (Q5f (Q5f ho1_4 (Int.toNat v1_1) (List.getD v1_0 (Int.toNat (v1_1 - 1)) zF)) (Int.toNat (v1_1 - 1)) (List.getD v1_0 (Int.toNat v1_1) zF))
   | false =>
    exact ho1_4
  | false =>
   exact ho1_4
def Q4c (n0 : Nat) (p1 : Int) (p2 : Int) : Nat → Int → (List Fld) → List Fld
 | 0, _v0_0, v0_1 => v0_1
 | k0 + 1, v0_0, v0_1 =>
  bif (decide (v0_0 < p2)) then
   Q4c n0 p1 p2 k0 (v0_0 + 1) (Q3m n0 p1 p2 v0_0 ((Int.toNat v0_0) + 1) v0_1 v0_0)
  else
   v0_1
def Qvt (n0 : Nat) (p1 : Int) (p2 : Int) (v0_0 : Int) (_v0_1 : List Fld) : List PV :=
  [.ms 0 6 0 n0, .int .i64 p1, .int .i64 p2, .fn 187 [] [], .un, .un, .un, .un, .int .i64 v0_0] ++ nuns 44
def Qi7 (_n0 : Nat) (_p1 : Int) (_p2 : Int) (_v0_0 : Int) (v0_1 : List Fld) : List Ob :=
  [⟨6, 0, false, (Fld.rows v0_1).flatten⟩]
def Qfh (n0 : Nat) (p1 : Int) (p2 : Int) (v0_0 : Int) (v0_1 : List Fld) : En := .loop 1 Ir.Qjk Ir.Q1gj (Qvt n0 p1 p2 v0_0 v0_1) (Qi7 n0 p1 p2 v0_0 v0_1)
def Qoe (_n0 : Nat) (_p1 : Int) (_p2 : Int) (q0 : List Fld) (z : Nat → PV) (_zo : Nat → List PV) : St :=
  ⟨zr z 0 53, [(0, ⟨6, 0, false, (Fld.rows q0).flatten⟩)], 193⟩
theorem Q12a (n0 : Nat) (p1 : Int) (p2 : Int) (v0_0 : Int) (v0_1 : List Fld) : VOK (Go.Pv.look (number 0 (Qi7 n0 p1 p2 v0_0 v0_1))) [(0, Fld.rows v0_1)] := (VOK.cons (show Seen _ _ from Q3k (ob := ⟨6, 0, false, (Fld.rows v0_1).flatten⟩) (Fld.Qb v0_1 6 rfl)) VOK.nil)
def Qh2 (n0 : Nat) (p1 : Int) (p2 : Int) (e : En) (q : List Fld) : Prop := ∃ z zo, Q7 G e (.st (.exit 0) (Qoe n0 p1 p2 q z zo))
theorem Qsw (n0 : Nat) (p1 : Int) (p2 : Int) {e e' : En} (h : ∀ r, Q7 G e r → Q7 G e' r) : ∀ q, Qh2 n0 p1 p2 e q → Qh2 n0 p1 p2 e' q
  | _, ⟨z, zo, hz⟩ => ⟨z, zo, h _ hz⟩
theorem Q16p (n0 : Nat) (p1 : Int) (p2 : Int) (v0_0 : Int) (v0_1 : List Fld) (ho0_0 : 0 ≤ p1) (ho0_1 : p1 < v0_0) (ho0_2 : p2 ≤ n0) (ho0_3 : (n0 : Int) ≤ 20) (ho0_4 : List.length v0_1 = n0) (h0 : (decide (v0_0 < p2)) = true) (z1 : Nat → PV) (zo1 : Nat → List PV) (hl1 : Q7 G (Qa0 n0 p1 p2 v0_0 v0_1 v0_0) (.st (.exit 2) (Qad n0 p1 p2 v0_0 (Q3m n0 p1 p2 v0_0 ((Int.toNat v0_0) + 1) v0_1 v0_0) z1 zo1))) {r : Rs} (hr : Q7 G (Qfh n0 p1 p2 (v0_0 + 1) (Q3m n0 p1 p2 v0_0 ((Int.toNat v0_0) + 1) v0_1 v0_0)) r) : Q7 G (Qfh n0 p1 p2 v0_0 v0_1) r := by
 have e0 := of_decide_eq_true h0
 exact Ql (Q12a n0 p1 p2 v0_0 v0_1) (y := (Qvt n0 p1 p2 (v0_0 + 1) (Q3m n0 p1 p2 v0_0 ((Int.toNat v0_0) + 1) v0_1 v0_0), Qi7 n0 p1 p2 (v0_0 + 1) (Q3m n0 p1 p2 v0_0 ((Int.toNat v0_0) + 1) v0_1 v0_0))) [hB 2 h0, hS 0 false (Fld.Qb (Q3m n0 p1 p2 v0_0 ((Int.toNat v0_0) + 1) v0_1 v0_0) 6 rfl), hP 3 (w_ok (v0_0 + 1) (by have f0 := (Q3y n0 p1 p2 v0_0 ((Int.toNat v0_0) + 1) v0_1 v0_0 ho0_4); omega))] [aV [(0, Fld.rows (Q3m n0 p1 p2 v0_0 ((Int.toNat v0_0) + 1) v0_1 v0_0))] hl1] (by kernel_rfl) hr
def Qpy (n0 : Nat) (p1 : Int) (p2 : Int) (v0_0 : Int) (_v0_1 : List Fld) : List PV :=
  [.ms 0 6 0 n0, .int .i64 p1, .int .i64 p2, .fn 187 [] [], .un, .un, .un, .un, .int .i64 v0_0, .un, .un, .un, .int .i64 v0_0, .int .i64 p2, .bool false]
def Ql4 (_n0 : Nat) (_p1 : Int) (_p2 : Int) (_v0_0 : Int) (_v0_1 : List Fld) : List (Nat × List PV) :=
  []
theorem Q18t (n0 : Nat) (p1 : Int) (p2 : Int) (v0_0 : Int) (v0_1 : List Fld) (_ho0_0 : 0 ≤ p1) (_ho0_1 : p1 < v0_0) (_ho0_2 : p2 ≤ n0) (_ho0_3 : (n0 : Int) ≤ 20) (_ho0_4 : List.length v0_1 = n0) (h0 : (decide (v0_0 < p2)) = false) : Qh2 n0 p1 p2 (Qfh n0 p1 p2 v0_0 v0_1) v0_1 := by
 exact ⟨(envF (Qpy n0 p1 p2 v0_0 v0_1)), (zoF (Ql4 n0 p1 p2 v0_0 v0_1)), Qm (Q12a n0 p1 p2 v0_0 v0_1) (x := ((.exit 0), Qoe n0 p1 p2 v0_1 (envF (Qpy n0 p1 p2 v0_0 v0_1)) (zoF (Ql4 n0 p1 p2 v0_0 v0_1)))) [hB 2 h0] [] (by kernel_rfl)⟩
theorem Qyq (n0 : Nat) (p1 : Int) (p2 : Int) : ∀ (k0 : Nat) (v0_0 : Int) (v0_1 : List Fld), 0 ≤ p1 → p1 < v0_0 → p2 ≤ n0 → (n0 : Int) ≤ 20 → List.length v0_1 = n0 → Int.toNat (p2 - v0_0) < k0 → Qh2 n0 p1 p2 (Qfh n0 p1 p2 v0_0 v0_1) (Q4c n0 p1 p2 k0 v0_0 v0_1)
 | 0, v0_0, v0_1, _, _, _, _, _, hm => absurd hm (Nat.not_lt_zero _)
 | k0 + 1, v0_0, v0_1, ho0_0, ho0_1, ho0_2, ho0_3, ho0_4, hm => by
  rw [Q4c]
  cases h0 : (decide (v0_0 < p2)) with
  | true =>
   have e0 := of_decide_eq_true h0
   have hl1 := Qyr n0 p1 p2 v0_0 ((Int.toNat v0_0) + 1) v0_1 v0_0 (by omega) (by omega) (by omega) (by omega) ho0_4 (by omega)
   obtain ⟨z1, zo1, hl1⟩ := hl1
   exact Qsw n0 p1 p2 (fun r hr => Q16p n0 p1 p2 v0_0 v0_1 ho0_0 ho0_1 ho0_2 ho0_3 ho0_4 h0 z1 zo1 hl1 hr) _ (Qyq n0 p1 p2 k0 (v0_0 + 1) (Q3m n0 p1 p2 v0_0 ((Int.toNat v0_0) + 1) v0_1 v0_0) (by have f0 := (Q3y n0 p1 p2 v0_0 ((Int.toNat v0_0) + 1) v0_1 v0_0 ho0_4); omega) (by have f0 := (Q3y n0 p1 p2 v0_0 ((Int.toNat v0_0) + 1) v0_1 v0_0 ho0_4); omega) (by have f0 := (Q3y n0 p1 p2 v0_0 ((Int.toNat v0_0) + 1) v0_1 v0_0 ho0_4); omega) (by have f0 := (Q3y n0 p1 p2 v0_0 ((Int.toNat v0_0) + 1) v0_1 v0_0 ho0_4); omega) (Q3y n0 p1 p2 v0_0 ((Int.toNat v0_0) + 1) v0_1 v0_0 ho0_4) (by have f0 := (Q3y n0 p1 p2 v0_0 ((Int.toNat v0_0) + 1) v0_1 v0_0 ho0_4); omega))
  | false =>
   exact Q18t n0 p1 p2 v0_0 v0_1 ho0_0 ho0_1 ho0_2 ho0_3 ho0_4 h0
theorem Qb6 (n0 : Nat) (p1 : Int) (p2 : Int) : ∀ (k0 : Nat) (v0_0 : Int) (v0_1 : List Fld), List.length v0_1 = n0 → List.length (Q4c n0 p1 p2 k0 v0_0 v0_1) = n0
 | 0, v0_0, v0_1, ho0_4 => by rw [Q4c]; exact ho0_4
 | k0 + 1, v0_0, v0_1, ho0_4 => by
  rw [Q4c]
  cases h0 : (decide (v0_0 < p2)) with
  | true =>
   exact Qb6 n0 p1 p2 k0 (v0_0 + 1) (Q3m n0 p1 p2 v0_0 ((Int.toNat v0_0) + 1) v0_1 v0_0) (Q3y n0 p1 p2 v0_0 ((Int.toNat v0_0) + 1) v0_1 v0_0 ho0_4)
  | false =>
   exact ho0_4
def Q2a (n0 : Nat) (p0 : List Fld) (p1 : Int) (p2 : Int) : List Fld :=
 (Q4c n0 p1 p2 ((Int.toNat (p2 - (p1 + 1))) + 1) (p1 + 1) p0)
def Q152 (n0 : Nat) (p0 : List Fld) (p1 : Int) (p2 : Int) : En := .call 253 [.ms 0 6 0 n0, .int .i64 p1, .int .i64 p2, .fn 187 [] []] [⟨6, 0, false, (Fld.rows p0).flatten⟩]
def Qqn (n0 : Nat) (p0 : List Fld) (p1 : Int) (p2 : Int) : Rs := .ret (.tup []) [⟨6, 0, false, (Fld.rows (Q2a n0 p0 p1 p2)).flatten⟩]
theorem Q1p (n0 : Nat) (p0 : List Fld) (p1 : Int) (p2 : Int) (hn : List.length p0 = n0) : List.length (Q2a n0 p0 p1 p2) = n0 := by
 unfold Q2a
 have hz0_0 : List.length (Q4c n0 p1 p2 ((Int.toNat (p2 - (p1 + 1))) + 1) (p1 + 1) p0) = n0 := Qb6 n0 p1 p2 ((Int.toNat (p2 - (p1 + 1))) + 1) (p1 + 1) p0 hn
 obtain ⟨R0, eR0⟩ : ∃ R, (Q4c n0 p1 p2 ((Int.toNat (p2 - (p1 + 1))) + 1) (p1 + 1) p0) = R := ⟨_, rfl⟩
 rw [eR0] at hz0_0 ⊢
 exact hz0_0
theorem Qrd (n0 : Nat) (p0 : List Fld) (p1 : Int) (p2 : Int) (hn : List.length p0 = n0) (hq0 : 0 ≤ p1 ∧ p1 ≤ p2 ∧ p2 ≤ n0 ∧ (n0 : Int) ≤ 20) : Q7 G (Q152 n0 p0 p1 p2) (Qqn n0 p0 p1 p2) := by
 unfold Qqn Q2a
 have hl0 := Qyq n0 p1 p2 ((Int.toNat (p2 - (p1 + 1))) + 1) (p1 + 1) p0 (by omega) (by omega) (by omega) (by omega) hn (by omega)
 have hz0_0 : List.length (Q4c n0 p1 p2 ((Int.toNat (p2 - (p1 + 1))) + 1) (p1 + 1) p0) = n0 := Qb6 n0 p1 p2 ((Int.toNat (p2 - (p1 + 1))) + 1) (p1 + 1) p0 hn
 obtain ⟨R0, eR0⟩ : ∃ R, (Q4c n0 p1 p2 ((Int.toNat (p2 - (p1 + 1))) + 1) (p1 + 1) p0) = R := ⟨_, rfl⟩
 rw [eR0] at hz0_0 hl0 ⊢
 obtain ⟨z0, zo0, hl0⟩ := hl0
 exact Q8 (fn := Ir.K4t) rfl (vk1 (Fld.Qb p0 6 rfl)) [hP 1 (w_ok (p1 + 1) (by omega)), hS 0 false (Fld.Qb R0 6 rfl)] [aV [(0, Fld.rows R0)] hl0] (by kernel_rfl)
def Q3d (n0 : Nat) (p1 : Int) : Nat → (List Fld) → Int → Int → (List Fld) × Int
 | 0, v0_0, v0_1, _v0_2 => (v0_0, v0_1)
 | k0 + 1, v0_0, v0_1, v0_2 =>
  bif (decide (v0_2 ≤ p1)) then
   Q3d n0 p1 k0 (Q2a n0 v0_0 v0_1 v0_2) v0_2 (v0_2 + 20)
  else
   (v0_0, v0_1)
def Qvv (n0 : Nat) (p1 : Int) (_v0_0 : List Fld) (v0_1 : Int) (v0_2 : Int) : List PV :=
  [.ms 0 6 0 n0, .int .i64 p1, .fn 187 [] [], .un, .un, .un, .int .i64 20, .int .i64 v0_1, .int .i64 v0_2] ++ nuns 54
def Qi9 (_n0 : Nat) (_p1 : Int) (v0_0 : List Fld) (_v0_1 : Int) (_v0_2 : Int) : List Ob :=
  [⟨6, 0, false, (Fld.rows v0_0).flatten⟩]
def Qfi (n0 : Nat) (p1 : Int) (v0_0 : List Fld) (v0_1 : Int) (v0_2 : Int) : En := .loop 1 Ir.Qjm Ir.Q1gl (Qvv n0 p1 v0_0 v0_1 v0_2) (Qi9 n0 p1 v0_0 v0_1 v0_2)
def Qof (n0 : Nat) (p1 : Int) (q0 : List Fld) (q1 : Int) (z : Nat → PV) (_zo : Nat → List PV) : St :=
  ⟨[.ms 0 6 0 n0, .int .i64 p1, .fn 187 [] [], z 3, z 4, z 5, .int .i64 20, .int .i64 q1] ++ zr z 8 55, [(0, ⟨6, 0, false, (Fld.rows q0).flatten⟩)], 193⟩
theorem Q12b (n0 : Nat) (p1 : Int) (v0_0 : List Fld) (v0_1 : Int) (v0_2 : Int) : VOK (Go.Pv.look (number 0 (Qi9 n0 p1 v0_0 v0_1 v0_2))) [(0, Fld.rows v0_0)] := (VOK.cons (show Seen _ _ from Q3k (ob := ⟨6, 0, false, (Fld.rows v0_0).flatten⟩) (Fld.Qb v0_0 6 rfl)) VOK.nil)
def Qh3 (n0 : Nat) (p1 : Int) (e : En) (q : (List Fld) × Int) : Prop := ∃ z zo, Q7 G e (.st (.exit 0) (Qof n0 p1 q.1 q.2 z zo))
theorem Qsy (n0 : Nat) (p1 : Int) {e e' : En} (h : ∀ r, Q7 G e r → Q7 G e' r) : ∀ q, Qh3 n0 p1 e q → Qh3 n0 p1 e' q
  | _, ⟨z, zo, hz⟩ => ⟨z, zo, h _ hz⟩
theorem Q16r (n0 : Nat) (p1 : Int) (v0_0 : List Fld) (v0_1 : Int) (v0_2 : Int) (ho0_0 : 0 ≤ v0_1) (_ho0_1 : v0_1 ≤ n0) (ho0_2 : v0_1 + 20 = v0_2) (ho0_3 : p1 = n0) (ho0_4 : (n0 : Int) ≤ 20) (ho0_5 : List.length v0_0 = n0) (h0 : (decide (v0_2 ≤ p1)) = true) {r : Rs} (hr : Q7 G (Qfi n0 p1 (Q2a n0 v0_0 v0_1 v0_2) v0_2 (v0_2 + 20)) r) : Q7 G (Qfi n0 p1 v0_0 v0_1 v0_2) r := by
 have e0 := of_decide_eq_true h0
 exact Ql (Q12b n0 p1 v0_0 v0_1 v0_2) (y := (Qvv n0 p1 (Q2a n0 v0_0 v0_1 v0_2) v0_2 (v0_2 + 20), Qi9 n0 p1 (Q2a n0 v0_0 v0_1 v0_2) v0_2 (v0_2 + 20))) [hB 2 h0, hQ (Fld.Qb (Q2a n0 v0_0 v0_1 v0_2) 6 rfl), hP 9 (w_ok (v0_2 + 20) (by have f0 := (Q1p n0 v0_0 v0_1 v0_2 ho0_5); omega))] [aV [(0, Fld.rows (Q2a n0 v0_0 v0_1 v0_2))] (Qrd n0 v0_0 v0_1 v0_2 ho0_5 (by omega))] (by kernel_rfl) hr
def Qq1 (_n0 : Nat) (p1 : Int) (_v0_0 : List Fld) (_v0_1 : Int) (v0_2 : Int) : List PV :=
  nuns 8 ++ [.int .i64 v0_2, .un, .un, .int .i64 v0_2, .int .i64 p1, .bool false]
def Ql7 (_n0 : Nat) (_p1 : Int) (_v0_0 : List Fld) (_v0_1 : Int) (_v0_2 : Int) : List (Nat × List PV) :=
  []
theorem Q18w (n0 : Nat) (p1 : Int) (v0_0 : List Fld) (v0_1 : Int) (v0_2 : Int) (_ho0_0 : 0 ≤ v0_1) (_ho0_1 : v0_1 ≤ n0) (_ho0_2 : v0_1 + 20 = v0_2) (_ho0_3 : p1 = n0) (_ho0_4 : (n0 : Int) ≤ 20) (_ho0_5 : List.length v0_0 = n0) (h0 : (decide (v0_2 ≤ p1)) = false) : Qh3 n0 p1 (Qfi n0 p1 v0_0 v0_1 v0_2) (v0_0, v0_1) := by
 exact ⟨(envF (Qq1 n0 p1 v0_0 v0_1 v0_2)), (zoF (Ql7 n0 p1 v0_0 v0_1 v0_2)), Qm (Q12b n0 p1 v0_0 v0_1 v0_2) (x := ((.exit 0), Qof n0 p1 v0_0 v0_1 (envF (Qq1 n0 p1 v0_0 v0_1 v0_2)) (zoF (Ql7 n0 p1 v0_0 v0_1 v0_2)))) [hB 2 h0] [] (by kernel_rfl)⟩
theorem Qys (n0 : Nat) (p1 : Int) : ∀ (k0 : Nat) (v0_0 : List Fld) (v0_1 : Int) (v0_2 : Int), 0 ≤ v0_1 → v0_1 ≤ n0 → v0_1 + 20 = v0_2 → p1 = n0 → (n0 : Int) ≤ 20 → List.length v0_0 = n0 → Int.toNat (p1 + 20 - v0_2) < k0 → Qh3 n0 p1 (Qfi n0 p1 v0_0 v0_1 v0_2) (Q3d n0 p1 k0 v0_0 v0_1 v0_2)
 | 0, v0_0, v0_1, v0_2, _, _, _, _, _, _, hm => absurd hm (Nat.not_lt_zero _)
 | k0 + 1, v0_0, v0_1, v0_2, ho0_0, ho0_1, ho0_2, ho0_3, ho0_4, ho0_5, hm => by
  rw [Q3d]
  cases h0 : (decide (v0_2 ≤ p1)) with
  | true =>
   have e0 := of_decide_eq_true h0
   exact Qsy n0 p1 (fun r hr => Q16r n0 p1 v0_0 v0_1 v0_2 ho0_0 ho0_1 ho0_2 ho0_3 ho0_4 ho0_5 h0 hr) _ (Qys n0 p1 k0 (Q2a n0 v0_0 v0_1 v0_2) v0_2 (v0_2 + 20) (by have f0 := (Q1p n0 v0_0 v0_1 v0_2 ho0_5); omega) (by have f0 := (Q1p n0 v0_0 v0_1 v0_2 ho0_5); omega) (by have f0 := (Q1p n0 v0_0 v0_1 v0_2 ho0_5); omega) (by have f0 := (Q1p n0 v0_0 v0_1 v0_2 ho0_5); omega) (by have f0 := (Q1p n0 v0_0 v0_1 v0_2 ho0_5); omega) (Q1p n0 v0_0 v0_1 v0_2 ho0_5) (by have f0 := (Q1p n0 v0_0 v0_1 v0_2 ho0_5); omega))
  | false =>
   exact Q18w n0 p1 v0_0 v0_1 v0_2 ho0_0 ho0_1 ho0_2 ho0_3 ho0_4 ho0_5 h0
theorem Qb7 (n0 : Nat) (p1 : Int) : ∀ (k0 : Nat) (v0_0 : List Fld) (v0_1 : Int) (v0_2 : Int), List.length v0_0 = n0 → List.length (Q3d n0 p1 k0 v0_0 v0_1 v0_2).1 = n0
 | 0, v0_0, v0_1, v0_2, ho0_5 => by rw [Q3d]; exact ho0_5
 | k0 + 1, v0_0, v0_1, v0_2, ho0_5 => by
  rw [Q3d]
  cases h0 : (decide (v0_2 ≤ p1)) with
  | true =>
   exact Qb7 n0 p1 k0 (Q2a n0 v0_0 v0_1 v0_2) v0_2 (v0_2 + 20) (Q1p n0 v0_0 v0_1 v0_2 ho0_5)
  | false =>
   exact ho0_5
theorem Qza (n0 : Nat) (p1 : Int) : ∀ (k0 : Nat) (v0_0 : List Fld) (v0_1 : Int) (v0_2 : Int), 0 ≤ v0_1 → v0_1 ≤ n0 → v0_1 + 20 = v0_2 → p1 = n0 → (n0 : Int) ≤ 20 → List.length v0_0 = n0 → Int.toNat (p1 + 20 - v0_2) < k0 → 0 ≤ (Q3d n0 p1 k0 v0_0 v0_1 v0_2).2 ∧ (Q3d n0 p1 k0 v0_0 v0_1 v0_2).2 ≤ n0
 | 0, v0_0, v0_1, v0_2, _, _, _, _, _, _, hm => absurd hm (Nat.not_lt_zero _)
 | k0 + 1, v0_0, v0_1, v0_2, ho0_0, ho0_1, ho0_2, ho0_3, ho0_4, ho0_5, hm => by
  rw [Q3d]
  cases h0 : (decide (v0_2 ≤ p1)) with
  | true =>
   have e0 := of_decide_eq_true h0
   exact Qza n0 p1 k0 (Q2a n0 v0_0 v0_1 v0_2) v0_2 (v0_2 + 20) (by have f0 := (Q1p n0 v0_0 v0_1 v0_2 ho0_5); omega) (by have f0 := (Q1p n0 v0_0 v0_1 v0_2 ho0_5); omega) (by have f0 := (Q1p n0 v0_0 v0_1 v0_2 ho0_5); omega) (by have f0 := (Q1p n0 v0_0 v0_1 v0_2 ho0_5); omega) (by have f0 := (Q1p n0 v0_0 v0_1 v0_2 ho0_5); omega) (Q1p n0 v0_0 v0_1 v0_2 ho0_5) (by have f0 := (Q1p n0 v0_0 v0_1 v0_2 ho0_5); omega)
  | false =>
   have e0 := of_decide_eq_false h0
   exact (show 0 ≤ v0_1 ∧ v0_1 ≤ n0 from ⟨(by omega), (by omega)⟩)
def Q5c (_n0 : Nat) (_p1 : Int) : Nat → (List Fld) → List Fld
 | 0, v1_0 => v1_0
 | _k1 + 1, v1_0 =>
  v1_0
def Q199 (n0 : Nat) (p1 : Int) (_v1_0 : List Fld) : List PV :=
  [.ms 0 6 0 n0, .int .i64 p1, .fn 187 [] [], .un, .un, .un, .int .i64 20] ++ nuns 56
def Qwc (_n0 : Nat) (_p1 : Int) (v1_0 : List Fld) : List Ob :=
  [⟨6, 0, false, (Fld.rows v1_0).flatten⟩]
def Q11d (n0 : Nat) (p1 : Int) (v1_0 : List Fld) : En := .loop 1 Ir.Qjn Ir.Q1gm (Q199 n0 p1 v1_0) (Qwc n0 p1 v1_0)
def Qog (_n0 : Nat) (_p1 : Int) (q0 : List Fld) (z : Nat → PV) (_zo : Nat → List PV) : St :=
  ⟨zr z 0 63, [(0, ⟨6, 0, false, (Fld.rows q0).flatten⟩)], 193⟩
theorem Q1dh (n0 : Nat) (p1 : Int) (v1_0 : List Fld) : VOK (Go.Pv.look (number 0 (Qwc n0 p1 v1_0))) [(0, Fld.rows v1_0)] := (VOK.cons (show Seen _ _ from Q3k (ob := ⟨6, 0, false, (Fld.rows v1_0).flatten⟩) (Fld.Qb v1_0 6 rfl)) VOK.nil)
def Q11p (n0 : Nat) (p1 : Int) (e : En) (q : List Fld) : Prop := ∃ z zo, Q7 G e (.st (.exit 2) (Qog n0 p1 q z zo))
def Qq2 (n0 : Nat) (p1 : Int) (_v1_0 : List Fld) : List PV :=
  [.ms 0 6 0 n0, .int .i64 p1, .fn 187 [] [], .un, .un, .un, .int .i64 20] ++ nuns 21 ++ [.int .i64 20, .int .i64 p1, .bool false]
def Ql8 (_n0 : Nat) (_p1 : Int) (_v1_0 : List Fld) : List (Nat × List PV) :=
  []
theorem Q18x (n0 : Nat) (p1 : Int) (v1_0 : List Fld) (ho1_0 : p1 = n0) (ho1_1 : (n0 : Int) ≤ 20) (ho1_2 : List.length v1_0 = n0) : Q11p n0 p1 (Q11d n0 p1 v1_0) v1_0 := by
 exact ⟨(envF (Qq2 n0 p1 v1_0)), (zoF (Ql8 n0 p1 v1_0)), Qm (Q1dh n0 p1 v1_0) (x := ((.exit 2), Qog n0 p1 v1_0 (envF (Qq2 n0 p1 v1_0)) (zoF (Ql8 n0 p1 v1_0)))) [hP 2 (dec (decide (20 < p1)) false (decide_eq_false (by omega)))] [] (by kernel_rfl)⟩
theorem Q1b2 (n0 : Nat) (p1 : Int) : ∀ (k1 : Nat) (v1_0 : List Fld), p1 = n0 → (n0 : Int) ≤ 20 → List.length v1_0 = n0 → 0 < k1 → Q11p n0 p1 (Q11d n0 p1 v1_0) (Q5c n0 p1 k1 v1_0)
 | 0, v1_0, _, _, _, hm => absurd hm (Nat.not_lt_zero _)
 | k1 + 1, v1_0, ho1_0, ho1_1, ho1_2, hm => by
  rw [Q5c]
  exact Q18x n0 p1 v1_0 ho1_0 ho1_1 ho1_2
theorem Qm3 (n0 : Nat) (p1 : Int) : ∀ (k1 : Nat) (v1_0 : List Fld), List.length v1_0 = n0 → List.length (Q5c n0 p1 k1 v1_0) = n0
 | 0, v1_0, ho1_2 => by rw [Q5c]; exact ho1_2
 | k1 + 1, v1_0, ho1_2 => by
  rw [Q5c]
  exact ho1_2
def Q4z (n0 : Nat) (p0 : List Fld) (p1 : Int) : List Fld :=
 (Q5c n0 p1 (0 + 1) (Q2a n0 (Q3d n0 p1 ((Int.toNat (p1 + 20 - 20)) + 1) p0 0 20).1 (Q3d n0 p1 ((Int.toNat (p1 + 20 - 20)) + 1) p0 0 20).2 p1))
def Q153 (n0 : Nat) (p0 : List Fld) (p1 : Int) : En := .call 220 [.ms 0 6 0 n0, .int .i64 p1, .fn 187 [] []] [⟨6, 0, false, (Fld.rows p0).flatten⟩]
def Qqo (n0 : Nat) (p0 : List Fld) (p1 : Int) : Rs := .ret (.tup []) [⟨6, 0, false, (Fld.rows (Q4z n0 p0 p1)).flatten⟩]
theorem Qty (n0 : Nat) (p0 : List Fld) (p1 : Int) (hn : List.length p0 = n0) : List.length (Q4z n0 p0 p1) = n0 := by
 unfold Q4z
 have hz0_0 : List.length (Q3d n0 p1 ((Int.toNat (p1 + 20 - 20)) + 1) p0 0 20).1 = n0 := Qb7 n0 p1 ((Int.toNat (p1 + 20 - 20)) + 1) p0 0 20 hn
 obtain ⟨R1, eR1⟩ : ∃ R, (Q3d n0 p1 ((Int.toNat (p1 + 20 - 20)) + 1) p0 0 20) = R := ⟨_, rfl⟩
 rw [eR1] at hz0_0 ⊢
 have hz1_0 : List.length (Q5c n0 p1 (0 + 1) (Q2a n0 R1.1 R1.2 p1)) = n0 := Qm3 n0 p1 (0 + 1) (Q2a n0 R1.1 R1.2 p1) (Q1p n0 R1.1 R1.2 p1 hz0_0)
 obtain ⟨R2, eR2⟩ : ∃ R, (Q5c n0 p1 (0 + 1) (Q2a n0 R1.1 R1.2 p1)) = R := ⟨_, rfl⟩
 rw [eR2] at hz1_0 ⊢
 exact hz1_0
theorem Q17n (n0 : Nat) (p0 : List Fld) (p1 : Int) (hn : List.length p0 = n0) (hq0 : 0 ≤ p1 ∧ p1 = n0 ∧ (n0 : Int) ≤ 20) : Q7 G (Q153 n0 p0 p1) (Qqo n0 p0 p1) := by
 unfold Qqo Q4z
 have hl0 := Qys n0 p1 ((Int.toNat (p1 + 20 - 20)) + 1) p0 0 20 (by omega) (by omega) (by omega) (by omega) (by omega) hn (by omega)
 have hz0_0 : List.length (Q3d n0 p1 ((Int.toNat (p1 + 20 - 20)) + 1) p0 0 20).1 = n0 := Qb7 n0 p1 ((Int.toNat (p1 + 20 - 20)) + 1) p0 0 20 hn
 have hy0 : 0 ≤ (Q3d n0 p1 ((Int.toNat (p1 + 20 - 20)) + 1) p0 0 20).2 ∧ (Q3d n0 p1 ((Int.toNat (p1 + 20 - 20)) + 1) p0 0 20).2 ≤ n0 := Qza n0 p1 ((Int.toNat (p1 + 20 - 20)) + 1) p0 0 20 (by omega) (by omega) (by omega) (by omega) (by omega) hn (by omega)
 obtain ⟨R1, eR1⟩ : ∃ R, (Q3d n0 p1 ((Int.toNat (p1 + 20 - 20)) + 1) p0 0 20) = R := ⟨_, rfl⟩
 rw [eR1] at hz0_0 hy0 hl0 ⊢
 obtain ⟨z0, zo0, hl0⟩ := hl0
 have hl1 := Q1b2 n0 p1 (0 + 1) (Q2a n0 R1.1 R1.2 p1) (by have f0 := (Q1p n0 R1.1 R1.2 p1 hz0_0); have g0 := hy0; omega) (by have f0 := (Q1p n0 R1.1 R1.2 p1 hz0_0); have g0 := hy0; omega) (Q1p n0 R1.1 R1.2 p1 hz0_0) (by omega)
 have hz1_0 : List.length (Q5c n0 p1 (0 + 1) (Q2a n0 R1.1 R1.2 p1)) = n0 := Qm3 n0 p1 (0 + 1) (Q2a n0 R1.1 R1.2 p1) (Q1p n0 R1.1 R1.2 p1 hz0_0)
 obtain ⟨R2, eR2⟩ : ∃ R, (Q5c n0 p1 (0 + 1) (Q2a n0 R1.1 R1.2 p1)) = R := ⟨_, rfl⟩
 rw [eR2] at hz1_0 hl1 ⊢
 obtain ⟨z1, zo1, hl1⟩ := hl1
 exact Q8 (fn := Ir.K4u) rfl (vk1 (Fld.Qb p0 6 rfl)) [hS 0 false (Fld.Qb R1.1 6 rfl), hQ (Fld.Qb (Q2a n0 R1.1 R1.2 p1) 6 rfl), hS 0 false (Fld.Qb R2 6 rfl)] [aV [(0, Fld.rows R1.1)] hl0, aV [(0, Fld.rows (Q2a n0 R1.1 R1.2 p1))] (Qrd n0 R1.1 R1.2 p1 hz0_0 (by have g0 := hy0; omega)), aV [(0, Fld.rows R2)] hl1] (by kernel_rfl)
def Qv (n0 : Nat) (p0 : List Fld) : List Fld :=
 (Q4z n0 p0 (n0 : Int))
def Q151 (n0 : Nat) (p0 : List Fld) : En := .call 186 [.ms 0 6 0 n0, .fn 187 [] []] [⟨6, 0, false, (Fld.rows p0).flatten⟩]
def Qqm (n0 : Nat) (p0 : List Fld) : Rs := .ret (.tup []) [⟨6, 0, false, (Fld.rows (Qv n0 p0)).flatten⟩]
theorem Q2m (n0 : Nat) (p0 : List Fld) (hn : List.length p0 = n0) : List.length (Qv n0 p0) = n0 := by
 unfold Qv
 exact (Qty n0 p0 (n0 : Int) hn)
theorem Q17m (n0 : Nat) (p0 : List Fld) (hn : List.length p0 = n0) (hq0 : (n0 : Int) ≤ 20) : Q7 G (Q151 n0 p0) (Qqm n0 p0) := by
 unfold Qqm Qv
 exact Q8 (fn := Ir.K4s) rfl (vk1 (Fld.Qb p0 6 rfl)) [hQ (Fld.Qb (Q4z n0 p0 (n0 : Int)) 6 rfl)] [aV [(0, Fld.rows (Q4z n0 p0 (n0 : Int)))] (Q17n n0 p0 (n0 : Int) hn (by omega))] (by kernel_rfl)
def Q3j (p0 : List Fld) : List Fld → Nat → (List Fld) → List Fld
 | [], _i0, v0_1 =>
  v0_1
 | x0 :: r0, i0, v0_1 =>
  bif (((i0 + 1 : Nat) : Int) == ((List.length p0) : Int)) then
   Q3j p0 r0 (i0 + 1) (v0_1 ++ [x0])
  else
   bif (sEq (List.getD (Qv (List.length p0) p0) (Int.toNat ((i0 + 1 : Nat) : Int)) zF).name x0.name) then
    Q3j p0 r0 (i0 + 1) v0_1
   else
    Q3j p0 r0 (i0 + 1) (v0_1 ++ [x0])
def Qbt (p0 : List Fld) (i0 : Nat) (_v0_1 : List Fld) : List PV :=
  [.un, .un, .bx 0 0, .ms 1 6 0 (List.length p0), .bx 2 0] ++ nuns 7 ++ [.ms 1 6 0 (List.length p0), .int .i64 ((List.length p0) : Int), .int .i64 (i0 : Int)] ++ nuns 29
def Q95 (p0 : List Fld) (_i0 : Nat) (v0_1 : List Fld) : List Ob :=
  [⟨5, 0, true, [.int .i64 0, .int .i64 0, .str eB, .ms 3 5 0 0, .ms 4 6 0 0]⟩, ⟨6, 0, false, (Fld.rows (Qv (List.length p0) p0)).flatten⟩, ⟨5, 0, true, [.int .i64 5, .int .i64 0, .str eB, .ms 5 5 0 0, .ms 6 6 0 (List.length v0_1)]⟩, ⟨5, 0, true, []⟩, ⟨6, 0, true, []⟩, ⟨5, 0, true, []⟩, ⟨6, 0, true, (Fld.rows v0_1).flatten⟩]
def Q75 (p0 : List Fld) (i0 : Nat) (v0_1 : List Fld) : En := .loop 0 Ir.Qjp Ir.Q1go (Qbt p0 i0 v0_1) (Q95 p0 i0 v0_1)
def Qoj (p0 : List Fld) (q0 : List Fld) (z : Nat → PV) (_zo : Nat → List PV) : St :=
  ⟨[z 0, z 1, .bx 0 0, z 3, .bx 2 0] ++ zr z 5 39, [(0, ⟨5, 0, true, [.int .i64 0, .int .i64 0, .str eB, .ms 3 5 0 0, .ms 4 6 0 0]⟩), (1, ⟨6, 0, false, (Fld.rows (Qv (List.length p0) p0)).flatten⟩), (2, ⟨5, 0, true, [.int .i64 5, .int .i64 0, .str eB, .ms 5 5 0 0, .ms 6 6 0 (List.length q0)]⟩), (3, ⟨5, 0, true, []⟩), (4, ⟨6, 0, true, []⟩), (5, ⟨5, 0, true, []⟩), (6, ⟨6, 0, true, (Fld.rows q0).flatten⟩)], 71⟩
theorem Qha (p0 : List Fld) (i0 : Nat) (v0_1 : List Fld) : VOK (Go.Pv.look (number 0 (Q95 p0 i0 v0_1))) [(1, Fld.rows (Qv (List.length p0) p0)), (6, Fld.rows v0_1)] := (VOK.cons (show Seen _ _ from Q3k (ob := ⟨6, 0, false, (Fld.rows (Qv (List.length p0) p0)).flatten⟩) (Fld.Qb (Qv (List.length p0) p0) 6 rfl)) (VOK.cons (show Seen _ _ from Q3k (ob := ⟨6, 0, true, (Fld.rows v0_1).flatten⟩) (Fld.Qb v0_1 6 rfl)) VOK.nil))
def Qh4 (p0 : List Fld) (e : En) (q : List Fld) : Prop := ∃ z zo, Q7 G e (.st (.exit 0) (Qoj p0 q z zo))
theorem Q8f (p0 : List Fld) {e e' : En} (h : ∀ r, Q7 G e r → Q7 G e' r) : ∀ q, Qh4 p0 e q → Qh4 p0 e' q
  | _, ⟨z, zo, hz⟩ => ⟨z, zo, h _ hz⟩
def Qa2 (p0 : List Fld) : Prop := (List.length (Qv (List.length p0) p0) ≤ 137438953472) ∧ True
def Qq5 (p0 : List Fld) (i0 : Nat) (_v0_1 : List Fld) : List PV :=
  [.un, .un, .un, .ms 1 6 0 (List.length p0)] ++ nuns 8 ++ [.ms 1 6 0 (List.length p0), .int .i64 ((List.length p0) : Int), .int .i64 (i0 : Int), .bool false]
def Qlb (_p0 : List Fld) (_i0 : Nat) (_v0_1 : List Fld) : List (Nat × List PV) :=
  []
theorem Q190 (p0 : List Fld) (_H : Qa2 p0) (i0 : Nat) (v0_1 : List Fld) (_ho0_0 : List.length v0_1 ≤ i0) (hc0 : (decide ((i0 : Int) < ((List.length p0) : Int))) = false) : Qh4 p0 (Q75 p0 i0 v0_1) v0_1 := by
 exact ⟨(envF (Qq5 p0 i0 v0_1)), (zoF (Qlb p0 i0 v0_1)), Qm (Qha p0 i0 v0_1) (x := ((.exit 0), Qoj p0 v0_1 (envF (Qq5 p0 i0 v0_1)) (zoF (Qlb p0 i0 v0_1)))) [hB 0 hc0] [] (by kernel_rfl)⟩
theorem Q16t (p0 : List Fld) (H : Qa2 p0) (x0 : Fld) (i0 : Nat) (v0_1 : List Fld) (hx0 : (Qv (List.length p0) p0)[i0]? = some x0) (hi0 : i0 < List.length (Qv (List.length p0) p0)) (ho0_0 : List.length v0_1 ≤ i0) (hc0 : (decide ((i0 : Int) < ((List.length p0) : Int))) = true) (h0 : (((i0 + 1 : Nat) : Int) == ((List.length p0) : Int)) = true) {r : Rs} (hr : Q7 G (Q75 p0 (i0 + 1) (v0_1 ++ [x0])) r) : Q7 G (Q75 p0 i0 v0_1) r := by
 have hB0 := H.1; have e0 := eq_of_beq h0
 exact Ql (Qha p0 i0 v0_1) (y := (Qbt p0 (i0 + 1) (v0_1 ++ [x0]), Q95 p0 (i0 + 1) (v0_1 ++ [x0]))) [hB 0 hc0, hP 1 (Q4n 1 6 (List.length p0) (i0 : Int) i0 (by omega) (by have f1 := (Q2m (List.length p0) p0 rfl); omega) (by have f1 := (Q2m (List.length p0) p0 rfl); omega)), hP 0 (Qan 1 6 0 false ((Fld.rows (Qv (List.length p0) p0)).flatten) (Fld.rows (Qv (List.length p0) p0)) 6 true i0 0 (i0 * 6) (Fld.cells x0) (.agg [.str x0.name, .int .i64 x0.v.kind, .int .i64 x0.v.n, .str x0.v.s, .sl (Val.rows x0.v.list), .sl (Fld.rows x0.v.fields)]) rfl rfl (Fld.Qo hx0) (Fld.Qu (Qv (List.length p0) p0)) (by decide) rfl), hP 4 (Q2g i0 (by omega)), hB 2 h0, hV 15 [(1735, Fld.rows (v0_1 ++ [x0]))] (Q42 6 1671 1735 6 96 0 0 true (Fld.rows v0_1) (Fld.rows (v0_1 ++ [x0])) (Fld.cells x0) (List.length v0_1) (List.length (v0_1 ++ [x0])) rfl (Fld.Q9 v0_1).symm (Fld.Q9 (v0_1 ++ [x0])).symm (Fld.Q1t v0_1 x0) (Fld.Qu v0_1) rfl (by omega)), hS 0 true (Fld.Qb (v0_1 ++ [x0]) 6 rfl), hP 2 (Q2g i0 (by omega))] [] (by kernel_rfl) hr
theorem Q16u (p0 : List Fld) (H : Qa2 p0) (x0 : Fld) (i0 : Nat) (v0_1 : List Fld) (hx0 : (Qv (List.length p0) p0)[i0]? = some x0) (hi0 : i0 < List.length (Qv (List.length p0) p0)) (_ho0_0 : List.length v0_1 ≤ i0) (hc0 : (decide ((i0 : Int) < ((List.length p0) : Int))) = true) (h0 : (((i0 + 1 : Nat) : Int) == ((List.length p0) : Int)) = false) (h1 : (sEq (List.getD (Qv (List.length p0) p0) (Int.toNat ((i0 + 1 : Nat) : Int)) zF).name x0.name) = true) {r : Rs} (hr : Q7 G (Q75 p0 (i0 + 1) v0_1) r) : Q7 G (Q75 p0 i0 v0_1) r := by
 have hB0 := H.1; have e0 := beq_eq_false_iff_ne.1 h0
 exact Ql (Qha p0 i0 v0_1) (y := (Qbt p0 (i0 + 1) v0_1, Q95 p0 (i0 + 1) v0_1)) [hB 0 hc0, hP 1 (Q4n 1 6 (List.length p0) (i0 : Int) i0 (by omega) (by have f1 := (Q2m (List.length p0) p0 rfl); omega) (by have f1 := (Q2m (List.length p0) p0 rfl); omega)), hP 0 (Qan 1 6 0 false ((Fld.rows (Qv (List.length p0) p0)).flatten) (Fld.rows (Qv (List.length p0) p0)) 6 true i0 0 (i0 * 6) (Fld.cells x0) (.agg [.str x0.name, .int .i64 x0.v.kind, .int .i64 x0.v.n, .str x0.v.s, .sl (Val.rows x0.v.list), .sl (Fld.rows x0.v.fields)]) rfl rfl (Fld.Qo hx0) (Fld.Qu (Qv (List.length p0) p0)) (by decide) rfl), hP 4 (Q2g i0 (by omega)), hB 2 h0, hP 3 (Q2g i0 (by omega)), hP 0 (Q4n 1 6 (List.length p0) ((i0 + 1 : Nat) : Int) (Int.toNat ((i0 + 1 : Nat) : Int)) rfl (by have f1 := (Q2m (List.length p0) p0 rfl); omega) (by have f1 := (Q2m (List.length p0) p0 rfl); omega)), hP 1 (Qan 1 6 0 false ((Fld.rows (Qv (List.length p0) p0)).flatten) (Fld.rows (Qv (List.length p0) p0)) 1 false (Int.toNat ((i0 + 1 : Nat) : Int)) 0 ((Int.toNat ((i0 + 1 : Nat) : Int)) * 6) (Fld.cells (List.getD (Qv (List.length p0) p0) (Int.toNat ((i0 + 1 : Nat) : Int)) zF)) (.str (List.getD (Qv (List.length p0) p0) (Int.toNat ((i0 + 1 : Nat) : Int)) zF).name) rfl rfl (Fld.Qo (Q4u (Qv (List.length p0) p0) (Int.toNat ((i0 + 1 : Nat) : Int)) zF (by have f1 := (Q2m (List.length p0) p0 rfl); omega))) (Fld.Qu (Qv (List.length p0) p0)) (by decide) rfl), hP 2 (dec (!(sEq (List.getD (Qv (List.length p0) p0) (Int.toNat ((i0 + 1 : Nat) : Int)) zF).name x0.name)) false (by rw [h1]; rfl)), hP 1 (Q2g i0 (by omega))] [] (by kernel_rfl) hr
theorem Q16v (p0 : List Fld) (H : Qa2 p0) (x0 : Fld) (i0 : Nat) (v0_1 : List Fld) (hx0 : (Qv (List.length p0) p0)[i0]? = some x0) (hi0 : i0 < List.length (Qv (List.length p0) p0)) (ho0_0 : List.length v0_1 ≤ i0) (hc0 : (decide ((i0 : Int) < ((List.length p0) : Int))) = true) (h0 : (((i0 + 1 : Nat) : Int) == ((List.length p0) : Int)) = false) (h1 : (sEq (List.getD (Qv (List.length p0) p0) (Int.toNat ((i0 + 1 : Nat) : Int)) zF).name x0.name) = false) {r : Rs} (hr : Q7 G (Q75 p0 (i0 + 1) (v0_1 ++ [x0])) r) : Q7 G (Q75 p0 i0 v0_1) r := by
 have hB0 := H.1; have e0 := beq_eq_false_iff_ne.1 h0
 exact Ql (Qha p0 i0 v0_1) (y := (Qbt p0 (i0 + 1) (v0_1 ++ [x0]), Q95 p0 (i0 + 1) (v0_1 ++ [x0]))) [hB 0 hc0, hP 1 (Q4n 1 6 (List.length p0) (i0 : Int) i0 (by omega) (by have f1 := (Q2m (List.length p0) p0 rfl); omega) (by have f1 := (Q2m (List.length p0) p0 rfl); omega)), hP 0 (Qan 1 6 0 false ((Fld.rows (Qv (List.length p0) p0)).flatten) (Fld.rows (Qv (List.length p0) p0)) 6 true i0 0 (i0 * 6) (Fld.cells x0) (.agg [.str x0.name, .int .i64 x0.v.kind, .int .i64 x0.v.n, .str x0.v.s, .sl (Val.rows x0.v.list), .sl (Fld.rows x0.v.fields)]) rfl rfl (Fld.Qo hx0) (Fld.Qu (Qv (List.length p0) p0)) (by decide) rfl), hP 4 (Q2g i0 (by omega)), hB 2 h0, hP 3 (Q2g i0 (by omega)), hP 0 (Q4n 1 6 (List.length p0) ((i0 + 1 : Nat) : Int) (Int.toNat ((i0 + 1 : Nat) : Int)) rfl (by have f1 := (Q2m (List.length p0) p0 rfl); omega) (by have f1 := (Q2m (List.length p0) p0 rfl); omega)), hP 1 (Qan 1 6 0 false ((Fld.rows (Qv (List.length p0) p0)).flatten) (Fld.rows (Qv (List.length p0) p0)) 1 false (Int.toNat ((i0 + 1 : Nat) : Int)) 0 ((Int.toNat ((i0 + 1 : Nat) : Int)) * 6) (Fld.cells (List.getD (Qv (List.length p0) p0) (Int.toNat ((i0 + 1 : Nat) : Int)) zF)) (.str (List.getD (Qv (List.length p0) p0) (Int.toNat ((i0 + 1 : Nat) : Int)) zF).name) rfl rfl (Fld.Qo (Q4u (Qv (List.length p0) p0) (Int.toNat ((i0 + 1 : Nat) : Int)) zF (by have f1 := (Q2m (List.length p0) p0 rfl); omega))) (Fld.Qu (Qv (List.length p0) p0)) (by decide) rfl), hP 2 (dec (!(sEq (List.getD (Qv (List.length p0) p0) (Int.toNat ((i0 + 1 : Nat) : Int)) zF).name x0.name)) true (by rw [h1]; rfl)), hV 5 [(1735, Fld.rows (v0_1 ++ [x0]))] (Q42 6 1671 1735 6 96 0 0 true (Fld.rows v0_1) (Fld.rows (v0_1 ++ [x0])) (Fld.cells x0) (List.length v0_1) (List.length (v0_1 ++ [x0])) rfl (Fld.Q9 v0_1).symm (Fld.Q9 (v0_1 ++ [x0])).symm (Fld.Q1t v0_1 x0) (Fld.Qu v0_1) rfl (by omega)), hS 0 true (Fld.Qb (v0_1 ++ [x0]) 6 rfl), hP 2 (Q2g i0 (by omega))] [] (by kernel_rfl) hr
theorem Qcx (p0 : List Fld) (H : Qa2 p0) : ∀ (r0 : List Fld) (i0 : Nat) (v0_1 : List Fld), List.drop i0 (Qv (List.length p0) p0) = r0 → List.length v0_1 ≤ i0 → Qh4 p0 (Q75 p0 i0 v0_1) (Q3j p0 r0 i0 v0_1)
 | [], i0, v0_1, hd, ho0_0 => by
  have hc0 : (decide ((i0 : Int) < ((List.length p0) : Int))) = false := by have hL := (Q2m (List.length p0) p0 rfl); have := Q1m hd; simp; omega
  rw [Q3j]
  exact Q190 p0 H i0 v0_1 ho0_0 hc0
 | x0 :: r0, i0, v0_1, hd, ho0_0 => by
  obtain ⟨hx0, hi0, hd'⟩ := Q1k hd
  have hc0 : (decide ((i0 : Int) < ((List.length p0) : Int))) = true := by have hL := (Q2m (List.length p0) p0 rfl); simp; omega
  rw [Q3j]
  cases h0 : (((i0 + 1 : Nat) : Int) == ((List.length p0) : Int)) with
  | true =>
   have e0 := eq_of_beq h0
   exact Q8f p0 (fun r hr => Q16t p0 H x0 i0 v0_1 hx0 hi0 ho0_0 hc0 h0 hr) _ (Qcx p0 H r0 (i0 + 1) (v0_1 ++ [x0]) hd' (by first | omega | (simp; omega)))
  | false =>
   have e0 := beq_eq_false_iff_ne.1 h0
   cases h1 : (sEq (List.getD (Qv (List.length p0) p0) (Int.toNat ((i0 + 1 : Nat) : Int)) zF).name x0.name) with
   | true =>
    exact Q8f p0 (fun r hr => Q16u p0 H x0 i0 v0_1 hx0 hi0 ho0_0 hc0 h0 h1 hr) _ (Qcx p0 H r0 (i0 + 1) v0_1 hd' (by first | omega | (simp; omega)))
   | false =>
    exact Q8f p0 (fun r hr => Q16v p0 H x0 i0 v0_1 hx0 hi0 ho0_0 hc0 h0 h1 hr) _ (Qcx p0 H r0 (i0 + 1) (v0_1 ++ [x0]) hd' (by first | omega | (simp; omega)))
def Q50 (p0 : List Fld) : Val :=
 (Val.mk 5 0 eB [] (Q3j p0 (Qv (List.length p0) p0) 0 []))
def Q90 (p0 : List Fld) : En := .call 78 [.sl (Fld.rows p0)] []
def Q1os (p0 : List Fld) : Rs := .ret (.agg (Val.cells (Q50 p0))) []
def Q8e (p0 : List Fld) : Prop := (List.length p0 * 96 ≤ 140737488355328) ∧ (((List.length p0) : Int) ≤ 20) ∧ (Qa2 p0) ∧ (Qn2 (Val.mk 5 0 eB [] (Q3j p0 (Qv (List.length p0) p0) 0 []))) ∧ True
theorem Q9v (p0 : List Fld) (H : Q8e p0) : Q7 G (Q90 p0) (Q1os p0) := by
 unfold Q1os Q50
 have hl0 := Qcx p0 (H.2.2.1) (Qv (List.length p0) p0) 0 [] (by simp) (by simp)
 obtain ⟨z0, zo0, hl0⟩ := hl0
 exact Q8 (fn := Ir.K50) rfl VOK.nil [hQ (Fld.Qb p0 6 rfl), hQ (Fld.Qb (Qv (List.length p0) p0) 6 rfl), hS 0 false (Fld.Qb (Qv (List.length p0) p0) 6 rfl), hS 0 true (Fld.Qb (Q3j p0 (Qv (List.length p0) p0) 0 []) 6 rfl), hQ (Fld.Q9 (Q3j p0 (Qv (List.length p0) p0) 0 [])).symm] [aV [(0, Fld.rows p0)] (Q8x (G := G) (f := 185) (sz := 6) (bytes := 96) rfl (Fld.Q9 p0) (Fld.Qb p0 6 rfl) H.1), aV [(0, Fld.rows (Qv (List.length p0) p0))] (Q17m (List.length p0) p0 rfl (H.2.1)), aV [(1, Fld.rows (Qv (List.length p0) p0)), (6, Fld.rows (Q3j p0 (Qv (List.length p0) p0) 0 []))] hl0, aN (Q1j8 (Val.mk 5 0 eB [] (Q3j p0 (Qv (List.length p0) p0) 0 [])) H.2.2.2.1)] (by kernel_rfl)
end Go.Proofs.YtimjjohlpnkacaaGreat
end

section
/- Maps of at most 20 fields, fields of a name and equality in plain words. -/
namespace Go.Proofs.YtimjjohlpnkacaaGreat
open Go.Pv Go.Pv.Srt
theorem vind {P : Val → Prop} (h : ∀ v : Val, (∀ x ∈ v.list, P x) → (∀ f ∈ v.fields, P f.v) → P v) : ∀ v, P v := by
  have key : ∀ (k : Nat) (v : Val), SizeOf.sizeOf v < k → P v := by
    intro k
    induction k with
    | zero => intro v hv; exact absurd hv (Nat.not_lt_zero _)
    | succ k ih => intro v hv; exact h v (fun x hx => ih x (by have := szM hx; omega)) (fun f hf => ih f.v (by have := szN hf; omega))
  exact fun v => key _ v (Nat.lt_succ_self _)
theorem vprt (v : Val) (n : BA) : (Qn8 v n).1 = prt v n := by
  unfold Qn8 prt
  cases v.kind == 5 with
  | false => rfl
  | true =>
    simp only [cond_true]
    have : ∀ (l : List Fld) (i : Nat), (match Q79 v n l i with | .k0 => (Val.mk 0 0 ⟨#[]⟩ [] [], false) | .k1 y => (y, true)).1 = Q15u n l := by
      intro l
      induction l with
      | nil => intro i; rfl
      | cons x l ih =>
        intro i
        rw [Q79, Q15u]
        cases sEq x.name n with
        | true => rfl
        | false => exact ih (i + 1)
    exact this _ _
abbrev Qdy : Fld := zF
theorem Q1h4 (n0 : Nat) (a b i : Int) : ∀ (k : Nat) (v : List Fld) (j : Int), Q3m n0 a b i k v j = ins1 Qdy cNm a k v j
  | 0, _, _ => rfl
  | k + 1, v, j => by
    rw [Q3m, ins1, Q1h4 n0 a b i k]
    rfl
theorem Q1h3 (n0 : Nat) (a b : Int) : ∀ (k : Nat) (i : Int) (v : List Fld), Q4c n0 a b k i v = ins0 Qdy cNm a b k i v
  | 0, _, _ => rfl
  | k + 1, i, v => by
    rw [Q4c, ins0, Q1h3 n0 a b k, Q1h4]
theorem Q1qj (n0 : Nat) (d : List Fld) (a b : Int) : Q2a n0 d a b = ins Qdy cNm d a b := Q1h3 n0 a b _ _ _
theorem Quq {l : List Fld} (h : l.length ≤ 20) : Qv l.length l = Qdo cNm l := by
  unfold Qv Q4z
  have i1 : ∀ v, Q5c l.length (l.length : Int) (0 + 1) v = v := fun v => rfl
  rw [i1, Q1qj, Q3d]
  by_cases c : (20 : Int) ≤ (l.length : Int)
  · rw [show decide ((20 : Int) ≤ (l.length : Int)) = true by simpa using c, cond_true, Q1qj, show Int.toNat ((l.length : Int) + 20 - 20) = 19 + 1 by omega, Q3d, show decide ((20 : Int) + 20 ≤ (l.length : Int)) = false by simp; omega, cond_false]
    have e1 := Qtx (z := Qdy) (c := cNm) (d := l) (A := []) (M := l) (C := []) (a := 0) (b := 20) (by simp) rfl (by omega)
    rw [List.nil_append, List.append_nil] at e1
    rw [e1, Qtx (z := Qdy) (c := cNm) (d := Qdo cNm l) (A := Qdo cNm l) (M := []) (C := []) (by simp) (by rw [Qm0 _ (Qal Fld.name)]; omega) (by simp; omega)]
    simp [Qdo]
  · rw [show decide ((20 : Int) ≤ (l.length : Int)) = false by simpa using c, cond_false]
    have e1 := Qtx (z := Qdy) (c := cNm) (d := l) (A := []) (M := l) (C := []) (a := 0) (b := (l.length : Int)) (by simp) rfl (by omega)
    rw [List.nil_append, List.append_nil] at e1
    exact e1
theorem Qdp (p : List Fld) : (Qdo cNm p).length = p.length := Qm0 _ (Qal Fld.name) p
theorem Q1b7 {p : List Fld} (hp : p.length ≤ 20) : ∀ (r : List Fld) (i : Nat) (a : List Fld), (Qdo cNm p).drop i = r → Q3j p r i a = a ++ lasts r
  | [], i, a, _ => by rw [Q3j, lasts]; simp
  | [x], i, a, hd => by
    have hl := Qdp p
    have h := congrArg List.length hd
    rw [List.length_drop, List.length_singleton] at h
    rw [Q3j, show (((i + 1 : Nat) : Int) == (List.length p : Int)) = true by simp; omega, cond_true, Q3j]
    rfl
  | x :: y :: r, i, a, hd => by
    have hl := Qdp p
    have h := congrArg List.length hd
    rw [List.length_drop, List.length_cons, List.length_cons] at h
    obtain ⟨_, _, hd'⟩ := Q1k hd
    obtain ⟨hy, _, _⟩ := Q1k hd'
    rw [Q3j, show (((i + 1 : Nat) : Int) == (List.length p : Int)) = false by simp; omega, cond_false, Quq hp, Int.toNat_natCast, List.getD_eq_getElem?_getD, hy, Option.getD_some, lasts]
    cases sEq y.name x.name with
    | true => rw [cond_true, cond_true, Q1b7 hp (y :: r) (i + 1) a hd']
    | false => rw [cond_false, cond_false, Q1b7 hp (y :: r) (i + 1) _ hd']; simp
theorem Qmw {p : List Fld} (hp : p.length ≤ 20) : Q3j p (Qv p.length p) 0 [] = mapOf p := by
  rw [Q1b7 hp _ 0 [] (by rw [Quq hp]; rfl), Quq hp]
  rfl
theorem vmap {p : List Fld} (hp : p.length ≤ 20) : Q50 p = vM (mapOf p) := by
  unfold Q50
  rw [Qmw hp]
theorem Q5i {p : List Fld} (hp : p.length ≤ 20) (hs : ssb p = true) : Q50 p = vM p := by rw [vmap hp, Q1b5 hs]
theorem Q1nb {l : List Fld} (hl : l.length ≤ 20) (h : ∀ f ∈ l, Val.Sm sB f.v) : Val.Sm sB (vM (mapOf l)) :=
  .mk _ (Nat.zero_le _) (Nat.le_trans (Q1b4 l) (by show l.length ≤ 1000000000; omega)) (fun _ g => by cases g) fun f hf => h f (Q1b6 hf)
theorem Q96 {l : List Fld} (hl : l.length ≤ 20) (h : ∀ f ∈ l, Val.Sm sB f.v) : Q8e l := by
  refine ⟨by omega, by omega, ⟨?_, trivial⟩, ?_, trivial⟩
  · rw [Quq hl, Qdp]
    omega
  · rw [Qmw hl]
    exact Q1nb hl h
theorem Q1mt {v : Val} (h : Val.Sm sB v) (n : BA) : Q1d9 v n := ⟨⟨Nat.le_trans h.all.2.1 (Nat.le_of_ble_eq_true rfl), h.all.2.2.2, trivial⟩, trivial⟩
end Go.Proofs.YtimjjohlpnkacaaGreat
end

section
/- Structures and kinds of objects as values, in plain words (printed by a program). -/
namespace Go.Proofs.YtimjjohlpnkacaaGreat
open Go.Pv
structure Requirement where
  key : ByteArray
  op : Int
  values : List ByteArray
def Requirement.cells (x : Requirement) : List PV :=
  [.str x.key, .int .i64 x.op, .sl (Qn x.values)]
def Requirement.rows (l : List Requirement) : List (List PV) := l.map Requirement.cells
theorem Requirement.Q9 (l : List Requirement) : (Requirement.rows l).length = l.length := by simp [Requirement.rows]
theorem Requirement.Qo {l : List Requirement} {i : Nat} {x : Requirement} (h : l[i]? = some x) : (Requirement.rows l)[i]? = some (Requirement.cells x) := Go.Pv.Qo h
theorem Requirement.Q1t (l : List Requirement) (x : Requirement) : Requirement.rows (l ++ [x]) = Requirement.rows l ++ [Requirement.cells x] := by simp [Requirement.rows]
theorem Requirement.Qu (l : List Requirement) : ∀ r ∈ Requirement.rows l, r.length = 3 := Q5n (f := Requirement.cells) (fun _ => rfl) l
theorem Requirement.Qb (l : List Requirement) (sz : Nat) (h : sz = 3) : ViewOK sz (Requirement.rows l).flatten (Requirement.rows l) := by subst h; exact ⟨rfl, Requirement.Qu l, Q4d (f := Requirement.cells) (fun _ => rfl) l⟩
structure Label where
  key : ByteArray
  value : ByteArray
def Label.cells (x : Label) : List PV :=
  [.str x.key, .str x.value]
def Label.rows (l : List Label) : List (List PV) := l.map Label.cells
theorem Label.Q9 (l : List Label) : (Label.rows l).length = l.length := by simp [Label.rows]
theorem Label.Qo {l : List Label} {i : Nat} {x : Label} (h : l[i]? = some x) : (Label.rows l)[i]? = some (Label.cells x) := Go.Pv.Qo h
theorem Label.Q1t (l : List Label) (x : Label) : Label.rows (l ++ [x]) = Label.rows l ++ [Label.cells x] := by simp [Label.rows]
theorem Label.Qu (l : List Label) : ∀ r ∈ Label.rows l, r.length = 2 := Q5n (f := Label.cells) (fun _ => rfl) l
theorem Label.Qb (l : List Label) (sz : Nat) (h : sz = 2) : ViewOK sz (Label.rows l).flatten (Label.rows l) := by subst h; exact ⟨rfl, Label.Qu l, Q4d (f := Label.cells) (fun _ => rfl) l⟩
structure Resources where
  cPU : Int
  memory : Int
  disk : Int
def Resources.cells (x : Resources) : List PV :=
  [.int .i64 x.cPU, .int .i64 x.memory, .int .i64 x.disk]
def Resources.rows (l : List Resources) : List (List PV) := l.map Resources.cells
structure Probe where
  delay : Int
  period : Int
  success : Int
  failure : Int
def Probe.cells (x : Probe) : List PV :=
  [.int .i64 x.delay, .int .i64 x.period, .int .i64 x.success, .int .i64 x.failure]
def Probe.rows (l : List Probe) : List (List PV) := l.map Probe.cells
theorem Probe.Q9 (l : List Probe) : (Probe.rows l).length = l.length := by simp [Probe.rows]
theorem Probe.Qo {l : List Probe} {i : Nat} {x : Probe} (h : l[i]? = some x) : (Probe.rows l)[i]? = some (Probe.cells x) := Go.Pv.Qo h
theorem Probe.Q1t (l : List Probe) (x : Probe) : Probe.rows (l ++ [x]) = Probe.rows l ++ [Probe.cells x] := by simp [Probe.rows]
theorem Probe.Qu (l : List Probe) : ∀ r ∈ Probe.rows l, r.length = 4 := Q5n (f := Probe.cells) (fun _ => rfl) l
theorem Probe.Qb (l : List Probe) (sz : Nat) (h : sz = 4) : ViewOK sz (Probe.rows l).flatten (Probe.rows l) := by subst h; exact ⟨rfl, Probe.Qu l, Q4d (f := Probe.cells) (fun _ => rfl) l⟩
structure Container where
  name : ByteArray
  image : ByteArray
  request : Resources
  limit : Resources
  live : List Probe
  ready : List Probe
  startup : List Probe
def Container.cells (x : Container) : List PV :=
  [.str x.name, .str x.image, .int .i64 x.request.cPU, .int .i64 x.request.memory, .int .i64 x.request.disk, .int .i64 x.limit.cPU, .int .i64 x.limit.memory, .int .i64 x.limit.disk, .sl (Probe.rows x.live), .sl (Probe.rows x.ready), .sl (Probe.rows x.startup)]
def Container.rows (l : List Container) : List (List PV) := l.map Container.cells
theorem Container.Q9 (l : List Container) : (Container.rows l).length = l.length := by simp [Container.rows]
theorem Container.Qo {l : List Container} {i : Nat} {x : Container} (h : l[i]? = some x) : (Container.rows l)[i]? = some (Container.cells x) := Go.Pv.Qo h
theorem Container.Q1t (l : List Container) (x : Container) : Container.rows (l ++ [x]) = Container.rows l ++ [Container.cells x] := by simp [Container.rows]
theorem Container.Qu (l : List Container) : ∀ r ∈ Container.rows l, r.length = 11 := Q5n (f := Container.cells) (fun _ => rfl) l
theorem Container.Qb (l : List Container) (sz : Nat) (h : sz = 11) : ViewOK sz (Container.rows l).flatten (Container.rows l) := by subst h; exact ⟨rfl, Container.Qu l, Q4d (f := Container.cells) (fun _ => rfl) l⟩
structure NodeTerm where
  required : Bool
  selector : List Requirement
  weight : Int
def NodeTerm.cells (x : NodeTerm) : List PV :=
  [.bool x.required, .sl (Requirement.rows x.selector), .int .i64 x.weight]
def NodeTerm.rows (l : List NodeTerm) : List (List PV) := l.map NodeTerm.cells
theorem NodeTerm.Q9 (l : List NodeTerm) : (NodeTerm.rows l).length = l.length := by simp [NodeTerm.rows]
theorem NodeTerm.Qo {l : List NodeTerm} {i : Nat} {x : NodeTerm} (h : l[i]? = some x) : (NodeTerm.rows l)[i]? = some (NodeTerm.cells x) := Go.Pv.Qo h
theorem NodeTerm.Q1t (l : List NodeTerm) (x : NodeTerm) : NodeTerm.rows (l ++ [x]) = NodeTerm.rows l ++ [NodeTerm.cells x] := by simp [NodeTerm.rows]
theorem NodeTerm.Qu (l : List NodeTerm) : ∀ r ∈ NodeTerm.rows l, r.length = 3 := Q5n (f := NodeTerm.cells) (fun _ => rfl) l
theorem NodeTerm.Qb (l : List NodeTerm) (sz : Nat) (h : sz = 3) : ViewOK sz (NodeTerm.rows l).flatten (NodeTerm.rows l) := by subst h; exact ⟨rfl, NodeTerm.Qu l, Q4d (f := NodeTerm.cells) (fun _ => rfl) l⟩
structure PodTerm where
  required : Bool
  anti : Bool
  selector : List Requirement
  topology : ByteArray
  weight : Int
def PodTerm.cells (x : PodTerm) : List PV :=
  [.bool x.required, .bool x.anti, .sl (Requirement.rows x.selector), .str x.topology, .int .i64 x.weight]
def PodTerm.rows (l : List PodTerm) : List (List PV) := l.map PodTerm.cells
theorem PodTerm.Q9 (l : List PodTerm) : (PodTerm.rows l).length = l.length := by simp [PodTerm.rows]
theorem PodTerm.Qo {l : List PodTerm} {i : Nat} {x : PodTerm} (h : l[i]? = some x) : (PodTerm.rows l)[i]? = some (PodTerm.cells x) := Go.Pv.Qo h
theorem PodTerm.Q1t (l : List PodTerm) (x : PodTerm) : PodTerm.rows (l ++ [x]) = PodTerm.rows l ++ [PodTerm.cells x] := by simp [PodTerm.rows]
theorem PodTerm.Qu (l : List PodTerm) : ∀ r ∈ PodTerm.rows l, r.length = 5 := Q5n (f := PodTerm.cells) (fun _ => rfl) l
theorem PodTerm.Qb (l : List PodTerm) (sz : Nat) (h : sz = 5) : ViewOK sz (PodTerm.rows l).flatten (PodTerm.rows l) := by subst h; exact ⟨rfl, PodTerm.Qu l, Q4d (f := PodTerm.cells) (fun _ => rfl) l⟩
structure SpreadRule where
  maxSkew : Int
  topology : ByteArray
  selector : List Requirement
  required : Bool
def SpreadRule.cells (x : SpreadRule) : List PV :=
  [.int .i64 x.maxSkew, .str x.topology, .sl (Requirement.rows x.selector), .bool x.required]
def SpreadRule.rows (l : List SpreadRule) : List (List PV) := l.map SpreadRule.cells
theorem SpreadRule.Q9 (l : List SpreadRule) : (SpreadRule.rows l).length = l.length := by simp [SpreadRule.rows]
theorem SpreadRule.Qo {l : List SpreadRule} {i : Nat} {x : SpreadRule} (h : l[i]? = some x) : (SpreadRule.rows l)[i]? = some (SpreadRule.cells x) := Go.Pv.Qo h
theorem SpreadRule.Q1t (l : List SpreadRule) (x : SpreadRule) : SpreadRule.rows (l ++ [x]) = SpreadRule.rows l ++ [SpreadRule.cells x] := by simp [SpreadRule.rows]
theorem SpreadRule.Qu (l : List SpreadRule) : ∀ r ∈ SpreadRule.rows l, r.length = 4 := Q5n (f := SpreadRule.cells) (fun _ => rfl) l
theorem SpreadRule.Qb (l : List SpreadRule) (sz : Nat) (h : sz = 4) : ViewOK sz (SpreadRule.rows l).flatten (SpreadRule.rows l) := by subst h; exact ⟨rfl, SpreadRule.Qu l, Q4d (f := SpreadRule.cells) (fun _ => rfl) l⟩
structure Toleration where
  key : ByteArray
  value : ByteArray
  exists_ : Bool
  effect : Int
  seconds : Int
def Toleration.cells (x : Toleration) : List PV :=
  [.str x.key, .str x.value, .bool x.exists_, .int .i64 x.effect, .int .i64 x.seconds]
def Toleration.rows (l : List Toleration) : List (List PV) := l.map Toleration.cells
theorem Toleration.Q9 (l : List Toleration) : (Toleration.rows l).length = l.length := by simp [Toleration.rows]
theorem Toleration.Qo {l : List Toleration} {i : Nat} {x : Toleration} (h : l[i]? = some x) : (Toleration.rows l)[i]? = some (Toleration.cells x) := Go.Pv.Qo h
theorem Toleration.Q1t (l : List Toleration) (x : Toleration) : Toleration.rows (l ++ [x]) = Toleration.rows l ++ [Toleration.cells x] := by simp [Toleration.rows]
theorem Toleration.Qu (l : List Toleration) : ∀ r ∈ Toleration.rows l, r.length = 5 := Q5n (f := Toleration.cells) (fun _ => rfl) l
theorem Toleration.Qb (l : List Toleration) (sz : Nat) (h : sz = 5) : ViewOK sz (Toleration.rows l).flatten (Toleration.rows l) := by subst h; exact ⟨rfl, Toleration.Qu l, Q4d (f := Toleration.cells) (fun _ => rfl) l⟩
structure PodSpec where
  node : ByteArray
  priority : Int
  restart : Int
  grace : Int
  containers : List Container
  nodeSelector : List Requirement
  nodeTerms : List NodeTerm
  podTerms : List PodTerm
  spread : List SpreadRule
  tolerations : List Toleration
def PodSpec.cells (x : PodSpec) : List PV :=
  [.str x.node, .int .i64 x.priority, .int .i64 x.restart, .int .i64 x.grace, .sl (Container.rows x.containers), .sl (Requirement.rows x.nodeSelector), .sl (NodeTerm.rows x.nodeTerms), .sl (PodTerm.rows x.podTerms), .sl (SpreadRule.rows x.spread), .sl (Toleration.rows x.tolerations)]
def PodSpec.rows (l : List PodSpec) : List (List PV) := l.map PodSpec.cells
structure Template where
  labels : List Label
  spec : PodSpec
def Template.cells (x : Template) : List PV :=
  [.sl (Label.rows x.labels), .str x.spec.node, .int .i64 x.spec.priority, .int .i64 x.spec.restart, .int .i64 x.spec.grace, .sl (Container.rows x.spec.containers), .sl (Requirement.rows x.spec.nodeSelector), .sl (NodeTerm.rows x.spec.nodeTerms), .sl (PodTerm.rows x.spec.podTerms), .sl (SpreadRule.rows x.spec.spread), .sl (Toleration.rows x.spec.tolerations)]
def Template.rows (l : List Template) : List (List PV) := l.map Template.cells
structure Amount where
  percent : Bool
  n : Int
def Amount.cells (x : Amount) : List PV :=
  [.bool x.percent, .int .i64 x.n]
def Amount.rows (l : List Amount) : List (List PV) := l.map Amount.cells
structure WorkStatus where
  observed : Int
  replicas : Int
  updated : Int
  ready : Int
  available : Int
  progress : Int
  failed : Bool
def WorkStatus.cells (x : WorkStatus) : List PV :=
  [.int .i64 x.observed, .int .i64 x.replicas, .int .i64 x.updated, .int .i64 x.ready, .int .i64 x.available, .int .i64 x.progress, .bool x.failed]
def WorkStatus.rows (l : List WorkStatus) : List (List PV) := l.map WorkStatus.cells
structure Metric where
  name : ByteArray
  target : Int
def Metric.cells (x : Metric) : List PV :=
  [.str x.name, .int .i64 x.target]
def Metric.rows (l : List Metric) : List (List PV) := l.map Metric.cells
structure Advice where
  at_ : Int
  replicas : Int
def Advice.cells (x : Advice) : List PV :=
  [.int .i64 x.at_, .int .i64 x.replicas]
def Advice.rows (l : List Advice) : List (List PV) := l.map Advice.cells
structure WorkItem where
  key : ByteArray
  at_ : Int
def WorkItem.cells (x : WorkItem) : List PV :=
  [.str x.key, .int .i64 x.at_]
def WorkItem.rows (l : List WorkItem) : List (List PV) := l.map WorkItem.cells
structure ServicePort where
  name : ByteArray
  port : Int
  target : Int
def ServicePort.cells (x : ServicePort) : List PV :=
  [.str x.name, .int .i64 x.port, .int .i64 x.target]
def ServicePort.rows (l : List ServicePort) : List (List PV) := l.map ServicePort.cells
structure Endpoint where
  pod : ByteArray
  node : ByteArray
  address : Int
  ready : Bool
  terminating : Bool
def Endpoint.cells (x : Endpoint) : List PV :=
  [.str x.pod, .str x.node, .int .i64 x.address, .bool x.ready, .bool x.terminating]
def Endpoint.rows (l : List Endpoint) : List (List PV) := l.map Endpoint.cells
structure Peer where
  namespace_ : ByteArray
  selector : List Requirement
def Peer.cells (x : Peer) : List PV :=
  [.str x.namespace_, .sl (Requirement.rows x.selector)]
def Peer.rows (l : List Peer) : List (List PV) := l.map Peer.cells
structure PolicyRule where
  egress : Bool
  peers : List Peer
  ports : List Int
def PolicyRule.cells (x : PolicyRule) : List PV :=
  [.bool x.egress, .sl (Peer.rows x.peers), .sl (Q10g x.ports)]
def PolicyRule.rows (l : List PolicyRule) : List (List PV) := l.map PolicyRule.cells
structure Owner where
  kind : ByteArray
  name : ByteArray
  uid : Int
  controller : Bool
  block : Bool
def Owner.cells (x : Owner) : List PV :=
  [.str x.kind, .str x.name, .int .i64 x.uid, .bool x.controller, .bool x.block]
def Owner.rows (l : List Owner) : List (List PV) := l.map Owner.cells
theorem Owner.Q9 (l : List Owner) : (Owner.rows l).length = l.length := by simp [Owner.rows]
theorem Owner.Qo {l : List Owner} {i : Nat} {x : Owner} (h : l[i]? = some x) : (Owner.rows l)[i]? = some (Owner.cells x) := Go.Pv.Qo h
theorem Owner.Qu (l : List Owner) : ∀ r ∈ Owner.rows l, r.length = 5 := Q5n (f := Owner.cells) (fun _ => rfl) l
theorem Owner.Qb (l : List Owner) (sz : Nat) (h : sz = 5) : ViewOK sz (Owner.rows l).flatten (Owner.rows l) := by subst h; exact ⟨rfl, Owner.Qu l, Q4d (f := Owner.cells) (fun _ => rfl) l⟩
structure Manager where
  name : ByteArray
  fields : List ByteArray
def Manager.cells (x : Manager) : List PV :=
  [.str x.name, .sl (Qn x.fields)]
def Manager.rows (l : List Manager) : List (List PV) := l.map Manager.cells
theorem Manager.Q9 (l : List Manager) : (Manager.rows l).length = l.length := by simp [Manager.rows]
theorem Manager.Qo {l : List Manager} {i : Nat} {x : Manager} (h : l[i]? = some x) : (Manager.rows l)[i]? = some (Manager.cells x) := Go.Pv.Qo h
theorem Manager.Qu (l : List Manager) : ∀ r ∈ Manager.rows l, r.length = 2 := Q5n (f := Manager.cells) (fun _ => rfl) l
theorem Manager.Qb (l : List Manager) (sz : Nat) (h : sz = 2) : ViewOK sz (Manager.rows l).flatten (Manager.rows l) := by subst h; exact ⟨rfl, Manager.Qu l, Q4d (f := Manager.cells) (fun _ => rfl) l⟩
structure Meta where
  kind : ByteArray
  namespace_ : ByteArray
  name : ByteArray
  uid : Int
  version : Int
  generation : Int
  created : Int
  deleting : Bool
  deleteAt : Int
  labels : List Label
  owners : List Owner
  finalizers : List ByteArray
  managers : List Manager
def Meta.cells (x : Meta) : List PV :=
  [.str x.kind, .str x.namespace_, .str x.name, .int .i64 x.uid, .int .i64 x.version, .int .i64 x.generation, .int .i64 x.created, .bool x.deleting, .int .i64 x.deleteAt, .sl (Label.rows x.labels), .sl (Owner.rows x.owners), .sl (Qn x.finalizers), .sl (Manager.rows x.managers)]
def Meta.rows (l : List Meta) : List (List PV) := l.map Meta.cells
structure Object where
  meta_ : Meta
  spec : Val
  status : Val
def Object.cells (x : Object) : List PV :=
  [.str x.meta_.kind, .str x.meta_.namespace_, .str x.meta_.name, .int .i64 x.meta_.uid, .int .i64 x.meta_.version, .int .i64 x.meta_.generation, .int .i64 x.meta_.created, .bool x.meta_.deleting, .int .i64 x.meta_.deleteAt, .sl (Label.rows x.meta_.labels), .sl (Owner.rows x.meta_.owners), .sl (Qn x.meta_.finalizers), .sl (Manager.rows x.meta_.managers), .int .i64 x.spec.kind, .int .i64 x.spec.n, .str x.spec.s, .sl (Val.rows x.spec.list), .sl (Fld.rows x.spec.fields), .int .i64 x.status.kind, .int .i64 x.status.n, .str x.status.s, .sl (Val.rows x.status.list), .sl (Fld.rows x.status.fields)]
def Object.rows (l : List Object) : List (List PV) := l.map Object.cells
structure Job where
  meta_ : Meta
  completions : Int
  parallelism : Int
  retries : Int
  deadline : Int
  indexed : Bool
  suspended : Bool
  template : Template
  active : Int
  succeeded : Int
  failed : Int
  started : Int
  finished : Int
  done : List Int
  result : Int
def Job.cells (x : Job) : List PV :=
  [.str x.meta_.kind, .str x.meta_.namespace_, .str x.meta_.name, .int .i64 x.meta_.uid, .int .i64 x.meta_.version, .int .i64 x.meta_.generation, .int .i64 x.meta_.created, .bool x.meta_.deleting, .int .i64 x.meta_.deleteAt, .sl (Label.rows x.meta_.labels), .sl (Owner.rows x.meta_.owners), .sl (Qn x.meta_.finalizers), .sl (Manager.rows x.meta_.managers), .int .i64 x.completions, .int .i64 x.parallelism, .int .i64 x.retries, .int .i64 x.deadline, .bool x.indexed, .bool x.suspended, .sl (Label.rows x.template.labels), .str x.template.spec.node, .int .i64 x.template.spec.priority, .int .i64 x.template.spec.restart, .int .i64 x.template.spec.grace, .sl (Container.rows x.template.spec.containers), .sl (Requirement.rows x.template.spec.nodeSelector), .sl (NodeTerm.rows x.template.spec.nodeTerms), .sl (PodTerm.rows x.template.spec.podTerms), .sl (SpreadRule.rows x.template.spec.spread), .sl (Toleration.rows x.template.spec.tolerations), .int .i64 x.active, .int .i64 x.succeeded, .int .i64 x.failed, .int .i64 x.started, .int .i64 x.finished, .sl (Q10g x.done), .int .i64 x.result]
def Job.rows (l : List Job) : List (List PV) := l.map Job.cells
structure Deployment where
  meta_ : Meta
  replicas : Int
  minReady : Int
  history : Int
  deadline : Int
  selector : List Requirement
  template : Template
  recreate : Bool
  paused : Bool
  surge : Amount
  unavailable : Amount
  undo : Int
  status : WorkStatus
def Deployment.cells (x : Deployment) : List PV :=
  [.str x.meta_.kind, .str x.meta_.namespace_, .str x.meta_.name, .int .i64 x.meta_.uid, .int .i64 x.meta_.version, .int .i64 x.meta_.generation, .int .i64 x.meta_.created, .bool x.meta_.deleting, .int .i64 x.meta_.deleteAt, .sl (Label.rows x.meta_.labels), .sl (Owner.rows x.meta_.owners), .sl (Qn x.meta_.finalizers), .sl (Manager.rows x.meta_.managers), .int .i64 x.replicas, .int .i64 x.minReady, .int .i64 x.history, .int .i64 x.deadline, .sl (Requirement.rows x.selector), .sl (Label.rows x.template.labels), .str x.template.spec.node, .int .i64 x.template.spec.priority, .int .i64 x.template.spec.restart, .int .i64 x.template.spec.grace, .sl (Container.rows x.template.spec.containers), .sl (Requirement.rows x.template.spec.nodeSelector), .sl (NodeTerm.rows x.template.spec.nodeTerms), .sl (PodTerm.rows x.template.spec.podTerms), .sl (SpreadRule.rows x.template.spec.spread), .sl (Toleration.rows x.template.spec.tolerations), .bool x.recreate, .bool x.paused, .bool x.surge.percent, .int .i64 x.surge.n, .bool x.unavailable.percent, .int .i64 x.unavailable.n, .int .i64 x.undo, .int .i64 x.status.observed, .int .i64 x.status.replicas, .int .i64 x.status.updated, .int .i64 x.status.ready, .int .i64 x.status.available, .int .i64 x.status.progress, .bool x.status.failed]
def Deployment.rows (l : List Deployment) : List (List PV) := l.map Deployment.cells
structure Autoscaler where
  meta_ : Meta
  targetKind : ByteArray
  target : ByteArray
  min_ : Int
  max_ : Int
  metrics : List Metric
  tolerance : Int
  upWindow : Int
  downWindow : Int
  upStep : Amount
  downStep : Amount
  period : Int
  advice : List Advice
  scaled : Int
def Autoscaler.cells (x : Autoscaler) : List PV :=
  [.str x.meta_.kind, .str x.meta_.namespace_, .str x.meta_.name, .int .i64 x.meta_.uid, .int .i64 x.meta_.version, .int .i64 x.meta_.generation, .int .i64 x.meta_.created, .bool x.meta_.deleting, .int .i64 x.meta_.deleteAt, .sl (Label.rows x.meta_.labels), .sl (Owner.rows x.meta_.owners), .sl (Qn x.meta_.finalizers), .sl (Manager.rows x.meta_.managers), .str x.targetKind, .str x.target, .int .i64 x.min_, .int .i64 x.max_, .sl (Metric.rows x.metrics), .int .i64 x.tolerance, .int .i64 x.upWindow, .int .i64 x.downWindow, .bool x.upStep.percent, .int .i64 x.upStep.n, .bool x.downStep.percent, .int .i64 x.downStep.n, .int .i64 x.period, .sl (Advice.rows x.advice), .int .i64 x.scaled]
def Autoscaler.rows (l : List Autoscaler) : List (List PV) := l.map Autoscaler.cells
structure ReplicaSet where
  meta_ : Meta
  replicas : Int
  minReady : Int
  revision : Int
  selector : List Requirement
  template : Template
  status : WorkStatus
def ReplicaSet.cells (x : ReplicaSet) : List PV :=
  [.str x.meta_.kind, .str x.meta_.namespace_, .str x.meta_.name, .int .i64 x.meta_.uid, .int .i64 x.meta_.version, .int .i64 x.meta_.generation, .int .i64 x.meta_.created, .bool x.meta_.deleting, .int .i64 x.meta_.deleteAt, .sl (Label.rows x.meta_.labels), .sl (Owner.rows x.meta_.owners), .sl (Qn x.meta_.finalizers), .sl (Manager.rows x.meta_.managers), .int .i64 x.replicas, .int .i64 x.minReady, .int .i64 x.revision, .sl (Requirement.rows x.selector), .sl (Label.rows x.template.labels), .str x.template.spec.node, .int .i64 x.template.spec.priority, .int .i64 x.template.spec.restart, .int .i64 x.template.spec.grace, .sl (Container.rows x.template.spec.containers), .sl (Requirement.rows x.template.spec.nodeSelector), .sl (NodeTerm.rows x.template.spec.nodeTerms), .sl (PodTerm.rows x.template.spec.podTerms), .sl (SpreadRule.rows x.template.spec.spread), .sl (Toleration.rows x.template.spec.tolerations), .int .i64 x.status.observed, .int .i64 x.status.replicas, .int .i64 x.status.updated, .int .i64 x.status.ready, .int .i64 x.status.available, .int .i64 x.status.progress, .bool x.status.failed]
def ReplicaSet.rows (l : List ReplicaSet) : List (List PV) := l.map ReplicaSet.cells
structure Budget where
  meta_ : Meta
  selector : List Requirement
  minAvailable : List Amount
  maxUnavailable : List Amount
  observed : Int
  healthy : Int
  desired : Int
  expected : Int
  allowed : Int
  disrupted : List WorkItem
def Budget.cells (x : Budget) : List PV :=
  [.str x.meta_.kind, .str x.meta_.namespace_, .str x.meta_.name, .int .i64 x.meta_.uid, .int .i64 x.meta_.version, .int .i64 x.meta_.generation, .int .i64 x.meta_.created, .bool x.meta_.deleting, .int .i64 x.meta_.deleteAt, .sl (Label.rows x.meta_.labels), .sl (Owner.rows x.meta_.owners), .sl (Qn x.meta_.finalizers), .sl (Manager.rows x.meta_.managers), .sl (Requirement.rows x.selector), .sl (Amount.rows x.minAvailable), .sl (Amount.rows x.maxUnavailable), .int .i64 x.observed, .int .i64 x.healthy, .int .i64 x.desired, .int .i64 x.expected, .int .i64 x.allowed, .sl (WorkItem.rows x.disrupted)]
def Budget.rows (l : List Budget) : List (List PV) := l.map Budget.cells
structure StatefulSet where
  meta_ : Meta
  replicas : Int
  partition : Int
  minReady : Int
  parallel : Bool
  selector : List Requirement
  template : Template
  status : WorkStatus
def StatefulSet.cells (x : StatefulSet) : List PV :=
  [.str x.meta_.kind, .str x.meta_.namespace_, .str x.meta_.name, .int .i64 x.meta_.uid, .int .i64 x.meta_.version, .int .i64 x.meta_.generation, .int .i64 x.meta_.created, .bool x.meta_.deleting, .int .i64 x.meta_.deleteAt, .sl (Label.rows x.meta_.labels), .sl (Owner.rows x.meta_.owners), .sl (Qn x.meta_.finalizers), .sl (Manager.rows x.meta_.managers), .int .i64 x.replicas, .int .i64 x.partition, .int .i64 x.minReady, .bool x.parallel, .sl (Requirement.rows x.selector), .sl (Label.rows x.template.labels), .str x.template.spec.node, .int .i64 x.template.spec.priority, .int .i64 x.template.spec.restart, .int .i64 x.template.spec.grace, .sl (Container.rows x.template.spec.containers), .sl (Requirement.rows x.template.spec.nodeSelector), .sl (NodeTerm.rows x.template.spec.nodeTerms), .sl (PodTerm.rows x.template.spec.podTerms), .sl (SpreadRule.rows x.template.spec.spread), .sl (Toleration.rows x.template.spec.tolerations), .int .i64 x.status.observed, .int .i64 x.status.replicas, .int .i64 x.status.updated, .int .i64 x.status.ready, .int .i64 x.status.available, .int .i64 x.status.progress, .bool x.status.failed]
def StatefulSet.rows (l : List StatefulSet) : List (List PV) := l.map StatefulSet.cells
structure DaemonSet where
  meta_ : Meta
  minReady : Int
  unavailable : Amount
  selector : List Requirement
  template : Template
  status : WorkStatus
def DaemonSet.cells (x : DaemonSet) : List PV :=
  [.str x.meta_.kind, .str x.meta_.namespace_, .str x.meta_.name, .int .i64 x.meta_.uid, .int .i64 x.meta_.version, .int .i64 x.meta_.generation, .int .i64 x.meta_.created, .bool x.meta_.deleting, .int .i64 x.meta_.deleteAt, .sl (Label.rows x.meta_.labels), .sl (Owner.rows x.meta_.owners), .sl (Qn x.meta_.finalizers), .sl (Manager.rows x.meta_.managers), .int .i64 x.minReady, .bool x.unavailable.percent, .int .i64 x.unavailable.n, .sl (Requirement.rows x.selector), .sl (Label.rows x.template.labels), .str x.template.spec.node, .int .i64 x.template.spec.priority, .int .i64 x.template.spec.restart, .int .i64 x.template.spec.grace, .sl (Container.rows x.template.spec.containers), .sl (Requirement.rows x.template.spec.nodeSelector), .sl (NodeTerm.rows x.template.spec.nodeTerms), .sl (PodTerm.rows x.template.spec.podTerms), .sl (SpreadRule.rows x.template.spec.spread), .sl (Toleration.rows x.template.spec.tolerations), .int .i64 x.status.observed, .int .i64 x.status.replicas, .int .i64 x.status.updated, .int .i64 x.status.ready, .int .i64 x.status.available, .int .i64 x.status.progress, .bool x.status.failed]
def DaemonSet.rows (l : List DaemonSet) : List (List PV) := l.map DaemonSet.cells
structure Service where
  meta_ : Meta
  selector : List Requirement
  ports : List ServicePort
  sticky : Bool
  address : Int
def Service.cells (x : Service) : List PV :=
  [.str x.meta_.kind, .str x.meta_.namespace_, .str x.meta_.name, .int .i64 x.meta_.uid, .int .i64 x.meta_.version, .int .i64 x.meta_.generation, .int .i64 x.meta_.created, .bool x.meta_.deleting, .int .i64 x.meta_.deleteAt, .sl (Label.rows x.meta_.labels), .sl (Owner.rows x.meta_.owners), .sl (Qn x.meta_.finalizers), .sl (Manager.rows x.meta_.managers), .sl (Requirement.rows x.selector), .sl (ServicePort.rows x.ports), .bool x.sticky, .int .i64 x.address]
def Service.rows (l : List Service) : List (List PV) := l.map Service.cells
structure EndpointSet where
  meta_ : Meta
  ports : List ServicePort
  items : List Endpoint
def EndpointSet.cells (x : EndpointSet) : List PV :=
  [.str x.meta_.kind, .str x.meta_.namespace_, .str x.meta_.name, .int .i64 x.meta_.uid, .int .i64 x.meta_.version, .int .i64 x.meta_.generation, .int .i64 x.meta_.created, .bool x.meta_.deleting, .int .i64 x.meta_.deleteAt, .sl (Label.rows x.meta_.labels), .sl (Owner.rows x.meta_.owners), .sl (Qn x.meta_.finalizers), .sl (Manager.rows x.meta_.managers), .sl (ServicePort.rows x.ports), .sl (Endpoint.rows x.items)]
def EndpointSet.rows (l : List EndpointSet) : List (List PV) := l.map EndpointSet.cells
structure NetworkPolicy where
  meta_ : Meta
  selector : List Requirement
  ingress : Bool
  egress : Bool
  rules : List PolicyRule
def NetworkPolicy.cells (x : NetworkPolicy) : List PV :=
  [.str x.meta_.kind, .str x.meta_.namespace_, .str x.meta_.name, .int .i64 x.meta_.uid, .int .i64 x.meta_.version, .int .i64 x.meta_.generation, .int .i64 x.meta_.created, .bool x.meta_.deleting, .int .i64 x.meta_.deleteAt, .sl (Label.rows x.meta_.labels), .sl (Owner.rows x.meta_.owners), .sl (Qn x.meta_.finalizers), .sl (Manager.rows x.meta_.managers), .sl (Requirement.rows x.selector), .bool x.ingress, .bool x.egress, .sl (PolicyRule.rows x.rules)]
def NetworkPolicy.rows (l : List NetworkPolicy) : List (List PV) := l.map NetworkPolicy.cells
structure Quota where
  meta_ : Meta
  hard : Resources
  used : Resources
  pods : Int
  has : Int
def Quota.cells (x : Quota) : List PV :=
  [.str x.meta_.kind, .str x.meta_.namespace_, .str x.meta_.name, .int .i64 x.meta_.uid, .int .i64 x.meta_.version, .int .i64 x.meta_.generation, .int .i64 x.meta_.created, .bool x.meta_.deleting, .int .i64 x.meta_.deleteAt, .sl (Label.rows x.meta_.labels), .sl (Owner.rows x.meta_.owners), .sl (Qn x.meta_.finalizers), .sl (Manager.rows x.meta_.managers), .int .i64 x.hard.cPU, .int .i64 x.hard.memory, .int .i64 x.hard.disk, .int .i64 x.used.cPU, .int .i64 x.used.memory, .int .i64 x.used.disk, .int .i64 x.pods, .int .i64 x.has]
def Quota.rows (l : List Quota) : List (List PV) := l.map Quota.cells
structure CronJob where
  meta_ : Meta
  schedule : ByteArray
  policy : Int
  startWithin : Int
  keepDone : Int
  suspended : Bool
  job : Job
  last : Int
def CronJob.cells (x : CronJob) : List PV :=
  [.str x.meta_.kind, .str x.meta_.namespace_, .str x.meta_.name, .int .i64 x.meta_.uid, .int .i64 x.meta_.version, .int .i64 x.meta_.generation, .int .i64 x.meta_.created, .bool x.meta_.deleting, .int .i64 x.meta_.deleteAt, .sl (Label.rows x.meta_.labels), .sl (Owner.rows x.meta_.owners), .sl (Qn x.meta_.finalizers), .sl (Manager.rows x.meta_.managers), .str x.schedule, .int .i64 x.policy, .int .i64 x.startWithin, .int .i64 x.keepDone, .bool x.suspended, .str x.job.meta_.kind, .str x.job.meta_.namespace_, .str x.job.meta_.name, .int .i64 x.job.meta_.uid, .int .i64 x.job.meta_.version, .int .i64 x.job.meta_.generation, .int .i64 x.job.meta_.created, .bool x.job.meta_.deleting, .int .i64 x.job.meta_.deleteAt, .sl (Label.rows x.job.meta_.labels), .sl (Owner.rows x.job.meta_.owners), .sl (Qn x.job.meta_.finalizers), .sl (Manager.rows x.job.meta_.managers), .int .i64 x.job.completions, .int .i64 x.job.parallelism, .int .i64 x.job.retries, .int .i64 x.job.deadline, .bool x.job.indexed, .bool x.job.suspended, .sl (Label.rows x.job.template.labels), .str x.job.template.spec.node, .int .i64 x.job.template.spec.priority, .int .i64 x.job.template.spec.restart, .int .i64 x.job.template.spec.grace, .sl (Container.rows x.job.template.spec.containers), .sl (Requirement.rows x.job.template.spec.nodeSelector), .sl (NodeTerm.rows x.job.template.spec.nodeTerms), .sl (PodTerm.rows x.job.template.spec.podTerms), .sl (SpreadRule.rows x.job.template.spec.spread), .sl (Toleration.rows x.job.template.spec.tolerations), .int .i64 x.job.active, .int .i64 x.job.succeeded, .int .i64 x.job.failed, .int .i64 x.job.started, .int .i64 x.job.finished, .sl (Q10g x.job.done), .int .i64 x.job.result, .int .i64 x.last]
def CronJob.rows (l : List CronJob) : List (List PV) := l.map CronJob.cells
def Qd : ByteArray := ⟨#[68, 97, 101, 109, 111, 110, 83, 101, 116]⟩
def Qf : ByteArray := ⟨#[82, 101, 112, 108, 105, 99, 97, 83, 101, 116]⟩
def Qc : ByteArray := ⟨#[83, 116, 97, 116, 101, 102, 117, 108, 83, 101, 116]⟩
def Q2q : ByteArray := ⟨#[97, 110, 116, 105]⟩
def Q15q : ByteArray := ⟨#[97, 116]⟩
def Q1u : ByteArray := ⟨#[97, 118, 97, 105, 108, 97, 98, 108, 101]⟩
def Q7p : ByteArray := ⟨#[99, 111, 109, 112, 108, 101, 116, 105, 111, 110, 115]⟩
def Q1d : ByteArray := ⟨#[99, 111, 110, 116, 97, 105, 110, 101, 114, 115]⟩
def Q4y : ByteArray := ⟨#[99, 112, 117]⟩
def Qb3 : ByteArray := ⟨#[100, 101, 97, 100, 108, 105, 110, 101]⟩
def Q29 : ByteArray := ⟨#[100, 101, 108, 97, 121]⟩
def Q4i : ByteArray := ⟨#[100, 105, 115, 107]⟩
def Q27 : ByteArray := ⟨#[101, 102, 102, 101, 99, 116]⟩
def Q22 : ByteArray := ⟨#[101, 120, 105, 115, 116, 115]⟩
def Q31 : ByteArray := ⟨#[102, 97, 105, 108, 101, 100]⟩
def Q1y : ByteArray := ⟨#[102, 97, 105, 108, 117, 114, 101]⟩
def Q2o : ByteArray := ⟨#[103, 114, 97, 99, 101]⟩
def Qx : ByteArray := ⟨#[105, 109, 97, 103, 101]⟩
def Qdq : ByteArray := ⟨#[105, 110, 100, 101, 120, 101, 100]⟩
def Qz : ByteArray := ⟨#[107, 101, 121]⟩
def Q1x : ByteArray := ⟨#[108, 97, 98, 101, 108, 115]⟩
def Q1n : ByteArray := ⟨#[108, 105, 109, 105, 116]⟩
def Q2u : ByteArray := ⟨#[108, 105, 118, 101]⟩
def Q1l : ByteArray := ⟨#[109, 97, 120, 83, 107, 101, 119]⟩
def Q32 : ByteArray := ⟨#[109, 101, 109, 111, 114, 121]⟩
def Q0 : ByteArray := ⟨#[109, 105, 110, 82, 101, 97, 100, 121]⟩
def kw_n : ByteArray := ⟨#[110]⟩
def Q12 : ByteArray := ⟨#[110, 97, 109, 101]⟩
def Q2r : ByteArray := ⟨#[110, 111, 100, 101]⟩
def Q19 : ByteArray := ⟨#[110, 111, 100, 101, 83, 101, 108, 101, 99, 116, 111, 114]⟩
def Q1v : ByteArray := ⟨#[110, 111, 100, 101, 84, 101, 114, 109, 115]⟩
def Q1j : ByteArray := ⟨#[111, 98, 115, 101, 114, 118, 101, 100]⟩
def Q3w : ByteArray := ⟨#[111, 112]⟩
def Q15 : ByteArray := ⟨#[112, 97, 114, 97, 108, 108, 101, 108]⟩
def Q7q : ByteArray := ⟨#[112, 97, 114, 97, 108, 108, 101, 108, 105, 115, 109]⟩
def Qs : ByteArray := ⟨#[112, 97, 114, 116, 105, 116, 105, 111, 110]⟩
def Q2n : ByteArray := ⟨#[112, 101, 114, 99, 101, 110, 116]⟩
def Q23 : ByteArray := ⟨#[112, 101, 114, 105, 111, 100]⟩
def Q2d : ByteArray := ⟨#[112, 111, 100, 84, 101, 114, 109, 115]⟩
def Q1f : ByteArray := ⟨#[112, 114, 105, 111, 114, 105, 116, 121]⟩
def Q2e : ByteArray := ⟨#[112, 114, 111, 103, 114, 101, 115, 115]⟩
def Q1c : ByteArray := ⟨#[114, 101, 97, 100, 121]⟩
def Q6 : ByteArray := ⟨#[114, 101, 112, 108, 105, 99, 97, 115]⟩
def Qj : ByteArray := ⟨#[114, 101, 113, 117, 101, 115, 116]⟩
def Qa : ByteArray := ⟨#[114, 101, 113, 117, 105, 114, 101, 100]⟩
def Q1r : ByteArray := ⟨#[114, 101, 115, 116, 97, 114, 116]⟩
def Qdr : ByteArray := ⟨#[114, 101, 116, 114, 105, 101, 115]⟩
def Q16 : ByteArray := ⟨#[114, 101, 118, 105, 115, 105, 111, 110]⟩
def Q1z : ByteArray := ⟨#[115, 101, 99, 111, 110, 100, 115]⟩
def Q5 : ByteArray := ⟨#[115, 101, 108, 101, 99, 116, 111, 114]⟩
def Q2w : ByteArray := ⟨#[115, 112, 101, 99]⟩
def Q33 : ByteArray := ⟨#[115, 112, 114, 101, 97, 100]⟩
def Q20 : ByteArray := ⟨#[115, 116, 97, 114, 116, 117, 112]⟩
def Q1s : ByteArray := ⟨#[115, 117, 99, 99, 101, 115, 115]⟩
def Q9n : ByteArray := ⟨#[115, 117, 115, 112, 101, 110, 100, 101, 100]⟩
def Qm1 : ByteArray := ⟨#[116, 97, 114, 103, 101, 116]⟩
def Qg : ByteArray := ⟨#[116, 101, 109, 112, 108, 97, 116, 101]⟩
def Q26 : ByteArray := ⟨#[116, 111, 108, 101, 114, 97, 116, 105, 111, 110, 115]⟩
def Qk : ByteArray := ⟨#[116, 111, 112, 111, 108, 111, 103, 121]⟩
def Qe : ByteArray := ⟨#[117, 110, 97, 118, 97, 105, 108, 97, 98, 108, 101]⟩
def Q25 : ByteArray := ⟨#[117, 112, 100, 97, 116, 101, 100]⟩
def Q13 : ByteArray := ⟨#[118, 97, 108, 117, 101]⟩
def Q1g : ByteArray := ⟨#[118, 97, 108, 117, 101, 115]⟩
def Q10 : ByteArray := ⟨#[119, 101, 105, 103, 104, 116]⟩
def Requirement.enc (x : Requirement) : Val := vM [.mk Qz (vS x.key), .mk Q3w (vN x.op), .mk Q1g (vL (x.values.map vS))]
def Requirement.dec (v : Val) : Requirement × Bool := (Requirement.mk (dS v Qz).1 (dN v Q3w).1 (dE xS v Q1g).1, isM v && (dS v Qz).2 && (dN v Q3w).2 && (dE xS v Q1g).2)
def Requirement.sm (x : Requirement) : Prop := LSm (fun _ : ByteArray => True) x.values ∧ True
theorem Requirement.Q24 {x : Requirement} (h : Requirement.sm x) : Val.Sm sB (Requirement.enc x) := Qap (Nat.le_of_ble_eq_true rfl) (List.forall_mem_cons.2 ⟨Val.Sm.leaf 3 _ _, List.forall_mem_cons.2 ⟨Val.Sm.leaf 2 _ _, List.forall_mem_cons.2 ⟨Q2x (fun _ h => Val.Sm.leaf _ _ _) h.1, fun _ h => by cases h⟩⟩⟩)
theorem Requirement.Q1br (x : Requirement) : prt (Requirement.enc x) Qz = vS x.key := by kernel_rfl
theorem Requirement.p_op (x : Requirement) : prt (Requirement.enc x) Q3w = vN x.op := by kernel_rfl
theorem Requirement.Q1f4 (x : Requirement) : prt (Requirement.enc x) Q1g = vL (x.values.map vS) := by kernel_rfl
theorem Requirement.Q2j (x : Requirement) : Requirement.dec (Requirement.enc x) = (x, true) := by
  have h0 : dS (Requirement.enc x) Qz = (x.key, true) := by unfold dS; rw [Requirement.Q1br]; rfl
  have h1 : dN (Requirement.enc x) Q3w = (x.op, true) := by unfold dN; rw [Requirement.p_op]; rfl
  have h2 : dE xS (Requirement.enc x) Q1g = (x.values, true) := by unfold dE; rw [Requirement.Q1f4]; exact Q65 (fun _ => rfl) _
  unfold Requirement.dec
  rw [h0, h1, h2]
  rfl
def Label.enc (x : Label) : Val := vM [.mk Qz (vS x.key), .mk Q13 (vS x.value)]
def Label.dec (v : Val) : Label × Bool := (Label.mk (dS v Qz).1 (dS v Q13).1, isM v && (dS v Qz).2 && (dS v Q13).2)
def Label.sm (_ : Label) : Prop := True
theorem Label.Q24 {x : Label} (_ : Label.sm x) : Val.Sm sB (Label.enc x) := Qap (Nat.le_of_ble_eq_true rfl) (List.forall_mem_cons.2 ⟨Val.Sm.leaf 3 _ _, List.forall_mem_cons.2 ⟨Val.Sm.leaf 3 _ _, fun _ h => by cases h⟩⟩)
theorem Label.Q1br (x : Label) : prt (Label.enc x) Qz = vS x.key := by kernel_rfl
theorem Label.Q10t (x : Label) : prt (Label.enc x) Q13 = vS x.value := by kernel_rfl
theorem Label.Q2j (x : Label) : Label.dec (Label.enc x) = (x, true) := by
  have h0 : dS (Label.enc x) Qz = (x.key, true) := by unfold dS; rw [Label.Q1br]; rfl
  have h1 : dS (Label.enc x) Q13 = (x.value, true) := by unfold dS; rw [Label.Q10t]; rfl
  unfold Label.dec
  rw [h0, h1]
  rfl
def Resources.enc (x : Resources) : Val := vM [.mk Q4y (vN x.cPU), .mk Q4i (vN x.disk), .mk Q32 (vN x.memory)]
def Resources.dec (v : Val) : Resources × Bool := (Resources.mk (dN v Q4y).1 (dN v Q32).1 (dN v Q4i).1, isM v && (dN v Q4y).2 && (dN v Q4i).2 && (dN v Q32).2)
def Resources.sm (_ : Resources) : Prop := True
theorem Resources.Q24 {x : Resources} (_ : Resources.sm x) : Val.Sm sB (Resources.enc x) := Qap (Nat.le_of_ble_eq_true rfl) (List.forall_mem_cons.2 ⟨Val.Sm.leaf 2 _ _, List.forall_mem_cons.2 ⟨Val.Sm.leaf 2 _ _, List.forall_mem_cons.2 ⟨Val.Sm.leaf 2 _ _, fun _ h => by cases h⟩⟩⟩)
theorem Resources.Q20f (x : Resources) : prt (Resources.enc x) Q4y = vN x.cPU := by kernel_rfl
theorem Resources.Q1f1 (x : Resources) : prt (Resources.enc x) Q32 = vN x.memory := by kernel_rfl
theorem Resources.Q1qe (x : Resources) : prt (Resources.enc x) Q4i = vN x.disk := by kernel_rfl
theorem Resources.Q2j (x : Resources) : Resources.dec (Resources.enc x) = (x, true) := by
  have h0 : dN (Resources.enc x) Q4y = (x.cPU, true) := by unfold dN; rw [Resources.Q20f]; rfl
  have h1 : dN (Resources.enc x) Q32 = (x.memory, true) := by unfold dN; rw [Resources.Q1f1]; rfl
  have h2 : dN (Resources.enc x) Q4i = (x.disk, true) := by unfold dN; rw [Resources.Q1qe]; rfl
  unfold Resources.dec
  rw [h0, h1, h2]
  rfl
theorem Resources.Q9i {v : Val} (h : (v.kind == 5) = false) : Resources.dec v = ((Resources.dec vZ).1, v.kind == 0) := by
  unfold Resources.dec
  simp only [dN, Qmd h, Qlz h]
  generalize (v.kind == 0) = b
  cases b <;> rfl
theorem Resources.sub1 (x : Val) : (Resources.dec (s5 x)).1 = (Resources.dec x).1 := (Q12o (f := Resources.dec) (fun _ h => Resources.Q9i h) rfl x).1
theorem Resources.sub2 (v : Val) (k : BA) : (Resources.dec (prt v k)).2 = (isM (prt v k) && (Resources.dec (s5 (prt v k))).2) := (Q12o (f := Resources.dec) (fun _ h => Resources.Q9i h) rfl _).2
def Probe.enc (x : Probe) : Val := vM [.mk Q29 (vN x.delay), .mk Q1y (vN x.failure), .mk Q23 (vN x.period), .mk Q1s (vN x.success)]
def Probe.dec (v : Val) : Probe × Bool := (Probe.mk (dN v Q29).1 (dN v Q23).1 (dN v Q1s).1 (dN v Q1y).1, isM v && (dN v Q29).2 && (dN v Q1y).2 && (dN v Q23).2 && (dN v Q1s).2)
def Probe.sm (_ : Probe) : Prop := True
theorem Probe.Q24 {x : Probe} (_ : Probe.sm x) : Val.Sm sB (Probe.enc x) := Qap (Nat.le_of_ble_eq_true rfl) (List.forall_mem_cons.2 ⟨Val.Sm.leaf 2 _ _, List.forall_mem_cons.2 ⟨Val.Sm.leaf 2 _ _, List.forall_mem_cons.2 ⟨Val.Sm.leaf 2 _ _, List.forall_mem_cons.2 ⟨Val.Sm.leaf 2 _ _, fun _ h => by cases h⟩⟩⟩⟩)
theorem Probe.Q1im (x : Probe) : prt (Probe.enc x) Q29 = vN x.delay := by kernel_rfl
theorem Probe.Q1f2 (x : Probe) : prt (Probe.enc x) Q23 = vN x.period := by kernel_rfl
theorem Probe.Q1by (x : Probe) : prt (Probe.enc x) Q1s = vN x.success := by kernel_rfl
theorem Probe.Q1bq (x : Probe) : prt (Probe.enc x) Q1y = vN x.failure := by kernel_rfl
theorem Probe.Q2j (x : Probe) : Probe.dec (Probe.enc x) = (x, true) := by
  have h0 : dN (Probe.enc x) Q29 = (x.delay, true) := by unfold dN; rw [Probe.Q1im]; rfl
  have h1 : dN (Probe.enc x) Q23 = (x.period, true) := by unfold dN; rw [Probe.Q1f2]; rfl
  have h2 : dN (Probe.enc x) Q1s = (x.success, true) := by unfold dN; rw [Probe.Q1by]; rfl
  have h3 : dN (Probe.enc x) Q1y = (x.failure, true) := by unfold dN; rw [Probe.Q1bq]; rfl
  unfold Probe.dec
  rw [h0, h1, h2, h3]
  rfl
def Container.enc (x : Container) : Val := vM [.mk Qx (vS x.image), .mk Q1n (Resources.enc x.limit), .mk Q2u (vL (x.live.map Probe.enc)), .mk Q12 (vS x.name), .mk Q1c (vL (x.ready.map Probe.enc)), .mk Qj (Resources.enc x.request), .mk Q20 (vL (x.startup.map Probe.enc))]
def Container.dec (v : Val) : Container × Bool := (Container.mk (dS v Q12).1 (dS v Qx).1 (dT Resources.dec v Qj).1 (dT Resources.dec v Q1n).1 (dE Probe.dec v Q2u).1 (dE Probe.dec v Q1c).1 (dE Probe.dec v Q20).1, isM v && (dS v Qx).2 && (dT Resources.dec v Q1n).2 && (dE Probe.dec v Q2u).2 && (dS v Q12).2 && (dE Probe.dec v Q1c).2 && (dT Resources.dec v Qj).2 && (dE Probe.dec v Q20).2)
def Container.sm (x : Container) : Prop := Resources.sm x.request ∧ Resources.sm x.limit ∧ LSm Probe.sm x.live ∧ LSm Probe.sm x.ready ∧ LSm Probe.sm x.startup ∧ True
theorem Container.Q24 {x : Container} (h : Container.sm x) : Val.Sm sB (Container.enc x) := Qap (Nat.le_of_ble_eq_true rfl) (List.forall_mem_cons.2 ⟨Val.Sm.leaf 3 _ _, List.forall_mem_cons.2 ⟨Resources.Q24 h.2.1, List.forall_mem_cons.2 ⟨Q2x (fun _ h => Probe.Q24 h) h.2.2.1, List.forall_mem_cons.2 ⟨Val.Sm.leaf 3 _ _, List.forall_mem_cons.2 ⟨Q2x (fun _ h => Probe.Q24 h) h.2.2.2.1, List.forall_mem_cons.2 ⟨Resources.Q24 h.1, List.forall_mem_cons.2 ⟨Q2x (fun _ h => Probe.Q24 h) h.2.2.2.2.1, fun _ h => by cases h⟩⟩⟩⟩⟩⟩⟩)
theorem Container.Q1qg (x : Container) : prt (Container.enc x) Q12 = vS x.name := by kernel_rfl
theorem Container.Q1io (x : Container) : prt (Container.enc x) Qx = vS x.image := by kernel_rfl
theorem Container.Q1bu (x : Container) : prt (Container.enc x) Qj = Resources.enc x.request := by kernel_rfl
theorem Container.Q1ip (x : Container) : prt (Container.enc x) Q1n = Resources.enc x.limit := by kernel_rfl
theorem Container.Q1qf (x : Container) : prt (Container.enc x) Q2u = vL (x.live.map Probe.enc) := by kernel_rfl
theorem Container.Q10s (x : Container) : prt (Container.enc x) Q1c = vL (x.ready.map Probe.enc) := by kernel_rfl
theorem Container.Q1bx (x : Container) : prt (Container.enc x) Q20 = vL (x.startup.map Probe.enc) := by kernel_rfl
theorem Container.Q2j (x : Container) : Container.dec (Container.enc x) = (x, true) := by
  have h0 : dS (Container.enc x) Q12 = (x.name, true) := by unfold dS; rw [Container.Q1qg]; rfl
  have h1 : dS (Container.enc x) Qx = (x.image, true) := by unfold dS; rw [Container.Q1io]; rfl
  have h2 : dT Resources.dec (Container.enc x) Qj = (x.request, true) := by unfold dT; rw [Container.Q1bu]; exact Resources.Q2j _
  have h3 : dT Resources.dec (Container.enc x) Q1n = (x.limit, true) := by unfold dT; rw [Container.Q1ip]; exact Resources.Q2j _
  have h4 : dE Probe.dec (Container.enc x) Q2u = (x.live, true) := by unfold dE; rw [Container.Q1qf]; exact Q65 Probe.Q2j _
  have h5 : dE Probe.dec (Container.enc x) Q1c = (x.ready, true) := by unfold dE; rw [Container.Q10s]; exact Q65 Probe.Q2j _
  have h6 : dE Probe.dec (Container.enc x) Q20 = (x.startup, true) := by unfold dE; rw [Container.Q1bx]; exact Q65 Probe.Q2j _
  unfold Container.dec
  rw [h0, h1, h2, h3, h4, h5, h6]
  rfl
def NodeTerm.enc (x : NodeTerm) : Val := vM [.mk Qa (vB x.required), .mk Q5 (vL (x.selector.map Requirement.enc)), .mk Q10 (vN x.weight)]
def NodeTerm.dec (v : Val) : NodeTerm × Bool := (NodeTerm.mk (dB v Qa).1 (dE Requirement.dec v Q5).1 (dN v Q10).1, isM v && (dB v Qa).2 && (dE Requirement.dec v Q5).2 && (dN v Q10).2)
def NodeTerm.sm (x : NodeTerm) : Prop := LSm Requirement.sm x.selector ∧ True
theorem NodeTerm.Q24 {x : NodeTerm} (h : NodeTerm.sm x) : Val.Sm sB (NodeTerm.enc x) := Qap (Nat.le_of_ble_eq_true rfl) (List.forall_mem_cons.2 ⟨Val.Sm.leaf 1 _ _, List.forall_mem_cons.2 ⟨Q2x (fun _ h => Requirement.Q24 h) h.1, List.forall_mem_cons.2 ⟨Val.Sm.leaf 2 _ _, fun _ h => by cases h⟩⟩⟩)
theorem NodeTerm.Q81 (x : NodeTerm) : prt (NodeTerm.enc x) Qa = vB x.required := by kernel_rfl
theorem NodeTerm.Q3u (x : NodeTerm) : prt (NodeTerm.enc x) Q5 = vL (x.selector.map Requirement.enc) := by kernel_rfl
theorem NodeTerm.Quh (x : NodeTerm) : prt (NodeTerm.enc x) Q10 = vN x.weight := by kernel_rfl
theorem NodeTerm.Q2j (x : NodeTerm) : NodeTerm.dec (NodeTerm.enc x) = (x, true) := by
  have h0 : dB (NodeTerm.enc x) Qa = (x.required, true) := by unfold dB; rw [NodeTerm.Q81]; exact xB_b _
  have h1 : dE Requirement.dec (NodeTerm.enc x) Q5 = (x.selector, true) := by unfold dE; rw [NodeTerm.Q3u]; exact Q65 Requirement.Q2j _
  have h2 : dN (NodeTerm.enc x) Q10 = (x.weight, true) := by unfold dN; rw [NodeTerm.Quh]; rfl
  unfold NodeTerm.dec
  rw [h0, h1, h2]
  rfl
def PodTerm.enc (x : PodTerm) : Val := vM [.mk Q2q (vB x.anti), .mk Qa (vB x.required), .mk Q5 (vL (x.selector.map Requirement.enc)), .mk Qk (vS x.topology), .mk Q10 (vN x.weight)]
def PodTerm.dec (v : Val) : PodTerm × Bool := (PodTerm.mk (dB v Qa).1 (dB v Q2q).1 (dE Requirement.dec v Q5).1 (dS v Qk).1 (dN v Q10).1, isM v && (dB v Q2q).2 && (dB v Qa).2 && (dE Requirement.dec v Q5).2 && (dS v Qk).2 && (dN v Q10).2)
def PodTerm.sm (x : PodTerm) : Prop := LSm Requirement.sm x.selector ∧ True
theorem PodTerm.Q24 {x : PodTerm} (h : PodTerm.sm x) : Val.Sm sB (PodTerm.enc x) := Qap (Nat.le_of_ble_eq_true rfl) (List.forall_mem_cons.2 ⟨Val.Sm.leaf 1 _ _, List.forall_mem_cons.2 ⟨Val.Sm.leaf 1 _ _, List.forall_mem_cons.2 ⟨Q2x (fun _ h => Requirement.Q24 h) h.1, List.forall_mem_cons.2 ⟨Val.Sm.leaf 3 _ _, List.forall_mem_cons.2 ⟨Val.Sm.leaf 2 _ _, fun _ h => by cases h⟩⟩⟩⟩⟩)
theorem PodTerm.Q81 (x : PodTerm) : prt (PodTerm.enc x) Qa = vB x.required := by kernel_rfl
theorem PodTerm.Q1qd (x : PodTerm) : prt (PodTerm.enc x) Q2q = vB x.anti := by kernel_rfl
theorem PodTerm.Q3u (x : PodTerm) : prt (PodTerm.enc x) Q5 = vL (x.selector.map Requirement.enc) := by kernel_rfl
theorem PodTerm.Qdv (x : PodTerm) : prt (PodTerm.enc x) Qk = vS x.topology := by kernel_rfl
theorem PodTerm.Quh (x : PodTerm) : prt (PodTerm.enc x) Q10 = vN x.weight := by kernel_rfl
theorem PodTerm.Q2j (x : PodTerm) : PodTerm.dec (PodTerm.enc x) = (x, true) := by
  have h0 : dB (PodTerm.enc x) Qa = (x.required, true) := by unfold dB; rw [PodTerm.Q81]; exact xB_b _
  have h1 : dB (PodTerm.enc x) Q2q = (x.anti, true) := by unfold dB; rw [PodTerm.Q1qd]; exact xB_b _
  have h2 : dE Requirement.dec (PodTerm.enc x) Q5 = (x.selector, true) := by unfold dE; rw [PodTerm.Q3u]; exact Q65 Requirement.Q2j _
  have h3 : dS (PodTerm.enc x) Qk = (x.topology, true) := by unfold dS; rw [PodTerm.Qdv]; rfl
  have h4 : dN (PodTerm.enc x) Q10 = (x.weight, true) := by unfold dN; rw [PodTerm.Quh]; rfl
  unfold PodTerm.dec
  rw [h0, h1, h2, h3, h4]
  rfl
def SpreadRule.enc (x : SpreadRule) : Val := vM [.mk Q1l (vN x.maxSkew), .mk Qa (vB x.required), .mk Q5 (vL (x.selector.map Requirement.enc)), .mk Qk (vS x.topology)]
def SpreadRule.dec (v : Val) : SpreadRule × Bool := (SpreadRule.mk (dN v Q1l).1 (dS v Qk).1 (dE Requirement.dec v Q5).1 (dB v Qa).1, isM v && (dN v Q1l).2 && (dB v Qa).2 && (dE Requirement.dec v Q5).2 && (dS v Qk).2)
def SpreadRule.sm (x : SpreadRule) : Prop := LSm Requirement.sm x.selector ∧ True
theorem SpreadRule.Q24 {x : SpreadRule} (h : SpreadRule.sm x) : Val.Sm sB (SpreadRule.enc x) := Qap (Nat.le_of_ble_eq_true rfl) (List.forall_mem_cons.2 ⟨Val.Sm.leaf 2 _ _, List.forall_mem_cons.2 ⟨Val.Sm.leaf 1 _ _, List.forall_mem_cons.2 ⟨Q2x (fun _ h => Requirement.Q24 h) h.1, List.forall_mem_cons.2 ⟨Val.Sm.leaf 3 _ _, fun _ h => by cases h⟩⟩⟩⟩)
theorem SpreadRule.Q1bs (x : SpreadRule) : prt (SpreadRule.enc x) Q1l = vN x.maxSkew := by kernel_rfl
theorem SpreadRule.Qdv (x : SpreadRule) : prt (SpreadRule.enc x) Qk = vS x.topology := by kernel_rfl
theorem SpreadRule.Q3u (x : SpreadRule) : prt (SpreadRule.enc x) Q5 = vL (x.selector.map Requirement.enc) := by kernel_rfl
theorem SpreadRule.Q81 (x : SpreadRule) : prt (SpreadRule.enc x) Qa = vB x.required := by kernel_rfl
theorem SpreadRule.Q2j (x : SpreadRule) : SpreadRule.dec (SpreadRule.enc x) = (x, true) := by
  have h0 : dN (SpreadRule.enc x) Q1l = (x.maxSkew, true) := by unfold dN; rw [SpreadRule.Q1bs]; rfl
  have h1 : dS (SpreadRule.enc x) Qk = (x.topology, true) := by unfold dS; rw [SpreadRule.Qdv]; rfl
  have h2 : dE Requirement.dec (SpreadRule.enc x) Q5 = (x.selector, true) := by unfold dE; rw [SpreadRule.Q3u]; exact Q65 Requirement.Q2j _
  have h3 : dB (SpreadRule.enc x) Qa = (x.required, true) := by unfold dB; rw [SpreadRule.Q81]; exact xB_b _
  unfold SpreadRule.dec
  rw [h0, h1, h2, h3]
  rfl
def Toleration.enc (x : Toleration) : Val := vM [.mk Q27 (vN x.effect), .mk Q22 (vB x.exists_), .mk Qz (vS x.key), .mk Q1z (vN x.seconds), .mk Q13 (vS x.value)]
def Toleration.dec (v : Val) : Toleration × Bool := (Toleration.mk (dS v Qz).1 (dS v Q13).1 (dB v Q22).1 (dN v Q27).1 (dN v Q1z).1, isM v && (dN v Q27).2 && (dB v Q22).2 && (dS v Qz).2 && (dN v Q1z).2 && (dS v Q13).2)
def Toleration.sm (_ : Toleration) : Prop := True
theorem Toleration.Q24 {x : Toleration} (_ : Toleration.sm x) : Val.Sm sB (Toleration.enc x) := Qap (Nat.le_of_ble_eq_true rfl) (List.forall_mem_cons.2 ⟨Val.Sm.leaf 2 _ _, List.forall_mem_cons.2 ⟨Val.Sm.leaf 1 _ _, List.forall_mem_cons.2 ⟨Val.Sm.leaf 3 _ _, List.forall_mem_cons.2 ⟨Val.Sm.leaf 2 _ _, List.forall_mem_cons.2 ⟨Val.Sm.leaf 3 _ _, fun _ h => by cases h⟩⟩⟩⟩⟩)
theorem Toleration.Q1br (x : Toleration) : prt (Toleration.enc x) Qz = vS x.key := by kernel_rfl
theorem Toleration.Q10t (x : Toleration) : prt (Toleration.enc x) Q13 = vS x.value := by kernel_rfl
theorem Toleration.Q1bp (x : Toleration) : prt (Toleration.enc x) Q22 = vB x.exists_ := by kernel_rfl
theorem Toleration.Q1ey (x : Toleration) : prt (Toleration.enc x) Q27 = vN x.effect := by kernel_rfl
theorem Toleration.Q1bw (x : Toleration) : prt (Toleration.enc x) Q1z = vN x.seconds := by kernel_rfl
theorem Toleration.Q2j (x : Toleration) : Toleration.dec (Toleration.enc x) = (x, true) := by
  have h0 : dS (Toleration.enc x) Qz = (x.key, true) := by unfold dS; rw [Toleration.Q1br]; rfl
  have h1 : dS (Toleration.enc x) Q13 = (x.value, true) := by unfold dS; rw [Toleration.Q10t]; rfl
  have h2 : dB (Toleration.enc x) Q22 = (x.exists_, true) := by unfold dB; rw [Toleration.Q1bp]; exact xB_b _
  have h3 : dN (Toleration.enc x) Q27 = (x.effect, true) := by unfold dN; rw [Toleration.Q1ey]; rfl
  have h4 : dN (Toleration.enc x) Q1z = (x.seconds, true) := by unfold dN; rw [Toleration.Q1bw]; rfl
  unfold Toleration.dec
  rw [h0, h1, h2, h3, h4]
  rfl
def PodSpec.enc (x : PodSpec) : Val := vM [.mk Q1d (vL (x.containers.map Container.enc)), .mk Q2o (vN x.grace), .mk Q2r (vS x.node), .mk Q19 (vL (x.nodeSelector.map Requirement.enc)), .mk Q1v (vL (x.nodeTerms.map NodeTerm.enc)), .mk Q2d (vL (x.podTerms.map PodTerm.enc)), .mk Q1f (vN x.priority), .mk Q1r (vN x.restart), .mk Q33 (vL (x.spread.map SpreadRule.enc)), .mk Q26 (vL (x.tolerations.map Toleration.enc))]
def PodSpec.dec (v : Val) : PodSpec × Bool := (PodSpec.mk (dS v Q2r).1 (dN v Q1f).1 (dN v Q1r).1 (dN v Q2o).1 (dE Container.dec v Q1d).1 (dE Requirement.dec v Q19).1 (dE NodeTerm.dec v Q1v).1 (dE PodTerm.dec v Q2d).1 (dE SpreadRule.dec v Q33).1 (dE Toleration.dec v Q26).1, isM v && (dE Container.dec v Q1d).2 && (dN v Q2o).2 && (dS v Q2r).2 && (dE Requirement.dec v Q19).2 && (dE NodeTerm.dec v Q1v).2 && (dE PodTerm.dec v Q2d).2 && (dN v Q1f).2 && (dN v Q1r).2 && (dE SpreadRule.dec v Q33).2 && (dE Toleration.dec v Q26).2)
def PodSpec.sm (x : PodSpec) : Prop := LSm Container.sm x.containers ∧ LSm Requirement.sm x.nodeSelector ∧ LSm NodeTerm.sm x.nodeTerms ∧ LSm PodTerm.sm x.podTerms ∧ LSm SpreadRule.sm x.spread ∧ LSm Toleration.sm x.tolerations ∧ True
theorem PodSpec.Q24 {x : PodSpec} (h : PodSpec.sm x) : Val.Sm sB (PodSpec.enc x) := Qap (Nat.le_of_ble_eq_true rfl) (List.forall_mem_cons.2 ⟨Q2x (fun _ h => Container.Q24 h) h.1, List.forall_mem_cons.2 ⟨Val.Sm.leaf 2 _ _, List.forall_mem_cons.2 ⟨Val.Sm.leaf 3 _ _, List.forall_mem_cons.2 ⟨Q2x (fun _ h => Requirement.Q24 h) h.2.1, List.forall_mem_cons.2 ⟨Q2x (fun _ h => NodeTerm.Q24 h) h.2.2.1, List.forall_mem_cons.2 ⟨Q2x (fun _ h => PodTerm.Q24 h) h.2.2.2.1, List.forall_mem_cons.2 ⟨Val.Sm.leaf 2 _ _, List.forall_mem_cons.2 ⟨Val.Sm.leaf 2 _ _, List.forall_mem_cons.2 ⟨Q2x (fun _ h => SpreadRule.Q24 h) h.2.2.2.2.1, List.forall_mem_cons.2 ⟨Q2x (fun _ h => Toleration.Q24 h) h.2.2.2.2.2.1, fun _ h => by cases h⟩⟩⟩⟩⟩⟩⟩⟩⟩⟩)
theorem PodSpec.Q1qh (x : PodSpec) : prt (PodSpec.enc x) Q2r = vS x.node := by kernel_rfl
theorem PodSpec.Q177 (x : PodSpec) : prt (PodSpec.enc x) Q1f = vN x.priority := by kernel_rfl
theorem PodSpec.Q1bv (x : PodSpec) : prt (PodSpec.enc x) Q1r = vN x.restart := by kernel_rfl
theorem PodSpec.Q1in (x : PodSpec) : prt (PodSpec.enc x) Q2o = vN x.grace := by kernel_rfl
theorem PodSpec.Qz9 (x : PodSpec) : prt (PodSpec.enc x) Q1d = vL (x.containers.map Container.enc) := by kernel_rfl
theorem PodSpec.Qn5 (x : PodSpec) : prt (PodSpec.enc x) Q19 = vL (x.nodeSelector.map Requirement.enc) := by kernel_rfl
theorem PodSpec.Q10q (x : PodSpec) : prt (PodSpec.enc x) Q1v = vL (x.nodeTerms.map NodeTerm.enc) := by kernel_rfl
theorem PodSpec.Q176 (x : PodSpec) : prt (PodSpec.enc x) Q2d = vL (x.podTerms.map PodTerm.enc) := by kernel_rfl
theorem PodSpec.Q1f3 (x : PodSpec) : prt (PodSpec.enc x) Q33 = vL (x.spread.map SpreadRule.enc) := by kernel_rfl
theorem PodSpec.Quf (x : PodSpec) : prt (PodSpec.enc x) Q26 = vL (x.tolerations.map Toleration.enc) := by kernel_rfl
theorem PodSpec.Q2j (x : PodSpec) : PodSpec.dec (PodSpec.enc x) = (x, true) := by
  have h0 : dS (PodSpec.enc x) Q2r = (x.node, true) := by unfold dS; rw [PodSpec.Q1qh]; rfl
  have h1 : dN (PodSpec.enc x) Q1f = (x.priority, true) := by unfold dN; rw [PodSpec.Q177]; rfl
  have h2 : dN (PodSpec.enc x) Q1r = (x.restart, true) := by unfold dN; rw [PodSpec.Q1bv]; rfl
  have h3 : dN (PodSpec.enc x) Q2o = (x.grace, true) := by unfold dN; rw [PodSpec.Q1in]; rfl
  have h4 : dE Container.dec (PodSpec.enc x) Q1d = (x.containers, true) := by unfold dE; rw [PodSpec.Qz9]; exact Q65 Container.Q2j _
  have h5 : dE Requirement.dec (PodSpec.enc x) Q19 = (x.nodeSelector, true) := by unfold dE; rw [PodSpec.Qn5]; exact Q65 Requirement.Q2j _
  have h6 : dE NodeTerm.dec (PodSpec.enc x) Q1v = (x.nodeTerms, true) := by unfold dE; rw [PodSpec.Q10q]; exact Q65 NodeTerm.Q2j _
  have h7 : dE PodTerm.dec (PodSpec.enc x) Q2d = (x.podTerms, true) := by unfold dE; rw [PodSpec.Q176]; exact Q65 PodTerm.Q2j _
  have h8 : dE SpreadRule.dec (PodSpec.enc x) Q33 = (x.spread, true) := by unfold dE; rw [PodSpec.Q1f3]; exact Q65 SpreadRule.Q2j _
  have h9 : dE Toleration.dec (PodSpec.enc x) Q26 = (x.tolerations, true) := by unfold dE; rw [PodSpec.Quf]; exact Q65 Toleration.Q2j _
  unfold PodSpec.dec
  rw [h0, h1, h2, h3, h4, h5, h6, h7, h8, h9]
  rfl
theorem PodSpec.Q9i {v : Val} (h : (v.kind == 5) = false) : PodSpec.dec v = ((PodSpec.dec vZ).1, v.kind == 0) := by
  unfold PodSpec.dec
  simp only [dN, dS, dE, Qmd h, Qlz h]
  generalize (v.kind == 0) = b
  cases b <;> rfl
theorem PodSpec.sub1 (x : Val) : (PodSpec.dec (s5 x)).1 = (PodSpec.dec x).1 := (Q12o (f := PodSpec.dec) (fun _ h => PodSpec.Q9i h) rfl x).1
theorem PodSpec.sub2 (v : Val) (k : BA) : (PodSpec.dec (prt v k)).2 = (isM (prt v k) && (PodSpec.dec (s5 (prt v k))).2) := (Q12o (f := PodSpec.dec) (fun _ h => PodSpec.Q9i h) rfl _).2
def Template.enc (x : Template) : Val := vM [.mk Q1x (vL (x.labels.map Label.enc)), .mk Q2w (PodSpec.enc x.spec)]
def Template.dec (v : Val) : Template × Bool := (Template.mk (dE Label.dec v Q1x).1 (dT PodSpec.dec v Q2w).1, isM v && (dE Label.dec v Q1x).2 && (dT PodSpec.dec v Q2w).2)
def Template.sm (x : Template) : Prop := LSm Label.sm x.labels ∧ PodSpec.sm x.spec ∧ True
theorem Template.Q24 {x : Template} (h : Template.sm x) : Val.Sm sB (Template.enc x) := Qap (Nat.le_of_ble_eq_true rfl) (List.forall_mem_cons.2 ⟨Q2x (fun _ h => Label.Q24 h) h.1, List.forall_mem_cons.2 ⟨PodSpec.Q24 h.2.1, fun _ h => by cases h⟩⟩)
theorem Template.Q1f0 (x : Template) : prt (Template.enc x) Q1x = vL (x.labels.map Label.enc) := by kernel_rfl
theorem Template.Q1qi (x : Template) : prt (Template.enc x) Q2w = PodSpec.enc x.spec := by kernel_rfl
theorem Template.Q2j (x : Template) : Template.dec (Template.enc x) = (x, true) := by
  have h0 : dE Label.dec (Template.enc x) Q1x = (x.labels, true) := by unfold dE; rw [Template.Q1f0]; exact Q65 Label.Q2j _
  have h1 : dT PodSpec.dec (Template.enc x) Q2w = (x.spec, true) := by unfold dT; rw [Template.Q1qi]; exact PodSpec.Q2j _
  unfold Template.dec
  rw [h0, h1]
  rfl
theorem Template.Q9i {v : Val} (h : (v.kind == 5) = false) : Template.dec v = ((Template.dec vZ).1, v.kind == 0) := by
  unfold Template.dec
  simp only [dE, dT, Qmd h, Qlz h]
  generalize (v.kind == 0) = b
  cases b <;> rfl
def Amount.enc (x : Amount) : Val := vM [.mk kw_n (vN x.n), .mk Q2n (vB x.percent)]
def Amount.dec (v : Val) : Amount × Bool := (Amount.mk (dB v Q2n).1 (dN v kw_n).1, isM v && (dN v kw_n).2 && (dB v Q2n).2)
def Amount.sm (_ : Amount) : Prop := True
theorem Amount.Q24 {x : Amount} (_ : Amount.sm x) : Val.Sm sB (Amount.enc x) := Qap (Nat.le_of_ble_eq_true rfl) (List.forall_mem_cons.2 ⟨Val.Sm.leaf 2 _ _, List.forall_mem_cons.2 ⟨Val.Sm.leaf 1 _ _, fun _ h => by cases h⟩⟩)
theorem Amount.Q1bt (x : Amount) : prt (Amount.enc x) Q2n = vB x.percent := by kernel_rfl
theorem Amount.p_n (x : Amount) : prt (Amount.enc x) kw_n = vN x.n := by kernel_rfl
theorem Amount.Q2j (x : Amount) : Amount.dec (Amount.enc x) = (x, true) := by
  have h0 : dB (Amount.enc x) Q2n = (x.percent, true) := by unfold dB; rw [Amount.Q1bt]; exact xB_b _
  have h1 : dN (Amount.enc x) kw_n = (x.n, true) := by unfold dN; rw [Amount.p_n]; rfl
  unfold Amount.dec
  rw [h0, h1]
  rfl
def WorkStatus.enc (x : WorkStatus) : Val := vM [.mk Q1u (vN x.available), .mk Q31 (vB x.failed), .mk Q1j (vN x.observed), .mk Q2e (vN x.progress), .mk Q1c (vN x.ready), .mk Q6 (vN x.replicas), .mk Q25 (vN x.updated)]
def WorkStatus.dec (v : Val) : WorkStatus × Bool := (WorkStatus.mk (dN v Q1j).1 (dN v Q6).1 (dN v Q25).1 (dN v Q1c).1 (dN v Q1u).1 (dN v Q2e).1 (dB v Q31).1, isM v && (dN v Q1u).2 && (dB v Q31).2 && (dN v Q1j).2 && (dN v Q2e).2 && (dN v Q1c).2 && (dN v Q6).2 && (dN v Q25).2)
def WorkStatus.sm (_ : WorkStatus) : Prop := True
theorem WorkStatus.Q24 {x : WorkStatus} (_ : WorkStatus.sm x) : Val.Sm sB (WorkStatus.enc x) := Qap (Nat.le_of_ble_eq_true rfl) (List.forall_mem_cons.2 ⟨Val.Sm.leaf 2 _ _, List.forall_mem_cons.2 ⟨Val.Sm.leaf 1 _ _, List.forall_mem_cons.2 ⟨Val.Sm.leaf 2 _ _, List.forall_mem_cons.2 ⟨Val.Sm.leaf 2 _ _, List.forall_mem_cons.2 ⟨Val.Sm.leaf 2 _ _, List.forall_mem_cons.2 ⟨Val.Sm.leaf 2 _ _, List.forall_mem_cons.2 ⟨Val.Sm.leaf 2 _ _, fun _ h => by cases h⟩⟩⟩⟩⟩⟩⟩)
theorem WorkStatus.Q174 (x : WorkStatus) : prt (WorkStatus.enc x) Q1j = vN x.observed := by kernel_rfl
theorem WorkStatus.Q80 (x : WorkStatus) : prt (WorkStatus.enc x) Q6 = vN x.replicas := by kernel_rfl
theorem WorkStatus.Q1bz (x : WorkStatus) : prt (WorkStatus.enc x) Q25 = vN x.updated := by kernel_rfl
theorem WorkStatus.Q10s (x : WorkStatus) : prt (WorkStatus.enc x) Q1c = vN x.ready := by kernel_rfl
theorem WorkStatus.Q10p (x : WorkStatus) : prt (WorkStatus.enc x) Q1u = vN x.available := by kernel_rfl
theorem WorkStatus.Q178 (x : WorkStatus) : prt (WorkStatus.enc x) Q2e = vN x.progress := by kernel_rfl
theorem WorkStatus.Q1ez (x : WorkStatus) : prt (WorkStatus.enc x) Q31 = vB x.failed := by kernel_rfl
theorem WorkStatus.Q2j (x : WorkStatus) : WorkStatus.dec (WorkStatus.enc x) = (x, true) := by
  have h0 : dN (WorkStatus.enc x) Q1j = (x.observed, true) := by unfold dN; rw [WorkStatus.Q174]; rfl
  have h1 : dN (WorkStatus.enc x) Q6 = (x.replicas, true) := by unfold dN; rw [WorkStatus.Q80]; rfl
  have h2 : dN (WorkStatus.enc x) Q25 = (x.updated, true) := by unfold dN; rw [WorkStatus.Q1bz]; rfl
  have h3 : dN (WorkStatus.enc x) Q1c = (x.ready, true) := by unfold dN; rw [WorkStatus.Q10s]; rfl
  have h4 : dN (WorkStatus.enc x) Q1u = (x.available, true) := by unfold dN; rw [WorkStatus.Q10p]; rfl
  have h5 : dN (WorkStatus.enc x) Q2e = (x.progress, true) := by unfold dN; rw [WorkStatus.Q178]; rfl
  have h6 : dB (WorkStatus.enc x) Q31 = (x.failed, true) := by unfold dB; rw [WorkStatus.Q1ez]; exact xB_b _
  unfold WorkStatus.dec
  rw [h0, h1, h2, h3, h4, h5, h6]
  rfl
def Metric.dec (v : Val) : Metric × Bool := (Metric.mk (dS v Q12).1 (dN v Qm1).1, isM v && (dS v Q12).2 && (dN v Qm1).2)
def Advice.dec (v : Val) : Advice × Bool := (Advice.mk (dN v Q15q).1 (dN v Q6).1, isM v && (dN v Q15q).2 && (dN v Q6).2)
def WorkItem.dec (v : Val) : WorkItem × Bool := (WorkItem.mk (dS v Qz).1 (dN v Q15q).1, isM v && (dN v Q15q).2 && (dS v Qz).2)
def Q1d6 : Template := (Template.mk [] (PodSpec.mk eB 0 0 0 [] [] [] [] [] []))
def Qzr (v : Val) : Template × Int := bif !(Template.dec v).2 then (Q1d6, 6) else ((Template.dec v).1, 0)
def tD (v : Val) (n : BA) : Template × Bool := ((Qzr (prt v n)).1, (Template.dec (prt v n)).2)
def tC (v : Val) (n : BA) : Nat := cM v + (bif (prt v n).kind == 0 then 0 else nb (Template.dec (prt v n)).2)
theorem tC0 (v : Val) (n : BA) : (tC v n == 0) = (isM v && (tD v n).2) := by
  have z : ∀ x : Val, (x.kind == 0) = true → (Template.dec x).2 = true := fun x h => by
    have h5 : (x.kind == 5) = false := by rw [eq_of_beq h]; rfl
    rw [Template.Q9i h5]
    exact h
  unfold tC tD
  rw [add0, cM0]
  cases h : ((prt v n).kind == 0) with
  | true => rw [z _ h]; rfl
  | false => rw [cond_false, nb0]
theorem Q1j2 (v : Val) (n : BA) : tC v n ≤ 2 := by
  have a := Qlj 5 v
  have b := Q1bh (Template.dec (prt v n)).2
  unfold tC cM
  cases ((prt v n).kind == 0) with
  | true => rw [cond_true]; omega
  | false => rw [cond_false]; omega
def Requirement.cnt (v : Val) : Nat := cM v + pK 3 v Qz + pK 2 v Q3w + pE (cK 3) v Q1g
theorem Requirement.cnt0 (v : Val) : (Requirement.cnt v == 0) = (Requirement.dec v).2 := by
  unfold Requirement.cnt Requirement.dec
  simp only [add0, cM0, pS0, pN0, pE0 kS, dN, dS, dE, Bool.and_assoc, Bool.and_left_comm, Bool.and_comm, Bool.and_self_left]
theorem Requirement.Q6x {v : Val} (h : Val.Sm 1000 v) : Requirement.cnt v ≤ 1007 := by
  have g0 := Qlj 5 v
  have g1 := Q7y 3 v Qz
  have g2 := Q7y 2 v Q3w
  have g3 := Q1ex (c := (cK 3)) (K := 1) (fun x hx => Qlj _ _) h Q1g
  unfold Requirement.cnt cM
  omega
def Amount.cnt (v : Val) : Nat := pK 1 v Q2n + pK 2 v kw_n
theorem Amount.cnt0 (v : Val) : (Amount.cnt v == 0) = (Amount.dec v).2 := by
  unfold Amount.cnt Amount.dec
  simp only [add0, pB0, pN0, dN, dB, Bool.and_assoc, Bool.and_left_comm, Bool.and_comm, Bool.and_self_left]
theorem Amount.Q6x {v : Val} (_ : Val.Sm 1000 v) : Amount.cnt v ≤ 4 := by
  have g0 := Q7y 1 v Q2n
  have g1 := Q7y 2 v kw_n
  unfold Amount.cnt
  omega
def WorkStatus.cnt (v : Val) : Nat := pK 2 v Q1j + pK 2 v Q6 + pK 2 v Q25 + pK 2 v Q1c + pK 2 v Q1u + pK 2 v Q2e + pK 1 v Q31
theorem WorkStatus.cnt0 (v : Val) : (WorkStatus.cnt v == 0) = (WorkStatus.dec v).2 := by
  unfold WorkStatus.cnt WorkStatus.dec
  simp only [add0, pN0, pB0, dN, dB, Bool.and_assoc, Bool.and_left_comm, Bool.and_comm, Bool.and_self_left]
theorem WorkStatus.Q6x {v : Val} (_ : Val.Sm 1000 v) : WorkStatus.cnt v ≤ 14 := by
  have g0 := Q7y 2 v Q1j
  have g1 := Q7y 2 v Q6
  have g2 := Q7y 2 v Q25
  have g3 := Q7y 2 v Q1c
  have g4 := Q7y 2 v Q1u
  have g5 := Q7y 2 v Q2e
  have g6 := Q7y 1 v Q31
  unfold WorkStatus.cnt
  omega
def Metric.cnt (v : Val) : Nat := pK 3 v Q12 + pK 2 v Qm1
def Advice.cnt (v : Val) : Nat := pK 2 v Q15q + pK 2 v Q6
def WorkItem.cnt (v : Val) : Nat := pK 3 v Qz + pK 2 v Q15q
def JobS.dec (v : Val) : Job × Bool := (Job.mk ((Meta.mk eB eB eB 0 0 0 0 false 0 [] [] [] [])) (dN v Q7p).1 (dN v Q7q).1 (dN v Qdr).1 (dN v Qb3).1 (dB v Qdq).1 (dB v Q9n).1 (tD v Qg).1 (0) (0) (0) (0) (0) ([]) (0), isM v && (dN v Q7p).2 && (dN v Qb3).2 && (dB v Qdq).2 && (dN v Q7q).2 && (dN v Qdr).2 && (dB v Q9n).2 && (tD v Qg).2)
def JobS.cnt (v : Val) : Nat := pK 2 v Q7p + pK 2 v Q7q + pK 2 v Qdr + pK 2 v Qb3 + pK 1 v Qdq + pK 1 v Q9n + tC v Qg
def ReplicaSet.encS (x : ReplicaSet) : Val := vM [.mk Q0 (vN x.minReady), .mk Q6 (vN x.replicas), .mk Q16 (vN x.revision), .mk Q5 (vL (x.selector.map Requirement.enc)), .mk Qg (Template.enc x.template)]
def ReplicaSet.encT (x : ReplicaSet) : Val := WorkStatus.enc x.status
def ReplicaSet.obj (x : ReplicaSet) : Object := ⟨{ x.meta_ with kind := Qf }, ReplicaSet.encS x, ReplicaSet.encT x⟩
def ReplicaSet.of (o : Object) : ReplicaSet := ReplicaSet.mk o.meta_ (dN o.spec Q6).1 (dN o.spec Q0).1 (dN o.spec Q16).1 (dE Requirement.dec o.spec Q5).1 (tD o.spec Qg).1 (WorkStatus.dec o.status).1
def ReplicaSet.ok (o : Object) : Bool := sEq o.meta_.kind Qf && (isM o.spec && (isM o.status && ((dN o.spec Q0).2 && ((dN o.spec Q6).2 && ((dN o.spec Q16).2 && ((dE Requirement.dec o.spec Q5).2 && ((tD o.spec Qg).2 && (WorkStatus.dec o.status).2)))))))
def ReplicaSet.cnt (o : Object) : Nat := nb (sEq o.meta_.kind Qf) + cM o.spec + cM o.status + pK 2 o.spec Q6 + pK 2 o.spec Q0 + pK 2 o.spec Q16 + pE Requirement.cnt o.spec Q5 + tC o.spec Qg + WorkStatus.cnt o.status
theorem ReplicaSet.cnt0 (o : Object) : (ReplicaSet.cnt o == 0) = ReplicaSet.ok o := by
  unfold ReplicaSet.cnt ReplicaSet.ok
  simp only [add0, nb0, cM0, pN0, pE0 Requirement.cnt0, tC0, WorkStatus.cnt0, dN, dE, Bool.and_assoc, Bool.and_left_comm, Bool.and_comm, Bool.and_self_left]
theorem ReplicaSet.Q6x {o : Object} (h : Val.Sm 1000 o.spec ∧ Val.Sm 1000 o.status) : ReplicaSet.cnt o ≤ 1007027 := by
  have g0 := Q1bh (sEq o.meta_.kind Qf)
  have g1 := Qlj 5 o.spec
  have g2 := Qlj 5 o.status
  have g3 := Q7y 2 o.spec Q6
  have g4 := Q7y 2 o.spec Q0
  have g5 := Q7y 2 o.spec Q16
  have g6 := Q1ex (c := Requirement.cnt) (K := 1007) (fun x hx => Requirement.Q6x hx) h.1 Q5
  have g7 := Q1j2 o.spec Qg
  have g8 := WorkStatus.Q6x h.2
  unfold ReplicaSet.cnt cM
  omega
theorem ReplicaSet.Q80 (x : ReplicaSet) : prt (ReplicaSet.encS x) Q6 = vN x.replicas := by kernel_rfl
theorem ReplicaSet.Q7z (x : ReplicaSet) : prt (ReplicaSet.encS x) Q0 = vN x.minReady := by kernel_rfl
theorem ReplicaSet.Q179 (x : ReplicaSet) : prt (ReplicaSet.encS x) Q16 = vN x.revision := by kernel_rfl
theorem ReplicaSet.Q3u (x : ReplicaSet) : prt (ReplicaSet.encS x) Q5 = vL (x.selector.map Requirement.enc) := by kernel_rfl
theorem ReplicaSet.Q82 (x : ReplicaSet) : prt (ReplicaSet.encS x) Qg = Template.enc x.template := by kernel_rfl
theorem ReplicaSet.back (x : ReplicaSet) : ReplicaSet.of (ReplicaSet.obj x) = ReplicaSet.mk { x.meta_ with kind := Qf } x.replicas x.minReady x.revision x.selector x.template x.status ∧ ReplicaSet.ok (ReplicaSet.obj x) = true := by
  have h0 : dN (ReplicaSet.encS x) Q6 = (x.replicas, true) := by unfold dN; rw [ReplicaSet.Q80]; rfl
  have h1 : dN (ReplicaSet.encS x) Q0 = (x.minReady, true) := by unfold dN; rw [ReplicaSet.Q7z]; rfl
  have h2 : dN (ReplicaSet.encS x) Q16 = (x.revision, true) := by unfold dN; rw [ReplicaSet.Q179]; rfl
  have h3 : dE Requirement.dec (ReplicaSet.encS x) Q5 = (x.selector, true) := by unfold dE; rw [ReplicaSet.Q3u]; exact Q65 Requirement.Q2j _
  have h4 : tD (ReplicaSet.encS x) Qg = (x.template, true) := by unfold tD; rw [ReplicaSet.Q82]; unfold Qzr; rw [Template.Q2j]; rfl
  have h5 : WorkStatus.dec (ReplicaSet.encT x) = (x.status, true) := WorkStatus.Q2j _
  refine ⟨?_, ?_⟩
  · show ReplicaSet.mk _ (dN (ReplicaSet.encS x) Q6).1 (dN (ReplicaSet.encS x) Q0).1 (dN (ReplicaSet.encS x) Q16).1 (dE Requirement.dec (ReplicaSet.encS x) Q5).1 (tD (ReplicaSet.encS x) Qg).1 (WorkStatus.dec (ReplicaSet.encT x)).1 = _
    rw [h0, h1, h2, h3, h4, h5]
    all_goals rfl
  · unfold ReplicaSet.ok
    show (sEq Qf Qf && (true && (true && ((dN (ReplicaSet.encS x) Q0).2 && ((dN (ReplicaSet.encS x) Q6).2 && ((dN (ReplicaSet.encS x) Q16).2 && ((dE Requirement.dec (ReplicaSet.encS x) Q5).2 && ((tD (ReplicaSet.encS x) Qg).2 && (WorkStatus.dec (ReplicaSet.encT x)).2)))))))) = true
    rw [h0, h1, h2, h3, h4, h5, Q3v.2 rfl]
    all_goals rfl
def ReplicaSet.sm (x : ReplicaSet) : Prop := LSm Requirement.sm x.selector ∧ Template.sm x.template ∧ WorkStatus.sm x.status ∧ True
theorem ReplicaSet.Qz6 {x : ReplicaSet} (h : ReplicaSet.sm x) : Val.Sm sB (ReplicaSet.encS x) ∧ Val.Sm sB (ReplicaSet.encT x) := ⟨Qap (Nat.le_of_ble_eq_true rfl) (List.forall_mem_cons.2 ⟨Val.Sm.leaf 2 _ _, List.forall_mem_cons.2 ⟨Val.Sm.leaf 2 _ _, List.forall_mem_cons.2 ⟨Val.Sm.leaf 2 _ _, List.forall_mem_cons.2 ⟨Q2x (fun _ h => Requirement.Q24 h) h.1, List.forall_mem_cons.2 ⟨Template.Q24 h.2.1, fun _ h => by cases h⟩⟩⟩⟩⟩), WorkStatus.Q24 h.2.2.1⟩
def ReplicaSet.R (o : Object) : ReplicaSet × Int := bif ReplicaSet.ok o then (ReplicaSet.of o, 0) else ((ReplicaSet.mk (Meta.mk eB eB eB 0 0 0 0 false 0 [] [] [] []) 0 0 0 [] (Template.mk [] (PodSpec.mk eB 0 0 0 [] [] [] [] [] [])) (WorkStatus.mk 0 0 0 0 0 0 false)), 6)
def ReplicaSet.at (x : ReplicaSet) : ReplicaSet := ReplicaSet.mk { x.meta_ with kind := Qf } x.replicas x.minReady x.revision x.selector x.template x.status
abbrev ReplicaSet.z : ReplicaSet := (ReplicaSet.mk (Meta.mk eB eB eB 0 0 0 0 false 0 [] [] [] []) 0 0 0 [] (Template.mk [] (PodSpec.mk eB 0 0 0 [] [] [] [] [] [])) (WorkStatus.mk 0 0 0 0 0 0 false))
theorem ReplicaSet.R_at (x : ReplicaSet) : ReplicaSet.R (ReplicaSet.obj x) = (ReplicaSet.at x, 0) := by
  unfold ReplicaSet.R
  rw [(ReplicaSet.back x).2, (ReplicaSet.back x).1]
  rfl
theorem ReplicaSet.rc {o : Object} (h : Val.Sm 1000 o.spec ∧ Val.Sm 1000 o.status) : resC (ReplicaSet.cnt o) (ReplicaSet.of o) ReplicaSet.z = ReplicaSet.R o := by
  rw [Q10y (Nat.le_trans (ReplicaSet.Q6x h) (Nat.le_of_ble_eq_true rfl)), ReplicaSet.cnt0]
  rfl
def StatefulSet.encS (x : StatefulSet) : Val := vM [.mk Q0 (vN x.minReady), .mk Q15 (vB x.parallel), .mk Qs (vN x.partition), .mk Q6 (vN x.replicas), .mk Q5 (vL (x.selector.map Requirement.enc)), .mk Qg (Template.enc x.template)]
def StatefulSet.encT (x : StatefulSet) : Val := WorkStatus.enc x.status
def StatefulSet.obj (x : StatefulSet) : Object := ⟨{ x.meta_ with kind := Qc }, StatefulSet.encS x, StatefulSet.encT x⟩
def StatefulSet.of (o : Object) : StatefulSet := StatefulSet.mk o.meta_ (dN o.spec Q6).1 (dN o.spec Qs).1 (dN o.spec Q0).1 (dB o.spec Q15).1 (dE Requirement.dec o.spec Q5).1 (tD o.spec Qg).1 (WorkStatus.dec o.status).1
def StatefulSet.ok (o : Object) : Bool := sEq o.meta_.kind Qc && (isM o.spec && (isM o.status && ((dN o.spec Q0).2 && ((dB o.spec Q15).2 && ((dN o.spec Qs).2 && ((dN o.spec Q6).2 && ((dE Requirement.dec o.spec Q5).2 && ((tD o.spec Qg).2 && (WorkStatus.dec o.status).2))))))))
def StatefulSet.cnt (o : Object) : Nat := nb (sEq o.meta_.kind Qc) + cM o.spec + cM o.status + pK 2 o.spec Q6 + pK 2 o.spec Qs + pK 2 o.spec Q0 + pK 1 o.spec Q15 + pE Requirement.cnt o.spec Q5 + tC o.spec Qg + WorkStatus.cnt o.status
theorem StatefulSet.cnt0 (o : Object) : (StatefulSet.cnt o == 0) = StatefulSet.ok o := by
  unfold StatefulSet.cnt StatefulSet.ok
  simp only [add0, nb0, cM0, pN0, pB0, pE0 Requirement.cnt0, tC0, WorkStatus.cnt0, dN, dB, dE, Bool.and_assoc, Bool.and_left_comm, Bool.and_comm, Bool.and_self_left]
theorem StatefulSet.Q6x {o : Object} (h : Val.Sm 1000 o.spec ∧ Val.Sm 1000 o.status) : StatefulSet.cnt o ≤ 1007029 := by
  have g0 := Q1bh (sEq o.meta_.kind Qc)
  have g1 := Qlj 5 o.spec
  have g2 := Qlj 5 o.status
  have g3 := Q7y 2 o.spec Q6
  have g4 := Q7y 2 o.spec Qs
  have g5 := Q7y 2 o.spec Q0
  have g6 := Q7y 1 o.spec Q15
  have g7 := Q1ex (c := Requirement.cnt) (K := 1007) (fun x hx => Requirement.Q6x hx) h.1 Q5
  have g8 := Q1j2 o.spec Qg
  have g9 := WorkStatus.Q6x h.2
  unfold StatefulSet.cnt cM
  omega
theorem StatefulSet.Q80 (x : StatefulSet) : prt (StatefulSet.encS x) Q6 = vN x.replicas := by kernel_rfl
theorem StatefulSet.Q10r (x : StatefulSet) : prt (StatefulSet.encS x) Qs = vN x.partition := by kernel_rfl
theorem StatefulSet.Q7z (x : StatefulSet) : prt (StatefulSet.encS x) Q0 = vN x.minReady := by kernel_rfl
theorem StatefulSet.Q175 (x : StatefulSet) : prt (StatefulSet.encS x) Q15 = vB x.parallel := by kernel_rfl
theorem StatefulSet.Q3u (x : StatefulSet) : prt (StatefulSet.encS x) Q5 = vL (x.selector.map Requirement.enc) := by kernel_rfl
theorem StatefulSet.Q82 (x : StatefulSet) : prt (StatefulSet.encS x) Qg = Template.enc x.template := by kernel_rfl
theorem StatefulSet.back (x : StatefulSet) : StatefulSet.of (StatefulSet.obj x) = StatefulSet.mk { x.meta_ with kind := Qc } x.replicas x.partition x.minReady x.parallel x.selector x.template x.status ∧ StatefulSet.ok (StatefulSet.obj x) = true := by
  have h0 : dN (StatefulSet.encS x) Q6 = (x.replicas, true) := by unfold dN; rw [StatefulSet.Q80]; rfl
  have h1 : dN (StatefulSet.encS x) Qs = (x.partition, true) := by unfold dN; rw [StatefulSet.Q10r]; rfl
  have h2 : dN (StatefulSet.encS x) Q0 = (x.minReady, true) := by unfold dN; rw [StatefulSet.Q7z]; rfl
  have h3 : dB (StatefulSet.encS x) Q15 = (x.parallel, true) := by unfold dB; rw [StatefulSet.Q175]; exact xB_b _
  have h4 : dE Requirement.dec (StatefulSet.encS x) Q5 = (x.selector, true) := by unfold dE; rw [StatefulSet.Q3u]; exact Q65 Requirement.Q2j _
  have h5 : tD (StatefulSet.encS x) Qg = (x.template, true) := by unfold tD; rw [StatefulSet.Q82]; unfold Qzr; rw [Template.Q2j]; rfl
  have h6 : WorkStatus.dec (StatefulSet.encT x) = (x.status, true) := WorkStatus.Q2j _
  refine ⟨?_, ?_⟩
  · show StatefulSet.mk _ (dN (StatefulSet.encS x) Q6).1 (dN (StatefulSet.encS x) Qs).1 (dN (StatefulSet.encS x) Q0).1 (dB (StatefulSet.encS x) Q15).1 (dE Requirement.dec (StatefulSet.encS x) Q5).1 (tD (StatefulSet.encS x) Qg).1 (WorkStatus.dec (StatefulSet.encT x)).1 = _
    rw [h0, h1, h2, h3, h4, h5, h6]
    all_goals rfl
  · unfold StatefulSet.ok
    show (sEq Qc Qc && (true && (true && ((dN (StatefulSet.encS x) Q0).2 && ((dB (StatefulSet.encS x) Q15).2 && ((dN (StatefulSet.encS x) Qs).2 && ((dN (StatefulSet.encS x) Q6).2 && ((dE Requirement.dec (StatefulSet.encS x) Q5).2 && ((tD (StatefulSet.encS x) Qg).2 && (WorkStatus.dec (StatefulSet.encT x)).2))))))))) = true
    rw [h0, h1, h2, h3, h4, h5, h6, Q3v.2 rfl]
    all_goals rfl
def StatefulSet.sm (x : StatefulSet) : Prop := LSm Requirement.sm x.selector ∧ Template.sm x.template ∧ WorkStatus.sm x.status ∧ True
theorem StatefulSet.Qz6 {x : StatefulSet} (h : StatefulSet.sm x) : Val.Sm sB (StatefulSet.encS x) ∧ Val.Sm sB (StatefulSet.encT x) := ⟨Qap (Nat.le_of_ble_eq_true rfl) (List.forall_mem_cons.2 ⟨Val.Sm.leaf 2 _ _, List.forall_mem_cons.2 ⟨Val.Sm.leaf 1 _ _, List.forall_mem_cons.2 ⟨Val.Sm.leaf 2 _ _, List.forall_mem_cons.2 ⟨Val.Sm.leaf 2 _ _, List.forall_mem_cons.2 ⟨Q2x (fun _ h => Requirement.Q24 h) h.1, List.forall_mem_cons.2 ⟨Template.Q24 h.2.1, fun _ h => by cases h⟩⟩⟩⟩⟩⟩), WorkStatus.Q24 h.2.2.1⟩
def StatefulSet.R (o : Object) : StatefulSet × Int := bif StatefulSet.ok o then (StatefulSet.of o, 0) else ((StatefulSet.mk (Meta.mk eB eB eB 0 0 0 0 false 0 [] [] [] []) 0 0 0 false [] (Template.mk [] (PodSpec.mk eB 0 0 0 [] [] [] [] [] [])) (WorkStatus.mk 0 0 0 0 0 0 false)), 6)
def StatefulSet.at (x : StatefulSet) : StatefulSet := StatefulSet.mk { x.meta_ with kind := Qc } x.replicas x.partition x.minReady x.parallel x.selector x.template x.status
abbrev StatefulSet.z : StatefulSet := (StatefulSet.mk (Meta.mk eB eB eB 0 0 0 0 false 0 [] [] [] []) 0 0 0 false [] (Template.mk [] (PodSpec.mk eB 0 0 0 [] [] [] [] [] [])) (WorkStatus.mk 0 0 0 0 0 0 false))
theorem StatefulSet.R_at (x : StatefulSet) : StatefulSet.R (StatefulSet.obj x) = (StatefulSet.at x, 0) := by
  unfold StatefulSet.R
  rw [(StatefulSet.back x).2, (StatefulSet.back x).1]
  rfl
theorem StatefulSet.rc {o : Object} (h : Val.Sm 1000 o.spec ∧ Val.Sm 1000 o.status) : resC (StatefulSet.cnt o) (StatefulSet.of o) StatefulSet.z = StatefulSet.R o := by
  rw [Q10y (Nat.le_trans (StatefulSet.Q6x h) (Nat.le_of_ble_eq_true rfl)), StatefulSet.cnt0]
  rfl
def DaemonSet.encS (x : DaemonSet) : Val := vM [.mk Q0 (vN x.minReady), .mk Q5 (vL (x.selector.map Requirement.enc)), .mk Qg (Template.enc x.template), .mk Qe (Amount.enc x.unavailable)]
def DaemonSet.encT (x : DaemonSet) : Val := WorkStatus.enc x.status
def DaemonSet.obj (x : DaemonSet) : Object := ⟨{ x.meta_ with kind := Qd }, DaemonSet.encS x, DaemonSet.encT x⟩
def DaemonSet.of (o : Object) : DaemonSet := DaemonSet.mk o.meta_ (dN o.spec Q0).1 (dT Amount.dec o.spec Qe).1 (dE Requirement.dec o.spec Q5).1 (tD o.spec Qg).1 (WorkStatus.dec o.status).1
def DaemonSet.ok (o : Object) : Bool := sEq o.meta_.kind Qd && (isM o.spec && (isM o.status && ((dN o.spec Q0).2 && ((dE Requirement.dec o.spec Q5).2 && ((tD o.spec Qg).2 && ((dT Amount.dec o.spec Qe).2 && (WorkStatus.dec o.status).2))))))
def DaemonSet.cnt (o : Object) : Nat := nb (sEq o.meta_.kind Qd) + cM o.spec + cM o.status + pK 2 o.spec Q0 + (cM o.spec + Amount.cnt (prt o.spec Qe)) + pE Requirement.cnt o.spec Q5 + tC o.spec Qg + WorkStatus.cnt o.status
theorem DaemonSet.cnt0 (o : Object) : (DaemonSet.cnt o == 0) = DaemonSet.ok o := by
  unfold DaemonSet.cnt DaemonSet.ok
  simp only [add0, nb0, cM0, pN0, Amount.cnt0, pE0 Requirement.cnt0, tC0, WorkStatus.cnt0, dN, dE, dT, Bool.and_assoc, Bool.and_left_comm, Bool.and_comm, Bool.and_self_left]
theorem DaemonSet.Q6x {o : Object} (h : Val.Sm 1000 o.spec ∧ Val.Sm 1000 o.status) : DaemonSet.cnt o ≤ 1007028 := by
  have g0 := Q1bh (sEq o.meta_.kind Qd)
  have g1 := Qlj 5 o.spec
  have g2 := Qlj 5 o.status
  have g3 := Q7y 2 o.spec Q0
  have g4 := Amount.Q6x (Q3a h.1 Qe)
  have g5 := Q1ex (c := Requirement.cnt) (K := 1007) (fun x hx => Requirement.Q6x hx) h.1 Q5
  have g6 := Q1j2 o.spec Qg
  have g7 := WorkStatus.Q6x h.2
  unfold DaemonSet.cnt cM
  omega
theorem DaemonSet.Q7z (x : DaemonSet) : prt (DaemonSet.encS x) Q0 = vN x.minReady := by kernel_rfl
theorem DaemonSet.Qug (x : DaemonSet) : prt (DaemonSet.encS x) Qe = Amount.enc x.unavailable := by kernel_rfl
theorem DaemonSet.Q3u (x : DaemonSet) : prt (DaemonSet.encS x) Q5 = vL (x.selector.map Requirement.enc) := by kernel_rfl
theorem DaemonSet.Q82 (x : DaemonSet) : prt (DaemonSet.encS x) Qg = Template.enc x.template := by kernel_rfl
theorem DaemonSet.back (x : DaemonSet) : DaemonSet.of (DaemonSet.obj x) = DaemonSet.mk { x.meta_ with kind := Qd } x.minReady x.unavailable x.selector x.template x.status ∧ DaemonSet.ok (DaemonSet.obj x) = true := by
  have h0 : dN (DaemonSet.encS x) Q0 = (x.minReady, true) := by unfold dN; rw [DaemonSet.Q7z]; rfl
  have h1 : dT Amount.dec (DaemonSet.encS x) Qe = (x.unavailable, true) := by unfold dT; rw [DaemonSet.Qug]; exact Amount.Q2j _
  have h2 : dE Requirement.dec (DaemonSet.encS x) Q5 = (x.selector, true) := by unfold dE; rw [DaemonSet.Q3u]; exact Q65 Requirement.Q2j _
  have h3 : tD (DaemonSet.encS x) Qg = (x.template, true) := by unfold tD; rw [DaemonSet.Q82]; unfold Qzr; rw [Template.Q2j]; rfl
  have h4 : WorkStatus.dec (DaemonSet.encT x) = (x.status, true) := WorkStatus.Q2j _
  refine ⟨?_, ?_⟩
  · show DaemonSet.mk _ (dN (DaemonSet.encS x) Q0).1 (dT Amount.dec (DaemonSet.encS x) Qe).1 (dE Requirement.dec (DaemonSet.encS x) Q5).1 (tD (DaemonSet.encS x) Qg).1 (WorkStatus.dec (DaemonSet.encT x)).1 = _
    rw [h0, h1, h2, h3, h4]
    all_goals rfl
  · unfold DaemonSet.ok
    show (sEq Qd Qd && (true && (true && ((dN (DaemonSet.encS x) Q0).2 && ((dE Requirement.dec (DaemonSet.encS x) Q5).2 && ((tD (DaemonSet.encS x) Qg).2 && ((dT Amount.dec (DaemonSet.encS x) Qe).2 && (WorkStatus.dec (DaemonSet.encT x)).2))))))) = true
    rw [h0, h1, h2, h3, h4, Q3v.2 rfl]
    all_goals rfl
def DaemonSet.sm (x : DaemonSet) : Prop := Amount.sm x.unavailable ∧ LSm Requirement.sm x.selector ∧ Template.sm x.template ∧ WorkStatus.sm x.status ∧ True
theorem DaemonSet.Qz6 {x : DaemonSet} (h : DaemonSet.sm x) : Val.Sm sB (DaemonSet.encS x) ∧ Val.Sm sB (DaemonSet.encT x) := ⟨Qap (Nat.le_of_ble_eq_true rfl) (List.forall_mem_cons.2 ⟨Val.Sm.leaf 2 _ _, List.forall_mem_cons.2 ⟨Q2x (fun _ h => Requirement.Q24 h) h.2.1, List.forall_mem_cons.2 ⟨Template.Q24 h.2.2.1, List.forall_mem_cons.2 ⟨Amount.Q24 h.1, fun _ h => by cases h⟩⟩⟩⟩), WorkStatus.Q24 h.2.2.2.1⟩
def DaemonSet.R (o : Object) : DaemonSet × Int := bif DaemonSet.ok o then (DaemonSet.of o, 0) else ((DaemonSet.mk (Meta.mk eB eB eB 0 0 0 0 false 0 [] [] [] []) 0 (Amount.mk false 0) [] (Template.mk [] (PodSpec.mk eB 0 0 0 [] [] [] [] [] [])) (WorkStatus.mk 0 0 0 0 0 0 false)), 6)
def DaemonSet.at (x : DaemonSet) : DaemonSet := DaemonSet.mk { x.meta_ with kind := Qd } x.minReady x.unavailable x.selector x.template x.status
abbrev DaemonSet.z : DaemonSet := (DaemonSet.mk (Meta.mk eB eB eB 0 0 0 0 false 0 [] [] [] []) 0 (Amount.mk false 0) [] (Template.mk [] (PodSpec.mk eB 0 0 0 [] [] [] [] [] [])) (WorkStatus.mk 0 0 0 0 0 0 false))
theorem DaemonSet.R_at (x : DaemonSet) : DaemonSet.R (DaemonSet.obj x) = (DaemonSet.at x, 0) := by
  unfold DaemonSet.R
  rw [(DaemonSet.back x).2, (DaemonSet.back x).1]
  rfl
theorem DaemonSet.rc {o : Object} (h : Val.Sm 1000 o.spec ∧ Val.Sm 1000 o.status) : resC (DaemonSet.cnt o) (DaemonSet.of o) DaemonSet.z = DaemonSet.R o := by
  rw [Q10y (Nat.le_trans (DaemonSet.Q6x h) (Nat.le_of_ble_eq_true rfl)), DaemonSet.cnt0]
  rfl
def Object.sm (x : Object) : Prop := Val.Sm sB x.spec ∧ Val.Sm sB x.status
theorem Q10x {α : Type} {n m : Nat} {x y z : α} (h : n = m) (g : x = y) : resC n x z = resC m y z := by rw [h, g]
theorem Quv {p q : List Fld} (hp : p.length ≤ 20) (h : mapOf p = q) : Q50 p = vM q := by rw [vmap hp, h]
theorem getL (x : Val) : (bif x.kind == 4 then x else vZ).list = (xL x).1 := by
  unfold xL
  cases (x.kind == 4) <;> rfl
theorem getN (x : Val) : (bif x.kind == 2 then x else vZ).n = (xN x).1 := by
  unfold xN
  cases (x.kind == 2) <;> rfl
theorem getS (x : Val) : (bif x.kind == 3 then x else vZ).s = (xS x).1 := by
  unfold xS
  cases (x.kind == 3) <;> rfl
theorem getB (x : Val) : (!((bif x.kind == 1 then x else vZ).n == 0)) = (xB x).1 := by
  unfold xB
  cases (x.kind == 1) <;> rfl
end Go.Proofs.YtimjjohlpnkacaaGreat
end

section
/- Metadata that are copied (printed by a program). -/
namespace Go.Proofs.YtimjjohlpnkacaaGreat
open Go.Pv
def Q13o (p0 : Meta) : List Manager → Nat → Unit
 | [], _i0 =>
  ()
 | _x0 :: r0, i0 =>
  Q13o p0 r0 (i0 + 1)
def Qvz (p0 : Meta) (i0 : Nat) : List PV :=
  [.un, .bx 0 0, .bx 1 0] ++ nuns 19 ++ [.ms 2 2 0 (List.length p0.managers), .int .i64 ((List.length p0.managers) : Int), .int .i64 (i0 : Int)] ++ nuns 14
def Qic (p0 : Meta) (_i0 : Nat) : List Ob :=
  [⟨13, 0, true, [.str p0.kind, .str p0.namespace_, .str p0.name, .int .i64 p0.uid, .int .i64 p0.version, .int .i64 p0.generation, .int .i64 p0.created, .bool p0.deleting, .int .i64 p0.deleteAt, .sl (Label.rows p0.labels), .sl (Owner.rows p0.owners), .sl (Qn p0.finalizers), .ms 2 2 0 (List.length p0.managers)]⟩, ⟨13, 0, true, [.str eB, .str eB, .str eB, .int .i64 0, .int .i64 0, .int .i64 0, .int .i64 0, .bool false, .int .i64 0, .ms 3 2 0 0, .ms 4 5 0 0, .ms 5 1 0 0, .ms 6 2 0 0]⟩, ⟨2, 0, true, (Manager.rows p0.managers).flatten⟩, ⟨2, 0, true, []⟩, ⟨5, 0, true, []⟩, ⟨1, 0, true, []⟩, ⟨2, 0, true, []⟩]
def Qfl (p0 : Meta) (i0 : Nat) : En := .loop 0 Ir.Qjs Ir.Q1gr (Qvz p0 i0) (Qic p0 i0)
def Qom (p0 : Meta) (z : Nat → PV) (_zo : Nat → List PV) : St :=
  ⟨[z 0, .bx 0 0, .bx 1 0] ++ zr z 3 36, [(0, ⟨13, 0, true, [.str p0.kind, .str p0.namespace_, .str p0.name, .int .i64 p0.uid, .int .i64 p0.version, .int .i64 p0.generation, .int .i64 p0.created, .bool p0.deleting, .int .i64 p0.deleteAt, .sl (Label.rows p0.labels), .sl (Owner.rows p0.owners), .sl (Qn p0.finalizers), .ms 2 2 0 (List.length p0.managers)]⟩), (1, ⟨13, 0, true, [.str eB, .str eB, .str eB, .int .i64 0, .int .i64 0, .int .i64 0, .int .i64 0, .bool false, .int .i64 0, .ms 3 2 0 0, .ms 4 5 0 0, .ms 5 1 0 0, .ms 6 2 0 0]⟩), (2, ⟨2, 0, true, (Manager.rows p0.managers).flatten⟩), (3, ⟨2, 0, true, []⟩), (4, ⟨5, 0, true, []⟩), (5, ⟨1, 0, true, []⟩), (6, ⟨2, 0, true, []⟩)], 71⟩
theorem Q12e (p0 : Meta) (i0 : Nat) : VOK (Go.Pv.look (number 0 (Qic p0 i0))) [(2, Manager.rows p0.managers)] := (VOK.cons (show Seen _ _ from Q3k (ob := ⟨2, 0, true, (Manager.rows p0.managers).flatten⟩) (Manager.Qb p0.managers 2 rfl)) VOK.nil)
def Qac (p0 : Meta) (e : En) (_q : Unit) : Prop := ∃ z zo, Q7 G e (.st (.exit 0) (Qom p0 z zo))
theorem Qt2 (p0 : Meta) {e e' : En} (h : ∀ r, Q7 G e r → Q7 G e' r) : ∀ q, Qac p0 e q → Qac p0 e' q
  | _, ⟨z, zo, hz⟩ => ⟨z, zo, h _ hz⟩
def Qge (p0 : Meta) : Prop := (List.length p0.managers ≤ 4611686018427387904) ∧ (∀ x0 ∈ p0.managers, List.length x0.fields * 16 ≤ 140737488355328) ∧ True
def Qq8 (p0 : Meta) (i0 : Nat) : List PV :=
  nuns 22 ++ [.ms 2 2 0 (List.length p0.managers), .int .i64 ((List.length p0.managers) : Int), .int .i64 (i0 : Int), .bool false]
def Qle (_p0 : Meta) (_i0 : Nat) : List (Nat × List PV) :=
  []
theorem Q193 (p0 : Meta) (_H : Qge p0) (i0 : Nat) (hc0 : (decide ((i0 : Int) < ((List.length p0.managers) : Int))) = false) : Qac p0 (Qfl p0 i0) () := by
 exact ⟨(envF (Qq8 p0 i0)), (zoF (Qle p0 i0)), Qm (Q12e p0 i0) (x := ((.exit 0), Qom p0 (envF (Qq8 p0 i0)) (zoF (Qle p0 i0)))) [hB 0 hc0] [] (by kernel_rfl)⟩
theorem Q16y (p0 : Meta) (H : Qge p0) (x0 : Manager) (i0 : Nat) (hx0 : p0.managers[i0]? = some x0) (hi0 : i0 < List.length p0.managers) (hc0 : (decide ((i0 : Int) < ((List.length p0.managers) : Int))) = true) {r : Rs} (hr : Q7 G (Qfl p0 (i0 + 1)) r) : Q7 G (Qfl p0 i0) r := by
 have hB0 := H.1
 exact Ql (Q12e p0 i0) (y := (Qvz p0 (i0 + 1), Qic p0 (i0 + 1))) [hB 0 hc0, hP 1 (Q4n 2 2 (List.length p0.managers) (i0 : Int) i0 (by omega) (by omega) (by omega)), hP 0 (Qan 2 2 0 true ((Manager.rows p0.managers).flatten) (Manager.rows p0.managers) 2 true i0 0 (i0 * 2) (Manager.cells x0) (.agg [.str x0.name, .sl (Qn x0.fields)]) rfl rfl (Manager.Qo hx0) (Manager.Qu p0.managers) (by decide) rfl), hP 9 (Q4n 2 2 (List.length p0.managers) (i0 : Int) i0 (by omega) (by omega) (by omega)), hV 1 [(2, Manager.rows p0.managers)] (Q1cq 2 2 true ((Manager.rows p0.managers).flatten) (Manager.rows p0.managers) (Manager.rows p0.managers) 1 i0 1 (i0 * 2 + 1) _ (.sl (Qn x0.fields)) rfl rfl (Manager.Qo hx0) (Manager.Qu p0.managers) (by decide) rfl rfl (Q115 (Manager.Qo hx0))), hS 0 true (Manager.Qb p0.managers 2 rfl), hP 0 (Q2g i0 (by omega))] [aN (Q7e (G := G) (f := 177) (sz := 1) (bytes := 16) rfl (Q2f x0.fields) (Q41 x0.fields 1 rfl) (H.2.1 x0 (Q2l hx0)))] (by kernel_rfl) hr
theorem Qyw (p0 : Meta) (H : Qge p0) : ∀ (r0 : List Manager) (i0 : Nat), List.drop i0 p0.managers = r0 → Qac p0 (Qfl p0 i0) (Q13o p0 r0 i0)
 | [], i0, hd => by
  have hc0 : (decide ((i0 : Int) < ((List.length p0.managers) : Int))) = false := by have := Q1m hd; simp; omega
  show Qac p0 _ ()
  exact Q193 p0 H i0 hc0
 | x0 :: r0, i0, hd => by
  obtain ⟨hx0, hi0, hd'⟩ := Q1k hd
  have hc0 : (decide ((i0 : Int) < ((List.length p0.managers) : Int))) = true := by simp; omega
  show Qac p0 _ ()
  exact Qt2 p0 (fun r hr => Q16y p0 H x0 i0 hx0 hi0 hc0 hr) _ (Qyw p0 H r0 (i0 + 1) hd')
def Q1qv (p0 : Meta) : Meta := p0
theorem Q1zp (p0 : Meta) : Q1qv p0 = (p0) := by
  rfl
def Q1xr (p0 : Meta) : En := .call 70 [.agg (Meta.cells p0)] []
def Q1p1 (p0 : Meta) : Rs := .ret (.agg (Meta.cells (Q1qv p0))) []
def Qeg (p0 : Meta) : Prop := (List.length p0.labels * 32 ≤ 140737488355328) ∧ (List.length p0.owners * 48 ≤ 140737488355328) ∧ (List.length p0.finalizers * 16 ≤ 140737488355328) ∧ (List.length p0.managers * 40 ≤ 140737488355328) ∧ (Qge p0) ∧ True
theorem Q1fn (p0 : Meta) (H : Qeg p0) : Q7 G (Q1xr p0) (Q1p1 p0) := by
 unfold Q1p1
 rw [Q1zp]
 have hl0 := Qyw p0 (H.2.2.2.2.1) p0.managers 0 (by simp)
 obtain ⟨z0, zo0, hl0⟩ := hl0
 exact Q8 (fn := Ir.K5z) rfl VOK.nil [hQ (Manager.Qb p0.managers 2 rfl), hS 0 true (Manager.Qb p0.managers 2 rfl), hQ (Manager.Q9 p0.managers).symm] [aN (Q7e (G := G) (f := 175) (sz := 2) (bytes := 32) rfl (Label.Q9 p0.labels) (Label.Qb p0.labels 2 rfl) H.1), aN (Q7e (G := G) (f := 176) (sz := 5) (bytes := 48) rfl (Owner.Q9 p0.owners) (Owner.Qb p0.owners 5 rfl) H.2.1), aN (Q7e (G := G) (f := 177) (sz := 1) (bytes := 16) rfl (Q2f p0.finalizers) (Q41 p0.finalizers 1 rfl) H.2.2.1), aV [(0, Manager.rows p0.managers)] (Q8x (G := G) (f := 178) (sz := 2) (bytes := 40) rfl (Manager.Q9 p0.managers) (Manager.Qb p0.managers 2 rfl) H.2.2.2.1), aV [(2, Manager.rows p0.managers)] hl0] (by kernel_rfl)
end Go.Proofs.YtimjjohlpnkacaaGreat
end

