/-
  Tidying up at a loop's head; a function's end.
-/
import Derived.Test.YtedohmdgbilicaaPvP
import Derived.LoopN
namespace Go.Pv
open Go.RowKit

def Like (p q : PV) : Prop := ∀ w M D v, Rep w M D v p → Rep w M D v q
theorem Like.refl (p : PV) : Like p p := fun _ _ _ _ h => h
theorem Like.ns {sz k : Nat} : Like (.ns sz) (.ms k sz 0 0) := fun w M D v h => by
  cases h with
  | ns _ A _ => exact .ms _ A 0 0 k sz 0 (Nat.le_refl _) (Nat.zero_le _) (.inl ⟨rfl, rfl⟩)
def LikeL (l l' : List PV) : Prop := l'.length = l.length ∧ ∀ (k : Nat) p q, l[k]? = some p → l'[k]? = some q → Like p q
theorem LikeL.nil : LikeL [] [] := ⟨rfl, fun k p q h => by simp at h⟩
theorem LikeL.cons {p q : PV} {l l' : List PV} (h : Like p q) (hl : LikeL l l') : LikeL (p :: l) (q :: l') := by
  refine ⟨by simp [hl.1], fun k p' q' h1 h2 => ?_⟩
  cases k with
  | zero =>
    simp at h1 h2
    subst h1 h2
    exact h
  | succ k => exact hl.2 k p' q' (by simpa using h1) (by simpa using h2)
theorem LikeL.refl : ∀ l : List PV, LikeL l l
  | [] => .nil
  | p :: r => .cons (Like.refl p) (LikeL.refl r)

/-- empty objects, numbered from nx on -/
def Bare (nx : Nat) (l : List (Nat × Ob)) : Prop := ∀ x ∈ l, nx ≤ x.1 ∧ x.2.cells = [] ∧ x.2.ro = 0
theorem Bare.mono {nx nx' : Nat} {l : List (Nat × Ob)} (h : Bare nx' l) (hn : nx ≤ nx') : Bare nx l := fun x hx => ⟨Nat.le_trans hn (h x hx).1, (h x hx).2⟩
theorem virtL_spec : ∀ (l : List PV) (nx : Nat), LikeL l (virtL nx l).1 ∧ nx ≤ (virtL nx l).2.1 ∧ Bare nx (virtL nx l).2.2
  | [], nx => ⟨.nil, Nat.le_refl _, fun x hx => absurd hx List.not_mem_nil⟩
  | p :: r, nx => by
    have plain : LikeL (p :: r) (p :: (virtL nx r).1) ∧ nx ≤ (virtL nx r).2.1 ∧ Bare nx (virtL nx r).2.2 :=
      ⟨.cons (Like.refl p) (virtL_spec r nx).1, (virtL_spec r nx).2⟩
    cases p with
    | ns sz =>
      obtain ⟨h1, h2, h3⟩ := virtL_spec r (nx + 1)
      refine ⟨.cons Like.ns h1, by simp only [virtL]; omega, fun x hx => ?_⟩
      simp only [virtL] at hx
      rcases List.mem_cons.1 hx with rfl | hx
      · exact ⟨Nat.le_refl _, rfl, rfl⟩
      · exact (h3.mono (by omega)) x hx
    | _ => exact plain

def VOb (ob ob' : Ob) : Prop := ob'.ro = ob.ro ∧ ob'.gr = ob.gr ∧ LikeL ob.cells ob'.cells
theorem virtH_spec : ∀ (h : List (Nat × Ob)) (nx : Nat), nx ≤ (virtH nx h).2.1 ∧ Bare nx (virtH nx h).2.2 ∧ (∀ id ob', look (virtH nx h).1 id = some ob' → ∃ ob, look h id = some ob ∧ VOb ob ob')
  | [], nx => ⟨Nat.le_refl _, fun x hx => absurd hx List.not_mem_nil, fun id ob' h => by simp [virtH, look] at h⟩
  | (k, ob) :: r, nx => by
    obtain ⟨h1, h2, h3⟩ := virtL_spec ob.cells nx
    obtain ⟨g1, g2, g3⟩ := virtH_spec r (virtL nx ob.cells).2.1
    refine ⟨by simp only [virtH]; omega, fun x hx => ?_, fun id ob' hl => ?_⟩
    · simp only [virtH] at hx
      rcases List.mem_append.1 hx with hx | hx
      · exact h3 x hx
      · exact (g2.mono h2) x hx
    · simp only [virtH, look] at hl ⊢
      cases hb : Nat.beq k id with
      | true =>
        rw [hb] at hl
        simp only [cond_true, Option.some.injEq] at hl
        subst hl
        exact ⟨ob, rfl, rfl, rfl, h1⟩
      | false =>
        rw [hb] at hl
        simp only [cond_false] at hl ⊢
        exact g3 id ob' hl
theorem look_append {l l' : List (Nat × Ob)} {id : Nat} {ob : Ob} (h : look (l ++ l') id = some ob) : look l id = some ob ∨ look l' id = some ob := by
  induction l with
  | nil => exact .inr h
  | cons x r ih =>
    obtain ⟨k, o⟩ := x
    simp only [List.cons_append, look] at h ⊢
    cases hb : Nat.beq k id with
    | true => rw [hb] at h; exact .inl h
    | false => rw [hb] at h; exact ih h
theorem look_mem {l : List (Nat × Ob)} {id : Nat} {ob : Ob} (h : look l id = some ob) : (id, ob) ∈ l := by
  induction l with
  | nil => simp [look] at h
  | cons x r ih =>
    obtain ⟨k, o⟩ := x
    simp only [look] at h
    by_cases c : k = id
    · subst c
      simp at h
      subst h
      exact List.mem_cons_self
    · have : Nat.beq k id = false := by rw [Bool.eq_false_iff]; exact fun h => c (Nat.eq_of_beq_eq_true h)
      rw [this] at h
      exact List.mem_cons_of_mem _ (ih h)
theorem look_number : ∀ (l : List Ob) (i j : Nat), look (number i l) (i + j) = l[j]?
  | [], i, j => by simp [number, look]
  | o :: r, i, j => by
    simp only [number, look]
    cases j with
    | zero => simp
    | succ j =>
      have : Nat.beq i (i + (j + 1)) = false := by rw [Bool.eq_false_iff]; exact fun h => by have := Nat.eq_of_beq_eq_true h; omega
      rw [this]
      have := look_number r (i + 1) j
      rw [show i + 1 + j = i + (j + 1) by omega] at this
      simpa using this
theorem look_number0 (l : List Ob) : look (number 0 l) = hF l := funext fun j => by
  have := look_number l 0 j
  rw [Nat.zero_add] at this
  exact this

theorem upTo_spec : ∀ m : Nat, (upTo m).length = m ∧ ∀ p, p < m → (upTo m)[p]? = some p
  | 0 => ⟨rfl, fun p h => by omega⟩
  | m + 1 => by
    obtain ⟨h1, h2⟩ := upTo_spec m
    refine ⟨by simp [upTo, h1], fun p hp => ?_⟩
    simp only [upTo]
    by_cases c : p < m
    · rw [List.getElem?_append_left (by omega)]
      exact h2 p c
    · have : p = m := by omega
      subst this
      rw [List.getElem?_append_right (by omega), h1]
      simp
theorem upTo_nodup (m : Nat) : (upTo m).Nodup := by
  induction m with
  | zero => exact List.nodup_nil
  | succ m ih =>
    simp only [upTo]
    rw [List.nodup_append]
    refine ⟨ih, by simp, fun a ha b hb => ?_⟩
    simp at hb
    subst hb
    obtain ⟨i, hi⟩ := List.getElem?_of_mem ha
    have hl := (List.getElem?_eq_some_iff.1 hi).1
    rw [(upTo_spec b).1] at hl
    rw [(upTo_spec b).2 i hl] at hi
    injection hi with hi
    omega

section
variable {P : Program} {X : Orc} {w0 : World} {D0 : Nat → Option Nat} {H0 : Nat → Option Ob} {F : Nat → Nat → Prop} {n0 m L : Nat} {e : Nat → PV} {H : Nat → Option Ob} {a : Act} {w : World} {D : Nat → Option Nat}

theorem virt_sim (S : Sim w D H F n0 m) {Hv : Nat → Option Ob} (hv : ∀ id ob', Hv id = some ob' → (∃ ob, H id = some ob ∧ VOb ob ob') ∨ (ob'.cells = [] ∧ ob'.ro = 0 ∧ D id = none)) :
    (∀ b o, Mut D Hv F b o → Mut D H F b o) ∧ (∀ b o, MutO D Hv b o → MutO D H b o) ∧ Sim w D Hv F n0 m := by
  have hO : ∀ b o, MutO D Hv b o → MutO D H b o := by
    rintro b o ⟨id, ob', h1, h2, h3⟩
    rcases hv id ob' h1 with ⟨ob, g1, g2, _⟩ | ⟨_, _, g⟩
    · exact ⟨id, ob, g1, h2, by omega⟩
    · rw [h2] at g; cases g
  have hM : ∀ b o, Mut D Hv F b o → Mut D H F b o := fun b o h => h.imp (fun h => h) (hO b o)
  refine ⟨hM, hO, S.fr, S.le, S.own, fun id ob' h => ?_, fun i j x y k hi hj di dj => ?_, fun id ob' b o h hd => ?_⟩
  · rcases hv id ob' h with ⟨ob, g1, g2, g3, g4⟩ | ⟨g1, g2, g3⟩
    · obtain ⟨q1, q2⟩ := S.ok id ob g1
      refine ⟨by rw [g4.1]; omega, ?_⟩
      rcases q2 with ⟨e1, e2⟩ | ⟨b, carr, t, e1, e2, e3, e4, e5⟩
      · exact .inl ⟨List.eq_nil_of_length_eq_zero (by rw [g4.1, e1]; rfl), e2⟩
      · refine .inr ⟨b, carr, t, e1, e2, by rw [g4.1]; exact e3, fun hg => e4 (by rw [← g3]; exact hg), fun k q hq => ?_⟩
        have hlt : k < ob.cells.length := by rw [← g4.1]; exact (List.getElem?_eq_some_iff.1 hq).1
        obtain ⟨v, r1, r2, r3⟩ := e5 k _ (List.getElem?_eq_getElem hlt)
        exact ⟨v, r1, r2, g4.2 k _ q (List.getElem?_eq_getElem hlt) hq _ _ _ _ (r3.to (fun b o _ h => hM b o h) (fun _ _ h => h))⟩
    · exact ⟨by omega, .inl ⟨g1, g3⟩⟩
  · rcases hv i x hi with ⟨ob, g1, _⟩ | ⟨_, _, g⟩
    · rcases hv j y hj with ⟨ob', f1, _⟩ | ⟨_, _, f⟩
      · exact S.inj i j ob ob' k g1 f1 di dj
      · rw [dj] at f; cases f
    · rw [di] at g; cases g
  · rcases hv id ob' h with ⟨ob, g1, _⟩ | ⟨_, _, g⟩
    · exact S.dis id ob b o g1 hd
    · rw [hd] at g; cases g

/-- Objects go by new numbers: the first m as they were. -/
theorem renumber (S : Sim w D H F n0 m) (byRef byRefO : Bool) {vs : List PV} {y : List PV × List Nat × List Nat} {z : List Ob × List Nat × List Nat} {n : Nat} (hy : passL (pass H byRef 8) vs (upTo m) = some y) (hz : passObs H byRefO true n 0 y.2.1 = some z) (hdj : ∀ x ∈ y.2.2 ++ z.2.2, x ∉ z.2.1) :
    ∃ D', Sim w D' (hF z.1) F n0 m ∧ (∀ id, id < m → D' id = D id) ∧ (∀ id, z.1.length ≤ id → D' id = none) ∧ (∀ b o, Mut D' (hF z.1) F b o → Mut D H F b o) ∧ m ≤ z.1.length ∧ y.1.length = vs.length ∧
      ∀ (i : Nat) v p q, vs[i]? = some p → y.1[i]? = some q → Rep w (Mut D H F) D v p → Rep w (Mut D' (hF z.1) F) D' v q := by
  have hy0 := passL_sound (M := Mut D H F) (fun p ids x hx => pass_sound S (fun _ _ _ h => h) byRef 8 p ids x hx) vs (upTo m) y hy
  have hz0 := passObs_sound (M := Mut D H F) S (fun _ _ _ h => h) byRefO true n 0 y.2.1 z (Nat.zero_le _) hz
  have hnd0 := hy0.2.1 (upTo_nodup m)
  have hnd := hz0.2.1 hnd0
  have hpre : upTo m <+: z.2.1 := hy0.1.trans hz0.1
  have hlow : ∀ p, p < m → z.2.1[p]? = some p := fun p hp => prefix_get hpre ((upTo_spec m).2 p hp)
  have hlen : z.1.length = z.2.1.length := by have := hz0.2.2.1; omega
  obtain ⟨h1, h2, h3⟩ := handover S byRefO true hz hnd0 (lent := y.2.2 ++ z.2.2) (fun x hx => List.mem_append_right _ hx) (F' := F) (fun b o h => .inl h) (fun id _ ob b o h1 h2 _ hF => S.dis id ob b o h1 h2 hF) hdj (n' := n0) (m' := m) S.fr S.le
    (fun p b hp => by
      unfold Dof at hp
      cases hq : z.2.1[p]? with
      | none => rw [hq] at hp; cases hp
      | some id =>
        rw [hq] at hp
        rcases S.own id b hp with h | h
        · have := (List.getElem?_inj (List.getElem?_eq_some_iff.1 hq).1 hnd).1 (hq.trans (hlow id h).symm)
          exact .inl (by omega)
        · exact .inr h)
    (fun id ob b o _ h1 h2 => S.dis id ob b o h1 h2)
    (fun id ob b hob hg hd => by
      rcases (S.ok id ob hob).2 with ⟨_, e2⟩ | ⟨b', carr, t, e1, _, _, e4, _⟩
      · rw [hd] at e2; cases e2
      · rw [hd] at e1
        injection e1 with e1
        subst e1
        exact e4 (by simpa using hg))
  refine ⟨Dof D z.2.1, h3, fun id hid => by unfold Dof; rw [hlow id hid]; rfl, fun id hid => by unfold Dof; rw [List.getElem?_eq_none (by omega)]; rfl, h1, by have := hpre.length_le; rw [(upTo_spec m).1] at this; omega, hy0.2.2.1, fun i v p q hp hq hr => ?_⟩
  obtain ⟨_, _, _, c4⟩ := passL_sound (fun p ids x hx => pass_sound S (M := Mut (Dof D z.2.1) (hF z.1) F) (fun b o _ h => h1 b o h) byRef 8 p ids x hx) vs (upTo m) y hy
  exact c4 z.2.1 hz0.1 (fun id hi => h2 id (List.mem_append_left _ hi)) i v p q hp hq hr

theorem mask_spec (live : List Nat) : ∀ (l : List PV) (i : Nat), (mask live i l).length = l.length ∧ ∀ (k : Nat) q, (mask live i l)[k]? = some q → q = .un ∨ l[k]? = some q
  | [], i => ⟨rfl, fun k q h => by simp [mask] at h⟩
  | p :: r, i => by
    obtain ⟨h1, h2⟩ := mask_spec live r (i + 1)
    refine ⟨by simp [mask, h1], fun k q hq => ?_⟩
    cases k with
    | zero =>
      simp only [mask, List.getElem?_cons_zero, Option.some.injEq] at hq
      subst hq
      cases has live i with
      | true => exact .inr rfl
      | false => exact .inl rfl
    | succ k => simpa using h2 k q (by simpa [mask] using hq)

theorem passLref {n : Nat} {vs : List PV} {ids : List Nat} {y : List PV × List Nat × List Nat} (h : passL (pass H true n) vs ids = some y) : y.2.2 = [] := by
  induction n generalizing vs ids y with
  | zero =>
    cases vs with
    | nil => simp only [passL, Option.some.injEq] at h; subst h; rfl
    | cons p r =>
      simp only [passL] at h
      obtain ⟨x, hx, _⟩ := bind_some h
      simp [pass] at hx
  | succ n ih =>
    have one : ∀ p ids x, pass H true (n + 1) p ids = some x → x.fr = [] := by
      intro p ids x h
      cases p with
      | bx id off => rw [pass] at h; injection h with h; subst h; rfl
      | ms id sz off len => rw [pass, cond_true] at h; injection h with h; subst h; rfl
      | agg c =>
        rw [pass] at h
        obtain ⟨y, hy, h⟩ := bind_some h
        injection h with h
        subst h
        exact ih hy
      | tup c =>
        rw [pass] at h
        obtain ⟨y, hy, h⟩ := bind_some h
        injection h with h
        subst h
        exact ih hy
      | fn f a b =>
        rw [pass] at h
        obtain ⟨y, hy, h⟩ := bind_some h
        obtain ⟨z, hz, h⟩ := bind_some h
        injection h with h
        subst h
        show y.2.2 ++ z.2.2 = []
        rw [ih hy, ih hz]
        rfl
      | _ => simp only [pass, Option.some.injEq] at h; subst h; rfl
    induction vs generalizing ids y with
    | nil => simp only [passL, Option.some.injEq] at h; subst h; rfl
    | cons p r ihr =>
      simp only [passL] at h
      obtain ⟨x, hx, h⟩ := bind_some h
      obtain ⟨z, hz, h⟩ := bind_some h
      injection h with h
      subst h
      show x.fr ++ z.2.2 = []
      rw [one p ids x hx, ihr hz]
      rfl
theorem passObsRef {own : Bool} : ∀ (n k : Nat) (ids : List Nat) (z : List Ob × List Nat × List Nat), passObs H true own n k ids = some z → z.2.2 = []
  | 0, k, ids, z, h => by simp [passObs] at h
  | n + 1, k, ids, z, h => by
    simp only [passObs] at h
    cases hid : ids[k]? with
    | none => simp only [hid, Option.some.injEq] at h; subst h; rfl
    | some id =>
      simp only [hid] at h
      obtain ⟨ob, hob, h⟩ := bind_some h
      obtain ⟨y, hy, h⟩ := bind_some h
      obtain ⟨z', hz, h⟩ := bind_some h
      injection h with h
      subst h
      show y.2.2 ++ z'.2.2 = []
      rw [passLref hy, passObsRef n (k + 1) y.2.1 z' hz]
      rfl

theorem gc_sound {s : St} (A : At w0 D0 H0 F n0 m s.env.length (envF s.env) (look s.heap) a w D) (hf : ∀ id, s.nx ≤ id → D id = none ∧ look s.heap id = none) {live : List Nat} {y : List PV × List Ob} (h : gc m live s = some y) :
    ∃ D', At w0 D0 H0 F n0 m y.1.length (envF y.1) (hF y.2) a w D' ∧ (∀ id, y.2.length ≤ id → D' id = none ∧ hF y.2 id = none) ∧ m ≤ y.2.length := by
  unfold gc at h
  obtain ⟨y1, hy1, h⟩ := bind_some h
  obtain ⟨z, hz, h⟩ := bind_some h
  injection h with h
  subst h
  obtain ⟨v1, v2, v3⟩ := virtL_spec (mask live 0 s.env) s.nx
  obtain ⟨u1, u2, u3⟩ := virtH_spec s.heap (virtL s.nx (mask live 0 s.env)).2.1
  obtain ⟨hM, hO, S⟩ := virt_sim A.sim (Hv := look ((virtH (virtL s.nx (mask live 0 s.env)).2.1 s.heap).1 ++ ((virtL s.nx (mask live 0 s.env)).2.2 ++ (virtH (virtL s.nx (mask live 0 s.env)).2.1 s.heap).2.2))) (fun id ob' h => by
    rcases look_append h with h | h
    · exact .inl (u3 id ob' h)
    · have : s.nx ≤ id ∧ ob'.cells = [] ∧ ob'.ro = 0 := by
        rcases List.mem_append.1 (look_mem h) with hm | hm
        · exact v3 _ hm
        · exact (u2.mono v2) _ hm
      exact .inr ⟨this.2.1, this.2.2, (hf id this.1).1⟩)
  obtain ⟨D', S', hlow, hout, hsub, hlen, hyl, hrep⟩ := renumber S true true hy1 hz (by rw [passLref hy1, passObsRef _ _ _ _ hz]; exact fun x hx => absurd hx List.not_mem_nil)
  obtain ⟨m1, m2⟩ := mask_spec live s.env 0
  have hlt : y1.1.length = s.env.length := by rw [hyl, v1.1, m1]
  refine ⟨D', ⟨S', fun t => ?_, by rw [hlt]; exact A.size, fun t ht => ?_, A.keeps, fun id hid => by rw [hlow id hid, A.low id hid], fun b o hb h => A.sub b o hb (hM b o (hsub b o h)), A.defers⟩, fun id hid => ⟨hout id hid, List.getElem?_eq_none hid⟩, hlen⟩
  · unfold envF
    rw [List.getD_eq_getElem?_getD]
    cases hq : y1.1[t]? with
    | none => exact .un _ _
    | some q =>
      have htl : t < (virtL s.nx (mask live 0 s.env)).1.length := by rw [← hyl]; exact (List.getElem?_eq_some_iff.1 hq).1
      refine hrep t _ _ q (List.getElem?_eq_getElem htl) hq ?_
      have htm : t < (mask live 0 s.env).length := by rw [← v1.1]; exact htl
      refine v1.2 t _ _ (List.getElem?_eq_getElem htm) (List.getElem?_eq_getElem htl) _ _ _ _ ?_
      rcases m2 t _ (List.getElem?_eq_getElem htm) with h | h
      · rw [h]; exact .un _ _
      · have := A.env t
        unfold envF at this
        rw [List.getD_eq_getElem?_getD, h] at this
        exact this.to (fun b o _ h => hM b o h) (fun _ _ h => h)
  · show envF y1.1 t = .un
    unfold envF
    rw [List.getD_eq_getElem?_getD, List.getElem?_eq_none ht]
    rfl

/-! ### a function's end -/
def chkRes (P : Program) : List ResultVar → List RV → Bool
  | [], [] => true
  | .tmp t :: r, .tmp t' :: r' => Nat.beq t t' && chkRes P r r'
  | .cell t ty :: r, .cell t' n ag :: r' => Nat.beq t t' && tyOK P ty n ag && chkRes P r r'
  | _, _ => false

theorem run_var (S : Sim w D H F n0 m) {t : TypeId} {n : Nat} {ag : Bool} (ht : tyOK P t n ag = true) {p q : PV} {c : List PV × List Nat} (hc : reads H n p = some c) (hq : shape ag c.1 = some q) {u : Value} (hu : Rep w (Mut D H F) D u p) :
    ∃ v, (do loadVar t (← asAddr u) : Sem Value).run P w = .ok v w ∧ Rep w (Mut D H F) D v q := by
  obtain ⟨b, off, xs, hv, hl, hra, hrn⟩ := reads_sound S hc hu
  obtain ⟨ha, hn, h1⟩ := tyOK_spec ht
  subst hv
  cases ag with
  | true =>
    obtain ⟨fs, hu⟩ := rowTy_true ha
    simp only [shape, cond_true, Option.some.injEq] at hq
    subst hq
    refine ⟨.agg xs.toArray, ?_, .agg _ _ _ (by simpa using hrn.1) (fun i v p hv hp => (hrn.2 i v p (by simpa using hv) hp).1) (fun i v p hv hp => (hrn.2 i v p (by simpa using hv) hp).2)⟩
    obtain ⟨i, hi, his⟩ := szOf_info hn
    have := run_loadVar_mid (P := P) w b off t xs _ hra hu rfl (by rw [hi]; simp [his, hl])
    simp [asAddr, this]
  | false =>
    have hn1 : n = 1 := h1 rfl
    subst hn1
    cases xs with
    | nil => simp at hl
    | cons u r =>
      have hr0 : r = [] := by cases r with | nil => rfl | cons _ _ => simp at hl
      subst hr0
      obtain ⟨c1, c2⟩ := c
      cases c1 with
      | nil => have := hrn.1; simp at this
      | cons p r =>
        have : r = [] := by cases r with | nil => rfl | cons _ _ => have := hrn.1; simp at this
        subst this
        simp only [shape, cond_false, Option.some.injEq] at hq
        subst hq
        have hcell := hra 0 u rfl
        simp only [Nat.add_zero] at hcell
        refine ⟨u, ?_, (hrn.2 0 u p rfl rfl).2⟩
        simp [asAddr, loadVar, run_isAgg ha, hcell]

def resOf (tmps : Array Value) : ResultVar → Sem Value
  | .tmp t => pure (tmps.getD t undef)
  | .cell x t => do loadVar t (← asAddr (tmps.getD x undef))
theorem results_eq (fn : Func) (tmps : Array Value) : results fn tmps = (do let vs ← fn.results.mapM (resOf tmps); pure (if h : vs.size = 1 then vs[0] else .tuple vs)) := by
  unfold results
  have : (fun x : ResultVar => (match x with | .tmp t => pure (tmps.getD t undef) | .cell x t => do loadVar t (← asAddr (tmps.getD x undef)) : Sem Value)) = resOf tmps := by
    funext x
    cases x <;> rfl
  rw [← this]
  rfl

theorem rvs_sound {s : St} (S : Sim w D (look s.heap) F n0 m) (he : EnvOK w (Mut D (look s.heap) F) D a (envF s.env)) : ∀ (rs : List ResultVar) (is : List RV) (vs : List PV), chkRes P rs is = true → mapO (rv s) is = some vs →
    ∃ us, (rs.mapM (resOf a.tmps)).run P w = .ok us w ∧ RepL w (Mut D (look s.heap) F) D us vs
  | [], [], vs, _, h => by
    simp only [mapO, Option.some.injEq] at h
    subst h
    exact ⟨[], by simp, RepL.nil _ _ _⟩
  | [], _ :: _, vs, h, _ => by cases h
  | x :: rs, [], vs, h, _ => by cases x <;> cases h
  | x :: rs, i :: is, vs, hc, h => by
    simp only [mapO] at h
    obtain ⟨q, hq, h⟩ := bind_some h
    obtain ⟨qs, hqs, h⟩ := bind_some h
    injection h with h
    subst h
    cases x with
    | tmp t =>
      cases i with
      | cell _ _ _ => cases hc
      | tmp t' =>
        simp only [chkRes, Bool.and_eq_true] at hc
        have := Nat.eq_of_beq_eq_true hc.1
        subst this
        obtain ⟨us, hus, hr⟩ := rvs_sound S he rs is qs hc.2 hqs
        simp only [rv, Option.some.injEq] at hq
        subst hq
        refine ⟨_ :: us, ?_, RepL.cons (he t) hr⟩
        rw [List.mapM_cons, Sem.run_bind]
        have hv' : (resOf a.tmps (.tmp t)).run P w = .ok (a.tmps.getD t undef) w := rfl
        rw [hv', Result.andThen_ok, Sem.run_bind, hus]
        rfl
    | cell t ty =>
      cases i with
      | tmp _ => cases hc
      | cell t' n ag =>
        simp only [chkRes, Bool.and_eq_true] at hc
        have := Nat.eq_of_beq_eq_true hc.1.1
        subst this
        obtain ⟨us, hus, hr⟩ := rvs_sound S he rs is qs hc.2 hqs
        simp only [rv] at hq
        obtain ⟨c, hc1, hc2⟩ := bind_some hq
        obtain ⟨v, hv, hvr⟩ := run_var (P := P) S hc.1.2 hc1 hc2 (he t)
        refine ⟨v :: us, ?_, RepL.cons hvr hr⟩
        rw [List.mapM_cons, Sem.run_bind]
        have hv' : (resOf a.tmps (.cell t ty)).run P w = .ok v w := hv
        rw [hv', Result.andThen_ok, Sem.run_bind, hus]
        rfl

theorem regr_get : ∀ (m : Nat) (l : List Ob) (p : Nat) (ob : Ob), (regr m l)[p]? = some ob → ∃ o, l[p]? = some o ∧ ob.ro = o.ro ∧ ob.cells = o.cells ∧ (p < m → ob = o)
  | _, [], p, ob, h => by simp [regr] at h
  | 0, o :: r, p, ob, h => by
    cases p with
    | zero =>
      simp only [regr, List.getElem?_cons_zero, Option.some.injEq] at h
      subst h
      exact ⟨o, rfl, rfl, rfl, fun h => absurd h (Nat.not_lt_zero _)⟩
    | succ p =>
      simp only [regr, List.getElem?_cons_succ] at h
      obtain ⟨o', h1, h2, h3, _⟩ := regr_get 0 r p ob h
      exact ⟨o', by simpa using h1, h2, h3, fun h => absurd h (Nat.not_lt_zero _)⟩
  | m + 1, o :: r, p, ob, h => by
    cases p with
    | zero =>
      simp only [regr, List.getElem?_cons_zero, Option.some.injEq] at h
      subst h
      exact ⟨o, rfl, rfl, rfl, fun _ => rfl⟩
    | succ p =>
      simp only [regr, List.getElem?_cons_succ] at h
      obtain ⟨o', h1, h2, h3, h4⟩ := regr_get m r p ob h
      exact ⟨o', by simpa using h1, h2, h3, fun h => h4 (by omega)⟩
theorem regr_len : ∀ (m : Nat) (l : List Ob), (regr m l).length = l.length
  | _, [] => by simp [regr]
  | 0, o :: r => by simp [regr, regr_len 0 r]
  | m + 1, o :: r => by simp [regr, regr_len m r]
theorem regr_back (m : Nat) (l : List Ob) (p : Nat) (o : Ob) (h : l[p]? = some o) : ∃ ob, (regr m l)[p]? = some ob ∧ ob.ro = o.ro ∧ ob.cells = o.cells := by
  have hlt : p < (regr m l).length := by rw [regr_len]; exact (List.getElem?_eq_some_iff.1 h).1
  obtain ⟨o', h1, h2, h3, _⟩ := regr_get m l p _ (List.getElem?_eq_getElem hlt)
  rw [h] at h1
  injection h1 with h1
  subst h1
  exact ⟨_, List.getElem?_eq_getElem hlt, h2, h3⟩
theorem regr_mut {m : Nat} {l : List Ob} {D : Nat → Option Nat} {F : Nat → Nat → Prop} {b o : Nat} : Mut D (hF (regr m l)) F b o ↔ Mut D (hF l) F b o := by
  constructor
  · rintro (h | ⟨id, ob, h1, h2, h3⟩)
    · exact .inl h
    · obtain ⟨o', g1, g2, _⟩ := regr_get m l id ob h1
      exact .inr ⟨id, o', g1, h2, by rw [← g2]; exact h3⟩
  · rintro (h | ⟨id, ob, h1, h2, h3⟩)
    · exact .inl h
    · obtain ⟨o', g1, g2, _⟩ := regr_back m l id ob h1
      exact .inr ⟨id, o', g1, h2, by rw [g2]; exact h3⟩
theorem regr_sim {w : World} {D : Nat → Option Nat} {l : List Ob} {F : Nat → Nat → Prop} {n0 m : Nat} (S : Sim w D (hF l) F n0 m) : Sim w D (hF (regr m l)) F n0 m := by
  refine ⟨S.fr, S.le, S.own, fun id ob h => ?_, fun i j a b k hi hj di dj => ?_, fun id ob b o h hd => ?_⟩
  · obtain ⟨o', g1, g2, g3, g4⟩ := regr_get m l id ob h
    obtain ⟨k1, k2⟩ := S.ok id o' g1
    refine ⟨by rw [g2, g3]; exact k1, ?_⟩
    rcases k2 with ⟨e1, e2⟩ | ⟨b, carr, t, e1, e2, e3, e4, e5⟩
    · exact .inl ⟨by rw [g3]; exact e1, e2⟩
    · refine .inr ⟨b, carr, t, e1, e2, by rw [g3]; exact e3, fun hg => ?_, fun k p hp => ?_⟩
      · by_cases c : id < m
        · rw [g4 c] at hg
          exact e4 hg
        · exact (S.own id b e1).resolve_left c
      · rw [g3] at hp
        obtain ⟨v, q1, q2, q3⟩ := e5 k p hp
        exact ⟨v, q1, q2, q3.to (fun b o _ h => regr_mut.1 h) (fun _ _ h => h)⟩
  · obtain ⟨a', g1, _⟩ := regr_get m l i a hi
    obtain ⟨b', g2, _⟩ := regr_get m l j b hj
    exact S.inj i j a' b' k g1 g2 di dj
  · obtain ⟨a', g1, _⟩ := regr_get m l id ob h
    exact S.dis id a' b o g1 hd
theorem fin_sound {fn : IFn} {Fn : Func} {s : St} (A : At w0 D0 H0 F n0 m s.env.length (envF s.env) (look s.heap) a w D) (hf : ∀ id, s.nx ≤ id → D id = none ∧ look s.heap id = none) (hc : chkRes P Fn.results.toList fn.res = true) {r : Rs} (h : fin fn m s = some r) :
    ∃ v p h' D', r = .ret p h' ∧ (results Fn a.tmps).run P w = .ok v w ∧ Sim w D' (hF h') F n0 m ∧ (∀ id, id < m → D' id = D id) ∧ (∀ id, h'.length ≤ id → D' id = none) ∧ (∀ b o, Mut D' (hF h') F b o → Mut D (look s.heap) F b o) ∧ m ≤ h'.length ∧ Rep w (Mut D' (hF h') F) D' v p := by
  unfold fin at h
  obtain ⟨vs, hvs, h⟩ := bind_some h
  obtain ⟨y, hy, h⟩ := bind_some h
  obtain ⟨z, hz, h⟩ := bind_some h
  obtain ⟨hdj, h⟩ := bif_some h
  injection h with h
  subst h
  obtain ⟨us, hus, hrl⟩ := rvs_sound A.sim A.env _ _ vs hc hvs
  -- what stands in the results, laid out
  have hvirt : LikeL vs (bif fn.keep then virtL s.nx vs else (vs, s.nx, [])).1 ∧ Bare s.nx (bif fn.keep then virtL s.nx vs else (vs, s.nx, [])).2.2 := by
    cases fn.keep with
    | true => exact ⟨(virtL_spec vs s.nx).1, (virtL_spec vs s.nx).2.2⟩
    | false => exact ⟨LikeL.refl vs, fun x hx => absurd hx List.not_mem_nil⟩
  obtain ⟨hlike, hbare⟩ := hvirt
  obtain ⟨hM, hO, S⟩ := virt_sim A.sim (Hv := look (s.heap ++ (bif fn.keep then virtL s.nx vs else (vs, s.nx, [])).2.2)) (fun id ob' h => by
    rcases look_append h with h | h
    · exact .inl ⟨ob', h, rfl, rfl, LikeL.refl _⟩
    · have := hbare _ (look_mem h)
      exact .inr ⟨this.2.1, this.2.2, (hf id this.1).1⟩)
  obtain ⟨D', S', hlow, hout, hsub, hlen, hyl, hrep⟩ := renumber S fn.keep false hy hz (disj_iff.1 hdj)
  have hR : RepL w (Mut D' (hF z.1) F) D' us y.1 := by
    refine ⟨by rw [hyl, hlike.1]; exact hrl.1, fun i v q hv hq => ?_⟩
    have h1 : i < (bif fn.keep then virtL s.nx vs else (vs, s.nx, [])).1.length := by rw [← hyl]; exact (List.getElem?_eq_some_iff.1 hq).1
    have h2 : i < vs.length := by rw [← hlike.1]; exact h1
    refine hrep i v _ q (List.getElem?_eq_getElem h1) hq ?_
    refine hlike.2 i _ _ (List.getElem?_eq_getElem h2) (List.getElem?_eq_getElem h1) _ _ _ _ ?_
    exact (hrl.2 i v _ hv (List.getElem?_eq_getElem h2)).to (fun b o _ h => hM b o h) (fun _ _ h => h)
  have hrun : ∀ u : Value, (if h : us.toArray.size = 1 then us.toArray[0] else .tuple us.toArray) = u → (results Fn a.tmps).run P w = .ok u w := by
    intro u hu
    rw [results_eq, Sem.run_bind, Array.mapM_eq_mapM_toList, Sem.run_map, hus, Result.andThen_ok, Result.andThen_ok]
    rw [← hu]
    rfl
  have hR : RepL w (Mut D' (hF (regr m z.1)) F) D' us y.1 := hR.mono fun v p h => h.to (fun b o _ h => regr_mut.1 h) (fun _ _ h => h)
  refine ⟨_, _, regr m z.1, D', rfl, hrun _ rfl, regr_sim S', hlow, fun id h => hout id (by rw [regr_len] at h; exact h), fun b o h => hM b o (hsub b o (regr_mut.1 h)), by rw [regr_len]; exact hlen, ?_⟩
  have htup : ∀ l : List PV, RepL w (Mut D' (hF (regr m z.1)) F) D' us l → Rep w (Mut D' (hF (regr m z.1)) F) D' (.tuple us.toArray) (.tup l) := fun l hl =>
    .tup _ _ _ (by simpa using hl.1) (fun i v p hv hp => hl.2 i v p (by simpa using hv) hp)
  generalize y.1 = l at hR ⊢
  match l, hR with
  | [], hR =>
    have : us.length = 0 := hR.1
    rw [dif_neg (by simp [this])]
    exact htup _ hR
  | [p], hR =>
    have : us.length = 1 := hR.1
    rw [dif_pos (by simpa using this)]
    exact hR.2 0 _ _ (by simp [this]) rfl
  | p :: q :: r, hR =>
    have : us.length = r.length + 1 + 1 := hR.1
    rw [dif_neg (by simp [this])]
    exact htup _ hR
end
end Go.Pv
