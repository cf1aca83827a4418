/-
  A run along a trace: at chosen operations the answer is handed in, and what is to be shown of it told.
-/
import Derived.Test.YtedohmdgbilicaaPvT
namespace Go.Pv

/-- hints: after so many operations that are carried out, one whose answer is handed in -/
abbrev Hints := List (Nat × Eff)
abbrev Owed := List (Option Eff × Eff)
def Paid (l : Owed) : Prop := ∀ p ∈ l, p.1 = some p.2
theorem Paid.nil : Paid [] := fun _ h => absurd h List.not_mem_nil
theorem Paid.cons {a : Option Eff} {x : Eff} {l : Owed} (h : a = some x) (hl : Paid l) : Paid ((a, x) :: l) := fun p hp => by
  rcases List.mem_cons.1 hp with rfl | hp
  · exact h
  · exact hl p hp
theorem Paid.left {a b : Owed} (h : Paid (a ++ b)) : Paid a := fun p hp => h p (List.mem_append_left _ hp)
theorem Paid.right {a b : Owed} (h : Paid (a ++ b)) : Paid b := fun p hp => h p (List.mem_append_right _ hp)

structure TR where
  env : List PV
  heap : List (Nat × Ob)
  effs : List Eff
  hs : Hints
  owed : Owed

def iregT (X : Orc) (nx : Nat) : Nat → List IOper → Hints → List PV → List (Nat × Ob) → Option TR
  | _, [], hs, env, h => some ⟨env, h, [], hs, []⟩
  | i, o :: r, hs, env, h =>
    match hs with
    | [] => (istep X (envF env) (look h) (nx + 64 * i) o).bind fun x => (iregT X nx (i + 1) r [] (put env o.dst x.v) (hput h x.hw)).bind fun y => some ⟨y.env, y.heap, x :: y.effs, y.hs, y.owed⟩
    | (k + 1, z) :: hs' => (istep X (envF env) (look h) (nx + 64 * i) o).bind fun x => (iregT X nx (i + 1) r ((k, z) :: hs') (put env o.dst x.v) (hput h x.hw)).bind fun y => some ⟨y.env, y.heap, x :: y.effs, y.hs, y.owed⟩
    | (0, x) :: hs' => (iregT X nx (i + 1) r hs' (put env o.dst x.v) (hput h x.hw)).bind fun y => some ⟨y.env, y.heap, x :: y.effs, y.hs, (istep X (envF env) (look h) (nx + 64 * i) o, x) :: y.owed⟩

theorem obind_some {α β : Type} {x : Option α} {f : α → Option β} {y : β} (h : x.bind f = some y) : ∃ a, x = some a ∧ f a = some y := Option.bind_eq_some_iff.1 h
theorem iregT_sound {X : Orc} {nx : Nat} : ∀ (ops : List IOper) (i : Nat) (hs : Hints) (env : List PV) (h : List (Nat × Ob)) (t : TR), iregT X nx i ops hs env h = some t → Paid t.owed → iregion X nx i ops env h = some (t.env, t.heap, t.effs)
  | [], i, hs, env, h, t, ht, _ => by
    simp only [iregT, Option.some.injEq] at ht
    subst ht
    rfl
  | o :: r, i, hs, env, h, t, ht, hp => by
    have go : ∀ (x : Eff) (hs' : Hints) (ow : Owed), istep X (envF env) (look h) (nx + 64 * i) o = some x → ((iregT X nx (i + 1) r hs' (put env o.dst x.v) (hput h x.hw)).bind fun y => some (⟨y.env, y.heap, x :: y.effs, y.hs, ow ++ y.owed⟩ : TR)) = some t → iregion X nx i (o :: r) env h = some (t.env, t.heap, t.effs) := by
      intro x hs' ow hx hb
      obtain ⟨y, hy, hb⟩ := obind_some hb
      injection hb with hb
      subst hb
      simp only [iregion]
      rw [hx, Option.bind_some, iregT_sound r (i + 1) hs' _ _ y hy hp.right]
      rfl
    unfold iregT at ht
    split at ht
    · obtain ⟨x, hx, ht⟩ := obind_some ht
      exact go x [] [] hx ht
    · obtain ⟨x, hx, ht⟩ := obind_some ht
      exact go x _ [] hx ht
    · rename_i x hs'
      have hx : istep X (envF env) (look h) (nx + 64 * i) o = some x := by
        obtain ⟨y, hy, hb⟩ := obind_some ht
        injection hb with hb
        subst hb
        exact hp _ List.mem_cons_self
      exact go x hs' [(istep X (envF env) (look h) (nx + 64 * i) o, x)] hx ht

/-- all that is told in the end -/
noncomputable def lim (G : Nat → Option Fun) : Orc := fun e => open Classical in if h : ∃ r, Tells G e r then some (Classical.choose h) else none
theorem tells_det {G : Nat → Option Fun} {e : En} {r r' : Rs} (h : Tells G e r) (h' : Tells G e r') : r = r' := by
  obtain ⟨n, hn⟩ := h
  obtain ⟨m, hm⟩ := h'
  have a := runs_le hn (max n m) (Nat.le_max_left _ _)
  rw [runs_le hm (max n m) (Nat.le_max_right _ _)] at a
  injection a with a
  exact a.symm
theorem lim_of {G : Nat → Option Fun} {e : En} {r : Rs} (h : Tells G e r) : lim G e = some r := by
  have hx : ∃ r, Tells G e r := ⟨r, h⟩
  unfold lim
  rw [dif_pos hx]
  exact congrArg some (tells_det (Classical.choose_spec hx) h)
theorem sure_lim {G : Nat → Option Fun} : Sure G (lim G) := by
  intro e r h
  unfold lim at h
  split at h
  · rename_i hx
    injection h with h
    subst h
    exact Classical.choose_spec hx
  · cases h
theorem to_lim {G : Nat → Option Fun} {X : Orc} (hX : Sure G X) : Conv X (fun _ => lim G) := fun _ _ h => ⟨0, fun _ _ => lim_of (hX _ _ h)⟩

abbrev Asked := List (En × Rs)
def Told (G : Nat → Option Fun) (l : Asked) : Prop := ∀ p ∈ l, Tells G p.1 p.2
theorem Told.nil {G : Nat → Option Fun} : Told G [] := fun _ h => absurd h List.not_mem_nil
theorem Told.cons {G : Nat → Option Fun} {e : En} {r : Rs} {l : Asked} (h : Tells G e r) (hl : Told G l) : Told G ((e, r) :: l) := fun p hp => by
  rcases List.mem_cons.1 hp with rfl | hp
  · exact h
  · exact hl p hp
theorem Told.left {G : Nat → Option Fun} {a b : Asked} (h : Told G (a ++ b)) : Told G a := fun p hp => h p (List.mem_append_left _ hp)
theorem Told.right {G : Nat → Option Fun} {a b : Asked} (h : Told G (a ++ b)) : Told G b := fun p hp => h p (List.mem_append_right _ hp)

structure CR where
  ex : Ex
  st : St
  hs : Hints
  ls : List (Ex × St)
  owed : Owed
  asked : Asked

def icodeT (X : Orc) (m : Nat) : IR → Hints → List (Ex × St) → St → Option CR
  | .skip, hs, ls, s => some ⟨.normal, s, hs, ls, [], []⟩
  | .reg ops draw, hs, ls, s => (iregT X s.nx 0 ops hs s.env s.heap).bind fun y => bif !draw || calm (ops.zip y.effs) 0 (ops.zip y.effs) then some ⟨.normal, ⟨y.env, y.heap, s.nx + 64 * ops.length⟩, y.hs, ls, y.owed, []⟩ else none
  | .seq a b, hs, ls, s => (icodeT X m a hs ls s).bind fun x => (match x.ex with | .normal => (icodeT X m b x.hs x.ls x.st).bind fun y => some ⟨y.ex, y.st, y.hs, y.ls, x.owed ++ y.owed, x.asked ++ y.asked⟩ | _ => some x)
  | .cond c a b, hs, ls, s => (match c.ev (envF s.env) with | .bool t => (bif t then icodeT X m a hs ls s else icodeT X m b hs ls s) | _ => none)
  | .block id b, hs, ls, s => (icodeT X m b hs ls s).bind fun x => (match x.ex with | .exit j => (bif Nat.beq j id then some ⟨.normal, x.st, x.hs, x.ls, x.owed, x.asked⟩ else some x) | _ => some x)
  | .loop live b, hs, ls, s => (gc m live s).bind fun y => (match ls with
    | (e, s') :: ls' => some ⟨e, s', hs, ls', [], [(.loop m live b y.1 y.2, .st e s')]⟩
    | [] => (X (.loop m live b y.1 y.2)).bind fun r => (match r with | .st e s' => some ⟨e, s', hs, [], [], []⟩ | _ => none))
  | .exit id, hs, ls, s => some ⟨.exit id, s, hs, ls, [], []⟩
  | .ret, hs, ls, s => some ⟨.ret, s, hs, ls, [], []⟩

theorem icodeT_sound {G : Nat → Option Fun} {X : Orc} (hX : Sure G X) {m : Nat} : ∀ (c : IR) (hs : Hints) (ls : List (Ex × St)) (s : St) (t : CR), icodeT X m c hs ls s = some t → Paid t.owed → Told G t.asked → icode (lim G) m c s = some (t.ex, t.st)
  | .skip, hs, ls, s, t, ht, _, _ => by
    simp only [icodeT, Option.some.injEq] at ht
    subst ht
    rfl
  | .reg ops draw, hs, ls, s, t, ht, hp, _ => by
    simp only [icodeT] at ht
    obtain ⟨y, hy, ht⟩ := obind_some ht
    cases hc : (!draw || calm (ops.zip y.effs) 0 (ops.zip y.effs)) with
    | false => rw [hc] at ht; cases ht
    | true =>
      rw [hc] at ht
      simp only [cond_true, Option.some.injEq] at ht
      subst ht
      have h1 : ireg X ops draw s = some ⟨y.env, y.heap, s.nx + 64 * ops.length⟩ := by
        unfold ireg
        rw [iregT_sound ops 0 hs _ _ y hy hp, Option.bind_some]
        simp only
        rw [hc]
        rfl
      obtain ⟨n, hn⟩ := ireg_ev (to_lim hX) _ h1
      have h2 : ireg (lim G) ops draw s = some ⟨y.env, y.heap, s.nx + 64 * ops.length⟩ := hn n (Nat.le_refl _)
      simp only [icode]
      rw [h2]
      rfl
  | .seq a b, hs, ls, s, t, ht, hp, hq => by
    simp only [icodeT] at ht
    obtain ⟨x, hx, ht⟩ := obind_some ht
    obtain ⟨ex, st, hs1, ls1, ow, ak⟩ := x
    simp only [icode]
    cases ex with
    | normal =>
      simp only at ht
      obtain ⟨y, hy, ht⟩ := obind_some ht
      injection ht with ht
      subst ht
      rw [icodeT_sound hX a hs ls s _ hx hp.left hq.left, Option.bind_some]
      exact icodeT_sound hX b hs1 ls1 st y hy hp.right hq.right
    | exit j =>
      simp only [Option.some.injEq] at ht
      subst ht
      rw [icodeT_sound hX a hs ls s _ hx hp hq, Option.bind_some]
    | ret =>
      simp only [Option.some.injEq] at ht
      subst ht
      rw [icodeT_sound hX a hs ls s _ hx hp hq, Option.bind_some]
  | .cond c a b, hs, ls, s, t, ht, hp, hq => by
    simp only [icodeT] at ht
    simp only [icode]
    split at ht
    · rename_i q hq'
      rw [hq']
      cases q with
      | true => exact icodeT_sound hX a hs ls s t ht hp hq
      | false => exact icodeT_sound hX b hs ls s t ht hp hq
    · cases ht
  | .block id b, hs, ls, s, t, ht, hp, hq => by
    simp only [icodeT] at ht
    obtain ⟨x, hx, ht⟩ := obind_some ht
    obtain ⟨ex, st, hs1, ls1, ow, ak⟩ := x
    simp only [icode]
    cases ex with
    | normal =>
      simp only [Option.some.injEq] at ht
      subst ht
      rw [icodeT_sound hX b hs ls s _ hx hp hq, Option.bind_some]
    | ret =>
      simp only [Option.some.injEq] at ht
      subst ht
      rw [icodeT_sound hX b hs ls s _ hx hp hq, Option.bind_some]
    | exit j =>
      simp only at ht
      cases hj : Nat.beq j id with
      | true =>
        rw [hj] at ht
        simp only [cond_true, Option.some.injEq] at ht
        subst ht
        rw [icodeT_sound hX b hs ls s _ hx hp hq, Option.bind_some]
        simp only
        rw [hj]
        rfl
      | false =>
        rw [hj] at ht
        simp only [cond_false, Option.some.injEq] at ht
        subst ht
        rw [icodeT_sound hX b hs ls s _ hx hp hq, Option.bind_some]
        simp only
        rw [hj]
        rfl
  | .loop live b, hs, ls, s, t, ht, hp, hq => by
    simp only [icodeT] at ht
    obtain ⟨y, hy, ht⟩ := obind_some ht
    simp only [icode]
    rw [hy, Option.bind_some]
    cases ls with
    | cons l ls' =>
      obtain ⟨e, s'⟩ := l
      simp only [Option.some.injEq] at ht
      subst ht
      rw [lim_of (hq _ List.mem_cons_self), Option.bind_some]
    | nil =>
      simp only at ht
      obtain ⟨r, hr, ht⟩ := obind_some ht
      rw [lim_of (hX _ _ hr), Option.bind_some]
      cases r with
      | ret _ _ => cases ht
      | st e s' =>
        simp only [Option.some.injEq] at ht
        subst ht
        rfl
  | .exit id, hs, ls, s, t, ht, _, _ => by
    simp only [icodeT, Option.some.injEq] at ht
    subst ht
    rfl
  | .ret, hs, ls, s, t, ht, _, _ => by
    simp only [icodeT, Option.some.injEq] at ht
    subst ht
    rfl

/-- a call along a trace -/
def callT (X : Orc) (fn : IFn) (args : List PV) (h : List Ob) (hs : Hints) (ls : List (Ex × St)) : Option (Rs × Owed × Asked) :=
  bif Nat.beq args.length fn.np then
    (icodeT X h.length fn.body hs ls ⟨args ++ nuns (fn.nt - fn.np), number 0 h, h.length⟩).bind fun x =>
      (match x.ex with
       | .exit _ => none
       | _ => (fin fn h.length x.st).bind fun r => some (r, x.owed, x.asked))
  else none
theorem tells_TL {G : Nat → Option Fun} {Y : Orc} (hY : Sure G Y) {f : Nat} {fn : IFn} (hG : G f = some (.ir fn)) {args : List PV} {h : List Ob} {hs : Hints} {ls : List (Ex × St)} {r : Rs} {ow : Owed} {ak : Asked} (hp : Paid ow) (hq : Told G ak) (ht : callT Y fn args h hs ls = some (r, ow, ak)) : Tells G (.call f args h) r := by
  refine tells_phi sure_lim ?_
  unfold callT at ht
  simp only [phi, hG]
  cases hl : Nat.beq args.length fn.np with
  | false => rw [hl] at ht; cases ht
  | true =>
    rw [hl] at ht
    simp only [cond_true] at ht ⊢
    obtain ⟨x, hx, ht⟩ := obind_some ht
    obtain ⟨ex, st, hs1, ls1, ow1, ak1⟩ := x
    cases ex with
    | exit j => cases ht
    | normal =>
      simp only at ht
      obtain ⟨r', hr, ht⟩ := obind_some ht
      simp only [Option.some.injEq, Prod.mk.injEq] at ht
      obtain ⟨rfl, rfl, rfl⟩ := ht
      rw [icodeT_sound hY _ hs ls _ _ hx hp hq, Option.bind_some]
      exact hr
    | ret =>
      simp only at ht
      obtain ⟨r', hr, ht⟩ := obind_some ht
      simp only [Option.some.injEq, Prod.mk.injEq] at ht
      obtain ⟨rfl, rfl, rfl⟩ := ht
      rw [icodeT_sound hY _ hs ls _ _ hx hp hq, Option.bind_some]
      exact hr
theorem tells_T {G : Nat → Option Fun} {Y : Orc} (hY : Sure G Y) {f : Nat} {fn : IFn} (hG : G f = some (.ir fn)) {args : List PV} {h : List Ob} {hs : Hints} {r : Rs} {ow : Owed} (hp : Paid ow) (ht : callT Y fn args h hs [] = some (r, ow, [])) : Tells G (.call f args h) r :=
  tells_TL hY hG hp Told.nil ht

/-- a round of a loop along a trace -/
def nextT (X : Orc) (m : Nat) (live : List Nat) (b : IR) (env : List PV) (h : List Ob) (hs : Hints) (ls : List (Ex × St)) : Option ((List PV × List Ob) × Owed × Asked) :=
  (icodeT X m b hs ls ⟨env, number 0 h, h.length⟩).bind fun x => (match x.ex with | .normal => (gc m live x.st).bind fun y => some (y, x.owed, x.asked) | _ => none)
theorem tells_next {G : Nat → Option Fun} {Y : Orc} (hY : Sure G Y) {m : Nat} {live : List Nat} {b : IR} {env : List PV} {h : List Ob} {hs : Hints} {ls : List (Ex × St)} {y : List PV × List Ob} {ow : Owed} {ak : Asked} {r : Rs} (hp : Paid ow) (hq : Told G ak) (ht : nextT Y m live b env h hs ls = some (y, ow, ak)) (hr : Tells G (.loop m live b y.1 y.2) r) : Tells G (.loop m live b env h) r := by
  unfold nextT at ht
  obtain ⟨x, hx, ht⟩ := obind_some ht
  obtain ⟨ex, st, hs1, ls1, ow1, ak1⟩ := x
  cases ex with
  | normal =>
    simp only at ht
    obtain ⟨y', hg, ht⟩ := obind_some ht
    simp only [Option.some.injEq, Prod.mk.injEq] at ht
    obtain ⟨rfl, rfl, rfl⟩ := ht
    exact tells_loop sure_lim (icodeT_sound hY _ hs ls _ _ hx hp hq) hg hr
  | exit j => cases ht
  | ret => cases ht
def leaveT (X : Orc) (m : Nat) (b : IR) (env : List PV) (h : List Ob) (hs : Hints) (ls : List (Ex × St)) : Option ((Ex × St) × Owed × Asked) :=
  (icodeT X m b hs ls ⟨env, number 0 h, h.length⟩).bind fun x => (match x.ex with | .normal => none | e => some ((e, x.st), x.owed, x.asked))
theorem tells_out {G : Nat → Option Fun} {Y : Orc} (hY : Sure G Y) {m : Nat} {live : List Nat} {b : IR} {env : List PV} {h : List Ob} {hs : Hints} {ls : List (Ex × St)} {x : Ex × St} {ow : Owed} {ak : Asked} (hp : Paid ow) (hq : Told G ak) (ht : leaveT Y m b env h hs ls = some (x, ow, ak)) : Tells G (.loop m live b env h) (.st x.1 x.2) := by
  unfold leaveT at ht
  obtain ⟨y, hy, ht⟩ := obind_some ht
  obtain ⟨ex, st, hs1, ls1, ow1, ak1⟩ := y
  cases ex with
  | normal => cases ht
  | exit j =>
    simp only [Option.some.injEq, Prod.mk.injEq] at ht
    obtain ⟨rfl, rfl, rfl⟩ := ht
    exact tells_leave sure_lim (by intro h; cases h) (icodeT_sound hY _ hs ls _ _ hy hp hq)
  | ret =>
    simp only [Option.some.injEq, Prod.mk.injEq] at ht
    obtain ⟨rfl, rfl, rfl⟩ := ht
    exact tells_leave sure_lim (by intro h; cases h) (icodeT_sound hY _ hs ls _ _ hy hp hq)

/-- what a call comes to that is handed no objects, and answers v -/
def retE (fr : Nat) (v : PV) : Option Eff :=
  (back (ren [] fr) 8 v).bind fun v' => (backObs (ren [] fr) 0 []).bind fun ws =>
    bif flat 8 v && ([] : List Ob).all (fun ob => ob.cells.all (flat 8)) then some ⟨v', ws, []⟩ else (shut (fun _ => none) []).bind fun cl => some ⟨v', ws ++ cl, []⟩

/-! ### tables of answers -/
abbrev Tab := List (Nat × (List PV → List Ob → Option Rs))
def Tab.at : Tab → Nat → List PV → List Ob → Option Rs
  | [], _, _, _ => none
  | (k, g) :: r, f, a, h => bif Nat.beq k f then g a h else Tab.at r f a h
def says (t : Tab) : Orc
  | .call f a h => t.at f a h
  | .loop _ _ _ _ _ => none
theorem sure_nil {G : Nat → Option Fun} : Sure G (says []) := fun e r h => by cases e <;> cases h
theorem sure_cons {G : Nat → Option Fun} {t : Tab} (ht : Sure G (says t)) {f : Nat} {g : List PV → List Ob → Option Rs} (hg : ∀ a h r, g a h = some r → Tells G (.call f a h) r) : Sure G (says ((f, g) :: t)) := by
  intro e r h
  cases e with
  | loop _ _ _ _ _ => cases h
  | call k a hh =>
    simp only [says, Tab.at] at h
    by_cases c : f = k
    · subst c
      simp only [Nat.beq_refl, cond_true] at h
      exact hg a hh r h
    · have : Nat.beq f k = false := by rw [Bool.eq_false_iff]; exact fun h => c (Nat.eq_of_beq_eq_true h)
      rw [this] at h
      exact ht (.call k a hh) r h
end Go.Pv
