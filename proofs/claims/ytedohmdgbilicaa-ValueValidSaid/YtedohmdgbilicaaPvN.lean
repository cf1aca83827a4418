/-
  An operation's footprint: what it looks at, what it writes.
-/
import Derived.Test.YtedohmdgbilicaaPvM
namespace Go.Pv
open Go.RowKit

theorem ev_congr {e e' : Nat → PV} {x : Opd} (h : ∀ t ∈ x.rd, e' t = e t) : x.ev e' = x.ev e := by
  cases x with
  | t n => exact h n (by simp [Opd.rd])
  | c v => rfl
  | f g => rfl
theorem evs_congr {e e' : Nat → PV} : ∀ {xs : List Opd}, (∀ t ∈ listRd xs, e' t = e t) → evs e' xs = evs e xs
  | [], _ => rfl
  | x :: r, h => by
    simp only [listRd, List.mem_append] at h
    simp only [evs]
    rw [ev_congr (fun t ht => h t (.inl ht)), evs_congr (fun t ht => h t (.inr ht))]
theorem evParts_congr {e e' : Nat → PV} : ∀ {xs : List (Nat × Nat × Opd)}, (∀ t ∈ partRd xs, e' t = e t) → evParts e' xs = evParts e xs
  | [], _ => rfl
  | (i, n, x) :: r, h => by
    simp only [partRd, List.mem_append] at h
    simp only [evParts]
    rw [ev_congr (fun t ht => h t (.inl ht)), evParts_congr (fun t ht => h t (.inr ht))]
theorem evLits_congr {e e' : Nat → PV} {sz : Nat} : ∀ {xs : List (Nat × Opd)}, (∀ t ∈ litRd xs, e' t = e t) → evLits e' sz xs = evLits e sz xs
  | [], _ => rfl
  | (i, x) :: r, h => by
    simp only [litRd, List.mem_append] at h
    simp only [evLits]
    rw [ev_congr (fun t ht => h t (.inl ht)), evLits_congr (fun t ht => h t (.inr ht))]
theorem optNat_congr {e e' : Nat → PV} {d : Nat} {x : Option Opd} (h : ∀ t ∈ optRd x, e' t = e t) : optNat e' d x = optNat e d x := by
  cases x with
  | none => rfl
  | some x => simp only [optNat]; rw [ev_congr h]

theorem iop_congr {X : Orc} {e e' : Nat → PV} {H : Nat → Option Ob} {fr : Nat} {io : IOp} (h : ∀ t ∈ io.rd, e' t = e t) : iop X e' H fr io = iop X e H fr io := by
  cases io <;> simp only [IOp.rd, List.mem_append] at h
  case mov x => simp only [iop, opP, ev_congr h]
  case pick c a b => simp only [iop, opP, ev_congr (fun t ht => h t (.inl ht)), ev_congr (fun t ht => h t (.inr (.inl ht))), ev_congr (fun t ht => h t (.inr (.inr ht)))]
  case box n x => simp only [iop, opA, ev_congr h]
  case zero z => rfl
  case build z ps => simp only [iop, opP, evParts_congr h]
  case lit sz n z ps => simp only [iop, opA, evLits_congr h]
  case load n ag x => simp only [iop, ev_congr h]
  case store n x y => simp only [iop, ev_congr (fun t ht => h t (.inl ht)), ev_congr (fun t ht => h t (.inr ht))]
  case nilck x => simp only [iop, opP, ev_congr h]
  case bin op x y => simp only [iop, opP, ev_congr (fun t ht => h t (.inl ht)), ev_congr (fun t ht => h t (.inr ht))]
  case eqs t ng x y => simp only [iop, opP, ev_congr (fun t ht => h t (.inl ht)), ev_congr (fun t ht => h t (.inr ht))]
  case un op x => simp only [iop, opP, ev_congr h]
  case conv k x => simp only [iop, opP, ev_congr h]
  case mkfn f a b => simp only [iop, opP, evs_congr (fun t ht => h t (.inl ht)), evs_congr (fun t ht => h t (.inr ht))]
  case mks sz b z n => simp only [iop, opA, ev_congr h]
  case slice sz x lo hi mx =>
    have h1 : x.ev e' = x.ev e := ev_congr (fun t ht => h t (.inl ht))
    have h2 : ∀ d, optNat e' d lo = optNat e d lo := fun d => optNat_congr (fun t ht => h t (.inr (.inl ht)))
    have h3 : ∀ d, optNat e' d hi = optNat e d hi := fun d => optNat_congr (fun t ht => h t (.inr (.inr (.inl ht))))
    cases mx with
    | none => simp only [iop, opP, h1, h2, h3]
    | some mx =>
      have h4 : mx.ev e' = mx.ev e := ev_congr (fun t ht => h t (.inr (.inr (.inr ht))))
      simp only [iop, opP, h1, h2, h3, h4]
  case cut x lo hi => simp only [iop, opP, ev_congr (fun t ht => h t (.inl ht)), optNat_congr (fun t ht => h t (.inr (.inl ht))), optNat_congr (fun t ht => h t (.inr (.inr ht)))]
  case faddr off x => simp only [iop, opP, ev_congr h]
  case field off n ag x => simp only [iop, opP, ev_congr h]
  case iaddr sz x y => simp only [iop, opP, ev_congr (fun t ht => h t (.inl ht)), ev_congr (fun t ht => h t (.inr ht))]
  case index x y => simp only [iop, opP, ev_congr (fun t ht => h t (.inl ht)), ev_congr (fun t ht => h t (.inr ht))]
  case extract x i => simp only [iop, opP, ev_congr h]
  case len s x => simp only [iop, opP, ev_congr h]
  case eqb n x y => simp only [iop, opP, ev_congr (fun t ht => h t (.inl ht)), ev_congr (fun t ht => h t (.inr ht))]
  case append sz b x y => simp only [iop, ev_congr (fun t ht => h t (.inl ht)), ev_congr (fun t ht => h t (.inr ht))]
  case mnmx m x xs => simp only [iop, opP, ev_congr (fun t ht => h t (.inl ht)), evs_congr (fun t ht => h t (.inr ht))]
  case clear sz z x => simp only [iop, ev_congr h]
  case call b f xs => simp only [iop, ev_congr (fun t ht => h t (.inl ht)), evs_congr (fun t ht => h t (.inr ht))]

/-! ### memory -/
theorem mapO_local {α β : Type} {f g : α → Option β} : ∀ {c : List α} {l : List β}, mapO f c = some l → (∀ p ∈ c, ∀ y, f p = some y → y ∈ l → g p = some y) → mapO g c = some l
  | [], l, h, _ => h
  | x :: r, l, h, hg => by
    simp only [mapO] at h ⊢
    obtain ⟨y, hy, h⟩ := bind_some h
    obtain ⟨m, hm, h⟩ := bind_some h
    injection h with h
    subst h
    rw [hg x List.mem_cons_self y hy List.mem_cons_self]
    show (mapO g r).bind _ = _
    rw [mapO_local hm (fun p hp y hy hl => hg p (List.mem_cons_of_mem _ hp) y hy (List.mem_cons_of_mem _ hl))]
    rfl

section
variable {H H' : Nat → Option Ob}

theorem fz_local : ∀ (n : Nat) (p q : PV) (fr : List Nat), fz H n p = some (q, fr) → (∀ id ∈ fr, H' id = H id) → fz H' n p = some (q, fr) := by
  intro n
  induction n with
  | zero => intro p q fr h; simp [fz] at h
  | succ n ih =>
    have lst : ∀ (c : List PV) (l : List (PV × List Nat)), mapO (fz H n) c = some l → (∀ id ∈ (l.map (·.2)).flatten, H' id = H id) → mapO (fz H' n) c = some l := by
      intro c l h hi
      refine mapO_local h (fun p _ y hy hl => ih p y.1 y.2 hy (fun id hid => hi id (List.mem_flatten.2 ⟨y.2, List.mem_map.2 ⟨y, hl, rfl⟩, hid⟩)))
    intro p q fr h hi
    cases p with
    | ms id sz off len =>
      simp only [fz] at h ⊢
      obtain ⟨ob, hob, h⟩ := bind_some h
      obtain ⟨hb, h⟩ := bif_some h
      obtain ⟨l, hl, h⟩ := bind_some h
      injection h with h
      injection h with h1 h2
      subst h1 h2
      rw [hi id List.mem_cons_self, hob]
      show (bif _ then _ else _) = _
      rw [hb]
      show (mapO (fz H' n) _).bind _ = _
      rw [lst _ l hl (fun id hid => hi id (List.mem_cons_of_mem _ hid))]
      rfl
    | agg c =>
      simp only [fz] at h ⊢
      obtain ⟨l, hl, h⟩ := bind_some h
      injection h with h
      injection h with h1 h2
      subst h1 h2
      rw [lst _ l hl hi]
      rfl
    | tup c =>
      simp only [fz] at h ⊢
      obtain ⟨l, hl, h⟩ := bind_some h
      injection h with h
      injection h with h1 h2
      subst h1 h2
      rw [lst _ l hl hi]
      rfl
    | fn f a b =>
      simp only [fz] at h ⊢
      obtain ⟨l, hl, h⟩ := bind_some h
      obtain ⟨m, hm, h⟩ := bind_some h
      injection h with h
      injection h with h1 h2
      subst h1 h2
      rw [lst _ l hl (fun id hid => hi id (List.mem_append_left _ hid)), Option.bind_some, lst _ m hm (fun id hid => hi id (List.mem_append_right _ hid))]
      rfl
    | _ => simp only [fz] at h ⊢; exact h

theorem passL_prefix {f : PV → List Nat → Option Pass} (hf : ∀ p ids x, f p ids = some x → ids <+: x.ids) : ∀ (c : List PV) (ids : List Nat) (y : List PV × List Nat × List Nat), passL f c ids = some y → ids <+: y.2.1
  | [], ids, y, h => by simp only [passL, Option.some.injEq] at h; subst h; exact List.prefix_refl _
  | p :: r, ids, y, h => by
    simp only [passL] at h
    obtain ⟨x, hx, h⟩ := bind_some h
    obtain ⟨z, hz, h⟩ := bind_some h
    injection h with h
    subst h
    exact (hf p ids x hx).trans (passL_prefix hf r x.ids z hz)
theorem pass_prefix (byRef : Bool) : ∀ (n : Nat) (p : PV) (ids : List Nat) (x : Pass), pass H byRef n p ids = some x → ids <+: x.ids := by
  intro n
  induction n with
  | zero => intro p ids x h; simp [pass] at h
  | succ n ih =>
    intro p ids x h
    cases p with
    | bx id off => simp only [pass, Option.some.injEq] at h; subst h; exact (addId_spec ids id).1
    | ms id sz off len =>
      simp only [pass] at h
      cases byRef with
      | true => simp only [cond_true, Option.some.injEq] at h; subst h; exact (addId_spec ids id).1
      | false =>
        simp only [cond_false] at h
        obtain ⟨y, hy, h⟩ := bind_some h
        injection h with h
        subst h
        exact List.prefix_refl _
    | agg c =>
      simp only [pass] at h
      obtain ⟨y, hy, h⟩ := bind_some h
      injection h with h
      subst h
      exact passL_prefix ih c ids y hy
    | tup c =>
      simp only [pass] at h
      obtain ⟨y, hy, h⟩ := bind_some h
      injection h with h
      subst h
      exact passL_prefix ih c ids y hy
    | fn f a b =>
      simp only [pass] at h
      obtain ⟨y, hy, h⟩ := bind_some h
      obtain ⟨z, hz, h⟩ := bind_some h
      injection h with h
      subst h
      exact (passL_prefix ih a ids y hy).trans (passL_prefix ih b y.2.1 z hz)
    | _ => simp only [pass, Option.some.injEq] at h; subst h; exact List.prefix_refl _

theorem passL_local {f g : PV → List Nat → Option Pass} (hf : ∀ p ids x, f p ids = some x → (∀ id ∈ x.fr, H' id = H id) → g p ids = some x) : ∀ (c : List PV) (ids : List Nat) (y : List PV × List Nat × List Nat), passL f c ids = some y → (∀ id ∈ y.2.2, H' id = H id) → passL g c ids = some y
  | [], ids, y, h, _ => h
  | p :: r, ids, y, h, hi => by
    simp only [passL] at h ⊢
    obtain ⟨x, hx, h⟩ := bind_some h
    obtain ⟨z, hz, h⟩ := bind_some h
    injection h with h
    subst h
    rw [hf p ids x hx (fun id hid => hi id (List.mem_append_left _ hid)), Option.bind_some, passL_local hf r x.ids z hz (fun id hid => hi id (List.mem_append_right _ hid))]
    rfl
theorem pass_local (byRef : Bool) : ∀ (n : Nat) (p : PV) (ids : List Nat) (x : Pass), pass H byRef n p ids = some x → (∀ id ∈ x.fr, H' id = H id) → pass H' byRef n p ids = some x := by
  intro n
  induction n with
  | zero => intro p ids x h; simp [pass] at h
  | succ n ih =>
    intro p ids x h hi
    cases p with
    | ms id sz off len =>
      cases byRef with
      | true => rw [pass, cond_true] at h ⊢; exact h
      | false =>
        rw [pass, cond_false] at h ⊢
        obtain ⟨⟨q, fr⟩, hy, h⟩ := bind_some h
        injection h with h
        subst h
        have := fz_local (H' := H') 8 _ q fr hy hi
        rw [this, Option.bind_some]
    | agg c =>
      simp only [pass] at h ⊢
      obtain ⟨y, hy, h⟩ := bind_some h
      injection h with h
      subst h
      rw [passL_local ih c ids y hy hi]
      rfl
    | tup c =>
      simp only [pass] at h ⊢
      obtain ⟨y, hy, h⟩ := bind_some h
      injection h with h
      subst h
      rw [passL_local ih c ids y hy hi]
      rfl
    | fn f a b =>
      simp only [pass] at h ⊢
      obtain ⟨y, hy, h⟩ := bind_some h
      obtain ⟨z, hz, h⟩ := bind_some h
      injection h with h
      subst h
      rw [passL_local ih a ids y hy (fun id hid => hi id (List.mem_append_left _ hid)), Option.bind_some, passL_local ih b y.2.1 z hz (fun id hid => hi id (List.mem_append_right _ hid))]
      rfl
    | _ => simp only [pass] at h ⊢; exact h

theorem passObs_prefix (byRef own : Bool) : ∀ (n k : Nat) (ids : List Nat) (z : List Ob × List Nat × List Nat), passObs H byRef own n k ids = some z → ids <+: z.2.1 ∧ ∀ (j : Nat) id, k ≤ j → z.2.1[j]? = some id → ∃ ob, H id = some ob
  | 0, k, ids, z, h => by simp [passObs] at h
  | n + 1, k, ids, z, h => by
    simp only [passObs] at h
    cases hid : ids[k]? with
    | none =>
      simp only [hid, Option.some.injEq] at h
      subst h
      refine ⟨List.prefix_refl _, fun j id hj hz => ?_⟩
      have h1 : ids.length ≤ k := by simpa using hid
      have h2 := (List.getElem?_eq_some_iff.1 hz).1
      simp only at h2
      omega
    | some id =>
      simp only [hid] at h
      obtain ⟨ob, hob, h⟩ := bind_some h
      obtain ⟨y, hy, h⟩ := bind_some h
      obtain ⟨z', hz, h⟩ := bind_some h
      injection h with h
      subst h
      have p1 := passL_prefix (pass_prefix byRef 8) ob.cells ids y hy
      obtain ⟨p2, p3⟩ := passObs_prefix byRef own n (k + 1) y.2.1 z' hz
      refine ⟨p1.trans p2, fun j id' hj hz' => ?_⟩
      by_cases c : j = k
      · subst c
        have := prefix_get (p1.trans p2) hid
        simp only at hz'
        rw [this] at hz'
        injection hz' with hz'
        subst hz'
        exact ⟨ob, hob⟩
      · exact p3 j id' (by omega) hz'
theorem passObs_local (byRef own : Bool) : ∀ (n k : Nat) (ids : List Nat) (z : List Ob × List Nat × List Nat), passObs H byRef own n k ids = some z → (∀ id ∈ z.2.1, H' id = H id) → (∀ id ∈ z.2.2, H' id = H id) → passObs H' byRef own n k ids = some z
  | 0, k, ids, z, h, _, _ => by simp [passObs] at h
  | n + 1, k, ids, z, h, h1, h2 => by
    simp only [passObs] at h ⊢
    cases hid : ids[k]? with
    | none => simp only [hid] at h ⊢; exact h
    | some id =>
      simp only [hid] at h ⊢
      obtain ⟨ob, hob, h⟩ := bind_some h
      obtain ⟨y, hy, h⟩ := bind_some h
      obtain ⟨z', hz, h⟩ := bind_some h
      injection h with h
      subst h
      have p1 := passL_prefix (pass_prefix byRef 8) ob.cells ids y hy
      obtain ⟨p2, _⟩ := passObs_prefix byRef own n (k + 1) y.2.1 z' hz
      rw [h1 id (List.mem_of_getElem? (prefix_get (p1.trans p2) hid)), hob, Option.bind_some, passL_local (pass_local byRef 8) ob.cells ids y hy (fun id hid => h2 id (List.mem_append_left _ hid)), Option.bind_some,
        passObs_local byRef own n (k + 1) y.2.1 z' hz h1 (fun id hid => h2 id (List.mem_append_right _ hid))]
      rfl
theorem shut_local : ∀ {l : List Nat} {cl : List (Nat × Option Ob)}, shut H l = some cl → (∀ id ∈ l, H' id = H id) → shut H' l = some cl
  | [], cl, h, _ => h
  | id :: r, cl, h, hi => by
    simp only [shut] at h ⊢
    obtain ⟨ob, hob, h⟩ := bind_some h
    obtain ⟨m, hm, h⟩ := bind_some h
    rw [hi id List.mem_cons_self, hob, Option.bind_some, shut_local hm (fun id hid => hi id (List.mem_cons_of_mem _ hid)), Option.bind_some]
    exact h

theorem reads_local {n : Nat} {p : PV} {c : List PV × List Nat} (h : reads H n p = some c) (hi : ∀ id ∈ c.2, H' id = H id) : reads H' n p = some c := by
  unfold reads at *
  cases p with
  | bx id off =>
    simp only at h ⊢
    obtain ⟨ob, hob, h⟩ := bind_some h
    obtain ⟨hb, h⟩ := bif_some h
    injection h with h
    subst h
    rw [hi id List.mem_cons_self, hob, Option.bind_some, hb]
    rfl
  | _ => exact h
theorem source_local {sz : Nat} {p : PV} {c : Nat × List PV × List Nat} (h : source H sz p = some c) (hi : ∀ id ∈ c.2.2, H' id = H id) : source H' sz p = some c := by
  unfold source at *
  cases p with
  | ms id sz' off len =>
    simp only at h ⊢
    obtain ⟨ob, hob, h⟩ := bind_some h
    obtain ⟨hb, h⟩ := bif_some h
    injection h with h
    subst h
    rw [hi id List.mem_cons_self, hob, Option.bind_some, hb]
    rfl
  | _ => exact h

theorem icall_local {X : Orc} {fr : Nat} {byRef : Bool} {f : Nat} {args : List PV} {x : Eff} (h : icall X H fr byRef f args = some x) (hi : ∀ id ∈ x.hr, H' id = H id) : icall X H' fr byRef f args = some x := by
  unfold icall at *
  obtain ⟨y, hy, h⟩ := bind_some h
  obtain ⟨z, hz, h⟩ := bind_some h
  obtain ⟨hdj, h⟩ := bif_some h
  obtain ⟨r, hr, h⟩ := bind_some h
  cases r with
  | st _ _ => cases h
  | ret v hh =>
    simp only at h
    obtain ⟨hle, h⟩ := bif_some h
    obtain ⟨v', hv', h⟩ := bind_some h
    obtain ⟨ws, hws, h⟩ := bind_some h
    have key : ∀ id ∈ z.2.1 ++ (y.2.2 ++ z.2.2), H' id = H id := by
      cases hflat : (flat 8 v && hh.all (fun ob => ob.cells.all (flat 8))) with
      | true =>
        rw [hflat] at h
        simp only [cond_true, Option.some.injEq] at h
        subst h
        exact hi
      | false =>
        rw [hflat] at h
        simp only [cond_false] at h
        obtain ⟨cl, _, h⟩ := bind_some h
        injection h with h
        subst h
        exact hi
    rw [passL_local (pass_local byRef 8) args [] y hy (fun id hid => key id (List.mem_append_right _ (List.mem_append_left _ hid))), Option.bind_some,
      passObs_local false false 16 0 y.2.1 z hz (fun id hid => key id (List.mem_append_left _ hid)) (fun id hid => key id (List.mem_append_right _ (List.mem_append_right _ hid))), Option.bind_some]
    simp only
    rw [hdj]
    simp only [cond_true]
    rw [hr, Option.bind_some]
    simp only
    rw [hle]
    simp only [cond_true]
    rw [hv', Option.bind_some, hws, Option.bind_some]
    cases hflat : (flat 8 v && hh.all (fun ob => ob.cells.all (flat 8))) with
    | true => rw [hflat] at h; exact h
    | false =>
      rw [hflat] at h
      simp only [cond_false] at h ⊢
      obtain ⟨cl, hcl, h⟩ := bind_some h
      rw [shut_local hcl (fun id hid => key id (List.mem_append_right _ hid))]
      exact h

theorem iop_localH {X : Orc} {e : Nat → PV} {fr : Nat} {io : IOp} {x : Eff} (h : iop X e H fr io = some x) (hi : ∀ id ∈ x.hr, H' id = H id) : iop X e H' fr io = some x := by
  cases io with
  | load n ag p =>
    simp only [iop, opLoad] at h ⊢
    obtain ⟨c, hc, h⟩ := bind_some h
    obtain ⟨v, hv, h⟩ := bind_some h
    injection h with h
    subst h
    rw [reads_local hc hi, Option.bind_some, hv]
    rfl
  | store n p q =>
    simp only [iop, opStore] at h ⊢
    split at h
    · rename_i id off hid
      obtain ⟨ob, hob, h⟩ := bind_some h
      obtain ⟨hb, h⟩ := bif_some h
      injection h with h
      subst h
      rw [hi id List.mem_cons_self, hob, Option.bind_some, hb]
      rfl
    · cases h
  | append sz b p q =>
    simp only [iop, opAppend] at h ⊢
    obtain ⟨s, hs, h⟩ := bind_some h
    split at h
    · rename_i hp
      obtain ⟨hb, h⟩ := bif_some h
      have hx : x.hr = s.2.2 := by
        split at h <;> (injection h with h; subst h; rfl)
      rw [source_local hs (fun id hid => hi id (by rw [hx]; exact hid)), Option.bind_some, hb]
      exact h
    · rename_i id sz' off len hp
      obtain ⟨ob, hob, h⟩ := bind_some h
      obtain ⟨hb, h⟩ := bif_some h
      obtain ⟨kc, hkc, h⟩ := bind_some h
      injection h with h
      subst h
      rw [source_local hs (fun id hid => hi id (List.mem_cons_of_mem _ hid)), Option.bind_some]
      rw [hi id List.mem_cons_self, hob, Option.bind_some, hb, cond_true, hkc]
      rfl
    · cases h
  | clear sz z p =>
    simp only [iop, opClear] at h ⊢
    split at h
    · exact h
    · exact h
    · rename_i id sz' off len hp
      obtain ⟨ob, hob, h⟩ := bind_some h
      obtain ⟨hb, h⟩ := bif_some h
      injection h with h
      subst h
      rw [hi id List.mem_cons_self, hob, Option.bind_some, hb]
      rfl
    · cases h
  | call b f xs =>
    simp only [iop] at h ⊢
    obtain ⟨t, ht, h⟩ := bind_some h
    rw [ht, Option.bind_some]
    exact icall_local h hi
  | _ => simp only [iop, opP, opA] at h ⊢; exact h

/-- what is written: objects that stand already, or numbers of its own -/
theorem iop_hw {X : Orc} {e : Nat → PV} {fr : Nat} {io : IOp} {x : Eff} (h : iop X e H fr io = some x) : ∀ y ∈ x.hw, (∃ ob, H y.1 = some ob) ∨ (fr ≤ y.1 ∧ y.1 < fr + 64) := by
  have pure_ : ∀ {io : IOp}, (opP e io).bind (fun v => some (⟨v, [], []⟩ : Eff)) = some x → ∀ y ∈ x.hw, (∃ ob, H y.1 = some ob) ∨ (fr ≤ y.1 ∧ y.1 < fr + 64) := by
    intro io h
    obtain ⟨v, _, h⟩ := bind_some h
    injection h with h
    subst h
    intro y hy
    exact absurd hy List.not_mem_nil
  have alloc_ : ∀ {io : IOp}, (opA e fr io).bind (fun y => some (⟨y.1, [(fr, some y.2)], []⟩ : Eff)) = some x → ∀ y ∈ x.hw, (∃ ob, H y.1 = some ob) ∨ (fr ≤ y.1 ∧ y.1 < fr + 64) := by
    intro io h
    obtain ⟨v, _, h⟩ := bind_some h
    injection h with h
    subst h
    intro y hy
    rw [List.mem_singleton] at hy
    subst hy
    exact .inr ⟨Nat.le_refl _, by omega⟩
  cases io with
  | box n p => exact alloc_ (io := .box n p) h
  | zero z => exact alloc_ (io := .zero z) h
  | lit a b c d => exact alloc_ (io := .lit a b c d) h
  | mks a b c d => exact alloc_ (io := .mks a b c d) h
  | load n ag p =>
    simp only [iop, opLoad] at h
    obtain ⟨c, hc, h⟩ := bind_some h
    obtain ⟨v, hv, h⟩ := bind_some h
    injection h with h
    subst h
    intro y hy
    exact absurd hy List.not_mem_nil
  | store n p q =>
    simp only [iop, opStore] at h
    split at h
    · rename_i id off hid
      obtain ⟨ob, hob, h⟩ := bind_some h
      obtain ⟨hb, h⟩ := bif_some h
      injection h with h
      subst h
      intro y hy
      rw [List.mem_singleton] at hy
      subst hy
      exact .inl ⟨ob, hob⟩
    · cases h
  | append sz b p q =>
    simp only [iop, opAppend] at h
    obtain ⟨s, hs, h⟩ := bind_some h
    split at h
    · obtain ⟨hb, h⟩ := bif_some h
      split at h
      · injection h with h
        subst h
        intro y hy
        exact absurd hy List.not_mem_nil
      · injection h with h
        subst h
        intro y hy
        rw [List.mem_singleton] at hy
        subst hy
        exact .inr ⟨Nat.le_refl _, by show fr < fr + 64; omega⟩
    · rename_i id sz' off len hp
      obtain ⟨ob, hob, h⟩ := bind_some h
      obtain ⟨hb, h⟩ := bif_some h
      obtain ⟨kc, hkc, h⟩ := bind_some h
      injection h with h
      subst h
      intro y hy
      rcases List.mem_cons.1 hy with rfl | hy
      · exact .inl ⟨ob, hob⟩
      · rw [List.mem_singleton] at hy
        subst hy
        exact .inr ⟨Nat.le_refl _, by show fr < fr + 64; omega⟩
    · cases h
  | clear sz z p =>
    simp only [iop, opClear] at h
    split at h
    · injection h with h; subst h; intro y hy; exact absurd hy List.not_mem_nil
    · injection h with h; subst h; intro y hy; exact absurd hy List.not_mem_nil
    · rename_i id sz' off len hp
      obtain ⟨ob, hob, h⟩ := bind_some h
      obtain ⟨hb, h⟩ := bif_some h
      injection h with h
      subst h
      intro y hy
      rw [List.mem_singleton] at hy
      subst hy
      exact .inl ⟨ob, hob⟩
    · cases h
  | call b f xs =>
    simp only [iop] at h
    obtain ⟨t, ht, h⟩ := bind_some h
    unfold icall at h
    obtain ⟨y, hy, h⟩ := bind_some h
    obtain ⟨z, hz, h⟩ := bind_some h
    obtain ⟨hdj, h⟩ := bif_some h
    obtain ⟨r, hr, h⟩ := bind_some h
    cases r with
    | st _ _ => cases h
    | ret v hh =>
      simp only at h
      obtain ⟨hle, h⟩ := bif_some h
      obtain ⟨v', hv', h⟩ := bind_some h
      obtain ⟨ws, hws, h⟩ := bind_some h
      rw [Bool.and_eq_true] at hle
      have hlen := Nat.le_of_ble_eq_true hle.1
      have h64 := Nat.le_of_ble_eq_true hle.2
      obtain ⟨wl, wsp⟩ := backObs_spec 0 hh ws hws
      have hw1 : ∀ q ∈ ws, (∃ ob, H q.1 = some ob) ∨ (fr ≤ q.1 ∧ q.1 < fr + 64) := by
        intro q hq
        obtain ⟨j, hj⟩ := List.getElem?_of_mem hq
        obtain ⟨ob, l, e1, e2, e3⟩ := wsp j q hj
        have hjl := (List.getElem?_eq_some_iff.1 e1).1
        subst e3
        simp only [Nat.zero_add]
        unfold ren
        cases hp : z.2.1[j]? with
        | some id => exact .inl ((passObs_prefix false false 16 0 y.2.1 z hz).2 j id (Nat.zero_le _) hp)
        | none =>
          have : z.2.1.length ≤ j := by simpa using hp
          exact .inr ⟨by simp, by simp only; omega⟩
      cases hflat : (flat 8 v && hh.all (fun ob => ob.cells.all (flat 8))) with
      | true =>
        rw [hflat] at h
        simp only [cond_true, Option.some.injEq] at h
        subst h
        exact hw1
      | false =>
        rw [hflat] at h
        simp only [cond_false] at h
        obtain ⟨cl, hcl, h⟩ := bind_some h
        injection h with h
        subst h
        intro q hq
        rcases List.mem_append.1 hq with hq | hq
        · exact hw1 q hq
        · obtain ⟨_, ob, h2, _⟩ := (shut_spec _ cl hcl).1 q hq
          exact .inl ⟨ob, h2⟩
  | mov p => exact pure_ (io := .mov p) h
  | pick p q r => exact pure_ (io := .pick p q r) h
  | build p q => exact pure_ (io := .build p q) h
  | nilck p => exact pure_ (io := .nilck p) h
  | bin p q r => exact pure_ (io := .bin p q r) h
  | eqs p q r s => exact pure_ (io := .eqs p q r s) h
  | un p q => exact pure_ (io := .un p q) h
  | conv p q => exact pure_ (io := .conv p q) h
  | mkfn p q r => exact pure_ (io := .mkfn p q r) h
  | slice p q r s t => exact pure_ (io := .slice p q r s t) h
  | cut p q r => exact pure_ (io := .cut p q r) h
  | faddr p q => exact pure_ (io := .faddr p q) h
  | field p q r s => exact pure_ (io := .field p q r s) h
  | iaddr p q r => exact pure_ (io := .iaddr p q r) h
  | index p q => exact pure_ (io := .index p q) h
  | extract p q => exact pure_ (io := .extract p q) h
  | len p q => exact pure_ (io := .len p q) h
  | eqb p q r => exact pure_ (io := .eqb p q r) h
  | mnmx p q r => exact pure_ (io := .mnmx p q r) h

/-- also under a guard -/
theorem istep_local {X : Orc} {e e' : Nat → PV} {fr : Nat} {o : IOper} {x : Eff} (h : istep X e H fr o = some x) (he : ∀ t ∈ o.looks, e' t = e t) (hi : ∀ id ∈ x.hr, H' id = H id) : istep X e' H' fr o = some x := by
  unfold istep at *
  obtain ⟨b, hb, h⟩ := bind_some h
  have hb' : o.wanted e' = some b := by
    unfold IOper.wanted at *
    cases hg : o.guard with
    | none => rw [hg] at hb; exact hb
    | some g =>
      obtain ⟨s, want⟩ := g
      rw [hg] at hb
      simp only at hb ⊢
      rw [he s (by unfold IOper.looks; rw [hg]; exact List.mem_cons_self)]
      exact hb
  have hrd : ∀ t ∈ o.op.rd, e' t = e t := by
    intro t ht
    refine he t ?_
    unfold IOper.looks
    cases o.guard with
    | none => exact ht
    | some g => exact List.mem_cons_of_mem _ ht
  rw [hb', Option.bind_some]
  cases b with
  | true => simp only [cond_true] at h ⊢; rw [iop_congr hrd]; exact iop_localH h hi
  | false => exact h
theorem istep_hw {X : Orc} {e : Nat → PV} {fr : Nat} {o : IOper} {x : Eff} (h : istep X e H fr o = some x) : ∀ y ∈ x.hw, (∃ ob, H y.1 = some ob) ∨ (fr ≤ y.1 ∧ y.1 < fr + 64) := by
  unfold istep at h
  obtain ⟨b, hb, h⟩ := bind_some h
  cases b with
  | true => simp only [cond_true] at h; exact iop_hw h
  | false =>
    simp only [cond_false, Option.some.injEq] at h
    subst h
    intro y hy
    exact absurd hy List.not_mem_nil
end
end Go.Pv
