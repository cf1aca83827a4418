/-
  A call: what is handed over, what comes back.
-/
import Derived.Test.YtedohmdgbilicaaPvK
namespace Go.Pv
open Go.RowKit

/-- The objects that a call is handed (or hands back), by their places. -/
def hF (h : List Ob) (p : Nat) : Option Ob := h[p]?

/-- What a call's answer says of the machine. -/
def CallOK (P : Program) (f : Nat) (args : List PV) (h : List Ob) (r : PV) (h' : List Ob) : Prop :=
  ∀ (w : World) (D : Nat → Option Nat) (F : Nat → Nat → Prop) (vals : Array Value), Sim w D (hF h) F w.heap.size h.length → (∀ id, h.length ≤ id → D id = none) → RepL w (Mut D (hF h) F) D vals.toList args →
    Calls P f vals w fun e w' => ∃ v D', e = .returned v ∧ Sim w' D' (hF h') F w.heap.size h.length ∧ Keeps (MutO D (hF h)) w w' ∧ (∀ id, id < h.length → D' id = D id) ∧ (∀ id, h'.length ≤ id → D' id = none) ∧
      (∀ b o, b < w.heap.size → Mut D' (hF h') F b o → Mut D (hF h) F b o) ∧ h.length ≤ h'.length ∧ Rep w' (Mut D' (hF h') F) D' v r

/-- A function that can be called by its number. -/
def Callable (P : Program) (f : Nat) : Prop := ∃ F, P.funcs[f]? = some F ∧ F.body.isNone = false ∧ (F.name == "runtime.NumGoroutine") = false

theorem backObs_spec {g : Nat → Nat} : ∀ (k : Nat) (h : List Ob) (ws : List (Nat × Option Ob)), backObs g k h = some ws → ws.length = h.length ∧ ∀ (j : Nat) x, ws[j]? = some x → ∃ ob l, h[j]? = some ob ∧ mapO (back g 8) ob.cells = some l ∧ x = (g (k + j), some ⟨ob.sz, ob.ro, ob.gr, l⟩)
  | k, [], ws, h => by
    simp [backObs] at h
    subst h
    exact ⟨rfl, fun j x hj => by simp at hj⟩
  | k, ob :: r, ws, h => by
    simp only [backObs] at h
    obtain ⟨l, hl, h⟩ := bind_some h
    obtain ⟨m, hm, h⟩ := bind_some h
    injection h with h
    subst h
    obtain ⟨h1, h2⟩ := backObs_spec (k + 1) r m hm
    refine ⟨by simp [h1], fun j x hj => ?_⟩
    cases j with
    | zero =>
      simp at hj
      subst hj
      exact ⟨ob, l, rfl, hl, rfl⟩
    | succ j =>
      obtain ⟨ob', l', e1, e2, e3⟩ := h2 j x (by simpa using hj)
      exact ⟨ob', l', by simpa using e1, e2, by rw [e3]; congr 2; omega⟩

theorem upH_not {ws : List (Nat × Option Ob)} {H : Nat → Option Ob} {j : Nat} (h : ∀ x ∈ ws, x.1 ≠ j) : upH H ws j = H j := by
  induction ws generalizing H with
  | nil => rfl
  | cons x r ih =>
    obtain ⟨id, o⟩ := x
    rw [upH, ih (fun y hy => h y (List.mem_cons_of_mem _ hy))]
    have := h _ List.mem_cons_self
    simp only at this
    rw [if_neg (fun e => this e.symm)]
theorem upH_mem {ws : List (Nat × Option Ob)} {H : Nat → Option Ob} {j : Nat} {o : Option Ob} (h : ∀ x ∈ ws, x.1 = j → x.2 = o) (hj : ∃ x ∈ ws, x.1 = j) : upH H ws j = o := by
  induction ws generalizing H with
  | nil => obtain ⟨x, hx, _⟩ := hj; cases hx
  | cons x r ih =>
    obtain ⟨id, o'⟩ := x
    rw [upH]
    by_cases c : ∃ y ∈ r, y.1 = j
    · exact ih (fun y hy => h y (List.mem_cons_of_mem _ hy)) c
    · rw [upH_not (fun y hy e => c ⟨y, hy, e⟩)]
      obtain ⟨y, hy, hyj⟩ := hj
      rcases List.mem_cons.1 hy with rfl | hy
      · have := h _ List.mem_cons_self hyj
        simp only at hyj this
        rw [if_pos hyj.symm, this]
      · exact absurd ⟨y, hy, hyj⟩ c

theorem shut_spec {H : Nat → Option Ob} : ∀ (l : List Nat) (cl : List (Nat × Option Ob)), shut H l = some cl → (∀ x ∈ cl, x.1 ∈ l ∧ ∃ ob, H x.1 = some ob ∧ x.2 = some ⟨ob.sz, ob.cells.length, ob.gr, ob.cells⟩) ∧ ∀ id ∈ l, ∃ x ∈ cl, x.1 = id
  | [], cl, h => by
    simp [shut] at h
    subst h
    exact ⟨fun x hx => absurd hx (List.not_mem_nil), fun id hi => absurd hi (List.not_mem_nil)⟩
  | id :: r, cl, h => by
    simp only [shut] at h
    obtain ⟨ob, hob, h⟩ := bind_some h
    obtain ⟨m, hm, h⟩ := bind_some h
    injection h with h
    subst h
    obtain ⟨h1, h2⟩ := shut_spec r m hm
    refine ⟨fun x hx => ?_, fun i hi => ?_⟩
    · rcases List.mem_cons.1 hx with rfl | hx
      · exact ⟨List.mem_cons_self, ob, hob, rfl⟩
      · obtain ⟨a, b⟩ := h1 x hx
        exact ⟨List.mem_cons_of_mem _ a, b⟩
    · rcases List.mem_cons.1 hi with rfl | hi
      · exact ⟨_, List.mem_cons_self, rfl⟩
      · obtain ⟨x, hx, e⟩ := h2 i hi
        exact ⟨x, List.mem_cons_of_mem _ hx, e⟩

/-- the objects of a caller that a callee must keep its hands off -/
def Off (D : Nat → Option Nat) (H : Nat → Option Ob) (F : Nat → Nat → Prop) (ids lent : List Nat) (b o : Nat) : Prop :=
  F b o ∨ ∃ id ob, H id = some ob ∧ D id = some b ∧ id ∉ ids ∧ ob.ro ≤ o ∧ (id ∈ lent → ob.cells.length ≤ o)

section
variable {P : Program} {w : World} {D : Nat → Option Nat} {H : Nat → Option Ob} {F : Nat → Nat → Prop} {n0 m fr : Nat}

/-- THE RETURN: the caller's objects behind a call. -/
theorem come_back (S : Sim w D H F n0 m) (hfr : ∀ id, fr ≤ id → id < fr + 64 → D id = none ∧ H id = none) {ids lent : List Nat} (hnd : ids.Nodup) (hids : ∀ id ∈ ids, ∃ ob, H id = some ob)
    (hdj : ∀ x ∈ lent, x ∉ ids) {hc h : List Ob}
    (hsub1 : ∀ b o, Mut (Dof D ids) (hF hc) (Off D H F ids lent) b o → Mut D H F b o) (hsubO : ∀ b o, MutO (Dof D ids) (hF hc) b o → MutO D H b o)
    {w' : World} {D1 : Nat → Option Nat} (S1 : Sim w' D1 (hF h) (Off D H F ids lent) w.heap.size ids.length) (hk : Keeps (MutO (Dof D ids) (hF hc)) w w') (hD1 : ∀ id, id < ids.length → D1 id = Dof D ids id) (hD2 : ∀ id, h.length ≤ id → D1 id = none)
    (hsub2 : ∀ b o, b < w.heap.size → Mut D1 (hF h) (Off D H F ids lent) b o → Mut (Dof D ids) (hF hc) (Off D H F ids lent) b o) (hlen : ids.length ≤ h.length) (h64 : h.length - ids.length ≤ 64)
    {ws : List (Nat × Option Ob)} (hws : backObs (ren ids fr) 0 h = some ws) {cl : List (Nat × Option Ob)} {fl : Bool} (hclo : (fl = true ∧ cl = [] ∧ ∀ ob ∈ h, ∀ p ∈ ob.cells, flat 8 p = true) ∨ (fl = false ∧ shut H lent = some cl)) :
    ∃ D', Step w D H F n0 m fr w' D' (upH H (ws ++ cl)) ∧
      ∀ v r r', (fl = true → flat 8 r = true) → Rep w' (Mut D1 (hF h) (Off D H F ids lent)) D1 v r → back (ren ids fr) 8 r = some r' → Rep w' (Mut D' (upH H (ws ++ cl)) F) D' v r' := by
  obtain ⟨wl, wsp⟩ := backObs_spec 0 h ws hws
  have hnr : ∀ id ob, H id = some ob → ¬ (fr ≤ id ∧ id < fr + 64) := fun id ob h hc => by rw [(hfr id hc.1 hc.2).2] at h; cases h
  have hrng : ∀ id ∈ ids, ¬ (fr ≤ id ∧ id < fr + 64) := fun id hi => by obtain ⟨ob, h⟩ := hids id hi; exact hnr id ob h
  let D' : Nat → Option Nat := fun id => if fr ≤ id ∧ id < fr + 64 then D1 (ids.length + (id - fr)) else D id
  have hDn : ∀ id, ¬ (fr ≤ id ∧ id < fr + 64) → D' id = D id := fun id h => if_neg h
  have ren_old : ∀ p, p < ids.length → ∃ id, ids[p]? = some id ∧ id ∈ ids ∧ ren ids fr p = id := fun p hp => by
    refine ⟨ids[p], List.getElem?_eq_getElem hp, List.getElem_mem hp, ?_⟩
    unfold ren
    rw [List.getElem?_eq_getElem hp]
  have ren_new : ∀ p, ids.length ≤ p → ren ids fr p = fr + (p - ids.length) := fun p hp => by
    unfold ren
    rw [List.getElem?_eq_none hp]
  have hDp : ∀ p, p < h.length → D' (ren ids fr p) = D1 p := by
    intro p hpl
    by_cases c : p < ids.length
    · obtain ⟨id, e1, e2, e3⟩ := ren_old p c
      rw [e3, hDn id (hrng id e2), hD1 p c]
      unfold Dof
      rw [e1]
      rfl
    · rw [ren_new p (by omega)]
      show (if fr ≤ fr + (p - ids.length) ∧ fr + (p - ids.length) < fr + 64 then D1 (ids.length + (fr + (p - ids.length) - fr)) else D (fr + (p - ids.length))) = D1 p
      rw [if_pos (by omega)]
      congr 1
      omega
  have hg : ∀ p b, D1 p = some b → D' (ren ids fr p) = some b := by
    intro p b hp
    have hpl : p < h.length := by
      rcases Nat.lt_or_ge p h.length with hl | hl
      · exact hl
      · rw [hD2 p hl] at hp; cases hp
    rw [hDp p hpl, hp]
  have ren_inj : ∀ p q, p < h.length → q < h.length → ren ids fr p = ren ids fr q → p = q := by
    intro p q hp hq e
    by_cases c : p < ids.length <;> by_cases c' : q < ids.length
    · obtain ⟨id, e1, e2, e3⟩ := ren_old p c
      obtain ⟨id', f1, f2, f3⟩ := ren_old q c'
      rw [e3, f3] at e
      subst e
      exact (List.getElem?_inj c hnd).1 (e1.trans f1.symm)
    · obtain ⟨id, e1, e2, e3⟩ := ren_old p c
      rw [e3, ren_new q (by omega)] at e
      have := hrng id e2
      omega
    · obtain ⟨id, e1, e2, e3⟩ := ren_old q c'
      rw [e3, ren_new p (by omega)] at e
      have := hrng id e2
      omega
    · rw [ren_new p (by omega), ren_new q (by omega)] at e
      omega
  have wkey : ∀ x ∈ ws, ∃ p ob l, p < h.length ∧ h[p]? = some ob ∧ mapO (back (ren ids fr) 8) ob.cells = some l ∧ x = (ren ids fr p, some ⟨ob.sz, ob.ro, ob.gr, l⟩) := by
    intro x hx
    obtain ⟨j, hj⟩ := List.getElem?_of_mem hx
    obtain ⟨ob, l, e1, e2, e3⟩ := wsp j x hj
    exact ⟨j, ob, l, (List.getElem?_eq_some_iff.1 e1).1, e1, e2, by rw [e3, Nat.zero_add]⟩
  have clkey : ∀ x ∈ cl, fl = false ∧ x.1 ∈ lent ∧ ∃ ob, H x.1 = some ob ∧ x.2 = some ⟨ob.sz, ob.cells.length, ob.gr, ob.cells⟩ := by
    rcases hclo with ⟨_, rfl, _⟩ | ⟨e, hs⟩
    · intro x hx; exact absurd hx List.not_mem_nil
    · intro x hx; exact ⟨e, (shut_spec lent cl hs).1 x hx⟩
  have hlentH : ∀ id ∈ lent, ∀ ob, H id = some ob → ∀ p, p < h.length → ren ids fr p ≠ id := by
    intro id hi ob hob p hp e
    by_cases c : p < ids.length
    · obtain ⟨id', e1, e2, e3⟩ := ren_old p c
      rw [e3] at e
      subst e
      exact hdj _ hi e2
    · rw [ren_new p (by omega)] at e
      exact hnr id ob hob (by omega)
  have atA : ∀ p ob, h[p]? = some ob → ∃ l, mapO (back (ren ids fr) 8) ob.cells = some l ∧ upH H (ws ++ cl) (ren ids fr p) = some ⟨ob.sz, ob.ro, ob.gr, l⟩ := by
    intro p ob hp
    have hpl := (List.getElem?_eq_some_iff.1 hp).1
    have hwp : p < ws.length := by omega
    obtain ⟨ob', l, e1, e2, e3⟩ := wsp p _ (List.getElem?_eq_getElem hwp)
    rw [hp] at e1
    injection e1 with e1
    subst e1
    refine ⟨l, e2, upH_mem (fun x hx hxe => ?_) ⟨_, List.mem_append_left _ (List.getElem_mem hwp), by rw [e3, Nat.zero_add]⟩⟩
    rcases List.mem_append.1 hx with hx | hx
    · obtain ⟨q, ob2, l2, g1, g2, g3, rfl⟩ := wkey x hx
      have := ren_inj q p g1 hpl hxe
      subst this
      rw [hp] at g2
      injection g2 with g2
      subst g2
      rw [e2] at g3
      injection g3 with g3
      subst g3
      rfl
    · obtain ⟨_, g1, ob2, g2, g3⟩ := clkey x hx
      exact absurd hxe.symm (hlentH x.1 g1 ob2 g2 p hpl)
  have atN : ∀ j, (∀ p, p < h.length → ren ids fr p ≠ j) → ∀ ob2, upH H (ws ++ cl) j = some ob2 → ∃ ob, H j = some ob ∧ ob2.sz = ob.sz ∧ ob2.cells = ob.cells ∧ ob2.gr = ob.gr ∧ (ob2.ro = ob.ro ∨ ob2.ro = ob.cells.length) ∧ (fl = false → j ∈ lent → ob2.ro = ob.cells.length) := by
    intro j hj ob2 h2
    by_cases c : ∃ x ∈ cl, x.1 = j
    · obtain ⟨x, hx, rfl⟩ := c
      obtain ⟨_, g1, ob, g2, g3⟩ := clkey x hx
      have : upH H (ws ++ cl) x.1 = some ⟨ob.sz, ob.cells.length, ob.gr, ob.cells⟩ := upH_mem (fun y hy hye => by
        rcases List.mem_append.1 hy with hy | hy
        · obtain ⟨q, _, _, g1, _, _, rfl⟩ := wkey y hy
          exact absurd hye (hj q g1)
        · obtain ⟨_, _, ob', f2, f3⟩ := clkey y hy
          rw [hye, g2] at f2
          injection f2 with f2
          subst f2
          exact f3) ⟨x, List.mem_append_right _ hx, rfl⟩
      rw [this] at h2
      injection h2 with h2
      subst h2
      exact ⟨ob, g2, rfl, rfl, rfl, .inr rfl, fun _ _ => rfl⟩
    · have : upH H (ws ++ cl) j = H j := upH_not (fun y hy hye => by
        rcases List.mem_append.1 hy with hy | hy
        · obtain ⟨q, _, _, g1, _, _, rfl⟩ := wkey y hy
          exact absurd hye (hj q g1)
        · exact c ⟨y, hy, hye⟩)
      rw [this] at h2
      refine ⟨ob2, h2, rfl, rfl, rfl, .inl rfl, fun hf hl => ?_⟩
      rcases hclo with ⟨e, _⟩ | ⟨_, hs⟩
      · rw [e] at hf; cases hf
      · obtain ⟨x, hx, e⟩ := (shut_spec lent cl hs).2 j hl
        exact absurd ⟨x, hx, e⟩ c
  -- which of the two
  have which : ∀ j ob2, upH H (ws ++ cl) j = some ob2 → (∃ p ob l, h[p]? = some ob ∧ mapO (back (ren ids fr) 8) ob.cells = some l ∧ ren ids fr p = j ∧ ob2 = ⟨ob.sz, ob.ro, ob.gr, l⟩ ∧ D' j = D1 p) ∨
      ∃ ob, H j = some ob ∧ j ∉ ids ∧ D' j = D j ∧ ob2.cells = ob.cells ∧ ob2.gr = ob.gr ∧ (ob2.ro = ob.ro ∨ ob2.ro = ob.cells.length) ∧ (fl = false → j ∈ lent → ob2.ro = ob.cells.length) := by
    intro j ob2 h2
    by_cases c : ∃ p, p < h.length ∧ ren ids fr p = j
    · obtain ⟨p, hp, rfl⟩ := c
      obtain ⟨l, e1, e2⟩ := atA p _ (List.getElem?_eq_getElem hp)
      rw [e2] at h2
      injection h2 with h2
      exact .inl ⟨p, _, l, List.getElem?_eq_getElem hp, e1, rfl, h2.symm, hDp p hp⟩
    · obtain ⟨ob, e1, _, e3, e4, e5, e6⟩ := atN j (fun p hp e => c ⟨p, hp, e⟩) ob2 h2
      refine .inr ⟨ob, e1, fun hi => ?_, hDn j (hnr j ob e1), e3, e4, e5, e6⟩
      obtain ⟨p, hp⟩ := List.getElem?_of_mem hi
      have hpl := (List.getElem?_eq_some_iff.1 hp).1
      obtain ⟨id, f1, _, f3⟩ := ren_old p hpl
      rw [hp] at f1
      injection f1 with f1
      subst f1
      exact c ⟨p, by omega, f3⟩
  have hext : ∀ id b, D id = some b → D' id = some b := fun id b h => by
    rw [hDn id (fun hc => by rw [(hfr id hc.1 hc.2).1] at h; cases h)]
    exact h
  have hsub : ∀ b o, b < w.heap.size → Mut D' (upH H (ws ++ cl)) F b o → Mut D H F b o := by
    rintro b o hb (h | ⟨j, ob2, e1, e2, e3⟩)
    · exact .inl h
    · rcases which j ob2 e1 with ⟨p, ob, l, g1, _, _, rfl, g5⟩ | ⟨ob, g1, _, g3, _, _, g6, _⟩
      · rw [g5] at e2
        exact hsub1 b o (hsub2 b o hb (.inr ⟨p, ob, g1, e2, e3⟩))
      · rw [g3] at e2
        have := (S.ok j ob g1).1
        exact .inr ⟨j, ob, g1, e2, by rcases g6 with g6 | g6 <;> omega⟩
  have hoff : fl = false → ∀ b o, Mut D' (upH H (ws ++ cl)) F b o → Mut D1 (hF h) (Off D H F ids lent) b o := by
    rintro hfl b o (h | ⟨j, ob2, e1, e2, e3⟩)
    · exact .inl (.inl h)
    · rcases which j ob2 e1 with ⟨p, ob, l, g1, _, _, rfl, g5⟩ | ⟨ob, g1, g2, g3, _, _, g6, g7⟩
      · rw [g5] at e2
        exact .inr ⟨p, ob, g1, e2, e3⟩
      · rw [g3] at e2
        have := (S.ok j ob g1).1
        exact .inl (.inr ⟨j, ob, g1, e2, g2, by rcases g6 with g6 | g6 <;> omega, fun hl => by have := g7 hfl hl; omega⟩)
  have conv : ∀ v r r', (fl = true → flat 8 r = true) → Rep w' (Mut D1 (hF h) (Off D H F ids lent)) D1 v r → back (ren ids fr) 8 r = some r' → Rep w' (Mut D' (upH H (ws ++ cl)) F) D' v r' := by
    intro v r r' hfl hr hb
    cases fl with
    | true => exact back_sound hg 8 v r r' hb (flat_sound 8 v r (hfl rfl) hr)
    | false => exact back_sound hg 8 v r r' hb (hr.to (fun b o _ h => hoff rfl b o h) (fun _ _ h => h))
  have hW : ∀ b o, MutO (Dof D ids) (hF hc) b o → Mut D H F b o := fun b o h => .inr (hsubO b o h)
  have apart : ∀ j ob b, H j = some ob → j ∉ ids → D j = some b → ∀ o, ¬ MutO (Dof D ids) (hF hc) b o := by
    rintro j ob b h1 h2 h3 o ⟨p, obp, g1, g2, _⟩
    unfold Dof at g2
    cases hp : ids[p]? with
    | none => rw [hp] at g2; cases g2
    | some id =>
      rw [hp] at g2
      have hi := List.mem_of_getElem? hp
      obtain ⟨ob', h4⟩ := hids id hi
      have := S.inj j id ob ob' b h1 h4 h3 g2
      subst this
      exact h2 hi
  refine ⟨D', ⟨⟨S.fr, Nat.le_trans S.le hk.size, fun id b h => ?_, fun j ob2 h2 => ?_, fun i j a b k hi hj di dj => ?_, fun j ob2 b o h2 hd => ?_⟩, hk.mono (fun b o _ h => hsubO b o h), hext, hsub, fun id h hid => ?_⟩, conv⟩
  · by_cases c : fr ≤ id ∧ id < fr + 64
    · have h' : D1 (ids.length + (id - fr)) = some b := by rw [← h]; exact (if_pos c).symm
      rcases S1.own _ _ h' with hlt | hge
      · omega
      · exact .inr (Nat.le_trans S.le hge)
    · rw [hDn id c] at h
      exact S.own id b h
  · rcases which j ob2 h2 with ⟨p, ob, l, g1, g2, g3, rfl, g5⟩ | ⟨ob, g1, g2, g3, g4, g5, g6, _⟩
    · obtain ⟨q1, q2⟩ := S1.ok p ob g1
      have hll := (mapO_spec g2).1
      refine ⟨by show ob.ro ≤ l.length; omega, ?_⟩
      rcases q2 with ⟨e1, e2⟩ | ⟨b, carr, t, e1, e2, e3, e4, e5⟩
      · refine .inl ⟨List.eq_nil_of_length_eq_zero (by rw [hll, e1]; rfl), by rw [g5, e2]⟩
      · refine .inr ⟨b, carr, t, by rw [g5, e1], e2, by show l.length ≤ _; omega, fun hgr => Nat.le_trans S.le (e4 hgr), fun k q hq => ?_⟩
        obtain ⟨x, hx, hxb⟩ := (mapO_spec g2).2 k q hq
        obtain ⟨v, f1, f2, f3⟩ := e5 k x hx
        refine ⟨v, f1, f2, conv v x q (fun hfl => ?_) f3 hxb⟩
        rcases hclo with ⟨_, _, hall⟩ | ⟨e, _⟩
        · exact hall ob (List.mem_of_getElem? g1) x (List.mem_of_getElem? hx)
        · rw [e] at hfl; cases hfl
    · have hb : ∀ b o, D j = some b → ¬ MutO (Dof D ids) (hF hc) b o := fun b o hb => apart j ob b g1 g2 hb o
      have := (S.ok j ob g1).mono hk hW hsub hext (fun h => by rw [g3, h]) hb
      obtain ⟨q1, q2⟩ := this
      refine ⟨by rw [g4]; rcases g6 with g6 | g6 <;> omega, ?_⟩
      rw [g4, g5]
      exact q2
  · rcases which i a hi with ⟨p, ob, l, g1, g2, g3, _, g5⟩ | ⟨ob, g1, g2, g3, _⟩ <;> rcases which j b hj with ⟨p', ob', l', f1, f2, f3, _, f5⟩ | ⟨ob', f1, f2, f3, _⟩
    · rw [g5] at di
      rw [f5] at dj
      have := S1.inj p p' ob ob' k g1 f1 di dj
      subst this
      rw [← g3, ← f3]
    · rw [g5] at di
      rw [f3] at dj
      have hkl : k < w.heap.size := by
        rcases (S.ok j ob' f1).2 with ⟨_, e⟩ | ⟨b', carr, t, e1, e2, _⟩
        · rw [dj] at e; cases e
        · rw [dj] at e1
          injection e1 with e1
          subst e1
          exact (Array.getElem?_eq_some_iff.1 e2).1
      rcases S1.own p k di with hlt | hge
      · obtain ⟨id, e1, e2, e3⟩ := ren_old p hlt
        rw [hD1 p hlt] at di
        unfold Dof at di
        rw [e1] at di
        obtain ⟨ob3, h3⟩ := hids id e2
        have := S.inj id j ob3 ob' k h3 f1 di dj
        rw [← g3, e3, this]
      · omega
    · rw [g3] at di
      rw [f5] at dj
      have hkl : k < w.heap.size := by
        rcases (S.ok i ob g1).2 with ⟨_, e⟩ | ⟨b', carr, t, e1, e2, _⟩
        · rw [di] at e; cases e
        · rw [di] at e1
          injection e1 with e1
          subst e1
          exact (Array.getElem?_eq_some_iff.1 e2).1
      rcases S1.own p' k dj with hlt | hge
      · obtain ⟨id, e1, e2, e3⟩ := ren_old p' hlt
        rw [hD1 p' hlt] at dj
        unfold Dof at dj
        rw [e1] at dj
        obtain ⟨ob3, h3⟩ := hids id e2
        have := S.inj i id ob ob3 k g1 h3 di dj
        rw [← f3, e3, this]
      · omega
    · rw [g3] at di
      rw [f3] at dj
      exact S.inj i j ob ob' k g1 f1 di dj
  · rcases which j ob2 h2 with ⟨p, ob, l, g1, g2, g3, _, g5⟩ | ⟨ob, g1, g2, g3, _⟩
    · rw [g5] at hd
      exact fun hF => S1.dis p ob b o g1 hd (.inl hF)
    · rw [g3] at hd
      exact S.dis j ob b o g1 hd
  · rw [hDn id (by omega)]
    exact h

end
end Go.Pv
