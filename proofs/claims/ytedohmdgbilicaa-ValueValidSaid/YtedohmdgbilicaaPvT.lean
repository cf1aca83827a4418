/-
  Answers of oracles that are known to be the evaluator's own, in the end, lead to answers that are.
-/
import Derived.Test.YtedohmdgbilicaaPvA
namespace Go.Pv

def Conv (L : Orc) (ch : Nat → Orc) : Prop := ∀ e r, L e = some r → ∃ n, ∀ k, n ≤ k → ch k e = some r
def Ev (L : Orc) (ch : Nat → Orc) {β : Type} (F : Orc → Option β) : Prop := ∀ y, F L = some y → ∃ n, ∀ k, n ≤ k → F (ch k) = some y

section
variable {L : Orc} {ch : Nat → Orc}
theorem Ev.const {β : Type} (o : Option β) : Ev L ch (fun _ => o) := fun _ h => ⟨0, fun _ _ => h⟩
theorem Ev.bind {α β : Type} {F : Orc → Option α} {K : α → Orc → Option β} (h : Ev L ch F) (hk : ∀ a, Ev L ch (K a)) : Ev L ch (fun X => (F X).bind fun a => K a X) := by
  intro y hy
  obtain ⟨a, h1, h2⟩ := Option.bind_eq_some_iff.1 hy
  obtain ⟨n, hn⟩ := h a h1
  obtain ⟨m, hm⟩ := hk a y h2
  refine ⟨max n m, fun k hk => ?_⟩
  show (F (ch k)).bind _ = _
  rw [hn k (by omega)]
  exact hm k (by omega)
theorem Ev.cond {β : Type} {F K : Orc → Option β} (c : Bool) (h : Ev L ch F) (hk : Ev L ch K) : Ev L ch (fun X => bif c then F X else K X) := by
  cases c
  · exact hk
  · exact h
theorem Ev.ask (hc : Conv L ch) (e : En) : Ev L ch (fun X => X e) := fun y h => hc e y h

theorem icall_ev (hc : Conv L ch) {H : Nat → Option Ob} {fr : Nat} {b : Bool} {f : Nat} {args : List PV} : Ev L ch (fun X => icall X H fr b f args) := by
  unfold icall
  refine Ev.bind (Ev.const _) fun y => Ev.bind (Ev.const _) fun z => Ev.cond _ (Ev.bind (Ev.ask hc _) fun r => ?_) (Ev.const _)
  exact Ev.const _
theorem iop_ev (hc : Conv L ch) {e : Nat → PV} {H : Nat → Option Ob} {fr : Nat} {io : IOp} : Ev L ch (fun X => iop X e H fr io) := by
  cases io with
  | call b f xs => exact Ev.bind (Ev.const _) fun t => icall_ev hc
  | _ => exact Ev.const _
theorem istep_ev (hc : Conv L ch) {e : Nat → PV} {H : Nat → Option Ob} {fr : Nat} {o : IOper} : Ev L ch (fun X => istep X e H fr o) :=
  Ev.bind (Ev.const _) fun _ => Ev.cond _ (iop_ev hc) (Ev.const _)
theorem iregion_ev (hc : Conv L ch) {nx : Nat} : ∀ (ops : List IOper) (i : Nat) (env : List PV) (h : List (Nat × Ob)), Ev L ch (fun X => iregion X nx i ops env h)
  | [], _, _, _ => Ev.const _
  | _ :: r, i, _, _ => Ev.bind (istep_ev hc) fun _ => Ev.bind (iregion_ev hc r (i + 1) _ _) fun _ => Ev.const _
theorem ireg_ev (hc : Conv L ch) {ops : List IOper} {d : Bool} {s : St} : Ev L ch (fun X => ireg X ops d s) :=
  Ev.bind (iregion_ev hc ops 0 _ _) fun _ => Ev.const _
theorem icode_ev (hc : Conv L ch) {m : Nat} : ∀ (c : IR) (s : St), Ev L ch (fun X => icode X m c s)
  | .skip, _ => Ev.const _
  | .reg _ _, _ => Ev.bind (ireg_ev hc) fun _ => Ev.const _
  | .seq a b, s => Ev.bind (icode_ev hc a s) fun x => by
    cases x.1 with
    | normal => exact icode_ev hc b x.2
    | _ => exact Ev.const _
  | .cond c a b, s => by
    show Ev L ch (fun X => match c.ev (envF s.env) with | .bool t => (bif t then icode X m a s else icode X m b s) | _ => none)
    split
    · exact Ev.cond _ (icode_ev hc a s) (icode_ev hc b s)
    · exact Ev.const _
  | .block _ b, s => Ev.bind (icode_ev hc b s) fun _ => Ev.const _
  | .loop live b, s => Ev.bind (Ev.const _) fun y => Ev.bind (Ev.ask hc _) fun _ => Ev.const _
  | .exit _, _ => Ev.const _
  | .ret, _ => Ev.const _
theorem phi_ev (hc : Conv L ch) (G : Nat → Option Fun) (e : En) : Ev L ch (fun X => phi G X e) := by
  cases e with
  | call f args h =>
    cases hG : G f with
    | none =>
      have : (fun X : Orc => phi G X (.call f args h)) = fun _ => none := by funext X; simp only [phi, hG]
      rw [this]
      exact Ev.const _
    | some d =>
      cases d with
      | ir fn =>
        have : (fun X : Orc => phi G X (.call f args h)) = fun X => (bif Nat.beq args.length fn.np then (icode X h.length fn.body ⟨args ++ nuns (fn.nt - fn.np), number 0 h, h.length⟩).bind fun x => (match x.1 with | .exit _ => none | _ => fin fn h.length x.2) else none) := by
          funext X
          simp only [phi, hG]
          rfl
        rw [this]
        exact Ev.cond _ (Ev.bind (icode_ev hc _ _) fun _ => Ev.const _) (Ev.const _)
      | cmpstr =>
        have : (fun X : Orc => phi G X (.call f args h)) = fun _ => (match args, h with | [.str a, .str b], [] => some (.ret (.int .i64 (cmpL a.toList b.toList)) []) | _, _ => none) := by
          funext X
          simp only [phi, hG]
          rfl
        rw [this]
        exact Ev.const _
      | ax φ =>
        have : (fun X : Orc => phi G X (.call f args h)) = fun _ => (match h with | [] => (φ args).bind fun y => some (.ret y.1 y.2) | _ => none) := by
          funext X
          simp only [phi, hG]
          rfl
        rw [this]
        exact Ev.const _
  | loop m live b env h =>
    have : (fun X : Orc => phi G X (.loop m live b env h)) = fun X => (icode X m b ⟨env, number 0 h, h.length⟩).bind fun x => (match x.1 with | .normal => (gc m live x.2).bind fun y => X (.loop m live b y.1 y.2) | e => some (.st e x.2)) := rfl
    rw [this]
    refine Ev.bind (icode_ev hc b _) fun x => ?_
    obtain ⟨x1, s⟩ := x
    cases x1 with
    | normal => exact Ev.bind (Ev.const _) fun y => Ev.ask hc _
    | _ => exact Ev.const _
end

/-- what the evaluator answers, in the end -/
def Tells (G : Nat → Option Fun) (e : En) (r : Rs) : Prop := ∃ n, runs G n e = some r
theorem runs_mono {G : Nat → Option Fun} : ∀ (n : Nat) (e : En) (r : Rs), runs G n e = some r → runs G (n + 1) e = some r
  | 0, e, r, h => by cases h
  | n + 1, e, r, h => by
    obtain ⟨k, hk⟩ := phi_ev (L := runs G n) (ch := fun _ => runs G (n + 1)) (fun _ _ h => ⟨0, fun _ _ => runs_mono n _ _ h⟩) G e r h
    exact hk k (Nat.le_refl _)
theorem runs_le {G : Nat → Option Fun} {n : Nat} {e : En} {r : Rs} (h : runs G n e = some r) : ∀ k, n ≤ k → runs G k e = some r := by
  intro k hk
  induction k with
  | zero =>
    have : n = 0 := by omega
    subst this
    exact h
  | succ k ih =>
    by_cases c : n ≤ k
    · exact runs_mono k e r (ih c)
    · have : n = k + 1 := by omega
      subst this
      exact h
/-- All that Y says is told in the end. -/
def Sure (G : Nat → Option Fun) (Y : Orc) : Prop := ∀ e r, Y e = some r → Tells G e r
theorem Sure.conv {G : Nat → Option Fun} {Y : Orc} (h : Sure G Y) : Conv Y (runs G) := fun e r hr => by
  obtain ⟨n, hn⟩ := h e r hr
  exact ⟨n, runs_le hn⟩
theorem tells_phi {G : Nat → Option Fun} {Y : Orc} (h : Sure G Y) {e : En} {r : Rs} (hr : phi G Y e = some r) : Tells G e r := by
  obtain ⟨n, hn⟩ := phi_ev h.conv G e r hr
  exact ⟨n + 1, hn n (Nat.le_refl _)⟩
theorem Sure.none {G : Nat → Option Fun} : Sure G (fun _ => none) := fun _ _ h => by cases h
theorem Sure.runs {G : Nat → Option Fun} (n : Nat) : Sure G (runs G n) := fun _ _ h => ⟨n, h⟩

/-- one round of a loop -/
theorem tells_loop {G : Nat → Option Fun} {Y : Orc} (h : Sure G Y) {m : Nat} {live : List Nat} {b : IR} {env : List PV} {hp : List Ob} {s : St} {y : List PV × List Ob} {r : Rs} (hb : icode Y m b ⟨env, number 0 hp, hp.length⟩ = some (.normal, s)) (hg : gc m live s = some y)
    (hr : Tells G (.loop m live b y.1 y.2) r) : Tells G (.loop m live b env hp) r := by
  obtain ⟨n1, h1⟩ := icode_ev h.conv b _ _ hb
  obtain ⟨n2, h2⟩ := hr
  refine ⟨max n1 n2 + 1, ?_⟩
  show phi G (Pv.runs G (max n1 n2)) _ = _
  simp only [phi]
  have e1 : icode (Pv.runs G (max n1 n2)) m b ⟨env, number 0 hp, hp.length⟩ = some (.normal, s) := h1 _ (Nat.le_max_left _ _)
  rw [e1, Option.bind_some]
  simp only
  rw [hg, Option.bind_some]
  exact runs_le h2 _ (Nat.le_max_right _ _)
theorem tells_leave {G : Nat → Option Fun} {Y : Orc} (h : Sure G Y) {m : Nat} {live : List Nat} {b : IR} {env : List PV} {hp : List Ob} {s : St} {x : Ex} (hx : x ≠ .normal) (hb : icode Y m b ⟨env, number 0 hp, hp.length⟩ = some (x, s)) : Tells G (.loop m live b env hp) (.st x s) := by
  obtain ⟨n1, h1⟩ := icode_ev h.conv b _ _ hb
  refine ⟨n1 + 1, ?_⟩
  show phi G (Pv.runs G n1) _ = _
  simp only [phi]
  have e1 : icode (Pv.runs G n1) m b ⟨env, number 0 hp, hp.length⟩ = some (x, s) := h1 _ (Nat.le_refl _)
  rw [e1, Option.bind_some]
  cases x with
  | normal => exact absurd rfl hx
  | _ => rfl
end Go.Pv
