/- Texts of the claim, merged by a program; what the statement does not reach is left out. -/
import Derived.Test.YtimjjohlpnkacaaGreatBWorkcodecBack1
import Derived.Orders
import Derived.LoopN
import Derived.ChangeArms
import Derived.ChangeSlices
import Derived.ChangeOld
import Derived.Carry
import GoSem.ClaimJoined
import Derived.Lib.SliceRun

section
/-
  A region, in whatever order.
-/
namespace Go.Pv
open Go.RowKit
def Qjk (ops : Array Oper) : Option (Nat × Bool) → Option (Nat × Bool) → Bool
  | none, none => true
  | some (j, w), some (s, w') => (w == w') && Qy0 ((ops[j]?).bind (·.dst)) s
  | _, _ => false
def Qy1 : Option Nat → Option Nat → Bool
 | none, none => true
 | some a, some b => Nat.beq a b
 | _, _ => false
def Qb3 (P : Program) (ops : Array Oper) (o : Oper) (io : IOper) : Bool := Qy1 o.dst io.dst && Qjk ops o.guard io.guard && Q13u P o.op io.op
def Qjl (P : Program) (ops : Array Oper) : List Oper → List IOper → Bool
 | [], [] => true
 | o :: r, io :: r' => Qb3 P ops o io && Qjl P ops r r'
 | _, _ => false
def Q1re (ios : List IOper) (k : Nat) : List Nat :=
 match ios[k]? with
 | some io => io.bef
 | none => []
def Q110 (ios : List IOper) : Nat → List Oper → List IOper → Bool
 | j, o :: r, io :: r' =>
  (io.bef.all fun i => o.after.toList.any fun e => Region.binds .any e && (Nat.beq e.on i || has (Q1re ios e.on) i)) &&
   (o.after.toList.all fun e => !(Region.binds .any e) || Nat.blt e.on j) && Q110 ios (j + 1) r r'
 | _, _, _ => true
theorem Qea {a b : Option Nat} (h : Qy1 a b = true) : a = b := by
 cases a <;> cases b <;> first | rfl | (cases h; done) | exact congrArg some (Nat.eq_of_beq_eq_true h)
theorem Qdq {P : Program} {ops : Array Oper} : ∀ {l : List Oper} {l' : List IOper}, Qjl P ops l l' = true → l.length = l'.length ∧ ∀ (i : Nat) o io, l[i]? = some o → l'[i]? = some io → Qb3 P ops o io = true
 | [], [], _ => ⟨rfl, fun i o io h => by simp at h⟩
 | [], _ :: _, h => by cases h
 | _ :: _, [], h => by cases h
 | o :: r, io :: r', h => by
  simp only [Qjl, Bool.and_eq_true] at h
  obtain ⟨h1, h2⟩ := Qdq h.2
  refine ⟨by simp [h1], fun i o' io' ho hio => ?_⟩
  cases i with
  | zero =>
   simp at ho hio
   subst ho hio
   exact h.1
  | succ i => exact h2 i o' io' (by simpa using ho) (by simpa using hio)
theorem Qnk {ios : List IOper} : ∀ {j : Nat} {l : List Oper} {l' : List IOper}, Q110 ios j l l' = true → ∀ (i : Nat) o io, l[i]? = some o → l'[i]? = some io →
    (∀ k ∈ io.bef, ∃ e ∈ o.after, Region.binds .any e = true ∧ (e.on = k ∨ k ∈ Q1re ios e.on)) ∧ ∀ e ∈ o.after, Region.binds .any e = true → e.on < j + i
  | j, [], l', _, i, o, io, ho, _ => by simp at ho
  | j, _ :: _, [], _, i, o, io, _, hio => by simp at hio
  | j, o :: r, io :: r', h, i, o', io', ho, hio => by
    simp only [Q110, Bool.and_eq_true] at h
    cases i with
    | zero =>
      simp at ho hio
      subst ho hio
      refine ⟨fun k hk => ?_, fun e he hb => ?_⟩
      · have := List.all_eq_true.1 h.1.1 k hk
        obtain ⟨e, he, hb⟩ := List.any_eq_true.1 this
        rw [Bool.and_eq_true, Bool.or_eq_true] at hb
        exact ⟨e, by simpa using he, hb.1, hb.2.imp Nat.eq_of_beq_eq_true Q7f.1⟩
      · have := List.all_eq_true.1 h.1.2 e (by simpa using he)
        rw [Bool.or_eq_true] at this
        rcases this with h' | h'
        · rw [hb] at h'; cases h'
        · exact Nat.le_of_ble_eq_true h'
    | succ i =>
      obtain ⟨h1, h2⟩ := Qnk h.2 i o' io' (by simpa using ho) (by simpa using hio)
      exact ⟨h1, fun e he hb => by have := h2 e he hb; omega⟩
def Last {β : Type} (W : Nat → Nat → Option β) (s0 : Nat → β) (S : Nat → Prop) (s : Nat → β) : Prop :=
 ∀ t, (∃ k, S k ∧ W k t = some (s t) ∧ ∀ k', S k' → k < k' → W k' t = none) ∨ ((∀ k, S k → W k t = none) ∧ s t = s0 t)
section
variable {β : Type} {W : Nat → Nat → Option β} {s0 : Nat → β}
theorem Last.det {S S' : Nat → Prop} {s s' : Nat → β} (h : Last W s0 S s) (h' : Last W s0 S' s') {t : Nat} (hs : ∀ k, W k t ≠ none → (S k ↔ S' k)) : s t = s' t := by
  rcases h t with ⟨k, h1, h2, h3⟩ | ⟨h1, h2⟩ <;> rcases h' t with ⟨k', g1, g2, g3⟩ | ⟨g1, g2⟩
  · rcases Nat.lt_trichotomy k k' with c | c | c
    · have := h3 k' ((hs k' (by rw [g2]; exact fun h => by cases h)).2 g1) c
      rw [g2] at this; cases this
    · subst c
      rw [h2] at g2
      injection g2
    · have := g3 k ((hs k (by rw [h2]; exact fun h => by cases h)).1 h1) c
      rw [h2] at this; cases this
  · have := g1 k ((hs k (by rw [h2]; exact fun h => by cases h)).1 h1)
    rw [h2] at this; cases this
  · have := h1 k' ((hs k' (by rw [g2]; exact fun h => by cases h)).2 g1)
    rw [g2] at this; cases this
  · rw [h2, g2]
theorem Last.add {S S' : Nat → Prop} {s s' : Nat → β} {i : Nat} (h : Last W s0 S s) (hS : ∀ k, S' k ↔ S k ∨ k = i) (hi : ∀ k t, S k → i < k → W k t ≠ none → W i t = none) (hs : ∀ t, s' t = (W i t).getD (s t)) : Last W s0 S' s' := by
  intro t
  cases hw : W i t with
  | some v =>
    refine .inl ⟨i, (hS i).2 (.inr rfl), by rw [hs t, hw]; rfl, fun k' hk hlt => ?_⟩
    rcases (hS k').1 hk with hk | rfl
    · cases hk' : W k' t with
      | none => rfl
      | some u =>
        have := hi k' t hk hlt (by rw [hk']; exact fun h => by cases h)
        rw [hw] at this; cases this
    · omega
  | none =>
    have e : s' t = s t := by rw [hs t, hw]; rfl
    rw [e]
    rcases h t with ⟨k, h1, h2, h3⟩ | ⟨h1, h2⟩
    · refine .inl ⟨k, (hS k).2 (.inl h1), h2, fun k' hk hlt => ?_⟩
      rcases (hS k').1 hk with hk | rfl
      · exact h3 k' hk hlt
      · exact hw
    · refine .inr ⟨fun k hk => ?_, h2⟩
      rcases (hS k).1 hk with hk | rfl
      · exact h1 k hk
      · exact hw
theorem Last.none {S : Nat → Prop} (h : ∀ k, ¬ S k) : Last W s0 S s0 := fun _ => .inr ⟨fun k hk => absurd hk (h k), rfl⟩
end
theorem Q171 {l : List PV} {d : Option Nat} {v : PV} {t : Nat} : envF (put l d v) t = if d = some t ∧ t < l.length then v else envF l t := by
  unfold put envF
  cases d with
  | none => simp
  | some d =>
    by_cases c : d = t
    · subst c
      by_cases c' : d < l.length
      · simp [c']
      · simp [c']
    · simp [c, List.getElem?_set_ne c]
theorem Qus {l : List PV} {d : Option Nat} {v : PV} : (put l d v).length = l.length := by
 unfold put
 cases d <;> simp
theorem Q1id {h : List (Nat × Ob)} {id j : Nat} {ob : Ob} : look (hput.repl h id ob) j = if j = id then some ob else look h j := by
  induction h with
  | nil =>
    simp only [hput.repl, look]
    by_cases c : id = j
    · subst c; simp
    · have : Nat.beq id j = false := by rw [Bool.eq_false_iff]; exact fun h => c (Nat.eq_of_beq_eq_true h)
      simp [this, Ne.symm c]
  | cons y r ih =>
    obtain ⟨k, x⟩ := y
    simp only [hput.repl]
    by_cases c : k = id
    · subst c
      simp only [Nat.beq_refl, cond_true, look]
      by_cases c' : k = j
      · subst c'; simp
      · have : Nat.beq k j = false := by rw [Bool.eq_false_iff]; exact fun h => c' (Nat.eq_of_beq_eq_true h)
        simp [this, Ne.symm c']
    · have : Nat.beq k id = false := by rw [Bool.eq_false_iff]; exact fun h => c (Nat.eq_of_beq_eq_true h)
      simp only [this, cond_false, look, ih]
      by_cases c' : k = j
      · subst c'; simp [c]
      · have : Nat.beq k j = false := by rw [Bool.eq_false_iff]; exact fun h => c' (Nat.eq_of_beq_eq_true h)
        simp [this]
theorem Q1ib {h : List (Nat × Ob)} {id j : Nat} : look (hput.drop h id) j = if j = id then none else look h j := by
  induction h with
  | nil => simp [hput.drop, look]
  | cons y r ih =>
    obtain ⟨k, x⟩ := y
    simp only [hput.drop]
    by_cases c : k = id
    · subst c
      simp only [Nat.beq_refl, cond_true, look, ih]
      by_cases c' : k = j
      · subst c'; simp
      · have : Nat.beq k j = false := by rw [Bool.eq_false_iff]; exact fun h => c' (Nat.eq_of_beq_eq_true h)
        simp [this]
    · have : Nat.beq k id = false := by rw [Bool.eq_false_iff]; exact fun h => c (Nat.eq_of_beq_eq_true h)
      simp only [this, cond_false, look, ih]
      by_cases c' : k = j
      · subst c'; simp [c]
      · have : Nat.beq k j = false := by rw [Bool.eq_false_iff]; exact fun h => c' (Nat.eq_of_beq_eq_true h)
        simp [this]
theorem Q84 : ∀ (ws : List (Nat × Option Ob)) (h : List (Nat × Ob)), look (hput h ws) = upH (look h) ws
 | [], h => rfl
 | (id, some ob) :: r, h => by
  rw [hput, Q84 r, upH]
  congr 1
  funext j
  exact Q1id
 | (id, none) :: r, h => by
  rw [hput, Q84 r, upH]
  congr 1
  funext j
  exact Q1ib
theorem Qou : ∀ {ws : List (Nat × Option Ob)} {H H' : Nat → Option Ob} {j : Nat}, (∃ x ∈ ws, x.1 = j) → upH H ws j = upH H' ws j
  | [], _, _, _, h => by obtain ⟨x, hx, _⟩ := h; cases hx
  | (id, o) :: r, H, H', j, h => by
    rw [upH, upH]
    by_cases c : ∃ y ∈ r, y.1 = j
    · exact Qou c
    · rw [Q8b (fun y hy e => c ⟨y, hy, e⟩), Q8b (fun y hy e => c ⟨y, hy, e⟩)]
      obtain ⟨y, hy, rfl⟩ := h
      rcases List.mem_cons.1 hy with rfl | hy
      · simp
      · exact absurd ⟨y, hy, rfl⟩ c
def WE (L : Nat) (ios : List IOper) (xs : List Eff) (k t : Nat) : Option PV :=
 match ios[k]?, xs[k]? with
 | some o, some x => if o.dst = some t ∧ t < L then some x.v else none
 | _, _ => none
def WH (xs : List Eff) (k id : Nat) : Option (Option Ob) :=
  match xs[k]? with
  | some x => bif has (x.hw.map (·.1)) id then some (upH (fun _ => none) x.hw id) else none
  | none => none
theorem Q1h8 {L : Nat} {ios : List IOper} {xs : List Eff} {k t : Nat} {o : IOper} {x : Eff} (ho : ios[k]? = some o) (hx : xs[k]? = some x) (p : PV) : (WE L ios xs k t).getD p = if o.dst = some t ∧ t < L then x.v else p := by
 unfold WE
 rw [ho, hx]
 simp only
 split <;> rfl
theorem Q1h9 {xs : List Eff} {k id : Nat} {x : Eff} (hx : xs[k]? = some x) (H : Nat → Option Ob) : (WH xs k id).getD (H id) = upH H x.hw id := by
  unfold WH
  rw [hx]
  simp only
  cases hh : has (x.hw.map (·.1)) id with
  | true =>
    have := Q7f.1 hh
    obtain ⟨y, hy, e⟩ := List.mem_map.1 this
    exact Qou ⟨y, hy, e⟩
  | false =>
    show H id = _
    rw [Q8b (fun y hy e => by rw [Q7f.2 (List.mem_map.2 ⟨y, hy, e⟩)] at hh; cases hh)]
theorem Q1wo {L : Nat} {ios : List IOper} {xs : List Eff} {k t : Nat} (h : WE L ios xs k t ≠ none) : ∃ o x, ios[k]? = some o ∧ xs[k]? = some x ∧ o.dst = some t ∧ t < L := by
  unfold WE at h
  split at h
  · rename_i o x ho hx
    split at h
    · rename_i hc; exact ⟨o, x, ho, hx, hc.1, hc.2⟩
    · exact absurd rfl h
  · exact absurd rfl h
theorem Q1rc {L : Nat} {ios : List IOper} {xs : List Eff} {k t : Nat} {o : IOper} (ho : ios[k]? = some o) (h : o.dst ≠ some t) : WE L ios xs k t = none := by
 unfold WE
 rw [ho]
 cases xs[k]? with
 | none => rfl
 | some x =>
  simp only
  rw [if_neg (fun hc => h hc.1)]
theorem Q1wp {xs : List Eff} {k id : Nat} (h : WH xs k id ≠ none) : ∃ x, xs[k]? = some x ∧ id ∈ x.hw.map (·.1) := by
  unfold WH at h
  split at h
  · rename_i x hx
    cases hh : has (x.hw.map (·.1)) id with
    | true => exact ⟨x, hx, Q7f.1 hh⟩
    | false => rw [hh] at h; exact absurd rfl h
  · exact absurd rfl h
theorem Q1rd {xs : List Eff} {k id : Nat} {x : Eff} (hx : xs[k]? = some x) (h : id ∉ x.hw.map (·.1)) : WH xs k id = none := by
  unfold WH
  rw [hx]
  simp only
  cases hh : has (x.hw.map (·.1)) id with
  | true => exact absurd (Q7f.1 hh) h
  | false => rfl
theorem Qfs {X : Orc} {nx : Nat} {ios : List IOper} {xs : List Eff} {L : Nat} {e0 : Nat → PV} {H0 : Nat → Option Ob} : ∀ (r : List IOper) (i : Nat) (env : List PV) (h : List (Nat × Ob)) (y : List PV × List (Nat × Ob) × List Eff),
    Q6w X nx i r env h = some y → (∀ j, r[j]? = ios[i + j]?) → (∀ j, y.2.2[j]? = xs[i + j]?) → env.length = L → Last (WE L ios xs) e0 (· < i) (envF env) → Last (WH xs) H0 (· < i) (look h) →
      y.2.2.length = r.length ∧ y.1.length = L ∧ (∀ (j : Nat) o x, i ≤ j → ios[j]? = some o → xs[j]? = some x → ∃ e H, Last (WE L ios xs) e0 (· < j) e ∧ Last (WH xs) H0 (· < j) H ∧ Q8y X e H (nx + 64 * j) o = some x) ∧
        Last (WE L ios xs) e0 (· < i + r.length) (envF y.1) ∧ Last (WH xs) H0 (· < i + r.length) (look y.2.1)
  | [], i, env, h, y, hy, hr, hx, hL, l1, l2 => by
    simp only [Q6w, Option.some.injEq] at hy
    subst hy
    refine ⟨rfl, hL, fun j o x hj ho _ => ?_, l1, l2⟩
    have := hr (j - i)
    rw [show i + (j - i) = j by omega, ho] at this
    simp at this
  | o :: r, i, env, h, y, hy, hr, hx, hL, l1, l2 => by
    simp only [Q6w] at hy
    obtain ⟨x, hst, hy⟩ := bind_some hy
    obtain ⟨z, hz, hy⟩ := bind_some hy
    injection hy with hy
    subst hy
    have ho : ios[i]? = some o := by have := hr 0; simpa using this.symm
    have hxi : xs[i]? = some x := by have := hx 0; simpa using this.symm
    have n1 : Last (WE L ios xs) e0 (· < i + 1) (envF (put env o.dst x.v)) := l1.add (i := i) (fun k => by omega) (fun k t hk hlt => by omega) (fun t => by rw [Q1h8 ho hxi, Q171, hL])
    have n2 : Last (WH xs) H0 (· < i + 1) (look (hput h x.hw)) := l2.add (i := i) (fun k => by omega) (fun k t hk hlt => by omega) (fun t => by rw [Q1h9 hxi, Q84])
    obtain ⟨g1, g2, g3, g4, g5⟩ := Qfs r (i + 1) _ _ z hz (fun j => by have := hr (j + 1); rw [show i + (j + 1) = i + 1 + j by omega] at this; simpa using this)
      (fun j => by have := hx (j + 1); rw [show i + (j + 1) = i + 1 + j by omega] at this; simpa using this) (by rw [Qus, hL]) n1 n2
    refine ⟨by simp [g1], g2, fun j o' x' hj ho' hx' => ?_, ?_, ?_⟩
    · by_cases c : j = i
      · subst c
        rw [ho] at ho'
        injection ho' with ho'
        rw [hxi] at hx'
        injection hx' with hx'
        subst ho' hx'
        exact ⟨_, _, l1, l2, hst⟩
      · exact g3 j o' x' (by omega) ho' hx'
    · rw [show i + (o :: r).length = i + 1 + r.length by simp; omega]; exact g4
    · rw [show i + (o :: r).length = i + 1 + r.length by simp; omega]; exact g5
theorem Qud {j : Nat} {b : IOper} {y : Eff} : ∀ {i : Nat} {l : List (IOper × Eff)}, Q1lw j b y i l = true → ∀ (k : Nat) a x, l[k]? = some (a, x) → i + k = j ∨ i + k ∈ b.bef ∨ clash a x b y = false
  | i, [], _, k, a, x, h => by simp at h
  | i, (a, x) :: r, h, k, a', x', hk => by
    simp only [Q1lw, Bool.and_eq_true, Bool.or_eq_true] at h
    cases k with
    | zero =>
      simp at hk
      obtain ⟨rfl, rfl⟩ := hk
      rcases h.1 with (h1 | h1) | h1
      · exact .inl (Nat.eq_of_beq_eq_true h1)
      · exact .inr (.inl (Q7f.1 h1))
      · exact .inr (.inr (by simpa using h1))
    | succ k =>
      have := Qud h.2 k a' x' (by simpa using hk)
      rw [show i + (k + 1) = i + 1 + k by omega]
      exact this
theorem Q10z {all : List (IOper × Eff)} : ∀ {j : Nat} {l : List (IOper × Eff)}, calm all j l = true → (∀ k, l[k]? = all[j + k]?) → ∀ (i k : Nat) a x b y, j ≤ k → i < k → all[i]? = some (a, x) → all[k]? = some (b, y) → i ∈ b.bef ∨ clash a x b y = false
  | j, [], _, hl, i, k, a, x, b, y, hj, _, _, hk => by
    have := hl (k - j)
    rw [show j + (k - j) = k by omega, hk] at this
    simp at this
  | j, (b', y') :: r, h, hl, i, k, a, x, b, y, hj, hik, hi, hk => by
    simp only [calm, Bool.and_eq_true] at h
    by_cases c : k = j
    · subst c
      have h0 := hl 0
      rw [Nat.add_zero, hk] at h0
      simp at h0
      obtain ⟨rfl, rfl⟩ := h0
      have := Qud h.1 i a x (by rw [List.getElem?_take_of_lt hik]; exact hi)
      rcases this with h' | h' | h'
      · omega
      · exact .inl (by simpa using h')
      · exact .inr h'
    · exact Q10z h.2 (fun q => by have := hl (q + 1); rw [show j + (q + 1) = j + 1 + q by omega] at this; simpa using this) i k a x b y (by omega) hik hi hk
theorem Quo {l : List Nat} {d : Option Nat} : Q12z l d = false ↔ ∀ t, d = some t → t ∉ l := by
  cases d with
  | none => simp [Q12z]
  | some d =>
    simp only [Q12z, Option.some.injEq]
    constructor
    · rintro h t rfl ht
      rw [Q7f.2 ht] at h; cases h
    · intro h
      cases hh : has l d with
      | false => rfl
      | true => exact absurd (Q7f.1 hh) (h d rfl)
theorem Q7x {a b : IOper} {x y : Eff} (h : clash a x b y = false) :
    (∀ t, a.dst = some t → t ∉ b.looks) ∧ (∀ t, b.dst = some t → t ∉ a.looks) ∧ (∀ t, a.dst = some t → b.dst ≠ some t) ∧ (∀ id ∈ x.hw.map (·.1), id ∉ y.hr ∧ id ∉ y.hw.map (·.1)) ∧ (∀ id ∈ y.hw.map (·.1), id ∉ x.hr) := by
  unfold clash at h
  simp only [Bool.or_eq_false_iff, Bool.not_eq_false'] at h
  obtain ⟨⟨⟨⟨h1, h2⟩, h3⟩, h4⟩, h5⟩ := h
  refine ⟨Quo.1 h1, Quo.1 h2, fun t ha hb => ?_, fun id hi => ?_, Qjm.1 h5⟩
  · rw [ha, hb] at h3
    simp [Q1zv] at h3
  · have := Qjm.1 h4 id hi
    exact ⟨fun hc => this (List.mem_append_left _ hc), fun hc => this (List.mem_append_right _ hc)⟩
theorem Qe7 : ∀ (h : List (Nat × Ob)) (id : Nat), look (h.map fun x => (x.1, Qg5 x.2)) id = (look h id).map Qg5
 | [], _ => rfl
 | (k, o) :: r, id => by
  simp only [List.map_cons, look]
  cases Nat.beq k id with
  | true => rfl
  | false => exact Qe7 r id
end Go.Pv
end

section
/-
  Runs along a trace, over objects of which only their rows are known (views); what calls and loops answer is handed in.
-/
namespace Go.Pv
abbrev Views := List (Nat × List (List PV))
def plain : PV → Bool
 | .bool _ => true
 | .int _ _ => true
 | .str _ => true
 | .sl _ => true
 | .np => true
 | .nf => true
 | _ => false
structure ViewOK (sz : Nat) (cells : List PV) (rows : List (List PV)) : Prop where
  flat : cells = rows.flatten
  size : ∀ r ∈ rows, r.length = sz
  plain : ∀ r ∈ rows, ∀ p ∈ r, plain p = true
def VOK (H : Nat → Option Ob) (vw : Views) : Prop := ∀ id rows, look vw id = some rows → ∃ ob, H id = some ob ∧ ViewOK ob.sz ob.cells rows
def Met (l : List Prop) : Prop := ∀ p ∈ l, p
theorem Met.nil : Met [] := fun _ h => absurd h List.not_mem_nil
theorem Met.cons {p : Prop} {l : List Prop} (h : p) (hl : Met l) : Met (p :: l) := fun q hq => by
  rcases List.mem_cons.1 hq with rfl | hq
  · exact h
  · exact hl q hq
theorem Met.left {a b : List Prop} (h : Met (a ++ b)) : Met a := fun p hp => h p (List.mem_append_left _ hp)
theorem Met.right {a b : List Prop} (h : Met (a ++ b)) : Met b := fun p hp => h p (List.mem_append_right _ hp)
theorem Met.head {p : Prop} {l : List Prop} (h : Met (p :: l)) : p := h p List.mem_cons_self
theorem Met.tail {p : Prop} {l : List Prop} (h : Met (p :: l)) : Met l := fun q hq => h q (List.mem_cons_of_mem _ hq)
def mapV {α β : Type} (f : α → Option (β × List Prop)) : List α → Option (List β × List Prop)
 | [] => some ([], [])
 | x :: r => (f x).bind fun y => (mapV f r).bind fun l => some (y.1 :: l.1, y.2 ++ l.2)
theorem Q7z {α β : Type} {f : α → Option (β × List Prop)} {g : α → Option β} (hf : ∀ a y, f a = some y → Met y.2 → g a = some y.1) : ∀ (l : List α) (y : List β × List Prop), mapV f l = some y → Met y.2 → mapO g l = some y.1
 | [], y, h, _ => by
  simp only [mapV, Option.some.injEq] at h
  subst h
  rfl
 | a :: r, y, h, hm => by
  obtain ⟨b, hb, h⟩ := Qi h
  obtain ⟨l, hl, h⟩ := Qi h
  simp only [Option.some.injEq] at h
  subst h
  simp only [mapO]
  rw [hf a b hb hm.left, Option.bind_some, Q7z hf r l hl hm.right]
  rfl
def fzV (H : Nat → Option Ob) (vw : Views) : Nat → PV → Option ((PV × List Nat) × List Prop)
  | 0, _ => none
  | n + 1, v =>
    match v with
    | .bx _ _ => none
    | .ns _ => some ((.sl [], []), [])
    | .ms id sz off len =>
      (H id).bind fun ob =>
        match look vw id with
        | some rows => bif Nat.beq ob.sz sz && (Nat.beq off 0 && Nat.ble 1 n) then some ((.sl rows, [id]), [len = rows.length]) else none
        | none =>
          bif Nat.beq ob.sz sz && Nat.ble ((off + len) * sz) ob.cells.length then
            (mapV (fzV H vw n) ((ob.cells.drop (off * sz)).take (len * sz))).bind fun l =>
              some ((.sl (rowsOf sz len (l.1.map (·.1))), id :: (l.1.map (·.2)).flatten), l.2)
          else none
    | .agg c => (mapV (fzV H vw n) c).bind fun l => some ((.agg (l.1.map (·.1)), (l.1.map (·.2)).flatten), l.2)
    | .tup c => (mapV (fzV H vw n) c).bind fun l => some ((.tup (l.1.map (·.1)), (l.1.map (·.2)).flatten), l.2)
    | .fn f a b => (mapV (fzV H vw n) a).bind fun l => (mapV (fzV H vw n) b).bind fun m => some ((.fn f (l.1.map (·.1)) (m.1.map (·.1)), (l.1.map (·.2)).flatten ++ (m.1.map (·.2)).flatten), l.2 ++ m.2)
    | v => some ((v, []), [])
theorem Qun {H : Nat → Option Ob} {n : Nat} : ∀ (l : List PV), (∀ p ∈ l, plain p = true) → mapO (fz H (n + 1)) l = some (l.map fun p => (p, []))
 | [], _ => rfl
 | p :: r, h => by
  have h1 : fz H (n + 1) p = some (p, []) := by
   have := h p List.mem_cons_self
   cases p <;> first | rfl | (simp [plain] at this)
  simp only [mapO]
  rw [h1, Option.bind_some, Qun r (fun q hq => h q (List.mem_cons_of_mem _ hq))]
  rfl
theorem Qfr {α β : Type} : ∀ (l : List α), (l.map fun _ => ([] : List β)).flatten = []
 | [] => rfl
 | _ :: r => by simp [Qfr r]
theorem Qoj (sz : Nat) : ∀ (rows : List (List PV)), (∀ r ∈ rows, r.length = sz) → rowsOf sz rows.length rows.flatten = rows
 | [], _ => rfl
 | r :: rs, h => by
  have h0 := h r List.mem_cons_self
  simp only [List.length_cons, rowsOf, List.flatten_cons]
  rw [List.take_left' h0, List.drop_left' h0, Qoj sz rs (fun q hq => h q (List.mem_cons_of_mem _ hq))]
theorem Q6u (sz : Nat) : ∀ (rows : List (List PV)), (∀ r ∈ rows, r.length = sz) → rows.flatten.length = rows.length * sz
 | [], _ => by simp
 | r :: rs, h => by
  simp only [List.flatten_cons, List.length_append, List.length_cons]
  rw [Q6u sz rs (fun q hq => h q (List.mem_cons_of_mem _ hq)), h r List.mem_cons_self, Nat.add_mul]
  omega
theorem ViewOK.all {sz : Nat} {cells : List PV} {rows : List (List PV)} (h : ViewOK sz cells rows) : ∀ p ∈ cells, Pv.plain p = true := fun p hp => by
 rw [h.flat] at hp
 obtain ⟨r, hr, hp⟩ := List.mem_flatten.1 hp
 exact h.plain r hr p hp
theorem Q1hr {H : Nat → Option Ob} {n k : Nat} (hk : k = n + 1) {id sz len : Nat} {ob : Ob} {rows : List (List PV)} (hH : H id = some ob) (hv : ViewOK ob.sz ob.cells rows) (hs : ob.sz = sz) (hl : len = rows.length) : fz H (k + 1) (.ms id sz 0 len) = some (.sl rows, [id]) := by
  subst hs hl
  have hc : ob.cells.length = rows.length * ob.sz := by rw [hv.flat]; exact Q6u _ _ hv.size
  simp only [fz]
  rw [hH, Option.bind_some]
  have hb : (Nat.beq ob.sz ob.sz && Nat.ble ((0 + rows.length) * ob.sz) ob.cells.length) = true := by
    rw [hc]
    simp
  rw [hb]
  simp only [cond_true, Nat.zero_mul, List.drop_zero]
  rw [← hc, List.take_length]
  have := Qun (H := H) (n := n) ob.cells hv.all
  rw [hk, this, Option.bind_some]
  simp only [List.map_map, Option.some.injEq, Prod.mk.injEq]
  refine ⟨?_, ?_⟩
  · have e2 : List.map ((fun x : PV × List Nat => x.fst) ∘ fun p => (p, ([] : List Nat))) ob.cells = ob.cells := by
      rw [show ((fun x : PV × List Nat => x.fst) ∘ fun p => (p, ([] : List Nat))) = fun p => p from rfl]
      exact List.map_id' _
    rw [e2, hv.flat, Qoj _ _ hv.size]
  · have e2 : ((fun x : PV × List Nat => x.snd) ∘ fun p => (p, ([] : List Nat))) = fun _ => [] := rfl
    rw [e2, Qfr]
theorem Q117 {H : Nat → Option Ob} {vw : Views} (hv : VOK H vw) : ∀ (n : Nat) (v : PV) (y : (PV × List Nat) × List Prop), fzV H vw n v = some y → Met y.2 → fz H n v = some y.1
 | 0, v, y, h, _ => by cases h
 | n + 1, v, y, h, hm => by
  have ih := Q117 hv n
  cases v with
  | ms id sz off len =>
   simp only [fzV] at h
   obtain ⟨ob, hob, h⟩ := Qi h
   cases hl : look vw id with
   | some rows =>
    rw [hl] at h
    simp only at h
    obtain ⟨ob', hob', hok⟩ := hv id rows hl
    rw [hob] at hob'
    injection hob' with hob'
    subst hob'
    cases hc : (Nat.beq ob.sz sz && (Nat.beq off 0 && Nat.ble 1 n)) with
    | false => rw [hc] at h; cases h
    | true =>
     rw [hc] at h
     simp only [cond_true, Option.some.injEq] at h
     subst h
     simp only [Bool.and_eq_true] at hc
     obtain ⟨c1, c2, c3⟩ := hc
     have c2 := Nat.eq_of_beq_eq_true c2
     have c1 := Nat.eq_of_beq_eq_true c1
     have c3 := Nat.le_of_ble_eq_true c3
     subst c2
     obtain ⟨m, rfl⟩ : ∃ m, n = m + 1 := ⟨n - 1, by omega⟩
     exact Q1hr rfl hob hok c1 hm.head
   | none =>
    rw [hl] at h
    simp only at h
    simp only [fz]
    rw [hob, Option.bind_some]
    cases hc : (Nat.beq ob.sz sz && Nat.ble ((off + len) * sz) ob.cells.length) with
    | false => rw [hc] at h; cases h
    | true =>
     rw [hc] at h
     simp only [cond_true] at h ⊢
     obtain ⟨l, hl, h⟩ := Qi h
     simp only [Option.some.injEq] at h
     subst h
     rw [Q7z ih _ l hl hm, Option.bind_some]
  | agg c =>
   simp only [fzV] at h
   obtain ⟨l, hl, h⟩ := Qi h
   simp only [Option.some.injEq] at h
   subst h
   simp only [fz]
   rw [Q7z ih _ l hl hm, Option.bind_some]
  | tup c =>
   simp only [fzV] at h
   obtain ⟨l, hl, h⟩ := Qi h
   simp only [Option.some.injEq] at h
   subst h
   simp only [fz]
   rw [Q7z ih _ l hl hm, Option.bind_some]
  | fn f a b =>
   simp only [fzV] at h
   obtain ⟨l, hl, h⟩ := Qi h
   obtain ⟨m, hm2, h⟩ := Qi h
   simp only [Option.some.injEq] at h
   subst h
   simp only [fz]
   rw [Q7z ih _ l hl hm.left, Option.bind_some, Q7z ih _ m hm2 hm.right, Option.bind_some]
  | bx _ _ => cases h
  | _ =>
   simp only [fzV, Option.some.injEq] at h
   subst h
   rfl
def Qaj (f : PV → List Nat → Option (Pass × List Prop)) : List PV → List Nat → Option ((List PV × List Nat × List Nat) × List Prop)
 | [], ids => some (([], ids, []), [])
 | p :: r, ids => (f p ids).bind fun x => (Qaj f r x.1.ids).bind fun y => some ((x.1.v :: y.1.1, y.1.2.1, x.1.fr ++ y.1.2.2), x.2 ++ y.2)
theorem Q4d {f : PV → List Nat → Option (Pass × List Prop)} {g : PV → List Nat → Option Pass} (hf : ∀ a ids y, f a ids = some y → Met y.2 → g a ids = some y.1) : ∀ (l : List PV) (ids : List Nat) (y : (List PV × List Nat × List Nat) × List Prop), Qaj f l ids = some y → Met y.2 → Q5y g l ids = some y.1
 | [], ids, y, h, _ => by
  simp only [Qaj, Option.some.injEq] at h
  subst h
  rfl
 | a :: r, ids, y, h, hm => by
  simp only [Qaj] at h
  obtain ⟨b, hb, h⟩ := Qi h
  obtain ⟨l, hl, h⟩ := Qi h
  simp only [Option.some.injEq] at h
  subst h
  simp only [Q5y]
  rw [hf a ids b hb hm.left, Option.bind_some, Q4d hf r _ l hl hm.right]
  rfl
def Qcs (H : Nat → Option Ob) (vw : Views) (byRef : Bool) : Nat → PV → List Nat → Option (Pass × List Prop)
 | 0, _, _ => none
 | n + 1, v, ids =>
  match v with
  | .bx id off => let x := Qx7 ids id; some (⟨.bx x.1 off, x.2, []⟩, [])
  | .ms id sz off len =>
   bif byRef then (let x := Qx7 ids id; some (⟨.ms x.1 sz off len, x.2, []⟩, []))
   else (fzV H vw 8 (.ms id sz off len)).bind fun x => some (⟨x.1.1, ids, x.1.2⟩, x.2)
  | .ns _ => some (⟨.sl [], ids, []⟩, [])
  | .agg c => (Qaj (Qcs H vw byRef n) c ids).bind fun y => some (⟨.agg y.1.1, y.1.2.1, y.1.2.2⟩, y.2)
  | .tup c => (Qaj (Qcs H vw byRef n) c ids).bind fun y => some (⟨.tup y.1.1, y.1.2.1, y.1.2.2⟩, y.2)
  | .fn f a b => (Qaj (Qcs H vw byRef n) a ids).bind fun y => (Qaj (Qcs H vw byRef n) b y.1.2.1).bind fun z => some (⟨.fn f y.1.1 z.1.1, z.1.2.1, y.1.2.2 ++ z.1.2.2⟩, y.2 ++ z.2)
  | v => some (⟨v, ids, []⟩, [])
theorem Q85 {H : Nat → Option Ob} {vw : Views} (hv : VOK H vw) {byRef : Bool} : ∀ (n : Nat) (v : PV) (ids : List Nat) (y : Pass × List Prop), Qcs H vw byRef n v ids = some y → Met y.2 → pass H byRef n v ids = some y.1
 | 0, v, ids, y, h, _ => by cases h
 | n + 1, v, ids, y, h, hm => by
  have ih := Q85 hv (byRef := byRef) n
  cases v with
  | ms id sz off len =>
   cases byRef with
   | true =>
    simp only [Qcs, cond_true, Option.some.injEq] at h
    subst h
    rfl
   | false =>
    simp only [Qcs, cond_false] at h
    obtain ⟨x, hx, h⟩ := Qi h
    simp only [Option.some.injEq] at h
    subst h
    simp only [pass, cond_false]
    rw [Q117 hv 8 _ x hx hm, Option.bind_some]
  | agg c =>
   simp only [Qcs] at h
   obtain ⟨l, hl, h⟩ := Qi h
   simp only [Option.some.injEq] at h
   subst h
   simp only [pass]
   rw [Q4d ih _ _ l hl hm, Option.bind_some]
  | tup c =>
   simp only [Qcs] at h
   obtain ⟨l, hl, h⟩ := Qi h
   simp only [Option.some.injEq] at h
   subst h
   simp only [pass]
   rw [Q4d ih _ _ l hl hm, Option.bind_some]
  | fn f a b =>
   simp only [Qcs] at h
   obtain ⟨l, hl, h⟩ := Qi h
   obtain ⟨m, hm2, h⟩ := Qi h
   simp only [Option.some.injEq] at h
   subst h
   simp only [pass]
   rw [Q4d ih _ _ l hl hm.left, Option.bind_some, Q4d ih _ _ m hm2 hm.right, Option.bind_some]
  | _ =>
   simp only [Qcs, Option.some.injEq] at h
   subst h
   rfl
theorem Qcr {H : Nat → Option Ob} {byRef : Bool} {n : Nat} : ∀ (l : List PV) (ids : List Nat), (∀ p ∈ l, plain p = true) → Q5y (pass H byRef (n + 1)) l ids = some (l, ids, [])
 | [], _, _ => rfl
 | p :: r, ids, h => by
  have h1 : pass H byRef (n + 1) p ids = some ⟨p, ids, []⟩ := by
   have := h p List.mem_cons_self
   cases p <;> first | rfl | (simp [plain] at this)
  simp only [Q5y]
  rw [h1, Option.bind_some, Qcr r ids (fun q hq => h q (List.mem_cons_of_mem _ hq))]
  rfl
def Qad (H : Nat → Option Ob) (vw : Views) (byRef own : Bool) : Nat → Nat → List Nat → Option ((List Ob × List Nat × List Nat) × List Prop)
 | 0, _, _ => none
 | n + 1, k, ids =>
  match ids[k]? with
  | none => some (([], ids, []), [])
  | some id =>
   (H id).bind fun ob =>
    match look vw id with
    | some _ => (Qad H vw byRef own n (k + 1) ids).bind fun z => some ((⟨ob.sz, ob.ro, ob.gr && own, ob.cells⟩ :: z.1.1, z.1.2.1, z.1.2.2), z.2)
    | none => (Qaj (Qcs H vw byRef 8) ob.cells ids).bind fun y =>
     (Qad H vw byRef own n (k + 1) y.1.2.1).bind fun z => some ((⟨ob.sz, ob.ro, ob.gr && own, y.1.1⟩ :: z.1.1, z.1.2.1, y.1.2.2 ++ z.1.2.2), y.2 ++ z.2)
theorem Q5m {H : Nat → Option Ob} {vw : Views} (hv : VOK H vw) {byRef own : Bool} : ∀ (n k : Nat) (ids : List Nat) (y : (List Ob × List Nat × List Nat) × List Prop), Qad H vw byRef own n k ids = some y → Met y.2 → Q3s H byRef own n k ids = some y.1
 | 0, _, _, y, h, _ => by cases h
 | n + 1, k, ids, y, h, hm => by
  simp only [Qad] at h
  simp only [Q3s]
  cases hk : ids[k]? with
  | none =>
   rw [hk] at h
   simp only [Option.some.injEq] at h
   subst h
   rfl
  | some id =>
   rw [hk] at h
   simp only at h ⊢
   obtain ⟨ob, hob, h⟩ := Qi h
   rw [hob, Option.bind_some]
   cases hl : look vw id with
   | some rows =>
    rw [hl] at h
    simp only at h
    obtain ⟨ob', hob', hok⟩ := hv id rows hl
    rw [hob] at hob'
    injection hob' with hob'
    subst hob'
    obtain ⟨z, hz, h⟩ := Qi h
    simp only [Option.some.injEq] at h
    subst h
    rw [Qcr (n := 7) ob.cells ids hok.all, Option.bind_some, Q5m hv n _ _ z hz hm]
    rfl
   | none =>
    rw [hl] at h
    simp only at h
    obtain ⟨x, hx, h⟩ := Qi h
    obtain ⟨z, hz, h⟩ := Qi h
    simp only [Option.some.injEq] at h
    subst h
    rw [Q4d (Q85 hv 8) _ _ x hx hm.left, Option.bind_some, Q5m hv n _ _ z hz hm.right]
    rfl
def Qc8 (vw : Views) : Nat → List (Nat × Ob) → List (Nat × Ob) × Nat × List (Nat × Ob)
 | nx, [] => ([], nx, [])
 | nx, (id, ob) :: r =>
  match look vw id with
  | some _ => let z := Qc8 vw nx r; ((id, ob) :: z.1, z.2.1, z.2.2)
  | none => let y := Q5h nx ob.cells; let z := Qc8 vw y.2.1 r; ((id, ⟨ob.sz, ob.ro, ob.gr, y.1⟩) :: z.1, z.2.1, y.2.2 ++ z.2.2)
theorem Qow : ∀ (l : List PV) (nx : Nat), (∀ p ∈ l, plain p = true) → Q5h nx l = (l, nx, [])
 | [], _, _ => rfl
 | p :: r, nx, h => by
  have h2 := Qow r nx (fun q hq => h q (List.mem_cons_of_mem _ hq))
  have h1 := h p List.mem_cons_self
  cases p <;> first | (simp [plain] at h1; done) | (simp only [Q5h, h2])
def VAll (h : List (Nat × Ob)) (vw : Views) : Prop := ∀ id ob rows, (id, ob) ∈ h → look vw id = some rows → ∀ p ∈ ob.cells, plain p = true
theorem Qov {vw : Views} : ∀ (h : List (Nat × Ob)) (nx : Nat), VAll h vw → Qc8 vw nx h = Qfl nx h
 | [], _, _ => rfl
 | (id, ob) :: r, nx, hv => by
  have hr : VAll r vw := fun i o rs hi hl => hv i o rs (List.mem_cons_of_mem _ hi) hl
  simp only [Qc8, Qfl]
  cases hl : look vw id with
  | some rows =>
   simp only
   rw [Qow ob.cells nx (hv id ob rows List.mem_cons_self hl), Qov r nx hr]
   rfl
  | none =>
   simp only
   rw [Qov r _ hr]
def Q12y : List (Nat × Ob) → Bool
 | [] => true
 | (k, _) :: r => (r.all fun x => !(Nat.beq x.1 k)) && Q12y r
theorem Q1ic {h : List (Nat × Ob)} : ∀ {id : Nat} {ob : Ob}, Q12y h = true → (id, ob) ∈ h → look h id = some ob := by
  induction h with
  | nil => intro id ob _ hm; cases hm
  | cons x r ih =>
    obtain ⟨k, o⟩ := x
    intro id ob ho hm
    simp only [Q12y, Bool.and_eq_true, List.all_eq_true] at ho
    simp only [look]
    rcases List.mem_cons.1 hm with e | hm
    · injection e with e1 e2
      subst e1 e2
      simp
    · have : Nat.beq k id = false := by
        have := ho.1 _ hm
        simp only [Bool.not_eq_true'] at this
        rw [Bool.eq_false_iff] at this ⊢
        intro c
        have := Nat.eq_of_beq_eq_true c
        subst this
        simp at *
      rw [this]
      simp only [cond_false]
      exact ih ho.2 hm
theorem VOK.allIn {h : List (Nat × Ob)} {vw : Views} (ho : Q12y h = true) (hv : VOK (look h) vw) : VAll h vw := fun id ob rows hm hl => by
 obtain ⟨ob', hob, hok⟩ := hv id rows hl
 rw [Q1ic ho hm] at hob
 injection hob with hob
 subst hob
 exact hok.all
theorem Qxo {α : Type} {a b : List (Nat × α)} {id : Nat} : look (a ++ b) id = match look a id with | some x => some x | none => look b id := by
 induction a with
 | nil => rfl
 | cons x r ih =>
  obtain ⟨k, o⟩ := x
  simp only [List.cons_append, look]
  cases Nat.beq k id with
  | true => rfl
  | false => exact ih
theorem Qcv {vw : Views} : ∀ (h : List (Nat × Ob)) (nx : Nat) (id : Nat) (rows : List (List PV)) (ob : Ob), look vw id = some rows → look h id = some ob → look (Qc8 vw nx h).1 id = some ob
 | [], _, _, _, _, _, h => by cases h
 | (k, o) :: r, nx, id, rows, ob, hl, h => by
  simp only [look] at h
  cases c : Nat.beq k id with
  | true =>
   have := Nat.eq_of_beq_eq_true c
   subst this
   rw [c] at h
   simp only [cond_true, Option.some.injEq] at h
   subst h
   simp only [Qc8, hl, look, c, cond_true]
  | false =>
   rw [c] at h
   simp only [cond_false] at h
   simp only [Qc8]
   cases look vw k with
   | some _ =>
    simp only [look, c, cond_false]
    exact Qcv r nx id rows ob hl h
   | none =>
    simp only [look, c, cond_false]
    exact Qcv r _ id rows ob hl h
def gcV0 (vw : Views) (m : Nat) (live : List Nat) (s : St) : Option ((List PV × List Ob) × List Prop) :=
 bif Q12y s.heap then
  let a := Q5h s.nx (mask live 0 s.env)
  let b := Qc8 vw a.2.1 s.heap
  let H := look (b.1 ++ (a.2.2 ++ b.2.2))
  (Qaj (Qcs H vw true 8) a.1 (upTo m)).bind fun y =>
   (Qad H vw true true 32 0 y.1.2.1).bind fun z => some ((y.1.1, z.1.1), y.2 ++ z.2)
 else none
theorem Quh {vw : Views} {m : Nat} {live : List Nat} {s : St} (hv : VOK (look s.heap) vw) {y : (List PV × List Ob) × List Prop} (h : gcV0 vw m live s = some y) (hm : Met y.2) : gc0 m live s = some y.1 := by
 unfold gcV0 at h
 unfold gc0
 cases ho : Q12y s.heap with
 | false => rw [ho] at h; cases h
 | true =>
  rw [ho] at h
  simp only [cond_true] at h ⊢
  have e := Qov (vw := vw) s.heap (Q5h s.nx (mask live 0 s.env)).2.1 (hv.allIn ho)
  have hv' : VOK (look ((Qc8 vw (Q5h s.nx (mask live 0 s.env)).2.1 s.heap).1 ++ ((Q5h s.nx (mask live 0 s.env)).2.2 ++ (Qc8 vw (Q5h s.nx (mask live 0 s.env)).2.1 s.heap).2.2))) vw := by
   intro id rows hl
   obtain ⟨ob, hob, hok⟩ := hv id rows hl
   refine ⟨ob, ?_, hok⟩
   rw [Qxo, Qcv s.heap _ id rows ob hl hob]
  rw [← e]
  obtain ⟨x, hx, h⟩ := Qi h
  obtain ⟨z, hz, h⟩ := Qi h
  simp only [Option.some.injEq] at h
  subst h
  rw [Q4d (Q85 hv' 8) _ _ x hx hm.left, Option.bind_some, Q5m hv' 32 _ _ z hz hm.right, Option.bind_some]
def Q1hp (vw : Views) (h : List (Nat × Ob)) : List (Nat × Ob) := h.map fun x => (match look vw x.1 with | some _ => x | none => (x.1, Qg5 x.2))
def Q13y (vw : Views) (s : St) : St := ⟨s.env.map Qxd, Q1hp vw s.heap, s.nx⟩
def gcV (vw : Views) (m : Nat) (live : List Nat) (s : St) : Option ((List PV × List Ob) × List Prop) :=
 bif has live 200001 then (bif Q12y s.heap then gcV0 vw m live (Q13y vw s) else none) else gcV0 vw m live s
theorem Qns {l : List PV} (h : ∀ p ∈ l, plain p = true) : l.map Qxd = l := by
 induction l with
 | nil => rfl
 | cons p r ih =>
  have h1 := h p List.mem_cons_self
  rw [List.map_cons, ih (fun q hq => h q (List.mem_cons_of_mem _ hq))]
  cases p <;> first | (simp [plain] at h1; done) | rfl
theorem Q116 {vw : Views} : ∀ (h : List (Nat × Ob)), VAll h vw → Q1hp vw h = h.map fun x => (x.1, Qg5 x.2)
 | [], _ => rfl
 | (id, ob) :: r, hv => by
  have hr : VAll r vw := fun i o rs hi hl => hv i o rs (List.mem_cons_of_mem _ hi) hl
  have ih := Q116 r hr
  unfold Q1hp at ih ⊢
  rw [List.map_cons, List.map_cons, ih]
  cases hl : look vw id with
  | none => rfl
  | some rows =>
   simp only
   rw [show Qg5 ob = ob from by unfold Qg5; rw [Qns (hv id ob rows List.mem_cons_self hl)]]
theorem Q119 {vw : Views} {m : Nat} {live : List Nat} {s : St} (hv : VOK (look s.heap) vw) {y : (List PV × List Ob) × List Prop} (h : gcV vw m live s = some y) (hm : Met y.2) : gc m live s = some y.1 := by
 unfold gcV at h
 unfold gc
 cases c : has live 200001 with
 | false =>
  rw [c] at h
  exact Quh hv h hm
 | true =>
  rw [c, cond_true] at h
  rw [cond_true]
  cases ho : Q12y s.heap with
  | false => rw [ho] at h; cases h
  | true =>
   rw [ho, cond_true] at h
   have e : Q13y vw s = Q98 s := by
    unfold Q13y Q98
    rw [Q116 s.heap (hv.allIn ho)]
   rw [e] at h
   refine Quh (fun id rows hl => ?_) h hm
   obtain ⟨ob, hob, hok⟩ := hv id rows hl
   have hf : Qg5 ob = ob := by
    unfold Qg5
    rw [Qns hok.all]
   refine ⟨ob, ?_, hok⟩
   rw [show (Q98 s).heap = s.heap.map fun x => (x.1, Qg5 x.2) from rfl, Qe7, hob, Option.map_some, hf]
structure Ans where
  r : Rs
  vw : Views
def Q7q (g : Nat → Nat) (vw : Views) : Nat → List Ob → Option (List (Nat × Option Ob) × List Prop × Views)
 | _, [] => some ([], [], [])
 | k, ob :: r =>
  match look vw k with
  | some rows => (Q7q g vw (k + 1) r).bind fun m => some ((g k, some ob) :: m.1, ViewOK ob.sz ob.cells rows :: m.2.1, (g k, rows) :: m.2.2)
  | none => (mapO (back g 8) ob.cells).bind fun l => (Q7q g vw (k + 1) r).bind fun m => some ((g k, some ⟨ob.sz, ob.ro, ob.gr, l⟩) :: m.1, m.2)
theorem Qb9 {g : Nat → Nat} {n : Nat} : ∀ (l : List PV), (∀ p ∈ l, plain p = true) → mapO (back g (n + 1)) l = some l
 | [], _ => rfl
 | p :: r, h => by
  have h1 : back g (n + 1) p = some p := by
   have := h p List.mem_cons_self
   cases p <;> first | rfl | (simp [plain] at this)
  simp only [mapO]
  rw [h1, Option.bind_some, Qb9 r (fun q hq => h q (List.mem_cons_of_mem _ hq))]
  rfl
theorem Q8u {g : Nat → Nat} {vw : Views} : ∀ (l : List Ob) (k : Nat) (y : List (Nat × Option Ob) × List Prop × Views), Q7q g vw k l = some y → Met y.2.1 → Qa3 g k l = some y.1
 | [], k, y, h, _ => by
  simp only [Q7q, Option.some.injEq] at h
  subst h
  rfl
 | ob :: r, k, y, h, hm => by
  simp only [Q7q] at h
  simp only [Qa3]
  cases hl : look vw k with
  | some rows =>
   rw [hl] at h
   simp only at h
   obtain ⟨m, hm', h⟩ := Qi h
   simp only [Option.some.injEq] at h
   subst h
   rw [Qb9 ob.cells (Met.head hm).all, Option.bind_some, Q8u r _ m hm' (Met.tail hm)]
   rfl
  | none =>
   rw [hl] at h
   simp only at h
   obtain ⟨l, hl', h⟩ := Qi h
   obtain ⟨m, hm', h⟩ := Qi h
   simp only [Option.some.injEq] at h
   subst h
   rw [hl', Option.bind_some, Q8u r _ m hm' hm]
   rfl
theorem Q8v {g : Nat → Nat} {vw : Views} : ∀ (l : List Ob) (k : Nat) (y : List (Nat × Option Ob) × List Prop × Views), Q7q g vw k l = some y → Met y.2.1 → ∀ id rows, (id, rows) ∈ y.2.2 → ∃ ob, (id, some ob) ∈ y.1 ∧ ViewOK ob.sz ob.cells rows
  | [], k, y, h, _ => by
    simp only [Q7q, Option.some.injEq] at h
    subst h
    intro id rows hx
    cases hx
  | ob :: r, k, y, h, hm => by
    simp only [Q7q] at h
    cases hl : look vw k with
    | some rows =>
      rw [hl] at h
      simp only at h
      obtain ⟨m, hm', h⟩ := Qi h
      simp only [Option.some.injEq] at h
      subst h
      intro id rws hx
      rcases List.mem_cons.1 hx with e | hx
      · injection e with e1 e2
        subst e1 e2
        exact ⟨ob, List.mem_cons_self, Met.head hm⟩
      · obtain ⟨o, ho, hv⟩ := Q8v r _ m hm' (Met.tail hm) id rws hx
        exact ⟨o, List.mem_cons_of_mem _ ho, hv⟩
    | none =>
      rw [hl] at h
      simp only at h
      obtain ⟨l, hl', h⟩ := Qi h
      obtain ⟨m, hm', h⟩ := Qi h
      simp only [Option.some.injEq] at h
      subst h
      intro id rws hx
      obtain ⟨o, ho, hv⟩ := Q8v r _ m hm' hm id rws hx
      exact ⟨o, List.mem_cons_of_mem _ ho, hv⟩
structure EV where
  eff : Eff
  cut : List Nat
  new : Views
  az : List Ans
  owed : List Prop
  asked : Qc9
def Q1pm (H : Nat → Option Ob) (vw : Views) (fr : Nat) (byRef : Bool) (f : Nat) (args : List PV) (az : List Ans) : Option EV :=
  (Qaj (Qcs H vw byRef 8) args []).bind fun y =>
  (Qad H vw false false 16 0 y.1.2.1).bind fun z =>
  let ids := z.1.2.1
  let lent := y.1.2.2 ++ z.1.2.2
  bif disj lent ids then
    match az with
    | [] => none
    | a :: az' =>
      match a.r with
      | .ret v h =>
        bif Nat.ble ids.length h.length && Nat.ble (h.length - ids.length) 64 then
          (back (ren ids fr) 8 v).bind fun v' => (Q7q (ren ids fr) a.vw 0 h).bind fun ws =>
            match lent with
            | [] => some ⟨⟨v', ws.1, ids⟩, ws.1.map (·.1), ws.2.2, az', y.2 ++ (z.2 ++ ws.2.1), [(.call f y.1.1 z.1.1, a.r)]⟩
            | _ :: _ =>
              bif flat 8 v && h.all (fun ob => ob.cells.all (flat 8)) then some ⟨⟨v', ws.1, ids ++ lent⟩, ws.1.map (·.1), ws.2.2, az', y.2 ++ (z.2 ++ ws.2.1), [(.call f y.1.1 z.1.1, a.r)]⟩
              else (shut H lent).bind fun cl => some ⟨⟨v', ws.1 ++ cl, ids ++ lent⟩, ws.1.map (·.1), ws.2.2, az', y.2 ++ (z.2 ++ ws.2.1), [(.call f y.1.1 z.1.1, a.r)]⟩
        else none
      | _ => none
  else none
end Go.Pv
end

section
/-
  A region, on the machine.
-/
namespace Go.Pv
open Go.RowKit
structure At (w0 : World) (D0 : Nat → Option Nat) (H0 : Nat → Option Ob) (F : Nat → Nat → Prop) (n0 m L : Nat) (e : Nat → PV) (H : Nat → Option Ob) (a : Act) (w : World) (D : Nat → Option Nat) : Prop where
  sim : Sim w D H F n0 m
  env : Qc3 w (Mut D H F) D a e
  size : L ≤ a.tmps.size
  out : ∀ t, L ≤ t → e t = .un
  keeps : Keeps (MutO D0 H0) w0 w
  low : ∀ id, id < m → D id = D0 id
  sub : ∀ b o, b < w0.heap.size → Mut D H F b o → Mut D0 H0 F b o
  defers : a.defers = []
section
variable {P : Program} {X : Orc} {w0 : World} {D0 : Nat → Option Nat} {H0 : Nat → Option Ob} {F : Nat → Nat → Prop} {n0 m L : Nat} {e : Nat → PV} {H : Nat → Option Ob} {a : Act} {w : World} {D : Nat → Option Nat}
theorem Q1nk {a : Act} {dst : Option Tmp} {v : Value} {t : Nat} : (a.put dst v).tmps.getD t undef = if dst = some t ∧ t < a.tmps.size then v else a.tmps.getD t undef := by
  unfold Act.put
  cases dst with
  | none => simp
  | some d =>
    simp only [Array.getD_eq_getD_getElem?, Array.getElem?_setIfInBounds]
    by_cases c : d = t
    · subst c
      by_cases c' : d < a.tmps.size
      · simp [c']
      · simp [c']
    · simp [c]
theorem Q1nl {a : Act} {dst : Option Tmp} {v : Value} : (a.put dst v).tmps.size = a.tmps.size := by
 unfold Act.put
 cases dst <;> simp
theorem put_defers {a : Act} {dst : Option Tmp} {v : Value} : (a.put dst v).defers = a.defers := by
 unfold Act.put
 cases dst <;> rfl
theorem At.step (A : At w0 D0 H0 F n0 m L e H a w D) {fr : Nat} {w' : World} {D' : Nat → Option Nat} {H' : Nat → Option Ob} (st : Step w D H F n0 m fr w' D' H') (hmf : m ≤ fr) {dst : Option Tmp} {v : Value} {p : PV} (hr : Rep w' (Mut D' H' F) D' v p) {e' : Nat → PV}
    (he : ∀ t, e' t = if dst = some t ∧ t < L then p else e t) : At w0 D0 H0 F n0 m L e' H' (a.put dst v) w' D' := by
  have hO : ∀ b o, b < w0.heap.size → MutO D H b o → MutO D0 H0 b o := by
    rintro b o hb ⟨id, ob, h1, h2, h3⟩
    rcases A.sub b o hb (.inr ⟨id, ob, h1, h2, h3⟩) with h | h
    · exact absurd h (A.sim.dis id ob b o h1 h2)
    · exact h
  refine ⟨st.sim, fun t => ?_, by rw [Q1nl]; exact A.size, fun t ht => ?_, A.keeps.trans st.keeps hO, fun id h => ?_, fun b o hb h => A.sub b o hb (st.sub b o (Nat.lt_of_lt_of_le hb A.keeps.size) h), by rw [put_defers]; exact A.defers⟩
  · rw [Q1nk, he t]
    by_cases c : dst = some t
    · by_cases c' : t < L
      · rw [if_pos ⟨c, Nat.lt_of_lt_of_le c' A.size⟩, if_pos ⟨c, c'⟩]
        exact hr
      · rw [show (if dst = some t ∧ t < L then p else e t) = .un by rw [if_neg (fun h => c' h.2)]; exact A.out t (Nat.le_of_not_lt c')]
        exact .un _ _
    · rw [if_neg (fun h => c h.1), if_neg (fun h => c h.1)]
      exact st.rep (A.env t)
  · rw [he t, if_neg (fun h => by have := h.2; omega)]
    exact A.out t ht
  · rw [← A.low id h]
    cases hd : D id with
    | none => exact st.fresh id hd (.inl (by omega))
    | some b => exact st.ext id b hd
theorem Qyp {ops : Array Oper} {tmps : Array Value} {j s : Nat} (h : (ops[j]?).bind (·.dst) = some s) : (∀ b, tmps.getD s undef = .bool b → yielded ops tmps j = some b) ∧ (∀ xs, tmps.getD s undef = .tuple xs → yielded ops tmps j = none) := by
  unfold yielded
  rw [h]
  simp only [Option.bind_some]
  constructor
  · intro b hb
    rw [Array.getD_eq_getD_getElem?] at hb
    cases ht : tmps[s]? with
    | none => rw [ht] at hb; cases hb
    | some u =>
      rw [ht] at hb
      simp only [Option.getD_some] at hb
      subst hb
      rfl
  · intro xs hx
    rw [Array.getD_eq_getD_getElem?] at hx
    cases ht : tmps[s]? with
    | none => rfl
    | some u =>
      rw [ht] at hx
      simp only [Option.getD_some] at hx
      subst hx
      rfl
theorem Qfz {ops : Array Oper} {M : Nat → Nat → Prop} (he : Qc3 w M D a e) {o : Oper} {io : IOper} (hg : Qjk ops o.guard io.guard = true) {b : Bool} (h : io.wanted e = some b) : Region.wanted o (yielded ops a.tmps) = b := by
  unfold IOper.wanted at h
  unfold Region.wanted
  cases hg1 : o.guard with
  | none =>
    rw [hg1] at hg
    cases hg2 : io.guard with
    | none => rw [hg2] at h; simpa using h
    | some g => rw [hg2] at hg; cases hg
  | some g =>
    obtain ⟨j, wt⟩ := g
    rw [hg1] at hg
    cases hg2 : io.guard with
    | none => rw [hg2] at hg; cases hg
    | some g' =>
      obtain ⟨s, wt'⟩ := g'
      rw [hg2] at hg h
      simp only [Qjk, Bool.and_eq_true] at hg
      obtain ⟨h1, h2⟩ := hg
      have h1 : wt = wt' := by simpa using h1
      subst h1
      obtain ⟨y1, y2⟩ := Qyp (tmps := a.tmps) (Q6x h2)
      have hr := he s
      simp only at h ⊢
      split at h
      · rename_i b' hb
        rw [hb] at hr
        generalize hx : a.tmps.getD s undef = x at hr
        cases hr with
        | bool _ =>
          rw [y1 b' hx]
          simpa using h
      · rename_i c hb
        rw [hb] at hr
        generalize hx : a.tmps.getD s undef = x at hr
        cases hr with
        | tup _ xs _ _ _ =>
          rw [y2 xs hx]
          simpa using h
      · cases h
theorem Qf8 (hX : Q8o P X) (A : At w0 D0 H0 F n0 m L e H a w D) {fr : Nat} (hmf : m ≤ fr) (hfr : ∀ id, fr ≤ id → id < fr + 64 → D id = none ∧ H id = none) {ops : Array Oper} {i : Nat} {o : Oper} {io : IOper} (ho : ops[i]? = some o) (hc : Qb3 P ops o io = true) {f : Eff} (h : Q8y X e H fr io = some f)
  {K : Act → World → Prop} {Q : Exit → Act → World → Prop} {e' : Nat → PV} {H' : Nat → Option Ob} (he : ∀ t, e' t = if io.dst = some t ∧ t < L then f.v else e t) (hH : upH H f.hw = H')
  (hK : ∀ a' w' D', At w0 D0 H0 F n0 m L e' H' a' w' D' → (∀ id, D id = none → (id < fr ∨ fr + 64 ≤ id) → D' id = none) → K a' w') : wpOp P ops Q i K a w := by
 subst hH
 unfold Qb3 at hc
 rw [Bool.and_eq_true, Bool.and_eq_true] at hc
 obtain ⟨⟨hd, hg⟩, hop⟩ := hc
 have hd := Qea hd
 unfold Q8y at h
 obtain ⟨b, hb, h⟩ := bind_some h
 have hw := Qfz A.env hg hb
 unfold wpOp
 simp only [ho]
 rw [hw]
 cases b with
 | true =>
  simp only [cond_true] at h
  rw [if_pos rfl]
  refine .inl (Q1i5 hX A.sim hfr A.env hop h fun v w' D' st hr => hK _ _ D' (A.step st hmf hr (fun t => ?_)) st.fresh)
  rw [hd]; exact he t
 | false =>
  simp only [cond_false, Option.some.injEq] at h
  subst h
  rw [if_neg (by simp)]
  refine hK _ _ D (A.step (fr := fr) (Step.same A.sim rfl rfl rfl rfl) hmf (p := .tup []) (.tup _ #[] [] rfl (fun i v p hv => by simp at hv)) (fun t => ?_)) (fun id h _ => h)
  rw [hd]; exact he t
theorem Q19f {ws : List (Nat × Option Ob)} {fr id : Nat} (h : ∀ y ∈ ws, (∃ ob, H y.1 = some ob) ∨ (fr ≤ y.1 ∧ y.1 < fr + 64)) (h1 : H id = none) (h2 : ¬ (fr ≤ id ∧ id < fr + 64)) : upH H ws id = none := by
  rw [Q8b (fun y hy e => ?_)]
  · exact h1
  · subst e
    rcases h y hy with ⟨ob, hob⟩ | h'
    · rw [h1] at hob; cases hob
    · exact h2 h'
theorem Qoe (hX : Q8o P X) {nx : Nat} (hmn : m ≤ nx) {ops : Array Oper} {Q : Exit → Act → World → Prop} : ∀ (r : List IOper) (i : Nat) (env : List PV) (h : List (Nat × Ob)) (y : List PV × List (Nat × Ob) × List Eff) (a : Act) (w : World) (D : Nat → Option Nat),
  Q6w X nx i r env h = some y → (∀ j o io, ops[i + j]? = some o → r[j]? = some io → Qb3 P ops o io = true) → i + r.length = ops.size → At w0 D0 H0 F n0 m env.length (envF env) (look h) a w D → (∀ id, nx + 64 * i ≤ id → D id = none ∧ look h id = none) →
   (∀ a' w' D', At w0 D0 H0 F n0 m y.1.length (envF y.1) (look y.2.1) a' w' D' → (∀ id, nx + 64 * ops.size ≤ id → D' id = none ∧ look y.2.1 id = none) → Q .normal a' w') → wpOps P ops Q (List.range' i r.length) a w
 | [], i, env, h, y, a, w, D, hy, hc, hn, A, hf, hQ => by
  simp only [Q6w, Option.some.injEq] at hy
  subst hy
  simp only [List.length_nil, Nat.add_zero] at hn
  subst hn
  exact hQ a w D A hf
 | o :: r, i, env, h, y, a, w, D, hy, hc, hn, A, hf, hQ => by
  simp only [Q6w] at hy
  obtain ⟨x, hst, hy⟩ := bind_some hy
  obtain ⟨z, hz, hy⟩ := bind_some hy
  injection hy with hy
  subst hy
  have hlt : i < ops.size := by rw [← hn]; simp
  have hoi : ops[i]? = some ops[i] := Array.getElem?_eq_getElem hlt
  rw [List.length_cons, List.range'_succ, wpOps_cons]
  refine Qf8 hX A (fr := nx + 64 * i) (by omega) (fun id h1 _ => hf id h1) hoi (hc 0 _ o hoi rfl) hst (e' := envF (put env o.dst x.v)) (H' := look (hput h x.hw)) (fun t => Q171) (Q84 _ _).symm (fun a' w' D' A' hfr' => ?_)
  have hput : (put env o.dst x.v).length = env.length := Qus
  refine Qoe hX hmn r (i + 1) _ _ z a' w' D' hz (fun j o' io h1 h2 => hc (j + 1) o' io (by rw [show i + (j + 1) = i + 1 + j by omega]; exact h1) (by simpa using h2)) (by rw [← hn]; simp; omega) (by rw [hput]; exact A') (fun id hid => ?_) hQ
  have := hf id (by omega)
  exact ⟨hfr' id this.1 (by omega), by rw [Q84]; exact Q19f (Q17x hst) this.2 (by omega)⟩
def Done (listed : Array Bool) (j : Nat) : Prop := listed.getD j false = true
theorem Q13x {listed : Array Bool} {j : Nat} (h : Done listed j) : j < listed.size := by
  unfold Done at h
  rcases Nat.lt_or_ge j listed.size with c | c
  · exact c
  · rw [Array.getD_eq_getD_getElem?, Array.getElem?_eq_none c] at h
    cases h
theorem Q1lz {listed : Array Bool} {i k : Nat} (hi : i < listed.size) : Done (listed.setIfInBounds i true) k ↔ Done listed k ∨ k = i := by
  unfold Done
  rw [Array.getD_eq_getD_getElem?, Array.getD_eq_getD_getElem?, Array.getElem?_setIfInBounds]
  by_cases c : i = k
  · subst c
    simp [hi]
  · rw [if_neg c]
    constructor
    · exact fun h => .inl h
    · rintro (h | h)
      · exact h
      · exact absurd h.symm c
theorem Qxy {listed : Array Bool} {i : Nat} (hi : i < listed.size) : listed.getD i true = false ↔ ¬ Done listed i := by
 unfold Done
 rw [Array.getD_eq_getD_getElem?, Array.getD_eq_getD_getElem?, Array.getElem?_eq_getElem hi]
 simp
def todo (listed : Array Bool) : Nat := listed.toList.countP (fun b => !b)
theorem Q19d {listed : Array Bool} {i : Nat} (hi : i < listed.size) (h : ¬ Done listed i) : todo listed = todo (listed.setIfInBounds i true) + 1 := by
 unfold todo
 have hb : listed[i] = false := by
  unfold Done at h
  rw [Array.getD_eq_getD_getElem?, Array.getElem?_eq_getElem hi] at h
  simpa using h
 rw [Array.toList_setIfInBounds]
 have hl : i < listed.toList.length := by simpa using hi
 have hb' : listed.toList[i] = false := by simpa using hb
 have key : ∀ (l : List Bool) (i : Nat) (hl : i < l.length), l[i] = false → l.countP (fun b => !b) = (l.set i true).countP (fun b => !b) + 1 := by
  intro l
  induction l with
  | nil => intro i hl; simp at hl
  | cons x r ih =>
   intro i hl hx
   cases i with
   | zero =>
    simp at hx
    subst hx
    simp
   | succ i =>
    have := ih i (by simpa using hl) (by simpa using hx)
    cases x <;> simp [this]
 exact key _ i hl hb'
theorem Q1o4 {listed : Array Bool} (h : todo listed ≠ 0) : ∃ i, i < listed.size ∧ ¬ Done listed i := by
 unfold todo at h
 have : 0 < listed.toList.countP (fun b => !b) := Nat.pos_of_ne_zero h
 obtain ⟨b, hb, h2⟩ := List.countP_pos_iff.1 this
 obtain ⟨i, hi⟩ := List.getElem?_of_mem hb
 have hl : i < listed.size := by have := (List.getElem?_eq_some_iff.1 hi).1; simpa using this
 refine ⟨i, hl, fun hd => ?_⟩
 unfold Done at hd
 rw [Array.getD_eq_getD_getElem?, ← Array.getElem?_toList, hi] at hd
 simp only [Option.getD_some] at hd
 subst hd
 cases h2
theorem Q1a1 (hX : Q8o P X) {nx : Nat} (hmn : m ≤ nx) {ops : Array Oper} {ios : List IOper} {xs : List Eff} {Q : Exit → Act → World → Prop} {e0 : Nat → PV} {Hs : Nat → Option Ob} {ef : Nat → PV} {Hf : Nat → Option Ob}
    (hlen : ios.length = ops.size) (hxl : xs.length = ops.size) (hc : ∀ (j : Nat) o io, ops[j]? = some o → ios[j]? = some io → Qb3 P ops o io = true) (hb : Q110 ios 0 ops.toList ios = true) (hcalm : calm (ios.zip xs) 0 (ios.zip xs) = true)
    (hst : ∀ (j : Nat) o x, ios[j]? = some o → xs[j]? = some x → ∃ e H, Last (WE L ios xs) e0 (· < j) e ∧ Last (WH xs) Hs (· < j) H ∧ Q8y X e H (nx + 64 * j) o = some x)
    (hef : Last (WE L ios xs) e0 (· < ops.size) ef) (hHf : Last (WH xs) Hs (· < ops.size) Hf)
    (hQ : ∀ a' w' D', At w0 D0 H0 F n0 m L ef Hf a' w' D' → (∀ id, nx + 64 * ops.size ≤ id → D' id = none ∧ Hf id = none) → Q .normal a' w') :
    ∀ (fuel : Nat) (listed : Array Bool) (a : Act) (w : World) (e : Nat → PV) (H : Nat → Option Ob) (D : Nat → Option Nat), listed.size = ops.size → todo listed = fuel → (∀ j io, ios[j]? = some io → Done listed j → ∀ i ∈ io.bef, Done listed i) →
      Last (WE L ios xs) e0 (Done listed) e → Last (WH xs) Hs (Done listed) H → At w0 D0 H0 F n0 m L e H a w D → (∀ id, nx ≤ id → (∀ j, Done listed j → ¬ (nx + 64 * j ≤ id ∧ id < nx + 64 * j + 64)) → D id = none ∧ H id = none) →
        wpAny P .any ops Q fuel listed a w := by
  have noclash : ∀ (i k : Nat) oi xi ok xk, i < k → ios[i]? = some oi → xs[i]? = some xi → ios[k]? = some ok → xs[k]? = some xk → i ∈ ok.bef ∨ clash oi xi ok xk = false := by
    intro i k oi xi ok xk hlt h1 h2 h3 h4
    exact Q10z hcalm (fun k => by simp) i k oi xi ok xk (Nat.zero_le _) hlt (by rw [List.getElem?_zip_eq_some]; exact ⟨h1, h2⟩) (by rw [List.getElem?_zip_eq_some]; exact ⟨h3, h4⟩)
  have bef := Qnk hb
  intro fuel
  -- all done
  have fin_ : ∀ (listed : Array Bool) (a : Act) (w : World) (e : Nat → PV) (H : Nat → Option Ob) (D : Nat → Option Nat), listed.size = ops.size → (∀ j, j < ops.size → Done listed j) → Last (WE L ios xs) e0 (Done listed) e → Last (WH xs) Hs (Done listed) H → At w0 D0 H0 F n0 m L e H a w D →
      (∀ id, nx ≤ id → (∀ j, Done listed j → ¬ (nx + 64 * j ≤ id ∧ id < nx + 64 * j + 64)) → D id = none ∧ H id = none) → Q .normal a w := by
    intro listed a w e H D hsz hall l1 l2 A hf
    have e1 : e = ef := funext fun t => l1.det hef (fun k _ => ⟨fun h => by have := Q13x h; omega, fun h => hall k h⟩)
    have e2 : H = Hf := funext fun t => l2.det hHf (fun k _ => ⟨fun h => by have := Q13x h; omega, fun h => hall k h⟩)
    subst e1 e2
    exact hQ a w D A (fun id hid => hf id (by omega) (fun j hj => by have := Q13x hj; omega))
  induction fuel with
  | zero =>
    intro listed a w e H D hsz ht hcl l1 l2 A hf
    have hall : ∀ j, j < ops.size → Done listed j := by
      intro j hj
      by_cases c : Done listed j
      · exact c
      · have := Q19d (by omega) c
        omega
    refine ⟨?_, fin_ listed a w e H D hsz hall l1 l2 A hf⟩
    cases hr : Region.ready .any ops listed with
    | nil => rfl
    | cons i r =>
      have hi : i ∈ Region.ready .any ops listed := by rw [hr]; exact List.mem_cons_self
      obtain ⟨g1, o, g2, _⟩ := mem_ready.1 hi
      have hlt : i < ops.size := (Array.getElem?_eq_some_iff.1 g2).1
      exact absurd (hall i hlt) ((Qxy (by omega)).1 g1)
  | succ fuel ih =>
    intro listed a w e H D hsz ht hcl l1 l2 A hf
    refine ⟨fun hr => ?_, fun i hi => ?_⟩
    · -- some operation is ready
      exfalso
      obtain ⟨i, hi, hnd⟩ := Q1o4 (listed := listed) (by omega)
      have key : ∀ (n i : Nat), i < n → i < listed.size → ¬ Done listed i → False := by
        intro n
        induction n with
        | zero => intro i h; omega
        | succ n ihn =>
          intro i hin hi hnd
          by_cases c : ∃ j, j < i ∧ ¬ Done listed j
          · obtain ⟨j, hj, hjn⟩ := c
            exact ihn j (by omega) (by omega) hjn
          · have hilt : i < ops.size := by omega
            have : i ∈ Region.ready .any ops listed := by
              rw [mem_ready]
              refine ⟨(Qxy hi).2 hnd, ops[i], Array.getElem?_eq_getElem hilt, fun ed hed hbd => ?_⟩
              have hlt := (bef i ops[i] (ios[i]'(by omega)) (by simp [hilt]) (List.getElem?_eq_getElem (by omega))).2 ed hed hbd
              by_cases c' : Done listed ed.on
              · exact c'
              · exact absurd ⟨ed.on, by omega, c'⟩ c
            rw [hr] at this
            cases this
      exact key (i + 1) i (by omega) hi hnd
    · obtain ⟨g1, o, g2, g3⟩ := mem_ready.1 hi
      have hlt : i < ops.size := (Array.getElem?_eq_some_iff.1 g2).1
      have hnd : ¬ Done listed i := (Qxy (by omega)).1 g1
      have hio : ios[i]? = some (ios[i]'(by omega)) := List.getElem?_eq_getElem (by omega)
      have hxi : xs[i]? = some (xs[i]'(by omega)) := List.getElem?_eq_getElem (by omega)
      generalize ios[i]'(by omega) = io at hio
      generalize xs[i]'(by omega) = x at hxi
      obtain ⟨et, Ht, t1, t2, t3⟩ := hst i io x hio hxi
      -- i's own predecessors are done
      have hbi : ∀ k ∈ io.bef, Done listed k := by
        intro k hk
        obtain ⟨ed, hed, hbd, h⟩ := (bef i o io (by simpa using g2) hio).1 k hk
        have hd : Done listed ed.on := g3 ed hed hbd
        rcases h with rfl | h
        · exact hd
        · unfold Q1re at h
          split at h
          · rename_i io' hio'
            exact hcl ed.on io' hio' hd k h
          · cases h
      -- who meddles with i, and is done, stands ahead of it in the text; and the other way round
      have later : ∀ k ok xk, i < k → ios[k]? = some ok → xs[k]? = some xk → Done listed k → clash io x ok xk = false := by
        intro k ok xk hik h1 h2 h3
        rcases noclash i k io x ok xk hik hio hxi h1 h2 with h | h
        · exact absurd (hcl k ok h1 h3 i h) hnd
        · exact h
      have ahead : ∀ k ok xk, k < i → ios[k]? = some ok → xs[k]? = some xk → Done listed k ∨ clash ok xk io x = false := by
        intro k ok xk hik h1 h2
        rcases noclash k i ok xk io x hik h1 h2 hio hxi with h | h
        · exact .inl (hbi k h)
        · exact .inr h
      -- what i looks at is what it looked at in the text's order
      have see1 : ∀ t ∈ io.looks, e t = et t := by
        intro t ht
        refine l1.det t1 (fun k hk => ?_)
        obtain ⟨ok, xk, h1, h2, h3, _⟩ := Q1wo hk
        constructor
        · intro hdk
          rcases Nat.lt_trichotomy k i with c | c | c
          · exact c
          · subst c; exact absurd hdk hnd
          · exact absurd ht ((Q7x (later k ok xk c h1 h2 hdk)).2.1 t h3)
        · intro hki
          rcases ahead k ok xk hki h1 h2 with h | h
          · exact h
          · exact absurd ht ((Q7x h).1 t h3)
      have see2 : ∀ id ∈ x.hr, H id = Ht id := by
        intro id hid
        refine l2.det t2 (fun k hk => ?_)
        obtain ⟨xk, h2, h3⟩ := Q1wp hk
        have hkl : k < ios.length := by have := (List.getElem?_eq_some_iff.1 h2).1; omega
        have h1 : ios[k]? = some ios[k] := List.getElem?_eq_getElem hkl
        constructor
        · intro hdk
          rcases Nat.lt_trichotomy k i with c | c | c
          · exact c
          · subst c; exact absurd hdk hnd
          · exact absurd hid ((Q7x (later k _ xk c h1 h2 hdk)).2.2.2.2 id h3)
        · intro hki
          rcases ahead k _ xk hki h1 h2 with h | h
          · exact h
          · exact absurd hid ((Q7x h).2.2.2.1 id h3).1
      have run := Q148 t3 see1 see2
      -- the new state
      have hdone := fun k => Q1lz (k := k) (show i < listed.size by omega)
      have n1 : Last (WE L ios xs) e0 (Done (listed.setIfInBounds i true)) (fun t => (WE L ios xs i t).getD (e t)) := l1.add hdone (fun k t hk hik hne => by
        obtain ⟨ok, xk, h1, h2, h3, _⟩ := Q1wo hne
        exact Q1rc hio (fun hd => (Q7x (later k ok xk hik h1 h2 hk)).2.2.1 t hd h3)) (fun t => rfl)
      have n2 : Last (WH xs) Hs (Done (listed.setIfInBounds i true)) (upH H x.hw) := l2.add hdone (fun k id hk hik hne => by
        obtain ⟨xk, h2, h3⟩ := Q1wp hne
        have hkl : k < ios.length := by have := (List.getElem?_eq_some_iff.1 h2).1; omega
        have h1 : ios[k]? = some ios[k] := List.getElem?_eq_getElem hkl
        exact Q1rd hxi (fun hi' => ((Q7x (later k _ xk hik h1 h2 hk)).2.2.2.1 id hi').2 h3)) (fun t => (Q1h9 hxi H).symm)
      have hfree : ∀ id, nx + 64 * i ≤ id → id < nx + 64 * i + 64 → D id = none ∧ H id = none := fun id h1 h2 => hf id (by omega) (fun j hj hc' => by
        have : j = i := by omega
        subst this
        exact hnd hj)
      refine Qf8 hX A (fr := nx + 64 * i) (by omega) hfree g2 (hc i o io g2 hio) run (e' := fun t => (WE L ios xs i t).getD (e t)) (H' := upH H x.hw) (fun t => Q1h8 hio hxi (e t)) rfl (fun a' w' D' A' hfr' => ?_)
      refine ih (listed.setIfInBounds i true) a' w' _ _ D' (by simpa using hsz) (by have := Q19d (show i < listed.size by omega) hnd; omega) (fun j io' hj hdj k hk => ?_) n1 n2 A' (fun id hid hno => ?_)
      · rw [hdone]
        rcases (hdone j).1 hdj with h | rfl
        · exact .inl (hcl j io' hj h k hk)
        · rw [hio] at hj
          injection hj with hj
          subst hj
          exact .inl (hbi k hk)
      · have h1 := hf id hid (fun j hj => hno j ((hdone j).2 (.inl hj)))
        have h2 := hno i ((hdone i).2 (.inr rfl))
        exact ⟨hfr' id h1.1 (by omega), Q19f (Q17x run) h1.2 h2⟩
def Q1hi (P : Program) (ops : Array Oper) (ios : List IOper) (draw : Bool) : Bool := Qjl P ops ops.toList ios && (!draw || Q110 ios 0 ops.toList ios)
theorem Q133 (hm : P.follows .mixedOrders = true) (hX : Q8o P X) {id : Nat} {ops : Array Oper} {ios : List IOper} {draw : Bool} (hc : Q1hi P ops ios draw = true) {s s' : St} (h : ireg X ios draw s = some s') {Q : Exit → Act → World → Prop}
  (A : At w0 D0 H0 F n0 m s.env.length (envF s.env) (look s.heap) a w D) (hf : ∀ id, s.nx ≤ id → D id = none ∧ look s.heap id = none) (hmn : m ≤ s.nx)
  (hQ : ∀ a' w' D', At w0 D0 H0 F n0 m s'.env.length (envF s'.env) (look s'.heap) a' w' D' → (∀ id, s'.nx ≤ id → D' id = none ∧ look s'.heap id = none) → Q .normal a' w') : (Code.region id ops draw).wp P Q a w := by
 unfold Q1hi at hc
 rw [Bool.and_eq_true] at hc
 obtain ⟨hc1, hc2⟩ := hc
 obtain ⟨hl, hch⟩ := Qdq hc1
 have hl : ios.length = ops.size := by simpa using hl.symm
 have hch' : ∀ j o io, ops[j]? = some o → ios[j]? = some io → Qb3 P ops o io = true := fun j o io h1 h2 => hch j o io (by simpa using h1) h2
 unfold ireg at h
 obtain ⟨y, hy, h⟩ := bind_some h
 cases hcm : (!draw || calm (ios.zip y.2.2) 0 (ios.zip y.2.2)) with
 | false => rw [hcm] at h; cases h
 | true =>
  rw [hcm] at h
  simp only [cond_true, Option.some.injEq] at h
  subst h
  simp only at hQ
  rw [hl] at hQ
  cases draw with
  | false =>
   refine wp_region ?_
   have := Qoe hX hmn ios 0 s.env s.heap y a w D hy (fun j o io h1 h2 => hch' j o io (by simpa using h1) h2) (by omega) A (fun id h => hf id (by omega)) hQ
   rw [List.range_eq_range', ← hl]
   exact this
  | true =>
   refine wp_region_any hm ?_
   obtain ⟨g1, g2, g3, g4, g5⟩ := Qfs (ios := ios) (xs := y.2.2) (L := s.env.length) (e0 := envF s.env) (H0 := look s.heap) ios 0 s.env s.heap y hy (fun j => by simp) (fun j => by simp) rfl (Last.none (fun k => by omega)) (Last.none (fun k => by omega))
   rw [g2] at hQ
   rw [Nat.zero_add, hl] at g4 g5
   have hnone : ∀ j, ¬ Done (Array.replicate ops.size false) j := by
    intro j hj
    unfold Done at hj
    rw [Array.getD_eq_getD_getElem?, Array.getElem?_replicate] at hj
    split at hj <;> cases hj
   have htodo : todo (Array.replicate ops.size false) = ops.size := by
    unfold todo
    simp [List.countP_replicate]
   have A' : At w0 D0 H0 F n0 m s.env.length (envF s.env) (look s.heap) a { w with drawn := w.drawn + 1 } D := by
    have st : Step w D (look s.heap) F n0 m m { w with drawn := w.drawn + 1 } D (look s.heap) := Step.same A.sim rfl rfl rfl rfl
    have := A.step st (Nat.le_refl _) (dst := none) (v := undef) (p := .un) (.un _ _) (e' := envF s.env) (fun t => by simp)
    exact this
   exact Q1a1 hX hmn hl (by omega) hch' (by simpa using hc2) (by simpa using hcm) (fun j o x h1 h2 => g3 j o x (Nat.zero_le _) h1 h2) g4 g5 hQ ops.size (Array.replicate ops.size false) a _ (envF s.env) (look s.heap) D (by simp) htodo
    (fun j io _ hd => absurd hd (hnone j)) (Last.none hnone) (Last.none hnone) A' (fun id hid _ => hf id hid)
end
end Go.Pv
end

section
/-
  Tidying up at a loop's head; a function's end.
-/
namespace Go.Pv
open Go.RowKit
def Like (p q : PV) : Prop := ∀ w M D v, Rep w M D v p → Rep w M D v q
theorem Like.refl (p : PV) : Like p p := fun _ _ _ _ h => h
theorem Like.ns {sz k : Nat} : Like (.ns sz) (.ms k sz 0 0) := fun w M D v h => by
 cases h with
 | ns _ A _ => exact .ms _ A 0 0 k sz 0 (Nat.le_refl _) (Nat.zero_le _) (.inl ⟨rfl, rfl⟩)
def Qas (l l' : List PV) : Prop := l'.length = l.length ∧ ∀ (k : Nat) p q, l[k]? = some p → l'[k]? = some q → Like p q
theorem Qas.nil : Qas [] [] := ⟨rfl, fun k p q h => by simp at h⟩
theorem Qas.cons {p q : PV} {l l' : List PV} (h : Like p q) (hl : Qas l l') : Qas (p :: l) (q :: l') := by
 refine ⟨by simp [hl.1], fun k p' q' h1 h2 => ?_⟩
 cases k with
 | zero =>
  simp at h1 h2
  subst h1 h2
  exact h
 | succ k => exact hl.2 k p' q' (by simpa using h1) (by simpa using h2)
theorem Qas.refl : ∀ l : List PV, Qas l l
 | [] => .nil
 | p :: r => .cons (Like.refl p) (Qas.refl r)
def Bare (nx : Nat) (l : List (Nat × Ob)) : Prop := ∀ x ∈ l, nx ≤ x.1 ∧ x.2.cells = [] ∧ x.2.ro = 0
theorem Bare.mono {nx nx' : Nat} {l : List (Nat × Ob)} (h : Bare nx' l) (hn : nx ≤ nx') : Bare nx l := fun x hx => ⟨Nat.le_trans hn (h x hx).1, (h x hx).2⟩
theorem Q76 : ∀ (l : List PV) (nx : Nat), Qas l (Q5h nx l).1 ∧ nx ≤ (Q5h nx l).2.1 ∧ Bare nx (Q5h nx l).2.2
  | [], nx => ⟨.nil, Nat.le_refl _, fun x hx => absurd hx List.not_mem_nil⟩
  | p :: r, nx => by
    have plain : Qas (p :: r) (p :: (Q5h nx r).1) ∧ nx ≤ (Q5h nx r).2.1 ∧ Bare nx (Q5h nx r).2.2 :=
      ⟨.cons (Like.refl p) (Q76 r nx).1, (Q76 r nx).2⟩
    cases p with
    | ns sz =>
      obtain ⟨h1, h2, h3⟩ := Q76 r (nx + 1)
      refine ⟨.cons Like.ns h1, by simp only [Q5h]; omega, fun x hx => ?_⟩
      simp only [Q5h] at hx
      rcases List.mem_cons.1 hx with rfl | hx
      · exact ⟨Nat.le_refl _, rfl, rfl⟩
      · exact (h3.mono (by omega)) x hx
    | _ => exact plain
def VOb (ob ob' : Ob) : Prop := ob'.ro = ob.ro ∧ ob'.gr = ob.gr ∧ Qas ob.cells ob'.cells
theorem Quz : ∀ (h : List (Nat × Ob)) (nx : Nat), nx ≤ (Qfl nx h).2.1 ∧ Bare nx (Qfl nx h).2.2 ∧ (∀ id ob', look (Qfl nx h).1 id = some ob' → ∃ ob, look h id = some ob ∧ VOb ob ob')
  | [], nx => ⟨Nat.le_refl _, fun x hx => absurd hx List.not_mem_nil, fun id ob' h => by simp [Qfl, look] at h⟩
  | (k, ob) :: r, nx => by
    obtain ⟨h1, h2, h3⟩ := Q76 ob.cells nx
    obtain ⟨g1, g2, g3⟩ := Quz r (Q5h nx ob.cells).2.1
    refine ⟨by simp only [Qfl]; omega, fun x hx => ?_, fun id ob' hl => ?_⟩
    · simp only [Qfl] at hx
      rcases List.mem_append.1 hx with hx | hx
      · exact h3 x hx
      · exact (g2.mono h2) x hx
    · simp only [Qfl, look] at hl ⊢
      cases hb : Nat.beq k id with
      | true =>
        rw [hb] at hl
        simp only [cond_true, Option.some.injEq] at hl
        subst hl
        exact ⟨ob, rfl, rfl, rfl, h1⟩
      | false =>
        rw [hb] at hl
        simp only [cond_false] at hl ⊢
        exact g3 id ob' hl
theorem Qo5 {l l' : List (Nat × Ob)} {id : Nat} {ob : Ob} (h : look (l ++ l') id = some ob) : look l id = some ob ∨ look l' id = some ob := by
 induction l with
 | nil => exact .inr h
 | cons x r ih =>
  obtain ⟨k, o⟩ := x
  simp only [List.cons_append, look] at h ⊢
  cases hb : Nat.beq k id with
  | true => rw [hb] at h; exact .inl h
  | false => rw [hb] at h; exact ih h
theorem Q189 {l : List (Nat × Ob)} {id : Nat} {ob : Ob} (h : look l id = some ob) : (id, ob) ∈ l := by
  induction l with
  | nil => simp [look] at h
  | cons x r ih =>
    obtain ⟨k, o⟩ := x
    simp only [look] at h
    by_cases c : k = id
    · subst c
      simp at h
      subst h
      exact List.mem_cons_self
    · have : Nat.beq k id = false := by rw [Bool.eq_false_iff]; exact fun h => c (Nat.eq_of_beq_eq_true h)
      rw [this] at h
      exact List.mem_cons_of_mem _ (ih h)
theorem Qo6 : ∀ (l : List Ob) (i j : Nat), look (number i l) (i + j) = l[j]?
 | [], i, j => by simp [number, look]
 | o :: r, i, j => by
  simp only [number, look]
  cases j with
  | zero => simp
  | succ j =>
   have : Nat.beq i (i + (j + 1)) = false := by rw [Bool.eq_false_iff]; exact fun h => by have := Nat.eq_of_beq_eq_true h; omega
   rw [this]
   have := Qo6 r (i + 1) j
   rw [show i + 1 + j = i + (j + 1) by omega] at this
   simpa using this
theorem Q8j (l : List Ob) : look (number 0 l) = hF l := funext fun j => by
 have := Qo6 l 0 j
 rw [Nat.zero_add] at this
 exact this
theorem Qbd : ∀ m : Nat, (upTo m).length = m ∧ ∀ p, p < m → (upTo m)[p]? = some p
  | 0 => ⟨rfl, fun p h => by omega⟩
  | m + 1 => by
    obtain ⟨h1, h2⟩ := Qbd m
    refine ⟨by simp [upTo, h1], fun p hp => ?_⟩
    simp only [upTo]
    by_cases c : p < m
    · rw [List.getElem?_append_left (by omega)]
      exact h2 p c
    · have : p = m := by omega
      subst this
      rw [List.getElem?_append_right (by omega), h1]
      simp
theorem Q1d9 (m : Nat) : (upTo m).Nodup := by
 induction m with
 | zero => exact List.nodup_nil
 | succ m ih =>
  simp only [upTo]
  rw [List.nodup_append]
  refine ⟨ih, by simp, fun a ha b hb => ?_⟩
  simp at hb
  subst hb
  obtain ⟨i, hi⟩ := List.getElem?_of_mem ha
  have hl := (List.getElem?_eq_some_iff.1 hi).1
  rw [(Qbd b).1] at hl
  rw [(Qbd b).2 i hl] at hi
  injection hi with hi
  omega
section
variable {P : Program} {X : Orc} {w0 : World} {D0 : Nat → Option Nat} {H0 : Nat → Option Ob} {F : Nat → Nat → Prop} {n0 m L : Nat} {e : Nat → PV} {H : Nat → Option Ob} {a : Act} {w : World} {D : Nat → Option Nat}
theorem Qyn (S : Sim w D H F n0 m) {Hv : Nat → Option Ob} (hv : ∀ id ob', Hv id = some ob' → (∃ ob, H id = some ob ∧ VOb ob ob') ∨ (ob'.cells = [] ∧ ob'.ro = 0 ∧ D id = none)) :
    (∀ b o, Mut D Hv F b o → Mut D H F b o) ∧ (∀ b o, MutO D Hv b o → MutO D H b o) ∧ Sim w D Hv F n0 m := by
  have hO : ∀ b o, MutO D Hv b o → MutO D H b o := by
    rintro b o ⟨id, ob', h1, h2, h3⟩
    rcases hv id ob' h1 with ⟨ob, g1, g2, _⟩ | ⟨_, _, g⟩
    · exact ⟨id, ob, g1, h2, by omega⟩
    · rw [h2] at g; cases g
  have hM : ∀ b o, Mut D Hv F b o → Mut D H F b o := fun b o h => h.imp (fun h => h) (hO b o)
  refine ⟨hM, hO, S.fr, S.le, S.own, fun id ob' h => ?_, fun i j x y k hi hj di dj => ?_, fun id ob' b o h hd => ?_⟩
  · rcases hv id ob' h with ⟨ob, g1, g2, g3, g4⟩ | ⟨g1, g2, g3⟩
    · obtain ⟨q1, q2⟩ := S.ok id ob g1
      refine ⟨by rw [g4.1]; omega, ?_⟩
      rcases q2 with ⟨e1, e2⟩ | ⟨b, carr, t, e1, e2, e3, e4, e5⟩
      · exact .inl ⟨List.eq_nil_of_length_eq_zero (by rw [g4.1, e1]; rfl), e2⟩
      · refine .inr ⟨b, carr, t, e1, e2, by rw [g4.1]; exact e3, fun hg => e4 (by rw [← g3]; exact hg), fun k q hq => ?_⟩
        have hlt : k < ob.cells.length := by rw [← g4.1]; exact (List.getElem?_eq_some_iff.1 hq).1
        obtain ⟨v, r1, r2, r3⟩ := e5 k _ (List.getElem?_eq_getElem hlt)
        exact ⟨v, r1, r2, g4.2 k _ q (List.getElem?_eq_getElem hlt) hq _ _ _ _ (r3.to (fun b o _ h => hM b o h) (fun _ _ h => h))⟩
    · exact ⟨by omega, .inl ⟨g1, g3⟩⟩
  · rcases hv i x hi with ⟨ob, g1, _⟩ | ⟨_, _, g⟩
    · rcases hv j y hj with ⟨ob', f1, _⟩ | ⟨_, _, f⟩
      · exact S.inj i j ob ob' k g1 f1 di dj
      · rw [dj] at f; cases f
    · rw [di] at g; cases g
  · rcases hv id ob' h with ⟨ob, g1, _⟩ | ⟨_, _, g⟩
    · exact S.dis id ob b o g1 hd
    · rw [hd] at g; cases g
theorem renumber (S : Sim w D H F n0 m) (byRef byRefO : Bool) {vs : List PV} {y : List PV × List Nat × List Nat} {z : List Ob × List Nat × List Nat} {n : Nat} (hy : Q5y (pass H byRef 8) vs (upTo m) = some y) (hz : Q3s H byRefO true n 0 y.2.1 = some z) (hdj : ∀ x ∈ y.2.2 ++ z.2.2, x ∉ z.2.1) :
    ∃ D', Sim w D' (hF z.1) F n0 m ∧ (∀ id, id < m → D' id = D id) ∧ (∀ id, z.1.length ≤ id → D' id = none) ∧ (∀ b o, Mut D' (hF z.1) F b o → Mut D H F b o) ∧ m ≤ z.1.length ∧ y.1.length = vs.length ∧
      ∀ (i : Nat) v p q, vs[i]? = some p → y.1[i]? = some q → Rep w (Mut D H F) D v p → Rep w (Mut D' (hF z.1) F) D' v q := by
  have hy0 := Q4g (M := Mut D H F) (fun p ids x hx => Q9e S (fun _ _ _ h => h) byRef 8 p ids x hx) vs (upTo m) y hy
  have hz0 := Q4e (M := Mut D H F) S (fun _ _ _ h => h) byRefO true n 0 y.2.1 z (Nat.zero_le _) hz
  have hnd0 := hy0.2.1 (Q1d9 m)
  have hnd := hz0.2.1 hnd0
  have hpre : upTo m <+: z.2.1 := hy0.1.trans hz0.1
  have hlow : ∀ p, p < m → z.2.1[p]? = some p := fun p hp => Q80 hpre ((Qbd m).2 p hp)
  have hlen : z.1.length = z.2.1.length := by have := hz0.2.2.1; omega
  obtain ⟨h1, h2, h3⟩ := Q17s S byRefO true hz hnd0 (lent := y.2.2 ++ z.2.2) (fun x hx => List.mem_append_right _ hx) (F' := F) (fun b o h => .inl h) (fun id _ ob b o h1 h2 _ hF => S.dis id ob b o h1 h2 hF) hdj (n' := n0) (m' := m) S.fr S.le
    (fun p b hp => by
      unfold Dof at hp
      cases hq : z.2.1[p]? with
      | none => rw [hq] at hp; cases hp
      | some id =>
        rw [hq] at hp
        rcases S.own id b hp with h | h
        · have := (List.getElem?_inj (List.getElem?_eq_some_iff.1 hq).1 hnd).1 (hq.trans (hlow id h).symm)
          exact .inl (by omega)
        · exact .inr h)
    (fun id ob b o _ h1 h2 => S.dis id ob b o h1 h2)
    (fun id ob b hob hg hd => by
      rcases (S.ok id ob hob).2 with ⟨_, e2⟩ | ⟨b', carr, t, e1, _, _, e4, _⟩
      · rw [hd] at e2; cases e2
      · rw [hd] at e1
        injection e1 with e1
        subst e1
        exact e4 (by simpa using hg))
  refine ⟨Dof D z.2.1, h3, fun id hid => by unfold Dof; rw [hlow id hid]; rfl, fun id hid => by unfold Dof; rw [List.getElem?_eq_none (by omega)]; rfl, h1, by have := hpre.length_le; rw [(Qbd m).1] at this; omega, hy0.2.2.1, fun i v p q hp hq hr => ?_⟩
  obtain ⟨_, _, _, c4⟩ := Q4g (fun p ids x hx => Q9e S (M := Mut (Dof D z.2.1) (hF z.1) F) (fun b o _ h => h1 b o h) byRef 8 p ids x hx) vs (upTo m) y hy
  exact c4 z.2.1 hz0.1 (fun id hi => h2 id (List.mem_append_left _ hi)) i v p q hp hq hr
theorem Q12v (live : List Nat) : ∀ (l : List PV) (i : Nat), (mask live i l).length = l.length ∧ ∀ (k : Nat) q, (mask live i l)[k]? = some q → q = .un ∨ l[k]? = some q
 | [], i => ⟨rfl, fun k q h => by simp [mask] at h⟩
 | p :: r, i => by
  obtain ⟨h1, h2⟩ := Q12v live r (i + 1)
  refine ⟨by simp [mask, h1], fun k q hq => ?_⟩
  cases k with
  | zero =>
   simp only [mask, List.getElem?_cons_zero, Option.some.injEq] at hq
   subst hq
   cases has live i with
   | true => exact .inr rfl
   | false => exact .inl rfl
  | succ k => simpa using h2 k q (by simpa [mask] using hq)
theorem Q193 {n : Nat} {vs : List PV} {ids : List Nat} {y : List PV × List Nat × List Nat} (h : Q5y (pass H true n) vs ids = some y) : y.2.2 = [] := by
 induction n generalizing vs ids y with
 | zero =>
  cases vs with
  | nil => simp only [Q5y, Option.some.injEq] at h; subst h; rfl
  | cons p r =>
   simp only [Q5y] at h
   obtain ⟨x, hx, _⟩ := bind_some h
   simp [pass] at hx
 | succ n ih =>
  have one : ∀ p ids x, pass H true (n + 1) p ids = some x → x.fr = [] := by
   intro p ids x h
   cases p with
   | bx id off => rw [pass] at h; injection h with h; subst h; rfl
   | ms id sz off len => rw [pass, cond_true] at h; injection h with h; subst h; rfl
   | agg c =>
    rw [pass] at h
    obtain ⟨y, hy, h⟩ := bind_some h
    injection h with h
    subst h
    exact ih hy
   | tup c =>
    rw [pass] at h
    obtain ⟨y, hy, h⟩ := bind_some h
    injection h with h
    subst h
    exact ih hy
   | fn f a b =>
    rw [pass] at h
    obtain ⟨y, hy, h⟩ := bind_some h
    obtain ⟨z, hz, h⟩ := bind_some h
    injection h with h
    subst h
    show y.2.2 ++ z.2.2 = []
    rw [ih hy, ih hz]
    rfl
   | _ => simp only [pass, Option.some.injEq] at h; subst h; rfl
  induction vs generalizing ids y with
  | nil => simp only [Q5y, Option.some.injEq] at h; subst h; rfl
  | cons p r ihr =>
   simp only [Q5y] at h
   obtain ⟨x, hx, h⟩ := bind_some h
   obtain ⟨z, hz, h⟩ := bind_some h
   injection h with h
   subst h
   show x.fr ++ z.2.2 = []
   rw [one p ids x hx, ihr hz]
   rfl
theorem Qup {own : Bool} : ∀ (n k : Nat) (ids : List Nat) (z : List Ob × List Nat × List Nat), Q3s H true own n k ids = some z → z.2.2 = []
 | 0, k, ids, z, h => by simp [Q3s] at h
 | n + 1, k, ids, z, h => by
  simp only [Q3s] at h
  cases hid : ids[k]? with
  | none => simp only [hid, Option.some.injEq] at h; subst h; rfl
  | some id =>
   simp only [hid] at h
   obtain ⟨ob, hob, h⟩ := bind_some h
   obtain ⟨y, hy, h⟩ := bind_some h
   obtain ⟨z', hz, h⟩ := bind_some h
   injection h with h
   subst h
   show y.2.2 ++ z'.2.2 = []
   rw [Q193 hy, Qup n (k + 1) y.2.1 z' hz]
   rfl
theorem Q118 {s : St} (A : At w0 D0 H0 F n0 m s.env.length (envF s.env) (look s.heap) a w D) (hf : ∀ id, s.nx ≤ id → D id = none ∧ look s.heap id = none) {live : List Nat} {y : List PV × List Ob} (h : gc0 m live s = some y) :
    ∃ D', At w0 D0 H0 F n0 m y.1.length (envF y.1) (hF y.2) a w D' ∧ (∀ id, y.2.length ≤ id → D' id = none ∧ hF y.2 id = none) ∧ m ≤ y.2.length := by
  unfold gc0 at h
  obtain ⟨y1, hy1, h⟩ := bind_some h
  obtain ⟨z, hz, h⟩ := bind_some h
  injection h with h
  subst h
  obtain ⟨v1, v2, v3⟩ := Q76 (mask live 0 s.env) s.nx
  obtain ⟨u1, u2, u3⟩ := Quz s.heap (Q5h s.nx (mask live 0 s.env)).2.1
  obtain ⟨hM, hO, S⟩ := Qyn A.sim (Hv := look ((Qfl (Q5h s.nx (mask live 0 s.env)).2.1 s.heap).1 ++ ((Q5h s.nx (mask live 0 s.env)).2.2 ++ (Qfl (Q5h s.nx (mask live 0 s.env)).2.1 s.heap).2.2))) (fun id ob' h => by
    rcases Qo5 h with h | h
    · exact .inl (u3 id ob' h)
    · have : s.nx ≤ id ∧ ob'.cells = [] ∧ ob'.ro = 0 := by
        rcases List.mem_append.1 (Q189 h) with hm | hm
        · exact v3 _ hm
        · exact (u2.mono v2) _ hm
      exact .inr ⟨this.2.1, this.2.2, (hf id this.1).1⟩)
  obtain ⟨D', S', hlow, hout, hsub, hlen, hyl, hrep⟩ := renumber S true true hy1 hz (by rw [Q193 hy1, Qup _ _ _ _ hz]; exact fun x hx => absurd hx List.not_mem_nil)
  obtain ⟨m1, m2⟩ := Q12v live s.env 0
  have hlt : y1.1.length = s.env.length := by rw [hyl, v1.1, m1]
  refine ⟨D', ⟨S', fun t => ?_, by rw [hlt]; exact A.size, fun t ht => ?_, A.keeps, fun id hid => by rw [hlow id hid, A.low id hid], fun b o hb h => A.sub b o hb (hM b o (hsub b o h)), A.defers⟩, fun id hid => ⟨hout id hid, List.getElem?_eq_none hid⟩, hlen⟩
  · unfold envF
    rw [List.getD_eq_getElem?_getD]
    cases hq : y1.1[t]? with
    | none => exact .un _ _
    | some q =>
      have htl : t < (Q5h s.nx (mask live 0 s.env)).1.length := by rw [← hyl]; exact (List.getElem?_eq_some_iff.1 hq).1
      refine hrep t _ _ q (List.getElem?_eq_getElem htl) hq ?_
      have htm : t < (mask live 0 s.env).length := by rw [← v1.1]; exact htl
      refine v1.2 t _ _ (List.getElem?_eq_getElem htm) (List.getElem?_eq_getElem htl) _ _ _ _ ?_
      rcases m2 t _ (List.getElem?_eq_getElem htm) with h | h
      · rw [h]; exact .un _ _
      · have := A.env t
        unfold envF at this
        rw [List.getD_eq_getElem?_getD, h] at this
        exact this.to (fun b o _ h => hM b o h) (fun _ _ h => h)
  · show envF y1.1 t = .un
    unfold envF
    rw [List.getD_eq_getElem?_getD, List.getElem?_eq_none ht]
    rfl
theorem Like.flat (p : PV) : Like p (Qxd p) := fun w M D v h => by
 cases p <;> first | exact h | skip
 cases h with
 | ns _ A sz => exact .sl _ A 0 0 0 [] 0 0 (fun _ _ => default) rfl (Nat.le_refl _) (Nat.zero_le _) (fun r hr => absurd hr List.not_mem_nil) (fun h => absurd h (Nat.lt_irrefl _)) (fun j r hj => by simp at hj) (fun j r hj => by simp at hj)
theorem Qas.flat (l : List PV) : Qas l (l.map Qxd) := by
 refine ⟨by simp, fun k p q hp hq => ?_⟩
 rw [List.getElem?_map, hp] at hq
 simp only [Option.map_some, Option.some.injEq] at hq
 subst hq
 exact Like.flat p
theorem Q1rh {s : St} (A : At w0 D0 H0 F n0 m s.env.length (envF s.env) (look s.heap) a w D) : At w0 D0 H0 F n0 m (Q98 s).env.length (envF (Q98 s).env) (look (Q98 s).heap) a w D := by
  obtain ⟨hM, hO, S⟩ := Qyn A.sim (Hv := look (Q98 s).heap) (fun id ob' h => by
    rw [show (Q98 s).heap = s.heap.map fun x => (x.1, Qg5 x.2) from rfl, Qe7] at h
    cases e : look s.heap id with
    | none => rw [e] at h; cases h
    | some ob =>
      rw [e] at h
      simp only [Option.map_some, Option.some.injEq] at h
      subst h
      exact .inl ⟨ob, rfl, rfl, rfl, Qas.flat ob.cells⟩)
  have hlen : (Q98 s).env.length = s.env.length := by simp [Q98]
  have henv : ∀ t, envF (Q98 s).env t = Qxd (envF s.env t) := fun t => by
    show (s.env.map Qxd).getD t .un = Qxd (s.env.getD t .un)
    rw [List.getD_eq_getElem?_getD, List.getD_eq_getElem?_getD, List.getElem?_map]
    cases s.env[t]? <;> rfl
  refine ⟨S, fun t => ?_, by rw [hlen]; exact A.size, fun t ht => ?_, A.keeps, A.low, fun b o hb h => A.sub b o hb (hM b o h), A.defers⟩
  · rw [henv]
    exact Like.flat _ _ _ _ _ ((A.env t).to (fun b o _ h => hM b o h) (fun _ _ h => h))
  · rw [henv, A.out t (by rw [hlen] at ht; exact ht)]
    rfl
theorem Q175 {s : St} (A : At w0 D0 H0 F n0 m s.env.length (envF s.env) (look s.heap) a w D) (hf : ∀ id, s.nx ≤ id → D id = none ∧ look s.heap id = none) {live : List Nat} {y : List PV × List Ob} (h : gc m live s = some y) :
  ∃ D', At w0 D0 H0 F n0 m y.1.length (envF y.1) (hF y.2) a w D' ∧ (∀ id, y.2.length ≤ id → D' id = none ∧ hF y.2 id = none) ∧ m ≤ y.2.length := by
 unfold gc at h
 cases c : has live 200001 with
 | false =>
  rw [c] at h
  exact Q118 A hf h
 | true =>
  rw [c] at h
  refine Q118 (Q1rh A) (fun id hid => ⟨(hf id hid).1, ?_⟩) h
  rw [show (Q98 s).heap = s.heap.map fun x => (x.1, Qg5 x.2) from rfl, Qe7, (hf id hid).2]
  rfl
def Qdr (P : Program) : List ResultVar → List RV → Bool
 | [], [] => true
 | .tmp t :: r, .tmp t' :: r' => Nat.beq t t' && Qdr P r r'
 | .cell t ty :: r, .cell t' n ag :: r' => Nat.beq t t' && tyOK P ty n ag && Qdr P r r'
 | _, _ => false
theorem Q1rx (S : Sim w D H F n0 m) {t : TypeId} {n : Nat} {ag : Bool} (ht : tyOK P t n ag = true) {p q : PV} {c : List PV × List Nat} (hc : reads H n p = some c) (hq : shape ag c.1 = some q) {u : Value} (hu : Rep w (Mut D H F) D u p) :
  ∃ v, (do loadVar t (← asAddr u) : Sem Value).run P w = .ok v w ∧ Rep w (Mut D H F) D v q := by
 obtain ⟨b, off, xs, hv, hl, hra, hrn⟩ := Qoh S hc hu
 obtain ⟨ha, hn, h1⟩ := Q9m ht
 subst hv
 cases ag with
 | true =>
  obtain ⟨fs, hu⟩ := Quu ha
  simp only [shape, cond_true, Option.some.injEq] at hq
  subst hq
  refine ⟨.agg xs.toArray, ?_, .agg _ _ _ (by simpa using hrn.1) (fun i v p hv hp => (hrn.2 i v p (by simpa using hv) hp).1) (fun i v p hv hp => (hrn.2 i v p (by simpa using hv) hp).2)⟩
  obtain ⟨i, hi, his⟩ := Qbb hn
  have := run_loadVar_mid (P := P) w b off t xs _ hra hu rfl (by rw [hi]; simp [his, hl])
  simp [asAddr, this]
 | false =>
  have hn1 : n = 1 := h1 rfl
  subst hn1
  cases xs with
  | nil => simp at hl
  | cons u r =>
   have hr0 : r = [] := by cases r with | nil => rfl | cons _ _ => simp at hl
   subst hr0
   obtain ⟨c1, c2⟩ := c
   cases c1 with
   | nil => have := hrn.1; simp at this
   | cons p r =>
    have : r = [] := by cases r with | nil => rfl | cons _ _ => have := hrn.1; simp at this
    subst this
    simp only [shape, cond_false, Option.some.injEq] at hq
    subst hq
    have hcell := hra 0 u rfl
    simp only [Nat.add_zero] at hcell
    refine ⟨u, ?_, (hrn.2 0 u p rfl rfl).2⟩
    simp [asAddr, loadVar, Q87 ha, hcell]
def Q1jp (tmps : Array Value) : ResultVar → Sem Value
 | .tmp t => pure (tmps.getD t undef)
 | .cell x t => do loadVar t (← asAddr (tmps.getD x undef))
theorem Q1ch (fn : Func) (tmps : Array Value) : results fn tmps = (do let vs ← fn.results.mapM (Q1jp tmps); pure (if h : vs.size = 1 then vs[0] else .tuple vs)) := by
 unfold results
 have : (fun x : ResultVar => (match x with | .tmp t => pure (tmps.getD t undef) | .cell x t => do loadVar t (← asAddr (tmps.getD x undef)) : Sem Value)) = Q1jp tmps := by
  funext x
  cases x <;> rfl
 rw [← this]
 rfl
theorem Qok {s : St} (S : Sim w D (look s.heap) F n0 m) (he : Qc3 w (Mut D (look s.heap) F) D a (envF s.env)) : ∀ (rs : List ResultVar) (is : List RV) (vs : List PV), Qdr P rs is = true → mapO (rv s) is = some vs →
  ∃ us, (rs.mapM (Q1jp a.tmps)).run P w = .ok us w ∧ RepL w (Mut D (look s.heap) F) D us vs
 | [], [], vs, _, h => by
  simp only [mapO, Option.some.injEq] at h
  subst h
  exact ⟨[], by simp, RepL.nil _ _ _⟩
 | [], _ :: _, vs, h, _ => by cases h
 | x :: rs, [], vs, h, _ => by cases x <;> cases h
 | x :: rs, i :: is, vs, hc, h => by
  simp only [mapO] at h
  obtain ⟨q, hq, h⟩ := bind_some h
  obtain ⟨qs, hqs, h⟩ := bind_some h
  injection h with h
  subst h
  cases x with
  | tmp t =>
   cases i with
   | cell _ _ _ => cases hc
   | tmp t' =>
    simp only [Qdr, Bool.and_eq_true] at hc
    have := Nat.eq_of_beq_eq_true hc.1
    subst this
    obtain ⟨us, hus, hr⟩ := Qok S he rs is qs hc.2 hqs
    simp only [rv, Option.some.injEq] at hq
    subst hq
    refine ⟨_ :: us, ?_, RepL.cons (he t) hr⟩
    rw [List.mapM_cons, Sem.run_bind]
    have hv' : (Q1jp a.tmps (.tmp t)).run P w = .ok (a.tmps.getD t undef) w := rfl
    rw [hv', Result.andThen_ok, Sem.run_bind, hus]
    rfl
  | cell t ty =>
   cases i with
   | tmp _ => cases hc
   | cell t' n ag =>
    simp only [Qdr, Bool.and_eq_true] at hc
    have := Nat.eq_of_beq_eq_true hc.1.1
    subst this
    obtain ⟨us, hus, hr⟩ := Qok S he rs is qs hc.2 hqs
    simp only [rv] at hq
    obtain ⟨c, hc1, hc2⟩ := bind_some hq
    obtain ⟨v, hv, hvr⟩ := Q1rx (P := P) S hc.1.2 hc1 hc2 (he t)
    refine ⟨v :: us, ?_, RepL.cons hvr hr⟩
    rw [List.mapM_cons, Sem.run_bind]
    have hv' : (Q1jp a.tmps (.cell t ty)).run P w = .ok v w := hv
    rw [hv', Result.andThen_ok, Sem.run_bind, hus]
    rfl
theorem Q8l : ∀ (m : Nat) (l : List Ob) (p : Nat) (ob : Ob), (regr m l)[p]? = some ob → ∃ o, l[p]? = some o ∧ ob.ro = o.ro ∧ ob.cells = o.cells ∧ (p < m → ob = o)
 | _, [], p, ob, h => by simp [regr] at h
 | 0, o :: r, p, ob, h => by
  cases p with
  | zero =>
   simp only [regr, List.getElem?_cons_zero, Option.some.injEq] at h
   subst h
   exact ⟨o, rfl, rfl, rfl, fun h => absurd h (Nat.not_lt_zero _)⟩
  | succ p =>
   simp only [regr, List.getElem?_cons_succ] at h
   obtain ⟨o', h1, h2, h3, _⟩ := Q8l 0 r p ob h
   exact ⟨o', by simpa using h1, h2, h3, fun h => absurd h (Nat.not_lt_zero _)⟩
 | m + 1, o :: r, p, ob, h => by
  cases p with
  | zero =>
   simp only [regr, List.getElem?_cons_zero, Option.some.injEq] at h
   subst h
   exact ⟨o, rfl, rfl, rfl, fun _ => rfl⟩
  | succ p =>
   simp only [regr, List.getElem?_cons_succ] at h
   obtain ⟨o', h1, h2, h3, h4⟩ := Q8l m r p ob h
   exact ⟨o', by simpa using h1, h2, h3, fun h => h4 (by omega)⟩
theorem Qec : ∀ (m : Nat) (l : List Ob), (regr m l).length = l.length
 | _, [] => by simp [regr]
 | 0, o :: r => by simp [regr, Qec 0 r]
 | m + 1, o :: r => by simp [regr, Qec m r]
theorem Q1jn (m : Nat) (l : List Ob) (p : Nat) (o : Ob) (h : l[p]? = some o) : ∃ ob, (regr m l)[p]? = some ob ∧ ob.ro = o.ro ∧ ob.cells = o.cells := by
 have hlt : p < (regr m l).length := by rw [Qec]; exact (List.getElem?_eq_some_iff.1 h).1
 obtain ⟨o', h1, h2, h3, _⟩ := Q8l m l p _ (List.getElem?_eq_getElem hlt)
 rw [h] at h1
 injection h1 with h1
 subst h1
 exact ⟨_, List.getElem?_eq_getElem hlt, h2, h3⟩
theorem Qy8 {m : Nat} {l : List Ob} {D : Nat → Option Nat} {F : Nat → Nat → Prop} {b o : Nat} : Mut D (hF (regr m l)) F b o ↔ Mut D (hF l) F b o := by
  constructor
  · rintro (h | ⟨id, ob, h1, h2, h3⟩)
    · exact .inl h
    · obtain ⟨o', g1, g2, _⟩ := Q8l m l id ob h1
      exact .inr ⟨id, o', g1, h2, by rw [← g2]; exact h3⟩
  · rintro (h | ⟨id, ob, h1, h2, h3⟩)
    · exact .inl h
    · obtain ⟨o', g1, g2, _⟩ := Q1jn m l id ob h1
      exact .inr ⟨id, o', g1, h2, by rw [g2]; exact h3⟩
theorem Q1nm {w : World} {D : Nat → Option Nat} {l : List Ob} {F : Nat → Nat → Prop} {n0 m : Nat} (S : Sim w D (hF l) F n0 m) : Sim w D (hF (regr m l)) F n0 m := by
  refine ⟨S.fr, S.le, S.own, fun id ob h => ?_, fun i j a b k hi hj di dj => ?_, fun id ob b o h hd => ?_⟩
  · obtain ⟨o', g1, g2, g3, g4⟩ := Q8l m l id ob h
    obtain ⟨k1, k2⟩ := S.ok id o' g1
    refine ⟨by rw [g2, g3]; exact k1, ?_⟩
    rcases k2 with ⟨e1, e2⟩ | ⟨b, carr, t, e1, e2, e3, e4, e5⟩
    · exact .inl ⟨by rw [g3]; exact e1, e2⟩
    · refine .inr ⟨b, carr, t, e1, e2, by rw [g3]; exact e3, fun hg => ?_, fun k p hp => ?_⟩
      · by_cases c : id < m
        · rw [g4 c] at hg
          exact e4 hg
        · exact (S.own id b e1).resolve_left c
      · rw [g3] at hp
        obtain ⟨v, q1, q2, q3⟩ := e5 k p hp
        exact ⟨v, q1, q2, q3.to (fun b o _ h => Qy8.1 h) (fun _ _ h => h)⟩
  · obtain ⟨a', g1, _⟩ := Q8l m l i a hi
    obtain ⟨b', g2, _⟩ := Q8l m l j b hj
    exact S.inj i j a' b' k g1 g2 di dj
  · obtain ⟨a', g1, _⟩ := Q8l m l id ob h
    exact S.dis id a' b o g1 hd
theorem Qnr {fn : IFn} {Fn : Func} {s : St} (A : At w0 D0 H0 F n0 m s.env.length (envF s.env) (look s.heap) a w D) (hf : ∀ id, s.nx ≤ id → D id = none ∧ look s.heap id = none) (hc : Qdr P Fn.results.toList fn.res = true) {r : Rs} (h : fin fn m s = some r) :
    ∃ v p h' D', r = .ret p h' ∧ (results Fn a.tmps).run P w = .ok v w ∧ Sim w D' (hF h') F n0 m ∧ (∀ id, id < m → D' id = D id) ∧ (∀ id, h'.length ≤ id → D' id = none) ∧ (∀ b o, Mut D' (hF h') F b o → Mut D (look s.heap) F b o) ∧ m ≤ h'.length ∧ Rep w (Mut D' (hF h') F) D' v p := by
  unfold fin at h
  obtain ⟨vs, hvs, h⟩ := bind_some h
  obtain ⟨y, hy, h⟩ := bind_some h
  obtain ⟨z, hz, h⟩ := bind_some h
  obtain ⟨hdj, h⟩ := Q1j h
  injection h with h
  subst h
  obtain ⟨us, hus, hrl⟩ := Qok A.sim A.env _ _ vs hc hvs
  -- what stands in the results, laid out
  have hvirt : Qas vs (bif fn.keep then Q5h s.nx vs else (vs, s.nx, [])).1 ∧ Bare s.nx (bif fn.keep then Q5h s.nx vs else (vs, s.nx, [])).2.2 := by
    cases fn.keep with
    | true => exact ⟨(Q76 vs s.nx).1, (Q76 vs s.nx).2.2⟩
    | false => exact ⟨Qas.refl vs, fun x hx => absurd hx List.not_mem_nil⟩
  obtain ⟨hlike, hbare⟩ := hvirt
  obtain ⟨hM, hO, S⟩ := Qyn A.sim (Hv := look (s.heap ++ (bif fn.keep then Q5h s.nx vs else (vs, s.nx, [])).2.2)) (fun id ob' h => by
    rcases Qo5 h with h | h
    · exact .inl ⟨ob', h, rfl, rfl, Qas.refl _⟩
    · have := hbare _ (Q189 h)
      exact .inr ⟨this.2.1, this.2.2, (hf id this.1).1⟩)
  obtain ⟨D', S', hlow, hout, hsub, hlen, hyl, hrep⟩ := renumber S fn.keep false hy hz (Qjm.1 hdj)
  have hR : RepL w (Mut D' (hF z.1) F) D' us y.1 := by
    refine ⟨by rw [hyl, hlike.1]; exact hrl.1, fun i v q hv hq => ?_⟩
    have h1 : i < (bif fn.keep then Q5h s.nx vs else (vs, s.nx, [])).1.length := by rw [← hyl]; exact (List.getElem?_eq_some_iff.1 hq).1
    have h2 : i < vs.length := by rw [← hlike.1]; exact h1
    refine hrep i v _ q (List.getElem?_eq_getElem h1) hq ?_
    refine hlike.2 i _ _ (List.getElem?_eq_getElem h2) (List.getElem?_eq_getElem h1) _ _ _ _ ?_
    exact (hrl.2 i v _ hv (List.getElem?_eq_getElem h2)).to (fun b o _ h => hM b o h) (fun _ _ h => h)
  have hrun : ∀ u : Value, (if h : us.toArray.size = 1 then us.toArray[0] else .tuple us.toArray) = u → (results Fn a.tmps).run P w = .ok u w := by
    intro u hu
    rw [Q1ch, Sem.run_bind, Array.mapM_eq_mapM_toList, Sem.run_map, hus, Result.andThen_ok, Result.andThen_ok]
    rw [← hu]
    rfl
  have hR : RepL w (Mut D' (hF (regr m z.1)) F) D' us y.1 := hR.mono fun v p h => h.to (fun b o _ h => Qy8.1 h) (fun _ _ h => h)
  refine ⟨_, _, regr m z.1, D', rfl, hrun _ rfl, Q1nm S', hlow, fun id h => hout id (by rw [Qec] at h; exact h), fun b o h => hM b o (hsub b o (Qy8.1 h)), by rw [Qec]; exact hlen, ?_⟩
  have htup : ∀ l : List PV, RepL w (Mut D' (hF (regr m z.1)) F) D' us l → Rep w (Mut D' (hF (regr m z.1)) F) D' (.tuple us.toArray) (.tup l) := fun l hl =>
    .tup _ _ _ (by simpa using hl.1) (fun i v p hv hp => hl.2 i v p (by simpa using hv) hp)
  generalize y.1 = l at hR ⊢
  match l, hR with
  | [], hR =>
    have : us.length = 0 := hR.1
    rw [dif_neg (by simp [this])]
    exact htup _ hR
  | [p], hR =>
    have : us.length = 1 := hR.1
    rw [dif_pos (by simpa using this)]
    exact hR.2 0 _ _ (by simp [this]) rfl
  | p :: q :: r, hR =>
    have : us.length = r.length + 1 + 1 := hR.1
    rw [dif_neg (by simp [this])]
    exact htup _ hR
end
end Go.Pv
end

section
/-
  Code, loops, functions: WHAT THE EVALUATOR ANSWERS, THE MACHINE ANSWERS.
-/
namespace Go.Pv
open Go.RowKit
def Q4k (P : Program) : IR → Code → Bool
 | .skip, c => (match c with | .skip => true | .label _ => true | _ => false)
 | .reg ios draw, c => (match c with | .region _ ops d => (d == draw) && Q1hi P ops ios draw | _ => false)
 | .seq a b, c => (match c with | .seq x y => Q4k P a x && Q4k P b y | _ => false)
 | .cond q a b, c => (match c with | .cond p x y => Q42 p q && Q4k P a x && Q4k P b y | _ => false)
 | .block id b, c => (match c with | .block id' x => Nat.beq id id' && Q4k P b x | _ => false)
 | .loop _ b, c => (match c with | .loop x => Q4k P b x | _ => false)
 | .exit id, c => (match c with | .exit id' => Nat.beq id id' | _ => false)
 | .ret, c => (match c with | .ret => true | _ => false)
def exOf : Ex → Exit
 | .normal => .normal
 | .exit id => .exit id
 | .ret => .ret
section
variable {P : Program} {X : Orc}
def Q1wm (P : Program) (m : Nat) (b : IR) (env : List PV) (h : List Ob) (x : Ex) (s' : St) : Prop :=
 ∃ n, ∀ (c : Code), Q4k P b c = true → ∀ (w0 : World) (D0 : Nat → Option Nat) (H0 : Nat → Option Ob) (F : Nat → Nat → Prop) (n0 : Nat) (a : Act) (w : World) (D : Nat → Option Nat) (Q : Exit → Act → World → Prop),
  At w0 D0 H0 F n0 m env.length (envF env) (hF h) a w D → (∀ id, h.length ≤ id → D id = none) → m ≤ h.length →
   (∀ a' w' D', At w0 D0 H0 F n0 m s'.env.length (envF s'.env) (look s'.heap) a' w' D' → (∀ id, s'.nx ≤ id → D' id = none ∧ look s'.heap id = none) → m ≤ s'.nx → Q (exOf x) a' w') → Code.rounds P c Q n a w
def Qvc (P : Program) (X : Orc) : Prop := ∀ m live b env h x s', X (.loop m live b env h) = some (.st x s') → Q1wm P m b env h x s'
variable {w0 : World} {D0 : Nat → Option Nat} {H0 : Nat → Option Ob} {F : Nat → Nat → Prop} {n0 m : Nat}
theorem Q1ro {ops : List IOper} {draw : Bool} {s s' : St} (h : ireg X ops draw s = some s') : s.nx ≤ s'.nx := by
 unfold ireg at h
 obtain ⟨y, hy, h⟩ := bind_some h
 cases hc : (!draw || calm (ops.zip y.2.2) 0 (ops.zip y.2.2)) with
 | false => rw [hc] at h; cases h
 | true =>
  rw [hc] at h
  simp only [cond_true, Option.some.injEq] at h
  subst h
  exact Nat.le_add_right _ _
theorem Q7y (hm : P.follows .mixedOrders = true) (hX : Q8o P X) (hL : Qvc P X) : ∀ (ir : IR) (c : Code), Q4k P ir c = true → ∀ (s : St) (x : Ex) (s' : St), Q5e X m ir s = some (x, s') → ∀ (a : Act) (w : World) (D : Nat → Option Nat) (Q : Exit → Act → World → Prop),
    At w0 D0 H0 F n0 m s.env.length (envF s.env) (look s.heap) a w D → (∀ id, s.nx ≤ id → D id = none ∧ look s.heap id = none) → m ≤ s.nx →
      (∀ a' w' D', At w0 D0 H0 F n0 m s'.env.length (envF s'.env) (look s'.heap) a' w' D' → (∀ id, s'.nx ≤ id → D' id = none ∧ look s'.heap id = none) → m ≤ s'.nx → Q (exOf x) a' w') → Code.wp P c Q a w := by
  intro ir
  induction ir with
  | skip =>
    intro c hc s x s' h a w D Q A hf hn hQ
    simp only [Q5e, Option.some.injEq, Prod.mk.injEq] at h
    obtain ⟨rfl, rfl⟩ := h
    cases c <;> first | (cases hc; done) | skip
    · exact wp_skip (hQ a w D A hf hn)
    · exact wp_label (hQ a w D A hf hn)
  | reg ios draw =>
    intro c hc s x s' h a w D Q A hf hn hQ
    simp only [Q5e] at h
    obtain ⟨s1, hs, h⟩ := bind_some h
    simp only [Option.some.injEq, Prod.mk.injEq] at h
    obtain ⟨rfl, rfl⟩ := h
    cases c <;> first | (cases hc; done) | skip
    rename_i id ops d
    simp only [Q4k, Bool.and_eq_true] at hc
    have hd : d = draw := by simpa using hc.1
    subst hd
    exact Q133 hm hX hc.2 hs A hf hn (fun a' w' D' A' hf' => hQ a' w' D' A' hf' (Nat.le_trans hn (Q1ro hs)))
  | seq p q ihp ihq =>
    intro c hc s x s' h a w D Q A hf hn hQ
    simp only [Q5e] at h
    obtain ⟨⟨x1, s1⟩, h1, h⟩ := bind_some h
    cases c <;> first | (cases hc; done) | skip
    rename_i cx cy
    simp only [Q4k, Bool.and_eq_true] at hc
    refine wp_seq (ihp cx hc.1 s x1 s1 h1 a w D _ A hf hn fun a' w' D' A' hf' hn' => ?_)
    cases x1 with
    | normal => exact ihq cy hc.2 s1 x s' h a' w' D' Q A' hf' hn' hQ
    | exit j =>
      simp only [Option.some.injEq, Prod.mk.injEq] at h
      obtain ⟨rfl, rfl⟩ := h
      exact hQ a' w' D' A' hf' hn'
    | ret =>
      simp only [Option.some.injEq, Prod.mk.injEq] at h
      obtain ⟨rfl, rfl⟩ := h
      exact hQ a' w' D' A' hf' hn'
  | cond q p r ihp ihr =>
    intro c hc s x s' h a w D Q A hf hn hQ
    cases c <;> first | (cases hc; done) | skip
    rename_i cq cx cy
    simp only [Q4k, Bool.and_eq_true] at hc
    have hq := Q1i A.env hc.1.1
    simp only [Q5e] at h
    split at h
    · rename_i t ht
      rw [ht] at hq
      have he : a.eval cq = .bool t := by
        generalize a.eval cq = u at hq
        cases hq with
        | bool _ _ => rfl
      refine wp_cond he ?_
      cases t with
      | true => exact ihp cx hc.1.2 s x s' h a w D Q A hf hn hQ
      | false => exact ihr cy hc.2 s x s' h a w D Q A hf hn hQ
    · cases h
  | block id p ih =>
    intro c hc s x s' h a w D Q A hf hn hQ
    simp only [Q5e] at h
    obtain ⟨⟨x1, s1⟩, h1, h⟩ := bind_some h
    cases c <;> first | (cases hc; done) | skip
    rename_i id' cx
    simp only [Q4k, Bool.and_eq_true] at hc
    have hid := Nat.eq_of_beq_eq_true hc.1
    subst hid
    refine wp_block (ih cx hc.2 s x1 s1 h1 a w D _ A hf hn fun a' w' D' A' hf' hn' => ?_)
    cases x1 with
    | normal =>
      simp only [Option.some.injEq, Prod.mk.injEq] at h
      obtain ⟨rfl, rfl⟩ := h
      exact hQ a' w' D' A' hf' hn'
    | ret =>
      simp only [Option.some.injEq, Prod.mk.injEq] at h
      obtain ⟨rfl, rfl⟩ := h
      exact hQ a' w' D' A' hf' hn'
    | exit j =>
      simp only at h
      by_cases e : j = id
      · subst e
        simp only [Nat.beq_refl, cond_true, Option.some.injEq, Prod.mk.injEq] at h
        obtain ⟨rfl, rfl⟩ := h
        show Exit.inBlock j Q (.exit j) a' w'
        simp only [Exit.inBlock, if_true]
        exact hQ a' w' D' A' hf' hn'
      · have : Nat.beq j id = false := by rw [Bool.eq_false_iff]; exact fun h => e (Nat.eq_of_beq_eq_true h)
        simp only [this, cond_false, Option.some.injEq, Prod.mk.injEq] at h
        obtain ⟨rfl, rfl⟩ := h
        show Exit.inBlock id Q (.exit j) a' w'
        simp only [Exit.inBlock, if_neg e]
        exact hQ a' w' D' A' hf' hn'
  | loop live b ih =>
    intro c hc s x s' h a w D Q A hf hn hQ
    simp only [Q5e] at h
    obtain ⟨y, hy, h⟩ := bind_some h
    obtain ⟨r, hr, h⟩ := bind_some h
    cases r with
    | ret _ _ => cases h
    | st x1 s1 =>
      simp only [Option.some.injEq, Prod.mk.injEq] at h
      obtain ⟨rfl, rfl⟩ := h
      cases c <;> first | (cases hc; done) | skip
      rename_i cx
      simp only [Q4k] at hc
      obtain ⟨D', A', hf', hn'⟩ := Q175 A hf hy
      obtain ⟨n, hn1⟩ := hL _ _ _ _ _ _ _ hr
      exact wp_loop_rounds n (hn1 cx hc w0 D0 H0 F n0 a w D' Q A' (fun id h => (hf' id h).1) hn' hQ)
  | exit id =>
    intro c hc s x s' h a w D Q A hf hn hQ
    simp only [Q5e, Option.some.injEq, Prod.mk.injEq] at h
    obtain ⟨rfl, rfl⟩ := h
    cases c <;> first | (cases hc; done) | skip
    rename_i id'
    simp only [Q4k] at hc
    have hid := Nat.eq_of_beq_eq_true hc
    subst hid
    exact wp_exit (hQ a w D A hf hn)
  | ret =>
    intro c hc s x s' h a w D Q A hf hn hQ
    simp only [Q5e, Option.some.injEq, Prod.mk.injEq] at h
    obtain ⟨rfl, rfl⟩ := h
    cases c <;> first | (cases hc; done) | skip
    exact wp_ret (hQ a w D A hf hn)
def Qz (P : Program) (Fn : Func) (fn : IFn) : Bool :=
 Nat.beq Fn.ntmps fn.nt && Nat.ble fn.np fn.nt && Qdr P Fn.results.toList fn.res && (match Fn.body with | some c => Q4k P fn.body c | none => false) && !(Fn.name == "runtime.NumGoroutine")
def Q1ky (P : Program) (f : Nat) : Prop := Q9o P f ∧ ∀ (x y : ByteArray) (w : World), Calls P f #[.string x, .string y] w fun e w' => e = .returned (.int .i64 (cmpL x.toList y.toList)) ∧ w' = w
def AxOK (P : Program) (f : Nat) (φ : List PV → Option (PV × List Ob)) : Prop := ∀ args r h', φ args = some (r, h') → Q9o P f ∧ Q15g P f args [] r h'
def Tie (P : Program) (G : Nat → Option Fun) : Prop := ∀ f d, G f = some d → match d with
 | .ir fn => ∃ Fn, P.funcs[f]? = some Fn ∧ Qz P Fn fn = true
 | .cmpstr => Q1ky P f
 | .ax φ => AxOK P f φ
theorem Q1a0 {Fn : Func} {fn : IFn} (h : Qz P Fn fn = true) : Fn.ntmps = fn.nt ∧ fn.np ≤ fn.nt ∧ Qdr P Fn.results.toList fn.res = true ∧ (∃ c, Fn.body = some c ∧ Q4k P fn.body c = true) ∧ (Fn.name == "runtime.NumGoroutine") = false := by
  unfold Qz at h
  simp only [Bool.and_eq_true] at h
  obtain ⟨⟨⟨⟨h1, h2⟩, h3⟩, h4⟩, h5⟩ := h
  refine ⟨Nat.eq_of_beq_eq_true h1, Nat.le_of_ble_eq_true h2, h3, ?_, by simpa using h5⟩
  split at h4
  · rename_i c hc; exact ⟨c, hc, h4⟩
  · cases h4
theorem Qba : ∀ (n t : Nat), (nuns n).length = n ∧ envF (nuns n) t = .un
 | 0, t => ⟨rfl, rfl⟩
 | n + 1, t => by
  obtain ⟨h1, h2⟩ := Qba n (t - 1)
  refine ⟨by simp [nuns, h1], ?_⟩
  cases t with
  | zero => rfl
  | succ t => simpa [nuns, envF] using h2
theorem Q174 (hm : P.follows .mixedOrders = true) (hX : Q8o P X) (hL : Qvc P X) {f : Nat} {Fn : Func} {fn : IFn} (hf : P.funcs[f]? = some Fn) (hc : Qz P Fn fn = true) {args : List PV} {h : List Ob} (hal : args.length = fn.np) {x : Ex} {s : St}
    (hrun : Q5e X h.length fn.body ⟨args ++ nuns (fn.nt - fn.np), number 0 h, h.length⟩ = some (x, s)) (hx : ∀ j, x ≠ .exit j) {r : PV} {h' : List Ob} (hfin : fin fn h.length s = some (.ret r h')) : Q9o P f ∧ Q15g P f args h r h' := by
  obtain ⟨c1, c2, c3, ⟨c, hb, c4⟩, c5⟩ := Q1a0 hc
  refine ⟨⟨Fn, hf, by rw [hb]; rfl, c5⟩, fun w D F vals S hD hv => ?_⟩
  have hvs : vals.size = fn.np := by have := hv.1; rw [hal] at this; simpa using this
  have hfr : ∀ id, h.length ≤ id → D id = none ∧ look (number 0 h) id = none := fun id hid => ⟨hD id hid, by rw [Q8j]; exact List.getElem?_eq_none hid⟩
  have A : At w D (hF h) F w.heap.size h.length (args ++ nuns (fn.nt - fn.np)).length (envF (args ++ nuns (fn.nt - fn.np))) (look (number 0 h)) { tmps := vals ++ Array.replicate (Fn.ntmps - vals.size) undef, defers := [] } w D := by
    rw [Q8j]
    refine ⟨S, fun t => ?_, by simp [(Qba _ 0).1, hal, hvs, c1], fun t ht => ?_, Keeps.refl _ w, fun _ _ => rfl, fun _ _ _ h => h, rfl⟩
    · by_cases c : t < args.length
      · have e1 : envF (args ++ nuns (fn.nt - fn.np)) t = args[t] := by simp [envF, List.getElem?_append_left c, c]
        have hlt : t < vals.size := by omega
        have e2 : (vals ++ Array.replicate (Fn.ntmps - vals.size) undef).getD t undef = vals[t] := by
          rw [Array.getD_eq_getD_getElem?, Array.getElem?_append_left hlt, Array.getElem?_eq_getElem hlt]
          rfl
        rw [e1]
        show Rep _ _ _ ((vals ++ Array.replicate (Fn.ntmps - vals.size) undef).getD t undef) _
        rw [e2]
        exact hv.2 t _ _ (by simp [hlt]) (List.getElem?_eq_getElem c)
      · have e1 : envF (args ++ nuns (fn.nt - fn.np)) t = .un := by
          have := (Qba (fn.nt - fn.np) (t - args.length)).2
          unfold envF at this ⊢
          rw [List.getD_eq_getElem?_getD, List.getElem?_append_right (Nat.le_of_not_lt c), ← List.getD_eq_getElem?_getD]
          exact this
        rw [e1]
        exact .un _ _
    · show envF _ t = .un
      unfold envF
      rw [List.getD_eq_getElem?_getD, List.getElem?_eq_none ht]
      rfl
  refine calls_of_wp hf hb (Q7y hm hX hL fn.body c c4 _ x s hrun _ w D _ A hfr (Nat.le_refl _) fun a' w' D' A' hf' hn' => ?_)
  obtain ⟨v, p, h1, D1, e1, e2, e3, e4, e5, e6, e7, e8⟩ := Qnr A' hf' c3 hfin
  injection e1 with e1 e1'
  subst e1 e1'
  have fin_ : a'.defers = [] ∧ ∃ v, (results Fn a'.tmps).run P w' = .ok v w' ∧ (∃ v_1 D', Ending.returned v = .returned v_1 ∧ Sim w' D' (hF h') F w.heap.size h.length ∧ Keeps (MutO D (hF h)) w w' ∧ (∀ id, id < h.length → D' id = D id) ∧ (∀ id, h'.length ≤ id → D' id = none) ∧
      (∀ b o, b < w.heap.size → Mut D' (hF h') F b o → Mut D (hF h) F b o) ∧ h.length ≤ h'.length ∧ Rep w' (Mut D' (hF h') F) D' v_1 r) :=
    ⟨A'.defers, v, e2, v, D1, rfl, e3, A'.keeps, fun id hid => by rw [e4 id hid, A'.low id hid], e5, fun b o hb hmu => A'.sub b o hb (e6 b o hmu), e7, e8⟩
  cases x with
  | normal => exact fin_
  | ret => exact fin_
  | exit j => exact absurd rfl (hx j)
theorem Quv (hm : P.follows .mixedOrders = true) {G : Nat → Option Fun} (hT : Tie P G) : ∀ n, Q8o P (runs G n) ∧ Qvc P (runs G n)
  | 0 => ⟨fun f args h r h' hr => (by cases hr), fun m live b env h x s' hr => (by cases hr)⟩
  | n + 1 => by
    obtain ⟨hX, hL⟩ := Quv hm hT n
    constructor
    · intro f args h r h' hr
      simp only [runs, phi] at hr
      split at hr
      · rename_i fn hG
        obtain ⟨Fn, hf, hc⟩ := hT f _ hG
        obtain ⟨hal, hr⟩ := Q1j hr
        have hal := Nat.eq_of_beq_eq_true hal
        obtain ⟨⟨x, s⟩, hrun, hr⟩ := bind_some hr
        cases x with
        | exit j => cases hr
        | normal => exact Q174 hm hX hL hf hc hal hrun (fun j h => by cases h) hr
        | ret => exact Q174 hm hX hL hf hc hal hrun (fun j h => by cases h) hr
      · rename_i hG
        obtain ⟨hcl, hcmp⟩ := hT f _ hG
        split at hr
        · rename_i x y
          injection hr with hr
          injection hr with h1 h2
          subst h1 h2
          refine ⟨hcl, fun w D F vals S hD hv => ?_⟩
          have h2 : vals.size = 2 := by have := hv.1; simpa using this
          obtain ⟨u0, u1, rfl⟩ : ∃ u0 u1, vals = #[u0, u1] := ⟨vals[0], vals[1], by
            apply Array.ext (by simpa using h2)
            intro i h1 h3
            match i, h3 with
            | 0, _ => rfl
            | 1, _ => rfl⟩
          have r0 := hv.2 0 u0 _ rfl rfl
          have r1 := hv.2 1 u1 _ rfl rfl
          cases r0 with
          | str _ _ =>
            cases r1 with
            | str _ _ =>
              refine (hcmp x y w).mono ?_
              rintro e w' ⟨rfl, rfl⟩
              exact ⟨_, D, rfl, S, Keeps.refl _ _, fun _ _ => rfl, hD, fun _ _ _ h => h, Nat.le_refl _, .int _ _ _⟩
        · cases hr
      · rename_i φ hG
        cases h with
        | cons _ _ => cases hr
        | nil =>
          obtain ⟨⟨v, ob⟩, hv, hr⟩ := bind_some hr
          injection hr with hr
          injection hr with h1 h2
          subst h1 h2
          exact hT f _ hG args v ob hv
      · cases hr
    · intro m live b env h x s' hr
      simp only [runs, phi] at hr
      obtain ⟨⟨x1, s1⟩, hrun, hr⟩ := bind_some hr
      have hl0 : look (number 0 h) = hF h := Q8j h
      have go : ∀ (Q' : Act → World → Prop) (c : Code), Q4k P b c = true → ∀ (w0 : World) (D0 : Nat → Option Nat) (H0 : Nat → Option Ob) (F : Nat → Nat → Prop) (n0 : Nat) (a : Act) (w : World) (D : Nat → Option Nat) (Q : Exit → Act → World → Prop),
          At w0 D0 H0 F n0 m env.length (envF env) (hF h) a w D → (∀ id, h.length ≤ id → D id = none) → m ≤ h.length →
          (∀ a' w' D', At w0 D0 H0 F n0 m s1.env.length (envF s1.env) (look s1.heap) a' w' D' → (∀ id, s1.nx ≤ id → D' id = none ∧ look s1.heap id = none) → m ≤ s1.nx → Exit.then Q' Q (exOf x1) a' w') → c.wp P (Exit.then Q' Q) a w := by
        intro Q' c hc w0 D0 H0 F n0 a w D Q A hf hn hQ
        refine Q7y hm hX hL b c hc _ x1 s1 hrun a w D _ (by rw [hl0]; exact A) (fun id hid => ⟨hf id hid, by rw [hl0]; exact List.getElem?_eq_none hid⟩) hn hQ
      cases x1 with
      | normal =>
        simp only at hr
        obtain ⟨y, hy, hr⟩ := bind_some hr
        obtain ⟨k, hk⟩ := hL _ _ _ _ _ _ _ hr
        refine ⟨k + 1, fun c hc w0 D0 H0 F n0 a w D Q A hf hn hQ => ?_⟩
        rw [rounds_succ]
        refine go _ c hc w0 D0 H0 F n0 a w D Q A hf hn fun a' w' D' A' hf' hn' => ?_
        obtain ⟨D2, A2, hf2, hn2⟩ := Q175 A' hf' hy
        exact hk c hc w0 D0 H0 F n0 a' w' D2 Q A2 (fun id h => (hf2 id h).1) hn2 hQ
      | exit j =>
        injection hr with hr
        injection hr with h1 h2
        subst h1 h2
        refine ⟨1, fun c hc w0 D0 H0 F n0 a w D Q A hf hn hQ => ?_⟩
        rw [rounds_succ]
        exact go _ c hc w0 D0 H0 F n0 a w D Q A hf hn fun a' w' D' A' hf' hn' => hQ a' w' D' A' hf' hn'
      | ret =>
        injection hr with hr
        injection hr with h1 h2
        subst h1 h2
        refine ⟨1, fun c hc w0 D0 H0 F n0 a w D Q A hf hn hQ => ?_⟩
        rw [rounds_succ]
        exact go _ c hc w0 D0 H0 F n0 a w D Q A hf hn fun a' w' D' A' hf' hn' => hQ a' w' D' A' hf' hn'
end
end Go.Pv
end

section
/-
  What a law is handed: readings of its arguments as trees.
-/
namespace Go.Pv
open Go.RowKit
inductive Ty where
  | bool
  | int (k : IntKind)
  | str
  | sl (bytes : Nat) (e : Ty)
  | st (fs : List Ty)
  | nm (t : Nat)
mutual
/-- Cells that lie as a type says. -/
inductive Of (Γ : Nat → Option Ty) : Ty → List PV → Prop
 | bool (b : Bool) : Of Γ .bool [.bool b]
 | int (k : IntKind) (n : Int) (h : (Lit.int k n).wf = true) : Of Γ (.int k) [.int k n]
 | str (s : ByteArray) (h : s.size ≤ 140737488351232) : Of Γ .str [.str s]
 | sl (bytes : Nat) (e : Ty) (l : List (List PV)) (h : l.length * bytes ≤ 140737488351232) (hl : ∀ r ∈ l, Of Γ e r) : Of Γ (.sl bytes e) [.sl l]
 | st (fs : List Ty) (c : List PV) (h : OfL Γ fs c) : Of Γ (.st fs) c
 | nm (t : Nat) (ty : Ty) (c : List PV) (hg : Γ t = some ty) (h : Of Γ ty c) : Of Γ (.nm t) c
inductive OfL (Γ : Nat → Option Ty) : List Ty → List PV → Prop
 | nil : OfL Γ [] []
 | cons (f : Ty) (fs : List Ty) (a b : List PV) (h : Of Γ f a) (hr : OfL Γ fs b) : OfL Γ (f :: fs) (a ++ b)
end

mutual
def Qcj (P : Program) (Γ : Nat → Option Ty) : Ty → TypeId → Bool
 | .bool, t => Qjq P t
 | .int k, t => intTy P t k
 | .str, t => Qf3 P t
 | .sl bytes e, t => (match P.underlying t with | some (.slice te) => Nat.beq (P.bytesOf te) bytes && Nat.ble 1 (P.cellsOf te) && Qcj P Γ e te | _ => false)
 | .st fs, t => (match P.underlying t with | some (.struct gs) => Q111 P Γ fs gs.toList 0 (P.cellsOf t) | _ => false)
 | .nm t', t => Nat.beq t' t && (Γ t').isSome
def Q111 (P : Program) (Γ : Nat → Option Ty) : List Ty → List Field → Nat → Nat → Bool
 | [], [], off, n => Nat.beq off n
 | f :: fs, g :: gs, off, n => Nat.beq g.offset off && Qcj P Γ f g.type && Q111 P Γ fs gs (off + P.cellsOf g.type) n
 | _, _, _, _ => false
end
def Ty.named : Ty → Bool
 | .nm _ => true
 | _ => false
def TabOK (P : Program) (Γ : Nat → Option Ty) : Prop := ∀ t ty, Γ t = some ty → ty.named = false ∧ Qcj P Γ ty t = true
theorem Qnl {α : Type} {Q : Nat → α → Prop} : ∀ n : Nat, (∀ i, i < n → ∃ x, Q i x) → ∃ l : List α, l.length = n ∧ ∀ i x, l[i]? = some x → Q i x
  | 0, _ => ⟨[], rfl, fun i x h => by simp at h⟩
  | n + 1, h => by
    obtain ⟨l, hl, hq⟩ := Qnl n (fun i hi => h i (by omega))
    obtain ⟨x, hx⟩ := h n (by omega)
    refine ⟨l ++ [x], by simp [hl], fun i y hy => ?_⟩
    by_cases c : i < l.length
    · rw [List.getElem?_append_left c] at hy
      exact hq i y hy
    · rw [List.getElem?_append_right (by omega)] at hy
      have hi : i - l.length = 0 := by
        have := (List.getElem?_eq_some_iff.1 hy).1
        simp at this
        omega
      rw [hi] at hy
      simp at hy
      subst hy
      rw [show i = n by omega]
      exact hx
def NoM : Nat → Nat → Prop := fun _ _ => False
def NoD : Nat → Option Nat := fun _ => none
def Light {H : Type} (P : Program) (t : TypeId) (d : DataW H) : Prop := (d.weights P t).all (· ≤ reachBytes) = true
section
variable {H : Type} {enc : TypeId × Value → H} {P : Program} {w : World} {base : Nat} {sp : Nat → Bool} {held : Bool} {Γ : Nat → Option Ty}
theorem Q1am {ts : List TypeId} {ds : List (DataW H)} (h : (DataW.weightsEach P ts ds).all (· ≤ reachBytes) = true) : ∀ (i : Nat) t d, ts[i]? = some t → ds[i]? = some d → Light P t d := by
  induction ts generalizing ds with
  | nil => intro i t d ht; simp at ht
  | cons t0 ts ih =>
    cases ds with
    | nil => intro i t d _ hd; simp at hd
    | cons d0 ds =>
      simp only [DataW.weightsEach, List.all_append, Bool.and_eq_true] at h
      intro i t d ht hd
      cases i with
      | zero =>
        simp at ht hd
        subst ht hd
        exact h.1
      | succ i => exact ih h.2 i t d (by simpa using ht) (by simpa using hd)
theorem Q1ia {e : TypeId} {ds : List (DataW H)} (h : (DataW.weightsAll P e ds).all (· ≤ reachBytes) = true) : ∀ d ∈ ds, Light P e d := by
  induction ds with
  | nil => intro d hd; cases hd
  | cons d0 ds ih =>
    simp only [DataW.weightsAll, List.all_append, Bool.and_eq_true] at h
    intro d hd
    rcases List.mem_cons.1 hd with rfl | hd
    · exact h.1
    · exact ih h.2 d hd
theorem RepN.app {M : Nat → Nat → Prop} {D : Nat → Option Nat} {xs ys : List Value} {a b : List PV} (h : RepN w M D xs a) (h' : RepN w M D ys b) : RepN w M D (xs ++ ys) (a ++ b) := by
  refine ⟨by simp [h.1, h'.1], fun i v p hv hp => ?_⟩
  by_cases c : i < xs.length
  · rw [List.getElem?_append_left c] at hv
    rw [List.getElem?_append_left (by rw [← h.1]; exact c)] at hp
    exact h.2 i v p hv hp
  · rw [List.getElem?_append_right (by omega)] at hv
    rw [List.getElem?_append_right (by rw [← h.1]; omega), ← h.1] at hp
    exact h'.2 _ v p hv hp
theorem RepN.one {M : Nat → Nat → Prop} {D : Nat → Option Nat} {v : Value} {p : PV} (h1 : v.oneCell' = true) (h : Rep w M D v p) : RepN w M D [v] [p] := by
 refine ⟨rfl, fun i u q hu hq => ?_⟩
 cases i with
 | zero =>
  simp at hu hq
  subst hu hq
  exact ⟨h1, h⟩
 | succ i => simp at hu
def Ty.isSt (Γ : Nat → Option Ty) : Ty → Bool
 | .st _ => true
 | .nm t => (match Γ t with | some (.st _) => true | _ => false)
 | _ => false
def Arg (Γ : Nat → Option Ty) (ty : Ty) (p : PV) : Prop := ∃ c, Of Γ ty c ∧ (bif ty.isSt Γ then p = .agg c else c = [p])
def chkArgs (P : Program) (Γ : Nat → Option Ty) : List Ty → List TypeId → Bool
 | [], [] => true
 | ty :: tys, t :: ts => Qcj P Γ ty t && (match P.underlying t with | some (.struct _) => ty.isSt Γ | some (.array _ _) => false | _ => !(ty.isSt Γ)) && P.readableRec t && decide (t < P.types.size) && chkArgs P Γ tys ts
 | _, _ => false
theorem args_stay (hl : laidOutB P = true) {W W' : World} (hb : Below W.heap.size W W') : ∀ {tys : List Ty} {ts : List TypeId} {vs : List Value} {ds : List (DataW H)} {ps : List MemPlace}, chkArgs P Γ tys ts = true → DataW.TrodAll enc P W 0 (fun _ => true) true ts vs ds ps →
  DataW.TrodAll enc P W' 0 (fun b => decide (b < W.heap.size)) true ts vs ds ps
 | [], [], vs, ds, ps, _, h => by
  obtain ⟨rfl, rfl, rfl⟩ := ChangeShapes.trodAll_nil h
  rfl
 | [], _ :: _, _, _, _, hc, _ => by cases hc
 | _ :: _, [], _, _, _, hc, _ => by cases hc
 | ty :: tys, t :: ts, vs, ds, ps, hc, h => by
  simp only [chkArgs, Bool.and_eq_true] at hc
  obtain ⟨v, vs', d, ds', p, q, rfl, rfl, rfl, h1, h2⟩ := ChangeShapes.trodAll_cons h
  refine ⟨p, q, Below.trod hl hc.1.1.2 (by simpa using hc.1.2) h1 hb ?_, args_stay hl hb hc.2 h2, rfl⟩
  obtain ⟨m, hm⟩ := h1
  exact DataW.trod_lt m _ _ _ hm
end
theorem Q1vz {P : Program} : Tie P (tabG []) := fun _ _ h => by cases h
theorem Qbc {P : Program} {r : List (Nat × Fun)} (ht : Tie P (tabG r)) {f : Nat} {d : Fun} (hd : match d with | .ir fn => ∃ Fn, P.funcs[f]? = some Fn ∧ Qz P Fn fn = true | .cmpstr => Q1ky P f | .ax φ => AxOK P f φ) : Tie P (tabG ((f, d) :: r)) := by
  intro k d' h
  simp only [tabG] at h
  by_cases c : f = k
  · subst c
    simp only [Nat.beq_refl, cond_true, Option.some.injEq] at h
    subst h
    exact hd
  · have : Nat.beq f k = false := by rw [Bool.eq_false_iff]; exact fun h => c (Nat.eq_of_beq_eq_true h)
    rw [this] at h
    exact ht k d' h
theorem Qf {P : Program} {r : List (Nat × Fun)} {f : Nat} {Fn : Func} {fn : IFn} (hf : P.funcs[f]? = some Fn) (hc : Qz P Fn fn = true) (ht : Tie P (tabG r)) : Tie P (tabG ((f, .ir fn) :: r)) := Qbc ht ⟨Fn, hf, hc⟩
end Go.Pv
end

section
/- What slices.Clone answers: a row of one's own. -/
namespace Go.Pv
def bare : PV → Bool
 | .bool _ => true
 | .int _ _ => true
 | .str _ => true
 | .sl _ => true
 | .np => true
 | .nf => true
 | _ => false
def Qnn (sz bytes : Nat) : List PV → Option (PV × List Ob)
 | [.sl l] => bif Q86 l sz && Nat.ble (l.length * bytes) 140737488355328 && l.flatten.all bare then some (.ms 0 sz 0 l.length, [⟨sz, 0, true, l.flatten⟩]) else none
 | _ => none
def Qno (sz bytes : Nat) : List PV → Option (PV × List Ob)
 | [.sl l] => bif Q86 l sz && Nat.ble (l.length * bytes) 140737488355328 && l.flatten.all bare then some (.sl l, []) else none
 | _ => none
end Go.Pv
end

section
/- slices.Clone's contract, proved of every program that holds its text. -/
namespace Go.Pv
open Go.RowKit
def irA (sz : Nat) : IR := .reg [⟨some 2, none, .mov (.c (.ns sz)), []⟩] false
def irB (sz : Nat) : IR := .cond (.t 4) (.seq (.reg [⟨some 2, none, .mov (.c (.ns sz)), []⟩] false) .ret) .skip
def irC (sz bytes : Nat) (z : List PV) : IR := .seq (.reg [⟨some 5, none, .lit sz 0 z [], []⟩, ⟨some 6, none, .mov (.t 0), []⟩, ⟨some 7, none, .append sz bytes (.t 5) (.t 6), []⟩, ⟨some 2, none, .mov (.t 7), []⟩] false) .ret
def Q1hh (P : Program) (ops : Array Oper) : Bool :=
 match ops.toList with
 | [x, y] => Qb3 P ops x ⟨some 3, none, .mov (.t 0), []⟩ && Qy1 y.dst (some 4) && Qjk ops y.guard none &&
  (match y.op with | .binOp .eql T (.tmp 3) (.const (.slice none 0 0)) _ => (match P.underlying T with | some (.slice _) => true | _ => false) | _ => false)
 | _ => false
def Q7a (P : Program) (Fn : Func) (sz bytes : Nat) (z : List PV) : Bool :=
 Nat.beq Fn.ntmps 8 && Qdr P Fn.results.toList [.tmp 2] && !(Fn.name == "runtime.NumGoroutine") &&
 (match Fn.body with
  | some (.seq c0 (.seq (.seq (.region _ ops false) c2) c3)) => Q4k P (irA sz) c0 && Q1hh P ops && Q4k P (irB sz) c2 && Q4k P (irC sz bytes z) c3
  | _ => false)
def X0 : Orc := fun _ => none
theorem Q10y (P : Program) : Q8o P X0 := fun _ _ _ _ _ h => by cases h
theorem Q18a (P : Program) : Qvc P X0 := fun _ _ _ _ _ _ _ h => by cases h
section
variable {P : Program} {w0 : World} {D0 : Nat → Option Nat} {H0 : Nat → Option Ob} {F : Nat → Nat → Prop} {n0 m : Nat}
theorem Q1it {id : Nat} {ops : Array Oper} (hc : Q1hh P ops = true) {e : Nat → PV} {H : Nat → Option Ob} {a : Act} {w : World} {D : Nat → Option Nat} {L nx : Nat} (hL : 4 < L) {l : List (List PV)} (he : e 0 = .sl l)
    (A : At w0 D0 H0 F n0 m L e H a w D) (hf : ∀ id, nx ≤ id → D id = none ∧ H id = none) (hmn : m ≤ nx) {Q : Exit → Act → World → Prop}
    (hQ : ∀ (b : Bool) (a' : Act) (w' : World) (D' : Nat → Option Nat), (b = true → l = []) → At w0 D0 H0 F n0 m L (fun t => if t = 4 then .bool b else if t = 3 then .sl l else e t) H a' w' D' → (∀ id, nx + 128 ≤ id → D' id = none ∧ H id = none) → Q .normal a' w') :
    (Code.region id ops false).wp P Q a w := by
  unfold Q1hh at hc
  split at hc
  · rename_i x y hxy
    rw [Bool.and_eq_true, Bool.and_eq_true, Bool.and_eq_true] at hc
    obtain ⟨⟨⟨hx, hyd⟩, hyg⟩, hyo⟩ := hc
    have hyd := Qea hyd
    have hsz : ops.size = 2 := by rw [← Array.length_toList, hxy]; rfl
    have h0 : ops[0]? = some x := by rw [← Array.getElem?_toList, hxy]; rfl
    have h1 : ops[1]? = some y := by rw [← Array.getElem?_toList, hxy]; rfl
    refine wp_region ?_
    rw [hsz, show List.range 2 = [0, 1] from rfl, wpOps_cons]
    refine Qf8 (X := X0) (Q10y P) A (fr := nx) hmn (fun id h1 _ => hf id h1) h0 hx (f := ⟨.sl l, [], []⟩) (by simp only [Q8y, IOper.wanted, Option.bind_some, cond_true, iop, opP, Opd.ev, he])
      (e' := fun t => if t = 3 then .sl l else e t) (H' := H) (fun t => ?_) rfl (fun a1 w1 D1 A1 hf1 => ?_)
    · show _ = if some 3 = some t ∧ t < L then PV.sl l else e t
      by_cases c : t = 3
      · subst c
        simp
        omega
      · rw [if_neg c, if_neg (fun h => c (Option.some.inj h.1).symm)]
    · rw [wpOps_cons]
      have hw := Qfz A1.env (o := y) (io := ⟨some 4, none, .mov (.t 0), []⟩) hyg (b := true) rfl
      unfold wpOp
      simp only [h1]
      rw [hw, if_pos rfl]
      refine .inl ?_
      split at hyo
      · rename_i T yt hop
        split at hyo
        · rename_i te hT
          have hr : Rep w1 (Mut D1 H F) D1 (a1.tmps.getD 3 undef) (.sl l) := by
            have := A1.env 3
            simpa using this
          generalize hu : a1.tmps.getD 3 undef = u at hr
          cases hr with
          | sl _ B n c sz' _ b o vs hn hcc hm hrs hA hcell hrep =>
            have hev : a1.eval (.tmp 3) = .slice B n c := hu
            have hev2 : a1.eval (.const (.slice none 0 0)) = .slice none 0 0 := rfl
            have hrun : (execOp a1.eval y).run P w1 = .ok (.value (.bool B.isNone)) w1 := by
              have hb := Lib.run_eql_slice_nil (P := P) w1 T te B n c 0 0 hT
              obtain ⟨yd, yop, yty, ypos, yaf, yg⟩ := y
              simp only at hop
              subst hop
              simp [execOp, eqGuard, hev, hev2, hb]
            unfold Oper.wp
            rw [hrun]
            refine hQ B.isNone _ w1 D1 (fun hb => ?_) (A1.step (fr := m) (Step.same A1.sim rfl rfl rfl rfl) (Nat.le_refl _) (p := .bool B.isNone) (.bool _ _) (fun t => ?_)) (fun id hid => ?_)
            · cases B with
              | some _ => cases hb
              | none =>
                cases l with
                | nil => rfl
                | cons r rs =>
                  exfalso
                  have := hA (by rw [← hn]; simp)
                  cases this
            · rw [hyd]
              by_cases c : t = 4
              · subst c
                rw [if_pos rfl, if_pos ⟨rfl, hL⟩]
              · rw [if_neg c, if_neg (show ¬ (some 4 = some t ∧ t < L) from fun h => c (Option.some.inj h.1).symm)]
            · exact ⟨hf1 id (hf id (by omega)).1 (by omega), (hf id (by omega)).2⟩
        · cases hyo
      · cases hyo
  · cases hc
end
abbrev cfn (keep : Bool) : IFn := ⟨1, 8, [.tmp 2], keep, .skip⟩
theorem Q112 {P : Program} (hm : P.follows .mixedOrders = true) {f : Nat} {Fn : Func} (hf : P.funcs[f]? = some Fn) {sz bytes : Nat} {z : List PV} (hc : Q7a P Fn sz bytes z = true) {l : List (List PV)} (hrs : Q86 l sz = true) (hby : Nat.ble (l.length * bytes) 140737488355328 = true) (keep : Bool) {r : PV} {h' : List Ob}
    (f1 : l = [] → fin (cfn keep) 0 ⟨[.sl [], .un, .ns sz, .sl [], .bool true, .un, .un, .un], [], 256⟩ = some (.ret r h'))
    (f2 : fin (cfn keep) 0 ⟨[.sl l, .un, .ms (192 + 128) sz 0 (0 + l.length), .sl l, .bool false, .ms 192 sz 0 0, .sl l, .ms (192 + 128) sz 0 (0 + l.length)], [(192 + 128, ⟨sz, 0, true, [] ++ l.flatten⟩)], 448⟩ = some (.ret r h')) : Q9o P f ∧ Q15g P f [.sl l] [] r h' := by
  unfold Q7a at hc
  rw [Bool.and_eq_true, Bool.and_eq_true, Bool.and_eq_true] at hc
  obtain ⟨⟨⟨hnt, hres⟩, hname⟩, hbody⟩ := hc
  have hnt := Nat.eq_of_beq_eq_true hnt
  split at hbody
  · rename_i c0 id ops c2 c3 hB
    rw [Bool.and_eq_true, Bool.and_eq_true, Bool.and_eq_true] at hbody
    obtain ⟨⟨⟨k0, k1⟩, k2⟩, k3⟩ := hbody
    refine ⟨⟨Fn, hf, by rw [hB]; rfl, by simpa using hname⟩, fun w D F vals S hD hv => ?_⟩
    have hvs : vals.size = 1 := by have := hv.1; simpa using this
    have A : At w D (hF []) F w.heap.size 0 ([PV.sl l] ++ nuns 7).length (envF ([PV.sl l] ++ nuns 7)) (look (number 0 [])) { tmps := vals ++ Array.replicate (Fn.ntmps - vals.size) undef, defers := [] } w D := by
      rw [Q8j]
      refine ⟨S, fun t => ?_, by simp [(Qba _ 0).1, hvs, hnt], fun t ht => ?_, Keeps.refl _ w, fun _ _ => rfl, fun _ _ _ h => h, rfl⟩
      · by_cases c : t < 1
        · have ht0 : t = 0 := by omega
          subst ht0
          have hlt : 0 < vals.size := by omega
          have e2 : (vals ++ Array.replicate (Fn.ntmps - vals.size) undef).getD 0 undef = vals[0] := by
            rw [Array.getD_eq_getD_getElem?, Array.getElem?_append_left hlt, Array.getElem?_eq_getElem hlt]
            rfl
          show Rep _ _ _ ((vals ++ Array.replicate (Fn.ntmps - vals.size) undef).getD 0 undef) _
          rw [e2]
          exact hv.2 0 _ _ (by simp [hlt]) rfl
        · have e1 : envF ([PV.sl l] ++ nuns 7) t = .un := by
            have := (Qba 7 (t - 1)).2
            unfold envF at this ⊢
            rw [List.getD_eq_getElem?_getD, List.getElem?_append_right (by simp; omega), ← List.getD_eq_getElem?_getD]
            exact this
          rw [e1]
          exact .un _ _
      · show envF _ t = .un
        unfold envF
        rw [List.getD_eq_getElem?_getD, List.getElem?_eq_none ht]
        rfl
    have hfr : ∀ id, 0 ≤ id → D id = none ∧ look (number 0 ([] : List Ob)) id = none := fun id hid => ⟨hD id hid, rfl⟩
    refine calls_of_wp hf hB (wp_seq (Q7y hm (Q10y P) (Q18a P) (irA sz) c0 k0 ⟨[PV.sl l] ++ nuns 7, number 0 [], 0⟩ .normal ⟨[.sl l, .un, .ns sz, .un, .un, .un, .un, .un], [], 64⟩ rfl _ w D _ A hfr (Nat.le_refl _) fun a1 w1 D1 A1 hf1 hn1 => ?_))
    refine wp_seq (wp_seq (Q1it k1 (by simp) rfl A1 hf1 hn1 fun b a2 w2 D2 hbl A2 hf2 => ?_))
    have A2' : At w D (hF []) F w.heap.size 0 8 (envF [.sl l, .un, .ns sz, .sl l, .bool b, .un, .un, .un]) (look []) a2 w2 D2 := by
      have e : (fun t => if t = 4 then PV.bool b else if t = 3 then .sl l else envF [.sl l, .un, .ns sz, .un, .un, .un, .un, .un] t) = envF [.sl l, .un, .ns sz, .sl l, .bool b, .un, .un, .un] := by
        funext t
        match t with
        | 0 | 1 | 2 | 3 | 4 | 5 | 6 | 7 => rfl
        | t + 8 => simp [envF]
      rw [← e]
      exact A2
    cases b with
    | true =>
      have hl := hbl rfl
      have g1 := f1 hl
      subst hl
      refine Q7y hm (Q10y P) (Q18a P) (irB sz) c2 k2 ⟨[.sl [], .un, .ns sz, .sl [], .bool true, .un, .un, .un], [], 192⟩ .ret ⟨[.sl [], .un, .ns sz, .sl [], .bool true, .un, .un, .un], [], 256⟩ rfl _ w2 D2 _ A2' hf2 (Nat.zero_le _) fun a3 w3 D3 A3 hf3 hn3 => ?_
      obtain ⟨v, p, h1, D4, e1, e2, e3, e4, e5, e6, e7, e8⟩ := Qnr (fn := cfn keep) A3 hf3 hres g1
      injection e1 with e1 e1'
      subst e1 e1'
      exact ⟨A3.defers, v, e2, v, D4, rfl, e3, A3.keeps, fun id hid => absurd hid (Nat.not_lt_zero _), e5, fun b o hb hmu => A3.sub b o hb (e6 b o hmu), e7, e8⟩
    | false =>
      refine Q7y hm (Q10y P) (Q18a P) (irB sz) c2 k2 ⟨[.sl l, .un, .ns sz, .sl l, .bool false, .un, .un, .un], [], 192⟩ .normal ⟨[.sl l, .un, .ns sz, .sl l, .bool false, .un, .un, .un], [], 192⟩ rfl _ w2 D2 _ A2' hf2 (Nat.zero_le _) fun a3 w3 D3 A3 hf3 hn3 => ?_
      refine Q7y hm (Q10y P) (Q18a P) (irC sz bytes z) c3 k3 ⟨[.sl l, .un, .ns sz, .sl l, .bool false, .un, .un, .un], [], 192⟩ .ret ⟨[.sl l, .un, .ms (192 + 128) sz 0 (0 + l.length), .sl l, .bool false, .ms 192 sz 0 0, .sl l, .ms (192 + 128) sz 0 (0 + l.length)], [(192 + 128, ⟨sz, 0, true, [] ++ l.flatten⟩)], 448⟩ ?_ _ w3 D3 _ A3 hf3 (Nat.zero_le _) fun a4 w4 D4 A4 hf4 hn4 => ?_
      · have h1 : Nat.ble ((0 + l.length) * bytes) 140737488355328 = true := by rw [Nat.zero_add]; exact hby
        unfold irC
        simp only [Q5e, ireg, Q6w, Q8y, IOper.wanted, Option.bind_some, cond_true, iop, opA, Qf1, rep, Qds, opP, Opd.ev, Q5a, apC, source, look, hput, hput.repl, hput.drop, put, envF, List.set, List.getD_cons_zero, List.getD_cons_succ, hrs, Nat.beq_refl, Nat.zero_mul, List.length_nil, Bool.and_true, Bool.and_self, h1, Bool.not_false, Bool.true_or, List.length_cons]
      · obtain ⟨v, p, h1, D5, e1, e2, e3, e4, e5, e6, e7, e8⟩ := Qnr (fn := cfn keep) A4 hf4 hres f2
        injection e1 with e1 e1'
        subst e1 e1'
        exact ⟨A4.defers, v, e2, v, D5, rfl, e3, A4.keeps, fun id hid => absurd hid (Nat.not_lt_zero _), e5, fun b o hb hmu => A4.sub b o hb (e6 b o hmu), e7, e8⟩
  · cases hbody
theorem Que {sz bytes : Nat} {l : List (List PV)} (hb : (Q86 l sz && Nat.ble (l.length * bytes) 140737488355328 && l.flatten.all bare) = true) : Q86 l sz = true ∧ Nat.ble (l.length * bytes) 140737488355328 = true ∧ ∀ p ∈ l.flatten, plain p = true := by
 rw [Bool.and_eq_true, Bool.and_eq_true] at hb
 exact ⟨hb.1.1, hb.1.2, fun p hp => by
  have := List.all_eq_true.1 hb.2 p hp
  cases p <;> first | rfl | (cases this)⟩
theorem Qx9 {P : Program} (hm : P.follows .mixedOrders = true) {f : Nat} {Fn : Func} (hf : P.funcs[f]? = some Fn) {sz bytes : Nat} {z : List PV} (hc : Q7a P Fn sz bytes z = true) : AxOK P f (Qnn sz bytes) := by
  intro args r h' hφ
  unfold Qnn at hφ
  split at hφ
  · rename_i l
    cases hb : (Q86 l sz && Nat.ble (l.length * bytes) 140737488355328 && l.flatten.all bare) with
    | false => rw [hb] at hφ; cases hφ
    | true =>
      rw [hb] at hφ
      simp only [cond_true, Option.some.injEq, Prod.mk.injEq] at hφ
      obtain ⟨rfl, rfl⟩ := hφ
      obtain ⟨hrs, hby, hpl⟩ := Que hb
      refine Q112 hm hf hc hrs hby true (fun e => by subst e; rfl) ?_
      have hp := Qcr (H := look ([(192 + 128, (⟨sz, 0, true, l.flatten⟩ : Ob))] ++ [])) (byRef := false) (n := 7) l.flatten [192 + 128] hpl
      have ho : Q3s (look ([(192 + 128, (⟨sz, 0, true, l.flatten⟩ : Ob))] ++ [])) false true (31 + 1) 0 [192 + 128] = some ([⟨sz, 0, true, l.flatten⟩], [192 + 128], []) := by
        rw [Q3s]
        show (some (⟨sz, 0, true, l.flatten⟩ : Ob)).bind _ = _
        rw [Option.bind_some]
        show (Q5y (pass _ false 8) l.flatten [192 + 128]).bind _ = _
        rw [hp, Option.bind_some]
        rfl
      show (Q3s (look ([(192 + 128, (⟨sz, 0, true, l.flatten⟩ : Ob))] ++ [])) false true (31 + 1) 0 [192 + 128]).bind _ = _
      rw [ho, Option.bind_some]
      show some (Rs.ret (.ms 0 sz 0 (0 + l.length)) [⟨sz, 0, true, l.flatten⟩]) = _
      rw [Nat.zero_add]
  · cases hφ
theorem Qnp {P : Program} (hm : P.follows .mixedOrders = true) {f : Nat} {Fn : Func} (hf : P.funcs[f]? = some Fn) {sz bytes : Nat} {z : List PV} (hc : Q7a P Fn sz bytes z = true) : AxOK P f (Qno sz bytes) := by
  intro args r h' hφ
  unfold Qno at hφ
  split at hφ
  · rename_i l
    cases hb : (Q86 l sz && Nat.ble (l.length * bytes) 140737488355328 && l.flatten.all bare) with
    | false => rw [hb] at hφ; cases hφ
    | true =>
      rw [hb] at hφ
      simp only [cond_true, Option.some.injEq, Prod.mk.injEq] at hφ
      obtain ⟨rfl, rfl⟩ := hφ
      obtain ⟨hrs, hby, hpl⟩ := Que hb
      refine Q112 hm hf hc hrs hby false (fun e => by subst e; rfl) ?_
      have hs : ∀ r ∈ l, r.length = sz := fun r hr => Nat.eq_of_beq_eq_true (List.all_eq_true.1 hrs r hr)
      have hz := Q1hr (H := look ([(192 + 128, (⟨sz, 0, true, l.flatten⟩ : Ob))] ++ [])) (n := 6) (k := 7) rfl (id := 192 + 128) (sz := sz) (len := l.length) (ob := ⟨sz, 0, true, l.flatten⟩) (rows := l) rfl ⟨rfl, hs, fun r hr p hp => hpl p (List.mem_flatten.2 ⟨r, hr, hp⟩)⟩ rfl rfl
      unfold fin
      simp only [mapO, rv, envF, List.getD_cons_succ, List.getD_cons_zero, Option.bind_some, cond_false, Nat.zero_add, List.nil_append, List.append_nil] at hz ⊢
      simp only [Q5y, pass, upTo, cond_false, hz, Option.bind_some]
      rfl
  · cases hφ
end Go.Pv
end

