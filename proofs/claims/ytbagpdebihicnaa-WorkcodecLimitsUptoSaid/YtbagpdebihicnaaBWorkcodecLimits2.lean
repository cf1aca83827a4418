/- Texts of the claim, merged by a program; what the statement does not reach is left out. -/
import Derived.Test.YtbagpdebihicnaaBWorkcodecLimits1
import Derived.Orders
import Derived.LoopN
import Derived.ChangeArms
import Derived.ChangeSlices
import Derived.ChangeOld
import Derived.Carry
import GoSem.ClaimJoined
import Derived.Lib.SliceRun
import Derived.Test.YtbagpdebihicnaaProg
import Derived.KernelRfl

section
/-
  A region, in whatever order.
-/
namespace Go.Pv
open Go.RowKit
def Qa7 (ops : Array Oper) : Option (Nat × Bool) → Option (Nat × Bool) → Bool
  | none, none => true
  | some (j, w), some (s, w') => (w == w') && Qid ((ops[j]?).bind (·.dst)) s
  | _, _ => false
def Qie : Option Nat → Option Nat → Bool
 | none, none => true
 | some a, some b => Nat.beq a b
 | _, _ => false
def Q5x (P : Program) (ops : Array Oper) (o : Oper) (io : IOper) : Bool := Qie o.dst io.dst && Qa7 ops o.guard io.guard && Qmy P o.op io.op
def Qa8 (P : Program) (ops : Array Oper) : List Oper → List IOper → Bool
 | [], [] => true
 | o :: r, io :: r' => Q5x P ops o io && Qa8 P ops r r'
 | _, _ => false
def Qzj (ios : List IOper) (k : Nat) : List Nat :=
 match ios[k]? with
 | some io => io.bef
 | none => []
def Ql2 (ios : List IOper) : Nat → List Oper → List IOper → Bool
 | j, o :: r, io :: r' =>
  (io.bef.all fun i => o.after.toList.any fun e => Region.binds .any e && (Nat.beq e.on i || has (Qzj ios e.on) i)) &&
   (o.after.toList.all fun e => !(Region.binds .any e) || Nat.blt e.on j) && Ql2 ios (j + 1) r r'
 | _, _, _ => true
theorem Q7w {a b : Option Nat} (h : Qie a b = true) : a = b := by
 cases a <;> cases b <;> first | rfl | (cases h; done) | exact congrArg some (Nat.eq_of_beq_eq_true h)
theorem Q7o {P : Program} {ops : Array Oper} : ∀ {l : List Oper} {l' : List IOper}, Qa8 P ops l l' = true → l.length = l'.length ∧ ∀ (i : Nat) o io, l[i]? = some o → l'[i]? = some io → Q5x P ops o io = true
 | [], [], _ => ⟨rfl, fun i o io h => by simp at h⟩
 | [], _ :: _, h => by cases h
 | _ :: _, [], h => by cases h
 | o :: r, io :: r', h => by
  simp only [Qa8, Bool.and_eq_true] at h
  obtain ⟨h1, h2⟩ := Q7o h.2
  refine ⟨by simp [h1], fun i o' io' ho hio => ?_⟩
  cases i with
  | zero =>
   simp at ho hio
   subst ho hio
   exact h.1
  | succ i => exact h2 i o' io' (by simpa using ho) (by simpa using hio)
theorem Qca {ios : List IOper} : ∀ {j : Nat} {l : List Oper} {l' : List IOper}, Ql2 ios j l l' = true → ∀ (i : Nat) o io, l[i]? = some o → l'[i]? = some io →
    (∀ k ∈ io.bef, ∃ e ∈ o.after, Region.binds .any e = true ∧ (e.on = k ∨ k ∈ Qzj ios e.on)) ∧ ∀ e ∈ o.after, Region.binds .any e = true → e.on < j + i
  | j, [], l', _, i, o, io, ho, _ => by simp at ho
  | j, _ :: _, [], _, i, o, io, _, hio => by simp at hio
  | j, o :: r, io :: r', h, i, o', io', ho, hio => by
    simp only [Ql2, Bool.and_eq_true] at h
    cases i with
    | zero =>
      simp at ho hio
      subst ho hio
      refine ⟨fun k hk => ?_, fun e he hb => ?_⟩
      · have := List.all_eq_true.1 h.1.1 k hk
        obtain ⟨e, he, hb⟩ := List.any_eq_true.1 this
        rw [Bool.and_eq_true, Bool.or_eq_true] at hb
        exact ⟨e, by simpa using he, hb.1, hb.2.imp Nat.eq_of_beq_eq_true Q3o.1⟩
      · have := List.all_eq_true.1 h.1.2 e (by simpa using he)
        rw [Bool.or_eq_true] at this
        rcases this with h' | h'
        · rw [hb] at h'; cases h'
        · exact Nat.le_of_ble_eq_true h'
    | succ i =>
      obtain ⟨h1, h2⟩ := Qca h.2 i o' io' (by simpa using ho) (by simpa using hio)
      exact ⟨h1, fun e he hb => by have := h2 e he hb; omega⟩
def Last {β : Type} (W : Nat → Nat → Option β) (s0 : Nat → β) (S : Nat → Prop) (s : Nat → β) : Prop :=
 ∀ t, (∃ k, S k ∧ W k t = some (s t) ∧ ∀ k', S k' → k < k' → W k' t = none) ∨ ((∀ k, S k → W k t = none) ∧ s t = s0 t)
section
variable {β : Type} {W : Nat → Nat → Option β} {s0 : Nat → β}
theorem Last.det {S S' : Nat → Prop} {s s' : Nat → β} (h : Last W s0 S s) (h' : Last W s0 S' s') {t : Nat} (hs : ∀ k, W k t ≠ none → (S k ↔ S' k)) : s t = s' t := by
  rcases h t with ⟨k, h1, h2, h3⟩ | ⟨h1, h2⟩ <;> rcases h' t with ⟨k', g1, g2, g3⟩ | ⟨g1, g2⟩
  · rcases Nat.lt_trichotomy k k' with c | c | c
    · have := h3 k' ((hs k' (by rw [g2]; exact fun h => by cases h)).2 g1) c
      rw [g2] at this; cases this
    · subst c
      rw [h2] at g2
      injection g2
    · have := g3 k ((hs k (by rw [h2]; exact fun h => by cases h)).1 h1) c
      rw [h2] at this; cases this
  · have := g1 k ((hs k (by rw [h2]; exact fun h => by cases h)).1 h1)
    rw [h2] at this; cases this
  · have := h1 k' ((hs k' (by rw [g2]; exact fun h => by cases h)).2 g1)
    rw [g2] at this; cases this
  · rw [h2, g2]
theorem Last.add {S S' : Nat → Prop} {s s' : Nat → β} {i : Nat} (h : Last W s0 S s) (hS : ∀ k, S' k ↔ S k ∨ k = i) (hi : ∀ k t, S k → i < k → W k t ≠ none → W i t = none) (hs : ∀ t, s' t = (W i t).getD (s t)) : Last W s0 S' s' := by
  intro t
  cases hw : W i t with
  | some v =>
    refine .inl ⟨i, (hS i).2 (.inr rfl), by rw [hs t, hw]; rfl, fun k' hk hlt => ?_⟩
    rcases (hS k').1 hk with hk | rfl
    · cases hk' : W k' t with
      | none => rfl
      | some u =>
        have := hi k' t hk hlt (by rw [hk']; exact fun h => by cases h)
        rw [hw] at this; cases this
    · omega
  | none =>
    have e : s' t = s t := by rw [hs t, hw]; rfl
    rw [e]
    rcases h t with ⟨k, h1, h2, h3⟩ | ⟨h1, h2⟩
    · refine .inl ⟨k, (hS k).2 (.inl h1), h2, fun k' hk hlt => ?_⟩
      rcases (hS k').1 hk with hk | rfl
      · exact h3 k' hk hlt
      · exact hw
    · refine .inr ⟨fun k hk => ?_, h2⟩
      rcases (hS k).1 hk with hk | rfl
      · exact h1 k hk
      · exact hw
theorem Last.none {S : Nat → Prop} (h : ∀ k, ¬ S k) : Last W s0 S s0 := fun _ => .inr ⟨fun k hk => absurd hk (h k), rfl⟩
end
theorem Qp6 {l : List PV} {d : Option Nat} {v : PV} {t : Nat} : envF (put l d v) t = if d = some t ∧ t < l.length then v else envF l t := by
  unfold put envF
  cases d with
  | none => simp
  | some d =>
    by_cases c : d = t
    · subst c
      by_cases c' : d < l.length
      · simp [c']
      · simp [c']
    · simp [c, List.getElem?_set_ne c]
theorem Qg5 {l : List PV} {d : Option Nat} {v : PV} : (put l d v).length = l.length := by
 unfold put
 cases d <;> simp
theorem Qu6 {h : List (Nat × Ob)} {id j : Nat} {ob : Ob} : look (hput.repl h id ob) j = if j = id then some ob else look h j := by
  induction h with
  | nil =>
    simp only [hput.repl, look]
    by_cases c : id = j
    · subst c; simp
    · have : Nat.beq id j = false := by rw [Bool.eq_false_iff]; exact fun h => c (Nat.eq_of_beq_eq_true h)
      simp [this, Ne.symm c]
  | cons y r ih =>
    obtain ⟨k, x⟩ := y
    simp only [hput.repl]
    by_cases c : k = id
    · subst c
      simp only [Nat.beq_refl, cond_true, look]
      by_cases c' : k = j
      · subst c'; simp
      · have : Nat.beq k j = false := by rw [Bool.eq_false_iff]; exact fun h => c' (Nat.eq_of_beq_eq_true h)
        simp [this, Ne.symm c']
    · have : Nat.beq k id = false := by rw [Bool.eq_false_iff]; exact fun h => c (Nat.eq_of_beq_eq_true h)
      simp only [this, cond_false, look, ih]
      by_cases c' : k = j
      · subst c'; simp [c]
      · have : Nat.beq k j = false := by rw [Bool.eq_false_iff]; exact fun h => c' (Nat.eq_of_beq_eq_true h)
        simp [this]
theorem Qu4 {h : List (Nat × Ob)} {id j : Nat} : look (hput.drop h id) j = if j = id then none else look h j := by
  induction h with
  | nil => simp [hput.drop, look]
  | cons y r ih =>
    obtain ⟨k, x⟩ := y
    simp only [hput.drop]
    by_cases c : k = id
    · subst c
      simp only [Nat.beq_refl, cond_true, look, ih]
      by_cases c' : k = j
      · subst c'; simp
      · have : Nat.beq k j = false := by rw [Bool.eq_false_iff]; exact fun h => c' (Nat.eq_of_beq_eq_true h)
        simp [this]
    · have : Nat.beq k id = false := by rw [Bool.eq_false_iff]; exact fun h => c (Nat.eq_of_beq_eq_true h)
      simp only [this, cond_false, look, ih]
      by_cases c' : k = j
      · subst c'; simp [c]
      · have : Nat.beq k j = false := by rw [Bool.eq_false_iff]; exact fun h => c' (Nat.eq_of_beq_eq_true h)
        simp [this]
theorem Q46 : ∀ (ws : List (Nat × Option Ob)) (h : List (Nat × Ob)), look (hput h ws) = upH (look h) ws
 | [], h => rfl
 | (id, some ob) :: r, h => by
  rw [hput, Q46 r, upH]
  congr 1
  funext j
  exact Qu6
 | (id, none) :: r, h => by
  rw [hput, Q46 r, upH]
  congr 1
  funext j
  exact Qu4
theorem Qd7 : ∀ {ws : List (Nat × Option Ob)} {H H' : Nat → Option Ob} {j : Nat}, (∃ x ∈ ws, x.1 = j) → upH H ws j = upH H' ws j
  | [], _, _, _, h => by obtain ⟨x, hx, _⟩ := h; cases hx
  | (id, o) :: r, H, H', j, h => by
    rw [upH, upH]
    by_cases c : ∃ y ∈ r, y.1 = j
    · exact Qd7 c
    · rw [Q4g (fun y hy e => c ⟨y, hy, e⟩), Q4g (fun y hy e => c ⟨y, hy, e⟩)]
      obtain ⟨y, hy, rfl⟩ := h
      rcases List.mem_cons.1 hy with rfl | hy
      · simp
      · exact absurd ⟨y, hy, rfl⟩ c
def WE (L : Nat) (ios : List IOper) (xs : List Eff) (k t : Nat) : Option PV :=
 match ios[k]?, xs[k]? with
 | some o, some x => if o.dst = some t ∧ t < L then some x.v else none
 | _, _ => none
def WH (xs : List Eff) (k id : Nat) : Option (Option Ob) :=
  match xs[k]? with
  | some x => bif has (x.hw.map (·.1)) id then some (upH (fun _ => none) x.hw id) else none
  | none => none
theorem Qsx {L : Nat} {ios : List IOper} {xs : List Eff} {k t : Nat} {o : IOper} {x : Eff} (ho : ios[k]? = some o) (hx : xs[k]? = some x) (p : PV) : (WE L ios xs k t).getD p = if o.dst = some t ∧ t < L then x.v else p := by
 unfold WE
 rw [ho, hx]
 simp only
 split <;> rfl
theorem Qsy {xs : List Eff} {k id : Nat} {x : Eff} (hx : xs[k]? = some x) (H : Nat → Option Ob) : (WH xs k id).getD (H id) = upH H x.hw id := by
  unfold WH
  rw [hx]
  simp only
  cases hh : has (x.hw.map (·.1)) id with
  | true =>
    have := Q3o.1 hh
    obtain ⟨y, hy, e⟩ := List.mem_map.1 this
    exact Qd7 ⟨y, hy, e⟩
  | false =>
    show H id = _
    rw [Q4g (fun y hy e => by rw [Q3o.2 (List.mem_map.2 ⟨y, hy, e⟩)] at hh; cases hh)]
theorem Q10u {L : Nat} {ios : List IOper} {xs : List Eff} {k t : Nat} (h : WE L ios xs k t ≠ none) : ∃ o x, ios[k]? = some o ∧ xs[k]? = some x ∧ o.dst = some t ∧ t < L := by
  unfold WE at h
  split at h
  · rename_i o x ho hx
    split at h
    · rename_i hc; exact ⟨o, x, ho, hx, hc.1, hc.2⟩
    · exact absurd rfl h
  · exact absurd rfl h
theorem Qzh {L : Nat} {ios : List IOper} {xs : List Eff} {k t : Nat} {o : IOper} (ho : ios[k]? = some o) (h : o.dst ≠ some t) : WE L ios xs k t = none := by
 unfold WE
 rw [ho]
 cases xs[k]? with
 | none => rfl
 | some x =>
  simp only
  rw [if_neg (fun hc => h hc.1)]
theorem Q10v {xs : List Eff} {k id : Nat} (h : WH xs k id ≠ none) : ∃ x, xs[k]? = some x ∧ id ∈ x.hw.map (·.1) := by
  unfold WH at h
  split at h
  · rename_i x hx
    cases hh : has (x.hw.map (·.1)) id with
    | true => exact ⟨x, hx, Q3o.1 hh⟩
    | false => rw [hh] at h; exact absurd rfl h
  · exact absurd rfl h
theorem Qzi {xs : List Eff} {k id : Nat} {x : Eff} (hx : xs[k]? = some x) (h : id ∉ x.hw.map (·.1)) : WH xs k id = none := by
  unfold WH
  rw [hx]
  simp only
  cases hh : has (x.hw.map (·.1)) id with
  | true => exact absurd (Q3o.1 hh) h
  | false => rfl
theorem Q91 {X : Orc} {nx : Nat} {ios : List IOper} {xs : List Eff} {L : Nat} {e0 : Nat → PV} {H0 : Nat → Option Ob} : ∀ (r : List IOper) (i : Nat) (env : List PV) (h : List (Nat × Ob)) (y : List PV × List (Nat × Ob) × List Eff),
    Q3d X nx i r env h = some y → (∀ j, r[j]? = ios[i + j]?) → (∀ j, y.2.2[j]? = xs[i + j]?) → env.length = L → Last (WE L ios xs) e0 (· < i) (envF env) → Last (WH xs) H0 (· < i) (look h) →
      y.2.2.length = r.length ∧ y.1.length = L ∧ (∀ (j : Nat) o x, i ≤ j → ios[j]? = some o → xs[j]? = some x → ∃ e H, Last (WE L ios xs) e0 (· < j) e ∧ Last (WH xs) H0 (· < j) H ∧ Q4w X e H (nx + 64 * j) o = some x) ∧
        Last (WE L ios xs) e0 (· < i + r.length) (envF y.1) ∧ Last (WH xs) H0 (· < i + r.length) (look y.2.1)
  | [], i, env, h, y, hy, hr, hx, hL, l1, l2 => by
    simp only [Q3d, Option.some.injEq] at hy
    subst hy
    refine ⟨rfl, hL, fun j o x hj ho _ => ?_, l1, l2⟩
    have := hr (j - i)
    rw [show i + (j - i) = j by omega, ho] at this
    simp at this
  | o :: r, i, env, h, y, hy, hr, hx, hL, l1, l2 => by
    simp only [Q3d] at hy
    obtain ⟨x, hst, hy⟩ := bind_some hy
    obtain ⟨z, hz, hy⟩ := bind_some hy
    injection hy with hy
    subst hy
    have ho : ios[i]? = some o := by have := hr 0; simpa using this.symm
    have hxi : xs[i]? = some x := by have := hx 0; simpa using this.symm
    have n1 : Last (WE L ios xs) e0 (· < i + 1) (envF (put env o.dst x.v)) := l1.add (i := i) (fun k => by omega) (fun k t hk hlt => by omega) (fun t => by rw [Qsx ho hxi, Qp6, hL])
    have n2 : Last (WH xs) H0 (· < i + 1) (look (hput h x.hw)) := l2.add (i := i) (fun k => by omega) (fun k t hk hlt => by omega) (fun t => by rw [Qsy hxi, Q46])
    obtain ⟨g1, g2, g3, g4, g5⟩ := Q91 r (i + 1) _ _ z hz (fun j => by have := hr (j + 1); rw [show i + (j + 1) = i + 1 + j by omega] at this; simpa using this)
      (fun j => by have := hx (j + 1); rw [show i + (j + 1) = i + 1 + j by omega] at this; simpa using this) (by rw [Qg5, hL]) n1 n2
    refine ⟨by simp [g1], g2, fun j o' x' hj ho' hx' => ?_, ?_, ?_⟩
    · by_cases c : j = i
      · subst c
        rw [ho] at ho'
        injection ho' with ho'
        rw [hxi] at hx'
        injection hx' with hx'
        subst ho' hx'
        exact ⟨_, _, l1, l2, hst⟩
      · exact g3 j o' x' (by omega) ho' hx'
    · rw [show i + (o :: r).length = i + 1 + r.length by simp; omega]; exact g4
    · rw [show i + (o :: r).length = i + 1 + r.length by simp; omega]; exact g5
theorem Qfq {j : Nat} {b : IOper} {y : Eff} : ∀ {i : Nat} {l : List (IOper × Eff)}, Qwz j b y i l = true → ∀ (k : Nat) a x, l[k]? = some (a, x) → i + k = j ∨ i + k ∈ b.bef ∨ clash a x b y = false
  | i, [], _, k, a, x, h => by simp at h
  | i, (a, x) :: r, h, k, a', x', hk => by
    simp only [Qwz, Bool.and_eq_true, Bool.or_eq_true] at h
    cases k with
    | zero =>
      simp at hk
      obtain ⟨rfl, rfl⟩ := hk
      rcases h.1 with (h1 | h1) | h1
      · exact .inl (Nat.eq_of_beq_eq_true h1)
      · exact .inr (.inl (Q3o.1 h1))
      · exact .inr (.inr (by simpa using h1))
    | succ k =>
      have := Qfq h.2 k a' x' (by simpa using hk)
      rw [show i + (k + 1) = i + 1 + k by omega]
      exact this
theorem Ql1 {all : List (IOper × Eff)} : ∀ {j : Nat} {l : List (IOper × Eff)}, calm all j l = true → (∀ k, l[k]? = all[j + k]?) → ∀ (i k : Nat) a x b y, j ≤ k → i < k → all[i]? = some (a, x) → all[k]? = some (b, y) → i ∈ b.bef ∨ clash a x b y = false
  | j, [], _, hl, i, k, a, x, b, y, hj, _, _, hk => by
    have := hl (k - j)
    rw [show j + (k - j) = k by omega, hk] at this
    simp at this
  | j, (b', y') :: r, h, hl, i, k, a, x, b, y, hj, hik, hi, hk => by
    simp only [calm, Bool.and_eq_true] at h
    by_cases c : k = j
    · subst c
      have h0 := hl 0
      rw [Nat.add_zero, hk] at h0
      simp at h0
      obtain ⟨rfl, rfl⟩ := h0
      have := Qfq h.1 i a x (by rw [List.getElem?_take_of_lt hik]; exact hi)
      rcases this with h' | h' | h'
      · omega
      · exact .inl (by simpa using h')
      · exact .inr h'
    · exact Ql1 h.2 (fun q => by have := hl (q + 1); rw [show j + (q + 1) = j + 1 + q by omega] at this; simpa using this) i k a x b y (by omega) hik hi hk
theorem Qg1 {l : List Nat} {d : Option Nat} : Qm5 l d = false ↔ ∀ t, d = some t → t ∉ l := by
  cases d with
  | none => simp [Qm5]
  | some d =>
    simp only [Qm5, Option.some.injEq]
    constructor
    · rintro h t rfl ht
      rw [Q3o.2 ht] at h; cases h
    · intro h
      cases hh : has l d with
      | false => rfl
      | true => exact absurd (Q3o.1 hh) (h d rfl)
theorem Q3w {a b : IOper} {x y : Eff} (h : clash a x b y = false) :
    (∀ t, a.dst = some t → t ∉ b.looks) ∧ (∀ t, b.dst = some t → t ∉ a.looks) ∧ (∀ t, a.dst = some t → b.dst ≠ some t) ∧ (∀ id ∈ x.hw.map (·.1), id ∉ y.hr ∧ id ∉ y.hw.map (·.1)) ∧ (∀ id ∈ y.hw.map (·.1), id ∉ x.hr) := by
  unfold clash at h
  simp only [Bool.or_eq_false_iff, Bool.not_eq_false'] at h
  obtain ⟨⟨⟨⟨h1, h2⟩, h3⟩, h4⟩, h5⟩ := h
  refine ⟨Qg1.1 h1, Qg1.1 h2, fun t ha hb => ?_, fun id hi => ?_, Qa9.1 h5⟩
  · rw [ha, hb] at h3
    simp [Q128] at h3
  · have := Qa9.1 h4 id hi
    exact ⟨fun hc => this (List.mem_append_left _ hc), fun hc => this (List.mem_append_right _ hc)⟩
theorem Q7u : ∀ (h : List (Nat × Ob)) (id : Nat), look (h.map fun x => (x.1, Q99 x.2)) id = (look h id).map Q99
 | [], _ => rfl
 | (k, o) :: r, id => by
  simp only [List.map_cons, look]
  cases Nat.beq k id with
  | true => rfl
  | false => exact Q7u r id
end Go.Pv
end

section
/-
  Runs along a trace, over objects of which only their rows are known (views); what calls and loops answer is handed in.
-/
namespace Go.Pv
abbrev Views := List (Nat × List (List PV))
def plain : PV → Bool
 | .bool _ => true
 | .int _ _ => true
 | .str _ => true
 | .sl _ => true
 | .np => true
 | .nf => true
 | _ => false
structure ViewOK (sz : Nat) (cells : List PV) (rows : List (List PV)) : Prop where
  flat : cells = rows.flatten
  size : ∀ r ∈ rows, r.length = sz
  plain : ∀ r ∈ rows, ∀ p ∈ r, plain p = true
def VOK (H : Nat → Option Ob) (vw : Views) : Prop := ∀ id rows, look vw id = some rows → ∃ ob, H id = some ob ∧ ViewOK ob.sz ob.cells rows
def Met (l : List Prop) : Prop := ∀ p ∈ l, p
theorem Met.nil : Met [] := fun _ h => absurd h List.not_mem_nil
theorem Met.cons {p : Prop} {l : List Prop} (h : p) (hl : Met l) : Met (p :: l) := fun q hq => by
  rcases List.mem_cons.1 hq with rfl | hq
  · exact h
  · exact hl q hq
theorem Met.left {a b : List Prop} (h : Met (a ++ b)) : Met a := fun p hp => h p (List.mem_append_left _ hp)
theorem Met.right {a b : List Prop} (h : Met (a ++ b)) : Met b := fun p hp => h p (List.mem_append_right _ hp)
theorem Met.head {p : Prop} {l : List Prop} (h : Met (p :: l)) : p := h p List.mem_cons_self
theorem Met.tail {p : Prop} {l : List Prop} (h : Met (p :: l)) : Met l := fun q hq => h q (List.mem_cons_of_mem _ hq)
def mapV {α β : Type} (f : α → Option (β × List Prop)) : List α → Option (List β × List Prop)
 | [] => some ([], [])
 | x :: r => (f x).bind fun y => (mapV f r).bind fun l => some (y.1 :: l.1, y.2 ++ l.2)
theorem Q3y {α β : Type} {f : α → Option (β × List Prop)} {g : α → Option β} (hf : ∀ a y, f a = some y → Met y.2 → g a = some y.1) : ∀ (l : List α) (y : List β × List Prop), mapV f l = some y → Met y.2 → mapO g l = some y.1
 | [], y, h, _ => by
  simp only [mapV, Option.some.injEq] at h
  subst h
  rfl
 | a :: r, y, h, hm => by
  obtain ⟨b, hb, h⟩ := Qc h
  obtain ⟨l, hl, h⟩ := Qc h
  simp only [Option.some.injEq] at h
  subst h
  simp only [mapO]
  rw [hf a b hb hm.left, Option.bind_some, Q3y hf r l hl hm.right]
  rfl
def fzV (H : Nat → Option Ob) (vw : Views) : Nat → PV → Option ((PV × List Nat) × List Prop)
  | 0, _ => none
  | n + 1, v =>
    match v with
    | .bx _ _ => none
    | .ns _ => some ((.sl [], []), [])
    | .ms id sz off len =>
      (H id).bind fun ob =>
        match look vw id with
        | some rows => bif Nat.beq ob.sz sz && (Nat.beq off 0 && Nat.ble 1 n) then some ((.sl rows, [id]), [len = rows.length]) else none
        | none =>
          bif Nat.beq ob.sz sz && Nat.ble ((off + len) * sz) ob.cells.length then
            (mapV (fzV H vw n) ((ob.cells.drop (off * sz)).take (len * sz))).bind fun l =>
              some ((.sl (rowsOf sz len (l.1.map (·.1))), id :: (l.1.map (·.2)).flatten), l.2)
          else none
    | .agg c => (mapV (fzV H vw n) c).bind fun l => some ((.agg (l.1.map (·.1)), (l.1.map (·.2)).flatten), l.2)
    | .tup c => (mapV (fzV H vw n) c).bind fun l => some ((.tup (l.1.map (·.1)), (l.1.map (·.2)).flatten), l.2)
    | .fn f a b => (mapV (fzV H vw n) a).bind fun l => (mapV (fzV H vw n) b).bind fun m => some ((.fn f (l.1.map (·.1)) (m.1.map (·.1)), (l.1.map (·.2)).flatten ++ (m.1.map (·.2)).flatten), l.2 ++ m.2)
    | v => some ((v, []), [])
theorem Qg0 {H : Nat → Option Ob} {n : Nat} : ∀ (l : List PV), (∀ p ∈ l, plain p = true) → mapO (fz H (n + 1)) l = some (l.map fun p => (p, []))
 | [], _ => rfl
 | p :: r, h => by
  have h1 : fz H (n + 1) p = some (p, []) := by
   have := h p List.mem_cons_self
   cases p <;> first | rfl | (simp [plain] at this)
  simp only [mapO]
  rw [h1, Option.bind_some, Qg0 r (fun q hq => h q (List.mem_cons_of_mem _ hq))]
  rfl
theorem Q90 {α β : Type} : ∀ (l : List α), (l.map fun _ => ([] : List β)).flatten = []
 | [] => rfl
 | _ :: r => by simp [Q90 r]
theorem Qd2 (sz : Nat) : ∀ (rows : List (List PV)), (∀ r ∈ rows, r.length = sz) → rowsOf sz rows.length rows.flatten = rows
 | [], _ => rfl
 | r :: rs, h => by
  have h0 := h r List.mem_cons_self
  simp only [List.length_cons, rowsOf, List.flatten_cons]
  rw [List.take_left' h0, List.drop_left' h0, Qd2 sz rs (fun q hq => h q (List.mem_cons_of_mem _ hq))]
theorem Q3c (sz : Nat) : ∀ (rows : List (List PV)), (∀ r ∈ rows, r.length = sz) → rows.flatten.length = rows.length * sz
 | [], _ => by simp
 | r :: rs, h => by
  simp only [List.flatten_cons, List.length_append, List.length_cons]
  rw [Q3c sz rs (fun q hq => h q (List.mem_cons_of_mem _ hq)), h r List.mem_cons_self, Nat.add_mul]
  omega
theorem ViewOK.all {sz : Nat} {cells : List PV} {rows : List (List PV)} (h : ViewOK sz cells rows) : ∀ p ∈ cells, Pv.plain p = true := fun p hp => by
 rw [h.flat] at hp
 obtain ⟨r, hr, hp⟩ := List.mem_flatten.1 hp
 exact h.plain r hr p hp
theorem Qtl {H : Nat → Option Ob} {n k : Nat} (hk : k = n + 1) {id sz len : Nat} {ob : Ob} {rows : List (List PV)} (hH : H id = some ob) (hv : ViewOK ob.sz ob.cells rows) (hs : ob.sz = sz) (hl : len = rows.length) : fz H (k + 1) (.ms id sz 0 len) = some (.sl rows, [id]) := by
  subst hs hl
  have hc : ob.cells.length = rows.length * ob.sz := by rw [hv.flat]; exact Q3c _ _ hv.size
  simp only [fz]
  rw [hH, Option.bind_some]
  have hb : (Nat.beq ob.sz ob.sz && Nat.ble ((0 + rows.length) * ob.sz) ob.cells.length) = true := by
    rw [hc]
    simp
  rw [hb]
  simp only [cond_true, Nat.zero_mul, List.drop_zero]
  rw [← hc, List.take_length]
  have := Qg0 (H := H) (n := n) ob.cells hv.all
  rw [hk, this, Option.bind_some]
  simp only [List.map_map, Option.some.injEq, Prod.mk.injEq]
  refine ⟨?_, ?_⟩
  · have e2 : List.map ((fun x : PV × List Nat => x.fst) ∘ fun p => (p, ([] : List Nat))) ob.cells = ob.cells := by
      rw [show ((fun x : PV × List Nat => x.fst) ∘ fun p => (p, ([] : List Nat))) = fun p => p from rfl]
      exact List.map_id' _
    rw [e2, hv.flat, Qd2 _ _ hv.size]
  · have e2 : ((fun x : PV × List Nat => x.snd) ∘ fun p => (p, ([] : List Nat))) = fun _ => [] := rfl
    rw [e2, Q90]
theorem Ql9 {H : Nat → Option Ob} {vw : Views} (hv : VOK H vw) : ∀ (n : Nat) (v : PV) (y : (PV × List Nat) × List Prop), fzV H vw n v = some y → Met y.2 → fz H n v = some y.1
 | 0, v, y, h, _ => by cases h
 | n + 1, v, y, h, hm => by
  have ih := Ql9 hv n
  cases v with
  | ms id sz off len =>
   simp only [fzV] at h
   obtain ⟨ob, hob, h⟩ := Qc h
   cases hl : look vw id with
   | some rows =>
    rw [hl] at h
    simp only at h
    obtain ⟨ob', hob', hok⟩ := hv id rows hl
    rw [hob] at hob'
    injection hob' with hob'
    subst hob'
    cases hc : (Nat.beq ob.sz sz && (Nat.beq off 0 && Nat.ble 1 n)) with
    | false => rw [hc] at h; cases h
    | true =>
     rw [hc] at h
     simp only [cond_true, Option.some.injEq] at h
     subst h
     simp only [Bool.and_eq_true] at hc
     obtain ⟨c1, c2, c3⟩ := hc
     have c2 := Nat.eq_of_beq_eq_true c2
     have c1 := Nat.eq_of_beq_eq_true c1
     have c3 := Nat.le_of_ble_eq_true c3
     subst c2
     obtain ⟨m, rfl⟩ : ∃ m, n = m + 1 := ⟨n - 1, by omega⟩
     exact Qtl rfl hob hok c1 hm.head
   | none =>
    rw [hl] at h
    simp only at h
    simp only [fz]
    rw [hob, Option.bind_some]
    cases hc : (Nat.beq ob.sz sz && Nat.ble ((off + len) * sz) ob.cells.length) with
    | false => rw [hc] at h; cases h
    | true =>
     rw [hc] at h
     simp only [cond_true] at h ⊢
     obtain ⟨l, hl, h⟩ := Qc h
     simp only [Option.some.injEq] at h
     subst h
     rw [Q3y ih _ l hl hm, Option.bind_some]
  | agg c =>
   simp only [fzV] at h
   obtain ⟨l, hl, h⟩ := Qc h
   simp only [Option.some.injEq] at h
   subst h
   simp only [fz]
   rw [Q3y ih _ l hl hm, Option.bind_some]
  | tup c =>
   simp only [fzV] at h
   obtain ⟨l, hl, h⟩ := Qc h
   simp only [Option.some.injEq] at h
   subst h
   simp only [fz]
   rw [Q3y ih _ l hl hm, Option.bind_some]
  | fn f a b =>
   simp only [fzV] at h
   obtain ⟨l, hl, h⟩ := Qc h
   obtain ⟨m, hm2, h⟩ := Qc h
   simp only [Option.some.injEq] at h
   subst h
   simp only [fz]
   rw [Q3y ih _ l hl hm.left, Option.bind_some, Q3y ih _ m hm2 hm.right, Option.bind_some]
  | bx _ _ => cases h
  | _ =>
   simp only [fzV, Option.some.injEq] at h
   subst h
   rfl
def Q5k (f : PV → List Nat → Option (Pass × List Prop)) : List PV → List Nat → Option ((List PV × List Nat × List Nat) × List Prop)
 | [], ids => some (([], ids, []), [])
 | p :: r, ids => (f p ids).bind fun x => (Q5k f r x.1.ids).bind fun y => some ((x.1.v :: y.1.1, y.1.2.1, x.1.fr ++ y.1.2.2), x.2 ++ y.2)
theorem Q1y {f : PV → List Nat → Option (Pass × List Prop)} {g : PV → List Nat → Option Pass} (hf : ∀ a ids y, f a ids = some y → Met y.2 → g a ids = some y.1) : ∀ (l : List PV) (ids : List Nat) (y : (List PV × List Nat × List Nat) × List Prop), Q5k f l ids = some y → Met y.2 → Q2x g l ids = some y.1
 | [], ids, y, h, _ => by
  simp only [Q5k, Option.some.injEq] at h
  subst h
  rfl
 | a :: r, ids, y, h, hm => by
  simp only [Q5k] at h
  obtain ⟨b, hb, h⟩ := Qc h
  obtain ⟨l, hl, h⟩ := Qc h
  simp only [Option.some.injEq] at h
  subst h
  simp only [Q2x]
  rw [hf a ids b hb hm.left, Option.bind_some, Q1y hf r _ l hl hm.right]
  rfl
def Q76 (H : Nat → Option Ob) (vw : Views) (byRef : Bool) : Nat → PV → List Nat → Option (Pass × List Prop)
 | 0, _, _ => none
 | n + 1, v, ids =>
  match v with
  | .bx id off => let x := Qhx ids id; some (⟨.bx x.1 off, x.2, []⟩, [])
  | .ms id sz off len =>
   bif byRef then (let x := Qhx ids id; some (⟨.ms x.1 sz off len, x.2, []⟩, []))
   else (fzV H vw 8 (.ms id sz off len)).bind fun x => some (⟨x.1.1, ids, x.1.2⟩, x.2)
  | .ns _ => some (⟨.sl [], ids, []⟩, [])
  | .agg c => (Q5k (Q76 H vw byRef n) c ids).bind fun y => some (⟨.agg y.1.1, y.1.2.1, y.1.2.2⟩, y.2)
  | .tup c => (Q5k (Q76 H vw byRef n) c ids).bind fun y => some (⟨.tup y.1.1, y.1.2.1, y.1.2.2⟩, y.2)
  | .fn f a b => (Q5k (Q76 H vw byRef n) a ids).bind fun y => (Q5k (Q76 H vw byRef n) b y.1.2.1).bind fun z => some (⟨.fn f y.1.1 z.1.1, z.1.2.1, y.1.2.2 ++ z.1.2.2⟩, y.2 ++ z.2)
  | v => some (⟨v, ids, []⟩, [])
theorem Q47 {H : Nat → Option Ob} {vw : Views} (hv : VOK H vw) {byRef : Bool} : ∀ (n : Nat) (v : PV) (ids : List Nat) (y : Pass × List Prop), Q76 H vw byRef n v ids = some y → Met y.2 → pass H byRef n v ids = some y.1
 | 0, v, ids, y, h, _ => by cases h
 | n + 1, v, ids, y, h, hm => by
  have ih := Q47 hv (byRef := byRef) n
  cases v with
  | ms id sz off len =>
   cases byRef with
   | true =>
    simp only [Q76, cond_true, Option.some.injEq] at h
    subst h
    rfl
   | false =>
    simp only [Q76, cond_false] at h
    obtain ⟨x, hx, h⟩ := Qc h
    simp only [Option.some.injEq] at h
    subst h
    simp only [pass, cond_false]
    rw [Ql9 hv 8 _ x hx hm, Option.bind_some]
  | agg c =>
   simp only [Q76] at h
   obtain ⟨l, hl, h⟩ := Qc h
   simp only [Option.some.injEq] at h
   subst h
   simp only [pass]
   rw [Q1y ih _ _ l hl hm, Option.bind_some]
  | tup c =>
   simp only [Q76] at h
   obtain ⟨l, hl, h⟩ := Qc h
   simp only [Option.some.injEq] at h
   subst h
   simp only [pass]
   rw [Q1y ih _ _ l hl hm, Option.bind_some]
  | fn f a b =>
   simp only [Q76] at h
   obtain ⟨l, hl, h⟩ := Qc h
   obtain ⟨m, hm2, h⟩ := Qc h
   simp only [Option.some.injEq] at h
   subst h
   simp only [pass]
   rw [Q1y ih _ _ l hl hm.left, Option.bind_some, Q1y ih _ _ m hm2 hm.right, Option.bind_some]
  | _ =>
   simp only [Q76, Option.some.injEq] at h
   subst h
   rfl
theorem Q75 {H : Nat → Option Ob} {byRef : Bool} {n : Nat} : ∀ (l : List PV) (ids : List Nat), (∀ p ∈ l, plain p = true) → Q2x (pass H byRef (n + 1)) l ids = some (l, ids, [])
 | [], _, _ => rfl
 | p :: r, ids, h => by
  have h1 : pass H byRef (n + 1) p ids = some ⟨p, ids, []⟩ := by
   have := h p List.mem_cons_self
   cases p <;> first | rfl | (simp [plain] at this)
  simp only [Q2x]
  rw [h1, Option.bind_some, Q75 r ids (fun q hq => h q (List.mem_cons_of_mem _ hq))]
  rfl
def Q5g (H : Nat → Option Ob) (vw : Views) (byRef own : Bool) : Nat → Nat → List Nat → Option ((List Ob × List Nat × List Nat) × List Prop)
 | 0, _, _ => none
 | n + 1, k, ids =>
  match ids[k]? with
  | none => some (([], ids, []), [])
  | some id =>
   (H id).bind fun ob =>
    match look vw id with
    | some _ => (Q5g H vw byRef own n (k + 1) ids).bind fun z => some ((⟨ob.sz, ob.ro, ob.gr && own, ob.cells⟩ :: z.1.1, z.1.2.1, z.1.2.2), z.2)
    | none => (Q5k (Q76 H vw byRef 8) ob.cells ids).bind fun y =>
     (Q5g H vw byRef own n (k + 1) y.1.2.1).bind fun z => some ((⟨ob.sz, ob.ro, ob.gr && own, y.1.1⟩ :: z.1.1, z.1.2.1, y.1.2.2 ++ z.1.2.2), y.2 ++ z.2)
theorem Q2o {H : Nat → Option Ob} {vw : Views} (hv : VOK H vw) {byRef own : Bool} : ∀ (n k : Nat) (ids : List Nat) (y : (List Ob × List Nat × List Nat) × List Prop), Q5g H vw byRef own n k ids = some y → Met y.2 → Q1p H byRef own n k ids = some y.1
 | 0, _, _, y, h, _ => by cases h
 | n + 1, k, ids, y, h, hm => by
  simp only [Q5g] at h
  simp only [Q1p]
  cases hk : ids[k]? with
  | none =>
   rw [hk] at h
   simp only [Option.some.injEq] at h
   subst h
   rfl
  | some id =>
   rw [hk] at h
   simp only at h ⊢
   obtain ⟨ob, hob, h⟩ := Qc h
   rw [hob, Option.bind_some]
   cases hl : look vw id with
   | some rows =>
    rw [hl] at h
    simp only at h
    obtain ⟨ob', hob', hok⟩ := hv id rows hl
    rw [hob] at hob'
    injection hob' with hob'
    subst hob'
    obtain ⟨z, hz, h⟩ := Qc h
    simp only [Option.some.injEq] at h
    subst h
    rw [Q75 (n := 7) ob.cells ids hok.all, Option.bind_some, Q2o hv n _ _ z hz hm]
    rfl
   | none =>
    rw [hl] at h
    simp only at h
    obtain ⟨x, hx, h⟩ := Qc h
    obtain ⟨z, hz, h⟩ := Qc h
    simp only [Option.some.injEq] at h
    subst h
    rw [Q1y (Q47 hv 8) _ _ x hx hm.left, Option.bind_some, Q2o hv n _ _ z hz hm.right]
    rfl
def Q6r (vw : Views) : Nat → List (Nat × Ob) → List (Nat × Ob) × Nat × List (Nat × Ob)
 | nx, [] => ([], nx, [])
 | nx, (id, ob) :: r =>
  match look vw id with
  | some _ => let z := Q6r vw nx r; ((id, ob) :: z.1, z.2.1, z.2.2)
  | none => let y := Q2m nx ob.cells; let z := Q6r vw y.2.1 r; ((id, ⟨ob.sz, ob.ro, ob.gr, y.1⟩) :: z.1, z.2.1, y.2.2 ++ z.2.2)
theorem Qd9 : ∀ (l : List PV) (nx : Nat), (∀ p ∈ l, plain p = true) → Q2m nx l = (l, nx, [])
 | [], _, _ => rfl
 | p :: r, nx, h => by
  have h2 := Qd9 r nx (fun q hq => h q (List.mem_cons_of_mem _ hq))
  have h1 := h p List.mem_cons_self
  cases p <;> first | (simp [plain] at h1; done) | (simp only [Q2m, h2])
def VAll (h : List (Nat × Ob)) (vw : Views) : Prop := ∀ id ob rows, (id, ob) ∈ h → look vw id = some rows → ∀ p ∈ ob.cells, plain p = true
theorem Qd8 {vw : Views} : ∀ (h : List (Nat × Ob)) (nx : Nat), VAll h vw → Q6r vw nx h = Q8s nx h
 | [], _, _ => rfl
 | (id, ob) :: r, nx, hv => by
  have hr : VAll r vw := fun i o rs hi hl => hv i o rs (List.mem_cons_of_mem _ hi) hl
  simp only [Q6r, Q8s]
  cases hl : look vw id with
  | some rows =>
   simp only
   rw [Qd9 ob.cells nx (hv id ob rows List.mem_cons_self hl), Qd8 r nx hr]
   rfl
  | none =>
   simp only
   rw [Qd8 r _ hr]
def Qm4 : List (Nat × Ob) → Bool
 | [] => true
 | (k, _) :: r => (r.all fun x => !(Nat.beq x.1 k)) && Qm4 r
theorem Qu5 {h : List (Nat × Ob)} : ∀ {id : Nat} {ob : Ob}, Qm4 h = true → (id, ob) ∈ h → look h id = some ob := by
  induction h with
  | nil => intro id ob _ hm; cases hm
  | cons x r ih =>
    obtain ⟨k, o⟩ := x
    intro id ob ho hm
    simp only [Qm4, Bool.and_eq_true, List.all_eq_true] at ho
    simp only [look]
    rcases List.mem_cons.1 hm with e | hm
    · injection e with e1 e2
      subst e1 e2
      simp
    · have : Nat.beq k id = false := by
        have := ho.1 _ hm
        simp only [Bool.not_eq_true'] at this
        rw [Bool.eq_false_iff] at this ⊢
        intro c
        have := Nat.eq_of_beq_eq_true c
        subst this
        simp at *
      rw [this]
      simp only [cond_false]
      exact ih ho.2 hm
theorem VOK.allIn {h : List (Nat × Ob)} {vw : Views} (ho : Qm4 h = true) (hv : VOK (look h) vw) : VAll h vw := fun id ob rows hm hl => by
 obtain ⟨ob', hob, hok⟩ := hv id rows hl
 rw [Qu5 ho hm] at hob
 injection hob with hob
 subst hob
 exact hok.all
theorem Qi9 {α : Type} {a b : List (Nat × α)} {id : Nat} : look (a ++ b) id = match look a id with | some x => some x | none => look b id := by
 induction a with
 | nil => rfl
 | cons x r ih =>
  obtain ⟨k, o⟩ := x
  simp only [List.cons_append, look]
  cases Nat.beq k id with
  | true => rfl
  | false => exact ih
theorem Q7b {vw : Views} : ∀ (h : List (Nat × Ob)) (nx : Nat) (id : Nat) (rows : List (List PV)) (ob : Ob), look vw id = some rows → look h id = some ob → look (Q6r vw nx h).1 id = some ob
 | [], _, _, _, _, _, h => by cases h
 | (k, o) :: r, nx, id, rows, ob, hl, h => by
  simp only [look] at h
  cases c : Nat.beq k id with
  | true =>
   have := Nat.eq_of_beq_eq_true c
   subst this
   rw [c] at h
   simp only [cond_true, Option.some.injEq] at h
   subst h
   simp only [Q6r, hl, look, c, cond_true]
  | false =>
   rw [c] at h
   simp only [cond_false] at h
   simp only [Q6r]
   cases look vw k with
   | some _ =>
    simp only [look, c, cond_false]
    exact Q7b r nx id rows ob hl h
   | none =>
    simp only [look, c, cond_false]
    exact Q7b r _ id rows ob hl h
def gcV0 (vw : Views) (m : Nat) (live : List Nat) (s : St) : Option ((List PV × List Ob) × List Prop) :=
 bif Qm4 s.heap then
  let a := Q2m s.nx (mask live 0 s.env)
  let b := Q6r vw a.2.1 s.heap
  let H := look (b.1 ++ (a.2.2 ++ b.2.2))
  (Q5k (Q76 H vw true 8) a.1 (upTo m)).bind fun y =>
   (Q5g H vw true true 32 0 y.1.2.1).bind fun z => some ((y.1.1, z.1.1), y.2 ++ z.2)
 else none
theorem Qfu {vw : Views} {m : Nat} {live : List Nat} {s : St} (hv : VOK (look s.heap) vw) {y : (List PV × List Ob) × List Prop} (h : gcV0 vw m live s = some y) (hm : Met y.2) : gc0 m live s = some y.1 := by
 unfold gcV0 at h
 unfold gc0
 cases ho : Qm4 s.heap with
 | false => rw [ho] at h; cases h
 | true =>
  rw [ho] at h
  simp only [cond_true] at h ⊢
  have e := Qd8 (vw := vw) s.heap (Q2m s.nx (mask live 0 s.env)).2.1 (hv.allIn ho)
  have hv' : VOK (look ((Q6r vw (Q2m s.nx (mask live 0 s.env)).2.1 s.heap).1 ++ ((Q2m s.nx (mask live 0 s.env)).2.2 ++ (Q6r vw (Q2m s.nx (mask live 0 s.env)).2.1 s.heap).2.2))) vw := by
   intro id rows hl
   obtain ⟨ob, hob, hok⟩ := hv id rows hl
   refine ⟨ob, ?_, hok⟩
   rw [Qi9, Q7b s.heap _ id rows ob hl hob]
  rw [← e]
  obtain ⟨x, hx, h⟩ := Qc h
  obtain ⟨z, hz, h⟩ := Qc h
  simp only [Option.some.injEq] at h
  subst h
  rw [Q1y (Q47 hv' 8) _ _ x hx hm.left, Option.bind_some, Q2o hv' 32 _ _ z hz hm.right, Option.bind_some]
def Qtj (vw : Views) (h : List (Nat × Ob)) : List (Nat × Ob) := h.map fun x => (match look vw x.1 with | some _ => x | none => (x.1, Q99 x.2))
def Qn2 (vw : Views) (s : St) : St := ⟨s.env.map Qi5, Qtj vw s.heap, s.nx⟩
def gcV (vw : Views) (m : Nat) (live : List Nat) (s : St) : Option ((List PV × List Ob) × List Prop) :=
 bif has live 200001 then (bif Qm4 s.heap then gcV0 vw m live (Qn2 vw s) else none) else gcV0 vw m live s
theorem Qci {l : List PV} (h : ∀ p ∈ l, plain p = true) : l.map Qi5 = l := by
 induction l with
 | nil => rfl
 | cons p r ih =>
  have h1 := h p List.mem_cons_self
  rw [List.map_cons, ih (fun q hq => h q (List.mem_cons_of_mem _ hq))]
  cases p <;> first | (simp [plain] at h1; done) | rfl
theorem Ql8 {vw : Views} : ∀ (h : List (Nat × Ob)), VAll h vw → Qtj vw h = h.map fun x => (x.1, Q99 x.2)
 | [], _ => rfl
 | (id, ob) :: r, hv => by
  have hr : VAll r vw := fun i o rs hi hl => hv i o rs (List.mem_cons_of_mem _ hi) hl
  have ih := Ql8 r hr
  unfold Qtj at ih ⊢
  rw [List.map_cons, List.map_cons, ih]
  cases hl : look vw id with
  | none => rfl
  | some rows =>
   simp only
   rw [show Q99 ob = ob from by unfold Q99; rw [Qci (hv id ob rows List.mem_cons_self hl)]]
theorem Qlb {vw : Views} {m : Nat} {live : List Nat} {s : St} (hv : VOK (look s.heap) vw) {y : (List PV × List Ob) × List Prop} (h : gcV vw m live s = some y) (hm : Met y.2) : gc m live s = some y.1 := by
 unfold gcV at h
 unfold gc
 cases c : has live 200001 with
 | false =>
  rw [c] at h
  exact Qfu hv h hm
 | true =>
  rw [c, cond_true] at h
  rw [cond_true]
  cases ho : Qm4 s.heap with
  | false => rw [ho] at h; cases h
  | true =>
   rw [ho, cond_true] at h
   have e : Qn2 vw s = Q52 s := by
    unfold Qn2 Q52
    rw [Ql8 s.heap (hv.allIn ho)]
   rw [e] at h
   refine Qfu (fun id rows hl => ?_) h hm
   obtain ⟨ob, hob, hok⟩ := hv id rows hl
   have hf : Q99 ob = ob := by
    unfold Q99
    rw [Qci hok.all]
   refine ⟨ob, ?_, hok⟩
   rw [show (Q52 s).heap = s.heap.map fun x => (x.1, Q99 x.2) from rfl, Q7u, hob, Option.map_some, hf]
structure Ans where
  r : Rs
  vw : Views
def Q3t (g : Nat → Nat) (vw : Views) : Nat → List Ob → Option (List (Nat × Option Ob) × List Prop × Views)
 | _, [] => some ([], [], [])
 | k, ob :: r =>
  match look vw k with
  | some rows => (Q3t g vw (k + 1) r).bind fun m => some ((g k, some ob) :: m.1, ViewOK ob.sz ob.cells rows :: m.2.1, (g k, rows) :: m.2.2)
  | none => (mapO (back g 8) ob.cells).bind fun l => (Q3t g vw (k + 1) r).bind fun m => some ((g k, some ⟨ob.sz, ob.ro, ob.gr, l⟩) :: m.1, m.2)
theorem Q62 {g : Nat → Nat} {n : Nat} : ∀ (l : List PV), (∀ p ∈ l, plain p = true) → mapO (back g (n + 1)) l = some l
 | [], _ => rfl
 | p :: r, h => by
  have h1 : back g (n + 1) p = some p := by
   have := h p List.mem_cons_self
   cases p <;> first | rfl | (simp [plain] at this)
  simp only [mapO]
  rw [h1, Option.bind_some, Q62 r (fun q hq => h q (List.mem_cons_of_mem _ hq))]
  rfl
theorem Q4t {g : Nat → Nat} {vw : Views} : ∀ (l : List Ob) (k : Nat) (y : List (Nat × Option Ob) × List Prop × Views), Q3t g vw k l = some y → Met y.2.1 → Q5a g k l = some y.1
 | [], k, y, h, _ => by
  simp only [Q3t, Option.some.injEq] at h
  subst h
  rfl
 | ob :: r, k, y, h, hm => by
  simp only [Q3t] at h
  simp only [Q5a]
  cases hl : look vw k with
  | some rows =>
   rw [hl] at h
   simp only at h
   obtain ⟨m, hm', h⟩ := Qc h
   simp only [Option.some.injEq] at h
   subst h
   rw [Q62 ob.cells (Met.head hm).all, Option.bind_some, Q4t r _ m hm' (Met.tail hm)]
   rfl
  | none =>
   rw [hl] at h
   simp only at h
   obtain ⟨l, hl', h⟩ := Qc h
   obtain ⟨m, hm', h⟩ := Qc h
   simp only [Option.some.injEq] at h
   subst h
   rw [hl', Option.bind_some, Q4t r _ m hm' hm]
   rfl
theorem Q4u {g : Nat → Nat} {vw : Views} : ∀ (l : List Ob) (k : Nat) (y : List (Nat × Option Ob) × List Prop × Views), Q3t g vw k l = some y → Met y.2.1 → ∀ id rows, (id, rows) ∈ y.2.2 → ∃ ob, (id, some ob) ∈ y.1 ∧ ViewOK ob.sz ob.cells rows
  | [], k, y, h, _ => by
    simp only [Q3t, Option.some.injEq] at h
    subst h
    intro id rows hx
    cases hx
  | ob :: r, k, y, h, hm => by
    simp only [Q3t] at h
    cases hl : look vw k with
    | some rows =>
      rw [hl] at h
      simp only at h
      obtain ⟨m, hm', h⟩ := Qc h
      simp only [Option.some.injEq] at h
      subst h
      intro id rws hx
      rcases List.mem_cons.1 hx with e | hx
      · injection e with e1 e2
        subst e1 e2
        exact ⟨ob, List.mem_cons_self, Met.head hm⟩
      · obtain ⟨o, ho, hv⟩ := Q4u r _ m hm' (Met.tail hm) id rws hx
        exact ⟨o, List.mem_cons_of_mem _ ho, hv⟩
    | none =>
      rw [hl] at h
      simp only at h
      obtain ⟨l, hl', h⟩ := Qc h
      obtain ⟨m, hm', h⟩ := Qc h
      simp only [Option.some.injEq] at h
      subst h
      intro id rws hx
      obtain ⟨o, ho, hv⟩ := Q4u r _ m hm' hm id rws hx
      exact ⟨o, List.mem_cons_of_mem _ ho, hv⟩
structure EV where
  eff : Eff
  cut : List Nat
  new : Views
  az : List Ans
  owed : List Prop
  asked : Q6s
def Qym (H : Nat → Option Ob) (vw : Views) (fr : Nat) (byRef : Bool) (f : Nat) (args : List PV) (az : List Ans) : Option EV :=
  (Q5k (Q76 H vw byRef 8) args []).bind fun y =>
  (Q5g H vw false false 16 0 y.1.2.1).bind fun z =>
  let ids := z.1.2.1
  let lent := y.1.2.2 ++ z.1.2.2
  bif disj lent ids then
    match az with
    | [] => none
    | a :: az' =>
      match a.r with
      | .ret v h =>
        bif Nat.ble ids.length h.length && Nat.ble (h.length - ids.length) 64 then
          (back (ren ids fr) 8 v).bind fun v' => (Q3t (ren ids fr) a.vw 0 h).bind fun ws =>
            match lent with
            | [] => some ⟨⟨v', ws.1, ids⟩, ws.1.map (·.1), ws.2.2, az', y.2 ++ (z.2 ++ ws.2.1), [(.call f y.1.1 z.1.1, a.r)]⟩
            | _ :: _ =>
              bif flat 8 v && h.all (fun ob => ob.cells.all (flat 8)) then some ⟨⟨v', ws.1, ids ++ lent⟩, ws.1.map (·.1), ws.2.2, az', y.2 ++ (z.2 ++ ws.2.1), [(.call f y.1.1 z.1.1, a.r)]⟩
              else (shut H lent).bind fun cl => some ⟨⟨v', ws.1 ++ cl, ids ++ lent⟩, ws.1.map (·.1), ws.2.2, az', y.2 ++ (z.2 ++ ws.2.1), [(.call f y.1.1 z.1.1, a.r)]⟩
        else none
      | _ => none
  else none
end Go.Pv
end

section
/-
  A region, on the machine.
-/
namespace Go.Pv
open Go.RowKit
structure At (w0 : World) (D0 : Nat → Option Nat) (H0 : Nat → Option Ob) (F : Nat → Nat → Prop) (n0 m L : Nat) (e : Nat → PV) (H : Nat → Option Ob) (a : Act) (w : World) (D : Nat → Option Nat) : Prop where
  sim : Sim w D H F n0 m
  env : Q6j w (Mut D H F) D a e
  size : L ≤ a.tmps.size
  out : ∀ t, L ≤ t → e t = .un
  keeps : Keeps (MutO D0 H0) w0 w
  low : ∀ id, id < m → D id = D0 id
  sub : ∀ b o, b < w0.heap.size → Mut D H F b o → Mut D0 H0 F b o
  defers : a.defers = []
section
variable {P : Program} {X : Orc} {w0 : World} {D0 : Nat → Option Nat} {H0 : Nat → Option Ob} {F : Nat → Nat → Prop} {n0 m L : Nat} {e : Nat → PV} {H : Nat → Option Ob} {a : Act} {w : World} {D : Nat → Option Nat}
theorem Qxs {a : Act} {dst : Option Tmp} {v : Value} {t : Nat} : (a.put dst v).tmps.getD t undef = if dst = some t ∧ t < a.tmps.size then v else a.tmps.getD t undef := by
  unfold Act.put
  cases dst with
  | none => simp
  | some d =>
    simp only [Array.getD_eq_getD_getElem?, Array.getElem?_setIfInBounds]
    by_cases c : d = t
    · subst c
      by_cases c' : d < a.tmps.size
      · simp [c']
      · simp [c']
    · simp [c]
theorem Qxt {a : Act} {dst : Option Tmp} {v : Value} : (a.put dst v).tmps.size = a.tmps.size := by
 unfold Act.put
 cases dst <;> simp
theorem put_defers {a : Act} {dst : Option Tmp} {v : Value} : (a.put dst v).defers = a.defers := by
 unfold Act.put
 cases dst <;> rfl
theorem At.step (A : At w0 D0 H0 F n0 m L e H a w D) {fr : Nat} {w' : World} {D' : Nat → Option Nat} {H' : Nat → Option Ob} (st : Step w D H F n0 m fr w' D' H') (hmf : m ≤ fr) {dst : Option Tmp} {v : Value} {p : PV} (hr : Rep w' (Mut D' H' F) D' v p) {e' : Nat → PV}
    (he : ∀ t, e' t = if dst = some t ∧ t < L then p else e t) : At w0 D0 H0 F n0 m L e' H' (a.put dst v) w' D' := by
  have hO : ∀ b o, b < w0.heap.size → MutO D H b o → MutO D0 H0 b o := by
    rintro b o hb ⟨id, ob, h1, h2, h3⟩
    rcases A.sub b o hb (.inr ⟨id, ob, h1, h2, h3⟩) with h | h
    · exact absurd h (A.sim.dis id ob b o h1 h2)
    · exact h
  refine ⟨st.sim, fun t => ?_, by rw [Qxt]; exact A.size, fun t ht => ?_, A.keeps.trans st.keeps hO, fun id h => ?_, fun b o hb h => A.sub b o hb (st.sub b o (Nat.lt_of_lt_of_le hb A.keeps.size) h), by rw [put_defers]; exact A.defers⟩
  · rw [Qxs, he t]
    by_cases c : dst = some t
    · by_cases c' : t < L
      · rw [if_pos ⟨c, Nat.lt_of_lt_of_le c' A.size⟩, if_pos ⟨c, c'⟩]
        exact hr
      · rw [show (if dst = some t ∧ t < L then p else e t) = .un by rw [if_neg (fun h => c' h.2)]; exact A.out t (Nat.le_of_not_lt c')]
        exact .un _ _
    · rw [if_neg (fun h => c h.1), if_neg (fun h => c h.1)]
      exact st.rep (A.env t)
  · rw [he t, if_neg (fun h => by have := h.2; omega)]
    exact A.out t ht
  · rw [← A.low id h]
    cases hd : D id with
    | none => exact st.fresh id hd (.inl (by omega))
    | some b => exact st.ext id b hd
theorem Qip {ops : Array Oper} {tmps : Array Value} {j s : Nat} (h : (ops[j]?).bind (·.dst) = some s) : (∀ b, tmps.getD s undef = .bool b → yielded ops tmps j = some b) ∧ (∀ xs, tmps.getD s undef = .tuple xs → yielded ops tmps j = none) := by
  unfold yielded
  rw [h]
  simp only [Option.bind_some]
  constructor
  · intro b hb
    rw [Array.getD_eq_getD_getElem?] at hb
    cases ht : tmps[s]? with
    | none => rw [ht] at hb; cases hb
    | some u =>
      rw [ht] at hb
      simp only [Option.getD_some] at hb
      subst hb
      rfl
  · intro xs hx
    rw [Array.getD_eq_getD_getElem?] at hx
    cases ht : tmps[s]? with
    | none => rfl
    | some u =>
      rw [ht] at hx
      simp only [Option.getD_some] at hx
      subst hx
      rfl
theorem Q97 {ops : Array Oper} {M : Nat → Nat → Prop} (he : Q6j w M D a e) {o : Oper} {io : IOper} (hg : Qa7 ops o.guard io.guard = true) {b : Bool} (h : io.wanted e = some b) : Region.wanted o (yielded ops a.tmps) = b := by
  unfold IOper.wanted at h
  unfold Region.wanted
  cases hg1 : o.guard with
  | none =>
    rw [hg1] at hg
    cases hg2 : io.guard with
    | none => rw [hg2] at h; simpa using h
    | some g => rw [hg2] at hg; cases hg
  | some g =>
    obtain ⟨j, wt⟩ := g
    rw [hg1] at hg
    cases hg2 : io.guard with
    | none => rw [hg2] at hg; cases hg
    | some g' =>
      obtain ⟨s, wt'⟩ := g'
      rw [hg2] at hg h
      simp only [Qa7, Bool.and_eq_true] at hg
      obtain ⟨h1, h2⟩ := hg
      have h1 : wt = wt' := by simpa using h1
      subst h1
      obtain ⟨y1, y2⟩ := Qip (tmps := a.tmps) (Q3g h2)
      have hr := he s
      simp only at h ⊢
      split at h
      · rename_i b' hb
        rw [hb] at hr
        generalize hx : a.tmps.getD s undef = x at hr
        cases hr with
        | bool _ =>
          rw [y1 b' hx]
          simpa using h
      · rename_i c hb
        rw [hb] at hr
        generalize hx : a.tmps.getD s undef = x at hr
        cases hr with
        | tup _ xs _ _ _ =>
          rw [y2 xs hx]
          simpa using h
      · cases h
theorem Q8o (hX : Q4q P X) (A : At w0 D0 H0 F n0 m L e H a w D) {fr : Nat} (hmf : m ≤ fr) (hfr : ∀ id, fr ≤ id → id < fr + 64 → D id = none ∧ H id = none) {ops : Array Oper} {i : Nat} {o : Oper} {io : IOper} (ho : ops[i]? = some o) (hc : Q5x P ops o io = true) {f : Eff} (h : Q4w X e H fr io = some f)
  {K : Act → World → Prop} {Q : Exit → Act → World → Prop} {e' : Nat → PV} {H' : Nat → Option Ob} (he : ∀ t, e' t = if io.dst = some t ∧ t < L then f.v else e t) (hH : upH H f.hw = H')
  (hK : ∀ a' w' D', At w0 D0 H0 F n0 m L e' H' a' w' D' → (∀ id, D id = none → (id < fr ∨ fr + 64 ≤ id) → D' id = none) → K a' w') : wpOp P ops Q i K a w := by
 subst hH
 unfold Q5x at hc
 rw [Bool.and_eq_true, Bool.and_eq_true] at hc
 obtain ⟨⟨hd, hg⟩, hop⟩ := hc
 have hd := Q7w hd
 unfold Q4w at h
 obtain ⟨b, hb, h⟩ := bind_some h
 have hw := Q97 A.env hg hb
 unfold wpOp
 simp only [ho]
 rw [hw]
 cases b with
 | true =>
  simp only [cond_true] at h
  rw [if_pos rfl]
  refine .inl (Qtu hX A.sim hfr A.env hop h fun v w' D' st hr => hK _ _ D' (A.step st hmf hr (fun t => ?_)) st.fresh)
  rw [hd]; exact he t
 | false =>
  simp only [cond_false, Option.some.injEq] at h
  subst h
  rw [if_neg (by simp)]
  refine hK _ _ D (A.step (fr := fr) (Step.same A.sim rfl rfl rfl rfl) hmf (p := .tup []) (.tup _ #[] [] rfl (fun i v p hv => by simp at hv)) (fun t => ?_)) (fun id h _ => h)
  rw [hd]; exact he t
theorem Qqr {ws : List (Nat × Option Ob)} {fr id : Nat} (h : ∀ y ∈ ws, (∃ ob, H y.1 = some ob) ∨ (fr ≤ y.1 ∧ y.1 < fr + 64)) (h1 : H id = none) (h2 : ¬ (fr ≤ id ∧ id < fr + 64)) : upH H ws id = none := by
  rw [Q4g (fun y hy e => ?_)]
  · exact h1
  · subst e
    rcases h y hy with ⟨ob, hob⟩ | h'
    · rw [h1] at hob; cases hob
    · exact h2 h'
theorem Qcy (hX : Q4q P X) {nx : Nat} (hmn : m ≤ nx) {ops : Array Oper} {Q : Exit → Act → World → Prop} : ∀ (r : List IOper) (i : Nat) (env : List PV) (h : List (Nat × Ob)) (y : List PV × List (Nat × Ob) × List Eff) (a : Act) (w : World) (D : Nat → Option Nat),
  Q3d X nx i r env h = some y → (∀ j o io, ops[i + j]? = some o → r[j]? = some io → Q5x P ops o io = true) → i + r.length = ops.size → At w0 D0 H0 F n0 m env.length (envF env) (look h) a w D → (∀ id, nx + 64 * i ≤ id → D id = none ∧ look h id = none) →
   (∀ a' w' D', At w0 D0 H0 F n0 m y.1.length (envF y.1) (look y.2.1) a' w' D' → (∀ id, nx + 64 * ops.size ≤ id → D' id = none ∧ look y.2.1 id = none) → Q .normal a' w') → wpOps P ops Q (List.range' i r.length) a w
 | [], i, env, h, y, a, w, D, hy, hc, hn, A, hf, hQ => by
  simp only [Q3d, Option.some.injEq] at hy
  subst hy
  simp only [List.length_nil, Nat.add_zero] at hn
  subst hn
  exact hQ a w D A hf
 | o :: r, i, env, h, y, a, w, D, hy, hc, hn, A, hf, hQ => by
  simp only [Q3d] at hy
  obtain ⟨x, hst, hy⟩ := bind_some hy
  obtain ⟨z, hz, hy⟩ := bind_some hy
  injection hy with hy
  subst hy
  have hlt : i < ops.size := by rw [← hn]; simp
  have hoi : ops[i]? = some ops[i] := Array.getElem?_eq_getElem hlt
  rw [List.length_cons, List.range'_succ, wpOps_cons]
  refine Q8o hX A (fr := nx + 64 * i) (by omega) (fun id h1 _ => hf id h1) hoi (hc 0 _ o hoi rfl) hst (e' := envF (put env o.dst x.v)) (H' := look (hput h x.hw)) (fun t => Qp6) (Q46 _ _).symm (fun a' w' D' A' hfr' => ?_)
  have hput : (put env o.dst x.v).length = env.length := Qg5
  refine Qcy hX hmn r (i + 1) _ _ z a' w' D' hz (fun j o' io h1 h2 => hc (j + 1) o' io (by rw [show i + (j + 1) = i + 1 + j by omega]; exact h1) (by simpa using h2)) (by rw [← hn]; simp; omega) (by rw [hput]; exact A') (fun id hid => ?_) hQ
  have := hf id (by omega)
  exact ⟨hfr' id this.1 (by omega), by rw [Q46]; exact Qqr (Qpl hst) this.2 (by omega)⟩
def Done (listed : Array Bool) (j : Nat) : Prop := listed.getD j false = true
theorem Qn1 {listed : Array Bool} {j : Nat} (h : Done listed j) : j < listed.size := by
  unfold Done at h
  rcases Nat.lt_or_ge j listed.size with c | c
  · exact c
  · rw [Array.getD_eq_getD_getElem?, Array.getElem?_eq_none c] at h
    cases h
theorem Qx2 {listed : Array Bool} {i k : Nat} (hi : i < listed.size) : Done (listed.setIfInBounds i true) k ↔ Done listed k ∨ k = i := by
  unfold Done
  rw [Array.getD_eq_getD_getElem?, Array.getD_eq_getD_getElem?, Array.getElem?_setIfInBounds]
  by_cases c : i = k
  · subst c
    simp [hi]
  · rw [if_neg c]
    constructor
    · exact fun h => .inl h
    · rintro (h | h)
      · exact h
      · exact absurd h.symm c
theorem Qib {listed : Array Bool} {i : Nat} (hi : i < listed.size) : listed.getD i true = false ↔ ¬ Done listed i := by
 unfold Done
 rw [Array.getD_eq_getD_getElem?, Array.getD_eq_getD_getElem?, Array.getElem?_eq_getElem hi]
 simp
def todo (listed : Array Bool) : Nat := listed.toList.countP (fun b => !b)
theorem Qqp {listed : Array Bool} {i : Nat} (hi : i < listed.size) (h : ¬ Done listed i) : todo listed = todo (listed.setIfInBounds i true) + 1 := by
 unfold todo
 have hb : listed[i] = false := by
  unfold Done at h
  rw [Array.getD_eq_getD_getElem?, Array.getElem?_eq_getElem hi] at h
  simpa using h
 rw [Array.toList_setIfInBounds]
 have hl : i < listed.toList.length := by simpa using hi
 have hb' : listed.toList[i] = false := by simpa using hb
 have key : ∀ (l : List Bool) (i : Nat) (hl : i < l.length), l[i] = false → l.countP (fun b => !b) = (l.set i true).countP (fun b => !b) + 1 := by
  intro l
  induction l with
  | nil => intro i hl; simp at hl
  | cons x r ih =>
   intro i hl hx
   cases i with
   | zero =>
    simp at hx
    subst hx
    simp
   | succ i =>
    have := ih i (by simpa using hl) (by simpa using hx)
    cases x <;> simp [this]
 exact key _ i hl hb'
theorem Qy3 {listed : Array Bool} (h : todo listed ≠ 0) : ∃ i, i < listed.size ∧ ¬ Done listed i := by
 unfold todo at h
 have : 0 < listed.toList.countP (fun b => !b) := Nat.pos_of_ne_zero h
 obtain ⟨b, hb, h2⟩ := List.countP_pos_iff.1 this
 obtain ⟨i, hi⟩ := List.getElem?_of_mem hb
 have hl : i < listed.size := by have := (List.getElem?_eq_some_iff.1 hi).1; simpa using this
 refine ⟨i, hl, fun hd => ?_⟩
 unfold Done at hd
 rw [Array.getD_eq_getD_getElem?, ← Array.getElem?_toList, hi] at hd
 simp only [Option.getD_some] at hd
 subst hd
 cases h2
theorem Qr3 (hX : Q4q P X) {nx : Nat} (hmn : m ≤ nx) {ops : Array Oper} {ios : List IOper} {xs : List Eff} {Q : Exit → Act → World → Prop} {e0 : Nat → PV} {Hs : Nat → Option Ob} {ef : Nat → PV} {Hf : Nat → Option Ob}
    (hlen : ios.length = ops.size) (hxl : xs.length = ops.size) (hc : ∀ (j : Nat) o io, ops[j]? = some o → ios[j]? = some io → Q5x P ops o io = true) (hb : Ql2 ios 0 ops.toList ios = true) (hcalm : calm (ios.zip xs) 0 (ios.zip xs) = true)
    (hst : ∀ (j : Nat) o x, ios[j]? = some o → xs[j]? = some x → ∃ e H, Last (WE L ios xs) e0 (· < j) e ∧ Last (WH xs) Hs (· < j) H ∧ Q4w X e H (nx + 64 * j) o = some x)
    (hef : Last (WE L ios xs) e0 (· < ops.size) ef) (hHf : Last (WH xs) Hs (· < ops.size) Hf)
    (hQ : ∀ a' w' D', At w0 D0 H0 F n0 m L ef Hf a' w' D' → (∀ id, nx + 64 * ops.size ≤ id → D' id = none ∧ Hf id = none) → Q .normal a' w') :
    ∀ (fuel : Nat) (listed : Array Bool) (a : Act) (w : World) (e : Nat → PV) (H : Nat → Option Ob) (D : Nat → Option Nat), listed.size = ops.size → todo listed = fuel → (∀ j io, ios[j]? = some io → Done listed j → ∀ i ∈ io.bef, Done listed i) →
      Last (WE L ios xs) e0 (Done listed) e → Last (WH xs) Hs (Done listed) H → At w0 D0 H0 F n0 m L e H a w D → (∀ id, nx ≤ id → (∀ j, Done listed j → ¬ (nx + 64 * j ≤ id ∧ id < nx + 64 * j + 64)) → D id = none ∧ H id = none) →
        wpAny P .any ops Q fuel listed a w := by
  have noclash : ∀ (i k : Nat) oi xi ok xk, i < k → ios[i]? = some oi → xs[i]? = some xi → ios[k]? = some ok → xs[k]? = some xk → i ∈ ok.bef ∨ clash oi xi ok xk = false := by
    intro i k oi xi ok xk hlt h1 h2 h3 h4
    exact Ql1 hcalm (fun k => by simp) i k oi xi ok xk (Nat.zero_le _) hlt (by rw [List.getElem?_zip_eq_some]; exact ⟨h1, h2⟩) (by rw [List.getElem?_zip_eq_some]; exact ⟨h3, h4⟩)
  have bef := Qca hb
  intro fuel
  -- all done
  have fin_ : ∀ (listed : Array Bool) (a : Act) (w : World) (e : Nat → PV) (H : Nat → Option Ob) (D : Nat → Option Nat), listed.size = ops.size → (∀ j, j < ops.size → Done listed j) → Last (WE L ios xs) e0 (Done listed) e → Last (WH xs) Hs (Done listed) H → At w0 D0 H0 F n0 m L e H a w D →
      (∀ id, nx ≤ id → (∀ j, Done listed j → ¬ (nx + 64 * j ≤ id ∧ id < nx + 64 * j + 64)) → D id = none ∧ H id = none) → Q .normal a w := by
    intro listed a w e H D hsz hall l1 l2 A hf
    have e1 : e = ef := funext fun t => l1.det hef (fun k _ => ⟨fun h => by have := Qn1 h; omega, fun h => hall k h⟩)
    have e2 : H = Hf := funext fun t => l2.det hHf (fun k _ => ⟨fun h => by have := Qn1 h; omega, fun h => hall k h⟩)
    subst e1 e2
    exact hQ a w D A (fun id hid => hf id (by omega) (fun j hj => by have := Qn1 hj; omega))
  induction fuel with
  | zero =>
    intro listed a w e H D hsz ht hcl l1 l2 A hf
    have hall : ∀ j, j < ops.size → Done listed j := by
      intro j hj
      by_cases c : Done listed j
      · exact c
      · have := Qqp (by omega) c
        omega
    refine ⟨?_, fin_ listed a w e H D hsz hall l1 l2 A hf⟩
    cases hr : Region.ready .any ops listed with
    | nil => rfl
    | cons i r =>
      have hi : i ∈ Region.ready .any ops listed := by rw [hr]; exact List.mem_cons_self
      obtain ⟨g1, o, g2, _⟩ := mem_ready.1 hi
      have hlt : i < ops.size := (Array.getElem?_eq_some_iff.1 g2).1
      exact absurd (hall i hlt) ((Qib (by omega)).1 g1)
  | succ fuel ih =>
    intro listed a w e H D hsz ht hcl l1 l2 A hf
    refine ⟨fun hr => ?_, fun i hi => ?_⟩
    · -- some operation is ready
      exfalso
      obtain ⟨i, hi, hnd⟩ := Qy3 (listed := listed) (by omega)
      have key : ∀ (n i : Nat), i < n → i < listed.size → ¬ Done listed i → False := by
        intro n
        induction n with
        | zero => intro i h; omega
        | succ n ihn =>
          intro i hin hi hnd
          by_cases c : ∃ j, j < i ∧ ¬ Done listed j
          · obtain ⟨j, hj, hjn⟩ := c
            exact ihn j (by omega) (by omega) hjn
          · have hilt : i < ops.size := by omega
            have : i ∈ Region.ready .any ops listed := by
              rw [mem_ready]
              refine ⟨(Qib hi).2 hnd, ops[i], Array.getElem?_eq_getElem hilt, fun ed hed hbd => ?_⟩
              have hlt := (bef i ops[i] (ios[i]'(by omega)) (by simp [hilt]) (List.getElem?_eq_getElem (by omega))).2 ed hed hbd
              by_cases c' : Done listed ed.on
              · exact c'
              · exact absurd ⟨ed.on, by omega, c'⟩ c
            rw [hr] at this
            cases this
      exact key (i + 1) i (by omega) hi hnd
    · obtain ⟨g1, o, g2, g3⟩ := mem_ready.1 hi
      have hlt : i < ops.size := (Array.getElem?_eq_some_iff.1 g2).1
      have hnd : ¬ Done listed i := (Qib (by omega)).1 g1
      have hio : ios[i]? = some (ios[i]'(by omega)) := List.getElem?_eq_getElem (by omega)
      have hxi : xs[i]? = some (xs[i]'(by omega)) := List.getElem?_eq_getElem (by omega)
      generalize ios[i]'(by omega) = io at hio
      generalize xs[i]'(by omega) = x at hxi
      obtain ⟨et, Ht, t1, t2, t3⟩ := hst i io x hio hxi
      -- i's own predecessors are done
      have hbi : ∀ k ∈ io.bef, Done listed k := by
        intro k hk
        obtain ⟨ed, hed, hbd, h⟩ := (bef i o io (by simpa using g2) hio).1 k hk
        have hd : Done listed ed.on := g3 ed hed hbd
        rcases h with rfl | h
        · exact hd
        · unfold Qzj at h
          split at h
          · rename_i io' hio'
            exact hcl ed.on io' hio' hd k h
          · cases h
      -- who meddles with i, and is done, stands ahead of it in the text; and the other way round
      have later : ∀ k ok xk, i < k → ios[k]? = some ok → xs[k]? = some xk → Done listed k → clash io x ok xk = false := by
        intro k ok xk hik h1 h2 h3
        rcases noclash i k io x ok xk hik hio hxi h1 h2 with h | h
        · exact absurd (hcl k ok h1 h3 i h) hnd
        · exact h
      have ahead : ∀ k ok xk, k < i → ios[k]? = some ok → xs[k]? = some xk → Done listed k ∨ clash ok xk io x = false := by
        intro k ok xk hik h1 h2
        rcases noclash k i ok xk io x hik h1 h2 hio hxi with h | h
        · exact .inl (hbi k h)
        · exact .inr h
      -- what i looks at is what it looked at in the text's order
      have see1 : ∀ t ∈ io.looks, e t = et t := by
        intro t ht
        refine l1.det t1 (fun k hk => ?_)
        obtain ⟨ok, xk, h1, h2, h3, _⟩ := Q10u hk
        constructor
        · intro hdk
          rcases Nat.lt_trichotomy k i with c | c | c
          · exact c
          · subst c; exact absurd hdk hnd
          · exact absurd ht ((Q3w (later k ok xk c h1 h2 hdk)).2.1 t h3)
        · intro hki
          rcases ahead k ok xk hki h1 h2 with h | h
          · exact h
          · exact absurd ht ((Q3w h).1 t h3)
      have see2 : ∀ id ∈ x.hr, H id = Ht id := by
        intro id hid
        refine l2.det t2 (fun k hk => ?_)
        obtain ⟨xk, h2, h3⟩ := Q10v hk
        have hkl : k < ios.length := by have := (List.getElem?_eq_some_iff.1 h2).1; omega
        have h1 : ios[k]? = some ios[k] := List.getElem?_eq_getElem hkl
        constructor
        · intro hdk
          rcases Nat.lt_trichotomy k i with c | c | c
          · exact c
          · subst c; exact absurd hdk hnd
          · exact absurd hid ((Q3w (later k _ xk c h1 h2 hdk)).2.2.2.2 id h3)
        · intro hki
          rcases ahead k _ xk hki h1 h2 with h | h
          · exact h
          · exact absurd hid ((Q3w h).2.2.2.1 id h3).1
      have run := Qn7 t3 see1 see2
      -- the new state
      have hdone := fun k => Qx2 (k := k) (show i < listed.size by omega)
      have n1 : Last (WE L ios xs) e0 (Done (listed.setIfInBounds i true)) (fun t => (WE L ios xs i t).getD (e t)) := l1.add hdone (fun k t hk hik hne => by
        obtain ⟨ok, xk, h1, h2, h3, _⟩ := Q10u hne
        exact Qzh hio (fun hd => (Q3w (later k ok xk hik h1 h2 hk)).2.2.1 t hd h3)) (fun t => rfl)
      have n2 : Last (WH xs) Hs (Done (listed.setIfInBounds i true)) (upH H x.hw) := l2.add hdone (fun k id hk hik hne => by
        obtain ⟨xk, h2, h3⟩ := Q10v hne
        have hkl : k < ios.length := by have := (List.getElem?_eq_some_iff.1 h2).1; omega
        have h1 : ios[k]? = some ios[k] := List.getElem?_eq_getElem hkl
        exact Qzi hxi (fun hi' => ((Q3w (later k _ xk hik h1 h2 hk)).2.2.2.1 id hi').2 h3)) (fun t => (Qsy hxi H).symm)
      have hfree : ∀ id, nx + 64 * i ≤ id → id < nx + 64 * i + 64 → D id = none ∧ H id = none := fun id h1 h2 => hf id (by omega) (fun j hj hc' => by
        have : j = i := by omega
        subst this
        exact hnd hj)
      refine Q8o hX A (fr := nx + 64 * i) (by omega) hfree g2 (hc i o io g2 hio) run (e' := fun t => (WE L ios xs i t).getD (e t)) (H' := upH H x.hw) (fun t => Qsx hio hxi (e t)) rfl (fun a' w' D' A' hfr' => ?_)
      refine ih (listed.setIfInBounds i true) a' w' _ _ D' (by simpa using hsz) (by have := Qqp (show i < listed.size by omega) hnd; omega) (fun j io' hj hdj k hk => ?_) n1 n2 A' (fun id hid hno => ?_)
      · rw [hdone]
        rcases (hdone j).1 hdj with h | rfl
        · exact .inl (hcl j io' hj h k hk)
        · rw [hio] at hj
          injection hj with hj
          subst hj
          exact .inl (hbi k hk)
      · have h1 := hf id hid (fun j hj => hno j ((hdone j).2 (.inl hj)))
        have h2 := hno i ((hdone i).2 (.inr rfl))
        exact ⟨hfr' id h1.1 (by omega), Qqr (Qpl run) h1.2 h2⟩
def Qt9 (P : Program) (ops : Array Oper) (ios : List IOper) (draw : Bool) : Bool := Qa8 P ops ops.toList ios && (!draw || Ql2 ios 0 ops.toList ios)
theorem Qm7 (hm : P.follows .mixedOrders = true) (hX : Q4q P X) {id : Nat} {ops : Array Oper} {ios : List IOper} {draw : Bool} (hc : Qt9 P ops ios draw = true) {s s' : St} (h : ireg X ios draw s = some s') {Q : Exit → Act → World → Prop}
  (A : At w0 D0 H0 F n0 m s.env.length (envF s.env) (look s.heap) a w D) (hf : ∀ id, s.nx ≤ id → D id = none ∧ look s.heap id = none) (hmn : m ≤ s.nx)
  (hQ : ∀ a' w' D', At w0 D0 H0 F n0 m s'.env.length (envF s'.env) (look s'.heap) a' w' D' → (∀ id, s'.nx ≤ id → D' id = none ∧ look s'.heap id = none) → Q .normal a' w') : (Code.region id ops draw).wp P Q a w := by
 unfold Qt9 at hc
 rw [Bool.and_eq_true] at hc
 obtain ⟨hc1, hc2⟩ := hc
 obtain ⟨hl, hch⟩ := Q7o hc1
 have hl : ios.length = ops.size := by simpa using hl.symm
 have hch' : ∀ j o io, ops[j]? = some o → ios[j]? = some io → Q5x P ops o io = true := fun j o io h1 h2 => hch j o io (by simpa using h1) h2
 unfold ireg at h
 obtain ⟨y, hy, h⟩ := bind_some h
 cases hcm : (!draw || calm (ios.zip y.2.2) 0 (ios.zip y.2.2)) with
 | false => rw [hcm] at h; cases h
 | true =>
  rw [hcm] at h
  simp only [cond_true, Option.some.injEq] at h
  subst h
  simp only at hQ
  rw [hl] at hQ
  cases draw with
  | false =>
   refine wp_region ?_
   have := Qcy hX hmn ios 0 s.env s.heap y a w D hy (fun j o io h1 h2 => hch' j o io (by simpa using h1) h2) (by omega) A (fun id h => hf id (by omega)) hQ
   rw [List.range_eq_range', ← hl]
   exact this
  | true =>
   refine wp_region_any hm ?_
   obtain ⟨g1, g2, g3, g4, g5⟩ := Q91 (ios := ios) (xs := y.2.2) (L := s.env.length) (e0 := envF s.env) (H0 := look s.heap) ios 0 s.env s.heap y hy (fun j => by simp) (fun j => by simp) rfl (Last.none (fun k => by omega)) (Last.none (fun k => by omega))
   rw [g2] at hQ
   rw [Nat.zero_add, hl] at g4 g5
   have hnone : ∀ j, ¬ Done (Array.replicate ops.size false) j := by
    intro j hj
    unfold Done at hj
    rw [Array.getD_eq_getD_getElem?, Array.getElem?_replicate] at hj
    split at hj <;> cases hj
   have htodo : todo (Array.replicate ops.size false) = ops.size := by
    unfold todo
    simp [List.countP_replicate]
   have A' : At w0 D0 H0 F n0 m s.env.length (envF s.env) (look s.heap) a { w with drawn := w.drawn + 1 } D := by
    have st : Step w D (look s.heap) F n0 m m { w with drawn := w.drawn + 1 } D (look s.heap) := Step.same A.sim rfl rfl rfl rfl
    have := A.step st (Nat.le_refl _) (dst := none) (v := undef) (p := .un) (.un _ _) (e' := envF s.env) (fun t => by simp)
    exact this
   exact Qr3 hX hmn hl (by omega) hch' (by simpa using hc2) (by simpa using hcm) (fun j o x h1 h2 => g3 j o x (Nat.zero_le _) h1 h2) g4 g5 hQ ops.size (Array.replicate ops.size false) a _ (envF s.env) (look s.heap) D (by simp) htodo
    (fun j io _ hd => absurd hd (hnone j)) (Last.none hnone) (Last.none hnone) A' (fun id hid _ => hf id hid)
end
end Go.Pv
end

section
/-
  Tidying up at a loop's head; a function's end.
-/
namespace Go.Pv
open Go.RowKit
def Like (p q : PV) : Prop := ∀ w M D v, Rep w M D v p → Rep w M D v q
theorem Like.refl (p : PV) : Like p p := fun _ _ _ _ h => h
theorem Like.ns {sz k : Nat} : Like (.ns sz) (.ms k sz 0 0) := fun w M D v h => by
 cases h with
 | ns _ A _ => exact .ms _ A 0 0 k sz 0 (Nat.le_refl _) (Nat.zero_le _) (.inl ⟨rfl, rfl⟩)
def Q5o (l l' : List PV) : Prop := l'.length = l.length ∧ ∀ (k : Nat) p q, l[k]? = some p → l'[k]? = some q → Like p q
theorem Q5o.nil : Q5o [] [] := ⟨rfl, fun k p q h => by simp at h⟩
theorem Q5o.cons {p q : PV} {l l' : List PV} (h : Like p q) (hl : Q5o l l') : Q5o (p :: l) (q :: l') := by
 refine ⟨by simp [hl.1], fun k p' q' h1 h2 => ?_⟩
 cases k with
 | zero =>
  simp at h1 h2
  subst h1 h2
  exact h
 | succ k => exact hl.2 k p' q' (by simpa using h1) (by simpa using h2)
theorem Q5o.refl : ∀ l : List PV, Q5o l l
 | [] => .nil
 | p :: r => .cons (Like.refl p) (Q5o.refl r)
def Bare (nx : Nat) (l : List (Nat × Ob)) : Prop := ∀ x ∈ l, nx ≤ x.1 ∧ x.2.cells = [] ∧ x.2.ro = 0
theorem Bare.mono {nx nx' : Nat} {l : List (Nat × Ob)} (h : Bare nx' l) (hn : nx ≤ nx') : Bare nx l := fun x hx => ⟨Nat.le_trans hn (h x hx).1, (h x hx).2⟩
theorem Q3h : ∀ (l : List PV) (nx : Nat), Q5o l (Q2m nx l).1 ∧ nx ≤ (Q2m nx l).2.1 ∧ Bare nx (Q2m nx l).2.2
  | [], nx => ⟨.nil, Nat.le_refl _, fun x hx => absurd hx List.not_mem_nil⟩
  | p :: r, nx => by
    have plain : Q5o (p :: r) (p :: (Q2m nx r).1) ∧ nx ≤ (Q2m nx r).2.1 ∧ Bare nx (Q2m nx r).2.2 :=
      ⟨.cons (Like.refl p) (Q3h r nx).1, (Q3h r nx).2⟩
    cases p with
    | ns sz =>
      obtain ⟨h1, h2, h3⟩ := Q3h r (nx + 1)
      refine ⟨.cons Like.ns h1, by simp only [Q2m]; omega, fun x hx => ?_⟩
      simp only [Q2m] at hx
      rcases List.mem_cons.1 hx with rfl | hx
      · exact ⟨Nat.le_refl _, rfl, rfl⟩
      · exact (h3.mono (by omega)) x hx
    | _ => exact plain
def VOb (ob ob' : Ob) : Prop := ob'.ro = ob.ro ∧ ob'.gr = ob.gr ∧ Q5o ob.cells ob'.cells
theorem Qgc : ∀ (h : List (Nat × Ob)) (nx : Nat), nx ≤ (Q8s nx h).2.1 ∧ Bare nx (Q8s nx h).2.2 ∧ (∀ id ob', look (Q8s nx h).1 id = some ob' → ∃ ob, look h id = some ob ∧ VOb ob ob')
  | [], nx => ⟨Nat.le_refl _, fun x hx => absurd hx List.not_mem_nil, fun id ob' h => by simp [Q8s, look] at h⟩
  | (k, ob) :: r, nx => by
    obtain ⟨h1, h2, h3⟩ := Q3h ob.cells nx
    obtain ⟨g1, g2, g3⟩ := Qgc r (Q2m nx ob.cells).2.1
    refine ⟨by simp only [Q8s]; omega, fun x hx => ?_, fun id ob' hl => ?_⟩
    · simp only [Q8s] at hx
      rcases List.mem_append.1 hx with hx | hx
      · exact h3 x hx
      · exact (g2.mono h2) x hx
    · simp only [Q8s, look] at hl ⊢
      cases hb : Nat.beq k id with
      | true =>
        rw [hb] at hl
        simp only [cond_true, Option.some.injEq] at hl
        subst hl
        exact ⟨ob, rfl, rfl, rfl, h1⟩
      | false =>
        rw [hb] at hl
        simp only [cond_false] at hl ⊢
        exact g3 id ob' hl
theorem Qcr {l l' : List (Nat × Ob)} {id : Nat} {ob : Ob} (h : look (l ++ l') id = some ob) : look l id = some ob ∨ look l' id = some ob := by
 induction l with
 | nil => exact .inr h
 | cons x r ih =>
  obtain ⟨k, o⟩ := x
  simp only [List.cons_append, look] at h ⊢
  cases hb : Nat.beq k id with
  | true => rw [hb] at h; exact .inl h
  | false => rw [hb] at h; exact ih h
theorem Qpr {l : List (Nat × Ob)} {id : Nat} {ob : Ob} (h : look l id = some ob) : (id, ob) ∈ l := by
  induction l with
  | nil => simp [look] at h
  | cons x r ih =>
    obtain ⟨k, o⟩ := x
    simp only [look] at h
    by_cases c : k = id
    · subst c
      simp at h
      subst h
      exact List.mem_cons_self
    · have : Nat.beq k id = false := by rw [Bool.eq_false_iff]; exact fun h => c (Nat.eq_of_beq_eq_true h)
      rw [this] at h
      exact List.mem_cons_of_mem _ (ih h)
theorem Qcs : ∀ (l : List Ob) (i j : Nat), look (number i l) (i + j) = l[j]?
 | [], i, j => by simp [number, look]
 | o :: r, i, j => by
  simp only [number, look]
  cases j with
  | zero => simp
  | succ j =>
   have : Nat.beq i (i + (j + 1)) = false := by rw [Bool.eq_false_iff]; exact fun h => by have := Nat.eq_of_beq_eq_true h; omega
   rw [this]
   have := Qcs r (i + 1) j
   rw [show i + 1 + j = i + (j + 1) by omega] at this
   simpa using this
theorem Q4l (l : List Ob) : look (number 0 l) = hF l := funext fun j => by
 have := Qcs l 0 j
 rw [Nat.zero_add] at this
 exact this
theorem Q68 : ∀ m : Nat, (upTo m).length = m ∧ ∀ p, p < m → (upTo m)[p]? = some p
  | 0 => ⟨rfl, fun p h => by omega⟩
  | m + 1 => by
    obtain ⟨h1, h2⟩ := Q68 m
    refine ⟨by simp [upTo, h1], fun p hp => ?_⟩
    simp only [upTo]
    by_cases c : p < m
    · rw [List.getElem?_append_left (by omega)]
      exact h2 p c
    · have : p = m := by omega
      subst this
      rw [List.getElem?_append_right (by omega), h1]
      simp
theorem Qs8 (m : Nat) : (upTo m).Nodup := by
 induction m with
 | zero => exact List.nodup_nil
 | succ m ih =>
  simp only [upTo]
  rw [List.nodup_append]
  refine ⟨ih, by simp, fun a ha b hb => ?_⟩
  simp at hb
  subst hb
  obtain ⟨i, hi⟩ := List.getElem?_of_mem ha
  have hl := (List.getElem?_eq_some_iff.1 hi).1
  rw [(Q68 b).1] at hl
  rw [(Q68 b).2 i hl] at hi
  injection hi with hi
  omega
section
variable {P : Program} {X : Orc} {w0 : World} {D0 : Nat → Option Nat} {H0 : Nat → Option Ob} {F : Nat → Nat → Prop} {n0 m L : Nat} {e : Nat → PV} {H : Nat → Option Ob} {a : Act} {w : World} {D : Nat → Option Nat}
theorem Qio (S : Sim w D H F n0 m) {Hv : Nat → Option Ob} (hv : ∀ id ob', Hv id = some ob' → (∃ ob, H id = some ob ∧ VOb ob ob') ∨ (ob'.cells = [] ∧ ob'.ro = 0 ∧ D id = none)) :
    (∀ b o, Mut D Hv F b o → Mut D H F b o) ∧ (∀ b o, MutO D Hv b o → MutO D H b o) ∧ Sim w D Hv F n0 m := by
  have hO : ∀ b o, MutO D Hv b o → MutO D H b o := by
    rintro b o ⟨id, ob', h1, h2, h3⟩
    rcases hv id ob' h1 with ⟨ob, g1, g2, _⟩ | ⟨_, _, g⟩
    · exact ⟨id, ob, g1, h2, by omega⟩
    · rw [h2] at g; cases g
  have hM : ∀ b o, Mut D Hv F b o → Mut D H F b o := fun b o h => h.imp (fun h => h) (hO b o)
  refine ⟨hM, hO, S.fr, S.le, S.own, fun id ob' h => ?_, fun i j x y k hi hj di dj => ?_, fun id ob' b o h hd => ?_⟩
  · rcases hv id ob' h with ⟨ob, g1, g2, g3, g4⟩ | ⟨g1, g2, g3⟩
    · obtain ⟨q1, q2⟩ := S.ok id ob g1
      refine ⟨by rw [g4.1]; omega, ?_⟩
      rcases q2 with ⟨e1, e2⟩ | ⟨b, carr, t, e1, e2, e3, e4, e5⟩
      · exact .inl ⟨List.eq_nil_of_length_eq_zero (by rw [g4.1, e1]; rfl), e2⟩
      · refine .inr ⟨b, carr, t, e1, e2, by rw [g4.1]; exact e3, fun hg => e4 (by rw [← g3]; exact hg), fun k q hq => ?_⟩
        have hlt : k < ob.cells.length := by rw [← g4.1]; exact (List.getElem?_eq_some_iff.1 hq).1
        obtain ⟨v, r1, r2, r3⟩ := e5 k _ (List.getElem?_eq_getElem hlt)
        exact ⟨v, r1, r2, g4.2 k _ q (List.getElem?_eq_getElem hlt) hq _ _ _ _ (r3.to (fun b o _ h => hM b o h) (fun _ _ h => h))⟩
    · exact ⟨by omega, .inl ⟨g1, g3⟩⟩
  · rcases hv i x hi with ⟨ob, g1, _⟩ | ⟨_, _, g⟩
    · rcases hv j y hj with ⟨ob', f1, _⟩ | ⟨_, _, f⟩
      · exact S.inj i j ob ob' k g1 f1 di dj
      · rw [dj] at f; cases f
    · rw [di] at g; cases g
  · rcases hv id ob' h with ⟨ob, g1, _⟩ | ⟨_, _, g⟩
    · exact S.dis id ob b o g1 hd
    · rw [hd] at g; cases g
theorem renumber (S : Sim w D H F n0 m) (byRef byRefO : Bool) {vs : List PV} {y : List PV × List Nat × List Nat} {z : List Ob × List Nat × List Nat} {n : Nat} (hy : Q2x (pass H byRef 8) vs (upTo m) = some y) (hz : Q1p H byRefO true n 0 y.2.1 = some z) (hdj : ∀ x ∈ y.2.2 ++ z.2.2, x ∉ z.2.1) :
    ∃ D', Sim w D' (hF z.1) F n0 m ∧ (∀ id, id < m → D' id = D id) ∧ (∀ id, z.1.length ≤ id → D' id = none) ∧ (∀ b o, Mut D' (hF z.1) F b o → Mut D H F b o) ∧ m ≤ z.1.length ∧ y.1.length = vs.length ∧
      ∀ (i : Nat) v p q, vs[i]? = some p → y.1[i]? = some q → Rep w (Mut D H F) D v p → Rep w (Mut D' (hF z.1) F) D' v q := by
  have hy0 := Q21 (M := Mut D H F) (fun p ids x hx => Q55 S (fun _ _ _ h => h) byRef 8 p ids x hx) vs (upTo m) y hy
  have hz0 := Q1z (M := Mut D H F) S (fun _ _ _ h => h) byRefO true n 0 y.2.1 z (Nat.zero_le _) hz
  have hnd0 := hy0.2.1 (Qs8 m)
  have hnd := hz0.2.1 hnd0
  have hpre : upTo m <+: z.2.1 := hy0.1.trans hz0.1
  have hlow : ∀ p, p < m → z.2.1[p]? = some p := fun p hp => Q3z hpre ((Q68 m).2 p hp)
  have hlen : z.1.length = z.2.1.length := by have := hz0.2.2.1; omega
  obtain ⟨h1, h2, h3⟩ := Qph S byRefO true hz hnd0 (lent := y.2.2 ++ z.2.2) (fun x hx => List.mem_append_right _ hx) (F' := F) (fun b o h => .inl h) (fun id _ ob b o h1 h2 _ hF => S.dis id ob b o h1 h2 hF) hdj (n' := n0) (m' := m) S.fr S.le
    (fun p b hp => by
      unfold Dof at hp
      cases hq : z.2.1[p]? with
      | none => rw [hq] at hp; cases hp
      | some id =>
        rw [hq] at hp
        rcases S.own id b hp with h | h
        · have := (List.getElem?_inj (List.getElem?_eq_some_iff.1 hq).1 hnd).1 (hq.trans (hlow id h).symm)
          exact .inl (by omega)
        · exact .inr h)
    (fun id ob b o _ h1 h2 => S.dis id ob b o h1 h2)
    (fun id ob b hob hg hd => by
      rcases (S.ok id ob hob).2 with ⟨_, e2⟩ | ⟨b', carr, t, e1, _, _, e4, _⟩
      · rw [hd] at e2; cases e2
      · rw [hd] at e1
        injection e1 with e1
        subst e1
        exact e4 (by simpa using hg))
  refine ⟨Dof D z.2.1, h3, fun id hid => by unfold Dof; rw [hlow id hid]; rfl, fun id hid => by unfold Dof; rw [List.getElem?_eq_none (by omega)]; rfl, h1, by have := hpre.length_le; rw [(Q68 m).1] at this; omega, hy0.2.2.1, fun i v p q hp hq hr => ?_⟩
  obtain ⟨_, _, _, c4⟩ := Q21 (fun p ids x hx => Q55 S (M := Mut (Dof D z.2.1) (hF z.1) F) (fun b o _ h => h1 b o h) byRef 8 p ids x hx) vs (upTo m) y hy
  exact c4 z.2.1 hz0.1 (fun id hi => h2 id (List.mem_append_left _ hi)) i v p q hp hq hr
theorem Qm1 (live : List Nat) : ∀ (l : List PV) (i : Nat), (mask live i l).length = l.length ∧ ∀ (k : Nat) q, (mask live i l)[k]? = some q → q = .un ∨ l[k]? = some q
 | [], i => ⟨rfl, fun k q h => by simp [mask] at h⟩
 | p :: r, i => by
  obtain ⟨h1, h2⟩ := Qm1 live r (i + 1)
  refine ⟨by simp [mask, h1], fun k q hq => ?_⟩
  cases k with
  | zero =>
   simp only [mask, List.getElem?_cons_zero, Option.some.injEq] at hq
   subst hq
   cases has live i with
   | true => exact .inr rfl
   | false => exact .inl rfl
  | succ k => simpa using h2 k q (by simpa [mask] using hq)
theorem Qqf {n : Nat} {vs : List PV} {ids : List Nat} {y : List PV × List Nat × List Nat} (h : Q2x (pass H true n) vs ids = some y) : y.2.2 = [] := by
 induction n generalizing vs ids y with
 | zero =>
  cases vs with
  | nil => simp only [Q2x, Option.some.injEq] at h; subst h; rfl
  | cons p r =>
   simp only [Q2x] at h
   obtain ⟨x, hx, _⟩ := bind_some h
   simp [pass] at hx
 | succ n ih =>
  have one : ∀ p ids x, pass H true (n + 1) p ids = some x → x.fr = [] := by
   intro p ids x h
   cases p with
   | bx id off => rw [pass] at h; injection h with h; subst h; rfl
   | ms id sz off len => rw [pass, cond_true] at h; injection h with h; subst h; rfl
   | agg c =>
    rw [pass] at h
    obtain ⟨y, hy, h⟩ := bind_some h
    injection h with h
    subst h
    exact ih hy
   | tup c =>
    rw [pass] at h
    obtain ⟨y, hy, h⟩ := bind_some h
    injection h with h
    subst h
    exact ih hy
   | fn f a b =>
    rw [pass] at h
    obtain ⟨y, hy, h⟩ := bind_some h
    obtain ⟨z, hz, h⟩ := bind_some h
    injection h with h
    subst h
    show y.2.2 ++ z.2.2 = []
    rw [ih hy, ih hz]
    rfl
   | _ => simp only [pass, Option.some.injEq] at h; subst h; rfl
  induction vs generalizing ids y with
  | nil => simp only [Q2x, Option.some.injEq] at h; subst h; rfl
  | cons p r ihr =>
   simp only [Q2x] at h
   obtain ⟨x, hx, h⟩ := bind_some h
   obtain ⟨z, hz, h⟩ := bind_some h
   injection h with h
   subst h
   show x.fr ++ z.2.2 = []
   rw [one p ids x hx, ihr hz]
   rfl
theorem Qg2 {own : Bool} : ∀ (n k : Nat) (ids : List Nat) (z : List Ob × List Nat × List Nat), Q1p H true own n k ids = some z → z.2.2 = []
 | 0, k, ids, z, h => by simp [Q1p] at h
 | n + 1, k, ids, z, h => by
  simp only [Q1p] at h
  cases hid : ids[k]? with
  | none => simp only [hid, Option.some.injEq] at h; subst h; rfl
  | some id =>
   simp only [hid] at h
   obtain ⟨ob, hob, h⟩ := bind_some h
   obtain ⟨y, hy, h⟩ := bind_some h
   obtain ⟨z', hz, h⟩ := bind_some h
   injection h with h
   subst h
   show y.2.2 ++ z'.2.2 = []
   rw [Qqf hy, Qg2 n (k + 1) y.2.1 z' hz]
   rfl
theorem Qla {s : St} (A : At w0 D0 H0 F n0 m s.env.length (envF s.env) (look s.heap) a w D) (hf : ∀ id, s.nx ≤ id → D id = none ∧ look s.heap id = none) {live : List Nat} {y : List PV × List Ob} (h : gc0 m live s = some y) :
    ∃ D', At w0 D0 H0 F n0 m y.1.length (envF y.1) (hF y.2) a w D' ∧ (∀ id, y.2.length ≤ id → D' id = none ∧ hF y.2 id = none) ∧ m ≤ y.2.length := by
  unfold gc0 at h
  obtain ⟨y1, hy1, h⟩ := bind_some h
  obtain ⟨z, hz, h⟩ := bind_some h
  injection h with h
  subst h
  obtain ⟨v1, v2, v3⟩ := Q3h (mask live 0 s.env) s.nx
  obtain ⟨u1, u2, u3⟩ := Qgc s.heap (Q2m s.nx (mask live 0 s.env)).2.1
  obtain ⟨hM, hO, S⟩ := Qio A.sim (Hv := look ((Q8s (Q2m s.nx (mask live 0 s.env)).2.1 s.heap).1 ++ ((Q2m s.nx (mask live 0 s.env)).2.2 ++ (Q8s (Q2m s.nx (mask live 0 s.env)).2.1 s.heap).2.2))) (fun id ob' h => by
    rcases Qcr h with h | h
    · exact .inl (u3 id ob' h)
    · have : s.nx ≤ id ∧ ob'.cells = [] ∧ ob'.ro = 0 := by
        rcases List.mem_append.1 (Qpr h) with hm | hm
        · exact v3 _ hm
        · exact (u2.mono v2) _ hm
      exact .inr ⟨this.2.1, this.2.2, (hf id this.1).1⟩)
  obtain ⟨D', S', hlow, hout, hsub, hlen, hyl, hrep⟩ := renumber S true true hy1 hz (by rw [Qqf hy1, Qg2 _ _ _ _ hz]; exact fun x hx => absurd hx List.not_mem_nil)
  obtain ⟨m1, m2⟩ := Qm1 live s.env 0
  have hlt : y1.1.length = s.env.length := by rw [hyl, v1.1, m1]
  refine ⟨D', ⟨S', fun t => ?_, by rw [hlt]; exact A.size, fun t ht => ?_, A.keeps, fun id hid => by rw [hlow id hid, A.low id hid], fun b o hb h => A.sub b o hb (hM b o (hsub b o h)), A.defers⟩, fun id hid => ⟨hout id hid, List.getElem?_eq_none hid⟩, hlen⟩
  · unfold envF
    rw [List.getD_eq_getElem?_getD]
    cases hq : y1.1[t]? with
    | none => exact .un _ _
    | some q =>
      have htl : t < (Q2m s.nx (mask live 0 s.env)).1.length := by rw [← hyl]; exact (List.getElem?_eq_some_iff.1 hq).1
      refine hrep t _ _ q (List.getElem?_eq_getElem htl) hq ?_
      have htm : t < (mask live 0 s.env).length := by rw [← v1.1]; exact htl
      refine v1.2 t _ _ (List.getElem?_eq_getElem htm) (List.getElem?_eq_getElem htl) _ _ _ _ ?_
      rcases m2 t _ (List.getElem?_eq_getElem htm) with h | h
      · rw [h]; exact .un _ _
      · have := A.env t
        unfold envF at this
        rw [List.getD_eq_getElem?_getD, h] at this
        exact this.to (fun b o _ h => hM b o h) (fun _ _ h => h)
  · show envF y1.1 t = .un
    unfold envF
    rw [List.getD_eq_getElem?_getD, List.getElem?_eq_none ht]
    rfl
theorem Like.flat (p : PV) : Like p (Qi5 p) := fun w M D v h => by
 cases p <;> first | exact h | skip
 cases h with
 | ns _ A sz => exact .sl _ A 0 0 0 [] 0 0 (fun _ _ => default) rfl (Nat.le_refl _) (Nat.zero_le _) (fun r hr => absurd hr List.not_mem_nil) (fun h => absurd h (Nat.lt_irrefl _)) (fun j r hj => by simp at hj) (fun j r hj => by simp at hj)
theorem Q5o.flat (l : List PV) : Q5o l (l.map Qi5) := by
 refine ⟨by simp, fun k p q hp hq => ?_⟩
 rw [List.getElem?_map, hp] at hq
 simp only [Option.map_some, Option.some.injEq] at hq
 subst hq
 exact Like.flat p
theorem Qzm {s : St} (A : At w0 D0 H0 F n0 m s.env.length (envF s.env) (look s.heap) a w D) : At w0 D0 H0 F n0 m (Q52 s).env.length (envF (Q52 s).env) (look (Q52 s).heap) a w D := by
  obtain ⟨hM, hO, S⟩ := Qio A.sim (Hv := look (Q52 s).heap) (fun id ob' h => by
    rw [show (Q52 s).heap = s.heap.map fun x => (x.1, Q99 x.2) from rfl, Q7u] at h
    cases e : look s.heap id with
    | none => rw [e] at h; cases h
    | some ob =>
      rw [e] at h
      simp only [Option.map_some, Option.some.injEq] at h
      subst h
      exact .inl ⟨ob, rfl, rfl, rfl, Q5o.flat ob.cells⟩)
  have hlen : (Q52 s).env.length = s.env.length := by simp [Q52]
  have henv : ∀ t, envF (Q52 s).env t = Qi5 (envF s.env t) := fun t => by
    show (s.env.map Qi5).getD t .un = Qi5 (s.env.getD t .un)
    rw [List.getD_eq_getElem?_getD, List.getD_eq_getElem?_getD, List.getElem?_map]
    cases s.env[t]? <;> rfl
  refine ⟨S, fun t => ?_, by rw [hlen]; exact A.size, fun t ht => ?_, A.keeps, A.low, fun b o hb h => A.sub b o hb (hM b o h), A.defers⟩
  · rw [henv]
    exact Like.flat _ _ _ _ _ ((A.env t).to (fun b o _ h => hM b o h) (fun _ _ h => h))
  · rw [henv, A.out t (by rw [hlen] at ht; exact ht)]
    rfl
theorem Qp9 {s : St} (A : At w0 D0 H0 F n0 m s.env.length (envF s.env) (look s.heap) a w D) (hf : ∀ id, s.nx ≤ id → D id = none ∧ look s.heap id = none) {live : List Nat} {y : List PV × List Ob} (h : gc m live s = some y) :
  ∃ D', At w0 D0 H0 F n0 m y.1.length (envF y.1) (hF y.2) a w D' ∧ (∀ id, y.2.length ≤ id → D' id = none ∧ hF y.2 id = none) ∧ m ≤ y.2.length := by
 unfold gc at h
 cases c : has live 200001 with
 | false =>
  rw [c] at h
  exact Qla A hf h
 | true =>
  rw [c] at h
  refine Qla (Qzm A) (fun id hid => ⟨(hf id hid).1, ?_⟩) h
  rw [show (Q52 s).heap = s.heap.map fun x => (x.1, Q99 x.2) from rfl, Q7u, (hf id hid).2]
  rfl
def Q7p (P : Program) : List ResultVar → List RV → Bool
 | [], [] => true
 | .tmp t :: r, .tmp t' :: r' => Nat.beq t t' && Q7p P r r'
 | .cell t ty :: r, .cell t' n ag :: r' => Nat.beq t t' && tyOK P ty n ag && Q7p P r r'
 | _, _ => false
theorem Qzz (S : Sim w D H F n0 m) {t : TypeId} {n : Nat} {ag : Bool} (ht : tyOK P t n ag = true) {p q : PV} {c : List PV × List Nat} (hc : reads H n p = some c) (hq : shape ag c.1 = some q) {u : Value} (hu : Rep w (Mut D H F) D u p) :
  ∃ v, (do loadVar t (← asAddr u) : Sem Value).run P w = .ok v w ∧ Rep w (Mut D H F) D v q := by
 obtain ⟨b, off, xs, hv, hl, hra, hrn⟩ := Qd0 S hc hu
 obtain ⟨ha, hn, h1⟩ := Q57 ht
 subst hv
 cases ag with
 | true =>
  obtain ⟨fs, hu⟩ := Qg7 ha
  simp only [shape, cond_true, Option.some.injEq] at hq
  subst hq
  refine ⟨.agg xs.toArray, ?_, .agg _ _ _ (by simpa using hrn.1) (fun i v p hv hp => (hrn.2 i v p (by simpa using hv) hp).1) (fun i v p hv hp => (hrn.2 i v p (by simpa using hv) hp).2)⟩
  obtain ⟨i, hi, his⟩ := Q66 hn
  have := run_loadVar_mid (P := P) w b off t xs _ hra hu rfl (by rw [hi]; simp [his, hl])
  simp [asAddr, this]
 | false =>
  have hn1 : n = 1 := h1 rfl
  subst hn1
  cases xs with
  | nil => simp at hl
  | cons u r =>
   have hr0 : r = [] := by cases r with | nil => rfl | cons _ _ => simp at hl
   subst hr0
   obtain ⟨c1, c2⟩ := c
   cases c1 with
   | nil => have := hrn.1; simp at this
   | cons p r =>
    have : r = [] := by cases r with | nil => rfl | cons _ _ => have := hrn.1; simp at this
    subst this
    simp only [shape, cond_false, Option.some.injEq] at hq
    subst hq
    have hcell := hra 0 u rfl
    simp only [Nat.add_zero] at hcell
    refine ⟨u, ?_, (hrn.2 0 u p rfl rfl).2⟩
    simp [asAddr, loadVar, Q49 ha, hcell]
def Qvf (tmps : Array Value) : ResultVar → Sem Value
 | .tmp t => pure (tmps.getD t undef)
 | .cell x t => do loadVar t (← asAddr (tmps.getD x undef))
theorem Qs1 (fn : Func) (tmps : Array Value) : results fn tmps = (do let vs ← fn.results.mapM (Qvf tmps); pure (if h : vs.size = 1 then vs[0] else .tuple vs)) := by
 unfold results
 have : (fun x : ResultVar => (match x with | .tmp t => pure (tmps.getD t undef) | .cell x t => do loadVar t (← asAddr (tmps.getD x undef)) : Sem Value)) = Qvf tmps := by
  funext x
  cases x <;> rfl
 rw [← this]
 rfl
theorem Qd3 {s : St} (S : Sim w D (look s.heap) F n0 m) (he : Q6j w (Mut D (look s.heap) F) D a (envF s.env)) : ∀ (rs : List ResultVar) (is : List RV) (vs : List PV), Q7p P rs is = true → mapO (rv s) is = some vs →
  ∃ us, (rs.mapM (Qvf a.tmps)).run P w = .ok us w ∧ RepL w (Mut D (look s.heap) F) D us vs
 | [], [], vs, _, h => by
  simp only [mapO, Option.some.injEq] at h
  subst h
  exact ⟨[], by simp, RepL.nil _ _ _⟩
 | [], _ :: _, vs, h, _ => by cases h
 | x :: rs, [], vs, h, _ => by cases x <;> cases h
 | x :: rs, i :: is, vs, hc, h => by
  simp only [mapO] at h
  obtain ⟨q, hq, h⟩ := bind_some h
  obtain ⟨qs, hqs, h⟩ := bind_some h
  injection h with h
  subst h
  cases x with
  | tmp t =>
   cases i with
   | cell _ _ _ => cases hc
   | tmp t' =>
    simp only [Q7p, Bool.and_eq_true] at hc
    have := Nat.eq_of_beq_eq_true hc.1
    subst this
    obtain ⟨us, hus, hr⟩ := Qd3 S he rs is qs hc.2 hqs
    simp only [rv, Option.some.injEq] at hq
    subst hq
    refine ⟨_ :: us, ?_, RepL.cons (he t) hr⟩
    rw [List.mapM_cons, Sem.run_bind]
    have hv' : (Qvf a.tmps (.tmp t)).run P w = .ok (a.tmps.getD t undef) w := rfl
    rw [hv', Result.andThen_ok, Sem.run_bind, hus]
    rfl
  | cell t ty =>
   cases i with
   | tmp _ => cases hc
   | cell t' n ag =>
    simp only [Q7p, Bool.and_eq_true] at hc
    have := Nat.eq_of_beq_eq_true hc.1.1
    subst this
    obtain ⟨us, hus, hr⟩ := Qd3 S he rs is qs hc.2 hqs
    simp only [rv] at hq
    obtain ⟨c, hc1, hc2⟩ := bind_some hq
    obtain ⟨v, hv, hvr⟩ := Qzz (P := P) S hc.1.2 hc1 hc2 (he t)
    refine ⟨v :: us, ?_, RepL.cons hvr hr⟩
    rw [List.mapM_cons, Sem.run_bind]
    have hv' : (Qvf a.tmps (.cell t ty)).run P w = .ok v w := hv
    rw [hv', Result.andThen_ok, Sem.run_bind, hus]
    rfl
theorem Q4n : ∀ (m : Nat) (l : List Ob) (p : Nat) (ob : Ob), (regr m l)[p]? = some ob → ∃ o, l[p]? = some o ∧ ob.ro = o.ro ∧ ob.cells = o.cells ∧ (p < m → ob = o)
 | _, [], p, ob, h => by simp [regr] at h
 | 0, o :: r, p, ob, h => by
  cases p with
  | zero =>
   simp only [regr, List.getElem?_cons_zero, Option.some.injEq] at h
   subst h
   exact ⟨o, rfl, rfl, rfl, fun h => absurd h (Nat.not_lt_zero _)⟩
  | succ p =>
   simp only [regr, List.getElem?_cons_succ] at h
   obtain ⟨o', h1, h2, h3, _⟩ := Q4n 0 r p ob h
   exact ⟨o', by simpa using h1, h2, h3, fun h => absurd h (Nat.not_lt_zero _)⟩
 | m + 1, o :: r, p, ob, h => by
  cases p with
  | zero =>
   simp only [regr, List.getElem?_cons_zero, Option.some.injEq] at h
   subst h
   exact ⟨o, rfl, rfl, rfl, fun _ => rfl⟩
  | succ p =>
   simp only [regr, List.getElem?_cons_succ] at h
   obtain ⟨o', h1, h2, h3, h4⟩ := Q4n m r p ob h
   exact ⟨o', by simpa using h1, h2, h3, fun h => h4 (by omega)⟩
theorem Q7y : ∀ (m : Nat) (l : List Ob), (regr m l).length = l.length
 | _, [] => by simp [regr]
 | 0, o :: r => by simp [regr, Q7y 0 r]
 | m + 1, o :: r => by simp [regr, Q7y m r]
theorem Qvb (m : Nat) (l : List Ob) (p : Nat) (o : Ob) (h : l[p]? = some o) : ∃ ob, (regr m l)[p]? = some ob ∧ ob.ro = o.ro ∧ ob.cells = o.cells := by
 have hlt : p < (regr m l).length := by rw [Q7y]; exact (List.getElem?_eq_some_iff.1 h).1
 obtain ⟨o', h1, h2, h3, _⟩ := Q4n m l p _ (List.getElem?_eq_getElem hlt)
 rw [h] at h1
 injection h1 with h1
 subst h1
 exact ⟨_, List.getElem?_eq_getElem hlt, h2, h3⟩
theorem Qif {m : Nat} {l : List Ob} {D : Nat → Option Nat} {F : Nat → Nat → Prop} {b o : Nat} : Mut D (hF (regr m l)) F b o ↔ Mut D (hF l) F b o := by
  constructor
  · rintro (h | ⟨id, ob, h1, h2, h3⟩)
    · exact .inl h
    · obtain ⟨o', g1, g2, _⟩ := Q4n m l id ob h1
      exact .inr ⟨id, o', g1, h2, by rw [← g2]; exact h3⟩
  · rintro (h | ⟨id, ob, h1, h2, h3⟩)
    · exact .inl h
    · obtain ⟨o', g1, g2, _⟩ := Qvb m l id ob h1
      exact .inr ⟨id, o', g1, h2, by rw [g2]; exact h3⟩
theorem Qxu {w : World} {D : Nat → Option Nat} {l : List Ob} {F : Nat → Nat → Prop} {n0 m : Nat} (S : Sim w D (hF l) F n0 m) : Sim w D (hF (regr m l)) F n0 m := by
  refine ⟨S.fr, S.le, S.own, fun id ob h => ?_, fun i j a b k hi hj di dj => ?_, fun id ob b o h hd => ?_⟩
  · obtain ⟨o', g1, g2, g3, g4⟩ := Q4n m l id ob h
    obtain ⟨k1, k2⟩ := S.ok id o' g1
    refine ⟨by rw [g2, g3]; exact k1, ?_⟩
    rcases k2 with ⟨e1, e2⟩ | ⟨b, carr, t, e1, e2, e3, e4, e5⟩
    · exact .inl ⟨by rw [g3]; exact e1, e2⟩
    · refine .inr ⟨b, carr, t, e1, e2, by rw [g3]; exact e3, fun hg => ?_, fun k p hp => ?_⟩
      · by_cases c : id < m
        · rw [g4 c] at hg
          exact e4 hg
        · exact (S.own id b e1).resolve_left c
      · rw [g3] at hp
        obtain ⟨v, q1, q2, q3⟩ := e5 k p hp
        exact ⟨v, q1, q2, q3.to (fun b o _ h => Qif.1 h) (fun _ _ h => h)⟩
  · obtain ⟨a', g1, _⟩ := Q4n m l i a hi
    obtain ⟨b', g2, _⟩ := Q4n m l j b hj
    exact S.inj i j a' b' k g1 g2 di dj
  · obtain ⟨a', g1, _⟩ := Q4n m l id ob h
    exact S.dis id a' b o g1 hd
theorem Qch {fn : IFn} {Fn : Func} {s : St} (A : At w0 D0 H0 F n0 m s.env.length (envF s.env) (look s.heap) a w D) (hf : ∀ id, s.nx ≤ id → D id = none ∧ look s.heap id = none) (hc : Q7p P Fn.results.toList fn.res = true) {r : Rs} (h : fin fn m s = some r) :
    ∃ v p h' D', r = .ret p h' ∧ (results Fn a.tmps).run P w = .ok v w ∧ Sim w D' (hF h') F n0 m ∧ (∀ id, id < m → D' id = D id) ∧ (∀ id, h'.length ≤ id → D' id = none) ∧ (∀ b o, Mut D' (hF h') F b o → Mut D (look s.heap) F b o) ∧ m ≤ h'.length ∧ Rep w (Mut D' (hF h') F) D' v p := by
  unfold fin at h
  obtain ⟨vs, hvs, h⟩ := bind_some h
  obtain ⟨y, hy, h⟩ := bind_some h
  obtain ⟨z, hz, h⟩ := bind_some h
  obtain ⟨hdj, h⟩ := Qu h
  injection h with h
  subst h
  obtain ⟨us, hus, hrl⟩ := Qd3 A.sim A.env _ _ vs hc hvs
  -- what stands in the results, laid out
  have hvirt : Q5o vs (bif fn.keep then Q2m s.nx vs else (vs, s.nx, [])).1 ∧ Bare s.nx (bif fn.keep then Q2m s.nx vs else (vs, s.nx, [])).2.2 := by
    cases fn.keep with
    | true => exact ⟨(Q3h vs s.nx).1, (Q3h vs s.nx).2.2⟩
    | false => exact ⟨Q5o.refl vs, fun x hx => absurd hx List.not_mem_nil⟩
  obtain ⟨hlike, hbare⟩ := hvirt
  obtain ⟨hM, hO, S⟩ := Qio A.sim (Hv := look (s.heap ++ (bif fn.keep then Q2m s.nx vs else (vs, s.nx, [])).2.2)) (fun id ob' h => by
    rcases Qcr h with h | h
    · exact .inl ⟨ob', h, rfl, rfl, Q5o.refl _⟩
    · have := hbare _ (Qpr h)
      exact .inr ⟨this.2.1, this.2.2, (hf id this.1).1⟩)
  obtain ⟨D', S', hlow, hout, hsub, hlen, hyl, hrep⟩ := renumber S fn.keep false hy hz (Qa9.1 hdj)
  have hR : RepL w (Mut D' (hF z.1) F) D' us y.1 := by
    refine ⟨by rw [hyl, hlike.1]; exact hrl.1, fun i v q hv hq => ?_⟩
    have h1 : i < (bif fn.keep then Q2m s.nx vs else (vs, s.nx, [])).1.length := by rw [← hyl]; exact (List.getElem?_eq_some_iff.1 hq).1
    have h2 : i < vs.length := by rw [← hlike.1]; exact h1
    refine hrep i v _ q (List.getElem?_eq_getElem h1) hq ?_
    refine hlike.2 i _ _ (List.getElem?_eq_getElem h2) (List.getElem?_eq_getElem h1) _ _ _ _ ?_
    exact (hrl.2 i v _ hv (List.getElem?_eq_getElem h2)).to (fun b o _ h => hM b o h) (fun _ _ h => h)
  have hrun : ∀ u : Value, (if h : us.toArray.size = 1 then us.toArray[0] else .tuple us.toArray) = u → (results Fn a.tmps).run P w = .ok u w := by
    intro u hu
    rw [Qs1, Sem.run_bind, Array.mapM_eq_mapM_toList, Sem.run_map, hus, Result.andThen_ok, Result.andThen_ok]
    rw [← hu]
    rfl
  have hR : RepL w (Mut D' (hF (regr m z.1)) F) D' us y.1 := hR.mono fun v p h => h.to (fun b o _ h => Qif.1 h) (fun _ _ h => h)
  refine ⟨_, _, regr m z.1, D', rfl, hrun _ rfl, Qxu S', hlow, fun id h => hout id (by rw [Q7y] at h; exact h), fun b o h => hM b o (hsub b o (Qif.1 h)), by rw [Q7y]; exact hlen, ?_⟩
  have htup : ∀ l : List PV, RepL w (Mut D' (hF (regr m z.1)) F) D' us l → Rep w (Mut D' (hF (regr m z.1)) F) D' (.tuple us.toArray) (.tup l) := fun l hl =>
    .tup _ _ _ (by simpa using hl.1) (fun i v p hv hp => hl.2 i v p (by simpa using hv) hp)
  generalize y.1 = l at hR ⊢
  match l, hR with
  | [], hR =>
    have : us.length = 0 := hR.1
    rw [dif_neg (by simp [this])]
    exact htup _ hR
  | [p], hR =>
    have : us.length = 1 := hR.1
    rw [dif_pos (by simpa using this)]
    exact hR.2 0 _ _ (by simp [this]) rfl
  | p :: q :: r, hR =>
    have : us.length = r.length + 1 + 1 := hR.1
    rw [dif_neg (by simp [this])]
    exact htup _ hR
end
end Go.Pv
end

section
/-
  Code, loops, functions: WHAT THE EVALUATOR ANSWERS, THE MACHINE ANSWERS.
-/
namespace Go.Pv
open Go.RowKit
def Q24 (P : Program) : IR → Code → Bool
 | .skip, c => (match c with | .skip => true | .label _ => true | _ => false)
 | .reg ios draw, c => (match c with | .region _ ops d => (d == draw) && Qt9 P ops ios draw | _ => false)
 | .seq a b, c => (match c with | .seq x y => Q24 P a x && Q24 P b y | _ => false)
 | .cond q a b, c => (match c with | .cond p x y => Q1s p q && Q24 P a x && Q24 P b y | _ => false)
 | .block id b, c => (match c with | .block id' x => Nat.beq id id' && Q24 P b x | _ => false)
 | .loop _ b, c => (match c with | .loop x => Q24 P b x | _ => false)
 | .exit id, c => (match c with | .exit id' => Nat.beq id id' | _ => false)
 | .ret, c => (match c with | .ret => true | _ => false)
def exOf : Ex → Exit
 | .normal => .normal
 | .exit id => .exit id
 | .ret => .ret
section
variable {P : Program} {X : Orc}
def Q10s (P : Program) (m : Nat) (b : IR) (env : List PV) (h : List Ob) (x : Ex) (s' : St) : Prop :=
 ∃ n, ∀ (c : Code), Q24 P b c = true → ∀ (w0 : World) (D0 : Nat → Option Nat) (H0 : Nat → Option Ob) (F : Nat → Nat → Prop) (n0 : Nat) (a : Act) (w : World) (D : Nat → Option Nat) (Q : Exit → Act → World → Prop),
  At w0 D0 H0 F n0 m env.length (envF env) (hF h) a w D → (∀ id, h.length ≤ id → D id = none) → m ≤ h.length →
   (∀ a' w' D', At w0 D0 H0 F n0 m s'.env.length (envF s'.env) (look s'.heap) a' w' D' → (∀ id, s'.nx ≤ id → D' id = none ∧ look s'.heap id = none) → m ≤ s'.nx → Q (exOf x) a' w') → Code.rounds P c Q n a w
def Qh8 (P : Program) (X : Orc) : Prop := ∀ m live b env h x s', X (.loop m live b env h) = some (.st x s') → Q10s P m b env h x s'
variable {w0 : World} {D0 : Nat → Option Nat} {H0 : Nat → Option Ob} {F : Nat → Nat → Prop} {n0 m : Nat}
theorem Qzt {ops : List IOper} {draw : Bool} {s s' : St} (h : ireg X ops draw s = some s') : s.nx ≤ s'.nx := by
 unfold ireg at h
 obtain ⟨y, hy, h⟩ := bind_some h
 cases hc : (!draw || calm (ops.zip y.2.2) 0 (ops.zip y.2.2)) with
 | false => rw [hc] at h; cases h
 | true =>
  rw [hc] at h
  simp only [cond_true, Option.some.injEq] at h
  subst h
  exact Nat.le_add_right _ _
theorem Q3x (hm : P.follows .mixedOrders = true) (hX : Q4q P X) (hL : Qh8 P X) : ∀ (ir : IR) (c : Code), Q24 P ir c = true → ∀ (s : St) (x : Ex) (s' : St), Q2j X m ir s = some (x, s') → ∀ (a : Act) (w : World) (D : Nat → Option Nat) (Q : Exit → Act → World → Prop),
    At w0 D0 H0 F n0 m s.env.length (envF s.env) (look s.heap) a w D → (∀ id, s.nx ≤ id → D id = none ∧ look s.heap id = none) → m ≤ s.nx →
      (∀ a' w' D', At w0 D0 H0 F n0 m s'.env.length (envF s'.env) (look s'.heap) a' w' D' → (∀ id, s'.nx ≤ id → D' id = none ∧ look s'.heap id = none) → m ≤ s'.nx → Q (exOf x) a' w') → Code.wp P c Q a w := by
  intro ir
  induction ir with
  | skip =>
    intro c hc s x s' h a w D Q A hf hn hQ
    simp only [Q2j, Option.some.injEq, Prod.mk.injEq] at h
    obtain ⟨rfl, rfl⟩ := h
    cases c <;> first | (cases hc; done) | skip
    · exact wp_skip (hQ a w D A hf hn)
    · exact wp_label (hQ a w D A hf hn)
  | reg ios draw =>
    intro c hc s x s' h a w D Q A hf hn hQ
    simp only [Q2j] at h
    obtain ⟨s1, hs, h⟩ := bind_some h
    simp only [Option.some.injEq, Prod.mk.injEq] at h
    obtain ⟨rfl, rfl⟩ := h
    cases c <;> first | (cases hc; done) | skip
    rename_i id ops d
    simp only [Q24, Bool.and_eq_true] at hc
    have hd : d = draw := by simpa using hc.1
    subst hd
    exact Qm7 hm hX hc.2 hs A hf hn (fun a' w' D' A' hf' => hQ a' w' D' A' hf' (Nat.le_trans hn (Qzt hs)))
  | seq p q ihp ihq =>
    intro c hc s x s' h a w D Q A hf hn hQ
    simp only [Q2j] at h
    obtain ⟨⟨x1, s1⟩, h1, h⟩ := bind_some h
    cases c <;> first | (cases hc; done) | skip
    rename_i cx cy
    simp only [Q24, Bool.and_eq_true] at hc
    refine wp_seq (ihp cx hc.1 s x1 s1 h1 a w D _ A hf hn fun a' w' D' A' hf' hn' => ?_)
    cases x1 with
    | normal => exact ihq cy hc.2 s1 x s' h a' w' D' Q A' hf' hn' hQ
    | exit j =>
      simp only [Option.some.injEq, Prod.mk.injEq] at h
      obtain ⟨rfl, rfl⟩ := h
      exact hQ a' w' D' A' hf' hn'
    | ret =>
      simp only [Option.some.injEq, Prod.mk.injEq] at h
      obtain ⟨rfl, rfl⟩ := h
      exact hQ a' w' D' A' hf' hn'
  | cond q p r ihp ihr =>
    intro c hc s x s' h a w D Q A hf hn hQ
    cases c <;> first | (cases hc; done) | skip
    rename_i cq cx cy
    simp only [Q24, Bool.and_eq_true] at hc
    have hq := Qt A.env hc.1.1
    simp only [Q2j] at h
    split at h
    · rename_i t ht
      rw [ht] at hq
      have he : a.eval cq = .bool t := by
        generalize a.eval cq = u at hq
        cases hq with
        | bool _ _ => rfl
      refine wp_cond he ?_
      cases t with
      | true => exact ihp cx hc.1.2 s x s' h a w D Q A hf hn hQ
      | false => exact ihr cy hc.2 s x s' h a w D Q A hf hn hQ
    · cases h
  | block id p ih =>
    intro c hc s x s' h a w D Q A hf hn hQ
    simp only [Q2j] at h
    obtain ⟨⟨x1, s1⟩, h1, h⟩ := bind_some h
    cases c <;> first | (cases hc; done) | skip
    rename_i id' cx
    simp only [Q24, Bool.and_eq_true] at hc
    have hid := Nat.eq_of_beq_eq_true hc.1
    subst hid
    refine wp_block (ih cx hc.2 s x1 s1 h1 a w D _ A hf hn fun a' w' D' A' hf' hn' => ?_)
    cases x1 with
    | normal =>
      simp only [Option.some.injEq, Prod.mk.injEq] at h
      obtain ⟨rfl, rfl⟩ := h
      exact hQ a' w' D' A' hf' hn'
    | ret =>
      simp only [Option.some.injEq, Prod.mk.injEq] at h
      obtain ⟨rfl, rfl⟩ := h
      exact hQ a' w' D' A' hf' hn'
    | exit j =>
      simp only at h
      by_cases e : j = id
      · subst e
        simp only [Nat.beq_refl, cond_true, Option.some.injEq, Prod.mk.injEq] at h
        obtain ⟨rfl, rfl⟩ := h
        show Exit.inBlock j Q (.exit j) a' w'
        simp only [Exit.inBlock, if_true]
        exact hQ a' w' D' A' hf' hn'
      · have : Nat.beq j id = false := by rw [Bool.eq_false_iff]; exact fun h => e (Nat.eq_of_beq_eq_true h)
        simp only [this, cond_false, Option.some.injEq, Prod.mk.injEq] at h
        obtain ⟨rfl, rfl⟩ := h
        show Exit.inBlock id Q (.exit j) a' w'
        simp only [Exit.inBlock, if_neg e]
        exact hQ a' w' D' A' hf' hn'
  | loop live b ih =>
    intro c hc s x s' h a w D Q A hf hn hQ
    simp only [Q2j] at h
    obtain ⟨y, hy, h⟩ := bind_some h
    obtain ⟨r, hr, h⟩ := bind_some h
    cases r with
    | ret _ _ => cases h
    | st x1 s1 =>
      simp only [Option.some.injEq, Prod.mk.injEq] at h
      obtain ⟨rfl, rfl⟩ := h
      cases c <;> first | (cases hc; done) | skip
      rename_i cx
      simp only [Q24] at hc
      obtain ⟨D', A', hf', hn'⟩ := Qp9 A hf hy
      obtain ⟨n, hn1⟩ := hL _ _ _ _ _ _ _ hr
      exact wp_loop_rounds n (hn1 cx hc w0 D0 H0 F n0 a w D' Q A' (fun id h => (hf' id h).1) hn' hQ)
  | exit id =>
    intro c hc s x s' h a w D Q A hf hn hQ
    simp only [Q2j, Option.some.injEq, Prod.mk.injEq] at h
    obtain ⟨rfl, rfl⟩ := h
    cases c <;> first | (cases hc; done) | skip
    rename_i id'
    simp only [Q24] at hc
    have hid := Nat.eq_of_beq_eq_true hc
    subst hid
    exact wp_exit (hQ a w D A hf hn)
  | ret =>
    intro c hc s x s' h a w D Q A hf hn hQ
    simp only [Q2j, Option.some.injEq, Prod.mk.injEq] at h
    obtain ⟨rfl, rfl⟩ := h
    cases c <;> first | (cases hc; done) | skip
    exact wp_ret (hQ a w D A hf hn)
def Q11 (P : Program) (Fn : Func) (fn : IFn) : Bool :=
 Nat.beq Fn.ntmps fn.nt && Nat.ble fn.np fn.nt && Q7p P Fn.results.toList fn.res && (match Fn.body with | some c => Q24 P fn.body c | none => false) && !(Fn.name == "runtime.NumGoroutine")
def Qwj (P : Program) (f : Nat) : Prop := Q58 P f ∧ ∀ (x y : ByteArray) (w : World), Calls P f #[.string x, .string y] w fun e w' => e = .returned (.int .i64 (cmpL x.toList y.toList)) ∧ w' = w
def AxOK (P : Program) (f : Nat) (φ : List PV → Option (PV × List Ob)) : Prop := ∀ args r h', φ args = some (r, h') → Q58 P f ∧ Qnq P f args [] r h'
def Tie (P : Program) (G : Nat → Option Fun) : Prop := ∀ f d, G f = some d → match d with
 | .ir fn => ∃ Fn, P.funcs[f]? = some Fn ∧ Q11 P Fn fn = true
 | .cmpstr => Qwj P f
 | .ax φ => AxOK P f φ
theorem Qr2 {Fn : Func} {fn : IFn} (h : Q11 P Fn fn = true) : Fn.ntmps = fn.nt ∧ fn.np ≤ fn.nt ∧ Q7p P Fn.results.toList fn.res = true ∧ (∃ c, Fn.body = some c ∧ Q24 P fn.body c = true) ∧ (Fn.name == "runtime.NumGoroutine") = false := by
  unfold Q11 at h
  simp only [Bool.and_eq_true] at h
  obtain ⟨⟨⟨⟨h1, h2⟩, h3⟩, h4⟩, h5⟩ := h
  refine ⟨Nat.eq_of_beq_eq_true h1, Nat.le_of_ble_eq_true h2, h3, ?_, by simpa using h5⟩
  split at h4
  · rename_i c hc; exact ⟨c, hc, h4⟩
  · cases h4
theorem Q63 : ∀ (n t : Nat), (nuns n).length = n ∧ envF (nuns n) t = .un
 | 0, t => ⟨rfl, rfl⟩
 | n + 1, t => by
  obtain ⟨h1, h2⟩ := Q63 n (t - 1)
  refine ⟨by simp [nuns, h1], ?_⟩
  cases t with
  | zero => rfl
  | succ t => simpa [nuns, envF] using h2
theorem Qp8 (hm : P.follows .mixedOrders = true) (hX : Q4q P X) (hL : Qh8 P X) {f : Nat} {Fn : Func} {fn : IFn} (hf : P.funcs[f]? = some Fn) (hc : Q11 P Fn fn = true) {args : List PV} {h : List Ob} (hal : args.length = fn.np) {x : Ex} {s : St}
    (hrun : Q2j X h.length fn.body ⟨args ++ nuns (fn.nt - fn.np), number 0 h, h.length⟩ = some (x, s)) (hx : ∀ j, x ≠ .exit j) {r : PV} {h' : List Ob} (hfin : fin fn h.length s = some (.ret r h')) : Q58 P f ∧ Qnq P f args h r h' := by
  obtain ⟨c1, c2, c3, ⟨c, hb, c4⟩, c5⟩ := Qr2 hc
  refine ⟨⟨Fn, hf, by rw [hb]; rfl, c5⟩, fun w D F vals S hD hv => ?_⟩
  have hvs : vals.size = fn.np := by have := hv.1; rw [hal] at this; simpa using this
  have hfr : ∀ id, h.length ≤ id → D id = none ∧ look (number 0 h) id = none := fun id hid => ⟨hD id hid, by rw [Q4l]; exact List.getElem?_eq_none hid⟩
  have A : At w D (hF h) F w.heap.size h.length (args ++ nuns (fn.nt - fn.np)).length (envF (args ++ nuns (fn.nt - fn.np))) (look (number 0 h)) { tmps := vals ++ Array.replicate (Fn.ntmps - vals.size) undef, defers := [] } w D := by
    rw [Q4l]
    refine ⟨S, fun t => ?_, by simp [(Q63 _ 0).1, hal, hvs, c1], fun t ht => ?_, Keeps.refl _ w, fun _ _ => rfl, fun _ _ _ h => h, rfl⟩
    · by_cases c : t < args.length
      · have e1 : envF (args ++ nuns (fn.nt - fn.np)) t = args[t] := by simp [envF, List.getElem?_append_left c, c]
        have hlt : t < vals.size := by omega
        have e2 : (vals ++ Array.replicate (Fn.ntmps - vals.size) undef).getD t undef = vals[t] := by
          rw [Array.getD_eq_getD_getElem?, Array.getElem?_append_left hlt, Array.getElem?_eq_getElem hlt]
          rfl
        rw [e1]
        show Rep _ _ _ ((vals ++ Array.replicate (Fn.ntmps - vals.size) undef).getD t undef) _
        rw [e2]
        exact hv.2 t _ _ (by simp [hlt]) (List.getElem?_eq_getElem c)
      · have e1 : envF (args ++ nuns (fn.nt - fn.np)) t = .un := by
          have := (Q63 (fn.nt - fn.np) (t - args.length)).2
          unfold envF at this ⊢
          rw [List.getD_eq_getElem?_getD, List.getElem?_append_right (Nat.le_of_not_lt c), ← List.getD_eq_getElem?_getD]
          exact this
        rw [e1]
        exact .un _ _
    · show envF _ t = .un
      unfold envF
      rw [List.getD_eq_getElem?_getD, List.getElem?_eq_none ht]
      rfl
  refine calls_of_wp hf hb (Q3x hm hX hL fn.body c c4 _ x s hrun _ w D _ A hfr (Nat.le_refl _) fun a' w' D' A' hf' hn' => ?_)
  obtain ⟨v, p, h1, D1, e1, e2, e3, e4, e5, e6, e7, e8⟩ := Qch A' hf' c3 hfin
  injection e1 with e1 e1'
  subst e1 e1'
  have fin_ : a'.defers = [] ∧ ∃ v, (results Fn a'.tmps).run P w' = .ok v w' ∧ (∃ v_1 D', Ending.returned v = .returned v_1 ∧ Sim w' D' (hF h') F w.heap.size h.length ∧ Keeps (MutO D (hF h)) w w' ∧ (∀ id, id < h.length → D' id = D id) ∧ (∀ id, h'.length ≤ id → D' id = none) ∧
      (∀ b o, b < w.heap.size → Mut D' (hF h') F b o → Mut D (hF h) F b o) ∧ h.length ≤ h'.length ∧ Rep w' (Mut D' (hF h') F) D' v_1 r) :=
    ⟨A'.defers, v, e2, v, D1, rfl, e3, A'.keeps, fun id hid => by rw [e4 id hid, A'.low id hid], e5, fun b o hb hmu => A'.sub b o hb (e6 b o hmu), e7, e8⟩
  cases x with
  | normal => exact fin_
  | ret => exact fin_
  | exit j => exact absurd rfl (hx j)
theorem Qg8 (hm : P.follows .mixedOrders = true) {G : Nat → Option Fun} (hT : Tie P G) : ∀ n, Q4q P (runs G n) ∧ Qh8 P (runs G n)
  | 0 => ⟨fun f args h r h' hr => (by cases hr), fun m live b env h x s' hr => (by cases hr)⟩
  | n + 1 => by
    obtain ⟨hX, hL⟩ := Qg8 hm hT n
    constructor
    · intro f args h r h' hr
      simp only [runs, phi] at hr
      split at hr
      · rename_i fn hG
        obtain ⟨Fn, hf, hc⟩ := hT f _ hG
        obtain ⟨hal, hr⟩ := Qu hr
        have hal := Nat.eq_of_beq_eq_true hal
        obtain ⟨⟨x, s⟩, hrun, hr⟩ := bind_some hr
        cases x with
        | exit j => cases hr
        | normal => exact Qp8 hm hX hL hf hc hal hrun (fun j h => by cases h) hr
        | ret => exact Qp8 hm hX hL hf hc hal hrun (fun j h => by cases h) hr
      · rename_i hG
        obtain ⟨hcl, hcmp⟩ := hT f _ hG
        split at hr
        · rename_i x y
          injection hr with hr
          injection hr with h1 h2
          subst h1 h2
          refine ⟨hcl, fun w D F vals S hD hv => ?_⟩
          have h2 : vals.size = 2 := by have := hv.1; simpa using this
          obtain ⟨u0, u1, rfl⟩ : ∃ u0 u1, vals = #[u0, u1] := ⟨vals[0], vals[1], by
            apply Array.ext (by simpa using h2)
            intro i h1 h3
            match i, h3 with
            | 0, _ => rfl
            | 1, _ => rfl⟩
          have r0 := hv.2 0 u0 _ rfl rfl
          have r1 := hv.2 1 u1 _ rfl rfl
          cases r0 with
          | str _ _ =>
            cases r1 with
            | str _ _ =>
              refine (hcmp x y w).mono ?_
              rintro e w' ⟨rfl, rfl⟩
              exact ⟨_, D, rfl, S, Keeps.refl _ _, fun _ _ => rfl, hD, fun _ _ _ h => h, Nat.le_refl _, .int _ _ _⟩
        · cases hr
      · rename_i φ hG
        cases h with
        | cons _ _ => cases hr
        | nil =>
          obtain ⟨⟨v, ob⟩, hv, hr⟩ := bind_some hr
          injection hr with hr
          injection hr with h1 h2
          subst h1 h2
          exact hT f _ hG args v ob hv
      · cases hr
    · intro m live b env h x s' hr
      simp only [runs, phi] at hr
      obtain ⟨⟨x1, s1⟩, hrun, hr⟩ := bind_some hr
      have hl0 : look (number 0 h) = hF h := Q4l h
      have go : ∀ (Q' : Act → World → Prop) (c : Code), Q24 P b c = true → ∀ (w0 : World) (D0 : Nat → Option Nat) (H0 : Nat → Option Ob) (F : Nat → Nat → Prop) (n0 : Nat) (a : Act) (w : World) (D : Nat → Option Nat) (Q : Exit → Act → World → Prop),
          At w0 D0 H0 F n0 m env.length (envF env) (hF h) a w D → (∀ id, h.length ≤ id → D id = none) → m ≤ h.length →
          (∀ a' w' D', At w0 D0 H0 F n0 m s1.env.length (envF s1.env) (look s1.heap) a' w' D' → (∀ id, s1.nx ≤ id → D' id = none ∧ look s1.heap id = none) → m ≤ s1.nx → Exit.then Q' Q (exOf x1) a' w') → c.wp P (Exit.then Q' Q) a w := by
        intro Q' c hc w0 D0 H0 F n0 a w D Q A hf hn hQ
        refine Q3x hm hX hL b c hc _ x1 s1 hrun a w D _ (by rw [hl0]; exact A) (fun id hid => ⟨hf id hid, by rw [hl0]; exact List.getElem?_eq_none hid⟩) hn hQ
      cases x1 with
      | normal =>
        simp only at hr
        obtain ⟨y, hy, hr⟩ := bind_some hr
        obtain ⟨k, hk⟩ := hL _ _ _ _ _ _ _ hr
        refine ⟨k + 1, fun c hc w0 D0 H0 F n0 a w D Q A hf hn hQ => ?_⟩
        rw [rounds_succ]
        refine go _ c hc w0 D0 H0 F n0 a w D Q A hf hn fun a' w' D' A' hf' hn' => ?_
        obtain ⟨D2, A2, hf2, hn2⟩ := Qp9 A' hf' hy
        exact hk c hc w0 D0 H0 F n0 a' w' D2 Q A2 (fun id h => (hf2 id h).1) hn2 hQ
      | exit j =>
        injection hr with hr
        injection hr with h1 h2
        subst h1 h2
        refine ⟨1, fun c hc w0 D0 H0 F n0 a w D Q A hf hn hQ => ?_⟩
        rw [rounds_succ]
        exact go _ c hc w0 D0 H0 F n0 a w D Q A hf hn fun a' w' D' A' hf' hn' => hQ a' w' D' A' hf' hn'
      | ret =>
        injection hr with hr
        injection hr with h1 h2
        subst h1 h2
        refine ⟨1, fun c hc w0 D0 H0 F n0 a w D Q A hf hn hQ => ?_⟩
        rw [rounds_succ]
        exact go _ c hc w0 D0 H0 F n0 a w D Q A hf hn fun a' w' D' A' hf' hn' => hQ a' w' D' A' hf' hn'
end
end Go.Pv
end

section
/-
  What a law is handed: readings of its arguments as trees.
-/
namespace Go.Pv
open Go.RowKit
inductive Ty where
  | bool
  | int (k : IntKind)
  | str
  | sl (bytes : Nat) (e : Ty)
  | st (fs : List Ty)
  | nm (t : Nat)
mutual
/-- Cells that lie as a type says. -/
inductive Of (Γ : Nat → Option Ty) : Ty → List PV → Prop
 | bool (b : Bool) : Of Γ .bool [.bool b]
 | int (k : IntKind) (n : Int) (h : (Lit.int k n).wf = true) : Of Γ (.int k) [.int k n]
 | str (s : ByteArray) (h : s.size ≤ 140737488351232) : Of Γ .str [.str s]
 | sl (bytes : Nat) (e : Ty) (l : List (List PV)) (h : l.length * bytes ≤ 140737488351232) (hl : ∀ r ∈ l, Of Γ e r) : Of Γ (.sl bytes e) [.sl l]
 | st (fs : List Ty) (c : List PV) (h : OfL Γ fs c) : Of Γ (.st fs) c
 | nm (t : Nat) (ty : Ty) (c : List PV) (hg : Γ t = some ty) (h : Of Γ ty c) : Of Γ (.nm t) c
inductive OfL (Γ : Nat → Option Ty) : List Ty → List PV → Prop
 | nil : OfL Γ [] []
 | cons (f : Ty) (fs : List Ty) (a b : List PV) (h : Of Γ f a) (hr : OfL Γ fs b) : OfL Γ (f :: fs) (a ++ b)
end

mutual
def Q70 (P : Program) (Γ : Nat → Option Ty) : Ty → TypeId → Bool
 | .bool, t => Qac P t
 | .int k, t => intTy P t k
 | .str, t => Q8j P t
 | .sl bytes e, t => (match P.underlying t with | some (.slice te) => Nat.beq (P.bytesOf te) bytes && Nat.ble 1 (P.cellsOf te) && Q70 P Γ e te | _ => false)
 | .st fs, t => (match P.underlying t with | some (.struct gs) => Ql3 P Γ fs gs.toList 0 (P.cellsOf t) | _ => false)
 | .nm t', t => Nat.beq t' t && (Γ t').isSome
def Ql3 (P : Program) (Γ : Nat → Option Ty) : List Ty → List Field → Nat → Nat → Bool
 | [], [], off, n => Nat.beq off n
 | f :: fs, g :: gs, off, n => Nat.beq g.offset off && Q70 P Γ f g.type && Ql3 P Γ fs gs (off + P.cellsOf g.type) n
 | _, _, _, _ => false
end
def Ty.named : Ty → Bool
 | .nm _ => true
 | _ => false
def TabOK (P : Program) (Γ : Nat → Option Ty) : Prop := ∀ t ty, Γ t = some ty → ty.named = false ∧ Q70 P Γ ty t = true
theorem Qcb {α : Type} {Q : Nat → α → Prop} : ∀ n : Nat, (∀ i, i < n → ∃ x, Q i x) → ∃ l : List α, l.length = n ∧ ∀ i x, l[i]? = some x → Q i x
  | 0, _ => ⟨[], rfl, fun i x h => by simp at h⟩
  | n + 1, h => by
    obtain ⟨l, hl, hq⟩ := Qcb n (fun i hi => h i (by omega))
    obtain ⟨x, hx⟩ := h n (by omega)
    refine ⟨l ++ [x], by simp [hl], fun i y hy => ?_⟩
    by_cases c : i < l.length
    · rw [List.getElem?_append_left c] at hy
      exact hq i y hy
    · rw [List.getElem?_append_right (by omega)] at hy
      have hi : i - l.length = 0 := by
        have := (List.getElem?_eq_some_iff.1 hy).1
        simp at this
        omega
      rw [hi] at hy
      simp at hy
      subst hy
      rw [show i = n by omega]
      exact hx
def NoM : Nat → Nat → Prop := fun _ _ => False
def NoD : Nat → Option Nat := fun _ => none
def Light {H : Type} (P : Program) (t : TypeId) (d : DataW H) : Prop := (d.weights P t).all (· ≤ reachBytes) = true
section
variable {H : Type} {enc : TypeId × Value → H} {P : Program} {w : World} {base : Nat} {sp : Nat → Bool} {held : Bool} {Γ : Nat → Option Ty}
theorem Qrb {ts : List TypeId} {ds : List (DataW H)} (h : (DataW.weightsEach P ts ds).all (· ≤ reachBytes) = true) : ∀ (i : Nat) t d, ts[i]? = some t → ds[i]? = some d → Light P t d := by
  induction ts generalizing ds with
  | nil => intro i t d ht; simp at ht
  | cons t0 ts ih =>
    cases ds with
    | nil => intro i t d _ hd; simp at hd
    | cons d0 ds =>
      simp only [DataW.weightsEach, List.all_append, Bool.and_eq_true] at h
      intro i t d ht hd
      cases i with
      | zero =>
        simp at ht hd
        subst ht hd
        exact h.1
      | succ i => exact ih h.2 i t d (by simpa using ht) (by simpa using hd)
theorem Qu3 {e : TypeId} {ds : List (DataW H)} (h : (DataW.weightsAll P e ds).all (· ≤ reachBytes) = true) : ∀ d ∈ ds, Light P e d := by
  induction ds with
  | nil => intro d hd; cases hd
  | cons d0 ds ih =>
    simp only [DataW.weightsAll, List.all_append, Bool.and_eq_true] at h
    intro d hd
    rcases List.mem_cons.1 hd with rfl | hd
    · exact h.1
    · exact ih h.2 d hd
theorem RepN.app {M : Nat → Nat → Prop} {D : Nat → Option Nat} {xs ys : List Value} {a b : List PV} (h : RepN w M D xs a) (h' : RepN w M D ys b) : RepN w M D (xs ++ ys) (a ++ b) := by
  refine ⟨by simp [h.1, h'.1], fun i v p hv hp => ?_⟩
  by_cases c : i < xs.length
  · rw [List.getElem?_append_left c] at hv
    rw [List.getElem?_append_left (by rw [← h.1]; exact c)] at hp
    exact h.2 i v p hv hp
  · rw [List.getElem?_append_right (by omega)] at hv
    rw [List.getElem?_append_right (by rw [← h.1]; omega), ← h.1] at hp
    exact h'.2 _ v p hv hp
theorem RepN.one {M : Nat → Nat → Prop} {D : Nat → Option Nat} {v : Value} {p : PV} (h1 : v.oneCell' = true) (h : Rep w M D v p) : RepN w M D [v] [p] := by
 refine ⟨rfl, fun i u q hu hq => ?_⟩
 cases i with
 | zero =>
  simp at hu hq
  subst hu hq
  exact ⟨h1, h⟩
 | succ i => simp at hu
def Ty.isSt (Γ : Nat → Option Ty) : Ty → Bool
 | .st _ => true
 | .nm t => (match Γ t with | some (.st _) => true | _ => false)
 | _ => false
def Arg (Γ : Nat → Option Ty) (ty : Ty) (p : PV) : Prop := ∃ c, Of Γ ty c ∧ (bif ty.isSt Γ then p = .agg c else c = [p])
def chkArgs (P : Program) (Γ : Nat → Option Ty) : List Ty → List TypeId → Bool
 | [], [] => true
 | ty :: tys, t :: ts => Q70 P Γ ty t && (match P.underlying t with | some (.struct _) => ty.isSt Γ | some (.array _ _) => false | _ => !(ty.isSt Γ)) && P.readableRec t && decide (t < P.types.size) && chkArgs P Γ tys ts
 | _, _ => false
theorem args_stay (hl : laidOutB P = true) {W W' : World} (hb : Below W.heap.size W W') : ∀ {tys : List Ty} {ts : List TypeId} {vs : List Value} {ds : List (DataW H)} {ps : List MemPlace}, chkArgs P Γ tys ts = true → DataW.TrodAll enc P W 0 (fun _ => true) true ts vs ds ps →
  DataW.TrodAll enc P W' 0 (fun b => decide (b < W.heap.size)) true ts vs ds ps
 | [], [], vs, ds, ps, _, h => by
  obtain ⟨rfl, rfl, rfl⟩ := ChangeShapes.trodAll_nil h
  rfl
 | [], _ :: _, _, _, _, hc, _ => by cases hc
 | _ :: _, [], _, _, _, hc, _ => by cases hc
 | ty :: tys, t :: ts, vs, ds, ps, hc, h => by
  simp only [chkArgs, Bool.and_eq_true] at hc
  obtain ⟨v, vs', d, ds', p, q, rfl, rfl, rfl, h1, h2⟩ := ChangeShapes.trodAll_cons h
  refine ⟨p, q, Below.trod hl hc.1.1.2 (by simpa using hc.1.2) h1 hb ?_, args_stay hl hb hc.2 h2, rfl⟩
  obtain ⟨m, hm⟩ := h1
  exact DataW.trod_lt m _ _ _ hm
end
theorem Q106 {P : Program} : Tie P (tabG []) := fun _ _ h => by cases h
theorem Q67 {P : Program} {r : List (Nat × Fun)} (ht : Tie P (tabG r)) {f : Nat} {d : Fun} (hd : match d with | .ir fn => ∃ Fn, P.funcs[f]? = some Fn ∧ Q11 P Fn fn = true | .cmpstr => Qwj P f | .ax φ => AxOK P f φ) : Tie P (tabG ((f, d) :: r)) := by
  intro k d' h
  simp only [tabG] at h
  by_cases c : f = k
  · subst c
    simp only [Nat.beq_refl, cond_true, Option.some.injEq] at h
    subst h
    exact hd
  · have : Nat.beq f k = false := by rw [Bool.eq_false_iff]; exact fun h => c (Nat.eq_of_beq_eq_true h)
    rw [this] at h
    exact ht k d' h
theorem Qq {P : Program} {r : List (Nat × Fun)} {f : Nat} {Fn : Func} {fn : IFn} (hf : P.funcs[f]? = some Fn) (hc : Q11 P Fn fn = true) (ht : Tie P (tabG r)) : Tie P (tabG ((f, .ir fn) :: r)) := Q67 ht ⟨Fn, hf, hc⟩
end Go.Pv
end

section
/- What slices.Clone answers: a row of one's own. -/
namespace Go.Pv
def bare : PV → Bool
 | .bool _ => true
 | .int _ _ => true
 | .str _ => true
 | .sl _ => true
 | .np => true
 | .nf => true
 | _ => false
def Qcd (sz bytes : Nat) : List PV → Option (PV × List Ob)
 | [.sl l] => bif Q48 l sz && Nat.ble (l.length * bytes) 140737488355328 && l.flatten.all bare then some (.ms 0 sz 0 l.length, [⟨sz, 0, true, l.flatten⟩]) else none
 | _ => none
def Qce (sz bytes : Nat) : List PV → Option (PV × List Ob)
 | [.sl l] => bif Q48 l sz && Nat.ble (l.length * bytes) 140737488355328 && l.flatten.all bare then some (.sl l, []) else none
 | _ => none
end Go.Pv
end

section
/- slices.Clone's contract, proved of every program that holds its text. -/
namespace Go.Pv
open Go.RowKit
def irA (sz : Nat) : IR := .reg [⟨some 2, none, .mov (.c (.ns sz)), []⟩] false
def irB (sz : Nat) : IR := .cond (.t 4) (.seq (.reg [⟨some 2, none, .mov (.c (.ns sz)), []⟩] false) .ret) .skip
def irC (sz bytes : Nat) (z : List PV) : IR := .seq (.reg [⟨some 5, none, .lit sz 0 z [], []⟩, ⟨some 6, none, .mov (.t 0), []⟩, ⟨some 7, none, .append sz bytes (.t 5) (.t 6), []⟩, ⟨some 2, none, .mov (.t 7), []⟩] false) .ret
def Qt8 (P : Program) (ops : Array Oper) : Bool :=
 match ops.toList with
 | [x, y] => Q5x P ops x ⟨some 3, none, .mov (.t 0), []⟩ && Qie y.dst (some 4) && Qa7 ops y.guard none &&
  (match y.op with | .binOp .eql T (.tmp 3) (.const (.slice none 0 0)) _ => (match P.underlying T with | some (.slice _) => true | _ => false) | _ => false)
 | _ => false
def Q3i (P : Program) (Fn : Func) (sz bytes : Nat) (z : List PV) : Bool :=
 Nat.beq Fn.ntmps 8 && Q7p P Fn.results.toList [.tmp 2] && !(Fn.name == "runtime.NumGoroutine") &&
 (match Fn.body with
  | some (.seq c0 (.seq (.seq (.region _ ops false) c2) c3)) => Q24 P (irA sz) c0 && Qt8 P ops && Q24 P (irB sz) c2 && Q24 P (irC sz bytes z) c3
  | _ => false)
def X0 : Orc := fun _ => none
theorem Ql0 (P : Program) : Q4q P X0 := fun _ _ _ _ _ h => by cases h
theorem Qps (P : Program) : Qh8 P X0 := fun _ _ _ _ _ _ _ h => by cases h
section
variable {P : Program} {w0 : World} {D0 : Nat → Option Nat} {H0 : Nat → Option Ob} {F : Nat → Nat → Prop} {n0 m : Nat}
theorem Qv0 {id : Nat} {ops : Array Oper} (hc : Qt8 P ops = true) {e : Nat → PV} {H : Nat → Option Ob} {a : Act} {w : World} {D : Nat → Option Nat} {L nx : Nat} (hL : 4 < L) {l : List (List PV)} (he : e 0 = .sl l)
    (A : At w0 D0 H0 F n0 m L e H a w D) (hf : ∀ id, nx ≤ id → D id = none ∧ H id = none) (hmn : m ≤ nx) {Q : Exit → Act → World → Prop}
    (hQ : ∀ (b : Bool) (a' : Act) (w' : World) (D' : Nat → Option Nat), (b = true → l = []) → At w0 D0 H0 F n0 m L (fun t => if t = 4 then .bool b else if t = 3 then .sl l else e t) H a' w' D' → (∀ id, nx + 128 ≤ id → D' id = none ∧ H id = none) → Q .normal a' w') :
    (Code.region id ops false).wp P Q a w := by
  unfold Qt8 at hc
  split at hc
  · rename_i x y hxy
    rw [Bool.and_eq_true, Bool.and_eq_true, Bool.and_eq_true] at hc
    obtain ⟨⟨⟨hx, hyd⟩, hyg⟩, hyo⟩ := hc
    have hyd := Q7w hyd
    have hsz : ops.size = 2 := by rw [← Array.length_toList, hxy]; rfl
    have h0 : ops[0]? = some x := by rw [← Array.getElem?_toList, hxy]; rfl
    have h1 : ops[1]? = some y := by rw [← Array.getElem?_toList, hxy]; rfl
    refine wp_region ?_
    rw [hsz, show List.range 2 = [0, 1] from rfl, wpOps_cons]
    refine Q8o (X := X0) (Ql0 P) A (fr := nx) hmn (fun id h1 _ => hf id h1) h0 hx (f := ⟨.sl l, [], []⟩) (by simp only [Q4w, IOper.wanted, Option.bind_some, cond_true, iop, opP, Opd.ev, he])
      (e' := fun t => if t = 3 then .sl l else e t) (H' := H) (fun t => ?_) rfl (fun a1 w1 D1 A1 hf1 => ?_)
    · show _ = if some 3 = some t ∧ t < L then PV.sl l else e t
      by_cases c : t = 3
      · subst c
        simp
        omega
      · rw [if_neg c, if_neg (fun h => c (Option.some.inj h.1).symm)]
    · rw [wpOps_cons]
      have hw := Q97 A1.env (o := y) (io := ⟨some 4, none, .mov (.t 0), []⟩) hyg (b := true) rfl
      unfold wpOp
      simp only [h1]
      rw [hw, if_pos rfl]
      refine .inl ?_
      split at hyo
      · rename_i T yt hop
        split at hyo
        · rename_i te hT
          have hr : Rep w1 (Mut D1 H F) D1 (a1.tmps.getD 3 undef) (.sl l) := by
            have := A1.env 3
            simpa using this
          generalize hu : a1.tmps.getD 3 undef = u at hr
          cases hr with
          | sl _ B n c sz' _ b o vs hn hcc hm hrs hA hcell hrep =>
            have hev : a1.eval (.tmp 3) = .slice B n c := hu
            have hev2 : a1.eval (.const (.slice none 0 0)) = .slice none 0 0 := rfl
            have hrun : (execOp a1.eval y).run P w1 = .ok (.value (.bool B.isNone)) w1 := by
              have hb := Lib.run_eql_slice_nil (P := P) w1 T te B n c 0 0 hT
              obtain ⟨yd, yop, yty, ypos, yaf, yg⟩ := y
              simp only at hop
              subst hop
              simp [execOp, eqGuard, hev, hev2, hb]
            unfold Oper.wp
            rw [hrun]
            refine hQ B.isNone _ w1 D1 (fun hb => ?_) (A1.step (fr := m) (Step.same A1.sim rfl rfl rfl rfl) (Nat.le_refl _) (p := .bool B.isNone) (.bool _ _) (fun t => ?_)) (fun id hid => ?_)
            · cases B with
              | some _ => cases hb
              | none =>
                cases l with
                | nil => rfl
                | cons r rs =>
                  exfalso
                  have := hA (by rw [← hn]; simp)
                  cases this
            · rw [hyd]
              by_cases c : t = 4
              · subst c
                rw [if_pos rfl, if_pos ⟨rfl, hL⟩]
              · rw [if_neg c, if_neg (show ¬ (some 4 = some t ∧ t < L) from fun h => c (Option.some.inj h.1).symm)]
            · exact ⟨hf1 id (hf id (by omega)).1 (by omega), (hf id (by omega)).2⟩
        · cases hyo
      · cases hyo
  · cases hc
end
abbrev cfn (keep : Bool) : IFn := ⟨1, 8, [.tmp 2], keep, .skip⟩
theorem Ql4 {P : Program} (hm : P.follows .mixedOrders = true) {f : Nat} {Fn : Func} (hf : P.funcs[f]? = some Fn) {sz bytes : Nat} {z : List PV} (hc : Q3i P Fn sz bytes z = true) {l : List (List PV)} (hrs : Q48 l sz = true) (hby : Nat.ble (l.length * bytes) 140737488355328 = true) (keep : Bool) {r : PV} {h' : List Ob}
    (f1 : l = [] → fin (cfn keep) 0 ⟨[.sl [], .un, .ns sz, .sl [], .bool true, .un, .un, .un], [], 256⟩ = some (.ret r h'))
    (f2 : fin (cfn keep) 0 ⟨[.sl l, .un, .ms (192 + 128) sz 0 (0 + l.length), .sl l, .bool false, .ms 192 sz 0 0, .sl l, .ms (192 + 128) sz 0 (0 + l.length)], [(192 + 128, ⟨sz, 0, true, [] ++ l.flatten⟩)], 448⟩ = some (.ret r h')) : Q58 P f ∧ Qnq P f [.sl l] [] r h' := by
  unfold Q3i at hc
  rw [Bool.and_eq_true, Bool.and_eq_true, Bool.and_eq_true] at hc
  obtain ⟨⟨⟨hnt, hres⟩, hname⟩, hbody⟩ := hc
  have hnt := Nat.eq_of_beq_eq_true hnt
  split at hbody
  · rename_i c0 id ops c2 c3 hB
    rw [Bool.and_eq_true, Bool.and_eq_true, Bool.and_eq_true] at hbody
    obtain ⟨⟨⟨k0, k1⟩, k2⟩, k3⟩ := hbody
    refine ⟨⟨Fn, hf, by rw [hB]; rfl, by simpa using hname⟩, fun w D F vals S hD hv => ?_⟩
    have hvs : vals.size = 1 := by have := hv.1; simpa using this
    have A : At w D (hF []) F w.heap.size 0 ([PV.sl l] ++ nuns 7).length (envF ([PV.sl l] ++ nuns 7)) (look (number 0 [])) { tmps := vals ++ Array.replicate (Fn.ntmps - vals.size) undef, defers := [] } w D := by
      rw [Q4l]
      refine ⟨S, fun t => ?_, by simp [(Q63 _ 0).1, hvs, hnt], fun t ht => ?_, Keeps.refl _ w, fun _ _ => rfl, fun _ _ _ h => h, rfl⟩
      · by_cases c : t < 1
        · have ht0 : t = 0 := by omega
          subst ht0
          have hlt : 0 < vals.size := by omega
          have e2 : (vals ++ Array.replicate (Fn.ntmps - vals.size) undef).getD 0 undef = vals[0] := by
            rw [Array.getD_eq_getD_getElem?, Array.getElem?_append_left hlt, Array.getElem?_eq_getElem hlt]
            rfl
          show Rep _ _ _ ((vals ++ Array.replicate (Fn.ntmps - vals.size) undef).getD 0 undef) _
          rw [e2]
          exact hv.2 0 _ _ (by simp [hlt]) rfl
        · have e1 : envF ([PV.sl l] ++ nuns 7) t = .un := by
            have := (Q63 7 (t - 1)).2
            unfold envF at this ⊢
            rw [List.getD_eq_getElem?_getD, List.getElem?_append_right (by simp; omega), ← List.getD_eq_getElem?_getD]
            exact this
          rw [e1]
          exact .un _ _
      · show envF _ t = .un
        unfold envF
        rw [List.getD_eq_getElem?_getD, List.getElem?_eq_none ht]
        rfl
    have hfr : ∀ id, 0 ≤ id → D id = none ∧ look (number 0 ([] : List Ob)) id = none := fun id hid => ⟨hD id hid, rfl⟩
    refine calls_of_wp hf hB (wp_seq (Q3x hm (Ql0 P) (Qps P) (irA sz) c0 k0 ⟨[PV.sl l] ++ nuns 7, number 0 [], 0⟩ .normal ⟨[.sl l, .un, .ns sz, .un, .un, .un, .un, .un], [], 64⟩ rfl _ w D _ A hfr (Nat.le_refl _) fun a1 w1 D1 A1 hf1 hn1 => ?_))
    refine wp_seq (wp_seq (Qv0 k1 (by simp) rfl A1 hf1 hn1 fun b a2 w2 D2 hbl A2 hf2 => ?_))
    have A2' : At w D (hF []) F w.heap.size 0 8 (envF [.sl l, .un, .ns sz, .sl l, .bool b, .un, .un, .un]) (look []) a2 w2 D2 := by
      have e : (fun t => if t = 4 then PV.bool b else if t = 3 then .sl l else envF [.sl l, .un, .ns sz, .un, .un, .un, .un, .un] t) = envF [.sl l, .un, .ns sz, .sl l, .bool b, .un, .un, .un] := by
        funext t
        match t with
        | 0 | 1 | 2 | 3 | 4 | 5 | 6 | 7 => rfl
        | t + 8 => simp [envF]
      rw [← e]
      exact A2
    cases b with
    | true =>
      have hl := hbl rfl
      have g1 := f1 hl
      subst hl
      refine Q3x hm (Ql0 P) (Qps P) (irB sz) c2 k2 ⟨[.sl [], .un, .ns sz, .sl [], .bool true, .un, .un, .un], [], 192⟩ .ret ⟨[.sl [], .un, .ns sz, .sl [], .bool true, .un, .un, .un], [], 256⟩ rfl _ w2 D2 _ A2' hf2 (Nat.zero_le _) fun a3 w3 D3 A3 hf3 hn3 => ?_
      obtain ⟨v, p, h1, D4, e1, e2, e3, e4, e5, e6, e7, e8⟩ := Qch (fn := cfn keep) A3 hf3 hres g1
      injection e1 with e1 e1'
      subst e1 e1'
      exact ⟨A3.defers, v, e2, v, D4, rfl, e3, A3.keeps, fun id hid => absurd hid (Nat.not_lt_zero _), e5, fun b o hb hmu => A3.sub b o hb (e6 b o hmu), e7, e8⟩
    | false =>
      refine Q3x hm (Ql0 P) (Qps P) (irB sz) c2 k2 ⟨[.sl l, .un, .ns sz, .sl l, .bool false, .un, .un, .un], [], 192⟩ .normal ⟨[.sl l, .un, .ns sz, .sl l, .bool false, .un, .un, .un], [], 192⟩ rfl _ w2 D2 _ A2' hf2 (Nat.zero_le _) fun a3 w3 D3 A3 hf3 hn3 => ?_
      refine Q3x hm (Ql0 P) (Qps P) (irC sz bytes z) c3 k3 ⟨[.sl l, .un, .ns sz, .sl l, .bool false, .un, .un, .un], [], 192⟩ .ret ⟨[.sl l, .un, .ms (192 + 128) sz 0 (0 + l.length), .sl l, .bool false, .ms 192 sz 0 0, .sl l, .ms (192 + 128) sz 0 (0 + l.length)], [(192 + 128, ⟨sz, 0, true, [] ++ l.flatten⟩)], 448⟩ ?_ _ w3 D3 _ A3 hf3 (Nat.zero_le _) fun a4 w4 D4 A4 hf4 hn4 => ?_
      · have h1 : Nat.ble ((0 + l.length) * bytes) 140737488355328 = true := by rw [Nat.zero_add]; exact hby
        unfold irC
        simp only [Q2j, ireg, Q3d, Q4w, IOper.wanted, Option.bind_some, cond_true, iop, opA, Q8i, rep, Q7q, opP, Opd.ev, Q2g, apC, source, look, hput, hput.repl, hput.drop, put, envF, List.set, List.getD_cons_zero, List.getD_cons_succ, hrs, Nat.beq_refl, Nat.zero_mul, List.length_nil, Bool.and_true, Bool.and_self, h1, Bool.not_false, Bool.true_or, List.length_cons]
      · obtain ⟨v, p, h1, D5, e1, e2, e3, e4, e5, e6, e7, e8⟩ := Qch (fn := cfn keep) A4 hf4 hres f2
        injection e1 with e1 e1'
        subst e1 e1'
        exact ⟨A4.defers, v, e2, v, D5, rfl, e3, A4.keeps, fun id hid => absurd hid (Nat.not_lt_zero _), e5, fun b o hb hmu => A4.sub b o hb (e6 b o hmu), e7, e8⟩
  · cases hbody
theorem Qfr {sz bytes : Nat} {l : List (List PV)} (hb : (Q48 l sz && Nat.ble (l.length * bytes) 140737488355328 && l.flatten.all bare) = true) : Q48 l sz = true ∧ Nat.ble (l.length * bytes) 140737488355328 = true ∧ ∀ p ∈ l.flatten, plain p = true := by
 rw [Bool.and_eq_true, Bool.and_eq_true] at hb
 exact ⟨hb.1.1, hb.1.2, fun p hp => by
  have := List.all_eq_true.1 hb.2 p hp
  cases p <;> first | rfl | (cases this)⟩
theorem Qi1 {P : Program} (hm : P.follows .mixedOrders = true) {f : Nat} {Fn : Func} (hf : P.funcs[f]? = some Fn) {sz bytes : Nat} {z : List PV} (hc : Q3i P Fn sz bytes z = true) : AxOK P f (Qcd sz bytes) := by
  intro args r h' hφ
  unfold Qcd at hφ
  split at hφ
  · rename_i l
    cases hb : (Q48 l sz && Nat.ble (l.length * bytes) 140737488355328 && l.flatten.all bare) with
    | false => rw [hb] at hφ; cases hφ
    | true =>
      rw [hb] at hφ
      simp only [cond_true, Option.some.injEq, Prod.mk.injEq] at hφ
      obtain ⟨rfl, rfl⟩ := hφ
      obtain ⟨hrs, hby, hpl⟩ := Qfr hb
      refine Ql4 hm hf hc hrs hby true (fun e => by subst e; rfl) ?_
      have hp := Q75 (H := look ([(192 + 128, (⟨sz, 0, true, l.flatten⟩ : Ob))] ++ [])) (byRef := false) (n := 7) l.flatten [192 + 128] hpl
      have ho : Q1p (look ([(192 + 128, (⟨sz, 0, true, l.flatten⟩ : Ob))] ++ [])) false true (31 + 1) 0 [192 + 128] = some ([⟨sz, 0, true, l.flatten⟩], [192 + 128], []) := by
        rw [Q1p]
        show (some (⟨sz, 0, true, l.flatten⟩ : Ob)).bind _ = _
        rw [Option.bind_some]
        show (Q2x (pass _ false 8) l.flatten [192 + 128]).bind _ = _
        rw [hp, Option.bind_some]
        rfl
      show (Q1p (look ([(192 + 128, (⟨sz, 0, true, l.flatten⟩ : Ob))] ++ [])) false true (31 + 1) 0 [192 + 128]).bind _ = _
      rw [ho, Option.bind_some]
      show some (Rs.ret (.ms 0 sz 0 (0 + l.length)) [⟨sz, 0, true, l.flatten⟩]) = _
      rw [Nat.zero_add]
  · cases hφ
theorem Qcf {P : Program} (hm : P.follows .mixedOrders = true) {f : Nat} {Fn : Func} (hf : P.funcs[f]? = some Fn) {sz bytes : Nat} {z : List PV} (hc : Q3i P Fn sz bytes z = true) : AxOK P f (Qce sz bytes) := by
  intro args r h' hφ
  unfold Qce at hφ
  split at hφ
  · rename_i l
    cases hb : (Q48 l sz && Nat.ble (l.length * bytes) 140737488355328 && l.flatten.all bare) with
    | false => rw [hb] at hφ; cases hφ
    | true =>
      rw [hb] at hφ
      simp only [cond_true, Option.some.injEq, Prod.mk.injEq] at hφ
      obtain ⟨rfl, rfl⟩ := hφ
      obtain ⟨hrs, hby, hpl⟩ := Qfr hb
      refine Ql4 hm hf hc hrs hby false (fun e => by subst e; rfl) ?_
      have hs : ∀ r ∈ l, r.length = sz := fun r hr => Nat.eq_of_beq_eq_true (List.all_eq_true.1 hrs r hr)
      have hz := Qtl (H := look ([(192 + 128, (⟨sz, 0, true, l.flatten⟩ : Ob))] ++ [])) (n := 6) (k := 7) rfl (id := 192 + 128) (sz := sz) (len := l.length) (ob := ⟨sz, 0, true, l.flatten⟩) (rows := l) rfl ⟨rfl, hs, fun r hr p hp => hpl p (List.mem_flatten.2 ⟨r, hr, hp⟩)⟩ rfl rfl
      unfold fin
      simp only [mapO, rv, envF, List.getD_cons_succ, List.getD_cons_zero, Option.bind_some, cond_false, Nat.zero_add, List.nil_append, List.append_nil] at hz ⊢
      simp only [Q2x, pass, upTo, cond_false, hz, Option.bind_some]
      rfl
  · cases hφ
end Go.Pv
end

section
/- The seat's functions as the evaluator takes them; printed by a program, checked against the given ones in YtbagpdebihicnaaTie. -/
namespace Go.Proofs.Ytbagpdebihicnaa.Ir
open Go.Pv
def o (d : Nat) (op : IOp) : IOper := ⟨some d, none, op, []⟩
def ob (d : Nat) (op : IOp) (b : List Nat) : IOper := ⟨some d, none, op, b⟩
def oM (d t : Nat) : IOper := o d (.mov (.t t))
def oX (d t k : Nat) : IOper := o d (.extract (.t t) k)
def oL (d n t : Nat) : IOper := o d (.load n true (.t t))
def oK (d n t : Nat) : IOper := o d (.load n false (.t t))
def oF (d n t : Nat) : IOper := o d (.faddr n (.t t))
def oS (n a b : Nat) : IOper := ⟨none, none, .store n (.t a) (.t b), []⟩
def oC (d f : Nat) (l : List Opd) : IOper := o d (.call false (.f f) l)
def oI (d n a b : Nat) : IOper := o d (.iaddr n (.t a) (.t b))
def oN (d t : Nat) : IOper := o d (.len false (.t t))
def oU (d t : Nat) : IOper := o d (.un .not (.t t))
def gT (d s : Nat) (x : IOp) : IOper := ⟨some d, some (s, true), x, []⟩
def gF (d s : Nat) (x : IOp) : IOper := ⟨some d, some (s, false), x, []⟩
def oD (d f : Nat) (l : List Opd) (b : List Nat) : IOper := ob d (.call false (.f f) l) b
def oE (d n t : Nat) (b : List Nat) : IOper := ob d (.load n false (.t t)) b
def oP (d a b : Nat) : IOper := o d (.pick (.t a) (.t b) (.c (.bool false)))
def oQ (d a b : Nat) : IOper := o d (.pick (.t a) (.c (.bool true)) (.t b))
def oA (d t : Nat) : IOper := o d (.bin .add (.t t) (.c (.int .i64 1)))
def oJ (d n k a b : Nat) : IOper := o d (.append n k (.t a) (.t b))
def zS : PV := .str ⟨#[]⟩
def zI : PV := .int .i64 0
def zB : PV := .bool false
def sA0 : Opd := .c (.str ⟨#[100, 101, 115, 105, 114, 101, 100]⟩)
def sA1 : Opd := .c (.str ⟨#[100, 105, 115, 107]⟩)
def sA2 : Opd := .c (.str ⟨#[100, 105, 115, 114, 117, 112, 116, 101, 100]⟩)
def sA3 : Opd := .c (.str ⟨#[101, 120, 112, 101, 99, 116, 101, 100]⟩)
def sA4 : Opd := .c (.str ⟨#[104, 101, 97, 108, 116, 104, 121]⟩)
def sA5 : Opd := .c (.str ⟨#[104, 97, 114, 100]⟩)
def sA6 : Opd := .c (.str ⟨#[104, 97, 115]⟩)
def sA7 : Opd := .c (.str ⟨#[107, 101, 121]⟩)
def sA8 : Opd := .c (.str ⟨#[109, 101, 109, 111, 114, 121]⟩)
def sA9 : Opd := .c (.str ⟨#[109, 105, 110, 65, 118, 97, 105, 108, 97, 98, 108, 101]⟩)
def sA10 : Opd := .c (.str ⟨#[109, 97, 120, 85, 110, 97, 118, 97, 105, 108, 97, 98, 108, 101]⟩)
def sA11 : Opd := .c (.str ⟨#[110]⟩)
def sA12 : Opd := .c (.str ⟨#[111, 112]⟩)
def sA13 : Opd := .c (.str ⟨#[111, 98, 115, 101, 114, 118, 101, 100]⟩)
def sA14 : Opd := .c (.str ⟨#[112, 101, 114, 99, 101, 110, 116]⟩)
def sA15 : Opd := .c (.str ⟨#[112, 111, 100, 115]⟩)
def sA16 : Opd := .c (.str ⟨#[115, 101, 108, 101, 99, 116, 111, 114]⟩)
def sA17 : Opd := .c (.str ⟨#[115, 116, 105, 99, 107, 121]⟩)
def sA18 : Opd := .c (.str ⟨#[117, 115, 101, 100]⟩)
def sA19 : Opd := .c (.str ⟨#[118, 97, 108, 117, 101, 115]⟩)
def sA20 : Opd := .c (.str ⟨#[66, 117, 100, 103, 101, 116]⟩)
def sA21 : Opd := .c (.str ⟨#[81, 117, 111, 116, 97]⟩)
def sA22 : Opd := .c (.str ⟨#[83, 101, 114, 118, 105, 99, 101]⟩)
def sA23 : Opd := .c (.str ⟨#[97, 108, 108, 111, 119, 101, 100]⟩)
def sA24 : Opd := .c (.str ⟨#[97, 116]⟩)
def sA25 : Opd := .c (.str ⟨#[99, 112, 117]⟩)
def zL0 : List PV := [zI, zI, zS, .ns 5, .ns 6]
def zL1 : List PV := [zS, zI, zI, zS, .ns 5, .ns 6]
def zL2 : List PV := [zS, zS, zS, zI, zI, zI, zI, zB, zI, .ns 2, .ns 5, .ns 1, .ns 2, zI, zI, zS, .ns 5, .ns 6, zI, zI, zS, .ns 5, .ns 6]
def zL3 : List PV := [zS, zS, zS, zI, zI, zI, zI, zB, zI, .ns 2, .ns 5, .ns 1, .ns 2, zI, zI, zI, zI, zI, zI, zI, zI]
def zL4 : List PV := [zS, zS, zS, zI, zI, zI, zI, zB, zI, .ns 2, .ns 5, .ns 1, .ns 2, .ns 3, .ns 2, .ns 2, zI, zI, zI, zI, zI, .ns 2]
def zL5 : List PV := [zS, zS, zS, zI, zI, zI, zI, zB, zI, .ns 2, .ns 5, .ns 1, .ns 2, .ns 3, .ns 3, zB, zI]
def zL6 : List PV := [zS, zS, zS, zI, zI, zI, zI, zB, zI, .ns 2, .ns 5, .ns 1, .ns 2]
def rg1 (a : Nat) : Nat → List Nat
  | 0 => []
  | n + 1 => a :: rg1 (a + 1) n
def rg (a b : Nat) : List Nat := rg1 a (b - a)
def K0_c : IR :=
 .seq (.reg [o 2 (.box 22 (.t 0)),
 o 3 (.box 21 (.t 1)),
 o 4 (.mov (.c zB))] false)
 (.seq (.reg [oL 11 22 2,
 oD 12 4 ([.t 11]) [0],
 oL 13 21 3,
 oD 14 5 ([.t 13]) [0, 1, 2],
 o 5 (.zero zL2),
 o 6 (.zero zL2),
 ⟨none, none, .store 23 (.t 5) (.t 12), (rg 0 6)⟩,
 ⟨none, none, .store 23 (.t 6) (.t 14), (rg 0 7)⟩] true)
 (.seq (.seq (.reg [oL 15 23 5,
 oC 16 6 ([.t 15]),
 oU 17 16,
 oM 18 17,
 gF 19 18 (.load 23 true (.t 6)),
 gF 20 18 (.call false (.f 6) [.t 19]),
 gF 21 18 (.un .not (.t 20)),
 oQ 22 18 21] false)
 (.cond (.t 22) (.seq (.reg [oC 23 7 ([]),
 oM 4 23] false)
 (.ret))
 (.skip)))
 (.seq (.reg [oL 25 22 2,
 oC 26 9 ([.t 25]),
 oC 27 8 ([.t 26]),
 oM 24 27,
 oX 28 24 0,
 oX 29 24 1,
 o 7 (.zero zL4),
 oS 22 7 28,
 oM 8 29] false)
 (.seq (.reg [oL 31 21 3,
 oC 32 11 ([.t 31]),
 oC 33 10 ([.t 32]),
 oM 30 33,
 oX 34 30 0,
 oX 35 30 1,
 o 9 (.zero zL3),
 oS 21 9 34,
 oM 10 35] false)
 (.seq (.reg [oL 36 22 2,
 oD 37 9 ([.t 36]) [0],
 oL 38 23 5,
 oD 39 12 ([.t 37, .t 38]) [0, 1, 2],
 ob 40 (.mov (.t 39)) [0, 1, 2, 3],
 ⟨(some 41), (some (40, true)), .load 21 true (.t 3), (rg 0 5)⟩,
 ⟨(some 42), (some (40, true)), .call false (.f 11) [.t 41], (rg 0 6)⟩,
 ⟨(some 43), (some (40, true)), .load 23 true (.t 6), (rg 0 5)⟩,
 ⟨(some 44), (some (40, true)), .call false (.f 12) [.t 42, .t 43], (rg 0 8)⟩,
 ob 45 (.pick (.t 40) (.t 44) (.c zB)) (rg 0 9),
 ob 46 (.mov (.t 45)) (rg 0 10),
 ⟨(some 47), (some (46, true)), .mov (.t 8), (rg 0 11)⟩,
 ⟨(some 48), (some (46, true)), .bin .eql (.t 47) (.c zI), (rg 0 12)⟩,
 ob 49 (.pick (.t 46) (.t 48) (.c zB)) (rg 0 13),
 ob 50 (.mov (.t 49)) (rg 0 14),
 ⟨(some 51), (some (50, true)), .mov (.t 10), (rg 0 15)⟩,
 ⟨(some 52), (some (50, true)), .bin .eql (.t 51) (.c zI), (rg 0 16)⟩,
 ob 53 (.pick (.t 50) (.t 52) (.c zB)) (rg 0 17),
 ob 54 (.mov (.t 53)) (rg 0 18),
 ⟨(some 55), (some (54, true)), .load 22 true (.t 7), (rg 0 19)⟩,
 ⟨(some 56), (some (54, true)), .call false (.f 4) [.t 55], (rg 0 20)⟩,
 ⟨(some 57), (some (54, true)), .load 23 true (.t 5), (rg 0 19)⟩,
 ⟨(some 58), (some (54, true)), .call false (.f 12) [.t 56, .t 57], (rg 0 22)⟩,
 ob 59 (.pick (.t 54) (.t 58) (.c zB)) (rg 0 23),
 ob 60 (.mov (.t 59)) (rg 0 24),
 ⟨(some 61), (some (60, true)), .load 21 true (.t 9), (rg 0 25)⟩,
 ⟨(some 62), (some (60, true)), .call false (.f 5) [.t 61], (rg 0 26)⟩,
 ⟨(some 63), (some (60, true)), .load 23 true (.t 6), (rg 0 25)⟩,
 ⟨(some 64), (some (60, true)), .call false (.f 12) [.t 62, .t 63], (rg 0 28)⟩,
 ob 65 (.pick (.t 60) (.t 64) (.c zB)) (rg 0 29),
 ob 66 (.mov (.t 65)) (rg 0 30),
 ⟨(some 67), (some (66, true)), .call false (.f 7) [], (rg 0 31)⟩,
 ob 68 (.pick (.t 66) (.t 67) (.c zB)) (rg 0 32),
 ob 4 (.mov (.t 68)) (rg 0 33)] true)
 (.ret))))))
def K0 : IFn := ⟨2, 69, [.tmp 4], false, K0_c⟩
def Kv_c : IR :=
 .seq (.reg [o 1 (.box 22 (.t 0)),
 o 2 (.zero zL2)] false)
 (.seq (.reg [oF 3 0 1,
 ob 4 (.load 13 true (.t 3)) [0],
 oL 5 22 1,
 oD 6 14 ([.t 5]) [2],
 oL 7 22 1,
 oD 8 15 ([.t 7]) [2, 3, 4],
 oD 9 13 ([sA20, .t 4, .t 6, .t 8]) (rg 0 6),
 ⟨none, none, .store 23 (.t 2) (.t 9), (rg 0 7)⟩] true)
 (.ret))
def Kv : IFn := ⟨1, 10, [.cell 2 23 true], false, Kv_c⟩
def Kw_c : IR :=
 .seq (.reg [o 1 (.box 21 (.t 0)),
 o 2 (.zero zL2)] false)
 (.seq (.reg [oF 3 0 1,
 ob 4 (.load 13 true (.t 3)) [0],
 oL 5 21 1,
 oD 6 16 ([.t 5]) [2],
 oL 7 21 1,
 oD 8 17 ([.t 7]) [2, 3, 4],
 oD 9 13 ([sA21, .t 4, .t 6, .t 8]) (rg 0 6),
 ⟨none, none, .store 23 (.t 2) (.t 9), (rg 0 7)⟩] true)
 (.ret))
def Kw : IFn := ⟨1, 10, [.cell 2 23 true], false, Kw_c⟩
def Qdl : List Nat := [100001, 1, 3, 4]
def Q10b : IR :=
 .seq (.seq (.reg [oM 29 4,
 oF 30 12 3,
 oK 31 1 30,
 oN 32 31,
 o 33 (.bin .lss (.t 29) (.t 32))] false)
 (.cond (.t 33) (.skip)
 (.exit 0)))
 (.seq (.block 1 (.seq (.reg [oF 36 12 3,
 oK 37 1 36,
 oM 38 4,
 oI 39 2 37 38,
 oF 40 1 39,
 oK 41 1 40,
 oN 42 41,
 o 43 (.bin .gtr (.t 42) (.c (.int .i64 60)))] false)
 (.cond (.t 43) (.seq (.reg [o 2 (.mov (.c zB))] false)
 (.ret))
 (.skip))))
 (.reg [oM 34 4,
 oA 35 34,
 oM 4 35] false))
def K2_c : IR :=
 .seq (.reg [o 1 (.box 23 (.t 0)),
 o 2 (.mov (.c zB))] false)
 (.seq (.reg [oF 5 0 1,
 oL 6 13 5,
 o 3 (.zero zL6),
 oS 13 3 6] false)
 (.seq (.seq (.reg [oF 7 9 3,
 oK 8 1 7,
 oN 9 8,
 o 10 (.bin .gtr (.t 9) (.c (.int .i64 40))),
 oM 11 10,
 gF 12 11 (.faddr 10 (.t 3)),
 gF 13 11 (.load 1 false (.t 12)),
 gF 14 11 (.len false (.t 13)),
 gF 15 11 (.bin .gtr (.t 14) (.c (.int .i64 40))),
 oQ 16 11 15,
 oM 17 16,
 gF 18 17 (.faddr 11 (.t 3)),
 gF 19 17 (.load 1 false (.t 18)),
 gF 20 17 (.len false (.t 19)),
 gF 21 17 (.bin .gtr (.t 20) (.c (.int .i64 40))),
 oQ 22 17 21,
 oM 23 22,
 gF 24 23 (.faddr 12 (.t 3)),
 gF 25 23 (.load 1 false (.t 24)),
 gF 26 23 (.len false (.t 25)),
 gF 27 23 (.bin .gtr (.t 26) (.c (.int .i64 40))),
 oQ 28 23 27] false)
 (.cond (.t 28) (.seq (.reg [o 2 (.mov (.c zB))] false)
 (.ret))
 (.skip)))
 (.seq (.seq (.reg [o 4 (.mov (.c zI))] false)
 (.block 0 (.loop Qdl Q10b)))
 (.seq (.reg [oF 44 13 1,
 oL 45 5 44,
 oC 46 18 ([.t 45, .c (.int .i64 900)]),
 oM 47 46,
 gT 48 47 (.faddr 18 (.t 1)),
 gT 49 47 (.load 5 true (.t 48)),
 gT 50 47 (.call false (.f 18) [.t 49, .c (.int .i64 300)]),
 oP 51 47 50,
 oM 2 51] false)
 (.ret)))))
def K2 : IFn := ⟨1, 52, [.tmp 2], false, K2_c⟩
def K1_c : IR :=
 .seq (.reg [o 0 (.mov (.c zB))] false)
 (.seq (.reg [o 15 (.build [zI, zI, zI] [(0, 1, .c (.int .i64 1000))]),
 o 16 (.build zL3 [(13, 3, .t 15), (19, 1, .c (.int .i64 2))]),
 oC 17 11 ([.t 16]),
 o 1 (.zero zL2),
 oS 23 1 17] false)
 (.seq (.reg [oF 19 13 1,
 oL 20 5 19,
 oC 21 19 ([.t 20, sA5]),
 oM 18 21,
 oX 22 18 0,
 oX 23 18 1,
 o 2 (.zero zL0),
 oS 5 2 22,
 oM 3 23] false)
 (.seq (.reg [oL 25 5 2,
 oC 26 19 ([.t 25, sA25]),
 oM 24 26,
 oX 27 24 0,
 oX 28 24 1,
 o 4 (.zero zL0),
 oS 5 4 27,
 oM 5 28] false)
 (.seq (.reg [oL 30 23 1,
 oC 31 10 ([.t 30]),
 oM 29 31,
 oX 32 29 0,
 oX 33 29 1,
 o 6 (.zero zL3),
 oS 21 6 32,
 oM 7 33] false)
 (.seq (.reg [oC 34 21 ([.c (.int .i64 1)]),
 o 35 (.build zL1 [(0, 1, sA17), (1, 5, .t 34)]),
 o 36 (.lit 6 1 zL1 [(0, .t 35)]),
 oC 37 20 ([.t 36]),
 o 8 (.zero zL0),
 oS 5 8 37] false)
 (.seq (.reg [o 39 (.build zL6 [(0, 1, sA22)]),
 oL 40 5 8,
 o 41 (.build zL2 [(0, 13, .t 39), (13, 5, .t 40)]),
 oC 42 22 ([.t 41]),
 oM 38 42,
 oX 43 38 0,
 oX 44 38 1,
 o 9 (.zero zL5),
 oS 17 9 43,
 oM 10 44] false)
 (.seq (.reg [o 46 (.build zL6 [(0, 1, sA22)]),
 o 47 (.build zL2 [(0, 13, .t 46)]),
 oC 48 22 ([.t 47]),
 oM 45 48,
 oX 49 45 0,
 oX 50 45 1,
 o 11 (.zero zL5),
 oS 17 11 49,
 oM 12 50] false)
 (.seq (.reg [o 52 (.build zL2 []),
 oC 53 10 ([.t 52]),
 oM 51 53,
 oX 54 51 0,
 oX 55 51 1,
 o 13 (.zero zL3),
 oS 21 13 54,
 oM 14 55] false)
 (.seq (.reg [oF 56 0 1,
 oF 57 0 56,
 oK 58 1 57,
 o 59 (.bin .eql (.t 58) (sA21)),
 oM 60 59,
 gT 61 60 (.faddr 13 (.t 1)),
 gT 62 60 (.faddr 4 (.t 61)),
 gT 63 60 (.load 1 false (.t 62)),
 gT 64 60 (.len false (.t 63)),
 gT 65 60 (.bin .eql (.t 64) (.c (.int .i64 2))),
 oP 66 60 65,
 oM 67 66,
 gT 68 67 (.mov (.t 3)),
 oP 69 67 68,
 oM 70 69,
 gT 71 70 (.mov (.t 5)),
 oP 72 70 71,
 oM 73 72,
 gT 74 73 (.faddr 1 (.t 4)),
 gT 75 73 (.load 1 false (.t 74)),
 gT 76 73 (.bin .eql (.t 75) (.c (.int .i64 1000))),
 oP 77 73 76,
 oM 78 77,
 gT 79 78 (.mov (.t 7)),
 gT 80 78 (.bin .eql (.t 79) (.c zI)),
 oP 81 78 80,
 oM 82 81,
 gT 83 82 (.faddr 13 (.t 6)),
 gT 84 82 (.faddr 0 (.t 83)),
 gT 85 82 (.load 1 false (.t 84)),
 gT 86 82 (.bin .eql (.t 85) (.c (.int .i64 1000))),
 oP 87 82 86,
 oM 88 87,
 gT 89 88 (.faddr 19 (.t 6)),
 gT 90 88 (.load 1 false (.t 89)),
 gT 91 88 (.bin .eql (.t 90) (.c (.int .i64 2))),
 oP 92 88 91,
 oM 93 92,
 gT 94 93 (.mov (.t 10)),
 gT 95 93 (.bin .eql (.t 94) (.c (.int .i64 6))),
 oP 96 93 95,
 oM 97 96,
 gT 98 97 (.mov (.t 12)),
 gT 99 97 (.bin .eql (.t 98) (.c zI)),
 oP 100 97 99,
 oM 101 100,
 gT 102 101 (.faddr 15 (.t 11)),
 gT 103 101 (.load 1 false (.t 102)),
 gT 104 101 (.un .not (.t 103)),
 oP 105 101 104,
 oM 106 105,
 gT 107 106 (.mov (.t 14)),
 gT 108 106 (.bin .eql (.t 107) (.c (.int .i64 6))),
 oP 109 106 108,
 oM 0 109] false)
 (.ret))))))))))
def K1 : IFn := ⟨0, 110, [.tmp 0], false, K1_c⟩
def Q13q : IR :=
 .seq (.reg [o 1 (.box 23 (.t 0)),
 o 2 (.zero zL4),
 o 3 (.mov (.c zI))] false)
 (.seq (.reg [oL 9 23 1,
 oD 10 23 ([.t 9, sA20]) [0],
 oF 11 13 1,
 ob 12 (.load 5 true (.t 11)) [2],
 oF 13 18 1,
 ob 14 (.load 5 true (.t 13)) [4],
 o 4 (.zero [.np]),
 o 5 (.zero zL0),
 o 6 (.zero zL0),
 ⟨none, none, .store 1 (.t 4) (.t 10), [0, 1, 6, 7, 8]⟩,
 ⟨none, none, .store 5 (.t 5) (.t 12), (rg 0 4 ++ rg 6 10)⟩,
 ⟨none, none, .store 5 (.t 6) (.t 14), (rg 0 11)⟩] true)
 (.seq (.reg [oK 15 1 4,
 oL 16 5 6,
 o 17 (.mkfn 25 [] [.t 4]),
 oC 18 24 ([.t 15, .t 16, sA2, .t 17]),
 oM 7 18] false)
 (.seq (.reg [o 19 (.mkfn 28 [] [.t 4]),
 oM 8 19] false)
 (.seq (.reg [oK 20 1 4,
 oF 21 0 1,
 ob 22 (.load 13 true (.t 21)) [1],
 oD 23 31 ([.t 22]) [1, 2],
 oK 24 1 4,
 oL 25 5 5,
 oD 26 32 ([.t 24, .t 25]) (rg 1 6),
 oK 27 1 4,
 oL 28 5 5,
 oM 29 8,
 oD 30 33 ([.t 27, .t 28, sA9, .t 29]) (rg 1 10),
 oK 31 1 4,
 oL 32 5 5,
 oM 33 8,
 oD 34 33 ([.t 31, .t 32, sA10, .t 33]) (rg 1 14),
 oK 35 1 4,
 oL 36 5 6,
 oD 37 27 ([.t 35, .t 36, sA13]) (rg 1 17),
 oK 38 1 4,
 oL 39 5 6,
 oD 40 27 ([.t 38, .t 39, sA4]) (rg 1 20),
 oK 41 1 4,
 oL 42 5 6,
 oD 43 27 ([.t 41, .t 42, sA0]) (rg 1 23),
 oK 44 1 4,
 oL 45 5 6,
 oD 46 27 ([.t 44, .t 45, sA3]) (rg 1 26),
 oK 47 1 4,
 oL 48 5 6,
 oD 49 27 ([.t 47, .t 48, sA23]) (rg 1 29),
 oM 50 7,
 ob 51 (.build zL4 [(0, 13, .t 23), (13, 1, .t 26), (14, 1, .t 30), (15, 1, .t 34), (16, 1, .t 37), (17, 1, .t 40), (18, 1, .t 43), (19, 1, .t 46), (20, 1, .t 49), (21, 1, .t 50)]) (rg 1 31),
 oD 52 30 ([.t 20, .t 51]) (rg 0 32),
 ob 53 (.extract (.t 52) 0) (rg 0 33),
 ob 54 (.extract (.t 52) 1) (rg 0 33),
 ⟨none, none, .store 22 (.t 2) (.t 53), (rg 0 35)⟩,
 ob 3 (.mov (.t 54)) (rg 0 36)] true)
 (.ret)))))
def K1c : IFn := ⟨1, 55, [.cell 2 22 true, .tmp 3], false, Q13q⟩
def Q13n : IR :=
 .seq (.reg [o 1 (.box 22 (.t 0)),
 o 2 (.zero zL2)] false)
 (.seq (.reg [oF 6 13 1,
 oE 7 1 6 [0],
 oD 8 35 ([.t 7]) [0, 1],
 oF 9 14 1,
 oE 10 1 9 [3],
 oD 11 37 ([.t 10, .f 38]) (rg 0 5),
 oD 12 36 ([sA9, .t 11]) (rg 0 6),
 oF 13 15 1,
 oE 14 1 13 [7],
 oD 15 37 ([.t 14, .f 38]) (rg 0 9),
 oD 16 36 ([sA10, .t 15]) (rg 0 10),
 ob 17 (.lit 6 3 zL1 [(0, .t 8), (1, .t 12), (2, .t 16)]) (rg 0 11),
 oD 18 34 ([.t 17]) (rg 0 12),
 o 3 (.zero zL0),
 ⟨none, none, .store 5 (.t 3) (.t 18), (rg 0 14)⟩] true)
 (.seq (.reg [oF 19 21 1,
 oK 20 1 19,
 oC 21 39 ([.t 20, .f 40]),
 o 4 (.zero zL0),
 oS 5 4 21] false)
 (.seq (.reg [oF 22 16 1,
 oE 23 1 22 [0],
 oD 24 42 ([sA13, .t 23]) [0, 1],
 oF 25 17 1,
 oE 26 1 25 [3],
 oD 27 42 ([sA4, .t 26]) (rg 0 5),
 oF 28 18 1,
 oE 29 1 28 [6],
 oD 30 42 ([sA0, .t 29]) (rg 0 8),
 oF 31 19 1,
 oE 32 1 31 [9],
 oD 33 42 ([sA3, .t 32]) (rg 0 11),
 oF 34 20 1,
 oE 35 1 34 [12],
 oD 36 42 ([sA23, .t 35]) (rg 0 14),
 oL 37 5 4,
 oD 38 36 ([sA2, .t 37]) (rg 0 16),
 ob 39 (.lit 6 6 zL1 [(0, .t 24), (1, .t 27), (2, .t 30), (3, .t 33), (4, .t 36), (5, .t 38)]) (rg 0 17),
 oD 40 34 ([.t 39]) (rg 0 18),
 o 5 (.zero zL0),
 ⟨none, none, .store 5 (.t 5) (.t 40), (rg 0 20)⟩] true)
 (.seq (.reg [oF 41 0 1,
 oL 42 13 41,
 oL 43 5 3,
 oL 44 5 5,
 oC 45 43 ([sA20, .t 42, .t 43, .t 44]),
 oS 23 2 45] false)
 (.ret)))))
def K19 : IFn := ⟨1, 46, [.cell 2 23 true], false, Q13n⟩
def Q13t : IR :=
 .seq (.reg [o 1 (.box 23 (.t 0)),
 o 2 (.zero zL3),
 o 3 (.mov (.c zI))] false)
 (.seq (.reg [oL 6 23 1,
 oD 7 23 ([.t 6, sA21]) [0],
 oF 8 13 1,
 ob 9 (.load 5 true (.t 8)) [2],
 o 5 (.zero zL0),
 ob 4 (.mov (.t 7)) [0, 1, 4],
 ⟨none, none, .store 5 (.t 5) (.t 9), (rg 0 6)⟩] true)
 (.seq (.reg [oM 10 4,
 oF 11 0 1,
 ob 12 (.load 13 true (.t 11)) [1],
 oD 13 31 ([.t 12]) [1, 2],
 oM 14 4,
 oM 15 4,
 oL 16 5 5,
 oD 17 46 ([.t 15, .t 16, sA5]) [1, 2, 3, 5, 6],
 oD 18 45 ([.t 14, .t 17]) (rg 1 8),
 oM 19 4,
 oL 20 5 5,
 oD 21 27 ([.t 19, .t 20, sA15]) (rg 1 11),
 oM 22 4,
 oM 23 4,
 oF 24 18 1,
 ob 25 (.load 5 true (.t 24)) [14],
 oD 26 46 ([.t 23, .t 25, sA18]) (rg 1 12 ++ [13, 14, 15]),
 oD 27 45 ([.t 22, .t 26]) (rg 1 17),
 oM 28 4,
 oF 29 18 1,
 ob 30 (.load 5 true (.t 29)) [19],
 oD 31 27 ([.t 28, .t 30, sA6]) (rg 1 21),
 ob 32 (.build zL3 [(0, 13, .t 13), (13, 3, .t 18), (19, 1, .t 21), (16, 3, .t 27), (20, 1, .t 31)]) (rg 1 22),
 oD 33 44 ([.t 10, .t 32]) (rg 0 23),
 ob 34 (.extract (.t 33) 0) (rg 0 24),
 ob 35 (.extract (.t 33) 1) (rg 0 24),
 ⟨none, none, .store 21 (.t 2) (.t 34), (rg 0 26)⟩,
 ob 3 (.mov (.t 35)) (rg 0 27)] true)
 (.ret)))
def K1f : IFn := ⟨1, 36, [.cell 2 21 true, .tmp 3], false, Q13t⟩
def Q13p : IR :=
 .seq (.reg [o 1 (.box 21 (.t 0)),
 o 2 (.zero zL2)] false)
 (.seq (.reg [oF 3 0 1,
 ob 4 (.load 13 true (.t 3)) [0],
 oF 5 13 1,
 ob 6 (.load 3 true (.t 5)) [2],
 oD 7 47 ([.t 6]) [2, 3],
 oD 8 36 ([sA5, .t 7]) [2, 3, 4],
 oF 9 19 1,
 oE 10 1 9 [6],
 oD 11 42 ([sA15, .t 10]) (rg 2 8),
 ob 12 (.lit 6 2 zL1 [(0, .t 8), (1, .t 11)]) (rg 2 9),
 oD 13 34 ([.t 12]) (rg 2 10),
 oF 14 16 1,
 ob 15 (.load 3 true (.t 14)) [11],
 oD 16 47 ([.t 15]) (rg 2 13),
 oD 17 36 ([sA18, .t 16]) (rg 2 14),
 oF 18 20 1,
 oE 19 1 18 [15],
 oD 20 42 ([sA6, .t 19]) (rg 2 17),
 ob 21 (.lit 6 2 zL1 [(0, .t 17), (1, .t 20)]) (rg 2 18),
 oD 22 34 ([.t 21]) (rg 2 19),
 oD 23 43 ([sA21, .t 4, .t 13, .t 22]) (rg 0 20),
 ⟨none, none, .store 23 (.t 2) (.t 23), (rg 0 21)⟩] true)
 (.ret))
def K1b : IFn := ⟨1, 24, [.cell 2 23 true], false, Q13p⟩
def Kd_c : IR :=
 .seq (.reg [o 2 (.box 23 (.t 0)),
 o 3 (.box 23 (.t 1)),
 o 4 (.mov (.c zB))] false)
 (.seq (.reg [oF 5 0 2,
 oL 6 13 5,
 oF 7 0 3,
 oL 8 13 7,
 oC 9 48 ([.t 6, .t 8]),
 oM 10 9,
 gT 11 10 (.faddr 13 (.t 2)),
 gT 12 10 (.load 5 true (.t 11)),
 gT 13 10 (.faddr 13 (.t 3)),
 gT 14 10 (.load 5 true (.t 13)),
 gT 15 10 (.call false (.f 49) [.t 12, .t 14]),
 oP 16 10 15,
 oM 17 16,
 gT 18 17 (.faddr 18 (.t 2)),
 gT 19 17 (.load 5 true (.t 18)),
 gT 20 17 (.faddr 18 (.t 3)),
 gT 21 17 (.load 5 true (.t 20)),
 gT 22 17 (.call false (.f 49) [.t 19, .t 21]),
 oP 23 17 22,
 oM 4 23] false)
 (.ret))
def Kd : IFn := ⟨2, 24, [.tmp 4], false, Kd_c⟩
def Kx_c : IR :=
 .seq (.reg [o 5 (.box 13 (.t 1)),
 o 6 (.box 5 (.t 2)),
 o 7 (.box 5 (.t 3)),
 o 8 (.zero zL2)] false)
 (.seq (.reg [oM 9 0,
 oF 10 0 5,
 oS 1 10 9] false)
 (.seq (.reg [oL 11 13 5,
 oL 12 5 6,
 oL 13 5 7,
 o 14 (.build zL2 [(0, 13, .t 11), (13, 5, .t 12), (18, 5, .t 13)]),
 oS 23 8 14] false)
 (.ret)))
def Kx : IFn := ⟨4, 15, [.cell 8 23 true], false, Kx_c⟩
def Kl_c : IR :=
 .seq (.reg [o 1 (.box 22 (.t 0)),
 o 2 (.zero zL0)] false)
 (.seq (.reg [oF 3 13 1,
 oE 4 1 3 [0],
 oD 5 51 ([.t 4]) [0, 1],
 ob 6 (.build zL1 [(0, 1, sA16), (1, 5, .t 5)]) [0, 1, 2],
 oF 7 14 1,
 oE 8 1 7 [4],
 oD 9 52 ([.t 8]) [0, 1, 2, 4, 5],
 ob 10 (.build zL1 [(0, 1, sA9), (1, 5, .t 9)]) [0, 1, 2, 4, 5, 6],
 oF 11 15 1,
 oE 12 1 11 [8],
 oD 13 52 ([.t 12]) [0, 1, 2, 4, 5, 6, 8, 9],
 ob 14 (.build zL1 [(0, 1, sA10), (1, 5, .t 13)]) [0, 1, 2, 4, 5, 6, 8, 9, 10],
 ob 15 (.lit 6 3 zL1 [(0, .t 6), (1, .t 10), (2, .t 14)]) (rg 0 12),
 oD 16 50 ([.t 15]) (rg 0 13),
 ⟨none, none, .store 5 (.t 2) (.t 16), (rg 0 14)⟩] true)
 (.ret))
def Kl : IFn := ⟨1, 17, [.cell 2 5 true], false, Kl_c⟩
def Qdv : List Nat := [100002, 1, 2, 3, 4]
def Q10l : IR :=
 .seq (.seq (.reg [oM 5 4,
 oF 6 21 1,
 oK 7 1 6,
 oN 8 7,
 o 9 (.bin .lss (.t 5) (.t 8))] false)
 (.cond (.t 9) (.skip)
 (.exit 0)))
 (.seq (.block 1 (.reg [oM 12 3,
 oF 13 21 1,
 oE 14 1 13 [1],
 oM 15 4,
 ob 16 (.iaddr 2 (.t 14) (.t 15)) [1, 2, 3],
 ob 17 (.faddr 0 (.t 16)) [1, 2, 3, 4],
 oE 18 1 17 (rg 1 6),
 oD 19 53 ([.t 18]) (rg 1 7),
 ob 20 (.build zL1 [(0, 1, sA7), (1, 5, .t 19)]) (rg 1 8),
 oF 21 21 1,
 oE 22 1 21 [9],
 oM 23 4,
 ob 24 (.iaddr 2 (.t 22) (.t 23)) [9, 10, 11],
 ob 25 (.faddr 1 (.t 24)) [9, 10, 11, 12],
 oE 26 1 25 (rg 9 14),
 oD 27 54 ([.t 26]) (rg 1 8 ++ rg 9 15),
 ob 28 (.build zL1 [(0, 1, sA24), (1, 5, .t 27)]) (rg 1 8 ++ rg 9 16),
 ob 29 (.lit 6 2 zL1 [(0, .t 20), (1, .t 28)]) (rg 1 17),
 oD 30 50 ([.t 29]) (rg 1 18),
 ob 31 (.lit 5 1 zL0 [(0, .t 30)]) (rg 1 19),
 ob 32 (.append 5 80 (.t 12) (.t 31)) (rg 0 20),
 ob 3 (.mov (.t 32)) (rg 0 21)] true))
 (.reg [oM 10 4,
 oA 11 10,
 oM 4 11] false))
def Km_c : IR :=
 .seq (.reg [o 1 (.box 22 (.t 0)),
 o 2 (.zero zL0)] false)
 (.seq (.reg [o 3 (.mov (.c (.ns 5)))] false)
 (.seq (.seq (.reg [o 4 (.mov (.c zI))] false)
 (.block 0 (.loop Qdv Q10l)))
 (.seq (.reg [oF 33 16 1,
 oE 34 1 33 [0],
 oD 35 54 ([.t 34]) [0, 1],
 ob 36 (.build zL1 [(0, 1, sA13), (1, 5, .t 35)]) [0, 1, 2],
 oF 37 17 1,
 oE 38 1 37 [4],
 oD 39 54 ([.t 38]) [0, 1, 2, 4, 5],
 ob 40 (.build zL1 [(0, 1, sA4), (1, 5, .t 39)]) [0, 1, 2, 4, 5, 6],
 oF 41 18 1,
 oE 42 1 41 [8],
 oD 43 54 ([.t 42]) [0, 1, 2, 4, 5, 6, 8, 9],
 ob 44 (.build zL1 [(0, 1, sA0), (1, 5, .t 43)]) [0, 1, 2, 4, 5, 6, 8, 9, 10],
 oF 45 19 1,
 oE 46 1 45 [12],
 oD 47 54 ([.t 46]) [0, 1, 2, 4, 5, 6, 8, 9, 10, 12, 13],
 ob 48 (.build zL1 [(0, 1, sA3), (1, 5, .t 47)]) [0, 1, 2, 4, 5, 6, 8, 9, 10, 12, 13, 14],
 oF 49 20 1,
 oE 50 1 49 [16],
 oD 51 54 ([.t 50]) [0, 1, 2, 4, 5, 6, 8, 9, 10, 12, 13, 14, 16, 17],
 ob 52 (.build zL1 [(0, 1, sA23), (1, 5, .t 51)]) [0, 1, 2, 4, 5, 6, 8, 9, 10, 12, 13, 14, 16, 17, 18],
 oM 53 3,
 ob 54 (.build zL0 [(0, 1, .c (.int .i64 4)), (3, 1, .t 53)]) [20],
 ob 55 (.build zL1 [(0, 1, sA2), (1, 5, .t 54)]) [20, 21],
 ob 56 (.lit 6 6 zL1 [(0, .t 36), (1, .t 40), (2, .t 44), (3, .t 48), (4, .t 52), (5, .t 55)]) (rg 0 23),
 oD 57 50 ([.t 56]) (rg 0 24),
 ⟨none, none, .store 5 (.t 2) (.t 57), (rg 0 25)⟩] true)
 (.ret))))
def Km : IFn := ⟨1, 58, [.cell 2 5 true], false, Km_c⟩
def Kp_c : IR :=
 .seq (.reg [o 1 (.box 21 (.t 0)),
 o 2 (.zero zL0)] false)
 (.seq (.reg [oF 3 13 1,
 ob 4 (.load 3 true (.t 3)) [0],
 oD 5 55 ([.t 4]) [0, 1],
 ob 6 (.build zL1 [(0, 1, sA5), (1, 5, .t 5)]) [0, 1, 2],
 oF 7 19 1,
 oE 8 1 7 [4],
 oD 9 54 ([.t 8]) [0, 1, 2, 4, 5],
 ob 10 (.build zL1 [(0, 1, sA15), (1, 5, .t 9)]) [0, 1, 2, 4, 5, 6],
 ob 11 (.lit 6 2 zL1 [(0, .t 6), (1, .t 10)]) (rg 0 8),
 oD 12 50 ([.t 11]) (rg 0 9),
 ⟨none, none, .store 5 (.t 2) (.t 12), (rg 0 10)⟩] true)
 (.ret))
def Kp : IFn := ⟨1, 13, [.cell 2 5 true], false, Kp_c⟩
def Kq_c : IR :=
 .seq (.reg [o 1 (.box 21 (.t 0)),
 o 2 (.zero zL0)] false)
 (.seq (.reg [oF 3 16 1,
 ob 4 (.load 3 true (.t 3)) [0],
 oD 5 55 ([.t 4]) [0, 1],
 ob 6 (.build zL1 [(0, 1, sA18), (1, 5, .t 5)]) [0, 1, 2],
 oF 7 20 1,
 oE 8 1 7 [4],
 oD 9 54 ([.t 8]) [0, 1, 2, 4, 5],
 ob 10 (.build zL1 [(0, 1, sA6), (1, 5, .t 9)]) [0, 1, 2, 4, 5, 6],
 ob 11 (.lit 6 2 zL1 [(0, .t 6), (1, .t 10)]) (rg 0 8),
 oD 12 50 ([.t 11]) (rg 0 9),
 ⟨none, none, .store 5 (.t 2) (.t 12), (rg 0 10)⟩] true)
 (.ret))
def Kq : IFn := ⟨1, 13, [.cell 2 5 true], false, Kq_c⟩
def K9_c : IR :=
 .seq (.reg [o 2 (.box 5 (.t 0)),
 o 4 (.mov (.c zB))] false)
 (.seq (.reg [oL 5 5 2,
 oM 6 1,
 oM 7 1,
 oC 8 56 ([.t 5, .t 6, .t 7]),
 o 9 (.bin .geq (.t 8) (.c zI)),
 oM 4 9] false)
 (.ret))
def K9 : IFn := ⟨2, 10, [.tmp 4], false, K9_c⟩
def Qqv : List Nat := [100003, 1, 2, 4, 6]
def Q14x : IR :=
 .seq (.seq (.reg [oM 10 6,
 oF 11 4 2,
 oK 12 1 11,
 oN 13 12,
 o 14 (.bin .lss (.t 10) (.t 13))] false)
 (.cond (.t 14) (.skip)
 (.exit 0)))
 (.seq (.block 1 (.seq (.reg [oF 17 4 2,
 oK 18 1 17,
 oM 19 6,
 oI 20 6 18 19,
 oF 21 0 20,
 oK 22 1 21,
 oM 23 1,
 o 24 (.bin .eql (.t 22) (.t 23))] false)
 (.cond (.t 24) (.seq (.reg [oF 25 4 2,
 oK 26 1 25,
 oM 27 6,
 oI 28 6 26 27,
 oF 29 1 28,
 oL 30 5 29,
 oC 31 57 ([.t 30]),
 oS 5 4 31,
 o 5 (.mov (.c (.bool true)))] false)
 (.ret))
 (.skip))))
 (.reg [oM 15 6,
 oA 16 15,
 oM 6 16] false))
def K6_c : IR :=
 .seq (.reg [o 2 (.box 5 (.t 0)),
 o 4 (.zero zL0),
 o 5 (.mov (.c zB))] false)
 (.seq (.seq (.reg [oF 7 0 2,
 oK 8 1 7,
 o 9 (.bin .eql (.t 8) (.c (.int .i64 5)))] false)
 (.cond (.t 9) (.seq (.reg [o 6 (.mov (.c zI))] false)
 (.block 0 (.loop Qqv Q14x)))
 (.skip)))
 (.seq (.reg [o 32 (.build zL0 []),
 oS 5 4 32,
 o 5 (.mov (.c zB))] false)
 (.ret)))
def K6 : IFn := ⟨2, 33, [.cell 4 5 true, .tmp 5], false, K6_c⟩
def Qqw : List Nat := [100004, 0, 2, 3, 4, 200001]
def Q14y : IR :=
 .seq (.seq (.reg [oM 6 4,
 oM 7 0,
 oN 8 7,
 o 9 (.bin .lss (.t 6) (.t 8))] false)
 (.cond (.t 9) (.skip)
 (.exit 0)))
 (.seq (.block 1 (.reg [oF 12 4 3,
 oE 13 1 12 [0],
 oM 14 0,
 oM 15 4,
 ob 16 (.iaddr 6 (.t 14) (.t 15)) [2, 3],
 ob 17 (.faddr 0 (.t 16)) [2, 3, 4],
 oE 18 1 17 [2, 3, 4, 5],
 oM 19 0,
 oM 20 4,
 ob 21 (.iaddr 6 (.t 19) (.t 20)) [7, 8],
 ob 22 (.faddr 1 (.t 21)) [7, 8, 9],
 ob 23 (.load 5 true (.t 22)) [7, 8, 9, 10],
 oD 24 57 ([.t 23]) (rg 7 12),
 ob 25 (.build zL1 [(0, 1, .t 18), (1, 5, .t 24)]) (rg 2 13),
 oD 26 58 ([.t 13, .t 25]) (rg 0 14),
 ob 27 (.faddr 4 (.t 3)) (rg 0 15),
 ⟨none, none, .store 1 (.t 27) (.t 26), (rg 0 16)⟩] true))
 (.reg [oM 10 4,
 oA 11 10,
 oM 4 11] false))
def K8_c : IR :=
 .seq (.reg [o 2 (.zero zL0)] false)
 (.seq (.reg [o 5 (.build zL0 [(0, 1, .c (.int .i64 5))]),
 o 3 (.zero zL0),
 oS 5 3 5] false)
 (.seq (.seq (.reg [o 4 (.mov (.c zI))] false)
 (.block 0 (.loop Qqw Q14y)))
 (.seq (.reg [oL 28 5 3,
 oS 5 2 28] false)
 (.ret))))
def K8 : IFn := ⟨1, 29, [.cell 2 5 true], false, K8_c⟩
def K7_c : IR :=
 .seq (.reg [o 2 (.zero zL0)] false)
 (.seq (.reg [oM 3 0,
 o 4 (.build zL0 [(0, 1, .c (.int .i64 2)), (1, 1, .t 3)]),
 oS 5 2 4] false)
 (.ret))
def K7 : IFn := ⟨1, 5, [.cell 2 5 true], false, K7_c⟩
def Q13u : IR :=
 .seq (.reg [o 1 (.box 23 (.t 0)),
 o 2 (.zero zL5),
 o 3 (.mov (.c zI))] false)
 (.seq (.reg [oL 6 23 1,
 oD 7 23 ([.t 6, sA22]) [0],
 oF 8 13 1,
 ob 9 (.load 5 true (.t 8)) [2],
 o 5 (.zero zL0),
 ob 4 (.mov (.t 7)) [0, 1, 4],
 ⟨none, none, .store 5 (.t 5) (.t 9), (rg 0 6)⟩] true)
 (.seq (.reg [oM 10 4,
 oF 11 0 1,
 ob 12 (.load 13 true (.t 11)) [1],
 oD 13 31 ([.t 12]) [1, 2],
 oM 14 4,
 oL 15 5 5,
 oD 16 32 ([.t 14, .t 15]) (rg 1 6),
 oM 17 4,
 oL 18 5 5,
 oD 19 60 ([.t 17, .t 18]) (rg 1 9),
 oM 20 4,
 oL 21 5 5,
 oD 22 61 ([.t 20, .t 21, sA17]) (rg 1 12),
 oM 23 4,
 oF 24 18 1,
 ob 25 (.load 5 true (.t 24)) [14],
 oD 26 27 ([.t 23, .t 25, .c (.str ⟨#[97, 100, 100, 114, 101, 115, 115]⟩)]) (rg 1 16),
 ob 27 (.build zL5 [(0, 13, .t 13), (13, 1, .t 16), (14, 1, .t 19), (15, 1, .t 22), (16, 1, .t 26)]) (rg 1 17),
 oD 28 59 ([.t 10, .t 27]) (rg 0 18),
 ob 29 (.extract (.t 28) 0) (rg 0 19),
 ob 30 (.extract (.t 28) 1) (rg 0 19),
 ⟨none, none, .store 17 (.t 2) (.t 29), (rg 0 21)⟩,
 ob 3 (.mov (.t 30)) (rg 0 22)] true)
 (.ret)))
def K1g : IFn := ⟨1, 31, [.cell 2 17 true, .tmp 3], false, Q13u⟩
def Q14n : IR :=
 .seq (.reg [o 2 (.box 23 (.t 0)),
 o 4 (.mov (.c (.np)))] false)
 (.seq (.reg [o 6 (.build [zI] []),
 o 7 (.box 1 (.t 6)),
 oM 5 7] false)
 (.seq (.seq (.reg [oF 8 0 2,
 oF 9 0 8,
 oK 10 1 9,
 oM 11 1,
 o 12 (.bin .neq (.t 10) (.t 11))] false)
 (.cond (.t 12) (.reg [oM 13 5,
 o 14 (.nilck (.t 13)),
 oF 15 0 14,
 oK 16 1 15,
 oA 17 16,
 o 18 (.nilck (.t 13)),
 oF 19 0 18,
 oS 1 19 17] false)
 (.skip)))
 (.seq (.reg [oM 20 5,
 oF 21 13 2,
 oL 22 5 21,
 oC 23 62 ([.t 20, .t 22, .c (.int .i64 5)])] false)
 (.seq (.reg [oM 24 5,
 oF 25 18 2,
 oL 26 5 25,
 oC 27 62 ([.t 24, .t 26, .c (.int .i64 5)])] false)
 (.seq (.reg [oM 28 5,
 oM 4 28] false)
 (.ret))))))
def K29 : IFn := ⟨2, 29, [.tmp 4], false, Q14n⟩
def Qba : List Nat := [100005, 3, 9, 18, 19, 20]
def Qyc : IR :=
 .seq (.reg [o 21 (.bin .lss (.t 20) (.t 19))] false)
 (.seq (.cond (.t 21) (.skip)
 (.exit 0))
 (.seq (.block 1 (.seq (.reg [oI 22 5 18 20,
 oL 23 5 22,
 o 11 (.zero zL0),
 oS 5 11 23] false)
 (.reg [oM 24 9,
 oM 25 3,
 oL 26 5 11,
 o 27 (.call false (.t 25) [.t 26]),
 o 28 (.lit 2 1 [zS, zI] [(0, .t 27)]),
 oJ 29 2 24 24 28,
 oM 9 29] false)))
 (.reg [oA 30 20,
 oM 20 30] false)))
def Q148 : IR :=
 .seq (.reg [o 5 (.box 5 (.t 1)),
 o 8 (.mov (.c (.ns 2)))] false)
 (.seq (.reg [o 9 (.mov (.c (.ns 2)))] false)
 (.seq (.seq (.reg [oM 12 0,
 oM 13 0,
 oL 14 5 5,
 oM 15 2,
 oC 16 46 ([.t 13, .t 14, .t 15]),
 oC 17 62 ([.t 12, .t 16, .c (.int .i64 4)]),
 o 18 (.field 3 1 false (.t 17)),
 oN 19 18,
 o 20 (.mov (.c zI))] false)
 (.block 0 (.loop Qba Qyc)))
 (.seq (.reg [oM 31 9,
 oM 8 31] false)
 (.ret))))
def K1u : IFn := ⟨4, 32, [.tmp 8], false, Q148⟩
def Q13r : IR :=
 .seq (.reg [o 2 (.box 5 (.t 0)),
 o 3 (.zero [zS, zI])] false)
 (.seq (.reg [oK 4 1 1,
 oL 5 5 2,
 oD 6 26 ([.t 4, .t 5, sA7]) [0, 1],
 oK 7 1 1,
 oL 8 5 2,
 oD 9 27 ([.t 7, .t 8, sA24]) (rg 0 5),
 ob 10 (.build [zS, zI] [(0, 1, .t 6), (1, 1, .t 9)]) (rg 0 6),
 ⟨none, none, .store 2 (.t 3) (.t 10), (rg 0 7)⟩] true)
 (.ret))
def K1d : IFn := ⟨2, 11, [.cell 3 2 true], false, Q13r⟩
def Q146 : IR :=
 .seq (.reg [o 4 (.box 5 (.t 1)),
 o 6 (.mov (.c (zS)))] false)
 (.seq (.reg [oM 7 0,
 oM 8 0,
 oL 9 5 4,
 oM 10 2,
 oC 11 46 ([.t 8, .t 9, .t 10]),
 oC 12 62 ([.t 7, .t 11, .c (.int .i64 3)]),
 o 13 (.field 2 1 false (.t 12)),
 oM 6 13] false)
 (.ret))
def K1s : IFn := ⟨3, 14, [.tmp 6], false, Q146⟩
def Q13z : IR :=
 .seq (.reg [o 4 (.box 5 (.t 1)),
 o 6 (.mov (.c zI))] false)
 (.seq (.reg [oM 7 0,
 oM 8 0,
 oL 9 5 4,
 oM 10 2,
 oC 11 46 ([.t 8, .t 9, .t 10]),
 oC 12 62 ([.t 7, .t 11, .c (.int .i64 2)]),
 o 13 (.field 1 1 false (.t 12)),
 oM 6 13] false)
 (.ret))
def K1l : IFn := ⟨3, 14, [.tmp 6], false, Q13z⟩
def Q13s : IR :=
 .seq (.reg [o 2 (.box 5 (.t 0)),
 o 3 (.zero [zB, zI])] false)
 (.seq (.reg [oK 4 1 1,
 oL 5 5 2,
 oC 6 29 ([.t 4, .t 5]),
 oS 2 3 6] false)
 (.ret))
def K1e : IFn := ⟨2, 7, [.cell 3 2 true], false, Q13s⟩
def Q13w : IR :=
 .seq (.reg [o 3 (.box 5 (.t 1)),
 o 4 (.zero [zB, zI])] false)
 (.seq (.reg [oM 5 0,
 oL 6 5 3,
 oD 7 61 ([.t 5, .t 6, sA14]) [0, 1],
 oM 8 0,
 oL 9 5 3,
 oD 10 27 ([.t 8, .t 9, sA11]) (rg 0 5),
 ob 11 (.build [zB, zI] [(0, 1, .t 7), (1, 1, .t 10)]) (rg 0 6),
 ⟨none, none, .store 2 (.t 4) (.t 11), (rg 0 7)⟩] true)
 (.ret))
def K1i : IFn := ⟨2, 12, [.cell 4 2 true], false, Q13w⟩
def Q14p : IR :=
 .seq (.reg [o 3 (.box 22 (.t 1)),
 o 4 (.zero zL4),
 o 5 (.mov (.c zI))] false)
 (.seq (.seq (.reg [oM 7 0,
 o 8 (.nilck (.t 7)),
 oF 9 0 8,
 oK 10 1 9,
 o 11 (.bin .gtr (.t 10) (.c zI))] false)
 (.cond (.t 11) (.seq (.reg [o 6 (.zero zL4)] false)
 (.seq (.reg [oL 12 22 6,
 oS 22 4 12,
 o 5 (.mov (.c (.int .i64 6)))] false)
 (.ret)))
 (.skip)))
 (.seq (.reg [oL 13 22 3,
 oS 22 4 13,
 o 5 (.mov (.c zI))] false)
 (.ret)))
def K2b : IFn := ⟨2, 14, [.cell 4 22 true, .tmp 5], false, Q14p⟩
def Qb9 : List Nat := [100006, 1, 2, 22, 23, 24]
def Qyb : IR :=
 .seq (.reg [o 25 (.bin .lss (.t 24) (.t 23))] false)
 (.seq (.cond (.t 25) (.skip)
 (.exit 0))
 (.seq (.block 1 (.seq (.reg [oM 26 24,
 oI 27 2 22 24,
 oL 28 2 27,
 o 4 (.zero [zS, .ns 1]),
 oM 3 26,
 oS 2 4 28] false)
 (.reg [oF 29 12 1,
 oE 30 1 29 [0],
 oM 31 3,
 oF 32 1 4,
 oE 33 1 32 [3],
 oD 34 65 ([.t 33]) [3, 4],
 ob 35 (.iaddr 2 (.t 30) (.t 31)) (rg 0 6),
 ob 36 (.faddr 1 (.t 35)) (rg 0 7),
 ⟨none, none, .store 1 (.t 36) (.t 34), (rg 0 8)⟩] true)))
 (.reg [oA 37 24,
 oM 24 37] false)))
def Q13v : IR :=
 .seq (.reg [o 1 (.box 13 (.t 0)),
 o 2 (.zero zL6)] false)
 (.seq (.reg [oF 5 9 1,
 oE 6 1 5 [0],
 oD 7 63 ([.t 6]) [0, 1],
 oF 8 10 1,
 oE 9 1 8 [3],
 oD 10 64 ([.t 9]) (rg 0 5),
 oF 11 11 1,
 oE 12 1 11 [6],
 oD 13 65 ([.t 12]) (rg 0 8),
 oF 14 12 1,
 oE 15 1 14 [9],
 oD 16 66 ([.t 15]) (rg 0 11),
 ob 17 (.faddr 9 (.t 1)) (rg 0 5 ++ [6, 7, 9, 10]),
 ⟨none, none, .store 1 (.t 17) (.t 7), (rg 0 13)⟩,
 ob 18 (.faddr 10 (.t 1)) (rg 0 14),
 ⟨none, none, .store 1 (.t 18) (.t 10), (rg 0 15)⟩,
 ob 19 (.faddr 11 (.t 1)) (rg 0 16),
 ⟨none, none, .store 1 (.t 19) (.t 13), (rg 0 17)⟩,
 ob 20 (.faddr 12 (.t 1)) (rg 0 18),
 ⟨none, none, .store 1 (.t 20) (.t 16), (rg 0 19)⟩] true)
 (.seq (.seq (.reg [oF 21 12 1,
 oK 22 1 21,
 oN 23 22,
 o 24 (.mov (.c zI))] false)
 (.block 0 (.loop Qb9 Qyb)))
 (.seq (.reg [oL 38 13 1,
 oS 13 2 38] false)
 (.ret))))
def K1h : IFn := ⟨1, 39, [.cell 2 13 true], false, Q13v⟩
def Q143 : IR :=
 .seq (.reg [o 2 (.box 1 (.t 0)),
 o 3 (.box 5 (.t 1)),
 o 4 (.mov (.c (.ns 3)))] false)
 (.seq (.reg [oK 5 1 2,
 oL 6 5 3,
 o 7 (.mkfn 68 [] [.t 2]),
 oC 8 67 ([.t 5, .t 6, sA16, .t 7]),
 oM 4 8] false)
 (.ret))
def K1p : IFn := ⟨2, 9, [.tmp 4], false, Q143⟩
def Qbb : List Nat := [100007, 3, 9, 18, 19, 20]
def Qyd : IR :=
 .seq (.reg [o 21 (.bin .lss (.t 20) (.t 19))] false)
 (.seq (.cond (.t 21) (.skip)
 (.exit 0))
 (.seq (.block 1 (.seq (.reg [oI 22 5 18 20,
 oL 23 5 22,
 o 11 (.zero zL0),
 oS 5 11 23] false)
 (.reg [oM 24 9,
 oM 25 3,
 oL 26 5 11,
 o 27 (.call false (.t 25) [.t 26]),
 o 28 (.lit 2 1 [zB, zI] [(0, .t 27)]),
 oJ 29 2 16 24 28,
 oM 9 29] false)))
 (.reg [oA 30 20,
 oM 20 30] false)))
def Q149 : IR :=
 .seq (.reg [o 5 (.box 5 (.t 1)),
 o 8 (.mov (.c (.ns 2)))] false)
 (.seq (.reg [o 9 (.mov (.c (.ns 2)))] false)
 (.seq (.seq (.reg [oM 12 0,
 oM 13 0,
 oL 14 5 5,
 oM 15 2,
 oC 16 46 ([.t 13, .t 14, .t 15]),
 oC 17 62 ([.t 12, .t 16, .c (.int .i64 4)]),
 o 18 (.field 3 1 false (.t 17)),
 oN 19 18,
 o 20 (.mov (.c zI))] false)
 (.block 0 (.loop Qbb Qyd)))
 (.seq (.reg [oM 31 9,
 oM 8 31] false)
 (.ret))))
def K1v : IFn := ⟨4, 32, [.tmp 8], false, Q149⟩
def Qb6 : List Nat := [100008, 2, 3, 4, 12, 13, 14]
def Qy8 : IR :=
 .seq (.reg [o 15 (.bin .lss (.t 14) (.t 13))] false)
 (.seq (.cond (.t 15) (.skip)
 (.exit 0))
 (.seq (.block 1 (.seq (.reg [oM 16 14,
 oI 17 6 12 14,
 oL 18 6 17,
 o 6 (.zero zL1),
 oM 5 16,
 oS 6 6 18] false)
 (.seq (.reg [oM 19 5,
 ob 20 (.bin .add (.t 19) (.c (.int .i64 1))) [0],
 oM 21 3,
 ob 22 (.len false (.t 21)) [2],
 ob 23 (.bin .eql (.t 20) (.t 22)) [0, 1, 2, 3],
 ob 24 (.mov (.t 23)) (rg 0 5),
 ⟨(some 25), (some (24, false)), .mov (.t 3), (rg 0 6)⟩,
 ⟨(some 26), (some (24, false)), .mov (.t 5), (rg 0 6)⟩,
 ⟨(some 27), (some (24, false)), .bin .add (.t 26) (.c (.int .i64 1)), (rg 0 6 ++ [7])⟩,
 ⟨(some 28), (some (24, false)), .iaddr 6 (.t 25) (.t 27), (rg 0 9)⟩,
 ⟨(some 29), (some (24, false)), .faddr 0 (.t 28), (rg 0 10)⟩,
 ⟨(some 30), (some (24, false)), .load 1 false (.t 29), (rg 0 11)⟩,
 ⟨(some 31), (some (24, false)), .faddr 0 (.t 6), (rg 0 6)⟩,
 ⟨(some 32), (some (24, false)), .load 1 false (.t 31), (rg 0 6 ++ [12])⟩,
 ⟨(some 33), (some (24, false)), .bin .neq (.t 30) (.t 32), (rg 0 14)⟩,
 ob 34 (.pick (.t 24) (.c (.bool true)) (.t 33)) (rg 0 15)] true)
 (.cond (.t 34) (.reg [oF 35 4 4,
 oK 36 1 35,
 oL 37 6 6,
 o 38 (.lit 6 1 zL1 [(0, .t 37)]),
 oJ 39 6 96 36 38,
 oF 40 4 4,
 oS 1 40 39] false)
 (.skip)))))
 (.reg [oA 41 14,
 oM 14 41] false)))
def Q13j : IR :=
 .seq (.reg [o 2 (.zero zL0)] false)
 (.seq (.reg [oM 7 0,
 oC 8 71 ([.t 7]),
 oM 3 8] false)
 (.seq (.reg [oM 9 3,
 o 10 (.call true (.f 72) [.t 9, .f 73])] false)
 (.seq (.reg [o 11 (.build zL0 [(0, 1, .c (.int .i64 5))]),
 o 4 (.zero zL0),
 oS 5 4 11] false)
 (.seq (.seq (.reg [oM 12 3,
 oN 13 12,
 o 14 (.mov (.c zI))] false)
 (.block 0 (.loop Qb6 Qy8)))
 (.seq (.reg [oL 42 5 4,
 oC 43 75 ([.t 42]),
 oS 5 2 43] false)
 (.ret))))))
def K15 : IFn := ⟨1, 44, [.cell 2 5 true], false, Q13j⟩
def Q14s : IR :=
 .seq (.reg [o 2 (.zero zL1)] false)
 (.seq (.reg [oM 3 0,
 oC 4 76 ([.t 3]),
 oC 5 36 ([sA16, .t 4]),
 oS 6 2 5] false)
 (.ret))
def K2e : IFn := ⟨1, 6, [.cell 2 6 true], false, Q14s⟩
def Q14o : IR :=
 .seq (.reg [o 3 (.box 5 (.t 1)),
 o 4 (.zero zL1)] false)
 (.seq (.reg [oM 5 0,
 oL 6 5 3,
 o 7 (.build zL1 [(0, 1, .t 5), (1, 5, .t 6)]),
 oS 6 4 7] false)
 (.ret))
def K2a : IFn := ⟨2, 8, [.cell 4 6 true], false, Q14o⟩
def Qbe : List Nat := [100009, 1, 4, 5, 8, 9, 10]
def Qyg : IR :=
 .seq (.reg [o 11 (.bin .lss (.t 10) (.t 9))] false)
 (.seq (.cond (.t 11) (.skip)
 (.exit 0))
 (.seq (.block 1 (.seq (.reg [oI 12 2 8 10,
 oL 13 2 12,
 o 7 (.zero [zB, zI]),
 oS 2 7 13] false)
 (.reg [oM 14 5,
 oM 15 1,
 oL 16 2 7,
 o 17 (.call false (.t 15) [.t 16]),
 o 18 (.lit 5 1 zL0 [(0, .t 17)]),
 oJ 19 5 80 14 18,
 oM 5 19] false)))
 (.reg [oA 20 10,
 oM 10 20] false)))
def Q14h : IR :=
 .seq (.reg [o 4 (.zero zL0)] false)
 (.seq (.reg [o 5 (.mov (.c (.ns 5)))] false)
 (.seq (.seq (.reg [oM 8 0,
 oN 9 8,
 o 10 (.mov (.c zI))] false)
 (.block 0 (.loop Qbe Qyg)))
 (.seq (.reg [oM 21 5,
 o 22 (.build zL0 [(0, 1, .c (.int .i64 4)), (3, 1, .t 21)]),
 oS 5 4 22] false)
 (.ret))))
def K23 : IFn := ⟨2, 23, [.cell 4 5 true], false, Q14h⟩
def Q14d : IR :=
 .seq (.reg [o 1 (.box 2 (.t 0)),
 o 2 (.zero zL0)] false)
 (.seq (.reg [oF 3 0 1,
 oE 4 1 3 [0],
 oD 5 77 ([sA14, .t 4]) [0, 1],
 oF 6 1 1,
 oE 7 1 6 [3],
 oD 8 42 ([sA11, .t 7]) (rg 0 5),
 ob 9 (.lit 6 2 zL1 [(0, .t 5), (1, .t 8)]) (rg 0 6),
 oD 10 34 ([.t 9]) (rg 0 7),
 ⟨none, none, .store 5 (.t 2) (.t 10), (rg 0 8)⟩] true)
 (.ret))
def K1z : IFn := ⟨1, 11, [.cell 2 5 true], false, Q14d⟩
def Qbf : List Nat := [100010, 1, 4, 5, 8, 9, 10]
def Qyh : IR :=
 .seq (.reg [o 11 (.bin .lss (.t 10) (.t 9))] false)
 (.seq (.cond (.t 11) (.skip)
 (.exit 0))
 (.seq (.block 1 (.seq (.reg [oI 12 2 8 10,
 oL 13 2 12,
 o 7 (.zero [zS, zI]),
 oS 2 7 13] false)
 (.reg [oM 14 5,
 oM 15 1,
 oL 16 2 7,
 o 17 (.call false (.t 15) [.t 16]),
 o 18 (.lit 5 1 zL0 [(0, .t 17)]),
 oJ 19 5 80 14 18,
 oM 5 19] false)))
 (.reg [oA 20 10,
 oM 10 20] false)))
def Q14i : IR :=
 .seq (.reg [o 4 (.zero zL0)] false)
 (.seq (.reg [o 5 (.mov (.c (.ns 5)))] false)
 (.seq (.seq (.reg [oM 8 0,
 oN 9 8,
 o 10 (.mov (.c zI))] false)
 (.block 0 (.loop Qbf Qyh)))
 (.seq (.reg [oM 21 5,
 o 22 (.build zL0 [(0, 1, .c (.int .i64 4)), (3, 1, .t 21)]),
 oS 5 4 22] false)
 (.ret))))
def K24 : IFn := ⟨2, 23, [.cell 4 5 true], false, Q14i⟩
def Q13o : IR :=
 .seq (.reg [o 1 (.box 2 (.t 0)),
 o 2 (.zero zL0)] false)
 (.seq (.reg [oF 3 0 1,
 oE 4 1 3 [0],
 oD 5 41 ([sA7, .t 4]) [0, 1],
 oF 6 1 1,
 oE 7 1 6 [3],
 oD 8 42 ([sA24, .t 7]) (rg 0 5),
 ob 9 (.lit 6 2 zL1 [(0, .t 5), (1, .t 8)]) (rg 0 6),
 oD 10 34 ([.t 9]) (rg 0 7),
 ⟨none, none, .store 5 (.t 2) (.t 10), (rg 0 8)⟩] true)
 (.ret))
def K1a : IFn := ⟨1, 11, [.cell 2 5 true], false, Q13o⟩
def Q14t : IR :=
 .seq (.reg [o 4 (.zero zL1)] false)
 (.seq (.reg [oM 5 0,
 oM 6 1,
 oC 7 78 ([.t 6]),
 oC 8 36 ([.t 5, .t 7]),
 oS 6 4 8] false)
 (.ret))
def K2f : IFn := ⟨2, 9, [.cell 4 6 true], false, Q14t⟩
def Q14l : IR :=
 .seq (.reg [o 4 (.zero zL1)] false)
 (.seq (.reg [oM 5 0,
 oM 6 1,
 oC 7 79 ([.t 6]),
 oC 8 36 ([.t 5, .t 7]),
 oS 6 4 8] false)
 (.ret))
def K27 : IFn := ⟨2, 9, [.cell 4 6 true], false, Q14l⟩
def Q14m : IR :=
 .seq (.reg [o 5 (.box 13 (.t 1)),
 o 6 (.box 5 (.t 2)),
 o 7 (.box 5 (.t 3)),
 o 8 (.zero zL2)] false)
 (.seq (.reg [oL 9 13 5,
 oC 10 31 ([.t 9]),
 oS 13 5 10] false)
 (.seq (.reg [oM 11 0,
 oF 12 0 5,
 oS 1 12 11] false)
 (.seq (.reg [oL 13 13 5,
 oL 14 5 6,
 oL 15 5 7,
 o 16 (.build zL2 [(0, 13, .t 13), (13, 5, .t 14), (18, 5, .t 15)]),
 oS 23 8 16] false)
 (.ret))))
def K28 : IFn := ⟨4, 17, [.cell 8 23 true], false, Q14m⟩
def Q14q : IR :=
 .seq (.reg [o 3 (.box 21 (.t 1)),
 o 4 (.zero zL3),
 o 5 (.mov (.c zI))] false)
 (.seq (.seq (.reg [oM 7 0,
 o 8 (.nilck (.t 7)),
 oF 9 0 8,
 oK 10 1 9,
 o 11 (.bin .gtr (.t 10) (.c zI))] false)
 (.cond (.t 11) (.seq (.reg [o 6 (.zero zL3)] false)
 (.seq (.reg [oL 12 21 6,
 oS 21 4 12,
 o 5 (.mov (.c (.int .i64 6)))] false)
 (.ret)))
 (.skip)))
 (.seq (.reg [oL 13 21 3,
 oS 21 4 13,
 o 5 (.mov (.c zI))] false)
 (.ret)))
def K2c : IFn := ⟨2, 14, [.cell 4 21 true, .tmp 5], false, Q14q⟩
def Q142 : IR :=
 .seq (.reg [o 3 (.box 5 (.t 1)),
 o 4 (.zero [zI, zI, zI])] false)
 (.seq (.reg [oM 5 0,
 oL 6 5 3,
 oD 7 27 ([.t 5, .t 6, sA25]) [0, 1],
 oM 8 0,
 oL 9 5 3,
 oD 10 27 ([.t 8, .t 9, sA8]) (rg 0 5),
 oM 11 0,
 oL 12 5 3,
 oD 13 27 ([.t 11, .t 12, sA1]) (rg 0 8),
 ob 14 (.build [zI, zI, zI] [(0, 1, .t 7), (1, 1, .t 10), (2, 1, .t 13)]) (rg 0 9),
 ⟨none, none, .store 3 (.t 4) (.t 14), (rg 0 10)⟩] true)
 (.ret))
def K1o : IFn := ⟨2, 15, [.cell 4 3 true], false, Q142⟩
def Q13y : IR :=
 .seq (.reg [o 4 (.box 5 (.t 1)),
 o 6 (.zero zL0)] false)
 (.seq (.reg [oM 10 0,
 oL 11 5 4,
 oC 12 62 ([.t 10, .t 11, .c (.int .i64 5)]),
 oM 13 2,
 oC 14 80 ([.t 12, .t 13]),
 oM 9 14,
 oX 15 9 0,
 oX 16 9 1,
 o 7 (.zero zL0),
 oS 5 7 15,
 oM 8 16] false)
 (.seq (.reg [oL 17 5 7,
 oS 5 6 17] false)
 (.ret)))
def K1k : IFn := ⟨3, 18, [.cell 6 5 true], false, Q13y⟩
def Q14e : IR :=
 .seq (.reg [o 1 (.box 3 (.t 0)),
 o 2 (.zero zL0)] false)
 (.seq (.reg [oF 3 0 1,
 oE 4 1 3 [0],
 oD 5 42 ([sA25, .t 4]) [0, 1],
 oF 6 1 1,
 oE 7 1 6 [3],
 oD 8 42 ([sA8, .t 7]) (rg 0 5),
 oF 9 2 1,
 oE 10 1 9 [6],
 oD 11 42 ([sA1, .t 10]) (rg 0 8),
 ob 12 (.lit 6 3 zL1 [(0, .t 5), (1, .t 8), (2, .t 11)]) (rg 0 9),
 oD 13 34 ([.t 12]) (rg 0 10),
 ⟨none, none, .store 5 (.t 2) (.t 13), (rg 0 11)⟩] true)
 (.ret))
def K20 : IFn := ⟨1, 14, [.cell 2 5 true], false, Q14e⟩
def Qds : List Nat := [100013, 2, 3, 7]
def Q10i : IR :=
 .seq (.seq (.reg [oM 138 7,
 oF 139 12 2,
 oK 140 1 139,
 oN 141 140,
 o 142 (.bin .lss (.t 138) (.t 141))] false)
 (.cond (.t 142) (.skip)
 (.exit 4)))
 (.seq (.block 5 (.seq (.reg [oF 145 12 2,
 oE 146 1 145 [0],
 oM 147 7,
 ob 148 (.iaddr 2 (.t 146) (.t 147)) [0, 1, 2],
 ob 149 (.faddr 0 (.t 148)) [0, 1, 2, 3],
 oE 150 1 149 (rg 0 5),
 oF 151 12 3,
 oE 152 1 151 [6],
 oM 153 7,
 ob 154 (.iaddr 2 (.t 152) (.t 153)) [6, 7, 8],
 ob 155 (.faddr 0 (.t 154)) [6, 7, 8, 9],
 oE 156 1 155 (rg 6 11),
 ob 157 (.bin .neq (.t 150) (.t 156)) (rg 0 12),
 ob 158 (.mov (.t 157)) (rg 0 13),
 ⟨(some 159), (some (158, false)), .faddr 12 (.t 2), (rg 0 14)⟩,
 ⟨(some 160), (some (158, false)), .load 1 false (.t 159), (rg 0 15)⟩,
 ⟨(some 161), (some (158, false)), .mov (.t 7), (rg 0 14)⟩,
 ⟨(some 162), (some (158, false)), .iaddr 2 (.t 160) (.t 161), (rg 0 17)⟩,
 ⟨(some 163), (some (158, false)), .faddr 1 (.t 162), (rg 0 18)⟩,
 ⟨(some 164), (some (158, false)), .load 1 false (.t 163), (rg 0 19)⟩,
 ⟨(some 165), (some (158, false)), .faddr 12 (.t 3), (rg 0 14)⟩,
 ⟨(some 166), (some (158, false)), .load 1 false (.t 165), (rg 0 14 ++ [20])⟩,
 ⟨(some 167), (some (158, false)), .mov (.t 7), (rg 0 14)⟩,
 ⟨(some 168), (some (158, false)), .iaddr 2 (.t 166) (.t 167), (rg 0 14 ++ [20, 21, 22])⟩,
 ⟨(some 169), (some (158, false)), .faddr 1 (.t 168), (rg 0 14 ++ rg 20 24)⟩,
 ⟨(some 170), (some (158, false)), .load 1 false (.t 169), (rg 0 14 ++ rg 20 25)⟩,
 ⟨(some 171), (some (158, false)), .call false (.f 82) [.t 164, .t 170], (rg 0 26)⟩,
 ⟨(some 172), (some (158, false)), .un .not (.t 171), (rg 0 27)⟩,
 ob 173 (.pick (.t 158) (.c (.bool true)) (.t 172)) (rg 0 28)] true)
 (.cond (.t 173) (.seq (.reg [o 4 (.mov (.c zB))] false)
 (.ret))
 (.skip))))
 (.reg [oM 143 7,
 oA 144 143,
 oM 7 144] false))
def Qdr : List Nat := [100012, 2, 3, 6]
def Q10h : IR :=
 .seq (.seq (.reg [oM 120 6,
 oF 121 10 2,
 oK 122 1 121,
 oN 123 122,
 o 124 (.bin .lss (.t 120) (.t 123))] false)
 (.cond (.t 124) (.skip)
 (.exit 2)))
 (.seq (.block 3 (.seq (.reg [oF 127 10 2,
 oE 128 1 127 [0],
 oM 129 6,
 ob 130 (.iaddr 5 (.t 128) (.t 129)) [0, 1, 2],
 ob 131 (.load 5 true (.t 130)) [0, 1, 2, 3],
 oF 132 10 3,
 oE 133 1 132 [5],
 oM 134 6,
 ob 135 (.iaddr 5 (.t 133) (.t 134)) [5, 6, 7],
 ob 136 (.load 5 true (.t 135)) [5, 6, 7, 8],
 ob 137 (.eqs (.st [(0, 1, .str), (1, 1, .str), (2, 1, .int), (3, 1, .bool), (4, 1, .bool)]) true (.t 131) (.t 136)) (rg 0 10)] true)
 (.cond (.t 137) (.seq (.reg [o 4 (.mov (.c zB))] false)
 (.ret))
 (.skip))))
 (.reg [oM 125 6,
 oA 126 125,
 oM 6 126] false))
def Qdq : List Nat := [100011, 2, 3, 5]
def Q10g : IR :=
 .seq (.seq (.reg [oM 102 5,
 oF 103 9 2,
 oK 104 1 103,
 oN 105 104,
 o 106 (.bin .lss (.t 102) (.t 105))] false)
 (.cond (.t 106) (.skip)
 (.exit 0)))
 (.seq (.block 1 (.seq (.reg [oF 109 9 2,
 oE 110 1 109 [0],
 oM 111 5,
 ob 112 (.iaddr 2 (.t 110) (.t 111)) [0, 1, 2],
 ob 113 (.load 2 true (.t 112)) [0, 1, 2, 3],
 oF 114 9 3,
 oE 115 1 114 [5],
 oM 116 5,
 ob 117 (.iaddr 2 (.t 115) (.t 116)) [5, 6, 7],
 ob 118 (.load 2 true (.t 117)) [5, 6, 7, 8],
 ob 119 (.eqs (.st [(0, 1, .str), (1, 1, .str)]) true (.t 113) (.t 118)) (rg 0 10)] true)
 (.cond (.t 119) (.seq (.reg [o 4 (.mov (.c zB))] false)
 (.ret))
 (.skip))))
 (.reg [oM 107 5,
 oA 108 107,
 oM 5 108] false))
def Kg_c : IR :=
 .seq (.reg [o 2 (.box 13 (.t 0)),
 o 3 (.box 13 (.t 1)),
 o 4 (.mov (.c zB))] false)
 (.seq (.seq (.reg [oL 8 13 2,
 oD 9 81 ([.t 8]) [0],
 oL 10 13 3,
 oD 11 81 ([.t 10]) [0, 1, 2],
 ob 12 (.bin .neq (.t 9) (.t 11)) [0, 1, 2, 3],
 ob 13 (.mov (.t 12)) (rg 0 5),
 ⟨(some 14), (some (13, false)), .faddr 0 (.t 2), (rg 0 6)⟩,
 ⟨(some 15), (some (13, false)), .load 1 false (.t 14), (rg 0 7)⟩,
 ⟨(some 16), (some (13, false)), .faddr 0 (.t 3), (rg 0 6)⟩,
 ⟨(some 17), (some (13, false)), .load 1 false (.t 16), (rg 0 6 ++ [8])⟩,
 ⟨(some 18), (some (13, false)), .bin .neq (.t 15) (.t 17), (rg 0 10)⟩,
 ob 19 (.pick (.t 13) (.c (.bool true)) (.t 18)) (rg 0 11),
 ob 20 (.mov (.t 19)) (rg 0 12),
 ⟨(some 21), (some (20, false)), .faddr 1 (.t 2), (rg 0 13)⟩,
 ⟨(some 22), (some (20, false)), .load 1 false (.t 21), (rg 0 14)⟩,
 ⟨(some 23), (some (20, false)), .faddr 1 (.t 3), (rg 0 13)⟩,
 ⟨(some 24), (some (20, false)), .load 1 false (.t 23), (rg 0 13 ++ [15])⟩,
 ⟨(some 25), (some (20, false)), .bin .neq (.t 22) (.t 24), (rg 0 17)⟩,
 ob 26 (.pick (.t 20) (.c (.bool true)) (.t 25)) (rg 0 18),
 ob 27 (.mov (.t 26)) (rg 0 19),
 ⟨(some 28), (some (27, false)), .faddr 3 (.t 2), (rg 0 20)⟩,
 ⟨(some 29), (some (27, false)), .load 1 false (.t 28), (rg 0 21)⟩,
 ⟨(some 30), (some (27, false)), .faddr 3 (.t 3), (rg 0 20)⟩,
 ⟨(some 31), (some (27, false)), .load 1 false (.t 30), (rg 0 20 ++ [22])⟩,
 ⟨(some 32), (some (27, false)), .bin .neq (.t 29) (.t 31), (rg 0 24)⟩,
 ob 33 (.pick (.t 27) (.c (.bool true)) (.t 32)) (rg 0 25),
 ob 34 (.mov (.t 33)) (rg 0 26),
 ⟨(some 35), (some (34, false)), .faddr 4 (.t 2), (rg 0 27)⟩,
 ⟨(some 36), (some (34, false)), .load 1 false (.t 35), (rg 0 28)⟩,
 ⟨(some 37), (some (34, false)), .faddr 4 (.t 3), (rg 0 27)⟩,
 ⟨(some 38), (some (34, false)), .load 1 false (.t 37), (rg 0 27 ++ [29])⟩,
 ⟨(some 39), (some (34, false)), .bin .neq (.t 36) (.t 38), (rg 0 31)⟩,
 ob 40 (.pick (.t 34) (.c (.bool true)) (.t 39)) (rg 0 32),
 ob 41 (.mov (.t 40)) (rg 0 33),
 ⟨(some 42), (some (41, false)), .faddr 5 (.t 2), (rg 0 34)⟩,
 ⟨(some 43), (some (41, false)), .load 1 false (.t 42), (rg 0 35)⟩,
 ⟨(some 44), (some (41, false)), .faddr 5 (.t 3), (rg 0 34)⟩,
 ⟨(some 45), (some (41, false)), .load 1 false (.t 44), (rg 0 34 ++ [36])⟩,
 ⟨(some 46), (some (41, false)), .bin .neq (.t 43) (.t 45), (rg 0 38)⟩,
 ob 47 (.pick (.t 41) (.c (.bool true)) (.t 46)) (rg 0 39),
 ob 48 (.mov (.t 47)) (rg 0 40),
 ⟨(some 49), (some (48, false)), .faddr 6 (.t 2), (rg 0 41)⟩,
 ⟨(some 50), (some (48, false)), .load 1 false (.t 49), (rg 0 42)⟩,
 ⟨(some 51), (some (48, false)), .faddr 6 (.t 3), (rg 0 41)⟩,
 ⟨(some 52), (some (48, false)), .load 1 false (.t 51), (rg 0 41 ++ [43])⟩,
 ⟨(some 53), (some (48, false)), .bin .neq (.t 50) (.t 52), (rg 0 45)⟩,
 ob 54 (.pick (.t 48) (.c (.bool true)) (.t 53)) (rg 0 46),
 ob 55 (.mov (.t 54)) (rg 0 47),
 ⟨(some 56), (some (55, false)), .faddr 7 (.t 2), (rg 0 48)⟩,
 ⟨(some 57), (some (55, false)), .load 1 false (.t 56), (rg 0 49)⟩,
 ⟨(some 58), (some (55, false)), .faddr 7 (.t 3), (rg 0 48)⟩,
 ⟨(some 59), (some (55, false)), .load 1 false (.t 58), (rg 0 48 ++ [50])⟩,
 ⟨(some 60), (some (55, false)), .eqb true (.t 57) (.t 59), (rg 0 52)⟩,
 ob 61 (.pick (.t 55) (.c (.bool true)) (.t 60)) (rg 0 53),
 ob 62 (.mov (.t 61)) (rg 0 54),
 ⟨(some 63), (some (62, false)), .faddr 8 (.t 2), (rg 0 55)⟩,
 ⟨(some 64), (some (62, false)), .load 1 false (.t 63), (rg 0 56)⟩,
 ⟨(some 65), (some (62, false)), .faddr 8 (.t 3), (rg 0 55)⟩,
 ⟨(some 66), (some (62, false)), .load 1 false (.t 65), (rg 0 55 ++ [57])⟩,
 ⟨(some 67), (some (62, false)), .bin .neq (.t 64) (.t 66), (rg 0 59)⟩,
 ob 68 (.pick (.t 62) (.c (.bool true)) (.t 67)) (rg 0 60)] true)
 (.cond (.t 68) (.seq (.reg [o 4 (.mov (.c zB))] false)
 (.ret))
 (.skip)))
 (.seq (.seq (.reg [oF 69 9 2,
 oK 70 1 69,
 oN 71 70,
 oF 72 9 3,
 oK 73 1 72,
 oN 74 73,
 o 75 (.bin .neq (.t 71) (.t 74)),
 oM 76 75,
 gF 77 76 (.faddr 10 (.t 2)),
 gF 78 76 (.load 1 false (.t 77)),
 gF 79 76 (.len false (.t 78)),
 gF 80 76 (.faddr 10 (.t 3)),
 gF 81 76 (.load 1 false (.t 80)),
 gF 82 76 (.len false (.t 81)),
 gF 83 76 (.bin .neq (.t 79) (.t 82)),
 oQ 84 76 83,
 oM 85 84,
 gF 86 85 (.faddr 12 (.t 2)),
 gF 87 85 (.load 1 false (.t 86)),
 gF 88 85 (.len false (.t 87)),
 gF 89 85 (.faddr 12 (.t 3)),
 gF 90 85 (.load 1 false (.t 89)),
 gF 91 85 (.len false (.t 90)),
 gF 92 85 (.bin .neq (.t 88) (.t 91)),
 oQ 93 85 92,
 oM 94 93,
 gF 95 94 (.faddr 11 (.t 2)),
 gF 96 94 (.load 1 false (.t 95)),
 gF 97 94 (.faddr 11 (.t 3)),
 gF 98 94 (.load 1 false (.t 97)),
 gF 99 94 (.call false (.f 82) [.t 96, .t 98]),
 gF 100 94 (.un .not (.t 99)),
 oQ 101 94 100] false)
 (.cond (.t 101) (.seq (.reg [o 4 (.mov (.c zB))] false)
 (.ret))
 (.skip)))
 (.seq (.seq (.reg [o 5 (.mov (.c zI))] false)
 (.block 0 (.loop Qdq Q10g)))
 (.seq (.seq (.reg [o 6 (.mov (.c zI))] false)
 (.block 2 (.loop Qdr Q10h)))
 (.seq (.seq (.reg [o 7 (.mov (.c zI))] false)
 (.block 4 (.loop Qds Q10i)))
 (.seq (.reg [o 4 (.mov (.c (.bool true)))] false)
 (.ret)))))))
def Kg : IFn := ⟨2, 174, [.tmp 4], false, Kg_c⟩
def K5_c : IR :=
 .seq (.reg [o 2 (.box 5 (.t 0)),
 o 3 (.box 5 (.t 1)),
 o 4 (.mov (.c zB))] false)
 (.seq (.reg [oL 5 5 2,
 oL 6 5 3,
 oC 7 83 ([.t 5, .t 6]),
 o 8 (.bin .eql (.t 7) (.c zI)),
 oM 4 8] false)
 (.ret))
def K5 : IFn := ⟨2, 9, [.tmp 4], false, K5_c⟩
def Qdx : List Nat := [100015, 0, 2, 3, 4, 5]
def Q10n : IR :=
 .seq (.seq (.reg [oM 13 5,
 oM 14 3,
 ob 15 (.len false (.t 14)) [1],
 ob 16 (.bin .lss (.t 13) (.t 15)) [0, 1, 2],
 ob 17 (.mov (.t 16)) [0, 1, 2, 3],
 ⟨(some 18), (some (17, true)), .mov (.t 3), (rg 0 5)⟩,
 ⟨(some 19), (some (17, true)), .mov (.t 5), (rg 0 5)⟩,
 ⟨(some 20), (some (17, true)), .iaddr 6 (.t 18) (.t 19), (rg 0 7)⟩,
 ⟨(some 21), (some (17, true)), .faddr 0 (.t 20), (rg 0 8)⟩,
 ⟨(some 22), (some (17, true)), .load 1 false (.t 21), (rg 0 9)⟩,
 ⟨(some 23), (some (17, true)), .mov (.t 0), (rg 0 5)⟩,
 ⟨(some 24), (some (17, true)), .mov (.t 4), (rg 0 5)⟩,
 ⟨(some 25), (some (17, true)), .iaddr 6 (.t 23) (.t 24), (rg 0 5 ++ [10, 11])⟩,
 ⟨(some 26), (some (17, true)), .faddr 0 (.t 25), (rg 0 5 ++ [10, 11, 12])⟩,
 ⟨(some 27), (some (17, true)), .load 1 false (.t 26), (rg 0 5 ++ rg 10 14)⟩,
 ⟨(some 28), (some (17, true)), .bin .lss (.t 22) (.t 27), (rg 0 15)⟩,
 ob 29 (.pick (.t 17) (.t 28) (.c zB)) (rg 0 16)] true)
 (.cond (.t 29) (.skip)
 (.exit 2)))
 (.block 3 (.reg [oM 30 5,
 oA 31 30,
 oM 5 31] false))
def Qdw : List Nat := [100014, 0, 2, 3, 4]
def Q10m : IR :=
 .seq (.seq (.reg [oM 7 4,
 oM 8 0,
 oN 9 8,
 o 10 (.bin .lss (.t 7) (.t 9))] false)
 (.cond (.t 10) (.skip)
 (.exit 0)))
 (.seq (.block 1 (.seq (.reg [o 5 (.mov (.c zI))] false)
 (.seq (.block 2 (.loop Qdx Q10n))
 (.seq (.reg [o 6 (.mov (.c (.ns 6)))] false)
 (.seq (.reg [oM 32 6,
 oM 33 3,
 oM 34 5,
 o 35 (.slice 6 (.t 33) none (some (.t 34)) none),
 oJ 36 6 96 32 35,
 oM 6 36] false)
 (.seq (.reg [oM 37 6,
 oM 38 0,
 oM 39 4,
 oI 40 6 38 39,
 oL 41 6 40,
 o 42 (.lit 6 1 zL1 [(0, .t 41)]),
 oJ 43 6 96 37 42,
 oM 6 43] false)
 (.seq (.reg [oM 44 6,
 oM 45 3,
 oM 46 5,
 o 47 (.slice 6 (.t 45) (some (.t 46)) none none),
 oJ 48 6 96 44 47,
 oM 6 48] false)
 (.reg [oM 49 6,
 oM 3 49] false))))))))
 (.reg [oM 11 4,
 oA 12 11,
 oM 4 12] false))
def Ko_c : IR :=
 .seq (.reg [o 2 (.zero zL0)] false)
 (.seq (.reg [o 3 (.mov (.c (.ns 6)))] false)
 (.seq (.seq (.reg [o 4 (.mov (.c zI))] false)
 (.block 0 (.loop Qdw Q10m)))
 (.seq (.reg [oM 50 3,
 o 51 (.build zL0 [(0, 1, .c (.int .i64 5)), (4, 1, .t 50)]),
 oS 5 2 51] false)
 (.ret))))
def Ko : IFn := ⟨1, 52, [.cell 2 5 true], false, Ko_c⟩
def Qdy : List Nat := [100016, 0, 2, 3, 4]
def Q10o : IR :=
 .seq (.seq (.reg [oM 5 4,
 oM 6 0,
 oN 7 6,
 o 8 (.bin .lss (.t 5) (.t 7))] false)
 (.cond (.t 8) (.skip)
 (.exit 0)))
 (.seq (.block 1 (.reg [oM 11 3,
 oM 12 0,
 oM 13 4,
 ob 14 (.iaddr 3 (.t 12) (.t 13)) [1, 2],
 ob 15 (.faddr 0 (.t 14)) [1, 2, 3],
 oE 16 1 15 [1, 2, 3, 4],
 oD 17 53 ([.t 16]) (rg 1 6),
 ob 18 (.build zL1 [(0, 1, sA7), (1, 5, .t 17)]) (rg 1 7),
 oM 19 0,
 oM 20 4,
 ob 21 (.iaddr 3 (.t 19) (.t 20)) [8, 9],
 ob 22 (.faddr 1 (.t 21)) [8, 9, 10],
 oE 23 1 22 [8, 9, 10, 11],
 oD 24 54 ([.t 23]) (rg 1 7 ++ rg 8 13),
 ob 25 (.build zL1 [(0, 1, sA12), (1, 5, .t 24)]) (rg 1 7 ++ rg 8 14),
 oM 26 0,
 oM 27 4,
 ob 28 (.iaddr 3 (.t 26) (.t 27)) [15, 16],
 ob 29 (.faddr 2 (.t 28)) [15, 16, 17],
 oE 30 1 29 [15, 16, 17, 18],
 oD 31 84 ([.t 30]) (rg 1 7 ++ rg 8 14 ++ rg 15 20),
 ob 32 (.build zL1 [(0, 1, sA19), (1, 5, .t 31)]) (rg 1 7 ++ rg 8 14 ++ rg 15 21),
 ob 33 (.lit 6 3 zL1 [(0, .t 18), (1, .t 25), (2, .t 32)]) (rg 1 22),
 oD 34 50 ([.t 33]) (rg 1 23),
 ob 35 (.lit 5 1 zL0 [(0, .t 34)]) (rg 1 24),
 ob 36 (.append 5 80 (.t 11) (.t 35)) (rg 0 25),
 ob 3 (.mov (.t 36)) (rg 0 26)] true))
 (.reg [oM 9 4,
 oA 10 9,
 oM 4 10] false))
def Ks_c : IR :=
 .seq (.reg [o 2 (.zero zL0)] false)
 (.seq (.reg [o 3 (.mov (.c (.ns 5)))] false)
 (.seq (.seq (.reg [o 4 (.mov (.c zI))] false)
 (.block 0 (.loop Qdy Q10o)))
 (.seq (.reg [oM 37 3,
 o 38 (.build zL0 [(0, 1, .c (.int .i64 4)), (3, 1, .t 37)]),
 oS 5 2 38] false)
 (.ret))))
def Ks : IFn := ⟨1, 39, [.cell 2 5 true], false, Ks_c⟩
def Qdu : List Nat := [100017, 0, 2, 3, 4]
def Q10k : IR :=
 .seq (.seq (.reg [oM 5 4,
 oM 6 0,
 oN 7 6,
 o 8 (.bin .lss (.t 5) (.t 7))] false)
 (.cond (.t 8) (.skip)
 (.exit 0)))
 (.seq (.block 1 (.reg [oM 11 3,
 oM 12 0,
 oM 13 4,
 oI 14 2 12 13,
 oL 15 2 14,
 oC 16 85 ([.t 15]),
 o 17 (.lit 5 1 zL0 [(0, .t 16)]),
 oJ 18 5 80 11 17,
 oM 3 18] false))
 (.reg [oM 9 4,
 oA 10 9,
 oM 4 10] false))
def Kj_c : IR :=
 .seq (.reg [o 2 (.zero zL0)] false)
 (.seq (.reg [o 3 (.mov (.c (.ns 5)))] false)
 (.seq (.seq (.reg [o 4 (.mov (.c zI))] false)
 (.block 0 (.loop Qdu Q10k)))
 (.seq (.reg [oM 19 3,
 o 20 (.build zL0 [(0, 1, .c (.int .i64 4)), (3, 1, .t 19)]),
 oS 5 2 20] false)
 (.ret))))
def Kj : IFn := ⟨1, 21, [.cell 2 5 true], false, Kj_c⟩
def Kt_c : IR :=
 .seq (.reg [o 2 (.zero zL0)] false)
 (.seq (.reg [oM 3 0,
 o 4 (.build zL0 [(0, 1, .c (.int .i64 3)), (2, 1, .t 3)]),
 oS 5 2 4] false)
 (.ret))
def Kt : IFn := ⟨1, 5, [.cell 2 5 true], false, Kt_c⟩
def Kn_c : IR :=
 .seq (.reg [o 2 (.zero zL0)] false)
 (.seq (.reg [oM 3 0,
 o 4 (.build zL0 [(0, 1, .c (.int .i64 2)), (1, 1, .t 3)]),
 oS 5 2 4] false)
 (.ret))
def Kn : IFn := ⟨1, 5, [.cell 2 5 true], false, Kn_c⟩
def Kr_c : IR :=
 .seq (.reg [o 1 (.box 3 (.t 0)),
 o 2 (.zero zL0)] false)
 (.seq (.reg [oF 3 0 1,
 oE 4 1 3 [0],
 oD 5 54 ([.t 4]) [0, 1],
 ob 6 (.build zL1 [(0, 1, sA25), (1, 5, .t 5)]) [0, 1, 2],
 oF 7 1 1,
 oE 8 1 7 [4],
 oD 9 54 ([.t 8]) [0, 1, 2, 4, 5],
 ob 10 (.build zL1 [(0, 1, sA8), (1, 5, .t 9)]) [0, 1, 2, 4, 5, 6],
 oF 11 2 1,
 oE 12 1 11 [8],
 oD 13 54 ([.t 12]) [0, 1, 2, 4, 5, 6, 8, 9],
 ob 14 (.build zL1 [(0, 1, sA1), (1, 5, .t 13)]) [0, 1, 2, 4, 5, 6, 8, 9, 10],
 ob 15 (.lit 6 3 zL1 [(0, .t 6), (1, .t 10), (2, .t 14)]) (rg 0 12),
 oD 16 50 ([.t 15]) (rg 0 13),
 ⟨none, none, .store 5 (.t 2) (.t 16), (rg 0 14)⟩] true)
 (.ret))
def Kr : IFn := ⟨1, 17, [.cell 2 5 true], false, Kr_c⟩
def Qdp : List Nat := [100019, 1, 2, 3, 8]
def Q10f : IR :=
 .seq (.seq (.reg [oM 43 8,
 oF 44 4 3,
 oK 45 1 44,
 oN 46 45,
 o 47 (.bin .lss (.t 43) (.t 46)),
 oM 48 47,
 gT 49 48 (.mov (.t 1)),
 gT 50 48 (.bin .geq (.t 49) (.c zI)),
 oP 51 48 50] false)
 (.cond (.t 51) (.skip)
 (.exit 2)))
 (.seq (.block 3 (.seq (.seq (.reg [oF 54 4 3,
 oK 55 1 54,
 oM 56 8,
 oI 57 6 55 56,
 oF 58 0 57,
 oK 59 1 58,
 o 60 (.len true (.t 59)),
 o 61 (.bin .gtr (.t 60) (.c (.int .i64 1000)))] false)
 (.cond (.t 61) (.seq (.reg [o 6 (.mov (.c (.int .i64 (-1))))] false)
 (.ret))
 (.skip)))
 (.reg [oF 62 4 3,
 oK 63 1 62,
 oM 64 8,
 oI 65 6 63 64,
 oF 66 1 65,
 oL 67 5 66,
 oM 68 1,
 oM 69 2,
 o 70 (.bin .sub (.t 69) (.c (.int .i64 1))),
 oC 71 56 ([.t 67, .t 68, .t 70]),
 oM 1 71] false)))
 (.reg [oM 52 8,
 oA 53 52,
 oM 8 53] false))
def Qdo : List Nat := [100018, 1, 2, 3, 7]
def Q10e : IR :=
 .seq (.seq (.reg [oM 23 7,
 oF 24 3 3,
 oK 25 1 24,
 oN 26 25,
 o 27 (.bin .lss (.t 23) (.t 26)),
 oM 28 27,
 gT 29 28 (.mov (.t 1)),
 gT 30 28 (.bin .geq (.t 29) (.c zI)),
 oP 31 28 30] false)
 (.cond (.t 31) (.skip)
 (.exit 0)))
 (.seq (.block 1 (.reg [oF 34 3 3,
 oK 35 1 34,
 oM 36 7,
 oI 37 5 35 36,
 oL 38 5 37,
 oM 39 1,
 oM 40 2,
 o 41 (.bin .sub (.t 40) (.c (.int .i64 1))),
 oC 42 56 ([.t 38, .t 39, .t 41]),
 oM 1 42] false))
 (.reg [oM 32 7,
 oA 33 32,
 oM 7 33] false))
def Ka_c : IR :=
 .seq (.reg [o 3 (.box 5 (.t 0)),
 o 6 (.mov (.c zI))] false)
 (.seq (.seq (.reg [oM 9 1,
 o 10 (.bin .leq (.t 9) (.c zI)),
 oM 11 10,
 gF 12 11 (.mov (.t 2)),
 gF 13 11 (.bin .leq (.t 12) (.c zI)),
 oQ 14 11 13,
 oM 15 14,
 gF 16 15 (.faddr 2 (.t 3)),
 gF 17 15 (.load 1 false (.t 16)),
 gF 18 15 (.len true (.t 17)),
 gF 19 15 (.bin .gtr (.t 18) (.c (.int .i64 1000))),
 oQ 20 15 19] false)
 (.cond (.t 20) (.seq (.reg [o 6 (.mov (.c (.int .i64 (-1))))] false)
 (.ret))
 (.skip)))
 (.seq (.reg [oM 21 1,
 o 22 (.bin .sub (.t 21) (.c (.int .i64 1))),
 oM 1 22] false)
 (.seq (.seq (.reg [o 7 (.mov (.c zI))] false)
 (.block 0 (.loop Qdo Q10e)))
 (.seq (.seq (.reg [o 8 (.mov (.c zI))] false)
 (.block 2 (.loop Qdp Q10f)))
 (.seq (.reg [oM 72 1,
 oM 6 72] false)
 (.ret))))))
def Ka : IFn := ⟨3, 73, [.tmp 6], false, Ka_c⟩
def Qqu : List Nat := [100021, 1, 2, 3, 5]
def Q14w : IR :=
 .seq (.seq (.reg [oM 31 5,
 oF 32 4 1,
 oK 33 1 32,
 oN 34 33,
 o 35 (.bin .lss (.t 31) (.t 34))] false)
 (.cond (.t 35) (.skip)
 (.exit 2)))
 (.seq (.block 3 (.reg [oF 38 4 3,
 oE 39 1 38 [0],
 oF 40 4 1,
 oE 41 1 40 [2],
 oM 42 5,
 ob 43 (.iaddr 6 (.t 41) (.t 42)) [2, 3, 4],
 ob 44 (.faddr 0 (.t 43)) [2, 3, 4, 5],
 oE 45 1 44 (rg 2 7),
 oF 46 4 1,
 oE 47 1 46 [8],
 oM 48 5,
 ob 49 (.iaddr 6 (.t 47) (.t 48)) [8, 9, 10],
 ob 50 (.faddr 1 (.t 49)) [8, 9, 10, 11],
 ob 51 (.load 5 true (.t 50)) (rg 8 13),
 oD 52 57 ([.t 51]) (rg 8 14),
 ob 53 (.build zL1 [(0, 1, .t 45), (1, 5, .t 52)]) (rg 2 15),
 ob 54 (.lit 6 1 zL1 [(0, .t 53)]) (rg 2 16),
 ob 55 (.append 6 96 (.t 39) (.t 54)) (rg 0 17),
 ob 56 (.faddr 4 (.t 3)) (rg 0 18),
 ⟨none, none, .store 1 (.t 56) (.t 55), (rg 0 19)⟩] true))
 (.reg [oM 36 5,
 oA 37 36,
 oM 5 37] false))
def Qqt : List Nat := [100020, 1, 2, 3, 4]
def Q14v : IR :=
 .seq (.seq (.reg [oM 13 4,
 oF 14 3 1,
 oK 15 1 14,
 oN 16 15,
 o 17 (.bin .lss (.t 13) (.t 16))] false)
 (.cond (.t 17) (.skip)
 (.exit 0)))
 (.seq (.block 1 (.reg [oF 20 3 3,
 oE 21 1 20 [0],
 oF 22 3 1,
 oE 23 1 22 [2],
 oM 24 4,
 ob 25 (.iaddr 5 (.t 23) (.t 24)) [2, 3, 4],
 ob 26 (.load 5 true (.t 25)) [2, 3, 4, 5],
 oD 27 57 ([.t 26]) (rg 2 7),
 ob 28 (.lit 5 1 zL0 [(0, .t 27)]) (rg 2 8),
 ob 29 (.append 5 80 (.t 21) (.t 28)) (rg 0 9),
 ob 30 (.faddr 3 (.t 3)) (rg 0 10),
 ⟨none, none, .store 1 (.t 30) (.t 29), (rg 0 11)⟩] true))
 (.reg [oM 18 4,
 oA 19 18,
 oM 4 19] false))
def K4_c : IR :=
 .seq (.reg [o 1 (.box 5 (.t 0)),
 o 2 (.zero zL0)] false)
 (.seq (.reg [oF 6 0 1,
 oK 7 1 6,
 oF 8 1 1,
 oK 9 1 8,
 oF 10 2 1,
 oK 11 1 10,
 o 12 (.build zL0 [(0, 1, .t 7), (1, 1, .t 9), (2, 1, .t 11)]),
 o 3 (.zero zL0),
 oS 5 3 12] false)
 (.seq (.seq (.reg [o 4 (.mov (.c zI))] false)
 (.block 0 (.loop Qqt Q14v)))
 (.seq (.seq (.reg [o 5 (.mov (.c zI))] false)
 (.block 2 (.loop Qqu Q14w)))
 (.seq (.reg [oL 57 5 3,
 oS 5 2 57] false)
 (.ret)))))
def K4 : IFn := ⟨1, 58, [.cell 2 5 true], false, K4_c⟩
def Qqx : List Nat := [100022, 0, 3, 5, 6, 7]
def Q14z : IR :=
 .seq (.seq (.reg [oM 8 7,
 oM 9 0,
 oN 10 9,
 o 11 (.bin .lss (.t 8) (.t 10))] false)
 (.cond (.t 11) (.skip)
 (.exit 0)))
 (.seq (.block 1 (.seq (.seq (.reg [oM 14 6,
 ob 15 (.un .not (.t 14)) [0],
 ob 16 (.mov (.t 15)) [0, 1],
 ⟨(some 17), (some (16, true)), .faddr 0 (.t 3), [0, 1, 2]⟩,
 ⟨(some 18), (some (16, true)), .load 1 false (.t 17), [0, 1, 2, 3]⟩,
 ⟨(some 19), (some (16, true)), .mov (.t 0), [0, 1, 2]⟩,
 ⟨(some 20), (some (16, true)), .mov (.t 7), [0, 1, 2]⟩,
 ⟨(some 21), (some (16, true)), .iaddr 6 (.t 19) (.t 20), [0, 1, 2, 5, 6]⟩,
 ⟨(some 22), (some (16, true)), .faddr 0 (.t 21), [0, 1, 2, 5, 6, 7]⟩,
 ⟨(some 23), (some (16, true)), .load 1 false (.t 22), ([0, 1, 2] ++ rg 5 9)⟩,
 ⟨(some 24), (some (16, true)), .bin .leq (.t 18) (.t 23), (rg 0 10)⟩,
 ob 25 (.pick (.t 16) (.t 24) (.c zB)) (rg 0 11)] true)
 (.cond (.t 25) (.seq (.reg [oM 26 5,
 oL 27 6 3,
 o 28 (.lit 6 1 zL1 [(0, .t 27)]),
 oJ 29 6 96 26 28,
 oM 5 29] false)
 (.reg [o 6 (.mov (.c (.bool true)))] false))
 (.skip)))
 (.seq (.reg [oM 30 0,
 oM 31 7,
 ob 32 (.iaddr 6 (.t 30) (.t 31)) [0, 1],
 ob 33 (.faddr 0 (.t 32)) [0, 1, 2],
 oE 34 1 33 [0, 1, 2, 3],
 oF 35 0 3,
 oE 36 1 35 [5],
 ob 37 (.bin .neq (.t 34) (.t 36)) (rg 0 7)] true)
 (.cond (.t 37) (.reg [oM 38 5,
 oM 39 0,
 oM 40 7,
 oI 41 6 39 40,
 oL 42 6 41,
 o 43 (.lit 6 1 zL1 [(0, .t 42)]),
 oJ 44 6 96 38 43,
 oM 5 44] false)
 (.skip)))))
 (.reg [oM 12 7,
 oA 13 12,
 oM 7 13] false))
def Kc_c : IR :=
 .seq (.reg [o 3 (.box 6 (.t 1)),
 o 4 (.mov (.c (.ns 6)))] false)
 (.seq (.reg [o 5 (.mov (.c (.ns 6)))] false)
 (.seq (.reg [o 6 (.mov (.c zB))] false)
 (.seq (.seq (.reg [o 7 (.mov (.c zI))] false)
 (.block 0 (.loop Qqx Q14z)))
 (.seq (.seq (.reg [oM 45 6,
 oU 46 45] false)
 (.cond (.t 46) (.reg [oM 47 5,
 oL 48 6 3,
 o 49 (.lit 6 1 zL1 [(0, .t 48)]),
 oJ 50 6 96 47 49,
 oM 5 50] false)
 (.skip)))
 (.seq (.reg [oM 51 5,
 oM 4 51] false)
 (.ret))))))
def Kc : IFn := ⟨2, 52, [.tmp 4], false, Kc_c⟩
def Q14r : IR :=
 .seq (.reg [o 3 (.box 17 (.t 1)),
 o 4 (.zero zL5),
 o 5 (.mov (.c zI))] false)
 (.seq (.seq (.reg [oM 7 0,
 o 8 (.nilck (.t 7)),
 oF 9 0 8,
 oK 10 1 9,
 o 11 (.bin .gtr (.t 10) (.c zI))] false)
 (.cond (.t 11) (.seq (.reg [o 6 (.zero zL5)] false)
 (.seq (.reg [oL 12 17 6,
 oS 17 4 12,
 o 5 (.mov (.c (.int .i64 6)))] false)
 (.ret)))
 (.skip)))
 (.seq (.reg [oL 13 17 3,
 oS 17 4 13,
 o 5 (.mov (.c zI))] false)
 (.ret)))
def K2d : IFn := ⟨2, 14, [.cell 4 17 true, .tmp 5], false, Q14r⟩
def Q140 : IR :=
 .seq (.reg [o 2 (.box 1 (.t 0)),
 o 3 (.box 5 (.t 1)),
 o 4 (.mov (.c (.ns 3)))] false)
 (.seq (.reg [oK 5 1 2,
 oL 6 5 3,
 o 7 (.mkfn 87 [] [.t 2]),
 oC 8 86 ([.t 5, .t 6, .c (.str ⟨#[112, 111, 114, 116, 115]⟩), .t 7]),
 oM 4 8] false)
 (.ret))
def K1m : IFn := ⟨2, 9, [.tmp 4], false, Q140⟩
def Q147 : IR :=
 .seq (.reg [o 4 (.box 5 (.t 1)),
 o 6 (.mov (.c zB))] false)
 (.seq (.reg [oM 7 0,
 oM 8 0,
 oL 9 5 4,
 oM 10 2,
 oC 11 46 ([.t 8, .t 9, .t 10]),
 oC 12 62 ([.t 7, .t 11, .c (.int .i64 1)]),
 o 13 (.field 1 1 false (.t 12)),
 o 14 (.bin .neq (.t 13) (.c zI)),
 oM 6 14] false)
 (.ret))
def K1t : IFn := ⟨3, 15, [.tmp 6], false, Q147⟩
def Q13x : IR :=
 .seq (.reg [o 4 (.box 5 (.t 1)),
 o 6 (.zero zL0)] false)
 (.seq (.seq (.reg [oF 7 0 4,
 oK 8 1 7,
 oM 9 2,
 o 10 (.bin .eql (.t 8) (.t 9))] false)
 (.cond (.t 10) (.seq (.reg [oL 11 5 4,
 oS 5 6 11] false)
 (.ret))
 (.skip)))
 (.seq (.seq (.reg [oF 12 0 4,
 oK 13 1 12,
 o 14 (.bin .neq (.t 13) (.c zI))] false)
 (.cond (.t 14) (.reg [oM 15 0,
 o 16 (.nilck (.t 15)),
 oF 17 0 16,
 oK 18 1 17,
 oA 19 18,
 o 20 (.nilck (.t 15)),
 oF 21 0 20,
 oS 1 21 19] false)
 (.skip)))
 (.seq (.reg [o 22 (.build zL0 []),
 oS 5 6 22] false)
 (.ret))))
def K1j : IFn := ⟨3, 23, [.cell 6 5 true], false, Q13x⟩
def Qbc : List Nat := [100023, 3, 9, 18, 19, 20]
def Qye : IR :=
 .seq (.reg [o 21 (.bin .lss (.t 20) (.t 19))] false)
 (.seq (.cond (.t 21) (.skip)
 (.exit 0))
 (.seq (.block 1 (.seq (.reg [oI 22 5 18 20,
 oL 23 5 22,
 o 11 (.zero zL0),
 oS 5 11 23] false)
 (.reg [oM 24 9,
 oM 25 3,
 oL 26 5 11,
 o 27 (.call false (.t 25) [.t 26]),
 o 28 (.lit 3 1 [zS, zI, .ns 1] [(0, .t 27)]),
 oJ 29 3 48 24 28,
 oM 9 29] false)))
 (.reg [oA 30 20,
 oM 20 30] false)))
def Q14a : IR :=
 .seq (.reg [o 5 (.box 5 (.t 1)),
 o 8 (.mov (.c (.ns 3)))] false)
 (.seq (.reg [o 9 (.mov (.c (.ns 3)))] false)
 (.seq (.seq (.reg [oM 12 0,
 oM 13 0,
 oL 14 5 5,
 oM 15 2,
 oC 16 46 ([.t 13, .t 14, .t 15]),
 oC 17 62 ([.t 12, .t 16, .c (.int .i64 4)]),
 o 18 (.field 3 1 false (.t 17)),
 oN 19 18,
 o 20 (.mov (.c zI))] false)
 (.block 0 (.loop Qbc Qye)))
 (.seq (.reg [oM 31 9,
 oM 8 31] false)
 (.ret))))
def K1w : IFn := ⟨4, 32, [.tmp 8], false, Q14a⟩
def Q144 : IR :=
 .seq (.reg [o 2 (.box 5 (.t 0)),
 o 3 (.zero [zS, zI, .ns 1])] false)
 (.seq (.reg [oK 5 1 1,
 oL 6 5 2,
 o 7 (.mkfn 70 [] [.t 1]),
 oC 8 69 ([.t 5, .t 6, sA19, .t 7]),
 oM 4 8] false)
 (.seq (.reg [oK 9 1 1,
 oL 10 5 2,
 oC 11 62 ([.t 9, .t 10, .c (.int .i64 5)])] false)
 (.seq (.reg [oK 12 1 1,
 oL 13 5 2,
 oD 14 26 ([.t 12, .t 13, sA7]) [0, 1],
 oK 15 1 1,
 oL 16 5 2,
 oD 17 27 ([.t 15, .t 16, sA12]) (rg 0 5),
 oM 18 4,
 ob 19 (.build [zS, zI, .ns 1] [(0, 1, .t 14), (1, 1, .t 17), (2, 1, .t 18)]) (rg 0 7),
 ⟨none, none, .store 3 (.t 3) (.t 19), (rg 0 8)⟩] true)
 (.ret))))
def K1q : IFn := ⟨2, 20, [.cell 3 3 true], false, Q144⟩
def Qbd : List Nat := [100024, 3, 9, 18, 19, 20]
def Qyf : IR :=
 .seq (.reg [o 21 (.bin .lss (.t 20) (.t 19))] false)
 (.seq (.cond (.t 21) (.skip)
 (.exit 0))
 (.seq (.block 1 (.seq (.reg [oI 22 5 18 20,
 oL 23 5 22,
 o 11 (.zero zL0),
 oS 5 11 23] false)
 (.reg [oM 24 9,
 oM 25 3,
 oL 26 5 11,
 o 27 (.call false (.t 25) [.t 26]),
 o 28 (.lit 1 1 [zS] [(0, .t 27)]),
 oJ 29 1 16 24 28,
 oM 9 29] false)))
 (.reg [oA 30 20,
 oM 20 30] false)))
def Q14b : IR :=
 .seq (.reg [o 5 (.box 5 (.t 1)),
 o 8 (.mov (.c (.ns 1)))] false)
 (.seq (.reg [o 9 (.mov (.c (.ns 1)))] false)
 (.seq (.seq (.reg [oM 12 0,
 oM 13 0,
 oL 14 5 5,
 oM 15 2,
 oC 16 46 ([.t 13, .t 14, .t 15]),
 oC 17 62 ([.t 12, .t 16, .c (.int .i64 4)]),
 o 18 (.field 3 1 false (.t 17)),
 oN 19 18,
 o 20 (.mov (.c zI))] false)
 (.block 0 (.loop Qbd Qyf)))
 (.seq (.reg [oM 31 9,
 oM 8 31] false)
 (.ret))))
def K1x : IFn := ⟨4, 32, [.tmp 8], false, Q14b⟩
def Q145 : IR :=
 .seq (.reg [o 2 (.box 5 (.t 0)),
 o 3 (.mov (.c (zS)))] false)
 (.seq (.reg [oK 4 1 1,
 oL 5 5 2,
 oC 6 62 ([.t 4, .t 5, .c (.int .i64 3)]),
 o 7 (.field 2 1 false (.t 6)),
 oM 3 7] false)
 (.ret))
def K1r : IFn := ⟨2, 8, [.tmp 3], false, Q145⟩
def Ky_c : IR :=
 .reg [oM 4 0,
 oM 5 0,
 oN 6 5,
 oM 7 1,
 o 8 (.call true (.f 88) [.t 4, .t 6, .t 7])] false
def Ky : IFn := ⟨2, 9, [], false, Ky_c⟩
def Q13k : IR :=
 .seq (.reg [o 2 (.box 6 (.t 0)),
 o 3 (.box 6 (.t 1)),
 o 4 (.mov (.c zI))] false)
 (.seq (.reg [oF 5 0 2,
 oK 6 1 5,
 oF 7 0 3,
 oK 8 1 7,
 oC 9 74 ([.t 6, .t 8]),
 oM 4 9] false)
 (.ret))
def K16 : IFn := ⟨2, 10, [.tmp 4], false, Q13k⟩
def Q13f : IR :=
 .seq (.reg [o 4 (.mov (.c zI))] false)
 (.seq (.reg [oM 5 0,
 oM 6 1,
 oC 7 89 ([.t 5, .t 6]),
 oM 4 7] false)
 (.ret))
def K11 : IFn := ⟨2, 8, [.tmp 4], false, Q13f⟩
def Qb8 : List Nat := [100026, 1, 2, 31, 32, 33]
def Qya : IR :=
 .seq (.reg [o 34 (.bin .lss (.t 33) (.t 32))] false)
 (.seq (.cond (.t 34) (.skip)
 (.exit 2))
 (.seq (.block 3 (.seq (.reg [oM 35 33,
 oI 36 6 31 33,
 oL 37 6 36,
 o 6 (.zero zL1),
 oM 5 35,
 oS 6 6 37] false)
 (.reg [oF 38 4 1,
 oE 39 1 38 [0],
 oM 40 5,
 oF 41 1 6,
 ob 42 (.load 5 true (.t 41)) [3],
 oD 43 75 ([.t 42]) [3, 4],
 ob 44 (.iaddr 6 (.t 39) (.t 40)) (rg 0 6),
 ob 45 (.faddr 1 (.t 44)) (rg 0 7),
 ⟨none, none, .store 5 (.t 45) (.t 43), (rg 0 8)⟩] true)))
 (.reg [oA 46 33,
 oM 33 46] false)))
def Qb7 : List Nat := [100025, 1, 2, 12, 13, 14]
def Qy9 : IR :=
 .seq (.reg [o 15 (.bin .lss (.t 14) (.t 13))] false)
 (.seq (.cond (.t 15) (.skip)
 (.exit 0))
 (.seq (.block 1 (.seq (.reg [oM 16 14,
 oI 17 5 12 14,
 oL 18 5 17,
 o 4 (.zero zL0),
 oM 3 16,
 oS 5 4 18] false)
 (.reg [oF 19 3 1,
 oE 20 1 19 [0],
 oM 21 3,
 oL 22 5 4,
 oD 23 75 ([.t 22]) [3],
 ob 24 (.iaddr 5 (.t 20) (.t 21)) (rg 0 5),
 ⟨none, none, .store 5 (.t 24) (.t 23), (rg 0 6)⟩] true)))
 (.reg [oA 25 14,
 oM 14 25] false)))
def Q13m : IR :=
 .seq (.reg [o 1 (.box 5 (.t 0)),
 o 2 (.zero zL0)] false)
 (.seq (.reg [oF 7 3 1,
 oK 8 1 7,
 oC 9 90 ([.t 8]),
 oF 10 3 1,
 oS 1 10 9] false)
 (.seq (.seq (.reg [oF 11 3 1,
 oK 12 1 11,
 oN 13 12,
 o 14 (.mov (.c zI))] false)
 (.block 0 (.loop Qb7 Qy9)))
 (.seq (.reg [oF 26 4 1,
 oK 27 1 26,
 oC 28 71 ([.t 27]),
 oF 29 4 1,
 oS 1 29 28] false)
 (.seq (.seq (.reg [oF 30 4 1,
 oK 31 1 30,
 oN 32 31,
 o 33 (.mov (.c zI))] false)
 (.block 2 (.loop Qb8 Qya)))
 (.seq (.reg [oL 47 5 1,
 oS 5 2 47] false)
 (.ret))))))
def K18 : IFn := ⟨1, 48, [.cell 2 5 true], false, Q13m⟩
def Q14f : IR :=
 .seq (.reg [o 2 (.zero zL0)] false)
 (.seq (.reg [oM 3 0,
 oC 4 91 ([.t 3, .f 92]),
 oS 5 2 4] false)
 (.ret))
def K21 : IFn := ⟨1, 5, [.cell 2 5 true], false, Q14f⟩
def Q14u : IR :=
 .seq (.reg [o 4 (.zero zL1)] false)
 (.seq (.reg [oM 5 0,
 oM 6 1,
 oC 7 94 ([.t 6]),
 oC 8 36 ([.t 5, .t 7]),
 oS 6 4 8] false)
 (.ret))
def K2g : IFn := ⟨2, 9, [.cell 4 6 true], false, Q14u⟩
def Q13l : IR :=
 .seq (.reg [o 2 (.zero zL0)] false)
 (.seq (.reg [oM 3 0,
 o 4 (.build zL0 [(0, 1, .c (.int .i64 3)), (2, 1, .t 3)]),
 oS 5 2 4] false)
 (.ret))
def K17 : IFn := ⟨1, 5, [.cell 2 5 true], false, Q13l⟩
def Q13i : IR :=
 .seq (.reg [o 2 (.zero zL0)] false)
 (.seq (.reg [oM 3 0,
 o 4 (.build zL0 [(0, 1, .c (.int .i64 2)), (1, 1, .t 3)]),
 oS 5 2 4] false)
 (.ret))
def K14 : IFn := ⟨1, 5, [.cell 2 5 true], false, Q13i⟩
def Qb5 : List Nat := [100027, 1, 4, 12, 13, 14]
def Qy7 : IR :=
 .seq (.reg [o 15 (.bin .lss (.t 14) (.t 13))] false)
 (.seq (.cond (.t 15) (.skip)
 (.exit 0))
 (.seq (.block 1 (.seq (.reg [oI 16 6 12 14,
 oL 17 6 16,
 o 7 (.zero zL1),
 oS 6 7 17] false)
 (.seq (.reg [oF 18 0 7,
 oK 19 1 18,
 oM 20 1,
 o 21 (.bin .eql (.t 19) (.t 20))] false)
 (.cond (.t 21) (.seq (.reg [oF 22 1 7,
 oL 23 5 22,
 oC 24 75 ([.t 23]),
 oS 5 4 24,
 o 5 (.mov (.c (.bool true)))] false)
 (.ret))
 (.skip)))))
 (.reg [oA 25 14,
 oM 14 25] false)))
def Q13h : IR :=
 .seq (.reg [o 2 (.box 5 (.t 0)),
 o 4 (.zero zL0),
 o 5 (.mov (.c zB))] false)
 (.seq (.seq (.reg [oF 8 0 2,
 oK 9 1 8,
 o 10 (.bin .eql (.t 9) (.c (.int .i64 5)))] false)
 (.cond (.t 10) (.seq (.reg [oF 11 4 2,
 oK 12 1 11,
 oN 13 12,
 o 14 (.mov (.c zI))] false)
 (.block 0 (.loop Qb5 Qy7)))
 (.skip)))
 (.seq (.reg [o 26 (.build zL0 []),
 oS 5 4 26,
 o 5 (.mov (.c zB))] false)
 (.ret)))
def K13 : IFn := ⟨2, 27, [.cell 4 5 true, .tmp 5], false, Q13h⟩
def Kf_c : IR :=
 .seq (.reg [o 1 (.box 13 (.t 0)),
 o 2 (.mov (.c (zS)))] false)
 (.seq (.reg [oF 3 0 1,
 oK 4 1 3,
 oF 5 1 1,
 oK 6 1 5,
 oF 7 2 1,
 oK 8 1 7,
 oC 9 95 ([.t 4, .t 6, .t 8]),
 oM 2 9] false)
 (.ret))
def Kf : IFn := ⟨1, 10, [.tmp 2], false, Kf_c⟩
def Qdt : List Nat := [100028, 0, 1, 5]
def Q10j : IR :=
 .seq (.seq (.reg [oM 11 5,
 oM 12 0,
 oN 13 12,
 o 14 (.bin .lss (.t 11) (.t 13))] false)
 (.cond (.t 14) (.skip)
 (.exit 0)))
 (.seq (.block 1 (.seq (.reg [oM 17 0,
 oM 18 5,
 ob 19 (.iaddr 1 (.t 17) (.t 18)) [0, 1],
 oE 20 1 19 [0, 1, 2],
 oM 21 1,
 oM 22 5,
 ob 23 (.iaddr 1 (.t 21) (.t 22)) [4, 5],
 oE 24 1 23 [4, 5, 6],
 ob 25 (.bin .neq (.t 20) (.t 24)) (rg 0 8)] true)
 (.cond (.t 25) (.seq (.reg [o 4 (.mov (.c zB))] false)
 (.ret))
 (.skip))))
 (.reg [oM 15 5,
 oA 16 15,
 oM 5 16] false))
def Kh_c : IR :=
 .seq (.reg [o 4 (.mov (.c zB))] false)
 (.seq (.seq (.reg [oM 6 0,
 oN 7 6,
 oM 8 1,
 oN 9 8,
 o 10 (.bin .neq (.t 7) (.t 9))] false)
 (.cond (.t 10) (.seq (.reg [o 4 (.mov (.c zB))] false)
 (.ret))
 (.skip)))
 (.seq (.seq (.reg [o 5 (.mov (.c zI))] false)
 (.block 0 (.loop Qdt Q10j)))
 (.seq (.reg [o 4 (.mov (.c (.bool true)))] false)
 (.ret))))
def Kh : IFn := ⟨2, 26, [.tmp 4], false, Kh_c⟩
def Qdn : List Nat := [100030, 2, 3, 5, 7]
def Q10d : IR :=
 .seq (.seq (.reg [oM 91 7,
 oF 92 4 2,
 oK 93 1 92,
 oN 94 93,
 o 95 (.bin .lss (.t 91) (.t 94)),
 oM 96 95,
 gT 97 96 (.mov (.t 7)),
 gT 98 96 (.faddr 4 (.t 3)),
 gT 99 96 (.load 1 false (.t 98)),
 gT 100 96 (.len false (.t 99)),
 gT 101 96 (.bin .lss (.t 97) (.t 100)),
 oP 102 96 101,
 oM 103 102,
 gT 104 103 (.mov (.t 5)),
 gT 105 103 (.bin .eql (.t 104) (.c zI)),
 oP 106 103 105] false)
 (.cond (.t 106) (.skip)
 (.exit 2)))
 (.seq (.block 3 (.seq (.reg [oF 109 4 2,
 oE 110 1 109 [0],
 oM 111 7,
 ob 112 (.iaddr 6 (.t 110) (.t 111)) [0, 1, 2],
 ob 113 (.faddr 0 (.t 112)) [0, 1, 2, 3],
 oE 114 1 113 (rg 0 5),
 oF 115 4 3,
 oE 116 1 115 [6],
 oM 117 7,
 ob 118 (.iaddr 6 (.t 116) (.t 117)) [6, 7, 8],
 ob 119 (.faddr 0 (.t 118)) [6, 7, 8, 9],
 oE 120 1 119 (rg 6 11),
 ob 121 (.bin .lss (.t 114) (.t 120)) (rg 0 12),
 oF 122 4 2,
 oE 123 1 122 [13],
 oM 124 7,
 ob 125 (.iaddr 6 (.t 123) (.t 124)) [13, 14, 15],
 ob 126 (.faddr 0 (.t 125)) [13, 14, 15, 16],
 oE 127 1 126 (rg 13 18),
 oF 128 4 3,
 oE 129 1 128 [19],
 oM 130 7,
 ob 131 (.iaddr 6 (.t 129) (.t 130)) [19, 20, 21],
 ob 132 (.faddr 0 (.t 131)) [19, 20, 21, 22],
 oE 133 1 132 (rg 19 24),
 ob 134 (.bin .gtr (.t 127) (.t 133)) (rg 13 25),
 oD 135 96 ([.t 121, .t 134]) (rg 0 26),
 ob 5 (.mov (.t 135)) (rg 0 27)] true)
 (.seq (.reg [oM 136 5,
 o 137 (.bin .eql (.t 136) (.c zI))] false)
 (.cond (.t 137) (.reg [oF 138 4 2,
 oE 139 1 138 [0],
 oM 140 7,
 ob 141 (.iaddr 6 (.t 139) (.t 140)) [0, 1, 2],
 ob 142 (.faddr 1 (.t 141)) [0, 1, 2, 3],
 ob 143 (.load 5 true (.t 142)) (rg 0 5),
 oF 144 4 3,
 oE 145 1 144 [6],
 oM 146 7,
 ob 147 (.iaddr 6 (.t 145) (.t 146)) [6, 7, 8],
 ob 148 (.faddr 1 (.t 147)) [6, 7, 8, 9],
 ob 149 (.load 5 true (.t 148)) (rg 6 11),
 oD 150 83 ([.t 143, .t 149]) (rg 0 12),
 ob 5 (.mov (.t 150)) (rg 0 13)] true)
 (.skip)))))
 (.reg [oM 107 7,
 oA 108 107,
 oM 7 108] false))
def Qdm : List Nat := [100029, 2, 3, 5, 6]
def Q10c : IR :=
 .seq (.seq (.reg [oM 45 6,
 oF 46 3 2,
 oK 47 1 46,
 oN 48 47,
 o 49 (.bin .lss (.t 45) (.t 48)),
 oM 50 49,
 gT 51 50 (.mov (.t 6)),
 gT 52 50 (.faddr 3 (.t 3)),
 gT 53 50 (.load 1 false (.t 52)),
 gT 54 50 (.len false (.t 53)),
 gT 55 50 (.bin .lss (.t 51) (.t 54)),
 oP 56 50 55,
 oM 57 56,
 gT 58 57 (.mov (.t 5)),
 gT 59 57 (.bin .eql (.t 58) (.c zI)),
 oP 60 57 59] false)
 (.cond (.t 60) (.skip)
 (.exit 0)))
 (.seq (.block 1 (.reg [oF 63 3 2,
 oE 64 1 63 [0],
 oM 65 6,
 ob 66 (.iaddr 5 (.t 64) (.t 65)) [0, 1, 2],
 ob 67 (.load 5 true (.t 66)) [0, 1, 2, 3],
 oF 68 3 3,
 oE 69 1 68 [5],
 oM 70 6,
 ob 71 (.iaddr 5 (.t 69) (.t 70)) [5, 6, 7],
 ob 72 (.load 5 true (.t 71)) [5, 6, 7, 8],
 oD 73 83 ([.t 67, .t 72]) (rg 0 10),
 ob 5 (.mov (.t 73)) (rg 0 11)] true))
 (.reg [oM 61 6,
 oA 62 61,
 oM 6 62] false))
def K3_c : IR :=
 .seq (.reg [o 2 (.box 5 (.t 0)),
 o 3 (.box 5 (.t 1)),
 o 4 (.mov (.c zI))] false)
 (.seq (.reg [oF 8 0 2,
 oK 9 1 8,
 oF 10 0 3,
 oK 11 1 10,
 o 12 (.bin .lss (.t 9) (.t 11)),
 oF 13 0 2,
 oK 14 1 13,
 oF 15 0 3,
 oK 16 1 15,
 o 17 (.bin .gtr (.t 14) (.t 16)),
 oC 18 96 ([.t 12, .t 17]),
 oM 5 18] false)
 (.seq (.seq (.reg [oM 19 5,
 o 20 (.bin .eql (.t 19) (.c zI))] false)
 (.cond (.t 20) (.reg [oF 21 1 2,
 oK 22 1 21,
 oF 23 1 3,
 oK 24 1 23,
 o 25 (.bin .lss (.t 22) (.t 24)),
 oF 26 1 2,
 oK 27 1 26,
 oF 28 1 3,
 oK 29 1 28,
 o 30 (.bin .gtr (.t 27) (.t 29)),
 oC 31 96 ([.t 25, .t 30]),
 oM 5 31] false)
 (.skip)))
 (.seq (.seq (.reg [oM 32 5,
 o 33 (.bin .eql (.t 32) (.c zI))] false)
 (.cond (.t 33) (.reg [oF 34 2 2,
 oK 35 1 34,
 oF 36 2 3,
 oK 37 1 36,
 o 38 (.bin .lss (.t 35) (.t 37)),
 oF 39 2 2,
 oK 40 1 39,
 oF 41 2 3,
 oK 42 1 41,
 o 43 (.bin .gtr (.t 40) (.t 42)),
 oC 44 96 ([.t 38, .t 43]),
 oM 5 44] false)
 (.skip)))
 (.seq (.seq (.reg [o 6 (.mov (.c zI))] false)
 (.block 0 (.loop Qdm Q10c)))
 (.seq (.seq (.reg [oM 74 5,
 o 75 (.bin .eql (.t 74) (.c zI))] false)
 (.cond (.t 75) (.reg [oF 76 3 2,
 oK 77 1 76,
 oN 78 77,
 oF 79 3 3,
 oK 80 1 79,
 oN 81 80,
 o 82 (.bin .lss (.t 78) (.t 81)),
 oF 83 3 2,
 oK 84 1 83,
 oN 85 84,
 oF 86 3 3,
 oK 87 1 86,
 oN 88 87,
 o 89 (.bin .gtr (.t 85) (.t 88)),
 oC 90 96 ([.t 82, .t 89]),
 oM 5 90] false)
 (.skip)))
 (.seq (.seq (.reg [o 7 (.mov (.c zI))] false)
 (.block 2 (.loop Qdn Q10d)))
 (.seq (.seq (.reg [oM 151 5,
 o 152 (.bin .eql (.t 151) (.c zI))] false)
 (.cond (.t 152) (.reg [oF 153 4 2,
 oK 154 1 153,
 oN 155 154,
 oF 156 4 3,
 oK 157 1 156,
 oN 158 157,
 o 159 (.bin .lss (.t 155) (.t 158)),
 oF 160 4 2,
 oK 161 1 160,
 oN 162 161,
 oF 163 4 3,
 oK 164 1 163,
 oN 165 164,
 o 166 (.bin .gtr (.t 162) (.t 165)),
 oC 167 96 ([.t 159, .t 166]),
 oM 5 167] false)
 (.skip)))
 (.seq (.reg [oM 168 5,
 oM 4 168] false)
 (.ret)))))))))
def K3 : IFn := ⟨2, 169, [.tmp 4], false, K3_c⟩
def Qdz : List Nat := [100031, 0, 2, 3, 4]
def Q10p : IR :=
 .seq (.seq (.reg [oM 5 4,
 oM 6 0,
 oN 7 6,
 o 8 (.bin .lss (.t 5) (.t 7))] false)
 (.cond (.t 8) (.skip)
 (.exit 0)))
 (.seq (.block 1 (.reg [oM 11 3,
 oM 12 0,
 oM 13 4,
 oI 14 1 12 13,
 oK 15 1 14,
 oC 16 53 ([.t 15]),
 o 17 (.lit 5 1 zL0 [(0, .t 16)]),
 oJ 18 5 80 11 17,
 oM 3 18] false))
 (.reg [oM 9 4,
 oA 10 9,
 oM 4 10] false))
def Ku_c : IR :=
 .seq (.reg [o 2 (.zero zL0)] false)
 (.seq (.reg [o 3 (.mov (.c (.ns 5)))] false)
 (.seq (.seq (.reg [o 4 (.mov (.c zI))] false)
 (.block 0 (.loop Qdz Q10p)))
 (.seq (.reg [oM 19 3,
 o 20 (.build zL0 [(0, 1, .c (.int .i64 4)), (3, 1, .t 19)]),
 oS 5 2 20] false)
 (.ret))))
def Ku : IFn := ⟨1, 21, [.cell 2 5 true], false, Ku_c⟩
def Ki_c : IR :=
 .seq (.reg [o 1 (.box 2 (.t 0)),
 o 2 (.zero zL0)] false)
 (.seq (.reg [oF 3 0 1,
 oE 4 1 3 [0],
 oD 5 97 ([.t 4]) [0, 1],
 ob 6 (.build zL1 [(0, 1, sA14), (1, 5, .t 5)]) [0, 1, 2],
 oF 7 1 1,
 oE 8 1 7 [4],
 oD 9 54 ([.t 8]) [0, 1, 2, 4, 5],
 ob 10 (.build zL1 [(0, 1, sA11), (1, 5, .t 9)]) [0, 1, 2, 4, 5, 6],
 ob 11 (.lit 6 2 zL1 [(0, .t 6), (1, .t 10)]) (rg 0 8),
 oD 12 50 ([.t 11]) (rg 0 9),
 ⟨none, none, .store 5 (.t 2) (.t 12), (rg 0 10)⟩] true)
 (.ret))
def Ki : IFn := ⟨1, 13, [.cell 2 5 true], false, Ki_c⟩
def Qmp : List Nat := [100032, 3, 9, 18, 19, 20]
def Q10a : IR :=
 .seq (.reg [o 21 (.bin .lss (.t 20) (.t 19))] false)
 (.seq (.cond (.t 21) (.skip)
 (.exit 0))
 (.seq (.block 1 (.seq (.reg [oI 22 5 18 20,
 oL 23 5 22,
 o 11 (.zero zL0),
 oS 5 11 23] false)
 (.reg [oM 24 9,
 oM 25 3,
 oL 26 5 11,
 o 27 (.call false (.t 25) [.t 26]),
 o 28 (.lit 3 1 [zS, zI, zI] [(0, .t 27)]),
 oJ 29 3 32 24 28,
 oM 9 29] false)))
 (.reg [oA 30 20,
 oM 20 30] false)))
def Q14c : IR :=
 .seq (.reg [o 5 (.box 5 (.t 1)),
 o 8 (.mov (.c (.ns 3)))] false)
 (.seq (.reg [o 9 (.mov (.c (.ns 3)))] false)
 (.seq (.seq (.reg [oM 12 0,
 oM 13 0,
 oL 14 5 5,
 oM 15 2,
 oC 16 46 ([.t 13, .t 14, .t 15]),
 oC 17 62 ([.t 12, .t 16, .c (.int .i64 4)]),
 o 18 (.field 3 1 false (.t 17)),
 oN 19 18,
 o 20 (.mov (.c zI))] false)
 (.block 0 (.loop Qmp Q10a)))
 (.seq (.reg [oM 31 9,
 oM 8 31] false)
 (.ret))))
def K1y : IFn := ⟨4, 32, [.tmp 8], false, Q14c⟩
def Q141 : IR :=
 .seq (.reg [o 2 (.box 5 (.t 0)),
 o 3 (.zero [zS, zI, zI])] false)
 (.seq (.reg [oK 4 1 1,
 oL 5 5 2,
 oD 6 26 ([.t 4, .t 5, .c (.str ⟨#[110, 97, 109, 101]⟩)]) [0, 1],
 oK 7 1 1,
 oL 8 5 2,
 oD 9 27 ([.t 7, .t 8, .c (.str ⟨#[112, 111, 114, 116]⟩)]) (rg 0 5),
 oK 10 1 1,
 oL 11 5 2,
 oD 12 27 ([.t 10, .t 11, .c (.str ⟨#[116, 97, 114, 103, 101, 116]⟩)]) (rg 0 8),
 ob 13 (.build [zS, zI, zI] [(0, 1, .t 6), (1, 1, .t 9), (2, 1, .t 12)]) (rg 0 9),
 ⟨none, none, .store 3 (.t 3) (.t 13), (rg 0 10)⟩] true)
 (.ret))
def K1n : IFn := ⟨2, 14, [.cell 3 3 true], false, Q141⟩
def Qmo : List Nat := [100035, 0, 1, 2, 6, 7, 8]
def Q109 : IR :=
 .seq (.seq (.reg [oM 33 8,
 oM 34 1,
 o 35 (.bin .leq (.t 33) (.t 34))] false)
 (.cond (.t 35) (.skip)
 (.exit 4)))
 (.block 5 (.seq (.reg [oM 36 0,
 oM 37 7,
 oM 38 7,
 oM 39 6,
 o 40 (.bin .add (.t 38) (.t 39)),
 oM 41 8,
 oM 42 2,
 oC 43 99 ([.t 36, .t 37, .t 40, .t 41, .t 42])] false)
 (.seq (.reg [oM 44 8,
 oM 7 44] false)
 (.reg [oM 45 8,
 oM 46 6,
 o 47 (.bin .mul (.c (.int .i64 2)) (.t 46)),
 o 48 (.bin .add (.t 45) (.t 47)),
 oM 8 48] false))))
def Qb4 : List Nat := [100034, 0, 1, 2, 6]
def Qy6 : IR :=
 .seq (.seq (.reg [oM 28 6,
 oM 29 1,
 o 30 (.bin .lss (.t 28) (.t 29))] false)
 (.cond (.t 30) (.skip)
 (.exit 2)))
 (.block 3 (.seq (.reg [oM 31 6,
 o 32 (.bin .mul (.c (.int .i64 2)) (.t 31)),
 o 7 (.mov (.c zI)),
 oM 8 32] false)
 (.seq (.block 4 (.loop Qmo Q109))
 (.seq (.seq (.reg [oM 49 7,
 oM 50 6,
 o 51 (.bin .add (.t 49) (.t 50)),
 oM 9 51] false)
 (.seq (.reg [oM 52 9,
 oM 53 1,
 o 54 (.bin .lss (.t 52) (.t 53))] false)
 (.cond (.t 54) (.reg [oM 55 0,
 oM 56 7,
 oM 57 9,
 oM 58 1,
 oM 59 2,
 oC 60 99 ([.t 55, .t 56, .t 57, .t 58, .t 59])] false)
 (.skip))))
 (.reg [oM 61 6,
 o 62 (.bin .mul (.t 61) (.c (.int .i64 2))),
 oM 6 62] false)))))
def Qb3 : List Nat := [100033, 0, 1, 2, 6, 7, 8]
def Qy5 : IR :=
 .seq (.seq (.reg [oM 11 8,
 oM 12 1,
 o 13 (.bin .leq (.t 11) (.t 12))] false)
 (.cond (.t 13) (.skip)
 (.exit 0)))
 (.block 1 (.seq (.reg [oM 14 0,
 oM 15 7,
 oM 16 8,
 oM 17 2,
 o 18 (.call true (.f 98) [.t 14, .t 15, .t 16, .t 17])] false)
 (.seq (.reg [oM 19 8,
 oM 7 19] false)
 (.reg [oM 20 8,
 oM 21 6,
 o 22 (.bin .add (.t 20) (.t 21)),
 oM 8 22] false))))
def Q13e : IR :=
 .seq (.reg [o 6 (.mov (.c (.int .i64 20)))] false)
 (.seq (.reg [oM 10 6,
 o 7 (.mov (.c zI)),
 oM 8 10] false)
 (.seq (.block 0 (.loop Qb3 Qy5))
 (.seq (.reg [oM 23 0,
 oM 24 7,
 oM 25 1,
 oM 26 2,
 o 27 (.call true (.f 98) [.t 23, .t 24, .t 25, .t 26])] false)
 (.block 2 (.loop Qb4 Qy6)))))
def K10 : IFn := ⟨3, 63, [], false, Q13e⟩
def Qbg : List Nat := [100036, 1, 4, 5, 8, 9, 10]
def Qyi : IR :=
 .seq (.reg [o 11 (.bin .lss (.t 10) (.t 9))] false)
 (.seq (.cond (.t 11) (.skip)
 (.exit 0))
 (.seq (.block 1 (.seq (.reg [oI 12 3 8 10,
 oL 13 3 12,
 o 7 (.zero [zS, zI, .ns 1]),
 oS 3 7 13] false)
 (.reg [oM 14 5,
 oM 15 1,
 oL 16 3 7,
 o 17 (.call false (.t 15) [.t 16]),
 o 18 (.lit 5 1 zL0 [(0, .t 17)]),
 oJ 19 5 80 14 18,
 oM 5 19] false)))
 (.reg [oA 20 10,
 oM 10 20] false)))
def Q14j : IR :=
 .seq (.reg [o 4 (.zero zL0)] false)
 (.seq (.reg [o 5 (.mov (.c (.ns 5)))] false)
 (.seq (.seq (.reg [oM 8 0,
 oN 9 8,
 o 10 (.mov (.c zI))] false)
 (.block 0 (.loop Qbg Qyi)))
 (.seq (.reg [oM 21 5,
 o 22 (.build zL0 [(0, 1, .c (.int .i64 4)), (3, 1, .t 21)]),
 oS 5 4 22] false)
 (.ret))))
def K25 : IFn := ⟨2, 23, [.cell 4 5 true], false, Q14j⟩
def Q14g : IR :=
 .seq (.reg [o 1 (.box 3 (.t 0)),
 o 2 (.zero zL0)] false)
 (.seq (.reg [oF 3 0 1,
 oE 4 1 3 [0],
 oD 5 41 ([sA7, .t 4]) [0, 1],
 oF 6 1 1,
 oE 7 1 6 [3],
 oD 8 42 ([sA12, .t 7]) (rg 0 5),
 oF 9 2 1,
 oE 10 1 9 [6],
 oD 11 93 ([.t 10, .f 78]) (rg 0 8),
 oD 12 36 ([sA19, .t 11]) (rg 0 9),
 ob 13 (.lit 6 3 zL1 [(0, .t 5), (1, .t 8), (2, .t 12)]) (rg 0 10),
 oD 14 34 ([.t 13]) (rg 0 11),
 ⟨none, none, .store 5 (.t 2) (.t 14), (rg 0 12)⟩] true)
 (.ret))
def K22 : IFn := ⟨1, 15, [.cell 2 5 true], false, Q14g⟩
def Qbh : List Nat := [100037, 1, 4, 5, 8, 9, 10]
def Qyj : IR :=
 .seq (.reg [o 11 (.bin .lss (.t 10) (.t 9))] false)
 (.seq (.cond (.t 11) (.skip)
 (.exit 0))
 (.seq (.block 1 (.seq (.reg [oI 12 1 8 10,
 oK 13 1 12,
 oM 7 13] false)
 (.reg [oM 14 5,
 oM 15 1,
 oM 16 7,
 o 17 (.call false (.t 15) [.t 16]),
 o 18 (.lit 5 1 zL0 [(0, .t 17)]),
 oJ 19 5 80 14 18,
 oM 5 19] false)))
 (.reg [oA 20 10,
 oM 10 20] false)))
def Q14k : IR :=
 .seq (.reg [o 4 (.zero zL0)] false)
 (.seq (.reg [o 5 (.mov (.c (.ns 5)))] false)
 (.seq (.seq (.reg [oM 8 0,
 oN 9 8,
 o 10 (.mov (.c zI))] false)
 (.block 0 (.loop Qbh Qyj)))
 (.seq (.reg [oM 21 5,
 o 22 (.build zL0 [(0, 1, .c (.int .i64 4)), (3, 1, .t 21)]),
 oS 5 4 22] false)
 (.ret))))
def K26 : IFn := ⟨2, 23, [.cell 4 5 true], false, Q14k⟩
def Q13g : IR :=
 .seq (.reg [o 2 (.zero zL0)] false)
 (.seq (.reg [o 4 (.build zL0 [(0, 1, .c (.int .i64 1))]),
 o 3 (.zero zL0),
 oS 5 3 4] false)
 (.seq (.seq (.reg [oM 5 0] false)
 (.cond (.t 5) (.reg [oF 6 1 3,
 ⟨none, none, .store 1 (.t 6) (.c (.int .i64 1)), []⟩] false)
 (.skip)))
 (.seq (.reg [oL 7 5 3,
 oS 5 2 7] false)
 (.ret))))
def K12 : IFn := ⟨1, 8, [.cell 2 5 true], false, Q13g⟩
def Ke_c : IR :=
 .seq (.reg [o 6 (.mov (.c (zS)))] false)
 (.seq (.reg [oM 7 0,
 o 8 (.bin .add (.t 7) (.c (.str ⟨#[47]⟩))),
 oM 9 1,
 o 10 (.bin .add (.t 8) (.t 9)),
 o 11 (.bin .add (.t 10) (.c (.str ⟨#[47]⟩))),
 oM 12 2,
 o 13 (.bin .add (.t 11) (.t 12)),
 oM 6 13] false)
 (.ret))
def Ke : IFn := ⟨3, 14, [.tmp 6], false, Ke_c⟩
def Kb_c : IR :=
 .seq (.reg [o 4 (.mov (.c zI))] false)
 (.seq (.seq (.reg [oM 5 0] false)
 (.cond (.t 5) (.seq (.reg [o 4 (.mov (.c (.int .i64 (-1))))] false)
 (.ret))
 (.skip)))
 (.seq (.seq (.reg [oM 6 1] false)
 (.cond (.t 6) (.seq (.reg [o 4 (.mov (.c (.int .i64 1)))] false)
 (.ret))
 (.skip)))
 (.seq (.reg [o 4 (.mov (.c zI))] false)
 (.ret))))
def Kb : IFn := ⟨2, 7, [.tmp 4], false, Kb_c⟩
def Kk_c : IR :=
 .seq (.reg [o 2 (.zero zL0)] false)
 (.seq (.seq (.reg [oM 3 0] false)
 (.cond (.t 3) (.seq (.reg [o 4 (.build zL0 [(0, 1, .c (.int .i64 1)), (1, 1, .c (.int .i64 1))]),
 oS 5 2 4] false)
 (.ret))
 (.skip)))
 (.seq (.reg [o 5 (.build zL0 [(0, 1, .c (.int .i64 1))]),
 oS 5 2 5] false)
 (.ret)))
def Kk : IFn := ⟨1, 6, [.cell 2 5 true], false, Kk_c⟩
def Qe1 : List Nat := [100039, 0, 1, 2, 3, 8, 9]
def Q10r : IR :=
 .seq (.seq (.reg [oM 18 9,
 oM 19 1,
 ob 20 (.bin .gtr (.t 18) (.t 19)) [0, 1],
 ob 21 (.mov (.t 20)) [0, 1, 2],
 ⟨(some 22), (some (21, true)), .mov (.t 3), [0, 1, 2, 3]⟩,
 ⟨(some 23), (some (21, true)), .mov (.t 0), [0, 1, 2, 3]⟩,
 ⟨(some 24), (some (21, true)), .mov (.t 9), [0, 1, 2, 3]⟩,
 ⟨(some 25), (some (21, true)), .iaddr 6 (.t 23) (.t 24), (rg 0 4 ++ [5, 6])⟩,
 ⟨(some 26), (some (21, true)), .load 6 true (.t 25), (rg 0 4 ++ [5, 6, 7])⟩,
 ⟨(some 27), (some (21, true)), .mov (.t 0), [0, 1, 2, 3]⟩,
 ⟨(some 28), (some (21, true)), .mov (.t 9), [0, 1, 2, 3]⟩,
 ⟨(some 29), (some (21, true)), .bin .sub (.t 28) (.c (.int .i64 1)), (rg 0 4 ++ [10])⟩,
 ⟨(some 30), (some (21, true)), .iaddr 6 (.t 27) (.t 29), (rg 0 4 ++ [9, 10, 11])⟩,
 ⟨(some 31), (some (21, true)), .load 6 true (.t 30), (rg 0 4 ++ rg 9 13)⟩,
 ⟨(some 32), (some (21, true)), .call false (.t 22) [.t 26, .t 31], (rg 0 14)⟩,
 ⟨(some 33), (some (21, true)), .bin .lss (.t 32) (.c zI), (rg 0 15)⟩,
 ob 34 (.pick (.t 21) (.t 33) (.c zB)) (rg 0 16)] true)
 (.cond (.t 34) (.skip)
 (.exit 2)))
 (.seq (.block 3 (.reg [oM 37 0,
 oM 38 9,
 oM 39 0,
 oM 40 9,
 ob 41 (.bin .sub (.t 40) (.c (.int .i64 1))) [3],
 oM 42 0,
 oM 43 9,
 ob 44 (.bin .sub (.t 43) (.c (.int .i64 1))) [6],
 ob 45 (.iaddr 6 (.t 42) (.t 44)) [5, 6, 7],
 ob 46 (.load 6 true (.t 45)) [5, 6, 7, 8],
 oM 47 0,
 oM 48 9,
 ob 49 (.iaddr 6 (.t 47) (.t 48)) [10, 11],
 ob 50 (.load 6 true (.t 49)) [10, 11, 12],
 ob 51 (.iaddr 6 (.t 37) (.t 38)) ([0, 1] ++ rg 5 14),
 ⟨none, none, .store 6 (.t 51) (.t 46), ([0, 1] ++ rg 5 15)⟩,
 ob 52 (.iaddr 6 (.t 39) (.t 41)) (rg 0 16),
 ⟨none, none, .store 6 (.t 52) (.t 50), (rg 0 17)⟩] true))
 (.reg [oM 35 9,
 o 36 (.bin .sub (.t 35) (.c (.int .i64 1))),
 oM 9 36] false))
def Qe0 : List Nat := [100038, 0, 1, 2, 3, 8]
def Q10q : IR :=
 .seq (.seq (.reg [oM 12 8,
 oM 13 2,
 o 14 (.bin .lss (.t 12) (.t 13))] false)
 (.cond (.t 14) (.skip)
 (.exit 0)))
 (.seq (.block 1 (.seq (.reg [oM 17 8,
 oM 9 17] false)
 (.block 2 (.loop Qe1 Q10r))))
 (.reg [oM 15 8,
 oA 16 15,
 oM 8 16] false))
def Kz_c : IR :=
 .seq (.reg [oM 10 1,
 oA 11 10,
 oM 8 11] false)
 (.block 0 (.loop Qe0 Q10q))
def Kz : IFn := ⟨4, 53, [], false, Kz_c⟩
def table : List (Nat × Fun) :=
  [(3, .ir K0),
   (4, .ir Kv),
   (5, .ir Kw),
   (6, .ir K2),
   (7, .ir K1),
   (8, .ir K1c),
   (9, .ir K19),
   (10, .ir K1f),
   (11, .ir K1b),
   (12, .ir Kd),
   (13, .ir Kx),
   (14, .ir Kl),
   (15, .ir Km),
   (16, .ir Kp),
   (17, .ir Kq),
   (18, .ir K9),
   (19, .ir K6),
   (20, .ir K8),
   (21, .ir K7),
   (22, .ir K1g),
   (23, .ir K29),
   (24, .ir K1u),
   (25, .ir K1d),
   (26, .ir K1s),
   (27, .ir K1l),
   (28, .ir K1e),
   (29, .ir K1i),
   (30, .ir K2b),
   (31, .ir K1h),
   (32, .ir K1p),
   (33, .ir K1v),
   (34, .ir K15),
   (35, .ir K2e),
   (36, .ir K2a),
   (37, .ir K23),
   (38, .ir K1z),
   (39, .ir K24),
   (40, .ir K1a),
   (41, .ir K2f),
   (42, .ir K27),
   (43, .ir K28),
   (44, .ir K2c),
   (45, .ir K1o),
   (46, .ir K1k),
   (47, .ir K20),
   (48, .ir Kg),
   (49, .ir K5),
   (50, .ir Ko),
   (51, .ir Ks),
   (52, .ir Kj),
   (53, .ir Kt),
   (54, .ir Kn),
   (55, .ir Kr),
   (56, .ir Ka),
   (57, .ir K4),
   (58, .ir Kc),
   (59, .ir K2d),
   (60, .ir K1m),
   (61, .ir K1t),
   (62, .ir K1j),
   (63, .ax (Qce 2 32)),
   (64, .ax (Qce 5 48)),
   (65, .ax (Qce 1 16)),
   (66, .ax (Qcd 2 40)),
   (67, .ir K1w),
   (68, .ir K1q),
   (69, .ir K1x),
   (70, .ir K1r),
   (71, .ax (Qcd 6 96)),
   (72, .ir Ky),
   (73, .ir K16),
   (74, .ir K11),
   (75, .ir K18),
   (76, .ir K21),
   (77, .ir K2g),
   (78, .ir K17),
   (79, .ir K14),
   (80, .ir K13),
   (81, .ir Kf),
   (82, .ir Kh),
   (83, .ir K3),
   (84, .ir Ku),
   (85, .ir Ki),
   (86, .ir K1y),
   (87, .ir K1n),
   (88, .ir K10),
   (89, .cmpstr),
   (90, .ax (Qcd 5 80)),
   (91, .ir K25),
   (92, .ir K22),
   (93, .ir K26),
   (94, .ir K12),
   (95, .ir Ke),
   (96, .ir Kb),
   (97, .ir Kk),
   (98, .ir Kz)]
end Go.Proofs.Ytbagpdebihicnaa.Ir
end

section
/- The printed functions are the given ones. -/
namespace Go.Proofs.Ytbagpdebihicnaa
open Go.Pv
theorem c3 : Q11 Try.prog Try.f3 Ir.K0 = true := by kernel_rfl
theorem c4 : Q11 Try.prog Try.f4 Ir.Kv = true := by kernel_rfl
theorem c5 : Q11 Try.prog Try.f5 Ir.Kw = true := by kernel_rfl
theorem c6 : Q11 Try.prog Try.f6 Ir.K2 = true := by kernel_rfl
theorem c7 : Q11 Try.prog Try.f7 Ir.K1 = true := by kernel_rfl
theorem c8 : Q11 Try.prog Try.f8 Ir.K1c = true := by kernel_rfl
theorem c9 : Q11 Try.prog Try.f9 Ir.K19 = true := by kernel_rfl
theorem c10 : Q11 Try.prog Try.f10 Ir.K1f = true := by kernel_rfl
theorem c11 : Q11 Try.prog Try.f11 Ir.K1b = true := by kernel_rfl
theorem c12 : Q11 Try.prog Try.f12 Ir.Kd = true := by kernel_rfl
theorem c13 : Q11 Try.prog Try.f13 Ir.Kx = true := by kernel_rfl
theorem c14 : Q11 Try.prog Try.f14 Ir.Kl = true := by kernel_rfl
theorem c15 : Q11 Try.prog Try.f15 Ir.Km = true := by kernel_rfl
theorem c16 : Q11 Try.prog Try.f16 Ir.Kp = true := by kernel_rfl
theorem c17 : Q11 Try.prog Try.f17 Ir.Kq = true := by kernel_rfl
theorem c18 : Q11 Try.prog Try.f18 Ir.K9 = true := by kernel_rfl
theorem c19 : Q11 Try.prog Try.f19 Ir.K6 = true := by kernel_rfl
theorem c20 : Q11 Try.prog Try.f20 Ir.K8 = true := by kernel_rfl
theorem c21 : Q11 Try.prog Try.f21 Ir.K7 = true := by kernel_rfl
theorem c22 : Q11 Try.prog Try.f22 Ir.K1g = true := by kernel_rfl
theorem c23 : Q11 Try.prog Try.f23 Ir.K29 = true := by kernel_rfl
theorem c24 : Q11 Try.prog Try.f24 Ir.K1u = true := by kernel_rfl
theorem c25 : Q11 Try.prog Try.f25 Ir.K1d = true := by kernel_rfl
theorem c26 : Q11 Try.prog Try.f26 Ir.K1s = true := by kernel_rfl
theorem c27 : Q11 Try.prog Try.f27 Ir.K1l = true := by kernel_rfl
theorem c28 : Q11 Try.prog Try.f28 Ir.K1e = true := by kernel_rfl
theorem c29 : Q11 Try.prog Try.f29 Ir.K1i = true := by kernel_rfl
theorem c30 : Q11 Try.prog Try.f30 Ir.K2b = true := by kernel_rfl
theorem c31 : Q11 Try.prog Try.f31 Ir.K1h = true := by kernel_rfl
theorem c32 : Q11 Try.prog Try.f32 Ir.K1p = true := by kernel_rfl
theorem c33 : Q11 Try.prog Try.f33 Ir.K1v = true := by kernel_rfl
theorem c34 : Q11 Try.prog Try.f34 Ir.K15 = true := by kernel_rfl
theorem c35 : Q11 Try.prog Try.f35 Ir.K2e = true := by kernel_rfl
theorem c36 : Q11 Try.prog Try.f36 Ir.K2a = true := by kernel_rfl
theorem c37 : Q11 Try.prog Try.f37 Ir.K23 = true := by kernel_rfl
theorem c38 : Q11 Try.prog Try.f38 Ir.K1z = true := by kernel_rfl
theorem c39 : Q11 Try.prog Try.f39 Ir.K24 = true := by kernel_rfl
theorem c40 : Q11 Try.prog Try.f40 Ir.K1a = true := by kernel_rfl
theorem c41 : Q11 Try.prog Try.f41 Ir.K2f = true := by kernel_rfl
theorem c42 : Q11 Try.prog Try.f42 Ir.K27 = true := by kernel_rfl
theorem c43 : Q11 Try.prog Try.f43 Ir.K28 = true := by kernel_rfl
theorem c44 : Q11 Try.prog Try.f44 Ir.K2c = true := by kernel_rfl
theorem c45 : Q11 Try.prog Try.f45 Ir.K1o = true := by kernel_rfl
theorem c46 : Q11 Try.prog Try.f46 Ir.K1k = true := by kernel_rfl
theorem c47 : Q11 Try.prog Try.f47 Ir.K20 = true := by kernel_rfl
theorem c48 : Q11 Try.prog Try.f48 Ir.Kg = true := by kernel_rfl
theorem c49 : Q11 Try.prog Try.f49 Ir.K5 = true := by kernel_rfl
theorem c50 : Q11 Try.prog Try.f50 Ir.Ko = true := by kernel_rfl
theorem c51 : Q11 Try.prog Try.f51 Ir.Ks = true := by kernel_rfl
theorem c52 : Q11 Try.prog Try.f52 Ir.Kj = true := by kernel_rfl
theorem c53 : Q11 Try.prog Try.f53 Ir.Kt = true := by kernel_rfl
theorem c54 : Q11 Try.prog Try.f54 Ir.Kn = true := by kernel_rfl
theorem c55 : Q11 Try.prog Try.f55 Ir.Kr = true := by kernel_rfl
theorem c56 : Q11 Try.prog Try.f56 Ir.Ka = true := by kernel_rfl
theorem c57 : Q11 Try.prog Try.f57 Ir.K4 = true := by kernel_rfl
theorem c58 : Q11 Try.prog Try.f58 Ir.Kc = true := by kernel_rfl
theorem c59 : Q11 Try.prog Try.f59 Ir.K2d = true := by kernel_rfl
theorem c60 : Q11 Try.prog Try.f60 Ir.K1m = true := by kernel_rfl
theorem c61 : Q11 Try.prog Try.f61 Ir.K1t = true := by kernel_rfl
theorem c62 : Q11 Try.prog Try.f62 Ir.K1j = true := by kernel_rfl
theorem c67 : Q11 Try.prog Try.f67 Ir.K1w = true := by kernel_rfl
theorem c68 : Q11 Try.prog Try.f68 Ir.K1q = true := by kernel_rfl
theorem c69 : Q11 Try.prog Try.f69 Ir.K1x = true := by kernel_rfl
theorem c70 : Q11 Try.prog Try.f70 Ir.K1r = true := by kernel_rfl
theorem c72 : Q11 Try.prog Try.f72 Ir.Ky = true := by kernel_rfl
theorem c73 : Q11 Try.prog Try.f73 Ir.K16 = true := by kernel_rfl
theorem c74 : Q11 Try.prog Try.f74 Ir.K11 = true := by kernel_rfl
theorem c75 : Q11 Try.prog Try.f75 Ir.K18 = true := by kernel_rfl
theorem c76 : Q11 Try.prog Try.f76 Ir.K21 = true := by kernel_rfl
theorem c77 : Q11 Try.prog Try.f77 Ir.K2g = true := by kernel_rfl
theorem c78 : Q11 Try.prog Try.f78 Ir.K17 = true := by kernel_rfl
theorem c79 : Q11 Try.prog Try.f79 Ir.K14 = true := by kernel_rfl
theorem c80 : Q11 Try.prog Try.f80 Ir.K13 = true := by kernel_rfl
theorem c81 : Q11 Try.prog Try.f81 Ir.Kf = true := by kernel_rfl
theorem c82 : Q11 Try.prog Try.f82 Ir.Kh = true := by kernel_rfl
theorem c83 : Q11 Try.prog Try.f83 Ir.K3 = true := by kernel_rfl
theorem c84 : Q11 Try.prog Try.f84 Ir.Ku = true := by kernel_rfl
theorem c85 : Q11 Try.prog Try.f85 Ir.Ki = true := by kernel_rfl
theorem c86 : Q11 Try.prog Try.f86 Ir.K1y = true := by kernel_rfl
theorem c87 : Q11 Try.prog Try.f87 Ir.K1n = true := by kernel_rfl
theorem c88 : Q11 Try.prog Try.f88 Ir.K10 = true := by kernel_rfl
theorem c91 : Q11 Try.prog Try.f91 Ir.K25 = true := by kernel_rfl
theorem c92 : Q11 Try.prog Try.f92 Ir.K22 = true := by kernel_rfl
theorem c93 : Q11 Try.prog Try.f93 Ir.K26 = true := by kernel_rfl
theorem c94 : Q11 Try.prog Try.f94 Ir.K12 = true := by kernel_rfl
theorem c95 : Q11 Try.prog Try.f95 Ir.Ke = true := by kernel_rfl
theorem c96 : Q11 Try.prog Try.f96 Ir.Kb = true := by kernel_rfl
theorem c97 : Q11 Try.prog Try.f97 Ir.Kk = true := by kernel_rfl
theorem c98 : Q11 Try.prog Try.f98 Ir.Kz = true := by kernel_rfl
theorem k63 : Q3i Try.prog Try.f63 2 32 [.str ⟨#[]⟩, .str ⟨#[]⟩] = true := by kernel_rfl
theorem k64 : Q3i Try.prog Try.f64 5 48 [.str ⟨#[]⟩, .str ⟨#[]⟩, .int .i64 0, .bool false, .bool false] = true := by kernel_rfl
theorem k65 : Q3i Try.prog Try.f65 1 16 [.str ⟨#[]⟩] = true := by kernel_rfl
theorem k66 : Q3i Try.prog Try.f66 2 40 [.str ⟨#[]⟩, .ns 1] = true := by kernel_rfl
theorem k71 : Q3i Try.prog Try.f71 6 96 [.str ⟨#[]⟩, .int .i64 0, .int .i64 0, .str ⟨#[]⟩, .ns 5, .ns 6] = true := by kernel_rfl
theorem k90 : Q3i Try.prog Try.f90 5 80 [.int .i64 0, .int .i64 0, .str ⟨#[]⟩, .ns 5, .ns 6] = true := by kernel_rfl
theorem mixed : Try.prog.follows .mixedOrders = true := by kernel_rfl
theorem own : ownKnob Try.prog.godebug = none := by kernel_rfl
theorem laidOut : laidOutB Try.prog = true := by kernel_rfl
theorem tie (cmp : Qwj Try.prog 89) : Tie Try.prog (tabG Ir.table) :=
  Qq Try.func3 c3 <| Qq Try.func4 c4 <| Qq Try.func5 c5 <| Qq Try.func6 c6 <| Qq Try.func7 c7 <| Qq Try.func8 c8 <| Qq Try.func9 c9 <| Qq Try.func10 c10 <| Qq Try.func11 c11 <| Qq Try.func12 c12 <| Qq Try.func13 c13 <| Qq Try.func14 c14 <| Qq Try.func15 c15 <| Qq Try.func16 c16 <| Qq Try.func17 c17 <| Qq Try.func18 c18 <| Qq Try.func19 c19 <| Qq Try.func20 c20 <| Qq Try.func21 c21 <| Qq Try.func22 c22 <| Qq Try.func23 c23 <| Qq Try.func24 c24 <| Qq Try.func25 c25 <| Qq Try.func26 c26 <| Qq Try.func27 c27 <| Qq Try.func28 c28 <| Qq Try.func29 c29 <| Qq Try.func30 c30 <| Qq Try.func31 c31 <| Qq Try.func32 c32 <| Qq Try.func33 c33 <| Qq Try.func34 c34 <| Qq Try.func35 c35 <| Qq Try.func36 c36 <| Qq Try.func37 c37 <| Qq Try.func38 c38 <| Qq Try.func39 c39 <| Qq Try.func40 c40 <| Qq Try.func41 c41 <| Qq Try.func42 c42 <| Qq Try.func43 c43 <| Qq Try.func44 c44 <| Qq Try.func45 c45 <| Qq Try.func46 c46 <| Qq Try.func47 c47 <| Qq Try.func48 c48 <| Qq Try.func49 c49 <| Qq Try.func50 c50 <| Qq Try.func51 c51 <| Qq Try.func52 c52 <| Qq Try.func53 c53 <| Qq Try.func54 c54 <| Qq Try.func55 c55 <| Qq Try.func56 c56 <| Qq Try.func57 c57 <| Qq Try.func58 c58 <| Qq Try.func59 c59 <| Qq Try.func60 c60 <| Qq Try.func61 c61 <| Qq Try.func62 c62 <| (fun h => Q67 h (Qcf mixed Try.func63 k63)) <| (fun h => Q67 h (Qcf mixed Try.func64 k64)) <| (fun h => Q67 h (Qcf mixed Try.func65 k65)) <| (fun h => Q67 h (Qi1 mixed Try.func66 k66)) <| Qq Try.func67 c67 <| Qq Try.func68 c68 <| Qq Try.func69 c69 <| Qq Try.func70 c70 <| (fun h => Q67 h (Qi1 mixed Try.func71 k71)) <| Qq Try.func72 c72 <| Qq Try.func73 c73 <| Qq Try.func74 c74 <| Qq Try.func75 c75 <| Qq Try.func76 c76 <| Qq Try.func77 c77 <| Qq Try.func78 c78 <| Qq Try.func79 c79 <| Qq Try.func80 c80 <| Qq Try.func81 c81 <| Qq Try.func82 c82 <| Qq Try.func83 c83 <| Qq Try.func84 c84 <| Qq Try.func85 c85 <| Qq Try.func86 c86 <| Qq Try.func87 c87 <| Qq Try.func88 c88 <| (fun h => Q67 h cmp) <| (fun h => Q67 h (Qi1 mixed Try.func90 k90)) <| Qq Try.func91 c91 <| Qq Try.func92 c92 <| Qq Try.func93 c93 <| Qq Try.func94 c94 <| Qq Try.func95 c95 <| Qq Try.func96 c96 <| Qq Try.func97 c97 <| Qq Try.func98 c98 <| Q106
end Go.Proofs.Ytbagpdebihicnaa
end

section
/-
  Runs along a trace, over views: operations, regions, code, calls, loops' rounds.
-/
namespace Go.Pv
def Seen (o : Option Ob) (rows : List (List PV)) : Prop := ∃ ob, o = some ob ∧ ViewOK ob.sz ob.cells rows
theorem Q3n {ob : Ob} {rows : List (List PV)} (h : ViewOK ob.sz ob.cells rows) : Seen (some ob) rows := ⟨ob, rfl, h⟩
def putV (vw : Views) (cut : List Nat) (new : Views) : Views := new ++ vw.filter fun x => !(has cut x.1)
theorem Qn8 {vw : Views} {cut : List Nat} {id : Nat} {rows : List (List PV)} (h : look (vw.filter fun x => !(has cut x.1)) id = some rows) : look vw id = some rows ∧ has cut id = false := by
 induction vw with
 | nil => cases h
 | cons x r ih =>
  obtain ⟨k, rs⟩ := x
  simp only [List.filter_cons] at h
  cases hc : has cut k with
  | true =>
   rw [hc] at h
   simp only [Bool.not_true, Bool.false_eq_true, if_false] at h
   obtain ⟨h1, h2⟩ := ih h
   refine ⟨?_, h2⟩
   simp only [look]
   cases c : Nat.beq k id with
   | true =>
    have := Nat.eq_of_beq_eq_true c
    subst this
    rw [hc] at h2
    cases h2
   | false => exact h1
  | false =>
   rw [hc] at h
   simp only [Bool.not_false, if_true, look] at h ⊢
   cases c : Nat.beq k id with
   | true =>
    rw [c] at h
    have := Nat.eq_of_beq_eq_true c
    subst this
    exact ⟨h, hc⟩
   | false =>
    rw [c] at h
    exact ih h
theorem Qlg {l : List Nat} {id : Nat} (h : has l id = false) : id ∉ l := by
  induction l with
  | nil => exact List.not_mem_nil
  | cons k r ih =>
    simp only [has] at h
    cases c : Nat.beq k id with
    | true => rw [c] at h; cases h
    | false =>
      rw [c] at h
      simp only [cond_false] at h
      intro hm
      rcases List.mem_cons.1 hm with rfl | hm
      · simp at c
      · exact ih h hm
theorem Qcz {vw new : Views} {cut : List Nat} {id : Nat} {rows : List (List PV)} (h : look (putV vw cut new) id = some rows) : look new id = some rows ∨ (look vw id = some rows ∧ id ∉ cut) := by
 unfold putV at h
 rw [Qi9] at h
 cases hn : look new id with
 | some r => rw [hn] at h; exact .inl h
 | none =>
  rw [hn] at h
  obtain ⟨h1, h2⟩ := Qn8 h
  exact .inr ⟨h1, Qlg h2⟩
theorem Qn9 {α : Type} {l : List (Nat × α)} {id : Nat} {x : α} (h : look l id = some x) : (id, x) ∈ l := by
 induction l with
 | nil => cases h
 | cons y r ih =>
  obtain ⟨k, z⟩ := y
  simp only [look] at h
  cases c : Nat.beq k id with
  | true =>
   rw [c] at h
   have := Nat.eq_of_beq_eq_true c
   subst this
   simp only [cond_true, Option.some.injEq] at h
   subst h
   exact List.mem_cons_self
  | false =>
   rw [c] at h
   exact List.mem_cons_of_mem _ (ih h)
def Turned (H : Nat → Option Ob) (vw : Views) (e : EV) : Prop := VOK (upH H e.eff.hw) (putV vw e.cut e.new)
theorem Qqs {ws : List (Nat × Option Ob)} {H : Nat → Option Ob} {id : Nat} {o : Option Ob} (hn : (ws.map (·.1)).Nodup) (h : (id, o) ∈ ws) : upH H ws id = o := by
  induction ws generalizing H with
  | nil => cases h
  | cons x r ih =>
    obtain ⟨k, z⟩ := x
    simp only [List.map_cons, List.nodup_cons] at hn
    rw [upH]
    rcases List.mem_cons.1 h with e | h
    · injection e with e1 e2
      subst e1 e2
      rw [Q4g (fun y hy e => hn.1 (by rw [← e]; exact List.mem_map_of_mem hy))]
      simp
    · exact ih hn.2 h
theorem Qm3 : ∀ {l : List Nat}, nodupB l = true → l.Nodup
 | [], _ => List.nodup_nil
 | k :: r, h => by
  simp only [nodupB, Bool.and_eq_true, Bool.not_eq_true'] at h
  exact List.nodup_cons.2 ⟨Qlg h.1, Qm3 h.2⟩
theorem Qmg {H : Nat → Option Ob} : ∀ (l : List Nat) (cl : List (Nat × Option Ob)), shut H l = some cl → ∀ id o, (id, o) ∈ cl → ∃ ob ob', H id = some ob ∧ o = some ob' ∧ ob'.sz = ob.sz ∧ ob'.cells = ob.cells
  | [], cl, h, id, o, hm => by
    simp only [shut, Option.some.injEq] at h
    subst h
    cases hm
  | k :: r, cl, h, id, o, hm => by
    simp only [shut] at h
    obtain ⟨ob, hob, h⟩ := Qc h
    obtain ⟨m, hm', h⟩ := Qc h
    simp only [Option.some.injEq] at h
    subst h
    rcases List.mem_cons.1 hm with e | hm
    · injection e with e1 e2
      subst e1 e2
      exact ⟨ob, _, hob, rfl, rfl, rfl⟩
    · exact Qmg r m hm' id o hm
def Qtq (H : Nat → Option Ob) (vw : Views) (fr : Nat) (byRef : Bool) (f : Nat) (args : List PV) (az : List Ans) : Option EV :=
  (Qym H vw fr byRef f args az).bind fun e => bif nodupB (e.eff.hw.map (·.1)) then some e else none
theorem Qlh {G : Nat → Option Fun} {H : Nat → Option Ob} {vw : Views} (hv : VOK H vw) {fr : Nat} {byRef : Bool} {f : Nat} {args : List PV} {az : List Ans} {e : EV} (h : Qtq H vw fr byRef f args az = some e) (hm : Met e.owed) (hq : Told G e.asked) : Q9a (lim G) H fr byRef f args = some e.eff ∧ Turned H vw e := by
  unfold Qtq at h
  obtain ⟨e', h0, h'⟩ := Qc h
  clear h
  cases hnd : nodupB (e'.eff.hw.map (·.1)) with
  | false => rw [hnd] at h'; cases h'
  | true =>
  rw [hnd] at h'
  simp only [cond_true, Option.some.injEq] at h'
  subst h'
  have hnd := Qm3 hnd
  unfold Qym at h0
  unfold Q9a
  obtain ⟨y, hy, h⟩ := Qc h0
  clear h0
  obtain ⟨z, hz, h⟩ := Qc h
  simp only at h
  cases hd : disj (y.1.2.2 ++ z.1.2.2) z.1.2.1 with
  | false => rw [hd] at h; cases h
  | true =>
    rw [hd] at h
    simp only [cond_true] at h
    cases az with
    | nil => cases h
    | cons a az' =>
      obtain ⟨r, avw⟩ := a
      cases r with
      | st _ _ => cases h
      | ret v hh =>
        simp only at h
        cases hb : (Nat.ble z.1.2.1.length hh.length && Nat.ble (hh.length - z.1.2.1.length) 64) with
        | false => rw [hb] at h; cases h
        | true =>
          rw [hb] at h
          simp only [cond_true] at h
          obtain ⟨v', hv', h⟩ := Qc h
          obtain ⟨ws, hws, h⟩ := Qc h
          have key : ∀ (hy' : Met y.2) (hz' : Met z.2) (hw' : Met ws.2.1) (ht : Q7 G (.call f y.1.1 z.1.1) (.ret v hh)) (E : Eff),
              (bif flat 8 v && hh.all (fun ob => ob.cells.all (flat 8)) then some ⟨v', ws.1, z.1.2.1 ++ (y.1.2.2 ++ z.1.2.2)⟩ else (shut H (y.1.2.2 ++ z.1.2.2)).bind fun cl => some ⟨v', ws.1 ++ cl, z.1.2.1 ++ (y.1.2.2 ++ z.1.2.2)⟩) = some E →
              ((Q2x (pass H byRef 8) args []).bind fun y => (Q1p H false false 16 0 y.2.1).bind fun z =>
                let ids := z.2.1
                let lent := y.2.2 ++ z.2.2
                bif disj lent ids then
                  (lim G (.call f y.1 z.1)).bind fun r =>
                    match r with
                    | .ret v h =>
                      bif Nat.ble ids.length h.length && Nat.ble (h.length - ids.length) 64 then
                        (back (ren ids fr) 8 v).bind fun v' => (Q5a (ren ids fr) 0 h).bind fun ws =>
                          bif flat 8 v && h.all (fun ob => ob.cells.all (flat 8)) then some ⟨v', ws, ids ++ lent⟩
                          else (shut H lent).bind fun cl => some ⟨v', ws ++ cl, ids ++ lent⟩
                      else none
                    | _ => none
                else none) = some E := by
            intro hy' hz' hw' ht E hE
            rw [Q1y (Q47 hv 8) _ _ y hy hy', Option.bind_some, Q2o hv 16 _ _ z hz hz', Option.bind_some]
            simp only
            rw [hd]
            simp only [cond_true]
            rw [Qyq ht, Option.bind_some]
            simp only
            rw [hb]
            simp only [cond_true]
            rw [hv', Option.bind_some, Q4t hh 0 ws hws hw', Option.bind_some]
            exact hE
          have turn : ∀ (cl : List (Nat × Option Ob)) (hcl : ∀ id o, (id, o) ∈ cl → ∃ ob ob', H id = some ob ∧ o = some ob' ∧ ob'.sz = ob.sz ∧ ob'.cells = ob.cells) (hn : ((ws.1 ++ cl).map (·.1)).Nodup) (hw' : Met ws.2.1) , VOK (upH H (ws.1 ++ cl)) (putV vw (ws.1.map (·.1)) ws.2.2) := by
            intro cl hcl hn hw' id rows hl
            rcases Qcz hl with hl | ⟨hl, hc⟩
            · obtain ⟨ob, hob, hok⟩ := Q4u hh 0 ws hws hw' id rows (Qn9 hl)
              exact ⟨ob, Qqs hn (List.mem_append_left _ hob), hok⟩
            · obtain ⟨ob, hob, hok⟩ := hv id rows hl
              by_cases hx : ∃ o, (id, o) ∈ cl
              · obtain ⟨o, ho⟩ := hx
                obtain ⟨ob1, ob', h1, rfl, h2, h3⟩ := hcl id o ho
                rw [hob] at h1
                injection h1 with h1
                subst h1
                refine ⟨ob', Qqs hn (List.mem_append_right _ ho), ?_⟩
                rw [h2, h3]
                exact hok
              · refine ⟨ob, ?_, hok⟩
                rw [Q4g (fun y hy e => ?_)]
                · exact hob
                · rcases List.mem_append.1 hy with hy | hy
                  · exact hc (by rw [← e]; exact List.mem_map_of_mem hy)
                  · exact hx ⟨y.2, by rw [← e]; exact hy⟩
          cases hlent : y.1.2.2 ++ z.1.2.2 with
          | nil =>
            rw [hlent] at h
            simp only [Option.some.injEq] at h
            subst h
            simp only at hm hq hnd
            refine ⟨key hm.left hm.right.left hm.right.right (hq _ List.mem_cons_self) _ ?_, ?_⟩
            · rw [hlent]
              cases (flat 8 v && hh.all (fun ob => ob.cells.all (flat 8))) <;> simp [shut]
            · have := turn [] (fun _ _ h => by cases h) (by simpa using hnd) hm.right.right
              rw [List.append_nil] at this
              exact this
          | cons l0 lr =>
            rw [hlent] at h
            simp only at h
            cases hf : (flat 8 v && hh.all (fun ob => ob.cells.all (flat 8))) with
            | true =>
              rw [hf] at h
              simp only [cond_true, Option.some.injEq] at h
              subst h
              simp only at hm hq hnd
              refine ⟨key hm.left hm.right.left hm.right.right (hq _ List.mem_cons_self) _ ?_, ?_⟩
              · rw [hlent, hf]
                rfl
              · have := turn [] (fun _ _ h => by cases h) (by simpa using hnd) hm.right.right
                rw [List.append_nil] at this
                exact this
            | false =>
              rw [hf] at h
              simp only [cond_false] at h
              obtain ⟨cl, hcl, h⟩ := Qc h
              simp only [Option.some.injEq] at h
              subst h
              simp only at hm hq hnd
              refine ⟨key hm.left hm.right.left hm.right.right (hq _ List.mem_cons_self) _ ?_, ?_⟩
              · rw [hlent, hf]
                simp only [cond_false]
                rw [hcl, Option.bind_some]
              · exact turn cl (Qmg _ _ hcl) hnd hm.right.right
def mute : Orc := fun _ => none
theorem Qpj {X : Orc} {e : Nat → PV} {H : Nat → Option Ob} {fr : Nat} {o : IOp} {x : Eff} (h : iop mute e H fr o = some x) : iop X e H fr o = some x := by
 cases o with
 | call b f xs =>
  simp only [iop] at h
  obtain ⟨t, _, h⟩ := Qc h
  obtain ⟨_, h, _⟩ := Qc h
  unfold Q9a at h
  obtain ⟨y, _, h⟩ := Qc h
  obtain ⟨z, _, h⟩ := Qc h
  simp only at h
  cases hd : disj (y.2.2 ++ z.2.2) z.2.1 with
  | false => rw [hd] at h; cases h
  | true =>
   rw [hd] at h
   simp only [cond_true] at h
   obtain ⟨_, h, _⟩ := Qc h
   cases h
 | _ => exact h
theorem Qr9 {X : Orc} {e : Nat → PV} {H : Nat → Option Ob} {fr : Nat} {o : IOper} {x : Eff} (h : Q4w mute e H fr o = some x) : Q4w X e H fr o = some x := by
 unfold Q4w at h ⊢
 obtain ⟨w, hw, h⟩ := Qc h
 rw [hw, Option.bind_some]
 cases w with
 | true => exact Qpj h
 | false => exact h
def iopV (e : Nat → PV) (H : Nat → Option Ob) (vw : Views) (fr : Nat) (az : List Ans) : IOp → Option EV
  | .call byRef f args => (target (f.ev e) (evs e args)).bind fun t => (Qtq H vw fr byRef t.1 t.2 az).bind fun y => some { y with eff := trim H y.eff }
  | o => (iop mute e H fr o).bind fun x => some ⟨x, x.hw.map (·.1), [], az, [], []⟩
def Qpk (e : Nat → PV) (H : Nat → Option Ob) (vw : Views) (fr : Nat) (az : List Ans) (o : IOper) : Option EV :=
 (o.wanted e).bind fun w => bif w then iopV e H vw fr az o.op else some ⟨⟨.tup [], [], []⟩, [], [], az, [], []⟩
theorem Q96 {H : Nat → Option Ob} {vw : Views} (hv : VOK H vw) {x : Eff} {az : List Ans} : Turned H vw ⟨x, x.hw.map (·.1), [], az, [], []⟩ := by
  intro id rows hl
  rcases Qcz hl with hl | ⟨hl, hc⟩
  · cases hl
  · obtain ⟨ob, hob, hok⟩ := hv id rows hl
    refine ⟨ob, ?_, hok⟩
    rw [Q4g (fun y hy e => hc (by rw [← e]; exact List.mem_map_of_mem hy))]
    exact hob
theorem Q92 {G : Nat → Option Fun} {e : Nat → PV} {H : Nat → Option Ob} {vw : Views} (hv : VOK H vw) {fr : Nat} {az : List Ans} {o : IOper} {y : EV} (h : Qpk e H vw fr az o = some y) (hm : Met y.owed) (hq : Told G y.asked) : Q4w (lim G) e H fr o = some y.eff ∧ Turned H vw y := by
  unfold Qpk at h
  obtain ⟨w, hw, h⟩ := Qc h
  unfold Q4w
  rw [hw, Option.bind_some]
  cases w with
  | false =>
    simp only [cond_false, Option.some.injEq] at h
    subst h
    exact ⟨rfl, Q96 hv (x := ⟨.tup [], [], []⟩)⟩
  | true =>
    simp only [cond_true] at h ⊢
    have gen : ((iop mute e H fr o.op).bind fun x => some (⟨x, x.hw.map (·.1), [], az, [], []⟩ : EV)) = some y → iop (lim G) e H fr o.op = some y.eff ∧ Turned H vw y := by
      intro h
      obtain ⟨x, hx, h⟩ := Qc h
      simp only [Option.some.injEq] at h
      subst h
      exact ⟨Qpj hx, Q96 hv⟩
    cases ho : o.op with
    | call b f xs =>
      rw [ho] at h
      simp only [iopV] at h
      obtain ⟨t, ht, h⟩ := Qc h
      simp only [iop]
      obtain ⟨y', h9, hy⟩ := Qc h
      clear h
      simp only [Option.some.injEq] at hy
      subst hy
      have hs := Qlh hv h9 hm hq
      rw [ht, Option.bind_some, hs.1, Option.bind_some]
      refine ⟨rfl, fun id rows hl => ?_⟩
      rw [Qnp]
      exact hs.2 id rows hl
    | _ =>
      rw [ho] at h gen
      exact gen h
abbrev Q4i := List (Nat × (Eff × Views))
structure TV where
  env : List PV
  heap : List (Nat × Ob)
  vw : Views
  effs : List Eff
  hs : Q4i
  az : List Ans
  owed : List Prop
  asked : Q6s
def nobody : Nat → Option Ob := fun _ => none
def Qlk (nx : Nat) : Nat → List IOper → Q4i → List Ans → List PV → List (Nat × Ob) → Views → Option TV
  | _, [], hs, az, env, h, vw => some ⟨env, h, vw, [], hs, az, [], []⟩
  | i, o :: r, hs, az, env, h, vw =>
    match hs with
    | [] => (Qpk (envF env) (look h) vw (nx + 64 * i) az o).bind fun x => (Qlk nx (i + 1) r [] x.az (put env o.dst x.eff.v) (hput h x.eff.hw) (putV vw x.cut x.new)).bind fun y => some ⟨y.env, y.heap, y.vw, x.eff :: y.effs, y.hs, y.az, x.owed ++ y.owed, x.asked ++ y.asked⟩
    | (k + 1, z) :: hs' => (Qpk (envF env) (look h) vw (nx + 64 * i) az o).bind fun x => (Qlk nx (i + 1) r ((k, z) :: hs') x.az (put env o.dst x.eff.v) (hput h x.eff.hw) (putV vw x.cut x.new)).bind fun y => some ⟨y.env, y.heap, y.vw, x.eff :: y.effs, y.hs, y.az, x.owed ++ y.owed, x.asked ++ y.asked⟩
    | (0, x) :: hs' => (Qlk nx (i + 1) r hs' az (put env o.dst x.1.v) (hput h x.1.hw) (putV vw (x.1.hw.map (·.1)) x.2)).bind fun y => some ⟨y.env, y.heap, y.vw, x.1 :: y.effs, y.hs, y.az, (Q4w mute (envF env) (look h) (nx + 64 * i) o = some x.1) :: ((x.2.map fun p => Seen (upH nobody x.1.hw p.1) p.2) ++ y.owed), y.asked⟩
theorem VOK.turned {h : List (Nat × Ob)} {vw : Views} {y : EV} (ht : Turned (look h) vw y) : VOK (look (hput h y.eff.hw)) (putV vw y.cut y.new) := by
 rw [Q46]
 exact ht
theorem Qs7 {ws : List (Nat × Option Ob)} {H : Nat → Option Ob} {id : Nat} {ob : Ob} (h : upH nobody ws id = some ob) : upH H ws id = some ob := by
  by_cases c : ∃ x ∈ ws, x.1 = id
  · rw [Qd7 (H' := nobody) c]
    exact h
  · rw [Q4g (fun y hy e => c ⟨y, hy, e⟩)] at h
    cases h
theorem Qcl {G : Nat → Option Fun} {nx : Nat} : ∀ (ops : List IOper) (i : Nat) (hs : Q4i) (az : List Ans) (env : List PV) (h : List (Nat × Ob)) (vw : Views) (t : TV), Qlk nx i ops hs az env h vw = some t → VOK (look h) vw → Met t.owed → Told G t.asked → Q3d (lim G) nx i ops env h = some (t.env, t.heap, t.effs) ∧ VOK (look t.heap) t.vw
  | [], i, hs, az, env, h, vw, t, ht, hv, _, _ => by
    simp only [Qlk, Option.some.injEq] at ht
    subst ht
    exact ⟨rfl, hv⟩
  | o :: r, i, hs, az, env, h, vw, t, ht, hv, hm, hq => by
    have go : ∀ (x : EV) (hs' : Q4i) (vw' : Views), Q4w (lim G) (envF env) (look h) (nx + 64 * i) o = some x.eff → VOK (look (hput h x.eff.hw)) vw' → ∀ (y : TV), Qlk nx (i + 1) r hs' x.az (put env o.dst x.eff.v) (hput h x.eff.hw) vw' = some y → Met y.owed → Told G y.asked → y.env = t.env → y.heap = t.heap → y.vw = t.vw → x.eff :: y.effs = t.effs → Q3d (lim G) nx i (o :: r) env h = some (t.env, t.heap, t.effs) ∧ VOK (look t.heap) t.vw := by
      intro x hs' vw' hx hvx y hy hmy hqy e1 e2 e3 e4
      obtain ⟨r1, r2⟩ := Qcl r (i + 1) hs' _ _ _ _ y hy hvx hmy hqy
      simp only [Q3d]
      rw [hx, Option.bind_some, r1, Option.bind_some, ← e1, ← e2, ← e3, ← e4]
      exact ⟨rfl, r2⟩
    unfold Qlk at ht
    split at ht
    · obtain ⟨x, hx, ht⟩ := Qc ht
      obtain ⟨y, hy, ht⟩ := Qc ht
      simp only [Option.some.injEq] at ht
      subst ht
      obtain ⟨s1, s2⟩ := Q92 hv hx hm.left hq.left
      exact go x _ _ s1 (VOK.turned s2) y hy hm.right hq.right rfl rfl rfl rfl
    · obtain ⟨x, hx, ht⟩ := Qc ht
      obtain ⟨y, hy, ht⟩ := Qc ht
      simp only [Option.some.injEq] at ht
      subst ht
      obtain ⟨s1, s2⟩ := Q92 hv hx hm.left hq.left
      exact go x _ _ s1 (VOK.turned s2) y hy hm.right hq.right rfl rfl rfl rfl
    · rename_i x hs'
      obtain ⟨y, hy, ht⟩ := Qc ht
      simp only [Option.some.injEq] at ht
      subst ht
      have hx : Q4w (lim G) (envF env) (look h) (nx + 64 * i) o = some x.1 := Qr9 hm.head
      have hseen : Met (x.2.map fun p => Seen (upH nobody x.1.hw p.1) p.2) := hm.tail.left
      have hvx : VOK (look (hput h x.1.hw)) (putV vw (x.1.hw.map (·.1)) x.2) := by
        rw [Q46]
        intro id rows hl
        rcases Qcz hl with hl | ⟨hl, hc⟩
        · obtain ⟨ob, hob, hok⟩ := hseen _ (List.mem_map_of_mem (f := fun p : Nat × List (List PV) => Seen (upH nobody x.1.hw p.1) p.2) (Qn9 hl))
          exact ⟨ob, Qs7 hob, hok⟩
        · obtain ⟨ob, hob, hok⟩ := hv id rows hl
          refine ⟨ob, ?_, hok⟩
          rw [Q4g (fun y hy e => hc (by rw [← e]; exact List.mem_map_of_mem hy))]
          exact hob
      exact go ⟨x.1, x.1.hw.map (·.1), x.2, az, [], []⟩ hs' _ hx hvx y hy hm.tail.right hq rfl rfl rfl rfl
structure CV where
  ex : Ex
  st : St
  vw : Views
  hs : Q4i
  az : List Ans
  owed : List Prop
  asked : Q6s
def Q3k (m : Nat) : IR → Q4i → List Ans → Views → St → Option CV
 | .skip, hs, az, vw, s => some ⟨.normal, s, vw, hs, az, [], []⟩
 | .reg ops draw, hs, az, vw, s => (Qlk s.nx 0 ops hs az s.env s.heap vw).bind fun y => bif !draw || calm (ops.zip y.effs) 0 (ops.zip y.effs) then some ⟨.normal, ⟨y.env, y.heap, s.nx + 64 * ops.length⟩, y.vw, y.hs, y.az, y.owed, y.asked⟩ else none
 | .seq a b, hs, az, vw, s => (Q3k m a hs az vw s).bind fun x => (match x.ex with | .normal => (Q3k m b x.hs x.az x.vw x.st).bind fun y => some ⟨y.ex, y.st, y.vw, y.hs, y.az, x.owed ++ y.owed, x.asked ++ y.asked⟩ | _ => some x)
 | .cond c a b, hs, az, vw, s => (match c.ev (envF s.env) with | .bool t => (bif t then Q3k m a hs az vw s else Q3k m b hs az vw s) | _ => none)
 | .block id b, hs, az, vw, s => (Q3k m b hs az vw s).bind fun x => (match x.ex with | .exit j => (bif Nat.beq j id then some ⟨.normal, x.st, x.vw, x.hs, x.az, x.owed, x.asked⟩ else some x) | _ => some x)
 | .loop live b, hs, az, vw, s => (gcV vw m live s).bind fun y => (match az with
  | [] => none
  | a :: az' => (match a.r with | .st e s' => some ⟨e, s', a.vw, hs, az', y.2 ++ (a.vw.map fun p => Seen (look s'.heap p.1) p.2), [(.loop m live b y.1.1 y.1.2, a.r)]⟩ | _ => none))
 | .exit id, hs, az, vw, s => some ⟨.exit id, s, vw, hs, az, [], []⟩
 | .ret, hs, az, vw, s => some ⟨.ret, s, vw, hs, az, [], []⟩
theorem Q1c {G : Nat → Option Fun} {m : Nat} : ∀ (c : IR) (hs : Q4i) (az : List Ans) (vw : Views) (s : St) (t : CV), Q3k m c hs az vw s = some t → VOK (look s.heap) vw → Met t.owed → Told G t.asked → Q2j (lim G) m c s = some (t.ex, t.st) ∧ VOK (look t.st.heap) t.vw
  | .skip, hs, az, vw, s, t, ht, hv, _, _ => by
    simp only [Q3k, Option.some.injEq] at ht
    subst ht
    exact ⟨rfl, hv⟩
  | .reg ops draw, hs, az, vw, s, t, ht, hv, hm, hq => by
    simp only [Q3k] at ht
    obtain ⟨y, hy, ht⟩ := Qc ht
    cases hc : (!draw || calm (ops.zip y.effs) 0 (ops.zip y.effs)) with
    | false => rw [hc] at ht; cases ht
    | true =>
      rw [hc] at ht
      simp only [cond_true, Option.some.injEq] at ht
      subst ht
      obtain ⟨r1, r2⟩ := Qcl ops 0 hs az s.env s.heap vw y hy hv hm hq
      have h1 : ireg (lim G) ops draw s = some ⟨y.env, y.heap, s.nx + 64 * ops.length⟩ := by
        unfold ireg
        rw [r1, Option.bind_some]
        simp only
        rw [hc]
        rfl
      simp only [Q2j]
      rw [h1]
      exact ⟨rfl, r2⟩
  | .seq a b, hs, az, vw, s, t, ht, hv, hm, hq => by
    simp only [Q3k] at ht
    obtain ⟨x, hx, ht⟩ := Qc ht
    obtain ⟨ex, st, vw1, hs1, as1, ow1, ak1⟩ := x
    simp only [Q2j]
    cases ex with
    | normal =>
      simp only at ht
      obtain ⟨y, hy, ht⟩ := Qc ht
      simp only [Option.some.injEq] at ht
      subst ht
      obtain ⟨r1, r2⟩ := Q1c a hs az vw s _ hx hv hm.left hq.left
      rw [r1, Option.bind_some]
      exact Q1c b _ _ _ _ y hy r2 hm.right hq.right
    | exit j =>
      simp only [Option.some.injEq] at ht
      subst ht
      obtain ⟨r1, r2⟩ := Q1c a hs az vw s _ hx hv hm hq
      rw [r1, Option.bind_some]
      exact ⟨rfl, r2⟩
    | ret =>
      simp only [Option.some.injEq] at ht
      subst ht
      obtain ⟨r1, r2⟩ := Q1c a hs az vw s _ hx hv hm hq
      rw [r1, Option.bind_some]
      exact ⟨rfl, r2⟩
  | .cond c a b, hs, az, vw, s, t, ht, hv, hm, hq => by
    simp only [Q3k] at ht
    simp only [Q2j]
    split at ht
    · rename_i q hq'
      rw [hq']
      simp only
      cases q with
      | true => exact Q1c a hs az vw s t ht hv hm hq
      | false => exact Q1c b hs az vw s t ht hv hm hq
    · cases ht
  | .block id b, hs, az, vw, s, t, ht, hv, hm, hq => by
    simp only [Q3k] at ht
    obtain ⟨x, hx, ht⟩ := Qc ht
    obtain ⟨ex, st, vw1, hs1, as1, ow1, ak1⟩ := x
    simp only [Q2j]
    cases ex with
    | normal =>
      simp only [Option.some.injEq] at ht
      subst ht
      obtain ⟨r1, r2⟩ := Q1c b hs az vw s _ hx hv hm hq
      rw [r1, Option.bind_some]
      exact ⟨rfl, r2⟩
    | ret =>
      simp only [Option.some.injEq] at ht
      subst ht
      obtain ⟨r1, r2⟩ := Q1c b hs az vw s _ hx hv hm hq
      rw [r1, Option.bind_some]
      exact ⟨rfl, r2⟩
    | exit j =>
      simp only at ht
      cases hj : Nat.beq j id with
      | true =>
        rw [hj] at ht
        simp only [cond_true, Option.some.injEq] at ht
        subst ht
        obtain ⟨r1, r2⟩ := Q1c b hs az vw s _ hx hv hm hq
        rw [r1, Option.bind_some]
        simp only
        rw [hj]
        exact ⟨rfl, r2⟩
      | false =>
        rw [hj] at ht
        simp only [cond_false, Option.some.injEq] at ht
        subst ht
        obtain ⟨r1, r2⟩ := Q1c b hs az vw s _ hx hv hm hq
        rw [r1, Option.bind_some]
        simp only
        rw [hj]
        exact ⟨rfl, r2⟩
  | .loop live b, hs, az, vw, s, t, ht, hv, hm, hq => by
    simp only [Q3k] at ht
    obtain ⟨y, hy, ht⟩ := Qc ht
    simp only [Q2j]
    cases az with
    | nil => cases ht
    | cons a az' =>
      obtain ⟨r, avw⟩ := a
      cases r with
      | ret _ _ => cases ht
      | st e s' =>
        simp only [Option.some.injEq] at ht
        subst ht
        rw [Qlb hv hy hm.left, Option.bind_some, Qyq (hq _ List.mem_cons_self), Option.bind_some]
        refine ⟨rfl, fun id rows hl => ?_⟩
        exact hm.right _ (List.mem_map_of_mem (f := fun p : Nat × List (List PV) => Seen (look s'.heap p.1) p.2) (Qn9 hl))
  | .exit id, hs, az, vw, s, t, ht, hv, _, _ => by
    simp only [Q3k, Option.some.injEq] at ht
    subst ht
    exact ⟨rfl, hv⟩
  | .ret, hs, az, vw, s, t, ht, hv, _, _ => by
    simp only [Q3k, Option.some.injEq] at ht
    subst ht
    exact ⟨rfl, hv⟩
def finV (fn : IFn) (m : Nat) (vw : Views) (s : St) : Option (Rs × List Prop) :=
 (mapO (rv s) fn.res).bind fun vs =>
  let a := bif fn.keep then Q2m s.nx vs else (vs, s.nx, [])
  let H := look (s.heap ++ a.2.2)
  (Q5k (Q76 H vw fn.keep 8) a.1 (upTo m)).bind fun y =>
   (Q5g H vw false true 32 0 y.1.2.1).bind fun z =>
    bif disj (y.1.2.2 ++ z.1.2.2) z.1.2.1 then some (.ret (match y.1.1 with | [v] => v | l => .tup l) (regr m z.1.1), y.2 ++ z.2) else none
theorem Qft {fn : IFn} {m : Nat} {vw : Views} {s : St} (hv : VOK (look s.heap) vw) {y : Rs × List Prop} (h : finV fn m vw s = some y) (hm : Met y.2) : fin fn m s = some y.1 := by
 unfold finV at h
 unfold fin
 obtain ⟨vs, hvs, h⟩ := Qc h
 rw [hvs, Option.bind_some]
 simp only at h ⊢
 have hv' : VOK (look (s.heap ++ (bif fn.keep then Q2m s.nx vs else (vs, s.nx, [])).2.2)) vw := by
  intro id rows hl
  obtain ⟨ob, hob, hok⟩ := hv id rows hl
  refine ⟨ob, ?_, hok⟩
  rw [Qi9, hob]
 obtain ⟨x, hx, h⟩ := Qc h
 obtain ⟨z, hz, h⟩ := Qc h
 cases hd : disj (x.1.2.2 ++ z.1.2.2) z.1.2.1 with
 | false => rw [hd] at h; cases h
 | true =>
  rw [hd] at h
  simp only [cond_true, Option.some.injEq] at h
  subst h
  rw [Q1y (Q47 hv' 8) _ _ x hx hm.left, Option.bind_some, Q2o hv' 32 _ _ z hz hm.right, Option.bind_some, hd]
  rfl
def Qzk (fn : IFn) (args : List PV) (h : List Ob) (vw : Views) (hs : Q4i) (az : List Ans) : Option (Rs × List Prop × Q6s) :=
 bif Nat.beq args.length fn.np then
  (Q3k h.length fn.body hs az vw ⟨args ++ nuns (fn.nt - fn.np), number 0 h, h.length⟩).bind fun x =>
   (match x.ex with
    | .exit _ => none
    | _ => (finV fn h.length x.vw x.st).bind fun r => some (r.1, x.owed ++ r.2, x.asked))
 else none
theorem Q105 {G : Nat → Option Fun} {f : Nat} {fn : IFn} (hG : G f = some (.ir fn)) {args : List PV} {h : List Ob} {vw : Views} (hv : VOK (look (number 0 h)) vw) {hs : Q4i} {az : List Ans} {r : Rs} {ow : List Prop} {ak : Q6s} (hp : Met ow) (hq : Told G ak) (ht : Qzk fn args h vw hs az = some (r, ow, ak)) : Q7 G (.call f args h) r := by
 refine Qvt Qad ?_
 unfold Qzk at ht
 simp only [phi, hG]
 cases hl : Nat.beq args.length fn.np with
 | false => rw [hl] at ht; cases ht
 | true =>
  rw [hl] at ht
  simp only [cond_true] at ht ⊢
  obtain ⟨x, hx, ht⟩ := Qc ht
  obtain ⟨ex, st, vw1, hs1, as1, ow1, ak1⟩ := x
  cases ex with
  | exit j => cases ht
  | normal =>
   simp only at ht
   obtain ⟨r', hr, ht⟩ := Qc ht
   simp only [Option.some.injEq, Prod.mk.injEq] at ht
   obtain ⟨rfl, rfl, rfl⟩ := ht
   obtain ⟨r1, r2⟩ := Q1c _ hs az vw _ _ hx hv hp.left hq
   rw [r1, Option.bind_some]
   exact Qft r2 hr hp.right
  | ret =>
   simp only at ht
   obtain ⟨r', hr, ht⟩ := Qc ht
   simp only [Option.some.injEq, Prod.mk.injEq] at ht
   obtain ⟨rfl, rfl, rfl⟩ := ht
   obtain ⟨r1, r2⟩ := Q1c _ hs az vw _ _ hx hv hp.left hq
   rw [r1, Option.bind_some]
   exact Qft r2 hr hp.right
theorem VOK.nil {H : Nat → Option Ob} : VOK H [] := fun _ _ h => by cases h
def Qzv (m : Nat) (live : List Nat) (b : IR) (env : List PV) (h : List Ob) (vw : Views) (hs : Q4i) (az : List Ans) : Option ((List PV × List Ob) × List Prop × Q6s) :=
 (Q3k m b hs az vw ⟨env, number 0 h, h.length⟩).bind fun x => (match x.ex with | .normal => (gcV x.vw m live x.st).bind fun y => some (y.1, x.owed ++ y.2, x.asked) | _ => none)
theorem Qnn {G : Nat → Option Fun} {m : Nat} {live : List Nat} {b : IR} {env : List PV} {h : List Ob} {vw : Views} (hv : VOK (look (number 0 h)) vw) {hs : Q4i} {az : List Ans} {y : List PV × List Ob} {ow : List Prop} {ak : Q6s} {r : Rs} (hp : Met ow) (hq : Told G ak) (ht : Qzv m live b env h vw hs az = some (y, ow, ak)) (hr : Q7 G (.loop m live b y.1 y.2) r) : Q7 G (.loop m live b env h) r := by
 unfold Qzv at ht
 obtain ⟨x, hx, ht⟩ := Qc ht
 obtain ⟨ex, st, vw1, hs1, as1, ow1, ak1⟩ := x
 cases ex with
 | normal =>
  simp only at ht
  obtain ⟨y', hg, ht⟩ := Qc ht
  simp only [Option.some.injEq, Prod.mk.injEq] at ht
  obtain ⟨rfl, rfl, rfl⟩ := ht
  obtain ⟨r1, r2⟩ := Q1c _ hs az vw _ _ hx hv hp.left hq
  exact Qs4 Qad r1 (Qlb r2 hg hp.right) hr
 | exit j => cases ht
 | ret => cases ht
def Qu2 (m : Nat) (b : IR) (env : List PV) (h : List Ob) (vw : Views) (hs : Q4i) (az : List Ans) : Option ((Ex × St) × List Prop × Q6s) :=
 (Q3k m b hs az vw ⟨env, number 0 h, h.length⟩).bind fun x => (match x.ex with | .normal => none | e => some ((e, x.st), x.owed, x.asked))
theorem Qs5 {G : Nat → Option Fun} {m : Nat} {live : List Nat} {b : IR} {env : List PV} {h : List Ob} {vw : Views} (hv : VOK (look (number 0 h)) vw) {hs : Q4i} {az : List Ans} {x : Ex × St} {ow : List Prop} {ak : Q6s} (hp : Met ow) (hq : Told G ak) (ht : Qu2 m b env h vw hs az = some (x, ow, ak)) : Q7 G (.loop m live b env h) (.st x.1 x.2) := by
 unfold Qu2 at ht
 obtain ⟨y, hy, ht⟩ := Qc ht
 obtain ⟨ex, st, vw1, hs1, as1, ow1, ak1⟩ := y
 cases ex with
 | normal => cases ht
 | exit j =>
  simp only [Option.some.injEq, Prod.mk.injEq] at ht
  obtain ⟨rfl, rfl, rfl⟩ := ht
  exact Qd6 Qad (by intro h; cases h) (Q1c _ hs az vw _ _ hy hv hp hq).1
 | ret =>
  simp only [Option.some.injEq, Prod.mk.injEq] at ht
  obtain ⟨rfl, rfl, rfl⟩ := ht
  exact Qd6 Qad (by intro h; cases h) (Q1c _ hs az vw _ _ hy hv hp hq).1
end Go.Pv
end

