/- Texts of the claim, merged by a program; what the statement does not reach is left out. -/
import Derived.Test.YtnhhddbbppbblaaBPatchCompose1
import Derived.Orders
import Derived.LoopN
import Derived.ChangeArms
import Derived.ChangeSlices
import Derived.ChangeOld
import Derived.Carry
import GoSem.ClaimJoined
import Derived.Lib.SliceRun
import Derived.Test.YtnhhddbbppbblaaProg
import Derived.KernelRfl

section
/-
  A region, in whatever order.
-/
namespace Go.Pv
open Go.RowKit
def Qb2 (ops : Array Oper) : Option (Nat × Bool) → Option (Nat × Bool) → Bool
  | none, none => true
  | some (j, w), some (s, w') => (w == w') && Qiz ((ops[j]?).bind (·.dst)) s
  | _, _ => false
def Qkz : Option Nat → Option Nat → Bool
  | none, none => true
  | some a, some b => Nat.beq a b
  | _, _ => false
def Q64 (P : Program) (ops : Array Oper) (o : Oper) (io : IOper) : Bool := Qkz o.dst io.dst && Qb2 ops o.guard io.guard && Qpo P o.op io.op
def Qat (P : Program) (ops : Array Oper) : List Oper → List IOper → Bool
  | [], [] => true
  | o :: r, io :: r' => Q64 P ops o io && Qat P ops r r'
  | _, _ => false
def Q12x (ios : List IOper) (k : Nat) : List Nat :=
  match ios[k]? with
  | some io => io.bef
  | none => []
def Qn4 (ios : List IOper) : Nat → List Oper → List IOper → Bool
  | j, o :: r, io :: r' =>
    (io.bef.all fun i => o.after.toList.any fun e => Region.binds .any e && (Nat.beq e.on i || has (Q12x ios e.on) i)) &&
      (o.after.toList.all fun e => !(Region.binds .any e) || Nat.blt e.on j) && Qn4 ios (j + 1) r r'
  | _, _, _ => true
theorem Q8i {a b : Option Nat} (h : Qkz a b = true) : a = b := by
  cases a <;> cases b <;> first | rfl | (cases h; done) | exact congrArg some (Nat.eq_of_beq_eq_true h)
theorem Q8g {P : Program} {ops : Array Oper} : ∀ {l : List Oper} {l' : List IOper}, Qat P ops l l' = true → l.length = l'.length ∧ ∀ (i : Nat) o io, l[i]? = some o → l'[i]? = some io → Q64 P ops o io = true
  | [], [], _ => ⟨rfl, fun i o io h => by simp at h⟩
  | [], _ :: _, h => by cases h
  | _ :: _, [], h => by cases h
  | o :: r, io :: r', h => by
    simp only [Qat, Bool.and_eq_true] at h
    obtain ⟨h1, h2⟩ := Q8g h.2
    refine ⟨by simp [h1], fun i o' io' ho hio => ?_⟩
    cases i with
    | zero =>
      simp at ho hio
      subst ho hio
      exact h.1
    | succ i => exact h2 i o' io' (by simpa using ho) (by simpa using hio)
theorem Qdg {ios : List IOper} : ∀ {j : Nat} {l : List Oper} {l' : List IOper}, Qn4 ios j l l' = true → ∀ (i : Nat) o io, l[i]? = some o → l'[i]? = some io →
    (∀ k ∈ io.bef, ∃ e ∈ o.after, Region.binds .any e = true ∧ (e.on = k ∨ k ∈ Q12x ios e.on)) ∧ ∀ e ∈ o.after, Region.binds .any e = true → e.on < j + i
  | j, [], l', _, i, o, io, ho, _ => by simp at ho
  | j, _ :: _, [], _, i, o, io, _, hio => by simp at hio
  | j, o :: r, io :: r', h, i, o', io', ho, hio => by
    simp only [Qn4, Bool.and_eq_true] at h
    cases i with
    | zero =>
      simp at ho hio
      subst ho hio
      refine ⟨fun k hk => ?_, fun e he hb => ?_⟩
      · have := List.all_eq_true.1 h.1.1 k hk
        obtain ⟨e, he, hb⟩ := List.any_eq_true.1 this
        rw [Bool.and_eq_true, Bool.or_eq_true] at hb
        exact ⟨e, by simpa using he, hb.1, hb.2.imp Nat.eq_of_beq_eq_true Q4o.1⟩
      · have := List.all_eq_true.1 h.1.2 e (by simpa using he)
        rw [Bool.or_eq_true] at this
        rcases this with h' | h'
        · rw [hb] at h'; cases h'
        · exact Nat.le_of_ble_eq_true h'
    | succ i =>
      obtain ⟨h1, h2⟩ := Qdg h.2 i o' io' (by simpa using ho) (by simpa using hio)
      exact ⟨h1, fun e he hb => by have := h2 e he hb; omega⟩
def Last {β : Type} (W : Nat → Nat → Option β) (s0 : Nat → β) (S : Nat → Prop) (s : Nat → β) : Prop :=
  ∀ t, (∃ k, S k ∧ W k t = some (s t) ∧ ∀ k', S k' → k < k' → W k' t = none) ∨ ((∀ k, S k → W k t = none) ∧ s t = s0 t)
section
variable {β : Type} {W : Nat → Nat → Option β} {s0 : Nat → β}
theorem Last.det {S S' : Nat → Prop} {s s' : Nat → β} (h : Last W s0 S s) (h' : Last W s0 S' s') {t : Nat} (hs : ∀ k, W k t ≠ none → (S k ↔ S' k)) : s t = s' t := by
  rcases h t with ⟨k, h1, h2, h3⟩ | ⟨h1, h2⟩ <;> rcases h' t with ⟨k', g1, g2, g3⟩ | ⟨g1, g2⟩
  · rcases Nat.lt_trichotomy k k' with c | c | c
    · have := h3 k' ((hs k' (by rw [g2]; exact fun h => by cases h)).2 g1) c
      rw [g2] at this; cases this
    · subst c
      rw [h2] at g2
      injection g2
    · have := g3 k ((hs k (by rw [h2]; exact fun h => by cases h)).1 h1) c
      rw [h2] at this; cases this
  · have := g1 k ((hs k (by rw [h2]; exact fun h => by cases h)).1 h1)
    rw [h2] at this; cases this
  · have := h1 k' ((hs k' (by rw [g2]; exact fun h => by cases h)).2 g1)
    rw [g2] at this; cases this
  · rw [h2, g2]
theorem Last.add {S S' : Nat → Prop} {s s' : Nat → β} {i : Nat} (h : Last W s0 S s) (hS : ∀ k, S' k ↔ S k ∨ k = i) (hi : ∀ k t, S k → i < k → W k t ≠ none → W i t = none) (hs : ∀ t, s' t = (W i t).getD (s t)) : Last W s0 S' s' := by
  intro t
  cases hw : W i t with
  | some v =>
    refine .inl ⟨i, (hS i).2 (.inr rfl), by rw [hs t, hw]; rfl, fun k' hk hlt => ?_⟩
    rcases (hS k').1 hk with hk | rfl
    · cases hk' : W k' t with
      | none => rfl
      | some u =>
        have := hi k' t hk hlt (by rw [hk']; exact fun h => by cases h)
        rw [hw] at this; cases this
    · omega
  | none =>
    have e : s' t = s t := by rw [hs t, hw]; rfl
    rw [e]
    rcases h t with ⟨k, h1, h2, h3⟩ | ⟨h1, h2⟩
    · refine .inl ⟨k, (hS k).2 (.inl h1), h2, fun k' hk hlt => ?_⟩
      rcases (hS k').1 hk with hk | rfl
      · exact h3 k' hk hlt
      · exact hw
    · refine .inr ⟨fun k hk => ?_, h2⟩
      rcases (hS k).1 hk with hk | rfl
      · exact h1 k hk
      · exact hw
theorem Last.none {S : Nat → Prop} (h : ∀ k, ¬ S k) : Last W s0 S s0 := fun _ => .inr ⟨fun k hk => absurd hk (h k), rfl⟩
end
theorem Qr9 {l : List PV} {d : Option Nat} {v : PV} {t : Nat} : envF (put l d v) t = if d = some t ∧ t < l.length then v else envF l t := by
  unfold put envF
  cases d with
  | none => simp
  | some d =>
    by_cases c : d = t
    · subst c
      by_cases c' : d < l.length
      · simp [c']
      · simp [c']
    · simp [c, List.getElem?_set_ne c]
theorem Qhi {l : List PV} {d : Option Nat} {v : PV} : (put l d v).length = l.length := by
  unfold put
  cases d <;> simp
theorem Qxy {h : List (Nat × Ob)} {id j : Nat} {ob : Ob} : look (hput.repl h id ob) j = if j = id then some ob else look h j := by
  induction h with
  | nil =>
    simp only [hput.repl, look]
    by_cases c : id = j
    · subst c; simp
    · have : Nat.beq id j = false := by rw [Bool.eq_false_iff]; exact fun h => c (Nat.eq_of_beq_eq_true h)
      simp [this, Ne.symm c]
  | cons y r ih =>
    obtain ⟨k, x⟩ := y
    simp only [hput.repl]
    by_cases c : k = id
    · subst c
      simp only [Nat.beq_refl, cond_true, look]
      by_cases c' : k = j
      · subst c'; simp
      · have : Nat.beq k j = false := by rw [Bool.eq_false_iff]; exact fun h => c' (Nat.eq_of_beq_eq_true h)
        simp [this, Ne.symm c']
    · have : Nat.beq k id = false := by rw [Bool.eq_false_iff]; exact fun h => c (Nat.eq_of_beq_eq_true h)
      simp only [this, cond_false, look, ih]
      by_cases c' : k = j
      · subst c'; simp [c]
      · have : Nat.beq k j = false := by rw [Bool.eq_false_iff]; exact fun h => c' (Nat.eq_of_beq_eq_true h)
        simp [this]
theorem Qxw {h : List (Nat × Ob)} {id j : Nat} : look (hput.drop h id) j = if j = id then none else look h j := by
  induction h with
  | nil => simp [hput.drop, look]
  | cons y r ih =>
    obtain ⟨k, x⟩ := y
    simp only [hput.drop]
    by_cases c : k = id
    · subst c
      simp only [Nat.beq_refl, cond_true, look, ih]
      by_cases c' : k = j
      · subst c'; simp
      · have : Nat.beq k j = false := by rw [Bool.eq_false_iff]; exact fun h => c' (Nat.eq_of_beq_eq_true h)
        simp [this]
    · have : Nat.beq k id = false := by rw [Bool.eq_false_iff]; exact fun h => c (Nat.eq_of_beq_eq_true h)
      simp only [this, cond_false, look, ih]
      by_cases c' : k = j
      · subst c'; simp [c]
      · have : Nat.beq k j = false := by rw [Bool.eq_false_iff]; exact fun h => c' (Nat.eq_of_beq_eq_true h)
        simp [this]
theorem Q4d : ∀ (ws : List (Nat × Option Ob)) (h : List (Nat × Ob)), look (hput h ws) = upH (look h) ws
  | [], h => rfl
  | (id, some ob) :: r, h => by
    rw [hput, Q4d r, upH]
    congr 1
    funext j
    exact Qxy
  | (id, none) :: r, h => by
    rw [hput, Q4d r, upH]
    congr 1
    funext j
    exact Qxw
theorem Qc7 : ∀ {ws : List (Nat × Option Ob)} {H H' : Nat → Option Ob} {j : Nat}, (∃ x ∈ ws, x.1 = j) → upH H ws j = upH H' ws j
  | [], _, _, _, h => by obtain ⟨x, hx, _⟩ := h; cases hx
  | (id, o) :: r, H, H', j, h => by
    rw [upH, upH]
    by_cases c : ∃ y ∈ r, y.1 = j
    · exact Qc7 c
    · rw [Q45 (fun y hy e => c ⟨y, hy, e⟩), Q45 (fun y hy e => c ⟨y, hy, e⟩)]
      obtain ⟨y, hy, rfl⟩ := h
      rcases List.mem_cons.1 hy with rfl | hy
      · simp
      · exact absurd ⟨y, hy, rfl⟩ c
def WE (L : Nat) (ios : List IOper) (xs : List Eff) (k t : Nat) : Option PV :=
  match ios[k]?, xs[k]? with
  | some o, some x => if o.dst = some t ∧ t < L then some x.v else none
  | _, _ => none
def WH (xs : List Eff) (k id : Nat) : Option (Option Ob) :=
  match xs[k]? with
  | some x => bif has (x.hw.map (·.1)) id then some (upH (fun _ => none) x.hw id) else none
  | none => none
theorem Qyi {L : Nat} {ios : List IOper} {xs : List Eff} {k t : Nat} {o : IOper} {x : Eff} (ho : ios[k]? = some o) (hx : xs[k]? = some x) (p : PV) : (WE L ios xs k t).getD p = if o.dst = some t ∧ t < L then x.v else p := by
  unfold WE
  rw [ho, hx]
  simp only
  split <;> rfl
theorem Qx7 {xs : List Eff} {k id : Nat} {x : Eff} (hx : xs[k]? = some x) (H : Nat → Option Ob) : (WH xs k id).getD (H id) = upH H x.hw id := by
  unfold WH
  rw [hx]
  simp only
  cases hh : has (x.hw.map (·.1)) id with
  | true =>
    have := Q4o.1 hh
    obtain ⟨y, hy, e⟩ := List.mem_map.1 this
    exact Qc7 ⟨y, hy, e⟩
  | false =>
    show H id = _
    rw [Q45 (fun y hy e => by rw [Q4o.2 (List.mem_map.2 ⟨y, hy, e⟩)] at hh; cases hh)]
theorem Q14k {L : Nat} {ios : List IOper} {xs : List Eff} {k t : Nat} (h : WE L ios xs k t ≠ none) : ∃ o x, ios[k]? = some o ∧ xs[k]? = some x ∧ o.dst = some t ∧ t < L := by
  unfold WE at h
  split at h
  · rename_i o x ho hx
    split at h
    · rename_i hc; exact ⟨o, x, ho, hx, hc.1, hc.2⟩
    · exact absurd rfl h
  · exact absurd rfl h
theorem Q12c {L : Nat} {ios : List IOper} {xs : List Eff} {k t : Nat} {o : IOper} (ho : ios[k]? = some o) (h : o.dst ≠ some t) : WE L ios xs k t = none := by
  unfold WE
  rw [ho]
  cases xs[k]? with
  | none => rfl
  | some x =>
    simp only
    rw [if_neg (fun hc => h hc.1)]
theorem Q14r {xs : List Eff} {k id : Nat} (h : WH xs k id ≠ none) : ∃ x, xs[k]? = some x ∧ id ∈ x.hw.map (·.1) := by
  unfold WH at h
  split at h
  · rename_i x hx
    cases hh : has (x.hw.map (·.1)) id with
    | true => exact ⟨x, hx, Q4o.1 hh⟩
    | false => rw [hh] at h; exact absurd rfl h
  · exact absurd rfl h
theorem Q13b {xs : List Eff} {k id : Nat} {x : Eff} (hx : xs[k]? = some x) (h : id ∉ x.hw.map (·.1)) : WH xs k id = none := by
  unfold WH
  rw [hx]
  simp only
  cases hh : has (x.hw.map (·.1)) id with
  | true => exact absurd (Q4o.1 hh) h
  | false => rfl
theorem Q9w {X : Orc} {nx : Nat} {ios : List IOper} {xs : List Eff} {L : Nat} {e0 : Nat → PV} {H0 : Nat → Option Ob} : ∀ (r : List IOper) (i : Nat) (env : List PV) (h : List (Nat × Ob)) (y : List PV × List (Nat × Ob) × List Eff),
    Q3i X nx i r env h = some y → (∀ j, r[j]? = ios[i + j]?) → (∀ j, y.2.2[j]? = xs[i + j]?) → env.length = L → Last (WE L ios xs) e0 (· < i) (envF env) → Last (WH xs) H0 (· < i) (look h) →
      y.2.2.length = r.length ∧ y.1.length = L ∧ (∀ (j : Nat) o x, i ≤ j → ios[j]? = some o → xs[j]? = some x → ∃ e H, Last (WE L ios xs) e0 (· < j) e ∧ Last (WH xs) H0 (· < j) H ∧ Q4q X e H (nx + 64 * j) o = some x) ∧
        Last (WE L ios xs) e0 (· < i + r.length) (envF y.1) ∧ Last (WH xs) H0 (· < i + r.length) (look y.2.1)
  | [], i, env, h, y, hy, hr, hx, hL, l1, l2 => by
    simp only [Q3i, Option.some.injEq] at hy
    subst hy
    refine ⟨rfl, hL, fun j o x hj ho _ => ?_, l1, l2⟩
    have := hr (j - i)
    rw [show i + (j - i) = j by omega, ho] at this
    simp at this
  | o :: r, i, env, h, y, hy, hr, hx, hL, l1, l2 => by
    simp only [Q3i] at hy
    obtain ⟨x, hst, hy⟩ := bind_some hy
    obtain ⟨z, hz, hy⟩ := bind_some hy
    injection hy with hy
    subst hy
    have ho : ios[i]? = some o := by have := hr 0; simpa using this.symm
    have hxi : xs[i]? = some x := by have := hx 0; simpa using this.symm
    have n1 : Last (WE L ios xs) e0 (· < i + 1) (envF (put env o.dst x.v)) := l1.add (i := i) (fun k => by omega) (fun k t hk hlt => by omega) (fun t => by rw [Qyi ho hxi, Qr9, hL])
    have n2 : Last (WH xs) H0 (· < i + 1) (look (hput h x.hw)) := l2.add (i := i) (fun k => by omega) (fun k t hk hlt => by omega) (fun t => by rw [Qx7 hxi, Q4d])
    obtain ⟨g1, g2, g3, g4, g5⟩ := Q9w r (i + 1) _ _ z hz (fun j => by have := hr (j + 1); rw [show i + (j + 1) = i + 1 + j by omega] at this; simpa using this)
      (fun j => by have := hx (j + 1); rw [show i + (j + 1) = i + 1 + j by omega] at this; simpa using this) (by rw [Qhi, hL]) n1 n2
    refine ⟨by simp [g1], g2, fun j o' x' hj ho' hx' => ?_, ?_, ?_⟩
    · by_cases c : j = i
      · subst c
        rw [ho] at ho'
        injection ho' with ho'
        rw [hxi] at hx'
        injection hx' with hx'
        subst ho' hx'
        exact ⟨_, _, l1, l2, hst⟩
      · exact g3 j o' x' (by omega) ho' hx'
    · rw [show i + (o :: r).length = i + 1 + r.length by simp; omega]; exact g4
    · rw [show i + (o :: r).length = i + 1 + r.length by simp; omega]; exact g5
theorem Qfp {j : Nat} {b : IOper} {y : Eff} : ∀ {i : Nat} {l : List (IOper × Eff)}, Q119 j b y i l = true → ∀ (k : Nat) a x, l[k]? = some (a, x) → i + k = j ∨ i + k ∈ b.bef ∨ clash a x b y = false
  | i, [], _, k, a, x, h => by simp at h
  | i, (a, x) :: r, h, k, a', x', hk => by
    simp only [Q119, Bool.and_eq_true, Bool.or_eq_true] at h
    cases k with
    | zero =>
      simp at hk
      obtain ⟨rfl, rfl⟩ := hk
      rcases h.1 with (h1 | h1) | h1
      · exact .inl (Nat.eq_of_beq_eq_true h1)
      · exact .inr (.inl (Q4o.1 h1))
      · exact .inr (.inr (by simpa using h1))
    | succ k =>
      have := Qfp h.2 k a' x' (by simpa using hk)
      rw [show i + (k + 1) = i + 1 + k by omega]
      exact this
theorem Qo3 {all : List (IOper × Eff)} : ∀ {j : Nat} {l : List (IOper × Eff)}, calm all j l = true → (∀ k, l[k]? = all[j + k]?) → ∀ (i k : Nat) a x b y, j ≤ k → i < k → all[i]? = some (a, x) → all[k]? = some (b, y) → i ∈ b.bef ∨ clash a x b y = false
  | j, [], _, hl, i, k, a, x, b, y, hj, _, _, hk => by
    have := hl (k - j)
    rw [show j + (k - j) = k by omega, hk] at this
    simp at this
  | j, (b', y') :: r, h, hl, i, k, a, x, b, y, hj, hik, hi, hk => by
    simp only [calm, Bool.and_eq_true] at h
    by_cases c : k = j
    · subst c
      have h0 := hl 0
      rw [Nat.add_zero, hk] at h0
      simp at h0
      obtain ⟨rfl, rfl⟩ := h0
      have := Qfp h.1 i a x (by rw [List.getElem?_take_of_lt hik]; exact hi)
      rcases this with h' | h' | h'
      · omega
      · exact .inl (by simpa using h')
      · exact .inr h'
    · exact Qo3 h.2 (fun q => by have := hl (q + 1); rw [show j + (q + 1) = j + 1 + q by omega] at this; simpa using this) i k a x b y (by omega) hik hi hk
theorem Qgn {l : List Nat} {d : Option Nat} : Qod l d = false ↔ ∀ t, d = some t → t ∉ l := by
  cases d with
  | none => simp [Qod]
  | some d =>
    simp only [Qod, Option.some.injEq]
    constructor
    · rintro h t rfl ht
      rw [Q4o.2 ht] at h; cases h
    · intro h
      cases hh : has l d with
      | false => rfl
      | true => exact absurd (Q4o.1 hh) (h d rfl)
theorem Q42 {a b : IOper} {x y : Eff} (h : clash a x b y = false) :
    (∀ t, a.dst = some t → t ∉ b.looks) ∧ (∀ t, b.dst = some t → t ∉ a.looks) ∧ (∀ t, a.dst = some t → b.dst ≠ some t) ∧ (∀ id ∈ x.hw.map (·.1), id ∉ y.hr ∧ id ∉ y.hw.map (·.1)) ∧ (∀ id ∈ y.hw.map (·.1), id ∉ x.hr) := by
  unfold clash at h
  simp only [Bool.or_eq_false_iff, Bool.not_eq_false'] at h
  obtain ⟨⟨⟨⟨h1, h2⟩, h3⟩, h4⟩, h5⟩ := h
  refine ⟨Qgn.1 h1, Qgn.1 h2, fun t ha hb => ?_, fun id hi => ?_, Qay.1 h5⟩
  · rw [ha, hb] at h3
    simp [Q14m] at h3
  · have := Qay.1 h4 id hi
    exact ⟨fun hc => this (List.mem_append_left _ hc), fun hc => this (List.mem_append_right _ hc)⟩
theorem Q80 : ∀ (h : List (Nat × Ob)) (id : Nat), look (h.map fun x => (x.1, Qab x.2)) id = (look h id).map Qab
  | [], _ => rfl
  | (k, o) :: r, id => by
    simp only [List.map_cons, look]
    cases Nat.beq k id with
    | true => rfl
    | false => exact Q80 r id
end Go.Pv
end

section
/-
  Runs along a trace, over objects of which only their rows are known (views); what calls and loops answer is handed in.
-/
namespace Go.Pv
abbrev Views := List (Nat × List (List PV))
def plain : PV → Bool
  | .bool _ => true
  | .int _ _ => true
  | .str _ => true
  | .sl _ => true
  | .np => true
  | .nf => true
  | _ => false
structure ViewOK (sz : Nat) (cells : List PV) (rows : List (List PV)) : Prop where
  flat : cells = rows.flatten
  size : ∀ r ∈ rows, r.length = sz
  plain : ∀ r ∈ rows, ∀ p ∈ r, plain p = true
def VOK (H : Nat → Option Ob) (vw : Views) : Prop := ∀ id rows, look vw id = some rows → ∃ ob, H id = some ob ∧ ViewOK ob.sz ob.cells rows
def Met (l : List Prop) : Prop := ∀ p ∈ l, p
theorem Met.nil : Met [] := fun _ h => absurd h List.not_mem_nil
theorem Met.cons {p : Prop} {l : List Prop} (h : p) (hl : Met l) : Met (p :: l) := fun q hq => by
  rcases List.mem_cons.1 hq with rfl | hq
  · exact h
  · exact hl q hq
theorem Met.left {a b : List Prop} (h : Met (a ++ b)) : Met a := fun p hp => h p (List.mem_append_left _ hp)
theorem Met.right {a b : List Prop} (h : Met (a ++ b)) : Met b := fun p hp => h p (List.mem_append_right _ hp)
theorem Met.head {p : Prop} {l : List Prop} (h : Met (p :: l)) : p := h p List.mem_cons_self
theorem Met.tail {p : Prop} {l : List Prop} (h : Met (p :: l)) : Met l := fun q hq => h q (List.mem_cons_of_mem _ hq)
def mapV {α β : Type} (f : α → Option (β × List Prop)) : List α → Option (List β × List Prop)
  | [] => some ([], [])
  | x :: r => (f x).bind fun y => (mapV f r).bind fun l => some (y.1 :: l.1, y.2 ++ l.2)
theorem Q43 {α β : Type} {f : α → Option (β × List Prop)} {g : α → Option β} (hf : ∀ a y, f a = some y → Met y.2 → g a = some y.1) : ∀ (l : List α) (y : List β × List Prop), mapV f l = some y → Met y.2 → mapO g l = some y.1
  | [], y, h, _ => by
    simp only [mapV, Option.some.injEq] at h
    subst h
    rfl
  | a :: r, y, h, hm => by
    obtain ⟨b, hb, h⟩ := Qh h
    obtain ⟨l, hl, h⟩ := Qh h
    simp only [Option.some.injEq] at h
    subst h
    simp only [mapO]
    rw [hf a b hb hm.left, Option.bind_some, Q43 hf r l hl hm.right]
    rfl
def fzV (H : Nat → Option Ob) (vw : Views) : Nat → PV → Option ((PV × List Nat) × List Prop)
  | 0, _ => none
  | n + 1, v =>
    match v with
    | .bx _ _ => none
    | .ns _ => some ((.sl [], []), [])
    | .ms id sz off len =>
      (H id).bind fun ob =>
        match look vw id with
        | some rows => bif Nat.beq ob.sz sz && (Nat.beq off 0 && Nat.ble 1 n) then some ((.sl rows, [id]), [len = rows.length]) else none
        | none =>
          bif Nat.beq ob.sz sz && Nat.ble ((off + len) * sz) ob.cells.length then
            (mapV (fzV H vw n) ((ob.cells.drop (off * sz)).take (len * sz))).bind fun l =>
              some ((.sl (rowsOf sz len (l.1.map (·.1))), id :: (l.1.map (·.2)).flatten), l.2)
          else none
    | .agg c => (mapV (fzV H vw n) c).bind fun l => some ((.agg (l.1.map (·.1)), (l.1.map (·.2)).flatten), l.2)
    | .tup c => (mapV (fzV H vw n) c).bind fun l => some ((.tup (l.1.map (·.1)), (l.1.map (·.2)).flatten), l.2)
    | .fn f a b => (mapV (fzV H vw n) a).bind fun l => (mapV (fzV H vw n) b).bind fun m => some ((.fn f (l.1.map (·.1)) (m.1.map (·.1)), (l.1.map (·.2)).flatten ++ (m.1.map (·.2)).flatten), l.2 ++ m.2)
    | v => some ((v, []), [])
theorem Qgj {H : Nat → Option Ob} {n : Nat} : ∀ (l : List PV), (∀ p ∈ l, plain p = true) → mapO (fz H (n + 1)) l = some (l.map fun p => (p, []))
  | [], _ => rfl
  | p :: r, h => by
    have h1 : fz H (n + 1) p = some (p, []) := by
      have := h p List.mem_cons_self
      cases p <;> first | rfl | (simp [plain] at this)
    simp only [mapO]
    rw [h1, Option.bind_some, Qgj r (fun q hq => h q (List.mem_cons_of_mem _ hq))]
    rfl
theorem Qa4 {α β : Type} : ∀ (l : List α), (l.map fun _ => ([] : List β)).flatten = []
  | [] => rfl
  | _ :: r => by simp [Qa4 r]
theorem Qby (sz : Nat) : ∀ (rows : List (List PV)), (∀ r ∈ rows, r.length = sz) → rowsOf sz rows.length rows.flatten = rows
  | [], _ => rfl
  | r :: rs, h => by
    have h0 := h r List.mem_cons_self
    simp only [List.length_cons, rowsOf, List.flatten_cons]
    rw [List.take_left' h0, List.drop_left' h0, Qby sz rs (fun q hq => h q (List.mem_cons_of_mem _ hq))]
theorem Q38 (sz : Nat) : ∀ (rows : List (List PV)), (∀ r ∈ rows, r.length = sz) → rows.flatten.length = rows.length * sz
  | [], _ => by simp
  | r :: rs, h => by
    simp only [List.flatten_cons, List.length_append, List.length_cons]
    rw [Q38 sz rs (fun q hq => h q (List.mem_cons_of_mem _ hq)), h r List.mem_cons_self, Nat.add_mul]
    omega
theorem ViewOK.all {sz : Nat} {cells : List PV} {rows : List (List PV)} (h : ViewOK sz cells rows) : ∀ p ∈ cells, Pv.plain p = true := fun p hp => by
  rw [h.flat] at hp
  obtain ⟨r, hr, hp⟩ := List.mem_flatten.1 hp
  exact h.plain r hr p hp
theorem Q12e {H : Nat → Option Ob} {n k : Nat} (hk : k = n + 1) {id sz len : Nat} {ob : Ob} {rows : List (List PV)} (hH : H id = some ob) (hv : ViewOK ob.sz ob.cells rows) (hs : ob.sz = sz) (hl : len = rows.length) : fz H (k + 1) (.ms id sz 0 len) = some (.sl rows, [id]) := by
  subst hs hl
  have hc : ob.cells.length = rows.length * ob.sz := by rw [hv.flat]; exact Q38 _ _ hv.size
  simp only [fz]
  rw [hH, Option.bind_some]
  have hb : (Nat.beq ob.sz ob.sz && Nat.ble ((0 + rows.length) * ob.sz) ob.cells.length) = true := by
    rw [hc]
    simp
  rw [hb]
  simp only [cond_true, Nat.zero_mul, List.drop_zero]
  rw [← hc, List.take_length]
  have := Qgj (H := H) (n := n) ob.cells hv.all
  rw [hk, this, Option.bind_some]
  simp only [List.map_map, Option.some.injEq, Prod.mk.injEq]
  refine ⟨?_, ?_⟩
  · have e2 : List.map ((fun x : PV × List Nat => x.fst) ∘ fun p => (p, ([] : List Nat))) ob.cells = ob.cells := by
      rw [show ((fun x : PV × List Nat => x.fst) ∘ fun p => (p, ([] : List Nat))) = fun p => p from rfl]
      exact List.map_id' _
    rw [e2, hv.flat, Qby _ _ hv.size]
  · have e2 : ((fun x : PV × List Nat => x.snd) ∘ fun p => (p, ([] : List Nat))) = fun _ => [] := rfl
    rw [e2, Qa4]
theorem Qof {H : Nat → Option Ob} {vw : Views} (hv : VOK H vw) : ∀ (n : Nat) (v : PV) (y : (PV × List Nat) × List Prop), fzV H vw n v = some y → Met y.2 → fz H n v = some y.1
  | 0, v, y, h, _ => by cases h
  | n + 1, v, y, h, hm => by
    have ih := Qof hv n
    cases v with
    | ms id sz off len =>
      simp only [fzV] at h
      obtain ⟨ob, hob, h⟩ := Qh h
      cases hl : look vw id with
      | some rows =>
        rw [hl] at h
        simp only at h
        obtain ⟨ob', hob', hok⟩ := hv id rows hl
        rw [hob] at hob'
        injection hob' with hob'
        subst hob'
        cases hc : (Nat.beq ob.sz sz && (Nat.beq off 0 && Nat.ble 1 n)) with
        | false => rw [hc] at h; cases h
        | true =>
          rw [hc] at h
          simp only [cond_true, Option.some.injEq] at h
          subst h
          simp only [Bool.and_eq_true] at hc
          obtain ⟨c1, c2, c3⟩ := hc
          have c2 := Nat.eq_of_beq_eq_true c2
          have c1 := Nat.eq_of_beq_eq_true c1
          have c3 := Nat.le_of_ble_eq_true c3
          subst c2
          obtain ⟨m, rfl⟩ : ∃ m, n = m + 1 := ⟨n - 1, by omega⟩
          exact Q12e rfl hob hok c1 hm.head
      | none =>
        rw [hl] at h
        simp only at h
        simp only [fz]
        rw [hob, Option.bind_some]
        cases hc : (Nat.beq ob.sz sz && Nat.ble ((off + len) * sz) ob.cells.length) with
        | false => rw [hc] at h; cases h
        | true =>
          rw [hc] at h
          simp only [cond_true] at h ⊢
          obtain ⟨l, hl, h⟩ := Qh h
          simp only [Option.some.injEq] at h
          subst h
          rw [Q43 ih _ l hl hm, Option.bind_some]
    | agg c =>
      simp only [fzV] at h
      obtain ⟨l, hl, h⟩ := Qh h
      simp only [Option.some.injEq] at h
      subst h
      simp only [fz]
      rw [Q43 ih _ l hl hm, Option.bind_some]
    | tup c =>
      simp only [fzV] at h
      obtain ⟨l, hl, h⟩ := Qh h
      simp only [Option.some.injEq] at h
      subst h
      simp only [fz]
      rw [Q43 ih _ l hl hm, Option.bind_some]
    | fn f a b =>
      simp only [fzV] at h
      obtain ⟨l, hl, h⟩ := Qh h
      obtain ⟨m, hm2, h⟩ := Qh h
      simp only [Option.some.injEq] at h
      subst h
      simp only [fz]
      rw [Q43 ih _ l hl hm.left, Option.bind_some, Q43 ih _ m hm2 hm.right, Option.bind_some]
    | bx _ _ => cases h
    | _ =>
      simp only [fzV, Option.some.injEq] at h
      subst h
      rfl
def Q5m (f : PV → List Nat → Option (Pass × List Prop)) : List PV → List Nat → Option ((List PV × List Nat × List Nat) × List Prop)
  | [], ids => some (([], ids, []), [])
  | p :: r, ids => (f p ids).bind fun x => (Q5m f r x.1.ids).bind fun y => some ((x.1.v :: y.1.1, y.1.2.1, x.1.fr ++ y.1.2.2), x.2 ++ y.2)
theorem Q2a {f : PV → List Nat → Option (Pass × List Prop)} {g : PV → List Nat → Option Pass} (hf : ∀ a ids y, f a ids = some y → Met y.2 → g a ids = some y.1) : ∀ (l : List PV) (ids : List Nat) (y : (List PV × List Nat × List Nat) × List Prop), Q5m f l ids = some y → Met y.2 → Q3a g l ids = some y.1
  | [], ids, y, h, _ => by
    simp only [Q5m, Option.some.injEq] at h
    subst h
    rfl
  | a :: r, ids, y, h, hm => by
    simp only [Q5m] at h
    obtain ⟨b, hb, h⟩ := Qh h
    obtain ⟨l, hl, h⟩ := Qh h
    simp only [Option.some.injEq] at h
    subst h
    simp only [Q3a]
    rw [hf a ids b hb hm.left, Option.bind_some, Q2a hf r _ l hl hm.right]
    rfl
def Q7e (H : Nat → Option Ob) (vw : Views) (byRef : Bool) : Nat → PV → List Nat → Option (Pass × List Prop)
  | 0, _, _ => none
  | n + 1, v, ids =>
    match v with
    | .bx id off => let x := Qj0 ids id; some (⟨.bx x.1 off, x.2, []⟩, [])
    | .ms id sz off len =>
      bif byRef then (let x := Qj0 ids id; some (⟨.ms x.1 sz off len, x.2, []⟩, []))
      else (fzV H vw 8 (.ms id sz off len)).bind fun x => some (⟨x.1.1, ids, x.1.2⟩, x.2)
    | .ns _ => some (⟨.sl [], ids, []⟩, [])
    | .agg c => (Q5m (Q7e H vw byRef n) c ids).bind fun y => some (⟨.agg y.1.1, y.1.2.1, y.1.2.2⟩, y.2)
    | .tup c => (Q5m (Q7e H vw byRef n) c ids).bind fun y => some (⟨.tup y.1.1, y.1.2.1, y.1.2.2⟩, y.2)
    | .fn f a b => (Q5m (Q7e H vw byRef n) a ids).bind fun y => (Q5m (Q7e H vw byRef n) b y.1.2.1).bind fun z => some (⟨.fn f y.1.1 z.1.1, z.1.2.1, y.1.2.2 ++ z.1.2.2⟩, y.2 ++ z.2)
    | v => some (⟨v, ids, []⟩, [])
theorem Q4a {H : Nat → Option Ob} {vw : Views} (hv : VOK H vw) {byRef : Bool} : ∀ (n : Nat) (v : PV) (ids : List Nat) (y : Pass × List Prop), Q7e H vw byRef n v ids = some y → Met y.2 → pass H byRef n v ids = some y.1
  | 0, v, ids, y, h, _ => by cases h
  | n + 1, v, ids, y, h, hm => by
    have ih := Q4a hv (byRef := byRef) n
    cases v with
    | ms id sz off len =>
      cases byRef with
      | true =>
        simp only [Q7e, cond_true, Option.some.injEq] at h
        subst h
        rfl
      | false =>
        simp only [Q7e, cond_false] at h
        obtain ⟨x, hx, h⟩ := Qh h
        simp only [Option.some.injEq] at h
        subst h
        simp only [pass, cond_false]
        rw [Qof hv 8 _ x hx hm, Option.bind_some]
    | agg c =>
      simp only [Q7e] at h
      obtain ⟨l, hl, h⟩ := Qh h
      simp only [Option.some.injEq] at h
      subst h
      simp only [pass]
      rw [Q2a ih _ _ l hl hm, Option.bind_some]
    | tup c =>
      simp only [Q7e] at h
      obtain ⟨l, hl, h⟩ := Qh h
      simp only [Option.some.injEq] at h
      subst h
      simp only [pass]
      rw [Q2a ih _ _ l hl hm, Option.bind_some]
    | fn f a b =>
      simp only [Q7e] at h
      obtain ⟨l, hl, h⟩ := Qh h
      obtain ⟨m, hm2, h⟩ := Qh h
      simp only [Option.some.injEq] at h
      subst h
      simp only [pass]
      rw [Q2a ih _ _ l hl hm.left, Option.bind_some, Q2a ih _ _ m hm2 hm.right, Option.bind_some]
    | _ =>
      simp only [Q7e, Option.some.injEq] at h
      subst h
      rfl
theorem Q7i {H : Nat → Option Ob} {byRef : Bool} {n : Nat} : ∀ (l : List PV) (ids : List Nat), (∀ p ∈ l, plain p = true) → Q3a (pass H byRef (n + 1)) l ids = some (l, ids, [])
  | [], _, _ => rfl
  | p :: r, ids, h => by
    have h1 : pass H byRef (n + 1) p ids = some ⟨p, ids, []⟩ := by
      have := h p List.mem_cons_self
      cases p <;> first | rfl | (simp [plain] at this)
    simp only [Q3a]
    rw [h1, Option.bind_some, Q7i r ids (fun q hq => h q (List.mem_cons_of_mem _ hq))]
    rfl
def Q5f (H : Nat → Option Ob) (vw : Views) (byRef own : Bool) : Nat → Nat → List Nat → Option ((List Ob × List Nat × List Nat) × List Prop)
  | 0, _, _ => none
  | n + 1, k, ids =>
    match ids[k]? with
    | none => some (([], ids, []), [])
    | some id =>
      (H id).bind fun ob =>
        match look vw id with
        | some _ => (Q5f H vw byRef own n (k + 1) ids).bind fun z => some ((⟨ob.sz, ob.ro, ob.gr && own, ob.cells⟩ :: z.1.1, z.1.2.1, z.1.2.2), z.2)
        | none => (Q5m (Q7e H vw byRef 8) ob.cells ids).bind fun y =>
          (Q5f H vw byRef own n (k + 1) y.1.2.1).bind fun z => some ((⟨ob.sz, ob.ro, ob.gr && own, y.1.1⟩ :: z.1.1, z.1.2.1, y.1.2.2 ++ z.1.2.2), y.2 ++ z.2)
theorem Q33 {H : Nat → Option Ob} {vw : Views} (hv : VOK H vw) {byRef own : Bool} : ∀ (n k : Nat) (ids : List Nat) (y : (List Ob × List Nat × List Nat) × List Prop), Q5f H vw byRef own n k ids = some y → Met y.2 → Q1s H byRef own n k ids = some y.1
  | 0, _, _, y, h, _ => by cases h
  | n + 1, k, ids, y, h, hm => by
    simp only [Q5f] at h
    simp only [Q1s]
    cases hk : ids[k]? with
    | none =>
      rw [hk] at h
      simp only [Option.some.injEq] at h
      subst h
      rfl
    | some id =>
      rw [hk] at h
      simp only at h ⊢
      obtain ⟨ob, hob, h⟩ := Qh h
      rw [hob, Option.bind_some]
      cases hl : look vw id with
      | some rows =>
        rw [hl] at h
        simp only at h
        obtain ⟨ob', hob', hok⟩ := hv id rows hl
        rw [hob] at hob'
        injection hob' with hob'
        subst hob'
        obtain ⟨z, hz, h⟩ := Qh h
        simp only [Option.some.injEq] at h
        subst h
        rw [Q7i (n := 7) ob.cells ids hok.all, Option.bind_some, Q33 hv n _ _ z hz hm]
        rfl
      | none =>
        rw [hl] at h
        simp only at h
        obtain ⟨x, hx, h⟩ := Qh h
        obtain ⟨z, hz, h⟩ := Qh h
        simp only [Option.some.injEq] at h
        subst h
        rw [Q2a (Q4a hv 8) _ _ x hx hm.left, Option.bind_some, Q33 hv n _ _ z hz hm.right]
        rfl
def Q6y (vw : Views) : Nat → List (Nat × Ob) → List (Nat × Ob) × Nat × List (Nat × Ob)
  | nx, [] => ([], nx, [])
  | nx, (id, ob) :: r =>
    match look vw id with
    | some _ => let z := Q6y vw nx r; ((id, ob) :: z.1, z.2.1, z.2.2)
    | none => let y := Q31 nx ob.cells; let z := Q6y vw y.2.1 r; ((id, ⟨ob.sz, ob.ro, ob.gr, y.1⟩) :: z.1, z.2.1, y.2.2 ++ z.2.2)
theorem Qd3 : ∀ (l : List PV) (nx : Nat), (∀ p ∈ l, plain p = true) → Q31 nx l = (l, nx, [])
  | [], _, _ => rfl
  | p :: r, nx, h => by
    have h2 := Qd3 r nx (fun q hq => h q (List.mem_cons_of_mem _ hq))
    have h1 := h p List.mem_cons_self
    cases p <;> first | (simp [plain] at h1; done) | (simp only [Q31, h2])
def VAll (h : List (Nat × Ob)) (vw : Views) : Prop := ∀ id ob rows, (id, ob) ∈ h → look vw id = some rows → ∀ p ∈ ob.cells, plain p = true
theorem Qcp {vw : Views} : ∀ (h : List (Nat × Ob)) (nx : Nat), VAll h vw → Q6y vw nx h = Q9b nx h
  | [], _, _ => rfl
  | (id, ob) :: r, nx, hv => by
    have hr : VAll r vw := fun i o rs hi hl => hv i o rs (List.mem_cons_of_mem _ hi) hl
    simp only [Q6y, Q9b]
    cases hl : look vw id with
    | some rows =>
      simp only
      rw [Qd3 ob.cells nx (hv id ob rows List.mem_cons_self hl), Qcp r nx hr]
      rfl
    | none =>
      simp only
      rw [Qcp r _ hr]
def Qn1 : List (Nat × Ob) → Bool
  | [] => true
  | (k, _) :: r => (r.all fun x => !(Nat.beq x.1 k)) && Qn1 r
theorem Qz2 {h : List (Nat × Ob)} : ∀ {id : Nat} {ob : Ob}, Qn1 h = true → (id, ob) ∈ h → look h id = some ob := by
  induction h with
  | nil => intro id ob _ hm; cases hm
  | cons x r ih =>
    obtain ⟨k, o⟩ := x
    intro id ob ho hm
    simp only [Qn1, Bool.and_eq_true, List.all_eq_true] at ho
    simp only [look]
    rcases List.mem_cons.1 hm with e | hm
    · injection e with e1 e2
      subst e1 e2
      simp
    · have : Nat.beq k id = false := by
        have := ho.1 _ hm
        simp only [Bool.not_eq_true'] at this
        rw [Bool.eq_false_iff] at this ⊢
        intro c
        have := Nat.eq_of_beq_eq_true c
        subst this
        simp at *
      rw [this]
      simp only [cond_false]
      exact ih ho.2 hm
theorem VOK.allIn {h : List (Nat × Ob)} {vw : Views} (ho : Qn1 h = true) (hv : VOK (look h) vw) : VAll h vw := fun id ob rows hm hl => by
  obtain ⟨ob', hob, hok⟩ := hv id rows hl
  rw [Qz2 ho hm] at hob
  injection hob with hob
  subst hob
  exact hok.all
theorem Qjk {α : Type} {a b : List (Nat × α)} {id : Nat} : look (a ++ b) id = match look a id with | some x => some x | none => look b id := by
  induction a with
  | nil => rfl
  | cons x r ih =>
    obtain ⟨k, o⟩ := x
    simp only [List.cons_append, look]
    cases Nat.beq k id with
    | true => rfl
    | false => exact ih
theorem Q7d {vw : Views} : ∀ (h : List (Nat × Ob)) (nx : Nat) (id : Nat) (rows : List (List PV)) (ob : Ob), look vw id = some rows → look h id = some ob → look (Q6y vw nx h).1 id = some ob
  | [], _, _, _, _, _, h => by cases h
  | (k, o) :: r, nx, id, rows, ob, hl, h => by
    simp only [look] at h
    cases c : Nat.beq k id with
    | true =>
      have := Nat.eq_of_beq_eq_true c
      subst this
      rw [c] at h
      simp only [cond_true, Option.some.injEq] at h
      subst h
      simp only [Q6y, hl, look, c, cond_true]
    | false =>
      rw [c] at h
      simp only [cond_false] at h
      simp only [Q6y]
      cases look vw k with
      | some _ =>
        simp only [look, c, cond_false]
        exact Q7d r nx id rows ob hl h
      | none =>
        simp only [look, c, cond_false]
        exact Q7d r _ id rows ob hl h
def gcV0 (vw : Views) (m : Nat) (live : List Nat) (s : St) : Option ((List PV × List Ob) × List Prop) :=
  bif Qn1 s.heap then
    let a := Q31 s.nx (mask live 0 s.env)
    let b := Q6y vw a.2.1 s.heap
    let H := look (b.1 ++ (a.2.2 ++ b.2.2))
    (Q5m (Q7e H vw true 8) a.1 (upTo m)).bind fun y =>
      (Q5f H vw true true 32 0 y.1.2.1).bind fun z => some ((y.1.1, z.1.1), y.2 ++ z.2)
  else none
theorem Qfx {vw : Views} {m : Nat} {live : List Nat} {s : St} (hv : VOK (look s.heap) vw) {y : (List PV × List Ob) × List Prop} (h : gcV0 vw m live s = some y) (hm : Met y.2) : gc0 m live s = some y.1 := by
  unfold gcV0 at h
  unfold gc0
  cases ho : Qn1 s.heap with
  | false => rw [ho] at h; cases h
  | true =>
    rw [ho] at h
    simp only [cond_true] at h ⊢
    have e := Qcp (vw := vw) s.heap (Q31 s.nx (mask live 0 s.env)).2.1 (hv.allIn ho)
    have hv' : VOK (look ((Q6y vw (Q31 s.nx (mask live 0 s.env)).2.1 s.heap).1 ++ ((Q31 s.nx (mask live 0 s.env)).2.2 ++ (Q6y vw (Q31 s.nx (mask live 0 s.env)).2.1 s.heap).2.2))) vw := by
      intro id rows hl
      obtain ⟨ob, hob, hok⟩ := hv id rows hl
      refine ⟨ob, ?_, hok⟩
      rw [Qjk, Q7d s.heap _ id rows ob hl hob]
    rw [← e]
    obtain ⟨x, hx, h⟩ := Qh h
    obtain ⟨z, hz, h⟩ := Qh h
    simp only [Option.some.injEq] at h
    subst h
    rw [Q2a (Q4a hv' 8) _ _ x hx hm.left, Option.bind_some, Q33 hv' 32 _ _ z hz hm.right, Option.bind_some]
def Qw0 (vw : Views) (h : List (Nat × Ob)) : List (Nat × Ob) := h.map fun x => (match look vw x.1 with | some _ => x | none => (x.1, Qab x.2))
def Qpq (vw : Views) (s : St) : St := ⟨s.env.map Qk3, Qw0 vw s.heap, s.nx⟩
def gcV (vw : Views) (m : Nat) (live : List Nat) (s : St) : Option ((List PV × List Ob) × List Prop) :=
  bif has live 200001 then (bif Qn1 s.heap then gcV0 vw m live (Qpq vw s) else none) else gcV0 vw m live s
theorem Qe6 {l : List PV} (h : ∀ p ∈ l, plain p = true) : l.map Qk3 = l := by
  induction l with
  | nil => rfl
  | cons p r ih =>
    have h1 := h p List.mem_cons_self
    rw [List.map_cons, ih (fun q hq => h q (List.mem_cons_of_mem _ hq))]
    cases p <;> first | (simp [plain] at h1; done) | rfl
theorem Qna {vw : Views} : ∀ (h : List (Nat × Ob)), VAll h vw → Qw0 vw h = h.map fun x => (x.1, Qab x.2)
  | [], _ => rfl
  | (id, ob) :: r, hv => by
    have hr : VAll r vw := fun i o rs hi hl => hv i o rs (List.mem_cons_of_mem _ hi) hl
    have ih := Qna r hr
    unfold Qw0 at ih ⊢
    rw [List.map_cons, List.map_cons, ih]
    cases hl : look vw id with
    | none => rfl
    | some rows =>
      simp only
      rw [show Qab ob = ob from by unfold Qab; rw [Qe6 (hv id ob rows List.mem_cons_self hl)]]
theorem Qlq {vw : Views} {m : Nat} {live : List Nat} {s : St} (hv : VOK (look s.heap) vw) {y : (List PV × List Ob) × List Prop} (h : gcV vw m live s = some y) (hm : Met y.2) : gc m live s = some y.1 := by
  unfold gcV at h
  unfold gc
  cases c : has live 200001 with
  | false =>
    rw [c] at h
    exact Qfx hv h hm
  | true =>
    rw [c, cond_true] at h
    rw [cond_true]
    cases ho : Qn1 s.heap with
    | false => rw [ho] at h; cases h
    | true =>
      rw [ho, cond_true] at h
      have e : Qpq vw s = Q4w s := by
        unfold Qpq Q4w
        rw [Qna s.heap (hv.allIn ho)]
      rw [e] at h
      refine Qfx (fun id rows hl => ?_) h hm
      obtain ⟨ob, hob, hok⟩ := hv id rows hl
      have hf : Qab ob = ob := by
        unfold Qab
        rw [Qe6 hok.all]
      refine ⟨ob, ?_, hok⟩
      rw [show (Q4w s).heap = s.heap.map fun x => (x.1, Qab x.2) from rfl, Q80, hob, Option.map_some, hf]
structure Ans where
  r : Rs
  vw : Views
def Q3w (g : Nat → Nat) (vw : Views) : Nat → List Ob → Option (List (Nat × Option Ob) × List Prop × Views)
  | _, [] => some ([], [], [])
  | k, ob :: r =>
    match look vw k with
    | some rows => (Q3w g vw (k + 1) r).bind fun m => some ((g k, some ob) :: m.1, ViewOK ob.sz ob.cells rows :: m.2.1, (g k, rows) :: m.2.2)
    | none => (mapO (back g 8) ob.cells).bind fun l => (Q3w g vw (k + 1) r).bind fun m => some ((g k, some ⟨ob.sz, ob.ro, ob.gr, l⟩) :: m.1, m.2)
theorem Q60 {g : Nat → Nat} {n : Nat} : ∀ (l : List PV), (∀ p ∈ l, plain p = true) → mapO (back g (n + 1)) l = some l
  | [], _ => rfl
  | p :: r, h => by
    have h1 : back g (n + 1) p = some p := by
      have := h p List.mem_cons_self
      cases p <;> first | rfl | (simp [plain] at this)
    simp only [mapO]
    rw [h1, Option.bind_some, Q60 r (fun q hq => h q (List.mem_cons_of_mem _ hq))]
    rfl
theorem Q4p {g : Nat → Nat} {vw : Views} : ∀ (l : List Ob) (k : Nat) (y : List (Nat × Option Ob) × List Prop × Views), Q3w g vw k l = some y → Met y.2.1 → Q5e g k l = some y.1
  | [], k, y, h, _ => by
    simp only [Q3w, Option.some.injEq] at h
    subst h
    rfl
  | ob :: r, k, y, h, hm => by
    simp only [Q3w] at h
    simp only [Q5e]
    cases hl : look vw k with
    | some rows =>
      rw [hl] at h
      simp only at h
      obtain ⟨m, hm', h⟩ := Qh h
      simp only [Option.some.injEq] at h
      subst h
      rw [Q60 ob.cells (Met.head hm).all, Option.bind_some, Q4p r _ m hm' (Met.tail hm)]
      rfl
    | none =>
      rw [hl] at h
      simp only at h
      obtain ⟨l, hl', h⟩ := Qh h
      obtain ⟨m, hm', h⟩ := Qh h
      simp only [Option.some.injEq] at h
      subst h
      rw [hl', Option.bind_some, Q4p r _ m hm' hm]
      rfl
theorem Q4t {g : Nat → Nat} {vw : Views} : ∀ (l : List Ob) (k : Nat) (y : List (Nat × Option Ob) × List Prop × Views), Q3w g vw k l = some y → Met y.2.1 → ∀ id rows, (id, rows) ∈ y.2.2 → ∃ ob, (id, some ob) ∈ y.1 ∧ ViewOK ob.sz ob.cells rows
  | [], k, y, h, _ => by
    simp only [Q3w, Option.some.injEq] at h
    subst h
    intro id rows hx
    cases hx
  | ob :: r, k, y, h, hm => by
    simp only [Q3w] at h
    cases hl : look vw k with
    | some rows =>
      rw [hl] at h
      simp only at h
      obtain ⟨m, hm', h⟩ := Qh h
      simp only [Option.some.injEq] at h
      subst h
      intro id rws hx
      rcases List.mem_cons.1 hx with e | hx
      · injection e with e1 e2
        subst e1 e2
        exact ⟨ob, List.mem_cons_self, Met.head hm⟩
      · obtain ⟨o, ho, hv⟩ := Q4t r _ m hm' (Met.tail hm) id rws hx
        exact ⟨o, List.mem_cons_of_mem _ ho, hv⟩
    | none =>
      rw [hl] at h
      simp only at h
      obtain ⟨l, hl', h⟩ := Qh h
      obtain ⟨m, hm', h⟩ := Qh h
      simp only [Option.some.injEq] at h
      subst h
      intro id rws hx
      obtain ⟨o, ho, hv⟩ := Q4t r _ m hm' hm id rws hx
      exact ⟨o, List.mem_cons_of_mem _ ho, hv⟩
structure EV where
  eff : Eff
  cut : List Nat
  new : Views
  az : List Ans
  owed : List Prop
  asked : Q7j
def Q11j (H : Nat → Option Ob) (vw : Views) (fr : Nat) (byRef : Bool) (f : Nat) (args : List PV) (az : List Ans) : Option EV :=
  (Q5m (Q7e H vw byRef 8) args []).bind fun y =>
  (Q5f H vw false false 16 0 y.1.2.1).bind fun z =>
  let ids := z.1.2.1
  let lent := y.1.2.2 ++ z.1.2.2
  bif disj lent ids then
    match az with
    | [] => none
    | a :: az' =>
      match a.r with
      | .ret v h =>
        bif Nat.ble ids.length h.length && Nat.ble (h.length - ids.length) 64 then
          (back (ren ids fr) 8 v).bind fun v' => (Q3w (ren ids fr) a.vw 0 h).bind fun ws =>
            match lent with
            | [] => some ⟨⟨v', ws.1, ids⟩, ws.1.map (·.1), ws.2.2, az', y.2 ++ (z.2 ++ ws.2.1), [(.call f y.1.1 z.1.1, a.r)]⟩
            | _ :: _ =>
              bif flat 8 v && h.all (fun ob => ob.cells.all (flat 8)) then some ⟨⟨v', ws.1, ids ++ lent⟩, ws.1.map (·.1), ws.2.2, az', y.2 ++ (z.2 ++ ws.2.1), [(.call f y.1.1 z.1.1, a.r)]⟩
              else (shut H lent).bind fun cl => some ⟨⟨v', ws.1 ++ cl, ids ++ lent⟩, ws.1.map (·.1), ws.2.2, az', y.2 ++ (z.2 ++ ws.2.1), [(.call f y.1.1 z.1.1, a.r)]⟩
        else none
      | _ => none
  else none
end Go.Pv
end

section
/-
  A region, on the machine.
-/
namespace Go.Pv
open Go.RowKit
structure At (w0 : World) (D0 : Nat → Option Nat) (H0 : Nat → Option Ob) (F : Nat → Nat → Prop) (n0 m L : Nat) (e : Nat → PV) (H : Nat → Option Ob) (a : Act) (w : World) (D : Nat → Option Nat) : Prop where
  sim : Sim w D H F n0 m
  env : Q6v w (Mut D H F) D a e
  size : L ≤ a.tmps.size
  out : ∀ t, L ≤ t → e t = .un
  keeps : Keeps (MutO D0 H0) w0 w
  low : ∀ id, id < m → D id = D0 id
  sub : ∀ b o, b < w0.heap.size → Mut D H F b o → Mut D0 H0 F b o
  defers : a.defers = []
section
variable {P : Program} {X : Orc} {w0 : World} {D0 : Nat → Option Nat} {H0 : Nat → Option Ob} {F : Nat → Nat → Prop} {n0 m L : Nat} {e : Nat → PV} {H : Nat → Option Ob} {a : Act} {w : World} {D : Nat → Option Nat}
theorem Q108 {a : Act} {dst : Option Tmp} {v : Value} {t : Nat} : (a.put dst v).tmps.getD t undef = if dst = some t ∧ t < a.tmps.size then v else a.tmps.getD t undef := by
  unfold Act.put
  cases dst with
  | none => simp
  | some d =>
    simp only [Array.getD_eq_getD_getElem?, Array.getElem?_setIfInBounds]
    by_cases c : d = t
    · subst c
      by_cases c' : d < a.tmps.size
      · simp [c']
      · simp [c']
    · simp [c]
theorem Q10c {a : Act} {dst : Option Tmp} {v : Value} : (a.put dst v).tmps.size = a.tmps.size := by
  unfold Act.put
  cases dst <;> simp
theorem put_defers {a : Act} {dst : Option Tmp} {v : Value} : (a.put dst v).defers = a.defers := by
  unfold Act.put
  cases dst <;> rfl
theorem At.step (A : At w0 D0 H0 F n0 m L e H a w D) {fr : Nat} {w' : World} {D' : Nat → Option Nat} {H' : Nat → Option Ob} (st : Step w D H F n0 m fr w' D' H') (hmf : m ≤ fr) {dst : Option Tmp} {v : Value} {p : PV} (hr : Rep w' (Mut D' H' F) D' v p) {e' : Nat → PV}
    (he : ∀ t, e' t = if dst = some t ∧ t < L then p else e t) : At w0 D0 H0 F n0 m L e' H' (a.put dst v) w' D' := by
  have hO : ∀ b o, b < w0.heap.size → MutO D H b o → MutO D0 H0 b o := by
    rintro b o hb ⟨id, ob, h1, h2, h3⟩
    rcases A.sub b o hb (.inr ⟨id, ob, h1, h2, h3⟩) with h | h
    · exact absurd h (A.sim.dis id ob b o h1 h2)
    · exact h
  refine ⟨st.sim, fun t => ?_, by rw [Q10c]; exact A.size, fun t ht => ?_, A.keeps.trans st.keeps hO, fun id h => ?_, fun b o hb h => A.sub b o hb (st.sub b o (Nat.lt_of_lt_of_le hb A.keeps.size) h), by rw [put_defers]; exact A.defers⟩
  · rw [Q108, he t]
    by_cases c : dst = some t
    · by_cases c' : t < L
      · rw [if_pos ⟨c, Nat.lt_of_lt_of_le c' A.size⟩, if_pos ⟨c, c'⟩]
        exact hr
      · rw [show (if dst = some t ∧ t < L then p else e t) = .un by rw [if_neg (fun h => c' h.2)]; exact A.out t (Nat.le_of_not_lt c')]
        exact .un _ _
    · rw [if_neg (fun h => c h.1), if_neg (fun h => c h.1)]
      exact st.rep (A.env t)
  · rw [he t, if_neg (fun h => by have := h.2; omega)]
    exact A.out t ht
  · rw [← A.low id h]
    cases hd : D id with
    | none => exact st.fresh id hd (.inl (by omega))
    | some b => exact st.ext id b hd
theorem Qku {ops : Array Oper} {tmps : Array Value} {j s : Nat} (h : (ops[j]?).bind (·.dst) = some s) : (∀ b, tmps.getD s undef = .bool b → yielded ops tmps j = some b) ∧ (∀ xs, tmps.getD s undef = .tuple xs → yielded ops tmps j = none) := by
  unfold yielded
  rw [h]
  simp only [Option.bind_some]
  constructor
  · intro b hb
    rw [Array.getD_eq_getD_getElem?] at hb
    cases ht : tmps[s]? with
    | none => rw [ht] at hb; cases hb
    | some u =>
      rw [ht] at hb
      simp only [Option.getD_some] at hb
      subst hb
      rfl
  · intro xs hx
    rw [Array.getD_eq_getD_getElem?] at hx
    cases ht : tmps[s]? with
    | none => rfl
    | some u =>
      rw [ht] at hx
      simp only [Option.getD_some] at hx
      subst hx
      rfl
theorem Q9v {ops : Array Oper} {M : Nat → Nat → Prop} (he : Q6v w M D a e) {o : Oper} {io : IOper} (hg : Qb2 ops o.guard io.guard = true) {b : Bool} (h : io.wanted e = some b) : Region.wanted o (yielded ops a.tmps) = b := by
  unfold IOper.wanted at h
  unfold Region.wanted
  cases hg1 : o.guard with
  | none =>
    rw [hg1] at hg
    cases hg2 : io.guard with
    | none => rw [hg2] at h; simpa using h
    | some g => rw [hg2] at hg; cases hg
  | some g =>
    obtain ⟨j, wt⟩ := g
    rw [hg1] at hg
    cases hg2 : io.guard with
    | none => rw [hg2] at hg; cases hg
    | some g' =>
      obtain ⟨s, wt'⟩ := g'
      rw [hg2] at hg h
      simp only [Qb2, Bool.and_eq_true] at hg
      obtain ⟨h1, h2⟩ := hg
      have h1 : wt = wt' := by simpa using h1
      subst h1
      obtain ⟨y1, y2⟩ := Qku (tmps := a.tmps) (Q3k h2)
      have hr := he s
      simp only at h ⊢
      split at h
      · rename_i b' hb
        rw [hb] at hr
        generalize hx : a.tmps.getD s undef = x at hr
        cases hr with
        | bool _ =>
          rw [y1 b' hx]
          simpa using h
      · rename_i c hb
        rw [hb] at hr
        generalize hx : a.tmps.getD s undef = x at hr
        cases hr with
        | tup _ xs _ _ _ =>
          rw [y2 xs hx]
          simpa using h
      · cases h
theorem Q94 (hX : Q4s P X) (A : At w0 D0 H0 F n0 m L e H a w D) {fr : Nat} (hmf : m ≤ fr) (hfr : ∀ id, fr ≤ id → id < fr + 64 → D id = none ∧ H id = none) {ops : Array Oper} {i : Nat} {o : Oper} {io : IOper} (ho : ops[i]? = some o) (hc : Q64 P ops o io = true) {f : Eff} (h : Q4q X e H fr io = some f)
    {K : Act → World → Prop} {Q : Exit → Act → World → Prop} {e' : Nat → PV} {H' : Nat → Option Ob} (he : ∀ t, e' t = if io.dst = some t ∧ t < L then f.v else e t) (hH : upH H f.hw = H')
    (hK : ∀ a' w' D', At w0 D0 H0 F n0 m L e' H' a' w' D' → (∀ id, D id = none → (id < fr ∨ fr + 64 ≤ id) → D' id = none) → K a' w') : wpOp P ops Q i K a w := by
  subst hH
  unfold Q64 at hc
  rw [Bool.and_eq_true, Bool.and_eq_true] at hc
  obtain ⟨⟨hd, hg⟩, hop⟩ := hc
  have hd := Q8i hd
  unfold Q4q at h
  obtain ⟨b, hb, h⟩ := bind_some h
  have hw := Q9v A.env hg hb
  unfold wpOp
  simp only [ho]
  rw [hw]
  cases b with
  | true =>
    simp only [cond_true] at h
    rw [if_pos rfl]
    refine .inl (Qzh hX A.sim hfr A.env hop h fun v w' D' st hr => hK _ _ D' (A.step st hmf hr (fun t => ?_)) st.fresh)
    rw [hd]; exact he t
  | false =>
    simp only [cond_false, Option.some.injEq] at h
    subst h
    rw [if_neg (by simp)]
    refine hK _ _ D (A.step (fr := fr) (Step.same A.sim rfl rfl rfl rfl) hmf (p := .tup []) (.tup _ #[] [] rfl (fun i v p hv => by simp at hv)) (fun t => ?_)) (fun id h _ => h)
    rw [hd]; exact he t
theorem Qqe {ws : List (Nat × Option Ob)} {fr id : Nat} (h : ∀ y ∈ ws, (∃ ob, H y.1 = some ob) ∨ (fr ≤ y.1 ∧ y.1 < fr + 64)) (h1 : H id = none) (h2 : ¬ (fr ≤ id ∧ id < fr + 64)) : upH H ws id = none := by
  rw [Q45 (fun y hy e => ?_)]
  · exact h1
  · subst e
    rcases h y hy with ⟨ob, hob⟩ | h'
    · rw [h1] at hob; cases hob
    · exact h2 h'
theorem Qbl (hX : Q4s P X) {nx : Nat} (hmn : m ≤ nx) {ops : Array Oper} {Q : Exit → Act → World → Prop} : ∀ (r : List IOper) (i : Nat) (env : List PV) (h : List (Nat × Ob)) (y : List PV × List (Nat × Ob) × List Eff) (a : Act) (w : World) (D : Nat → Option Nat),
    Q3i X nx i r env h = some y → (∀ j o io, ops[i + j]? = some o → r[j]? = some io → Q64 P ops o io = true) → i + r.length = ops.size → At w0 D0 H0 F n0 m env.length (envF env) (look h) a w D → (∀ id, nx + 64 * i ≤ id → D id = none ∧ look h id = none) →
      (∀ a' w' D', At w0 D0 H0 F n0 m y.1.length (envF y.1) (look y.2.1) a' w' D' → (∀ id, nx + 64 * ops.size ≤ id → D' id = none ∧ look y.2.1 id = none) → Q .normal a' w') → wpOps P ops Q (List.range' i r.length) a w
  | [], i, env, h, y, a, w, D, hy, hc, hn, A, hf, hQ => by
    simp only [Q3i, Option.some.injEq] at hy
    subst hy
    simp only [List.length_nil, Nat.add_zero] at hn
    subst hn
    exact hQ a w D A hf
  | o :: r, i, env, h, y, a, w, D, hy, hc, hn, A, hf, hQ => by
    simp only [Q3i] at hy
    obtain ⟨x, hst, hy⟩ := bind_some hy
    obtain ⟨z, hz, hy⟩ := bind_some hy
    injection hy with hy
    subst hy
    have hlt : i < ops.size := by rw [← hn]; simp
    have hoi : ops[i]? = some ops[i] := Array.getElem?_eq_getElem hlt
    rw [List.length_cons, List.range'_succ, wpOps_cons]
    refine Q94 hX A (fr := nx + 64 * i) (by omega) (fun id h1 _ => hf id h1) hoi (hc 0 _ o hoi rfl) hst (e' := envF (put env o.dst x.v)) (H' := look (hput h x.hw)) (fun t => Qr9) (Q4d _ _).symm (fun a' w' D' A' hfr' => ?_)
    have hput : (put env o.dst x.v).length = env.length := Qhi
    refine Qbl hX hmn r (i + 1) _ _ z a' w' D' hz (fun j o' io h1 h2 => hc (j + 1) o' io (by rw [show i + (j + 1) = i + 1 + j by omega]; exact h1) (by simpa using h2)) (by rw [← hn]; simp; omega) (by rw [hput]; exact A') (fun id hid => ?_) hQ
    have := hf id (by omega)
    exact ⟨hfr' id this.1 (by omega), by rw [Q4d]; exact Qqe (Qri hst) this.2 (by omega)⟩
def Done (listed : Array Bool) (j : Nat) : Prop := listed.getD j false = true
theorem Qpx {listed : Array Bool} {j : Nat} (h : Done listed j) : j < listed.size := by
  unfold Done at h
  rcases Nat.lt_or_ge j listed.size with c | c
  · exact c
  · rw [Array.getD_eq_getD_getElem?, Array.getElem?_eq_none c] at h
    cases h
theorem Q112 {listed : Array Bool} {i k : Nat} (hi : i < listed.size) : Done (listed.setIfInBounds i true) k ↔ Done listed k ∨ k = i := by
  unfold Done
  rw [Array.getD_eq_getD_getElem?, Array.getD_eq_getD_getElem?, Array.getElem?_setIfInBounds]
  by_cases c : i = k
  · subst c
    simp [hi]
  · rw [if_neg c]
    constructor
    · exact fun h => .inl h
    · rintro (h | h)
      · exact h
      · exact absurd h.symm c
theorem Qk2 {listed : Array Bool} {i : Nat} (hi : i < listed.size) : listed.getD i true = false ↔ ¬ Done listed i := by
  unfold Done
  rw [Array.getD_eq_getD_getElem?, Array.getD_eq_getD_getElem?, Array.getElem?_eq_getElem hi]
  simp
def todo (listed : Array Bool) : Nat := listed.toList.countP (fun b => !b)
theorem Qr3 {listed : Array Bool} {i : Nat} (hi : i < listed.size) (h : ¬ Done listed i) : todo listed = todo (listed.setIfInBounds i true) + 1 := by
  unfold todo
  have hb : listed[i] = false := by
    unfold Done at h
    rw [Array.getD_eq_getD_getElem?, Array.getElem?_eq_getElem hi] at h
    simpa using h
  rw [Array.toList_setIfInBounds]
  have hl : i < listed.toList.length := by simpa using hi
  have hb' : listed.toList[i] = false := by simpa using hb
  have key : ∀ (l : List Bool) (i : Nat) (hl : i < l.length), l[i] = false → l.countP (fun b => !b) = (l.set i true).countP (fun b => !b) + 1 := by
    intro l
    induction l with
    | nil => intro i hl; simp at hl
    | cons x r ih =>
      intro i hl hx
      cases i with
      | zero =>
        simp at hx
        subst hx
        simp
      | succ i =>
        have := ih i (by simpa using hl) (by simpa using hx)
        cases x <;> simp [this]
  exact key _ i hl hb'
theorem Q113 {listed : Array Bool} (h : todo listed ≠ 0) : ∃ i, i < listed.size ∧ ¬ Done listed i := by
  unfold todo at h
  have : 0 < listed.toList.countP (fun b => !b) := Nat.pos_of_ne_zero h
  obtain ⟨b, hb, h2⟩ := List.countP_pos_iff.1 this
  obtain ⟨i, hi⟩ := List.getElem?_of_mem hb
  have hl : i < listed.size := by have := (List.getElem?_eq_some_iff.1 hi).1; simpa using this
  refine ⟨i, hl, fun hd => ?_⟩
  unfold Done at hd
  rw [Array.getD_eq_getD_getElem?, ← Array.getElem?_toList, hi] at hd
  simp only [Option.getD_some] at hd
  subst hd
  cases h2
theorem Qsz (hX : Q4s P X) {nx : Nat} (hmn : m ≤ nx) {ops : Array Oper} {ios : List IOper} {xs : List Eff} {Q : Exit → Act → World → Prop} {e0 : Nat → PV} {Hs : Nat → Option Ob} {ef : Nat → PV} {Hf : Nat → Option Ob}
    (hlen : ios.length = ops.size) (hxl : xs.length = ops.size) (hc : ∀ (j : Nat) o io, ops[j]? = some o → ios[j]? = some io → Q64 P ops o io = true) (hb : Qn4 ios 0 ops.toList ios = true) (hcalm : calm (ios.zip xs) 0 (ios.zip xs) = true)
    (hst : ∀ (j : Nat) o x, ios[j]? = some o → xs[j]? = some x → ∃ e H, Last (WE L ios xs) e0 (· < j) e ∧ Last (WH xs) Hs (· < j) H ∧ Q4q X e H (nx + 64 * j) o = some x)
    (hef : Last (WE L ios xs) e0 (· < ops.size) ef) (hHf : Last (WH xs) Hs (· < ops.size) Hf)
    (hQ : ∀ a' w' D', At w0 D0 H0 F n0 m L ef Hf a' w' D' → (∀ id, nx + 64 * ops.size ≤ id → D' id = none ∧ Hf id = none) → Q .normal a' w') :
    ∀ (fuel : Nat) (listed : Array Bool) (a : Act) (w : World) (e : Nat → PV) (H : Nat → Option Ob) (D : Nat → Option Nat), listed.size = ops.size → todo listed = fuel → (∀ j io, ios[j]? = some io → Done listed j → ∀ i ∈ io.bef, Done listed i) →
      Last (WE L ios xs) e0 (Done listed) e → Last (WH xs) Hs (Done listed) H → At w0 D0 H0 F n0 m L e H a w D → (∀ id, nx ≤ id → (∀ j, Done listed j → ¬ (nx + 64 * j ≤ id ∧ id < nx + 64 * j + 64)) → D id = none ∧ H id = none) →
        wpAny P .any ops Q fuel listed a w := by
  have noclash : ∀ (i k : Nat) oi xi ok xk, i < k → ios[i]? = some oi → xs[i]? = some xi → ios[k]? = some ok → xs[k]? = some xk → i ∈ ok.bef ∨ clash oi xi ok xk = false := by
    intro i k oi xi ok xk hlt h1 h2 h3 h4
    exact Qo3 hcalm (fun k => by simp) i k oi xi ok xk (Nat.zero_le _) hlt (by rw [List.getElem?_zip_eq_some]; exact ⟨h1, h2⟩) (by rw [List.getElem?_zip_eq_some]; exact ⟨h3, h4⟩)
  have bef := Qdg hb
  intro fuel
  -- all done
  have fin_ : ∀ (listed : Array Bool) (a : Act) (w : World) (e : Nat → PV) (H : Nat → Option Ob) (D : Nat → Option Nat), listed.size = ops.size → (∀ j, j < ops.size → Done listed j) → Last (WE L ios xs) e0 (Done listed) e → Last (WH xs) Hs (Done listed) H → At w0 D0 H0 F n0 m L e H a w D →
      (∀ id, nx ≤ id → (∀ j, Done listed j → ¬ (nx + 64 * j ≤ id ∧ id < nx + 64 * j + 64)) → D id = none ∧ H id = none) → Q .normal a w := by
    intro listed a w e H D hsz hall l1 l2 A hf
    have e1 : e = ef := funext fun t => l1.det hef (fun k _ => ⟨fun h => by have := Qpx h; omega, fun h => hall k h⟩)
    have e2 : H = Hf := funext fun t => l2.det hHf (fun k _ => ⟨fun h => by have := Qpx h; omega, fun h => hall k h⟩)
    subst e1 e2
    exact hQ a w D A (fun id hid => hf id (by omega) (fun j hj => by have := Qpx hj; omega))
  induction fuel with
  | zero =>
    intro listed a w e H D hsz ht hcl l1 l2 A hf
    have hall : ∀ j, j < ops.size → Done listed j := by
      intro j hj
      by_cases c : Done listed j
      · exact c
      · have := Qr3 (by omega) c
        omega
    refine ⟨?_, fin_ listed a w e H D hsz hall l1 l2 A hf⟩
    cases hr : Region.ready .any ops listed with
    | nil => rfl
    | cons i r =>
      have hi : i ∈ Region.ready .any ops listed := by rw [hr]; exact List.mem_cons_self
      obtain ⟨g1, o, g2, _⟩ := mem_ready.1 hi
      have hlt : i < ops.size := (Array.getElem?_eq_some_iff.1 g2).1
      exact absurd (hall i hlt) ((Qk2 (by omega)).1 g1)
  | succ fuel ih =>
    intro listed a w e H D hsz ht hcl l1 l2 A hf
    refine ⟨fun hr => ?_, fun i hi => ?_⟩
    · -- some operation is ready
      exfalso
      obtain ⟨i, hi, hnd⟩ := Q113 (listed := listed) (by omega)
      have key : ∀ (n i : Nat), i < n → i < listed.size → ¬ Done listed i → False := by
        intro n
        induction n with
        | zero => intro i h; omega
        | succ n ihn =>
          intro i hin hi hnd
          by_cases c : ∃ j, j < i ∧ ¬ Done listed j
          · obtain ⟨j, hj, hjn⟩ := c
            exact ihn j (by omega) (by omega) hjn
          · have hilt : i < ops.size := by omega
            have : i ∈ Region.ready .any ops listed := by
              rw [mem_ready]
              refine ⟨(Qk2 hi).2 hnd, ops[i], Array.getElem?_eq_getElem hilt, fun ed hed hbd => ?_⟩
              have hlt := (bef i ops[i] (ios[i]'(by omega)) (by simp [hilt]) (List.getElem?_eq_getElem (by omega))).2 ed hed hbd
              by_cases c' : Done listed ed.on
              · exact c'
              · exact absurd ⟨ed.on, by omega, c'⟩ c
            rw [hr] at this
            cases this
      exact key (i + 1) i (by omega) hi hnd
    · obtain ⟨g1, o, g2, g3⟩ := mem_ready.1 hi
      have hlt : i < ops.size := (Array.getElem?_eq_some_iff.1 g2).1
      have hnd : ¬ Done listed i := (Qk2 (by omega)).1 g1
      have hio : ios[i]? = some (ios[i]'(by omega)) := List.getElem?_eq_getElem (by omega)
      have hxi : xs[i]? = some (xs[i]'(by omega)) := List.getElem?_eq_getElem (by omega)
      generalize ios[i]'(by omega) = io at hio
      generalize xs[i]'(by omega) = x at hxi
      obtain ⟨et, Ht, t1, t2, t3⟩ := hst i io x hio hxi
      -- i's own predecessors are done
      have hbi : ∀ k ∈ io.bef, Done listed k := by
        intro k hk
        obtain ⟨ed, hed, hbd, h⟩ := (bef i o io (by simpa using g2) hio).1 k hk
        have hd : Done listed ed.on := g3 ed hed hbd
        rcases h with rfl | h
        · exact hd
        · unfold Q12x at h
          split at h
          · rename_i io' hio'
            exact hcl ed.on io' hio' hd k h
          · cases h
      -- who meddles with i, and is done, stands ahead of it in the text; and the other way round
      have later : ∀ k ok xk, i < k → ios[k]? = some ok → xs[k]? = some xk → Done listed k → clash io x ok xk = false := by
        intro k ok xk hik h1 h2 h3
        rcases noclash i k io x ok xk hik hio hxi h1 h2 with h | h
        · exact absurd (hcl k ok h1 h3 i h) hnd
        · exact h
      have ahead : ∀ k ok xk, k < i → ios[k]? = some ok → xs[k]? = some xk → Done listed k ∨ clash ok xk io x = false := by
        intro k ok xk hik h1 h2
        rcases noclash k i ok xk io x hik h1 h2 hio hxi with h | h
        · exact .inl (hbi k h)
        · exact .inr h
      -- what i looks at is what it looked at in the text's order
      have see1 : ∀ t ∈ io.looks, e t = et t := by
        intro t ht
        refine l1.det t1 (fun k hk => ?_)
        obtain ⟨ok, xk, h1, h2, h3, _⟩ := Q14k hk
        constructor
        · intro hdk
          rcases Nat.lt_trichotomy k i with c | c | c
          · exact c
          · subst c; exact absurd hdk hnd
          · exact absurd ht ((Q42 (later k ok xk c h1 h2 hdk)).2.1 t h3)
        · intro hki
          rcases ahead k ok xk hki h1 h2 with h | h
          · exact h
          · exact absurd ht ((Q42 h).1 t h3)
      have see2 : ∀ id ∈ x.hr, H id = Ht id := by
        intro id hid
        refine l2.det t2 (fun k hk => ?_)
        obtain ⟨xk, h2, h3⟩ := Q14r hk
        have hkl : k < ios.length := by have := (List.getElem?_eq_some_iff.1 h2).1; omega
        have h1 : ios[k]? = some ios[k] := List.getElem?_eq_getElem hkl
        constructor
        · intro hdk
          rcases Nat.lt_trichotomy k i with c | c | c
          · exact c
          · subst c; exact absurd hdk hnd
          · exact absurd hid ((Q42 (later k _ xk c h1 h2 hdk)).2.2.2.2 id h3)
        · intro hki
          rcases ahead k _ xk hki h1 h2 with h | h
          · exact h
          · exact absurd hid ((Q42 h).2.2.2.1 id h3).1
      have run := Qq7 t3 see1 see2
      -- the new state
      have hdone := fun k => Q112 (k := k) (show i < listed.size by omega)
      have n1 : Last (WE L ios xs) e0 (Done (listed.setIfInBounds i true)) (fun t => (WE L ios xs i t).getD (e t)) := l1.add hdone (fun k t hk hik hne => by
        obtain ⟨ok, xk, h1, h2, h3, _⟩ := Q14k hne
        exact Q12c hio (fun hd => (Q42 (later k ok xk hik h1 h2 hk)).2.2.1 t hd h3)) (fun t => rfl)
      have n2 : Last (WH xs) Hs (Done (listed.setIfInBounds i true)) (upH H x.hw) := l2.add hdone (fun k id hk hik hne => by
        obtain ⟨xk, h2, h3⟩ := Q14r hne
        have hkl : k < ios.length := by have := (List.getElem?_eq_some_iff.1 h2).1; omega
        have h1 : ios[k]? = some ios[k] := List.getElem?_eq_getElem hkl
        exact Q13b hxi (fun hi' => ((Q42 (later k _ xk hik h1 h2 hk)).2.2.2.1 id hi').2 h3)) (fun t => (Qx7 hxi H).symm)
      have hfree : ∀ id, nx + 64 * i ≤ id → id < nx + 64 * i + 64 → D id = none ∧ H id = none := fun id h1 h2 => hf id (by omega) (fun j hj hc' => by
        have : j = i := by omega
        subst this
        exact hnd hj)
      refine Q94 hX A (fr := nx + 64 * i) (by omega) hfree g2 (hc i o io g2 hio) run (e' := fun t => (WE L ios xs i t).getD (e t)) (H' := upH H x.hw) (fun t => Qyi hio hxi (e t)) rfl (fun a' w' D' A' hfr' => ?_)
      refine ih (listed.setIfInBounds i true) a' w' _ _ D' (by simpa using hsz) (by have := Qr3 (show i < listed.size by omega) hnd; omega) (fun j io' hj hdj k hk => ?_) n1 n2 A' (fun id hid hno => ?_)
      · rw [hdone]
        rcases (hdone j).1 hdj with h | rfl
        · exact .inl (hcl j io' hj h k hk)
        · rw [hio] at hj
          injection hj with hj
          subst hj
          exact .inl (hbi k hk)
      · have h1 := hf id hid (fun j hj => hno j ((hdone j).2 (.inl hj)))
        have h2 := hno i ((hdone i).2 (.inr rfl))
        exact ⟨hfr' id h1.1 (by omega), Qqe (Qri run) h1.2 h2⟩
def Qy3 (P : Program) (ops : Array Oper) (ios : List IOper) (draw : Bool) : Bool := Qat P ops ops.toList ios && (!draw || Qn4 ios 0 ops.toList ios)
theorem Qla (hm : P.follows .mixedOrders = true) (hX : Q4s P X) {id : Nat} {ops : Array Oper} {ios : List IOper} {draw : Bool} (hc : Qy3 P ops ios draw = true) {s s' : St} (h : ireg X ios draw s = some s') {Q : Exit → Act → World → Prop}
    (A : At w0 D0 H0 F n0 m s.env.length (envF s.env) (look s.heap) a w D) (hf : ∀ id, s.nx ≤ id → D id = none ∧ look s.heap id = none) (hmn : m ≤ s.nx)
    (hQ : ∀ a' w' D', At w0 D0 H0 F n0 m s'.env.length (envF s'.env) (look s'.heap) a' w' D' → (∀ id, s'.nx ≤ id → D' id = none ∧ look s'.heap id = none) → Q .normal a' w') : (Code.region id ops draw).wp P Q a w := by
  unfold Qy3 at hc
  rw [Bool.and_eq_true] at hc
  obtain ⟨hc1, hc2⟩ := hc
  obtain ⟨hl, hch⟩ := Q8g hc1
  have hl : ios.length = ops.size := by simpa using hl.symm
  have hch' : ∀ j o io, ops[j]? = some o → ios[j]? = some io → Q64 P ops o io = true := fun j o io h1 h2 => hch j o io (by simpa using h1) h2
  unfold ireg at h
  obtain ⟨y, hy, h⟩ := bind_some h
  cases hcm : (!draw || calm (ios.zip y.2.2) 0 (ios.zip y.2.2)) with
  | false => rw [hcm] at h; cases h
  | true =>
    rw [hcm] at h
    simp only [cond_true, Option.some.injEq] at h
    subst h
    simp only at hQ
    rw [hl] at hQ
    cases draw with
    | false =>
      refine wp_region ?_
      have := Qbl hX hmn ios 0 s.env s.heap y a w D hy (fun j o io h1 h2 => hch' j o io (by simpa using h1) h2) (by omega) A (fun id h => hf id (by omega)) hQ
      rw [List.range_eq_range', ← hl]
      exact this
    | true =>
      refine wp_region_any hm ?_
      obtain ⟨g1, g2, g3, g4, g5⟩ := Q9w (ios := ios) (xs := y.2.2) (L := s.env.length) (e0 := envF s.env) (H0 := look s.heap) ios 0 s.env s.heap y hy (fun j => by simp) (fun j => by simp) rfl (Last.none (fun k => by omega)) (Last.none (fun k => by omega))
      rw [g2] at hQ
      rw [Nat.zero_add, hl] at g4 g5
      have hnone : ∀ j, ¬ Done (Array.replicate ops.size false) j := by
        intro j hj
        unfold Done at hj
        rw [Array.getD_eq_getD_getElem?, Array.getElem?_replicate] at hj
        split at hj <;> cases hj
      have htodo : todo (Array.replicate ops.size false) = ops.size := by
        unfold todo
        simp [List.countP_replicate]
      have A' : At w0 D0 H0 F n0 m s.env.length (envF s.env) (look s.heap) a { w with drawn := w.drawn + 1 } D := by
        have st : Step w D (look s.heap) F n0 m m { w with drawn := w.drawn + 1 } D (look s.heap) := Step.same A.sim rfl rfl rfl rfl
        have := A.step st (Nat.le_refl _) (dst := none) (v := undef) (p := .un) (.un _ _) (e' := envF s.env) (fun t => by simp)
        exact this
      exact Qsz hX hmn hl (by omega) hch' (by simpa using hc2) (by simpa using hcm) (fun j o x h1 h2 => g3 j o x (Nat.zero_le _) h1 h2) g4 g5 hQ ops.size (Array.replicate ops.size false) a _ (envF s.env) (look s.heap) D (by simp) htodo
        (fun j io _ hd => absurd hd (hnone j)) (Last.none hnone) (Last.none hnone) A' (fun id hid _ => hf id hid)
end
end Go.Pv
end

section
/-
  Tidying up at a loop's head; a function's end.
-/
namespace Go.Pv
open Go.RowKit
def Like (p q : PV) : Prop := ∀ w M D v, Rep w M D v p → Rep w M D v q
theorem Like.refl (p : PV) : Like p p := fun _ _ _ _ h => h
theorem Like.ns {sz k : Nat} : Like (.ns sz) (.ms k sz 0 0) := fun w M D v h => by
  cases h with
  | ns _ A _ => exact .ms _ A 0 0 k sz 0 (Nat.le_refl _) (Nat.zero_le _) (.inl ⟨rfl, rfl⟩)
def Q66 (l l' : List PV) : Prop := l'.length = l.length ∧ ∀ (k : Nat) p q, l[k]? = some p → l'[k]? = some q → Like p q
theorem Q66.nil : Q66 [] [] := ⟨rfl, fun k p q h => by simp at h⟩
theorem Q66.cons {p q : PV} {l l' : List PV} (h : Like p q) (hl : Q66 l l') : Q66 (p :: l) (q :: l') := by
  refine ⟨by simp [hl.1], fun k p' q' h1 h2 => ?_⟩
  cases k with
  | zero =>
    simp at h1 h2
    subst h1 h2
    exact h
  | succ k => exact hl.2 k p' q' (by simpa using h1) (by simpa using h2)
theorem Q66.refl : ∀ l : List PV, Q66 l l
  | [] => .nil
  | p :: r => .cons (Like.refl p) (Q66.refl r)
def Bare (nx : Nat) (l : List (Nat × Ob)) : Prop := ∀ x ∈ l, nx ≤ x.1 ∧ x.2.cells = [] ∧ x.2.ro = 0
theorem Bare.mono {nx nx' : Nat} {l : List (Nat × Ob)} (h : Bare nx' l) (hn : nx ≤ nx') : Bare nx l := fun x hx => ⟨Nat.le_trans hn (h x hx).1, (h x hx).2⟩
theorem Q3m : ∀ (l : List PV) (nx : Nat), Q66 l (Q31 nx l).1 ∧ nx ≤ (Q31 nx l).2.1 ∧ Bare nx (Q31 nx l).2.2
  | [], nx => ⟨.nil, Nat.le_refl _, fun x hx => absurd hx List.not_mem_nil⟩
  | p :: r, nx => by
    have plain : Q66 (p :: r) (p :: (Q31 nx r).1) ∧ nx ≤ (Q31 nx r).2.1 ∧ Bare nx (Q31 nx r).2.2 :=
      ⟨.cons (Like.refl p) (Q3m r nx).1, (Q3m r nx).2⟩
    cases p with
    | ns sz =>
      obtain ⟨h1, h2, h3⟩ := Q3m r (nx + 1)
      refine ⟨.cons Like.ns h1, by simp only [Q31]; omega, fun x hx => ?_⟩
      simp only [Q31] at hx
      rcases List.mem_cons.1 hx with rfl | hx
      · exact ⟨Nat.le_refl _, rfl, rfl⟩
      · exact (h3.mono (by omega)) x hx
    | _ => exact plain
def VOb (ob ob' : Ob) : Prop := ob'.ro = ob.ro ∧ ob'.gr = ob.gr ∧ Q66 ob.cells ob'.cells
theorem Qik : ∀ (h : List (Nat × Ob)) (nx : Nat), nx ≤ (Q9b nx h).2.1 ∧ Bare nx (Q9b nx h).2.2 ∧ (∀ id ob', look (Q9b nx h).1 id = some ob' → ∃ ob, look h id = some ob ∧ VOb ob ob')
  | [], nx => ⟨Nat.le_refl _, fun x hx => absurd hx List.not_mem_nil, fun id ob' h => by simp [Q9b, look] at h⟩
  | (k, ob) :: r, nx => by
    obtain ⟨h1, h2, h3⟩ := Q3m ob.cells nx
    obtain ⟨g1, g2, g3⟩ := Qik r (Q31 nx ob.cells).2.1
    refine ⟨by simp only [Q9b]; omega, fun x hx => ?_, fun id ob' hl => ?_⟩
    · simp only [Q9b] at hx
      rcases List.mem_append.1 hx with hx | hx
      · exact h3 x hx
      · exact (g2.mono h2) x hx
    · simp only [Q9b, look] at hl ⊢
      cases hb : Nat.beq k id with
      | true =>
        rw [hb] at hl
        simp only [cond_true, Option.some.injEq] at hl
        subst hl
        exact ⟨ob, rfl, rfl, rfl, h1⟩
      | false =>
        rw [hb] at hl
        simp only [cond_false] at hl ⊢
        exact g3 id ob' hl
theorem Qee {l l' : List (Nat × Ob)} {id : Nat} {ob : Ob} (h : look (l ++ l') id = some ob) : look l id = some ob ∨ look l' id = some ob := by
  induction l with
  | nil => exact .inr h
  | cons x r ih =>
    obtain ⟨k, o⟩ := x
    simp only [List.cons_append, look] at h ⊢
    cases hb : Nat.beq k id with
    | true => rw [hb] at h; exact .inl h
    | false => rw [hb] at h; exact ih h
theorem Qqi {l : List (Nat × Ob)} {id : Nat} {ob : Ob} (h : look l id = some ob) : (id, ob) ∈ l := by
  induction l with
  | nil => simp [look] at h
  | cons x r ih =>
    obtain ⟨k, o⟩ := x
    simp only [look] at h
    by_cases c : k = id
    · subst c
      simp at h
      subst h
      exact List.mem_cons_self
    · have : Nat.beq k id = false := by rw [Bool.eq_false_iff]; exact fun h => c (Nat.eq_of_beq_eq_true h)
      rw [this] at h
      exact List.mem_cons_of_mem _ (ih h)
theorem Qbc : ∀ (l : List Ob) (i j : Nat), look (number i l) (i + j) = l[j]?
  | [], i, j => by simp [number, look]
  | o :: r, i, j => by
    simp only [number, look]
    cases j with
    | zero => simp
    | succ j =>
      have : Nat.beq i (i + (j + 1)) = false := by rw [Bool.eq_false_iff]; exact fun h => by have := Nat.eq_of_beq_eq_true h; omega
      rw [this]
      have := Qbc r (i + 1) j
      rw [show i + 1 + j = i + (j + 1) by omega] at this
      simpa using this
theorem Q4i (l : List Ob) : look (number 0 l) = hF l := funext fun j => by
  have := Qbc l 0 j
  rw [Nat.zero_add] at this
  exact this
theorem Q69 : ∀ m : Nat, (upTo m).length = m ∧ ∀ p, p < m → (upTo m)[p]? = some p
  | 0 => ⟨rfl, fun p h => by omega⟩
  | m + 1 => by
    obtain ⟨h1, h2⟩ := Q69 m
    refine ⟨by simp [upTo, h1], fun p hp => ?_⟩
    simp only [upTo]
    by_cases c : p < m
    · rw [List.getElem?_append_left (by omega)]
      exact h2 p c
    · have : p = m := by omega
      subst this
      rw [List.getElem?_append_right (by omega), h1]
      simp
theorem Quf (m : Nat) : (upTo m).Nodup := by
  induction m with
  | zero => exact List.nodup_nil
  | succ m ih =>
    simp only [upTo]
    rw [List.nodup_append]
    refine ⟨ih, by simp, fun a ha b hb => ?_⟩
    simp at hb
    subst hb
    obtain ⟨i, hi⟩ := List.getElem?_of_mem ha
    have hl := (List.getElem?_eq_some_iff.1 hi).1
    rw [(Q69 b).1] at hl
    rw [(Q69 b).2 i hl] at hi
    injection hi with hi
    omega
section
variable {P : Program} {X : Orc} {w0 : World} {D0 : Nat → Option Nat} {H0 : Nat → Option Ob} {F : Nat → Nat → Prop} {n0 m L : Nat} {e : Nat → PV} {H : Nat → Option Ob} {a : Act} {w : World} {D : Nat → Option Nat}
theorem Qky (S : Sim w D H F n0 m) {Hv : Nat → Option Ob} (hv : ∀ id ob', Hv id = some ob' → (∃ ob, H id = some ob ∧ VOb ob ob') ∨ (ob'.cells = [] ∧ ob'.ro = 0 ∧ D id = none)) :
    (∀ b o, Mut D Hv F b o → Mut D H F b o) ∧ (∀ b o, MutO D Hv b o → MutO D H b o) ∧ Sim w D Hv F n0 m := by
  have hO : ∀ b o, MutO D Hv b o → MutO D H b o := by
    rintro b o ⟨id, ob', h1, h2, h3⟩
    rcases hv id ob' h1 with ⟨ob, g1, g2, _⟩ | ⟨_, _, g⟩
    · exact ⟨id, ob, g1, h2, by omega⟩
    · rw [h2] at g; cases g
  have hM : ∀ b o, Mut D Hv F b o → Mut D H F b o := fun b o h => h.imp (fun h => h) (hO b o)
  refine ⟨hM, hO, S.fr, S.le, S.own, fun id ob' h => ?_, fun i j x y k hi hj di dj => ?_, fun id ob' b o h hd => ?_⟩
  · rcases hv id ob' h with ⟨ob, g1, g2, g3, g4⟩ | ⟨g1, g2, g3⟩
    · obtain ⟨q1, q2⟩ := S.ok id ob g1
      refine ⟨by rw [g4.1]; omega, ?_⟩
      rcases q2 with ⟨e1, e2⟩ | ⟨b, carr, t, e1, e2, e3, e4, e5⟩
      · exact .inl ⟨List.eq_nil_of_length_eq_zero (by rw [g4.1, e1]; rfl), e2⟩
      · refine .inr ⟨b, carr, t, e1, e2, by rw [g4.1]; exact e3, fun hg => e4 (by rw [← g3]; exact hg), fun k q hq => ?_⟩
        have hlt : k < ob.cells.length := by rw [← g4.1]; exact (List.getElem?_eq_some_iff.1 hq).1
        obtain ⟨v, r1, r2, r3⟩ := e5 k _ (List.getElem?_eq_getElem hlt)
        exact ⟨v, r1, r2, g4.2 k _ q (List.getElem?_eq_getElem hlt) hq _ _ _ _ (r3.to (fun b o _ h => hM b o h) (fun _ _ h => h))⟩
    · exact ⟨by omega, .inl ⟨g1, g3⟩⟩
  · rcases hv i x hi with ⟨ob, g1, _⟩ | ⟨_, _, g⟩
    · rcases hv j y hj with ⟨ob', f1, _⟩ | ⟨_, _, f⟩
      · exact S.inj i j ob ob' k g1 f1 di dj
      · rw [dj] at f; cases f
    · rw [di] at g; cases g
  · rcases hv id ob' h with ⟨ob, g1, _⟩ | ⟨_, _, g⟩
    · exact S.dis id ob b o g1 hd
    · rw [hd] at g; cases g
theorem renumber (S : Sim w D H F n0 m) (byRef byRefO : Bool) {vs : List PV} {y : List PV × List Nat × List Nat} {z : List Ob × List Nat × List Nat} {n : Nat} (hy : Q3a (pass H byRef 8) vs (upTo m) = some y) (hz : Q1s H byRefO true n 0 y.2.1 = some z) (hdj : ∀ x ∈ y.2.2 ++ z.2.2, x ∉ z.2.1) :
    ∃ D', Sim w D' (hF z.1) F n0 m ∧ (∀ id, id < m → D' id = D id) ∧ (∀ id, z.1.length ≤ id → D' id = none) ∧ (∀ b o, Mut D' (hF z.1) F b o → Mut D H F b o) ∧ m ≤ z.1.length ∧ y.1.length = vs.length ∧
      ∀ (i : Nat) v p q, vs[i]? = some p → y.1[i]? = some q → Rep w (Mut D H F) D v p → Rep w (Mut D' (hF z.1) F) D' v q := by
  have hy0 := Q2b (M := Mut D H F) (fun p ids x hx => Q50 S (fun _ _ _ h => h) byRef 8 p ids x hx) vs (upTo m) y hy
  have hz0 := Q27 (M := Mut D H F) S (fun _ _ _ h => h) byRefO true n 0 y.2.1 z (Nat.zero_le _) hz
  have hnd0 := hy0.2.1 (Quf m)
  have hnd := hz0.2.1 hnd0
  have hpre : upTo m <+: z.2.1 := hy0.1.trans hz0.1
  have hlow : ∀ p, p < m → z.2.1[p]? = some p := fun p hp => Q41 hpre ((Q69 m).2 p hp)
  have hlen : z.1.length = z.2.1.length := by have := hz0.2.2.1; omega
  obtain ⟨h1, h2, h3⟩ := Qs0 S byRefO true hz hnd0 (lent := y.2.2 ++ z.2.2) (fun x hx => List.mem_append_right _ hx) (F' := F) (fun b o h => .inl h) (fun id _ ob b o h1 h2 _ hF => S.dis id ob b o h1 h2 hF) hdj (n' := n0) (m' := m) S.fr S.le
    (fun p b hp => by
      unfold Dof at hp
      cases hq : z.2.1[p]? with
      | none => rw [hq] at hp; cases hp
      | some id =>
        rw [hq] at hp
        rcases S.own id b hp with h | h
        · have := (List.getElem?_inj (List.getElem?_eq_some_iff.1 hq).1 hnd).1 (hq.trans (hlow id h).symm)
          exact .inl (by omega)
        · exact .inr h)
    (fun id ob b o _ h1 h2 => S.dis id ob b o h1 h2)
    (fun id ob b hob hg hd => by
      rcases (S.ok id ob hob).2 with ⟨_, e2⟩ | ⟨b', carr, t, e1, _, _, e4, _⟩
      · rw [hd] at e2; cases e2
      · rw [hd] at e1
        injection e1 with e1
        subst e1
        exact e4 (by simpa using hg))
  refine ⟨Dof D z.2.1, h3, fun id hid => by unfold Dof; rw [hlow id hid]; rfl, fun id hid => by unfold Dof; rw [List.getElem?_eq_none (by omega)]; rfl, h1, by have := hpre.length_le; rw [(Q69 m).1] at this; omega, hy0.2.2.1, fun i v p q hp hq hr => ?_⟩
  obtain ⟨_, _, _, c4⟩ := Q2b (fun p ids x hx => Q50 S (M := Mut (Dof D z.2.1) (hF z.1) F) (fun b o _ h => h1 b o h) byRef 8 p ids x hx) vs (upTo m) y hy
  exact c4 z.2.1 hz0.1 (fun id hi => h2 id (List.mem_append_left _ hi)) i v p q hp hq hr
theorem Qo9 (live : List Nat) : ∀ (l : List PV) (i : Nat), (mask live i l).length = l.length ∧ ∀ (k : Nat) q, (mask live i l)[k]? = some q → q = .un ∨ l[k]? = some q
  | [], i => ⟨rfl, fun k q h => by simp [mask] at h⟩
  | p :: r, i => by
    obtain ⟨h1, h2⟩ := Qo9 live r (i + 1)
    refine ⟨by simp [mask, h1], fun k q hq => ?_⟩
    cases k with
    | zero =>
      simp only [mask, List.getElem?_cons_zero, Option.some.injEq] at hq
      subst hq
      cases has live i with
      | true => exact .inr rfl
      | false => exact .inl rfl
    | succ k => simpa using h2 k q (by simpa [mask] using hq)
theorem Qr6 {n : Nat} {vs : List PV} {ids : List Nat} {y : List PV × List Nat × List Nat} (h : Q3a (pass H true n) vs ids = some y) : y.2.2 = [] := by
  induction n generalizing vs ids y with
  | zero =>
    cases vs with
    | nil => simp only [Q3a, Option.some.injEq] at h; subst h; rfl
    | cons p r =>
      simp only [Q3a] at h
      obtain ⟨x, hx, _⟩ := bind_some h
      simp [pass] at hx
  | succ n ih =>
    have one : ∀ p ids x, pass H true (n + 1) p ids = some x → x.fr = [] := by
      intro p ids x h
      cases p with
      | bx id off => rw [pass] at h; injection h with h; subst h; rfl
      | ms id sz off len => rw [pass, cond_true] at h; injection h with h; subst h; rfl
      | agg c =>
        rw [pass] at h
        obtain ⟨y, hy, h⟩ := bind_some h
        injection h with h
        subst h
        exact ih hy
      | tup c =>
        rw [pass] at h
        obtain ⟨y, hy, h⟩ := bind_some h
        injection h with h
        subst h
        exact ih hy
      | fn f a b =>
        rw [pass] at h
        obtain ⟨y, hy, h⟩ := bind_some h
        obtain ⟨z, hz, h⟩ := bind_some h
        injection h with h
        subst h
        show y.2.2 ++ z.2.2 = []
        rw [ih hy, ih hz]
        rfl
      | _ => simp only [pass, Option.some.injEq] at h; subst h; rfl
    induction vs generalizing ids y with
    | nil => simp only [Q3a, Option.some.injEq] at h; subst h; rfl
    | cons p r ihr =>
      simp only [Q3a] at h
      obtain ⟨x, hx, h⟩ := bind_some h
      obtain ⟨z, hz, h⟩ := bind_some h
      injection h with h
      subst h
      show x.fr ++ z.2.2 = []
      rw [one p ids x hx, ihr hz]
      rfl
theorem Qfi {own : Bool} : ∀ (n k : Nat) (ids : List Nat) (z : List Ob × List Nat × List Nat), Q1s H true own n k ids = some z → z.2.2 = []
  | 0, k, ids, z, h => by simp [Q1s] at h
  | n + 1, k, ids, z, h => by
    simp only [Q1s] at h
    cases hid : ids[k]? with
    | none => simp only [hid, Option.some.injEq] at h; subst h; rfl
    | some id =>
      simp only [hid] at h
      obtain ⟨ob, hob, h⟩ := bind_some h
      obtain ⟨y, hy, h⟩ := bind_some h
      obtain ⟨z', hz, h⟩ := bind_some h
      injection h with h
      subst h
      show y.2.2 ++ z'.2.2 = []
      rw [Qr6 hy, Qfi n (k + 1) y.2.1 z' hz]
      rfl
theorem Qm8 {s : St} (A : At w0 D0 H0 F n0 m s.env.length (envF s.env) (look s.heap) a w D) (hf : ∀ id, s.nx ≤ id → D id = none ∧ look s.heap id = none) {live : List Nat} {y : List PV × List Ob} (h : gc0 m live s = some y) :
    ∃ D', At w0 D0 H0 F n0 m y.1.length (envF y.1) (hF y.2) a w D' ∧ (∀ id, y.2.length ≤ id → D' id = none ∧ hF y.2 id = none) ∧ m ≤ y.2.length := by
  unfold gc0 at h
  obtain ⟨y1, hy1, h⟩ := bind_some h
  obtain ⟨z, hz, h⟩ := bind_some h
  injection h with h
  subst h
  obtain ⟨v1, v2, v3⟩ := Q3m (mask live 0 s.env) s.nx
  obtain ⟨u1, u2, u3⟩ := Qik s.heap (Q31 s.nx (mask live 0 s.env)).2.1
  obtain ⟨hM, hO, S⟩ := Qky A.sim (Hv := look ((Q9b (Q31 s.nx (mask live 0 s.env)).2.1 s.heap).1 ++ ((Q31 s.nx (mask live 0 s.env)).2.2 ++ (Q9b (Q31 s.nx (mask live 0 s.env)).2.1 s.heap).2.2))) (fun id ob' h => by
    rcases Qee h with h | h
    · exact .inl (u3 id ob' h)
    · have : s.nx ≤ id ∧ ob'.cells = [] ∧ ob'.ro = 0 := by
        rcases List.mem_append.1 (Qqi h) with hm | hm
        · exact v3 _ hm
        · exact (u2.mono v2) _ hm
      exact .inr ⟨this.2.1, this.2.2, (hf id this.1).1⟩)
  obtain ⟨D', S', hlow, hout, hsub, hlen, hyl, hrep⟩ := renumber S true true hy1 hz (by rw [Qr6 hy1, Qfi _ _ _ _ hz]; exact fun x hx => absurd hx List.not_mem_nil)
  obtain ⟨m1, m2⟩ := Qo9 live s.env 0
  have hlt : y1.1.length = s.env.length := by rw [hyl, v1.1, m1]
  refine ⟨D', ⟨S', fun t => ?_, by rw [hlt]; exact A.size, fun t ht => ?_, A.keeps, fun id hid => by rw [hlow id hid, A.low id hid], fun b o hb h => A.sub b o hb (hM b o (hsub b o h)), A.defers⟩, fun id hid => ⟨hout id hid, List.getElem?_eq_none hid⟩, hlen⟩
  · unfold envF
    rw [List.getD_eq_getElem?_getD]
    cases hq : y1.1[t]? with
    | none => exact .un _ _
    | some q =>
      have htl : t < (Q31 s.nx (mask live 0 s.env)).1.length := by rw [← hyl]; exact (List.getElem?_eq_some_iff.1 hq).1
      refine hrep t _ _ q (List.getElem?_eq_getElem htl) hq ?_
      have htm : t < (mask live 0 s.env).length := by rw [← v1.1]; exact htl
      refine v1.2 t _ _ (List.getElem?_eq_getElem htm) (List.getElem?_eq_getElem htl) _ _ _ _ ?_
      rcases m2 t _ (List.getElem?_eq_getElem htm) with h | h
      · rw [h]; exact .un _ _
      · have := A.env t
        unfold envF at this
        rw [List.getD_eq_getElem?_getD, h] at this
        exact this.to (fun b o _ h => hM b o h) (fun _ _ h => h)
  · show envF y1.1 t = .un
    unfold envF
    rw [List.getD_eq_getElem?_getD, List.getElem?_eq_none ht]
    rfl
theorem Like.flat (p : PV) : Like p (Qk3 p) := fun w M D v h => by
  cases p <;> first | exact h | skip
  cases h with
  | ns _ A sz => exact .sl _ A 0 0 0 [] 0 0 (fun _ _ => default) rfl (Nat.le_refl _) (Nat.zero_le _) (fun r hr => absurd hr List.not_mem_nil) (fun h => absurd h (Nat.lt_irrefl _)) (fun j r hj => by simp at hj) (fun j r hj => by simp at hj)
theorem Q66.flat (l : List PV) : Q66 l (l.map Qk3) := by
  refine ⟨by simp, fun k p q hp hq => ?_⟩
  rw [List.getElem?_map, hp] at hq
  simp only [Option.map_some, Option.some.injEq] at hq
  subst hq
  exact Like.flat p
theorem Q12j {s : St} (A : At w0 D0 H0 F n0 m s.env.length (envF s.env) (look s.heap) a w D) : At w0 D0 H0 F n0 m (Q4w s).env.length (envF (Q4w s).env) (look (Q4w s).heap) a w D := by
  obtain ⟨hM, hO, S⟩ := Qky A.sim (Hv := look (Q4w s).heap) (fun id ob' h => by
    rw [show (Q4w s).heap = s.heap.map fun x => (x.1, Qab x.2) from rfl, Q80] at h
    cases e : look s.heap id with
    | none => rw [e] at h; cases h
    | some ob =>
      rw [e] at h
      simp only [Option.map_some, Option.some.injEq] at h
      subst h
      exact .inl ⟨ob, rfl, rfl, rfl, Q66.flat ob.cells⟩)
  have hlen : (Q4w s).env.length = s.env.length := by simp [Q4w]
  have henv : ∀ t, envF (Q4w s).env t = Qk3 (envF s.env t) := fun t => by
    show (s.env.map Qk3).getD t .un = Qk3 (s.env.getD t .un)
    rw [List.getD_eq_getElem?_getD, List.getD_eq_getElem?_getD, List.getElem?_map]
    cases s.env[t]? <;> rfl
  refine ⟨S, fun t => ?_, by rw [hlen]; exact A.size, fun t ht => ?_, A.keeps, A.low, fun b o hb h => A.sub b o hb (hM b o h), A.defers⟩
  · rw [henv]
    exact Like.flat _ _ _ _ _ ((A.env t).to (fun b o _ h => hM b o h) (fun _ _ h => h))
  · rw [henv, A.out t (by rw [hlen] at ht; exact ht)]
    rfl
theorem Qrt {s : St} (A : At w0 D0 H0 F n0 m s.env.length (envF s.env) (look s.heap) a w D) (hf : ∀ id, s.nx ≤ id → D id = none ∧ look s.heap id = none) {live : List Nat} {y : List PV × List Ob} (h : gc m live s = some y) :
    ∃ D', At w0 D0 H0 F n0 m y.1.length (envF y.1) (hF y.2) a w D' ∧ (∀ id, y.2.length ≤ id → D' id = none ∧ hF y.2 id = none) ∧ m ≤ y.2.length := by
  unfold gc at h
  cases c : has live 200001 with
  | false =>
    rw [c] at h
    exact Qm8 A hf h
  | true =>
    rw [c] at h
    refine Qm8 (Q12j A) (fun id hid => ⟨(hf id hid).1, ?_⟩) h
    rw [show (Q4w s).heap = s.heap.map fun x => (x.1, Qab x.2) from rfl, Q80, (hf id hid).2]
    rfl
def Q84 (P : Program) : List ResultVar → List RV → Bool
  | [], [] => true
  | .tmp t :: r, .tmp t' :: r' => Nat.beq t t' && Q84 P r r'
  | .cell t ty :: r, .cell t' n ag :: r' => Nat.beq t t' && tyOK P ty n ag && Q84 P r r'
  | _, _ => false
theorem Q139 (S : Sim w D H F n0 m) {t : TypeId} {n : Nat} {ag : Bool} (ht : tyOK P t n ag = true) {p q : PV} {c : List PV × List Nat} (hc : reads H n p = some c) (hq : shape ag c.1 = some q) {u : Value} (hu : Rep w (Mut D H F) D u p) :
    ∃ v, (do loadVar t (← asAddr u) : Sem Value).run P w = .ok v w ∧ Rep w (Mut D H F) D v q := by
  obtain ⟨b, off, xs, hv, hl, hra, hrn⟩ := Qcx S hc hu
  obtain ⟨ha, hn, h1⟩ := Q4x ht
  subst hv
  cases ag with
  | true =>
    obtain ⟨fs, hu⟩ := Qif ha
    simp only [shape, cond_true, Option.some.injEq] at hq
    subst hq
    refine ⟨.agg xs.toArray, ?_, .agg _ _ _ (by simpa using hrn.1) (fun i v p hv hp => (hrn.2 i v p (by simpa using hv) hp).1) (fun i v p hv hp => (hrn.2 i v p (by simpa using hv) hp).2)⟩
    obtain ⟨i, hi, his⟩ := Q5u hn
    have := run_loadVar_mid (P := P) w b off t xs _ hra hu rfl (by rw [hi]; simp [his, hl])
    simp [asAddr, this]
  | false =>
    have hn1 : n = 1 := h1 rfl
    subst hn1
    cases xs with
    | nil => simp at hl
    | cons u r =>
      have hr0 : r = [] := by cases r with | nil => rfl | cons _ _ => simp at hl
      subst hr0
      obtain ⟨c1, c2⟩ := c
      cases c1 with
      | nil => have := hrn.1; simp at this
      | cons p r =>
        have : r = [] := by cases r with | nil => rfl | cons _ _ => have := hrn.1; simp at this
        subst this
        simp only [shape, cond_false, Option.some.injEq] at hq
        subst hq
        have hcell := hra 0 u rfl
        simp only [Nat.add_zero] at hcell
        refine ⟨u, ?_, (hrn.2 0 u p rfl rfl).2⟩
        simp [asAddr, loadVar, Q44 ha, hcell]
def Qx9 (tmps : Array Value) : ResultVar → Sem Value
  | .tmp t => pure (tmps.getD t undef)
  | .cell x t => do loadVar t (← asAddr (tmps.getD x undef))
theorem Quc (fn : Func) (tmps : Array Value) : results fn tmps = (do let vs ← fn.results.mapM (Qx9 tmps); pure (if h : vs.size = 1 then vs[0] else .tuple vs)) := by
  unfold results
  have : (fun x : ResultVar => (match x with | .tmp t => pure (tmps.getD t undef) | .cell x t => do loadVar t (← asAddr (tmps.getD x undef)) : Sem Value)) = Qx9 tmps := by
    funext x
    cases x <;> rfl
  rw [← this]
  rfl
theorem Qdn {s : St} (S : Sim w D (look s.heap) F n0 m) (he : Q6v w (Mut D (look s.heap) F) D a (envF s.env)) : ∀ (rs : List ResultVar) (is : List RV) (vs : List PV), Q84 P rs is = true → mapO (rv s) is = some vs →
    ∃ us, (rs.mapM (Qx9 a.tmps)).run P w = .ok us w ∧ RepL w (Mut D (look s.heap) F) D us vs
  | [], [], vs, _, h => by
    simp only [mapO, Option.some.injEq] at h
    subst h
    exact ⟨[], by simp, RepL.nil _ _ _⟩
  | [], _ :: _, vs, h, _ => by cases h
  | x :: rs, [], vs, h, _ => by cases x <;> cases h
  | x :: rs, i :: is, vs, hc, h => by
    simp only [mapO] at h
    obtain ⟨q, hq, h⟩ := bind_some h
    obtain ⟨qs, hqs, h⟩ := bind_some h
    injection h with h
    subst h
    cases x with
    | tmp t =>
      cases i with
      | cell _ _ _ => cases hc
      | tmp t' =>
        simp only [Q84, Bool.and_eq_true] at hc
        have := Nat.eq_of_beq_eq_true hc.1
        subst this
        obtain ⟨us, hus, hr⟩ := Qdn S he rs is qs hc.2 hqs
        simp only [rv, Option.some.injEq] at hq
        subst hq
        refine ⟨_ :: us, ?_, RepL.cons (he t) hr⟩
        rw [List.mapM_cons, Sem.run_bind]
        have hv' : (Qx9 a.tmps (.tmp t)).run P w = .ok (a.tmps.getD t undef) w := rfl
        rw [hv', Result.andThen_ok, Sem.run_bind, hus]
        rfl
    | cell t ty =>
      cases i with
      | tmp _ => cases hc
      | cell t' n ag =>
        simp only [Q84, Bool.and_eq_true] at hc
        have := Nat.eq_of_beq_eq_true hc.1.1
        subst this
        obtain ⟨us, hus, hr⟩ := Qdn S he rs is qs hc.2 hqs
        simp only [rv] at hq
        obtain ⟨c, hc1, hc2⟩ := bind_some hq
        obtain ⟨v, hv, hvr⟩ := Q139 (P := P) S hc.1.2 hc1 hc2 (he t)
        refine ⟨v :: us, ?_, RepL.cons hvr hr⟩
        rw [List.mapM_cons, Sem.run_bind]
        have hv' : (Qx9 a.tmps (.cell t ty)).run P w = .ok v w := hv
        rw [hv', Result.andThen_ok, Sem.run_bind, hus]
        rfl
theorem Q4f : ∀ (m : Nat) (l : List Ob) (p : Nat) (ob : Ob), (regr m l)[p]? = some ob → ∃ o, l[p]? = some o ∧ ob.ro = o.ro ∧ ob.cells = o.cells ∧ (p < m → ob = o)
  | _, [], p, ob, h => by simp [regr] at h
  | 0, o :: r, p, ob, h => by
    cases p with
    | zero =>
      simp only [regr, List.getElem?_cons_zero, Option.some.injEq] at h
      subst h
      exact ⟨o, rfl, rfl, rfl, fun h => absurd h (Nat.not_lt_zero _)⟩
    | succ p =>
      simp only [regr, List.getElem?_cons_succ] at h
      obtain ⟨o', h1, h2, h3, _⟩ := Q4f 0 r p ob h
      exact ⟨o', by simpa using h1, h2, h3, fun h => absurd h (Nat.not_lt_zero _)⟩
  | m + 1, o :: r, p, ob, h => by
    cases p with
    | zero =>
      simp only [regr, List.getElem?_cons_zero, Option.some.injEq] at h
      subst h
      exact ⟨o, rfl, rfl, rfl, fun _ => rfl⟩
    | succ p =>
      simp only [regr, List.getElem?_cons_succ] at h
      obtain ⟨o', h1, h2, h3, h4⟩ := Q4f m r p ob h
      exact ⟨o', by simpa using h1, h2, h3, fun h => h4 (by omega)⟩
theorem Q7o : ∀ (m : Nat) (l : List Ob), (regr m l).length = l.length
  | _, [] => by simp [regr]
  | 0, o :: r => by simp [regr, Q7o 0 r]
  | m + 1, o :: r => by simp [regr, Q7o m r]
theorem Qxj (m : Nat) (l : List Ob) (p : Nat) (o : Ob) (h : l[p]? = some o) : ∃ ob, (regr m l)[p]? = some ob ∧ ob.ro = o.ro ∧ ob.cells = o.cells := by
  have hlt : p < (regr m l).length := by rw [Q7o]; exact (List.getElem?_eq_some_iff.1 h).1
  obtain ⟨o', h1, h2, h3, _⟩ := Q4f m l p _ (List.getElem?_eq_getElem hlt)
  rw [h] at h1
  injection h1 with h1
  subst h1
  exact ⟨_, List.getElem?_eq_getElem hlt, h2, h3⟩
theorem Qk1 {m : Nat} {l : List Ob} {D : Nat → Option Nat} {F : Nat → Nat → Prop} {b o : Nat} : Mut D (hF (regr m l)) F b o ↔ Mut D (hF l) F b o := by
  constructor
  · rintro (h | ⟨id, ob, h1, h2, h3⟩)
    · exact .inl h
    · obtain ⟨o', g1, g2, _⟩ := Q4f m l id ob h1
      exact .inr ⟨id, o', g1, h2, by rw [← g2]; exact h3⟩
  · rintro (h | ⟨id, ob, h1, h2, h3⟩)
    · exact .inl h
    · obtain ⟨o', g1, g2, _⟩ := Qxj m l id ob h1
      exact .inr ⟨id, o', g1, h2, by rw [g2]; exact h3⟩
theorem Q110 {w : World} {D : Nat → Option Nat} {l : List Ob} {F : Nat → Nat → Prop} {n0 m : Nat} (S : Sim w D (hF l) F n0 m) : Sim w D (hF (regr m l)) F n0 m := by
  refine ⟨S.fr, S.le, S.own, fun id ob h => ?_, fun i j a b k hi hj di dj => ?_, fun id ob b o h hd => ?_⟩
  · obtain ⟨o', g1, g2, g3, g4⟩ := Q4f m l id ob h
    obtain ⟨k1, k2⟩ := S.ok id o' g1
    refine ⟨by rw [g2, g3]; exact k1, ?_⟩
    rcases k2 with ⟨e1, e2⟩ | ⟨b, carr, t, e1, e2, e3, e4, e5⟩
    · exact .inl ⟨by rw [g3]; exact e1, e2⟩
    · refine .inr ⟨b, carr, t, e1, e2, by rw [g3]; exact e3, fun hg => ?_, fun k p hp => ?_⟩
      · by_cases c : id < m
        · rw [g4 c] at hg
          exact e4 hg
        · exact (S.own id b e1).resolve_left c
      · rw [g3] at hp
        obtain ⟨v, q1, q2, q3⟩ := e5 k p hp
        exact ⟨v, q1, q2, q3.to (fun b o _ h => Qk1.1 h) (fun _ _ h => h)⟩
  · obtain ⟨a', g1, _⟩ := Q4f m l i a hi
    obtain ⟨b', g2, _⟩ := Q4f m l j b hj
    exact S.inj i j a' b' k g1 g2 di dj
  · obtain ⟨a', g1, _⟩ := Q4f m l id ob h
    exact S.dis id a' b o g1 hd
theorem Qfa {fn : IFn} {Fn : Func} {s : St} (A : At w0 D0 H0 F n0 m s.env.length (envF s.env) (look s.heap) a w D) (hf : ∀ id, s.nx ≤ id → D id = none ∧ look s.heap id = none) (hc : Q84 P Fn.results.toList fn.res = true) {r : Rs} (h : fin fn m s = some r) :
    ∃ v p h' D', r = .ret p h' ∧ (results Fn a.tmps).run P w = .ok v w ∧ Sim w D' (hF h') F n0 m ∧ (∀ id, id < m → D' id = D id) ∧ (∀ id, h'.length ≤ id → D' id = none) ∧ (∀ b o, Mut D' (hF h') F b o → Mut D (look s.heap) F b o) ∧ m ≤ h'.length ∧ Rep w (Mut D' (hF h') F) D' v p := by
  unfold fin at h
  obtain ⟨vs, hvs, h⟩ := bind_some h
  obtain ⟨y, hy, h⟩ := bind_some h
  obtain ⟨z, hz, h⟩ := bind_some h
  obtain ⟨hdj, h⟩ := Qr h
  injection h with h
  subst h
  obtain ⟨us, hus, hrl⟩ := Qdn A.sim A.env _ _ vs hc hvs
  -- what stands in the results, laid out
  have hvirt : Q66 vs (bif fn.keep then Q31 s.nx vs else (vs, s.nx, [])).1 ∧ Bare s.nx (bif fn.keep then Q31 s.nx vs else (vs, s.nx, [])).2.2 := by
    cases fn.keep with
    | true => exact ⟨(Q3m vs s.nx).1, (Q3m vs s.nx).2.2⟩
    | false => exact ⟨Q66.refl vs, fun x hx => absurd hx List.not_mem_nil⟩
  obtain ⟨hlike, hbare⟩ := hvirt
  obtain ⟨hM, hO, S⟩ := Qky A.sim (Hv := look (s.heap ++ (bif fn.keep then Q31 s.nx vs else (vs, s.nx, [])).2.2)) (fun id ob' h => by
    rcases Qee h with h | h
    · exact .inl ⟨ob', h, rfl, rfl, Q66.refl _⟩
    · have := hbare _ (Qqi h)
      exact .inr ⟨this.2.1, this.2.2, (hf id this.1).1⟩)
  obtain ⟨D', S', hlow, hout, hsub, hlen, hyl, hrep⟩ := renumber S fn.keep false hy hz (Qay.1 hdj)
  have hR : RepL w (Mut D' (hF z.1) F) D' us y.1 := by
    refine ⟨by rw [hyl, hlike.1]; exact hrl.1, fun i v q hv hq => ?_⟩
    have h1 : i < (bif fn.keep then Q31 s.nx vs else (vs, s.nx, [])).1.length := by rw [← hyl]; exact (List.getElem?_eq_some_iff.1 hq).1
    have h2 : i < vs.length := by rw [← hlike.1]; exact h1
    refine hrep i v _ q (List.getElem?_eq_getElem h1) hq ?_
    refine hlike.2 i _ _ (List.getElem?_eq_getElem h2) (List.getElem?_eq_getElem h1) _ _ _ _ ?_
    exact (hrl.2 i v _ hv (List.getElem?_eq_getElem h2)).to (fun b o _ h => hM b o h) (fun _ _ h => h)
  have hrun : ∀ u : Value, (if h : us.toArray.size = 1 then us.toArray[0] else .tuple us.toArray) = u → (results Fn a.tmps).run P w = .ok u w := by
    intro u hu
    rw [Quc, Sem.run_bind, Array.mapM_eq_mapM_toList, Sem.run_map, hus, Result.andThen_ok, Result.andThen_ok]
    rw [← hu]
    rfl
  have hR : RepL w (Mut D' (hF (regr m z.1)) F) D' us y.1 := hR.mono fun v p h => h.to (fun b o _ h => Qk1.1 h) (fun _ _ h => h)
  refine ⟨_, _, regr m z.1, D', rfl, hrun _ rfl, Q110 S', hlow, fun id h => hout id (by rw [Q7o] at h; exact h), fun b o h => hM b o (hsub b o (Qk1.1 h)), by rw [Q7o]; exact hlen, ?_⟩
  have htup : ∀ l : List PV, RepL w (Mut D' (hF (regr m z.1)) F) D' us l → Rep w (Mut D' (hF (regr m z.1)) F) D' (.tuple us.toArray) (.tup l) := fun l hl =>
    .tup _ _ _ (by simpa using hl.1) (fun i v p hv hp => hl.2 i v p (by simpa using hv) hp)
  generalize y.1 = l at hR ⊢
  match l, hR with
  | [], hR =>
    have : us.length = 0 := hR.1
    rw [dif_neg (by simp [this])]
    exact htup _ hR
  | [p], hR =>
    have : us.length = 1 := hR.1
    rw [dif_pos (by simpa using this)]
    exact hR.2 0 _ _ (by simp [this]) rfl
  | p :: q :: r, hR =>
    have : us.length = r.length + 1 + 1 := hR.1
    rw [dif_neg (by simp [this])]
    exact htup _ hR
end
end Go.Pv
end

section
/-
  Code, loops, functions: WHAT THE EVALUATOR ANSWERS, THE MACHINE ANSWERS.
-/
namespace Go.Pv
open Go.RowKit
def Q2c (P : Program) : IR → Code → Bool
  | .skip, c => (match c with | .skip => true | .label _ => true | _ => false)
  | .reg ios draw, c => (match c with | .region _ ops d => (d == draw) && Qy3 P ops ios draw | _ => false)
  | .seq a b, c => (match c with | .seq x y => Q2c P a x && Q2c P b y | _ => false)
  | .cond q a b, c => (match c with | .cond p x y => Q1z p q && Q2c P a x && Q2c P b y | _ => false)
  | .block id b, c => (match c with | .block id' x => Nat.beq id id' && Q2c P b x | _ => false)
  | .loop _ b, c => (match c with | .loop x => Q2c P b x | _ => false)
  | .exit id, c => (match c with | .exit id' => Nat.beq id id' | _ => false)
  | .ret, c => (match c with | .ret => true | _ => false)
def exOf : Ex → Exit
  | .normal => .normal
  | .exit id => .exit id
  | .ret => .ret
section
variable {P : Program} {X : Orc}
def Q15b (P : Program) (m : Nat) (b : IR) (env : List PV) (h : List Ob) (x : Ex) (s' : St) : Prop :=
  ∃ n, ∀ (c : Code), Q2c P b c = true → ∀ (w0 : World) (D0 : Nat → Option Nat) (H0 : Nat → Option Ob) (F : Nat → Nat → Prop) (n0 : Nat) (a : Act) (w : World) (D : Nat → Option Nat) (Q : Exit → Act → World → Prop),
    At w0 D0 H0 F n0 m env.length (envF env) (hF h) a w D → (∀ id, h.length ≤ id → D id = none) → m ≤ h.length →
      (∀ a' w' D', At w0 D0 H0 F n0 m s'.env.length (envF s'.env) (look s'.heap) a' w' D' → (∀ id, s'.nx ≤ id → D' id = none ∧ look s'.heap id = none) → m ≤ s'.nx → Q (exOf x) a' w') → Code.rounds P c Q n a w
def Qiy (P : Program) (X : Orc) : Prop := ∀ m live b env h x s', X (.loop m live b env h) = some (.st x s') → Q15b P m b env h x s'
variable {w0 : World} {D0 : Nat → Option Nat} {H0 : Nat → Option Ob} {F : Nat → Nat → Prop} {n0 m : Nat}
theorem Q12u {ops : List IOper} {draw : Bool} {s s' : St} (h : ireg X ops draw s = some s') : s.nx ≤ s'.nx := by
  unfold ireg at h
  obtain ⟨y, hy, h⟩ := bind_some h
  cases hc : (!draw || calm (ops.zip y.2.2) 0 (ops.zip y.2.2)) with
  | false => rw [hc] at h; cases h
  | true =>
    rw [hc] at h
    simp only [cond_true, Option.some.injEq] at h
    subst h
    exact Nat.le_add_right _ _
theorem Q3y (hm : P.follows .mixedOrders = true) (hX : Q4s P X) (hL : Qiy P X) : ∀ (ir : IR) (c : Code), Q2c P ir c = true → ∀ (s : St) (x : Ex) (s' : St), Q30 X m ir s = some (x, s') → ∀ (a : Act) (w : World) (D : Nat → Option Nat) (Q : Exit → Act → World → Prop),
    At w0 D0 H0 F n0 m s.env.length (envF s.env) (look s.heap) a w D → (∀ id, s.nx ≤ id → D id = none ∧ look s.heap id = none) → m ≤ s.nx →
      (∀ a' w' D', At w0 D0 H0 F n0 m s'.env.length (envF s'.env) (look s'.heap) a' w' D' → (∀ id, s'.nx ≤ id → D' id = none ∧ look s'.heap id = none) → m ≤ s'.nx → Q (exOf x) a' w') → Code.wp P c Q a w := by
  intro ir
  induction ir with
  | skip =>
    intro c hc s x s' h a w D Q A hf hn hQ
    simp only [Q30, Option.some.injEq, Prod.mk.injEq] at h
    obtain ⟨rfl, rfl⟩ := h
    cases c <;> first | (cases hc; done) | skip
    · exact wp_skip (hQ a w D A hf hn)
    · exact wp_label (hQ a w D A hf hn)
  | reg ios draw =>
    intro c hc s x s' h a w D Q A hf hn hQ
    simp only [Q30] at h
    obtain ⟨s1, hs, h⟩ := bind_some h
    simp only [Option.some.injEq, Prod.mk.injEq] at h
    obtain ⟨rfl, rfl⟩ := h
    cases c <;> first | (cases hc; done) | skip
    rename_i id ops d
    simp only [Q2c, Bool.and_eq_true] at hc
    have hd : d = draw := by simpa using hc.1
    subst hd
    exact Qla hm hX hc.2 hs A hf hn (fun a' w' D' A' hf' => hQ a' w' D' A' hf' (Nat.le_trans hn (Q12u hs)))
  | seq p q ihp ihq =>
    intro c hc s x s' h a w D Q A hf hn hQ
    simp only [Q30] at h
    obtain ⟨⟨x1, s1⟩, h1, h⟩ := bind_some h
    cases c <;> first | (cases hc; done) | skip
    rename_i cx cy
    simp only [Q2c, Bool.and_eq_true] at hc
    refine wp_seq (ihp cx hc.1 s x1 s1 h1 a w D _ A hf hn fun a' w' D' A' hf' hn' => ?_)
    cases x1 with
    | normal => exact ihq cy hc.2 s1 x s' h a' w' D' Q A' hf' hn' hQ
    | exit j =>
      simp only [Option.some.injEq, Prod.mk.injEq] at h
      obtain ⟨rfl, rfl⟩ := h
      exact hQ a' w' D' A' hf' hn'
    | ret =>
      simp only [Option.some.injEq, Prod.mk.injEq] at h
      obtain ⟨rfl, rfl⟩ := h
      exact hQ a' w' D' A' hf' hn'
  | cond q p r ihp ihr =>
    intro c hc s x s' h a w D Q A hf hn hQ
    cases c <;> first | (cases hc; done) | skip
    rename_i cq cx cy
    simp only [Q2c, Bool.and_eq_true] at hc
    have hq := Qq A.env hc.1.1
    simp only [Q30] at h
    split at h
    · rename_i t ht
      rw [ht] at hq
      have he : a.eval cq = .bool t := by
        generalize a.eval cq = u at hq
        cases hq with
        | bool _ _ => rfl
      refine wp_cond he ?_
      cases t with
      | true => exact ihp cx hc.1.2 s x s' h a w D Q A hf hn hQ
      | false => exact ihr cy hc.2 s x s' h a w D Q A hf hn hQ
    · cases h
  | block id p ih =>
    intro c hc s x s' h a w D Q A hf hn hQ
    simp only [Q30] at h
    obtain ⟨⟨x1, s1⟩, h1, h⟩ := bind_some h
    cases c <;> first | (cases hc; done) | skip
    rename_i id' cx
    simp only [Q2c, Bool.and_eq_true] at hc
    have hid := Nat.eq_of_beq_eq_true hc.1
    subst hid
    refine wp_block (ih cx hc.2 s x1 s1 h1 a w D _ A hf hn fun a' w' D' A' hf' hn' => ?_)
    cases x1 with
    | normal =>
      simp only [Option.some.injEq, Prod.mk.injEq] at h
      obtain ⟨rfl, rfl⟩ := h
      exact hQ a' w' D' A' hf' hn'
    | ret =>
      simp only [Option.some.injEq, Prod.mk.injEq] at h
      obtain ⟨rfl, rfl⟩ := h
      exact hQ a' w' D' A' hf' hn'
    | exit j =>
      simp only at h
      by_cases e : j = id
      · subst e
        simp only [Nat.beq_refl, cond_true, Option.some.injEq, Prod.mk.injEq] at h
        obtain ⟨rfl, rfl⟩ := h
        show Exit.inBlock j Q (.exit j) a' w'
        simp only [Exit.inBlock, if_true]
        exact hQ a' w' D' A' hf' hn'
      · have : Nat.beq j id = false := by rw [Bool.eq_false_iff]; exact fun h => e (Nat.eq_of_beq_eq_true h)
        simp only [this, cond_false, Option.some.injEq, Prod.mk.injEq] at h
        obtain ⟨rfl, rfl⟩ := h
        show Exit.inBlock id Q (.exit j) a' w'
        simp only [Exit.inBlock, if_neg e]
        exact hQ a' w' D' A' hf' hn'
  | loop live b ih =>
    intro c hc s x s' h a w D Q A hf hn hQ
    simp only [Q30] at h
    obtain ⟨y, hy, h⟩ := bind_some h
    obtain ⟨r, hr, h⟩ := bind_some h
    cases r with
    | ret _ _ => cases h
    | st x1 s1 =>
      simp only [Option.some.injEq, Prod.mk.injEq] at h
      obtain ⟨rfl, rfl⟩ := h
      cases c <;> first | (cases hc; done) | skip
      rename_i cx
      simp only [Q2c] at hc
      obtain ⟨D', A', hf', hn'⟩ := Qrt A hf hy
      obtain ⟨n, hn1⟩ := hL _ _ _ _ _ _ _ hr
      exact wp_loop_rounds n (hn1 cx hc w0 D0 H0 F n0 a w D' Q A' (fun id h => (hf' id h).1) hn' hQ)
  | exit id =>
    intro c hc s x s' h a w D Q A hf hn hQ
    simp only [Q30, Option.some.injEq, Prod.mk.injEq] at h
    obtain ⟨rfl, rfl⟩ := h
    cases c <;> first | (cases hc; done) | skip
    rename_i id'
    simp only [Q2c] at hc
    have hid := Nat.eq_of_beq_eq_true hc
    subst hid
    exact wp_exit (hQ a w D A hf hn)
  | ret =>
    intro c hc s x s' h a w D Q A hf hn hQ
    simp only [Q30, Option.some.injEq, Prod.mk.injEq] at h
    obtain ⟨rfl, rfl⟩ := h
    cases c <;> first | (cases hc; done) | skip
    exact wp_ret (hQ a w D A hf hn)
def Q1n (P : Program) (Fn : Func) (fn : IFn) : Bool :=
  Nat.beq Fn.ntmps fn.nt && Nat.ble fn.np fn.nt && Q84 P Fn.results.toList fn.res && (match Fn.body with | some c => Q2c P fn.body c | none => false) && !(Fn.name == "runtime.NumGoroutine")
def Q10i (P : Program) (f : Nat) : Prop := Q5k P f ∧ ∀ (x y : ByteArray) (w : World), Calls P f #[.string x, .string y] w fun e w' => e = .returned (.int .i64 (cmpL x.toList y.toList)) ∧ w' = w
def AxOK (P : Program) (f : Nat) (φ : List PV → Option (PV × List Ob)) : Prop := ∀ args r h', φ args = some (r, h') → Q5k P f ∧ Qru P f args [] r h'
def Tie (P : Program) (G : Nat → Option Fun) : Prop := ∀ f d, G f = some d → match d with
  | .ir fn => ∃ Fn, P.funcs[f]? = some Fn ∧ Q1n P Fn fn = true
  | .cmpstr => Q10i P f
  | .ax φ => AxOK P f φ
theorem Qss {Fn : Func} {fn : IFn} (h : Q1n P Fn fn = true) : Fn.ntmps = fn.nt ∧ fn.np ≤ fn.nt ∧ Q84 P Fn.results.toList fn.res = true ∧ (∃ c, Fn.body = some c ∧ Q2c P fn.body c = true) ∧ (Fn.name == "runtime.NumGoroutine") = false := by
  unfold Q1n at h
  simp only [Bool.and_eq_true] at h
  obtain ⟨⟨⟨⟨h1, h2⟩, h3⟩, h4⟩, h5⟩ := h
  refine ⟨Nat.eq_of_beq_eq_true h1, Nat.le_of_ble_eq_true h2, h3, ?_, by simpa using h5⟩
  split at h4
  · rename_i c hc; exact ⟨c, hc, h4⟩
  · cases h4
theorem Q5s : ∀ (n t : Nat), (nuns n).length = n ∧ envF (nuns n) t = .un
  | 0, t => ⟨rfl, rfl⟩
  | n + 1, t => by
    obtain ⟨h1, h2⟩ := Q5s n (t - 1)
    refine ⟨by simp [nuns, h1], ?_⟩
    cases t with
    | zero => rfl
    | succ t => simpa [nuns, envF] using h2
theorem Qq8 (hm : P.follows .mixedOrders = true) (hX : Q4s P X) (hL : Qiy P X) {f : Nat} {Fn : Func} {fn : IFn} (hf : P.funcs[f]? = some Fn) (hc : Q1n P Fn fn = true) {args : List PV} {h : List Ob} (hal : args.length = fn.np) {x : Ex} {s : St}
    (hrun : Q30 X h.length fn.body ⟨args ++ nuns (fn.nt - fn.np), number 0 h, h.length⟩ = some (x, s)) (hx : ∀ j, x ≠ .exit j) {r : PV} {h' : List Ob} (hfin : fin fn h.length s = some (.ret r h')) : Q5k P f ∧ Qru P f args h r h' := by
  obtain ⟨c1, c2, c3, ⟨c, hb, c4⟩, c5⟩ := Qss hc
  refine ⟨⟨Fn, hf, by rw [hb]; rfl, c5⟩, fun w D F vals S hD hv => ?_⟩
  have hvs : vals.size = fn.np := by have := hv.1; rw [hal] at this; simpa using this
  have hfr : ∀ id, h.length ≤ id → D id = none ∧ look (number 0 h) id = none := fun id hid => ⟨hD id hid, by rw [Q4i]; exact List.getElem?_eq_none hid⟩
  have A : At w D (hF h) F w.heap.size h.length (args ++ nuns (fn.nt - fn.np)).length (envF (args ++ nuns (fn.nt - fn.np))) (look (number 0 h)) { tmps := vals ++ Array.replicate (Fn.ntmps - vals.size) undef, defers := [] } w D := by
    rw [Q4i]
    refine ⟨S, fun t => ?_, by simp [(Q5s _ 0).1, hal, hvs, c1], fun t ht => ?_, Keeps.refl _ w, fun _ _ => rfl, fun _ _ _ h => h, rfl⟩
    · by_cases c : t < args.length
      · have e1 : envF (args ++ nuns (fn.nt - fn.np)) t = args[t] := by simp [envF, List.getElem?_append_left c, c]
        have hlt : t < vals.size := by omega
        have e2 : (vals ++ Array.replicate (Fn.ntmps - vals.size) undef).getD t undef = vals[t] := by
          rw [Array.getD_eq_getD_getElem?, Array.getElem?_append_left hlt, Array.getElem?_eq_getElem hlt]
          rfl
        rw [e1]
        show Rep _ _ _ ((vals ++ Array.replicate (Fn.ntmps - vals.size) undef).getD t undef) _
        rw [e2]
        exact hv.2 t _ _ (by simp [hlt]) (List.getElem?_eq_getElem c)
      · have e1 : envF (args ++ nuns (fn.nt - fn.np)) t = .un := by
          have := (Q5s (fn.nt - fn.np) (t - args.length)).2
          unfold envF at this ⊢
          rw [List.getD_eq_getElem?_getD, List.getElem?_append_right (Nat.le_of_not_lt c), ← List.getD_eq_getElem?_getD]
          exact this
        rw [e1]
        exact .un _ _
    · show envF _ t = .un
      unfold envF
      rw [List.getD_eq_getElem?_getD, List.getElem?_eq_none ht]
      rfl
  refine calls_of_wp hf hb (Q3y hm hX hL fn.body c c4 _ x s hrun _ w D _ A hfr (Nat.le_refl _) fun a' w' D' A' hf' hn' => ?_)
  obtain ⟨v, p, h1, D1, e1, e2, e3, e4, e5, e6, e7, e8⟩ := Qfa A' hf' c3 hfin
  injection e1 with e1 e1'
  subst e1 e1'
  have fin_ : a'.defers = [] ∧ ∃ v, (results Fn a'.tmps).run P w' = .ok v w' ∧ (∃ v_1 D', Ending.returned v = .returned v_1 ∧ Sim w' D' (hF h') F w.heap.size h.length ∧ Keeps (MutO D (hF h)) w w' ∧ (∀ id, id < h.length → D' id = D id) ∧ (∀ id, h'.length ≤ id → D' id = none) ∧
      (∀ b o, b < w.heap.size → Mut D' (hF h') F b o → Mut D (hF h) F b o) ∧ h.length ≤ h'.length ∧ Rep w' (Mut D' (hF h') F) D' v_1 r) :=
    ⟨A'.defers, v, e2, v, D1, rfl, e3, A'.keeps, fun id hid => by rw [e4 id hid, A'.low id hid], e5, fun b o hb hmu => A'.sub b o hb (e6 b o hmu), e7, e8⟩
  cases x with
  | normal => exact fin_
  | ret => exact fin_
  | exit j => exact absurd rfl (hx j)
theorem Qh8 (hm : P.follows .mixedOrders = true) {G : Nat → Option Fun} (hT : Tie P G) : ∀ n, Q4s P (runs G n) ∧ Qiy P (runs G n)
  | 0 => ⟨fun f args h r h' hr => (by cases hr), fun m live b env h x s' hr => (by cases hr)⟩
  | n + 1 => by
    obtain ⟨hX, hL⟩ := Qh8 hm hT n
    constructor
    · intro f args h r h' hr
      simp only [runs, phi] at hr
      split at hr
      · rename_i fn hG
        obtain ⟨Fn, hf, hc⟩ := hT f _ hG
        obtain ⟨hal, hr⟩ := Qr hr
        have hal := Nat.eq_of_beq_eq_true hal
        obtain ⟨⟨x, s⟩, hrun, hr⟩ := bind_some hr
        cases x with
        | exit j => cases hr
        | normal => exact Qq8 hm hX hL hf hc hal hrun (fun j h => by cases h) hr
        | ret => exact Qq8 hm hX hL hf hc hal hrun (fun j h => by cases h) hr
      · rename_i hG
        obtain ⟨hcl, hcmp⟩ := hT f _ hG
        split at hr
        · rename_i x y
          injection hr with hr
          injection hr with h1 h2
          subst h1 h2
          refine ⟨hcl, fun w D F vals S hD hv => ?_⟩
          have h2 : vals.size = 2 := by have := hv.1; simpa using this
          obtain ⟨u0, u1, rfl⟩ : ∃ u0 u1, vals = #[u0, u1] := ⟨vals[0], vals[1], by
            apply Array.ext (by simpa using h2)
            intro i h1 h3
            match i, h3 with
            | 0, _ => rfl
            | 1, _ => rfl⟩
          have r0 := hv.2 0 u0 _ rfl rfl
          have r1 := hv.2 1 u1 _ rfl rfl
          cases r0 with
          | str _ _ =>
            cases r1 with
            | str _ _ =>
              refine (hcmp x y w).mono ?_
              rintro e w' ⟨rfl, rfl⟩
              exact ⟨_, D, rfl, S, Keeps.refl _ _, fun _ _ => rfl, hD, fun _ _ _ h => h, Nat.le_refl _, .int _ _ _⟩
        · cases hr
      · rename_i φ hG
        cases h with
        | cons _ _ => cases hr
        | nil =>
          obtain ⟨⟨v, ob⟩, hv, hr⟩ := bind_some hr
          injection hr with hr
          injection hr with h1 h2
          subst h1 h2
          exact hT f _ hG args v ob hv
      · cases hr
    · intro m live b env h x s' hr
      simp only [runs, phi] at hr
      obtain ⟨⟨x1, s1⟩, hrun, hr⟩ := bind_some hr
      have hl0 : look (number 0 h) = hF h := Q4i h
      have go : ∀ (Q' : Act → World → Prop) (c : Code), Q2c P b c = true → ∀ (w0 : World) (D0 : Nat → Option Nat) (H0 : Nat → Option Ob) (F : Nat → Nat → Prop) (n0 : Nat) (a : Act) (w : World) (D : Nat → Option Nat) (Q : Exit → Act → World → Prop),
          At w0 D0 H0 F n0 m env.length (envF env) (hF h) a w D → (∀ id, h.length ≤ id → D id = none) → m ≤ h.length →
          (∀ a' w' D', At w0 D0 H0 F n0 m s1.env.length (envF s1.env) (look s1.heap) a' w' D' → (∀ id, s1.nx ≤ id → D' id = none ∧ look s1.heap id = none) → m ≤ s1.nx → Exit.then Q' Q (exOf x1) a' w') → c.wp P (Exit.then Q' Q) a w := by
        intro Q' c hc w0 D0 H0 F n0 a w D Q A hf hn hQ
        refine Q3y hm hX hL b c hc _ x1 s1 hrun a w D _ (by rw [hl0]; exact A) (fun id hid => ⟨hf id hid, by rw [hl0]; exact List.getElem?_eq_none hid⟩) hn hQ
      cases x1 with
      | normal =>
        simp only at hr
        obtain ⟨y, hy, hr⟩ := bind_some hr
        obtain ⟨k, hk⟩ := hL _ _ _ _ _ _ _ hr
        refine ⟨k + 1, fun c hc w0 D0 H0 F n0 a w D Q A hf hn hQ => ?_⟩
        rw [rounds_succ]
        refine go _ c hc w0 D0 H0 F n0 a w D Q A hf hn fun a' w' D' A' hf' hn' => ?_
        obtain ⟨D2, A2, hf2, hn2⟩ := Qrt A' hf' hy
        exact hk c hc w0 D0 H0 F n0 a' w' D2 Q A2 (fun id h => (hf2 id h).1) hn2 hQ
      | exit j =>
        injection hr with hr
        injection hr with h1 h2
        subst h1 h2
        refine ⟨1, fun c hc w0 D0 H0 F n0 a w D Q A hf hn hQ => ?_⟩
        rw [rounds_succ]
        exact go _ c hc w0 D0 H0 F n0 a w D Q A hf hn fun a' w' D' A' hf' hn' => hQ a' w' D' A' hf' hn'
      | ret =>
        injection hr with hr
        injection hr with h1 h2
        subst h1 h2
        refine ⟨1, fun c hc w0 D0 H0 F n0 a w D Q A hf hn hQ => ?_⟩
        rw [rounds_succ]
        exact go _ c hc w0 D0 H0 F n0 a w D Q A hf hn fun a' w' D' A' hf' hn' => hQ a' w' D' A' hf' hn'
end
end Go.Pv
end

section
/-
  What a law is handed: readings of its arguments as trees.
-/
namespace Go.Pv
open Go.RowKit
inductive Ty where
  | bool
  | int (k : IntKind)
  | str
  | sl (bytes : Nat) (e : Ty)
  | st (fs : List Ty)
  | nm (t : Nat)
mutual
/-- Cells that lie as a type says. -/
inductive Of (Γ : Nat → Option Ty) : Ty → List PV → Prop
  | bool (b : Bool) : Of Γ .bool [.bool b]
  | int (k : IntKind) (n : Int) (h : (Lit.int k n).wf = true) : Of Γ (.int k) [.int k n]
  | str (s : ByteArray) (h : s.size ≤ 140737488351232) : Of Γ .str [.str s]
  | sl (bytes : Nat) (e : Ty) (l : List (List PV)) (h : l.length * bytes ≤ 140737488351232) (hl : ∀ r ∈ l, Of Γ e r) : Of Γ (.sl bytes e) [.sl l]
  | st (fs : List Ty) (c : List PV) (h : OfL Γ fs c) : Of Γ (.st fs) c
  | nm (t : Nat) (ty : Ty) (c : List PV) (hg : Γ t = some ty) (h : Of Γ ty c) : Of Γ (.nm t) c
inductive OfL (Γ : Nat → Option Ty) : List Ty → List PV → Prop
  | nil : OfL Γ [] []
  | cons (f : Ty) (fs : List Ty) (a b : List PV) (h : Of Γ f a) (hr : OfL Γ fs b) : OfL Γ (f :: fs) (a ++ b)
end

mutual
def Q7g (P : Program) (Γ : Nat → Option Ty) : Ty → TypeId → Bool
  | .bool, t => Qb6 P t
  | .int k, t => intTy P t k
  | .str, t => Q9i P t
  | .sl bytes e, t => (match P.underlying t with | some (.slice te) => Nat.beq (P.bytesOf te) bytes && Nat.ble 1 (P.cellsOf te) && Q7g P Γ e te | _ => false)
  | .st fs, t => (match P.underlying t with | some (.struct gs) => Qm9 P Γ fs gs.toList 0 (P.cellsOf t) | _ => false)
  | .nm t', t => Nat.beq t' t && (Γ t').isSome
def Qm9 (P : Program) (Γ : Nat → Option Ty) : List Ty → List Field → Nat → Nat → Bool
  | [], [], off, n => Nat.beq off n
  | f :: fs, g :: gs, off, n => Nat.beq g.offset off && Q7g P Γ f g.type && Qm9 P Γ fs gs (off + P.cellsOf g.type) n
  | _, _, _, _ => false
end
def Ty.named : Ty → Bool
  | .nm _ => true
  | _ => false
def TabOK (P : Program) (Γ : Nat → Option Ty) : Prop := ∀ t ty, Γ t = some ty → ty.named = false ∧ Q7g P Γ ty t = true
theorem Qe5 {α : Type} {Q : Nat → α → Prop} : ∀ n : Nat, (∀ i, i < n → ∃ x, Q i x) → ∃ l : List α, l.length = n ∧ ∀ i x, l[i]? = some x → Q i x
  | 0, _ => ⟨[], rfl, fun i x h => by simp at h⟩
  | n + 1, h => by
    obtain ⟨l, hl, hq⟩ := Qe5 n (fun i hi => h i (by omega))
    obtain ⟨x, hx⟩ := h n (by omega)
    refine ⟨l ++ [x], by simp [hl], fun i y hy => ?_⟩
    by_cases c : i < l.length
    · rw [List.getElem?_append_left c] at hy
      exact hq i y hy
    · rw [List.getElem?_append_right (by omega)] at hy
      have hi : i - l.length = 0 := by
        have := (List.getElem?_eq_some_iff.1 hy).1
        simp at this
        omega
      rw [hi] at hy
      simp at hy
      subst hy
      rw [show i = n by omega]
      exact hx
def NoM : Nat → Nat → Prop := fun _ _ => False
def NoD : Nat → Option Nat := fun _ => none
def Light {H : Type} (P : Program) (t : TypeId) (d : DataW H) : Prop := (d.weights P t).all (· ≤ reachBytes) = true
section
variable {H : Type} {enc : TypeId × Value → H} {P : Program} {w : World} {base : Nat} {sp : Nat → Bool} {held : Bool} {Γ : Nat → Option Ty}
theorem Qus {ts : List TypeId} {ds : List (DataW H)} (h : (DataW.weightsEach P ts ds).all (· ≤ reachBytes) = true) : ∀ (i : Nat) t d, ts[i]? = some t → ds[i]? = some d → Light P t d := by
  induction ts generalizing ds with
  | nil => intro i t d ht; simp at ht
  | cons t0 ts ih =>
    cases ds with
    | nil => intro i t d _ hd; simp at hd
    | cons d0 ds =>
      simp only [DataW.weightsEach, List.all_append, Bool.and_eq_true] at h
      intro i t d ht hd
      cases i with
      | zero =>
        simp at ht hd
        subst ht hd
        exact h.1
      | succ i => exact ih h.2 i t d (by simpa using ht) (by simpa using hd)
theorem Qw8 {e : TypeId} {ds : List (DataW H)} (h : (DataW.weightsAll P e ds).all (· ≤ reachBytes) = true) : ∀ d ∈ ds, Light P e d := by
  induction ds with
  | nil => intro d hd; cases hd
  | cons d0 ds ih =>
    simp only [DataW.weightsAll, List.all_append, Bool.and_eq_true] at h
    intro d hd
    rcases List.mem_cons.1 hd with rfl | hd
    · exact h.1
    · exact ih h.2 d hd
theorem RepN.app {M : Nat → Nat → Prop} {D : Nat → Option Nat} {xs ys : List Value} {a b : List PV} (h : RepN w M D xs a) (h' : RepN w M D ys b) : RepN w M D (xs ++ ys) (a ++ b) := by
  refine ⟨by simp [h.1, h'.1], fun i v p hv hp => ?_⟩
  by_cases c : i < xs.length
  · rw [List.getElem?_append_left c] at hv
    rw [List.getElem?_append_left (by rw [← h.1]; exact c)] at hp
    exact h.2 i v p hv hp
  · rw [List.getElem?_append_right (by omega)] at hv
    rw [List.getElem?_append_right (by rw [← h.1]; omega), ← h.1] at hp
    exact h'.2 _ v p hv hp
theorem RepN.one {M : Nat → Nat → Prop} {D : Nat → Option Nat} {v : Value} {p : PV} (h1 : v.oneCell' = true) (h : Rep w M D v p) : RepN w M D [v] [p] := by
  refine ⟨rfl, fun i u q hu hq => ?_⟩
  cases i with
  | zero =>
    simp at hu hq
    subst hu hq
    exact ⟨h1, h⟩
  | succ i => simp at hu
theorem Qds {n : Nat} {cs : List Value} (ih : ∀ (ty : Ty) (t : TypeId) (cs : List Value) (x : DataW H × List MemPlace), Q7g P Γ ty t = true → DataW.trod enc P w base sp held n t cs = some x → Light P t x.1 → ∃ c, RepN w NoM NoD cs c ∧ Of Γ ty c) :
    ∀ (fs : List Ty) (gs : List Field) (off : Nat) (ys : List (DataW H × List MemPlace)), Qm9 P Γ fs gs off cs.length = true → ys.length = gs.length → (∀ (j : Nat) g, gs[j]? = some g → DataW.trod enc P w base sp held n g.type ((cs.drop g.offset).take (P.cellsOf g.type)) = ys[j]?) →
      (∀ (j : Nat) g y, gs[j]? = some g → ys[j]? = some y → Light P g.type y.1) → ∃ c, RepN w NoM NoD (cs.drop off) c ∧ OfL Γ fs c
  | [], [], off, ys, hc, _, _, _ => by
    simp only [Qm9] at hc
    have := Nat.eq_of_beq_eq_true hc
    refine ⟨[], ?_, .nil⟩
    rw [this, List.drop_length]
    exact ⟨rfl, fun i v p h => by simp at h⟩
  | [], _ :: _, off, ys, hc, _, _, _ => by cases hc
  | _ :: _, [], off, ys, hc, _, _, _ => by cases hc
  | f :: fs, g :: gs, off, [], hc, hl, _, _ => by simp at hl
  | f :: fs, g :: gs, off, y :: ys, hc, hl, ht, hw => by
    simp only [Qm9, Bool.and_eq_true] at hc
    have ho := Nat.eq_of_beq_eq_true hc.1.1
    have h0 := ht 0 g rfl
    simp only [List.getElem?_cons_zero] at h0
    obtain ⟨a, ha, hoa⟩ := ih f g.type _ y hc.1.2 h0 (hw 0 g y rfl rfl)
    obtain ⟨b, hb, hob⟩ := Qds ih fs gs (off + P.cellsOf g.type) ys hc.2 (by simpa using hl) (fun j g' hj => by have := ht (j + 1) g' (by simpa using hj); simpa using this) (fun j g' y' h1 h2 => hw (j + 1) g' y' (by simpa using h1) (by simpa using h2))
    refine ⟨a ++ b, ?_, .cons f fs a b hoa hob⟩
    have : cs.drop off = (cs.drop off).take (P.cellsOf g.type) ++ cs.drop (off + P.cellsOf g.type) := by
      rw [← List.drop_drop]
      exact (List.take_append_drop _ _).symm
    rw [this]
    rw [ho] at ha
    exact ha.app hb
theorem Q12f (hΓ : TabOK P Γ) : ∀ (fuel : Nat) (ty : Ty) (t : TypeId) (cs : List Value) (x : DataW H × List MemPlace), Q7g P Γ ty t = true → DataW.trod enc P w base sp held fuel t cs = some x → Light P t x.1 → ∃ c, RepN w NoM NoD cs c ∧ Of Γ ty c := by
  intro fuel
  induction fuel with
  | zero => intro ty t cs x _ h; simp [DataW.trod] at h
  | succ n ih =>
    have core : ∀ (ty : Ty) (t : TypeId) (cs : List Value) (x : DataW H × List MemPlace), ty.named = false → Q7g P Γ ty t = true → DataW.trod enc P w base sp held (n + 1) t cs = some x → Light P t x.1 → ∃ c, RepN w NoM NoD cs c ∧ Of Γ ty c := by
      intro ty t cs x hn hc h hw
      cases ty with
      | nm t' => cases hn
      | bool =>
        simp only [Q7g] at hc
        obtain ⟨b, rfl, rfl⟩ := DataW.trod_bool (Q7y hc) h
        exact ⟨_, .one rfl (.bool _ _), .bool b⟩
      | int k =>
        simp only [Q7g] at hc
        obtain ⟨m, rfl, rfl, hwf⟩ := DataW.trod_int (Qi1 hc) h
        exact ⟨_, .one rfl (.int _ _ _), .int k m hwf⟩
      | str =>
        simp only [Q7g] at hc
        obtain ⟨s, rfl, rfl, hs⟩ := DataW.trod_string (Q4j hc) h
        refine ⟨_, .one rfl (.str _ _), .str s ?_⟩
        simp only [Light, DataW.weights, List.all_cons, Bool.and_eq_true, decide_eq_true_eq] at hw
        have := hw.1
        unfold reachBytes at this
        simpa using this
      | sl bytes e =>
        simp only [Q7g] at hc
        split at hc
        · rename_i te hu
          rw [Bool.and_eq_true, Bool.and_eq_true] at hc
          have hby := Nat.eq_of_beq_eq_true hc.1.1
          have hsz := Nat.le_of_ble_eq_true hc.1.2
          rcases DataW.trod_slice hu h with ⟨rfl, rfl⟩ | ⟨a, len, cap, elems, rest, n', hn', rfl, rfl, hb, hl, hm, hlen, hel, _, _⟩
          · refine ⟨[.sl []], .one rfl (.sl _ _ _ _ 0 [] 0 0 (fun _ _ => default) rfl (Nat.le_refl _) (Nat.zero_le _) (fun r hr => absurd hr List.not_mem_nil) (fun h => by omega) (fun j r hj => by simp at hj) (fun j r hj => by simp at hj)), .sl _ _ [] (by simp) (fun r hr => absurd hr List.not_mem_nil)⟩
          · have hnn : n' = n := by omega
            subst hnn
            simp only [Light, DataW.weights, hu, List.all_cons, List.all_append, Bool.and_eq_true, decide_eq_true_eq, List.length_map] at hw
            obtain ⟨hw1, hw2, _⟩ := hw
            have hlight := Qw8 hw2
            have each : ∀ i, i < len → ∃ r, (∃ ys, w.cells? base (a.add (i * P.cellsOf te)) (P.cellsOf te) = some ys ∧ RepN w NoM NoD ys r) ∧ Of Γ e r := by
              intro i hi
              have h1 := hel i hi
              have hi' : i < elems.length := by omega
              rw [List.getElem?_eq_getElem hi'] at h1
              obtain ⟨ys, hy1, hy2⟩ := Option.bind_eq_some_iff.1 h1
              obtain ⟨r, hr, hor⟩ := ih e te ys _ hc.2 hy2 (hlight _ (List.mem_map.2 ⟨_, List.getElem_mem hi', rfl⟩))
              exact ⟨r, ⟨ys, hy1, hr⟩, hor⟩
            obtain ⟨l, hll, hlq⟩ := Qe5 len each
            have hcellsz : ∀ i ys, i < len → w.cells? base (a.add (i * P.cellsOf te)) (P.cellsOf te) = some ys → ys.length = P.cellsOf te ∧ ∀ j, j < P.cellsOf te → w.cell? ((a.add (i * P.cellsOf te)).add j) = ys[j]? := by
              intro i ys _ hy
              have := World.cells?_some hy
              exact ⟨this.2.1, this.2.2⟩
            have hspot : 0 < len → a = ⟨a.block, a.off, none⟩ := by
              intro hpos
              obtain ⟨r, ⟨ys, hy, hr⟩, _⟩ := each 0 hpos
              obtain ⟨hyl, hyc⟩ := hcellsz 0 ys hpos hy
              have h0 := hyc 0 (by omega)
              rw [List.getElem?_eq_getElem (by omega)] at h0
              simp only [Nat.zero_mul, Addr.add, if_true] at h0
              obtain ⟨b, o, s⟩ := a
              cases s with
              | none => rfl
              | some s =>
                simp only [World.cell?] at h0
                split at h0 <;> simp at h0
            have hadd : ∀ i j, 0 < len → (a.add (i * P.cellsOf te)).add j = ⟨a.block, a.off + i * P.cellsOf te + j, none⟩ := by
              intro i j hpos
              rw [hspot hpos]
              unfold Addr.add
              by_cases h1 : i * P.cellsOf te = 0 <;> by_cases h2 : j = 0 <;> simp [h1, h2]
            refine ⟨[.sl l], .one rfl (.sl _ (some a) len cap (P.cellsOf te) l a.block a.off (fun j i => (w.cell? ⟨a.block, a.off + j * P.cellsOf te + i, none⟩).getD default) hll hl hm ?_ (fun hp => congrArg some (hspot hp)) ?_ ?_), .sl bytes e l ?_ ?_⟩
            · intro r hr
              obtain ⟨i, hi⟩ := List.getElem?_of_mem hr
              have hil := (List.getElem?_eq_some_iff.1 hi).1
              obtain ⟨⟨ys, hy, hrn⟩, _⟩ := hlq i r hi
              rw [← hrn.1]
              exact (hcellsz i ys (by omega) hy).1
            · intro j r hj i p hi
              have hjl := (List.getElem?_eq_some_iff.1 hj).1
              have hil := (List.getElem?_eq_some_iff.1 hi).1
              obtain ⟨⟨ys, hy, hrn⟩, _⟩ := hlq j r hj
              obtain ⟨hyl, hyc⟩ := hcellsz j ys (by omega) hy
              have hiy : i < ys.length := by rw [hrn.1]; exact hil
              have := hyc i (by omega)
              rw [hadd j i (by omega), List.getElem?_eq_getElem hiy] at this
              refine ⟨fun h => h, by rw [this]; rfl, ?_⟩
              rw [this]
              exact (hrn.2 i _ p (List.getElem?_eq_getElem hiy) hi).1
            · intro j r hj i p hi
              have hjl := (List.getElem?_eq_some_iff.1 hj).1
              have hil := (List.getElem?_eq_some_iff.1 hi).1
              obtain ⟨⟨ys, hy, hrn⟩, _⟩ := hlq j r hj
              obtain ⟨hyl, hyc⟩ := hcellsz j ys (by omega) hy
              have hiy : i < ys.length := by rw [hrn.1]; exact hil
              have := hyc i (by omega)
              rw [hadd j i (by omega), List.getElem?_eq_getElem hiy] at this
              rw [this]
              exact (hrn.2 i _ p (List.getElem?_eq_getElem hiy) hi).2
            · rw [← hby, hll]
              unfold reachBytes at hw1
              have : len * P.bytesOf te ≤ (elems.length + rest.length) * P.bytesOf te := Nat.mul_le_mul_right _ (by omega)
              omega
            · intro r hr
              obtain ⟨i, hi⟩ := List.getElem?_of_mem hr
              exact (hlq i r hi).2
        · cases hc
      | st fs =>
        simp only [Q7g] at hc
        split at hc
        · rename_i gs hu
          obtain ⟨xs, n', hn', rfl, hl, hxl, hx⟩ := DataW.trod_struct hu h
          have hnn : n' = n := by omega
          subst hnn
          rw [← hl] at hc
          simp only [Light, DataW.weights, hu] at hw
          have hlight := Qus hw
          obtain ⟨c, hr, ho⟩ := Qds ih fs gs.toList 0 xs hc (by simpa using hxl) (fun j g hj => hx j g (by simpa using hj)) (fun j g y hj hy => hlight j g.type y.1 (by simp [hj]) (by simp [hy]))
          exact ⟨c, by simpa using hr, .st fs c ho⟩
        · cases hc
    intro ty t cs x hc h hw
    cases hty : ty.named with
    | false => exact core ty t cs x hty hc h hw
    | true =>
      cases ty with
      | nm t' =>
        simp only [Q7g, Bool.and_eq_true] at hc
        have := Nat.eq_of_beq_eq_true hc.1
        subst this
        obtain ⟨ty', hty'⟩ := Option.isSome_iff_exists.1 hc.2
        obtain ⟨h1, h2⟩ := hΓ _ _ hty'
        obtain ⟨c, hr, ho⟩ := core ty' t' cs x h1 h2 h hw
        exact ⟨c, hr, .nm t' ty' c hty' ho⟩
      | _ => cases hty
def Ty.isSt (Γ : Nat → Option Ty) : Ty → Bool
  | .st _ => true
  | .nm t => (match Γ t with | some (.st _) => true | _ => false)
  | _ => false
def Arg (Γ : Nat → Option Ty) (ty : Ty) (p : PV) : Prop := ∃ c, Of Γ ty c ∧ (bif ty.isSt Γ then p = .agg c else c = [p])
def Args (Γ : Nat → Option Ty) : List Ty → List PV → Prop
  | [], [] => True
  | t :: ts, p :: ps => Arg Γ t p ∧ Args Γ ts ps
  | _, _ => False
def chkArgs (P : Program) (Γ : Nat → Option Ty) : List Ty → List TypeId → Bool
  | [], [] => true
  | ty :: tys, t :: ts => Q7g P Γ ty t && (match P.underlying t with | some (.struct _) => ty.isSt Γ | some (.array _ _) => false | _ => !(ty.isSt Γ)) && P.readableRec t && decide (t < P.types.size) && chkArgs P Γ tys ts
  | _, _ => false
theorem Q115 (hΓ : TabOK P Γ) {ty : Ty} {t : TypeId} (hc : Q7g P Γ ty t = true) (hs : (match P.underlying t with | some (.struct _) => ty.isSt Γ | some (.array _ _) => false | _ => !(ty.isSt Γ)) = true) {r : Reach} {b0 : Nat} {v : Value} {d : DataW H} {ps : List MemPlace} (hval : Value.okWide P w r b0 t v) (h : DataW.Trod enc P w base sp held t v d ps) (hw : Light P t d) :
    ∃ p, Rep w NoM NoD v p ∧ Arg Γ ty p := by
  obtain ⟨fuel, hf⟩ := h
  obtain ⟨c, hr, ho⟩ := Q12f hΓ fuel ty t _ _ hc hf hw
  unfold Value.okWide at hval
  split at hs
  · rename_i fs hu
    rw [hu] at hval
    obtain ⟨cs, rfl, _, _⟩ := hval
    refine ⟨.agg c, .agg _ cs c (by simpa [Value.cells] using hr.1) (fun i v p hv hp => (hr.2 i v p (by simpa [Value.cells] using hv) hp).1) (fun i v p hv hp => (hr.2 i v p (by simpa [Value.cells] using hv) hp).2), c, ho, ?_⟩
    rw [hs]
    rfl
  · cases hs
  · rename_i hn1 hn2
    have hcell : Cell.okWide P w r b0 t v := by
      split at hval
      · rename_i fs hu; exact absurd hu (hn1 fs)
      · rename_i k e hu; exact absurd hu (hn2 k e)
      · exact hval
    have hone : v.oneCell' = true := by
      cases v with
      | agg cs => unfold Cell.okWide Cell.ok at hcell; split at hcell <;> simp_all
      | tuple cs => unfold Cell.okWide Cell.ok at hcell; split at hcell <;> simp_all
      | _ => rfl
    have hcs : v.cells.toList = [v] := by cases v <;> first | rfl | (cases hone)
    rw [hcs] at hr
    have hlen := hr.1
    cases c with
    | nil => simp at hlen
    | cons p rest =>
      have : rest = [] := List.eq_nil_of_length_eq_zero (by simpa using hlen.symm)
      subst this
      refine ⟨p, (hr.2 0 v p rfl rfl).2, [p], ho, ?_⟩
      have : ty.isSt Γ = false := by simpa using hs
      rw [this]
      rfl
theorem open_args (hΓ : TabOK P Γ) {r : Reach} {b0 : Nat} : ∀ {tys : List Ty} {ts : List TypeId} {vs : List Value} {ds : List (DataW H)} {ps : List MemPlace}, chkArgs P Γ tys ts = true → (∀ (j : Nat) t v, ts[j]? = some t → vs[j]? = some v → Value.okWide P w r b0 t v) → DataW.TrodAll enc P w base sp held ts vs ds ps →
    (DataW.weightsEach P ts ds).all (· ≤ reachBytes) = true → ∃ qs, RepL w NoM NoD vs qs ∧ Args Γ tys qs
  | [], [], vs, ds, ps, _, _, h, _ => by
    obtain ⟨rfl, rfl, rfl⟩ := ChangeShapes.trodAll_nil h
    exact ⟨[], RepL.nil _ _ _, trivial⟩
  | [], _ :: _, _, _, _, hc, _, _, _ => by cases hc
  | _ :: _, [], _, _, _, hc, _, _, _ => by cases hc
  | ty :: tys, t :: ts, vs, ds, ps, hc, hv, h, hw => by
    simp only [chkArgs, Bool.and_eq_true] at hc
    obtain ⟨v, vs', d, ds', p, q, rfl, rfl, rfl, h1, h2⟩ := ChangeShapes.trodAll_cons h
    simp only [DataW.weightsEach, List.all_append, Bool.and_eq_true] at hw
    obtain ⟨x, hx, hax⟩ := Q115 hΓ hc.1.1.1.1 hc.1.1.1.2 (hv 0 t v rfl rfl) h1 hw.1
    obtain ⟨qs, hq, haq⟩ := open_args hΓ hc.2 (fun j t' v' h1 h2 => hv (j + 1) t' v' (by simpa using h1) (by simpa using h2)) h2 hw.2
    exact ⟨x :: qs, RepL.cons hx hq, hax, haq⟩
theorem args_stay (hl : laidOutB P = true) {W W' : World} (hb : Below W.heap.size W W') : ∀ {tys : List Ty} {ts : List TypeId} {vs : List Value} {ds : List (DataW H)} {ps : List MemPlace}, chkArgs P Γ tys ts = true → DataW.TrodAll enc P W 0 (fun _ => true) true ts vs ds ps →
    DataW.TrodAll enc P W' 0 (fun b => decide (b < W.heap.size)) true ts vs ds ps
  | [], [], vs, ds, ps, _, h => by
    obtain ⟨rfl, rfl, rfl⟩ := ChangeShapes.trodAll_nil h
    rfl
  | [], _ :: _, _, _, _, hc, _ => by cases hc
  | _ :: _, [], _, _, _, hc, _ => by cases hc
  | ty :: tys, t :: ts, vs, ds, ps, hc, h => by
    simp only [chkArgs, Bool.and_eq_true] at hc
    obtain ⟨v, vs', d, ds', p, q, rfl, rfl, rfl, h1, h2⟩ := ChangeShapes.trodAll_cons h
    refine ⟨p, q, Below.trod hl hc.1.1.2 (by simpa using hc.1.2) h1 hb ?_, args_stay hl hb hc.2 h2, rfl⟩
    obtain ⟨m, hm⟩ := h1
    exact DataW.trod_lt m _ _ _ hm
end
theorem Q12s {P : Program} : Tie P (tabG []) := fun _ _ h => by cases h
theorem Qkn {P : Program} {r : List (Nat × Fun)} (ht : Tie P (tabG r)) {f : Nat} {d : Fun} (hd : match d with | .ir fn => ∃ Fn, P.funcs[f]? = some Fn ∧ Q1n P Fn fn = true | .cmpstr => Q10i P f | .ax φ => AxOK P f φ) : Tie P (tabG ((f, d) :: r)) := by
  intro k d' h
  simp only [tabG] at h
  by_cases c : f = k
  · subst c
    simp only [Nat.beq_refl, cond_true, Option.some.injEq] at h
    subst h
    exact hd
  · have : Nat.beq f k = false := by rw [Bool.eq_false_iff]; exact fun h => c (Nat.eq_of_beq_eq_true h)
    rw [this] at h
    exact ht k d' h
theorem Q1c {P : Program} {r : List (Nat × Fun)} {f : Nat} {Fn : Func} {fn : IFn} (hf : P.funcs[f]? = some Fn) (hc : Q1n P Fn fn = true) (ht : Tie P (tabG r)) : Tie P (tabG ((f, .ir fn) :: r)) := Qkn ht ⟨Fn, hf, hc⟩
theorem law_calls {P : Program} {G : Nat → Option Fun} (hm : P.follows .mixedOrders = true) (hT : Tie P G) {Γ : Nat → Option Ty} {tys : List Ty} {f : Nat} (hpure : ∀ qs, Args Γ tys qs → ∃ n, runs G n (.call f qs []) = some (.ret (.bool true) []))
    {W : World} {args : Array Value} (h : ∃ qs, RepL W NoM NoD args.toList qs ∧ Args Γ tys qs) : Calls P f args W fun e W' => e = .returned (.bool true) ∧ Below W.heap.size W W' := by
  obtain ⟨qs, hq, ha⟩ := h
  obtain ⟨n, hn⟩ := hpure qs ha
  obtain ⟨_, hok⟩ := (Qh8 hm hT n).1 f qs [] _ _ hn
  have hnoM : ∀ b o, Mut NoD (hF []) NoM b o → NoM b o := by
    rintro b o (h | ⟨id, ob, h1, _⟩)
    · exact h
    · simp [hF] at h1
  refine (hok W NoD NoM args ⟨fun b o h => h.elim, Nat.le_refl _, fun id b h => (by cases h), fun id ob h => (by simp [hF] at h), fun i j a b k h => (by simp [hF] at h), fun id ob b o h => (by simp [hF] at h)⟩ (fun _ _ => rfl) (hq.mono fun v p h => h.to (fun b o _ h => hnoM b o h) (fun _ _ h => h))).mono ?_
  rintro e W' ⟨v, D', rfl, _, hk, _, _, _, _, hr⟩
  cases hr with
  | bool _ _ =>
    refine ⟨rfl, (hk.mono (M1 := fun _ _ => False) ?_).below⟩
    rintro b o _ ⟨id, ob, h1, _⟩
    simp [hF] at h1
end Go.Pv
end

section
/- What slices.Clone answers: a row of one's own. -/
namespace Go.Pv
def bare : PV → Bool
  | .bool _ => true
  | .int _ _ => true
  | .str _ => true
  | .sl _ => true
  | .np => true
  | .nf => true
  | _ => false
def Qfj (sz bytes : Nat) : List PV → Option (PV × List Ob)
  | [.sl l] => bif Q5n l sz && Nat.ble (l.length * bytes) 140737488355328 && l.flatten.all bare then some (.ms 0 sz 0 l.length, [⟨sz, 0, true, l.flatten⟩]) else none
  | _ => none
end Go.Pv
end

section
/- slices.Clone's contract, proved of every program that holds its text. -/
namespace Go.Pv
open Go.RowKit
def irA (sz : Nat) : IR := .reg [⟨some 2, none, .mov (.c (.ns sz)), []⟩] false
def irB (sz : Nat) : IR := .cond (.t 4) (.seq (.reg [⟨some 2, none, .mov (.c (.ns sz)), []⟩] false) .ret) .skip
def irC (sz bytes : Nat) (z : List PV) : IR := .seq (.reg [⟨some 5, none, .lit sz 0 z [], []⟩, ⟨some 6, none, .mov (.t 0), []⟩, ⟨some 7, none, .append sz bytes (.t 5) (.t 6), []⟩, ⟨some 2, none, .mov (.t 7), []⟩] false) .ret
def Qx8 (P : Program) (ops : Array Oper) : Bool :=
  match ops.toList with
  | [x, y] => Q64 P ops x ⟨some 3, none, .mov (.t 0), []⟩ && Qkz y.dst (some 4) && Qb2 ops y.guard none &&
      (match y.op with | .binOp .eql T (.tmp 3) (.const (.slice none 0 0)) _ => (match P.underlying T with | some (.slice _) => true | _ => false) | _ => false)
  | _ => false
def Q7l (P : Program) (Fn : Func) (sz bytes : Nat) (z : List PV) : Bool :=
  Nat.beq Fn.ntmps 8 && Q84 P Fn.results.toList [.tmp 2] && !(Fn.name == "runtime.NumGoroutine") &&
  (match Fn.body with
   | some (.seq c0 (.seq (.seq (.region _ ops false) c2) c3)) => Q2c P (irA sz) c0 && Qx8 P ops && Q2c P (irB sz) c2 && Q2c P (irC sz bytes z) c3
   | _ => false)
def X0 : Orc := fun _ => none
theorem Qmj (P : Program) : Q4s P X0 := fun _ _ _ _ _ h => by cases h
theorem Qrp (P : Program) : Qiy P X0 := fun _ _ _ _ _ _ _ h => by cases h
section
variable {P : Program} {w0 : World} {D0 : Nat → Option Nat} {H0 : Nat → Option Ob} {F : Nat → Nat → Prop} {n0 m : Nat}
theorem Qyu {id : Nat} {ops : Array Oper} (hc : Qx8 P ops = true) {e : Nat → PV} {H : Nat → Option Ob} {a : Act} {w : World} {D : Nat → Option Nat} {L nx : Nat} (hL : 4 < L) {l : List (List PV)} (he : e 0 = .sl l)
    (A : At w0 D0 H0 F n0 m L e H a w D) (hf : ∀ id, nx ≤ id → D id = none ∧ H id = none) (hmn : m ≤ nx) {Q : Exit → Act → World → Prop}
    (hQ : ∀ (b : Bool) (a' : Act) (w' : World) (D' : Nat → Option Nat), (b = true → l = []) → At w0 D0 H0 F n0 m L (fun t => if t = 4 then .bool b else if t = 3 then .sl l else e t) H a' w' D' → (∀ id, nx + 128 ≤ id → D' id = none ∧ H id = none) → Q .normal a' w') :
    (Code.region id ops false).wp P Q a w := by
  unfold Qx8 at hc
  split at hc
  · rename_i x y hxy
    rw [Bool.and_eq_true, Bool.and_eq_true, Bool.and_eq_true] at hc
    obtain ⟨⟨⟨hx, hyd⟩, hyg⟩, hyo⟩ := hc
    have hyd := Q8i hyd
    have hsz : ops.size = 2 := by rw [← Array.length_toList, hxy]; rfl
    have h0 : ops[0]? = some x := by rw [← Array.getElem?_toList, hxy]; rfl
    have h1 : ops[1]? = some y := by rw [← Array.getElem?_toList, hxy]; rfl
    refine wp_region ?_
    rw [hsz, show List.range 2 = [0, 1] from rfl, wpOps_cons]
    refine Q94 (X := X0) (Qmj P) A (fr := nx) hmn (fun id h1 _ => hf id h1) h0 hx (f := ⟨.sl l, [], []⟩) (by simp only [Q4q, IOper.wanted, Option.bind_some, cond_true, iop, opP, Opd.ev, he])
      (e' := fun t => if t = 3 then .sl l else e t) (H' := H) (fun t => ?_) rfl (fun a1 w1 D1 A1 hf1 => ?_)
    · show _ = if some 3 = some t ∧ t < L then PV.sl l else e t
      by_cases c : t = 3
      · subst c
        simp
        omega
      · rw [if_neg c, if_neg (fun h => c (Option.some.inj h.1).symm)]
    · rw [wpOps_cons]
      have hw := Q9v A1.env (o := y) (io := ⟨some 4, none, .mov (.t 0), []⟩) hyg (b := true) rfl
      unfold wpOp
      simp only [h1]
      rw [hw, if_pos rfl]
      refine .inl ?_
      split at hyo
      · rename_i T yt hop
        split at hyo
        · rename_i te hT
          have hr : Rep w1 (Mut D1 H F) D1 (a1.tmps.getD 3 undef) (.sl l) := by
            have := A1.env 3
            simpa using this
          generalize hu : a1.tmps.getD 3 undef = u at hr
          cases hr with
          | sl _ B n c sz' _ b o vs hn hcc hm hrs hA hcell hrep =>
            have hev : a1.eval (.tmp 3) = .slice B n c := hu
            have hev2 : a1.eval (.const (.slice none 0 0)) = .slice none 0 0 := rfl
            have hrun : (execOp a1.eval y).run P w1 = .ok (.value (.bool B.isNone)) w1 := by
              have hb := Lib.run_eql_slice_nil (P := P) w1 T te B n c 0 0 hT
              obtain ⟨yd, yop, yty, ypos, yaf, yg⟩ := y
              simp only at hop
              subst hop
              simp [execOp, eqGuard, hev, hev2, hb]
            unfold Oper.wp
            rw [hrun]
            refine hQ B.isNone _ w1 D1 (fun hb => ?_) (A1.step (fr := m) (Step.same A1.sim rfl rfl rfl rfl) (Nat.le_refl _) (p := .bool B.isNone) (.bool _ _) (fun t => ?_)) (fun id hid => ?_)
            · cases B with
              | some _ => cases hb
              | none =>
                cases l with
                | nil => rfl
                | cons r rs =>
                  exfalso
                  have := hA (by rw [← hn]; simp)
                  cases this
            · rw [hyd]
              by_cases c : t = 4
              · subst c
                rw [if_pos rfl, if_pos ⟨rfl, hL⟩]
              · rw [if_neg c, if_neg (show ¬ (some 4 = some t ∧ t < L) from fun h => c (Option.some.inj h.1).symm)]
            · exact ⟨hf1 id (hf id (by omega)).1 (by omega), (hf id (by omega)).2⟩
        · cases hyo
      · cases hyo
  · cases hc
end
abbrev cfn (keep : Bool) : IFn := ⟨1, 8, [.tmp 2], keep, .skip⟩
theorem Qyn {P : Program} (hm : P.follows .mixedOrders = true) {f : Nat} {Fn : Func} (hf : P.funcs[f]? = some Fn) {sz bytes : Nat} {z : List PV} (hc : Q7l P Fn sz bytes z = true) {l : List (List PV)} (hrs : Q5n l sz = true) (hby : Nat.ble (l.length * bytes) 140737488355328 = true) (keep : Bool) {r : PV} {h' : List Ob}
    (f1 : l = [] → fin (cfn keep) 0 ⟨[.sl [], .un, .ns sz, .sl [], .bool true, .un, .un, .un], [], 256⟩ = some (.ret r h'))
    (f2 : fin (cfn keep) 0 ⟨[.sl l, .un, .ms (192 + 128) sz 0 (0 + l.length), .sl l, .bool false, .ms 192 sz 0 0, .sl l, .ms (192 + 128) sz 0 (0 + l.length)], [(192 + 128, ⟨sz, 0, true, [] ++ l.flatten⟩)], 448⟩ = some (.ret r h')) : Q5k P f ∧ Qru P f [.sl l] [] r h' := by
  unfold Q7l at hc
  rw [Bool.and_eq_true, Bool.and_eq_true, Bool.and_eq_true] at hc
  obtain ⟨⟨⟨hnt, hres⟩, hname⟩, hbody⟩ := hc
  have hnt := Nat.eq_of_beq_eq_true hnt
  split at hbody
  · rename_i c0 id ops c2 c3 hB
    rw [Bool.and_eq_true, Bool.and_eq_true, Bool.and_eq_true] at hbody
    obtain ⟨⟨⟨k0, k1⟩, k2⟩, k3⟩ := hbody
    refine ⟨⟨Fn, hf, by rw [hB]; rfl, by simpa using hname⟩, fun w D F vals S hD hv => ?_⟩
    have hvs : vals.size = 1 := by have := hv.1; simpa using this
    have A : At w D (hF []) F w.heap.size 0 ([PV.sl l] ++ nuns 7).length (envF ([PV.sl l] ++ nuns 7)) (look (number 0 [])) { tmps := vals ++ Array.replicate (Fn.ntmps - vals.size) undef, defers := [] } w D := by
      rw [Q4i]
      refine ⟨S, fun t => ?_, by simp [(Q5s _ 0).1, hvs, hnt], fun t ht => ?_, Keeps.refl _ w, fun _ _ => rfl, fun _ _ _ h => h, rfl⟩
      · by_cases c : t < 1
        · have ht0 : t = 0 := by omega
          subst ht0
          have hlt : 0 < vals.size := by omega
          have e2 : (vals ++ Array.replicate (Fn.ntmps - vals.size) undef).getD 0 undef = vals[0] := by
            rw [Array.getD_eq_getD_getElem?, Array.getElem?_append_left hlt, Array.getElem?_eq_getElem hlt]
            rfl
          show Rep _ _ _ ((vals ++ Array.replicate (Fn.ntmps - vals.size) undef).getD 0 undef) _
          rw [e2]
          exact hv.2 0 _ _ (by simp [hlt]) rfl
        · have e1 : envF ([PV.sl l] ++ nuns 7) t = .un := by
            have := (Q5s 7 (t - 1)).2
            unfold envF at this ⊢
            rw [List.getD_eq_getElem?_getD, List.getElem?_append_right (by simp; omega), ← List.getD_eq_getElem?_getD]
            exact this
          rw [e1]
          exact .un _ _
      · show envF _ t = .un
        unfold envF
        rw [List.getD_eq_getElem?_getD, List.getElem?_eq_none ht]
        rfl
    have hfr : ∀ id, 0 ≤ id → D id = none ∧ look (number 0 ([] : List Ob)) id = none := fun id hid => ⟨hD id hid, rfl⟩
    refine calls_of_wp hf hB (wp_seq (Q3y hm (Qmj P) (Qrp P) (irA sz) c0 k0 ⟨[PV.sl l] ++ nuns 7, number 0 [], 0⟩ .normal ⟨[.sl l, .un, .ns sz, .un, .un, .un, .un, .un], [], 64⟩ rfl _ w D _ A hfr (Nat.le_refl _) fun a1 w1 D1 A1 hf1 hn1 => ?_))
    refine wp_seq (wp_seq (Qyu k1 (by simp) rfl A1 hf1 hn1 fun b a2 w2 D2 hbl A2 hf2 => ?_))
    have A2' : At w D (hF []) F w.heap.size 0 8 (envF [.sl l, .un, .ns sz, .sl l, .bool b, .un, .un, .un]) (look []) a2 w2 D2 := by
      have e : (fun t => if t = 4 then PV.bool b else if t = 3 then .sl l else envF [.sl l, .un, .ns sz, .un, .un, .un, .un, .un] t) = envF [.sl l, .un, .ns sz, .sl l, .bool b, .un, .un, .un] := by
        funext t
        match t with
        | 0 | 1 | 2 | 3 | 4 | 5 | 6 | 7 => rfl
        | t + 8 => simp [envF]
      rw [← e]
      exact A2
    cases b with
    | true =>
      have hl := hbl rfl
      have g1 := f1 hl
      subst hl
      refine Q3y hm (Qmj P) (Qrp P) (irB sz) c2 k2 ⟨[.sl [], .un, .ns sz, .sl [], .bool true, .un, .un, .un], [], 192⟩ .ret ⟨[.sl [], .un, .ns sz, .sl [], .bool true, .un, .un, .un], [], 256⟩ rfl _ w2 D2 _ A2' hf2 (Nat.zero_le _) fun a3 w3 D3 A3 hf3 hn3 => ?_
      obtain ⟨v, p, h1, D4, e1, e2, e3, e4, e5, e6, e7, e8⟩ := Qfa (fn := cfn keep) A3 hf3 hres g1
      injection e1 with e1 e1'
      subst e1 e1'
      exact ⟨A3.defers, v, e2, v, D4, rfl, e3, A3.keeps, fun id hid => absurd hid (Nat.not_lt_zero _), e5, fun b o hb hmu => A3.sub b o hb (e6 b o hmu), e7, e8⟩
    | false =>
      refine Q3y hm (Qmj P) (Qrp P) (irB sz) c2 k2 ⟨[.sl l, .un, .ns sz, .sl l, .bool false, .un, .un, .un], [], 192⟩ .normal ⟨[.sl l, .un, .ns sz, .sl l, .bool false, .un, .un, .un], [], 192⟩ rfl _ w2 D2 _ A2' hf2 (Nat.zero_le _) fun a3 w3 D3 A3 hf3 hn3 => ?_
      refine Q3y hm (Qmj P) (Qrp P) (irC sz bytes z) c3 k3 ⟨[.sl l, .un, .ns sz, .sl l, .bool false, .un, .un, .un], [], 192⟩ .ret ⟨[.sl l, .un, .ms (192 + 128) sz 0 (0 + l.length), .sl l, .bool false, .ms 192 sz 0 0, .sl l, .ms (192 + 128) sz 0 (0 + l.length)], [(192 + 128, ⟨sz, 0, true, [] ++ l.flatten⟩)], 448⟩ ?_ _ w3 D3 _ A3 hf3 (Nat.zero_le _) fun a4 w4 D4 A4 hf4 hn4 => ?_
      · have h1 : Nat.ble ((0 + l.length) * bytes) 140737488355328 = true := by rw [Nat.zero_add]; exact hby
        unfold irC
        simp only [Q30, ireg, Q3i, Q4q, IOper.wanted, Option.bind_some, cond_true, iop, opA, Q9j, rep, Q7t, opP, Opd.ev, Q3o, apC, source, look, hput, hput.repl, hput.drop, put, envF, List.set, List.getD_cons_zero, List.getD_cons_succ, hrs, Nat.beq_refl, Nat.zero_mul, List.length_nil, Bool.and_true, Bool.and_self, h1, Bool.not_false, Bool.true_or, List.length_cons]
      · obtain ⟨v, p, h1, D5, e1, e2, e3, e4, e5, e6, e7, e8⟩ := Qfa (fn := cfn keep) A4 hf4 hres f2
        injection e1 with e1 e1'
        subst e1 e1'
        exact ⟨A4.defers, v, e2, v, D5, rfl, e3, A4.keeps, fun id hid => absurd hid (Nat.not_lt_zero _), e5, fun b o hb hmu => A4.sub b o hb (e6 b o hmu), e7, e8⟩
  · cases hbody
theorem Qu4 {sz bytes : Nat} {l : List (List PV)} (hb : (Q5n l sz && Nat.ble (l.length * bytes) 140737488355328 && l.flatten.all bare) = true) : Q5n l sz = true ∧ Nat.ble (l.length * bytes) 140737488355328 = true ∧ ∀ p ∈ l.flatten, plain p = true := by
  rw [Bool.and_eq_true, Bool.and_eq_true] at hb
  exact ⟨hb.1.1, hb.1.2, fun p hp => by
    have := List.all_eq_true.1 hb.2 p hp
    cases p <;> first | rfl | (cases this)⟩
theorem Qs3 {P : Program} (hm : P.follows .mixedOrders = true) {f : Nat} {Fn : Func} (hf : P.funcs[f]? = some Fn) {sz bytes : Nat} {z : List PV} (hc : Q7l P Fn sz bytes z = true) : AxOK P f (Qfj sz bytes) := by
  intro args r h' hφ
  unfold Qfj at hφ
  split at hφ
  · rename_i l
    cases hb : (Q5n l sz && Nat.ble (l.length * bytes) 140737488355328 && l.flatten.all bare) with
    | false => rw [hb] at hφ; cases hφ
    | true =>
      rw [hb] at hφ
      simp only [cond_true, Option.some.injEq, Prod.mk.injEq] at hφ
      obtain ⟨rfl, rfl⟩ := hφ
      obtain ⟨hrs, hby, hpl⟩ := Qu4 hb
      refine Qyn hm hf hc hrs hby true (fun e => by subst e; rfl) ?_
      have hp := Q7i (H := look ([(192 + 128, (⟨sz, 0, true, l.flatten⟩ : Ob))] ++ [])) (byRef := false) (n := 7) l.flatten [192 + 128] hpl
      have ho : Q1s (look ([(192 + 128, (⟨sz, 0, true, l.flatten⟩ : Ob))] ++ [])) false true (31 + 1) 0 [192 + 128] = some ([⟨sz, 0, true, l.flatten⟩], [192 + 128], []) := by
        rw [Q1s]
        show (some (⟨sz, 0, true, l.flatten⟩ : Ob)).bind _ = _
        rw [Option.bind_some]
        show (Q3a (pass _ false 8) l.flatten [192 + 128]).bind _ = _
        rw [hp, Option.bind_some]
        rfl
      show (Q1s (look ([(192 + 128, (⟨sz, 0, true, l.flatten⟩ : Ob))] ++ [])) false true (31 + 1) 0 [192 + 128]).bind _ = _
      rw [ho, Option.bind_some]
      show some (Rs.ret (.ms 0 sz 0 (0 + l.length)) [⟨sz, 0, true, l.flatten⟩]) = _
      rw [Nat.zero_add]
  · cases hφ
end Go.Pv
end

section
/- The seat's functions as the evaluator takes them; printed by a program, checked against the given ones in YtnhhddbbppbblaaTie. -/
namespace Go.Proofs.Ytnhhddbbppbblaa.Ir
open Go.Pv
def o (d : Nat) (op : IOp) : IOper := ⟨some d, none, op, []⟩
def ob (d : Nat) (op : IOp) (b : List Nat) : IOper := ⟨some d, none, op, b⟩
def rg1 (a : Nat) : Nat → List Nat
  | 0 => []
  | n + 1 => a :: rg1 (a + 1) n
def rg (a b : Nat) : List Nat := rg1 a (b - a)
def K8_c : IR :=
  .seq (.reg [o 2 (.box 5 (.t 0)),
    o 3 (.box 5 (.t 1)),
    o 4 (.mov (.c (.bool false)))] false)
  (.seq (.seq (.reg [o 5 (.load 5 true (.t 2)),
      o 6 (.load 5 true (.t 3)),
      o 7 (.lit 5 2 [.int .i64 0, .int .i64 0, .str ⟨#[]⟩, .ns 5, .ns 6] [(0, .t 5), (1, .t 6)]),
      o 8 (.call false (.f 10) [.t 7]),
      o 9 (.un .not (.t 8))] false)
    (.cond (.t 9) (.seq (.reg [o 10 (.call false (.f 11) []),
        o 4 (.mov (.t 10))] false)
      (.ret))
      (.skip)))
  (.seq (.reg [o 11 (.load 5 true (.t 2)),
    o 12 (.load 5 true (.t 3)),
    ob 13 (.call false (.f 13) [.t 11, .t 12]) [0, 1],
    o 14 (.load 5 true (.t 2)),
    o 15 (.load 5 true (.t 3)),
    ob 16 (.call false (.f 14) [.t 14, .t 15]) (rg 0 5),
    ob 17 (.call false (.f 12) [.t 13, .t 16]) (rg 0 6),
    ob 18 (.mov (.t 17)) (rg 0 7),
    ⟨(some 19), (some (18, true)), .call false (.f 11) [], (rg 0 8)⟩,
    ob 20 (.pick (.t 18) (.t 19) (.c (.bool false))) (rg 0 9),
    ob 4 (.mov (.t 20)) (rg 0 10)] true)
  (.ret)))
def K8 : IFn := ⟨2, 21, [.tmp 4], false, K8_c⟩
def K7_c : IR :=
  .seq (.reg [o 2 (.box 5 (.t 0)),
    o 3 (.box 5 (.t 1)),
    o 4 (.mov (.c (.bool false)))] false)
  (.seq (.seq (.reg [o 5 (.load 5 true (.t 2)),
      o 6 (.load 5 true (.t 3)),
      o 7 (.lit 5 2 [.int .i64 0, .int .i64 0, .str ⟨#[]⟩, .ns 5, .ns 6] [(0, .t 5), (1, .t 6)]),
      o 8 (.call false (.f 10) [.t 7]),
      o 9 (.un .not (.t 8))] false)
    (.cond (.t 9) (.seq (.reg [o 10 (.call false (.f 11) []),
        o 4 (.mov (.t 10))] false)
      (.ret))
      (.skip)))
  (.seq (.reg [o 11 (.load 5 true (.t 2)),
    o 12 (.load 5 true (.t 3)),
    ob 13 (.call false (.f 15) [.t 11, .t 12]) [0, 1],
    o 14 (.load 5 true (.t 2)),
    o 15 (.load 5 true (.t 3)),
    ob 16 (.call false (.f 16) [.t 14, .t 15]) (rg 0 5),
    ob 17 (.call false (.f 12) [.t 13, .t 16]) (rg 0 6),
    ob 18 (.mov (.t 17)) (rg 0 7),
    ⟨(some 19), (some (18, true)), .call false (.f 11) [], (rg 0 8)⟩,
    ob 20 (.pick (.t 18) (.t 19) (.c (.bool false))) (rg 0 9),
    ob 4 (.mov (.t 20)) (rg 0 10)] true)
  (.ret)))
def K7 : IFn := ⟨2, 21, [.tmp 4], false, K7_c⟩
def K6_c : IR :=
  .seq (.reg [o 2 (.box 5 (.t 0)),
    o 3 (.box 5 (.t 1)),
    o 4 (.mov (.c (.bool false)))] false)
  (.seq (.seq (.reg [o 5 (.load 5 true (.t 2)),
      o 6 (.load 5 true (.t 3)),
      o 7 (.lit 5 2 [.int .i64 0, .int .i64 0, .str ⟨#[]⟩, .ns 5, .ns 6] [(0, .t 5), (1, .t 6)]),
      o 8 (.call false (.f 10) [.t 7]),
      o 9 (.un .not (.t 8))] false)
    (.cond (.t 9) (.seq (.reg [o 10 (.call false (.f 11) []),
        o 4 (.mov (.t 10))] false)
      (.ret))
      (.skip)))
  (.seq (.reg [o 11 (.load 5 true (.t 2)),
    o 12 (.load 5 true (.t 3)),
    ob 13 (.call false (.f 17) [.t 11, .t 12]) [0, 1],
    o 14 (.load 5 true (.t 2)),
    o 15 (.load 5 true (.t 3)),
    ob 16 (.call false (.f 18) [.t 14, .t 15]) (rg 0 5),
    ob 17 (.call false (.f 12) [.t 13, .t 16]) (rg 0 6),
    ob 18 (.mov (.t 17)) (rg 0 7),
    ⟨(some 19), (some (18, true)), .call false (.f 11) [], (rg 0 8)⟩,
    ob 20 (.pick (.t 18) (.t 19) (.c (.bool false))) (rg 0 9),
    ob 4 (.mov (.t 20)) (rg 0 10)] true)
  (.ret)))
def K6 : IFn := ⟨2, 21, [.tmp 4], false, K6_c⟩
def K5_c : IR :=
  .seq (.reg [o 3 (.box 5 (.t 0)),
    o 4 (.box 5 (.t 1)),
    o 5 (.box 5 (.t 2)),
    o 6 (.mov (.c (.bool false)))] false)
  (.seq (.seq (.reg [o 7 (.load 5 true (.t 3)),
      o 8 (.load 5 true (.t 4)),
      o 9 (.load 5 true (.t 5)),
      o 10 (.lit 5 3 [.int .i64 0, .int .i64 0, .str ⟨#[]⟩, .ns 5, .ns 6] [(0, .t 7), (1, .t 8), (2, .t 9)]),
      o 11 (.call false (.f 10) [.t 10]),
      o 12 (.un .not (.t 11)),
      o 13 (.mov (.t 12)),
      ⟨(some 14), (some (13, false)), .load 5 true (.t 4), []⟩,
      ⟨(some 15), (some (13, false)), .load 5 true (.t 5), []⟩,
      ⟨(some 16), (some (13, false)), .call false (.f 19) [.t 14, .t 15], []⟩,
      ⟨(some 17), (some (13, false)), .un .not (.t 16), []⟩,
      o 18 (.pick (.t 13) (.c (.bool true)) (.t 17))] false)
    (.cond (.t 18) (.seq (.reg [o 19 (.call false (.f 11) []),
        o 6 (.mov (.t 19))] false)
      (.ret))
      (.skip)))
  (.seq (.reg [o 20 (.load 5 true (.t 3)),
    o 21 (.load 5 true (.t 4)),
    ob 22 (.call false (.f 13) [.t 20, .t 21]) [0, 1],
    o 23 (.load 5 true (.t 5)),
    ob 24 (.call false (.f 13) [.t 22, .t 23]) [0, 1, 2, 3],
    o 25 (.load 5 true (.t 3)),
    o 26 (.load 5 true (.t 4)),
    o 27 (.load 5 true (.t 5)),
    ob 28 (.call false (.f 17) [.t 26, .t 27]) (rg 0 5 ++ [6, 7]),
    ob 29 (.call false (.f 13) [.t 25, .t 28]) (rg 0 9),
    ob 30 (.call false (.f 12) [.t 24, .t 29]) (rg 0 10),
    ob 31 (.mov (.t 30)) (rg 0 11),
    ⟨(some 32), (some (31, true)), .call false (.f 11) [], (rg 0 12)⟩,
    ob 33 (.pick (.t 31) (.t 32) (.c (.bool false))) (rg 0 13),
    ob 6 (.mov (.t 33)) (rg 0 14)] true)
  (.ret)))
def K5 : IFn := ⟨3, 34, [.tmp 6], false, K5_c⟩
def Qgs : List Nat := [100002, 5, 6, 7]
def Q13l : IR :=
  .seq (.reg [o 8 (.bin .lss (.t 7) (.t 6))] false)
    (.seq (.cond (.t 8) (.skip)
        (.exit 0))
    (.seq (.block 1 (.seq (.reg [o 9 (.iaddr 5 (.t 5) (.t 7)),
          o 10 (.load 5 true (.t 9)),
          o 4 (.zero [.int .i64 0, .int .i64 0, .str ⟨#[]⟩, .ns 5, .ns 6]),
          ⟨none, none, .store 5 (.t 4) (.t 10), []⟩] false)
        (.seq (.reg [o 11 (.load 5 true (.t 4)),
          o 12 (.call false (.f 22) [.t 11, .c (.int .i64 3000)]),
          o 13 (.un .not (.t 12)),
          o 14 (.mov (.t 13)),
          ⟨(some 15), (some (14, false)), .load 5 true (.t 4), []⟩,
          ⟨(some 16), (some (14, false)), .call false (.f 23) [.t 15], []⟩,
          ⟨(some 17), (some (14, false)), .un .not (.t 16), []⟩,
          o 18 (.pick (.t 14) (.c (.bool true)) (.t 17))] false)
        (.cond (.t 18) (.seq (.reg [o 2 (.mov (.c (.bool false)))] false)
          (.ret))
          (.skip)))))
    (.reg [o 19 (.bin .add (.t 7) (.c (.int .i64 1))),
    o 7 (.mov (.t 19))] false)))
def Kd_c : IR :=
  .seq (.reg [o 2 (.mov (.c (.bool false)))] false)
  (.seq (.seq (.reg [o 5 (.mov (.t 0)),
      o 6 (.len false (.t 5)),
      o 7 (.mov (.c (.int .i64 0)))] false)
    (.block 0 (.loop Qgs Q13l)))
  (.seq (.reg [o 2 (.mov (.c (.bool true)))] false)
  (.ret)))
def Kd : IFn := ⟨1, 20, [.tmp 2], false, Kd_c⟩
def Ka_c : IR :=
  .seq (.reg [o 0 (.mov (.c (.bool false)))] false)
  (.seq (.reg [o 6 (.call false (.f 25) [.c (.int .i64 1)]),
    o 7 (.build [.str ⟨#[]⟩, .int .i64 0, .int .i64 0, .str ⟨#[]⟩, .ns 5, .ns 6] [(0, 1, .c (.str ⟨#[97]⟩)), (1, 5, .t 6)]),
    o 8 (.call false (.f 25) [.c (.int .i64 2)]),
    o 9 (.build [.str ⟨#[]⟩, .int .i64 0, .int .i64 0, .str ⟨#[]⟩, .ns 5, .ns 6] [(0, 1, .c (.str ⟨#[98]⟩)), (1, 5, .t 8)]),
    o 10 (.lit 6 2 [.str ⟨#[]⟩, .int .i64 0, .int .i64 0, .str ⟨#[]⟩, .ns 5, .ns 6] [(0, .t 7), (1, .t 9)]),
    o 11 (.call false (.f 24) [.t 10]),
    o 1 (.zero [.int .i64 0, .int .i64 0, .str ⟨#[]⟩, .ns 5, .ns 6]),
    ⟨none, none, .store 5 (.t 1) (.t 11), []⟩] false)
  (.seq (.reg [o 12 (.build [.str ⟨#[]⟩, .int .i64 0, .int .i64 0, .str ⟨#[]⟩, .ns 5, .ns 6] [(0, 1, .c (.str ⟨#[97]⟩))]),
    o 13 (.call false (.f 25) [.c (.int .i64 3)]),
    o 14 (.build [.str ⟨#[]⟩, .int .i64 0, .int .i64 0, .str ⟨#[]⟩, .ns 5, .ns 6] [(0, 1, .c (.str ⟨#[100]⟩)), (1, 5, .t 13)]),
    o 15 (.build [.str ⟨#[]⟩, .int .i64 0, .int .i64 0, .str ⟨#[]⟩, .ns 5, .ns 6] [(0, 1, .c (.str ⟨#[101]⟩))]),
    o 16 (.lit 6 2 [.str ⟨#[]⟩, .int .i64 0, .int .i64 0, .str ⟨#[]⟩, .ns 5, .ns 6] [(0, .t 14), (1, .t 15)]),
    o 17 (.call false (.f 24) [.t 16]),
    o 18 (.build [.str ⟨#[]⟩, .int .i64 0, .int .i64 0, .str ⟨#[]⟩, .ns 5, .ns 6] [(0, 1, .c (.str ⟨#[99]⟩)), (1, 5, .t 17)]),
    o 19 (.lit 6 2 [.str ⟨#[]⟩, .int .i64 0, .int .i64 0, .str ⟨#[]⟩, .ns 5, .ns 6] [(0, .t 12), (1, .t 18)]),
    o 20 (.call false (.f 24) [.t 19]),
    o 2 (.zero [.int .i64 0, .int .i64 0, .str ⟨#[]⟩, .ns 5, .ns 6]),
    ⟨none, none, .store 5 (.t 2) (.t 20), []⟩] false)
  (.seq (.reg [o 21 (.call false (.f 25) [.c (.int .i64 2)]),
    o 22 (.build [.str ⟨#[]⟩, .int .i64 0, .int .i64 0, .str ⟨#[]⟩, .ns 5, .ns 6] [(0, 1, .c (.str ⟨#[98]⟩)), (1, 5, .t 21)]),
    o 23 (.call false (.f 25) [.c (.int .i64 3)]),
    o 24 (.build [.str ⟨#[]⟩, .int .i64 0, .int .i64 0, .str ⟨#[]⟩, .ns 5, .ns 6] [(0, 1, .c (.str ⟨#[100]⟩)), (1, 5, .t 23)]),
    o 25 (.lit 6 1 [.str ⟨#[]⟩, .int .i64 0, .int .i64 0, .str ⟨#[]⟩, .ns 5, .ns 6] [(0, .t 24)]),
    o 26 (.call false (.f 24) [.t 25]),
    o 27 (.build [.str ⟨#[]⟩, .int .i64 0, .int .i64 0, .str ⟨#[]⟩, .ns 5, .ns 6] [(0, 1, .c (.str ⟨#[99]⟩)), (1, 5, .t 26)]),
    o 28 (.lit 6 2 [.str ⟨#[]⟩, .int .i64 0, .int .i64 0, .str ⟨#[]⟩, .ns 5, .ns 6] [(0, .t 22), (1, .t 27)]),
    o 29 (.call false (.f 24) [.t 28]),
    o 3 (.zero [.int .i64 0, .int .i64 0, .str ⟨#[]⟩, .ns 5, .ns 6]),
    ⟨none, none, .store 5 (.t 3) (.t 29), []⟩] false)
  (.seq (.reg [o 30 (.build [.str ⟨#[]⟩, .int .i64 0, .int .i64 0, .str ⟨#[]⟩, .ns 5, .ns 6] [(0, 1, .c (.str ⟨#[97]⟩))]),
    o 31 (.call false (.f 25) [.c (.int .i64 3)]),
    o 32 (.build [.str ⟨#[]⟩, .int .i64 0, .int .i64 0, .str ⟨#[]⟩, .ns 5, .ns 6] [(0, 1, .c (.str ⟨#[100]⟩)), (1, 5, .t 31)]),
    o 33 (.lit 6 1 [.str ⟨#[]⟩, .int .i64 0, .int .i64 0, .str ⟨#[]⟩, .ns 5, .ns 6] [(0, .t 32)]),
    o 34 (.call false (.f 24) [.t 33]),
    o 35 (.build [.str ⟨#[]⟩, .int .i64 0, .int .i64 0, .str ⟨#[]⟩, .ns 5, .ns 6] [(0, 1, .c (.str ⟨#[99]⟩)), (1, 5, .t 34)]),
    o 36 (.lit 6 2 [.str ⟨#[]⟩, .int .i64 0, .int .i64 0, .str ⟨#[]⟩, .ns 5, .ns 6] [(0, .t 30), (1, .t 35)]),
    o 37 (.call false (.f 24) [.t 36]),
    o 4 (.zero [.int .i64 0, .int .i64 0, .str ⟨#[]⟩, .ns 5, .ns 6]),
    ⟨none, none, .store 5 (.t 4) (.t 37), []⟩] false)
  (.seq (.reg [o 38 (.call false (.f 25) [.c (.int .i64 2)]),
    o 39 (.build [.str ⟨#[]⟩, .int .i64 0, .int .i64 0, .str ⟨#[]⟩, .ns 5, .ns 6] [(0, 1, .c (.str ⟨#[99]⟩)), (1, 5, .t 38)]),
    o 40 (.lit 6 1 [.str ⟨#[]⟩, .int .i64 0, .int .i64 0, .str ⟨#[]⟩, .ns 5, .ns 6] [(0, .t 39)]),
    o 41 (.call false (.f 24) [.t 40]),
    o 42 (.build [.str ⟨#[]⟩, .int .i64 0, .int .i64 0, .str ⟨#[]⟩, .ns 5, .ns 6] [(0, 1, .c (.str ⟨#[98]⟩)), (1, 5, .t 41)]),
    o 43 (.lit 6 1 [.str ⟨#[]⟩, .int .i64 0, .int .i64 0, .str ⟨#[]⟩, .ns 5, .ns 6] [(0, .t 42)]),
    o 44 (.call false (.f 24) [.t 43]),
    o 45 (.build [.str ⟨#[]⟩, .int .i64 0, .int .i64 0, .str ⟨#[]⟩, .ns 5, .ns 6] [(0, 1, .c (.str ⟨#[100]⟩))]),
    o 46 (.lit 6 1 [.str ⟨#[]⟩, .int .i64 0, .int .i64 0, .str ⟨#[]⟩, .ns 5, .ns 6] [(0, .t 45)]),
    o 47 (.call false (.f 24) [.t 46]),
    o 48 (.build [.str ⟨#[]⟩, .int .i64 0, .int .i64 0, .str ⟨#[]⟩, .ns 5, .ns 6] [(0, 1, .c (.str ⟨#[98]⟩)), (1, 5, .t 47)]),
    o 49 (.lit 6 1 [.str ⟨#[]⟩, .int .i64 0, .int .i64 0, .str ⟨#[]⟩, .ns 5, .ns 6] [(0, .t 48)]),
    o 50 (.call false (.f 24) [.t 49]),
    o 51 (.call false (.f 17) [.t 44, .t 50]),
    o 5 (.zero [.int .i64 0, .int .i64 0, .str ⟨#[]⟩, .ns 5, .ns 6]),
    ⟨none, none, .store 5 (.t 5) (.t 51), []⟩] false)
  (.seq (.reg [o 52 (.load 5 true (.t 1)),
    o 53 (.load 5 true (.t 2)),
    ob 54 (.call false (.f 13) [.t 52, .t 53]) [0, 1],
    o 55 (.load 5 true (.t 3)),
    ob 56 (.call false (.f 12) [.t 54, .t 55]) [0, 1, 2, 3],
    ob 57 (.mov (.t 56)) (rg 0 5),
    ⟨(some 58), (some (57, true)), .load 5 true (.t 1), (rg 0 6)⟩,
    ⟨(some 59), (some (57, true)), .load 5 true (.t 3), (rg 0 6)⟩,
    ⟨(some 60), (some (57, true)), .call false (.f 15) [.t 58, .t 59], (rg 0 8)⟩,
    ⟨(some 61), (some (57, true)), .load 5 true (.t 4), (rg 0 6)⟩,
    ⟨(some 62), (some (57, true)), .call false (.f 12) [.t 60, .t 61], (rg 0 10)⟩,
    ob 63 (.pick (.t 57) (.t 62) (.c (.bool false))) (rg 0 11),
    ob 64 (.mov (.t 63)) (rg 0 12),
    ⟨(some 65), (some (64, true)), .load 5 true (.t 5), (rg 0 13)⟩,
    ⟨(some 66), (some (64, true)), .call false (.f 25) [.c (.int .i64 2)], (rg 0 13)⟩,
    ⟨(some 67), (some (64, true)), .build [.str ⟨#[]⟩, .int .i64 0, .int .i64 0, .str ⟨#[]⟩, .ns 5, .ns 6] [(0, 1, .c (.str ⟨#[99]⟩)), (1, 5, .t 66)], (rg 0 13 ++ [14])⟩,
    ⟨(some 68), (some (64, true)), .build [.str ⟨#[]⟩, .int .i64 0, .int .i64 0, .str ⟨#[]⟩, .ns 5, .ns 6] [(0, 1, .c (.str ⟨#[100]⟩))], (rg 0 13)⟩,
    ⟨(some 69), (some (64, true)), .lit 6 2 [.str ⟨#[]⟩, .int .i64 0, .int .i64 0, .str ⟨#[]⟩, .ns 5, .ns 6] [(0, .t 67), (1, .t 68)], (rg 0 13 ++ [14, 15, 16])⟩,
    ⟨(some 70), (some (64, true)), .call false (.f 24) [.t 69], (rg 0 13 ++ rg 14 18)⟩,
    ⟨(some 71), (some (64, true)), .build [.str ⟨#[]⟩, .int .i64 0, .int .i64 0, .str ⟨#[]⟩, .ns 5, .ns 6] [(0, 1, .c (.str ⟨#[98]⟩)), (1, 5, .t 70)], (rg 0 13 ++ rg 14 19)⟩,
    ⟨(some 72), (some (64, true)), .lit 6 1 [.str ⟨#[]⟩, .int .i64 0, .int .i64 0, .str ⟨#[]⟩, .ns 5, .ns 6] [(0, .t 71)], (rg 0 13 ++ rg 14 20)⟩,
    ⟨(some 73), (some (64, true)), .call false (.f 24) [.t 72], (rg 0 13 ++ rg 14 21)⟩,
    ⟨(some 74), (some (64, true)), .call false (.f 12) [.t 65, .t 73], (rg 0 22)⟩,
    ob 75 (.pick (.t 64) (.t 74) (.c (.bool false))) (rg 0 23),
    ob 0 (.mov (.t 75)) (rg 0 24)] true)
  (.ret)))))))
def Ka : IFn := ⟨0, 76, [.tmp 0], false, Ka_c⟩
def Qhl : List Nat := [100004, 2, 3, 6]
def Q15m : IR :=
  .seq (.seq (.reg [o 63 (.mov (.t 6)),
        o 64 (.faddr 4 (.t 2)),
        o 65 (.load 1 false (.t 64)),
        o 66 (.len false (.t 65)),
        o 67 (.bin .lss (.t 63) (.t 66))] false)
      (.cond (.t 67) (.skip)
        (.exit 2)))
    (.seq (.block 3 (.seq (.reg [o 70 (.faddr 4 (.t 2)),
          ob 71 (.load 1 false (.t 70)) [0],
          o 72 (.mov (.t 6)),
          ob 73 (.iaddr 6 (.t 71) (.t 72)) [0, 1, 2],
          ob 74 (.faddr 0 (.t 73)) [0, 1, 2, 3],
          ob 75 (.load 1 false (.t 74)) (rg 0 5),
          o 76 (.faddr 4 (.t 3)),
          ob 77 (.load 1 false (.t 76)) [6],
          o 78 (.mov (.t 6)),
          ob 79 (.iaddr 6 (.t 77) (.t 78)) [6, 7, 8],
          ob 80 (.faddr 0 (.t 79)) [6, 7, 8, 9],
          ob 81 (.load 1 false (.t 80)) (rg 6 11),
          ob 82 (.bin .neq (.t 75) (.t 81)) (rg 0 12),
          ob 83 (.mov (.t 82)) (rg 0 13),
          ⟨(some 84), (some (83, false)), .faddr 4 (.t 2), (rg 0 14)⟩,
          ⟨(some 85), (some (83, false)), .load 1 false (.t 84), (rg 0 15)⟩,
          ⟨(some 86), (some (83, false)), .mov (.t 6), (rg 0 14)⟩,
          ⟨(some 87), (some (83, false)), .iaddr 6 (.t 85) (.t 86), (rg 0 17)⟩,
          ⟨(some 88), (some (83, false)), .faddr 1 (.t 87), (rg 0 18)⟩,
          ⟨(some 89), (some (83, false)), .load 5 true (.t 88), (rg 0 19)⟩,
          ⟨(some 90), (some (83, false)), .faddr 4 (.t 3), (rg 0 14)⟩,
          ⟨(some 91), (some (83, false)), .load 1 false (.t 90), (rg 0 14 ++ [20])⟩,
          ⟨(some 92), (some (83, false)), .mov (.t 6), (rg 0 14)⟩,
          ⟨(some 93), (some (83, false)), .iaddr 6 (.t 91) (.t 92), (rg 0 14 ++ [20, 21, 22])⟩,
          ⟨(some 94), (some (83, false)), .faddr 1 (.t 93), (rg 0 14 ++ rg 20 24)⟩,
          ⟨(some 95), (some (83, false)), .load 5 true (.t 94), (rg 0 14 ++ rg 20 25)⟩,
          ⟨(some 96), (some (83, false)), .call false (.f 12) [.t 89, .t 95], (rg 0 26)⟩,
          ⟨(some 97), (some (83, false)), .un .not (.t 96), (rg 0 27)⟩,
          ob 98 (.pick (.t 83) (.c (.bool true)) (.t 97)) (rg 0 28)] true)
        (.cond (.t 98) (.seq (.reg [o 4 (.mov (.c (.bool false)))] false)
          (.ret))
          (.skip))))
    (.reg [o 68 (.mov (.t 6)),
    o 69 (.bin .add (.t 68) (.c (.int .i64 1))),
    o 6 (.mov (.t 69))] false))
def Qgu : List Nat := [100003, 2, 3, 5]
def Q147 : IR :=
  .seq (.seq (.reg [o 44 (.mov (.t 5)),
        o 45 (.faddr 3 (.t 2)),
        o 46 (.load 1 false (.t 45)),
        o 47 (.len false (.t 46)),
        o 48 (.bin .lss (.t 44) (.t 47))] false)
      (.cond (.t 48) (.skip)
        (.exit 0)))
    (.seq (.block 1 (.seq (.reg [o 51 (.faddr 3 (.t 2)),
          ob 52 (.load 1 false (.t 51)) [0],
          o 53 (.mov (.t 5)),
          ob 54 (.iaddr 5 (.t 52) (.t 53)) [0, 1, 2],
          ob 55 (.load 5 true (.t 54)) [0, 1, 2, 3],
          o 56 (.faddr 3 (.t 3)),
          ob 57 (.load 1 false (.t 56)) [5],
          o 58 (.mov (.t 5)),
          ob 59 (.iaddr 5 (.t 57) (.t 58)) [5, 6, 7],
          ob 60 (.load 5 true (.t 59)) [5, 6, 7, 8],
          ob 61 (.call false (.f 12) [.t 55, .t 60]) (rg 0 10),
          ob 62 (.un .not (.t 61)) (rg 0 11)] true)
        (.cond (.t 62) (.seq (.reg [o 4 (.mov (.c (.bool false)))] false)
          (.ret))
          (.skip))))
    (.reg [o 49 (.mov (.t 5)),
    o 50 (.bin .add (.t 49) (.c (.int .i64 1))),
    o 5 (.mov (.t 50))] false))
def Ky_c : IR :=
  .seq (.reg [o 2 (.box 5 (.t 0)),
    o 3 (.box 5 (.t 1)),
    o 4 (.mov (.c (.bool false)))] false)
  (.seq (.seq (.reg [o 7 (.faddr 0 (.t 2)),
      o 8 (.load 1 false (.t 7)),
      o 9 (.faddr 0 (.t 3)),
      o 10 (.load 1 false (.t 9)),
      o 11 (.bin .neq (.t 8) (.t 10)),
      o 12 (.mov (.t 11)),
      ⟨(some 13), (some (12, false)), .faddr 1 (.t 2), []⟩,
      ⟨(some 14), (some (12, false)), .load 1 false (.t 13), []⟩,
      ⟨(some 15), (some (12, false)), .faddr 1 (.t 3), []⟩,
      ⟨(some 16), (some (12, false)), .load 1 false (.t 15), []⟩,
      ⟨(some 17), (some (12, false)), .bin .neq (.t 14) (.t 16), []⟩,
      o 18 (.pick (.t 12) (.c (.bool true)) (.t 17)),
      o 19 (.mov (.t 18)),
      ⟨(some 20), (some (19, false)), .faddr 2 (.t 2), []⟩,
      ⟨(some 21), (some (19, false)), .load 1 false (.t 20), []⟩,
      ⟨(some 22), (some (19, false)), .faddr 2 (.t 3), []⟩,
      ⟨(some 23), (some (19, false)), .load 1 false (.t 22), []⟩,
      ⟨(some 24), (some (19, false)), .bin .neq (.t 21) (.t 23), []⟩,
      o 25 (.pick (.t 19) (.c (.bool true)) (.t 24)),
      o 26 (.mov (.t 25)),
      ⟨(some 27), (some (26, false)), .faddr 3 (.t 2), []⟩,
      ⟨(some 28), (some (26, false)), .load 1 false (.t 27), []⟩,
      ⟨(some 29), (some (26, false)), .len false (.t 28), []⟩,
      ⟨(some 30), (some (26, false)), .faddr 3 (.t 3), []⟩,
      ⟨(some 31), (some (26, false)), .load 1 false (.t 30), []⟩,
      ⟨(some 32), (some (26, false)), .len false (.t 31), []⟩,
      ⟨(some 33), (some (26, false)), .bin .neq (.t 29) (.t 32), []⟩,
      o 34 (.pick (.t 26) (.c (.bool true)) (.t 33)),
      o 35 (.mov (.t 34)),
      ⟨(some 36), (some (35, false)), .faddr 4 (.t 2), []⟩,
      ⟨(some 37), (some (35, false)), .load 1 false (.t 36), []⟩,
      ⟨(some 38), (some (35, false)), .len false (.t 37), []⟩,
      ⟨(some 39), (some (35, false)), .faddr 4 (.t 3), []⟩,
      ⟨(some 40), (some (35, false)), .load 1 false (.t 39), []⟩,
      ⟨(some 41), (some (35, false)), .len false (.t 40), []⟩,
      ⟨(some 42), (some (35, false)), .bin .neq (.t 38) (.t 41), []⟩,
      o 43 (.pick (.t 35) (.c (.bool true)) (.t 42))] false)
    (.cond (.t 43) (.seq (.reg [o 4 (.mov (.c (.bool false)))] false)
      (.ret))
      (.skip)))
  (.seq (.seq (.reg [o 5 (.mov (.c (.int .i64 0)))] false)
    (.block 0 (.loop Qgu Q147)))
  (.seq (.seq (.reg [o 6 (.mov (.c (.int .i64 0)))] false)
    (.block 2 (.loop Qhl Q15m)))
  (.seq (.reg [o 4 (.mov (.c (.bool true)))] false)
  (.ret)))))
def Ky : IFn := ⟨2, 99, [.tmp 4], false, Ky_c⟩
def Qi4 : List Nat := [100005, 4, 5, 22, 23, 24]
def Q155 : IR :=
  .seq (.reg [o 25 (.bin .lss (.t 24) (.t 23))] false)
    (.seq (.cond (.t 25) (.skip)
        (.exit 0))
    (.seq (.block 1 (.seq (.reg [o 26 (.iaddr 6 (.t 22) (.t 24)),
          o 27 (.load 6 true (.t 26)),
          o 7 (.zero [.str ⟨#[]⟩, .int .i64 0, .int .i64 0, .str ⟨#[]⟩, .ns 5, .ns 6]),
          ⟨none, none, .store 6 (.t 7) (.t 27), []⟩] false)
        (.seq (.seq (.reg [o 28 (.faddr 1 (.t 7)),
            o 29 (.faddr 0 (.t 28)),
            o 30 (.load 1 false (.t 29)),
            o 31 (.bin .eql (.t 30) (.c (.int .i64 0)))] false)
          (.cond (.t 31) (.seq (.reg [o 32 (.load 5 true (.t 5)),
              o 33 (.faddr 0 (.t 7)),
              o 34 (.load 1 false (.t 33)),
              o 35 (.call false (.f 28) [.t 32, .t 34]),
              ⟨none, none, .store 5 (.t 5) (.t 35), []⟩] false)
            (.exit 1))
            (.skip)))
        (.seq (.reg [o 37 (.load 5 true (.t 5)),
          o 38 (.faddr 0 (.t 7)),
          o 39 (.load 1 false (.t 38)),
          o 40 (.call false (.f 29) [.t 37, .t 39]),
          o 36 (.mov (.t 40)),
          o 41 (.extract (.t 36) 0),
          o 42 (.extract (.t 36) 1),
          o 8 (.zero [.int .i64 0, .int .i64 0, .str ⟨#[]⟩, .ns 5, .ns 6]),
          ⟨none, none, .store 5 (.t 8) (.t 41), []⟩,
          o 9 (.mov (.t 42))] false)
        (.reg [o 43 (.load 5 true (.t 5)),
        o 44 (.faddr 0 (.t 7)),
        ob 45 (.load 1 false (.t 44)) [1],
        o 46 (.load 5 true (.t 8)),
        o 47 (.faddr 1 (.t 7)),
        ob 48 (.load 5 true (.t 47)) [4],
        ob 49 (.call false (.f 13) [.t 46, .t 48]) [3, 4, 5],
        ob 50 (.call false (.f 30) [.t 43, .t 45, .t 49]) (rg 0 7),
        ⟨none, none, .store 5 (.t 5) (.t 50), (rg 0 8)⟩] true)))))
    (.reg [o 51 (.bin .add (.t 24) (.c (.int .i64 1))),
    o 24 (.mov (.t 51))] false)))
def Kg_c : IR :=
  .seq (.reg [o 2 (.box 5 (.t 0)),
    o 3 (.box 5 (.t 1)),
    o 4 (.zero [.int .i64 0, .int .i64 0, .str ⟨#[]⟩, .ns 5, .ns 6])] false)
  (.seq (.seq (.reg [o 10 (.faddr 0 (.t 3)),
      o 11 (.load 1 false (.t 10)),
      o 12 (.bin .neq (.t 11) (.c (.int .i64 5)))] false)
    (.cond (.t 12) (.seq (.reg [o 13 (.load 5 true (.t 3)),
        o 14 (.call false (.f 26) [.t 13]),
        ⟨none, none, .store 5 (.t 4) (.t 14), []⟩] false)
      (.ret))
      (.skip)))
  (.seq (.reg [o 15 (.call false (.f 27) [.c (.ns 6)]),
    o 5 (.zero [.int .i64 0, .int .i64 0, .str ⟨#[]⟩, .ns 5, .ns 6]),
    ⟨none, none, .store 5 (.t 5) (.t 15), []⟩] false)
  (.seq (.seq (.reg [o 16 (.faddr 0 (.t 2)),
      o 17 (.load 1 false (.t 16)),
      o 18 (.bin .eql (.t 17) (.c (.int .i64 5)))] false)
    (.cond (.t 18) (.reg [o 19 (.load 5 true (.t 2)),
      o 20 (.call false (.f 26) [.t 19]),
      ⟨none, none, .store 5 (.t 5) (.t 20), []⟩] false)
      (.skip)))
  (.seq (.seq (.reg [o 21 (.faddr 4 (.t 3)),
      o 22 (.load 1 false (.t 21)),
      o 23 (.len false (.t 22)),
      o 24 (.mov (.c (.int .i64 0)))] false)
    (.block 0 (.loop Qi4 Q155)))
  (.seq (.reg [o 52 (.load 5 true (.t 5)),
    ⟨none, none, .store 5 (.t 4) (.t 52), []⟩] false)
  (.ret))))))
def Kg : IFn := ⟨2, 53, [.cell 4 5 true], false, Kg_c⟩
def Qsy : List Nat := [100008, 2, 4, 5, 48, 49, 50]
def Q17a : IR :=
  .seq (.reg [o 51 (.bin .lss (.t 50) (.t 49))] false)
    (.seq (.cond (.t 51) (.skip)
        (.exit 2))
    (.seq (.block 3 (.seq (.reg [o 52 (.iaddr 6 (.t 48) (.t 50)),
          o 53 (.load 6 true (.t 52)),
          o 11 (.zero [.str ⟨#[]⟩, .int .i64 0, .int .i64 0, .str ⟨#[]⟩, .ns 5, .ns 6]),
          ⟨none, none, .store 6 (.t 11) (.t 53), []⟩] false)
        (.seq (.reg [o 55 (.load 5 true (.t 2)),
          o 56 (.faddr 0 (.t 11)),
          o 57 (.load 1 false (.t 56)),
          o 58 (.call false (.f 29) [.t 55, .t 57]),
          o 54 (.mov (.t 58)),
          o 59 (.extract (.t 54) 0),
          o 60 (.extract (.t 54) 1),
          o 12 (.zero [.int .i64 0, .int .i64 0, .str ⟨#[]⟩, .ns 5, .ns 6]),
          ⟨none, none, .store 5 (.t 12) (.t 59), []⟩,
          o 13 (.mov (.t 60))] false)
        (.block 4 (.seq (.reg [o 68 (.mov (.t 13)),
            o 69 (.mov (.t 68)),
            ⟨(some 70), (some (69, true)), .load 5 true (.t 12), []⟩,
            ⟨(some 71), (some (69, true)), .faddr 1 (.t 11), []⟩,
            ⟨(some 72), (some (69, true)), .load 5 true (.t 71), []⟩,
            ⟨(some 73), (some (69, true)), .call false (.f 34) [.t 70, .t 72], []⟩,
            o 74 (.pick (.t 69) (.t 73) (.c (.bool false))),
            o 67 (.mov (.t 74))] false)
          (.cond (.t 67) (.skip)
            (.seq (.reg [o 76 (.mov (.t 13)),
              o 77 (.mov (.t 76)),
              ⟨(some 78), (some (77, true)), .faddr 0 (.t 12), []⟩,
              ⟨(some 79), (some (77, true)), .load 1 false (.t 78), []⟩,
              ⟨(some 80), (some (77, true)), .bin .eql (.t 79) (.c (.int .i64 5)), []⟩,
              o 81 (.pick (.t 77) (.t 80) (.c (.bool false))),
              o 82 (.mov (.t 81)),
              ⟨(some 83), (some (82, true)), .faddr 1 (.t 11), []⟩,
              ⟨(some 84), (some (82, true)), .faddr 0 (.t 83), []⟩,
              ⟨(some 85), (some (82, true)), .load 1 false (.t 84), []⟩,
              ⟨(some 86), (some (82, true)), .bin .eql (.t 85) (.c (.int .i64 5)), []⟩,
              o 87 (.pick (.t 82) (.t 86) (.c (.bool false))),
              o 75 (.mov (.t 87))] false)
            (.cond (.t 75) (.reg [o 88 (.load 5 true (.t 5)),
              o 89 (.faddr 0 (.t 11)),
              ob 90 (.load 1 false (.t 89)) [1],
              o 91 (.load 5 true (.t 12)),
              o 92 (.faddr 1 (.t 11)),
              ob 93 (.load 5 true (.t 92)) [4],
              ob 94 (.call false (.f 15) [.t 91, .t 93]) [3, 4, 5],
              ob 95 (.call false (.f 30) [.t 88, .t 90, .t 94]) (rg 0 7),
              ⟨none, none, .store 5 (.t 5) (.t 95), (rg 0 8)⟩] true)
              (.reg [o 61 (.load 5 true (.t 5)),
              o 62 (.faddr 0 (.t 11)),
              o 63 (.load 1 false (.t 62)),
              o 64 (.faddr 1 (.t 11)),
              o 65 (.load 5 true (.t 64)),
              o 66 (.call false (.f 30) [.t 61, .t 63, .t 65]),
              ⟨none, none, .store 5 (.t 5) (.t 66), []⟩] false)))))))))
    (.reg [o 96 (.bin .add (.t 50) (.c (.int .i64 1))),
    o 50 (.mov (.t 96))] false)))
def Qu7 : List Nat := [100007, 2, 3, 4, 5, 26, 27, 28]
def Q17h : IR :=
  .seq (.reg [o 29 (.bin .lss (.t 28) (.t 27))] false)
    (.seq (.cond (.t 29) (.skip)
        (.exit 0))
    (.seq (.block 1 (.seq (.reg [o 30 (.iaddr 6 (.t 26) (.t 28)),
          o 31 (.load 6 true (.t 30)),
          o 7 (.zero [.str ⟨#[]⟩, .int .i64 0, .int .i64 0, .str ⟨#[]⟩, .ns 5, .ns 6]),
          ⟨none, none, .store 6 (.t 7) (.t 31), []⟩] false)
        (.seq (.reg [o 33 (.load 5 true (.t 3)),
          o 34 (.faddr 0 (.t 7)),
          o 35 (.load 1 false (.t 34)),
          o 36 (.call false (.f 29) [.t 33, .t 35]),
          o 32 (.mov (.t 36)),
          o 37 (.extract (.t 32) 0),
          o 38 (.extract (.t 32) 1),
          o 8 (.zero [.int .i64 0, .int .i64 0, .str ⟨#[]⟩, .ns 5, .ns 6]),
          ⟨none, none, .store 5 (.t 8) (.t 37), []⟩,
          o 9 (.mov (.t 38))] false)
        (.seq (.reg [o 39 (.mov (.t 9)),
          o 40 (.un .not (.t 39))] false)
        (.cond (.t 40) (.reg [o 41 (.load 5 true (.t 5)),
          o 42 (.faddr 0 (.t 7)),
          ob 43 (.load 1 false (.t 42)) [1],
          o 44 (.call false (.f 33) []),
          ob 45 (.call false (.f 30) [.t 41, .t 43, .t 44]) [0, 1, 2, 3],
          ⟨none, none, .store 5 (.t 5) (.t 45), (rg 0 5)⟩] true)
          (.skip))))))
    (.reg [o 46 (.bin .add (.t 28) (.c (.int .i64 1))),
    o 28 (.mov (.t 46))] false)))
def Kf_c : IR :=
  .seq (.reg [o 2 (.box 5 (.t 0)),
    o 3 (.box 5 (.t 1)),
    o 4 (.zero [.int .i64 0, .int .i64 0, .str ⟨#[]⟩, .ns 5, .ns 6])] false)
  (.seq (.seq (.reg [o 14 (.faddr 0 (.t 2)),
      o 15 (.load 1 false (.t 14)),
      o 16 (.bin .neq (.t 15) (.c (.int .i64 5))),
      o 17 (.mov (.t 16)),
      ⟨(some 18), (some (17, false)), .faddr 0 (.t 3), []⟩,
      ⟨(some 19), (some (17, false)), .load 1 false (.t 18), []⟩,
      ⟨(some 20), (some (17, false)), .bin .neq (.t 19) (.c (.int .i64 5)), []⟩,
      o 21 (.pick (.t 17) (.c (.bool true)) (.t 20))] false)
    (.cond (.t 21) (.seq (.reg [o 22 (.load 5 true (.t 3)),
        o 23 (.call false (.f 26) [.t 22]),
        ⟨none, none, .store 5 (.t 4) (.t 23), []⟩] false)
      (.ret))
      (.skip)))
  (.seq (.reg [o 24 (.call false (.f 27) [.c (.ns 6)]),
    o 5 (.zero [.int .i64 0, .int .i64 0, .str ⟨#[]⟩, .ns 5, .ns 6]),
    ⟨none, none, .store 5 (.t 5) (.t 24), []⟩] false)
  (.seq (.seq (.reg [o 25 (.faddr 4 (.t 2)),
      o 26 (.load 1 false (.t 25)),
      o 27 (.len false (.t 26)),
      o 28 (.mov (.c (.int .i64 0)))] false)
    (.block 0 (.loop Qu7 Q17h)))
  (.seq (.seq (.reg [o 47 (.faddr 4 (.t 3)),
      o 48 (.load 1 false (.t 47)),
      o 49 (.len false (.t 48)),
      o 50 (.mov (.c (.int .i64 0)))] false)
    (.block 2 (.loop Qsy Q17a)))
  (.seq (.reg [o 97 (.load 5 true (.t 5)),
    ⟨none, none, .store 5 (.t 4) (.t 97), []⟩] false)
  (.ret))))))
def Kf : IFn := ⟨2, 98, [.cell 4 5 true], false, Kf_c⟩
def Qfo : List Nat := [100011, 2, 4, 5, 27, 28, 29]
def Q15i : IR :=
  .seq (.reg [o 30 (.bin .lss (.t 29) (.t 28))] false)
    (.seq (.cond (.t 30) (.skip)
        (.exit 1))
    (.seq (.block 2 (.seq (.reg [o 31 (.iaddr 6 (.t 27) (.t 29)),
          o 32 (.load 6 true (.t 31)),
          o 7 (.zero [.str ⟨#[]⟩, .int .i64 0, .int .i64 0, .str ⟨#[]⟩, .ns 5, .ns 6]),
          ⟨none, none, .store 6 (.t 7) (.t 32), []⟩] false)
        (.seq (.reg [o 33 (.faddr 1 (.t 7)),
          o 34 (.load 5 true (.t 33)),
          o 8 (.zero [.int .i64 0, .int .i64 0, .str ⟨#[]⟩, .ns 5, .ns 6]),
          ⟨none, none, .store 5 (.t 8) (.t 34), []⟩] false)
        (.seq (.seq (.reg [o 36 (.load 5 true (.t 2)),
            o 37 (.faddr 0 (.t 7)),
            o 38 (.load 1 false (.t 37)),
            o 39 (.call false (.f 29) [.t 36, .t 38]),
            o 35 (.mov (.t 39)),
            o 40 (.extract (.t 35) 0),
            o 41 (.extract (.t 35) 1),
            o 9 (.zero [.int .i64 0, .int .i64 0, .str ⟨#[]⟩, .ns 5, .ns 6]),
            ⟨none, none, .store 5 (.t 9) (.t 40), []⟩,
            o 10 (.mov (.t 41))] false)
          (.seq (.reg [o 42 (.mov (.t 10))] false)
          (.cond (.t 42) (.reg [o 43 (.load 5 true (.t 9)),
            o 44 (.load 5 true (.t 8)),
            o 45 (.call false (.f 17) [.t 43, .t 44]),
            ⟨none, none, .store 5 (.t 8) (.t 45), []⟩] false)
            (.skip))))
        (.reg [o 46 (.load 5 true (.t 5)),
        o 47 (.faddr 0 (.t 7)),
        o 48 (.load 1 false (.t 47)),
        o 49 (.load 5 true (.t 8)),
        o 50 (.call false (.f 30) [.t 46, .t 48, .t 49]),
        ⟨none, none, .store 5 (.t 5) (.t 50), []⟩] false)))))
    (.reg [o 51 (.bin .add (.t 29) (.c (.int .i64 1))),
    o 29 (.mov (.t 51))] false)))
def Ke_c : IR :=
  .seq (.reg [o 2 (.box 5 (.t 0)),
    o 3 (.box 5 (.t 1)),
    o 4 (.zero [.int .i64 0, .int .i64 0, .str ⟨#[]⟩, .ns 5, .ns 6])] false)
  (.seq (.block 0 (.seq (.reg [o 12 (.faddr 0 (.t 3)),
        o 13 (.load 1 false (.t 12)),
        o 14 (.bin .neq (.t 13) (.c (.int .i64 5))),
        o 11 (.mov (.t 14))] false)
      (.cond (.t 11) (.seq (.reg [o 15 (.load 5 true (.t 3)),
          o 16 (.call false (.f 26) [.t 15]),
          ⟨none, none, .store 5 (.t 4) (.t 16), []⟩] false)
        (.ret))
        (.seq (.reg [o 18 (.faddr 0 (.t 2)),
          o 19 (.load 1 false (.t 18)),
          o 20 (.bin .neq (.t 19) (.c (.int .i64 5))),
          o 17 (.mov (.t 20))] false)
        (.cond (.t 17) (.seq (.reg [o 21 (.call false (.f 33) []),
            o 22 (.load 5 true (.t 3)),
            ob 23 (.call false (.f 13) [.t 21, .t 22]) [0, 1],
            ⟨none, none, .store 5 (.t 4) (.t 23), [0, 1, 2]⟩] true)
          (.ret))
          (.skip))))))
  (.seq (.reg [o 24 (.load 5 true (.t 2)),
    o 25 (.call false (.f 26) [.t 24]),
    o 5 (.zero [.int .i64 0, .int .i64 0, .str ⟨#[]⟩, .ns 5, .ns 6]),
    ⟨none, none, .store 5 (.t 5) (.t 25), []⟩] false)
  (.seq (.seq (.reg [o 26 (.faddr 4 (.t 3)),
      o 27 (.load 1 false (.t 26)),
      o 28 (.len false (.t 27)),
      o 29 (.mov (.c (.int .i64 0)))] false)
    (.block 1 (.loop Qfo Q15i)))
  (.seq (.reg [o 52 (.load 5 true (.t 5)),
    ⟨none, none, .store 5 (.t 4) (.t 52), []⟩] false)
  (.ret)))))
def Ke : IFn := ⟨2, 53, [.cell 4 5 true], false, Ke_c⟩
def Qdf : List Nat := [100013, 2, 3, 5]
def Q11d : IR :=
  .seq (.seq (.reg [o 14 (.mov (.t 5)),
        o 15 (.faddr 4 (.t 3)),
        o 16 (.load 1 false (.t 15)),
        o 17 (.len false (.t 16)),
        o 18 (.bin .lss (.t 14) (.t 17))] false)
      (.cond (.t 18) (.skip)
        (.exit 0)))
    (.seq (.block 1 (.seq (.reg [o 22 (.load 5 true (.t 2)),
          o 23 (.faddr 4 (.t 3)),
          ob 24 (.load 1 false (.t 23)) [1],
          o 25 (.mov (.t 5)),
          ob 26 (.iaddr 6 (.t 24) (.t 25)) [1, 2, 3],
          ob 27 (.faddr 0 (.t 26)) [1, 2, 3, 4],
          ob 28 (.load 1 false (.t 27)) (rg 1 6),
          ob 29 (.call false (.f 21) [.t 22, .t 28]) (rg 0 7),
          ob 21 (.mov (.t 29)) (rg 0 8),
          ob 30 (.extract (.t 21) 0) (rg 0 9),
          ob 31 (.extract (.t 21) 1) (rg 0 9),
          o 6 (.zero [.int .i64 0, .int .i64 0, .str ⟨#[]⟩, .ns 5, .ns 6]),
          ⟨none, none, .store 5 (.t 6) (.t 30), (rg 0 10 ++ [11])⟩,
          ob 7 (.mov (.t 31)) (rg 0 13)] true)
        (.seq (.reg [o 32 (.mov (.t 7)),
          ob 33 (.mov (.t 32)) [0],
          ⟨(some 34), (some (33, true)), .load 5 true (.t 6), [0, 1]⟩,
          ⟨(some 35), (some (33, true)), .faddr 4 (.t 3), [0, 1]⟩,
          ⟨(some 36), (some (33, true)), .load 1 false (.t 35), [0, 1, 3]⟩,
          ⟨(some 37), (some (33, true)), .mov (.t 5), [0, 1]⟩,
          ⟨(some 38), (some (33, true)), .iaddr 6 (.t 36) (.t 37), [0, 1, 3, 4, 5]⟩,
          ⟨(some 39), (some (33, true)), .faddr 1 (.t 38), ([0, 1] ++ rg 3 7)⟩,
          ⟨(some 40), (some (33, true)), .load 5 true (.t 39), ([0, 1] ++ rg 3 8)⟩,
          ⟨(some 41), (some (33, true)), .call false (.f 19) [.t 34, .t 40], (rg 0 9)⟩,
          ⟨(some 42), (some (33, true)), .un .not (.t 41), (rg 0 10)⟩,
          ob 43 (.pick (.t 33) (.t 42) (.c (.bool false))) (rg 0 11)] true)
        (.cond (.t 43) (.seq (.reg [o 4 (.mov (.c (.bool false)))] false)
          (.ret))
          (.skip)))))
    (.reg [o 19 (.mov (.t 5)),
    o 20 (.bin .add (.t 19) (.c (.int .i64 1))),
    o 5 (.mov (.t 20))] false))
def Q17n : IR :=
  .seq (.reg [o 2 (.box 5 (.t 0)),
    o 3 (.box 5 (.t 1)),
    o 4 (.mov (.c (.bool false)))] false)
  (.seq (.seq (.reg [o 8 (.faddr 0 (.t 3)),
      o 9 (.load 1 false (.t 8)),
      o 10 (.bin .neq (.t 9) (.c (.int .i64 5)))] false)
    (.cond (.t 10) (.seq (.reg [o 4 (.mov (.c (.bool true)))] false)
      (.ret))
      (.skip)))
  (.seq (.seq (.reg [o 11 (.faddr 0 (.t 2)),
      o 12 (.load 1 false (.t 11)),
      o 13 (.bin .neq (.t 12) (.c (.int .i64 5)))] false)
    (.cond (.t 13) (.seq (.reg [o 4 (.mov (.c (.bool false)))] false)
      (.ret))
      (.skip)))
  (.seq (.seq (.reg [o 5 (.mov (.c (.int .i64 0)))] false)
    (.block 0 (.loop Qdf Q11d)))
  (.seq (.reg [o 4 (.mov (.c (.bool true)))] false)
  (.ret)))))
def K12 : IFn := ⟨2, 44, [.tmp 4], false, Q17n⟩
def Qh0 : List Nat := [100015, 1, 2, 4, 6]
def Q148 : IR :=
  .seq (.seq (.reg [o 10 (.mov (.t 6)),
        o 11 (.faddr 4 (.t 2)),
        o 12 (.load 1 false (.t 11)),
        o 13 (.len false (.t 12)),
        o 14 (.bin .lss (.t 10) (.t 13))] false)
      (.cond (.t 14) (.skip)
        (.exit 0)))
    (.seq (.block 1 (.seq (.reg [o 17 (.faddr 4 (.t 2)),
          o 18 (.load 1 false (.t 17)),
          o 19 (.mov (.t 6)),
          o 20 (.iaddr 6 (.t 18) (.t 19)),
          o 21 (.faddr 0 (.t 20)),
          o 22 (.load 1 false (.t 21)),
          o 23 (.mov (.t 1)),
          o 24 (.bin .eql (.t 22) (.t 23))] false)
        (.cond (.t 24) (.seq (.reg [o 25 (.faddr 4 (.t 2)),
            o 26 (.load 1 false (.t 25)),
            o 27 (.mov (.t 6)),
            o 28 (.iaddr 6 (.t 26) (.t 27)),
            o 29 (.faddr 1 (.t 28)),
            o 30 (.load 5 true (.t 29)),
            o 31 (.call false (.f 36) [.t 30]),
            ⟨none, none, .store 5 (.t 4) (.t 31), []⟩,
            o 5 (.mov (.c (.bool true)))] false)
          (.ret))
          (.skip))))
    (.reg [o 15 (.mov (.t 6)),
    o 16 (.bin .add (.t 15) (.c (.int .i64 1))),
    o 6 (.mov (.t 16))] false))
def Kl_c : IR :=
  .seq (.reg [o 2 (.box 5 (.t 0)),
    o 4 (.zero [.int .i64 0, .int .i64 0, .str ⟨#[]⟩, .ns 5, .ns 6]),
    o 5 (.mov (.c (.bool false)))] false)
  (.seq (.seq (.reg [o 7 (.faddr 0 (.t 2)),
      o 8 (.load 1 false (.t 7)),
      o 9 (.bin .eql (.t 8) (.c (.int .i64 5)))] false)
    (.cond (.t 9) (.seq (.reg [o 6 (.mov (.c (.int .i64 0)))] false)
      (.block 0 (.loop Qh0 Q148)))
      (.skip)))
  (.seq (.reg [o 32 (.build [.int .i64 0, .int .i64 0, .str ⟨#[]⟩, .ns 5, .ns 6] []),
    ⟨none, none, .store 5 (.t 4) (.t 32), []⟩,
    o 5 (.mov (.c (.bool false)))] false)
  (.ret)))
def Kl : IFn := ⟨2, 33, [.cell 4 5 true, .tmp 5], false, Kl_c⟩
def Kz_c : IR :=
  .seq (.reg [o 2 (.box 5 (.t 0)),
    o 4 (.mov (.c (.bool false)))] false)
  (.seq (.reg [o 5 (.load 5 true (.t 2)),
    o 6 (.mov (.t 1)),
    o 7 (.call false (.f 37) [.t 5, .t 6]),
    o 8 (.bin .geq (.t 7) (.c (.int .i64 0))),
    o 4 (.mov (.t 8))] false)
  (.ret))
def Kz : IFn := ⟨2, 9, [.tmp 4], false, Kz_c⟩
def Ko_c : IR :=
  .seq (.reg [o 1 (.box 5 (.t 0)),
    o 2 (.mov (.c (.bool false)))] false)
  (.seq (.reg [o 3 (.load 5 true (.t 1)),
    o 4 (.call false (.f 38) [.t 3, .c (.int .i64 12)]),
    o 5 (.mov (.t 4)),
    ⟨(some 6), (some (5, true)), .load 5 true (.t 1), []⟩,
    ⟨(some 7), (some (5, true)), .call false (.f 39) [.t 6], []⟩,
    ⟨(some 8), (some (5, true)), .bin .leq (.t 7) (.c (.int .i64 600)), []⟩,
    o 9 (.pick (.t 5) (.t 8) (.c (.bool false))),
    o 2 (.mov (.t 9))] false)
  (.ret))
def Ko : IFn := ⟨1, 10, [.tmp 2], false, Ko_c⟩
def Kc_c : IR :=
  .seq (.reg [o 2 (.zero [.int .i64 0, .int .i64 0, .str ⟨#[]⟩, .ns 5, .ns 6])] false)
  (.seq (.reg [o 3 (.mov (.t 0)),
    o 4 (.build [.int .i64 0, .int .i64 0, .str ⟨#[]⟩, .ns 5, .ns 6] [(0, 1, .c (.int .i64 5)), (4, 1, .t 3)]),
    ⟨none, none, .store 5 (.t 2) (.t 4), []⟩] false)
  (.ret))
def Kc : IFn := ⟨1, 5, [.cell 2 5 true], false, Kc_c⟩
def Kb_c : IR :=
  .seq (.reg [o 2 (.zero [.int .i64 0, .int .i64 0, .str ⟨#[]⟩, .ns 5, .ns 6])] false)
  (.seq (.reg [o 3 (.mov (.t 0)),
    o 4 (.build [.int .i64 0, .int .i64 0, .str ⟨#[]⟩, .ns 5, .ns 6] [(0, 1, .c (.int .i64 2)), (1, 1, .t 3)]),
    ⟨none, none, .store 5 (.t 2) (.t 4), []⟩] false)
  (.ret))
def Kb : IFn := ⟨1, 5, [.cell 2 5 true], false, Kb_c⟩
def Kh_c : IR :=
  .seq (.reg [o 1 (.box 5 (.t 0)),
    o 2 (.zero [.int .i64 0, .int .i64 0, .str ⟨#[]⟩, .ns 5, .ns 6])] false)
  (.seq (.reg [o 3 (.load 5 true (.t 1)),
    o 4 (.lit 5 1 [.int .i64 0, .int .i64 0, .str ⟨#[]⟩, .ns 5, .ns 6] [(0, .t 3)]),
    o 5 (.call false (.f 40) [.t 4]),
    o 6 (.field 3 1 false (.t 5)),
    o 7 (.iaddr 5 (.t 6) (.c (.int .i64 0))),
    o 8 (.load 5 true (.t 7)),
    ⟨none, none, .store 5 (.t 2) (.t 8), []⟩] false)
  (.ret))
def Kh : IFn := ⟨1, 9, [.cell 2 5 true], false, Kh_c⟩
def Qda : List Nat := [100016, 2, 3, 4, 12, 13, 14]
def Q11p : IR :=
  .seq (.reg [o 15 (.bin .lss (.t 14) (.t 13))] false)
    (.seq (.cond (.t 15) (.skip)
        (.exit 0))
    (.seq (.block 1 (.seq (.reg [o 16 (.mov (.t 14)),
          o 17 (.iaddr 6 (.t 12) (.t 14)),
          o 18 (.load 6 true (.t 17)),
          o 6 (.zero [.str ⟨#[]⟩, .int .i64 0, .int .i64 0, .str ⟨#[]⟩, .ns 5, .ns 6]),
          o 5 (.mov (.t 16)),
          ⟨none, none, .store 6 (.t 6) (.t 18), []⟩] false)
        (.seq (.reg [o 19 (.mov (.t 5)),
          ob 20 (.bin .add (.t 19) (.c (.int .i64 1))) [0],
          o 21 (.mov (.t 3)),
          ob 22 (.len false (.t 21)) [2],
          ob 23 (.bin .eql (.t 20) (.t 22)) [0, 1, 2, 3],
          ob 24 (.mov (.t 23)) (rg 0 5),
          ⟨(some 25), (some (24, false)), .mov (.t 3), (rg 0 6)⟩,
          ⟨(some 26), (some (24, false)), .mov (.t 5), (rg 0 6)⟩,
          ⟨(some 27), (some (24, false)), .bin .add (.t 26) (.c (.int .i64 1)), (rg 0 6 ++ [7])⟩,
          ⟨(some 28), (some (24, false)), .iaddr 6 (.t 25) (.t 27), (rg 0 9)⟩,
          ⟨(some 29), (some (24, false)), .faddr 0 (.t 28), (rg 0 10)⟩,
          ⟨(some 30), (some (24, false)), .load 1 false (.t 29), (rg 0 11)⟩,
          ⟨(some 31), (some (24, false)), .faddr 0 (.t 6), (rg 0 6)⟩,
          ⟨(some 32), (some (24, false)), .load 1 false (.t 31), (rg 0 6 ++ [12])⟩,
          ⟨(some 33), (some (24, false)), .bin .neq (.t 30) (.t 32), (rg 0 14)⟩,
          ob 34 (.pick (.t 24) (.c (.bool true)) (.t 33)) (rg 0 15)] true)
        (.cond (.t 34) (.reg [o 35 (.faddr 4 (.t 4)),
          o 36 (.load 1 false (.t 35)),
          o 37 (.load 6 true (.t 6)),
          o 38 (.lit 6 1 [.str ⟨#[]⟩, .int .i64 0, .int .i64 0, .str ⟨#[]⟩, .ns 5, .ns 6] [(0, .t 37)]),
          o 39 (.append 6 96 (.t 36) (.t 38)),
          o 40 (.faddr 4 (.t 4)),
          ⟨none, none, .store 1 (.t 40) (.t 39), []⟩] false)
          (.skip)))))
    (.reg [o 41 (.bin .add (.t 14) (.c (.int .i64 1))),
    o 14 (.mov (.t 41))] false)))
def Q17k : IR :=
  .seq (.reg [o 2 (.zero [.int .i64 0, .int .i64 0, .str ⟨#[]⟩, .ns 5, .ns 6])] false)
  (.seq (.reg [o 7 (.mov (.t 0)),
    o 8 (.call false (.f 41) [.t 7]),
    o 3 (.mov (.t 8))] false)
  (.seq (.reg [o 9 (.mov (.t 3)),
    o 10 (.call true (.f 42) [.t 9, .f 43])] false)
  (.seq (.reg [o 11 (.build [.int .i64 0, .int .i64 0, .str ⟨#[]⟩, .ns 5, .ns 6] [(0, 1, .c (.int .i64 5))]),
    o 4 (.zero [.int .i64 0, .int .i64 0, .str ⟨#[]⟩, .ns 5, .ns 6]),
    ⟨none, none, .store 5 (.t 4) (.t 11), []⟩] false)
  (.seq (.seq (.reg [o 12 (.mov (.t 3)),
      o 13 (.len false (.t 12)),
      o 14 (.mov (.c (.int .i64 0)))] false)
    (.block 0 (.loop Qda Q11p)))
  (.seq (.reg [o 42 (.load 5 true (.t 4)),
    o 43 (.call false (.f 45) [.t 42]),
    ⟨none, none, .store 5 (.t 2) (.t 43), []⟩] false)
  (.ret))))))
def K1m : IFn := ⟨1, 44, [.cell 2 5 true], false, Q17k⟩
def Q16a : IR :=
  .seq (.reg [o 2 (.box 5 (.t 0)),
    o 4 (.zero [.int .i64 0, .int .i64 0, .str ⟨#[]⟩, .ns 5, .ns 6])] false)
  (.seq (.seq (.reg [o 5 (.faddr 0 (.t 2)),
      o 6 (.load 1 false (.t 5)),
      o 7 (.bin .neq (.t 6) (.c (.int .i64 5)))] false)
    (.cond (.t 7) (.seq (.reg [o 8 (.load 5 true (.t 2)),
        o 9 (.call false (.f 45) [.t 8]),
        ⟨none, none, .store 5 (.t 4) (.t 9), []⟩] false)
      (.ret))
      (.skip)))
  (.seq (.reg [o 10 (.load 5 true (.t 2)),
    o 11 (.mov (.t 1)),
    o 12 (.call false (.f 46) [.t 10, .t 11]),
    o 13 (.call false (.f 27) [.t 12]),
    ⟨none, none, .store 5 (.t 4) (.t 13), []⟩] false)
  (.ret)))
def K1q : IFn := ⟨2, 14, [.cell 4 5 true], false, Q16a⟩
def Qer : List Nat := [100017, 1, 4, 12, 13, 14]
def Q11b : IR :=
  .seq (.reg [o 15 (.bin .lss (.t 14) (.t 13))] false)
    (.seq (.cond (.t 15) (.skip)
        (.exit 0))
    (.seq (.block 1 (.seq (.reg [o 16 (.iaddr 6 (.t 12) (.t 14)),
          o 17 (.load 6 true (.t 16)),
          o 7 (.zero [.str ⟨#[]⟩, .int .i64 0, .int .i64 0, .str ⟨#[]⟩, .ns 5, .ns 6]),
          ⟨none, none, .store 6 (.t 7) (.t 17), []⟩] false)
        (.seq (.reg [o 18 (.faddr 0 (.t 7)),
          o 19 (.load 1 false (.t 18)),
          o 20 (.mov (.t 1)),
          o 21 (.bin .eql (.t 19) (.t 20))] false)
        (.cond (.t 21) (.seq (.reg [o 22 (.faddr 1 (.t 7)),
            o 23 (.load 5 true (.t 22)),
            o 24 (.call false (.f 45) [.t 23]),
            ⟨none, none, .store 5 (.t 4) (.t 24), []⟩,
            o 5 (.mov (.c (.bool true)))] false)
          (.ret))
          (.skip)))))
    (.reg [o 25 (.bin .add (.t 14) (.c (.int .i64 1))),
    o 14 (.mov (.t 25))] false)))
def Q175 : IR :=
  .seq (.reg [o 2 (.box 5 (.t 0)),
    o 4 (.zero [.int .i64 0, .int .i64 0, .str ⟨#[]⟩, .ns 5, .ns 6]),
    o 5 (.mov (.c (.bool false)))] false)
  (.seq (.seq (.reg [o 8 (.faddr 0 (.t 2)),
      o 9 (.load 1 false (.t 8)),
      o 10 (.bin .eql (.t 9) (.c (.int .i64 5)))] false)
    (.cond (.t 10) (.seq (.reg [o 11 (.faddr 4 (.t 2)),
        o 12 (.load 1 false (.t 11)),
        o 13 (.len false (.t 12)),
        o 14 (.mov (.c (.int .i64 0)))] false)
      (.block 0 (.loop Qer Q11b)))
      (.skip)))
  (.seq (.reg [o 26 (.build [.int .i64 0, .int .i64 0, .str ⟨#[]⟩, .ns 5, .ns 6] []),
    ⟨none, none, .store 5 (.t 4) (.t 26), []⟩,
    o 5 (.mov (.c (.bool false)))] false)
  (.ret)))
def K1k : IFn := ⟨2, 27, [.cell 4 5 true, .tmp 5], false, Q175⟩
def Q177 : IR :=
  .seq (.reg [o 3 (.box 5 (.t 0)),
    o 5 (.box 5 (.t 2)),
    o 6 (.zero [.int .i64 0, .int .i64 0, .str ⟨#[]⟩, .ns 5, .ns 6])] false)
  (.seq (.reg [o 7 (.load 5 true (.t 3)),
    o 8 (.mov (.t 1)),
    ob 9 (.call false (.f 46) [.t 7, .t 8]) [0, 1],
    o 10 (.mov (.t 1)),
    o 11 (.load 5 true (.t 5)),
    ob 12 (.build [.str ⟨#[]⟩, .int .i64 0, .int .i64 0, .str ⟨#[]⟩, .ns 5, .ns 6] [(0, 1, .t 10), (1, 5, .t 11)]) [3, 4],
    ob 13 (.lit 6 1 [.str ⟨#[]⟩, .int .i64 0, .int .i64 0, .str ⟨#[]⟩, .ns 5, .ns 6] [(0, .t 12)]) [3, 4, 5],
    ob 14 (.append 6 96 (.t 9) (.t 13)) (rg 0 7),
    ob 15 (.call false (.f 27) [.t 14]) (rg 0 8),
    ⟨none, none, .store 5 (.t 6) (.t 15), (rg 0 9)⟩] true)
  (.ret))
def K1p : IFn := ⟨3, 16, [.cell 6 5 true], false, Q177⟩
def Q17r : IR :=
  .seq (.reg [o 0 (.zero [.int .i64 0, .int .i64 0, .str ⟨#[]⟩, .ns 5, .ns 6])] false)
  (.seq (.reg [o 1 (.build [.int .i64 0, .int .i64 0, .str ⟨#[]⟩, .ns 5, .ns 6] [(0, 1, .c (.int .i64 0))]),
    ⟨none, none, .store 5 (.t 0) (.t 1), []⟩] false)
  (.ret))
def K1o : IFn := ⟨0, 2, [.cell 0 5 true], false, Q17r⟩
def Q17i : IR :=
  .seq (.reg [o 2 (.box 5 (.t 0)),
    o 3 (.box 5 (.t 1)),
    o 4 (.mov (.c (.bool false)))] false)
  (.seq (.reg [o 5 (.load 5 true (.t 2)),
    o 6 (.load 5 true (.t 3)),
    o 7 (.call false (.f 49) [.t 5, .t 6]),
    o 8 (.bin .eql (.t 7) (.c (.int .i64 0))),
    o 4 (.mov (.t 8))] false)
  (.ret))
def K1j : IFn := ⟨2, 9, [.tmp 4], false, Q17i⟩
def Qib : List Nat := [100019, 1, 2, 3, 5]
def Q13d : IR :=
  .seq (.seq (.reg [o 31 (.mov (.t 5)),
        o 32 (.faddr 4 (.t 1)),
        o 33 (.load 1 false (.t 32)),
        o 34 (.len false (.t 33)),
        o 35 (.bin .lss (.t 31) (.t 34))] false)
      (.cond (.t 35) (.skip)
        (.exit 2)))
    (.seq (.block 3 (.reg [o 38 (.faddr 4 (.t 3)),
        ob 39 (.load 1 false (.t 38)) [0],
        o 40 (.faddr 4 (.t 1)),
        ob 41 (.load 1 false (.t 40)) [2],
        o 42 (.mov (.t 5)),
        ob 43 (.iaddr 6 (.t 41) (.t 42)) [2, 3, 4],
        ob 44 (.faddr 0 (.t 43)) [2, 3, 4, 5],
        ob 45 (.load 1 false (.t 44)) (rg 2 7),
        o 46 (.faddr 4 (.t 1)),
        ob 47 (.load 1 false (.t 46)) [8],
        o 48 (.mov (.t 5)),
        ob 49 (.iaddr 6 (.t 47) (.t 48)) [8, 9, 10],
        ob 50 (.faddr 1 (.t 49)) [8, 9, 10, 11],
        ob 51 (.load 5 true (.t 50)) (rg 8 13),
        ob 52 (.call false (.f 36) [.t 51]) (rg 8 14),
        ob 53 (.build [.str ⟨#[]⟩, .int .i64 0, .int .i64 0, .str ⟨#[]⟩, .ns 5, .ns 6] [(0, 1, .t 45), (1, 5, .t 52)]) (rg 2 15),
        ob 54 (.lit 6 1 [.str ⟨#[]⟩, .int .i64 0, .int .i64 0, .str ⟨#[]⟩, .ns 5, .ns 6] [(0, .t 53)]) (rg 2 16),
        ob 55 (.append 6 96 (.t 39) (.t 54)) (rg 0 17),
        ob 56 (.faddr 4 (.t 3)) (rg 0 18),
        ⟨none, none, .store 1 (.t 56) (.t 55), (rg 0 19)⟩] true))
    (.reg [o 36 (.mov (.t 5)),
    o 37 (.bin .add (.t 36) (.c (.int .i64 1))),
    o 5 (.mov (.t 37))] false))
def Qid : List Nat := [100018, 1, 2, 3, 4]
def Q13o : IR :=
  .seq (.seq (.reg [o 13 (.mov (.t 4)),
        o 14 (.faddr 3 (.t 1)),
        o 15 (.load 1 false (.t 14)),
        o 16 (.len false (.t 15)),
        o 17 (.bin .lss (.t 13) (.t 16))] false)
      (.cond (.t 17) (.skip)
        (.exit 0)))
    (.seq (.block 1 (.reg [o 20 (.faddr 3 (.t 3)),
        ob 21 (.load 1 false (.t 20)) [0],
        o 22 (.faddr 3 (.t 1)),
        ob 23 (.load 1 false (.t 22)) [2],
        o 24 (.mov (.t 4)),
        ob 25 (.iaddr 5 (.t 23) (.t 24)) [2, 3, 4],
        ob 26 (.load 5 true (.t 25)) [2, 3, 4, 5],
        ob 27 (.call false (.f 36) [.t 26]) (rg 2 7),
        ob 28 (.lit 5 1 [.int .i64 0, .int .i64 0, .str ⟨#[]⟩, .ns 5, .ns 6] [(0, .t 27)]) (rg 2 8),
        ob 29 (.append 5 80 (.t 21) (.t 28)) (rg 0 9),
        ob 30 (.faddr 3 (.t 3)) (rg 0 10),
        ⟨none, none, .store 1 (.t 30) (.t 29), (rg 0 11)⟩] true))
    (.reg [o 18 (.mov (.t 4)),
    o 19 (.bin .add (.t 18) (.c (.int .i64 1))),
    o 4 (.mov (.t 19))] false))
def Kj_c : IR :=
  .seq (.reg [o 1 (.box 5 (.t 0)),
    o 2 (.zero [.int .i64 0, .int .i64 0, .str ⟨#[]⟩, .ns 5, .ns 6])] false)
  (.seq (.reg [o 6 (.faddr 0 (.t 1)),
    o 7 (.load 1 false (.t 6)),
    o 8 (.faddr 1 (.t 1)),
    o 9 (.load 1 false (.t 8)),
    o 10 (.faddr 2 (.t 1)),
    o 11 (.load 1 false (.t 10)),
    o 12 (.build [.int .i64 0, .int .i64 0, .str ⟨#[]⟩, .ns 5, .ns 6] [(0, 1, .t 7), (1, 1, .t 9), (2, 1, .t 11)]),
    o 3 (.zero [.int .i64 0, .int .i64 0, .str ⟨#[]⟩, .ns 5, .ns 6]),
    ⟨none, none, .store 5 (.t 3) (.t 12), []⟩] false)
  (.seq (.seq (.reg [o 4 (.mov (.c (.int .i64 0)))] false)
    (.block 0 (.loop Qid Q13o)))
  (.seq (.seq (.reg [o 5 (.mov (.c (.int .i64 0)))] false)
    (.block 2 (.loop Qib Q13d)))
  (.seq (.reg [o 57 (.load 5 true (.t 3)),
    ⟨none, none, .store 5 (.t 2) (.t 57), []⟩] false)
  (.ret)))))
def Kj : IFn := ⟨1, 58, [.cell 2 5 true], false, Kj_c⟩
def Qeq : List Nat := [100021, 1, 2, 6]
def Q11m : IR :=
  .seq (.seq (.reg [o 31 (.mov (.t 6)),
        o 32 (.faddr 4 (.t 2)),
        o 33 (.load 1 false (.t 32)),
        o 34 (.len false (.t 33)),
        o 35 (.bin .lss (.t 31) (.t 34)),
        o 36 (.mov (.t 35)),
        ⟨(some 37), (some (36, true)), .mov (.t 1), []⟩,
        ⟨(some 38), (some (36, true)), .bin .geq (.t 37) (.c (.int .i64 0)), []⟩,
        o 39 (.pick (.t 36) (.t 38) (.c (.bool false)))] false)
      (.cond (.t 39) (.skip)
        (.exit 2)))
    (.seq (.block 3 (.reg [o 42 (.faddr 4 (.t 2)),
        ob 43 (.load 1 false (.t 42)) [0],
        o 44 (.mov (.t 6)),
        ob 45 (.iaddr 6 (.t 43) (.t 44)) [0, 1, 2],
        ob 46 (.faddr 1 (.t 45)) [0, 1, 2, 3],
        ob 47 (.load 5 true (.t 46)) (rg 0 5),
        o 48 (.mov (.t 1)),
        o 49 (.faddr 4 (.t 2)),
        ob 50 (.load 1 false (.t 49)) [7],
        o 51 (.mov (.t 6)),
        ob 52 (.iaddr 6 (.t 50) (.t 51)) [7, 8, 9],
        ob 53 (.faddr 0 (.t 52)) [7, 8, 9, 10],
        ob 54 (.load 1 false (.t 53)) (rg 7 12),
        ob 55 (.len true (.t 54)) (rg 7 13),
        ob 56 (.bin .sub (.t 48) (.t 55)) (rg 6 14),
        ob 57 (.call false (.f 37) [.t 47, .t 56]) (rg 0 15),
        ob 1 (.mov (.t 57)) (rg 0 16)] true))
    (.reg [o 40 (.mov (.t 6)),
    o 41 (.bin .add (.t 40) (.c (.int .i64 1))),
    o 6 (.mov (.t 41))] false))
def Qe8 : List Nat := [100020, 1, 2, 5]
def Q11w : IR :=
  .seq (.seq (.reg [o 13 (.mov (.t 5)),
        o 14 (.faddr 3 (.t 2)),
        o 15 (.load 1 false (.t 14)),
        o 16 (.len false (.t 15)),
        o 17 (.bin .lss (.t 13) (.t 16)),
        o 18 (.mov (.t 17)),
        ⟨(some 19), (some (18, true)), .mov (.t 1), []⟩,
        ⟨(some 20), (some (18, true)), .bin .geq (.t 19) (.c (.int .i64 0)), []⟩,
        o 21 (.pick (.t 18) (.t 20) (.c (.bool false)))] false)
      (.cond (.t 21) (.skip)
        (.exit 0)))
    (.seq (.block 1 (.reg [o 24 (.faddr 3 (.t 2)),
        o 25 (.load 1 false (.t 24)),
        o 26 (.mov (.t 5)),
        o 27 (.iaddr 5 (.t 25) (.t 26)),
        o 28 (.load 5 true (.t 27)),
        o 29 (.mov (.t 1)),
        o 30 (.call false (.f 37) [.t 28, .t 29]),
        o 1 (.mov (.t 30))] false))
    (.reg [o 22 (.mov (.t 5)),
    o 23 (.bin .add (.t 22) (.c (.int .i64 1))),
    o 5 (.mov (.t 23))] false))
def Q17f : IR :=
  .seq (.reg [o 2 (.box 5 (.t 0)),
    o 4 (.mov (.c (.int .i64 0)))] false)
  (.seq (.reg [o 7 (.mov (.t 1)),
    o 8 (.bin .sub (.t 7) (.c (.int .i64 1))),
    o 9 (.faddr 2 (.t 2)),
    o 10 (.load 1 false (.t 9)),
    o 11 (.len true (.t 10)),
    o 12 (.bin .sub (.t 8) (.t 11)),
    o 1 (.mov (.t 12))] false)
  (.seq (.seq (.reg [o 5 (.mov (.c (.int .i64 0)))] false)
    (.block 0 (.loop Qe8 Q11w)))
  (.seq (.seq (.reg [o 6 (.mov (.c (.int .i64 0)))] false)
    (.block 2 (.loop Qeq Q11m)))
  (.seq (.reg [o 58 (.mov (.t 1)),
    o 4 (.mov (.t 58))] false)
  (.ret)))))
def K10 : IFn := ⟨2, 59, [.tmp 4], false, Q17f⟩
def Qhc : List Nat := [100023, 1, 2, 6]
def Q13v : IR :=
  .seq (.seq (.reg [o 62 (.mov (.t 6)),
        o 63 (.faddr 4 (.t 2)),
        o 64 (.load 1 false (.t 63)),
        o 65 (.len false (.t 64)),
        o 66 (.bin .lss (.t 62) (.t 65))] false)
      (.cond (.t 66) (.skip)
        (.exit 2)))
    (.seq (.block 3 (.seq (.reg [o 69 (.faddr 4 (.t 2)),
          ob 70 (.load 1 false (.t 69)) [0],
          o 71 (.mov (.t 6)),
          ob 72 (.iaddr 6 (.t 70) (.t 71)) [0, 1, 2],
          ob 73 (.faddr 0 (.t 72)) [0, 1, 2, 3],
          ob 74 (.load 1 false (.t 73)) (rg 0 5),
          ob 75 (.call false (.f 52) [.t 74]) (rg 0 6),
          ob 76 (.un .not (.t 75)) (rg 0 7),
          ob 77 (.mov (.t 76)) (rg 0 8),
          ⟨(some 78), (some (77, false)), .mov (.t 6), (rg 0 9)⟩,
          ⟨(some 79), (some (77, false)), .bin .gtr (.t 78) (.c (.int .i64 0)), (rg 0 10)⟩,
          ⟨(some 80), (some (77, false)), .mov (.t 79), (rg 0 11)⟩,
          ⟨(some 81), (some (80, true)), .faddr 4 (.t 2), (rg 0 12)⟩,
          ⟨(some 82), (some (80, true)), .load 1 false (.t 81), (rg 0 13)⟩,
          ⟨(some 83), (some (80, true)), .mov (.t 6), (rg 0 12)⟩,
          ⟨(some 84), (some (80, true)), .iaddr 6 (.t 82) (.t 83), (rg 0 15)⟩,
          ⟨(some 85), (some (80, true)), .faddr 0 (.t 84), (rg 0 16)⟩,
          ⟨(some 86), (some (80, true)), .load 1 false (.t 85), (rg 0 17)⟩,
          ⟨(some 87), (some (80, true)), .faddr 4 (.t 2), (rg 0 12)⟩,
          ⟨(some 88), (some (80, true)), .load 1 false (.t 87), (rg 0 12 ++ [18])⟩,
          ⟨(some 89), (some (80, true)), .mov (.t 6), (rg 0 12)⟩,
          ⟨(some 90), (some (80, true)), .bin .sub (.t 89) (.c (.int .i64 1)), (rg 0 12 ++ [20])⟩,
          ⟨(some 91), (some (80, true)), .iaddr 6 (.t 88) (.t 90), (rg 0 12 ++ rg 18 22)⟩,
          ⟨(some 92), (some (80, true)), .faddr 0 (.t 91), (rg 0 12 ++ rg 18 23)⟩,
          ⟨(some 93), (some (80, true)), .load 1 false (.t 92), (rg 0 12 ++ rg 18 24)⟩,
          ⟨(some 94), (some (80, true)), .bin .leq (.t 86) (.t 93), (rg 0 25)⟩,
          ⟨(some 95), (some (77, false)), .pick (.t 80) (.t 94) (.c (.bool false)), (rg 0 26)⟩,
          ob 96 (.pick (.t 77) (.c (.bool true)) (.t 95)) (rg 0 27),
          ob 97 (.mov (.t 96)) (rg 0 28),
          ⟨(some 98), (some (97, false)), .faddr 4 (.t 2), (rg 0 29)⟩,
          ⟨(some 99), (some (97, false)), .load 1 false (.t 98), (rg 0 30)⟩,
          ⟨(some 100), (some (97, false)), .mov (.t 6), (rg 0 29)⟩,
          ⟨(some 101), (some (97, false)), .iaddr 6 (.t 99) (.t 100), (rg 0 32)⟩,
          ⟨(some 102), (some (97, false)), .faddr 1 (.t 101), (rg 0 33)⟩,
          ⟨(some 103), (some (97, false)), .load 5 true (.t 102), (rg 0 34)⟩,
          ⟨(some 104), (some (97, false)), .mov (.t 1), (rg 0 29)⟩,
          ⟨(some 105), (some (97, false)), .bin .sub (.t 104) (.c (.int .i64 1)), (rg 0 29 ++ [35])⟩,
          ⟨(some 106), (some (97, false)), .call false (.f 38) [.t 103, .t 105], (rg 0 37)⟩,
          ⟨(some 107), (some (97, false)), .un .not (.t 106), (rg 0 38)⟩,
          ob 108 (.pick (.t 97) (.c (.bool true)) (.t 107)) (rg 0 39)] true)
        (.cond (.t 108) (.seq (.reg [o 4 (.mov (.c (.bool false)))] false)
          (.ret))
          (.skip))))
    (.reg [o 67 (.mov (.t 6)),
    o 68 (.bin .add (.t 67) (.c (.int .i64 1))),
    o 6 (.mov (.t 68))] false))
def Qgz : List Nat := [100022, 1, 2, 5]
def Q13j : IR :=
  .seq (.seq (.reg [o 46 (.mov (.t 5)),
        o 47 (.faddr 3 (.t 2)),
        o 48 (.load 1 false (.t 47)),
        o 49 (.len false (.t 48)),
        o 50 (.bin .lss (.t 46) (.t 49))] false)
      (.cond (.t 50) (.skip)
        (.exit 0)))
    (.seq (.block 1 (.seq (.reg [o 53 (.faddr 3 (.t 2)),
          o 54 (.load 1 false (.t 53)),
          o 55 (.mov (.t 5)),
          o 56 (.iaddr 5 (.t 54) (.t 55)),
          o 57 (.load 5 true (.t 56)),
          o 58 (.mov (.t 1)),
          o 59 (.bin .sub (.t 58) (.c (.int .i64 1))),
          o 60 (.call false (.f 38) [.t 57, .t 59]),
          o 61 (.un .not (.t 60))] false)
        (.cond (.t 61) (.seq (.reg [o 4 (.mov (.c (.bool false)))] false)
          (.ret))
          (.skip))))
    (.reg [o 51 (.mov (.t 5)),
    o 52 (.bin .add (.t 51) (.c (.int .i64 1))),
    o 5 (.mov (.t 52))] false))
def Kx_c : IR :=
  .seq (.reg [o 2 (.box 5 (.t 0)),
    o 4 (.mov (.c (.bool false)))] false)
  (.seq (.seq (.reg [o 7 (.mov (.t 1)),
      o 8 (.bin .eql (.t 7) (.c (.int .i64 0))),
      o 9 (.mov (.t 8)),
      ⟨(some 10), (some (9, false)), .load 5 true (.t 2), []⟩,
      ⟨(some 11), (some (9, false)), .call false (.f 51) [.t 10], []⟩,
      ⟨(some 12), (some (9, false)), .un .not (.t 11), []⟩,
      o 13 (.pick (.t 9) (.c (.bool true)) (.t 12)),
      o 14 (.mov (.t 13)),
      ⟨(some 15), (some (14, false)), .faddr 3 (.t 2), []⟩,
      ⟨(some 16), (some (14, false)), .load 1 false (.t 15), []⟩,
      ⟨(some 17), (some (14, false)), .len false (.t 16), []⟩,
      ⟨(some 18), (some (14, false)), .bin .gtr (.t 17) (.c (.int .i64 64)), []⟩,
      o 19 (.pick (.t 14) (.c (.bool true)) (.t 18)),
      o 20 (.mov (.t 19)),
      ⟨(some 21), (some (20, false)), .faddr 4 (.t 2), []⟩,
      ⟨(some 22), (some (20, false)), .load 1 false (.t 21), []⟩,
      ⟨(some 23), (some (20, false)), .len false (.t 22), []⟩,
      ⟨(some 24), (some (20, false)), .bin .gtr (.t 23) (.c (.int .i64 64)), []⟩,
      o 25 (.pick (.t 20) (.c (.bool true)) (.t 24))] false)
    (.cond (.t 25) (.seq (.reg [o 4 (.mov (.c (.bool false)))] false)
      (.ret))
      (.skip)))
  (.seq (.seq (.reg [o 26 (.faddr 0 (.t 2)),
      o 27 (.load 1 false (.t 26)),
      o 28 (.bin .neq (.t 27) (.c (.int .i64 4))),
      o 29 (.mov (.t 28)),
      ⟨(some 30), (some (29, true)), .faddr 3 (.t 2), []⟩,
      ⟨(some 31), (some (29, true)), .load 1 false (.t 30), []⟩,
      ⟨(some 32), (some (29, true)), .len false (.t 31), []⟩,
      ⟨(some 33), (some (29, true)), .bin .gtr (.t 32) (.c (.int .i64 0)), []⟩,
      o 34 (.pick (.t 29) (.t 33) (.c (.bool false))),
      o 35 (.mov (.t 34)),
      ⟨(some 36), (some (35, false)), .faddr 0 (.t 2), []⟩,
      ⟨(some 37), (some (35, false)), .load 1 false (.t 36), []⟩,
      ⟨(some 38), (some (35, false)), .bin .neq (.t 37) (.c (.int .i64 5)), []⟩,
      ⟨(some 39), (some (35, false)), .mov (.t 38), []⟩,
      ⟨(some 40), (some (39, true)), .faddr 4 (.t 2), []⟩,
      ⟨(some 41), (some (39, true)), .load 1 false (.t 40), []⟩,
      ⟨(some 42), (some (39, true)), .len false (.t 41), []⟩,
      ⟨(some 43), (some (39, true)), .bin .gtr (.t 42) (.c (.int .i64 0)), []⟩,
      ⟨(some 44), (some (35, false)), .pick (.t 39) (.t 43) (.c (.bool false)), []⟩,
      o 45 (.pick (.t 35) (.c (.bool true)) (.t 44))] false)
    (.cond (.t 45) (.seq (.reg [o 4 (.mov (.c (.bool false)))] false)
      (.ret))
      (.skip)))
  (.seq (.seq (.reg [o 5 (.mov (.c (.int .i64 0)))] false)
    (.block 0 (.loop Qgz Q13j)))
  (.seq (.seq (.reg [o 6 (.mov (.c (.int .i64 0)))] false)
    (.block 2 (.loop Qhc Q13v)))
  (.seq (.reg [o 4 (.mov (.c (.bool true)))] false)
  (.ret))))))
def Kx : IFn := ⟨2, 109, [.tmp 4], false, Kx_c⟩
def Qhs : List Nat := [100025, 1, 3, 5]
def Q13k : IR :=
  .seq (.seq (.reg [o 21 (.mov (.t 5)),
        o 22 (.faddr 4 (.t 1)),
        o 23 (.load 1 false (.t 22)),
        o 24 (.len false (.t 23)),
        o 25 (.bin .lss (.t 21) (.t 24))] false)
      (.cond (.t 25) (.skip)
        (.exit 2)))
    (.seq (.block 3 (.reg [o 28 (.mov (.t 3)),
        o 29 (.faddr 4 (.t 1)),
        o 30 (.load 1 false (.t 29)),
        o 31 (.mov (.t 5)),
        o 32 (.iaddr 6 (.t 30) (.t 31)),
        o 33 (.faddr 1 (.t 32)),
        o 34 (.load 5 true (.t 33)),
        o 35 (.call false (.f 39) [.t 34]),
        o 36 (.bin .add (.t 28) (.t 35)),
        o 3 (.mov (.t 36))] false))
    (.reg [o 26 (.mov (.t 5)),
    o 27 (.bin .add (.t 26) (.c (.int .i64 1))),
    o 5 (.mov (.t 27))] false))
def Qhp : List Nat := [100024, 1, 3, 4]
def Q13u : IR :=
  .seq (.seq (.reg [o 6 (.mov (.t 4)),
        o 7 (.faddr 3 (.t 1)),
        o 8 (.load 1 false (.t 7)),
        o 9 (.len false (.t 8)),
        o 10 (.bin .lss (.t 6) (.t 9))] false)
      (.cond (.t 10) (.skip)
        (.exit 0)))
    (.seq (.block 1 (.reg [o 13 (.mov (.t 3)),
        o 14 (.faddr 3 (.t 1)),
        o 15 (.load 1 false (.t 14)),
        o 16 (.mov (.t 4)),
        o 17 (.iaddr 5 (.t 15) (.t 16)),
        o 18 (.load 5 true (.t 17)),
        o 19 (.call false (.f 39) [.t 18]),
        o 20 (.bin .add (.t 13) (.t 19)),
        o 3 (.mov (.t 20))] false))
    (.reg [o 11 (.mov (.t 4)),
    o 12 (.bin .add (.t 11) (.c (.int .i64 1))),
    o 4 (.mov (.t 12))] false))
def Kn_c : IR :=
  .seq (.reg [o 1 (.box 5 (.t 0)),
    o 2 (.mov (.c (.int .i64 0)))] false)
  (.seq (.reg [o 3 (.mov (.c (.int .i64 1)))] false)
  (.seq (.seq (.reg [o 4 (.mov (.c (.int .i64 0)))] false)
    (.block 0 (.loop Qhp Q13u)))
  (.seq (.seq (.reg [o 5 (.mov (.c (.int .i64 0)))] false)
    (.block 2 (.loop Qhs Q13k)))
  (.seq (.reg [o 37 (.mov (.t 3)),
    o 2 (.mov (.t 37))] false)
  (.ret)))))
def Kn : IFn := ⟨1, 38, [.tmp 2], false, Kn_c⟩
def Q16d : IR :=
  .seq (.reg [o 2 (.zero [.int .i64 0, .int .i64 0, .str ⟨#[]⟩, .ns 5, .ns 6])] false)
  (.seq (.reg [o 3 (.mov (.t 0)),
    o 4 (.build [.int .i64 0, .int .i64 0, .str ⟨#[]⟩, .ns 5, .ns 6] [(0, 1, .c (.int .i64 4)), (3, 1, .t 3)]),
    o 5 (.call false (.f 45) [.t 4]),
    ⟨none, none, .store 5 (.t 2) (.t 5), []⟩] false)
  (.ret))
def K1l : IFn := ⟨1, 6, [.cell 2 5 true], false, Q16d⟩
def Q17o : IR :=
  .reg [o 4 (.mov (.t 0)),
  o 5 (.mov (.t 0)),
  o 6 (.len false (.t 5)),
  o 7 (.mov (.t 1)),
  o 8 (.call true (.f 53) [.t 4, .t 6, .t 7])] false
def K1a : IFn := ⟨2, 9, [], false, Q17o⟩
def Q16z : IR :=
  .seq (.reg [o 2 (.box 6 (.t 0)),
    o 3 (.box 6 (.t 1)),
    o 4 (.mov (.c (.int .i64 0)))] false)
  (.seq (.reg [o 5 (.faddr 0 (.t 2)),
    o 6 (.load 1 false (.t 5)),
    o 7 (.faddr 0 (.t 3)),
    o 8 (.load 1 false (.t 7)),
    o 9 (.call false (.f 44) [.t 6, .t 8]),
    o 4 (.mov (.t 9))] false)
  (.ret))
def K1n : IFn := ⟨2, 10, [.tmp 4], false, Q16z⟩
def Q163 : IR :=
  .seq (.reg [o 4 (.mov (.c (.int .i64 0)))] false)
  (.seq (.reg [o 5 (.mov (.t 0)),
    o 6 (.mov (.t 1)),
    o 7 (.call false (.f 54) [.t 5, .t 6]),
    o 4 (.mov (.t 7))] false)
  (.ret))
def K1g : IFn := ⟨2, 8, [.tmp 4], false, Q163⟩
def Qba : List Nat := [100027, 1, 2, 31, 32, 33]
def Q122 : IR :=
  .seq (.reg [o 34 (.bin .lss (.t 33) (.t 32))] false)
    (.seq (.cond (.t 34) (.skip)
        (.exit 2))
    (.seq (.block 3 (.seq (.reg [o 35 (.mov (.t 33)),
          o 36 (.iaddr 6 (.t 31) (.t 33)),
          o 37 (.load 6 true (.t 36)),
          o 6 (.zero [.str ⟨#[]⟩, .int .i64 0, .int .i64 0, .str ⟨#[]⟩, .ns 5, .ns 6]),
          o 5 (.mov (.t 35)),
          ⟨none, none, .store 6 (.t 6) (.t 37), []⟩] false)
        (.reg [o 38 (.faddr 4 (.t 1)),
        ob 39 (.load 1 false (.t 38)) [0],
        o 40 (.mov (.t 5)),
        o 41 (.faddr 1 (.t 6)),
        ob 42 (.load 5 true (.t 41)) [3],
        ob 43 (.call false (.f 45) [.t 42]) [3, 4],
        ob 44 (.iaddr 6 (.t 39) (.t 40)) (rg 0 6),
        ob 45 (.faddr 1 (.t 44)) (rg 0 7),
        ⟨none, none, .store 5 (.t 45) (.t 43), (rg 0 8)⟩] true)))
    (.reg [o 46 (.bin .add (.t 33) (.c (.int .i64 1))),
    o 33 (.mov (.t 46))] false)))
def Qdy : List Nat := [100026, 1, 2, 12, 13, 14]
def Q120 : IR :=
  .seq (.reg [o 15 (.bin .lss (.t 14) (.t 13))] false)
    (.seq (.cond (.t 15) (.skip)
        (.exit 0))
    (.seq (.block 1 (.seq (.reg [o 16 (.mov (.t 14)),
          o 17 (.iaddr 5 (.t 12) (.t 14)),
          o 18 (.load 5 true (.t 17)),
          o 4 (.zero [.int .i64 0, .int .i64 0, .str ⟨#[]⟩, .ns 5, .ns 6]),
          o 3 (.mov (.t 16)),
          ⟨none, none, .store 5 (.t 4) (.t 18), []⟩] false)
        (.reg [o 19 (.faddr 3 (.t 1)),
        ob 20 (.load 1 false (.t 19)) [0],
        o 21 (.mov (.t 3)),
        o 22 (.load 5 true (.t 4)),
        ob 23 (.call false (.f 45) [.t 22]) [3],
        ob 24 (.iaddr 5 (.t 20) (.t 21)) (rg 0 5),
        ⟨none, none, .store 5 (.t 24) (.t 23), (rg 0 6)⟩] true)))
    (.reg [o 25 (.bin .add (.t 14) (.c (.int .i64 1))),
    o 14 (.mov (.t 25))] false)))
def Q160 : IR :=
  .seq (.reg [o 1 (.box 5 (.t 0)),
    o 2 (.zero [.int .i64 0, .int .i64 0, .str ⟨#[]⟩, .ns 5, .ns 6])] false)
  (.seq (.reg [o 7 (.faddr 3 (.t 1)),
    o 8 (.load 1 false (.t 7)),
    o 9 (.call false (.f 55) [.t 8]),
    o 10 (.faddr 3 (.t 1)),
    ⟨none, none, .store 1 (.t 10) (.t 9), []⟩] false)
  (.seq (.seq (.reg [o 11 (.faddr 3 (.t 1)),
      o 12 (.load 1 false (.t 11)),
      o 13 (.len false (.t 12)),
      o 14 (.mov (.c (.int .i64 0)))] false)
    (.block 0 (.loop Qdy Q120)))
  (.seq (.reg [o 26 (.faddr 4 (.t 1)),
    o 27 (.load 1 false (.t 26)),
    o 28 (.call false (.f 41) [.t 27]),
    o 29 (.faddr 4 (.t 1)),
    ⟨none, none, .store 1 (.t 29) (.t 28), []⟩] false)
  (.seq (.seq (.reg [o 30 (.faddr 4 (.t 1)),
      o 31 (.load 1 false (.t 30)),
      o 32 (.len false (.t 31)),
      o 33 (.mov (.c (.int .i64 0)))] false)
    (.block 2 (.loop Qba Q122)))
  (.seq (.reg [o 47 (.load 5 true (.t 1)),
    ⟨none, none, .store 5 (.t 2) (.t 47), []⟩] false)
  (.ret))))))
def K1r : IFn := ⟨1, 48, [.cell 2 5 true], false, Q160⟩
def Q171 : IR :=
  .seq (.reg [o 2 (.box 5 (.t 0)),
    o 3 (.box 1 (.t 1)),
    o 4 (.mov (.c (.ns 6)))] false)
  (.seq (.seq (.reg [o 5 (.faddr 0 (.t 2)),
      o 6 (.load 1 false (.t 5)),
      o 7 (.bin .neq (.t 6) (.c (.int .i64 5)))] false)
    (.cond (.t 7) (.seq (.reg [o 4 (.mov (.c (.ns 6)))] false)
      (.ret))
      (.skip)))
  (.seq (.reg [o 8 (.faddr 4 (.t 2)),
    o 9 (.load 1 false (.t 8)),
    o 10 (.call false (.f 41) [.t 9]),
    o 11 (.mkfn 57 [] [.t 3]),
    o 12 (.call true (.f 56) [.t 10, .t 11]),
    o 4 (.mov (.t 12))] false)
  (.ret)))
def K1s : IFn := ⟨2, 13, [.tmp 4], true, Q171⟩
def Q172 : IR :=
  .seq (.reg [o 2 (.box 5 (.t 0)),
    o 3 (.box 5 (.t 1)),
    o 4 (.mov (.c (.int .i64 0)))] false)
  (.seq (.reg [o 5 (.faddr 0 (.t 2)),
    ob 6 (.load 1 false (.t 5)) [0],
    o 7 (.faddr 0 (.t 3)),
    ob 8 (.load 1 false (.t 7)) [2],
    ob 9 (.call false (.f 60) [.t 6, .t 8]) [0, 1, 2, 3],
    o 10 (.faddr 1 (.t 2)),
    ob 11 (.load 1 false (.t 10)) [5],
    o 12 (.faddr 1 (.t 3)),
    ob 13 (.load 1 false (.t 12)) [7],
    ob 14 (.call false (.f 60) [.t 11, .t 13]) (rg 0 9),
    o 15 (.faddr 2 (.t 2)),
    ob 16 (.load 1 false (.t 15)) [10],
    o 17 (.faddr 2 (.t 3)),
    ob 18 (.load 1 false (.t 17)) [12],
    ob 19 (.call false (.f 44) [.t 16, .t 18]) (rg 0 14),
    o 20 (.faddr 3 (.t 2)),
    ob 21 (.load 1 false (.t 20)) [15],
    o 22 (.faddr 3 (.t 3)),
    ob 23 (.load 1 false (.t 22)) [17],
    ob 24 (.call false (.f 61) [.t 21, .t 23, .f 49]) (rg 0 19),
    o 25 (.faddr 4 (.t 2)),
    ob 26 (.load 1 false (.t 25)) [20],
    o 27 (.faddr 4 (.t 3)),
    ob 28 (.load 1 false (.t 27)) [22],
    ob 29 (.call false (.f 62) [.t 26, .t 28, .f 63]) (rg 0 24),
    ob 30 (.lit 1 5 [.int .i64 0] [(0, .t 9), (1, .t 14), (2, .t 19), (3, .t 24), (4, .t 29)]) (rg 0 25),
    ob 31 (.call false (.f 59) [.t 30]) (rg 0 26),
    ob 4 (.mov (.t 31)) (rg 0 27)] true)
  (.ret))
def K1h : IFn := ⟨2, 32, [.tmp 4], false, Q172⟩
def Kw_c : IR :=
  .seq (.reg [o 1 (.box 5 (.t 0)),
    o 2 (.mov (.c (.bool false)))] false)
  (.seq (.seq (.reg [o 3 (.faddr 0 (.t 1)),
      o 4 (.load 1 false (.t 3))] false)
    (.block 0 (.seq (.reg [o 6 (.bin .eql (.t 4) (.c (.int .i64 1))),
        o 5 (.mov (.t 6))] false)
      (.cond (.t 5) (.seq (.reg [o 7 (.faddr 1 (.t 1)),
          o 8 (.load 1 false (.t 7)),
          o 9 (.bin .eql (.t 8) (.c (.int .i64 0))),
          o 10 (.mov (.t 9)),
          ⟨(some 11), (some (10, false)), .faddr 1 (.t 1), []⟩,
          ⟨(some 12), (some (10, false)), .load 1 false (.t 11), []⟩,
          ⟨(some 13), (some (10, false)), .bin .eql (.t 12) (.c (.int .i64 1)), []⟩,
          o 14 (.pick (.t 10) (.c (.bool true)) (.t 13)),
          o 15 (.mov (.t 14)),
          ⟨(some 16), (some (15, true)), .faddr 2 (.t 1), []⟩,
          ⟨(some 17), (some (15, true)), .load 1 false (.t 16), []⟩,
          ⟨(some 18), (some (15, true)), .bin .eql (.t 17) (.c (.str ⟨#[]⟩)), []⟩,
          o 19 (.pick (.t 15) (.t 18) (.c (.bool false))),
          o 2 (.mov (.t 19))] false)
        (.ret))
        (.seq (.reg [o 21 (.bin .eql (.t 4) (.c (.int .i64 2))),
          o 20 (.mov (.t 21))] false)
        (.cond (.t 20) (.seq (.reg [o 22 (.faddr 1 (.t 1)),
            o 23 (.load 1 false (.t 22)),
            o 24 (.bin .geq (.t 23) (.c (.int .i64 (-1000000000000000)))),
            o 25 (.mov (.t 24)),
            ⟨(some 26), (some (25, true)), .faddr 1 (.t 1), []⟩,
            ⟨(some 27), (some (25, true)), .load 1 false (.t 26), []⟩,
            ⟨(some 28), (some (25, true)), .bin .leq (.t 27) (.c (.int .i64 1000000000000000)), []⟩,
            o 29 (.pick (.t 25) (.t 28) (.c (.bool false))),
            o 30 (.mov (.t 29)),
            ⟨(some 31), (some (30, true)), .faddr 2 (.t 1), []⟩,
            ⟨(some 32), (some (30, true)), .load 1 false (.t 31), []⟩,
            ⟨(some 33), (some (30, true)), .bin .eql (.t 32) (.c (.str ⟨#[]⟩)), []⟩,
            o 34 (.pick (.t 30) (.t 33) (.c (.bool false))),
            o 2 (.mov (.t 34))] false)
          (.ret))
          (.seq (.reg [o 36 (.bin .eql (.t 4) (.c (.int .i64 3))),
            o 35 (.mov (.t 36))] false)
          (.cond (.t 35) (.seq (.reg [o 37 (.faddr 1 (.t 1)),
              o 38 (.load 1 false (.t 37)),
              o 39 (.bin .eql (.t 38) (.c (.int .i64 0))),
              o 40 (.mov (.t 39)),
              ⟨(some 41), (some (40, true)), .faddr 2 (.t 1), []⟩,
              ⟨(some 42), (some (40, true)), .load 1 false (.t 41), []⟩,
              ⟨(some 43), (some (40, true)), .call false (.f 65) [.t 42], []⟩,
              o 44 (.pick (.t 40) (.t 43) (.c (.bool false))),
              o 2 (.mov (.t 44))] false)
            (.ret))
            (.seq (.seq (.reg [o 46 (.bin .eql (.t 4) (.c (.int .i64 0))),
                o 45 (.mov (.t 46))] false)
              (.cond (.t 45) (.skip)
                (.seq (.reg [o 47 (.bin .eql (.t 4) (.c (.int .i64 4))),
                  o 45 (.mov (.t 47))] false)
                (.cond (.t 45) (.skip)
                  (.reg [o 48 (.bin .eql (.t 4) (.c (.int .i64 5))),
                  o 45 (.mov (.t 48))] false)))))
            (.cond (.t 45) (.seq (.reg [o 49 (.faddr 1 (.t 1)),
                o 50 (.load 1 false (.t 49)),
                o 51 (.bin .eql (.t 50) (.c (.int .i64 0))),
                o 52 (.mov (.t 51)),
                ⟨(some 53), (some (52, true)), .faddr 2 (.t 1), []⟩,
                ⟨(some 54), (some (52, true)), .load 1 false (.t 53), []⟩,
                ⟨(some 55), (some (52, true)), .bin .eql (.t 54) (.c (.str ⟨#[]⟩)), []⟩,
                o 56 (.pick (.t 52) (.t 55) (.c (.bool false))),
                o 2 (.mov (.t 56))] false)
              (.ret))
              (.skip)))))))))))
  (.seq (.reg [o 2 (.mov (.c (.bool false)))] false)
  (.ret)))
def Kw : IFn := ⟨1, 57, [.tmp 2], false, Kw_c⟩
def Qiq : List Nat := [100032, 0, 3]
def Q145 : IR :=
  .seq (.seq (.reg [o 6 (.mov (.t 3)),
        o 7 (.mov (.t 0)),
        o 8 (.len true (.t 7)),
        o 9 (.bin .lss (.t 6) (.t 8))] false)
      (.cond (.t 9) (.skip)
        (.exit 0)))
    (.seq (.block 1 (.seq (.reg [o 12 (.mov (.t 0)),
          o 13 (.mov (.t 3)),
          o 14 (.index (.t 12) (.t 13)),
          o 4 (.mov (.t 14))] false)
        (.seq (.reg [o 15 (.mov (.t 4)),
          o 16 (.bin .geq (.t 15) (.c (.int .u8 97))),
          o 17 (.mov (.t 16)),
          ⟨(some 18), (some (17, true)), .mov (.t 4), []⟩,
          ⟨(some 19), (some (17, true)), .bin .leq (.t 18) (.c (.int .u8 122)), []⟩,
          o 20 (.pick (.t 17) (.t 19) (.c (.bool false))),
          o 21 (.mov (.t 20)),
          ⟨(some 22), (some (21, false)), .mov (.t 4), []⟩,
          ⟨(some 23), (some (21, false)), .bin .geq (.t 22) (.c (.int .u8 65)), []⟩,
          ⟨(some 24), (some (21, false)), .mov (.t 23), []⟩,
          ⟨(some 25), (some (24, true)), .mov (.t 4), []⟩,
          ⟨(some 26), (some (24, true)), .bin .leq (.t 25) (.c (.int .u8 90)), []⟩,
          ⟨(some 27), (some (21, false)), .pick (.t 24) (.t 26) (.c (.bool false)), []⟩,
          o 28 (.pick (.t 21) (.c (.bool true)) (.t 27)),
          o 5 (.mov (.t 28))] false)
        (.seq (.reg [o 29 (.mov (.t 5)),
          o 30 (.un .not (.t 29)),
          o 31 (.mov (.t 30)),
          ⟨(some 32), (some (31, true)), .mov (.t 4), []⟩,
          ⟨(some 33), (some (31, true)), .bin .geq (.t 32) (.c (.int .u8 48)), []⟩,
          ⟨(some 34), (some (31, true)), .mov (.t 33), []⟩,
          ⟨(some 35), (some (34, true)), .mov (.t 4), []⟩,
          ⟨(some 36), (some (34, true)), .bin .leq (.t 35) (.c (.int .u8 57)), []⟩,
          ⟨(some 37), (some (31, true)), .pick (.t 34) (.t 36) (.c (.bool false)), []⟩,
          ⟨(some 38), (some (31, true)), .un .not (.t 37), []⟩,
          o 39 (.pick (.t 31) (.t 38) (.c (.bool false))),
          o 40 (.mov (.t 39)),
          ⟨(some 41), (some (40, true)), .mov (.t 4), []⟩,
          ⟨(some 42), (some (40, true)), .bin .neq (.t 41) (.c (.int .u8 45)), []⟩,
          o 43 (.pick (.t 40) (.t 42) (.c (.bool false))),
          o 44 (.mov (.t 43)),
          ⟨(some 45), (some (44, true)), .mov (.t 4), []⟩,
          ⟨(some 46), (some (44, true)), .bin .neq (.t 45) (.c (.int .u8 95)), []⟩,
          o 47 (.pick (.t 44) (.t 46) (.c (.bool false))),
          o 48 (.mov (.t 47)),
          ⟨(some 49), (some (48, true)), .mov (.t 4), []⟩,
          ⟨(some 50), (some (48, true)), .bin .neq (.t 49) (.c (.int .u8 47)), []⟩,
          o 51 (.pick (.t 48) (.t 50) (.c (.bool false)))] false)
        (.cond (.t 51) (.seq (.reg [o 2 (.mov (.c (.bool false)))] false)
          (.ret))
          (.skip))))))
    (.reg [o 10 (.mov (.t 3)),
    o 11 (.bin .add (.t 10) (.c (.int .i64 1))),
    o 3 (.mov (.t 11))] false))
def Kp_c : IR :=
  .seq (.reg [o 2 (.mov (.c (.bool false)))] false)
  (.seq (.seq (.reg [o 3 (.mov (.c (.int .i64 0)))] false)
    (.block 0 (.loop Qiq Q145)))
  (.seq (.reg [o 52 (.mov (.t 0)),
    o 53 (.len true (.t 52)),
    o 54 (.bin .geq (.t 53) (.c (.int .i64 1))),
    o 55 (.mov (.t 54)),
    ⟨(some 56), (some (55, true)), .mov (.t 0), []⟩,
    ⟨(some 57), (some (55, true)), .len true (.t 56), []⟩,
    ⟨(some 58), (some (55, true)), .bin .leq (.t 57) (.c (.int .i64 40)), []⟩,
    o 59 (.pick (.t 55) (.t 58) (.c (.bool false))),
    o 2 (.mov (.t 59))] false)
  (.ret)))
def Kp : IFn := ⟨1, 60, [.tmp 2], false, Kp_c⟩
def Qd0 : List Nat := [100035, 0, 1, 2, 6, 7, 8]
def Q11a : IR :=
  .seq (.seq (.reg [o 33 (.mov (.t 8)),
        o 34 (.mov (.t 1)),
        o 35 (.bin .leq (.t 33) (.t 34))] false)
      (.cond (.t 35) (.skip)
        (.exit 4)))
    (.block 5 (.seq (.reg [o 36 (.mov (.t 0)),
        o 37 (.mov (.t 7)),
        o 38 (.mov (.t 7)),
        o 39 (.mov (.t 6)),
        o 40 (.bin .add (.t 38) (.t 39)),
        o 41 (.mov (.t 8)),
        o 42 (.mov (.t 2)),
        o 43 (.call true (.f 67) [.t 36, .t 37, .t 40, .t 41, .t 42])] false)
      (.seq (.reg [o 44 (.mov (.t 8)),
        o 7 (.mov (.t 44))] false)
      (.reg [o 45 (.mov (.t 8)),
      o 46 (.mov (.t 6)),
      o 47 (.bin .mul (.c (.int .i64 2)) (.t 46)),
      o 48 (.bin .add (.t 45) (.t 47)),
      o 8 (.mov (.t 48))] false))))
def Qd2 : List Nat := [100034, 0, 1, 2, 6]
def Q11k : IR :=
  .seq (.seq (.reg [o 28 (.mov (.t 6)),
        o 29 (.mov (.t 1)),
        o 30 (.bin .lss (.t 28) (.t 29))] false)
      (.cond (.t 30) (.skip)
        (.exit 2)))
    (.block 3 (.seq (.reg [o 31 (.mov (.t 6)),
        o 32 (.bin .mul (.c (.int .i64 2)) (.t 31)),
        o 7 (.mov (.c (.int .i64 0))),
        o 8 (.mov (.t 32))] false)
      (.seq (.block 4 (.loop Qd0 Q11a))
      (.seq (.seq (.reg [o 49 (.mov (.t 7)),
          o 50 (.mov (.t 6)),
          o 51 (.bin .add (.t 49) (.t 50)),
          o 9 (.mov (.t 51))] false)
        (.seq (.reg [o 52 (.mov (.t 9)),
          o 53 (.mov (.t 1)),
          o 54 (.bin .lss (.t 52) (.t 53))] false)
        (.cond (.t 54) (.reg [o 55 (.mov (.t 0)),
          o 56 (.mov (.t 7)),
          o 57 (.mov (.t 9)),
          o 58 (.mov (.t 1)),
          o 59 (.mov (.t 2)),
          o 60 (.call true (.f 67) [.t 55, .t 56, .t 57, .t 58, .t 59])] false)
          (.skip))))
      (.reg [o 61 (.mov (.t 6)),
      o 62 (.bin .mul (.t 61) (.c (.int .i64 2))),
      o 6 (.mov (.t 62))] false)))))
def Qd1 : List Nat := [100033, 0, 1, 2, 6, 7, 8]
def Q11z : IR :=
  .seq (.seq (.reg [o 11 (.mov (.t 8)),
        o 12 (.mov (.t 1)),
        o 13 (.bin .leq (.t 11) (.t 12))] false)
      (.cond (.t 13) (.skip)
        (.exit 0)))
    (.block 1 (.seq (.reg [o 14 (.mov (.t 0)),
        o 15 (.mov (.t 7)),
        o 16 (.mov (.t 8)),
        o 17 (.mov (.t 2)),
        o 18 (.call true (.f 66) [.t 14, .t 15, .t 16, .t 17])] false)
      (.seq (.reg [o 19 (.mov (.t 8)),
        o 7 (.mov (.t 19))] false)
      (.reg [o 20 (.mov (.t 8)),
      o 21 (.mov (.t 6)),
      o 22 (.bin .add (.t 20) (.t 21)),
      o 8 (.mov (.t 22))] false))))
def Q17e : IR :=
  .seq (.reg [o 6 (.mov (.c (.int .i64 20)))] false)
  (.seq (.reg [o 10 (.mov (.t 6)),
    o 7 (.mov (.c (.int .i64 0))),
    o 8 (.mov (.t 10))] false)
  (.seq (.block 0 (.loop Qd1 Q11z))
  (.seq (.reg [o 23 (.mov (.t 0)),
    o 24 (.mov (.t 7)),
    o 25 (.mov (.t 1)),
    o 26 (.mov (.t 2)),
    o 27 (.call true (.f 66) [.t 23, .t 24, .t 25, .t 26])] false)
  (.block 2 (.loop Qd2 Q11k)))))
def K1d : IFn := ⟨3, 63, [], false, Q17e⟩
def Qbk : List Nat := [100036, 0, 1, 5, 6]
def Q11o : IR :=
  .seq (.seq (.reg [o 16 (.mov (.t 6)),
        o 17 (.mov (.t 0)),
        o 18 (.len false (.t 17)),
        o 19 (.bin .lss (.t 16) (.t 18))] false)
      (.cond (.t 19) (.skip)
        (.exit 0)))
    (.seq (.block 1 (.seq (.reg [o 22 (.mov (.t 0)),
          o 23 (.mov (.t 6)),
          o 24 (.iaddr 6 (.t 22) (.t 23)),
          o 25 (.load 6 true (.t 24)),
          o 7 (.zero [.str ⟨#[]⟩, .int .i64 0, .int .i64 0, .str ⟨#[]⟩, .ns 5, .ns 6]),
          ⟨none, none, .store 6 (.t 7) (.t 25), []⟩] false)
        (.seq (.reg [o 26 (.mov (.t 1)),
          o 27 (.load 6 true (.t 7)),
          o 28 (.call false (.t 26) [.t 27]),
          o 29 (.un .not (.t 28))] false)
        (.cond (.t 29) (.seq (.reg [o 30 (.mov (.t 0)),
            o 31 (.mov (.t 5)),
            o 32 (.load 6 true (.t 7)),
            o 33 (.iaddr 6 (.t 30) (.t 31)),
            ⟨none, none, .store 6 (.t 33) (.t 32), []⟩] false)
          (.reg [o 34 (.mov (.t 5)),
          o 35 (.bin .add (.t 34) (.c (.int .i64 1))),
          o 5 (.mov (.t 35))] false))
          (.skip)))))
    (.reg [o 20 (.mov (.t 6)),
    o 21 (.bin .add (.t 20) (.c (.int .i64 1))),
    o 6 (.mov (.t 21))] false))
def Q169 : IR :=
  .seq (.reg [o 4 (.mov (.c (.ns 6)))] false)
  (.seq (.reg [o 8 (.mov (.t 0)),
    o 9 (.mov (.t 1)),
    o 10 (.call false (.f 69) [.t 8, .t 9]),
    o 5 (.mov (.t 10))] false)
  (.seq (.seq (.reg [o 11 (.mov (.t 5)),
      o 12 (.bin .eql (.t 11) (.c (.int .i64 (-1))))] false)
    (.cond (.t 12) (.seq (.reg [o 13 (.mov (.t 0)),
        o 4 (.mov (.t 13))] false)
      (.ret))
      (.skip)))
  (.seq (.seq (.reg [o 14 (.mov (.t 5)),
      o 15 (.bin .add (.t 14) (.c (.int .i64 1))),
      o 6 (.mov (.t 15))] false)
    (.block 0 (.loop Qbk Q11o)))
  (.seq (.reg [o 36 (.mov (.t 0)),
    o 37 (.mov (.t 5)),
    o 38 (.slice 6 (.t 36) (some (.t 37)) none none),
    ⟨none, none, .clear 6 [.str ⟨#[]⟩, .int .i64 0, .int .i64 0, .str ⟨#[]⟩, .ns 5, .ns 6] (.t 38), []⟩] false)
  (.seq (.reg [o 39 (.mov (.t 0)),
    o 40 (.mov (.t 5)),
    o 41 (.slice 6 (.t 39) none (some (.t 40)) none),
    o 4 (.mov (.t 41))] false)
  (.ret))))))
def K18 : IFn := ⟨2, 42, [.tmp 4], true, Q169⟩
def Q164 : IR :=
  .seq (.reg [o 2 (.box 6 (.t 0)),
    o 3 (.mov (.c (.bool false)))] false)
  (.seq (.reg [o 4 (.faddr 0 (.t 2)),
    o 5 (.load 1 false (.t 4)),
    o 6 (.load 1 false (.t 1)),
    o 7 (.bin .eql (.t 5) (.t 6)),
    o 3 (.mov (.t 7))] false)
  (.ret))
def K1t : IFn := ⟨2, 8, [.tmp 3], false, Q164⟩
def Qte : List Nat := [100038, 3, 6, 7, 8]
def Q17q : IR :=
  .seq (.reg [o 9 (.bin .lss (.t 8) (.t 7))] false)
    (.seq (.cond (.t 9) (.skip)
        (.exit 0))
    (.seq (.block 1 (.seq (.reg [o 10 (.iaddr 1 (.t 6) (.t 8)),
          o 11 (.load 1 false (.t 10)),
          o 5 (.mov (.t 11))] false)
        (.seq (.reg [o 12 (.mov (.t 5)),
          o 13 (.mov (.t 3)),
          o 14 (.bin .neq (.t 12) (.t 13))] false)
        (.cond (.t 14) (.seq (.reg [o 15 (.mov (.t 5)),
            o 2 (.mov (.t 15))] false)
          (.ret))
          (.skip)))))
    (.reg [o 16 (.bin .add (.t 8) (.c (.int .i64 1))),
    o 8 (.mov (.t 16))] false)))
def K1_c : IR :=
  .seq (.reg [o 2 (.mov (.c (.int .i64 0)))] false)
  (.seq (.reg [o 3 (.mov (.c (.int .i64 0)))] false)
  (.seq (.seq (.reg [o 6 (.mov (.t 0)),
      o 7 (.len false (.t 6)),
      o 8 (.mov (.c (.int .i64 0)))] false)
    (.block 0 (.loop Qte Q17q)))
  (.seq (.reg [o 17 (.mov (.t 3)),
    o 2 (.mov (.t 17))] false)
  (.ret))))
def K1 : IFn := ⟨1, 18, [.tmp 2], false, K1_c⟩
def K0_c : IR :=
  .seq (.reg [o 4 (.mov (.c (.int .i64 0)))] false)
  (.seq (.reg [o 7 (.mov (.t 0)),
    o 8 (.call false (.f 70) [.t 7]),
    o 5 (.mov (.t 8))] false)
  (.seq (.reg [o 9 (.mov (.t 1)),
    o 10 (.call false (.f 70) [.t 9]),
    o 6 (.mov (.t 10))] false)
  (.seq (.seq (.reg [o 11 (.mov (.t 5))] false)
    (.cond (.t 11) (.seq (.seq (.reg [o 12 (.mov (.t 6))] false)
        (.cond (.t 12) (.seq (.reg [o 4 (.mov (.c (.int .i64 0)))] false)
          (.ret))
          (.skip)))
      (.seq (.reg [o 4 (.mov (.c (.int .i64 (-1))))] false)
      (.ret)))
      (.skip)))
  (.seq (.seq (.reg [o 13 (.mov (.t 6))] false)
    (.cond (.t 13) (.seq (.reg [o 4 (.mov (.c (.int .i64 1)))] false)
      (.ret))
      (.skip)))
  (.seq (.seq (.reg [o 14 (.mov (.t 0)),
      o 15 (.mov (.t 1)),
      o 16 (.bin .lss (.t 14) (.t 15))] false)
    (.cond (.t 16) (.seq (.reg [o 4 (.mov (.c (.int .i64 (-1))))] false)
      (.ret))
      (.skip)))
  (.seq (.seq (.reg [o 17 (.mov (.t 0)),
      o 18 (.mov (.t 1)),
      o 19 (.bin .gtr (.t 17) (.t 18))] false)
    (.cond (.t 19) (.seq (.reg [o 4 (.mov (.c (.int .i64 1)))] false)
      (.ret))
      (.skip)))
  (.seq (.reg [o 4 (.mov (.c (.int .i64 0)))] false)
  (.ret))))))))
def K0 : IFn := ⟨2, 20, [.tmp 4], false, K0_c⟩
def Qpl : List Nat := [100039, 0, 1, 2, 11, 12, 13]
def Q15q : IR :=
  .seq (.reg [o 14 (.bin .lss (.t 13) (.t 12))] false)
    (.seq (.cond (.t 14) (.skip)
        (.exit 0))
    (.seq (.block 1 (.seq (.reg [o 15 (.mov (.t 13)),
          o 16 (.iaddr 5 (.t 11) (.t 13)),
          o 17 (.load 5 true (.t 16)),
          o 8 (.zero [.int .i64 0, .int .i64 0, .str ⟨#[]⟩, .ns 5, .ns 6]),
          o 7 (.mov (.t 15)),
          ⟨none, none, .store 5 (.t 8) (.t 17), []⟩] false)
        (.seq (.seq (.reg [o 18 (.mov (.t 7)),
            o 19 (.mov (.t 1)),
            o 20 (.len false (.t 19)),
            o 21 (.bin .geq (.t 18) (.t 20))] false)
          (.cond (.t 21) (.seq (.reg [o 6 (.mov (.c (.int .i64 1)))] false)
            (.ret))
            (.skip)))
        (.seq (.reg [o 22 (.mov (.t 1)),
          o 23 (.mov (.t 7)),
          o 24 (.iaddr 5 (.t 22) (.t 23)),
          o 25 (.load 5 true (.t 24)),
          o 9 (.zero [.int .i64 0, .int .i64 0, .str ⟨#[]⟩, .ns 5, .ns 6]),
          ⟨none, none, .store 5 (.t 9) (.t 25), []⟩] false)
        (.seq (.reg [o 26 (.mov (.t 2)),
          o 27 (.load 5 true (.t 8)),
          o 28 (.load 5 true (.t 9)),
          o 29 (.call false (.t 26) [.t 27, .t 28]),
          o 10 (.mov (.t 29))] false)
        (.seq (.reg [o 30 (.mov (.t 10)),
          o 31 (.bin .neq (.t 30) (.c (.int .i64 0)))] false)
        (.cond (.t 31) (.seq (.reg [o 32 (.mov (.t 10)),
            o 6 (.mov (.t 32))] false)
          (.ret))
          (.skip))))))))
    (.reg [o 33 (.bin .add (.t 13) (.c (.int .i64 1))),
    o 13 (.mov (.t 33))] false)))
def Q17s : IR :=
  .seq (.reg [o 6 (.mov (.c (.int .i64 0)))] false)
  (.seq (.seq (.reg [o 11 (.mov (.t 0)),
      o 12 (.len false (.t 11)),
      o 13 (.mov (.c (.int .i64 0)))] false)
    (.block 0 (.loop Qpl Q15q)))
  (.seq (.seq (.reg [o 34 (.mov (.t 0)),
      o 35 (.len false (.t 34)),
      o 36 (.mov (.t 1)),
      o 37 (.len false (.t 36)),
      o 38 (.bin .lss (.t 35) (.t 37))] false)
    (.cond (.t 38) (.seq (.reg [o 6 (.mov (.c (.int .i64 (-1))))] false)
      (.ret))
      (.skip)))
  (.seq (.reg [o 6 (.mov (.c (.int .i64 0)))] false)
  (.ret))))
def K16 : IFn := ⟨3, 39, [.tmp 6], false, Q17s⟩
def Qq2 : List Nat := [100040, 0, 1, 2, 11, 12, 13]
def Q14g : IR :=
  .seq (.reg [o 14 (.bin .lss (.t 13) (.t 12))] false)
    (.seq (.cond (.t 14) (.skip)
        (.exit 0))
    (.seq (.block 1 (.seq (.reg [o 15 (.mov (.t 13)),
          o 16 (.iaddr 6 (.t 11) (.t 13)),
          o 17 (.load 6 true (.t 16)),
          o 8 (.zero [.str ⟨#[]⟩, .int .i64 0, .int .i64 0, .str ⟨#[]⟩, .ns 5, .ns 6]),
          o 7 (.mov (.t 15)),
          ⟨none, none, .store 6 (.t 8) (.t 17), []⟩] false)
        (.seq (.seq (.reg [o 18 (.mov (.t 7)),
            o 19 (.mov (.t 1)),
            o 20 (.len false (.t 19)),
            o 21 (.bin .geq (.t 18) (.t 20))] false)
          (.cond (.t 21) (.seq (.reg [o 6 (.mov (.c (.int .i64 1)))] false)
            (.ret))
            (.skip)))
        (.seq (.reg [o 22 (.mov (.t 1)),
          o 23 (.mov (.t 7)),
          o 24 (.iaddr 6 (.t 22) (.t 23)),
          o 25 (.load 6 true (.t 24)),
          o 9 (.zero [.str ⟨#[]⟩, .int .i64 0, .int .i64 0, .str ⟨#[]⟩, .ns 5, .ns 6]),
          ⟨none, none, .store 6 (.t 9) (.t 25), []⟩] false)
        (.seq (.reg [o 26 (.mov (.t 2)),
          o 27 (.load 6 true (.t 8)),
          o 28 (.load 6 true (.t 9)),
          o 29 (.call false (.t 26) [.t 27, .t 28]),
          o 10 (.mov (.t 29))] false)
        (.seq (.reg [o 30 (.mov (.t 10)),
          o 31 (.bin .neq (.t 30) (.c (.int .i64 0)))] false)
        (.cond (.t 31) (.seq (.reg [o 32 (.mov (.t 10)),
            o 6 (.mov (.t 32))] false)
          (.ret))
          (.skip))))))))
    (.reg [o 33 (.bin .add (.t 13) (.c (.int .i64 1))),
    o 13 (.mov (.t 33))] false)))
def Q17g : IR :=
  .seq (.reg [o 6 (.mov (.c (.int .i64 0)))] false)
  (.seq (.seq (.reg [o 11 (.mov (.t 0)),
      o 12 (.len false (.t 11)),
      o 13 (.mov (.c (.int .i64 0)))] false)
    (.block 0 (.loop Qq2 Q14g)))
  (.seq (.seq (.reg [o 34 (.mov (.t 0)),
      o 35 (.len false (.t 34)),
      o 36 (.mov (.t 1)),
      o 37 (.len false (.t 36)),
      o 38 (.bin .lss (.t 35) (.t 37))] false)
    (.cond (.t 38) (.seq (.reg [o 6 (.mov (.c (.int .i64 (-1))))] false)
      (.ret))
      (.skip)))
  (.seq (.reg [o 6 (.mov (.c (.int .i64 0)))] false)
  (.ret))))
def K17 : IFn := ⟨3, 39, [.tmp 6], false, Q17g⟩
def Q16p : IR :=
  .seq (.reg [o 2 (.box 6 (.t 0)),
    o 3 (.box 6 (.t 1)),
    o 4 (.mov (.c (.int .i64 0)))] false)
  (.seq (.reg [o 5 (.faddr 0 (.t 2)),
    ob 6 (.load 1 false (.t 5)) [0],
    o 7 (.faddr 0 (.t 3)),
    ob 8 (.load 1 false (.t 7)) [2],
    ob 9 (.call false (.f 44) [.t 6, .t 8]) [0, 1, 2, 3],
    o 10 (.faddr 1 (.t 2)),
    ob 11 (.load 5 true (.t 10)) [5],
    o 12 (.faddr 1 (.t 3)),
    ob 13 (.load 5 true (.t 12)) [7],
    ob 14 (.call false (.f 49) [.t 11, .t 13]) (rg 0 9),
    ob 15 (.lit 1 2 [.int .i64 0] [(0, .t 9), (1, .t 14)]) (rg 0 10),
    ob 16 (.call false (.f 59) [.t 15]) (rg 0 11),
    ob 4 (.mov (.t 16)) (rg 0 12)] true)
  (.ret))
def K1i : IFn := ⟨2, 17, [.tmp 4], false, Q16p⟩
def Qir : List Nat := [100041, 0, 3]
def Q14n : IR :=
  .seq (.seq (.reg [o 4 (.mov (.t 3)),
        o 5 (.mov (.t 0)),
        o 6 (.len true (.t 5)),
        o 7 (.bin .lss (.t 4) (.t 6))] false)
      (.cond (.t 7) (.skip)
        (.exit 0)))
    (.seq (.block 1 (.seq (.reg [o 10 (.mov (.t 0)),
          o 11 (.mov (.t 3)),
          o 12 (.index (.t 10) (.t 11)),
          o 13 (.bin .neq (.t 12) (.c (.int .u8 10))),
          o 14 (.mov (.t 13)),
          ⟨(some 15), (some (14, true)), .mov (.t 0), []⟩,
          ⟨(some 16), (some (14, true)), .mov (.t 3), []⟩,
          ⟨(some 17), (some (14, true)), .index (.t 15) (.t 16), []⟩,
          ⟨(some 18), (some (14, true)), .bin .lss (.t 17) (.c (.int .u8 32)), []⟩,
          ⟨(some 19), (some (14, true)), .mov (.t 18), []⟩,
          ⟨(some 20), (some (19, false)), .mov (.t 0), []⟩,
          ⟨(some 21), (some (19, false)), .mov (.t 3), []⟩,
          ⟨(some 22), (some (19, false)), .index (.t 20) (.t 21), []⟩,
          ⟨(some 23), (some (19, false)), .bin .gtr (.t 22) (.c (.int .u8 126)), []⟩,
          ⟨(some 24), (some (14, true)), .pick (.t 19) (.c (.bool true)) (.t 23), []⟩,
          o 25 (.pick (.t 14) (.t 24) (.c (.bool false)))] false)
        (.cond (.t 25) (.seq (.reg [o 2 (.mov (.c (.bool false)))] false)
          (.ret))
          (.skip))))
    (.reg [o 8 (.mov (.t 3)),
    o 9 (.bin .add (.t 8) (.c (.int .i64 1))),
    o 3 (.mov (.t 9))] false))
def Kq_c : IR :=
  .seq (.reg [o 2 (.mov (.c (.bool false)))] false)
  (.seq (.seq (.reg [o 3 (.mov (.c (.int .i64 0)))] false)
    (.block 0 (.loop Qir Q14n)))
  (.seq (.reg [o 26 (.mov (.t 0)),
    o 27 (.len true (.t 26)),
    o 28 (.bin .leq (.t 27) (.c (.int .i64 200))),
    o 2 (.mov (.t 28))] false)
  (.ret)))
def Kq : IFn := ⟨1, 29, [.tmp 2], false, Kq_c⟩
def Qct : List Nat := [100043, 0, 1, 2, 3, 8, 9]
def Q11y : IR :=
  .seq (.seq (.reg [o 18 (.mov (.t 9)),
        o 19 (.mov (.t 1)),
        ob 20 (.bin .gtr (.t 18) (.t 19)) [0, 1],
        ob 21 (.mov (.t 20)) [0, 1, 2],
        ⟨(some 22), (some (21, true)), .mov (.t 3), [0, 1, 2, 3]⟩,
        ⟨(some 23), (some (21, true)), .mov (.t 0), [0, 1, 2, 3]⟩,
        ⟨(some 24), (some (21, true)), .mov (.t 9), [0, 1, 2, 3]⟩,
        ⟨(some 25), (some (21, true)), .iaddr 6 (.t 23) (.t 24), (rg 0 4 ++ [5, 6])⟩,
        ⟨(some 26), (some (21, true)), .load 6 true (.t 25), (rg 0 4 ++ [5, 6, 7])⟩,
        ⟨(some 27), (some (21, true)), .mov (.t 0), [0, 1, 2, 3]⟩,
        ⟨(some 28), (some (21, true)), .mov (.t 9), [0, 1, 2, 3]⟩,
        ⟨(some 29), (some (21, true)), .bin .sub (.t 28) (.c (.int .i64 1)), (rg 0 4 ++ [10])⟩,
        ⟨(some 30), (some (21, true)), .iaddr 6 (.t 27) (.t 29), (rg 0 4 ++ [9, 10, 11])⟩,
        ⟨(some 31), (some (21, true)), .load 6 true (.t 30), (rg 0 4 ++ rg 9 13)⟩,
        ⟨(some 32), (some (21, true)), .call false (.t 22) [.t 26, .t 31], (rg 0 14)⟩,
        ⟨(some 33), (some (21, true)), .bin .lss (.t 32) (.c (.int .i64 0)), (rg 0 15)⟩,
        ob 34 (.pick (.t 21) (.t 33) (.c (.bool false))) (rg 0 16)] true)
      (.cond (.t 34) (.skip)
        (.exit 2)))
    (.seq (.block 3 (.reg [o 37 (.mov (.t 0)),
        o 38 (.mov (.t 9)),
        o 39 (.mov (.t 0)),
        o 40 (.mov (.t 9)),
        ob 41 (.bin .sub (.t 40) (.c (.int .i64 1))) [3],
        o 42 (.mov (.t 0)),
        o 43 (.mov (.t 9)),
        ob 44 (.bin .sub (.t 43) (.c (.int .i64 1))) [6],
        ob 45 (.iaddr 6 (.t 42) (.t 44)) [5, 6, 7],
        ob 46 (.load 6 true (.t 45)) [5, 6, 7, 8],
        o 47 (.mov (.t 0)),
        o 48 (.mov (.t 9)),
        ob 49 (.iaddr 6 (.t 47) (.t 48)) [10, 11],
        ob 50 (.load 6 true (.t 49)) [10, 11, 12],
        ob 51 (.iaddr 6 (.t 37) (.t 38)) ([0, 1] ++ rg 5 14),
        ⟨none, none, .store 6 (.t 51) (.t 46), ([0, 1] ++ rg 5 15)⟩,
        ob 52 (.iaddr 6 (.t 39) (.t 41)) (rg 0 16),
        ⟨none, none, .store 6 (.t 52) (.t 50), (rg 0 17)⟩] true))
    (.reg [o 35 (.mov (.t 9)),
    o 36 (.bin .sub (.t 35) (.c (.int .i64 1))),
    o 9 (.mov (.t 36))] false))
def Qek : List Nat := [100042, 0, 1, 2, 3, 8]
def Q11i : IR :=
  .seq (.seq (.reg [o 12 (.mov (.t 8)),
        o 13 (.mov (.t 2)),
        o 14 (.bin .lss (.t 12) (.t 13))] false)
      (.cond (.t 14) (.skip)
        (.exit 0)))
    (.seq (.block 1 (.seq (.reg [o 17 (.mov (.t 8)),
          o 9 (.mov (.t 17))] false)
        (.block 2 (.loop Qct Q11y))))
    (.reg [o 15 (.mov (.t 8)),
    o 16 (.bin .add (.t 15) (.c (.int .i64 1))),
    o 8 (.mov (.t 16))] false))
def Q16t : IR :=
  .seq (.reg [o 10 (.mov (.t 1)),
    o 11 (.bin .add (.t 10) (.c (.int .i64 1))),
    o 8 (.mov (.t 11))] false)
  (.block 0 (.loop Qek Q11i))
def K1b : IFn := ⟨4, 53, [], false, Q16t⟩
def Qf0 : List Nat := [100048, 0, 1, 2, 3, 4, 18, 19, 20, 21, 22]
def Q11s : IR :=
  .seq (.seq (.reg [o 149 (.mov (.t 20)),
        o 150 (.mov (.t 21)),
        o 151 (.bin .lss (.t 149) (.t 150))] false)
      (.cond (.t 151) (.skip)
        (.exit 8)))
    (.block 9 (.seq (.reg [o 152 (.mov (.t 20)),
        o 153 (.mov (.t 21)),
        o 154 (.bin .add (.t 152) (.t 153)),
        o 155 (.conv .u64 (.t 154)),
        o 156 (.bin .shr (.t 155) (.c (.int .u64 1))),
        o 157 (.conv .i64 (.t 156)),
        o 23 (.mov (.t 157))] false)
      (.seq (.reg [o 158 (.mov (.t 4)),
        o 159 (.mov (.t 0)),
        o 160 (.mov (.t 22)),
        o 161 (.mov (.t 23)),
        ob 162 (.bin .sub (.t 160) (.t 161)) [2, 3],
        ob 163 (.iaddr 6 (.t 159) (.t 162)) [1, 2, 3, 4],
        ob 164 (.load 6 true (.t 163)) (rg 1 6),
        o 165 (.mov (.t 0)),
        o 166 (.mov (.t 23)),
        ob 167 (.iaddr 6 (.t 165) (.t 166)) [7, 8],
        ob 168 (.load 6 true (.t 167)) [7, 8, 9],
        ob 169 (.call false (.t 158) [.t 164, .t 168]) (rg 0 11),
        ob 170 (.bin .lss (.t 169) (.c (.int .i64 0))) (rg 0 12),
        ob 171 (.un .not (.t 170)) (rg 0 13)] true)
      (.cond (.t 171) (.reg [o 172 (.mov (.t 23)),
        o 173 (.bin .add (.t 172) (.c (.int .i64 1))),
        o 20 (.mov (.t 173))] false)
        (.reg [o 174 (.mov (.t 23)),
        o 21 (.mov (.t 174))] false)))))
def Qd5 : List Nat := [100047, 0, 14, 17]
def Q121 : IR :=
  .seq (.seq (.reg [o 108 (.mov (.t 17)),
        o 109 (.mov (.t 14)),
        o 110 (.bin .gtr (.t 108) (.t 109))] false)
      (.cond (.t 110) (.skip)
        (.exit 6)))
    (.seq (.block 7 (.reg [o 113 (.mov (.t 0)),
        o 114 (.mov (.t 17)),
        o 115 (.mov (.t 0)),
        o 116 (.mov (.t 17)),
        ob 117 (.bin .sub (.t 116) (.c (.int .i64 1))) [3],
        o 118 (.mov (.t 0)),
        o 119 (.mov (.t 17)),
        ob 120 (.bin .sub (.t 119) (.c (.int .i64 1))) [6],
        ob 121 (.iaddr 6 (.t 118) (.t 120)) [5, 6, 7],
        ob 122 (.load 6 true (.t 121)) [5, 6, 7, 8],
        o 123 (.mov (.t 0)),
        o 124 (.mov (.t 17)),
        ob 125 (.iaddr 6 (.t 123) (.t 124)) [10, 11],
        ob 126 (.load 6 true (.t 125)) [10, 11, 12],
        ob 127 (.iaddr 6 (.t 113) (.t 114)) ([0, 1] ++ rg 5 14),
        ⟨none, none, .store 6 (.t 127) (.t 122), ([0, 1] ++ rg 5 15)⟩,
        ob 128 (.iaddr 6 (.t 115) (.t 117)) (rg 0 16),
        ⟨none, none, .store 6 (.t 128) (.t 126), (rg 0 17)⟩] true))
    (.reg [o 111 (.mov (.t 17)),
    o 112 (.bin .sub (.t 111) (.c (.int .i64 1))),
    o 17 (.mov (.t 112))] false))
def Qbz : List Nat := [100046, 0, 2, 4, 14, 15]
def Q124 : IR :=
  .seq (.seq (.reg [o 83 (.mov (.t 14)),
        o 84 (.mov (.t 15)),
        o 85 (.bin .lss (.t 83) (.t 84))] false)
      (.cond (.t 85) (.skip)
        (.exit 4)))
    (.block 5 (.seq (.reg [o 86 (.mov (.t 14)),
        o 87 (.mov (.t 15)),
        o 88 (.bin .add (.t 86) (.t 87)),
        o 89 (.conv .u64 (.t 88)),
        o 90 (.bin .shr (.t 89) (.c (.int .u64 1))),
        o 91 (.conv .i64 (.t 90)),
        o 16 (.mov (.t 91))] false)
      (.seq (.reg [o 92 (.mov (.t 4)),
        o 93 (.mov (.t 0)),
        o 94 (.mov (.t 2)),
        ob 95 (.iaddr 6 (.t 93) (.t 94)) [1, 2],
        ob 96 (.load 6 true (.t 95)) [1, 2, 3],
        o 97 (.mov (.t 0)),
        o 98 (.mov (.t 16)),
        ob 99 (.iaddr 6 (.t 97) (.t 98)) [5, 6],
        ob 100 (.load 6 true (.t 99)) [5, 6, 7],
        ob 101 (.call false (.t 92) [.t 96, .t 100]) (rg 0 9),
        ob 102 (.bin .lss (.t 101) (.c (.int .i64 0))) (rg 0 10),
        ob 103 (.un .not (.t 102)) (rg 0 11)] true)
      (.cond (.t 103) (.reg [o 104 (.mov (.t 16)),
        o 105 (.bin .add (.t 104) (.c (.int .i64 1))),
        o 14 (.mov (.t 105))] false)
        (.reg [o 106 (.mov (.t 16)),
        o 15 (.mov (.t 106))] false)))))
def Qc4 : List Nat := [100045, 0, 10, 13]
def Q11x : IR :=
  .seq (.seq (.reg [o 55 (.mov (.t 13)),
        o 56 (.mov (.t 10)),
        o 57 (.bin .sub (.t 56) (.c (.int .i64 1))),
        o 58 (.bin .lss (.t 55) (.t 57))] false)
      (.cond (.t 58) (.skip)
        (.exit 2)))
    (.seq (.block 3 (.reg [o 61 (.mov (.t 0)),
        o 62 (.mov (.t 13)),
        o 63 (.mov (.t 0)),
        o 64 (.mov (.t 13)),
        ob 65 (.bin .add (.t 64) (.c (.int .i64 1))) [3],
        o 66 (.mov (.t 0)),
        o 67 (.mov (.t 13)),
        ob 68 (.bin .add (.t 67) (.c (.int .i64 1))) [6],
        ob 69 (.iaddr 6 (.t 66) (.t 68)) [5, 6, 7],
        ob 70 (.load 6 true (.t 69)) [5, 6, 7, 8],
        o 71 (.mov (.t 0)),
        o 72 (.mov (.t 13)),
        ob 73 (.iaddr 6 (.t 71) (.t 72)) [10, 11],
        ob 74 (.load 6 true (.t 73)) [10, 11, 12],
        ob 75 (.iaddr 6 (.t 61) (.t 62)) ([0, 1] ++ rg 5 14),
        ⟨none, none, .store 6 (.t 75) (.t 70), ([0, 1] ++ rg 5 15)⟩,
        ob 76 (.iaddr 6 (.t 63) (.t 65)) (rg 0 16),
        ⟨none, none, .store 6 (.t 76) (.t 74), (rg 0 17)⟩] true))
    (.reg [o 59 (.mov (.t 13)),
    o 60 (.bin .add (.t 59) (.c (.int .i64 1))),
    o 13 (.mov (.t 60))] false))
def Qcj : List Nat := [100044, 0, 1, 4, 10, 11]
def Q11v : IR :=
  .seq (.seq (.reg [o 31 (.mov (.t 10)),
        o 32 (.mov (.t 11)),
        o 33 (.bin .lss (.t 31) (.t 32))] false)
      (.cond (.t 33) (.skip)
        (.exit 0)))
    (.block 1 (.seq (.reg [o 34 (.mov (.t 10)),
        o 35 (.mov (.t 11)),
        o 36 (.bin .add (.t 34) (.t 35)),
        o 37 (.conv .u64 (.t 36)),
        o 38 (.bin .shr (.t 37) (.c (.int .u64 1))),
        o 39 (.conv .i64 (.t 38)),
        o 12 (.mov (.t 39))] false)
      (.seq (.reg [o 40 (.mov (.t 4)),
        o 41 (.mov (.t 0)),
        o 42 (.mov (.t 12)),
        ob 43 (.iaddr 6 (.t 41) (.t 42)) [1, 2],
        ob 44 (.load 6 true (.t 43)) [1, 2, 3],
        o 45 (.mov (.t 0)),
        o 46 (.mov (.t 1)),
        ob 47 (.iaddr 6 (.t 45) (.t 46)) [5, 6],
        ob 48 (.load 6 true (.t 47)) [5, 6, 7],
        ob 49 (.call false (.t 40) [.t 44, .t 48]) (rg 0 9),
        ob 50 (.bin .lss (.t 49) (.c (.int .i64 0))) (rg 0 10)] true)
      (.cond (.t 50) (.reg [o 51 (.mov (.t 12)),
        o 52 (.bin .add (.t 51) (.c (.int .i64 1))),
        o 10 (.mov (.t 52))] false)
        (.reg [o 53 (.mov (.t 12)),
        o 11 (.mov (.t 53))] false)))))
def Q16o : IR :=
  .seq (.seq (.reg [o 25 (.mov (.t 2)),
      o 26 (.mov (.t 1)),
      o 27 (.bin .sub (.t 25) (.t 26)),
      o 28 (.bin .eql (.t 27) (.c (.int .i64 1)))] false)
    (.cond (.t 28) (.seq (.reg [o 29 (.mov (.t 2)),
        o 10 (.mov (.t 29))] false)
      (.seq (.reg [o 30 (.mov (.t 3)),
        o 11 (.mov (.t 30))] false)
      (.seq (.block 0 (.loop Qcj Q11v))
      (.seq (.seq (.reg [o 54 (.mov (.t 1)),
          o 13 (.mov (.t 54))] false)
        (.block 2 (.loop Qc4 Q11x)))
      (.ret)))))
      (.skip)))
  (.seq (.seq (.reg [o 77 (.mov (.t 3)),
      o 78 (.mov (.t 2)),
      o 79 (.bin .sub (.t 77) (.t 78)),
      o 80 (.bin .eql (.t 79) (.c (.int .i64 1)))] false)
    (.cond (.t 80) (.seq (.reg [o 81 (.mov (.t 1)),
        o 14 (.mov (.t 81))] false)
      (.seq (.reg [o 82 (.mov (.t 2)),
        o 15 (.mov (.t 82))] false)
      (.seq (.block 4 (.loop Qbz Q124))
      (.seq (.seq (.reg [o 107 (.mov (.t 2)),
          o 17 (.mov (.t 107))] false)
        (.block 6 (.loop Qd5 Q121)))
      (.ret)))))
      (.skip)))
  (.seq (.reg [o 129 (.mov (.t 1)),
    o 130 (.mov (.t 3)),
    o 131 (.bin .add (.t 129) (.t 130)),
    o 132 (.conv .u64 (.t 131)),
    o 133 (.bin .shr (.t 132) (.c (.int .u64 1))),
    o 134 (.conv .i64 (.t 133)),
    o 18 (.mov (.t 134))] false)
  (.seq (.reg [o 135 (.mov (.t 18)),
    o 136 (.mov (.t 2)),
    o 137 (.bin .add (.t 135) (.t 136)),
    o 19 (.mov (.t 137))] false)
  (.seq (.reg [o 20 (.mov (.c (.int .i64 0))),
    o 21 (.mov (.c (.int .i64 0)))] false)
  (.seq (.seq (.reg [o 138 (.mov (.t 2)),
      o 139 (.mov (.t 18)),
      o 140 (.bin .gtr (.t 138) (.t 139))] false)
    (.cond (.t 140) (.seq (.reg [o 141 (.mov (.t 19)),
        o 142 (.mov (.t 3)),
        o 143 (.bin .sub (.t 141) (.t 142)),
        o 20 (.mov (.t 143))] false)
      (.reg [o 144 (.mov (.t 18)),
      o 21 (.mov (.t 144))] false))
      (.seq (.reg [o 145 (.mov (.t 1)),
        o 20 (.mov (.t 145))] false)
      (.reg [o 146 (.mov (.t 2)),
      o 21 (.mov (.t 146))] false))))
  (.seq (.reg [o 147 (.mov (.t 19)),
    o 148 (.bin .sub (.t 147) (.c (.int .i64 1))),
    o 22 (.mov (.t 148))] false)
  (.seq (.block 8 (.loop Qf0 Q11s))
  (.seq (.reg [o 175 (.mov (.t 19)),
    o 176 (.mov (.t 20)),
    o 177 (.bin .sub (.t 175) (.t 176)),
    o 24 (.mov (.t 177))] false)
  (.seq (.seq (.reg [o 178 (.mov (.t 20)),
      o 179 (.mov (.t 2)),
      o 180 (.bin .lss (.t 178) (.t 179)),
      o 181 (.mov (.t 180)),
      ⟨(some 182), (some (181, true)), .mov (.t 2), []⟩,
      ⟨(some 183), (some (181, true)), .mov (.t 24), []⟩,
      ⟨(some 184), (some (181, true)), .bin .lss (.t 182) (.t 183), []⟩,
      o 185 (.pick (.t 181) (.t 184) (.c (.bool false)))] false)
    (.cond (.t 185) (.reg [o 186 (.mov (.t 0)),
      o 187 (.mov (.t 20)),
      o 188 (.mov (.t 2)),
      o 189 (.mov (.t 24)),
      o 190 (.mov (.t 4)),
      o 191 (.call true (.f 71) [.t 186, .t 187, .t 188, .t 189, .t 190])] false)
      (.skip)))
  (.seq (.seq (.reg [o 192 (.mov (.t 1)),
      o 193 (.mov (.t 20)),
      o 194 (.bin .lss (.t 192) (.t 193)),
      o 195 (.mov (.t 194)),
      ⟨(some 196), (some (195, true)), .mov (.t 20), []⟩,
      ⟨(some 197), (some (195, true)), .mov (.t 18), []⟩,
      ⟨(some 198), (some (195, true)), .bin .lss (.t 196) (.t 197), []⟩,
      o 199 (.pick (.t 195) (.t 198) (.c (.bool false)))] false)
    (.cond (.t 199) (.reg [o 200 (.mov (.t 0)),
      o 201 (.mov (.t 1)),
      o 202 (.mov (.t 20)),
      o 203 (.mov (.t 18)),
      o 204 (.mov (.t 4)),
      o 205 (.call true (.f 67) [.t 200, .t 201, .t 202, .t 203, .t 204])] false)
      (.skip)))
  (.seq (.reg [o 206 (.mov (.t 18)),
    o 207 (.mov (.t 24)),
    o 208 (.bin .lss (.t 206) (.t 207)),
    o 209 (.mov (.t 208)),
    ⟨(some 210), (some (209, true)), .mov (.t 24), []⟩,
    ⟨(some 211), (some (209, true)), .mov (.t 3), []⟩,
    ⟨(some 212), (some (209, true)), .bin .lss (.t 210) (.t 211), []⟩,
    o 213 (.pick (.t 209) (.t 212) (.c (.bool false)))] false)
  (.cond (.t 213) (.reg [o 214 (.mov (.t 0)),
    o 215 (.mov (.t 18)),
    o 216 (.mov (.t 24)),
    o 217 (.mov (.t 3)),
    o 218 (.mov (.t 4)),
    o 219 (.call true (.f 67) [.t 214, .t 215, .t 216, .t 217, .t 218])] false)
    (.skip)))))))))))))
def K1f : IFn := ⟨5, 220, [], false, Q16o⟩
def Qbi : List Nat := [100049, 0, 1, 7, 8]
def Q11l : IR :=
  .seq (.reg [o 9 (.bin .lss (.t 8) (.t 7))] false)
    (.seq (.cond (.t 9) (.skip)
        (.exit 0))
    (.seq (.block 1 (.seq (.reg [o 10 (.mov (.t 8)),
          o 5 (.mov (.t 10))] false)
        (.seq (.reg [o 11 (.mov (.t 1)),
          o 12 (.mov (.t 0)),
          o 13 (.mov (.t 5)),
          o 14 (.iaddr 6 (.t 12) (.t 13)),
          o 15 (.load 6 true (.t 14)),
          o 16 (.call false (.t 11) [.t 15])] false)
        (.cond (.t 16) (.seq (.reg [o 17 (.mov (.t 5)),
            o 4 (.mov (.t 17))] false)
          (.ret))
          (.skip)))))
    (.reg [o 18 (.bin .add (.t 8) (.c (.int .i64 1))),
    o 8 (.mov (.t 18))] false)))
def Q168 : IR :=
  .seq (.reg [o 4 (.mov (.c (.int .i64 0)))] false)
  (.seq (.seq (.reg [o 6 (.mov (.t 0)),
      o 7 (.len false (.t 6)),
      o 8 (.mov (.c (.int .i64 0)))] false)
    (.block 0 (.loop Qbi Q11l)))
  (.seq (.reg [o 4 (.mov (.c (.int .i64 (-1))))] false)
  (.ret)))
def K19 : IFn := ⟨2, 19, [.tmp 4], false, Q168⟩
def K2_c : IR :=
  .seq (.reg [o 2 (.mov (.c (.bool false)))] false)
  (.seq (.reg [o 3 (.mov (.t 0)),
    o 4 (.mov (.t 0)),
    o 5 (.bin .neq (.t 3) (.t 4)),
    o 2 (.mov (.t 5))] false)
  (.ret))
def K2 : IFn := ⟨1, 6, [.tmp 2], false, K2_c⟩
def Qfb : List Nat := [100050, 0, 2, 4, 10, 11]
def Q123 : IR :=
  .seq (.seq (.reg [o 18 (.mov (.t 10)),
        o 19 (.mov (.t 11)),
        o 20 (.bin .neq (.t 18) (.t 19))] false)
      (.cond (.t 20) (.skip)
        (.exit 0)))
    (.block 1 (.seq (.reg [o 21 (.mov (.t 10)),
        o 22 (.mov (.t 11)),
        o 23 (.bin .gtr (.t 21) (.t 22))] false)
      (.cond (.t 23) (.seq (.reg [o 24 (.mov (.t 0)),
          o 25 (.mov (.t 2)),
          o 26 (.mov (.t 10)),
          o 27 (.bin .sub (.t 25) (.t 26)),
          o 28 (.mov (.t 2)),
          o 29 (.mov (.t 11)),
          o 30 (.mov (.t 4)),
          o 31 (.call true (.f 72) [.t 24, .t 27, .t 28, .t 29, .t 30])] false)
        (.reg [o 32 (.mov (.t 10)),
        o 33 (.mov (.t 11)),
        o 34 (.bin .sub (.t 32) (.t 33)),
        o 10 (.mov (.t 34))] false))
        (.seq (.reg [o 35 (.mov (.t 0)),
          o 36 (.mov (.t 2)),
          o 37 (.mov (.t 10)),
          o 38 (.bin .sub (.t 36) (.t 37)),
          o 39 (.mov (.t 2)),
          o 40 (.mov (.t 11)),
          o 41 (.bin .add (.t 39) (.t 40)),
          o 42 (.mov (.t 10)),
          o 43 (.bin .sub (.t 41) (.t 42)),
          o 44 (.mov (.t 10)),
          o 45 (.mov (.t 4)),
          o 46 (.call true (.f 72) [.t 35, .t 38, .t 43, .t 44, .t 45])] false)
        (.reg [o 47 (.mov (.t 11)),
        o 48 (.mov (.t 10)),
        o 49 (.bin .sub (.t 47) (.t 48)),
        o 11 (.mov (.t 49))] false)))))
def Q16j : IR :=
  .seq (.reg [o 12 (.mov (.t 2)),
    o 13 (.mov (.t 1)),
    o 14 (.bin .sub (.t 12) (.t 13)),
    o 10 (.mov (.t 14))] false)
  (.seq (.reg [o 15 (.mov (.t 3)),
    o 16 (.mov (.t 2)),
    o 17 (.bin .sub (.t 15) (.t 16)),
    o 11 (.mov (.t 17))] false)
  (.seq (.block 0 (.loop Qfb Q123))
  (.reg [o 50 (.mov (.t 0)),
  o 51 (.mov (.t 2)),
  o 52 (.mov (.t 10)),
  o 53 (.bin .sub (.t 51) (.t 52)),
  o 54 (.mov (.t 2)),
  o 55 (.mov (.t 10)),
  o 56 (.mov (.t 4)),
  o 57 (.call true (.f 72) [.t 50, .t 53, .t 54, .t 55, .t 56])] false)))
def K1c : IFn := ⟨5, 58, [], false, Q16j⟩
def Qcn : List Nat := [100051, 0, 1, 2, 3, 10]
def Q11g : IR :=
  .seq (.seq (.reg [o 11 (.mov (.t 10)),
        o 12 (.mov (.t 3)),
        o 13 (.bin .lss (.t 11) (.t 12))] false)
      (.cond (.t 13) (.skip)
        (.exit 0)))
    (.seq (.block 1 (.reg [o 16 (.mov (.t 0)),
        o 17 (.mov (.t 1)),
        o 18 (.mov (.t 10)),
        ob 19 (.bin .add (.t 17) (.t 18)) [1, 2],
        o 20 (.mov (.t 0)),
        o 21 (.mov (.t 2)),
        o 22 (.mov (.t 10)),
        ob 23 (.bin .add (.t 21) (.t 22)) [5, 6],
        o 24 (.mov (.t 0)),
        o 25 (.mov (.t 2)),
        o 26 (.mov (.t 10)),
        ob 27 (.bin .add (.t 25) (.t 26)) [9, 10],
        ob 28 (.iaddr 6 (.t 24) (.t 27)) [8, 9, 10, 11],
        ob 29 (.load 6 true (.t 28)) (rg 8 13),
        o 30 (.mov (.t 0)),
        o 31 (.mov (.t 1)),
        o 32 (.mov (.t 10)),
        ob 33 (.bin .add (.t 31) (.t 32)) [15, 16],
        ob 34 (.iaddr 6 (.t 30) (.t 33)) [14, 15, 16, 17],
        ob 35 (.load 6 true (.t 34)) (rg 14 19),
        ob 36 (.iaddr 6 (.t 16) (.t 19)) (rg 0 4 ++ rg 8 20),
        ⟨none, none, .store 6 (.t 36) (.t 29), (rg 0 4 ++ rg 8 21)⟩,
        ob 37 (.iaddr 6 (.t 20) (.t 23)) (rg 0 22),
        ⟨none, none, .store 6 (.t 37) (.t 35), (rg 0 23)⟩] true))
    (.reg [o 14 (.mov (.t 10)),
    o 15 (.bin .add (.t 14) (.c (.int .i64 1))),
    o 10 (.mov (.t 15))] false))
def Q16x : IR :=
  .seq (.reg [o 10 (.mov (.c (.int .i64 0)))] false)
  (.block 0 (.loop Qcn Q11g))
def K1e : IFn := ⟨5, 38, [], false, Q16x⟩
def table : List (Nat × Fun) :=
  [(6, .ir K5),
   (10, .ir Kd),
   (11, .ir Ka),
   (12, .ir Ky),
   (13, .ir Kg),
   (15, .ir Kf),
   (17, .ir Ke),
   (19, .ir K12),
   (21, .ir Kl),
   (22, .ir Kz),
   (23, .ir Ko),
   (24, .ir Kc),
   (25, .ir Kb),
   (26, .ir Kh),
   (27, .ir K1m),
   (28, .ir K1q),
   (29, .ir K1k),
   (30, .ir K1p),
   (33, .ir K1o),
   (34, .ir K1j),
   (36, .ir Kj),
   (37, .ir K10),
   (38, .ir Kx),
   (39, .ir Kn),
   (40, .ir K1l),
   (41, .ax (Qfj 6 96)),
   (42, .ir K1a),
   (43, .ir K1n),
   (44, .ir K1g),
   (45, .ir K1r),
   (46, .ir K1s),
   (49, .ir K1h),
   (51, .ir Kw),
   (52, .ir Kp),
   (53, .ir K1d),
   (54, .cmpstr),
   (55, .ax (Qfj 5 80)),
   (56, .ir K18),
   (57, .ir K1t),
   (59, .ir K1),
   (60, .ir K0),
   (61, .ir K16),
   (62, .ir K17),
   (63, .ir K1i),
   (65, .ir Kq),
   (66, .ir K1b),
   (67, .ir K1f),
   (69, .ir K19),
   (70, .ir K2),
   (71, .ir K1c),
   (72, .ir K1e)]
end Go.Proofs.Ytnhhddbbppbblaa.Ir
end

section
/- The printed functions are the given ones. -/
namespace Go.Proofs.Ytnhhddbbppbblaa
open Go.Pv
theorem c3 : Q1n Try.prog Try.f3 Ir.K8 = true := by kernel_rfl
theorem c4 : Q1n Try.prog Try.f4 Ir.K7 = true := by kernel_rfl
theorem c5 : Q1n Try.prog Try.f5 Ir.K6 = true := by kernel_rfl
theorem c6 : Q1n Try.prog Try.f6 Ir.K5 = true := by kernel_rfl
theorem c10 : Q1n Try.prog Try.f10 Ir.Kd = true := by kernel_rfl
theorem c11 : Q1n Try.prog Try.f11 Ir.Ka = true := by kernel_rfl
theorem c12 : Q1n Try.prog Try.f12 Ir.Ky = true := by kernel_rfl
theorem c13 : Q1n Try.prog Try.f13 Ir.Kg = true := by kernel_rfl
theorem c15 : Q1n Try.prog Try.f15 Ir.Kf = true := by kernel_rfl
theorem c17 : Q1n Try.prog Try.f17 Ir.Ke = true := by kernel_rfl
theorem c19 : Q1n Try.prog Try.f19 Ir.K12 = true := by kernel_rfl
theorem c21 : Q1n Try.prog Try.f21 Ir.Kl = true := by kernel_rfl
theorem c22 : Q1n Try.prog Try.f22 Ir.Kz = true := by kernel_rfl
theorem c23 : Q1n Try.prog Try.f23 Ir.Ko = true := by kernel_rfl
theorem c24 : Q1n Try.prog Try.f24 Ir.Kc = true := by kernel_rfl
theorem c25 : Q1n Try.prog Try.f25 Ir.Kb = true := by kernel_rfl
theorem c26 : Q1n Try.prog Try.f26 Ir.Kh = true := by kernel_rfl
theorem c27 : Q1n Try.prog Try.f27 Ir.K1m = true := by kernel_rfl
theorem c28 : Q1n Try.prog Try.f28 Ir.K1q = true := by kernel_rfl
theorem c29 : Q1n Try.prog Try.f29 Ir.K1k = true := by kernel_rfl
theorem c30 : Q1n Try.prog Try.f30 Ir.K1p = true := by kernel_rfl
theorem c33 : Q1n Try.prog Try.f33 Ir.K1o = true := by kernel_rfl
theorem c34 : Q1n Try.prog Try.f34 Ir.K1j = true := by kernel_rfl
theorem c36 : Q1n Try.prog Try.f36 Ir.Kj = true := by kernel_rfl
theorem c37 : Q1n Try.prog Try.f37 Ir.K10 = true := by kernel_rfl
theorem c38 : Q1n Try.prog Try.f38 Ir.Kx = true := by kernel_rfl
theorem c39 : Q1n Try.prog Try.f39 Ir.Kn = true := by kernel_rfl
theorem c40 : Q1n Try.prog Try.f40 Ir.K1l = true := by kernel_rfl
theorem c42 : Q1n Try.prog Try.f42 Ir.K1a = true := by kernel_rfl
theorem c43 : Q1n Try.prog Try.f43 Ir.K1n = true := by kernel_rfl
theorem c44 : Q1n Try.prog Try.f44 Ir.K1g = true := by kernel_rfl
theorem c45 : Q1n Try.prog Try.f45 Ir.K1r = true := by kernel_rfl
theorem c46 : Q1n Try.prog Try.f46 Ir.K1s = true := by kernel_rfl
theorem c49 : Q1n Try.prog Try.f49 Ir.K1h = true := by kernel_rfl
theorem c51 : Q1n Try.prog Try.f51 Ir.Kw = true := by kernel_rfl
theorem c52 : Q1n Try.prog Try.f52 Ir.Kp = true := by kernel_rfl
theorem c53 : Q1n Try.prog Try.f53 Ir.K1d = true := by kernel_rfl
theorem c56 : Q1n Try.prog Try.f56 Ir.K18 = true := by kernel_rfl
theorem c57 : Q1n Try.prog Try.f57 Ir.K1t = true := by kernel_rfl
theorem c59 : Q1n Try.prog Try.f59 Ir.K1 = true := by kernel_rfl
theorem c60 : Q1n Try.prog Try.f60 Ir.K0 = true := by kernel_rfl
theorem c61 : Q1n Try.prog Try.f61 Ir.K16 = true := by kernel_rfl
theorem c62 : Q1n Try.prog Try.f62 Ir.K17 = true := by kernel_rfl
theorem c63 : Q1n Try.prog Try.f63 Ir.K1i = true := by kernel_rfl
theorem c65 : Q1n Try.prog Try.f65 Ir.Kq = true := by kernel_rfl
theorem c66 : Q1n Try.prog Try.f66 Ir.K1b = true := by kernel_rfl
theorem c67 : Q1n Try.prog Try.f67 Ir.K1f = true := by kernel_rfl
theorem c69 : Q1n Try.prog Try.f69 Ir.K19 = true := by kernel_rfl
theorem c70 : Q1n Try.prog Try.f70 Ir.K2 = true := by kernel_rfl
theorem c71 : Q1n Try.prog Try.f71 Ir.K1c = true := by kernel_rfl
theorem c72 : Q1n Try.prog Try.f72 Ir.K1e = true := by kernel_rfl
theorem k41 : Q7l Try.prog Try.f41 6 96 [.str ⟨#[]⟩, .int .i64 0, .int .i64 0, .str ⟨#[]⟩, .ns 5, .ns 6] = true := by kernel_rfl
theorem k55 : Q7l Try.prog Try.f55 5 80 [.int .i64 0, .int .i64 0, .str ⟨#[]⟩, .ns 5, .ns 6] = true := by kernel_rfl
theorem mixed : Try.prog.follows .mixedOrders = true := by kernel_rfl
theorem own : ownKnob Try.prog.godebug = none := by kernel_rfl
theorem laidOut : laidOutB Try.prog = true := by kernel_rfl
theorem tie (cmp : Q10i Try.prog 54) : Tie Try.prog (tabG Ir.table) :=
  Q1c Try.func6 c6 <| Q1c Try.func10 c10 <| Q1c Try.func11 c11 <| Q1c Try.func12 c12 <| Q1c Try.func13 c13 <| Q1c Try.func15 c15 <| Q1c Try.func17 c17 <| Q1c Try.func19 c19 <| Q1c Try.func21 c21 <| Q1c Try.func22 c22 <| Q1c Try.func23 c23 <| Q1c Try.func24 c24 <| Q1c Try.func25 c25 <| Q1c Try.func26 c26 <| Q1c Try.func27 c27 <| Q1c Try.func28 c28 <| Q1c Try.func29 c29 <| Q1c Try.func30 c30 <| Q1c Try.func33 c33 <| Q1c Try.func34 c34 <| Q1c Try.func36 c36 <| Q1c Try.func37 c37 <| Q1c Try.func38 c38 <| Q1c Try.func39 c39 <| Q1c Try.func40 c40 <| (fun h => Qkn h (Qs3 mixed Try.func41 k41)) <| Q1c Try.func42 c42 <| Q1c Try.func43 c43 <| Q1c Try.func44 c44 <| Q1c Try.func45 c45 <| Q1c Try.func46 c46 <| Q1c Try.func49 c49 <| Q1c Try.func51 c51 <| Q1c Try.func52 c52 <| Q1c Try.func53 c53 <| (fun h => Qkn h cmp) <| (fun h => Qkn h (Qs3 mixed Try.func55 k55)) <| Q1c Try.func56 c56 <| Q1c Try.func57 c57 <| Q1c Try.func59 c59 <| Q1c Try.func60 c60 <| Q1c Try.func61 c61 <| Q1c Try.func62 c62 <| Q1c Try.func63 c63 <| Q1c Try.func65 c65 <| Q1c Try.func66 c66 <| Q1c Try.func67 c67 <| Q1c Try.func69 c69 <| Q1c Try.func70 c70 <| Q1c Try.func71 c71 <| Q1c Try.func72 c72 <| Q12s
end Go.Proofs.Ytnhhddbbppbblaa
end

