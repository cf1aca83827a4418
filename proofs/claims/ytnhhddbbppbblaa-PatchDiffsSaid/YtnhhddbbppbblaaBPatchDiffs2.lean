/- Texts of the claim, merged by a program; what the statement does not reach is left out. -/
import Derived.Test.YtnhhddbbppbblaaBPatchDiffs1
import Derived.Orders
import Derived.LoopN
import Derived.ChangeArms
import Derived.ChangeSlices
import Derived.ChangeOld
import Derived.Carry
import GoSem.ClaimJoined
import Derived.Lib.SliceRun
import Derived.Test.YtnhhddbbppbblaaProg
import Derived.KernelRfl

section
/-
  A region, in whatever order.
-/
namespace Go.Pv
open Go.RowKit
def Qc4 (ops : Array Oper) : Option (Nat × Bool) → Option (Nat × Bool) → Bool
  | none, none => true
  | some (j, w), some (s, w') => (w == w') && Qmk ((ops[j]?).bind (·.dst)) s
  | _, _ => false
def Qnq : Option Nat → Option Nat → Bool
 | none, none => true
 | some a, some b => Nat.beq a b
 | _, _ => false
def Q7b (P : Program) (ops : Array Oper) (o : Oper) (io : IOper) : Bool := Qnq o.dst io.dst && Qc4 ops o.guard io.guard && Qtp P o.op io.op
def Qcs (P : Program) (ops : Array Oper) : List Oper → List IOper → Bool
 | [], [] => true
 | o :: r, io :: r' => Q7b P ops o io && Qcs P ops r r'
 | _, _ => false
def Q18e (ios : List IOper) (k : Nat) : List Nat :=
 match ios[k]? with
 | some io => io.bef
 | none => []
def Qpw (ios : List IOper) : Nat → List Oper → List IOper → Bool
 | j, o :: r, io :: r' =>
  (io.bef.all fun i => o.after.toList.any fun e => Region.binds .any e && (Nat.beq e.on i || has (Q18e ios e.on) i)) &&
   (o.after.toList.all fun e => !(Region.binds .any e) || Nat.blt e.on j) && Qpw ios (j + 1) r r'
 | _, _, _ => true
theorem Qai {a b : Option Nat} (h : Qnq a b = true) : a = b := by
 cases a <;> cases b <;> first | rfl | (cases h; done) | exact congrArg some (Nat.eq_of_beq_eq_true h)
theorem Q9x {P : Program} {ops : Array Oper} : ∀ {l : List Oper} {l' : List IOper}, Qcs P ops l l' = true → l.length = l'.length ∧ ∀ (i : Nat) o io, l[i]? = some o → l'[i]? = some io → Q7b P ops o io = true
 | [], [], _ => ⟨rfl, fun i o io h => by simp at h⟩
 | [], _ :: _, h => by cases h
 | _ :: _, [], h => by cases h
 | o :: r, io :: r', h => by
  simp only [Qcs, Bool.and_eq_true] at h
  obtain ⟨h1, h2⟩ := Q9x h.2
  refine ⟨by simp [h1], fun i o' io' ho hio => ?_⟩
  cases i with
  | zero =>
   simp at ho hio
   subst ho hio
   exact h.1
  | succ i => exact h2 i o' io' (by simpa using ho) (by simpa using hio)
theorem Qh2 {ios : List IOper} : ∀ {j : Nat} {l : List Oper} {l' : List IOper}, Qpw ios j l l' = true → ∀ (i : Nat) o io, l[i]? = some o → l'[i]? = some io →
    (∀ k ∈ io.bef, ∃ e ∈ o.after, Region.binds .any e = true ∧ (e.on = k ∨ k ∈ Q18e ios e.on)) ∧ ∀ e ∈ o.after, Region.binds .any e = true → e.on < j + i
  | j, [], l', _, i, o, io, ho, _ => by simp at ho
  | j, _ :: _, [], _, i, o, io, _, hio => by simp at hio
  | j, o :: r, io :: r', h, i, o', io', ho, hio => by
    simp only [Qpw, Bool.and_eq_true] at h
    cases i with
    | zero =>
      simp at ho hio
      subst ho hio
      refine ⟨fun k hk => ?_, fun e he hb => ?_⟩
      · have := List.all_eq_true.1 h.1.1 k hk
        obtain ⟨e, he, hb⟩ := List.any_eq_true.1 this
        rw [Bool.and_eq_true, Bool.or_eq_true] at hb
        exact ⟨e, by simpa using he, hb.1, hb.2.imp Nat.eq_of_beq_eq_true Q5g.1⟩
      · have := List.all_eq_true.1 h.1.2 e (by simpa using he)
        rw [Bool.or_eq_true] at this
        rcases this with h' | h'
        · rw [hb] at h'; cases h'
        · exact Nat.le_of_ble_eq_true h'
    | succ i =>
      obtain ⟨h1, h2⟩ := Qh2 h.2 i o' io' (by simpa using ho) (by simpa using hio)
      exact ⟨h1, fun e he hb => by have := h2 e he hb; omega⟩
def Last {β : Type} (W : Nat → Nat → Option β) (s0 : Nat → β) (S : Nat → Prop) (s : Nat → β) : Prop :=
 ∀ t, (∃ k, S k ∧ W k t = some (s t) ∧ ∀ k', S k' → k < k' → W k' t = none) ∨ ((∀ k, S k → W k t = none) ∧ s t = s0 t)
section
variable {β : Type} {W : Nat → Nat → Option β} {s0 : Nat → β}
theorem Last.det {S S' : Nat → Prop} {s s' : Nat → β} (h : Last W s0 S s) (h' : Last W s0 S' s') {t : Nat} (hs : ∀ k, W k t ≠ none → (S k ↔ S' k)) : s t = s' t := by
  rcases h t with ⟨k, h1, h2, h3⟩ | ⟨h1, h2⟩ <;> rcases h' t with ⟨k', g1, g2, g3⟩ | ⟨g1, g2⟩
  · rcases Nat.lt_trichotomy k k' with c | c | c
    · have := h3 k' ((hs k' (by rw [g2]; exact fun h => by cases h)).2 g1) c
      rw [g2] at this; cases this
    · subst c
      rw [h2] at g2
      injection g2
    · have := g3 k ((hs k (by rw [h2]; exact fun h => by cases h)).1 h1) c
      rw [h2] at this; cases this
  · have := g1 k ((hs k (by rw [h2]; exact fun h => by cases h)).1 h1)
    rw [h2] at this; cases this
  · have := h1 k' ((hs k' (by rw [g2]; exact fun h => by cases h)).2 g1)
    rw [g2] at this; cases this
  · rw [h2, g2]
theorem Last.add {S S' : Nat → Prop} {s s' : Nat → β} {i : Nat} (h : Last W s0 S s) (hS : ∀ k, S' k ↔ S k ∨ k = i) (hi : ∀ k t, S k → i < k → W k t ≠ none → W i t = none) (hs : ∀ t, s' t = (W i t).getD (s t)) : Last W s0 S' s' := by
  intro t
  cases hw : W i t with
  | some v =>
    refine .inl ⟨i, (hS i).2 (.inr rfl), by rw [hs t, hw]; rfl, fun k' hk hlt => ?_⟩
    rcases (hS k').1 hk with hk | rfl
    · cases hk' : W k' t with
      | none => rfl
      | some u =>
        have := hi k' t hk hlt (by rw [hk']; exact fun h => by cases h)
        rw [hw] at this; cases this
    · omega
  | none =>
    have e : s' t = s t := by rw [hs t, hw]; rfl
    rw [e]
    rcases h t with ⟨k, h1, h2, h3⟩ | ⟨h1, h2⟩
    · refine .inl ⟨k, (hS k).2 (.inl h1), h2, fun k' hk hlt => ?_⟩
      rcases (hS k').1 hk with hk | rfl
      · exact h3 k' hk hlt
      · exact hw
    · refine .inr ⟨fun k hk => ?_, h2⟩
      rcases (hS k).1 hk with hk | rfl
      · exact h1 k hk
      · exact hw
theorem Last.none {S : Nat → Prop} (h : ∀ k, ¬ S k) : Last W s0 S s0 := fun _ => .inr ⟨fun k hk => absurd hk (h k), rfl⟩
end
theorem Qub {l : List PV} {d : Option Nat} {v : PV} {t : Nat} : envF (put l d v) t = if d = some t ∧ t < l.length then v else envF l t := by
  unfold put envF
  cases d with
  | none => simp
  | some d =>
    by_cases c : d = t
    · subst c
      by_cases c' : d < l.length
      · simp [c']
      · simp [c']
    · simp [c, List.getElem?_set_ne c]
theorem Qm1 {l : List PV} {d : Option Nat} {v : PV} : (put l d v).length = l.length := by
 unfold put
 cases d <;> simp
theorem Q11e {h : List (Nat × Ob)} {id j : Nat} {ob : Ob} : look (hput.repl h id ob) j = if j = id then some ob else look h j := by
  induction h with
  | nil =>
    simp only [hput.repl, look]
    by_cases c : id = j
    · subst c; simp
    · have : Nat.beq id j = false := by rw [Bool.eq_false_iff]; exact fun h => c (Nat.eq_of_beq_eq_true h)
      simp [this, Ne.symm c]
  | cons y r ih =>
    obtain ⟨k, x⟩ := y
    simp only [hput.repl]
    by_cases c : k = id
    · subst c
      simp only [Nat.beq_refl, cond_true, look]
      by_cases c' : k = j
      · subst c'; simp
      · have : Nat.beq k j = false := by rw [Bool.eq_false_iff]; exact fun h => c' (Nat.eq_of_beq_eq_true h)
        simp [this, Ne.symm c']
    · have : Nat.beq k id = false := by rw [Bool.eq_false_iff]; exact fun h => c (Nat.eq_of_beq_eq_true h)
      simp only [this, cond_false, look, ih]
      by_cases c' : k = j
      · subst c'; simp [c]
      · have : Nat.beq k j = false := by rw [Bool.eq_false_iff]; exact fun h => c' (Nat.eq_of_beq_eq_true h)
        simp [this]
theorem Q12p {h : List (Nat × Ob)} {id j : Nat} : look (hput.drop h id) j = if j = id then none else look h j := by
  induction h with
  | nil => simp [hput.drop, look]
  | cons y r ih =>
    obtain ⟨k, x⟩ := y
    simp only [hput.drop]
    by_cases c : k = id
    · subst c
      simp only [Nat.beq_refl, cond_true, look, ih]
      by_cases c' : k = j
      · subst c'; simp
      · have : Nat.beq k j = false := by rw [Bool.eq_false_iff]; exact fun h => c' (Nat.eq_of_beq_eq_true h)
        simp [this]
    · have : Nat.beq k id = false := by rw [Bool.eq_false_iff]; exact fun h => c (Nat.eq_of_beq_eq_true h)
      simp only [this, cond_false, look, ih]
      by_cases c' : k = j
      · subst c'; simp [c]
      · have : Nat.beq k j = false := by rw [Bool.eq_false_iff]; exact fun h => c' (Nat.eq_of_beq_eq_true h)
        simp [this]
theorem Q4t : ∀ (ws : List (Nat × Option Ob)) (h : List (Nat × Ob)), look (hput h ws) = upH (look h) ws
 | [], h => rfl
 | (id, some ob) :: r, h => by
  rw [hput, Q4t r, upH]
  congr 1
  funext j
  exact Q11e
 | (id, none) :: r, h => by
  rw [hput, Q4t r, upH]
  congr 1
  funext j
  exact Q12p
theorem Qh1 : ∀ {ws : List (Nat × Option Ob)} {H H' : Nat → Option Ob} {j : Nat}, (∃ x ∈ ws, x.1 = j) → upH H ws j = upH H' ws j
  | [], _, _, _, h => by obtain ⟨x, hx, _⟩ := h; cases hx
  | (id, o) :: r, H, H', j, h => by
    rw [upH, upH]
    by_cases c : ∃ y ∈ r, y.1 = j
    · exact Qh1 c
    · rw [Q4z (fun y hy e => c ⟨y, hy, e⟩), Q4z (fun y hy e => c ⟨y, hy, e⟩)]
      obtain ⟨y, hy, rfl⟩ := h
      rcases List.mem_cons.1 hy with rfl | hy
      · simp
      · exact absurd ⟨y, hy, rfl⟩ c
def WE (L : Nat) (ios : List IOper) (xs : List Eff) (k t : Nat) : Option PV :=
 match ios[k]?, xs[k]? with
 | some o, some x => if o.dst = some t ∧ t < L then some x.v else none
 | _, _ => none
def WH (xs : List Eff) (k id : Nat) : Option (Option Ob) :=
  match xs[k]? with
  | some x => bif has (x.hw.map (·.1)) id then some (upH (fun _ => none) x.hw id) else none
  | none => none
theorem Q13i {L : Nat} {ios : List IOper} {xs : List Eff} {k t : Nat} {o : IOper} {x : Eff} (ho : ios[k]? = some o) (hx : xs[k]? = some x) (p : PV) : (WE L ios xs k t).getD p = if o.dst = some t ∧ t < L then x.v else p := by
 unfold WE
 rw [ho, hx]
 simp only
 split <;> rfl
theorem Q10g {xs : List Eff} {k id : Nat} {x : Eff} (hx : xs[k]? = some x) (H : Nat → Option Ob) : (WH xs k id).getD (H id) = upH H x.hw id := by
  unfold WH
  rw [hx]
  simp only
  cases hh : has (x.hw.map (·.1)) id with
  | true =>
    have := Q5g.1 hh
    obtain ⟨y, hy, e⟩ := List.mem_map.1 this
    exact Qh1 ⟨y, hy, e⟩
  | false =>
    show H id = _
    rw [Q4z (fun y hy e => by rw [Q5g.2 (List.mem_map.2 ⟨y, hy, e⟩)] at hh; cases hh)]
theorem Q1b1 {L : Nat} {ios : List IOper} {xs : List Eff} {k t : Nat} (h : WE L ios xs k t ≠ none) : ∃ o x, ios[k]? = some o ∧ xs[k]? = some x ∧ o.dst = some t ∧ t < L := by
  unfold WE at h
  split at h
  · rename_i o x ho hx
    split at h
    · rename_i hc; exact ⟨o, x, ho, hx, hc.1, hc.2⟩
    · exact absurd rfl h
  · exact absurd rfl h
theorem Q188 {L : Nat} {ios : List IOper} {xs : List Eff} {k t : Nat} {o : IOper} (ho : ios[k]? = some o) (h : o.dst ≠ some t) : WE L ios xs k t = none := by
 unfold WE
 rw [ho]
 cases xs[k]? with
 | none => rfl
 | some x =>
  simp only
  rw [if_neg (fun hc => h hc.1)]
theorem Q19c {xs : List Eff} {k id : Nat} (h : WH xs k id ≠ none) : ∃ x, xs[k]? = some x ∧ id ∈ x.hw.map (·.1) := by
  unfold WH at h
  split at h
  · rename_i x hx
    cases hh : has (x.hw.map (·.1)) id with
    | true => exact ⟨x, hx, Q5g.1 hh⟩
    | false => rw [hh] at h; exact absurd rfl h
  · exact absurd rfl h
theorem Q189 {xs : List Eff} {k id : Nat} {x : Eff} (hx : xs[k]? = some x) (h : id ∉ x.hw.map (·.1)) : WH xs k id = none := by
  unfold WH
  rw [hx]
  simp only
  cases hh : has (x.hw.map (·.1)) id with
  | true => exact absurd (Q5g.1 hh) h
  | false => rfl
theorem Qby {X : Orc} {nx : Nat} {ios : List IOper} {xs : List Eff} {L : Nat} {e0 : Nat → PV} {H0 : Nat → Option Ob} : ∀ (r : List IOper) (i : Nat) (env : List PV) (h : List (Nat × Ob)) (y : List PV × List (Nat × Ob) × List Eff),
    Q3t X nx i r env h = some y → (∀ j, r[j]? = ios[i + j]?) → (∀ j, y.2.2[j]? = xs[i + j]?) → env.length = L → Last (WE L ios xs) e0 (· < i) (envF env) → Last (WH xs) H0 (· < i) (look h) →
      y.2.2.length = r.length ∧ y.1.length = L ∧ (∀ (j : Nat) o x, i ≤ j → ios[j]? = some o → xs[j]? = some x → ∃ e H, Last (WE L ios xs) e0 (· < j) e ∧ Last (WH xs) H0 (· < j) H ∧ Q5e X e H (nx + 64 * j) o = some x) ∧
        Last (WE L ios xs) e0 (· < i + r.length) (envF y.1) ∧ Last (WH xs) H0 (· < i + r.length) (look y.2.1)
  | [], i, env, h, y, hy, hr, hx, hL, l1, l2 => by
    simp only [Q3t, Option.some.injEq] at hy
    subst hy
    refine ⟨rfl, hL, fun j o x hj ho _ => ?_, l1, l2⟩
    have := hr (j - i)
    rw [show i + (j - i) = j by omega, ho] at this
    simp at this
  | o :: r, i, env, h, y, hy, hr, hx, hL, l1, l2 => by
    simp only [Q3t] at hy
    obtain ⟨x, hst, hy⟩ := bind_some hy
    obtain ⟨z, hz, hy⟩ := bind_some hy
    injection hy with hy
    subst hy
    have ho : ios[i]? = some o := by have := hr 0; simpa using this.symm
    have hxi : xs[i]? = some x := by have := hx 0; simpa using this.symm
    have n1 : Last (WE L ios xs) e0 (· < i + 1) (envF (put env o.dst x.v)) := l1.add (i := i) (fun k => by omega) (fun k t hk hlt => by omega) (fun t => by rw [Q13i ho hxi, Qub, hL])
    have n2 : Last (WH xs) H0 (· < i + 1) (look (hput h x.hw)) := l2.add (i := i) (fun k => by omega) (fun k t hk hlt => by omega) (fun t => by rw [Q10g hxi, Q4t])
    obtain ⟨g1, g2, g3, g4, g5⟩ := Qby r (i + 1) _ _ z hz (fun j => by have := hr (j + 1); rw [show i + (j + 1) = i + 1 + j by omega] at this; simpa using this)
      (fun j => by have := hx (j + 1); rw [show i + (j + 1) = i + 1 + j by omega] at this; simpa using this) (by rw [Qm1, hL]) n1 n2
    refine ⟨by simp [g1], g2, fun j o' x' hj ho' hx' => ?_, ?_, ?_⟩
    · by_cases c : j = i
      · subst c
        rw [ho] at ho'
        injection ho' with ho'
        rw [hxi] at hx'
        injection hx' with hx'
        subst ho' hx'
        exact ⟨_, _, l1, l2, hst⟩
      · exact g3 j o' x' (by omega) ho' hx'
    · rw [show i + (o :: r).length = i + 1 + r.length by simp; omega]; exact g4
    · rw [show i + (o :: r).length = i + 1 + r.length by simp; omega]; exact g5
theorem Qjz {j : Nat} {b : IOper} {y : Eff} : ∀ {i : Nat} {l : List (IOper × Eff)}, Q16e j b y i l = true → ∀ (k : Nat) a x, l[k]? = some (a, x) → i + k = j ∨ i + k ∈ b.bef ∨ clash a x b y = false
  | i, [], _, k, a, x, h => by simp at h
  | i, (a, x) :: r, h, k, a', x', hk => by
    simp only [Q16e, Bool.and_eq_true, Bool.or_eq_true] at h
    cases k with
    | zero =>
      simp at hk
      obtain ⟨rfl, rfl⟩ := hk
      rcases h.1 with (h1 | h1) | h1
      · exact .inl (Nat.eq_of_beq_eq_true h1)
      · exact .inr (.inl (Q5g.1 h1))
      · exact .inr (.inr (by simpa using h1))
    | succ k =>
      have := Qjz h.2 k a' x' (by simpa using hk)
      rw [show i + (k + 1) = i + 1 + k by omega]
      exact this
theorem Qq5 {all : List (IOper × Eff)} : ∀ {j : Nat} {l : List (IOper × Eff)}, calm all j l = true → (∀ k, l[k]? = all[j + k]?) → ∀ (i k : Nat) a x b y, j ≤ k → i < k → all[i]? = some (a, x) → all[k]? = some (b, y) → i ∈ b.bef ∨ clash a x b y = false
  | j, [], _, hl, i, k, a, x, b, y, hj, _, _, hk => by
    have := hl (k - j)
    rw [show j + (k - j) = k by omega, hk] at this
    simp at this
  | j, (b', y') :: r, h, hl, i, k, a, x, b, y, hj, hik, hi, hk => by
    simp only [calm, Bool.and_eq_true] at h
    by_cases c : k = j
    · subst c
      have h0 := hl 0
      rw [Nat.add_zero, hk] at h0
      simp at h0
      obtain ⟨rfl, rfl⟩ := h0
      have := Qjz h.1 i a x (by rw [List.getElem?_take_of_lt hik]; exact hi)
      rcases this with h' | h' | h'
      · omega
      · exact .inl (by simpa using h')
      · exact .inr h'
    · exact Qq5 h.2 (fun q => by have := hl (q + 1); rw [show j + (q + 1) = j + 1 + q by omega] at this; simpa using this) i k a x b y (by omega) hik hi hk
theorem Qjl {l : List Nat} {d : Option Nat} : Qsc l d = false ↔ ∀ t, d = some t → t ∉ l := by
  cases d with
  | none => simp [Qsc]
  | some d =>
    simp only [Qsc, Option.some.injEq]
    constructor
    · rintro h t rfl ht
      rw [Q5g.2 ht] at h; cases h
    · intro h
      cases hh : has l d with
      | false => rfl
      | true => exact absurd (Q5g.1 hh) (h d rfl)
theorem Q4k {a b : IOper} {x y : Eff} (h : clash a x b y = false) :
    (∀ t, a.dst = some t → t ∉ b.looks) ∧ (∀ t, b.dst = some t → t ∉ a.looks) ∧ (∀ t, a.dst = some t → b.dst ≠ some t) ∧ (∀ id ∈ x.hw.map (·.1), id ∉ y.hr ∧ id ∉ y.hw.map (·.1)) ∧ (∀ id ∈ y.hw.map (·.1), id ∉ x.hr) := by
  unfold clash at h
  simp only [Bool.or_eq_false_iff, Bool.not_eq_false'] at h
  obtain ⟨⟨⟨⟨h1, h2⟩, h3⟩, h4⟩, h5⟩ := h
  refine ⟨Qjl.1 h1, Qjl.1 h2, fun t ha hb => ?_, fun id hi => ?_, Qce.1 h5⟩
  · rw [ha, hb] at h3
    simp [Q1ak] at h3
  · have := Qce.1 h4 id hi
    exact ⟨fun hc => this (List.mem_append_left _ hc), fun hc => this (List.mem_append_right _ hc)⟩
theorem Q96 : ∀ (h : List (Nat × Ob)) (id : Nat), look (h.map fun x => (x.1, Qc0 x.2)) id = (look h id).map Qc0
 | [], _ => rfl
 | (k, o) :: r, id => by
  simp only [List.map_cons, look]
  cases Nat.beq k id with
  | true => rfl
  | false => exact Q96 r id
end Go.Pv
end

section
/-
  Runs along a trace, over objects of which only their rows are known (views); what calls and loops answer is handed in.
-/
namespace Go.Pv
abbrev Views := List (Nat × List (List PV))
def plain : PV → Bool
 | .bool _ => true
 | .int _ _ => true
 | .str _ => true
 | .sl _ => true
 | .np => true
 | .nf => true
 | _ => false
structure ViewOK (sz : Nat) (cells : List PV) (rows : List (List PV)) : Prop where
  flat : cells = rows.flatten
  size : ∀ r ∈ rows, r.length = sz
  plain : ∀ r ∈ rows, ∀ p ∈ r, plain p = true
def VOK (H : Nat → Option Ob) (vw : Views) : Prop := ∀ id rows, look vw id = some rows → ∃ ob, H id = some ob ∧ ViewOK ob.sz ob.cells rows
def Met (l : List Prop) : Prop := ∀ p ∈ l, p
theorem Met.nil : Met [] := fun _ h => absurd h List.not_mem_nil
theorem Met.cons {p : Prop} {l : List Prop} (h : p) (hl : Met l) : Met (p :: l) := fun q hq => by
  rcases List.mem_cons.1 hq with rfl | hq
  · exact h
  · exact hl q hq
theorem Met.left {a b : List Prop} (h : Met (a ++ b)) : Met a := fun p hp => h p (List.mem_append_left _ hp)
theorem Met.right {a b : List Prop} (h : Met (a ++ b)) : Met b := fun p hp => h p (List.mem_append_right _ hp)
theorem Met.head {p : Prop} {l : List Prop} (h : Met (p :: l)) : p := h p List.mem_cons_self
theorem Met.tail {p : Prop} {l : List Prop} (h : Met (p :: l)) : Met l := fun q hq => h q (List.mem_cons_of_mem _ hq)
def mapV {α β : Type} (f : α → Option (β × List Prop)) : List α → Option (List β × List Prop)
 | [] => some ([], [])
 | x :: r => (f x).bind fun y => (mapV f r).bind fun l => some (y.1 :: l.1, y.2 ++ l.2)
theorem Q4j {α β : Type} {f : α → Option (β × List Prop)} {g : α → Option β} (hf : ∀ a y, f a = some y → Met y.2 → g a = some y.1) : ∀ (l : List α) (y : List β × List Prop), mapV f l = some y → Met y.2 → mapO g l = some y.1
 | [], y, h, _ => by
  simp only [mapV, Option.some.injEq] at h
  subst h
  rfl
 | a :: r, y, h, hm => by
  obtain ⟨b, hb, h⟩ := Qi h
  obtain ⟨l, hl, h⟩ := Qi h
  simp only [Option.some.injEq] at h
  subst h
  simp only [mapO]
  rw [hf a b hb hm.left, Option.bind_some, Q4j hf r l hl hm.right]
  rfl
def fzV (H : Nat → Option Ob) (vw : Views) : Nat → PV → Option ((PV × List Nat) × List Prop)
  | 0, _ => none
  | n + 1, v =>
    match v with
    | .bx _ _ => none
    | .ns _ => some ((.sl [], []), [])
    | .ms id sz off len =>
      (H id).bind fun ob =>
        match look vw id with
        | some rows => bif Nat.beq ob.sz sz && (Nat.beq off 0 && Nat.ble 1 n) then some ((.sl rows, [id]), [len = rows.length]) else none
        | none =>
          bif Nat.beq ob.sz sz && Nat.ble ((off + len) * sz) ob.cells.length then
            (mapV (fzV H vw n) ((ob.cells.drop (off * sz)).take (len * sz))).bind fun l =>
              some ((.sl (rowsOf sz len (l.1.map (·.1))), id :: (l.1.map (·.2)).flatten), l.2)
          else none
    | .agg c => (mapV (fzV H vw n) c).bind fun l => some ((.agg (l.1.map (·.1)), (l.1.map (·.2)).flatten), l.2)
    | .tup c => (mapV (fzV H vw n) c).bind fun l => some ((.tup (l.1.map (·.1)), (l.1.map (·.2)).flatten), l.2)
    | .fn f a b => (mapV (fzV H vw n) a).bind fun l => (mapV (fzV H vw n) b).bind fun m => some ((.fn f (l.1.map (·.1)) (m.1.map (·.1)), (l.1.map (·.2)).flatten ++ (m.1.map (·.2)).flatten), l.2 ++ m.2)
    | v => some ((v, []), [])
theorem Qk7 {H : Nat → Option Ob} {n : Nat} : ∀ (l : List PV), (∀ p ∈ l, plain p = true) → mapO (fz H (n + 1)) l = some (l.map fun p => (p, []))
 | [], _ => rfl
 | p :: r, h => by
  have h1 : fz H (n + 1) p = some (p, []) := by
   have := h p List.mem_cons_self
   cases p <;> first | rfl | (simp [plain] at this)
  simp only [mapO]
  rw [h1, Option.bind_some, Qk7 r (fun q hq => h q (List.mem_cons_of_mem _ hq))]
  rfl
theorem Qbn {α β : Type} : ∀ (l : List α), (l.map fun _ => ([] : List β)).flatten = []
 | [] => rfl
 | _ :: r => by simp [Qbn r]
theorem Qg0 (sz : Nat) : ∀ (rows : List (List PV)), (∀ r ∈ rows, r.length = sz) → rowsOf sz rows.length rows.flatten = rows
 | [], _ => rfl
 | r :: rs, h => by
  have h0 := h r List.mem_cons_self
  simp only [List.length_cons, rowsOf, List.flatten_cons]
  rw [List.take_left' h0, List.drop_left' h0, Qg0 sz rs (fun q hq => h q (List.mem_cons_of_mem _ hq))]
theorem Q3d (sz : Nat) : ∀ (rows : List (List PV)), (∀ r ∈ rows, r.length = sz) → rows.flatten.length = rows.length * sz
 | [], _ => by simp
 | r :: rs, h => by
  simp only [List.flatten_cons, List.length_append, List.length_cons]
  rw [Q3d sz rs (fun q hq => h q (List.mem_cons_of_mem _ hq)), h r List.mem_cons_self, Nat.add_mul]
  omega
theorem ViewOK.all {sz : Nat} {cells : List PV} {rows : List (List PV)} (h : ViewOK sz cells rows) : ∀ p ∈ cells, Pv.plain p = true := fun p hp => by
 rw [h.flat] at hp
 obtain ⟨r, hr, hp⟩ := List.mem_flatten.1 hp
 exact h.plain r hr p hp
theorem Q186 {H : Nat → Option Ob} {n k : Nat} (hk : k = n + 1) {id sz len : Nat} {ob : Ob} {rows : List (List PV)} (hH : H id = some ob) (hv : ViewOK ob.sz ob.cells rows) (hs : ob.sz = sz) (hl : len = rows.length) : fz H (k + 1) (.ms id sz 0 len) = some (.sl rows, [id]) := by
  subst hs hl
  have hc : ob.cells.length = rows.length * ob.sz := by rw [hv.flat]; exact Q3d _ _ hv.size
  simp only [fz]
  rw [hH, Option.bind_some]
  have hb : (Nat.beq ob.sz ob.sz && Nat.ble ((0 + rows.length) * ob.sz) ob.cells.length) = true := by
    rw [hc]
    simp
  rw [hb]
  simp only [cond_true, Nat.zero_mul, List.drop_zero]
  rw [← hc, List.take_length]
  have := Qk7 (H := H) (n := n) ob.cells hv.all
  rw [hk, this, Option.bind_some]
  simp only [List.map_map, Option.some.injEq, Prod.mk.injEq]
  refine ⟨?_, ?_⟩
  · have e2 : List.map ((fun x : PV × List Nat => x.fst) ∘ fun p => (p, ([] : List Nat))) ob.cells = ob.cells := by
      rw [show ((fun x : PV × List Nat => x.fst) ∘ fun p => (p, ([] : List Nat))) = fun p => p from rfl]
      exact List.map_id' _
    rw [e2, hv.flat, Qg0 _ _ hv.size]
  · have e2 : ((fun x : PV × List Nat => x.snd) ∘ fun p => (p, ([] : List Nat))) = fun _ => [] := rfl
    rw [e2, Qbn]
theorem Qso {H : Nat → Option Ob} {vw : Views} (hv : VOK H vw) : ∀ (n : Nat) (v : PV) (y : (PV × List Nat) × List Prop), fzV H vw n v = some y → Met y.2 → fz H n v = some y.1
 | 0, v, y, h, _ => by cases h
 | n + 1, v, y, h, hm => by
  have ih := Qso hv n
  cases v with
  | ms id sz off len =>
   simp only [fzV] at h
   obtain ⟨ob, hob, h⟩ := Qi h
   cases hl : look vw id with
   | some rows =>
    rw [hl] at h
    simp only at h
    obtain ⟨ob', hob', hok⟩ := hv id rows hl
    rw [hob] at hob'
    injection hob' with hob'
    subst hob'
    cases hc : (Nat.beq ob.sz sz && (Nat.beq off 0 && Nat.ble 1 n)) with
    | false => rw [hc] at h; cases h
    | true =>
     rw [hc] at h
     simp only [cond_true, Option.some.injEq] at h
     subst h
     simp only [Bool.and_eq_true] at hc
     obtain ⟨c1, c2, c3⟩ := hc
     have c2 := Nat.eq_of_beq_eq_true c2
     have c1 := Nat.eq_of_beq_eq_true c1
     have c3 := Nat.le_of_ble_eq_true c3
     subst c2
     obtain ⟨m, rfl⟩ : ∃ m, n = m + 1 := ⟨n - 1, by omega⟩
     exact Q186 rfl hob hok c1 hm.head
   | none =>
    rw [hl] at h
    simp only at h
    simp only [fz]
    rw [hob, Option.bind_some]
    cases hc : (Nat.beq ob.sz sz && Nat.ble ((off + len) * sz) ob.cells.length) with
    | false => rw [hc] at h; cases h
    | true =>
     rw [hc] at h
     simp only [cond_true] at h ⊢
     obtain ⟨l, hl, h⟩ := Qi h
     simp only [Option.some.injEq] at h
     subst h
     rw [Q4j ih _ l hl hm, Option.bind_some]
  | agg c =>
   simp only [fzV] at h
   obtain ⟨l, hl, h⟩ := Qi h
   simp only [Option.some.injEq] at h
   subst h
   simp only [fz]
   rw [Q4j ih _ l hl hm, Option.bind_some]
  | tup c =>
   simp only [fzV] at h
   obtain ⟨l, hl, h⟩ := Qi h
   simp only [Option.some.injEq] at h
   subst h
   simp only [fz]
   rw [Q4j ih _ l hl hm, Option.bind_some]
  | fn f a b =>
   simp only [fzV] at h
   obtain ⟨l, hl, h⟩ := Qi h
   obtain ⟨m, hm2, h⟩ := Qi h
   simp only [Option.some.injEq] at h
   subst h
   simp only [fz]
   rw [Q4j ih _ l hl hm.left, Option.bind_some, Q4j ih _ m hm2 hm.right, Option.bind_some]
  | bx _ _ => cases h
  | _ =>
   simp only [fzV, Option.some.injEq] at h
   subst h
   rfl
def Q6m (f : PV → List Nat → Option (Pass × List Prop)) : List PV → List Nat → Option ((List PV × List Nat × List Nat) × List Prop)
 | [], ids => some (([], ids, []), [])
 | p :: r, ids => (f p ids).bind fun x => (Q6m f r x.1.ids).bind fun y => some ((x.1.v :: y.1.1, y.1.2.1, x.1.fr ++ y.1.2.2), x.2 ++ y.2)
theorem Q28 {f : PV → List Nat → Option (Pass × List Prop)} {g : PV → List Nat → Option Pass} (hf : ∀ a ids y, f a ids = some y → Met y.2 → g a ids = some y.1) : ∀ (l : List PV) (ids : List Nat) (y : (List PV × List Nat × List Nat) × List Prop), Q6m f l ids = some y → Met y.2 → Q3f g l ids = some y.1
 | [], ids, y, h, _ => by
  simp only [Q6m, Option.some.injEq] at h
  subst h
  rfl
 | a :: r, ids, y, h, hm => by
  simp only [Q6m] at h
  obtain ⟨b, hb, h⟩ := Qi h
  obtain ⟨l, hl, h⟩ := Qi h
  simp only [Option.some.injEq] at h
  subst h
  simp only [Q3f]
  rw [hf a ids b hb hm.left, Option.bind_some, Q28 hf r _ l hl hm.right]
  rfl
def Q8r (H : Nat → Option Ob) (vw : Views) (byRef : Bool) : Nat → PV → List Nat → Option (Pass × List Prop)
 | 0, _, _ => none
 | n + 1, v, ids =>
  match v with
  | .bx id off => let x := Qmg ids id; some (⟨.bx x.1 off, x.2, []⟩, [])
  | .ms id sz off len =>
   bif byRef then (let x := Qmg ids id; some (⟨.ms x.1 sz off len, x.2, []⟩, []))
   else (fzV H vw 8 (.ms id sz off len)).bind fun x => some (⟨x.1.1, ids, x.1.2⟩, x.2)
  | .ns _ => some (⟨.sl [], ids, []⟩, [])
  | .agg c => (Q6m (Q8r H vw byRef n) c ids).bind fun y => some (⟨.agg y.1.1, y.1.2.1, y.1.2.2⟩, y.2)
  | .tup c => (Q6m (Q8r H vw byRef n) c ids).bind fun y => some (⟨.tup y.1.1, y.1.2.1, y.1.2.2⟩, y.2)
  | .fn f a b => (Q6m (Q8r H vw byRef n) a ids).bind fun y => (Q6m (Q8r H vw byRef n) b y.1.2.1).bind fun z => some (⟨.fn f y.1.1 z.1.1, z.1.2.1, y.1.2.2 ++ z.1.2.2⟩, y.2 ++ z.2)
  | v => some (⟨v, ids, []⟩, [])
theorem Q4q {H : Nat → Option Ob} {vw : Views} (hv : VOK H vw) {byRef : Bool} : ∀ (n : Nat) (v : PV) (ids : List Nat) (y : Pass × List Prop), Q8r H vw byRef n v ids = some y → Met y.2 → pass H byRef n v ids = some y.1
 | 0, v, ids, y, h, _ => by cases h
 | n + 1, v, ids, y, h, hm => by
  have ih := Q4q hv (byRef := byRef) n
  cases v with
  | ms id sz off len =>
   cases byRef with
   | true =>
    simp only [Q8r, cond_true, Option.some.injEq] at h
    subst h
    rfl
   | false =>
    simp only [Q8r, cond_false] at h
    obtain ⟨x, hx, h⟩ := Qi h
    simp only [Option.some.injEq] at h
    subst h
    simp only [pass, cond_false]
    rw [Qso hv 8 _ x hx hm, Option.bind_some]
  | agg c =>
   simp only [Q8r] at h
   obtain ⟨l, hl, h⟩ := Qi h
   simp only [Option.some.injEq] at h
   subst h
   simp only [pass]
   rw [Q28 ih _ _ l hl hm, Option.bind_some]
  | tup c =>
   simp only [Q8r] at h
   obtain ⟨l, hl, h⟩ := Qi h
   simp only [Option.some.injEq] at h
   subst h
   simp only [pass]
   rw [Q28 ih _ _ l hl hm, Option.bind_some]
  | fn f a b =>
   simp only [Q8r] at h
   obtain ⟨l, hl, h⟩ := Qi h
   obtain ⟨m, hm2, h⟩ := Qi h
   simp only [Option.some.injEq] at h
   subst h
   simp only [pass]
   rw [Q28 ih _ _ l hl hm.left, Option.bind_some, Q28 ih _ _ m hm2 hm.right, Option.bind_some]
  | _ =>
   simp only [Q8r, Option.some.injEq] at h
   subst h
   rfl
theorem Q8i {H : Nat → Option Ob} {byRef : Bool} {n : Nat} : ∀ (l : List PV) (ids : List Nat), (∀ p ∈ l, plain p = true) → Q3f (pass H byRef (n + 1)) l ids = some (l, ids, [])
 | [], _, _ => rfl
 | p :: r, ids, h => by
  have h1 : pass H byRef (n + 1) p ids = some ⟨p, ids, []⟩ := by
   have := h p List.mem_cons_self
   cases p <;> first | rfl | (simp [plain] at this)
  simp only [Q3f]
  rw [h1, Option.bind_some, Q8i r ids (fun q hq => h q (List.mem_cons_of_mem _ hq))]
  rfl
def Q6d (H : Nat → Option Ob) (vw : Views) (byRef own : Bool) : Nat → Nat → List Nat → Option ((List Ob × List Nat × List Nat) × List Prop)
 | 0, _, _ => none
 | n + 1, k, ids =>
  match ids[k]? with
  | none => some (([], ids, []), [])
  | some id =>
   (H id).bind fun ob =>
    match look vw id with
    | some _ => (Q6d H vw byRef own n (k + 1) ids).bind fun z => some ((⟨ob.sz, ob.ro, ob.gr && own, ob.cells⟩ :: z.1.1, z.1.2.1, z.1.2.2), z.2)
    | none => (Q6m (Q8r H vw byRef 8) ob.cells ids).bind fun y =>
     (Q6d H vw byRef own n (k + 1) y.1.2.1).bind fun z => some ((⟨ob.sz, ob.ro, ob.gr && own, y.1.1⟩ :: z.1.1, z.1.2.1, y.1.2.2 ++ z.1.2.2), y.2 ++ z.2)
theorem Q34 {H : Nat → Option Ob} {vw : Views} (hv : VOK H vw) {byRef own : Bool} : ∀ (n k : Nat) (ids : List Nat) (y : (List Ob × List Nat × List Nat) × List Prop), Q6d H vw byRef own n k ids = some y → Met y.2 → Q1u H byRef own n k ids = some y.1
 | 0, _, _, y, h, _ => by cases h
 | n + 1, k, ids, y, h, hm => by
  simp only [Q6d] at h
  simp only [Q1u]
  cases hk : ids[k]? with
  | none =>
   rw [hk] at h
   simp only [Option.some.injEq] at h
   subst h
   rfl
  | some id =>
   rw [hk] at h
   simp only at h ⊢
   obtain ⟨ob, hob, h⟩ := Qi h
   rw [hob, Option.bind_some]
   cases hl : look vw id with
   | some rows =>
    rw [hl] at h
    simp only at h
    obtain ⟨ob', hob', hok⟩ := hv id rows hl
    rw [hob] at hob'
    injection hob' with hob'
    subst hob'
    obtain ⟨z, hz, h⟩ := Qi h
    simp only [Option.some.injEq] at h
    subst h
    rw [Q8i (n := 7) ob.cells ids hok.all, Option.bind_some, Q34 hv n _ _ z hz hm]
    rfl
   | none =>
    rw [hl] at h
    simp only at h
    obtain ⟨x, hx, h⟩ := Qi h
    obtain ⟨z, hz, h⟩ := Qi h
    simp only [Option.some.injEq] at h
    subst h
    rw [Q28 (Q4q hv 8) _ _ x hx hm.left, Option.bind_some, Q34 hv n _ _ z hz hm.right]
    rfl
def Q8a (vw : Views) : Nat → List (Nat × Ob) → List (Nat × Ob) × Nat × List (Nat × Ob)
 | nx, [] => ([], nx, [])
 | nx, (id, ob) :: r =>
  match look vw id with
  | some _ => let z := Q8a vw nx r; ((id, ob) :: z.1, z.2.1, z.2.2)
  | none => let y := Q32 nx ob.cells; let z := Q8a vw y.2.1 r; ((id, ⟨ob.sz, ob.ro, ob.gr, y.1⟩) :: z.1, z.2.1, y.2.2 ++ z.2.2)
theorem Qg5 : ∀ (l : List PV) (nx : Nat), (∀ p ∈ l, plain p = true) → Q32 nx l = (l, nx, [])
 | [], _, _ => rfl
 | p :: r, nx, h => by
  have h2 := Qg5 r nx (fun q hq => h q (List.mem_cons_of_mem _ hq))
  have h1 := h p List.mem_cons_self
  cases p <;> first | (simp [plain] at h1; done) | (simp only [Q32, h2])
def VAll (h : List (Nat × Ob)) (vw : Views) : Prop := ∀ id ob rows, (id, ob) ∈ h → look vw id = some rows → ∀ p ∈ ob.cells, plain p = true
theorem Qgh {vw : Views} : ∀ (h : List (Nat × Ob)) (nx : Nat), VAll h vw → Q8a vw nx h = Qba nx h
 | [], _, _ => rfl
 | (id, ob) :: r, nx, hv => by
  have hr : VAll r vw := fun i o rs hi hl => hv i o rs (List.mem_cons_of_mem _ hi) hl
  simp only [Q8a, Qba]
  cases hl : look vw id with
  | some rows =>
   simp only
   rw [Qg5 ob.cells nx (hv id ob rows List.mem_cons_self hl), Qgh r nx hr]
   rfl
  | none =>
   simp only
   rw [Qgh r _ hr]
def Qrr : List (Nat × Ob) → Bool
 | [] => true
 | (k, _) :: r => (r.all fun x => !(Nat.beq x.1 k)) && Qrr r
theorem Q12r {h : List (Nat × Ob)} : ∀ {id : Nat} {ob : Ob}, Qrr h = true → (id, ob) ∈ h → look h id = some ob := by
  induction h with
  | nil => intro id ob _ hm; cases hm
  | cons x r ih =>
    obtain ⟨k, o⟩ := x
    intro id ob ho hm
    simp only [Qrr, Bool.and_eq_true, List.all_eq_true] at ho
    simp only [look]
    rcases List.mem_cons.1 hm with e | hm
    · injection e with e1 e2
      subst e1 e2
      simp
    · have : Nat.beq k id = false := by
        have := ho.1 _ hm
        simp only [Bool.not_eq_true'] at this
        rw [Bool.eq_false_iff] at this ⊢
        intro c
        have := Nat.eq_of_beq_eq_true c
        subst this
        simp at *
      rw [this]
      simp only [cond_false]
      exact ih ho.2 hm
theorem VOK.allIn {h : List (Nat × Ob)} {vw : Views} (ho : Qrr h = true) (hv : VOK (look h) vw) : VAll h vw := fun id ob rows hm hl => by
 obtain ⟨ob', hob, hok⟩ := hv id rows hl
 rw [Q12r ho hm] at hob
 injection hob with hob
 subst hob
 exact hok.all
theorem Qn2 {α : Type} {a b : List (Nat × α)} {id : Nat} : look (a ++ b) id = match look a id with | some x => some x | none => look b id := by
 induction a with
 | nil => rfl
 | cons x r ih =>
  obtain ⟨k, o⟩ := x
  simp only [List.cons_append, look]
  cases Nat.beq k id with
  | true => rfl
  | false => exact ih
theorem Q8v {vw : Views} : ∀ (h : List (Nat × Ob)) (nx : Nat) (id : Nat) (rows : List (List PV)) (ob : Ob), look vw id = some rows → look h id = some ob → look (Q8a vw nx h).1 id = some ob
 | [], _, _, _, _, _, h => by cases h
 | (k, o) :: r, nx, id, rows, ob, hl, h => by
  simp only [look] at h
  cases c : Nat.beq k id with
  | true =>
   have := Nat.eq_of_beq_eq_true c
   subst this
   rw [c] at h
   simp only [cond_true, Option.some.injEq] at h
   subst h
   simp only [Q8a, hl, look, c, cond_true]
  | false =>
   rw [c] at h
   simp only [cond_false] at h
   simp only [Q8a]
   cases look vw k with
   | some _ =>
    simp only [look, c, cond_false]
    exact Q8v r nx id rows ob hl h
   | none =>
    simp only [look, c, cond_false]
    exact Q8v r _ id rows ob hl h
def gcV0 (vw : Views) (m : Nat) (live : List Nat) (s : St) : Option ((List PV × List Ob) × List Prop) :=
 bif Qrr s.heap then
  let a := Q32 s.nx (mask live 0 s.env)
  let b := Q8a vw a.2.1 s.heap
  let H := look (b.1 ++ (a.2.2 ++ b.2.2))
  (Q6m (Q8r H vw true 8) a.1 (upTo m)).bind fun y =>
   (Q6d H vw true true 32 0 y.1.2.1).bind fun z => some ((y.1.1, z.1.1), y.2 ++ z.2)
 else none
theorem Qkq {vw : Views} {m : Nat} {live : List Nat} {s : St} (hv : VOK (look s.heap) vw) {y : (List PV × List Ob) × List Prop} (h : gcV0 vw m live s = some y) (hm : Met y.2) : gc0 m live s = some y.1 := by
 unfold gcV0 at h
 unfold gc0
 cases ho : Qrr s.heap with
 | false => rw [ho] at h; cases h
 | true =>
  rw [ho] at h
  simp only [cond_true] at h ⊢
  have e := Qgh (vw := vw) s.heap (Q32 s.nx (mask live 0 s.env)).2.1 (hv.allIn ho)
  have hv' : VOK (look ((Q8a vw (Q32 s.nx (mask live 0 s.env)).2.1 s.heap).1 ++ ((Q32 s.nx (mask live 0 s.env)).2.2 ++ (Q8a vw (Q32 s.nx (mask live 0 s.env)).2.1 s.heap).2.2))) vw := by
   intro id rows hl
   obtain ⟨ob, hob, hok⟩ := hv id rows hl
   refine ⟨ob, ?_, hok⟩
   rw [Qn2, Q8v s.heap _ id rows ob hl hob]
  rw [← e]
  obtain ⟨x, hx, h⟩ := Qi h
  obtain ⟨z, hz, h⟩ := Qi h
  simp only [Option.some.injEq] at h
  subst h
  rw [Q28 (Q4q hv' 8) _ _ x hx hm.left, Option.bind_some, Q34 hv' 32 _ _ z hz hm.right, Option.bind_some]
def Q13p (vw : Views) (h : List (Nat × Ob)) : List (Nat × Ob) := h.map fun x => (match look vw x.1 with | some _ => x | none => (x.1, Qc0 x.2))
def Qti (vw : Views) (s : St) : St := ⟨s.env.map Qoc, Q13p vw s.heap, s.nx⟩
def gcV (vw : Views) (m : Nat) (live : List Nat) (s : St) : Option ((List PV × List Ob) × List Prop) :=
 bif has live 200001 then (bif Qrr s.heap then gcV0 vw m live (Qti vw s) else none) else gcV0 vw m live s
theorem Qdc {l : List PV} (h : ∀ p ∈ l, plain p = true) : l.map Qoc = l := by
 induction l with
 | nil => rfl
 | cons p r ih =>
  have h1 := h p List.mem_cons_self
  rw [List.map_cons, ih (fun q hq => h q (List.mem_cons_of_mem _ hq))]
  cases p <;> first | (simp [plain] at h1; done) | rfl
theorem Qro {vw : Views} : ∀ (h : List (Nat × Ob)), VAll h vw → Q13p vw h = h.map fun x => (x.1, Qc0 x.2)
 | [], _ => rfl
 | (id, ob) :: r, hv => by
  have hr : VAll r vw := fun i o rs hi hl => hv i o rs (List.mem_cons_of_mem _ hi) hl
  have ih := Qro r hr
  unfold Q13p at ih ⊢
  rw [List.map_cons, List.map_cons, ih]
  cases hl : look vw id with
  | none => rfl
  | some rows =>
   simp only
   rw [show Qc0 ob = ob from by unfold Qc0; rw [Qdc (hv id ob rows List.mem_cons_self hl)]]
theorem Qsi {vw : Views} {m : Nat} {live : List Nat} {s : St} (hv : VOK (look s.heap) vw) {y : (List PV × List Ob) × List Prop} (h : gcV vw m live s = some y) (hm : Met y.2) : gc m live s = some y.1 := by
 unfold gcV at h
 unfold gc
 cases c : has live 200001 with
 | false =>
  rw [c] at h
  exact Qkq hv h hm
 | true =>
  rw [c, cond_true] at h
  rw [cond_true]
  cases ho : Qrr s.heap with
  | false => rw [ho] at h; cases h
  | true =>
   rw [ho, cond_true] at h
   have e : Qti vw s = Q5l s := by
    unfold Qti Q5l
    rw [Qro s.heap (hv.allIn ho)]
   rw [e] at h
   refine Qkq (fun id rows hl => ?_) h hm
   obtain ⟨ob, hob, hok⟩ := hv id rows hl
   have hf : Qc0 ob = ob := by
    unfold Qc0
    rw [Qdc hok.all]
   refine ⟨ob, ?_, hok⟩
   rw [show (Q5l s).heap = s.heap.map fun x => (x.1, Qc0 x.2) from rfl, Q96, hob, Option.map_some, hf]
structure Ans where
  r : Rs
  vw : Views
def Q4h (g : Nat → Nat) (vw : Views) : Nat → List Ob → Option (List (Nat × Option Ob) × List Prop × Views)
 | _, [] => some ([], [], [])
 | k, ob :: r =>
  match look vw k with
  | some rows => (Q4h g vw (k + 1) r).bind fun m => some ((g k, some ob) :: m.1, ViewOK ob.sz ob.cells rows :: m.2.1, (g k, rows) :: m.2.2)
  | none => (mapO (back g 8) ob.cells).bind fun l => (Q4h g vw (k + 1) r).bind fun m => some ((g k, some ⟨ob.sz, ob.ro, ob.gr, l⟩) :: m.1, m.2)
theorem Q6t {g : Nat → Nat} {n : Nat} : ∀ (l : List PV), (∀ p ∈ l, plain p = true) → mapO (back g (n + 1)) l = some l
 | [], _ => rfl
 | p :: r, h => by
  have h1 : back g (n + 1) p = some p := by
   have := h p List.mem_cons_self
   cases p <;> first | rfl | (simp [plain] at this)
  simp only [mapO]
  rw [h1, Option.bind_some, Q6t r (fun q hq => h q (List.mem_cons_of_mem _ hq))]
  rfl
theorem Q5h {g : Nat → Nat} {vw : Views} : ∀ (l : List Ob) (k : Nat) (y : List (Nat × Option Ob) × List Prop × Views), Q4h g vw k l = some y → Met y.2.1 → Q6k g k l = some y.1
 | [], k, y, h, _ => by
  simp only [Q4h, Option.some.injEq] at h
  subst h
  rfl
 | ob :: r, k, y, h, hm => by
  simp only [Q4h] at h
  simp only [Q6k]
  cases hl : look vw k with
  | some rows =>
   rw [hl] at h
   simp only at h
   obtain ⟨m, hm', h⟩ := Qi h
   simp only [Option.some.injEq] at h
   subst h
   rw [Q6t ob.cells (Met.head hm).all, Option.bind_some, Q5h r _ m hm' (Met.tail hm)]
   rfl
  | none =>
   rw [hl] at h
   simp only at h
   obtain ⟨l, hl', h⟩ := Qi h
   obtain ⟨m, hm', h⟩ := Qi h
   simp only [Option.some.injEq] at h
   subst h
   rw [hl', Option.bind_some, Q5h r _ m hm' hm]
   rfl
theorem Q5i {g : Nat → Nat} {vw : Views} : ∀ (l : List Ob) (k : Nat) (y : List (Nat × Option Ob) × List Prop × Views), Q4h g vw k l = some y → Met y.2.1 → ∀ id rows, (id, rows) ∈ y.2.2 → ∃ ob, (id, some ob) ∈ y.1 ∧ ViewOK ob.sz ob.cells rows
  | [], k, y, h, _ => by
    simp only [Q4h, Option.some.injEq] at h
    subst h
    intro id rows hx
    cases hx
  | ob :: r, k, y, h, hm => by
    simp only [Q4h] at h
    cases hl : look vw k with
    | some rows =>
      rw [hl] at h
      simp only at h
      obtain ⟨m, hm', h⟩ := Qi h
      simp only [Option.some.injEq] at h
      subst h
      intro id rws hx
      rcases List.mem_cons.1 hx with e | hx
      · injection e with e1 e2
        subst e1 e2
        exact ⟨ob, List.mem_cons_self, Met.head hm⟩
      · obtain ⟨o, ho, hv⟩ := Q5i r _ m hm' (Met.tail hm) id rws hx
        exact ⟨o, List.mem_cons_of_mem _ ho, hv⟩
    | none =>
      rw [hl] at h
      simp only at h
      obtain ⟨l, hl', h⟩ := Qi h
      obtain ⟨m, hm', h⟩ := Qi h
      simp only [Option.some.injEq] at h
      subst h
      intro id rws hx
      obtain ⟨o, ho, hv⟩ := Q5i r _ m hm' hm id rws hx
      exact ⟨o, List.mem_cons_of_mem _ ho, hv⟩
structure EV where
  eff : Eff
  cut : List Nat
  new : Views
  az : List Ans
  owed : List Prop
  asked : Q8z
def Q17b (H : Nat → Option Ob) (vw : Views) (fr : Nat) (byRef : Bool) (f : Nat) (args : List PV) (az : List Ans) : Option EV :=
  (Q6m (Q8r H vw byRef 8) args []).bind fun y =>
  (Q6d H vw false false 16 0 y.1.2.1).bind fun z =>
  let ids := z.1.2.1
  let lent := y.1.2.2 ++ z.1.2.2
  bif disj lent ids then
    match az with
    | [] => none
    | a :: az' =>
      match a.r with
      | .ret v h =>
        bif Nat.ble ids.length h.length && Nat.ble (h.length - ids.length) 64 then
          (back (ren ids fr) 8 v).bind fun v' => (Q4h (ren ids fr) a.vw 0 h).bind fun ws =>
            match lent with
            | [] => some ⟨⟨v', ws.1, ids⟩, ws.1.map (·.1), ws.2.2, az', y.2 ++ (z.2 ++ ws.2.1), [(.call f y.1.1 z.1.1, a.r)]⟩
            | _ :: _ =>
              bif flat 8 v && h.all (fun ob => ob.cells.all (flat 8)) then some ⟨⟨v', ws.1, ids ++ lent⟩, ws.1.map (·.1), ws.2.2, az', y.2 ++ (z.2 ++ ws.2.1), [(.call f y.1.1 z.1.1, a.r)]⟩
              else (shut H lent).bind fun cl => some ⟨⟨v', ws.1 ++ cl, ids ++ lent⟩, ws.1.map (·.1), ws.2.2, az', y.2 ++ (z.2 ++ ws.2.1), [(.call f y.1.1 z.1.1, a.r)]⟩
        else none
      | _ => none
  else none
end Go.Pv
end

section
/-
  A region, on the machine.
-/
namespace Go.Pv
open Go.RowKit
structure At (w0 : World) (D0 : Nat → Option Nat) (H0 : Nat → Option Ob) (F : Nat → Nat → Prop) (n0 m L : Nat) (e : Nat → PV) (H : Nat → Option Ob) (a : Act) (w : World) (D : Nat → Option Nat) : Prop where
  sim : Sim w D H F n0 m
  env : Q88 w (Mut D H F) D a e
  size : L ≤ a.tmps.size
  out : ∀ t, L ≤ t → e t = .un
  keeps : Keeps (MutO D0 H0) w0 w
  low : ∀ id, id < m → D id = D0 id
  sub : ∀ b o, b < w0.heap.size → Mut D H F b o → Mut D0 H0 F b o
  defers : a.defers = []
section
variable {P : Program} {X : Orc} {w0 : World} {D0 : Nat → Option Nat} {H0 : Nat → Option Ob} {F : Nat → Nat → Prop} {n0 m L : Nat} {e : Nat → PV} {H : Nat → Option Ob} {a : Act} {w : World} {D : Nat → Option Nat}
theorem Q15v {a : Act} {dst : Option Tmp} {v : Value} {t : Nat} : (a.put dst v).tmps.getD t undef = if dst = some t ∧ t < a.tmps.size then v else a.tmps.getD t undef := by
  unfold Act.put
  cases dst with
  | none => simp
  | some d =>
    simp only [Array.getD_eq_getD_getElem?, Array.getElem?_setIfInBounds]
    by_cases c : d = t
    · subst c
      by_cases c' : d < a.tmps.size
      · simp [c']
      · simp [c']
    · simp [c]
theorem Q16l {a : Act} {dst : Option Tmp} {v : Value} : (a.put dst v).tmps.size = a.tmps.size := by
 unfold Act.put
 cases dst <;> simp
theorem put_defers {a : Act} {dst : Option Tmp} {v : Value} : (a.put dst v).defers = a.defers := by
 unfold Act.put
 cases dst <;> rfl
theorem At.step (A : At w0 D0 H0 F n0 m L e H a w D) {fr : Nat} {w' : World} {D' : Nat → Option Nat} {H' : Nat → Option Ob} (st : Step w D H F n0 m fr w' D' H') (hmf : m ≤ fr) {dst : Option Tmp} {v : Value} {p : PV} (hr : Rep w' (Mut D' H' F) D' v p) {e' : Nat → PV}
    (he : ∀ t, e' t = if dst = some t ∧ t < L then p else e t) : At w0 D0 H0 F n0 m L e' H' (a.put dst v) w' D' := by
  have hO : ∀ b o, b < w0.heap.size → MutO D H b o → MutO D0 H0 b o := by
    rintro b o hb ⟨id, ob, h1, h2, h3⟩
    rcases A.sub b o hb (.inr ⟨id, ob, h1, h2, h3⟩) with h | h
    · exact absurd h (A.sim.dis id ob b o h1 h2)
    · exact h
  refine ⟨st.sim, fun t => ?_, by rw [Q16l]; exact A.size, fun t ht => ?_, A.keeps.trans st.keeps hO, fun id h => ?_, fun b o hb h => A.sub b o hb (st.sub b o (Nat.lt_of_lt_of_le hb A.keeps.size) h), by rw [put_defers]; exact A.defers⟩
  · rw [Q15v, he t]
    by_cases c : dst = some t
    · by_cases c' : t < L
      · rw [if_pos ⟨c, Nat.lt_of_lt_of_le c' A.size⟩, if_pos ⟨c, c'⟩]
        exact hr
      · rw [show (if dst = some t ∧ t < L then p else e t) = .un by rw [if_neg (fun h => c' h.2)]; exact A.out t (Nat.le_of_not_lt c')]
        exact .un _ _
    · rw [if_neg (fun h => c h.1), if_neg (fun h => c h.1)]
      exact st.rep (A.env t)
  · rw [he t, if_neg (fun h => by have := h.2; omega)]
    exact A.out t ht
  · rw [← A.low id h]
    cases hd : D id with
    | none => exact st.fresh id hd (.inl (by omega))
    | some b => exact st.ext id b hd
theorem Qnl {ops : Array Oper} {tmps : Array Value} {j s : Nat} (h : (ops[j]?).bind (·.dst) = some s) : (∀ b, tmps.getD s undef = .bool b → yielded ops tmps j = some b) ∧ (∀ xs, tmps.getD s undef = .tuple xs → yielded ops tmps j = none) := by
  unfold yielded
  rw [h]
  simp only [Option.bind_some]
  constructor
  · intro b hb
    rw [Array.getD_eq_getD_getElem?] at hb
    cases ht : tmps[s]? with
    | none => rw [ht] at hb; cases hb
    | some u =>
      rw [ht] at hb
      simp only [Option.getD_some] at hb
      subst hb
      rfl
  · intro xs hx
    rw [Array.getD_eq_getD_getElem?] at hx
    cases ht : tmps[s]? with
    | none => rfl
    | some u =>
      rw [ht] at hx
      simp only [Option.getD_some] at hx
      subst hx
      rfl
theorem Qbq {ops : Array Oper} {M : Nat → Nat → Prop} (he : Q88 w M D a e) {o : Oper} {io : IOper} (hg : Qc4 ops o.guard io.guard = true) {b : Bool} (h : io.wanted e = some b) : Region.wanted o (yielded ops a.tmps) = b := by
  unfold IOper.wanted at h
  unfold Region.wanted
  cases hg1 : o.guard with
  | none =>
    rw [hg1] at hg
    cases hg2 : io.guard with
    | none => rw [hg2] at h; simpa using h
    | some g => rw [hg2] at hg; cases hg
  | some g =>
    obtain ⟨j, wt⟩ := g
    rw [hg1] at hg
    cases hg2 : io.guard with
    | none => rw [hg2] at hg; cases hg
    | some g' =>
      obtain ⟨s, wt'⟩ := g'
      rw [hg2] at hg h
      simp only [Qc4, Bool.and_eq_true] at hg
      obtain ⟨h1, h2⟩ := hg
      have h1 : wt = wt' := by simpa using h1
      subst h1
      obtain ⟨y1, y2⟩ := Qnl (tmps := a.tmps) (Q3x h2)
      have hr := he s
      simp only at h ⊢
      split at h
      · rename_i b' hb
        rw [hb] at hr
        generalize hx : a.tmps.getD s undef = x at hr
        cases hr with
        | bool _ =>
          rw [y1 b' hx]
          simpa using h
      · rename_i c hb
        rw [hb] at hr
        generalize hx : a.tmps.getD s undef = x at hr
        cases hr with
        | tup _ xs _ _ _ =>
          rw [y2 xs hx]
          simpa using h
      · cases h
theorem Qb8 (hX : Q5b P X) (A : At w0 D0 H0 F n0 m L e H a w D) {fr : Nat} (hmf : m ≤ fr) (hfr : ∀ id, fr ≤ id → id < fr + 64 → D id = none ∧ H id = none) {ops : Array Oper} {i : Nat} {o : Oper} {io : IOper} (ho : ops[i]? = some o) (hc : Q7b P ops o io = true) {f : Eff} (h : Q5e X e H fr io = some f)
  {K : Act → World → Prop} {Q : Exit → Act → World → Prop} {e' : Nat → PV} {H' : Nat → Option Ob} (he : ∀ t, e' t = if io.dst = some t ∧ t < L then f.v else e t) (hH : upH H f.hw = H')
  (hK : ∀ a' w' D', At w0 D0 H0 F n0 m L e' H' a' w' D' → (∀ id, D id = none → (id < fr ∨ fr + 64 ≤ id) → D' id = none) → K a' w') : wpOp P ops Q i K a w := by
 subst hH
 unfold Q7b at hc
 rw [Bool.and_eq_true, Bool.and_eq_true] at hc
 obtain ⟨⟨hd, hg⟩, hop⟩ := hc
 have hd := Qai hd
 unfold Q5e at h
 obtain ⟨b, hb, h⟩ := bind_some h
 have hw := Qbq A.env hg hb
 unfold wpOp
 simp only [ho]
 rw [hw]
 cases b with
 | true =>
  simp only [cond_true] at h
  rw [if_pos rfl]
  refine .inl (Q13f hX A.sim hfr A.env hop h fun v w' D' st hr => hK _ _ D' (A.step st hmf hr (fun t => ?_)) st.fresh)
  rw [hd]; exact he t
 | false =>
  simp only [cond_false, Option.some.injEq] at h
  subst h
  rw [if_neg (by simp)]
  refine hK _ _ D (A.step (fr := fr) (Step.same A.sim rfl rfl rfl rfl) hmf (p := .tup []) (.tup _ #[] [] rfl (fun i v p hv => by simp at hv)) (fun t => ?_)) (fun id h _ => h)
  rw [hd]; exact he t
theorem Quq {ws : List (Nat × Option Ob)} {fr id : Nat} (h : ∀ y ∈ ws, (∃ ob, H y.1 = some ob) ∨ (fr ≤ y.1 ∧ y.1 < fr + 64)) (h1 : H id = none) (h2 : ¬ (fr ≤ id ∧ id < fr + 64)) : upH H ws id = none := by
  rw [Q4z (fun y hy e => ?_)]
  · exact h1
  · subst e
    rcases h y hy with ⟨ob, hob⟩ | h'
    · rw [h1] at hob; cases hob
    · exact h2 h'
theorem Qfe (hX : Q5b P X) {nx : Nat} (hmn : m ≤ nx) {ops : Array Oper} {Q : Exit → Act → World → Prop} : ∀ (r : List IOper) (i : Nat) (env : List PV) (h : List (Nat × Ob)) (y : List PV × List (Nat × Ob) × List Eff) (a : Act) (w : World) (D : Nat → Option Nat),
  Q3t X nx i r env h = some y → (∀ j o io, ops[i + j]? = some o → r[j]? = some io → Q7b P ops o io = true) → i + r.length = ops.size → At w0 D0 H0 F n0 m env.length (envF env) (look h) a w D → (∀ id, nx + 64 * i ≤ id → D id = none ∧ look h id = none) →
   (∀ a' w' D', At w0 D0 H0 F n0 m y.1.length (envF y.1) (look y.2.1) a' w' D' → (∀ id, nx + 64 * ops.size ≤ id → D' id = none ∧ look y.2.1 id = none) → Q .normal a' w') → wpOps P ops Q (List.range' i r.length) a w
 | [], i, env, h, y, a, w, D, hy, hc, hn, A, hf, hQ => by
  simp only [Q3t, Option.some.injEq] at hy
  subst hy
  simp only [List.length_nil, Nat.add_zero] at hn
  subst hn
  exact hQ a w D A hf
 | o :: r, i, env, h, y, a, w, D, hy, hc, hn, A, hf, hQ => by
  simp only [Q3t] at hy
  obtain ⟨x, hst, hy⟩ := bind_some hy
  obtain ⟨z, hz, hy⟩ := bind_some hy
  injection hy with hy
  subst hy
  have hlt : i < ops.size := by rw [← hn]; simp
  have hoi : ops[i]? = some ops[i] := Array.getElem?_eq_getElem hlt
  rw [List.length_cons, List.range'_succ, wpOps_cons]
  refine Qb8 hX A (fr := nx + 64 * i) (by omega) (fun id h1 _ => hf id h1) hoi (hc 0 _ o hoi rfl) hst (e' := envF (put env o.dst x.v)) (H' := look (hput h x.hw)) (fun t => Qub) (Q4t _ _).symm (fun a' w' D' A' hfr' => ?_)
  have hput : (put env o.dst x.v).length = env.length := Qm1
  refine Qfe hX hmn r (i + 1) _ _ z a' w' D' hz (fun j o' io h1 h2 => hc (j + 1) o' io (by rw [show i + (j + 1) = i + 1 + j by omega]; exact h1) (by simpa using h2)) (by rw [← hn]; simp; omega) (by rw [hput]; exact A') (fun id hid => ?_) hQ
  have := hf id (by omega)
  exact ⟨hfr' id this.1 (by omega), by rw [Q4t]; exact Quq (Qv7 hst) this.2 (by omega)⟩
def Done (listed : Array Bool) (j : Nat) : Prop := listed.getD j false = true
theorem Qtu {listed : Array Bool} {j : Nat} (h : Done listed j) : j < listed.size := by
  unfold Done at h
  rcases Nat.lt_or_ge j listed.size with c | c
  · exact c
  · rw [Array.getD_eq_getD_getElem?, Array.getElem?_eq_none c] at h
    cases h
theorem Q16u {listed : Array Bool} {i k : Nat} (hi : i < listed.size) : Done (listed.setIfInBounds i true) k ↔ Done listed k ∨ k = i := by
  unfold Done
  rw [Array.getD_eq_getD_getElem?, Array.getD_eq_getD_getElem?, Array.getElem?_setIfInBounds]
  by_cases c : i = k
  · subst c
    simp [hi]
  · rw [if_neg c]
    constructor
    · exact fun h => .inl h
    · rintro (h | h)
      · exact h
      · exact absurd h.symm c
theorem Qo5 {listed : Array Bool} {i : Nat} (hi : i < listed.size) : listed.getD i true = false ↔ ¬ Done listed i := by
 unfold Done
 rw [Array.getD_eq_getD_getElem?, Array.getD_eq_getD_getElem?, Array.getElem?_eq_getElem hi]
 simp
def todo (listed : Array Bool) : Nat := listed.toList.countP (fun b => !b)
theorem Qwf {listed : Array Bool} {i : Nat} (hi : i < listed.size) (h : ¬ Done listed i) : todo listed = todo (listed.setIfInBounds i true) + 1 := by
 unfold todo
 have hb : listed[i] = false := by
  unfold Done at h
  rw [Array.getD_eq_getD_getElem?, Array.getElem?_eq_getElem hi] at h
  simpa using h
 rw [Array.toList_setIfInBounds]
 have hl : i < listed.toList.length := by simpa using hi
 have hb' : listed.toList[i] = false := by simpa using hb
 have key : ∀ (l : List Bool) (i : Nat) (hl : i < l.length), l[i] = false → l.countP (fun b => !b) = (l.set i true).countP (fun b => !b) + 1 := by
  intro l
  induction l with
  | nil => intro i hl; simp at hl
  | cons x r ih =>
   intro i hl hx
   cases i with
   | zero =>
    simp at hx
    subst hx
    simp
   | succ i =>
    have := ih i (by simpa using hl) (by simpa using hx)
    cases x <;> simp [this]
 exact key _ i hl hb'
theorem Q16n {listed : Array Bool} (h : todo listed ≠ 0) : ∃ i, i < listed.size ∧ ¬ Done listed i := by
 unfold todo at h
 have : 0 < listed.toList.countP (fun b => !b) := Nat.pos_of_ne_zero h
 obtain ⟨b, hb, h2⟩ := List.countP_pos_iff.1 this
 obtain ⟨i, hi⟩ := List.getElem?_of_mem hb
 have hl : i < listed.size := by have := (List.getElem?_eq_some_iff.1 hi).1; simpa using this
 refine ⟨i, hl, fun hd => ?_⟩
 unfold Done at hd
 rw [Array.getD_eq_getD_getElem?, ← Array.getElem?_toList, hi] at hd
 simp only [Option.getD_some] at hd
 subst hd
 cases h2
theorem Qww (hX : Q5b P X) {nx : Nat} (hmn : m ≤ nx) {ops : Array Oper} {ios : List IOper} {xs : List Eff} {Q : Exit → Act → World → Prop} {e0 : Nat → PV} {Hs : Nat → Option Ob} {ef : Nat → PV} {Hf : Nat → Option Ob}
    (hlen : ios.length = ops.size) (hxl : xs.length = ops.size) (hc : ∀ (j : Nat) o io, ops[j]? = some o → ios[j]? = some io → Q7b P ops o io = true) (hb : Qpw ios 0 ops.toList ios = true) (hcalm : calm (ios.zip xs) 0 (ios.zip xs) = true)
    (hst : ∀ (j : Nat) o x, ios[j]? = some o → xs[j]? = some x → ∃ e H, Last (WE L ios xs) e0 (· < j) e ∧ Last (WH xs) Hs (· < j) H ∧ Q5e X e H (nx + 64 * j) o = some x)
    (hef : Last (WE L ios xs) e0 (· < ops.size) ef) (hHf : Last (WH xs) Hs (· < ops.size) Hf)
    (hQ : ∀ a' w' D', At w0 D0 H0 F n0 m L ef Hf a' w' D' → (∀ id, nx + 64 * ops.size ≤ id → D' id = none ∧ Hf id = none) → Q .normal a' w') :
    ∀ (fuel : Nat) (listed : Array Bool) (a : Act) (w : World) (e : Nat → PV) (H : Nat → Option Ob) (D : Nat → Option Nat), listed.size = ops.size → todo listed = fuel → (∀ j io, ios[j]? = some io → Done listed j → ∀ i ∈ io.bef, Done listed i) →
      Last (WE L ios xs) e0 (Done listed) e → Last (WH xs) Hs (Done listed) H → At w0 D0 H0 F n0 m L e H a w D → (∀ id, nx ≤ id → (∀ j, Done listed j → ¬ (nx + 64 * j ≤ id ∧ id < nx + 64 * j + 64)) → D id = none ∧ H id = none) →
        wpAny P .any ops Q fuel listed a w := by
  have noclash : ∀ (i k : Nat) oi xi ok xk, i < k → ios[i]? = some oi → xs[i]? = some xi → ios[k]? = some ok → xs[k]? = some xk → i ∈ ok.bef ∨ clash oi xi ok xk = false := by
    intro i k oi xi ok xk hlt h1 h2 h3 h4
    exact Qq5 hcalm (fun k => by simp) i k oi xi ok xk (Nat.zero_le _) hlt (by rw [List.getElem?_zip_eq_some]; exact ⟨h1, h2⟩) (by rw [List.getElem?_zip_eq_some]; exact ⟨h3, h4⟩)
  have bef := Qh2 hb
  intro fuel
  -- all done
  have fin_ : ∀ (listed : Array Bool) (a : Act) (w : World) (e : Nat → PV) (H : Nat → Option Ob) (D : Nat → Option Nat), listed.size = ops.size → (∀ j, j < ops.size → Done listed j) → Last (WE L ios xs) e0 (Done listed) e → Last (WH xs) Hs (Done listed) H → At w0 D0 H0 F n0 m L e H a w D →
      (∀ id, nx ≤ id → (∀ j, Done listed j → ¬ (nx + 64 * j ≤ id ∧ id < nx + 64 * j + 64)) → D id = none ∧ H id = none) → Q .normal a w := by
    intro listed a w e H D hsz hall l1 l2 A hf
    have e1 : e = ef := funext fun t => l1.det hef (fun k _ => ⟨fun h => by have := Qtu h; omega, fun h => hall k h⟩)
    have e2 : H = Hf := funext fun t => l2.det hHf (fun k _ => ⟨fun h => by have := Qtu h; omega, fun h => hall k h⟩)
    subst e1 e2
    exact hQ a w D A (fun id hid => hf id (by omega) (fun j hj => by have := Qtu hj; omega))
  induction fuel with
  | zero =>
    intro listed a w e H D hsz ht hcl l1 l2 A hf
    have hall : ∀ j, j < ops.size → Done listed j := by
      intro j hj
      by_cases c : Done listed j
      · exact c
      · have := Qwf (by omega) c
        omega
    refine ⟨?_, fin_ listed a w e H D hsz hall l1 l2 A hf⟩
    cases hr : Region.ready .any ops listed with
    | nil => rfl
    | cons i r =>
      have hi : i ∈ Region.ready .any ops listed := by rw [hr]; exact List.mem_cons_self
      obtain ⟨g1, o, g2, _⟩ := mem_ready.1 hi
      have hlt : i < ops.size := (Array.getElem?_eq_some_iff.1 g2).1
      exact absurd (hall i hlt) ((Qo5 (by omega)).1 g1)
  | succ fuel ih =>
    intro listed a w e H D hsz ht hcl l1 l2 A hf
    refine ⟨fun hr => ?_, fun i hi => ?_⟩
    · -- some operation is ready
      exfalso
      obtain ⟨i, hi, hnd⟩ := Q16n (listed := listed) (by omega)
      have key : ∀ (n i : Nat), i < n → i < listed.size → ¬ Done listed i → False := by
        intro n
        induction n with
        | zero => intro i h; omega
        | succ n ihn =>
          intro i hin hi hnd
          by_cases c : ∃ j, j < i ∧ ¬ Done listed j
          · obtain ⟨j, hj, hjn⟩ := c
            exact ihn j (by omega) (by omega) hjn
          · have hilt : i < ops.size := by omega
            have : i ∈ Region.ready .any ops listed := by
              rw [mem_ready]
              refine ⟨(Qo5 hi).2 hnd, ops[i], Array.getElem?_eq_getElem hilt, fun ed hed hbd => ?_⟩
              have hlt := (bef i ops[i] (ios[i]'(by omega)) (by simp [hilt]) (List.getElem?_eq_getElem (by omega))).2 ed hed hbd
              by_cases c' : Done listed ed.on
              · exact c'
              · exact absurd ⟨ed.on, by omega, c'⟩ c
            rw [hr] at this
            cases this
      exact key (i + 1) i (by omega) hi hnd
    · obtain ⟨g1, o, g2, g3⟩ := mem_ready.1 hi
      have hlt : i < ops.size := (Array.getElem?_eq_some_iff.1 g2).1
      have hnd : ¬ Done listed i := (Qo5 (by omega)).1 g1
      have hio : ios[i]? = some (ios[i]'(by omega)) := List.getElem?_eq_getElem (by omega)
      have hxi : xs[i]? = some (xs[i]'(by omega)) := List.getElem?_eq_getElem (by omega)
      generalize ios[i]'(by omega) = io at hio
      generalize xs[i]'(by omega) = x at hxi
      obtain ⟨et, Ht, t1, t2, t3⟩ := hst i io x hio hxi
      -- i's own predecessors are done
      have hbi : ∀ k ∈ io.bef, Done listed k := by
        intro k hk
        obtain ⟨ed, hed, hbd, h⟩ := (bef i o io (by simpa using g2) hio).1 k hk
        have hd : Done listed ed.on := g3 ed hed hbd
        rcases h with rfl | h
        · exact hd
        · unfold Q18e at h
          split at h
          · rename_i io' hio'
            exact hcl ed.on io' hio' hd k h
          · cases h
      -- who meddles with i, and is done, stands ahead of it in the text; and the other way round
      have later : ∀ k ok xk, i < k → ios[k]? = some ok → xs[k]? = some xk → Done listed k → clash io x ok xk = false := by
        intro k ok xk hik h1 h2 h3
        rcases noclash i k io x ok xk hik hio hxi h1 h2 with h | h
        · exact absurd (hcl k ok h1 h3 i h) hnd
        · exact h
      have ahead : ∀ k ok xk, k < i → ios[k]? = some ok → xs[k]? = some xk → Done listed k ∨ clash ok xk io x = false := by
        intro k ok xk hik h1 h2
        rcases noclash k i ok xk io x hik h1 h2 hio hxi with h | h
        · exact .inl (hbi k h)
        · exact .inr h
      -- what i looks at is what it looked at in the text's order
      have see1 : ∀ t ∈ io.looks, e t = et t := by
        intro t ht
        refine l1.det t1 (fun k hk => ?_)
        obtain ⟨ok, xk, h1, h2, h3, _⟩ := Q1b1 hk
        constructor
        · intro hdk
          rcases Nat.lt_trichotomy k i with c | c | c
          · exact c
          · subst c; exact absurd hdk hnd
          · exact absurd ht ((Q4k (later k ok xk c h1 h2 hdk)).2.1 t h3)
        · intro hki
          rcases ahead k ok xk hki h1 h2 with h | h
          · exact h
          · exact absurd ht ((Q4k h).1 t h3)
      have see2 : ∀ id ∈ x.hr, H id = Ht id := by
        intro id hid
        refine l2.det t2 (fun k hk => ?_)
        obtain ⟨xk, h2, h3⟩ := Q19c hk
        have hkl : k < ios.length := by have := (List.getElem?_eq_some_iff.1 h2).1; omega
        have h1 : ios[k]? = some ios[k] := List.getElem?_eq_getElem hkl
        constructor
        · intro hdk
          rcases Nat.lt_trichotomy k i with c | c | c
          · exact c
          · subst c; exact absurd hdk hnd
          · exact absurd hid ((Q4k (later k _ xk c h1 h2 hdk)).2.2.2.2 id h3)
        · intro hki
          rcases ahead k _ xk hki h1 h2 with h | h
          · exact h
          · exact absurd hid ((Q4k h).2.2.2.1 id h3).1
      have run := Qu5 t3 see1 see2
      -- the new state
      have hdone := fun k => Q16u (k := k) (show i < listed.size by omega)
      have n1 : Last (WE L ios xs) e0 (Done (listed.setIfInBounds i true)) (fun t => (WE L ios xs i t).getD (e t)) := l1.add hdone (fun k t hk hik hne => by
        obtain ⟨ok, xk, h1, h2, h3, _⟩ := Q1b1 hne
        exact Q188 hio (fun hd => (Q4k (later k ok xk hik h1 h2 hk)).2.2.1 t hd h3)) (fun t => rfl)
      have n2 : Last (WH xs) Hs (Done (listed.setIfInBounds i true)) (upH H x.hw) := l2.add hdone (fun k id hk hik hne => by
        obtain ⟨xk, h2, h3⟩ := Q19c hne
        have hkl : k < ios.length := by have := (List.getElem?_eq_some_iff.1 h2).1; omega
        have h1 : ios[k]? = some ios[k] := List.getElem?_eq_getElem hkl
        exact Q189 hxi (fun hi' => ((Q4k (later k _ xk hik h1 h2 hk)).2.2.2.1 id hi').2 h3)) (fun t => (Q10g hxi H).symm)
      have hfree : ∀ id, nx + 64 * i ≤ id → id < nx + 64 * i + 64 → D id = none ∧ H id = none := fun id h1 h2 => hf id (by omega) (fun j hj hc' => by
        have : j = i := by omega
        subst this
        exact hnd hj)
      refine Qb8 hX A (fr := nx + 64 * i) (by omega) hfree g2 (hc i o io g2 hio) run (e' := fun t => (WE L ios xs i t).getD (e t)) (H' := upH H x.hw) (fun t => Q13i hio hxi (e t)) rfl (fun a' w' D' A' hfr' => ?_)
      refine ih (listed.setIfInBounds i true) a' w' _ _ D' (by simpa using hsz) (by have := Qwf (show i < listed.size by omega) hnd; omega) (fun j io' hj hdj k hk => ?_) n1 n2 A' (fun id hid hno => ?_)
      · rw [hdone]
        rcases (hdone j).1 hdj with h | rfl
        · exact .inl (hcl j io' hj h k hk)
        · rw [hio] at hj
          injection hj with hj
          subst hj
          exact .inl (hbi k hk)
      · have h1 := hf id hid (fun j hj => hno j ((hdone j).2 (.inl hj)))
        have h2 := hno i ((hdone i).2 (.inr rfl))
        exact ⟨hfr' id h1.1 (by omega), Quq (Qv7 run) h1.2 h2⟩
def Q10k (P : Program) (ops : Array Oper) (ios : List IOper) (draw : Bool) : Bool := Qcs P ops ops.toList ios && (!draw || Qpw ios 0 ops.toList ios)
theorem Qrn (hm : P.follows .mixedOrders = true) (hX : Q5b P X) {id : Nat} {ops : Array Oper} {ios : List IOper} {draw : Bool} (hc : Q10k P ops ios draw = true) {s s' : St} (h : ireg X ios draw s = some s') {Q : Exit → Act → World → Prop}
  (A : At w0 D0 H0 F n0 m s.env.length (envF s.env) (look s.heap) a w D) (hf : ∀ id, s.nx ≤ id → D id = none ∧ look s.heap id = none) (hmn : m ≤ s.nx)
  (hQ : ∀ a' w' D', At w0 D0 H0 F n0 m s'.env.length (envF s'.env) (look s'.heap) a' w' D' → (∀ id, s'.nx ≤ id → D' id = none ∧ look s'.heap id = none) → Q .normal a' w') : (Code.region id ops draw).wp P Q a w := by
 unfold Q10k at hc
 rw [Bool.and_eq_true] at hc
 obtain ⟨hc1, hc2⟩ := hc
 obtain ⟨hl, hch⟩ := Q9x hc1
 have hl : ios.length = ops.size := by simpa using hl.symm
 have hch' : ∀ j o io, ops[j]? = some o → ios[j]? = some io → Q7b P ops o io = true := fun j o io h1 h2 => hch j o io (by simpa using h1) h2
 unfold ireg at h
 obtain ⟨y, hy, h⟩ := bind_some h
 cases hcm : (!draw || calm (ios.zip y.2.2) 0 (ios.zip y.2.2)) with
 | false => rw [hcm] at h; cases h
 | true =>
  rw [hcm] at h
  simp only [cond_true, Option.some.injEq] at h
  subst h
  simp only at hQ
  rw [hl] at hQ
  cases draw with
  | false =>
   refine wp_region ?_
   have := Qfe hX hmn ios 0 s.env s.heap y a w D hy (fun j o io h1 h2 => hch' j o io (by simpa using h1) h2) (by omega) A (fun id h => hf id (by omega)) hQ
   rw [List.range_eq_range', ← hl]
   exact this
  | true =>
   refine wp_region_any hm ?_
   obtain ⟨g1, g2, g3, g4, g5⟩ := Qby (ios := ios) (xs := y.2.2) (L := s.env.length) (e0 := envF s.env) (H0 := look s.heap) ios 0 s.env s.heap y hy (fun j => by simp) (fun j => by simp) rfl (Last.none (fun k => by omega)) (Last.none (fun k => by omega))
   rw [g2] at hQ
   rw [Nat.zero_add, hl] at g4 g5
   have hnone : ∀ j, ¬ Done (Array.replicate ops.size false) j := by
    intro j hj
    unfold Done at hj
    rw [Array.getD_eq_getD_getElem?, Array.getElem?_replicate] at hj
    split at hj <;> cases hj
   have htodo : todo (Array.replicate ops.size false) = ops.size := by
    unfold todo
    simp [List.countP_replicate]
   have A' : At w0 D0 H0 F n0 m s.env.length (envF s.env) (look s.heap) a { w with drawn := w.drawn + 1 } D := by
    have st : Step w D (look s.heap) F n0 m m { w with drawn := w.drawn + 1 } D (look s.heap) := Step.same A.sim rfl rfl rfl rfl
    have := A.step st (Nat.le_refl _) (dst := none) (v := undef) (p := .un) (.un _ _) (e' := envF s.env) (fun t => by simp)
    exact this
   exact Qww hX hmn hl (by omega) hch' (by simpa using hc2) (by simpa using hcm) (fun j o x h1 h2 => g3 j o x (Nat.zero_le _) h1 h2) g4 g5 hQ ops.size (Array.replicate ops.size false) a _ (envF s.env) (look s.heap) D (by simp) htodo
    (fun j io _ hd => absurd hd (hnone j)) (Last.none hnone) (Last.none hnone) A' (fun id hid _ => hf id hid)
end
end Go.Pv
end

section
/-
  Tidying up at a loop's head; a function's end.
-/
namespace Go.Pv
open Go.RowKit
def Like (p q : PV) : Prop := ∀ w M D v, Rep w M D v p → Rep w M D v q
theorem Like.refl (p : PV) : Like p p := fun _ _ _ _ h => h
theorem Like.ns {sz k : Nat} : Like (.ns sz) (.ms k sz 0 0) := fun w M D v h => by
 cases h with
 | ns _ A _ => exact .ms _ A 0 0 k sz 0 (Nat.le_refl _) (Nat.zero_le _) (.inl ⟨rfl, rfl⟩)
def Q74 (l l' : List PV) : Prop := l'.length = l.length ∧ ∀ (k : Nat) p q, l[k]? = some p → l'[k]? = some q → Like p q
theorem Q74.nil : Q74 [] [] := ⟨rfl, fun k p q h => by simp at h⟩
theorem Q74.cons {p q : PV} {l l' : List PV} (h : Like p q) (hl : Q74 l l') : Q74 (p :: l) (q :: l') := by
 refine ⟨by simp [hl.1], fun k p' q' h1 h2 => ?_⟩
 cases k with
 | zero =>
  simp at h1 h2
  subst h1 h2
  exact h
 | succ k => exact hl.2 k p' q' (by simpa using h1) (by simpa using h2)
theorem Q74.refl : ∀ l : List PV, Q74 l l
 | [] => .nil
 | p :: r => .cons (Like.refl p) (Q74.refl r)
def Bare (nx : Nat) (l : List (Nat × Ob)) : Prop := ∀ x ∈ l, nx ≤ x.1 ∧ x.2.cells = [] ∧ x.2.ro = 0
theorem Bare.mono {nx nx' : Nat} {l : List (Nat × Ob)} (h : Bare nx' l) (hn : nx ≤ nx') : Bare nx l := fun x hx => ⟨Nat.le_trans hn (h x hx).1, (h x hx).2⟩
theorem Q43 : ∀ (l : List PV) (nx : Nat), Q74 l (Q32 nx l).1 ∧ nx ≤ (Q32 nx l).2.1 ∧ Bare nx (Q32 nx l).2.2
  | [], nx => ⟨.nil, Nat.le_refl _, fun x hx => absurd hx List.not_mem_nil⟩
  | p :: r, nx => by
    have plain : Q74 (p :: r) (p :: (Q32 nx r).1) ∧ nx ≤ (Q32 nx r).2.1 ∧ Bare nx (Q32 nx r).2.2 :=
      ⟨.cons (Like.refl p) (Q43 r nx).1, (Q43 r nx).2⟩
    cases p with
    | ns sz =>
      obtain ⟨h1, h2, h3⟩ := Q43 r (nx + 1)
      refine ⟨.cons Like.ns h1, by simp only [Q32]; omega, fun x hx => ?_⟩
      simp only [Q32] at hx
      rcases List.mem_cons.1 hx with rfl | hx
      · exact ⟨Nat.le_refl _, rfl, rfl⟩
      · exact (h3.mono (by omega)) x hx
    | _ => exact plain
def VOb (ob ob' : Ob) : Prop := ob'.ro = ob.ro ∧ ob'.gr = ob.gr ∧ Q74 ob.cells ob'.cells
theorem Qjc : ∀ (h : List (Nat × Ob)) (nx : Nat), nx ≤ (Qba nx h).2.1 ∧ Bare nx (Qba nx h).2.2 ∧ (∀ id ob', look (Qba nx h).1 id = some ob' → ∃ ob, look h id = some ob ∧ VOb ob ob')
  | [], nx => ⟨Nat.le_refl _, fun x hx => absurd hx List.not_mem_nil, fun id ob' h => by simp [Qba, look] at h⟩
  | (k, ob) :: r, nx => by
    obtain ⟨h1, h2, h3⟩ := Q43 ob.cells nx
    obtain ⟨g1, g2, g3⟩ := Qjc r (Q32 nx ob.cells).2.1
    refine ⟨by simp only [Qba]; omega, fun x hx => ?_, fun id ob' hl => ?_⟩
    · simp only [Qba] at hx
      rcases List.mem_append.1 hx with hx | hx
      · exact h3 x hx
      · exact (g2.mono h2) x hx
    · simp only [Qba, look] at hl ⊢
      cases hb : Nat.beq k id with
      | true =>
        rw [hb] at hl
        simp only [cond_true, Option.some.injEq] at hl
        subst hl
        exact ⟨ob, rfl, rfl, rfl, h1⟩
      | false =>
        rw [hb] at hl
        simp only [cond_false] at hl ⊢
        exact g3 id ob' hl
theorem Qfs {l l' : List (Nat × Ob)} {id : Nat} {ob : Ob} (h : look (l ++ l') id = some ob) : look l id = some ob ∨ look l' id = some ob := by
 induction l with
 | nil => exact .inr h
 | cons x r ih =>
  obtain ⟨k, o⟩ := x
  simp only [List.cons_append, look] at h ⊢
  cases hb : Nat.beq k id with
  | true => rw [hb] at h; exact .inl h
  | false => rw [hb] at h; exact ih h
theorem Qui {l : List (Nat × Ob)} {id : Nat} {ob : Ob} (h : look l id = some ob) : (id, ob) ∈ l := by
  induction l with
  | nil => simp [look] at h
  | cons x r ih =>
    obtain ⟨k, o⟩ := x
    simp only [look] at h
    by_cases c : k = id
    · subst c
      simp at h
      subst h
      exact List.mem_cons_self
    · have : Nat.beq k id = false := by rw [Bool.eq_false_iff]; exact fun h => c (Nat.eq_of_beq_eq_true h)
      rw [this] at h
      exact List.mem_cons_of_mem _ (ih h)
theorem Qgd : ∀ (l : List Ob) (i j : Nat), look (number i l) (i + j) = l[j]?
 | [], i, j => by simp [number, look]
 | o :: r, i, j => by
  simp only [number, look]
  cases j with
  | zero => simp
  | succ j =>
   have : Nat.beq i (i + (j + 1)) = false := by rw [Bool.eq_false_iff]; exact fun h => by have := Nat.eq_of_beq_eq_true h; omega
   rw [this]
   have := Qgd r (i + 1) j
   rw [show i + 1 + j = i + (j + 1) by omega] at this
   simpa using this
theorem Q5a (l : List Ob) : look (number 0 l) = hF l := funext fun j => by
 have := Qgd l 0 j
 rw [Nat.zero_add] at this
 exact this
theorem Q6z : ∀ m : Nat, (upTo m).length = m ∧ ∀ p, p < m → (upTo m)[p]? = some p
  | 0 => ⟨rfl, fun p h => by omega⟩
  | m + 1 => by
    obtain ⟨h1, h2⟩ := Q6z m
    refine ⟨by simp [upTo, h1], fun p hp => ?_⟩
    simp only [upTo]
    by_cases c : p < m
    · rw [List.getElem?_append_left (by omega)]
      exact h2 p c
    · have : p = m := by omega
      subst this
      rw [List.getElem?_append_right (by omega), h1]
      simp
theorem Qzr (m : Nat) : (upTo m).Nodup := by
 induction m with
 | zero => exact List.nodup_nil
 | succ m ih =>
  simp only [upTo]
  rw [List.nodup_append]
  refine ⟨ih, by simp, fun a ha b hb => ?_⟩
  simp at hb
  subst hb
  obtain ⟨i, hi⟩ := List.getElem?_of_mem ha
  have hl := (List.getElem?_eq_some_iff.1 hi).1
  rw [(Q6z b).1] at hl
  rw [(Q6z b).2 i hl] at hi
  injection hi with hi
  omega
section
variable {P : Program} {X : Orc} {w0 : World} {D0 : Nat → Option Nat} {H0 : Nat → Option Ob} {F : Nat → Nat → Prop} {n0 m L : Nat} {e : Nat → PV} {H : Nat → Option Ob} {a : Act} {w : World} {D : Nat → Option Nat}
theorem Qna (S : Sim w D H F n0 m) {Hv : Nat → Option Ob} (hv : ∀ id ob', Hv id = some ob' → (∃ ob, H id = some ob ∧ VOb ob ob') ∨ (ob'.cells = [] ∧ ob'.ro = 0 ∧ D id = none)) :
    (∀ b o, Mut D Hv F b o → Mut D H F b o) ∧ (∀ b o, MutO D Hv b o → MutO D H b o) ∧ Sim w D Hv F n0 m := by
  have hO : ∀ b o, MutO D Hv b o → MutO D H b o := by
    rintro b o ⟨id, ob', h1, h2, h3⟩
    rcases hv id ob' h1 with ⟨ob, g1, g2, _⟩ | ⟨_, _, g⟩
    · exact ⟨id, ob, g1, h2, by omega⟩
    · rw [h2] at g; cases g
  have hM : ∀ b o, Mut D Hv F b o → Mut D H F b o := fun b o h => h.imp (fun h => h) (hO b o)
  refine ⟨hM, hO, S.fr, S.le, S.own, fun id ob' h => ?_, fun i j x y k hi hj di dj => ?_, fun id ob' b o h hd => ?_⟩
  · rcases hv id ob' h with ⟨ob, g1, g2, g3, g4⟩ | ⟨g1, g2, g3⟩
    · obtain ⟨q1, q2⟩ := S.ok id ob g1
      refine ⟨by rw [g4.1]; omega, ?_⟩
      rcases q2 with ⟨e1, e2⟩ | ⟨b, carr, t, e1, e2, e3, e4, e5⟩
      · exact .inl ⟨List.eq_nil_of_length_eq_zero (by rw [g4.1, e1]; rfl), e2⟩
      · refine .inr ⟨b, carr, t, e1, e2, by rw [g4.1]; exact e3, fun hg => e4 (by rw [← g3]; exact hg), fun k q hq => ?_⟩
        have hlt : k < ob.cells.length := by rw [← g4.1]; exact (List.getElem?_eq_some_iff.1 hq).1
        obtain ⟨v, r1, r2, r3⟩ := e5 k _ (List.getElem?_eq_getElem hlt)
        exact ⟨v, r1, r2, g4.2 k _ q (List.getElem?_eq_getElem hlt) hq _ _ _ _ (r3.to (fun b o _ h => hM b o h) (fun _ _ h => h))⟩
    · exact ⟨by omega, .inl ⟨g1, g3⟩⟩
  · rcases hv i x hi with ⟨ob, g1, _⟩ | ⟨_, _, g⟩
    · rcases hv j y hj with ⟨ob', f1, _⟩ | ⟨_, _, f⟩
      · exact S.inj i j ob ob' k g1 f1 di dj
      · rw [dj] at f; cases f
    · rw [di] at g; cases g
  · rcases hv id ob' h with ⟨ob, g1, _⟩ | ⟨_, _, g⟩
    · exact S.dis id ob b o g1 hd
    · rw [hd] at g; cases g
theorem renumber (S : Sim w D H F n0 m) (byRef byRefO : Bool) {vs : List PV} {y : List PV × List Nat × List Nat} {z : List Ob × List Nat × List Nat} {n : Nat} (hy : Q3f (pass H byRef 8) vs (upTo m) = some y) (hz : Q1u H byRefO true n 0 y.2.1 = some z) (hdj : ∀ x ∈ y.2.2 ++ z.2.2, x ∉ z.2.1) :
    ∃ D', Sim w D' (hF z.1) F n0 m ∧ (∀ id, id < m → D' id = D id) ∧ (∀ id, z.1.length ≤ id → D' id = none) ∧ (∀ b o, Mut D' (hF z.1) F b o → Mut D H F b o) ∧ m ≤ z.1.length ∧ y.1.length = vs.length ∧
      ∀ (i : Nat) v p q, vs[i]? = some p → y.1[i]? = some q → Rep w (Mut D H F) D v p → Rep w (Mut D' (hF z.1) F) D' v q := by
  have hy0 := Q2c (M := Mut D H F) (fun p ids x hx => Q5v S (fun _ _ _ h => h) byRef 8 p ids x hx) vs (upTo m) y hy
  have hz0 := Q2a (M := Mut D H F) S (fun _ _ _ h => h) byRefO true n 0 y.2.1 z (Nat.zero_le _) hz
  have hnd0 := hy0.2.1 (Qzr m)
  have hnd := hz0.2.1 hnd0
  have hpre : upTo m <+: z.2.1 := hy0.1.trans hz0.1
  have hlow : ∀ p, p < m → z.2.1[p]? = some p := fun p hp => Q4o hpre ((Q6z m).2 p hp)
  have hlen : z.1.length = z.2.1.length := by have := hz0.2.2.1; omega
  obtain ⟨h1, h2, h3⟩ := Qum S byRefO true hz hnd0 (lent := y.2.2 ++ z.2.2) (fun x hx => List.mem_append_right _ hx) (F' := F) (fun b o h => .inl h) (fun id _ ob b o h1 h2 _ hF => S.dis id ob b o h1 h2 hF) hdj (n' := n0) (m' := m) S.fr S.le
    (fun p b hp => by
      unfold Dof at hp
      cases hq : z.2.1[p]? with
      | none => rw [hq] at hp; cases hp
      | some id =>
        rw [hq] at hp
        rcases S.own id b hp with h | h
        · have := (List.getElem?_inj (List.getElem?_eq_some_iff.1 hq).1 hnd).1 (hq.trans (hlow id h).symm)
          exact .inl (by omega)
        · exact .inr h)
    (fun id ob b o _ h1 h2 => S.dis id ob b o h1 h2)
    (fun id ob b hob hg hd => by
      rcases (S.ok id ob hob).2 with ⟨_, e2⟩ | ⟨b', carr, t, e1, _, _, e4, _⟩
      · rw [hd] at e2; cases e2
      · rw [hd] at e1
        injection e1 with e1
        subst e1
        exact e4 (by simpa using hg))
  refine ⟨Dof D z.2.1, h3, fun id hid => by unfold Dof; rw [hlow id hid]; rfl, fun id hid => by unfold Dof; rw [List.getElem?_eq_none (by omega)]; rfl, h1, by have := hpre.length_le; rw [(Q6z m).1] at this; omega, hy0.2.2.1, fun i v p q hp hq hr => ?_⟩
  obtain ⟨_, _, _, c4⟩ := Q2c (fun p ids x hx => Q5v S (M := Mut (Dof D z.2.1) (hF z.1) F) (fun b o _ h => h1 b o h) byRef 8 p ids x hx) vs (upTo m) y hy
  exact c4 z.2.1 hz0.1 (fun id hi => h2 id (List.mem_append_left _ hi)) i v p q hp hq hr
theorem Qow (live : List Nat) : ∀ (l : List PV) (i : Nat), (mask live i l).length = l.length ∧ ∀ (k : Nat) q, (mask live i l)[k]? = some q → q = .un ∨ l[k]? = some q
 | [], i => ⟨rfl, fun k q h => by simp [mask] at h⟩
 | p :: r, i => by
  obtain ⟨h1, h2⟩ := Qow live r (i + 1)
  refine ⟨by simp [mask, h1], fun k q hq => ?_⟩
  cases k with
  | zero =>
   simp only [mask, List.getElem?_cons_zero, Option.some.injEq] at hq
   subst hq
   cases has live i with
   | true => exact .inr rfl
   | false => exact .inl rfl
  | succ k => simpa using h2 k q (by simpa [mask] using hq)
theorem Qw7 {n : Nat} {vs : List PV} {ids : List Nat} {y : List PV × List Nat × List Nat} (h : Q3f (pass H true n) vs ids = some y) : y.2.2 = [] := by
 induction n generalizing vs ids y with
 | zero =>
  cases vs with
  | nil => simp only [Q3f, Option.some.injEq] at h; subst h; rfl
  | cons p r =>
   simp only [Q3f] at h
   obtain ⟨x, hx, _⟩ := bind_some h
   simp [pass] at hx
 | succ n ih =>
  have one : ∀ p ids x, pass H true (n + 1) p ids = some x → x.fr = [] := by
   intro p ids x h
   cases p with
   | bx id off => rw [pass] at h; injection h with h; subst h; rfl
   | ms id sz off len => rw [pass, cond_true] at h; injection h with h; subst h; rfl
   | agg c =>
    rw [pass] at h
    obtain ⟨y, hy, h⟩ := bind_some h
    injection h with h
    subst h
    exact ih hy
   | tup c =>
    rw [pass] at h
    obtain ⟨y, hy, h⟩ := bind_some h
    injection h with h
    subst h
    exact ih hy
   | fn f a b =>
    rw [pass] at h
    obtain ⟨y, hy, h⟩ := bind_some h
    obtain ⟨z, hz, h⟩ := bind_some h
    injection h with h
    subst h
    show y.2.2 ++ z.2.2 = []
    rw [ih hy, ih hz]
    rfl
   | _ => simp only [pass, Option.some.injEq] at h; subst h; rfl
  induction vs generalizing ids y with
  | nil => simp only [Q3f, Option.some.injEq] at h; subst h; rfl
  | cons p r ihr =>
   simp only [Q3f] at h
   obtain ⟨x, hx, h⟩ := bind_some h
   obtain ⟨z, hz, h⟩ := bind_some h
   injection h with h
   subst h
   show x.fr ++ z.2.2 = []
   rw [one p ids x hx, ihr hz]
   rfl
theorem Qlh {own : Bool} : ∀ (n k : Nat) (ids : List Nat) (z : List Ob × List Nat × List Nat), Q1u H true own n k ids = some z → z.2.2 = []
 | 0, k, ids, z, h => by simp [Q1u] at h
 | n + 1, k, ids, z, h => by
  simp only [Q1u] at h
  cases hid : ids[k]? with
  | none => simp only [hid, Option.some.injEq] at h; subst h; rfl
  | some id =>
   simp only [hid] at h
   obtain ⟨ob, hob, h⟩ := bind_some h
   obtain ⟨y, hy, h⟩ := bind_some h
   obtain ⟨z', hz, h⟩ := bind_some h
   injection h with h
   subst h
   show y.2.2 ++ z'.2.2 = []
   rw [Qw7 hy, Qlh n (k + 1) y.2.1 z' hz]
   rfl
theorem Qrx {s : St} (A : At w0 D0 H0 F n0 m s.env.length (envF s.env) (look s.heap) a w D) (hf : ∀ id, s.nx ≤ id → D id = none ∧ look s.heap id = none) {live : List Nat} {y : List PV × List Ob} (h : gc0 m live s = some y) :
    ∃ D', At w0 D0 H0 F n0 m y.1.length (envF y.1) (hF y.2) a w D' ∧ (∀ id, y.2.length ≤ id → D' id = none ∧ hF y.2 id = none) ∧ m ≤ y.2.length := by
  unfold gc0 at h
  obtain ⟨y1, hy1, h⟩ := bind_some h
  obtain ⟨z, hz, h⟩ := bind_some h
  injection h with h
  subst h
  obtain ⟨v1, v2, v3⟩ := Q43 (mask live 0 s.env) s.nx
  obtain ⟨u1, u2, u3⟩ := Qjc s.heap (Q32 s.nx (mask live 0 s.env)).2.1
  obtain ⟨hM, hO, S⟩ := Qna A.sim (Hv := look ((Qba (Q32 s.nx (mask live 0 s.env)).2.1 s.heap).1 ++ ((Q32 s.nx (mask live 0 s.env)).2.2 ++ (Qba (Q32 s.nx (mask live 0 s.env)).2.1 s.heap).2.2))) (fun id ob' h => by
    rcases Qfs h with h | h
    · exact .inl (u3 id ob' h)
    · have : s.nx ≤ id ∧ ob'.cells = [] ∧ ob'.ro = 0 := by
        rcases List.mem_append.1 (Qui h) with hm | hm
        · exact v3 _ hm
        · exact (u2.mono v2) _ hm
      exact .inr ⟨this.2.1, this.2.2, (hf id this.1).1⟩)
  obtain ⟨D', S', hlow, hout, hsub, hlen, hyl, hrep⟩ := renumber S true true hy1 hz (by rw [Qw7 hy1, Qlh _ _ _ _ hz]; exact fun x hx => absurd hx List.not_mem_nil)
  obtain ⟨m1, m2⟩ := Qow live s.env 0
  have hlt : y1.1.length = s.env.length := by rw [hyl, v1.1, m1]
  refine ⟨D', ⟨S', fun t => ?_, by rw [hlt]; exact A.size, fun t ht => ?_, A.keeps, fun id hid => by rw [hlow id hid, A.low id hid], fun b o hb h => A.sub b o hb (hM b o (hsub b o h)), A.defers⟩, fun id hid => ⟨hout id hid, List.getElem?_eq_none hid⟩, hlen⟩
  · unfold envF
    rw [List.getD_eq_getElem?_getD]
    cases hq : y1.1[t]? with
    | none => exact .un _ _
    | some q =>
      have htl : t < (Q32 s.nx (mask live 0 s.env)).1.length := by rw [← hyl]; exact (List.getElem?_eq_some_iff.1 hq).1
      refine hrep t _ _ q (List.getElem?_eq_getElem htl) hq ?_
      have htm : t < (mask live 0 s.env).length := by rw [← v1.1]; exact htl
      refine v1.2 t _ _ (List.getElem?_eq_getElem htm) (List.getElem?_eq_getElem htl) _ _ _ _ ?_
      rcases m2 t _ (List.getElem?_eq_getElem htm) with h | h
      · rw [h]; exact .un _ _
      · have := A.env t
        unfold envF at this
        rw [List.getD_eq_getElem?_getD, h] at this
        exact this.to (fun b o _ h => hM b o h) (fun _ _ h => h)
  · show envF y1.1 t = .un
    unfold envF
    rw [List.getD_eq_getElem?_getD, List.getElem?_eq_none ht]
    rfl
theorem Like.flat (p : PV) : Like p (Qoc p) := fun w M D v h => by
 cases p <;> first | exact h | skip
 cases h with
 | ns _ A sz => exact .sl _ A 0 0 0 [] 0 0 (fun _ _ => default) rfl (Nat.le_refl _) (Nat.zero_le _) (fun r hr => absurd hr List.not_mem_nil) (fun h => absurd h (Nat.lt_irrefl _)) (fun j r hj => by simp at hj) (fun j r hj => by simp at hj)
theorem Q74.flat (l : List PV) : Q74 l (l.map Qoc) := by
 refine ⟨by simp, fun k p q hp hq => ?_⟩
 rw [List.getElem?_map, hp] at hq
 simp only [Option.map_some, Option.some.injEq] at hq
 subst hq
 exact Like.flat p
theorem Q18u {s : St} (A : At w0 D0 H0 F n0 m s.env.length (envF s.env) (look s.heap) a w D) : At w0 D0 H0 F n0 m (Q5l s).env.length (envF (Q5l s).env) (look (Q5l s).heap) a w D := by
  obtain ⟨hM, hO, S⟩ := Qna A.sim (Hv := look (Q5l s).heap) (fun id ob' h => by
    rw [show (Q5l s).heap = s.heap.map fun x => (x.1, Qc0 x.2) from rfl, Q96] at h
    cases e : look s.heap id with
    | none => rw [e] at h; cases h
    | some ob =>
      rw [e] at h
      simp only [Option.map_some, Option.some.injEq] at h
      subst h
      exact .inl ⟨ob, rfl, rfl, rfl, Q74.flat ob.cells⟩)
  have hlen : (Q5l s).env.length = s.env.length := by simp [Q5l]
  have henv : ∀ t, envF (Q5l s).env t = Qoc (envF s.env t) := fun t => by
    show (s.env.map Qoc).getD t .un = Qoc (s.env.getD t .un)
    rw [List.getD_eq_getElem?_getD, List.getD_eq_getElem?_getD, List.getElem?_map]
    cases s.env[t]? <;> rfl
  refine ⟨S, fun t => ?_, by rw [hlen]; exact A.size, fun t ht => ?_, A.keeps, A.low, fun b o hb h => A.sub b o hb (hM b o h), A.defers⟩
  · rw [henv]
    exact Like.flat _ _ _ _ _ ((A.env t).to (fun b o _ h => hM b o h) (fun _ _ h => h))
  · rw [henv, A.out t (by rw [hlen] at ht; exact ht)]
    rfl
theorem Qvd {s : St} (A : At w0 D0 H0 F n0 m s.env.length (envF s.env) (look s.heap) a w D) (hf : ∀ id, s.nx ≤ id → D id = none ∧ look s.heap id = none) {live : List Nat} {y : List PV × List Ob} (h : gc m live s = some y) :
  ∃ D', At w0 D0 H0 F n0 m y.1.length (envF y.1) (hF y.2) a w D' ∧ (∀ id, y.2.length ≤ id → D' id = none ∧ hF y.2 id = none) ∧ m ≤ y.2.length := by
 unfold gc at h
 cases c : has live 200001 with
 | false =>
  rw [c] at h
  exact Qrx A hf h
 | true =>
  rw [c] at h
  refine Qrx (Q18u A) (fun id hid => ⟨(hf id hid).1, ?_⟩) h
  rw [show (Q5l s).heap = s.heap.map fun x => (x.1, Qc0 x.2) from rfl, Q96, (hf id hid).2]
  rfl
def Qac (P : Program) : List ResultVar → List RV → Bool
 | [], [] => true
 | .tmp t :: r, .tmp t' :: r' => Nat.beq t t' && Qac P r r'
 | .cell t ty :: r, .cell t' n ag :: r' => Nat.beq t t' && tyOK P ty n ag && Qac P r r'
 | _, _ => false
theorem Q18m (S : Sim w D H F n0 m) {t : TypeId} {n : Nat} {ag : Bool} (ht : tyOK P t n ag = true) {p q : PV} {c : List PV × List Nat} (hc : reads H n p = some c) (hq : shape ag c.1 = some q) {u : Value} (hu : Rep w (Mut D H F) D u p) :
  ∃ v, (do loadVar t (← asAddr u) : Sem Value).run P w = .ok v w ∧ Rep w (Mut D H F) D v q := by
 obtain ⟨b, off, xs, hv, hl, hra, hrn⟩ := Qef S hc hu
 obtain ⟨ha, hn, h1⟩ := Q5u ht
 subst hv
 cases ag with
 | true =>
  obtain ⟨fs, hu⟩ := Qlk ha
  simp only [shape, cond_true, Option.some.injEq] at hq
  subst hq
  refine ⟨.agg xs.toArray, ?_, .agg _ _ _ (by simpa using hrn.1) (fun i v p hv hp => (hrn.2 i v p (by simpa using hv) hp).1) (fun i v p hv hp => (hrn.2 i v p (by simpa using hv) hp).2)⟩
  obtain ⟨i, hi, his⟩ := Q79 hn
  have := run_loadVar_mid (P := P) w b off t xs _ hra hu rfl (by rw [hi]; simp [his, hl])
  simp [asAddr, this]
 | false =>
  have hn1 : n = 1 := h1 rfl
  subst hn1
  cases xs with
  | nil => simp at hl
  | cons u r =>
   have hr0 : r = [] := by cases r with | nil => rfl | cons _ _ => simp at hl
   subst hr0
   obtain ⟨c1, c2⟩ := c
   cases c1 with
   | nil => have := hrn.1; simp at this
   | cons p r =>
    have : r = [] := by cases r with | nil => rfl | cons _ _ => have := hrn.1; simp at this
    subst this
    simp only [shape, cond_false, Option.some.injEq] at hq
    subst hq
    have hcell := hra 0 u rfl
    simp only [Nat.add_zero] at hcell
    refine ⟨u, ?_, (hrn.2 0 u p rfl rfl).2⟩
    simp [asAddr, loadVar, Q4w ha, hcell]
def Q158 (tmps : Array Value) : ResultVar → Sem Value
 | .tmp t => pure (tmps.getD t undef)
 | .cell x t => do loadVar t (← asAddr (tmps.getD x undef))
theorem Qyu (fn : Func) (tmps : Array Value) : results fn tmps = (do let vs ← fn.results.mapM (Q158 tmps); pure (if h : vs.size = 1 then vs[0] else .tuple vs)) := by
 unfold results
 have : (fun x : ResultVar => (match x with | .tmp t => pure (tmps.getD t undef) | .cell x t => do loadVar t (← asAddr (tmps.getD x undef)) : Sem Value)) = Q158 tmps := by
  funext x
  cases x <;> rfl
 rw [← this]
 rfl
theorem Qhr {s : St} (S : Sim w D (look s.heap) F n0 m) (he : Q88 w (Mut D (look s.heap) F) D a (envF s.env)) : ∀ (rs : List ResultVar) (is : List RV) (vs : List PV), Qac P rs is = true → mapO (rv s) is = some vs →
  ∃ us, (rs.mapM (Q158 a.tmps)).run P w = .ok us w ∧ RepL w (Mut D (look s.heap) F) D us vs
 | [], [], vs, _, h => by
  simp only [mapO, Option.some.injEq] at h
  subst h
  exact ⟨[], by simp, RepL.nil _ _ _⟩
 | [], _ :: _, vs, h, _ => by cases h
 | x :: rs, [], vs, h, _ => by cases x <;> cases h
 | x :: rs, i :: is, vs, hc, h => by
  simp only [mapO] at h
  obtain ⟨q, hq, h⟩ := bind_some h
  obtain ⟨qs, hqs, h⟩ := bind_some h
  injection h with h
  subst h
  cases x with
  | tmp t =>
   cases i with
   | cell _ _ _ => cases hc
   | tmp t' =>
    simp only [Qac, Bool.and_eq_true] at hc
    have := Nat.eq_of_beq_eq_true hc.1
    subst this
    obtain ⟨us, hus, hr⟩ := Qhr S he rs is qs hc.2 hqs
    simp only [rv, Option.some.injEq] at hq
    subst hq
    refine ⟨_ :: us, ?_, RepL.cons (he t) hr⟩
    rw [List.mapM_cons, Sem.run_bind]
    have hv' : (Q158 a.tmps (.tmp t)).run P w = .ok (a.tmps.getD t undef) w := rfl
    rw [hv', Result.andThen_ok, Sem.run_bind, hus]
    rfl
  | cell t ty =>
   cases i with
   | tmp _ => cases hc
   | cell t' n ag =>
    simp only [Qac, Bool.and_eq_true] at hc
    have := Nat.eq_of_beq_eq_true hc.1.1
    subst this
    obtain ⟨us, hus, hr⟩ := Qhr S he rs is qs hc.2 hqs
    simp only [rv] at hq
    obtain ⟨c, hc1, hc2⟩ := bind_some hq
    obtain ⟨v, hv, hvr⟩ := Q18m (P := P) S hc.1.2 hc1 hc2 (he t)
    refine ⟨v :: us, ?_, RepL.cons hvr hr⟩
    rw [List.mapM_cons, Sem.run_bind]
    have hv' : (Q158 a.tmps (.cell t ty)).run P w = .ok v w := hv
    rw [hv', Result.andThen_ok, Sem.run_bind, hus]
    rfl
theorem Q53 : ∀ (m : Nat) (l : List Ob) (p : Nat) (ob : Ob), (regr m l)[p]? = some ob → ∃ o, l[p]? = some o ∧ ob.ro = o.ro ∧ ob.cells = o.cells ∧ (p < m → ob = o)
 | _, [], p, ob, h => by simp [regr] at h
 | 0, o :: r, p, ob, h => by
  cases p with
  | zero =>
   simp only [regr, List.getElem?_cons_zero, Option.some.injEq] at h
   subst h
   exact ⟨o, rfl, rfl, rfl, fun h => absurd h (Nat.not_lt_zero _)⟩
  | succ p =>
   simp only [regr, List.getElem?_cons_succ] at h
   obtain ⟨o', h1, h2, h3, _⟩ := Q53 0 r p ob h
   exact ⟨o', by simpa using h1, h2, h3, fun h => absurd h (Nat.not_lt_zero _)⟩
 | m + 1, o :: r, p, ob, h => by
  cases p with
  | zero =>
   simp only [regr, List.getElem?_cons_zero, Option.some.injEq] at h
   subst h
   exact ⟨o, rfl, rfl, rfl, fun _ => rfl⟩
  | succ p =>
   simp only [regr, List.getElem?_cons_succ] at h
   obtain ⟨o', h1, h2, h3, h4⟩ := Q53 m r p ob h
   exact ⟨o', by simpa using h1, h2, h3, fun h => h4 (by omega)⟩
theorem Qa4 : ∀ (m : Nat) (l : List Ob), (regr m l).length = l.length
 | _, [] => by simp [regr]
 | 0, o :: r => by simp [regr, Qa4 0 r]
 | m + 1, o :: r => by simp [regr, Qa4 m r]
theorem Q13x (m : Nat) (l : List Ob) (p : Nat) (o : Ob) (h : l[p]? = some o) : ∃ ob, (regr m l)[p]? = some ob ∧ ob.ro = o.ro ∧ ob.cells = o.cells := by
 have hlt : p < (regr m l).length := by rw [Qa4]; exact (List.getElem?_eq_some_iff.1 h).1
 obtain ⟨o', h1, h2, h3, _⟩ := Q53 m l p _ (List.getElem?_eq_getElem hlt)
 rw [h] at h1
 injection h1 with h1
 subst h1
 exact ⟨_, List.getElem?_eq_getElem hlt, h2, h3⟩
theorem Qn6 {m : Nat} {l : List Ob} {D : Nat → Option Nat} {F : Nat → Nat → Prop} {b o : Nat} : Mut D (hF (regr m l)) F b o ↔ Mut D (hF l) F b o := by
  constructor
  · rintro (h | ⟨id, ob, h1, h2, h3⟩)
    · exact .inl h
    · obtain ⟨o', g1, g2, _⟩ := Q53 m l id ob h1
      exact .inr ⟨id, o', g1, h2, by rw [← g2]; exact h3⟩
  · rintro (h | ⟨id, ob, h1, h2, h3⟩)
    · exact .inl h
    · obtain ⟨o', g1, g2, _⟩ := Q13x m l id ob h1
      exact .inr ⟨id, o', g1, h2, by rw [g2]; exact h3⟩
theorem Q15z {w : World} {D : Nat → Option Nat} {l : List Ob} {F : Nat → Nat → Prop} {n0 m : Nat} (S : Sim w D (hF l) F n0 m) : Sim w D (hF (regr m l)) F n0 m := by
  refine ⟨S.fr, S.le, S.own, fun id ob h => ?_, fun i j a b k hi hj di dj => ?_, fun id ob b o h hd => ?_⟩
  · obtain ⟨o', g1, g2, g3, g4⟩ := Q53 m l id ob h
    obtain ⟨k1, k2⟩ := S.ok id o' g1
    refine ⟨by rw [g2, g3]; exact k1, ?_⟩
    rcases k2 with ⟨e1, e2⟩ | ⟨b, carr, t, e1, e2, e3, e4, e5⟩
    · exact .inl ⟨by rw [g3]; exact e1, e2⟩
    · refine .inr ⟨b, carr, t, e1, e2, by rw [g3]; exact e3, fun hg => ?_, fun k p hp => ?_⟩
      · by_cases c : id < m
        · rw [g4 c] at hg
          exact e4 hg
        · exact (S.own id b e1).resolve_left c
      · rw [g3] at hp
        obtain ⟨v, q1, q2, q3⟩ := e5 k p hp
        exact ⟨v, q1, q2, q3.to (fun b o _ h => Qn6.1 h) (fun _ _ h => h)⟩
  · obtain ⟨a', g1, _⟩ := Q53 m l i a hi
    obtain ⟨b', g2, _⟩ := Q53 m l j b hj
    exact S.inj i j a' b' k g1 g2 di dj
  · obtain ⟨a', g1, _⟩ := Q53 m l id ob h
    exact S.dis id a' b o g1 hd
theorem Qdr {fn : IFn} {Fn : Func} {s : St} (A : At w0 D0 H0 F n0 m s.env.length (envF s.env) (look s.heap) a w D) (hf : ∀ id, s.nx ≤ id → D id = none ∧ look s.heap id = none) (hc : Qac P Fn.results.toList fn.res = true) {r : Rs} (h : fin fn m s = some r) :
    ∃ v p h' D', r = .ret p h' ∧ (results Fn a.tmps).run P w = .ok v w ∧ Sim w D' (hF h') F n0 m ∧ (∀ id, id < m → D' id = D id) ∧ (∀ id, h'.length ≤ id → D' id = none) ∧ (∀ b o, Mut D' (hF h') F b o → Mut D (look s.heap) F b o) ∧ m ≤ h'.length ∧ Rep w (Mut D' (hF h') F) D' v p := by
  unfold fin at h
  obtain ⟨vs, hvs, h⟩ := bind_some h
  obtain ⟨y, hy, h⟩ := bind_some h
  obtain ⟨z, hz, h⟩ := bind_some h
  obtain ⟨hdj, h⟩ := Qs h
  injection h with h
  subst h
  obtain ⟨us, hus, hrl⟩ := Qhr A.sim A.env _ _ vs hc hvs
  -- what stands in the results, laid out
  have hvirt : Q74 vs (bif fn.keep then Q32 s.nx vs else (vs, s.nx, [])).1 ∧ Bare s.nx (bif fn.keep then Q32 s.nx vs else (vs, s.nx, [])).2.2 := by
    cases fn.keep with
    | true => exact ⟨(Q43 vs s.nx).1, (Q43 vs s.nx).2.2⟩
    | false => exact ⟨Q74.refl vs, fun x hx => absurd hx List.not_mem_nil⟩
  obtain ⟨hlike, hbare⟩ := hvirt
  obtain ⟨hM, hO, S⟩ := Qna A.sim (Hv := look (s.heap ++ (bif fn.keep then Q32 s.nx vs else (vs, s.nx, [])).2.2)) (fun id ob' h => by
    rcases Qfs h with h | h
    · exact .inl ⟨ob', h, rfl, rfl, Q74.refl _⟩
    · have := hbare _ (Qui h)
      exact .inr ⟨this.2.1, this.2.2, (hf id this.1).1⟩)
  obtain ⟨D', S', hlow, hout, hsub, hlen, hyl, hrep⟩ := renumber S fn.keep false hy hz (Qce.1 hdj)
  have hR : RepL w (Mut D' (hF z.1) F) D' us y.1 := by
    refine ⟨by rw [hyl, hlike.1]; exact hrl.1, fun i v q hv hq => ?_⟩
    have h1 : i < (bif fn.keep then Q32 s.nx vs else (vs, s.nx, [])).1.length := by rw [← hyl]; exact (List.getElem?_eq_some_iff.1 hq).1
    have h2 : i < vs.length := by rw [← hlike.1]; exact h1
    refine hrep i v _ q (List.getElem?_eq_getElem h1) hq ?_
    refine hlike.2 i _ _ (List.getElem?_eq_getElem h2) (List.getElem?_eq_getElem h1) _ _ _ _ ?_
    exact (hrl.2 i v _ hv (List.getElem?_eq_getElem h2)).to (fun b o _ h => hM b o h) (fun _ _ h => h)
  have hrun : ∀ u : Value, (if h : us.toArray.size = 1 then us.toArray[0] else .tuple us.toArray) = u → (results Fn a.tmps).run P w = .ok u w := by
    intro u hu
    rw [Qyu, Sem.run_bind, Array.mapM_eq_mapM_toList, Sem.run_map, hus, Result.andThen_ok, Result.andThen_ok]
    rw [← hu]
    rfl
  have hR : RepL w (Mut D' (hF (regr m z.1)) F) D' us y.1 := hR.mono fun v p h => h.to (fun b o _ h => Qn6.1 h) (fun _ _ h => h)
  refine ⟨_, _, regr m z.1, D', rfl, hrun _ rfl, Q15z S', hlow, fun id h => hout id (by rw [Qa4] at h; exact h), fun b o h => hM b o (hsub b o (Qn6.1 h)), by rw [Qa4]; exact hlen, ?_⟩
  have htup : ∀ l : List PV, RepL w (Mut D' (hF (regr m z.1)) F) D' us l → Rep w (Mut D' (hF (regr m z.1)) F) D' (.tuple us.toArray) (.tup l) := fun l hl =>
    .tup _ _ _ (by simpa using hl.1) (fun i v p hv hp => hl.2 i v p (by simpa using hv) hp)
  generalize y.1 = l at hR ⊢
  match l, hR with
  | [], hR =>
    have : us.length = 0 := hR.1
    rw [dif_neg (by simp [this])]
    exact htup _ hR
  | [p], hR =>
    have : us.length = 1 := hR.1
    rw [dif_pos (by simpa using this)]
    exact hR.2 0 _ _ (by simp [this]) rfl
  | p :: q :: r, hR =>
    have : us.length = r.length + 1 + 1 := hR.1
    rw [dif_neg (by simp [this])]
    exact htup _ hR
end
end Go.Pv
end

section
/-
  Code, loops, functions: WHAT THE EVALUATOR ANSWERS, THE MACHINE ANSWERS.
-/
namespace Go.Pv
open Go.RowKit
def Q2g (P : Program) : IR → Code → Bool
 | .skip, c => (match c with | .skip => true | .label _ => true | _ => false)
 | .reg ios draw, c => (match c with | .region _ ops d => (d == draw) && Q10k P ops ios draw | _ => false)
 | .seq a b, c => (match c with | .seq x y => Q2g P a x && Q2g P b y | _ => false)
 | .cond q a b, c => (match c with | .cond p x y => Q1y p q && Q2g P a x && Q2g P b y | _ => false)
 | .block id b, c => (match c with | .block id' x => Nat.beq id id' && Q2g P b x | _ => false)
 | .loop _ b, c => (match c with | .loop x => Q2g P b x | _ => false)
 | .exit id, c => (match c with | .exit id' => Nat.beq id id' | _ => false)
 | .ret, c => (match c with | .ret => true | _ => false)
def exOf : Ex → Exit
 | .normal => .normal
 | .exit id => .exit id
 | .ret => .ret
section
variable {P : Program} {X : Orc}
def Q19t (P : Program) (m : Nat) (b : IR) (env : List PV) (h : List Ob) (x : Ex) (s' : St) : Prop :=
 ∃ n, ∀ (c : Code), Q2g P b c = true → ∀ (w0 : World) (D0 : Nat → Option Nat) (H0 : Nat → Option Ob) (F : Nat → Nat → Prop) (n0 : Nat) (a : Act) (w : World) (D : Nat → Option Nat) (Q : Exit → Act → World → Prop),
  At w0 D0 H0 F n0 m env.length (envF env) (hF h) a w D → (∀ id, h.length ≤ id → D id = none) → m ≤ h.length →
   (∀ a' w' D', At w0 D0 H0 F n0 m s'.env.length (envF s'.env) (look s'.heap) a' w' D' → (∀ id, s'.nx ≤ id → D' id = none ∧ look s'.heap id = none) → m ≤ s'.nx → Q (exOf x) a' w') → Code.rounds P c Q n a w
def Qn1 (P : Program) (X : Orc) : Prop := ∀ m live b env h x s', X (.loop m live b env h) = some (.st x s') → Q19t P m b env h x s'
variable {w0 : World} {D0 : Nat → Option Nat} {H0 : Nat → Option Ob} {F : Nat → Nat → Prop} {n0 m : Nat}
theorem Q184 {ops : List IOper} {draw : Bool} {s s' : St} (h : ireg X ops draw s = some s') : s.nx ≤ s'.nx := by
 unfold ireg at h
 obtain ⟨y, hy, h⟩ := bind_some h
 cases hc : (!draw || calm (ops.zip y.2.2) 0 (ops.zip y.2.2)) with
 | false => rw [hc] at h; cases h
 | true =>
  rw [hc] at h
  simp only [cond_true, Option.some.injEq] at h
  subst h
  exact Nat.le_add_right _ _
theorem Q4m (hm : P.follows .mixedOrders = true) (hX : Q5b P X) (hL : Qn1 P X) : ∀ (ir : IR) (c : Code), Q2g P ir c = true → ∀ (s : St) (x : Ex) (s' : St), Q33 X m ir s = some (x, s') → ∀ (a : Act) (w : World) (D : Nat → Option Nat) (Q : Exit → Act → World → Prop),
    At w0 D0 H0 F n0 m s.env.length (envF s.env) (look s.heap) a w D → (∀ id, s.nx ≤ id → D id = none ∧ look s.heap id = none) → m ≤ s.nx →
      (∀ a' w' D', At w0 D0 H0 F n0 m s'.env.length (envF s'.env) (look s'.heap) a' w' D' → (∀ id, s'.nx ≤ id → D' id = none ∧ look s'.heap id = none) → m ≤ s'.nx → Q (exOf x) a' w') → Code.wp P c Q a w := by
  intro ir
  induction ir with
  | skip =>
    intro c hc s x s' h a w D Q A hf hn hQ
    simp only [Q33, Option.some.injEq, Prod.mk.injEq] at h
    obtain ⟨rfl, rfl⟩ := h
    cases c <;> first | (cases hc; done) | skip
    · exact wp_skip (hQ a w D A hf hn)
    · exact wp_label (hQ a w D A hf hn)
  | reg ios draw =>
    intro c hc s x s' h a w D Q A hf hn hQ
    simp only [Q33] at h
    obtain ⟨s1, hs, h⟩ := bind_some h
    simp only [Option.some.injEq, Prod.mk.injEq] at h
    obtain ⟨rfl, rfl⟩ := h
    cases c <;> first | (cases hc; done) | skip
    rename_i id ops d
    simp only [Q2g, Bool.and_eq_true] at hc
    have hd : d = draw := by simpa using hc.1
    subst hd
    exact Qrn hm hX hc.2 hs A hf hn (fun a' w' D' A' hf' => hQ a' w' D' A' hf' (Nat.le_trans hn (Q184 hs)))
  | seq p q ihp ihq =>
    intro c hc s x s' h a w D Q A hf hn hQ
    simp only [Q33] at h
    obtain ⟨⟨x1, s1⟩, h1, h⟩ := bind_some h
    cases c <;> first | (cases hc; done) | skip
    rename_i cx cy
    simp only [Q2g, Bool.and_eq_true] at hc
    refine wp_seq (ihp cx hc.1 s x1 s1 h1 a w D _ A hf hn fun a' w' D' A' hf' hn' => ?_)
    cases x1 with
    | normal => exact ihq cy hc.2 s1 x s' h a' w' D' Q A' hf' hn' hQ
    | exit j =>
      simp only [Option.some.injEq, Prod.mk.injEq] at h
      obtain ⟨rfl, rfl⟩ := h
      exact hQ a' w' D' A' hf' hn'
    | ret =>
      simp only [Option.some.injEq, Prod.mk.injEq] at h
      obtain ⟨rfl, rfl⟩ := h
      exact hQ a' w' D' A' hf' hn'
  | cond q p r ihp ihr =>
    intro c hc s x s' h a w D Q A hf hn hQ
    cases c <;> first | (cases hc; done) | skip
    rename_i cq cx cy
    simp only [Q2g, Bool.and_eq_true] at hc
    have hq := Qq A.env hc.1.1
    simp only [Q33] at h
    split at h
    · rename_i t ht
      rw [ht] at hq
      have he : a.eval cq = .bool t := by
        generalize a.eval cq = u at hq
        cases hq with
        | bool _ _ => rfl
      refine wp_cond he ?_
      cases t with
      | true => exact ihp cx hc.1.2 s x s' h a w D Q A hf hn hQ
      | false => exact ihr cy hc.2 s x s' h a w D Q A hf hn hQ
    · cases h
  | block id p ih =>
    intro c hc s x s' h a w D Q A hf hn hQ
    simp only [Q33] at h
    obtain ⟨⟨x1, s1⟩, h1, h⟩ := bind_some h
    cases c <;> first | (cases hc; done) | skip
    rename_i id' cx
    simp only [Q2g, Bool.and_eq_true] at hc
    have hid := Nat.eq_of_beq_eq_true hc.1
    subst hid
    refine wp_block (ih cx hc.2 s x1 s1 h1 a w D _ A hf hn fun a' w' D' A' hf' hn' => ?_)
    cases x1 with
    | normal =>
      simp only [Option.some.injEq, Prod.mk.injEq] at h
      obtain ⟨rfl, rfl⟩ := h
      exact hQ a' w' D' A' hf' hn'
    | ret =>
      simp only [Option.some.injEq, Prod.mk.injEq] at h
      obtain ⟨rfl, rfl⟩ := h
      exact hQ a' w' D' A' hf' hn'
    | exit j =>
      simp only at h
      by_cases e : j = id
      · subst e
        simp only [Nat.beq_refl, cond_true, Option.some.injEq, Prod.mk.injEq] at h
        obtain ⟨rfl, rfl⟩ := h
        show Exit.inBlock j Q (.exit j) a' w'
        simp only [Exit.inBlock, if_true]
        exact hQ a' w' D' A' hf' hn'
      · have : Nat.beq j id = false := by rw [Bool.eq_false_iff]; exact fun h => e (Nat.eq_of_beq_eq_true h)
        simp only [this, cond_false, Option.some.injEq, Prod.mk.injEq] at h
        obtain ⟨rfl, rfl⟩ := h
        show Exit.inBlock id Q (.exit j) a' w'
        simp only [Exit.inBlock, if_neg e]
        exact hQ a' w' D' A' hf' hn'
  | loop live b ih =>
    intro c hc s x s' h a w D Q A hf hn hQ
    simp only [Q33] at h
    obtain ⟨y, hy, h⟩ := bind_some h
    obtain ⟨r, hr, h⟩ := bind_some h
    cases r with
    | ret _ _ => cases h
    | st x1 s1 =>
      simp only [Option.some.injEq, Prod.mk.injEq] at h
      obtain ⟨rfl, rfl⟩ := h
      cases c <;> first | (cases hc; done) | skip
      rename_i cx
      simp only [Q2g] at hc
      obtain ⟨D', A', hf', hn'⟩ := Qvd A hf hy
      obtain ⟨n, hn1⟩ := hL _ _ _ _ _ _ _ hr
      exact wp_loop_rounds n (hn1 cx hc w0 D0 H0 F n0 a w D' Q A' (fun id h => (hf' id h).1) hn' hQ)
  | exit id =>
    intro c hc s x s' h a w D Q A hf hn hQ
    simp only [Q33, Option.some.injEq, Prod.mk.injEq] at h
    obtain ⟨rfl, rfl⟩ := h
    cases c <;> first | (cases hc; done) | skip
    rename_i id'
    simp only [Q2g] at hc
    have hid := Nat.eq_of_beq_eq_true hc
    subst hid
    exact wp_exit (hQ a w D A hf hn)
  | ret =>
    intro c hc s x s' h a w D Q A hf hn hQ
    simp only [Q33, Option.some.injEq, Prod.mk.injEq] at h
    obtain ⟨rfl, rfl⟩ := h
    cases c <;> first | (cases hc; done) | skip
    exact wp_ret (hQ a w D A hf hn)
def Q1n (P : Program) (Fn : Func) (fn : IFn) : Bool :=
 Nat.beq Fn.ntmps fn.nt && Nat.ble fn.np fn.nt && Qac P Fn.results.toList fn.res && (match Fn.body with | some c => Q2g P fn.body c | none => false) && !(Fn.name == "runtime.NumGoroutine")
def Q163 (P : Program) (f : Nat) : Prop := Q61 P f ∧ ∀ (x y : ByteArray) (w : World), Calls P f #[.string x, .string y] w fun e w' => e = .returned (.int .i64 (cmpL x.toList y.toList)) ∧ w' = w
def AxOK (P : Program) (f : Nat) (φ : List PV → Option (PV × List Ob)) : Prop := ∀ args r h', φ args = some (r, h') → Q61 P f ∧ Qwb P f args [] r h'
def Tie (P : Program) (G : Nat → Option Fun) : Prop := ∀ f d, G f = some d → match d with
 | .ir fn => ∃ Fn, P.funcs[f]? = some Fn ∧ Q1n P Fn fn = true
 | .cmpstr => Q163 P f
 | .ax φ => AxOK P f φ
theorem Q108 {Fn : Func} {fn : IFn} (h : Q1n P Fn fn = true) : Fn.ntmps = fn.nt ∧ fn.np ≤ fn.nt ∧ Qac P Fn.results.toList fn.res = true ∧ (∃ c, Fn.body = some c ∧ Q2g P fn.body c = true) ∧ (Fn.name == "runtime.NumGoroutine") = false := by
  unfold Q1n at h
  simp only [Bool.and_eq_true] at h
  obtain ⟨⟨⟨⟨h1, h2⟩, h3⟩, h4⟩, h5⟩ := h
  refine ⟨Nat.eq_of_beq_eq_true h1, Nat.le_of_ble_eq_true h2, h3, ?_, by simpa using h5⟩
  split at h4
  · rename_i c hc; exact ⟨c, hc, h4⟩
  · cases h4
theorem Q6w : ∀ (n t : Nat), (nuns n).length = n ∧ envF (nuns n) t = .un
 | 0, t => ⟨rfl, rfl⟩
 | n + 1, t => by
  obtain ⟨h1, h2⟩ := Q6w n (t - 1)
  refine ⟨by simp [nuns, h1], ?_⟩
  cases t with
  | zero => rfl
  | succ t => simpa [nuns, envF] using h2
theorem Qvl (hm : P.follows .mixedOrders = true) (hX : Q5b P X) (hL : Qn1 P X) {f : Nat} {Fn : Func} {fn : IFn} (hf : P.funcs[f]? = some Fn) (hc : Q1n P Fn fn = true) {args : List PV} {h : List Ob} (hal : args.length = fn.np) {x : Ex} {s : St}
    (hrun : Q33 X h.length fn.body ⟨args ++ nuns (fn.nt - fn.np), number 0 h, h.length⟩ = some (x, s)) (hx : ∀ j, x ≠ .exit j) {r : PV} {h' : List Ob} (hfin : fin fn h.length s = some (.ret r h')) : Q61 P f ∧ Qwb P f args h r h' := by
  obtain ⟨c1, c2, c3, ⟨c, hb, c4⟩, c5⟩ := Q108 hc
  refine ⟨⟨Fn, hf, by rw [hb]; rfl, c5⟩, fun w D F vals S hD hv => ?_⟩
  have hvs : vals.size = fn.np := by have := hv.1; rw [hal] at this; simpa using this
  have hfr : ∀ id, h.length ≤ id → D id = none ∧ look (number 0 h) id = none := fun id hid => ⟨hD id hid, by rw [Q5a]; exact List.getElem?_eq_none hid⟩
  have A : At w D (hF h) F w.heap.size h.length (args ++ nuns (fn.nt - fn.np)).length (envF (args ++ nuns (fn.nt - fn.np))) (look (number 0 h)) { tmps := vals ++ Array.replicate (Fn.ntmps - vals.size) undef, defers := [] } w D := by
    rw [Q5a]
    refine ⟨S, fun t => ?_, by simp [(Q6w _ 0).1, hal, hvs, c1], fun t ht => ?_, Keeps.refl _ w, fun _ _ => rfl, fun _ _ _ h => h, rfl⟩
    · by_cases c : t < args.length
      · have e1 : envF (args ++ nuns (fn.nt - fn.np)) t = args[t] := by simp [envF, List.getElem?_append_left c, c]
        have hlt : t < vals.size := by omega
        have e2 : (vals ++ Array.replicate (Fn.ntmps - vals.size) undef).getD t undef = vals[t] := by
          rw [Array.getD_eq_getD_getElem?, Array.getElem?_append_left hlt, Array.getElem?_eq_getElem hlt]
          rfl
        rw [e1]
        show Rep _ _ _ ((vals ++ Array.replicate (Fn.ntmps - vals.size) undef).getD t undef) _
        rw [e2]
        exact hv.2 t _ _ (by simp [hlt]) (List.getElem?_eq_getElem c)
      · have e1 : envF (args ++ nuns (fn.nt - fn.np)) t = .un := by
          have := (Q6w (fn.nt - fn.np) (t - args.length)).2
          unfold envF at this ⊢
          rw [List.getD_eq_getElem?_getD, List.getElem?_append_right (Nat.le_of_not_lt c), ← List.getD_eq_getElem?_getD]
          exact this
        rw [e1]
        exact .un _ _
    · show envF _ t = .un
      unfold envF
      rw [List.getD_eq_getElem?_getD, List.getElem?_eq_none ht]
      rfl
  refine calls_of_wp hf hb (Q4m hm hX hL fn.body c c4 _ x s hrun _ w D _ A hfr (Nat.le_refl _) fun a' w' D' A' hf' hn' => ?_)
  obtain ⟨v, p, h1, D1, e1, e2, e3, e4, e5, e6, e7, e8⟩ := Qdr A' hf' c3 hfin
  injection e1 with e1 e1'
  subst e1 e1'
  have fin_ : a'.defers = [] ∧ ∃ v, (results Fn a'.tmps).run P w' = .ok v w' ∧ (∃ v_1 D', Ending.returned v = .returned v_1 ∧ Sim w' D' (hF h') F w.heap.size h.length ∧ Keeps (MutO D (hF h)) w w' ∧ (∀ id, id < h.length → D' id = D id) ∧ (∀ id, h'.length ≤ id → D' id = none) ∧
      (∀ b o, b < w.heap.size → Mut D' (hF h') F b o → Mut D (hF h) F b o) ∧ h.length ≤ h'.length ∧ Rep w' (Mut D' (hF h') F) D' v_1 r) :=
    ⟨A'.defers, v, e2, v, D1, rfl, e3, A'.keeps, fun id hid => by rw [e4 id hid, A'.low id hid], e5, fun b o hb hmu => A'.sub b o hb (e6 b o hmu), e7, e8⟩
  cases x with
  | normal => exact fin_
  | ret => exact fin_
  | exit j => exact absurd rfl (hx j)
theorem Qj2 (hm : P.follows .mixedOrders = true) {G : Nat → Option Fun} (hT : Tie P G) : ∀ n, Q5b P (runs G n) ∧ Qn1 P (runs G n)
  | 0 => ⟨fun f args h r h' hr => (by cases hr), fun m live b env h x s' hr => (by cases hr)⟩
  | n + 1 => by
    obtain ⟨hX, hL⟩ := Qj2 hm hT n
    constructor
    · intro f args h r h' hr
      simp only [runs, phi] at hr
      split at hr
      · rename_i fn hG
        obtain ⟨Fn, hf, hc⟩ := hT f _ hG
        obtain ⟨hal, hr⟩ := Qs hr
        have hal := Nat.eq_of_beq_eq_true hal
        obtain ⟨⟨x, s⟩, hrun, hr⟩ := bind_some hr
        cases x with
        | exit j => cases hr
        | normal => exact Qvl hm hX hL hf hc hal hrun (fun j h => by cases h) hr
        | ret => exact Qvl hm hX hL hf hc hal hrun (fun j h => by cases h) hr
      · rename_i hG
        obtain ⟨hcl, hcmp⟩ := hT f _ hG
        split at hr
        · rename_i x y
          injection hr with hr
          injection hr with h1 h2
          subst h1 h2
          refine ⟨hcl, fun w D F vals S hD hv => ?_⟩
          have h2 : vals.size = 2 := by have := hv.1; simpa using this
          obtain ⟨u0, u1, rfl⟩ : ∃ u0 u1, vals = #[u0, u1] := ⟨vals[0], vals[1], by
            apply Array.ext (by simpa using h2)
            intro i h1 h3
            match i, h3 with
            | 0, _ => rfl
            | 1, _ => rfl⟩
          have r0 := hv.2 0 u0 _ rfl rfl
          have r1 := hv.2 1 u1 _ rfl rfl
          cases r0 with
          | str _ _ =>
            cases r1 with
            | str _ _ =>
              refine (hcmp x y w).mono ?_
              rintro e w' ⟨rfl, rfl⟩
              exact ⟨_, D, rfl, S, Keeps.refl _ _, fun _ _ => rfl, hD, fun _ _ _ h => h, Nat.le_refl _, .int _ _ _⟩
        · cases hr
      · rename_i φ hG
        cases h with
        | cons _ _ => cases hr
        | nil =>
          obtain ⟨⟨v, ob⟩, hv, hr⟩ := bind_some hr
          injection hr with hr
          injection hr with h1 h2
          subst h1 h2
          exact hT f _ hG args v ob hv
      · cases hr
    · intro m live b env h x s' hr
      simp only [runs, phi] at hr
      obtain ⟨⟨x1, s1⟩, hrun, hr⟩ := bind_some hr
      have hl0 : look (number 0 h) = hF h := Q5a h
      have go : ∀ (Q' : Act → World → Prop) (c : Code), Q2g P b c = true → ∀ (w0 : World) (D0 : Nat → Option Nat) (H0 : Nat → Option Ob) (F : Nat → Nat → Prop) (n0 : Nat) (a : Act) (w : World) (D : Nat → Option Nat) (Q : Exit → Act → World → Prop),
          At w0 D0 H0 F n0 m env.length (envF env) (hF h) a w D → (∀ id, h.length ≤ id → D id = none) → m ≤ h.length →
          (∀ a' w' D', At w0 D0 H0 F n0 m s1.env.length (envF s1.env) (look s1.heap) a' w' D' → (∀ id, s1.nx ≤ id → D' id = none ∧ look s1.heap id = none) → m ≤ s1.nx → Exit.then Q' Q (exOf x1) a' w') → c.wp P (Exit.then Q' Q) a w := by
        intro Q' c hc w0 D0 H0 F n0 a w D Q A hf hn hQ
        refine Q4m hm hX hL b c hc _ x1 s1 hrun a w D _ (by rw [hl0]; exact A) (fun id hid => ⟨hf id hid, by rw [hl0]; exact List.getElem?_eq_none hid⟩) hn hQ
      cases x1 with
      | normal =>
        simp only at hr
        obtain ⟨y, hy, hr⟩ := bind_some hr
        obtain ⟨k, hk⟩ := hL _ _ _ _ _ _ _ hr
        refine ⟨k + 1, fun c hc w0 D0 H0 F n0 a w D Q A hf hn hQ => ?_⟩
        rw [rounds_succ]
        refine go _ c hc w0 D0 H0 F n0 a w D Q A hf hn fun a' w' D' A' hf' hn' => ?_
        obtain ⟨D2, A2, hf2, hn2⟩ := Qvd A' hf' hy
        exact hk c hc w0 D0 H0 F n0 a' w' D2 Q A2 (fun id h => (hf2 id h).1) hn2 hQ
      | exit j =>
        injection hr with hr
        injection hr with h1 h2
        subst h1 h2
        refine ⟨1, fun c hc w0 D0 H0 F n0 a w D Q A hf hn hQ => ?_⟩
        rw [rounds_succ]
        exact go _ c hc w0 D0 H0 F n0 a w D Q A hf hn fun a' w' D' A' hf' hn' => hQ a' w' D' A' hf' hn'
      | ret =>
        injection hr with hr
        injection hr with h1 h2
        subst h1 h2
        refine ⟨1, fun c hc w0 D0 H0 F n0 a w D Q A hf hn hQ => ?_⟩
        rw [rounds_succ]
        exact go _ c hc w0 D0 H0 F n0 a w D Q A hf hn fun a' w' D' A' hf' hn' => hQ a' w' D' A' hf' hn'
end
end Go.Pv
end

section
/-
  What a law is handed: readings of its arguments as trees.
-/
namespace Go.Pv
open Go.RowKit
inductive Ty where
  | bool
  | int (k : IntKind)
  | str
  | sl (bytes : Nat) (e : Ty)
  | st (fs : List Ty)
  | nm (t : Nat)
mutual
/-- Cells that lie as a type says. -/
inductive Of (Γ : Nat → Option Ty) : Ty → List PV → Prop
 | bool (b : Bool) : Of Γ .bool [.bool b]
 | int (k : IntKind) (n : Int) (h : (Lit.int k n).wf = true) : Of Γ (.int k) [.int k n]
 | str (s : ByteArray) (h : s.size ≤ 140737488351232) : Of Γ .str [.str s]
 | sl (bytes : Nat) (e : Ty) (l : List (List PV)) (h : l.length * bytes ≤ 140737488351232) (hl : ∀ r ∈ l, Of Γ e r) : Of Γ (.sl bytes e) [.sl l]
 | st (fs : List Ty) (c : List PV) (h : OfL Γ fs c) : Of Γ (.st fs) c
 | nm (t : Nat) (ty : Ty) (c : List PV) (hg : Γ t = some ty) (h : Of Γ ty c) : Of Γ (.nm t) c
inductive OfL (Γ : Nat → Option Ty) : List Ty → List PV → Prop
 | nil : OfL Γ [] []
 | cons (f : Ty) (fs : List Ty) (a b : List PV) (h : Of Γ f a) (hr : OfL Γ fs b) : OfL Γ (f :: fs) (a ++ b)
end

mutual
def Q8o (P : Program) (Γ : Nat → Option Ty) : Ty → TypeId → Bool
 | .bool, t => Qcv P t
 | .int k, t => intTy P t k
 | .str, t => Qbc P t
 | .sl bytes e, t => (match P.underlying t with | some (.slice te) => Nat.beq (P.bytesOf te) bytes && Nat.ble 1 (P.cellsOf te) && Q8o P Γ e te | _ => false)
 | .st fs, t => (match P.underlying t with | some (.struct gs) => Qp4 P Γ fs gs.toList 0 (P.cellsOf t) | _ => false)
 | .nm t', t => Nat.beq t' t && (Γ t').isSome
def Qp4 (P : Program) (Γ : Nat → Option Ty) : List Ty → List Field → Nat → Nat → Bool
 | [], [], off, n => Nat.beq off n
 | f :: fs, g :: gs, off, n => Nat.beq g.offset off && Q8o P Γ f g.type && Qp4 P Γ fs gs (off + P.cellsOf g.type) n
 | _, _, _, _ => false
end
def Ty.named : Ty → Bool
 | .nm _ => true
 | _ => false
def TabOK (P : Program) (Γ : Nat → Option Ty) : Prop := ∀ t ty, Γ t = some ty → ty.named = false ∧ Q8o P Γ ty t = true
theorem Qg2 {α : Type} {Q : Nat → α → Prop} : ∀ n : Nat, (∀ i, i < n → ∃ x, Q i x) → ∃ l : List α, l.length = n ∧ ∀ i x, l[i]? = some x → Q i x
  | 0, _ => ⟨[], rfl, fun i x h => by simp at h⟩
  | n + 1, h => by
    obtain ⟨l, hl, hq⟩ := Qg2 n (fun i hi => h i (by omega))
    obtain ⟨x, hx⟩ := h n (by omega)
    refine ⟨l ++ [x], by simp [hl], fun i y hy => ?_⟩
    by_cases c : i < l.length
    · rw [List.getElem?_append_left c] at hy
      exact hq i y hy
    · rw [List.getElem?_append_right (by omega)] at hy
      have hi : i - l.length = 0 := by
        have := (List.getElem?_eq_some_iff.1 hy).1
        simp at this
        omega
      rw [hi] at hy
      simp at hy
      subst hy
      rw [show i = n by omega]
      exact hx
def NoM : Nat → Nat → Prop := fun _ _ => False
def NoD : Nat → Option Nat := fun _ => none
def Light {H : Type} (P : Program) (t : TypeId) (d : DataW H) : Prop := (d.weights P t).all (· ≤ reachBytes) = true
section
variable {H : Type} {enc : TypeId × Value → H} {P : Program} {w : World} {base : Nat} {sp : Nat → Bool} {held : Bool} {Γ : Nat → Option Ty}
theorem Qwx {ts : List TypeId} {ds : List (DataW H)} (h : (DataW.weightsEach P ts ds).all (· ≤ reachBytes) = true) : ∀ (i : Nat) t d, ts[i]? = some t → ds[i]? = some d → Light P t d := by
  induction ts generalizing ds with
  | nil => intro i t d ht; simp at ht
  | cons t0 ts ih =>
    cases ds with
    | nil => intro i t d _ hd; simp at hd
    | cons d0 ds =>
      simp only [DataW.weightsEach, List.all_append, Bool.and_eq_true] at h
      intro i t d ht hd
      cases i with
      | zero =>
        simp at ht hd
        subst ht hd
        exact h.1
      | succ i => exact ih h.2 i t d (by simpa using ht) (by simpa using hd)
theorem Q12w {e : TypeId} {ds : List (DataW H)} (h : (DataW.weightsAll P e ds).all (· ≤ reachBytes) = true) : ∀ d ∈ ds, Light P e d := by
  induction ds with
  | nil => intro d hd; cases hd
  | cons d0 ds ih =>
    simp only [DataW.weightsAll, List.all_append, Bool.and_eq_true] at h
    intro d hd
    rcases List.mem_cons.1 hd with rfl | hd
    · exact h.1
    · exact ih h.2 d hd
theorem RepN.app {M : Nat → Nat → Prop} {D : Nat → Option Nat} {xs ys : List Value} {a b : List PV} (h : RepN w M D xs a) (h' : RepN w M D ys b) : RepN w M D (xs ++ ys) (a ++ b) := by
  refine ⟨by simp [h.1, h'.1], fun i v p hv hp => ?_⟩
  by_cases c : i < xs.length
  · rw [List.getElem?_append_left c] at hv
    rw [List.getElem?_append_left (by rw [← h.1]; exact c)] at hp
    exact h.2 i v p hv hp
  · rw [List.getElem?_append_right (by omega)] at hv
    rw [List.getElem?_append_right (by rw [← h.1]; omega), ← h.1] at hp
    exact h'.2 _ v p hv hp
theorem RepN.one {M : Nat → Nat → Prop} {D : Nat → Option Nat} {v : Value} {p : PV} (h1 : v.oneCell' = true) (h : Rep w M D v p) : RepN w M D [v] [p] := by
 refine ⟨rfl, fun i u q hu hq => ?_⟩
 cases i with
 | zero =>
  simp at hu hq
  subst hu hq
  exact ⟨h1, h⟩
 | succ i => simp at hu
theorem Qhe {n : Nat} {cs : List Value} (ih : ∀ (ty : Ty) (t : TypeId) (cs : List Value) (x : DataW H × List MemPlace), Q8o P Γ ty t = true → DataW.trod enc P w base sp held n t cs = some x → Light P t x.1 → ∃ c, RepN w NoM NoD cs c ∧ Of Γ ty c) :
  ∀ (fs : List Ty) (gs : List Field) (off : Nat) (ys : List (DataW H × List MemPlace)), Qp4 P Γ fs gs off cs.length = true → ys.length = gs.length → (∀ (j : Nat) g, gs[j]? = some g → DataW.trod enc P w base sp held n g.type ((cs.drop g.offset).take (P.cellsOf g.type)) = ys[j]?) →
   (∀ (j : Nat) g y, gs[j]? = some g → ys[j]? = some y → Light P g.type y.1) → ∃ c, RepN w NoM NoD (cs.drop off) c ∧ OfL Γ fs c
 | [], [], off, ys, hc, _, _, _ => by
  simp only [Qp4] at hc
  have := Nat.eq_of_beq_eq_true hc
  refine ⟨[], ?_, .nil⟩
  rw [this, List.drop_length]
  exact ⟨rfl, fun i v p h => by simp at h⟩
 | [], _ :: _, off, ys, hc, _, _, _ => by cases hc
 | _ :: _, [], off, ys, hc, _, _, _ => by cases hc
 | f :: fs, g :: gs, off, [], hc, hl, _, _ => by simp at hl
 | f :: fs, g :: gs, off, y :: ys, hc, hl, ht, hw => by
  simp only [Qp4, Bool.and_eq_true] at hc
  have ho := Nat.eq_of_beq_eq_true hc.1.1
  have h0 := ht 0 g rfl
  simp only [List.getElem?_cons_zero] at h0
  obtain ⟨a, ha, hoa⟩ := ih f g.type _ y hc.1.2 h0 (hw 0 g y rfl rfl)
  obtain ⟨b, hb, hob⟩ := Qhe ih fs gs (off + P.cellsOf g.type) ys hc.2 (by simpa using hl) (fun j g' hj => by have := ht (j + 1) g' (by simpa using hj); simpa using this) (fun j g' y' h1 h2 => hw (j + 1) g' y' (by simpa using h1) (by simpa using h2))
  refine ⟨a ++ b, ?_, .cons f fs a b hoa hob⟩
  have : cs.drop off = (cs.drop off).take (P.cellsOf g.type) ++ cs.drop (off + P.cellsOf g.type) := by
   rw [← List.drop_drop]
   exact (List.take_append_drop _ _).symm
  rw [this]
  rw [ho] at ha
  exact ha.app hb
theorem Q18k (hΓ : TabOK P Γ) : ∀ (fuel : Nat) (ty : Ty) (t : TypeId) (cs : List Value) (x : DataW H × List MemPlace), Q8o P Γ ty t = true → DataW.trod enc P w base sp held fuel t cs = some x → Light P t x.1 → ∃ c, RepN w NoM NoD cs c ∧ Of Γ ty c := by
  intro fuel
  induction fuel with
  | zero => intro ty t cs x _ h; simp [DataW.trod] at h
  | succ n ih =>
    have core : ∀ (ty : Ty) (t : TypeId) (cs : List Value) (x : DataW H × List MemPlace), ty.named = false → Q8o P Γ ty t = true → DataW.trod enc P w base sp held (n + 1) t cs = some x → Light P t x.1 → ∃ c, RepN w NoM NoD cs c ∧ Of Γ ty c := by
      intro ty t cs x hn hc h hw
      cases ty with
      | nm t' => cases hn
      | bool =>
        simp only [Q8o] at hc
        obtain ⟨b, rfl, rfl⟩ := DataW.trod_bool (Qaf hc) h
        exact ⟨_, .one rfl (.bool _ _), .bool b⟩
      | int k =>
        simp only [Q8o] at hc
        obtain ⟨m, rfl, rfl, hwf⟩ := DataW.trod_int (Qie hc) h
        exact ⟨_, .one rfl (.int _ _ _), .int k m hwf⟩
      | str =>
        simp only [Q8o] at hc
        obtain ⟨s, rfl, rfl, hs⟩ := DataW.trod_string (Q51 hc) h
        refine ⟨_, .one rfl (.str _ _), .str s ?_⟩
        simp only [Light, DataW.weights, List.all_cons, Bool.and_eq_true, decide_eq_true_eq] at hw
        have := hw.1
        unfold reachBytes at this
        simpa using this
      | sl bytes e =>
        simp only [Q8o] at hc
        split at hc
        · rename_i te hu
          rw [Bool.and_eq_true, Bool.and_eq_true] at hc
          have hby := Nat.eq_of_beq_eq_true hc.1.1
          have hsz := Nat.le_of_ble_eq_true hc.1.2
          rcases DataW.trod_slice hu h with ⟨rfl, rfl⟩ | ⟨a, len, cap, elems, rest, n', hn', rfl, rfl, hb, hl, hm, hlen, hel, _, _⟩
          · refine ⟨[.sl []], .one rfl (.sl _ _ _ _ 0 [] 0 0 (fun _ _ => default) rfl (Nat.le_refl _) (Nat.zero_le _) (fun r hr => absurd hr List.not_mem_nil) (fun h => by omega) (fun j r hj => by simp at hj) (fun j r hj => by simp at hj)), .sl _ _ [] (by simp) (fun r hr => absurd hr List.not_mem_nil)⟩
          · have hnn : n' = n := by omega
            subst hnn
            simp only [Light, DataW.weights, hu, List.all_cons, List.all_append, Bool.and_eq_true, decide_eq_true_eq, List.length_map] at hw
            obtain ⟨hw1, hw2, _⟩ := hw
            have hlight := Q12w hw2
            have each : ∀ i, i < len → ∃ r, (∃ ys, w.cells? base (a.add (i * P.cellsOf te)) (P.cellsOf te) = some ys ∧ RepN w NoM NoD ys r) ∧ Of Γ e r := by
              intro i hi
              have h1 := hel i hi
              have hi' : i < elems.length := by omega
              rw [List.getElem?_eq_getElem hi'] at h1
              obtain ⟨ys, hy1, hy2⟩ := Option.bind_eq_some_iff.1 h1
              obtain ⟨r, hr, hor⟩ := ih e te ys _ hc.2 hy2 (hlight _ (List.mem_map.2 ⟨_, List.getElem_mem hi', rfl⟩))
              exact ⟨r, ⟨ys, hy1, hr⟩, hor⟩
            obtain ⟨l, hll, hlq⟩ := Qg2 len each
            have hcellsz : ∀ i ys, i < len → w.cells? base (a.add (i * P.cellsOf te)) (P.cellsOf te) = some ys → ys.length = P.cellsOf te ∧ ∀ j, j < P.cellsOf te → w.cell? ((a.add (i * P.cellsOf te)).add j) = ys[j]? := by
              intro i ys _ hy
              have := World.cells?_some hy
              exact ⟨this.2.1, this.2.2⟩
            have hspot : 0 < len → a = ⟨a.block, a.off, none⟩ := by
              intro hpos
              obtain ⟨r, ⟨ys, hy, hr⟩, _⟩ := each 0 hpos
              obtain ⟨hyl, hyc⟩ := hcellsz 0 ys hpos hy
              have h0 := hyc 0 (by omega)
              rw [List.getElem?_eq_getElem (by omega)] at h0
              simp only [Nat.zero_mul, Addr.add, if_true] at h0
              obtain ⟨b, o, s⟩ := a
              cases s with
              | none => rfl
              | some s =>
                simp only [World.cell?] at h0
                split at h0 <;> simp at h0
            have hadd : ∀ i j, 0 < len → (a.add (i * P.cellsOf te)).add j = ⟨a.block, a.off + i * P.cellsOf te + j, none⟩ := by
              intro i j hpos
              rw [hspot hpos]
              unfold Addr.add
              by_cases h1 : i * P.cellsOf te = 0 <;> by_cases h2 : j = 0 <;> simp [h1, h2]
            refine ⟨[.sl l], .one rfl (.sl _ (some a) len cap (P.cellsOf te) l a.block a.off (fun j i => (w.cell? ⟨a.block, a.off + j * P.cellsOf te + i, none⟩).getD default) hll hl hm ?_ (fun hp => congrArg some (hspot hp)) ?_ ?_), .sl bytes e l ?_ ?_⟩
            · intro r hr
              obtain ⟨i, hi⟩ := List.getElem?_of_mem hr
              have hil := (List.getElem?_eq_some_iff.1 hi).1
              obtain ⟨⟨ys, hy, hrn⟩, _⟩ := hlq i r hi
              rw [← hrn.1]
              exact (hcellsz i ys (by omega) hy).1
            · intro j r hj i p hi
              have hjl := (List.getElem?_eq_some_iff.1 hj).1
              have hil := (List.getElem?_eq_some_iff.1 hi).1
              obtain ⟨⟨ys, hy, hrn⟩, _⟩ := hlq j r hj
              obtain ⟨hyl, hyc⟩ := hcellsz j ys (by omega) hy
              have hiy : i < ys.length := by rw [hrn.1]; exact hil
              have := hyc i (by omega)
              rw [hadd j i (by omega), List.getElem?_eq_getElem hiy] at this
              refine ⟨fun h => h, by rw [this]; rfl, ?_⟩
              rw [this]
              exact (hrn.2 i _ p (List.getElem?_eq_getElem hiy) hi).1
            · intro j r hj i p hi
              have hjl := (List.getElem?_eq_some_iff.1 hj).1
              have hil := (List.getElem?_eq_some_iff.1 hi).1
              obtain ⟨⟨ys, hy, hrn⟩, _⟩ := hlq j r hj
              obtain ⟨hyl, hyc⟩ := hcellsz j ys (by omega) hy
              have hiy : i < ys.length := by rw [hrn.1]; exact hil
              have := hyc i (by omega)
              rw [hadd j i (by omega), List.getElem?_eq_getElem hiy] at this
              rw [this]
              exact (hrn.2 i _ p (List.getElem?_eq_getElem hiy) hi).2
            · rw [← hby, hll]
              unfold reachBytes at hw1
              have : len * P.bytesOf te ≤ (elems.length + rest.length) * P.bytesOf te := Nat.mul_le_mul_right _ (by omega)
              omega
            · intro r hr
              obtain ⟨i, hi⟩ := List.getElem?_of_mem hr
              exact (hlq i r hi).2
        · cases hc
      | st fs =>
        simp only [Q8o] at hc
        split at hc
        · rename_i gs hu
          obtain ⟨xs, n', hn', rfl, hl, hxl, hx⟩ := DataW.trod_struct hu h
          have hnn : n' = n := by omega
          subst hnn
          rw [← hl] at hc
          simp only [Light, DataW.weights, hu] at hw
          have hlight := Qwx hw
          obtain ⟨c, hr, ho⟩ := Qhe ih fs gs.toList 0 xs hc (by simpa using hxl) (fun j g hj => hx j g (by simpa using hj)) (fun j g y hj hy => hlight j g.type y.1 (by simp [hj]) (by simp [hy]))
          exact ⟨c, by simpa using hr, .st fs c ho⟩
        · cases hc
    intro ty t cs x hc h hw
    cases hty : ty.named with
    | false => exact core ty t cs x hty hc h hw
    | true =>
      cases ty with
      | nm t' =>
        simp only [Q8o, Bool.and_eq_true] at hc
        have := Nat.eq_of_beq_eq_true hc.1
        subst this
        obtain ⟨ty', hty'⟩ := Option.isSome_iff_exists.1 hc.2
        obtain ⟨h1, h2⟩ := hΓ _ _ hty'
        obtain ⟨c, hr, ho⟩ := core ty' t' cs x h1 h2 h hw
        exact ⟨c, hr, .nm t' ty' c hty' ho⟩
      | _ => cases hty
def Ty.isSt (Γ : Nat → Option Ty) : Ty → Bool
 | .st _ => true
 | .nm t => (match Γ t with | some (.st _) => true | _ => false)
 | _ => false
def Arg (Γ : Nat → Option Ty) (ty : Ty) (p : PV) : Prop := ∃ c, Of Γ ty c ∧ (bif ty.isSt Γ then p = .agg c else c = [p])
def Args (Γ : Nat → Option Ty) : List Ty → List PV → Prop
 | [], [] => True
 | t :: ts, p :: ps => Arg Γ t p ∧ Args Γ ts ps
 | _, _ => False
def chkArgs (P : Program) (Γ : Nat → Option Ty) : List Ty → List TypeId → Bool
 | [], [] => true
 | ty :: tys, t :: ts => Q8o P Γ ty t && (match P.underlying t with | some (.struct _) => ty.isSt Γ | some (.array _ _) => false | _ => !(ty.isSt Γ)) && P.readableRec t && decide (t < P.types.size) && chkArgs P Γ tys ts
 | _, _ => false
theorem Q15n (hΓ : TabOK P Γ) {ty : Ty} {t : TypeId} (hc : Q8o P Γ ty t = true) (hs : (match P.underlying t with | some (.struct _) => ty.isSt Γ | some (.array _ _) => false | _ => !(ty.isSt Γ)) = true) {r : Reach} {b0 : Nat} {v : Value} {d : DataW H} {ps : List MemPlace} (hval : Value.okWide P w r b0 t v) (h : DataW.Trod enc P w base sp held t v d ps) (hw : Light P t d) :
    ∃ p, Rep w NoM NoD v p ∧ Arg Γ ty p := by
  obtain ⟨fuel, hf⟩ := h
  obtain ⟨c, hr, ho⟩ := Q18k hΓ fuel ty t _ _ hc hf hw
  unfold Value.okWide at hval
  split at hs
  · rename_i fs hu
    rw [hu] at hval
    obtain ⟨cs, rfl, _, _⟩ := hval
    refine ⟨.agg c, .agg _ cs c (by simpa [Value.cells] using hr.1) (fun i v p hv hp => (hr.2 i v p (by simpa [Value.cells] using hv) hp).1) (fun i v p hv hp => (hr.2 i v p (by simpa [Value.cells] using hv) hp).2), c, ho, ?_⟩
    rw [hs]
    rfl
  · cases hs
  · rename_i hn1 hn2
    have hcell : Cell.okWide P w r b0 t v := by
      split at hval
      · rename_i fs hu; exact absurd hu (hn1 fs)
      · rename_i k e hu; exact absurd hu (hn2 k e)
      · exact hval
    have hone : v.oneCell' = true := by
      cases v with
      | agg cs => unfold Cell.okWide Cell.ok at hcell; split at hcell <;> simp_all
      | tuple cs => unfold Cell.okWide Cell.ok at hcell; split at hcell <;> simp_all
      | _ => rfl
    have hcs : v.cells.toList = [v] := by cases v <;> first | rfl | (cases hone)
    rw [hcs] at hr
    have hlen := hr.1
    cases c with
    | nil => simp at hlen
    | cons p rest =>
      have : rest = [] := List.eq_nil_of_length_eq_zero (by simpa using hlen.symm)
      subst this
      refine ⟨p, (hr.2 0 v p rfl rfl).2, [p], ho, ?_⟩
      have : ty.isSt Γ = false := by simpa using hs
      rw [this]
      rfl
theorem open_args (hΓ : TabOK P Γ) {r : Reach} {b0 : Nat} : ∀ {tys : List Ty} {ts : List TypeId} {vs : List Value} {ds : List (DataW H)} {ps : List MemPlace}, chkArgs P Γ tys ts = true → (∀ (j : Nat) t v, ts[j]? = some t → vs[j]? = some v → Value.okWide P w r b0 t v) → DataW.TrodAll enc P w base sp held ts vs ds ps →
    (DataW.weightsEach P ts ds).all (· ≤ reachBytes) = true → ∃ qs, RepL w NoM NoD vs qs ∧ Args Γ tys qs
  | [], [], vs, ds, ps, _, _, h, _ => by
    obtain ⟨rfl, rfl, rfl⟩ := ChangeShapes.trodAll_nil h
    exact ⟨[], RepL.nil _ _ _, trivial⟩
  | [], _ :: _, _, _, _, hc, _, _, _ => by cases hc
  | _ :: _, [], _, _, _, hc, _, _, _ => by cases hc
  | ty :: tys, t :: ts, vs, ds, ps, hc, hv, h, hw => by
    simp only [chkArgs, Bool.and_eq_true] at hc
    obtain ⟨v, vs', d, ds', p, q, rfl, rfl, rfl, h1, h2⟩ := ChangeShapes.trodAll_cons h
    simp only [DataW.weightsEach, List.all_append, Bool.and_eq_true] at hw
    obtain ⟨x, hx, hax⟩ := Q15n hΓ hc.1.1.1.1 hc.1.1.1.2 (hv 0 t v rfl rfl) h1 hw.1
    obtain ⟨qs, hq, haq⟩ := open_args hΓ hc.2 (fun j t' v' h1 h2 => hv (j + 1) t' v' (by simpa using h1) (by simpa using h2)) h2 hw.2
    exact ⟨x :: qs, RepL.cons hx hq, hax, haq⟩
theorem args_stay (hl : laidOutB P = true) {W W' : World} (hb : Below W.heap.size W W') : ∀ {tys : List Ty} {ts : List TypeId} {vs : List Value} {ds : List (DataW H)} {ps : List MemPlace}, chkArgs P Γ tys ts = true → DataW.TrodAll enc P W 0 (fun _ => true) true ts vs ds ps →
  DataW.TrodAll enc P W' 0 (fun b => decide (b < W.heap.size)) true ts vs ds ps
 | [], [], vs, ds, ps, _, h => by
  obtain ⟨rfl, rfl, rfl⟩ := ChangeShapes.trodAll_nil h
  rfl
 | [], _ :: _, _, _, _, hc, _ => by cases hc
 | _ :: _, [], _, _, _, hc, _ => by cases hc
 | ty :: tys, t :: ts, vs, ds, ps, hc, h => by
  simp only [chkArgs, Bool.and_eq_true] at hc
  obtain ⟨v, vs', d, ds', p, q, rfl, rfl, rfl, h1, h2⟩ := ChangeShapes.trodAll_cons h
  refine ⟨p, q, Below.trod hl hc.1.1.2 (by simpa using hc.1.2) h1 hb ?_, args_stay hl hb hc.2 h2, rfl⟩
  obtain ⟨m, hm⟩ := h1
  exact DataW.trod_lt m _ _ _ hm
end
theorem Q18o {P : Program} : Tie P (tabG []) := fun _ _ h => by cases h
theorem Qm9 {P : Program} {r : List (Nat × Fun)} (ht : Tie P (tabG r)) {f : Nat} {d : Fun} (hd : match d with | .ir fn => ∃ Fn, P.funcs[f]? = some Fn ∧ Q1n P Fn fn = true | .cmpstr => Q163 P f | .ax φ => AxOK P f φ) : Tie P (tabG ((f, d) :: r)) := by
  intro k d' h
  simp only [tabG] at h
  by_cases c : f = k
  · subst c
    simp only [Nat.beq_refl, cond_true, Option.some.injEq] at h
    subst h
    exact hd
  · have : Nat.beq f k = false := by rw [Bool.eq_false_iff]; exact fun h => c (Nat.eq_of_beq_eq_true h)
    rw [this] at h
    exact ht k d' h
theorem Q16 {P : Program} {r : List (Nat × Fun)} {f : Nat} {Fn : Func} {fn : IFn} (hf : P.funcs[f]? = some Fn) (hc : Q1n P Fn fn = true) (ht : Tie P (tabG r)) : Tie P (tabG ((f, .ir fn) :: r)) := Qm9 ht ⟨Fn, hf, hc⟩
theorem law_calls {P : Program} {G : Nat → Option Fun} (hm : P.follows .mixedOrders = true) (hT : Tie P G) {Γ : Nat → Option Ty} {tys : List Ty} {f : Nat} (hpure : ∀ qs, Args Γ tys qs → ∃ n, runs G n (.call f qs []) = some (.ret (.bool true) []))
    {W : World} {args : Array Value} (h : ∃ qs, RepL W NoM NoD args.toList qs ∧ Args Γ tys qs) : Calls P f args W fun e W' => e = .returned (.bool true) ∧ Below W.heap.size W W' := by
  obtain ⟨qs, hq, ha⟩ := h
  obtain ⟨n, hn⟩ := hpure qs ha
  obtain ⟨_, hok⟩ := (Qj2 hm hT n).1 f qs [] _ _ hn
  have hnoM : ∀ b o, Mut NoD (hF []) NoM b o → NoM b o := by
    rintro b o (h | ⟨id, ob, h1, _⟩)
    · exact h
    · simp [hF] at h1
  refine (hok W NoD NoM args ⟨fun b o h => h.elim, Nat.le_refl _, fun id b h => (by cases h), fun id ob h => (by simp [hF] at h), fun i j a b k h => (by simp [hF] at h), fun id ob b o h => (by simp [hF] at h)⟩ (fun _ _ => rfl) (hq.mono fun v p h => h.to (fun b o _ h => hnoM b o h) (fun _ _ h => h))).mono ?_
  rintro e W' ⟨v, D', rfl, _, hk, _, _, _, _, hr⟩
  cases hr with
  | bool _ _ =>
    refine ⟨rfl, (hk.mono (M1 := fun _ _ => False) ?_).below⟩
    rintro b o _ ⟨id, ob, h1, _⟩
    simp [hF] at h1
end Go.Pv
end

section
/- What slices.Clone answers: a row of one's own. -/
namespace Go.Pv
def bare : PV → Bool
 | .bool _ => true
 | .int _ _ => true
 | .str _ => true
 | .sl _ => true
 | .np => true
 | .nf => true
 | _ => false
def Qjw (sz bytes : Nat) : List PV → Option (PV × List Ob)
 | [.sl l] => bif Q6n l sz && Nat.ble (l.length * bytes) 140737488355328 && l.flatten.all bare then some (.ms 0 sz 0 l.length, [⟨sz, 0, true, l.flatten⟩]) else none
 | _ => none
end Go.Pv
end

section
/- slices.Clone's contract, proved of every program that holds its text. -/
namespace Go.Pv
open Go.RowKit
def irA (sz : Nat) : IR := .reg [⟨some 2, none, .mov (.c (.ns sz)), []⟩] false
def irB (sz : Nat) : IR := .cond (.t 4) (.seq (.reg [⟨some 2, none, .mov (.c (.ns sz)), []⟩] false) .ret) .skip
def irC (sz bytes : Nat) (z : List PV) : IR := .seq (.reg [⟨some 5, none, .lit sz 0 z [], []⟩, ⟨some 6, none, .mov (.t 0), []⟩, ⟨some 7, none, .append sz bytes (.t 5) (.t 6), []⟩, ⟨some 2, none, .mov (.t 7), []⟩] false) .ret
def Q12v (P : Program) (ops : Array Oper) : Bool :=
 match ops.toList with
 | [x, y] => Q7b P ops x ⟨some 3, none, .mov (.t 0), []⟩ && Qnq y.dst (some 4) && Qc4 ops y.guard none &&
  (match y.op with | .binOp .eql T (.tmp 3) (.const (.slice none 0 0)) _ => (match P.underlying T with | some (.slice _) => true | _ => false) | _ => false)
 | _ => false
def Q9c (P : Program) (Fn : Func) (sz bytes : Nat) (z : List PV) : Bool :=
 Nat.beq Fn.ntmps 8 && Qac P Fn.results.toList [.tmp 2] && !(Fn.name == "runtime.NumGoroutine") &&
 (match Fn.body with
  | some (.seq c0 (.seq (.seq (.region _ ops false) c2) c3)) => Q2g P (irA sz) c0 && Q12v P ops && Q2g P (irB sz) c2 && Q2g P (irC sz bytes z) c3
  | _ => false)
def X0 : Orc := fun _ => none
theorem Qpu (P : Program) : Q5b P X0 := fun _ _ _ _ _ h => by cases h
theorem Qw4 (P : Program) : Qn1 P X0 := fun _ _ _ _ _ _ _ h => by cases h
section
variable {P : Program} {w0 : World} {D0 : Nat → Option Nat} {H0 : Nat → Option Ob} {F : Nat → Nat → Prop} {n0 m : Nat}
theorem Q129 {id : Nat} {ops : Array Oper} (hc : Q12v P ops = true) {e : Nat → PV} {H : Nat → Option Ob} {a : Act} {w : World} {D : Nat → Option Nat} {L nx : Nat} (hL : 4 < L) {l : List (List PV)} (he : e 0 = .sl l)
    (A : At w0 D0 H0 F n0 m L e H a w D) (hf : ∀ id, nx ≤ id → D id = none ∧ H id = none) (hmn : m ≤ nx) {Q : Exit → Act → World → Prop}
    (hQ : ∀ (b : Bool) (a' : Act) (w' : World) (D' : Nat → Option Nat), (b = true → l = []) → At w0 D0 H0 F n0 m L (fun t => if t = 4 then .bool b else if t = 3 then .sl l else e t) H a' w' D' → (∀ id, nx + 128 ≤ id → D' id = none ∧ H id = none) → Q .normal a' w') :
    (Code.region id ops false).wp P Q a w := by
  unfold Q12v at hc
  split at hc
  · rename_i x y hxy
    rw [Bool.and_eq_true, Bool.and_eq_true, Bool.and_eq_true] at hc
    obtain ⟨⟨⟨hx, hyd⟩, hyg⟩, hyo⟩ := hc
    have hyd := Qai hyd
    have hsz : ops.size = 2 := by rw [← Array.length_toList, hxy]; rfl
    have h0 : ops[0]? = some x := by rw [← Array.getElem?_toList, hxy]; rfl
    have h1 : ops[1]? = some y := by rw [← Array.getElem?_toList, hxy]; rfl
    refine wp_region ?_
    rw [hsz, show List.range 2 = [0, 1] from rfl, wpOps_cons]
    refine Qb8 (X := X0) (Qpu P) A (fr := nx) hmn (fun id h1 _ => hf id h1) h0 hx (f := ⟨.sl l, [], []⟩) (by simp only [Q5e, IOper.wanted, Option.bind_some, cond_true, iop, opP, Opd.ev, he])
      (e' := fun t => if t = 3 then .sl l else e t) (H' := H) (fun t => ?_) rfl (fun a1 w1 D1 A1 hf1 => ?_)
    · show _ = if some 3 = some t ∧ t < L then PV.sl l else e t
      by_cases c : t = 3
      · subst c
        simp
        omega
      · rw [if_neg c, if_neg (fun h => c (Option.some.inj h.1).symm)]
    · rw [wpOps_cons]
      have hw := Qbq A1.env (o := y) (io := ⟨some 4, none, .mov (.t 0), []⟩) hyg (b := true) rfl
      unfold wpOp
      simp only [h1]
      rw [hw, if_pos rfl]
      refine .inl ?_
      split at hyo
      · rename_i T yt hop
        split at hyo
        · rename_i te hT
          have hr : Rep w1 (Mut D1 H F) D1 (a1.tmps.getD 3 undef) (.sl l) := by
            have := A1.env 3
            simpa using this
          generalize hu : a1.tmps.getD 3 undef = u at hr
          cases hr with
          | sl _ B n c sz' _ b o vs hn hcc hm hrs hA hcell hrep =>
            have hev : a1.eval (.tmp 3) = .slice B n c := hu
            have hev2 : a1.eval (.const (.slice none 0 0)) = .slice none 0 0 := rfl
            have hrun : (execOp a1.eval y).run P w1 = .ok (.value (.bool B.isNone)) w1 := by
              have hb := Lib.run_eql_slice_nil (P := P) w1 T te B n c 0 0 hT
              obtain ⟨yd, yop, yty, ypos, yaf, yg⟩ := y
              simp only at hop
              subst hop
              simp [execOp, eqGuard, hev, hev2, hb]
            unfold Oper.wp
            rw [hrun]
            refine hQ B.isNone _ w1 D1 (fun hb => ?_) (A1.step (fr := m) (Step.same A1.sim rfl rfl rfl rfl) (Nat.le_refl _) (p := .bool B.isNone) (.bool _ _) (fun t => ?_)) (fun id hid => ?_)
            · cases B with
              | some _ => cases hb
              | none =>
                cases l with
                | nil => rfl
                | cons r rs =>
                  exfalso
                  have := hA (by rw [← hn]; simp)
                  cases this
            · rw [hyd]
              by_cases c : t = 4
              · subst c
                rw [if_pos rfl, if_pos ⟨rfl, hL⟩]
              · rw [if_neg c, if_neg (show ¬ (some 4 = some t ∧ t < L) from fun h => c (Option.some.inj h.1).symm)]
            · exact ⟨hf1 id (hf id (by omega)).1 (by omega), (hf id (by omega)).2⟩
        · cases hyo
      · cases hyo
  · cases hc
end
abbrev cfn (keep : Bool) : IFn := ⟨1, 8, [.tmp 2], keep, .skip⟩
theorem Q13k {P : Program} (hm : P.follows .mixedOrders = true) {f : Nat} {Fn : Func} (hf : P.funcs[f]? = some Fn) {sz bytes : Nat} {z : List PV} (hc : Q9c P Fn sz bytes z = true) {l : List (List PV)} (hrs : Q6n l sz = true) (hby : Nat.ble (l.length * bytes) 140737488355328 = true) (keep : Bool) {r : PV} {h' : List Ob}
    (f1 : l = [] → fin (cfn keep) 0 ⟨[.sl [], .un, .ns sz, .sl [], .bool true, .un, .un, .un], [], 256⟩ = some (.ret r h'))
    (f2 : fin (cfn keep) 0 ⟨[.sl l, .un, .ms (192 + 128) sz 0 (0 + l.length), .sl l, .bool false, .ms 192 sz 0 0, .sl l, .ms (192 + 128) sz 0 (0 + l.length)], [(192 + 128, ⟨sz, 0, true, [] ++ l.flatten⟩)], 448⟩ = some (.ret r h')) : Q61 P f ∧ Qwb P f [.sl l] [] r h' := by
  unfold Q9c at hc
  rw [Bool.and_eq_true, Bool.and_eq_true, Bool.and_eq_true] at hc
  obtain ⟨⟨⟨hnt, hres⟩, hname⟩, hbody⟩ := hc
  have hnt := Nat.eq_of_beq_eq_true hnt
  split at hbody
  · rename_i c0 id ops c2 c3 hB
    rw [Bool.and_eq_true, Bool.and_eq_true, Bool.and_eq_true] at hbody
    obtain ⟨⟨⟨k0, k1⟩, k2⟩, k3⟩ := hbody
    refine ⟨⟨Fn, hf, by rw [hB]; rfl, by simpa using hname⟩, fun w D F vals S hD hv => ?_⟩
    have hvs : vals.size = 1 := by have := hv.1; simpa using this
    have A : At w D (hF []) F w.heap.size 0 ([PV.sl l] ++ nuns 7).length (envF ([PV.sl l] ++ nuns 7)) (look (number 0 [])) { tmps := vals ++ Array.replicate (Fn.ntmps - vals.size) undef, defers := [] } w D := by
      rw [Q5a]
      refine ⟨S, fun t => ?_, by simp [(Q6w _ 0).1, hvs, hnt], fun t ht => ?_, Keeps.refl _ w, fun _ _ => rfl, fun _ _ _ h => h, rfl⟩
      · by_cases c : t < 1
        · have ht0 : t = 0 := by omega
          subst ht0
          have hlt : 0 < vals.size := by omega
          have e2 : (vals ++ Array.replicate (Fn.ntmps - vals.size) undef).getD 0 undef = vals[0] := by
            rw [Array.getD_eq_getD_getElem?, Array.getElem?_append_left hlt, Array.getElem?_eq_getElem hlt]
            rfl
          show Rep _ _ _ ((vals ++ Array.replicate (Fn.ntmps - vals.size) undef).getD 0 undef) _
          rw [e2]
          exact hv.2 0 _ _ (by simp [hlt]) rfl
        · have e1 : envF ([PV.sl l] ++ nuns 7) t = .un := by
            have := (Q6w 7 (t - 1)).2
            unfold envF at this ⊢
            rw [List.getD_eq_getElem?_getD, List.getElem?_append_right (by simp; omega), ← List.getD_eq_getElem?_getD]
            exact this
          rw [e1]
          exact .un _ _
      · show envF _ t = .un
        unfold envF
        rw [List.getD_eq_getElem?_getD, List.getElem?_eq_none ht]
        rfl
    have hfr : ∀ id, 0 ≤ id → D id = none ∧ look (number 0 ([] : List Ob)) id = none := fun id hid => ⟨hD id hid, rfl⟩
    refine calls_of_wp hf hB (wp_seq (Q4m hm (Qpu P) (Qw4 P) (irA sz) c0 k0 ⟨[PV.sl l] ++ nuns 7, number 0 [], 0⟩ .normal ⟨[.sl l, .un, .ns sz, .un, .un, .un, .un, .un], [], 64⟩ rfl _ w D _ A hfr (Nat.le_refl _) fun a1 w1 D1 A1 hf1 hn1 => ?_))
    refine wp_seq (wp_seq (Q129 k1 (by simp) rfl A1 hf1 hn1 fun b a2 w2 D2 hbl A2 hf2 => ?_))
    have A2' : At w D (hF []) F w.heap.size 0 8 (envF [.sl l, .un, .ns sz, .sl l, .bool b, .un, .un, .un]) (look []) a2 w2 D2 := by
      have e : (fun t => if t = 4 then PV.bool b else if t = 3 then .sl l else envF [.sl l, .un, .ns sz, .un, .un, .un, .un, .un] t) = envF [.sl l, .un, .ns sz, .sl l, .bool b, .un, .un, .un] := by
        funext t
        match t with
        | 0 | 1 | 2 | 3 | 4 | 5 | 6 | 7 => rfl
        | t + 8 => simp [envF]
      rw [← e]
      exact A2
    cases b with
    | true =>
      have hl := hbl rfl
      have g1 := f1 hl
      subst hl
      refine Q4m hm (Qpu P) (Qw4 P) (irB sz) c2 k2 ⟨[.sl [], .un, .ns sz, .sl [], .bool true, .un, .un, .un], [], 192⟩ .ret ⟨[.sl [], .un, .ns sz, .sl [], .bool true, .un, .un, .un], [], 256⟩ rfl _ w2 D2 _ A2' hf2 (Nat.zero_le _) fun a3 w3 D3 A3 hf3 hn3 => ?_
      obtain ⟨v, p, h1, D4, e1, e2, e3, e4, e5, e6, e7, e8⟩ := Qdr (fn := cfn keep) A3 hf3 hres g1
      injection e1 with e1 e1'
      subst e1 e1'
      exact ⟨A3.defers, v, e2, v, D4, rfl, e3, A3.keeps, fun id hid => absurd hid (Nat.not_lt_zero _), e5, fun b o hb hmu => A3.sub b o hb (e6 b o hmu), e7, e8⟩
    | false =>
      refine Q4m hm (Qpu P) (Qw4 P) (irB sz) c2 k2 ⟨[.sl l, .un, .ns sz, .sl l, .bool false, .un, .un, .un], [], 192⟩ .normal ⟨[.sl l, .un, .ns sz, .sl l, .bool false, .un, .un, .un], [], 192⟩ rfl _ w2 D2 _ A2' hf2 (Nat.zero_le _) fun a3 w3 D3 A3 hf3 hn3 => ?_
      refine Q4m hm (Qpu P) (Qw4 P) (irC sz bytes z) c3 k3 ⟨[.sl l, .un, .ns sz, .sl l, .bool false, .un, .un, .un], [], 192⟩ .ret ⟨[.sl l, .un, .ms (192 + 128) sz 0 (0 + l.length), .sl l, .bool false, .ms 192 sz 0 0, .sl l, .ms (192 + 128) sz 0 (0 + l.length)], [(192 + 128, ⟨sz, 0, true, [] ++ l.flatten⟩)], 448⟩ ?_ _ w3 D3 _ A3 hf3 (Nat.zero_le _) fun a4 w4 D4 A4 hf4 hn4 => ?_
      · have h1 : Nat.ble ((0 + l.length) * bytes) 140737488355328 = true := by rw [Nat.zero_add]; exact hby
        unfold irC
        simp only [Q33, ireg, Q3t, Q5e, IOper.wanted, Option.bind_some, cond_true, iop, opA, Qb1, rep, Q9k, opP, Opd.ev, Q46, apC, source, look, hput, hput.repl, hput.drop, put, envF, List.set, List.getD_cons_zero, List.getD_cons_succ, hrs, Nat.beq_refl, Nat.zero_mul, List.length_nil, Bool.and_true, Bool.and_self, h1, Bool.not_false, Bool.true_or, List.length_cons]
      · obtain ⟨v, p, h1, D5, e1, e2, e3, e4, e5, e6, e7, e8⟩ := Qdr (fn := cfn keep) A4 hf4 hres f2
        injection e1 with e1 e1'
        subst e1 e1'
        exact ⟨A4.defers, v, e2, v, D5, rfl, e3, A4.keeps, fun id hid => absurd hid (Nat.not_lt_zero _), e5, fun b o hb hmu => A4.sub b o hb (e6 b o hmu), e7, e8⟩
  · cases hbody
theorem Qyz {sz bytes : Nat} {l : List (List PV)} (hb : (Q6n l sz && Nat.ble (l.length * bytes) 140737488355328 && l.flatten.all bare) = true) : Q6n l sz = true ∧ Nat.ble (l.length * bytes) 140737488355328 = true ∧ ∀ p ∈ l.flatten, plain p = true := by
 rw [Bool.and_eq_true, Bool.and_eq_true] at hb
 exact ⟨hb.1.1, hb.1.2, fun p hp => by
  have := List.all_eq_true.1 hb.2 p hp
  cases p <;> first | rfl | (cases this)⟩
theorem Qvs {P : Program} (hm : P.follows .mixedOrders = true) {f : Nat} {Fn : Func} (hf : P.funcs[f]? = some Fn) {sz bytes : Nat} {z : List PV} (hc : Q9c P Fn sz bytes z = true) : AxOK P f (Qjw sz bytes) := by
  intro args r h' hφ
  unfold Qjw at hφ
  split at hφ
  · rename_i l
    cases hb : (Q6n l sz && Nat.ble (l.length * bytes) 140737488355328 && l.flatten.all bare) with
    | false => rw [hb] at hφ; cases hφ
    | true =>
      rw [hb] at hφ
      simp only [cond_true, Option.some.injEq, Prod.mk.injEq] at hφ
      obtain ⟨rfl, rfl⟩ := hφ
      obtain ⟨hrs, hby, hpl⟩ := Qyz hb
      refine Q13k hm hf hc hrs hby true (fun e => by subst e; rfl) ?_
      have hp := Q8i (H := look ([(192 + 128, (⟨sz, 0, true, l.flatten⟩ : Ob))] ++ [])) (byRef := false) (n := 7) l.flatten [192 + 128] hpl
      have ho : Q1u (look ([(192 + 128, (⟨sz, 0, true, l.flatten⟩ : Ob))] ++ [])) false true (31 + 1) 0 [192 + 128] = some ([⟨sz, 0, true, l.flatten⟩], [192 + 128], []) := by
        rw [Q1u]
        show (some (⟨sz, 0, true, l.flatten⟩ : Ob)).bind _ = _
        rw [Option.bind_some]
        show (Q3f (pass _ false 8) l.flatten [192 + 128]).bind _ = _
        rw [hp, Option.bind_some]
        rfl
      show (Q1u (look ([(192 + 128, (⟨sz, 0, true, l.flatten⟩ : Ob))] ++ [])) false true (31 + 1) 0 [192 + 128]).bind _ = _
      rw [ho, Option.bind_some]
      show some (Rs.ret (.ms 0 sz 0 (0 + l.length)) [⟨sz, 0, true, l.flatten⟩]) = _
      rw [Nat.zero_add]
  · cases hφ
end Go.Pv
end

section
/- The seat's functions as the evaluator takes them; printed by a program, checked against the given ones in YtnhhddbbppbblaaTie. -/
namespace Go.Proofs.Ytnhhddbbppbblaa.Ir
open Go.Pv
def o (d : Nat) (op : IOp) : IOper := ⟨some d, none, op, []⟩
def ob (d : Nat) (op : IOp) (b : List Nat) : IOper := ⟨some d, none, op, b⟩
def oM (d t : Nat) : IOper := o d (.mov (.t t))
def oX (d t k : Nat) : IOper := o d (.extract (.t t) k)
def oL (d n t : Nat) : IOper := o d (.load n true (.t t))
def oK (d n t : Nat) : IOper := o d (.load n false (.t t))
def oF (d n t : Nat) : IOper := o d (.faddr n (.t t))
def oS (n a b : Nat) : IOper := ⟨none, none, .store n (.t a) (.t b), []⟩
def oC (d f : Nat) (l : List Opd) : IOper := o d (.call false (.f f) l)
def oI (d n a b : Nat) : IOper := o d (.iaddr n (.t a) (.t b))
def oN (d t : Nat) : IOper := o d (.len false (.t t))
def oU (d t : Nat) : IOper := o d (.un .not (.t t))
def gT (d s : Nat) (x : IOp) : IOper := ⟨some d, some (s, true), x, []⟩
def gF (d s : Nat) (x : IOp) : IOper := ⟨some d, some (s, false), x, []⟩
def oD (d f : Nat) (l : List Opd) (b : List Nat) : IOper := ob d (.call false (.f f) l) b
def oE (d n t : Nat) (b : List Nat) : IOper := ob d (.load n false (.t t)) b
def oP (d a b : Nat) : IOper := o d (.pick (.t a) (.t b) (.c (.bool false)))
def oQ (d a b : Nat) : IOper := o d (.pick (.t a) (.c (.bool true)) (.t b))
def oA (d t : Nat) : IOper := o d (.bin .add (.t t) (.c (.int .i64 1)))
def oJ (d n k a b : Nat) : IOper := o d (.append n k (.t a) (.t b))
def zS : PV := .str ⟨#[]⟩
def zI : PV := .int .i64 0
def zB : PV := .bool false
def sA0 : Opd := .c (.str ⟨#[100]⟩)
def sA1 : Opd := .c (.str ⟨#[97]⟩)
def sA2 : Opd := .c (.str ⟨#[98]⟩)
def sA3 : Opd := .c (.str ⟨#[99]⟩)
def zL0 : List PV := [zS, zI, zI, zS, .ns 5, .ns 6]
def zL1 : List PV := [zI, zI, zS, .ns 5, .ns 6]
def rg1 (a : Nat) : Nat → List Nat
  | 0 => []
  | n + 1 => a :: rg1 (a + 1) n
def rg (a b : Nat) : List Nat := rg1 a (b - a)
def K8_c : IR :=
 .seq (.reg [o 2 (.box 5 (.t 0)),
 o 3 (.box 5 (.t 1)),
 o 4 (.mov (.c zB))] false)
 (.seq (.seq (.reg [oL 5 5 2,
 oL 6 5 3,
 o 7 (.lit 5 2 zL1 [(0, .t 5), (1, .t 6)]),
 oC 8 10 ([.t 7]),
 oU 9 8] false)
 (.cond (.t 9) (.seq (.reg [oC 10 11 ([]),
 oM 4 10] false)
 (.ret))
 (.skip)))
 (.seq (.reg [oL 11 5 2,
 oL 12 5 3,
 oD 13 13 ([.t 11, .t 12]) [0, 1],
 oL 14 5 2,
 oL 15 5 3,
 oD 16 14 ([.t 14, .t 15]) (rg 0 5),
 oD 17 12 ([.t 13, .t 16]) (rg 0 6),
 ob 18 (.mov (.t 17)) (rg 0 7),
 ⟨(some 19), (some (18, true)), .call false (.f 11) [], (rg 0 8)⟩,
 ob 20 (.pick (.t 18) (.t 19) (.c zB)) (rg 0 9),
 ob 4 (.mov (.t 20)) (rg 0 10)] true)
 (.ret)))
def K8 : IFn := ⟨2, 21, [.tmp 4], false, K8_c⟩
def K7_c : IR :=
 .seq (.reg [o 2 (.box 5 (.t 0)),
 o 3 (.box 5 (.t 1)),
 o 4 (.mov (.c zB))] false)
 (.seq (.seq (.reg [oL 5 5 2,
 oL 6 5 3,
 o 7 (.lit 5 2 zL1 [(0, .t 5), (1, .t 6)]),
 oC 8 10 ([.t 7]),
 oU 9 8] false)
 (.cond (.t 9) (.seq (.reg [oC 10 11 ([]),
 oM 4 10] false)
 (.ret))
 (.skip)))
 (.seq (.reg [oL 11 5 2,
 oL 12 5 3,
 oD 13 15 ([.t 11, .t 12]) [0, 1],
 oL 14 5 2,
 oL 15 5 3,
 oD 16 16 ([.t 14, .t 15]) (rg 0 5),
 oD 17 12 ([.t 13, .t 16]) (rg 0 6),
 ob 18 (.mov (.t 17)) (rg 0 7),
 ⟨(some 19), (some (18, true)), .call false (.f 11) [], (rg 0 8)⟩,
 ob 20 (.pick (.t 18) (.t 19) (.c zB)) (rg 0 9),
 ob 4 (.mov (.t 20)) (rg 0 10)] true)
 (.ret)))
def K7 : IFn := ⟨2, 21, [.tmp 4], false, K7_c⟩
def K6_c : IR :=
 .seq (.reg [o 2 (.box 5 (.t 0)),
 o 3 (.box 5 (.t 1)),
 o 4 (.mov (.c zB))] false)
 (.seq (.seq (.reg [oL 5 5 2,
 oL 6 5 3,
 o 7 (.lit 5 2 zL1 [(0, .t 5), (1, .t 6)]),
 oC 8 10 ([.t 7]),
 oU 9 8] false)
 (.cond (.t 9) (.seq (.reg [oC 10 11 ([]),
 oM 4 10] false)
 (.ret))
 (.skip)))
 (.seq (.reg [oL 11 5 2,
 oL 12 5 3,
 oD 13 17 ([.t 11, .t 12]) [0, 1],
 oL 14 5 2,
 oL 15 5 3,
 oD 16 18 ([.t 14, .t 15]) (rg 0 5),
 oD 17 12 ([.t 13, .t 16]) (rg 0 6),
 ob 18 (.mov (.t 17)) (rg 0 7),
 ⟨(some 19), (some (18, true)), .call false (.f 11) [], (rg 0 8)⟩,
 ob 20 (.pick (.t 18) (.t 19) (.c zB)) (rg 0 9),
 ob 4 (.mov (.t 20)) (rg 0 10)] true)
 (.ret)))
def K6 : IFn := ⟨2, 21, [.tmp 4], false, K6_c⟩
def Qjb : List Nat := [100002, 5, 6, 7]
def Q1bk : IR :=
 .seq (.reg [o 8 (.bin .lss (.t 7) (.t 6))] false)
 (.seq (.cond (.t 8) (.skip)
 (.exit 0))
 (.seq (.block 1 (.seq (.reg [oI 9 5 5 7,
 oL 10 5 9,
 o 4 (.zero zL1),
 oS 5 4 10] false)
 (.seq (.reg [oL 11 5 4,
 oC 12 22 ([.t 11, .c (.int .i64 3000)]),
 oU 13 12,
 oM 14 13,
 gF 15 14 (.load 5 true (.t 4)),
 gF 16 14 (.call false (.f 23) [.t 15]),
 gF 17 14 (.un .not (.t 16)),
 oQ 18 14 17] false)
 (.cond (.t 18) (.seq (.reg [o 2 (.mov (.c zB))] false)
 (.ret))
 (.skip)))))
 (.reg [oA 19 7,
 oM 7 19] false)))
def Kd_c : IR :=
 .seq (.reg [o 2 (.mov (.c zB))] false)
 (.seq (.seq (.reg [oM 5 0,
 oN 6 5,
 o 7 (.mov (.c zI))] false)
 (.block 0 (.loop Qjb Q1bk)))
 (.seq (.reg [o 2 (.mov (.c (.bool true)))] false)
 (.ret)))
def Kd : IFn := ⟨1, 20, [.tmp 2], false, Kd_c⟩
def Ka_c : IR :=
 .seq (.reg [o 0 (.mov (.c zB))] false)
 (.seq (.reg [oC 6 25 ([.c (.int .i64 1)]),
 o 7 (.build zL0 [(0, 1, sA1), (1, 5, .t 6)]),
 oC 8 25 ([.c (.int .i64 2)]),
 o 9 (.build zL0 [(0, 1, sA2), (1, 5, .t 8)]),
 o 10 (.lit 6 2 zL0 [(0, .t 7), (1, .t 9)]),
 oC 11 24 ([.t 10]),
 o 1 (.zero zL1),
 oS 5 1 11] false)
 (.seq (.reg [o 12 (.build zL0 [(0, 1, sA1)]),
 oC 13 25 ([.c (.int .i64 3)]),
 o 14 (.build zL0 [(0, 1, sA0), (1, 5, .t 13)]),
 o 15 (.build zL0 [(0, 1, .c (.str ⟨#[101]⟩))]),
 o 16 (.lit 6 2 zL0 [(0, .t 14), (1, .t 15)]),
 oC 17 24 ([.t 16]),
 o 18 (.build zL0 [(0, 1, sA3), (1, 5, .t 17)]),
 o 19 (.lit 6 2 zL0 [(0, .t 12), (1, .t 18)]),
 oC 20 24 ([.t 19]),
 o 2 (.zero zL1),
 oS 5 2 20] false)
 (.seq (.reg [oC 21 25 ([.c (.int .i64 2)]),
 o 22 (.build zL0 [(0, 1, sA2), (1, 5, .t 21)]),
 oC 23 25 ([.c (.int .i64 3)]),
 o 24 (.build zL0 [(0, 1, sA0), (1, 5, .t 23)]),
 o 25 (.lit 6 1 zL0 [(0, .t 24)]),
 oC 26 24 ([.t 25]),
 o 27 (.build zL0 [(0, 1, sA3), (1, 5, .t 26)]),
 o 28 (.lit 6 2 zL0 [(0, .t 22), (1, .t 27)]),
 oC 29 24 ([.t 28]),
 o 3 (.zero zL1),
 oS 5 3 29] false)
 (.seq (.reg [o 30 (.build zL0 [(0, 1, sA1)]),
 oC 31 25 ([.c (.int .i64 3)]),
 o 32 (.build zL0 [(0, 1, sA0), (1, 5, .t 31)]),
 o 33 (.lit 6 1 zL0 [(0, .t 32)]),
 oC 34 24 ([.t 33]),
 o 35 (.build zL0 [(0, 1, sA3), (1, 5, .t 34)]),
 o 36 (.lit 6 2 zL0 [(0, .t 30), (1, .t 35)]),
 oC 37 24 ([.t 36]),
 o 4 (.zero zL1),
 oS 5 4 37] false)
 (.seq (.reg [oC 38 25 ([.c (.int .i64 2)]),
 o 39 (.build zL0 [(0, 1, sA3), (1, 5, .t 38)]),
 o 40 (.lit 6 1 zL0 [(0, .t 39)]),
 oC 41 24 ([.t 40]),
 o 42 (.build zL0 [(0, 1, sA2), (1, 5, .t 41)]),
 o 43 (.lit 6 1 zL0 [(0, .t 42)]),
 oC 44 24 ([.t 43]),
 o 45 (.build zL0 [(0, 1, sA0)]),
 o 46 (.lit 6 1 zL0 [(0, .t 45)]),
 oC 47 24 ([.t 46]),
 o 48 (.build zL0 [(0, 1, sA2), (1, 5, .t 47)]),
 o 49 (.lit 6 1 zL0 [(0, .t 48)]),
 oC 50 24 ([.t 49]),
 oC 51 17 ([.t 44, .t 50]),
 o 5 (.zero zL1),
 oS 5 5 51] false)
 (.seq (.reg [oL 52 5 1,
 oL 53 5 2,
 oD 54 13 ([.t 52, .t 53]) [0, 1],
 oL 55 5 3,
 oD 56 12 ([.t 54, .t 55]) [0, 1, 2, 3],
 ob 57 (.mov (.t 56)) (rg 0 5),
 ⟨(some 58), (some (57, true)), .load 5 true (.t 1), (rg 0 6)⟩,
 ⟨(some 59), (some (57, true)), .load 5 true (.t 3), (rg 0 6)⟩,
 ⟨(some 60), (some (57, true)), .call false (.f 15) [.t 58, .t 59], (rg 0 8)⟩,
 ⟨(some 61), (some (57, true)), .load 5 true (.t 4), (rg 0 6)⟩,
 ⟨(some 62), (some (57, true)), .call false (.f 12) [.t 60, .t 61], (rg 0 10)⟩,
 ob 63 (.pick (.t 57) (.t 62) (.c zB)) (rg 0 11),
 ob 64 (.mov (.t 63)) (rg 0 12),
 ⟨(some 65), (some (64, true)), .load 5 true (.t 5), (rg 0 13)⟩,
 ⟨(some 66), (some (64, true)), .call false (.f 25) [.c (.int .i64 2)], (rg 0 13)⟩,
 ⟨(some 67), (some (64, true)), .build zL0 [(0, 1, sA3), (1, 5, .t 66)], (rg 0 13 ++ [14])⟩,
 ⟨(some 68), (some (64, true)), .build zL0 [(0, 1, sA0)], (rg 0 13)⟩,
 ⟨(some 69), (some (64, true)), .lit 6 2 zL0 [(0, .t 67), (1, .t 68)], (rg 0 13 ++ [14, 15, 16])⟩,
 ⟨(some 70), (some (64, true)), .call false (.f 24) [.t 69], (rg 0 13 ++ rg 14 18)⟩,
 ⟨(some 71), (some (64, true)), .build zL0 [(0, 1, sA2), (1, 5, .t 70)], (rg 0 13 ++ rg 14 19)⟩,
 ⟨(some 72), (some (64, true)), .lit 6 1 zL0 [(0, .t 71)], (rg 0 13 ++ rg 14 20)⟩,
 ⟨(some 73), (some (64, true)), .call false (.f 24) [.t 72], (rg 0 13 ++ rg 14 21)⟩,
 ⟨(some 74), (some (64, true)), .call false (.f 12) [.t 65, .t 73], (rg 0 22)⟩,
 ob 75 (.pick (.t 64) (.t 74) (.c zB)) (rg 0 23),
 ob 0 (.mov (.t 75)) (rg 0 24)] true)
 (.ret)))))))
def Ka : IFn := ⟨0, 76, [.tmp 0], false, Ka_c⟩
def Qjs : List Nat := [100004, 2, 3, 6]
def Q19k : IR :=
 .seq (.seq (.reg [oM 63 6,
 oF 64 4 2,
 oK 65 1 64,
 oN 66 65,
 o 67 (.bin .lss (.t 63) (.t 66))] false)
 (.cond (.t 67) (.skip)
 (.exit 2)))
 (.seq (.block 3 (.seq (.reg [oF 70 4 2,
 oE 71 1 70 [0],
 oM 72 6,
 ob 73 (.iaddr 6 (.t 71) (.t 72)) [0, 1, 2],
 ob 74 (.faddr 0 (.t 73)) [0, 1, 2, 3],
 oE 75 1 74 (rg 0 5),
 oF 76 4 3,
 oE 77 1 76 [6],
 oM 78 6,
 ob 79 (.iaddr 6 (.t 77) (.t 78)) [6, 7, 8],
 ob 80 (.faddr 0 (.t 79)) [6, 7, 8, 9],
 oE 81 1 80 (rg 6 11),
 ob 82 (.bin .neq (.t 75) (.t 81)) (rg 0 12),
 ob 83 (.mov (.t 82)) (rg 0 13),
 ⟨(some 84), (some (83, false)), .faddr 4 (.t 2), (rg 0 14)⟩,
 ⟨(some 85), (some (83, false)), .load 1 false (.t 84), (rg 0 15)⟩,
 ⟨(some 86), (some (83, false)), .mov (.t 6), (rg 0 14)⟩,
 ⟨(some 87), (some (83, false)), .iaddr 6 (.t 85) (.t 86), (rg 0 17)⟩,
 ⟨(some 88), (some (83, false)), .faddr 1 (.t 87), (rg 0 18)⟩,
 ⟨(some 89), (some (83, false)), .load 5 true (.t 88), (rg 0 19)⟩,
 ⟨(some 90), (some (83, false)), .faddr 4 (.t 3), (rg 0 14)⟩,
 ⟨(some 91), (some (83, false)), .load 1 false (.t 90), (rg 0 14 ++ [20])⟩,
 ⟨(some 92), (some (83, false)), .mov (.t 6), (rg 0 14)⟩,
 ⟨(some 93), (some (83, false)), .iaddr 6 (.t 91) (.t 92), (rg 0 14 ++ [20, 21, 22])⟩,
 ⟨(some 94), (some (83, false)), .faddr 1 (.t 93), (rg 0 14 ++ rg 20 24)⟩,
 ⟨(some 95), (some (83, false)), .load 5 true (.t 94), (rg 0 14 ++ rg 20 25)⟩,
 ⟨(some 96), (some (83, false)), .call false (.f 12) [.t 89, .t 95], (rg 0 26)⟩,
 ⟨(some 97), (some (83, false)), .un .not (.t 96), (rg 0 27)⟩,
 ob 98 (.pick (.t 83) (.c (.bool true)) (.t 97)) (rg 0 28)] true)
 (.cond (.t 98) (.seq (.reg [o 4 (.mov (.c zB))] false)
 (.ret))
 (.skip))))
 (.reg [oM 68 6,
 oA 69 68,
 oM 6 69] false))
def Qlu : List Nat := [100003, 2, 3, 5]
def Q19f : IR :=
 .seq (.seq (.reg [oM 44 5,
 oF 45 3 2,
 oK 46 1 45,
 oN 47 46,
 o 48 (.bin .lss (.t 44) (.t 47))] false)
 (.cond (.t 48) (.skip)
 (.exit 0)))
 (.seq (.block 1 (.seq (.reg [oF 51 3 2,
 oE 52 1 51 [0],
 oM 53 5,
 ob 54 (.iaddr 5 (.t 52) (.t 53)) [0, 1, 2],
 ob 55 (.load 5 true (.t 54)) [0, 1, 2, 3],
 oF 56 3 3,
 oE 57 1 56 [5],
 oM 58 5,
 ob 59 (.iaddr 5 (.t 57) (.t 58)) [5, 6, 7],
 ob 60 (.load 5 true (.t 59)) [5, 6, 7, 8],
 oD 61 12 ([.t 55, .t 60]) (rg 0 10),
 ob 62 (.un .not (.t 61)) (rg 0 11)] true)
 (.cond (.t 62) (.seq (.reg [o 4 (.mov (.c zB))] false)
 (.ret))
 (.skip))))
 (.reg [oM 49 5,
 oA 50 49,
 oM 5 50] false))
def Ky_c : IR :=
 .seq (.reg [o 2 (.box 5 (.t 0)),
 o 3 (.box 5 (.t 1)),
 o 4 (.mov (.c zB))] false)
 (.seq (.seq (.reg [oF 7 0 2,
 oK 8 1 7,
 oF 9 0 3,
 oK 10 1 9,
 o 11 (.bin .neq (.t 8) (.t 10)),
 oM 12 11,
 gF 13 12 (.faddr 1 (.t 2)),
 gF 14 12 (.load 1 false (.t 13)),
 gF 15 12 (.faddr 1 (.t 3)),
 gF 16 12 (.load 1 false (.t 15)),
 gF 17 12 (.bin .neq (.t 14) (.t 16)),
 oQ 18 12 17,
 oM 19 18,
 gF 20 19 (.faddr 2 (.t 2)),
 gF 21 19 (.load 1 false (.t 20)),
 gF 22 19 (.faddr 2 (.t 3)),
 gF 23 19 (.load 1 false (.t 22)),
 gF 24 19 (.bin .neq (.t 21) (.t 23)),
 oQ 25 19 24,
 oM 26 25,
 gF 27 26 (.faddr 3 (.t 2)),
 gF 28 26 (.load 1 false (.t 27)),
 gF 29 26 (.len false (.t 28)),
 gF 30 26 (.faddr 3 (.t 3)),
 gF 31 26 (.load 1 false (.t 30)),
 gF 32 26 (.len false (.t 31)),
 gF 33 26 (.bin .neq (.t 29) (.t 32)),
 oQ 34 26 33,
 oM 35 34,
 gF 36 35 (.faddr 4 (.t 2)),
 gF 37 35 (.load 1 false (.t 36)),
 gF 38 35 (.len false (.t 37)),
 gF 39 35 (.faddr 4 (.t 3)),
 gF 40 35 (.load 1 false (.t 39)),
 gF 41 35 (.len false (.t 40)),
 gF 42 35 (.bin .neq (.t 38) (.t 41)),
 oQ 43 35 42] false)
 (.cond (.t 43) (.seq (.reg [o 4 (.mov (.c zB))] false)
 (.ret))
 (.skip)))
 (.seq (.seq (.reg [o 5 (.mov (.c zI))] false)
 (.block 0 (.loop Qlu Q19f)))
 (.seq (.seq (.reg [o 6 (.mov (.c zI))] false)
 (.block 2 (.loop Qjs Q19k)))
 (.seq (.reg [o 4 (.mov (.c (.bool true)))] false)
 (.ret)))))
def Ky : IFn := ⟨2, 99, [.tmp 4], false, Ky_c⟩
def Q107 : List Nat := [100005, 4, 5, 22, 23, 24]
def Q1cd : IR :=
 .seq (.reg [o 25 (.bin .lss (.t 24) (.t 23))] false)
 (.seq (.cond (.t 25) (.skip)
 (.exit 0))
 (.seq (.block 1 (.seq (.reg [oI 26 6 22 24,
 oL 27 6 26,
 o 7 (.zero zL0),
 oS 6 7 27] false)
 (.seq (.seq (.reg [oF 28 1 7,
 oF 29 0 28,
 oK 30 1 29,
 o 31 (.bin .eql (.t 30) (.c zI))] false)
 (.cond (.t 31) (.seq (.reg [oL 32 5 5,
 oF 33 0 7,
 oK 34 1 33,
 oC 35 28 ([.t 32, .t 34]),
 oS 5 5 35] false)
 (.exit 1))
 (.skip)))
 (.seq (.reg [oL 37 5 5,
 oF 38 0 7,
 oK 39 1 38,
 oC 40 29 ([.t 37, .t 39]),
 oM 36 40,
 oX 41 36 0,
 oX 42 36 1,
 o 8 (.zero zL1),
 oS 5 8 41,
 oM 9 42] false)
 (.reg [oL 43 5 5,
 oF 44 0 7,
 oE 45 1 44 [1],
 oL 46 5 8,
 oF 47 1 7,
 ob 48 (.load 5 true (.t 47)) [4],
 oD 49 13 ([.t 46, .t 48]) [3, 4, 5],
 oD 50 30 ([.t 43, .t 45, .t 49]) (rg 0 7),
 ⟨none, none, .store 5 (.t 5) (.t 50), (rg 0 8)⟩] true)))))
 (.reg [oA 51 24,
 oM 24 51] false)))
def Kg_c : IR :=
 .seq (.reg [o 2 (.box 5 (.t 0)),
 o 3 (.box 5 (.t 1)),
 o 4 (.zero zL1)] false)
 (.seq (.seq (.reg [oF 10 0 3,
 oK 11 1 10,
 o 12 (.bin .neq (.t 11) (.c (.int .i64 5)))] false)
 (.cond (.t 12) (.seq (.reg [oL 13 5 3,
 oC 14 26 ([.t 13]),
 oS 5 4 14] false)
 (.ret))
 (.skip)))
 (.seq (.reg [oC 15 27 ([.c (.ns 6)]),
 o 5 (.zero zL1),
 oS 5 5 15] false)
 (.seq (.seq (.reg [oF 16 0 2,
 oK 17 1 16,
 o 18 (.bin .eql (.t 17) (.c (.int .i64 5)))] false)
 (.cond (.t 18) (.reg [oL 19 5 2,
 oC 20 26 ([.t 19]),
 oS 5 5 20] false)
 (.skip)))
 (.seq (.seq (.reg [oF 21 4 3,
 oK 22 1 21,
 oN 23 22,
 o 24 (.mov (.c zI))] false)
 (.block 0 (.loop Q107 Q1cd)))
 (.seq (.reg [oL 52 5 5,
 oS 5 4 52] false)
 (.ret))))))
def Kg : IFn := ⟨2, 53, [.cell 4 5 true], false, Kg_c⟩
def Qlc : List Nat := [100008, 2, 4, 5, 48, 49, 50]
def Q19q : IR :=
 .seq (.reg [o 51 (.bin .lss (.t 50) (.t 49))] false)
 (.seq (.cond (.t 51) (.skip)
 (.exit 2))
 (.seq (.block 3 (.seq (.reg [oI 52 6 48 50,
 oL 53 6 52,
 o 11 (.zero zL0),
 oS 6 11 53] false)
 (.seq (.reg [oL 55 5 2,
 oF 56 0 11,
 oK 57 1 56,
 oC 58 29 ([.t 55, .t 57]),
 oM 54 58,
 oX 59 54 0,
 oX 60 54 1,
 o 12 (.zero zL1),
 oS 5 12 59,
 oM 13 60] false)
 (.block 4 (.seq (.reg [oM 68 13,
 oM 69 68,
 gT 70 69 (.load 5 true (.t 12)),
 gT 71 69 (.faddr 1 (.t 11)),
 gT 72 69 (.load 5 true (.t 71)),
 gT 73 69 (.call false (.f 34) [.t 70, .t 72]),
 oP 74 69 73,
 oM 67 74] false)
 (.cond (.t 67) (.skip)
 (.seq (.reg [oM 76 13,
 oM 77 76,
 gT 78 77 (.faddr 0 (.t 12)),
 gT 79 77 (.load 1 false (.t 78)),
 gT 80 77 (.bin .eql (.t 79) (.c (.int .i64 5))),
 oP 81 77 80,
 oM 82 81,
 gT 83 82 (.faddr 1 (.t 11)),
 gT 84 82 (.faddr 0 (.t 83)),
 gT 85 82 (.load 1 false (.t 84)),
 gT 86 82 (.bin .eql (.t 85) (.c (.int .i64 5))),
 oP 87 82 86,
 oM 75 87] false)
 (.cond (.t 75) (.reg [oL 88 5 5,
 oF 89 0 11,
 oE 90 1 89 [1],
 oL 91 5 12,
 oF 92 1 11,
 ob 93 (.load 5 true (.t 92)) [4],
 oD 94 15 ([.t 91, .t 93]) [3, 4, 5],
 oD 95 30 ([.t 88, .t 90, .t 94]) (rg 0 7),
 ⟨none, none, .store 5 (.t 5) (.t 95), (rg 0 8)⟩] true)
 (.reg [oL 61 5 5,
 oF 62 0 11,
 oK 63 1 62,
 oF 64 1 11,
 oL 65 5 64,
 oC 66 30 ([.t 61, .t 63, .t 65]),
 oS 5 5 66] false)))))))))
 (.reg [oA 96 50,
 oM 50 96] false)))
def Qkc : List Nat := [100007, 2, 3, 4, 5, 26, 27, 28]
def Q1a9 : IR :=
 .seq (.reg [o 29 (.bin .lss (.t 28) (.t 27))] false)
 (.seq (.cond (.t 29) (.skip)
 (.exit 0))
 (.seq (.block 1 (.seq (.reg [oI 30 6 26 28,
 oL 31 6 30,
 o 7 (.zero zL0),
 oS 6 7 31] false)
 (.seq (.reg [oL 33 5 3,
 oF 34 0 7,
 oK 35 1 34,
 oC 36 29 ([.t 33, .t 35]),
 oM 32 36,
 oX 37 32 0,
 oX 38 32 1,
 o 8 (.zero zL1),
 oS 5 8 37,
 oM 9 38] false)
 (.seq (.reg [oM 39 9,
 oU 40 39] false)
 (.cond (.t 40) (.reg [oL 41 5 5,
 oF 42 0 7,
 oE 43 1 42 [1],
 oC 44 33 ([]),
 oD 45 30 ([.t 41, .t 43, .t 44]) [0, 1, 2, 3],
 ⟨none, none, .store 5 (.t 5) (.t 45), (rg 0 5)⟩] true)
 (.skip))))))
 (.reg [oA 46 28,
 oM 28 46] false)))
def Kf_c : IR :=
 .seq (.reg [o 2 (.box 5 (.t 0)),
 o 3 (.box 5 (.t 1)),
 o 4 (.zero zL1)] false)
 (.seq (.seq (.reg [oF 14 0 2,
 oK 15 1 14,
 o 16 (.bin .neq (.t 15) (.c (.int .i64 5))),
 oM 17 16,
 gF 18 17 (.faddr 0 (.t 3)),
 gF 19 17 (.load 1 false (.t 18)),
 gF 20 17 (.bin .neq (.t 19) (.c (.int .i64 5))),
 oQ 21 17 20] false)
 (.cond (.t 21) (.seq (.reg [oL 22 5 3,
 oC 23 26 ([.t 22]),
 oS 5 4 23] false)
 (.ret))
 (.skip)))
 (.seq (.reg [oC 24 27 ([.c (.ns 6)]),
 o 5 (.zero zL1),
 oS 5 5 24] false)
 (.seq (.seq (.reg [oF 25 4 2,
 oK 26 1 25,
 oN 27 26,
 o 28 (.mov (.c zI))] false)
 (.block 0 (.loop Qkc Q1a9)))
 (.seq (.seq (.reg [oF 47 4 3,
 oK 48 1 47,
 oN 49 48,
 o 50 (.mov (.c zI))] false)
 (.block 2 (.loop Qlc Q19q)))
 (.seq (.reg [oL 97 5 5,
 oS 5 4 97] false)
 (.ret))))))
def Kf : IFn := ⟨2, 98, [.cell 4 5 true], false, Kf_c⟩
def Qe9 : List Nat := [100010, 2, 3, 4, 5, 9, 200001]
def Q17x : IR :=
 .seq (.seq (.reg [oM 52 9,
 oF 53 4 3,
 oK 54 1 53,
 oN 55 54,
 o 56 (.bin .lss (.t 52) (.t 55))] false)
 (.cond (.t 56) (.skip)
 (.exit 2)))
 (.seq (.block 3 (.seq (.reg [oF 59 4 3,
 oK 60 1 59,
 oM 61 9,
 oI 62 6 60 61,
 oL 63 6 62,
 o 10 (.zero zL0),
 oS 6 10 63] false)
 (.seq (.reg [oL 65 5 2,
 oF 66 0 10,
 oK 67 1 66,
 oC 68 21 ([.t 65, .t 67]),
 oM 64 68,
 oX 69 64 0,
 oX 70 64 1,
 o 11 (.zero zL1),
 oS 5 11 69,
 oM 12 70] false)
 (.seq (.reg [oM 71 12,
 oU 72 71] false)
 (.cond (.t 72) (.reg [oL 73 5 5,
 oF 74 0 10,
 oK 75 1 74,
 oF 76 1 10,
 oL 77 5 76,
 oC 78 32 ([.t 73, .t 75, .t 77]),
 oS 5 5 78] false)
 (.seq (.reg [oL 79 5 11,
 oF 80 1 10,
 oL 81 5 80,
 oC 82 35 ([.t 79, .t 81]),
 oU 83 82] false)
 (.cond (.t 83) (.reg [oL 84 5 5,
 oF 85 0 10,
 oE 86 1 85 [1],
 oL 87 5 11,
 oF 88 1 10,
 ob 89 (.load 5 true (.t 88)) [4],
 oD 90 16 ([.t 87, .t 89]) [3, 4, 5],
 oD 91 32 ([.t 84, .t 86, .t 90]) (rg 0 7),
 ⟨none, none, .store 5 (.t 5) (.t 91), (rg 0 8)⟩] true)
 (.skip))))))))
 (.reg [oM 57 9,
 oA 58 57,
 oM 9 58] false))
def Qfh : List Nat := [100009, 2, 3, 4, 5, 6, 200001]
def Q176 : IR :=
 .seq (.seq (.reg [oM 23 6,
 oF 24 4 2,
 oK 25 1 24,
 oN 26 25,
 o 27 (.bin .lss (.t 23) (.t 26))] false)
 (.cond (.t 27) (.skip)
 (.exit 0)))
 (.seq (.block 1 (.seq (.reg [oL 31 5 3,
 oF 32 4 2,
 oE 33 1 32 [1],
 oM 34 6,
 ob 35 (.iaddr 6 (.t 33) (.t 34)) [1, 2, 3],
 ob 36 (.faddr 0 (.t 35)) [1, 2, 3, 4],
 oE 37 1 36 (rg 1 6),
 oD 38 21 ([.t 31, .t 37]) (rg 0 7),
 ob 30 (.mov (.t 38)) (rg 0 8),
 ob 39 (.extract (.t 30) 0) (rg 0 9),
 ob 40 (.extract (.t 30) 1) (rg 0 9),
 o 7 (.zero zL1),
 ⟨none, none, .store 5 (.t 7) (.t 39), (rg 0 10 ++ [11])⟩,
 ob 8 (.mov (.t 40)) (rg 0 13)] true)
 (.seq (.reg [oM 41 8,
 oU 42 41] false)
 (.cond (.t 42) (.reg [oL 43 5 5,
 oF 44 4 2,
 oE 45 1 44 [1],
 oM 46 6,
 ob 47 (.iaddr 6 (.t 45) (.t 46)) [1, 2, 3],
 ob 48 (.faddr 0 (.t 47)) [1, 2, 3, 4],
 oE 49 1 48 (rg 1 6),
 o 50 (.build zL1 []),
 oD 51 32 ([.t 43, .t 49, .t 50]) (rg 0 8),
 ⟨none, none, .store 5 (.t 5) (.t 51), (rg 0 9)⟩] true)
 (.skip)))))
 (.reg [oM 28 6,
 oA 29 28,
 oM 6 29] false))
def Q1dg : IR :=
 .seq (.reg [o 2 (.box 5 (.t 0)),
 o 3 (.box 5 (.t 1)),
 o 4 (.zero zL1)] false)
 (.seq (.seq (.reg [oF 13 0 2,
 oK 14 1 13,
 o 15 (.bin .neq (.t 14) (.c (.int .i64 5))),
 oM 16 15,
 gF 17 16 (.faddr 0 (.t 3)),
 gF 18 16 (.load 1 false (.t 17)),
 gF 19 16 (.bin .neq (.t 18) (.c (.int .i64 5))),
 oQ 20 16 19] false)
 (.cond (.t 20) (.seq (.reg [oL 21 5 3,
 oS 5 4 21] false)
 (.ret))
 (.skip)))
 (.seq (.reg [o 22 (.build zL1 [(0, 1, .c (.int .i64 5))]),
 o 5 (.zero zL1),
 oS 5 5 22] false)
 (.seq (.seq (.reg [o 6 (.mov (.c zI))] false)
 (.block 0 (.loop Qfh Q176)))
 (.seq (.seq (.reg [o 9 (.mov (.c zI))] false)
 (.block 2 (.loop Qe9 Q17x)))
 (.seq (.reg [oL 92 5 5,
 oS 5 4 92] false)
 (.ret))))))
def K14 : IFn := ⟨2, 93, [.cell 4 5 true], false, Q1dg⟩
def Qxx : List Nat := [100011, 2, 4, 5, 27, 28, 29]
def Q1bx : IR :=
 .seq (.reg [o 30 (.bin .lss (.t 29) (.t 28))] false)
 (.seq (.cond (.t 30) (.skip)
 (.exit 1))
 (.seq (.block 2 (.seq (.reg [oI 31 6 27 29,
 oL 32 6 31,
 o 7 (.zero zL0),
 oS 6 7 32] false)
 (.seq (.reg [oF 33 1 7,
 oL 34 5 33,
 o 8 (.zero zL1),
 oS 5 8 34] false)
 (.seq (.seq (.reg [oL 36 5 2,
 oF 37 0 7,
 oK 38 1 37,
 oC 39 29 ([.t 36, .t 38]),
 oM 35 39,
 oX 40 35 0,
 oX 41 35 1,
 o 9 (.zero zL1),
 oS 5 9 40,
 oM 10 41] false)
 (.seq (.reg [oM 42 10] false)
 (.cond (.t 42) (.reg [oL 43 5 9,
 oL 44 5 8,
 oC 45 17 ([.t 43, .t 44]),
 oS 5 8 45] false)
 (.skip))))
 (.reg [oL 46 5 5,
 oF 47 0 7,
 oK 48 1 47,
 oL 49 5 8,
 oC 50 30 ([.t 46, .t 48, .t 49]),
 oS 5 5 50] false)))))
 (.reg [oA 51 29,
 oM 29 51] false)))
def Ke_c : IR :=
 .seq (.reg [o 2 (.box 5 (.t 0)),
 o 3 (.box 5 (.t 1)),
 o 4 (.zero zL1)] false)
 (.seq (.block 0 (.seq (.reg [oF 12 0 3,
 oK 13 1 12,
 o 14 (.bin .neq (.t 13) (.c (.int .i64 5))),
 oM 11 14] false)
 (.cond (.t 11) (.seq (.reg [oL 15 5 3,
 oC 16 26 ([.t 15]),
 oS 5 4 16] false)
 (.ret))
 (.seq (.reg [oF 18 0 2,
 oK 19 1 18,
 o 20 (.bin .neq (.t 19) (.c (.int .i64 5))),
 oM 17 20] false)
 (.cond (.t 17) (.seq (.reg [oC 21 33 ([]),
 oL 22 5 3,
 oD 23 13 ([.t 21, .t 22]) [0, 1],
 ⟨none, none, .store 5 (.t 4) (.t 23), [0, 1, 2]⟩] true)
 (.ret))
 (.skip))))))
 (.seq (.reg [oL 24 5 2,
 oC 25 26 ([.t 24]),
 o 5 (.zero zL1),
 oS 5 5 25] false)
 (.seq (.seq (.reg [oF 26 4 3,
 oK 27 1 26,
 oN 28 27,
 o 29 (.mov (.c zI))] false)
 (.block 1 (.loop Qxx Q1bx)))
 (.seq (.reg [oL 52 5 5,
 oS 5 4 52] false)
 (.ret)))))
def Ke : IFn := ⟨2, 53, [.cell 4 5 true], false, Ke_c⟩
def Qjn : List Nat := [100015, 1, 2, 4, 6]
def Q195 : IR :=
 .seq (.seq (.reg [oM 10 6,
 oF 11 4 2,
 oK 12 1 11,
 oN 13 12,
 o 14 (.bin .lss (.t 10) (.t 13))] false)
 (.cond (.t 14) (.skip)
 (.exit 0)))
 (.seq (.block 1 (.seq (.reg [oF 17 4 2,
 oK 18 1 17,
 oM 19 6,
 oI 20 6 18 19,
 oF 21 0 20,
 oK 22 1 21,
 oM 23 1,
 o 24 (.bin .eql (.t 22) (.t 23))] false)
 (.cond (.t 24) (.seq (.reg [oF 25 4 2,
 oK 26 1 25,
 oM 27 6,
 oI 28 6 26 27,
 oF 29 1 28,
 oL 30 5 29,
 oC 31 36 ([.t 30]),
 oS 5 4 31,
 o 5 (.mov (.c (.bool true)))] false)
 (.ret))
 (.skip))))
 (.reg [oM 15 6,
 oA 16 15,
 oM 6 16] false))
def Kl_c : IR :=
 .seq (.reg [o 2 (.box 5 (.t 0)),
 o 4 (.zero zL1),
 o 5 (.mov (.c zB))] false)
 (.seq (.seq (.reg [oF 7 0 2,
 oK 8 1 7,
 o 9 (.bin .eql (.t 8) (.c (.int .i64 5)))] false)
 (.cond (.t 9) (.seq (.reg [o 6 (.mov (.c zI))] false)
 (.block 0 (.loop Qjn Q195)))
 (.skip)))
 (.seq (.reg [o 32 (.build zL1 []),
 oS 5 4 32,
 o 5 (.mov (.c zB))] false)
 (.ret)))
def Kl : IFn := ⟨2, 33, [.cell 4 5 true, .tmp 5], false, Kl_c⟩
def Kz_c : IR :=
 .seq (.reg [o 2 (.box 5 (.t 0)),
 o 4 (.mov (.c zB))] false)
 (.seq (.reg [oL 5 5 2,
 oM 6 1,
 oC 7 37 ([.t 5, .t 6]),
 o 8 (.bin .geq (.t 7) (.c zI)),
 oM 4 8] false)
 (.ret))
def Kz : IFn := ⟨2, 9, [.tmp 4], false, Kz_c⟩
def Ko_c : IR :=
 .seq (.reg [o 1 (.box 5 (.t 0)),
 o 2 (.mov (.c zB))] false)
 (.seq (.reg [oL 3 5 1,
 oC 4 38 ([.t 3, .c (.int .i64 12)]),
 oM 5 4,
 gT 6 5 (.load 5 true (.t 1)),
 gT 7 5 (.call false (.f 39) [.t 6]),
 gT 8 5 (.bin .leq (.t 7) (.c (.int .i64 600))),
 oP 9 5 8,
 oM 2 9] false)
 (.ret))
def Ko : IFn := ⟨1, 10, [.tmp 2], false, Ko_c⟩
def Kc_c : IR :=
 .seq (.reg [o 2 (.zero zL1)] false)
 (.seq (.reg [oM 3 0,
 o 4 (.build zL1 [(0, 1, .c (.int .i64 5)), (4, 1, .t 3)]),
 oS 5 2 4] false)
 (.ret))
def Kc : IFn := ⟨1, 5, [.cell 2 5 true], false, Kc_c⟩
def Kb_c : IR :=
 .seq (.reg [o 2 (.zero zL1)] false)
 (.seq (.reg [oM 3 0,
 o 4 (.build zL1 [(0, 1, .c (.int .i64 2)), (1, 1, .t 3)]),
 oS 5 2 4] false)
 (.ret))
def Kb : IFn := ⟨1, 5, [.cell 2 5 true], false, Kb_c⟩
def Kh_c : IR :=
 .seq (.reg [o 1 (.box 5 (.t 0)),
 o 2 (.zero zL1)] false)
 (.seq (.reg [oL 3 5 1,
 o 4 (.lit 5 1 zL1 [(0, .t 3)]),
 oC 5 40 ([.t 4]),
 o 6 (.field 3 1 false (.t 5)),
 o 7 (.iaddr 5 (.t 6) (.c zI)),
 oL 8 5 7,
 oS 5 2 8] false)
 (.ret))
def Kh : IFn := ⟨1, 9, [.cell 2 5 true], false, Kh_c⟩
def Qez : List Nat := [100016, 2, 3, 4, 12, 13, 14]
def Q16z : IR :=
 .seq (.reg [o 15 (.bin .lss (.t 14) (.t 13))] false)
 (.seq (.cond (.t 15) (.skip)
 (.exit 0))
 (.seq (.block 1 (.seq (.reg [oM 16 14,
 oI 17 6 12 14,
 oL 18 6 17,
 o 6 (.zero zL0),
 oM 5 16,
 oS 6 6 18] false)
 (.seq (.reg [oM 19 5,
 ob 20 (.bin .add (.t 19) (.c (.int .i64 1))) [0],
 oM 21 3,
 ob 22 (.len false (.t 21)) [2],
 ob 23 (.bin .eql (.t 20) (.t 22)) [0, 1, 2, 3],
 ob 24 (.mov (.t 23)) (rg 0 5),
 ⟨(some 25), (some (24, false)), .mov (.t 3), (rg 0 6)⟩,
 ⟨(some 26), (some (24, false)), .mov (.t 5), (rg 0 6)⟩,
 ⟨(some 27), (some (24, false)), .bin .add (.t 26) (.c (.int .i64 1)), (rg 0 6 ++ [7])⟩,
 ⟨(some 28), (some (24, false)), .iaddr 6 (.t 25) (.t 27), (rg 0 9)⟩,
 ⟨(some 29), (some (24, false)), .faddr 0 (.t 28), (rg 0 10)⟩,
 ⟨(some 30), (some (24, false)), .load 1 false (.t 29), (rg 0 11)⟩,
 ⟨(some 31), (some (24, false)), .faddr 0 (.t 6), (rg 0 6)⟩,
 ⟨(some 32), (some (24, false)), .load 1 false (.t 31), (rg 0 6 ++ [12])⟩,
 ⟨(some 33), (some (24, false)), .bin .neq (.t 30) (.t 32), (rg 0 14)⟩,
 ob 34 (.pick (.t 24) (.c (.bool true)) (.t 33)) (rg 0 15)] true)
 (.cond (.t 34) (.reg [oF 35 4 4,
 oK 36 1 35,
 oL 37 6 6,
 o 38 (.lit 6 1 zL0 [(0, .t 37)]),
 oJ 39 6 96 36 38,
 oF 40 4 4,
 oS 1 40 39] false)
 (.skip)))))
 (.reg [oA 41 14,
 oM 14 41] false)))
def Q1c6 : IR :=
 .seq (.reg [o 2 (.zero zL1)] false)
 (.seq (.reg [oM 7 0,
 oC 8 41 ([.t 7]),
 oM 3 8] false)
 (.seq (.reg [oM 9 3,
 o 10 (.call true (.f 42) [.t 9, .f 43])] false)
 (.seq (.reg [o 11 (.build zL1 [(0, 1, .c (.int .i64 5))]),
 o 4 (.zero zL1),
 oS 5 4 11] false)
 (.seq (.seq (.reg [oM 12 3,
 oN 13 12,
 o 14 (.mov (.c zI))] false)
 (.block 0 (.loop Qez Q16z)))
 (.seq (.reg [oL 42 5 4,
 oC 43 45 ([.t 42]),
 oS 5 2 43] false)
 (.ret))))))
def K1m : IFn := ⟨1, 44, [.cell 2 5 true], false, Q1c6⟩
def Q1db : IR :=
 .seq (.reg [o 2 (.box 5 (.t 0)),
 o 4 (.zero zL1)] false)
 (.seq (.seq (.reg [oF 5 0 2,
 oK 6 1 5,
 o 7 (.bin .neq (.t 6) (.c (.int .i64 5)))] false)
 (.cond (.t 7) (.seq (.reg [oL 8 5 2,
 oC 9 45 ([.t 8]),
 oS 5 4 9] false)
 (.ret))
 (.skip)))
 (.seq (.reg [oL 10 5 2,
 oM 11 1,
 oC 12 46 ([.t 10, .t 11]),
 oC 13 27 ([.t 12]),
 oS 5 4 13] false)
 (.ret)))
def K1q : IFn := ⟨2, 14, [.cell 4 5 true], false, Q1db⟩
def Qds : List Nat := [100017, 1, 4, 12, 13, 14]
def Q17u : IR :=
 .seq (.reg [o 15 (.bin .lss (.t 14) (.t 13))] false)
 (.seq (.cond (.t 15) (.skip)
 (.exit 0))
 (.seq (.block 1 (.seq (.reg [oI 16 6 12 14,
 oL 17 6 16,
 o 7 (.zero zL0),
 oS 6 7 17] false)
 (.seq (.reg [oF 18 0 7,
 oK 19 1 18,
 oM 20 1,
 o 21 (.bin .eql (.t 19) (.t 20))] false)
 (.cond (.t 21) (.seq (.reg [oF 22 1 7,
 oL 23 5 22,
 oC 24 45 ([.t 23]),
 oS 5 4 24,
 o 5 (.mov (.c (.bool true)))] false)
 (.ret))
 (.skip)))))
 (.reg [oA 25 14,
 oM 14 25] false)))
def Q1cy : IR :=
 .seq (.reg [o 2 (.box 5 (.t 0)),
 o 4 (.zero zL1),
 o 5 (.mov (.c zB))] false)
 (.seq (.seq (.reg [oF 8 0 2,
 oK 9 1 8,
 o 10 (.bin .eql (.t 9) (.c (.int .i64 5)))] false)
 (.cond (.t 10) (.seq (.reg [oF 11 4 2,
 oK 12 1 11,
 oN 13 12,
 o 14 (.mov (.c zI))] false)
 (.block 0 (.loop Qds Q17u)))
 (.skip)))
 (.seq (.reg [o 26 (.build zL1 []),
 oS 5 4 26,
 o 5 (.mov (.c zB))] false)
 (.ret)))
def K1k : IFn := ⟨2, 27, [.cell 4 5 true, .tmp 5], false, Q1cy⟩
def Q1cb : IR :=
 .seq (.reg [o 3 (.box 5 (.t 0)),
 o 5 (.box 5 (.t 2)),
 o 6 (.zero zL1)] false)
 (.seq (.reg [oL 7 5 3,
 oM 8 1,
 oD 9 46 ([.t 7, .t 8]) [0, 1],
 oM 10 1,
 oL 11 5 5,
 ob 12 (.build zL0 [(0, 1, .t 10), (1, 5, .t 11)]) [3, 4],
 ob 13 (.lit 6 1 zL0 [(0, .t 12)]) [3, 4, 5],
 ob 14 (.append 6 96 (.t 9) (.t 13)) (rg 0 7),
 oD 15 27 ([.t 14]) (rg 0 8),
 ⟨none, none, .store 5 (.t 6) (.t 15), (rg 0 9)⟩] true)
 (.ret))
def K1p : IFn := ⟨3, 16, [.cell 6 5 true], false, Q1cb⟩
def Kr_c : IR :=
 .seq (.reg [o 3 (.box 5 (.t 0)),
 o 5 (.box 5 (.t 2)),
 o 6 (.zero zL1)] false)
 (.seq (.reg [oL 8 5 3,
 oM 9 1,
 oC 10 48 ([.t 8, .t 9]),
 oM 7 10] false)
 (.seq (.reg [oM 11 7,
 oM 12 1,
 oL 13 5 5,
 o 14 (.build zL0 [(0, 1, .t 12), (1, 5, .t 13)]),
 o 15 (.lit 6 1 zL0 [(0, .t 14)]),
 oJ 16 6 96 11 15,
 oM 7 16] false)
 (.seq (.reg [oM 17 7,
 oC 18 47 ([.t 17]),
 oS 5 6 18] false)
 (.ret))))
def Kr : IFn := ⟨3, 19, [.cell 6 5 true], false, Kr_c⟩
def Q1by : IR :=
 .seq (.reg [o 0 (.zero zL1)] false)
 (.seq (.reg [o 1 (.build zL1 [(0, 1, .c zI)]),
 oS 5 0 1] false)
 (.ret))
def K1o : IFn := ⟨0, 2, [.cell 0 5 true], false, Q1by⟩
def Q1dn : IR :=
 .seq (.reg [o 2 (.box 5 (.t 0)),
 o 3 (.box 5 (.t 1)),
 o 4 (.mov (.c zB))] false)
 (.seq (.reg [oL 5 5 2,
 oL 6 5 3,
 oC 7 49 ([.t 5, .t 6]),
 o 8 (.bin .eql (.t 7) (.c zI)),
 oM 4 8] false)
 (.ret))
def K1j : IFn := ⟨2, 9, [.tmp 4], false, Q1dn⟩
def Kk_c : IR :=
 .seq (.reg [o 2 (.box 5 (.t 0)),
 o 3 (.box 5 (.t 1)),
 o 4 (.mov (.c zB))] false)
 (.seq (.reg [oL 5 5 2,
 oL 6 5 3,
 oC 7 50 ([.t 5, .t 6]),
 o 8 (.bin .eql (.t 7) (.c zI)),
 oM 4 8] false)
 (.ret))
def Kk : IFn := ⟨2, 9, [.tmp 4], false, Kk_c⟩
def Ql8 : List Nat := [100019, 1, 2, 3, 5]
def Q1ah : IR :=
 .seq (.seq (.reg [oM 31 5,
 oF 32 4 1,
 oK 33 1 32,
 oN 34 33,
 o 35 (.bin .lss (.t 31) (.t 34))] false)
 (.cond (.t 35) (.skip)
 (.exit 2)))
 (.seq (.block 3 (.reg [oF 38 4 3,
 oE 39 1 38 [0],
 oF 40 4 1,
 oE 41 1 40 [2],
 oM 42 5,
 ob 43 (.iaddr 6 (.t 41) (.t 42)) [2, 3, 4],
 ob 44 (.faddr 0 (.t 43)) [2, 3, 4, 5],
 oE 45 1 44 (rg 2 7),
 oF 46 4 1,
 oE 47 1 46 [8],
 oM 48 5,
 ob 49 (.iaddr 6 (.t 47) (.t 48)) [8, 9, 10],
 ob 50 (.faddr 1 (.t 49)) [8, 9, 10, 11],
 ob 51 (.load 5 true (.t 50)) (rg 8 13),
 oD 52 36 ([.t 51]) (rg 8 14),
 ob 53 (.build zL0 [(0, 1, .t 45), (1, 5, .t 52)]) (rg 2 15),
 ob 54 (.lit 6 1 zL0 [(0, .t 53)]) (rg 2 16),
 ob 55 (.append 6 96 (.t 39) (.t 54)) (rg 0 17),
 ob 56 (.faddr 4 (.t 3)) (rg 0 18),
 ⟨none, none, .store 1 (.t 56) (.t 55), (rg 0 19)⟩] true))
 (.reg [oM 36 5,
 oA 37 36,
 oM 5 37] false))
def Qlp : List Nat := [100018, 1, 2, 3, 4]
def Q1bt : IR :=
 .seq (.seq (.reg [oM 13 4,
 oF 14 3 1,
 oK 15 1 14,
 oN 16 15,
 o 17 (.bin .lss (.t 13) (.t 16))] false)
 (.cond (.t 17) (.skip)
 (.exit 0)))
 (.seq (.block 1 (.reg [oF 20 3 3,
 oE 21 1 20 [0],
 oF 22 3 1,
 oE 23 1 22 [2],
 oM 24 4,
 ob 25 (.iaddr 5 (.t 23) (.t 24)) [2, 3, 4],
 ob 26 (.load 5 true (.t 25)) [2, 3, 4, 5],
 oD 27 36 ([.t 26]) (rg 2 7),
 ob 28 (.lit 5 1 zL1 [(0, .t 27)]) (rg 2 8),
 ob 29 (.append 5 80 (.t 21) (.t 28)) (rg 0 9),
 ob 30 (.faddr 3 (.t 3)) (rg 0 10),
 ⟨none, none, .store 1 (.t 30) (.t 29), (rg 0 11)⟩] true))
 (.reg [oM 18 4,
 oA 19 18,
 oM 4 19] false))
def Kj_c : IR :=
 .seq (.reg [o 1 (.box 5 (.t 0)),
 o 2 (.zero zL1)] false)
 (.seq (.reg [oF 6 0 1,
 oK 7 1 6,
 oF 8 1 1,
 oK 9 1 8,
 oF 10 2 1,
 oK 11 1 10,
 o 12 (.build zL1 [(0, 1, .t 7), (1, 1, .t 9), (2, 1, .t 11)]),
 o 3 (.zero zL1),
 oS 5 3 12] false)
 (.seq (.seq (.reg [o 4 (.mov (.c zI))] false)
 (.block 0 (.loop Qlp Q1bt)))
 (.seq (.seq (.reg [o 5 (.mov (.c zI))] false)
 (.block 2 (.loop Ql8 Q1ah)))
 (.seq (.reg [oL 57 5 3,
 oS 5 2 57] false)
 (.ret)))))
def Kj : IFn := ⟨1, 58, [.cell 2 5 true], false, Kj_c⟩
def Qex : List Nat := [100021, 1, 2, 6]
def Q17i : IR :=
 .seq (.seq (.reg [oM 31 6,
 oF 32 4 2,
 oK 33 1 32,
 oN 34 33,
 o 35 (.bin .lss (.t 31) (.t 34)),
 oM 36 35,
 gT 37 36 (.mov (.t 1)),
 gT 38 36 (.bin .geq (.t 37) (.c zI)),
 oP 39 36 38] false)
 (.cond (.t 39) (.skip)
 (.exit 2)))
 (.seq (.block 3 (.reg [oF 42 4 2,
 oE 43 1 42 [0],
 oM 44 6,
 ob 45 (.iaddr 6 (.t 43) (.t 44)) [0, 1, 2],
 ob 46 (.faddr 1 (.t 45)) [0, 1, 2, 3],
 ob 47 (.load 5 true (.t 46)) (rg 0 5),
 oM 48 1,
 oF 49 4 2,
 oE 50 1 49 [7],
 oM 51 6,
 ob 52 (.iaddr 6 (.t 50) (.t 51)) [7, 8, 9],
 ob 53 (.faddr 0 (.t 52)) [7, 8, 9, 10],
 oE 54 1 53 (rg 7 12),
 ob 55 (.len true (.t 54)) (rg 7 13),
 ob 56 (.bin .sub (.t 48) (.t 55)) (rg 6 14),
 oD 57 37 ([.t 47, .t 56]) (rg 0 15),
 ob 1 (.mov (.t 57)) (rg 0 16)] true))
 (.reg [oM 40 6,
 oA 41 40,
 oM 6 41] false))
def Qes : List Nat := [100020, 1, 2, 5]
def Q173 : IR :=
 .seq (.seq (.reg [oM 13 5,
 oF 14 3 2,
 oK 15 1 14,
 oN 16 15,
 o 17 (.bin .lss (.t 13) (.t 16)),
 oM 18 17,
 gT 19 18 (.mov (.t 1)),
 gT 20 18 (.bin .geq (.t 19) (.c zI)),
 oP 21 18 20] false)
 (.cond (.t 21) (.skip)
 (.exit 0)))
 (.seq (.block 1 (.reg [oF 24 3 2,
 oK 25 1 24,
 oM 26 5,
 oI 27 5 25 26,
 oL 28 5 27,
 oM 29 1,
 oC 30 37 ([.t 28, .t 29]),
 oM 1 30] false))
 (.reg [oM 22 5,
 oA 23 22,
 oM 5 23] false))
def Q1do : IR :=
 .seq (.reg [o 2 (.box 5 (.t 0)),
 o 4 (.mov (.c zI))] false)
 (.seq (.reg [oM 7 1,
 o 8 (.bin .sub (.t 7) (.c (.int .i64 1))),
 oF 9 2 2,
 oK 10 1 9,
 o 11 (.len true (.t 10)),
 o 12 (.bin .sub (.t 8) (.t 11)),
 oM 1 12] false)
 (.seq (.seq (.reg [o 5 (.mov (.c zI))] false)
 (.block 0 (.loop Qes Q173)))
 (.seq (.seq (.reg [o 6 (.mov (.c zI))] false)
 (.block 2 (.loop Qex Q17i)))
 (.seq (.reg [oM 58 1,
 oM 4 58] false)
 (.ret)))))
def K10 : IFn := ⟨2, 59, [.tmp 4], false, Q1do⟩
def Qki : List Nat := [100023, 1, 2, 6]
def Q1a3 : IR :=
 .seq (.seq (.reg [oM 62 6,
 oF 63 4 2,
 oK 64 1 63,
 oN 65 64,
 o 66 (.bin .lss (.t 62) (.t 65))] false)
 (.cond (.t 66) (.skip)
 (.exit 2)))
 (.seq (.block 3 (.seq (.reg [oF 69 4 2,
 oE 70 1 69 [0],
 oM 71 6,
 ob 72 (.iaddr 6 (.t 70) (.t 71)) [0, 1, 2],
 ob 73 (.faddr 0 (.t 72)) [0, 1, 2, 3],
 oE 74 1 73 (rg 0 5),
 oD 75 52 ([.t 74]) (rg 0 6),
 ob 76 (.un .not (.t 75)) (rg 0 7),
 ob 77 (.mov (.t 76)) (rg 0 8),
 ⟨(some 78), (some (77, false)), .mov (.t 6), (rg 0 9)⟩,
 ⟨(some 79), (some (77, false)), .bin .gtr (.t 78) (.c zI), (rg 0 10)⟩,
 ⟨(some 80), (some (77, false)), .mov (.t 79), (rg 0 11)⟩,
 ⟨(some 81), (some (80, true)), .faddr 4 (.t 2), (rg 0 12)⟩,
 ⟨(some 82), (some (80, true)), .load 1 false (.t 81), (rg 0 13)⟩,
 ⟨(some 83), (some (80, true)), .mov (.t 6), (rg 0 12)⟩,
 ⟨(some 84), (some (80, true)), .iaddr 6 (.t 82) (.t 83), (rg 0 15)⟩,
 ⟨(some 85), (some (80, true)), .faddr 0 (.t 84), (rg 0 16)⟩,
 ⟨(some 86), (some (80, true)), .load 1 false (.t 85), (rg 0 17)⟩,
 ⟨(some 87), (some (80, true)), .faddr 4 (.t 2), (rg 0 12)⟩,
 ⟨(some 88), (some (80, true)), .load 1 false (.t 87), (rg 0 12 ++ [18])⟩,
 ⟨(some 89), (some (80, true)), .mov (.t 6), (rg 0 12)⟩,
 ⟨(some 90), (some (80, true)), .bin .sub (.t 89) (.c (.int .i64 1)), (rg 0 12 ++ [20])⟩,
 ⟨(some 91), (some (80, true)), .iaddr 6 (.t 88) (.t 90), (rg 0 12 ++ rg 18 22)⟩,
 ⟨(some 92), (some (80, true)), .faddr 0 (.t 91), (rg 0 12 ++ rg 18 23)⟩,
 ⟨(some 93), (some (80, true)), .load 1 false (.t 92), (rg 0 12 ++ rg 18 24)⟩,
 ⟨(some 94), (some (80, true)), .bin .leq (.t 86) (.t 93), (rg 0 25)⟩,
 ⟨(some 95), (some (77, false)), .pick (.t 80) (.t 94) (.c zB), (rg 0 26)⟩,
 ob 96 (.pick (.t 77) (.c (.bool true)) (.t 95)) (rg 0 27),
 ob 97 (.mov (.t 96)) (rg 0 28),
 ⟨(some 98), (some (97, false)), .faddr 4 (.t 2), (rg 0 29)⟩,
 ⟨(some 99), (some (97, false)), .load 1 false (.t 98), (rg 0 30)⟩,
 ⟨(some 100), (some (97, false)), .mov (.t 6), (rg 0 29)⟩,
 ⟨(some 101), (some (97, false)), .iaddr 6 (.t 99) (.t 100), (rg 0 32)⟩,
 ⟨(some 102), (some (97, false)), .faddr 1 (.t 101), (rg 0 33)⟩,
 ⟨(some 103), (some (97, false)), .load 5 true (.t 102), (rg 0 34)⟩,
 ⟨(some 104), (some (97, false)), .mov (.t 1), (rg 0 29)⟩,
 ⟨(some 105), (some (97, false)), .bin .sub (.t 104) (.c (.int .i64 1)), (rg 0 29 ++ [35])⟩,
 ⟨(some 106), (some (97, false)), .call false (.f 38) [.t 103, .t 105], (rg 0 37)⟩,
 ⟨(some 107), (some (97, false)), .un .not (.t 106), (rg 0 38)⟩,
 ob 108 (.pick (.t 97) (.c (.bool true)) (.t 107)) (rg 0 39)] true)
 (.cond (.t 108) (.seq (.reg [o 4 (.mov (.c zB))] false)
 (.ret))
 (.skip))))
 (.reg [oM 67 6,
 oA 68 67,
 oM 6 68] false))
def Qi2 : List Nat := [100022, 1, 2, 5]
def Q19w : IR :=
 .seq (.seq (.reg [oM 46 5,
 oF 47 3 2,
 oK 48 1 47,
 oN 49 48,
 o 50 (.bin .lss (.t 46) (.t 49))] false)
 (.cond (.t 50) (.skip)
 (.exit 0)))
 (.seq (.block 1 (.seq (.reg [oF 53 3 2,
 oK 54 1 53,
 oM 55 5,
 oI 56 5 54 55,
 oL 57 5 56,
 oM 58 1,
 o 59 (.bin .sub (.t 58) (.c (.int .i64 1))),
 oC 60 38 ([.t 57, .t 59]),
 oU 61 60] false)
 (.cond (.t 61) (.seq (.reg [o 4 (.mov (.c zB))] false)
 (.ret))
 (.skip))))
 (.reg [oM 51 5,
 oA 52 51,
 oM 5 52] false))
def Kx_c : IR :=
 .seq (.reg [o 2 (.box 5 (.t 0)),
 o 4 (.mov (.c zB))] false)
 (.seq (.seq (.reg [oM 7 1,
 o 8 (.bin .eql (.t 7) (.c zI)),
 oM 9 8,
 gF 10 9 (.load 5 true (.t 2)),
 gF 11 9 (.call false (.f 51) [.t 10]),
 gF 12 9 (.un .not (.t 11)),
 oQ 13 9 12,
 oM 14 13,
 gF 15 14 (.faddr 3 (.t 2)),
 gF 16 14 (.load 1 false (.t 15)),
 gF 17 14 (.len false (.t 16)),
 gF 18 14 (.bin .gtr (.t 17) (.c (.int .i64 64))),
 oQ 19 14 18,
 oM 20 19,
 gF 21 20 (.faddr 4 (.t 2)),
 gF 22 20 (.load 1 false (.t 21)),
 gF 23 20 (.len false (.t 22)),
 gF 24 20 (.bin .gtr (.t 23) (.c (.int .i64 64))),
 oQ 25 20 24] false)
 (.cond (.t 25) (.seq (.reg [o 4 (.mov (.c zB))] false)
 (.ret))
 (.skip)))
 (.seq (.seq (.reg [oF 26 0 2,
 oK 27 1 26,
 o 28 (.bin .neq (.t 27) (.c (.int .i64 4))),
 oM 29 28,
 gT 30 29 (.faddr 3 (.t 2)),
 gT 31 29 (.load 1 false (.t 30)),
 gT 32 29 (.len false (.t 31)),
 gT 33 29 (.bin .gtr (.t 32) (.c zI)),
 oP 34 29 33,
 oM 35 34,
 gF 36 35 (.faddr 0 (.t 2)),
 gF 37 35 (.load 1 false (.t 36)),
 gF 38 35 (.bin .neq (.t 37) (.c (.int .i64 5))),
 gF 39 35 (.mov (.t 38)),
 gT 40 39 (.faddr 4 (.t 2)),
 gT 41 39 (.load 1 false (.t 40)),
 gT 42 39 (.len false (.t 41)),
 gT 43 39 (.bin .gtr (.t 42) (.c zI)),
 gF 44 35 (.pick (.t 39) (.t 43) (.c zB)),
 oQ 45 35 44] false)
 (.cond (.t 45) (.seq (.reg [o 4 (.mov (.c zB))] false)
 (.ret))
 (.skip)))
 (.seq (.seq (.reg [o 5 (.mov (.c zI))] false)
 (.block 0 (.loop Qi2 Q19w)))
 (.seq (.seq (.reg [o 6 (.mov (.c zI))] false)
 (.block 2 (.loop Qki Q1a3)))
 (.seq (.reg [o 4 (.mov (.c (.bool true)))] false)
 (.ret))))))
def Kx : IFn := ⟨2, 109, [.tmp 4], false, Kx_c⟩
def Qjv : List Nat := [100025, 1, 3, 5]
def Q19u : IR :=
 .seq (.seq (.reg [oM 21 5,
 oF 22 4 1,
 oK 23 1 22,
 oN 24 23,
 o 25 (.bin .lss (.t 21) (.t 24))] false)
 (.cond (.t 25) (.skip)
 (.exit 2)))
 (.seq (.block 3 (.reg [oM 28 3,
 oF 29 4 1,
 oK 30 1 29,
 oM 31 5,
 oI 32 6 30 31,
 oF 33 1 32,
 oL 34 5 33,
 oC 35 39 ([.t 34]),
 o 36 (.bin .add (.t 28) (.t 35)),
 oM 3 36] false))
 (.reg [oM 26 5,
 oA 27 26,
 oM 5 27] false))
def Qlb : List Nat := [100024, 1, 3, 4]
def Q1br : IR :=
 .seq (.seq (.reg [oM 6 4,
 oF 7 3 1,
 oK 8 1 7,
 oN 9 8,
 o 10 (.bin .lss (.t 6) (.t 9))] false)
 (.cond (.t 10) (.skip)
 (.exit 0)))
 (.seq (.block 1 (.reg [oM 13 3,
 oF 14 3 1,
 oK 15 1 14,
 oM 16 4,
 oI 17 5 15 16,
 oL 18 5 17,
 oC 19 39 ([.t 18]),
 o 20 (.bin .add (.t 13) (.t 19)),
 oM 3 20] false))
 (.reg [oM 11 4,
 oA 12 11,
 oM 4 12] false))
def Kn_c : IR :=
 .seq (.reg [o 1 (.box 5 (.t 0)),
 o 2 (.mov (.c zI))] false)
 (.seq (.reg [o 3 (.mov (.c (.int .i64 1)))] false)
 (.seq (.seq (.reg [o 4 (.mov (.c zI))] false)
 (.block 0 (.loop Qlb Q1br)))
 (.seq (.seq (.reg [o 5 (.mov (.c zI))] false)
 (.block 2 (.loop Qjv Q19u)))
 (.seq (.reg [oM 37 3,
 oM 2 37] false)
 (.ret)))))
def Kn : IFn := ⟨1, 38, [.tmp 2], false, Kn_c⟩
def Q1ds : IR :=
 .seq (.reg [o 2 (.zero zL1)] false)
 (.seq (.reg [oM 3 0,
 o 4 (.build zL1 [(0, 1, .c (.int .i64 4)), (3, 1, .t 3)]),
 oC 5 45 ([.t 4]),
 oS 5 2 5] false)
 (.ret))
def K1l : IFn := ⟨1, 6, [.cell 2 5 true], false, Q1ds⟩
def Q1c4 : IR :=
 .reg [oM 4 0,
 oM 5 0,
 oN 6 5,
 oM 7 1,
 o 8 (.call true (.f 53) [.t 4, .t 6, .t 7])] false
def K1a : IFn := ⟨2, 9, [], false, Q1c4⟩
def Q1cs : IR :=
 .seq (.reg [o 2 (.box 6 (.t 0)),
 o 3 (.box 6 (.t 1)),
 o 4 (.mov (.c zI))] false)
 (.seq (.reg [oF 5 0 2,
 oK 6 1 5,
 oF 7 0 3,
 oK 8 1 7,
 oC 9 44 ([.t 6, .t 8]),
 oM 4 9] false)
 (.ret))
def K1n : IFn := ⟨2, 10, [.tmp 4], false, Q1cs⟩
def Q1d4 : IR :=
 .seq (.reg [o 4 (.mov (.c zI))] false)
 (.seq (.reg [oM 5 0,
 oM 6 1,
 oC 7 54 ([.t 5, .t 6]),
 oM 4 7] false)
 (.ret))
def K1g : IFn := ⟨2, 8, [.tmp 4], false, Q1d4⟩
def Qe7 : List Nat := [100027, 1, 2, 31, 32, 33]
def Q17n : IR :=
 .seq (.reg [o 34 (.bin .lss (.t 33) (.t 32))] false)
 (.seq (.cond (.t 34) (.skip)
 (.exit 2))
 (.seq (.block 3 (.seq (.reg [oM 35 33,
 oI 36 6 31 33,
 oL 37 6 36,
 o 6 (.zero zL0),
 oM 5 35,
 oS 6 6 37] false)
 (.reg [oF 38 4 1,
 oE 39 1 38 [0],
 oM 40 5,
 oF 41 1 6,
 ob 42 (.load 5 true (.t 41)) [3],
 oD 43 45 ([.t 42]) [3, 4],
 ob 44 (.iaddr 6 (.t 39) (.t 40)) (rg 0 6),
 ob 45 (.faddr 1 (.t 44)) (rg 0 7),
 ⟨none, none, .store 5 (.t 45) (.t 43), (rg 0 8)⟩] true)))
 (.reg [oA 46 33,
 oM 33 46] false)))
def Qgn : List Nat := [100026, 1, 2, 12, 13, 14]
def Q17o : IR :=
 .seq (.reg [o 15 (.bin .lss (.t 14) (.t 13))] false)
 (.seq (.cond (.t 15) (.skip)
 (.exit 0))
 (.seq (.block 1 (.seq (.reg [oM 16 14,
 oI 17 5 12 14,
 oL 18 5 17,
 o 4 (.zero zL1),
 oM 3 16,
 oS 5 4 18] false)
 (.reg [oF 19 3 1,
 oE 20 1 19 [0],
 oM 21 3,
 oL 22 5 4,
 oD 23 45 ([.t 22]) [3],
 ob 24 (.iaddr 5 (.t 20) (.t 21)) (rg 0 5),
 ⟨none, none, .store 5 (.t 24) (.t 23), (rg 0 6)⟩] true)))
 (.reg [oA 25 14,
 oM 14 25] false)))
def Q1dp : IR :=
 .seq (.reg [o 1 (.box 5 (.t 0)),
 o 2 (.zero zL1)] false)
 (.seq (.reg [oF 7 3 1,
 oK 8 1 7,
 oC 9 55 ([.t 8]),
 oF 10 3 1,
 oS 1 10 9] false)
 (.seq (.seq (.reg [oF 11 3 1,
 oK 12 1 11,
 oN 13 12,
 o 14 (.mov (.c zI))] false)
 (.block 0 (.loop Qgn Q17o)))
 (.seq (.reg [oF 26 4 1,
 oK 27 1 26,
 oC 28 41 ([.t 27]),
 oF 29 4 1,
 oS 1 29 28] false)
 (.seq (.seq (.reg [oF 30 4 1,
 oK 31 1 30,
 oN 32 31,
 o 33 (.mov (.c zI))] false)
 (.block 2 (.loop Qe7 Q17n)))
 (.seq (.reg [oL 47 5 1,
 oS 5 2 47] false)
 (.ret))))))
def K1r : IFn := ⟨1, 48, [.cell 2 5 true], false, Q1dp⟩
def Q1ca : IR :=
 .seq (.reg [o 2 (.box 5 (.t 0)),
 o 3 (.box 1 (.t 1)),
 o 4 (.mov (.c (.ns 6)))] false)
 (.seq (.seq (.reg [oF 5 0 2,
 oK 6 1 5,
 o 7 (.bin .neq (.t 6) (.c (.int .i64 5)))] false)
 (.cond (.t 7) (.seq (.reg [o 4 (.mov (.c (.ns 6)))] false)
 (.ret))
 (.skip)))
 (.seq (.reg [oF 8 4 2,
 oK 9 1 8,
 oC 10 41 ([.t 9]),
 o 11 (.mkfn 57 [] [.t 3]),
 o 12 (.call true (.f 56) [.t 10, .t 11]),
 oM 4 12] false)
 (.ret)))
def K1s : IFn := ⟨2, 13, [.tmp 4], true, Q1ca⟩
def Qj8 : List Nat := [100028, 0, 2, 3, 4, 200001]
def Q1ay : IR :=
 .seq (.seq (.reg [oM 6 4,
 oM 7 0,
 oN 8 7,
 o 9 (.bin .lss (.t 6) (.t 8))] false)
 (.cond (.t 9) (.skip)
 (.exit 0)))
 (.seq (.block 1 (.reg [oF 12 4 3,
 oE 13 1 12 [0],
 oM 14 0,
 oM 15 4,
 ob 16 (.iaddr 6 (.t 14) (.t 15)) [2, 3],
 ob 17 (.faddr 0 (.t 16)) [2, 3, 4],
 oE 18 1 17 [2, 3, 4, 5],
 oM 19 0,
 oM 20 4,
 ob 21 (.iaddr 6 (.t 19) (.t 20)) [7, 8],
 ob 22 (.faddr 1 (.t 21)) [7, 8, 9],
 ob 23 (.load 5 true (.t 22)) [7, 8, 9, 10],
 oD 24 36 ([.t 23]) (rg 7 12),
 ob 25 (.build zL0 [(0, 1, .t 18), (1, 5, .t 24)]) (rg 2 13),
 oD 26 58 ([.t 13, .t 25]) (rg 0 14),
 ob 27 (.faddr 4 (.t 3)) (rg 0 15),
 ⟨none, none, .store 1 (.t 27) (.t 26), (rg 0 16)⟩] true))
 (.reg [oM 10 4,
 oA 11 10,
 oM 4 11] false))
def Km_c : IR :=
 .seq (.reg [o 2 (.zero zL1)] false)
 (.seq (.reg [o 5 (.build zL1 [(0, 1, .c (.int .i64 5))]),
 o 3 (.zero zL1),
 oS 5 3 5] false)
 (.seq (.seq (.reg [o 4 (.mov (.c zI))] false)
 (.block 0 (.loop Qj8 Q1ay)))
 (.seq (.reg [oL 28 5 3,
 oS 5 2 28] false)
 (.ret))))
def Km : IFn := ⟨1, 29, [.cell 2 5 true], false, Km_c⟩
def Qk0 : List Nat := [100029, 1, 2, 5, 6]
def Q1av : IR :=
 .seq (.seq (.reg [oM 7 6,
 oF 8 4 2,
 oK 9 1 8,
 oN 10 9,
 o 11 (.bin .lss (.t 7) (.t 10)),
 oM 12 11,
 gT 13 12 (.faddr 0 (.t 2)),
 gT 14 12 (.load 1 false (.t 13)),
 gT 15 12 (.bin .eql (.t 14) (.c (.int .i64 5))),
 oP 16 12 15] false)
 (.cond (.t 16) (.skip)
 (.exit 0)))
 (.seq (.block 1 (.seq (.reg [oF 19 4 2,
 oK 20 1 19,
 oM 21 6,
 oI 22 6 20 21,
 oF 23 0 22,
 oK 24 1 23,
 oM 25 1,
 o 26 (.bin .neq (.t 24) (.t 25))] false)
 (.cond (.t 26) (.reg [oM 27 5,
 oF 28 4 2,
 oK 29 1 28,
 oM 30 6,
 oI 31 6 29 30,
 oL 32 6 31,
 o 33 (.lit 6 1 zL0 [(0, .t 32)]),
 oJ 34 6 96 27 33,
 oM 5 34] false)
 (.skip))))
 (.reg [oM 17 6,
 oA 18 17,
 oM 6 18] false))
def Ku_c : IR :=
 .seq (.reg [o 2 (.box 5 (.t 0)),
 o 4 (.mov (.c (.ns 6)))] false)
 (.seq (.reg [o 5 (.mov (.c (.ns 6)))] false)
 (.seq (.seq (.reg [o 6 (.mov (.c zI))] false)
 (.block 0 (.loop Qk0 Q1av)))
 (.seq (.reg [oM 35 5,
 oM 4 35] false)
 (.ret))))
def Ku : IFn := ⟨2, 36, [.tmp 4], true, Ku_c⟩
def Q1cg : IR :=
 .seq (.reg [o 2 (.box 5 (.t 0)),
 o 3 (.box 5 (.t 1)),
 o 4 (.mov (.c zI))] false)
 (.seq (.reg [oF 5 0 2,
 oE 6 1 5 [0],
 oF 7 0 3,
 oE 8 1 7 [2],
 oD 9 60 ([.t 6, .t 8]) [0, 1, 2, 3],
 oF 10 1 2,
 oE 11 1 10 [5],
 oF 12 1 3,
 oE 13 1 12 [7],
 oD 14 60 ([.t 11, .t 13]) (rg 0 9),
 oF 15 2 2,
 oE 16 1 15 [10],
 oF 17 2 3,
 oE 18 1 17 [12],
 oD 19 44 ([.t 16, .t 18]) (rg 0 14),
 oF 20 3 2,
 oE 21 1 20 [15],
 oF 22 3 3,
 oE 23 1 22 [17],
 oD 24 61 ([.t 21, .t 23, .f 49]) (rg 0 19),
 oF 25 4 2,
 oE 26 1 25 [20],
 oF 27 4 3,
 oE 28 1 27 [22],
 oD 29 62 ([.t 26, .t 28, .f 63]) (rg 0 24),
 ob 30 (.lit 1 5 [zI] [(0, .t 9), (1, .t 14), (2, .t 19), (3, .t 24), (4, .t 29)]) (rg 0 25),
 oD 31 59 ([.t 30]) (rg 0 26),
 ob 4 (.mov (.t 31)) (rg 0 27)] true)
 (.ret))
def K1h : IFn := ⟨2, 32, [.tmp 4], false, Q1cg⟩
def Qjq : List Nat := [100031, 2, 3, 5, 7]
def Q1bg : IR :=
 .seq (.seq (.reg [oM 91 7,
 oF 92 4 2,
 oK 93 1 92,
 oN 94 93,
 o 95 (.bin .lss (.t 91) (.t 94)),
 oM 96 95,
 gT 97 96 (.mov (.t 7)),
 gT 98 96 (.faddr 4 (.t 3)),
 gT 99 96 (.load 1 false (.t 98)),
 gT 100 96 (.len false (.t 99)),
 gT 101 96 (.bin .lss (.t 97) (.t 100)),
 oP 102 96 101,
 oM 103 102,
 gT 104 103 (.mov (.t 5)),
 gT 105 103 (.bin .eql (.t 104) (.c zI)),
 oP 106 103 105] false)
 (.cond (.t 106) (.skip)
 (.exit 2)))
 (.seq (.block 3 (.seq (.reg [oF 109 4 2,
 oE 110 1 109 [0],
 oM 111 7,
 ob 112 (.iaddr 6 (.t 110) (.t 111)) [0, 1, 2],
 ob 113 (.faddr 0 (.t 112)) [0, 1, 2, 3],
 oE 114 1 113 (rg 0 5),
 oF 115 4 3,
 oE 116 1 115 [6],
 oM 117 7,
 ob 118 (.iaddr 6 (.t 116) (.t 117)) [6, 7, 8],
 ob 119 (.faddr 0 (.t 118)) [6, 7, 8, 9],
 oE 120 1 119 (rg 6 11),
 ob 121 (.bin .lss (.t 114) (.t 120)) (rg 0 12),
 oF 122 4 2,
 oE 123 1 122 [13],
 oM 124 7,
 ob 125 (.iaddr 6 (.t 123) (.t 124)) [13, 14, 15],
 ob 126 (.faddr 0 (.t 125)) [13, 14, 15, 16],
 oE 127 1 126 (rg 13 18),
 oF 128 4 3,
 oE 129 1 128 [19],
 oM 130 7,
 ob 131 (.iaddr 6 (.t 129) (.t 130)) [19, 20, 21],
 ob 132 (.faddr 0 (.t 131)) [19, 20, 21, 22],
 oE 133 1 132 (rg 19 24),
 ob 134 (.bin .gtr (.t 127) (.t 133)) (rg 13 25),
 oD 135 64 ([.t 121, .t 134]) (rg 0 26),
 ob 5 (.mov (.t 135)) (rg 0 27)] true)
 (.seq (.reg [oM 136 5,
 o 137 (.bin .eql (.t 136) (.c zI))] false)
 (.cond (.t 137) (.reg [oF 138 4 2,
 oE 139 1 138 [0],
 oM 140 7,
 ob 141 (.iaddr 6 (.t 139) (.t 140)) [0, 1, 2],
 ob 142 (.faddr 1 (.t 141)) [0, 1, 2, 3],
 ob 143 (.load 5 true (.t 142)) (rg 0 5),
 oF 144 4 3,
 oE 145 1 144 [6],
 oM 146 7,
 ob 147 (.iaddr 6 (.t 145) (.t 146)) [6, 7, 8],
 ob 148 (.faddr 1 (.t 147)) [6, 7, 8, 9],
 ob 149 (.load 5 true (.t 148)) (rg 6 11),
 oD 150 50 ([.t 143, .t 149]) (rg 0 12),
 ob 5 (.mov (.t 150)) (rg 0 13)] true)
 (.skip)))))
 (.reg [oM 107 7,
 oA 108 107,
 oM 7 108] false))
def Qi9 : List Nat := [100030, 2, 3, 5, 6]
def Q1af : IR :=
 .seq (.seq (.reg [oM 45 6,
 oF 46 3 2,
 oK 47 1 46,
 oN 48 47,
 o 49 (.bin .lss (.t 45) (.t 48)),
 oM 50 49,
 gT 51 50 (.mov (.t 6)),
 gT 52 50 (.faddr 3 (.t 3)),
 gT 53 50 (.load 1 false (.t 52)),
 gT 54 50 (.len false (.t 53)),
 gT 55 50 (.bin .lss (.t 51) (.t 54)),
 oP 56 50 55,
 oM 57 56,
 gT 58 57 (.mov (.t 5)),
 gT 59 57 (.bin .eql (.t 58) (.c zI)),
 oP 60 57 59] false)
 (.cond (.t 60) (.skip)
 (.exit 0)))
 (.seq (.block 1 (.reg [oF 63 3 2,
 oE 64 1 63 [0],
 oM 65 6,
 ob 66 (.iaddr 5 (.t 64) (.t 65)) [0, 1, 2],
 ob 67 (.load 5 true (.t 66)) [0, 1, 2, 3],
 oF 68 3 3,
 oE 69 1 68 [5],
 oM 70 6,
 ob 71 (.iaddr 5 (.t 69) (.t 70)) [5, 6, 7],
 ob 72 (.load 5 true (.t 71)) [5, 6, 7, 8],
 oD 73 50 ([.t 67, .t 72]) (rg 0 10),
 ob 5 (.mov (.t 73)) (rg 0 11)] true))
 (.reg [oM 61 6,
 oA 62 61,
 oM 6 62] false))
def Ki_c : IR :=
 .seq (.reg [o 2 (.box 5 (.t 0)),
 o 3 (.box 5 (.t 1)),
 o 4 (.mov (.c zI))] false)
 (.seq (.reg [oF 8 0 2,
 oK 9 1 8,
 oF 10 0 3,
 oK 11 1 10,
 o 12 (.bin .lss (.t 9) (.t 11)),
 oF 13 0 2,
 oK 14 1 13,
 oF 15 0 3,
 oK 16 1 15,
 o 17 (.bin .gtr (.t 14) (.t 16)),
 oC 18 64 ([.t 12, .t 17]),
 oM 5 18] false)
 (.seq (.seq (.reg [oM 19 5,
 o 20 (.bin .eql (.t 19) (.c zI))] false)
 (.cond (.t 20) (.reg [oF 21 1 2,
 oK 22 1 21,
 oF 23 1 3,
 oK 24 1 23,
 o 25 (.bin .lss (.t 22) (.t 24)),
 oF 26 1 2,
 oK 27 1 26,
 oF 28 1 3,
 oK 29 1 28,
 o 30 (.bin .gtr (.t 27) (.t 29)),
 oC 31 64 ([.t 25, .t 30]),
 oM 5 31] false)
 (.skip)))
 (.seq (.seq (.reg [oM 32 5,
 o 33 (.bin .eql (.t 32) (.c zI))] false)
 (.cond (.t 33) (.reg [oF 34 2 2,
 oK 35 1 34,
 oF 36 2 3,
 oK 37 1 36,
 o 38 (.bin .lss (.t 35) (.t 37)),
 oF 39 2 2,
 oK 40 1 39,
 oF 41 2 3,
 oK 42 1 41,
 o 43 (.bin .gtr (.t 40) (.t 42)),
 oC 44 64 ([.t 38, .t 43]),
 oM 5 44] false)
 (.skip)))
 (.seq (.seq (.reg [o 6 (.mov (.c zI))] false)
 (.block 0 (.loop Qi9 Q1af)))
 (.seq (.seq (.reg [oM 74 5,
 o 75 (.bin .eql (.t 74) (.c zI))] false)
 (.cond (.t 75) (.reg [oF 76 3 2,
 oK 77 1 76,
 oN 78 77,
 oF 79 3 3,
 oK 80 1 79,
 oN 81 80,
 o 82 (.bin .lss (.t 78) (.t 81)),
 oF 83 3 2,
 oK 84 1 83,
 oN 85 84,
 oF 86 3 3,
 oK 87 1 86,
 oN 88 87,
 o 89 (.bin .gtr (.t 85) (.t 88)),
 oC 90 64 ([.t 82, .t 89]),
 oM 5 90] false)
 (.skip)))
 (.seq (.seq (.reg [o 7 (.mov (.c zI))] false)
 (.block 2 (.loop Qjq Q1bg)))
 (.seq (.seq (.reg [oM 151 5,
 o 152 (.bin .eql (.t 151) (.c zI))] false)
 (.cond (.t 152) (.reg [oF 153 4 2,
 oK 154 1 153,
 oN 155 154,
 oF 156 4 3,
 oK 157 1 156,
 oN 158 157,
 o 159 (.bin .lss (.t 155) (.t 158)),
 oF 160 4 2,
 oK 161 1 160,
 oN 162 161,
 oF 163 4 3,
 oK 164 1 163,
 oN 165 164,
 o 166 (.bin .gtr (.t 162) (.t 165)),
 oC 167 64 ([.t 159, .t 166]),
 oM 5 167] false)
 (.skip)))
 (.seq (.reg [oM 168 5,
 oM 4 168] false)
 (.ret)))))))))
def Ki : IFn := ⟨2, 169, [.tmp 4], false, Ki_c⟩
def Kw_c : IR :=
 .seq (.reg [o 1 (.box 5 (.t 0)),
 o 2 (.mov (.c zB))] false)
 (.seq (.seq (.reg [oF 3 0 1,
 oK 4 1 3] false)
 (.block 0 (.seq (.reg [o 6 (.bin .eql (.t 4) (.c (.int .i64 1))),
 oM 5 6] false)
 (.cond (.t 5) (.seq (.reg [oF 7 1 1,
 oK 8 1 7,
 o 9 (.bin .eql (.t 8) (.c zI)),
 oM 10 9,
 gF 11 10 (.faddr 1 (.t 1)),
 gF 12 10 (.load 1 false (.t 11)),
 gF 13 10 (.bin .eql (.t 12) (.c (.int .i64 1))),
 oQ 14 10 13,
 oM 15 14,
 gT 16 15 (.faddr 2 (.t 1)),
 gT 17 15 (.load 1 false (.t 16)),
 gT 18 15 (.bin .eql (.t 17) (.c (zS))),
 oP 19 15 18,
 oM 2 19] false)
 (.ret))
 (.seq (.reg [o 21 (.bin .eql (.t 4) (.c (.int .i64 2))),
 oM 20 21] false)
 (.cond (.t 20) (.seq (.reg [oF 22 1 1,
 oK 23 1 22,
 o 24 (.bin .geq (.t 23) (.c (.int .i64 (-1000000000000000)))),
 oM 25 24,
 gT 26 25 (.faddr 1 (.t 1)),
 gT 27 25 (.load 1 false (.t 26)),
 gT 28 25 (.bin .leq (.t 27) (.c (.int .i64 1000000000000000))),
 oP 29 25 28,
 oM 30 29,
 gT 31 30 (.faddr 2 (.t 1)),
 gT 32 30 (.load 1 false (.t 31)),
 gT 33 30 (.bin .eql (.t 32) (.c (zS))),
 oP 34 30 33,
 oM 2 34] false)
 (.ret))
 (.seq (.reg [o 36 (.bin .eql (.t 4) (.c (.int .i64 3))),
 oM 35 36] false)
 (.cond (.t 35) (.seq (.reg [oF 37 1 1,
 oK 38 1 37,
 o 39 (.bin .eql (.t 38) (.c zI)),
 oM 40 39,
 gT 41 40 (.faddr 2 (.t 1)),
 gT 42 40 (.load 1 false (.t 41)),
 gT 43 40 (.call false (.f 65) [.t 42]),
 oP 44 40 43,
 oM 2 44] false)
 (.ret))
 (.seq (.seq (.reg [o 46 (.bin .eql (.t 4) (.c zI)),
 oM 45 46] false)
 (.cond (.t 45) (.skip)
 (.seq (.reg [o 47 (.bin .eql (.t 4) (.c (.int .i64 4))),
 oM 45 47] false)
 (.cond (.t 45) (.skip)
 (.reg [o 48 (.bin .eql (.t 4) (.c (.int .i64 5))),
 oM 45 48] false)))))
 (.cond (.t 45) (.seq (.reg [oF 49 1 1,
 oK 50 1 49,
 o 51 (.bin .eql (.t 50) (.c zI)),
 oM 52 51,
 gT 53 52 (.faddr 2 (.t 1)),
 gT 54 52 (.load 1 false (.t 53)),
 gT 55 52 (.bin .eql (.t 54) (.c (zS))),
 oP 56 52 55,
 oM 2 56] false)
 (.ret))
 (.skip)))))))))))
 (.seq (.reg [o 2 (.mov (.c zB))] false)
 (.ret)))
def Kw : IFn := ⟨1, 57, [.tmp 2], false, Kw_c⟩
def Qj1 : List Nat := [100032, 0, 3]
def Q1b8 : IR :=
 .seq (.seq (.reg [oM 6 3,
 oM 7 0,
 o 8 (.len true (.t 7)),
 o 9 (.bin .lss (.t 6) (.t 8))] false)
 (.cond (.t 9) (.skip)
 (.exit 0)))
 (.seq (.block 1 (.seq (.reg [oM 12 0,
 oM 13 3,
 o 14 (.index (.t 12) (.t 13)),
 oM 4 14] false)
 (.seq (.reg [oM 15 4,
 o 16 (.bin .geq (.t 15) (.c (.int .u8 97))),
 oM 17 16,
 gT 18 17 (.mov (.t 4)),
 gT 19 17 (.bin .leq (.t 18) (.c (.int .u8 122))),
 oP 20 17 19,
 oM 21 20,
 gF 22 21 (.mov (.t 4)),
 gF 23 21 (.bin .geq (.t 22) (.c (.int .u8 65))),
 gF 24 21 (.mov (.t 23)),
 gT 25 24 (.mov (.t 4)),
 gT 26 24 (.bin .leq (.t 25) (.c (.int .u8 90))),
 gF 27 21 (.pick (.t 24) (.t 26) (.c zB)),
 oQ 28 21 27,
 oM 5 28] false)
 (.seq (.reg [oM 29 5,
 oU 30 29,
 oM 31 30,
 gT 32 31 (.mov (.t 4)),
 gT 33 31 (.bin .geq (.t 32) (.c (.int .u8 48))),
 gT 34 31 (.mov (.t 33)),
 gT 35 34 (.mov (.t 4)),
 gT 36 34 (.bin .leq (.t 35) (.c (.int .u8 57))),
 gT 37 31 (.pick (.t 34) (.t 36) (.c zB)),
 gT 38 31 (.un .not (.t 37)),
 oP 39 31 38,
 oM 40 39,
 gT 41 40 (.mov (.t 4)),
 gT 42 40 (.bin .neq (.t 41) (.c (.int .u8 45))),
 oP 43 40 42,
 oM 44 43,
 gT 45 44 (.mov (.t 4)),
 gT 46 44 (.bin .neq (.t 45) (.c (.int .u8 95))),
 oP 47 44 46,
 oM 48 47,
 gT 49 48 (.mov (.t 4)),
 gT 50 48 (.bin .neq (.t 49) (.c (.int .u8 47))),
 oP 51 48 50] false)
 (.cond (.t 51) (.seq (.reg [o 2 (.mov (.c zB))] false)
 (.ret))
 (.skip))))))
 (.reg [oM 10 3,
 oA 11 10,
 oM 3 11] false))
def Kp_c : IR :=
 .seq (.reg [o 2 (.mov (.c zB))] false)
 (.seq (.seq (.reg [o 3 (.mov (.c zI))] false)
 (.block 0 (.loop Qj1 Q1b8)))
 (.seq (.reg [oM 52 0,
 o 53 (.len true (.t 52)),
 o 54 (.bin .geq (.t 53) (.c (.int .i64 1))),
 oM 55 54,
 gT 56 55 (.mov (.t 0)),
 gT 57 55 (.len true (.t 56)),
 gT 58 55 (.bin .leq (.t 57) (.c (.int .i64 40))),
 oP 59 55 58,
 oM 2 59] false)
 (.ret)))
def Kp : IFn := ⟨1, 60, [.tmp 2], false, Kp_c⟩
def Qfm : List Nat := [100035, 0, 1, 2, 6, 7, 8]
def Q172 : IR :=
 .seq (.seq (.reg [oM 33 8,
 oM 34 1,
 o 35 (.bin .leq (.t 33) (.t 34))] false)
 (.cond (.t 35) (.skip)
 (.exit 4)))
 (.block 5 (.seq (.reg [oM 36 0,
 oM 37 7,
 oM 38 7,
 oM 39 6,
 o 40 (.bin .add (.t 38) (.t 39)),
 oM 41 8,
 oM 42 2,
 o 43 (.call true (.f 67) [.t 36, .t 37, .t 40, .t 41, .t 42])] false)
 (.seq (.reg [oM 44 8,
 oM 7 44] false)
 (.reg [oM 45 8,
 oM 46 6,
 o 47 (.bin .mul (.c (.int .i64 2)) (.t 46)),
 o 48 (.bin .add (.t 45) (.t 47)),
 oM 8 48] false))))
def Qgq : List Nat := [100034, 0, 1, 2, 6]
def Q17k : IR :=
 .seq (.seq (.reg [oM 28 6,
 oM 29 1,
 o 30 (.bin .lss (.t 28) (.t 29))] false)
 (.cond (.t 30) (.skip)
 (.exit 2)))
 (.block 3 (.seq (.reg [oM 31 6,
 o 32 (.bin .mul (.c (.int .i64 2)) (.t 31)),
 o 7 (.mov (.c zI)),
 oM 8 32] false)
 (.seq (.block 4 (.loop Qfm Q172))
 (.seq (.seq (.reg [oM 49 7,
 oM 50 6,
 o 51 (.bin .add (.t 49) (.t 50)),
 oM 9 51] false)
 (.seq (.reg [oM 52 9,
 oM 53 1,
 o 54 (.bin .lss (.t 52) (.t 53))] false)
 (.cond (.t 54) (.reg [oM 55 0,
 oM 56 7,
 oM 57 9,
 oM 58 1,
 oM 59 2,
 o 60 (.call true (.f 67) [.t 55, .t 56, .t 57, .t 58, .t 59])] false)
 (.skip))))
 (.reg [oM 61 6,
 o 62 (.bin .mul (.t 61) (.c (.int .i64 2))),
 oM 6 62] false)))))
def Qgx : List Nat := [100033, 0, 1, 2, 6, 7, 8]
def Q17f : IR :=
 .seq (.seq (.reg [oM 11 8,
 oM 12 1,
 o 13 (.bin .leq (.t 11) (.t 12))] false)
 (.cond (.t 13) (.skip)
 (.exit 0)))
 (.block 1 (.seq (.reg [oM 14 0,
 oM 15 7,
 oM 16 8,
 oM 17 2,
 o 18 (.call true (.f 66) [.t 14, .t 15, .t 16, .t 17])] false)
 (.seq (.reg [oM 19 8,
 oM 7 19] false)
 (.reg [oM 20 8,
 oM 21 6,
 o 22 (.bin .add (.t 20) (.t 21)),
 oM 8 22] false))))
def Q1dj : IR :=
 .seq (.reg [o 6 (.mov (.c (.int .i64 20)))] false)
 (.seq (.reg [oM 10 6,
 o 7 (.mov (.c zI)),
 oM 8 10] false)
 (.seq (.block 0 (.loop Qgx Q17f))
 (.seq (.reg [oM 23 0,
 oM 24 7,
 oM 25 1,
 oM 26 2,
 o 27 (.call true (.f 66) [.t 23, .t 24, .t 25, .t 26])] false)
 (.block 2 (.loop Qgq Q17k)))))
def K1d : IFn := ⟨3, 63, [], false, Q1dj⟩
def Qel : List Nat := [100036, 0, 1, 5, 6]
def Q17l : IR :=
 .seq (.seq (.reg [oM 16 6,
 oM 17 0,
 oN 18 17,
 o 19 (.bin .lss (.t 16) (.t 18))] false)
 (.cond (.t 19) (.skip)
 (.exit 0)))
 (.seq (.block 1 (.seq (.reg [oM 22 0,
 oM 23 6,
 oI 24 6 22 23,
 oL 25 6 24,
 o 7 (.zero zL0),
 oS 6 7 25] false)
 (.seq (.reg [oM 26 1,
 oL 27 6 7,
 o 28 (.call false (.t 26) [.t 27]),
 oU 29 28] false)
 (.cond (.t 29) (.seq (.reg [oM 30 0,
 oM 31 5,
 oL 32 6 7,
 oI 33 6 30 31,
 oS 6 33 32] false)
 (.reg [oM 34 5,
 oA 35 34,
 oM 5 35] false))
 (.skip)))))
 (.reg [oM 20 6,
 oA 21 20,
 oM 6 21] false))
def Q1dr : IR :=
 .seq (.reg [o 4 (.mov (.c (.ns 6)))] false)
 (.seq (.reg [oM 8 0,
 oM 9 1,
 oC 10 69 ([.t 8, .t 9]),
 oM 5 10] false)
 (.seq (.seq (.reg [oM 11 5,
 o 12 (.bin .eql (.t 11) (.c (.int .i64 (-1))))] false)
 (.cond (.t 12) (.seq (.reg [oM 13 0,
 oM 4 13] false)
 (.ret))
 (.skip)))
 (.seq (.seq (.reg [oM 14 5,
 oA 15 14,
 oM 6 15] false)
 (.block 0 (.loop Qel Q17l)))
 (.seq (.reg [oM 36 0,
 oM 37 5,
 o 38 (.slice 6 (.t 36) (some (.t 37)) none none),
 ⟨none, none, .clear 6 zL0 (.t 38), []⟩] false)
 (.seq (.reg [oM 39 0,
 oM 40 5,
 o 41 (.slice 6 (.t 39) none (some (.t 40)) none),
 oM 4 41] false)
 (.ret))))))
def K18 : IFn := ⟨2, 42, [.tmp 4], true, Q1dr⟩
def Q1ct : IR :=
 .seq (.reg [o 2 (.box 6 (.t 0)),
 o 3 (.mov (.c zB))] false)
 (.seq (.reg [oF 4 0 2,
 oK 5 1 4,
 oK 6 1 1,
 o 7 (.bin .eql (.t 5) (.t 6)),
 oM 3 7] false)
 (.ret))
def K1t : IFn := ⟨2, 8, [.tmp 3], false, Q1ct⟩
def Qm3 : List Nat := [100037, 0, 3, 5, 6, 7]
def Q1b3 : IR :=
 .seq (.seq (.reg [oM 8 7,
 oM 9 0,
 oN 10 9,
 o 11 (.bin .lss (.t 8) (.t 10))] false)
 (.cond (.t 11) (.skip)
 (.exit 0)))
 (.seq (.block 1 (.seq (.seq (.reg [oM 14 6,
 ob 15 (.un .not (.t 14)) [0],
 ob 16 (.mov (.t 15)) [0, 1],
 ⟨(some 17), (some (16, true)), .faddr 0 (.t 3), [0, 1, 2]⟩,
 ⟨(some 18), (some (16, true)), .load 1 false (.t 17), [0, 1, 2, 3]⟩,
 ⟨(some 19), (some (16, true)), .mov (.t 0), [0, 1, 2]⟩,
 ⟨(some 20), (some (16, true)), .mov (.t 7), [0, 1, 2]⟩,
 ⟨(some 21), (some (16, true)), .iaddr 6 (.t 19) (.t 20), [0, 1, 2, 5, 6]⟩,
 ⟨(some 22), (some (16, true)), .faddr 0 (.t 21), [0, 1, 2, 5, 6, 7]⟩,
 ⟨(some 23), (some (16, true)), .load 1 false (.t 22), ([0, 1, 2] ++ rg 5 9)⟩,
 ⟨(some 24), (some (16, true)), .bin .leq (.t 18) (.t 23), (rg 0 10)⟩,
 ob 25 (.pick (.t 16) (.t 24) (.c zB)) (rg 0 11)] true)
 (.cond (.t 25) (.seq (.reg [oM 26 5,
 oL 27 6 3,
 o 28 (.lit 6 1 zL0 [(0, .t 27)]),
 oJ 29 6 96 26 28,
 oM 5 29] false)
 (.reg [o 6 (.mov (.c (.bool true)))] false))
 (.skip)))
 (.seq (.reg [oM 30 0,
 oM 31 7,
 ob 32 (.iaddr 6 (.t 30) (.t 31)) [0, 1],
 ob 33 (.faddr 0 (.t 32)) [0, 1, 2],
 oE 34 1 33 [0, 1, 2, 3],
 oF 35 0 3,
 oE 36 1 35 [5],
 ob 37 (.bin .neq (.t 34) (.t 36)) (rg 0 7)] true)
 (.cond (.t 37) (.reg [oM 38 5,
 oM 39 0,
 oM 40 7,
 oI 41 6 39 40,
 oL 42 6 41,
 o 43 (.lit 6 1 zL0 [(0, .t 42)]),
 oJ 44 6 96 38 43,
 oM 5 44] false)
 (.skip)))))
 (.reg [oM 12 7,
 oA 13 12,
 oM 7 13] false))
def Kv_c : IR :=
 .seq (.reg [o 3 (.box 6 (.t 1)),
 o 4 (.mov (.c (.ns 6)))] false)
 (.seq (.reg [o 5 (.mov (.c (.ns 6)))] false)
 (.seq (.reg [o 6 (.mov (.c zB))] false)
 (.seq (.seq (.reg [o 7 (.mov (.c zI))] false)
 (.block 0 (.loop Qm3 Q1b3)))
 (.seq (.seq (.reg [oM 45 6,
 oU 46 45] false)
 (.cond (.t 46) (.reg [oM 47 5,
 oL 48 6 3,
 o 49 (.lit 6 1 zL0 [(0, .t 48)]),
 oJ 50 6 96 47 49,
 oM 5 50] false)
 (.skip)))
 (.seq (.reg [oM 51 5,
 oM 4 51] false)
 (.ret))))))
def Kv : IFn := ⟨2, 52, [.tmp 4], false, Kv_c⟩
def Qkn : List Nat := [100038, 3, 6, 7, 8]
def Q19o : IR :=
 .seq (.reg [o 9 (.bin .lss (.t 8) (.t 7))] false)
 (.seq (.cond (.t 9) (.skip)
 (.exit 0))
 (.seq (.block 1 (.seq (.reg [oI 10 1 6 8,
 oK 11 1 10,
 oM 5 11] false)
 (.seq (.reg [oM 12 5,
 oM 13 3,
 o 14 (.bin .neq (.t 12) (.t 13))] false)
 (.cond (.t 14) (.seq (.reg [oM 15 5,
 oM 2 15] false)
 (.ret))
 (.skip)))))
 (.reg [oA 16 8,
 oM 8 16] false)))
def K1_c : IR :=
 .seq (.reg [o 2 (.mov (.c zI))] false)
 (.seq (.reg [o 3 (.mov (.c zI))] false)
 (.seq (.seq (.reg [oM 6 0,
 oN 7 6,
 o 8 (.mov (.c zI))] false)
 (.block 0 (.loop Qkn Q19o)))
 (.seq (.reg [oM 17 3,
 oM 2 17] false)
 (.ret))))
def K1 : IFn := ⟨1, 18, [.tmp 2], false, K1_c⟩
def K0_c : IR :=
 .seq (.reg [o 4 (.mov (.c zI))] false)
 (.seq (.reg [oM 7 0,
 oC 8 70 ([.t 7]),
 oM 5 8] false)
 (.seq (.reg [oM 9 1,
 oC 10 70 ([.t 9]),
 oM 6 10] false)
 (.seq (.seq (.reg [oM 11 5] false)
 (.cond (.t 11) (.seq (.seq (.reg [oM 12 6] false)
 (.cond (.t 12) (.seq (.reg [o 4 (.mov (.c zI))] false)
 (.ret))
 (.skip)))
 (.seq (.reg [o 4 (.mov (.c (.int .i64 (-1))))] false)
 (.ret)))
 (.skip)))
 (.seq (.seq (.reg [oM 13 6] false)
 (.cond (.t 13) (.seq (.reg [o 4 (.mov (.c (.int .i64 1)))] false)
 (.ret))
 (.skip)))
 (.seq (.seq (.reg [oM 14 0,
 oM 15 1,
 o 16 (.bin .lss (.t 14) (.t 15))] false)
 (.cond (.t 16) (.seq (.reg [o 4 (.mov (.c (.int .i64 (-1))))] false)
 (.ret))
 (.skip)))
 (.seq (.seq (.reg [oM 17 0,
 oM 18 1,
 o 19 (.bin .gtr (.t 17) (.t 18))] false)
 (.cond (.t 19) (.seq (.reg [o 4 (.mov (.c (.int .i64 1)))] false)
 (.ret))
 (.skip)))
 (.seq (.reg [o 4 (.mov (.c zI))] false)
 (.ret))))))))
def K0 : IFn := ⟨2, 20, [.tmp 4], false, K0_c⟩
def Qd7 : List Nat := [100039, 0, 1, 2, 11, 12, 13]
def Q178 : IR :=
 .seq (.reg [o 14 (.bin .lss (.t 13) (.t 12))] false)
 (.seq (.cond (.t 14) (.skip)
 (.exit 0))
 (.seq (.block 1 (.seq (.reg [oM 15 13,
 oI 16 5 11 13,
 oL 17 5 16,
 o 8 (.zero zL1),
 oM 7 15,
 oS 5 8 17] false)
 (.seq (.seq (.reg [oM 18 7,
 oM 19 1,
 oN 20 19,
 o 21 (.bin .geq (.t 18) (.t 20))] false)
 (.cond (.t 21) (.seq (.reg [o 6 (.mov (.c (.int .i64 1)))] false)
 (.ret))
 (.skip)))
 (.seq (.reg [oM 22 1,
 oM 23 7,
 oI 24 5 22 23,
 oL 25 5 24,
 o 9 (.zero zL1),
 oS 5 9 25] false)
 (.seq (.reg [oM 26 2,
 oL 27 5 8,
 oL 28 5 9,
 o 29 (.call false (.t 26) [.t 27, .t 28]),
 oM 10 29] false)
 (.seq (.reg [oM 30 10,
 o 31 (.bin .neq (.t 30) (.c zI))] false)
 (.cond (.t 31) (.seq (.reg [oM 32 10,
 oM 6 32] false)
 (.ret))
 (.skip))))))))
 (.reg [oA 33 13,
 oM 13 33] false)))
def Q1ck : IR :=
 .seq (.reg [o 6 (.mov (.c zI))] false)
 (.seq (.seq (.reg [oM 11 0,
 oN 12 11,
 o 13 (.mov (.c zI))] false)
 (.block 0 (.loop Qd7 Q178)))
 (.seq (.seq (.reg [oM 34 0,
 oN 35 34,
 oM 36 1,
 oN 37 36,
 o 38 (.bin .lss (.t 35) (.t 37))] false)
 (.cond (.t 38) (.seq (.reg [o 6 (.mov (.c (.int .i64 (-1))))] false)
 (.ret))
 (.skip)))
 (.seq (.reg [o 6 (.mov (.c zI))] false)
 (.ret))))
def K16 : IFn := ⟨3, 39, [.tmp 6], false, Q1ck⟩
def Qe0 : List Nat := [100040, 0, 1, 2, 11, 12, 13]
def Q177 : IR :=
 .seq (.reg [o 14 (.bin .lss (.t 13) (.t 12))] false)
 (.seq (.cond (.t 14) (.skip)
 (.exit 0))
 (.seq (.block 1 (.seq (.reg [oM 15 13,
 oI 16 6 11 13,
 oL 17 6 16,
 o 8 (.zero zL0),
 oM 7 15,
 oS 6 8 17] false)
 (.seq (.seq (.reg [oM 18 7,
 oM 19 1,
 oN 20 19,
 o 21 (.bin .geq (.t 18) (.t 20))] false)
 (.cond (.t 21) (.seq (.reg [o 6 (.mov (.c (.int .i64 1)))] false)
 (.ret))
 (.skip)))
 (.seq (.reg [oM 22 1,
 oM 23 7,
 oI 24 6 22 23,
 oL 25 6 24,
 o 9 (.zero zL0),
 oS 6 9 25] false)
 (.seq (.reg [oM 26 2,
 oL 27 6 8,
 oL 28 6 9,
 o 29 (.call false (.t 26) [.t 27, .t 28]),
 oM 10 29] false)
 (.seq (.reg [oM 30 10,
 o 31 (.bin .neq (.t 30) (.c zI))] false)
 (.cond (.t 31) (.seq (.reg [oM 32 10,
 oM 6 32] false)
 (.ret))
 (.skip))))))))
 (.reg [oA 33 13,
 oM 13 33] false)))
def Q1cu : IR :=
 .seq (.reg [o 6 (.mov (.c zI))] false)
 (.seq (.seq (.reg [oM 11 0,
 oN 12 11,
 o 13 (.mov (.c zI))] false)
 (.block 0 (.loop Qe0 Q177)))
 (.seq (.seq (.reg [oM 34 0,
 oN 35 34,
 oM 36 1,
 oN 37 36,
 o 38 (.bin .lss (.t 35) (.t 37))] false)
 (.cond (.t 38) (.seq (.reg [o 6 (.mov (.c (.int .i64 (-1))))] false)
 (.ret))
 (.skip)))
 (.seq (.reg [o 6 (.mov (.c zI))] false)
 (.ret))))
def K17 : IFn := ⟨3, 39, [.tmp 6], false, Q1cu⟩
def Q1dm : IR :=
 .seq (.reg [o 2 (.box 6 (.t 0)),
 o 3 (.box 6 (.t 1)),
 o 4 (.mov (.c zI))] false)
 (.seq (.reg [oF 5 0 2,
 oE 6 1 5 [0],
 oF 7 0 3,
 oE 8 1 7 [2],
 oD 9 44 ([.t 6, .t 8]) [0, 1, 2, 3],
 oF 10 1 2,
 ob 11 (.load 5 true (.t 10)) [5],
 oF 12 1 3,
 ob 13 (.load 5 true (.t 12)) [7],
 oD 14 49 ([.t 11, .t 13]) (rg 0 9),
 ob 15 (.lit 1 2 [zI] [(0, .t 9), (1, .t 14)]) (rg 0 10),
 oD 16 59 ([.t 15]) (rg 0 11),
 ob 4 (.mov (.t 16)) (rg 0 12)] true)
 (.ret))
def K1i : IFn := ⟨2, 17, [.tmp 4], false, Q1dm⟩
def Kt_c : IR :=
 .seq (.reg [o 4 (.mov (.c zI))] false)
 (.seq (.seq (.reg [oM 5 0] false)
 (.cond (.t 5) (.seq (.reg [o 4 (.mov (.c (.int .i64 (-1))))] false)
 (.ret))
 (.skip)))
 (.seq (.seq (.reg [oM 6 1] false)
 (.cond (.t 6) (.seq (.reg [o 4 (.mov (.c (.int .i64 1)))] false)
 (.ret))
 (.skip)))
 (.seq (.reg [o 4 (.mov (.c zI))] false)
 (.ret))))
def Kt : IFn := ⟨2, 7, [.tmp 4], false, Kt_c⟩
def Qjx : List Nat := [100041, 0, 3]
def Q1as : IR :=
 .seq (.seq (.reg [oM 4 3,
 oM 5 0,
 o 6 (.len true (.t 5)),
 o 7 (.bin .lss (.t 4) (.t 6))] false)
 (.cond (.t 7) (.skip)
 (.exit 0)))
 (.seq (.block 1 (.seq (.reg [oM 10 0,
 oM 11 3,
 o 12 (.index (.t 10) (.t 11)),
 o 13 (.bin .neq (.t 12) (.c (.int .u8 10))),
 oM 14 13,
 gT 15 14 (.mov (.t 0)),
 gT 16 14 (.mov (.t 3)),
 gT 17 14 (.index (.t 15) (.t 16)),
 gT 18 14 (.bin .lss (.t 17) (.c (.int .u8 32))),
 gT 19 14 (.mov (.t 18)),
 gF 20 19 (.mov (.t 0)),
 gF 21 19 (.mov (.t 3)),
 gF 22 19 (.index (.t 20) (.t 21)),
 gF 23 19 (.bin .gtr (.t 22) (.c (.int .u8 126))),
 gT 24 14 (.pick (.t 19) (.c (.bool true)) (.t 23)),
 oP 25 14 24] false)
 (.cond (.t 25) (.seq (.reg [o 2 (.mov (.c zB))] false)
 (.ret))
 (.skip))))
 (.reg [oM 8 3,
 oA 9 8,
 oM 3 9] false))
def Kq_c : IR :=
 .seq (.reg [o 2 (.mov (.c zB))] false)
 (.seq (.seq (.reg [o 3 (.mov (.c zI))] false)
 (.block 0 (.loop Qjx Q1as)))
 (.seq (.reg [oM 26 0,
 o 27 (.len true (.t 26)),
 o 28 (.bin .leq (.t 27) (.c (.int .i64 200))),
 oM 2 28] false)
 (.ret)))
def Kq : IFn := ⟨1, 29, [.tmp 2], false, Kq_c⟩
def Qe3 : List Nat := [100043, 0, 1, 2, 3, 8, 9]
def Q17w : IR :=
 .seq (.seq (.reg [oM 18 9,
 oM 19 1,
 ob 20 (.bin .gtr (.t 18) (.t 19)) [0, 1],
 ob 21 (.mov (.t 20)) [0, 1, 2],
 ⟨(some 22), (some (21, true)), .mov (.t 3), [0, 1, 2, 3]⟩,
 ⟨(some 23), (some (21, true)), .mov (.t 0), [0, 1, 2, 3]⟩,
 ⟨(some 24), (some (21, true)), .mov (.t 9), [0, 1, 2, 3]⟩,
 ⟨(some 25), (some (21, true)), .iaddr 6 (.t 23) (.t 24), (rg 0 4 ++ [5, 6])⟩,
 ⟨(some 26), (some (21, true)), .load 6 true (.t 25), (rg 0 4 ++ [5, 6, 7])⟩,
 ⟨(some 27), (some (21, true)), .mov (.t 0), [0, 1, 2, 3]⟩,
 ⟨(some 28), (some (21, true)), .mov (.t 9), [0, 1, 2, 3]⟩,
 ⟨(some 29), (some (21, true)), .bin .sub (.t 28) (.c (.int .i64 1)), (rg 0 4 ++ [10])⟩,
 ⟨(some 30), (some (21, true)), .iaddr 6 (.t 27) (.t 29), (rg 0 4 ++ [9, 10, 11])⟩,
 ⟨(some 31), (some (21, true)), .load 6 true (.t 30), (rg 0 4 ++ rg 9 13)⟩,
 ⟨(some 32), (some (21, true)), .call false (.t 22) [.t 26, .t 31], (rg 0 14)⟩,
 ⟨(some 33), (some (21, true)), .bin .lss (.t 32) (.c zI), (rg 0 15)⟩,
 ob 34 (.pick (.t 21) (.t 33) (.c zB)) (rg 0 16)] true)
 (.cond (.t 34) (.skip)
 (.exit 2)))
 (.seq (.block 3 (.reg [oM 37 0,
 oM 38 9,
 oM 39 0,
 oM 40 9,
 ob 41 (.bin .sub (.t 40) (.c (.int .i64 1))) [3],
 oM 42 0,
 oM 43 9,
 ob 44 (.bin .sub (.t 43) (.c (.int .i64 1))) [6],
 ob 45 (.iaddr 6 (.t 42) (.t 44)) [5, 6, 7],
 ob 46 (.load 6 true (.t 45)) [5, 6, 7, 8],
 oM 47 0,
 oM 48 9,
 ob 49 (.iaddr 6 (.t 47) (.t 48)) [10, 11],
 ob 50 (.load 6 true (.t 49)) [10, 11, 12],
 ob 51 (.iaddr 6 (.t 37) (.t 38)) ([0, 1] ++ rg 5 14),
 ⟨none, none, .store 6 (.t 51) (.t 46), ([0, 1] ++ rg 5 15)⟩,
 ob 52 (.iaddr 6 (.t 39) (.t 41)) (rg 0 16),
 ⟨none, none, .store 6 (.t 52) (.t 50), (rg 0 17)⟩] true))
 (.reg [oM 35 9,
 o 36 (.bin .sub (.t 35) (.c (.int .i64 1))),
 oM 9 36] false))
def Qdj : List Nat := [100042, 0, 1, 2, 3, 8]
def Q17r : IR :=
 .seq (.seq (.reg [oM 12 8,
 oM 13 2,
 o 14 (.bin .lss (.t 12) (.t 13))] false)
 (.cond (.t 14) (.skip)
 (.exit 0)))
 (.seq (.block 1 (.seq (.reg [oM 17 8,
 oM 9 17] false)
 (.block 2 (.loop Qe3 Q17w))))
 (.reg [oM 15 8,
 oA 16 15,
 oM 8 16] false))
def Q1c9 : IR :=
 .seq (.reg [oM 10 1,
 oA 11 10,
 oM 8 11] false)
 (.block 0 (.loop Qdj Q17r))
def K1b : IFn := ⟨4, 53, [], false, Q1c9⟩
def Qek : List Nat := [100048, 0, 1, 2, 3, 4, 18, 19, 20, 21, 22]
def Q179 : IR :=
 .seq (.seq (.reg [oM 149 20,
 oM 150 21,
 o 151 (.bin .lss (.t 149) (.t 150))] false)
 (.cond (.t 151) (.skip)
 (.exit 8)))
 (.block 9 (.seq (.reg [oM 152 20,
 oM 153 21,
 o 154 (.bin .add (.t 152) (.t 153)),
 o 155 (.conv .u64 (.t 154)),
 o 156 (.bin .shr (.t 155) (.c (.int .u64 1))),
 o 157 (.conv .i64 (.t 156)),
 oM 23 157] false)
 (.seq (.reg [oM 158 4,
 oM 159 0,
 oM 160 22,
 oM 161 23,
 ob 162 (.bin .sub (.t 160) (.t 161)) [2, 3],
 ob 163 (.iaddr 6 (.t 159) (.t 162)) [1, 2, 3, 4],
 ob 164 (.load 6 true (.t 163)) (rg 1 6),
 oM 165 0,
 oM 166 23,
 ob 167 (.iaddr 6 (.t 165) (.t 166)) [7, 8],
 ob 168 (.load 6 true (.t 167)) [7, 8, 9],
 ob 169 (.call false (.t 158) [.t 164, .t 168]) (rg 0 11),
 ob 170 (.bin .lss (.t 169) (.c zI)) (rg 0 12),
 ob 171 (.un .not (.t 170)) (rg 0 13)] true)
 (.cond (.t 171) (.reg [oM 172 23,
 oA 173 172,
 oM 20 173] false)
 (.reg [oM 174 23,
 oM 21 174] false)))))
def Qd9 : List Nat := [100047, 0, 14, 17]
def Q17q : IR :=
 .seq (.seq (.reg [oM 108 17,
 oM 109 14,
 o 110 (.bin .gtr (.t 108) (.t 109))] false)
 (.cond (.t 110) (.skip)
 (.exit 6)))
 (.seq (.block 7 (.reg [oM 113 0,
 oM 114 17,
 oM 115 0,
 oM 116 17,
 ob 117 (.bin .sub (.t 116) (.c (.int .i64 1))) [3],
 oM 118 0,
 oM 119 17,
 ob 120 (.bin .sub (.t 119) (.c (.int .i64 1))) [6],
 ob 121 (.iaddr 6 (.t 118) (.t 120)) [5, 6, 7],
 ob 122 (.load 6 true (.t 121)) [5, 6, 7, 8],
 oM 123 0,
 oM 124 17,
 ob 125 (.iaddr 6 (.t 123) (.t 124)) [10, 11],
 ob 126 (.load 6 true (.t 125)) [10, 11, 12],
 ob 127 (.iaddr 6 (.t 113) (.t 114)) ([0, 1] ++ rg 5 14),
 ⟨none, none, .store 6 (.t 127) (.t 122), ([0, 1] ++ rg 5 15)⟩,
 ob 128 (.iaddr 6 (.t 115) (.t 117)) (rg 0 16),
 ⟨none, none, .store 6 (.t 128) (.t 126), (rg 0 17)⟩] true))
 (.reg [oM 111 17,
 o 112 (.bin .sub (.t 111) (.c (.int .i64 1))),
 oM 17 112] false))
def Qfg : List Nat := [100046, 0, 2, 4, 14, 15]
def Q174 : IR :=
 .seq (.seq (.reg [oM 83 14,
 oM 84 15,
 o 85 (.bin .lss (.t 83) (.t 84))] false)
 (.cond (.t 85) (.skip)
 (.exit 4)))
 (.block 5 (.seq (.reg [oM 86 14,
 oM 87 15,
 o 88 (.bin .add (.t 86) (.t 87)),
 o 89 (.conv .u64 (.t 88)),
 o 90 (.bin .shr (.t 89) (.c (.int .u64 1))),
 o 91 (.conv .i64 (.t 90)),
 oM 16 91] false)
 (.seq (.reg [oM 92 4,
 oM 93 0,
 oM 94 2,
 ob 95 (.iaddr 6 (.t 93) (.t 94)) [1, 2],
 ob 96 (.load 6 true (.t 95)) [1, 2, 3],
 oM 97 0,
 oM 98 16,
 ob 99 (.iaddr 6 (.t 97) (.t 98)) [5, 6],
 ob 100 (.load 6 true (.t 99)) [5, 6, 7],
 ob 101 (.call false (.t 92) [.t 96, .t 100]) (rg 0 9),
 ob 102 (.bin .lss (.t 101) (.c zI)) (rg 0 10),
 ob 103 (.un .not (.t 102)) (rg 0 11)] true)
 (.cond (.t 103) (.reg [oM 104 16,
 oA 105 104,
 oM 14 105] false)
 (.reg [oM 106 16,
 oM 15 106] false)))))
def Qgk : List Nat := [100045, 0, 10, 13]
def Q175 : IR :=
 .seq (.seq (.reg [oM 55 13,
 oM 56 10,
 o 57 (.bin .sub (.t 56) (.c (.int .i64 1))),
 o 58 (.bin .lss (.t 55) (.t 57))] false)
 (.cond (.t 58) (.skip)
 (.exit 2)))
 (.seq (.block 3 (.reg [oM 61 0,
 oM 62 13,
 oM 63 0,
 oM 64 13,
 ob 65 (.bin .add (.t 64) (.c (.int .i64 1))) [3],
 oM 66 0,
 oM 67 13,
 ob 68 (.bin .add (.t 67) (.c (.int .i64 1))) [6],
 ob 69 (.iaddr 6 (.t 66) (.t 68)) [5, 6, 7],
 ob 70 (.load 6 true (.t 69)) [5, 6, 7, 8],
 oM 71 0,
 oM 72 13,
 ob 73 (.iaddr 6 (.t 71) (.t 72)) [10, 11],
 ob 74 (.load 6 true (.t 73)) [10, 11, 12],
 ob 75 (.iaddr 6 (.t 61) (.t 62)) ([0, 1] ++ rg 5 14),
 ⟨none, none, .store 6 (.t 75) (.t 70), ([0, 1] ++ rg 5 15)⟩,
 ob 76 (.iaddr 6 (.t 63) (.t 65)) (rg 0 16),
 ⟨none, none, .store 6 (.t 76) (.t 74), (rg 0 17)⟩] true))
 (.reg [oM 59 13,
 oA 60 59,
 oM 13 60] false))
def Qfp : List Nat := [100044, 0, 1, 4, 10, 11]
def Q17c : IR :=
 .seq (.seq (.reg [oM 31 10,
 oM 32 11,
 o 33 (.bin .lss (.t 31) (.t 32))] false)
 (.cond (.t 33) (.skip)
 (.exit 0)))
 (.block 1 (.seq (.reg [oM 34 10,
 oM 35 11,
 o 36 (.bin .add (.t 34) (.t 35)),
 o 37 (.conv .u64 (.t 36)),
 o 38 (.bin .shr (.t 37) (.c (.int .u64 1))),
 o 39 (.conv .i64 (.t 38)),
 oM 12 39] false)
 (.seq (.reg [oM 40 4,
 oM 41 0,
 oM 42 12,
 ob 43 (.iaddr 6 (.t 41) (.t 42)) [1, 2],
 ob 44 (.load 6 true (.t 43)) [1, 2, 3],
 oM 45 0,
 oM 46 1,
 ob 47 (.iaddr 6 (.t 45) (.t 46)) [5, 6],
 ob 48 (.load 6 true (.t 47)) [5, 6, 7],
 ob 49 (.call false (.t 40) [.t 44, .t 48]) (rg 0 9),
 ob 50 (.bin .lss (.t 49) (.c zI)) (rg 0 10)] true)
 (.cond (.t 50) (.reg [oM 51 12,
 oA 52 51,
 oM 10 52] false)
 (.reg [oM 53 12,
 oM 11 53] false)))))
def Q1cv : IR :=
 .seq (.seq (.reg [oM 25 2,
 oM 26 1,
 o 27 (.bin .sub (.t 25) (.t 26)),
 o 28 (.bin .eql (.t 27) (.c (.int .i64 1)))] false)
 (.cond (.t 28) (.seq (.reg [oM 29 2,
 oM 10 29] false)
 (.seq (.reg [oM 30 3,
 oM 11 30] false)
 (.seq (.block 0 (.loop Qfp Q17c))
 (.seq (.seq (.reg [oM 54 1,
 oM 13 54] false)
 (.block 2 (.loop Qgk Q175)))
 (.ret)))))
 (.skip)))
 (.seq (.seq (.reg [oM 77 3,
 oM 78 2,
 o 79 (.bin .sub (.t 77) (.t 78)),
 o 80 (.bin .eql (.t 79) (.c (.int .i64 1)))] false)
 (.cond (.t 80) (.seq (.reg [oM 81 1,
 oM 14 81] false)
 (.seq (.reg [oM 82 2,
 oM 15 82] false)
 (.seq (.block 4 (.loop Qfg Q174))
 (.seq (.seq (.reg [oM 107 2,
 oM 17 107] false)
 (.block 6 (.loop Qd9 Q17q)))
 (.ret)))))
 (.skip)))
 (.seq (.reg [oM 129 1,
 oM 130 3,
 o 131 (.bin .add (.t 129) (.t 130)),
 o 132 (.conv .u64 (.t 131)),
 o 133 (.bin .shr (.t 132) (.c (.int .u64 1))),
 o 134 (.conv .i64 (.t 133)),
 oM 18 134] false)
 (.seq (.reg [oM 135 18,
 oM 136 2,
 o 137 (.bin .add (.t 135) (.t 136)),
 oM 19 137] false)
 (.seq (.reg [o 20 (.mov (.c zI)),
 o 21 (.mov (.c zI))] false)
 (.seq (.seq (.reg [oM 138 2,
 oM 139 18,
 o 140 (.bin .gtr (.t 138) (.t 139))] false)
 (.cond (.t 140) (.seq (.reg [oM 141 19,
 oM 142 3,
 o 143 (.bin .sub (.t 141) (.t 142)),
 oM 20 143] false)
 (.reg [oM 144 18,
 oM 21 144] false))
 (.seq (.reg [oM 145 1,
 oM 20 145] false)
 (.reg [oM 146 2,
 oM 21 146] false))))
 (.seq (.reg [oM 147 19,
 o 148 (.bin .sub (.t 147) (.c (.int .i64 1))),
 oM 22 148] false)
 (.seq (.block 8 (.loop Qek Q179))
 (.seq (.reg [oM 175 19,
 oM 176 20,
 o 177 (.bin .sub (.t 175) (.t 176)),
 oM 24 177] false)
 (.seq (.seq (.reg [oM 178 20,
 oM 179 2,
 o 180 (.bin .lss (.t 178) (.t 179)),
 oM 181 180,
 gT 182 181 (.mov (.t 2)),
 gT 183 181 (.mov (.t 24)),
 gT 184 181 (.bin .lss (.t 182) (.t 183)),
 oP 185 181 184] false)
 (.cond (.t 185) (.reg [oM 186 0,
 oM 187 20,
 oM 188 2,
 oM 189 24,
 oM 190 4,
 o 191 (.call true (.f 71) [.t 186, .t 187, .t 188, .t 189, .t 190])] false)
 (.skip)))
 (.seq (.seq (.reg [oM 192 1,
 oM 193 20,
 o 194 (.bin .lss (.t 192) (.t 193)),
 oM 195 194,
 gT 196 195 (.mov (.t 20)),
 gT 197 195 (.mov (.t 18)),
 gT 198 195 (.bin .lss (.t 196) (.t 197)),
 oP 199 195 198] false)
 (.cond (.t 199) (.reg [oM 200 0,
 oM 201 1,
 oM 202 20,
 oM 203 18,
 oM 204 4,
 o 205 (.call true (.f 67) [.t 200, .t 201, .t 202, .t 203, .t 204])] false)
 (.skip)))
 (.seq (.reg [oM 206 18,
 oM 207 24,
 o 208 (.bin .lss (.t 206) (.t 207)),
 oM 209 208,
 gT 210 209 (.mov (.t 24)),
 gT 211 209 (.mov (.t 3)),
 gT 212 209 (.bin .lss (.t 210) (.t 211)),
 oP 213 209 212] false)
 (.cond (.t 213) (.reg [oM 214 0,
 oM 215 18,
 oM 216 24,
 oM 217 3,
 oM 218 4,
 o 219 (.call true (.f 67) [.t 214, .t 215, .t 216, .t 217, .t 218])] false)
 (.skip)))))))))))))
def K1f : IFn := ⟨5, 220, [], false, Q1cv⟩
def Qhf : List Nat := [100049, 0, 1, 7, 8]
def Q17s : IR :=
 .seq (.reg [o 9 (.bin .lss (.t 8) (.t 7))] false)
 (.seq (.cond (.t 9) (.skip)
 (.exit 0))
 (.seq (.block 1 (.seq (.reg [oM 10 8,
 oM 5 10] false)
 (.seq (.reg [oM 11 1,
 oM 12 0,
 oM 13 5,
 oI 14 6 12 13,
 oL 15 6 14,
 o 16 (.call false (.t 11) [.t 15])] false)
 (.cond (.t 16) (.seq (.reg [oM 17 5,
 oM 4 17] false)
 (.ret))
 (.skip)))))
 (.reg [oA 18 8,
 oM 8 18] false)))
def Q1d5 : IR :=
 .seq (.reg [o 4 (.mov (.c zI))] false)
 (.seq (.seq (.reg [oM 6 0,
 oN 7 6,
 o 8 (.mov (.c zI))] false)
 (.block 0 (.loop Qhf Q17s)))
 (.seq (.reg [o 4 (.mov (.c (.int .i64 (-1))))] false)
 (.ret)))
def K19 : IFn := ⟨2, 19, [.tmp 4], false, Q1d5⟩
def K2_c : IR :=
 .seq (.reg [o 2 (.mov (.c zB))] false)
 (.seq (.reg [oM 3 0,
 oM 4 0,
 o 5 (.bin .neq (.t 3) (.t 4)),
 oM 2 5] false)
 (.ret))
def K2 : IFn := ⟨1, 6, [.tmp 2], false, K2_c⟩
def Qdu : List Nat := [100050, 0, 2, 4, 10, 11]
def Q16v : IR :=
 .seq (.seq (.reg [oM 18 10,
 oM 19 11,
 o 20 (.bin .neq (.t 18) (.t 19))] false)
 (.cond (.t 20) (.skip)
 (.exit 0)))
 (.block 1 (.seq (.reg [oM 21 10,
 oM 22 11,
 o 23 (.bin .gtr (.t 21) (.t 22))] false)
 (.cond (.t 23) (.seq (.reg [oM 24 0,
 oM 25 2,
 oM 26 10,
 o 27 (.bin .sub (.t 25) (.t 26)),
 oM 28 2,
 oM 29 11,
 oM 30 4,
 o 31 (.call true (.f 72) [.t 24, .t 27, .t 28, .t 29, .t 30])] false)
 (.reg [oM 32 10,
 oM 33 11,
 o 34 (.bin .sub (.t 32) (.t 33)),
 oM 10 34] false))
 (.seq (.reg [oM 35 0,
 oM 36 2,
 oM 37 10,
 o 38 (.bin .sub (.t 36) (.t 37)),
 oM 39 2,
 oM 40 11,
 o 41 (.bin .add (.t 39) (.t 40)),
 oM 42 10,
 o 43 (.bin .sub (.t 41) (.t 42)),
 oM 44 10,
 oM 45 4,
 o 46 (.call true (.f 72) [.t 35, .t 38, .t 43, .t 44, .t 45])] false)
 (.reg [oM 47 11,
 oM 48 10,
 o 49 (.bin .sub (.t 47) (.t 48)),
 oM 11 49] false)))))
def Q1c0 : IR :=
 .seq (.reg [oM 12 2,
 oM 13 1,
 o 14 (.bin .sub (.t 12) (.t 13)),
 oM 10 14] false)
 (.seq (.reg [oM 15 3,
 oM 16 2,
 o 17 (.bin .sub (.t 15) (.t 16)),
 oM 11 17] false)
 (.seq (.block 0 (.loop Qdu Q16v))
 (.reg [oM 50 0,
 oM 51 2,
 oM 52 10,
 o 53 (.bin .sub (.t 51) (.t 52)),
 oM 54 2,
 oM 55 10,
 oM 56 4,
 o 57 (.call true (.f 72) [.t 50, .t 53, .t 54, .t 55, .t 56])] false)))
def K1c : IFn := ⟨5, 58, [], false, Q1c0⟩
def Qfo : List Nat := [100051, 0, 1, 2, 3, 10]
def Q17e : IR :=
 .seq (.seq (.reg [oM 11 10,
 oM 12 3,
 o 13 (.bin .lss (.t 11) (.t 12))] false)
 (.cond (.t 13) (.skip)
 (.exit 0)))
 (.seq (.block 1 (.reg [oM 16 0,
 oM 17 1,
 oM 18 10,
 ob 19 (.bin .add (.t 17) (.t 18)) [1, 2],
 oM 20 0,
 oM 21 2,
 oM 22 10,
 ob 23 (.bin .add (.t 21) (.t 22)) [5, 6],
 oM 24 0,
 oM 25 2,
 oM 26 10,
 ob 27 (.bin .add (.t 25) (.t 26)) [9, 10],
 ob 28 (.iaddr 6 (.t 24) (.t 27)) [8, 9, 10, 11],
 ob 29 (.load 6 true (.t 28)) (rg 8 13),
 oM 30 0,
 oM 31 1,
 oM 32 10,
 ob 33 (.bin .add (.t 31) (.t 32)) [15, 16],
 ob 34 (.iaddr 6 (.t 30) (.t 33)) [14, 15, 16, 17],
 ob 35 (.load 6 true (.t 34)) (rg 14 19),
 ob 36 (.iaddr 6 (.t 16) (.t 19)) (rg 0 4 ++ rg 8 20),
 ⟨none, none, .store 6 (.t 36) (.t 29), (rg 0 4 ++ rg 8 21)⟩,
 ob 37 (.iaddr 6 (.t 20) (.t 23)) (rg 0 22),
 ⟨none, none, .store 6 (.t 37) (.t 35), (rg 0 23)⟩] true))
 (.reg [oM 14 10,
 oA 15 14,
 oM 10 15] false))
def Q1co : IR :=
 .seq (.reg [o 10 (.mov (.c zI))] false)
 (.block 0 (.loop Qfo Q17e))
def K1e : IFn := ⟨5, 38, [], false, Q1co⟩
def table : List (Nat × Fun) :=
  [(4, .ir K7),
   (10, .ir Kd),
   (11, .ir Ka),
   (12, .ir Ky),
   (13, .ir Kg),
   (15, .ir Kf),
   (16, .ir K14),
   (17, .ir Ke),
   (21, .ir Kl),
   (22, .ir Kz),
   (23, .ir Ko),
   (24, .ir Kc),
   (25, .ir Kb),
   (26, .ir Kh),
   (27, .ir K1m),
   (28, .ir K1q),
   (29, .ir K1k),
   (30, .ir K1p),
   (32, .ir Kr),
   (33, .ir K1o),
   (34, .ir K1j),
   (35, .ir Kk),
   (36, .ir Kj),
   (37, .ir K10),
   (38, .ir Kx),
   (39, .ir Kn),
   (40, .ir K1l),
   (41, .ax (Qjw 6 96)),
   (42, .ir K1a),
   (43, .ir K1n),
   (44, .ir K1g),
   (45, .ir K1r),
   (46, .ir K1s),
   (47, .ir Km),
   (48, .ir Ku),
   (49, .ir K1h),
   (50, .ir Ki),
   (51, .ir Kw),
   (52, .ir Kp),
   (53, .ir K1d),
   (54, .cmpstr),
   (55, .ax (Qjw 5 80)),
   (56, .ir K18),
   (57, .ir K1t),
   (58, .ir Kv),
   (59, .ir K1),
   (60, .ir K0),
   (61, .ir K16),
   (62, .ir K17),
   (63, .ir K1i),
   (64, .ir Kt),
   (65, .ir Kq),
   (66, .ir K1b),
   (67, .ir K1f),
   (69, .ir K19),
   (70, .ir K2),
   (71, .ir K1c),
   (72, .ir K1e)]
end Go.Proofs.Ytnhhddbbppbblaa.Ir
end

section
/- The printed functions are the given ones. -/
namespace Go.Proofs.Ytnhhddbbppbblaa
open Go.Pv
theorem c3 : Q1n Try.prog Try.f3 Ir.K8 = true := by kernel_rfl
theorem c4 : Q1n Try.prog Try.f4 Ir.K7 = true := by kernel_rfl
theorem c5 : Q1n Try.prog Try.f5 Ir.K6 = true := by kernel_rfl
theorem c10 : Q1n Try.prog Try.f10 Ir.Kd = true := by kernel_rfl
theorem c11 : Q1n Try.prog Try.f11 Ir.Ka = true := by kernel_rfl
theorem c12 : Q1n Try.prog Try.f12 Ir.Ky = true := by kernel_rfl
theorem c13 : Q1n Try.prog Try.f13 Ir.Kg = true := by kernel_rfl
theorem c15 : Q1n Try.prog Try.f15 Ir.Kf = true := by kernel_rfl
theorem c16 : Q1n Try.prog Try.f16 Ir.K14 = true := by kernel_rfl
theorem c17 : Q1n Try.prog Try.f17 Ir.Ke = true := by kernel_rfl
theorem c21 : Q1n Try.prog Try.f21 Ir.Kl = true := by kernel_rfl
theorem c22 : Q1n Try.prog Try.f22 Ir.Kz = true := by kernel_rfl
theorem c23 : Q1n Try.prog Try.f23 Ir.Ko = true := by kernel_rfl
theorem c24 : Q1n Try.prog Try.f24 Ir.Kc = true := by kernel_rfl
theorem c25 : Q1n Try.prog Try.f25 Ir.Kb = true := by kernel_rfl
theorem c26 : Q1n Try.prog Try.f26 Ir.Kh = true := by kernel_rfl
theorem c27 : Q1n Try.prog Try.f27 Ir.K1m = true := by kernel_rfl
theorem c28 : Q1n Try.prog Try.f28 Ir.K1q = true := by kernel_rfl
theorem c29 : Q1n Try.prog Try.f29 Ir.K1k = true := by kernel_rfl
theorem c30 : Q1n Try.prog Try.f30 Ir.K1p = true := by kernel_rfl
theorem c32 : Q1n Try.prog Try.f32 Ir.Kr = true := by kernel_rfl
theorem c33 : Q1n Try.prog Try.f33 Ir.K1o = true := by kernel_rfl
theorem c34 : Q1n Try.prog Try.f34 Ir.K1j = true := by kernel_rfl
theorem c35 : Q1n Try.prog Try.f35 Ir.Kk = true := by kernel_rfl
theorem c36 : Q1n Try.prog Try.f36 Ir.Kj = true := by kernel_rfl
theorem c37 : Q1n Try.prog Try.f37 Ir.K10 = true := by kernel_rfl
theorem c38 : Q1n Try.prog Try.f38 Ir.Kx = true := by kernel_rfl
theorem c39 : Q1n Try.prog Try.f39 Ir.Kn = true := by kernel_rfl
theorem c40 : Q1n Try.prog Try.f40 Ir.K1l = true := by kernel_rfl
theorem c42 : Q1n Try.prog Try.f42 Ir.K1a = true := by kernel_rfl
theorem c43 : Q1n Try.prog Try.f43 Ir.K1n = true := by kernel_rfl
theorem c44 : Q1n Try.prog Try.f44 Ir.K1g = true := by kernel_rfl
theorem c45 : Q1n Try.prog Try.f45 Ir.K1r = true := by kernel_rfl
theorem c46 : Q1n Try.prog Try.f46 Ir.K1s = true := by kernel_rfl
theorem c47 : Q1n Try.prog Try.f47 Ir.Km = true := by kernel_rfl
theorem c48 : Q1n Try.prog Try.f48 Ir.Ku = true := by kernel_rfl
theorem c49 : Q1n Try.prog Try.f49 Ir.K1h = true := by kernel_rfl
theorem c50 : Q1n Try.prog Try.f50 Ir.Ki = true := by kernel_rfl
theorem c51 : Q1n Try.prog Try.f51 Ir.Kw = true := by kernel_rfl
theorem c52 : Q1n Try.prog Try.f52 Ir.Kp = true := by kernel_rfl
theorem c53 : Q1n Try.prog Try.f53 Ir.K1d = true := by kernel_rfl
theorem c56 : Q1n Try.prog Try.f56 Ir.K18 = true := by kernel_rfl
theorem c57 : Q1n Try.prog Try.f57 Ir.K1t = true := by kernel_rfl
theorem c58 : Q1n Try.prog Try.f58 Ir.Kv = true := by kernel_rfl
theorem c59 : Q1n Try.prog Try.f59 Ir.K1 = true := by kernel_rfl
theorem c60 : Q1n Try.prog Try.f60 Ir.K0 = true := by kernel_rfl
theorem c61 : Q1n Try.prog Try.f61 Ir.K16 = true := by kernel_rfl
theorem c62 : Q1n Try.prog Try.f62 Ir.K17 = true := by kernel_rfl
theorem c63 : Q1n Try.prog Try.f63 Ir.K1i = true := by kernel_rfl
theorem c64 : Q1n Try.prog Try.f64 Ir.Kt = true := by kernel_rfl
theorem c65 : Q1n Try.prog Try.f65 Ir.Kq = true := by kernel_rfl
theorem c66 : Q1n Try.prog Try.f66 Ir.K1b = true := by kernel_rfl
theorem c67 : Q1n Try.prog Try.f67 Ir.K1f = true := by kernel_rfl
theorem c69 : Q1n Try.prog Try.f69 Ir.K19 = true := by kernel_rfl
theorem c70 : Q1n Try.prog Try.f70 Ir.K2 = true := by kernel_rfl
theorem c71 : Q1n Try.prog Try.f71 Ir.K1c = true := by kernel_rfl
theorem c72 : Q1n Try.prog Try.f72 Ir.K1e = true := by kernel_rfl
theorem k41 : Q9c Try.prog Try.f41 6 96 [.str ⟨#[]⟩, .int .i64 0, .int .i64 0, .str ⟨#[]⟩, .ns 5, .ns 6] = true := by kernel_rfl
theorem k55 : Q9c Try.prog Try.f55 5 80 [.int .i64 0, .int .i64 0, .str ⟨#[]⟩, .ns 5, .ns 6] = true := by kernel_rfl
theorem mixed : Try.prog.follows .mixedOrders = true := by kernel_rfl
theorem own : ownKnob Try.prog.godebug = none := by kernel_rfl
theorem laidOut : laidOutB Try.prog = true := by kernel_rfl
theorem tie (cmp : Q163 Try.prog 54) : Tie Try.prog (tabG Ir.table) :=
  Q16 Try.func4 c4 <| Q16 Try.func10 c10 <| Q16 Try.func11 c11 <| Q16 Try.func12 c12 <| Q16 Try.func13 c13 <| Q16 Try.func15 c15 <| Q16 Try.func16 c16 <| Q16 Try.func17 c17 <| Q16 Try.func21 c21 <| Q16 Try.func22 c22 <| Q16 Try.func23 c23 <| Q16 Try.func24 c24 <| Q16 Try.func25 c25 <| Q16 Try.func26 c26 <| Q16 Try.func27 c27 <| Q16 Try.func28 c28 <| Q16 Try.func29 c29 <| Q16 Try.func30 c30 <| Q16 Try.func32 c32 <| Q16 Try.func33 c33 <| Q16 Try.func34 c34 <| Q16 Try.func35 c35 <| Q16 Try.func36 c36 <| Q16 Try.func37 c37 <| Q16 Try.func38 c38 <| Q16 Try.func39 c39 <| Q16 Try.func40 c40 <| (fun h => Qm9 h (Qvs mixed Try.func41 k41)) <| Q16 Try.func42 c42 <| Q16 Try.func43 c43 <| Q16 Try.func44 c44 <| Q16 Try.func45 c45 <| Q16 Try.func46 c46 <| Q16 Try.func47 c47 <| Q16 Try.func48 c48 <| Q16 Try.func49 c49 <| Q16 Try.func50 c50 <| Q16 Try.func51 c51 <| Q16 Try.func52 c52 <| Q16 Try.func53 c53 <| (fun h => Qm9 h cmp) <| (fun h => Qm9 h (Qvs mixed Try.func55 k55)) <| Q16 Try.func56 c56 <| Q16 Try.func57 c57 <| Q16 Try.func58 c58 <| Q16 Try.func59 c59 <| Q16 Try.func60 c60 <| Q16 Try.func61 c61 <| Q16 Try.func62 c62 <| Q16 Try.func63 c63 <| Q16 Try.func64 c64 <| Q16 Try.func65 c65 <| Q16 Try.func66 c66 <| Q16 Try.func67 c67 <| Q16 Try.func69 c69 <| Q16 Try.func70 c70 <| Q16 Try.func71 c71 <| Q16 Try.func72 c72 <| Q18o
end Go.Proofs.Ytnhhddbbppbblaa
end

section
/-
  Runs along a trace, over views: operations, regions, code, calls, loops' rounds.
-/
namespace Go.Pv
def Seen (o : Option Ob) (rows : List (List PV)) : Prop := ∃ ob, o = some ob ∧ ViewOK ob.sz ob.cells rows
theorem Q3v {ob : Ob} {rows : List (List PV)} (h : ViewOK ob.sz ob.cells rows) : Seen (some ob) rows := ⟨ob, rfl, h⟩
def putV (vw : Views) (cut : List Nat) (new : Views) : Views := new ++ vw.filter fun x => !(has cut x.1)
theorem Qtt {vw : Views} {cut : List Nat} {id : Nat} {rows : List (List PV)} (h : look (vw.filter fun x => !(has cut x.1)) id = some rows) : look vw id = some rows ∧ has cut id = false := by
 induction vw with
 | nil => cases h
 | cons x r ih =>
  obtain ⟨k, rs⟩ := x
  simp only [List.filter_cons] at h
  cases hc : has cut k with
  | true =>
   rw [hc] at h
   simp only [Bool.not_true, Bool.false_eq_true, if_false] at h
   obtain ⟨h1, h2⟩ := ih h
   refine ⟨?_, h2⟩
   simp only [look]
   cases c : Nat.beq k id with
   | true =>
    have := Nat.eq_of_beq_eq_true c
    subst this
    rw [hc] at h2
    cases h2
   | false => exact h1
  | false =>
   rw [hc] at h
   simp only [Bool.not_false, if_true, look] at h ⊢
   cases c : Nat.beq k id with
   | true =>
    rw [c] at h
    have := Nat.eq_of_beq_eq_true c
    subst this
    exact ⟨h, hc⟩
   | false =>
    rw [c] at h
    exact ih h
theorem Qs8 {l : List Nat} {id : Nat} (h : has l id = false) : id ∉ l := by
  induction l with
  | nil => exact List.not_mem_nil
  | cons k r ih =>
    simp only [has] at h
    cases c : Nat.beq k id with
    | true => rw [c] at h; cases h
    | false =>
      rw [c] at h
      simp only [cond_false] at h
      intro hm
      rcases List.mem_cons.1 hm with rfl | hm
      · simp at c
      · exact ih h hm
theorem Qfi {vw new : Views} {cut : List Nat} {id : Nat} {rows : List (List PV)} (h : look (putV vw cut new) id = some rows) : look new id = some rows ∨ (look vw id = some rows ∧ id ∉ cut) := by
 unfold putV at h
 rw [Qn2] at h
 cases hn : look new id with
 | some r => rw [hn] at h; exact .inl h
 | none =>
  rw [hn] at h
  obtain ⟨h1, h2⟩ := Qtt h
  exact .inr ⟨h1, Qs8 h2⟩
theorem Qty {α : Type} {l : List (Nat × α)} {id : Nat} {x : α} (h : look l id = some x) : (id, x) ∈ l := by
 induction l with
 | nil => cases h
 | cons y r ih =>
  obtain ⟨k, z⟩ := y
  simp only [look] at h
  cases c : Nat.beq k id with
  | true =>
   rw [c] at h
   have := Nat.eq_of_beq_eq_true c
   subst this
   simp only [cond_true, Option.some.injEq] at h
   subst h
   exact List.mem_cons_self
  | false =>
   rw [c] at h
   exact List.mem_cons_of_mem _ (ih h)
def Turned (H : Nat → Option Ob) (vw : Views) (e : EV) : Prop := VOK (upH H e.eff.hw) (putV vw e.cut e.new)
theorem Qwd {ws : List (Nat × Option Ob)} {H : Nat → Option Ob} {id : Nat} {o : Option Ob} (hn : (ws.map (·.1)).Nodup) (h : (id, o) ∈ ws) : upH H ws id = o := by
  induction ws generalizing H with
  | nil => cases h
  | cons x r ih =>
    obtain ⟨k, z⟩ := x
    simp only [List.map_cons, List.nodup_cons] at hn
    rw [upH]
    rcases List.mem_cons.1 h with e | h
    · injection e with e1 e2
      subst e1 e2
      rw [Q4z (fun y hy e => hn.1 (by rw [← e]; exact List.mem_map_of_mem hy))]
      simp
    · exact ih hn.2 h
def nodupB : List Nat → Bool
 | [] => true
 | k :: r => !(has r k) && nodupB r
theorem Qox : ∀ {l : List Nat}, nodupB l = true → l.Nodup
 | [], _ => List.nodup_nil
 | k :: r, h => by
  simp only [nodupB, Bool.and_eq_true, Bool.not_eq_true'] at h
  exact List.nodup_cons.2 ⟨Qs8 h.1, Qox h.2⟩
theorem Qse {H : Nat → Option Ob} : ∀ (l : List Nat) (cl : List (Nat × Option Ob)), shut H l = some cl → ∀ id o, (id, o) ∈ cl → ∃ ob ob', H id = some ob ∧ o = some ob' ∧ ob'.sz = ob.sz ∧ ob'.cells = ob.cells
  | [], cl, h, id, o, hm => by
    simp only [shut, Option.some.injEq] at h
    subst h
    cases hm
  | k :: r, cl, h, id, o, hm => by
    simp only [shut] at h
    obtain ⟨ob, hob, h⟩ := Qi h
    obtain ⟨m, hm', h⟩ := Qi h
    simp only [Option.some.injEq] at h
    subst h
    rcases List.mem_cons.1 hm with e | hm
    · injection e with e1 e2
      subst e1 e2
      exact ⟨ob, _, hob, rfl, rfl, rfl⟩
    · exact Qse r m hm' id o hm
def Q15e (H : Nat → Option Ob) (vw : Views) (fr : Nat) (byRef : Bool) (f : Nat) (args : List PV) (az : List Ans) : Option EV :=
  (Q17b H vw fr byRef f args az).bind fun e => bif nodupB (e.eff.hw.map (·.1)) then some e else none
theorem Qsx {G : Nat → Option Fun} {H : Nat → Option Ob} {vw : Views} (hv : VOK H vw) {fr : Nat} {byRef : Bool} {f : Nat} {args : List PV} {az : List Ans} {e : EV} (h : Q15e H vw fr byRef f args az = some e) (hm : Met e.owed) (hq : Told G e.asked) : Qbz (lim G) H fr byRef f args = some e.eff ∧ Turned H vw e := by
  unfold Q15e at h
  obtain ⟨e', h0, h'⟩ := Qi h
  clear h
  cases hnd : nodupB (e'.eff.hw.map (·.1)) with
  | false => rw [hnd] at h'; cases h'
  | true =>
  rw [hnd] at h'
  simp only [cond_true, Option.some.injEq] at h'
  subst h'
  have hnd := Qox hnd
  unfold Q17b at h0
  unfold Qbz
  obtain ⟨y, hy, h⟩ := Qi h0
  clear h0
  obtain ⟨z, hz, h⟩ := Qi h
  simp only at h
  cases hd : disj (y.1.2.2 ++ z.1.2.2) z.1.2.1 with
  | false => rw [hd] at h; cases h
  | true =>
    rw [hd] at h
    simp only [cond_true] at h
    cases az with
    | nil => cases h
    | cons a az' =>
      obtain ⟨r, avw⟩ := a
      cases r with
      | st _ _ => cases h
      | ret v hh =>
        simp only at h
        cases hb : (Nat.ble z.1.2.1.length hh.length && Nat.ble (hh.length - z.1.2.1.length) 64) with
        | false => rw [hb] at h; cases h
        | true =>
          rw [hb] at h
          simp only [cond_true] at h
          obtain ⟨v', hv', h⟩ := Qi h
          obtain ⟨ws, hws, h⟩ := Qi h
          have key : ∀ (hy' : Met y.2) (hz' : Met z.2) (hw' : Met ws.2.1) (ht : Q7 G (.call f y.1.1 z.1.1) (.ret v hh)) (E : Eff),
              (bif flat 8 v && hh.all (fun ob => ob.cells.all (flat 8)) then some ⟨v', ws.1, z.1.2.1 ++ (y.1.2.2 ++ z.1.2.2)⟩ else (shut H (y.1.2.2 ++ z.1.2.2)).bind fun cl => some ⟨v', ws.1 ++ cl, z.1.2.1 ++ (y.1.2.2 ++ z.1.2.2)⟩) = some E →
              ((Q3f (pass H byRef 8) args []).bind fun y => (Q1u H false false 16 0 y.2.1).bind fun z =>
                let ids := z.2.1
                let lent := y.2.2 ++ z.2.2
                bif disj lent ids then
                  (lim G (.call f y.1 z.1)).bind fun r =>
                    match r with
                    | .ret v h =>
                      bif Nat.ble ids.length h.length && Nat.ble (h.length - ids.length) 64 then
                        (back (ren ids fr) 8 v).bind fun v' => (Q6k (ren ids fr) 0 h).bind fun ws =>
                          bif flat 8 v && h.all (fun ob => ob.cells.all (flat 8)) then some ⟨v', ws, ids ++ lent⟩
                          else (shut H lent).bind fun cl => some ⟨v', ws ++ cl, ids ++ lent⟩
                      else none
                    | _ => none
                else none) = some E := by
            intro hy' hz' hw' ht E hE
            rw [Q28 (Q4q hv 8) _ _ y hy hy', Option.bind_some, Q34 hv 16 _ _ z hz hz', Option.bind_some]
            simp only
            rw [hd]
            simp only [cond_true]
            rw [Q16w ht, Option.bind_some]
            simp only
            rw [hb]
            simp only [cond_true]
            rw [hv', Option.bind_some, Q5h hh 0 ws hws hw', Option.bind_some]
            exact hE
          have turn : ∀ (cl : List (Nat × Option Ob)) (hcl : ∀ id o, (id, o) ∈ cl → ∃ ob ob', H id = some ob ∧ o = some ob' ∧ ob'.sz = ob.sz ∧ ob'.cells = ob.cells) (hn : ((ws.1 ++ cl).map (·.1)).Nodup) (hw' : Met ws.2.1) , VOK (upH H (ws.1 ++ cl)) (putV vw (ws.1.map (·.1)) ws.2.2) := by
            intro cl hcl hn hw' id rows hl
            rcases Qfi hl with hl | ⟨hl, hc⟩
            · obtain ⟨ob, hob, hok⟩ := Q5i hh 0 ws hws hw' id rows (Qty hl)
              exact ⟨ob, Qwd hn (List.mem_append_left _ hob), hok⟩
            · obtain ⟨ob, hob, hok⟩ := hv id rows hl
              by_cases hx : ∃ o, (id, o) ∈ cl
              · obtain ⟨o, ho⟩ := hx
                obtain ⟨ob1, ob', h1, rfl, h2, h3⟩ := hcl id o ho
                rw [hob] at h1
                injection h1 with h1
                subst h1
                refine ⟨ob', Qwd hn (List.mem_append_right _ ho), ?_⟩
                rw [h2, h3]
                exact hok
              · refine ⟨ob, ?_, hok⟩
                rw [Q4z (fun y hy e => ?_)]
                · exact hob
                · rcases List.mem_append.1 hy with hy | hy
                  · exact hc (by rw [← e]; exact List.mem_map_of_mem hy)
                  · exact hx ⟨y.2, by rw [← e]; exact hy⟩
          cases hlent : y.1.2.2 ++ z.1.2.2 with
          | nil =>
            rw [hlent] at h
            simp only [Option.some.injEq] at h
            subst h
            simp only at hm hq hnd
            refine ⟨key hm.left hm.right.left hm.right.right (hq _ List.mem_cons_self) _ ?_, ?_⟩
            · rw [hlent]
              cases (flat 8 v && hh.all (fun ob => ob.cells.all (flat 8))) <;> simp [shut]
            · have := turn [] (fun _ _ h => by cases h) (by simpa using hnd) hm.right.right
              rw [List.append_nil] at this
              exact this
          | cons l0 lr =>
            rw [hlent] at h
            simp only at h
            cases hf : (flat 8 v && hh.all (fun ob => ob.cells.all (flat 8))) with
            | true =>
              rw [hf] at h
              simp only [cond_true, Option.some.injEq] at h
              subst h
              simp only at hm hq hnd
              refine ⟨key hm.left hm.right.left hm.right.right (hq _ List.mem_cons_self) _ ?_, ?_⟩
              · rw [hlent, hf]
                rfl
              · have := turn [] (fun _ _ h => by cases h) (by simpa using hnd) hm.right.right
                rw [List.append_nil] at this
                exact this
            | false =>
              rw [hf] at h
              simp only [cond_false] at h
              obtain ⟨cl, hcl, h⟩ := Qi h
              simp only [Option.some.injEq] at h
              subst h
              simp only at hm hq hnd
              refine ⟨key hm.left hm.right.left hm.right.right (hq _ List.mem_cons_self) _ ?_, ?_⟩
              · rw [hlent, hf]
                simp only [cond_false]
                rw [hcl, Option.bind_some]
              · exact turn cl (Qse _ _ hcl) hnd hm.right.right
def mute : Orc := fun _ => none
theorem Qvt {X : Orc} {e : Nat → PV} {H : Nat → Option Ob} {fr : Nat} {o : IOp} {x : Eff} (h : iop mute e H fr o = some x) : iop X e H fr o = some x := by
 cases o with
 | call b f xs =>
  simp only [iop] at h
  obtain ⟨t, _, h⟩ := Qi h
  unfold Qbz at h
  obtain ⟨y, _, h⟩ := Qi h
  obtain ⟨z, _, h⟩ := Qi h
  simp only at h
  cases hd : disj (y.2.2 ++ z.2.2) z.2.1 with
  | false => rw [hd] at h; cases h
  | true =>
   rw [hd] at h
   simp only [cond_true] at h
   obtain ⟨_, h, _⟩ := Qi h
   cases h
 | _ => exact h
theorem Qxl {X : Orc} {e : Nat → PV} {H : Nat → Option Ob} {fr : Nat} {o : IOper} {x : Eff} (h : Q5e mute e H fr o = some x) : Q5e X e H fr o = some x := by
 unfold Q5e at h ⊢
 obtain ⟨w, hw, h⟩ := Qi h
 rw [hw, Option.bind_some]
 cases w with
 | true => exact Qvt h
 | false => exact h
def iopV (e : Nat → PV) (H : Nat → Option Ob) (vw : Views) (fr : Nat) (az : List Ans) : IOp → Option EV
  | .call byRef f args => (target (f.ev e) (evs e args)).bind fun t => Q15e H vw fr byRef t.1 t.2 az
  | o => (iop mute e H fr o).bind fun x => some ⟨x, x.hw.map (·.1), [], az, [], []⟩
def Qwm (e : Nat → PV) (H : Nat → Option Ob) (vw : Views) (fr : Nat) (az : List Ans) (o : IOper) : Option EV :=
 (o.wanted e).bind fun w => bif w then iopV e H vw fr az o.op else some ⟨⟨.tup [], [], []⟩, [], [], az, [], []⟩
theorem Qbo {H : Nat → Option Ob} {vw : Views} (hv : VOK H vw) {x : Eff} {az : List Ans} : Turned H vw ⟨x, x.hw.map (·.1), [], az, [], []⟩ := by
  intro id rows hl
  rcases Qfi hl with hl | ⟨hl, hc⟩
  · cases hl
  · obtain ⟨ob, hob, hok⟩ := hv id rows hl
    refine ⟨ob, ?_, hok⟩
    rw [Q4z (fun y hy e => hc (by rw [← e]; exact List.mem_map_of_mem hy))]
    exact hob
theorem Qbi {G : Nat → Option Fun} {e : Nat → PV} {H : Nat → Option Ob} {vw : Views} (hv : VOK H vw) {fr : Nat} {az : List Ans} {o : IOper} {y : EV} (h : Qwm e H vw fr az o = some y) (hm : Met y.owed) (hq : Told G y.asked) : Q5e (lim G) e H fr o = some y.eff ∧ Turned H vw y := by
  unfold Qwm at h
  obtain ⟨w, hw, h⟩ := Qi h
  unfold Q5e
  rw [hw, Option.bind_some]
  cases w with
  | false =>
    simp only [cond_false, Option.some.injEq] at h
    subst h
    exact ⟨rfl, Qbo hv (x := ⟨.tup [], [], []⟩)⟩
  | true =>
    simp only [cond_true] at h ⊢
    have gen : ((iop mute e H fr o.op).bind fun x => some (⟨x, x.hw.map (·.1), [], az, [], []⟩ : EV)) = some y → iop (lim G) e H fr o.op = some y.eff ∧ Turned H vw y := by
      intro h
      obtain ⟨x, hx, h⟩ := Qi h
      simp only [Option.some.injEq] at h
      subst h
      exact ⟨Qvt hx, Qbo hv⟩
    cases ho : o.op with
    | call b f xs =>
      rw [ho] at h
      simp only [iopV] at h
      obtain ⟨t, ht, h⟩ := Qi h
      simp only [iop]
      rw [ht, Option.bind_some]
      exact Qsx hv h hm hq
    | _ =>
      rw [ho] at h gen
      exact gen h
abbrev Q59 := List (Nat × (Eff × Views))
structure TV where
  env : List PV
  heap : List (Nat × Ob)
  vw : Views
  effs : List Eff
  hs : Q59
  az : List Ans
  owed : List Prop
  asked : Q8z
def nobody : Nat → Option Ob := fun _ => none
def Qp7 (nx : Nat) : Nat → List IOper → Q59 → List Ans → List PV → List (Nat × Ob) → Views → Option TV
  | _, [], hs, az, env, h, vw => some ⟨env, h, vw, [], hs, az, [], []⟩
  | i, o :: r, hs, az, env, h, vw =>
    match hs with
    | [] => (Qwm (envF env) (look h) vw (nx + 64 * i) az o).bind fun x => (Qp7 nx (i + 1) r [] x.az (put env o.dst x.eff.v) (hput h x.eff.hw) (putV vw x.cut x.new)).bind fun y => some ⟨y.env, y.heap, y.vw, x.eff :: y.effs, y.hs, y.az, x.owed ++ y.owed, x.asked ++ y.asked⟩
    | (k + 1, z) :: hs' => (Qwm (envF env) (look h) vw (nx + 64 * i) az o).bind fun x => (Qp7 nx (i + 1) r ((k, z) :: hs') x.az (put env o.dst x.eff.v) (hput h x.eff.hw) (putV vw x.cut x.new)).bind fun y => some ⟨y.env, y.heap, y.vw, x.eff :: y.effs, y.hs, y.az, x.owed ++ y.owed, x.asked ++ y.asked⟩
    | (0, x) :: hs' => (Qp7 nx (i + 1) r hs' az (put env o.dst x.1.v) (hput h x.1.hw) (putV vw (x.1.hw.map (·.1)) x.2)).bind fun y => some ⟨y.env, y.heap, y.vw, x.1 :: y.effs, y.hs, y.az, (Q5e mute (envF env) (look h) (nx + 64 * i) o = some x.1) :: ((x.2.map fun p => Seen (upH nobody x.1.hw p.1) p.2) ++ y.owed), y.asked⟩
theorem VOK.turned {h : List (Nat × Ob)} {vw : Views} {y : EV} (ht : Turned (look h) vw y) : VOK (look (hput h y.eff.hw)) (putV vw y.cut y.new) := by
 rw [Q4t]
 exact ht
theorem Qyp {ws : List (Nat × Option Ob)} {H : Nat → Option Ob} {id : Nat} {ob : Ob} (h : upH nobody ws id = some ob) : upH H ws id = some ob := by
  by_cases c : ∃ x ∈ ws, x.1 = id
  · rw [Qh1 (H' := nobody) c]
    exact h
  · rw [Q4z (fun y hy e => c ⟨y, hy, e⟩)] at h
    cases h
theorem Qh7 {G : Nat → Option Fun} {nx : Nat} : ∀ (ops : List IOper) (i : Nat) (hs : Q59) (az : List Ans) (env : List PV) (h : List (Nat × Ob)) (vw : Views) (t : TV), Qp7 nx i ops hs az env h vw = some t → VOK (look h) vw → Met t.owed → Told G t.asked → Q3t (lim G) nx i ops env h = some (t.env, t.heap, t.effs) ∧ VOK (look t.heap) t.vw
  | [], i, hs, az, env, h, vw, t, ht, hv, _, _ => by
    simp only [Qp7, Option.some.injEq] at ht
    subst ht
    exact ⟨rfl, hv⟩
  | o :: r, i, hs, az, env, h, vw, t, ht, hv, hm, hq => by
    have go : ∀ (x : EV) (hs' : Q59) (vw' : Views), Q5e (lim G) (envF env) (look h) (nx + 64 * i) o = some x.eff → VOK (look (hput h x.eff.hw)) vw' → ∀ (y : TV), Qp7 nx (i + 1) r hs' x.az (put env o.dst x.eff.v) (hput h x.eff.hw) vw' = some y → Met y.owed → Told G y.asked → y.env = t.env → y.heap = t.heap → y.vw = t.vw → x.eff :: y.effs = t.effs → Q3t (lim G) nx i (o :: r) env h = some (t.env, t.heap, t.effs) ∧ VOK (look t.heap) t.vw := by
      intro x hs' vw' hx hvx y hy hmy hqy e1 e2 e3 e4
      obtain ⟨r1, r2⟩ := Qh7 r (i + 1) hs' _ _ _ _ y hy hvx hmy hqy
      simp only [Q3t]
      rw [hx, Option.bind_some, r1, Option.bind_some, ← e1, ← e2, ← e3, ← e4]
      exact ⟨rfl, r2⟩
    unfold Qp7 at ht
    split at ht
    · obtain ⟨x, hx, ht⟩ := Qi ht
      obtain ⟨y, hy, ht⟩ := Qi ht
      simp only [Option.some.injEq] at ht
      subst ht
      obtain ⟨s1, s2⟩ := Qbi hv hx hm.left hq.left
      exact go x _ _ s1 (VOK.turned s2) y hy hm.right hq.right rfl rfl rfl rfl
    · obtain ⟨x, hx, ht⟩ := Qi ht
      obtain ⟨y, hy, ht⟩ := Qi ht
      simp only [Option.some.injEq] at ht
      subst ht
      obtain ⟨s1, s2⟩ := Qbi hv hx hm.left hq.left
      exact go x _ _ s1 (VOK.turned s2) y hy hm.right hq.right rfl rfl rfl rfl
    · rename_i x hs'
      obtain ⟨y, hy, ht⟩ := Qi ht
      simp only [Option.some.injEq] at ht
      subst ht
      have hx : Q5e (lim G) (envF env) (look h) (nx + 64 * i) o = some x.1 := Qxl hm.head
      have hseen : Met (x.2.map fun p => Seen (upH nobody x.1.hw p.1) p.2) := hm.tail.left
      have hvx : VOK (look (hput h x.1.hw)) (putV vw (x.1.hw.map (·.1)) x.2) := by
        rw [Q4t]
        intro id rows hl
        rcases Qfi hl with hl | ⟨hl, hc⟩
        · obtain ⟨ob, hob, hok⟩ := hseen _ (List.mem_map_of_mem (f := fun p : Nat × List (List PV) => Seen (upH nobody x.1.hw p.1) p.2) (Qty hl))
          exact ⟨ob, Qyp hob, hok⟩
        · obtain ⟨ob, hob, hok⟩ := hv id rows hl
          refine ⟨ob, ?_, hok⟩
          rw [Q4z (fun y hy e => hc (by rw [← e]; exact List.mem_map_of_mem hy))]
          exact hob
      exact go ⟨x.1, x.1.hw.map (·.1), x.2, az, [], []⟩ hs' _ hx hvx y hy hm.tail.right hq rfl rfl rfl rfl
structure CV where
  ex : Ex
  st : St
  vw : Views
  hs : Q59
  az : List Ans
  owed : List Prop
  asked : Q8z
def Q49 (m : Nat) : IR → Q59 → List Ans → Views → St → Option CV
 | .skip, hs, az, vw, s => some ⟨.normal, s, vw, hs, az, [], []⟩
 | .reg ops draw, hs, az, vw, s => (Qp7 s.nx 0 ops hs az s.env s.heap vw).bind fun y => bif !draw || calm (ops.zip y.effs) 0 (ops.zip y.effs) then some ⟨.normal, ⟨y.env, y.heap, s.nx + 64 * ops.length⟩, y.vw, y.hs, y.az, y.owed, y.asked⟩ else none
 | .seq a b, hs, az, vw, s => (Q49 m a hs az vw s).bind fun x => (match x.ex with | .normal => (Q49 m b x.hs x.az x.vw x.st).bind fun y => some ⟨y.ex, y.st, y.vw, y.hs, y.az, x.owed ++ y.owed, x.asked ++ y.asked⟩ | _ => some x)
 | .cond c a b, hs, az, vw, s => (match c.ev (envF s.env) with | .bool t => (bif t then Q49 m a hs az vw s else Q49 m b hs az vw s) | _ => none)
 | .block id b, hs, az, vw, s => (Q49 m b hs az vw s).bind fun x => (match x.ex with | .exit j => (bif Nat.beq j id then some ⟨.normal, x.st, x.vw, x.hs, x.az, x.owed, x.asked⟩ else some x) | _ => some x)
 | .loop live b, hs, az, vw, s => (gcV vw m live s).bind fun y => (match az with
  | [] => none
  | a :: az' => (match a.r with | .st e s' => some ⟨e, s', a.vw, hs, az', y.2 ++ (a.vw.map fun p => Seen (look s'.heap p.1) p.2), [(.loop m live b y.1.1 y.1.2, a.r)]⟩ | _ => none))
 | .exit id, hs, az, vw, s => some ⟨.exit id, s, vw, hs, az, [], []⟩
 | .ret, hs, az, vw, s => some ⟨.ret, s, vw, hs, az, [], []⟩
theorem Q1k {G : Nat → Option Fun} {m : Nat} : ∀ (c : IR) (hs : Q59) (az : List Ans) (vw : Views) (s : St) (t : CV), Q49 m c hs az vw s = some t → VOK (look s.heap) vw → Met t.owed → Told G t.asked → Q33 (lim G) m c s = some (t.ex, t.st) ∧ VOK (look t.st.heap) t.vw
  | .skip, hs, az, vw, s, t, ht, hv, _, _ => by
    simp only [Q49, Option.some.injEq] at ht
    subst ht
    exact ⟨rfl, hv⟩
  | .reg ops draw, hs, az, vw, s, t, ht, hv, hm, hq => by
    simp only [Q49] at ht
    obtain ⟨y, hy, ht⟩ := Qi ht
    cases hc : (!draw || calm (ops.zip y.effs) 0 (ops.zip y.effs)) with
    | false => rw [hc] at ht; cases ht
    | true =>
      rw [hc] at ht
      simp only [cond_true, Option.some.injEq] at ht
      subst ht
      obtain ⟨r1, r2⟩ := Qh7 ops 0 hs az s.env s.heap vw y hy hv hm hq
      have h1 : ireg (lim G) ops draw s = some ⟨y.env, y.heap, s.nx + 64 * ops.length⟩ := by
        unfold ireg
        rw [r1, Option.bind_some]
        simp only
        rw [hc]
        rfl
      simp only [Q33]
      rw [h1]
      exact ⟨rfl, r2⟩
  | .seq a b, hs, az, vw, s, t, ht, hv, hm, hq => by
    simp only [Q49] at ht
    obtain ⟨x, hx, ht⟩ := Qi ht
    obtain ⟨ex, st, vw1, hs1, as1, ow1, ak1⟩ := x
    simp only [Q33]
    cases ex with
    | normal =>
      simp only at ht
      obtain ⟨y, hy, ht⟩ := Qi ht
      simp only [Option.some.injEq] at ht
      subst ht
      obtain ⟨r1, r2⟩ := Q1k a hs az vw s _ hx hv hm.left hq.left
      rw [r1, Option.bind_some]
      exact Q1k b _ _ _ _ y hy r2 hm.right hq.right
    | exit j =>
      simp only [Option.some.injEq] at ht
      subst ht
      obtain ⟨r1, r2⟩ := Q1k a hs az vw s _ hx hv hm hq
      rw [r1, Option.bind_some]
      exact ⟨rfl, r2⟩
    | ret =>
      simp only [Option.some.injEq] at ht
      subst ht
      obtain ⟨r1, r2⟩ := Q1k a hs az vw s _ hx hv hm hq
      rw [r1, Option.bind_some]
      exact ⟨rfl, r2⟩
  | .cond c a b, hs, az, vw, s, t, ht, hv, hm, hq => by
    simp only [Q49] at ht
    simp only [Q33]
    split at ht
    · rename_i q hq'
      rw [hq']
      simp only
      cases q with
      | true => exact Q1k a hs az vw s t ht hv hm hq
      | false => exact Q1k b hs az vw s t ht hv hm hq
    · cases ht
  | .block id b, hs, az, vw, s, t, ht, hv, hm, hq => by
    simp only [Q49] at ht
    obtain ⟨x, hx, ht⟩ := Qi ht
    obtain ⟨ex, st, vw1, hs1, as1, ow1, ak1⟩ := x
    simp only [Q33]
    cases ex with
    | normal =>
      simp only [Option.some.injEq] at ht
      subst ht
      obtain ⟨r1, r2⟩ := Q1k b hs az vw s _ hx hv hm hq
      rw [r1, Option.bind_some]
      exact ⟨rfl, r2⟩
    | ret =>
      simp only [Option.some.injEq] at ht
      subst ht
      obtain ⟨r1, r2⟩ := Q1k b hs az vw s _ hx hv hm hq
      rw [r1, Option.bind_some]
      exact ⟨rfl, r2⟩
    | exit j =>
      simp only at ht
      cases hj : Nat.beq j id with
      | true =>
        rw [hj] at ht
        simp only [cond_true, Option.some.injEq] at ht
        subst ht
        obtain ⟨r1, r2⟩ := Q1k b hs az vw s _ hx hv hm hq
        rw [r1, Option.bind_some]
        simp only
        rw [hj]
        exact ⟨rfl, r2⟩
      | false =>
        rw [hj] at ht
        simp only [cond_false, Option.some.injEq] at ht
        subst ht
        obtain ⟨r1, r2⟩ := Q1k b hs az vw s _ hx hv hm hq
        rw [r1, Option.bind_some]
        simp only
        rw [hj]
        exact ⟨rfl, r2⟩
  | .loop live b, hs, az, vw, s, t, ht, hv, hm, hq => by
    simp only [Q49] at ht
    obtain ⟨y, hy, ht⟩ := Qi ht
    simp only [Q33]
    cases az with
    | nil => cases ht
    | cons a az' =>
      obtain ⟨r, avw⟩ := a
      cases r with
      | ret _ _ => cases ht
      | st e s' =>
        simp only [Option.some.injEq] at ht
        subst ht
        rw [Qsi hv hy hm.left, Option.bind_some, Q16w (hq _ List.mem_cons_self), Option.bind_some]
        refine ⟨rfl, fun id rows hl => ?_⟩
        exact hm.right _ (List.mem_map_of_mem (f := fun p : Nat × List (List PV) => Seen (look s'.heap p.1) p.2) (Qty hl))
  | .exit id, hs, az, vw, s, t, ht, hv, _, _ => by
    simp only [Q49, Option.some.injEq] at ht
    subst ht
    exact ⟨rfl, hv⟩
  | .ret, hs, az, vw, s, t, ht, hv, _, _ => by
    simp only [Q49, Option.some.injEq] at ht
    subst ht
    exact ⟨rfl, hv⟩
def finV (fn : IFn) (m : Nat) (vw : Views) (s : St) : Option (Rs × List Prop) :=
 (mapO (rv s) fn.res).bind fun vs =>
  let a := bif fn.keep then Q32 s.nx vs else (vs, s.nx, [])
  let H := look (s.heap ++ a.2.2)
  (Q6m (Q8r H vw fn.keep 8) a.1 (upTo m)).bind fun y =>
   (Q6d H vw false true 32 0 y.1.2.1).bind fun z =>
    bif disj (y.1.2.2 ++ z.1.2.2) z.1.2.1 then some (.ret (match y.1.1 with | [v] => v | l => .tup l) (regr m z.1.1), y.2 ++ z.2) else none
theorem Qm2 {fn : IFn} {m : Nat} {vw : Views} {s : St} (hv : VOK (look s.heap) vw) {y : Rs × List Prop} (h : finV fn m vw s = some y) (hm : Met y.2) : fin fn m s = some y.1 := by
 unfold finV at h
 unfold fin
 obtain ⟨vs, hvs, h⟩ := Qi h
 rw [hvs, Option.bind_some]
 simp only at h ⊢
 have hv' : VOK (look (s.heap ++ (bif fn.keep then Q32 s.nx vs else (vs, s.nx, [])).2.2)) vw := by
  intro id rows hl
  obtain ⟨ob, hob, hok⟩ := hv id rows hl
  refine ⟨ob, ?_, hok⟩
  rw [Qn2, hob]
 obtain ⟨x, hx, h⟩ := Qi h
 obtain ⟨z, hz, h⟩ := Qi h
 cases hd : disj (x.1.2.2 ++ z.1.2.2) z.1.2.1 with
 | false => rw [hd] at h; cases h
 | true =>
  rw [hd] at h
  simp only [cond_true, Option.some.injEq] at h
  subst h
  rw [Q28 (Q4q hv' 8) _ _ x hx hm.left, Option.bind_some, Q34 hv' 32 _ _ z hz hm.right, Option.bind_some, hd]
  rfl
def Q182 (fn : IFn) (args : List PV) (h : List Ob) (vw : Views) (hs : Q59) (az : List Ans) : Option (Rs × List Prop × Q8z) :=
 bif Nat.beq args.length fn.np then
  (Q49 h.length fn.body hs az vw ⟨args ++ nuns (fn.nt - fn.np), number 0 h, h.length⟩).bind fun x =>
   (match x.ex with
    | .exit _ => none
    | _ => (finV fn h.length x.vw x.st).bind fun r => some (r.1, x.owed ++ r.2, x.asked))
 else none
theorem Q18f {G : Nat → Option Fun} {f : Nat} {fn : IFn} (hG : G f = some (.ir fn)) {args : List PV} {h : List Ob} {vw : Views} (hv : VOK (look (number 0 h)) vw) {hs : Q59} {az : List Ans} {r : Rs} {ow : List Prop} {ak : Q8z} (hp : Met ow) (hq : Told G ak) (ht : Q182 fn args h vw hs az = some (r, ow, ak)) : Q7 G (.call f args h) r := by
 refine Q10m Qd0 ?_
 unfold Q182 at ht
 simp only [phi, hG]
 cases hl : Nat.beq args.length fn.np with
 | false => rw [hl] at ht; cases ht
 | true =>
  rw [hl] at ht
  simp only [cond_true] at ht ⊢
  obtain ⟨x, hx, ht⟩ := Qi ht
  obtain ⟨ex, st, vw1, hs1, as1, ow1, ak1⟩ := x
  cases ex with
  | exit j => cases ht
  | normal =>
   simp only at ht
   obtain ⟨r', hr, ht⟩ := Qi ht
   simp only [Option.some.injEq, Prod.mk.injEq] at ht
   obtain ⟨rfl, rfl, rfl⟩ := ht
   obtain ⟨r1, r2⟩ := Q1k _ hs az vw _ _ hx hv hp.left hq
   rw [r1, Option.bind_some]
   exact Qm2 r2 hr hp.right
  | ret =>
   simp only at ht
   obtain ⟨r', hr, ht⟩ := Qi ht
   simp only [Option.some.injEq, Prod.mk.injEq] at ht
   obtain ⟨rfl, rfl, rfl⟩ := ht
   obtain ⟨r1, r2⟩ := Q1k _ hs az vw _ _ hx hv hp.left hq
   rw [r1, Option.bind_some]
   exact Qm2 r2 hr hp.right
theorem VOK.nil {H : Nat → Option Ob} : VOK H [] := fun _ _ h => by cases h
def Q18j (m : Nat) (live : List Nat) (b : IR) (env : List PV) (h : List Ob) (vw : Views) (hs : Q59) (az : List Ans) : Option ((List PV × List Ob) × List Prop × Q8z) :=
 (Q49 m b hs az vw ⟨env, number 0 h, h.length⟩).bind fun x => (match x.ex with | .normal => (gcV x.vw m live x.st).bind fun y => some (y.1, x.owed ++ y.2, x.asked) | _ => none)
theorem Qtk {G : Nat → Option Fun} {m : Nat} {live : List Nat} {b : IR} {env : List PV} {h : List Ob} {vw : Views} (hv : VOK (look (number 0 h)) vw) {hs : Q59} {az : List Ans} {y : List PV × List Ob} {ow : List Prop} {ak : Q8z} {r : Rs} (hp : Met ow) (hq : Told G ak) (ht : Q18j m live b env h vw hs az = some (y, ow, ak)) (hr : Q7 G (.loop m live b y.1 y.2) r) : Q7 G (.loop m live b env h) r := by
 unfold Q18j at ht
 obtain ⟨x, hx, ht⟩ := Qi ht
 obtain ⟨ex, st, vw1, hs1, as1, ow1, ak1⟩ := x
 cases ex with
 | normal =>
  simp only at ht
  obtain ⟨y', hg, ht⟩ := Qi ht
  simp only [Option.some.injEq, Prod.mk.injEq] at ht
  obtain ⟨rfl, rfl, rfl⟩ := ht
  obtain ⟨r1, r2⟩ := Q1k _ hs az vw _ _ hx hv hp.left hq
  exact Qyk Qd0 r1 (Qsi r2 hg hp.right) hr
 | exit j => cases ht
 | ret => cases ht
def Q125 (m : Nat) (b : IR) (env : List PV) (h : List Ob) (vw : Views) (hs : Q59) (az : List Ans) : Option ((Ex × St) × List Prop × Q8z) :=
 (Q49 m b hs az vw ⟨env, number 0 h, h.length⟩).bind fun x => (match x.ex with | .normal => none | e => some ((e, x.st), x.owed, x.asked))
theorem Qxd {G : Nat → Option Fun} {m : Nat} {live : List Nat} {b : IR} {env : List PV} {h : List Ob} {vw : Views} (hv : VOK (look (number 0 h)) vw) {hs : Q59} {az : List Ans} {x : Ex × St} {ow : List Prop} {ak : Q8z} (hp : Met ow) (hq : Told G ak) (ht : Q125 m b env h vw hs az = some (x, ow, ak)) : Q7 G (.loop m live b env h) (.st x.1 x.2) := by
 unfold Q125 at ht
 obtain ⟨y, hy, ht⟩ := Qi ht
 obtain ⟨ex, st, vw1, hs1, as1, ow1, ak1⟩ := y
 cases ex with
 | normal => cases ht
 | exit j =>
  simp only [Option.some.injEq, Prod.mk.injEq] at ht
  obtain ⟨rfl, rfl, rfl⟩ := ht
  exact Qfn Qd0 (by intro h; cases h) (Q1k _ hs az vw _ _ hy hv hp hq).1
 | ret =>
  simp only [Option.some.injEq, Prod.mk.injEq] at ht
  obtain ⟨rfl, rfl, rfl⟩ := ht
  exact Qfn Qd0 (by intro h; cases h) (Q1k _ hs az vw _ _ hy hv hp hq).1
end Go.Pv
end

section
/-
  Small words and hints' lemmas for walks that a program prints.
-/
namespace Go.Pv
def bE (b : Bool) : Eff := ⟨.bool b, [], []⟩
def vE (v : PV) : Eff := ⟨v, [], []⟩
def w64 (n : Int) : Int := IntKind.i64.wrap n
def mx (x y : Int) : Int := if y > x then y else x
def sEq (a b : ByteArray) : Bool := a.toList == b.toList
def sLt (a b : ByteArray) : Bool := Op.bytesLess a.toList b.toList
theorem dec (c v : Bool) (h : c = v) : some (bE c) = some (bE v) := by rw [h]
theorem toldOf {G : Nat → Option Fun} {e : En} {r r' : Rs} (h : Q7 G e r) (hr : r = r') : Q7 G e r' := hr ▸ h
theorem Qg {α : Type} {f : α → List PV} {l : List α} {i : Nat} {x : α} (h : l[i]? = some x) : (l.map f)[i]? = some (f x) := by
 rw [List.getElem?_map, h]
 rfl
def ixE (sz : Nat) (l : List (List PV)) (i : Int) : Option Eff := (opP (fun _ => .un) (.iaddr sz (.c (.sl l)) (.c (.int .i64 i)))).bind fun v => some ⟨v, [], []⟩
theorem Q10 (sz : Nat) (l : List (List PV)) (i : Nat) (r : List PV) (h : l[i]? = some r) (hs : r.length = sz) : ixE sz l (i : Int) = some (vE (.rf r)) := by
 unfold ixE
 simp only [opP, Opd.ev, asNat]
 have h0 : decide (0 ≤ (i : Int)) = true := by simp
 rw [h0]
 simp only [cond_true, Option.bind_some, Int.toNat_natCast]
 rw [h]
 subst hs
 simp [vE]
theorem Q55 (sz : Nat) (l : List (List PV)) (i : Int) (r : List PV) (h0 : 0 ≤ i) (h : l[i.toNat]? = some r) (hs : r.length = sz) : ixE sz l i = some (vE (.rf r)) := by
 have := Q10 sz l i.toNat r h hs
 rw [show ((i.toNat : Nat) : Int) = i by omega] at this
 exact this
def lenE (l : List (List PV)) : Option Eff := some ⟨.int .i64 (l.length : Int), [], []⟩
theorem Qe (l : List (List PV)) (n : Nat) (h : l.length = n) : lenE l = some (vE (.int .i64 (n : Int))) := by
 unfold lenE
 rw [h]
 rfl
theorem Qbx {n : Int} (h : -9223372036854775808 ≤ n ∧ n ≤ 9223372036854775807) : w64 n = n := by
 unfold w64 IntKind.wrap
 simp [IntKind.signed, IntKind.bits]
 omega
def addE (a b : Int) : Option Eff := some ⟨.int .i64 (IntKind.i64.wrap (a + b)), [], []⟩
theorem Qr (i : Nat) (h : i < 9223372036854775807) : addE (i : Int) 1 = some (vE (.int .i64 ((i + 1 : Nat) : Int))) := by
 unfold addE
 have : IntKind.i64.wrap ((i : Int) + 1) = ((i + 1 : Nat) : Int) := by
  have := Qbx (n := (i : Int) + 1) (by omega)
  unfold w64 at this
  rw [this]
  rfl
 rw [this]
 rfl
theorem Q1b9 {ob : Ob} {k : Nat} (h : ob.cells.length = k) : apC ob k = some ob.cells := by
 unfold apC
 rw [h, Nat.beq_refl]
 rfl
def apE (id lid fr sz bytes ro lro : Nat) (lgr : Bool) (rows : List (List PV)) (r : List PV) (n : Nat) : Option Eff :=
 Q46 (look [(id, ⟨sz, ro, true, rows.flatten⟩), (lid, ⟨sz, lro, lgr, r⟩)]) fr sz bytes (.ms id sz 0 n) (.ms lid sz 0 1)
theorem Qf2 (id lid fr sz bytes ro lro : Nat) (lgr : Bool) (rows rows' : List (List PV)) (r : List PV) (n n' : Nat) (hne : Nat.beq id lid = false) (hn : n = rows.length) (hn' : n' = rows'.length) (hr' : rows' = rows ++ [r])
  (hs : ∀ r ∈ rows, r.length = sz) (hr : r.length = sz) (hb : (n + 1) * bytes ≤ 140737488355328) :
  apE id lid fr sz bytes ro lro lgr rows r n = some ⟨.ms fr sz 0 n', [(id, none), (fr, some ⟨sz, ro, true, rows'.flatten⟩)], [id, lid]⟩ := by
 subst hn hn' hr'
 unfold apE Q46
 have h1 : look [(id, (⟨sz, ro, true, rows.flatten⟩ : Ob)), (lid, ⟨sz, lro, lgr, r⟩)] lid = some ⟨sz, lro, lgr, r⟩ := by simp [look, hne]
 have h2 : look [(id, (⟨sz, ro, true, rows.flatten⟩ : Ob)), (lid, ⟨sz, lro, lgr, r⟩)] id = some ⟨sz, ro, true, rows.flatten⟩ := by simp [look]
 have hsrc : source (look [(id, (⟨sz, ro, true, rows.flatten⟩ : Ob)), (lid, ⟨sz, lro, lgr, r⟩)]) sz (.ms lid sz 0 1) = some (1, r, [lid]) := by
  simp only [source, h1, Option.bind_some]
  subst hr
  have : Nat.ble r.length r.length = true := Nat.ble_eq_true_of_le (Nat.le_refl _)
  simp [this]
 rw [hsrc, Option.bind_some]
 simp only [h2, Option.bind_some]
 have hc : (true && Nat.beq sz sz && Nat.beq sz sz && Nat.beq 0 0 && Nat.ble ((rows.length + 1) * bytes) 140737488355328) = true := by
  simp only [Nat.beq_refl, Bool.and_true, Bool.true_and]
  exact Nat.ble_eq_true_of_le hb
 rw [hc, Q1b9 (ob := ⟨sz, ro, true, rows.flatten⟩) (Q3d sz rows hs)]
 simp
end Go.Pv
namespace Go.Pv
theorem VOK.cons {H : Nat → Option Ob} {vw : Views} {id : Nat} {rows : List (List PV)} (h : Seen (H id) rows) (hv : VOK H vw) : VOK H ((id, rows) :: vw) := by
 intro k rs hl
 simp only [look] at hl
 cases c : Nat.beq id k with
 | true =>
  have := Nat.eq_of_beq_eq_true c
  subst this
  rw [c] at hl
  simp only [cond_true, Option.some.injEq] at hl
  subst hl
  exact h
 | false =>
  rw [c] at hl
  exact hv k rs hl
theorem Qz {α : Type} {l : List α} {i : Nat} {x : α} {r : List α} (h : l.drop i = x :: r) : l[i]? = some x ∧ i < l.length ∧ l.drop (i + 1) = r := by
 have h1 : l[i]? = some x := by
  have := congrArg (fun q => q[0]?) h
  simpa [List.getElem?_drop] using this
 have h2 : i < l.length := (List.getElem?_eq_some_iff.1 h1).1
 refine ⟨h1, h2, ?_⟩
 rw [← List.tail_drop, h]
 rfl
theorem Q1d {α : Type} {l : List α} {i : Nat} (h : l.drop i = []) : l.length ≤ i := by
 simpa using h
theorem Qt {α : Type} {l : List α} {i : Nat} {x : α} (h : l[i]? = some x) : x ∈ l := List.mem_of_getElem? h
def Q4p (l : List Int) : List (List PV) := l.map fun n => [.int .i64 n]
theorem Qle (l : List Int) : (Q4p l).length = l.length := by simp [Q4p]
theorem Qji {l : List Int} {i : Nat} {x : Int} (h : l[i]? = some x) : (Q4p l)[i]? = some [.int .i64 x] := Qg (f := fun n => [.int .i64 n]) h
theorem Q15d {α : Type} {f : α → List PV} {n : Nat} (h : ∀ x, (f x).length = n) (l : List α) : ∀ r ∈ l.map f, r.length = n := fun r hr => by
 obtain ⟨x, _, rfl⟩ := List.mem_map.1 hr
 exact h x
theorem Qun {α : Type} {f : α → List PV} (h : ∀ x, (f x).all plain = true) (l : List α) : ∀ r ∈ l.map f, ∀ p ∈ r, plain p = true := fun r hr p hp => by
 obtain ⟨x, _, rfl⟩ := List.mem_map.1 hr
 exact List.all_eq_true.1 (h x) p hp
end Go.Pv
namespace Go.Pv
def zoF (l : List (Nat × List PV)) (j : Nat) : List PV := (look l j).getD []
end Go.Pv
namespace Go.Pv
def optI : Option Int → Option Opd
 | none => none
 | some n => some (.c (.int .i64 n))
theorem Q124 {l : List (List PV)} {sz : Nat} (hs : ∀ r ∈ l, r.length = sz) : Q6n l sz = true := by
 unfold Q6n
 rw [List.all_eq_true]
 intro r hr
 rw [hs r hr]
 exact Nat.beq_refl sz
end Go.Pv
namespace Go.Pv
def ixmE (id sz off len : Nat) (i : Int) : Option Eff := (opP (fun _ => .un) (.iaddr sz (.c (.ms id sz off len)) (.c (.int .i64 i)))).bind fun v => some ⟨v, [], []⟩
theorem Q19h (id sz off len : Nat) (i : Int) (k at_ : Nat) (h : i = (k : Int)) (hk : k < len) (ha : at_ = (off + k) * sz) : ixmE id sz off len i = some (vE (.bx id at_)) := by
 subst h ha
 unfold ixmE
 simp only [opP, Opd.ev, asNat]
 have h0 : decide (0 ≤ (k : Int)) = true := by simp
 rw [h0]
 simp only [cond_true, Option.bind_some, Int.toNat_natCast]
 have h1 : (Nat.beq sz sz && Nat.blt k len) = true := by
  rw [Nat.beq_refl, Bool.true_and]
  exact Nat.ble_eq_true_of_le hk
 rw [h1]
 rfl
end Go.Pv
namespace Go.Pv
theorem Q1m (id sz len : Nat) (i : Int) (k : Nat) (hk : k = i.toNat) (h0 : 0 ≤ i) (h1 : i < (len : Int)) : ixmE id sz 0 len i = some (vE (.bx id (k * sz))) :=
 Q19h id sz 0 len i k (k * sz) (by omega) (by omega) (by rw [Nat.zero_add])
theorem Qbt (sz : Nat) : ∀ (rows : List (List PV)) (k : Nat), (∀ r ∈ rows, r.length = sz) → rows.flatten.drop (k * sz) = (rows.drop k).flatten
 | [], k, _ => by simp
 | r :: rs, 0, _ => by simp
 | r :: rs, k + 1, h => by
  have h0 := h r List.mem_cons_self
  rw [List.flatten_cons, List.drop_succ_cons, ← Qbt sz rs k (fun q hq => h q (List.mem_cons_of_mem _ hq)), Nat.add_mul, Nat.one_mul, Nat.add_comm, ← List.drop_drop, List.drop_left' h0]
theorem Qxi {sz : Nat} {rows : List (List PV)} {k : Nat} {r : List PV} {off n : Nat} (hr : rows[k]? = some r) (hs : ∀ r ∈ rows, r.length = sz) (hn : off + n ≤ sz) : (rows.flatten.drop (k * sz + off)).take n = (r.drop off).take n ∧ k * sz + off + n ≤ rows.flatten.length := by
  have hk : k < rows.length := (List.getElem?_eq_some_iff.1 hr).1
  have hd : rows.drop k = r :: rows.drop (k + 1) := by
    rw [List.drop_eq_getElem_cons hk]
    congr 1
    exact (List.getElem?_eq_some_iff.1 hr).2
  have hl := hs r (List.mem_of_getElem? hr)
  refine ⟨?_, ?_⟩
  · rw [← List.drop_drop, Qbt sz rows k hs, hd, List.flatten_cons]
    rw [List.drop_append_of_le_length (by omega), List.take_append_of_le_length (by rw [List.length_drop]; omega)]
  · rw [Q3d sz rows hs]
    have : (k + 1) * sz ≤ rows.length * sz := Nat.mul_le_mul_right _ hk
    rw [Nat.add_mul] at this
    omega
def ldE (id sz ro : Nat) (gr : Bool) (cells : List PV) (n : Nat) (ag : Bool) (at_ : Nat) : Option Eff := Qf1 (look [(id, ⟨sz, ro, gr, cells⟩)]) n ag (.bx id at_)
theorem Q31 (id sz ro : Nat) (gr : Bool) (cells : List PV) (rows : List (List PV)) (n : Nat) (ag : Bool) (k off at_ : Nat) (r : List PV) (v : PV) (hc : cells = rows.flatten) (ha : at_ = k * sz + off) (hr : rows[k]? = some r) (hs : ∀ r ∈ rows, r.length = sz) (hn : off + n ≤ sz) (hv : shape ag ((r.drop off).take n) = some v) :
  ldE id sz ro gr cells n ag at_ = some ⟨v, [], [id]⟩ := by
 subst hc ha
 obtain ⟨h1, h2⟩ := Qxi hr hs hn
 unfold ldE Qf1 reads
 simp only [look, Nat.beq_refl, cond_true, Option.bind_some]
 rw [Nat.ble_eq_true_of_le h2]
 simp only [cond_true, Option.bind_some]
 rw [h1, hv, Option.bind_some]
theorem Qu {α : Type} (l : List α) (k : Nat) (d : α) (h : k < l.length) : l[k]? = some (l.getD k d) := by
 rw [List.getD_eq_getElem?_getD, List.getElem?_eq_getElem h]
 rfl
end Go.Pv
namespace Go.Pv
end Go.Pv
namespace Go.Pv
end Go.Pv
end

