/- Texts of the claim, merged by a program; what the statement does not reach is left out. -/
import Derived.Test.YtiflaadeikaghaaGreatBPodcodecMissing1
import Derived.Orders
import Derived.LoopN
import Derived.ChangeArms
import Derived.ChangeSlices
import Derived.ChangeOld
import Derived.Carry
import GoSem.ClaimJoined
import Derived.Lib.SliceRun
import Derived.Test.YtiflaadeikaghaaGreatProg
import Derived.KernelRfl

section
/-
  A region, in whatever order.
-/
namespace Go.Pv
open Go.RowKit
def Qfj (ops : Array Oper) : Option (Nat × Bool) → Option (Nat × Bool) → Bool
  | none, none => true
  | some (j, w), some (s, w') => (w == w') && Qtl ((ops[j]?).bind (·.dst)) s
  | _, _ => false
def Qrq : Option Nat → Option Nat → Bool
 | none, none => true
 | some a, some b => Nat.beq a b
 | _, _ => false
def Q97 (P : Program) (ops : Array Oper) (o : Oper) (io : IOper) : Bool := Qrq o.dst io.dst && Qfj ops o.guard io.guard && Qzr P o.op io.op
def Qfp (P : Program) (ops : Array Oper) : List Oper → List IOper → Bool
 | [], [] => true
 | o :: r, io :: r' => Q97 P ops o io && Qfp P ops r r'
 | _, _ => false
def Q1fw (ios : List IOper) (k : Nat) : List Nat :=
 match ios[k]? with
 | some io => io.bef
 | none => []
def Qxm (ios : List IOper) : Nat → List Oper → List IOper → Bool
 | j, o :: r, io :: r' =>
  (io.bef.all fun i => o.after.toList.any fun e => Region.binds .any e && (Nat.beq e.on i || has (Q1fw ios e.on) i)) &&
   (o.after.toList.all fun e => !(Region.binds .any e) || Nat.blt e.on j) && Qxm ios (j + 1) r r'
 | _, _, _ => true
theorem Qca {a b : Option Nat} (h : Qrq a b = true) : a = b := by
 cases a <;> cases b <;> first | rfl | (cases h; done) | exact congrArg some (Nat.eq_of_beq_eq_true h)
theorem Qc6 {P : Program} {ops : Array Oper} : ∀ {l : List Oper} {l' : List IOper}, Qfp P ops l l' = true → l.length = l'.length ∧ ∀ (i : Nat) o io, l[i]? = some o → l'[i]? = some io → Q97 P ops o io = true
 | [], [], _ => ⟨rfl, fun i o io h => by simp at h⟩
 | [], _ :: _, h => by cases h
 | _ :: _, [], h => by cases h
 | o :: r, io :: r', h => by
  simp only [Qfp, Bool.and_eq_true] at h
  obtain ⟨h1, h2⟩ := Qc6 h.2
  refine ⟨by simp [h1], fun i o' io' ho hio => ?_⟩
  cases i with
  | zero =>
   simp at ho hio
   subst ho hio
   exact h.1
  | succ i => exact h2 i o' io' (by simpa using ho) (by simpa using hio)
theorem Qk9 {ios : List IOper} : ∀ {j : Nat} {l : List Oper} {l' : List IOper}, Qxm ios j l l' = true → ∀ (i : Nat) o io, l[i]? = some o → l'[i]? = some io →
    (∀ k ∈ io.bef, ∃ e ∈ o.after, Region.binds .any e = true ∧ (e.on = k ∨ k ∈ Q1fw ios e.on)) ∧ ∀ e ∈ o.after, Region.binds .any e = true → e.on < j + i
  | j, [], l', _, i, o, io, ho, _ => by simp at ho
  | j, _ :: _, [], _, i, o, io, _, hio => by simp at hio
  | j, o :: r, io :: r', h, i, o', io', ho, hio => by
    simp only [Qxm, Bool.and_eq_true] at h
    cases i with
    | zero =>
      simp at ho hio
      subst ho hio
      refine ⟨fun k hk => ?_, fun e he hb => ?_⟩
      · have := List.all_eq_true.1 h.1.1 k hk
        obtain ⟨e, he, hb⟩ := List.any_eq_true.1 this
        rw [Bool.and_eq_true, Bool.or_eq_true] at hb
        exact ⟨e, by simpa using he, hb.1, hb.2.imp Nat.eq_of_beq_eq_true Q7h.1⟩
      · have := List.all_eq_true.1 h.1.2 e (by simpa using he)
        rw [Bool.or_eq_true] at this
        rcases this with h' | h'
        · rw [hb] at h'; cases h'
        · exact Nat.le_of_ble_eq_true h'
    | succ i =>
      obtain ⟨h1, h2⟩ := Qk9 h.2 i o' io' (by simpa using ho) (by simpa using hio)
      exact ⟨h1, fun e he hb => by have := h2 e he hb; omega⟩
def Last {β : Type} (W : Nat → Nat → Option β) (s0 : Nat → β) (S : Nat → Prop) (s : Nat → β) : Prop :=
 ∀ t, (∃ k, S k ∧ W k t = some (s t) ∧ ∀ k', S k' → k < k' → W k' t = none) ∨ ((∀ k, S k → W k t = none) ∧ s t = s0 t)
section
variable {β : Type} {W : Nat → Nat → Option β} {s0 : Nat → β}
theorem Last.det {S S' : Nat → Prop} {s s' : Nat → β} (h : Last W s0 S s) (h' : Last W s0 S' s') {t : Nat} (hs : ∀ k, W k t ≠ none → (S k ↔ S' k)) : s t = s' t := by
  rcases h t with ⟨k, h1, h2, h3⟩ | ⟨h1, h2⟩ <;> rcases h' t with ⟨k', g1, g2, g3⟩ | ⟨g1, g2⟩
  · rcases Nat.lt_trichotomy k k' with c | c | c
    · have := h3 k' ((hs k' (by rw [g2]; exact fun h => by cases h)).2 g1) c
      rw [g2] at this; cases this
    · subst c
      rw [h2] at g2
      injection g2
    · have := g3 k ((hs k (by rw [h2]; exact fun h => by cases h)).1 h1) c
      rw [h2] at this; cases this
  · have := g1 k ((hs k (by rw [h2]; exact fun h => by cases h)).1 h1)
    rw [h2] at this; cases this
  · have := h1 k' ((hs k' (by rw [g2]; exact fun h => by cases h)).2 g1)
    rw [g2] at this; cases this
  · rw [h2, g2]
theorem Last.add {S S' : Nat → Prop} {s s' : Nat → β} {i : Nat} (h : Last W s0 S s) (hS : ∀ k, S' k ↔ S k ∨ k = i) (hi : ∀ k t, S k → i < k → W k t ≠ none → W i t = none) (hs : ∀ t, s' t = (W i t).getD (s t)) : Last W s0 S' s' := by
  intro t
  cases hw : W i t with
  | some v =>
    refine .inl ⟨i, (hS i).2 (.inr rfl), by rw [hs t, hw]; rfl, fun k' hk hlt => ?_⟩
    rcases (hS k').1 hk with hk | rfl
    · cases hk' : W k' t with
      | none => rfl
      | some u =>
        have := hi k' t hk hlt (by rw [hk']; exact fun h => by cases h)
        rw [hw] at this; cases this
    · omega
  | none =>
    have e : s' t = s t := by rw [hs t, hw]; rfl
    rw [e]
    rcases h t with ⟨k, h1, h2, h3⟩ | ⟨h1, h2⟩
    · refine .inl ⟨k, (hS k).2 (.inl h1), h2, fun k' hk hlt => ?_⟩
      rcases (hS k').1 hk with hk | rfl
      · exact h3 k' hk hlt
      · exact hw
    · refine .inr ⟨fun k hk => ?_, h2⟩
      rcases (hS k).1 hk with hk | rfl
      · exact h1 k hk
      · exact hw
theorem Last.none {S : Nat → Prop} (h : ∀ k, ¬ S k) : Last W s0 S s0 := fun _ => .inr ⟨fun k hk => absurd hk (h k), rfl⟩
end
theorem Q12w {l : List PV} {d : Option Nat} {v : PV} {t : Nat} : envF (put l d v) t = if d = some t ∧ t < l.length then v else envF l t := by
  unfold put envF
  cases d with
  | none => simp
  | some d =>
    by_cases c : d = t
    · subst c
      by_cases c' : d < l.length
      · simp [c']
      · simp [c']
    · simp [c, List.getElem?_set_ne c]
theorem Qpr {l : List PV} {d : Option Nat} {v : PV} : (put l d v).length = l.length := by
 unfold put
 cases d <;> simp
theorem Q19s {h : List (Nat × Ob)} {id j : Nat} {ob : Ob} : look (hput.repl h id ob) j = if j = id then some ob else look h j := by
  induction h with
  | nil =>
    simp only [hput.repl, look]
    by_cases c : id = j
    · subst c; simp
    · have : Nat.beq id j = false := by rw [Bool.eq_false_iff]; exact fun h => c (Nat.eq_of_beq_eq_true h)
      simp [this, Ne.symm c]
  | cons y r ih =>
    obtain ⟨k, x⟩ := y
    simp only [hput.repl]
    by_cases c : k = id
    · subst c
      simp only [Nat.beq_refl, cond_true, look]
      by_cases c' : k = j
      · subst c'; simp
      · have : Nat.beq k j = false := by rw [Bool.eq_false_iff]; exact fun h => c' (Nat.eq_of_beq_eq_true h)
        simp [this, Ne.symm c']
    · have : Nat.beq k id = false := by rw [Bool.eq_false_iff]; exact fun h => c (Nat.eq_of_beq_eq_true h)
      simp only [this, cond_false, look, ih]
      by_cases c' : k = j
      · subst c'; simp [c]
      · have : Nat.beq k j = false := by rw [Bool.eq_false_iff]; exact fun h => c' (Nat.eq_of_beq_eq_true h)
        simp [this]
theorem Q18b {h : List (Nat × Ob)} {id j : Nat} : look (hput.drop h id) j = if j = id then none else look h j := by
  induction h with
  | nil => simp [hput.drop, look]
  | cons y r ih =>
    obtain ⟨k, x⟩ := y
    simp only [hput.drop]
    by_cases c : k = id
    · subst c
      simp only [Nat.beq_refl, cond_true, look, ih]
      by_cases c' : k = j
      · subst c'; simp
      · have : Nat.beq k j = false := by rw [Bool.eq_false_iff]; exact fun h => c' (Nat.eq_of_beq_eq_true h)
        simp [this]
    · have : Nat.beq k id = false := by rw [Bool.eq_false_iff]; exact fun h => c (Nat.eq_of_beq_eq_true h)
      simp only [this, cond_false, look, ih]
      by_cases c' : k = j
      · subst c'; simp [c]
      · have : Nat.beq k j = false := by rw [Bool.eq_false_iff]; exact fun h => c' (Nat.eq_of_beq_eq_true h)
        simp [this]
theorem Q6k : ∀ (ws : List (Nat × Option Ob)) (h : List (Nat × Ob)), look (hput h ws) = upH (look h) ws
 | [], h => rfl
 | (id, some ob) :: r, h => by
  rw [hput, Q6k r, upH]
  congr 1
  funext j
  exact Q19s
 | (id, none) :: r, h => by
  rw [hput, Q6k r, upH]
  congr 1
  funext j
  exact Q18b
theorem Ql2 : ∀ {ws : List (Nat × Option Ob)} {H H' : Nat → Option Ob} {j : Nat}, (∃ x ∈ ws, x.1 = j) → upH H ws j = upH H' ws j
  | [], _, _, _, h => by obtain ⟨x, hx, _⟩ := h; cases hx
  | (id, o) :: r, H, H', j, h => by
    rw [upH, upH]
    by_cases c : ∃ y ∈ r, y.1 = j
    · exact Ql2 c
    · rw [Q6g (fun y hy e => c ⟨y, hy, e⟩), Q6g (fun y hy e => c ⟨y, hy, e⟩)]
      obtain ⟨y, hy, rfl⟩ := h
      rcases List.mem_cons.1 hy with rfl | hy
      · simp
      · exact absurd ⟨y, hy, rfl⟩ c
def WE (L : Nat) (ios : List IOper) (xs : List Eff) (k t : Nat) : Option PV :=
 match ios[k]?, xs[k]? with
 | some o, some x => if o.dst = some t ∧ t < L then some x.v else none
 | _, _ => none
def WH (xs : List Eff) (k id : Nat) : Option (Option Ob) :=
  match xs[k]? with
  | some x => bif has (x.hw.map (·.1)) id then some (upH (fun _ => none) x.hw id) else none
  | none => none
theorem Q1a5 {L : Nat} {ios : List IOper} {xs : List Eff} {k t : Nat} {o : IOper} {x : Eff} (ho : ios[k]? = some o) (hx : xs[k]? = some x) (p : PV) : (WE L ios xs k t).getD p = if o.dst = some t ∧ t < L then x.v else p := by
 unfold WE
 rw [ho, hx]
 simp only
 split <;> rfl
theorem Q1am {xs : List Eff} {k id : Nat} {x : Eff} (hx : xs[k]? = some x) (H : Nat → Option Ob) : (WH xs k id).getD (H id) = upH H x.hw id := by
  unfold WH
  rw [hx]
  simp only
  cases hh : has (x.hw.map (·.1)) id with
  | true =>
    have := Q7h.1 hh
    obtain ⟨y, hy, e⟩ := List.mem_map.1 this
    exact Ql2 ⟨y, hy, e⟩
  | false =>
    show H id = _
    rw [Q6g (fun y hy e => by rw [Q7h.2 (List.mem_map.2 ⟨y, hy, e⟩)] at hh; cases hh)]
theorem Q1li {L : Nat} {ios : List IOper} {xs : List Eff} {k t : Nat} (h : WE L ios xs k t ≠ none) : ∃ o x, ios[k]? = some o ∧ xs[k]? = some x ∧ o.dst = some t ∧ t < L := by
  unfold WE at h
  split at h
  · rename_i o x ho hx
    split at h
    · rename_i hc; exact ⟨o, x, ho, hx, hc.1, hc.2⟩
    · exact absurd rfl h
  · exact absurd rfl h
theorem Q1gs {L : Nat} {ios : List IOper} {xs : List Eff} {k t : Nat} {o : IOper} (ho : ios[k]? = some o) (h : o.dst ≠ some t) : WE L ios xs k t = none := by
 unfold WE
 rw [ho]
 cases xs[k]? with
 | none => rfl
 | some x =>
  simp only
  rw [if_neg (fun hc => h hc.1)]
theorem Q1jp {xs : List Eff} {k id : Nat} (h : WH xs k id ≠ none) : ∃ x, xs[k]? = some x ∧ id ∈ x.hw.map (·.1) := by
  unfold WH at h
  split at h
  · rename_i x hx
    cases hh : has (x.hw.map (·.1)) id with
    | true => exact ⟨x, hx, Q7h.1 hh⟩
    | false => rw [hh] at h; exact absurd rfl h
  · exact absurd rfl h
theorem Q1hf {xs : List Eff} {k id : Nat} {x : Eff} (hx : xs[k]? = some x) (h : id ∉ x.hw.map (·.1)) : WH xs k id = none := by
  unfold WH
  rw [hx]
  simp only
  cases hh : has (x.hw.map (·.1)) id with
  | true => exact absurd (Q7h.1 hh) h
  | false => rfl
theorem Qe1 {X : Orc} {nx : Nat} {ios : List IOper} {xs : List Eff} {L : Nat} {e0 : Nat → PV} {H0 : Nat → Option Ob} : ∀ (r : List IOper) (i : Nat) (env : List PV) (h : List (Nat × Ob)) (y : List PV × List (Nat × Ob) × List Eff),
    Q5n X nx i r env h = some y → (∀ j, r[j]? = ios[i + j]?) → (∀ j, y.2.2[j]? = xs[i + j]?) → env.length = L → Last (WE L ios xs) e0 (· < i) (envF env) → Last (WH xs) H0 (· < i) (look h) →
      y.2.2.length = r.length ∧ y.1.length = L ∧ (∀ (j : Nat) o x, i ≤ j → ios[j]? = some o → xs[j]? = some x → ∃ e H, Last (WE L ios xs) e0 (· < j) e ∧ Last (WH xs) H0 (· < j) H ∧ Q77 X e H (nx + 64 * j) o = some x) ∧
        Last (WE L ios xs) e0 (· < i + r.length) (envF y.1) ∧ Last (WH xs) H0 (· < i + r.length) (look y.2.1)
  | [], i, env, h, y, hy, hr, hx, hL, l1, l2 => by
    simp only [Q5n, Option.some.injEq] at hy
    subst hy
    refine ⟨rfl, hL, fun j o x hj ho _ => ?_, l1, l2⟩
    have := hr (j - i)
    rw [show i + (j - i) = j by omega, ho] at this
    simp at this
  | o :: r, i, env, h, y, hy, hr, hx, hL, l1, l2 => by
    simp only [Q5n] at hy
    obtain ⟨x, hst, hy⟩ := bind_some hy
    obtain ⟨z, hz, hy⟩ := bind_some hy
    injection hy with hy
    subst hy
    have ho : ios[i]? = some o := by have := hr 0; simpa using this.symm
    have hxi : xs[i]? = some x := by have := hx 0; simpa using this.symm
    have n1 : Last (WE L ios xs) e0 (· < i + 1) (envF (put env o.dst x.v)) := l1.add (i := i) (fun k => by omega) (fun k t hk hlt => by omega) (fun t => by rw [Q1a5 ho hxi, Q12w, hL])
    have n2 : Last (WH xs) H0 (· < i + 1) (look (hput h x.hw)) := l2.add (i := i) (fun k => by omega) (fun k t hk hlt => by omega) (fun t => by rw [Q1am hxi, Q6k])
    obtain ⟨g1, g2, g3, g4, g5⟩ := Qe1 r (i + 1) _ _ z hz (fun j => by have := hr (j + 1); rw [show i + (j + 1) = i + 1 + j by omega] at this; simpa using this)
      (fun j => by have := hx (j + 1); rw [show i + (j + 1) = i + 1 + j by omega] at this; simpa using this) (by rw [Qpr, hL]) n1 n2
    refine ⟨by simp [g1], g2, fun j o' x' hj ho' hx' => ?_, ?_, ?_⟩
    · by_cases c : j = i
      · subst c
        rw [ho] at ho'
        injection ho' with ho'
        rw [hxi] at hx'
        injection hx' with hx'
        subst ho' hx'
        exact ⟨_, _, l1, l2, hst⟩
      · exact g3 j o' x' (by omega) ho' hx'
    · rw [show i + (o :: r).length = i + 1 + r.length by simp; omega]; exact g4
    · rw [show i + (o :: r).length = i + 1 + r.length by simp; omega]; exact g5
theorem Qri {j : Nat} {b : IOper} {y : Eff} : ∀ {i : Nat} {l : List (IOper × Eff)}, Q1dl j b y i l = true → ∀ (k : Nat) a x, l[k]? = some (a, x) → i + k = j ∨ i + k ∈ b.bef ∨ clash a x b y = false
  | i, [], _, k, a, x, h => by simp at h
  | i, (a, x) :: r, h, k, a', x', hk => by
    simp only [Q1dl, Bool.and_eq_true, Bool.or_eq_true] at h
    cases k with
    | zero =>
      simp at hk
      obtain ⟨rfl, rfl⟩ := hk
      rcases h.1 with (h1 | h1) | h1
      · exact .inl (Nat.eq_of_beq_eq_true h1)
      · exact .inr (.inl (Q7h.1 h1))
      · exact .inr (.inr (by simpa using h1))
    | succ k =>
      have := Qri h.2 k a' x' (by simpa using hk)
      rw [show i + (k + 1) = i + 1 + k by omega]
      exact this
theorem Qvj {all : List (IOper × Eff)} : ∀ {j : Nat} {l : List (IOper × Eff)}, calm all j l = true → (∀ k, l[k]? = all[j + k]?) → ∀ (i k : Nat) a x b y, j ≤ k → i < k → all[i]? = some (a, x) → all[k]? = some (b, y) → i ∈ b.bef ∨ clash a x b y = false
  | j, [], _, hl, i, k, a, x, b, y, hj, _, _, hk => by
    have := hl (k - j)
    rw [show j + (k - j) = k by omega, hk] at this
    simp at this
  | j, (b', y') :: r, h, hl, i, k, a, x, b, y, hj, hik, hi, hk => by
    simp only [calm, Bool.and_eq_true] at h
    by_cases c : k = j
    · subst c
      have h0 := hl 0
      rw [Nat.add_zero, hk] at h0
      simp at h0
      obtain ⟨rfl, rfl⟩ := h0
      have := Qri h.1 i a x (by rw [List.getElem?_take_of_lt hik]; exact hi)
      rcases this with h' | h' | h'
      · omega
      · exact .inl (by simpa using h')
      · exact .inr h'
    · exact Qvj h.2 (fun q => by have := hl (q + 1); rw [show j + (q + 1) = j + 1 + q by omega] at this; simpa using this) i k a x b y (by omega) hik hi hk
theorem Qp9 {l : List Nat} {d : Option Nat} : Qva l d = false ↔ ∀ t, d = some t → t ∉ l := by
  cases d with
  | none => simp [Qva]
  | some d =>
    simp only [Qva, Option.some.injEq]
    constructor
    · rintro h t rfl ht
      rw [Q7h.2 ht] at h; cases h
    · intro h
      cases hh : has l d with
      | false => rfl
      | true => exact absurd (Q7h.1 hh) (h d rfl)
theorem Q69 {a b : IOper} {x y : Eff} (h : clash a x b y = false) :
    (∀ t, a.dst = some t → t ∉ b.looks) ∧ (∀ t, b.dst = some t → t ∉ a.looks) ∧ (∀ t, a.dst = some t → b.dst ≠ some t) ∧ (∀ id ∈ x.hw.map (·.1), id ∉ y.hr ∧ id ∉ y.hw.map (·.1)) ∧ (∀ id ∈ y.hw.map (·.1), id ∉ x.hr) := by
  unfold clash at h
  simp only [Bool.or_eq_false_iff, Bool.not_eq_false'] at h
  obtain ⟨⟨⟨⟨h1, h2⟩, h3⟩, h4⟩, h5⟩ := h
  refine ⟨Qp9.1 h1, Qp9.1 h2, fun t ha hb => ?_, fun id hi => ?_, Qfd.1 h5⟩
  · rw [ha, hb] at h3
    simp [Q1l8] at h3
  · have := Qfd.1 h4 id hi
    exact ⟨fun hc => this (List.mem_append_left _ hc), fun hc => this (List.mem_append_right _ hc)⟩
theorem Qc5 : ∀ (h : List (Nat × Ob)) (id : Nat), look (h.map fun x => (x.1, Qeh x.2)) id = (look h id).map Qeh
 | [], _ => rfl
 | (k, o) :: r, id => by
  simp only [List.map_cons, look]
  cases Nat.beq k id with
  | true => rfl
  | false => exact Qc5 r id
end Go.Pv
end

section
/-
  Runs along a trace, over objects of which only their rows are known (views); what calls and loops answer is handed in.
-/
namespace Go.Pv
abbrev Views := List (Nat × List (List PV))
def plain : PV → Bool
 | .bool _ => true
 | .int _ _ => true
 | .str _ => true
 | .sl _ => true
 | .np => true
 | .nf => true
 | _ => false
structure ViewOK (sz : Nat) (cells : List PV) (rows : List (List PV)) : Prop where
  flat : cells = rows.flatten
  size : ∀ r ∈ rows, r.length = sz
  plain : ∀ r ∈ rows, ∀ p ∈ r, plain p = true
def VOK (H : Nat → Option Ob) (vw : Views) : Prop := ∀ id rows, look vw id = some rows → ∃ ob, H id = some ob ∧ ViewOK ob.sz ob.cells rows
def Met (l : List Prop) : Prop := ∀ p ∈ l, p
theorem Met.nil : Met [] := fun _ h => absurd h List.not_mem_nil
theorem Met.cons {p : Prop} {l : List Prop} (h : p) (hl : Met l) : Met (p :: l) := fun q hq => by
  rcases List.mem_cons.1 hq with rfl | hq
  · exact h
  · exact hl q hq
theorem Met.left {a b : List Prop} (h : Met (a ++ b)) : Met a := fun p hp => h p (List.mem_append_left _ hp)
theorem Met.right {a b : List Prop} (h : Met (a ++ b)) : Met b := fun p hp => h p (List.mem_append_right _ hp)
theorem Met.head {p : Prop} {l : List Prop} (h : Met (p :: l)) : p := h p List.mem_cons_self
theorem Met.tail {p : Prop} {l : List Prop} (h : Met (p :: l)) : Met l := fun q hq => h q (List.mem_cons_of_mem _ hq)
def mapV {α β : Type} (f : α → Option (β × List Prop)) : List α → Option (List β × List Prop)
 | [] => some ([], [])
 | x :: r => (f x).bind fun y => (mapV f r).bind fun l => some (y.1 :: l.1, y.2 ++ l.2)
theorem Q6a {α β : Type} {f : α → Option (β × List Prop)} {g : α → Option β} (hf : ∀ a y, f a = some y → Met y.2 → g a = some y.1) : ∀ (l : List α) (y : List β × List Prop), mapV f l = some y → Met y.2 → mapO g l = some y.1
 | [], y, h, _ => by
  simp only [mapV, Option.some.injEq] at h
  subst h
  rfl
 | a :: r, y, h, hm => by
  obtain ⟨b, hb, h⟩ := Qo h
  obtain ⟨l, hl, h⟩ := Qo h
  simp only [Option.some.injEq] at h
  subst h
  simp only [mapO]
  rw [hf a b hb hm.left, Option.bind_some, Q6a hf r l hl hm.right]
  rfl
def fzV (H : Nat → Option Ob) (vw : Views) : Nat → PV → Option ((PV × List Nat) × List Prop)
  | 0, _ => none
  | n + 1, v =>
    match v with
    | .bx _ _ => none
    | .ns _ => some ((.sl [], []), [])
    | .ms id sz off len =>
      (H id).bind fun ob =>
        match look vw id with
        | some rows => bif Nat.beq ob.sz sz && (Nat.beq off 0 && Nat.ble 1 n) then some ((.sl rows, [id]), [len = rows.length]) else none
        | none =>
          bif Nat.beq ob.sz sz && Nat.ble ((off + len) * sz) ob.cells.length then
            (mapV (fzV H vw n) ((ob.cells.drop (off * sz)).take (len * sz))).bind fun l =>
              some ((.sl (rowsOf sz len (l.1.map (·.1))), id :: (l.1.map (·.2)).flatten), l.2)
          else none
    | .agg c => (mapV (fzV H vw n) c).bind fun l => some ((.agg (l.1.map (·.1)), (l.1.map (·.2)).flatten), l.2)
    | .tup c => (mapV (fzV H vw n) c).bind fun l => some ((.tup (l.1.map (·.1)), (l.1.map (·.2)).flatten), l.2)
    | .fn f a b => (mapV (fzV H vw n) a).bind fun l => (mapV (fzV H vw n) b).bind fun m => some ((.fn f (l.1.map (·.1)) (m.1.map (·.1)), (l.1.map (·.2)).flatten ++ (m.1.map (·.2)).flatten), l.2 ++ m.2)
    | v => some ((v, []), [])
theorem Qo8 {H : Nat → Option Ob} {n : Nat} : ∀ (l : List PV), (∀ p ∈ l, plain p = true) → mapO (fz H (n + 1)) l = some (l.map fun p => (p, []))
 | [], _ => rfl
 | p :: r, h => by
  have h1 : fz H (n + 1) p = some (p, []) := by
   have := h p List.mem_cons_self
   cases p <;> first | rfl | (simp [plain] at this)
  simp only [mapO]
  rw [h1, Option.bind_some, Qo8 r (fun q hq => h q (List.mem_cons_of_mem _ hq))]
  rfl
theorem Qe3 {α β : Type} : ∀ (l : List α), (l.map fun _ => ([] : List β)).flatten = []
 | [] => rfl
 | _ :: r => by simp [Qe3 r]
theorem Qhc (sz : Nat) : ∀ (rows : List (List PV)), (∀ r ∈ rows, r.length = sz) → rowsOf sz rows.length rows.flatten = rows
 | [], _ => rfl
 | r :: rs, h => by
  have h0 := h r List.mem_cons_self
  simp only [List.length_cons, rowsOf, List.flatten_cons]
  rw [List.take_left' h0, List.drop_left' h0, Qhc sz rs (fun q hq => h q (List.mem_cons_of_mem _ hq))]
theorem Q6n (sz : Nat) : ∀ (rows : List (List PV)), (∀ r ∈ rows, r.length = sz) → rows.flatten.length = rows.length * sz
 | [], _ => by simp
 | r :: rs, h => by
  simp only [List.flatten_cons, List.length_append, List.length_cons]
  rw [Q6n sz rs (fun q hq => h q (List.mem_cons_of_mem _ hq)), h r List.mem_cons_self, Nat.add_mul]
  omega
theorem ViewOK.all {sz : Nat} {cells : List PV} {rows : List (List PV)} (h : ViewOK sz cells rows) : ∀ p ∈ cells, Pv.plain p = true := fun p hp => by
 rw [h.flat] at hp
 obtain ⟨r, hr, hp⟩ := List.mem_flatten.1 hp
 exact h.plain r hr p hp
theorem Q19e {H : Nat → Option Ob} {n k : Nat} (hk : k = n + 1) {id sz len : Nat} {ob : Ob} {rows : List (List PV)} (hH : H id = some ob) (hv : ViewOK ob.sz ob.cells rows) (hs : ob.sz = sz) (hl : len = rows.length) : fz H (k + 1) (.ms id sz 0 len) = some (.sl rows, [id]) := by
  subst hs hl
  have hc : ob.cells.length = rows.length * ob.sz := by rw [hv.flat]; exact Q6n _ _ hv.size
  simp only [fz]
  rw [hH, Option.bind_some]
  have hb : (Nat.beq ob.sz ob.sz && Nat.ble ((0 + rows.length) * ob.sz) ob.cells.length) = true := by
    rw [hc]
    simp
  rw [hb]
  simp only [cond_true, Nat.zero_mul, List.drop_zero]
  rw [← hc, List.take_length]
  have := Qo8 (H := H) (n := n) ob.cells hv.all
  rw [hk, this, Option.bind_some]
  simp only [List.map_map, Option.some.injEq, Prod.mk.injEq]
  refine ⟨?_, ?_⟩
  · have e2 : List.map ((fun x : PV × List Nat => x.fst) ∘ fun p => (p, ([] : List Nat))) ob.cells = ob.cells := by
      rw [show ((fun x : PV × List Nat => x.fst) ∘ fun p => (p, ([] : List Nat))) = fun p => p from rfl]
      exact List.map_id' _
    rw [e2, hv.flat, Qhc _ _ hv.size]
  · have e2 : ((fun x : PV × List Nat => x.snd) ∘ fun p => (p, ([] : List Nat))) = fun _ => [] := rfl
    rw [e2, Qe3]
theorem Qxx {H : Nat → Option Ob} {vw : Views} (hv : VOK H vw) : ∀ (n : Nat) (v : PV) (y : (PV × List Nat) × List Prop), fzV H vw n v = some y → Met y.2 → fz H n v = some y.1
 | 0, v, y, h, _ => by cases h
 | n + 1, v, y, h, hm => by
  have ih := Qxx hv n
  cases v with
  | ms id sz off len =>
   simp only [fzV] at h
   obtain ⟨ob, hob, h⟩ := Qo h
   cases hl : look vw id with
   | some rows =>
    rw [hl] at h
    simp only at h
    obtain ⟨ob', hob', hok⟩ := hv id rows hl
    rw [hob] at hob'
    injection hob' with hob'
    subst hob'
    cases hc : (Nat.beq ob.sz sz && (Nat.beq off 0 && Nat.ble 1 n)) with
    | false => rw [hc] at h; cases h
    | true =>
     rw [hc] at h
     simp only [cond_true, Option.some.injEq] at h
     subst h
     simp only [Bool.and_eq_true] at hc
     obtain ⟨c1, c2, c3⟩ := hc
     have c2 := Nat.eq_of_beq_eq_true c2
     have c1 := Nat.eq_of_beq_eq_true c1
     have c3 := Nat.le_of_ble_eq_true c3
     subst c2
     obtain ⟨m, rfl⟩ : ∃ m, n = m + 1 := ⟨n - 1, by omega⟩
     exact Q19e rfl hob hok c1 hm.head
   | none =>
    rw [hl] at h
    simp only at h
    simp only [fz]
    rw [hob, Option.bind_some]
    cases hc : (Nat.beq ob.sz sz && Nat.ble ((off + len) * sz) ob.cells.length) with
    | false => rw [hc] at h; cases h
    | true =>
     rw [hc] at h
     simp only [cond_true] at h ⊢
     obtain ⟨l, hl, h⟩ := Qo h
     simp only [Option.some.injEq] at h
     subst h
     rw [Q6a ih _ l hl hm, Option.bind_some]
  | agg c =>
   simp only [fzV] at h
   obtain ⟨l, hl, h⟩ := Qo h
   simp only [Option.some.injEq] at h
   subst h
   simp only [fz]
   rw [Q6a ih _ l hl hm, Option.bind_some]
  | tup c =>
   simp only [fzV] at h
   obtain ⟨l, hl, h⟩ := Qo h
   simp only [Option.some.injEq] at h
   subst h
   simp only [fz]
   rw [Q6a ih _ l hl hm, Option.bind_some]
  | fn f a b =>
   simp only [fzV] at h
   obtain ⟨l, hl, h⟩ := Qo h
   obtain ⟨m, hm2, h⟩ := Qo h
   simp only [Option.some.injEq] at h
   subst h
   simp only [fz]
   rw [Q6a ih _ l hl hm.left, Option.bind_some, Q6a ih _ m hm2 hm.right, Option.bind_some]
  | bx _ _ => cases h
  | _ =>
   simp only [fzV, Option.some.injEq] at h
   subst h
   rfl
def Q8g (f : PV → List Nat → Option (Pass × List Prop)) : List PV → List Nat → Option ((List PV × List Nat × List Nat) × List Prop)
 | [], ids => some (([], ids, []), [])
 | p :: r, ids => (f p ids).bind fun x => (Q8g f r x.1.ids).bind fun y => some ((x.1.v :: y.1.1, y.1.2.1, x.1.fr ++ y.1.2.2), x.2 ++ y.2)
theorem Q3h {f : PV → List Nat → Option (Pass × List Prop)} {g : PV → List Nat → Option Pass} (hf : ∀ a ids y, f a ids = some y → Met y.2 → g a ids = some y.1) : ∀ (l : List PV) (ids : List Nat) (y : (List PV × List Nat × List Nat) × List Prop), Q8g f l ids = some y → Met y.2 → Q56 g l ids = some y.1
 | [], ids, y, h, _ => by
  simp only [Q8g, Option.some.injEq] at h
  subst h
  rfl
 | a :: r, ids, y, h, hm => by
  simp only [Q8g] at h
  obtain ⟨b, hb, h⟩ := Qo h
  obtain ⟨l, hl, h⟩ := Qo h
  simp only [Option.some.injEq] at h
  subst h
  simp only [Q56]
  rw [hf a ids b hb hm.left, Option.bind_some, Q3h hf r _ l hl hm.right]
  rfl
def Qad (H : Nat → Option Ob) (vw : Views) (byRef : Bool) : Nat → PV → List Nat → Option (Pass × List Prop)
 | 0, _, _ => none
 | n + 1, v, ids =>
  match v with
  | .bx id off => let x := Qsi ids id; some (⟨.bx x.1 off, x.2, []⟩, [])
  | .ms id sz off len =>
   bif byRef then (let x := Qsi ids id; some (⟨.ms x.1 sz off len, x.2, []⟩, []))
   else (fzV H vw 8 (.ms id sz off len)).bind fun x => some (⟨x.1.1, ids, x.1.2⟩, x.2)
  | .ns _ => some (⟨.sl [], ids, []⟩, [])
  | .agg c => (Q8g (Qad H vw byRef n) c ids).bind fun y => some (⟨.agg y.1.1, y.1.2.1, y.1.2.2⟩, y.2)
  | .tup c => (Q8g (Qad H vw byRef n) c ids).bind fun y => some (⟨.tup y.1.1, y.1.2.1, y.1.2.2⟩, y.2)
  | .fn f a b => (Q8g (Qad H vw byRef n) a ids).bind fun y => (Q8g (Qad H vw byRef n) b y.1.2.1).bind fun z => some (⟨.fn f y.1.1 z.1.1, z.1.2.1, y.1.2.2 ++ z.1.2.2⟩, y.2 ++ z.2)
  | v => some (⟨v, ids, []⟩, [])
theorem Q6o {H : Nat → Option Ob} {vw : Views} (hv : VOK H vw) {byRef : Bool} : ∀ (n : Nat) (v : PV) (ids : List Nat) (y : Pass × List Prop), Qad H vw byRef n v ids = some y → Met y.2 → pass H byRef n v ids = some y.1
 | 0, v, ids, y, h, _ => by cases h
 | n + 1, v, ids, y, h, hm => by
  have ih := Q6o hv (byRef := byRef) n
  cases v with
  | ms id sz off len =>
   cases byRef with
   | true =>
    simp only [Qad, cond_true, Option.some.injEq] at h
    subst h
    rfl
   | false =>
    simp only [Qad, cond_false] at h
    obtain ⟨x, hx, h⟩ := Qo h
    simp only [Option.some.injEq] at h
    subst h
    simp only [pass, cond_false]
    rw [Qxx hv 8 _ x hx hm, Option.bind_some]
  | agg c =>
   simp only [Qad] at h
   obtain ⟨l, hl, h⟩ := Qo h
   simp only [Option.some.injEq] at h
   subst h
   simp only [pass]
   rw [Q3h ih _ _ l hl hm, Option.bind_some]
  | tup c =>
   simp only [Qad] at h
   obtain ⟨l, hl, h⟩ := Qo h
   simp only [Option.some.injEq] at h
   subst h
   simp only [pass]
   rw [Q3h ih _ _ l hl hm, Option.bind_some]
  | fn f a b =>
   simp only [Qad] at h
   obtain ⟨l, hl, h⟩ := Qo h
   obtain ⟨m, hm2, h⟩ := Qo h
   simp only [Option.some.injEq] at h
   subst h
   simp only [pass]
   rw [Q3h ih _ _ l hl hm.left, Option.bind_some, Q3h ih _ _ m hm2 hm.right, Option.bind_some]
  | _ =>
   simp only [Qad, Option.some.injEq] at h
   subst h
   rfl
theorem Qaw {H : Nat → Option Ob} {byRef : Bool} {n : Nat} : ∀ (l : List PV) (ids : List Nat), (∀ p ∈ l, plain p = true) → Q56 (pass H byRef (n + 1)) l ids = some (l, ids, [])
 | [], _, _ => rfl
 | p :: r, ids, h => by
  have h1 : pass H byRef (n + 1) p ids = some ⟨p, ids, []⟩ := by
   have := h p List.mem_cons_self
   cases p <;> first | rfl | (simp [plain] at this)
  simp only [Q56]
  rw [h1, Option.bind_some, Qaw r ids (fun q hq => h q (List.mem_cons_of_mem _ hq))]
  rfl
def Q7x (H : Nat → Option Ob) (vw : Views) (byRef own : Bool) : Nat → Nat → List Nat → Option ((List Ob × List Nat × List Nat) × List Prop)
 | 0, _, _ => none
 | n + 1, k, ids =>
  match ids[k]? with
  | none => some (([], ids, []), [])
  | some id =>
   (H id).bind fun ob =>
    match look vw id with
    | some _ => (Q7x H vw byRef own n (k + 1) ids).bind fun z => some ((⟨ob.sz, ob.ro, ob.gr && own, ob.cells⟩ :: z.1.1, z.1.2.1, z.1.2.2), z.2)
    | none => (Q8g (Qad H vw byRef 8) ob.cells ids).bind fun y =>
     (Q7x H vw byRef own n (k + 1) y.1.2.1).bind fun z => some ((⟨ob.sz, ob.ro, ob.gr && own, y.1.1⟩ :: z.1.1, z.1.2.1, y.1.2.2 ++ z.1.2.2), y.2 ++ z.2)
theorem Q4h {H : Nat → Option Ob} {vw : Views} (hv : VOK H vw) {byRef own : Bool} : ∀ (n k : Nat) (ids : List Nat) (y : (List Ob × List Nat × List Nat) × List Prop), Q7x H vw byRef own n k ids = some y → Met y.2 → Q33 H byRef own n k ids = some y.1
 | 0, _, _, y, h, _ => by cases h
 | n + 1, k, ids, y, h, hm => by
  simp only [Q7x] at h
  simp only [Q33]
  cases hk : ids[k]? with
  | none =>
   rw [hk] at h
   simp only [Option.some.injEq] at h
   subst h
   rfl
  | some id =>
   rw [hk] at h
   simp only at h ⊢
   obtain ⟨ob, hob, h⟩ := Qo h
   rw [hob, Option.bind_some]
   cases hl : look vw id with
   | some rows =>
    rw [hl] at h
    simp only at h
    obtain ⟨ob', hob', hok⟩ := hv id rows hl
    rw [hob] at hob'
    injection hob' with hob'
    subst hob'
    obtain ⟨z, hz, h⟩ := Qo h
    simp only [Option.some.injEq] at h
    subst h
    rw [Qaw (n := 7) ob.cells ids hok.all, Option.bind_some, Q4h hv n _ _ z hz hm]
    rfl
   | none =>
    rw [hl] at h
    simp only at h
    obtain ⟨x, hx, h⟩ := Qo h
    obtain ⟨z, hz, h⟩ := Qo h
    simp only [Option.some.injEq] at h
    subst h
    rw [Q3h (Q6o hv 8) _ _ x hx hm.left, Option.bind_some, Q4h hv n _ _ z hz hm.right]
    rfl
def Qa8 (vw : Views) : Nat → List (Nat × Ob) → List (Nat × Ob) × Nat × List (Nat × Ob)
 | nx, [] => ([], nx, [])
 | nx, (id, ob) :: r =>
  match look vw id with
  | some _ => let z := Qa8 vw nx r; ((id, ob) :: z.1, z.2.1, z.2.2)
  | none => let y := Q4b nx ob.cells; let z := Qa8 vw y.2.1 r; ((id, ⟨ob.sz, ob.ro, ob.gr, y.1⟩) :: z.1, z.2.1, y.2.2 ++ z.2.2)
theorem Qm5 : ∀ (l : List PV) (nx : Nat), (∀ p ∈ l, plain p = true) → Q4b nx l = (l, nx, [])
 | [], _, _ => rfl
 | p :: r, nx, h => by
  have h2 := Qm5 r nx (fun q hq => h q (List.mem_cons_of_mem _ hq))
  have h1 := h p List.mem_cons_self
  cases p <;> first | (simp [plain] at h1; done) | (simp only [Q4b, h2])
def VAll (h : List (Nat × Ob)) (vw : Views) : Prop := ∀ id ob rows, (id, ob) ∈ h → look vw id = some rows → ∀ p ∈ ob.cells, plain p = true
theorem Qhb {vw : Views} : ∀ (h : List (Nat × Ob)) (nx : Nat), VAll h vw → Qa8 vw nx h = Qd8 nx h
 | [], _, _ => rfl
 | (id, ob) :: r, nx, hv => by
  have hr : VAll r vw := fun i o rs hi hl => hv i o rs (List.mem_cons_of_mem _ hi) hl
  simp only [Qa8, Qd8]
  cases hl : look vw id with
  | some rows =>
   simp only
   rw [Qm5 ob.cells nx (hv id ob rows List.mem_cons_self hl), Qhb r nx hr]
   rfl
  | none =>
   simp only
   rw [Qhb r _ hr]
def Qyj : List (Nat × Ob) → Bool
 | [] => true
 | (k, _) :: r => (r.all fun x => !(Nat.beq x.1 k)) && Qyj r
theorem Q1bj {h : List (Nat × Ob)} : ∀ {id : Nat} {ob : Ob}, Qyj h = true → (id, ob) ∈ h → look h id = some ob := by
  induction h with
  | nil => intro id ob _ hm; cases hm
  | cons x r ih =>
    obtain ⟨k, o⟩ := x
    intro id ob ho hm
    simp only [Qyj, Bool.and_eq_true, List.all_eq_true] at ho
    simp only [look]
    rcases List.mem_cons.1 hm with e | hm
    · injection e with e1 e2
      subst e1 e2
      simp
    · have : Nat.beq k id = false := by
        have := ho.1 _ hm
        simp only [Bool.not_eq_true'] at this
        rw [Bool.eq_false_iff] at this ⊢
        intro c
        have := Nat.eq_of_beq_eq_true c
        subst this
        simp at *
      rw [this]
      simp only [cond_false]
      exact ih ho.2 hm
theorem VOK.allIn {h : List (Nat × Ob)} {vw : Views} (ho : Qyj h = true) (hv : VOK (look h) vw) : VAll h vw := fun id ob rows hm hl => by
 obtain ⟨ob', hob, hok⟩ := hv id rows hl
 rw [Q1bj ho hm] at hob
 injection hob with hob
 subst hob
 exact hok.all
theorem Qto {α : Type} {a b : List (Nat × α)} {id : Nat} : look (a ++ b) id = match look a id with | some x => some x | none => look b id := by
 induction a with
 | nil => rfl
 | cons x r ih =>
  obtain ⟨k, o⟩ := x
  simp only [List.cons_append, look]
  cases Nat.beq k id with
  | true => rfl
  | false => exact ih
theorem Qay {vw : Views} : ∀ (h : List (Nat × Ob)) (nx : Nat) (id : Nat) (rows : List (List PV)) (ob : Ob), look vw id = some rows → look h id = some ob → look (Qa8 vw nx h).1 id = some ob
 | [], _, _, _, _, _, h => by cases h
 | (k, o) :: r, nx, id, rows, ob, hl, h => by
  simp only [look] at h
  cases c : Nat.beq k id with
  | true =>
   have := Nat.eq_of_beq_eq_true c
   subst this
   rw [c] at h
   simp only [cond_true, Option.some.injEq] at h
   subst h
   simp only [Qa8, hl, look, c, cond_true]
  | false =>
   rw [c] at h
   simp only [cond_false] at h
   simp only [Qa8]
   cases look vw k with
   | some _ =>
    simp only [look, c, cond_false]
    exact Qay r nx id rows ob hl h
   | none =>
    simp only [look, c, cond_false]
    exact Qay r _ id rows ob hl h
def gcV0 (vw : Views) (m : Nat) (live : List Nat) (s : St) : Option ((List PV × List Ob) × List Prop) :=
 bif Qyj s.heap then
  let a := Q4b s.nx (mask live 0 s.env)
  let b := Qa8 vw a.2.1 s.heap
  let H := look (b.1 ++ (a.2.2 ++ b.2.2))
  (Q8g (Qad H vw true 8) a.1 (upTo m)).bind fun y =>
   (Q7x H vw true true 32 0 y.1.2.1).bind fun z => some ((y.1.1, z.1.1), y.2 ++ z.2)
 else none
theorem Qqf {vw : Views} {m : Nat} {live : List Nat} {s : St} (hv : VOK (look s.heap) vw) {y : (List PV × List Ob) × List Prop} (h : gcV0 vw m live s = some y) (hm : Met y.2) : gc0 m live s = some y.1 := by
 unfold gcV0 at h
 unfold gc0
 cases ho : Qyj s.heap with
 | false => rw [ho] at h; cases h
 | true =>
  rw [ho] at h
  simp only [cond_true] at h ⊢
  have e := Qhb (vw := vw) s.heap (Q4b s.nx (mask live 0 s.env)).2.1 (hv.allIn ho)
  have hv' : VOK (look ((Qa8 vw (Q4b s.nx (mask live 0 s.env)).2.1 s.heap).1 ++ ((Q4b s.nx (mask live 0 s.env)).2.2 ++ (Qa8 vw (Q4b s.nx (mask live 0 s.env)).2.1 s.heap).2.2))) vw := by
   intro id rows hl
   obtain ⟨ob, hob, hok⟩ := hv id rows hl
   refine ⟨ob, ?_, hok⟩
   rw [Qto, Qay s.heap _ id rows ob hl hob]
  rw [← e]
  obtain ⟨x, hx, h⟩ := Qo h
  obtain ⟨z, hz, h⟩ := Qo h
  simp only [Option.some.injEq] at h
  subst h
  rw [Q3h (Q6o hv' 8) _ _ x hx hm.left, Option.bind_some, Q4h hv' 32 _ _ z hz hm.right, Option.bind_some]
def Q1be (vw : Views) (h : List (Nat × Ob)) : List (Nat × Ob) := h.map fun x => (match look vw x.1 with | some _ => x | none => (x.1, Qeh x.2))
def Qzg (vw : Views) (s : St) : St := ⟨s.env.map Qsm, Q1be vw s.heap, s.nx⟩
def gcV (vw : Views) (m : Nat) (live : List Nat) (s : St) : Option ((List PV × List Ob) × List Prop) :=
 bif has live 200001 then (bif Qyj s.heap then gcV0 vw m live (Qzg vw s) else none) else gcV0 vw m live s
theorem Qip {l : List PV} (h : ∀ p ∈ l, plain p = true) : l.map Qsm = l := by
 induction l with
 | nil => rfl
 | cons p r ih =>
  have h1 := h p List.mem_cons_self
  rw [List.map_cons, ih (fun q hq => h q (List.mem_cons_of_mem _ hq))]
  cases p <;> first | (simp [plain] at h1; done) | rfl
theorem Qxf {vw : Views} : ∀ (h : List (Nat × Ob)), VAll h vw → Q1be vw h = h.map fun x => (x.1, Qeh x.2)
 | [], _ => rfl
 | (id, ob) :: r, hv => by
  have hr : VAll r vw := fun i o rs hi hl => hv i o rs (List.mem_cons_of_mem _ hi) hl
  have ih := Qxf r hr
  unfold Q1be at ih ⊢
  rw [List.map_cons, List.map_cons, ih]
  cases hl : look vw id with
  | none => rfl
  | some rows =>
   simp only
   rw [show Qeh ob = ob from by unfold Qeh; rw [Qip (hv id ob rows List.mem_cons_self hl)]]
theorem Qxp {vw : Views} {m : Nat} {live : List Nat} {s : St} (hv : VOK (look s.heap) vw) {y : (List PV × List Ob) × List Prop} (h : gcV vw m live s = some y) (hm : Met y.2) : gc m live s = some y.1 := by
 unfold gcV at h
 unfold gc
 cases c : has live 200001 with
 | false =>
  rw [c] at h
  exact Qqf hv h hm
 | true =>
  rw [c, cond_true] at h
  rw [cond_true]
  cases ho : Qyj s.heap with
  | false => rw [ho] at h; cases h
  | true =>
   rw [ho, cond_true] at h
   have e : Qzg vw s = Q7p s := by
    unfold Qzg Q7p
    rw [Qxf s.heap (hv.allIn ho)]
   rw [e] at h
   refine Qqf (fun id rows hl => ?_) h hm
   obtain ⟨ob, hob, hok⟩ := hv id rows hl
   have hf : Qeh ob = ob := by
    unfold Qeh
    rw [Qip hok.all]
   refine ⟨ob, ?_, hok⟩
   rw [show (Q7p s).heap = s.heap.map fun x => (x.1, Qeh x.2) from rfl, Qc5, hob, Option.map_some, hf]
structure Ans where
  r : Rs
  vw : Views
def Q63 (g : Nat → Nat) (vw : Views) : Nat → List Ob → Option (List (Nat × Option Ob) × List Prop × Views)
 | _, [] => some ([], [], [])
 | k, ob :: r =>
  match look vw k with
  | some rows => (Q63 g vw (k + 1) r).bind fun m => some ((g k, some ob) :: m.1, ViewOK ob.sz ob.cells rows :: m.2.1, (g k, rows) :: m.2.2)
  | none => (mapO (back g 8) ob.cells).bind fun l => (Q63 g vw (k + 1) r).bind fun m => some ((g k, some ⟨ob.sz, ob.ro, ob.gr, l⟩) :: m.1, m.2)
theorem Q93 {g : Nat → Nat} {n : Nat} : ∀ (l : List PV), (∀ p ∈ l, plain p = true) → mapO (back g (n + 1)) l = some l
 | [], _ => rfl
 | p :: r, h => by
  have h1 : back g (n + 1) p = some p := by
   have := h p List.mem_cons_self
   cases p <;> first | rfl | (simp [plain] at this)
  simp only [mapO]
  rw [h1, Option.bind_some, Q93 r (fun q hq => h q (List.mem_cons_of_mem _ hq))]
  rfl
theorem Q7f {g : Nat → Nat} {vw : Views} : ∀ (l : List Ob) (k : Nat) (y : List (Nat × Option Ob) × List Prop × Views), Q63 g vw k l = some y → Met y.2.1 → Q88 g k l = some y.1
 | [], k, y, h, _ => by
  simp only [Q63, Option.some.injEq] at h
  subst h
  rfl
 | ob :: r, k, y, h, hm => by
  simp only [Q63] at h
  simp only [Q88]
  cases hl : look vw k with
  | some rows =>
   rw [hl] at h
   simp only at h
   obtain ⟨m, hm', h⟩ := Qo h
   simp only [Option.some.injEq] at h
   subst h
   rw [Q93 ob.cells (Met.head hm).all, Option.bind_some, Q7f r _ m hm' (Met.tail hm)]
   rfl
  | none =>
   rw [hl] at h
   simp only at h
   obtain ⟨l, hl', h⟩ := Qo h
   obtain ⟨m, hm', h⟩ := Qo h
   simp only [Option.some.injEq] at h
   subst h
   rw [hl', Option.bind_some, Q7f r _ m hm' hm]
   rfl
theorem Q78 {g : Nat → Nat} {vw : Views} : ∀ (l : List Ob) (k : Nat) (y : List (Nat × Option Ob) × List Prop × Views), Q63 g vw k l = some y → Met y.2.1 → ∀ id rows, (id, rows) ∈ y.2.2 → ∃ ob, (id, some ob) ∈ y.1 ∧ ViewOK ob.sz ob.cells rows
  | [], k, y, h, _ => by
    simp only [Q63, Option.some.injEq] at h
    subst h
    intro id rows hx
    cases hx
  | ob :: r, k, y, h, hm => by
    simp only [Q63] at h
    cases hl : look vw k with
    | some rows =>
      rw [hl] at h
      simp only at h
      obtain ⟨m, hm', h⟩ := Qo h
      simp only [Option.some.injEq] at h
      subst h
      intro id rws hx
      rcases List.mem_cons.1 hx with e | hx
      · injection e with e1 e2
        subst e1 e2
        exact ⟨ob, List.mem_cons_self, Met.head hm⟩
      · obtain ⟨o, ho, hv⟩ := Q78 r _ m hm' (Met.tail hm) id rws hx
        exact ⟨o, List.mem_cons_of_mem _ ho, hv⟩
    | none =>
      rw [hl] at h
      simp only at h
      obtain ⟨l, hl', h⟩ := Qo h
      obtain ⟨m, hm', h⟩ := Qo h
      simp only [Option.some.injEq] at h
      subst h
      intro id rws hx
      obtain ⟨o, ho, hv⟩ := Q78 r _ m hm' hm id rws hx
      exact ⟨o, List.mem_cons_of_mem _ ho, hv⟩
structure EV where
  eff : Eff
  cut : List Nat
  new : Views
  az : List Ans
  owed : List Prop
  asked : Qai
def Q1f2 (H : Nat → Option Ob) (vw : Views) (fr : Nat) (byRef : Bool) (f : Nat) (args : List PV) (az : List Ans) : Option EV :=
  (Q8g (Qad H vw byRef 8) args []).bind fun y =>
  (Q7x H vw false false 16 0 y.1.2.1).bind fun z =>
  let ids := z.1.2.1
  let lent := y.1.2.2 ++ z.1.2.2
  bif disj lent ids then
    match az with
    | [] => none
    | a :: az' =>
      match a.r with
      | .ret v h =>
        bif Nat.ble ids.length h.length && Nat.ble (h.length - ids.length) 64 then
          (back (ren ids fr) 8 v).bind fun v' => (Q63 (ren ids fr) a.vw 0 h).bind fun ws =>
            match lent with
            | [] => some ⟨⟨v', ws.1, ids⟩, ws.1.map (·.1), ws.2.2, az', y.2 ++ (z.2 ++ ws.2.1), [(.call f y.1.1 z.1.1, a.r)]⟩
            | _ :: _ =>
              bif flat 8 v && h.all (fun ob => ob.cells.all (flat 8)) then some ⟨⟨v', ws.1, ids ++ lent⟩, ws.1.map (·.1), ws.2.2, az', y.2 ++ (z.2 ++ ws.2.1), [(.call f y.1.1 z.1.1, a.r)]⟩
              else (shut H lent).bind fun cl => some ⟨⟨v', ws.1 ++ cl, ids ++ lent⟩, ws.1.map (·.1), ws.2.2, az', y.2 ++ (z.2 ++ ws.2.1), [(.call f y.1.1 z.1.1, a.r)]⟩
        else none
      | _ => none
  else none
end Go.Pv
end

section
/-
  A region, on the machine.
-/
namespace Go.Pv
open Go.RowKit
structure At (w0 : World) (D0 : Nat → Option Nat) (H0 : Nat → Option Ob) (F : Nat → Nat → Prop) (n0 m L : Nat) (e : Nat → PV) (H : Nat → Option Ob) (a : Act) (w : World) (D : Nat → Option Nat) : Prop where
  sim : Sim w D H F n0 m
  env : Qa7 w (Mut D H F) D a e
  size : L ≤ a.tmps.size
  out : ∀ t, L ≤ t → e t = .un
  keeps : Keeps (MutO D0 H0) w0 w
  low : ∀ id, id < m → D id = D0 id
  sub : ∀ b o, b < w0.heap.size → Mut D H F b o → Mut D0 H0 F b o
  defers : a.defers = []
section
variable {P : Program} {X : Orc} {w0 : World} {D0 : Nat → Option Nat} {H0 : Nat → Option Ob} {F : Nat → Nat → Prop} {n0 m L : Nat} {e : Nat → PV} {H : Nat → Option Ob} {a : Act} {w : World} {D : Nat → Option Nat}
theorem Q1c2 {a : Act} {dst : Option Tmp} {v : Value} {t : Nat} : (a.put dst v).tmps.getD t undef = if dst = some t ∧ t < a.tmps.size then v else a.tmps.getD t undef := by
  unfold Act.put
  cases dst with
  | none => simp
  | some d =>
    simp only [Array.getD_eq_getD_getElem?, Array.getElem?_setIfInBounds]
    by_cases c : d = t
    · subst c
      by_cases c' : d < a.tmps.size
      · simp [c']
      · simp [c']
    · simp [c]
theorem Q1bw {a : Act} {dst : Option Tmp} {v : Value} : (a.put dst v).tmps.size = a.tmps.size := by
 unfold Act.put
 cases dst <;> simp
theorem put_defers {a : Act} {dst : Option Tmp} {v : Value} : (a.put dst v).defers = a.defers := by
 unfold Act.put
 cases dst <;> rfl
theorem At.step (A : At w0 D0 H0 F n0 m L e H a w D) {fr : Nat} {w' : World} {D' : Nat → Option Nat} {H' : Nat → Option Ob} (st : Step w D H F n0 m fr w' D' H') (hmf : m ≤ fr) {dst : Option Tmp} {v : Value} {p : PV} (hr : Rep w' (Mut D' H' F) D' v p) {e' : Nat → PV}
    (he : ∀ t, e' t = if dst = some t ∧ t < L then p else e t) : At w0 D0 H0 F n0 m L e' H' (a.put dst v) w' D' := by
  have hO : ∀ b o, b < w0.heap.size → MutO D H b o → MutO D0 H0 b o := by
    rintro b o hb ⟨id, ob, h1, h2, h3⟩
    rcases A.sub b o hb (.inr ⟨id, ob, h1, h2, h3⟩) with h | h
    · exact absurd h (A.sim.dis id ob b o h1 h2)
    · exact h
  refine ⟨st.sim, fun t => ?_, by rw [Q1bw]; exact A.size, fun t ht => ?_, A.keeps.trans st.keeps hO, fun id h => ?_, fun b o hb h => A.sub b o hb (st.sub b o (Nat.lt_of_lt_of_le hb A.keeps.size) h), by rw [put_defers]; exact A.defers⟩
  · rw [Q1c2, he t]
    by_cases c : dst = some t
    · by_cases c' : t < L
      · rw [if_pos ⟨c, Nat.lt_of_lt_of_le c' A.size⟩, if_pos ⟨c, c'⟩]
        exact hr
      · rw [show (if dst = some t ∧ t < L then p else e t) = .un by rw [if_neg (fun h => c' h.2)]; exact A.out t (Nat.le_of_not_lt c')]
        exact .un _ _
    · rw [if_neg (fun h => c h.1), if_neg (fun h => c h.1)]
      exact st.rep (A.env t)
  · rw [he t, if_neg (fun h => by have := h.2; omega)]
    exact A.out t ht
  · rw [← A.low id h]
    cases hd : D id with
    | none => exact st.fresh id hd (.inl (by omega))
    | some b => exact st.ext id b hd
theorem Qsn {ops : Array Oper} {tmps : Array Value} {j s : Nat} (h : (ops[j]?).bind (·.dst) = some s) : (∀ b, tmps.getD s undef = .bool b → yielded ops tmps j = some b) ∧ (∀ xs, tmps.getD s undef = .tuple xs → yielded ops tmps j = none) := by
  unfold yielded
  rw [h]
  simp only [Option.bind_some]
  constructor
  · intro b hb
    rw [Array.getD_eq_getD_getElem?] at hb
    cases ht : tmps[s]? with
    | none => rw [ht] at hb; cases hb
    | some u =>
      rw [ht] at hb
      simp only [Option.getD_some] at hb
      subst hb
      rfl
  · intro xs hx
    rw [Array.getD_eq_getD_getElem?] at hx
    cases ht : tmps[s]? with
    | none => rfl
    | some u =>
      rw [ht] at hx
      simp only [Option.getD_some] at hx
      subst hx
      rfl
theorem Qe6 {ops : Array Oper} {M : Nat → Nat → Prop} (he : Qa7 w M D a e) {o : Oper} {io : IOper} (hg : Qfj ops o.guard io.guard = true) {b : Bool} (h : io.wanted e = some b) : Region.wanted o (yielded ops a.tmps) = b := by
  unfold IOper.wanted at h
  unfold Region.wanted
  cases hg1 : o.guard with
  | none =>
    rw [hg1] at hg
    cases hg2 : io.guard with
    | none => rw [hg2] at h; simpa using h
    | some g => rw [hg2] at hg; cases hg
  | some g =>
    obtain ⟨j, wt⟩ := g
    rw [hg1] at hg
    cases hg2 : io.guard with
    | none => rw [hg2] at hg; cases hg
    | some g' =>
      obtain ⟨s, wt'⟩ := g'
      rw [hg2] at hg h
      simp only [Qfj, Bool.and_eq_true] at hg
      obtain ⟨h1, h2⟩ := hg
      have h1 : wt = wt' := by simpa using h1
      subst h1
      obtain ⟨y1, y2⟩ := Qsn (tmps := a.tmps) (Q5j h2)
      have hr := he s
      simp only at h ⊢
      split at h
      · rename_i b' hb
        rw [hb] at hr
        generalize hx : a.tmps.getD s undef = x at hr
        cases hr with
        | bool _ =>
          rw [y1 b' hx]
          simpa using h
      · rename_i c hb
        rw [hb] at hr
        generalize hx : a.tmps.getD s undef = x at hr
        cases hr with
        | tup _ xs _ _ _ =>
          rw [y2 xs hx]
          simpa using h
      · cases h
theorem Qdk (hX : Q7a P X) (A : At w0 D0 H0 F n0 m L e H a w D) {fr : Nat} (hmf : m ≤ fr) (hfr : ∀ id, fr ≤ id → id < fr + 64 → D id = none ∧ H id = none) {ops : Array Oper} {i : Nat} {o : Oper} {io : IOper} (ho : ops[i]? = some o) (hc : Q97 P ops o io = true) {f : Eff} (h : Q77 X e H fr io = some f)
  {K : Act → World → Prop} {Q : Exit → Act → World → Prop} {e' : Nat → PV} {H' : Nat → Option Ob} (he : ∀ t, e' t = if io.dst = some t ∧ t < L then f.v else e t) (hH : upH H f.hw = H')
  (hK : ∀ a' w' D', At w0 D0 H0 F n0 m L e' H' a' w' D' → (∀ id, D id = none → (id < fr ∨ fr + 64 ≤ id) → D' id = none) → K a' w') : wpOp P ops Q i K a w := by
 subst hH
 unfold Q97 at hc
 rw [Bool.and_eq_true, Bool.and_eq_true] at hc
 obtain ⟨⟨hd, hg⟩, hop⟩ := hc
 have hd := Qca hd
 unfold Q77 at h
 obtain ⟨b, hb, h⟩ := bind_some h
 have hw := Qe6 A.env hg hb
 unfold wpOp
 simp only [ho]
 rw [hw]
 cases b with
 | true =>
  simp only [cond_true] at h
  rw [if_pos rfl]
  refine .inl (Q19h hX A.sim hfr A.env hop h fun v w' D' st hr => hK _ _ D' (A.step st hmf hr (fun t => ?_)) st.fresh)
  rw [hd]; exact he t
 | false =>
  simp only [cond_false, Option.some.injEq] at h
  subst h
  rw [if_neg (by simp)]
  refine hK _ _ D (A.step (fr := fr) (Step.same A.sim rfl rfl rfl rfl) hmf (p := .tup []) (.tup _ #[] [] rfl (fun i v p hv => by simp at hv)) (fun t => ?_)) (fun id h _ => h)
  rw [hd]; exact he t
theorem Q127 {ws : List (Nat × Option Ob)} {fr id : Nat} (h : ∀ y ∈ ws, (∃ ob, H y.1 = some ob) ∨ (fr ≤ y.1 ∧ y.1 < fr + 64)) (h1 : H id = none) (h2 : ¬ (fr ≤ id ∧ id < fr + 64)) : upH H ws id = none := by
  rw [Q6g (fun y hy e => ?_)]
  · exact h1
  · subst e
    rcases h y hy with ⟨ob, hob⟩ | h'
    · rw [h1] at hob; cases hob
    · exact h2 h'
theorem Qiv (hX : Q7a P X) {nx : Nat} (hmn : m ≤ nx) {ops : Array Oper} {Q : Exit → Act → World → Prop} : ∀ (r : List IOper) (i : Nat) (env : List PV) (h : List (Nat × Ob)) (y : List PV × List (Nat × Ob) × List Eff) (a : Act) (w : World) (D : Nat → Option Nat),
  Q5n X nx i r env h = some y → (∀ j o io, ops[i + j]? = some o → r[j]? = some io → Q97 P ops o io = true) → i + r.length = ops.size → At w0 D0 H0 F n0 m env.length (envF env) (look h) a w D → (∀ id, nx + 64 * i ≤ id → D id = none ∧ look h id = none) →
   (∀ a' w' D', At w0 D0 H0 F n0 m y.1.length (envF y.1) (look y.2.1) a' w' D' → (∀ id, nx + 64 * ops.size ≤ id → D' id = none ∧ look y.2.1 id = none) → Q .normal a' w') → wpOps P ops Q (List.range' i r.length) a w
 | [], i, env, h, y, a, w, D, hy, hc, hn, A, hf, hQ => by
  simp only [Q5n, Option.some.injEq] at hy
  subst hy
  simp only [List.length_nil, Nat.add_zero] at hn
  subst hn
  exact hQ a w D A hf
 | o :: r, i, env, h, y, a, w, D, hy, hc, hn, A, hf, hQ => by
  simp only [Q5n] at hy
  obtain ⟨x, hst, hy⟩ := bind_some hy
  obtain ⟨z, hz, hy⟩ := bind_some hy
  injection hy with hy
  subst hy
  have hlt : i < ops.size := by rw [← hn]; simp
  have hoi : ops[i]? = some ops[i] := Array.getElem?_eq_getElem hlt
  rw [List.length_cons, List.range'_succ, wpOps_cons]
  refine Qdk hX A (fr := nx + 64 * i) (by omega) (fun id h1 _ => hf id h1) hoi (hc 0 _ o hoi rfl) hst (e' := envF (put env o.dst x.v)) (H' := look (hput h x.hw)) (fun t => Q12w) (Q6k _ _).symm (fun a' w' D' A' hfr' => ?_)
  have hput : (put env o.dst x.v).length = env.length := Qpr
  refine Qiv hX hmn r (i + 1) _ _ z a' w' D' hz (fun j o' io h1 h2 => hc (j + 1) o' io (by rw [show i + (j + 1) = i + 1 + j by omega]; exact h1) (by simpa using h2)) (by rw [← hn]; simp; omega) (by rw [hput]; exact A') (fun id hid => ?_) hQ
  have := hf id (by omega)
  exact ⟨hfr' id this.1 (by omega), by rw [Q6k]; exact Q127 (Q12r hst) this.2 (by omega)⟩
def Done (listed : Array Bool) (j : Nat) : Prop := listed.getD j false = true
theorem Qz3 {listed : Array Bool} {j : Nat} (h : Done listed j) : j < listed.size := by
  unfold Done at h
  rcases Nat.lt_or_ge j listed.size with c | c
  · exact c
  · rw [Array.getD_eq_getD_getElem?, Array.getElem?_eq_none c] at h
    cases h
theorem Q1cj {listed : Array Bool} {i k : Nat} (hi : i < listed.size) : Done (listed.setIfInBounds i true) k ↔ Done listed k ∨ k = i := by
  unfold Done
  rw [Array.getD_eq_getD_getElem?, Array.getD_eq_getD_getElem?, Array.getElem?_setIfInBounds]
  by_cases c : i = k
  · subst c
    simp [hi]
  · rw [if_neg c]
    constructor
    · exact fun h => .inl h
    · rintro (h | h)
      · exact h
      · exact absurd h.symm c
theorem Qti {listed : Array Bool} {i : Nat} (hi : i < listed.size) : listed.getD i true = false ↔ ¬ Done listed i := by
 unfold Done
 rw [Array.getD_eq_getD_getElem?, Array.getD_eq_getD_getElem?, Array.getElem?_eq_getElem hi]
 simp
def todo (listed : Array Bool) : Nat := listed.toList.countP (fun b => !b)
theorem Q120 {listed : Array Bool} {i : Nat} (hi : i < listed.size) (h : ¬ Done listed i) : todo listed = todo (listed.setIfInBounds i true) + 1 := by
 unfold todo
 have hb : listed[i] = false := by
  unfold Done at h
  rw [Array.getD_eq_getD_getElem?, Array.getElem?_eq_getElem hi] at h
  simpa using h
 rw [Array.toList_setIfInBounds]
 have hl : i < listed.toList.length := by simpa using hi
 have hb' : listed.toList[i] = false := by simpa using hb
 have key : ∀ (l : List Bool) (i : Nat) (hl : i < l.length), l[i] = false → l.countP (fun b => !b) = (l.set i true).countP (fun b => !b) + 1 := by
  intro l
  induction l with
  | nil => intro i hl; simp at hl
  | cons x r ih =>
   intro i hl hx
   cases i with
   | zero =>
    simp at hx
    subst hx
    simp
   | succ i =>
    have := ih i (by simpa using hl) (by simpa using hx)
    cases x <;> simp [this]
 exact key _ i hl hb'
theorem Q1cy {listed : Array Bool} (h : todo listed ≠ 0) : ∃ i, i < listed.size ∧ ¬ Done listed i := by
 unfold todo at h
 have : 0 < listed.toList.countP (fun b => !b) := Nat.pos_of_ne_zero h
 obtain ⟨b, hb, h2⟩ := List.countP_pos_iff.1 this
 obtain ⟨i, hi⟩ := List.getElem?_of_mem hb
 have hl : i < listed.size := by have := (List.getElem?_eq_some_iff.1 hi).1; simpa using this
 refine ⟨i, hl, fun hd => ?_⟩
 unfold Done at hd
 rw [Array.getD_eq_getD_getElem?, ← Array.getElem?_toList, hi] at hd
 simp only [Option.getD_some] at hd
 subst hd
 cases h2
theorem Q17k (hX : Q7a P X) {nx : Nat} (hmn : m ≤ nx) {ops : Array Oper} {ios : List IOper} {xs : List Eff} {Q : Exit → Act → World → Prop} {e0 : Nat → PV} {Hs : Nat → Option Ob} {ef : Nat → PV} {Hf : Nat → Option Ob}
    (hlen : ios.length = ops.size) (hxl : xs.length = ops.size) (hc : ∀ (j : Nat) o io, ops[j]? = some o → ios[j]? = some io → Q97 P ops o io = true) (hb : Qxm ios 0 ops.toList ios = true) (hcalm : calm (ios.zip xs) 0 (ios.zip xs) = true)
    (hst : ∀ (j : Nat) o x, ios[j]? = some o → xs[j]? = some x → ∃ e H, Last (WE L ios xs) e0 (· < j) e ∧ Last (WH xs) Hs (· < j) H ∧ Q77 X e H (nx + 64 * j) o = some x)
    (hef : Last (WE L ios xs) e0 (· < ops.size) ef) (hHf : Last (WH xs) Hs (· < ops.size) Hf)
    (hQ : ∀ a' w' D', At w0 D0 H0 F n0 m L ef Hf a' w' D' → (∀ id, nx + 64 * ops.size ≤ id → D' id = none ∧ Hf id = none) → Q .normal a' w') :
    ∀ (fuel : Nat) (listed : Array Bool) (a : Act) (w : World) (e : Nat → PV) (H : Nat → Option Ob) (D : Nat → Option Nat), listed.size = ops.size → todo listed = fuel → (∀ j io, ios[j]? = some io → Done listed j → ∀ i ∈ io.bef, Done listed i) →
      Last (WE L ios xs) e0 (Done listed) e → Last (WH xs) Hs (Done listed) H → At w0 D0 H0 F n0 m L e H a w D → (∀ id, nx ≤ id → (∀ j, Done listed j → ¬ (nx + 64 * j ≤ id ∧ id < nx + 64 * j + 64)) → D id = none ∧ H id = none) →
        wpAny P .any ops Q fuel listed a w := by
  have noclash : ∀ (i k : Nat) oi xi ok xk, i < k → ios[i]? = some oi → xs[i]? = some xi → ios[k]? = some ok → xs[k]? = some xk → i ∈ ok.bef ∨ clash oi xi ok xk = false := by
    intro i k oi xi ok xk hlt h1 h2 h3 h4
    exact Qvj hcalm (fun k => by simp) i k oi xi ok xk (Nat.zero_le _) hlt (by rw [List.getElem?_zip_eq_some]; exact ⟨h1, h2⟩) (by rw [List.getElem?_zip_eq_some]; exact ⟨h3, h4⟩)
  have bef := Qk9 hb
  intro fuel
  -- all done
  have fin_ : ∀ (listed : Array Bool) (a : Act) (w : World) (e : Nat → PV) (H : Nat → Option Ob) (D : Nat → Option Nat), listed.size = ops.size → (∀ j, j < ops.size → Done listed j) → Last (WE L ios xs) e0 (Done listed) e → Last (WH xs) Hs (Done listed) H → At w0 D0 H0 F n0 m L e H a w D →
      (∀ id, nx ≤ id → (∀ j, Done listed j → ¬ (nx + 64 * j ≤ id ∧ id < nx + 64 * j + 64)) → D id = none ∧ H id = none) → Q .normal a w := by
    intro listed a w e H D hsz hall l1 l2 A hf
    have e1 : e = ef := funext fun t => l1.det hef (fun k _ => ⟨fun h => by have := Qz3 h; omega, fun h => hall k h⟩)
    have e2 : H = Hf := funext fun t => l2.det hHf (fun k _ => ⟨fun h => by have := Qz3 h; omega, fun h => hall k h⟩)
    subst e1 e2
    exact hQ a w D A (fun id hid => hf id (by omega) (fun j hj => by have := Qz3 hj; omega))
  induction fuel with
  | zero =>
    intro listed a w e H D hsz ht hcl l1 l2 A hf
    have hall : ∀ j, j < ops.size → Done listed j := by
      intro j hj
      by_cases c : Done listed j
      · exact c
      · have := Q120 (by omega) c
        omega
    refine ⟨?_, fin_ listed a w e H D hsz hall l1 l2 A hf⟩
    cases hr : Region.ready .any ops listed with
    | nil => rfl
    | cons i r =>
      have hi : i ∈ Region.ready .any ops listed := by rw [hr]; exact List.mem_cons_self
      obtain ⟨g1, o, g2, _⟩ := mem_ready.1 hi
      have hlt : i < ops.size := (Array.getElem?_eq_some_iff.1 g2).1
      exact absurd (hall i hlt) ((Qti (by omega)).1 g1)
  | succ fuel ih =>
    intro listed a w e H D hsz ht hcl l1 l2 A hf
    refine ⟨fun hr => ?_, fun i hi => ?_⟩
    · -- some operation is ready
      exfalso
      obtain ⟨i, hi, hnd⟩ := Q1cy (listed := listed) (by omega)
      have key : ∀ (n i : Nat), i < n → i < listed.size → ¬ Done listed i → False := by
        intro n
        induction n with
        | zero => intro i h; omega
        | succ n ihn =>
          intro i hin hi hnd
          by_cases c : ∃ j, j < i ∧ ¬ Done listed j
          · obtain ⟨j, hj, hjn⟩ := c
            exact ihn j (by omega) (by omega) hjn
          · have hilt : i < ops.size := by omega
            have : i ∈ Region.ready .any ops listed := by
              rw [mem_ready]
              refine ⟨(Qti hi).2 hnd, ops[i], Array.getElem?_eq_getElem hilt, fun ed hed hbd => ?_⟩
              have hlt := (bef i ops[i] (ios[i]'(by omega)) (by simp [hilt]) (List.getElem?_eq_getElem (by omega))).2 ed hed hbd
              by_cases c' : Done listed ed.on
              · exact c'
              · exact absurd ⟨ed.on, by omega, c'⟩ c
            rw [hr] at this
            cases this
      exact key (i + 1) i (by omega) hi hnd
    · obtain ⟨g1, o, g2, g3⟩ := mem_ready.1 hi
      have hlt : i < ops.size := (Array.getElem?_eq_some_iff.1 g2).1
      have hnd : ¬ Done listed i := (Qti (by omega)).1 g1
      have hio : ios[i]? = some (ios[i]'(by omega)) := List.getElem?_eq_getElem (by omega)
      have hxi : xs[i]? = some (xs[i]'(by omega)) := List.getElem?_eq_getElem (by omega)
      generalize ios[i]'(by omega) = io at hio
      generalize xs[i]'(by omega) = x at hxi
      obtain ⟨et, Ht, t1, t2, t3⟩ := hst i io x hio hxi
      -- i's own predecessors are done
      have hbi : ∀ k ∈ io.bef, Done listed k := by
        intro k hk
        obtain ⟨ed, hed, hbd, h⟩ := (bef i o io (by simpa using g2) hio).1 k hk
        have hd : Done listed ed.on := g3 ed hed hbd
        rcases h with rfl | h
        · exact hd
        · unfold Q1fw at h
          split at h
          · rename_i io' hio'
            exact hcl ed.on io' hio' hd k h
          · cases h
      -- who meddles with i, and is done, stands ahead of it in the text; and the other way round
      have later : ∀ k ok xk, i < k → ios[k]? = some ok → xs[k]? = some xk → Done listed k → clash io x ok xk = false := by
        intro k ok xk hik h1 h2 h3
        rcases noclash i k io x ok xk hik hio hxi h1 h2 with h | h
        · exact absurd (hcl k ok h1 h3 i h) hnd
        · exact h
      have ahead : ∀ k ok xk, k < i → ios[k]? = some ok → xs[k]? = some xk → Done listed k ∨ clash ok xk io x = false := by
        intro k ok xk hik h1 h2
        rcases noclash k i ok xk io x hik h1 h2 hio hxi with h | h
        · exact .inl (hbi k h)
        · exact .inr h
      -- what i looks at is what it looked at in the text's order
      have see1 : ∀ t ∈ io.looks, e t = et t := by
        intro t ht
        refine l1.det t1 (fun k hk => ?_)
        obtain ⟨ok, xk, h1, h2, h3, _⟩ := Q1li hk
        constructor
        · intro hdk
          rcases Nat.lt_trichotomy k i with c | c | c
          · exact c
          · subst c; exact absurd hdk hnd
          · exact absurd ht ((Q69 (later k ok xk c h1 h2 hdk)).2.1 t h3)
        · intro hki
          rcases ahead k ok xk hki h1 h2 with h | h
          · exact h
          · exact absurd ht ((Q69 h).1 t h3)
      have see2 : ∀ id ∈ x.hr, H id = Ht id := by
        intro id hid
        refine l2.det t2 (fun k hk => ?_)
        obtain ⟨xk, h2, h3⟩ := Q1jp hk
        have hkl : k < ios.length := by have := (List.getElem?_eq_some_iff.1 h2).1; omega
        have h1 : ios[k]? = some ios[k] := List.getElem?_eq_getElem hkl
        constructor
        · intro hdk
          rcases Nat.lt_trichotomy k i with c | c | c
          · exact c
          · subst c; exact absurd hdk hnd
          · exact absurd hid ((Q69 (later k _ xk c h1 h2 hdk)).2.2.2.2 id h3)
        · intro hki
          rcases ahead k _ xk hki h1 h2 with h | h
          · exact h
          · exact absurd hid ((Q69 h).2.2.2.1 id h3).1
      have run := Qyy t3 see1 see2
      -- the new state
      have hdone := fun k => Q1cj (k := k) (show i < listed.size by omega)
      have n1 : Last (WE L ios xs) e0 (Done (listed.setIfInBounds i true)) (fun t => (WE L ios xs i t).getD (e t)) := l1.add hdone (fun k t hk hik hne => by
        obtain ⟨ok, xk, h1, h2, h3, _⟩ := Q1li hne
        exact Q1gs hio (fun hd => (Q69 (later k ok xk hik h1 h2 hk)).2.2.1 t hd h3)) (fun t => rfl)
      have n2 : Last (WH xs) Hs (Done (listed.setIfInBounds i true)) (upH H x.hw) := l2.add hdone (fun k id hk hik hne => by
        obtain ⟨xk, h2, h3⟩ := Q1jp hne
        have hkl : k < ios.length := by have := (List.getElem?_eq_some_iff.1 h2).1; omega
        have h1 : ios[k]? = some ios[k] := List.getElem?_eq_getElem hkl
        exact Q1hf hxi (fun hi' => ((Q69 (later k _ xk hik h1 h2 hk)).2.2.2.1 id hi').2 h3)) (fun t => (Q1am hxi H).symm)
      have hfree : ∀ id, nx + 64 * i ≤ id → id < nx + 64 * i + 64 → D id = none ∧ H id = none := fun id h1 h2 => hf id (by omega) (fun j hj hc' => by
        have : j = i := by omega
        subst this
        exact hnd hj)
      refine Qdk hX A (fr := nx + 64 * i) (by omega) hfree g2 (hc i o io g2 hio) run (e' := fun t => (WE L ios xs i t).getD (e t)) (H' := upH H x.hw) (fun t => Q1a5 hio hxi (e t)) rfl (fun a' w' D' A' hfr' => ?_)
      refine ih (listed.setIfInBounds i true) a' w' _ _ D' (by simpa using hsz) (by have := Q120 (show i < listed.size by omega) hnd; omega) (fun j io' hj hdj k hk => ?_) n1 n2 A' (fun id hid hno => ?_)
      · rw [hdone]
        rcases (hdone j).1 hdj with h | rfl
        · exact .inl (hcl j io' hj h k hk)
        · rw [hio] at hj
          injection hj with hj
          subst hj
          exact .inl (hbi k hk)
      · have h1 := hf id hid (fun j hj => hno j ((hdone j).2 (.inl hj)))
        have h2 := hno i ((hdone i).2 (.inr rfl))
        exact ⟨hfr' id h1.1 (by omega), Q127 (Q12r run) h1.2 h2⟩
def Q1at (P : Program) (ops : Array Oper) (ios : List IOper) (draw : Bool) : Bool := Qfp P ops ops.toList ios && (!draw || Qxm ios 0 ops.toList ios)
theorem Qxj (hm : P.follows .mixedOrders = true) (hX : Q7a P X) {id : Nat} {ops : Array Oper} {ios : List IOper} {draw : Bool} (hc : Q1at P ops ios draw = true) {s s' : St} (h : ireg X ios draw s = some s') {Q : Exit → Act → World → Prop}
  (A : At w0 D0 H0 F n0 m s.env.length (envF s.env) (look s.heap) a w D) (hf : ∀ id, s.nx ≤ id → D id = none ∧ look s.heap id = none) (hmn : m ≤ s.nx)
  (hQ : ∀ a' w' D', At w0 D0 H0 F n0 m s'.env.length (envF s'.env) (look s'.heap) a' w' D' → (∀ id, s'.nx ≤ id → D' id = none ∧ look s'.heap id = none) → Q .normal a' w') : (Code.region id ops draw).wp P Q a w := by
 unfold Q1at at hc
 rw [Bool.and_eq_true] at hc
 obtain ⟨hc1, hc2⟩ := hc
 obtain ⟨hl, hch⟩ := Qc6 hc1
 have hl : ios.length = ops.size := by simpa using hl.symm
 have hch' : ∀ j o io, ops[j]? = some o → ios[j]? = some io → Q97 P ops o io = true := fun j o io h1 h2 => hch j o io (by simpa using h1) h2
 unfold ireg at h
 obtain ⟨y, hy, h⟩ := bind_some h
 cases hcm : (!draw || calm (ios.zip y.2.2) 0 (ios.zip y.2.2)) with
 | false => rw [hcm] at h; cases h
 | true =>
  rw [hcm] at h
  simp only [cond_true, Option.some.injEq] at h
  subst h
  simp only at hQ
  rw [hl] at hQ
  cases draw with
  | false =>
   refine wp_region ?_
   have := Qiv hX hmn ios 0 s.env s.heap y a w D hy (fun j o io h1 h2 => hch' j o io (by simpa using h1) h2) (by omega) A (fun id h => hf id (by omega)) hQ
   rw [List.range_eq_range', ← hl]
   exact this
  | true =>
   refine wp_region_any hm ?_
   obtain ⟨g1, g2, g3, g4, g5⟩ := Qe1 (ios := ios) (xs := y.2.2) (L := s.env.length) (e0 := envF s.env) (H0 := look s.heap) ios 0 s.env s.heap y hy (fun j => by simp) (fun j => by simp) rfl (Last.none (fun k => by omega)) (Last.none (fun k => by omega))
   rw [g2] at hQ
   rw [Nat.zero_add, hl] at g4 g5
   have hnone : ∀ j, ¬ Done (Array.replicate ops.size false) j := by
    intro j hj
    unfold Done at hj
    rw [Array.getD_eq_getD_getElem?, Array.getElem?_replicate] at hj
    split at hj <;> cases hj
   have htodo : todo (Array.replicate ops.size false) = ops.size := by
    unfold todo
    simp [List.countP_replicate]
   have A' : At w0 D0 H0 F n0 m s.env.length (envF s.env) (look s.heap) a { w with drawn := w.drawn + 1 } D := by
    have st : Step w D (look s.heap) F n0 m m { w with drawn := w.drawn + 1 } D (look s.heap) := Step.same A.sim rfl rfl rfl rfl
    have := A.step st (Nat.le_refl _) (dst := none) (v := undef) (p := .un) (.un _ _) (e' := envF s.env) (fun t => by simp)
    exact this
   exact Q17k hX hmn hl (by omega) hch' (by simpa using hc2) (by simpa using hcm) (fun j o x h1 h2 => g3 j o x (Nat.zero_le _) h1 h2) g4 g5 hQ ops.size (Array.replicate ops.size false) a _ (envF s.env) (look s.heap) D (by simp) htodo
    (fun j io _ hd => absurd hd (hnone j)) (Last.none hnone) (Last.none hnone) A' (fun id hid _ => hf id hid)
end
end Go.Pv
end

section
/-
  Tidying up at a loop's head; a function's end.
-/
namespace Go.Pv
open Go.RowKit
def Like (p q : PV) : Prop := ∀ w M D v, Rep w M D v p → Rep w M D v q
theorem Like.refl (p : PV) : Like p p := fun _ _ _ _ h => h
theorem Like.ns {sz k : Nat} : Like (.ns sz) (.ms k sz 0 0) := fun w M D v h => by
 cases h with
 | ns _ A _ => exact .ms _ A 0 0 k sz 0 (Nat.le_refl _) (Nat.zero_le _) (.inl ⟨rfl, rfl⟩)
def Q9a (l l' : List PV) : Prop := l'.length = l.length ∧ ∀ (k : Nat) p q, l[k]? = some p → l'[k]? = some q → Like p q
theorem Q9a.nil : Q9a [] [] := ⟨rfl, fun k p q h => by simp at h⟩
theorem Q9a.cons {p q : PV} {l l' : List PV} (h : Like p q) (hl : Q9a l l') : Q9a (p :: l) (q :: l') := by
 refine ⟨by simp [hl.1], fun k p' q' h1 h2 => ?_⟩
 cases k with
 | zero =>
  simp at h1 h2
  subst h1 h2
  exact h
 | succ k => exact hl.2 k p' q' (by simpa using h1) (by simpa using h2)
theorem Q9a.refl : ∀ l : List PV, Q9a l l
 | [] => .nil
 | p :: r => .cons (Like.refl p) (Q9a.refl r)
def Bare (nx : Nat) (l : List (Nat × Ob)) : Prop := ∀ x ∈ l, nx ≤ x.1 ∧ x.2.cells = [] ∧ x.2.ro = 0
theorem Bare.mono {nx nx' : Nat} {l : List (Nat × Ob)} (h : Bare nx' l) (hn : nx ≤ nx') : Bare nx l := fun x hx => ⟨Nat.le_trans hn (h x hx).1, (h x hx).2⟩
theorem Q5h : ∀ (l : List PV) (nx : Nat), Q9a l (Q4b nx l).1 ∧ nx ≤ (Q4b nx l).2.1 ∧ Bare nx (Q4b nx l).2.2
  | [], nx => ⟨.nil, Nat.le_refl _, fun x hx => absurd hx List.not_mem_nil⟩
  | p :: r, nx => by
    have plain : Q9a (p :: r) (p :: (Q4b nx r).1) ∧ nx ≤ (Q4b nx r).2.1 ∧ Bare nx (Q4b nx r).2.2 :=
      ⟨.cons (Like.refl p) (Q5h r nx).1, (Q5h r nx).2⟩
    cases p with
    | ns sz =>
      obtain ⟨h1, h2, h3⟩ := Q5h r (nx + 1)
      refine ⟨.cons Like.ns h1, by simp only [Q4b]; omega, fun x hx => ?_⟩
      simp only [Q4b] at hx
      rcases List.mem_cons.1 hx with rfl | hx
      · exact ⟨Nat.le_refl _, rfl, rfl⟩
      · exact (h3.mono (by omega)) x hx
    | _ => exact plain
def VOb (ob ob' : Ob) : Prop := ob'.ro = ob.ro ∧ ob'.gr = ob.gr ∧ Q9a ob.cells ob'.cells
theorem Qot : ∀ (h : List (Nat × Ob)) (nx : Nat), nx ≤ (Qd8 nx h).2.1 ∧ Bare nx (Qd8 nx h).2.2 ∧ (∀ id ob', look (Qd8 nx h).1 id = some ob' → ∃ ob, look h id = some ob ∧ VOb ob ob')
  | [], nx => ⟨Nat.le_refl _, fun x hx => absurd hx List.not_mem_nil, fun id ob' h => by simp [Qd8, look] at h⟩
  | (k, ob) :: r, nx => by
    obtain ⟨h1, h2, h3⟩ := Q5h ob.cells nx
    obtain ⟨g1, g2, g3⟩ := Qot r (Q4b nx ob.cells).2.1
    refine ⟨by simp only [Qd8]; omega, fun x hx => ?_, fun id ob' hl => ?_⟩
    · simp only [Qd8] at hx
      rcases List.mem_append.1 hx with hx | hx
      · exact h3 x hx
      · exact (g2.mono h2) x hx
    · simp only [Qd8, look] at hl ⊢
      cases hb : Nat.beq k id with
      | true =>
        rw [hb] at hl
        simp only [cond_true, Option.some.injEq] at hl
        subst hl
        exact ⟨ob, rfl, rfl, rfl, h1⟩
      | false =>
        rw [hb] at hl
        simp only [cond_false] at hl ⊢
        exact g3 id ob' hl
theorem Qjq {l l' : List (Nat × Ob)} {id : Nat} {ob : Ob} (h : look (l ++ l') id = some ob) : look l id = some ob ∨ look l' id = some ob := by
 induction l with
 | nil => exact .inr h
 | cons x r ih =>
  obtain ⟨k, o⟩ := x
  simp only [List.cons_append, look] at h ⊢
  cases hb : Nat.beq k id with
  | true => rw [hb] at h; exact .inl h
  | false => rw [hb] at h; exact ih h
theorem Q11c {l : List (Nat × Ob)} {id : Nat} {ob : Ob} (h : look l id = some ob) : (id, ob) ∈ l := by
  induction l with
  | nil => simp [look] at h
  | cons x r ih =>
    obtain ⟨k, o⟩ := x
    simp only [look] at h
    by_cases c : k = id
    · subst c
      simp at h
      subst h
      exact List.mem_cons_self
    · have : Nat.beq k id = false := by rw [Bool.eq_false_iff]; exact fun h => c (Nat.eq_of_beq_eq_true h)
      rw [this] at h
      exact List.mem_cons_of_mem _ (ih h)
theorem Qjp : ∀ (l : List Ob) (i j : Nat), look (number i l) (i + j) = l[j]?
 | [], i, j => by simp [number, look]
 | o :: r, i, j => by
  simp only [number, look]
  cases j with
  | zero => simp
  | succ j =>
   have : Nat.beq i (i + (j + 1)) = false := by rw [Bool.eq_false_iff]; exact fun h => by have := Nat.eq_of_beq_eq_true h; omega
   rw [this]
   have := Qjp r (i + 1) j
   rw [show i + 1 + j = i + (j + 1) by omega] at this
   simpa using this
theorem Q6v (l : List Ob) : look (number 0 l) = hF l := funext fun j => by
 have := Qjp l 0 j
 rw [Nat.zero_add] at this
 exact this
theorem Q8y : ∀ m : Nat, (upTo m).length = m ∧ ∀ p, p < m → (upTo m)[p]? = some p
  | 0 => ⟨rfl, fun p h => by omega⟩
  | m + 1 => by
    obtain ⟨h1, h2⟩ := Q8y m
    refine ⟨by simp [upTo, h1], fun p hp => ?_⟩
    simp only [upTo]
    by_cases c : p < m
    · rw [List.getElem?_append_left (by omega)]
      exact h2 p c
    · have : p = m := by omega
      subst this
      rw [List.getElem?_append_right (by omega), h1]
      simp
theorem Q173 (m : Nat) : (upTo m).Nodup := by
 induction m with
 | zero => exact List.nodup_nil
 | succ m ih =>
  simp only [upTo]
  rw [List.nodup_append]
  refine ⟨ih, by simp, fun a ha b hb => ?_⟩
  simp at hb
  subst hb
  obtain ⟨i, hi⟩ := List.getElem?_of_mem ha
  have hl := (List.getElem?_eq_some_iff.1 hi).1
  rw [(Q8y b).1] at hl
  rw [(Q8y b).2 i hl] at hi
  injection hi with hi
  omega
section
variable {P : Program} {X : Orc} {w0 : World} {D0 : Nat → Option Nat} {H0 : Nat → Option Ob} {F : Nat → Nat → Prop} {n0 m L : Nat} {e : Nat → PV} {H : Nat → Option Ob} {a : Act} {w : World} {D : Nat → Option Nat}
theorem Qtt (S : Sim w D H F n0 m) {Hv : Nat → Option Ob} (hv : ∀ id ob', Hv id = some ob' → (∃ ob, H id = some ob ∧ VOb ob ob') ∨ (ob'.cells = [] ∧ ob'.ro = 0 ∧ D id = none)) :
    (∀ b o, Mut D Hv F b o → Mut D H F b o) ∧ (∀ b o, MutO D Hv b o → MutO D H b o) ∧ Sim w D Hv F n0 m := by
  have hO : ∀ b o, MutO D Hv b o → MutO D H b o := by
    rintro b o ⟨id, ob', h1, h2, h3⟩
    rcases hv id ob' h1 with ⟨ob, g1, g2, _⟩ | ⟨_, _, g⟩
    · exact ⟨id, ob, g1, h2, by omega⟩
    · rw [h2] at g; cases g
  have hM : ∀ b o, Mut D Hv F b o → Mut D H F b o := fun b o h => h.imp (fun h => h) (hO b o)
  refine ⟨hM, hO, S.fr, S.le, S.own, fun id ob' h => ?_, fun i j x y k hi hj di dj => ?_, fun id ob' b o h hd => ?_⟩
  · rcases hv id ob' h with ⟨ob, g1, g2, g3, g4⟩ | ⟨g1, g2, g3⟩
    · obtain ⟨q1, q2⟩ := S.ok id ob g1
      refine ⟨by rw [g4.1]; omega, ?_⟩
      rcases q2 with ⟨e1, e2⟩ | ⟨b, carr, t, e1, e2, e3, e4, e5⟩
      · exact .inl ⟨List.eq_nil_of_length_eq_zero (by rw [g4.1, e1]; rfl), e2⟩
      · refine .inr ⟨b, carr, t, e1, e2, by rw [g4.1]; exact e3, fun hg => e4 (by rw [← g3]; exact hg), fun k q hq => ?_⟩
        have hlt : k < ob.cells.length := by rw [← g4.1]; exact (List.getElem?_eq_some_iff.1 hq).1
        obtain ⟨v, r1, r2, r3⟩ := e5 k _ (List.getElem?_eq_getElem hlt)
        exact ⟨v, r1, r2, g4.2 k _ q (List.getElem?_eq_getElem hlt) hq _ _ _ _ (r3.to (fun b o _ h => hM b o h) (fun _ _ h => h))⟩
    · exact ⟨by omega, .inl ⟨g1, g3⟩⟩
  · rcases hv i x hi with ⟨ob, g1, _⟩ | ⟨_, _, g⟩
    · rcases hv j y hj with ⟨ob', f1, _⟩ | ⟨_, _, f⟩
      · exact S.inj i j ob ob' k g1 f1 di dj
      · rw [dj] at f; cases f
    · rw [di] at g; cases g
  · rcases hv id ob' h with ⟨ob, g1, _⟩ | ⟨_, _, g⟩
    · exact S.dis id ob b o g1 hd
    · rw [hd] at g; cases g
theorem renumber (S : Sim w D H F n0 m) (byRef byRefO : Bool) {vs : List PV} {y : List PV × List Nat × List Nat} {z : List Ob × List Nat × List Nat} {n : Nat} (hy : Q56 (pass H byRef 8) vs (upTo m) = some y) (hz : Q33 H byRefO true n 0 y.2.1 = some z) (hdj : ∀ x ∈ y.2.2 ++ z.2.2, x ∉ z.2.1) :
    ∃ D', Sim w D' (hF z.1) F n0 m ∧ (∀ id, id < m → D' id = D id) ∧ (∀ id, z.1.length ≤ id → D' id = none) ∧ (∀ b o, Mut D' (hF z.1) F b o → Mut D H F b o) ∧ m ≤ z.1.length ∧ y.1.length = vs.length ∧
      ∀ (i : Nat) v p q, vs[i]? = some p → y.1[i]? = some q → Rep w (Mut D H F) D v p → Rep w (Mut D' (hF z.1) F) D' v q := by
  have hy0 := Q3i (M := Mut D H F) (fun p ids x hx => Q7s S (fun _ _ _ h => h) byRef 8 p ids x hx) vs (upTo m) y hy
  have hz0 := Q3g (M := Mut D H F) S (fun _ _ _ h => h) byRefO true n 0 y.2.1 z (Nat.zero_le _) hz
  have hnd0 := hy0.2.1 (Q173 m)
  have hnd := hz0.2.1 hnd0
  have hpre : upTo m <+: z.2.1 := hy0.1.trans hz0.1
  have hlow : ∀ p, p < m → z.2.1[p]? = some p := fun p hp => Q6d hpre ((Q8y m).2 p hp)
  have hlen : z.1.length = z.2.1.length := by have := hz0.2.2.1; omega
  obtain ⟨h1, h2, h3⟩ := Q108 S byRefO true hz hnd0 (lent := y.2.2 ++ z.2.2) (fun x hx => List.mem_append_right _ hx) (F' := F) (fun b o h => .inl h) (fun id _ ob b o h1 h2 _ hF => S.dis id ob b o h1 h2 hF) hdj (n' := n0) (m' := m) S.fr S.le
    (fun p b hp => by
      unfold Dof at hp
      cases hq : z.2.1[p]? with
      | none => rw [hq] at hp; cases hp
      | some id =>
        rw [hq] at hp
        rcases S.own id b hp with h | h
        · have := (List.getElem?_inj (List.getElem?_eq_some_iff.1 hq).1 hnd).1 (hq.trans (hlow id h).symm)
          exact .inl (by omega)
        · exact .inr h)
    (fun id ob b o _ h1 h2 => S.dis id ob b o h1 h2)
    (fun id ob b hob hg hd => by
      rcases (S.ok id ob hob).2 with ⟨_, e2⟩ | ⟨b', carr, t, e1, _, _, e4, _⟩
      · rw [hd] at e2; cases e2
      · rw [hd] at e1
        injection e1 with e1
        subst e1
        exact e4 (by simpa using hg))
  refine ⟨Dof D z.2.1, h3, fun id hid => by unfold Dof; rw [hlow id hid]; rfl, fun id hid => by unfold Dof; rw [List.getElem?_eq_none (by omega)]; rfl, h1, by have := hpre.length_le; rw [(Q8y m).1] at this; omega, hy0.2.2.1, fun i v p q hp hq hr => ?_⟩
  obtain ⟨_, _, _, c4⟩ := Q3i (fun p ids x hx => Q7s S (M := Mut (Dof D z.2.1) (hF z.1) F) (fun b o _ h => h1 b o h) byRef 8 p ids x hx) vs (upTo m) y hy
  exact c4 z.2.1 hz0.1 (fun id hi => h2 id (List.mem_append_left _ hi)) i v p q hp hq hr
theorem Qxq (live : List Nat) : ∀ (l : List PV) (i : Nat), (mask live i l).length = l.length ∧ ∀ (k : Nat) q, (mask live i l)[k]? = some q → q = .un ∨ l[k]? = some q
 | [], i => ⟨rfl, fun k q h => by simp [mask] at h⟩
 | p :: r, i => by
  obtain ⟨h1, h2⟩ := Qxq live r (i + 1)
  refine ⟨by simp [mask, h1], fun k q hq => ?_⟩
  cases k with
  | zero =>
   simp only [mask, List.getElem?_cons_zero, Option.some.injEq] at hq
   subst hq
   cases has live i with
   | true => exact .inr rfl
   | false => exact .inl rfl
  | succ k => simpa using h2 k q (by simpa [mask] using hq)
theorem Q133 {n : Nat} {vs : List PV} {ids : List Nat} {y : List PV × List Nat × List Nat} (h : Q56 (pass H true n) vs ids = some y) : y.2.2 = [] := by
 induction n generalizing vs ids y with
 | zero =>
  cases vs with
  | nil => simp only [Q56, Option.some.injEq] at h; subst h; rfl
  | cons p r =>
   simp only [Q56] at h
   obtain ⟨x, hx, _⟩ := bind_some h
   simp [pass] at hx
 | succ n ih =>
  have one : ∀ p ids x, pass H true (n + 1) p ids = some x → x.fr = [] := by
   intro p ids x h
   cases p with
   | bx id off => rw [pass] at h; injection h with h; subst h; rfl
   | ms id sz off len => rw [pass, cond_true] at h; injection h with h; subst h; rfl
   | agg c =>
    rw [pass] at h
    obtain ⟨y, hy, h⟩ := bind_some h
    injection h with h
    subst h
    exact ih hy
   | tup c =>
    rw [pass] at h
    obtain ⟨y, hy, h⟩ := bind_some h
    injection h with h
    subst h
    exact ih hy
   | fn f a b =>
    rw [pass] at h
    obtain ⟨y, hy, h⟩ := bind_some h
    obtain ⟨z, hz, h⟩ := bind_some h
    injection h with h
    subst h
    show y.2.2 ++ z.2.2 = []
    rw [ih hy, ih hz]
    rfl
   | _ => simp only [pass, Option.some.injEq] at h; subst h; rfl
  induction vs generalizing ids y with
  | nil => simp only [Q56, Option.some.injEq] at h; subst h; rfl
  | cons p r ihr =>
   simp only [Q56] at h
   obtain ⟨x, hx, h⟩ := bind_some h
   obtain ⟨z, hz, h⟩ := bind_some h
   injection h with h
   subst h
   show x.fr ++ z.2.2 = []
   rw [one p ids x hx, ihr hz]
   rfl
theorem Qpx {own : Bool} : ∀ (n k : Nat) (ids : List Nat) (z : List Ob × List Nat × List Nat), Q33 H true own n k ids = some z → z.2.2 = []
 | 0, k, ids, z, h => by simp [Q33] at h
 | n + 1, k, ids, z, h => by
  simp only [Q33] at h
  cases hid : ids[k]? with
  | none => simp only [hid, Option.some.injEq] at h; subst h; rfl
  | some id =>
   simp only [hid] at h
   obtain ⟨ob, hob, h⟩ := bind_some h
   obtain ⟨y, hy, h⟩ := bind_some h
   obtain ⟨z', hz, h⟩ := bind_some h
   injection h with h
   subst h
   show y.2.2 ++ z'.2.2 = []
   rw [Q133 hy, Qpx n (k + 1) y.2.1 z' hz]
   rfl
theorem Quh {s : St} (A : At w0 D0 H0 F n0 m s.env.length (envF s.env) (look s.heap) a w D) (hf : ∀ id, s.nx ≤ id → D id = none ∧ look s.heap id = none) {live : List Nat} {y : List PV × List Ob} (h : gc0 m live s = some y) :
    ∃ D', At w0 D0 H0 F n0 m y.1.length (envF y.1) (hF y.2) a w D' ∧ (∀ id, y.2.length ≤ id → D' id = none ∧ hF y.2 id = none) ∧ m ≤ y.2.length := by
  unfold gc0 at h
  obtain ⟨y1, hy1, h⟩ := bind_some h
  obtain ⟨z, hz, h⟩ := bind_some h
  injection h with h
  subst h
  obtain ⟨v1, v2, v3⟩ := Q5h (mask live 0 s.env) s.nx
  obtain ⟨u1, u2, u3⟩ := Qot s.heap (Q4b s.nx (mask live 0 s.env)).2.1
  obtain ⟨hM, hO, S⟩ := Qtt A.sim (Hv := look ((Qd8 (Q4b s.nx (mask live 0 s.env)).2.1 s.heap).1 ++ ((Q4b s.nx (mask live 0 s.env)).2.2 ++ (Qd8 (Q4b s.nx (mask live 0 s.env)).2.1 s.heap).2.2))) (fun id ob' h => by
    rcases Qjq h with h | h
    · exact .inl (u3 id ob' h)
    · have : s.nx ≤ id ∧ ob'.cells = [] ∧ ob'.ro = 0 := by
        rcases List.mem_append.1 (Q11c h) with hm | hm
        · exact v3 _ hm
        · exact (u2.mono v2) _ hm
      exact .inr ⟨this.2.1, this.2.2, (hf id this.1).1⟩)
  obtain ⟨D', S', hlow, hout, hsub, hlen, hyl, hrep⟩ := renumber S true true hy1 hz (by rw [Q133 hy1, Qpx _ _ _ _ hz]; exact fun x hx => absurd hx List.not_mem_nil)
  obtain ⟨m1, m2⟩ := Qxq live s.env 0
  have hlt : y1.1.length = s.env.length := by rw [hyl, v1.1, m1]
  refine ⟨D', ⟨S', fun t => ?_, by rw [hlt]; exact A.size, fun t ht => ?_, A.keeps, fun id hid => by rw [hlow id hid, A.low id hid], fun b o hb h => A.sub b o hb (hM b o (hsub b o h)), A.defers⟩, fun id hid => ⟨hout id hid, List.getElem?_eq_none hid⟩, hlen⟩
  · unfold envF
    rw [List.getD_eq_getElem?_getD]
    cases hq : y1.1[t]? with
    | none => exact .un _ _
    | some q =>
      have htl : t < (Q4b s.nx (mask live 0 s.env)).1.length := by rw [← hyl]; exact (List.getElem?_eq_some_iff.1 hq).1
      refine hrep t _ _ q (List.getElem?_eq_getElem htl) hq ?_
      have htm : t < (mask live 0 s.env).length := by rw [← v1.1]; exact htl
      refine v1.2 t _ _ (List.getElem?_eq_getElem htm) (List.getElem?_eq_getElem htl) _ _ _ _ ?_
      rcases m2 t _ (List.getElem?_eq_getElem htm) with h | h
      · rw [h]; exact .un _ _
      · have := A.env t
        unfold envF at this
        rw [List.getD_eq_getElem?_getD, h] at this
        exact this.to (fun b o _ h => hM b o h) (fun _ _ h => h)
  · show envF y1.1 t = .un
    unfold envF
    rw [List.getD_eq_getElem?_getD, List.getElem?_eq_none ht]
    rfl
theorem Like.flat (p : PV) : Like p (Qsm p) := fun w M D v h => by
 cases p <;> first | exact h | skip
 cases h with
 | ns _ A sz => exact .sl _ A 0 0 0 [] 0 0 (fun _ _ => default) rfl (Nat.le_refl _) (Nat.zero_le _) (fun r hr => absurd hr List.not_mem_nil) (fun h => absurd h (Nat.lt_irrefl _)) (fun j r hj => by simp at hj) (fun j r hj => by simp at hj)
theorem Q9a.flat (l : List PV) : Q9a l (l.map Qsm) := by
 refine ⟨by simp, fun k p q hp hq => ?_⟩
 rw [List.getElem?_map, hp] at hq
 simp only [Option.map_some, Option.some.injEq] at hq
 subst hq
 exact Like.flat p
theorem Q1hy {s : St} (A : At w0 D0 H0 F n0 m s.env.length (envF s.env) (look s.heap) a w D) : At w0 D0 H0 F n0 m (Q7p s).env.length (envF (Q7p s).env) (look (Q7p s).heap) a w D := by
  obtain ⟨hM, hO, S⟩ := Qtt A.sim (Hv := look (Q7p s).heap) (fun id ob' h => by
    rw [show (Q7p s).heap = s.heap.map fun x => (x.1, Qeh x.2) from rfl, Qc5] at h
    cases e : look s.heap id with
    | none => rw [e] at h; cases h
    | some ob =>
      rw [e] at h
      simp only [Option.map_some, Option.some.injEq] at h
      subst h
      exact .inl ⟨ob, rfl, rfl, rfl, Q9a.flat ob.cells⟩)
  have hlen : (Q7p s).env.length = s.env.length := by simp [Q7p]
  have henv : ∀ t, envF (Q7p s).env t = Qsm (envF s.env t) := fun t => by
    show (s.env.map Qsm).getD t .un = Qsm (s.env.getD t .un)
    rw [List.getD_eq_getElem?_getD, List.getD_eq_getElem?_getD, List.getElem?_map]
    cases s.env[t]? <;> rfl
  refine ⟨S, fun t => ?_, by rw [hlen]; exact A.size, fun t ht => ?_, A.keeps, A.low, fun b o hb h => A.sub b o hb (hM b o h), A.defers⟩
  · rw [henv]
    exact Like.flat _ _ _ _ _ ((A.env t).to (fun b o _ h => hM b o h) (fun _ _ h => h))
  · rw [henv, A.out t (by rw [hlen] at ht; exact ht)]
    rfl
theorem Q12o {s : St} (A : At w0 D0 H0 F n0 m s.env.length (envF s.env) (look s.heap) a w D) (hf : ∀ id, s.nx ≤ id → D id = none ∧ look s.heap id = none) {live : List Nat} {y : List PV × List Ob} (h : gc m live s = some y) :
  ∃ D', At w0 D0 H0 F n0 m y.1.length (envF y.1) (hF y.2) a w D' ∧ (∀ id, y.2.length ≤ id → D' id = none ∧ hF y.2 id = none) ∧ m ≤ y.2.length := by
 unfold gc at h
 cases c : has live 200001 with
 | false =>
  rw [c] at h
  exact Quh A hf h
 | true =>
  rw [c] at h
  refine Quh (Q1hy A) (fun id hid => ⟨(hf id hid).1, ?_⟩) h
  rw [show (Q7p s).heap = s.heap.map fun x => (x.1, Qeh x.2) from rfl, Qc5, (hf id hid).2]
  rfl
def Qb8 (P : Program) : List ResultVar → List RV → Bool
 | [], [] => true
 | .tmp t :: r, .tmp t' :: r' => Nat.beq t t' && Qb8 P r r'
 | .cell t ty :: r, .cell t' n ag :: r' => Nat.beq t t' && tyOK P ty n ag && Qb8 P r r'
 | _, _ => false
theorem Q1gy (S : Sim w D H F n0 m) {t : TypeId} {n : Nat} {ag : Bool} (ht : tyOK P t n ag = true) {p q : PV} {c : List PV × List Nat} (hc : reads H n p = some c) (hq : shape ag c.1 = some q) {u : Value} (hu : Rep w (Mut D H F) D u p) :
  ∃ v, (do loadVar t (← asAddr u) : Sem Value).run P w = .ok v w ∧ Rep w (Mut D H F) D v q := by
 obtain ⟨b, off, xs, hv, hl, hra, hrn⟩ := Qlb S hc hu
 obtain ⟨ha, hn, h1⟩ := Q7m ht
 subst hv
 cases ag with
 | true =>
  obtain ⟨fs, hu⟩ := Qnh ha
  simp only [shape, cond_true, Option.some.injEq] at hq
  subst hq
  refine ⟨.agg xs.toArray, ?_, .agg _ _ _ (by simpa using hrn.1) (fun i v p hv hp => (hrn.2 i v p (by simpa using hv) hp).1) (fun i v p hv hp => (hrn.2 i v p (by simpa using hv) hp).2)⟩
  obtain ⟨i, hi, his⟩ := Q8x hn
  have := run_loadVar_mid (P := P) w b off t xs _ hra hu rfl (by rw [hi]; simp [his, hl])
  simp [asAddr, this]
 | false =>
  have hn1 : n = 1 := h1 rfl
  subst hn1
  cases xs with
  | nil => simp at hl
  | cons u r =>
   have hr0 : r = [] := by cases r with | nil => rfl | cons _ _ => simp at hl
   subst hr0
   obtain ⟨c1, c2⟩ := c
   cases c1 with
   | nil => have := hrn.1; simp at this
   | cons p r =>
    have : r = [] := by cases r with | nil => rfl | cons _ _ => have := hrn.1; simp at this
    subst this
    simp only [shape, cond_false, Option.some.injEq] at hq
    subst hq
    have hcell := hra 0 u rfl
    simp only [Nat.add_zero] at hcell
    refine ⟨u, ?_, (hrn.2 0 u p rfl rfl).2⟩
    simp [asAddr, loadVar, Q6h ha, hcell]
def Q1b7 (tmps : Array Value) : ResultVar → Sem Value
 | .tmp t => pure (tmps.getD t undef)
 | .cell x t => do loadVar t (← asAddr (tmps.getD x undef))
theorem Q17z (fn : Func) (tmps : Array Value) : results fn tmps = (do let vs ← fn.results.mapM (Q1b7 tmps); pure (if h : vs.size = 1 then vs[0] else .tuple vs)) := by
 unfold results
 have : (fun x : ResultVar => (match x with | .tmp t => pure (tmps.getD t undef) | .cell x t => do loadVar t (← asAddr (tmps.getD x undef)) : Sem Value)) = Q1b7 tmps := by
  funext x
  cases x <;> rfl
 rw [← this]
 rfl
theorem Qlr {s : St} (S : Sim w D (look s.heap) F n0 m) (he : Qa7 w (Mut D (look s.heap) F) D a (envF s.env)) : ∀ (rs : List ResultVar) (is : List RV) (vs : List PV), Qb8 P rs is = true → mapO (rv s) is = some vs →
  ∃ us, (rs.mapM (Q1b7 a.tmps)).run P w = .ok us w ∧ RepL w (Mut D (look s.heap) F) D us vs
 | [], [], vs, _, h => by
  simp only [mapO, Option.some.injEq] at h
  subst h
  exact ⟨[], by simp, RepL.nil _ _ _⟩
 | [], _ :: _, vs, h, _ => by cases h
 | x :: rs, [], vs, h, _ => by cases x <;> cases h
 | x :: rs, i :: is, vs, hc, h => by
  simp only [mapO] at h
  obtain ⟨q, hq, h⟩ := bind_some h
  obtain ⟨qs, hqs, h⟩ := bind_some h
  injection h with h
  subst h
  cases x with
  | tmp t =>
   cases i with
   | cell _ _ _ => cases hc
   | tmp t' =>
    simp only [Qb8, Bool.and_eq_true] at hc
    have := Nat.eq_of_beq_eq_true hc.1
    subst this
    obtain ⟨us, hus, hr⟩ := Qlr S he rs is qs hc.2 hqs
    simp only [rv, Option.some.injEq] at hq
    subst hq
    refine ⟨_ :: us, ?_, RepL.cons (he t) hr⟩
    rw [List.mapM_cons, Sem.run_bind]
    have hv' : (Q1b7 a.tmps (.tmp t)).run P w = .ok (a.tmps.getD t undef) w := rfl
    rw [hv', Result.andThen_ok, Sem.run_bind, hus]
    rfl
  | cell t ty =>
   cases i with
   | tmp _ => cases hc
   | cell t' n ag =>
    simp only [Qb8, Bool.and_eq_true] at hc
    have := Nat.eq_of_beq_eq_true hc.1.1
    subst this
    obtain ⟨us, hus, hr⟩ := Qlr S he rs is qs hc.2 hqs
    simp only [rv] at hq
    obtain ⟨c, hc1, hc2⟩ := bind_some hq
    obtain ⟨v, hv, hvr⟩ := Q1gy (P := P) S hc.1.2 hc1 hc2 (he t)
    refine ⟨v :: us, ?_, RepL.cons hvr hr⟩
    rw [List.mapM_cons, Sem.run_bind]
    have hv' : (Q1b7 a.tmps (.cell t ty)).run P w = .ok v w := hv
    rw [hv', Result.andThen_ok, Sem.run_bind, hus]
    rfl
theorem Q71 : ∀ (m : Nat) (l : List Ob) (p : Nat) (ob : Ob), (regr m l)[p]? = some ob → ∃ o, l[p]? = some o ∧ ob.ro = o.ro ∧ ob.cells = o.cells ∧ (p < m → ob = o)
 | _, [], p, ob, h => by simp [regr] at h
 | 0, o :: r, p, ob, h => by
  cases p with
  | zero =>
   simp only [regr, List.getElem?_cons_zero, Option.some.injEq] at h
   subst h
   exact ⟨o, rfl, rfl, rfl, fun h => absurd h (Nat.not_lt_zero _)⟩
  | succ p =>
   simp only [regr, List.getElem?_cons_succ] at h
   obtain ⟨o', h1, h2, h3, _⟩ := Q71 0 r p ob h
   exact ⟨o', by simpa using h1, h2, h3, fun h => absurd h (Nat.not_lt_zero _)⟩
 | m + 1, o :: r, p, ob, h => by
  cases p with
  | zero =>
   simp only [regr, List.getElem?_cons_zero, Option.some.injEq] at h
   subst h
   exact ⟨o, rfl, rfl, rfl, fun _ => rfl⟩
  | succ p =>
   simp only [regr, List.getElem?_cons_succ] at h
   obtain ⟨o', h1, h2, h3, h4⟩ := Q71 m r p ob h
   exact ⟨o', by simpa using h1, h2, h3, fun h => h4 (by omega)⟩
theorem Qck : ∀ (m : Nat) (l : List Ob), (regr m l).length = l.length
 | _, [] => by simp [regr]
 | 0, o :: r => by simp [regr, Qck 0 r]
 | m + 1, o :: r => by simp [regr, Qck m r]
theorem Q1aw (m : Nat) (l : List Ob) (p : Nat) (o : Ob) (h : l[p]? = some o) : ∃ ob, (regr m l)[p]? = some ob ∧ ob.ro = o.ro ∧ ob.cells = o.cells := by
 have hlt : p < (regr m l).length := by rw [Qck]; exact (List.getElem?_eq_some_iff.1 h).1
 obtain ⟨o', h1, h2, h3, _⟩ := Q71 m l p _ (List.getElem?_eq_getElem hlt)
 rw [h] at h1
 injection h1 with h1
 subst h1
 exact ⟨_, List.getElem?_eq_getElem hlt, h2, h3⟩
theorem Qsb {m : Nat} {l : List Ob} {D : Nat → Option Nat} {F : Nat → Nat → Prop} {b o : Nat} : Mut D (hF (regr m l)) F b o ↔ Mut D (hF l) F b o := by
  constructor
  · rintro (h | ⟨id, ob, h1, h2, h3⟩)
    · exact .inl h
    · obtain ⟨o', g1, g2, _⟩ := Q71 m l id ob h1
      exact .inr ⟨id, o', g1, h2, by rw [← g2]; exact h3⟩
  · rintro (h | ⟨id, ob, h1, h2, h3⟩)
    · exact .inl h
    · obtain ⟨o', g1, g2, _⟩ := Q1aw m l id ob h1
      exact .inr ⟨id, o', g1, h2, by rw [g2]; exact h3⟩
theorem Q1cx {w : World} {D : Nat → Option Nat} {l : List Ob} {F : Nat → Nat → Prop} {n0 m : Nat} (S : Sim w D (hF l) F n0 m) : Sim w D (hF (regr m l)) F n0 m := by
  refine ⟨S.fr, S.le, S.own, fun id ob h => ?_, fun i j a b k hi hj di dj => ?_, fun id ob b o h hd => ?_⟩
  · obtain ⟨o', g1, g2, g3, g4⟩ := Q71 m l id ob h
    obtain ⟨k1, k2⟩ := S.ok id o' g1
    refine ⟨by rw [g2, g3]; exact k1, ?_⟩
    rcases k2 with ⟨e1, e2⟩ | ⟨b, carr, t, e1, e2, e3, e4, e5⟩
    · exact .inl ⟨by rw [g3]; exact e1, e2⟩
    · refine .inr ⟨b, carr, t, e1, e2, by rw [g3]; exact e3, fun hg => ?_, fun k p hp => ?_⟩
      · by_cases c : id < m
        · rw [g4 c] at hg
          exact e4 hg
        · exact (S.own id b e1).resolve_left c
      · rw [g3] at hp
        obtain ⟨v, q1, q2, q3⟩ := e5 k p hp
        exact ⟨v, q1, q2, q3.to (fun b o _ h => Qsb.1 h) (fun _ _ h => h)⟩
  · obtain ⟨a', g1, _⟩ := Q71 m l i a hi
    obtain ⟨b', g2, _⟩ := Q71 m l j b hj
    exact S.inj i j a' b' k g1 g2 di dj
  · obtain ⟨a', g1, _⟩ := Q71 m l id ob h
    exact S.dis id a' b o g1 hd
theorem Qj9 {fn : IFn} {Fn : Func} {s : St} (A : At w0 D0 H0 F n0 m s.env.length (envF s.env) (look s.heap) a w D) (hf : ∀ id, s.nx ≤ id → D id = none ∧ look s.heap id = none) (hc : Qb8 P Fn.results.toList fn.res = true) {r : Rs} (h : fin fn m s = some r) :
    ∃ v p h' D', r = .ret p h' ∧ (results Fn a.tmps).run P w = .ok v w ∧ Sim w D' (hF h') F n0 m ∧ (∀ id, id < m → D' id = D id) ∧ (∀ id, h'.length ≤ id → D' id = none) ∧ (∀ b o, Mut D' (hF h') F b o → Mut D (look s.heap) F b o) ∧ m ≤ h'.length ∧ Rep w (Mut D' (hF h') F) D' v p := by
  unfold fin at h
  obtain ⟨vs, hvs, h⟩ := bind_some h
  obtain ⟨y, hy, h⟩ := bind_some h
  obtain ⟨z, hz, h⟩ := bind_some h
  obtain ⟨hdj, h⟩ := Q19 h
  injection h with h
  subst h
  obtain ⟨us, hus, hrl⟩ := Qlr A.sim A.env _ _ vs hc hvs
  -- what stands in the results, laid out
  have hvirt : Q9a vs (bif fn.keep then Q4b s.nx vs else (vs, s.nx, [])).1 ∧ Bare s.nx (bif fn.keep then Q4b s.nx vs else (vs, s.nx, [])).2.2 := by
    cases fn.keep with
    | true => exact ⟨(Q5h vs s.nx).1, (Q5h vs s.nx).2.2⟩
    | false => exact ⟨Q9a.refl vs, fun x hx => absurd hx List.not_mem_nil⟩
  obtain ⟨hlike, hbare⟩ := hvirt
  obtain ⟨hM, hO, S⟩ := Qtt A.sim (Hv := look (s.heap ++ (bif fn.keep then Q4b s.nx vs else (vs, s.nx, [])).2.2)) (fun id ob' h => by
    rcases Qjq h with h | h
    · exact .inl ⟨ob', h, rfl, rfl, Q9a.refl _⟩
    · have := hbare _ (Q11c h)
      exact .inr ⟨this.2.1, this.2.2, (hf id this.1).1⟩)
  obtain ⟨D', S', hlow, hout, hsub, hlen, hyl, hrep⟩ := renumber S fn.keep false hy hz (Qfd.1 hdj)
  have hR : RepL w (Mut D' (hF z.1) F) D' us y.1 := by
    refine ⟨by rw [hyl, hlike.1]; exact hrl.1, fun i v q hv hq => ?_⟩
    have h1 : i < (bif fn.keep then Q4b s.nx vs else (vs, s.nx, [])).1.length := by rw [← hyl]; exact (List.getElem?_eq_some_iff.1 hq).1
    have h2 : i < vs.length := by rw [← hlike.1]; exact h1
    refine hrep i v _ q (List.getElem?_eq_getElem h1) hq ?_
    refine hlike.2 i _ _ (List.getElem?_eq_getElem h2) (List.getElem?_eq_getElem h1) _ _ _ _ ?_
    exact (hrl.2 i v _ hv (List.getElem?_eq_getElem h2)).to (fun b o _ h => hM b o h) (fun _ _ h => h)
  have hrun : ∀ u : Value, (if h : us.toArray.size = 1 then us.toArray[0] else .tuple us.toArray) = u → (results Fn a.tmps).run P w = .ok u w := by
    intro u hu
    rw [Q17z, Sem.run_bind, Array.mapM_eq_mapM_toList, Sem.run_map, hus, Result.andThen_ok, Result.andThen_ok]
    rw [← hu]
    rfl
  have hR : RepL w (Mut D' (hF (regr m z.1)) F) D' us y.1 := hR.mono fun v p h => h.to (fun b o _ h => Qsb.1 h) (fun _ _ h => h)
  refine ⟨_, _, regr m z.1, D', rfl, hrun _ rfl, Q1cx S', hlow, fun id h => hout id (by rw [Qck] at h; exact h), fun b o h => hM b o (hsub b o (Qsb.1 h)), by rw [Qck]; exact hlen, ?_⟩
  have htup : ∀ l : List PV, RepL w (Mut D' (hF (regr m z.1)) F) D' us l → Rep w (Mut D' (hF (regr m z.1)) F) D' (.tuple us.toArray) (.tup l) := fun l hl =>
    .tup _ _ _ (by simpa using hl.1) (fun i v p hv hp => hl.2 i v p (by simpa using hv) hp)
  generalize y.1 = l at hR ⊢
  match l, hR with
  | [], hR =>
    have : us.length = 0 := hR.1
    rw [dif_neg (by simp [this])]
    exact htup _ hR
  | [p], hR =>
    have : us.length = 1 := hR.1
    rw [dif_pos (by simpa using this)]
    exact hR.2 0 _ _ (by simp [this]) rfl
  | p :: q :: r, hR =>
    have : us.length = r.length + 1 + 1 := hR.1
    rw [dif_neg (by simp [this])]
    exact htup _ hR
end
end Go.Pv
end

section
/-
  Code, loops, functions: WHAT THE EVALUATOR ANSWERS, THE MACHINE ANSWERS.
-/
namespace Go.Pv
open Go.RowKit
def Q3n (P : Program) : IR → Code → Bool
 | .skip, c => (match c with | .skip => true | .label _ => true | _ => false)
 | .reg ios draw, c => (match c with | .region _ ops d => (d == draw) && Q1at P ops ios draw | _ => false)
 | .seq a b, c => (match c with | .seq x y => Q3n P a x && Q3n P b y | _ => false)
 | .cond q a b, c => (match c with | .cond p x y => Q39 p q && Q3n P a x && Q3n P b y | _ => false)
 | .block id b, c => (match c with | .block id' x => Nat.beq id id' && Q3n P b x | _ => false)
 | .loop _ b, c => (match c with | .loop x => Q3n P b x | _ => false)
 | .exit id, c => (match c with | .exit id' => Nat.beq id id' | _ => false)
 | .ret, c => (match c with | .ret => true | _ => false)
def exOf : Ex → Exit
 | .normal => .normal
 | .exit id => .exit id
 | .ret => .ret
section
variable {P : Program} {X : Orc}
def Q1ku (P : Program) (m : Nat) (b : IR) (env : List PV) (h : List Ob) (x : Ex) (s' : St) : Prop :=
 ∃ n, ∀ (c : Code), Q3n P b c = true → ∀ (w0 : World) (D0 : Nat → Option Nat) (H0 : Nat → Option Ob) (F : Nat → Nat → Prop) (n0 : Nat) (a : Act) (w : World) (D : Nat → Option Nat) (Q : Exit → Act → World → Prop),
  At w0 D0 H0 F n0 m env.length (envF env) (hF h) a w D → (∀ id, h.length ≤ id → D id = none) → m ≤ h.length →
   (∀ a' w' D', At w0 D0 H0 F n0 m s'.env.length (envF s'.env) (look s'.heap) a' w' D' → (∀ id, s'.nx ≤ id → D' id = none ∧ look s'.heap id = none) → m ≤ s'.nx → Q (exOf x) a' w') → Code.rounds P c Q n a w
def Qth (P : Program) (X : Orc) : Prop := ∀ m live b env h x s', X (.loop m live b env h) = some (.st x s') → Q1ku P m b env h x s'
variable {w0 : World} {D0 : Nat → Option Nat} {H0 : Nat → Option Ob} {F : Nat → Nat → Prop} {n0 m : Nat}
theorem Q1go {ops : List IOper} {draw : Bool} {s s' : St} (h : ireg X ops draw s = some s') : s.nx ≤ s'.nx := by
 unfold ireg at h
 obtain ⟨y, hy, h⟩ := bind_some h
 cases hc : (!draw || calm (ops.zip y.2.2) 0 (ops.zip y.2.2)) with
 | false => rw [hc] at h; cases h
 | true =>
  rw [hc] at h
  simp only [cond_true, Option.some.injEq] at h
  subst h
  exact Nat.le_add_right _ _
theorem Q6e (hm : P.follows .mixedOrders = true) (hX : Q7a P X) (hL : Qth P X) : ∀ (ir : IR) (c : Code), Q3n P ir c = true → ∀ (s : St) (x : Ex) (s' : St), Q4c X m ir s = some (x, s') → ∀ (a : Act) (w : World) (D : Nat → Option Nat) (Q : Exit → Act → World → Prop),
    At w0 D0 H0 F n0 m s.env.length (envF s.env) (look s.heap) a w D → (∀ id, s.nx ≤ id → D id = none ∧ look s.heap id = none) → m ≤ s.nx →
      (∀ a' w' D', At w0 D0 H0 F n0 m s'.env.length (envF s'.env) (look s'.heap) a' w' D' → (∀ id, s'.nx ≤ id → D' id = none ∧ look s'.heap id = none) → m ≤ s'.nx → Q (exOf x) a' w') → Code.wp P c Q a w := by
  intro ir
  induction ir with
  | skip =>
    intro c hc s x s' h a w D Q A hf hn hQ
    simp only [Q4c, Option.some.injEq, Prod.mk.injEq] at h
    obtain ⟨rfl, rfl⟩ := h
    cases c <;> first | (cases hc; done) | skip
    · exact wp_skip (hQ a w D A hf hn)
    · exact wp_label (hQ a w D A hf hn)
  | reg ios draw =>
    intro c hc s x s' h a w D Q A hf hn hQ
    simp only [Q4c] at h
    obtain ⟨s1, hs, h⟩ := bind_some h
    simp only [Option.some.injEq, Prod.mk.injEq] at h
    obtain ⟨rfl, rfl⟩ := h
    cases c <;> first | (cases hc; done) | skip
    rename_i id ops d
    simp only [Q3n, Bool.and_eq_true] at hc
    have hd : d = draw := by simpa using hc.1
    subst hd
    exact Qxj hm hX hc.2 hs A hf hn (fun a' w' D' A' hf' => hQ a' w' D' A' hf' (Nat.le_trans hn (Q1go hs)))
  | seq p q ihp ihq =>
    intro c hc s x s' h a w D Q A hf hn hQ
    simp only [Q4c] at h
    obtain ⟨⟨x1, s1⟩, h1, h⟩ := bind_some h
    cases c <;> first | (cases hc; done) | skip
    rename_i cx cy
    simp only [Q3n, Bool.and_eq_true] at hc
    refine wp_seq (ihp cx hc.1 s x1 s1 h1 a w D _ A hf hn fun a' w' D' A' hf' hn' => ?_)
    cases x1 with
    | normal => exact ihq cy hc.2 s1 x s' h a' w' D' Q A' hf' hn' hQ
    | exit j =>
      simp only [Option.some.injEq, Prod.mk.injEq] at h
      obtain ⟨rfl, rfl⟩ := h
      exact hQ a' w' D' A' hf' hn'
    | ret =>
      simp only [Option.some.injEq, Prod.mk.injEq] at h
      obtain ⟨rfl, rfl⟩ := h
      exact hQ a' w' D' A' hf' hn'
  | cond q p r ihp ihr =>
    intro c hc s x s' h a w D Q A hf hn hQ
    cases c <;> first | (cases hc; done) | skip
    rename_i cq cx cy
    simp only [Q3n, Bool.and_eq_true] at hc
    have hq := Q17 A.env hc.1.1
    simp only [Q4c] at h
    split at h
    · rename_i t ht
      rw [ht] at hq
      have he : a.eval cq = .bool t := by
        generalize a.eval cq = u at hq
        cases hq with
        | bool _ _ => rfl
      refine wp_cond he ?_
      cases t with
      | true => exact ihp cx hc.1.2 s x s' h a w D Q A hf hn hQ
      | false => exact ihr cy hc.2 s x s' h a w D Q A hf hn hQ
    · cases h
  | block id p ih =>
    intro c hc s x s' h a w D Q A hf hn hQ
    simp only [Q4c] at h
    obtain ⟨⟨x1, s1⟩, h1, h⟩ := bind_some h
    cases c <;> first | (cases hc; done) | skip
    rename_i id' cx
    simp only [Q3n, Bool.and_eq_true] at hc
    have hid := Nat.eq_of_beq_eq_true hc.1
    subst hid
    refine wp_block (ih cx hc.2 s x1 s1 h1 a w D _ A hf hn fun a' w' D' A' hf' hn' => ?_)
    cases x1 with
    | normal =>
      simp only [Option.some.injEq, Prod.mk.injEq] at h
      obtain ⟨rfl, rfl⟩ := h
      exact hQ a' w' D' A' hf' hn'
    | ret =>
      simp only [Option.some.injEq, Prod.mk.injEq] at h
      obtain ⟨rfl, rfl⟩ := h
      exact hQ a' w' D' A' hf' hn'
    | exit j =>
      simp only at h
      by_cases e : j = id
      · subst e
        simp only [Nat.beq_refl, cond_true, Option.some.injEq, Prod.mk.injEq] at h
        obtain ⟨rfl, rfl⟩ := h
        show Exit.inBlock j Q (.exit j) a' w'
        simp only [Exit.inBlock, if_true]
        exact hQ a' w' D' A' hf' hn'
      · have : Nat.beq j id = false := by rw [Bool.eq_false_iff]; exact fun h => e (Nat.eq_of_beq_eq_true h)
        simp only [this, cond_false, Option.some.injEq, Prod.mk.injEq] at h
        obtain ⟨rfl, rfl⟩ := h
        show Exit.inBlock id Q (.exit j) a' w'
        simp only [Exit.inBlock, if_neg e]
        exact hQ a' w' D' A' hf' hn'
  | loop live b ih =>
    intro c hc s x s' h a w D Q A hf hn hQ
    simp only [Q4c] at h
    obtain ⟨y, hy, h⟩ := bind_some h
    obtain ⟨r, hr, h⟩ := bind_some h
    cases r with
    | ret _ _ => cases h
    | st x1 s1 =>
      simp only [Option.some.injEq, Prod.mk.injEq] at h
      obtain ⟨rfl, rfl⟩ := h
      cases c <;> first | (cases hc; done) | skip
      rename_i cx
      simp only [Q3n] at hc
      obtain ⟨D', A', hf', hn'⟩ := Q12o A hf hy
      obtain ⟨n, hn1⟩ := hL _ _ _ _ _ _ _ hr
      exact wp_loop_rounds n (hn1 cx hc w0 D0 H0 F n0 a w D' Q A' (fun id h => (hf' id h).1) hn' hQ)
  | exit id =>
    intro c hc s x s' h a w D Q A hf hn hQ
    simp only [Q4c, Option.some.injEq, Prod.mk.injEq] at h
    obtain ⟨rfl, rfl⟩ := h
    cases c <;> first | (cases hc; done) | skip
    rename_i id'
    simp only [Q3n] at hc
    have hid := Nat.eq_of_beq_eq_true hc
    subst hid
    exact wp_exit (hQ a w D A hf hn)
  | ret =>
    intro c hc s x s' h a w D Q A hf hn hQ
    simp only [Q4c, Option.some.injEq, Prod.mk.injEq] at h
    obtain ⟨rfl, rfl⟩ := h
    cases c <;> first | (cases hc; done) | skip
    exact wp_ret (hQ a w D A hf hn)
def Q1j (P : Program) (Fn : Func) (fn : IFn) : Bool :=
 Nat.beq Fn.ntmps fn.nt && Nat.ble fn.np fn.nt && Qb8 P Fn.results.toList fn.res && (match Fn.body with | some c => Q3n P fn.body c | none => false) && !(Fn.name == "runtime.NumGoroutine")
def Q1dw (P : Program) (f : Nat) : Prop := Q86 P f ∧ ∀ (x y : ByteArray) (w : World), Calls P f #[.string x, .string y] w fun e w' => e = .returned (.int .i64 (cmpL x.toList y.toList)) ∧ w' = w
def AxOK (P : Program) (f : Nat) (φ : List PV → Option (PV × List Ob)) : Prop := ∀ args r h', φ args = some (r, h') → Q86 P f ∧ Q113 P f args [] r h'
def Tie (P : Program) (G : Nat → Option Fun) : Prop := ∀ f d, G f = some d → match d with
 | .ir fn => ∃ Fn, P.funcs[f]? = some Fn ∧ Q1j P Fn fn = true
 | .cmpstr => Q1dw P f
 | .ax φ => AxOK P f φ
theorem Q17e {Fn : Func} {fn : IFn} (h : Q1j P Fn fn = true) : Fn.ntmps = fn.nt ∧ fn.np ≤ fn.nt ∧ Qb8 P Fn.results.toList fn.res = true ∧ (∃ c, Fn.body = some c ∧ Q3n P fn.body c = true) ∧ (Fn.name == "runtime.NumGoroutine") = false := by
  unfold Q1j at h
  simp only [Bool.and_eq_true] at h
  obtain ⟨⟨⟨⟨h1, h2⟩, h3⟩, h4⟩, h5⟩ := h
  refine ⟨Nat.eq_of_beq_eq_true h1, Nat.le_of_ble_eq_true h2, h3, ?_, by simpa using h5⟩
  split at h4
  · rename_i c hc; exact ⟨c, hc, h4⟩
  · cases h4
theorem Q8p : ∀ (n t : Nat), (nuns n).length = n ∧ envF (nuns n) t = .un
 | 0, t => ⟨rfl, rfl⟩
 | n + 1, t => by
  obtain ⟨h1, h2⟩ := Q8p n (t - 1)
  refine ⟨by simp [nuns, h1], ?_⟩
  cases t with
  | zero => rfl
  | succ t => simpa [nuns, envF] using h2
theorem Q125 (hm : P.follows .mixedOrders = true) (hX : Q7a P X) (hL : Qth P X) {f : Nat} {Fn : Func} {fn : IFn} (hf : P.funcs[f]? = some Fn) (hc : Q1j P Fn fn = true) {args : List PV} {h : List Ob} (hal : args.length = fn.np) {x : Ex} {s : St}
    (hrun : Q4c X h.length fn.body ⟨args ++ nuns (fn.nt - fn.np), number 0 h, h.length⟩ = some (x, s)) (hx : ∀ j, x ≠ .exit j) {r : PV} {h' : List Ob} (hfin : fin fn h.length s = some (.ret r h')) : Q86 P f ∧ Q113 P f args h r h' := by
  obtain ⟨c1, c2, c3, ⟨c, hb, c4⟩, c5⟩ := Q17e hc
  refine ⟨⟨Fn, hf, by rw [hb]; rfl, c5⟩, fun w D F vals S hD hv => ?_⟩
  have hvs : vals.size = fn.np := by have := hv.1; rw [hal] at this; simpa using this
  have hfr : ∀ id, h.length ≤ id → D id = none ∧ look (number 0 h) id = none := fun id hid => ⟨hD id hid, by rw [Q6v]; exact List.getElem?_eq_none hid⟩
  have A : At w D (hF h) F w.heap.size h.length (args ++ nuns (fn.nt - fn.np)).length (envF (args ++ nuns (fn.nt - fn.np))) (look (number 0 h)) { tmps := vals ++ Array.replicate (Fn.ntmps - vals.size) undef, defers := [] } w D := by
    rw [Q6v]
    refine ⟨S, fun t => ?_, by simp [(Q8p _ 0).1, hal, hvs, c1], fun t ht => ?_, Keeps.refl _ w, fun _ _ => rfl, fun _ _ _ h => h, rfl⟩
    · by_cases c : t < args.length
      · have e1 : envF (args ++ nuns (fn.nt - fn.np)) t = args[t] := by simp [envF, List.getElem?_append_left c, c]
        have hlt : t < vals.size := by omega
        have e2 : (vals ++ Array.replicate (Fn.ntmps - vals.size) undef).getD t undef = vals[t] := by
          rw [Array.getD_eq_getD_getElem?, Array.getElem?_append_left hlt, Array.getElem?_eq_getElem hlt]
          rfl
        rw [e1]
        show Rep _ _ _ ((vals ++ Array.replicate (Fn.ntmps - vals.size) undef).getD t undef) _
        rw [e2]
        exact hv.2 t _ _ (by simp [hlt]) (List.getElem?_eq_getElem c)
      · have e1 : envF (args ++ nuns (fn.nt - fn.np)) t = .un := by
          have := (Q8p (fn.nt - fn.np) (t - args.length)).2
          unfold envF at this ⊢
          rw [List.getD_eq_getElem?_getD, List.getElem?_append_right (Nat.le_of_not_lt c), ← List.getD_eq_getElem?_getD]
          exact this
        rw [e1]
        exact .un _ _
    · show envF _ t = .un
      unfold envF
      rw [List.getD_eq_getElem?_getD, List.getElem?_eq_none ht]
      rfl
  refine calls_of_wp hf hb (Q6e hm hX hL fn.body c c4 _ x s hrun _ w D _ A hfr (Nat.le_refl _) fun a' w' D' A' hf' hn' => ?_)
  obtain ⟨v, p, h1, D1, e1, e2, e3, e4, e5, e6, e7, e8⟩ := Qj9 A' hf' c3 hfin
  injection e1 with e1 e1'
  subst e1 e1'
  have fin_ : a'.defers = [] ∧ ∃ v, (results Fn a'.tmps).run P w' = .ok v w' ∧ (∃ v_1 D', Ending.returned v = .returned v_1 ∧ Sim w' D' (hF h') F w.heap.size h.length ∧ Keeps (MutO D (hF h)) w w' ∧ (∀ id, id < h.length → D' id = D id) ∧ (∀ id, h'.length ≤ id → D' id = none) ∧
      (∀ b o, b < w.heap.size → Mut D' (hF h') F b o → Mut D (hF h) F b o) ∧ h.length ≤ h'.length ∧ Rep w' (Mut D' (hF h') F) D' v_1 r) :=
    ⟨A'.defers, v, e2, v, D1, rfl, e3, A'.keeps, fun id hid => by rw [e4 id hid, A'.low id hid], e5, fun b o hb hmu => A'.sub b o hb (e6 b o hmu), e7, e8⟩
  cases x with
  | normal => exact fin_
  | ret => exact fin_
  | exit j => exact absurd rfl (hx j)
theorem Qnq (hm : P.follows .mixedOrders = true) {G : Nat → Option Fun} (hT : Tie P G) : ∀ n, Q7a P (runs G n) ∧ Qth P (runs G n)
  | 0 => ⟨fun f args h r h' hr => (by cases hr), fun m live b env h x s' hr => (by cases hr)⟩
  | n + 1 => by
    obtain ⟨hX, hL⟩ := Qnq hm hT n
    constructor
    · intro f args h r h' hr
      simp only [runs, phi] at hr
      split at hr
      · rename_i fn hG
        obtain ⟨Fn, hf, hc⟩ := hT f _ hG
        obtain ⟨hal, hr⟩ := Q19 hr
        have hal := Nat.eq_of_beq_eq_true hal
        obtain ⟨⟨x, s⟩, hrun, hr⟩ := bind_some hr
        cases x with
        | exit j => cases hr
        | normal => exact Q125 hm hX hL hf hc hal hrun (fun j h => by cases h) hr
        | ret => exact Q125 hm hX hL hf hc hal hrun (fun j h => by cases h) hr
      · rename_i hG
        obtain ⟨hcl, hcmp⟩ := hT f _ hG
        split at hr
        · rename_i x y
          injection hr with hr
          injection hr with h1 h2
          subst h1 h2
          refine ⟨hcl, fun w D F vals S hD hv => ?_⟩
          have h2 : vals.size = 2 := by have := hv.1; simpa using this
          obtain ⟨u0, u1, rfl⟩ : ∃ u0 u1, vals = #[u0, u1] := ⟨vals[0], vals[1], by
            apply Array.ext (by simpa using h2)
            intro i h1 h3
            match i, h3 with
            | 0, _ => rfl
            | 1, _ => rfl⟩
          have r0 := hv.2 0 u0 _ rfl rfl
          have r1 := hv.2 1 u1 _ rfl rfl
          cases r0 with
          | str _ _ =>
            cases r1 with
            | str _ _ =>
              refine (hcmp x y w).mono ?_
              rintro e w' ⟨rfl, rfl⟩
              exact ⟨_, D, rfl, S, Keeps.refl _ _, fun _ _ => rfl, hD, fun _ _ _ h => h, Nat.le_refl _, .int _ _ _⟩
        · cases hr
      · rename_i φ hG
        cases h with
        | cons _ _ => cases hr
        | nil =>
          obtain ⟨⟨v, ob⟩, hv, hr⟩ := bind_some hr
          injection hr with hr
          injection hr with h1 h2
          subst h1 h2
          exact hT f _ hG args v ob hv
      · cases hr
    · intro m live b env h x s' hr
      simp only [runs, phi] at hr
      obtain ⟨⟨x1, s1⟩, hrun, hr⟩ := bind_some hr
      have hl0 : look (number 0 h) = hF h := Q6v h
      have go : ∀ (Q' : Act → World → Prop) (c : Code), Q3n P b c = true → ∀ (w0 : World) (D0 : Nat → Option Nat) (H0 : Nat → Option Ob) (F : Nat → Nat → Prop) (n0 : Nat) (a : Act) (w : World) (D : Nat → Option Nat) (Q : Exit → Act → World → Prop),
          At w0 D0 H0 F n0 m env.length (envF env) (hF h) a w D → (∀ id, h.length ≤ id → D id = none) → m ≤ h.length →
          (∀ a' w' D', At w0 D0 H0 F n0 m s1.env.length (envF s1.env) (look s1.heap) a' w' D' → (∀ id, s1.nx ≤ id → D' id = none ∧ look s1.heap id = none) → m ≤ s1.nx → Exit.then Q' Q (exOf x1) a' w') → c.wp P (Exit.then Q' Q) a w := by
        intro Q' c hc w0 D0 H0 F n0 a w D Q A hf hn hQ
        refine Q6e hm hX hL b c hc _ x1 s1 hrun a w D _ (by rw [hl0]; exact A) (fun id hid => ⟨hf id hid, by rw [hl0]; exact List.getElem?_eq_none hid⟩) hn hQ
      cases x1 with
      | normal =>
        simp only at hr
        obtain ⟨y, hy, hr⟩ := bind_some hr
        obtain ⟨k, hk⟩ := hL _ _ _ _ _ _ _ hr
        refine ⟨k + 1, fun c hc w0 D0 H0 F n0 a w D Q A hf hn hQ => ?_⟩
        rw [rounds_succ]
        refine go _ c hc w0 D0 H0 F n0 a w D Q A hf hn fun a' w' D' A' hf' hn' => ?_
        obtain ⟨D2, A2, hf2, hn2⟩ := Q12o A' hf' hy
        exact hk c hc w0 D0 H0 F n0 a' w' D2 Q A2 (fun id h => (hf2 id h).1) hn2 hQ
      | exit j =>
        injection hr with hr
        injection hr with h1 h2
        subst h1 h2
        refine ⟨1, fun c hc w0 D0 H0 F n0 a w D Q A hf hn hQ => ?_⟩
        rw [rounds_succ]
        exact go _ c hc w0 D0 H0 F n0 a w D Q A hf hn fun a' w' D' A' hf' hn' => hQ a' w' D' A' hf' hn'
      | ret =>
        injection hr with hr
        injection hr with h1 h2
        subst h1 h2
        refine ⟨1, fun c hc w0 D0 H0 F n0 a w D Q A hf hn hQ => ?_⟩
        rw [rounds_succ]
        exact go _ c hc w0 D0 H0 F n0 a w D Q A hf hn fun a' w' D' A' hf' hn' => hQ a' w' D' A' hf' hn'
end
end Go.Pv
end

section
/-
  What a law is handed: readings of its arguments as trees.
-/
namespace Go.Pv
open Go.RowKit
inductive Ty where
  | bool
  | int (k : IntKind)
  | str
  | sl (bytes : Nat) (e : Ty)
  | st (fs : List Ty)
  | nm (t : Nat)
mutual
/-- Cells that lie as a type says. -/
inductive Of (Γ : Nat → Option Ty) : Ty → List PV → Prop
 | bool (b : Bool) : Of Γ .bool [.bool b]
 | int (k : IntKind) (n : Int) (h : (Lit.int k n).wf = true) : Of Γ (.int k) [.int k n]
 | str (s : ByteArray) (h : s.size ≤ 140737488351232) : Of Γ .str [.str s]
 | sl (bytes : Nat) (e : Ty) (l : List (List PV)) (h : l.length * bytes ≤ 140737488351232) (hl : ∀ r ∈ l, Of Γ e r) : Of Γ (.sl bytes e) [.sl l]
 | st (fs : List Ty) (c : List PV) (h : OfL Γ fs c) : Of Γ (.st fs) c
 | nm (t : Nat) (ty : Ty) (c : List PV) (hg : Γ t = some ty) (h : Of Γ ty c) : Of Γ (.nm t) c
inductive OfL (Γ : Nat → Option Ty) : List Ty → List PV → Prop
 | nil : OfL Γ [] []
 | cons (f : Ty) (fs : List Ty) (a b : List PV) (h : Of Γ f a) (hr : OfL Γ fs b) : OfL Γ (f :: fs) (a ++ b)
end

mutual
def Qag (P : Program) (Γ : Nat → Option Ty) : Ty → TypeId → Bool
 | .bool, t => Qfn P t
 | .int k, t => intTy P t k
 | .str, t => Qdw P t
 | .sl bytes e, t => (match P.underlying t with | some (.slice te) => Nat.beq (P.bytesOf te) bytes && Nat.ble 1 (P.cellsOf te) && Qag P Γ e te | _ => false)
 | .st fs, t => (match P.underlying t with | some (.struct gs) => Qwb P Γ fs gs.toList 0 (P.cellsOf t) | _ => false)
 | .nm t', t => Nat.beq t' t && (Γ t').isSome
def Qwb (P : Program) (Γ : Nat → Option Ty) : List Ty → List Field → Nat → Nat → Bool
 | [], [], off, n => Nat.beq off n
 | f :: fs, g :: gs, off, n => Nat.beq g.offset off && Qag P Γ f g.type && Qwb P Γ fs gs (off + P.cellsOf g.type) n
 | _, _, _, _ => false
end
def Ty.named : Ty → Bool
 | .nm _ => true
 | _ => false
def TabOK (P : Program) (Γ : Nat → Option Ty) : Prop := ∀ t ty, Γ t = some ty → ty.named = false ∧ Qag P Γ ty t = true
theorem Qlu {α : Type} {Q : Nat → α → Prop} : ∀ n : Nat, (∀ i, i < n → ∃ x, Q i x) → ∃ l : List α, l.length = n ∧ ∀ i x, l[i]? = some x → Q i x
  | 0, _ => ⟨[], rfl, fun i x h => by simp at h⟩
  | n + 1, h => by
    obtain ⟨l, hl, hq⟩ := Qlu n (fun i hi => h i (by omega))
    obtain ⟨x, hx⟩ := h n (by omega)
    refine ⟨l ++ [x], by simp [hl], fun i y hy => ?_⟩
    by_cases c : i < l.length
    · rw [List.getElem?_append_left c] at hy
      exact hq i y hy
    · rw [List.getElem?_append_right (by omega)] at hy
      have hi : i - l.length = 0 := by
        have := (List.getElem?_eq_some_iff.1 hy).1
        simp at this
        omega
      rw [hi] at hy
      simp at hy
      subst hy
      rw [show i = n by omega]
      exact hx
def NoM : Nat → Nat → Prop := fun _ _ => False
def NoD : Nat → Option Nat := fun _ => none
def Light {H : Type} (P : Program) (t : TypeId) (d : DataW H) : Prop := (d.weights P t).all (· ≤ reachBytes) = true
section
variable {H : Type} {enc : TypeId × Value → H} {P : Program} {w : World} {base : Nat} {sp : Nat → Bool} {held : Bool} {Γ : Nat → Option Ty}
theorem Q14j {ts : List TypeId} {ds : List (DataW H)} (h : (DataW.weightsEach P ts ds).all (· ≤ reachBytes) = true) : ∀ (i : Nat) t d, ts[i]? = some t → ds[i]? = some d → Light P t d := by
  induction ts generalizing ds with
  | nil => intro i t d ht; simp at ht
  | cons t0 ts ih =>
    cases ds with
    | nil => intro i t d _ hd; simp at hd
    | cons d0 ds =>
      simp only [DataW.weightsEach, List.all_append, Bool.and_eq_true] at h
      intro i t d ht hd
      cases i with
      | zero =>
        simp at ht hd
        subst ht hd
        exact h.1
      | succ i => exact ih h.2 i t d (by simpa using ht) (by simpa using hd)
theorem Q1a4 {e : TypeId} {ds : List (DataW H)} (h : (DataW.weightsAll P e ds).all (· ≤ reachBytes) = true) : ∀ d ∈ ds, Light P e d := by
  induction ds with
  | nil => intro d hd; cases hd
  | cons d0 ds ih =>
    simp only [DataW.weightsAll, List.all_append, Bool.and_eq_true] at h
    intro d hd
    rcases List.mem_cons.1 hd with rfl | hd
    · exact h.1
    · exact ih h.2 d hd
theorem RepN.app {M : Nat → Nat → Prop} {D : Nat → Option Nat} {xs ys : List Value} {a b : List PV} (h : RepN w M D xs a) (h' : RepN w M D ys b) : RepN w M D (xs ++ ys) (a ++ b) := by
  refine ⟨by simp [h.1, h'.1], fun i v p hv hp => ?_⟩
  by_cases c : i < xs.length
  · rw [List.getElem?_append_left c] at hv
    rw [List.getElem?_append_left (by rw [← h.1]; exact c)] at hp
    exact h.2 i v p hv hp
  · rw [List.getElem?_append_right (by omega)] at hv
    rw [List.getElem?_append_right (by rw [← h.1]; omega), ← h.1] at hp
    exact h'.2 _ v p hv hp
theorem RepN.one {M : Nat → Nat → Prop} {D : Nat → Option Nat} {v : Value} {p : PV} (h1 : v.oneCell' = true) (h : Rep w M D v p) : RepN w M D [v] [p] := by
 refine ⟨rfl, fun i u q hu hq => ?_⟩
 cases i with
 | zero =>
  simp at hu hq
  subst hu hq
  exact ⟨h1, h⟩
 | succ i => simp at hu
def Ty.isSt (Γ : Nat → Option Ty) : Ty → Bool
 | .st _ => true
 | .nm t => (match Γ t with | some (.st _) => true | _ => false)
 | _ => false
def Arg (Γ : Nat → Option Ty) (ty : Ty) (p : PV) : Prop := ∃ c, Of Γ ty c ∧ (bif ty.isSt Γ then p = .agg c else c = [p])
def chkArgs (P : Program) (Γ : Nat → Option Ty) : List Ty → List TypeId → Bool
 | [], [] => true
 | ty :: tys, t :: ts => Qag P Γ ty t && (match P.underlying t with | some (.struct _) => ty.isSt Γ | some (.array _ _) => false | _ => !(ty.isSt Γ)) && P.readableRec t && decide (t < P.types.size) && chkArgs P Γ tys ts
 | _, _ => false
theorem args_stay (hl : laidOutB P = true) {W W' : World} (hb : Below W.heap.size W W') : ∀ {tys : List Ty} {ts : List TypeId} {vs : List Value} {ds : List (DataW H)} {ps : List MemPlace}, chkArgs P Γ tys ts = true → DataW.TrodAll enc P W 0 (fun _ => true) true ts vs ds ps →
  DataW.TrodAll enc P W' 0 (fun b => decide (b < W.heap.size)) true ts vs ds ps
 | [], [], vs, ds, ps, _, h => by
  obtain ⟨rfl, rfl, rfl⟩ := ChangeShapes.trodAll_nil h
  rfl
 | [], _ :: _, _, _, _, hc, _ => by cases hc
 | _ :: _, [], _, _, _, hc, _ => by cases hc
 | ty :: tys, t :: ts, vs, ds, ps, hc, h => by
  simp only [chkArgs, Bool.and_eq_true] at hc
  obtain ⟨v, vs', d, ds', p, q, rfl, rfl, rfl, h1, h2⟩ := ChangeShapes.trodAll_cons h
  refine ⟨p, q, Below.trod hl hc.1.1.2 (by simpa using hc.1.2) h1 hb ?_, args_stay hl hb hc.2 h2, rfl⟩
  obtain ⟨m, hm⟩ := h1
  exact DataW.trod_lt m _ _ _ hm
end
theorem Q1fx {P : Program} : Tie P (tabG []) := fun _ _ h => by cases h
theorem Q8s {P : Program} {r : List (Nat × Fun)} (ht : Tie P (tabG r)) {f : Nat} {d : Fun} (hd : match d with | .ir fn => ∃ Fn, P.funcs[f]? = some Fn ∧ Q1j P Fn fn = true | .cmpstr => Q1dw P f | .ax φ => AxOK P f φ) : Tie P (tabG ((f, d) :: r)) := by
  intro k d' h
  simp only [tabG] at h
  by_cases c : f = k
  · subst c
    simp only [Nat.beq_refl, cond_true, Option.some.injEq] at h
    subst h
    exact hd
  · have : Nat.beq f k = false := by rw [Bool.eq_false_iff]; exact fun h => c (Nat.eq_of_beq_eq_true h)
    rw [this] at h
    exact ht k d' h
theorem Qx {P : Program} {r : List (Nat × Fun)} {f : Nat} {Fn : Func} {fn : IFn} (hf : P.funcs[f]? = some Fn) (hc : Q1j P Fn fn = true) (ht : Tie P (tabG r)) : Tie P (tabG ((f, .ir fn) :: r)) := Q8s ht ⟨Fn, hf, hc⟩
end Go.Pv
end

section
/- What slices.Clone answers: a row of one's own. -/
namespace Go.Pv
def bare : PV → Bool
 | .bool _ => true
 | .int _ _ => true
 | .str _ => true
 | .sl _ => true
 | .np => true
 | .nf => true
 | _ => false
def Qj5 (sz bytes : Nat) : List PV → Option (PV × List Ob)
 | [.sl l] => bif Q5y l sz && Nat.ble (l.length * bytes) 140737488355328 && l.flatten.all bare then some (.ms 0 sz 0 l.length, [⟨sz, 0, true, l.flatten⟩]) else none
 | _ => none
def Qln (sz bytes : Nat) : List PV → Option (PV × List Ob)
 | [.sl l] => bif Q5y l sz && Nat.ble (l.length * bytes) 140737488355328 && l.flatten.all bare then some (.sl l, []) else none
 | _ => none
end Go.Pv
end

section
/- slices.Clone's contract, proved of every program that holds its text. -/
namespace Go.Pv
open Go.RowKit
def irA (sz : Nat) : IR := .reg [⟨some 2, none, .mov (.c (.ns sz)), []⟩] false
def irB (sz : Nat) : IR := .cond (.t 4) (.seq (.reg [⟨some 2, none, .mov (.c (.ns sz)), []⟩] false) .ret) .skip
def irC (sz bytes : Nat) (z : List PV) : IR := .seq (.reg [⟨some 5, none, .lit sz 0 z [], []⟩, ⟨some 6, none, .mov (.t 0), []⟩, ⟨some 7, none, .append sz bytes (.t 5) (.t 6), []⟩, ⟨some 2, none, .mov (.t 7), []⟩] false) .ret
def Q1bi (P : Program) (ops : Array Oper) : Bool :=
 match ops.toList with
 | [x, y] => Q97 P ops x ⟨some 3, none, .mov (.t 0), []⟩ && Qrq y.dst (some 4) && Qfj ops y.guard none &&
  (match y.op with | .binOp .eql T (.tmp 3) (.const (.slice none 0 0)) _ => (match P.underlying T with | some (.slice _) => true | _ => false) | _ => false)
 | _ => false
def Q5w (P : Program) (Fn : Func) (sz bytes : Nat) (z : List PV) : Bool :=
 Nat.beq Fn.ntmps 8 && Qb8 P Fn.results.toList [.tmp 2] && !(Fn.name == "runtime.NumGoroutine") &&
 (match Fn.body with
  | some (.seq c0 (.seq (.seq (.region _ ops false) c2) c3)) => Q3n P (irA sz) c0 && Q1bi P ops && Q3n P (irB sz) c2 && Q3n P (irC sz bytes z) c3
  | _ => false)
def X0 : Orc := fun _ => none
theorem Qyk (P : Program) : Q7a P X0 := fun _ _ _ _ _ h => by cases h
theorem Q12a (P : Program) : Qth P X0 := fun _ _ _ _ _ _ _ h => by cases h
section
variable {P : Program} {w0 : World} {D0 : Nat → Option Nat} {H0 : Nat → Option Ob} {F : Nat → Nat → Prop} {n0 m : Nat}
theorem Q1b9 {id : Nat} {ops : Array Oper} (hc : Q1bi P ops = true) {e : Nat → PV} {H : Nat → Option Ob} {a : Act} {w : World} {D : Nat → Option Nat} {L nx : Nat} (hL : 4 < L) {l : List (List PV)} (he : e 0 = .sl l)
    (A : At w0 D0 H0 F n0 m L e H a w D) (hf : ∀ id, nx ≤ id → D id = none ∧ H id = none) (hmn : m ≤ nx) {Q : Exit → Act → World → Prop}
    (hQ : ∀ (b : Bool) (a' : Act) (w' : World) (D' : Nat → Option Nat), (b = true → l = []) → At w0 D0 H0 F n0 m L (fun t => if t = 4 then .bool b else if t = 3 then .sl l else e t) H a' w' D' → (∀ id, nx + 128 ≤ id → D' id = none ∧ H id = none) → Q .normal a' w') :
    (Code.region id ops false).wp P Q a w := by
  unfold Q1bi at hc
  split at hc
  · rename_i x y hxy
    rw [Bool.and_eq_true, Bool.and_eq_true, Bool.and_eq_true] at hc
    obtain ⟨⟨⟨hx, hyd⟩, hyg⟩, hyo⟩ := hc
    have hyd := Qca hyd
    have hsz : ops.size = 2 := by rw [← Array.length_toList, hxy]; rfl
    have h0 : ops[0]? = some x := by rw [← Array.getElem?_toList, hxy]; rfl
    have h1 : ops[1]? = some y := by rw [← Array.getElem?_toList, hxy]; rfl
    refine wp_region ?_
    rw [hsz, show List.range 2 = [0, 1] from rfl, wpOps_cons]
    refine Qdk (X := X0) (Qyk P) A (fr := nx) hmn (fun id h1 _ => hf id h1) h0 hx (f := ⟨.sl l, [], []⟩) (by simp only [Q77, IOper.wanted, Option.bind_some, cond_true, iop, opP, Opd.ev, he])
      (e' := fun t => if t = 3 then .sl l else e t) (H' := H) (fun t => ?_) rfl (fun a1 w1 D1 A1 hf1 => ?_)
    · show _ = if some 3 = some t ∧ t < L then PV.sl l else e t
      by_cases c : t = 3
      · subst c
        simp
        omega
      · rw [if_neg c, if_neg (fun h => c (Option.some.inj h.1).symm)]
    · rw [wpOps_cons]
      have hw := Qe6 A1.env (o := y) (io := ⟨some 4, none, .mov (.t 0), []⟩) hyg (b := true) rfl
      unfold wpOp
      simp only [h1]
      rw [hw, if_pos rfl]
      refine .inl ?_
      split at hyo
      · rename_i T yt hop
        split at hyo
        · rename_i te hT
          have hr : Rep w1 (Mut D1 H F) D1 (a1.tmps.getD 3 undef) (.sl l) := by
            have := A1.env 3
            simpa using this
          generalize hu : a1.tmps.getD 3 undef = u at hr
          cases hr with
          | sl _ B n c sz' _ b o vs hn hcc hm hrs hA hcell hrep =>
            have hev : a1.eval (.tmp 3) = .slice B n c := hu
            have hev2 : a1.eval (.const (.slice none 0 0)) = .slice none 0 0 := rfl
            have hrun : (execOp a1.eval y).run P w1 = .ok (.value (.bool B.isNone)) w1 := by
              have hb := Lib.run_eql_slice_nil (P := P) w1 T te B n c 0 0 hT
              obtain ⟨yd, yop, yty, ypos, yaf, yg⟩ := y
              simp only at hop
              subst hop
              simp [execOp, eqGuard, hev, hev2, hb]
            unfold Oper.wp
            rw [hrun]
            refine hQ B.isNone _ w1 D1 (fun hb => ?_) (A1.step (fr := m) (Step.same A1.sim rfl rfl rfl rfl) (Nat.le_refl _) (p := .bool B.isNone) (.bool _ _) (fun t => ?_)) (fun id hid => ?_)
            · cases B with
              | some _ => cases hb
              | none =>
                cases l with
                | nil => rfl
                | cons r rs =>
                  exfalso
                  have := hA (by rw [← hn]; simp)
                  cases this
            · rw [hyd]
              by_cases c : t = 4
              · subst c
                rw [if_pos rfl, if_pos ⟨rfl, hL⟩]
              · rw [if_neg c, if_neg (show ¬ (some 4 = some t ∧ t < L) from fun h => c (Option.some.inj h.1).symm)]
            · exact ⟨hf1 id (hf id (by omega)).1 (by omega), (hf id (by omega)).2⟩
        · cases hyo
      · cases hyo
  · cases hc
end
abbrev cfn (keep : Bool) : IFn := ⟨1, 8, [.tmp 2], keep, .skip⟩
theorem Qus {P : Program} (hm : P.follows .mixedOrders = true) {f : Nat} {Fn : Func} (hf : P.funcs[f]? = some Fn) {sz bytes : Nat} {z : List PV} (hc : Q5w P Fn sz bytes z = true) {l : List (List PV)} (hrs : Q5y l sz = true) (hby : Nat.ble (l.length * bytes) 140737488355328 = true) (keep : Bool) {r : PV} {h' : List Ob}
    (f1 : l = [] → fin (cfn keep) 0 ⟨[.sl [], .un, .ns sz, .sl [], .bool true, .un, .un, .un], [], 256⟩ = some (.ret r h'))
    (f2 : fin (cfn keep) 0 ⟨[.sl l, .un, .ms (192 + 128) sz 0 (0 + l.length), .sl l, .bool false, .ms 192 sz 0 0, .sl l, .ms (192 + 128) sz 0 (0 + l.length)], [(192 + 128, ⟨sz, 0, true, [] ++ l.flatten⟩)], 448⟩ = some (.ret r h')) : Q86 P f ∧ Q113 P f [.sl l] [] r h' := by
  unfold Q5w at hc
  rw [Bool.and_eq_true, Bool.and_eq_true, Bool.and_eq_true] at hc
  obtain ⟨⟨⟨hnt, hres⟩, hname⟩, hbody⟩ := hc
  have hnt := Nat.eq_of_beq_eq_true hnt
  split at hbody
  · rename_i c0 id ops c2 c3 hB
    rw [Bool.and_eq_true, Bool.and_eq_true, Bool.and_eq_true] at hbody
    obtain ⟨⟨⟨k0, k1⟩, k2⟩, k3⟩ := hbody
    refine ⟨⟨Fn, hf, by rw [hB]; rfl, by simpa using hname⟩, fun w D F vals S hD hv => ?_⟩
    have hvs : vals.size = 1 := by have := hv.1; simpa using this
    have A : At w D (hF []) F w.heap.size 0 ([PV.sl l] ++ nuns 7).length (envF ([PV.sl l] ++ nuns 7)) (look (number 0 [])) { tmps := vals ++ Array.replicate (Fn.ntmps - vals.size) undef, defers := [] } w D := by
      rw [Q6v]
      refine ⟨S, fun t => ?_, by simp [(Q8p _ 0).1, hvs, hnt], fun t ht => ?_, Keeps.refl _ w, fun _ _ => rfl, fun _ _ _ h => h, rfl⟩
      · by_cases c : t < 1
        · have ht0 : t = 0 := by omega
          subst ht0
          have hlt : 0 < vals.size := by omega
          have e2 : (vals ++ Array.replicate (Fn.ntmps - vals.size) undef).getD 0 undef = vals[0] := by
            rw [Array.getD_eq_getD_getElem?, Array.getElem?_append_left hlt, Array.getElem?_eq_getElem hlt]
            rfl
          show Rep _ _ _ ((vals ++ Array.replicate (Fn.ntmps - vals.size) undef).getD 0 undef) _
          rw [e2]
          exact hv.2 0 _ _ (by simp [hlt]) rfl
        · have e1 : envF ([PV.sl l] ++ nuns 7) t = .un := by
            have := (Q8p 7 (t - 1)).2
            unfold envF at this ⊢
            rw [List.getD_eq_getElem?_getD, List.getElem?_append_right (by simp; omega), ← List.getD_eq_getElem?_getD]
            exact this
          rw [e1]
          exact .un _ _
      · show envF _ t = .un
        unfold envF
        rw [List.getD_eq_getElem?_getD, List.getElem?_eq_none ht]
        rfl
    have hfr : ∀ id, 0 ≤ id → D id = none ∧ look (number 0 ([] : List Ob)) id = none := fun id hid => ⟨hD id hid, rfl⟩
    refine calls_of_wp hf hB (wp_seq (Q6e hm (Qyk P) (Q12a P) (irA sz) c0 k0 ⟨[PV.sl l] ++ nuns 7, number 0 [], 0⟩ .normal ⟨[.sl l, .un, .ns sz, .un, .un, .un, .un, .un], [], 64⟩ rfl _ w D _ A hfr (Nat.le_refl _) fun a1 w1 D1 A1 hf1 hn1 => ?_))
    refine wp_seq (wp_seq (Q1b9 k1 (by simp) rfl A1 hf1 hn1 fun b a2 w2 D2 hbl A2 hf2 => ?_))
    have A2' : At w D (hF []) F w.heap.size 0 8 (envF [.sl l, .un, .ns sz, .sl l, .bool b, .un, .un, .un]) (look []) a2 w2 D2 := by
      have e : (fun t => if t = 4 then PV.bool b else if t = 3 then .sl l else envF [.sl l, .un, .ns sz, .un, .un, .un, .un, .un] t) = envF [.sl l, .un, .ns sz, .sl l, .bool b, .un, .un, .un] := by
        funext t
        match t with
        | 0 | 1 | 2 | 3 | 4 | 5 | 6 | 7 => rfl
        | t + 8 => simp [envF]
      rw [← e]
      exact A2
    cases b with
    | true =>
      have hl := hbl rfl
      have g1 := f1 hl
      subst hl
      refine Q6e hm (Qyk P) (Q12a P) (irB sz) c2 k2 ⟨[.sl [], .un, .ns sz, .sl [], .bool true, .un, .un, .un], [], 192⟩ .ret ⟨[.sl [], .un, .ns sz, .sl [], .bool true, .un, .un, .un], [], 256⟩ rfl _ w2 D2 _ A2' hf2 (Nat.zero_le _) fun a3 w3 D3 A3 hf3 hn3 => ?_
      obtain ⟨v, p, h1, D4, e1, e2, e3, e4, e5, e6, e7, e8⟩ := Qj9 (fn := cfn keep) A3 hf3 hres g1
      injection e1 with e1 e1'
      subst e1 e1'
      exact ⟨A3.defers, v, e2, v, D4, rfl, e3, A3.keeps, fun id hid => absurd hid (Nat.not_lt_zero _), e5, fun b o hb hmu => A3.sub b o hb (e6 b o hmu), e7, e8⟩
    | false =>
      refine Q6e hm (Qyk P) (Q12a P) (irB sz) c2 k2 ⟨[.sl l, .un, .ns sz, .sl l, .bool false, .un, .un, .un], [], 192⟩ .normal ⟨[.sl l, .un, .ns sz, .sl l, .bool false, .un, .un, .un], [], 192⟩ rfl _ w2 D2 _ A2' hf2 (Nat.zero_le _) fun a3 w3 D3 A3 hf3 hn3 => ?_
      refine Q6e hm (Qyk P) (Q12a P) (irC sz bytes z) c3 k3 ⟨[.sl l, .un, .ns sz, .sl l, .bool false, .un, .un, .un], [], 192⟩ .ret ⟨[.sl l, .un, .ms (192 + 128) sz 0 (0 + l.length), .sl l, .bool false, .ms 192 sz 0 0, .sl l, .ms (192 + 128) sz 0 (0 + l.length)], [(192 + 128, ⟨sz, 0, true, [] ++ l.flatten⟩)], 448⟩ ?_ _ w3 D3 _ A3 hf3 (Nat.zero_le _) fun a4 w4 D4 A4 hf4 hn4 => ?_
      · have h1 : Nat.ble ((0 + l.length) * bytes) 140737488355328 = true := by rw [Nat.zero_add]; exact hby
        unfold irC
        simp only [Q4c, ireg, Q5n, Q77, IOper.wanted, Option.bind_some, cond_true, iop, opA, Qdb, rep, Qc7, opP, Opd.ev, Q5v, apC, source, look, hput, hput.repl, hput.drop, put, envF, List.set, List.getD_cons_zero, List.getD_cons_succ, hrs, Nat.beq_refl, Nat.zero_mul, List.length_nil, Bool.and_true, Bool.and_self, h1, Bool.not_false, Bool.true_or, List.length_cons]
      · obtain ⟨v, p, h1, D5, e1, e2, e3, e4, e5, e6, e7, e8⟩ := Qj9 (fn := cfn keep) A4 hf4 hres f2
        injection e1 with e1 e1'
        subst e1 e1'
        exact ⟨A4.defers, v, e2, v, D5, rfl, e3, A4.keeps, fun id hid => absurd hid (Nat.not_lt_zero _), e5, fun b o hb hmu => A4.sub b o hb (e6 b o hmu), e7, e8⟩
  · cases hbody
theorem Qon {sz bytes : Nat} {l : List (List PV)} (hb : (Q5y l sz && Nat.ble (l.length * bytes) 140737488355328 && l.flatten.all bare) = true) : Q5y l sz = true ∧ Nat.ble (l.length * bytes) 140737488355328 = true ∧ ∀ p ∈ l.flatten, plain p = true := by
 rw [Bool.and_eq_true, Bool.and_eq_true] at hb
 exact ⟨hb.1.1, hb.1.2, fun p hp => by
  have := List.all_eq_true.1 hb.2 p hp
  cases p <;> first | rfl | (cases this)⟩
theorem Qrt {P : Program} (hm : P.follows .mixedOrders = true) {f : Nat} {Fn : Func} (hf : P.funcs[f]? = some Fn) {sz bytes : Nat} {z : List PV} (hc : Q5w P Fn sz bytes z = true) : AxOK P f (Qj5 sz bytes) := by
  intro args r h' hφ
  unfold Qj5 at hφ
  split at hφ
  · rename_i l
    cases hb : (Q5y l sz && Nat.ble (l.length * bytes) 140737488355328 && l.flatten.all bare) with
    | false => rw [hb] at hφ; cases hφ
    | true =>
      rw [hb] at hφ
      simp only [cond_true, Option.some.injEq, Prod.mk.injEq] at hφ
      obtain ⟨rfl, rfl⟩ := hφ
      obtain ⟨hrs, hby, hpl⟩ := Qon hb
      refine Qus hm hf hc hrs hby true (fun e => by subst e; rfl) ?_
      have hp := Qaw (H := look ([(192 + 128, (⟨sz, 0, true, l.flatten⟩ : Ob))] ++ [])) (byRef := false) (n := 7) l.flatten [192 + 128] hpl
      have ho : Q33 (look ([(192 + 128, (⟨sz, 0, true, l.flatten⟩ : Ob))] ++ [])) false true (31 + 1) 0 [192 + 128] = some ([⟨sz, 0, true, l.flatten⟩], [192 + 128], []) := by
        rw [Q33]
        show (some (⟨sz, 0, true, l.flatten⟩ : Ob)).bind _ = _
        rw [Option.bind_some]
        show (Q56 (pass _ false 8) l.flatten [192 + 128]).bind _ = _
        rw [hp, Option.bind_some]
        rfl
      show (Q33 (look ([(192 + 128, (⟨sz, 0, true, l.flatten⟩ : Ob))] ++ [])) false true (31 + 1) 0 [192 + 128]).bind _ = _
      rw [ho, Option.bind_some]
      show some (Rs.ret (.ms 0 sz 0 (0 + l.length)) [⟨sz, 0, true, l.flatten⟩]) = _
      rw [Nat.zero_add]
  · cases hφ
theorem Qk5 {P : Program} (hm : P.follows .mixedOrders = true) {f : Nat} {Fn : Func} (hf : P.funcs[f]? = some Fn) {sz bytes : Nat} {z : List PV} (hc : Q5w P Fn sz bytes z = true) : AxOK P f (Qln sz bytes) := by
  intro args r h' hφ
  unfold Qln at hφ
  split at hφ
  · rename_i l
    cases hb : (Q5y l sz && Nat.ble (l.length * bytes) 140737488355328 && l.flatten.all bare) with
    | false => rw [hb] at hφ; cases hφ
    | true =>
      rw [hb] at hφ
      simp only [cond_true, Option.some.injEq, Prod.mk.injEq] at hφ
      obtain ⟨rfl, rfl⟩ := hφ
      obtain ⟨hrs, hby, hpl⟩ := Qon hb
      refine Qus hm hf hc hrs hby false (fun e => by subst e; rfl) ?_
      have hs : ∀ r ∈ l, r.length = sz := fun r hr => Nat.eq_of_beq_eq_true (List.all_eq_true.1 hrs r hr)
      have hz := Q19e (H := look ([(192 + 128, (⟨sz, 0, true, l.flatten⟩ : Ob))] ++ [])) (n := 6) (k := 7) rfl (id := 192 + 128) (sz := sz) (len := l.length) (ob := ⟨sz, 0, true, l.flatten⟩) (rows := l) rfl ⟨rfl, hs, fun r hr p hp => hpl p (List.mem_flatten.2 ⟨r, hr, hp⟩)⟩ rfl rfl
      unfold fin
      simp only [mapO, rv, envF, List.getD_cons_succ, List.getD_cons_zero, Option.bind_some, cond_false, Nat.zero_add, List.nil_append, List.append_nil] at hz ⊢
      simp only [Q56, pass, upTo, cond_false, hz, Option.bind_some]
      rfl
  · cases hφ
end Go.Pv
end

section
/- The seat's functions as the evaluator takes them; printed by a program, checked against the given ones in YtiflaadeikaghaaGreatTie. -/
namespace Go.Proofs.YtiflaadeikaghaaGreat.Ir
open Go.Pv
def o (d : Nat) (op : IOp) : IOper := ⟨some d, none, op, []⟩
def ob (d : Nat) (op : IOp) (b : List Nat) : IOper := ⟨some d, none, op, b⟩
def oM (d t : Nat) : IOper := o d (.mov (.t t))
def oX (d t k : Nat) : IOper := o d (.extract (.t t) k)
def oL (d n t : Nat) : IOper := o d (.load n true (.t t))
def oK (d n t : Nat) : IOper := o d (.load n false (.t t))
def oF (d n t : Nat) : IOper := o d (.faddr n (.t t))
def oS (n a b : Nat) : IOper := ⟨none, none, .store n (.t a) (.t b), []⟩
def oC (d f : Nat) (l : List Opd) : IOper := o d (.call false (.f f) l)
def oI (d n a b : Nat) : IOper := o d (.iaddr n (.t a) (.t b))
def oN (d t : Nat) : IOper := o d (.len false (.t t))
def oU (d t : Nat) : IOper := o d (.un .not (.t t))
def gT (d s : Nat) (x : IOp) : IOper := ⟨some d, some (s, true), x, []⟩
def gF (d s : Nat) (x : IOp) : IOper := ⟨some d, some (s, false), x, []⟩
def oD (d f : Nat) (l : List Opd) (b : List Nat) : IOper := ob d (.call false (.f f) l) b
def oE (d n t : Nat) (b : List Nat) : IOper := ob d (.load n false (.t t)) b
def oP (d a b : Nat) : IOper := o d (.pick (.t a) (.t b) (.c (.bool false)))
def oQ (d a b : Nat) : IOper := o d (.pick (.t a) (.c (.bool true)) (.t b))
def oA (d t : Nat) : IOper := o d (.bin .add (.t t) (.c (.int .i64 1)))
def oJ (d n k a b : Nat) : IOper := o d (.append n k (.t a) (.t b))
def zS : PV := .str ⟨#[]⟩
def zI : PV := .int .i64 0
def zB : PV := .bool false
def sA0 : Opd := .c (.str ⟨#[100, 101, 108, 97, 121]⟩)
def sA1 : Opd := .c (.str ⟨#[100, 105, 115, 107]⟩)
def sA2 : Opd := .c (.str ⟨#[101, 102, 102, 101, 99, 116]⟩)
def sA3 : Opd := .c (.str ⟨#[101, 120, 105, 115, 116, 115]⟩)
def sA4 : Opd := .c (.str ⟨#[101, 120, 105, 116, 67, 111, 100, 101]⟩)
def sA5 : Opd := .c (.str ⟨#[102, 105, 110, 105, 115, 104, 101, 100]⟩)
def sA6 : Opd := .c (.str ⟨#[102, 97, 105, 108, 117, 114, 101]⟩)
def sA7 : Opd := .c (.str ⟨#[103, 114, 97, 99, 101]⟩)
def sA8 : Opd := .c (.str ⟨#[105, 109, 97, 103, 101]⟩)
def sA9 : Opd := .c (.str ⟨#[107, 101, 121]⟩)
def sA10 : Opd := .c (.str ⟨#[108, 105, 109, 105, 116]⟩)
def sA11 : Opd := .c (.str ⟨#[108, 105, 118, 101]⟩)
def sA12 : Opd := .c (.str ⟨#[108, 97, 98, 101, 108, 115]⟩)
def sA13 : Opd := .c (.str ⟨#[109, 101, 109, 111, 114, 121]⟩)
def sA14 : Opd := .c (.str ⟨#[109, 97, 120, 83, 107, 101, 119]⟩)
def sA15 : Opd := .c (.str ⟨#[110, 111, 100, 101, 83, 101, 108, 101, 99, 116, 111, 114]⟩)
def sA16 : Opd := .c (.str ⟨#[110, 111, 100, 101, 84, 101, 114, 109, 115]⟩)
def sA17 : Opd := .c (.str ⟨#[110, 111, 100, 101]⟩)
def sA18 : Opd := .c (.str ⟨#[110, 111, 109, 105, 110, 97, 116, 101, 100]⟩)
def sA19 : Opd := .c (.str ⟨#[110, 97, 109, 101]⟩)
def sA20 : Opd := .c (.str ⟨#[111, 112]⟩)
def sA21 : Opd := .c (.str ⟨#[112, 101, 114, 105, 111, 100]⟩)
def sA22 : Opd := .c (.str ⟨#[112, 104, 97, 115, 101]⟩)
def sA23 : Opd := .c (.str ⟨#[112, 111, 100, 84, 101, 114, 109, 115]⟩)
def sA24 : Opd := .c (.str ⟨#[112, 114, 105, 111, 114, 105, 116, 121]⟩)
def sA25 : Opd := .c (.str ⟨#[112]⟩)
def sA26 : Opd := .c (.str ⟨#[114, 101, 113, 117, 101, 115, 116]⟩)
def sA27 : Opd := .c (.str ⟨#[114, 101, 113, 117, 105, 114, 101, 100]⟩)
def sA28 : Opd := .c (.str ⟨#[114, 101, 115, 116, 97, 114, 116, 115]⟩)
def sA29 : Opd := .c (.str ⟨#[114, 101, 115, 116, 97, 114, 116]⟩)
def sA30 : Opd := .c (.str ⟨#[114, 101, 97, 100, 121, 83, 105, 110, 99, 101]⟩)
def sA31 : Opd := .c (.str ⟨#[114, 101, 97, 100, 121]⟩)
def sA32 : Opd := .c (.str ⟨#[114, 101, 97, 115, 111, 110]⟩)
def sA33 : Opd := .c (.str ⟨#[115, 101, 108, 101, 99, 116, 111, 114]⟩)
def sA34 : Opd := .c (.str ⟨#[115, 101, 99, 111, 110, 100, 115]⟩)
def sA35 : Opd := .c (.str ⟨#[115, 105, 110, 99, 101]⟩)
def sA36 : Opd := .c (.str ⟨#[115, 112, 101, 99]⟩)
def sA37 : Opd := .c (.str ⟨#[115, 112, 114, 101, 97, 100]⟩)
def sA38 : Opd := .c (.str ⟨#[115, 116, 97, 114, 116, 101, 100]⟩)
def sA39 : Opd := .c (.str ⟨#[115, 116, 97, 114, 116, 117, 112]⟩)
def sA40 : Opd := .c (.str ⟨#[115, 116, 97, 116, 101]⟩)
def sA41 : Opd := .c (.str ⟨#[115, 117, 99, 99, 101, 115, 115]⟩)
def sA42 : Opd := .c (.str ⟨#[116, 111, 108, 101, 114, 97, 116, 105, 111, 110, 115]⟩)
def sA43 : Opd := .c (.str ⟨#[116, 111, 112, 111, 108, 111, 103, 121]⟩)
def sA44 : Opd := .c (.str ⟨#[118, 97, 108, 117, 101, 115]⟩)
def sA45 : Opd := .c (.str ⟨#[118, 97, 108, 117, 101]⟩)
def sA46 : Opd := .c (.str ⟨#[119, 101, 105, 103, 104, 116]⟩)
def sA47 : Opd := .c (.str ⟨#[78, 111, 100, 101]⟩)
def sA48 : Opd := .c (.str ⟨#[80, 111, 100]⟩)
def sA49 : Opd := .c (.str ⟨#[97, 100, 100, 114, 101, 115, 115]⟩)
def sA50 : Opd := .c (.str ⟨#[97, 110, 116, 105]⟩)
def sA51 : Opd := .c (.str ⟨#[99, 111, 110, 116, 97, 105, 110, 101, 114, 115]⟩)
def sA52 : Opd := .c (.str ⟨#[99, 111, 114, 100, 111, 110, 101, 100]⟩)
def sA53 : Opd := .c (.str ⟨#[99, 112, 117]⟩)
def zL0 : List PV := [zI, zI, zS, .ns 5, .ns 6]
def zL1 : List PV := [zS, zS, zS, zI, zI, zI, zI, zB, zI, .ns 2, .ns 5, .ns 1, .ns 2, zS, zI, zI, zI, .ns 11, .ns 3, .ns 3, .ns 5, .ns 4, .ns 5, zI, zB, zI, zI, zI, .ns 7, zI, zS, zS]
def zL2 : List PV := [zS, zS, zS, zI, zI, zI, zI, zB, zI, .ns 2, .ns 5, .ns 1, .ns 2, zI, zI, zS, .ns 5, .ns 6, zI, zI, zS, .ns 5, .ns 6]
def zL3 : List PV := [zS, zI, zI, zS, .ns 5, .ns 6]
def zL4 : List PV := [zS, zS, zS, zI, zI, zI, zI, zB, zI, .ns 2, .ns 5, .ns 1, .ns 2, zI, zI, zI, zI, zB, .ns 4, zB, zI, zB, zB, .ns 3]
def zL5 : List PV := [zS, zS, zI, zI, zI, zI, zI, zI, .ns 4, .ns 4, .ns 4]
def zL6 : List PV := [zS, zS, zS, zI, zI, zI, zI, zB, zI, .ns 2, .ns 5, .ns 1, .ns 2]
def zL7 : List PV := [zS, zI, zI, zI, zI, zB, zB]
def zL8 : List PV := [zS, zI, zI, zI, .ns 11, .ns 3, .ns 3, .ns 5, .ns 4, .ns 5]
def zL9 : List PV := [zI, zB, zI, zI, zI, .ns 7, zI, zS, zS]
def rg1 (a : Nat) : Nat → List Nat
  | 0 => []
  | n + 1 => a :: rg1 (a + 1) n
def rg (a b : Nat) : List Nat := rg1 a (b - a)
def K1_c : IR :=
 .seq (.reg [o 1 (.box 23 (.t 0)),
 o 2 (.mov (.c zB))] false)
 (.seq (.seq (.reg [oF 15 0 1,
 oL 16 13 15,
 oC 17 8 ([.t 16]),
 oU 18 17,
 oM 19 18,
 gF 20 19 (.faddr 13 (.t 1)),
 gF 21 19 (.load 5 true (.t 20)),
 gF 22 19 (.call false (.f 9) [.t 21, .c (.int .i64 20000)]),
 gF 23 19 (.un .not (.t 22)),
 oQ 24 19 23,
 oM 25 24,
 gF 26 25 (.faddr 18 (.t 1)),
 gF 27 25 (.load 5 true (.t 26)),
 gF 28 25 (.call false (.f 9) [.t 27, .c (.int .i64 20000)]),
 gF 29 25 (.un .not (.t 28)),
 oQ 30 25 29] false)
 (.cond (.t 30) (.seq (.reg [oC 31 10 ([]),
 oM 2 31] false)
 (.ret))
 (.skip)))
 (.seq (.reg [oL 33 23 1,
 oC 34 11 ([.t 33]),
 oM 32 34,
 oX 35 32 0,
 oX 36 32 1,
 o 3 (.zero zL1),
 oS 32 3 35,
 oM 4 36] false)
 (.seq (.reg [oL 38 23 1,
 oC 39 12 ([.t 38]),
 oM 37 39,
 oX 40 37 0,
 oX 41 37 1,
 o 5 (.zero zL1),
 oS 32 5 40,
 oM 6 41] false)
 (.seq (.reg [oL 43 23 1,
 oC 44 13 ([.t 43]),
 oM 42 44,
 oX 45 42 0,
 oX 46 42 1,
 o 7 (.zero zL4),
 oS 24 7 45,
 oM 8 46] false)
 (.seq (.reg [oL 48 23 1,
 oC 49 14 ([.t 48]),
 oM 47 49,
 oX 50 47 0,
 oX 51 47 1,
 o 9 (.zero zL4),
 oS 24 9 50,
 oM 10 51] false)
 (.seq (.reg [oF 53 13 1,
 oL 54 5 53,
 oC 55 15 ([.t 54]),
 oM 52 55,
 oX 56 52 0,
 oX 57 52 1,
 o 11 (.zero [.ns 2, zS, zI, zI, zI, .ns 11, .ns 3, .ns 3, .ns 5, .ns 4, .ns 5]),
 oS 11 11 56,
 oM 12 57] false)
 (.seq (.reg [oF 59 13 1,
 oL 60 5 59,
 oC 61 16 ([.t 60]),
 oM 58 61,
 oX 62 58 0,
 oX 63 58 1,
 o 13 (.zero [.ns 2, zS, zI, zI, zI, .ns 11, .ns 3, .ns 3, .ns 5, .ns 4, .ns 5]),
 oS 11 13 62,
 oM 14 63] false)
 (.seq (.reg [oM 64 4,
 oM 65 6,
 o 66 (.bin .eql (.t 64) (.t 65)),
 oM 67 66,
 gT 68 67 (.mov (.t 8)),
 gT 69 67 (.mov (.t 10)),
 gT 70 67 (.bin .eql (.t 68) (.t 69)),
 oP 71 67 70,
 oM 72 71,
 gT 73 72 (.mov (.t 12)),
 gT 74 72 (.mov (.t 14)),
 gT 75 72 (.bin .eql (.t 73) (.t 74)),
 oP 76 72 75,
 oM 77 76,
 gT 78 77 (.load 32 true (.t 3)),
 gT 79 77 (.load 32 true (.t 5)),
 gT 80 77 (.call false (.f 17) [.t 78, .t 79]),
 oP 81 77 80,
 oM 82 81,
 gT 83 82 (.load 24 true (.t 7)),
 gT 84 82 (.load 24 true (.t 9)),
 gT 85 82 (.call false (.f 18) [.t 83, .t 84]),
 oP 86 82 85,
 oM 87 86,
 gT 88 87 (.load 11 true (.t 11)),
 gT 89 87 (.load 11 true (.t 13)),
 gT 90 87 (.call false (.f 19) [.t 88, .t 89]),
 oP 91 87 90,
 oM 92 91,
 gT 93 92 (.call false (.f 10) []),
 oP 94 92 93,
 oM 2 94] false)
 (.ret)))))))))
def K1 : IFn := ⟨1, 95, [.tmp 2], false, K1_c⟩
def Qo1 : List Nat := [100001, 5, 6, 14, 100, 101, 102]
def Q1jf : IR :=
 .seq (.reg [o 103 (.bin .lss (.t 102) (.t 101))] false)
 (.seq (.cond (.t 103) (.skip)
 (.exit 0))
 (.seq (.block 1 (.seq (.reg [oM 104 102,
 oI 105 6 100 102,
 oL 106 6 105,
 o 16 (.zero zL3),
 oM 15 104,
 oS 6 16 106] false)
 (.seq (.reg [oF 107 13 5,
 oF 108 4 107,
 oK 109 1 108,
 oM 110 15,
 oI 111 6 109 110,
 oL 112 6 111,
 o 17 (.zero zL3),
 oS 6 17 112] false)
 (.seq (.seq (.reg [oM 113 15,
 oM 114 6,
 o 115 (.bin .eql (.t 113) (.t 114))] false)
 (.cond (.t 115) (.reg [oF 116 13 14,
 oF 117 4 116,
 oK 118 1 117,
 oM 119 15,
 oI 120 6 118 119,
 oL 121 6 120,
 oS 6 17 121] false)
 (.skip)))
 (.seq (.reg [oF 122 0 16,
 oK 123 1 122,
 oF 124 0 17,
 oK 125 1 124,
 o 126 (.bin .neq (.t 123) (.t 125)),
 oM 127 126,
 gF 128 127 (.faddr 1 (.t 16)),
 gF 129 127 (.load 5 true (.t 128)),
 gF 130 127 (.faddr 1 (.t 17)),
 gF 131 127 (.load 5 true (.t 130)),
 gF 132 127 (.call false (.f 23) [.t 129, .t 131]),
 gF 133 127 (.un .not (.t 132)),
 oQ 134 127 133] false)
 (.cond (.t 134) (.seq (.reg [o 4 (.mov (.c zB))] false)
 (.ret))
 (.skip)))))))
 (.reg [oA 135 102,
 oM 102 135] false)))
def K3_c : IR :=
 .seq (.reg [o 2 (.box 32 (.t 0)),
 o 4 (.mov (.c zB))] false)
 (.seq (.seq (.reg [oL 18 32 2,
 oC 19 20 ([.t 18]),
 oU 20 19] false)
 (.cond (.t 20) (.seq (.reg [oC 21 10 ([]),
 oM 4 21] false)
 (.ret))
 (.skip)))
 (.seq (.reg [oL 22 32 2,
 oC 23 21 ([.t 22]),
 o 5 (.zero zL2),
 oS 23 5 23] false)
 (.seq (.seq (.reg [oF 24 13 5,
 oF 25 4 24,
 oK 26 1 25,
 oN 27 26,
 o 28 (.bin .neq (.t 27) (.c (.int .i64 10))),
 oM 29 28,
 gF 30 29 (.faddr 18 (.t 5)),
 gF 31 29 (.faddr 4 (.t 30)),
 gF 32 29 (.load 1 false (.t 31)),
 gF 33 29 (.len false (.t 32)),
 gF 34 29 (.bin .neq (.t 33) (.c (.int .i64 9))),
 oQ 35 29 34] false)
 (.cond (.t 35) (.seq (.reg [o 4 (.mov (.c zB))] false)
 (.ret))
 (.skip)))
 (.seq (.reg [oM 36 1,
 o 37 (.conv .i64 (.t 36)),
 o 38 (.bin .rem (.t 37) (.c (.int .i64 10))),
 oM 6 38] false)
 (.seq (.reg [oL 39 23 5,
 o 7 (.zero zL2),
 oS 23 7 39] false)
 (.seq (.reg [oF 40 13 5,
 oL 41 5 40,
 oM 42 6,
 oC 43 22 ([.t 41, .t 42]),
 oF 44 13 7,
 oS 5 44 43] false)
 (.seq (.reg [oL 45 23 5,
 o 8 (.zero zL2),
 oS 23 8 45] false)
 (.seq (.reg [o 46 (.lit 6 0 zL3 []),
 oF 47 13 5,
 oF 48 4 47,
 oK 49 1 48,
 oJ 50 6 96 46 49,
 oF 51 13 8,
 oF 52 4 51,
 oS 1 52 50] false)
 (.seq (.reg [oF 53 13 8,
 oF 54 4 53,
 oK 55 1 54,
 oM 56 6,
 o 57 (.build [zI, zI, zS, .sl [], .sl []] []),
 oI 58 6 55 56,
 oF 59 1 58,
 oS 5 59 57] false)
 (.seq (.reg [oL 61 23 7,
 oC 62 11 ([.t 61]),
 oM 60 62,
 oX 63 60 0,
 oX 64 60 1,
 o 9 (.zero zL1),
 oS 32 9 63,
 oM 10 64] false)
 (.seq (.reg [oL 66 23 8,
 oC 67 11 ([.t 66]),
 oM 65 67,
 oX 68 65 0,
 oX 69 65 1,
 o 11 (.zero zL1),
 oS 32 11 68,
 oM 12 69] false)
 (.seq (.seq (.reg [oM 70 10,
 o 71 (.bin .neq (.t 70) (.c zI)),
 oM 72 71,
 gF 73 72 (.mov (.t 12)),
 gF 74 72 (.bin .neq (.t 73) (.c zI)),
 oQ 75 72 74,
 oM 76 75,
 gF 77 76 (.load 32 true (.t 9)),
 gF 78 76 (.load 32 true (.t 11)),
 gF 79 76 (.call false (.f 17) [.t 77, .t 78]),
 gF 80 76 (.un .not (.t 79)),
 oQ 81 76 80] false)
 (.cond (.t 81) (.seq (.reg [o 4 (.mov (.c zB))] false)
 (.ret))
 (.skip)))
 (.seq (.reg [oL 82 32 9,
 oC 83 21 ([.t 82]),
 o 13 (.zero zL2),
 oS 23 13 83] false)
 (.seq (.reg [o 84 (.build [zS, zS, zS, zI, zI, zI, zI, zB, zI, .sl [], .sl [], .sl [], .sl [], zS, zI, zI, zI, .sl [], .sl [], .sl [], .sl [], .sl [], .sl [], zI, zB, zI, zI, zI, .sl [], zI, zS, zS] []),
 oC 85 21 ([.t 84]),
 o 14 (.zero zL2),
 oS 23 14 85] false)
 (.seq (.seq (.reg [oF 86 13 13,
 oF 87 4 86,
 oK 88 1 87,
 oN 89 88,
 o 90 (.bin .neq (.t 89) (.c (.int .i64 10))),
 oM 91 90,
 gF 92 91 (.faddr 13 (.t 14)),
 gF 93 91 (.faddr 4 (.t 92)),
 gF 94 91 (.load 1 false (.t 93)),
 gF 95 91 (.len false (.t 94)),
 gF 96 91 (.bin .neq (.t 95) (.c (.int .i64 10))),
 oQ 97 91 96] false)
 (.cond (.t 97) (.seq (.reg [o 4 (.mov (.c zB))] false)
 (.ret))
 (.skip)))
 (.seq (.seq (.reg [oF 98 13 13,
 oF 99 4 98,
 oK 100 1 99,
 oN 101 100,
 o 102 (.mov (.c zI))] false)
 (.block 0 (.loop Qo1 Q1jf)))
 (.seq (.reg [oC 136 10 ([]),
 oM 4 136] false)
 (.ret))))))))))))))))))
def K3 : IFn := ⟨2, 137, [.tmp 4], false, K3_c⟩
def K4_c : IR :=
 .seq (.reg [o 4 (.box 32 (.t 0)),
 o 6 (.box 5 (.t 2)),
 o 8 (.mov (.c zB))] false)
 (.seq (.seq (.reg [oL 16 32 4,
 oC 17 20 ([.t 16]),
 oU 18 17,
 oM 19 18,
 gF 20 19 (.load 5 true (.t 6)),
 gF 21 19 (.call false (.f 9) [.t 20, .c (.int .i64 2000)]),
 gF 22 19 (.un .not (.t 21)),
 oQ 23 19 22,
 oM 24 23,
 gF 25 24 (.mov (.t 3)),
 gF 26 24 (.len true (.t 25)),
 gF 27 24 (.bin .gtr (.t 26) (.c (.int .i64 100))),
 oQ 28 24 27] false)
 (.cond (.t 28) (.seq (.reg [oC 29 10 ([]),
 oM 8 29] false)
 (.ret))
 (.skip)))
 (.seq (.reg [oL 30 32 4,
 oC 31 21 ([.t 30]),
 o 9 (.zero zL2),
 oS 23 9 31] false)
 (.seq (.seq (.reg [oF 32 13 9,
 oF 33 4 32,
 oK 34 1 33,
 oN 35 34,
 o 36 (.bin .neq (.t 35) (.c (.int .i64 10)))] false)
 (.cond (.t 36) (.seq (.reg [o 8 (.mov (.c zB))] false)
 (.ret))
 (.skip)))
 (.seq (.reg [oM 37 1,
 o 38 (.conv .i64 (.t 37)),
 o 39 (.bin .rem (.t 38) (.c (.int .i64 10))),
 oM 10 39] false)
 (.seq (.seq (.reg [oF 40 0 6,
 oE 41 1 40 [0],
 ob 42 (.bin .neq (.t 41) (.c zI)) [0, 1],
 ob 43 (.mov (.t 42)) [0, 1, 2],
 ⟨(some 44), (some (43, true)), .faddr 0 (.t 6), [0, 1, 2, 3]⟩,
 ⟨(some 45), (some (43, true)), .load 1 false (.t 44), (rg 0 5)⟩,
 ⟨(some 46), (some (43, true)), .faddr 13 (.t 9), [0, 1, 2, 3]⟩,
 ⟨(some 47), (some (43, true)), .faddr 4 (.t 46), (rg 0 4 ++ [6])⟩,
 ⟨(some 48), (some (43, true)), .load 1 false (.t 47), (rg 0 4 ++ [6, 7])⟩,
 ⟨(some 49), (some (43, true)), .mov (.t 10), [0, 1, 2, 3]⟩,
 ⟨(some 50), (some (43, true)), .iaddr 6 (.t 48) (.t 49), (rg 0 4 ++ rg 6 10)⟩,
 ⟨(some 51), (some (43, true)), .faddr 1 (.t 50), (rg 0 4 ++ rg 6 11)⟩,
 ⟨(some 52), (some (43, true)), .faddr 0 (.t 51), (rg 0 4 ++ rg 6 12)⟩,
 ⟨(some 53), (some (43, true)), .load 1 false (.t 52), (rg 0 4 ++ rg 6 13)⟩,
 ⟨(some 54), (some (43, true)), .bin .neq (.t 45) (.t 53), (rg 0 14)⟩,
 ob 55 (.pick (.t 43) (.t 54) (.c zB)) (rg 0 15)] true)
 (.cond (.t 55) (.seq (.reg [oL 56 23 9,
 o 11 (.zero zL2),
 oS 23 11 56] false)
 (.seq (.reg [o 57 (.lit 6 0 zL3 []),
 oF 58 13 9,
 oF 59 4 58,
 oK 60 1 59,
 oJ 61 6 96 57 60,
 oF 62 13 11,
 oF 63 4 62,
 oS 1 63 61] false)
 (.seq (.reg [oF 64 13 11,
 oF 65 4 64,
 oK 66 1 65,
 oM 67 10,
 oL 68 5 6,
 oI 69 6 66 67,
 oF 70 1 69,
 oS 5 70 68] false)
 (.seq (.reg [oL 72 23 11,
 oC 73 11 ([.t 72]),
 oM 71 73,
 oX 74 71 0,
 oX 75 71 1,
 o 12 (.zero zL1),
 oS 32 12 74,
 oM 13 75] false)
 (.seq (.reg [oM 76 13,
 o 77 (.bin .neq (.t 76) (.c (.int .i64 6))),
 oM 78 77,
 gF 79 78 (.load 32 true (.t 12)),
 gF 80 78 (.build zL1 []),
 gF 81 78 (.call false (.f 17) [.t 79, .t 80]),
 gF 82 78 (.un .not (.t 81)),
 oQ 83 78 82] false)
 (.cond (.t 83) (.seq (.reg [o 8 (.mov (.c zB))] false)
 (.ret))
 (.skip)))))))
 (.skip)))
 (.seq (.seq (.reg [oM 84 3,
 o 85 (.bin .neq (.t 84) (sA48))] false)
 (.cond (.t 85) (.seq (.reg [oM 86 3,
 oF 87 0 9,
 oF 88 0 87,
 oS 1 88 86] false)
 (.seq (.reg [oL 90 23 9,
 oC 91 11 ([.t 90]),
 oM 89 91,
 oX 92 89 0,
 oX 93 89 1,
 o 14 (.zero zL1),
 oS 32 14 92,
 oM 15 93] false)
 (.seq (.reg [oM 94 15,
 o 95 (.bin .neq (.t 94) (.c (.int .i64 6)))] false)
 (.cond (.t 95) (.seq (.reg [o 8 (.mov (.c zB))] false)
 (.ret))
 (.skip)))))
 (.skip)))
 (.seq (.reg [oC 96 10 ([]),
 oM 8 96] false)
 (.ret))))))))
def K4 : IFn := ⟨4, 97, [.tmp 8], false, K4_c⟩
def Qov : List Nat := [100006, 93, 94, 95, 110, 111, 112]
def Q1jv : IR :=
 .seq (.reg [o 113 (.bin .lss (.t 112) (.t 111))] false)
 (.seq (.cond (.t 113) (.skip)
 (.exit 8))
 (.seq (.block 9 (.seq (.reg [oI 114 1 110 112,
 oK 115 1 114,
 oM 12 115] false)
 (.seq (.reg [oM 116 12,
 o 117 (.len true (.t 116)),
 o 118 (.bin .gtr (.t 117) (.c (.int .i64 2000)))] false)
 (.cond (.t 118) (.seq (.reg [o 2 (.mov (.c zB))] false)
 (.ret))
 (.skip)))))
 (.reg [oA 119 112,
 oM 112 119] false)))
def Qoa : List Nat := [100005, 93, 94, 95]
def Q1iv : IR :=
 .seq (.reg [o 96 (.bin .lss (.t 95) (.t 94))] false)
 (.seq (.cond (.t 96) (.skip)
 (.exit 6))
 (.seq (.block 7 (.seq (.reg [oI 97 2 93 95,
 oL 98 2 97,
 o 10 (.zero [zS, .ns 1]),
 oS 2 10 98] false)
 (.seq (.seq (.reg [oF 99 0 10,
 oK 100 1 99,
 o 101 (.len true (.t 100)),
 o 102 (.bin .gtr (.t 101) (.c (.int .i64 400))),
 oM 103 102,
 gF 104 103 (.faddr 1 (.t 10)),
 gF 105 103 (.load 1 false (.t 104)),
 gF 106 103 (.len false (.t 105)),
 gF 107 103 (.bin .gtr (.t 106) (.c (.int .i64 200))),
 oQ 108 103 107] false)
 (.cond (.t 108) (.seq (.reg [o 2 (.mov (.c zB))] false)
 (.ret))
 (.skip)))
 (.seq (.reg [oF 109 1 10,
 oK 110 1 109,
 oN 111 110,
 o 112 (.mov (.c zI))] false)
 (.block 8 (.loop Qov Q1jv))))))
 (.reg [oA 120 95,
 oM 95 120] false)))
def Qn7 : List Nat := [100004, 1, 82, 83, 84]
def Q1i8 : IR :=
 .seq (.reg [o 85 (.bin .lss (.t 84) (.t 83))] false)
 (.seq (.cond (.t 85) (.skip)
 (.exit 4))
 (.seq (.block 5 (.seq (.reg [oI 86 1 82 84,
 oK 87 1 86,
 oM 8 87] false)
 (.seq (.reg [oM 88 8,
 o 89 (.len true (.t 88)),
 o 90 (.bin .gtr (.t 89) (.c (.int .i64 400)))] false)
 (.cond (.t 90) (.seq (.reg [o 2 (.mov (.c zB))] false)
 (.ret))
 (.skip)))))
 (.reg [oA 91 84,
 oM 84 91] false)))
def Qnz : List Nat := [100003, 1, 66, 67, 68]
def Q1kp : IR :=
 .seq (.reg [o 69 (.bin .lss (.t 68) (.t 67))] false)
 (.seq (.cond (.t 69) (.skip)
 (.exit 2))
 (.seq (.block 3 (.seq (.reg [oI 70 5 66 68,
 oL 71 5 70,
 o 6 (.zero [zS, zS, zI, zB, zB]),
 oS 5 6 71] false)
 (.seq (.reg [oF 72 0 6,
 oK 73 1 72,
 o 74 (.len true (.t 73)),
 oF 75 1 6,
 oK 76 1 75,
 o 77 (.len true (.t 76)),
 o 78 (.bin .add (.t 74) (.t 77)),
 o 79 (.bin .gtr (.t 78) (.c (.int .i64 400)))] false)
 (.cond (.t 79) (.seq (.reg [o 2 (.mov (.c zB))] false)
 (.ret))
 (.skip)))))
 (.reg [oA 80 68,
 oM 68 80] false)))
def Qp8 : List Nat := [100002, 1, 50, 51, 52]
def Q1jo : IR :=
 .seq (.reg [o 53 (.bin .lss (.t 52) (.t 51))] false)
 (.seq (.cond (.t 53) (.skip)
 (.exit 0))
 (.seq (.block 1 (.seq (.reg [oI 54 2 50 52,
 oL 55 2 54,
 o 4 (.zero [zS, zS]),
 oS 2 4 55] false)
 (.seq (.reg [oF 56 0 4,
 oK 57 1 56,
 o 58 (.len true (.t 57)),
 oF 59 1 4,
 oK 60 1 59,
 o 61 (.len true (.t 60)),
 o 62 (.bin .add (.t 58) (.t 61)),
 o 63 (.bin .gtr (.t 62) (.c (.int .i64 400)))] false)
 (.cond (.t 63) (.seq (.reg [o 2 (.mov (.c zB))] false)
 (.ret))
 (.skip)))))
 (.reg [oA 64 52,
 oM 52 64] false)))
def K5_c : IR :=
 .seq (.reg [o 1 (.box 13 (.t 0)),
 o 2 (.mov (.c zB))] false)
 (.seq (.seq (.reg [oF 13 9 1,
 oK 14 1 13,
 oN 15 14,
 o 16 (.bin .gtr (.t 15) (.c (.int .i64 60))),
 oM 17 16,
 gF 18 17 (.faddr 10 (.t 1)),
 gF 19 17 (.load 1 false (.t 18)),
 gF 20 17 (.len false (.t 19)),
 gF 21 17 (.bin .gtr (.t 20) (.c (.int .i64 60))),
 oQ 22 17 21,
 oM 23 22,
 gF 24 23 (.faddr 11 (.t 1)),
 gF 25 23 (.load 1 false (.t 24)),
 gF 26 23 (.len false (.t 25)),
 gF 27 23 (.bin .gtr (.t 26) (.c (.int .i64 60))),
 oQ 28 23 27,
 oM 29 28,
 gF 30 29 (.faddr 12 (.t 1)),
 gF 31 29 (.load 1 false (.t 30)),
 gF 32 29 (.len false (.t 31)),
 gF 33 29 (.bin .gtr (.t 32) (.c (.int .i64 60))),
 oQ 34 29 33,
 oM 35 34,
 gF 36 35 (.faddr 0 (.t 1)),
 gF 37 35 (.load 1 false (.t 36)),
 gF 38 35 (.len true (.t 37)),
 gF 39 35 (.faddr 1 (.t 1)),
 gF 40 35 (.load 1 false (.t 39)),
 gF 41 35 (.len true (.t 40)),
 gF 42 35 (.bin .add (.t 38) (.t 41)),
 gF 43 35 (.faddr 2 (.t 1)),
 gF 44 35 (.load 1 false (.t 43)),
 gF 45 35 (.len true (.t 44)),
 gF 46 35 (.bin .add (.t 42) (.t 45)),
 gF 47 35 (.bin .gtr (.t 46) (.c (.int .i64 400))),
 oQ 48 35 47] false)
 (.cond (.t 48) (.seq (.reg [o 2 (.mov (.c zB))] false)
 (.ret))
 (.skip)))
 (.seq (.seq (.reg [oF 49 9 1,
 oK 50 1 49,
 oN 51 50,
 o 52 (.mov (.c zI))] false)
 (.block 0 (.loop Qp8 Q1jo)))
 (.seq (.seq (.reg [oF 65 10 1,
 oK 66 1 65,
 oN 67 66,
 o 68 (.mov (.c zI))] false)
 (.block 2 (.loop Qnz Q1kp)))
 (.seq (.seq (.reg [oF 81 11 1,
 oK 82 1 81,
 oN 83 82,
 o 84 (.mov (.c zI))] false)
 (.block 4 (.loop Qn7 Q1i8)))
 (.seq (.seq (.reg [oF 92 12 1,
 oK 93 1 92,
 oN 94 93,
 o 95 (.mov (.c zI))] false)
 (.block 6 (.loop Qoa Q1iv)))
 (.seq (.reg [o 2 (.mov (.c (.bool true)))] false)
 (.ret)))))))
def K5 : IFn := ⟨1, 121, [.tmp 2], false, K5_c⟩
def Q1mh : IR :=
 .seq (.reg [o 2 (.box 5 (.t 0)),
 o 4 (.mov (.c zB))] false)
 (.seq (.reg [oL 5 5 2,
 oM 6 1,
 oC 7 30 ([.t 5, .t 6]),
 o 8 (.bin .geq (.t 7) (.c zI)),
 oM 4 8] false)
 (.ret))
def K27 : IFn := ⟨2, 9, [.tmp 4], false, Q1mh⟩
def K7_c : IR :=
 .seq (.reg [o 0 (.mov (.c zB))] false)
 (.seq (.reg [o 7 (.build [zS, zS] [(0, 1, .c (.str ⟨#[97, 112, 112]⟩)), (1, 1, .c (.str ⟨#[119, 101, 98]⟩))]),
 o 8 (.lit 2 1 [zS, zS] [(0, .t 7)]),
 o 9 (.build [.ns 2, zS, zI, zI, zI, .ns 11, .ns 3, .ns 3, .ns 5, .ns 4, .ns 5] [(0, 1, .t 8)]),
 o 1 (.zero [.ns 2, zS, zI, zI, zI, .ns 11, .ns 3, .ns 3, .ns 5, .ns 4, .ns 5]),
 oS 11 1 9] false)
 (.seq (.reg [oL 10 11 1,
 oC 11 28 ([.t 10]),
 o 2 (.zero zL0),
 oS 5 2 11] false)
 (.seq (.reg [o 13 (.build zL6 [(0, 1, sA48), (2, 1, sA25)]),
 o 14 (.build zL2 [(0, 13, .t 13)]),
 oC 15 11 ([.t 14]),
 oM 12 15,
 oX 16 12 0,
 oX 17 12 1,
 o 3 (.zero zL1),
 oS 32 3 16,
 oM 4 17] false)
 (.seq (.reg [o 19 (.build zL6 [(0, 1, sA47)]),
 o 20 (.build zL0 [(0, 1, .c (.int .i64 2)), (1, 1, .c (.int .i64 1))]),
 o 21 (.build zL3 [(0, 1, sA52), (1, 5, .t 20)]),
 o 22 (.lit 6 1 zL3 [(0, .t 21)]),
 o 23 (.build zL0 [(0, 1, .c (.int .i64 5)), (4, 1, .t 22)]),
 o 24 (.build zL2 [(0, 13, .t 19), (13, 5, .t 23)]),
 oC 25 13 ([.t 24]),
 oM 18 25,
 oX 26 18 0,
 oX 27 18 1,
 o 5 (.zero zL4),
 oS 24 5 26,
 oM 6 27] false)
 (.seq (.reg [oL 28 5 2,
 oL 29 11 1,
 oD 30 29 ([.t 29]) [1],
 oD 31 23 ([.t 28, .t 30]) [0, 1, 2],
 ob 32 (.mov (.t 31)) [0, 1, 2, 3],
 ⟨(some 33), (some (32, true)), .faddr 4 (.t 2), (rg 0 5)⟩,
 ⟨(some 34), (some (32, true)), .load 1 false (.t 33), (rg 0 6)⟩,
 ⟨(some 35), (some (32, true)), .len false (.t 34), (rg 0 7)⟩,
 ⟨(some 36), (some (32, true)), .bin .eql (.t 35) (.c (.int .i64 2)), (rg 0 8)⟩,
 ob 37 (.pick (.t 32) (.t 36) (.c zB)) (rg 0 9),
 ob 38 (.mov (.t 37)) (rg 0 10),
 ⟨(some 39), (some (38, true)), .faddr 4 (.t 2), (rg 0 11)⟩,
 ⟨(some 40), (some (38, true)), .load 1 false (.t 39), (rg 0 12)⟩,
 ⟨(some 41), (some (38, true)), .iaddr 6 (.t 40) (.c (.int .i64 1)), (rg 0 13)⟩,
 ⟨(some 42), (some (38, true)), .faddr 1 (.t 41), (rg 0 14)⟩,
 ⟨(some 43), (some (38, true)), .faddr 4 (.t 42), (rg 0 15)⟩,
 ⟨(some 44), (some (38, true)), .load 1 false (.t 43), (rg 0 16)⟩,
 ⟨(some 45), (some (38, true)), .len false (.t 44), (rg 0 17)⟩,
 ⟨(some 46), (some (38, true)), .bin .eql (.t 45) (.c (.int .i64 10)), (rg 0 18)⟩,
 ob 47 (.pick (.t 38) (.t 46) (.c zB)) (rg 0 19),
 ob 48 (.mov (.t 47)) (rg 0 20),
 ⟨(some 49), (some (48, true)), .mov (.t 4), (rg 0 21)⟩,
 ⟨(some 50), (some (48, true)), .bin .eql (.t 49) (.c zI), (rg 0 22)⟩,
 ob 51 (.pick (.t 48) (.t 50) (.c zB)) (rg 0 23),
 ob 52 (.mov (.t 51)) (rg 0 24),
 ⟨(some 53), (some (52, true)), .faddr 0 (.t 3), (rg 0 25)⟩,
 ⟨(some 54), (some (52, true)), .faddr 2 (.t 53), (rg 0 26)⟩,
 ⟨(some 55), (some (52, true)), .load 1 false (.t 54), (rg 0 27)⟩,
 ⟨(some 56), (some (52, true)), .bin .eql (.t 55) (sA25), (rg 0 28)⟩,
 ob 57 (.pick (.t 52) (.t 56) (.c zB)) (rg 0 29),
 ob 58 (.mov (.t 57)) (rg 0 30),
 ⟨(some 59), (some (58, true)), .mov (.t 6), (rg 0 31)⟩,
 ⟨(some 60), (some (58, true)), .bin .eql (.t 59) (.c (.int .i64 6)), (rg 0 32)⟩,
 ob 61 (.pick (.t 58) (.t 60) (.c zB)) (rg 0 33),
 ob 0 (.mov (.t 61)) (rg 0 34)] true)
 (.ret))))))
def K7 : IFn := ⟨0, 62, [.tmp 0], false, K7_c⟩
def Kd_c : IR :=
 .seq (.reg [o 1 (.box 23 (.t 0)),
 o 2 (.zero zL1),
 o 3 (.mov (.c zI))] false)
 (.seq (.reg [oF 6 0 1,
 oF 7 0 6,
 oK 8 1 7,
 o 9 (.bin .neq (.t 8) (sA48)),
 o 10 (.build [zB] [(0, 1, .t 9)]),
 o 11 (.box 1 (.t 10)),
 oM 4 11] false)
 (.seq (.reg [oF 12 0 1,
 ob 13 (.load 13 true (.t 12)) [0],
 oD 14 31 ([.t 13]) [0, 1],
 oM 15 4,
 oF 16 13 1,
 ob 17 (.load 5 true (.t 16)) [4],
 oD 18 32 ([.t 15, .t 17]) (rg 0 6),
 oM 19 4,
 oF 20 18 1,
 ob 21 (.load 5 true (.t 20)) [8],
 oD 22 33 ([.t 19, .t 21]) (rg 0 10),
 ob 23 (.build zL1 [(0, 13, .t 14), (13, 10, .t 18), (23, 9, .t 22)]) (rg 0 11),
 o 5 (.zero zL1),
 ⟨none, none, .store 32 (.t 5) (.t 23), (rg 0 13)⟩] true)
 (.seq (.seq (.reg [oM 24 4,
 o 25 (.nilck (.t 24)),
 oF 26 0 25,
 oK 27 1 26] false)
 (.cond (.t 27) (.seq (.reg [o 28 (.build zL1 []),
 oS 32 2 28,
 o 3 (.mov (.c (.int .i64 6)))] false)
 (.ret))
 (.skip)))
 (.seq (.reg [oL 29 32 5,
 oS 32 2 29,
 o 3 (.mov (.c zI))] false)
 (.ret)))))
def Kd : IFn := ⟨1, 30, [.cell 2 32 true, .tmp 3], false, Kd_c⟩
def Kc_c : IR :=
 .seq (.reg [o 1 (.box 23 (.t 0)),
 o 2 (.zero zL4),
 o 3 (.mov (.c zI))] false)
 (.seq (.reg [oF 8 0 1,
 oF 9 0 8,
 oK 10 1 9,
 o 11 (.bin .neq (.t 10) (sA47)),
 o 12 (.build [zB] [(0, 1, .t 11)]),
 o 13 (.box 1 (.t 12)),
 oM 4 13] false)
 (.seq (.reg [oM 14 4,
 oF 15 13 1,
 ob 16 (.load 5 true (.t 15)) [1],
 oD 17 36 ([.t 14, .t 16]) [0, 1, 2],
 oM 18 4,
 oF 19 18 1,
 ob 20 (.load 5 true (.t 19)) [5],
 oD 21 36 ([.t 18, .t 20]) (rg 0 7),
 o 5 (.zero zL0),
 o 6 (.zero zL0),
 ⟨none, none, .store 5 (.t 5) (.t 17), (rg 0 10)⟩,
 ⟨none, none, .store 5 (.t 6) (.t 21), (rg 0 11)⟩] true)
 (.seq (.reg [oF 22 0 1,
 ob 23 (.load 13 true (.t 22)) [0],
 oD 24 31 ([.t 23]) [0, 1],
 oM 25 4,
 oM 26 4,
 oL 27 5 5,
 oD 28 38 ([.t 26, .t 27, .c (.str ⟨#[99, 97, 112, 97, 99, 105, 116, 121]⟩)]) [0, 1, 2, 4, 5],
 oD 29 37 ([.t 25, .t 28]) (rg 0 7),
 oM 30 4,
 oL 31 5 5,
 oD 32 39 ([.t 30, .t 31, .c (.str ⟨#[109, 97, 120, 80, 111, 100, 115]⟩)]) (rg 0 10),
 oM 33 4,
 oL 34 5 5,
 oD 35 40 ([.t 33, .t 34, sA52]) (rg 0 13),
 oM 36 4,
 oL 37 5 5,
 oM 38 4,
 ob 39 (.mkfn 42 [.t 38] []) [16],
 oD 40 41 ([.t 36, .t 37, .c (.str ⟨#[116, 97, 105, 110, 116, 115]⟩), .t 39]) (rg 0 18),
 oM 41 4,
 oL 42 5 6,
 oD 43 40 ([.t 41, .t 42, sA31]) (rg 0 21),
 oM 44 4,
 oL 45 5 6,
 oD 46 39 ([.t 44, .t 45, .c (.str ⟨#[98, 101, 97, 116]⟩)]) (rg 0 24),
 oM 47 4,
 oL 48 5 6,
 oD 49 40 ([.t 47, .t 48, .c (.str ⟨#[108, 111, 119, 77, 101, 109]⟩)]) (rg 0 27),
 oM 50 4,
 oL 51 5 6,
 oD 52 40 ([.t 50, .t 51, .c (.str ⟨#[108, 111, 119, 68, 105, 115, 107]⟩)]) (rg 0 30),
 oM 53 4,
 oL 54 5 6,
 oM 55 4,
 ob 56 (.mkfn 44 [.t 55] []) [33],
 oD 57 43 ([.t 53, .t 54, .c (.str ⟨#[105, 109, 97, 103, 101, 115]⟩), .t 56]) (rg 0 35),
 ob 58 (.build zL4 [(0, 13, .t 24), (13, 3, .t 29), (16, 1, .t 32), (17, 1, .t 35), (18, 1, .t 40), (19, 1, .t 43), (20, 1, .t 46), (21, 1, .t 49), (22, 1, .t 52), (23, 1, .t 57)]) (rg 0 36),
 o 7 (.zero zL4),
 ⟨none, none, .store 24 (.t 7) (.t 58), (rg 0 38)⟩] true)
 (.seq (.seq (.reg [oM 59 4,
 o 60 (.nilck (.t 59)),
 oF 61 0 60,
 oK 62 1 61] false)
 (.cond (.t 62) (.seq (.reg [o 63 (.build zL4 []),
 oS 24 2 63,
 o 3 (.mov (.c (.int .i64 6)))] false)
 (.ret))
 (.skip)))
 (.seq (.reg [oL 64 24 7,
 oS 24 2 64,
 o 3 (.mov (.c zI))] false)
 (.ret))))))
def Kc : IFn := ⟨1, 65, [.cell 2 24 true, .tmp 3], false, Kc_c⟩
def Q1o7 : IR :=
 .seq (.reg [o 2 (.box 32 (.t 0)),
 o 3 (.box 32 (.t 1)),
 o 4 (.mov (.c zB))] false)
 (.seq (.reg [oF 5 0 2,
 ob 6 (.faddr 0 (.t 5)) [0],
 oE 7 1 6 [0, 1],
 oF 8 0 3,
 ob 9 (.faddr 0 (.t 8)) [3],
 oE 10 1 9 [3, 4],
 ob 11 (.bin .eql (.t 7) (.t 10)) (rg 0 6),
 ob 12 (.mov (.t 11)) (rg 0 7),
 ⟨(some 13), (some (12, true)), .load 32 true (.t 2), (rg 0 8)⟩,
 ⟨(some 14), (some (12, true)), .call false (.f 25) [.t 13], (rg 0 9)⟩,
 ⟨(some 15), (some (12, true)), .load 32 true (.t 3), (rg 0 8)⟩,
 ⟨(some 16), (some (12, true)), .call false (.f 25) [.t 15], (rg 0 11)⟩,
 ⟨(some 17), (some (12, true)), .call false (.f 24) [.t 14, .t 16], (rg 0 12)⟩,
 ob 18 (.pick (.t 12) (.t 17) (.c zB)) (rg 0 13),
 ob 4 (.mov (.t 18)) (rg 0 14)] true)
 (.ret))
def K2m : IFn := ⟨2, 19, [.tmp 4], false, Q1o7⟩
def K6_c : IR :=
 .seq (.reg [o 1 (.box 32 (.t 0)),
 o 2 (.mov (.c zB))] false)
 (.seq (.reg [oL 4 32 1,
 oC 5 25 ([.t 4]),
 o 3 (.zero zL2),
 oS 23 3 5] false)
 (.seq (.reg [oF 6 0 1,
 oL 7 13 6,
 oC 8 8 ([.t 7]),
 oM 9 8,
 gT 10 9 (.faddr 13 (.t 3)),
 gT 11 9 (.load 5 true (.t 10)),
 gT 12 9 (.call false (.f 9) [.t 11, .c (.int .i64 20000)]),
 oP 13 9 12,
 oM 14 13,
 gT 15 14 (.faddr 18 (.t 3)),
 gT 16 14 (.load 5 true (.t 15)),
 gT 17 14 (.call false (.f 9) [.t 16, .c (.int .i64 20000)]),
 oP 18 14 17,
 oM 2 18] false)
 (.ret)))
def K6 : IFn := ⟨1, 19, [.tmp 2], false, K6_c⟩
def Ka_c : IR :=
 .seq (.reg [o 1 (.box 32 (.t 0)),
 o 2 (.zero zL2)] false)
 (.seq (.reg [oF 4 0 1,
 ob 5 (.load 13 true (.t 4)) [0],
 oD 6 31 ([.t 5]) [0, 1],
 oF 7 13 1,
 ob 8 (.load 10 true (.t 7)) [3],
 oD 9 56 ([.t 8]) (rg 0 5),
 oF 10 23 1,
 ob 11 (.load 9 true (.t 10)) [6],
 oD 12 57 ([.t 11]) (rg 0 8),
 ob 13 (.build zL2 [(0, 13, .t 6), (13, 5, .t 9), (18, 5, .t 12)]) (rg 0 9),
 o 3 (.zero zL2),
 ⟨none, none, .store 23 (.t 3) (.t 13), (rg 0 11)⟩] true)
 (.seq (.reg [oF 14 0 3,
 oF 15 0 14,
 ⟨none, none, .store 1 (.t 15) (sA48), []⟩] false)
 (.seq (.reg [oL 16 23 3,
 oS 23 2 16] false)
 (.ret))))
def Ka : IFn := ⟨1, 17, [.cell 2 23 true], false, Ka_c⟩
def K8_c : IR :=
 .seq (.reg [o 2 (.box 5 (.t 0)),
 o 4 (.zero zL0)] false)
 (.seq (.reg [o 6 (.lit 6 0 zL3 []),
 oF 7 4 2,
 oK 8 1 7,
 oM 9 1,
 o 10 (.slice 6 (.t 8) none (some (.t 9)) none),
 oJ 11 6 96 6 10,
 oM 5 11] false)
 (.seq (.reg [oM 12 5,
 oF 13 4 2,
 oK 14 1 13,
 oM 15 1,
 oA 16 15,
 o 17 (.slice 6 (.t 14) (some (.t 16)) none none),
 oJ 18 6 96 12 17,
 oM 5 18] false)
 (.seq (.reg [oM 19 5,
 oF 20 4 2,
 oS 1 20 19] false)
 (.seq (.reg [oL 21 5 2,
 oS 5 4 21] false)
 (.ret)))))
def K8 : IFn := ⟨2, 22, [.cell 4 5 true], false, K8_c⟩
def Qjn : List Nat := [100010, 2, 3, 6]
def Q1e8 : IR :=
 .seq (.seq (.reg [oM 63 6,
 oF 64 4 2,
 oK 65 1 64,
 oN 66 65,
 o 67 (.bin .lss (.t 63) (.t 66))] false)
 (.cond (.t 67) (.skip)
 (.exit 2)))
 (.seq (.block 3 (.seq (.reg [oF 70 4 2,
 oE 71 1 70 [0],
 oM 72 6,
 ob 73 (.iaddr 6 (.t 71) (.t 72)) [0, 1, 2],
 ob 74 (.faddr 0 (.t 73)) [0, 1, 2, 3],
 oE 75 1 74 (rg 0 5),
 oF 76 4 3,
 oE 77 1 76 [6],
 oM 78 6,
 ob 79 (.iaddr 6 (.t 77) (.t 78)) [6, 7, 8],
 ob 80 (.faddr 0 (.t 79)) [6, 7, 8, 9],
 oE 81 1 80 (rg 6 11),
 ob 82 (.bin .neq (.t 75) (.t 81)) (rg 0 12),
 ob 83 (.mov (.t 82)) (rg 0 13),
 ⟨(some 84), (some (83, false)), .faddr 4 (.t 2), (rg 0 14)⟩,
 ⟨(some 85), (some (83, false)), .load 1 false (.t 84), (rg 0 15)⟩,
 ⟨(some 86), (some (83, false)), .mov (.t 6), (rg 0 14)⟩,
 ⟨(some 87), (some (83, false)), .iaddr 6 (.t 85) (.t 86), (rg 0 17)⟩,
 ⟨(some 88), (some (83, false)), .faddr 1 (.t 87), (rg 0 18)⟩,
 ⟨(some 89), (some (83, false)), .load 5 true (.t 88), (rg 0 19)⟩,
 ⟨(some 90), (some (83, false)), .faddr 4 (.t 3), (rg 0 14)⟩,
 ⟨(some 91), (some (83, false)), .load 1 false (.t 90), (rg 0 14 ++ [20])⟩,
 ⟨(some 92), (some (83, false)), .mov (.t 6), (rg 0 14)⟩,
 ⟨(some 93), (some (83, false)), .iaddr 6 (.t 91) (.t 92), (rg 0 14 ++ [20, 21, 22])⟩,
 ⟨(some 94), (some (83, false)), .faddr 1 (.t 93), (rg 0 14 ++ rg 20 24)⟩,
 ⟨(some 95), (some (83, false)), .load 5 true (.t 94), (rg 0 14 ++ rg 20 25)⟩,
 ⟨(some 96), (some (83, false)), .call false (.f 23) [.t 89, .t 95], (rg 0 26)⟩,
 ⟨(some 97), (some (83, false)), .un .not (.t 96), (rg 0 27)⟩,
 ob 98 (.pick (.t 83) (.c (.bool true)) (.t 97)) (rg 0 28)] true)
 (.cond (.t 98) (.seq (.reg [o 4 (.mov (.c zB))] false)
 (.ret))
 (.skip))))
 (.reg [oM 68 6,
 oA 69 68,
 oM 6 69] false))
def Ql8 : List Nat := [100009, 2, 3, 5]
def Q1ed : IR :=
 .seq (.seq (.reg [oM 44 5,
 oF 45 3 2,
 oK 46 1 45,
 oN 47 46,
 o 48 (.bin .lss (.t 44) (.t 47))] false)
 (.cond (.t 48) (.skip)
 (.exit 0)))
 (.seq (.block 1 (.seq (.reg [oF 51 3 2,
 oE 52 1 51 [0],
 oM 53 5,
 ob 54 (.iaddr 5 (.t 52) (.t 53)) [0, 1, 2],
 ob 55 (.load 5 true (.t 54)) [0, 1, 2, 3],
 oF 56 3 3,
 oE 57 1 56 [5],
 oM 58 5,
 ob 59 (.iaddr 5 (.t 57) (.t 58)) [5, 6, 7],
 ob 60 (.load 5 true (.t 59)) [5, 6, 7, 8],
 oD 61 23 ([.t 55, .t 60]) (rg 0 10),
 ob 62 (.un .not (.t 61)) (rg 0 11)] true)
 (.cond (.t 62) (.seq (.reg [o 4 (.mov (.c zB))] false)
 (.ret))
 (.skip))))
 (.reg [oM 49 5,
 oA 50 49,
 oM 5 50] false))
def Q1or : IR :=
 .seq (.reg [o 2 (.box 5 (.t 0)),
 o 3 (.box 5 (.t 1)),
 o 4 (.mov (.c zB))] false)
 (.seq (.seq (.reg [oF 7 0 2,
 oK 8 1 7,
 oF 9 0 3,
 oK 10 1 9,
 o 11 (.bin .neq (.t 8) (.t 10)),
 oM 12 11,
 gF 13 12 (.faddr 1 (.t 2)),
 gF 14 12 (.load 1 false (.t 13)),
 gF 15 12 (.faddr 1 (.t 3)),
 gF 16 12 (.load 1 false (.t 15)),
 gF 17 12 (.bin .neq (.t 14) (.t 16)),
 oQ 18 12 17,
 oM 19 18,
 gF 20 19 (.faddr 2 (.t 2)),
 gF 21 19 (.load 1 false (.t 20)),
 gF 22 19 (.faddr 2 (.t 3)),
 gF 23 19 (.load 1 false (.t 22)),
 gF 24 19 (.bin .neq (.t 21) (.t 23)),
 oQ 25 19 24,
 oM 26 25,
 gF 27 26 (.faddr 3 (.t 2)),
 gF 28 26 (.load 1 false (.t 27)),
 gF 29 26 (.len false (.t 28)),
 gF 30 26 (.faddr 3 (.t 3)),
 gF 31 26 (.load 1 false (.t 30)),
 gF 32 26 (.len false (.t 31)),
 gF 33 26 (.bin .neq (.t 29) (.t 32)),
 oQ 34 26 33,
 oM 35 34,
 gF 36 35 (.faddr 4 (.t 2)),
 gF 37 35 (.load 1 false (.t 36)),
 gF 38 35 (.len false (.t 37)),
 gF 39 35 (.faddr 4 (.t 3)),
 gF 40 35 (.load 1 false (.t 39)),
 gF 41 35 (.len false (.t 40)),
 gF 42 35 (.bin .neq (.t 38) (.t 41)),
 oQ 43 35 42] false)
 (.cond (.t 43) (.seq (.reg [o 4 (.mov (.c zB))] false)
 (.ret))
 (.skip)))
 (.seq (.seq (.reg [o 5 (.mov (.c zI))] false)
 (.block 0 (.loop Ql8 Q1ed)))
 (.seq (.seq (.reg [o 6 (.mov (.c zI))] false)
 (.block 2 (.loop Qjn Q1e8)))
 (.seq (.reg [o 4 (.mov (.c (.bool true)))] false)
 (.ret)))))
def K26 : IFn := ⟨2, 99, [.tmp 4], false, Q1or⟩
def Q1ns : IR :=
 .seq (.reg [o 2 (.box 23 (.t 0)),
 o 3 (.box 23 (.t 1)),
 o 4 (.mov (.c zB))] false)
 (.seq (.reg [oF 5 0 2,
 oL 6 13 5,
 oF 7 0 3,
 oL 8 13 7,
 oC 9 58 ([.t 6, .t 8]),
 oM 10 9,
 gT 11 10 (.faddr 13 (.t 2)),
 gT 12 10 (.load 5 true (.t 11)),
 gT 13 10 (.faddr 13 (.t 3)),
 gT 14 10 (.load 5 true (.t 13)),
 gT 15 10 (.call false (.f 23) [.t 12, .t 14]),
 oP 16 10 15,
 oM 17 16,
 gT 18 17 (.faddr 18 (.t 2)),
 gT 19 17 (.load 5 true (.t 18)),
 gT 20 17 (.faddr 18 (.t 3)),
 gT 21 17 (.load 5 true (.t 20)),
 gT 22 17 (.call false (.f 23) [.t 19, .t 21]),
 oP 23 17 22,
 oM 4 23] false)
 (.ret))
def K2l : IFn := ⟨2, 24, [.tmp 4], false, Q1ns⟩
def Q1m5 : IR :=
 .seq (.reg [o 1 (.box 32 (.t 0)),
 o 2 (.zero zL2)] false)
 (.seq (.reg [oF 4 0 1,
 oL 5 13 4,
 o 3 (.zero zL6),
 oS 13 3 5] false)
 (.seq (.reg [oF 6 0 3,
 ⟨none, none, .store 1 (.t 6) (sA48), []⟩] false)
 (.seq (.reg [oL 7 13 3,
 oF 8 13 1,
 ob 9 (.load 10 true (.t 8)) [1],
 oD 10 59 ([.t 9]) [1, 2],
 oF 11 23 1,
 ob 12 (.load 9 true (.t 11)) [4],
 oD 13 60 ([.t 12]) (rg 1 6),
 ob 14 (.build zL2 [(0, 13, .t 7), (13, 5, .t 10), (18, 5, .t 13)]) (rg 0 7),
 ⟨none, none, .store 23 (.t 2) (.t 14), (rg 0 8)⟩] true)
 (.ret))))
def K2b : IFn := ⟨1, 15, [.cell 2 23 true], false, Q1m5⟩
def Kb_c : IR :=
 .seq (.reg [o 1 (.box 11 (.t 0)),
 o 2 (.zero zL0)] false)
 (.seq (.reg [oF 3 0 1,
 oE 4 1 3 [0],
 oD 5 77 ([.t 4, .f 78]) [0, 1],
 oD 6 62 ([sA12, .t 5]) [0, 1, 2],
 oF 7 1 1,
 ob 8 (.load 10 true (.t 7)) [4],
 oD 9 56 ([.t 8]) (rg 0 6),
 oD 10 62 ([sA36, .t 9]) (rg 0 7),
 ob 11 (.lit 6 2 zL3 [(0, .t 6), (1, .t 10)]) (rg 0 8),
 oD 12 61 ([.t 11]) (rg 0 9),
 ⟨none, none, .store 5 (.t 2) (.t 12), (rg 0 10)⟩] true)
 (.ret))
def Kb : IFn := ⟨1, 13, [.cell 2 5 true], false, Kb_c⟩
def Q1qd : IR :=
 .seq (.reg [o 1 (.box 11 (.t 0)),
 o 2 (.zero zL0)] false)
 (.seq (.reg [oF 3 0 1,
 oE 4 1 3 [0],
 oD 5 79 ([.t 4]) [0, 1],
 oD 6 71 ([sA12, .t 5]) [0, 1, 2],
 oF 7 1 1,
 ob 8 (.load 10 true (.t 7)) [4],
 oD 9 59 ([.t 8]) (rg 0 6),
 oD 10 71 ([sA36, .t 9]) (rg 0 7),
 ob 11 (.lit 6 2 zL3 [(0, .t 6), (1, .t 10)]) (rg 0 8),
 oD 12 70 ([.t 11]) (rg 0 9),
 ⟨none, none, .store 5 (.t 2) (.t 12), (rg 0 10)⟩] true)
 (.ret))
def K2f : IFn := ⟨1, 13, [.cell 2 5 true], false, Q1qd⟩
def Qm1 : List Nat := [100012, 1, 2, 6]
def Q1ew : IR :=
 .seq (.seq (.reg [oM 31 6,
 oF 32 4 2,
 oK 33 1 32,
 oN 34 33,
 o 35 (.bin .lss (.t 31) (.t 34)),
 oM 36 35,
 gT 37 36 (.mov (.t 1)),
 gT 38 36 (.bin .geq (.t 37) (.c zI)),
 oP 39 36 38] false)
 (.cond (.t 39) (.skip)
 (.exit 2)))
 (.seq (.block 3 (.reg [oF 42 4 2,
 oE 43 1 42 [0],
 oM 44 6,
 ob 45 (.iaddr 6 (.t 43) (.t 44)) [0, 1, 2],
 ob 46 (.faddr 1 (.t 45)) [0, 1, 2, 3],
 ob 47 (.load 5 true (.t 46)) (rg 0 5),
 oM 48 1,
 oF 49 4 2,
 oE 50 1 49 [7],
 oM 51 6,
 ob 52 (.iaddr 6 (.t 50) (.t 51)) [7, 8, 9],
 ob 53 (.faddr 0 (.t 52)) [7, 8, 9, 10],
 oE 54 1 53 (rg 7 12),
 ob 55 (.len true (.t 54)) (rg 7 13),
 ob 56 (.bin .sub (.t 48) (.t 55)) (rg 6 14),
 oD 57 30 ([.t 47, .t 56]) (rg 0 15),
 ob 1 (.mov (.t 57)) (rg 0 16)] true))
 (.reg [oM 40 6,
 oA 41 40,
 oM 6 41] false))
def Qkl : List Nat := [100011, 1, 2, 5]
def Q1ei : IR :=
 .seq (.seq (.reg [oM 13 5,
 oF 14 3 2,
 oK 15 1 14,
 oN 16 15,
 o 17 (.bin .lss (.t 13) (.t 16)),
 oM 18 17,
 gT 19 18 (.mov (.t 1)),
 gT 20 18 (.bin .geq (.t 19) (.c zI)),
 oP 21 18 20] false)
 (.cond (.t 21) (.skip)
 (.exit 0)))
 (.seq (.block 1 (.reg [oF 24 3 2,
 oK 25 1 24,
 oM 26 5,
 oI 27 5 25 26,
 oL 28 5 27,
 oM 29 1,
 oC 30 30 ([.t 28, .t 29]),
 oM 1 30] false))
 (.reg [oM 22 5,
 oA 23 22,
 oM 5 23] false))
def Q1pa : IR :=
 .seq (.reg [o 2 (.box 5 (.t 0)),
 o 4 (.mov (.c zI))] false)
 (.seq (.reg [oM 7 1,
 o 8 (.bin .sub (.t 7) (.c (.int .i64 1))),
 oF 9 2 2,
 oK 10 1 9,
 o 11 (.len true (.t 10)),
 o 12 (.bin .sub (.t 8) (.t 11)),
 oM 1 12] false)
 (.seq (.seq (.reg [o 5 (.mov (.c zI))] false)
 (.block 0 (.loop Qkl Q1ei)))
 (.seq (.seq (.reg [o 6 (.mov (.c zI))] false)
 (.block 2 (.loop Qm1 Q1ew)))
 (.seq (.reg [oM 58 1,
 oM 4 58] false)
 (.ret)))))
def K28 : IFn := ⟨2, 59, [.tmp 4], false, Q1pa⟩
def Qoh : List Nat := [100013, 1, 2, 22, 23]
def Q1i7 : IR :=
 .seq (.reg [o 24 (.bin .lss (.t 23) (.t 22))] false)
 (.seq (.cond (.t 24) (.skip)
 (.exit 0))
 (.seq (.block 1 (.seq (.reg [oM 25 23,
 oM 3 25] false)
 (.reg [oF 26 12 1,
 oE 27 1 26 [0],
 oM 28 3,
 oF 29 12 1,
 oE 30 1 29 [3],
 oM 31 3,
 ob 32 (.iaddr 2 (.t 30) (.t 31)) [3, 4, 5],
 ob 33 (.faddr 1 (.t 32)) [3, 4, 5, 6],
 oE 34 1 33 (rg 3 8),
 oD 35 82 ([.t 34]) (rg 3 9),
 ob 36 (.iaddr 2 (.t 27) (.t 28)) (rg 0 10),
 ob 37 (.faddr 1 (.t 36)) (rg 0 11),
 ⟨none, none, .store 1 (.t 37) (.t 35), (rg 0 12)⟩] true)))
 (.reg [oA 38 23,
 oM 23 38] false)))
def Kf_c : IR :=
 .seq (.reg [o 1 (.box 13 (.t 0)),
 o 2 (.zero zL6)] false)
 (.seq (.reg [oF 4 9 1,
 oE 5 1 4 [0],
 oD 6 80 ([.t 5]) [0, 1],
 oF 7 10 1,
 oE 8 1 7 [3],
 oD 9 81 ([.t 8]) (rg 0 5),
 oF 10 11 1,
 oE 11 1 10 [6],
 oD 12 82 ([.t 11]) (rg 0 8),
 oF 13 12 1,
 oE 14 1 13 [9],
 oD 15 83 ([.t 14]) (rg 0 11),
 ob 16 (.faddr 9 (.t 1)) (rg 0 5 ++ [6, 7, 9, 10]),
 ⟨none, none, .store 1 (.t 16) (.t 6), (rg 0 13)⟩,
 ob 17 (.faddr 10 (.t 1)) (rg 0 14),
 ⟨none, none, .store 1 (.t 17) (.t 9), (rg 0 15)⟩,
 ob 18 (.faddr 11 (.t 1)) (rg 0 16),
 ⟨none, none, .store 1 (.t 18) (.t 12), (rg 0 17)⟩,
 ob 19 (.faddr 12 (.t 1)) (rg 0 18),
 ⟨none, none, .store 1 (.t 19) (.t 15), (rg 0 19)⟩] true)
 (.seq (.seq (.reg [oF 20 12 1,
 oK 21 1 20,
 oN 22 21,
 o 23 (.mov (.c zI))] false)
 (.block 0 (.loop Qoh Q1i7)))
 (.seq (.reg [oL 39 13 1,
 oS 13 2 39] false)
 (.ret))))
def Kf : IFn := ⟨1, 40, [.cell 2 13 true], false, Kf_c⟩
def Ks_c : IR :=
 .seq (.reg [o 3 (.box 5 (.t 1)),
 o 4 (.zero zL8)] false)
 (.seq (.reg [oM 5 0,
 oL 6 5 3,
 oC 7 36 ([.t 5, .t 6])] false)
 (.seq (.reg [oM 8 0,
 oL 9 5 3,
 oD 10 84 ([.t 8, .t 9, sA17]) [0, 1],
 oM 11 0,
 oL 12 5 3,
 oD 13 39 ([.t 11, .t 12, sA24]) (rg 0 5),
 oM 14 0,
 oL 15 5 3,
 oD 16 39 ([.t 14, .t 15, sA29]) (rg 0 8),
 oM 17 0,
 oL 18 5 3,
 oD 19 39 ([.t 17, .t 18, sA7]) (rg 0 11),
 oM 20 0,
 oL 21 5 3,
 oM 22 0,
 ob 23 (.mkfn 86 [.t 22] []) [14],
 oD 24 85 ([.t 20, .t 21, sA51, .t 23]) (rg 0 16),
 oM 25 0,
 oL 26 5 3,
 oM 27 0,
 ob 28 (.mkfn 88 [.t 27] []) [19],
 oD 29 87 ([.t 25, .t 26, sA15, .t 28]) (rg 0 21),
 oM 30 0,
 oL 31 5 3,
 oM 32 0,
 ob 33 (.mkfn 90 [.t 32] []) [24],
 oD 34 89 ([.t 30, .t 31, sA16, .t 33]) (rg 0 26),
 oM 35 0,
 oL 36 5 3,
 oM 37 0,
 ob 38 (.mkfn 92 [.t 37] []) [29],
 oD 39 91 ([.t 35, .t 36, sA23, .t 38]) (rg 0 31),
 oM 40 0,
 oL 41 5 3,
 oM 42 0,
 ob 43 (.mkfn 94 [.t 42] []) [34],
 oD 44 93 ([.t 40, .t 41, sA37, .t 43]) (rg 0 36),
 oM 45 0,
 oL 46 5 3,
 oM 47 0,
 ob 48 (.mkfn 96 [.t 47] []) [39],
 oD 49 95 ([.t 45, .t 46, sA42, .t 48]) (rg 0 41),
 ob 50 (.build zL8 [(0, 1, .t 10), (1, 1, .t 13), (2, 1, .t 16), (3, 1, .t 19), (4, 1, .t 24), (5, 1, .t 29), (6, 1, .t 34), (7, 1, .t 39), (8, 1, .t 44), (9, 1, .t 49)]) (rg 0 42),
 ⟨none, none, .store 10 (.t 4) (.t 50), (rg 0 43)⟩] true)
 (.ret)))
def Ks : IFn := ⟨2, 51, [.cell 4 10 true], false, Ks_c⟩
def Ku_c : IR :=
 .seq (.reg [o 3 (.box 5 (.t 1)),
 o 4 (.zero zL9)] false)
 (.seq (.reg [oM 5 0,
 oL 6 5 3,
 oC 7 36 ([.t 5, .t 6])] false)
 (.seq (.reg [oM 8 0,
 oL 9 5 3,
 oD 10 39 ([.t 8, .t 9, sA22]) [0, 1],
 oM 11 0,
 oL 12 5 3,
 oD 13 40 ([.t 11, .t 12, sA31]) (rg 0 5),
 oM 14 0,
 oL 15 5 3,
 oD 16 39 ([.t 14, .t 15, sA30]) (rg 0 8),
 oM 17 0,
 oL 18 5 3,
 oD 19 39 ([.t 17, .t 18, sA38]) (rg 0 11),
 oM 20 0,
 oL 21 5 3,
 oD 22 39 ([.t 20, .t 21, sA5]) (rg 0 14),
 oM 23 0,
 oL 24 5 3,
 oM 25 0,
 ob 26 (.mkfn 98 [.t 25] []) [17],
 oD 27 97 ([.t 23, .t 24, sA51, .t 26]) (rg 0 19),
 oM 28 0,
 oL 29 5 3,
 oD 30 39 ([.t 28, .t 29, sA49]) (rg 0 22),
 oM 31 0,
 oL 32 5 3,
 oD 33 84 ([.t 31, .t 32, sA18]) (rg 0 25),
 oM 34 0,
 oL 35 5 3,
 oD 36 84 ([.t 34, .t 35, sA32]) (rg 0 28),
 ob 37 (.build zL9 [(0, 1, .t 10), (1, 1, .t 13), (2, 1, .t 16), (3, 1, .t 19), (4, 1, .t 22), (5, 1, .t 27), (6, 1, .t 30), (7, 1, .t 33), (8, 1, .t 36)]) (rg 0 29),
 ⟨none, none, .store 9 (.t 4) (.t 37), (rg 0 30)⟩] true)
 (.ret)))
def Ku : IFn := ⟨2, 38, [.cell 4 9 true], false, Ku_c⟩
def Kw_c : IR :=
 .seq (.reg [o 3 (.box 5 (.t 1)),
 o 4 (.zero zL0)] false)
 (.seq (.reg [oM 5 0,
 oM 6 0,
 o 7 (.nilck (.t 6)),
 oF 8 0 7,
 oK 9 1 8,
 oM 10 9,
 gF 11 10 (.faddr 0 (.t 3)),
 gF 12 10 (.load 1 false (.t 11)),
 gF 13 10 (.bin .neq (.t 12) (.c (.int .i64 5))),
 gF 14 10 (.mov (.t 13)),
 gT 15 14 (.faddr 0 (.t 3)),
 gT 16 14 (.load 1 false (.t 15)),
 gT 17 14 (.bin .neq (.t 16) (.c zI)),
 gF 18 10 (.pick (.t 14) (.t 17) (.c zB)),
 oQ 19 10 18,
 o 20 (.nilck (.t 5)),
 oF 21 0 20,
 oS 1 21 19] false)
 (.seq (.reg [oL 22 5 3,
 oS 5 4 22] false)
 (.ret)))
def Kw : IFn := ⟨2, 23, [.cell 4 5 true], false, Kw_c⟩
def Kr_c : IR :=
 .seq (.reg [o 3 (.box 5 (.t 1)),
 o 4 (.zero [zI, zI, zI])] false)
 (.seq (.reg [oM 5 0,
 oL 6 5 3,
 oD 7 39 ([.t 5, .t 6, sA53]) [0, 1],
 oM 8 0,
 oL 9 5 3,
 oD 10 39 ([.t 8, .t 9, sA13]) (rg 0 5),
 oM 11 0,
 oL 12 5 3,
 oD 13 39 ([.t 11, .t 12, sA1]) (rg 0 8),
 ob 14 (.build [zI, zI, zI] [(0, 1, .t 7), (1, 1, .t 10), (2, 1, .t 13)]) (rg 0 9),
 ⟨none, none, .store 3 (.t 4) (.t 14), (rg 0 10)⟩] true)
 (.ret))
def Kr : IFn := ⟨2, 15, [.cell 4 3 true], false, Kr_c⟩
def Kx_c : IR :=
 .seq (.reg [o 4 (.box 5 (.t 1)),
 o 6 (.zero zL0)] false)
 (.seq (.reg [oM 7 0,
 oL 8 5 4,
 oM 9 2,
 oC 10 106 ([.t 7, .t 8, .t 9, .c (.int .i64 5)]),
 oS 5 6 10] false)
 (.ret))
def Kx : IFn := ⟨3, 11, [.cell 6 5 true], false, Kx_c⟩
def Kn_c : IR :=
 .seq (.reg [o 4 (.box 5 (.t 1)),
 o 6 (.mov (.c zI))] false)
 (.seq (.reg [oM 7 0,
 oL 8 5 4,
 oM 9 2,
 oC 10 106 ([.t 7, .t 8, .t 9, .c (.int .i64 2)]),
 o 11 (.field 1 1 false (.t 10)),
 oM 6 11] false)
 (.ret))
def Kn : IFn := ⟨3, 12, [.tmp 6], false, Kn_c⟩
def Ki_c : IR :=
 .seq (.reg [o 4 (.box 5 (.t 1)),
 o 6 (.mov (.c zB))] false)
 (.seq (.reg [oM 7 0,
 oL 8 5 4,
 oM 9 2,
 oC 10 106 ([.t 7, .t 8, .t 9, .c (.int .i64 1)]),
 o 11 (.field 1 1 false (.t 10)),
 o 12 (.bin .neq (.t 11) (.c zI)),
 oM 6 12] false)
 (.ret))
def Ki : IFn := ⟨3, 13, [.tmp 6], false, Ki_c⟩
def Qzb : List Nat := [100016, 3, 9, 16, 17, 18]
def Q1jt : IR :=
 .seq (.reg [o 19 (.bin .lss (.t 18) (.t 17))] false)
 (.seq (.cond (.t 19) (.skip)
 (.exit 0))
 (.seq (.block 1 (.seq (.reg [oI 20 5 16 18,
 oL 21 5 20,
 o 11 (.zero zL0),
 oS 5 11 21] false)
 (.reg [oM 22 9,
 oM 23 3,
 oL 24 5 11,
 o 25 (.call false (.t 23) [.t 24]),
 o 26 (.lit 4 1 [zS, zS, zI, zI] [(0, .t 25)]),
 oJ 27 4 48 22 26,
 oM 9 27] false)))
 (.reg [oA 28 18,
 oM 18 28] false)))
def Q1pd : IR :=
 .seq (.reg [o 5 (.box 5 (.t 1)),
 o 8 (.mov (.c (.ns 4)))] false)
 (.seq (.reg [o 9 (.mov (.c (.ns 4)))] false)
 (.seq (.seq (.reg [oM 12 0,
 oL 13 5 5,
 oM 14 2,
 oC 15 106 ([.t 12, .t 13, .t 14, .c (.int .i64 4)]),
 o 16 (.field 3 1 false (.t 15)),
 oN 17 16,
 o 18 (.mov (.c zI))] false)
 (.block 0 (.loop Qzb Q1jt)))
 (.seq (.reg [oM 29 9,
 oM 8 29] false)
 (.ret))))
def K11 : IFn := ⟨4, 30, [.tmp 8], false, Q1pd⟩
def Ky_c : IR :=
 .seq (.reg [o 3 (.box 5 (.t 1)),
 o 4 (.zero [zS, zS, zI, zI])] false)
 (.seq (.reg [oM 5 0,
 oL 6 5 3,
 oC 7 36 ([.t 5, .t 6])] false)
 (.seq (.reg [oM 8 0,
 oL 9 5 3,
 oD 10 84 ([.t 8, .t 9, sA9]) [0, 1],
 oM 11 0,
 oL 12 5 3,
 oD 13 84 ([.t 11, .t 12, sA45]) (rg 0 5),
 oM 14 0,
 oL 15 5 3,
 oD 16 39 ([.t 14, .t 15, sA2]) (rg 0 8),
 oM 17 0,
 oL 18 5 3,
 oD 19 39 ([.t 17, .t 18, sA35]) (rg 0 11),
 ob 20 (.build [zS, zS, zI, zI] [(0, 1, .t 10), (1, 1, .t 13), (2, 1, .t 16), (3, 1, .t 19)]) (rg 0 12),
 ⟨none, none, .store 4 (.t 4) (.t 20), (rg 0 13)⟩] true)
 (.ret)))
def Ky : IFn := ⟨2, 21, [.cell 4 4 true], false, Ky_c⟩
def Qyx : List Nat := [100017, 3, 9, 16, 17, 18]
def Q1iw : IR :=
 .seq (.reg [o 19 (.bin .lss (.t 18) (.t 17))] false)
 (.seq (.cond (.t 19) (.skip)
 (.exit 0))
 (.seq (.block 1 (.seq (.reg [oI 20 5 16 18,
 oL 21 5 20,
 o 11 (.zero zL0),
 oS 5 11 21] false)
 (.reg [oM 22 9,
 oM 23 3,
 oL 24 5 11,
 o 25 (.call false (.t 23) [.t 24]),
 o 26 (.lit 3 1 [zS, zI, zI] [(0, .t 25)]),
 oJ 27 3 32 22 26,
 oM 9 27] false)))
 (.reg [oA 28 18,
 oM 18 28] false)))
def Q1oe : IR :=
 .seq (.reg [o 5 (.box 5 (.t 1)),
 o 8 (.mov (.c (.ns 3)))] false)
 (.seq (.reg [o 9 (.mov (.c (.ns 3)))] false)
 (.seq (.seq (.reg [oM 12 0,
 oL 13 5 5,
 oM 14 2,
 oC 15 106 ([.t 12, .t 13, .t 14, .c (.int .i64 4)]),
 o 16 (.field 3 1 false (.t 15)),
 oN 17 16,
 o 18 (.mov (.c zI))] false)
 (.block 0 (.loop Qyx Q1iw)))
 (.seq (.reg [oM 29 9,
 oM 8 29] false)
 (.ret))))
def K14 : IFn := ⟨4, 30, [.tmp 8], false, Q1oe⟩
def Kk_c : IR :=
 .seq (.reg [o 3 (.box 5 (.t 1)),
 o 4 (.zero [zS, zI, zI])] false)
 (.seq (.reg [oM 5 0,
 oL 6 5 3,
 oC 7 36 ([.t 5, .t 6])] false)
 (.seq (.reg [oM 8 0,
 oL 9 5 3,
 oD 10 84 ([.t 8, .t 9, sA19]) [0, 1],
 oM 11 0,
 oL 12 5 3,
 oD 13 39 ([.t 11, .t 12, .c (.str ⟨#[115, 105, 122, 101]⟩)]) (rg 0 5),
 oM 14 0,
 oL 15 5 3,
 oD 16 39 ([.t 14, .t 15, .c (.str ⟨#[117, 115, 101, 100]⟩)]) (rg 0 8),
 ob 17 (.build [zS, zI, zI] [(0, 1, .t 10), (1, 1, .t 13), (2, 1, .t 16)]) (rg 0 9),
 ⟨none, none, .store 3 (.t 4) (.t 17), (rg 0 10)⟩] true)
 (.ret)))
def Kk : IFn := ⟨2, 18, [.cell 4 3 true], false, Kk_c⟩
def Q1n8 : IR :=
 .seq (.reg [o 1 (.box 10 (.t 0)),
 o 2 (.zero zL0)] false)
 (.seq (.reg [oF 3 4 1,
 oE 4 1 3 [0],
 oD 5 107 ([.t 4, .f 108]) [0, 1],
 oD 6 62 ([sA51, .t 5]) [0, 1, 2],
 oF 7 3 1,
 oE 8 1 7 [4],
 oD 9 65 ([.t 8]) (rg 0 6),
 oD 10 62 ([sA7, .t 9]) (rg 0 7),
 oF 11 0 1,
 oE 12 1 11 [8],
 oD 13 109 ([.t 12]) (rg 0 10),
 oD 14 62 ([sA17, .t 13]) (rg 0 11),
 oF 15 5 1,
 oE 16 1 15 [12],
 oD 17 110 ([.t 16, .f 111]) (rg 0 14),
 oD 18 62 ([sA15, .t 17]) (rg 0 15),
 oF 19 6 1,
 oE 20 1 19 [16],
 oD 21 112 ([.t 20, .f 113]) (rg 0 18),
 oD 22 62 ([sA16, .t 21]) (rg 0 19),
 oF 23 7 1,
 oE 24 1 23 [20],
 oD 25 114 ([.t 24, .f 115]) (rg 0 22),
 oD 26 62 ([sA23, .t 25]) (rg 0 23),
 oF 27 1 1,
 oE 28 1 27 [24],
 oD 29 65 ([.t 28]) (rg 0 26),
 oD 30 62 ([sA24, .t 29]) (rg 0 27),
 oF 31 2 1,
 oE 32 1 31 [28],
 oD 33 65 ([.t 32]) (rg 0 30),
 oD 34 62 ([sA29, .t 33]) (rg 0 31),
 oF 35 8 1,
 oE 36 1 35 [32],
 oD 37 116 ([.t 36, .f 117]) (rg 0 34),
 oD 38 62 ([sA37, .t 37]) (rg 0 35),
 oF 39 9 1,
 oE 40 1 39 [36],
 oD 41 118 ([.t 40, .f 119]) (rg 0 38),
 oD 42 62 ([sA42, .t 41]) (rg 0 39),
 ob 43 (.lit 6 10 zL3 [(0, .t 6), (1, .t 10), (2, .t 14), (3, .t 18), (4, .t 22), (5, .t 26), (6, .t 30), (7, .t 34), (8, .t 38), (9, .t 42)]) (rg 0 40),
 oD 44 61 ([.t 43]) (rg 0 41),
 ⟨none, none, .store 5 (.t 2) (.t 44), (rg 0 42)⟩] true)
 (.ret))
def K1m : IFn := ⟨1, 45, [.cell 2 5 true], false, Q1n8⟩
def Q1nl : IR :=
 .seq (.reg [o 1 (.box 9 (.t 0)),
 o 2 (.zero zL0)] false)
 (.seq (.reg [oF 3 6 1,
 oE 4 1 3 [0],
 oD 5 65 ([.t 4]) [0, 1],
 oD 6 62 ([sA49, .t 5]) [0, 1, 2],
 oF 7 5 1,
 oE 8 1 7 [4],
 oD 9 120 ([.t 8, .f 121]) (rg 0 6),
 oD 10 62 ([sA51, .t 9]) (rg 0 7),
 oF 11 4 1,
 oE 12 1 11 [8],
 oD 13 65 ([.t 12]) (rg 0 10),
 oD 14 62 ([sA5, .t 13]) (rg 0 11),
 oF 15 7 1,
 oE 16 1 15 [12],
 oD 17 109 ([.t 16]) (rg 0 14),
 oD 18 62 ([sA18, .t 17]) (rg 0 15),
 oF 19 0 1,
 oE 20 1 19 [16],
 oD 21 65 ([.t 20]) (rg 0 18),
 oD 22 62 ([sA22, .t 21]) (rg 0 19),
 oF 23 1 1,
 oE 24 1 23 [20],
 oD 25 64 ([.t 24]) (rg 0 22),
 oD 26 62 ([sA31, .t 25]) (rg 0 23),
 oF 27 2 1,
 oE 28 1 27 [24],
 oD 29 65 ([.t 28]) (rg 0 26),
 oD 30 62 ([sA30, .t 29]) (rg 0 27),
 oF 31 8 1,
 oE 32 1 31 [28],
 oD 33 109 ([.t 32]) (rg 0 30),
 oD 34 62 ([sA32, .t 33]) (rg 0 31),
 oF 35 3 1,
 oE 36 1 35 [32],
 oD 37 65 ([.t 36]) (rg 0 34),
 oD 38 62 ([sA38, .t 37]) (rg 0 35),
 ob 39 (.lit 6 9 zL3 [(0, .t 6), (1, .t 10), (2, .t 14), (3, .t 18), (4, .t 22), (5, .t 26), (6, .t 30), (7, .t 34), (8, .t 38)]) (rg 0 36),
 oD 40 61 ([.t 39]) (rg 0 37),
 ⟨none, none, .store 5 (.t 2) (.t 40), (rg 0 38)⟩] true)
 (.ret))
def K1o : IFn := ⟨1, 41, [.cell 2 5 true], false, Q1nl⟩
def Qii : List Nat := [100023, 2, 3, 6]
def Q1f4 : IR :=
 .seq (.seq (.reg [oM 118 6,
 oF 119 12 2,
 oK 120 1 119,
 oN 121 120,
 o 122 (.bin .lss (.t 118) (.t 121))] false)
 (.cond (.t 122) (.skip)
 (.exit 2)))
 (.seq (.block 3 (.seq (.reg [oF 125 12 2,
 oE 126 1 125 [0],
 oM 127 6,
 ob 128 (.iaddr 2 (.t 126) (.t 127)) [0, 1, 2],
 ob 129 (.faddr 0 (.t 128)) [0, 1, 2, 3],
 oE 130 1 129 (rg 0 5),
 oF 131 12 3,
 oE 132 1 131 [6],
 oM 133 6,
 ob 134 (.iaddr 2 (.t 132) (.t 133)) [6, 7, 8],
 ob 135 (.faddr 0 (.t 134)) [6, 7, 8, 9],
 oE 136 1 135 (rg 6 11),
 ob 137 (.bin .neq (.t 130) (.t 136)) (rg 0 12),
 ob 138 (.mov (.t 137)) (rg 0 13),
 ⟨(some 139), (some (138, false)), .faddr 12 (.t 2), (rg 0 14)⟩,
 ⟨(some 140), (some (138, false)), .load 1 false (.t 139), (rg 0 15)⟩,
 ⟨(some 141), (some (138, false)), .mov (.t 6), (rg 0 14)⟩,
 ⟨(some 142), (some (138, false)), .iaddr 2 (.t 140) (.t 141), (rg 0 17)⟩,
 ⟨(some 143), (some (138, false)), .faddr 1 (.t 142), (rg 0 18)⟩,
 ⟨(some 144), (some (138, false)), .load 1 false (.t 143), (rg 0 19)⟩,
 ⟨(some 145), (some (138, false)), .faddr 12 (.t 3), (rg 0 14)⟩,
 ⟨(some 146), (some (138, false)), .load 1 false (.t 145), (rg 0 14 ++ [20])⟩,
 ⟨(some 147), (some (138, false)), .mov (.t 6), (rg 0 14)⟩,
 ⟨(some 148), (some (138, false)), .iaddr 2 (.t 146) (.t 147), (rg 0 14 ++ [20, 21, 22])⟩,
 ⟨(some 149), (some (138, false)), .faddr 1 (.t 148), (rg 0 14 ++ rg 20 24)⟩,
 ⟨(some 150), (some (138, false)), .load 1 false (.t 149), (rg 0 14 ++ rg 20 25)⟩,
 ⟨(some 151), (some (138, false)), .call false (.f 123) [.t 144, .t 150], (rg 0 26)⟩,
 ⟨(some 152), (some (138, false)), .un .not (.t 151), (rg 0 27)⟩,
 ob 153 (.pick (.t 138) (.c (.bool true)) (.t 152)) (rg 0 28)] true)
 (.cond (.t 153) (.seq (.reg [o 4 (.mov (.c zB))] false)
 (.ret))
 (.skip))))
 (.reg [oM 123 6,
 oA 124 123,
 oM 6 124] false))
def Qki : List Nat := [100022, 2, 3, 5]
def Q1fe : IR :=
 .seq (.seq (.reg [oM 100 5,
 oF 101 10 2,
 oK 102 1 101,
 oN 103 102,
 o 104 (.bin .lss (.t 100) (.t 103))] false)
 (.cond (.t 104) (.skip)
 (.exit 0)))
 (.seq (.block 1 (.seq (.reg [oF 107 10 2,
 oE 108 1 107 [0],
 oM 109 5,
 ob 110 (.iaddr 5 (.t 108) (.t 109)) [0, 1, 2],
 ob 111 (.load 5 true (.t 110)) [0, 1, 2, 3],
 oF 112 10 3,
 oE 113 1 112 [5],
 oM 114 5,
 ob 115 (.iaddr 5 (.t 113) (.t 114)) [5, 6, 7],
 ob 116 (.load 5 true (.t 115)) [5, 6, 7, 8],
 ob 117 (.eqs (.st [(0, 1, .str), (1, 1, .str), (2, 1, .int), (3, 1, .bool), (4, 1, .bool)]) true (.t 111) (.t 116)) (rg 0 10)] true)
 (.cond (.t 117) (.seq (.reg [o 4 (.mov (.c zB))] false)
 (.ret))
 (.skip))))
 (.reg [oM 105 5,
 oA 106 105,
 oM 5 106] false))
def Q1mg : IR :=
 .seq (.reg [o 2 (.box 13 (.t 0)),
 o 3 (.box 13 (.t 1)),
 o 4 (.mov (.c zB))] false)
 (.seq (.seq (.reg [oF 7 0 2,
 oK 8 1 7,
 oF 9 0 3,
 oK 10 1 9,
 o 11 (.bin .neq (.t 8) (.t 10)),
 oM 12 11,
 gF 13 12 (.faddr 1 (.t 2)),
 gF 14 12 (.load 1 false (.t 13)),
 gF 15 12 (.faddr 1 (.t 3)),
 gF 16 12 (.load 1 false (.t 15)),
 gF 17 12 (.bin .neq (.t 14) (.t 16)),
 oQ 18 12 17,
 oM 19 18,
 gF 20 19 (.faddr 2 (.t 2)),
 gF 21 19 (.load 1 false (.t 20)),
 gF 22 19 (.faddr 2 (.t 3)),
 gF 23 19 (.load 1 false (.t 22)),
 gF 24 19 (.bin .neq (.t 21) (.t 23)),
 oQ 25 19 24,
 oM 26 25,
 gF 27 26 (.faddr 3 (.t 2)),
 gF 28 26 (.load 1 false (.t 27)),
 gF 29 26 (.faddr 3 (.t 3)),
 gF 30 26 (.load 1 false (.t 29)),
 gF 31 26 (.bin .neq (.t 28) (.t 30)),
 oQ 32 26 31,
 oM 33 32,
 gF 34 33 (.faddr 4 (.t 2)),
 gF 35 33 (.load 1 false (.t 34)),
 gF 36 33 (.faddr 4 (.t 3)),
 gF 37 33 (.load 1 false (.t 36)),
 gF 38 33 (.bin .neq (.t 35) (.t 37)),
 oQ 39 33 38,
 oM 40 39,
 gF 41 40 (.faddr 5 (.t 2)),
 gF 42 40 (.load 1 false (.t 41)),
 gF 43 40 (.faddr 5 (.t 3)),
 gF 44 40 (.load 1 false (.t 43)),
 gF 45 40 (.bin .neq (.t 42) (.t 44)),
 oQ 46 40 45,
 oM 47 46,
 gF 48 47 (.faddr 6 (.t 2)),
 gF 49 47 (.load 1 false (.t 48)),
 gF 50 47 (.faddr 6 (.t 3)),
 gF 51 47 (.load 1 false (.t 50)),
 gF 52 47 (.bin .neq (.t 49) (.t 51)),
 oQ 53 47 52,
 oM 54 53,
 gF 55 54 (.faddr 7 (.t 2)),
 gF 56 54 (.load 1 false (.t 55)),
 gF 57 54 (.faddr 7 (.t 3)),
 gF 58 54 (.load 1 false (.t 57)),
 gF 59 54 (.eqb true (.t 56) (.t 58)),
 oQ 60 54 59,
 oM 61 60,
 gF 62 61 (.faddr 8 (.t 2)),
 gF 63 61 (.load 1 false (.t 62)),
 gF 64 61 (.faddr 8 (.t 3)),
 gF 65 61 (.load 1 false (.t 64)),
 gF 66 61 (.bin .neq (.t 63) (.t 65)),
 oQ 67 61 66] false)
 (.cond (.t 67) (.seq (.reg [o 4 (.mov (.c zB))] false)
 (.ret))
 (.skip)))
 (.seq (.seq (.reg [oF 68 9 2,
 oK 69 1 68,
 oF 70 9 3,
 oK 71 1 70,
 oC 72 122 ([.t 69, .t 71]),
 oU 73 72,
 oM 74 73,
 gF 75 74 (.faddr 11 (.t 2)),
 gF 76 74 (.load 1 false (.t 75)),
 gF 77 74 (.faddr 11 (.t 3)),
 gF 78 74 (.load 1 false (.t 77)),
 gF 79 74 (.call false (.f 123) [.t 76, .t 78]),
 gF 80 74 (.un .not (.t 79)),
 oQ 81 74 80,
 oM 82 81,
 gF 83 82 (.faddr 10 (.t 2)),
 gF 84 82 (.load 1 false (.t 83)),
 gF 85 82 (.len false (.t 84)),
 gF 86 82 (.faddr 10 (.t 3)),
 gF 87 82 (.load 1 false (.t 86)),
 gF 88 82 (.len false (.t 87)),
 gF 89 82 (.bin .neq (.t 85) (.t 88)),
 oQ 90 82 89,
 oM 91 90,
 gF 92 91 (.faddr 12 (.t 2)),
 gF 93 91 (.load 1 false (.t 92)),
 gF 94 91 (.len false (.t 93)),
 gF 95 91 (.faddr 12 (.t 3)),
 gF 96 91 (.load 1 false (.t 95)),
 gF 97 91 (.len false (.t 96)),
 gF 98 91 (.bin .neq (.t 94) (.t 97)),
 oQ 99 91 98] false)
 (.cond (.t 99) (.seq (.reg [o 4 (.mov (.c zB))] false)
 (.ret))
 (.skip)))
 (.seq (.seq (.reg [o 5 (.mov (.c zI))] false)
 (.block 0 (.loop Qki Q1fe)))
 (.seq (.seq (.reg [o 6 (.mov (.c zI))] false)
 (.block 2 (.loop Qii Q1f4)))
 (.seq (.reg [o 4 (.mov (.c (.bool true)))] false)
 (.ret))))))
def K2j : IFn := ⟨2, 154, [.tmp 4], false, Q1mg⟩
def Q1pp : IR :=
 .seq (.reg [o 1 (.box 10 (.t 0)),
 o 2 (.zero zL0)] false)
 (.seq (.reg [oF 3 4 1,
 oE 4 1 3 [0],
 oD 5 124 ([.t 4]) [0, 1],
 oD 6 71 ([sA51, .t 5]) [0, 1, 2],
 oF 7 3 1,
 oE 8 1 7 [4],
 oD 9 74 ([.t 8]) (rg 0 6),
 oD 10 71 ([sA7, .t 9]) (rg 0 7),
 oF 11 0 1,
 oE 12 1 11 [8],
 oD 13 125 ([.t 12]) (rg 0 10),
 oD 14 71 ([sA17, .t 13]) (rg 0 11),
 oF 15 5 1,
 oE 16 1 15 [12],
 oD 17 126 ([.t 16]) (rg 0 14),
 oD 18 71 ([sA15, .t 17]) (rg 0 15),
 oF 19 6 1,
 oE 20 1 19 [16],
 oD 21 127 ([.t 20]) (rg 0 18),
 oD 22 71 ([sA16, .t 21]) (rg 0 19),
 oF 23 7 1,
 oE 24 1 23 [20],
 oD 25 128 ([.t 24]) (rg 0 22),
 oD 26 71 ([sA23, .t 25]) (rg 0 23),
 oF 27 1 1,
 oE 28 1 27 [24],
 oD 29 74 ([.t 28]) (rg 0 26),
 oD 30 71 ([sA24, .t 29]) (rg 0 27),
 oF 31 2 1,
 oE 32 1 31 [28],
 oD 33 74 ([.t 32]) (rg 0 30),
 oD 34 71 ([sA29, .t 33]) (rg 0 31),
 oF 35 8 1,
 oE 36 1 35 [32],
 oD 37 129 ([.t 36]) (rg 0 34),
 oD 38 71 ([sA37, .t 37]) (rg 0 35),
 oF 39 9 1,
 oE 40 1 39 [36],
 oD 41 130 ([.t 40]) (rg 0 38),
 oD 42 71 ([sA42, .t 41]) (rg 0 39),
 ob 43 (.lit 6 10 zL3 [(0, .t 6), (1, .t 10), (2, .t 14), (3, .t 18), (4, .t 22), (5, .t 26), (6, .t 30), (7, .t 34), (8, .t 38), (9, .t 42)]) (rg 0 40),
 oD 44 70 ([.t 43]) (rg 0 41),
 ⟨none, none, .store 5 (.t 2) (.t 44), (rg 0 42)⟩] true)
 (.ret))
def K2d : IFn := ⟨1, 45, [.cell 2 5 true], false, Q1pp⟩
def Q1og : IR :=
 .seq (.reg [o 1 (.box 9 (.t 0)),
 o 2 (.zero zL0)] false)
 (.seq (.reg [oF 3 6 1,
 oE 4 1 3 [0],
 oD 5 74 ([.t 4]) [0, 1],
 oD 6 71 ([sA49, .t 5]) [0, 1, 2],
 oF 7 5 1,
 oE 8 1 7 [4],
 oD 9 131 ([.t 8]) (rg 0 6),
 oD 10 71 ([sA51, .t 9]) (rg 0 7),
 oF 11 4 1,
 oE 12 1 11 [8],
 oD 13 74 ([.t 12]) (rg 0 10),
 oD 14 71 ([sA5, .t 13]) (rg 0 11),
 oF 15 7 1,
 oE 16 1 15 [12],
 oD 17 125 ([.t 16]) (rg 0 14),
 oD 18 71 ([sA18, .t 17]) (rg 0 15),
 oF 19 0 1,
 oE 20 1 19 [16],
 oD 21 74 ([.t 20]) (rg 0 18),
 oD 22 71 ([sA22, .t 21]) (rg 0 19),
 oF 23 1 1,
 oE 24 1 23 [20],
 oD 25 73 ([.t 24]) (rg 0 22),
 oD 26 71 ([sA31, .t 25]) (rg 0 23),
 oF 27 2 1,
 oE 28 1 27 [24],
 oD 29 74 ([.t 28]) (rg 0 26),
 oD 30 71 ([sA30, .t 29]) (rg 0 27),
 oF 31 8 1,
 oE 32 1 31 [28],
 oD 33 125 ([.t 32]) (rg 0 30),
 oD 34 71 ([sA32, .t 33]) (rg 0 31),
 oF 35 3 1,
 oE 36 1 35 [32],
 oD 37 74 ([.t 36]) (rg 0 34),
 oD 38 71 ([sA38, .t 37]) (rg 0 35),
 ob 39 (.lit 6 9 zL3 [(0, .t 6), (1, .t 10), (2, .t 14), (3, .t 18), (4, .t 22), (5, .t 26), (6, .t 30), (7, .t 34), (8, .t 38)]) (rg 0 36),
 oD 40 70 ([.t 39]) (rg 0 37),
 ⟨none, none, .store 5 (.t 2) (.t 40), (rg 0 38)⟩] true)
 (.ret))
def K35 : IFn := ⟨1, 41, [.cell 2 5 true], false, Q1og⟩
def Qkf : List Nat := [100024, 2, 3, 4, 12, 13, 14]
def Q1et : IR :=
 .seq (.reg [o 15 (.bin .lss (.t 14) (.t 13))] false)
 (.seq (.cond (.t 15) (.skip)
 (.exit 0))
 (.seq (.block 1 (.seq (.reg [oM 16 14,
 oI 17 6 12 14,
 oL 18 6 17,
 o 6 (.zero zL3),
 oM 5 16,
 oS 6 6 18] false)
 (.seq (.reg [oM 19 5,
 ob 20 (.bin .add (.t 19) (.c (.int .i64 1))) [0],
 oM 21 3,
 ob 22 (.len false (.t 21)) [2],
 ob 23 (.bin .eql (.t 20) (.t 22)) [0, 1, 2, 3],
 ob 24 (.mov (.t 23)) (rg 0 5),
 ⟨(some 25), (some (24, false)), .mov (.t 3), (rg 0 6)⟩,
 ⟨(some 26), (some (24, false)), .mov (.t 5), (rg 0 6)⟩,
 ⟨(some 27), (some (24, false)), .bin .add (.t 26) (.c (.int .i64 1)), (rg 0 6 ++ [7])⟩,
 ⟨(some 28), (some (24, false)), .iaddr 6 (.t 25) (.t 27), (rg 0 9)⟩,
 ⟨(some 29), (some (24, false)), .faddr 0 (.t 28), (rg 0 10)⟩,
 ⟨(some 30), (some (24, false)), .load 1 false (.t 29), (rg 0 11)⟩,
 ⟨(some 31), (some (24, false)), .faddr 0 (.t 6), (rg 0 6)⟩,
 ⟨(some 32), (some (24, false)), .load 1 false (.t 31), (rg 0 6 ++ [12])⟩,
 ⟨(some 33), (some (24, false)), .bin .neq (.t 30) (.t 32), (rg 0 14)⟩,
 ob 34 (.pick (.t 24) (.c (.bool true)) (.t 33)) (rg 0 15)] true)
 (.cond (.t 34) (.reg [oF 35 4 4,
 oK 36 1 35,
 oL 37 6 6,
 o 38 (.lit 6 1 zL3 [(0, .t 37)]),
 oJ 39 6 96 36 38,
 oF 40 4 4,
 oS 1 40 39] false)
 (.skip)))))
 (.reg [oA 41 14,
 oM 14 41] false)))
def Q1md : IR :=
 .seq (.reg [o 2 (.zero zL0)] false)
 (.seq (.reg [oM 7 0,
 oC 8 132 ([.t 7]),
 oM 3 8] false)
 (.seq (.reg [oM 9 3,
 o 10 (.call true (.f 133) [.t 9, .f 134])] false)
 (.seq (.reg [o 11 (.build zL0 [(0, 1, .c (.int .i64 5))]),
 o 4 (.zero zL0),
 oS 5 4 11] false)
 (.seq (.seq (.reg [oM 12 3,
 oN 13 12,
 o 14 (.mov (.c zI))] false)
 (.block 0 (.loop Qkf Q1et)))
 (.seq (.reg [oL 42 5 4,
 oC 43 136 ([.t 42]),
 oS 5 2 43] false)
 (.ret))))))
def K3z : IFn := ⟨1, 44, [.cell 2 5 true], false, Q1md⟩
def Q1qz : IR :=
 .seq (.reg [o 3 (.box 5 (.t 1)),
 o 4 (.zero zL3)] false)
 (.seq (.reg [oM 5 0,
 oL 6 5 3,
 o 7 (.build zL3 [(0, 1, .t 5), (1, 5, .t 6)]),
 oS 6 4 7] false)
 (.ret))
def K1r : IFn := ⟨2, 8, [.cell 4 6 true], false, Q1qz⟩
def Q1n9 : IR :=
 .seq (.reg [o 1 (.box 3 (.t 0)),
 o 2 (.zero zL0)] false)
 (.seq (.reg [oF 3 0 1,
 oE 4 1 3 [0],
 oD 5 65 ([.t 4]) [0, 1],
 oD 6 62 ([sA53, .t 5]) [0, 1, 2],
 oF 7 2 1,
 oE 8 1 7 [4],
 oD 9 65 ([.t 8]) (rg 0 6),
 oD 10 62 ([sA1, .t 9]) (rg 0 7),
 oF 11 1 1,
 oE 12 1 11 [8],
 oD 13 65 ([.t 12]) (rg 0 10),
 oD 14 62 ([sA13, .t 13]) (rg 0 11),
 ob 15 (.lit 6 3 zL3 [(0, .t 6), (1, .t 10), (2, .t 14)]) (rg 0 12),
 oD 16 61 ([.t 15]) (rg 0 13),
 ⟨none, none, .store 5 (.t 2) (.t 16), (rg 0 14)⟩] true)
 (.ret))
def K1l : IFn := ⟨1, 17, [.cell 2 5 true], false, Q1n9⟩
def Q1o5 : IR :=
 .seq (.reg [o 2 (.zero zL0)] false)
 (.seq (.reg [o 4 (.build zL0 [(0, 1, .c (.int .i64 1))]),
 o 3 (.zero zL0),
 oS 5 3 4] false)
 (.seq (.seq (.reg [oM 5 0] false)
 (.cond (.t 5) (.reg [oF 6 1 3,
 ⟨none, none, .store 1 (.t 6) (.c (.int .i64 1)), []⟩] false)
 (.skip)))
 (.seq (.reg [oL 7 5 3,
 oS 5 2 7] false)
 (.ret))))
def K3v : IFn := ⟨1, 8, [.cell 2 5 true], false, Q1o5⟩
def Q1ra : IR :=
 .seq (.reg [o 2 (.zero zL0)] false)
 (.seq (.reg [oM 3 0,
 o 4 (.build zL0 [(0, 1, .c (.int .i64 2)), (1, 1, .t 3)]),
 oS 5 2 4] false)
 (.ret))
def K3x : IFn := ⟨1, 5, [.cell 2 5 true], false, Q1ra⟩
def Q1ol : IR :=
 .seq (.reg [o 2 (.zero zL0)] false)
 (.seq (.reg [oM 3 0,
 o 4 (.build zL0 [(0, 1, .c (.int .i64 5)), (4, 1, .t 3)]),
 oS 5 2 4] false)
 (.ret))
def K3b : IFn := ⟨1, 5, [.cell 2 5 true], false, Q1ol⟩
def Q1qk : IR :=
 .seq (.reg [o 3 (.box 5 (.t 1)),
 o 4 (.zero zL3)] false)
 (.seq (.reg [oM 5 0,
 oL 6 5 3,
 o 7 (.build zL3 [(0, 1, .t 5), (1, 5, .t 6)]),
 oS 6 4 7] false)
 (.ret))
def K2w : IFn := ⟨2, 8, [.cell 4 6 true], false, Q1qk⟩
def Q1qu : IR :=
 .seq (.reg [o 1 (.box 3 (.t 0)),
 o 2 (.zero zL0)] false)
 (.seq (.reg [oF 3 0 1,
 oE 4 1 3 [0],
 oD 5 74 ([.t 4]) [0, 1],
 oD 6 71 ([sA53, .t 5]) [0, 1, 2],
 oF 7 2 1,
 oE 8 1 7 [4],
 oD 9 74 ([.t 8]) (rg 0 6),
 oD 10 71 ([sA1, .t 9]) (rg 0 7),
 oF 11 1 1,
 oE 12 1 11 [8],
 oD 13 74 ([.t 12]) (rg 0 10),
 oD 14 71 ([sA13, .t 13]) (rg 0 11),
 ob 15 (.lit 6 3 zL3 [(0, .t 6), (1, .t 10), (2, .t 14)]) (rg 0 12),
 oD 16 70 ([.t 15]) (rg 0 13),
 ⟨none, none, .store 5 (.t 2) (.t 16), (rg 0 14)⟩] true)
 (.ret))
def K33 : IFn := ⟨1, 17, [.cell 2 5 true], false, Q1qu⟩
def Q1rm : IR :=
 .seq (.reg [o 2 (.zero zL0)] false)
 (.seq (.seq (.reg [oM 3 0] false)
 (.cond (.t 3) (.seq (.reg [o 4 (.build zL0 [(0, 1, .c (.int .i64 1)), (1, 1, .c (.int .i64 1))]),
 oS 5 2 4] false)
 (.ret))
 (.skip)))
 (.seq (.reg [o 5 (.build zL0 [(0, 1, .c (.int .i64 1))]),
 oS 5 2 5] false)
 (.ret)))
def K3q : IFn := ⟨1, 6, [.cell 2 5 true], false, Q1rm⟩
def Q1n1 : IR :=
 .seq (.reg [o 2 (.zero zL0)] false)
 (.seq (.reg [oM 3 0,
 o 4 (.build zL0 [(0, 1, .c (.int .i64 2)), (1, 1, .t 3)]),
 oS 5 2 4] false)
 (.ret))
def K3a : IFn := ⟨1, 5, [.cell 2 5 true], false, Q1n1⟩
def Qz6 : List Nat := [100029, 1, 4, 5, 8, 9, 10]
def Q1j6 : IR :=
 .seq (.reg [o 11 (.bin .lss (.t 10) (.t 9))] false)
 (.seq (.cond (.t 11) (.skip)
 (.exit 0))
 (.seq (.block 1 (.seq (.reg [oI 12 2 8 10,
 oL 13 2 12,
 o 7 (.zero [zS, zS]),
 oS 2 7 13] false)
 (.reg [oM 14 5,
 oM 15 1,
 oL 16 2 7,
 o 17 (.call false (.t 15) [.t 16]),
 o 18 (.lit 5 1 zL0 [(0, .t 17)]),
 oJ 19 5 80 14 18,
 oM 5 19] false)))
 (.reg [oA 20 10,
 oM 10 20] false)))
def Q1p3 : IR :=
 .seq (.reg [o 4 (.zero zL0)] false)
 (.seq (.reg [o 5 (.mov (.c (.ns 5)))] false)
 (.seq (.seq (.reg [oM 8 0,
 oN 9 8,
 o 10 (.mov (.c zI))] false)
 (.block 0 (.loop Qz6 Q1j6)))
 (.seq (.reg [oM 21 5,
 oC 22 137 ([.t 21]),
 oS 5 4 22] false)
 (.ret))))
def K23 : IFn := ⟨2, 23, [.cell 4 5 true], false, Q1p3⟩
def Q1n5 : IR :=
 .seq (.reg [o 1 (.box 2 (.t 0)),
 o 2 (.zero zL0)] false)
 (.seq (.reg [oF 3 0 1,
 oE 4 1 3 [0],
 oD 5 109 ([.t 4]) [0, 1],
 oD 6 62 ([sA9, .t 5]) [0, 1, 2],
 oF 7 1 1,
 oE 8 1 7 [4],
 oD 9 109 ([.t 8]) (rg 0 6),
 oD 10 62 ([sA45, .t 9]) (rg 0 7),
 ob 11 (.lit 6 2 zL3 [(0, .t 6), (1, .t 10)]) (rg 0 8),
 oD 12 61 ([.t 11]) (rg 0 9),
 ⟨none, none, .store 5 (.t 2) (.t 12), (rg 0 10)⟩] true)
 (.ret))
def K1g : IFn := ⟨1, 13, [.cell 2 5 true], false, Q1n5⟩
def Qzi : List Nat := [100030, 0, 2, 3, 4]
def Q1l4 : IR :=
 .seq (.seq (.reg [oM 5 4,
 oM 6 0,
 oN 7 6,
 o 8 (.bin .lss (.t 5) (.t 7))] false)
 (.cond (.t 8) (.skip)
 (.exit 0)))
 (.seq (.block 1 (.reg [oM 11 3,
 oM 12 0,
 oM 13 4,
 ob 14 (.iaddr 2 (.t 12) (.t 13)) [1, 2],
 ob 15 (.faddr 0 (.t 14)) [1, 2, 3],
 oE 16 1 15 [1, 2, 3, 4],
 oD 17 125 ([.t 16]) (rg 1 6),
 oD 18 71 ([sA9, .t 17]) (rg 1 7),
 oM 19 0,
 oM 20 4,
 ob 21 (.iaddr 2 (.t 19) (.t 20)) [8, 9],
 ob 22 (.faddr 1 (.t 21)) [8, 9, 10],
 oE 23 1 22 [8, 9, 10, 11],
 oD 24 125 ([.t 23]) (rg 1 13),
 oD 25 71 ([sA45, .t 24]) (rg 1 14),
 ob 26 (.lit 6 2 zL3 [(0, .t 18), (1, .t 25)]) (rg 1 15),
 oD 27 70 ([.t 26]) (rg 1 16),
 ob 28 (.lit 5 1 zL0 [(0, .t 27)]) (rg 1 17),
 ob 29 (.append 5 80 (.t 11) (.t 28)) (rg 0 18),
 ob 3 (.mov (.t 29)) (rg 0 19)] true))
 (.reg [oM 9 4,
 oA 10 9,
 oM 4 10] false))
def Q1q9 : IR :=
 .seq (.reg [o 2 (.zero zL0)] false)
 (.seq (.reg [o 3 (.mov (.c (.ns 5)))] false)
 (.seq (.seq (.reg [o 4 (.mov (.c zI))] false)
 (.block 0 (.loop Qzi Q1l4)))
 (.seq (.reg [oM 30 3,
 oC 31 138 ([.t 30]),
 oS 5 2 31] false)
 (.ret))))
def K2z : IFn := ⟨1, 32, [.cell 2 5 true], false, Q1q9⟩
def Kv_c : IR :=
 .seq (.reg [o 4 (.box 5 (.t 1)),
 o 6 (.mov (.c (zS)))] false)
 (.seq (.reg [oM 7 0,
 oL 8 5 4,
 oM 9 2,
 oC 10 106 ([.t 7, .t 8, .t 9, .c (.int .i64 3)]),
 o 11 (.field 2 1 false (.t 10)),
 oM 6 11] false)
 (.ret))
def Kv : IFn := ⟨3, 12, [.tmp 6], false, Kv_c⟩
def Qkm : List Nat := [100031, 3, 9, 16, 17, 18]
def Q1ev : IR :=
 .seq (.reg [o 19 (.bin .lss (.t 18) (.t 17))] false)
 (.seq (.cond (.t 19) (.skip)
 (.exit 0))
 (.seq (.block 1 (.seq (.reg [oI 20 5 16 18,
 oL 21 5 20,
 o 11 (.zero zL0),
 oS 5 11 21] false)
 (.reg [oM 22 9,
 oM 23 3,
 oL 24 5 11,
 o 25 (.call false (.t 23) [.t 24]),
 o 26 (.lit 11 1 zL5 [(0, .t 25)]),
 oJ 27 11 152 22 26,
 oM 9 27] false)))
 (.reg [oA 28 18,
 oM 18 28] false)))
def Q1p5 : IR :=
 .seq (.reg [o 5 (.box 5 (.t 1)),
 o 8 (.mov (.c (.ns 11)))] false)
 (.seq (.reg [o 9 (.mov (.c (.ns 11)))] false)
 (.seq (.seq (.reg [oM 12 0,
 oL 13 5 5,
 oM 14 2,
 oC 15 106 ([.t 12, .t 13, .t 14, .c (.int .i64 4)]),
 o 16 (.field 3 1 false (.t 15)),
 oN 17 16,
 o 18 (.mov (.c zI))] false)
 (.block 0 (.loop Qkm Q1ev)))
 (.seq (.reg [oM 29 9,
 oM 8 29] false)
 (.ret))))
def K16 : IFn := ⟨4, 30, [.tmp 8], false, Q1p5⟩
def Kg_c : IR :=
 .seq (.reg [o 3 (.box 5 (.t 1)),
 o 4 (.zero zL5)] false)
 (.seq (.reg [oM 5 0,
 oL 6 5 3,
 oC 7 36 ([.t 5, .t 6])] false)
 (.seq (.reg [oM 8 0,
 oL 9 5 3,
 oD 10 84 ([.t 8, .t 9, sA19]) [0, 1],
 oM 11 0,
 oL 12 5 3,
 oD 13 84 ([.t 11, .t 12, sA8]) (rg 0 5),
 oM 14 0,
 oM 15 0,
 oL 16 5 3,
 oD 17 38 ([.t 15, .t 16, sA26]) (rg 0 6 ++ [7, 8]),
 oD 18 37 ([.t 14, .t 17]) (rg 0 10),
 oM 19 0,
 oM 20 0,
 oL 21 5 3,
 oD 22 38 ([.t 20, .t 21, sA10]) (rg 0 11 ++ [12, 13]),
 oD 23 37 ([.t 19, .t 22]) (rg 0 15),
 oM 24 0,
 oL 25 5 3,
 oM 26 0,
 ob 27 (.mkfn 140 [.t 26] []) [18],
 oD 28 139 ([.t 24, .t 25, sA11, .t 27]) (rg 0 20),
 oM 29 0,
 oL 30 5 3,
 oM 31 0,
 ob 32 (.mkfn 140 [.t 31] []) [23],
 oD 33 139 ([.t 29, .t 30, sA31, .t 32]) (rg 0 25),
 oM 34 0,
 oL 35 5 3,
 oM 36 0,
 ob 37 (.mkfn 140 [.t 36] []) [28],
 oD 38 139 ([.t 34, .t 35, sA39, .t 37]) (rg 0 30),
 ob 39 (.build zL5 [(0, 1, .t 10), (1, 1, .t 13), (2, 3, .t 18), (5, 3, .t 23), (8, 1, .t 28), (9, 1, .t 33), (10, 1, .t 38)]) (rg 0 31),
 ⟨none, none, .store 11 (.t 4) (.t 39), (rg 0 32)⟩] true)
 (.ret)))
def Kg : IFn := ⟨2, 40, [.cell 4 11 true], false, Kg_c⟩
def Qmb : List Nat := [100032, 3, 9, 16, 17, 18]
def Q1f6 : IR :=
 .seq (.reg [o 19 (.bin .lss (.t 18) (.t 17))] false)
 (.seq (.cond (.t 19) (.skip)
 (.exit 0))
 (.seq (.block 1 (.seq (.reg [oI 20 5 16 18,
 oL 21 5 20,
 o 11 (.zero zL0),
 oS 5 11 21] false)
 (.reg [oM 22 9,
 oM 23 3,
 oL 24 5 11,
 o 25 (.call false (.t 23) [.t 24]),
 o 26 (.lit 3 1 [zS, zI, .ns 1] [(0, .t 25)]),
 oJ 27 3 48 22 26,
 oM 9 27] false)))
 (.reg [oA 28 18,
 oM 18 28] false)))
def Q1ph : IR :=
 .seq (.reg [o 5 (.box 5 (.t 1)),
 o 8 (.mov (.c (.ns 3)))] false)
 (.seq (.reg [o 9 (.mov (.c (.ns 3)))] false)
 (.seq (.seq (.reg [oM 12 0,
 oL 13 5 5,
 oM 14 2,
 oC 15 106 ([.t 12, .t 13, .t 14, .c (.int .i64 4)]),
 o 16 (.field 3 1 false (.t 15)),
 oN 17 16,
 o 18 (.mov (.c zI))] false)
 (.block 0 (.loop Qmb Q1f6)))
 (.seq (.reg [oM 29 9,
 oM 8 29] false)
 (.ret))))
def K17 : IFn := ⟨4, 30, [.tmp 8], false, Q1ph⟩
def Kq_c : IR :=
 .seq (.reg [o 3 (.box 5 (.t 1)),
 o 4 (.zero [zS, zI, .ns 1])] false)
 (.seq (.reg [oM 5 0,
 oL 6 5 3,
 oC 7 36 ([.t 5, .t 6])] false)
 (.seq (.reg [oM 8 0,
 oL 9 5 3,
 oD 10 84 ([.t 8, .t 9, sA9]) [0, 1],
 oM 11 0,
 oL 12 5 3,
 oD 13 39 ([.t 11, .t 12, sA20]) (rg 0 5),
 oM 14 0,
 oL 15 5 3,
 oM 16 0,
 ob 17 (.mkfn 142 [.t 16] []) [8],
 oD 18 141 ([.t 14, .t 15, sA44, .t 17]) (rg 0 10),
 ob 19 (.build [zS, zI, .ns 1] [(0, 1, .t 10), (1, 1, .t 13), (2, 1, .t 18)]) (rg 0 11),
 ⟨none, none, .store 3 (.t 4) (.t 19), (rg 0 12)⟩] true)
 (.ret)))
def Kq : IFn := ⟨2, 20, [.cell 4 3 true], false, Kq_c⟩
def Qjo : List Nat := [100033, 3, 9, 16, 17, 18]
def Q1f1 : IR :=
 .seq (.reg [o 19 (.bin .lss (.t 18) (.t 17))] false)
 (.seq (.cond (.t 19) (.skip)
 (.exit 0))
 (.seq (.block 1 (.seq (.reg [oI 20 5 16 18,
 oL 21 5 20,
 o 11 (.zero zL0),
 oS 5 11 21] false)
 (.reg [oM 22 9,
 oM 23 3,
 oL 24 5 11,
 o 25 (.call false (.t 23) [.t 24]),
 o 26 (.lit 3 1 [zB, .ns 3, zI] [(0, .t 25)]),
 oJ 27 3 40 22 26,
 oM 9 27] false)))
 (.reg [oA 28 18,
 oM 18 28] false)))
def Q1op : IR :=
 .seq (.reg [o 5 (.box 5 (.t 1)),
 o 8 (.mov (.c (.ns 3)))] false)
 (.seq (.reg [o 9 (.mov (.c (.ns 3)))] false)
 (.seq (.seq (.reg [oM 12 0,
 oL 13 5 5,
 oM 14 2,
 oC 15 106 ([.t 12, .t 13, .t 14, .c (.int .i64 4)]),
 o 16 (.field 3 1 false (.t 15)),
 oN 17 16,
 o 18 (.mov (.c zI))] false)
 (.block 0 (.loop Qjo Q1f1)))
 (.seq (.reg [oM 29 9,
 oM 8 29] false)
 (.ret))))
def K18 : IFn := ⟨4, 30, [.tmp 8], false, Q1op⟩
def Km_c : IR :=
 .seq (.reg [o 3 (.box 5 (.t 1)),
 o 4 (.zero [zB, .ns 3, zI])] false)
 (.seq (.reg [oM 5 0,
 oL 6 5 3,
 oC 7 36 ([.t 5, .t 6])] false)
 (.seq (.reg [oM 8 0,
 oL 9 5 3,
 oD 10 40 ([.t 8, .t 9, sA27]) [0, 1],
 oM 11 0,
 oL 12 5 3,
 oM 13 0,
 ob 14 (.mkfn 88 [.t 13] []) [5],
 oD 15 87 ([.t 11, .t 12, sA33, .t 14]) (rg 0 7),
 oM 16 0,
 oL 17 5 3,
 oD 18 39 ([.t 16, .t 17, sA46]) (rg 0 10),
 ob 19 (.build [zB, .ns 3, zI] [(0, 1, .t 10), (1, 1, .t 15), (2, 1, .t 18)]) (rg 0 11),
 ⟨none, none, .store 3 (.t 4) (.t 19), (rg 0 12)⟩] true)
 (.ret)))
def Km : IFn := ⟨2, 20, [.cell 4 3 true], false, Km_c⟩
def Qlm : List Nat := [100034, 3, 9, 16, 17, 18]
def Q1fc : IR :=
 .seq (.reg [o 19 (.bin .lss (.t 18) (.t 17))] false)
 (.seq (.cond (.t 19) (.skip)
 (.exit 0))
 (.seq (.block 1 (.seq (.reg [oI 20 5 16 18,
 oL 21 5 20,
 o 11 (.zero zL0),
 oS 5 11 21] false)
 (.reg [oM 22 9,
 oM 23 3,
 oL 24 5 11,
 o 25 (.call false (.t 23) [.t 24]),
 o 26 (.lit 5 1 [zB, zB, .ns 3, zS, zI] [(0, .t 25)]),
 oJ 27 5 56 22 26,
 oM 9 27] false)))
 (.reg [oA 28 18,
 oM 18 28] false)))
def Q1nw : IR :=
 .seq (.reg [o 5 (.box 5 (.t 1)),
 o 8 (.mov (.c (.ns 5)))] false)
 (.seq (.reg [o 9 (.mov (.c (.ns 5)))] false)
 (.seq (.seq (.reg [oM 12 0,
 oL 13 5 5,
 oM 14 2,
 oC 15 106 ([.t 12, .t 13, .t 14, .c (.int .i64 4)]),
 o 16 (.field 3 1 false (.t 15)),
 oN 17 16,
 o 18 (.mov (.c zI))] false)
 (.block 0 (.loop Qlm Q1fc)))
 (.seq (.reg [oM 29 9,
 oM 8 29] false)
 (.ret))))
def K19 : IFn := ⟨4, 30, [.tmp 8], false, Q1nw⟩
def Ko_c : IR :=
 .seq (.reg [o 3 (.box 5 (.t 1)),
 o 4 (.zero [zB, zB, .ns 3, zS, zI])] false)
 (.seq (.reg [oM 5 0,
 oL 6 5 3,
 oC 7 36 ([.t 5, .t 6])] false)
 (.seq (.reg [oM 8 0,
 oL 9 5 3,
 oD 10 40 ([.t 8, .t 9, sA27]) [0, 1],
 oM 11 0,
 oL 12 5 3,
 oD 13 40 ([.t 11, .t 12, sA50]) (rg 0 5),
 oM 14 0,
 oL 15 5 3,
 oM 16 0,
 ob 17 (.mkfn 88 [.t 16] []) [8],
 oD 18 87 ([.t 14, .t 15, sA33, .t 17]) (rg 0 10),
 oM 19 0,
 oL 20 5 3,
 oD 21 84 ([.t 19, .t 20, sA43]) (rg 0 13),
 oM 22 0,
 oL 23 5 3,
 oD 24 39 ([.t 22, .t 23, sA46]) (rg 0 16),
 ob 25 (.build [zB, zB, .ns 3, zS, zI] [(0, 1, .t 10), (1, 1, .t 13), (2, 1, .t 18), (3, 1, .t 21), (4, 1, .t 24)]) (rg 0 17),
 ⟨none, none, .store 5 (.t 4) (.t 25), (rg 0 18)⟩] true)
 (.ret)))
def Ko : IFn := ⟨2, 26, [.cell 4 5 true], false, Ko_c⟩
def Qhu : List Nat := [100035, 3, 9, 16, 17, 18]
def Q1em : IR :=
 .seq (.reg [o 19 (.bin .lss (.t 18) (.t 17))] false)
 (.seq (.cond (.t 19) (.skip)
 (.exit 0))
 (.seq (.block 1 (.seq (.reg [oI 20 5 16 18,
 oL 21 5 20,
 o 11 (.zero zL0),
 oS 5 11 21] false)
 (.reg [oM 22 9,
 oM 23 3,
 oL 24 5 11,
 o 25 (.call false (.t 23) [.t 24]),
 o 26 (.lit 4 1 [zI, zS, .ns 3, zB] [(0, .t 25)]),
 oJ 27 4 56 22 26,
 oM 9 27] false)))
 (.reg [oA 28 18,
 oM 18 28] false)))
def Q1ni : IR :=
 .seq (.reg [o 5 (.box 5 (.t 1)),
 o 8 (.mov (.c (.ns 4)))] false)
 (.seq (.reg [o 9 (.mov (.c (.ns 4)))] false)
 (.seq (.seq (.reg [oM 12 0,
 oL 13 5 5,
 oM 14 2,
 oC 15 106 ([.t 12, .t 13, .t 14, .c (.int .i64 4)]),
 o 16 (.field 3 1 false (.t 15)),
 oN 17 16,
 o 18 (.mov (.c zI))] false)
 (.block 0 (.loop Qhu Q1em)))
 (.seq (.reg [oM 29 9,
 oM 8 29] false)
 (.ret))))
def K1a : IFn := ⟨4, 30, [.tmp 8], false, Q1ni⟩
def Kt_c : IR :=
 .seq (.reg [o 3 (.box 5 (.t 1)),
 o 4 (.zero [zI, zS, .ns 3, zB])] false)
 (.seq (.reg [oM 5 0,
 oL 6 5 3,
 oC 7 36 ([.t 5, .t 6])] false)
 (.seq (.reg [oM 8 0,
 oL 9 5 3,
 oD 10 39 ([.t 8, .t 9, sA14]) [0, 1],
 oM 11 0,
 oL 12 5 3,
 oD 13 84 ([.t 11, .t 12, sA43]) (rg 0 5),
 oM 14 0,
 oL 15 5 3,
 oM 16 0,
 ob 17 (.mkfn 88 [.t 16] []) [8],
 oD 18 87 ([.t 14, .t 15, sA33, .t 17]) (rg 0 10),
 oM 19 0,
 oL 20 5 3,
 oD 21 40 ([.t 19, .t 20, sA27]) (rg 0 13),
 ob 22 (.build [zI, zS, .ns 3, zB] [(0, 1, .t 10), (1, 1, .t 13), (2, 1, .t 18), (3, 1, .t 21)]) (rg 0 14),
 ⟨none, none, .store 4 (.t 4) (.t 22), (rg 0 15)⟩] true)
 (.ret)))
def Kt : IFn := ⟨2, 23, [.cell 4 4 true], false, Kt_c⟩
def Qky : List Nat := [100036, 3, 9, 16, 17, 18]
def Q1e2 : IR :=
 .seq (.reg [o 19 (.bin .lss (.t 18) (.t 17))] false)
 (.seq (.cond (.t 19) (.skip)
 (.exit 0))
 (.seq (.block 1 (.seq (.reg [oI 20 5 16 18,
 oL 21 5 20,
 o 11 (.zero zL0),
 oS 5 11 21] false)
 (.reg [oM 22 9,
 oM 23 3,
 oL 24 5 11,
 o 25 (.call false (.t 23) [.t 24]),
 o 26 (.lit 5 1 [zS, zS, zB, zI, zI] [(0, .t 25)]),
 oJ 27 5 56 22 26,
 oM 9 27] false)))
 (.reg [oA 28 18,
 oM 18 28] false)))
def Q1r1 : IR :=
 .seq (.reg [o 5 (.box 5 (.t 1)),
 o 8 (.mov (.c (.ns 5)))] false)
 (.seq (.reg [o 9 (.mov (.c (.ns 5)))] false)
 (.seq (.seq (.reg [oM 12 0,
 oL 13 5 5,
 oM 14 2,
 oC 15 106 ([.t 12, .t 13, .t 14, .c (.int .i64 4)]),
 o 16 (.field 3 1 false (.t 15)),
 oN 17 16,
 o 18 (.mov (.c zI))] false)
 (.block 0 (.loop Qky Q1e2)))
 (.seq (.reg [oM 29 9,
 oM 8 29] false)
 (.ret))))
def K1b : IFn := ⟨4, 30, [.tmp 8], false, Q1r1⟩
def Q1nb : IR :=
 .seq (.reg [o 3 (.box 5 (.t 1)),
 o 4 (.zero [zS, zS, zB, zI, zI])] false)
 (.seq (.reg [oM 5 0,
 oL 6 5 3,
 oC 7 36 ([.t 5, .t 6])] false)
 (.seq (.reg [oM 8 0,
 oL 9 5 3,
 oD 10 84 ([.t 8, .t 9, sA9]) [0, 1],
 oM 11 0,
 oL 12 5 3,
 oD 13 84 ([.t 11, .t 12, sA45]) (rg 0 5),
 oM 14 0,
 oL 15 5 3,
 oD 16 40 ([.t 14, .t 15, sA3]) (rg 0 8),
 oM 17 0,
 oL 18 5 3,
 oD 19 39 ([.t 17, .t 18, sA2]) (rg 0 11),
 oM 20 0,
 oL 21 5 3,
 oD 22 39 ([.t 20, .t 21, sA34]) (rg 0 14),
 ob 23 (.build [zS, zS, zB, zI, zI] [(0, 1, .t 10), (1, 1, .t 13), (2, 1, .t 16), (3, 1, .t 19), (4, 1, .t 22)]) (rg 0 15),
 ⟨none, none, .store 5 (.t 4) (.t 23), (rg 0 16)⟩] true)
 (.ret)))
def K10 : IFn := ⟨2, 24, [.cell 4 5 true], false, Q1nb⟩
def Ql3 : List Nat := [100037, 3, 9, 16, 17, 18]
def Q1fg : IR :=
 .seq (.reg [o 19 (.bin .lss (.t 18) (.t 17))] false)
 (.seq (.cond (.t 19) (.skip)
 (.exit 0))
 (.seq (.block 1 (.seq (.reg [oI 20 5 16 18,
 oL 21 5 20,
 o 11 (.zero zL0),
 oS 5 11 21] false)
 (.reg [oM 22 9,
 oM 23 3,
 oL 24 5 11,
 o 25 (.call false (.t 23) [.t 24]),
 o 26 (.lit 7 1 zL7 [(0, .t 25)]),
 oJ 27 7 56 22 26,
 oM 9 27] false)))
 (.reg [oA 28 18,
 oM 18 28] false)))
def Q1qg : IR :=
 .seq (.reg [o 5 (.box 5 (.t 1)),
 o 8 (.mov (.c (.ns 7)))] false)
 (.seq (.reg [o 9 (.mov (.c (.ns 7)))] false)
 (.seq (.seq (.reg [oM 12 0,
 oL 13 5 5,
 oM 14 2,
 oC 15 106 ([.t 12, .t 13, .t 14, .c (.int .i64 4)]),
 o 16 (.field 3 1 false (.t 15)),
 oN 17 16,
 o 18 (.mov (.c zI))] false)
 (.block 0 (.loop Ql3 Q1fg)))
 (.seq (.reg [oM 29 9,
 oM 8 29] false)
 (.ret))))
def K1c : IFn := ⟨4, 30, [.tmp 8], false, Q1qg⟩
def Kh_c : IR :=
 .seq (.reg [o 3 (.box 5 (.t 1)),
 o 4 (.zero zL7)] false)
 (.seq (.reg [oM 5 0,
 oL 6 5 3,
 oC 7 36 ([.t 5, .t 6])] false)
 (.seq (.reg [oM 8 0,
 oL 9 5 3,
 oD 10 84 ([.t 8, .t 9, sA19]) [0, 1],
 oM 11 0,
 oL 12 5 3,
 oD 13 39 ([.t 11, .t 12, sA40]) (rg 0 5),
 oM 14 0,
 oL 15 5 3,
 oD 16 39 ([.t 14, .t 15, sA28]) (rg 0 8),
 oM 17 0,
 oL 18 5 3,
 oD 19 39 ([.t 17, .t 18, sA4]) (rg 0 11),
 oM 20 0,
 oL 21 5 3,
 oD 22 39 ([.t 20, .t 21, sA35]) (rg 0 14),
 oM 23 0,
 oL 24 5 3,
 oD 25 40 ([.t 23, .t 24, sA31]) (rg 0 17),
 oM 26 0,
 oL 27 5 3,
 oD 28 40 ([.t 26, .t 27, sA38]) (rg 0 20),
 ob 29 (.build zL7 [(0, 1, .t 10), (1, 1, .t 13), (2, 1, .t 16), (3, 1, .t 19), (4, 1, .t 22), (5, 1, .t 25), (6, 1, .t 28)]) (rg 0 21),
 ⟨none, none, .store 7 (.t 4) (.t 29), (rg 0 22)⟩] true)
 (.ret)))
def Kh : IFn := ⟨2, 30, [.cell 4 7 true], false, Kh_c⟩
def Kj_c : IR :=
 .seq (.reg [o 5 (.box 5 (.t 1)),
 o 8 (.zero zL0)] false)
 (.seq (.seq (.reg [oF 11 0 5,
 oK 12 1 11,
 o 13 (.bin .neq (.t 12) (.c (.int .i64 5)))] false)
 (.cond (.t 13) (.seq (.reg [oM 14 0,
 oM 15 0,
 o 16 (.nilck (.t 15)),
 oF 17 0 16,
 oK 18 1 17,
 oM 19 18,
 gF 20 19 (.faddr 0 (.t 5)),
 gF 21 19 (.load 1 false (.t 20)),
 gF 22 19 (.bin .neq (.t 21) (.c zI)),
 oQ 23 19 22,
 o 24 (.nilck (.t 14)),
 oF 25 0 24,
 oS 1 25 23] false)
 (.seq (.reg [o 26 (.build zL0 []),
 oS 5 8 26] false)
 (.ret)))
 (.skip)))
 (.seq (.reg [oL 28 5 5,
 oM 29 2,
 oC 30 145 ([.t 28, .t 29]),
 oM 27 30,
 oX 31 27 0,
 oX 32 27 1,
 o 9 (.zero zL0),
 oS 5 9 31,
 oM 10 32] false)
 (.seq (.seq (.reg [oF 33 0 9,
 oK 34 1 33,
 oM 35 3,
 o 36 (.bin .eql (.t 34) (.t 35))] false)
 (.cond (.t 36) (.seq (.reg [oL 37 5 9,
 oS 5 8 37] false)
 (.ret))
 (.skip)))
 (.seq (.reg [oM 38 0,
 oM 39 0,
 o 40 (.nilck (.t 39)),
 oF 41 0 40,
 oK 42 1 41,
 oM 43 42,
 gF 44 43 (.faddr 0 (.t 9)),
 gF 45 43 (.load 1 false (.t 44)),
 gF 46 43 (.bin .neq (.t 45) (.c zI)),
 oQ 47 43 46,
 o 48 (.nilck (.t 38)),
 oF 49 0 48,
 oS 1 49 47] false)
 (.seq (.reg [o 50 (.build zL0 []),
 oS 5 8 50] false)
 (.ret))))))
def Kj : IFn := ⟨4, 51, [.cell 8 5 true], false, Kj_c⟩
def Qhv : List Nat := [100045, 1, 4, 5, 8, 9, 10]
def Q1f3 : IR :=
 .seq (.reg [o 11 (.bin .lss (.t 10) (.t 9))] false)
 (.seq (.cond (.t 11) (.skip)
 (.exit 0))
 (.seq (.block 1 (.seq (.reg [oI 12 11 8 10,
 oL 13 11 12,
 o 7 (.zero zL5),
 oS 11 7 13] false)
 (.reg [oM 14 5,
 oM 15 1,
 oL 16 11 7,
 o 17 (.call false (.t 15) [.t 16]),
 o 18 (.lit 5 1 zL0 [(0, .t 17)]),
 oJ 19 5 80 14 18,
 oM 5 19] false)))
 (.reg [oA 20 10,
 oM 10 20] false)))
def Q1oj : IR :=
 .seq (.reg [o 4 (.zero zL0)] false)
 (.seq (.reg [o 5 (.mov (.c (.ns 5)))] false)
 (.seq (.seq (.reg [oM 8 0,
 oN 9 8,
 o 10 (.mov (.c zI))] false)
 (.block 0 (.loop Qhv Q1f3)))
 (.seq (.reg [oM 21 5,
 oC 22 137 ([.t 21]),
 oS 5 4 22] false)
 (.ret))))
def K1t : IFn := ⟨2, 23, [.cell 4 5 true], false, Q1oj⟩
def Q1pz : IR :=
 .seq (.reg [o 1 (.box 11 (.t 0)),
 o 2 (.zero zL0)] false)
 (.seq (.reg [oF 3 1 1,
 oE 4 1 3 [0],
 oD 5 109 ([.t 4]) [0, 1],
 oD 6 62 ([sA8, .t 5]) [0, 1, 2],
 oF 7 5 1,
 ob 8 (.load 3 true (.t 7)) [4],
 oD 9 63 ([.t 8]) (rg 0 6),
 oD 10 62 ([sA10, .t 9]) (rg 0 7),
 oF 11 8 1,
 oE 12 1 11 [8],
 oD 13 146 ([.t 12, .f 147]) (rg 0 10),
 oD 14 62 ([sA11, .t 13]) (rg 0 11),
 oF 15 0 1,
 oE 16 1 15 [12],
 oD 17 109 ([.t 16]) (rg 0 14),
 oD 18 62 ([sA19, .t 17]) (rg 0 15),
 oF 19 9 1,
 oE 20 1 19 [16],
 oD 21 146 ([.t 20, .f 147]) (rg 0 18),
 oD 22 62 ([sA31, .t 21]) (rg 0 19),
 oF 23 2 1,
 ob 24 (.load 3 true (.t 23)) [20],
 oD 25 63 ([.t 24]) (rg 0 22),
 oD 26 62 ([sA26, .t 25]) (rg 0 23),
 oF 27 10 1,
 oE 28 1 27 [24],
 oD 29 146 ([.t 28, .f 147]) (rg 0 26),
 oD 30 62 ([sA39, .t 29]) (rg 0 27),
 ob 31 (.lit 6 7 zL3 [(0, .t 6), (1, .t 10), (2, .t 14), (3, .t 18), (4, .t 22), (5, .t 26), (6, .t 30)]) (rg 0 28),
 oD 32 61 ([.t 31]) (rg 0 29),
 ⟨none, none, .store 5 (.t 2) (.t 32), (rg 0 30)⟩] true)
 (.ret))
def K1d : IFn := ⟨1, 33, [.cell 2 5 true], false, Q1pz⟩
def Q1qi : IR :=
 .seq (.reg [o 2 (.zero zL0)] false)
 (.seq (.reg [oM 3 0,
 o 4 (.build zL0 [(0, 1, .c (.int .i64 3)), (2, 1, .t 3)]),
 oS 5 2 4] false)
 (.ret))
def K41 : IFn := ⟨1, 5, [.cell 2 5 true], false, Q1qi⟩
def Qjz : List Nat := [100046, 1, 4, 5, 8, 9, 10]
def Q1dy : IR :=
 .seq (.reg [o 11 (.bin .lss (.t 10) (.t 9))] false)
 (.seq (.cond (.t 11) (.skip)
 (.exit 0))
 (.seq (.block 1 (.seq (.reg [oI 12 3 8 10,
 oL 13 3 12,
 o 7 (.zero [zS, zI, .ns 1]),
 oS 3 7 13] false)
 (.reg [oM 14 5,
 oM 15 1,
 oL 16 3 7,
 o 17 (.call false (.t 15) [.t 16]),
 o 18 (.lit 5 1 zL0 [(0, .t 17)]),
 oJ 19 5 80 14 18,
 oM 5 19] false)))
 (.reg [oA 20 10,
 oM 10 20] false)))
def Q1mr : IR :=
 .seq (.reg [o 4 (.zero zL0)] false)
 (.seq (.reg [o 5 (.mov (.c (.ns 5)))] false)
 (.seq (.seq (.reg [oM 8 0,
 oN 9 8,
 o 10 (.mov (.c zI))] false)
 (.block 0 (.loop Qjz Q1dy)))
 (.seq (.reg [oM 21 5,
 oC 22 137 ([.t 21]),
 oS 5 4 22] false)
 (.ret))))
def K1u : IFn := ⟨2, 23, [.cell 4 5 true], false, Q1mr⟩
def Q1qo : IR :=
 .seq (.reg [o 1 (.box 3 (.t 0)),
 o 2 (.zero zL0)] false)
 (.seq (.reg [oF 3 0 1,
 oE 4 1 3 [0],
 oD 5 109 ([.t 4]) [0, 1],
 oD 6 62 ([sA9, .t 5]) [0, 1, 2],
 oF 7 1 1,
 oE 8 1 7 [4],
 oD 9 65 ([.t 8]) (rg 0 6),
 oD 10 62 ([sA20, .t 9]) (rg 0 7),
 oF 11 2 1,
 oE 12 1 11 [8],
 oD 13 148 ([.t 12, .f 109]) (rg 0 10),
 oD 14 62 ([sA44, .t 13]) (rg 0 11),
 ob 15 (.lit 6 3 zL3 [(0, .t 6), (1, .t 10), (2, .t 14)]) (rg 0 12),
 oD 16 61 ([.t 15]) (rg 0 13),
 ⟨none, none, .store 5 (.t 2) (.t 16), (rg 0 14)⟩] true)
 (.ret))
def K1k : IFn := ⟨1, 17, [.cell 2 5 true], false, Q1qo⟩
def Qm4 : List Nat := [100047, 1, 4, 5, 8, 9, 10]
def Q1e7 : IR :=
 .seq (.reg [o 11 (.bin .lss (.t 10) (.t 9))] false)
 (.seq (.cond (.t 11) (.skip)
 (.exit 0))
 (.seq (.block 1 (.seq (.reg [oI 12 3 8 10,
 oL 13 3 12,
 o 7 (.zero [zB, .ns 3, zI]),
 oS 3 7 13] false)
 (.reg [oM 14 5,
 oM 15 1,
 oL 16 3 7,
 o 17 (.call false (.t 15) [.t 16]),
 o 18 (.lit 5 1 zL0 [(0, .t 17)]),
 oJ 19 5 80 14 18,
 oM 5 19] false)))
 (.reg [oA 20 10,
 oM 10 20] false)))
def Q1mw : IR :=
 .seq (.reg [o 4 (.zero zL0)] false)
 (.seq (.reg [o 5 (.mov (.c (.ns 5)))] false)
 (.seq (.seq (.reg [oM 8 0,
 oN 9 8,
 o 10 (.mov (.c zI))] false)
 (.block 0 (.loop Qm4 Q1e7)))
 (.seq (.reg [oM 21 5,
 oC 22 137 ([.t 21]),
 oS 5 4 22] false)
 (.ret))))
def K1v : IFn := ⟨2, 23, [.cell 4 5 true], false, Q1mw⟩
def Q1no : IR :=
 .seq (.reg [o 1 (.box 3 (.t 0)),
 o 2 (.zero zL0)] false)
 (.seq (.reg [oF 3 0 1,
 oE 4 1 3 [0],
 oD 5 64 ([.t 4]) [0, 1],
 oD 6 62 ([sA27, .t 5]) [0, 1, 2],
 oF 7 1 1,
 oE 8 1 7 [4],
 oD 9 110 ([.t 8, .f 111]) (rg 0 6),
 oD 10 62 ([sA33, .t 9]) (rg 0 7),
 oF 11 2 1,
 oE 12 1 11 [8],
 oD 13 65 ([.t 12]) (rg 0 10),
 oD 14 62 ([sA46, .t 13]) (rg 0 11),
 ob 15 (.lit 6 3 zL3 [(0, .t 6), (1, .t 10), (2, .t 14)]) (rg 0 12),
 oD 16 61 ([.t 15]) (rg 0 13),
 ⟨none, none, .store 5 (.t 2) (.t 16), (rg 0 14)⟩] true)
 (.ret))
def K1h : IFn := ⟨1, 17, [.cell 2 5 true], false, Q1no⟩
def Ql4 : List Nat := [100048, 1, 4, 5, 8, 9, 10]
def Q1ef : IR :=
 .seq (.reg [o 11 (.bin .lss (.t 10) (.t 9))] false)
 (.seq (.cond (.t 11) (.skip)
 (.exit 0))
 (.seq (.block 1 (.seq (.reg [oI 12 5 8 10,
 oL 13 5 12,
 o 7 (.zero [zB, zB, .ns 3, zS, zI]),
 oS 5 7 13] false)
 (.reg [oM 14 5,
 oM 15 1,
 oL 16 5 7,
 o 17 (.call false (.t 15) [.t 16]),
 o 18 (.lit 5 1 zL0 [(0, .t 17)]),
 oJ 19 5 80 14 18,
 oM 5 19] false)))
 (.reg [oA 20 10,
 oM 10 20] false)))
def Q1rg : IR :=
 .seq (.reg [o 4 (.zero zL0)] false)
 (.seq (.reg [o 5 (.mov (.c (.ns 5)))] false)
 (.seq (.seq (.reg [oM 8 0,
 oN 9 8,
 o 10 (.mov (.c zI))] false)
 (.block 0 (.loop Ql4 Q1ef)))
 (.seq (.reg [oM 21 5,
 oC 22 137 ([.t 21]),
 oS 5 4 22] false)
 (.ret))))
def K1w : IFn := ⟨2, 23, [.cell 4 5 true], false, Q1rg⟩
def Q1ln : IR :=
 .seq (.reg [o 1 (.box 5 (.t 0)),
 o 2 (.zero zL0)] false)
 (.seq (.reg [oF 3 1 1,
 oE 4 1 3 [0],
 oD 5 64 ([.t 4]) [0, 1],
 oD 6 62 ([sA50, .t 5]) [0, 1, 2],
 oF 7 0 1,
 oE 8 1 7 [4],
 oD 9 64 ([.t 8]) (rg 0 6),
 oD 10 62 ([sA27, .t 9]) (rg 0 7),
 oF 11 2 1,
 oE 12 1 11 [8],
 oD 13 110 ([.t 12, .f 111]) (rg 0 10),
 oD 14 62 ([sA33, .t 13]) (rg 0 11),
 oF 15 3 1,
 oE 16 1 15 [12],
 oD 17 109 ([.t 16]) (rg 0 14),
 oD 18 62 ([sA43, .t 17]) (rg 0 15),
 oF 19 4 1,
 oE 20 1 19 [16],
 oD 21 65 ([.t 20]) (rg 0 18),
 oD 22 62 ([sA46, .t 21]) (rg 0 19),
 ob 23 (.lit 6 5 zL3 [(0, .t 6), (1, .t 10), (2, .t 14), (3, .t 18), (4, .t 22)]) (rg 0 20),
 oD 24 61 ([.t 23]) (rg 0 21),
 ⟨none, none, .store 5 (.t 2) (.t 24), (rg 0 22)⟩] true)
 (.ret))
def K1i : IFn := ⟨1, 25, [.cell 2 5 true], false, Q1ln⟩
def Qjv : List Nat := [100049, 1, 4, 5, 8, 9, 10]
def Q1f8 : IR :=
 .seq (.reg [o 11 (.bin .lss (.t 10) (.t 9))] false)
 (.seq (.cond (.t 11) (.skip)
 (.exit 0))
 (.seq (.block 1 (.seq (.reg [oI 12 4 8 10,
 oL 13 4 12,
 o 7 (.zero [zI, zS, .ns 3, zB]),
 oS 4 7 13] false)
 (.reg [oM 14 5,
 oM 15 1,
 oL 16 4 7,
 o 17 (.call false (.t 15) [.t 16]),
 o 18 (.lit 5 1 zL0 [(0, .t 17)]),
 oJ 19 5 80 14 18,
 oM 5 19] false)))
 (.reg [oA 20 10,
 oM 10 20] false)))
def Q1nq : IR :=
 .seq (.reg [o 4 (.zero zL0)] false)
 (.seq (.reg [o 5 (.mov (.c (.ns 5)))] false)
 (.seq (.seq (.reg [oM 8 0,
 oN 9 8,
 o 10 (.mov (.c zI))] false)
 (.block 0 (.loop Qjv Q1f8)))
 (.seq (.reg [oM 21 5,
 oC 22 137 ([.t 21]),
 oS 5 4 22] false)
 (.ret))))
def K1x : IFn := ⟨2, 23, [.cell 4 5 true], false, Q1nq⟩
def Q1pv : IR :=
 .seq (.reg [o 1 (.box 4 (.t 0)),
 o 2 (.zero zL0)] false)
 (.seq (.reg [oF 3 0 1,
 oE 4 1 3 [0],
 oD 5 65 ([.t 4]) [0, 1],
 oD 6 62 ([sA14, .t 5]) [0, 1, 2],
 oF 7 3 1,
 oE 8 1 7 [4],
 oD 9 64 ([.t 8]) (rg 0 6),
 oD 10 62 ([sA27, .t 9]) (rg 0 7),
 oF 11 2 1,
 oE 12 1 11 [8],
 oD 13 110 ([.t 12, .f 111]) (rg 0 10),
 oD 14 62 ([sA33, .t 13]) (rg 0 11),
 oF 15 1 1,
 oE 16 1 15 [12],
 oD 17 109 ([.t 16]) (rg 0 14),
 oD 18 62 ([sA43, .t 17]) (rg 0 15),
 ob 19 (.lit 6 4 zL3 [(0, .t 6), (1, .t 10), (2, .t 14), (3, .t 18)]) (rg 0 16),
 oD 20 61 ([.t 19]) (rg 0 17),
 ⟨none, none, .store 5 (.t 2) (.t 20), (rg 0 18)⟩] true)
 (.ret))
def K1n : IFn := ⟨1, 21, [.cell 2 5 true], false, Q1pv⟩
def Qkn : List Nat := [100050, 1, 4, 5, 8, 9, 10]
def Q1ex : IR :=
 .seq (.reg [o 11 (.bin .lss (.t 10) (.t 9))] false)
 (.seq (.cond (.t 11) (.skip)
 (.exit 0))
 (.seq (.block 1 (.seq (.reg [oI 12 5 8 10,
 oL 13 5 12,
 o 7 (.zero [zS, zS, zB, zI, zI]),
 oS 5 7 13] false)
 (.reg [oM 14 5,
 oM 15 1,
 oL 16 5 7,
 o 17 (.call false (.t 15) [.t 16]),
 o 18 (.lit 5 1 zL0 [(0, .t 17)]),
 oJ 19 5 80 14 18,
 oM 5 19] false)))
 (.reg [oA 20 10,
 oM 10 20] false)))
def Q1ls : IR :=
 .seq (.reg [o 4 (.zero zL0)] false)
 (.seq (.reg [o 5 (.mov (.c (.ns 5)))] false)
 (.seq (.seq (.reg [oM 8 0,
 oN 9 8,
 o 10 (.mov (.c zI))] false)
 (.block 0 (.loop Qkn Q1ex)))
 (.seq (.reg [oM 21 5,
 oC 22 137 ([.t 21]),
 oS 5 4 22] false)
 (.ret))))
def K1y : IFn := ⟨2, 23, [.cell 4 5 true], false, Q1ls⟩
def Q1pb : IR :=
 .seq (.reg [o 1 (.box 5 (.t 0)),
 o 2 (.zero zL0)] false)
 (.seq (.reg [oF 3 3 1,
 oE 4 1 3 [0],
 oD 5 65 ([.t 4]) [0, 1],
 oD 6 62 ([sA2, .t 5]) [0, 1, 2],
 oF 7 2 1,
 oE 8 1 7 [4],
 oD 9 64 ([.t 8]) (rg 0 6),
 oD 10 62 ([sA3, .t 9]) (rg 0 7),
 oF 11 0 1,
 oE 12 1 11 [8],
 oD 13 109 ([.t 12]) (rg 0 10),
 oD 14 62 ([sA9, .t 13]) (rg 0 11),
 oF 15 4 1,
 oE 16 1 15 [12],
 oD 17 65 ([.t 16]) (rg 0 14),
 oD 18 62 ([sA34, .t 17]) (rg 0 15),
 oF 19 1 1,
 oE 20 1 19 [16],
 oD 21 109 ([.t 20]) (rg 0 18),
 oD 22 62 ([sA45, .t 21]) (rg 0 19),
 ob 23 (.lit 6 5 zL3 [(0, .t 6), (1, .t 10), (2, .t 14), (3, .t 18), (4, .t 22)]) (rg 0 20),
 oD 24 61 ([.t 23]) (rg 0 21),
 ⟨none, none, .store 5 (.t 2) (.t 24), (rg 0 22)⟩] true)
 (.ret))
def K1q : IFn := ⟨1, 25, [.cell 2 5 true], false, Q1pb⟩
def Qkz : List Nat := [100051, 1, 4, 5, 8, 9, 10]
def Q1en : IR :=
 .seq (.reg [o 11 (.bin .lss (.t 10) (.t 9))] false)
 (.seq (.cond (.t 11) (.skip)
 (.exit 0))
 (.seq (.block 1 (.seq (.reg [oI 12 7 8 10,
 oL 13 7 12,
 o 7 (.zero zL7),
 oS 7 7 13] false)
 (.reg [oM 14 5,
 oM 15 1,
 oL 16 7 7,
 o 17 (.call false (.t 15) [.t 16]),
 o 18 (.lit 5 1 zL0 [(0, .t 17)]),
 oJ 19 5 80 14 18,
 oM 5 19] false)))
 (.reg [oA 20 10,
 oM 10 20] false)))
def Q1r7 : IR :=
 .seq (.reg [o 4 (.zero zL0)] false)
 (.seq (.reg [o 5 (.mov (.c (.ns 5)))] false)
 (.seq (.seq (.reg [oM 8 0,
 oN 9 8,
 o 10 (.mov (.c zI))] false)
 (.block 0 (.loop Qkz Q1en)))
 (.seq (.reg [oM 21 5,
 oC 22 137 ([.t 21]),
 oS 5 4 22] false)
 (.ret))))
def K1z : IFn := ⟨2, 23, [.cell 4 5 true], false, Q1r7⟩
def Q1lz : IR :=
 .seq (.reg [o 1 (.box 7 (.t 0)),
 o 2 (.zero zL0)] false)
 (.seq (.reg [oF 3 3 1,
 oE 4 1 3 [0],
 oD 5 65 ([.t 4]) [0, 1],
 oD 6 62 ([sA4, .t 5]) [0, 1, 2],
 oF 7 0 1,
 oE 8 1 7 [4],
 oD 9 109 ([.t 8]) (rg 0 6),
 oD 10 62 ([sA19, .t 9]) (rg 0 7),
 oF 11 5 1,
 oE 12 1 11 [8],
 oD 13 64 ([.t 12]) (rg 0 10),
 oD 14 62 ([sA31, .t 13]) (rg 0 11),
 oF 15 2 1,
 oE 16 1 15 [12],
 oD 17 65 ([.t 16]) (rg 0 14),
 oD 18 62 ([sA28, .t 17]) (rg 0 15),
 oF 19 4 1,
 oE 20 1 19 [16],
 oD 21 65 ([.t 20]) (rg 0 18),
 oD 22 62 ([sA35, .t 21]) (rg 0 19),
 oF 23 6 1,
 oE 24 1 23 [20],
 oD 25 64 ([.t 24]) (rg 0 22),
 oD 26 62 ([sA38, .t 25]) (rg 0 23),
 oF 27 1 1,
 oE 28 1 27 [24],
 oD 29 65 ([.t 28]) (rg 0 26),
 oD 30 62 ([sA40, .t 29]) (rg 0 27),
 ob 31 (.lit 6 7 zL3 [(0, .t 6), (1, .t 10), (2, .t 14), (3, .t 18), (4, .t 22), (5, .t 26), (6, .t 30)]) (rg 0 28),
 oD 32 61 ([.t 31]) (rg 0 29),
 ⟨none, none, .store 5 (.t 2) (.t 32), (rg 0 30)⟩] true)
 (.ret))
def K1e : IFn := ⟨1, 33, [.cell 2 5 true], false, Q1lz⟩
def Qhx : List Nat := [100052, 0, 1, 5]
def Q1e1 : IR :=
 .seq (.seq (.reg [oM 11 5,
 oM 12 0,
 oN 13 12,
 o 14 (.bin .lss (.t 11) (.t 13))] false)
 (.cond (.t 14) (.skip)
 (.exit 0)))
 (.seq (.block 1 (.seq (.reg [oM 17 0,
 oM 18 5,
 ob 19 (.iaddr 2 (.t 17) (.t 18)) [0, 1],
 ob 20 (.load 2 true (.t 19)) [0, 1, 2],
 oM 21 1,
 oM 22 5,
 ob 23 (.iaddr 2 (.t 21) (.t 22)) [4, 5],
 ob 24 (.load 2 true (.t 23)) [4, 5, 6],
 ob 25 (.eqs (.st [(0, 1, .str), (1, 1, .str)]) true (.t 20) (.t 24)) (rg 0 8)] true)
 (.cond (.t 25) (.seq (.reg [o 4 (.mov (.c zB))] false)
 (.ret))
 (.skip))))
 (.reg [oM 15 5,
 oA 16 15,
 oM 5 16] false))
def Q1lo : IR :=
 .seq (.reg [o 4 (.mov (.c zB))] false)
 (.seq (.seq (.reg [oM 6 0,
 oN 7 6,
 oM 8 1,
 oN 9 8,
 o 10 (.bin .neq (.t 7) (.t 9))] false)
 (.cond (.t 10) (.seq (.reg [o 4 (.mov (.c zB))] false)
 (.ret))
 (.skip)))
 (.seq (.seq (.reg [o 5 (.mov (.c zI))] false)
 (.block 0 (.loop Qhx Q1e1)))
 (.seq (.reg [o 4 (.mov (.c (.bool true)))] false)
 (.ret))))
def K24 : IFn := ⟨2, 26, [.tmp 4], false, Q1lo⟩
def Qk7 : List Nat := [100053, 0, 1, 5]
def Q1e0 : IR :=
 .seq (.seq (.reg [oM 11 5,
 oM 12 0,
 oN 13 12,
 o 14 (.bin .lss (.t 11) (.t 13))] false)
 (.cond (.t 14) (.skip)
 (.exit 0)))
 (.seq (.block 1 (.seq (.reg [oM 17 0,
 oM 18 5,
 ob 19 (.iaddr 1 (.t 17) (.t 18)) [0, 1],
 oE 20 1 19 [0, 1, 2],
 oM 21 1,
 oM 22 5,
 ob 23 (.iaddr 1 (.t 21) (.t 22)) [4, 5],
 oE 24 1 23 [4, 5, 6],
 ob 25 (.bin .neq (.t 20) (.t 24)) (rg 0 8)] true)
 (.cond (.t 25) (.seq (.reg [o 4 (.mov (.c zB))] false)
 (.ret))
 (.skip))))
 (.reg [oM 15 5,
 oA 16 15,
 oM 5 16] false))
def Q1mi : IR :=
 .seq (.reg [o 4 (.mov (.c zB))] false)
 (.seq (.seq (.reg [oM 6 0,
 oN 7 6,
 oM 8 1,
 oN 9 8,
 o 10 (.bin .neq (.t 7) (.t 9))] false)
 (.cond (.t 10) (.seq (.reg [o 4 (.mov (.c zB))] false)
 (.ret))
 (.skip)))
 (.seq (.seq (.reg [o 5 (.mov (.c zI))] false)
 (.block 0 (.loop Qk7 Q1e0)))
 (.seq (.reg [o 4 (.mov (.c (.bool true)))] false)
 (.ret))))
def K25 : IFn := ⟨2, 26, [.tmp 4], false, Q1mi⟩
def Qms : List Nat := [100054, 0, 2, 3, 4]
def Q1e9 : IR :=
 .seq (.seq (.reg [oM 6 4,
 oM 7 0,
 oN 8 7,
 o 9 (.bin .lss (.t 6) (.t 8))] false)
 (.cond (.t 9) (.skip)
 (.exit 0)))
 (.seq (.block 1 (.seq (.reg [oM 12 0,
 oM 13 4,
 oI 14 11 12 13,
 oL 15 11 14,
 o 5 (.zero zL5),
 oS 11 5 15] false)
 (.reg [oM 16 3,
 oF 17 1 5,
 oE 18 1 17 [1],
 oD 19 125 ([.t 18]) [1, 2],
 oD 20 71 ([sA8, .t 19]) [1, 2, 3],
 oF 21 5 5,
 ob 22 (.load 3 true (.t 21)) [5],
 oD 23 72 ([.t 22]) (rg 1 7),
 oD 24 71 ([sA10, .t 23]) (rg 1 8),
 oF 25 8 5,
 oE 26 1 25 [9],
 oD 27 149 ([.t 26]) (rg 1 11),
 oD 28 71 ([sA11, .t 27]) (rg 1 12),
 oF 29 0 5,
 oE 30 1 29 [13],
 oD 31 125 ([.t 30]) (rg 1 15),
 oD 32 71 ([sA19, .t 31]) (rg 1 16),
 oF 33 9 5,
 oE 34 1 33 [17],
 oD 35 149 ([.t 34]) (rg 1 19),
 oD 36 71 ([sA31, .t 35]) (rg 1 20),
 oF 37 2 5,
 ob 38 (.load 3 true (.t 37)) [21],
 oD 39 72 ([.t 38]) (rg 1 23),
 oD 40 71 ([sA26, .t 39]) (rg 1 24),
 oF 41 10 5,
 oE 42 1 41 [25],
 oD 43 149 ([.t 42]) (rg 1 27),
 oD 44 71 ([sA39, .t 43]) (rg 1 28),
 ob 45 (.lit 6 7 zL3 [(0, .t 20), (1, .t 24), (2, .t 28), (3, .t 32), (4, .t 36), (5, .t 40), (6, .t 44)]) (rg 1 29),
 oD 46 70 ([.t 45]) (rg 1 30),
 ob 47 (.lit 5 1 zL0 [(0, .t 46)]) (rg 1 31),
 ob 48 (.append 5 80 (.t 16) (.t 47)) (rg 0 32),
 ob 3 (.mov (.t 48)) (rg 0 33)] true)))
 (.reg [oM 10 4,
 oA 11 10,
 oM 4 11] false))
def Q1nv : IR :=
 .seq (.reg [o 2 (.zero zL0)] false)
 (.seq (.reg [o 3 (.mov (.c (.ns 5)))] false)
 (.seq (.seq (.reg [o 4 (.mov (.c zI))] false)
 (.block 0 (.loop Qms Q1e9)))
 (.seq (.reg [oM 49 3,
 oC 50 138 ([.t 49]),
 oS 5 2 50] false)
 (.ret))))
def K2x : IFn := ⟨1, 51, [.cell 2 5 true], false, Q1nv⟩
def Q1r0 : IR :=
 .seq (.reg [o 2 (.zero zL0)] false)
 (.seq (.reg [oM 3 0,
 o 4 (.build zL0 [(0, 1, .c (.int .i64 3)), (2, 1, .t 3)]),
 oS 5 2 4] false)
 (.ret))
def K3c : IFn := ⟨1, 5, [.cell 2 5 true], false, Q1r0⟩
def Qk0 : List Nat := [100055, 0, 2, 3, 4]
def Q1fa : IR :=
 .seq (.seq (.reg [oM 5 4,
 oM 6 0,
 oN 7 6,
 o 8 (.bin .lss (.t 5) (.t 7))] false)
 (.cond (.t 8) (.skip)
 (.exit 0)))
 (.seq (.block 1 (.reg [oM 11 3,
 oM 12 0,
 oM 13 4,
 ob 14 (.iaddr 3 (.t 12) (.t 13)) [1, 2],
 ob 15 (.faddr 0 (.t 14)) [1, 2, 3],
 oE 16 1 15 [1, 2, 3, 4],
 oD 17 125 ([.t 16]) (rg 1 6),
 oD 18 71 ([sA9, .t 17]) (rg 1 7),
 oM 19 0,
 oM 20 4,
 ob 21 (.iaddr 3 (.t 19) (.t 20)) [8, 9],
 ob 22 (.faddr 1 (.t 21)) [8, 9, 10],
 oE 23 1 22 [8, 9, 10, 11],
 oD 24 74 ([.t 23]) (rg 1 13),
 oD 25 71 ([sA20, .t 24]) (rg 1 14),
 oM 26 0,
 oM 27 4,
 ob 28 (.iaddr 3 (.t 26) (.t 27)) [15, 16],
 ob 29 (.faddr 2 (.t 28)) [15, 16, 17],
 oE 30 1 29 [15, 16, 17, 18],
 oD 31 150 ([.t 30]) (rg 1 20),
 oD 32 71 ([sA44, .t 31]) (rg 1 21),
 ob 33 (.lit 6 3 zL3 [(0, .t 18), (1, .t 25), (2, .t 32)]) (rg 1 22),
 oD 34 70 ([.t 33]) (rg 1 23),
 ob 35 (.lit 5 1 zL0 [(0, .t 34)]) (rg 1 24),
 ob 36 (.append 5 80 (.t 11) (.t 35)) (rg 0 25),
 ob 3 (.mov (.t 36)) (rg 0 26)] true))
 (.reg [oM 9 4,
 oA 10 9,
 oM 4 10] false))
def Q1pq : IR :=
 .seq (.reg [o 2 (.zero zL0)] false)
 (.seq (.reg [o 3 (.mov (.c (.ns 5)))] false)
 (.seq (.seq (.reg [o 4 (.mov (.c zI))] false)
 (.block 0 (.loop Qk0 Q1fa)))
 (.seq (.reg [oM 37 3,
 oC 38 138 ([.t 37]),
 oS 5 2 38] false)
 (.ret))))
def K2c : IFn := ⟨1, 39, [.cell 2 5 true], false, Q1pq⟩
def Qmk : List Nat := [100056, 0, 2, 3, 4]
def Q1e6 : IR :=
 .seq (.seq (.reg [oM 5 4,
 oM 6 0,
 oN 7 6,
 o 8 (.bin .lss (.t 5) (.t 7))] false)
 (.cond (.t 8) (.skip)
 (.exit 0)))
 (.seq (.block 1 (.reg [oM 11 3,
 oM 12 0,
 oM 13 4,
 ob 14 (.iaddr 3 (.t 12) (.t 13)) [1, 2],
 ob 15 (.faddr 0 (.t 14)) [1, 2, 3],
 oE 16 1 15 [1, 2, 3, 4],
 oD 17 73 ([.t 16]) (rg 1 6),
 oD 18 71 ([sA27, .t 17]) (rg 1 7),
 oM 19 0,
 oM 20 4,
 ob 21 (.iaddr 3 (.t 19) (.t 20)) [8, 9],
 ob 22 (.faddr 1 (.t 21)) [8, 9, 10],
 oE 23 1 22 [8, 9, 10, 11],
 oD 24 126 ([.t 23]) (rg 1 13),
 oD 25 71 ([sA33, .t 24]) (rg 1 14),
 oM 26 0,
 oM 27 4,
 ob 28 (.iaddr 3 (.t 26) (.t 27)) [15, 16],
 ob 29 (.faddr 2 (.t 28)) [15, 16, 17],
 oE 30 1 29 [15, 16, 17, 18],
 oD 31 74 ([.t 30]) (rg 1 20),
 oD 32 71 ([sA46, .t 31]) (rg 1 21),
 ob 33 (.lit 6 3 zL3 [(0, .t 18), (1, .t 25), (2, .t 32)]) (rg 1 22),
 oD 34 70 ([.t 33]) (rg 1 23),
 ob 35 (.lit 5 1 zL0 [(0, .t 34)]) (rg 1 24),
 ob 36 (.append 5 80 (.t 11) (.t 35)) (rg 0 25),
 ob 3 (.mov (.t 36)) (rg 0 26)] true))
 (.reg [oM 9 4,
 oA 10 9,
 oM 4 10] false))
def Q1ri : IR :=
 .seq (.reg [o 2 (.zero zL0)] false)
 (.seq (.reg [o 3 (.mov (.c (.ns 5)))] false)
 (.seq (.seq (.reg [o 4 (.mov (.c zI))] false)
 (.block 0 (.loop Qmk Q1e6)))
 (.seq (.reg [oM 37 3,
 oC 38 138 ([.t 37]),
 oS 5 2 38] false)
 (.ret))))
def K30 : IFn := ⟨1, 39, [.cell 2 5 true], false, Q1ri⟩
def Qi8 : List Nat := [100057, 0, 2, 3, 4]
def Q1f9 : IR :=
 .seq (.seq (.reg [oM 5 4,
 oM 6 0,
 oN 7 6,
 o 8 (.bin .lss (.t 5) (.t 7))] false)
 (.cond (.t 8) (.skip)
 (.exit 0)))
 (.seq (.block 1 (.reg [oM 11 3,
 oM 12 0,
 oM 13 4,
 ob 14 (.iaddr 5 (.t 12) (.t 13)) [1, 2],
 ob 15 (.faddr 1 (.t 14)) [1, 2, 3],
 oE 16 1 15 [1, 2, 3, 4],
 oD 17 73 ([.t 16]) (rg 1 6),
 oD 18 71 ([sA50, .t 17]) (rg 1 7),
 oM 19 0,
 oM 20 4,
 ob 21 (.iaddr 5 (.t 19) (.t 20)) [8, 9],
 ob 22 (.faddr 0 (.t 21)) [8, 9, 10],
 oE 23 1 22 [8, 9, 10, 11],
 oD 24 73 ([.t 23]) (rg 1 13),
 oD 25 71 ([sA27, .t 24]) (rg 1 14),
 oM 26 0,
 oM 27 4,
 ob 28 (.iaddr 5 (.t 26) (.t 27)) [15, 16],
 ob 29 (.faddr 2 (.t 28)) [15, 16, 17],
 oE 30 1 29 [15, 16, 17, 18],
 oD 31 126 ([.t 30]) (rg 1 20),
 oD 32 71 ([sA33, .t 31]) (rg 1 21),
 oM 33 0,
 oM 34 4,
 ob 35 (.iaddr 5 (.t 33) (.t 34)) [22, 23],
 ob 36 (.faddr 3 (.t 35)) [22, 23, 24],
 oE 37 1 36 [22, 23, 24, 25],
 oD 38 125 ([.t 37]) (rg 1 27),
 oD 39 71 ([sA43, .t 38]) (rg 1 28),
 oM 40 0,
 oM 41 4,
 ob 42 (.iaddr 5 (.t 40) (.t 41)) [29, 30],
 ob 43 (.faddr 4 (.t 42)) [29, 30, 31],
 oE 44 1 43 [29, 30, 31, 32],
 oD 45 74 ([.t 44]) (rg 1 34),
 oD 46 71 ([sA46, .t 45]) (rg 1 35),
 ob 47 (.lit 6 5 zL3 [(0, .t 18), (1, .t 25), (2, .t 32), (3, .t 39), (4, .t 46)]) (rg 1 36),
 oD 48 70 ([.t 47]) (rg 1 37),
 ob 49 (.lit 5 1 zL0 [(0, .t 48)]) (rg 1 38),
 ob 50 (.append 5 80 (.t 11) (.t 49)) (rg 0 39),
 ob 3 (.mov (.t 50)) (rg 0 40)] true))
 (.reg [oM 9 4,
 oA 10 9,
 oM 4 10] false))
def Q1nn : IR :=
 .seq (.reg [o 2 (.zero zL0)] false)
 (.seq (.reg [o 3 (.mov (.c (.ns 5)))] false)
 (.seq (.seq (.reg [o 4 (.mov (.c zI))] false)
 (.block 0 (.loop Qi8 Q1f9)))
 (.seq (.reg [oM 51 3,
 oC 52 138 ([.t 51]),
 oS 5 2 52] false)
 (.ret))))
def K31 : IFn := ⟨1, 53, [.cell 2 5 true], false, Q1nn⟩
def Qlp : List Nat := [100058, 0, 2, 3, 4]
def Q1eb : IR :=
 .seq (.seq (.reg [oM 5 4,
 oM 6 0,
 oN 7 6,
 o 8 (.bin .lss (.t 5) (.t 7))] false)
 (.cond (.t 8) (.skip)
 (.exit 0)))
 (.seq (.block 1 (.reg [oM 11 3,
 oM 12 0,
 oM 13 4,
 ob 14 (.iaddr 4 (.t 12) (.t 13)) [1, 2],
 ob 15 (.faddr 0 (.t 14)) [1, 2, 3],
 oE 16 1 15 [1, 2, 3, 4],
 oD 17 74 ([.t 16]) (rg 1 6),
 oD 18 71 ([sA14, .t 17]) (rg 1 7),
 oM 19 0,
 oM 20 4,
 ob 21 (.iaddr 4 (.t 19) (.t 20)) [8, 9],
 ob 22 (.faddr 3 (.t 21)) [8, 9, 10],
 oE 23 1 22 [8, 9, 10, 11],
 oD 24 73 ([.t 23]) (rg 1 13),
 oD 25 71 ([sA27, .t 24]) (rg 1 14),
 oM 26 0,
 oM 27 4,
 ob 28 (.iaddr 4 (.t 26) (.t 27)) [15, 16],
 ob 29 (.faddr 2 (.t 28)) [15, 16, 17],
 oE 30 1 29 [15, 16, 17, 18],
 oD 31 126 ([.t 30]) (rg 1 20),
 oD 32 71 ([sA33, .t 31]) (rg 1 21),
 oM 33 0,
 oM 34 4,
 ob 35 (.iaddr 4 (.t 33) (.t 34)) [22, 23],
 ob 36 (.faddr 1 (.t 35)) [22, 23, 24],
 oE 37 1 36 [22, 23, 24, 25],
 oD 38 125 ([.t 37]) (rg 1 27),
 oD 39 71 ([sA43, .t 38]) (rg 1 28),
 ob 40 (.lit 6 4 zL3 [(0, .t 18), (1, .t 25), (2, .t 32), (3, .t 39)]) (rg 1 29),
 oD 41 70 ([.t 40]) (rg 1 30),
 ob 42 (.lit 5 1 zL0 [(0, .t 41)]) (rg 1 31),
 ob 43 (.append 5 80 (.t 11) (.t 42)) (rg 0 32),
 ob 3 (.mov (.t 43)) (rg 0 33)] true))
 (.reg [oM 9 4,
 oA 10 9,
 oM 4 10] false))
def Q1ma : IR :=
 .seq (.reg [o 2 (.zero zL0)] false)
 (.seq (.reg [o 3 (.mov (.c (.ns 5)))] false)
 (.seq (.seq (.reg [o 4 (.mov (.c zI))] false)
 (.block 0 (.loop Qlp Q1eb)))
 (.seq (.reg [oM 44 3,
 oC 45 138 ([.t 44]),
 oS 5 2 45] false)
 (.ret))))
def K34 : IFn := ⟨1, 46, [.cell 2 5 true], false, Q1ma⟩
def Qlx : List Nat := [100059, 0, 2, 3, 4]
def Q1ec : IR :=
 .seq (.seq (.reg [oM 5 4,
 oM 6 0,
 oN 7 6,
 o 8 (.bin .lss (.t 5) (.t 7))] false)
 (.cond (.t 8) (.skip)
 (.exit 0)))
 (.seq (.block 1 (.reg [oM 11 3,
 oM 12 0,
 oM 13 4,
 ob 14 (.iaddr 5 (.t 12) (.t 13)) [1, 2],
 ob 15 (.faddr 3 (.t 14)) [1, 2, 3],
 oE 16 1 15 [1, 2, 3, 4],
 oD 17 74 ([.t 16]) (rg 1 6),
 oD 18 71 ([sA2, .t 17]) (rg 1 7),
 oM 19 0,
 oM 20 4,
 ob 21 (.iaddr 5 (.t 19) (.t 20)) [8, 9],
 ob 22 (.faddr 2 (.t 21)) [8, 9, 10],
 oE 23 1 22 [8, 9, 10, 11],
 oD 24 73 ([.t 23]) (rg 1 13),
 oD 25 71 ([sA3, .t 24]) (rg 1 14),
 oM 26 0,
 oM 27 4,
 ob 28 (.iaddr 5 (.t 26) (.t 27)) [15, 16],
 ob 29 (.faddr 0 (.t 28)) [15, 16, 17],
 oE 30 1 29 [15, 16, 17, 18],
 oD 31 125 ([.t 30]) (rg 1 20),
 oD 32 71 ([sA9, .t 31]) (rg 1 21),
 oM 33 0,
 oM 34 4,
 ob 35 (.iaddr 5 (.t 33) (.t 34)) [22, 23],
 ob 36 (.faddr 4 (.t 35)) [22, 23, 24],
 oE 37 1 36 [22, 23, 24, 25],
 oD 38 74 ([.t 37]) (rg 1 27),
 oD 39 71 ([sA34, .t 38]) (rg 1 28),
 oM 40 0,
 oM 41 4,
 ob 42 (.iaddr 5 (.t 40) (.t 41)) [29, 30],
 ob 43 (.faddr 1 (.t 42)) [29, 30, 31],
 oE 44 1 43 [29, 30, 31, 32],
 oD 45 125 ([.t 44]) (rg 1 34),
 oD 46 71 ([sA45, .t 45]) (rg 1 35),
 ob 47 (.lit 6 5 zL3 [(0, .t 18), (1, .t 25), (2, .t 32), (3, .t 39), (4, .t 46)]) (rg 1 36),
 oD 48 70 ([.t 47]) (rg 1 37),
 ob 49 (.lit 5 1 zL0 [(0, .t 48)]) (rg 1 38),
 ob 50 (.append 5 80 (.t 11) (.t 49)) (rg 0 39),
 ob 3 (.mov (.t 50)) (rg 0 40)] true))
 (.reg [oM 9 4,
 oA 10 9,
 oM 4 10] false))
def Q1rh : IR :=
 .seq (.reg [o 2 (.zero zL0)] false)
 (.seq (.reg [o 3 (.mov (.c (.ns 5)))] false)
 (.seq (.seq (.reg [o 4 (.mov (.c zI))] false)
 (.block 0 (.loop Qlx Q1ec)))
 (.seq (.reg [oM 51 3,
 oC 52 138 ([.t 51]),
 oS 5 2 52] false)
 (.ret))))
def K38 : IFn := ⟨1, 53, [.cell 2 5 true], false, Q1rh⟩
def Qlc : List Nat := [100060, 0, 2, 3, 4]
def Q1fd : IR :=
 .seq (.seq (.reg [oM 6 4,
 oM 7 0,
 oN 8 7,
 o 9 (.bin .lss (.t 6) (.t 8))] false)
 (.cond (.t 9) (.skip)
 (.exit 0)))
 (.seq (.block 1 (.seq (.reg [oM 12 0,
 oM 13 4,
 oI 14 7 12 13,
 oL 15 7 14,
 o 5 (.zero zL7),
 oS 7 5 15] false)
 (.reg [oM 16 3,
 oF 17 3 5,
 oE 18 1 17 [1],
 oD 19 74 ([.t 18]) [1, 2],
 oD 20 71 ([sA4, .t 19]) [1, 2, 3],
 oF 21 0 5,
 oE 22 1 21 [5],
 oD 23 125 ([.t 22]) (rg 1 7),
 oD 24 71 ([sA19, .t 23]) (rg 1 8),
 oF 25 5 5,
 oE 26 1 25 [9],
 oD 27 73 ([.t 26]) (rg 1 11),
 oD 28 71 ([sA31, .t 27]) (rg 1 12),
 oF 29 2 5,
 oE 30 1 29 [13],
 oD 31 74 ([.t 30]) (rg 1 15),
 oD 32 71 ([sA28, .t 31]) (rg 1 16),
 oF 33 4 5,
 oE 34 1 33 [17],
 oD 35 74 ([.t 34]) (rg 1 19),
 oD 36 71 ([sA35, .t 35]) (rg 1 20),
 oF 37 6 5,
 oE 38 1 37 [21],
 oD 39 73 ([.t 38]) (rg 1 23),
 oD 40 71 ([sA38, .t 39]) (rg 1 24),
 oF 41 1 5,
 oE 42 1 41 [25],
 oD 43 74 ([.t 42]) (rg 1 27),
 oD 44 71 ([sA40, .t 43]) (rg 1 28),
 ob 45 (.lit 6 7 zL3 [(0, .t 20), (1, .t 24), (2, .t 28), (3, .t 32), (4, .t 36), (5, .t 40), (6, .t 44)]) (rg 1 29),
 oD 46 70 ([.t 45]) (rg 1 30),
 ob 47 (.lit 5 1 zL0 [(0, .t 46)]) (rg 1 31),
 ob 48 (.append 5 80 (.t 16) (.t 47)) (rg 0 32),
 ob 3 (.mov (.t 48)) (rg 0 33)] true)))
 (.reg [oM 10 4,
 oA 11 10,
 oM 4 11] false))
def Q1p9 : IR :=
 .seq (.reg [o 2 (.zero zL0)] false)
 (.seq (.reg [o 3 (.mov (.c (.ns 5)))] false)
 (.seq (.seq (.reg [o 4 (.mov (.c zI))] false)
 (.block 0 (.loop Qlc Q1fd)))
 (.seq (.reg [oM 49 3,
 oC 50 138 ([.t 49]),
 oS 5 2 50] false)
 (.ret))))
def K36 : IFn := ⟨1, 51, [.cell 2 5 true], false, Q1p9⟩
def Q1nr : IR :=
 .reg [oM 4 0,
 oM 5 0,
 oN 6 5,
 oM 7 1,
 o 8 (.call true (.f 151) [.t 4, .t 6, .t 7])] false
def K3r : IFn := ⟨2, 9, [], false, Q1nr⟩
def Q1rd : IR :=
 .seq (.reg [o 2 (.box 6 (.t 0)),
 o 3 (.box 6 (.t 1)),
 o 4 (.mov (.c zI))] false)
 (.seq (.reg [oF 5 0 2,
 oK 6 1 5,
 oF 7 0 3,
 oK 8 1 7,
 oC 9 135 ([.t 6, .t 8]),
 oM 4 9] false)
 (.ret))
def K40 : IFn := ⟨2, 10, [.tmp 4], false, Q1rd⟩
def Q1lq : IR :=
 .seq (.reg [o 4 (.mov (.c zI))] false)
 (.seq (.reg [oM 5 0,
 oM 6 1,
 oC 7 152 ([.t 5, .t 6]),
 oM 4 7] false)
 (.ret))
def K3u : IFn := ⟨2, 8, [.tmp 4], false, Q1lq⟩
def Qk6 : List Nat := [100062, 1, 2, 31, 32, 33]
def Q1e3 : IR :=
 .seq (.reg [o 34 (.bin .lss (.t 33) (.t 32))] false)
 (.seq (.cond (.t 34) (.skip)
 (.exit 2))
 (.seq (.block 3 (.seq (.reg [oM 35 33,
 oI 36 6 31 33,
 oL 37 6 36,
 o 6 (.zero zL3),
 oM 5 35,
 oS 6 6 37] false)
 (.reg [oF 38 4 1,
 oE 39 1 38 [0],
 oM 40 5,
 oF 41 1 6,
 ob 42 (.load 5 true (.t 41)) [3],
 oD 43 136 ([.t 42]) [3, 4],
 ob 44 (.iaddr 6 (.t 39) (.t 40)) (rg 0 6),
 ob 45 (.faddr 1 (.t 44)) (rg 0 7),
 ⟨none, none, .store 5 (.t 45) (.t 43), (rg 0 8)⟩] true)))
 (.reg [oA 46 33,
 oM 33 46] false)))
def Qld : List Nat := [100061, 1, 2, 12, 13, 14]
def Q1eg : IR :=
 .seq (.reg [o 15 (.bin .lss (.t 14) (.t 13))] false)
 (.seq (.cond (.t 15) (.skip)
 (.exit 0))
 (.seq (.block 1 (.seq (.reg [oM 16 14,
 oI 17 5 12 14,
 oL 18 5 17,
 o 4 (.zero zL0),
 oM 3 16,
 oS 5 4 18] false)
 (.reg [oF 19 3 1,
 oE 20 1 19 [0],
 oM 21 3,
 oL 22 5 4,
 oD 23 136 ([.t 22]) [3],
 ob 24 (.iaddr 5 (.t 20) (.t 21)) (rg 0 5),
 ⟨none, none, .store 5 (.t 24) (.t 23), (rg 0 6)⟩] true)))
 (.reg [oA 25 14,
 oM 14 25] false)))
def Q1nf : IR :=
 .seq (.reg [o 1 (.box 5 (.t 0)),
 o 2 (.zero zL0)] false)
 (.seq (.reg [oF 7 3 1,
 oK 8 1 7,
 oC 9 153 ([.t 8]),
 oF 10 3 1,
 oS 1 10 9] false)
 (.seq (.seq (.reg [oF 11 3 1,
 oK 12 1 11,
 oN 13 12,
 o 14 (.mov (.c zI))] false)
 (.block 0 (.loop Qld Q1eg)))
 (.seq (.reg [oF 26 4 1,
 oK 27 1 26,
 oC 28 132 ([.t 27]),
 oF 29 4 1,
 oS 1 29 28] false)
 (.seq (.seq (.reg [oF 30 4 1,
 oK 31 1 30,
 oN 32 31,
 o 33 (.mov (.c zI))] false)
 (.block 2 (.loop Qk6 Q1e3)))
 (.seq (.reg [oL 47 5 1,
 oS 5 2 47] false)
 (.ret))))))
def K42 : IFn := ⟨1, 48, [.cell 2 5 true], false, Q1nf⟩
def Q1n0 : IR :=
 .seq (.reg [o 2 (.zero zL0)] false)
 (.seq (.reg [oM 3 0,
 o 4 (.build zL0 [(0, 1, .c (.int .i64 4)), (3, 1, .t 3)]),
 oC 5 136 ([.t 4]),
 oS 5 2 5] false)
 (.ret))
def K3y : IFn := ⟨1, 6, [.cell 2 5 true], false, Q1n0⟩
def Q1lm : IR :=
 .seq (.reg [o 2 (.zero zL0)] false)
 (.seq (.reg [oM 3 0,
 o 4 (.build zL0 [(0, 1, .c (.int .i64 4)), (3, 1, .t 3)]),
 oS 5 2 4] false)
 (.ret))
def K39 : IFn := ⟨1, 5, [.cell 2 5 true], false, Q1lm⟩
def Qhm : List Nat := [100063, 3, 9, 16, 17, 18]
def Q1ez : IR :=
 .seq (.reg [o 19 (.bin .lss (.t 18) (.t 17))] false)
 (.seq (.cond (.t 19) (.skip)
 (.exit 0))
 (.seq (.block 1 (.seq (.reg [oI 20 5 16 18,
 oL 21 5 20,
 o 11 (.zero zL0),
 oS 5 11 21] false)
 (.reg [oM 22 9,
 oM 23 3,
 oL 24 5 11,
 o 25 (.call false (.t 23) [.t 24]),
 o 26 (.lit 4 1 [zI, zI, zI, zI] [(0, .t 25)]),
 oJ 27 4 32 22 26,
 oM 9 27] false)))
 (.reg [oA 28 18,
 oM 18 28] false)))
def Q1o1 : IR :=
 .seq (.reg [o 5 (.box 5 (.t 1)),
 o 8 (.mov (.c (.ns 4)))] false)
 (.seq (.reg [o 9 (.mov (.c (.ns 4)))] false)
 (.seq (.seq (.reg [oM 12 0,
 oL 13 5 5,
 oM 14 2,
 oC 15 106 ([.t 12, .t 13, .t 14, .c (.int .i64 4)]),
 o 16 (.field 3 1 false (.t 15)),
 oN 17 16,
 o 18 (.mov (.c zI))] false)
 (.block 0 (.loop Qhm Q1ez)))
 (.seq (.reg [oM 29 9,
 oM 8 29] false)
 (.ret))))
def K12 : IFn := ⟨4, 30, [.tmp 8], false, Q1o1⟩
def Kp_c : IR :=
 .seq (.reg [o 3 (.box 5 (.t 1)),
 o 4 (.zero [zI, zI, zI, zI])] false)
 (.seq (.reg [oM 5 0,
 oL 6 5 3,
 oC 7 36 ([.t 5, .t 6])] false)
 (.seq (.reg [oM 8 0,
 oL 9 5 3,
 oD 10 39 ([.t 8, .t 9, sA0]) [0, 1],
 oM 11 0,
 oL 12 5 3,
 oD 13 39 ([.t 11, .t 12, sA21]) (rg 0 5),
 oM 14 0,
 oL 15 5 3,
 oD 16 39 ([.t 14, .t 15, sA41]) (rg 0 8),
 oM 17 0,
 oL 18 5 3,
 oD 19 39 ([.t 17, .t 18, sA6]) (rg 0 11),
 ob 20 (.build [zI, zI, zI, zI] [(0, 1, .t 10), (1, 1, .t 13), (2, 1, .t 16), (3, 1, .t 19)]) (rg 0 12),
 ⟨none, none, .store 4 (.t 4) (.t 20), (rg 0 13)⟩] true)
 (.ret)))
def Kp : IFn := ⟨2, 21, [.cell 4 4 true], false, Kp_c⟩
def Qiq : List Nat := [100064, 3, 9, 16, 17, 18]
def Q1eo : IR :=
 .seq (.reg [o 19 (.bin .lss (.t 18) (.t 17))] false)
 (.seq (.cond (.t 19) (.skip)
 (.exit 0))
 (.seq (.block 1 (.seq (.reg [oI 20 5 16 18,
 oL 21 5 20,
 o 11 (.zero zL0),
 oS 5 11 21] false)
 (.reg [oM 22 9,
 oM 23 3,
 oL 24 5 11,
 o 25 (.call false (.t 23) [.t 24]),
 o 26 (.lit 1 1 [zS] [(0, .t 25)]),
 oJ 27 1 16 22 26,
 oM 9 27] false)))
 (.reg [oA 28 18,
 oM 18 28] false)))
def Q1nu : IR :=
 .seq (.reg [o 5 (.box 5 (.t 1)),
 o 8 (.mov (.c (.ns 1)))] false)
 (.seq (.reg [o 9 (.mov (.c (.ns 1)))] false)
 (.seq (.seq (.reg [oM 12 0,
 oL 13 5 5,
 oM 14 2,
 oC 15 106 ([.t 12, .t 13, .t 14, .c (.int .i64 4)]),
 o 16 (.field 3 1 false (.t 15)),
 oN 17 16,
 o 18 (.mov (.c zI))] false)
 (.block 0 (.loop Qiq Q1eo)))
 (.seq (.reg [oM 29 9,
 oM 8 29] false)
 (.ret))))
def K13 : IFn := ⟨4, 30, [.tmp 8], false, Q1nu⟩
def Kz_c : IR :=
 .seq (.reg [o 3 (.box 5 (.t 1)),
 o 4 (.mov (.c (zS)))] false)
 (.seq (.reg [oM 5 0,
 oM 6 0,
 o 7 (.nilck (.t 6)),
 oF 8 0 7,
 oK 9 1 8,
 oM 10 9,
 gF 11 10 (.faddr 0 (.t 3)),
 gF 12 10 (.load 1 false (.t 11)),
 gF 13 10 (.bin .neq (.t 12) (.c (.int .i64 3))),
 gF 14 10 (.mov (.t 13)),
 gT 15 14 (.faddr 0 (.t 3)),
 gT 16 14 (.load 1 false (.t 15)),
 gT 17 14 (.bin .neq (.t 16) (.c zI)),
 gF 18 10 (.pick (.t 14) (.t 17) (.c zB)),
 oQ 19 10 18,
 o 20 (.nilck (.t 5)),
 oF 21 0 20,
 oS 1 21 19] false)
 (.seq (.seq (.reg [oF 22 0 3,
 oK 23 1 22,
 o 24 (.bin .neq (.t 23) (.c (.int .i64 3)))] false)
 (.cond (.t 24) (.seq (.reg [o 4 (.mov (.c (zS)))] false)
 (.ret))
 (.skip)))
 (.seq (.reg [oF 25 2 3,
 oK 26 1 25,
 oM 4 26] false)
 (.ret))))
def Kz : IFn := ⟨2, 27, [.tmp 4], false, Kz_c⟩
def Qjh : List Nat := [100066, 1, 4, 12, 13, 14]
def Q1fh : IR :=
 .seq (.reg [o 15 (.bin .lss (.t 14) (.t 13))] false)
 (.seq (.cond (.t 15) (.skip)
 (.exit 0))
 (.seq (.block 1 (.seq (.reg [oI 16 6 12 14,
 oL 17 6 16,
 o 7 (.zero zL3),
 oS 6 7 17] false)
 (.seq (.reg [oF 18 0 7,
 oK 19 1 18,
 oM 20 1,
 o 21 (.bin .eql (.t 19) (.t 20))] false)
 (.cond (.t 21) (.seq (.reg [oF 22 1 7,
 oL 23 5 22,
 oC 24 136 ([.t 23]),
 oS 5 4 24,
 o 5 (.mov (.c (.bool true)))] false)
 (.ret))
 (.skip)))))
 (.reg [oA 25 14,
 oM 14 25] false)))
def Q1q8 : IR :=
 .seq (.reg [o 2 (.box 5 (.t 0)),
 o 4 (.zero zL0),
 o 5 (.mov (.c zB))] false)
 (.seq (.seq (.reg [oF 8 0 2,
 oK 9 1 8,
 o 10 (.bin .eql (.t 9) (.c (.int .i64 5)))] false)
 (.cond (.t 10) (.seq (.reg [oF 11 4 2,
 oK 12 1 11,
 oN 13 12,
 o 14 (.mov (.c zI))] false)
 (.block 0 (.loop Qjh Q1fh)))
 (.skip)))
 (.seq (.reg [o 26 (.build zL0 []),
 oS 5 4 26,
 o 5 (.mov (.c zB))] false)
 (.ret)))
def K3w : IFn := ⟨2, 27, [.cell 4 5 true, .tmp 5], false, Q1q8⟩
def Qkv : List Nat := [100067, 1, 4, 5, 8, 9, 10]
def Q1f5 : IR :=
 .seq (.reg [o 11 (.bin .lss (.t 10) (.t 9))] false)
 (.seq (.cond (.t 11) (.skip)
 (.exit 0))
 (.seq (.block 1 (.seq (.reg [oI 12 4 8 10,
 oL 13 4 12,
 o 7 (.zero [zI, zI, zI, zI]),
 oS 4 7 13] false)
 (.reg [oM 14 5,
 oM 15 1,
 oL 16 4 7,
 o 17 (.call false (.t 15) [.t 16]),
 o 18 (.lit 5 1 zL0 [(0, .t 17)]),
 oJ 19 5 80 14 18,
 oM 5 19] false)))
 (.reg [oA 20 10,
 oM 10 20] false)))
def Q1os : IR :=
 .seq (.reg [o 4 (.zero zL0)] false)
 (.seq (.reg [o 5 (.mov (.c (.ns 5)))] false)
 (.seq (.seq (.reg [oM 8 0,
 oN 9 8,
 o 10 (.mov (.c zI))] false)
 (.block 0 (.loop Qkv Q1f5)))
 (.seq (.reg [oM 21 5,
 oC 22 137 ([.t 21]),
 oS 5 4 22] false)
 (.ret))))
def K20 : IFn := ⟨2, 23, [.cell 4 5 true], false, Q1os⟩
def Q1qr : IR :=
 .seq (.reg [o 1 (.box 4 (.t 0)),
 o 2 (.zero zL0)] false)
 (.seq (.reg [oF 3 0 1,
 oE 4 1 3 [0],
 oD 5 65 ([.t 4]) [0, 1],
 oD 6 62 ([sA0, .t 5]) [0, 1, 2],
 oF 7 3 1,
 oE 8 1 7 [4],
 oD 9 65 ([.t 8]) (rg 0 6),
 oD 10 62 ([sA6, .t 9]) (rg 0 7),
 oF 11 1 1,
 oE 12 1 11 [8],
 oD 13 65 ([.t 12]) (rg 0 10),
 oD 14 62 ([sA21, .t 13]) (rg 0 11),
 oF 15 2 1,
 oE 16 1 15 [12],
 oD 17 65 ([.t 16]) (rg 0 14),
 oD 18 62 ([sA41, .t 17]) (rg 0 15),
 ob 19 (.lit 6 4 zL3 [(0, .t 6), (1, .t 10), (2, .t 14), (3, .t 18)]) (rg 0 16),
 oD 20 61 ([.t 19]) (rg 0 17),
 ⟨none, none, .store 5 (.t 2) (.t 20), (rg 0 18)⟩] true)
 (.ret))
def K1j : IFn := ⟨1, 21, [.cell 2 5 true], false, Q1qr⟩
def Qih : List Nat := [100068, 1, 4, 5, 8, 9, 10]
def Q1ff : IR :=
 .seq (.reg [o 11 (.bin .lss (.t 10) (.t 9))] false)
 (.seq (.cond (.t 11) (.skip)
 (.exit 0))
 (.seq (.block 1 (.seq (.reg [oI 12 1 8 10,
 oK 13 1 12,
 oM 7 13] false)
 (.reg [oM 14 5,
 oM 15 1,
 oM 16 7,
 o 17 (.call false (.t 15) [.t 16]),
 o 18 (.lit 5 1 zL0 [(0, .t 17)]),
 oJ 19 5 80 14 18,
 oM 5 19] false)))
 (.reg [oA 20 10,
 oM 10 20] false)))
def Q1qx : IR :=
 .seq (.reg [o 4 (.zero zL0)] false)
 (.seq (.reg [o 5 (.mov (.c (.ns 5)))] false)
 (.seq (.seq (.reg [oM 8 0,
 oN 9 8,
 o 10 (.mov (.c zI))] false)
 (.block 0 (.loop Qih Q1ff)))
 (.seq (.reg [oM 21 5,
 oC 22 137 ([.t 21]),
 oS 5 4 22] false)
 (.ret))))
def K21 : IFn := ⟨2, 23, [.cell 4 5 true], false, Q1qx⟩
def Ql5 : List Nat := [100069, 0, 2, 3, 4]
def Q1ep : IR :=
 .seq (.seq (.reg [oM 5 4,
 oM 6 0,
 oN 7 6,
 o 8 (.bin .lss (.t 5) (.t 7))] false)
 (.cond (.t 8) (.skip)
 (.exit 0)))
 (.seq (.block 1 (.reg [oM 11 3,
 oM 12 0,
 oM 13 4,
 ob 14 (.iaddr 4 (.t 12) (.t 13)) [1, 2],
 ob 15 (.faddr 0 (.t 14)) [1, 2, 3],
 oE 16 1 15 [1, 2, 3, 4],
 oD 17 74 ([.t 16]) (rg 1 6),
 oD 18 71 ([sA0, .t 17]) (rg 1 7),
 oM 19 0,
 oM 20 4,
 ob 21 (.iaddr 4 (.t 19) (.t 20)) [8, 9],
 ob 22 (.faddr 3 (.t 21)) [8, 9, 10],
 oE 23 1 22 [8, 9, 10, 11],
 oD 24 74 ([.t 23]) (rg 1 13),
 oD 25 71 ([sA6, .t 24]) (rg 1 14),
 oM 26 0,
 oM 27 4,
 ob 28 (.iaddr 4 (.t 26) (.t 27)) [15, 16],
 ob 29 (.faddr 1 (.t 28)) [15, 16, 17],
 oE 30 1 29 [15, 16, 17, 18],
 oD 31 74 ([.t 30]) (rg 1 20),
 oD 32 71 ([sA21, .t 31]) (rg 1 21),
 oM 33 0,
 oM 34 4,
 ob 35 (.iaddr 4 (.t 33) (.t 34)) [22, 23],
 ob 36 (.faddr 2 (.t 35)) [22, 23, 24],
 oE 37 1 36 [22, 23, 24, 25],
 oD 38 74 ([.t 37]) (rg 1 27),
 oD 39 71 ([sA41, .t 38]) (rg 1 28),
 ob 40 (.lit 6 4 zL3 [(0, .t 18), (1, .t 25), (2, .t 32), (3, .t 39)]) (rg 1 29),
 oD 41 70 ([.t 40]) (rg 1 30),
 ob 42 (.lit 5 1 zL0 [(0, .t 41)]) (rg 1 31),
 ob 43 (.append 5 80 (.t 11) (.t 42)) (rg 0 32),
 ob 3 (.mov (.t 43)) (rg 0 33)] true))
 (.reg [oM 9 4,
 oA 10 9,
 oM 4 10] false))
def Q1mm : IR :=
 .seq (.reg [o 2 (.zero zL0)] false)
 (.seq (.reg [o 3 (.mov (.c (.ns 5)))] false)
 (.seq (.seq (.reg [o 4 (.mov (.c zI))] false)
 (.block 0 (.loop Ql5 Q1ep)))
 (.seq (.reg [oM 44 3,
 oC 45 138 ([.t 44]),
 oS 5 2 45] false)
 (.ret))))
def K32 : IFn := ⟨1, 46, [.cell 2 5 true], false, Q1mm⟩
def Qit : List Nat := [100070, 0, 2, 3, 4]
def Q1ek : IR :=
 .seq (.seq (.reg [oM 5 4,
 oM 6 0,
 oN 7 6,
 o 8 (.bin .lss (.t 5) (.t 7))] false)
 (.cond (.t 8) (.skip)
 (.exit 0)))
 (.seq (.block 1 (.reg [oM 11 3,
 oM 12 0,
 oM 13 4,
 oI 14 1 12 13,
 oK 15 1 14,
 oC 16 125 ([.t 15]),
 o 17 (.lit 5 1 zL0 [(0, .t 16)]),
 oJ 18 5 80 11 17,
 oM 3 18] false))
 (.reg [oM 9 4,
 oA 10 9,
 oM 4 10] false))
def Q1m9 : IR :=
 .seq (.reg [o 2 (.zero zL0)] false)
 (.seq (.reg [o 3 (.mov (.c (.ns 5)))] false)
 (.seq (.seq (.reg [o 4 (.mov (.c zI))] false)
 (.block 0 (.loop Qit Q1ek)))
 (.seq (.reg [oM 19 3,
 oC 20 138 ([.t 19]),
 oS 5 2 20] false)
 (.ret))))
def K2e : IFn := ⟨1, 21, [.cell 2 5 true], false, Q1m9⟩
def Q102 : List Nat := [100073, 0, 1, 2, 6, 7, 8]
def Q1lh : IR :=
 .seq (.seq (.reg [oM 33 8,
 oM 34 1,
 o 35 (.bin .leq (.t 33) (.t 34))] false)
 (.cond (.t 35) (.skip)
 (.exit 4)))
 (.block 5 (.seq (.reg [oM 36 0,
 oM 37 7,
 oM 38 7,
 oM 39 6,
 o 40 (.bin .add (.t 38) (.t 39)),
 oM 41 8,
 oM 42 2,
 oC 43 156 ([.t 36, .t 37, .t 40, .t 41, .t 42])] false)
 (.seq (.reg [oM 44 8,
 oM 7 44] false)
 (.reg [oM 45 8,
 oM 46 6,
 o 47 (.bin .mul (.c (.int .i64 2)) (.t 46)),
 o 48 (.bin .add (.t 45) (.t 47)),
 oM 8 48] false))))
def Qif : List Nat := [100072, 0, 1, 2, 6]
def Q1el : IR :=
 .seq (.seq (.reg [oM 28 6,
 oM 29 1,
 o 30 (.bin .lss (.t 28) (.t 29))] false)
 (.cond (.t 30) (.skip)
 (.exit 2)))
 (.block 3 (.seq (.reg [oM 31 6,
 o 32 (.bin .mul (.c (.int .i64 2)) (.t 31)),
 o 7 (.mov (.c zI)),
 oM 8 32] false)
 (.seq (.block 4 (.loop Q102 Q1lh))
 (.seq (.seq (.reg [oM 49 7,
 oM 50 6,
 o 51 (.bin .add (.t 49) (.t 50)),
 oM 9 51] false)
 (.seq (.reg [oM 52 9,
 oM 53 1,
 o 54 (.bin .lss (.t 52) (.t 53))] false)
 (.cond (.t 54) (.reg [oM 55 0,
 oM 56 7,
 oM 57 9,
 oM 58 1,
 oM 59 2,
 oC 60 156 ([.t 55, .t 56, .t 57, .t 58, .t 59])] false)
 (.skip))))
 (.reg [oM 61 6,
 o 62 (.bin .mul (.t 61) (.c (.int .i64 2))),
 oM 6 62] false)))))
def Ql7 : List Nat := [100071, 0, 1, 2, 6, 7, 8]
def Q1eh : IR :=
 .seq (.seq (.reg [oM 11 8,
 oM 12 1,
 o 13 (.bin .leq (.t 11) (.t 12))] false)
 (.cond (.t 13) (.skip)
 (.exit 0)))
 (.block 1 (.seq (.reg [oM 14 0,
 oM 15 7,
 oM 16 8,
 oM 17 2,
 o 18 (.call true (.f 155) [.t 14, .t 15, .t 16, .t 17])] false)
 (.seq (.reg [oM 19 8,
 oM 7 19] false)
 (.reg [oM 20 8,
 oM 21 6,
 o 22 (.bin .add (.t 20) (.t 21)),
 oM 8 22] false))))
def Q1nc : IR :=
 .seq (.reg [o 6 (.mov (.c (.int .i64 20)))] false)
 (.seq (.reg [oM 10 6,
 o 7 (.mov (.c zI)),
 oM 8 10] false)
 (.seq (.block 0 (.loop Ql7 Q1eh))
 (.seq (.reg [oM 23 0,
 oM 24 7,
 oM 25 1,
 oM 26 2,
 o 27 (.call true (.f 155) [.t 23, .t 24, .t 25, .t 26])] false)
 (.block 2 (.loop Qif Q1el)))))
def K3t : IFn := ⟨3, 63, [], false, Q1nc⟩
def Qjx : List Nat := [100076, 0, 1, 2, 3, 8, 9]
def Q1eu : IR :=
 .seq (.seq (.reg [oM 18 9,
 oM 19 1,
 ob 20 (.bin .gtr (.t 18) (.t 19)) [0, 1],
 ob 21 (.mov (.t 20)) [0, 1, 2],
 ⟨(some 22), (some (21, true)), .mov (.t 3), [0, 1, 2, 3]⟩,
 ⟨(some 23), (some (21, true)), .mov (.t 0), [0, 1, 2, 3]⟩,
 ⟨(some 24), (some (21, true)), .mov (.t 9), [0, 1, 2, 3]⟩,
 ⟨(some 25), (some (21, true)), .iaddr 6 (.t 23) (.t 24), (rg 0 4 ++ [5, 6])⟩,
 ⟨(some 26), (some (21, true)), .load 6 true (.t 25), (rg 0 4 ++ [5, 6, 7])⟩,
 ⟨(some 27), (some (21, true)), .mov (.t 0), [0, 1, 2, 3]⟩,
 ⟨(some 28), (some (21, true)), .mov (.t 9), [0, 1, 2, 3]⟩,
 ⟨(some 29), (some (21, true)), .bin .sub (.t 28) (.c (.int .i64 1)), (rg 0 4 ++ [10])⟩,
 ⟨(some 30), (some (21, true)), .iaddr 6 (.t 27) (.t 29), (rg 0 4 ++ [9, 10, 11])⟩,
 ⟨(some 31), (some (21, true)), .load 6 true (.t 30), (rg 0 4 ++ rg 9 13)⟩,
 ⟨(some 32), (some (21, true)), .call false (.t 22) [.t 26, .t 31], (rg 0 14)⟩,
 ⟨(some 33), (some (21, true)), .bin .lss (.t 32) (.c zI), (rg 0 15)⟩,
 ob 34 (.pick (.t 21) (.t 33) (.c zB)) (rg 0 16)] true)
 (.cond (.t 34) (.skip)
 (.exit 2)))
 (.seq (.block 3 (.reg [oM 37 0,
 oM 38 9,
 oM 39 0,
 oM 40 9,
 ob 41 (.bin .sub (.t 40) (.c (.int .i64 1))) [3],
 oM 42 0,
 oM 43 9,
 ob 44 (.bin .sub (.t 43) (.c (.int .i64 1))) [6],
 ob 45 (.iaddr 6 (.t 42) (.t 44)) [5, 6, 7],
 ob 46 (.load 6 true (.t 45)) [5, 6, 7, 8],
 oM 47 0,
 oM 48 9,
 ob 49 (.iaddr 6 (.t 47) (.t 48)) [10, 11],
 ob 50 (.load 6 true (.t 49)) [10, 11, 12],
 ob 51 (.iaddr 6 (.t 37) (.t 38)) ([0, 1] ++ rg 5 14),
 ⟨none, none, .store 6 (.t 51) (.t 46), ([0, 1] ++ rg 5 15)⟩,
 ob 52 (.iaddr 6 (.t 39) (.t 41)) (rg 0 16),
 ⟨none, none, .store 6 (.t 52) (.t 50), (rg 0 17)⟩] true))
 (.reg [oM 35 9,
 o 36 (.bin .sub (.t 35) (.c (.int .i64 1))),
 oM 9 36] false))
def Qie : List Nat := [100075, 0, 1, 2, 3, 8]
def Q1f0 : IR :=
 .seq (.seq (.reg [oM 12 8,
 oM 13 2,
 o 14 (.bin .lss (.t 12) (.t 13))] false)
 (.cond (.t 14) (.skip)
 (.exit 0)))
 (.seq (.block 1 (.seq (.reg [oM 17 8,
 oM 9 17] false)
 (.block 2 (.loop Qjx Q1eu))))
 (.reg [oM 15 8,
 oA 16 15,
 oM 8 16] false))
def Q1qh : IR :=
 .seq (.reg [oM 10 1,
 oA 11 10,
 oM 8 11] false)
 (.block 0 (.loop Qie Q1f0))
def K3s : IFn := ⟨4, 53, [], false, Q1qh⟩
def table : List (Nat × Fun) :=
  [(4, .ir K3),
   (8, .ir K5),
   (9, .ir K27),
   (10, .ir K7),
   (11, .ir Kd),
   (13, .ir Kc),
   (17, .ir K2m),
   (20, .ir K6),
   (21, .ir Ka),
   (22, .ir K8),
   (23, .ir K26),
   (24, .ir K2l),
   (25, .ir K2b),
   (28, .ir Kb),
   (29, .ir K2f),
   (30, .ir K28),
   (31, .ir Kf),
   (32, .ir Ks),
   (33, .ir Ku),
   (36, .ir Kw),
   (37, .ir Kr),
   (38, .ir Kx),
   (39, .ir Kn),
   (40, .ir Ki),
   (41, .ir K11),
   (42, .ir Ky),
   (43, .ir K14),
   (44, .ir Kk),
   (56, .ir K1m),
   (57, .ir K1o),
   (58, .ir K2j),
   (59, .ir K2d),
   (60, .ir K35),
   (61, .ir K3z),
   (62, .ir K1r),
   (63, .ir K1l),
   (64, .ir K3v),
   (65, .ir K3x),
   (70, .ir K3b),
   (71, .ir K2w),
   (72, .ir K33),
   (73, .ir K3q),
   (74, .ir K3a),
   (77, .ir K23),
   (78, .ir K1g),
   (79, .ir K2z),
   (80, .ax (Qln 2 32)),
   (81, .ax (Qln 5 48)),
   (82, .ax (Qln 1 16)),
   (83, .ax (Qj5 2 40)),
   (84, .ir Kv),
   (85, .ir K16),
   (86, .ir Kg),
   (87, .ir K17),
   (88, .ir Kq),
   (89, .ir K18),
   (90, .ir Km),
   (91, .ir K19),
   (92, .ir Ko),
   (93, .ir K1a),
   (94, .ir Kt),
   (95, .ir K1b),
   (96, .ir K10),
   (97, .ir K1c),
   (98, .ir Kh),
   (106, .ir Kj),
   (107, .ir K1t),
   (108, .ir K1d),
   (109, .ir K41),
   (110, .ir K1u),
   (111, .ir K1k),
   (112, .ir K1v),
   (113, .ir K1h),
   (114, .ir K1w),
   (115, .ir K1i),
   (116, .ir K1x),
   (117, .ir K1n),
   (118, .ir K1y),
   (119, .ir K1q),
   (120, .ir K1z),
   (121, .ir K1e),
   (122, .ir K24),
   (123, .ir K25),
   (124, .ir K2x),
   (125, .ir K3c),
   (126, .ir K2c),
   (127, .ir K30),
   (128, .ir K31),
   (129, .ir K34),
   (130, .ir K38),
   (131, .ir K36),
   (132, .ax (Qj5 6 96)),
   (133, .ir K3r),
   (134, .ir K40),
   (135, .ir K3u),
   (136, .ir K42),
   (137, .ir K3y),
   (138, .ir K39),
   (139, .ir K12),
   (140, .ir Kp),
   (141, .ir K13),
   (142, .ir Kz),
   (145, .ir K3w),
   (146, .ir K20),
   (147, .ir K1j),
   (148, .ir K21),
   (149, .ir K32),
   (150, .ir K2e),
   (151, .ir K3t),
   (152, .cmpstr),
   (153, .ax (Qj5 5 80)),
   (155, .ir K3s)]
end Go.Proofs.YtiflaadeikaghaaGreat.Ir
end

section
/- The printed functions are the given ones. -/
namespace Go.Proofs.YtiflaadeikaghaaGreat
open Go.Pv
theorem c3 : Q1j Tryz.prog Tryz.f3 Ir.K1 = true := by kernel_rfl
theorem c4 : Q1j Tryz.prog Tryz.f4 Ir.K3 = true := by kernel_rfl
theorem c5 : Q1j Tryz.prog Tryz.f5 Ir.K4 = true := by kernel_rfl
theorem c8 : Q1j Tryz.prog Tryz.f8 Ir.K5 = true := by kernel_rfl
theorem c9 : Q1j Tryz.prog Tryz.f9 Ir.K27 = true := by kernel_rfl
theorem c10 : Q1j Tryz.prog Tryz.f10 Ir.K7 = true := by kernel_rfl
theorem c11 : Q1j Tryz.prog Tryz.f11 Ir.Kd = true := by kernel_rfl
theorem c13 : Q1j Tryz.prog Tryz.f13 Ir.Kc = true := by kernel_rfl
theorem c17 : Q1j Tryz.prog Tryz.f17 Ir.K2m = true := by kernel_rfl
theorem c20 : Q1j Tryz.prog Tryz.f20 Ir.K6 = true := by kernel_rfl
theorem c21 : Q1j Tryz.prog Tryz.f21 Ir.Ka = true := by kernel_rfl
theorem c22 : Q1j Tryz.prog Tryz.f22 Ir.K8 = true := by kernel_rfl
theorem c23 : Q1j Tryz.prog Tryz.f23 Ir.K26 = true := by kernel_rfl
theorem c24 : Q1j Tryz.prog Tryz.f24 Ir.K2l = true := by kernel_rfl
theorem c25 : Q1j Tryz.prog Tryz.f25 Ir.K2b = true := by kernel_rfl
theorem c28 : Q1j Tryz.prog Tryz.f28 Ir.Kb = true := by kernel_rfl
theorem c29 : Q1j Tryz.prog Tryz.f29 Ir.K2f = true := by kernel_rfl
theorem c30 : Q1j Tryz.prog Tryz.f30 Ir.K28 = true := by kernel_rfl
theorem c31 : Q1j Tryz.prog Tryz.f31 Ir.Kf = true := by kernel_rfl
theorem c32 : Q1j Tryz.prog Tryz.f32 Ir.Ks = true := by kernel_rfl
theorem c33 : Q1j Tryz.prog Tryz.f33 Ir.Ku = true := by kernel_rfl
theorem c36 : Q1j Tryz.prog Tryz.f36 Ir.Kw = true := by kernel_rfl
theorem c37 : Q1j Tryz.prog Tryz.f37 Ir.Kr = true := by kernel_rfl
theorem c38 : Q1j Tryz.prog Tryz.f38 Ir.Kx = true := by kernel_rfl
theorem c39 : Q1j Tryz.prog Tryz.f39 Ir.Kn = true := by kernel_rfl
theorem c40 : Q1j Tryz.prog Tryz.f40 Ir.Ki = true := by kernel_rfl
theorem c41 : Q1j Tryz.prog Tryz.f41 Ir.K11 = true := by kernel_rfl
theorem c42 : Q1j Tryz.prog Tryz.f42 Ir.Ky = true := by kernel_rfl
theorem c43 : Q1j Tryz.prog Tryz.f43 Ir.K14 = true := by kernel_rfl
theorem c44 : Q1j Tryz.prog Tryz.f44 Ir.Kk = true := by kernel_rfl
theorem c56 : Q1j Tryz.prog Tryz.f56 Ir.K1m = true := by kernel_rfl
theorem c57 : Q1j Tryz.prog Tryz.f57 Ir.K1o = true := by kernel_rfl
theorem c58 : Q1j Tryz.prog Tryz.f58 Ir.K2j = true := by kernel_rfl
theorem c59 : Q1j Tryz.prog Tryz.f59 Ir.K2d = true := by kernel_rfl
theorem c60 : Q1j Tryz.prog Tryz.f60 Ir.K35 = true := by kernel_rfl
theorem c61 : Q1j Tryz.prog Tryz.f61 Ir.K3z = true := by kernel_rfl
theorem c62 : Q1j Tryz.prog Tryz.f62 Ir.K1r = true := by kernel_rfl
theorem c63 : Q1j Tryz.prog Tryz.f63 Ir.K1l = true := by kernel_rfl
theorem c64 : Q1j Tryz.prog Tryz.f64 Ir.K3v = true := by kernel_rfl
theorem c65 : Q1j Tryz.prog Tryz.f65 Ir.K3x = true := by kernel_rfl
theorem c70 : Q1j Tryz.prog Tryz.f70 Ir.K3b = true := by kernel_rfl
theorem c71 : Q1j Tryz.prog Tryz.f71 Ir.K2w = true := by kernel_rfl
theorem c72 : Q1j Tryz.prog Tryz.f72 Ir.K33 = true := by kernel_rfl
theorem c73 : Q1j Tryz.prog Tryz.f73 Ir.K3q = true := by kernel_rfl
theorem c74 : Q1j Tryz.prog Tryz.f74 Ir.K3a = true := by kernel_rfl
theorem c77 : Q1j Tryz.prog Tryz.f77 Ir.K23 = true := by kernel_rfl
theorem c78 : Q1j Tryz.prog Tryz.f78 Ir.K1g = true := by kernel_rfl
theorem c79 : Q1j Tryz.prog Tryz.f79 Ir.K2z = true := by kernel_rfl
theorem c84 : Q1j Tryz.prog Tryz.f84 Ir.Kv = true := by kernel_rfl
theorem c85 : Q1j Tryz.prog Tryz.f85 Ir.K16 = true := by kernel_rfl
theorem c86 : Q1j Tryz.prog Tryz.f86 Ir.Kg = true := by kernel_rfl
theorem c87 : Q1j Tryz.prog Tryz.f87 Ir.K17 = true := by kernel_rfl
theorem c88 : Q1j Tryz.prog Tryz.f88 Ir.Kq = true := by kernel_rfl
theorem c89 : Q1j Tryz.prog Tryz.f89 Ir.K18 = true := by kernel_rfl
theorem c90 : Q1j Tryz.prog Tryz.f90 Ir.Km = true := by kernel_rfl
theorem c91 : Q1j Tryz.prog Tryz.f91 Ir.K19 = true := by kernel_rfl
theorem c92 : Q1j Tryz.prog Tryz.f92 Ir.Ko = true := by kernel_rfl
theorem c93 : Q1j Tryz.prog Tryz.f93 Ir.K1a = true := by kernel_rfl
theorem c94 : Q1j Tryz.prog Tryz.f94 Ir.Kt = true := by kernel_rfl
theorem c95 : Q1j Tryz.prog Tryz.f95 Ir.K1b = true := by kernel_rfl
theorem c96 : Q1j Tryz.prog Tryz.f96 Ir.K10 = true := by kernel_rfl
theorem c97 : Q1j Tryz.prog Tryz.f97 Ir.K1c = true := by kernel_rfl
theorem c98 : Q1j Tryz.prog Tryz.f98 Ir.Kh = true := by kernel_rfl
theorem c106 : Q1j Tryz.prog Tryz.f106 Ir.Kj = true := by kernel_rfl
theorem c107 : Q1j Tryz.prog Tryz.f107 Ir.K1t = true := by kernel_rfl
theorem c108 : Q1j Tryz.prog Tryz.f108 Ir.K1d = true := by kernel_rfl
theorem c109 : Q1j Tryz.prog Tryz.f109 Ir.K41 = true := by kernel_rfl
theorem c110 : Q1j Tryz.prog Tryz.f110 Ir.K1u = true := by kernel_rfl
theorem c111 : Q1j Tryz.prog Tryz.f111 Ir.K1k = true := by kernel_rfl
theorem c112 : Q1j Tryz.prog Tryz.f112 Ir.K1v = true := by kernel_rfl
theorem c113 : Q1j Tryz.prog Tryz.f113 Ir.K1h = true := by kernel_rfl
theorem c114 : Q1j Tryz.prog Tryz.f114 Ir.K1w = true := by kernel_rfl
theorem c115 : Q1j Tryz.prog Tryz.f115 Ir.K1i = true := by kernel_rfl
theorem c116 : Q1j Tryz.prog Tryz.f116 Ir.K1x = true := by kernel_rfl
theorem c117 : Q1j Tryz.prog Tryz.f117 Ir.K1n = true := by kernel_rfl
theorem c118 : Q1j Tryz.prog Tryz.f118 Ir.K1y = true := by kernel_rfl
theorem c119 : Q1j Tryz.prog Tryz.f119 Ir.K1q = true := by kernel_rfl
theorem c120 : Q1j Tryz.prog Tryz.f120 Ir.K1z = true := by kernel_rfl
theorem c121 : Q1j Tryz.prog Tryz.f121 Ir.K1e = true := by kernel_rfl
theorem c122 : Q1j Tryz.prog Tryz.f122 Ir.K24 = true := by kernel_rfl
theorem c123 : Q1j Tryz.prog Tryz.f123 Ir.K25 = true := by kernel_rfl
theorem c124 : Q1j Tryz.prog Tryz.f124 Ir.K2x = true := by kernel_rfl
theorem c125 : Q1j Tryz.prog Tryz.f125 Ir.K3c = true := by kernel_rfl
theorem c126 : Q1j Tryz.prog Tryz.f126 Ir.K2c = true := by kernel_rfl
theorem c127 : Q1j Tryz.prog Tryz.f127 Ir.K30 = true := by kernel_rfl
theorem c128 : Q1j Tryz.prog Tryz.f128 Ir.K31 = true := by kernel_rfl
theorem c129 : Q1j Tryz.prog Tryz.f129 Ir.K34 = true := by kernel_rfl
theorem c130 : Q1j Tryz.prog Tryz.f130 Ir.K38 = true := by kernel_rfl
theorem c131 : Q1j Tryz.prog Tryz.f131 Ir.K36 = true := by kernel_rfl
theorem c133 : Q1j Tryz.prog Tryz.f133 Ir.K3r = true := by kernel_rfl
theorem c134 : Q1j Tryz.prog Tryz.f134 Ir.K40 = true := by kernel_rfl
theorem c135 : Q1j Tryz.prog Tryz.f135 Ir.K3u = true := by kernel_rfl
theorem c136 : Q1j Tryz.prog Tryz.f136 Ir.K42 = true := by kernel_rfl
theorem c137 : Q1j Tryz.prog Tryz.f137 Ir.K3y = true := by kernel_rfl
theorem c138 : Q1j Tryz.prog Tryz.f138 Ir.K39 = true := by kernel_rfl
theorem c139 : Q1j Tryz.prog Tryz.f139 Ir.K12 = true := by kernel_rfl
theorem c140 : Q1j Tryz.prog Tryz.f140 Ir.Kp = true := by kernel_rfl
theorem c141 : Q1j Tryz.prog Tryz.f141 Ir.K13 = true := by kernel_rfl
theorem c142 : Q1j Tryz.prog Tryz.f142 Ir.Kz = true := by kernel_rfl
theorem c145 : Q1j Tryz.prog Tryz.f145 Ir.K3w = true := by kernel_rfl
theorem c146 : Q1j Tryz.prog Tryz.f146 Ir.K20 = true := by kernel_rfl
theorem c147 : Q1j Tryz.prog Tryz.f147 Ir.K1j = true := by kernel_rfl
theorem c148 : Q1j Tryz.prog Tryz.f148 Ir.K21 = true := by kernel_rfl
theorem c149 : Q1j Tryz.prog Tryz.f149 Ir.K32 = true := by kernel_rfl
theorem c150 : Q1j Tryz.prog Tryz.f150 Ir.K2e = true := by kernel_rfl
theorem c151 : Q1j Tryz.prog Tryz.f151 Ir.K3t = true := by kernel_rfl
theorem c155 : Q1j Tryz.prog Tryz.f155 Ir.K3s = true := by kernel_rfl
theorem k80 : Q5w Tryz.prog Tryz.f80 2 32 [.str ⟨#[]⟩, .str ⟨#[]⟩] = true := by kernel_rfl
theorem k81 : Q5w Tryz.prog Tryz.f81 5 48 [.str ⟨#[]⟩, .str ⟨#[]⟩, .int .i64 0, .bool false, .bool false] = true := by kernel_rfl
theorem k82 : Q5w Tryz.prog Tryz.f82 1 16 [.str ⟨#[]⟩] = true := by kernel_rfl
theorem k83 : Q5w Tryz.prog Tryz.f83 2 40 [.str ⟨#[]⟩, .ns 1] = true := by kernel_rfl
theorem k132 : Q5w Tryz.prog Tryz.f132 6 96 [.str ⟨#[]⟩, .int .i64 0, .int .i64 0, .str ⟨#[]⟩, .ns 5, .ns 6] = true := by kernel_rfl
theorem k153 : Q5w Tryz.prog Tryz.f153 5 80 [.int .i64 0, .int .i64 0, .str ⟨#[]⟩, .ns 5, .ns 6] = true := by kernel_rfl
theorem mixed : Tryz.prog.follows .mixedOrders = true := by kernel_rfl
theorem own : ownKnob Tryz.prog.godebug = none := by kernel_rfl
theorem laidOut : laidOutB Tryz.prog = true := by kernel_rfl
theorem tie (cmp : Q1dw Tryz.prog 152) : Tie Tryz.prog (tabG Ir.table) :=
  Qx Tryz.func4 c4 <| Qx Tryz.func8 c8 <| Qx Tryz.func9 c9 <| Qx Tryz.func10 c10 <| Qx Tryz.func11 c11 <| Qx Tryz.func13 c13 <| Qx Tryz.func17 c17 <| Qx Tryz.func20 c20 <| Qx Tryz.func21 c21 <| Qx Tryz.func22 c22 <| Qx Tryz.func23 c23 <| Qx Tryz.func24 c24 <| Qx Tryz.func25 c25 <| Qx Tryz.func28 c28 <| Qx Tryz.func29 c29 <| Qx Tryz.func30 c30 <| Qx Tryz.func31 c31 <| Qx Tryz.func32 c32 <| Qx Tryz.func33 c33 <| Qx Tryz.func36 c36 <| Qx Tryz.func37 c37 <| Qx Tryz.func38 c38 <| Qx Tryz.func39 c39 <| Qx Tryz.func40 c40 <| Qx Tryz.func41 c41 <| Qx Tryz.func42 c42 <| Qx Tryz.func43 c43 <| Qx Tryz.func44 c44 <| Qx Tryz.func56 c56 <| Qx Tryz.func57 c57 <| Qx Tryz.func58 c58 <| Qx Tryz.func59 c59 <| Qx Tryz.func60 c60 <| Qx Tryz.func61 c61 <| Qx Tryz.func62 c62 <| Qx Tryz.func63 c63 <| Qx Tryz.func64 c64 <| Qx Tryz.func65 c65 <| Qx Tryz.func70 c70 <| Qx Tryz.func71 c71 <| Qx Tryz.func72 c72 <| Qx Tryz.func73 c73 <| Qx Tryz.func74 c74 <| Qx Tryz.func77 c77 <| Qx Tryz.func78 c78 <| Qx Tryz.func79 c79 <| (fun h => Q8s h (Qk5 mixed Tryz.func80 k80)) <| (fun h => Q8s h (Qk5 mixed Tryz.func81 k81)) <| (fun h => Q8s h (Qk5 mixed Tryz.func82 k82)) <| (fun h => Q8s h (Qrt mixed Tryz.func83 k83)) <| Qx Tryz.func84 c84 <| Qx Tryz.func85 c85 <| Qx Tryz.func86 c86 <| Qx Tryz.func87 c87 <| Qx Tryz.func88 c88 <| Qx Tryz.func89 c89 <| Qx Tryz.func90 c90 <| Qx Tryz.func91 c91 <| Qx Tryz.func92 c92 <| Qx Tryz.func93 c93 <| Qx Tryz.func94 c94 <| Qx Tryz.func95 c95 <| Qx Tryz.func96 c96 <| Qx Tryz.func97 c97 <| Qx Tryz.func98 c98 <| Qx Tryz.func106 c106 <| Qx Tryz.func107 c107 <| Qx Tryz.func108 c108 <| Qx Tryz.func109 c109 <| Qx Tryz.func110 c110 <| Qx Tryz.func111 c111 <| Qx Tryz.func112 c112 <| Qx Tryz.func113 c113 <| Qx Tryz.func114 c114 <| Qx Tryz.func115 c115 <| Qx Tryz.func116 c116 <| Qx Tryz.func117 c117 <| Qx Tryz.func118 c118 <| Qx Tryz.func119 c119 <| Qx Tryz.func120 c120 <| Qx Tryz.func121 c121 <| Qx Tryz.func122 c122 <| Qx Tryz.func123 c123 <| Qx Tryz.func124 c124 <| Qx Tryz.func125 c125 <| Qx Tryz.func126 c126 <| Qx Tryz.func127 c127 <| Qx Tryz.func128 c128 <| Qx Tryz.func129 c129 <| Qx Tryz.func130 c130 <| Qx Tryz.func131 c131 <| (fun h => Q8s h (Qrt mixed Tryz.func132 k132)) <| Qx Tryz.func133 c133 <| Qx Tryz.func134 c134 <| Qx Tryz.func135 c135 <| Qx Tryz.func136 c136 <| Qx Tryz.func137 c137 <| Qx Tryz.func138 c138 <| Qx Tryz.func139 c139 <| Qx Tryz.func140 c140 <| Qx Tryz.func141 c141 <| Qx Tryz.func142 c142 <| Qx Tryz.func145 c145 <| Qx Tryz.func146 c146 <| Qx Tryz.func147 c147 <| Qx Tryz.func148 c148 <| Qx Tryz.func149 c149 <| Qx Tryz.func150 c150 <| Qx Tryz.func151 c151 <| (fun h => Q8s h cmp) <| (fun h => Q8s h (Qrt mixed Tryz.func153 k153)) <| Qx Tryz.func155 c155 <| Q1fx
end Go.Proofs.YtiflaadeikaghaaGreat
end

