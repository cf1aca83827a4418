/-
  A region, on the machine.
-/
import Derived.Test.YtedohmdgbilicaaPvO
namespace Go.Pv
open Go.RowKit

/-- where a function's run (from w0, D0, H0 on) stands -/
structure At (w0 : World) (D0 : Nat → Option Nat) (H0 : Nat → Option Ob) (F : Nat → Nat → Prop) (n0 m L : Nat) (e : Nat → PV) (H : Nat → Option Ob) (a : Act) (w : World) (D : Nat → Option Nat) : Prop where
  sim : Sim w D H F n0 m
  env : EnvOK w (Mut D H F) D a e
  size : L ≤ a.tmps.size
  out : ∀ t, L ≤ t → e t = .un
  keeps : Keeps (MutO D0 H0) w0 w
  low : ∀ id, id < m → D id = D0 id
  sub : ∀ b o, b < w0.heap.size → Mut D H F b o → Mut D0 H0 F b o
  defers : a.defers = []

section
variable {P : Program} {X : Orc} {w0 : World} {D0 : Nat → Option Nat} {H0 : Nat → Option Ob} {F : Nat → Nat → Prop} {n0 m L : Nat} {e : Nat → PV} {H : Nat → Option Ob} {a : Act} {w : World} {D : Nat → Option Nat}

theorem put_getD {a : Act} {dst : Option Tmp} {v : Value} {t : Nat} : (a.put dst v).tmps.getD t undef = if dst = some t ∧ t < a.tmps.size then v else a.tmps.getD t undef := by
  unfold Act.put
  cases dst with
  | none => simp
  | some d =>
    simp only [Array.getD_eq_getD_getElem?, Array.getElem?_setIfInBounds]
    by_cases c : d = t
    · subst c
      by_cases c' : d < a.tmps.size
      · simp [c']
      · simp [c']
    · simp [c]
theorem put_size {a : Act} {dst : Option Tmp} {v : Value} : (a.put dst v).tmps.size = a.tmps.size := by
  unfold Act.put
  cases dst <;> simp
theorem put_defers {a : Act} {dst : Option Tmp} {v : Value} : (a.put dst v).defers = a.defers := by
  unfold Act.put
  cases dst <;> rfl

/-- a step on -/
theorem At.step (A : At w0 D0 H0 F n0 m L e H a w D) {fr : Nat} {w' : World} {D' : Nat → Option Nat} {H' : Nat → Option Ob} (st : Step w D H F n0 m fr w' D' H') (hmf : m ≤ fr) {dst : Option Tmp} {v : Value} {p : PV} (hr : Rep w' (Mut D' H' F) D' v p) {e' : Nat → PV}
    (he : ∀ t, e' t = if dst = some t ∧ t < L then p else e t) : At w0 D0 H0 F n0 m L e' H' (a.put dst v) w' D' := by
  have hO : ∀ b o, b < w0.heap.size → MutO D H b o → MutO D0 H0 b o := by
    rintro b o hb ⟨id, ob, h1, h2, h3⟩
    rcases A.sub b o hb (.inr ⟨id, ob, h1, h2, h3⟩) with h | h
    · exact absurd h (A.sim.dis id ob b o h1 h2)
    · exact h
  refine ⟨st.sim, fun t => ?_, by rw [put_size]; exact A.size, fun t ht => ?_, A.keeps.trans st.keeps hO, fun id h => ?_, fun b o hb h => A.sub b o hb (st.sub b o (Nat.lt_of_lt_of_le hb A.keeps.size) h), by rw [put_defers]; exact A.defers⟩
  · rw [put_getD, he t]
    by_cases c : dst = some t
    · by_cases c' : t < L
      · rw [if_pos ⟨c, Nat.lt_of_lt_of_le c' A.size⟩, if_pos ⟨c, c'⟩]
        exact hr
      · rw [show (if dst = some t ∧ t < L then p else e t) = .un by rw [if_neg (fun h => c' h.2)]; exact A.out t (Nat.le_of_not_lt c')]
        exact .un _ _
    · rw [if_neg (fun h => c h.1), if_neg (fun h => c h.1)]
      exact st.rep (A.env t)
  · rw [he t, if_neg (fun h => by have := h.2; omega)]
    exact A.out t ht
  · rw [← A.low id h]
    cases hd : D id with
    | none => exact st.fresh id hd (.inl (by omega))
    | some b => exact st.ext id b hd

theorem yielded_sound {ops : Array Oper} {tmps : Array Value} {j s : Nat} (h : (ops[j]?).bind (·.dst) = some s) : (∀ b, tmps.getD s undef = .bool b → yielded ops tmps j = some b) ∧ (∀ xs, tmps.getD s undef = .tuple xs → yielded ops tmps j = none) := by
  unfold yielded
  rw [h]
  simp only [Option.bind_some]
  constructor
  · intro b hb
    rw [Array.getD_eq_getD_getElem?] at hb
    cases ht : tmps[s]? with
    | none => rw [ht] at hb; cases hb
    | some u =>
      rw [ht] at hb
      simp only [Option.getD_some] at hb
      subst hb
      rfl
  · intro xs hx
    rw [Array.getD_eq_getD_getElem?] at hx
    cases ht : tmps[s]? with
    | none => rfl
    | some u =>
      rw [ht] at hx
      simp only [Option.getD_some] at hx
      subst hx
      rfl
theorem wanted_sound {ops : Array Oper} {M : Nat → Nat → Prop} (he : EnvOK w M D a e) {o : Oper} {io : IOper} (hg : chkGuard ops o.guard io.guard = true) {b : Bool} (h : io.wanted e = some b) : Region.wanted o (yielded ops a.tmps) = b := by
  unfold IOper.wanted at h
  unfold Region.wanted
  cases hg1 : o.guard with
  | none =>
    rw [hg1] at hg
    cases hg2 : io.guard with
    | none => rw [hg2] at h; simpa using h
    | some g => rw [hg2] at hg; cases hg
  | some g =>
    obtain ⟨j, wt⟩ := g
    rw [hg1] at hg
    cases hg2 : io.guard with
    | none => rw [hg2] at hg; cases hg
    | some g' =>
      obtain ⟨s, wt'⟩ := g'
      rw [hg2] at hg h
      simp only [chkGuard, Bool.and_eq_true] at hg
      obtain ⟨h1, h2⟩ := hg
      have h1 : wt = wt' := by simpa using h1
      subst h1
      obtain ⟨y1, y2⟩ := yielded_sound (tmps := a.tmps) (optEq_some h2)
      have hr := he s
      simp only at h ⊢
      split at h
      · rename_i b' hb
        rw [hb] at hr
        generalize hx : a.tmps.getD s undef = x at hr
        cases hr with
        | bool _ =>
          rw [y1 b' hx]
          simpa using h
      · rename_i c hb
        rw [hb] at hr
        generalize hx : a.tmps.getD s undef = x at hr
        cases hr with
        | tup _ xs _ _ _ =>
          rw [y2 xs hx]
          simpa using h
      · cases h

/-- one operation of a region -/
theorem oper_sound (hX : CallsOK P X) (A : At w0 D0 H0 F n0 m L e H a w D) {fr : Nat} (hmf : m ≤ fr) (hfr : ∀ id, fr ≤ id → id < fr + 64 → D id = none ∧ H id = none) {ops : Array Oper} {i : Nat} {o : Oper} {io : IOper} (ho : ops[i]? = some o) (hc : chkOper P ops o io = true) {f : Eff} (h : istep X e H fr io = some f)
    {K : Act → World → Prop} {Q : Exit → Act → World → Prop} {e' : Nat → PV} {H' : Nat → Option Ob} (he : ∀ t, e' t = if io.dst = some t ∧ t < L then f.v else e t) (hH : upH H f.hw = H')
    (hK : ∀ a' w' D', At w0 D0 H0 F n0 m L e' H' a' w' D' → (∀ id, D id = none → (id < fr ∨ fr + 64 ≤ id) → D' id = none) → K a' w') : wpOp P ops Q i K a w := by
  subst hH
  unfold chkOper at hc
  rw [Bool.and_eq_true, Bool.and_eq_true] at hc
  obtain ⟨⟨hd, hg⟩, hop⟩ := hc
  have hd := optNatEq_spec hd
  unfold istep at h
  obtain ⟨b, hb, h⟩ := bind_some h
  have hw := wanted_sound A.env hg hb
  unfold wpOp
  simp only [ho]
  rw [hw]
  cases b with
  | true =>
    simp only [cond_true] at h
    rw [if_pos rfl]
    refine .inl (iop_sound hX A.sim hfr A.env hop h fun v w' D' st hr => hK _ _ D' (A.step st hmf hr (fun t => ?_)) st.fresh)
    rw [hd]; exact he t
  | false =>
    simp only [cond_false, Option.some.injEq] at h
    subst h
    rw [if_neg (by simp)]
    refine hK _ _ D (A.step (fr := fr) (Step.same A.sim rfl rfl rfl rfl) hmf (p := .tup []) (.tup _ #[] [] rfl (fun i v p hv => by simp at hv)) (fun t => ?_)) (fun id h _ => h)
    rw [hd]; exact he t

theorem upH_free {ws : List (Nat × Option Ob)} {fr id : Nat} (h : ∀ y ∈ ws, (∃ ob, H y.1 = some ob) ∨ (fr ≤ y.1 ∧ y.1 < fr + 64)) (h1 : H id = none) (h2 : ¬ (fr ≤ id ∧ id < fr + 64)) : upH H ws id = none := by
  rw [upH_not (fun y hy e => ?_)]
  · exact h1
  · subst e
    rcases h y hy with ⟨ob, hob⟩ | h'
    · rw [h1] at hob; cases hob
    · exact h2 h'

/-- in the text's order -/
theorem plain_sound (hX : CallsOK P X) {nx : Nat} (hmn : m ≤ nx) {ops : Array Oper} {Q : Exit → Act → World → Prop} : ∀ (r : List IOper) (i : Nat) (env : List PV) (h : List (Nat × Ob)) (y : List PV × List (Nat × Ob) × List Eff) (a : Act) (w : World) (D : Nat → Option Nat),
    iregion X nx i r env h = some y → (∀ j o io, ops[i + j]? = some o → r[j]? = some io → chkOper P ops o io = true) → i + r.length = ops.size → At w0 D0 H0 F n0 m env.length (envF env) (look h) a w D → (∀ id, nx + 64 * i ≤ id → D id = none ∧ look h id = none) →
      (∀ a' w' D', At w0 D0 H0 F n0 m y.1.length (envF y.1) (look y.2.1) a' w' D' → (∀ id, nx + 64 * ops.size ≤ id → D' id = none ∧ look y.2.1 id = none) → Q .normal a' w') → wpOps P ops Q (List.range' i r.length) a w
  | [], i, env, h, y, a, w, D, hy, hc, hn, A, hf, hQ => by
    simp only [iregion, Option.some.injEq] at hy
    subst hy
    simp only [List.length_nil, Nat.add_zero] at hn
    subst hn
    exact hQ a w D A hf
  | o :: r, i, env, h, y, a, w, D, hy, hc, hn, A, hf, hQ => by
    simp only [iregion] at hy
    obtain ⟨x, hst, hy⟩ := bind_some hy
    obtain ⟨z, hz, hy⟩ := bind_some hy
    injection hy with hy
    subst hy
    have hlt : i < ops.size := by rw [← hn]; simp
    have hoi : ops[i]? = some ops[i] := Array.getElem?_eq_getElem hlt
    rw [List.length_cons, List.range'_succ, wpOps_cons]
    refine oper_sound hX A (fr := nx + 64 * i) (by omega) (fun id h1 _ => hf id h1) hoi (hc 0 _ o hoi rfl) hst (e' := envF (put env o.dst x.v)) (H' := look (hput h x.hw)) (fun t => envF_put) (look_hput _ _).symm (fun a' w' D' A' hfr' => ?_)
    have hput : (put env o.dst x.v).length = env.length := put_length
    refine plain_sound hX hmn r (i + 1) _ _ z a' w' D' hz (fun j o' io h1 h2 => hc (j + 1) o' io (by rw [show i + (j + 1) = i + 1 + j by omega]; exact h1) (by simpa using h2)) (by rw [← hn]; simp; omega) (by rw [hput]; exact A') (fun id hid => ?_) hQ
    have := hf id (by omega)
    exact ⟨hfr' id this.1 (by omega), by rw [look_hput]; exact upH_free (istep_hw hst) this.2 (by omega)⟩

/-- which are done -/
def Done (listed : Array Bool) (j : Nat) : Prop := listed.getD j false = true
theorem done_lt {listed : Array Bool} {j : Nat} (h : Done listed j) : j < listed.size := by
  unfold Done at h
  rcases Nat.lt_or_ge j listed.size with c | c
  · exact c
  · rw [Array.getD_eq_getD_getElem?, Array.getElem?_eq_none c] at h
    cases h
theorem done_set {listed : Array Bool} {i k : Nat} (hi : i < listed.size) : Done (listed.setIfInBounds i true) k ↔ Done listed k ∨ k = i := by
  unfold Done
  rw [Array.getD_eq_getD_getElem?, Array.getD_eq_getD_getElem?, Array.getElem?_setIfInBounds]
  by_cases c : i = k
  · subst c
    simp [hi]
  · rw [if_neg c]
    constructor
    · exact fun h => .inl h
    · rintro (h | h)
      · exact h
      · exact absurd h.symm c
theorem not_done {listed : Array Bool} {i : Nat} (hi : i < listed.size) : listed.getD i true = false ↔ ¬ Done listed i := by
  unfold Done
  rw [Array.getD_eq_getD_getElem?, Array.getD_eq_getD_getElem?, Array.getElem?_eq_getElem hi]
  simp

/-- how many are still to come -/
def todo (listed : Array Bool) : Nat := listed.toList.countP (fun b => !b)
theorem todo_set {listed : Array Bool} {i : Nat} (hi : i < listed.size) (h : ¬ Done listed i) : todo listed = todo (listed.setIfInBounds i true) + 1 := by
  unfold todo
  have hb : listed[i] = false := by
    unfold Done at h
    rw [Array.getD_eq_getD_getElem?, Array.getElem?_eq_getElem hi] at h
    simpa using h
  rw [Array.toList_setIfInBounds]
  have hl : i < listed.toList.length := by simpa using hi
  have hb' : listed.toList[i] = false := by simpa using hb
  have key : ∀ (l : List Bool) (i : Nat) (hl : i < l.length), l[i] = false → l.countP (fun b => !b) = (l.set i true).countP (fun b => !b) + 1 := by
    intro l
    induction l with
    | nil => intro i hl; simp at hl
    | cons x r ih =>
      intro i hl hx
      cases i with
      | zero =>
        simp at hx
        subst hx
        simp
      | succ i =>
        have := ih i (by simpa using hl) (by simpa using hx)
        cases x <;> simp [this]
  exact key _ i hl hb'
theorem todo_pos {listed : Array Bool} (h : todo listed ≠ 0) : ∃ i, i < listed.size ∧ ¬ Done listed i := by
  unfold todo at h
  have : 0 < listed.toList.countP (fun b => !b) := Nat.pos_of_ne_zero h
  obtain ⟨b, hb, h2⟩ := List.countP_pos_iff.1 this
  obtain ⟨i, hi⟩ := List.getElem?_of_mem hb
  have hl : i < listed.size := by have := (List.getElem?_eq_some_iff.1 hi).1; simpa using this
  refine ⟨i, hl, fun hd => ?_⟩
  unfold Done at hd
  rw [Array.getD_eq_getD_getElem?, ← Array.getElem?_toList, hi] at hd
  simp only [Option.getD_some] at hd
  subst hd
  cases h2

theorem draw_sound (hX : CallsOK P X) {nx : Nat} (hmn : m ≤ nx) {ops : Array Oper} {ios : List IOper} {xs : List Eff} {Q : Exit → Act → World → Prop} {e0 : Nat → PV} {Hs : Nat → Option Ob} {ef : Nat → PV} {Hf : Nat → Option Ob}
    (hlen : ios.length = ops.size) (hxl : xs.length = ops.size) (hc : ∀ (j : Nat) o io, ops[j]? = some o → ios[j]? = some io → chkOper P ops o io = true) (hb : chkBef ios 0 ops.toList ios = true) (hcalm : calm (ios.zip xs) 0 (ios.zip xs) = true)
    (hst : ∀ (j : Nat) o x, ios[j]? = some o → xs[j]? = some x → ∃ e H, Last (WE L ios xs) e0 (· < j) e ∧ Last (WH xs) Hs (· < j) H ∧ istep X e H (nx + 64 * j) o = some x)
    (hef : Last (WE L ios xs) e0 (· < ops.size) ef) (hHf : Last (WH xs) Hs (· < ops.size) Hf)
    (hQ : ∀ a' w' D', At w0 D0 H0 F n0 m L ef Hf a' w' D' → (∀ id, nx + 64 * ops.size ≤ id → D' id = none ∧ Hf id = none) → Q .normal a' w') :
    ∀ (fuel : Nat) (listed : Array Bool) (a : Act) (w : World) (e : Nat → PV) (H : Nat → Option Ob) (D : Nat → Option Nat), listed.size = ops.size → todo listed = fuel → (∀ j io, ios[j]? = some io → Done listed j → ∀ i ∈ io.bef, Done listed i) →
      Last (WE L ios xs) e0 (Done listed) e → Last (WH xs) Hs (Done listed) H → At w0 D0 H0 F n0 m L e H a w D → (∀ id, nx ≤ id → (∀ j, Done listed j → ¬ (nx + 64 * j ≤ id ∧ id < nx + 64 * j + 64)) → D id = none ∧ H id = none) →
        wpAny P .any ops Q fuel listed a w := by
  have noclash : ∀ (i k : Nat) oi xi ok xk, i < k → ios[i]? = some oi → xs[i]? = some xi → ios[k]? = some ok → xs[k]? = some xk → i ∈ ok.bef ∨ clash oi xi ok xk = false := by
    intro i k oi xi ok xk hlt h1 h2 h3 h4
    exact calm_spec hcalm (fun k => by simp) i k oi xi ok xk (Nat.zero_le _) hlt (by rw [List.getElem?_zip_eq_some]; exact ⟨h1, h2⟩) (by rw [List.getElem?_zip_eq_some]; exact ⟨h3, h4⟩)
  have bef := chkBef_spec hb
  intro fuel
  -- all done
  have fin_ : ∀ (listed : Array Bool) (a : Act) (w : World) (e : Nat → PV) (H : Nat → Option Ob) (D : Nat → Option Nat), listed.size = ops.size → (∀ j, j < ops.size → Done listed j) → Last (WE L ios xs) e0 (Done listed) e → Last (WH xs) Hs (Done listed) H → At w0 D0 H0 F n0 m L e H a w D →
      (∀ id, nx ≤ id → (∀ j, Done listed j → ¬ (nx + 64 * j ≤ id ∧ id < nx + 64 * j + 64)) → D id = none ∧ H id = none) → Q .normal a w := by
    intro listed a w e H D hsz hall l1 l2 A hf
    have e1 : e = ef := funext fun t => l1.det hef (fun k _ => ⟨fun h => by have := done_lt h; omega, fun h => hall k h⟩)
    have e2 : H = Hf := funext fun t => l2.det hHf (fun k _ => ⟨fun h => by have := done_lt h; omega, fun h => hall k h⟩)
    subst e1 e2
    exact hQ a w D A (fun id hid => hf id (by omega) (fun j hj => by have := done_lt hj; omega))
  induction fuel with
  | zero =>
    intro listed a w e H D hsz ht hcl l1 l2 A hf
    have hall : ∀ j, j < ops.size → Done listed j := by
      intro j hj
      by_cases c : Done listed j
      · exact c
      · have := todo_set (by omega) c
        omega
    refine ⟨?_, fin_ listed a w e H D hsz hall l1 l2 A hf⟩
    cases hr : Region.ready .any ops listed with
    | nil => rfl
    | cons i r =>
      have hi : i ∈ Region.ready .any ops listed := by rw [hr]; exact List.mem_cons_self
      obtain ⟨g1, o, g2, _⟩ := mem_ready.1 hi
      have hlt : i < ops.size := (Array.getElem?_eq_some_iff.1 g2).1
      exact absurd (hall i hlt) ((not_done (by omega)).1 g1)
  | succ fuel ih =>
    intro listed a w e H D hsz ht hcl l1 l2 A hf
    refine ⟨fun hr => ?_, fun i hi => ?_⟩
    · -- some operation is ready
      exfalso
      obtain ⟨i, hi, hnd⟩ := todo_pos (listed := listed) (by omega)
      have key : ∀ (n i : Nat), i < n → i < listed.size → ¬ Done listed i → False := by
        intro n
        induction n with
        | zero => intro i h; omega
        | succ n ihn =>
          intro i hin hi hnd
          by_cases c : ∃ j, j < i ∧ ¬ Done listed j
          · obtain ⟨j, hj, hjn⟩ := c
            exact ihn j (by omega) (by omega) hjn
          · have hilt : i < ops.size := by omega
            have : i ∈ Region.ready .any ops listed := by
              rw [mem_ready]
              refine ⟨(not_done hi).2 hnd, ops[i], Array.getElem?_eq_getElem hilt, fun ed hed hbd => ?_⟩
              have hlt := (bef i ops[i] (ios[i]'(by omega)) (by simp [hilt]) (List.getElem?_eq_getElem (by omega))).2 ed hed hbd
              by_cases c' : Done listed ed.on
              · exact c'
              · exact absurd ⟨ed.on, by omega, c'⟩ c
            rw [hr] at this
            cases this
      exact key (i + 1) i (by omega) hi hnd
    · obtain ⟨g1, o, g2, g3⟩ := mem_ready.1 hi
      have hlt : i < ops.size := (Array.getElem?_eq_some_iff.1 g2).1
      have hnd : ¬ Done listed i := (not_done (by omega)).1 g1
      have hio : ios[i]? = some (ios[i]'(by omega)) := List.getElem?_eq_getElem (by omega)
      have hxi : xs[i]? = some (xs[i]'(by omega)) := List.getElem?_eq_getElem (by omega)
      generalize ios[i]'(by omega) = io at hio
      generalize xs[i]'(by omega) = x at hxi
      obtain ⟨et, Ht, t1, t2, t3⟩ := hst i io x hio hxi
      -- i's own predecessors are done
      have hbi : ∀ k ∈ io.bef, Done listed k := by
        intro k hk
        obtain ⟨ed, hed, hbd, h⟩ := (bef i o io (by simpa using g2) hio).1 k hk
        have hd : Done listed ed.on := g3 ed hed hbd
        rcases h with rfl | h
        · exact hd
        · unfold befOf at h
          split at h
          · rename_i io' hio'
            exact hcl ed.on io' hio' hd k h
          · cases h
      -- who meddles with i, and is done, stands ahead of it in the text; and the other way round
      have later : ∀ k ok xk, i < k → ios[k]? = some ok → xs[k]? = some xk → Done listed k → clash io x ok xk = false := by
        intro k ok xk hik h1 h2 h3
        rcases noclash i k io x ok xk hik hio hxi h1 h2 with h | h
        · exact absurd (hcl k ok h1 h3 i h) hnd
        · exact h
      have ahead : ∀ k ok xk, k < i → ios[k]? = some ok → xs[k]? = some xk → Done listed k ∨ clash ok xk io x = false := by
        intro k ok xk hik h1 h2
        rcases noclash k i ok xk io x hik h1 h2 hio hxi with h | h
        · exact .inl (hbi k h)
        · exact .inr h
      -- what i looks at is what it looked at in the text's order
      have see1 : ∀ t ∈ io.looks, e t = et t := by
        intro t ht
        refine l1.det t1 (fun k hk => ?_)
        obtain ⟨ok, xk, h1, h2, h3, _⟩ := WE_ne hk
        constructor
        · intro hdk
          rcases Nat.lt_trichotomy k i with c | c | c
          · exact c
          · subst c; exact absurd hdk hnd
          · exact absurd ht ((clash_spec (later k ok xk c h1 h2 hdk)).2.1 t h3)
        · intro hki
          rcases ahead k ok xk hki h1 h2 with h | h
          · exact h
          · exact absurd ht ((clash_spec h).1 t h3)
      have see2 : ∀ id ∈ x.hr, H id = Ht id := by
        intro id hid
        refine l2.det t2 (fun k hk => ?_)
        obtain ⟨xk, h2, h3⟩ := WH_ne hk
        have hkl : k < ios.length := by have := (List.getElem?_eq_some_iff.1 h2).1; omega
        have h1 : ios[k]? = some ios[k] := List.getElem?_eq_getElem hkl
        constructor
        · intro hdk
          rcases Nat.lt_trichotomy k i with c | c | c
          · exact c
          · subst c; exact absurd hdk hnd
          · exact absurd hid ((clash_spec (later k _ xk c h1 h2 hdk)).2.2.2.2 id h3)
        · intro hki
          rcases ahead k _ xk hki h1 h2 with h | h
          · exact h
          · exact absurd hid ((clash_spec h).2.2.2.1 id h3).1
      have run := istep_local t3 see1 see2
      -- the new state
      have hdone := fun k => done_set (k := k) (show i < listed.size by omega)
      have n1 : Last (WE L ios xs) e0 (Done (listed.setIfInBounds i true)) (fun t => (WE L ios xs i t).getD (e t)) := l1.add hdone (fun k t hk hik hne => by
        obtain ⟨ok, xk, h1, h2, h3, _⟩ := WE_ne hne
        exact WE_none hio (fun hd => (clash_spec (later k ok xk hik h1 h2 hk)).2.2.1 t hd h3)) (fun t => rfl)
      have n2 : Last (WH xs) Hs (Done (listed.setIfInBounds i true)) (upH H x.hw) := l2.add hdone (fun k id hk hik hne => by
        obtain ⟨xk, h2, h3⟩ := WH_ne hne
        have hkl : k < ios.length := by have := (List.getElem?_eq_some_iff.1 h2).1; omega
        have h1 : ios[k]? = some ios[k] := List.getElem?_eq_getElem hkl
        exact WH_none hxi (fun hi' => ((clash_spec (later k _ xk hik h1 h2 hk)).2.2.2.1 id hi').2 h3)) (fun t => (WH_getD hxi H).symm)
      have hfree : ∀ id, nx + 64 * i ≤ id → id < nx + 64 * i + 64 → D id = none ∧ H id = none := fun id h1 h2 => hf id (by omega) (fun j hj hc' => by
        have : j = i := by omega
        subst this
        exact hnd hj)
      refine oper_sound hX A (fr := nx + 64 * i) (by omega) hfree g2 (hc i o io g2 hio) run (e' := fun t => (WE L ios xs i t).getD (e t)) (H' := upH H x.hw) (fun t => WE_getD hio hxi (e t)) rfl (fun a' w' D' A' hfr' => ?_)
      refine ih (listed.setIfInBounds i true) a' w' _ _ D' (by simpa using hsz) (by have := todo_set (show i < listed.size by omega) hnd; omega) (fun j io' hj hdj k hk => ?_) n1 n2 A' (fun id hid hno => ?_)
      · rw [hdone]
        rcases (hdone j).1 hdj with h | rfl
        · exact .inl (hcl j io' hj h k hk)
        · rw [hio] at hj
          injection hj with hj
          subst hj
          exact .inl (hbi k hk)
      · have h1 := hf id hid (fun j hj => hno j ((hdone j).2 (.inl hj)))
        have h2 := hno i ((hdone i).2 (.inr rfl))
        exact ⟨hfr' id h1.1 (by omega), upH_free (istep_hw run) h1.2 h2⟩

def chkReg (P : Program) (ops : Array Oper) (ios : List IOper) (draw : Bool) : Bool := chkOpers P ops ops.toList ios && (!draw || chkBef ios 0 ops.toList ios)

/-- A REGION. -/
theorem region_sound (hm : P.follows .mixedOrders = true) (hX : CallsOK P X) {id : Nat} {ops : Array Oper} {ios : List IOper} {draw : Bool} (hc : chkReg P ops ios draw = true) {s s' : St} (h : ireg X ios draw s = some s') {Q : Exit → Act → World → Prop}
    (A : At w0 D0 H0 F n0 m s.env.length (envF s.env) (look s.heap) a w D) (hf : ∀ id, s.nx ≤ id → D id = none ∧ look s.heap id = none) (hmn : m ≤ s.nx)
    (hQ : ∀ a' w' D', At w0 D0 H0 F n0 m s'.env.length (envF s'.env) (look s'.heap) a' w' D' → (∀ id, s'.nx ≤ id → D' id = none ∧ look s'.heap id = none) → Q .normal a' w') : (Code.region id ops draw).wp P Q a w := by
  unfold chkReg at hc
  rw [Bool.and_eq_true] at hc
  obtain ⟨hc1, hc2⟩ := hc
  obtain ⟨hl, hch⟩ := chkOpers_spec hc1
  have hl : ios.length = ops.size := by simpa using hl.symm
  have hch' : ∀ j o io, ops[j]? = some o → ios[j]? = some io → chkOper P ops o io = true := fun j o io h1 h2 => hch j o io (by simpa using h1) h2
  unfold ireg at h
  obtain ⟨y, hy, h⟩ := bind_some h
  cases hcm : (!draw || calm (ios.zip y.2.2) 0 (ios.zip y.2.2)) with
  | false => rw [hcm] at h; cases h
  | true =>
    rw [hcm] at h
    simp only [cond_true, Option.some.injEq] at h
    subst h
    simp only at hQ
    rw [hl] at hQ
    cases draw with
    | false =>
      refine wp_region ?_
      have := plain_sound hX hmn ios 0 s.env s.heap y a w D hy (fun j o io h1 h2 => hch' j o io (by simpa using h1) h2) (by omega) A (fun id h => hf id (by omega)) hQ
      rw [List.range_eq_range', ← hl]
      exact this
    | true =>
      refine wp_region_any hm ?_
      obtain ⟨g1, g2, g3, g4, g5⟩ := iregion_spec (ios := ios) (xs := y.2.2) (L := s.env.length) (e0 := envF s.env) (H0 := look s.heap) ios 0 s.env s.heap y hy (fun j => by simp) (fun j => by simp) rfl (Last.none (fun k => by omega)) (Last.none (fun k => by omega))
      rw [g2] at hQ
      rw [Nat.zero_add, hl] at g4 g5
      have hnone : ∀ j, ¬ Done (Array.replicate ops.size false) j := by
        intro j hj
        unfold Done at hj
        rw [Array.getD_eq_getD_getElem?, Array.getElem?_replicate] at hj
        split at hj <;> cases hj
      have htodo : todo (Array.replicate ops.size false) = ops.size := by
        unfold todo
        simp [List.countP_replicate]
      have A' : At w0 D0 H0 F n0 m s.env.length (envF s.env) (look s.heap) a { w with drawn := w.drawn + 1 } D := by
        have st : Step w D (look s.heap) F n0 m m { w with drawn := w.drawn + 1 } D (look s.heap) := Step.same A.sim rfl rfl rfl rfl
        have := A.step st (Nat.le_refl _) (dst := none) (v := undef) (p := .un) (.un _ _) (e' := envF s.env) (fun t => by simp)
        exact this
      exact draw_sound hX hmn hl (by omega) hch' (by simpa using hc2) (by simpa using hcm) (fun j o x h1 h2 => g3 j o x (Nat.zero_le _) h1 h2) g4 g5 hQ ops.size (Array.replicate ops.size false) a _ (envF s.env) (look s.heap) D (by simp) htodo
        (fun j io _ hd => absurd hd (hnone j)) (Last.none hnone) (Last.none hnone) A' (fun id hid _ => hf id hid)

end
end Go.Pv
