/-
  Code, loops, functions: WHAT THE EVALUATOR ANSWERS, THE MACHINE ANSWERS.
-/
import Derived.Test.YtedohmdgbilicaaPvQ
namespace Go.Pv
open Go.RowKit

def chkCode (P : Program) : IR → Code → Bool
  | .skip, c => (match c with | .skip => true | .label _ => true | _ => false)
  | .reg ios draw, c => (match c with | .region _ ops d => (d == draw) && chkReg P ops ios draw | _ => false)
  | .seq a b, c => (match c with | .seq x y => chkCode P a x && chkCode P b y | _ => false)
  | .cond q a b, c => (match c with | .cond p x y => opdOK p q && chkCode P a x && chkCode P b y | _ => false)
  | .block id b, c => (match c with | .block id' x => Nat.beq id id' && chkCode P b x | _ => false)
  | .loop _ b, c => (match c with | .loop x => chkCode P b x | _ => false)
  | .exit id, c => (match c with | .exit id' => Nat.beq id id' | _ => false)
  | .ret, c => (match c with | .ret => true | _ => false)

def exOf : Ex → Exit
  | .normal => .normal
  | .exit id => .exit id
  | .ret => .ret

section
variable {P : Program} {X : Orc}

/-- What a loop's answer says of the machine. -/
def LoopOK (P : Program) (m : Nat) (b : IR) (env : List PV) (h : List Ob) (x : Ex) (s' : St) : Prop :=
  ∃ n, ∀ (c : Code), chkCode P b c = true → ∀ (w0 : World) (D0 : Nat → Option Nat) (H0 : Nat → Option Ob) (F : Nat → Nat → Prop) (n0 : Nat) (a : Act) (w : World) (D : Nat → Option Nat) (Q : Exit → Act → World → Prop),
    At w0 D0 H0 F n0 m env.length (envF env) (hF h) a w D → (∀ id, h.length ≤ id → D id = none) → m ≤ h.length →
      (∀ a' w' D', At w0 D0 H0 F n0 m s'.env.length (envF s'.env) (look s'.heap) a' w' D' → (∀ id, s'.nx ≤ id → D' id = none ∧ look s'.heap id = none) → m ≤ s'.nx → Q (exOf x) a' w') → Code.rounds P c Q n a w
def LoopsOK (P : Program) (X : Orc) : Prop := ∀ m live b env h x s', X (.loop m live b env h) = some (.st x s') → LoopOK P m b env h x s'

variable {w0 : World} {D0 : Nat → Option Nat} {H0 : Nat → Option Ob} {F : Nat → Nat → Prop} {n0 m : Nat}

theorem ireg_nx {ops : List IOper} {draw : Bool} {s s' : St} (h : ireg X ops draw s = some s') : s.nx ≤ s'.nx := by
  unfold ireg at h
  obtain ⟨y, hy, h⟩ := bind_some h
  cases hc : (!draw || calm (ops.zip y.2.2) 0 (ops.zip y.2.2)) with
  | false => rw [hc] at h; cases h
  | true =>
    rw [hc] at h
    simp only [cond_true, Option.some.injEq] at h
    subst h
    exact Nat.le_add_right _ _

theorem code_sound (hm : P.follows .mixedOrders = true) (hX : CallsOK P X) (hL : LoopsOK P X) : ∀ (ir : IR) (c : Code), chkCode P ir c = true → ∀ (s : St) (x : Ex) (s' : St), icode X m ir s = some (x, s') → ∀ (a : Act) (w : World) (D : Nat → Option Nat) (Q : Exit → Act → World → Prop),
    At w0 D0 H0 F n0 m s.env.length (envF s.env) (look s.heap) a w D → (∀ id, s.nx ≤ id → D id = none ∧ look s.heap id = none) → m ≤ s.nx →
      (∀ a' w' D', At w0 D0 H0 F n0 m s'.env.length (envF s'.env) (look s'.heap) a' w' D' → (∀ id, s'.nx ≤ id → D' id = none ∧ look s'.heap id = none) → m ≤ s'.nx → Q (exOf x) a' w') → Code.wp P c Q a w := by
  intro ir
  induction ir with
  | skip =>
    intro c hc s x s' h a w D Q A hf hn hQ
    simp only [icode, Option.some.injEq, Prod.mk.injEq] at h
    obtain ⟨rfl, rfl⟩ := h
    cases c <;> first | (cases hc; done) | skip
    · exact wp_skip (hQ a w D A hf hn)
    · exact wp_label (hQ a w D A hf hn)
  | reg ios draw =>
    intro c hc s x s' h a w D Q A hf hn hQ
    simp only [icode] at h
    obtain ⟨s1, hs, h⟩ := bind_some h
    simp only [Option.some.injEq, Prod.mk.injEq] at h
    obtain ⟨rfl, rfl⟩ := h
    cases c <;> first | (cases hc; done) | skip
    rename_i id ops d
    simp only [chkCode, Bool.and_eq_true] at hc
    have hd : d = draw := by simpa using hc.1
    subst hd
    exact region_sound hm hX hc.2 hs A hf hn (fun a' w' D' A' hf' => hQ a' w' D' A' hf' (Nat.le_trans hn (ireg_nx hs)))
  | seq p q ihp ihq =>
    intro c hc s x s' h a w D Q A hf hn hQ
    simp only [icode] at h
    obtain ⟨⟨x1, s1⟩, h1, h⟩ := bind_some h
    cases c <;> first | (cases hc; done) | skip
    rename_i cx cy
    simp only [chkCode, Bool.and_eq_true] at hc
    refine wp_seq (ihp cx hc.1 s x1 s1 h1 a w D _ A hf hn fun a' w' D' A' hf' hn' => ?_)
    cases x1 with
    | normal => exact ihq cy hc.2 s1 x s' h a' w' D' Q A' hf' hn' hQ
    | exit j =>
      simp only [Option.some.injEq, Prod.mk.injEq] at h
      obtain ⟨rfl, rfl⟩ := h
      exact hQ a' w' D' A' hf' hn'
    | ret =>
      simp only [Option.some.injEq, Prod.mk.injEq] at h
      obtain ⟨rfl, rfl⟩ := h
      exact hQ a' w' D' A' hf' hn'
  | cond q p r ihp ihr =>
    intro c hc s x s' h a w D Q A hf hn hQ
    cases c <;> first | (cases hc; done) | skip
    rename_i cq cx cy
    simp only [chkCode, Bool.and_eq_true] at hc
    have hq := opd_sound A.env hc.1.1
    simp only [icode] at h
    split at h
    · rename_i t ht
      rw [ht] at hq
      have he : a.eval cq = .bool t := by
        generalize a.eval cq = u at hq
        cases hq with
        | bool _ _ => rfl
      refine wp_cond he ?_
      cases t with
      | true => exact ihp cx hc.1.2 s x s' h a w D Q A hf hn hQ
      | false => exact ihr cy hc.2 s x s' h a w D Q A hf hn hQ
    · cases h
  | block id p ih =>
    intro c hc s x s' h a w D Q A hf hn hQ
    simp only [icode] at h
    obtain ⟨⟨x1, s1⟩, h1, h⟩ := bind_some h
    cases c <;> first | (cases hc; done) | skip
    rename_i id' cx
    simp only [chkCode, Bool.and_eq_true] at hc
    have hid := Nat.eq_of_beq_eq_true hc.1
    subst hid
    refine wp_block (ih cx hc.2 s x1 s1 h1 a w D _ A hf hn fun a' w' D' A' hf' hn' => ?_)
    cases x1 with
    | normal =>
      simp only [Option.some.injEq, Prod.mk.injEq] at h
      obtain ⟨rfl, rfl⟩ := h
      exact hQ a' w' D' A' hf' hn'
    | ret =>
      simp only [Option.some.injEq, Prod.mk.injEq] at h
      obtain ⟨rfl, rfl⟩ := h
      exact hQ a' w' D' A' hf' hn'
    | exit j =>
      simp only at h
      by_cases e : j = id
      · subst e
        simp only [Nat.beq_refl, cond_true, Option.some.injEq, Prod.mk.injEq] at h
        obtain ⟨rfl, rfl⟩ := h
        show Exit.inBlock j Q (.exit j) a' w'
        simp only [Exit.inBlock, if_true]
        exact hQ a' w' D' A' hf' hn'
      · have : Nat.beq j id = false := by rw [Bool.eq_false_iff]; exact fun h => e (Nat.eq_of_beq_eq_true h)
        simp only [this, cond_false, Option.some.injEq, Prod.mk.injEq] at h
        obtain ⟨rfl, rfl⟩ := h
        show Exit.inBlock id Q (.exit j) a' w'
        simp only [Exit.inBlock, if_neg e]
        exact hQ a' w' D' A' hf' hn'
  | loop live b ih =>
    intro c hc s x s' h a w D Q A hf hn hQ
    simp only [icode] at h
    obtain ⟨y, hy, h⟩ := bind_some h
    obtain ⟨r, hr, h⟩ := bind_some h
    cases r with
    | ret _ _ => cases h
    | st x1 s1 =>
      simp only [Option.some.injEq, Prod.mk.injEq] at h
      obtain ⟨rfl, rfl⟩ := h
      cases c <;> first | (cases hc; done) | skip
      rename_i cx
      simp only [chkCode] at hc
      obtain ⟨D', A', hf', hn'⟩ := gc_sound A hf hy
      obtain ⟨n, hn1⟩ := hL _ _ _ _ _ _ _ hr
      exact wp_loop_rounds n (hn1 cx hc w0 D0 H0 F n0 a w D' Q A' (fun id h => (hf' id h).1) hn' hQ)
  | exit id =>
    intro c hc s x s' h a w D Q A hf hn hQ
    simp only [icode, Option.some.injEq, Prod.mk.injEq] at h
    obtain ⟨rfl, rfl⟩ := h
    cases c <;> first | (cases hc; done) | skip
    rename_i id'
    simp only [chkCode] at hc
    have hid := Nat.eq_of_beq_eq_true hc
    subst hid
    exact wp_exit (hQ a w D A hf hn)
  | ret =>
    intro c hc s x s' h a w D Q A hf hn hQ
    simp only [icode, Option.some.injEq, Prod.mk.injEq] at h
    obtain ⟨rfl, rfl⟩ := h
    cases c <;> first | (cases hc; done) | skip
    exact wp_ret (hQ a w D A hf hn)

/-! ### functions -/
def chkFn (P : Program) (Fn : Func) (fn : IFn) : Bool :=
  Nat.beq Fn.ntmps fn.nt && Nat.ble fn.np fn.nt && chkRes P Fn.results.toList fn.res && (match Fn.body with | some c => chkCode P fn.body c | none => false) && !(Fn.name == "runtime.NumGoroutine")
def CmpOK (P : Program) (f : Nat) : Prop := Callable P f ∧ ∀ (x y : ByteArray) (w : World), Calls P f #[.string x, .string y] w fun e w' => e = .returned (.int .i64 (cmpL x.toList y.toList)) ∧ w' = w
def AxOK (P : Program) (f : Nat) (φ : List PV → Option (PV × List Ob)) : Prop := ∀ args r h', φ args = some (r, h') → Callable P f ∧ CallOK P f args [] r h'
def Tie (P : Program) (G : Nat → Option Fun) : Prop := ∀ f d, G f = some d → match d with
  | .ir fn => ∃ Fn, P.funcs[f]? = some Fn ∧ chkFn P Fn fn = true
  | .cmpstr => CmpOK P f
  | .ax φ => AxOK P f φ

theorem chkFn_spec {Fn : Func} {fn : IFn} (h : chkFn P Fn fn = true) : Fn.ntmps = fn.nt ∧ fn.np ≤ fn.nt ∧ chkRes P Fn.results.toList fn.res = true ∧ (∃ c, Fn.body = some c ∧ chkCode P fn.body c = true) ∧ (Fn.name == "runtime.NumGoroutine") = false := by
  unfold chkFn at h
  simp only [Bool.and_eq_true] at h
  obtain ⟨⟨⟨⟨h1, h2⟩, h3⟩, h4⟩, h5⟩ := h
  refine ⟨Nat.eq_of_beq_eq_true h1, Nat.le_of_ble_eq_true h2, h3, ?_, by simpa using h5⟩
  split at h4
  · rename_i c hc; exact ⟨c, hc, h4⟩
  · cases h4

theorem nuns_spec : ∀ (n t : Nat), (nuns n).length = n ∧ envF (nuns n) t = .un
  | 0, t => ⟨rfl, rfl⟩
  | n + 1, t => by
    obtain ⟨h1, h2⟩ := nuns_spec n (t - 1)
    refine ⟨by simp [nuns, h1], ?_⟩
    cases t with
    | zero => rfl
    | succ t => simpa [nuns, envF] using h2

theorem fn_sound (hm : P.follows .mixedOrders = true) (hX : CallsOK P X) (hL : LoopsOK P X) {f : Nat} {Fn : Func} {fn : IFn} (hf : P.funcs[f]? = some Fn) (hc : chkFn P Fn fn = true) {args : List PV} {h : List Ob} (hal : args.length = fn.np) {x : Ex} {s : St}
    (hrun : icode X h.length fn.body ⟨args ++ nuns (fn.nt - fn.np), number 0 h, h.length⟩ = some (x, s)) (hx : ∀ j, x ≠ .exit j) {r : PV} {h' : List Ob} (hfin : fin fn h.length s = some (.ret r h')) : Callable P f ∧ CallOK P f args h r h' := by
  obtain ⟨c1, c2, c3, ⟨c, hb, c4⟩, c5⟩ := chkFn_spec hc
  refine ⟨⟨Fn, hf, by rw [hb]; rfl, c5⟩, fun w D F vals S hD hv => ?_⟩
  have hvs : vals.size = fn.np := by have := hv.1; rw [hal] at this; simpa using this
  have hfr : ∀ id, h.length ≤ id → D id = none ∧ look (number 0 h) id = none := fun id hid => ⟨hD id hid, by rw [look_number0]; exact List.getElem?_eq_none hid⟩
  have A : At w D (hF h) F w.heap.size h.length (args ++ nuns (fn.nt - fn.np)).length (envF (args ++ nuns (fn.nt - fn.np))) (look (number 0 h)) { tmps := vals ++ Array.replicate (Fn.ntmps - vals.size) undef, defers := [] } w D := by
    rw [look_number0]
    refine ⟨S, fun t => ?_, by simp [(nuns_spec _ 0).1, hal, hvs, c1], fun t ht => ?_, Keeps.refl _ w, fun _ _ => rfl, fun _ _ _ h => h, rfl⟩
    · by_cases c : t < args.length
      · have e1 : envF (args ++ nuns (fn.nt - fn.np)) t = args[t] := by simp [envF, List.getElem?_append_left c, c]
        have hlt : t < vals.size := by omega
        have e2 : (vals ++ Array.replicate (Fn.ntmps - vals.size) undef).getD t undef = vals[t] := by
          rw [Array.getD_eq_getD_getElem?, Array.getElem?_append_left hlt, Array.getElem?_eq_getElem hlt]
          rfl
        rw [e1]
        show Rep _ _ _ ((vals ++ Array.replicate (Fn.ntmps - vals.size) undef).getD t undef) _
        rw [e2]
        exact hv.2 t _ _ (by simp [hlt]) (List.getElem?_eq_getElem c)
      · have e1 : envF (args ++ nuns (fn.nt - fn.np)) t = .un := by
          have := (nuns_spec (fn.nt - fn.np) (t - args.length)).2
          unfold envF at this ⊢
          rw [List.getD_eq_getElem?_getD, List.getElem?_append_right (Nat.le_of_not_lt c), ← List.getD_eq_getElem?_getD]
          exact this
        rw [e1]
        exact .un _ _
    · show envF _ t = .un
      unfold envF
      rw [List.getD_eq_getElem?_getD, List.getElem?_eq_none ht]
      rfl
  refine calls_of_wp hf hb (code_sound hm hX hL fn.body c c4 _ x s hrun _ w D _ A hfr (Nat.le_refl _) fun a' w' D' A' hf' hn' => ?_)
  obtain ⟨v, p, h1, D1, e1, e2, e3, e4, e5, e6, e7, e8⟩ := fin_sound A' hf' c3 hfin
  injection e1 with e1 e1'
  subst e1 e1'
  have fin_ : a'.defers = [] ∧ ∃ v, (results Fn a'.tmps).run P w' = .ok v w' ∧ (∃ v_1 D', Ending.returned v = .returned v_1 ∧ Sim w' D' (hF h') F w.heap.size h.length ∧ Keeps (MutO D (hF h)) w w' ∧ (∀ id, id < h.length → D' id = D id) ∧ (∀ id, h'.length ≤ id → D' id = none) ∧
      (∀ b o, b < w.heap.size → Mut D' (hF h') F b o → Mut D (hF h) F b o) ∧ h.length ≤ h'.length ∧ Rep w' (Mut D' (hF h') F) D' v_1 r) :=
    ⟨A'.defers, v, e2, v, D1, rfl, e3, A'.keeps, fun id hid => by rw [e4 id hid, A'.low id hid], e5, fun b o hb hmu => A'.sub b o hb (e6 b o hmu), e7, e8⟩
  cases x with
  | normal => exact fin_
  | ret => exact fin_
  | exit j => exact absurd rfl (hx j)

/-- THE EVALUATOR'S ANSWERS ARE THE MACHINE'S. -/
theorem runs_sound (hm : P.follows .mixedOrders = true) {G : Nat → Option Fun} (hT : Tie P G) : ∀ n, CallsOK P (runs G n) ∧ LoopsOK P (runs G n)
  | 0 => ⟨fun f args h r h' hr => (by cases hr), fun m live b env h x s' hr => (by cases hr)⟩
  | n + 1 => by
    obtain ⟨hX, hL⟩ := runs_sound hm hT n
    constructor
    · intro f args h r h' hr
      simp only [runs, phi] at hr
      split at hr
      · rename_i fn hG
        obtain ⟨Fn, hf, hc⟩ := hT f _ hG
        obtain ⟨hal, hr⟩ := bif_some hr
        have hal := Nat.eq_of_beq_eq_true hal
        obtain ⟨⟨x, s⟩, hrun, hr⟩ := bind_some hr
        cases x with
        | exit j => cases hr
        | normal => exact fn_sound hm hX hL hf hc hal hrun (fun j h => by cases h) hr
        | ret => exact fn_sound hm hX hL hf hc hal hrun (fun j h => by cases h) hr
      · rename_i hG
        obtain ⟨hcl, hcmp⟩ := hT f _ hG
        split at hr
        · rename_i x y
          injection hr with hr
          injection hr with h1 h2
          subst h1 h2
          refine ⟨hcl, fun w D F vals S hD hv => ?_⟩
          have h2 : vals.size = 2 := by have := hv.1; simpa using this
          obtain ⟨u0, u1, rfl⟩ : ∃ u0 u1, vals = #[u0, u1] := ⟨vals[0], vals[1], by
            apply Array.ext (by simpa using h2)
            intro i h1 h3
            match i, h3 with
            | 0, _ => rfl
            | 1, _ => rfl⟩
          have r0 := hv.2 0 u0 _ rfl rfl
          have r1 := hv.2 1 u1 _ rfl rfl
          cases r0 with
          | str _ _ =>
            cases r1 with
            | str _ _ =>
              refine (hcmp x y w).mono ?_
              rintro e w' ⟨rfl, rfl⟩
              exact ⟨_, D, rfl, S, Keeps.refl _ _, fun _ _ => rfl, hD, fun _ _ _ h => h, Nat.le_refl _, .int _ _ _⟩
        · cases hr
      · rename_i φ hG
        cases h with
        | cons _ _ => cases hr
        | nil =>
          obtain ⟨⟨v, ob⟩, hv, hr⟩ := bind_some hr
          injection hr with hr
          injection hr with h1 h2
          subst h1 h2
          exact hT f _ hG args v ob hv
      · cases hr
    · intro m live b env h x s' hr
      simp only [runs, phi] at hr
      obtain ⟨⟨x1, s1⟩, hrun, hr⟩ := bind_some hr
      have hl0 : look (number 0 h) = hF h := look_number0 h
      have go : ∀ (Q' : Act → World → Prop) (c : Code), chkCode P b c = true → ∀ (w0 : World) (D0 : Nat → Option Nat) (H0 : Nat → Option Ob) (F : Nat → Nat → Prop) (n0 : Nat) (a : Act) (w : World) (D : Nat → Option Nat) (Q : Exit → Act → World → Prop),
          At w0 D0 H0 F n0 m env.length (envF env) (hF h) a w D → (∀ id, h.length ≤ id → D id = none) → m ≤ h.length →
          (∀ a' w' D', At w0 D0 H0 F n0 m s1.env.length (envF s1.env) (look s1.heap) a' w' D' → (∀ id, s1.nx ≤ id → D' id = none ∧ look s1.heap id = none) → m ≤ s1.nx → Exit.then Q' Q (exOf x1) a' w') → c.wp P (Exit.then Q' Q) a w := by
        intro Q' c hc w0 D0 H0 F n0 a w D Q A hf hn hQ
        refine code_sound hm hX hL b c hc _ x1 s1 hrun a w D _ (by rw [hl0]; exact A) (fun id hid => ⟨hf id hid, by rw [hl0]; exact List.getElem?_eq_none hid⟩) hn hQ
      cases x1 with
      | normal =>
        simp only at hr
        obtain ⟨y, hy, hr⟩ := bind_some hr
        obtain ⟨k, hk⟩ := hL _ _ _ _ _ _ _ hr
        refine ⟨k + 1, fun c hc w0 D0 H0 F n0 a w D Q A hf hn hQ => ?_⟩
        rw [rounds_succ]
        refine go _ c hc w0 D0 H0 F n0 a w D Q A hf hn fun a' w' D' A' hf' hn' => ?_
        obtain ⟨D2, A2, hf2, hn2⟩ := gc_sound A' hf' hy
        exact hk c hc w0 D0 H0 F n0 a' w' D2 Q A2 (fun id h => (hf2 id h).1) hn2 hQ
      | exit j =>
        injection hr with hr
        injection hr with h1 h2
        subst h1 h2
        refine ⟨1, fun c hc w0 D0 H0 F n0 a w D Q A hf hn hQ => ?_⟩
        rw [rounds_succ]
        exact go _ c hc w0 D0 H0 F n0 a w D Q A hf hn fun a' w' D' A' hf' hn' => hQ a' w' D' A' hf' hn'
      | ret =>
        injection hr with hr
        injection hr with h1 h2
        subst h1 h2
        refine ⟨1, fun c hc w0 D0 H0 F n0 a w D Q A hf hn hQ => ?_⟩
        rw [rounds_succ]
        exact go _ c hc w0 D0 H0 F n0 a w D Q A hf hn fun a' w' D' A' hf' hn' => hQ a' w' D' A' hf' hn'
end
end Go.Pv
