/-
  'opP' is what the machine does: every case.
-/
import Derived.Test.YtedohmdgbilicaaPvF
namespace Go.Pv
open Go.RowKit

section
variable {P : Program} {w : World} {M : Nat → Nat → Prop} {D : Nat → Option Nat} {a : Act} {e : Nat → PV}

theorem one_cell {x : Value} {c : List PV} {p : PV} (h1 : x.oneCell' = true) (h : RepC w M D x.cells c) (hc : c = [p]) : Rep w M D x p := by
  subst hc
  have e1 : x.cells = #[x] := by cases x <;> first | rfl | (cases h1)
  rw [e1] at h
  exact (h.2 0 x p rfl rfl).2

theorem eqv_sound : ∀ (n d : Nat) (t : TypeId) (q : EqT) (k : Nat) (ag : Bool) (x y : Value) (c c' : List PV) (b : Bool), n ≤ d → tyOK P t k ag = true → eqOK P n t q = true → RepC w M D x.cells c → RepC w M D y.cells c' →
    (ag = true → ∃ xs ys, x = .agg xs ∧ y = .agg ys) → (ag = false → x.oneCell' = true ∧ y.oneCell' = true) → ∀ m, eqv m q c c' = some b → (Op.equalIn d t x y).run P w = .ok b w := by
  intro n
  induction n with
  | zero => intro d t q k ag x y c c' b _ _ h; simp [eqOK] at h
  | succ n ih =>
    intro d t q k ag x y c c' b hd ht hq hx hy h1 h2 m hm
    obtain ⟨d, rfl⟩ : ∃ d', d = d' + 1 := ⟨d - 1, by omega⟩
    obtain ⟨m, rfl⟩ : ∃ m', m = m' + 1 := by
      cases m with
      | zero => simp [eqv] at hm
      | succ m => exact ⟨m, rfl⟩
    obtain ⟨hr, _, _⟩ := tyOK_spec ht
    unfold eqOK at hq
    split at hq
    · rename_i kk hu
      have hag : ag = false := by unfold rowTy at hr; simp only [hu] at hr; injection hr with hr; exact hr.symm
      obtain ⟨o1, o2⟩ := h2 hag
      simp only [eqv] at hm
      split at hm
      · obtain ⟨hk, hm⟩ := bif_some hm
        injection hm with hm
        subst hm
        obtain rfl := IntKind.eqb_eq hk
        rw [rep_int (one_cell o1 hx rfl), rep_int (one_cell o2 hy rfl)]
        exact run_equalIn_int w d t _ _ _ _ hu
      · cases hm
    · rename_i hu
      have hag : ag = false := by unfold rowTy at hr; simp only [hu] at hr; injection hr with hr; exact hr.symm
      obtain ⟨o1, o2⟩ := h2 hag
      simp only [eqv] at hm
      split at hm
      · injection hm with hm
        subst hm
        rw [rep_bool (one_cell o1 hx rfl), rep_bool (one_cell o2 hy rfl)]
        exact run_equalIn_bool' w d t _ _ hu
      · cases hm
    · rename_i hu
      have hag : ag = false := by unfold rowTy at hr; simp only [hu] at hr; injection hr with hr; exact hr.symm
      obtain ⟨o1, o2⟩ := h2 hag
      simp only [eqv] at hm
      split at hm
      · injection hm with hm
        subst hm
        rw [rep_str (one_cell o1 hx rfl), rep_str (one_cell o2 hy rfl)]
        exact run_equalIn_string w d t _ _ hu
      · cases hm
    · rename_i fs gs hu
      have hag : ag = true := by unfold rowTy at hr; simp only [hu] at hr; injection hr with hr; exact hr.symm
      obtain ⟨xs, ys, rfl, rfl⟩ := h1 hag
      simp only [Bool.and_eq_true, Bool.not_eq_true'] at hq
      simp only [eqv] at hm
      have hfs : P.fieldsOf t = fs := by simp [Program.fieldsOf, hu]
      rw [run_equalIn_struct w d t xs ys (by rw [hfs]; exact hu) hq.1, hfs]
      exact eqf_sound (fun t q k ag x y c c' b g1 g2 g3 g4 g5 g6 g7 => ih d t q k ag x y c c' b (by omega) g1 g2 g3 g4 g5 g6 m g7) fs.toList gs xs ys c c' b hq.2 hx hy hm
    · cases hq

theorem mm_sound {x y p : PV} {u v : Value} {isMax : Bool} (hu : Rep w M D u x) (hv : Rep w M D v y) (h : mm isMax x y = some p) : ∃ r, (bif isMax then Builtin.max2 u v else Builtin.min2 u v).run P w = .ok r w ∧ Rep w M D r p := by
  unfold mm at h
  split at h
  · obtain ⟨hk, h⟩ := bif_some h
    injection h with h
    rw [rep_int hu, rep_int hv]
    refine ⟨sv p, ?_, ?_⟩ <;> subst h
    · cases isMax <;> simp [Builtin.max2, Builtin.min2, sv]
    · exact .int _ _ _
  · cases h
theorem mmL_sound {isMax : Bool} : ∀ (ys : List PV) (vs : List Value) (x p : PV) (u : Value), Rep w M D u x → RepL w M D vs ys → mmL isMax x ys = some p → ∃ r, (vs.foldlM (bif isMax then Builtin.max2 else Builtin.min2) u).run P w = .ok r w ∧ Rep w M D r p
  | [], vs, x, p, u, hu, hv, h => by
    have : vs = [] := List.eq_nil_of_length_eq_zero hv.1
    subst this
    simp [mmL] at h
    subst h
    exact ⟨u, by simp, hu⟩
  | y :: ys, [], x, p, u, _, hv, _ => by have := hv.1; simp at this
  | y :: ys, v :: vs, x, p, u, hu, hv, h => by
    simp only [mmL] at h
    obtain ⟨z, hz, h⟩ := bind_some h
    obtain ⟨h1, h2⟩ := hv.uncons
    obtain ⟨r, hr, hrep⟩ := mm_sound (P := P) hu h1 hz
    obtain ⟨r', hr', hrep'⟩ := mmL_sound ys vs z p r hrep h2 h
    refine ⟨r', ?_, hrep'⟩
    have e1 : (bif isMax then Builtin.max2 else Builtin.min2) u v = (bif isMax then Builtin.max2 u v else Builtin.min2 u v) := by cases isMax <;> rfl
    simp only [List.foldlM_cons, Sem.run_bind, e1, hr, Result.andThen_ok]
    exact hr'

theorem isB_some {c : Call} {b : Builtin} (h : isB c b = true) : c.callee = .builtin b := by
  unfold isB builtinOf at h
  cases hc : c.callee <;> simp [hc] at h
  rw [h]
theorem run_builtin (c : Call) (ty : TypeId) (b : Builtin) (hb : c.callee = .builtin b) (ρ : Operand → Value) : ∃ cs, (do let d ← resolve ρ c ty; invoke d.target d.args : Sem Next) = builtin b c.argTypes ty cs (c.args.map ρ) := by
  unfold resolve
  rw [hb]
  exact ⟨_, rfl⟩

theorem rep_bx {v : Value} {id off : Nat} (h : Rep w M D v (.bx id off)) : ∃ b, D id = some b ∧ v = .pointer (some ⟨b, off, none⟩) := by cases h; exact ⟨_, by assumption, rfl⟩
theorem rep_rf {v : Value} {c : List PV} (h : Rep w M D v (.rf c)) : ∃ b o, v = .pointer (some ⟨b, o, none⟩) := by cases h; exact ⟨_, _, rfl⟩
theorem rep_fn {v : Value} {f : Nat} {x y : List PV} (h : Rep w M D v (.fn f x y)) : ∃ xs ys : Array Value, v = .func (.func f) xs ys ∧ RepL w M D xs.toList x ∧ RepL w M D ys.toList y := by
  cases h with
  | fn _ _ xs ys _ _ ha hb h1 h2 => exact ⟨xs, ys, rfl, ⟨by simpa using ha, fun i v p hv hp => h1 i v p (by simpa using hv) hp⟩, ⟨by simpa using hb, fun i v p hv hp => h2 i v p (by simpa using hv) hp⟩⟩
theorem rep_agg {v : Value} {c : List PV} (h : Rep w M D v (.agg c)) : ∃ xs, v = .agg xs ∧ RepC w M D xs c := by
  cases h with
  | agg _ xs _ hl h1 h2 => exact ⟨xs, rfl, hl, fun i v p hv hp => ⟨h1 i v p hv hp, h2 i v p hv hp⟩⟩
theorem rep_tup {v : Value} {c : List PV} (h : Rep w M D v (.tup c)) : ∃ xs : Array Value, v = .tuple xs ∧ RepL w M D xs.toList c := by
  cases h with
  | tup _ xs _ hl h1 => exact ⟨xs, rfl, by simpa using hl, fun i v p hv hp => h1 i v p (by simpa using hv) hp⟩
theorem rep_ns {v : Value} {sz : Nat} (h : Rep w M D v (.ns sz)) : ∃ A, v = .slice A 0 0 := by cases h; exact ⟨_, rfl⟩
theorem rep_ms {v : Value} {id sz off len : Nat} (h : Rep w M D v (.ms id sz off len)) : ∃ A c, v = .slice A len c ∧ len ≤ c ∧ c ≤ maxLen ∧ ((c = 0 ∧ len = 0) ∨ ∃ b n, D id = some b ∧ A = some ⟨b, off * sz, none⟩ ∧ bsize w b = some n ∧ (off + c) * sz ≤ n) := by
  cases h with
  | ms _ A _ c _ _ _ hc hm h => exact ⟨A, c, rfl, hc, hm, h⟩
theorem rep_sl {v : Value} {l : List (List PV)} (h : Rep w M D v (.sl l)) : ∃ A c sz b o, ∃ vs : Nat → Nat → Value, v = .slice A l.length c ∧ l.length ≤ c ∧ c ≤ maxLen ∧ (∀ r ∈ l, r.length = sz) ∧ (0 < l.length → A = some ⟨b, o, none⟩) ∧
    (∀ j r, l[j]? = some r → ∀ i p, r[i]? = some p → ¬ M b (o + j * sz + i) ∧ w.cell? ⟨b, o + j * sz + i, none⟩ = some (vs j i) ∧ (vs j i).oneCell' = true) ∧
    (∀ j r, l[j]? = some r → ∀ i p, r[i]? = some p → Rep w M (fun _ => none) (vs j i) p) := by
  cases h with
  | sl _ A n c sz _ b o vs hn hc hm hr hA hcell hrep =>
    subst hn
    exact ⟨A, c, sz, b, o, vs, rfl, hc, hm, hr, hA, hcell, hrep⟩

theorem esz_some {t : TypeId} {sz : Nat} (h : esz P t sz = true) : ∃ el, P.underlying t = some (.slice el) ∧ szOf P el = some sz := by
  unfold esz at h
  split at h
  · rename_i el he
    exact ⟨el, sliceElem_some he, optEq_some h⟩
  · cases h
theorem toNat_cast {k : IntKind} {n : Nat} {v : Value} (h : v = .int k (n : Int)) : (asIntOf v).run P w = .ok (k, (n : Int)) w := by subst h; rfl

theorem run_mapM {α β : Type} {f : α → Sem β} {g : α → β} (xs : Array α) (h : ∀ x ∈ xs.toList, (f x).run P w = .ok (g x) w) : (xs.mapM f).run P w = .ok (xs.map g) w := by
  rw [Array.mapM_eq_mapM_toList]
  have key : ∀ l : List α, (∀ x ∈ l, (f x).run P w = .ok (g x) w) → (l.mapM f).run P w = .ok (l.map g) w := by
    intro l
    induction l with
    | nil => intro _; simp
    | cons x r ih =>
      intro hl
      have hr := ih (fun y hy => hl y (List.mem_cons_of_mem _ hy))
      simp [List.mapM_cons, hl x List.mem_cons_self, hr]
  have := key xs.toList h
  rw [Sem.run_map, this, Result.andThen_ok]
  congr 1
  exact Array.ext' (by simp)

theorem opP_sound {o : Oper} {io : IOp} {p : PV} (he : EnvOK w M D a e) (hc : chkP P o.op io = true) (h : opP e io = some p) : ∃ v, (execOp a.eval o).run P w = .ok (.value v) w ∧ Rep w M D v p := by
  obtain ⟨dst, op, type, pos, after, guard⟩ := o
  simp only at hc
  cases io with
  | box | zero | lit | load | store | mks | append | clear | call => simp [chkP] at hc
  | mov y =>
    simp [opP] at h
    subst h
    cases op <;> simp [chkP] at hc <;> exact ⟨_, by simp [execOp], opd_sound he hc⟩
  | pick c' a' b' =>
    cases op <;> simp [chkP] at hc
    simp only [opP] at h
    split at h
    · rename_i t ht
      injection h with h
      have hb := opd_sound he hc.1.1
      rw [ht] at hb
      have hb := rep_bool hb
      cases t
      · subst h
        exact ⟨_, by simp [execOp, hb, asBool], opd_sound he hc.2⟩
      · subst h
        exact ⟨_, by simp [execOp, hb, asBool], opd_sound he hc.1.2⟩
    · cases h
  | build z ps' =>
    cases op <;> simp [chkP] at hc
    rename_i t ps
    simp only [opP] at h
    obtain ⟨c, hcc, h⟩ := bind_some h
    injection h with h
    subst h
    obtain ⟨v, hv, hz⟩ := zero_sound (w := w) (M := M) (D := D) hc.1.2
    obtain ⟨fs, hu, hall⟩ : ∃ fs, P.underlying t = some (.struct fs) ∧ ∀ f ∈ fs.toList, ∃ n, szOf P f.type = some n := by
      have h0 := hc.1.1
      unfold isStruct at h0
      split at h0
      · rename_i fs hfs
        refine ⟨fs, hfs, fun f hf => ?_⟩
        rw [List.all_eq_true] at h0
        exact Option.isSome_iff_exists.1 (h0 f hf)
      · cases h0
    have hpl := run_mapM (P := P) (w := w) (f := fun f : Field => (do pure (f.offset, ← sizeOf f.type) : Sem (Nat × Nat))) (g := fun f => (f.offset, (szOf P f.type).getD 0)) fs (fun f hf => by
      obtain ⟨n, hn⟩ := hall f hf
      simp [run_sizeOf hn, hn])
    obtain ⟨xs, hx, hr⟩ := fill_sound (P := P) (t := t) (place := fun i => (fs.map fun f : Field => (f.offset, (szOf P f.type).getD 0))[i]?) (fun i f n hf hn => by
      obtain ⟨fs', hu', hf'⟩ := fieldAt_some hf
      rw [hu] at hu'
      injection hu' with hu'
      injection hu' with hu'
      subst hu'
      simp [hf', hn]) he ps.toList ps' v.cells z c hc.2 hz hcc
    refine ⟨.agg xs, ?_, .agg _ _ _ hr.1 (fun i v p hv hp => (hr.2 i v p hv hp).1) (fun i v p hv hp => (hr.2 i v p hv hp).2)⟩
    have hx' : Instr.fill (fun i => (fs.map fun f : Field => (f.offset, (szOf P f.type).getD 0))[i]?) v.cells (ps.map fun x => (x.1, a.eval x.2)).toList = some xs := by rw [← hx]; simp
    simp only [execOp, Instr.build, Sem.run_bind, hv, Result.andThen_ok, run_underlying hu, hpl, hx']
    rfl
  | nilck y =>
    cases op <;> simp [chkP] at hc
    rename_i x
    have hr := opd_sound he hc
    simp only [opP] at h
    split at h
    · rename_i id off hy
      injection h with h
      rw [hy] at hr
      obtain ⟨b, _, hv⟩ := rep_bx hr
      subst h
      exact ⟨_, by simp [execOp, hv], hr⟩
    · rename_i c hy
      injection h with h
      rw [hy] at hr
      obtain ⟨b, o, hv⟩ := rep_rf hr
      subst h
      exact ⟨_, by simp [execOp, hv], hr⟩
    · rename_i f x' y' hy
      injection h with h
      rw [hy] at hr
      obtain ⟨xs, ys, hv, _⟩ := rep_fn hr
      subst h
      exact ⟨_, by simp [execOp, hv], hr⟩
    · cases h
  | bin op' x' y' =>
    cases op <;> simp [chkP] at hc
    rename_i op t x y yt
    obtain ⟨⟨rfl, hx⟩, hy⟩ := hc
    simp only [opP] at h
    obtain ⟨v, hv, hr⟩ := bin_sound (P := P) (t := t) he hx hy h
    refine ⟨v, ?_, hr⟩
    simp only [execOp, Sem.run_bind] at hv ⊢
    rw [hv]
    rfl
  | eqs q neg x' y' =>
    cases op <;> simp [chkP] at hc
    rename_i op t x y yt
    obtain ⟨⟨⟨⟨⟨hop, hg⟩, hq⟩, ht⟩, hx⟩, hy⟩ := hc
    have rx := opd_sound he hx
    have ry := opd_sound he hy
    simp only [opP] at h
    split at h
    · rename_i c c' ex ey
      obtain ⟨b, hb, h⟩ := bind_some h
      injection h with h
      rw [ex] at rx
      rw [ey] at ry
      obtain ⟨xs, hxs, hxr⟩ := rep_agg rx
      obtain ⟨ys, hys, hyr⟩ := rep_agg ry
      have he := eqv_sound (P := P) (w := w) (M := M) (D := D) 16 10000 t q _ true (.agg xs) (.agg ys) c c' b (by omega) ht hq hxr hyr (fun _ => ⟨_, _, rfl, rfl⟩) (fun h => by cases h) 16 hb
      refine ⟨sv p, ?_, ?_⟩ <;> subst h
      · cases neg
        · simp at hop
          subst hop
          simp only [execOp, Sem.run_bind, hxs, hys, run_eqGuard_agg _ _ _ _ _ _ _ hg, Result.andThen_ok, run_eql_struct, he]
          rfl
        · simp at hop
          subst hop
          simp only [execOp, Sem.run_bind, hxs, hys, run_eqGuard_agg _ _ _ _ _ _ _ hg, Result.andThen_ok, run_neq_struct, he]
          rfl
      · exact .bool _ _
    · cases h
  | eqb neg x' y' =>
    cases op <;> simp [chkP] at hc
    rename_i op t x y yt
    obtain ⟨⟨⟨hop, ht⟩, hx⟩, hy⟩ := hc
    have rx := opd_sound he hx
    have ry := opd_sound he hy
    have hu := isBoolTy_some ht
    simp only [opP] at h
    split at h
    · rename_i b b' ex ey
      injection h with h
      rw [ex] at rx
      rw [ey] at ry
      have hb := rep_bool rx
      have hb' := rep_bool ry
      refine ⟨sv p, ?_, ?_⟩ <;> subst h
      · cases neg <;> simp at hop <;> subst hop <;> simp [execOp, hb, hb', eqGuard, binOp, Op.equal, Op.maxDepth, run_equalIn_bool' w _ t _ _ hu, sv]
      · exact .bool _ _
    · cases h
  | un op' y =>
    cases op <;> simp [chkP] at hc
    rename_i op t x
    obtain ⟨rfl, hx⟩ := hc
    have rx := opd_sound he hx
    simp only [opP] at h
    split at h
    · rename_i b ex
      injection h with h
      rw [ex] at rx
      refine ⟨sv p, ?_, ?_⟩ <;> subst h
      · simp [execOp, rep_bool rx, Op.unary, sv]
      · exact .bool _ _
    · rename_i k n ex
      injection h with h
      rw [ex] at rx
      refine ⟨sv p, ?_, ?_⟩ <;> subst h
      · simp [execOp, rep_int rx, Op.unary, Op.intArith, sv]
      · exact .int _ _ _
    · cases h
  | conv k y =>
    cases op <;> simp [chkP] at hc
    rename_i s d x
    obtain ⟨⟨hd, hs⟩, hx⟩ := hc
    have rx := opd_sound he hx
    have hu := intTy_some hd
    obtain ⟨ds, hs⟩ := Option.isSome_iff_exists.1 hs
    simp only [opP] at h
    split at h
    · rename_i k' n ex
      injection h with h
      rw [ex] at rx
      refine ⟨sv p, ?_, ?_⟩ <;> subst h
      · simp [execOp, convert, rep_int rx, run_underlying hs, run_underlying hu, Conv.intToInt, sv]
      · exact .int _ _ _
    · cases h
  | mkfn f' a' b' =>
    cases op <;> simp [chkP] at hc
    rename_i fn first captured
    cases fn <;> simp at hc
    obtain ⟨⟨rfl, h1⟩, h2⟩ := hc
    simp [opP] at h
    subst h
    have r1 := opds_sound he h1
    have r2 := opds_sound he h2
    refine ⟨.func (.func _) (first.map a.eval) (captured.map a.eval), by simp [execOp, Instr.makeFunc], .fn _ _ _ _ _ _ ?_ ?_ ?_ ?_⟩
    · have := r1.1; simpa using this
    · have := r2.1; simpa using this
    · intro i v q hv hq
      exact r1.2 i v q (by simpa using hv) hq
    · intro i v q hv hq
      exact r2.2 i v q (by simpa using hv) hq
  | slice sz x' lo' hi' mx' =>
    cases op <;> simp [chkP] at hc
    rename_i t x lo hi mx
    obtain ⟨⟨⟨⟨ht, hx⟩, hlo⟩, hhi⟩, hmx⟩ := hc
    obtain ⟨el, hu, hsz⟩ := esz_some ht
    have rx := opd_sound he hx
    simp only [opP] at h
    obtain ⟨l, hl, h⟩ := bind_some h
    have vlo := opt_val he hlo hl
    cases mx' with
    | some m' =>
      cases mx with
      | none => simp [optOK] at hmx
      | some mo =>
        simp only at h
        obtain ⟨m, hm, h⟩ := bind_some h
        obtain ⟨hh, hhh, h⟩ := bind_some h
        obtain ⟨hb, h⟩ := bif_some h
        simp only [Bool.and_eq_true] at hb
        obtain rfl := Nat.eq_of_beq_eq_true hb.1.1
        obtain rfl := Nat.eq_of_beq_eq_true hb.1.2
        obtain rfl := Nat.eq_of_beq_eq_true hb.2
        have vhi := opt_val he hhi hhh
        obtain ⟨km, hkm⟩ := asNat_int hm
        have rm := opd_sound he (x := mo) (y := m') hmx
        rw [hkm] at rm
        have vm := rep_int rm
        have run : ∀ A n c, a.eval x = .slice A n c → (execOp a.eval ⟨dst, .slice t x lo hi (some mo), type, pos, after, guard⟩).run P w = .ok (.value (.slice A 0 0)) w := by
          intro A n c hv
          have hb : (Instr.sliceBounds true n c (lo.map a.eval) (hi.map a.eval) ((some mo).map a.eval)).run P w = .ok (0, 0, 0) w := by
            unfold Instr.sliceBounds
            rcases vlo with ⟨rfl, _⟩ | ⟨y, k, rfl, hy⟩ <;> rcases vhi with ⟨rfl, h0⟩ | ⟨y', k', rfl, hy'⟩
            · cases h0
            · simp [sliceBound_run vm (Nat.zero_le c), sliceBound_run hy' (Nat.le_refl 0)]
            · cases h0
            · simp [sliceBound_run vm (Nat.zero_le c), sliceBound_run hy' (Nat.le_refl 0), sliceBound_run hy (Nat.le_refl 0)]
          simp only [execOp, Instr.sliceAt, Instr.slice, Sem.run_bind, run_underlying hu, Result.andThen_ok, hv, hb, run_sizeOf hsz]
          rfl
        split at h
        · rename_i rs ex
          injection h with h
          subst h
          rw [ex] at rx
          obtain ⟨A, c, _, _, _, _, hv, _⟩ := rep_sl rx
          exact ⟨_, run _ _ _ hv, .ns _ _ _⟩
        · rename_i sz' ex
          injection h with h
          subst h
          rw [ex] at rx
          obtain ⟨A, hv⟩ := rep_ns rx
          exact ⟨_, run _ _ _ hv, .ns _ _ _⟩
        · rename_i id sz' off len ex
          injection h with h
          subst h
          rw [ex] at rx
          obtain ⟨A, c, hv, _⟩ := rep_ms rx
          exact ⟨_, run _ _ _ hv, .ns _ _ _⟩
        · cases h
    | none =>
      cases mx with
      | some mo => simp [optOK] at hmx
      | none =>
        simp only at h
        have run : ∀ A n c hh, a.eval x = .slice A n c → ((hi = none ∧ hh = n) ∨ ∃ y k, hi = some y ∧ a.eval y = .int k (hh : Int)) → l ≤ hh → hh ≤ c →
            (execOp a.eval ⟨dst, .slice t x lo hi none, type, pos, after, guard⟩).run P w = .ok (.value (.slice (if c = l then A else A.map (·.add (l * sz))) (hh - l) (c - l))) w := by
          intro A n c hh hv vhi h1 h2
          have hb := bounds_run (P := P) (w := w) (isS := true) vlo vhi h1 h2
          simp only [execOp, Instr.sliceAt, Instr.slice, Sem.run_bind, run_underlying hu, Result.andThen_ok, hv, Option.map_none, hb, run_sizeOf hsz]
          rfl
        split at h
        · rename_i rs ex
          obtain ⟨hh, hhh, h⟩ := bind_some h
          obtain ⟨hb, h⟩ := bif_some h
          injection h with h
          subst h
          rw [Bool.and_eq_true, Bool.and_eq_true] at hb
          obtain ⟨hrs, hb⟩ := hb
          have h1 := Nat.le_of_ble_eq_true hb.1
          have h2 := Nat.le_of_ble_eq_true hb.2
          rw [ex] at rx
          obtain ⟨A, c, sz0, b, o, vs, hv, hc1, hm1, hr1, hA, hcell, hrep⟩ := rep_sl rx
          refine ⟨_, run A rs.length c hh hv (opt_val he hhi hhh) h1 (by omega), ?_⟩
          have hln : ((rs.take hh).drop l).length = hh - l := by rw [List.length_drop, List.length_take]; omega
          have hat : ∀ (j : Nat) r, ((rs.take hh).drop l)[j]? = some r → rs[l + j]? = some r := by
            intro j r hj
            rw [List.getElem?_drop, List.getElem?_take] at hj
            split at hj
            · exact hj
            · cases hj
          have hmem : ∀ r ∈ (rs.take hh).drop l, r.length = sz0 := fun r hr => hr1 r (List.mem_of_mem_take (List.mem_of_mem_drop hr))
          by_cases h0 : hh - l = 0
          · rw [h0]
            have : (rs.take hh).drop l = [] := List.eq_nil_of_length_eq_zero (by omega)
            rw [this]
            exact .sl _ _ 0 (c - l) sz0 [] 0 0 (fun _ _ => default) rfl (Nat.zero_le _) (by omega) (by simp) (by omega) (by simp) (by simp)
          · have hA' := hA (by omega)
            subst hA'
            rw [if_neg (by omega), Option.map_some, addNone]
            have hszq : sz0 = sz := by
              have hlt : l < rs.length := by omega
              rw [← hr1 _ (List.getElem_mem hlt)]
              unfold rowsSz at hrs
              rw [List.all_eq_true] at hrs
              exact Nat.eq_of_beq_eq_true (hrs _ (List.getElem_mem hlt))
            subst hszq
            refine .sl _ _ (hh - l) (c - l) sz0 _ b (o + l * sz0) (fun j i => vs (l + j) i) hln (by omega) (by omega) hmem (fun _ => rfl) (fun j r hj i p hi => ?_) (fun j r hj i p hi => hrep (l + j) r (hat j r hj) i p hi)
            have := hcell (l + j) r (hat j r hj) i p hi
            have e1 : o + l * sz0 + j * sz0 + i = o + (l + j) * sz0 + i := by rw [Nat.add_mul]; omega
            rw [e1]
            exact this
        · rename_i sz' ex
          obtain ⟨hh, hhh, h⟩ := bind_some h
          obtain ⟨hb, h⟩ := bif_some h
          injection h with h
          subst h
          rw [Bool.and_eq_true] at hb
          obtain rfl := Nat.eq_of_beq_eq_true hb.1
          obtain rfl := Nat.eq_of_beq_eq_true hb.2
          rw [ex] at rx
          obtain ⟨A, hv⟩ := rep_ns rx
          refine ⟨_, run A 0 0 0 hv (opt_val he hhi hhh) (Nat.le_refl _) (Nat.le_refl _), ?_⟩
          exact .ns _ _ _
        · rename_i id sz' off len ex
          obtain ⟨hh, hhh, h⟩ := bind_some h
          obtain ⟨hb, h⟩ := bif_some h
          injection h with h
          subst h
          simp only [Bool.and_eq_true] at hb
          obtain rfl := Nat.eq_of_beq_eq_true hb.1.1
          have h1 := Nat.le_of_ble_eq_true hb.1.2
          have h2 := Nat.le_of_ble_eq_true hb.2
          rw [ex] at rx
          obtain ⟨A, c, hv, hc1, hm1, hd⟩ := rep_ms rx
          refine ⟨_, run A len c hh hv (opt_val he hhi hhh) h1 (by omega), .ms _ _ _ _ _ _ _ (by omega) (by omega) ?_⟩
          by_cases h0 : c = l
          · exact .inl ⟨by omega, by omega⟩
          · rcases hd with ⟨h3, h4⟩ | ⟨b, n, h3, rfl, h5, h6⟩
            · omega
            · refine .inr ⟨b, n, h3, ?_, h5, ?_⟩
              · rw [if_neg h0, Option.map_some, addNone, Nat.add_mul]
              · have : off + l + (c - l) = off + c := by omega
                rw [this]
                exact h6
        · cases h
  | cut x' lo' hi' =>
    cases op <;> simp [chkP] at hc
    rename_i t x lo hi mx
    obtain ⟨⟨⟨⟨hmx, ht⟩, hx⟩, hlo⟩, hhi⟩ := hc
    have hu := isStrTy_some ht
    have rx := opd_sound he hx
    cases mx with
    | some m => cases hmx
    | none =>
      simp only [opP] at h
      split at h
      · rename_i s ex
        obtain ⟨l, hl, h⟩ := bind_some h
        obtain ⟨hh, hhh, h⟩ := bind_some h
        obtain ⟨hb, h⟩ := bif_some h
        injection h with h
        subst h
        rw [Bool.and_eq_true] at hb
        have h1 := Nat.le_of_ble_eq_true hb.1
        have h2 := Nat.le_of_ble_eq_true hb.2
        rw [ex] at rx
        have hb := bounds_run (P := P) (w := w) (isS := false) (len := s.size) (cap := s.size) (opt_val he hlo hl) (opt_val he hhi hhh) h1 h2
        refine ⟨.string (s.extract l hh), ?_, .str _ _⟩
        simp [execOp, Instr.sliceAt, Instr.slice, run_underlying hu, rep_str rx, hb]
      · cases h
  | faddr off y =>
    cases op <;> simp [chkP] at hc
    rename_i t x i
    obtain ⟨ht, hx⟩ := hc
    have rx := opd_sound he hx
    unfold offOK at ht
    split at ht
    · rename_i f hf
      rw [Bool.and_eq_true] at ht
      obtain ⟨fs, hu, hfi⟩ := fieldAt_some hf
      have ho := Nat.eq_of_beq_eq_true ht.1
      have ht2 := ht.2
      split at ht2
      · rename_i n hn
        have hn0 : n ≠ 0 := fun e => by subst e; simp at ht2
        have run : ∀ b o, a.eval x = .pointer (some ⟨b, o, none⟩) → (execOp a.eval ⟨dst, .fieldAddr t x i, type, pos, after, guard⟩).run P w = .ok (.value (.pointer (some ⟨b, o + off, none⟩))) w := by
          intro b o hv
          simp [execOp, Instr.fieldAt, run_underlying hu, hfi, hv, Instr.sureAddr, fieldPlace, run_sizeOf hn, hn0, ho, addNone]
        simp only [opP] at h
        split at h
        · rename_i id o ex
          injection h with h
          subst h
          rw [ex] at rx
          obtain ⟨b, hD, hv⟩ := rep_bx rx
          exact ⟨_, run b o hv, .bx _ b _ _ hD⟩
        · rename_i c ex
          injection h with h
          subst h
          rw [ex] at rx
          cases hq : a.eval x with
          | pointer A =>
            rw [hq] at rx
            cases rx with
            | rf _ b o _ vs hcell hrep =>
              refine ⟨_, run b o hq, .rf _ b (o + off) _ (fun i => vs (off + i)) (fun i p hi => ?_) (fun i p hi => ?_)⟩
              · rw [List.getElem?_drop] at hi
                rw [Nat.add_assoc]
                exact hcell _ _ hi
              · rw [List.getElem?_drop] at hi
                exact hrep _ _ hi
          | _ => rw [hq] at rx; cases rx
        · cases h
      · cases ht2
    · cases ht
  | field off n ag y =>
    cases op <;> simp [chkP] at hc
    rename_i t x i
    obtain ⟨ht, hx⟩ := hc
    have rx := opd_sound he hx
    unfold fieldOK at ht
    split at ht
    · rename_i f hf
      rw [Bool.and_eq_true] at ht
      obtain ⟨fs, hu, hfi⟩ := fieldAt_some hf
      have ho := Nat.eq_of_beq_eq_true ht.1
      subst ho
      simp only [opP] at h
      split at h
      · rename_i c ex
        obtain ⟨hb, h⟩ := bif_some h
        rw [ex] at rx
        obtain ⟨xs, hv, hr⟩ := rep_agg rx
        obtain ⟨v, hpv, hrv⟩ := part_sound (P := P) ht.2 hr.1 (fun i v p hv hp => (hr.2 i v p hv hp).1) (fun i v p hv hp => (hr.2 i v p hv hp).2) (Nat.le_of_ble_eq_true hb) h
        refine ⟨v, ?_, hrv⟩
        simp [execOp, Instr.field, run_underlying hu, hfi, hv, asAgg, hpv]
      · cases h
    · cases ht
  | iaddr sz x' i' =>
    cases op <;> simp [chkP] at hc
    rename_i t x i
    obtain ⟨⟨ht, hx⟩, hi⟩ := hc
    obtain ⟨el, hu, hsz⟩ := esz_some ht
    have rx := opd_sound he hx
    have ri := opd_sound he hi
    simp only [opP] at h
    obtain ⟨n, hn, h⟩ := bind_some h
    obtain ⟨k, hk⟩ := asNat_int hn
    rw [hk] at ri
    have vi := rep_int ri
    have run : ∀ b o len c, a.eval x = .slice (some ⟨b, o, none⟩) len c → n < len → (execOp a.eval ⟨dst, .indexAddr t x i, type, pos, after, guard⟩).run P w = .ok (.value (.pointer (some ⟨b, o + n * sz, none⟩))) w := by
      intro b o len c hv hlt
      have h1 : (0 : Int) ≤ (n : Int) ∧ (n : Int) < (len : Int) := by omega
      simp [execOp, Instr.indexAt, toNat_cast vi, run_underlying hu, hv, hlt, run_sizeOf hsz, addNone]
    split at h
    · rename_i rs ex
      split at h
      · rename_i r hr
        obtain ⟨hb, h⟩ := bif_some h
        injection h with h
        subst h
        have hlen := Nat.eq_of_beq_eq_true hb
        rw [ex] at rx
        obtain ⟨A, c, sz0, b, o, vs, hv, hc1, hm1, hr1, hA, hcell, hrep⟩ := rep_sl rx
        have hlt : n < rs.length := (List.getElem?_eq_some_iff.1 hr).1
        have hA' := hA (by omega)
        subst hA'
        have : sz0 = sz := by rw [← hr1 r (List.mem_of_getElem? hr)]; exact hlen
        subst this
        exact ⟨_, run b o _ c hv hlt, .rf _ b (o + n * sz0) r (fun i => vs n i) (fun i p hi => hcell n r hr i p hi) (fun i p hi => hrep n r hr i p hi)⟩
      · cases h
    · rename_i id sz' off len ex
      obtain ⟨hb, h⟩ := bif_some h
      injection h with h
      subst h
      rw [Bool.and_eq_true] at hb
      obtain rfl := Nat.eq_of_beq_eq_true hb.1
      have hlt : n < len := by
        have := hb.2
        unfold Nat.blt at this
        have := Nat.le_of_ble_eq_true this
        omega
      rw [ex] at rx
      obtain ⟨A, c, hv, hc1, hm1, hd⟩ := rep_ms rx
      rcases hd with ⟨h3, h4⟩ | ⟨b, nb, h3, rfl, h5, h6⟩
      · omega
      · refine ⟨_, run b _ _ c hv hlt, ?_⟩
        have : off * sz' + n * sz' = (off + n) * sz' := by rw [Nat.add_mul]
        rw [this]
        exact .bx _ b _ _ h3
    · cases h
  | index x' i' =>
    cases op <;> simp [chkP] at hc
    rename_i t x i
    obtain ⟨⟨ht, hx⟩, hi⟩ := hc
    have hu := isStrTy_some ht
    have rx := opd_sound he hx
    have ri := opd_sound he hi
    simp only [opP] at h
    obtain ⟨n, hn, h⟩ := bind_some h
    obtain ⟨k, hk⟩ := asNat_int hn
    rw [hk] at ri
    have vi := rep_int ri
    split at h
    · rename_i s ex
      split at h
      · rename_i b hb
        injection h with h
        subst h
        rw [ex] at rx
        refine ⟨.int .u8 (b.toNat : Int), ?_, .int _ _ _⟩
        have h2 : s[n]? = some b := by
          obtain ⟨hlt, hbe⟩ := Array.getElem?_eq_some_iff.1 hb
          have hlt' : n < s.size := hlt
          rw [getElem?_pos s n hlt']
          exact congrArg some hbe
        simp [execOp, Instr.index, toNat_cast vi, run_underlying hu, rep_str rx, h2]
      · cases h
    · cases h
  | extract y j =>
    cases op <;> simp [chkP] at hc
    rename_i x i
    obtain ⟨rfl, hx⟩ := hc
    have rx := opd_sound he hx
    simp only [opP] at h
    split at h
    · rename_i vs ex
      rw [ex] at rx
      obtain ⟨xs, hv, hr⟩ := rep_tup rx
      have hlt : i < xs.size := by
        have := hr.1
        have := (List.getElem?_eq_some_iff.1 h).1
        simp at *
        omega
      refine ⟨xs[i], ?_, hr.2 i _ _ (by simp [hlt]) h⟩
      simp [execOp, Instr.extract, hv, hlt]
    · cases h
  | len str y =>
    cases op <;> simp [chkP] at hc
    rename_i c
    obtain ⟨hb, hc⟩ := hc
    have hb := isB_some hb
    unfold lenOK at hc
    split at hc
    · rename_i x t hargs hty
      rw [Bool.and_eq_true] at hc
      obtain ⟨ht, hx⟩ := hc
      have rx := opd_sound he hx
      obtain ⟨cs, hcs⟩ := run_builtin c type .len hb a.eval
      have ha : c.args = #[x] := Array.ext' (by simpa using hargs)
      have hat : c.argTypes = #[t] := Array.ext' (by simpa using hty)
      have hx' : (execOp a.eval ⟨dst, .call c, type, pos, after, guard⟩) = (do pure (.value (← Builtin.len_ #[t] type #[a.eval x])) : Sem Next) := by
        simp only [execOp]
        rw [hcs]
        simp only [builtin]
        rw [ha, hat, show (#[x] : Array Operand).map a.eval = #[a.eval x] by simp]
      rw [hx']
      simp only [opP] at h
      cases str with
      | true =>
        simp only [cond_true] at ht h
        split at h
        · rename_i s ex
          injection h with h
          rw [ex] at rx
          refine ⟨sv p, ?_, ?_⟩ <;> subst h
          · simp [Builtin.len_, run_underlying (isStrTy_some ht), rep_str rx, goInt, sv]
          · exact .int _ _ _
        · cases h
      | false =>
        simp only [cond_false] at ht h
        obtain ⟨el, hel⟩ := Option.isSome_iff_exists.1 ht
        have hu := sliceElem_some hel
        split at h
        · rename_i l ex
          injection h with h
          rw [ex] at rx
          obtain ⟨A, cc, _, _, _, _, hv, _⟩ := rep_sl rx
          refine ⟨sv p, ?_, ?_⟩ <;> subst h
          · simp [Builtin.len_, run_underlying hu, hv, goInt, sv]
          · exact .int _ _ _
        · rename_i id sz off n ex
          injection h with h
          rw [ex] at rx
          obtain ⟨A, cc, hv, _⟩ := rep_ms rx
          refine ⟨sv p, ?_, ?_⟩ <;> subst h
          · simp [Builtin.len_, run_underlying hu, hv, goInt, sv]
          · exact .int _ _ _
        · rename_i sz ex
          injection h with h
          rw [ex] at rx
          obtain ⟨A, hv⟩ := rep_ns rx
          refine ⟨sv p, ?_, ?_⟩ <;> subst h
          · simp [Builtin.len_, run_underlying hu, hv, goInt, sv]
          · exact .int _ _ _
        · cases h
    · cases hc
  | mnmx isMax y ys =>
    cases op <;> simp [chkP] at hc
    rename_i c
    obtain ⟨hb, hc⟩ := hc
    have hb := isB_some hb
    obtain ⟨cs, hcs⟩ := run_builtin c type _ hb a.eval
    simp only [opP] at h
    have hl : ∃ x xs, c.args.toList = x :: xs ∧ opdOK x y = true ∧ opdsOK xs ys = true := by
      cases hq : c.args.toList with
      | nil => rw [hq] at hc; simp [opdsOK] at hc
      | cons x xs =>
        rw [hq] at hc
        simp only [opdsOK, Bool.and_eq_true] at hc
        exact ⟨x, xs, rfl, hc.1, hc.2⟩
    obtain ⟨x, xs, hargs, hx, hxs⟩ := hl
    obtain ⟨r, hr, hrep⟩ := mmL_sound (P := P) (evs e ys) (xs.map a.eval) _ p _ (opd_sound he hx) (opds_sound he hxs) h
    refine ⟨r, ?_, hrep⟩
    simp only [execOp]
    rw [hcs]
    have hm : (c.args.map a.eval).toList = a.eval x :: xs.map a.eval := by rw [Array.toList_map, hargs]; rfl
    cases isMax
    · simp only [cond_false, builtin, Sem.run_bind, Builtin.min_, hm] at hr ⊢
      rw [hr]
      rfl
    · simp only [cond_true, builtin, Sem.run_bind, Builtin.max_, hm] at hr ⊢
      rw [hr]
      rfl

end
end Go.Pv
