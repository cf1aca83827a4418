/-
  'opP' is what the machine does: operations that ask and turn nothing outside of their operands.
-/
import Derived.Test.YtedohmdgbilicaaPvD
namespace Go.Pv
open Go.RowKit

theorem tyOK_spec {P : Program} {t : TypeId} {n : Nat} {ag : Bool} (h : tyOK P t n ag = true) : rowTy P t = some ag ∧ szOf P t = some n ∧ (ag = false → n = 1) := by
  unfold tyOK at h
  rw [Bool.and_eq_true, Bool.and_eq_true] at h
  refine ⟨optEqB_some h.1.1, optEq_some h.1.2, fun e => ?_⟩
  subst e
  simpa using h.2
theorem rowTy_true {P : Program} {t : TypeId} (h : rowTy P t = some true) : ∃ fs, P.underlying t = some (.struct fs) := by
  unfold rowTy at h
  split at h <;> first | (cases h; done) | exact ⟨_, by assumption⟩
theorem run_isAgg {P : Program} {t : TypeId} {ag : Bool} (h : rowTy P t = some ag) (w : World) : (isAgg t).run P w = .ok ag w := by
  unfold rowTy at h
  unfold isAgg
  cases hu : P.underlying t with
  | none => simp [hu] at h
  | some d =>
    rw [Sem.run_bind, run_underlying hu w]
    simp only [hu] at h
    cases d <;> simp at h <;> subst h <;> rfl
theorem szOf_info {P : Program} {t : TypeId} {n : Nat} (h : szOf P t = some n) : ∃ i, P.info? t = some i ∧ i.size = n := by
  unfold szOf at h
  exact Option.map_eq_some_iff.1 h
theorem run_sizeOf {P : Program} {t : TypeId} {n : Nat} (h : szOf P t = some n) (w : World) : (sizeOf t).run P w = .ok n w := by
  obtain ⟨i, hi, rfl⟩ := szOf_info h
  simp [sizeOf, typeInfo, hi]
theorem sliceElem_some {P : Program} {t e : TypeId} (h : sliceElem P t = some e) : P.underlying t = some (.slice e) := by
  unfold sliceElem at h
  split at h
  · injection h with h; subst h; assumption
  · cases h
theorem isStrTy_some {P : Program} {t : TypeId} (h : isStrTy P t = true) : P.underlying t = some .string := by
  unfold isStrTy at h
  split at h
  · assumption
  · cases h
theorem isBoolTy_some {P : Program} {t : TypeId} (h : isBoolTy P t = true) : P.underlying t = some .bool := by
  unfold isBoolTy at h
  split at h
  · assumption
  · cases h
theorem intTy_some {P : Program} {t : TypeId} {k : IntKind} (h : intTy P t k = true) : P.underlying t = some (.int k) := by
  unfold intTy at h
  split at h
  · rename_i k' hk; obtain rfl := IntKind.eqb_eq h; exact hk
  · cases h
theorem fieldAt_some {P : Program} {t : TypeId} {i : Nat} {f : Field} (h : fieldAt? P t i = some f) : ∃ fs, P.underlying t = some (.struct fs) ∧ fs[i]? = some f := by
  unfold fieldAt? at h
  split at h
  · exact ⟨_, by assumption, h⟩
  · cases h

section
variable {P : Program} {w : World} {M : Nat → Nat → Prop} {D : Nat → Option Nat} {a : Act} {e : Nat → PV}

/-- The part of an aggregate. -/
theorem part_sound {t : TypeId} {n : Nat} {ag : Bool} (ht : tyOK P t n ag = true) {xs : Array Value} {c : List PV} (hs : xs.size = c.length) (h1 : ∀ (i : Nat) v p, xs[i]? = some v → c[i]? = some p → v.oneCell' = true)
    (hr : ∀ (i : Nat) v p, xs[i]? = some v → c[i]? = some p → Rep w M D v p) {off : Nat} (hle : off + n ≤ c.length) {q : PV} (hq : shape ag ((c.drop off).take n) = some q) : ∃ v, (part t xs off).run P w = .ok v w ∧ Rep w M D v q := by
  obtain ⟨ha, hn, h1n⟩ := tyOK_spec ht
  unfold part
  rw [Sem.run_bind, run_isAgg ha w, Result.andThen_ok]
  cases ag with
  | true =>
    simp only [shape, cond_true, Option.some.injEq] at hq
    subst hq
    refine ⟨.agg (xs.extract off (off + n)), by simp [run_sizeOf hn], .agg _ _ _ ?_ ?_ ?_⟩
    · rw [Array.size_extract, List.length_take, List.length_drop]; omega
    · intro i v p hv hp
      have hi : i < n := by have := (List.getElem?_eq_some_iff.1 hp).1; rw [List.length_take] at this; omega
      rw [List.getElem?_take, if_pos hi, List.getElem?_drop] at hp
      rw [Array.getElem?_extract] at hv
      split at hv
      · exact h1 _ v p hv hp
      · cases hv
    · intro i v p hv hp
      have hi : i < n := by have := (List.getElem?_eq_some_iff.1 hp).1; rw [List.length_take] at this; omega
      rw [List.getElem?_take, if_pos hi, List.getElem?_drop] at hp
      rw [Array.getElem?_extract] at hv
      split at hv
      · exact hr _ v p hv hp
      · cases hv
  | false =>
    have hn1 : n = 1 := h1n rfl
    subst hn1
    have hlt : off < c.length := by omega
    have e1 : (c.drop off).take 1 = [c[off]] := by rw [List.drop_eq_getElem_cons hlt]; rfl
    rw [e1] at hq
    simp only [shape, cond_false, Option.some.injEq] at hq
    subst hq
    have hx : off < xs.size := by omega
    refine ⟨xs[off], by simp [Array.getElem?_eq_getElem hx], hr off _ _ (Array.getElem?_eq_getElem hx) (List.getElem?_eq_getElem hlt)⟩

theorem asNat_int {x : PV} {n : Nat} (h : asNat x = some n) : ∃ k, x = .int k (n : Int) := by
  unfold asNat at h
  split at h
  · rename_i k m
    obtain ⟨h1, h2⟩ := bif_some h
    injection h2 with h2
    have h1 := of_decide_eq_true h1
    exact ⟨k, by rw [← h2, Int.toNat_of_nonneg h1]⟩
  · cases h

theorem rep_int {v : Value} {k : IntKind} {n : Int} (h : Rep w M D v (.int k n)) : v = .int k n := by cases h; rfl
theorem rep_bool {v : Value} {b : Bool} (h : Rep w M D v (.bool b)) : v = .bool b := by cases h; rfl
theorem rep_str {v : Value} {s : ByteArray} (h : Rep w M D v (.str s)) : v = .string s := by cases h; rfl

theorem sliceBound_run {v : Value} {k : IntKind} {n y : Nat} {code : BoundsCode} (hv : v = .int k (n : Int)) (h : n ≤ y) : (Instr.sliceBound v y code).run P w = .ok n w := by
  subst hv
  have h1 : (0 : Int) ≤ (n : Int) ∧ (n : Int) ≤ (y : Int) := by omega
  unfold Instr.sliceBound
  rw [Sem.run_bind]
  simp only [asIntOf, Sem.run_pure, Result.andThen_ok]
  rw [if_pos h1]
  simp

/-- The bounds of a cut. -/
theorem opt_val {d n : Nat} {lo : Option Operand} {lo' : Option Opd} (he : EnvOK w M D a e) (hc : optOK lo lo' = true) (h : optNat e d lo' = some n) : (lo = none ∧ n = d) ∨ ∃ x k, lo = some x ∧ a.eval x = .int k (n : Int) := by
  cases lo with
  | none =>
    cases lo' with
    | none => simp [optNat] at h; exact .inl ⟨rfl, h.symm⟩
    | some y => simp [optOK] at hc
  | some x =>
    cases lo' with
    | none => simp [optOK] at hc
    | some y =>
      obtain ⟨k, hk⟩ := asNat_int h
      have := opd_sound he (x := x) (y := y) hc
      rw [hk] at this
      exact .inr ⟨x, k, rfl, rep_int this⟩
theorem bounds_run {isS : Bool} {len cap l h' : Nat} {lo hi : Option Operand} (hlo : (lo = none ∧ l = 0) ∨ ∃ x k, lo = some x ∧ a.eval x = .int k (l : Int)) (hhi : (hi = none ∧ h' = len) ∨ ∃ x k, hi = some x ∧ a.eval x = .int k (h' : Int)) (h1 : l ≤ h') (h2 : h' ≤ cap) :
    (Instr.sliceBounds isS len cap (lo.map a.eval) (hi.map a.eval) none).run P w = .ok (l, h', cap) w := by
  unfold Instr.sliceBounds
  rcases hlo with ⟨rfl, rfl⟩ | ⟨x, k, rfl, hx⟩ <;> rcases hhi with ⟨rfl, rfl⟩ | ⟨y, k', rfl, hy⟩
  · simp
  · simp [sliceBound_run hy h2]
  · simp [sliceBound_run hx h1]
  · simp [sliceBound_run hx h1, sliceBound_run hy h2]

theorem addNone (b o n : Nat) : (⟨b, o, none⟩ : Addr).add n = ⟨b, o + n, none⟩ := Addr.add_mid b o n

def sv : PV → Value
  | .int k n => .int k n
  | .bool b => .bool b
  | .str s => .string s
  | _ => undef
theorem bin_sound {op : BinOp} {t : TypeId} {x y : Operand} {x' y' : Opd} {p : PV} (he : EnvOK w M D a e) (hx : opdOK x x' = true) (hy : opdOK y y' = true) (h : pbin op (x'.ev e) (y'.ev e) = some p) :
    ∃ v, (do eqGuard op t x y (a.eval x) (a.eval y); binOp op t (a.eval x) (a.eval y)).run P w = .ok v w ∧ Rep w M D v p := by
  have rx := opd_sound he hx
  have ry := opd_sound he hy
  generalize x'.ev e = u at *
  generalize y'.ev e = u' at *
  unfold pbin at h
  split at h
  · rename_i k n k' n'
    rw [rep_int rx, rep_int ry]
    split at h
    · obtain ⟨h1, h⟩ := bif_some h
      injection h with h
      subst h
      have h1 := of_decide_eq_true h1
      have h2 : ¬ n' < 0 := by omega
      exact ⟨.int k (n.fdiv (2 ^ (min n'.toNat k.bits))), by simp [eqGuard, binOp, Op.shift, h2], .int _ _ _⟩
    · rename_i op' hop
      obtain ⟨h1, h2⟩ := bif_some h
      clear h
      obtain rfl := IntKind.eqb_eq h1
      cases op <;> simp only [ibin] at h2 <;> first
        | (cases h2; done)
        | (injection h2 with h2; refine ⟨sv p, ?_, ?_⟩ <;> subst h2 <;> first | exact .int _ _ _ | exact .bool _ _ | (simp [sv, eqGuard, binOp, Op.intArith, Op.intCmp, Op.intBits]; done))
        | (by_cases h0 : n' = 0
           · simp [h0] at h2
           · simp [h0] at h2
             refine ⟨sv p, ?_, ?_⟩ <;> subst h2 <;> first | exact .int _ _ _ | (simp [sv, eqGuard, binOp, Op.intDiv, h0]; done))
  · rename_i s s'
    rw [rep_str rx, rep_str ry]
    cases op <;> simp only [sbin] at h <;> first
      | (cases h; done)
      | (injection h with h; refine ⟨sv p, ?_, ?_⟩ <;> subst h <;> first | exact .bool _ _ | (simp [sv, eqGuard, binOp, Op.stringOp]; done))
      | (obtain ⟨h1, h⟩ := bif_some h
         injection h with h
         subst h
         have h1 := Nat.le_of_ble_eq_true h1
         have h2 : ¬ (9223372036854775807 < (s.size : Int) + (s'.size : Int)) := by omega
         exact ⟨.string (s ++ s'), by simp [eqGuard, binOp, Op.stringOp, IntKind.max, IntKind.bits, IntKind.signed, h2], .str _ _⟩)
  · cases h

end
end Go.Pv
