/- What the functions of the chapter on values compute (printed by a program). -/
import Derived.Test.YtedohmdgbilicaaVal2
namespace Go.Proofs.Ytedohmdgbilicaa
open Go.Pv


theorem eqV_b0 (p0 p1 : List Val) : ∀ (l : List Val) (i : Nat), p0.length = i + l.length → (match l_slices_CompareFunc_b0 s_value_Compare p0 p1 l i with | .k0 => bif decide (((List.length p0) : Int) < ((List.length p1) : Int)) then (-1 : Int) else 0 | .k1 => 1 | .k2 q => q) = lcV l (p1.drop i)
  | [], i, h => by
    rw [l_slices_CompareFunc_b0]
    simp only [List.length_nil, Nat.add_zero] at h
    cases e : p1.drop i with
    | nil =>
      have := List.drop_eq_nil_iff.1 e
      rw [lcV, show decide (((List.length p0) : Int) < ((List.length p1) : Int)) = false by simp; omega]
      rfl
    | cons y m =>
      have : i < p1.length := by
        apply Decidable.byContradiction
        intro hn
        rw [List.drop_eq_nil_of_le (by omega)] at e
        cases e
      rw [lcV, show decide (((List.length p0) : Int) < ((List.length p1) : Int)) = true by simp; omega]
      rfl
  | x :: l, i, h => by
    rw [l_slices_CompareFunc_b0]
    by_cases c : p1.length ≤ i
    · rw [show decide (((List.length p1) : Int) ≤ (i : Int)) = true by simpa using c, cond_true, List.drop_eq_nil_of_le c, lcV]
    · rw [show decide (((List.length p1) : Int) ≤ (i : Int)) = false by simpa using c, cond_false]
      have hl : i < p1.length := by omega
      rw [List.drop_eq_getElem_cons hl, lcV, List.getD_eq_getElem?_getD, List.getElem?_eq_getElem hl, Option.getD_some]
      cases s_value_Compare x p1[i] == 0 with
      | true => exact eqV_b0 p0 p1 l (i + 1) (by simp at h; omega)
      | false => rfl
theorem eqV (p0 p1 : List Val) : lcV p0 p1 = s_slices_CompareFunc_f17 s_value_Compare p0 p1 := by
  have h := eqV_b0 p0 p1 p0 0 (by simp)
  rw [List.drop_zero] at h
  rw [← h]
  unfold s_slices_CompareFunc_f17
  cases l_slices_CompareFunc_b0 s_value_Compare p0 p1 p0 0 <;> rfl
theorem eqF_b0 (p0 p1 : List Fld) : ∀ (l : List Fld) (i : Nat), p0.length = i + l.length → (match l_slices_CompareFunc_45_b0 s_value_Compare_1 p0 p1 l i with | .k0 => bif decide (((List.length p0) : Int) < ((List.length p1) : Int)) then (-1 : Int) else 0 | .k1 => 1 | .k2 q => q) = lcF l (p1.drop i)
  | [], i, h => by
    rw [l_slices_CompareFunc_45_b0]
    simp only [List.length_nil, Nat.add_zero] at h
    cases e : p1.drop i with
    | nil =>
      have := List.drop_eq_nil_iff.1 e
      rw [lcF, show decide (((List.length p0) : Int) < ((List.length p1) : Int)) = false by simp; omega]
      rfl
    | cons y m =>
      have : i < p1.length := by
        apply Decidable.byContradiction
        intro hn
        rw [List.drop_eq_nil_of_le (by omega)] at e
        cases e
      rw [lcF, show decide (((List.length p0) : Int) < ((List.length p1) : Int)) = true by simp; omega]
      rfl
  | x :: l, i, h => by
    rw [l_slices_CompareFunc_45_b0]
    by_cases c : p1.length ≤ i
    · rw [show decide (((List.length p1) : Int) ≤ (i : Int)) = true by simpa using c, cond_true, List.drop_eq_nil_of_le c, lcF]
    · rw [show decide (((List.length p1) : Int) ≤ (i : Int)) = false by simpa using c, cond_false]
      have hl : i < p1.length := by omega
      rw [List.drop_eq_getElem_cons hl, lcF, List.getD_eq_getElem?_getD, List.getElem?_eq_getElem hl, Option.getD_some, s_value_Compare_1]
      cases s_cmp_Or [s_strings_Compare x.name p1[i].name, s_value_Compare x.v p1[i].v] == 0 with
      | true => exact eqF_b0 p0 p1 l (i + 1) (by simp at h; omega)
      | false => rfl
theorem eqF (p0 p1 : List Fld) : lcF p0 p1 = s_slices_CompareFunc_45_f46 s_value_Compare_1 p0 p1 := by
  have h := eqF_b0 p0 p1 p0 0 (by simp)
  rw [List.drop_zero] at h
  rw [← h]
  unfold s_slices_CompareFunc_45_f46
  cases l_slices_CompareFunc_45_b0 s_value_Compare_1 p0 p1 p0 0 <;> rfl

theorem e_value_Compare (p0 : Val) (p1 : Val) : s_value_Compare p0 p1 = ((s_cmp_Or ([(s_cmp_Compare p0.kind p1.kind), (s_cmp_Compare p0.n p1.n), (s_strings_Compare p0.s p1.s), (s_slices_CompareFunc_f17 s_value_Compare p0.list p1.list), (s_slices_CompareFunc_45_f46 s_value_Compare_1 p0.fields p1.fields)]))) := by
  rw [s_value_Compare, eqV, eqF]
abbrev H_value_Compare (p0 : Val) : Prop := Val.Sm 4611686018427387904 p0
def Rec_value_Compare (p0 : Val) : Prop := ∀ (q : Val), SizeOf.sizeOf q < SizeOf.sizeOf p0 → ∀ (p1 : Val), H_value_Compare q → Tells G (c_value_Compare q p1) (a_value_Compare q p1)
theorem give_value_Compare (p0 : Val) (p1 : Val) (H : H_value_Compare p0) : (H_slices_CompareFunc_f17 s_value_Compare p0.list p1.list) ∧ (H_slices_CompareFunc_45_f46 s_value_Compare_1 p0.fields p1.fields) ∧ True := by
  obtain ⟨h1, h2, h3, h4⟩ := H.all
  exact ⟨⟨⟨h1, trivial⟩, trivial⟩, ⟨⟨h2, trivial⟩, trivial⟩, trivial⟩
theorem r_value_Compare (p0 : Val) (p1 : Val) (H : H_value_Compare p0) (rec : Rec_value_Compare p0) : Tells G (c_value_Compare p0 p1) (a_value_Compare p0 p1) := by
  unfold a_value_Compare
  rw [e_value_Compare]
  exact tells_VI (fn := Ir.value_Compare) rfl VOK.nil [] [aN (t_cmp_Compare p0.kind p1.kind), aN (t_cmp_Compare p0.n p1.n), aN (t_strings_Compare p0.s p1.s), aN (t_slices_CompareFunc_f17 s_value_Compare p0.list p1.list (give_value_Compare p0 p1 H).1 (fun x hx y => rec x (szM hx) y (H.all.2.2.1 x hx))), aN (t_slices_CompareFunc_45_f46 s_value_Compare_1 p0.fields p1.fields (give_value_Compare p0 p1 H).2.1 (fun x hx y => t_value_Compare_1 x y (rec x.v (szN hx) y.v (H.all.2.2.2 x hx)))), aN (t_cmp_Or ([(s_cmp_Compare p0.kind p1.kind), (s_cmp_Compare p0.n p1.n), (s_strings_Compare p0.s p1.s), (s_slices_CompareFunc_f17 s_value_Compare p0.list p1.list), (s_slices_CompareFunc_45_f46 s_value_Compare_1 p0.fields p1.fields)]) (by simp [H_cmp_Or, H_cmp_Or_b0]))] (by kernel_rfl)
theorem i_value_Compare : ∀ (k : Nat) (p0 : Val), SizeOf.sizeOf p0 < k → ∀ (p1 : Val), H_value_Compare p0 → Tells G (c_value_Compare p0 p1) (a_value_Compare p0 p1)
  | 0, _, h, _, _ => absurd h (Nat.not_lt_zero _)
  | k + 1, p0, h, p1, H => r_value_Compare p0 p1 H (fun q hq p1 hH => i_value_Compare k q (by omega) p1 hH)
theorem t_value_Compare (p0 : Val) (p1 : Val) (H : H_value_Compare p0) : Tells G (c_value_Compare p0 p1) (a_value_Compare p0 p1) := i_value_Compare _ p0 (Nat.lt_succ_self _) p1 H

/-- orchestrator/ value.Equal -/
def s_value_Equal (p0 : Val) (p1 : Val) : Bool :=
  ((s_value_Compare p0 p1) == 0)
def c_value_Equal (p0 : Val) (p1 : Val) : En := .call 19 [.agg (Val.cells p0), .agg (Val.cells p1)] []
def a_value_Equal (p0 : Val) (p1 : Val) : Rs := .ret (.bool (s_value_Equal p0 p1)) []
def H_value_Equal (p0 : Val) (_p1 : Val) : Prop := (H_value_Compare p0) ∧ True
theorem t_value_Equal (p0 : Val) (p1 : Val) (H : H_value_Equal p0 p1) : Tells G (c_value_Equal p0 p1) (a_value_Equal p0 p1) := by
  unfold a_value_Equal s_value_Equal
  exact tells_VI (fn := Ir.value_Equal) rfl VOK.nil [] [aN (t_value_Compare p0 p1 H.1)] (by kernel_rfl)

end Go.Proofs.Ytedohmdgbilicaa
