/- Values in plain words: sizes, depths and validity agree; comparisons agree and are orders. -/
import Derived.Test.YtedohmdgbilicaaLaws1
import Derived.Test.YtedohmdgbilicaaPvX14
namespace Go.Proofs.Ytedohmdgbilicaa
open Go.Pv

theorem vind {P : Val → Prop} (h : ∀ v : Val, (∀ x ∈ v.list, P x) → (∀ f ∈ v.fields, P f.v) → P v) : ∀ v, P v := by
  have key : ∀ (k : Nat) (v : Val), SizeOf.sizeOf v < k → P v := by
    intro k
    induction k with
    | zero => intro v hv; exact absurd hv (Nat.not_lt_zero _)
    | succ k ih => intro v hv; exact h v (fun x hx => ih x (by have := szM hx; omega)) (fun f hf => ih f.v (by have := szN hf; omega))
  exact fun v => key _ v (Nat.lt_succ_self _)
theorem size_b0 (p : Val) : ∀ (l : List Val) (i : Nat) (a : Int), (∀ x ∈ l, s_value_Size x = s_ref04_Size x) → l_value_Size_b0 p l i a = l_ref04_Size_b0 p l i a
  | [], i, a, _ => by rw [l_value_Size_b0, l_ref04_Size_b0]
  | x :: l, i, a, h => by rw [l_value_Size_b0, l_ref04_Size_b0, h x List.mem_cons_self, size_b0 p l _ _ (fun y hy => h y (List.mem_cons_of_mem _ hy))]
theorem size_b1 (p : Val) : ∀ (l : List Fld) (i : Nat) (a : Int), (∀ x ∈ l, s_value_Size x.v = s_ref04_Size x.v) → l_value_Size_b1 p l i a = l_ref04_Size_b1 p l i a
  | [], i, a, _ => by rw [l_value_Size_b1, l_ref04_Size_b1]
  | x :: l, i, a, h => by rw [l_value_Size_b1, l_ref04_Size_b1, h x List.mem_cons_self, size_b1 p l _ _ (fun y hy => h y (List.mem_cons_of_mem _ hy))]
theorem size_eq : ∀ v, s_value_Size v = s_ref04_Size v := vind fun v h1 h2 => by rw [s_value_Size, s_ref04_Size, size_b0 v _ _ _ h1, size_b1 v _ _ _ h2]
theorem depth_b0 (p : Val) : ∀ (l : List Val) (i : Nat) (a : Int), (∀ x ∈ l, s_value_Depth x = s_ref04_Depth x) → l_value_Depth_b0 p l i a = l_ref04_Depth_b0 p l i a
  | [], i, a, _ => by rw [l_value_Depth_b0, l_ref04_Depth_b0]
  | x :: l, i, a, h => by rw [l_value_Depth_b0, l_ref04_Depth_b0, h x List.mem_cons_self, depth_b0 p l _ _ (fun y hy => h y (List.mem_cons_of_mem _ hy))]
theorem depth_b1 (p : Val) : ∀ (l : List Fld) (i : Nat) (a : Int), (∀ x ∈ l, s_value_Depth x.v = s_ref04_Depth x.v) → l_value_Depth_b1 p l i a = l_ref04_Depth_b1 p l i a
  | [], i, a, _ => by rw [l_value_Depth_b1, l_ref04_Depth_b1]
  | x :: l, i, a, h => by rw [l_value_Depth_b1, l_ref04_Depth_b1, h x List.mem_cons_self, depth_b1 p l _ _ (fun y hy => h y (List.mem_cons_of_mem _ hy))]
theorem depth_eq : ∀ v, s_value_Depth v = s_ref04_Depth v := vind fun v h1 h2 => by rw [s_value_Depth, s_ref04_Depth, depth_b0 v _ _ _ h1, depth_b1 v _ _ _ h2]

def kT1 : R_value_text_b0 → Bool | .k0 => true | .k1 => false
def kT2 : R_ref04_ValidString_b0 → Bool | .k0 => true | .k1 => false
theorem text_b0 (s : ByteArray) : ∀ (l : List Int) (i : Nat), kT1 (l_value_text_b0 s l i) = kT2 (l_ref04_ValidString_b0 s l i)
  | [], i => rfl
  | x :: l, i => by
    have ih := text_b0 s l (i + 1)
    rw [l_value_text_b0, l_ref04_ValidString_b0]
    cases (x == 10) <;> cases decide (x < 32) <;> cases decide (126 < x) <;> first | exact ih | rfl
theorem text_eq (s : ByteArray) : s_value_text s = s_ref04_ValidString s := by
  have h := text_b0 s (letters s) 0
  unfold s_value_text s_ref04_ValidString
  cases e1 : l_value_text_b0 s (letters s) 0 <;> cases e2 : l_ref04_ValidString_b0 s (letters s) 0 <;> rw [e1, e2] at h <;> first | rfl | (cases h)
def kN1 : R_value_name_b0 → Bool | .k0 => true | .k1 => false
def kN2 : R_ref04_ValidField_b0 → Bool | .k0 => true | .k1 => false
theorem kN1c (c : Bool) (a b : R_value_name_b0) : kN1 (bif c then a else b) = bif c then kN1 a else kN1 b := by cases c <;> rfl
theorem kN2c (c : Bool) (a b : R_ref04_ValidField_b0) : kN2 (bif c then a else b) = bif c then kN2 a else kN2 b := by cases c <;> rfl
theorem name_b0 (s : ByteArray) : ∀ (l : List Int) (i : Nat), kN1 (l_value_name_b0 s l i) = kN2 (l_ref04_ValidField_b0 s l i)
  | [], i => rfl
  | x :: l, i => by
    have ih := name_b0 s l (i + 1)
    rw [l_value_name_b0, l_ref04_ValidField_b0]
    simp only [kN1c, kN2c, ih]
    rfl
theorem name_eq (s : ByteArray) : s_value_name s = s_ref04_ValidField s := by
  have h := name_b0 s (letters s) 0
  unfold s_value_name s_ref04_ValidField
  cases e1 : l_value_name_b0 s (letters s) 0 <;> cases e2 : l_ref04_ValidField_b0 s (letters s) 0 <;> rw [e1, e2] at h <;> first | rfl | (cases h)
theorem scalar_eq (v : Val) : s_value_scalar v = s_ref04_scalar v := by
  unfold s_value_scalar s_ref04_scalar
  rw [text_eq]
  generalize (v.kind == 1) = a1
  generalize (v.kind == 2) = a2
  generalize (v.kind == 3) = a3
  generalize (v.kind == 0) = a4
  generalize (v.kind == 4) = a5
  generalize (v.kind == 5) = a6
  generalize (v.n == 0) = b0
  generalize (v.n == 1) = b1
  generalize decide (-1000000000000000 ≤ v.n) = c1
  generalize decide (v.n ≤ 1000000000000000) = c2
  generalize sEq v.s (⟨#[]⟩ : ByteArray) = d
  generalize s_ref04_ValidString v.s = t
  cases a1 with
  | true =>
    rw [cond_true, cond_true]
    revert b0 b1 d
    decide
  | false =>
    rw [cond_false, cond_false]
    cases a2 with
    | true =>
      rw [cond_true, cond_true]
      revert c1 c2 d
      decide
    | false =>
      rw [cond_false, cond_false]
      revert a3 a4 a5 a6 b0 d t
      decide
def kV1 : R_value_valid_b0 → Bool | .k0 => true | .k1 => false
def kV2 : R_ref04_valid_b0 → Bool | .k0 => true | .k1 => false
def kW1 : R_value_valid_b1 → Bool | .k0 => true | .k1 => false
def kW2 : R_ref04_valid_b1 → Bool | .k0 => true | .k1 => false
theorem valid_b0 (p : Val) (k : Int) : ∀ (l : List Val) (i : Nat), (∀ x ∈ l, ∀ k, s_value_valid x k = s_ref04_valid x k) → kV1 (l_value_valid_b0 p k l i) = kV2 (l_ref04_valid_b0 p k l i)
  | [], i, _ => by rw [l_value_valid_b0, l_ref04_valid_b0]; rfl
  | x :: l, i, h => by
    have ih := valid_b0 p k l (i + 1) (fun y hy => h y (List.mem_cons_of_mem _ hy))
    rw [l_value_valid_b0, l_ref04_valid_b0, h x List.mem_cons_self]
    cases s_ref04_valid x (w64 (k - 1)) with
    | true => exact ih
    | false => rfl
theorem valid_b1 (p : Val) (k : Int) : ∀ (l : List Fld) (i : Nat), (∀ x ∈ l, ∀ k, s_value_valid x.v k = s_ref04_valid x.v k) → kW1 (l_value_valid_b1 p k l i) = kW2 (l_ref04_valid_b1 p k l i)
  | [], i, _ => by rw [l_value_valid_b1, l_ref04_valid_b1]; rfl
  | x :: l, i, h => by
    have ih := valid_b1 p k l (i + 1) (fun y hy => h y (List.mem_cons_of_mem _ hy))
    rw [l_value_valid_b1, l_ref04_valid_b1, h x List.mem_cons_self, name_eq, sLe_cmp]
    cases s_ref04_ValidField x.name with
    | false => rfl
    | true =>
      rw [cond_true, cond_true]
      cases decide (0 < (i : Int)) with
      | false =>
        rw [cond_false, cond_false]
        cases s_ref04_valid x.v (w64 (k - 1)) with
        | true => exact ih
        | false => rfl
      | true =>
        rw [cond_true, cond_true]
        cases sLt (List.getD p.fields (Int.toNat (w64 ((i : Int) - 1))) (Fld.mk (⟨#[]⟩ : ByteArray) (Val.mk 0 0 (⟨#[]⟩ : ByteArray) [] []))).name x.name with
        | false => rfl
        | true =>
          cases s_ref04_valid x.v (w64 (k - 1)) with
          | true => exact ih
          | false => rfl
theorem valid_eq : ∀ v, ∀ k, s_value_valid v k = s_ref04_valid v k := vind fun v h1 h2 k => by
  have e0 := valid_b0 v k v.list 0 h1
  have e1 := valid_b1 v k v.fields 0 h2
  rw [s_value_valid, s_ref04_valid, scalar_eq]
  generalize l_value_valid_b0 v k v.list 0 = A at e0 ⊢
  generalize l_ref04_valid_b0 v k v.list 0 = A' at e0 ⊢
  generalize l_value_valid_b1 v k v.fields 0 = B at e1 ⊢
  generalize l_ref04_valid_b1 v k v.fields 0 = B' at e1 ⊢
  generalize (k == 0) = a1
  generalize s_ref04_scalar v = a2
  generalize (v.kind == 4) = a3
  generalize (v.kind == 5) = a4
  generalize decide (0 < ((v.list.length : Nat) : Int)) = b1
  generalize decide (0 < ((v.fields.length : Nat) : Int)) = b2
  generalize decide (64 < ((v.list.length : Nat) : Int)) = b3
  generalize decide (64 < ((v.fields.length : Nat) : Int)) = b4
  cases A <;> cases A' <;> first | (cases e0; done) | skip
  all_goals cases B <;> cases B' <;> first | (cases e1; done) | skip
  all_goals revert a1 a2 a3 a4 b1 b2 b3 b4
  all_goals decide
theorem Valid_eq (v : Val) : s_value_Valid v = s_ref04_Valid v := by
  unfold s_value_Valid s_ref04_Valid
  rw [valid_eq, size_eq]
theorem smallH (v : Val) (h : Val_ok v) : H_law04_small v := ⟨⟨h.sm, trivial⟩, trivial⟩
theorem valid_holds (v : Val) (h : Val_ok v) : H_law04_ValueValid v ∧ s_law04_ValueValid v = true := by
  refine ⟨⟨smallH v h, fun _ => ⟨h, h.sm, trivial⟩, fun _ => ⟨h, h.sm, trivial⟩, fun _ _ => h.sm, fun _ _ => h.sm, fun _ _ _ => h.sm, fun _ _ _ => h.sm, trivial⟩, ?_⟩
  unfold s_law04_ValueValid
  rw [Valid_eq, size_eq, depth_eq]
  cases s_law04_small v <;> simp

/-! ### comparisons -/
def orL : List Int → Int
  | [] => 0
  | a :: l => lx a (orL l)
theorem or_b0 (p : List Int) : ∀ (l : List Int) (i : Nat), (match l_cmp_Or_b0 p l i 0 with | .k0 y => y | .k1 y => y) = orL l
  | [], _ => rfl
  | a :: l, i => by
    rw [l_cmp_Or_b0, orL]
    unfold lx
    by_cases h : a = 0
    · rw [show (a == 0) = true by simpa using h, cond_true, if_pos h]
      exact or_b0 p l (i + 1)
    · rw [show (a == 0) = false by simpa using h, cond_false, if_neg h]
theorem or_eq (l : List Int) : s_cmp_Or l = orL l := by
  rw [← or_b0 l l 0]
  rfl
theorem lx0 (a : Int) : lx a 0 = a := by
  unfold lx
  split <;> omega
theorem comp_eq (a b : Int) : s_cmp_Compare a b = icmp a b := by
  unfold s_cmp_Compare s_cmp_isNaN icmp
  simp only [beq_self_eq_true, Bool.not_true, cond_false]
  by_cases h1 : a < b
  · rw [show decide (a < b) = true by simpa using h1, if_pos h1]
    rfl
  · rw [show decide (a < b) = false by simpa using h1, if_neg h1]
    by_cases h2 : b < a
    · rw [show decide (b < a) = true by simpa using h2, if_pos h2]
      rfl
    · rw [show decide (b < a) = false by simpa using h2, if_neg h2]
      rfl
theorem order_int (a b : Int) : s_ref04_order (decide (a < b)) (decide (b < a)) = icmp a b := by
  unfold s_ref04_order icmp
  by_cases h1 : a < b
  · rw [show decide (a < b) = true by simpa using h1, if_pos h1]
    cases decide (b < a) <;> rfl
  · rw [show decide (a < b) = false by simpa using h1, if_neg h1]
    by_cases h2 : b < a
    · rw [show decide (b < a) = true by simpa using h2, if_pos h2]
      rfl
    · rw [show decide (b < a) = false by simpa using h2, if_neg h2]
      rfl
theorem order_str (a b : ByteArray) : s_ref04_order (sLt a b) (!(sLt a b || sEq a b)) = sCmp a b := by
  rw [sCmp_of]
  unfold s_ref04_order
  cases sLt a b <;> cases sEq a b <;> rfl
theorem vcmp (a b : Val) : s_value_Compare a b = lx (icmp a.kind b.kind) (lx (icmp a.n b.n) (lx (sCmp a.s b.s) (lx (lcV a.list b.list) (lcF a.fields b.fields)))) := by
  rw [s_value_Compare, or_eq, comp_eq, comp_eq]
  show lx _ (lx _ (lx _ (lx _ (lx _ 0)))) = _
  rw [lx0]
  rfl
theorem fcmp (x y : Fld) : s_cmp_Or [s_strings_Compare x.name y.name, s_value_Compare x.v y.v] = lx (sCmp x.name y.name) (s_value_Compare x.v y.v) := by
  rw [or_eq]
  show lx _ (lx _ 0) = _
  rw [lx0]
  rfl
theorem lcV_cons (x y : Val) (l m : List Val) : lcV (x :: l) (y :: m) = lx (s_value_Compare x y) (lcV l m) := by
  rw [lcV]
  unfold lx
  by_cases h : s_value_Compare x y = 0
  · rw [show (s_value_Compare x y == 0) = true by simpa using h, cond_true, if_pos h]
  · rw [show (s_value_Compare x y == 0) = false by simpa using h, cond_false, if_neg h]
theorem lcF_cons (x y : Fld) (l m : List Fld) : lcF (x :: l) (y :: m) = lx (lx (sCmp x.name y.name) (s_value_Compare x.v y.v)) (lcF l m) := by
  rw [lcF, fcmp]
  generalize lx (sCmp x.name y.name) (s_value_Compare x.v y.v) = c
  unfold lx
  by_cases h : c = 0
  · rw [show (c == 0) = true by simpa using h, cond_true, if_pos h]
  · rw [show (c == 0) = false by simpa using h, cond_false, if_neg h]
theorem lcV_n1 (y : Val) (m : List Val) : lcV [] (y :: m) = -1 := by rw [lcV]
theorem lcV_n2 (x : Val) (l : List Val) : lcV (x :: l) [] = 1 := by rw [lcV]
theorem lcV_nn : lcV [] [] = 0 := by rw [lcV]
theorem lcF_n1 (y : Fld) (m : List Fld) : lcF [] (y :: m) = -1 := by rw [lcF]
theorem lcF_n2 (x : Fld) (l : List Fld) : lcF (x :: l) [] = 1 := by rw [lcF]
theorem lcF_nn : lcF [] [] = 0 := by rw [lcF]

/-! the comparison's answers -/
theorem lcV_r3 : ∀ (l m : List Val), (∀ x ∈ l, ∀ y, R3 (s_value_Compare x y)) → R3 (lcV l m)
  | [], [], _ => by rw [lcV_nn]; exact Or.inr (Or.inl rfl)
  | [], _ :: _, _ => by rw [lcV_n1]; exact Or.inl rfl
  | _ :: _, [], _ => by rw [lcV_n2]; exact Or.inr (Or.inr rfl)
  | x :: l, y :: m, h => by
    rw [lcV_cons]
    exact lx_r3 (h x List.mem_cons_self y) (lcV_r3 l m fun z hz => h z (List.mem_cons_of_mem _ hz))
theorem lcF_r3 : ∀ (l m : List Fld), (∀ x ∈ l, ∀ y, R3 (s_value_Compare x.v y)) → R3 (lcF l m)
  | [], [], _ => by rw [lcF_nn]; exact Or.inr (Or.inl rfl)
  | [], _ :: _, _ => by rw [lcF_n1]; exact Or.inl rfl
  | _ :: _, [], _ => by rw [lcF_n2]; exact Or.inr (Or.inr rfl)
  | x :: l, y :: m, h => by
    rw [lcF_cons]
    exact lx_r3 (lx_r3 (sCmp_r3 _ _) (h x List.mem_cons_self y.v)) (lcF_r3 l m fun z hz => h z (List.mem_cons_of_mem _ hz))
theorem cmp_r3 : ∀ a b : Val, R3 (s_value_Compare a b) := vind fun a h1 h2 b => by
  rw [vcmp]
  exact lx_r3 (icmp_r3 _ _) (lx_r3 (icmp_r3 _ _) (lx_r3 (sCmp_r3 _ _) (lx_r3 (lcV_r3 _ _ h1) (lcF_r3 _ _ h2))))
theorem lcV_neg : ∀ (l m : List Val), (∀ x ∈ l, ∀ y, s_value_Compare y x = -s_value_Compare x y) → lcV m l = -lcV l m
  | [], [], _ => by rw [lcV_nn]; rfl
  | [], _ :: _, _ => by rw [lcV_n1, lcV_n2]; rfl
  | _ :: _, [], _ => by rw [lcV_n1, lcV_n2]
  | x :: l, y :: m, h => by rw [lcV_cons, lcV_cons, h x List.mem_cons_self y, lcV_neg l m fun z hz => h z (List.mem_cons_of_mem _ hz), lx_neg]
theorem lcF_neg : ∀ (l m : List Fld), (∀ x ∈ l, ∀ y, s_value_Compare y x.v = -s_value_Compare x.v y) → lcF m l = -lcF l m
  | [], [], _ => by rw [lcF_nn]; rfl
  | [], _ :: _, _ => by rw [lcF_n1, lcF_n2]; rfl
  | _ :: _, [], _ => by rw [lcF_n1, lcF_n2]
  | x :: l, y :: m, h => by rw [lcF_cons, lcF_cons, h x List.mem_cons_self y.v, sCmp_neg x.name y.name, lx_neg, lcF_neg l m fun z hz => h z (List.mem_cons_of_mem _ hz), lx_neg]
theorem cmp_neg : ∀ a b : Val, s_value_Compare b a = -s_value_Compare a b := vind fun a h1 h2 b => by
  rw [vcmp, vcmp, icmp_neg a.kind b.kind, icmp_neg a.n b.n, sCmp_neg a.s b.s, lcV_neg _ _ h1, lcF_neg _ _ h2, lx_neg, lx_neg, lx_neg, lx_neg]
theorem cmp_self (a : Val) : s_value_Compare a a = 0 := by
  have := cmp_neg a a
  omega
theorem lcV_t3 : ∀ (l m n : List Val), (∀ x ∈ l, ∀ y z, T3 (s_value_Compare x y) (s_value_Compare y z) (s_value_Compare x z)) → T3 (lcV l m) (lcV m n) (lcV l n)
  | [], [], n, _ => by
    rw [lcV_nn]
    exact ⟨fun _ => rfl, fun h => h, fun h => h.symm⟩
  | [], y :: m, [], _ => by
    rw [lcV_nn, lcV_n1, lcV_n2]
    unfold T3
    omega
  | [], y :: m, z :: n, _ => by
    rw [lcV_n1, lcV_n1]
    unfold T3
    omega
  | x :: l, [], [], _ => by
    rw [lcV_nn, lcV_n2]
    unfold T3
    omega
  | x :: l, [], z :: n, _ => by
    rw [lcV_n1, lcV_n2]
    unfold T3
    omega
  | x :: l, y :: m, [], h => by
    have := lcV_r3 (x :: l) (y :: m) (fun z _ w => cmp_r3 z w)
    rw [lcV_n2, lcV_n2]
    unfold T3
    unfold R3 at this
    omega
  | x :: l, y :: m, z :: n, h => by
    rw [lcV_cons, lcV_cons, lcV_cons]
    exact lx_t3 (cmp_r3 _ _) (cmp_r3 _ _) (cmp_r3 _ _) (h x List.mem_cons_self y z) (lcV_t3 l m n fun w hw => h w (List.mem_cons_of_mem _ hw))
theorem lcF_t3 : ∀ (l m n : List Fld), (∀ x ∈ l, ∀ y z, T3 (s_value_Compare x.v y) (s_value_Compare y z) (s_value_Compare x.v z)) → T3 (lcF l m) (lcF m n) (lcF l n)
  | [], [], n, _ => by
    rw [lcF_nn]
    exact ⟨fun _ => rfl, fun h => h, fun h => h.symm⟩
  | [], y :: m, [], _ => by
    rw [lcF_nn, lcF_n1, lcF_n2]
    unfold T3
    omega
  | [], y :: m, z :: n, _ => by
    rw [lcF_n1, lcF_n1]
    unfold T3
    omega
  | x :: l, [], [], _ => by
    rw [lcF_nn, lcF_n2]
    unfold T3
    omega
  | x :: l, [], z :: n, _ => by
    rw [lcF_n1, lcF_n2]
    unfold T3
    omega
  | x :: l, y :: m, [], h => by
    have := lcF_r3 (x :: l) (y :: m) (fun z _ w => cmp_r3 z.v w)
    rw [lcF_n2, lcF_n2]
    unfold T3
    unfold R3 at this
    omega
  | x :: l, y :: m, z :: n, h => by
    rw [lcF_cons, lcF_cons, lcF_cons]
    have r : ∀ a b : Fld, R3 (lx (sCmp a.name b.name) (s_value_Compare a.v b.v)) := fun a b => lx_r3 (sCmp_r3 _ _) (cmp_r3 _ _)
    exact lx_t3 (r _ _) (r _ _) (r _ _) (lx_t3 (sCmp_r3 _ _) (sCmp_r3 _ _) (sCmp_r3 _ _) (sCmp_t3 _ _ _) (h x List.mem_cons_self y.v z.v)) (lcF_t3 l m n fun w hw => h w (List.mem_cons_of_mem _ hw))
theorem cmp_t3 : ∀ a b c : Val, T3 (s_value_Compare a b) (s_value_Compare b c) (s_value_Compare a c) := vind fun a h1 h2 b c => by
  have rL : ∀ l m, R3 (lcV l m) := fun l m => lcV_r3 l m fun x _ y => cmp_r3 x y
  rw [vcmp, vcmp, vcmp]
  exact lx_t3 (icmp_r3 _ _) (icmp_r3 _ _) (icmp_r3 _ _) (icmp_t3 _ _ _) (lx_t3 (icmp_r3 _ _) (icmp_r3 _ _) (icmp_r3 _ _) (icmp_t3 _ _ _)
    (lx_t3 (sCmp_r3 _ _) (sCmp_r3 _ _) (sCmp_r3 _ _) (sCmp_t3 _ _ _) (lx_t3 (rL _ _) (rL _ _) (rL _ _) (lcV_t3 _ _ _ h1) (lcF_t3 _ _ _ h2))))
theorem equal_iff (a b : Val) : s_value_Equal a b = (s_value_Compare a b == 0) := rfl

/-! the reference's comparison -/
theorem lx_assoc (a b c : Int) : lx (lx a b) c = lx a (lx b c) := by
  unfold lx
  by_cases h : a = 0
  · rw [if_pos h, if_pos h]
  · rw [if_neg h, if_neg h, if_neg h]
theorem bz (x y : Int) : (bif (x == 0) then y else x) = lx x y := by
  unfold lx
  by_cases h : x = 0
  · rw [show (x == 0) = true by simpa using h, if_pos h]
    rfl
  · rw [show (x == 0) = false by simpa using h, if_neg h]
    rfl
theorem bz3 (x y z : Int) : (bif (x == 0) then y else lx x z) = lx x y := by
  unfold lx
  by_cases h : x = 0
  · rw [show (x == 0) = true by simpa using h, if_pos h, if_pos h]
    rfl
  · rw [show (x == 0) = false by simpa using h, if_neg h, if_neg h]
    rfl
theorem lx_ne {a : Int} (h : a ≠ 0) (b : Int) : lx a b = a := by
  unfold lx
  rw [if_neg h]
theorem lx_z (b : Int) : lx 0 b = b := rfl
theorem rb0_ne (a b : Val) {c : Int} (h : c ≠ 0) : ∀ (l : List Val) (i : Nat), l_ref04_Compare_b0 a b l i c = c
  | [], i => by rw [l_ref04_Compare_b0]
  | x :: l, i => by
    rw [l_ref04_Compare_b0, show (c == 0) = false by simpa using h]
    cases decide ((i : Int) < ((b.list.length : Nat) : Int)) <;> rfl
theorem rb1_ne (a b : Val) {c : Int} (h : c ≠ 0) : ∀ (l : List Fld) (i : Nat), l_ref04_Compare_b1 a b l i c = c
  | [], i => by rw [l_ref04_Compare_b1]
  | x :: l, i => by
    rw [l_ref04_Compare_b1, show (c == 0) = false by simpa using h]
    cases decide ((i : Int) < ((b.fields.length : Nat) : Int)) <;> rfl
theorem getV (b : List Val) (i : Nat) (h : i < b.length) (z : Val) : b.getD i z = b[i] := by rw [List.getD_eq_getElem?_getD, List.getElem?_eq_getElem h]; rfl
theorem getF (b : List Fld) (i : Nat) (h : i < b.length) (z : Fld) : b.getD i z = b[i] := by rw [List.getD_eq_getElem?_getD, List.getElem?_eq_getElem h]; rfl
theorem rb0 (a b : Val) : ∀ (l : List Val) (i : Nat), i ≤ b.list.length → (∀ x ∈ l, ∀ y, s_ref04_Compare x y = s_value_Compare x y) →
    lx (l_ref04_Compare_b0 a b l i 0) (icmp ((i + l.length : Nat) : Int) ((b.list.length : Nat) : Int)) = lcV l (b.list.drop i)
  | [], i, hi, _ => by
    rw [l_ref04_Compare_b0, lx_z]
    unfold icmp
    by_cases h : i < b.list.length
    · rw [List.drop_eq_getElem_cons h, lcV_n1, if_pos (by simp; omega)]
    · rw [List.drop_eq_nil_of_le (by omega), lcV_nn, if_neg (by simp; omega), if_neg (by simp; omega)]
  | x :: l, i, hi, h => by
    rw [l_ref04_Compare_b0]
    by_cases hb : i < b.list.length
    · rw [show decide ((i : Int) < ((b.list.length : Nat) : Int)) = true by simpa using hb, cond_true, show ((0 : Int) == 0) = true from rfl, cond_true, getV _ _ hb, h x List.mem_cons_self, List.drop_eq_getElem_cons hb, lcV_cons]
      have ih := rb0 a b l (i + 1) hb (fun y hy => h y (List.mem_cons_of_mem _ hy))
      by_cases hc : s_value_Compare x b.list[i] = 0
      · rw [hc, lx_z, ← ih, show i + (x :: l).length = i + 1 + l.length by rw [List.length_cons]; omega]
      · rw [rb0_ne a b hc, lx_ne hc, lx_ne hc]
    · rw [show decide ((i : Int) < ((b.list.length : Nat) : Int)) = false by simpa using hb, cond_false, lx_z, List.drop_eq_nil_of_le (by omega), lcV_n2]
      unfold icmp
      rw [if_neg (by rw [List.length_cons]; omega), if_pos (by rw [List.length_cons]; omega)]
theorem rb1 (a b : Val) : ∀ (l : List Fld) (i : Nat), i ≤ b.fields.length → (∀ x ∈ l, ∀ y, s_ref04_Compare x.v y = s_value_Compare x.v y) →
    lx (l_ref04_Compare_b1 a b l i 0) (icmp ((i + l.length : Nat) : Int) ((b.fields.length : Nat) : Int)) = lcF l (b.fields.drop i)
  | [], i, hi, _ => by
    rw [l_ref04_Compare_b1, lx_z]
    unfold icmp
    by_cases h : i < b.fields.length
    · rw [List.drop_eq_getElem_cons h, lcF_n1, if_pos (by simp; omega)]
    · rw [List.drop_eq_nil_of_le (by omega), lcF_nn, if_neg (by simp; omega), if_neg (by simp; omega)]
  | x :: l, i, hi, h => by
    rw [l_ref04_Compare_b1]
    by_cases hb : i < b.fields.length
    · rw [show decide ((i : Int) < ((b.fields.length : Nat) : Int)) = true by simpa using hb, cond_true, show ((0 : Int) == 0) = true from rfl, cond_true, getF _ _ hb, h x List.mem_cons_self, List.drop_eq_getElem_cons hb, lcF_cons, order_str]
      have ih := rb1 a b l (i + 1) hb (fun y hy => h y (List.mem_cons_of_mem _ hy))
      by_cases hs : sCmp x.name b.fields[i].name = 0
      · rw [show (sCmp x.name b.fields[i].name == 0) = true by simpa using hs, cond_true, hs, lx_z]
        by_cases hc : s_value_Compare x.v b.fields[i].v = 0
        · rw [hc, lx_z, ← ih, show i + (x :: l).length = i + 1 + l.length by rw [List.length_cons]; omega]
        · rw [rb1_ne a b hc, lx_ne hc, lx_ne hc]
      · rw [show (sCmp x.name b.fields[i].name == 0) = false by simpa using hs, cond_false, rb1_ne a b hs, lx_ne hs, lx_ne hs, lx_ne hs]
    · rw [show decide ((i : Int) < ((b.fields.length : Nat) : Int)) = false by simpa using hb, cond_false, lx_z, List.drop_eq_nil_of_le (by omega), lcF_n2]
      unfold icmp
      rw [if_neg (by rw [List.length_cons]; omega), if_pos (by rw [List.length_cons]; omega)]
theorem ref_eq : ∀ a b : Val, s_ref04_Compare a b = s_value_Compare a b := vind fun a h1 h2 b => by
  have P0 : ∀ c, lx (l_ref04_Compare_b0 a b a.list 0 c) (icmp ((a.list.length : Nat) : Int) ((b.list.length : Nat) : Int)) = lx c (lcV a.list b.list) := fun c => by
    by_cases h : c = 0
    · have := rb0 a b a.list 0 (Nat.zero_le _) h1
      rw [Nat.zero_add, List.drop_zero] at this
      rw [h, this, lx_z]
    · rw [rb0_ne a b h, lx_ne h, lx_ne h]
  have P1 : ∀ c, lx (l_ref04_Compare_b1 a b a.fields 0 c) (icmp ((a.fields.length : Nat) : Int) ((b.fields.length : Nat) : Int)) = lx c (lcF a.fields b.fields) := fun c => by
    by_cases h : c = 0
    · have := rb1 a b a.fields 0 (Nat.zero_le _) h2
      rw [Nat.zero_add, List.drop_zero] at this
      rw [h, this, lx_z]
    · rw [rb1_ne a b h, lx_ne h, lx_ne h]
  rw [s_ref04_Compare, vcmp]
  simp only [order_int, order_str, bz, P1, bz3, ← lx_assoc, P0]
  simp only [lx_assoc, bz3]
theorem requal_eq (a b : Val) : s_ref04_Equal a b = s_value_Equal a b := by
  unfold s_ref04_Equal
  rw [ref_eq]
  rfl
theorem compares_holds (a b : Val) (ha : Val_ok a) (hb : Val_ok b) : H_law04_ValueCompares a b ∧ s_law04_ValueCompares a b = true := by
  refine ⟨⟨smallH a ha, fun _ => smallH b hb, fun _ _ => ha.sm, fun _ _ => ha.sm, fun _ _ _ => ⟨ha.sm, trivial⟩, fun _ _ _ => ⟨ha.sm, trivial⟩, fun _ _ _ _ => ⟨ha.sm, trivial⟩, trivial⟩, ?_⟩
  unfold s_law04_ValueCompares
  rw [ref_eq, requal_eq, equal_iff a a, cmp_self]
  cases s_law04_small a <;> cases s_law04_small b <;> simp
theorem order_holds (a b c : Val) (ha : Val_ok a) (hb : Val_ok b) (hc : Val_ok c) : H_law04_ValueOrder a b c ∧ s_law04_ValueOrder a b c = true := by
  refine ⟨?_, ?_⟩
  · unfold H_law04_ValueOrder
    repeat' apply And.intro
    all_goals intros
    all_goals first | exact ha.sm | exact hb.sm | exact hc.sm | exact ⟨ha.sm, trivial⟩ | exact smallH a ha | exact smallH b hb | exact smallH c hc | trivial
  · unfold s_law04_ValueOrder
    have hx := cmp_r3 a b
    have hy := cmp_r3 b c
    have hz := cmp_r3 a c
    have ht := cmp_t3 a b c
    rw [cmp_neg a b, cmp_self, equal_iff]
    generalize s_value_Compare a b = x at *
    generalize s_value_Compare b c = y at *
    generalize s_value_Compare a c = z at *
    cases s_law04_small a <;> cases s_law04_small b <;> cases s_law04_small c <;> try rfl
    unfold T3 at ht
    rcases hx with rfl | rfl | rfl <;> rcases hy with rfl | rfl | rfl <;> rcases hz with rfl | rfl | rfl <;> first | rfl | (exfalso; omega)
end Go.Proofs.Ytedohmdgbilicaa
