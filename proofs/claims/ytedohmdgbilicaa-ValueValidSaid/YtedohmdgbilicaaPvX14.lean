/- Comparisons that answer -1, 0 or 1; the order of strings. -/
import Derived.Test.YtedohmdgbilicaaPvX13
namespace Go.Pv

def R3 (a : Int) : Prop := a = -1 ∨ a = 0 ∨ a = 1
/-- what two answers say of the third -/
def T3 (a b e : Int) : Prop := (a = 0 → e = b) ∧ (b = 0 → e = a) ∧ (a = b → e = a)
def lx (a b : Int) : Int := if a = 0 then b else a
def icmp (a b : Int) : Int := if a < b then -1 else if b < a then 1 else 0
theorem lx_r3 {a b : Int} (h : R3 a) (g : R3 b) : R3 (lx a b) := by
  unfold lx
  split
  · exact g
  · exact h
theorem lx_neg (a b : Int) : lx (-a) (-b) = -lx a b := by
  unfold lx
  split <;> split <;> omega
theorem lx_t3 {a b e a' b' e' : Int} (ha : R3 a) (hb : R3 b) (he : R3 e) (t : T3 a b e) (t' : T3 a' b' e') : T3 (lx a a') (lx b b') (lx e e') := by
  unfold T3 at *
  unfold lx R3 at *
  split <;> split <;> split <;> omega
theorem icmp_r3 (a b : Int) : R3 (icmp a b) := by
  unfold icmp R3
  split
  · omega
  · split <;> omega
theorem icmp_neg (a b : Int) : icmp b a = -icmp a b := by
  unfold icmp
  split <;> split <;> first | omega | (split <;> omega) | skip
  all_goals omega
theorem icmp_t3 (a b e : Int) : T3 (icmp a b) (icmp b e) (icmp a e) := by
  unfold T3 icmp
  split <;> split <;> split <;> (try split) <;> (try split) <;> (try split) <;> omega
theorem icmp_zero {a b : Int} : icmp a b = 0 ↔ a = b := by
  unfold icmp
  constructor
  · intro h
    split at h
    · omega
    · split at h <;> omega
  · intro h
    rw [if_neg (by omega), if_neg (by omega)]

theorem cmpL_r3 : ∀ a b : List UInt8, R3 (cmpL a b)
  | [], [] => Or.inr (Or.inl rfl)
  | [], _ :: _ => Or.inl rfl
  | _ :: _, [] => Or.inr (Or.inr rfl)
  | x :: a, y :: b => by
    rw [cmpL]
    split
    · exact Or.inl rfl
    · split
      · exact Or.inr (Or.inr rfl)
      · exact cmpL_r3 a b
theorem cmpL_step (x y : UInt8) (a b : List UInt8) : cmpL (x :: a) (y :: b) = lx (icmp (x.toNat : Int) (y.toNat : Int)) (cmpL a b) := by
  rw [cmpL]
  unfold lx icmp
  simp only [UInt8.lt_iff_toNat_lt]
  by_cases h1 : x.toNat < y.toNat
  · rw [if_pos h1, if_pos (show (x.toNat : Int) < (y.toNat : Int) by omega)]
    rfl
  · by_cases h2 : y.toNat < x.toNat
    · rw [if_neg h1, if_pos h2, if_neg (show ¬ (x.toNat : Int) < (y.toNat : Int) by omega), if_pos (show (y.toNat : Int) < (x.toNat : Int) by omega)]
      rfl
    · rw [if_neg h1, if_neg h2, if_neg (show ¬ (x.toNat : Int) < (y.toNat : Int) by omega), if_neg (show ¬ (y.toNat : Int) < (x.toNat : Int) by omega)]
      rfl
theorem cmpL_neg : ∀ a b : List UInt8, cmpL b a = -cmpL a b
  | [], [] => rfl
  | [], _ :: _ => rfl
  | _ :: _, [] => rfl
  | x :: a, y :: b => by rw [cmpL_step, cmpL_step, cmpL_neg a b, icmp_neg (x.toNat : Int) (y.toNat : Int), lx_neg]
theorem cmpL_t3 : ∀ a b d : List UInt8, T3 (cmpL a b) (cmpL b d) (cmpL a d)
  | [], [], [] => by simp [T3, cmpL]
  | [], [], _ :: _ => by simp [T3, cmpL]
  | [], _ :: _, [] => by simp [T3, cmpL]
  | [], _ :: _, _ :: _ => by simp [T3, cmpL]
  | _ :: _, [], [] => by simp [T3, cmpL]
  | _ :: _, [], _ :: _ => by simp [T3, cmpL]
  | x :: a, y :: b, [] => by
    have h := cmpL_r3 (x :: a) (y :: b)
    unfold R3 at h
    unfold T3
    rw [show cmpL (y :: b) [] = 1 from rfl, show cmpL (x :: a) [] = 1 from rfl]
    omega
  | x :: a, y :: b, w :: d => by
    rw [cmpL_step, cmpL_step, cmpL_step]
    exact lx_t3 (icmp_r3 _ _) (icmp_r3 _ _) (icmp_r3 _ _) (icmp_t3 _ _ _) (cmpL_t3 a b d)
theorem cmpL_zero : ∀ a b : List UInt8, cmpL a b = 0 → a = b
  | [], [], _ => rfl
  | [], _ :: _, h => by simp [cmpL] at h
  | _ :: _, [], h => by simp [cmpL] at h
  | x :: a, y :: b, h => by
    rw [cmpL_step] at h
    unfold lx at h
    split at h
    · rename_i e
      have := icmp_zero.1 e
      rw [UInt8.toNat_inj.1 (show x.toNat = y.toNat by omega), cmpL_zero a b h]
    · omega
theorem cmpL_self (a : List UInt8) : cmpL a a = 0 := by
  have := cmpL_neg a a
  omega
theorem less_cmp : ∀ a b : List UInt8, Op.bytesLess a b = decide (cmpL a b < 0)
  | [], [] => rfl
  | [], _ :: _ => rfl
  | _ :: _, [] => rfl
  | x :: a, y :: b => by
    have ih := less_cmp a b
    rw [Op.bytesLess, cmpL, ih]
    by_cases h : x < y
    · simp [h]
    · by_cases h2 : y < x
      · have h3 : ¬ x = y := fun e => h (e ▸ h2)
        simp [h, h2, h3]
      · have h3 : x = y := by
          rw [UInt8.lt_iff_toNat_lt] at h h2
          exact UInt8.toNat_inj.1 (by omega)
        simp [h3]
theorem sCmp_r3 (a b : ByteArray) : R3 (sCmp a b) := cmpL_r3 _ _
theorem sCmp_neg (a b : ByteArray) : sCmp b a = -sCmp a b := cmpL_neg _ _
theorem sCmp_t3 (a b d : ByteArray) : T3 (sCmp a b) (sCmp b d) (sCmp a d) := cmpL_t3 _ _ _
theorem sCmp_zero {a b : ByteArray} : sCmp a b = 0 ↔ a = b := ⟨fun h => toList_inj (cmpL_zero _ _ h), fun h => by rw [h]; exact cmpL_self _⟩
theorem sLt_cmp (a b : ByteArray) : sLt a b = decide (sCmp a b < 0) := less_cmp _ _
theorem sEq_cmp (a b : ByteArray) : sEq a b = decide (sCmp a b = 0) := by
  rw [sEq_dec]
  simp only [sCmp_zero]
theorem sLe_cmp (a b : ByteArray) : (sLt a b || sEq a b) = !sLt b a := by
  rw [sLt_cmp, sEq_cmp, sLt_cmp, sCmp_neg a b]
  have := sCmp_r3 a b
  unfold R3 at this
  rcases this with h | h | h <;> rw [h] <;> rfl
/-- the order of an order's answers: -1, 0, 1 -/
theorem sCmp_of (a b : ByteArray) : sCmp a b = if sLt a b = true then -1 else if (!(sLt a b || sEq a b)) = true then 1 else 0 := by
  rw [sLt_cmp, sEq_cmp]
  have := sCmp_r3 a b
  unfold R3 at this
  rcases this with h | h | h <;> rw [h] <;> rfl
end Go.Pv
