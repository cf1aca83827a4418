/-
  Strings: equality and order.
-/
import Derived.Test.YtgdipcoknfhobaaPvX
namespace Go.Pv
theorem toList_loop (b : ByteArray) : ∀ (n i : Nat) (acc : List UInt8), b.size - i = n → ByteArray.toList.loop b i acc = acc.reverse ++ b.data.toList.drop i := by
  intro n
  induction n with
  | zero =>
    intro i acc h
    unfold ByteArray.toList.loop
    have h1 : ¬ i < b.size := by omega
    rw [if_neg h1]
    have : b.data.toList.drop i = [] := by
      rw [List.drop_eq_nil_iff]
      have : b.data.toList.length = b.size := Array.length_toList
      omega
    rw [this, List.append_nil]
  | succ n ih =>
    intro i acc h
    unfold ByteArray.toList.loop
    have h1 : i < b.size := by omega
    rw [if_pos h1, ih (i + 1) _ (by omega)]
    have hl : i < b.data.toList.length := by rw [show b.data.toList.length = b.size from Array.length_toList]; exact h1
    rw [List.drop_eq_getElem_cons hl, List.reverse_cons, List.append_assoc]
    congr 1
    simp only [List.singleton_append, List.cons.injEq, and_true]
    have : b.data.size = b.size := rfl
    simp [ByteArray.get!, h1, this]
theorem toList_data (b : ByteArray) : b.toList = b.data.toList := by
  unfold ByteArray.toList
  rw [toList_loop b _ 0 [] rfl]
  simp
theorem toList_inj {a b : ByteArray} (h : a.toList = b.toList) : a = b := by
  rw [toList_data, toList_data] at h
  cases a
  cases b
  simp at h
  rw [h]
theorem sEq_iff {a b : ByteArray} : sEq a b = true ↔ a = b := by
  unfold sEq
  rw [beq_iff_eq]
  exact ⟨toList_inj, fun h => by rw [h]⟩
theorem sEq_self (a : ByteArray) : sEq a a = true := sEq_iff.2 rfl
theorem sEq_dec (a b : ByteArray) : sEq a b = decide (a = b) := by
  rw [Bool.eq_iff_iff, sEq_iff]
  simp
theorem sEq_comm (a b : ByteArray) : sEq a b = sEq b a := by
  rw [sEq_dec, sEq_dec]
  simp only [eq_comm]
end Go.Pv
