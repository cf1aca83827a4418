/- The law LeaseSwitches in plain words. -/
import Derived.Test.YtgdipcoknfhobaaLeaseSwitches
import Derived.Test.YtgdipcoknfhobaaLeasePure
namespace Go.Proofs.Ytgdipcoknfhobaa
open Go.Pv

def idOf (who : Int) : ByteArray := List.getD [(⟨#[97]⟩ : ByteArray), (⟨#[98]⟩ : ByteArray), (⟨#[99]⟩ : ByteArray)] (Int.toNat (Int.tmod who 3)) (⟨#[]⟩ : ByteArray)
theorem tmod3 {n : Int} (h : 0 ≤ n) : 0 ≤ Int.tmod n 3 ∧ Int.tmod n 3 < 3 := by
  rw [Int.tmod_eq_emod_of_nonneg h]
  omega
theorem idOf_ne {who : Int} (h : 0 ≤ who) : idOf who ≠ none_ := by
  have := tmod3 h
  unfold idOf none_
  have : Int.toNat (Int.tmod who 3) = 0 ∨ Int.toNat (Int.tmod who 3) = 1 ∨ Int.toNat (Int.tmod who 3) = 2 := by omega
  rcases this with e | e | e <;> rw [e] <;> decide
def goodR : R_law29_LeaseSwitches_b0 → Bool
  | .k0 _ => true
  | .k1 => true
  | _ => false
theorem switches_run (p : List Move) : ∀ (l : List Move) (i : Nat) (at_ : Lease) (now n : Int), Vd at_ → at_.switches = n → 0 ≤ n → n + l.length ≤ 200 → goodR (l_law29_LeaseSwitches_b0 p l i at_ now n) = true
  | [], _, _, _, _, _, _, _, _ => rfl
  | m :: r, i, at_, now, n, hv, hs, hn, hl => by
    rw [l_law29_LeaseSwitches_b0]
    simp only [List.length_cons] at hl
    cases h1 : decide (m.who < 0) with
    | true => rfl
    | false =>
    cases h2 : decide (m.wait < 0) with
    | true => rfl
    | false =>
    cases h3 : decide (1000 < m.wait) with
    | true => rfl
    | false =>
    have hid := idOf_ne (who := m.who) (by simpa using h1)
    show goodR (bif m.release then (bif (sEq (s_lease_Release at_ (idOf m.who)).holder (idOf m.who)) then _ else bif ((s_lease_Release at_ (idOf m.who)).switches == at_.switches) then _ else _) else _) = true
    cases m.release with
    | true =>
      simp only [cond_true]
      have hr := release_spec hv (idOf m.who)
      have g1 : sEq (s_lease_Release at_ (idOf m.who)).holder (idOf m.who) = false := by
        rw [Bool.eq_false_iff, ne_eq, sEq_iff, hr]
        split
        · exact fun c => hid c.symm
        · rename_i c
          exact fun e => c ⟨hid, e⟩
      have g2 : (s_lease_Release at_ (idOf m.who)).switches = at_.switches := by
        rw [hr]
        split <;> rfl
      rw [g1, g2]
      simp only [cond_false, beq_self_eq_true, cond_true]
      exact switches_run p r _ _ _ _ (release_valid hv _) (g2.trans hs) hn (by omega)
    | false =>
      simp only [cond_false]
      have w1 : w64 (n + 1) = n + 1 := w64_of (by omega)
      rcases try_spec hv (idOf m.who) (w64 (now + m.wait)) m.duration with ⟨f, _, e⟩ | ⟨_, e⟩
      · have e' : s_lease_Try at_ (List.getD [(⟨#[97]⟩ : ByteArray), (⟨#[98]⟩ : ByteArray), (⟨#[99]⟩ : ByteArray)] (Int.toNat (Int.tmod m.who 3)) (⟨#[]⟩ : ByteArray)) (w64 (now + m.wait)) m.duration = _ := e
        rw [e']
        have gv := got_valid hv f
        show goodR (bif true then bif sEq at_.holder (idOf m.who) then bif sEq (got at_ (idOf m.who) (w64 (now + m.wait)) m.duration).holder (idOf m.who) then _ else _ else bif sEq (got at_ (idOf m.who) (w64 (now + m.wait)) m.duration).holder (idOf m.who) then _ else _ else _) = true
        have gh : sEq (got at_ (idOf m.who) (w64 (now + m.wait)) m.duration).holder (idOf m.who) = true := sEq_self _
        rw [gh]
        cases c : sEq at_.holder (idOf m.who) with
        | true =>
          have gs : (got at_ (idOf m.who) (w64 (now + m.wait)) m.duration).switches = n := by
            simp only [got]
            rw [if_pos (sEq_iff.1 c)]
            exact hs
          have gb : ((got at_ (idOf m.who) (w64 (now + m.wait)) m.duration).switches == n) = true := by rw [gs]; simp
          simp only [cond_true]
          show goodR (bif ((got at_ (idOf m.who) (w64 (now + m.wait)) m.duration).switches == n) then _ else _) = true
          rw [gb]
          simp only [cond_true]
          exact switches_run p r _ _ _ _ gv gs hn (by omega)
        | false =>
          have gs : (got at_ (idOf m.who) (w64 (now + m.wait)) m.duration).switches = w64 (n + 1) := by
            simp only [got]
            rw [if_neg (fun q => by rw [sEq_iff.2 q] at c; cases c), hs, w1]
            unfold mn
            rw [if_neg (by omega)]
          have gb : ((got at_ (idOf m.who) (w64 (now + m.wait)) m.duration).switches == w64 (n + 1)) = true := by rw [gs]; simp
          simp only [cond_true, cond_false]
          show goodR (bif ((got at_ (idOf m.who) (w64 (now + m.wait)) m.duration).switches == w64 (n + 1)) then _ else _) = true
          rw [gb]
          simp only [cond_true]
          exact switches_run p r _ _ _ _ gv gs (by rw [w1]; omega) (by rw [w1]; omega)
      · have e' : s_lease_Try at_ (List.getD [(⟨#[97]⟩ : ByteArray), (⟨#[98]⟩ : ByteArray), (⟨#[99]⟩ : ByteArray)] (Int.toNat (Int.tmod m.who 3)) (⟨#[]⟩ : ByteArray)) (w64 (now + m.wait)) m.duration = _ := e
        rw [e']
        have gb : (at_.switches == n) = true := by rw [hs]; simp
        simp only [cond_false]
        rw [gb]
        simp only [cond_true]
        exact switches_run p r _ _ _ _ hv hs hn (by omega)
theorem leaseSwitches (p : List Move) : s_law29_LeaseSwitches p = true := by
  unfold s_law29_LeaseSwitches
  cases h : decide (200 < ((List.length p) : Int)) with
  | true => rfl
  | false =>
    have := switches_run p p 0 (Lease.mk (⟨#[]⟩ : ByteArray) 0 0 0) 0 0 (by decide) rfl (by omega) (by simp at h; omega)
    simp only [cond_false]
    revert this
    cases l_law29_LeaseSwitches_b0 p p 0 (Lease.mk (⟨#[]⟩ : ByteArray) 0 0 0) 0 0 <;> simp [goodR]
theorem switchesH (p : List Move) (h : List.length p ≤ 4611686018427387904) : H_law29_LeaseSwitches p := by
  have key : ∀ x0 : Move, decide (x0.who < 0) = false → 0 ≤ Int.tmod x0.who 3 ∧ Int.tmod x0.who 3 < 3 := fun x0 h1 => tmod3 (by simpa using h1)
  refine ⟨⟨h, fun x0 _ h1 _ _ => (key x0 h1).1, fun x0 _ h1 _ _ => (key x0 h1).2, fun x0 _ h1 _ _ => ?_, trivial⟩, trivial⟩
  have := key x0 h1
  show Int.toNat (Int.tmod x0.who 3) < 3
  omega
end Go.Proofs.Ytgdipcoknfhobaa
