/- Parts of a slice of one's own, and appends of them. -/
import Derived.Test.YtnicmdfafihmpaaPvX2
namespace Go.Pv

def slmE (id sz n : Nat) (lo hi : Option Int) : Option Eff := (opP (fun _ => .un) (.slice sz (.c (.ms id sz 0 n)) (optI lo) (optI hi) none)).bind fun v => some ⟨v, [], []⟩
theorem takem_ok (id sz n : Nat) (k : Int) (h0 : 0 ≤ k) (h1 : k ≤ (n : Int)) : slmE id sz n none (some k) = some (vE (.ms id sz 0 k.toNat)) := by
  unfold slmE
  simp only [opP, optI, Opd.ev, optNat, asNat, Option.bind_some]
  have e0 : decide (0 ≤ k) = true := by simpa using h0
  rw [e0]
  simp only [cond_true, Option.bind_some]
  have e1 : (Nat.beq sz sz && Nat.ble 0 k.toNat && Nat.ble k.toNat n) = true := by
    rw [Nat.ble_eq_true_of_le (Nat.zero_le _), Nat.ble_eq_true_of_le (show k.toNat ≤ n by omega), Nat.beq_refl]
    rfl
  rw [e1]
  simp [vE]
theorem dropm_ok (id sz n : Nat) (k : Int) (h0 : 0 ≤ k) (h1 : k ≤ (n : Int)) : slmE id sz n (some k) none = some (vE (.ms id sz k.toNat (n - k.toNat))) := by
  unfold slmE
  simp only [opP, optI, Opd.ev, optNat, asNat, Option.bind_some]
  have e0 : decide (0 ≤ k) = true := by simpa using h0
  rw [e0]
  simp only [cond_true, Option.bind_some]
  have e1 : (Nat.beq sz sz && Nat.ble k.toNat n && Nat.ble n n) = true := by
    rw [Nat.ble_eq_true_of_le (show k.toNat ≤ n by omega), Nat.ble_eq_true_of_le (Nat.le_refl n), Nat.beq_refl]
    rfl
  rw [e1]
  simp [vE]
theorem part_flat {sz : Nat} {rows : List (List PV)} (hs : ∀ r ∈ rows, r.length = sz) (off len : Nat) (h : off + len ≤ rows.length) :
    (rows.flatten.drop (off * sz)).take (len * sz) = ((rows.drop off).take len).flatten ∧ Nat.ble ((off + len) * sz) rows.flatten.length = true := by
  have hs' : ∀ r ∈ rows.drop off, r.length = sz := fun r hr => hs r (List.mem_of_mem_drop hr)
  have e : ∀ (l : List (List PV)) (k : Nat), (∀ r ∈ l, r.length = sz) → l.flatten.take (k * sz) = (l.take k).flatten := by
    intro l
    induction l with
    | nil => simp
    | cons q l ih =>
      intro k hl
      cases k with
      | zero => simp
      | succ k =>
        have hq := hl q List.mem_cons_self
        rw [List.flatten_cons, List.take_succ_cons, List.flatten_cons, ← ih k (fun r hr => hl r (List.mem_cons_of_mem _ hr)), show (k + 1) * sz = q.length + k * sz by rw [hq, Nat.add_mul]; omega, List.take_length_add_append]
  refine ⟨by rw [flatten_drop sz rows off hs, e _ _ hs'], Nat.ble_eq_true_of_le ?_⟩
  rw [flat_length sz rows hs]
  exact Nat.mul_le_mul_right _ h
/-- an append of a part of a slice of one's own to none -/
def appE (id fr sz bytes ro : Nat) (gr : Bool) (rows : List (List PV)) (off len : Nat) : Option Eff := opAppend (look [(id, ⟨sz, ro, gr, rows.flatten⟩)]) fr sz bytes (.ns sz) (.ms id sz off len)
theorem app_none (id fr sz bytes ro : Nat) (gr : Bool) (rows : List (List PV)) (off len : Nat) (hs : ∀ r ∈ rows, r.length = sz) (h : off + len ≤ rows.length) (h0 : len = 0) : appE id fr sz bytes ro gr rows off len = some ⟨.ns sz, [], [id]⟩ := by
  subst h0
  obtain ⟨_, h2⟩ := part_flat hs off 0 h
  unfold appE opAppend
  simp only [source, look, Nat.beq_refl, cond_true, Option.bind_some, Bool.true_and]
  rw [h2]
  simp
  rfl
theorem app_ok (id fr sz bytes ro : Nat) (gr : Bool) (rows rows' : List (List PV)) (off len n' : Nat) (hs : ∀ r ∈ rows, r.length = sz) (h : off + len ≤ rows.length) (h0 : len ≠ 0) (hr : rows' = (rows.drop off).take len) (hn : n' = len) (hb : len * bytes ≤ 140737488355328) :
    appE id fr sz bytes ro gr rows off len = some ⟨.ms fr sz 0 n', [(fr, some ⟨sz, 0, true, rows'.flatten⟩)], [id]⟩ := by
  subst hr hn
  obtain ⟨h1, h2⟩ := part_flat hs off n' h
  unfold appE opAppend
  simp only [source, look, Nat.beq_refl, cond_true, Option.bind_some, Bool.true_and]
  rw [h2]
  simp only [cond_true, Option.bind_some]
  rw [Nat.ble_eq_true_of_le hb, h1]
  cases n' with
  | zero => exact absurd rfl h0
  | succ n => rfl
/-- .. to another one's own -/
def aplmE (id yid fr sz bytes ro : Nat) (cells : List PV) (yro : Nat) (ygr : Bool) (yrows : List (List PV)) (n off len : Nat) : Option Eff := opAppend (look [(id, ⟨sz, ro, true, cells⟩), (yid, ⟨sz, yro, ygr, yrows.flatten⟩)]) fr sz bytes (.ms id sz 0 n) (.ms yid sz off len)
theorem aplm_ok (id yid fr sz bytes ro : Nat) (cells : List PV) (rows0 : List (List PV)) (yro : Nat) (ygr : Bool) (yrows rows' : List (List PV)) (n off len n' : Nat) (hne : Nat.beq id yid = false) (hc : cells = rows0.flatten) (hn : n = rows0.length) (hn' : n' = rows'.length) (hr' : rows' = rows0 ++ (yrows.drop off).take len)
    (hs0 : ∀ r ∈ rows0, r.length = sz) (hs : ∀ r ∈ yrows, r.length = sz) (h : off + len ≤ yrows.length) (hb : (n + len) * bytes ≤ 140737488355328) :
    aplmE id yid fr sz bytes ro cells yro ygr yrows n off len = some ⟨.ms fr sz 0 n', [(id, none), (fr, some ⟨sz, ro, true, rows'.flatten⟩)], [id, yid]⟩ := by
  subst hc hn hn' hr'
  obtain ⟨h1, h2⟩ := part_flat hs off len h
  unfold aplmE opAppend
  simp only [source, look, hne, Nat.beq_refl, cond_true, cond_false, Option.bind_some, Bool.true_and]
  rw [h2]
  simp only [cond_true, Option.bind_some]
  rw [flat_length sz rows0 hs0, Nat.beq_refl, Nat.ble_eq_true_of_le hb, h1]
  have hl : ((yrows.drop off).take len).length = len := by simp; omega
  simp [hl]
end Go.Pv
