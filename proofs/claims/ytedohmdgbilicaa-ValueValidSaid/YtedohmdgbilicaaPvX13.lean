/- Strings byte by byte; rows that are cloned. -/
import Derived.Test.YtedohmdgbilicaaPvX10
import Derived.Test.YtedohmdgbilicaaPvX11
import Derived.Test.YtedohmdgbilicaaPvZ
namespace Go.Pv

def letters (s : ByteArray) : List Int := s.data.toList.map fun b => (b.toNat : Int)
theorem lettersLen (s : ByteArray) : (letters s).length = s.size := by
  unfold letters
  rw [List.length_map, Array.length_toList]
  rfl
def sixE (s : ByteArray) (i : Int) : Option Eff := (opP (fun _ => .un) (.index (.c (.str s)) (.c (.int .i64 i)))).bind fun v => some ⟨v, [], []⟩
theorem six_ok (s : ByteArray) (i : Nat) (x : Int) (h : (letters s)[i]? = some x) : sixE s (i : Int) = some (vE (.int .u8 x)) := by
  unfold sixE
  simp only [opP, Opd.ev, asNat]
  rw [show decide (0 ≤ (i : Int)) = true by simp]
  simp only [cond_true, Option.bind_some, Int.toNat_natCast]
  unfold letters at h
  rw [List.getElem?_map, Array.getElem?_toList] at h
  cases e : s.data[i]? with
  | none => rw [e] at h; cases h
  | some b =>
    rw [e] at h
    injection h with h
    subst h
    rfl
theorem letters_lo (s : ByteArray) : ∀ x ∈ letters s, 0 ≤ x ∧ x ≤ 255 := fun x hx => by
  obtain ⟨b, _, rfl⟩ := List.mem_map.1 hx
  have := b.toNat_lt
  exact ⟨by omega, by omega⟩

theorem plain_bare : ∀ p, plain p = true → bare p = true := fun p h => by cases p <;> first | rfl | (cases h)
theorem tells_clone {G : Nat → Option Fun} {f sz bytes : Nat} (hG : G f = some (.ax (cloneF sz bytes))) {rows : List (List PV)} {n : Nat} (hn : rows.length = n) (hv : ViewOK sz rows.flatten rows) (hb : n * bytes ≤ 140737488355328) :
    Tells G (.call f [.sl rows] []) (.ret (.ms 0 sz 0 n) [⟨sz, 0, true, rows.flatten⟩]) := by
  refine ⟨1, ?_⟩
  subst hn
  simp only [runs, phi, hG, cloneF]
  have h1 : rowsSz rows sz = true := rowsSz_ok hv.size
  have h2 : rows.flatten.all bare = true := List.all_eq_true.2 fun p hp => plain_bare p (hv.all p hp)
  rw [h1, h2, Nat.ble_eq_true_of_le hb]
  rfl
end Go.Pv
namespace Go.Pv
theorem szM {v x : Val} (h : x ∈ v.list) : SizeOf.sizeOf x < SizeOf.sizeOf v := Nat.lt_trans (List.sizeOf_lt_of_mem h) v.lt_list
theorem szN {v : Val} {x : Fld} (h : x ∈ v.fields) : SizeOf.sizeOf x.v < SizeOf.sizeOf v := Nat.lt_trans x.lt_v (Nat.lt_trans (List.sizeOf_lt_of_mem h) v.lt_fields)
end Go.Pv
