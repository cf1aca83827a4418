/- Slices that are made with a length: their rows. -/
import Derived.Test.YtgdipcoknfhobaaPvX2
namespace Go.Pv

theorem rep_map {α : Type} (f : α → List PV) (x : α) : ∀ n : Nat, rep (f x) n = ((List.replicate n x).map f).flatten
  | 0 => rfl
  | n + 1 => by rw [rep, rep_map f x n, List.replicate_succ, List.map_cons, List.flatten_cons]
def mkE (fr sz bytes : Nat) (z : List PV) (m : Int) : Option Eff := (opA (fun _ => .un) fr (.mks sz bytes z (.c (.int .i64 m)))).bind fun y => some ⟨y.1, [(fr, some y.2)], []⟩
theorem mk_ok (fr sz bytes : Nat) (z : List PV) (m : Int) (K : Nat) (rows : List (List PV)) (hm : m = (K : Int)) (hb : m * (bytes : Int) ≤ 140737488355328) (hr : rep z K = rows.flatten) :
    mkE fr sz bytes z m = some ⟨.ms fr sz 0 K, [(fr, some ⟨sz, 0, true, rows.flatten⟩)], []⟩ := by
  subst hm
  unfold mkE
  simp only [opA, Opd.ev]
  rw [show decide (0 ≤ (K : Int)) = true by simp, show decide ((K : Int) * (bytes : Int) ≤ 140737488355328) = true by simpa using hb]
  simp only [Bool.and_true, cond_true, Option.bind_some, Int.toNat_natCast, hr]
end Go.Pv
