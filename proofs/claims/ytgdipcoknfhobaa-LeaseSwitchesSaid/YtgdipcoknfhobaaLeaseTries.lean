/- What the functions of the law LeaseTries compute (printed by a program). -/
import Derived.Test.YtgdipcoknfhobaaIr
import Derived.Test.YtgdipcoknfhobaaPvX
import Derived.Test.YtgdipcoknfhobaaPvY
namespace Go.Proofs.Ytgdipcoknfhobaa
open Go.Pv

abbrev G : Nat → Option Fun := tabG Ir.table
abbrev Γ : Nat → Option Ty := fun _ => none

structure Lease where
  holder : ByteArray
  renewed : Int
  duration : Int
  switches : Int
def Lease.cells (x : Lease) : List PV :=
  [.str x.holder, .int .i64 x.renewed, .int .i64 x.duration, .int .i64 x.switches]
def Lease.rows (l : List Lease) : List (List PV) := l.map Lease.cells
theorem Lease.rowsLen (l : List Lease) : (Lease.rows l).length = l.length := by simp [Lease.rows]
theorem Lease.rowsGet {l : List Lease} {i : Nat} {x : Lease} (h : l[i]? = some x) : (Lease.rows l)[i]? = some (Lease.cells x) := Go.Pv.rowsGet h
theorem Lease.rowsSnoc (l : List Lease) (x : Lease) : Lease.rows (l ++ [x]) = Lease.rows l ++ [Lease.cells x] := by simp [Lease.rows]
theorem Lease.rowsTake (l : List Lease) (n : Nat) : Lease.rows (l.take n) = (Lease.rows l).take n := by simp [Lease.rows, List.map_take]
theorem Lease.rowsDrop (l : List Lease) (n : Nat) : Lease.rows (l.drop n) = (Lease.rows l).drop n := by simp [Lease.rows, List.map_drop]
theorem Lease.rowsSize (l : List Lease) : ∀ r ∈ Lease.rows l, r.length = 4 := mapSize (f := Lease.cells) (fun _ => rfl) l
theorem Lease.rowsView (l : List Lease) (sz : Nat) (h : sz = 4) : ViewOK sz (Lease.rows l).flatten (Lease.rows l) := by subst h; exact ⟨rfl, Lease.rowsSize l, mapPlain (f := Lease.cells) (fun _ => rfl) l⟩

/-- orchestrator/ orchestratorlaw29.lives -/
theorem t_law29_lives : Tells G (.call 20 [] []) (.ret (.bool true) []) := ⟨20, by kernel_rfl⟩

/-- orchestrator/ lease.within -/
def s_lease_within (p0 : Int) (p1 : Int) : Bool :=
  bif (decide (0 ≤ p0)) then
    (decide (p0 ≤ p1))
  else
    false
def c_lease_within (p0 : Int) (p1 : Int) : En := .call 32 [.int .i64 p0, .int .i64 p1] []
def a_lease_within (p0 : Int) (p1 : Int) : Rs := .ret (.bool (s_lease_within p0 p1)) []
theorem t_lease_within (p0 : Int) (p1 : Int) : Tells G (c_lease_within p0 p1) (a_lease_within p0 p1) := by
  unfold a_lease_within s_lease_within
  cases h0 : (decide (0 ≤ p0)) with
  | true =>
    exact tells_V (fn := Ir.lease_within) rfl VOK.nil (hs := [(2, (bE true, []))]) (as := []) (Met.cons (dec (decide (0 ≤ p0)) true h0) Met.nil) Told.nil (by kernel_rfl)
  | false =>
    exact tells_V (fn := Ir.lease_within) rfl VOK.nil (hs := [(2, (bE false, []))]) (as := []) (Met.cons (dec (decide (0 ≤ p0)) false h0) Met.nil) Told.nil (by kernel_rfl)

/-- orchestrator/ lease.Valid -/
def s_lease_Valid (p0 : Lease) : Bool :=
  bif (decide ((ByteArray.size p0.holder : Int) ≤ 40)) then
    bif (s_lease_within p0.renewed 1000000000000) then
      bif (s_lease_within p0.duration 1000000000000) then
        (s_lease_within p0.switches 1000000000000000)
      else
        false
    else
      false
  else
    false
def c_lease_Valid (p0 : Lease) : En := .call 21 [.agg (Lease.cells p0)] []
def a_lease_Valid (p0 : Lease) : Rs := .ret (.bool (s_lease_Valid p0)) []
theorem t_lease_Valid (p0 : Lease) : Tells G (c_lease_Valid p0) (a_lease_Valid p0) := by
  unfold a_lease_Valid s_lease_Valid
  cases h0 : (decide ((ByteArray.size p0.holder : Int) ≤ 40)) with
  | true =>
    cases h1 : (s_lease_within p0.renewed 1000000000000) with
    | true =>
      cases h2 : (s_lease_within p0.duration 1000000000000) with
      | true =>
        exact tells_V (fn := Ir.lease_Valid) rfl VOK.nil (hs := [(5, (bE true, []))]) (as := [⟨.ret (.bool true) [], []⟩, ⟨.ret (.bool true) [], []⟩, ⟨a_lease_within p0.switches 1000000000000000, []⟩]) (Met.cons (dec (decide ((ByteArray.size p0.holder : Int) ≤ 40)) true h0) Met.nil) (Told.cons (toldOf (t_lease_within p0.renewed 1000000000000) (congrArg (fun b => Rs.ret (.bool b) []) h1)) (Told.cons (toldOf (t_lease_within p0.duration 1000000000000) (congrArg (fun b => Rs.ret (.bool b) []) h2)) (Told.cons (t_lease_within p0.switches 1000000000000000) Told.nil))) (by kernel_rfl)
      | false =>
        exact tells_V (fn := Ir.lease_Valid) rfl VOK.nil (hs := [(5, (bE true, []))]) (as := [⟨.ret (.bool true) [], []⟩, ⟨.ret (.bool false) [], []⟩]) (Met.cons (dec (decide ((ByteArray.size p0.holder : Int) ≤ 40)) true h0) Met.nil) (Told.cons (toldOf (t_lease_within p0.renewed 1000000000000) (congrArg (fun b => Rs.ret (.bool b) []) h1)) (Told.cons (toldOf (t_lease_within p0.duration 1000000000000) (congrArg (fun b => Rs.ret (.bool b) []) h2)) Told.nil)) (by kernel_rfl)
    | false =>
      exact tells_V (fn := Ir.lease_Valid) rfl VOK.nil (hs := [(5, (bE true, []))]) (as := [⟨.ret (.bool false) [], []⟩]) (Met.cons (dec (decide ((ByteArray.size p0.holder : Int) ≤ 40)) true h0) Met.nil) (Told.cons (toldOf (t_lease_within p0.renewed 1000000000000) (congrArg (fun b => Rs.ret (.bool b) []) h1)) Told.nil) (by kernel_rfl)
  | false =>
    exact tells_V (fn := Ir.lease_Valid) rfl VOK.nil (hs := [(5, (bE false, []))]) (as := []) (Met.cons (dec (decide ((ByteArray.size p0.holder : Int) ≤ 40)) false h0) Met.nil) Told.nil (by kernel_rfl)

/-- orchestrator/ lease.Try -/
def s_lease_Try (p0 : Lease) (p1 : ByteArray) (p2 : Int) (p3 : Int) : Lease × Bool :=
  bif (s_lease_Valid p0) then
    bif (sEq p1 (⟨#[]⟩ : ByteArray)) then
      (p0, false)
    else
      bif (decide (40 < (ByteArray.size p1 : Int))) then
        (p0, false)
      else
        bif (s_lease_within p2 1000000000000) then
          bif (decide (p3 < 1)) then
            (p0, false)
          else
            bif (decide (1000000000000 < p3)) then
              (p0, false)
            else
              bif (sEq p0.holder p1) then
                ((Lease.mk p1 (mx p0.renewed p2) p3 p0.switches), true)
              else
                bif (sEq p0.holder (⟨#[]⟩ : ByteArray)) then
                  ((Lease.mk p1 (mx p0.renewed p2) p3 (mn (w64 (p0.switches + 1)) 1000000000000000)), true)
                else
                  bif (decide (p2 < (w64 (p0.renewed + p0.duration)))) then
                    (p0, false)
                  else
                    ((Lease.mk p1 (mx p0.renewed p2) p3 (mn (w64 (p0.switches + 1)) 1000000000000000)), true)
        else
          (p0, false)
  else
    (p0, false)
def c_lease_Try (p0 : Lease) (p1 : ByteArray) (p2 : Int) (p3 : Int) : En := .call 18 [.agg (Lease.cells p0), .str p1, .int .i64 p2, .int .i64 p3] []
def a_lease_Try (p0 : Lease) (p1 : ByteArray) (p2 : Int) (p3 : Int) : Rs := .ret (.tup [.agg (Lease.cells (s_lease_Try p0 p1 p2 p3).1), .bool (s_lease_Try p0 p1 p2 p3).2]) []
theorem t_lease_Try_0 (p0 : Lease) (p1 : ByteArray) (p2 : Int) (p3 : Int) (h0 : (s_lease_Valid p0) = true) (h1 : (sEq p1 (⟨#[]⟩ : ByteArray)) = true) : Tells G (c_lease_Try p0 p1 p2 p3) (.ret (.tup [.agg (Lease.cells (p0, false).1), .bool (p0, false).2]) []) :=
  tells_V (fn := Ir.lease_Try) rfl VOK.nil (hs := [(8, (bE true, []))]) (as := [⟨.ret (.bool true) [], []⟩]) (Met.cons (dec (sEq p1 (⟨#[]⟩ : ByteArray)) true h1) Met.nil) (Told.cons (toldOf (t_lease_Valid p0) (congrArg (fun b => Rs.ret (.bool b) []) h0)) Told.nil) (by kernel_rfl)
theorem t_lease_Try_1 (p0 : Lease) (p1 : ByteArray) (p2 : Int) (p3 : Int) (h0 : (s_lease_Valid p0) = true) (h1 : (sEq p1 (⟨#[]⟩ : ByteArray)) = false) (h2 : (decide (40 < (ByteArray.size p1 : Int))) = true) : Tells G (c_lease_Try p0 p1 p2 p3) (.ret (.tup [.agg (Lease.cells (p0, false).1), .bool (p0, false).2]) []) :=
  tells_V (fn := Ir.lease_Try) rfl VOK.nil (hs := [(8, (bE false, [])), (4, (bE true, []))]) (as := [⟨.ret (.bool true) [], []⟩]) (Met.cons (dec (sEq p1 (⟨#[]⟩ : ByteArray)) false h1) (Met.cons (dec (decide (40 < (ByteArray.size p1 : Int))) true h2) Met.nil)) (Told.cons (toldOf (t_lease_Valid p0) (congrArg (fun b => Rs.ret (.bool b) []) h0)) Told.nil) (by kernel_rfl)
theorem t_lease_Try_2 (p0 : Lease) (p1 : ByteArray) (p2 : Int) (p3 : Int) (h0 : (s_lease_Valid p0) = true) (h1 : (sEq p1 (⟨#[]⟩ : ByteArray)) = false) (h2 : (decide (40 < (ByteArray.size p1 : Int))) = false) (h3 : (s_lease_within p2 1000000000000) = true) (h4 : (decide (p3 < 1)) = true) : Tells G (c_lease_Try p0 p1 p2 p3) (.ret (.tup [.agg (Lease.cells (p0, false).1), .bool (p0, false).2]) []) :=
  tells_V (fn := Ir.lease_Try) rfl VOK.nil (hs := [(8, (bE false, [])), (4, (bE false, [])), (8, (bE true, []))]) (as := [⟨.ret (.bool true) [], []⟩, ⟨.ret (.bool true) [], []⟩]) (Met.cons (dec (sEq p1 (⟨#[]⟩ : ByteArray)) false h1) (Met.cons (dec (decide (40 < (ByteArray.size p1 : Int))) false h2) (Met.cons (dec (decide (p3 < 1)) true h4) Met.nil))) (Told.cons (toldOf (t_lease_Valid p0) (congrArg (fun b => Rs.ret (.bool b) []) h0)) (Told.cons (toldOf (t_lease_within p2 1000000000000) (congrArg (fun b => Rs.ret (.bool b) []) h3)) Told.nil)) (by kernel_rfl)
theorem t_lease_Try_3 (p0 : Lease) (p1 : ByteArray) (p2 : Int) (p3 : Int) (h0 : (s_lease_Valid p0) = true) (h1 : (sEq p1 (⟨#[]⟩ : ByteArray)) = false) (h2 : (decide (40 < (ByteArray.size p1 : Int))) = false) (h3 : (s_lease_within p2 1000000000000) = true) (h4 : (decide (p3 < 1)) = false) (h5 : (decide (1000000000000 < p3)) = true) : Tells G (c_lease_Try p0 p1 p2 p3) (.ret (.tup [.agg (Lease.cells (p0, false).1), .bool (p0, false).2]) []) :=
  tells_V (fn := Ir.lease_Try) rfl VOK.nil (hs := [(8, (bE false, [])), (4, (bE false, [])), (8, (bE false, [])), (3, (bE true, []))]) (as := [⟨.ret (.bool true) [], []⟩, ⟨.ret (.bool true) [], []⟩]) (Met.cons (dec (sEq p1 (⟨#[]⟩ : ByteArray)) false h1) (Met.cons (dec (decide (40 < (ByteArray.size p1 : Int))) false h2) (Met.cons (dec (decide (p3 < 1)) false h4) (Met.cons (dec (decide (1000000000000 < p3)) true h5) Met.nil)))) (Told.cons (toldOf (t_lease_Valid p0) (congrArg (fun b => Rs.ret (.bool b) []) h0)) (Told.cons (toldOf (t_lease_within p2 1000000000000) (congrArg (fun b => Rs.ret (.bool b) []) h3)) Told.nil)) (by kernel_rfl)
theorem t_lease_Try_4 (p0 : Lease) (p1 : ByteArray) (p2 : Int) (p3 : Int) (h0 : (s_lease_Valid p0) = true) (h1 : (sEq p1 (⟨#[]⟩ : ByteArray)) = false) (h2 : (decide (40 < (ByteArray.size p1 : Int))) = false) (h3 : (s_lease_within p2 1000000000000) = true) (h4 : (decide (p3 < 1)) = false) (h5 : (decide (1000000000000 < p3)) = false) (h6 : (sEq p0.holder p1) = true) : Tells G (c_lease_Try p0 p1 p2 p3) (.ret (.tup [.agg (Lease.cells ((Lease.mk p1 (mx p0.renewed p2) p3 p0.switches), true).1), .bool ((Lease.mk p1 (mx p0.renewed p2) p3 p0.switches), true).2]) []) :=
  tells_V (fn := Ir.lease_Try) rfl VOK.nil (hs := [(8, (bE false, [])), (4, (bE false, [])), (8, (bE false, [])), (3, (bE false, [])), (4, (bE false, []))]) (as := [⟨.ret (.bool true) [], []⟩, ⟨.ret (.bool true) [], []⟩]) (Met.cons (dec (sEq p1 (⟨#[]⟩ : ByteArray)) false h1) (Met.cons (dec (decide (40 < (ByteArray.size p1 : Int))) false h2) (Met.cons (dec (decide (p3 < 1)) false h4) (Met.cons (dec (decide (1000000000000 < p3)) false h5) (Met.cons (dec (!(sEq p0.holder p1)) false (by rw [h6]; rfl)) Met.nil))))) (Told.cons (toldOf (t_lease_Valid p0) (congrArg (fun b => Rs.ret (.bool b) []) h0)) (Told.cons (toldOf (t_lease_within p2 1000000000000) (congrArg (fun b => Rs.ret (.bool b) []) h3)) Told.nil)) (by kernel_rfl)
theorem t_lease_Try_5 (p0 : Lease) (p1 : ByteArray) (p2 : Int) (p3 : Int) (h0 : (s_lease_Valid p0) = true) (h1 : (sEq p1 (⟨#[]⟩ : ByteArray)) = false) (h2 : (decide (40 < (ByteArray.size p1 : Int))) = false) (h3 : (s_lease_within p2 1000000000000) = true) (h4 : (decide (p3 < 1)) = false) (h5 : (decide (1000000000000 < p3)) = false) (h6 : (sEq p0.holder p1) = false) (h7 : (sEq p0.holder (⟨#[]⟩ : ByteArray)) = true) : Tells G (c_lease_Try p0 p1 p2 p3) (.ret (.tup [.agg (Lease.cells ((Lease.mk p1 (mx p0.renewed p2) p3 (mn (w64 (p0.switches + 1)) 1000000000000000)), true).1), .bool ((Lease.mk p1 (mx p0.renewed p2) p3 (mn (w64 (p0.switches + 1)) 1000000000000000)), true).2]) []) :=
  tells_V (fn := Ir.lease_Try) rfl VOK.nil (hs := [(8, (bE false, [])), (4, (bE false, [])), (8, (bE false, [])), (3, (bE false, [])), (4, (bE true, [])), (2, (bE false, []))]) (as := [⟨.ret (.bool true) [], []⟩, ⟨.ret (.bool true) [], []⟩]) (Met.cons (dec (sEq p1 (⟨#[]⟩ : ByteArray)) false h1) (Met.cons (dec (decide (40 < (ByteArray.size p1 : Int))) false h2) (Met.cons (dec (decide (p3 < 1)) false h4) (Met.cons (dec (decide (1000000000000 < p3)) false h5) (Met.cons (dec (!(sEq p0.holder p1)) true (by rw [h6]; rfl)) (Met.cons (dec (!(sEq p0.holder (⟨#[]⟩ : ByteArray))) false (by rw [h7]; rfl)) Met.nil)))))) (Told.cons (toldOf (t_lease_Valid p0) (congrArg (fun b => Rs.ret (.bool b) []) h0)) (Told.cons (toldOf (t_lease_within p2 1000000000000) (congrArg (fun b => Rs.ret (.bool b) []) h3)) Told.nil)) (by kernel_rfl)
theorem t_lease_Try_6 (p0 : Lease) (p1 : ByteArray) (p2 : Int) (p3 : Int) (h0 : (s_lease_Valid p0) = true) (h1 : (sEq p1 (⟨#[]⟩ : ByteArray)) = false) (h2 : (decide (40 < (ByteArray.size p1 : Int))) = false) (h3 : (s_lease_within p2 1000000000000) = true) (h4 : (decide (p3 < 1)) = false) (h5 : (decide (1000000000000 < p3)) = false) (h6 : (sEq p0.holder p1) = false) (h7 : (sEq p0.holder (⟨#[]⟩ : ByteArray)) = false) (h8 : (decide (p2 < (w64 (p0.renewed + p0.duration)))) = true) : Tells G (c_lease_Try p0 p1 p2 p3) (.ret (.tup [.agg (Lease.cells (p0, false).1), .bool (p0, false).2]) []) :=
  tells_V (fn := Ir.lease_Try) rfl VOK.nil (hs := [(8, (bE false, [])), (4, (bE false, [])), (8, (bE false, [])), (3, (bE false, [])), (4, (bE true, [])), (2, (bE true, [])), (7, (bE true, []))]) (as := [⟨.ret (.bool true) [], []⟩, ⟨.ret (.bool true) [], []⟩]) (Met.cons (dec (sEq p1 (⟨#[]⟩ : ByteArray)) false h1) (Met.cons (dec (decide (40 < (ByteArray.size p1 : Int))) false h2) (Met.cons (dec (decide (p3 < 1)) false h4) (Met.cons (dec (decide (1000000000000 < p3)) false h5) (Met.cons (dec (!(sEq p0.holder p1)) true (by rw [h6]; rfl)) (Met.cons (dec (!(sEq p0.holder (⟨#[]⟩ : ByteArray))) true (by rw [h7]; rfl)) (Met.cons (dec (decide (p2 < (w64 (p0.renewed + p0.duration)))) true h8) Met.nil))))))) (Told.cons (toldOf (t_lease_Valid p0) (congrArg (fun b => Rs.ret (.bool b) []) h0)) (Told.cons (toldOf (t_lease_within p2 1000000000000) (congrArg (fun b => Rs.ret (.bool b) []) h3)) Told.nil)) (by kernel_rfl)
theorem t_lease_Try_7 (p0 : Lease) (p1 : ByteArray) (p2 : Int) (p3 : Int) (h0 : (s_lease_Valid p0) = true) (h1 : (sEq p1 (⟨#[]⟩ : ByteArray)) = false) (h2 : (decide (40 < (ByteArray.size p1 : Int))) = false) (h3 : (s_lease_within p2 1000000000000) = true) (h4 : (decide (p3 < 1)) = false) (h5 : (decide (1000000000000 < p3)) = false) (h6 : (sEq p0.holder p1) = false) (h7 : (sEq p0.holder (⟨#[]⟩ : ByteArray)) = false) (h8 : (decide (p2 < (w64 (p0.renewed + p0.duration)))) = false) : Tells G (c_lease_Try p0 p1 p2 p3) (.ret (.tup [.agg (Lease.cells ((Lease.mk p1 (mx p0.renewed p2) p3 (mn (w64 (p0.switches + 1)) 1000000000000000)), true).1), .bool ((Lease.mk p1 (mx p0.renewed p2) p3 (mn (w64 (p0.switches + 1)) 1000000000000000)), true).2]) []) :=
  tells_V (fn := Ir.lease_Try) rfl VOK.nil (hs := [(8, (bE false, [])), (4, (bE false, [])), (8, (bE false, [])), (3, (bE false, [])), (4, (bE true, [])), (2, (bE true, [])), (7, (bE false, []))]) (as := [⟨.ret (.bool true) [], []⟩, ⟨.ret (.bool true) [], []⟩]) (Met.cons (dec (sEq p1 (⟨#[]⟩ : ByteArray)) false h1) (Met.cons (dec (decide (40 < (ByteArray.size p1 : Int))) false h2) (Met.cons (dec (decide (p3 < 1)) false h4) (Met.cons (dec (decide (1000000000000 < p3)) false h5) (Met.cons (dec (!(sEq p0.holder p1)) true (by rw [h6]; rfl)) (Met.cons (dec (!(sEq p0.holder (⟨#[]⟩ : ByteArray))) true (by rw [h7]; rfl)) (Met.cons (dec (decide (p2 < (w64 (p0.renewed + p0.duration)))) false h8) Met.nil))))))) (Told.cons (toldOf (t_lease_Valid p0) (congrArg (fun b => Rs.ret (.bool b) []) h0)) (Told.cons (toldOf (t_lease_within p2 1000000000000) (congrArg (fun b => Rs.ret (.bool b) []) h3)) Told.nil)) (by kernel_rfl)
theorem t_lease_Try_8 (p0 : Lease) (p1 : ByteArray) (p2 : Int) (p3 : Int) (h0 : (s_lease_Valid p0) = true) (h1 : (sEq p1 (⟨#[]⟩ : ByteArray)) = false) (h2 : (decide (40 < (ByteArray.size p1 : Int))) = false) (h3 : (s_lease_within p2 1000000000000) = false) : Tells G (c_lease_Try p0 p1 p2 p3) (.ret (.tup [.agg (Lease.cells (p0, false).1), .bool (p0, false).2]) []) :=
  tells_V (fn := Ir.lease_Try) rfl VOK.nil (hs := [(8, (bE false, [])), (4, (bE false, []))]) (as := [⟨.ret (.bool true) [], []⟩, ⟨.ret (.bool false) [], []⟩]) (Met.cons (dec (sEq p1 (⟨#[]⟩ : ByteArray)) false h1) (Met.cons (dec (decide (40 < (ByteArray.size p1 : Int))) false h2) Met.nil)) (Told.cons (toldOf (t_lease_Valid p0) (congrArg (fun b => Rs.ret (.bool b) []) h0)) (Told.cons (toldOf (t_lease_within p2 1000000000000) (congrArg (fun b => Rs.ret (.bool b) []) h3)) Told.nil)) (by kernel_rfl)
theorem t_lease_Try_9 (p0 : Lease) (p1 : ByteArray) (p2 : Int) (p3 : Int) (h0 : (s_lease_Valid p0) = false) : Tells G (c_lease_Try p0 p1 p2 p3) (.ret (.tup [.agg (Lease.cells (p0, false).1), .bool (p0, false).2]) []) :=
  tells_V (fn := Ir.lease_Try) rfl VOK.nil (hs := []) (as := [⟨.ret (.bool false) [], []⟩]) Met.nil (Told.cons (toldOf (t_lease_Valid p0) (congrArg (fun b => Rs.ret (.bool b) []) h0)) Told.nil) (by kernel_rfl)
theorem t_lease_Try (p0 : Lease) (p1 : ByteArray) (p2 : Int) (p3 : Int) : Tells G (c_lease_Try p0 p1 p2 p3) (a_lease_Try p0 p1 p2 p3) := by
  unfold a_lease_Try s_lease_Try
  cases h0 : (s_lease_Valid p0) with
  | true =>
    cases h1 : (sEq p1 (⟨#[]⟩ : ByteArray)) with
    | true =>
      exact t_lease_Try_0 p0 p1 p2 p3 h0 h1
    | false =>
      cases h2 : (decide (40 < (ByteArray.size p1 : Int))) with
      | true =>
        exact t_lease_Try_1 p0 p1 p2 p3 h0 h1 h2
      | false =>
        cases h3 : (s_lease_within p2 1000000000000) with
        | true =>
          cases h4 : (decide (p3 < 1)) with
          | true =>
            exact t_lease_Try_2 p0 p1 p2 p3 h0 h1 h2 h3 h4
          | false =>
            cases h5 : (decide (1000000000000 < p3)) with
            | true =>
              exact t_lease_Try_3 p0 p1 p2 p3 h0 h1 h2 h3 h4 h5
            | false =>
              cases h6 : (sEq p0.holder p1) with
              | true =>
                exact t_lease_Try_4 p0 p1 p2 p3 h0 h1 h2 h3 h4 h5 h6
              | false =>
                cases h7 : (sEq p0.holder (⟨#[]⟩ : ByteArray)) with
                | true =>
                  exact t_lease_Try_5 p0 p1 p2 p3 h0 h1 h2 h3 h4 h5 h6 h7
                | false =>
                  cases h8 : (decide (p2 < (w64 (p0.renewed + p0.duration)))) with
                  | true =>
                    exact t_lease_Try_6 p0 p1 p2 p3 h0 h1 h2 h3 h4 h5 h6 h7 h8
                  | false =>
                    exact t_lease_Try_7 p0 p1 p2 p3 h0 h1 h2 h3 h4 h5 h6 h7 h8
        | false =>
          exact t_lease_Try_8 p0 p1 p2 p3 h0 h1 h2 h3
  | false =>
    exact t_lease_Try_9 p0 p1 p2 p3 h0

/-- orchestrator/ orchestratorref29.Valid -/
def s_ref29_Valid (p0 : Lease) : Bool :=
  bif (decide ((ByteArray.size p0.holder : Int) ≤ 40)) then
    bif (decide (0 ≤ p0.renewed)) then
      bif (decide (p0.renewed ≤ 1000000000000)) then
        bif (decide (0 ≤ p0.duration)) then
          bif (decide (p0.duration ≤ 1000000000000)) then
            bif (decide (0 ≤ p0.switches)) then
              (decide (p0.switches ≤ 1000000000000000))
            else
              false
          else
            false
        else
          false
      else
        false
    else
      false
  else
    false
def c_ref29_Valid (p0 : Lease) : En := .call 22 [.agg (Lease.cells p0)] []
def a_ref29_Valid (p0 : Lease) : Rs := .ret (.bool (s_ref29_Valid p0)) []
theorem t_ref29_Valid_0 (p0 : Lease) (h0 : (decide ((ByteArray.size p0.holder : Int) ≤ 40)) = true) (h1 : (decide (0 ≤ p0.renewed)) = true) (h2 : (decide (p0.renewed ≤ 1000000000000)) = true) (h3 : (decide (0 ≤ p0.duration)) = true) (h4 : (decide (p0.duration ≤ 1000000000000)) = true) (h5 : (decide (0 ≤ p0.switches)) = true) : Tells G (c_ref29_Valid p0) (.ret (.bool (decide (p0.switches ≤ 1000000000000000))) []) :=
  tells_V (fn := Ir.ref29_Valid) rfl VOK.nil (hs := [(5, (bE true, [])), (3, (bE true, [])), (4, (bE true, [])), (4, (bE true, [])), (4, (bE true, [])), (4, (bE true, []))]) (as := []) (Met.cons (dec (decide ((ByteArray.size p0.holder : Int) ≤ 40)) true h0) (Met.cons (dec (decide (0 ≤ p0.renewed)) true h1) (Met.cons (dec (decide (p0.renewed ≤ 1000000000000)) true h2) (Met.cons (dec (decide (0 ≤ p0.duration)) true h3) (Met.cons (dec (decide (p0.duration ≤ 1000000000000)) true h4) (Met.cons (dec (decide (0 ≤ p0.switches)) true h5) Met.nil)))))) Told.nil (by kernel_rfl)
theorem t_ref29_Valid_1 (p0 : Lease) (h0 : (decide ((ByteArray.size p0.holder : Int) ≤ 40)) = true) (h1 : (decide (0 ≤ p0.renewed)) = true) (h2 : (decide (p0.renewed ≤ 1000000000000)) = true) (h3 : (decide (0 ≤ p0.duration)) = true) (h4 : (decide (p0.duration ≤ 1000000000000)) = true) (h5 : (decide (0 ≤ p0.switches)) = false) : Tells G (c_ref29_Valid p0) (.ret (.bool false) []) :=
  tells_V (fn := Ir.ref29_Valid) rfl VOK.nil (hs := [(5, (bE true, [])), (3, (bE true, [])), (4, (bE true, [])), (4, (bE true, [])), (4, (bE true, [])), (4, (bE false, []))]) (as := []) (Met.cons (dec (decide ((ByteArray.size p0.holder : Int) ≤ 40)) true h0) (Met.cons (dec (decide (0 ≤ p0.renewed)) true h1) (Met.cons (dec (decide (p0.renewed ≤ 1000000000000)) true h2) (Met.cons (dec (decide (0 ≤ p0.duration)) true h3) (Met.cons (dec (decide (p0.duration ≤ 1000000000000)) true h4) (Met.cons (dec (decide (0 ≤ p0.switches)) false h5) Met.nil)))))) Told.nil (by kernel_rfl)
theorem t_ref29_Valid_2 (p0 : Lease) (h0 : (decide ((ByteArray.size p0.holder : Int) ≤ 40)) = true) (h1 : (decide (0 ≤ p0.renewed)) = true) (h2 : (decide (p0.renewed ≤ 1000000000000)) = true) (h3 : (decide (0 ≤ p0.duration)) = true) (h4 : (decide (p0.duration ≤ 1000000000000)) = false) : Tells G (c_ref29_Valid p0) (.ret (.bool false) []) :=
  tells_V (fn := Ir.ref29_Valid) rfl VOK.nil (hs := [(5, (bE true, [])), (3, (bE true, [])), (4, (bE true, [])), (4, (bE true, [])), (4, (bE false, []))]) (as := []) (Met.cons (dec (decide ((ByteArray.size p0.holder : Int) ≤ 40)) true h0) (Met.cons (dec (decide (0 ≤ p0.renewed)) true h1) (Met.cons (dec (decide (p0.renewed ≤ 1000000000000)) true h2) (Met.cons (dec (decide (0 ≤ p0.duration)) true h3) (Met.cons (dec (decide (p0.duration ≤ 1000000000000)) false h4) Met.nil))))) Told.nil (by kernel_rfl)
theorem t_ref29_Valid_3 (p0 : Lease) (h0 : (decide ((ByteArray.size p0.holder : Int) ≤ 40)) = true) (h1 : (decide (0 ≤ p0.renewed)) = true) (h2 : (decide (p0.renewed ≤ 1000000000000)) = true) (h3 : (decide (0 ≤ p0.duration)) = false) : Tells G (c_ref29_Valid p0) (.ret (.bool false) []) :=
  tells_V (fn := Ir.ref29_Valid) rfl VOK.nil (hs := [(5, (bE true, [])), (3, (bE true, [])), (4, (bE true, [])), (4, (bE false, []))]) (as := []) (Met.cons (dec (decide ((ByteArray.size p0.holder : Int) ≤ 40)) true h0) (Met.cons (dec (decide (0 ≤ p0.renewed)) true h1) (Met.cons (dec (decide (p0.renewed ≤ 1000000000000)) true h2) (Met.cons (dec (decide (0 ≤ p0.duration)) false h3) Met.nil)))) Told.nil (by kernel_rfl)
theorem t_ref29_Valid_4 (p0 : Lease) (h0 : (decide ((ByteArray.size p0.holder : Int) ≤ 40)) = true) (h1 : (decide (0 ≤ p0.renewed)) = true) (h2 : (decide (p0.renewed ≤ 1000000000000)) = false) : Tells G (c_ref29_Valid p0) (.ret (.bool false) []) :=
  tells_V (fn := Ir.ref29_Valid) rfl VOK.nil (hs := [(5, (bE true, [])), (3, (bE true, [])), (4, (bE false, []))]) (as := []) (Met.cons (dec (decide ((ByteArray.size p0.holder : Int) ≤ 40)) true h0) (Met.cons (dec (decide (0 ≤ p0.renewed)) true h1) (Met.cons (dec (decide (p0.renewed ≤ 1000000000000)) false h2) Met.nil))) Told.nil (by kernel_rfl)
theorem t_ref29_Valid_5 (p0 : Lease) (h0 : (decide ((ByteArray.size p0.holder : Int) ≤ 40)) = true) (h1 : (decide (0 ≤ p0.renewed)) = false) : Tells G (c_ref29_Valid p0) (.ret (.bool false) []) :=
  tells_V (fn := Ir.ref29_Valid) rfl VOK.nil (hs := [(5, (bE true, [])), (3, (bE false, []))]) (as := []) (Met.cons (dec (decide ((ByteArray.size p0.holder : Int) ≤ 40)) true h0) (Met.cons (dec (decide (0 ≤ p0.renewed)) false h1) Met.nil)) Told.nil (by kernel_rfl)
theorem t_ref29_Valid_6 (p0 : Lease) (h0 : (decide ((ByteArray.size p0.holder : Int) ≤ 40)) = false) : Tells G (c_ref29_Valid p0) (.ret (.bool false) []) :=
  tells_V (fn := Ir.ref29_Valid) rfl VOK.nil (hs := [(5, (bE false, []))]) (as := []) (Met.cons (dec (decide ((ByteArray.size p0.holder : Int) ≤ 40)) false h0) Met.nil) Told.nil (by kernel_rfl)
theorem t_ref29_Valid (p0 : Lease) : Tells G (c_ref29_Valid p0) (a_ref29_Valid p0) := by
  unfold a_ref29_Valid s_ref29_Valid
  cases h0 : (decide ((ByteArray.size p0.holder : Int) ≤ 40)) with
  | true =>
    cases h1 : (decide (0 ≤ p0.renewed)) with
    | true =>
      cases h2 : (decide (p0.renewed ≤ 1000000000000)) with
      | true =>
        cases h3 : (decide (0 ≤ p0.duration)) with
        | true =>
          cases h4 : (decide (p0.duration ≤ 1000000000000)) with
          | true =>
            cases h5 : (decide (0 ≤ p0.switches)) with
            | true =>
              exact t_ref29_Valid_0 p0 h0 h1 h2 h3 h4 h5
            | false =>
              exact t_ref29_Valid_1 p0 h0 h1 h2 h3 h4 h5
          | false =>
            exact t_ref29_Valid_2 p0 h0 h1 h2 h3 h4
        | false =>
          exact t_ref29_Valid_3 p0 h0 h1 h2 h3
      | false =>
        exact t_ref29_Valid_4 p0 h0 h1 h2
    | false =>
      exact t_ref29_Valid_5 p0 h0 h1
  | false =>
    exact t_ref29_Valid_6 p0 h0

/-- orchestrator/ orchestratorref29.Try -/
def s_ref29_Try (p0 : Lease) (p1 : ByteArray) (p2 : Int) (p3 : Int) : Lease × Bool :=
  bif (s_ref29_Valid p0) then
    bif (sEq p1 (⟨#[]⟩ : ByteArray)) then
      (p0, false)
    else
      bif (decide (40 < (ByteArray.size p1 : Int))) then
        (p0, false)
      else
        bif (decide (p2 < 0)) then
          (p0, false)
        else
          bif (decide (1000000000000 < p2)) then
            (p0, false)
          else
            bif (decide (p3 < 1)) then
              (p0, false)
            else
              bif (decide (1000000000000 < p3)) then
                (p0, false)
              else
                bif (sEq p0.holder (⟨#[]⟩ : ByteArray)) then
                  bif (sEq p0.holder p1) then
                    ((Lease.mk p1 (mx p0.renewed p2) p3 p0.switches), true)
                  else
                    ((Lease.mk p1 (mx p0.renewed p2) p3 (mn 1000000000000000 (w64 (p0.switches + 1)))), true)
                else
                  bif (sEq p0.holder p1) then
                    ((Lease.mk p1 (mx p0.renewed p2) p3 p0.switches), true)
                  else
                    bif (decide (p2 < (w64 (p0.renewed + p0.duration)))) then
                      (p0, false)
                    else
                      ((Lease.mk p1 (mx p0.renewed p2) p3 (mn 1000000000000000 (w64 (p0.switches + 1)))), true)
  else
    (p0, false)
def c_ref29_Try (p0 : Lease) (p1 : ByteArray) (p2 : Int) (p3 : Int) : En := .call 19 [.agg (Lease.cells p0), .str p1, .int .i64 p2, .int .i64 p3] []
def a_ref29_Try (p0 : Lease) (p1 : ByteArray) (p2 : Int) (p3 : Int) : Rs := .ret (.tup [.agg (Lease.cells (s_ref29_Try p0 p1 p2 p3).1), .bool (s_ref29_Try p0 p1 p2 p3).2]) []
theorem t_ref29_Try_0 (p0 : Lease) (p1 : ByteArray) (p2 : Int) (p3 : Int) (h0 : (s_ref29_Valid p0) = true) (h1 : (sEq p1 (⟨#[]⟩ : ByteArray)) = true) : Tells G (c_ref29_Try p0 p1 p2 p3) (.ret (.tup [.agg (Lease.cells (p0, false).1), .bool (p0, false).2]) []) :=
  tells_V (fn := Ir.ref29_Try) rfl VOK.nil (hs := [(8, (bE true, []))]) (as := [⟨.ret (.bool true) [], []⟩]) (Met.cons (dec (sEq p1 (⟨#[]⟩ : ByteArray)) true h1) Met.nil) (Told.cons (toldOf (t_ref29_Valid p0) (congrArg (fun b => Rs.ret (.bool b) []) h0)) Told.nil) (by kernel_rfl)
theorem t_ref29_Try_1 (p0 : Lease) (p1 : ByteArray) (p2 : Int) (p3 : Int) (h0 : (s_ref29_Valid p0) = true) (h1 : (sEq p1 (⟨#[]⟩ : ByteArray)) = false) (h2 : (decide (40 < (ByteArray.size p1 : Int))) = true) : Tells G (c_ref29_Try p0 p1 p2 p3) (.ret (.tup [.agg (Lease.cells (p0, false).1), .bool (p0, false).2]) []) :=
  tells_V (fn := Ir.ref29_Try) rfl VOK.nil (hs := [(8, (bE false, [])), (4, (bE true, []))]) (as := [⟨.ret (.bool true) [], []⟩]) (Met.cons (dec (sEq p1 (⟨#[]⟩ : ByteArray)) false h1) (Met.cons (dec (decide (40 < (ByteArray.size p1 : Int))) true h2) Met.nil)) (Told.cons (toldOf (t_ref29_Valid p0) (congrArg (fun b => Rs.ret (.bool b) []) h0)) Told.nil) (by kernel_rfl)
theorem t_ref29_Try_2 (p0 : Lease) (p1 : ByteArray) (p2 : Int) (p3 : Int) (h0 : (s_ref29_Valid p0) = true) (h1 : (sEq p1 (⟨#[]⟩ : ByteArray)) = false) (h2 : (decide (40 < (ByteArray.size p1 : Int))) = false) (h3 : (decide (p2 < 0)) = true) : Tells G (c_ref29_Try p0 p1 p2 p3) (.ret (.tup [.agg (Lease.cells (p0, false).1), .bool (p0, false).2]) []) :=
  tells_V (fn := Ir.ref29_Try) rfl VOK.nil (hs := [(8, (bE false, [])), (4, (bE false, [])), (3, (bE true, []))]) (as := [⟨.ret (.bool true) [], []⟩]) (Met.cons (dec (sEq p1 (⟨#[]⟩ : ByteArray)) false h1) (Met.cons (dec (decide (40 < (ByteArray.size p1 : Int))) false h2) (Met.cons (dec (decide (p2 < 0)) true h3) Met.nil))) (Told.cons (toldOf (t_ref29_Valid p0) (congrArg (fun b => Rs.ret (.bool b) []) h0)) Told.nil) (by kernel_rfl)
theorem t_ref29_Try_3 (p0 : Lease) (p1 : ByteArray) (p2 : Int) (p3 : Int) (h0 : (s_ref29_Valid p0) = true) (h1 : (sEq p1 (⟨#[]⟩ : ByteArray)) = false) (h2 : (decide (40 < (ByteArray.size p1 : Int))) = false) (h3 : (decide (p2 < 0)) = false) (h4 : (decide (1000000000000 < p2)) = true) : Tells G (c_ref29_Try p0 p1 p2 p3) (.ret (.tup [.agg (Lease.cells (p0, false).1), .bool (p0, false).2]) []) :=
  tells_V (fn := Ir.ref29_Try) rfl VOK.nil (hs := [(8, (bE false, [])), (4, (bE false, [])), (3, (bE false, [])), (3, (bE true, []))]) (as := [⟨.ret (.bool true) [], []⟩]) (Met.cons (dec (sEq p1 (⟨#[]⟩ : ByteArray)) false h1) (Met.cons (dec (decide (40 < (ByteArray.size p1 : Int))) false h2) (Met.cons (dec (decide (p2 < 0)) false h3) (Met.cons (dec (decide (1000000000000 < p2)) true h4) Met.nil)))) (Told.cons (toldOf (t_ref29_Valid p0) (congrArg (fun b => Rs.ret (.bool b) []) h0)) Told.nil) (by kernel_rfl)
theorem t_ref29_Try_4 (p0 : Lease) (p1 : ByteArray) (p2 : Int) (p3 : Int) (h0 : (s_ref29_Valid p0) = true) (h1 : (sEq p1 (⟨#[]⟩ : ByteArray)) = false) (h2 : (decide (40 < (ByteArray.size p1 : Int))) = false) (h3 : (decide (p2 < 0)) = false) (h4 : (decide (1000000000000 < p2)) = false) (h5 : (decide (p3 < 1)) = true) : Tells G (c_ref29_Try p0 p1 p2 p3) (.ret (.tup [.agg (Lease.cells (p0, false).1), .bool (p0, false).2]) []) :=
  tells_V (fn := Ir.ref29_Try) rfl VOK.nil (hs := [(8, (bE false, [])), (4, (bE false, [])), (3, (bE false, [])), (3, (bE false, [])), (3, (bE true, []))]) (as := [⟨.ret (.bool true) [], []⟩]) (Met.cons (dec (sEq p1 (⟨#[]⟩ : ByteArray)) false h1) (Met.cons (dec (decide (40 < (ByteArray.size p1 : Int))) false h2) (Met.cons (dec (decide (p2 < 0)) false h3) (Met.cons (dec (decide (1000000000000 < p2)) false h4) (Met.cons (dec (decide (p3 < 1)) true h5) Met.nil))))) (Told.cons (toldOf (t_ref29_Valid p0) (congrArg (fun b => Rs.ret (.bool b) []) h0)) Told.nil) (by kernel_rfl)
theorem t_ref29_Try_5 (p0 : Lease) (p1 : ByteArray) (p2 : Int) (p3 : Int) (h0 : (s_ref29_Valid p0) = true) (h1 : (sEq p1 (⟨#[]⟩ : ByteArray)) = false) (h2 : (decide (40 < (ByteArray.size p1 : Int))) = false) (h3 : (decide (p2 < 0)) = false) (h4 : (decide (1000000000000 < p2)) = false) (h5 : (decide (p3 < 1)) = false) (h6 : (decide (1000000000000 < p3)) = true) : Tells G (c_ref29_Try p0 p1 p2 p3) (.ret (.tup [.agg (Lease.cells (p0, false).1), .bool (p0, false).2]) []) :=
  tells_V (fn := Ir.ref29_Try) rfl VOK.nil (hs := [(8, (bE false, [])), (4, (bE false, [])), (3, (bE false, [])), (3, (bE false, [])), (3, (bE false, [])), (3, (bE true, []))]) (as := [⟨.ret (.bool true) [], []⟩]) (Met.cons (dec (sEq p1 (⟨#[]⟩ : ByteArray)) false h1) (Met.cons (dec (decide (40 < (ByteArray.size p1 : Int))) false h2) (Met.cons (dec (decide (p2 < 0)) false h3) (Met.cons (dec (decide (1000000000000 < p2)) false h4) (Met.cons (dec (decide (p3 < 1)) false h5) (Met.cons (dec (decide (1000000000000 < p3)) true h6) Met.nil)))))) (Told.cons (toldOf (t_ref29_Valid p0) (congrArg (fun b => Rs.ret (.bool b) []) h0)) Told.nil) (by kernel_rfl)
theorem t_ref29_Try_6 (p0 : Lease) (p1 : ByteArray) (p2 : Int) (p3 : Int) (h0 : (s_ref29_Valid p0) = true) (h1 : (sEq p1 (⟨#[]⟩ : ByteArray)) = false) (h2 : (decide (40 < (ByteArray.size p1 : Int))) = false) (h3 : (decide (p2 < 0)) = false) (h4 : (decide (1000000000000 < p2)) = false) (h5 : (decide (p3 < 1)) = false) (h6 : (decide (1000000000000 < p3)) = false) (h7 : (sEq p0.holder (⟨#[]⟩ : ByteArray)) = true) (h8 : (sEq p0.holder p1) = true) : Tells G (c_ref29_Try p0 p1 p2 p3) (.ret (.tup [.agg (Lease.cells ((Lease.mk p1 (mx p0.renewed p2) p3 p0.switches), true).1), .bool ((Lease.mk p1 (mx p0.renewed p2) p3 p0.switches), true).2]) []) :=
  tells_V (fn := Ir.ref29_Try) rfl VOK.nil (hs := [(8, (bE false, [])), (4, (bE false, [])), (3, (bE false, [])), (3, (bE false, [])), (3, (bE false, [])), (3, (bE false, [])), (3, (bE false, [])), (29, (bE false, []))]) (as := [⟨.ret (.bool true) [], []⟩]) (Met.cons (dec (sEq p1 (⟨#[]⟩ : ByteArray)) false h1) (Met.cons (dec (decide (40 < (ByteArray.size p1 : Int))) false h2) (Met.cons (dec (decide (p2 < 0)) false h3) (Met.cons (dec (decide (1000000000000 < p2)) false h4) (Met.cons (dec (decide (p3 < 1)) false h5) (Met.cons (dec (decide (1000000000000 < p3)) false h6) (Met.cons (dec (!(sEq p0.holder (⟨#[]⟩ : ByteArray))) false (by rw [h7]; rfl)) (Met.cons (dec (!(sEq p0.holder p1)) false (by rw [h8]; rfl)) Met.nil)))))))) (Told.cons (toldOf (t_ref29_Valid p0) (congrArg (fun b => Rs.ret (.bool b) []) h0)) Told.nil) (by kernel_rfl)
theorem t_ref29_Try_7 (p0 : Lease) (p1 : ByteArray) (p2 : Int) (p3 : Int) (h0 : (s_ref29_Valid p0) = true) (h1 : (sEq p1 (⟨#[]⟩ : ByteArray)) = false) (h2 : (decide (40 < (ByteArray.size p1 : Int))) = false) (h3 : (decide (p2 < 0)) = false) (h4 : (decide (1000000000000 < p2)) = false) (h5 : (decide (p3 < 1)) = false) (h6 : (decide (1000000000000 < p3)) = false) (h7 : (sEq p0.holder (⟨#[]⟩ : ByteArray)) = true) (h8 : (sEq p0.holder p1) = false) : Tells G (c_ref29_Try p0 p1 p2 p3) (.ret (.tup [.agg (Lease.cells ((Lease.mk p1 (mx p0.renewed p2) p3 (mn 1000000000000000 (w64 (p0.switches + 1)))), true).1), .bool ((Lease.mk p1 (mx p0.renewed p2) p3 (mn 1000000000000000 (w64 (p0.switches + 1)))), true).2]) []) :=
  tells_V (fn := Ir.ref29_Try) rfl VOK.nil (hs := [(8, (bE false, [])), (4, (bE false, [])), (3, (bE false, [])), (3, (bE false, [])), (3, (bE false, [])), (3, (bE false, [])), (3, (bE false, [])), (29, (bE true, []))]) (as := [⟨.ret (.bool true) [], []⟩]) (Met.cons (dec (sEq p1 (⟨#[]⟩ : ByteArray)) false h1) (Met.cons (dec (decide (40 < (ByteArray.size p1 : Int))) false h2) (Met.cons (dec (decide (p2 < 0)) false h3) (Met.cons (dec (decide (1000000000000 < p2)) false h4) (Met.cons (dec (decide (p3 < 1)) false h5) (Met.cons (dec (decide (1000000000000 < p3)) false h6) (Met.cons (dec (!(sEq p0.holder (⟨#[]⟩ : ByteArray))) false (by rw [h7]; rfl)) (Met.cons (dec (!(sEq p0.holder p1)) true (by rw [h8]; rfl)) Met.nil)))))))) (Told.cons (toldOf (t_ref29_Valid p0) (congrArg (fun b => Rs.ret (.bool b) []) h0)) Told.nil) (by kernel_rfl)
theorem t_ref29_Try_8 (p0 : Lease) (p1 : ByteArray) (p2 : Int) (p3 : Int) (h0 : (s_ref29_Valid p0) = true) (h1 : (sEq p1 (⟨#[]⟩ : ByteArray)) = false) (h2 : (decide (40 < (ByteArray.size p1 : Int))) = false) (h3 : (decide (p2 < 0)) = false) (h4 : (decide (1000000000000 < p2)) = false) (h5 : (decide (p3 < 1)) = false) (h6 : (decide (1000000000000 < p3)) = false) (h7 : (sEq p0.holder (⟨#[]⟩ : ByteArray)) = false) (h8 : (sEq p0.holder p1) = true) : Tells G (c_ref29_Try p0 p1 p2 p3) (.ret (.tup [.agg (Lease.cells ((Lease.mk p1 (mx p0.renewed p2) p3 p0.switches), true).1), .bool ((Lease.mk p1 (mx p0.renewed p2) p3 p0.switches), true).2]) []) :=
  tells_V (fn := Ir.ref29_Try) rfl VOK.nil (hs := [(8, (bE false, [])), (4, (bE false, [])), (3, (bE false, [])), (3, (bE false, [])), (3, (bE false, [])), (3, (bE false, [])), (3, (bE true, [])), (4, (bE false, [])), (24, (bE false, []))]) (as := [⟨.ret (.bool true) [], []⟩]) (Met.cons (dec (sEq p1 (⟨#[]⟩ : ByteArray)) false h1) (Met.cons (dec (decide (40 < (ByteArray.size p1 : Int))) false h2) (Met.cons (dec (decide (p2 < 0)) false h3) (Met.cons (dec (decide (1000000000000 < p2)) false h4) (Met.cons (dec (decide (p3 < 1)) false h5) (Met.cons (dec (decide (1000000000000 < p3)) false h6) (Met.cons (dec (!(sEq p0.holder (⟨#[]⟩ : ByteArray))) true (by rw [h7]; rfl)) (Met.cons (dec (!(sEq p0.holder p1)) false (by rw [h8]; rfl)) (Met.cons (dec (!(sEq p0.holder p1)) false (by rw [h8]; rfl)) Met.nil))))))))) (Told.cons (toldOf (t_ref29_Valid p0) (congrArg (fun b => Rs.ret (.bool b) []) h0)) Told.nil) (by kernel_rfl)
theorem t_ref29_Try_9 (p0 : Lease) (p1 : ByteArray) (p2 : Int) (p3 : Int) (h0 : (s_ref29_Valid p0) = true) (h1 : (sEq p1 (⟨#[]⟩ : ByteArray)) = false) (h2 : (decide (40 < (ByteArray.size p1 : Int))) = false) (h3 : (decide (p2 < 0)) = false) (h4 : (decide (1000000000000 < p2)) = false) (h5 : (decide (p3 < 1)) = false) (h6 : (decide (1000000000000 < p3)) = false) (h7 : (sEq p0.holder (⟨#[]⟩ : ByteArray)) = false) (h8 : (sEq p0.holder p1) = false) (h9 : (decide (p2 < (w64 (p0.renewed + p0.duration)))) = true) : Tells G (c_ref29_Try p0 p1 p2 p3) (.ret (.tup [.agg (Lease.cells (p0, false).1), .bool (p0, false).2]) []) :=
  tells_V (fn := Ir.ref29_Try) rfl VOK.nil (hs := [(8, (bE false, [])), (4, (bE false, [])), (3, (bE false, [])), (3, (bE false, [])), (3, (bE false, [])), (3, (bE false, [])), (3, (bE true, [])), (4, (bE true, [])), (8, (bE true, []))]) (as := [⟨.ret (.bool true) [], []⟩]) (Met.cons (dec (sEq p1 (⟨#[]⟩ : ByteArray)) false h1) (Met.cons (dec (decide (40 < (ByteArray.size p1 : Int))) false h2) (Met.cons (dec (decide (p2 < 0)) false h3) (Met.cons (dec (decide (1000000000000 < p2)) false h4) (Met.cons (dec (decide (p3 < 1)) false h5) (Met.cons (dec (decide (1000000000000 < p3)) false h6) (Met.cons (dec (!(sEq p0.holder (⟨#[]⟩ : ByteArray))) true (by rw [h7]; rfl)) (Met.cons (dec (!(sEq p0.holder p1)) true (by rw [h8]; rfl)) (Met.cons (dec (decide (p2 < (w64 (p0.renewed + p0.duration)))) true h9) Met.nil))))))))) (Told.cons (toldOf (t_ref29_Valid p0) (congrArg (fun b => Rs.ret (.bool b) []) h0)) Told.nil) (by kernel_rfl)
theorem t_ref29_Try_10 (p0 : Lease) (p1 : ByteArray) (p2 : Int) (p3 : Int) (h0 : (s_ref29_Valid p0) = true) (h1 : (sEq p1 (⟨#[]⟩ : ByteArray)) = false) (h2 : (decide (40 < (ByteArray.size p1 : Int))) = false) (h3 : (decide (p2 < 0)) = false) (h4 : (decide (1000000000000 < p2)) = false) (h5 : (decide (p3 < 1)) = false) (h6 : (decide (1000000000000 < p3)) = false) (h7 : (sEq p0.holder (⟨#[]⟩ : ByteArray)) = false) (h8 : (sEq p0.holder p1) = false) (h9 : (decide (p2 < (w64 (p0.renewed + p0.duration)))) = false) : Tells G (c_ref29_Try p0 p1 p2 p3) (.ret (.tup [.agg (Lease.cells ((Lease.mk p1 (mx p0.renewed p2) p3 (mn 1000000000000000 (w64 (p0.switches + 1)))), true).1), .bool ((Lease.mk p1 (mx p0.renewed p2) p3 (mn 1000000000000000 (w64 (p0.switches + 1)))), true).2]) []) :=
  tells_V (fn := Ir.ref29_Try) rfl VOK.nil (hs := [(8, (bE false, [])), (4, (bE false, [])), (3, (bE false, [])), (3, (bE false, [])), (3, (bE false, [])), (3, (bE false, [])), (3, (bE true, [])), (4, (bE true, [])), (8, (bE false, [])), (15, (bE true, []))]) (as := [⟨.ret (.bool true) [], []⟩]) (Met.cons (dec (sEq p1 (⟨#[]⟩ : ByteArray)) false h1) (Met.cons (dec (decide (40 < (ByteArray.size p1 : Int))) false h2) (Met.cons (dec (decide (p2 < 0)) false h3) (Met.cons (dec (decide (1000000000000 < p2)) false h4) (Met.cons (dec (decide (p3 < 1)) false h5) (Met.cons (dec (decide (1000000000000 < p3)) false h6) (Met.cons (dec (!(sEq p0.holder (⟨#[]⟩ : ByteArray))) true (by rw [h7]; rfl)) (Met.cons (dec (!(sEq p0.holder p1)) true (by rw [h8]; rfl)) (Met.cons (dec (decide (p2 < (w64 (p0.renewed + p0.duration)))) false h9) (Met.cons (dec (!(sEq p0.holder p1)) true (by rw [h8]; rfl)) Met.nil)))))))))) (Told.cons (toldOf (t_ref29_Valid p0) (congrArg (fun b => Rs.ret (.bool b) []) h0)) Told.nil) (by kernel_rfl)
theorem t_ref29_Try_11 (p0 : Lease) (p1 : ByteArray) (p2 : Int) (p3 : Int) (h0 : (s_ref29_Valid p0) = false) : Tells G (c_ref29_Try p0 p1 p2 p3) (.ret (.tup [.agg (Lease.cells (p0, false).1), .bool (p0, false).2]) []) :=
  tells_V (fn := Ir.ref29_Try) rfl VOK.nil (hs := []) (as := [⟨.ret (.bool false) [], []⟩]) Met.nil (Told.cons (toldOf (t_ref29_Valid p0) (congrArg (fun b => Rs.ret (.bool b) []) h0)) Told.nil) (by kernel_rfl)
theorem t_ref29_Try (p0 : Lease) (p1 : ByteArray) (p2 : Int) (p3 : Int) : Tells G (c_ref29_Try p0 p1 p2 p3) (a_ref29_Try p0 p1 p2 p3) := by
  unfold a_ref29_Try s_ref29_Try
  cases h0 : (s_ref29_Valid p0) with
  | true =>
    cases h1 : (sEq p1 (⟨#[]⟩ : ByteArray)) with
    | true =>
      exact t_ref29_Try_0 p0 p1 p2 p3 h0 h1
    | false =>
      cases h2 : (decide (40 < (ByteArray.size p1 : Int))) with
      | true =>
        exact t_ref29_Try_1 p0 p1 p2 p3 h0 h1 h2
      | false =>
        cases h3 : (decide (p2 < 0)) with
        | true =>
          exact t_ref29_Try_2 p0 p1 p2 p3 h0 h1 h2 h3
        | false =>
          cases h4 : (decide (1000000000000 < p2)) with
          | true =>
            exact t_ref29_Try_3 p0 p1 p2 p3 h0 h1 h2 h3 h4
          | false =>
            cases h5 : (decide (p3 < 1)) with
            | true =>
              exact t_ref29_Try_4 p0 p1 p2 p3 h0 h1 h2 h3 h4 h5
            | false =>
              cases h6 : (decide (1000000000000 < p3)) with
              | true =>
                exact t_ref29_Try_5 p0 p1 p2 p3 h0 h1 h2 h3 h4 h5 h6
              | false =>
                cases h7 : (sEq p0.holder (⟨#[]⟩ : ByteArray)) with
                | true =>
                  cases h8 : (sEq p0.holder p1) with
                  | true =>
                    exact t_ref29_Try_6 p0 p1 p2 p3 h0 h1 h2 h3 h4 h5 h6 h7 h8
                  | false =>
                    exact t_ref29_Try_7 p0 p1 p2 p3 h0 h1 h2 h3 h4 h5 h6 h7 h8
                | false =>
                  cases h8 : (sEq p0.holder p1) with
                  | true =>
                    exact t_ref29_Try_8 p0 p1 p2 p3 h0 h1 h2 h3 h4 h5 h6 h7 h8
                  | false =>
                    cases h9 : (decide (p2 < (w64 (p0.renewed + p0.duration)))) with
                    | true =>
                      exact t_ref29_Try_9 p0 p1 p2 p3 h0 h1 h2 h3 h4 h5 h6 h7 h8 h9
                    | false =>
                      exact t_ref29_Try_10 p0 p1 p2 p3 h0 h1 h2 h3 h4 h5 h6 h7 h8 h9
  | false =>
    exact t_ref29_Try_11 p0 p1 p2 p3 h0

/-- orchestrator/ lease.Holds -/
def s_lease_Holds (p0 : Lease) (p1 : ByteArray) (p2 : Int) : Bool :=
  bif (s_lease_Valid p0) then
    bif (sEq p1 (⟨#[]⟩ : ByteArray)) then
      false
    else
      bif (sEq p0.holder p1) then
        (decide (p2 < (w64 (p0.renewed + p0.duration))))
      else
        false
  else
    false
def c_lease_Holds (p0 : Lease) (p1 : ByteArray) (p2 : Int) : En := .call 23 [.agg (Lease.cells p0), .str p1, .int .i64 p2] []
def a_lease_Holds (p0 : Lease) (p1 : ByteArray) (p2 : Int) : Rs := .ret (.bool (s_lease_Holds p0 p1 p2)) []
theorem t_lease_Holds (p0 : Lease) (p1 : ByteArray) (p2 : Int) : Tells G (c_lease_Holds p0 p1 p2) (a_lease_Holds p0 p1 p2) := by
  unfold a_lease_Holds s_lease_Holds
  cases h0 : (s_lease_Valid p0) with
  | true =>
    cases h1 : (sEq p1 (⟨#[]⟩ : ByteArray)) with
    | true =>
      exact tells_V (fn := Ir.lease_Holds) rfl VOK.nil (hs := [(6, (bE false, []))]) (as := [⟨.ret (.bool true) [], []⟩]) (Met.cons (dec (!(sEq p1 (⟨#[]⟩ : ByteArray))) false (by rw [h1]; rfl)) Met.nil) (Told.cons (toldOf (t_lease_Valid p0) (congrArg (fun b => Rs.ret (.bool b) []) h0)) Told.nil) (by kernel_rfl)
    | false =>
      cases h2 : (sEq p0.holder p1) with
      | true =>
        exact tells_V (fn := Ir.lease_Holds) rfl VOK.nil (hs := [(6, (bE true, [])), (5, (bE true, []))]) (as := [⟨.ret (.bool true) [], []⟩]) (Met.cons (dec (!(sEq p1 (⟨#[]⟩ : ByteArray))) true (by rw [h1]; rfl)) (Met.cons (dec (sEq p0.holder p1) true h2) Met.nil)) (Told.cons (toldOf (t_lease_Valid p0) (congrArg (fun b => Rs.ret (.bool b) []) h0)) Told.nil) (by kernel_rfl)
      | false =>
        exact tells_V (fn := Ir.lease_Holds) rfl VOK.nil (hs := [(6, (bE true, [])), (5, (bE false, []))]) (as := [⟨.ret (.bool true) [], []⟩]) (Met.cons (dec (!(sEq p1 (⟨#[]⟩ : ByteArray))) true (by rw [h1]; rfl)) (Met.cons (dec (sEq p0.holder p1) false h2) Met.nil)) (Told.cons (toldOf (t_lease_Valid p0) (congrArg (fun b => Rs.ret (.bool b) []) h0)) Told.nil) (by kernel_rfl)
  | false =>
    exact tells_V (fn := Ir.lease_Holds) rfl VOK.nil (hs := []) (as := [⟨.ret (.bool false) [], []⟩]) Met.nil (Told.cons (toldOf (t_lease_Valid p0) (congrArg (fun b => Rs.ret (.bool b) []) h0)) Told.nil) (by kernel_rfl)

/-- orchestrator/ orchestratorref29.Holds -/
def s_ref29_Holds (p0 : Lease) (p1 : ByteArray) (p2 : Int) : Bool :=
  bif (s_ref29_Valid p0) then
    bif (sEq p1 (⟨#[]⟩ : ByteArray)) then
      false
    else
      bif (sEq p1 p0.holder) then
        (decide (p2 < (w64 (p0.renewed + p0.duration))))
      else
        false
  else
    false
def c_ref29_Holds (p0 : Lease) (p1 : ByteArray) (p2 : Int) : En := .call 24 [.agg (Lease.cells p0), .str p1, .int .i64 p2] []
def a_ref29_Holds (p0 : Lease) (p1 : ByteArray) (p2 : Int) : Rs := .ret (.bool (s_ref29_Holds p0 p1 p2)) []
theorem t_ref29_Holds (p0 : Lease) (p1 : ByteArray) (p2 : Int) : Tells G (c_ref29_Holds p0 p1 p2) (a_ref29_Holds p0 p1 p2) := by
  unfold a_ref29_Holds s_ref29_Holds
  cases h0 : (s_ref29_Valid p0) with
  | true =>
    cases h1 : (sEq p1 (⟨#[]⟩ : ByteArray)) with
    | true =>
      exact tells_V (fn := Ir.ref29_Holds) rfl VOK.nil (hs := [(6, (bE false, []))]) (as := [⟨.ret (.bool true) [], []⟩]) (Met.cons (dec (!(sEq p1 (⟨#[]⟩ : ByteArray))) false (by rw [h1]; rfl)) Met.nil) (Told.cons (toldOf (t_ref29_Valid p0) (congrArg (fun b => Rs.ret (.bool b) []) h0)) Told.nil) (by kernel_rfl)
    | false =>
      cases h2 : (sEq p1 p0.holder) with
      | true =>
        exact tells_V (fn := Ir.ref29_Holds) rfl VOK.nil (hs := [(6, (bE true, [])), (5, (bE true, []))]) (as := [⟨.ret (.bool true) [], []⟩]) (Met.cons (dec (!(sEq p1 (⟨#[]⟩ : ByteArray))) true (by rw [h1]; rfl)) (Met.cons (dec (sEq p1 p0.holder) true h2) Met.nil)) (Told.cons (toldOf (t_ref29_Valid p0) (congrArg (fun b => Rs.ret (.bool b) []) h0)) Told.nil) (by kernel_rfl)
      | false =>
        exact tells_V (fn := Ir.ref29_Holds) rfl VOK.nil (hs := [(6, (bE true, [])), (5, (bE false, []))]) (as := [⟨.ret (.bool true) [], []⟩]) (Met.cons (dec (!(sEq p1 (⟨#[]⟩ : ByteArray))) true (by rw [h1]; rfl)) (Met.cons (dec (sEq p1 p0.holder) false h2) Met.nil)) (Told.cons (toldOf (t_ref29_Valid p0) (congrArg (fun b => Rs.ret (.bool b) []) h0)) Told.nil) (by kernel_rfl)
  | false =>
    exact tells_V (fn := Ir.ref29_Holds) rfl VOK.nil (hs := []) (as := [⟨.ret (.bool false) [], []⟩]) Met.nil (Told.cons (toldOf (t_ref29_Valid p0) (congrArg (fun b => Rs.ret (.bool b) []) h0)) Told.nil) (by kernel_rfl)

/-- orchestrator/ lease.Release -/
def s_lease_Release (p0 : Lease) (p1 : ByteArray) : Lease :=
  bif (s_lease_Valid p0) then
    bif (sEq p1 (⟨#[]⟩ : ByteArray)) then
      p0
    else
      bif (sEq p0.holder p1) then
        (Lease.mk (⟨#[]⟩ : ByteArray) p0.renewed p0.duration p0.switches)
      else
        p0
  else
    p0
def c_lease_Release (p0 : Lease) (p1 : ByteArray) : En := .call 25 [.agg (Lease.cells p0), .str p1] []
def a_lease_Release (p0 : Lease) (p1 : ByteArray) : Rs := .ret (.agg (Lease.cells (s_lease_Release p0 p1))) []
theorem t_lease_Release (p0 : Lease) (p1 : ByteArray) : Tells G (c_lease_Release p0 p1) (a_lease_Release p0 p1) := by
  unfold a_lease_Release s_lease_Release
  cases h0 : (s_lease_Valid p0) with
  | true =>
    cases h1 : (sEq p1 (⟨#[]⟩ : ByteArray)) with
    | true =>
      exact tells_V (fn := Ir.lease_Release) rfl VOK.nil (hs := [(6, (bE false, []))]) (as := [⟨.ret (.bool true) [], []⟩]) (Met.cons (dec (!(sEq p1 (⟨#[]⟩ : ByteArray))) false (by rw [h1]; rfl)) Met.nil) (Told.cons (toldOf (t_lease_Valid p0) (congrArg (fun b => Rs.ret (.bool b) []) h0)) Told.nil) (by kernel_rfl)
    | false =>
      cases h2 : (sEq p0.holder p1) with
      | true =>
        exact tells_V (fn := Ir.lease_Release) rfl VOK.nil (hs := [(6, (bE true, [])), (5, (bE true, []))]) (as := [⟨.ret (.bool true) [], []⟩]) (Met.cons (dec (!(sEq p1 (⟨#[]⟩ : ByteArray))) true (by rw [h1]; rfl)) (Met.cons (dec (sEq p0.holder p1) true h2) Met.nil)) (Told.cons (toldOf (t_lease_Valid p0) (congrArg (fun b => Rs.ret (.bool b) []) h0)) Told.nil) (by kernel_rfl)
      | false =>
        exact tells_V (fn := Ir.lease_Release) rfl VOK.nil (hs := [(6, (bE true, [])), (5, (bE false, []))]) (as := [⟨.ret (.bool true) [], []⟩]) (Met.cons (dec (!(sEq p1 (⟨#[]⟩ : ByteArray))) true (by rw [h1]; rfl)) (Met.cons (dec (sEq p0.holder p1) false h2) Met.nil)) (Told.cons (toldOf (t_lease_Valid p0) (congrArg (fun b => Rs.ret (.bool b) []) h0)) Told.nil) (by kernel_rfl)
  | false =>
    exact tells_V (fn := Ir.lease_Release) rfl VOK.nil (hs := []) (as := [⟨.ret (.bool false) [], []⟩]) Met.nil (Told.cons (toldOf (t_lease_Valid p0) (congrArg (fun b => Rs.ret (.bool b) []) h0)) Told.nil) (by kernel_rfl)

/-- orchestrator/ orchestratorref29.Release -/
def s_ref29_Release (p0 : Lease) (p1 : ByteArray) : Lease :=
  bif (s_ref29_Valid p0) then
    bif (sEq p1 (⟨#[]⟩ : ByteArray)) then
      p0
    else
      bif (sEq p1 p0.holder) then
        (Lease.mk (⟨#[]⟩ : ByteArray) p0.renewed p0.duration p0.switches)
      else
        p0
  else
    p0
def c_ref29_Release (p0 : Lease) (p1 : ByteArray) : En := .call 26 [.agg (Lease.cells p0), .str p1] []
def a_ref29_Release (p0 : Lease) (p1 : ByteArray) : Rs := .ret (.agg (Lease.cells (s_ref29_Release p0 p1))) []
theorem t_ref29_Release (p0 : Lease) (p1 : ByteArray) : Tells G (c_ref29_Release p0 p1) (a_ref29_Release p0 p1) := by
  unfold a_ref29_Release s_ref29_Release
  cases h0 : (s_ref29_Valid p0) with
  | true =>
    cases h1 : (sEq p1 (⟨#[]⟩ : ByteArray)) with
    | true =>
      exact tells_V (fn := Ir.ref29_Release) rfl VOK.nil (hs := [(6, (bE false, []))]) (as := [⟨.ret (.bool true) [], []⟩]) (Met.cons (dec (!(sEq p1 (⟨#[]⟩ : ByteArray))) false (by rw [h1]; rfl)) Met.nil) (Told.cons (toldOf (t_ref29_Valid p0) (congrArg (fun b => Rs.ret (.bool b) []) h0)) Told.nil) (by kernel_rfl)
    | false =>
      cases h2 : (sEq p1 p0.holder) with
      | true =>
        exact tells_V (fn := Ir.ref29_Release) rfl VOK.nil (hs := [(6, (bE true, [])), (5, (bE true, []))]) (as := [⟨.ret (.bool true) [], []⟩]) (Met.cons (dec (!(sEq p1 (⟨#[]⟩ : ByteArray))) true (by rw [h1]; rfl)) (Met.cons (dec (sEq p1 p0.holder) true h2) Met.nil)) (Told.cons (toldOf (t_ref29_Valid p0) (congrArg (fun b => Rs.ret (.bool b) []) h0)) Told.nil) (by kernel_rfl)
      | false =>
        exact tells_V (fn := Ir.ref29_Release) rfl VOK.nil (hs := [(6, (bE true, [])), (5, (bE false, []))]) (as := [⟨.ret (.bool true) [], []⟩]) (Met.cons (dec (!(sEq p1 (⟨#[]⟩ : ByteArray))) true (by rw [h1]; rfl)) (Met.cons (dec (sEq p1 p0.holder) false h2) Met.nil)) (Told.cons (toldOf (t_ref29_Valid p0) (congrArg (fun b => Rs.ret (.bool b) []) h0)) Told.nil) (by kernel_rfl)
  | false =>
    exact tells_V (fn := Ir.ref29_Release) rfl VOK.nil (hs := []) (as := [⟨.ret (.bool false) [], []⟩]) Met.nil (Told.cons (toldOf (t_ref29_Valid p0) (congrArg (fun b => Rs.ret (.bool b) []) h0)) Told.nil) (by kernel_rfl)

/-- orchestrator/ orchestratorlaw29.LeaseTries -/
def s_law29_LeaseTries (p0 : Lease) (p1 : ByteArray) (p2 : Int) (p3 : Int) : Bool :=
  bif ((s_lease_Valid p0) == (s_ref29_Valid p0)) then
    bif ((sEq (s_lease_Try p0 p1 p2 p3).1.holder (s_ref29_Try p0 p1 p2 p3).1.holder) && (((s_lease_Try p0 p1 p2 p3).1.renewed == (s_ref29_Try p0 p1 p2 p3).1.renewed) && (((s_lease_Try p0 p1 p2 p3).1.duration == (s_ref29_Try p0 p1 p2 p3).1.duration) && (((s_lease_Try p0 p1 p2 p3).1.switches == (s_ref29_Try p0 p1 p2 p3).1.switches) && true)))) then
      bif ((s_lease_Try p0 p1 p2 p3).2 == (s_ref29_Try p0 p1 p2 p3).2) then
        bif ((s_lease_Holds p0 p1 p2) == (s_ref29_Holds p0 p1 p2)) then
          ((sEq (s_lease_Release p0 p1).holder (s_ref29_Release p0 p1).holder) && (((s_lease_Release p0 p1).renewed == (s_ref29_Release p0 p1).renewed) && (((s_lease_Release p0 p1).duration == (s_ref29_Release p0 p1).duration) && (((s_lease_Release p0 p1).switches == (s_ref29_Release p0 p1).switches) && true))))
        else
          false
      else
        false
    else
      false
  else
    false
def c_law29_LeaseTries (p0 : Lease) (p1 : ByteArray) (p2 : Int) (p3 : Int) : En := .call 7 [.agg (Lease.cells p0), .str p1, .int .i64 p2, .int .i64 p3] []
def a_law29_LeaseTries (p0 : Lease) (p1 : ByteArray) (p2 : Int) (p3 : Int) : Rs := .ret (.bool (s_law29_LeaseTries p0 p1 p2 p3)) []
theorem t_law29_LeaseTries (p0 : Lease) (p1 : ByteArray) (p2 : Int) (p3 : Int) : Tells G (c_law29_LeaseTries p0 p1 p2 p3) (a_law29_LeaseTries p0 p1 p2 p3) := by
  unfold a_law29_LeaseTries s_law29_LeaseTries
  cases h0 : ((s_lease_Valid p0) == (s_ref29_Valid p0)) with
  | true =>
    cases h1 : ((sEq (s_lease_Try p0 p1 p2 p3).1.holder (s_ref29_Try p0 p1 p2 p3).1.holder) && (((s_lease_Try p0 p1 p2 p3).1.renewed == (s_ref29_Try p0 p1 p2 p3).1.renewed) && (((s_lease_Try p0 p1 p2 p3).1.duration == (s_ref29_Try p0 p1 p2 p3).1.duration) && (((s_lease_Try p0 p1 p2 p3).1.switches == (s_ref29_Try p0 p1 p2 p3).1.switches) && true)))) with
    | true =>
      cases h2 : ((s_lease_Try p0 p1 p2 p3).2 == (s_ref29_Try p0 p1 p2 p3).2) with
      | true =>
        cases h3 : ((s_lease_Holds p0 p1 p2) == (s_ref29_Holds p0 p1 p2)) with
        | true =>
          exact tells_V (fn := Ir.law29_LeaseTries) rfl VOK.nil (hs := [(30, (bE true, [])), (4, (bE true, [])), (4, (bE true, [])), (10, (bE true, []))]) (as := [⟨a_lease_Try p0 p1 p2 p3, []⟩, ⟨a_ref29_Try p0 p1 p2 p3, []⟩, ⟨.ret (.bool true) [], []⟩, ⟨a_lease_Valid p0, []⟩, ⟨a_ref29_Valid p0, []⟩, ⟨a_lease_Holds p0 p1 p2, []⟩, ⟨a_ref29_Holds p0 p1 p2, []⟩, ⟨a_lease_Release p0 p1, []⟩, ⟨a_ref29_Release p0 p1, []⟩]) (Met.cons (dec ((s_lease_Valid p0) == (s_ref29_Valid p0)) true h0) (Met.cons (dec ((sEq (s_lease_Try p0 p1 p2 p3).1.holder (s_ref29_Try p0 p1 p2 p3).1.holder) && (((s_lease_Try p0 p1 p2 p3).1.renewed == (s_ref29_Try p0 p1 p2 p3).1.renewed) && (((s_lease_Try p0 p1 p2 p3).1.duration == (s_ref29_Try p0 p1 p2 p3).1.duration) && (((s_lease_Try p0 p1 p2 p3).1.switches == (s_ref29_Try p0 p1 p2 p3).1.switches) && true)))) true h1) (Met.cons (dec ((s_lease_Try p0 p1 p2 p3).2 == (s_ref29_Try p0 p1 p2 p3).2) true h2) (Met.cons (dec ((s_lease_Holds p0 p1 p2) == (s_ref29_Holds p0 p1 p2)) true h3) Met.nil)))) (Told.cons (t_lease_Try p0 p1 p2 p3) (Told.cons (t_ref29_Try p0 p1 p2 p3) (Told.cons t_law29_lives (Told.cons (t_lease_Valid p0) (Told.cons (t_ref29_Valid p0) (Told.cons (t_lease_Holds p0 p1 p2) (Told.cons (t_ref29_Holds p0 p1 p2) (Told.cons (t_lease_Release p0 p1) (Told.cons (t_ref29_Release p0 p1) Told.nil))))))))) (by kernel_rfl)
        | false =>
          exact tells_V (fn := Ir.law29_LeaseTries) rfl VOK.nil (hs := [(30, (bE true, [])), (4, (bE true, [])), (4, (bE true, [])), (10, (bE false, []))]) (as := [⟨a_lease_Try p0 p1 p2 p3, []⟩, ⟨a_ref29_Try p0 p1 p2 p3, []⟩, ⟨.ret (.bool true) [], []⟩, ⟨a_lease_Valid p0, []⟩, ⟨a_ref29_Valid p0, []⟩, ⟨a_lease_Holds p0 p1 p2, []⟩, ⟨a_ref29_Holds p0 p1 p2, []⟩]) (Met.cons (dec ((s_lease_Valid p0) == (s_ref29_Valid p0)) true h0) (Met.cons (dec ((sEq (s_lease_Try p0 p1 p2 p3).1.holder (s_ref29_Try p0 p1 p2 p3).1.holder) && (((s_lease_Try p0 p1 p2 p3).1.renewed == (s_ref29_Try p0 p1 p2 p3).1.renewed) && (((s_lease_Try p0 p1 p2 p3).1.duration == (s_ref29_Try p0 p1 p2 p3).1.duration) && (((s_lease_Try p0 p1 p2 p3).1.switches == (s_ref29_Try p0 p1 p2 p3).1.switches) && true)))) true h1) (Met.cons (dec ((s_lease_Try p0 p1 p2 p3).2 == (s_ref29_Try p0 p1 p2 p3).2) true h2) (Met.cons (dec ((s_lease_Holds p0 p1 p2) == (s_ref29_Holds p0 p1 p2)) false h3) Met.nil)))) (Told.cons (t_lease_Try p0 p1 p2 p3) (Told.cons (t_ref29_Try p0 p1 p2 p3) (Told.cons t_law29_lives (Told.cons (t_lease_Valid p0) (Told.cons (t_ref29_Valid p0) (Told.cons (t_lease_Holds p0 p1 p2) (Told.cons (t_ref29_Holds p0 p1 p2) Told.nil))))))) (by kernel_rfl)
      | false =>
        exact tells_V (fn := Ir.law29_LeaseTries) rfl VOK.nil (hs := [(30, (bE true, [])), (4, (bE true, [])), (4, (bE false, []))]) (as := [⟨a_lease_Try p0 p1 p2 p3, []⟩, ⟨a_ref29_Try p0 p1 p2 p3, []⟩, ⟨.ret (.bool true) [], []⟩, ⟨a_lease_Valid p0, []⟩, ⟨a_ref29_Valid p0, []⟩]) (Met.cons (dec ((s_lease_Valid p0) == (s_ref29_Valid p0)) true h0) (Met.cons (dec ((sEq (s_lease_Try p0 p1 p2 p3).1.holder (s_ref29_Try p0 p1 p2 p3).1.holder) && (((s_lease_Try p0 p1 p2 p3).1.renewed == (s_ref29_Try p0 p1 p2 p3).1.renewed) && (((s_lease_Try p0 p1 p2 p3).1.duration == (s_ref29_Try p0 p1 p2 p3).1.duration) && (((s_lease_Try p0 p1 p2 p3).1.switches == (s_ref29_Try p0 p1 p2 p3).1.switches) && true)))) true h1) (Met.cons (dec ((s_lease_Try p0 p1 p2 p3).2 == (s_ref29_Try p0 p1 p2 p3).2) false h2) Met.nil))) (Told.cons (t_lease_Try p0 p1 p2 p3) (Told.cons (t_ref29_Try p0 p1 p2 p3) (Told.cons t_law29_lives (Told.cons (t_lease_Valid p0) (Told.cons (t_ref29_Valid p0) Told.nil))))) (by kernel_rfl)
    | false =>
      exact tells_V (fn := Ir.law29_LeaseTries) rfl VOK.nil (hs := [(30, (bE true, [])), (4, (bE false, []))]) (as := [⟨a_lease_Try p0 p1 p2 p3, []⟩, ⟨a_ref29_Try p0 p1 p2 p3, []⟩, ⟨.ret (.bool true) [], []⟩, ⟨a_lease_Valid p0, []⟩, ⟨a_ref29_Valid p0, []⟩]) (Met.cons (dec ((s_lease_Valid p0) == (s_ref29_Valid p0)) true h0) (Met.cons (dec ((sEq (s_lease_Try p0 p1 p2 p3).1.holder (s_ref29_Try p0 p1 p2 p3).1.holder) && (((s_lease_Try p0 p1 p2 p3).1.renewed == (s_ref29_Try p0 p1 p2 p3).1.renewed) && (((s_lease_Try p0 p1 p2 p3).1.duration == (s_ref29_Try p0 p1 p2 p3).1.duration) && (((s_lease_Try p0 p1 p2 p3).1.switches == (s_ref29_Try p0 p1 p2 p3).1.switches) && true)))) false h1) Met.nil)) (Told.cons (t_lease_Try p0 p1 p2 p3) (Told.cons (t_ref29_Try p0 p1 p2 p3) (Told.cons t_law29_lives (Told.cons (t_lease_Valid p0) (Told.cons (t_ref29_Valid p0) Told.nil))))) (by kernel_rfl)
  | false =>
    exact tells_V (fn := Ir.law29_LeaseTries) rfl VOK.nil (hs := [(30, (bE false, []))]) (as := [⟨a_lease_Try p0 p1 p2 p3, []⟩, ⟨a_ref29_Try p0 p1 p2 p3, []⟩, ⟨.ret (.bool true) [], []⟩, ⟨a_lease_Valid p0, []⟩, ⟨a_ref29_Valid p0, []⟩]) (Met.cons (dec ((s_lease_Valid p0) == (s_ref29_Valid p0)) false h0) Met.nil) (Told.cons (t_lease_Try p0 p1 p2 p3) (Told.cons (t_ref29_Try p0 p1 p2 p3) (Told.cons t_law29_lives (Told.cons (t_lease_Valid p0) (Told.cons (t_ref29_Valid p0) Told.nil))))) (by kernel_rfl)

def Lease_ty : Ty := .st [.str, .int .i64, .int .i64, .int .i64]
def Lease_ok (x : Lease) : Prop := okS x.holder ∧ okI64 x.renewed ∧ okI64 x.duration ∧ okI64 x.switches
theorem Lease_open {c : List PV} (h : Of Γ Lease_ty c) : ∃ x : Lease, c = x.cells ∧ Lease_ok x := by
  have g0 := h.st1
  obtain ⟨a0, b0, rfl, h0, g1⟩ := g0.uncons
  obtain ⟨x0, rfl, k0⟩ := h0.str1
  obtain ⟨a1, b1, rfl, h1, g2⟩ := g1.uncons
  obtain ⟨x1, rfl, k1⟩ := h1.i64
  obtain ⟨a2, b2, rfl, h2, g3⟩ := g2.uncons
  obtain ⟨x2, rfl, k2⟩ := h2.i64
  obtain ⟨a3, b3, rfl, h3, g4⟩ := g3.uncons
  obtain ⟨x3, rfl, k3⟩ := h3.i64
  have e := g4.empty
  subst e
  exact ⟨⟨x0, x1, x2, x3⟩, rfl, ⟨k0, k1, k2, k3⟩⟩

def tysLeaseTries : List Ty := [Lease_ty, .str, .int .i64, .int .i64]
theorem pureLeaseTries (hp : ∀ (p0 : Lease) (p1 : ByteArray) (p2 : Int) (p3 : Int), Lease_ok p0 → okS p1 → okI64 p2 → okI64 p3 → s_law29_LeaseTries p0 p1 p2 p3 = true) : ∀ qs, Args Γ tysLeaseTries qs → ∃ n, runs G n (.call 7 qs []) = some (.ret (.bool true) []) := by
  intro qs h
  cases qs with
  | nil => cases h
  | cons q0 qs =>
  obtain ⟨h0, h⟩ := h
  cases qs with
  | nil => cases h
  | cons q1 qs =>
  obtain ⟨h1, h⟩ := h
  cases qs with
  | nil => cases h
  | cons q2 qs =>
  obtain ⟨h2, h⟩ := h
  cases qs with
  | nil => cases h
  | cons q3 qs =>
  obtain ⟨h3, h⟩ := h
  cases qs with
  | cons _ _ => cases h
  | nil =>
  obtain ⟨c0, rfl, g0⟩ := h0.agg rfl
  obtain ⟨p0, rfl, k0⟩ := (Lease_open g0)
  have g1 := h1.one rfl
  obtain ⟨p1, e1, k1⟩ := g1.str1
  injection e1 with e1
  subst e1
  have g2 := h2.one rfl
  obtain ⟨p2, e2, k2⟩ := g2.i64
  injection e2 with e2
  subst e2
  have g3 := h3.one rfl
  obtain ⟨p3, e3, k3⟩ := g3.i64
  injection e3 with e3
  subst e3
  have e := hp p0 p1 p2 p3 k0 k1 k2 k3
  have t := t_law29_LeaseTries p0 p1 p2 p3
  unfold a_law29_LeaseTries at t
  rw [e] at t
  exact t

end Go.Proofs.Ytgdipcoknfhobaa
