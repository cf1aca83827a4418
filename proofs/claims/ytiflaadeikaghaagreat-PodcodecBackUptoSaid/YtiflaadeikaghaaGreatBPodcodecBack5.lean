/- Texts of the claim, merged by a program; what the statement does not reach is left out. -/
import Derived.Test.YtiflaadeikaghaaGreatBPodcodecBack4

section
/- What the program's encoders compute (printed by a program). -/
namespace Go.Proofs.YtiflaadeikaghaaGreat
open Go.Pv
def Q20 (p0 : BA) : Val :=
 (Val.mk 3 0 p0 [] [])
def Q1r9 (p0 : BA) : En := .call 109 [.str p0] []
def Q1qi (p0 : BA) : Rs := .ret (.agg (Val.cells (Q20 p0))) []
theorem Q9x (p0 : BA) : Q7 G (Q1r9 p0) (Q1qi p0) := by
 unfold Q1qi Q20
 exact Q8 (fn := Ir.K41) rfl VOK.nil [] [] (by kernel_rfl)
def Qe (p0 : BA) (p1 : Val) : Fld :=
 (Fld.mk p0 p1)
def Q1ue (p0 : BA) (p1 : Val) : En := .call 62 [.str p0, .agg (Val.cells p1)] []
def Q1qe (p0 : BA) (p1 : Val) : Rs := .ret (.agg (Fld.cells (Qe p0 p1))) []
theorem Q2d (p0 : BA) (p1 : Val) : Q7 G (Q1ue p0 p1) (Q1qe p0 p1) := by
 unfold Q1qe Qe
 exact Q8 (fn := Ir.K1r) rfl VOK.nil [] [] (by kernel_rfl)
def Qbd (p0 : Label) : Val := Label.enc p0
theorem Q1xl (p0 : Label) : Qbd p0 = ((Q6d ([(Qe Qs (Q20 p0.key)), (Qe Qn (Q20 p0.value))]))) := by
  exact Eq.symm (Q3q (by exact Nat.le_of_ble_eq_true rfl) (by kernel_rfl))
def Q1xr (p0 : Label) : En := .call 78 [.agg (Label.cells p0)] []
def Q1pv (p0 : Label) : Rs := .ret (.agg (Val.cells (Qbd p0))) []
def Q1le (p0 : Label) : Prop := Label.sm p0
theorem Q1go (p0 : Label) (H : Q1le p0) : (Q8y ([(Qe Qs (Q20 p0.key)), (Qe Qn (Q20 p0.value))])) ∧ True := by
  repeat' with_reducible apply And.intro
  all_goals first | exact True.intro | exact H | exact H.1 | exact H.2.1 | exact H.2.2.1 | exact H.2.2.2.1 | exact H.2.2.2.2.1 | exact H.2.2.2.2.2.1 | exact H.2.2.2.2.2.2.1 | exact H.2.2.2.2.2.2.2.1 | exact H.2.2.2.2.2.2.2.2.1 | exact H.2.2.2.2.2.2.2.2.2.1 | exact H.2.2.2.2.2.2.2.2.2.2.1 | exact Q9y (by exact Nat.le_of_ble_eq_true rfl) (Label.Q1y H).all.2.2.2
theorem Q1ud (p0 : Label) (H : Q1le p0) : Q7 G (Q1xr p0) (Q1pv p0) := by
 unfold Q1pv
 rw [Q1xl]
 exact Q8 (fn := Ir.K1g) rfl VOK.nil [] [aN (Q9x p0.key), aN (Q2d Qs (Q20 p0.key)), aN (Q9x p0.value), aN (Q2d Qn (Q20 p0.value)), aN (Q49 (e' := .call 61 [.sl [(Fld.cells (Qe Qs (Q20 p0.key))), (Fld.cells (Qe Qn (Q20 p0.value)))]] []) (Q99 ([(Qe Qs (Q20 p0.key)), (Qe Qn (Q20 p0.value))]) (Q1go p0 H).1) (by simp only [Q95, Fld.Q21, Fld.Q2m]))] (by kernel_rfl)
def Q4i (p0 : List Label) : List Label → Nat → (List Val) → List Val
 | [], _i0, v0_1 =>
  v0_1
 | x0 :: r0, i0, v0_1 =>
  Q4i p0 r0 (i0 + 1) (v0_1 ++ [(Qbd x0)])
theorem Qu2 (p0 : List Label) : ∀ (l : List Label) (i : Nat) (a : List Val), Q4i p0 l i a = a ++ l.map (fun x0 => (Qbd x0))
  | [], _, _ => by simp [Q4i]
  | x :: r, i, a => by rw [Q4i, Qu2 p0 r]; simp
def Q125 (p0 : List Label) (i0 : Nat) (v0_1 : List Val) : List PV :=
  [.un, .fn 78 [] [], .un, .un, .bx 0 0, .ms 1 5 0 (List.length v0_1), .un, .un, .sl (Label.rows p0), .int .i64 ((List.length p0) : Int), .int .i64 (i0 : Int)] ++ nuns 12
def Qow (_p0 : List Label) (_i0 : Nat) (v0_1 : List Val) : List Ob :=
  [⟨5, 0, true, [.int .i64 0, .int .i64 0, .str eB, .ms 2 5 0 0, .ms 3 6 0 0]⟩, ⟨5, 0, true, (Val.rows v0_1).flatten⟩, ⟨5, 0, true, []⟩, ⟨6, 0, true, []⟩]
def Qge (p0 : List Label) (i0 : Nat) (v0_1 : List Val) : En := .loop 0 Ir.Qjx Ir.Q1jj (Q125 p0 i0 v0_1) (Qow p0 i0 v0_1)
def Qtw (_p0 : List Label) (q0 : List Val) (z : Nat → PV) (_zo : Nat → List PV) : St :=
  ⟨[z 0, z 1, z 2, z 3, .bx 0 0, .ms 1 5 0 (List.length q0)] ++ zr z 6 17, [(0, ⟨5, 0, true, [.int .i64 0, .int .i64 0, .str eB, .ms 2 5 0 0, .ms 3 6 0 0]⟩), (1, ⟨5, 0, true, (Val.rows q0).flatten⟩), (2, ⟨5, 0, true, []⟩), (3, ⟨6, 0, true, []⟩)], 68⟩
theorem Q16e (p0 : List Label) (i0 : Nat) (v0_1 : List Val) : VOK (Go.Pv.look (number 0 (Qow p0 i0 v0_1))) [(1, Val.rows v0_1)] := (VOK.cons (show Seen _ _ from Q3g (ob := ⟨5, 0, true, (Val.rows v0_1).flatten⟩) (Val.Q9 v0_1 5 rfl)) VOK.nil)
def Qgn (p0 : List Label) (e : En) (q : List Val) : Prop := ∃ z zo, Q7 G e (.st (.exit 0) (Qtw p0 q z zo))
theorem Qvi (p0 : List Label) {e e' : En} (h : ∀ r, Q7 G e r → Q7 G e' r) : ∀ q, Qgn p0 e q → Qgn p0 e' q
  | _, ⟨z, zo, hz⟩ => ⟨z, zo, h _ hz⟩
def Qgx (p0 : List Label) : Prop := (List.length p0 ≤ 137438953472) ∧ (∀ x0 ∈ p0, Q1le x0) ∧ True
def Qqo (p0 : List Label) (i0 : Nat) (_v0_1 : List Val) : List PV :=
  [.un, .fn 78 [] []] ++ nuns 6 ++ [.sl (Label.rows p0), .int .i64 ((List.length p0) : Int), .int .i64 (i0 : Int), .bool false]
def Qm6 (_p0 : List Label) (_i0 : Nat) (_v0_1 : List Val) : List (Nat × List PV) :=
  []
theorem Q1bx (p0 : List Label) (_H : Qgx p0) (i0 : Nat) (v0_1 : List Val) (_ho0_0 : List.length v0_1 ≤ i0) (hc0 : (decide ((i0 : Int) < ((List.length p0) : Int))) = false) : Qgn p0 (Qge p0 i0 v0_1) v0_1 := by
 exact ⟨(envF (Qqo p0 i0 v0_1)), (zoF (Qm6 p0 i0 v0_1)), Qg (Q16e p0 i0 v0_1) (x := ((.exit 0), Qtw p0 v0_1 (envF (Qqo p0 i0 v0_1)) (zoF (Qm6 p0 i0 v0_1)))) [hB 0 hc0] [] (by kernel_rfl)⟩
theorem Q194 (p0 : List Label) (H : Qgx p0) (x0 : Label) (i0 : Nat) (v0_1 : List Val) (hx0 : p0[i0]? = some x0) (hi0 : i0 < List.length p0) (ho0_0 : List.length v0_1 ≤ i0) (hc0 : (decide ((i0 : Int) < ((List.length p0) : Int))) = true) {r : Rs} (hr : Q7 G (Qge p0 (i0 + 1) (v0_1 ++ [(Qbd x0)])) r) : Q7 G (Qge p0 i0 v0_1) r := by
 have hB0 := H.1
 exact Qk (Q16e p0 i0 v0_1) (y := (Q125 p0 (i0 + 1) (v0_1 ++ [(Qbd x0)]), Qow p0 (i0 + 1) (v0_1 ++ [(Qbd x0)]))) [hB 0 hc0, hP 0 (Q1j 2 (Label.rows p0) i0 _ (Label.Qc hx0) rfl), hV 8 [(644, Val.rows (v0_1 ++ [(Qbd x0)]))] (Q3z 1 580 644 5 80 0 0 true (Val.rows v0_1) (Val.rows (v0_1 ++ [(Qbd x0)])) (Val.cells (Qbd x0)) (List.length v0_1) (List.length (v0_1 ++ [(Qbd x0)])) rfl (Val.Q5 v0_1).symm (Val.Q5 (v0_1 ++ [(Qbd x0)])).symm (Val.Q14 v0_1 (Qbd x0)) (Val.Qm v0_1) rfl (by omega)), hS 0 true (Val.Q9 (v0_1 ++ [(Qbd x0)]) 5 rfl), hP 1 (Q22 i0 (by omega))] [aN (Q1ud x0 (H.2.1 x0 (Q2a hx0)))] (by kernel_rfl) hr
theorem Qxl (p0 : List Label) (H : Qgx p0) : ∀ (r0 : List Label) (i0 : Nat) (v0_1 : List Val), List.drop i0 p0 = r0 → List.length v0_1 ≤ i0 → Qgn p0 (Qge p0 i0 v0_1) (Q4i p0 r0 i0 v0_1)
 | [], i0, v0_1, hd, ho0_0 => by
  have hc0 : (decide ((i0 : Int) < ((List.length p0) : Int))) = false := by have := Q19 hd; simp; omega
  rw [Q4i]
  exact Q1bx p0 H i0 v0_1 ho0_0 hc0
 | x0 :: r0, i0, v0_1, hd, ho0_0 => by
  obtain ⟨hx0, hi0, hd'⟩ := Q11 hd
  have hc0 : (decide ((i0 : Int) < ((List.length p0) : Int))) = true := by simp; omega
  rw [Q4i]
  exact Qvi p0 (fun r hr => Q194 p0 H x0 i0 v0_1 hx0 hi0 ho0_0 hc0 hr) _ (Qxl p0 H r0 (i0 + 1) (v0_1 ++ [(Qbd x0)]) hd' (by first | omega | (simp; omega)))
def Q6y (p0 : List Label) : Val := vL (p0.map Label.enc)
theorem Q1dd (p0 : List Label) : Q6y p0 = ((Qcu (Q4i p0 p0 0 []))) := by
  rw [Qu2]
  rfl
def Q1gj (p0 : List Label) : En := .call 77 [.sl (Label.rows p0), .fn 78 [] []] []
def Q11k (p0 : List Label) : Rs := .ret (.agg (Val.cells (Q6y p0))) []
def Qiz (p0 : List Label) : Prop := LSm Label.sm p0
theorem Qeq (p0 : List Label) (H : Qiz p0) : (Qgx p0) ∧ (Qem (Q4i p0 p0 0 [])) ∧ True := by
  refine ⟨⟨Nat.le_trans H.1 (Nat.le_of_ble_eq_true rfl), H.2, trivial⟩, ⟨?_, trivial⟩, trivial⟩
  rw [Qu2]
  exact Q32 (fun _ h => Label.Q1y h) H
theorem Q1d1 (p0 : List Label) (H : Qiz p0) : Q7 G (Q1gj p0) (Q11k p0) := by
 unfold Q11k
 rw [Q1dd]
 have hl0 := Qxl p0 ((Qeq p0 H).1) p0 0 [] (by simp) (by simp)
 obtain ⟨z0, zo0, hl0⟩ := hl0
 exact Q8 (fn := Ir.K23) rfl VOK.nil [hP 3 (Qh (Label.rows p0) (List.length p0) (Label.Q5 p0)), hS 0 true (Val.Q9 (Q4i p0 p0 0 []) 5 rfl), hQ (Val.Q5 (Q4i p0 p0 0 [])).symm] [aV [(1, Val.rows (Q4i p0 p0 0 []))] hl0, aN (Qfh (Q4i p0 p0 0 []) (Qeq p0 H).2.1)] (by kernel_rfl)
def Qz (p0 : Int) : Val :=
 (Val.mk 2 p0 eB [] [])
def Q1rt (p0 : Int) : En := .call 65 [.int .i64 p0] []
def Q1ol (p0 : Int) : Rs := .ret (.agg (Val.cells (Qz p0))) []
theorem Q5m (p0 : Int) : Q7 G (Q1rt p0) (Q1ol p0) := by
 unfold Q1ol Qz
 exact Q8 (fn := Ir.K3x) rfl VOK.nil [] [] (by kernel_rfl)
def Q9i (p0 : Resources) : Val := Resources.enc p0
theorem Q1u4 (p0 : Resources) : Q9i p0 = ((Q6d ([(Qe Q4r (Qz p0.cPU)), (Qe Q44 (Qz p0.disk)), (Qe Q31 (Qz p0.memory))]))) := by
  exact Eq.symm (Q3q (by exact Nat.le_of_ble_eq_true rfl) (by kernel_rfl))
def Q1s9 (p0 : Resources) : En := .call 63 [.agg (Resources.cells p0)] []
def Q1p5 (p0 : Resources) : Rs := .ret (.agg (Val.cells (Q9i p0))) []
def Q1de (p0 : Resources) : Prop := Resources.sm p0
theorem Q1hq (p0 : Resources) (H : Q1de p0) : (Q8y ([(Qe Q4r (Qz p0.cPU)), (Qe Q44 (Qz p0.disk)), (Qe Q31 (Qz p0.memory))])) ∧ True := by
  repeat' with_reducible apply And.intro
  all_goals first | exact True.intro | exact H | exact H.1 | exact H.2.1 | exact H.2.2.1 | exact H.2.2.2.1 | exact H.2.2.2.2.1 | exact H.2.2.2.2.2.1 | exact H.2.2.2.2.2.2.1 | exact H.2.2.2.2.2.2.2.1 | exact H.2.2.2.2.2.2.2.2.1 | exact H.2.2.2.2.2.2.2.2.2.1 | exact H.2.2.2.2.2.2.2.2.2.2.1 | exact Q9y (by exact Nat.le_of_ble_eq_true rfl) (Resources.Q1y H).all.2.2.2
theorem Q1lw (p0 : Resources) (H : Q1de p0) : Q7 G (Q1s9 p0) (Q1p5 p0) := by
 unfold Q1p5
 rw [Q1u4]
 exact Q8 (fn := Ir.K1l) rfl VOK.nil [] [aN (Q5m p0.cPU), aN (Q2d Q4r (Qz p0.cPU)), aN (Q5m p0.disk), aN (Q2d Q44 (Qz p0.disk)), aN (Q5m p0.memory), aN (Q2d Q31 (Qz p0.memory)), aN (Q49 (e' := .call 61 [.sl [(Fld.cells (Qe Q4r (Qz p0.cPU))), (Fld.cells (Qe Q44 (Qz p0.disk))), (Fld.cells (Qe Q31 (Qz p0.memory)))]] []) (Q99 ([(Qe Q4r (Qz p0.cPU)), (Qe Q44 (Qz p0.disk)), (Qe Q31 (Qz p0.memory))]) (Q1hq p0 H).1) (by simp only [Q95, Fld.Q21, Fld.Q2m]))] (by kernel_rfl)
def Qbc (p0 : Probe) : Val := Probe.enc p0
theorem Q1vx (p0 : Probe) : Qbc p0 = ((Q6d ([(Qe Q26 (Qz p0.delay)), (Qe Q1q (Qz p0.failure)), (Qe Q1u (Qz p0.period)), (Qe Q1k (Qz p0.success))]))) := by
  exact Eq.symm (Q3q (by exact Nat.le_of_ble_eq_true rfl) (by kernel_rfl))
def Q1wy (p0 : Probe) : En := .call 147 [.agg (Probe.cells p0)] []
def Q1pe (p0 : Probe) : Rs := .ret (.agg (Val.cells (Qbc p0))) []
def Q1lg (p0 : Probe) : Prop := Probe.sm p0
theorem Q1gq (p0 : Probe) (H : Q1lg p0) : (Q8y ([(Qe Q26 (Qz p0.delay)), (Qe Q1q (Qz p0.failure)), (Qe Q1u (Qz p0.period)), (Qe Q1k (Qz p0.success))])) ∧ True := by
  repeat' with_reducible apply And.intro
  all_goals first | exact True.intro | exact H | exact H.1 | exact H.2.1 | exact H.2.2.1 | exact H.2.2.2.1 | exact H.2.2.2.2.1 | exact H.2.2.2.2.2.1 | exact H.2.2.2.2.2.2.1 | exact H.2.2.2.2.2.2.2.1 | exact H.2.2.2.2.2.2.2.2.1 | exact H.2.2.2.2.2.2.2.2.2.1 | exact H.2.2.2.2.2.2.2.2.2.2.1 | exact Q9y (by exact Nat.le_of_ble_eq_true rfl) (Probe.Q1y H).all.2.2.2
theorem Q1ra (p0 : Probe) (H : Q1lg p0) : Q7 G (Q1wy p0) (Q1pe p0) := by
 unfold Q1pe
 rw [Q1vx]
 exact Q8 (fn := Ir.K1j) rfl VOK.nil [] [aN (Q5m p0.delay), aN (Q2d Q26 (Qz p0.delay)), aN (Q5m p0.failure), aN (Q2d Q1q (Qz p0.failure)), aN (Q5m p0.period), aN (Q2d Q1u (Qz p0.period)), aN (Q5m p0.success), aN (Q2d Q1k (Qz p0.success)), aN (Q49 (e' := .call 61 [.sl [(Fld.cells (Qe Q26 (Qz p0.delay))), (Fld.cells (Qe Q1q (Qz p0.failure))), (Fld.cells (Qe Q1u (Qz p0.period))), (Fld.cells (Qe Q1k (Qz p0.success)))]] []) (Q99 ([(Qe Q26 (Qz p0.delay)), (Qe Q1q (Qz p0.failure)), (Qe Q1u (Qz p0.period)), (Qe Q1k (Qz p0.success))]) (Q1gq p0 H).1) (by simp only [Q95, Fld.Q21, Fld.Q2m]))] (by kernel_rfl)
def Q48 (p0 : List Probe) : List Probe → Nat → (List Val) → List Val
 | [], _i0, v0_1 =>
  v0_1
 | x0 :: r0, i0, v0_1 =>
  Q48 p0 r0 (i0 + 1) (v0_1 ++ [(Qbc x0)])
theorem Qu3 (p0 : List Probe) : ∀ (l : List Probe) (i : Nat) (a : List Val), Q48 p0 l i a = a ++ l.map (fun x0 => (Qbc x0))
  | [], _, _ => by simp [Q48]
  | x :: r, i, a => by rw [Q48, Qu3 p0 r]; simp
def Qx7 (p0 : List Probe) (i0 : Nat) (v0_1 : List Val) : List PV :=
  [.un, .fn 147 [] [], .un, .un, .bx 0 0, .ms 1 5 0 (List.length v0_1), .un, .un, .sl (Probe.rows p0), .int .i64 ((List.length p0) : Int), .int .i64 (i0 : Int)] ++ nuns 12
def Qle (_p0 : List Probe) (_i0 : Nat) (v0_1 : List Val) : List Ob :=
  [⟨5, 0, true, [.int .i64 0, .int .i64 0, .str eB, .ms 2 5 0 0, .ms 3 6 0 0]⟩, ⟨5, 0, true, (Val.rows v0_1).flatten⟩, ⟨5, 0, true, []⟩, ⟨6, 0, true, []⟩]
def Qg4 (p0 : List Probe) (i0 : Nat) (v0_1 : List Val) : En := .loop 0 Ir.Qmb Ir.Q1in (Qx7 p0 i0 v0_1) (Qle p0 i0 v0_1)
def Qt8 (_p0 : List Probe) (q0 : List Val) (z : Nat → PV) (_zo : Nat → List PV) : St :=
  ⟨[z 0, z 1, z 2, z 3, .bx 0 0, .ms 1 5 0 (List.length q0)] ++ zr z 6 17, [(0, ⟨5, 0, true, [.int .i64 0, .int .i64 0, .str eB, .ms 2 5 0 0, .ms 3 6 0 0]⟩), (1, ⟨5, 0, true, (Val.rows q0).flatten⟩), (2, ⟨5, 0, true, []⟩), (3, ⟨6, 0, true, []⟩)], 68⟩
theorem Q17d (p0 : List Probe) (i0 : Nat) (v0_1 : List Val) : VOK (Go.Pv.look (number 0 (Qle p0 i0 v0_1))) [(1, Val.rows v0_1)] := (VOK.cons (show Seen _ _ from Q3g (ob := ⟨5, 0, true, (Val.rows v0_1).flatten⟩) (Val.Q9 v0_1 5 rfl)) VOK.nil)
def Qfl (p0 : List Probe) (e : En) (q : List Val) : Prop := ∃ z zo, Q7 G e (.st (.exit 0) (Qt8 p0 q z zo))
theorem Qvb (p0 : List Probe) {e e' : En} (h : ∀ r, Q7 G e r → Q7 G e' r) : ∀ q, Qfl p0 e q → Qfl p0 e' q
  | _, ⟨z, zo, hz⟩ => ⟨z, zo, h _ hz⟩
def Qh6 (p0 : List Probe) : Prop := (List.length p0 ≤ 137438953472) ∧ (∀ x0 ∈ p0, Q1lg x0) ∧ True
def Qr6 (p0 : List Probe) (i0 : Nat) (_v0_1 : List Val) : List PV :=
  [.un, .fn 147 [] []] ++ nuns 6 ++ [.sl (Probe.rows p0), .int .i64 ((List.length p0) : Int), .int .i64 (i0 : Int), .bool false]
def Qjv (_p0 : List Probe) (_i0 : Nat) (_v0_1 : List Val) : List (Nat × List PV) :=
  []
theorem Q1cy (p0 : List Probe) (_H : Qh6 p0) (i0 : Nat) (v0_1 : List Val) (_ho0_0 : List.length v0_1 ≤ i0) (hc0 : (decide ((i0 : Int) < ((List.length p0) : Int))) = false) : Qfl p0 (Qg4 p0 i0 v0_1) v0_1 := by
 exact ⟨(envF (Qr6 p0 i0 v0_1)), (zoF (Qjv p0 i0 v0_1)), Qg (Q17d p0 i0 v0_1) (x := ((.exit 0), Qt8 p0 v0_1 (envF (Qr6 p0 i0 v0_1)) (zoF (Qjv p0 i0 v0_1)))) [hB 0 hc0] [] (by kernel_rfl)⟩
theorem Q198 (p0 : List Probe) (H : Qh6 p0) (x0 : Probe) (i0 : Nat) (v0_1 : List Val) (hx0 : p0[i0]? = some x0) (hi0 : i0 < List.length p0) (ho0_0 : List.length v0_1 ≤ i0) (hc0 : (decide ((i0 : Int) < ((List.length p0) : Int))) = true) {r : Rs} (hr : Q7 G (Qg4 p0 (i0 + 1) (v0_1 ++ [(Qbc x0)])) r) : Q7 G (Qg4 p0 i0 v0_1) r := by
 have hB0 := H.1
 exact Qk (Q17d p0 i0 v0_1) (y := (Qx7 p0 (i0 + 1) (v0_1 ++ [(Qbc x0)]), Qle p0 (i0 + 1) (v0_1 ++ [(Qbc x0)]))) [hB 0 hc0, hP 0 (Q1j 4 (Probe.rows p0) i0 _ (Probe.Qc hx0) rfl), hV 8 [(644, Val.rows (v0_1 ++ [(Qbc x0)]))] (Q3z 1 580 644 5 80 0 0 true (Val.rows v0_1) (Val.rows (v0_1 ++ [(Qbc x0)])) (Val.cells (Qbc x0)) (List.length v0_1) (List.length (v0_1 ++ [(Qbc x0)])) rfl (Val.Q5 v0_1).symm (Val.Q5 (v0_1 ++ [(Qbc x0)])).symm (Val.Q14 v0_1 (Qbc x0)) (Val.Qm v0_1) rfl (by omega)), hS 0 true (Val.Q9 (v0_1 ++ [(Qbc x0)]) 5 rfl), hP 1 (Q22 i0 (by omega))] [aN (Q1ra x0 (H.2.1 x0 (Q2a hx0)))] (by kernel_rfl) hr
theorem Qxe (p0 : List Probe) (H : Qh6 p0) : ∀ (r0 : List Probe) (i0 : Nat) (v0_1 : List Val), List.drop i0 p0 = r0 → List.length v0_1 ≤ i0 → Qfl p0 (Qg4 p0 i0 v0_1) (Q48 p0 r0 i0 v0_1)
 | [], i0, v0_1, hd, ho0_0 => by
  have hc0 : (decide ((i0 : Int) < ((List.length p0) : Int))) = false := by have := Q19 hd; simp; omega
  rw [Q48]
  exact Q1cy p0 H i0 v0_1 ho0_0 hc0
 | x0 :: r0, i0, v0_1, hd, ho0_0 => by
  obtain ⟨hx0, hi0, hd'⟩ := Q11 hd
  have hc0 : (decide ((i0 : Int) < ((List.length p0) : Int))) = true := by simp; omega
  rw [Q48]
  exact Qvb p0 (fun r hr => Q198 p0 H x0 i0 v0_1 hx0 hi0 ho0_0 hc0 hr) _ (Qxe p0 H r0 (i0 + 1) (v0_1 ++ [(Qbc x0)]) hd' (by first | omega | (simp; omega)))
def Q2u (p0 : List Probe) : Val := vL (p0.map Probe.enc)
theorem Q1c6 (p0 : List Probe) : Q2u p0 = ((Qcu (Q48 p0 p0 0 []))) := by
  rw [Qu3]
  rfl
def Q1by (p0 : List Probe) : En := .call 146 [.sl (Probe.rows p0), .fn 147 [] []] []
def Qrs (p0 : List Probe) : Rs := .ret (.agg (Val.cells (Q2u p0))) []
def Q8b (p0 : List Probe) : Prop := LSm Probe.sm p0
theorem Qda (p0 : List Probe) (H : Q8b p0) : (Qh6 p0) ∧ (Qem (Q48 p0 p0 0 [])) ∧ True := by
  refine ⟨⟨Nat.le_trans H.1 (Nat.le_of_ble_eq_true rfl), H.2, trivial⟩, ⟨?_, trivial⟩, trivial⟩
  rw [Qu3]
  exact Q32 (fun _ h => Probe.Q1y h) H
theorem Qdt (p0 : List Probe) (H : Q8b p0) : Q7 G (Q1by p0) (Qrs p0) := by
 unfold Qrs
 rw [Q1c6]
 have hl0 := Qxe p0 ((Qda p0 H).1) p0 0 [] (by simp) (by simp)
 obtain ⟨z0, zo0, hl0⟩ := hl0
 exact Q8 (fn := Ir.K20) rfl VOK.nil [hP 3 (Qh (Probe.rows p0) (List.length p0) (Probe.Q5 p0)), hS 0 true (Val.Q9 (Q48 p0 p0 0 []) 5 rfl), hQ (Val.Q5 (Q48 p0 p0 0 [])).symm] [aV [(1, Val.rows (Q48 p0 p0 0 []))] hl0, aN (Qfh (Q48 p0 p0 0 []) (Qda p0 H).2.1)] (by kernel_rfl)
def Qax (p0 : Container) : Val := Container.enc p0
theorem Q1w8 (p0 : Container) : Qax p0 = ((Q6d ([(Qe Q1z (Q20 p0.image)), (Qe Q2k (Q9i p0.limit)), (Qe Q2o (Q2u p0.live)), (Qe Qp (Q20 p0.name)), (Qe Qi (Q2u p0.ready)), (Qe Q1c (Q9i p0.request)), (Qe Q1p (Q2u p0.startup))]))) := by
  exact Eq.symm (Q3q (by exact Nat.le_of_ble_eq_true rfl) (by kernel_rfl))
def Q1t1 (p0 : Container) : En := .call 108 [.agg (Container.cells p0)] []
def Q1nw (p0 : Container) : Rs := .ret (.agg (Val.cells (Qax p0))) []
def Q1ky (p0 : Container) : Prop := Container.sm p0
theorem Qab (p0 : Container) (H : Q1ky p0) : (Q1de p0.limit) ∧ (Q8b p0.live) ∧ (Q8b p0.ready) ∧ (Q1de p0.request) ∧ (Q8b p0.startup) ∧ (Q8y ([(Qe Q1z (Q20 p0.image)), (Qe Q2k (Q9i p0.limit)), (Qe Q2o (Q2u p0.live)), (Qe Qp (Q20 p0.name)), (Qe Qi (Q2u p0.ready)), (Qe Q1c (Q9i p0.request)), (Qe Q1p (Q2u p0.startup))])) ∧ True := by
  repeat' with_reducible apply And.intro
  all_goals first | exact True.intro | exact H | exact H.1 | exact H.2.1 | exact H.2.2.1 | exact H.2.2.2.1 | exact H.2.2.2.2.1 | exact H.2.2.2.2.2.1 | exact H.2.2.2.2.2.2.1 | exact H.2.2.2.2.2.2.2.1 | exact H.2.2.2.2.2.2.2.2.1 | exact H.2.2.2.2.2.2.2.2.2.1 | exact H.2.2.2.2.2.2.2.2.2.2.1 | exact Q9y (by exact Nat.le_of_ble_eq_true rfl) (Container.Q1y H).all.2.2.2
theorem Q1r7 (p0 : Container) (H : Q1ky p0) : Q7 G (Q1t1 p0) (Q1nw p0) := by
 unfold Q1nw
 rw [Q1w8]
 exact Q8 (fn := Ir.K1d) rfl VOK.nil [] [aN (Q9x p0.image), aN (Q2d Q1z (Q20 p0.image)), aN (Q1lw p0.limit (Qab p0 H).1), aN (Q2d Q2k (Q9i p0.limit)), aN (Qdt p0.live (Qab p0 H).2.1), aN (Q2d Q2o (Q2u p0.live)), aN (Q9x p0.name), aN (Q2d Qp (Q20 p0.name)), aN (Qdt p0.ready (Qab p0 H).2.2.1), aN (Q2d Qi (Q2u p0.ready)), aN (Q1lw p0.request (Qab p0 H).2.2.2.1), aN (Q2d Q1c (Q9i p0.request)), aN (Qdt p0.startup (Qab p0 H).2.2.2.2.1), aN (Q2d Q1p (Q2u p0.startup)), aN (Q49 (e' := .call 61 [.sl [(Fld.cells (Qe Q1z (Q20 p0.image))), (Fld.cells (Qe Q2k (Q9i p0.limit))), (Fld.cells (Qe Q2o (Q2u p0.live))), (Fld.cells (Qe Qp (Q20 p0.name))), (Fld.cells (Qe Qi (Q2u p0.ready))), (Fld.cells (Qe Q1c (Q9i p0.request))), (Fld.cells (Qe Q1p (Q2u p0.startup)))]] []) (Q99 ([(Qe Q1z (Q20 p0.image)), (Qe Q2k (Q9i p0.limit)), (Qe Q2o (Q2u p0.live)), (Qe Qp (Q20 p0.name)), (Qe Qi (Q2u p0.ready)), (Qe Q1c (Q9i p0.request)), (Qe Q1p (Q2u p0.startup))]) (Qab p0 H).2.2.2.2.2.1) (by simp only [Q95, Fld.Q21, Fld.Q2m]))] (by kernel_rfl)
def Q4d (p0 : List Container) : List Container → Nat → (List Val) → List Val
 | [], _i0, v0_1 =>
  v0_1
 | x0 :: r0, i0, v0_1 =>
  Q4d p0 r0 (i0 + 1) (v0_1 ++ [(Qax x0)])
theorem Qw3 (p0 : List Container) : ∀ (l : List Container) (i : Nat) (a : List Val), Q4d p0 l i a = a ++ l.map (fun x0 => (Qax x0))
  | [], _, _ => by simp [Q4d]
  | x :: r, i, a => by rw [Q4d, Qw3 p0 r]; simp
def Qzg (p0 : List Container) (i0 : Nat) (v0_1 : List Val) : List PV :=
  [.un, .fn 108 [] [], .un, .un, .bx 0 0, .ms 1 5 0 (List.length v0_1), .un, .un, .sl (Container.rows p0), .int .i64 ((List.length p0) : Int), .int .i64 (i0 : Int)] ++ nuns 12
def Qnd (_p0 : List Container) (_i0 : Nat) (v0_1 : List Val) : List Ob :=
  [⟨5, 0, true, [.int .i64 0, .int .i64 0, .str eB, .ms 2 5 0 0, .ms 3 6 0 0]⟩, ⟨5, 0, true, (Val.rows v0_1).flatten⟩, ⟨5, 0, true, []⟩, ⟨6, 0, true, []⟩]
def Qhb (p0 : List Container) (i0 : Nat) (v0_1 : List Val) : En := .loop 0 Ir.Qn3 Ir.Q1jf (Qzg p0 i0 v0_1) (Qnd p0 i0 v0_1)
def Qtt (_p0 : List Container) (q0 : List Val) (z : Nat → PV) (_zo : Nat → List PV) : St :=
  ⟨[z 0, z 1, z 2, z 3, .bx 0 0, .ms 1 5 0 (List.length q0)] ++ zr z 6 17, [(0, ⟨5, 0, true, [.int .i64 0, .int .i64 0, .str eB, .ms 2 5 0 0, .ms 3 6 0 0]⟩), (1, ⟨5, 0, true, (Val.rows q0).flatten⟩), (2, ⟨5, 0, true, []⟩), (3, ⟨6, 0, true, []⟩)], 68⟩
theorem Q16q (p0 : List Container) (i0 : Nat) (v0_1 : List Val) : VOK (Go.Pv.look (number 0 (Qnd p0 i0 v0_1))) [(1, Val.rows v0_1)] := (VOK.cons (show Seen _ _ from Q3g (ob := ⟨5, 0, true, (Val.rows v0_1).flatten⟩) (Val.Q9 v0_1 5 rfl)) VOK.nil)
def Qhd (p0 : List Container) (e : En) (q : List Val) : Prop := ∃ z zo, Q7 G e (.st (.exit 0) (Qtt p0 q z zo))
theorem Qvg (p0 : List Container) {e e' : En} (h : ∀ r, Q7 G e r → Q7 G e' r) : ∀ q, Qhd p0 e q → Qhd p0 e' q
  | _, ⟨z, zo, hz⟩ => ⟨z, zo, h _ hz⟩
def Qfw (p0 : List Container) : Prop := (List.length p0 ≤ 137438953472) ∧ (∀ x0 ∈ p0, Q1ky x0) ∧ True
def Qri (p0 : List Container) (i0 : Nat) (_v0_1 : List Val) : List PV :=
  [.un, .fn 108 [] []] ++ nuns 6 ++ [.sl (Container.rows p0), .int .i64 ((List.length p0) : Int), .int .i64 (i0 : Int), .bool false]
def Qo1 (_p0 : List Container) (_i0 : Nat) (_v0_1 : List Val) : List (Nat × List PV) :=
  []
theorem Q1bq (p0 : List Container) (_H : Qfw p0) (i0 : Nat) (v0_1 : List Val) (_ho0_0 : List.length v0_1 ≤ i0) (hc0 : (decide ((i0 : Int) < ((List.length p0) : Int))) = false) : Qhd p0 (Qhb p0 i0 v0_1) v0_1 := by
 exact ⟨(envF (Qri p0 i0 v0_1)), (zoF (Qo1 p0 i0 v0_1)), Qg (Q16q p0 i0 v0_1) (x := ((.exit 0), Qtt p0 v0_1 (envF (Qri p0 i0 v0_1)) (zoF (Qo1 p0 i0 v0_1)))) [hB 0 hc0] [] (by kernel_rfl)⟩
theorem Q1aw (p0 : List Container) (H : Qfw p0) (x0 : Container) (i0 : Nat) (v0_1 : List Val) (hx0 : p0[i0]? = some x0) (hi0 : i0 < List.length p0) (ho0_0 : List.length v0_1 ≤ i0) (hc0 : (decide ((i0 : Int) < ((List.length p0) : Int))) = true) {r : Rs} (hr : Q7 G (Qhb p0 (i0 + 1) (v0_1 ++ [(Qax x0)])) r) : Q7 G (Qhb p0 i0 v0_1) r := by
 have hB0 := H.1
 exact Qk (Q16q p0 i0 v0_1) (y := (Qzg p0 (i0 + 1) (v0_1 ++ [(Qax x0)]), Qnd p0 (i0 + 1) (v0_1 ++ [(Qax x0)]))) [hB 0 hc0, hP 0 (Q1j 11 (Container.rows p0) i0 _ (Container.Qc hx0) rfl), hV 8 [(644, Val.rows (v0_1 ++ [(Qax x0)]))] (Q3z 1 580 644 5 80 0 0 true (Val.rows v0_1) (Val.rows (v0_1 ++ [(Qax x0)])) (Val.cells (Qax x0)) (List.length v0_1) (List.length (v0_1 ++ [(Qax x0)])) rfl (Val.Q5 v0_1).symm (Val.Q5 (v0_1 ++ [(Qax x0)])).symm (Val.Q14 v0_1 (Qax x0)) (Val.Qm v0_1) rfl (by omega)), hS 0 true (Val.Q9 (v0_1 ++ [(Qax x0)]) 5 rfl), hP 1 (Q22 i0 (by omega))] [aN (Q1r7 x0 (H.2.1 x0 (Q2a hx0)))] (by kernel_rfl) hr
theorem Qx1 (p0 : List Container) (H : Qfw p0) : ∀ (r0 : List Container) (i0 : Nat) (v0_1 : List Val), List.drop i0 p0 = r0 → List.length v0_1 ≤ i0 → Qhd p0 (Qhb p0 i0 v0_1) (Q4d p0 r0 i0 v0_1)
 | [], i0, v0_1, hd, ho0_0 => by
  have hc0 : (decide ((i0 : Int) < ((List.length p0) : Int))) = false := by have := Q19 hd; simp; omega
  rw [Q4d]
  exact Q1bq p0 H i0 v0_1 ho0_0 hc0
 | x0 :: r0, i0, v0_1, hd, ho0_0 => by
  obtain ⟨hx0, hi0, hd'⟩ := Q11 hd
  have hc0 : (decide ((i0 : Int) < ((List.length p0) : Int))) = true := by simp; omega
  rw [Q4d]
  exact Qvg p0 (fun r hr => Q1aw p0 H x0 i0 v0_1 hx0 hi0 ho0_0 hc0 hr) _ (Qx1 p0 H r0 (i0 + 1) (v0_1 ++ [(Qax x0)]) hd' (by first | omega | (simp; omega)))
def Q66 (p0 : List Container) : Val := vL (p0.map Container.enc)
theorem Q1a3 (p0 : List Container) : Q66 p0 = ((Qcu (Q4d p0 p0 0 []))) := by
  rw [Qw3]
  rfl
def Q1bh (p0 : List Container) : En := .call 107 [.sl (Container.rows p0), .fn 108 [] []] []
def Qpl (p0 : List Container) : Rs := .ret (.agg (Val.cells (Q66 p0))) []
def Qe7 (p0 : List Container) : Prop := LSm Container.sm p0
theorem Qcy (p0 : List Container) (H : Qe7 p0) : (Qfw p0) ∧ (Qem (Q4d p0 p0 0 [])) ∧ True := by
  refine ⟨⟨Nat.le_trans H.1 (Nat.le_of_ble_eq_true rfl), H.2, trivial⟩, ⟨?_, trivial⟩, trivial⟩
  rw [Qw3]
  exact Q32 (fun _ h => Container.Q1y h) H
theorem Q1c1 (p0 : List Container) (H : Qe7 p0) : Q7 G (Q1bh p0) (Qpl p0) := by
 unfold Qpl
 rw [Q1a3]
 have hl0 := Qx1 p0 ((Qcy p0 H).1) p0 0 [] (by simp) (by simp)
 obtain ⟨z0, zo0, hl0⟩ := hl0
 exact Q8 (fn := Ir.K1t) rfl VOK.nil [hP 3 (Qh (Container.rows p0) (List.length p0) (Container.Q5 p0)), hS 0 true (Val.Q9 (Q4d p0 p0 0 []) 5 rfl), hQ (Val.Q5 (Q4d p0 p0 0 [])).symm] [aV [(1, Val.rows (Q4d p0 p0 0 []))] hl0, aN (Qfh (Q4d p0 p0 0 []) (Qcy p0 H).2.1)] (by kernel_rfl)
def Q4f (p0 : List ByteArray) : List ByteArray → Nat → (List Val) → List Val
 | [], _i0, v0_1 =>
  v0_1
 | x0 :: r0, i0, v0_1 =>
  Q4f p0 r0 (i0 + 1) (v0_1 ++ [(Q20 x0)])
theorem Qv5 (p0 : List ByteArray) : ∀ (l : List ByteArray) (i : Nat) (a : List Val), Q4f p0 l i a = a ++ l.map (fun x0 => (Q20 x0))
  | [], _, _ => by simp [Q4f]
  | x :: r, i, a => by rw [Q4f, Qv5 p0 r]; simp
def Qyx (p0 : List ByteArray) (i0 : Nat) (v0_1 : List Val) : List PV :=
  [.un, .fn 109 [] [], .un, .un, .bx 0 0, .ms 1 5 0 (List.length v0_1), .un, .un, .sl (Qj p0), .int .i64 ((List.length p0) : Int), .int .i64 (i0 : Int)] ++ nuns 12
def Qob (_p0 : List ByteArray) (_i0 : Nat) (v0_1 : List Val) : List Ob :=
  [⟨5, 0, true, [.int .i64 0, .int .i64 0, .str eB, .ms 2 5 0 0, .ms 3 6 0 0]⟩, ⟨5, 0, true, (Val.rows v0_1).flatten⟩, ⟨5, 0, true, []⟩, ⟨6, 0, true, []⟩]
def Qih (p0 : List ByteArray) (i0 : Nat) (v0_1 : List Val) : En := .loop 0 Ir.Qlm Ir.Q1k1 (Qyx p0 i0 v0_1) (Qob p0 i0 v0_1)
def Qtr (_p0 : List ByteArray) (q0 : List Val) (z : Nat → PV) (_zo : Nat → List PV) : St :=
  ⟨[z 0, z 1, z 2, z 3, .bx 0 0, .ms 1 5 0 (List.length q0)] ++ zr z 6 17, [(0, ⟨5, 0, true, [.int .i64 0, .int .i64 0, .str eB, .ms 2 5 0 0, .ms 3 6 0 0]⟩), (1, ⟨5, 0, true, (Val.rows q0).flatten⟩), (2, ⟨5, 0, true, []⟩), (3, ⟨6, 0, true, []⟩)], 68⟩
theorem Q151 (p0 : List ByteArray) (i0 : Nat) (v0_1 : List Val) : VOK (Go.Pv.look (number 0 (Qob p0 i0 v0_1))) [(1, Val.rows v0_1)] := (VOK.cons (show Seen _ _ from Q3g (ob := ⟨5, 0, true, (Val.rows v0_1).flatten⟩) (Val.Q9 v0_1 5 rfl)) VOK.nil)
def Qgi (p0 : List ByteArray) (e : En) (q : List Val) : Prop := ∃ z zo, Q7 G e (.st (.exit 0) (Qtr p0 q z zo))
theorem Qud (p0 : List ByteArray) {e e' : En} (h : ∀ r, Q7 G e r → Q7 G e' r) : ∀ q, Qgi p0 e q → Qgi p0 e' q
  | _, ⟨z, zo, hz⟩ => ⟨z, zo, h _ hz⟩
def Qh2 (p0 : List ByteArray) : Prop := (List.length p0 ≤ 137438953472) ∧ True
def Qr3 (p0 : List ByteArray) (i0 : Nat) (_v0_1 : List Val) : List PV :=
  [.un, .fn 109 [] []] ++ nuns 6 ++ [.sl (Qj p0), .int .i64 ((List.length p0) : Int), .int .i64 (i0 : Int), .bool false]
def Qj5 (_p0 : List ByteArray) (_i0 : Nat) (_v0_1 : List Val) : List (Nat × List PV) :=
  []
theorem Q17q (p0 : List ByteArray) (_H : Qh2 p0) (i0 : Nat) (v0_1 : List Val) (_ho0_0 : List.length v0_1 ≤ i0) (hc0 : (decide ((i0 : Int) < ((List.length p0) : Int))) = false) : Qgi p0 (Qih p0 i0 v0_1) v0_1 := by
 exact ⟨(envF (Qr3 p0 i0 v0_1)), (zoF (Qj5 p0 i0 v0_1)), Qg (Q151 p0 i0 v0_1) (x := ((.exit 0), Qtr p0 v0_1 (envF (Qr3 p0 i0 v0_1)) (zoF (Qj5 p0 i0 v0_1)))) [hB 0 hc0] [] (by kernel_rfl)⟩
theorem Q1b6 (p0 : List ByteArray) (H : Qh2 p0) (x0 : BA) (i0 : Nat) (v0_1 : List Val) (hx0 : p0[i0]? = some x0) (hi0 : i0 < List.length p0) (ho0_0 : List.length v0_1 ≤ i0) (hc0 : (decide ((i0 : Int) < ((List.length p0) : Int))) = true) {r : Rs} (hr : Q7 G (Qih p0 (i0 + 1) (v0_1 ++ [(Q20 x0)])) r) : Q7 G (Qih p0 i0 v0_1) r := by
 have hB0 := H.1
 exact Qk (Q151 p0 i0 v0_1) (y := (Qyx p0 (i0 + 1) (v0_1 ++ [(Q20 x0)]), Qob p0 (i0 + 1) (v0_1 ++ [(Q20 x0)]))) [hB 0 hc0, hP 0 (Q1j 1 (Qj p0) i0 _ (Q40 hx0) rfl), hV 7 [(580, Val.rows (v0_1 ++ [(Q20 x0)]))] (Q3z 1 516 580 5 80 0 0 true (Val.rows v0_1) (Val.rows (v0_1 ++ [(Q20 x0)])) (Val.cells (Q20 x0)) (List.length v0_1) (List.length (v0_1 ++ [(Q20 x0)])) rfl (Val.Q5 v0_1).symm (Val.Q5 (v0_1 ++ [(Q20 x0)])).symm (Val.Q14 v0_1 (Q20 x0)) (Val.Qm v0_1) rfl (by omega)), hS 0 true (Val.Q9 (v0_1 ++ [(Q20 x0)]) 5 rfl), hP 1 (Q22 i0 (by omega))] [aN (Q9x x0)] (by kernel_rfl) hr
theorem Qzj (p0 : List ByteArray) (H : Qh2 p0) : ∀ (r0 : List ByteArray) (i0 : Nat) (v0_1 : List Val), List.drop i0 p0 = r0 → List.length v0_1 ≤ i0 → Qgi p0 (Qih p0 i0 v0_1) (Q4f p0 r0 i0 v0_1)
 | [], i0, v0_1, hd, ho0_0 => by
  have hc0 : (decide ((i0 : Int) < ((List.length p0) : Int))) = false := by have := Q19 hd; simp; omega
  rw [Q4f]
  exact Q17q p0 H i0 v0_1 ho0_0 hc0
 | x0 :: r0, i0, v0_1, hd, ho0_0 => by
  obtain ⟨hx0, hi0, hd'⟩ := Q11 hd
  have hc0 : (decide ((i0 : Int) < ((List.length p0) : Int))) = true := by simp; omega
  rw [Q4f]
  exact Qud p0 (fun r hr => Q1b6 p0 H x0 i0 v0_1 hx0 hi0 ho0_0 hc0 hr) _ (Qzj p0 H r0 (i0 + 1) (v0_1 ++ [(Q20 x0)]) hd' (by first | omega | (simp; omega)))
def Q5x (p0 : List ByteArray) : Val := vL (p0.map vS)
theorem Q1cz (p0 : List ByteArray) : Q5x p0 = ((Qcu (Q4f p0 p0 0 []))) := by
  rw [Qv5]
  rfl
def Q1be (p0 : List ByteArray) : En := .call 148 [.sl (Qj p0), .fn 109 [] []] []
def Qqr (p0 : List ByteArray) : Rs := .ret (.agg (Val.cells (Q5x p0))) []
def Qe4 (p0 : List ByteArray) : Prop := LSm (fun _ : ByteArray => True) p0
theorem Qcv (p0 : List ByteArray) (H : Qe4 p0) : (Qh2 p0) ∧ (Qem (Q4f p0 p0 0 [])) ∧ True := by
  refine ⟨⟨Nat.le_trans H.1 (Nat.le_of_ble_eq_true rfl), trivial⟩, ⟨?_, trivial⟩, trivial⟩
  rw [Qv5]
  exact Q32 (fun _ _ => Val.Sm.leaf _ _ _) H
theorem Q1ca (p0 : List ByteArray) (H : Qe4 p0) : Q7 G (Q1be p0) (Qqr p0) := by
 unfold Qqr
 rw [Q1cz]
 have hl0 := Qzj p0 ((Qcv p0 H).1) p0 0 [] (by simp) (by simp)
 obtain ⟨z0, zo0, hl0⟩ := hl0
 exact Q8 (fn := Ir.K21) rfl VOK.nil [hP 3 (Qh (Qj p0) (List.length p0) (Q1h p0)), hS 0 true (Val.Q9 (Q4f p0 p0 0 []) 5 rfl), hQ (Val.Q5 (Q4f p0 p0 0 [])).symm] [aV [(1, Val.rows (Q4f p0 p0 0 []))] hl0, aN (Qfh (Q4f p0 p0 0 []) (Qcv p0 H).2.1)] (by kernel_rfl)
def Qb7 (p0 : Requirement) : Val := Requirement.enc p0
theorem Q1u5 (p0 : Requirement) : Qb7 p0 = ((Q6d ([(Qe Qs (Q20 p0.key)), (Qe Q5j (Qz p0.op)), (Qe Q27 (Q5x p0.values))]))) := by
  exact Eq.symm (Q3q (by exact Nat.le_of_ble_eq_true rfl) (by kernel_rfl))
def Q1ww (p0 : Requirement) : En := .call 111 [.agg (Requirement.cells p0)] []
def Q1ng (p0 : Requirement) : Rs := .ret (.agg (Val.cells (Qb7 p0))) []
def Q1li (p0 : Requirement) : Prop := Requirement.sm p0
theorem Q15j (p0 : Requirement) (H : Q1li p0) : (Qe4 p0.values) ∧ (Q8y ([(Qe Qs (Q20 p0.key)), (Qe Q5j (Qz p0.op)), (Qe Q27 (Q5x p0.values))])) ∧ True := by
  repeat' with_reducible apply And.intro
  all_goals first | exact True.intro | exact H | exact H.1 | exact H.2.1 | exact H.2.2.1 | exact H.2.2.2.1 | exact H.2.2.2.2.1 | exact H.2.2.2.2.2.1 | exact H.2.2.2.2.2.2.1 | exact H.2.2.2.2.2.2.2.1 | exact H.2.2.2.2.2.2.2.2.1 | exact H.2.2.2.2.2.2.2.2.2.1 | exact H.2.2.2.2.2.2.2.2.2.2.1 | exact Q9y (by exact Nat.le_of_ble_eq_true rfl) (Requirement.Q1y H).all.2.2.2
theorem Q1u9 (p0 : Requirement) (H : Q1li p0) : Q7 G (Q1ww p0) (Q1ng p0) := by
 unfold Q1ng
 rw [Q1u5]
 exact Q8 (fn := Ir.K1k) rfl VOK.nil [] [aN (Q9x p0.key), aN (Q2d Qs (Q20 p0.key)), aN (Q5m p0.op), aN (Q2d Q5j (Qz p0.op)), aN (Q1ca p0.values (Q15j p0 H).1), aN (Q2d Q27 (Q5x p0.values)), aN (Q49 (e' := .call 61 [.sl [(Fld.cells (Qe Qs (Q20 p0.key))), (Fld.cells (Qe Q5j (Qz p0.op))), (Fld.cells (Qe Q27 (Q5x p0.values)))]] []) (Q99 ([(Qe Qs (Q20 p0.key)), (Qe Q5j (Qz p0.op)), (Qe Q27 (Q5x p0.values))]) (Q15j p0 H).2.1) (by simp only [Q95, Fld.Q21, Fld.Q2m]))] (by kernel_rfl)
def Q4g (p0 : List Requirement) : List Requirement → Nat → (List Val) → List Val
 | [], _i0, v0_1 =>
  v0_1
 | x0 :: r0, i0, v0_1 =>
  Q4g p0 r0 (i0 + 1) (v0_1 ++ [(Qb7 x0)])
theorem Quk (p0 : List Requirement) : ∀ (l : List Requirement) (i : Nat) (a : List Val), Q4g p0 l i a = a ++ l.map (fun x0 => (Qb7 x0))
  | [], _, _ => by simp [Q4g]
  | x :: r, i, a => by rw [Q4g, Quk p0 r]; simp
def Q117 (p0 : List Requirement) (i0 : Nat) (v0_1 : List Val) : List PV :=
  [.un, .fn 111 [] [], .un, .un, .bx 0 0, .ms 1 5 0 (List.length v0_1), .un, .un, .sl (Requirement.rows p0), .int .i64 ((List.length p0) : Int), .int .i64 (i0 : Int)] ++ nuns 12
def Qji (_p0 : List Requirement) (_i0 : Nat) (v0_1 : List Val) : List Ob :=
  [⟨5, 0, true, [.int .i64 0, .int .i64 0, .str eB, .ms 2 5 0 0, .ms 3 6 0 0]⟩, ⟨5, 0, true, (Val.rows v0_1).flatten⟩, ⟨5, 0, true, []⟩, ⟨6, 0, true, []⟩]
def Qg5 (p0 : List Requirement) (i0 : Nat) (v0_1 : List Val) : En := .loop 0 Ir.Qlo Ir.Q1jo (Q117 p0 i0 v0_1) (Qji p0 i0 v0_1)
def Qq2 (_p0 : List Requirement) (q0 : List Val) (z : Nat → PV) (_zo : Nat → List PV) : St :=
  ⟨[z 0, z 1, z 2, z 3, .bx 0 0, .ms 1 5 0 (List.length q0)] ++ zr z 6 17, [(0, ⟨5, 0, true, [.int .i64 0, .int .i64 0, .str eB, .ms 2 5 0 0, .ms 3 6 0 0]⟩), (1, ⟨5, 0, true, (Val.rows q0).flatten⟩), (2, ⟨5, 0, true, []⟩), (3, ⟨6, 0, true, []⟩)], 68⟩
theorem Q14v (p0 : List Requirement) (i0 : Nat) (v0_1 : List Val) : VOK (Go.Pv.look (number 0 (Qji p0 i0 v0_1))) [(1, Val.rows v0_1)] := (VOK.cons (show Seen _ _ from Q3g (ob := ⟨5, 0, true, (Val.rows v0_1).flatten⟩) (Val.Q9 v0_1 5 rfl)) VOK.nil)
def Qhm (p0 : List Requirement) (e : En) (q : List Val) : Prop := ∃ z zo, Q7 G e (.st (.exit 0) (Qq2 p0 q z zo))
theorem Qv9 (p0 : List Requirement) {e e' : En} (h : ∀ r, Q7 G e r → Q7 G e' r) : ∀ q, Qhm p0 e q → Qhm p0 e' q
  | _, ⟨z, zo, hz⟩ => ⟨z, zo, h _ hz⟩
def Qi9 (p0 : List Requirement) : Prop := (List.length p0 ≤ 137438953472) ∧ (∀ x0 ∈ p0, Q1li x0) ∧ True
def Qq6 (p0 : List Requirement) (i0 : Nat) (_v0_1 : List Val) : List PV :=
  [.un, .fn 111 [] []] ++ nuns 6 ++ [.sl (Requirement.rows p0), .int .i64 ((List.length p0) : Int), .int .i64 (i0 : Int), .bool false]
def Qkp (_p0 : List Requirement) (_i0 : Nat) (_v0_1 : List Val) : List (Nat × List PV) :=
  []
theorem Q1aq (p0 : List Requirement) (_H : Qi9 p0) (i0 : Nat) (v0_1 : List Val) (_ho0_0 : List.length v0_1 ≤ i0) (hc0 : (decide ((i0 : Int) < ((List.length p0) : Int))) = false) : Qhm p0 (Qg5 p0 i0 v0_1) v0_1 := by
 exact ⟨(envF (Qq6 p0 i0 v0_1)), (zoF (Qkp p0 i0 v0_1)), Qg (Q14v p0 i0 v0_1) (x := ((.exit 0), Qq2 p0 v0_1 (envF (Qq6 p0 i0 v0_1)) (zoF (Qkp p0 i0 v0_1)))) [hB 0 hc0] [] (by kernel_rfl)⟩
theorem Q1aa (p0 : List Requirement) (H : Qi9 p0) (x0 : Requirement) (i0 : Nat) (v0_1 : List Val) (hx0 : p0[i0]? = some x0) (hi0 : i0 < List.length p0) (ho0_0 : List.length v0_1 ≤ i0) (hc0 : (decide ((i0 : Int) < ((List.length p0) : Int))) = true) {r : Rs} (hr : Q7 G (Qg5 p0 (i0 + 1) (v0_1 ++ [(Qb7 x0)])) r) : Q7 G (Qg5 p0 i0 v0_1) r := by
 have hB0 := H.1
 exact Qk (Q14v p0 i0 v0_1) (y := (Q117 p0 (i0 + 1) (v0_1 ++ [(Qb7 x0)]), Qji p0 (i0 + 1) (v0_1 ++ [(Qb7 x0)]))) [hB 0 hc0, hP 0 (Q1j 3 (Requirement.rows p0) i0 _ (Requirement.Qc hx0) rfl), hV 8 [(644, Val.rows (v0_1 ++ [(Qb7 x0)]))] (Q3z 1 580 644 5 80 0 0 true (Val.rows v0_1) (Val.rows (v0_1 ++ [(Qb7 x0)])) (Val.cells (Qb7 x0)) (List.length v0_1) (List.length (v0_1 ++ [(Qb7 x0)])) rfl (Val.Q5 v0_1).symm (Val.Q5 (v0_1 ++ [(Qb7 x0)])).symm (Val.Q14 v0_1 (Qb7 x0)) (Val.Qm v0_1) rfl (by omega)), hS 0 true (Val.Q9 (v0_1 ++ [(Qb7 x0)]) 5 rfl), hP 1 (Q22 i0 (by omega))] [aN (Q1u9 x0 (H.2.1 x0 (Q2a hx0)))] (by kernel_rfl) hr
theorem Q10c (p0 : List Requirement) (H : Qi9 p0) : ∀ (r0 : List Requirement) (i0 : Nat) (v0_1 : List Val), List.drop i0 p0 = r0 → List.length v0_1 ≤ i0 → Qhm p0 (Qg5 p0 i0 v0_1) (Q4g p0 r0 i0 v0_1)
 | [], i0, v0_1, hd, ho0_0 => by
  have hc0 : (decide ((i0 : Int) < ((List.length p0) : Int))) = false := by have := Q19 hd; simp; omega
  rw [Q4g]
  exact Q1aq p0 H i0 v0_1 ho0_0 hc0
 | x0 :: r0, i0, v0_1, hd, ho0_0 => by
  obtain ⟨hx0, hi0, hd'⟩ := Q11 hd
  have hc0 : (decide ((i0 : Int) < ((List.length p0) : Int))) = true := by simp; omega
  rw [Q4g]
  exact Qv9 p0 (fun r hr => Q1aa p0 H x0 i0 v0_1 hx0 hi0 ho0_0 hc0 hr) _ (Q10c p0 H r0 (i0 + 1) (v0_1 ++ [(Qb7 x0)]) hd' (by first | omega | (simp; omega)))
def Q2f (p0 : List Requirement) : Val := vL (p0.map Requirement.enc)
theorem Q1ak (p0 : List Requirement) : Q2f p0 = ((Qcu (Q4g p0 p0 0 []))) := by
  rw [Quk]
  rfl
def Q18i (p0 : List Requirement) : En := .call 110 [.sl (Requirement.rows p0), .fn 111 [] []] []
def Qpx (p0 : List Requirement) : Rs := .ret (.agg (Val.cells (Q2f p0))) []
def Q6t (p0 : List Requirement) : Prop := LSm Requirement.sm p0
theorem Qbz (p0 : List Requirement) (H : Q6t p0) : (Qi9 p0) ∧ (Qem (Q4g p0 p0 0 [])) ∧ True := by
  refine ⟨⟨Nat.le_trans H.1 (Nat.le_of_ble_eq_true rfl), H.2, trivial⟩, ⟨?_, trivial⟩, trivial⟩
  rw [Quk]
  exact Q32 (fun _ h => Requirement.Q1y h) H
theorem Qa7 (p0 : List Requirement) (H : Q6t p0) : Q7 G (Q18i p0) (Qpx p0) := by
 unfold Qpx
 rw [Q1ak]
 have hl0 := Q10c p0 ((Qbz p0 H).1) p0 0 [] (by simp) (by simp)
 obtain ⟨z0, zo0, hl0⟩ := hl0
 exact Q8 (fn := Ir.K1u) rfl VOK.nil [hP 3 (Qh (Requirement.rows p0) (List.length p0) (Requirement.Q5 p0)), hS 0 true (Val.Q9 (Q4g p0 p0 0 []) 5 rfl), hQ (Val.Q5 (Q4g p0 p0 0 [])).symm] [aV [(1, Val.rows (Q4g p0 p0 0 []))] hl0, aN (Qfh (Q4g p0 p0 0 []) (Qbz p0 H).2.1)] (by kernel_rfl)
def Q2v (p0 : Bool) : Val := vB p0
theorem Q1si (p0 : Bool) : Q2v p0 = (bif p0 then
    (Val.mk 1 1 eB [] [])
  else
    (Val.mk 1 0 eB [] [])) := by
  cases p0 <;> rfl
def Q1se (p0 : Bool) : En := .call 64 [.bool p0] []
def Q1ou (p0 : Bool) : Rs := .ret (.agg (Val.cells (Q2v p0))) []
theorem Qfc (p0 : Bool) : Q7 G (Q1se p0) (Q1ou p0) := by
 unfold Q1ou
 rw [Q1si]
 cases h0 : p0 with
 | true =>
  exact Q8 (fn := Ir.K3v) rfl VOK.nil [] [] (by kernel_rfl)
 | false =>
  exact Q8 (fn := Ir.K3v) rfl VOK.nil [] [] (by kernel_rfl)
def Qay (p0 : NodeTerm) : Val := NodeTerm.enc p0
theorem Q1vz (p0 : NodeTerm) : Qay p0 = ((Q6d ([(Qe Qa (Q2v p0.required)), (Qe Qb (Q2f p0.selector)), (Qe Qw (Qz p0.weight))]))) := by
  exact Eq.symm (Q3q (by exact Nat.le_of_ble_eq_true rfl) (by kernel_rfl))
def Q1wp (p0 : NodeTerm) : En := .call 113 [.agg (NodeTerm.cells p0)] []
def Q1o3 (p0 : NodeTerm) : Rs := .ret (.agg (Val.cells (Qay p0))) []
def Q1lb (p0 : NodeTerm) : Prop := NodeTerm.sm p0
theorem Q16k (p0 : NodeTerm) (H : Q1lb p0) : (Q6t p0.selector) ∧ (Q8y ([(Qe Qa (Q2v p0.required)), (Qe Qb (Q2f p0.selector)), (Qe Qw (Qz p0.weight))])) ∧ True := by
  repeat' with_reducible apply And.intro
  all_goals first | exact True.intro | exact H | exact H.1 | exact H.2.1 | exact H.2.2.1 | exact H.2.2.2.1 | exact H.2.2.2.2.1 | exact H.2.2.2.2.2.1 | exact H.2.2.2.2.2.2.1 | exact H.2.2.2.2.2.2.2.1 | exact H.2.2.2.2.2.2.2.2.1 | exact H.2.2.2.2.2.2.2.2.2.1 | exact H.2.2.2.2.2.2.2.2.2.2.1 | exact Q9y (by exact Nat.le_of_ble_eq_true rfl) (NodeTerm.Q1y H).all.2.2.2
theorem Q1sk (p0 : NodeTerm) (H : Q1lb p0) : Q7 G (Q1wp p0) (Q1o3 p0) := by
 unfold Q1o3
 rw [Q1vz]
 exact Q8 (fn := Ir.K1h) rfl VOK.nil [] [aN (Qfc p0.required), aN (Q2d Qa (Q2v p0.required)), aN (Qa7 p0.selector (Q16k p0 H).1), aN (Q2d Qb (Q2f p0.selector)), aN (Q5m p0.weight), aN (Q2d Qw (Qz p0.weight)), aN (Q49 (e' := .call 61 [.sl [(Fld.cells (Qe Qa (Q2v p0.required))), (Fld.cells (Qe Qb (Q2f p0.selector))), (Fld.cells (Qe Qw (Qz p0.weight)))]] []) (Q99 ([(Qe Qa (Q2v p0.required)), (Qe Qb (Q2f p0.selector)), (Qe Qw (Qz p0.weight))]) (Q16k p0 H).2.1) (by simp only [Q95, Fld.Q21, Fld.Q2m]))] (by kernel_rfl)
def Q4a (p0 : List NodeTerm) : List NodeTerm → Nat → (List Val) → List Val
 | [], _i0, v0_1 =>
  v0_1
 | x0 :: r0, i0, v0_1 =>
  Q4a p0 r0 (i0 + 1) (v0_1 ++ [(Qay x0)])
theorem Qvr (p0 : List NodeTerm) : ∀ (l : List NodeTerm) (i : Nat) (a : List Val), Q4a p0 l i a = a ++ l.map (fun x0 => (Qay x0))
  | [], _, _ => by simp [Q4a]
  | x :: r, i, a => by rw [Q4a, Qvr p0 r]; simp
def Q10a (p0 : List NodeTerm) (i0 : Nat) (v0_1 : List Val) : List PV :=
  [.un, .fn 113 [] [], .un, .un, .bx 0 0, .ms 1 5 0 (List.length v0_1), .un, .un, .sl (NodeTerm.rows p0), .int .i64 ((List.length p0) : Int), .int .i64 (i0 : Int)] ++ nuns 12
def Ql7 (_p0 : List NodeTerm) (_i0 : Nat) (v0_1 : List Val) : List Ob :=
  [⟨5, 0, true, [.int .i64 0, .int .i64 0, .str eB, .ms 2 5 0 0, .ms 3 6 0 0]⟩, ⟨5, 0, true, (Val.rows v0_1).flatten⟩, ⟨5, 0, true, []⟩, ⟨6, 0, true, []⟩]
def Qga (p0 : List NodeTerm) (i0 : Nat) (v0_1 : List Val) : En := .loop 0 Ir.Qn4 Ir.Q1j9 (Q10a p0 i0 v0_1) (Ql7 p0 i0 v0_1)
def Qtj (_p0 : List NodeTerm) (q0 : List Val) (z : Nat → PV) (_zo : Nat → List PV) : St :=
  ⟨[z 0, z 1, z 2, z 3, .bx 0 0, .ms 1 5 0 (List.length q0)] ++ zr z 6 17, [(0, ⟨5, 0, true, [.int .i64 0, .int .i64 0, .str eB, .ms 2 5 0 0, .ms 3 6 0 0]⟩), (1, ⟨5, 0, true, (Val.rows q0).flatten⟩), (2, ⟨5, 0, true, []⟩), (3, ⟨6, 0, true, []⟩)], 68⟩
theorem Q16p (p0 : List NodeTerm) (i0 : Nat) (v0_1 : List Val) : VOK (Go.Pv.look (number 0 (Ql7 p0 i0 v0_1))) [(1, Val.rows v0_1)] := (VOK.cons (show Seen _ _ from Q3g (ob := ⟨5, 0, true, (Val.rows v0_1).flatten⟩) (Val.Q9 v0_1 5 rfl)) VOK.nil)
def Qgb (p0 : List NodeTerm) (e : En) (q : List Val) : Prop := ∃ z zo, Q7 G e (.st (.exit 0) (Qtj p0 q z zo))
theorem Qvs (p0 : List NodeTerm) {e e' : En} (h : ∀ r, Q7 G e r → Q7 G e' r) : ∀ q, Qgb p0 e q → Qgb p0 e' q
  | _, ⟨z, zo, hz⟩ => ⟨z, zo, h _ hz⟩
def Qif (p0 : List NodeTerm) : Prop := (List.length p0 ≤ 137438953472) ∧ (∀ x0 ∈ p0, Q1lb x0) ∧ True
def Qty (p0 : List NodeTerm) (i0 : Nat) (_v0_1 : List Val) : List PV :=
  [.un, .fn 113 [] []] ++ nuns 6 ++ [.sl (NodeTerm.rows p0), .int .i64 ((List.length p0) : Int), .int .i64 (i0 : Int), .bool false]
def Qkd (_p0 : List NodeTerm) (_i0 : Nat) (_v0_1 : List Val) : List (Nat × List PV) :=
  []
theorem Q18r (p0 : List NodeTerm) (_H : Qif p0) (i0 : Nat) (v0_1 : List Val) (_ho0_0 : List.length v0_1 ≤ i0) (hc0 : (decide ((i0 : Int) < ((List.length p0) : Int))) = false) : Qgb p0 (Qga p0 i0 v0_1) v0_1 := by
 exact ⟨(envF (Qty p0 i0 v0_1)), (zoF (Qkd p0 i0 v0_1)), Qg (Q16p p0 i0 v0_1) (x := ((.exit 0), Qtj p0 v0_1 (envF (Qty p0 i0 v0_1)) (zoF (Qkd p0 i0 v0_1)))) [hB 0 hc0] [] (by kernel_rfl)⟩
theorem Q1bw (p0 : List NodeTerm) (H : Qif p0) (x0 : NodeTerm) (i0 : Nat) (v0_1 : List Val) (hx0 : p0[i0]? = some x0) (hi0 : i0 < List.length p0) (ho0_0 : List.length v0_1 ≤ i0) (hc0 : (decide ((i0 : Int) < ((List.length p0) : Int))) = true) {r : Rs} (hr : Q7 G (Qga p0 (i0 + 1) (v0_1 ++ [(Qay x0)])) r) : Q7 G (Qga p0 i0 v0_1) r := by
 have hB0 := H.1
 exact Qk (Q16p p0 i0 v0_1) (y := (Q10a p0 (i0 + 1) (v0_1 ++ [(Qay x0)]), Ql7 p0 (i0 + 1) (v0_1 ++ [(Qay x0)]))) [hB 0 hc0, hP 0 (Q1j 3 (NodeTerm.rows p0) i0 _ (NodeTerm.Qc hx0) rfl), hV 8 [(644, Val.rows (v0_1 ++ [(Qay x0)]))] (Q3z 1 580 644 5 80 0 0 true (Val.rows v0_1) (Val.rows (v0_1 ++ [(Qay x0)])) (Val.cells (Qay x0)) (List.length v0_1) (List.length (v0_1 ++ [(Qay x0)])) rfl (Val.Q5 v0_1).symm (Val.Q5 (v0_1 ++ [(Qay x0)])).symm (Val.Q14 v0_1 (Qay x0)) (Val.Qm v0_1) rfl (by omega)), hS 0 true (Val.Q9 (v0_1 ++ [(Qay x0)]) 5 rfl), hP 1 (Q22 i0 (by omega))] [aN (Q1sk x0 (H.2.1 x0 (Q2a hx0)))] (by kernel_rfl) hr
theorem Qz3 (p0 : List NodeTerm) (H : Qif p0) : ∀ (r0 : List NodeTerm) (i0 : Nat) (v0_1 : List Val), List.drop i0 p0 = r0 → List.length v0_1 ≤ i0 → Qgb p0 (Qga p0 i0 v0_1) (Q4a p0 r0 i0 v0_1)
 | [], i0, v0_1, hd, ho0_0 => by
  have hc0 : (decide ((i0 : Int) < ((List.length p0) : Int))) = false := by have := Q19 hd; simp; omega
  rw [Q4a]
  exact Q18r p0 H i0 v0_1 ho0_0 hc0
 | x0 :: r0, i0, v0_1, hd, ho0_0 => by
  obtain ⟨hx0, hi0, hd'⟩ := Q11 hd
  have hc0 : (decide ((i0 : Int) < ((List.length p0) : Int))) = true := by simp; omega
  rw [Q4a]
  exact Qvs p0 (fun r hr => Q1bw p0 H x0 i0 v0_1 hx0 hi0 ho0_0 hc0 hr) _ (Qz3 p0 H r0 (i0 + 1) (v0_1 ++ [(Qay x0)]) hd' (by first | omega | (simp; omega)))
def Q5w (p0 : List NodeTerm) : Val := vL (p0.map NodeTerm.enc)
theorem Q19t (p0 : List NodeTerm) : Q5w p0 = ((Qcu (Q4a p0 p0 0 []))) := by
  rw [Qvr]
  rfl
def Q19q (p0 : List NodeTerm) : En := .call 112 [.sl (NodeTerm.rows p0), .fn 113 [] []] []
def Qtm (p0 : List NodeTerm) : Rs := .ret (.agg (Val.cells (Q5w p0))) []
def Qej (p0 : List NodeTerm) : Prop := LSm NodeTerm.sm p0
theorem Qc8 (p0 : List NodeTerm) (H : Qej p0) : (Qif p0) ∧ (Qem (Q4a p0 p0 0 [])) ∧ True := by
  refine ⟨⟨Nat.le_trans H.1 (Nat.le_of_ble_eq_true rfl), H.2, trivial⟩, ⟨?_, trivial⟩, trivial⟩
  rw [Qvr]
  exact Q32 (fun _ h => NodeTerm.Q1y h) H
theorem Q1br (p0 : List NodeTerm) (H : Qej p0) : Q7 G (Q19q p0) (Qtm p0) := by
 unfold Qtm
 rw [Q19t]
 have hl0 := Qz3 p0 ((Qc8 p0 H).1) p0 0 [] (by simp) (by simp)
 obtain ⟨z0, zo0, hl0⟩ := hl0
 exact Q8 (fn := Ir.K1v) rfl VOK.nil [hP 3 (Qh (NodeTerm.rows p0) (List.length p0) (NodeTerm.Q5 p0)), hS 0 true (Val.Q9 (Q4a p0 p0 0 []) 5 rfl), hQ (Val.Q5 (Q4a p0 p0 0 [])).symm] [aV [(1, Val.rows (Q4a p0 p0 0 []))] hl0, aN (Qfh (Q4a p0 p0 0 []) (Qc8 p0 H).2.1)] (by kernel_rfl)
def Qba (p0 : PodTerm) : Val := PodTerm.enc p0
theorem Q1wj (p0 : PodTerm) : Qba p0 = ((Q6d ([(Qe Q2l (Q2v p0.anti)), (Qe Qa (Q2v p0.required)), (Qe Qb (Q2f p0.selector)), (Qe Ql (Q20 p0.topology)), (Qe Qw (Qz p0.weight))]))) := by
  exact Eq.symm (Q3q (by exact Nat.le_of_ble_eq_true rfl) (by kernel_rfl))
def Q1u7 (p0 : PodTerm) : En := .call 115 [.agg (PodTerm.cells p0)] []
def Q1oc (p0 : PodTerm) : Rs := .ret (.agg (Val.cells (Qba p0))) []
def Q1mk (p0 : PodTerm) : Prop := PodTerm.sm p0
theorem Q15x (p0 : PodTerm) (H : Q1mk p0) : (Q6t p0.selector) ∧ (Q8y ([(Qe Q2l (Q2v p0.anti)), (Qe Qa (Q2v p0.required)), (Qe Qb (Q2f p0.selector)), (Qe Ql (Q20 p0.topology)), (Qe Qw (Qz p0.weight))])) ∧ True := by
  repeat' with_reducible apply And.intro
  all_goals first | exact True.intro | exact H | exact H.1 | exact H.2.1 | exact H.2.2.1 | exact H.2.2.2.1 | exact H.2.2.2.2.1 | exact H.2.2.2.2.2.1 | exact H.2.2.2.2.2.2.1 | exact H.2.2.2.2.2.2.2.1 | exact H.2.2.2.2.2.2.2.2.1 | exact H.2.2.2.2.2.2.2.2.2.1 | exact H.2.2.2.2.2.2.2.2.2.2.1 | exact Q9y (by exact Nat.le_of_ble_eq_true rfl) (PodTerm.Q1y H).all.2.2.2
theorem Q1vd (p0 : PodTerm) (H : Q1mk p0) : Q7 G (Q1u7 p0) (Q1oc p0) := by
 unfold Q1oc
 rw [Q1wj]
 exact Q8 (fn := Ir.K1i) rfl VOK.nil [] [aN (Qfc p0.anti), aN (Q2d Q2l (Q2v p0.anti)), aN (Qfc p0.required), aN (Q2d Qa (Q2v p0.required)), aN (Qa7 p0.selector (Q15x p0 H).1), aN (Q2d Qb (Q2f p0.selector)), aN (Q9x p0.topology), aN (Q2d Ql (Q20 p0.topology)), aN (Q5m p0.weight), aN (Q2d Qw (Qz p0.weight)), aN (Q49 (e' := .call 61 [.sl [(Fld.cells (Qe Q2l (Q2v p0.anti))), (Fld.cells (Qe Qa (Q2v p0.required))), (Fld.cells (Qe Qb (Q2f p0.selector))), (Fld.cells (Qe Ql (Q20 p0.topology))), (Fld.cells (Qe Qw (Qz p0.weight)))]] []) (Q99 ([(Qe Q2l (Q2v p0.anti)), (Qe Qa (Q2v p0.required)), (Qe Qb (Q2f p0.selector)), (Qe Ql (Q20 p0.topology)), (Qe Qw (Qz p0.weight))]) (Q15x p0 H).2.1) (by simp only [Q95, Fld.Q21, Fld.Q2m]))] (by kernel_rfl)
def Q4e (p0 : List PodTerm) : List PodTerm → Nat → (List Val) → List Val
 | [], _i0, v0_1 =>
  v0_1
 | x0 :: r0, i0, v0_1 =>
  Q4e p0 r0 (i0 + 1) (v0_1 ++ [(Qba x0)])
theorem Qvh (p0 : List PodTerm) : ∀ (l : List PodTerm) (i : Nat) (a : List Val), Q4e p0 l i a = a ++ l.map (fun x0 => (Qba x0))
  | [], _, _ => by simp [Q4e]
  | x :: r, i, a => by rw [Q4e, Qvh p0 r]; simp
def Qzt (p0 : List PodTerm) (i0 : Nat) (v0_1 : List Val) : List PV :=
  [.un, .fn 115 [] [], .un, .un, .bx 0 0, .ms 1 5 0 (List.length v0_1), .un, .un, .sl (PodTerm.rows p0), .int .i64 ((List.length p0) : Int), .int .i64 (i0 : Int)] ++ nuns 12
def Qlj (_p0 : List PodTerm) (_i0 : Nat) (v0_1 : List Val) : List Ob :=
  [⟨5, 0, true, [.int .i64 0, .int .i64 0, .str eB, .ms 2 5 0 0, .ms 3 6 0 0]⟩, ⟨5, 0, true, (Val.rows v0_1).flatten⟩, ⟨5, 0, true, []⟩, ⟨6, 0, true, []⟩]
def Qgp (p0 : List PodTerm) (i0 : Nat) (v0_1 : List Val) : En := .loop 0 Ir.Qj9 Ir.Q1j0 (Qzt p0 i0 v0_1) (Qlj p0 i0 v0_1)
def Qse (_p0 : List PodTerm) (q0 : List Val) (z : Nat → PV) (_zo : Nat → List PV) : St :=
  ⟨[z 0, z 1, z 2, z 3, .bx 0 0, .ms 1 5 0 (List.length q0)] ++ zr z 6 17, [(0, ⟨5, 0, true, [.int .i64 0, .int .i64 0, .str eB, .ms 2 5 0 0, .ms 3 6 0 0]⟩), (1, ⟨5, 0, true, (Val.rows q0).flatten⟩), (2, ⟨5, 0, true, []⟩), (3, ⟨6, 0, true, []⟩)], 68⟩
theorem Q15s (p0 : List PodTerm) (i0 : Nat) (v0_1 : List Val) : VOK (Go.Pv.look (number 0 (Qlj p0 i0 v0_1))) [(1, Val.rows v0_1)] := (VOK.cons (show Seen _ _ from Q3g (ob := ⟨5, 0, true, (Val.rows v0_1).flatten⟩) (Val.Q9 v0_1 5 rfl)) VOK.nil)
def Qg9 (p0 : List PodTerm) (e : En) (q : List Val) : Prop := ∃ z zo, Q7 G e (.st (.exit 0) (Qse p0 q z zo))
theorem Qwu (p0 : List PodTerm) {e e' : En} (h : ∀ r, Q7 G e r → Q7 G e' r) : ∀ q, Qg9 p0 e q → Qg9 p0 e' q
  | _, ⟨z, zo, hz⟩ => ⟨z, zo, h _ hz⟩
def Qij (p0 : List PodTerm) : Prop := (List.length p0 ≤ 137438953472) ∧ (∀ x0 ∈ p0, Q1mk x0) ∧ True
def Qpf (p0 : List PodTerm) (i0 : Nat) (_v0_1 : List Val) : List PV :=
  [.un, .fn 115 [] []] ++ nuns 6 ++ [.sl (PodTerm.rows p0), .int .i64 ((List.length p0) : Int), .int .i64 (i0 : Int), .bool false]
def Qng (_p0 : List PodTerm) (_i0 : Nat) (_v0_1 : List Val) : List (Nat × List PV) :=
  []
theorem Q1cu (p0 : List PodTerm) (_H : Qij p0) (i0 : Nat) (v0_1 : List Val) (_ho0_0 : List.length v0_1 ≤ i0) (hc0 : (decide ((i0 : Int) < ((List.length p0) : Int))) = false) : Qg9 p0 (Qgp p0 i0 v0_1) v0_1 := by
 exact ⟨(envF (Qpf p0 i0 v0_1)), (zoF (Qng p0 i0 v0_1)), Qg (Q15s p0 i0 v0_1) (x := ((.exit 0), Qse p0 v0_1 (envF (Qpf p0 i0 v0_1)) (zoF (Qng p0 i0 v0_1)))) [hB 0 hc0] [] (by kernel_rfl)⟩
theorem Q1b7 (p0 : List PodTerm) (H : Qij p0) (x0 : PodTerm) (i0 : Nat) (v0_1 : List Val) (hx0 : p0[i0]? = some x0) (hi0 : i0 < List.length p0) (ho0_0 : List.length v0_1 ≤ i0) (hc0 : (decide ((i0 : Int) < ((List.length p0) : Int))) = true) {r : Rs} (hr : Q7 G (Qgp p0 (i0 + 1) (v0_1 ++ [(Qba x0)])) r) : Q7 G (Qgp p0 i0 v0_1) r := by
 have hB0 := H.1
 exact Qk (Q15s p0 i0 v0_1) (y := (Qzt p0 (i0 + 1) (v0_1 ++ [(Qba x0)]), Qlj p0 (i0 + 1) (v0_1 ++ [(Qba x0)]))) [hB 0 hc0, hP 0 (Q1j 5 (PodTerm.rows p0) i0 _ (PodTerm.Qc hx0) rfl), hV 8 [(644, Val.rows (v0_1 ++ [(Qba x0)]))] (Q3z 1 580 644 5 80 0 0 true (Val.rows v0_1) (Val.rows (v0_1 ++ [(Qba x0)])) (Val.cells (Qba x0)) (List.length v0_1) (List.length (v0_1 ++ [(Qba x0)])) rfl (Val.Q5 v0_1).symm (Val.Q5 (v0_1 ++ [(Qba x0)])).symm (Val.Q14 v0_1 (Qba x0)) (Val.Qm v0_1) rfl (by omega)), hS 0 true (Val.Q9 (v0_1 ++ [(Qba x0)]) 5 rfl), hP 1 (Q22 i0 (by omega))] [aN (Q1vd x0 (H.2.1 x0 (Q2a hx0)))] (by kernel_rfl) hr
theorem Qz7 (p0 : List PodTerm) (H : Qij p0) : ∀ (r0 : List PodTerm) (i0 : Nat) (v0_1 : List Val), List.drop i0 p0 = r0 → List.length v0_1 ≤ i0 → Qg9 p0 (Qgp p0 i0 v0_1) (Q4e p0 r0 i0 v0_1)
 | [], i0, v0_1, hd, ho0_0 => by
  have hc0 : (decide ((i0 : Int) < ((List.length p0) : Int))) = false := by have := Q19 hd; simp; omega
  rw [Q4e]
  exact Q1cu p0 H i0 v0_1 ho0_0 hc0
 | x0 :: r0, i0, v0_1, hd, ho0_0 => by
  obtain ⟨hx0, hi0, hd'⟩ := Q11 hd
  have hc0 : (decide ((i0 : Int) < ((List.length p0) : Int))) = true := by simp; omega
  rw [Q4e]
  exact Qwu p0 (fun r hr => Q1b7 p0 H x0 i0 v0_1 hx0 hi0 ho0_0 hc0 hr) _ (Qz7 p0 H r0 (i0 + 1) (v0_1 ++ [(Qba x0)]) hd' (by first | omega | (simp; omega)))
def Q65 (p0 : List PodTerm) : Val := vL (p0.map PodTerm.enc)
theorem Q1b4 (p0 : List PodTerm) : Q65 p0 = ((Qcu (Q4e p0 p0 0 []))) := by
  rw [Qvh]
  rfl
def Q1a2 (p0 : List PodTerm) : En := .call 114 [.sl (PodTerm.rows p0), .fn 115 [] []] []
def Qql (p0 : List PodTerm) : Rs := .ret (.agg (Val.cells (Q65 p0))) []
def Qeg (p0 : List PodTerm) : Prop := LSm PodTerm.sm p0
theorem Qbu (p0 : List PodTerm) (H : Qeg p0) : (Qij p0) ∧ (Qem (Q4e p0 p0 0 [])) ∧ True := by
  refine ⟨⟨Nat.le_trans H.1 (Nat.le_of_ble_eq_true rfl), H.2, trivial⟩, ⟨?_, trivial⟩, trivial⟩
  rw [Qvh]
  exact Q32 (fun _ h => PodTerm.Q1y h) H
theorem Q188 (p0 : List PodTerm) (H : Qeg p0) : Q7 G (Q1a2 p0) (Qql p0) := by
 unfold Qql
 rw [Q1b4]
 have hl0 := Qz7 p0 ((Qbu p0 H).1) p0 0 [] (by simp) (by simp)
 obtain ⟨z0, zo0, hl0⟩ := hl0
 exact Q8 (fn := Ir.K1w) rfl VOK.nil [hP 3 (Qh (PodTerm.rows p0) (List.length p0) (PodTerm.Q5 p0)), hS 0 true (Val.Q9 (Q4e p0 p0 0 []) 5 rfl), hQ (Val.Q5 (Q4e p0 p0 0 [])).symm] [aV [(1, Val.rows (Q4e p0 p0 0 []))] hl0, aN (Qfh (Q4e p0 p0 0 []) (Qbu p0 H).2.1)] (by kernel_rfl)
def Qbp (p0 : SpreadRule) : Val := SpreadRule.enc p0
theorem Q1wn (p0 : SpreadRule) : Qbp p0 = ((Q6d ([(Qe Q1i (Qz p0.maxSkew)), (Qe Qa (Q2v p0.required)), (Qe Qb (Q2f p0.selector)), (Qe Ql (Q20 p0.topology))]))) := by
  exact Eq.symm (Q3q (by exact Nat.le_of_ble_eq_true rfl) (by kernel_rfl))
def Q1un (p0 : SpreadRule) : En := .call 117 [.agg (SpreadRule.cells p0)] []
def Q1pd (p0 : SpreadRule) : Rs := .ret (.agg (Val.cells (Qbp p0))) []
def Q1lo (p0 : SpreadRule) : Prop := SpreadRule.sm p0
theorem Q14l (p0 : SpreadRule) (H : Q1lo p0) : (Q6t p0.selector) ∧ (Q8y ([(Qe Q1i (Qz p0.maxSkew)), (Qe Qa (Q2v p0.required)), (Qe Qb (Q2f p0.selector)), (Qe Ql (Q20 p0.topology))])) ∧ True := by
  repeat' with_reducible apply And.intro
  all_goals first | exact True.intro | exact H | exact H.1 | exact H.2.1 | exact H.2.2.1 | exact H.2.2.2.1 | exact H.2.2.2.2.1 | exact H.2.2.2.2.2.1 | exact H.2.2.2.2.2.2.1 | exact H.2.2.2.2.2.2.2.1 | exact H.2.2.2.2.2.2.2.2.1 | exact H.2.2.2.2.2.2.2.2.2.1 | exact H.2.2.2.2.2.2.2.2.2.2.1 | exact Q9y (by exact Nat.le_of_ble_eq_true rfl) (SpreadRule.Q1y H).all.2.2.2
theorem Q1x0 (p0 : SpreadRule) (H : Q1lo p0) : Q7 G (Q1un p0) (Q1pd p0) := by
 unfold Q1pd
 rw [Q1wn]
 exact Q8 (fn := Ir.K1n) rfl VOK.nil [] [aN (Q5m p0.maxSkew), aN (Q2d Q1i (Qz p0.maxSkew)), aN (Qfc p0.required), aN (Q2d Qa (Q2v p0.required)), aN (Qa7 p0.selector (Q14l p0 H).1), aN (Q2d Qb (Q2f p0.selector)), aN (Q9x p0.topology), aN (Q2d Ql (Q20 p0.topology)), aN (Q49 (e' := .call 61 [.sl [(Fld.cells (Qe Q1i (Qz p0.maxSkew))), (Fld.cells (Qe Qa (Q2v p0.required))), (Fld.cells (Qe Qb (Q2f p0.selector))), (Fld.cells (Qe Ql (Q20 p0.topology)))]] []) (Q99 ([(Qe Q1i (Qz p0.maxSkew)), (Qe Qa (Q2v p0.required)), (Qe Qb (Q2f p0.selector)), (Qe Ql (Q20 p0.topology))]) (Q14l p0 H).2.1) (by simp only [Q95, Fld.Q21, Fld.Q2m]))] (by kernel_rfl)
def Q47 (p0 : List SpreadRule) : List SpreadRule → Nat → (List Val) → List Val
 | [], _i0, v0_1 =>
  v0_1
 | x0 :: r0, i0, v0_1 =>
  Q47 p0 r0 (i0 + 1) (v0_1 ++ [(Qbp x0)])
theorem Quq (p0 : List SpreadRule) : ∀ (l : List SpreadRule) (i : Nat) (a : List Val), Q47 p0 l i a = a ++ l.map (fun x0 => (Qbp x0))
  | [], _, _ => by simp [Q47]
  | x :: r, i, a => by rw [Q47, Quq p0 r]; simp
def Qz1 (p0 : List SpreadRule) (i0 : Nat) (v0_1 : List Val) : List PV :=
  [.un, .fn 117 [] [], .un, .un, .bx 0 0, .ms 1 5 0 (List.length v0_1), .un, .un, .sl (SpreadRule.rows p0), .int .i64 ((List.length p0) : Int), .int .i64 (i0 : Int)] ++ nuns 12
def Qmj (_p0 : List SpreadRule) (_i0 : Nat) (v0_1 : List Val) : List Ob :=
  [⟨5, 0, true, [.int .i64 0, .int .i64 0, .str eB, .ms 2 5 0 0, .ms 3 6 0 0]⟩, ⟨5, 0, true, (Val.rows v0_1).flatten⟩, ⟨5, 0, true, []⟩, ⟨6, 0, true, []⟩]
def Qio (p0 : List SpreadRule) (i0 : Nat) (v0_1 : List Val) : En := .loop 0 Ir.Ql3 Ir.Q1jl (Qz1 p0 i0 v0_1) (Qmj p0 i0 v0_1)
def Qta (_p0 : List SpreadRule) (q0 : List Val) (z : Nat → PV) (_zo : Nat → List PV) : St :=
  ⟨[z 0, z 1, z 2, z 3, .bx 0 0, .ms 1 5 0 (List.length q0)] ++ zr z 6 17, [(0, ⟨5, 0, true, [.int .i64 0, .int .i64 0, .str eB, .ms 2 5 0 0, .ms 3 6 0 0]⟩), (1, ⟨5, 0, true, (Val.rows q0).flatten⟩), (2, ⟨5, 0, true, []⟩), (3, ⟨6, 0, true, []⟩)], 68⟩
theorem Q176 (p0 : List SpreadRule) (i0 : Nat) (v0_1 : List Val) : VOK (Go.Pv.look (number 0 (Qmj p0 i0 v0_1))) [(1, Val.rows v0_1)] := (VOK.cons (show Seen _ _ from Q3g (ob := ⟨5, 0, true, (Val.rows v0_1).flatten⟩) (Val.Q9 v0_1 5 rfl)) VOK.nil)
def Qhe (p0 : List SpreadRule) (e : En) (q : List Val) : Prop := ∃ z zo, Q7 G e (.st (.exit 0) (Qta p0 q z zo))
theorem Qvx (p0 : List SpreadRule) {e e' : En} (h : ∀ r, Q7 G e r → Q7 G e' r) : ∀ q, Qhe p0 e q → Qhe p0 e' q
  | _, ⟨z, zo, hz⟩ => ⟨z, zo, h _ hz⟩
def Qhp (p0 : List SpreadRule) : Prop := (List.length p0 ≤ 137438953472) ∧ (∀ x0 ∈ p0, Q1lo x0) ∧ True
def Qt1 (p0 : List SpreadRule) (i0 : Nat) (_v0_1 : List Val) : List PV :=
  [.un, .fn 117 [] []] ++ nuns 6 ++ [.sl (SpreadRule.rows p0), .int .i64 ((List.length p0) : Int), .int .i64 (i0 : Int), .bool false]
def Qos (_p0 : List SpreadRule) (_i0 : Nat) (_v0_1 : List Val) : List (Nat × List PV) :=
  []
theorem Q1an (p0 : List SpreadRule) (_H : Qhp p0) (i0 : Nat) (v0_1 : List Val) (_ho0_0 : List.length v0_1 ≤ i0) (hc0 : (decide ((i0 : Int) < ((List.length p0) : Int))) = false) : Qhe p0 (Qio p0 i0 v0_1) v0_1 := by
 exact ⟨(envF (Qt1 p0 i0 v0_1)), (zoF (Qos p0 i0 v0_1)), Qg (Q176 p0 i0 v0_1) (x := ((.exit 0), Qta p0 v0_1 (envF (Qt1 p0 i0 v0_1)) (zoF (Qos p0 i0 v0_1)))) [hB 0 hc0] [] (by kernel_rfl)⟩
theorem Q183 (p0 : List SpreadRule) (H : Qhp p0) (x0 : SpreadRule) (i0 : Nat) (v0_1 : List Val) (hx0 : p0[i0]? = some x0) (hi0 : i0 < List.length p0) (ho0_0 : List.length v0_1 ≤ i0) (hc0 : (decide ((i0 : Int) < ((List.length p0) : Int))) = true) {r : Rs} (hr : Q7 G (Qio p0 (i0 + 1) (v0_1 ++ [(Qbp x0)])) r) : Q7 G (Qio p0 i0 v0_1) r := by
 have hB0 := H.1
 exact Qk (Q176 p0 i0 v0_1) (y := (Qz1 p0 (i0 + 1) (v0_1 ++ [(Qbp x0)]), Qmj p0 (i0 + 1) (v0_1 ++ [(Qbp x0)]))) [hB 0 hc0, hP 0 (Q1j 4 (SpreadRule.rows p0) i0 _ (SpreadRule.Qc hx0) rfl), hV 8 [(644, Val.rows (v0_1 ++ [(Qbp x0)]))] (Q3z 1 580 644 5 80 0 0 true (Val.rows v0_1) (Val.rows (v0_1 ++ [(Qbp x0)])) (Val.cells (Qbp x0)) (List.length v0_1) (List.length (v0_1 ++ [(Qbp x0)])) rfl (Val.Q5 v0_1).symm (Val.Q5 (v0_1 ++ [(Qbp x0)])).symm (Val.Q14 v0_1 (Qbp x0)) (Val.Qm v0_1) rfl (by omega)), hS 0 true (Val.Q9 (v0_1 ++ [(Qbp x0)]) 5 rfl), hP 1 (Q22 i0 (by omega))] [aN (Q1x0 x0 (H.2.1 x0 (Q2a hx0)))] (by kernel_rfl) hr
theorem Qzb (p0 : List SpreadRule) (H : Qhp p0) : ∀ (r0 : List SpreadRule) (i0 : Nat) (v0_1 : List Val), List.drop i0 p0 = r0 → List.length v0_1 ≤ i0 → Qhe p0 (Qio p0 i0 v0_1) (Q47 p0 r0 i0 v0_1)
 | [], i0, v0_1, hd, ho0_0 => by
  have hc0 : (decide ((i0 : Int) < ((List.length p0) : Int))) = false := by have := Q19 hd; simp; omega
  rw [Q47]
  exact Q1an p0 H i0 v0_1 ho0_0 hc0
 | x0 :: r0, i0, v0_1, hd, ho0_0 => by
  obtain ⟨hx0, hi0, hd'⟩ := Q11 hd
  have hc0 : (decide ((i0 : Int) < ((List.length p0) : Int))) = true := by simp; omega
  rw [Q47]
  exact Qvx p0 (fun r hr => Q183 p0 H x0 i0 v0_1 hx0 hi0 ho0_0 hc0 hr) _ (Qzb p0 H r0 (i0 + 1) (v0_1 ++ [(Qbp x0)]) hd' (by first | omega | (simp; omega)))
def Q63 (p0 : List SpreadRule) : Val := vL (p0.map SpreadRule.enc)
theorem Q195 (p0 : List SpreadRule) : Q63 p0 = ((Qcu (Q47 p0 p0 0 []))) := by
  rw [Quq]
  rfl
def Q1bv (p0 : List SpreadRule) : En := .call 116 [.sl (SpreadRule.rows p0), .fn 117 [] []] []
def Qq3 (p0 : List SpreadRule) : Rs := .ret (.agg (Val.cells (Q63 p0))) []
def Qdo (p0 : List SpreadRule) : Prop := LSm SpreadRule.sm p0
theorem Qca (p0 : List SpreadRule) (H : Qdo p0) : (Qhp p0) ∧ (Qem (Q47 p0 p0 0 [])) ∧ True := by
  refine ⟨⟨Nat.le_trans H.1 (Nat.le_of_ble_eq_true rfl), H.2, trivial⟩, ⟨?_, trivial⟩, trivial⟩
  rw [Quq]
  exact Q32 (fun _ h => SpreadRule.Q1y h) H
theorem Q192 (p0 : List SpreadRule) (H : Qdo p0) : Q7 G (Q1bv p0) (Qq3 p0) := by
 unfold Qq3
 rw [Q195]
 have hl0 := Qzb p0 ((Qca p0 H).1) p0 0 [] (by simp) (by simp)
 obtain ⟨z0, zo0, hl0⟩ := hl0
 exact Q8 (fn := Ir.K1x) rfl VOK.nil [hP 3 (Qh (SpreadRule.rows p0) (List.length p0) (SpreadRule.Q5 p0)), hS 0 true (Val.Q9 (Q47 p0 p0 0 []) 5 rfl), hQ (Val.Q5 (Q47 p0 p0 0 [])).symm] [aV [(1, Val.rows (Q47 p0 p0 0 []))] hl0, aN (Qfh (Q47 p0 p0 0 []) (Qca p0 H).2.1)] (by kernel_rfl)
def Qbh (p0 : Toleration) : Val := Toleration.enc p0
theorem Q1wb (p0 : Toleration) : Qbh p0 = ((Q6d ([(Qe Qu (Qz p0.effect)), (Qe Q1v (Q2v p0.exists_)), (Qe Qs (Q20 p0.key)), (Qe Q1r (Qz p0.seconds)), (Qe Qn (Q20 p0.value))]))) := by
  exact Eq.symm (Q3q (by exact Nat.le_of_ble_eq_true rfl) (by kernel_rfl))
def Q1xd (p0 : Toleration) : En := .call 119 [.agg (Toleration.cells p0)] []
def Q1na (p0 : Toleration) : Rs := .ret (.agg (Val.cells (Qbh p0))) []
def Q1lr (p0 : Toleration) : Prop := Toleration.sm p0
theorem Q1hx (p0 : Toleration) (H : Q1lr p0) : (Q8y ([(Qe Qu (Qz p0.effect)), (Qe Q1v (Q2v p0.exists_)), (Qe Qs (Q20 p0.key)), (Qe Q1r (Qz p0.seconds)), (Qe Qn (Q20 p0.value))])) ∧ True := by
  repeat' with_reducible apply And.intro
  all_goals first | exact True.intro | exact H | exact H.1 | exact H.2.1 | exact H.2.2.1 | exact H.2.2.2.1 | exact H.2.2.2.2.1 | exact H.2.2.2.2.2.1 | exact H.2.2.2.2.2.2.1 | exact H.2.2.2.2.2.2.2.1 | exact H.2.2.2.2.2.2.2.2.1 | exact H.2.2.2.2.2.2.2.2.2.1 | exact H.2.2.2.2.2.2.2.2.2.2.1 | exact Q9y (by exact Nat.le_of_ble_eq_true rfl) (Toleration.Q1y H).all.2.2.2
theorem Q1x9 (p0 : Toleration) (H : Q1lr p0) : Q7 G (Q1xd p0) (Q1na p0) := by
 unfold Q1na
 rw [Q1wb]
 exact Q8 (fn := Ir.K1q) rfl VOK.nil [] [aN (Q5m p0.effect), aN (Q2d Qu (Qz p0.effect)), aN (Qfc p0.exists_), aN (Q2d Q1v (Q2v p0.exists_)), aN (Q9x p0.key), aN (Q2d Qs (Q20 p0.key)), aN (Q5m p0.seconds), aN (Q2d Q1r (Qz p0.seconds)), aN (Q9x p0.value), aN (Q2d Qn (Q20 p0.value)), aN (Q49 (e' := .call 61 [.sl [(Fld.cells (Qe Qu (Qz p0.effect))), (Fld.cells (Qe Q1v (Q2v p0.exists_))), (Fld.cells (Qe Qs (Q20 p0.key))), (Fld.cells (Qe Q1r (Qz p0.seconds))), (Fld.cells (Qe Qn (Q20 p0.value)))]] []) (Q99 ([(Qe Qu (Qz p0.effect)), (Qe Q1v (Q2v p0.exists_)), (Qe Qs (Q20 p0.key)), (Qe Q1r (Qz p0.seconds)), (Qe Qn (Q20 p0.value))]) (Q1hx p0 H).1) (by simp only [Q95, Fld.Q21, Fld.Q2m]))] (by kernel_rfl)
def Q4c (p0 : List Toleration) : List Toleration → Nat → (List Val) → List Val
 | [], _i0, v0_1 =>
  v0_1
 | x0 :: r0, i0, v0_1 =>
  Q4c p0 r0 (i0 + 1) (v0_1 ++ [(Qbh x0)])
theorem Qu1 (p0 : List Toleration) : ∀ (l : List Toleration) (i : Nat) (a : List Val), Q4c p0 l i a = a ++ l.map (fun x0 => (Qbh x0))
  | [], _, _ => by simp [Q4c]
  | x :: r, i, a => by rw [Q4c, Qu1 p0 r]; simp
def Qxg (p0 : List Toleration) (i0 : Nat) (v0_1 : List Val) : List PV :=
  [.un, .fn 119 [] [], .un, .un, .bx 0 0, .ms 1 5 0 (List.length v0_1), .un, .un, .sl (Toleration.rows p0), .int .i64 ((List.length p0) : Int), .int .i64 (i0 : Int)] ++ nuns 12
def Ql0 (_p0 : List Toleration) (_i0 : Nat) (v0_1 : List Val) : List Ob :=
  [⟨5, 0, true, [.int .i64 0, .int .i64 0, .str eB, .ms 2 5 0 0, .ms 3 6 0 0]⟩, ⟨5, 0, true, (Val.rows v0_1).flatten⟩, ⟨5, 0, true, []⟩, ⟨6, 0, true, []⟩]
def Qgf (p0 : List Toleration) (i0 : Nat) (v0_1 : List Val) : En := .loop 0 Ir.Qmf Ir.Q1jn (Qxg p0 i0 v0_1) (Ql0 p0 i0 v0_1)
def Qrb (_p0 : List Toleration) (q0 : List Val) (z : Nat → PV) (_zo : Nat → List PV) : St :=
  ⟨[z 0, z 1, z 2, z 3, .bx 0 0, .ms 1 5 0 (List.length q0)] ++ zr z 6 17, [(0, ⟨5, 0, true, [.int .i64 0, .int .i64 0, .str eB, .ms 2 5 0 0, .ms 3 6 0 0]⟩), (1, ⟨5, 0, true, (Val.rows q0).flatten⟩), (2, ⟨5, 0, true, []⟩), (3, ⟨6, 0, true, []⟩)], 68⟩
theorem Q16w (p0 : List Toleration) (i0 : Nat) (v0_1 : List Val) : VOK (Go.Pv.look (number 0 (Ql0 p0 i0 v0_1))) [(1, Val.rows v0_1)] := (VOK.cons (show Seen _ _ from Q3g (ob := ⟨5, 0, true, (Val.rows v0_1).flatten⟩) (Val.Q9 v0_1 5 rfl)) VOK.nil)
def Qh5 (p0 : List Toleration) (e : En) (q : List Val) : Prop := ∃ z zo, Q7 G e (.st (.exit 0) (Qrb p0 q z zo))
theorem Qu7 (p0 : List Toleration) {e e' : En} (h : ∀ r, Q7 G e r → Q7 G e' r) : ∀ q, Qh5 p0 e q → Qh5 p0 e' q
  | _, ⟨z, zo, hz⟩ => ⟨z, zo, h _ hz⟩
def Qid (p0 : List Toleration) : Prop := (List.length p0 ≤ 137438953472) ∧ (∀ x0 ∈ p0, Q1lr x0) ∧ True
def Qqb (p0 : List Toleration) (i0 : Nat) (_v0_1 : List Val) : List PV :=
  [.un, .fn 119 [] []] ++ nuns 6 ++ [.sl (Toleration.rows p0), .int .i64 ((List.length p0) : Int), .int .i64 (i0 : Int), .bool false]
def Qoi (_p0 : List Toleration) (_i0 : Nat) (_v0_1 : List Val) : List (Nat × List PV) :=
  []
theorem Q1ap (p0 : List Toleration) (_H : Qid p0) (i0 : Nat) (v0_1 : List Val) (_ho0_0 : List.length v0_1 ≤ i0) (hc0 : (decide ((i0 : Int) < ((List.length p0) : Int))) = false) : Qh5 p0 (Qgf p0 i0 v0_1) v0_1 := by
 exact ⟨(envF (Qqb p0 i0 v0_1)), (zoF (Qoi p0 i0 v0_1)), Qg (Q16w p0 i0 v0_1) (x := ((.exit 0), Qrb p0 v0_1 (envF (Qqb p0 i0 v0_1)) (zoF (Qoi p0 i0 v0_1)))) [hB 0 hc0] [] (by kernel_rfl)⟩
theorem Q1ct (p0 : List Toleration) (H : Qid p0) (x0 : Toleration) (i0 : Nat) (v0_1 : List Val) (hx0 : p0[i0]? = some x0) (hi0 : i0 < List.length p0) (ho0_0 : List.length v0_1 ≤ i0) (hc0 : (decide ((i0 : Int) < ((List.length p0) : Int))) = true) {r : Rs} (hr : Q7 G (Qgf p0 (i0 + 1) (v0_1 ++ [(Qbh x0)])) r) : Q7 G (Qgf p0 i0 v0_1) r := by
 have hB0 := H.1
 exact Qk (Q16w p0 i0 v0_1) (y := (Qxg p0 (i0 + 1) (v0_1 ++ [(Qbh x0)]), Ql0 p0 (i0 + 1) (v0_1 ++ [(Qbh x0)]))) [hB 0 hc0, hP 0 (Q1j 5 (Toleration.rows p0) i0 _ (Toleration.Qc hx0) rfl), hV 8 [(644, Val.rows (v0_1 ++ [(Qbh x0)]))] (Q3z 1 580 644 5 80 0 0 true (Val.rows v0_1) (Val.rows (v0_1 ++ [(Qbh x0)])) (Val.cells (Qbh x0)) (List.length v0_1) (List.length (v0_1 ++ [(Qbh x0)])) rfl (Val.Q5 v0_1).symm (Val.Q5 (v0_1 ++ [(Qbh x0)])).symm (Val.Q14 v0_1 (Qbh x0)) (Val.Qm v0_1) rfl (by omega)), hS 0 true (Val.Q9 (v0_1 ++ [(Qbh x0)]) 5 rfl), hP 1 (Q22 i0 (by omega))] [aN (Q1x9 x0 (H.2.1 x0 (Q2a hx0)))] (by kernel_rfl) hr
theorem Qzq (p0 : List Toleration) (H : Qid p0) : ∀ (r0 : List Toleration) (i0 : Nat) (v0_1 : List Val), List.drop i0 p0 = r0 → List.length v0_1 ≤ i0 → Qh5 p0 (Qgf p0 i0 v0_1) (Q4c p0 r0 i0 v0_1)
 | [], i0, v0_1, hd, ho0_0 => by
  have hc0 : (decide ((i0 : Int) < ((List.length p0) : Int))) = false := by have := Q19 hd; simp; omega
  rw [Q4c]
  exact Q1ap p0 H i0 v0_1 ho0_0 hc0
 | x0 :: r0, i0, v0_1, hd, ho0_0 => by
  obtain ⟨hx0, hi0, hd'⟩ := Q11 hd
  have hc0 : (decide ((i0 : Int) < ((List.length p0) : Int))) = true := by simp; omega
  rw [Q4c]
  exact Qu7 p0 (fun r hr => Q1ct p0 H x0 i0 v0_1 hx0 hi0 ho0_0 hc0 hr) _ (Qzq p0 H r0 (i0 + 1) (v0_1 ++ [(Qbh x0)]) hd' (by first | omega | (simp; omega)))
def Q60 (p0 : List Toleration) : Val := vL (p0.map Toleration.enc)
theorem Q1cn (p0 : List Toleration) : Q60 p0 = ((Qcu (Q4c p0 p0 0 []))) := by
  rw [Qu1]
  rfl
def Q1cb (p0 : List Toleration) : En := .call 118 [.sl (Toleration.rows p0), .fn 119 [] []] []
def Qt0 (p0 : List Toleration) : Rs := .ret (.agg (Val.cells (Q60 p0))) []
def Qe0 (p0 : List Toleration) : Prop := LSm Toleration.sm p0
theorem Qbt (p0 : List Toleration) (H : Qe0 p0) : (Qid p0) ∧ (Qem (Q4c p0 p0 0 [])) ∧ True := by
  refine ⟨⟨Nat.le_trans H.1 (Nat.le_of_ble_eq_true rfl), H.2, trivial⟩, ⟨?_, trivial⟩, trivial⟩
  rw [Qu1]
  exact Q32 (fun _ h => Toleration.Q1y h) H
theorem Q1cd (p0 : List Toleration) (H : Qe0 p0) : Q7 G (Q1cb p0) (Qt0 p0) := by
 unfold Qt0
 rw [Q1cn]
 have hl0 := Qzq p0 ((Qbt p0 H).1) p0 0 [] (by simp) (by simp)
 obtain ⟨z0, zo0, hl0⟩ := hl0
 exact Q8 (fn := Ir.K1y) rfl VOK.nil [hP 3 (Qh (Toleration.rows p0) (List.length p0) (Toleration.Q5 p0)), hS 0 true (Val.Q9 (Q4c p0 p0 0 []) 5 rfl), hQ (Val.Q5 (Q4c p0 p0 0 [])).symm] [aV [(1, Val.rows (Q4c p0 p0 0 []))] hl0, aN (Qfh (Q4c p0 p0 0 []) (Qbt p0 H).2.1)] (by kernel_rfl)
def Qyf (p0 : PodSpec) : Val := PodSpec.enc p0
theorem Q1sq (p0 : PodSpec) : Qyf p0 = ((Q6d ([(Qe Qt (Q66 p0.containers)), (Qe Q3j (Qz p0.grace)), (Qe Q3e (Q20 p0.node)), (Qe Q12 (Q2f p0.nodeSelector)), (Qe Q1n (Q5w p0.nodeTerms)), (Qe Q28 (Q65 p0.podTerms)), (Qe Q23 (Qz p0.priority)), (Qe Q2j (Qz p0.restart)), (Qe Q30 (Q63 p0.spread)), (Qe Q1x (Q60 p0.tolerations))]))) := by
  exact Eq.symm (Q3q (by exact Nat.le_of_ble_eq_true rfl) (by kernel_rfl))
def Q1sg (p0 : PodSpec) : En := .call 56 [.agg (PodSpec.cells p0)] []
def Q1o6 (p0 : PodSpec) : Rs := .ret (.agg (Val.cells (Qyf p0))) []
def Q1id (p0 : PodSpec) : Prop := PodSpec.sm p0
theorem Q91 (p0 : PodSpec) (H : Q1id p0) : (Qe7 p0.containers) ∧ (Q6t p0.nodeSelector) ∧ (Qej p0.nodeTerms) ∧ (Qeg p0.podTerms) ∧ (Qdo p0.spread) ∧ (Qe0 p0.tolerations) ∧ (Q8y ([(Qe Qt (Q66 p0.containers)), (Qe Q3j (Qz p0.grace)), (Qe Q3e (Q20 p0.node)), (Qe Q12 (Q2f p0.nodeSelector)), (Qe Q1n (Q5w p0.nodeTerms)), (Qe Q28 (Q65 p0.podTerms)), (Qe Q23 (Qz p0.priority)), (Qe Q2j (Qz p0.restart)), (Qe Q30 (Q63 p0.spread)), (Qe Q1x (Q60 p0.tolerations))])) ∧ True := by
  repeat' with_reducible apply And.intro
  all_goals first | exact True.intro | exact H | exact H.1 | exact H.2.1 | exact H.2.2.1 | exact H.2.2.2.1 | exact H.2.2.2.2.1 | exact H.2.2.2.2.2.1 | exact H.2.2.2.2.2.2.1 | exact H.2.2.2.2.2.2.2.1 | exact H.2.2.2.2.2.2.2.2.1 | exact H.2.2.2.2.2.2.2.2.2.1 | exact H.2.2.2.2.2.2.2.2.2.2.1 | exact Q9y (by exact Nat.le_of_ble_eq_true rfl) (PodSpec.Q1y H).all.2.2.2
theorem Q1q6 (p0 : PodSpec) (H : Q1id p0) : Q7 G (Q1sg p0) (Q1o6 p0) := by
 unfold Q1o6
 rw [Q1sq]
 exact Q8 (fn := Ir.K1m) rfl VOK.nil [] [aN (Q1c1 p0.containers (Q91 p0 H).1), aN (Q2d Qt (Q66 p0.containers)), aN (Q5m p0.grace), aN (Q2d Q3j (Qz p0.grace)), aN (Q9x p0.node), aN (Q2d Q3e (Q20 p0.node)), aN (Qa7 p0.nodeSelector (Q91 p0 H).2.1), aN (Q2d Q12 (Q2f p0.nodeSelector)), aN (Q1br p0.nodeTerms (Q91 p0 H).2.2.1), aN (Q2d Q1n (Q5w p0.nodeTerms)), aN (Q188 p0.podTerms (Q91 p0 H).2.2.2.1), aN (Q2d Q28 (Q65 p0.podTerms)), aN (Q5m p0.priority), aN (Q2d Q23 (Qz p0.priority)), aN (Q5m p0.restart), aN (Q2d Q2j (Qz p0.restart)), aN (Q192 p0.spread (Q91 p0 H).2.2.2.2.1), aN (Q2d Q30 (Q63 p0.spread)), aN (Q1cd p0.tolerations (Q91 p0 H).2.2.2.2.2.1), aN (Q2d Q1x (Q60 p0.tolerations)), aN (Q49 (e' := .call 61 [.sl [(Fld.cells (Qe Qt (Q66 p0.containers))), (Fld.cells (Qe Q3j (Qz p0.grace))), (Fld.cells (Qe Q3e (Q20 p0.node))), (Fld.cells (Qe Q12 (Q2f p0.nodeSelector))), (Fld.cells (Qe Q1n (Q5w p0.nodeTerms))), (Fld.cells (Qe Q28 (Q65 p0.podTerms))), (Fld.cells (Qe Q23 (Qz p0.priority))), (Fld.cells (Qe Q2j (Qz p0.restart))), (Fld.cells (Qe Q30 (Q63 p0.spread))), (Fld.cells (Qe Q1x (Q60 p0.tolerations)))]] []) (Q99 ([(Qe Qt (Q66 p0.containers)), (Qe Q3j (Qz p0.grace)), (Qe Q3e (Q20 p0.node)), (Qe Q12 (Q2f p0.nodeSelector)), (Qe Q1n (Q5w p0.nodeTerms)), (Qe Q28 (Q65 p0.podTerms)), (Qe Q23 (Qz p0.priority)), (Qe Q2j (Qz p0.restart)), (Qe Q30 (Q63 p0.spread)), (Qe Q1x (Q60 p0.tolerations))]) (Q91 p0 H).2.2.2.2.2.2.1) (by simp only [Q95, Fld.Q21, Fld.Q2m]))] (by kernel_rfl)
def s_Kb (p0 : Template) : Val := Template.enc p0
theorem e_Kb (p0 : Template) : s_Kb p0 = ((Q6d ([(Qe Q1s (Q6y p0.labels)), (Qe Q2r (Qyf p0.spec))]))) := by
  exact Eq.symm (Q3q (by exact Nat.le_of_ble_eq_true rfl) (by kernel_rfl))
def c_Kb (p0 : Template) : En := .call 28 [.agg (Template.cells p0)] []
def a_Kb (p0 : Template) : Rs := .ret (.agg (Val.cells (s_Kb p0))) []
def H_Kb (p0 : Template) : Prop := Template.sm p0
theorem Q12g (p0 : Template) (H : H_Kb p0) : (Qiz p0.labels) ∧ (Q1id p0.spec) ∧ (Q8y ([(Qe Q1s (Q6y p0.labels)), (Qe Q2r (Qyf p0.spec))])) ∧ True := by
  repeat' with_reducible apply And.intro
  all_goals first | exact True.intro | exact H | exact H.1 | exact H.2.1 | exact H.2.2.1 | exact H.2.2.2.1 | exact H.2.2.2.2.1 | exact H.2.2.2.2.2.1 | exact H.2.2.2.2.2.2.1 | exact H.2.2.2.2.2.2.2.1 | exact H.2.2.2.2.2.2.2.2.1 | exact H.2.2.2.2.2.2.2.2.2.1 | exact H.2.2.2.2.2.2.2.2.2.2.1 | exact Q9y (by exact Nat.le_of_ble_eq_true rfl) (Template.Q1y H).all.2.2.2
theorem t_Kb (p0 : Template) (H : H_Kb p0) : Q7 G (c_Kb p0) (a_Kb p0) := by
 unfold a_Kb
 rw [e_Kb]
 exact Q8 (fn := Ir.Kb) rfl VOK.nil [] [aN (Q1d1 p0.labels (Q12g p0 H).1), aN (Q2d Q1s (Q6y p0.labels)), aN (Q1q6 p0.spec (Q12g p0 H).2.1), aN (Q2d Q2r (Qyf p0.spec)), aN (Q49 (e' := .call 61 [.sl [(Fld.cells (Qe Q1s (Q6y p0.labels))), (Fld.cells (Qe Q2r (Qyf p0.spec)))]] []) (Q99 ([(Qe Q1s (Q6y p0.labels)), (Qe Q2r (Qyf p0.spec))]) (Q12g p0 H).2.2.1) (by simp only [Q95, Fld.Q21, Fld.Q2m]))] (by kernel_rfl)
def Qbo (p0 : ContainerStatus) : Val := ContainerStatus.enc p0
theorem Q1we (p0 : ContainerStatus) : Qbo p0 = ((Q6d ([(Qe Q18 (Qz p0.exitCode)), (Qe Qp (Q20 p0.name)), (Qe Qi (Q2v p0.ready)), (Qe Q16 (Qz p0.restarts)), (Qe Q10 (Qz p0.since)), (Qe Qx (Q2v p0.started)), (Qe Q1w (Qz p0.state))]))) := by
  exact Eq.symm (Q3q (by exact Nat.le_of_ble_eq_true rfl) (by kernel_rfl))
def Q1u3 (p0 : ContainerStatus) : En := .call 121 [.agg (ContainerStatus.cells p0)] []
def Q1pm (p0 : ContainerStatus) : Rs := .ret (.agg (Val.cells (Qbo p0))) []
def Q1n3 (p0 : ContainerStatus) : Prop := ContainerStatus.sm p0
theorem Q1ia (p0 : ContainerStatus) (H : Q1n3 p0) : (Q8y ([(Qe Q18 (Qz p0.exitCode)), (Qe Qp (Q20 p0.name)), (Qe Qi (Q2v p0.ready)), (Qe Q16 (Qz p0.restarts)), (Qe Q10 (Qz p0.since)), (Qe Qx (Q2v p0.started)), (Qe Q1w (Qz p0.state))])) ∧ True := by
  repeat' with_reducible apply And.intro
  all_goals first | exact True.intro | exact H | exact H.1 | exact H.2.1 | exact H.2.2.1 | exact H.2.2.2.1 | exact H.2.2.2.2.1 | exact H.2.2.2.2.2.1 | exact H.2.2.2.2.2.2.1 | exact H.2.2.2.2.2.2.2.1 | exact H.2.2.2.2.2.2.2.2.1 | exact H.2.2.2.2.2.2.2.2.2.1 | exact H.2.2.2.2.2.2.2.2.2.2.1 | exact Q9y (by exact Nat.le_of_ble_eq_true rfl) (ContainerStatus.Q1y H).all.2.2.2
theorem Q1w2 (p0 : ContainerStatus) (H : Q1n3 p0) : Q7 G (Q1u3 p0) (Q1pm p0) := by
 unfold Q1pm
 rw [Q1we]
 exact Q8 (fn := Ir.K1e) rfl VOK.nil [] [aN (Q5m p0.exitCode), aN (Q2d Q18 (Qz p0.exitCode)), aN (Q9x p0.name), aN (Q2d Qp (Q20 p0.name)), aN (Qfc p0.ready), aN (Q2d Qi (Q2v p0.ready)), aN (Q5m p0.restarts), aN (Q2d Q16 (Qz p0.restarts)), aN (Q5m p0.since), aN (Q2d Q10 (Qz p0.since)), aN (Qfc p0.started), aN (Q2d Qx (Q2v p0.started)), aN (Q5m p0.state), aN (Q2d Q1w (Qz p0.state)), aN (Q49 (e' := .call 61 [.sl [(Fld.cells (Qe Q18 (Qz p0.exitCode))), (Fld.cells (Qe Qp (Q20 p0.name))), (Fld.cells (Qe Qi (Q2v p0.ready))), (Fld.cells (Qe Q16 (Qz p0.restarts))), (Fld.cells (Qe Q10 (Qz p0.since))), (Fld.cells (Qe Qx (Q2v p0.started))), (Fld.cells (Qe Q1w (Qz p0.state)))]] []) (Q99 ([(Qe Q18 (Qz p0.exitCode)), (Qe Qp (Q20 p0.name)), (Qe Qi (Q2v p0.ready)), (Qe Q16 (Qz p0.restarts)), (Qe Q10 (Qz p0.since)), (Qe Qx (Q2v p0.started)), (Qe Q1w (Qz p0.state))]) (Q1ia p0 H).1) (by simp only [Q95, Fld.Q21, Fld.Q2m]))] (by kernel_rfl)
def Q45 (p0 : List ContainerStatus) : List ContainerStatus → Nat → (List Val) → List Val
 | [], _i0, v0_1 =>
  v0_1
 | x0 :: r0, i0, v0_1 =>
  Q45 p0 r0 (i0 + 1) (v0_1 ++ [(Qbo x0)])
theorem Qu6 (p0 : List ContainerStatus) : ∀ (l : List ContainerStatus) (i : Nat) (a : List Val), Q45 p0 l i a = a ++ l.map (fun x0 => (Qbo x0))
  | [], _, _ => by simp [Q45]
  | x :: r, i, a => by rw [Q45, Qu6 p0 r]; simp
def Qxp (p0 : List ContainerStatus) (i0 : Nat) (v0_1 : List Val) : List PV :=
  [.un, .fn 121 [] [], .un, .un, .bx 0 0, .ms 1 5 0 (List.length v0_1), .un, .un, .sl (ContainerStatus.rows p0), .int .i64 ((List.length p0) : Int), .int .i64 (i0 : Int)] ++ nuns 12
def Qm3 (_p0 : List ContainerStatus) (_i0 : Nat) (v0_1 : List Val) : List Ob :=
  [⟨5, 0, true, [.int .i64 0, .int .i64 0, .str eB, .ms 2 5 0 0, .ms 3 6 0 0]⟩, ⟨5, 0, true, (Val.rows v0_1).flatten⟩, ⟨5, 0, true, []⟩, ⟨6, 0, true, []⟩]
def Qip (p0 : List ContainerStatus) (i0 : Nat) (v0_1 : List Val) : En := .loop 0 Ir.Qnz Ir.Q1ka (Qxp p0 i0 v0_1) (Qm3 p0 i0 v0_1)
def Qrd (_p0 : List ContainerStatus) (q0 : List Val) (z : Nat → PV) (_zo : Nat → List PV) : St :=
  ⟨[z 0, z 1, z 2, z 3, .bx 0 0, .ms 1 5 0 (List.length q0)] ++ zr z 6 17, [(0, ⟨5, 0, true, [.int .i64 0, .int .i64 0, .str eB, .ms 2 5 0 0, .ms 3 6 0 0]⟩), (1, ⟨5, 0, true, (Val.rows q0).flatten⟩), (2, ⟨5, 0, true, []⟩), (3, ⟨6, 0, true, []⟩)], 68⟩
theorem Q175 (p0 : List ContainerStatus) (i0 : Nat) (v0_1 : List Val) : VOK (Go.Pv.look (number 0 (Qm3 p0 i0 v0_1))) [(1, Val.rows v0_1)] := (VOK.cons (show Seen _ _ from Q3g (ob := ⟨5, 0, true, (Val.rows v0_1).flatten⟩) (Val.Q9 v0_1 5 rfl)) VOK.nil)
def Qhw (p0 : List ContainerStatus) (e : En) (q : List Val) : Prop := ∃ z zo, Q7 G e (.st (.exit 0) (Qrd p0 q z zo))
theorem Qvv (p0 : List ContainerStatus) {e e' : En} (h : ∀ r, Q7 G e r → Q7 G e' r) : ∀ q, Qhw p0 e q → Qhw p0 e' q
  | _, ⟨z, zo, hz⟩ => ⟨z, zo, h _ hz⟩
def Qie (p0 : List ContainerStatus) : Prop := (List.length p0 ≤ 137438953472) ∧ (∀ x0 ∈ p0, Q1n3 x0) ∧ True
def Qqe (p0 : List ContainerStatus) (i0 : Nat) (_v0_1 : List Val) : List PV :=
  [.un, .fn 121 [] []] ++ nuns 6 ++ [.sl (ContainerStatus.rows p0), .int .i64 ((List.length p0) : Int), .int .i64 (i0 : Int), .bool false]
def Qou (_p0 : List ContainerStatus) (_i0 : Nat) (_v0_1 : List Val) : List (Nat × List PV) :=
  []
theorem Q1a9 (p0 : List ContainerStatus) (_H : Qie p0) (i0 : Nat) (v0_1 : List Val) (_ho0_0 : List.length v0_1 ≤ i0) (hc0 : (decide ((i0 : Int) < ((List.length p0) : Int))) = false) : Qhw p0 (Qip p0 i0 v0_1) v0_1 := by
 exact ⟨(envF (Qqe p0 i0 v0_1)), (zoF (Qou p0 i0 v0_1)), Qg (Q175 p0 i0 v0_1) (x := ((.exit 0), Qrd p0 v0_1 (envF (Qqe p0 i0 v0_1)) (zoF (Qou p0 i0 v0_1)))) [hB 0 hc0] [] (by kernel_rfl)⟩
theorem Q1bg (p0 : List ContainerStatus) (H : Qie p0) (x0 : ContainerStatus) (i0 : Nat) (v0_1 : List Val) (hx0 : p0[i0]? = some x0) (hi0 : i0 < List.length p0) (ho0_0 : List.length v0_1 ≤ i0) (hc0 : (decide ((i0 : Int) < ((List.length p0) : Int))) = true) {r : Rs} (hr : Q7 G (Qip p0 (i0 + 1) (v0_1 ++ [(Qbo x0)])) r) : Q7 G (Qip p0 i0 v0_1) r := by
 have hB0 := H.1
 exact Qk (Q175 p0 i0 v0_1) (y := (Qxp p0 (i0 + 1) (v0_1 ++ [(Qbo x0)]), Qm3 p0 (i0 + 1) (v0_1 ++ [(Qbo x0)]))) [hB 0 hc0, hP 0 (Q1j 7 (ContainerStatus.rows p0) i0 _ (ContainerStatus.Qc hx0) rfl), hV 8 [(644, Val.rows (v0_1 ++ [(Qbo x0)]))] (Q3z 1 580 644 5 80 0 0 true (Val.rows v0_1) (Val.rows (v0_1 ++ [(Qbo x0)])) (Val.cells (Qbo x0)) (List.length v0_1) (List.length (v0_1 ++ [(Qbo x0)])) rfl (Val.Q5 v0_1).symm (Val.Q5 (v0_1 ++ [(Qbo x0)])).symm (Val.Q14 v0_1 (Qbo x0)) (Val.Qm v0_1) rfl (by omega)), hS 0 true (Val.Q9 (v0_1 ++ [(Qbo x0)]) 5 rfl), hP 1 (Q22 i0 (by omega))] [aN (Q1w2 x0 (H.2.1 x0 (Q2a hx0)))] (by kernel_rfl) hr
theorem Qy3 (p0 : List ContainerStatus) (H : Qie p0) : ∀ (r0 : List ContainerStatus) (i0 : Nat) (v0_1 : List Val), List.drop i0 p0 = r0 → List.length v0_1 ≤ i0 → Qhw p0 (Qip p0 i0 v0_1) (Q45 p0 r0 i0 v0_1)
 | [], i0, v0_1, hd, ho0_0 => by
  have hc0 : (decide ((i0 : Int) < ((List.length p0) : Int))) = false := by have := Q19 hd; simp; omega
  rw [Q45]
  exact Q1a9 p0 H i0 v0_1 ho0_0 hc0
 | x0 :: r0, i0, v0_1, hd, ho0_0 => by
  obtain ⟨hx0, hi0, hd'⟩ := Q11 hd
  have hc0 : (decide ((i0 : Int) < ((List.length p0) : Int))) = true := by simp; omega
  rw [Q45]
  exact Qvv p0 (fun r hr => Q1bg p0 H x0 i0 v0_1 hx0 hi0 ho0_0 hc0 hr) _ (Qy3 p0 H r0 (i0 + 1) (v0_1 ++ [(Qbo x0)]) hd' (by first | omega | (simp; omega)))
def Q61 (p0 : List ContainerStatus) : Val := vL (p0.map ContainerStatus.enc)
theorem Q18z (p0 : List ContainerStatus) : Q61 p0 = ((Qcu (Q45 p0 p0 0 []))) := by
  rw [Qu6]
  rfl
def Q19b (p0 : List ContainerStatus) : En := .call 120 [.sl (ContainerStatus.rows p0), .fn 121 [] []] []
def Qq5 (p0 : List ContainerStatus) : Rs := .ret (.agg (Val.cells (Q61 p0))) []
def Qe8 (p0 : List ContainerStatus) : Prop := LSm ContainerStatus.sm p0
theorem Qd1 (p0 : List ContainerStatus) (H : Qe8 p0) : (Qie p0) ∧ (Qem (Q45 p0 p0 0 [])) ∧ True := by
  refine ⟨⟨Nat.le_trans H.1 (Nat.le_of_ble_eq_true rfl), H.2, trivial⟩, ⟨?_, trivial⟩, trivial⟩
  rw [Qu6]
  exact Q32 (fun _ h => ContainerStatus.Q1y h) H
theorem Q1am (p0 : List ContainerStatus) (H : Qe8 p0) : Q7 G (Q19b p0) (Qq5 p0) := by
 unfold Qq5
 rw [Q18z]
 have hl0 := Qy3 p0 ((Qd1 p0 H).1) p0 0 [] (by simp) (by simp)
 obtain ⟨z0, zo0, hl0⟩ := hl0
 exact Q8 (fn := Ir.K1z) rfl VOK.nil [hP 3 (Qh (ContainerStatus.rows p0) (List.length p0) (ContainerStatus.Q5 p0)), hS 0 true (Val.Q9 (Q45 p0 p0 0 []) 5 rfl), hQ (Val.Q5 (Q45 p0 p0 0 [])).symm] [aV [(1, Val.rows (Q45 p0 p0 0 []))] hl0, aN (Qfh (Q45 p0 p0 0 []) (Qd1 p0 H).2.1)] (by kernel_rfl)
def Q1l4 (p0 : PodStatus) : Val := PodStatus.enc p0
theorem Q1wl (p0 : PodStatus) : Q1l4 p0 = ((Q6d ([(Qe Q2g (Qz p0.address)), (Qe Qt (Q61 p0.containers)), (Qe Q2p (Qz p0.finished)), (Qe Q24 (Q20 p0.nominated)), (Qe Q2w (Qz p0.phase)), (Qe Qi (Q2v p0.ready)), (Qe Q1o (Qz p0.readySince)), (Qe Q38 (Q20 p0.reason)), (Qe Qx (Qz p0.started))]))) := by
  exact Eq.symm (Q3q (by exact Nat.le_of_ble_eq_true rfl) (by kernel_rfl))
def Q1sf (p0 : PodStatus) : En := .call 57 [.agg (PodStatus.cells p0)] []
def Q1n7 (p0 : PodStatus) : Rs := .ret (.agg (Val.cells (Q1l4 p0))) []
def Q1lj (p0 : PodStatus) : Prop := PodStatus.sm p0
theorem Q150 (p0 : PodStatus) (H : Q1lj p0) : (Qe8 p0.containers) ∧ (Q8y ([(Qe Q2g (Qz p0.address)), (Qe Qt (Q61 p0.containers)), (Qe Q2p (Qz p0.finished)), (Qe Q24 (Q20 p0.nominated)), (Qe Q2w (Qz p0.phase)), (Qe Qi (Q2v p0.ready)), (Qe Q1o (Qz p0.readySince)), (Qe Q38 (Q20 p0.reason)), (Qe Qx (Qz p0.started))])) ∧ True := by
  repeat' with_reducible apply And.intro
  all_goals first | exact True.intro | exact H | exact H.1 | exact H.2.1 | exact H.2.2.1 | exact H.2.2.2.1 | exact H.2.2.2.2.1 | exact H.2.2.2.2.2.1 | exact H.2.2.2.2.2.2.1 | exact H.2.2.2.2.2.2.2.1 | exact H.2.2.2.2.2.2.2.2.1 | exact H.2.2.2.2.2.2.2.2.2.1 | exact H.2.2.2.2.2.2.2.2.2.2.1 | exact Q9y (by exact Nat.le_of_ble_eq_true rfl) (PodStatus.Q1y H).all.2.2.2
theorem Q1xj (p0 : PodStatus) (H : Q1lj p0) : Q7 G (Q1sf p0) (Q1n7 p0) := by
 unfold Q1n7
 rw [Q1wl]
 exact Q8 (fn := Ir.K1o) rfl VOK.nil [] [aN (Q5m p0.address), aN (Q2d Q2g (Qz p0.address)), aN (Q1am p0.containers (Q150 p0 H).1), aN (Q2d Qt (Q61 p0.containers)), aN (Q5m p0.finished), aN (Q2d Q2p (Qz p0.finished)), aN (Q9x p0.nominated), aN (Q2d Q24 (Q20 p0.nominated)), aN (Q5m p0.phase), aN (Q2d Q2w (Qz p0.phase)), aN (Qfc p0.ready), aN (Q2d Qi (Q2v p0.ready)), aN (Q5m p0.readySince), aN (Q2d Q1o (Qz p0.readySince)), aN (Q9x p0.reason), aN (Q2d Q38 (Q20 p0.reason)), aN (Q5m p0.started), aN (Q2d Qx (Qz p0.started)), aN (Q49 (e' := .call 61 [.sl [(Fld.cells (Qe Q2g (Qz p0.address))), (Fld.cells (Qe Qt (Q61 p0.containers))), (Fld.cells (Qe Q2p (Qz p0.finished))), (Fld.cells (Qe Q24 (Q20 p0.nominated))), (Fld.cells (Qe Q2w (Qz p0.phase))), (Fld.cells (Qe Qi (Q2v p0.ready))), (Fld.cells (Qe Q1o (Qz p0.readySince))), (Fld.cells (Qe Q38 (Q20 p0.reason))), (Fld.cells (Qe Qx (Qz p0.started)))]] []) (Q99 ([(Qe Q2g (Qz p0.address)), (Qe Qt (Q61 p0.containers)), (Qe Q2p (Qz p0.finished)), (Qe Q24 (Q20 p0.nominated)), (Qe Q2w (Qz p0.phase)), (Qe Qi (Q2v p0.ready)), (Qe Q1o (Qz p0.readySince)), (Qe Q38 (Q20 p0.reason)), (Qe Qx (Qz p0.started))]) (Q150 p0 H).2.1) (by simp only [Q95, Fld.Q21, Fld.Q2m]))] (by kernel_rfl)
def Qb0 (p0 : Taint) : Val := Taint.enc p0
theorem Q1sa (p0 : Taint) : Qb0 p0 = ((Q6d ([(Qe Qu (Qz p0.effect)), (Qe Qs (Q20 p0.key)), (Qe Q10 (Qz p0.since)), (Qe Qn (Q20 p0.value))]))) := by
  exact Eq.symm (Q3q (by exact Nat.le_of_ble_eq_true rfl) (by kernel_rfl))
def Q1vj (p0 : Taint) : En := .call 67 [.agg (Taint.cells p0)] []
def Q1pf (p0 : Taint) : Rs := .ret (.agg (Val.cells (Qb0 p0))) []
def Q1lz (p0 : Taint) : Prop := Taint.sm p0
theorem Q1h4 (p0 : Taint) (H : Q1lz p0) : (Q8y ([(Qe Qu (Qz p0.effect)), (Qe Qs (Q20 p0.key)), (Qe Q10 (Qz p0.since)), (Qe Qn (Q20 p0.value))])) ∧ True := by
  repeat' with_reducible apply And.intro
  all_goals first | exact True.intro | exact H | exact H.1 | exact H.2.1 | exact H.2.2.1 | exact H.2.2.2.1 | exact H.2.2.2.2.1 | exact H.2.2.2.2.2.1 | exact H.2.2.2.2.2.2.1 | exact H.2.2.2.2.2.2.2.1 | exact H.2.2.2.2.2.2.2.2.1 | exact H.2.2.2.2.2.2.2.2.2.1 | exact H.2.2.2.2.2.2.2.2.2.2.1 | exact Q9y (by exact Nat.le_of_ble_eq_true rfl) (Taint.Q1y H).all.2.2.2
theorem Q1xh (p0 : Taint) (H : Q1lz p0) : Q7 G (Q1vj p0) (Q1pf p0) := by
 unfold Q1pf
 rw [Q1sa]
 exact Q8 (fn := Ir.K1p) rfl VOK.nil [] [aN (Q5m p0.effect), aN (Q2d Qu (Qz p0.effect)), aN (Q9x p0.key), aN (Q2d Qs (Q20 p0.key)), aN (Q5m p0.since), aN (Q2d Q10 (Qz p0.since)), aN (Q9x p0.value), aN (Q2d Qn (Q20 p0.value)), aN (Q49 (e' := .call 61 [.sl [(Fld.cells (Qe Qu (Qz p0.effect))), (Fld.cells (Qe Qs (Q20 p0.key))), (Fld.cells (Qe Q10 (Qz p0.since))), (Fld.cells (Qe Qn (Q20 p0.value)))]] []) (Q99 ([(Qe Qu (Qz p0.effect)), (Qe Qs (Q20 p0.key)), (Qe Q10 (Qz p0.since)), (Qe Qn (Q20 p0.value))]) (Q1h4 p0 H).1) (by simp only [Q95, Fld.Q21, Fld.Q2m]))] (by kernel_rfl)
def Qb8 (p0 : Image) : Val := Image.enc p0
theorem Q1uy (p0 : Image) : Qb8 p0 = ((Q6d ([(Qe Qp (Q20 p0.name)), (Qe Q2s (Qz p0.size)), (Qe Q2z (Qz p0.used))]))) := by
  exact Eq.symm (Q3q (by exact Nat.le_of_ble_eq_true rfl) (by kernel_rfl))
def Q1wa (p0 : Image) : En := .call 69 [.agg (Image.cells p0)] []
def Q1p2 (p0 : Image) : Rs := .ret (.agg (Val.cells (Qb8 p0))) []
def Q1kj (p0 : Image) : Prop := Image.sm p0
theorem Q1hg (p0 : Image) (H : Q1kj p0) : (Q8y ([(Qe Qp (Q20 p0.name)), (Qe Q2s (Qz p0.size)), (Qe Q2z (Qz p0.used))])) ∧ True := by
  repeat' with_reducible apply And.intro
  all_goals first | exact True.intro | exact H | exact H.1 | exact H.2.1 | exact H.2.2.1 | exact H.2.2.2.1 | exact H.2.2.2.2.1 | exact H.2.2.2.2.2.1 | exact H.2.2.2.2.2.2.1 | exact H.2.2.2.2.2.2.2.1 | exact H.2.2.2.2.2.2.2.2.1 | exact H.2.2.2.2.2.2.2.2.2.1 | exact H.2.2.2.2.2.2.2.2.2.2.1 | exact Q9y (by exact Nat.le_of_ble_eq_true rfl) (Image.Q1y H).all.2.2.2
theorem Q1rq (p0 : Image) (H : Q1kj p0) : Q7 G (Q1wa p0) (Q1p2 p0) := by
 unfold Q1p2
 rw [Q1uy]
 exact Q8 (fn := Ir.K1f) rfl VOK.nil [] [aN (Q9x p0.name), aN (Q2d Qp (Q20 p0.name)), aN (Q5m p0.size), aN (Q2d Q2s (Qz p0.size)), aN (Q5m p0.used), aN (Q2d Q2z (Qz p0.used)), aN (Q49 (e' := .call 61 [.sl [(Fld.cells (Qe Qp (Q20 p0.name))), (Fld.cells (Qe Q2s (Qz p0.size))), (Fld.cells (Qe Q2z (Qz p0.used)))]] []) (Q99 ([(Qe Qp (Q20 p0.name)), (Qe Q2s (Qz p0.size)), (Qe Q2z (Qz p0.used))]) (Q1hg p0 H).1) (by simp only [Q95, Fld.Q21, Fld.Q2m]))] (by kernel_rfl)
end Go.Proofs.YtiflaadeikaghaaGreat
end

