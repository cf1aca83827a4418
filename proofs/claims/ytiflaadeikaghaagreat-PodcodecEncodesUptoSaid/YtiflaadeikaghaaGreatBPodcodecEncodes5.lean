/- Texts of the claim, merged by a program; what the statement does not reach is left out. -/
import Derived.Test.YtiflaadeikaghaaGreatBPodcodecEncodes4

section
/- What the program's encoders compute (printed by a program). -/
namespace Go.Proofs.YtiflaadeikaghaaGreat
open Go.Pv
def Q1h (p0 : ByteArray) : Val :=
 (Val.mk 3 0 p0 [] [])
def Q1k5 (p0 : ByteArray) : En := .call 109 [.str p0] []
def Q1ec (p0 : ByteArray) : Rs := .ret (.agg (Val.cells (Q1h p0))) []
theorem Q8g (p0 : ByteArray) : Q6 G (Q1k5 p0) (Q1ec p0) := by
 unfold Q1ec Q1h
 exact Qb (fn := Ir.K41) rfl VOK.nil [] [] (by kernel_rfl)
def Q9 (p0 : ByteArray) (p1 : Val) : Fld :=
 (Fld.mk p0 p1)
def Q1l5 (p0 : ByteArray) (p1 : Val) : En := .call 62 [.str p0, .agg (Val.cells p1)] []
def Q1dm (p0 : ByteArray) (p1 : Val) : Rs := .ret (.agg (Fld.cells (Q9 p0 p1))) []
theorem Q1r (p0 : ByteArray) (p1 : Val) : Q6 G (Q1l5 p0 p1) (Q1dm p0 p1) := by
 unfold Q1dm Q9
 exact Qb (fn := Ir.K1r) rfl VOK.nil [] [] (by kernel_rfl)
def Qaj (p0 : Label) : Val := Label.enc p0
theorem Q1kb (p0 : Label) : Qaj p0 = ((Q5f ([(Q9 Qx (Q1h p0.key)), (Q9 Qn (Q1h p0.value))]))) := by
  exact Eq.symm (Q2z (by exact Nat.le_of_ble_eq_true rfl) (by kernel_rfl))
def Q1gf (p0 : Label) : En := .call 78 [.agg (Label.cells p0)] []
def Q1ev (p0 : Label) : Rs := .ret (.agg (Val.cells (Qaj p0))) []
def Q1ba (p0 : Label) : Prop := Label.sm p0
theorem Q18l (p0 : Label) (H : Q1ba p0) : (Q7v ([(Q9 Qx (Q1h p0.key)), (Q9 Qn (Q1h p0.value))])) ∧ True := by
  repeat' with_reducible apply And.intro
  all_goals first | exact True.intro | exact H | exact H.1 | exact H.2.1 | exact H.2.2.1 | exact H.2.2.2.1 | exact H.2.2.2.2.1 | exact H.2.2.2.2.2.1 | exact H.2.2.2.2.2.2.1 | exact H.2.2.2.2.2.2.2.1 | exact H.2.2.2.2.2.2.2.2.1 | exact H.2.2.2.2.2.2.2.2.2.1 | exact H.2.2.2.2.2.2.2.2.2.2.1 | exact Q8h (by exact Nat.le_of_ble_eq_true rfl) (Label.Q1i H).all.2.2.2
theorem Q1hj (p0 : Label) (H : Q1ba p0) : Q6 G (Q1gf p0) (Q1ev p0) := by
 unfold Q1ev
 rw [Q1kb]
 exact Qb (fn := Ir.K1g) rfl VOK.nil [] [aN (Q8g p0.key), aN (Q1r Qx (Q1h p0.key)), aN (Q8g p0.value), aN (Q1r Qn (Q1h p0.value)), aN (Q3v (e' := .call 61 [.sl [(Fld.cells (Q9 Qx (Q1h p0.key))), (Fld.cells (Q9 Qn (Q1h p0.value)))]] []) (Q8s ([(Q9 Qx (Q1h p0.key)), (Q9 Qn (Q1h p0.value))]) (Q18l p0 H).1) (by simp only [Q85, Fld.Qo, Fld.Qy]))] (by kernel_rfl)
def Q3z (p0 : List Label) : List Label → Nat → (List Val) → List Val
 | [], _i0, v0_1 =>
  v0_1
 | x0 :: r0, i0, v0_1 =>
  Q3z p0 r0 (i0 + 1) (v0_1 ++ [(Qaj x0)])
theorem Qqq (p0 : List Label) : ∀ (l : List Label) (i : Nat) (a : List Val), Q3z p0 l i a = a ++ l.map (fun x0 => (Qaj x0))
  | [], _, _ => by simp [Q3z]
  | x :: r, i, a => by rw [Q3z, Qqq p0 r]; simp
def Qsi (p0 : List Label) (i0 : Nat) (v0_1 : List Val) : List PV :=
  [.un, .fn 78 [] [], .un, .un, .bx 0 0, .ms 1 5 0 (List.length v0_1), .un, .un, .sl (Label.rows p0), .int .i64 ((List.length p0) : Int), .int .i64 (i0 : Int)] ++ nuns 12
def Qjm (_p0 : List Label) (_i0 : Nat) (v0_1 : List Val) : List Ob :=
  [⟨5, 0, true, [.int .i64 0, .int .i64 0, .str (⟨#[]⟩ : ByteArray), .ms 2 5 0 0, .ms 3 6 0 0]⟩, ⟨5, 0, true, (Val.rows v0_1).flatten⟩, ⟨5, 0, true, []⟩, ⟨6, 0, true, []⟩]
def Qg5 (p0 : List Label) (i0 : Nat) (v0_1 : List Val) : En := .loop 0 Ir.Qk6 Ir.Q19l (Qsi p0 i0 v0_1) (Qjm p0 i0 v0_1)
def Qmx (_p0 : List Label) (q0 : List Val) (z : Nat → PV) (_zo : Nat → List PV) : St :=
  ⟨[z 0, z 1, z 2, z 3, .bx 0 0, .ms 1 5 0 (List.length q0)] ++ zr z 6 17, [(0, ⟨5, 0, true, [.int .i64 0, .int .i64 0, .str (⟨#[]⟩ : ByteArray), .ms 2 5 0 0, .ms 3 6 0 0]⟩), (1, ⟨5, 0, true, (Val.rows q0).flatten⟩), (2, ⟨5, 0, true, []⟩), (3, ⟨6, 0, true, []⟩)], 68⟩
theorem Q109 (p0 : List Label) (i0 : Nat) (v0_1 : List Val) : VOK (Go.Pv.look (number 0 (Qjm p0 i0 v0_1))) [(1, Val.rows v0_1)] := (VOK.cons (show Seen _ _ from Q3j (ob := ⟨5, 0, true, (Val.rows v0_1).flatten⟩) (Val.Q7 v0_1 5 rfl)) VOK.nil)
def Qex (p0 : List Label) (e : En) (q : List Val) : Prop := ∃ z zo, Q6 G e (.st (.exit 0) (Qmx p0 q z zo))
theorem Qr5 (p0 : List Label) {e e' : En} (h : ∀ r, Q6 G e r → Q6 G e' r) : ∀ q, Qex p0 e q → Qex p0 e' q
  | _, ⟨z, zo, hz⟩ => ⟨z, zo, h _ hz⟩
def Qea (p0 : List Label) : Prop := (List.length p0 ≤ 137438953472) ∧ (∀ x0 ∈ p0, Q1ba x0) ∧ True
def Qm9 (p0 : List Label) (i0 : Nat) (_v0_1 : List Val) : List PV :=
  [.un, .fn 78 [] []] ++ nuns 6 ++ [.sl (Label.rows p0), .int .i64 ((List.length p0) : Int), .int .i64 (i0 : Int), .bool false]
def Qiz (_p0 : List Label) (_i0 : Nat) (_v0_1 : List Val) : List (Nat × List PV) :=
  []
theorem Q12m (p0 : List Label) (_H : Qea p0) (i0 : Nat) (v0_1 : List Val) (_ho0_0 : List.length v0_1 ≤ i0) (hc0 : (decide ((i0 : Int) < ((List.length p0) : Int))) = false) : Qex p0 (Qg5 p0 i0 v0_1) v0_1 := by
 exact ⟨(envF (Qm9 p0 i0 v0_1)), (zoF (Qiz p0 i0 v0_1)), Qg (Q109 p0 i0 v0_1) (x := ((.exit 0), Qmx p0 v0_1 (envF (Qm9 p0 i0 v0_1)) (zoF (Qiz p0 i0 v0_1)))) [hB 0 hc0] [] (by kernel_rfl)⟩
theorem Q133 (p0 : List Label) (H : Qea p0) (x0 : Label) (i0 : Nat) (v0_1 : List Val) (hx0 : p0[i0]? = some x0) (hi0 : i0 < List.length p0) (ho0_0 : List.length v0_1 ≤ i0) (hc0 : (decide ((i0 : Int) < ((List.length p0) : Int))) = true) {r : Rs} (hr : Q6 G (Qg5 p0 (i0 + 1) (v0_1 ++ [(Qaj x0)])) r) : Q6 G (Qg5 p0 i0 v0_1) r := by
 have hB0 := H.1
 exact Qk (Q109 p0 i0 v0_1) (y := (Qsi p0 (i0 + 1) (v0_1 ++ [(Qaj x0)]), Qjm p0 (i0 + 1) (v0_1 ++ [(Qaj x0)]))) [hB 0 hc0, hP 0 (Q1f 2 (Label.rows p0) i0 _ (Label.Qa hx0) rfl), hV 8 [(644, Val.rows (v0_1 ++ [(Qaj x0)]))] (Q5h 1 580 644 5 80 0 0 true (Val.rows v0_1) (Val.rows (v0_1 ++ [(Qaj x0)])) (Val.cells (Qaj x0)) (List.length v0_1) (List.length (v0_1 ++ [(Qaj x0)])) rfl (Val.Q5 v0_1).symm (Val.Q5 (v0_1 ++ [(Qaj x0)])).symm (Val.Q15 v0_1 (Qaj x0)) (Val.Qi v0_1) rfl (by omega)), hS 0 true (Val.Q7 (v0_1 ++ [(Qaj x0)]) 5 rfl), hP 1 (Q1y i0 (by omega))] [aN (Q1hj x0 (H.2.1 x0 (Q29 hx0)))] (by kernel_rfl) hr
theorem Qsd (p0 : List Label) (H : Qea p0) : ∀ (r0 : List Label) (i0 : Nat) (v0_1 : List Val), List.drop i0 p0 = r0 → List.length v0_1 ≤ i0 → Qex p0 (Qg5 p0 i0 v0_1) (Q3z p0 r0 i0 v0_1)
 | [], i0, v0_1, hd, ho0_0 => by
  have hc0 : (decide ((i0 : Int) < ((List.length p0) : Int))) = false := by have := Q1b hd; simp; omega
  rw [Q3z]
  exact Q12m p0 H i0 v0_1 ho0_0 hc0
 | x0 :: r0, i0, v0_1, hd, ho0_0 => by
  obtain ⟨hx0, hi0, hd'⟩ := Q14 hd
  have hc0 : (decide ((i0 : Int) < ((List.length p0) : Int))) = true := by simp; omega
  rw [Q3z]
  exact Qr5 p0 (fun r hr => Q133 p0 H x0 i0 v0_1 hx0 hi0 ho0_0 hc0 hr) _ (Qsd p0 H r0 (i0 + 1) (v0_1 ++ [(Qaj x0)]) hd' (by first | omega | (simp; omega)))
def Q6c (p0 : List Label) : Val := vL (p0.map Label.enc)
theorem Q150 (p0 : List Label) : Q6c p0 = ((Qbf (Q3z p0 p0 0 []))) := by
  rw [Qqq]
  rfl
def Q17s (p0 : List Label) : En := .call 77 [.sl (Label.rows p0), .fn 78 [] []] []
def Qw2 (p0 : List Label) : Rs := .ret (.agg (Val.cells (Q6c p0))) []
def Qlc (p0 : List Label) : Prop := LSm Label.sm p0
theorem Qd5 (p0 : List Label) (H : Qlc p0) : (Qea p0) ∧ (Qc5 (Q3z p0 p0 0 [])) ∧ True := by
  refine ⟨⟨Nat.le_trans H.1 (Nat.le_of_ble_eq_true rfl), H.2, trivial⟩, ⟨?_, trivial⟩, trivial⟩
  rw [Qqq]
  exact Q2a (fun _ h => Label.Q1i h) H
theorem Q17j (p0 : List Label) (H : Qlc p0) : Q6 G (Q17s p0) (Qw2 p0) := by
 unfold Qw2
 rw [Q150]
 have hl0 := Qsd p0 ((Qd5 p0 H).1) p0 0 [] (by simp) (by simp)
 obtain ⟨z0, zo0, hl0⟩ := hl0
 exact Qb (fn := Ir.K23) rfl VOK.nil [hP 3 (Qe (Label.rows p0) (List.length p0) (Label.Q5 p0)), hS 0 true (Val.Q7 (Q3z p0 p0 0 []) 5 rfl), hQ (Val.Q5 (Q3z p0 p0 0 [])).symm] [aV [(1, Val.rows (Q3z p0 p0 0 []))] hl0, aN (Qdv (Q3z p0 p0 0 []) (Qd5 p0 H).2.1)] (by kernel_rfl)
def Qs (p0 : Int) : Val :=
 (Val.mk 2 p0 (⟨#[]⟩ : ByteArray) [] [])
def Q1gk (p0 : Int) : En := .call 65 [.int .i64 p0] []
def Q1ed (p0 : Int) : Rs := .ret (.agg (Val.cells (Qs p0))) []
theorem Q4s (p0 : Int) : Q6 G (Q1gk p0) (Q1ed p0) := by
 unfold Q1ed Qs
 exact Qb (fn := Ir.K3x) rfl VOK.nil [] [] (by kernel_rfl)
def Q8f (p0 : Resources) : Val := Resources.enc p0
theorem Q1ie (p0 : Resources) : Q8f p0 = ((Q5f ([(Q9 Q83 (Qs p0.cPU)), (Q9 Q5j (Qs p0.disk)), (Q9 Q3d (Qs p0.memory))]))) := by
  exact Eq.symm (Q2z (by exact Nat.le_of_ble_eq_true rfl) (by kernel_rfl))
def Q1ix (p0 : Resources) : En := .call 63 [.agg (Resources.cells p0)] []
def Q1fr (p0 : Resources) : Rs := .ret (.agg (Val.cells (Q8f p0))) []
def Q16q (p0 : Resources) : Prop := Resources.sm p0
theorem Q19a (p0 : Resources) (H : Q16q p0) : (Q7v ([(Q9 Q83 (Qs p0.cPU)), (Q9 Q5j (Qs p0.disk)), (Q9 Q3d (Qs p0.memory))])) ∧ True := by
  repeat' with_reducible apply And.intro
  all_goals first | exact True.intro | exact H | exact H.1 | exact H.2.1 | exact H.2.2.1 | exact H.2.2.2.1 | exact H.2.2.2.2.1 | exact H.2.2.2.2.2.1 | exact H.2.2.2.2.2.2.1 | exact H.2.2.2.2.2.2.2.1 | exact H.2.2.2.2.2.2.2.2.1 | exact H.2.2.2.2.2.2.2.2.2.1 | exact H.2.2.2.2.2.2.2.2.2.2.1 | exact Q8h (by exact Nat.le_of_ble_eq_true rfl) (Resources.Q1i H).all.2.2.2
theorem Q1cc (p0 : Resources) (H : Q16q p0) : Q6 G (Q1ix p0) (Q1fr p0) := by
 unfold Q1fr
 rw [Q1ie]
 exact Qb (fn := Ir.K1l) rfl VOK.nil [] [aN (Q4s p0.cPU), aN (Q1r Q83 (Qs p0.cPU)), aN (Q4s p0.disk), aN (Q1r Q5j (Qs p0.disk)), aN (Q4s p0.memory), aN (Q1r Q3d (Qs p0.memory)), aN (Q3v (e' := .call 61 [.sl [(Fld.cells (Q9 Q83 (Qs p0.cPU))), (Fld.cells (Q9 Q5j (Qs p0.disk))), (Fld.cells (Q9 Q3d (Qs p0.memory)))]] []) (Q8s ([(Q9 Q83 (Qs p0.cPU)), (Q9 Q5j (Qs p0.disk)), (Q9 Q3d (Qs p0.memory))]) (Q19a p0 H).1) (by simp only [Q85, Fld.Qo, Fld.Qy]))] (by kernel_rfl)
def Qa1 (p0 : Probe) : Val := Probe.enc p0
theorem Q1ju (p0 : Probe) : Qa1 p0 = ((Q5f ([(Q9 Q28 (Qs p0.delay)), (Q9 Q1n (Qs p0.failure)), (Q9 Q1x (Qs p0.period)), (Q9 Q1k (Qs p0.success))]))) := by
  exact Eq.symm (Q2z (by exact Nat.le_of_ble_eq_true rfl) (by kernel_rfl))
def Q1hc (p0 : Probe) : En := .call 147 [.agg (Probe.cells p0)] []
def Q1e9 (p0 : Probe) : Rs := .ret (.agg (Val.cells (Qa1 p0))) []
def Q1be (p0 : Probe) : Prop := Probe.sm p0
theorem Q19c (p0 : Probe) (H : Q1be p0) : (Q7v ([(Q9 Q28 (Qs p0.delay)), (Q9 Q1n (Qs p0.failure)), (Q9 Q1x (Qs p0.period)), (Q9 Q1k (Qs p0.success))])) ∧ True := by
  repeat' with_reducible apply And.intro
  all_goals first | exact True.intro | exact H | exact H.1 | exact H.2.1 | exact H.2.2.1 | exact H.2.2.2.1 | exact H.2.2.2.2.1 | exact H.2.2.2.2.2.1 | exact H.2.2.2.2.2.2.1 | exact H.2.2.2.2.2.2.2.1 | exact H.2.2.2.2.2.2.2.2.1 | exact H.2.2.2.2.2.2.2.2.2.1 | exact H.2.2.2.2.2.2.2.2.2.2.1 | exact Q8h (by exact Nat.le_of_ble_eq_true rfl) (Probe.Q1i H).all.2.2.2
theorem Q1hy (p0 : Probe) (H : Q1be p0) : Q6 G (Q1hc p0) (Q1e9 p0) := by
 unfold Q1e9
 rw [Q1ju]
 exact Qb (fn := Ir.K1j) rfl VOK.nil [] [aN (Q4s p0.delay), aN (Q1r Q28 (Qs p0.delay)), aN (Q4s p0.failure), aN (Q1r Q1n (Qs p0.failure)), aN (Q4s p0.period), aN (Q1r Q1x (Qs p0.period)), aN (Q4s p0.success), aN (Q1r Q1k (Qs p0.success)), aN (Q3v (e' := .call 61 [.sl [(Fld.cells (Q9 Q28 (Qs p0.delay))), (Fld.cells (Q9 Q1n (Qs p0.failure))), (Fld.cells (Q9 Q1x (Qs p0.period))), (Fld.cells (Q9 Q1k (Qs p0.success)))]] []) (Q8s ([(Q9 Q28 (Qs p0.delay)), (Q9 Q1n (Qs p0.failure)), (Q9 Q1x (Qs p0.period)), (Q9 Q1k (Qs p0.success))]) (Q19c p0 H).1) (by simp only [Q85, Fld.Qo, Fld.Qy]))] (by kernel_rfl)
def Q3p (p0 : List Probe) : List Probe → Nat → (List Val) → List Val
 | [], _i0, v0_1 =>
  v0_1
 | x0 :: r0, i0, v0_1 =>
  Q3p p0 r0 (i0 + 1) (v0_1 ++ [(Qa1 x0)])
theorem Qpl (p0 : List Probe) : ∀ (l : List Probe) (i : Nat) (a : List Val), Q3p p0 l i a = a ++ l.map (fun x0 => (Qa1 x0))
  | [], _, _ => by simp [Q3p]
  | x :: r, i, a => by rw [Q3p, Qpl p0 r]; simp
def Qst (p0 : List Probe) (i0 : Nat) (v0_1 : List Val) : List PV :=
  [.un, .fn 147 [] [], .un, .un, .bx 0 0, .ms 1 5 0 (List.length v0_1), .un, .un, .sl (Probe.rows p0), .int .i64 ((List.length p0) : Int), .int .i64 (i0 : Int)] ++ nuns 12
def Qkl (_p0 : List Probe) (_i0 : Nat) (v0_1 : List Val) : List Ob :=
  [⟨5, 0, true, [.int .i64 0, .int .i64 0, .str (⟨#[]⟩ : ByteArray), .ms 2 5 0 0, .ms 3 6 0 0]⟩, ⟨5, 0, true, (Val.rows v0_1).flatten⟩, ⟨5, 0, true, []⟩, ⟨6, 0, true, []⟩]
def Qg6 (p0 : List Probe) (i0 : Nat) (v0_1 : List Val) : En := .loop 0 Ir.Qgs Ir.Q1aw (Qst p0 i0 v0_1) (Qkl p0 i0 v0_1)
def Qo6 (_p0 : List Probe) (q0 : List Val) (z : Nat → PV) (_zo : Nat → List PV) : St :=
  ⟨[z 0, z 1, z 2, z 3, .bx 0 0, .ms 1 5 0 (List.length q0)] ++ zr z 6 17, [(0, ⟨5, 0, true, [.int .i64 0, .int .i64 0, .str (⟨#[]⟩ : ByteArray), .ms 2 5 0 0, .ms 3 6 0 0]⟩), (1, ⟨5, 0, true, (Val.rows q0).flatten⟩), (2, ⟨5, 0, true, []⟩), (3, ⟨6, 0, true, []⟩)], 68⟩
theorem Q102 (p0 : List Probe) (i0 : Nat) (v0_1 : List Val) : VOK (Go.Pv.look (number 0 (Qkl p0 i0 v0_1))) [(1, Val.rows v0_1)] := (VOK.cons (show Seen _ _ from Q3j (ob := ⟨5, 0, true, (Val.rows v0_1).flatten⟩) (Val.Q7 v0_1 5 rfl)) VOK.nil)
def Qfr (p0 : List Probe) (e : En) (q : List Val) : Prop := ∃ z zo, Q6 G e (.st (.exit 0) (Qo6 p0 q z zo))
theorem Qre (p0 : List Probe) {e e' : En} (h : ∀ r, Q6 G e r → Q6 G e' r) : ∀ q, Qfr p0 e q → Qfr p0 e' q
  | _, ⟨z, zo, hz⟩ => ⟨z, zo, h _ hz⟩
def Qf6 (p0 : List Probe) : Prop := (List.length p0 ≤ 137438953472) ∧ (∀ x0 ∈ p0, Q1be x0) ∧ True
def Qoo (p0 : List Probe) (i0 : Nat) (_v0_1 : List Val) : List PV :=
  [.un, .fn 147 [] []] ++ nuns 6 ++ [.sl (Probe.rows p0), .int .i64 ((List.length p0) : Int), .int .i64 (i0 : Int), .bool false]
def Qha (_p0 : List Probe) (_i0 : Nat) (_v0_1 : List Val) : List (Nat × List PV) :=
  []
theorem Q12f (p0 : List Probe) (_H : Qf6 p0) (i0 : Nat) (v0_1 : List Val) (_ho0_0 : List.length v0_1 ≤ i0) (hc0 : (decide ((i0 : Int) < ((List.length p0) : Int))) = false) : Qfr p0 (Qg6 p0 i0 v0_1) v0_1 := by
 exact ⟨(envF (Qoo p0 i0 v0_1)), (zoF (Qha p0 i0 v0_1)), Qg (Q102 p0 i0 v0_1) (x := ((.exit 0), Qo6 p0 v0_1 (envF (Qoo p0 i0 v0_1)) (zoF (Qha p0 i0 v0_1)))) [hB 0 hc0] [] (by kernel_rfl)⟩
theorem Q10o (p0 : List Probe) (H : Qf6 p0) (x0 : Probe) (i0 : Nat) (v0_1 : List Val) (hx0 : p0[i0]? = some x0) (hi0 : i0 < List.length p0) (ho0_0 : List.length v0_1 ≤ i0) (hc0 : (decide ((i0 : Int) < ((List.length p0) : Int))) = true) {r : Rs} (hr : Q6 G (Qg6 p0 (i0 + 1) (v0_1 ++ [(Qa1 x0)])) r) : Q6 G (Qg6 p0 i0 v0_1) r := by
 have hB0 := H.1
 exact Qk (Q102 p0 i0 v0_1) (y := (Qst p0 (i0 + 1) (v0_1 ++ [(Qa1 x0)]), Qkl p0 (i0 + 1) (v0_1 ++ [(Qa1 x0)]))) [hB 0 hc0, hP 0 (Q1f 4 (Probe.rows p0) i0 _ (Probe.Qa hx0) rfl), hV 8 [(644, Val.rows (v0_1 ++ [(Qa1 x0)]))] (Q5h 1 580 644 5 80 0 0 true (Val.rows v0_1) (Val.rows (v0_1 ++ [(Qa1 x0)])) (Val.cells (Qa1 x0)) (List.length v0_1) (List.length (v0_1 ++ [(Qa1 x0)])) rfl (Val.Q5 v0_1).symm (Val.Q5 (v0_1 ++ [(Qa1 x0)])).symm (Val.Q15 v0_1 (Qa1 x0)) (Val.Qi v0_1) rfl (by omega)), hS 0 true (Val.Q7 (v0_1 ++ [(Qa1 x0)]) 5 rfl), hP 1 (Q1y i0 (by omega))] [aN (Q1hy x0 (H.2.1 x0 (Q29 hx0)))] (by kernel_rfl) hr
theorem Qtw (p0 : List Probe) (H : Qf6 p0) : ∀ (r0 : List Probe) (i0 : Nat) (v0_1 : List Val), List.drop i0 p0 = r0 → List.length v0_1 ≤ i0 → Qfr p0 (Qg6 p0 i0 v0_1) (Q3p p0 r0 i0 v0_1)
 | [], i0, v0_1, hd, ho0_0 => by
  have hc0 : (decide ((i0 : Int) < ((List.length p0) : Int))) = false := by have := Q1b hd; simp; omega
  rw [Q3p]
  exact Q12f p0 H i0 v0_1 ho0_0 hc0
 | x0 :: r0, i0, v0_1, hd, ho0_0 => by
  obtain ⟨hx0, hi0, hd'⟩ := Q14 hd
  have hc0 : (decide ((i0 : Int) < ((List.length p0) : Int))) = true := by simp; omega
  rw [Q3p]
  exact Qre p0 (fun r hr => Q10o p0 H x0 i0 v0_1 hx0 hi0 ho0_0 hc0 hr) _ (Qtw p0 H r0 (i0 + 1) (v0_1 ++ [(Qa1 x0)]) hd' (by first | omega | (simp; omega)))
def Q24 (p0 : List Probe) : Val := vL (p0.map Probe.enc)
theorem Q116 (p0 : List Probe) : Q24 p0 = ((Qbf (Q3p p0 p0 0 []))) := by
  rw [Qpl]
  rfl
def Q14p (p0 : List Probe) : En := .call 146 [.sl (Probe.rows p0), .fn 147 [] []] []
def Qmt (p0 : List Probe) : Rs := .ret (.agg (Val.cells (Q24 p0))) []
def Q7e (p0 : List Probe) : Prop := LSm Probe.sm p0
theorem Qbe (p0 : List Probe) (H : Q7e p0) : (Qf6 p0) ∧ (Qc5 (Q3p p0 p0 0 [])) ∧ True := by
  refine ⟨⟨Nat.le_trans H.1 (Nat.le_of_ble_eq_true rfl), H.2, trivial⟩, ⟨?_, trivial⟩, trivial⟩
  rw [Qpl]
  exact Q2a (fun _ h => Probe.Q1i h) H
theorem Qcw (p0 : List Probe) (H : Q7e p0) : Q6 G (Q14p p0) (Qmt p0) := by
 unfold Qmt
 rw [Q116]
 have hl0 := Qtw p0 ((Qbe p0 H).1) p0 0 [] (by simp) (by simp)
 obtain ⟨z0, zo0, hl0⟩ := hl0
 exact Qb (fn := Ir.K20) rfl VOK.nil [hP 3 (Qe (Probe.rows p0) (List.length p0) (Probe.Q5 p0)), hS 0 true (Val.Q7 (Q3p p0 p0 0 []) 5 rfl), hQ (Val.Q5 (Q3p p0 p0 0 [])).symm] [aV [(1, Val.rows (Q3p p0 p0 0 []))] hl0, aN (Qdv (Q3p p0 p0 0 []) (Qbe p0 H).2.1)] (by kernel_rfl)
def Qad (p0 : Container) : Val := Container.enc p0
theorem Q1j2 (p0 : Container) : Qad p0 = ((Q5f ([(Q9 Q25 (Q1h p0.image)), (Q9 Q27 (Q8f p0.limit)), (Q9 Q2s (Q24 p0.live)), (Q9 Qw (Q1h p0.name)), (Q9 Qp (Q24 p0.ready)), (Q9 Q1l (Q8f p0.request)), (Q9 Q1p (Q24 p0.startup))]))) := by
  exact Eq.symm (Q2z (by exact Nat.le_of_ble_eq_true rfl) (by kernel_rfl))
def Q1jz (p0 : Container) : En := .call 108 [.agg (Container.cells p0)] []
def Q1d6 (p0 : Container) : Rs := .ret (.agg (Val.cells (Qad p0))) []
def Q1cv (p0 : Container) : Prop := Container.sm p0
theorem Q9c (p0 : Container) (H : Q1cv p0) : (Q16q p0.limit) ∧ (Q7e p0.live) ∧ (Q7e p0.ready) ∧ (Q16q p0.request) ∧ (Q7e p0.startup) ∧ (Q7v ([(Q9 Q25 (Q1h p0.image)), (Q9 Q27 (Q8f p0.limit)), (Q9 Q2s (Q24 p0.live)), (Q9 Qw (Q1h p0.name)), (Q9 Qp (Q24 p0.ready)), (Q9 Q1l (Q8f p0.request)), (Q9 Q1p (Q24 p0.startup))])) ∧ True := by
  repeat' with_reducible apply And.intro
  all_goals first | exact True.intro | exact H | exact H.1 | exact H.2.1 | exact H.2.2.1 | exact H.2.2.2.1 | exact H.2.2.2.2.1 | exact H.2.2.2.2.2.1 | exact H.2.2.2.2.2.2.1 | exact H.2.2.2.2.2.2.2.1 | exact H.2.2.2.2.2.2.2.2.1 | exact H.2.2.2.2.2.2.2.2.2.1 | exact H.2.2.2.2.2.2.2.2.2.2.1 | exact Q8h (by exact Nat.le_of_ble_eq_true rfl) (Container.Q1i H).all.2.2.2
theorem Q1gj (p0 : Container) (H : Q1cv p0) : Q6 G (Q1jz p0) (Q1d6 p0) := by
 unfold Q1d6
 rw [Q1j2]
 exact Qb (fn := Ir.K1d) rfl VOK.nil [] [aN (Q8g p0.image), aN (Q1r Q25 (Q1h p0.image)), aN (Q1cc p0.limit (Q9c p0 H).1), aN (Q1r Q27 (Q8f p0.limit)), aN (Qcw p0.live (Q9c p0 H).2.1), aN (Q1r Q2s (Q24 p0.live)), aN (Q8g p0.name), aN (Q1r Qw (Q1h p0.name)), aN (Qcw p0.ready (Q9c p0 H).2.2.1), aN (Q1r Qp (Q24 p0.ready)), aN (Q1cc p0.request (Q9c p0 H).2.2.2.1), aN (Q1r Q1l (Q8f p0.request)), aN (Qcw p0.startup (Q9c p0 H).2.2.2.2.1), aN (Q1r Q1p (Q24 p0.startup)), aN (Q3v (e' := .call 61 [.sl [(Fld.cells (Q9 Q25 (Q1h p0.image))), (Fld.cells (Q9 Q27 (Q8f p0.limit))), (Fld.cells (Q9 Q2s (Q24 p0.live))), (Fld.cells (Q9 Qw (Q1h p0.name))), (Fld.cells (Q9 Qp (Q24 p0.ready))), (Fld.cells (Q9 Q1l (Q8f p0.request))), (Fld.cells (Q9 Q1p (Q24 p0.startup)))]] []) (Q8s ([(Q9 Q25 (Q1h p0.image)), (Q9 Q27 (Q8f p0.limit)), (Q9 Q2s (Q24 p0.live)), (Q9 Qw (Q1h p0.name)), (Q9 Qp (Q24 p0.ready)), (Q9 Q1l (Q8f p0.request)), (Q9 Q1p (Q24 p0.startup))]) (Q9c p0 H).2.2.2.2.2.1) (by simp only [Q85, Fld.Qo, Fld.Qy]))] (by kernel_rfl)
def Q3u (p0 : List Container) : List Container → Nat → (List Val) → List Val
 | [], _i0, v0_1 =>
  v0_1
 | x0 :: r0, i0, v0_1 =>
  Q3u p0 r0 (i0 + 1) (v0_1 ++ [(Qad x0)])
theorem Qr2 (p0 : List Container) : ∀ (l : List Container) (i : Nat) (a : List Val), Q3u p0 l i a = a ++ l.map (fun x0 => (Qad x0))
  | [], _, _ => by simp [Q3u]
  | x :: r, i, a => by rw [Q3u, Qr2 p0 r]; simp
def Qsz (p0 : List Container) (i0 : Nat) (v0_1 : List Val) : List PV :=
  [.un, .fn 108 [] [], .un, .un, .bx 0 0, .ms 1 5 0 (List.length v0_1), .un, .un, .sl (Container.rows p0), .int .i64 ((List.length p0) : Int), .int .i64 (i0 : Int)] ++ nuns 12
def Qgg (_p0 : List Container) (_i0 : Nat) (v0_1 : List Val) : List Ob :=
  [⟨5, 0, true, [.int .i64 0, .int .i64 0, .str (⟨#[]⟩ : ByteArray), .ms 2 5 0 0, .ms 3 6 0 0]⟩, ⟨5, 0, true, (Val.rows v0_1).flatten⟩, ⟨5, 0, true, []⟩, ⟨6, 0, true, []⟩]
def Qec (p0 : List Container) (i0 : Nat) (v0_1 : List Val) : En := .loop 0 Ir.Qj2 Ir.Q1a5 (Qsz p0 i0 v0_1) (Qgg p0 i0 v0_1)
def Qnl (_p0 : List Container) (q0 : List Val) (z : Nat → PV) (_zo : Nat → List PV) : St :=
  ⟨[z 0, z 1, z 2, z 3, .bx 0 0, .ms 1 5 0 (List.length q0)] ++ zr z 6 17, [(0, ⟨5, 0, true, [.int .i64 0, .int .i64 0, .str (⟨#[]⟩ : ByteArray), .ms 2 5 0 0, .ms 3 6 0 0]⟩), (1, ⟨5, 0, true, (Val.rows q0).flatten⟩), (2, ⟨5, 0, true, []⟩), (3, ⟨6, 0, true, []⟩)], 68⟩
theorem Qxl (p0 : List Container) (i0 : Nat) (v0_1 : List Val) : VOK (Go.Pv.look (number 0 (Qgg p0 i0 v0_1))) [(1, Val.rows v0_1)] := (VOK.cons (show Seen _ _ from Q3j (ob := ⟨5, 0, true, (Val.rows v0_1).flatten⟩) (Val.Q7 v0_1 5 rfl)) VOK.nil)
def Qfg (p0 : List Container) (e : En) (q : List Val) : Prop := ∃ z zo, Q6 G e (.st (.exit 0) (Qnl p0 q z zo))
theorem Qrb (p0 : List Container) {e e' : En} (h : ∀ r, Q6 G e r → Q6 G e' r) : ∀ q, Qfg p0 e q → Qfg p0 e' q
  | _, ⟨z, zo, hz⟩ => ⟨z, zo, h _ hz⟩
def Qfe (p0 : List Container) : Prop := (List.length p0 ≤ 137438953472) ∧ (∀ x0 ∈ p0, Q1cv x0) ∧ True
def Qlm (p0 : List Container) (i0 : Nat) (_v0_1 : List Val) : List PV :=
  [.un, .fn 108 [] []] ++ nuns 6 ++ [.sl (Container.rows p0), .int .i64 ((List.length p0) : Int), .int .i64 (i0 : Int), .bool false]
def Qj3 (_p0 : List Container) (_i0 : Nat) (_v0_1 : List Val) : List (Nat × List PV) :=
  []
theorem Q125 (p0 : List Container) (_H : Qfe p0) (i0 : Nat) (v0_1 : List Val) (_ho0_0 : List.length v0_1 ≤ i0) (hc0 : (decide ((i0 : Int) < ((List.length p0) : Int))) = false) : Qfg p0 (Qec p0 i0 v0_1) v0_1 := by
 exact ⟨(envF (Qlm p0 i0 v0_1)), (zoF (Qj3 p0 i0 v0_1)), Qg (Qxl p0 i0 v0_1) (x := ((.exit 0), Qnl p0 v0_1 (envF (Qlm p0 i0 v0_1)) (zoF (Qj3 p0 i0 v0_1)))) [hB 0 hc0] [] (by kernel_rfl)⟩
theorem Q14a (p0 : List Container) (H : Qfe p0) (x0 : Container) (i0 : Nat) (v0_1 : List Val) (hx0 : p0[i0]? = some x0) (hi0 : i0 < List.length p0) (ho0_0 : List.length v0_1 ≤ i0) (hc0 : (decide ((i0 : Int) < ((List.length p0) : Int))) = true) {r : Rs} (hr : Q6 G (Qec p0 (i0 + 1) (v0_1 ++ [(Qad x0)])) r) : Q6 G (Qec p0 i0 v0_1) r := by
 have hB0 := H.1
 exact Qk (Qxl p0 i0 v0_1) (y := (Qsz p0 (i0 + 1) (v0_1 ++ [(Qad x0)]), Qgg p0 (i0 + 1) (v0_1 ++ [(Qad x0)]))) [hB 0 hc0, hP 0 (Q1f 11 (Container.rows p0) i0 _ (Container.Qa hx0) rfl), hV 8 [(644, Val.rows (v0_1 ++ [(Qad x0)]))] (Q5h 1 580 644 5 80 0 0 true (Val.rows v0_1) (Val.rows (v0_1 ++ [(Qad x0)])) (Val.cells (Qad x0)) (List.length v0_1) (List.length (v0_1 ++ [(Qad x0)])) rfl (Val.Q5 v0_1).symm (Val.Q5 (v0_1 ++ [(Qad x0)])).symm (Val.Q15 v0_1 (Qad x0)) (Val.Qi v0_1) rfl (by omega)), hS 0 true (Val.Q7 (v0_1 ++ [(Qad x0)]) 5 rfl), hP 1 (Q1y i0 (by omega))] [aN (Q1gj x0 (H.2.1 x0 (Q29 hx0)))] (by kernel_rfl) hr
theorem Qtm (p0 : List Container) (H : Qfe p0) : ∀ (r0 : List Container) (i0 : Nat) (v0_1 : List Val), List.drop i0 p0 = r0 → List.length v0_1 ≤ i0 → Qfg p0 (Qec p0 i0 v0_1) (Q3u p0 r0 i0 v0_1)
 | [], i0, v0_1, hd, ho0_0 => by
  have hc0 : (decide ((i0 : Int) < ((List.length p0) : Int))) = false := by have := Q1b hd; simp; omega
  rw [Q3u]
  exact Q125 p0 H i0 v0_1 ho0_0 hc0
 | x0 :: r0, i0, v0_1, hd, ho0_0 => by
  obtain ⟨hx0, hi0, hd'⟩ := Q14 hd
  have hc0 : (decide ((i0 : Int) < ((List.length p0) : Int))) = true := by simp; omega
  rw [Q3u]
  exact Qrb p0 (fun r hr => Q14a p0 H x0 i0 v0_1 hx0 hi0 ho0_0 hc0 hr) _ (Qtm p0 H r0 (i0 + 1) (v0_1 ++ [(Qad x0)]) hd' (by first | omega | (simp; omega)))
def Q53 (p0 : List Container) : Val := vL (p0.map Container.enc)
theorem Q11h (p0 : List Container) : Q53 p0 = ((Qbf (Q3u p0 p0 0 []))) := by
  rw [Qr2]
  rfl
def Q132 (p0 : List Container) : En := .call 107 [.sl (Container.rows p0), .fn 108 [] []] []
def Qon (p0 : List Container) : Rs := .ret (.agg (Val.cells (Q53 p0))) []
def Qcx (p0 : List Container) : Prop := LSm Container.sm p0
theorem Qap (p0 : List Container) (H : Qcx p0) : (Qfe p0) ∧ (Qc5 (Q3u p0 p0 0 [])) ∧ True := by
  refine ⟨⟨Nat.le_trans H.1 (Nat.le_of_ble_eq_true rfl), H.2, trivial⟩, ⟨?_, trivial⟩, trivial⟩
  rw [Qr2]
  exact Q2a (fun _ h => Container.Q1i h) H
theorem Q12s (p0 : List Container) (H : Qcx p0) : Q6 G (Q132 p0) (Qon p0) := by
 unfold Qon
 rw [Q11h]
 have hl0 := Qtm p0 ((Qap p0 H).1) p0 0 [] (by simp) (by simp)
 obtain ⟨z0, zo0, hl0⟩ := hl0
 exact Qb (fn := Ir.K1t) rfl VOK.nil [hP 3 (Qe (Container.rows p0) (List.length p0) (Container.Q5 p0)), hS 0 true (Val.Q7 (Q3u p0 p0 0 []) 5 rfl), hQ (Val.Q5 (Q3u p0 p0 0 [])).symm] [aV [(1, Val.rows (Q3u p0 p0 0 []))] hl0, aN (Qdv (Q3u p0 p0 0 []) (Qap p0 H).2.1)] (by kernel_rfl)
def Q3m (p0 : List ByteArray) : List ByteArray → Nat → (List Val) → List Val
 | [], _i0, v0_1 =>
  v0_1
 | x0 :: r0, i0, v0_1 =>
  Q3m p0 r0 (i0 + 1) (v0_1 ++ [(Q1h x0)])
theorem Qqx (p0 : List ByteArray) : ∀ (l : List ByteArray) (i : Nat) (a : List Val), Q3m p0 l i a = a ++ l.map (fun x0 => (Q1h x0))
  | [], _, _ => by simp [Q3m]
  | x :: r, i, a => by rw [Q3m, Qqx p0 r]; simp
def Qta (p0 : List ByteArray) (i0 : Nat) (v0_1 : List Val) : List PV :=
  [.un, .fn 109 [] [], .un, .un, .bx 0 0, .ms 1 5 0 (List.length v0_1), .un, .un, .sl (Qf p0), .int .i64 ((List.length p0) : Int), .int .i64 (i0 : Int)] ++ nuns 12
def Qkz (_p0 : List ByteArray) (_i0 : Nat) (v0_1 : List Val) : List Ob :=
  [⟨5, 0, true, [.int .i64 0, .int .i64 0, .str (⟨#[]⟩ : ByteArray), .ms 2 5 0 0, .ms 3 6 0 0]⟩, ⟨5, 0, true, (Val.rows v0_1).flatten⟩, ⟨5, 0, true, []⟩, ⟨6, 0, true, []⟩]
def Qg9 (p0 : List ByteArray) (i0 : Nat) (v0_1 : List Val) : En := .loop 0 Ir.Qhm Ir.Q1ae (Qta p0 i0 v0_1) (Qkz p0 i0 v0_1)
def Qpe (_p0 : List ByteArray) (q0 : List Val) (z : Nat → PV) (_zo : Nat → List PV) : St :=
  ⟨[z 0, z 1, z 2, z 3, .bx 0 0, .ms 1 5 0 (List.length q0)] ++ zr z 6 17, [(0, ⟨5, 0, true, [.int .i64 0, .int .i64 0, .str (⟨#[]⟩ : ByteArray), .ms 2 5 0 0, .ms 3 6 0 0]⟩), (1, ⟨5, 0, true, (Val.rows q0).flatten⟩), (2, ⟨5, 0, true, []⟩), (3, ⟨6, 0, true, []⟩)], 68⟩
theorem Qxo (p0 : List ByteArray) (i0 : Nat) (v0_1 : List Val) : VOK (Go.Pv.look (number 0 (Qkz p0 i0 v0_1))) [(1, Val.rows v0_1)] := (VOK.cons (show Seen _ _ from Q3j (ob := ⟨5, 0, true, (Val.rows v0_1).flatten⟩) (Val.Q7 v0_1 5 rfl)) VOK.nil)
def Qfk (p0 : List ByteArray) (e : En) (q : List Val) : Prop := ∃ z zo, Q6 G e (.st (.exit 0) (Qpe p0 q z zo))
theorem Qri (p0 : List ByteArray) {e e' : En} (h : ∀ r, Q6 G e r → Q6 G e' r) : ∀ q, Qfk p0 e q → Qfk p0 e' q
  | _, ⟨z, zo, hz⟩ => ⟨z, zo, h _ hz⟩
def Qgc (p0 : List ByteArray) : Prop := (List.length p0 ≤ 137438953472) ∧ True
def Qme (p0 : List ByteArray) (i0 : Nat) (_v0_1 : List Val) : List PV :=
  [.un, .fn 109 [] []] ++ nuns 6 ++ [.sl (Qf p0), .int .i64 ((List.length p0) : Int), .int .i64 (i0 : Int), .bool false]
def Qkt (_p0 : List ByteArray) (_i0 : Nat) (_v0_1 : List Val) : List (Nat × List PV) :=
  []
theorem Q12v (p0 : List ByteArray) (_H : Qgc p0) (i0 : Nat) (v0_1 : List Val) (_ho0_0 : List.length v0_1 ≤ i0) (hc0 : (decide ((i0 : Int) < ((List.length p0) : Int))) = false) : Qfk p0 (Qg9 p0 i0 v0_1) v0_1 := by
 exact ⟨(envF (Qme p0 i0 v0_1)), (zoF (Qkt p0 i0 v0_1)), Qg (Qxo p0 i0 v0_1) (x := ((.exit 0), Qpe p0 v0_1 (envF (Qme p0 i0 v0_1)) (zoF (Qkt p0 i0 v0_1)))) [hB 0 hc0] [] (by kernel_rfl)⟩
theorem Q13p (p0 : List ByteArray) (H : Qgc p0) (x0 : ByteArray) (i0 : Nat) (v0_1 : List Val) (hx0 : p0[i0]? = some x0) (hi0 : i0 < List.length p0) (ho0_0 : List.length v0_1 ≤ i0) (hc0 : (decide ((i0 : Int) < ((List.length p0) : Int))) = true) {r : Rs} (hr : Q6 G (Qg9 p0 (i0 + 1) (v0_1 ++ [(Q1h x0)])) r) : Q6 G (Qg9 p0 i0 v0_1) r := by
 have hB0 := H.1
 exact Qk (Qxo p0 i0 v0_1) (y := (Qta p0 (i0 + 1) (v0_1 ++ [(Q1h x0)]), Qkz p0 (i0 + 1) (v0_1 ++ [(Q1h x0)]))) [hB 0 hc0, hP 0 (Q1f 1 (Qf p0) i0 _ (Q3g hx0) rfl), hV 7 [(580, Val.rows (v0_1 ++ [(Q1h x0)]))] (Q5h 1 516 580 5 80 0 0 true (Val.rows v0_1) (Val.rows (v0_1 ++ [(Q1h x0)])) (Val.cells (Q1h x0)) (List.length v0_1) (List.length (v0_1 ++ [(Q1h x0)])) rfl (Val.Q5 v0_1).symm (Val.Q5 (v0_1 ++ [(Q1h x0)])).symm (Val.Q15 v0_1 (Q1h x0)) (Val.Qi v0_1) rfl (by omega)), hS 0 true (Val.Q7 (v0_1 ++ [(Q1h x0)]) 5 rfl), hP 1 (Q1y i0 (by omega))] [aN (Q8g x0)] (by kernel_rfl) hr
theorem Qss (p0 : List ByteArray) (H : Qgc p0) : ∀ (r0 : List ByteArray) (i0 : Nat) (v0_1 : List Val), List.drop i0 p0 = r0 → List.length v0_1 ≤ i0 → Qfk p0 (Qg9 p0 i0 v0_1) (Q3m p0 r0 i0 v0_1)
 | [], i0, v0_1, hd, ho0_0 => by
  have hc0 : (decide ((i0 : Int) < ((List.length p0) : Int))) = false := by have := Q1b hd; simp; omega
  rw [Q3m]
  exact Q12v p0 H i0 v0_1 ho0_0 hc0
 | x0 :: r0, i0, v0_1, hd, ho0_0 => by
  obtain ⟨hx0, hi0, hd'⟩ := Q14 hd
  have hc0 : (decide ((i0 : Int) < ((List.length p0) : Int))) = true := by simp; omega
  rw [Q3m]
  exact Qri p0 (fun r hr => Q13p p0 H x0 i0 v0_1 hx0 hi0 ho0_0 hc0 hr) _ (Qss p0 H r0 (i0 + 1) (v0_1 ++ [(Q1h x0)]) hd' (by first | omega | (simp; omega)))
def Q5b (p0 : List ByteArray) : Val := vL (p0.map vS)
theorem Q117 (p0 : List ByteArray) : Q5b p0 = ((Qbf (Q3m p0 p0 0 []))) := by
  rw [Qqx]
  rfl
def Q10z (p0 : List ByteArray) : En := .call 148 [.sl (Qf p0), .fn 109 [] []] []
def Qpi (p0 : List ByteArray) : Rs := .ret (.agg (Val.cells (Q5b p0))) []
def Qca (p0 : List ByteArray) : Prop := LSm (fun _ : ByteArray => True) p0
theorem Qb0 (p0 : List ByteArray) (H : Qca p0) : (Qgc p0) ∧ (Qc5 (Q3m p0 p0 0 [])) ∧ True := by
  refine ⟨⟨Nat.le_trans H.1 (Nat.le_of_ble_eq_true rfl), trivial⟩, ⟨?_, trivial⟩, trivial⟩
  rw [Qqx]
  exact Q2a (fun _ _ => Val.Sm.leaf _ _ _) H
theorem Q12g (p0 : List ByteArray) (H : Qca p0) : Q6 G (Q10z p0) (Qpi p0) := by
 unfold Qpi
 rw [Q117]
 have hl0 := Qss p0 ((Qb0 p0 H).1) p0 0 [] (by simp) (by simp)
 obtain ⟨z0, zo0, hl0⟩ := hl0
 exact Qb (fn := Ir.K21) rfl VOK.nil [hP 3 (Qe (Qf p0) (List.length p0) (Q18 p0)), hS 0 true (Val.Q7 (Q3m p0 p0 0 []) 5 rfl), hQ (Val.Q5 (Q3m p0 p0 0 [])).symm] [aV [(1, Val.rows (Q3m p0 p0 0 []))] hl0, aN (Qdv (Q3m p0 p0 0 []) (Qb0 p0 H).2.1)] (by kernel_rfl)
def Qag (p0 : Requirement) : Val := Requirement.enc p0
theorem Q1jk (p0 : Requirement) : Qag p0 = ((Q5f ([(Q9 Qx (Q1h p0.key)), (Q9 Q5s (Qs p0.op)), (Q9 Q1w (Q5b p0.values))]))) := by
  exact Eq.symm (Q2z (by exact Nat.le_of_ble_eq_true rfl) (by kernel_rfl))
def Q1gl (p0 : Requirement) : En := .call 111 [.agg (Requirement.cells p0)] []
def Q1en (p0 : Requirement) : Rs := .ret (.agg (Val.cells (Qag p0))) []
def Q1b8 (p0 : Requirement) : Prop := Requirement.sm p0
theorem Qyu (p0 : Requirement) (H : Q1b8 p0) : (Qca p0.values) ∧ (Q7v ([(Q9 Qx (Q1h p0.key)), (Q9 Q5s (Qs p0.op)), (Q9 Q1w (Q5b p0.values))])) ∧ True := by
  repeat' with_reducible apply And.intro
  all_goals first | exact True.intro | exact H | exact H.1 | exact H.2.1 | exact H.2.2.1 | exact H.2.2.2.1 | exact H.2.2.2.2.1 | exact H.2.2.2.2.2.1 | exact H.2.2.2.2.2.2.1 | exact H.2.2.2.2.2.2.2.1 | exact H.2.2.2.2.2.2.2.2.1 | exact H.2.2.2.2.2.2.2.2.2.1 | exact H.2.2.2.2.2.2.2.2.2.2.1 | exact Q8h (by exact Nat.le_of_ble_eq_true rfl) (Requirement.Q1i H).all.2.2.2
theorem Q1kk (p0 : Requirement) (H : Q1b8 p0) : Q6 G (Q1gl p0) (Q1en p0) := by
 unfold Q1en
 rw [Q1jk]
 exact Qb (fn := Ir.K1k) rfl VOK.nil [] [aN (Q8g p0.key), aN (Q1r Qx (Q1h p0.key)), aN (Q4s p0.op), aN (Q1r Q5s (Qs p0.op)), aN (Q12g p0.values (Qyu p0 H).1), aN (Q1r Q1w (Q5b p0.values)), aN (Q3v (e' := .call 61 [.sl [(Fld.cells (Q9 Qx (Q1h p0.key))), (Fld.cells (Q9 Q5s (Qs p0.op))), (Fld.cells (Q9 Q1w (Q5b p0.values)))]] []) (Q8s ([(Q9 Qx (Q1h p0.key)), (Q9 Q5s (Qs p0.op)), (Q9 Q1w (Q5b p0.values))]) (Qyu p0 H).2.1) (by simp only [Q85, Fld.Qo, Fld.Qy]))] (by kernel_rfl)
def Q3q (p0 : List Requirement) : List Requirement → Nat → (List Val) → List Val
 | [], _i0, v0_1 =>
  v0_1
 | x0 :: r0, i0, v0_1 =>
  Q3q p0 r0 (i0 + 1) (v0_1 ++ [(Qag x0)])
theorem Qrs (p0 : List Requirement) : ∀ (l : List Requirement) (i : Nat) (a : List Val), Q3q p0 l i a = a ++ l.map (fun x0 => (Qag x0))
  | [], _, _ => by simp [Q3q]
  | x :: r, i, a => by rw [Q3q, Qrs p0 r]; simp
def Qtp (p0 : List Requirement) (i0 : Nat) (v0_1 : List Val) : List PV :=
  [.un, .fn 111 [] [], .un, .un, .bx 0 0, .ms 1 5 0 (List.length v0_1), .un, .un, .sl (Requirement.rows p0), .int .i64 ((List.length p0) : Int), .int .i64 (i0 : Int)] ++ nuns 12
def Qjr (_p0 : List Requirement) (_i0 : Nat) (v0_1 : List Val) : List Ob :=
  [⟨5, 0, true, [.int .i64 0, .int .i64 0, .str (⟨#[]⟩ : ByteArray), .ms 2 5 0 0, .ms 3 6 0 0]⟩, ⟨5, 0, true, (Val.rows v0_1).flatten⟩, ⟨5, 0, true, []⟩, ⟨6, 0, true, []⟩]
def Qf3 (p0 : List Requirement) (i0 : Nat) (v0_1 : List Val) : En := .loop 0 Ir.Qj6 Ir.Q1ao (Qtp p0 i0 v0_1) (Qjr p0 i0 v0_1)
def Qnv (_p0 : List Requirement) (q0 : List Val) (z : Nat → PV) (_zo : Nat → List PV) : St :=
  ⟨[z 0, z 1, z 2, z 3, .bx 0 0, .ms 1 5 0 (List.length q0)] ++ zr z 6 17, [(0, ⟨5, 0, true, [.int .i64 0, .int .i64 0, .str (⟨#[]⟩ : ByteArray), .ms 2 5 0 0, .ms 3 6 0 0]⟩), (1, ⟨5, 0, true, (Val.rows q0).flatten⟩), (2, ⟨5, 0, true, []⟩), (3, ⟨6, 0, true, []⟩)], 68⟩
theorem Qzq (p0 : List Requirement) (i0 : Nat) (v0_1 : List Val) : VOK (Go.Pv.look (number 0 (Qjr p0 i0 v0_1))) [(1, Val.rows v0_1)] := (VOK.cons (show Seen _ _ from Q3j (ob := ⟨5, 0, true, (Val.rows v0_1).flatten⟩) (Val.Q7 v0_1 5 rfl)) VOK.nil)
def Qfv (p0 : List Requirement) (e : En) (q : List Val) : Prop := ∃ z zo, Q6 G e (.st (.exit 0) (Qnv p0 q z zo))
theorem Qqg (p0 : List Requirement) {e e' : En} (h : ∀ r, Q6 G e r → Q6 G e' r) : ∀ q, Qfv p0 e q → Qfv p0 e' q
  | _, ⟨z, zo, hz⟩ => ⟨z, zo, h _ hz⟩
def Qfj (p0 : List Requirement) : Prop := (List.length p0 ≤ 137438953472) ∧ (∀ x0 ∈ p0, Q1b8 x0) ∧ True
def Qnw (p0 : List Requirement) (i0 : Nat) (_v0_1 : List Val) : List PV :=
  [.un, .fn 111 [] []] ++ nuns 6 ++ [.sl (Requirement.rows p0), .int .i64 ((List.length p0) : Int), .int .i64 (i0 : Int), .bool false]
def Qgj (_p0 : List Requirement) (_i0 : Nat) (_v0_1 : List Val) : List (Nat × List PV) :=
  []
theorem Q13u (p0 : List Requirement) (_H : Qfj p0) (i0 : Nat) (v0_1 : List Val) (_ho0_0 : List.length v0_1 ≤ i0) (hc0 : (decide ((i0 : Int) < ((List.length p0) : Int))) = false) : Qfv p0 (Qf3 p0 i0 v0_1) v0_1 := by
 exact ⟨(envF (Qnw p0 i0 v0_1)), (zoF (Qgj p0 i0 v0_1)), Qg (Qzq p0 i0 v0_1) (x := ((.exit 0), Qnv p0 v0_1 (envF (Qnw p0 i0 v0_1)) (zoF (Qgj p0 i0 v0_1)))) [hB 0 hc0] [] (by kernel_rfl)⟩
theorem Q10s (p0 : List Requirement) (H : Qfj p0) (x0 : Requirement) (i0 : Nat) (v0_1 : List Val) (hx0 : p0[i0]? = some x0) (hi0 : i0 < List.length p0) (ho0_0 : List.length v0_1 ≤ i0) (hc0 : (decide ((i0 : Int) < ((List.length p0) : Int))) = true) {r : Rs} (hr : Q6 G (Qf3 p0 (i0 + 1) (v0_1 ++ [(Qag x0)])) r) : Q6 G (Qf3 p0 i0 v0_1) r := by
 have hB0 := H.1
 exact Qk (Qzq p0 i0 v0_1) (y := (Qtp p0 (i0 + 1) (v0_1 ++ [(Qag x0)]), Qjr p0 (i0 + 1) (v0_1 ++ [(Qag x0)]))) [hB 0 hc0, hP 0 (Q1f 3 (Requirement.rows p0) i0 _ (Requirement.Qa hx0) rfl), hV 8 [(644, Val.rows (v0_1 ++ [(Qag x0)]))] (Q5h 1 580 644 5 80 0 0 true (Val.rows v0_1) (Val.rows (v0_1 ++ [(Qag x0)])) (Val.cells (Qag x0)) (List.length v0_1) (List.length (v0_1 ++ [(Qag x0)])) rfl (Val.Q5 v0_1).symm (Val.Q5 (v0_1 ++ [(Qag x0)])).symm (Val.Q15 v0_1 (Qag x0)) (Val.Qi v0_1) rfl (by omega)), hS 0 true (Val.Q7 (v0_1 ++ [(Qag x0)]) 5 rfl), hP 1 (Q1y i0 (by omega))] [aN (Q1kk x0 (H.2.1 x0 (Q29 hx0)))] (by kernel_rfl) hr
theorem Qvg (p0 : List Requirement) (H : Qfj p0) : ∀ (r0 : List Requirement) (i0 : Nat) (v0_1 : List Val), List.drop i0 p0 = r0 → List.length v0_1 ≤ i0 → Qfv p0 (Qf3 p0 i0 v0_1) (Q3q p0 r0 i0 v0_1)
 | [], i0, v0_1, hd, ho0_0 => by
  have hc0 : (decide ((i0 : Int) < ((List.length p0) : Int))) = false := by have := Q1b hd; simp; omega
  rw [Q3q]
  exact Q13u p0 H i0 v0_1 ho0_0 hc0
 | x0 :: r0, i0, v0_1, hd, ho0_0 => by
  obtain ⟨hx0, hi0, hd'⟩ := Q14 hd
  have hc0 : (decide ((i0 : Int) < ((List.length p0) : Int))) = true := by simp; omega
  rw [Q3q]
  exact Qqg p0 (fun r hr => Q10s p0 H x0 i0 v0_1 hx0 hi0 ho0_0 hc0 hr) _ (Qvg p0 H r0 (i0 + 1) (v0_1 ++ [(Qag x0)]) hd' (by first | omega | (simp; omega)))
def Q1s (p0 : List Requirement) : Val := vL (p0.map Requirement.enc)
theorem Q14f (p0 : List Requirement) : Q1s p0 = ((Qbf (Q3q p0 p0 0 []))) := by
  rw [Qrs]
  rfl
def Q12q (p0 : List Requirement) : En := .call 110 [.sl (Requirement.rows p0), .fn 111 [] []] []
def Qoy (p0 : List Requirement) : Rs := .ret (.agg (Val.cells (Q1s p0))) []
def Q5y (p0 : List Requirement) : Prop := LSm Requirement.sm p0
theorem Qb5 (p0 : List Requirement) (H : Q5y p0) : (Qfj p0) ∧ (Qc5 (Q3q p0 p0 0 [])) ∧ True := by
  refine ⟨⟨Nat.le_trans H.1 (Nat.le_of_ble_eq_true rfl), H.2, trivial⟩, ⟨?_, trivial⟩, trivial⟩
  rw [Qrs]
  exact Q2a (fun _ h => Requirement.Q1i h) H
theorem Q96 (p0 : List Requirement) (H : Q5y p0) : Q6 G (Q12q p0) (Qoy p0) := by
 unfold Qoy
 rw [Q14f]
 have hl0 := Qvg p0 ((Qb5 p0 H).1) p0 0 [] (by simp) (by simp)
 obtain ⟨z0, zo0, hl0⟩ := hl0
 exact Qb (fn := Ir.K1u) rfl VOK.nil [hP 3 (Qe (Requirement.rows p0) (List.length p0) (Requirement.Q5 p0)), hS 0 true (Val.Q7 (Q3q p0 p0 0 []) 5 rfl), hQ (Val.Q5 (Q3q p0 p0 0 [])).symm] [aV [(1, Val.rows (Q3q p0 p0 0 []))] hl0, aN (Qdv (Q3q p0 p0 0 []) (Qb5 p0 H).2.1)] (by kernel_rfl)
def Q23 (p0 : Bool) : Val := vB p0
theorem Q1gd (p0 : Bool) : Q23 p0 = (bif p0 then
    (Val.mk 1 1 (⟨#[]⟩ : ByteArray) [] [])
  else
    (Val.mk 1 0 (⟨#[]⟩ : ByteArray) [] [])) := by
  cases p0 <;> rfl
def Q1js (p0 : Bool) : En := .call 64 [.bool p0] []
def Q1fd (p0 : Bool) : Rs := .ret (.agg (Val.cells (Q23 p0))) []
theorem Qdr (p0 : Bool) : Q6 G (Q1js p0) (Q1fd p0) := by
 unfold Q1fd
 rw [Q1gd]
 cases h0 : p0 with
 | true =>
  exact Qb (fn := Ir.K3v) rfl VOK.nil [] [] (by kernel_rfl)
 | false =>
  exact Qb (fn := Ir.K3v) rfl VOK.nil [] [] (by kernel_rfl)
def Qal (p0 : NodeTerm) : Val := NodeTerm.enc p0
theorem Q1h7 (p0 : NodeTerm) : Qal p0 = ((Q5f ([(Q9 Qd (Q23 p0.required)), (Q9 Qc (Q1s p0.selector)), (Q9 Qu (Qs p0.weight))]))) := by
  exact Eq.symm (Q2z (by exact Nat.le_of_ble_eq_true rfl) (by kernel_rfl))
def Q1j5 (p0 : NodeTerm) : En := .call 113 [.agg (NodeTerm.cells p0)] []
def Q1dg (p0 : NodeTerm) : Rs := .ret (.agg (Val.cells (Qal p0))) []
def Q1ck (p0 : NodeTerm) : Prop := NodeTerm.sm p0
theorem Qyk (p0 : NodeTerm) (H : Q1ck p0) : (Q5y p0.selector) ∧ (Q7v ([(Q9 Qd (Q23 p0.required)), (Q9 Qc (Q1s p0.selector)), (Q9 Qu (Qs p0.weight))])) ∧ True := by
  repeat' with_reducible apply And.intro
  all_goals first | exact True.intro | exact H | exact H.1 | exact H.2.1 | exact H.2.2.1 | exact H.2.2.2.1 | exact H.2.2.2.2.1 | exact H.2.2.2.2.2.1 | exact H.2.2.2.2.2.2.1 | exact H.2.2.2.2.2.2.2.1 | exact H.2.2.2.2.2.2.2.2.1 | exact H.2.2.2.2.2.2.2.2.2.1 | exact H.2.2.2.2.2.2.2.2.2.2.1 | exact Q8h (by exact Nat.le_of_ble_eq_true rfl) (NodeTerm.Q1i H).all.2.2.2
theorem Q1ku (p0 : NodeTerm) (H : Q1ck p0) : Q6 G (Q1j5 p0) (Q1dg p0) := by
 unfold Q1dg
 rw [Q1h7]
 exact Qb (fn := Ir.K1h) rfl VOK.nil [] [aN (Qdr p0.required), aN (Q1r Qd (Q23 p0.required)), aN (Q96 p0.selector (Qyk p0 H).1), aN (Q1r Qc (Q1s p0.selector)), aN (Q4s p0.weight), aN (Q1r Qu (Qs p0.weight)), aN (Q3v (e' := .call 61 [.sl [(Fld.cells (Q9 Qd (Q23 p0.required))), (Fld.cells (Q9 Qc (Q1s p0.selector))), (Fld.cells (Q9 Qu (Qs p0.weight)))]] []) (Q8s ([(Q9 Qd (Q23 p0.required)), (Q9 Qc (Q1s p0.selector)), (Q9 Qu (Qs p0.weight))]) (Qyk p0 H).2.1) (by simp only [Q85, Fld.Qo, Fld.Qy]))] (by kernel_rfl)
def Q3y (p0 : List NodeTerm) : List NodeTerm → Nat → (List Val) → List Val
 | [], _i0, v0_1 =>
  v0_1
 | x0 :: r0, i0, v0_1 =>
  Q3y p0 r0 (i0 + 1) (v0_1 ++ [(Qal x0)])
theorem Qqb (p0 : List NodeTerm) : ∀ (l : List NodeTerm) (i : Nat) (a : List Val), Q3y p0 l i a = a ++ l.map (fun x0 => (Qal x0))
  | [], _, _ => by simp [Q3y]
  | x :: r, i, a => by rw [Q3y, Qqb p0 r]; simp
def Qt9 (p0 : List NodeTerm) (i0 : Nat) (v0_1 : List Val) : List PV :=
  [.un, .fn 113 [] [], .un, .un, .bx 0 0, .ms 1 5 0 (List.length v0_1), .un, .un, .sl (NodeTerm.rows p0), .int .i64 ((List.length p0) : Int), .int .i64 (i0 : Int)] ++ nuns 12
def Qjz (_p0 : List NodeTerm) (_i0 : Nat) (v0_1 : List Val) : List Ob :=
  [⟨5, 0, true, [.int .i64 0, .int .i64 0, .str (⟨#[]⟩ : ByteArray), .ms 2 5 0 0, .ms 3 6 0 0]⟩, ⟨5, 0, true, (Val.rows v0_1).flatten⟩, ⟨5, 0, true, []⟩, ⟨6, 0, true, []⟩]
def Qet (p0 : List NodeTerm) (i0 : Nat) (v0_1 : List Val) : En := .loop 0 Ir.Qj9 Ir.Q19p (Qt9 p0 i0 v0_1) (Qjz p0 i0 v0_1)
def Qlk (_p0 : List NodeTerm) (q0 : List Val) (z : Nat → PV) (_zo : Nat → List PV) : St :=
  ⟨[z 0, z 1, z 2, z 3, .bx 0 0, .ms 1 5 0 (List.length q0)] ++ zr z 6 17, [(0, ⟨5, 0, true, [.int .i64 0, .int .i64 0, .str (⟨#[]⟩ : ByteArray), .ms 2 5 0 0, .ms 3 6 0 0]⟩), (1, ⟨5, 0, true, (Val.rows q0).flatten⟩), (2, ⟨5, 0, true, []⟩), (3, ⟨6, 0, true, []⟩)], 68⟩
theorem Qyw (p0 : List NodeTerm) (i0 : Nat) (v0_1 : List Val) : VOK (Go.Pv.look (number 0 (Qjz p0 i0 v0_1))) [(1, Val.rows v0_1)] := (VOK.cons (show Seen _ _ from Q3j (ob := ⟨5, 0, true, (Val.rows v0_1).flatten⟩) (Val.Q7 v0_1 5 rfl)) VOK.nil)
def Qfx (p0 : List NodeTerm) (e : En) (q : List Val) : Prop := ∃ z zo, Q6 G e (.st (.exit 0) (Qlk p0 q z zo))
theorem Qr9 (p0 : List NodeTerm) {e e' : En} (h : ∀ r, Q6 G e r → Q6 G e' r) : ∀ q, Qfx p0 e q → Qfx p0 e' q
  | _, ⟨z, zo, hz⟩ => ⟨z, zo, h _ hz⟩
def Qeo (p0 : List NodeTerm) : Prop := (List.length p0 ≤ 137438953472) ∧ (∀ x0 ∈ p0, Q1ck x0) ∧ True
def Qmh (p0 : List NodeTerm) (i0 : Nat) (_v0_1 : List Val) : List PV :=
  [.un, .fn 113 [] []] ++ nuns 6 ++ [.sl (NodeTerm.rows p0), .int .i64 ((List.length p0) : Int), .int .i64 (i0 : Int), .bool false]
def Qhz (_p0 : List NodeTerm) (_i0 : Nat) (_v0_1 : List Val) : List (Nat × List PV) :=
  []
theorem Q13g (p0 : List NodeTerm) (_H : Qeo p0) (i0 : Nat) (v0_1 : List Val) (_ho0_0 : List.length v0_1 ≤ i0) (hc0 : (decide ((i0 : Int) < ((List.length p0) : Int))) = false) : Qfx p0 (Qet p0 i0 v0_1) v0_1 := by
 exact ⟨(envF (Qmh p0 i0 v0_1)), (zoF (Qhz p0 i0 v0_1)), Qg (Qyw p0 i0 v0_1) (x := ((.exit 0), Qlk p0 v0_1 (envF (Qmh p0 i0 v0_1)) (zoF (Qhz p0 i0 v0_1)))) [hB 0 hc0] [] (by kernel_rfl)⟩
theorem Q13l (p0 : List NodeTerm) (H : Qeo p0) (x0 : NodeTerm) (i0 : Nat) (v0_1 : List Val) (hx0 : p0[i0]? = some x0) (hi0 : i0 < List.length p0) (ho0_0 : List.length v0_1 ≤ i0) (hc0 : (decide ((i0 : Int) < ((List.length p0) : Int))) = true) {r : Rs} (hr : Q6 G (Qet p0 (i0 + 1) (v0_1 ++ [(Qal x0)])) r) : Q6 G (Qet p0 i0 v0_1) r := by
 have hB0 := H.1
 exact Qk (Qyw p0 i0 v0_1) (y := (Qt9 p0 (i0 + 1) (v0_1 ++ [(Qal x0)]), Qjz p0 (i0 + 1) (v0_1 ++ [(Qal x0)]))) [hB 0 hc0, hP 0 (Q1f 3 (NodeTerm.rows p0) i0 _ (NodeTerm.Qa hx0) rfl), hV 8 [(644, Val.rows (v0_1 ++ [(Qal x0)]))] (Q5h 1 580 644 5 80 0 0 true (Val.rows v0_1) (Val.rows (v0_1 ++ [(Qal x0)])) (Val.cells (Qal x0)) (List.length v0_1) (List.length (v0_1 ++ [(Qal x0)])) rfl (Val.Q5 v0_1).symm (Val.Q5 (v0_1 ++ [(Qal x0)])).symm (Val.Q15 v0_1 (Qal x0)) (Val.Qi v0_1) rfl (by omega)), hS 0 true (Val.Q7 (v0_1 ++ [(Qal x0)]) 5 rfl), hP 1 (Q1y i0 (by omega))] [aN (Q1ku x0 (H.2.1 x0 (Q29 hx0)))] (by kernel_rfl) hr
theorem Qs6 (p0 : List NodeTerm) (H : Qeo p0) : ∀ (r0 : List NodeTerm) (i0 : Nat) (v0_1 : List Val), List.drop i0 p0 = r0 → List.length v0_1 ≤ i0 → Qfx p0 (Qet p0 i0 v0_1) (Q3y p0 r0 i0 v0_1)
 | [], i0, v0_1, hd, ho0_0 => by
  have hc0 : (decide ((i0 : Int) < ((List.length p0) : Int))) = false := by have := Q1b hd; simp; omega
  rw [Q3y]
  exact Q13g p0 H i0 v0_1 ho0_0 hc0
 | x0 :: r0, i0, v0_1, hd, ho0_0 => by
  obtain ⟨hx0, hi0, hd'⟩ := Q14 hd
  have hc0 : (decide ((i0 : Int) < ((List.length p0) : Int))) = true := by simp; omega
  rw [Q3y]
  exact Qr9 p0 (fun r hr => Q13l p0 H x0 i0 v0_1 hx0 hi0 ho0_0 hc0 hr) _ (Qs6 p0 H r0 (i0 + 1) (v0_1 ++ [(Qal x0)]) hd' (by first | omega | (simp; omega)))
def Q57 (p0 : List NodeTerm) : Val := vL (p0.map NodeTerm.enc)
theorem Q14l (p0 : List NodeTerm) : Q57 p0 = ((Qbf (Q3y p0 p0 0 []))) := by
  rw [Qqb]
  rfl
def Q143 (p0 : List NodeTerm) : En := .call 112 [.sl (NodeTerm.rows p0), .fn 113 [] []] []
def Qnd (p0 : List NodeTerm) : Rs := .ret (.agg (Val.cells (Q57 p0))) []
def Qcc (p0 : List NodeTerm) : Prop := LSm NodeTerm.sm p0
theorem Qbm (p0 : List NodeTerm) (H : Qcc p0) : (Qeo p0) ∧ (Qc5 (Q3y p0 p0 0 [])) ∧ True := by
  refine ⟨⟨Nat.le_trans H.1 (Nat.le_of_ble_eq_true rfl), H.2, trivial⟩, ⟨?_, trivial⟩, trivial⟩
  rw [Qqb]
  exact Q2a (fun _ h => NodeTerm.Q1i h) H
theorem Q118 (p0 : List NodeTerm) (H : Qcc p0) : Q6 G (Q143 p0) (Qnd p0) := by
 unfold Qnd
 rw [Q14l]
 have hl0 := Qs6 p0 ((Qbm p0 H).1) p0 0 [] (by simp) (by simp)
 obtain ⟨z0, zo0, hl0⟩ := hl0
 exact Qb (fn := Ir.K1v) rfl VOK.nil [hP 3 (Qe (NodeTerm.rows p0) (List.length p0) (NodeTerm.Q5 p0)), hS 0 true (Val.Q7 (Q3y p0 p0 0 []) 5 rfl), hQ (Val.Q5 (Q3y p0 p0 0 [])).symm] [aV [(1, Val.rows (Q3y p0 p0 0 []))] hl0, aN (Qdv (Q3y p0 p0 0 []) (Qbm p0 H).2.1)] (by kernel_rfl)
def Qa8 (p0 : PodTerm) : Val := PodTerm.enc p0
theorem Q1is (p0 : PodTerm) : Qa8 p0 = ((Q5f ([(Q9 Q2u (Q23 p0.anti)), (Q9 Qd (Q23 p0.required)), (Q9 Qc (Q1s p0.selector)), (Q9 Qm (Q1h p0.topology)), (Q9 Qu (Qs p0.weight))]))) := by
  exact Eq.symm (Q2z (by exact Nat.le_of_ble_eq_true rfl) (by kernel_rfl))
def Q1kg (p0 : PodTerm) : En := .call 115 [.agg (PodTerm.cells p0)] []
def Q1e0 (p0 : PodTerm) : Rs := .ret (.agg (Val.cells (Qa8 p0))) []
def Q1bj (p0 : PodTerm) : Prop := PodTerm.sm p0
theorem Qxx (p0 : PodTerm) (H : Q1bj p0) : (Q5y p0.selector) ∧ (Q7v ([(Q9 Q2u (Q23 p0.anti)), (Q9 Qd (Q23 p0.required)), (Q9 Qc (Q1s p0.selector)), (Q9 Qm (Q1h p0.topology)), (Q9 Qu (Qs p0.weight))])) ∧ True := by
  repeat' with_reducible apply And.intro
  all_goals first | exact True.intro | exact H | exact H.1 | exact H.2.1 | exact H.2.2.1 | exact H.2.2.2.1 | exact H.2.2.2.2.1 | exact H.2.2.2.2.2.1 | exact H.2.2.2.2.2.2.1 | exact H.2.2.2.2.2.2.2.1 | exact H.2.2.2.2.2.2.2.2.1 | exact H.2.2.2.2.2.2.2.2.2.1 | exact H.2.2.2.2.2.2.2.2.2.2.1 | exact Q8h (by exact Nat.le_of_ble_eq_true rfl) (PodTerm.Q1i H).all.2.2.2
theorem Q1kc (p0 : PodTerm) (H : Q1bj p0) : Q6 G (Q1kg p0) (Q1e0 p0) := by
 unfold Q1e0
 rw [Q1is]
 exact Qb (fn := Ir.K1i) rfl VOK.nil [] [aN (Qdr p0.anti), aN (Q1r Q2u (Q23 p0.anti)), aN (Qdr p0.required), aN (Q1r Qd (Q23 p0.required)), aN (Q96 p0.selector (Qxx p0 H).1), aN (Q1r Qc (Q1s p0.selector)), aN (Q8g p0.topology), aN (Q1r Qm (Q1h p0.topology)), aN (Q4s p0.weight), aN (Q1r Qu (Qs p0.weight)), aN (Q3v (e' := .call 61 [.sl [(Fld.cells (Q9 Q2u (Q23 p0.anti))), (Fld.cells (Q9 Qd (Q23 p0.required))), (Fld.cells (Q9 Qc (Q1s p0.selector))), (Fld.cells (Q9 Qm (Q1h p0.topology))), (Fld.cells (Q9 Qu (Qs p0.weight)))]] []) (Q8s ([(Q9 Q2u (Q23 p0.anti)), (Q9 Qd (Q23 p0.required)), (Q9 Qc (Q1s p0.selector)), (Q9 Qm (Q1h p0.topology)), (Q9 Qu (Qs p0.weight))]) (Qxx p0 H).2.1) (by simp only [Q85, Fld.Qo, Fld.Qy]))] (by kernel_rfl)
def Q3t (p0 : List PodTerm) : List PodTerm → Nat → (List Val) → List Val
 | [], _i0, v0_1 =>
  v0_1
 | x0 :: r0, i0, v0_1 =>
  Q3t p0 r0 (i0 + 1) (v0_1 ++ [(Qa8 x0)])
theorem Qr6 (p0 : List PodTerm) : ∀ (l : List PodTerm) (i : Nat) (a : List Val), Q3t p0 l i a = a ++ l.map (fun x0 => (Qa8 x0))
  | [], _, _ => by simp [Q3t]
  | x :: r, i, a => by rw [Q3t, Qr6 p0 r]; simp
def Qvy (p0 : List PodTerm) (i0 : Nat) (v0_1 : List Val) : List PV :=
  [.un, .fn 115 [] [], .un, .un, .bx 0 0, .ms 1 5 0 (List.length v0_1), .un, .un, .sl (PodTerm.rows p0), .int .i64 ((List.length p0) : Int), .int .i64 (i0 : Int)] ++ nuns 12
def Qk8 (_p0 : List PodTerm) (_i0 : Nat) (v0_1 : List Val) : List Ob :=
  [⟨5, 0, true, [.int .i64 0, .int .i64 0, .str (⟨#[]⟩ : ByteArray), .ms 2 5 0 0, .ms 3 6 0 0]⟩, ⟨5, 0, true, (Val.rows v0_1).flatten⟩, ⟨5, 0, true, []⟩, ⟨6, 0, true, []⟩]
def Qdw (p0 : List PodTerm) (i0 : Nat) (v0_1 : List Val) : En := .loop 0 Ir.Qhu Ir.Q19k (Qvy p0 i0 v0_1) (Qk8 p0 i0 v0_1)
def Qom (_p0 : List PodTerm) (q0 : List Val) (z : Nat → PV) (_zo : Nat → List PV) : St :=
  ⟨[z 0, z 1, z 2, z 3, .bx 0 0, .ms 1 5 0 (List.length q0)] ++ zr z 6 17, [(0, ⟨5, 0, true, [.int .i64 0, .int .i64 0, .str (⟨#[]⟩ : ByteArray), .ms 2 5 0 0, .ms 3 6 0 0]⟩), (1, ⟨5, 0, true, (Val.rows q0).flatten⟩), (2, ⟨5, 0, true, []⟩), (3, ⟨6, 0, true, []⟩)], 68⟩
theorem Qzb (p0 : List PodTerm) (i0 : Nat) (v0_1 : List Val) : VOK (Go.Pv.look (number 0 (Qk8 p0 i0 v0_1))) [(1, Val.rows v0_1)] := (VOK.cons (show Seen _ _ from Q3j (ob := ⟨5, 0, true, (Val.rows v0_1).flatten⟩) (Val.Q7 v0_1 5 rfl)) VOK.nil)
def Qfi (p0 : List PodTerm) (e : En) (q : List Val) : Prop := ∃ z zo, Q6 G e (.st (.exit 0) (Qom p0 q z zo))
theorem Qrn (p0 : List PodTerm) {e e' : En} (h : ∀ r, Q6 G e r → Q6 G e' r) : ∀ q, Qfi p0 e q → Qfi p0 e' q
  | _, ⟨z, zo, hz⟩ => ⟨z, zo, h _ hz⟩
def Qfs (p0 : List PodTerm) : Prop := (List.length p0 ≤ 137438953472) ∧ (∀ x0 ∈ p0, Q1bj x0) ∧ True
def Qp3 (p0 : List PodTerm) (i0 : Nat) (_v0_1 : List Val) : List PV :=
  [.un, .fn 115 [] []] ++ nuns 6 ++ [.sl (PodTerm.rows p0), .int .i64 ((List.length p0) : Int), .int .i64 (i0 : Int), .bool false]
def Qi1 (_p0 : List PodTerm) (_i0 : Nat) (_v0_1 : List Val) : List (Nat × List PV) :=
  []
theorem Q10j (p0 : List PodTerm) (_H : Qfs p0) (i0 : Nat) (v0_1 : List Val) (_ho0_0 : List.length v0_1 ≤ i0) (hc0 : (decide ((i0 : Int) < ((List.length p0) : Int))) = false) : Qfi p0 (Qdw p0 i0 v0_1) v0_1 := by
 exact ⟨(envF (Qp3 p0 i0 v0_1)), (zoF (Qi1 p0 i0 v0_1)), Qg (Qzb p0 i0 v0_1) (x := ((.exit 0), Qom p0 v0_1 (envF (Qp3 p0 i0 v0_1)) (zoF (Qi1 p0 i0 v0_1)))) [hB 0 hc0] [] (by kernel_rfl)⟩
theorem Q126 (p0 : List PodTerm) (H : Qfs p0) (x0 : PodTerm) (i0 : Nat) (v0_1 : List Val) (hx0 : p0[i0]? = some x0) (hi0 : i0 < List.length p0) (ho0_0 : List.length v0_1 ≤ i0) (hc0 : (decide ((i0 : Int) < ((List.length p0) : Int))) = true) {r : Rs} (hr : Q6 G (Qdw p0 (i0 + 1) (v0_1 ++ [(Qa8 x0)])) r) : Q6 G (Qdw p0 i0 v0_1) r := by
 have hB0 := H.1
 exact Qk (Qzb p0 i0 v0_1) (y := (Qvy p0 (i0 + 1) (v0_1 ++ [(Qa8 x0)]), Qk8 p0 (i0 + 1) (v0_1 ++ [(Qa8 x0)]))) [hB 0 hc0, hP 0 (Q1f 5 (PodTerm.rows p0) i0 _ (PodTerm.Qa hx0) rfl), hV 8 [(644, Val.rows (v0_1 ++ [(Qa8 x0)]))] (Q5h 1 580 644 5 80 0 0 true (Val.rows v0_1) (Val.rows (v0_1 ++ [(Qa8 x0)])) (Val.cells (Qa8 x0)) (List.length v0_1) (List.length (v0_1 ++ [(Qa8 x0)])) rfl (Val.Q5 v0_1).symm (Val.Q5 (v0_1 ++ [(Qa8 x0)])).symm (Val.Q15 v0_1 (Qa8 x0)) (Val.Qi v0_1) rfl (by omega)), hS 0 true (Val.Q7 (v0_1 ++ [(Qa8 x0)]) 5 rfl), hP 1 (Q1y i0 (by omega))] [aN (Q1kc x0 (H.2.1 x0 (Q29 hx0)))] (by kernel_rfl) hr
theorem Qsm (p0 : List PodTerm) (H : Qfs p0) : ∀ (r0 : List PodTerm) (i0 : Nat) (v0_1 : List Val), List.drop i0 p0 = r0 → List.length v0_1 ≤ i0 → Qfi p0 (Qdw p0 i0 v0_1) (Q3t p0 r0 i0 v0_1)
 | [], i0, v0_1, hd, ho0_0 => by
  have hc0 : (decide ((i0 : Int) < ((List.length p0) : Int))) = false := by have := Q1b hd; simp; omega
  rw [Q3t]
  exact Q10j p0 H i0 v0_1 ho0_0 hc0
 | x0 :: r0, i0, v0_1, hd, ho0_0 => by
  obtain ⟨hx0, hi0, hd'⟩ := Q14 hd
  have hc0 : (decide ((i0 : Int) < ((List.length p0) : Int))) = true := by simp; omega
  rw [Q3t]
  exact Qrn p0 (fun r hr => Q126 p0 H x0 i0 v0_1 hx0 hi0 ho0_0 hc0 hr) _ (Qsm p0 H r0 (i0 + 1) (v0_1 ++ [(Qa8 x0)]) hd' (by first | omega | (simp; omega)))
def Q52 (p0 : List PodTerm) : Val := vL (p0.map PodTerm.enc)
theorem Q11n (p0 : List PodTerm) : Q52 p0 = ((Qbf (Q3t p0 p0 0 []))) := by
  rw [Qr6]
  rfl
def Q11z (p0 : List PodTerm) : En := .call 114 [.sl (PodTerm.rows p0), .fn 115 [] []] []
def Qoc (p0 : List PodTerm) : Rs := .ret (.agg (Val.cells (Q52 p0))) []
def Qcf (p0 : List PodTerm) : Prop := LSm PodTerm.sm p0
theorem Qbh (p0 : List PodTerm) (H : Qcf p0) : (Qfs p0) ∧ (Qc5 (Q3t p0 p0 0 [])) ∧ True := by
  refine ⟨⟨Nat.le_trans H.1 (Nat.le_of_ble_eq_true rfl), H.2, trivial⟩, ⟨?_, trivial⟩, trivial⟩
  rw [Qr6]
  exact Q2a (fun _ h => PodTerm.Q1i h) H
theorem Q11s (p0 : List PodTerm) (H : Qcf p0) : Q6 G (Q11z p0) (Qoc p0) := by
 unfold Qoc
 rw [Q11n]
 have hl0 := Qsm p0 ((Qbh p0 H).1) p0 0 [] (by simp) (by simp)
 obtain ⟨z0, zo0, hl0⟩ := hl0
 exact Qb (fn := Ir.K1w) rfl VOK.nil [hP 3 (Qe (PodTerm.rows p0) (List.length p0) (PodTerm.Q5 p0)), hS 0 true (Val.Q7 (Q3t p0 p0 0 []) 5 rfl), hQ (Val.Q5 (Q3t p0 p0 0 [])).symm] [aV [(1, Val.rows (Q3t p0 p0 0 []))] hl0, aN (Qdv (Q3t p0 p0 0 []) (Qbh p0 H).2.1)] (by kernel_rfl)
def Qa7 (p0 : SpreadRule) : Val := SpreadRule.enc p0
theorem Q1gg (p0 : SpreadRule) : Qa7 p0 = ((Q5f ([(Q9 Q1m (Qs p0.maxSkew)), (Q9 Qd (Q23 p0.required)), (Q9 Qc (Q1s p0.selector)), (Q9 Qm (Q1h p0.topology))]))) := by
  exact Eq.symm (Q2z (by exact Nat.le_of_ble_eq_true rfl) (by kernel_rfl))
def Q1l2 (p0 : SpreadRule) : En := .call 117 [.agg (SpreadRule.cells p0)] []
def Q1fy (p0 : SpreadRule) : Rs := .ret (.agg (Val.cells (Qa7 p0))) []
def Q1ct (p0 : SpreadRule) : Prop := SpreadRule.sm p0
theorem Q10c (p0 : SpreadRule) (H : Q1ct p0) : (Q5y p0.selector) ∧ (Q7v ([(Q9 Q1m (Qs p0.maxSkew)), (Q9 Qd (Q23 p0.required)), (Q9 Qc (Q1s p0.selector)), (Q9 Qm (Q1h p0.topology))])) ∧ True := by
  repeat' with_reducible apply And.intro
  all_goals first | exact True.intro | exact H | exact H.1 | exact H.2.1 | exact H.2.2.1 | exact H.2.2.2.1 | exact H.2.2.2.2.1 | exact H.2.2.2.2.2.1 | exact H.2.2.2.2.2.2.1 | exact H.2.2.2.2.2.2.2.1 | exact H.2.2.2.2.2.2.2.2.1 | exact H.2.2.2.2.2.2.2.2.2.1 | exact H.2.2.2.2.2.2.2.2.2.2.1 | exact Q8h (by exact Nat.le_of_ble_eq_true rfl) (SpreadRule.Q1i H).all.2.2.2
theorem Q1hf (p0 : SpreadRule) (H : Q1ct p0) : Q6 G (Q1l2 p0) (Q1fy p0) := by
 unfold Q1fy
 rw [Q1gg]
 exact Qb (fn := Ir.K1n) rfl VOK.nil [] [aN (Q4s p0.maxSkew), aN (Q1r Q1m (Qs p0.maxSkew)), aN (Qdr p0.required), aN (Q1r Qd (Q23 p0.required)), aN (Q96 p0.selector (Q10c p0 H).1), aN (Q1r Qc (Q1s p0.selector)), aN (Q8g p0.topology), aN (Q1r Qm (Q1h p0.topology)), aN (Q3v (e' := .call 61 [.sl [(Fld.cells (Q9 Q1m (Qs p0.maxSkew))), (Fld.cells (Q9 Qd (Q23 p0.required))), (Fld.cells (Q9 Qc (Q1s p0.selector))), (Fld.cells (Q9 Qm (Q1h p0.topology)))]] []) (Q8s ([(Q9 Q1m (Qs p0.maxSkew)), (Q9 Qd (Q23 p0.required)), (Q9 Qc (Q1s p0.selector)), (Q9 Qm (Q1h p0.topology))]) (Q10c p0 H).2.1) (by simp only [Q85, Fld.Qo, Fld.Qy]))] (by kernel_rfl)
def Q3w (p0 : List SpreadRule) : List SpreadRule → Nat → (List Val) → List Val
 | [], _i0, v0_1 =>
  v0_1
 | x0 :: r0, i0, v0_1 =>
  Q3w p0 r0 (i0 + 1) (v0_1 ++ [(Qa7 x0)])
theorem Qqj (p0 : List SpreadRule) : ∀ (l : List SpreadRule) (i : Nat) (a : List Val), Q3w p0 l i a = a ++ l.map (fun x0 => (Qa7 x0))
  | [], _, _ => by simp [Q3w]
  | x :: r, i, a => by rw [Q3w, Qqj p0 r]; simp
def Qvt (p0 : List SpreadRule) (i0 : Nat) (v0_1 : List Val) : List PV :=
  [.un, .fn 117 [] [], .un, .un, .bx 0 0, .ms 1 5 0 (List.length v0_1), .un, .un, .sl (SpreadRule.rows p0), .int .i64 ((List.length p0) : Int), .int .i64 (i0 : Int)] ++ nuns 12
def Qjt (_p0 : List SpreadRule) (_i0 : Nat) (v0_1 : List Val) : List Ob :=
  [⟨5, 0, true, [.int .i64 0, .int .i64 0, .str (⟨#[]⟩ : ByteArray), .ms 2 5 0 0, .ms 3 6 0 0]⟩, ⟨5, 0, true, (Val.rows v0_1).flatten⟩, ⟨5, 0, true, []⟩, ⟨6, 0, true, []⟩]
def Qdz (p0 : List SpreadRule) (i0 : Nat) (v0_1 : List Val) : En := .loop 0 Ir.Qky Ir.Q19x (Qvt p0 i0 v0_1) (Qjt p0 i0 v0_1)
def Qp7 (_p0 : List SpreadRule) (q0 : List Val) (z : Nat → PV) (_zo : Nat → List PV) : St :=
  ⟨[z 0, z 1, z 2, z 3, .bx 0 0, .ms 1 5 0 (List.length q0)] ++ zr z 6 17, [(0, ⟨5, 0, true, [.int .i64 0, .int .i64 0, .str (⟨#[]⟩ : ByteArray), .ms 2 5 0 0, .ms 3 6 0 0]⟩), (1, ⟨5, 0, true, (Val.rows q0).flatten⟩), (2, ⟨5, 0, true, []⟩), (3, ⟨6, 0, true, []⟩)], 68⟩
theorem Qxv (p0 : List SpreadRule) (i0 : Nat) (v0_1 : List Val) : VOK (Go.Pv.look (number 0 (Qjt p0 i0 v0_1))) [(1, Val.rows v0_1)] := (VOK.cons (show Seen _ _ from Q3j (ob := ⟨5, 0, true, (Val.rows v0_1).flatten⟩) (Val.Q7 v0_1 5 rfl)) VOK.nil)
def Qf1 (p0 : List SpreadRule) (e : En) (q : List Val) : Prop := ∃ z zo, Q6 G e (.st (.exit 0) (Qp7 p0 q z zo))
theorem Qqd (p0 : List SpreadRule) {e e' : En} (h : ∀ r, Q6 G e r → Q6 G e' r) : ∀ q, Qf1 p0 e q → Qf1 p0 e' q
  | _, ⟨z, zo, hz⟩ => ⟨z, zo, h _ hz⟩
def Qen (p0 : List SpreadRule) : Prop := (List.length p0 ≤ 137438953472) ∧ (∀ x0 ∈ p0, Q1ct x0) ∧ True
def Qob (p0 : List SpreadRule) (i0 : Nat) (_v0_1 : List Val) : List PV :=
  [.un, .fn 117 [] []] ++ nuns 6 ++ [.sl (SpreadRule.rows p0), .int .i64 ((List.length p0) : Int), .int .i64 (i0 : Int), .bool false]
def Qhh (_p0 : List SpreadRule) (_i0 : Nat) (_v0_1 : List Val) : List (Nat × List PV) :=
  []
theorem Q14m (p0 : List SpreadRule) (_H : Qen p0) (i0 : Nat) (v0_1 : List Val) (_ho0_0 : List.length v0_1 ≤ i0) (hc0 : (decide ((i0 : Int) < ((List.length p0) : Int))) = false) : Qf1 p0 (Qdz p0 i0 v0_1) v0_1 := by
 exact ⟨(envF (Qob p0 i0 v0_1)), (zoF (Qhh p0 i0 v0_1)), Qg (Qxv p0 i0 v0_1) (x := ((.exit 0), Qp7 p0 v0_1 (envF (Qob p0 i0 v0_1)) (zoF (Qhh p0 i0 v0_1)))) [hB 0 hc0] [] (by kernel_rfl)⟩
theorem Q14v (p0 : List SpreadRule) (H : Qen p0) (x0 : SpreadRule) (i0 : Nat) (v0_1 : List Val) (hx0 : p0[i0]? = some x0) (hi0 : i0 < List.length p0) (ho0_0 : List.length v0_1 ≤ i0) (hc0 : (decide ((i0 : Int) < ((List.length p0) : Int))) = true) {r : Rs} (hr : Q6 G (Qdz p0 (i0 + 1) (v0_1 ++ [(Qa7 x0)])) r) : Q6 G (Qdz p0 i0 v0_1) r := by
 have hB0 := H.1
 exact Qk (Qxv p0 i0 v0_1) (y := (Qvt p0 (i0 + 1) (v0_1 ++ [(Qa7 x0)]), Qjt p0 (i0 + 1) (v0_1 ++ [(Qa7 x0)]))) [hB 0 hc0, hP 0 (Q1f 4 (SpreadRule.rows p0) i0 _ (SpreadRule.Qa hx0) rfl), hV 8 [(644, Val.rows (v0_1 ++ [(Qa7 x0)]))] (Q5h 1 580 644 5 80 0 0 true (Val.rows v0_1) (Val.rows (v0_1 ++ [(Qa7 x0)])) (Val.cells (Qa7 x0)) (List.length v0_1) (List.length (v0_1 ++ [(Qa7 x0)])) rfl (Val.Q5 v0_1).symm (Val.Q5 (v0_1 ++ [(Qa7 x0)])).symm (Val.Q15 v0_1 (Qa7 x0)) (Val.Qi v0_1) rfl (by omega)), hS 0 true (Val.Q7 (v0_1 ++ [(Qa7 x0)]) 5 rfl), hP 1 (Q1y i0 (by omega))] [aN (Q1hf x0 (H.2.1 x0 (Q29 hx0)))] (by kernel_rfl) hr
theorem Qs5 (p0 : List SpreadRule) (H : Qen p0) : ∀ (r0 : List SpreadRule) (i0 : Nat) (v0_1 : List Val), List.drop i0 p0 = r0 → List.length v0_1 ≤ i0 → Qf1 p0 (Qdz p0 i0 v0_1) (Q3w p0 r0 i0 v0_1)
 | [], i0, v0_1, hd, ho0_0 => by
  have hc0 : (decide ((i0 : Int) < ((List.length p0) : Int))) = false := by have := Q1b hd; simp; omega
  rw [Q3w]
  exact Q14m p0 H i0 v0_1 ho0_0 hc0
 | x0 :: r0, i0, v0_1, hd, ho0_0 => by
  obtain ⟨hx0, hi0, hd'⟩ := Q14 hd
  have hc0 : (decide ((i0 : Int) < ((List.length p0) : Int))) = true := by simp; omega
  rw [Q3w]
  exact Qqd p0 (fun r hr => Q14v p0 H x0 i0 v0_1 hx0 hi0 ho0_0 hc0 hr) _ (Qs5 p0 H r0 (i0 + 1) (v0_1 ++ [(Qa7 x0)]) hd' (by first | omega | (simp; omega)))
def Q59 (p0 : List SpreadRule) : Val := vL (p0.map SpreadRule.enc)
theorem Q123 (p0 : List SpreadRule) : Q59 p0 = ((Qbf (Q3w p0 p0 0 []))) := by
  rw [Qqj]
  rfl
def Q11u (p0 : List SpreadRule) : En := .call 116 [.sl (SpreadRule.rows p0), .fn 117 [] []] []
def Qni (p0 : List SpreadRule) : Rs := .ret (.agg (Val.cells (Q59 p0))) []
def Qco (p0 : List SpreadRule) : Prop := LSm SpreadRule.sm p0
theorem Qaw (p0 : List SpreadRule) (H : Qco p0) : (Qen p0) ∧ (Qc5 (Q3w p0 p0 0 [])) ∧ True := by
  refine ⟨⟨Nat.le_trans H.1 (Nat.le_of_ble_eq_true rfl), H.2, trivial⟩, ⟨?_, trivial⟩, trivial⟩
  rw [Qqj]
  exact Q2a (fun _ h => SpreadRule.Q1i h) H
theorem Q10x (p0 : List SpreadRule) (H : Qco p0) : Q6 G (Q11u p0) (Qni p0) := by
 unfold Qni
 rw [Q123]
 have hl0 := Qs5 p0 ((Qaw p0 H).1) p0 0 [] (by simp) (by simp)
 obtain ⟨z0, zo0, hl0⟩ := hl0
 exact Qb (fn := Ir.K1x) rfl VOK.nil [hP 3 (Qe (SpreadRule.rows p0) (List.length p0) (SpreadRule.Q5 p0)), hS 0 true (Val.Q7 (Q3w p0 p0 0 []) 5 rfl), hQ (Val.Q5 (Q3w p0 p0 0 [])).symm] [aV [(1, Val.rows (Q3w p0 p0 0 []))] hl0, aN (Qdv (Q3w p0 p0 0 []) (Qaw p0 H).2.1)] (by kernel_rfl)
def Qai (p0 : Toleration) : Val := Toleration.enc p0
theorem Q1ky (p0 : Toleration) : Qai p0 = ((Q5f ([(Q9 Qv (Qs p0.effect)), (Q9 Q1v (Q23 p0.exists_)), (Q9 Qx (Q1h p0.key)), (Q9 Q1j (Qs p0.seconds)), (Q9 Qn (Q1h p0.value))]))) := by
  exact Eq.symm (Q2z (by exact Nat.le_of_ble_eq_true rfl) (by kernel_rfl))
def Q1i4 (p0 : Toleration) : En := .call 119 [.agg (Toleration.cells p0)] []
def Q1fs (p0 : Toleration) : Rs := .ret (.agg (Val.cells (Qai p0))) []
def Q1bz (p0 : Toleration) : Prop := Toleration.sm p0
theorem Q17w (p0 : Toleration) (H : Q1bz p0) : (Q7v ([(Q9 Qv (Qs p0.effect)), (Q9 Q1v (Q23 p0.exists_)), (Q9 Qx (Q1h p0.key)), (Q9 Q1j (Qs p0.seconds)), (Q9 Qn (Q1h p0.value))])) ∧ True := by
  repeat' with_reducible apply And.intro
  all_goals first | exact True.intro | exact H | exact H.1 | exact H.2.1 | exact H.2.2.1 | exact H.2.2.2.1 | exact H.2.2.2.2.1 | exact H.2.2.2.2.2.1 | exact H.2.2.2.2.2.2.1 | exact H.2.2.2.2.2.2.2.1 | exact H.2.2.2.2.2.2.2.2.1 | exact H.2.2.2.2.2.2.2.2.2.1 | exact H.2.2.2.2.2.2.2.2.2.2.1 | exact Q8h (by exact Nat.le_of_ble_eq_true rfl) (Toleration.Q1i H).all.2.2.2
theorem Q1he (p0 : Toleration) (H : Q1bz p0) : Q6 G (Q1i4 p0) (Q1fs p0) := by
 unfold Q1fs
 rw [Q1ky]
 exact Qb (fn := Ir.K1q) rfl VOK.nil [] [aN (Q4s p0.effect), aN (Q1r Qv (Qs p0.effect)), aN (Qdr p0.exists_), aN (Q1r Q1v (Q23 p0.exists_)), aN (Q8g p0.key), aN (Q1r Qx (Q1h p0.key)), aN (Q4s p0.seconds), aN (Q1r Q1j (Qs p0.seconds)), aN (Q8g p0.value), aN (Q1r Qn (Q1h p0.value)), aN (Q3v (e' := .call 61 [.sl [(Fld.cells (Q9 Qv (Qs p0.effect))), (Fld.cells (Q9 Q1v (Q23 p0.exists_))), (Fld.cells (Q9 Qx (Q1h p0.key))), (Fld.cells (Q9 Q1j (Qs p0.seconds))), (Fld.cells (Q9 Qn (Q1h p0.value)))]] []) (Q8s ([(Q9 Qv (Qs p0.effect)), (Q9 Q1v (Q23 p0.exists_)), (Q9 Qx (Q1h p0.key)), (Q9 Q1j (Qs p0.seconds)), (Q9 Qn (Q1h p0.value))]) (Q17w p0 H).1) (by simp only [Q85, Fld.Qo, Fld.Qy]))] (by kernel_rfl)
def Q3s (p0 : List Toleration) : List Toleration → Nat → (List Val) → List Val
 | [], _i0, v0_1 =>
  v0_1
 | x0 :: r0, i0, v0_1 =>
  Q3s p0 r0 (i0 + 1) (v0_1 ++ [(Qai x0)])
theorem Qpj (p0 : List Toleration) : ∀ (l : List Toleration) (i : Nat) (a : List Val), Q3s p0 l i a = a ++ l.map (fun x0 => (Qai x0))
  | [], _, _ => by simp [Q3s]
  | x :: r, i, a => by rw [Q3s, Qpj p0 r]; simp
def Qsu (p0 : List Toleration) (i0 : Nat) (v0_1 : List Val) : List PV :=
  [.un, .fn 119 [] [], .un, .un, .bx 0 0, .ms 1 5 0 (List.length v0_1), .un, .un, .sl (Toleration.rows p0), .int .i64 ((List.length p0) : Int), .int .i64 (i0 : Int)] ++ nuns 12
def Qkr (_p0 : List Toleration) (_i0 : Nat) (v0_1 : List Val) : List Ob :=
  [⟨5, 0, true, [.int .i64 0, .int .i64 0, .str (⟨#[]⟩ : ByteArray), .ms 2 5 0 0, .ms 3 6 0 0]⟩, ⟨5, 0, true, (Val.rows v0_1).flatten⟩, ⟨5, 0, true, []⟩, ⟨6, 0, true, []⟩]
def Qge (p0 : List Toleration) (i0 : Nat) (v0_1 : List Val) : En := .loop 0 Ir.Qjw Ir.Q1as (Qsu p0 i0 v0_1) (Qkr p0 i0 v0_1)
def Qmf (_p0 : List Toleration) (q0 : List Val) (z : Nat → PV) (_zo : Nat → List PV) : St :=
  ⟨[z 0, z 1, z 2, z 3, .bx 0 0, .ms 1 5 0 (List.length q0)] ++ zr z 6 17, [(0, ⟨5, 0, true, [.int .i64 0, .int .i64 0, .str (⟨#[]⟩ : ByteArray), .ms 2 5 0 0, .ms 3 6 0 0]⟩), (1, ⟨5, 0, true, (Val.rows q0).flatten⟩), (2, ⟨5, 0, true, []⟩), (3, ⟨6, 0, true, []⟩)], 68⟩
theorem Qzp (p0 : List Toleration) (i0 : Nat) (v0_1 : List Val) : VOK (Go.Pv.look (number 0 (Qkr p0 i0 v0_1))) [(1, Val.rows v0_1)] := (VOK.cons (show Seen _ _ from Q3j (ob := ⟨5, 0, true, (Val.rows v0_1).flatten⟩) (Val.Q7 v0_1 5 rfl)) VOK.nil)
def Qer (p0 : List Toleration) (e : En) (q : List Val) : Prop := ∃ z zo, Q6 G e (.st (.exit 0) (Qmf p0 q z zo))
theorem Qpu (p0 : List Toleration) {e e' : En} (h : ∀ r, Q6 G e r → Q6 G e' r) : ∀ q, Qer p0 e q → Qer p0 e' q
  | _, ⟨z, zo, hz⟩ => ⟨z, zo, h _ hz⟩
def Qe9 (p0 : List Toleration) : Prop := (List.length p0 ≤ 137438953472) ∧ (∀ x0 ∈ p0, Q1bz x0) ∧ True
def Qm4 (p0 : List Toleration) (i0 : Nat) (_v0_1 : List Val) : List PV :=
  [.un, .fn 119 [] []] ++ nuns 6 ++ [.sl (Toleration.rows p0), .int .i64 ((List.length p0) : Int), .int .i64 (i0 : Int), .bool false]
def Qir (_p0 : List Toleration) (_i0 : Nat) (_v0_1 : List Val) : List (Nat × List PV) :=
  []
theorem Q11b (p0 : List Toleration) (_H : Qe9 p0) (i0 : Nat) (v0_1 : List Val) (_ho0_0 : List.length v0_1 ≤ i0) (hc0 : (decide ((i0 : Int) < ((List.length p0) : Int))) = false) : Qer p0 (Qge p0 i0 v0_1) v0_1 := by
 exact ⟨(envF (Qm4 p0 i0 v0_1)), (zoF (Qir p0 i0 v0_1)), Qg (Qzp p0 i0 v0_1) (x := ((.exit 0), Qmf p0 v0_1 (envF (Qm4 p0 i0 v0_1)) (zoF (Qir p0 i0 v0_1)))) [hB 0 hc0] [] (by kernel_rfl)⟩
theorem Q13k (p0 : List Toleration) (H : Qe9 p0) (x0 : Toleration) (i0 : Nat) (v0_1 : List Val) (hx0 : p0[i0]? = some x0) (hi0 : i0 < List.length p0) (ho0_0 : List.length v0_1 ≤ i0) (hc0 : (decide ((i0 : Int) < ((List.length p0) : Int))) = true) {r : Rs} (hr : Q6 G (Qge p0 (i0 + 1) (v0_1 ++ [(Qai x0)])) r) : Q6 G (Qge p0 i0 v0_1) r := by
 have hB0 := H.1
 exact Qk (Qzp p0 i0 v0_1) (y := (Qsu p0 (i0 + 1) (v0_1 ++ [(Qai x0)]), Qkr p0 (i0 + 1) (v0_1 ++ [(Qai x0)]))) [hB 0 hc0, hP 0 (Q1f 5 (Toleration.rows p0) i0 _ (Toleration.Qa hx0) rfl), hV 8 [(644, Val.rows (v0_1 ++ [(Qai x0)]))] (Q5h 1 580 644 5 80 0 0 true (Val.rows v0_1) (Val.rows (v0_1 ++ [(Qai x0)])) (Val.cells (Qai x0)) (List.length v0_1) (List.length (v0_1 ++ [(Qai x0)])) rfl (Val.Q5 v0_1).symm (Val.Q5 (v0_1 ++ [(Qai x0)])).symm (Val.Q15 v0_1 (Qai x0)) (Val.Qi v0_1) rfl (by omega)), hS 0 true (Val.Q7 (v0_1 ++ [(Qai x0)]) 5 rfl), hP 1 (Q1y i0 (by omega))] [aN (Q1he x0 (H.2.1 x0 (Q29 hx0)))] (by kernel_rfl) hr
theorem Qtj (p0 : List Toleration) (H : Qe9 p0) : ∀ (r0 : List Toleration) (i0 : Nat) (v0_1 : List Val), List.drop i0 p0 = r0 → List.length v0_1 ≤ i0 → Qer p0 (Qge p0 i0 v0_1) (Q3s p0 r0 i0 v0_1)
 | [], i0, v0_1, hd, ho0_0 => by
  have hc0 : (decide ((i0 : Int) < ((List.length p0) : Int))) = false := by have := Q1b hd; simp; omega
  rw [Q3s]
  exact Q11b p0 H i0 v0_1 ho0_0 hc0
 | x0 :: r0, i0, v0_1, hd, ho0_0 => by
  obtain ⟨hx0, hi0, hd'⟩ := Q14 hd
  have hc0 : (decide ((i0 : Int) < ((List.length p0) : Int))) = true := by simp; omega
  rw [Q3s]
  exact Qpu p0 (fun r hr => Q13k p0 H x0 i0 v0_1 hx0 hi0 ho0_0 hc0 hr) _ (Qtj p0 H r0 (i0 + 1) (v0_1 ++ [(Qai x0)]) hd' (by first | omega | (simp; omega)))
def Q58 (p0 : List Toleration) : Val := vL (p0.map Toleration.enc)
theorem Q13w (p0 : List Toleration) : Q58 p0 = ((Qbf (Q3s p0 p0 0 []))) := by
  rw [Qpj]
  rfl
def Q11f (p0 : List Toleration) : En := .call 118 [.sl (Toleration.rows p0), .fn 119 [] []] []
def Qnx (p0 : List Toleration) : Rs := .ret (.agg (Val.cells (Q58 p0))) []
def Qc9 (p0 : List Toleration) : Prop := LSm Toleration.sm p0
theorem Qbl (p0 : List Toleration) (H : Qc9 p0) : (Qe9 p0) ∧ (Qc5 (Q3s p0 p0 0 [])) ∧ True := by
  refine ⟨⟨Nat.le_trans H.1 (Nat.le_of_ble_eq_true rfl), H.2, trivial⟩, ⟨?_, trivial⟩, trivial⟩
  rw [Qpj]
  exact Q2a (fun _ h => Toleration.Q1i h) H
theorem Q145 (p0 : List Toleration) (H : Qc9 p0) : Q6 G (Q11f p0) (Qnx p0) := by
 unfold Qnx
 rw [Q13w]
 have hl0 := Qtj p0 ((Qbl p0 H).1) p0 0 [] (by simp) (by simp)
 obtain ⟨z0, zo0, hl0⟩ := hl0
 exact Qb (fn := Ir.K1y) rfl VOK.nil [hP 3 (Qe (Toleration.rows p0) (List.length p0) (Toleration.Q5 p0)), hS 0 true (Val.Q7 (Q3s p0 p0 0 []) 5 rfl), hQ (Val.Q5 (Q3s p0 p0 0 [])).symm] [aV [(1, Val.rows (Q3s p0 p0 0 []))] hl0, aN (Qdv (Q3s p0 p0 0 []) (Qbl p0 H).2.1)] (by kernel_rfl)
def Qtc (p0 : PodSpec) : Val := PodSpec.enc p0
theorem Q1j7 (p0 : PodSpec) : Qtc p0 = ((Q5f ([(Q9 Q13 (Q53 p0.containers)), (Q9 Q4e (Qs p0.grace)), (Q9 Q5k (Q1h p0.node)), (Q9 Q1t (Q1s p0.nodeSelector)), (Q9 Q2d (Q57 p0.nodeTerms)), (Q9 Q2j (Q52 p0.podTerms)), (Q9 Q2m (Qs p0.priority)), (Q9 Q2x (Qs p0.restart)), (Q9 Q3e (Q59 p0.spread)), (Q9 Q20 (Q58 p0.tolerations))]))) := by
  exact Eq.symm (Q2z (by exact Nat.le_of_ble_eq_true rfl) (by kernel_rfl))
def Q1hq (p0 : PodSpec) : En := .call 56 [.agg (PodSpec.cells p0)] []
def Q1dn (p0 : PodSpec) : Rs := .ret (.agg (Val.cells (Qtc p0))) []
def Q194 (p0 : PodSpec) : Prop := PodSpec.sm p0
theorem Q81 (p0 : PodSpec) (H : Q194 p0) : (Qcx p0.containers) ∧ (Q5y p0.nodeSelector) ∧ (Qcc p0.nodeTerms) ∧ (Qcf p0.podTerms) ∧ (Qco p0.spread) ∧ (Qc9 p0.tolerations) ∧ (Q7v ([(Q9 Q13 (Q53 p0.containers)), (Q9 Q4e (Qs p0.grace)), (Q9 Q5k (Q1h p0.node)), (Q9 Q1t (Q1s p0.nodeSelector)), (Q9 Q2d (Q57 p0.nodeTerms)), (Q9 Q2j (Q52 p0.podTerms)), (Q9 Q2m (Qs p0.priority)), (Q9 Q2x (Qs p0.restart)), (Q9 Q3e (Q59 p0.spread)), (Q9 Q20 (Q58 p0.tolerations))])) ∧ True := by
  repeat' with_reducible apply And.intro
  all_goals first | exact True.intro | exact H | exact H.1 | exact H.2.1 | exact H.2.2.1 | exact H.2.2.2.1 | exact H.2.2.2.2.1 | exact H.2.2.2.2.2.1 | exact H.2.2.2.2.2.2.1 | exact H.2.2.2.2.2.2.2.1 | exact H.2.2.2.2.2.2.2.2.1 | exact H.2.2.2.2.2.2.2.2.2.1 | exact H.2.2.2.2.2.2.2.2.2.2.1 | exact Q8h (by exact Nat.le_of_ble_eq_true rfl) (PodSpec.Q1i H).all.2.2.2
theorem Q1ea (p0 : PodSpec) (H : Q194 p0) : Q6 G (Q1hq p0) (Q1dn p0) := by
 unfold Q1dn
 rw [Q1j7]
 exact Qb (fn := Ir.K1m) rfl VOK.nil [] [aN (Q12s p0.containers (Q81 p0 H).1), aN (Q1r Q13 (Q53 p0.containers)), aN (Q4s p0.grace), aN (Q1r Q4e (Qs p0.grace)), aN (Q8g p0.node), aN (Q1r Q5k (Q1h p0.node)), aN (Q96 p0.nodeSelector (Q81 p0 H).2.1), aN (Q1r Q1t (Q1s p0.nodeSelector)), aN (Q118 p0.nodeTerms (Q81 p0 H).2.2.1), aN (Q1r Q2d (Q57 p0.nodeTerms)), aN (Q11s p0.podTerms (Q81 p0 H).2.2.2.1), aN (Q1r Q2j (Q52 p0.podTerms)), aN (Q4s p0.priority), aN (Q1r Q2m (Qs p0.priority)), aN (Q4s p0.restart), aN (Q1r Q2x (Qs p0.restart)), aN (Q10x p0.spread (Q81 p0 H).2.2.2.2.1), aN (Q1r Q3e (Q59 p0.spread)), aN (Q145 p0.tolerations (Q81 p0 H).2.2.2.2.2.1), aN (Q1r Q20 (Q58 p0.tolerations)), aN (Q3v (e' := .call 61 [.sl [(Fld.cells (Q9 Q13 (Q53 p0.containers))), (Fld.cells (Q9 Q4e (Qs p0.grace))), (Fld.cells (Q9 Q5k (Q1h p0.node))), (Fld.cells (Q9 Q1t (Q1s p0.nodeSelector))), (Fld.cells (Q9 Q2d (Q57 p0.nodeTerms))), (Fld.cells (Q9 Q2j (Q52 p0.podTerms))), (Fld.cells (Q9 Q2m (Qs p0.priority))), (Fld.cells (Q9 Q2x (Qs p0.restart))), (Fld.cells (Q9 Q3e (Q59 p0.spread))), (Fld.cells (Q9 Q20 (Q58 p0.tolerations)))]] []) (Q8s ([(Q9 Q13 (Q53 p0.containers)), (Q9 Q4e (Qs p0.grace)), (Q9 Q5k (Q1h p0.node)), (Q9 Q1t (Q1s p0.nodeSelector)), (Q9 Q2d (Q57 p0.nodeTerms)), (Q9 Q2j (Q52 p0.podTerms)), (Q9 Q2m (Qs p0.priority)), (Q9 Q2x (Qs p0.restart)), (Q9 Q3e (Q59 p0.spread)), (Q9 Q20 (Q58 p0.tolerations))]) (Q81 p0 H).2.2.2.2.2.2.1) (by simp only [Q85, Fld.Qo, Fld.Qy]))] (by kernel_rfl)
def s_Kb (p0 : Template) : Val := Template.enc p0
theorem e_Kb (p0 : Template) : s_Kb p0 = ((Q5f ([(Q9 Q3b (Q6c p0.labels)), (Q9 Q5l (Qtc p0.spec))]))) := by
  exact Eq.symm (Q2z (by exact Nat.le_of_ble_eq_true rfl) (by kernel_rfl))
def c_Kb (p0 : Template) : En := .call 28 [.agg (Template.cells p0)] []
def a_Kb (p0 : Template) : Rs := .ret (.agg (Val.cells (s_Kb p0))) []
def H_Kb (p0 : Template) : Prop := Template.sm p0
theorem Qwt (p0 : Template) (H : H_Kb p0) : (Qlc p0.labels) ∧ (Q194 p0.spec) ∧ (Q7v ([(Q9 Q3b (Q6c p0.labels)), (Q9 Q5l (Qtc p0.spec))])) ∧ True := by
  repeat' with_reducible apply And.intro
  all_goals first | exact True.intro | exact H | exact H.1 | exact H.2.1 | exact H.2.2.1 | exact H.2.2.2.1 | exact H.2.2.2.2.1 | exact H.2.2.2.2.2.1 | exact H.2.2.2.2.2.2.1 | exact H.2.2.2.2.2.2.2.1 | exact H.2.2.2.2.2.2.2.2.1 | exact H.2.2.2.2.2.2.2.2.2.1 | exact H.2.2.2.2.2.2.2.2.2.2.1 | exact Q8h (by exact Nat.le_of_ble_eq_true rfl) (Template.Q1i H).all.2.2.2
theorem t_Kb (p0 : Template) (H : H_Kb p0) : Q6 G (c_Kb p0) (a_Kb p0) := by
 unfold a_Kb
 rw [e_Kb]
 exact Qb (fn := Ir.Kb) rfl VOK.nil [] [aN (Q17j p0.labels (Qwt p0 H).1), aN (Q1r Q3b (Q6c p0.labels)), aN (Q1ea p0.spec (Qwt p0 H).2.1), aN (Q1r Q5l (Qtc p0.spec)), aN (Q3v (e' := .call 61 [.sl [(Fld.cells (Q9 Q3b (Q6c p0.labels))), (Fld.cells (Q9 Q5l (Qtc p0.spec)))]] []) (Q8s ([(Q9 Q3b (Q6c p0.labels)), (Q9 Q5l (Qtc p0.spec))]) (Qwt p0 H).2.2.1) (by simp only [Q85, Fld.Qo, Fld.Qy]))] (by kernel_rfl)
def Qak (p0 : ContainerStatus) : Val := ContainerStatus.enc p0
theorem Q1j0 (p0 : ContainerStatus) : Qak p0 = ((Q5f ([(Q9 Q1d (Qs p0.exitCode)), (Q9 Qw (Q1h p0.name)), (Q9 Qp (Q23 p0.ready)), (Q9 Q1g (Qs p0.restarts)), (Q9 Q16 (Qs p0.since)), (Q9 Q10 (Q23 p0.started)), (Q9 Q26 (Qs p0.state))]))) := by
  exact Eq.symm (Q2z (by exact Nat.le_of_ble_eq_true rfl) (by kernel_rfl))
def Q1i9 (p0 : ContainerStatus) : En := .call 121 [.agg (ContainerStatus.cells p0)] []
def Q1ew (p0 : ContainerStatus) : Rs := .ret (.agg (Val.cells (Qak p0))) []
def Q1c9 (p0 : ContainerStatus) : Prop := ContainerStatus.sm p0
theorem Q19g (p0 : ContainerStatus) (H : Q1c9 p0) : (Q7v ([(Q9 Q1d (Qs p0.exitCode)), (Q9 Qw (Q1h p0.name)), (Q9 Qp (Q23 p0.ready)), (Q9 Q1g (Qs p0.restarts)), (Q9 Q16 (Qs p0.since)), (Q9 Q10 (Q23 p0.started)), (Q9 Q26 (Qs p0.state))])) ∧ True := by
  repeat' with_reducible apply And.intro
  all_goals first | exact True.intro | exact H | exact H.1 | exact H.2.1 | exact H.2.2.1 | exact H.2.2.2.1 | exact H.2.2.2.2.1 | exact H.2.2.2.2.2.1 | exact H.2.2.2.2.2.2.1 | exact H.2.2.2.2.2.2.2.1 | exact H.2.2.2.2.2.2.2.2.1 | exact H.2.2.2.2.2.2.2.2.2.1 | exact H.2.2.2.2.2.2.2.2.2.2.1 | exact Q8h (by exact Nat.le_of_ble_eq_true rfl) (ContainerStatus.Q1i H).all.2.2.2
theorem Q1kt (p0 : ContainerStatus) (H : Q1c9 p0) : Q6 G (Q1i9 p0) (Q1ew p0) := by
 unfold Q1ew
 rw [Q1j0]
 exact Qb (fn := Ir.K1e) rfl VOK.nil [] [aN (Q4s p0.exitCode), aN (Q1r Q1d (Qs p0.exitCode)), aN (Q8g p0.name), aN (Q1r Qw (Q1h p0.name)), aN (Qdr p0.ready), aN (Q1r Qp (Q23 p0.ready)), aN (Q4s p0.restarts), aN (Q1r Q1g (Qs p0.restarts)), aN (Q4s p0.since), aN (Q1r Q16 (Qs p0.since)), aN (Qdr p0.started), aN (Q1r Q10 (Q23 p0.started)), aN (Q4s p0.state), aN (Q1r Q26 (Qs p0.state)), aN (Q3v (e' := .call 61 [.sl [(Fld.cells (Q9 Q1d (Qs p0.exitCode))), (Fld.cells (Q9 Qw (Q1h p0.name))), (Fld.cells (Q9 Qp (Q23 p0.ready))), (Fld.cells (Q9 Q1g (Qs p0.restarts))), (Fld.cells (Q9 Q16 (Qs p0.since))), (Fld.cells (Q9 Q10 (Q23 p0.started))), (Fld.cells (Q9 Q26 (Qs p0.state)))]] []) (Q8s ([(Q9 Q1d (Qs p0.exitCode)), (Q9 Qw (Q1h p0.name)), (Q9 Qp (Q23 p0.ready)), (Q9 Q1g (Qs p0.restarts)), (Q9 Q16 (Qs p0.since)), (Q9 Q10 (Q23 p0.started)), (Q9 Q26 (Qs p0.state))]) (Q19g p0 H).1) (by simp only [Q85, Fld.Qo, Fld.Qy]))] (by kernel_rfl)
def Q3l (p0 : List ContainerStatus) : List ContainerStatus → Nat → (List Val) → List Val
 | [], _i0, v0_1 =>
  v0_1
 | x0 :: r0, i0, v0_1 =>
  Q3l p0 r0 (i0 + 1) (v0_1 ++ [(Qak x0)])
theorem Qqc (p0 : List ContainerStatus) : ∀ (l : List ContainerStatus) (i : Nat) (a : List Val), Q3l p0 l i a = a ++ l.map (fun x0 => (Qak x0))
  | [], _, _ => by simp [Q3l]
  | x :: r, i, a => by rw [Q3l, Qqc p0 r]; simp
def Qv0 (p0 : List ContainerStatus) (i0 : Nat) (v0_1 : List Val) : List PV :=
  [.un, .fn 121 [] [], .un, .un, .bx 0 0, .ms 1 5 0 (List.length v0_1), .un, .un, .sl (ContainerStatus.rows p0), .int .i64 ((List.length p0) : Int), .int .i64 (i0 : Int)] ++ nuns 12
def Qim (_p0 : List ContainerStatus) (_i0 : Nat) (v0_1 : List Val) : List Ob :=
  [⟨5, 0, true, [.int .i64 0, .int .i64 0, .str (⟨#[]⟩ : ByteArray), .ms 2 5 0 0, .ms 3 6 0 0]⟩, ⟨5, 0, true, (Val.rows v0_1).flatten⟩, ⟨5, 0, true, []⟩, ⟨6, 0, true, []⟩]
def Qfw (p0 : List ContainerStatus) (i0 : Nat) (v0_1 : List Val) : En := .loop 0 Ir.Ql0 Ir.Q19s (Qv0 p0 i0 v0_1) (Qim p0 i0 v0_1)
def Qnn (_p0 : List ContainerStatus) (q0 : List Val) (z : Nat → PV) (_zo : Nat → List PV) : St :=
  ⟨[z 0, z 1, z 2, z 3, .bx 0 0, .ms 1 5 0 (List.length q0)] ++ zr z 6 17, [(0, ⟨5, 0, true, [.int .i64 0, .int .i64 0, .str (⟨#[]⟩ : ByteArray), .ms 2 5 0 0, .ms 3 6 0 0]⟩), (1, ⟨5, 0, true, (Val.rows q0).flatten⟩), (2, ⟨5, 0, true, []⟩), (3, ⟨6, 0, true, []⟩)], 68⟩
theorem Qy1 (p0 : List ContainerStatus) (i0 : Nat) (v0_1 : List Val) : VOK (Go.Pv.look (number 0 (Qim p0 i0 v0_1))) [(1, Val.rows v0_1)] := (VOK.cons (show Seen _ _ from Q3j (ob := ⟨5, 0, true, (Val.rows v0_1).flatten⟩) (Val.Q7 v0_1 5 rfl)) VOK.nil)
def Qe0 (p0 : List ContainerStatus) (e : En) (q : List Val) : Prop := ∃ z zo, Q6 G e (.st (.exit 0) (Qnn p0 q z zo))
theorem Qpy (p0 : List ContainerStatus) {e e' : En} (h : ∀ r, Q6 G e r → Q6 G e' r) : ∀ q, Qe0 p0 e q → Qe0 p0 e' q
  | _, ⟨z, zo, hz⟩ => ⟨z, zo, h _ hz⟩
def Qg0 (p0 : List ContainerStatus) : Prop := (List.length p0 ≤ 137438953472) ∧ (∀ x0 ∈ p0, Q1c9 x0) ∧ True
def Qlp (p0 : List ContainerStatus) (i0 : Nat) (_v0_1 : List Val) : List PV :=
  [.un, .fn 121 [] []] ++ nuns 6 ++ [.sl (ContainerStatus.rows p0), .int .i64 ((List.length p0) : Int), .int .i64 (i0 : Int), .bool false]
def Qh5 (_p0 : List ContainerStatus) (_i0 : Nat) (_v0_1 : List Val) : List (Nat × List PV) :=
  []
theorem Q127 (p0 : List ContainerStatus) (_H : Qg0 p0) (i0 : Nat) (v0_1 : List Val) (_ho0_0 : List.length v0_1 ≤ i0) (hc0 : (decide ((i0 : Int) < ((List.length p0) : Int))) = false) : Qe0 p0 (Qfw p0 i0 v0_1) v0_1 := by
 exact ⟨(envF (Qlp p0 i0 v0_1)), (zoF (Qh5 p0 i0 v0_1)), Qg (Qy1 p0 i0 v0_1) (x := ((.exit 0), Qnn p0 v0_1 (envF (Qlp p0 i0 v0_1)) (zoF (Qh5 p0 i0 v0_1)))) [hB 0 hc0] [] (by kernel_rfl)⟩
theorem Q12j (p0 : List ContainerStatus) (H : Qg0 p0) (x0 : ContainerStatus) (i0 : Nat) (v0_1 : List Val) (hx0 : p0[i0]? = some x0) (hi0 : i0 < List.length p0) (ho0_0 : List.length v0_1 ≤ i0) (hc0 : (decide ((i0 : Int) < ((List.length p0) : Int))) = true) {r : Rs} (hr : Q6 G (Qfw p0 (i0 + 1) (v0_1 ++ [(Qak x0)])) r) : Q6 G (Qfw p0 i0 v0_1) r := by
 have hB0 := H.1
 exact Qk (Qy1 p0 i0 v0_1) (y := (Qv0 p0 (i0 + 1) (v0_1 ++ [(Qak x0)]), Qim p0 (i0 + 1) (v0_1 ++ [(Qak x0)]))) [hB 0 hc0, hP 0 (Q1f 7 (ContainerStatus.rows p0) i0 _ (ContainerStatus.Qa hx0) rfl), hV 8 [(644, Val.rows (v0_1 ++ [(Qak x0)]))] (Q5h 1 580 644 5 80 0 0 true (Val.rows v0_1) (Val.rows (v0_1 ++ [(Qak x0)])) (Val.cells (Qak x0)) (List.length v0_1) (List.length (v0_1 ++ [(Qak x0)])) rfl (Val.Q5 v0_1).symm (Val.Q5 (v0_1 ++ [(Qak x0)])).symm (Val.Q15 v0_1 (Qak x0)) (Val.Qi v0_1) rfl (by omega)), hS 0 true (Val.Q7 (v0_1 ++ [(Qak x0)]) 5 rfl), hP 1 (Q1y i0 (by omega))] [aN (Q1kt x0 (H.2.1 x0 (Q29 hx0)))] (by kernel_rfl) hr
theorem Quh (p0 : List ContainerStatus) (H : Qg0 p0) : ∀ (r0 : List ContainerStatus) (i0 : Nat) (v0_1 : List Val), List.drop i0 p0 = r0 → List.length v0_1 ≤ i0 → Qe0 p0 (Qfw p0 i0 v0_1) (Q3l p0 r0 i0 v0_1)
 | [], i0, v0_1, hd, ho0_0 => by
  have hc0 : (decide ((i0 : Int) < ((List.length p0) : Int))) = false := by have := Q1b hd; simp; omega
  rw [Q3l]
  exact Q127 p0 H i0 v0_1 ho0_0 hc0
 | x0 :: r0, i0, v0_1, hd, ho0_0 => by
  obtain ⟨hx0, hi0, hd'⟩ := Q14 hd
  have hc0 : (decide ((i0 : Int) < ((List.length p0) : Int))) = true := by simp; omega
  rw [Q3l]
  exact Qpy p0 (fun r hr => Q12j p0 H x0 i0 v0_1 hx0 hi0 ho0_0 hc0 hr) _ (Quh p0 H r0 (i0 + 1) (v0_1 ++ [(Qak x0)]) hd' (by first | omega | (simp; omega)))
def Q55 (p0 : List ContainerStatus) : Val := vL (p0.map ContainerStatus.enc)
theorem Q14k (p0 : List ContainerStatus) : Q55 p0 = ((Qbf (Q3l p0 p0 0 []))) := by
  rw [Qqc]
  rfl
def Q13i (p0 : List ContainerStatus) : En := .call 120 [.sl (ContainerStatus.rows p0), .fn 121 [] []] []
def Qlw (p0 : List ContainerStatus) : Rs := .ret (.agg (Val.cells (Q55 p0))) []
def Qch (p0 : List ContainerStatus) : Prop := LSm ContainerStatus.sm p0
theorem Qbr (p0 : List ContainerStatus) (H : Qch p0) : (Qg0 p0) ∧ (Qc5 (Q3l p0 p0 0 [])) ∧ True := by
  refine ⟨⟨Nat.le_trans H.1 (Nat.le_of_ble_eq_true rfl), H.2, trivial⟩, ⟨?_, trivial⟩, trivial⟩
  rw [Qqc]
  exact Q2a (fun _ h => ContainerStatus.Q1i h) H
theorem Q11q (p0 : List ContainerStatus) (H : Qch p0) : Q6 G (Q13i p0) (Qlw p0) := by
 unfold Qlw
 rw [Q14k]
 have hl0 := Quh p0 ((Qbr p0 H).1) p0 0 [] (by simp) (by simp)
 obtain ⟨z0, zo0, hl0⟩ := hl0
 exact Qb (fn := Ir.K1z) rfl VOK.nil [hP 3 (Qe (ContainerStatus.rows p0) (List.length p0) (ContainerStatus.Q5 p0)), hS 0 true (Val.Q7 (Q3l p0 p0 0 []) 5 rfl), hQ (Val.Q5 (Q3l p0 p0 0 [])).symm] [aV [(1, Val.rows (Q3l p0 p0 0 []))] hl0, aN (Qdv (Q3l p0 p0 0 []) (Qbr p0 H).2.1)] (by kernel_rfl)
def Q1ci (p0 : PodStatus) : Val := PodStatus.enc p0
theorem Q1h9 (p0 : PodStatus) : Q1ci p0 = ((Q5f ([(Q9 Q2y (Qs p0.address)), (Q9 Q13 (Q55 p0.containers)), (Q9 Q2k (Qs p0.finished)), (Q9 Q2c (Q1h p0.nominated)), (Q9 Q4f (Qs p0.phase)), (Q9 Qp (Q23 p0.ready)), (Q9 Q22 (Qs p0.readySince)), (Q9 Q3c (Q1h p0.reason)), (Q9 Q10 (Qs p0.started))]))) := by
  exact Eq.symm (Q2z (by exact Nat.le_of_ble_eq_true rfl) (by kernel_rfl))
def Q1ik (p0 : PodStatus) : En := .call 57 [.agg (PodStatus.cells p0)] []
def Q1f8 (p0 : PodStatus) : Rs := .ret (.agg (Val.cells (Q1ci p0))) []
def Q1bo (p0 : PodStatus) : Prop := PodStatus.sm p0
theorem Qzy (p0 : PodStatus) (H : Q1bo p0) : (Qch p0.containers) ∧ (Q7v ([(Q9 Q2y (Qs p0.address)), (Q9 Q13 (Q55 p0.containers)), (Q9 Q2k (Qs p0.finished)), (Q9 Q2c (Q1h p0.nominated)), (Q9 Q4f (Qs p0.phase)), (Q9 Qp (Q23 p0.ready)), (Q9 Q22 (Qs p0.readySince)), (Q9 Q3c (Q1h p0.reason)), (Q9 Q10 (Qs p0.started))])) ∧ True := by
  repeat' with_reducible apply And.intro
  all_goals first | exact True.intro | exact H | exact H.1 | exact H.2.1 | exact H.2.2.1 | exact H.2.2.2.1 | exact H.2.2.2.2.1 | exact H.2.2.2.2.2.1 | exact H.2.2.2.2.2.2.1 | exact H.2.2.2.2.2.2.2.1 | exact H.2.2.2.2.2.2.2.2.1 | exact H.2.2.2.2.2.2.2.2.2.1 | exact H.2.2.2.2.2.2.2.2.2.2.1 | exact Q8h (by exact Nat.le_of_ble_eq_true rfl) (PodStatus.Q1i H).all.2.2.2
theorem Q1gt (p0 : PodStatus) (H : Q1bo p0) : Q6 G (Q1ik p0) (Q1f8 p0) := by
 unfold Q1f8
 rw [Q1h9]
 exact Qb (fn := Ir.K1o) rfl VOK.nil [] [aN (Q4s p0.address), aN (Q1r Q2y (Qs p0.address)), aN (Q11q p0.containers (Qzy p0 H).1), aN (Q1r Q13 (Q55 p0.containers)), aN (Q4s p0.finished), aN (Q1r Q2k (Qs p0.finished)), aN (Q8g p0.nominated), aN (Q1r Q2c (Q1h p0.nominated)), aN (Q4s p0.phase), aN (Q1r Q4f (Qs p0.phase)), aN (Qdr p0.ready), aN (Q1r Qp (Q23 p0.ready)), aN (Q4s p0.readySince), aN (Q1r Q22 (Qs p0.readySince)), aN (Q8g p0.reason), aN (Q1r Q3c (Q1h p0.reason)), aN (Q4s p0.started), aN (Q1r Q10 (Qs p0.started)), aN (Q3v (e' := .call 61 [.sl [(Fld.cells (Q9 Q2y (Qs p0.address))), (Fld.cells (Q9 Q13 (Q55 p0.containers))), (Fld.cells (Q9 Q2k (Qs p0.finished))), (Fld.cells (Q9 Q2c (Q1h p0.nominated))), (Fld.cells (Q9 Q4f (Qs p0.phase))), (Fld.cells (Q9 Qp (Q23 p0.ready))), (Fld.cells (Q9 Q22 (Qs p0.readySince))), (Fld.cells (Q9 Q3c (Q1h p0.reason))), (Fld.cells (Q9 Q10 (Qs p0.started)))]] []) (Q8s ([(Q9 Q2y (Qs p0.address)), (Q9 Q13 (Q55 p0.containers)), (Q9 Q2k (Qs p0.finished)), (Q9 Q2c (Q1h p0.nominated)), (Q9 Q4f (Qs p0.phase)), (Q9 Qp (Q23 p0.ready)), (Q9 Q22 (Qs p0.readySince)), (Q9 Q3c (Q1h p0.reason)), (Q9 Q10 (Qs p0.started))]) (Qzy p0 H).2.1) (by simp only [Q85, Fld.Qo, Fld.Qy]))] (by kernel_rfl)
def Qa9 (p0 : Taint) : Val := Taint.enc p0
theorem Q1ha (p0 : Taint) : Qa9 p0 = ((Q5f ([(Q9 Qv (Qs p0.effect)), (Q9 Qx (Q1h p0.key)), (Q9 Q16 (Qs p0.since)), (Q9 Qn (Q1h p0.value))]))) := by
  exact Eq.symm (Q2z (by exact Nat.le_of_ble_eq_true rfl) (by kernel_rfl))
def Q1go (p0 : Taint) : En := .call 67 [.agg (Taint.cells p0)] []
def Q1dq (p0 : Taint) : Rs := .ret (.agg (Val.cells (Qa9 p0))) []
def Q1br (p0 : Taint) : Prop := Taint.sm p0
theorem Q18e (p0 : Taint) (H : Q1br p0) : (Q7v ([(Q9 Qv (Qs p0.effect)), (Q9 Qx (Q1h p0.key)), (Q9 Q16 (Qs p0.since)), (Q9 Qn (Q1h p0.value))])) ∧ True := by
  repeat' with_reducible apply And.intro
  all_goals first | exact True.intro | exact H | exact H.1 | exact H.2.1 | exact H.2.2.1 | exact H.2.2.2.1 | exact H.2.2.2.2.1 | exact H.2.2.2.2.2.1 | exact H.2.2.2.2.2.2.1 | exact H.2.2.2.2.2.2.2.1 | exact H.2.2.2.2.2.2.2.2.1 | exact H.2.2.2.2.2.2.2.2.2.1 | exact H.2.2.2.2.2.2.2.2.2.2.1 | exact Q8h (by exact Nat.le_of_ble_eq_true rfl) (Taint.Q1i H).all.2.2.2
theorem Q1ld (p0 : Taint) (H : Q1br p0) : Q6 G (Q1go p0) (Q1dq p0) := by
 unfold Q1dq
 rw [Q1ha]
 exact Qb (fn := Ir.K1p) rfl VOK.nil [] [aN (Q4s p0.effect), aN (Q1r Qv (Qs p0.effect)), aN (Q8g p0.key), aN (Q1r Qx (Q1h p0.key)), aN (Q4s p0.since), aN (Q1r Q16 (Qs p0.since)), aN (Q8g p0.value), aN (Q1r Qn (Q1h p0.value)), aN (Q3v (e' := .call 61 [.sl [(Fld.cells (Q9 Qv (Qs p0.effect))), (Fld.cells (Q9 Qx (Q1h p0.key))), (Fld.cells (Q9 Q16 (Qs p0.since))), (Fld.cells (Q9 Qn (Q1h p0.value)))]] []) (Q8s ([(Q9 Qv (Qs p0.effect)), (Q9 Qx (Q1h p0.key)), (Q9 Q16 (Qs p0.since)), (Q9 Qn (Q1h p0.value))]) (Q18e p0 H).1) (by simp only [Q85, Fld.Qo, Fld.Qy]))] (by kernel_rfl)
def Q9w (p0 : Image) : Val := Image.enc p0
theorem Q1h8 (p0 : Image) : Q9w p0 = ((Q5f ([(Q9 Qw (Q1h p0.name)), (Q9 Q2q (Qs p0.size)), (Q9 Q2r (Qs p0.used))]))) := by
  exact Eq.symm (Q2z (by exact Nat.le_of_ble_eq_true rfl) (by kernel_rfl))
def Q1ig (p0 : Image) : En := .call 69 [.agg (Image.cells p0)] []
def Q1f0 (p0 : Image) : Rs := .ret (.agg (Val.cells (Q9w p0))) []
def Q1bu (p0 : Image) : Prop := Image.sm p0
theorem Q17x (p0 : Image) (H : Q1bu p0) : (Q7v ([(Q9 Qw (Q1h p0.name)), (Q9 Q2q (Qs p0.size)), (Q9 Q2r (Qs p0.used))])) ∧ True := by
  repeat' with_reducible apply And.intro
  all_goals first | exact True.intro | exact H | exact H.1 | exact H.2.1 | exact H.2.2.1 | exact H.2.2.2.1 | exact H.2.2.2.2.1 | exact H.2.2.2.2.2.1 | exact H.2.2.2.2.2.2.1 | exact H.2.2.2.2.2.2.2.1 | exact H.2.2.2.2.2.2.2.2.1 | exact H.2.2.2.2.2.2.2.2.2.1 | exact H.2.2.2.2.2.2.2.2.2.2.1 | exact Q8h (by exact Nat.le_of_ble_eq_true rfl) (Image.Q1i H).all.2.2.2
theorem Q1k8 (p0 : Image) (H : Q1bu p0) : Q6 G (Q1ig p0) (Q1f0 p0) := by
 unfold Q1f0
 rw [Q1h8]
 exact Qb (fn := Ir.K1f) rfl VOK.nil [] [aN (Q8g p0.name), aN (Q1r Qw (Q1h p0.name)), aN (Q4s p0.size), aN (Q1r Q2q (Qs p0.size)), aN (Q4s p0.used), aN (Q1r Q2r (Qs p0.used)), aN (Q3v (e' := .call 61 [.sl [(Fld.cells (Q9 Qw (Q1h p0.name))), (Fld.cells (Q9 Q2q (Qs p0.size))), (Fld.cells (Q9 Q2r (Qs p0.used)))]] []) (Q8s ([(Q9 Qw (Q1h p0.name)), (Q9 Q2q (Qs p0.size)), (Q9 Q2r (Qs p0.used))]) (Q17x p0 H).1) (by simp only [Q85, Fld.Qo, Fld.Qy]))] (by kernel_rfl)
end Go.Proofs.YtiflaadeikaghaaGreat
end

section
/- What the program's decoders compute (printed by a program). -/
namespace Go.Proofs.YtiflaadeikaghaaGreat
open Go.Pv
structure Decoder where
  failed : Bool
def Decoder.cells (x : Decoder) : List PV :=
  [.bool x.failed]
def Decoder.rows (l : List Decoder) : List (List PV) := l.map Decoder.cells
theorem Decoder.Q5 (l : List Decoder) : (Decoder.rows l).length = l.length := by simp [Decoder.rows]
theorem Decoder.Qa {l : List Decoder} {i : Nat} {x : Decoder} (h : l[i]? = some x) : (Decoder.rows l)[i]? = some (Decoder.cells x) := Go.Pv.Qa h
theorem Decoder.Q15 (l : List Decoder) (x : Decoder) : Decoder.rows (l ++ [x]) = Decoder.rows l ++ [Decoder.cells x] := by simp [Decoder.rows]
theorem Decoder.Q2h (l : List Decoder) (k : Nat) (x : Decoder) : Decoder.rows (l.set k x) = (Decoder.rows l).set k (Decoder.cells x) := by simp [Decoder.rows, List.map_set]
theorem Decoder.Qi (l : List Decoder) : ∀ r ∈ Decoder.rows l, r.length = 1 := Q2l (f := Decoder.cells) (fun _ => rfl) l
theorem Decoder.Q7 (l : List Decoder) (sz : Nat) (h : sz = 1) : ViewOK sz (Decoder.rows l).flatten (Decoder.rows l) := by subst h; exact ⟨rfl, Decoder.Qi l, Q21 (f := Decoder.cells) (fun _ => rfl) l⟩
end Go.Proofs.YtiflaadeikaghaaGreat
end

section
/- What the reference's encoders compute (printed by a program). -/
namespace Go.Proofs.YtiflaadeikaghaaGreat
open Go.Pv
def Qh (p0 : ByteArray) : Val :=
 (Val.mk 3 0 p0 [] [])
def Q1kl (p0 : ByteArray) : En := .call 125 [.str p0] []
def Q1d7 (p0 : ByteArray) : Rs := .ret (.agg (Val.cells (Qh p0))) []
theorem Q8r (p0 : ByteArray) : Q6 G (Q1kl p0) (Q1d7 p0) := by
 unfold Q1d7 Qh
 exact Qb (fn := Ir.K3c) rfl VOK.nil [] [] (by kernel_rfl)
def Q0 (p0 : ByteArray) (p1 : Val) : Fld :=
 (Fld.mk p0 p1)
def Q1gi (p0 : ByteArray) (p1 : Val) : En := .call 71 [.str p0, .agg (Val.cells p1)] []
def Q1d9 (p0 : ByteArray) (p1 : Val) : Rs := .ret (.agg (Fld.cells (Q0 p0 p1))) []
theorem Q1q (p0 : ByteArray) (p1 : Val) : Q6 G (Q1gi p0 p1) (Q1d9 p0 p1) := by
 unfold Q1d9 Q0
 exact Qb (fn := Ir.K2w) rfl VOK.nil [] [] (by kernel_rfl)
def Qt (p0 : List Fld) : Val :=
 (Val.mk 5 0 (⟨#[]⟩ : ByteArray) [] p0)
def Q87 (p0 : List Fld) : En := .call 70 [.sl (Fld.rows p0)] []
def Q1fh (p0 : List Fld) : Rs := .ret (.agg (Val.cells (Qt p0))) []
theorem Q8b (p0 : List Fld) : Q6 G (Q87 p0) (Q1fh p0) := by
 unfold Q1fh Qt
 exact Qb (fn := Ir.K3b) rfl VOK.nil [] [] (by kernel_rfl)
def Qaq (p0 : List Val) : Val :=
 (Val.mk 4 0 (⟨#[]⟩ : ByteArray) p0 [])
def Q1h2 (p0 : List Val) : En := .call 138 [.sl (Val.rows p0)] []
def Q1ej (p0 : List Val) : Rs := .ret (.agg (Val.cells (Qaq p0))) []
theorem Qdo (p0 : List Val) : Q6 G (Q1h2 p0) (Q1ej p0) := by
 unfold Q1ej Qaq
 exact Qb (fn := Ir.K39) rfl VOK.nil [] [] (by kernel_rfl)
def Q49 (p0 : List Label) : List Label → Nat → (List Val) → List Val
 | [], _i0, v0_1 =>
  v0_1
 | x0 :: r0, i0, v0_1 =>
  Q49 p0 r0 (i0 + 1) (v0_1 ++ [(Qt ([(Q0 Qx (Qh x0.key)), (Q0 Qn (Qh x0.value))]))])
theorem Qy7 (p0 : List Label) : ∀ (l : List Label) (i : Nat) (a : List Val), Q49 p0 l i a = a ++ l.map (fun x0 => (Qt ([(Q0 Qx (Qh x0.key)), (Q0 Qn (Qh x0.value))])))
  | [], _, _ => by simp [Q49]
  | x :: r, i, a => by rw [Q49, Qy7 p0 r]; simp
def Qtl (p0 : List Label) (i0 : Nat) (v0_1 : List Val) : List PV :=
  [.sl (Label.rows p0), .un, .bx 0 0, .ms 1 5 0 (List.length v0_1), .int .i64 (i0 : Int)] ++ nuns 27
def Qkf (_p0 : List Label) (_i0 : Nat) (v0_1 : List Val) : List Ob :=
  [⟨5, 0, true, [.int .i64 0, .int .i64 0, .str (⟨#[]⟩ : ByteArray), .ms 2 5 0 0, .ms 3 6 0 0]⟩, ⟨5, 0, true, (Val.rows v0_1).flatten⟩, ⟨5, 0, true, []⟩, ⟨6, 0, true, []⟩]
def Qe7 (p0 : List Label) (i0 : Nat) (v0_1 : List Val) : En := .loop 0 Ir.Qgz Ir.Q19w (Qtl p0 i0 v0_1) (Qkf p0 i0 v0_1)
def Qln (_p0 : List Label) (q0 : List Val) (z : Nat → PV) (_zo : Nat → List PV) : St :=
  ⟨[z 0, z 1, .bx 0 0, .ms 1 5 0 (List.length q0)] ++ zr z 4 28, [(0, ⟨5, 0, true, [.int .i64 0, .int .i64 0, .str (⟨#[]⟩ : ByteArray), .ms 2 5 0 0, .ms 3 6 0 0]⟩), (1, ⟨5, 0, true, (Val.rows q0).flatten⟩), (2, ⟨5, 0, true, []⟩), (3, ⟨6, 0, true, []⟩)], 260⟩
theorem Qyt (p0 : List Label) (i0 : Nat) (v0_1 : List Val) : VOK (Go.Pv.look (number 0 (Qkf p0 i0 v0_1))) [(1, Val.rows v0_1)] := (VOK.cons (show Seen _ _ from Q3j (ob := ⟨5, 0, true, (Val.rows v0_1).flatten⟩) (Val.Q7 v0_1 5 rfl)) VOK.nil)
def Qf2 (p0 : List Label) (e : En) (q : List Val) : Prop := ∃ z zo, Q6 G e (.st (.exit 0) (Qln p0 q z zo))
theorem Qrh (p0 : List Label) {e e' : En} (h : ∀ r, Q6 G e r → Q6 G e' r) : ∀ q, Qf2 p0 e q → Qf2 p0 e' q
  | _, ⟨z, zo, hz⟩ => ⟨z, zo, h _ hz⟩
def Qfu (p0 : List Label) : Prop := (List.length p0 ≤ 137438953472) ∧ True
def Qm7 (p0 : List Label) (i0 : Nat) (_v0_1 : List Val) : List PV :=
  [.sl (Label.rows p0), .un, .un, .un, .int .i64 (i0 : Int), .int .i64 (i0 : Int), .sl (Label.rows p0), .int .i64 ((List.length p0) : Int), .bool false]
def Qia (_p0 : List Label) (_i0 : Nat) (_v0_1 : List Val) : List (Nat × List PV) :=
  []
theorem Q14e (p0 : List Label) (_H : Qfu p0) (i0 : Nat) (v0_1 : List Val) (_ho0_0 : List.length v0_1 ≤ i0) (hc0 : (decide ((i0 : Int) < ((List.length p0) : Int))) = false) : Qf2 p0 (Qe7 p0 i0 v0_1) v0_1 := by
 exact ⟨(envF (Qm7 p0 i0 v0_1)), (zoF (Qia p0 i0 v0_1)), Qg (Qyt p0 i0 v0_1) (x := ((.exit 0), Qln p0 v0_1 (envF (Qm7 p0 i0 v0_1)) (zoF (Qia p0 i0 v0_1)))) [hP 2 (Qe (Label.rows p0) (List.length p0) (Label.Q5 p0)), hB 0 hc0] [] (by kernel_rfl)⟩
theorem Q13d (p0 : List Label) (H : Qfu p0) (x0 : Label) (i0 : Nat) (v0_1 : List Val) (hx0 : p0[i0]? = some x0) (hi0 : i0 < List.length p0) (ho0_0 : List.length v0_1 ≤ i0) (hc0 : (decide ((i0 : Int) < ((List.length p0) : Int))) = true) {r : Rs} (hr : Q6 G (Qe7 p0 (i0 + 1) (v0_1 ++ [(Qt ([(Q0 Qx (Qh x0.key)), (Q0 Qn (Qh x0.value))]))])) r) : Q6 G (Qe7 p0 i0 v0_1) r := by
 have hB0 := H.1
 exact Qk (Qyt p0 i0 v0_1) (y := (Qtl p0 (i0 + 1) (v0_1 ++ [(Qt ([(Q0 Qx (Qh x0.key)), (Q0 Qn (Qh x0.value))]))]), Qkf p0 (i0 + 1) (v0_1 ++ [(Qt ([(Q0 Qx (Qh x0.key)), (Q0 Qn (Qh x0.value))]))]))) [hP 2 (Qe (Label.rows p0) (List.length p0) (Label.Q5 p0)), hB 0 hc0, hP 3 (Q1f 2 (Label.rows p0) i0 _ (Label.Qa hx0) rfl), hP 6 (Q1f 2 (Label.rows p0) i0 _ (Label.Qa hx0) rfl), hV 7 [(1412, Val.rows (v0_1 ++ [(Qt ([(Q0 Qx (Qh x0.key)), (Q0 Qn (Qh x0.value))]))]))] (Q5h 1 1348 1412 5 80 0 0 true (Val.rows v0_1) (Val.rows (v0_1 ++ [(Qt ([(Q0 Qx (Qh x0.key)), (Q0 Qn (Qh x0.value))]))])) (Val.cells (Qt ([(Q0 Qx (Qh x0.key)), (Q0 Qn (Qh x0.value))]))) (List.length v0_1) (List.length (v0_1 ++ [(Qt ([(Q0 Qx (Qh x0.key)), (Q0 Qn (Qh x0.value))]))])) rfl (Val.Q5 v0_1).symm (Val.Q5 (v0_1 ++ [(Qt ([(Q0 Qx (Qh x0.key)), (Q0 Qn (Qh x0.value))]))])).symm (Val.Q15 v0_1 (Qt ([(Q0 Qx (Qh x0.key)), (Q0 Qn (Qh x0.value))]))) (Val.Qi v0_1) rfl (by omega)), hS 0 true (Val.Q7 (v0_1 ++ [(Qt ([(Q0 Qx (Qh x0.key)), (Q0 Qn (Qh x0.value))]))]) 5 rfl), hP 2 (Q1y i0 (by omega))] [aN (Q8r x0.key), aN (Q1q Qx (Qh x0.key)), aN (Q8r x0.value), aN (Q1q Qn (Qh x0.value)), aN (Q3v (e' := .call 70 [.sl [(Fld.cells (Q0 Qx (Qh x0.key))), (Fld.cells (Q0 Qn (Qh x0.value)))]] []) (Q8b ([(Q0 Qx (Qh x0.key)), (Q0 Qn (Qh x0.value))])) (by simp only [Q87, Fld.Qo, Fld.Qy]))] (by kernel_rfl) hr
theorem Qvw (p0 : List Label) (H : Qfu p0) : ∀ (r0 : List Label) (i0 : Nat) (v0_1 : List Val), List.drop i0 p0 = r0 → List.length v0_1 ≤ i0 → Qf2 p0 (Qe7 p0 i0 v0_1) (Q49 p0 r0 i0 v0_1)
 | [], i0, v0_1, hd, ho0_0 => by
  have hc0 : (decide ((i0 : Int) < ((List.length p0) : Int))) = false := by have := Q1b hd; simp; omega
  rw [Q49]
  exact Q14e p0 H i0 v0_1 ho0_0 hc0
 | x0 :: r0, i0, v0_1, hd, ho0_0 => by
  obtain ⟨hx0, hi0, hd'⟩ := Q14 hd
  have hc0 : (decide ((i0 : Int) < ((List.length p0) : Int))) = true := by simp; omega
  rw [Q49]
  exact Qrh p0 (fun r hr => Q13d p0 H x0 i0 v0_1 hx0 hi0 ho0_0 hc0 hr) _ (Qvw p0 H r0 (i0 + 1) (v0_1 ++ [(Qt ([(Q0 Qx (Qh x0.key)), (Q0 Qn (Qh x0.value))]))]) hd' (by first | omega | (simp; omega)))
def Q11o (p0 : List Label) : Val := vL (p0.map Label.enc)
theorem Q1hk (p0 : List Label) : Q11o p0 = ((Qaq (Q49 p0 p0 0 []))) := by
  rw [Qy7]
  rfl
def Q1kp (p0 : List Label) : En := .call 79 [.sl (Label.rows p0)] []
def Q1fa (p0 : List Label) : Rs := .ret (.agg (Val.cells (Q11o p0))) []
def Q1az (p0 : List Label) : Prop := LSm Label.sm p0
theorem Q184 (p0 : List Label) (H : Q1az p0) : (Qfu p0) ∧ True := by
  exact ⟨⟨Nat.le_trans H.1 (Nat.le_of_ble_eq_true rfl), trivial⟩, trivial⟩
theorem Q1k4 (p0 : List Label) (H : Q1az p0) : Q6 G (Q1kp p0) (Q1fa p0) := by
 unfold Q1fa
 rw [Q1hk]
 have hl0 := Qvw p0 ((Q184 p0 H).1) p0 0 [] (by simp) (by simp)
 obtain ⟨z0, zo0, hl0⟩ := hl0
 exact Qb (fn := Ir.K2z) rfl VOK.nil [hS 0 true (Val.Q7 (Q49 p0 p0 0 []) 5 rfl), hQ (Val.Q5 (Q49 p0 p0 0 [])).symm] [aV [(1, Val.rows (Q49 p0 p0 0 []))] hl0, aN (Qdo (Q49 p0 p0 0 []))] (by kernel_rfl)
def Q8 (p0 : Int) : Val :=
 (Val.mk 2 p0 (⟨#[]⟩ : ByteArray) [] [])
def Q1g7 (p0 : Int) : En := .call 74 [.int .i64 p0] []
def Q1fp (p0 : Int) : Rs := .ret (.agg (Val.cells (Q8 p0))) []
theorem Q4p (p0 : Int) : Q6 G (Q1g7 p0) (Q1fp p0) := by
 unfold Q1fp Q8
 exact Qb (fn := Ir.K3a) rfl VOK.nil [] [] (by kernel_rfl)
def Q3a (p0 : Resources) : Val :=
 (Qt ([(Q0 Q83 (Q8 p0.cPU)), (Q0 Q5j (Q8 p0.disk)), (Q0 Q3d (Q8 p0.memory))]))
def Q1ga (p0 : Resources) : En := .call 72 [.agg (Resources.cells p0)] []
def Q1e4 (p0 : Resources) : Rs := .ret (.agg (Val.cells (Q3a p0))) []
theorem Q1c8 (p0 : Resources) : Q6 G (Q1ga p0) (Q1e4 p0) := by
 unfold Q1e4 Q3a
 exact Qb (fn := Ir.K33) rfl VOK.nil [] [aN (Q4p p0.cPU), aN (Q1q Q83 (Q8 p0.cPU)), aN (Q4p p0.disk), aN (Q1q Q5j (Q8 p0.disk)), aN (Q4p p0.memory), aN (Q1q Q3d (Q8 p0.memory)), aN (Q3v (e' := .call 70 [.sl [(Fld.cells (Q0 Q83 (Q8 p0.cPU))), (Fld.cells (Q0 Q5j (Q8 p0.disk))), (Fld.cells (Q0 Q3d (Q8 p0.memory)))]] []) (Q8b ([(Q0 Q83 (Q8 p0.cPU)), (Q0 Q5j (Q8 p0.disk)), (Q0 Q3d (Q8 p0.memory))])) (by simp only [Q87, Fld.Qo, Fld.Qy]))] (by kernel_rfl)
def Q4g (p0 : List Probe) : List Probe → Nat → (List Val) → List Val
 | [], _i0, v0_1 =>
  v0_1
 | x0 :: r0, i0, v0_1 =>
  Q4g p0 r0 (i0 + 1) (v0_1 ++ [(Qt ([(Q0 Q28 (Q8 x0.delay)), (Q0 Q1n (Q8 x0.failure)), (Q0 Q1x (Q8 x0.period)), (Q0 Q1k (Q8 x0.success))]))])
theorem Qyq (p0 : List Probe) : ∀ (l : List Probe) (i : Nat) (a : List Val), Q4g p0 l i a = a ++ l.map (fun x0 => (Qt ([(Q0 Q28 (Q8 x0.delay)), (Q0 Q1n (Q8 x0.failure)), (Q0 Q1x (Q8 x0.period)), (Q0 Q1k (Q8 x0.success))])))
  | [], _, _ => by simp [Q4g]
  | x :: r, i, a => by rw [Q4g, Qyq p0 r]; simp
def Que (p0 : List Probe) (i0 : Nat) (v0_1 : List Val) : List PV :=
  [.sl (Probe.rows p0), .un, .bx 0 0, .ms 1 5 0 (List.length v0_1), .int .i64 (i0 : Int)] ++ nuns 41
def Qj0 (_p0 : List Probe) (_i0 : Nat) (v0_1 : List Val) : List Ob :=
  [⟨5, 0, true, [.int .i64 0, .int .i64 0, .str (⟨#[]⟩ : ByteArray), .ms 2 5 0 0, .ms 3 6 0 0]⟩, ⟨5, 0, true, (Val.rows v0_1).flatten⟩, ⟨5, 0, true, []⟩, ⟨6, 0, true, []⟩]
def Qfn (p0 : List Probe) (i0 : Nat) (v0_1 : List Val) : En := .loop 0 Ir.Qja Ir.Q1ap (Que p0 i0 v0_1) (Qj0 p0 i0 v0_1)
def Qmv (_p0 : List Probe) (q0 : List Val) (z : Nat → PV) (_zo : Nat → List PV) : St :=
  ⟨[z 0, z 1, .bx 0 0, .ms 1 5 0 (List.length q0)] ++ zr z 4 42, [(0, ⟨5, 0, true, [.int .i64 0, .int .i64 0, .str (⟨#[]⟩ : ByteArray), .ms 2 5 0 0, .ms 3 6 0 0]⟩), (1, ⟨5, 0, true, (Val.rows q0).flatten⟩), (2, ⟨5, 0, true, []⟩), (3, ⟨6, 0, true, []⟩)], 260⟩
theorem Q10h (p0 : List Probe) (i0 : Nat) (v0_1 : List Val) : VOK (Go.Pv.look (number 0 (Qj0 p0 i0 v0_1))) [(1, Val.rows v0_1)] := (VOK.cons (show Seen _ _ from Q3j (ob := ⟨5, 0, true, (Val.rows v0_1).flatten⟩) (Val.Q7 v0_1 5 rfl)) VOK.nil)
def Qfb (p0 : List Probe) (e : En) (q : List Val) : Prop := ∃ z zo, Q6 G e (.st (.exit 0) (Qmv p0 q z zo))
theorem Qrk (p0 : List Probe) {e e' : En} (h : ∀ r, Q6 G e r → Q6 G e' r) : ∀ q, Qfb p0 e q → Qfb p0 e' q
  | _, ⟨z, zo, hz⟩ => ⟨z, zo, h _ hz⟩
def Qfy (p0 : List Probe) : Prop := (List.length p0 ≤ 137438953472) ∧ True
def Qnz (p0 : List Probe) (i0 : Nat) (_v0_1 : List Val) : List PV :=
  [.sl (Probe.rows p0), .un, .un, .un, .int .i64 (i0 : Int), .int .i64 (i0 : Int), .sl (Probe.rows p0), .int .i64 ((List.length p0) : Int), .bool false]
def Qh9 (_p0 : List Probe) (_i0 : Nat) (_v0_1 : List Val) : List (Nat × List PV) :=
  []
theorem Q12b (p0 : List Probe) (_H : Qfy p0) (i0 : Nat) (v0_1 : List Val) (_ho0_0 : List.length v0_1 ≤ i0) (hc0 : (decide ((i0 : Int) < ((List.length p0) : Int))) = false) : Qfb p0 (Qfn p0 i0 v0_1) v0_1 := by
 exact ⟨(envF (Qnz p0 i0 v0_1)), (zoF (Qh9 p0 i0 v0_1)), Qg (Q10h p0 i0 v0_1) (x := ((.exit 0), Qmv p0 v0_1 (envF (Qnz p0 i0 v0_1)) (zoF (Qh9 p0 i0 v0_1)))) [hP 2 (Qe (Probe.rows p0) (List.length p0) (Probe.Q5 p0)), hB 0 hc0] [] (by kernel_rfl)⟩
theorem Q142 (p0 : List Probe) (H : Qfy p0) (x0 : Probe) (i0 : Nat) (v0_1 : List Val) (hx0 : p0[i0]? = some x0) (hi0 : i0 < List.length p0) (ho0_0 : List.length v0_1 ≤ i0) (hc0 : (decide ((i0 : Int) < ((List.length p0) : Int))) = true) {r : Rs} (hr : Q6 G (Qfn p0 (i0 + 1) (v0_1 ++ [(Qt ([(Q0 Q28 (Q8 x0.delay)), (Q0 Q1n (Q8 x0.failure)), (Q0 Q1x (Q8 x0.period)), (Q0 Q1k (Q8 x0.success))]))])) r) : Q6 G (Qfn p0 i0 v0_1) r := by
 have hB0 := H.1
 exact Qk (Q10h p0 i0 v0_1) (y := (Que p0 (i0 + 1) (v0_1 ++ [(Qt ([(Q0 Q28 (Q8 x0.delay)), (Q0 Q1n (Q8 x0.failure)), (Q0 Q1x (Q8 x0.period)), (Q0 Q1k (Q8 x0.success))]))]), Qj0 p0 (i0 + 1) (v0_1 ++ [(Qt ([(Q0 Q28 (Q8 x0.delay)), (Q0 Q1n (Q8 x0.failure)), (Q0 Q1x (Q8 x0.period)), (Q0 Q1k (Q8 x0.success))]))]))) [hP 2 (Qe (Probe.rows p0) (List.length p0) (Probe.Q5 p0)), hB 0 hc0, hP 3 (Q1f 4 (Probe.rows p0) i0 _ (Probe.Qa hx0) rfl), hP 6 (Q1f 4 (Probe.rows p0) i0 _ (Probe.Qa hx0) rfl), hP 6 (Q1f 4 (Probe.rows p0) i0 _ (Probe.Qa hx0) rfl), hP 6 (Q1f 4 (Probe.rows p0) i0 _ (Probe.Qa hx0) rfl), hV 7 [(2308, Val.rows (v0_1 ++ [(Qt ([(Q0 Q28 (Q8 x0.delay)), (Q0 Q1n (Q8 x0.failure)), (Q0 Q1x (Q8 x0.period)), (Q0 Q1k (Q8 x0.success))]))]))] (Q5h 1 2244 2308 5 80 0 0 true (Val.rows v0_1) (Val.rows (v0_1 ++ [(Qt ([(Q0 Q28 (Q8 x0.delay)), (Q0 Q1n (Q8 x0.failure)), (Q0 Q1x (Q8 x0.period)), (Q0 Q1k (Q8 x0.success))]))])) (Val.cells (Qt ([(Q0 Q28 (Q8 x0.delay)), (Q0 Q1n (Q8 x0.failure)), (Q0 Q1x (Q8 x0.period)), (Q0 Q1k (Q8 x0.success))]))) (List.length v0_1) (List.length (v0_1 ++ [(Qt ([(Q0 Q28 (Q8 x0.delay)), (Q0 Q1n (Q8 x0.failure)), (Q0 Q1x (Q8 x0.period)), (Q0 Q1k (Q8 x0.success))]))])) rfl (Val.Q5 v0_1).symm (Val.Q5 (v0_1 ++ [(Qt ([(Q0 Q28 (Q8 x0.delay)), (Q0 Q1n (Q8 x0.failure)), (Q0 Q1x (Q8 x0.period)), (Q0 Q1k (Q8 x0.success))]))])).symm (Val.Q15 v0_1 (Qt ([(Q0 Q28 (Q8 x0.delay)), (Q0 Q1n (Q8 x0.failure)), (Q0 Q1x (Q8 x0.period)), (Q0 Q1k (Q8 x0.success))]))) (Val.Qi v0_1) rfl (by omega)), hS 0 true (Val.Q7 (v0_1 ++ [(Qt ([(Q0 Q28 (Q8 x0.delay)), (Q0 Q1n (Q8 x0.failure)), (Q0 Q1x (Q8 x0.period)), (Q0 Q1k (Q8 x0.success))]))]) 5 rfl), hP 2 (Q1y i0 (by omega))] [aN (Q4p x0.delay), aN (Q1q Q28 (Q8 x0.delay)), aN (Q4p x0.failure), aN (Q1q Q1n (Q8 x0.failure)), aN (Q4p x0.period), aN (Q1q Q1x (Q8 x0.period)), aN (Q4p x0.success), aN (Q1q Q1k (Q8 x0.success)), aN (Q3v (e' := .call 70 [.sl [(Fld.cells (Q0 Q28 (Q8 x0.delay))), (Fld.cells (Q0 Q1n (Q8 x0.failure))), (Fld.cells (Q0 Q1x (Q8 x0.period))), (Fld.cells (Q0 Q1k (Q8 x0.success)))]] []) (Q8b ([(Q0 Q28 (Q8 x0.delay)), (Q0 Q1n (Q8 x0.failure)), (Q0 Q1x (Q8 x0.period)), (Q0 Q1k (Q8 x0.success))])) (by simp only [Q87, Fld.Qo, Fld.Qy]))] (by kernel_rfl) hr
theorem Qsn (p0 : List Probe) (H : Qfy p0) : ∀ (r0 : List Probe) (i0 : Nat) (v0_1 : List Val), List.drop i0 p0 = r0 → List.length v0_1 ≤ i0 → Qfb p0 (Qfn p0 i0 v0_1) (Q4g p0 r0 i0 v0_1)
 | [], i0, v0_1, hd, ho0_0 => by
  have hc0 : (decide ((i0 : Int) < ((List.length p0) : Int))) = false := by have := Q1b hd; simp; omega
  rw [Q4g]
  exact Q12b p0 H i0 v0_1 ho0_0 hc0
 | x0 :: r0, i0, v0_1, hd, ho0_0 => by
  obtain ⟨hx0, hi0, hd'⟩ := Q14 hd
  have hc0 : (decide ((i0 : Int) < ((List.length p0) : Int))) = true := by simp; omega
  rw [Q4g]
  exact Qrk p0 (fun r hr => Q142 p0 H x0 i0 v0_1 hx0 hi0 ho0_0 hc0 hr) _ (Qsn p0 H r0 (i0 + 1) (v0_1 ++ [(Qt ([(Q0 Q28 (Q8 x0.delay)), (Q0 Q1n (Q8 x0.failure)), (Q0 Q1x (Q8 x0.period)), (Q0 Q1k (Q8 x0.success))]))]) hd' (by first | omega | (simp; omega)))
def Q2n (p0 : List Probe) : Val := vL (p0.map Probe.enc)
theorem Q1ji (p0 : List Probe) : Q2n p0 = ((Qaq (Q4g p0 p0 0 []))) := by
  rw [Qyq]
  rfl
def Q1gq (p0 : List Probe) : En := .call 149 [.sl (Probe.rows p0)] []
def Q1fc (p0 : List Probe) : Rs := .ret (.agg (Val.cells (Q2n p0))) []
def Q16j (p0 : List Probe) : Prop := LSm Probe.sm p0
theorem Q190 (p0 : List Probe) (H : Q16j p0) : (Qfy p0) ∧ True := by
  exact ⟨⟨Nat.le_trans H.1 (Nat.le_of_ble_eq_true rfl), trivial⟩, trivial⟩
theorem Q1c3 (p0 : List Probe) (H : Q16j p0) : Q6 G (Q1gq p0) (Q1fc p0) := by
 unfold Q1fc
 rw [Q1ji]
 have hl0 := Qsn p0 ((Q190 p0 H).1) p0 0 [] (by simp) (by simp)
 obtain ⟨z0, zo0, hl0⟩ := hl0
 exact Qb (fn := Ir.K32) rfl VOK.nil [hS 0 true (Val.Q7 (Q4g p0 p0 0 []) 5 rfl), hQ (Val.Q5 (Q4g p0 p0 0 [])).symm] [aV [(1, Val.rows (Q4g p0 p0 0 []))] hl0, aN (Qdo (Q4g p0 p0 0 []))] (by kernel_rfl)
def Q4b (p0 : List Container) : List Container → Nat → (List Val) → List Val
 | [], _i0, v0_1 =>
  v0_1
 | x0 :: r0, i0, v0_1 =>
  Q4b p0 r0 (i0 + 1) (v0_1 ++ [(Qt ([(Q0 Q25 (Qh x0.image)), (Q0 Q27 (Q3a x0.limit)), (Q0 Q2s (Q2n x0.live)), (Q0 Qw (Qh x0.name)), (Q0 Qp (Q2n x0.ready)), (Q0 Q1l (Q3a x0.request)), (Q0 Q1p (Q2n x0.startup))]))])
theorem Qye (p0 : List Container) : ∀ (l : List Container) (i : Nat) (a : List Val), Q4b p0 l i a = a ++ l.map (fun x0 => (Qt ([(Q0 Q25 (Qh x0.image)), (Q0 Q27 (Q3a x0.limit)), (Q0 Q2s (Q2n x0.live)), (Q0 Qw (Qh x0.name)), (Q0 Qp (Q2n x0.ready)), (Q0 Q1l (Q3a x0.request)), (Q0 Q1p (Q2n x0.startup))])))
  | [], _, _ => by simp [Q4b]
  | x :: r, i, a => by rw [Q4b, Qye p0 r]; simp
def Quu (p0 : List Container) (i0 : Nat) (v0_1 : List Val) : List PV :=
  [.sl (Container.rows p0), .un, .bx 0 0, .ms 1 5 0 (List.length v0_1), .int .i64 (i0 : Int)] ++ nuns 46
def Qjo (_p0 : List Container) (_i0 : Nat) (v0_1 : List Val) : List Ob :=
  [⟨5, 0, true, [.int .i64 0, .int .i64 0, .str (⟨#[]⟩ : ByteArray), .ms 2 5 0 0, .ms 3 6 0 0]⟩, ⟨5, 0, true, (Val.rows v0_1).flatten⟩, ⟨5, 0, true, []⟩, ⟨6, 0, true, []⟩]
def Qeg (p0 : List Container) (i0 : Nat) (v0_1 : List Val) : En := .loop 0 Ir.Qil Ir.Q19n (Quu p0 i0 v0_1) (Qjo p0 i0 v0_1)
def Qnp (_p0 : List Container) (q0 : List Val) (z : Nat → PV) (_zo : Nat → List PV) : St :=
  ⟨[z 0, z 1, .bx 0 0, .ms 1 5 0 (List.length q0)] ++ zr z 4 47, [(0, ⟨5, 0, true, [.int .i64 0, .int .i64 0, .str (⟨#[]⟩ : ByteArray), .ms 2 5 0 0, .ms 3 6 0 0]⟩), (1, ⟨5, 0, true, (Val.rows q0).flatten⟩), (2, ⟨5, 0, true, []⟩), (3, ⟨6, 0, true, []⟩)], 260⟩
theorem Qyn (p0 : List Container) (i0 : Nat) (v0_1 : List Val) : VOK (Go.Pv.look (number 0 (Qjo p0 i0 v0_1))) [(1, Val.rows v0_1)] := (VOK.cons (show Seen _ _ from Q3j (ob := ⟨5, 0, true, (Val.rows v0_1).flatten⟩) (Val.Q7 v0_1 5 rfl)) VOK.nil)
def Qf5 (p0 : List Container) (e : En) (q : List Val) : Prop := ∃ z zo, Q6 G e (.st (.exit 0) (Qnp p0 q z zo))
theorem Qrd (p0 : List Container) {e e' : En} (h : ∀ r, Q6 G e r → Q6 G e' r) : ∀ q, Qf5 p0 e q → Qf5 p0 e' q
  | _, ⟨z, zo, hz⟩ => ⟨z, zo, h _ hz⟩
def Qg8 (p0 : List Container) : Prop := (List.length p0 ≤ 137438953472) ∧ (∀ x0 ∈ p0, Q16j x0.live) ∧ (∀ x0 ∈ p0, Q16j x0.ready) ∧ (∀ x0 ∈ p0, Q16j x0.startup) ∧ True
def Qog (p0 : List Container) (i0 : Nat) (_v0_1 : List Val) : List PV :=
  [.sl (Container.rows p0), .un, .un, .un, .int .i64 (i0 : Int), .un, .int .i64 (i0 : Int), .sl (Container.rows p0), .int .i64 ((List.length p0) : Int), .bool false]
def Qhg (_p0 : List Container) (_i0 : Nat) (_v0_1 : List Val) : List (Nat × List PV) :=
  []
theorem Q11i (p0 : List Container) (_H : Qg8 p0) (i0 : Nat) (v0_1 : List Val) (_ho0_0 : List.length v0_1 ≤ i0) (hc0 : (decide ((i0 : Int) < ((List.length p0) : Int))) = false) : Qf5 p0 (Qeg p0 i0 v0_1) v0_1 := by
 exact ⟨(envF (Qog p0 i0 v0_1)), (zoF (Qhg p0 i0 v0_1)), Qg (Qyn p0 i0 v0_1) (x := ((.exit 0), Qnp p0 v0_1 (envF (Qog p0 i0 v0_1)) (zoF (Qhg p0 i0 v0_1)))) [hP 2 (Qe (Container.rows p0) (List.length p0) (Container.Q5 p0)), hB 0 hc0] [] (by kernel_rfl)⟩
theorem Q13x (p0 : List Container) (H : Qg8 p0) (x0 : Container) (i0 : Nat) (v0_1 : List Val) (hx0 : p0[i0]? = some x0) (hi0 : i0 < List.length p0) (ho0_0 : List.length v0_1 ≤ i0) (hc0 : (decide ((i0 : Int) < ((List.length p0) : Int))) = true) {r : Rs} (hr : Q6 G (Qeg p0 (i0 + 1) (v0_1 ++ [(Qt ([(Q0 Q25 (Qh x0.image)), (Q0 Q27 (Q3a x0.limit)), (Q0 Q2s (Q2n x0.live)), (Q0 Qw (Qh x0.name)), (Q0 Qp (Q2n x0.ready)), (Q0 Q1l (Q3a x0.request)), (Q0 Q1p (Q2n x0.startup))]))])) r) : Q6 G (Qeg p0 i0 v0_1) r := by
 have hB0 := H.1
 exact Qk (Qyn p0 i0 v0_1) (y := (Quu p0 (i0 + 1) (v0_1 ++ [(Qt ([(Q0 Q25 (Qh x0.image)), (Q0 Q27 (Q3a x0.limit)), (Q0 Q2s (Q2n x0.live)), (Q0 Qw (Qh x0.name)), (Q0 Qp (Q2n x0.ready)), (Q0 Q1l (Q3a x0.request)), (Q0 Q1p (Q2n x0.startup))]))]), Qjo p0 (i0 + 1) (v0_1 ++ [(Qt ([(Q0 Q25 (Qh x0.image)), (Q0 Q27 (Q3a x0.limit)), (Q0 Q2s (Q2n x0.live)), (Q0 Qw (Qh x0.name)), (Q0 Qp (Q2n x0.ready)), (Q0 Q1l (Q3a x0.request)), (Q0 Q1p (Q2n x0.startup))]))]))) [hP 2 (Qe (Container.rows p0) (List.length p0) (Container.Q5 p0)), hB 0 hc0, hP 2 (Q1f 11 (Container.rows p0) i0 _ (Container.Qa hx0) rfl), hV 35 [(2692, Val.rows (v0_1 ++ [(Qt ([(Q0 Q25 (Qh x0.image)), (Q0 Q27 (Q3a x0.limit)), (Q0 Q2s (Q2n x0.live)), (Q0 Qw (Qh x0.name)), (Q0 Qp (Q2n x0.ready)), (Q0 Q1l (Q3a x0.request)), (Q0 Q1p (Q2n x0.startup))]))]))] (Q5h 1 2628 2692 5 80 0 0 true (Val.rows v0_1) (Val.rows (v0_1 ++ [(Qt ([(Q0 Q25 (Qh x0.image)), (Q0 Q27 (Q3a x0.limit)), (Q0 Q2s (Q2n x0.live)), (Q0 Qw (Qh x0.name)), (Q0 Qp (Q2n x0.ready)), (Q0 Q1l (Q3a x0.request)), (Q0 Q1p (Q2n x0.startup))]))])) (Val.cells (Qt ([(Q0 Q25 (Qh x0.image)), (Q0 Q27 (Q3a x0.limit)), (Q0 Q2s (Q2n x0.live)), (Q0 Qw (Qh x0.name)), (Q0 Qp (Q2n x0.ready)), (Q0 Q1l (Q3a x0.request)), (Q0 Q1p (Q2n x0.startup))]))) (List.length v0_1) (List.length (v0_1 ++ [(Qt ([(Q0 Q25 (Qh x0.image)), (Q0 Q27 (Q3a x0.limit)), (Q0 Q2s (Q2n x0.live)), (Q0 Qw (Qh x0.name)), (Q0 Qp (Q2n x0.ready)), (Q0 Q1l (Q3a x0.request)), (Q0 Q1p (Q2n x0.startup))]))])) rfl (Val.Q5 v0_1).symm (Val.Q5 (v0_1 ++ [(Qt ([(Q0 Q25 (Qh x0.image)), (Q0 Q27 (Q3a x0.limit)), (Q0 Q2s (Q2n x0.live)), (Q0 Qw (Qh x0.name)), (Q0 Qp (Q2n x0.ready)), (Q0 Q1l (Q3a x0.request)), (Q0 Q1p (Q2n x0.startup))]))])).symm (Val.Q15 v0_1 (Qt ([(Q0 Q25 (Qh x0.image)), (Q0 Q27 (Q3a x0.limit)), (Q0 Q2s (Q2n x0.live)), (Q0 Qw (Qh x0.name)), (Q0 Qp (Q2n x0.ready)), (Q0 Q1l (Q3a x0.request)), (Q0 Q1p (Q2n x0.startup))]))) (Val.Qi v0_1) rfl (by omega)), hS 0 true (Val.Q7 (v0_1 ++ [(Qt ([(Q0 Q25 (Qh x0.image)), (Q0 Q27 (Q3a x0.limit)), (Q0 Q2s (Q2n x0.live)), (Q0 Qw (Qh x0.name)), (Q0 Qp (Q2n x0.ready)), (Q0 Q1l (Q3a x0.request)), (Q0 Q1p (Q2n x0.startup))]))]) 5 rfl), hP 2 (Q1y i0 (by omega))] [aN (Q8r x0.image), aN (Q1q Q25 (Qh x0.image)), aN (Q1c8 x0.limit), aN (Q1q Q27 (Q3a x0.limit)), aN (Q1c3 x0.live (H.2.1 x0 (Q29 hx0))), aN (Q1q Q2s (Q2n x0.live)), aN (Q8r x0.name), aN (Q1q Qw (Qh x0.name)), aN (Q1c3 x0.ready (H.2.2.1 x0 (Q29 hx0))), aN (Q1q Qp (Q2n x0.ready)), aN (Q1c8 x0.request), aN (Q1q Q1l (Q3a x0.request)), aN (Q1c3 x0.startup (H.2.2.2.1 x0 (Q29 hx0))), aN (Q1q Q1p (Q2n x0.startup)), aN (Q3v (e' := .call 70 [.sl [(Fld.cells (Q0 Q25 (Qh x0.image))), (Fld.cells (Q0 Q27 (Q3a x0.limit))), (Fld.cells (Q0 Q2s (Q2n x0.live))), (Fld.cells (Q0 Qw (Qh x0.name))), (Fld.cells (Q0 Qp (Q2n x0.ready))), (Fld.cells (Q0 Q1l (Q3a x0.request))), (Fld.cells (Q0 Q1p (Q2n x0.startup)))]] []) (Q8b ([(Q0 Q25 (Qh x0.image)), (Q0 Q27 (Q3a x0.limit)), (Q0 Q2s (Q2n x0.live)), (Q0 Qw (Qh x0.name)), (Q0 Qp (Q2n x0.ready)), (Q0 Q1l (Q3a x0.request)), (Q0 Q1p (Q2n x0.startup))])) (by simp only [Q87, Fld.Qo, Fld.Qy]))] (by kernel_rfl) hr
theorem Qu5 (p0 : List Container) (H : Qg8 p0) : ∀ (r0 : List Container) (i0 : Nat) (v0_1 : List Val), List.drop i0 p0 = r0 → List.length v0_1 ≤ i0 → Qf5 p0 (Qeg p0 i0 v0_1) (Q4b p0 r0 i0 v0_1)
 | [], i0, v0_1, hd, ho0_0 => by
  have hc0 : (decide ((i0 : Int) < ((List.length p0) : Int))) = false := by have := Q1b hd; simp; omega
  rw [Q4b]
  exact Q11i p0 H i0 v0_1 ho0_0 hc0
 | x0 :: r0, i0, v0_1, hd, ho0_0 => by
  obtain ⟨hx0, hi0, hd'⟩ := Q14 hd
  have hc0 : (decide ((i0 : Int) < ((List.length p0) : Int))) = true := by simp; omega
  rw [Q4b]
  exact Qrd p0 (fun r hr => Q13x p0 H x0 i0 v0_1 hx0 hi0 ho0_0 hc0 hr) _ (Qu5 p0 H r0 (i0 + 1) (v0_1 ++ [(Qt ([(Q0 Q25 (Qh x0.image)), (Q0 Q27 (Q3a x0.limit)), (Q0 Q2s (Q2n x0.live)), (Q0 Qw (Qh x0.name)), (Q0 Qp (Q2n x0.ready)), (Q0 Q1l (Q3a x0.request)), (Q0 Q1p (Q2n x0.startup))]))]) hd' (by first | omega | (simp; omega)))
def Q11j (p0 : List Container) : Val := vL (p0.map Container.enc)
theorem Q1k1 (p0 : List Container) : Q11j p0 = ((Qaq (Q4b p0 p0 0 []))) := by
  rw [Qye]
  rfl
def Q1k3 (p0 : List Container) : En := .call 124 [.sl (Container.rows p0)] []
def Q1ee (p0 : List Container) : Rs := .ret (.agg (Val.cells (Q11j p0))) []
def Q1bi (p0 : List Container) : Prop := LSm Container.sm p0
theorem Q181 (p0 : List Container) (H : Q1bi p0) : (Qg8 p0) ∧ True := by
  exact ⟨⟨Nat.le_trans H.1 (Nat.le_of_ble_eq_true rfl), fun x hx => (H.2 x hx).2.2.1, fun x hx => (H.2 x hx).2.2.2.1, fun x hx => (H.2 x hx).2.2.2.2.1, trivial⟩, trivial⟩
theorem Q1im (p0 : List Container) (H : Q1bi p0) : Q6 G (Q1k3 p0) (Q1ee p0) := by
 unfold Q1ee
 rw [Q1k1]
 have hl0 := Qu5 p0 ((Q181 p0 H).1) p0 0 [] (by simp) (by simp)
 obtain ⟨z0, zo0, hl0⟩ := hl0
 exact Qb (fn := Ir.K2x) rfl VOK.nil [hS 0 true (Val.Q7 (Q4b p0 p0 0 []) 5 rfl), hQ (Val.Q5 (Q4b p0 p0 0 [])).symm] [aV [(1, Val.rows (Q4b p0 p0 0 []))] hl0, aN (Qdo (Q4b p0 p0 0 []))] (by kernel_rfl)
def Q4i (p0 : List ByteArray) : List ByteArray → Nat → (List Val) → List Val
 | [], _i0, v0_1 =>
  v0_1
 | x0 :: r0, i0, v0_1 =>
  Q4i p0 r0 (i0 + 1) (v0_1 ++ [(Qh x0)])
theorem Q103 (p0 : List ByteArray) : ∀ (l : List ByteArray) (i : Nat) (a : List Val), Q4i p0 l i a = a ++ l.map (fun x0 => (Qh x0))
  | [], _, _ => by simp [Q4i]
  | x :: r, i, a => by rw [Q4i, Q103 p0 r]; simp
def Qu1 (p0 : List ByteArray) (i0 : Nat) (v0_1 : List Val) : List PV :=
  [.sl (Qf p0), .un, .bx 0 0, .ms 1 5 0 (List.length v0_1), .int .i64 (i0 : Int)] ++ nuns 16
def Qi4 (_p0 : List ByteArray) (_i0 : Nat) (v0_1 : List Val) : List Ob :=
  [⟨5, 0, true, [.int .i64 0, .int .i64 0, .str (⟨#[]⟩ : ByteArray), .ms 2 5 0 0, .ms 3 6 0 0]⟩, ⟨5, 0, true, (Val.rows v0_1).flatten⟩, ⟨5, 0, true, []⟩, ⟨6, 0, true, []⟩]
def Qfl (p0 : List ByteArray) (i0 : Nat) (v0_1 : List Val) : En := .loop 0 Ir.Qhd Ir.Q19v (Qu1 p0 i0 v0_1) (Qi4 p0 i0 v0_1)
def Qnm (_p0 : List ByteArray) (q0 : List Val) (z : Nat → PV) (_zo : Nat → List PV) : St :=
  ⟨[z 0, z 1, .bx 0 0, .ms 1 5 0 (List.length q0)] ++ zr z 4 17, [(0, ⟨5, 0, true, [.int .i64 0, .int .i64 0, .str (⟨#[]⟩ : ByteArray), .ms 2 5 0 0, .ms 3 6 0 0]⟩), (1, ⟨5, 0, true, (Val.rows q0).flatten⟩), (2, ⟨5, 0, true, []⟩), (3, ⟨6, 0, true, []⟩)], 260⟩
theorem Qy5 (p0 : List ByteArray) (i0 : Nat) (v0_1 : List Val) : VOK (Go.Pv.look (number 0 (Qi4 p0 i0 v0_1))) [(1, Val.rows v0_1)] := (VOK.cons (show Seen _ _ from Q3j (ob := ⟨5, 0, true, (Val.rows v0_1).flatten⟩) (Val.Q7 v0_1 5 rfl)) VOK.nil)
def Qe8 (p0 : List ByteArray) (e : En) (q : List Val) : Prop := ∃ z zo, Q6 G e (.st (.exit 0) (Qnm p0 q z zo))
theorem Qqf (p0 : List ByteArray) {e e' : En} (h : ∀ r, Q6 G e r → Q6 G e' r) : ∀ q, Qe8 p0 e q → Qe8 p0 e' q
  | _, ⟨z, zo, hz⟩ => ⟨z, zo, h _ hz⟩
def Qf9 (p0 : List ByteArray) : Prop := (List.length p0 ≤ 137438953472) ∧ True
def Qmw (p0 : List ByteArray) (i0 : Nat) (_v0_1 : List Val) : List PV :=
  [.sl (Qf p0), .un, .un, .un, .int .i64 (i0 : Int), .int .i64 (i0 : Int), .sl (Qf p0), .int .i64 ((List.length p0) : Int), .bool false]
def Qip (_p0 : List ByteArray) (_i0 : Nat) (_v0_1 : List Val) : List (Nat × List PV) :=
  []
theorem Q14x (p0 : List ByteArray) (_H : Qf9 p0) (i0 : Nat) (v0_1 : List Val) (_ho0_0 : List.length v0_1 ≤ i0) (hc0 : (decide ((i0 : Int) < ((List.length p0) : Int))) = false) : Qe8 p0 (Qfl p0 i0 v0_1) v0_1 := by
 exact ⟨(envF (Qmw p0 i0 v0_1)), (zoF (Qip p0 i0 v0_1)), Qg (Qy5 p0 i0 v0_1) (x := ((.exit 0), Qnm p0 v0_1 (envF (Qmw p0 i0 v0_1)) (zoF (Qip p0 i0 v0_1)))) [hP 2 (Qe (Qf p0) (List.length p0) (Q18 p0)), hB 0 hc0] [] (by kernel_rfl)⟩
theorem Q11v (p0 : List ByteArray) (H : Qf9 p0) (x0 : ByteArray) (i0 : Nat) (v0_1 : List Val) (hx0 : p0[i0]? = some x0) (hi0 : i0 < List.length p0) (ho0_0 : List.length v0_1 ≤ i0) (hc0 : (decide ((i0 : Int) < ((List.length p0) : Int))) = true) {r : Rs} (hr : Q6 G (Qfl p0 (i0 + 1) (v0_1 ++ [(Qh x0)])) r) : Q6 G (Qfl p0 i0 v0_1) r := by
 have hB0 := H.1
 exact Qk (Qy5 p0 i0 v0_1) (y := (Qu1 p0 (i0 + 1) (v0_1 ++ [(Qh x0)]), Qi4 p0 (i0 + 1) (v0_1 ++ [(Qh x0)]))) [hP 2 (Qe (Qf p0) (List.length p0) (Q18 p0)), hB 0 hc0, hP 3 (Q1f 1 (Qf p0) i0 _ (Q3g hx0) rfl), hV 3 [(708, Val.rows (v0_1 ++ [(Qh x0)]))] (Q5h 1 644 708 5 80 0 0 true (Val.rows v0_1) (Val.rows (v0_1 ++ [(Qh x0)])) (Val.cells (Qh x0)) (List.length v0_1) (List.length (v0_1 ++ [(Qh x0)])) rfl (Val.Q5 v0_1).symm (Val.Q5 (v0_1 ++ [(Qh x0)])).symm (Val.Q15 v0_1 (Qh x0)) (Val.Qi v0_1) rfl (by omega)), hS 0 true (Val.Q7 (v0_1 ++ [(Qh x0)]) 5 rfl), hP 2 (Q1y i0 (by omega))] [aN (Q8r x0)] (by kernel_rfl) hr
theorem Qry (p0 : List ByteArray) (H : Qf9 p0) : ∀ (r0 : List ByteArray) (i0 : Nat) (v0_1 : List Val), List.drop i0 p0 = r0 → List.length v0_1 ≤ i0 → Qe8 p0 (Qfl p0 i0 v0_1) (Q4i p0 r0 i0 v0_1)
 | [], i0, v0_1, hd, ho0_0 => by
  have hc0 : (decide ((i0 : Int) < ((List.length p0) : Int))) = false := by have := Q1b hd; simp; omega
  rw [Q4i]
  exact Q14x p0 H i0 v0_1 ho0_0 hc0
 | x0 :: r0, i0, v0_1, hd, ho0_0 => by
  obtain ⟨hx0, hi0, hd'⟩ := Q14 hd
  have hc0 : (decide ((i0 : Int) < ((List.length p0) : Int))) = true := by simp; omega
  rw [Q4i]
  exact Qqf p0 (fun r hr => Q11v p0 H x0 i0 v0_1 hx0 hi0 ho0_0 hc0 hr) _ (Qry p0 H r0 (i0 + 1) (v0_1 ++ [(Qh x0)]) hd' (by first | omega | (simp; omega)))
def Q86 (p0 : List ByteArray) : Val := vL (p0.map vS)
theorem Q1j1 (p0 : List ByteArray) : Q86 p0 = ((Qaq (Q4i p0 p0 0 []))) := by
  rw [Q103]
  rfl
def Q1i2 (p0 : List ByteArray) : En := .call 150 [.sl (Qf p0)] []
def Q1dx (p0 : List ByteArray) : Rs := .ret (.agg (Val.cells (Q86 p0))) []
def Q1c6 (p0 : List ByteArray) : Prop := LSm (fun _ : ByteArray => True) p0
theorem Q193 (p0 : List ByteArray) (H : Q1c6 p0) : (Qf9 p0) ∧ True := by
  exact ⟨⟨Nat.le_trans H.1 (Nat.le_of_ble_eq_true rfl), trivial⟩, trivial⟩
theorem Q1kr (p0 : List ByteArray) (H : Q1c6 p0) : Q6 G (Q1i2 p0) (Q1dx p0) := by
 unfold Q1dx
 rw [Q1j1]
 have hl0 := Qry p0 ((Q193 p0 H).1) p0 0 [] (by simp) (by simp)
 obtain ⟨z0, zo0, hl0⟩ := hl0
 exact Qb (fn := Ir.K2e) rfl VOK.nil [hS 0 true (Val.Q7 (Q4i p0 p0 0 []) 5 rfl), hQ (Val.Q5 (Q4i p0 p0 0 [])).symm] [aV [(1, Val.rows (Q4i p0 p0 0 []))] hl0, aN (Qdo (Q4i p0 p0 0 []))] (by kernel_rfl)
def Q4c (p0 : List Requirement) : List Requirement → Nat → (List Val) → List Val
 | [], _i0, v0_1 =>
  v0_1
 | x0 :: r0, i0, v0_1 =>
  Q4c p0 r0 (i0 + 1) (v0_1 ++ [(Qt ([(Q0 Qx (Qh x0.key)), (Q0 Q5s (Q8 x0.op)), (Q0 Q1w (Q86 x0.values))]))])
theorem Qxm (p0 : List Requirement) : ∀ (l : List Requirement) (i : Nat) (a : List Val), Q4c p0 l i a = a ++ l.map (fun x0 => (Qt ([(Q0 Qx (Qh x0.key)), (Q0 Q5s (Q8 x0.op)), (Q0 Q1w (Q86 x0.values))])))
  | [], _, _ => by simp [Q4c]
  | x :: r, i, a => by rw [Q4c, Qxm p0 r]; simp
def Qt7 (p0 : List Requirement) (i0 : Nat) (v0_1 : List Val) : List PV :=
  [.sl (Requirement.rows p0), .un, .bx 0 0, .ms 1 5 0 (List.length v0_1), .int .i64 (i0 : Int)] ++ nuns 34
def Qj8 (_p0 : List Requirement) (_i0 : Nat) (v0_1 : List Val) : List Ob :=
  [⟨5, 0, true, [.int .i64 0, .int .i64 0, .str (⟨#[]⟩ : ByteArray), .ms 2 5 0 0, .ms 3 6 0 0]⟩, ⟨5, 0, true, (Val.rows v0_1).flatten⟩, ⟨5, 0, true, []⟩, ⟨6, 0, true, []⟩]
def Qev (p0 : List Requirement) (i0 : Nat) (v0_1 : List Val) : En := .loop 0 Ir.Qh2 Ir.Q1aq (Qt7 p0 i0 v0_1) (Qj8 p0 i0 v0_1)
def Qnj (_p0 : List Requirement) (q0 : List Val) (z : Nat → PV) (_zo : Nat → List PV) : St :=
  ⟨[z 0, z 1, .bx 0 0, .ms 1 5 0 (List.length q0)] ++ zr z 4 35, [(0, ⟨5, 0, true, [.int .i64 0, .int .i64 0, .str (⟨#[]⟩ : ByteArray), .ms 2 5 0 0, .ms 3 6 0 0]⟩), (1, ⟨5, 0, true, (Val.rows q0).flatten⟩), (2, ⟨5, 0, true, []⟩), (3, ⟨6, 0, true, []⟩)], 260⟩
theorem Qxq (p0 : List Requirement) (i0 : Nat) (v0_1 : List Val) : VOK (Go.Pv.look (number 0 (Qj8 p0 i0 v0_1))) [(1, Val.rows v0_1)] := (VOK.cons (show Seen _ _ from Q3j (ob := ⟨5, 0, true, (Val.rows v0_1).flatten⟩) (Val.Q7 v0_1 5 rfl)) VOK.nil)
def Qes (p0 : List Requirement) (e : En) (q : List Val) : Prop := ∃ z zo, Q6 G e (.st (.exit 0) (Qnj p0 q z zo))
theorem Qq8 (p0 : List Requirement) {e e' : En} (h : ∀ r, Q6 G e r → Q6 G e' r) : ∀ q, Qes p0 e q → Qes p0 e' q
  | _, ⟨z, zo, hz⟩ => ⟨z, zo, h _ hz⟩
def Qek (p0 : List Requirement) : Prop := (List.length p0 ≤ 137438953472) ∧ (∀ x0 ∈ p0, Q1c6 x0.values) ∧ True
def Qmj (p0 : List Requirement) (i0 : Nat) (_v0_1 : List Val) : List PV :=
  [.sl (Requirement.rows p0), .un, .un, .un, .int .i64 (i0 : Int), .int .i64 (i0 : Int), .sl (Requirement.rows p0), .int .i64 ((List.length p0) : Int), .bool false]
def Qjx (_p0 : List Requirement) (_i0 : Nat) (_v0_1 : List Val) : List (Nat × List PV) :=
  []
theorem Q14t (p0 : List Requirement) (_H : Qek p0) (i0 : Nat) (v0_1 : List Val) (_ho0_0 : List.length v0_1 ≤ i0) (hc0 : (decide ((i0 : Int) < ((List.length p0) : Int))) = false) : Qes p0 (Qev p0 i0 v0_1) v0_1 := by
 exact ⟨(envF (Qmj p0 i0 v0_1)), (zoF (Qjx p0 i0 v0_1)), Qg (Qxq p0 i0 v0_1) (x := ((.exit 0), Qnj p0 v0_1 (envF (Qmj p0 i0 v0_1)) (zoF (Qjx p0 i0 v0_1)))) [hP 2 (Qe (Requirement.rows p0) (List.length p0) (Requirement.Q5 p0)), hB 0 hc0] [] (by kernel_rfl)⟩
theorem Q10v (p0 : List Requirement) (H : Qek p0) (x0 : Requirement) (i0 : Nat) (v0_1 : List Val) (hx0 : p0[i0]? = some x0) (hi0 : i0 < List.length p0) (ho0_0 : List.length v0_1 ≤ i0) (hc0 : (decide ((i0 : Int) < ((List.length p0) : Int))) = true) {r : Rs} (hr : Q6 G (Qev p0 (i0 + 1) (v0_1 ++ [(Qt ([(Q0 Qx (Qh x0.key)), (Q0 Q5s (Q8 x0.op)), (Q0 Q1w (Q86 x0.values))]))])) r) : Q6 G (Qev p0 i0 v0_1) r := by
 have hB0 := H.1
 exact Qk (Qxq p0 i0 v0_1) (y := (Qt7 p0 (i0 + 1) (v0_1 ++ [(Qt ([(Q0 Qx (Qh x0.key)), (Q0 Q5s (Q8 x0.op)), (Q0 Q1w (Q86 x0.values))]))]), Qj8 p0 (i0 + 1) (v0_1 ++ [(Qt ([(Q0 Qx (Qh x0.key)), (Q0 Q5s (Q8 x0.op)), (Q0 Q1w (Q86 x0.values))]))]))) [hP 2 (Qe (Requirement.rows p0) (List.length p0) (Requirement.Q5 p0)), hB 0 hc0, hP 3 (Q1f 3 (Requirement.rows p0) i0 _ (Requirement.Qa hx0) rfl), hP 6 (Q1f 3 (Requirement.rows p0) i0 _ (Requirement.Qa hx0) rfl), hP 6 (Q1f 3 (Requirement.rows p0) i0 _ (Requirement.Qa hx0) rfl), hV 7 [(1860, Val.rows (v0_1 ++ [(Qt ([(Q0 Qx (Qh x0.key)), (Q0 Q5s (Q8 x0.op)), (Q0 Q1w (Q86 x0.values))]))]))] (Q5h 1 1796 1860 5 80 0 0 true (Val.rows v0_1) (Val.rows (v0_1 ++ [(Qt ([(Q0 Qx (Qh x0.key)), (Q0 Q5s (Q8 x0.op)), (Q0 Q1w (Q86 x0.values))]))])) (Val.cells (Qt ([(Q0 Qx (Qh x0.key)), (Q0 Q5s (Q8 x0.op)), (Q0 Q1w (Q86 x0.values))]))) (List.length v0_1) (List.length (v0_1 ++ [(Qt ([(Q0 Qx (Qh x0.key)), (Q0 Q5s (Q8 x0.op)), (Q0 Q1w (Q86 x0.values))]))])) rfl (Val.Q5 v0_1).symm (Val.Q5 (v0_1 ++ [(Qt ([(Q0 Qx (Qh x0.key)), (Q0 Q5s (Q8 x0.op)), (Q0 Q1w (Q86 x0.values))]))])).symm (Val.Q15 v0_1 (Qt ([(Q0 Qx (Qh x0.key)), (Q0 Q5s (Q8 x0.op)), (Q0 Q1w (Q86 x0.values))]))) (Val.Qi v0_1) rfl (by omega)), hS 0 true (Val.Q7 (v0_1 ++ [(Qt ([(Q0 Qx (Qh x0.key)), (Q0 Q5s (Q8 x0.op)), (Q0 Q1w (Q86 x0.values))]))]) 5 rfl), hP 2 (Q1y i0 (by omega))] [aN (Q8r x0.key), aN (Q1q Qx (Qh x0.key)), aN (Q4p x0.op), aN (Q1q Q5s (Q8 x0.op)), aN (Q1kr x0.values (H.2.1 x0 (Q29 hx0))), aN (Q1q Q1w (Q86 x0.values)), aN (Q3v (e' := .call 70 [.sl [(Fld.cells (Q0 Qx (Qh x0.key))), (Fld.cells (Q0 Q5s (Q8 x0.op))), (Fld.cells (Q0 Q1w (Q86 x0.values)))]] []) (Q8b ([(Q0 Qx (Qh x0.key)), (Q0 Q5s (Q8 x0.op)), (Q0 Q1w (Q86 x0.values))])) (by simp only [Q87, Fld.Qo, Fld.Qy]))] (by kernel_rfl) hr
theorem Qth (p0 : List Requirement) (H : Qek p0) : ∀ (r0 : List Requirement) (i0 : Nat) (v0_1 : List Val), List.drop i0 p0 = r0 → List.length v0_1 ≤ i0 → Qes p0 (Qev p0 i0 v0_1) (Q4c p0 r0 i0 v0_1)
 | [], i0, v0_1, hd, ho0_0 => by
  have hc0 : (decide ((i0 : Int) < ((List.length p0) : Int))) = false := by have := Q1b hd; simp; omega
  rw [Q4c]
  exact Q14t p0 H i0 v0_1 ho0_0 hc0
 | x0 :: r0, i0, v0_1, hd, ho0_0 => by
  obtain ⟨hx0, hi0, hd'⟩ := Q14 hd
  have hc0 : (decide ((i0 : Int) < ((List.length p0) : Int))) = true := by simp; omega
  rw [Q4c]
  exact Qq8 p0 (fun r hr => Q10v p0 H x0 i0 v0_1 hx0 hi0 ho0_0 hc0 hr) _ (Qth p0 H r0 (i0 + 1) (v0_1 ++ [(Qt ([(Q0 Qx (Qh x0.key)), (Q0 Q5s (Q8 x0.op)), (Q0 Q1w (Q86 x0.values))]))]) hd' (by first | omega | (simp; omega)))
def Q2f (p0 : List Requirement) : Val := vL (p0.map Requirement.enc)
theorem Q1kj (p0 : List Requirement) : Q2f p0 = ((Qaq (Q4c p0 p0 0 []))) := by
  rw [Qxm]
  rfl
def Q1hi (p0 : List Requirement) : En := .call 126 [.sl (Requirement.rows p0)] []
def Q1e6 (p0 : List Requirement) : Rs := .ret (.agg (Val.cells (Q2f p0))) []
def Q13s (p0 : List Requirement) : Prop := LSm Requirement.sm p0
theorem Q19d (p0 : List Requirement) (H : Q13s p0) : (Qek p0) ∧ True := by
  exact ⟨⟨Nat.le_trans H.1 (Nat.le_of_ble_eq_true rfl), fun x hx => (H.2 x hx).1, trivial⟩, trivial⟩
theorem Q18w (p0 : List Requirement) (H : Q13s p0) : Q6 G (Q1hi p0) (Q1e6 p0) := by
 unfold Q1e6
 rw [Q1kj]
 have hl0 := Qth p0 ((Q19d p0 H).1) p0 0 [] (by simp) (by simp)
 obtain ⟨z0, zo0, hl0⟩ := hl0
 exact Qb (fn := Ir.K2c) rfl VOK.nil [hS 0 true (Val.Q7 (Q4c p0 p0 0 []) 5 rfl), hQ (Val.Q5 (Q4c p0 p0 0 [])).symm] [aV [(1, Val.rows (Q4c p0 p0 0 []))] hl0, aN (Qdo (Q4c p0 p0 0 []))] (by kernel_rfl)
def Qz (p0 : Bool) : Val := vB p0
theorem Q1il (p0 : Bool) : Qz p0 = (bif p0 then
    (Val.mk 1 1 (⟨#[]⟩ : ByteArray) [] [])
  else
    (Val.mk 1 0 (⟨#[]⟩ : ByteArray) [] [])) := by
  cases p0 <;> rfl
def Q1ki (p0 : Bool) : En := .call 73 [.bool p0] []
def Q1do (p0 : Bool) : Rs := .ret (.agg (Val.cells (Qz p0))) []
theorem Qdn (p0 : Bool) : Q6 G (Q1ki p0) (Q1do p0) := by
 unfold Q1do
 rw [Q1il]
 cases h0 : p0 with
 | true =>
  exact Qb (fn := Ir.K3q) rfl VOK.nil [] [] (by kernel_rfl)
 | false =>
  exact Qb (fn := Ir.K3q) rfl VOK.nil [] [] (by kernel_rfl)
def Q4a (p0 : List NodeTerm) : List NodeTerm → Nat → (List Val) → List Val
 | [], _i0, v0_1 =>
  v0_1
 | x0 :: r0, i0, v0_1 =>
  Q4a p0 r0 (i0 + 1) (v0_1 ++ [(Qt ([(Q0 Qd (Qz x0.required)), (Q0 Qc (Q2f x0.selector)), (Q0 Qu (Q8 x0.weight))]))])
theorem Qys (p0 : List NodeTerm) : ∀ (l : List NodeTerm) (i : Nat) (a : List Val), Q4a p0 l i a = a ++ l.map (fun x0 => (Qt ([(Q0 Qd (Qz x0.required)), (Q0 Qc (Q2f x0.selector)), (Q0 Qu (Q8 x0.weight))])))
  | [], _, _ => by simp [Q4a]
  | x :: r, i, a => by rw [Q4a, Qys p0 r]; simp
def Qud (p0 : List NodeTerm) (i0 : Nat) (v0_1 : List Val) : List PV :=
  [.sl (NodeTerm.rows p0), .un, .bx 0 0, .ms 1 5 0 (List.length v0_1), .int .i64 (i0 : Int)] ++ nuns 34
def Qld (_p0 : List NodeTerm) (_i0 : Nat) (v0_1 : List Val) : List Ob :=
  [⟨5, 0, true, [.int .i64 0, .int .i64 0, .str (⟨#[]⟩ : ByteArray), .ms 2 5 0 0, .ms 3 6 0 0]⟩, ⟨5, 0, true, (Val.rows v0_1).flatten⟩, ⟨5, 0, true, []⟩, ⟨6, 0, true, []⟩]
def Qdy (p0 : List NodeTerm) (i0 : Nat) (v0_1 : List Val) : En := .loop 0 Ir.Qgr Ir.Q1a2 (Qud p0 i0 v0_1) (Qld p0 i0 v0_1)
def Qn1 (_p0 : List NodeTerm) (q0 : List Val) (z : Nat → PV) (_zo : Nat → List PV) : St :=
  ⟨[z 0, z 1, .bx 0 0, .ms 1 5 0 (List.length q0)] ++ zr z 4 35, [(0, ⟨5, 0, true, [.int .i64 0, .int .i64 0, .str (⟨#[]⟩ : ByteArray), .ms 2 5 0 0, .ms 3 6 0 0]⟩), (1, ⟨5, 0, true, (Val.rows q0).flatten⟩), (2, ⟨5, 0, true, []⟩), (3, ⟨6, 0, true, []⟩)], 260⟩
theorem Qxk (p0 : List NodeTerm) (i0 : Nat) (v0_1 : List Val) : VOK (Go.Pv.look (number 0 (Qld p0 i0 v0_1))) [(1, Val.rows v0_1)] := (VOK.cons (show Seen _ _ from Q3j (ob := ⟨5, 0, true, (Val.rows v0_1).flatten⟩) (Val.Q7 v0_1 5 rfl)) VOK.nil)
def Qfc (p0 : List NodeTerm) (e : En) (q : List Val) : Prop := ∃ z zo, Q6 G e (.st (.exit 0) (Qn1 p0 q z zo))
theorem Qrp (p0 : List NodeTerm) {e e' : En} (h : ∀ r, Q6 G e r → Q6 G e' r) : ∀ q, Qfc p0 e q → Qfc p0 e' q
  | _, ⟨z, zo, hz⟩ => ⟨z, zo, h _ hz⟩
def Qez (p0 : List NodeTerm) : Prop := (List.length p0 ≤ 137438953472) ∧ (∀ x0 ∈ p0, Q13s x0.selector) ∧ True
def Qn0 (p0 : List NodeTerm) (i0 : Nat) (_v0_1 : List Val) : List PV :=
  [.sl (NodeTerm.rows p0), .un, .un, .un, .int .i64 (i0 : Int), .int .i64 (i0 : Int), .sl (NodeTerm.rows p0), .int .i64 ((List.length p0) : Int), .bool false]
def Qjq (_p0 : List NodeTerm) (_i0 : Nat) (_v0_1 : List Val) : List (Nat × List PV) :=
  []
theorem Q11l (p0 : List NodeTerm) (_H : Qez p0) (i0 : Nat) (v0_1 : List Val) (_ho0_0 : List.length v0_1 ≤ i0) (hc0 : (decide ((i0 : Int) < ((List.length p0) : Int))) = false) : Qfc p0 (Qdy p0 i0 v0_1) v0_1 := by
 exact ⟨(envF (Qn0 p0 i0 v0_1)), (zoF (Qjq p0 i0 v0_1)), Qg (Qxk p0 i0 v0_1) (x := ((.exit 0), Qn1 p0 v0_1 (envF (Qn0 p0 i0 v0_1)) (zoF (Qjq p0 i0 v0_1)))) [hP 2 (Qe (NodeTerm.rows p0) (List.length p0) (NodeTerm.Q5 p0)), hB 0 hc0] [] (by kernel_rfl)⟩
theorem Q14w (p0 : List NodeTerm) (H : Qez p0) (x0 : NodeTerm) (i0 : Nat) (v0_1 : List Val) (hx0 : p0[i0]? = some x0) (hi0 : i0 < List.length p0) (ho0_0 : List.length v0_1 ≤ i0) (hc0 : (decide ((i0 : Int) < ((List.length p0) : Int))) = true) {r : Rs} (hr : Q6 G (Qdy p0 (i0 + 1) (v0_1 ++ [(Qt ([(Q0 Qd (Qz x0.required)), (Q0 Qc (Q2f x0.selector)), (Q0 Qu (Q8 x0.weight))]))])) r) : Q6 G (Qdy p0 i0 v0_1) r := by
 have hB0 := H.1
 exact Qk (Qxk p0 i0 v0_1) (y := (Qud p0 (i0 + 1) (v0_1 ++ [(Qt ([(Q0 Qd (Qz x0.required)), (Q0 Qc (Q2f x0.selector)), (Q0 Qu (Q8 x0.weight))]))]), Qld p0 (i0 + 1) (v0_1 ++ [(Qt ([(Q0 Qd (Qz x0.required)), (Q0 Qc (Q2f x0.selector)), (Q0 Qu (Q8 x0.weight))]))]))) [hP 2 (Qe (NodeTerm.rows p0) (List.length p0) (NodeTerm.Q5 p0)), hB 0 hc0, hP 3 (Q1f 3 (NodeTerm.rows p0) i0 _ (NodeTerm.Qa hx0) rfl), hP 6 (Q1f 3 (NodeTerm.rows p0) i0 _ (NodeTerm.Qa hx0) rfl), hP 6 (Q1f 3 (NodeTerm.rows p0) i0 _ (NodeTerm.Qa hx0) rfl), hV 7 [(1860, Val.rows (v0_1 ++ [(Qt ([(Q0 Qd (Qz x0.required)), (Q0 Qc (Q2f x0.selector)), (Q0 Qu (Q8 x0.weight))]))]))] (Q5h 1 1796 1860 5 80 0 0 true (Val.rows v0_1) (Val.rows (v0_1 ++ [(Qt ([(Q0 Qd (Qz x0.required)), (Q0 Qc (Q2f x0.selector)), (Q0 Qu (Q8 x0.weight))]))])) (Val.cells (Qt ([(Q0 Qd (Qz x0.required)), (Q0 Qc (Q2f x0.selector)), (Q0 Qu (Q8 x0.weight))]))) (List.length v0_1) (List.length (v0_1 ++ [(Qt ([(Q0 Qd (Qz x0.required)), (Q0 Qc (Q2f x0.selector)), (Q0 Qu (Q8 x0.weight))]))])) rfl (Val.Q5 v0_1).symm (Val.Q5 (v0_1 ++ [(Qt ([(Q0 Qd (Qz x0.required)), (Q0 Qc (Q2f x0.selector)), (Q0 Qu (Q8 x0.weight))]))])).symm (Val.Q15 v0_1 (Qt ([(Q0 Qd (Qz x0.required)), (Q0 Qc (Q2f x0.selector)), (Q0 Qu (Q8 x0.weight))]))) (Val.Qi v0_1) rfl (by omega)), hS 0 true (Val.Q7 (v0_1 ++ [(Qt ([(Q0 Qd (Qz x0.required)), (Q0 Qc (Q2f x0.selector)), (Q0 Qu (Q8 x0.weight))]))]) 5 rfl), hP 2 (Q1y i0 (by omega))] [aN (Qdn x0.required), aN (Q1q Qd (Qz x0.required)), aN (Q18w x0.selector (H.2.1 x0 (Q29 hx0))), aN (Q1q Qc (Q2f x0.selector)), aN (Q4p x0.weight), aN (Q1q Qu (Q8 x0.weight)), aN (Q3v (e' := .call 70 [.sl [(Fld.cells (Q0 Qd (Qz x0.required))), (Fld.cells (Q0 Qc (Q2f x0.selector))), (Fld.cells (Q0 Qu (Q8 x0.weight)))]] []) (Q8b ([(Q0 Qd (Qz x0.required)), (Q0 Qc (Q2f x0.selector)), (Q0 Qu (Q8 x0.weight))])) (by simp only [Q87, Fld.Qo, Fld.Qy]))] (by kernel_rfl) hr
theorem Qus (p0 : List NodeTerm) (H : Qez p0) : ∀ (r0 : List NodeTerm) (i0 : Nat) (v0_1 : List Val), List.drop i0 p0 = r0 → List.length v0_1 ≤ i0 → Qfc p0 (Qdy p0 i0 v0_1) (Q4a p0 r0 i0 v0_1)
 | [], i0, v0_1, hd, ho0_0 => by
  have hc0 : (decide ((i0 : Int) < ((List.length p0) : Int))) = false := by have := Q1b hd; simp; omega
  rw [Q4a]
  exact Q11l p0 H i0 v0_1 ho0_0 hc0
 | x0 :: r0, i0, v0_1, hd, ho0_0 => by
  obtain ⟨hx0, hi0, hd'⟩ := Q14 hd
  have hc0 : (decide ((i0 : Int) < ((List.length p0) : Int))) = true := by simp; omega
  rw [Q4a]
  exact Qrp p0 (fun r hr => Q14w p0 H x0 i0 v0_1 hx0 hi0 ho0_0 hc0 hr) _ (Qus p0 H r0 (i0 + 1) (v0_1 ++ [(Qt ([(Q0 Qd (Qz x0.required)), (Q0 Qc (Q2f x0.selector)), (Q0 Qu (Q8 x0.weight))]))]) hd' (by first | omega | (simp; omega)))
def Q12y (p0 : List NodeTerm) : Val := vL (p0.map NodeTerm.enc)
theorem Q1hv (p0 : List NodeTerm) : Q12y p0 = ((Qaq (Q4a p0 p0 0 []))) := by
  rw [Qys]
  rfl
def Q1l7 (p0 : List NodeTerm) : En := .call 127 [.sl (NodeTerm.rows p0)] []
def Q1ei (p0 : List NodeTerm) : Rs := .ret (.agg (Val.cells (Q12y p0))) []
def Q1c4 (p0 : List NodeTerm) : Prop := LSm NodeTerm.sm p0
theorem Q18f (p0 : List NodeTerm) (H : Q1c4 p0) : (Qez p0) ∧ True := by
  exact ⟨⟨Nat.le_trans H.1 (Nat.le_of_ble_eq_true rfl), fun x hx => (H.2 x hx).1, trivial⟩, trivial⟩
theorem Q1lj (p0 : List NodeTerm) (H : Q1c4 p0) : Q6 G (Q1l7 p0) (Q1ei p0) := by
 unfold Q1ei
 rw [Q1hv]
 have hl0 := Qus p0 ((Q18f p0 H).1) p0 0 [] (by simp) (by simp)
 obtain ⟨z0, zo0, hl0⟩ := hl0
 exact Qb (fn := Ir.K30) rfl VOK.nil [hS 0 true (Val.Q7 (Q4a p0 p0 0 []) 5 rfl), hQ (Val.Q5 (Q4a p0 p0 0 [])).symm] [aV [(1, Val.rows (Q4a p0 p0 0 []))] hl0, aN (Qdo (Q4a p0 p0 0 []))] (by kernel_rfl)
def Q4m (p0 : List PodTerm) : List PodTerm → Nat → (List Val) → List Val
 | [], _i0, v0_1 =>
  v0_1
 | x0 :: r0, i0, v0_1 =>
  Q4m p0 r0 (i0 + 1) (v0_1 ++ [(Qt ([(Q0 Q2u (Qz x0.anti)), (Q0 Qd (Qz x0.required)), (Q0 Qc (Q2f x0.selector)), (Q0 Qm (Qh x0.topology)), (Q0 Qu (Q8 x0.weight))]))])
theorem Q10f (p0 : List PodTerm) : ∀ (l : List PodTerm) (i : Nat) (a : List Val), Q4m p0 l i a = a ++ l.map (fun x0 => (Qt ([(Q0 Q2u (Qz x0.anti)), (Q0 Qd (Qz x0.required)), (Q0 Qc (Q2f x0.selector)), (Q0 Qm (Qh x0.topology)), (Q0 Qu (Q8 x0.weight))])))
  | [], _, _ => by simp [Q4m]
  | x :: r, i, a => by rw [Q4m, Q10f p0 r]; simp
def Qvo (p0 : List PodTerm) (i0 : Nat) (v0_1 : List Val) : List PV :=
  [.sl (PodTerm.rows p0), .un, .bx 0 0, .ms 1 5 0 (List.length v0_1), .int .i64 (i0 : Int)] ++ nuns 48
def Qih (_p0 : List PodTerm) (_i0 : Nat) (v0_1 : List Val) : List Ob :=
  [⟨5, 0, true, [.int .i64 0, .int .i64 0, .str (⟨#[]⟩ : ByteArray), .ms 2 5 0 0, .ms 3 6 0 0]⟩, ⟨5, 0, true, (Val.rows v0_1).flatten⟩, ⟨5, 0, true, []⟩, ⟨6, 0, true, []⟩]
def Qef (p0 : List PodTerm) (i0 : Nat) (v0_1 : List Val) : En := .loop 0 Ir.Qjb Ir.Q1ak (Qvo p0 i0 v0_1) (Qih p0 i0 v0_1)
def Qph (_p0 : List PodTerm) (q0 : List Val) (z : Nat → PV) (_zo : Nat → List PV) : St :=
  ⟨[z 0, z 1, .bx 0 0, .ms 1 5 0 (List.length q0)] ++ zr z 4 49, [(0, ⟨5, 0, true, [.int .i64 0, .int .i64 0, .str (⟨#[]⟩ : ByteArray), .ms 2 5 0 0, .ms 3 6 0 0]⟩), (1, ⟨5, 0, true, (Val.rows q0).flatten⟩), (2, ⟨5, 0, true, []⟩), (3, ⟨6, 0, true, []⟩)], 260⟩
theorem Qxs (p0 : List PodTerm) (i0 : Nat) (v0_1 : List Val) : VOK (Go.Pv.look (number 0 (Qih p0 i0 v0_1))) [(1, Val.rows v0_1)] := (VOK.cons (show Seen _ _ from Q3j (ob := ⟨5, 0, true, (Val.rows v0_1).flatten⟩) (Val.Q7 v0_1 5 rfl)) VOK.nil)
def Qg3 (p0 : List PodTerm) (e : En) (q : List Val) : Prop := ∃ z zo, Q6 G e (.st (.exit 0) (Qph p0 q z zo))
theorem Qqo (p0 : List PodTerm) {e e' : En} (h : ∀ r, Q6 G e r → Q6 G e' r) : ∀ q, Qg3 p0 e q → Qg3 p0 e' q
  | _, ⟨z, zo, hz⟩ => ⟨z, zo, h _ hz⟩
def Qff (p0 : List PodTerm) : Prop := (List.length p0 ≤ 137438953472) ∧ (∀ x0 ∈ p0, Q13s x0.selector) ∧ True
def Qlx (p0 : List PodTerm) (i0 : Nat) (_v0_1 : List Val) : List PV :=
  [.sl (PodTerm.rows p0), .un, .un, .un, .int .i64 (i0 : Int), .int .i64 (i0 : Int), .sl (PodTerm.rows p0), .int .i64 ((List.length p0) : Int), .bool false]
def Qgy (_p0 : List PodTerm) (_i0 : Nat) (_v0_1 : List Val) : List (Nat × List PV) :=
  []
theorem Q13a (p0 : List PodTerm) (_H : Qff p0) (i0 : Nat) (v0_1 : List Val) (_ho0_0 : List.length v0_1 ≤ i0) (hc0 : (decide ((i0 : Int) < ((List.length p0) : Int))) = false) : Qg3 p0 (Qef p0 i0 v0_1) v0_1 := by
 exact ⟨(envF (Qlx p0 i0 v0_1)), (zoF (Qgy p0 i0 v0_1)), Qg (Qxs p0 i0 v0_1) (x := ((.exit 0), Qph p0 v0_1 (envF (Qlx p0 i0 v0_1)) (zoF (Qgy p0 i0 v0_1)))) [hP 2 (Qe (PodTerm.rows p0) (List.length p0) (PodTerm.Q5 p0)), hB 0 hc0] [] (by kernel_rfl)⟩
theorem Q13z (p0 : List PodTerm) (H : Qff p0) (x0 : PodTerm) (i0 : Nat) (v0_1 : List Val) (hx0 : p0[i0]? = some x0) (hi0 : i0 < List.length p0) (ho0_0 : List.length v0_1 ≤ i0) (hc0 : (decide ((i0 : Int) < ((List.length p0) : Int))) = true) {r : Rs} (hr : Q6 G (Qef p0 (i0 + 1) (v0_1 ++ [(Qt ([(Q0 Q2u (Qz x0.anti)), (Q0 Qd (Qz x0.required)), (Q0 Qc (Q2f x0.selector)), (Q0 Qm (Qh x0.topology)), (Q0 Qu (Q8 x0.weight))]))])) r) : Q6 G (Qef p0 i0 v0_1) r := by
 have hB0 := H.1
 exact Qk (Qxs p0 i0 v0_1) (y := (Qvo p0 (i0 + 1) (v0_1 ++ [(Qt ([(Q0 Q2u (Qz x0.anti)), (Q0 Qd (Qz x0.required)), (Q0 Qc (Q2f x0.selector)), (Q0 Qm (Qh x0.topology)), (Q0 Qu (Q8 x0.weight))]))]), Qih p0 (i0 + 1) (v0_1 ++ [(Qt ([(Q0 Q2u (Qz x0.anti)), (Q0 Qd (Qz x0.required)), (Q0 Qc (Q2f x0.selector)), (Q0 Qm (Qh x0.topology)), (Q0 Qu (Q8 x0.weight))]))]))) [hP 2 (Qe (PodTerm.rows p0) (List.length p0) (PodTerm.Q5 p0)), hB 0 hc0, hP 3 (Q1f 5 (PodTerm.rows p0) i0 _ (PodTerm.Qa hx0) rfl), hP 6 (Q1f 5 (PodTerm.rows p0) i0 _ (PodTerm.Qa hx0) rfl), hP 6 (Q1f 5 (PodTerm.rows p0) i0 _ (PodTerm.Qa hx0) rfl), hP 6 (Q1f 5 (PodTerm.rows p0) i0 _ (PodTerm.Qa hx0) rfl), hP 6 (Q1f 5 (PodTerm.rows p0) i0 _ (PodTerm.Qa hx0) rfl), hV 7 [(2756, Val.rows (v0_1 ++ [(Qt ([(Q0 Q2u (Qz x0.anti)), (Q0 Qd (Qz x0.required)), (Q0 Qc (Q2f x0.selector)), (Q0 Qm (Qh x0.topology)), (Q0 Qu (Q8 x0.weight))]))]))] (Q5h 1 2692 2756 5 80 0 0 true (Val.rows v0_1) (Val.rows (v0_1 ++ [(Qt ([(Q0 Q2u (Qz x0.anti)), (Q0 Qd (Qz x0.required)), (Q0 Qc (Q2f x0.selector)), (Q0 Qm (Qh x0.topology)), (Q0 Qu (Q8 x0.weight))]))])) (Val.cells (Qt ([(Q0 Q2u (Qz x0.anti)), (Q0 Qd (Qz x0.required)), (Q0 Qc (Q2f x0.selector)), (Q0 Qm (Qh x0.topology)), (Q0 Qu (Q8 x0.weight))]))) (List.length v0_1) (List.length (v0_1 ++ [(Qt ([(Q0 Q2u (Qz x0.anti)), (Q0 Qd (Qz x0.required)), (Q0 Qc (Q2f x0.selector)), (Q0 Qm (Qh x0.topology)), (Q0 Qu (Q8 x0.weight))]))])) rfl (Val.Q5 v0_1).symm (Val.Q5 (v0_1 ++ [(Qt ([(Q0 Q2u (Qz x0.anti)), (Q0 Qd (Qz x0.required)), (Q0 Qc (Q2f x0.selector)), (Q0 Qm (Qh x0.topology)), (Q0 Qu (Q8 x0.weight))]))])).symm (Val.Q15 v0_1 (Qt ([(Q0 Q2u (Qz x0.anti)), (Q0 Qd (Qz x0.required)), (Q0 Qc (Q2f x0.selector)), (Q0 Qm (Qh x0.topology)), (Q0 Qu (Q8 x0.weight))]))) (Val.Qi v0_1) rfl (by omega)), hS 0 true (Val.Q7 (v0_1 ++ [(Qt ([(Q0 Q2u (Qz x0.anti)), (Q0 Qd (Qz x0.required)), (Q0 Qc (Q2f x0.selector)), (Q0 Qm (Qh x0.topology)), (Q0 Qu (Q8 x0.weight))]))]) 5 rfl), hP 2 (Q1y i0 (by omega))] [aN (Qdn x0.anti), aN (Q1q Q2u (Qz x0.anti)), aN (Qdn x0.required), aN (Q1q Qd (Qz x0.required)), aN (Q18w x0.selector (H.2.1 x0 (Q29 hx0))), aN (Q1q Qc (Q2f x0.selector)), aN (Q8r x0.topology), aN (Q1q Qm (Qh x0.topology)), aN (Q4p x0.weight), aN (Q1q Qu (Q8 x0.weight)), aN (Q3v (e' := .call 70 [.sl [(Fld.cells (Q0 Q2u (Qz x0.anti))), (Fld.cells (Q0 Qd (Qz x0.required))), (Fld.cells (Q0 Qc (Q2f x0.selector))), (Fld.cells (Q0 Qm (Qh x0.topology))), (Fld.cells (Q0 Qu (Q8 x0.weight)))]] []) (Q8b ([(Q0 Q2u (Qz x0.anti)), (Q0 Qd (Qz x0.required)), (Q0 Qc (Q2f x0.selector)), (Q0 Qm (Qh x0.topology)), (Q0 Qu (Q8 x0.weight))])) (by simp only [Q87, Fld.Qo, Fld.Qy]))] (by kernel_rfl) hr
theorem Qvl (p0 : List PodTerm) (H : Qff p0) : ∀ (r0 : List PodTerm) (i0 : Nat) (v0_1 : List Val), List.drop i0 p0 = r0 → List.length v0_1 ≤ i0 → Qg3 p0 (Qef p0 i0 v0_1) (Q4m p0 r0 i0 v0_1)
 | [], i0, v0_1, hd, ho0_0 => by
  have hc0 : (decide ((i0 : Int) < ((List.length p0) : Int))) = false := by have := Q1b hd; simp; omega
  rw [Q4m]
  exact Q13a p0 H i0 v0_1 ho0_0 hc0
 | x0 :: r0, i0, v0_1, hd, ho0_0 => by
  obtain ⟨hx0, hi0, hd'⟩ := Q14 hd
  have hc0 : (decide ((i0 : Int) < ((List.length p0) : Int))) = true := by simp; omega
  rw [Q4m]
  exact Qqo p0 (fun r hr => Q13z p0 H x0 i0 v0_1 hx0 hi0 ho0_0 hc0 hr) _ (Qvl p0 H r0 (i0 + 1) (v0_1 ++ [(Qt ([(Q0 Q2u (Qz x0.anti)), (Q0 Qd (Qz x0.required)), (Q0 Qc (Q2f x0.selector)), (Q0 Qm (Qh x0.topology)), (Q0 Qu (Q8 x0.weight))]))]) hd' (by first | omega | (simp; omega)))
def Q13b (p0 : List PodTerm) : Val := vL (p0.map PodTerm.enc)
theorem Q1iw (p0 : List PodTerm) : Q13b p0 = ((Qaq (Q4m p0 p0 0 []))) := by
  rw [Q10f]
  rfl
def Q1kz (p0 : List PodTerm) : En := .call 128 [.sl (PodTerm.rows p0)] []
def Q1e3 (p0 : List PodTerm) : Rs := .ret (.agg (Val.cells (Q13b p0))) []
def Q1cr (p0 : List PodTerm) : Prop := LSm PodTerm.sm p0
theorem Q19h (p0 : List PodTerm) (H : Q1cr p0) : (Qff p0) ∧ True := by
  exact ⟨⟨Nat.le_trans H.1 (Nat.le_of_ble_eq_true rfl), fun x hx => (H.2 x hx).1, trivial⟩, trivial⟩
theorem Q1k0 (p0 : List PodTerm) (H : Q1cr p0) : Q6 G (Q1kz p0) (Q1e3 p0) := by
 unfold Q1e3
 rw [Q1iw]
 have hl0 := Qvl p0 ((Q19h p0 H).1) p0 0 [] (by simp) (by simp)
 obtain ⟨z0, zo0, hl0⟩ := hl0
 exact Qb (fn := Ir.K31) rfl VOK.nil [hS 0 true (Val.Q7 (Q4m p0 p0 0 []) 5 rfl), hQ (Val.Q5 (Q4m p0 p0 0 [])).symm] [aV [(1, Val.rows (Q4m p0 p0 0 []))] hl0, aN (Qdo (Q4m p0 p0 0 []))] (by kernel_rfl)
def Q4l (p0 : List SpreadRule) : List SpreadRule → Nat → (List Val) → List Val
 | [], _i0, v0_1 =>
  v0_1
 | x0 :: r0, i0, v0_1 =>
  Q4l p0 r0 (i0 + 1) (v0_1 ++ [(Qt ([(Q0 Q1m (Q8 x0.maxSkew)), (Q0 Qd (Qz x0.required)), (Q0 Qc (Q2f x0.selector)), (Q0 Qm (Qh x0.topology))]))])
theorem Qyp (p0 : List SpreadRule) : ∀ (l : List SpreadRule) (i : Nat) (a : List Val), Q4l p0 l i a = a ++ l.map (fun x0 => (Qt ([(Q0 Q1m (Q8 x0.maxSkew)), (Q0 Qd (Qz x0.required)), (Q0 Qc (Q2f x0.selector)), (Q0 Qm (Qh x0.topology))])))
  | [], _, _ => by simp [Q4l]
  | x :: r, i, a => by rw [Q4l, Qyp p0 r]; simp
def Qvz (p0 : List SpreadRule) (i0 : Nat) (v0_1 : List Val) : List PV :=
  [.sl (SpreadRule.rows p0), .un, .bx 0 0, .ms 1 5 0 (List.length v0_1), .int .i64 (i0 : Int)] ++ nuns 41
def Qie (_p0 : List SpreadRule) (_i0 : Nat) (v0_1 : List Val) : List Ob :=
  [⟨5, 0, true, [.int .i64 0, .int .i64 0, .str (⟨#[]⟩ : ByteArray), .ms 2 5 0 0, .ms 3 6 0 0]⟩, ⟨5, 0, true, (Val.rows v0_1).flatten⟩, ⟨5, 0, true, []⟩, ⟨6, 0, true, []⟩]
def Qei (p0 : List SpreadRule) (i0 : Nat) (v0_1 : List Val) : En := .loop 0 Ir.Qho Ir.Q1al (Qvz p0 i0 v0_1) (Qie p0 i0 v0_1)
def Qmm (_p0 : List SpreadRule) (q0 : List Val) (z : Nat → PV) (_zo : Nat → List PV) : St :=
  ⟨[z 0, z 1, .bx 0 0, .ms 1 5 0 (List.length q0)] ++ zr z 4 42, [(0, ⟨5, 0, true, [.int .i64 0, .int .i64 0, .str (⟨#[]⟩ : ByteArray), .ms 2 5 0 0, .ms 3 6 0 0]⟩), (1, ⟨5, 0, true, (Val.rows q0).flatten⟩), (2, ⟨5, 0, true, []⟩), (3, ⟨6, 0, true, []⟩)], 260⟩
theorem Q107 (p0 : List SpreadRule) (i0 : Nat) (v0_1 : List Val) : VOK (Go.Pv.look (number 0 (Qie p0 i0 v0_1))) [(1, Val.rows v0_1)] := (VOK.cons (show Seen _ _ from Q3j (ob := ⟨5, 0, true, (Val.rows v0_1).flatten⟩) (Val.Q7 v0_1 5 rfl)) VOK.nil)
def Qdx (p0 : List SpreadRule) (e : En) (q : List Val) : Prop := ∃ z zo, Q6 G e (.st (.exit 0) (Qmm p0 q z zo))
theorem Qru (p0 : List SpreadRule) {e e' : En} (h : ∀ r, Q6 G e r → Q6 G e' r) : ∀ q, Qdx p0 e q → Qdx p0 e' q
  | _, ⟨z, zo, hz⟩ => ⟨z, zo, h _ hz⟩
def Qew (p0 : List SpreadRule) : Prop := (List.length p0 ≤ 137438953472) ∧ (∀ x0 ∈ p0, Q13s x0.selector) ∧ True
def Qm0 (p0 : List SpreadRule) (i0 : Nat) (_v0_1 : List Val) : List PV :=
  [.sl (SpreadRule.rows p0), .un, .un, .un, .int .i64 (i0 : Int), .int .i64 (i0 : Int), .sl (SpreadRule.rows p0), .int .i64 ((List.length p0) : Int), .bool false]
def Qgo (_p0 : List SpreadRule) (_i0 : Nat) (_v0_1 : List Val) : List (Nat × List PV) :=
  []
theorem Q146 (p0 : List SpreadRule) (_H : Qew p0) (i0 : Nat) (v0_1 : List Val) (_ho0_0 : List.length v0_1 ≤ i0) (hc0 : (decide ((i0 : Int) < ((List.length p0) : Int))) = false) : Qdx p0 (Qei p0 i0 v0_1) v0_1 := by
 exact ⟨(envF (Qm0 p0 i0 v0_1)), (zoF (Qgo p0 i0 v0_1)), Qg (Q107 p0 i0 v0_1) (x := ((.exit 0), Qmm p0 v0_1 (envF (Qm0 p0 i0 v0_1)) (zoF (Qgo p0 i0 v0_1)))) [hP 2 (Qe (SpreadRule.rows p0) (List.length p0) (SpreadRule.Q5 p0)), hB 0 hc0] [] (by kernel_rfl)⟩
theorem Q144 (p0 : List SpreadRule) (H : Qew p0) (x0 : SpreadRule) (i0 : Nat) (v0_1 : List Val) (hx0 : p0[i0]? = some x0) (hi0 : i0 < List.length p0) (ho0_0 : List.length v0_1 ≤ i0) (hc0 : (decide ((i0 : Int) < ((List.length p0) : Int))) = true) {r : Rs} (hr : Q6 G (Qei p0 (i0 + 1) (v0_1 ++ [(Qt ([(Q0 Q1m (Q8 x0.maxSkew)), (Q0 Qd (Qz x0.required)), (Q0 Qc (Q2f x0.selector)), (Q0 Qm (Qh x0.topology))]))])) r) : Q6 G (Qei p0 i0 v0_1) r := by
 have hB0 := H.1
 exact Qk (Q107 p0 i0 v0_1) (y := (Qvz p0 (i0 + 1) (v0_1 ++ [(Qt ([(Q0 Q1m (Q8 x0.maxSkew)), (Q0 Qd (Qz x0.required)), (Q0 Qc (Q2f x0.selector)), (Q0 Qm (Qh x0.topology))]))]), Qie p0 (i0 + 1) (v0_1 ++ [(Qt ([(Q0 Q1m (Q8 x0.maxSkew)), (Q0 Qd (Qz x0.required)), (Q0 Qc (Q2f x0.selector)), (Q0 Qm (Qh x0.topology))]))]))) [hP 2 (Qe (SpreadRule.rows p0) (List.length p0) (SpreadRule.Q5 p0)), hB 0 hc0, hP 3 (Q1f 4 (SpreadRule.rows p0) i0 _ (SpreadRule.Qa hx0) rfl), hP 6 (Q1f 4 (SpreadRule.rows p0) i0 _ (SpreadRule.Qa hx0) rfl), hP 6 (Q1f 4 (SpreadRule.rows p0) i0 _ (SpreadRule.Qa hx0) rfl), hP 6 (Q1f 4 (SpreadRule.rows p0) i0 _ (SpreadRule.Qa hx0) rfl), hV 7 [(2308, Val.rows (v0_1 ++ [(Qt ([(Q0 Q1m (Q8 x0.maxSkew)), (Q0 Qd (Qz x0.required)), (Q0 Qc (Q2f x0.selector)), (Q0 Qm (Qh x0.topology))]))]))] (Q5h 1 2244 2308 5 80 0 0 true (Val.rows v0_1) (Val.rows (v0_1 ++ [(Qt ([(Q0 Q1m (Q8 x0.maxSkew)), (Q0 Qd (Qz x0.required)), (Q0 Qc (Q2f x0.selector)), (Q0 Qm (Qh x0.topology))]))])) (Val.cells (Qt ([(Q0 Q1m (Q8 x0.maxSkew)), (Q0 Qd (Qz x0.required)), (Q0 Qc (Q2f x0.selector)), (Q0 Qm (Qh x0.topology))]))) (List.length v0_1) (List.length (v0_1 ++ [(Qt ([(Q0 Q1m (Q8 x0.maxSkew)), (Q0 Qd (Qz x0.required)), (Q0 Qc (Q2f x0.selector)), (Q0 Qm (Qh x0.topology))]))])) rfl (Val.Q5 v0_1).symm (Val.Q5 (v0_1 ++ [(Qt ([(Q0 Q1m (Q8 x0.maxSkew)), (Q0 Qd (Qz x0.required)), (Q0 Qc (Q2f x0.selector)), (Q0 Qm (Qh x0.topology))]))])).symm (Val.Q15 v0_1 (Qt ([(Q0 Q1m (Q8 x0.maxSkew)), (Q0 Qd (Qz x0.required)), (Q0 Qc (Q2f x0.selector)), (Q0 Qm (Qh x0.topology))]))) (Val.Qi v0_1) rfl (by omega)), hS 0 true (Val.Q7 (v0_1 ++ [(Qt ([(Q0 Q1m (Q8 x0.maxSkew)), (Q0 Qd (Qz x0.required)), (Q0 Qc (Q2f x0.selector)), (Q0 Qm (Qh x0.topology))]))]) 5 rfl), hP 2 (Q1y i0 (by omega))] [aN (Q4p x0.maxSkew), aN (Q1q Q1m (Q8 x0.maxSkew)), aN (Qdn x0.required), aN (Q1q Qd (Qz x0.required)), aN (Q18w x0.selector (H.2.1 x0 (Q29 hx0))), aN (Q1q Qc (Q2f x0.selector)), aN (Q8r x0.topology), aN (Q1q Qm (Qh x0.topology)), aN (Q3v (e' := .call 70 [.sl [(Fld.cells (Q0 Q1m (Q8 x0.maxSkew))), (Fld.cells (Q0 Qd (Qz x0.required))), (Fld.cells (Q0 Qc (Q2f x0.selector))), (Fld.cells (Q0 Qm (Qh x0.topology)))]] []) (Q8b ([(Q0 Q1m (Q8 x0.maxSkew)), (Q0 Qd (Qz x0.required)), (Q0 Qc (Q2f x0.selector)), (Q0 Qm (Qh x0.topology))])) (by simp only [Q87, Fld.Qo, Fld.Qy]))] (by kernel_rfl) hr
theorem Qw3 (p0 : List SpreadRule) (H : Qew p0) : ∀ (r0 : List SpreadRule) (i0 : Nat) (v0_1 : List Val), List.drop i0 p0 = r0 → List.length v0_1 ≤ i0 → Qdx p0 (Qei p0 i0 v0_1) (Q4l p0 r0 i0 v0_1)
 | [], i0, v0_1, hd, ho0_0 => by
  have hc0 : (decide ((i0 : Int) < ((List.length p0) : Int))) = false := by have := Q1b hd; simp; omega
  rw [Q4l]
  exact Q146 p0 H i0 v0_1 ho0_0 hc0
 | x0 :: r0, i0, v0_1, hd, ho0_0 => by
  obtain ⟨hx0, hi0, hd'⟩ := Q14 hd
  have hc0 : (decide ((i0 : Int) < ((List.length p0) : Int))) = true := by simp; omega
  rw [Q4l]
  exact Qru p0 (fun r hr => Q144 p0 H x0 i0 v0_1 hx0 hi0 ho0_0 hc0 hr) _ (Qw3 p0 H r0 (i0 + 1) (v0_1 ++ [(Qt ([(Q0 Q1m (Q8 x0.maxSkew)), (Q0 Qd (Qz x0.required)), (Q0 Qc (Q2f x0.selector)), (Q0 Qm (Qh x0.topology))]))]) hd' (by first | omega | (simp; omega)))
def Q14q (p0 : List SpreadRule) : Val := vL (p0.map SpreadRule.enc)
theorem Q1l1 (p0 : List SpreadRule) : Q14q p0 = ((Qaq (Q4l p0 p0 0 []))) := by
  rw [Qyp]
  rfl
def Q1ja (p0 : List SpreadRule) : En := .call 129 [.sl (SpreadRule.rows p0)] []
def Q1d4 (p0 : List SpreadRule) : Rs := .ret (.agg (Val.cells (Q14q p0))) []
def Q1cm (p0 : List SpreadRule) : Prop := LSm SpreadRule.sm p0
theorem Q191 (p0 : List SpreadRule) (H : Q1cm p0) : (Qew p0) ∧ True := by
  exact ⟨⟨Nat.le_trans H.1 (Nat.le_of_ble_eq_true rfl), fun x hx => (H.2 x hx).1, trivial⟩, trivial⟩
theorem Q1ko (p0 : List SpreadRule) (H : Q1cm p0) : Q6 G (Q1ja p0) (Q1d4 p0) := by
 unfold Q1d4
 rw [Q1l1]
 have hl0 := Qw3 p0 ((Q191 p0 H).1) p0 0 [] (by simp) (by simp)
 obtain ⟨z0, zo0, hl0⟩ := hl0
 exact Qb (fn := Ir.K34) rfl VOK.nil [hS 0 true (Val.Q7 (Q4l p0 p0 0 []) 5 rfl), hQ (Val.Q5 (Q4l p0 p0 0 [])).symm] [aV [(1, Val.rows (Q4l p0 p0 0 []))] hl0, aN (Qdo (Q4l p0 p0 0 []))] (by kernel_rfl)
def Q4k (p0 : List Toleration) : List Toleration → Nat → (List Val) → List Val
 | [], _i0, v0_1 =>
  v0_1
 | x0 :: r0, i0, v0_1 =>
  Q4k p0 r0 (i0 + 1) (v0_1 ++ [(Qt ([(Q0 Qv (Q8 x0.effect)), (Q0 Q1v (Qz x0.exists_)), (Q0 Qx (Qh x0.key)), (Q0 Q1j (Q8 x0.seconds)), (Q0 Qn (Qh x0.value))]))])
theorem Qza (p0 : List Toleration) : ∀ (l : List Toleration) (i : Nat) (a : List Val), Q4k p0 l i a = a ++ l.map (fun x0 => (Qt ([(Q0 Qv (Q8 x0.effect)), (Q0 Q1v (Qz x0.exists_)), (Q0 Qx (Qh x0.key)), (Q0 Q1j (Q8 x0.seconds)), (Q0 Qn (Qh x0.value))])))
  | [], _, _ => by simp [Q4k]
  | x :: r, i, a => by rw [Q4k, Qza p0 r]; simp
def Qsq (p0 : List Toleration) (i0 : Nat) (v0_1 : List Val) : List PV :=
  [.sl (Toleration.rows p0), .un, .bx 0 0, .ms 1 5 0 (List.length v0_1), .int .i64 (i0 : Int)] ++ nuns 48
def Qhx (_p0 : List Toleration) (_i0 : Nat) (v0_1 : List Val) : List Ob :=
  [⟨5, 0, true, [.int .i64 0, .int .i64 0, .str (⟨#[]⟩ : ByteArray), .ms 2 5 0 0, .ms 3 6 0 0]⟩, ⟨5, 0, true, (Val.rows v0_1).flatten⟩, ⟨5, 0, true, []⟩, ⟨6, 0, true, []⟩]
def Qfo (p0 : List Toleration) (i0 : Nat) (v0_1 : List Val) : En := .loop 0 Ir.Qkn Ir.Q1aa (Qsq p0 i0 v0_1) (Qhx p0 i0 v0_1)
def Qpc (_p0 : List Toleration) (q0 : List Val) (z : Nat → PV) (_zo : Nat → List PV) : St :=
  ⟨[z 0, z 1, .bx 0 0, .ms 1 5 0 (List.length q0)] ++ zr z 4 49, [(0, ⟨5, 0, true, [.int .i64 0, .int .i64 0, .str (⟨#[]⟩ : ByteArray), .ms 2 5 0 0, .ms 3 6 0 0]⟩), (1, ⟨5, 0, true, (Val.rows q0).flatten⟩), (2, ⟨5, 0, true, []⟩), (3, ⟨6, 0, true, []⟩)], 260⟩
theorem Qyc (p0 : List Toleration) (i0 : Nat) (v0_1 : List Val) : VOK (Go.Pv.look (number 0 (Qhx p0 i0 v0_1))) [(1, Val.rows v0_1)] := (VOK.cons (show Seen _ _ from Q3j (ob := ⟨5, 0, true, (Val.rows v0_1).flatten⟩) (Val.Q7 v0_1 5 rfl)) VOK.nil)
def Qfh (p0 : List Toleration) (e : En) (q : List Val) : Prop := ∃ z zo, Q6 G e (.st (.exit 0) (Qpc p0 q z zo))
theorem Qr0 (p0 : List Toleration) {e e' : En} (h : ∀ r, Q6 G e r → Q6 G e' r) : ∀ q, Qfh p0 e q → Qfh p0 e' q
  | _, ⟨z, zo, hz⟩ => ⟨z, zo, h _ hz⟩
def Qga (p0 : List Toleration) : Prop := (List.length p0 ≤ 137438953472) ∧ True
def Qlu (p0 : List Toleration) (i0 : Nat) (_v0_1 : List Val) : List PV :=
  [.sl (Toleration.rows p0), .un, .un, .un, .int .i64 (i0 : Int), .int .i64 (i0 : Int), .sl (Toleration.rows p0), .int .i64 ((List.length p0) : Int), .bool false]
def Qhe (_p0 : List Toleration) (_i0 : Nat) (_v0_1 : List Val) : List (Nat × List PV) :=
  []
theorem Q11x (p0 : List Toleration) (_H : Qga p0) (i0 : Nat) (v0_1 : List Val) (_ho0_0 : List.length v0_1 ≤ i0) (hc0 : (decide ((i0 : Int) < ((List.length p0) : Int))) = false) : Qfh p0 (Qfo p0 i0 v0_1) v0_1 := by
 exact ⟨(envF (Qlu p0 i0 v0_1)), (zoF (Qhe p0 i0 v0_1)), Qg (Qyc p0 i0 v0_1) (x := ((.exit 0), Qpc p0 v0_1 (envF (Qlu p0 i0 v0_1)) (zoF (Qhe p0 i0 v0_1)))) [hP 2 (Qe (Toleration.rows p0) (List.length p0) (Toleration.Q5 p0)), hB 0 hc0] [] (by kernel_rfl)⟩
theorem Q13j (p0 : List Toleration) (H : Qga p0) (x0 : Toleration) (i0 : Nat) (v0_1 : List Val) (hx0 : p0[i0]? = some x0) (hi0 : i0 < List.length p0) (ho0_0 : List.length v0_1 ≤ i0) (hc0 : (decide ((i0 : Int) < ((List.length p0) : Int))) = true) {r : Rs} (hr : Q6 G (Qfo p0 (i0 + 1) (v0_1 ++ [(Qt ([(Q0 Qv (Q8 x0.effect)), (Q0 Q1v (Qz x0.exists_)), (Q0 Qx (Qh x0.key)), (Q0 Q1j (Q8 x0.seconds)), (Q0 Qn (Qh x0.value))]))])) r) : Q6 G (Qfo p0 i0 v0_1) r := by
 have hB0 := H.1
 exact Qk (Qyc p0 i0 v0_1) (y := (Qsq p0 (i0 + 1) (v0_1 ++ [(Qt ([(Q0 Qv (Q8 x0.effect)), (Q0 Q1v (Qz x0.exists_)), (Q0 Qx (Qh x0.key)), (Q0 Q1j (Q8 x0.seconds)), (Q0 Qn (Qh x0.value))]))]), Qhx p0 (i0 + 1) (v0_1 ++ [(Qt ([(Q0 Qv (Q8 x0.effect)), (Q0 Q1v (Qz x0.exists_)), (Q0 Qx (Qh x0.key)), (Q0 Q1j (Q8 x0.seconds)), (Q0 Qn (Qh x0.value))]))]))) [hP 2 (Qe (Toleration.rows p0) (List.length p0) (Toleration.Q5 p0)), hB 0 hc0, hP 3 (Q1f 5 (Toleration.rows p0) i0 _ (Toleration.Qa hx0) rfl), hP 6 (Q1f 5 (Toleration.rows p0) i0 _ (Toleration.Qa hx0) rfl), hP 6 (Q1f 5 (Toleration.rows p0) i0 _ (Toleration.Qa hx0) rfl), hP 6 (Q1f 5 (Toleration.rows p0) i0 _ (Toleration.Qa hx0) rfl), hP 6 (Q1f 5 (Toleration.rows p0) i0 _ (Toleration.Qa hx0) rfl), hV 7 [(2756, Val.rows (v0_1 ++ [(Qt ([(Q0 Qv (Q8 x0.effect)), (Q0 Q1v (Qz x0.exists_)), (Q0 Qx (Qh x0.key)), (Q0 Q1j (Q8 x0.seconds)), (Q0 Qn (Qh x0.value))]))]))] (Q5h 1 2692 2756 5 80 0 0 true (Val.rows v0_1) (Val.rows (v0_1 ++ [(Qt ([(Q0 Qv (Q8 x0.effect)), (Q0 Q1v (Qz x0.exists_)), (Q0 Qx (Qh x0.key)), (Q0 Q1j (Q8 x0.seconds)), (Q0 Qn (Qh x0.value))]))])) (Val.cells (Qt ([(Q0 Qv (Q8 x0.effect)), (Q0 Q1v (Qz x0.exists_)), (Q0 Qx (Qh x0.key)), (Q0 Q1j (Q8 x0.seconds)), (Q0 Qn (Qh x0.value))]))) (List.length v0_1) (List.length (v0_1 ++ [(Qt ([(Q0 Qv (Q8 x0.effect)), (Q0 Q1v (Qz x0.exists_)), (Q0 Qx (Qh x0.key)), (Q0 Q1j (Q8 x0.seconds)), (Q0 Qn (Qh x0.value))]))])) rfl (Val.Q5 v0_1).symm (Val.Q5 (v0_1 ++ [(Qt ([(Q0 Qv (Q8 x0.effect)), (Q0 Q1v (Qz x0.exists_)), (Q0 Qx (Qh x0.key)), (Q0 Q1j (Q8 x0.seconds)), (Q0 Qn (Qh x0.value))]))])).symm (Val.Q15 v0_1 (Qt ([(Q0 Qv (Q8 x0.effect)), (Q0 Q1v (Qz x0.exists_)), (Q0 Qx (Qh x0.key)), (Q0 Q1j (Q8 x0.seconds)), (Q0 Qn (Qh x0.value))]))) (Val.Qi v0_1) rfl (by omega)), hS 0 true (Val.Q7 (v0_1 ++ [(Qt ([(Q0 Qv (Q8 x0.effect)), (Q0 Q1v (Qz x0.exists_)), (Q0 Qx (Qh x0.key)), (Q0 Q1j (Q8 x0.seconds)), (Q0 Qn (Qh x0.value))]))]) 5 rfl), hP 2 (Q1y i0 (by omega))] [aN (Q4p x0.effect), aN (Q1q Qv (Q8 x0.effect)), aN (Qdn x0.exists_), aN (Q1q Q1v (Qz x0.exists_)), aN (Q8r x0.key), aN (Q1q Qx (Qh x0.key)), aN (Q4p x0.seconds), aN (Q1q Q1j (Q8 x0.seconds)), aN (Q8r x0.value), aN (Q1q Qn (Qh x0.value)), aN (Q3v (e' := .call 70 [.sl [(Fld.cells (Q0 Qv (Q8 x0.effect))), (Fld.cells (Q0 Q1v (Qz x0.exists_))), (Fld.cells (Q0 Qx (Qh x0.key))), (Fld.cells (Q0 Q1j (Q8 x0.seconds))), (Fld.cells (Q0 Qn (Qh x0.value)))]] []) (Q8b ([(Q0 Qv (Q8 x0.effect)), (Q0 Q1v (Qz x0.exists_)), (Q0 Qx (Qh x0.key)), (Q0 Q1j (Q8 x0.seconds)), (Q0 Qn (Qh x0.value))])) (by simp only [Q87, Fld.Qo, Fld.Qy]))] (by kernel_rfl) hr
theorem Qtv (p0 : List Toleration) (H : Qga p0) : ∀ (r0 : List Toleration) (i0 : Nat) (v0_1 : List Val), List.drop i0 p0 = r0 → List.length v0_1 ≤ i0 → Qfh p0 (Qfo p0 i0 v0_1) (Q4k p0 r0 i0 v0_1)
 | [], i0, v0_1, hd, ho0_0 => by
  have hc0 : (decide ((i0 : Int) < ((List.length p0) : Int))) = false := by have := Q1b hd; simp; omega
  rw [Q4k]
  exact Q11x p0 H i0 v0_1 ho0_0 hc0
 | x0 :: r0, i0, v0_1, hd, ho0_0 => by
  obtain ⟨hx0, hi0, hd'⟩ := Q14 hd
  have hc0 : (decide ((i0 : Int) < ((List.length p0) : Int))) = true := by simp; omega
  rw [Q4k]
  exact Qr0 p0 (fun r hr => Q13j p0 H x0 i0 v0_1 hx0 hi0 ho0_0 hc0 hr) _ (Qtv p0 H r0 (i0 + 1) (v0_1 ++ [(Qt ([(Q0 Qv (Q8 x0.effect)), (Q0 Q1v (Qz x0.exists_)), (Q0 Qx (Qh x0.key)), (Q0 Q1j (Q8 x0.seconds)), (Q0 Qn (Qh x0.value))]))]) hd' (by first | omega | (simp; omega)))
def Q122 (p0 : List Toleration) : Val := vL (p0.map Toleration.enc)
theorem Q1kh (p0 : List Toleration) : Q122 p0 = ((Qaq (Q4k p0 p0 0 []))) := by
  rw [Qza]
  rfl
def Q1jo (p0 : List Toleration) : En := .call 130 [.sl (Toleration.rows p0)] []
def Q1f7 (p0 : List Toleration) : Rs := .ret (.agg (Val.cells (Q122 p0))) []
def Q1b6 (p0 : List Toleration) : Prop := LSm Toleration.sm p0
theorem Q18p (p0 : List Toleration) (H : Q1b6 p0) : (Qga p0) ∧ True := by
  exact ⟨⟨Nat.le_trans H.1 (Nat.le_of_ble_eq_true rfl), trivial⟩, trivial⟩
theorem Q1h5 (p0 : List Toleration) (H : Q1b6 p0) : Q6 G (Q1jo p0) (Q1f7 p0) := by
 unfold Q1f7
 rw [Q1kh]
 have hl0 := Qtv p0 ((Q18p p0 H).1) p0 0 [] (by simp) (by simp)
 obtain ⟨z0, zo0, hl0⟩ := hl0
 exact Qb (fn := Ir.K38) rfl VOK.nil [hS 0 true (Val.Q7 (Q4k p0 p0 0 []) 5 rfl), hQ (Val.Q5 (Q4k p0 p0 0 [])).symm] [aV [(1, Val.rows (Q4k p0 p0 0 []))] hl0, aN (Qdo (Q4k p0 p0 0 []))] (by kernel_rfl)
def Qwv (p0 : PodSpec) : Val := PodSpec.enc p0
theorem Q1i3 (p0 : PodSpec) : Qwv p0 = ((Qt ([(Q0 Q13 (Q11j p0.containers)), (Q0 Q4e (Q8 p0.grace)), (Q0 Q5k (Qh p0.node)), (Q0 Q1t (Q2f p0.nodeSelector)), (Q0 Q2d (Q12y p0.nodeTerms)), (Q0 Q2j (Q13b p0.podTerms)), (Q0 Q2m (Q8 p0.priority)), (Q0 Q2x (Q8 p0.restart)), (Q0 Q3e (Q14q p0.spread)), (Q0 Q20 (Q122 p0.tolerations))]))) := by
  rfl
def Q1ht (p0 : PodSpec) : En := .call 59 [.agg (PodSpec.cells p0)] []
def Q1fl (p0 : PodSpec) : Rs := .ret (.agg (Val.cells (Qwv p0))) []
def Q189 (p0 : PodSpec) : Prop := PodSpec.sm p0
theorem Q9e (p0 : PodSpec) (H : Q189 p0) : (Q1bi p0.containers) ∧ (Q13s p0.nodeSelector) ∧ (Q1c4 p0.nodeTerms) ∧ (Q1cr p0.podTerms) ∧ (Q1cm p0.spread) ∧ (Q1b6 p0.tolerations) ∧ True := by
  repeat' with_reducible apply And.intro
  all_goals first | exact True.intro | exact H | exact H.1 | exact H.2.1 | exact H.2.2.1 | exact H.2.2.2.1 | exact H.2.2.2.2.1 | exact H.2.2.2.2.2.1 | exact H.2.2.2.2.2.2.1 | exact H.2.2.2.2.2.2.2.1 | exact H.2.2.2.2.2.2.2.2.1 | exact H.2.2.2.2.2.2.2.2.2.1 | exact H.2.2.2.2.2.2.2.2.2.2.1
theorem Q1e2 (p0 : PodSpec) (H : Q189 p0) : Q6 G (Q1ht p0) (Q1fl p0) := by
 unfold Q1fl
 rw [Q1i3]
 exact Qb (fn := Ir.K2d) rfl VOK.nil [] [aN (Q1im p0.containers (Q9e p0 H).1), aN (Q1q Q13 (Q11j p0.containers)), aN (Q4p p0.grace), aN (Q1q Q4e (Q8 p0.grace)), aN (Q8r p0.node), aN (Q1q Q5k (Qh p0.node)), aN (Q18w p0.nodeSelector (Q9e p0 H).2.1), aN (Q1q Q1t (Q2f p0.nodeSelector)), aN (Q1lj p0.nodeTerms (Q9e p0 H).2.2.1), aN (Q1q Q2d (Q12y p0.nodeTerms)), aN (Q1k0 p0.podTerms (Q9e p0 H).2.2.2.1), aN (Q1q Q2j (Q13b p0.podTerms)), aN (Q4p p0.priority), aN (Q1q Q2m (Q8 p0.priority)), aN (Q4p p0.restart), aN (Q1q Q2x (Q8 p0.restart)), aN (Q1ko p0.spread (Q9e p0 H).2.2.2.2.1), aN (Q1q Q3e (Q14q p0.spread)), aN (Q1h5 p0.tolerations (Q9e p0 H).2.2.2.2.2.1), aN (Q1q Q20 (Q122 p0.tolerations)), aN (Q3v (e' := .call 70 [.sl [(Fld.cells (Q0 Q13 (Q11j p0.containers))), (Fld.cells (Q0 Q4e (Q8 p0.grace))), (Fld.cells (Q0 Q5k (Qh p0.node))), (Fld.cells (Q0 Q1t (Q2f p0.nodeSelector))), (Fld.cells (Q0 Q2d (Q12y p0.nodeTerms))), (Fld.cells (Q0 Q2j (Q13b p0.podTerms))), (Fld.cells (Q0 Q2m (Q8 p0.priority))), (Fld.cells (Q0 Q2x (Q8 p0.restart))), (Fld.cells (Q0 Q3e (Q14q p0.spread))), (Fld.cells (Q0 Q20 (Q122 p0.tolerations)))]] []) (Q8b ([(Q0 Q13 (Q11j p0.containers)), (Q0 Q4e (Q8 p0.grace)), (Q0 Q5k (Qh p0.node)), (Q0 Q1t (Q2f p0.nodeSelector)), (Q0 Q2d (Q12y p0.nodeTerms)), (Q0 Q2j (Q13b p0.podTerms)), (Q0 Q2m (Q8 p0.priority)), (Q0 Q2x (Q8 p0.restart)), (Q0 Q3e (Q14q p0.spread)), (Q0 Q20 (Q122 p0.tolerations))])) (by simp only [Q87, Fld.Qo, Fld.Qy]))] (by kernel_rfl)
def Quy (p0 : Template) : Val := Template.enc p0
theorem Q1it (p0 : Template) : Quy p0 = ((Qt ([(Q0 Q3b (Q11o p0.labels)), (Q0 Q5l (Qwv p0.spec))]))) := by
  rfl
def Q1id (p0 : Template) : En := .call 29 [.agg (Template.cells p0)] []
def Q1fu (p0 : Template) : Rs := .ret (.agg (Val.cells (Quy p0))) []
def Q1b3 (p0 : Template) : Prop := Template.sm p0
theorem Qyl (p0 : Template) (H : Q1b3 p0) : (Q1az p0.labels) ∧ (Q189 p0.spec) ∧ True := by
  repeat' with_reducible apply And.intro
  all_goals first | exact True.intro | exact H | exact H.1 | exact H.2.1 | exact H.2.2.1 | exact H.2.2.2.1 | exact H.2.2.2.2.1 | exact H.2.2.2.2.2.1 | exact H.2.2.2.2.2.2.1 | exact H.2.2.2.2.2.2.2.1 | exact H.2.2.2.2.2.2.2.2.1 | exact H.2.2.2.2.2.2.2.2.2.1 | exact H.2.2.2.2.2.2.2.2.2.2.1
theorem Q1fw (p0 : Template) (H : Q1b3 p0) : Q6 G (Q1id p0) (Q1fu p0) := by
 unfold Q1fu
 rw [Q1it]
 exact Qb (fn := Ir.K2f) rfl VOK.nil [] [aN (Q1k4 p0.labels (Qyl p0 H).1), aN (Q1q Q3b (Q11o p0.labels)), aN (Q1e2 p0.spec (Qyl p0 H).2.1), aN (Q1q Q5l (Qwv p0.spec)), aN (Q3v (e' := .call 70 [.sl [(Fld.cells (Q0 Q3b (Q11o p0.labels))), (Fld.cells (Q0 Q5l (Qwv p0.spec)))]] []) (Q8b ([(Q0 Q3b (Q11o p0.labels)), (Q0 Q5l (Qwv p0.spec))])) (by simp only [Q87, Fld.Qo, Fld.Qy]))] (by kernel_rfl)
def Q4d (p0 : List ContainerStatus) : List ContainerStatus → Nat → (List Val) → List Val
 | [], _i0, v0_1 =>
  v0_1
 | x0 :: r0, i0, v0_1 =>
  Q4d p0 r0 (i0 + 1) (v0_1 ++ [(Qt ([(Q0 Q1d (Q8 x0.exitCode)), (Q0 Qw (Qh x0.name)), (Q0 Qp (Qz x0.ready)), (Q0 Q1g (Q8 x0.restarts)), (Q0 Q16 (Q8 x0.since)), (Q0 Q10 (Qz x0.started)), (Q0 Q26 (Q8 x0.state))]))])
theorem Qyv (p0 : List ContainerStatus) : ∀ (l : List ContainerStatus) (i : Nat) (a : List Val), Q4d p0 l i a = a ++ l.map (fun x0 => (Qt ([(Q0 Q1d (Q8 x0.exitCode)), (Q0 Qw (Qh x0.name)), (Q0 Qp (Qz x0.ready)), (Q0 Q1g (Q8 x0.restarts)), (Q0 Q16 (Q8 x0.since)), (Q0 Q10 (Qz x0.started)), (Q0 Q26 (Q8 x0.state))])))
  | [], _, _ => by simp [Q4d]
  | x :: r, i, a => by rw [Q4d, Qyv p0 r]; simp
def Qsy (p0 : List ContainerStatus) (i0 : Nat) (v0_1 : List Val) : List PV :=
  [.sl (ContainerStatus.rows p0), .un, .bx 0 0, .ms 1 5 0 (List.length v0_1), .int .i64 (i0 : Int)] ++ nuns 46
def Qib (_p0 : List ContainerStatus) (_i0 : Nat) (v0_1 : List Val) : List Ob :=
  [⟨5, 0, true, [.int .i64 0, .int .i64 0, .str (⟨#[]⟩ : ByteArray), .ms 2 5 0 0, .ms 3 6 0 0]⟩, ⟨5, 0, true, (Val.rows v0_1).flatten⟩, ⟨5, 0, true, []⟩, ⟨6, 0, true, []⟩]
def Qe4 (p0 : List ContainerStatus) (i0 : Nat) (v0_1 : List Val) : En := .loop 0 Ir.Qix Ir.Q19t (Qsy p0 i0 v0_1) (Qib p0 i0 v0_1)
def Qpa (_p0 : List ContainerStatus) (q0 : List Val) (z : Nat → PV) (_zo : Nat → List PV) : St :=
  ⟨[z 0, z 1, .bx 0 0, .ms 1 5 0 (List.length q0)] ++ zr z 4 47, [(0, ⟨5, 0, true, [.int .i64 0, .int .i64 0, .str (⟨#[]⟩ : ByteArray), .ms 2 5 0 0, .ms 3 6 0 0]⟩), (1, ⟨5, 0, true, (Val.rows q0).flatten⟩), (2, ⟨5, 0, true, []⟩), (3, ⟨6, 0, true, []⟩)], 260⟩
theorem Qy2 (p0 : List ContainerStatus) (i0 : Nat) (v0_1 : List Val) : VOK (Go.Pv.look (number 0 (Qib p0 i0 v0_1))) [(1, Val.rows v0_1)] := (VOK.cons (show Seen _ _ from Q3j (ob := ⟨5, 0, true, (Val.rows v0_1).flatten⟩) (Val.Q7 v0_1 5 rfl)) VOK.nil)
def Qeu (p0 : List ContainerStatus) (e : En) (q : List Val) : Prop := ∃ z zo, Q6 G e (.st (.exit 0) (Qpa p0 q z zo))
theorem Qqz (p0 : List ContainerStatus) {e e' : En} (h : ∀ r, Q6 G e r → Q6 G e' r) : ∀ q, Qeu p0 e q → Qeu p0 e' q
  | _, ⟨z, zo, hz⟩ => ⟨z, zo, h _ hz⟩
def Qf7 (p0 : List ContainerStatus) : Prop := (List.length p0 ≤ 137438953472) ∧ True
def Qml (p0 : List ContainerStatus) (i0 : Nat) (_v0_1 : List Val) : List PV :=
  [.sl (ContainerStatus.rows p0), .un, .un, .un, .int .i64 (i0 : Int), .un, .int .i64 (i0 : Int), .sl (ContainerStatus.rows p0), .int .i64 ((List.length p0) : Int), .bool false]
def Qhn (_p0 : List ContainerStatus) (_i0 : Nat) (_v0_1 : List Val) : List (Nat × List PV) :=
  []
theorem Q12u (p0 : List ContainerStatus) (_H : Qf7 p0) (i0 : Nat) (v0_1 : List Val) (_ho0_0 : List.length v0_1 ≤ i0) (hc0 : (decide ((i0 : Int) < ((List.length p0) : Int))) = false) : Qeu p0 (Qe4 p0 i0 v0_1) v0_1 := by
 exact ⟨(envF (Qml p0 i0 v0_1)), (zoF (Qhn p0 i0 v0_1)), Qg (Qy2 p0 i0 v0_1) (x := ((.exit 0), Qpa p0 v0_1 (envF (Qml p0 i0 v0_1)) (zoF (Qhn p0 i0 v0_1)))) [hP 2 (Qe (ContainerStatus.rows p0) (List.length p0) (ContainerStatus.Q5 p0)), hB 0 hc0] [] (by kernel_rfl)⟩
theorem Q11e (p0 : List ContainerStatus) (H : Qf7 p0) (x0 : ContainerStatus) (i0 : Nat) (v0_1 : List Val) (hx0 : p0[i0]? = some x0) (hi0 : i0 < List.length p0) (ho0_0 : List.length v0_1 ≤ i0) (hc0 : (decide ((i0 : Int) < ((List.length p0) : Int))) = true) {r : Rs} (hr : Q6 G (Qe4 p0 (i0 + 1) (v0_1 ++ [(Qt ([(Q0 Q1d (Q8 x0.exitCode)), (Q0 Qw (Qh x0.name)), (Q0 Qp (Qz x0.ready)), (Q0 Q1g (Q8 x0.restarts)), (Q0 Q16 (Q8 x0.since)), (Q0 Q10 (Qz x0.started)), (Q0 Q26 (Q8 x0.state))]))])) r) : Q6 G (Qe4 p0 i0 v0_1) r := by
 have hB0 := H.1
 exact Qk (Qy2 p0 i0 v0_1) (y := (Qsy p0 (i0 + 1) (v0_1 ++ [(Qt ([(Q0 Q1d (Q8 x0.exitCode)), (Q0 Qw (Qh x0.name)), (Q0 Qp (Qz x0.ready)), (Q0 Q1g (Q8 x0.restarts)), (Q0 Q16 (Q8 x0.since)), (Q0 Q10 (Qz x0.started)), (Q0 Q26 (Q8 x0.state))]))]), Qib p0 (i0 + 1) (v0_1 ++ [(Qt ([(Q0 Q1d (Q8 x0.exitCode)), (Q0 Qw (Qh x0.name)), (Q0 Qp (Qz x0.ready)), (Q0 Q1g (Q8 x0.restarts)), (Q0 Q16 (Q8 x0.since)), (Q0 Q10 (Qz x0.started)), (Q0 Q26 (Q8 x0.state))]))]))) [hP 2 (Qe (ContainerStatus.rows p0) (List.length p0) (ContainerStatus.Q5 p0)), hB 0 hc0, hP 2 (Q1f 7 (ContainerStatus.rows p0) i0 _ (ContainerStatus.Qa hx0) rfl), hV 35 [(2692, Val.rows (v0_1 ++ [(Qt ([(Q0 Q1d (Q8 x0.exitCode)), (Q0 Qw (Qh x0.name)), (Q0 Qp (Qz x0.ready)), (Q0 Q1g (Q8 x0.restarts)), (Q0 Q16 (Q8 x0.since)), (Q0 Q10 (Qz x0.started)), (Q0 Q26 (Q8 x0.state))]))]))] (Q5h 1 2628 2692 5 80 0 0 true (Val.rows v0_1) (Val.rows (v0_1 ++ [(Qt ([(Q0 Q1d (Q8 x0.exitCode)), (Q0 Qw (Qh x0.name)), (Q0 Qp (Qz x0.ready)), (Q0 Q1g (Q8 x0.restarts)), (Q0 Q16 (Q8 x0.since)), (Q0 Q10 (Qz x0.started)), (Q0 Q26 (Q8 x0.state))]))])) (Val.cells (Qt ([(Q0 Q1d (Q8 x0.exitCode)), (Q0 Qw (Qh x0.name)), (Q0 Qp (Qz x0.ready)), (Q0 Q1g (Q8 x0.restarts)), (Q0 Q16 (Q8 x0.since)), (Q0 Q10 (Qz x0.started)), (Q0 Q26 (Q8 x0.state))]))) (List.length v0_1) (List.length (v0_1 ++ [(Qt ([(Q0 Q1d (Q8 x0.exitCode)), (Q0 Qw (Qh x0.name)), (Q0 Qp (Qz x0.ready)), (Q0 Q1g (Q8 x0.restarts)), (Q0 Q16 (Q8 x0.since)), (Q0 Q10 (Qz x0.started)), (Q0 Q26 (Q8 x0.state))]))])) rfl (Val.Q5 v0_1).symm (Val.Q5 (v0_1 ++ [(Qt ([(Q0 Q1d (Q8 x0.exitCode)), (Q0 Qw (Qh x0.name)), (Q0 Qp (Qz x0.ready)), (Q0 Q1g (Q8 x0.restarts)), (Q0 Q16 (Q8 x0.since)), (Q0 Q10 (Qz x0.started)), (Q0 Q26 (Q8 x0.state))]))])).symm (Val.Q15 v0_1 (Qt ([(Q0 Q1d (Q8 x0.exitCode)), (Q0 Qw (Qh x0.name)), (Q0 Qp (Qz x0.ready)), (Q0 Q1g (Q8 x0.restarts)), (Q0 Q16 (Q8 x0.since)), (Q0 Q10 (Qz x0.started)), (Q0 Q26 (Q8 x0.state))]))) (Val.Qi v0_1) rfl (by omega)), hS 0 true (Val.Q7 (v0_1 ++ [(Qt ([(Q0 Q1d (Q8 x0.exitCode)), (Q0 Qw (Qh x0.name)), (Q0 Qp (Qz x0.ready)), (Q0 Q1g (Q8 x0.restarts)), (Q0 Q16 (Q8 x0.since)), (Q0 Q10 (Qz x0.started)), (Q0 Q26 (Q8 x0.state))]))]) 5 rfl), hP 2 (Q1y i0 (by omega))] [aN (Q4p x0.exitCode), aN (Q1q Q1d (Q8 x0.exitCode)), aN (Q8r x0.name), aN (Q1q Qw (Qh x0.name)), aN (Qdn x0.ready), aN (Q1q Qp (Qz x0.ready)), aN (Q4p x0.restarts), aN (Q1q Q1g (Q8 x0.restarts)), aN (Q4p x0.since), aN (Q1q Q16 (Q8 x0.since)), aN (Qdn x0.started), aN (Q1q Q10 (Qz x0.started)), aN (Q4p x0.state), aN (Q1q Q26 (Q8 x0.state)), aN (Q3v (e' := .call 70 [.sl [(Fld.cells (Q0 Q1d (Q8 x0.exitCode))), (Fld.cells (Q0 Qw (Qh x0.name))), (Fld.cells (Q0 Qp (Qz x0.ready))), (Fld.cells (Q0 Q1g (Q8 x0.restarts))), (Fld.cells (Q0 Q16 (Q8 x0.since))), (Fld.cells (Q0 Q10 (Qz x0.started))), (Fld.cells (Q0 Q26 (Q8 x0.state)))]] []) (Q8b ([(Q0 Q1d (Q8 x0.exitCode)), (Q0 Qw (Qh x0.name)), (Q0 Qp (Qz x0.ready)), (Q0 Q1g (Q8 x0.restarts)), (Q0 Q16 (Q8 x0.since)), (Q0 Q10 (Qz x0.started)), (Q0 Q26 (Q8 x0.state))])) (by simp only [Q87, Fld.Qo, Fld.Qy]))] (by kernel_rfl) hr
theorem Qts (p0 : List ContainerStatus) (H : Qf7 p0) : ∀ (r0 : List ContainerStatus) (i0 : Nat) (v0_1 : List Val), List.drop i0 p0 = r0 → List.length v0_1 ≤ i0 → Qeu p0 (Qe4 p0 i0 v0_1) (Q4d p0 r0 i0 v0_1)
 | [], i0, v0_1, hd, ho0_0 => by
  have hc0 : (decide ((i0 : Int) < ((List.length p0) : Int))) = false := by have := Q1b hd; simp; omega
  rw [Q4d]
  exact Q12u p0 H i0 v0_1 ho0_0 hc0
 | x0 :: r0, i0, v0_1, hd, ho0_0 => by
  obtain ⟨hx0, hi0, hd'⟩ := Q14 hd
  have hc0 : (decide ((i0 : Int) < ((List.length p0) : Int))) = true := by simp; omega
  rw [Q4d]
  exact Qqz p0 (fun r hr => Q11e p0 H x0 i0 v0_1 hx0 hi0 ho0_0 hc0 hr) _ (Qts p0 H r0 (i0 + 1) (v0_1 ++ [(Qt ([(Q0 Q1d (Q8 x0.exitCode)), (Q0 Qw (Qh x0.name)), (Q0 Qp (Qz x0.ready)), (Q0 Q1g (Q8 x0.restarts)), (Q0 Q16 (Q8 x0.since)), (Q0 Q10 (Qz x0.started)), (Q0 Q26 (Q8 x0.state))]))]) hd' (by first | omega | (simp; omega)))
def Q13n (p0 : List ContainerStatus) : Val := vL (p0.map ContainerStatus.enc)
theorem Q1ka (p0 : List ContainerStatus) : Q13n p0 = ((Qaq (Q4d p0 p0 0 []))) := by
  rw [Qyv]
  rfl
def Q1kv (p0 : List ContainerStatus) : En := .call 131 [.sl (ContainerStatus.rows p0)] []
def Q1eu (p0 : List ContainerStatus) : Rs := .ret (.agg (Val.cells (Q13n p0))) []
def Q1bw (p0 : List ContainerStatus) : Prop := LSm ContainerStatus.sm p0
theorem Q192 (p0 : List ContainerStatus) (H : Q1bw p0) : (Qf7 p0) ∧ True := by
  exact ⟨⟨Nat.le_trans H.1 (Nat.le_of_ble_eq_true rfl), trivial⟩, trivial⟩
theorem Q1gs (p0 : List ContainerStatus) (H : Q1bw p0) : Q6 G (Q1kv p0) (Q1eu p0) := by
 unfold Q1eu
 rw [Q1ka]
 have hl0 := Qts p0 ((Q192 p0 H).1) p0 0 [] (by simp) (by simp)
 obtain ⟨z0, zo0, hl0⟩ := hl0
 exact Qb (fn := Ir.K36) rfl VOK.nil [hS 0 true (Val.Q7 (Q4d p0 p0 0 []) 5 rfl), hQ (Val.Q5 (Q4d p0 p0 0 [])).symm] [aV [(1, Val.rows (Q4d p0 p0 0 []))] hl0, aN (Qdo (Q4d p0 p0 0 []))] (by kernel_rfl)
def Q1c1 (p0 : PodStatus) : Val := PodStatus.enc p0
theorem Q1ib (p0 : PodStatus) : Q1c1 p0 = ((Qt ([(Q0 Q2y (Q8 p0.address)), (Q0 Q13 (Q13n p0.containers)), (Q0 Q2k (Q8 p0.finished)), (Q0 Q2c (Qh p0.nominated)), (Q0 Q4f (Q8 p0.phase)), (Q0 Qp (Qz p0.ready)), (Q0 Q22 (Q8 p0.readySince)), (Q0 Q3c (Qh p0.reason)), (Q0 Q10 (Q8 p0.started))]))) := by
  rfl
def Q1ih (p0 : PodStatus) : En := .call 60 [.agg (PodStatus.cells p0)] []
def Q1dt (p0 : PodStatus) : Rs := .ret (.agg (Val.cells (Q1c1 p0))) []
def Q1cb (p0 : PodStatus) : Prop := PodStatus.sm p0
theorem Q18y (p0 : PodStatus) (H : Q1cb p0) : (Q1bw p0.containers) ∧ True := by
  repeat' with_reducible apply And.intro
  all_goals first | exact True.intro | exact H | exact H.1 | exact H.2.1 | exact H.2.2.1 | exact H.2.2.2.1 | exact H.2.2.2.2.1 | exact H.2.2.2.2.2.1 | exact H.2.2.2.2.2.2.1 | exact H.2.2.2.2.2.2.2.1 | exact H.2.2.2.2.2.2.2.2.1 | exact H.2.2.2.2.2.2.2.2.2.1 | exact H.2.2.2.2.2.2.2.2.2.2.1
theorem Q1k2 (p0 : PodStatus) (H : Q1cb p0) : Q6 G (Q1ih p0) (Q1dt p0) := by
 unfold Q1dt
 rw [Q1ib]
 exact Qb (fn := Ir.K35) rfl VOK.nil [] [aN (Q4p p0.address), aN (Q1q Q2y (Q8 p0.address)), aN (Q1gs p0.containers (Q18y p0 H).1), aN (Q1q Q13 (Q13n p0.containers)), aN (Q4p p0.finished), aN (Q1q Q2k (Q8 p0.finished)), aN (Q8r p0.nominated), aN (Q1q Q2c (Qh p0.nominated)), aN (Q4p p0.phase), aN (Q1q Q4f (Q8 p0.phase)), aN (Qdn p0.ready), aN (Q1q Qp (Qz p0.ready)), aN (Q4p p0.readySince), aN (Q1q Q22 (Q8 p0.readySince)), aN (Q8r p0.reason), aN (Q1q Q3c (Qh p0.reason)), aN (Q4p p0.started), aN (Q1q Q10 (Q8 p0.started)), aN (Q3v (e' := .call 70 [.sl [(Fld.cells (Q0 Q2y (Q8 p0.address))), (Fld.cells (Q0 Q13 (Q13n p0.containers))), (Fld.cells (Q0 Q2k (Q8 p0.finished))), (Fld.cells (Q0 Q2c (Qh p0.nominated))), (Fld.cells (Q0 Q4f (Q8 p0.phase))), (Fld.cells (Q0 Qp (Qz p0.ready))), (Fld.cells (Q0 Q22 (Q8 p0.readySince))), (Fld.cells (Q0 Q3c (Qh p0.reason))), (Fld.cells (Q0 Q10 (Q8 p0.started)))]] []) (Q8b ([(Q0 Q2y (Q8 p0.address)), (Q0 Q13 (Q13n p0.containers)), (Q0 Q2k (Q8 p0.finished)), (Q0 Q2c (Qh p0.nominated)), (Q0 Q4f (Q8 p0.phase)), (Q0 Qp (Qz p0.ready)), (Q0 Q22 (Q8 p0.readySince)), (Q0 Q3c (Qh p0.reason)), (Q0 Q10 (Q8 p0.started))])) (by simp only [Q87, Fld.Qo, Fld.Qy]))] (by kernel_rfl)
def Q4j (p0 : List Taint) : List Taint → Nat → (List Val) → List Val
 | [], _i0, v0_1 =>
  v0_1
 | x0 :: r0, i0, v0_1 =>
  Q4j p0 r0 (i0 + 1) (v0_1 ++ [(Qt ([(Q0 Qv (Q8 x0.effect)), (Q0 Qx (Qh x0.key)), (Q0 Q16 (Q8 x0.since)), (Q0 Qn (Qh x0.value))]))])
theorem Qxr (p0 : List Taint) : ∀ (l : List Taint) (i : Nat) (a : List Val), Q4j p0 l i a = a ++ l.map (fun x0 => (Qt ([(Q0 Qv (Q8 x0.effect)), (Q0 Qx (Qh x0.key)), (Q0 Q16 (Q8 x0.since)), (Q0 Qn (Qh x0.value))])))
  | [], _, _ => by simp [Q4j]
  | x :: r, i, a => by rw [Q4j, Qxr p0 r]; simp
def Qvu (p0 : List Taint) (i0 : Nat) (v0_1 : List Val) : List PV :=
  [.sl (Taint.rows p0), .un, .bx 0 0, .ms 1 5 0 (List.length v0_1), .int .i64 (i0 : Int)] ++ nuns 41
def Qkj (_p0 : List Taint) (_i0 : Nat) (v0_1 : List Val) : List Ob :=
  [⟨5, 0, true, [.int .i64 0, .int .i64 0, .str (⟨#[]⟩ : ByteArray), .ms 2 5 0 0, .ms 3 6 0 0]⟩, ⟨5, 0, true, (Val.rows v0_1).flatten⟩, ⟨5, 0, true, []⟩, ⟨6, 0, true, []⟩]
def Qfd (p0 : List Taint) (i0 : Nat) (v0_1 : List Val) : En := .loop 0 Ir.Qjc Ir.Q1a4 (Qvu p0 i0 v0_1) (Qkj p0 i0 v0_1)
def Qly (_p0 : List Taint) (q0 : List Val) (z : Nat → PV) (_zo : Nat → List PV) : St :=
  ⟨[z 0, z 1, .bx 0 0, .ms 1 5 0 (List.length q0)] ++ zr z 4 42, [(0, ⟨5, 0, true, [.int .i64 0, .int .i64 0, .str (⟨#[]⟩ : ByteArray), .ms 2 5 0 0, .ms 3 6 0 0]⟩), (1, ⟨5, 0, true, (Val.rows q0).flatten⟩), (2, ⟨5, 0, true, []⟩), (3, ⟨6, 0, true, []⟩)], 260⟩
theorem Qze (p0 : List Taint) (i0 : Nat) (v0_1 : List Val) : VOK (Go.Pv.look (number 0 (Qkj p0 i0 v0_1))) [(1, Val.rows v0_1)] := (VOK.cons (show Seen _ _ from Q3j (ob := ⟨5, 0, true, (Val.rows v0_1).flatten⟩) (Val.Q7 v0_1 5 rfl)) VOK.nil)
def Qg7 (p0 : List Taint) (e : En) (q : List Val) : Prop := ∃ z zo, Q6 G e (.st (.exit 0) (Qly p0 q z zo))
theorem Qrr (p0 : List Taint) {e e' : En} (h : ∀ r, Q6 G e r → Q6 G e' r) : ∀ q, Qg7 p0 e q → Qg7 p0 e' q
  | _, ⟨z, zo, hz⟩ => ⟨z, zo, h _ hz⟩
def Qfq (p0 : List Taint) : Prop := (List.length p0 ≤ 137438953472) ∧ True
def Qns (p0 : List Taint) (i0 : Nat) (_v0_1 : List Val) : List PV :=
  [.sl (Taint.rows p0), .un, .un, .un, .int .i64 (i0 : Int), .int .i64 (i0 : Int), .sl (Taint.rows p0), .int .i64 ((List.length p0) : Int), .bool false]
def Qj1 (_p0 : List Taint) (_i0 : Nat) (_v0_1 : List Val) : List (Nat × List PV) :=
  []
theorem Q141 (p0 : List Taint) (_H : Qfq p0) (i0 : Nat) (v0_1 : List Val) (_ho0_0 : List.length v0_1 ≤ i0) (hc0 : (decide ((i0 : Int) < ((List.length p0) : Int))) = false) : Qg7 p0 (Qfd p0 i0 v0_1) v0_1 := by
 exact ⟨(envF (Qns p0 i0 v0_1)), (zoF (Qj1 p0 i0 v0_1)), Qg (Qze p0 i0 v0_1) (x := ((.exit 0), Qly p0 v0_1 (envF (Qns p0 i0 v0_1)) (zoF (Qj1 p0 i0 v0_1)))) [hP 2 (Qe (Taint.rows p0) (List.length p0) (Taint.Q5 p0)), hB 0 hc0] [] (by kernel_rfl)⟩
theorem Q139 (p0 : List Taint) (H : Qfq p0) (x0 : Taint) (i0 : Nat) (v0_1 : List Val) (hx0 : p0[i0]? = some x0) (hi0 : i0 < List.length p0) (ho0_0 : List.length v0_1 ≤ i0) (hc0 : (decide ((i0 : Int) < ((List.length p0) : Int))) = true) {r : Rs} (hr : Q6 G (Qfd p0 (i0 + 1) (v0_1 ++ [(Qt ([(Q0 Qv (Q8 x0.effect)), (Q0 Qx (Qh x0.key)), (Q0 Q16 (Q8 x0.since)), (Q0 Qn (Qh x0.value))]))])) r) : Q6 G (Qfd p0 i0 v0_1) r := by
 have hB0 := H.1
 exact Qk (Qze p0 i0 v0_1) (y := (Qvu p0 (i0 + 1) (v0_1 ++ [(Qt ([(Q0 Qv (Q8 x0.effect)), (Q0 Qx (Qh x0.key)), (Q0 Q16 (Q8 x0.since)), (Q0 Qn (Qh x0.value))]))]), Qkj p0 (i0 + 1) (v0_1 ++ [(Qt ([(Q0 Qv (Q8 x0.effect)), (Q0 Qx (Qh x0.key)), (Q0 Q16 (Q8 x0.since)), (Q0 Qn (Qh x0.value))]))]))) [hP 2 (Qe (Taint.rows p0) (List.length p0) (Taint.Q5 p0)), hB 0 hc0, hP 3 (Q1f 4 (Taint.rows p0) i0 _ (Taint.Qa hx0) rfl), hP 6 (Q1f 4 (Taint.rows p0) i0 _ (Taint.Qa hx0) rfl), hP 6 (Q1f 4 (Taint.rows p0) i0 _ (Taint.Qa hx0) rfl), hP 6 (Q1f 4 (Taint.rows p0) i0 _ (Taint.Qa hx0) rfl), hV 7 [(2308, Val.rows (v0_1 ++ [(Qt ([(Q0 Qv (Q8 x0.effect)), (Q0 Qx (Qh x0.key)), (Q0 Q16 (Q8 x0.since)), (Q0 Qn (Qh x0.value))]))]))] (Q5h 1 2244 2308 5 80 0 0 true (Val.rows v0_1) (Val.rows (v0_1 ++ [(Qt ([(Q0 Qv (Q8 x0.effect)), (Q0 Qx (Qh x0.key)), (Q0 Q16 (Q8 x0.since)), (Q0 Qn (Qh x0.value))]))])) (Val.cells (Qt ([(Q0 Qv (Q8 x0.effect)), (Q0 Qx (Qh x0.key)), (Q0 Q16 (Q8 x0.since)), (Q0 Qn (Qh x0.value))]))) (List.length v0_1) (List.length (v0_1 ++ [(Qt ([(Q0 Qv (Q8 x0.effect)), (Q0 Qx (Qh x0.key)), (Q0 Q16 (Q8 x0.since)), (Q0 Qn (Qh x0.value))]))])) rfl (Val.Q5 v0_1).symm (Val.Q5 (v0_1 ++ [(Qt ([(Q0 Qv (Q8 x0.effect)), (Q0 Qx (Qh x0.key)), (Q0 Q16 (Q8 x0.since)), (Q0 Qn (Qh x0.value))]))])).symm (Val.Q15 v0_1 (Qt ([(Q0 Qv (Q8 x0.effect)), (Q0 Qx (Qh x0.key)), (Q0 Q16 (Q8 x0.since)), (Q0 Qn (Qh x0.value))]))) (Val.Qi v0_1) rfl (by omega)), hS 0 true (Val.Q7 (v0_1 ++ [(Qt ([(Q0 Qv (Q8 x0.effect)), (Q0 Qx (Qh x0.key)), (Q0 Q16 (Q8 x0.since)), (Q0 Qn (Qh x0.value))]))]) 5 rfl), hP 2 (Q1y i0 (by omega))] [aN (Q4p x0.effect), aN (Q1q Qv (Q8 x0.effect)), aN (Q8r x0.key), aN (Q1q Qx (Qh x0.key)), aN (Q4p x0.since), aN (Q1q Q16 (Q8 x0.since)), aN (Q8r x0.value), aN (Q1q Qn (Qh x0.value)), aN (Q3v (e' := .call 70 [.sl [(Fld.cells (Q0 Qv (Q8 x0.effect))), (Fld.cells (Q0 Qx (Qh x0.key))), (Fld.cells (Q0 Q16 (Q8 x0.since))), (Fld.cells (Q0 Qn (Qh x0.value)))]] []) (Q8b ([(Q0 Qv (Q8 x0.effect)), (Q0 Qx (Qh x0.key)), (Q0 Q16 (Q8 x0.since)), (Q0 Qn (Qh x0.value))])) (by simp only [Q87, Fld.Qo, Fld.Qy]))] (by kernel_rfl) hr
theorem Qs4 (p0 : List Taint) (H : Qfq p0) : ∀ (r0 : List Taint) (i0 : Nat) (v0_1 : List Val), List.drop i0 p0 = r0 → List.length v0_1 ≤ i0 → Qg7 p0 (Qfd p0 i0 v0_1) (Q4j p0 r0 i0 v0_1)
 | [], i0, v0_1, hd, ho0_0 => by
  have hc0 : (decide ((i0 : Int) < ((List.length p0) : Int))) = false := by have := Q1b hd; simp; omega
  rw [Q4j]
  exact Q141 p0 H i0 v0_1 ho0_0 hc0
 | x0 :: r0, i0, v0_1, hd, ho0_0 => by
  obtain ⟨hx0, hi0, hd'⟩ := Q14 hd
  have hc0 : (decide ((i0 : Int) < ((List.length p0) : Int))) = true := by simp; omega
  rw [Q4j]
  exact Qrr p0 (fun r hr => Q139 p0 H x0 i0 v0_1 hx0 hi0 ho0_0 hc0 hr) _ (Qs4 p0 H r0 (i0 + 1) (v0_1 ++ [(Qt ([(Q0 Qv (Q8 x0.effect)), (Q0 Qx (Qh x0.key)), (Q0 Q16 (Q8 x0.since)), (Q0 Qn (Qh x0.value))]))]) hd' (by first | omega | (simp; omega)))
def Q115 (p0 : List Taint) : Val := vL (p0.map Taint.enc)
theorem Q1lc (p0 : List Taint) : Q115 p0 = ((Qaq (Q4j p0 p0 0 []))) := by
  rw [Qxr]
  rfl
def Q1j6 (p0 : List Taint) : En := .call 75 [.sl (Taint.rows p0)] []
def Q1d8 (p0 : List Taint) : Rs := .ret (.agg (Val.cells (Q115 p0))) []
def Q1cu (p0 : List Taint) : Prop := LSm Taint.sm p0
theorem Q18n (p0 : List Taint) (H : Q1cu p0) : (Qfq p0) ∧ True := by
  exact ⟨⟨Nat.le_trans H.1 (Nat.le_of_ble_eq_true rfl), trivial⟩, trivial⟩
theorem Q1gp (p0 : List Taint) (H : Q1cu p0) : Q6 G (Q1j6 p0) (Q1d8 p0) := by
 unfold Q1d8
 rw [Q1lc]
 have hl0 := Qs4 p0 ((Q18n p0 H).1) p0 0 [] (by simp) (by simp)
 obtain ⟨z0, zo0, hl0⟩ := hl0
 exact Qb (fn := Ir.K37) rfl VOK.nil [hS 0 true (Val.Q7 (Q4j p0 p0 0 []) 5 rfl), hQ (Val.Q5 (Q4j p0 p0 0 [])).symm] [aV [(1, Val.rows (Q4j p0 p0 0 []))] hl0, aN (Qdo (Q4j p0 p0 0 []))] (by kernel_rfl)
def Q4h (p0 : List Image) : List Image → Nat → (List Val) → List Val
 | [], _i0, v0_1 =>
  v0_1
 | x0 :: r0, i0, v0_1 =>
  Q4h p0 r0 (i0 + 1) (v0_1 ++ [(Qt ([(Q0 Qw (Qh x0.name)), (Q0 Q2q (Q8 x0.size)), (Q0 Q2r (Q8 x0.used))]))])
theorem Qzh (p0 : List Image) : ∀ (l : List Image) (i : Nat) (a : List Val), Q4h p0 l i a = a ++ l.map (fun x0 => (Qt ([(Q0 Qw (Qh x0.name)), (Q0 Q2q (Q8 x0.size)), (Q0 Q2r (Q8 x0.used))])))
  | [], _, _ => by simp [Q4h]
  | x :: r, i, a => by rw [Q4h, Qzh p0 r]; simp
def Qsf (p0 : List Image) (i0 : Nat) (v0_1 : List Val) : List PV :=
  [.sl (Image.rows p0), .un, .bx 0 0, .ms 1 5 0 (List.length v0_1), .int .i64 (i0 : Int)] ++ nuns 34
def Ql3 (_p0 : List Image) (_i0 : Nat) (v0_1 : List Val) : List Ob :=
  [⟨5, 0, true, [.int .i64 0, .int .i64 0, .str (⟨#[]⟩ : ByteArray), .ms 2 5 0 0, .ms 3 6 0 0]⟩, ⟨5, 0, true, (Val.rows v0_1).flatten⟩, ⟨5, 0, true, []⟩, ⟨6, 0, true, []⟩]
def Qed (p0 : List Image) (i0 : Nat) (v0_1 : List Val) : En := .loop 0 Ir.Qi8 Ir.Q1aj (Qsf p0 i0 v0_1) (Ql3 p0 i0 v0_1)
def Qn2 (_p0 : List Image) (q0 : List Val) (z : Nat → PV) (_zo : Nat → List PV) : St :=
  ⟨[z 0, z 1, .bx 0 0, .ms 1 5 0 (List.length q0)] ++ zr z 4 35, [(0, ⟨5, 0, true, [.int .i64 0, .int .i64 0, .str (⟨#[]⟩ : ByteArray), .ms 2 5 0 0, .ms 3 6 0 0]⟩), (1, ⟨5, 0, true, (Val.rows q0).flatten⟩), (2, ⟨5, 0, true, []⟩), (3, ⟨6, 0, true, []⟩)], 260⟩
theorem Qz3 (p0 : List Image) (i0 : Nat) (v0_1 : List Val) : VOK (Go.Pv.look (number 0 (Ql3 p0 i0 v0_1))) [(1, Val.rows v0_1)] := (VOK.cons (show Seen _ _ from Q3j (ob := ⟨5, 0, true, (Val.rows v0_1).flatten⟩) (Val.Q7 v0_1 5 rfl)) VOK.nil)
def Qfp (p0 : List Image) (e : En) (q : List Val) : Prop := ∃ z zo, Q6 G e (.st (.exit 0) (Qn2 p0 q z zo))
theorem Qrq (p0 : List Image) {e e' : En} (h : ∀ r, Q6 G e r → Q6 G e' r) : ∀ q, Qfp p0 e q → Qfp p0 e' q
  | _, ⟨z, zo, hz⟩ => ⟨z, zo, h _ hz⟩
def Qel (p0 : List Image) : Prop := (List.length p0 ≤ 137438953472) ∧ True
def Qol (p0 : List Image) (i0 : Nat) (_v0_1 : List Val) : List PV :=
  [.sl (Image.rows p0), .un, .un, .un, .int .i64 (i0 : Int), .int .i64 (i0 : Int), .sl (Image.rows p0), .int .i64 ((List.length p0) : Int), .bool false]
def Qiv (_p0 : List Image) (_i0 : Nat) (_v0_1 : List Val) : List (Nat × List PV) :=
  []
theorem Q121 (p0 : List Image) (_H : Qel p0) (i0 : Nat) (v0_1 : List Val) (_ho0_0 : List.length v0_1 ≤ i0) (hc0 : (decide ((i0 : Int) < ((List.length p0) : Int))) = false) : Qfp p0 (Qed p0 i0 v0_1) v0_1 := by
 exact ⟨(envF (Qol p0 i0 v0_1)), (zoF (Qiv p0 i0 v0_1)), Qg (Qz3 p0 i0 v0_1) (x := ((.exit 0), Qn2 p0 v0_1 (envF (Qol p0 i0 v0_1)) (zoF (Qiv p0 i0 v0_1)))) [hP 2 (Qe (Image.rows p0) (List.length p0) (Image.Q5 p0)), hB 0 hc0] [] (by kernel_rfl)⟩
theorem Q14r (p0 : List Image) (H : Qel p0) (x0 : Image) (i0 : Nat) (v0_1 : List Val) (hx0 : p0[i0]? = some x0) (hi0 : i0 < List.length p0) (ho0_0 : List.length v0_1 ≤ i0) (hc0 : (decide ((i0 : Int) < ((List.length p0) : Int))) = true) {r : Rs} (hr : Q6 G (Qed p0 (i0 + 1) (v0_1 ++ [(Qt ([(Q0 Qw (Qh x0.name)), (Q0 Q2q (Q8 x0.size)), (Q0 Q2r (Q8 x0.used))]))])) r) : Q6 G (Qed p0 i0 v0_1) r := by
 have hB0 := H.1
 exact Qk (Qz3 p0 i0 v0_1) (y := (Qsf p0 (i0 + 1) (v0_1 ++ [(Qt ([(Q0 Qw (Qh x0.name)), (Q0 Q2q (Q8 x0.size)), (Q0 Q2r (Q8 x0.used))]))]), Ql3 p0 (i0 + 1) (v0_1 ++ [(Qt ([(Q0 Qw (Qh x0.name)), (Q0 Q2q (Q8 x0.size)), (Q0 Q2r (Q8 x0.used))]))]))) [hP 2 (Qe (Image.rows p0) (List.length p0) (Image.Q5 p0)), hB 0 hc0, hP 3 (Q1f 3 (Image.rows p0) i0 _ (Image.Qa hx0) rfl), hP 6 (Q1f 3 (Image.rows p0) i0 _ (Image.Qa hx0) rfl), hP 6 (Q1f 3 (Image.rows p0) i0 _ (Image.Qa hx0) rfl), hV 7 [(1860, Val.rows (v0_1 ++ [(Qt ([(Q0 Qw (Qh x0.name)), (Q0 Q2q (Q8 x0.size)), (Q0 Q2r (Q8 x0.used))]))]))] (Q5h 1 1796 1860 5 80 0 0 true (Val.rows v0_1) (Val.rows (v0_1 ++ [(Qt ([(Q0 Qw (Qh x0.name)), (Q0 Q2q (Q8 x0.size)), (Q0 Q2r (Q8 x0.used))]))])) (Val.cells (Qt ([(Q0 Qw (Qh x0.name)), (Q0 Q2q (Q8 x0.size)), (Q0 Q2r (Q8 x0.used))]))) (List.length v0_1) (List.length (v0_1 ++ [(Qt ([(Q0 Qw (Qh x0.name)), (Q0 Q2q (Q8 x0.size)), (Q0 Q2r (Q8 x0.used))]))])) rfl (Val.Q5 v0_1).symm (Val.Q5 (v0_1 ++ [(Qt ([(Q0 Qw (Qh x0.name)), (Q0 Q2q (Q8 x0.size)), (Q0 Q2r (Q8 x0.used))]))])).symm (Val.Q15 v0_1 (Qt ([(Q0 Qw (Qh x0.name)), (Q0 Q2q (Q8 x0.size)), (Q0 Q2r (Q8 x0.used))]))) (Val.Qi v0_1) rfl (by omega)), hS 0 true (Val.Q7 (v0_1 ++ [(Qt ([(Q0 Qw (Qh x0.name)), (Q0 Q2q (Q8 x0.size)), (Q0 Q2r (Q8 x0.used))]))]) 5 rfl), hP 2 (Q1y i0 (by omega))] [aN (Q8r x0.name), aN (Q1q Qw (Qh x0.name)), aN (Q4p x0.size), aN (Q1q Q2q (Q8 x0.size)), aN (Q4p x0.used), aN (Q1q Q2r (Q8 x0.used)), aN (Q3v (e' := .call 70 [.sl [(Fld.cells (Q0 Qw (Qh x0.name))), (Fld.cells (Q0 Q2q (Q8 x0.size))), (Fld.cells (Q0 Q2r (Q8 x0.used)))]] []) (Q8b ([(Q0 Qw (Qh x0.name)), (Q0 Q2q (Q8 x0.size)), (Q0 Q2r (Q8 x0.used))])) (by simp only [Q87, Fld.Qo, Fld.Qy]))] (by kernel_rfl) hr
theorem Qtu (p0 : List Image) (H : Qel p0) : ∀ (r0 : List Image) (i0 : Nat) (v0_1 : List Val), List.drop i0 p0 = r0 → List.length v0_1 ≤ i0 → Qfp p0 (Qed p0 i0 v0_1) (Q4h p0 r0 i0 v0_1)
 | [], i0, v0_1, hd, ho0_0 => by
  have hc0 : (decide ((i0 : Int) < ((List.length p0) : Int))) = false := by have := Q1b hd; simp; omega
  rw [Q4h]
  exact Q121 p0 H i0 v0_1 ho0_0 hc0
 | x0 :: r0, i0, v0_1, hd, ho0_0 => by
  obtain ⟨hx0, hi0, hd'⟩ := Q14 hd
  have hc0 : (decide ((i0 : Int) < ((List.length p0) : Int))) = true := by simp; omega
  rw [Q4h]
  exact Qrq p0 (fun r hr => Q14r p0 H x0 i0 v0_1 hx0 hi0 ho0_0 hc0 hr) _ (Qtu p0 H r0 (i0 + 1) (v0_1 ++ [(Qt ([(Q0 Qw (Qh x0.name)), (Q0 Q2q (Q8 x0.size)), (Q0 Q2r (Q8 x0.used))]))]) hd' (by first | omega | (simp; omega)))
def Q12k (p0 : List Image) : Val := vL (p0.map Image.enc)
theorem Q1ks (p0 : List Image) : Q12k p0 = ((Qaq (Q4h p0 p0 0 []))) := by
  rw [Qzh]
  rfl
def Q1iz (p0 : List Image) : En := .call 76 [.sl (Image.rows p0)] []
def Q1fx (p0 : List Image) : Rs := .ret (.agg (Val.cells (Q12k p0))) []
def Q1ch (p0 : List Image) : Prop := LSm Image.sm p0
theorem Q18a (p0 : List Image) (H : Q1ch p0) : (Qel p0) ∧ True := by
  exact ⟨⟨Nat.le_trans H.1 (Nat.le_of_ble_eq_true rfl), trivial⟩, trivial⟩
theorem Q1gw (p0 : List Image) (H : Q1ch p0) : Q6 G (Q1iz p0) (Q1fx p0) := by
 unfold Q1fx
 rw [Q1ks]
 have hl0 := Qtu p0 ((Q18a p0 H).1) p0 0 [] (by simp) (by simp)
 obtain ⟨z0, zo0, hl0⟩ := hl0
 exact Qb (fn := Ir.K2y) rfl VOK.nil [hS 0 true (Val.Q7 (Q4h p0 p0 0 []) 5 rfl), hQ (Val.Q5 (Q4h p0 p0 0 [])).symm] [aV [(1, Val.rows (Q4h p0 p0 0 []))] hl0, aN (Qdo (Q4h p0 p0 0 []))] (by kernel_rfl)
end Go.Proofs.YtiflaadeikaghaaGreat
end

