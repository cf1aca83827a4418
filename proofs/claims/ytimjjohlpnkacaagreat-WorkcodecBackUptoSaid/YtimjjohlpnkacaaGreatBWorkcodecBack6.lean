/- Texts of the claim, merged by a program; what the statement does not reach is left out. -/
import Derived.Test.YtimjjohlpnkacaaGreatBWorkcodecBack5

section
/- What the program's encoders compute (printed by a program). -/
namespace Go.Proofs.YtimjjohlpnkacaaGreat
open Go.Pv
def Qyi (p0 : BA) (p1 : bJ) (p2 : Val) (p3 : Val) : aW :=
 (aW.mk (bJ.mk p0 p1.bK p1.name p1.gM p1.dA p1.bR p1.dz p1.dh p1.cZ p1.bH p1.bT p1.bF p1.aZ) p2 p3)
def Q29d (p0 : BA) (p1 : bJ) (p2 : Val) (p3 : Val) : En := .call 85 [.str p0, .agg (bJ.cells p1), .agg (Val.cells p2), .agg (Val.cells p3)] []
def Q1ze (p0 : BA) (p1 : bJ) (p2 : Val) (p3 : Val) : Rs := .ret (.agg (aW.cells (Qyi p0 p1 p2 p3))) []
def Q1gu (_p0 : BA) (p1 : bJ) (_p2 : Val) (_p3 : Val) : Prop := (Qcb p1) ∧ True
theorem Q1o1 (p0 : BA) (p1 : bJ) (p2 : Val) (p3 : Val) (H : Q1gu p0 p1 p2 p3) : Q0 G (Q29d p0 p1 p2 p3) (Q1ze p0 p1 p2 p3) := by
 unfold Q1ze Qyi
 exact Q5 (fn := Ir.K76) (by kernel_rfl) VOK.nil [] [aN (Q1ki p1 H.1)] (by kernel_rfl)
theorem Q206 {k : ByteArray} {m : bJ} {a b p q : List Fld} (ha : a.length ≤ 20) (hb : b.length ≤ 20) (h1 : mapOf a = p) (h2 : mapOf b = q) : Qyi k m (Q4n a) (Q4n b) = ⟨{ m with kind := k }, vM p, vM q⟩ := by
  rw [Qag ha h1, Qag hb h2]
  rfl
theorem Q1pr {k : ByteArray} {m : bJ} {a p : List Fld} {t : Val} (ha : a.length ≤ 20) (h1 : mapOf a = p) : Qyi k m (Q4n a) t = ⟨{ m with kind := k }, vM p, t⟩ := by
  rw [Qag ha h1]
  rfl
theorem Q207 {k : ByteArray} {m : bJ} {b q : List Fld} {t : Val} (hb : b.length ≤ 20) (h2 : mapOf b = q) : Qyi k m t (Q4n b) = ⟨{ m with kind := k }, t, vM q⟩ := by
  rw [Qag hb h2]
  rfl
def Q48 (p0 : BA) (p1 : Val) : Fld := .mk p0 p1
theorem Q2bv (p0 : BA) (p1 : Val) : Q48 p0 p1 = ((Fld.mk p0 p1)) := by
  rfl
def Q29f (p0 : BA) (p1 : Val) : En := .call 83 [.str p0, .agg (Val.cells p1)] []
def Q1zg (p0 : BA) (p1 : Val) : Rs := .ret (.agg (Fld.cells (Q48 p0 p1))) []
theorem Qgd (p0 : BA) (p1 : Val) : Q0 G (Q29f p0 p1) (Q1zg p0 p1) := by
 unfold Q1zg
 rw [Q2bv]
 exact Q5 (fn := Ir.K78) (by kernel_rfl) VOK.nil [] [] (by kernel_rfl)
def Q12 (p0 : BA) (p1 : Int) : Fld := .mk p0 (vN p1)
theorem Q2bt (p0 : BA) (p1 : Int) : Q12 p0 p1 = ((Q48 p0 (Q2b p1))) := by
  rfl
def Q29c (p0 : BA) (p1 : Int) : En := .call 79 [.str p0, iN p1] []
def Q1zd (p0 : BA) (p1 : Int) : Rs := .ret (.agg (Fld.cells (Q12 p0 p1))) []
theorem Q5p (p0 : BA) (p1 : Int) : Q0 G (Q29c p0 p1) (Q1zd p0 p1) := by
 unfold Q1zd
 rw [Q2bt]
 exact Q5 (fn := Ir.K75) (by kernel_rfl) VOK.nil [] [aN (Qap p1), aN (Qgd p0 (Q2b p1))] (by kernel_rfl)
def Qpe (p0 : BA) (p1 : BA) : Fld := .mk p0 (vS p1)
theorem Q2bx (p0 : BA) (p1 : BA) : Qpe p0 p1 = ((Q48 p0 (Q3b p1))) := by
  rfl
def Q29l (p0 : BA) (p1 : BA) : En := .call 95 [.str p0, .str p1] []
def Q1zm (p0 : BA) (p1 : BA) : Rs := .ret (.agg (Fld.cells (Qpe p0 p1))) []
theorem Q217 (p0 : BA) (p1 : BA) : Q0 G (Q29l p0 p1) (Q1zm p0 p1) := by
 unfold Q1zm
 rw [Q2bx]
 exact Q5 (fn := Ir.K7m) (by kernel_rfl) VOK.nil [] [aN (Qfj p1), aN (Qgd p0 (Q3b p1))] (by kernel_rfl)
def Q6m (p0 : List ByteArray) : List ByteArray → Nat → (List Val) → List Val
 | [], _i0, ah =>
  ah
 | x0 :: r0, i0, ah =>
  Q6m p0 r0 (i0 + 1) (ah ++ [(Q3b x0)])
theorem Q191 (p0 : List ByteArray) : ∀ (l : List ByteArray) (i : Nat) (a : List Val), Q6m p0 l i a = a ++ l.map (fun x0 => (Q3b x0))
  | [], _, _ => by simp [Q6m]
  | x :: r, i, a => by rw [Q6m, Q191 p0 r]; simp
def Q1ga (p0 : List ByteArray) (i0 : Nat) (ah : List Val) : List PV :=
  [.un, .fn 193 [] [], .un, .un, .bx 0 0, .ms 1 5 0 (List.length ah), .un, .un, .sl (Q18 p0), iN ((List.length p0) : Int), iN (i0 : Int)] ++ nuns 12
def Qzx (_p0 : List ByteArray) (_i0 : Nat) (ah : List Val) : List Ob :=
  [⟨5, 0, true, [iN 0, iN 0, .str eB, .ms 2 5 0 0, .ms 3 6 0 0]⟩, ⟨5, 0, true, (Val.rows ah).flatten⟩, ⟨5, 0, true, []⟩, ⟨6, 0, true, []⟩]
def Qhk (p0 : List ByteArray) (i0 : Nat) (ah : List Val) : En := .loop 0 Ir.Qlm Ir.Q1pk (Q1ga p0 i0 ah) (Qzx p0 i0 ah)
def Qrx (_p0 : List ByteArray) (q0 : List Val) (z : Nat → PV) (_zo : Nat → List PV) : St :=
  ⟨[z 0, z 1, z 2, z 3, .bx 0 0, .ms 1 5 0 (List.length q0)] ++ zr z 6 17, [(0, ⟨5, 0, true, [iN 0, iN 0, .str eB, .ms 2 5 0 0, .ms 3 6 0 0]⟩), (1, ⟨5, 0, true, (Val.rows q0).flatten⟩), (2, ⟨5, 0, true, []⟩), (3, ⟨6, 0, true, []⟩)], 68⟩
theorem Q16t (p0 : List ByteArray) (i0 : Nat) (ah : List Val) : VOK (Go.Pv.look (number 0 (Qzx p0 i0 ah))) [(1, Val.rows ah)] := (VOK.cons (show Seen _ _ from Q3o (ob := ⟨5, 0, true, (Val.rows ah).flatten⟩) (Val.Q7 ah 5 rfl)) VOK.nil)
def Qjh (p0 : List ByteArray) (e : En) (q : List Val) : Prop := ∃ z zo, Q0 G e (.st (.exit 0) (Qrx p0 q z zo))
theorem Qwr (p0 : List ByteArray) {e e' : En} (h : ∀ r, Q0 G e r → Q0 G e' r) : ∀ q, Qjh p0 e q → Qjh p0 e' q
  | _, ⟨z, zo, hz⟩ => ⟨z, zo, h _ hz⟩
def Qih (p0 : List ByteArray) : Prop := (List.length p0 ≤ 137438953472) ∧ True
def Qts (p0 : List ByteArray) (i0 : Nat) (_ah : List Val) : List PV :=
  [.un, .fn 193 [] []] ++ nuns 6 ++ [.sl (Q18 p0), iN ((List.length p0) : Int), iN (i0 : Int), .bool false]
def Qni (_p0 : List ByteArray) (_i0 : Nat) (_ah : List Val) : List (Nat × List PV) :=
  []
theorem Q1eu (p0 : List ByteArray) (_H : Qih p0) (i0 : Nat) (ah : List Val) (_aT : List.length ah ≤ i0) (bG : (decide ((i0 : Int) < ((List.length p0) : Int))) = false) : Qjh p0 (Qhk p0 i0 ah) ah := by
 exact ⟨(envF (Qts p0 i0 ah)), (zoF (Qni p0 i0 ah)), Qd (Q16t p0 i0 ah) (x := ((.exit 0), Qrx p0 ah (envF (Qts p0 i0 ah)) (zoF (Qni p0 i0 ah)))) [hB 0 bG] [] (by kernel_rfl)⟩
theorem Q1c5 (p0 : List ByteArray) (H : Qih p0) (x0 : BA) (i0 : Nat) (ah : List Val) (bU : p0[i0]? = some x0) (dG : i0 < List.length p0) (aT : List.length ah ≤ i0) (bG : (decide ((i0 : Int) < ((List.length p0) : Int))) = true) {r : Rs} (hr : Q0 G (Qhk p0 (i0 + 1) (ah ++ [(Q3b x0)])) r) : Q0 G (Qhk p0 i0 ah) r := by
 have hB0 := H.1
 exact Qc (Q16t p0 i0 ah) [hB 0 bG, hP 0 (Q2q 1 _ i0 _ (Q9k bU) rfl), hA 7 1 516 580 5 80 0 0 true Val.Q8 Val.Q1g ah (Q3b x0) (Val.Qh ah) rfl rfl (by omega), hS 0 true (Val.Q7 (ah ++ [(Q3b x0)]) 5 rfl), hP 1 (Q26 i0 (by omega))] [aN (Qfj x0)] hr (by kernel_rfl)
theorem Q12t (p0 : List ByteArray) (H : Qih p0) : ∀ (r0 : List ByteArray) (i0 : Nat) (ah : List Val), List.drop i0 p0 = r0 → List.length ah ≤ i0 → Qjh p0 (Qhk p0 i0 ah) (Q6m p0 r0 i0 ah)
 | [], i0, ah, hd, aT => by
  have bG : (decide ((i0 : Int) < ((List.length p0) : Int))) = false := by have := Q1c hd; simp; omega
  rw [Q6m]
  exact Q1eu p0 H i0 ah aT bG
 | x0 :: r0, i0, ah, hd, aT => by
  obtain ⟨bU, dG, hd'⟩ := Q19 hd
  have bG : (decide ((i0 : Int) < ((List.length p0) : Int))) = true := by simp; omega
  rw [Q6m]
  exact Qwr p0 (fun r hr => Q1c5 p0 H x0 i0 ah bU dG aT bG hr) _ (Q12t p0 H r0 _ _ hd' (by first | omega | (simp; omega)))
def Q75 (p0 : List ByteArray) : Val := vL (p0.map vS)
theorem Q1ae (p0 : List ByteArray) : Q75 p0 = ((Val.mk 4 0 eB (Q6m p0 p0 0 []) [])) := by
  rw [Q191]
  rfl
def Q19y (p0 : List ByteArray) : En := .call 225 [.sl (Q18 p0), .fn 193 [] []] []
def Qu8 (p0 : List ByteArray) : Rs := .ret (.agg (Val.cells (Q75 p0))) []
def Qev (p0 : List ByteArray) : Prop := LSm (fun _ : ByteArray => True) p0
theorem Qxj (p0 : List ByteArray) (H : Qev p0) : (Qih p0) ∧ True := by
  exact ⟨⟨Nat.le_trans H.1 (Nat.le_of_ble_eq_true rfl), trivial⟩, trivial⟩
theorem Q1d3 (p0 : List ByteArray) (H : Qev p0) : Q0 G (Q19y p0) (Qu8 p0) := by
 unfold Qu8
 rw [Q1ae]
 have hl0 := Q12t p0 ((Qxj p0 H).1) p0 0 [] (by simp) (by simp)
 obtain ⟨z0, gq, hl0⟩ := hl0
 exact Q5 (fn := Ir.K73) (by kernel_rfl) VOK.nil [hP 3 (Qw _ _ (Q2s p0)), hS 0 true (Val.Q7 (Q6m p0 p0 0 []) 5 rfl), hQ (Val.Q8 (Q6m p0 p0 0 [])).symm] [aV [(1, Val.rows (Q6m p0 p0 0 []))] hl0] (by kernel_rfl)
def Q154 (p0 : aj) : Val := aj.enc p0
theorem Q2br (p0 : aj) : Q154 p0 = ((Q4n ([(Qpe Q13 p0.key), (Q12 Q5l p0.op), (Q48 Q1w (Q75 p0.dF))]))) := by
  exact Eq.symm (Qag (by exact Nat.le_of_ble_eq_true rfl) (by kernel_rfl))
def Q29a (p0 : aj) : En := .call 224 [.agg (aj.cells p0)] []
def Q1zb (p0 : aj) : Rs := .ret (.agg (Val.cells (Q154 p0))) []
def Q1ra (p0 : aj) : Prop := aj.sm p0
theorem Q17r (p0 : aj) (H : Q1ra p0) : (Qev p0.dF) ∧ (Q83 ([(Qpe Q13 p0.key), (Q12 Q5l p0.op), (Q48 Q1w (Q75 p0.dF))])) ∧ True := by
  exact ⟨(by first | exact True.intro | exact H | exact H.1), Q8p (by exact Nat.le_of_ble_eq_true rfl) (List.forall_mem_cons.2 ⟨Val.Sm.leaf _ _ _, List.forall_mem_cons.2 ⟨Val.Sm.leaf _ _ _, List.forall_mem_cons.2 ⟨Q2r (fun _ h => Val.Sm.leaf _ _ _) H.1, List.forall_mem_nil _⟩⟩⟩), trivial⟩
theorem Q2ed (p0 : aj) (H : Q1ra p0) : Q0 G (Q29a p0) (Q1zb p0) := by
 unfold Q1zb
 rw [Q2br]
 exact Q5 (fn := Ir.K6w) (by kernel_rfl) VOK.nil [] [aN (Q217 Q13 p0.key), aN (Q5p Q5l p0.op), aN (Q1d3 p0.dF (Q17r p0 H).1), aN (Qgd Q1w (Q75 p0.dF)), aN (Q4o (e' := .call 78 [.sl [(Fld.cells (Qpe Q13 p0.key)), (Fld.cells (Q12 Q5l p0.op)), (Fld.cells (Q48 Q1w (Q75 p0.dF)))]] []) (Q93 ([(Qpe Q13 p0.key), (Q12 Q5l p0.op), (Q48 Q1w (Q75 p0.dF))]) (Q17r p0 H).2.1) (by simp only [Q8c, Fld.Qm, Fld.Q11]))] (by kernel_rfl)
def Q6l (p0 : List aj) : List aj → Nat → (List Val) → List Val
 | [], _i0, ah =>
  ah
 | x0 :: r0, i0, ah =>
  Q6l p0 r0 (i0 + 1) (ah ++ [(Q154 x0)])
theorem Q190 (p0 : List aj) : ∀ (l : List aj) (i : Nat) (a : List Val), Q6l p0 l i a = a ++ l.map (fun x0 => (Q154 x0))
  | [], _, _ => by simp [Q6l]
  | x :: r, i, a => by rw [Q6l, Q190 p0 r]; simp
def Q1g9 (p0 : List aj) (i0 : Nat) (ah : List Val) : List PV :=
  [.un, .fn 224 [] [], .un, .un, .bx 0 0, .ms 1 5 0 (List.length ah), .un, .un, .sl (aj.rows p0), iN ((List.length p0) : Int), iN (i0 : Int)] ++ nuns 12
def Qzw (_p0 : List aj) (_i0 : Nat) (ah : List Val) : List Ob :=
  [⟨5, 0, true, [iN 0, iN 0, .str eB, .ms 2 5 0 0, .ms 3 6 0 0]⟩, ⟨5, 0, true, (Val.rows ah).flatten⟩, ⟨5, 0, true, []⟩, ⟨6, 0, true, []⟩]
def Qhj (p0 : List aj) (i0 : Nat) (ah : List Val) : En := .loop 0 Ir.Qll Ir.Q1pj (Q1g9 p0 i0 ah) (Qzw p0 i0 ah)
def Qrw (_p0 : List aj) (q0 : List Val) (z : Nat → PV) (_zo : Nat → List PV) : St :=
  ⟨[z 0, z 1, z 2, z 3, .bx 0 0, .ms 1 5 0 (List.length q0)] ++ zr z 6 17, [(0, ⟨5, 0, true, [iN 0, iN 0, .str eB, .ms 2 5 0 0, .ms 3 6 0 0]⟩), (1, ⟨5, 0, true, (Val.rows q0).flatten⟩), (2, ⟨5, 0, true, []⟩), (3, ⟨6, 0, true, []⟩)], 68⟩
theorem Q16s (p0 : List aj) (i0 : Nat) (ah : List Val) : VOK (Go.Pv.look (number 0 (Qzw p0 i0 ah))) [(1, Val.rows ah)] := (VOK.cons (show Seen _ _ from Q3o (ob := ⟨5, 0, true, (Val.rows ah).flatten⟩) (Val.Q7 ah 5 rfl)) VOK.nil)
def Qjg (p0 : List aj) (e : En) (q : List Val) : Prop := ∃ z zo, Q0 G e (.st (.exit 0) (Qrw p0 q z zo))
theorem Qwq (p0 : List aj) {e e' : En} (h : ∀ r, Q0 G e r → Q0 G e' r) : ∀ q, Qjg p0 e q → Qjg p0 e' q
  | _, ⟨z, zo, hz⟩ => ⟨z, zo, h _ hz⟩
def Qig (p0 : List aj) : Prop := (List.length p0 ≤ 137438953472) ∧ (∀ x0 ∈ p0, Q1ra x0) ∧ True
def Qtr (p0 : List aj) (i0 : Nat) (_ah : List Val) : List PV :=
  [.un, .fn 224 [] []] ++ nuns 6 ++ [.sl (aj.rows p0), iN ((List.length p0) : Int), iN (i0 : Int), .bool false]
def Qnh (_p0 : List aj) (_i0 : Nat) (_ah : List Val) : List (Nat × List PV) :=
  []
theorem Q1et (p0 : List aj) (_H : Qig p0) (i0 : Nat) (ah : List Val) (_aT : List.length ah ≤ i0) (bG : (decide ((i0 : Int) < ((List.length p0) : Int))) = false) : Qjg p0 (Qhj p0 i0 ah) ah := by
 exact ⟨(envF (Qtr p0 i0 ah)), (zoF (Qnh p0 i0 ah)), Qd (Q16s p0 i0 ah) (x := ((.exit 0), Qrw p0 ah (envF (Qtr p0 i0 ah)) (zoF (Qnh p0 i0 ah)))) [hB 0 bG] [] (by kernel_rfl)⟩
theorem Q1c4 (p0 : List aj) (H : Qig p0) (x0 : aj) (i0 : Nat) (ah : List Val) (bU : p0[i0]? = some x0) (dG : i0 < List.length p0) (aT : List.length ah ≤ i0) (bG : (decide ((i0 : Int) < ((List.length p0) : Int))) = true) {r : Rs} (hr : Q0 G (Qhj p0 (i0 + 1) (ah ++ [(Q154 x0)])) r) : Q0 G (Qhj p0 i0 ah) r := by
 have hB0 := H.1
 exact Qc (Q16s p0 i0 ah) [hB 0 bG, hP 0 (Q2q 3 _ i0 _ (aj.Qg bU) rfl), hA 8 1 580 644 5 80 0 0 true Val.Q8 Val.Q1g ah (Q154 x0) (Val.Qh ah) rfl rfl (by omega), hS 0 true (Val.Q7 (ah ++ [(Q154 x0)]) 5 rfl), hP 1 (Q26 i0 (by omega))] [aN (Q2ed x0 (H.2.1 x0 (Q2l bU)))] hr (by kernel_rfl)
theorem Q12s (p0 : List aj) (H : Qig p0) : ∀ (r0 : List aj) (i0 : Nat) (ah : List Val), List.drop i0 p0 = r0 → List.length ah ≤ i0 → Qjg p0 (Qhj p0 i0 ah) (Q6l p0 r0 i0 ah)
 | [], i0, ah, hd, aT => by
  have bG : (decide ((i0 : Int) < ((List.length p0) : Int))) = false := by have := Q1c hd; simp; omega
  rw [Q6l]
  exact Q1et p0 H i0 ah aT bG
 | x0 :: r0, i0, ah, hd, aT => by
  obtain ⟨bU, dG, hd'⟩ := Q19 hd
  have bG : (decide ((i0 : Int) < ((List.length p0) : Int))) = true := by simp; omega
  rw [Q6l]
  exact Qwq p0 (fun r hr => Q1c4 p0 H x0 i0 ah bU dG aT bG hr) _ (Q12s p0 H r0 _ _ hd' (by first | omega | (simp; omega)))
def Qfg (p0 : List aj) : Val := vL (p0.map aj.enc)
theorem Q1ad (p0 : List aj) : Qfg p0 = ((Val.mk 4 0 eB (Q6l p0 p0 0 []) [])) := by
  rw [Q190]
  rfl
def Q19x (p0 : List aj) : En := .call 223 [.sl (aj.rows p0), .fn 224 [] []] []
def Qu7 (p0 : List aj) : Rs := .ret (.agg (Val.cells (Qfg p0))) []
def Qeu (p0 : List aj) : Prop := LSm aj.sm p0
theorem Qxi (p0 : List aj) (H : Qeu p0) : (Qig p0) ∧ True := by
  exact ⟨⟨Nat.le_trans H.1 (Nat.le_of_ble_eq_true rfl), H.2, trivial⟩, trivial⟩
theorem Q1d2 (p0 : List aj) (H : Qeu p0) : Q0 G (Q19x p0) (Qu7 p0) := by
 unfold Qu7
 rw [Q1ad]
 have hl0 := Q12s p0 ((Qxi p0 H).1) p0 0 [] (by simp) (by simp)
 obtain ⟨z0, gq, hl0⟩ := hl0
 exact Q5 (fn := Ir.K72) (by kernel_rfl) VOK.nil [hP 3 (Qw _ _ (aj.Q8 p0)), hS 0 true (Val.Q7 (Q6l p0 p0 0 []) 5 rfl), hQ (Val.Q8 (Q6l p0 p0 0 [])).symm] [aV [(1, Val.rows (Q6l p0 p0 0 []))] hl0] (by kernel_rfl)
def Q1nw (p0 : List aj) : Val := vL (p0.map aj.enc)
theorem Q2bq (p0 : List aj) : Q1nw p0 = ((Qfg p0)) := by
  rfl
def Q299 (p0 : List aj) : En := .call 190 [.sl (aj.rows p0)] []
def Q1za (p0 : List aj) : Rs := .ret (.agg (Val.cells (Q1nw p0))) []
def Q1r9 (p0 : List aj) : Prop := LSm aj.sm p0
theorem Q1mw (p0 : List aj) (H : Q1r9 p0) : (Qeu p0) ∧ True := by
  repeat' with_reducible apply And.intro
  all_goals first | exact True.intro | exact H
theorem Q2ec (p0 : List aj) (H : Q1r9 p0) : Q0 G (Q299 p0) (Q1za p0) := by
 unfold Q1za
 rw [Q2bq]
 exact Q5 (fn := Ir.K6v) (by kernel_rfl) VOK.nil [] [aN (Q1d2 p0 (Q1mw p0 H).1)] (by kernel_rfl)
def Q9i (p0 : List aj) : Fld := .mk Q6 (vL (p0.map aj.enc))
theorem Q2bw (p0 : List aj) : Q9i p0 = ((Q48 Q6 (Q1nw p0))) := by
  rfl
def Q29k (p0 : List aj) : En := .call 80 [.sl (aj.rows p0)] []
def Q1zl (p0 : List aj) : Rs := .ret (.agg (Fld.cells (Q9i p0))) []
def Q1gv (p0 : List aj) : Prop := LSm aj.sm p0
theorem Q1my (p0 : List aj) (H : Q1gv p0) : (Q1r9 p0) ∧ True := by
  repeat' with_reducible apply And.intro
  all_goals first | exact True.intro | exact H
theorem Q1sc (p0 : List aj) (H : Q1gv p0) : Q0 G (Q29k p0) (Q1zl p0) := by
 unfold Q1zl
 rw [Q2bw]
 exact Q5 (fn := Ir.K7l) (by kernel_rfl) VOK.nil [] [aN (Q2ec p0 (Q1my p0 H).1), aN (Qgd Q6 (Q1nw p0))] (by kernel_rfl)
def Qao (p0 : aU) : Fld := .mk Qe (aU.enc p0)
theorem Q2by (p0 : aU) : Qao p0 = ((Q48 Qe (s_K9 p0))) := by
  rfl
def Q29m (p0 : aU) : En := .call 81 [.agg (aU.cells p0)] []
def Q1zn (p0 : aU) : Rs := .ret (.agg (Fld.cells (Qao p0))) []
def Q1gw (p0 : aU) : Prop := aU.sm p0
theorem Q1mz (p0 : aU) (H : Q1gw p0) : (H_K9 p0) ∧ True := by
  repeat' with_reducible apply And.intro
  all_goals first | exact True.intro | exact H
theorem Q1sd (p0 : aU) (H : Q1gw p0) : Q0 G (Q29m p0) (Q1zn p0) := by
 unfold Q1zn
 rw [Q2by]
 exact Q5 (fn := Ir.K7n) (by kernel_rfl) VOK.nil [] [aN (t_K9 p0 (Q1mz p0 H).1), aN (Qgd Qe (s_K9 p0))] (by kernel_rfl)
def Q63 (p0 : BA) (p1 : Bool) : Fld := .mk p0 (vB p1)
theorem Q2bz (p0 : BA) (p1 : Bool) : Q63 p0 p1 = ((Q48 p0 (Q6p p1))) := by
  rfl
def Q29n (p0 : BA) (p1 : Bool) : En := .call 82 [.str p0, .bool p1] []
def Q1zo (p0 : BA) (p1 : Bool) : Rs := .ret (.agg (Fld.cells (Q63 p0 p1))) []
theorem Q1d4 (p0 : BA) (p1 : Bool) : Q0 G (Q29n p0 p1) (Q1zo p0 p1) := by
 unfold Q1zo
 rw [Q2bz]
 exact Q5 (fn := Ir.K7o) (by kernel_rfl) VOK.nil [] [aN (Q1cy p1), aN (Qgd p0 (Q6p p1))] (by kernel_rfl)
def Q92 (p0 : aJ) : Val := aJ.enc p0
theorem Q2bo (p0 : aJ) : Q92 p0 = ((Q4n ([(Q63 Q32 p0.dQ), (Q12 kw_n p0.n)]))) := by
  exact Eq.symm (Qag (by exact Nat.le_of_ble_eq_true rfl) (by kernel_rfl))
def Q297 (p0 : aJ) : En := .call 84 [.agg (aJ.cells p0)] []
def Q1z8 (p0 : aJ) : Rs := .ret (.agg (Val.cells (Q92 p0))) []
def Q1gt (p0 : aJ) : Prop := aJ.sm p0
theorem Q1mv (p0 : aJ) (_H : Q1gt p0) : (Q83 ([(Q63 Q32 p0.dQ), (Q12 kw_n p0.n)])) ∧ True := by
  exact ⟨Q8p (by exact Nat.le_of_ble_eq_true rfl) (List.forall_mem_cons.2 ⟨Val.Sm.leaf _ _ _, List.forall_mem_cons.2 ⟨Val.Sm.leaf _ _ _, List.forall_mem_nil _⟩⟩), trivial⟩
theorem Q1sb (p0 : aJ) (H : Q1gt p0) : Q0 G (Q297 p0) (Q1z8 p0) := by
 unfold Q1z8
 rw [Q2bo]
 exact Q5 (fn := Ir.K6s) (by kernel_rfl) VOK.nil [] [aN (Q1d4 Q32 p0.dQ), aN (Q5p kw_n p0.n), aN (Q4o (e' := .call 78 [.sl [(Fld.cells (Q63 Q32 p0.dQ)), (Fld.cells (Q12 kw_n p0.n))]] []) (Q93 ([(Q63 Q32 p0.dQ), (Q12 kw_n p0.n)]) (Q1mv p0 H).1) (by simp only [Q8c, Fld.Qm, Fld.Q11]))] (by kernel_rfl)
def Q13b (p0 : aO) : Val := aO.enc p0
theorem Q2bs (p0 : aO) : Q13b p0 = ((Q4n ([(Q12 Ql p0.bV), (Q12 Qa p0.bD), (Q12 Q29 p0.dW), (Q12 Q1o p0.ready), (Q12 Q1x p0.dx), (Q12 Q2k p0.dJ), (Q63 Q1h p0.bA)]))) := by
  exact Eq.symm (Qag (by exact Nat.le_of_ble_eq_true rfl) (by kernel_rfl))
def Q29b (p0 : aO) : En := .call 86 [.agg (aO.cells p0)] []
def Q1zc (p0 : aO) : Rs := .ret (.agg (Val.cells (Q13b p0))) []
def Q1lm (p0 : aO) : Prop := aO.sm p0
theorem Q1mx (p0 : aO) (_H : Q1lm p0) : (Q83 ([(Q12 Ql p0.bV), (Q12 Qa p0.bD), (Q12 Q29 p0.dW), (Q12 Q1o p0.ready), (Q12 Q1x p0.dx), (Q12 Q2k p0.dJ), (Q63 Q1h p0.bA)])) ∧ True := by
  exact ⟨Q8p (by exact Nat.le_of_ble_eq_true rfl) (List.forall_mem_cons.2 ⟨Val.Sm.leaf _ _ _, List.forall_mem_cons.2 ⟨Val.Sm.leaf _ _ _, List.forall_mem_cons.2 ⟨Val.Sm.leaf _ _ _, List.forall_mem_cons.2 ⟨Val.Sm.leaf _ _ _, List.forall_mem_cons.2 ⟨Val.Sm.leaf _ _ _, List.forall_mem_cons.2 ⟨Val.Sm.leaf _ _ _, List.forall_mem_cons.2 ⟨Val.Sm.leaf _ _ _, List.forall_mem_nil _⟩⟩⟩⟩⟩⟩⟩), trivial⟩
theorem Q216 (p0 : aO) (H : Q1lm p0) : Q0 G (Q29b p0) (Q1zc p0) := by
 unfold Q1zc
 rw [Q2bs]
 exact Q5 (fn := Ir.K6x) (by kernel_rfl) VOK.nil [] [aN (Q5p Ql p0.bV), aN (Q5p Qa p0.bD), aN (Q5p Q29 p0.dW), aN (Q5p Q1o p0.ready), aN (Q5p Q1x p0.dx), aN (Q5p Q2k p0.dJ), aN (Q1d4 Q1h p0.bA), aN (Q4o (e' := .call 78 [.sl [(Fld.cells (Q12 Ql p0.bV)), (Fld.cells (Q12 Qa p0.bD)), (Fld.cells (Q12 Q29 p0.dW)), (Fld.cells (Q12 Q1o p0.ready)), (Fld.cells (Q12 Q1x p0.dx)), (Fld.cells (Q12 Q2k p0.dJ)), (Fld.cells (Q63 Q1h p0.bA))]] []) (Q93 ([(Q12 Ql p0.bV), (Q12 Qa p0.bD), (Q12 Q29 p0.dW), (Q12 Q1o p0.ready), (Q12 Q1x p0.dx), (Q12 Q2k p0.dJ), (Q63 Q1h p0.bA)]) (Q1mx p0 H).1) (by simp only [Q8c, Fld.Qm, Fld.Q11]))] (by kernel_rfl)
def Q1k1 (p0 : ay) : aW := ay.obj p0
theorem Q2av (p0 : ay) : Q1k1 p0 = ((Qyi Q1k p0.aG (Q4n ([(Q12 Qa p0.bD), (Q12 Qq p0.bS), (Q12 Q2g p0.eP), (Q12 Qk p0.bY), (Q9i p0.aR), (Qao p0.aP), (Q63 Q24 p0.dY), (Q63 Q2x p0.fG), (Q48 Q38 (Q92 p0.eZ)), (Q48 Q15 (Q92 p0.bO)), (Q12 Q40 p0.gN)])) (Q13b p0.aL))) := by
  exact Eq.symm (Q1pr (by exact Nat.le_of_ble_eq_true rfl) (by kernel_rfl))
def Q28e (p0 : ay) : En := .call 14 [.agg (ay.cells p0)] []
def Q1yf (p0 : ay) : Rs := .ret (.agg (aW.cells (Q1k1 p0))) []
def Q1ld (p0 : ay) : Prop := Qcb p0.aG ∧ ay.sm p0
theorem Qa8 (p0 : ay) (H : Q1ld p0) : (Q1gv p0.aR) ∧ (Q1gw p0.aP) ∧ (Q1gt p0.eZ) ∧ (Q1gt p0.bO) ∧ (Q83 ([(Q12 Qa p0.bD), (Q12 Qq p0.bS), (Q12 Q2g p0.eP), (Q12 Qk p0.bY), (Q9i p0.aR), (Qao p0.aP), (Q63 Q24 p0.dY), (Q63 Q2x p0.fG), (Q48 Q38 (Q92 p0.eZ)), (Q48 Q15 (Q92 p0.bO)), (Q12 Q40 p0.gN)])) ∧ (Q1lm p0.aL) ∧ (Q1gu Q1k p0.aG (Q4n ([(Q12 Qa p0.bD), (Q12 Qq p0.bS), (Q12 Q2g p0.eP), (Q12 Qk p0.bY), (Q9i p0.aR), (Qao p0.aP), (Q63 Q24 p0.dY), (Q63 Q2x p0.fG), (Q48 Q38 (Q92 p0.eZ)), (Q48 Q15 (Q92 p0.bO)), (Q12 Q40 p0.gN)])) (Q13b p0.aL)) ∧ True := by
  exact ⟨(by first | exact True.intro | exact H.1 | exact ⟨H.1, trivial⟩ | exact H.2 | exact H.2.1 | exact H.2.2.1 | exact H.2.2.2.1 | exact H.2.2.2.2.1 | exact H.2.2.2.2.2.1), (by first | exact True.intro | exact H.1 | exact ⟨H.1, trivial⟩ | exact H.2 | exact H.2.1 | exact H.2.2.1 | exact H.2.2.2.1 | exact H.2.2.2.2.1 | exact H.2.2.2.2.2.1), (by first | exact True.intro | exact H.1 | exact ⟨H.1, trivial⟩ | exact H.2 | exact H.2.1 | exact H.2.2.1 | exact H.2.2.2.1 | exact H.2.2.2.2.1 | exact H.2.2.2.2.2.1), (by first | exact True.intro | exact H.1 | exact ⟨H.1, trivial⟩ | exact H.2 | exact H.2.1 | exact H.2.2.1 | exact H.2.2.2.1 | exact H.2.2.2.2.1 | exact H.2.2.2.2.2.1), Q8p (by exact Nat.le_of_ble_eq_true rfl) (List.forall_mem_cons.2 ⟨Val.Sm.leaf _ _ _, List.forall_mem_cons.2 ⟨Val.Sm.leaf _ _ _, List.forall_mem_cons.2 ⟨Val.Sm.leaf _ _ _, List.forall_mem_cons.2 ⟨Val.Sm.leaf _ _ _, List.forall_mem_cons.2 ⟨Q2r (fun _ h => aj.Q1u h) H.2.1, List.forall_mem_cons.2 ⟨aU.Q1u H.2.2.1, List.forall_mem_cons.2 ⟨Val.Sm.leaf _ _ _, List.forall_mem_cons.2 ⟨Val.Sm.leaf _ _ _, List.forall_mem_cons.2 ⟨aJ.Q1u H.2.2.2.1, List.forall_mem_cons.2 ⟨aJ.Q1u H.2.2.2.2.1, List.forall_mem_cons.2 ⟨Val.Sm.leaf _ _ _, List.forall_mem_nil _⟩⟩⟩⟩⟩⟩⟩⟩⟩⟩⟩), (by first | exact True.intro | exact H.1 | exact ⟨H.1, trivial⟩ | exact H.2 | exact H.2.1 | exact H.2.2.1 | exact H.2.2.2.1 | exact H.2.2.2.2.1 | exact H.2.2.2.2.2.1), (by first | exact True.intro | exact H.1 | exact ⟨H.1, trivial⟩ | exact H.2 | exact H.2.1 | exact H.2.2.1 | exact H.2.2.2.1 | exact H.2.2.2.2.1 | exact H.2.2.2.2.2.1), trivial⟩
theorem Q2dt (p0 : ay) (H : Q1ld p0) : Q0 G (Q28e p0) (Q1yf p0) := by
 unfold Q1yf
 rw [Q2av]
 exact Q5 (fn := Ir.K5b) (by kernel_rfl) VOK.nil [] [aN (Q5p Qa p0.bD), aN (Q5p Qq p0.bS), aN (Q5p Q2g p0.eP), aN (Q5p Qk p0.bY), aN (Q1sc p0.aR (Qa8 p0 H).1), aN (Q1sd p0.aP (Qa8 p0 H).2.1), aN (Q1d4 Q24 p0.dY), aN (Q1d4 Q2x p0.fG), aN (Q1sb p0.eZ (Qa8 p0 H).2.2.1), aN (Qgd Q38 (Q92 p0.eZ)), aN (Q1sb p0.bO (Qa8 p0 H).2.2.2.1), aN (Qgd Q15 (Q92 p0.bO)), aN (Q5p Q40 p0.gN), aN (Q4o (e' := .call 78 [.sl [(Fld.cells (Q12 Qa p0.bD)), (Fld.cells (Q12 Qq p0.bS)), (Fld.cells (Q12 Q2g p0.eP)), (Fld.cells (Q12 Qk p0.bY)), (Fld.cells (Q9i p0.aR)), (Fld.cells (Qao p0.aP)), (Fld.cells (Q63 Q24 p0.dY)), (Fld.cells (Q63 Q2x p0.fG)), (Fld.cells (Q48 Q38 (Q92 p0.eZ))), (Fld.cells (Q48 Q15 (Q92 p0.bO))), (Fld.cells (Q12 Q40 p0.gN))]] []) (Q93 ([(Q12 Qa p0.bD), (Q12 Qq p0.bS), (Q12 Q2g p0.eP), (Q12 Qk p0.bY), (Q9i p0.aR), (Qao p0.aP), (Q63 Q24 p0.dY), (Q63 Q2x p0.fG), (Q48 Q38 (Q92 p0.eZ)), (Q48 Q15 (Q92 p0.bO)), (Q12 Q40 p0.gN)]) (Qa8 p0 H).2.2.2.2.1) (by simp only [Q8c, Fld.Qm, Fld.Q11])), aN (Q216 p0.aL (Qa8 p0 H).2.2.2.2.2.1), aN (Q1o1 Q1k p0.aG (Q4n ([(Q12 Qa p0.bD), (Q12 Qq p0.bS), (Q12 Q2g p0.eP), (Q12 Qk p0.bY), (Q9i p0.aR), (Qao p0.aP), (Q63 Q24 p0.dY), (Q63 Q2x p0.fG), (Q48 Q38 (Q92 p0.eZ)), (Q48 Q15 (Q92 p0.bO)), (Q12 Q40 p0.gN)])) (Q13b p0.aL) (Qa8 p0 H).2.2.2.2.2.2.1)] (by kernel_rfl)
def Q1k3 (p0 : aF) : aW := aF.obj p0
theorem Q2ax (p0 : aF) : Q1k3 p0 = ((Qyi Q1l p0.aG (Q4n ([(Q12 Qa p0.bD), (Q12 Qq p0.bS), (Q12 Q25 p0.dP), (Q9i p0.aR), (Qao p0.aP)])) (Q13b p0.aL))) := by
  exact Eq.symm (Q1pr (by exact Nat.le_of_ble_eq_true rfl) (by kernel_rfl))
def Q28g (p0 : aF) : En := .call 22 [.agg (aF.cells p0)] []
def Q1yh (p0 : aF) : Rs := .ret (.agg (aW.cells (Q1k3 p0))) []
def Q1lf (p0 : aF) : Prop := Qcb p0.aG ∧ aF.sm p0
theorem Qe3 (p0 : aF) (H : Q1lf p0) : (Q1gv p0.aR) ∧ (Q1gw p0.aP) ∧ (Q83 ([(Q12 Qa p0.bD), (Q12 Qq p0.bS), (Q12 Q25 p0.dP), (Q9i p0.aR), (Qao p0.aP)])) ∧ (Q1lm p0.aL) ∧ (Q1gu Q1l p0.aG (Q4n ([(Q12 Qa p0.bD), (Q12 Qq p0.bS), (Q12 Q25 p0.dP), (Q9i p0.aR), (Qao p0.aP)])) (Q13b p0.aL)) ∧ True := by
  exact ⟨(by first | exact True.intro | exact H.1 | exact ⟨H.1, trivial⟩ | exact H.2 | exact H.2.1 | exact H.2.2.1 | exact H.2.2.2.1), (by first | exact True.intro | exact H.1 | exact ⟨H.1, trivial⟩ | exact H.2 | exact H.2.1 | exact H.2.2.1 | exact H.2.2.2.1), Q8p (by exact Nat.le_of_ble_eq_true rfl) (List.forall_mem_cons.2 ⟨Val.Sm.leaf _ _ _, List.forall_mem_cons.2 ⟨Val.Sm.leaf _ _ _, List.forall_mem_cons.2 ⟨Val.Sm.leaf _ _ _, List.forall_mem_cons.2 ⟨Q2r (fun _ h => aj.Q1u h) H.2.1, List.forall_mem_cons.2 ⟨aU.Q1u H.2.2.1, List.forall_mem_nil _⟩⟩⟩⟩⟩), (by first | exact True.intro | exact H.1 | exact ⟨H.1, trivial⟩ | exact H.2 | exact H.2.1 | exact H.2.2.1 | exact H.2.2.2.1), (by first | exact True.intro | exact H.1 | exact ⟨H.1, trivial⟩ | exact H.2 | exact H.2.1 | exact H.2.2.1 | exact H.2.2.2.1), trivial⟩
theorem Q2dv (p0 : aF) (H : Q1lf p0) : Q0 G (Q28g p0) (Q1yh p0) := by
 unfold Q1yh
 rw [Q2ax]
 exact Q5 (fn := Ir.K5e) (by kernel_rfl) VOK.nil [] [aN (Q5p Qa p0.bD), aN (Q5p Qq p0.bS), aN (Q5p Q25 p0.dP), aN (Q1sc p0.aR (Qe3 p0 H).1), aN (Q1sd p0.aP (Qe3 p0 H).2.1), aN (Q4o (e' := .call 78 [.sl [(Fld.cells (Q12 Qa p0.bD)), (Fld.cells (Q12 Qq p0.bS)), (Fld.cells (Q12 Q25 p0.dP)), (Fld.cells (Q9i p0.aR)), (Fld.cells (Qao p0.aP))]] []) (Q93 ([(Q12 Qa p0.bD), (Q12 Qq p0.bS), (Q12 Q25 p0.dP), (Q9i p0.aR), (Qao p0.aP)]) (Qe3 p0 H).2.2.1) (by simp only [Q8c, Fld.Qm, Fld.Q11])), aN (Q216 p0.aL (Qe3 p0 H).2.2.2.1), aN (Q1o1 Q1l p0.aG (Q4n ([(Q12 Qa p0.bD), (Q12 Qq p0.bS), (Q12 Q25 p0.dP), (Q9i p0.aR), (Qao p0.aP)])) (Q13b p0.aL) (Qe3 p0 H).2.2.2.2.1)] (by kernel_rfl)
def Q6i (p0 : List Int) : List Int → Nat → (List Val) → List Val
 | [], _i0, ah =>
  ah
 | x0 :: r0, i0, ah =>
  Q6i p0 r0 (i0 + 1) (ah ++ [(Q2b x0)])
theorem Q18x (p0 : List Int) : ∀ (l : List Int) (i : Nat) (a : List Val), Q6i p0 l i a = a ++ l.map (fun x0 => (Q2b x0))
  | [], _, _ => by simp [Q6i]
  | x :: r, i, a => by rw [Q6i, Q18x p0 r]; simp
def Q1g6 (p0 : List Int) (i0 : Nat) (ah : List Val) : List PV :=
  [.un, .fn 109 [] [], .un, .un, .bx 0 0, .ms 1 5 0 (List.length ah), .un, .un, .sl (Q3m p0), iN ((List.length p0) : Int), iN (i0 : Int)] ++ nuns 12
def Qzt (_p0 : List Int) (_i0 : Nat) (ah : List Val) : List Ob :=
  [⟨5, 0, true, [iN 0, iN 0, .str eB, .ms 2 5 0 0, .ms 3 6 0 0]⟩, ⟨5, 0, true, (Val.rows ah).flatten⟩, ⟨5, 0, true, []⟩, ⟨6, 0, true, []⟩]
def Qhg (p0 : List Int) (i0 : Nat) (ah : List Val) : En := .loop 0 Ir.Qli Ir.Q1pg (Q1g6 p0 i0 ah) (Qzt p0 i0 ah)
def Qrt (_p0 : List Int) (q0 : List Val) (z : Nat → PV) (_zo : Nat → List PV) : St :=
  ⟨[z 0, z 1, z 2, z 3, .bx 0 0, .ms 1 5 0 (List.length q0)] ++ zr z 6 17, [(0, ⟨5, 0, true, [iN 0, iN 0, .str eB, .ms 2 5 0 0, .ms 3 6 0 0]⟩), (1, ⟨5, 0, true, (Val.rows q0).flatten⟩), (2, ⟨5, 0, true, []⟩), (3, ⟨6, 0, true, []⟩)], 68⟩
theorem Q16p (p0 : List Int) (i0 : Nat) (ah : List Val) : VOK (Go.Pv.look (number 0 (Qzt p0 i0 ah))) [(1, Val.rows ah)] := (VOK.cons (show Seen _ _ from Q3o (ob := ⟨5, 0, true, (Val.rows ah).flatten⟩) (Val.Q7 ah 5 rfl)) VOK.nil)
def Qjd (p0 : List Int) (e : En) (q : List Val) : Prop := ∃ z zo, Q0 G e (.st (.exit 0) (Qrt p0 q z zo))
theorem Qwn (p0 : List Int) {e e' : En} (h : ∀ r, Q0 G e r → Q0 G e' r) : ∀ q, Qjd p0 e q → Qjd p0 e' q
  | _, ⟨z, zo, hz⟩ => ⟨z, zo, h _ hz⟩
def Qid (p0 : List Int) : Prop := (List.length p0 ≤ 137438953472) ∧ True
def Qto (p0 : List Int) (i0 : Nat) (_ah : List Val) : List PV :=
  [.un, .fn 109 [] []] ++ nuns 6 ++ [.sl (Q3m p0), iN ((List.length p0) : Int), iN (i0 : Int), .bool false]
def Qne (_p0 : List Int) (_i0 : Nat) (_ah : List Val) : List (Nat × List PV) :=
  []
theorem Q1eq (p0 : List Int) (_H : Qid p0) (i0 : Nat) (ah : List Val) (_aT : List.length ah ≤ i0) (bG : (decide ((i0 : Int) < ((List.length p0) : Int))) = false) : Qjd p0 (Qhg p0 i0 ah) ah := by
 exact ⟨(envF (Qto p0 i0 ah)), (zoF (Qne p0 i0 ah)), Qd (Q16p p0 i0 ah) (x := ((.exit 0), Qrt p0 ah (envF (Qto p0 i0 ah)) (zoF (Qne p0 i0 ah)))) [hB 0 bG] [] (by kernel_rfl)⟩
theorem Q1c1 (p0 : List Int) (H : Qid p0) (x0 : Int) (i0 : Nat) (ah : List Val) (bU : p0[i0]? = some x0) (dG : i0 < List.length p0) (aT : List.length ah ≤ i0) (bG : (decide ((i0 : Int) < ((List.length p0) : Int))) = true) {r : Rs} (hr : Q0 G (Qhg p0 (i0 + 1) (ah ++ [(Q2b x0)])) r) : Q0 G (Qhg p0 i0 ah) r := by
 have hB0 := H.1
 exact Qc (Q16p p0 i0 ah) [hB 0 bG, hP 0 (Q2q 1 _ i0 _ (Qui bU) rfl), hA 7 1 516 580 5 80 0 0 true Val.Q8 Val.Q1g ah (Q2b x0) (Val.Qh ah) rfl rfl (by omega), hS 0 true (Val.Q7 (ah ++ [(Q2b x0)]) 5 rfl), hP 1 (Q26 i0 (by omega))] [aN (Qap x0)] hr (by kernel_rfl)
theorem Q12p (p0 : List Int) (H : Qid p0) : ∀ (r0 : List Int) (i0 : Nat) (ah : List Val), List.drop i0 p0 = r0 → List.length ah ≤ i0 → Qjd p0 (Qhg p0 i0 ah) (Q6i p0 r0 i0 ah)
 | [], i0, ah, hd, aT => by
  have bG : (decide ((i0 : Int) < ((List.length p0) : Int))) = false := by have := Q1c hd; simp; omega
  rw [Q6i]
  exact Q1eq p0 H i0 ah aT bG
 | x0 :: r0, i0, ah, hd, aT => by
  obtain ⟨bU, dG, hd'⟩ := Q19 hd
  have bG : (decide ((i0 : Int) < ((List.length p0) : Int))) = true := by simp; omega
  rw [Q6i]
  exact Qwn p0 (fun r hr => Q1c1 p0 H x0 i0 ah bU dG aT bG hr) _ (Q12p p0 H r0 _ _ hd' (by first | omega | (simp; omega)))
def Q5b (p0 : List Int) : Val := vL (p0.map vN)
theorem Q1ab (p0 : List Int) : Q5b p0 = ((Val.mk 4 0 eB (Q6i p0 p0 0 []) [])) := by
  rw [Q18x]
  rfl
def Q19v (p0 : List Int) : En := .call 108 [.sl (Q3m p0), .fn 109 [] []] []
def Qu5 (p0 : List Int) : Rs := .ret (.agg (Val.cells (Q5b p0))) []
def Qes (p0 : List Int) : Prop := LSm (fun _ : Int => True) p0
theorem Qxg (p0 : List Int) (H : Qes p0) : (Qid p0) ∧ True := by
  exact ⟨⟨Nat.le_trans H.1 (Nat.le_of_ble_eq_true rfl), trivial⟩, trivial⟩
theorem Q1d0 (p0 : List Int) (H : Qes p0) : Q0 G (Q19v p0) (Qu5 p0) := by
 unfold Qu5
 rw [Q1ab]
 have hl0 := Q12p p0 ((Qxg p0 H).1) p0 0 [] (by simp) (by simp)
 obtain ⟨z0, gq, hl0⟩ := hl0
 exact Q5 (fn := Ir.K6z) (by kernel_rfl) VOK.nil [hP 3 (Qw _ _ (Q6v p0)), hS 0 true (Val.Q7 (Q6i p0 p0 0 []) 5 rfl), hQ (Val.Q8 (Q6i p0 p0 0 [])).symm] [aV [(1, Val.rows (Q6i p0 p0 0 []))] hl0] (by kernel_rfl)
def Q1kc (p0 : bQ) : Val := JobS.enc p0
theorem Q2bp (p0 : bQ) : Q1kc p0 = ((Q4n ([(Q12 Qo p0.cB), (Q12 Qu p0.dn), (Q12 Q1q p0.eu), (Q12 Qk p0.bY), (Q63 Q21 p0.dZ), (Q63 Q1n p0.d9), (Qao p0.aP)]))) := by
  exact Eq.symm (Qag (by exact Nat.le_of_ble_eq_true rfl) (by kernel_rfl))
def Q298 (p0 : bQ) : En := .call 110 [.agg (bQ.cells p0)] []
def Q1z9 (p0 : bQ) : Rs := .ret (.agg (Val.cells (Q1kc p0))) []
def Q1r8 (p0 : bQ) : Prop := JobS.sm p0
theorem Q17q (p0 : bQ) (H : Q1r8 p0) : (Q1gw p0.aP) ∧ (Q83 ([(Q12 Qo p0.cB), (Q12 Qu p0.dn), (Q12 Q1q p0.eu), (Q12 Qk p0.bY), (Q63 Q21 p0.dZ), (Q63 Q1n p0.d9), (Qao p0.aP)])) ∧ True := by
  exact ⟨(by first | exact True.intro | exact H | exact H.1), Q8p (by exact Nat.le_of_ble_eq_true rfl) (List.forall_mem_cons.2 ⟨Val.Sm.leaf _ _ _, List.forall_mem_cons.2 ⟨Val.Sm.leaf _ _ _, List.forall_mem_cons.2 ⟨Val.Sm.leaf _ _ _, List.forall_mem_cons.2 ⟨Val.Sm.leaf _ _ _, List.forall_mem_cons.2 ⟨Val.Sm.leaf _ _ _, List.forall_mem_cons.2 ⟨Val.Sm.leaf _ _ _, List.forall_mem_cons.2 ⟨aU.Q1u H.1, List.forall_mem_nil _⟩⟩⟩⟩⟩⟩⟩), trivial⟩
theorem Q2eb (p0 : bQ) (H : Q1r8 p0) : Q0 G (Q298 p0) (Q1z9 p0) := by
 unfold Q1z9
 rw [Q2bp]
 exact Q5 (fn := Ir.K6t) (by kernel_rfl) VOK.nil [] [aN (Q5p Qo p0.cB), aN (Q5p Qu p0.dn), aN (Q5p Q1q p0.eu), aN (Q5p Qk p0.bY), aN (Q1d4 Q21 p0.dZ), aN (Q1d4 Q1n p0.d9), aN (Q1sd p0.aP (Q17q p0 H).1), aN (Q4o (e' := .call 78 [.sl [(Fld.cells (Q12 Qo p0.cB)), (Fld.cells (Q12 Qu p0.dn)), (Fld.cells (Q12 Q1q p0.eu)), (Fld.cells (Q12 Qk p0.bY)), (Fld.cells (Q63 Q21 p0.dZ)), (Fld.cells (Q63 Q1n p0.d9)), (Fld.cells (Qao p0.aP))]] []) (Q93 ([(Q12 Qo p0.cB), (Q12 Qu p0.dn), (Q12 Q1q p0.eu), (Q12 Qk p0.bY), (Q63 Q21 p0.dZ), (Q63 Q1n p0.d9), (Qao p0.aP)]) (Q17q p0 H).2.1) (by simp only [Q8c, Fld.Qm, Fld.Q11]))] (by kernel_rfl)
def Q1k2 (p0 : bQ) : aW := bQ.obj p0
theorem Q2aw (p0 : bQ) : Q1k2 p0 = ((Qyi Q3c p0.aG (Q1kc p0) (Q4n ([(Q12 Q2v p0.fB), (Q12 Q1s p0.dK), (Q12 Q1h p0.bA), (Q12 Q2h p0.started), (Q12 Q23 p0.dU), (Q48 Q3y (Q5b p0.done)), (Q12 Q2z p0.fq)])))) := by
  exact Eq.symm (Q207 (by exact Nat.le_of_ble_eq_true rfl) (by kernel_rfl))
def Q28f (p0 : bQ) : En := .call 24 [.agg (bQ.cells p0)] []
def Q1yg (p0 : bQ) : Rs := .ret (.agg (aW.cells (Q1k2 p0))) []
def Q1le (p0 : bQ) : Prop := Qcb p0.aG ∧ bQ.sm p0
theorem Qjo (p0 : bQ) (H : Q1le p0) : (Qes p0.done) ∧ (Q83 ([(Q12 Q2v p0.fB), (Q12 Q1s p0.dK), (Q12 Q1h p0.bA), (Q12 Q2h p0.started), (Q12 Q23 p0.dU), (Q48 Q3y (Q5b p0.done)), (Q12 Q2z p0.fq)])) ∧ (Q1r8 p0) ∧ (Q1gu Q3c p0.aG (Q1kc p0) (Q4n ([(Q12 Q2v p0.fB), (Q12 Q1s p0.dK), (Q12 Q1h p0.bA), (Q12 Q2h p0.started), (Q12 Q23 p0.dU), (Q48 Q3y (Q5b p0.done)), (Q12 Q2z p0.fq)]))) ∧ True := by
  exact ⟨(by first | exact True.intro | exact H.1 | exact ⟨H.1, trivial⟩ | exact H.2 | exact H.2.1 | exact H.2.2.1 | exact ⟨H.2.1, trivial⟩), Q8p (by exact Nat.le_of_ble_eq_true rfl) (List.forall_mem_cons.2 ⟨Val.Sm.leaf _ _ _, List.forall_mem_cons.2 ⟨Val.Sm.leaf _ _ _, List.forall_mem_cons.2 ⟨Val.Sm.leaf _ _ _, List.forall_mem_cons.2 ⟨Val.Sm.leaf _ _ _, List.forall_mem_cons.2 ⟨Val.Sm.leaf _ _ _, List.forall_mem_cons.2 ⟨Q2r (fun _ h => Val.Sm.leaf _ _ _) H.2.2.1, List.forall_mem_cons.2 ⟨Val.Sm.leaf _ _ _, List.forall_mem_nil _⟩⟩⟩⟩⟩⟩⟩), (by first | exact True.intro | exact H.1 | exact ⟨H.1, trivial⟩ | exact H.2 | exact H.2.1 | exact H.2.2.1 | exact ⟨H.2.1, trivial⟩), (by first | exact True.intro | exact H.1 | exact ⟨H.1, trivial⟩ | exact H.2 | exact H.2.1 | exact H.2.2.1 | exact ⟨H.2.1, trivial⟩), trivial⟩
theorem Q2du (p0 : bQ) (H : Q1le p0) : Q0 G (Q28f p0) (Q1yg p0) := by
 unfold Q1yg
 rw [Q2aw]
 exact Q5 (fn := Ir.K5c) (by kernel_rfl) VOK.nil [] [aN (Q5p Q2v p0.fB), aN (Q5p Q1s p0.dK), aN (Q5p Q1h p0.bA), aN (Q5p Q2h p0.started), aN (Q5p Q23 p0.dU), aN (Q1d0 p0.done (Qjo p0 H).1), aN (Qgd Q3y (Q5b p0.done)), aN (Q5p Q2z p0.fq), aN (Q4o (e' := .call 78 [.sl [(Fld.cells (Q12 Q2v p0.fB)), (Fld.cells (Q12 Q1s p0.dK)), (Fld.cells (Q12 Q1h p0.bA)), (Fld.cells (Q12 Q2h p0.started)), (Fld.cells (Q12 Q23 p0.dU)), (Fld.cells (Q48 Q3y (Q5b p0.done))), (Fld.cells (Q12 Q2z p0.fq))]] []) (Q93 ([(Q12 Q2v p0.fB), (Q12 Q1s p0.dK), (Q12 Q1h p0.bA), (Q12 Q2h p0.started), (Q12 Q23 p0.dU), (Q48 Q3y (Q5b p0.done)), (Q12 Q2z p0.fq)]) (Qjo p0 H).2.1) (by simp only [Q8c, Fld.Qm, Fld.Q11])), aN (Q2eb p0 (Qjo p0 H).2.2.1), aN (Q1o1 Q3c p0.aG (Q1kc p0) (Q4n ([(Q12 Q2v p0.fB), (Q12 Q1s p0.dK), (Q12 Q1h p0.bA), (Q12 Q2h p0.started), (Q12 Q23 p0.dU), (Q48 Q3y (Q5b p0.done)), (Q12 Q2z p0.fq)])) (Qjo p0 H).2.2.2.1)] (by kernel_rfl)
def Q6j (p0 : List aJ) : List aJ → Nat → (List Val) → List Val
 | [], _i0, ah =>
  ah
 | x0 :: r0, i0, ah =>
  Q6j p0 r0 (i0 + 1) (ah ++ [(Q92 x0)])
theorem Q18y (p0 : List aJ) : ∀ (l : List aJ) (i : Nat) (a : List Val), Q6j p0 l i a = a ++ l.map (fun x0 => (Q92 x0))
  | [], _, _ => by simp [Q6j]
  | x :: r, i, a => by rw [Q6j, Q18y p0 r]; simp
def Q1g7 (p0 : List aJ) (i0 : Nat) (ah : List Val) : List PV :=
  [.un, .fn 84 [] [], .un, .un, .bx 0 0, .ms 1 5 0 (List.length ah), .un, .un, .sl (aJ.rows p0), iN ((List.length p0) : Int), iN (i0 : Int)] ++ nuns 12
def Qzu (_p0 : List aJ) (_i0 : Nat) (ah : List Val) : List Ob :=
  [⟨5, 0, true, [iN 0, iN 0, .str eB, .ms 2 5 0 0, .ms 3 6 0 0]⟩, ⟨5, 0, true, (Val.rows ah).flatten⟩, ⟨5, 0, true, []⟩, ⟨6, 0, true, []⟩]
def Qhh (p0 : List aJ) (i0 : Nat) (ah : List Val) : En := .loop 0 Ir.Qlj Ir.Q1ph (Q1g7 p0 i0 ah) (Qzu p0 i0 ah)
def Qru (_p0 : List aJ) (q0 : List Val) (z : Nat → PV) (_zo : Nat → List PV) : St :=
  ⟨[z 0, z 1, z 2, z 3, .bx 0 0, .ms 1 5 0 (List.length q0)] ++ zr z 6 17, [(0, ⟨5, 0, true, [iN 0, iN 0, .str eB, .ms 2 5 0 0, .ms 3 6 0 0]⟩), (1, ⟨5, 0, true, (Val.rows q0).flatten⟩), (2, ⟨5, 0, true, []⟩), (3, ⟨6, 0, true, []⟩)], 68⟩
theorem Q16q (p0 : List aJ) (i0 : Nat) (ah : List Val) : VOK (Go.Pv.look (number 0 (Qzu p0 i0 ah))) [(1, Val.rows ah)] := (VOK.cons (show Seen _ _ from Q3o (ob := ⟨5, 0, true, (Val.rows ah).flatten⟩) (Val.Q7 ah 5 rfl)) VOK.nil)
def Qje (p0 : List aJ) (e : En) (q : List Val) : Prop := ∃ z zo, Q0 G e (.st (.exit 0) (Qru p0 q z zo))
theorem Qwo (p0 : List aJ) {e e' : En} (h : ∀ r, Q0 G e r → Q0 G e' r) : ∀ q, Qje p0 e q → Qje p0 e' q
  | _, ⟨z, zo, hz⟩ => ⟨z, zo, h _ hz⟩
def Qie (p0 : List aJ) : Prop := (List.length p0 ≤ 137438953472) ∧ (∀ x0 ∈ p0, Q1gt x0) ∧ True
def Qtp (p0 : List aJ) (i0 : Nat) (_ah : List Val) : List PV :=
  [.un, .fn 84 [] []] ++ nuns 6 ++ [.sl (aJ.rows p0), iN ((List.length p0) : Int), iN (i0 : Int), .bool false]
def Qnf (_p0 : List aJ) (_i0 : Nat) (_ah : List Val) : List (Nat × List PV) :=
  []
theorem Q1er (p0 : List aJ) (_H : Qie p0) (i0 : Nat) (ah : List Val) (_aT : List.length ah ≤ i0) (bG : (decide ((i0 : Int) < ((List.length p0) : Int))) = false) : Qje p0 (Qhh p0 i0 ah) ah := by
 exact ⟨(envF (Qtp p0 i0 ah)), (zoF (Qnf p0 i0 ah)), Qd (Q16q p0 i0 ah) (x := ((.exit 0), Qru p0 ah (envF (Qtp p0 i0 ah)) (zoF (Qnf p0 i0 ah)))) [hB 0 bG] [] (by kernel_rfl)⟩
theorem Q1c2 (p0 : List aJ) (H : Qie p0) (x0 : aJ) (i0 : Nat) (ah : List Val) (bU : p0[i0]? = some x0) (dG : i0 < List.length p0) (aT : List.length ah ≤ i0) (bG : (decide ((i0 : Int) < ((List.length p0) : Int))) = true) {r : Rs} (hr : Q0 G (Qhh p0 (i0 + 1) (ah ++ [(Q92 x0)])) r) : Q0 G (Qhh p0 i0 ah) r := by
 have hB0 := H.1
 exact Qc (Q16q p0 i0 ah) [hB 0 bG, hP 0 (Q2q 2 _ i0 _ (aJ.Qg bU) rfl), hA 8 1 580 644 5 80 0 0 true Val.Q8 Val.Q1g ah (Q92 x0) (Val.Qh ah) rfl rfl (by omega), hS 0 true (Val.Q7 (ah ++ [(Q92 x0)]) 5 rfl), hP 1 (Q26 i0 (by omega))] [aN (Q1sb x0 (H.2.1 x0 (Q2l bU)))] hr (by kernel_rfl)
theorem Q12q (p0 : List aJ) (H : Qie p0) : ∀ (r0 : List aJ) (i0 : Nat) (ah : List Val), List.drop i0 p0 = r0 → List.length ah ≤ i0 → Qje p0 (Qhh p0 i0 ah) (Q6j p0 r0 i0 ah)
 | [], i0, ah, hd, aT => by
  have bG : (decide ((i0 : Int) < ((List.length p0) : Int))) = false := by have := Q1c hd; simp; omega
  rw [Q6j]
  exact Q1er p0 H i0 ah aT bG
 | x0 :: r0, i0, ah, hd, aT => by
  obtain ⟨bU, dG, hd'⟩ := Q19 hd
  have bG : (decide ((i0 : Int) < ((List.length p0) : Int))) = true := by simp; omega
  rw [Q6j]
  exact Qwo p0 (fun r hr => Q1c2 p0 H x0 i0 ah bU dG aT bG hr) _ (Q12q p0 H r0 _ _ hd' (by first | omega | (simp; omega)))
def Q3w (p0 : List aJ) : Val := vL (p0.map aJ.enc)
theorem Q1hm (p0 : List aJ) : Q3w p0 = ((Val.mk 4 0 eB (Q6j p0 p0 0 []) [])) := by
  rw [Q18y]
  rfl
def Q1hf (p0 : List aJ) : En := .call 116 [.sl (aJ.rows p0), .fn 84 [] []] []
def Q10v (p0 : List aJ) : Rs := .ret (.agg (Val.cells (Q3w p0))) []
def Qdb (p0 : List aJ) : Prop := LSm aJ.sm p0
theorem Q11a (p0 : List aJ) (H : Qdb p0) : (Qie p0) ∧ True := by
  exact ⟨⟨Nat.le_trans H.1 (Nat.le_of_ble_eq_true rfl), H.2, trivial⟩, trivial⟩
theorem Q13f (p0 : List aJ) (H : Qdb p0) : Q0 G (Q1hf p0) (Q10v p0) := by
 unfold Q10v
 rw [Q1hm]
 have hl0 := Q12q p0 ((Q11a p0 H).1) p0 0 [] (by simp) (by simp)
 obtain ⟨z0, gq, hl0⟩ := hl0
 exact Q5 (fn := Ir.K70) (by kernel_rfl) VOK.nil [hP 3 (Qw _ _ (aJ.Q8 p0)), hS 0 true (Val.Q7 (Q6j p0 p0 0 []) 5 rfl), hQ (Val.Q8 (Q6j p0 p0 0 [])).symm] [aV [(1, Val.rows (Q6j p0 p0 0 []))] hl0] (by kernel_rfl)
def Q153 (p0 : aK) : Val := aK.enc p0
theorem Q2au (p0 : aK) : Q153 p0 = ((Q4n ([(Qpe Q13 p0.key), (Q12 Q7g p0.at_)]))) := by
  exact Eq.symm (Qag (by exact Nat.le_of_ble_eq_true rfl) (by kernel_rfl))
def Q28d (p0 : aK) : En := .call 118 [.agg (aK.cells p0)] []
def Q1ye (p0 : aK) : Rs := .ret (.agg (Val.cells (Q153 p0))) []
def Q1qx (p0 : aK) : Prop := aK.sm p0
theorem Q1mn (p0 : aK) (_H : Q1qx p0) : (Q83 ([(Qpe Q13 p0.key), (Q12 Q7g p0.at_)])) ∧ True := by
  exact ⟨Q8p (by exact Nat.le_of_ble_eq_true rfl) (List.forall_mem_cons.2 ⟨Val.Sm.leaf _ _ _, List.forall_mem_cons.2 ⟨Val.Sm.leaf _ _ _, List.forall_mem_nil _⟩⟩), trivial⟩
theorem Q2ds (p0 : aK) (H : Q1qx p0) : Q0 G (Q28d p0) (Q1ye p0) := by
 unfold Q1ye
 rw [Q2au]
 exact Q5 (fn := Ir.K58) (by kernel_rfl) VOK.nil [] [aN (Q217 Q13 p0.key), aN (Q5p Q7g p0.at_), aN (Q4o (e' := .call 78 [.sl [(Fld.cells (Qpe Q13 p0.key)), (Fld.cells (Q12 Q7g p0.at_))]] []) (Q93 ([(Qpe Q13 p0.key), (Q12 Q7g p0.at_)]) (Q1mn p0 H).1) (by simp only [Q8c, Fld.Qm, Fld.Q11]))] (by kernel_rfl)
def Q6k (p0 : List aK) : List aK → Nat → (List Val) → List Val
 | [], _i0, ah =>
  ah
 | x0 :: r0, i0, ah =>
  Q6k p0 r0 (i0 + 1) (ah ++ [(Q153 x0)])
theorem Q18z (p0 : List aK) : ∀ (l : List aK) (i : Nat) (a : List Val), Q6k p0 l i a = a ++ l.map (fun x0 => (Q153 x0))
  | [], _, _ => by simp [Q6k]
  | x :: r, i, a => by rw [Q6k, Q18z p0 r]; simp
def Q1g8 (p0 : List aK) (i0 : Nat) (ah : List Val) : List PV :=
  [.un, .fn 118 [] [], .un, .un, .bx 0 0, .ms 1 5 0 (List.length ah), .un, .un, .sl (aK.rows p0), iN ((List.length p0) : Int), iN (i0 : Int)] ++ nuns 12
def Qzv (_p0 : List aK) (_i0 : Nat) (ah : List Val) : List Ob :=
  [⟨5, 0, true, [iN 0, iN 0, .str eB, .ms 2 5 0 0, .ms 3 6 0 0]⟩, ⟨5, 0, true, (Val.rows ah).flatten⟩, ⟨5, 0, true, []⟩, ⟨6, 0, true, []⟩]
def Qhi (p0 : List aK) (i0 : Nat) (ah : List Val) : En := .loop 0 Ir.Qlk Ir.Q1pi (Q1g8 p0 i0 ah) (Qzv p0 i0 ah)
def Qrv (_p0 : List aK) (q0 : List Val) (z : Nat → PV) (_zo : Nat → List PV) : St :=
  ⟨[z 0, z 1, z 2, z 3, .bx 0 0, .ms 1 5 0 (List.length q0)] ++ zr z 6 17, [(0, ⟨5, 0, true, [iN 0, iN 0, .str eB, .ms 2 5 0 0, .ms 3 6 0 0]⟩), (1, ⟨5, 0, true, (Val.rows q0).flatten⟩), (2, ⟨5, 0, true, []⟩), (3, ⟨6, 0, true, []⟩)], 68⟩
theorem Q16r (p0 : List aK) (i0 : Nat) (ah : List Val) : VOK (Go.Pv.look (number 0 (Qzv p0 i0 ah))) [(1, Val.rows ah)] := (VOK.cons (show Seen _ _ from Q3o (ob := ⟨5, 0, true, (Val.rows ah).flatten⟩) (Val.Q7 ah 5 rfl)) VOK.nil)
def Qjf (p0 : List aK) (e : En) (q : List Val) : Prop := ∃ z zo, Q0 G e (.st (.exit 0) (Qrv p0 q z zo))
theorem Qwp (p0 : List aK) {e e' : En} (h : ∀ r, Q0 G e r → Q0 G e' r) : ∀ q, Qjf p0 e q → Qjf p0 e' q
  | _, ⟨z, zo, hz⟩ => ⟨z, zo, h _ hz⟩
def Qif (p0 : List aK) : Prop := (List.length p0 ≤ 137438953472) ∧ (∀ x0 ∈ p0, Q1qx x0) ∧ True
def Qtq (p0 : List aK) (i0 : Nat) (_ah : List Val) : List PV :=
  [.un, .fn 118 [] []] ++ nuns 6 ++ [.sl (aK.rows p0), iN ((List.length p0) : Int), iN (i0 : Int), .bool false]
def Qng (_p0 : List aK) (_i0 : Nat) (_ah : List Val) : List (Nat × List PV) :=
  []
theorem Q1es (p0 : List aK) (_H : Qif p0) (i0 : Nat) (ah : List Val) (_aT : List.length ah ≤ i0) (bG : (decide ((i0 : Int) < ((List.length p0) : Int))) = false) : Qjf p0 (Qhi p0 i0 ah) ah := by
 exact ⟨(envF (Qtq p0 i0 ah)), (zoF (Qng p0 i0 ah)), Qd (Q16r p0 i0 ah) (x := ((.exit 0), Qrv p0 ah (envF (Qtq p0 i0 ah)) (zoF (Qng p0 i0 ah)))) [hB 0 bG] [] (by kernel_rfl)⟩
theorem Q1c3 (p0 : List aK) (H : Qif p0) (x0 : aK) (i0 : Nat) (ah : List Val) (bU : p0[i0]? = some x0) (dG : i0 < List.length p0) (aT : List.length ah ≤ i0) (bG : (decide ((i0 : Int) < ((List.length p0) : Int))) = true) {r : Rs} (hr : Q0 G (Qhi p0 (i0 + 1) (ah ++ [(Q153 x0)])) r) : Q0 G (Qhi p0 i0 ah) r := by
 have hB0 := H.1
 exact Qc (Q16r p0 i0 ah) [hB 0 bG, hP 0 (Q2q 2 _ i0 _ (aK.Qg bU) rfl), hA 8 1 580 644 5 80 0 0 true Val.Q8 Val.Q1g ah (Q153 x0) (Val.Qh ah) rfl rfl (by omega), hS 0 true (Val.Q7 (ah ++ [(Q153 x0)]) 5 rfl), hP 1 (Q26 i0 (by omega))] [aN (Q2ds x0 (H.2.1 x0 (Q2l bU)))] hr (by kernel_rfl)
theorem Q12r (p0 : List aK) (H : Qif p0) : ∀ (r0 : List aK) (i0 : Nat) (ah : List Val), List.drop i0 p0 = r0 → List.length ah ≤ i0 → Qjf p0 (Qhi p0 i0 ah) (Q6k p0 r0 i0 ah)
 | [], i0, ah, hd, aT => by
  have bG : (decide ((i0 : Int) < ((List.length p0) : Int))) = false := by have := Q1c hd; simp; omega
  rw [Q6k]
  exact Q1es p0 H i0 ah aT bG
 | x0 :: r0, i0, ah, hd, aT => by
  obtain ⟨bU, dG, hd'⟩ := Q19 hd
  have bG : (decide ((i0 : Int) < ((List.length p0) : Int))) = true := by simp; omega
  rw [Q6k]
  exact Qwp p0 (fun r hr => Q1c3 p0 H x0 i0 ah bU dG aT bG hr) _ (Q12r p0 H r0 _ _ hd' (by first | omega | (simp; omega)))
def Q5c (p0 : List aK) : Val := vL (p0.map aK.enc)
theorem Q1ac (p0 : List aK) : Q5c p0 = ((Val.mk 4 0 eB (Q6k p0 p0 0 []) [])) := by
  rw [Q18z]
  rfl
def Q19w (p0 : List aK) : En := .call 117 [.sl (aK.rows p0), .fn 118 [] []] []
def Qu6 (p0 : List aK) : Rs := .ret (.agg (Val.cells (Q5c p0))) []
def Qet (p0 : List aK) : Prop := LSm aK.sm p0
theorem Qxh (p0 : List aK) (H : Qet p0) : (Qif p0) ∧ True := by
  exact ⟨⟨Nat.le_trans H.1 (Nat.le_of_ble_eq_true rfl), H.2, trivial⟩, trivial⟩
theorem Q1d1 (p0 : List aK) (H : Qet p0) : Q0 G (Q19w p0) (Qu6 p0) := by
 unfold Qu6
 rw [Q1ac]
 have hl0 := Q12r p0 ((Qxh p0 H).1) p0 0 [] (by simp) (by simp)
 obtain ⟨z0, gq, hl0⟩ := hl0
 exact Q5 (fn := Ir.K71) (by kernel_rfl) VOK.nil [hP 3 (Qw _ _ (aK.Q8 p0)), hS 0 true (Val.Q7 (Q6k p0 p0 0 []) 5 rfl), hQ (Val.Q8 (Q6k p0 p0 0 [])).symm] [aV [(1, Val.rows (Q6k p0 p0 0 []))] hl0] (by kernel_rfl)
def Q1k0 (p0 : aQ) : aW := aQ.obj p0
theorem Q2at (p0 : aQ) : Q1k0 p0 = ((Qyi Q2u p0.aG (Q4n ([(Q9i p0.aR), (Q48 Q16 (Q3w p0.bX)), (Q48 Q10 (Q3w p0.bM))])) (Q4n ([(Q12 Ql p0.bV), (Q12 Q2f p0.eO), (Q12 Q2e p0.eF), (Q12 Q22 p0.dX), (Q12 Q2d p0.eD), (Q48 Q1r (Q5c p0.bN))])))) := by
  exact Eq.symm (Q206 (by exact Nat.le_of_ble_eq_true rfl) (by exact Nat.le_of_ble_eq_true rfl) (by kernel_rfl) (by kernel_rfl))
def Q28c (p0 : aQ) : En := .call 26 [.agg (aQ.cells p0)] []
def Q1yd (p0 : aQ) : Rs := .ret (.agg (aW.cells (Q1k0 p0))) []
def Q1lc (p0 : aQ) : Prop := Qcb p0.aG ∧ aQ.sm p0
theorem Qa7 (p0 : aQ) (H : Q1lc p0) : (Q1gv p0.aR) ∧ (Qdb p0.bX) ∧ (Qdb p0.bM) ∧ (Q83 ([(Q9i p0.aR), (Q48 Q16 (Q3w p0.bX)), (Q48 Q10 (Q3w p0.bM))])) ∧ (Qet p0.bN) ∧ (Q83 ([(Q12 Ql p0.bV), (Q12 Q2f p0.eO), (Q12 Q2e p0.eF), (Q12 Q22 p0.dX), (Q12 Q2d p0.eD), (Q48 Q1r (Q5c p0.bN))])) ∧ (Q1gu Q2u p0.aG (Q4n ([(Q9i p0.aR), (Q48 Q16 (Q3w p0.bX)), (Q48 Q10 (Q3w p0.bM))])) (Q4n ([(Q12 Ql p0.bV), (Q12 Q2f p0.eO), (Q12 Q2e p0.eF), (Q12 Q22 p0.dX), (Q12 Q2d p0.eD), (Q48 Q1r (Q5c p0.bN))]))) ∧ True := by
  exact ⟨(by first | exact True.intro | exact H.1 | exact ⟨H.1, trivial⟩ | exact H.2 | exact H.2.1 | exact H.2.2.1 | exact H.2.2.2.1 | exact H.2.2.2.2.1), (by first | exact True.intro | exact H.1 | exact ⟨H.1, trivial⟩ | exact H.2 | exact H.2.1 | exact H.2.2.1 | exact H.2.2.2.1 | exact H.2.2.2.2.1), (by first | exact True.intro | exact H.1 | exact ⟨H.1, trivial⟩ | exact H.2 | exact H.2.1 | exact H.2.2.1 | exact H.2.2.2.1 | exact H.2.2.2.2.1), Q8p (by exact Nat.le_of_ble_eq_true rfl) (List.forall_mem_cons.2 ⟨Q2r (fun _ h => aj.Q1u h) H.2.1, List.forall_mem_cons.2 ⟨Q2r (fun _ h => aJ.Q1u h) H.2.2.1, List.forall_mem_cons.2 ⟨Q2r (fun _ h => aJ.Q1u h) H.2.2.2.1, List.forall_mem_nil _⟩⟩⟩), (by first | exact True.intro | exact H.1 | exact ⟨H.1, trivial⟩ | exact H.2 | exact H.2.1 | exact H.2.2.1 | exact H.2.2.2.1 | exact H.2.2.2.2.1), Q8p (by exact Nat.le_of_ble_eq_true rfl) (List.forall_mem_cons.2 ⟨Val.Sm.leaf _ _ _, List.forall_mem_cons.2 ⟨Val.Sm.leaf _ _ _, List.forall_mem_cons.2 ⟨Val.Sm.leaf _ _ _, List.forall_mem_cons.2 ⟨Val.Sm.leaf _ _ _, List.forall_mem_cons.2 ⟨Val.Sm.leaf _ _ _, List.forall_mem_cons.2 ⟨Q2r (fun _ h => aK.Q1u h) H.2.2.2.2.1, List.forall_mem_nil _⟩⟩⟩⟩⟩⟩), (by first | exact True.intro | exact H.1 | exact ⟨H.1, trivial⟩ | exact H.2 | exact H.2.1 | exact H.2.2.1 | exact H.2.2.2.1 | exact H.2.2.2.2.1), trivial⟩
theorem Q2dr (p0 : aQ) (H : Q1lc p0) : Q0 G (Q28c p0) (Q1yd p0) := by
 unfold Q1yd
 rw [Q2at]
 exact Q5 (fn := Ir.K57) (by kernel_rfl) VOK.nil [] [aN (Q1sc p0.aR (Qa7 p0 H).1), aN (Q13f p0.bX (Qa7 p0 H).2.1), aN (Qgd Q16 (Q3w p0.bX)), aN (Q13f p0.bM (Qa7 p0 H).2.2.1), aN (Qgd Q10 (Q3w p0.bM)), aN (Q4o (e' := .call 78 [.sl [(Fld.cells (Q9i p0.aR)), (Fld.cells (Q48 Q16 (Q3w p0.bX))), (Fld.cells (Q48 Q10 (Q3w p0.bM)))]] []) (Q93 ([(Q9i p0.aR), (Q48 Q16 (Q3w p0.bX)), (Q48 Q10 (Q3w p0.bM))]) (Qa7 p0 H).2.2.2.1) (by simp only [Q8c, Fld.Qm, Fld.Q11])), aN (Q1d1 p0.bN (Qa7 p0 H).2.2.2.2.1), aN (Q5p Ql p0.bV), aN (Q5p Q2f p0.eO), aN (Q5p Q2e p0.eF), aN (Q5p Q22 p0.dX), aN (Q5p Q2d p0.eD), aN (Qgd Q1r (Q5c p0.bN)), aN (Q4o (e' := .call 78 [.sl [(Fld.cells (Q12 Ql p0.bV)), (Fld.cells (Q12 Q2f p0.eO)), (Fld.cells (Q12 Q2e p0.eF)), (Fld.cells (Q12 Q22 p0.dX)), (Fld.cells (Q12 Q2d p0.eD)), (Fld.cells (Q48 Q1r (Q5c p0.bN)))]] []) (Q93 ([(Q12 Ql p0.bV), (Q12 Q2f p0.eO), (Q12 Q2e p0.eF), (Q12 Q22 p0.dX), (Q12 Q2d p0.eD), (Q48 Q1r (Q5c p0.bN))]) (Qa7 p0 H).2.2.2.2.2.1) (by simp only [Q8c, Fld.Qm, Fld.Q11])), aN (Q1o1 Q2u p0.aG (Q4n ([(Q9i p0.aR), (Q48 Q16 (Q3w p0.bX)), (Q48 Q10 (Q3w p0.bM))])) (Q4n ([(Q12 Ql p0.bV), (Q12 Q2f p0.eO), (Q12 Q2e p0.eF), (Q12 Q22 p0.dX), (Q12 Q2d p0.eD), (Q48 Q1r (Q5c p0.bN))])) (Qa7 p0 H).2.2.2.2.2.2.1)] (by kernel_rfl)
end Go.Proofs.YtimjjohlpnkacaaGreat
end

section
/- What the decoders of templates compute (printed by a program). -/
namespace Go.Proofs.YtimjjohlpnkacaaGreat
open Go.Pv
structure au where
  bA : Bool
def au.cells (x : au) : List PV :=
  [.bool x.bA]
def au.rows (l : List au) : List (List PV) := l.map au.cells
def ft (o : au) (b : Bool) : au := ⟨o.bA || !b⟩
theorem Qnv (o : au) (a b : Bool) : ft (ft o a) b = ft o (a && b) := by
  unfold ft
  simp only [Bool.not_and, Bool.or_assoc]
theorem Q5j (o : au) (b : Bool) : (ft o b).bA = (o.bA || !b) := rfl
theorem Q6o (o : au) (b : Bool) : au.mk (o.bA || !b) = ft o b := rfl
theorem Qak (p1 : Val) (p2 : BA) : (bif (prt p1 p2).kind == 4 then prt p1 p2 else vZ).list = (dL p1 p2).1 := by
  unfold dL xL
  cases ((prt p1 p2).kind == 4) <;> rfl
theorem Qa5 (f m x y q : Bool) (h : x = y) : ((f || !(m && x)) || !q) = (f || !(m && (y && q))) := by subst h; cases f <;> cases m <;> cases x <;> cases q <;> rfl
theorem Qyo (x : Val) : ((x.kind == 4) || (x.kind == 0)) = (xL x).2 := by unfold xL; cases (x.kind == 4) <;> rfl
def s_Ko (p1 : Val) (o0 : au) : Val × au := (p1, ft o0 (isM p1))
theorem e_Ko (p1 : Val) (o0 : au) : s_Ko p1 o0 = (bif o0.bA then
    (p1, (au.mk true))
  else
    bif (p1.kind == 5) then
      (p1, (au.mk false))
    else
      (p1, (au.mk (!(p1.kind == 0))))) := by
  obtain ⟨b⟩ := o0
  unfold s_Ko ft isM
  cases b <;> cases (p1.kind == 5) <;> cases (p1.kind == 0) <;> rfl
def c_Ko (p1 : Val) (o0 : au) : En := .call 215 [.bx 0 0, .agg (Val.cells p1)] [⟨1, 0, false, (au.cells o0)⟩]
def r_Ko (_p1 : Val) (_o0 : au) (q0 : Val) (q1 : au) : Rs := .ret (.agg (Val.cells q0)) [⟨1, 0, false, (au.cells q1)⟩]
def a_Ko (p1 : Val) (o0 : au) : Rs := r_Ko p1 o0 (s_Ko p1 o0).1 (s_Ko p1 o0).2
theorem t_Ko (p1 : Val) (o0 : au) : Q0 G (c_Ko p1 o0) (a_Ko p1 o0) := by
 unfold a_Ko
 rw [e_Ko]
 cases h0 : o0.bA with
 | true =>
  exact Q5 (fn := Ir.Ko) (by kernel_rfl) (h := [⟨1, 0, false, (au.cells o0)⟩]) (vw := []) VOK.nil [hP 6 (decR o0.bA true [0] h0)] [] (by kernel_rfl)
 | false =>
  cases h1 : (p1.kind == 5) with
  | true =>
   exact Q5 (fn := Ir.Ko) (by kernel_rfl) (h := [⟨1, 0, false, (au.cells o0)⟩]) (vw := []) VOK.nil [hP 6 (decR o0.bA false [0] h0), hP 3 (dec (!(p1.kind == 5)) false (by rw [h1]; rfl))] [] (by kernel_rfl)
  | false =>
   exact Q5 (fn := Ir.Ko) (by kernel_rfl) (h := [⟨1, 0, false, (au.cells o0)⟩]) (vw := []) VOK.nil [hP 6 (decR o0.bA false [0] h0), hP 3 (dec (!(p1.kind == 5)) true (by rw [h1]; rfl))] [] (by kernel_rfl)
def s_Kd (p1 : Val) (p2 : BA) (p3 : Int) (o0 : au) : Val × au := (bif (prt p1 p2).kind == p3 then prt p1 p2 else vZ, ft o0 (isM p1 && ((prt p1 p2).kind == p3 || (prt p1 p2).kind == 0)))
theorem e_Kd (p1 : Val) (p2 : BA) (p3 : Int) (o0 : au) : s_Kd p1 p2 p3 o0 = (bif (p1.kind == 5) then
    bif ((Qpb p1 p2).1.kind == p3) then
      ((Qpb p1 p2).1, o0)
    else
      bif o0.bA then
        ((Val.mk 0 0 eB [] []), (au.mk true))
      else
        ((Val.mk 0 0 eB [] []), (au.mk (!((Qpb p1 p2).1.kind == 0))))
  else
    bif o0.bA then
      ((Val.mk 0 0 eB [] []), (au.mk true))
    else
      ((Val.mk 0 0 eB [] []), (au.mk (!(p1.kind == 0))))) := by
  obtain ⟨b⟩ := o0
  unfold s_Kd ft
  rw [vprt]
  cases h : (p1.kind == 5) with
  | true =>
    rw [Q1i6 h]
    cases b <;> cases ((prt p1 p2).kind == p3) <;> cases ((prt p1 p2).kind == 0) <;> rfl
  | false =>
    rw [Qo0 h, Qof h]
    cases b <;> cases (p1.kind == 0) <;> cases (vZ.kind == p3) <;> rfl
def c_Kd (p1 : Val) (p2 : BA) (p3 : Int) (o0 : au) : En := .call 238 [.bx 0 0, .agg (Val.cells p1), .str p2, iN p3] [⟨1, 0, false, (au.cells o0)⟩]
def r_Kd (_p1 : Val) (_p2 : BA) (_p3 : Int) (_o0 : au) (q0 : Val) (q1 : au) : Rs := .ret (.agg (Val.cells q0)) [⟨1, 0, false, (au.cells q1)⟩]
def a_Kd (p1 : Val) (p2 : BA) (p3 : Int) (o0 : au) : Rs := r_Kd p1 p2 p3 o0 (s_Kd p1 p2 p3 o0).1 (s_Kd p1 p2 p3 o0).2
def H_Kd (p1 : Val) : Prop := Val.Sm 1000000000 p1
theorem Q141 (p1 : Val) (p2 : BA) (_p3 : Int) (_o0 : au) (H : H_Kd p1) : (Q1lb p1 p2) ∧ True := by
  exact ⟨Q1w5 H _, trivial⟩
theorem t_Kd (p1 : Val) (p2 : BA) (p3 : Int) (o0 : au) (H : H_Kd p1) : Q0 G (c_Kd p1 p2 p3 o0) (a_Kd p1 p2 p3 o0) := by
 unfold a_Kd
 rw [e_Kd]
 cases h0 : (p1.kind == 5) with
 | true =>
  cases h1 : ((Qpb p1 p2).1.kind == p3) with
  | true =>
   exact Q5 (fn := Ir.Kd) (by kernel_rfl) (h := [⟨1, 0, false, (au.cells o0)⟩]) (vw := []) VOK.nil [hP 4 (dec (!(p1.kind == 5)) false (by rw [h0]; rfl)), hB 12 h1] [aN (Q1o0 p1 p2 (Q141 p1 p2 p3 o0 H).1)] (by kernel_rfl)
  | false =>
   cases h2 : o0.bA with
   | true =>
    exact Q5 (fn := Ir.Kd) (by kernel_rfl) (h := [⟨1, 0, false, (au.cells o0)⟩]) (vw := []) VOK.nil [hP 4 (dec (!(p1.kind == 5)) false (by rw [h0]; rfl)), hB 12 h1, hP 4 (decR o0.bA true [0] h2)] [aN (Q1o0 p1 p2 (Q141 p1 p2 p3 o0 H).1)] (by kernel_rfl)
   | false =>
    exact Q5 (fn := Ir.Kd) (by kernel_rfl) (h := [⟨1, 0, false, (au.cells o0)⟩]) (vw := []) VOK.nil [hP 4 (dec (!(p1.kind == 5)) false (by rw [h0]; rfl)), hB 12 h1, hP 4 (decR o0.bA false [0] h2)] [aN (Q1o0 p1 p2 (Q141 p1 p2 p3 o0 H).1)] (by kernel_rfl)
 | false =>
  cases h1 : o0.bA with
  | true =>
   exact Q5 (fn := Ir.Kd) (by kernel_rfl) (h := [⟨1, 0, false, (au.cells o0)⟩]) (vw := []) VOK.nil [hP 4 (dec (!(p1.kind == 5)) true (by rw [h0]; rfl)), hP 4 (decR o0.bA true [0] h1)] [] (by kernel_rfl)
  | false =>
   exact Q5 (fn := Ir.Kd) (by kernel_rfl) (h := [⟨1, 0, false, (au.cells o0)⟩]) (vw := []) VOK.nil [hP 4 (dec (!(p1.kind == 5)) true (by rw [h0]; rfl)), hP 4 (decR o0.bA false [0] h1)] [] (by kernel_rfl)
def s_Kg (p1 : Val) (p2 : BA) (o0 : au) : Int × au := ((dN p1 p2).1, ft o0 (isM p1 && (dN p1 p2).2))
theorem e_Kg (p1 : Val) (p2 : BA) (o0 : au) : s_Kg p1 p2 o0 = (((s_Kd p1 p2 2 o0).1.n, (s_Kd p1 p2 2 o0).2)) := by
  unfold s_Kg s_Kd dN xN
  cases ((prt p1 p2).kind == 2) <;> rfl
def c_Kg (p1 : Val) (p2 : BA) (o0 : au) : En := .call 240 [.bx 0 0, .agg (Val.cells p1), .str p2] [⟨1, 0, false, (au.cells o0)⟩]
def r_Kg (_p1 : Val) (_p2 : BA) (_o0 : au) (q0 : Int) (q1 : au) : Rs := .ret (iN q0) [⟨1, 0, false, (au.cells q1)⟩]
def a_Kg (p1 : Val) (p2 : BA) (o0 : au) : Rs := r_Kg p1 p2 o0 (s_Kg p1 p2 o0).1 (s_Kg p1 p2 o0).2
def H_Kg (p1 : Val) : Prop := Val.Sm 1000000000 p1
theorem Q1rj (p1 : Val) (_p2 : BA) (_o0 : au) (H : H_Kg p1) : (H_Kd p1) ∧ True := by
  exact ⟨H, trivial⟩
theorem t_Kg (p1 : Val) (p2 : BA) (o0 : au) (H : H_Kg p1) : Q0 G (c_Kg p1 p2 o0) (a_Kg p1 p2 o0) := by
 unfold a_Kg
 rw [e_Kg]
 exact Q5 (fn := Ir.Kg) (by kernel_rfl) (h := [⟨1, 0, false, (au.cells o0)⟩]) (vw := []) VOK.nil [] [aN (t_Kd p1 p2 2 o0 (Q1rj p1 p2 o0 H).1)] (by kernel_rfl)
def s_Kn (p1 : Val) (p2 : BA) (o0 : au) : ByteArray × au := ((dS p1 p2).1, ft o0 (isM p1 && (dS p1 p2).2))
theorem e_Kn (p1 : Val) (p2 : BA) (o0 : au) : s_Kn p1 p2 o0 = (((s_Kd p1 p2 3 o0).1.s, (s_Kd p1 p2 3 o0).2)) := by
  unfold s_Kn s_Kd dS xS
  cases ((prt p1 p2).kind == 3) <;> rfl
def c_Kn (p1 : Val) (p2 : BA) (o0 : au) : En := .call 239 [.bx 0 0, .agg (Val.cells p1), .str p2] [⟨1, 0, false, (au.cells o0)⟩]
def r_Kn (_p1 : Val) (_p2 : BA) (_o0 : au) (q0 : BA) (q1 : au) : Rs := .ret (.str q0) [⟨1, 0, false, (au.cells q1)⟩]
def a_Kn (p1 : Val) (p2 : BA) (o0 : au) : Rs := r_Kn p1 p2 o0 (s_Kn p1 p2 o0).1 (s_Kn p1 p2 o0).2
def H_Kn (p1 : Val) : Prop := Val.Sm 1000000000 p1
theorem Q1rk (p1 : Val) (_p2 : BA) (_o0 : au) (H : H_Kn p1) : (H_Kd p1) ∧ True := by
  exact ⟨H, trivial⟩
theorem t_Kn (p1 : Val) (p2 : BA) (o0 : au) (H : H_Kn p1) : Q0 G (c_Kn p1 p2 o0) (a_Kn p1 p2 o0) := by
 unfold a_Kn
 rw [e_Kn]
 exact Q5 (fn := Ir.Kn) (by kernel_rfl) (h := [⟨1, 0, false, (au.cells o0)⟩]) (vw := []) VOK.nil [] [aN (t_Kd p1 p2 3 o0 (Q1rk p1 p2 o0 H).1)] (by kernel_rfl)
def s_Kc (p1 : Val) (p2 : BA) (o0 : au) : Bool × au := ((dB p1 p2).1, ft o0 (isM p1 && (dB p1 p2).2))
theorem e_Kc (p1 : Val) (p2 : BA) (o0 : au) : s_Kc p1 p2 o0 = (((!((s_Kd p1 p2 1 o0).1.n == 0)), (s_Kd p1 p2 1 o0).2)) := by
  unfold s_Kc s_Kd dB xB
  cases ((prt p1 p2).kind == 1) <;> rfl
def c_Kc (p1 : Val) (p2 : BA) (o0 : au) : En := .call 280 [.bx 0 0, .agg (Val.cells p1), .str p2] [⟨1, 0, false, (au.cells o0)⟩]
def r_Kc (_p1 : Val) (_p2 : BA) (_o0 : au) (q0 : Bool) (q1 : au) : Rs := .ret (.bool q0) [⟨1, 0, false, (au.cells q1)⟩]
def a_Kc (p1 : Val) (p2 : BA) (o0 : au) : Rs := r_Kc p1 p2 o0 (s_Kc p1 p2 o0).1 (s_Kc p1 p2 o0).2
def H_Kc (p1 : Val) : Prop := Val.Sm 1000000000 p1
theorem Q1ri (p1 : Val) (_p2 : BA) (_o0 : au) (H : H_Kc p1) : (H_Kd p1) ∧ True := by
  exact ⟨H, trivial⟩
theorem t_Kc (p1 : Val) (p2 : BA) (o0 : au) (H : H_Kc p1) : Q0 G (c_Kc p1 p2 o0) (a_Kc p1 p2 o0) := by
 unfold a_Kc
 rw [e_Kc]
 exact Q5 (fn := Ir.Kc) (by kernel_rfl) (h := [⟨1, 0, false, (au.cells o0)⟩]) (vw := []) VOK.nil [] [aN (t_Kd p1 p2 1 o0 (Q1ri p1 p2 o0 H).1)] (by kernel_rfl)
def s_Kp (p1 : Val) (p2 : BA) (o0 : au) : Val × au := (s5 (prt p1 p2), ft o0 (isM p1 && isM (prt p1 p2)))
theorem e_Kp (p1 : Val) (p2 : BA) (o0 : au) : s_Kp p1 p2 o0 = (((s_Kd p1 p2 5 o0).1, (s_Kd p1 p2 5 o0).2)) := by
  rfl
def c_Kp (p1 : Val) (p2 : BA) (o0 : au) : En := .call 219 [.bx 0 0, .agg (Val.cells p1), .str p2] [⟨1, 0, false, (au.cells o0)⟩]
def r_Kp (_p1 : Val) (_p2 : BA) (_o0 : au) (q0 : Val) (q1 : au) : Rs := .ret (.agg (Val.cells q0)) [⟨1, 0, false, (au.cells q1)⟩]
def a_Kp (p1 : Val) (p2 : BA) (o0 : au) : Rs := r_Kp p1 p2 o0 (s_Kp p1 p2 o0).1 (s_Kp p1 p2 o0).2
def H_Kp (p1 : Val) : Prop := Val.Sm 1000000000 p1
theorem Q1rl (p1 : Val) (_p2 : BA) (_o0 : au) (H : H_Kp p1) : (H_Kd p1) ∧ True := by
  exact ⟨H, trivial⟩
theorem t_Kp (p1 : Val) (p2 : BA) (o0 : au) (H : H_Kp p1) : Q0 G (c_Kp p1 p2 o0) (a_Kp p1 p2 o0) := by
 unfold a_Kp
 rw [e_Kp]
 exact Q5 (fn := Ir.Kp) (by kernel_rfl) (h := [⟨1, 0, false, (au.cells o0)⟩]) (vw := []) VOK.nil [] [aN (t_Kd p1 p2 5 o0 (Q1rl p1 p2 o0 H).1)] (by kernel_rfl)
def s_Kk (p1 : Val) (o0 : au) : bf × au := ((bf.dec p1).1, ft o0 (bf.dec p1).2)
theorem e_Kk (p1 : Val) (o0 : au) : s_Kk p1 o0 = (((bf.mk (s_Kg p1 Q61 o0).1 (s_Kg p1 Q3j (s_Kg p1 Q61 o0).2).1 (s_Kg p1 Q5f (s_Kg p1 Q3j (s_Kg p1 Q61 o0).2).2).1), (s_Kg p1 Q5f (s_Kg p1 Q3j (s_Kg p1 Q61 o0).2).2).2)) := by
  simp only [s_Kg, s_Kk, bf.dec, Qnv, Bool.and_assoc, Bool.and_left_comm, Bool.and_comm, Bool.and_self_left]
def c_Kk (p1 : Val) (o0 : au) : En := .call 275 [.bx 0 0, .agg (Val.cells p1)] [⟨1, 0, false, (au.cells o0)⟩]
def r_Kk (_p1 : Val) (_o0 : au) (q0 : bf) (q1 : au) : Rs := .ret (.agg (bf.cells q0)) [⟨1, 0, false, (au.cells q1)⟩]
def a_Kk (p1 : Val) (o0 : au) : Rs := r_Kk p1 o0 (s_Kk p1 o0).1 (s_Kk p1 o0).2
def H_Kk (p1 : Val) : Prop := Val.Sm 1000000000 p1
theorem Q144 (p1 : Val) (_o0 : au) (H : H_Kk p1) : (H_Kg p1) ∧ True := by
  repeat' with_reducible apply And.intro
  all_goals first | exact True.intro | exact H | exact Qoq (Q3d H _)
theorem t_Kk (p1 : Val) (o0 : au) (H : H_Kk p1) : Q0 G (c_Kk p1 o0) (a_Kk p1 o0) := by
 unfold a_Kk
 rw [e_Kk]
 exact Q5 (fn := Ir.Kk) (by kernel_rfl) (h := [⟨1, 0, false, (au.cells o0)⟩]) (vw := []) VOK.nil [] [aN (t_Kg p1 Q61 o0 (Q144 p1 o0 H).1), aN (t_Kg p1 Q3j (s_Kg p1 Q61 o0).2 (Q144 p1 o0 H).1), aN (t_Kg p1 Q5f (s_Kg p1 Q3j (s_Kg p1 Q61 o0).2).2 (Q144 p1 o0 H).1)] (by kernel_rfl)
def s_Ki (p1 : Val) (o0 : au) : bn × au := ((bn.dec p1).1, ft o0 (bn.dec p1).2)
theorem e_Ki (p1 : Val) (o0 : au) : s_Ki p1 o0 = (((bn.mk (s_Kg p1 Q3a (s_Ko p1 o0).2).1 (s_Kg p1 Q2y (s_Kg p1 Q3a (s_Ko p1 o0).2).2).1 (s_Kg p1 Q2n (s_Kg p1 Q2y (s_Kg p1 Q3a (s_Ko p1 o0).2).2).2).1 (s_Kg p1 Q31 (s_Kg p1 Q2n (s_Kg p1 Q2y (s_Kg p1 Q3a (s_Ko p1 o0).2).2).2).2).1), (s_Kg p1 Q31 (s_Kg p1 Q2n (s_Kg p1 Q2y (s_Kg p1 Q3a (s_Ko p1 o0).2).2).2).2).2)) := by
  simp only [s_Ko, s_Kg, s_Ki, bn.dec, Qnv, Bool.and_assoc, Bool.and_left_comm, Bool.and_comm, Bool.and_self_left]
def c_Ki (p1 : Val) (o0 : au) : En := .call 277 [.bx 0 0, .agg (Val.cells p1)] [⟨1, 0, false, (au.cells o0)⟩]
def r_Ki (_p1 : Val) (_o0 : au) (q0 : bn) (q1 : au) : Rs := .ret (.agg (bn.cells q0)) [⟨1, 0, false, (au.cells q1)⟩]
def a_Ki (p1 : Val) (o0 : au) : Rs := r_Ki p1 o0 (s_Ki p1 o0).1 (s_Ki p1 o0).2
def H_Ki (p1 : Val) : Prop := Val.Sm 1000000000 p1
theorem Qxk (p1 : Val) (_o0 : au) (H : H_Ki p1) : (H_Kg p1) ∧ True := by
  repeat' with_reducible apply And.intro
  all_goals first | exact True.intro | exact H | exact Qoq (Q3d H _)
theorem t_Ki (p1 : Val) (o0 : au) (H : H_Ki p1) : Q0 G (c_Ki p1 o0) (a_Ki p1 o0) := by
 unfold a_Ki
 rw [e_Ki]
 exact Q5 (fn := Ir.Ki) (by kernel_rfl) (h := [⟨1, 0, false, (au.cells o0)⟩]) (vw := []) VOK.nil [] [aN (t_Ko p1 o0), aN (t_Kg p1 Q3a (s_Ko p1 o0).2 (Qxk p1 o0 H).1), aN (t_Kg p1 Q2y (s_Kg p1 Q3a (s_Ko p1 o0).2).2 (Qxk p1 o0 H).1), aN (t_Kg p1 Q2n (s_Kg p1 Q2y (s_Kg p1 Q3a (s_Ko p1 o0).2).2).2 (Qxk p1 o0 H).1), aN (t_Kg p1 Q31 (s_Kg p1 Q2n (s_Kg p1 Q2y (s_Kg p1 Q3a (s_Ko p1 o0).2).2).2).2 (Qxk p1 o0 H).1)] (by kernel_rfl)
def Q7o (p1 : Val) (p2 : BA) (o0 : au) : List Val → Nat → Bool → (List bn) → Bool × (List bn)
 | [], _i0, ah, aH =>
  (ah, aH)
 | x0 :: r0, i0, ah, aH =>
  Q7o p1 p2 o0 r0 (i0 + 1) (s_Ki x0 (au.mk ah)).2.bA (aH ++ [(s_Ki x0 (au.mk ah)).1])
def Q1l7 (p1 : Val) (p2 : BA) (o0 : au) (i0 : Nat) (_ah : Bool) (aH : List bn) : List PV :=
  [.un, .un, .un, .fn 277 [.bx 0 0] []] ++ nuns 5 ++ [.ms 1 4 0 (List.length aH)] ++ nuns 6 ++ [.sl (Val.rows (s_Kd p1 p2 4 o0).1.list), iN ((List.length (s_Kd p1 p2 4 o0).1.list) : Int), iN (i0 : Int)] ++ nuns 11
def Q15p (_p1 : Val) (_p2 : BA) (_o0 : au) (_i0 : Nat) (ah : Bool) (aH : List bn) : List Ob :=
  [⟨1, 0, false, [.bool ah]⟩, ⟨4, 0, true, (bn.rows aH).flatten⟩]
def Qv8 (p1 : Val) (p2 : BA) (o0 : au) (i0 : Nat) (ah : Bool) (aH : List bn) : En := .loop 1 Ir.Qqf Ir.Q1wl (Q1l7 p1 p2 o0 i0 ah aH) (Q15p p1 p2 o0 i0 ah aH)
def Q10k (_p1 : Val) (_p2 : BA) (_o0 : au) (q0 : Bool) (q1 : List bn) (z : Nat → PV) (_zo : Nat → List PV) : St :=
  ⟨zr z 0 9 ++ [.ms 1 4 0 (List.length q1)] ++ zr z 10 20, [(0, ⟨1, 0, false, [.bool q0]⟩), (1, ⟨4, 0, true, (bn.rows q1).flatten⟩)], 66⟩
theorem Q1h7 (p1 : Val) (p2 : BA) (o0 : au) (i0 : Nat) (ah : Bool) (aH : List bn) : VOK (Go.Pv.look (number 0 (Q15p p1 p2 o0 i0 ah aH))) [(1, bn.rows aH)] := (VOK.cons (show Seen _ _ from Q3o (ob := ⟨4, 0, true, (bn.rows aH).flatten⟩) (bn.Q7 aH 4 rfl)) VOK.nil)
def Qwz (p1 : Val) (p2 : BA) (o0 : au) (e : En) (q : Bool × (List bn)) : Prop := ∃ z zo, Q0 G e (.st (.exit 0) (Q10k p1 p2 o0 q.1 q.2 z zo))
theorem Q10a (p1 : Val) (p2 : BA) (o0 : au) {e e' : En} (h : ∀ r, Q0 G e r → Q0 G e' r) : ∀ q, Qwz p1 p2 o0 e q → Qwz p1 p2 o0 e' q
  | _, ⟨z, zo, hz⟩ => ⟨z, zo, h _ hz⟩
def Qk7 (p1 : Val) (p2 : BA) (o0 : au) : Prop := (List.length (s_Kd p1 p2 4 o0).1.list ≤ 137438953472) ∧ (∀ x0 ∈ (s_Kd p1 p2 4 o0).1.list, H_Ki x0) ∧ True
def Q10u (p1 : Val) (p2 : BA) (o0 : au) (i0 : Nat) (_ah : Bool) (_aH : List bn) : List PV :=
  [.un, .un, .un, .fn 277 [.bx 0 0] []] ++ nuns 12 ++ [.sl (Val.rows (s_Kd p1 p2 4 o0).1.list), iN ((List.length (s_Kd p1 p2 4 o0).1.list) : Int), iN (i0 : Int), .bool false]
def Qs7 (_p1 : Val) (_p2 : BA) (_o0 : au) (_i0 : Nat) (_ah : Bool) (_aH : List bn) : List (Nat × List PV) :=
  []
theorem Q1kv (p1 : Val) (p2 : BA) (o0 : au) (_H : Qk7 p1 p2 o0) (i0 : Nat) (ah : Bool) (aH : List bn) (_aT : List.length aH ≤ i0) (bG : (decide ((i0 : Int) < ((List.length (s_Kd p1 p2 4 o0).1.list) : Int))) = false) : Qwz p1 p2 o0 (Qv8 p1 p2 o0 i0 ah aH) (ah, aH) := by
 exact ⟨(envF (Q10u p1 p2 o0 i0 ah aH)), (zoF (Qs7 p1 p2 o0 i0 ah aH)), Qd (Q1h7 p1 p2 o0 i0 ah aH) (x := ((.exit 0), Q10k p1 p2 o0 ah aH (envF (Q10u p1 p2 o0 i0 ah aH)) (zoF (Qs7 p1 p2 o0 i0 ah aH)))) [hB 0 bG] [] (by kernel_rfl)⟩
theorem Q1is (p1 : Val) (p2 : BA) (o0 : au) (H : Qk7 p1 p2 o0) (x0 : Val) (i0 : Nat) (ah : Bool) (aH : List bn) (bU : (s_Kd p1 p2 4 o0).1.list[i0]? = some x0) (dG : i0 < List.length (s_Kd p1 p2 4 o0).1.list) (aT : List.length aH ≤ i0) (bG : (decide ((i0 : Int) < ((List.length (s_Kd p1 p2 4 o0).1.list) : Int))) = true) {r : Rs} (hr : Q0 G (Qv8 p1 p2 o0 (i0 + 1) (s_Ki x0 (au.mk ah)).2.bA (aH ++ [(s_Ki x0 (au.mk ah)).1])) r) : Q0 G (Qv8 p1 p2 o0 i0 ah aH) r := by
 have hB0 := H.1
 exact Qc (Q1h7 p1 p2 o0 i0 ah aH) [hB 0 bG, hP 0 (Q2q 5 _ i0 _ (Val.Qg bU) rfl), hA 8 1 578 642 4 32 0 0 true bn.Q8 bn.Q1g aH (s_Ki x0 (au.mk ah)).1 (bn.Qh aH) rfl rfl (by omega), hS 0 true (bn.Q7 (aH ++ [(s_Ki x0 (au.mk ah)).1]) 4 rfl), hP 1 (Q26 i0 (by omega))] [aN (t_Ki x0 (au.mk ah) (H.2.1 x0 (Q2l bU)))] hr (by kernel_rfl)
theorem Q18j (p1 : Val) (p2 : BA) (o0 : au) (H : Qk7 p1 p2 o0) : ∀ (r0 : List Val) (i0 : Nat) (ah : Bool) (aH : List bn), List.drop i0 (s_Kd p1 p2 4 o0).1.list = r0 → List.length aH ≤ i0 → Qwz p1 p2 o0 (Qv8 p1 p2 o0 i0 ah aH) (Q7o p1 p2 o0 r0 i0 ah aH)
 | [], i0, ah, aH, hd, aT => by
  have bG : (decide ((i0 : Int) < ((List.length (s_Kd p1 p2 4 o0).1.list) : Int))) = false := by have := Q1c hd; simp; omega
  rw [Q7o]
  exact Q1kv p1 p2 o0 H i0 ah aH aT bG
 | x0 :: r0, i0, ah, aH, hd, aT => by
  obtain ⟨bU, dG, hd'⟩ := Q19 hd
  have bG : (decide ((i0 : Int) < ((List.length (s_Kd p1 p2 4 o0).1.list) : Int))) = true := by simp; omega
  rw [Q7o]
  exact Q10a p1 p2 o0 (fun r hr => Q1is p1 p2 o0 H x0 i0 ah aH bU dG aT bG hr) _ (Q18j p1 p2 o0 H r0 _ _ _ hd' (by first | omega | (simp; omega)))
def s_Kz (p1 : Val) (p2 : BA) (o0 : au) : List bn × au := ((dE bn.dec p1 p2).1, ft o0 (isM p1 && (dE bn.dec p1 p2).2))
theorem Q1jm (p1 : Val) (p2 : BA) (o0 : au) : ∀ (l : List Val) (i : Nat) (b : Bool) (a : List bn), Q7o p1 p2 o0 l i b a = (b || !(l.all fun x => (bn.dec x).2), a ++ l.map (fun x => (bn.dec x).1))
  | [], _, b, a => by rw [Q7o]; simp
  | x :: l, i, b, a => by
    rw [Q7o]
    refine (Q1jm p1 p2 o0 l (i + 1) (b || !(bn.dec x).2) (a ++ [(bn.dec x).1])).trans ?_
    simp only [List.append_assoc, List.singleton_append, List.map_cons, List.all_cons, Bool.not_and, Bool.or_assoc]
theorem e_Kz (p1 : Val) (p2 : BA) (o0 : au) : s_Kz p1 p2 o0 = (((Q7o p1 p2 o0 (s_Kd p1 p2 4 o0).1.list 0 (s_Kd p1 p2 4 o0).2.bA []).2, (au.mk (Q7o p1 p2 o0 (s_Kd p1 p2 4 o0).1.list 0 (s_Kd p1 p2 4 o0).2.bA []).1))) := by
  rw [Q1jm]
  unfold s_Kd s_Kz
  simp only [Qak, Q5j]
  refine Prod.ext rfl ?_
  rw [Qa5 o0.bA (isM p1) _ _ _ (Qyo (prt p1 p2)), Q6o]
  rfl
def c_Kz (p1 : Val) (p2 : BA) (o0 : au) : En := .call 276 [.bx 0 0, .agg (Val.cells p1), .str p2, .fn 277 [.bx 0 0] []] [⟨1, 0, false, (au.cells o0)⟩]
def r_Kz (_p1 : Val) (_p2 : BA) (_o0 : au) (q0 : List bn) (q1 : au) : Rs := .ret (.sl (bn.rows q0)) [⟨1, 0, false, (au.cells q1)⟩]
def a_Kz (p1 : Val) (p2 : BA) (o0 : au) : Rs := r_Kz p1 p2 o0 (s_Kz p1 p2 o0).1 (s_Kz p1 p2 o0).2
def H_Kz (p1 : Val) : Prop := Val.Sm 1000000000 p1
theorem Q1i0 (p1 : Val) (p2 : BA) (o0 : au) (H : H_Kz p1) : (H_Kd p1) ∧ (Qk7 p1 p2 o0) ∧ True := by
  have hl := Qeh (Q3d H p2)
  refine ⟨H, ?_, trivial⟩
  unfold Qk7 s_Kd
  simp only [Qak]
  exact ⟨Nat.le_trans hl.1 (Nat.le_of_ble_eq_true rfl), hl.2, trivial⟩
theorem t_Kz (p1 : Val) (p2 : BA) (o0 : au) (H : H_Kz p1) : Q0 G (c_Kz p1 p2 o0) (a_Kz p1 p2 o0) := by
 unfold a_Kz
 rw [e_Kz]
 have hl0 := Q18j p1 p2 o0 ((Q1i0 p1 p2 o0 H).2.1) (s_Kd p1 p2 4 o0).1.list 0 (s_Kd p1 p2 4 o0).2.bA [] (by simp) (by simp)
 obtain ⟨z0, gq, hl0⟩ := hl0
 exact Q5 (fn := Ir.Kz) (by kernel_rfl) (h := [⟨1, 0, false, (au.cells o0)⟩]) (vw := []) VOK.nil [hP 8 (Qw _ _ (Val.Q8 (s_Kd p1 p2 4 o0).1.list)), hS 0 true (bn.Q7 (Q7o p1 p2 o0 (s_Kd p1 p2 4 o0).1.list 0 (s_Kd p1 p2 4 o0).2.bA []).2 4 rfl), hQ (bn.Q8 (Q7o p1 p2 o0 (s_Kd p1 p2 4 o0).1.list 0 (s_Kd p1 p2 4 o0).2.bA []).2).symm] [aN (t_Kd p1 p2 4 o0 (Q1i0 p1 p2 o0 H).1), aV [(1, bn.rows (Q7o p1 p2 o0 (s_Kd p1 p2 4 o0).1.list 0 (s_Kd p1 p2 4 o0).2.bA []).2)] hl0] (by kernel_rfl)
def s_Kb (p1 : Val) (o0 : au) : aD × au := ((aD.dec p1).1, ft o0 (aD.dec p1).2)
theorem e_Kb (p1 : Val) (o0 : au) : s_Kb p1 o0 = (((aD.mk (s_Kn p1 Q1b (s_Ko p1 o0).2).1 (s_Kn p1 Q14 (s_Kn p1 Q1b (s_Ko p1 o0).2).2).1 (s_Kk (s_Kp p1 Qj (s_Kn p1 Q14 (s_Kn p1 Q1b (s_Ko p1 o0).2).2).2).1 (s_Kp p1 Qj (s_Kn p1 Q14 (s_Kn p1 Q1b (s_Ko p1 o0).2).2).2).2).1 (s_Kk (s_Kp p1 Q27 (s_Kk (s_Kp p1 Qj (s_Kn p1 Q14 (s_Kn p1 Q1b (s_Ko p1 o0).2).2).2).1 (s_Kp p1 Qj (s_Kn p1 Q14 (s_Kn p1 Q1b (s_Ko p1 o0).2).2).2).2).2).1 (s_Kp p1 Q27 (s_Kk (s_Kp p1 Qj (s_Kn p1 Q14 (s_Kn p1 Q1b (s_Ko p1 o0).2).2).2).1 (s_Kp p1 Qj (s_Kn p1 Q14 (s_Kn p1 Q1b (s_Ko p1 o0).2).2).2).2).2).2).1 (s_Kz p1 Q3z (s_Kk (s_Kp p1 Q27 (s_Kk (s_Kp p1 Qj (s_Kn p1 Q14 (s_Kn p1 Q1b (s_Ko p1 o0).2).2).2).1 (s_Kp p1 Qj (s_Kn p1 Q14 (s_Kn p1 Q1b (s_Ko p1 o0).2).2).2).2).2).1 (s_Kp p1 Q27 (s_Kk (s_Kp p1 Qj (s_Kn p1 Q14 (s_Kn p1 Q1b (s_Ko p1 o0).2).2).2).1 (s_Kp p1 Qj (s_Kn p1 Q14 (s_Kn p1 Q1b (s_Ko p1 o0).2).2).2).2).2).2).2).1 (s_Kz p1 Q1o (s_Kz p1 Q3z (s_Kk (s_Kp p1 Q27 (s_Kk (s_Kp p1 Qj (s_Kn p1 Q14 (s_Kn p1 Q1b (s_Ko p1 o0).2).2).2).1 (s_Kp p1 Qj (s_Kn p1 Q14 (s_Kn p1 Q1b (s_Ko p1 o0).2).2).2).2).2).1 (s_Kp p1 Q27 (s_Kk (s_Kp p1 Qj (s_Kn p1 Q14 (s_Kn p1 Q1b (s_Ko p1 o0).2).2).2).1 (s_Kp p1 Qj (s_Kn p1 Q14 (s_Kn p1 Q1b (s_Ko p1 o0).2).2).2).2).2).2).2).2).1 (s_Kz p1 Q34 (s_Kz p1 Q1o (s_Kz p1 Q3z (s_Kk (s_Kp p1 Q27 (s_Kk (s_Kp p1 Qj (s_Kn p1 Q14 (s_Kn p1 Q1b (s_Ko p1 o0).2).2).2).1 (s_Kp p1 Qj (s_Kn p1 Q14 (s_Kn p1 Q1b (s_Ko p1 o0).2).2).2).2).2).1 (s_Kp p1 Q27 (s_Kk (s_Kp p1 Qj (s_Kn p1 Q14 (s_Kn p1 Q1b (s_Ko p1 o0).2).2).2).1 (s_Kp p1 Qj (s_Kn p1 Q14 (s_Kn p1 Q1b (s_Ko p1 o0).2).2).2).2).2).2).2).2).2).1), (s_Kz p1 Q34 (s_Kz p1 Q1o (s_Kz p1 Q3z (s_Kk (s_Kp p1 Q27 (s_Kk (s_Kp p1 Qj (s_Kn p1 Q14 (s_Kn p1 Q1b (s_Ko p1 o0).2).2).2).1 (s_Kp p1 Qj (s_Kn p1 Q14 (s_Kn p1 Q1b (s_Ko p1 o0).2).2).2).2).2).1 (s_Kp p1 Q27 (s_Kk (s_Kp p1 Qj (s_Kn p1 Q14 (s_Kn p1 Q1b (s_Ko p1 o0).2).2).2).1 (s_Kp p1 Qj (s_Kn p1 Q14 (s_Kn p1 Q1b (s_Ko p1 o0).2).2).2).2).2).2).2).2).2).2)) := by
  simp only [s_Ko, s_Kn, s_Kp, s_Kk, s_Kz, s_Kb, aD.dec, bf.sub1, bf.sub2, Qnv, Bool.and_assoc, Bool.and_left_comm, Bool.and_comm, Bool.and_self_left]
def c_Kb (p1 : Val) (o0 : au) : En := .call 242 [.bx 0 0, .agg (Val.cells p1)] [⟨1, 0, false, (au.cells o0)⟩]
def r_Kb (_p1 : Val) (_o0 : au) (q0 : aD) (q1 : au) : Rs := .ret (.agg (aD.cells q0)) [⟨1, 0, false, (au.cells q1)⟩]
def a_Kb (p1 : Val) (o0 : au) : Rs := r_Kb p1 o0 (s_Kb p1 o0).1 (s_Kb p1 o0).2
def H_Kb (p1 : Val) : Prop := Val.Sm 1000000000 p1
theorem Qac (p1 : Val) (o0 : au) (H : H_Kb p1) : (H_Kn p1) ∧ (H_Kp p1) ∧ (H_Kk (s_Kp p1 Qj (s_Kn p1 Q14 (s_Kn p1 Q1b (s_Ko p1 o0).2).2).2).1) ∧ (H_Kk (s_Kp p1 Q27 (s_Kk (s_Kp p1 Qj (s_Kn p1 Q14 (s_Kn p1 Q1b (s_Ko p1 o0).2).2).2).1 (s_Kp p1 Qj (s_Kn p1 Q14 (s_Kn p1 Q1b (s_Ko p1 o0).2).2).2).2).2).1) ∧ (H_Kz p1) ∧ True := by
  repeat' with_reducible apply And.intro
  all_goals first | exact True.intro | exact H | exact Qoq (Q3d H _)
theorem t_Kb (p1 : Val) (o0 : au) (H : H_Kb p1) : Q0 G (c_Kb p1 o0) (a_Kb p1 o0) := by
 unfold a_Kb
 rw [e_Kb]
 exact Q5 (fn := Ir.Kb) (by kernel_rfl) (h := [⟨1, 0, false, (au.cells o0)⟩]) (vw := []) VOK.nil [] [aN (t_Ko p1 o0), aN (t_Kn p1 Q1b (s_Ko p1 o0).2 (Qac p1 o0 H).1), aN (t_Kn p1 Q14 (s_Kn p1 Q1b (s_Ko p1 o0).2).2 (Qac p1 o0 H).1), aN (t_Kp p1 Qj (s_Kn p1 Q14 (s_Kn p1 Q1b (s_Ko p1 o0).2).2).2 (Qac p1 o0 H).2.1), aN (t_Kk (s_Kp p1 Qj (s_Kn p1 Q14 (s_Kn p1 Q1b (s_Ko p1 o0).2).2).2).1 (s_Kp p1 Qj (s_Kn p1 Q14 (s_Kn p1 Q1b (s_Ko p1 o0).2).2).2).2 (Qac p1 o0 H).2.2.1), aN (t_Kp p1 Q27 (s_Kk (s_Kp p1 Qj (s_Kn p1 Q14 (s_Kn p1 Q1b (s_Ko p1 o0).2).2).2).1 (s_Kp p1 Qj (s_Kn p1 Q14 (s_Kn p1 Q1b (s_Ko p1 o0).2).2).2).2).2 (Qac p1 o0 H).2.1), aN (t_Kk (s_Kp p1 Q27 (s_Kk (s_Kp p1 Qj (s_Kn p1 Q14 (s_Kn p1 Q1b (s_Ko p1 o0).2).2).2).1 (s_Kp p1 Qj (s_Kn p1 Q14 (s_Kn p1 Q1b (s_Ko p1 o0).2).2).2).2).2).1 (s_Kp p1 Q27 (s_Kk (s_Kp p1 Qj (s_Kn p1 Q14 (s_Kn p1 Q1b (s_Ko p1 o0).2).2).2).1 (s_Kp p1 Qj (s_Kn p1 Q14 (s_Kn p1 Q1b (s_Ko p1 o0).2).2).2).2).2).2 (Qac p1 o0 H).2.2.2.1), aN (t_Kz p1 Q3z (s_Kk (s_Kp p1 Q27 (s_Kk (s_Kp p1 Qj (s_Kn p1 Q14 (s_Kn p1 Q1b (s_Ko p1 o0).2).2).2).1 (s_Kp p1 Qj (s_Kn p1 Q14 (s_Kn p1 Q1b (s_Ko p1 o0).2).2).2).2).2).1 (s_Kp p1 Q27 (s_Kk (s_Kp p1 Qj (s_Kn p1 Q14 (s_Kn p1 Q1b (s_Ko p1 o0).2).2).2).1 (s_Kp p1 Qj (s_Kn p1 Q14 (s_Kn p1 Q1b (s_Ko p1 o0).2).2).2).2).2).2).2 (Qac p1 o0 H).2.2.2.2.1), aN (t_Kz p1 Q1o (s_Kz p1 Q3z (s_Kk (s_Kp p1 Q27 (s_Kk (s_Kp p1 Qj (s_Kn p1 Q14 (s_Kn p1 Q1b (s_Ko p1 o0).2).2).2).1 (s_Kp p1 Qj (s_Kn p1 Q14 (s_Kn p1 Q1b (s_Ko p1 o0).2).2).2).2).2).1 (s_Kp p1 Q27 (s_Kk (s_Kp p1 Qj (s_Kn p1 Q14 (s_Kn p1 Q1b (s_Ko p1 o0).2).2).2).1 (s_Kp p1 Qj (s_Kn p1 Q14 (s_Kn p1 Q1b (s_Ko p1 o0).2).2).2).2).2).2).2).2 (Qac p1 o0 H).2.2.2.2.1), aN (t_Kz p1 Q34 (s_Kz p1 Q1o (s_Kz p1 Q3z (s_Kk (s_Kp p1 Q27 (s_Kk (s_Kp p1 Qj (s_Kn p1 Q14 (s_Kn p1 Q1b (s_Ko p1 o0).2).2).2).1 (s_Kp p1 Qj (s_Kn p1 Q14 (s_Kn p1 Q1b (s_Ko p1 o0).2).2).2).2).2).1 (s_Kp p1 Q27 (s_Kk (s_Kp p1 Qj (s_Kn p1 Q14 (s_Kn p1 Q1b (s_Ko p1 o0).2).2).2).1 (s_Kp p1 Qj (s_Kn p1 Q14 (s_Kn p1 Q1b (s_Ko p1 o0).2).2).2).2).2).2).2).2).2 (Qac p1 o0 H).2.2.2.2.1)] (by kernel_rfl)
def Q7i (p1 : Val) (p2 : BA) (o0 : au) : List Val → Nat → Bool → (List aD) → Bool × (List aD)
 | [], _i0, ah, aH =>
  (ah, aH)
 | x0 :: r0, i0, ah, aH =>
  Q7i p1 p2 o0 r0 (i0 + 1) (s_Kb x0 (au.mk ah)).2.bA (aH ++ [(s_Kb x0 (au.mk ah)).1])
def Q1l1 (p1 : Val) (p2 : BA) (o0 : au) (i0 : Nat) (_ah : Bool) (aH : List aD) : List PV :=
  [.un, .un, .un, .fn 242 [.bx 0 0] []] ++ nuns 5 ++ [.ms 1 11 0 (List.length aH)] ++ nuns 6 ++ [.sl (Val.rows (s_Kd p1 p2 4 o0).1.list), iN ((List.length (s_Kd p1 p2 4 o0).1.list) : Int), iN (i0 : Int)] ++ nuns 11
def Q15j (_p1 : Val) (_p2 : BA) (_o0 : au) (_i0 : Nat) (ah : Bool) (aH : List aD) : List Ob :=
  [⟨1, 0, false, [.bool ah]⟩, ⟨11, 0, true, (aD.rows aH).flatten⟩]
def Qv2 (p1 : Val) (p2 : BA) (o0 : au) (i0 : Nat) (ah : Bool) (aH : List aD) : En := .loop 1 Ir.Qq9 Ir.Q1wf (Q1l1 p1 p2 o0 i0 ah aH) (Q15j p1 p2 o0 i0 ah aH)
def Q10e (_p1 : Val) (_p2 : BA) (_o0 : au) (q0 : Bool) (q1 : List aD) (z : Nat → PV) (_zo : Nat → List PV) : St :=
  ⟨zr z 0 9 ++ [.ms 1 11 0 (List.length q1)] ++ zr z 10 20, [(0, ⟨1, 0, false, [.bool q0]⟩), (1, ⟨11, 0, true, (aD.rows q1).flatten⟩)], 66⟩
theorem Q1h1 (p1 : Val) (p2 : BA) (o0 : au) (i0 : Nat) (ah : Bool) (aH : List aD) : VOK (Go.Pv.look (number 0 (Q15j p1 p2 o0 i0 ah aH))) [(1, aD.rows aH)] := (VOK.cons (show Seen _ _ from Q3o (ob := ⟨11, 0, true, (aD.rows aH).flatten⟩) (aD.Q7 aH 11 rfl)) VOK.nil)
def Qwt (p1 : Val) (p2 : BA) (o0 : au) (e : En) (q : Bool × (List aD)) : Prop := ∃ z zo, Q0 G e (.st (.exit 0) (Q10e p1 p2 o0 q.1 q.2 z zo))
theorem Q104 (p1 : Val) (p2 : BA) (o0 : au) {e e' : En} (h : ∀ r, Q0 G e r → Q0 G e' r) : ∀ q, Qwt p1 p2 o0 e q → Qwt p1 p2 o0 e' q
  | _, ⟨z, zo, hz⟩ => ⟨z, zo, h _ hz⟩
def Qk1 (p1 : Val) (p2 : BA) (o0 : au) : Prop := (List.length (s_Kd p1 p2 4 o0).1.list ≤ 137438953472) ∧ (∀ x0 ∈ (s_Kd p1 p2 4 o0).1.list, H_Kb x0) ∧ True
def Q10o (p1 : Val) (p2 : BA) (o0 : au) (i0 : Nat) (_ah : Bool) (_aH : List aD) : List PV :=
  [.un, .un, .un, .fn 242 [.bx 0 0] []] ++ nuns 12 ++ [.sl (Val.rows (s_Kd p1 p2 4 o0).1.list), iN ((List.length (s_Kd p1 p2 4 o0).1.list) : Int), iN (i0 : Int), .bool false]
def Qs1 (_p1 : Val) (_p2 : BA) (_o0 : au) (_i0 : Nat) (_ah : Bool) (_aH : List aD) : List (Nat × List PV) :=
  []
theorem Q1kp (p1 : Val) (p2 : BA) (o0 : au) (_H : Qk1 p1 p2 o0) (i0 : Nat) (ah : Bool) (aH : List aD) (_aT : List.length aH ≤ i0) (bG : (decide ((i0 : Int) < ((List.length (s_Kd p1 p2 4 o0).1.list) : Int))) = false) : Qwt p1 p2 o0 (Qv2 p1 p2 o0 i0 ah aH) (ah, aH) := by
 exact ⟨(envF (Q10o p1 p2 o0 i0 ah aH)), (zoF (Qs1 p1 p2 o0 i0 ah aH)), Qd (Q1h1 p1 p2 o0 i0 ah aH) (x := ((.exit 0), Q10e p1 p2 o0 ah aH (envF (Q10o p1 p2 o0 i0 ah aH)) (zoF (Qs1 p1 p2 o0 i0 ah aH)))) [hB 0 bG] [] (by kernel_rfl)⟩
theorem Q1im (p1 : Val) (p2 : BA) (o0 : au) (H : Qk1 p1 p2 o0) (x0 : Val) (i0 : Nat) (ah : Bool) (aH : List aD) (bU : (s_Kd p1 p2 4 o0).1.list[i0]? = some x0) (dG : i0 < List.length (s_Kd p1 p2 4 o0).1.list) (aT : List.length aH ≤ i0) (bG : (decide ((i0 : Int) < ((List.length (s_Kd p1 p2 4 o0).1.list) : Int))) = true) {r : Rs} (hr : Q0 G (Qv2 p1 p2 o0 (i0 + 1) (s_Kb x0 (au.mk ah)).2.bA (aH ++ [(s_Kb x0 (au.mk ah)).1])) r) : Q0 G (Qv2 p1 p2 o0 i0 ah aH) r := by
 have hB0 := H.1
 exact Qc (Q1h1 p1 p2 o0 i0 ah aH) [hB 0 bG, hP 0 (Q2q 5 _ i0 _ (Val.Qg bU) rfl), hA 8 1 578 642 11 152 0 0 true aD.Q8 aD.Q1g aH (s_Kb x0 (au.mk ah)).1 (aD.Qh aH) rfl rfl (by omega), hS 0 true (aD.Q7 (aH ++ [(s_Kb x0 (au.mk ah)).1]) 11 rfl), hP 1 (Q26 i0 (by omega))] [aN (t_Kb x0 (au.mk ah) (H.2.1 x0 (Q2l bU)))] hr (by kernel_rfl)
theorem Q18d (p1 : Val) (p2 : BA) (o0 : au) (H : Qk1 p1 p2 o0) : ∀ (r0 : List Val) (i0 : Nat) (ah : Bool) (aH : List aD), List.drop i0 (s_Kd p1 p2 4 o0).1.list = r0 → List.length aH ≤ i0 → Qwt p1 p2 o0 (Qv2 p1 p2 o0 i0 ah aH) (Q7i p1 p2 o0 r0 i0 ah aH)
 | [], i0, ah, aH, hd, aT => by
  have bG : (decide ((i0 : Int) < ((List.length (s_Kd p1 p2 4 o0).1.list) : Int))) = false := by have := Q1c hd; simp; omega
  rw [Q7i]
  exact Q1kp p1 p2 o0 H i0 ah aH aT bG
 | x0 :: r0, i0, ah, aH, hd, aT => by
  obtain ⟨bU, dG, hd'⟩ := Q19 hd
  have bG : (decide ((i0 : Int) < ((List.length (s_Kd p1 p2 4 o0).1.list) : Int))) = true := by simp; omega
  rw [Q7i]
  exact Q104 p1 p2 o0 (fun r hr => Q1im p1 p2 o0 H x0 i0 ah aH bU dG aT bG hr) _ (Q18d p1 p2 o0 H r0 _ _ _ hd' (by first | omega | (simp; omega)))
def s_Kt (p1 : Val) (p2 : BA) (o0 : au) : List aD × au := ((dE aD.dec p1 p2).1, ft o0 (isM p1 && (dE aD.dec p1 p2).2))
theorem Q1jg (p1 : Val) (p2 : BA) (o0 : au) : ∀ (l : List Val) (i : Nat) (b : Bool) (a : List aD), Q7i p1 p2 o0 l i b a = (b || !(l.all fun x => (aD.dec x).2), a ++ l.map (fun x => (aD.dec x).1))
  | [], _, b, a => by rw [Q7i]; simp
  | x :: l, i, b, a => by
    rw [Q7i]
    refine (Q1jg p1 p2 o0 l (i + 1) (b || !(aD.dec x).2) (a ++ [(aD.dec x).1])).trans ?_
    simp only [List.append_assoc, List.singleton_append, List.map_cons, List.all_cons, Bool.not_and, Bool.or_assoc]
theorem e_Kt (p1 : Val) (p2 : BA) (o0 : au) : s_Kt p1 p2 o0 = (((Q7i p1 p2 o0 (s_Kd p1 p2 4 o0).1.list 0 (s_Kd p1 p2 4 o0).2.bA []).2, (au.mk (Q7i p1 p2 o0 (s_Kd p1 p2 4 o0).1.list 0 (s_Kd p1 p2 4 o0).2.bA []).1))) := by
  rw [Q1jg]
  unfold s_Kd s_Kt
  simp only [Qak, Q5j]
  refine Prod.ext rfl ?_
  rw [Qa5 o0.bA (isM p1) _ _ _ (Qyo (prt p1 p2)), Q6o]
  rfl
def c_Kt (p1 : Val) (p2 : BA) (o0 : au) : En := .call 241 [.bx 0 0, .agg (Val.cells p1), .str p2, .fn 242 [.bx 0 0] []] [⟨1, 0, false, (au.cells o0)⟩]
def r_Kt (_p1 : Val) (_p2 : BA) (_o0 : au) (q0 : List aD) (q1 : au) : Rs := .ret (.sl (aD.rows q0)) [⟨1, 0, false, (au.cells q1)⟩]
def a_Kt (p1 : Val) (p2 : BA) (o0 : au) : Rs := r_Kt p1 p2 o0 (s_Kt p1 p2 o0).1 (s_Kt p1 p2 o0).2
def H_Kt (p1 : Val) : Prop := Val.Sm 1000000000 p1
theorem Q1hu (p1 : Val) (p2 : BA) (o0 : au) (H : H_Kt p1) : (H_Kd p1) ∧ (Qk1 p1 p2 o0) ∧ True := by
  have hl := Qeh (Q3d H p2)
  refine ⟨H, ?_, trivial⟩
  unfold Qk1 s_Kd
  simp only [Qak]
  exact ⟨Nat.le_trans hl.1 (Nat.le_of_ble_eq_true rfl), hl.2, trivial⟩
theorem t_Kt (p1 : Val) (p2 : BA) (o0 : au) (H : H_Kt p1) : Q0 G (c_Kt p1 p2 o0) (a_Kt p1 p2 o0) := by
 unfold a_Kt
 rw [e_Kt]
 have hl0 := Q18d p1 p2 o0 ((Q1hu p1 p2 o0 H).2.1) (s_Kd p1 p2 4 o0).1.list 0 (s_Kd p1 p2 4 o0).2.bA [] (by simp) (by simp)
 obtain ⟨z0, gq, hl0⟩ := hl0
 exact Q5 (fn := Ir.Kt) (by kernel_rfl) (h := [⟨1, 0, false, (au.cells o0)⟩]) (vw := []) VOK.nil [hP 8 (Qw _ _ (Val.Q8 (s_Kd p1 p2 4 o0).1.list)), hS 0 true (aD.Q7 (Q7i p1 p2 o0 (s_Kd p1 p2 4 o0).1.list 0 (s_Kd p1 p2 4 o0).2.bA []).2 11 rfl), hQ (aD.Q8 (Q7i p1 p2 o0 (s_Kd p1 p2 4 o0).1.list 0 (s_Kd p1 p2 4 o0).2.bA []).2).symm] [aN (t_Kd p1 p2 4 o0 (Q1hu p1 p2 o0 H).1), aV [(1, aD.rows (Q7i p1 p2 o0 (s_Kd p1 p2 4 o0).1.list 0 (s_Kd p1 p2 4 o0).2.bA []).2)] hl0] (by kernel_rfl)
def s_Kq (p1 : Val) (o0 : au) : ByteArray × au := ((xS p1).1, ft o0 (xS p1).2)
theorem e_Kq (p1 : Val) (o0 : au) : s_Kq p1 o0 = (bif o0.bA then
    bif (p1.kind == 3) then
      (p1.s, (au.mk true))
    else
      (eB, (au.mk true))
  else
    bif (p1.kind == 3) then
      (p1.s, (au.mk false))
    else
      (eB, (au.mk (!(p1.kind == 0))))) := by
  obtain ⟨b⟩ := o0
  unfold s_Kq ft xS
  cases b <;> cases (p1.kind == 3) <;> cases (p1.kind == 0) <;> rfl
def c_Kq (p1 : Val) (o0 : au) : En := .call 279 [.bx 0 0, .agg (Val.cells p1)] [⟨1, 0, false, (au.cells o0)⟩]
def r_Kq (_p1 : Val) (_o0 : au) (q0 : BA) (q1 : au) : Rs := .ret (.str q0) [⟨1, 0, false, (au.cells q1)⟩]
def a_Kq (p1 : Val) (o0 : au) : Rs := r_Kq p1 o0 (s_Kq p1 o0).1 (s_Kq p1 o0).2
theorem t_Kq (p1 : Val) (o0 : au) : Q0 G (c_Kq p1 o0) (a_Kq p1 o0) := by
 unfold a_Kq
 rw [e_Kq]
 cases h0 : o0.bA with
 | true =>
  cases h1 : (p1.kind == 3) with
  | true =>
   exact Q5 (fn := Ir.Kq) (by kernel_rfl) (h := [⟨1, 0, false, (au.cells o0)⟩]) (vw := []) VOK.nil [hP 6 (decR o0.bA true [0] h0), hP 15 (dec (!(p1.kind == 3)) false (by rw [h1]; rfl))] [] (by kernel_rfl)
  | false =>
   exact Q5 (fn := Ir.Kq) (by kernel_rfl) (h := [⟨1, 0, false, (au.cells o0)⟩]) (vw := []) VOK.nil [hP 6 (decR o0.bA true [0] h0), hP 15 (dec (!(p1.kind == 3)) true (by rw [h1]; rfl))] [] (by kernel_rfl)
 | false =>
  cases h1 : (p1.kind == 3) with
  | true =>
   exact Q5 (fn := Ir.Kq) (by kernel_rfl) (h := [⟨1, 0, false, (au.cells o0)⟩]) (vw := []) VOK.nil [hP 6 (decR o0.bA false [0] h0), hP 3 (dec (!(p1.kind == 3)) false (by rw [h1]; rfl)), hP 11 (dec (!(p1.kind == 3)) false (by rw [h1]; rfl))] [] (by kernel_rfl)
  | false =>
   exact Q5 (fn := Ir.Kq) (by kernel_rfl) (h := [⟨1, 0, false, (au.cells o0)⟩]) (vw := []) VOK.nil [hP 6 (decR o0.bA false [0] h0), hP 3 (dec (!(p1.kind == 3)) true (by rw [h1]; rfl)), hP 11 (dec (!(p1.kind == 3)) true (by rw [h1]; rfl))] [] (by kernel_rfl)
def Q5r (p1 : Val) (p2 : BA) (o0 : au) : List Val → Nat → Bool → (List ByteArray) → Bool × (List ByteArray)
 | [], _i0, ah, aH =>
  (ah, aH)
 | x0 :: r0, i0, ah, aH =>
  Q5r p1 p2 o0 r0 (i0 + 1) (s_Kq x0 (au.mk ah)).2.bA (aH ++ [(s_Kq x0 (au.mk ah)).1])
def Q1ew (p1 : Val) (p2 : BA) (o0 : au) (i0 : Nat) (_ah : Bool) (aH : List ByteArray) : List PV :=
  [.un, .un, .un, .fn 279 [.bx 0 0] []] ++ nuns 5 ++ [.ms 1 1 0 (List.length aH)] ++ nuns 6 ++ [.sl (Val.rows (s_Kd p1 p2 4 o0).1.list), iN ((List.length (s_Kd p1 p2 4 o0).1.list) : Int), iN (i0 : Int)] ++ nuns 11
def Qys (_p1 : Val) (_p2 : BA) (_o0 : au) (_i0 : Nat) (ah : Bool) (aH : List ByteArray) : List Ob :=
  [⟨1, 0, false, [.bool ah]⟩, ⟨1, 0, true, (Q18 aH).flatten⟩]
def Qge (p1 : Val) (p2 : BA) (o0 : au) (i0 : Nat) (ah : Bool) (aH : List ByteArray) : En := .loop 1 Ir.Qk8 Ir.Q1o6 (Q1ew p1 p2 o0 i0 ah aH) (Qys p1 p2 o0 i0 ah aH)
def Qql (_p1 : Val) (_p2 : BA) (_o0 : au) (q0 : Bool) (q1 : List ByteArray) (z : Nat → PV) (_zo : Nat → List PV) : St :=
  ⟨zr z 0 9 ++ [.ms 1 1 0 (List.length q1)] ++ zr z 10 20, [(0, ⟨1, 0, false, [.bool q0]⟩), (1, ⟨1, 0, true, (Q18 q1).flatten⟩)], 66⟩
theorem Q15t (p1 : Val) (p2 : BA) (o0 : au) (i0 : Nat) (ah : Bool) (aH : List ByteArray) : VOK (Go.Pv.look (number 0 (Qys p1 p2 o0 i0 ah aH))) [(1, Q18 aH)] := (VOK.cons (show Seen _ _ from Q3o (ob := ⟨1, 0, true, (Q18 aH).flatten⟩) (Q4y aH 1 rfl)) VOK.nil)
def Qii (p1 : Val) (p2 : BA) (o0 : au) (e : En) (q : Bool × (List ByteArray)) : Prop := ∃ z zo, Q0 G e (.st (.exit 0) (Qql p1 p2 o0 q.1 q.2 z zo))
theorem Qvg (p1 : Val) (p2 : BA) (o0 : au) {e e' : En} (h : ∀ r, Q0 G e r → Q0 G e' r) : ∀ q, Qii p1 p2 o0 e q → Qii p1 p2 o0 e' q
  | _, ⟨z, zo, hz⟩ => ⟨z, zo, h _ hz⟩
def Qd1 (p1 : Val) (p2 : BA) (o0 : au) : Prop := (List.length (s_Kd p1 p2 4 o0).1.list ≤ 137438953472) ∧ True
def Qs8 (p1 : Val) (p2 : BA) (o0 : au) (i0 : Nat) (_ah : Bool) (_aH : List ByteArray) : List PV :=
  [.un, .un, .un, .fn 279 [.bx 0 0] []] ++ nuns 12 ++ [.sl (Val.rows (s_Kd p1 p2 4 o0).1.list), iN ((List.length (s_Kd p1 p2 4 o0).1.list) : Int), iN (i0 : Int), .bool false]
def Qly (_p1 : Val) (_p2 : BA) (_o0 : au) (_i0 : Nat) (_ah : Bool) (_aH : List ByteArray) : List (Nat × List PV) :=
  []
theorem Q1da (p1 : Val) (p2 : BA) (o0 : au) (_H : Qd1 p1 p2 o0) (i0 : Nat) (ah : Bool) (aH : List ByteArray) (_aT : List.length aH ≤ i0) (bG : (decide ((i0 : Int) < ((List.length (s_Kd p1 p2 4 o0).1.list) : Int))) = false) : Qii p1 p2 o0 (Qge p1 p2 o0 i0 ah aH) (ah, aH) := by
 exact ⟨(envF (Qs8 p1 p2 o0 i0 ah aH)), (zoF (Qly p1 p2 o0 i0 ah aH)), Qd (Q15t p1 p2 o0 i0 ah aH) (x := ((.exit 0), Qql p1 p2 o0 ah aH (envF (Qs8 p1 p2 o0 i0 ah aH)) (zoF (Qly p1 p2 o0 i0 ah aH)))) [hB 0 bG] [] (by kernel_rfl)⟩
theorem Q1ap (p1 : Val) (p2 : BA) (o0 : au) (H : Qd1 p1 p2 o0) (x0 : Val) (i0 : Nat) (ah : Bool) (aH : List ByteArray) (bU : (s_Kd p1 p2 4 o0).1.list[i0]? = some x0) (dG : i0 < List.length (s_Kd p1 p2 4 o0).1.list) (aT : List.length aH ≤ i0) (bG : (decide ((i0 : Int) < ((List.length (s_Kd p1 p2 4 o0).1.list) : Int))) = true) {r : Rs} (hr : Q0 G (Qge p1 p2 o0 (i0 + 1) (s_Kq x0 (au.mk ah)).2.bA (aH ++ [(s_Kq x0 (au.mk ah)).1])) r) : Q0 G (Qge p1 p2 o0 i0 ah aH) r := by
 have hB0 := H.1
 exact Qc (Q15t p1 p2 o0 i0 ah aH) [hB 0 bG, hP 0 (Q2q 5 _ i0 _ (Val.Qg bU) rfl), hA 8 1 578 642 1 16 0 0 true Q2s Qor aH (s_Kq x0 (au.mk ah)).1 (Qcu aH) rfl rfl (by omega), hS 0 true (Q4y (aH ++ [(s_Kq x0 (au.mk ah)).1]) 1 rfl), hP 1 (Q26 i0 (by omega))] [aN (t_Kq x0 (au.mk ah))] hr (by kernel_rfl)
theorem Q11i (p1 : Val) (p2 : BA) (o0 : au) (H : Qd1 p1 p2 o0) : ∀ (r0 : List Val) (i0 : Nat) (ah : Bool) (aH : List ByteArray), List.drop i0 (s_Kd p1 p2 4 o0).1.list = r0 → List.length aH ≤ i0 → Qii p1 p2 o0 (Qge p1 p2 o0 i0 ah aH) (Q5r p1 p2 o0 r0 i0 ah aH)
 | [], i0, ah, aH, hd, aT => by
  have bG : (decide ((i0 : Int) < ((List.length (s_Kd p1 p2 4 o0).1.list) : Int))) = false := by have := Q1c hd; simp; omega
  rw [Q5r]
  exact Q1da p1 p2 o0 H i0 ah aH aT bG
 | x0 :: r0, i0, ah, aH, hd, aT => by
  obtain ⟨bU, dG, hd'⟩ := Q19 hd
  have bG : (decide ((i0 : Int) < ((List.length (s_Kd p1 p2 4 o0).1.list) : Int))) = true := by simp; omega
  rw [Q5r]
  exact Qvg p1 p2 o0 (fun r hr => Q1ap p1 p2 o0 H x0 i0 ah aH bU dG aT bG hr) _ (Q11i p1 p2 o0 H r0 _ _ _ hd' (by first | omega | (simp; omega)))
def Q14t (p1 : Val) (p2 : BA) (o0 : au) : List ByteArray × au := ((dE xS p1 p2).1, ft o0 (isM p1 && (dE xS p1 p2).2))
theorem Q194 (p1 : Val) (p2 : BA) (o0 : au) : ∀ (l : List Val) (i : Nat) (b : Bool) (a : List ByteArray), Q5r p1 p2 o0 l i b a = (b || !(l.all fun x => (xS x).2), a ++ l.map (fun x => (xS x).1))
  | [], _, b, a => by rw [Q5r]; simp
  | x :: l, i, b, a => by
    rw [Q5r]
    refine (Q194 p1 p2 o0 l (i + 1) (b || !(xS x).2) (a ++ [(xS x).1])).trans ?_
    simp only [List.append_assoc, List.singleton_append, List.map_cons, List.all_cons, Bool.not_and, Bool.or_assoc]
theorem Q29o (p1 : Val) (p2 : BA) (o0 : au) : Q14t p1 p2 o0 = (((Q5r p1 p2 o0 (s_Kd p1 p2 4 o0).1.list 0 (s_Kd p1 p2 4 o0).2.bA []).2, (au.mk (Q5r p1 p2 o0 (s_Kd p1 p2 4 o0).1.list 0 (s_Kd p1 p2 4 o0).2.bA []).1))) := by
  rw [Q194]
  unfold s_Kd Q14t
  simp only [Qak, Q5j]
  refine Prod.ext rfl ?_
  rw [Qa5 o0.bA (isM p1) _ _ _ (Qyo (prt p1 p2)), Q6o]
  rfl
def Q26r (p1 : Val) (p2 : BA) (o0 : au) : En := .call 278 [.bx 0 0, .agg (Val.cells p1), .str p2, .fn 279 [.bx 0 0] []] [⟨1, 0, false, (au.cells o0)⟩]
def Q2c3 (_p1 : Val) (_p2 : BA) (_o0 : au) (q0 : List ByteArray) (q1 : au) : Rs := .ret (.sl (Q18 q0)) [⟨1, 0, false, (au.cells q1)⟩]
def Q1wq (p1 : Val) (p2 : BA) (o0 : au) : Rs := Q2c3 p1 p2 o0 (Q14t p1 p2 o0).1 (Q14t p1 p2 o0).2
def Q1q5 (p1 : Val) : Prop := Val.Sm 1000000000 p1
theorem Q176 (p1 : Val) (p2 : BA) (o0 : au) (H : Q1q5 p1) : (H_Kd p1) ∧ (Qd1 p1 p2 o0) ∧ True := by
  have hl := Qeh (Q3d H p2)
  refine ⟨H, ?_, trivial⟩
  unfold Qd1 s_Kd
  simp only [Qak]
  exact ⟨Nat.le_trans hl.1 (Nat.le_of_ble_eq_true rfl), trivial⟩
theorem Q2cy (p1 : Val) (p2 : BA) (o0 : au) (H : Q1q5 p1) : Q0 G (Q26r p1 p2 o0) (Q1wq p1 p2 o0) := by
 unfold Q1wq
 rw [Q29o]
 have hl0 := Q11i p1 p2 o0 ((Q176 p1 p2 o0 H).2.1) (s_Kd p1 p2 4 o0).1.list 0 (s_Kd p1 p2 4 o0).2.bA [] (by simp) (by simp)
 obtain ⟨z0, gq, hl0⟩ := hl0
 exact Q5 (fn := Ir.K10) (by kernel_rfl) (h := [⟨1, 0, false, (au.cells o0)⟩]) (vw := []) VOK.nil [hP 8 (Qw _ _ (Val.Q8 (s_Kd p1 p2 4 o0).1.list)), hS 0 true (Q4y (Q5r p1 p2 o0 (s_Kd p1 p2 4 o0).1.list 0 (s_Kd p1 p2 4 o0).2.bA []).2 1 rfl), hQ (Q2s (Q5r p1 p2 o0 (s_Kd p1 p2 4 o0).1.list 0 (s_Kd p1 p2 4 o0).2.bA []).2).symm] [aN (t_Kd p1 p2 4 o0 (Q176 p1 p2 o0 H).1), aV [(1, Q18 (Q5r p1 p2 o0 (s_Kd p1 p2 4 o0).1.list 0 (s_Kd p1 p2 4 o0).2.bA []).2)] hl0] (by kernel_rfl)
def s_Kj (p1 : Val) (o0 : au) : aj × au := ((aj.dec p1).1, ft o0 (aj.dec p1).2)
theorem e_Kj (p1 : Val) (o0 : au) : s_Kj p1 o0 = (((aj.mk (s_Kn p1 Q13 (s_Ko p1 o0).2).1 (s_Kg p1 Q5l (s_Kn p1 Q13 (s_Ko p1 o0).2).2).1 (Q14t p1 Q1w (s_Kg p1 Q5l (s_Kn p1 Q13 (s_Ko p1 o0).2).2).2).1), (Q14t p1 Q1w (s_Kg p1 Q5l (s_Kn p1 Q13 (s_Ko p1 o0).2).2).2).2)) := by
  simp only [s_Ko, s_Kg, s_Kn, Q14t, s_Kj, aj.dec, Qnv, Bool.and_assoc, Bool.and_left_comm, Bool.and_comm, Bool.and_self_left]
def c_Kj (p1 : Val) (o0 : au) : En := .call 244 [.bx 0 0, .agg (Val.cells p1)] [⟨1, 0, false, (au.cells o0)⟩]
def r_Kj (_p1 : Val) (_o0 : au) (q0 : aj) (q1 : au) : Rs := .ret (.agg (aj.cells q0)) [⟨1, 0, false, (au.cells q1)⟩]
def a_Kj (p1 : Val) (o0 : au) : Rs := r_Kj p1 o0 (s_Kj p1 o0).1 (s_Kj p1 o0).2
def H_Kj (p1 : Val) : Prop := Val.Sm 1000000000 p1
theorem Q143 (p1 : Val) (_o0 : au) (H : H_Kj p1) : (H_Kn p1) ∧ (H_Kg p1) ∧ (Q1q5 p1) ∧ True := by
  repeat' with_reducible apply And.intro
  all_goals first | exact True.intro | exact H | exact Qoq (Q3d H _)
theorem t_Kj (p1 : Val) (o0 : au) (H : H_Kj p1) : Q0 G (c_Kj p1 o0) (a_Kj p1 o0) := by
 unfold a_Kj
 rw [e_Kj]
 exact Q5 (fn := Ir.Kj) (by kernel_rfl) (h := [⟨1, 0, false, (au.cells o0)⟩]) (vw := []) VOK.nil [] [aN (t_Ko p1 o0), aN (t_Kn p1 Q13 (s_Ko p1 o0).2 (Q143 p1 o0 H).1), aN (t_Kg p1 Q5l (s_Kn p1 Q13 (s_Ko p1 o0).2).2 (Q143 p1 o0 H).2.1), aN (Q2cy p1 Q1w (s_Kg p1 Q5l (s_Kn p1 Q13 (s_Ko p1 o0).2).2).2 (Q143 p1 o0 H).2.2.1)] (by kernel_rfl)
def Q7j (p1 : Val) (p2 : BA) (o0 : au) : List Val → Nat → Bool → (List aj) → Bool × (List aj)
 | [], _i0, ah, aH =>
  (ah, aH)
 | x0 :: r0, i0, ah, aH =>
  Q7j p1 p2 o0 r0 (i0 + 1) (s_Kj x0 (au.mk ah)).2.bA (aH ++ [(s_Kj x0 (au.mk ah)).1])
def Q1l2 (p1 : Val) (p2 : BA) (o0 : au) (i0 : Nat) (_ah : Bool) (aH : List aj) : List PV :=
  [.un, .un, .un, .fn 244 [.bx 0 0] []] ++ nuns 5 ++ [.ms 1 3 0 (List.length aH)] ++ nuns 6 ++ [.sl (Val.rows (s_Kd p1 p2 4 o0).1.list), iN ((List.length (s_Kd p1 p2 4 o0).1.list) : Int), iN (i0 : Int)] ++ nuns 11
def Q15k (_p1 : Val) (_p2 : BA) (_o0 : au) (_i0 : Nat) (ah : Bool) (aH : List aj) : List Ob :=
  [⟨1, 0, false, [.bool ah]⟩, ⟨3, 0, true, (aj.rows aH).flatten⟩]
def Qv3 (p1 : Val) (p2 : BA) (o0 : au) (i0 : Nat) (ah : Bool) (aH : List aj) : En := .loop 1 Ir.Qqa Ir.Q1wg (Q1l2 p1 p2 o0 i0 ah aH) (Q15k p1 p2 o0 i0 ah aH)
def Q10f (_p1 : Val) (_p2 : BA) (_o0 : au) (q0 : Bool) (q1 : List aj) (z : Nat → PV) (_zo : Nat → List PV) : St :=
  ⟨zr z 0 9 ++ [.ms 1 3 0 (List.length q1)] ++ zr z 10 20, [(0, ⟨1, 0, false, [.bool q0]⟩), (1, ⟨3, 0, true, (aj.rows q1).flatten⟩)], 66⟩
theorem Q1h2 (p1 : Val) (p2 : BA) (o0 : au) (i0 : Nat) (ah : Bool) (aH : List aj) : VOK (Go.Pv.look (number 0 (Q15k p1 p2 o0 i0 ah aH))) [(1, aj.rows aH)] := (VOK.cons (show Seen _ _ from Q3o (ob := ⟨3, 0, true, (aj.rows aH).flatten⟩) (aj.Q7 aH 3 rfl)) VOK.nil)
def Qwu (p1 : Val) (p2 : BA) (o0 : au) (e : En) (q : Bool × (List aj)) : Prop := ∃ z zo, Q0 G e (.st (.exit 0) (Q10f p1 p2 o0 q.1 q.2 z zo))
theorem Q105 (p1 : Val) (p2 : BA) (o0 : au) {e e' : En} (h : ∀ r, Q0 G e r → Q0 G e' r) : ∀ q, Qwu p1 p2 o0 e q → Qwu p1 p2 o0 e' q
  | _, ⟨z, zo, hz⟩ => ⟨z, zo, h _ hz⟩
def Qk2 (p1 : Val) (p2 : BA) (o0 : au) : Prop := (List.length (s_Kd p1 p2 4 o0).1.list ≤ 137438953472) ∧ (∀ x0 ∈ (s_Kd p1 p2 4 o0).1.list, H_Kj x0) ∧ True
def Q10p (p1 : Val) (p2 : BA) (o0 : au) (i0 : Nat) (_ah : Bool) (_aH : List aj) : List PV :=
  [.un, .un, .un, .fn 244 [.bx 0 0] []] ++ nuns 12 ++ [.sl (Val.rows (s_Kd p1 p2 4 o0).1.list), iN ((List.length (s_Kd p1 p2 4 o0).1.list) : Int), iN (i0 : Int), .bool false]
def Qs2 (_p1 : Val) (_p2 : BA) (_o0 : au) (_i0 : Nat) (_ah : Bool) (_aH : List aj) : List (Nat × List PV) :=
  []
theorem Q1kq (p1 : Val) (p2 : BA) (o0 : au) (_H : Qk2 p1 p2 o0) (i0 : Nat) (ah : Bool) (aH : List aj) (_aT : List.length aH ≤ i0) (bG : (decide ((i0 : Int) < ((List.length (s_Kd p1 p2 4 o0).1.list) : Int))) = false) : Qwu p1 p2 o0 (Qv3 p1 p2 o0 i0 ah aH) (ah, aH) := by
 exact ⟨(envF (Q10p p1 p2 o0 i0 ah aH)), (zoF (Qs2 p1 p2 o0 i0 ah aH)), Qd (Q1h2 p1 p2 o0 i0 ah aH) (x := ((.exit 0), Q10f p1 p2 o0 ah aH (envF (Q10p p1 p2 o0 i0 ah aH)) (zoF (Qs2 p1 p2 o0 i0 ah aH)))) [hB 0 bG] [] (by kernel_rfl)⟩
theorem Q1in (p1 : Val) (p2 : BA) (o0 : au) (H : Qk2 p1 p2 o0) (x0 : Val) (i0 : Nat) (ah : Bool) (aH : List aj) (bU : (s_Kd p1 p2 4 o0).1.list[i0]? = some x0) (dG : i0 < List.length (s_Kd p1 p2 4 o0).1.list) (aT : List.length aH ≤ i0) (bG : (decide ((i0 : Int) < ((List.length (s_Kd p1 p2 4 o0).1.list) : Int))) = true) {r : Rs} (hr : Q0 G (Qv3 p1 p2 o0 (i0 + 1) (s_Kj x0 (au.mk ah)).2.bA (aH ++ [(s_Kj x0 (au.mk ah)).1])) r) : Q0 G (Qv3 p1 p2 o0 i0 ah aH) r := by
 have hB0 := H.1
 exact Qc (Q1h2 p1 p2 o0 i0 ah aH) [hB 0 bG, hP 0 (Q2q 5 _ i0 _ (Val.Qg bU) rfl), hA 8 1 578 642 3 48 0 0 true aj.Q8 aj.Q1g aH (s_Kj x0 (au.mk ah)).1 (aj.Qh aH) rfl rfl (by omega), hS 0 true (aj.Q7 (aH ++ [(s_Kj x0 (au.mk ah)).1]) 3 rfl), hP 1 (Q26 i0 (by omega))] [aN (t_Kj x0 (au.mk ah) (H.2.1 x0 (Q2l bU)))] hr (by kernel_rfl)
theorem Q18e (p1 : Val) (p2 : BA) (o0 : au) (H : Qk2 p1 p2 o0) : ∀ (r0 : List Val) (i0 : Nat) (ah : Bool) (aH : List aj), List.drop i0 (s_Kd p1 p2 4 o0).1.list = r0 → List.length aH ≤ i0 → Qwu p1 p2 o0 (Qv3 p1 p2 o0 i0 ah aH) (Q7j p1 p2 o0 r0 i0 ah aH)
 | [], i0, ah, aH, hd, aT => by
  have bG : (decide ((i0 : Int) < ((List.length (s_Kd p1 p2 4 o0).1.list) : Int))) = false := by have := Q1c hd; simp; omega
  rw [Q7j]
  exact Q1kq p1 p2 o0 H i0 ah aH aT bG
 | x0 :: r0, i0, ah, aH, hd, aT => by
  obtain ⟨bU, dG, hd'⟩ := Q19 hd
  have bG : (decide ((i0 : Int) < ((List.length (s_Kd p1 p2 4 o0).1.list) : Int))) = true := by simp; omega
  rw [Q7j]
  exact Q105 p1 p2 o0 (fun r hr => Q1in p1 p2 o0 H x0 i0 ah aH bU dG aT bG hr) _ (Q18e p1 p2 o0 H r0 _ _ _ hd' (by first | omega | (simp; omega)))
def s_Ku (p1 : Val) (p2 : BA) (o0 : au) : List aj × au := ((dE aj.dec p1 p2).1, ft o0 (isM p1 && (dE aj.dec p1 p2).2))
theorem Q1jh (p1 : Val) (p2 : BA) (o0 : au) : ∀ (l : List Val) (i : Nat) (b : Bool) (a : List aj), Q7j p1 p2 o0 l i b a = (b || !(l.all fun x => (aj.dec x).2), a ++ l.map (fun x => (aj.dec x).1))
  | [], _, b, a => by rw [Q7j]; simp
  | x :: l, i, b, a => by
    rw [Q7j]
    refine (Q1jh p1 p2 o0 l (i + 1) (b || !(aj.dec x).2) (a ++ [(aj.dec x).1])).trans ?_
    simp only [List.append_assoc, List.singleton_append, List.map_cons, List.all_cons, Bool.not_and, Bool.or_assoc]
theorem e_Ku (p1 : Val) (p2 : BA) (o0 : au) : s_Ku p1 p2 o0 = (((Q7j p1 p2 o0 (s_Kd p1 p2 4 o0).1.list 0 (s_Kd p1 p2 4 o0).2.bA []).2, (au.mk (Q7j p1 p2 o0 (s_Kd p1 p2 4 o0).1.list 0 (s_Kd p1 p2 4 o0).2.bA []).1))) := by
  rw [Q1jh]
  unfold s_Kd s_Ku
  simp only [Qak, Q5j]
  refine Prod.ext rfl ?_
  rw [Qa5 o0.bA (isM p1) _ _ _ (Qyo (prt p1 p2)), Q6o]
  rfl
def c_Ku (p1 : Val) (p2 : BA) (o0 : au) : En := .call 243 [.bx 0 0, .agg (Val.cells p1), .str p2, .fn 244 [.bx 0 0] []] [⟨1, 0, false, (au.cells o0)⟩]
def r_Ku (_p1 : Val) (_p2 : BA) (_o0 : au) (q0 : List aj) (q1 : au) : Rs := .ret (.sl (aj.rows q0)) [⟨1, 0, false, (au.cells q1)⟩]
def a_Ku (p1 : Val) (p2 : BA) (o0 : au) : Rs := r_Ku p1 p2 o0 (s_Ku p1 p2 o0).1 (s_Ku p1 p2 o0).2
def H_Ku (p1 : Val) : Prop := Val.Sm 1000000000 p1
theorem Q1hv (p1 : Val) (p2 : BA) (o0 : au) (H : H_Ku p1) : (H_Kd p1) ∧ (Qk2 p1 p2 o0) ∧ True := by
  have hl := Qeh (Q3d H p2)
  refine ⟨H, ?_, trivial⟩
  unfold Qk2 s_Kd
  simp only [Qak]
  exact ⟨Nat.le_trans hl.1 (Nat.le_of_ble_eq_true rfl), hl.2, trivial⟩
theorem t_Ku (p1 : Val) (p2 : BA) (o0 : au) (H : H_Ku p1) : Q0 G (c_Ku p1 p2 o0) (a_Ku p1 p2 o0) := by
 unfold a_Ku
 rw [e_Ku]
 have hl0 := Q18e p1 p2 o0 ((Q1hv p1 p2 o0 H).2.1) (s_Kd p1 p2 4 o0).1.list 0 (s_Kd p1 p2 4 o0).2.bA [] (by simp) (by simp)
 obtain ⟨z0, gq, hl0⟩ := hl0
 exact Q5 (fn := Ir.Ku) (by kernel_rfl) (h := [⟨1, 0, false, (au.cells o0)⟩]) (vw := []) VOK.nil [hP 8 (Qw _ _ (Val.Q8 (s_Kd p1 p2 4 o0).1.list)), hS 0 true (aj.Q7 (Q7j p1 p2 o0 (s_Kd p1 p2 4 o0).1.list 0 (s_Kd p1 p2 4 o0).2.bA []).2 3 rfl), hQ (aj.Q8 (Q7j p1 p2 o0 (s_Kd p1 p2 4 o0).1.list 0 (s_Kd p1 p2 4 o0).2.bA []).2).symm] [aN (t_Kd p1 p2 4 o0 (Q1hv p1 p2 o0 H).1), aV [(1, aj.rows (Q7j p1 p2 o0 (s_Kd p1 p2 4 o0).1.list 0 (s_Kd p1 p2 4 o0).2.bA []).2)] hl0] (by kernel_rfl)
def s_Kf (p1 : Val) (o0 : au) : aI × au := ((aI.dec p1).1, ft o0 (aI.dec p1).2)
theorem e_Kf (p1 : Val) (o0 : au) : s_Kf p1 o0 = (((aI.mk (s_Kc p1 Qb (s_Ko p1 o0).2).1 (s_Ku p1 Q6 (s_Kc p1 Qb (s_Ko p1 o0).2).2).1 (s_Kg p1 Q1m (s_Ku p1 Q6 (s_Kc p1 Qb (s_Ko p1 o0).2).2).2).1), (s_Kg p1 Q1m (s_Ku p1 Q6 (s_Kc p1 Qb (s_Ko p1 o0).2).2).2).2)) := by
  simp only [s_Ko, s_Kg, s_Kc, s_Ku, s_Kf, aI.dec, Qnv, Bool.and_assoc, Bool.and_left_comm, Bool.and_self_left]
def c_Kf (p1 : Val) (o0 : au) : En := .call 246 [.bx 0 0, .agg (Val.cells p1)] [⟨1, 0, false, (au.cells o0)⟩]
def r_Kf (_p1 : Val) (_o0 : au) (q0 : aI) (q1 : au) : Rs := .ret (.agg (aI.cells q0)) [⟨1, 0, false, (au.cells q1)⟩]
def a_Kf (p1 : Val) (o0 : au) : Rs := r_Kf p1 o0 (s_Kf p1 o0).1 (s_Kf p1 o0).2
def H_Kf (p1 : Val) : Prop := Val.Sm 1000000000 p1
theorem Q142 (p1 : Val) (_o0 : au) (H : H_Kf p1) : (H_Kc p1) ∧ (H_Ku p1) ∧ (H_Kg p1) ∧ True := by
  repeat' with_reducible apply And.intro
  all_goals first | exact True.intro | exact H | exact Qoq (Q3d H _)
theorem t_Kf (p1 : Val) (o0 : au) (H : H_Kf p1) : Q0 G (c_Kf p1 o0) (a_Kf p1 o0) := by
 unfold a_Kf
 rw [e_Kf]
 exact Q5 (fn := Ir.Kf) (by kernel_rfl) (h := [⟨1, 0, false, (au.cells o0)⟩]) (vw := []) VOK.nil [] [aN (t_Ko p1 o0), aN (t_Kc p1 Qb (s_Ko p1 o0).2 (Q142 p1 o0 H).1), aN (t_Ku p1 Q6 (s_Kc p1 Qb (s_Ko p1 o0).2).2 (Q142 p1 o0 H).2.1), aN (t_Kg p1 Q1m (s_Ku p1 Q6 (s_Kc p1 Qb (s_Ko p1 o0).2).2).2 (Q142 p1 o0 H).2.2.1)] (by kernel_rfl)
def Q7k (p1 : Val) (p2 : BA) (o0 : au) : List Val → Nat → Bool → (List aI) → Bool × (List aI)
 | [], _i0, ah, aH =>
  (ah, aH)
 | x0 :: r0, i0, ah, aH =>
  Q7k p1 p2 o0 r0 (i0 + 1) (s_Kf x0 (au.mk ah)).2.bA (aH ++ [(s_Kf x0 (au.mk ah)).1])
def Q1l3 (p1 : Val) (p2 : BA) (o0 : au) (i0 : Nat) (_ah : Bool) (aH : List aI) : List PV :=
  [.un, .un, .un, .fn 246 [.bx 0 0] []] ++ nuns 5 ++ [.ms 1 3 0 (List.length aH)] ++ nuns 6 ++ [.sl (Val.rows (s_Kd p1 p2 4 o0).1.list), iN ((List.length (s_Kd p1 p2 4 o0).1.list) : Int), iN (i0 : Int)] ++ nuns 11
def Q15l (_p1 : Val) (_p2 : BA) (_o0 : au) (_i0 : Nat) (ah : Bool) (aH : List aI) : List Ob :=
  [⟨1, 0, false, [.bool ah]⟩, ⟨3, 0, true, (aI.rows aH).flatten⟩]
def Qv4 (p1 : Val) (p2 : BA) (o0 : au) (i0 : Nat) (ah : Bool) (aH : List aI) : En := .loop 1 Ir.Qqb Ir.Q1wh (Q1l3 p1 p2 o0 i0 ah aH) (Q15l p1 p2 o0 i0 ah aH)
def Q10g (_p1 : Val) (_p2 : BA) (_o0 : au) (q0 : Bool) (q1 : List aI) (z : Nat → PV) (_zo : Nat → List PV) : St :=
  ⟨zr z 0 9 ++ [.ms 1 3 0 (List.length q1)] ++ zr z 10 20, [(0, ⟨1, 0, false, [.bool q0]⟩), (1, ⟨3, 0, true, (aI.rows q1).flatten⟩)], 66⟩
theorem Q1h3 (p1 : Val) (p2 : BA) (o0 : au) (i0 : Nat) (ah : Bool) (aH : List aI) : VOK (Go.Pv.look (number 0 (Q15l p1 p2 o0 i0 ah aH))) [(1, aI.rows aH)] := (VOK.cons (show Seen _ _ from Q3o (ob := ⟨3, 0, true, (aI.rows aH).flatten⟩) (aI.Q7 aH 3 rfl)) VOK.nil)
def Qwv (p1 : Val) (p2 : BA) (o0 : au) (e : En) (q : Bool × (List aI)) : Prop := ∃ z zo, Q0 G e (.st (.exit 0) (Q10g p1 p2 o0 q.1 q.2 z zo))
theorem Q106 (p1 : Val) (p2 : BA) (o0 : au) {e e' : En} (h : ∀ r, Q0 G e r → Q0 G e' r) : ∀ q, Qwv p1 p2 o0 e q → Qwv p1 p2 o0 e' q
  | _, ⟨z, zo, hz⟩ => ⟨z, zo, h _ hz⟩
def Qk3 (p1 : Val) (p2 : BA) (o0 : au) : Prop := (List.length (s_Kd p1 p2 4 o0).1.list ≤ 137438953472) ∧ (∀ x0 ∈ (s_Kd p1 p2 4 o0).1.list, H_Kf x0) ∧ True
def Q10q (p1 : Val) (p2 : BA) (o0 : au) (i0 : Nat) (_ah : Bool) (_aH : List aI) : List PV :=
  [.un, .un, .un, .fn 246 [.bx 0 0] []] ++ nuns 12 ++ [.sl (Val.rows (s_Kd p1 p2 4 o0).1.list), iN ((List.length (s_Kd p1 p2 4 o0).1.list) : Int), iN (i0 : Int), .bool false]
def Qs3 (_p1 : Val) (_p2 : BA) (_o0 : au) (_i0 : Nat) (_ah : Bool) (_aH : List aI) : List (Nat × List PV) :=
  []
theorem Q1kr (p1 : Val) (p2 : BA) (o0 : au) (_H : Qk3 p1 p2 o0) (i0 : Nat) (ah : Bool) (aH : List aI) (_aT : List.length aH ≤ i0) (bG : (decide ((i0 : Int) < ((List.length (s_Kd p1 p2 4 o0).1.list) : Int))) = false) : Qwv p1 p2 o0 (Qv4 p1 p2 o0 i0 ah aH) (ah, aH) := by
 exact ⟨(envF (Q10q p1 p2 o0 i0 ah aH)), (zoF (Qs3 p1 p2 o0 i0 ah aH)), Qd (Q1h3 p1 p2 o0 i0 ah aH) (x := ((.exit 0), Q10g p1 p2 o0 ah aH (envF (Q10q p1 p2 o0 i0 ah aH)) (zoF (Qs3 p1 p2 o0 i0 ah aH)))) [hB 0 bG] [] (by kernel_rfl)⟩
theorem Q1io (p1 : Val) (p2 : BA) (o0 : au) (H : Qk3 p1 p2 o0) (x0 : Val) (i0 : Nat) (ah : Bool) (aH : List aI) (bU : (s_Kd p1 p2 4 o0).1.list[i0]? = some x0) (dG : i0 < List.length (s_Kd p1 p2 4 o0).1.list) (aT : List.length aH ≤ i0) (bG : (decide ((i0 : Int) < ((List.length (s_Kd p1 p2 4 o0).1.list) : Int))) = true) {r : Rs} (hr : Q0 G (Qv4 p1 p2 o0 (i0 + 1) (s_Kf x0 (au.mk ah)).2.bA (aH ++ [(s_Kf x0 (au.mk ah)).1])) r) : Q0 G (Qv4 p1 p2 o0 i0 ah aH) r := by
 have hB0 := H.1
 exact Qc (Q1h3 p1 p2 o0 i0 ah aH) [hB 0 bG, hP 0 (Q2q 5 _ i0 _ (Val.Qg bU) rfl), hA 8 1 578 642 3 40 0 0 true aI.Q8 aI.Q1g aH (s_Kf x0 (au.mk ah)).1 (aI.Qh aH) rfl rfl (by omega), hS 0 true (aI.Q7 (aH ++ [(s_Kf x0 (au.mk ah)).1]) 3 rfl), hP 1 (Q26 i0 (by omega))] [aN (t_Kf x0 (au.mk ah) (H.2.1 x0 (Q2l bU)))] hr (by kernel_rfl)
theorem Q18f (p1 : Val) (p2 : BA) (o0 : au) (H : Qk3 p1 p2 o0) : ∀ (r0 : List Val) (i0 : Nat) (ah : Bool) (aH : List aI), List.drop i0 (s_Kd p1 p2 4 o0).1.list = r0 → List.length aH ≤ i0 → Qwv p1 p2 o0 (Qv4 p1 p2 o0 i0 ah aH) (Q7k p1 p2 o0 r0 i0 ah aH)
 | [], i0, ah, aH, hd, aT => by
  have bG : (decide ((i0 : Int) < ((List.length (s_Kd p1 p2 4 o0).1.list) : Int))) = false := by have := Q1c hd; simp; omega
  rw [Q7k]
  exact Q1kr p1 p2 o0 H i0 ah aH aT bG
 | x0 :: r0, i0, ah, aH, hd, aT => by
  obtain ⟨bU, dG, hd'⟩ := Q19 hd
  have bG : (decide ((i0 : Int) < ((List.length (s_Kd p1 p2 4 o0).1.list) : Int))) = true := by simp; omega
  rw [Q7k]
  exact Q106 p1 p2 o0 (fun r hr => Q1io p1 p2 o0 H x0 i0 ah aH bU dG aT bG hr) _ (Q18f p1 p2 o0 H r0 _ _ _ hd' (by first | omega | (simp; omega)))
def s_Kv (p1 : Val) (p2 : BA) (o0 : au) : List aI × au := ((dE aI.dec p1 p2).1, ft o0 (isM p1 && (dE aI.dec p1 p2).2))
theorem Q1ji (p1 : Val) (p2 : BA) (o0 : au) : ∀ (l : List Val) (i : Nat) (b : Bool) (a : List aI), Q7k p1 p2 o0 l i b a = (b || !(l.all fun x => (aI.dec x).2), a ++ l.map (fun x => (aI.dec x).1))
  | [], _, b, a => by rw [Q7k]; simp
  | x :: l, i, b, a => by
    rw [Q7k]
    refine (Q1ji p1 p2 o0 l (i + 1) (b || !(aI.dec x).2) (a ++ [(aI.dec x).1])).trans ?_
    simp only [List.append_assoc, List.singleton_append, List.map_cons, List.all_cons, Bool.not_and, Bool.or_assoc]
theorem e_Kv (p1 : Val) (p2 : BA) (o0 : au) : s_Kv p1 p2 o0 = (((Q7k p1 p2 o0 (s_Kd p1 p2 4 o0).1.list 0 (s_Kd p1 p2 4 o0).2.bA []).2, (au.mk (Q7k p1 p2 o0 (s_Kd p1 p2 4 o0).1.list 0 (s_Kd p1 p2 4 o0).2.bA []).1))) := by
  rw [Q1ji]
  unfold s_Kd s_Kv
  simp only [Qak, Q5j]
  refine Prod.ext rfl ?_
  rw [Qa5 o0.bA (isM p1) _ _ _ (Qyo (prt p1 p2)), Q6o]
  rfl
def c_Kv (p1 : Val) (p2 : BA) (o0 : au) : En := .call 245 [.bx 0 0, .agg (Val.cells p1), .str p2, .fn 246 [.bx 0 0] []] [⟨1, 0, false, (au.cells o0)⟩]
def r_Kv (_p1 : Val) (_p2 : BA) (_o0 : au) (q0 : List aI) (q1 : au) : Rs := .ret (.sl (aI.rows q0)) [⟨1, 0, false, (au.cells q1)⟩]
def a_Kv (p1 : Val) (p2 : BA) (o0 : au) : Rs := r_Kv p1 p2 o0 (s_Kv p1 p2 o0).1 (s_Kv p1 p2 o0).2
def H_Kv (p1 : Val) : Prop := Val.Sm 1000000000 p1
theorem Q1hw (p1 : Val) (p2 : BA) (o0 : au) (H : H_Kv p1) : (H_Kd p1) ∧ (Qk3 p1 p2 o0) ∧ True := by
  have hl := Qeh (Q3d H p2)
  refine ⟨H, ?_, trivial⟩
  unfold Qk3 s_Kd
  simp only [Qak]
  exact ⟨Nat.le_trans hl.1 (Nat.le_of_ble_eq_true rfl), hl.2, trivial⟩
theorem t_Kv (p1 : Val) (p2 : BA) (o0 : au) (H : H_Kv p1) : Q0 G (c_Kv p1 p2 o0) (a_Kv p1 p2 o0) := by
 unfold a_Kv
 rw [e_Kv]
 have hl0 := Q18f p1 p2 o0 ((Q1hw p1 p2 o0 H).2.1) (s_Kd p1 p2 4 o0).1.list 0 (s_Kd p1 p2 4 o0).2.bA [] (by simp) (by simp)
 obtain ⟨z0, gq, hl0⟩ := hl0
 exact Q5 (fn := Ir.Kv) (by kernel_rfl) (h := [⟨1, 0, false, (au.cells o0)⟩]) (vw := []) VOK.nil [hP 8 (Qw _ _ (Val.Q8 (s_Kd p1 p2 4 o0).1.list)), hS 0 true (aI.Q7 (Q7k p1 p2 o0 (s_Kd p1 p2 4 o0).1.list 0 (s_Kd p1 p2 4 o0).2.bA []).2 3 rfl), hQ (aI.Q8 (Q7k p1 p2 o0 (s_Kd p1 p2 4 o0).1.list 0 (s_Kd p1 p2 4 o0).2.bA []).2).symm] [aN (t_Kd p1 p2 4 o0 (Q1hw p1 p2 o0 H).1), aV [(1, aI.rows (Q7k p1 p2 o0 (s_Kd p1 p2 4 o0).1.list 0 (s_Kd p1 p2 4 o0).2.bA []).2)] hl0] (by kernel_rfl)
def s_Kh (p1 : Val) (o0 : au) : aM × au := ((aM.dec p1).1, ft o0 (aM.dec p1).2)
theorem e_Kh (p1 : Val) (o0 : au) : s_Kh p1 o0 = (((aM.mk (s_Kc p1 Qb (s_Ko p1 o0).2).1 (s_Kc p1 Q3r (s_Kc p1 Qb (s_Ko p1 o0).2).2).1 (s_Ku p1 Q6 (s_Kc p1 Q3r (s_Kc p1 Qb (s_Ko p1 o0).2).2).2).1 (s_Kn p1 Qx (s_Ku p1 Q6 (s_Kc p1 Q3r (s_Kc p1 Qb (s_Ko p1 o0).2).2).2).2).1 (s_Kg p1 Q1m (s_Kn p1 Qx (s_Ku p1 Q6 (s_Kc p1 Q3r (s_Kc p1 Qb (s_Ko p1 o0).2).2).2).2).2).1), (s_Kg p1 Q1m (s_Kn p1 Qx (s_Ku p1 Q6 (s_Kc p1 Q3r (s_Kc p1 Qb (s_Ko p1 o0).2).2).2).2).2).2)) := by
  simp only [s_Ko, s_Kg, s_Kn, s_Kc, s_Ku, s_Kh, aM.dec, Qnv, Bool.and_assoc, Bool.and_left_comm, Bool.and_comm, Bool.and_self_left]
def c_Kh (p1 : Val) (o0 : au) : En := .call 248 [.bx 0 0, .agg (Val.cells p1)] [⟨1, 0, false, (au.cells o0)⟩]
def r_Kh (_p1 : Val) (_o0 : au) (q0 : aM) (q1 : au) : Rs := .ret (.agg (aM.cells q0)) [⟨1, 0, false, (au.cells q1)⟩]
def a_Kh (p1 : Val) (o0 : au) : Rs := r_Kh p1 o0 (s_Kh p1 o0).1 (s_Kh p1 o0).2
def H_Kh (p1 : Val) : Prop := Val.Sm 1000000000 p1
theorem Qnw (p1 : Val) (_o0 : au) (H : H_Kh p1) : (H_Kc p1) ∧ (H_Ku p1) ∧ (H_Kn p1) ∧ (H_Kg p1) ∧ True := by
  repeat' with_reducible apply And.intro
  all_goals first | exact True.intro | exact H | exact Qoq (Q3d H _)
theorem t_Kh (p1 : Val) (o0 : au) (H : H_Kh p1) : Q0 G (c_Kh p1 o0) (a_Kh p1 o0) := by
 unfold a_Kh
 rw [e_Kh]
 exact Q5 (fn := Ir.Kh) (by kernel_rfl) (h := [⟨1, 0, false, (au.cells o0)⟩]) (vw := []) VOK.nil [] [aN (t_Ko p1 o0), aN (t_Kc p1 Qb (s_Ko p1 o0).2 (Qnw p1 o0 H).1), aN (t_Kc p1 Q3r (s_Kc p1 Qb (s_Ko p1 o0).2).2 (Qnw p1 o0 H).1), aN (t_Ku p1 Q6 (s_Kc p1 Q3r (s_Kc p1 Qb (s_Ko p1 o0).2).2).2 (Qnw p1 o0 H).2.1), aN (t_Kn p1 Qx (s_Ku p1 Q6 (s_Kc p1 Q3r (s_Kc p1 Qb (s_Ko p1 o0).2).2).2).2 (Qnw p1 o0 H).2.2.1), aN (t_Kg p1 Q1m (s_Kn p1 Qx (s_Ku p1 Q6 (s_Kc p1 Q3r (s_Kc p1 Qb (s_Ko p1 o0).2).2).2).2).2 (Qnw p1 o0 H).2.2.2.1)] (by kernel_rfl)
def Q7l (p1 : Val) (p2 : BA) (o0 : au) : List Val → Nat → Bool → (List aM) → Bool × (List aM)
 | [], _i0, ah, aH =>
  (ah, aH)
 | x0 :: r0, i0, ah, aH =>
  Q7l p1 p2 o0 r0 (i0 + 1) (s_Kh x0 (au.mk ah)).2.bA (aH ++ [(s_Kh x0 (au.mk ah)).1])
def Q1l4 (p1 : Val) (p2 : BA) (o0 : au) (i0 : Nat) (_ah : Bool) (aH : List aM) : List PV :=
  [.un, .un, .un, .fn 248 [.bx 0 0] []] ++ nuns 5 ++ [.ms 1 5 0 (List.length aH)] ++ nuns 6 ++ [.sl (Val.rows (s_Kd p1 p2 4 o0).1.list), iN ((List.length (s_Kd p1 p2 4 o0).1.list) : Int), iN (i0 : Int)] ++ nuns 11
def Q15m (_p1 : Val) (_p2 : BA) (_o0 : au) (_i0 : Nat) (ah : Bool) (aH : List aM) : List Ob :=
  [⟨1, 0, false, [.bool ah]⟩, ⟨5, 0, true, (aM.rows aH).flatten⟩]
def Qv5 (p1 : Val) (p2 : BA) (o0 : au) (i0 : Nat) (ah : Bool) (aH : List aM) : En := .loop 1 Ir.Qqc Ir.Q1wi (Q1l4 p1 p2 o0 i0 ah aH) (Q15m p1 p2 o0 i0 ah aH)
def Q10h (_p1 : Val) (_p2 : BA) (_o0 : au) (q0 : Bool) (q1 : List aM) (z : Nat → PV) (_zo : Nat → List PV) : St :=
  ⟨zr z 0 9 ++ [.ms 1 5 0 (List.length q1)] ++ zr z 10 20, [(0, ⟨1, 0, false, [.bool q0]⟩), (1, ⟨5, 0, true, (aM.rows q1).flatten⟩)], 66⟩
theorem Q1h4 (p1 : Val) (p2 : BA) (o0 : au) (i0 : Nat) (ah : Bool) (aH : List aM) : VOK (Go.Pv.look (number 0 (Q15m p1 p2 o0 i0 ah aH))) [(1, aM.rows aH)] := (VOK.cons (show Seen _ _ from Q3o (ob := ⟨5, 0, true, (aM.rows aH).flatten⟩) (aM.Q7 aH 5 rfl)) VOK.nil)
def Qww (p1 : Val) (p2 : BA) (o0 : au) (e : En) (q : Bool × (List aM)) : Prop := ∃ z zo, Q0 G e (.st (.exit 0) (Q10h p1 p2 o0 q.1 q.2 z zo))
theorem Q107 (p1 : Val) (p2 : BA) (o0 : au) {e e' : En} (h : ∀ r, Q0 G e r → Q0 G e' r) : ∀ q, Qww p1 p2 o0 e q → Qww p1 p2 o0 e' q
  | _, ⟨z, zo, hz⟩ => ⟨z, zo, h _ hz⟩
def Qk4 (p1 : Val) (p2 : BA) (o0 : au) : Prop := (List.length (s_Kd p1 p2 4 o0).1.list ≤ 137438953472) ∧ (∀ x0 ∈ (s_Kd p1 p2 4 o0).1.list, H_Kh x0) ∧ True
def Q10r (p1 : Val) (p2 : BA) (o0 : au) (i0 : Nat) (_ah : Bool) (_aH : List aM) : List PV :=
  [.un, .un, .un, .fn 248 [.bx 0 0] []] ++ nuns 12 ++ [.sl (Val.rows (s_Kd p1 p2 4 o0).1.list), iN ((List.length (s_Kd p1 p2 4 o0).1.list) : Int), iN (i0 : Int), .bool false]
def Qs4 (_p1 : Val) (_p2 : BA) (_o0 : au) (_i0 : Nat) (_ah : Bool) (_aH : List aM) : List (Nat × List PV) :=
  []
theorem Q1ks (p1 : Val) (p2 : BA) (o0 : au) (_H : Qk4 p1 p2 o0) (i0 : Nat) (ah : Bool) (aH : List aM) (_aT : List.length aH ≤ i0) (bG : (decide ((i0 : Int) < ((List.length (s_Kd p1 p2 4 o0).1.list) : Int))) = false) : Qww p1 p2 o0 (Qv5 p1 p2 o0 i0 ah aH) (ah, aH) := by
 exact ⟨(envF (Q10r p1 p2 o0 i0 ah aH)), (zoF (Qs4 p1 p2 o0 i0 ah aH)), Qd (Q1h4 p1 p2 o0 i0 ah aH) (x := ((.exit 0), Q10h p1 p2 o0 ah aH (envF (Q10r p1 p2 o0 i0 ah aH)) (zoF (Qs4 p1 p2 o0 i0 ah aH)))) [hB 0 bG] [] (by kernel_rfl)⟩
theorem Q1ip (p1 : Val) (p2 : BA) (o0 : au) (H : Qk4 p1 p2 o0) (x0 : Val) (i0 : Nat) (ah : Bool) (aH : List aM) (bU : (s_Kd p1 p2 4 o0).1.list[i0]? = some x0) (dG : i0 < List.length (s_Kd p1 p2 4 o0).1.list) (aT : List.length aH ≤ i0) (bG : (decide ((i0 : Int) < ((List.length (s_Kd p1 p2 4 o0).1.list) : Int))) = true) {r : Rs} (hr : Q0 G (Qv5 p1 p2 o0 (i0 + 1) (s_Kh x0 (au.mk ah)).2.bA (aH ++ [(s_Kh x0 (au.mk ah)).1])) r) : Q0 G (Qv5 p1 p2 o0 i0 ah aH) r := by
 have hB0 := H.1
 exact Qc (Q1h4 p1 p2 o0 i0 ah aH) [hB 0 bG, hP 0 (Q2q 5 _ i0 _ (Val.Qg bU) rfl), hA 8 1 578 642 5 56 0 0 true aM.Q8 aM.Q1g aH (s_Kh x0 (au.mk ah)).1 (aM.Qh aH) rfl rfl (by omega), hS 0 true (aM.Q7 (aH ++ [(s_Kh x0 (au.mk ah)).1]) 5 rfl), hP 1 (Q26 i0 (by omega))] [aN (t_Kh x0 (au.mk ah) (H.2.1 x0 (Q2l bU)))] hr (by kernel_rfl)
theorem Q18g (p1 : Val) (p2 : BA) (o0 : au) (H : Qk4 p1 p2 o0) : ∀ (r0 : List Val) (i0 : Nat) (ah : Bool) (aH : List aM), List.drop i0 (s_Kd p1 p2 4 o0).1.list = r0 → List.length aH ≤ i0 → Qww p1 p2 o0 (Qv5 p1 p2 o0 i0 ah aH) (Q7l p1 p2 o0 r0 i0 ah aH)
 | [], i0, ah, aH, hd, aT => by
  have bG : (decide ((i0 : Int) < ((List.length (s_Kd p1 p2 4 o0).1.list) : Int))) = false := by have := Q1c hd; simp; omega
  rw [Q7l]
  exact Q1ks p1 p2 o0 H i0 ah aH aT bG
 | x0 :: r0, i0, ah, aH, hd, aT => by
  obtain ⟨bU, dG, hd'⟩ := Q19 hd
  have bG : (decide ((i0 : Int) < ((List.length (s_Kd p1 p2 4 o0).1.list) : Int))) = true := by simp; omega
  rw [Q7l]
  exact Q107 p1 p2 o0 (fun r hr => Q1ip p1 p2 o0 H x0 i0 ah aH bU dG aT bG hr) _ (Q18g p1 p2 o0 H r0 _ _ _ hd' (by first | omega | (simp; omega)))
def s_Kw (p1 : Val) (p2 : BA) (o0 : au) : List aM × au := ((dE aM.dec p1 p2).1, ft o0 (isM p1 && (dE aM.dec p1 p2).2))
theorem Q1jj (p1 : Val) (p2 : BA) (o0 : au) : ∀ (l : List Val) (i : Nat) (b : Bool) (a : List aM), Q7l p1 p2 o0 l i b a = (b || !(l.all fun x => (aM.dec x).2), a ++ l.map (fun x => (aM.dec x).1))
  | [], _, b, a => by rw [Q7l]; simp
  | x :: l, i, b, a => by
    rw [Q7l]
    refine (Q1jj p1 p2 o0 l (i + 1) (b || !(aM.dec x).2) (a ++ [(aM.dec x).1])).trans ?_
    simp only [List.append_assoc, List.singleton_append, List.map_cons, List.all_cons, Bool.not_and, Bool.or_assoc]
theorem e_Kw (p1 : Val) (p2 : BA) (o0 : au) : s_Kw p1 p2 o0 = (((Q7l p1 p2 o0 (s_Kd p1 p2 4 o0).1.list 0 (s_Kd p1 p2 4 o0).2.bA []).2, (au.mk (Q7l p1 p2 o0 (s_Kd p1 p2 4 o0).1.list 0 (s_Kd p1 p2 4 o0).2.bA []).1))) := by
  rw [Q1jj]
  unfold s_Kd s_Kw
  simp only [Qak, Q5j]
  refine Prod.ext rfl ?_
  rw [Qa5 o0.bA (isM p1) _ _ _ (Qyo (prt p1 p2)), Q6o]
  rfl
def c_Kw (p1 : Val) (p2 : BA) (o0 : au) : En := .call 247 [.bx 0 0, .agg (Val.cells p1), .str p2, .fn 248 [.bx 0 0] []] [⟨1, 0, false, (au.cells o0)⟩]
def r_Kw (_p1 : Val) (_p2 : BA) (_o0 : au) (q0 : List aM) (q1 : au) : Rs := .ret (.sl (aM.rows q0)) [⟨1, 0, false, (au.cells q1)⟩]
def a_Kw (p1 : Val) (p2 : BA) (o0 : au) : Rs := r_Kw p1 p2 o0 (s_Kw p1 p2 o0).1 (s_Kw p1 p2 o0).2
def H_Kw (p1 : Val) : Prop := Val.Sm 1000000000 p1
theorem Q1hx (p1 : Val) (p2 : BA) (o0 : au) (H : H_Kw p1) : (H_Kd p1) ∧ (Qk4 p1 p2 o0) ∧ True := by
  have hl := Qeh (Q3d H p2)
  refine ⟨H, ?_, trivial⟩
  unfold Qk4 s_Kd
  simp only [Qak]
  exact ⟨Nat.le_trans hl.1 (Nat.le_of_ble_eq_true rfl), hl.2, trivial⟩
theorem t_Kw (p1 : Val) (p2 : BA) (o0 : au) (H : H_Kw p1) : Q0 G (c_Kw p1 p2 o0) (a_Kw p1 p2 o0) := by
 unfold a_Kw
 rw [e_Kw]
 have hl0 := Q18g p1 p2 o0 ((Q1hx p1 p2 o0 H).2.1) (s_Kd p1 p2 4 o0).1.list 0 (s_Kd p1 p2 4 o0).2.bA [] (by simp) (by simp)
 obtain ⟨z0, gq, hl0⟩ := hl0
 exact Q5 (fn := Ir.Kw) (by kernel_rfl) (h := [⟨1, 0, false, (au.cells o0)⟩]) (vw := []) VOK.nil [hP 8 (Qw _ _ (Val.Q8 (s_Kd p1 p2 4 o0).1.list)), hS 0 true (aM.Q7 (Q7l p1 p2 o0 (s_Kd p1 p2 4 o0).1.list 0 (s_Kd p1 p2 4 o0).2.bA []).2 5 rfl), hQ (aM.Q8 (Q7l p1 p2 o0 (s_Kd p1 p2 4 o0).1.list 0 (s_Kd p1 p2 4 o0).2.bA []).2).symm] [aN (t_Kd p1 p2 4 o0 (Q1hx p1 p2 o0 H).1), aV [(1, aM.rows (Q7l p1 p2 o0 (s_Kd p1 p2 4 o0).1.list 0 (s_Kd p1 p2 4 o0).2.bA []).2)] hl0] (by kernel_rfl)
def s_Km (p1 : Val) (o0 : au) : aC × au := ((aC.dec p1).1, ft o0 (aC.dec p1).2)
theorem e_Km (p1 : Val) (o0 : au) : s_Km p1 o0 = (((aC.mk (s_Kg p1 Q28 (s_Ko p1 o0).2).1 (s_Kn p1 Qx (s_Kg p1 Q28 (s_Ko p1 o0).2).2).1 (s_Ku p1 Q6 (s_Kn p1 Qx (s_Kg p1 Q28 (s_Ko p1 o0).2).2).2).1 (s_Kc p1 Qb (s_Ku p1 Q6 (s_Kn p1 Qx (s_Kg p1 Q28 (s_Ko p1 o0).2).2).2).2).1), (s_Kc p1 Qb (s_Ku p1 Q6 (s_Kn p1 Qx (s_Kg p1 Q28 (s_Ko p1 o0).2).2).2).2).2)) := by
  simp only [s_Ko, s_Kg, s_Kn, s_Kc, s_Ku, s_Km, aC.dec, Qnv, Bool.and_assoc, Bool.and_left_comm, Bool.and_comm, Bool.and_self_left]
def c_Km (p1 : Val) (o0 : au) : En := .call 250 [.bx 0 0, .agg (Val.cells p1)] [⟨1, 0, false, (au.cells o0)⟩]
def r_Km (_p1 : Val) (_o0 : au) (q0 : aC) (q1 : au) : Rs := .ret (.agg (aC.cells q0)) [⟨1, 0, false, (au.cells q1)⟩]
def a_Km (p1 : Val) (o0 : au) : Rs := r_Km p1 o0 (s_Km p1 o0).1 (s_Km p1 o0).2
def H_Km (p1 : Val) : Prop := Val.Sm 1000000000 p1
theorem Qxl (p1 : Val) (_o0 : au) (H : H_Km p1) : (H_Kg p1) ∧ (H_Kn p1) ∧ (H_Ku p1) ∧ (H_Kc p1) ∧ True := by
  repeat' with_reducible apply And.intro
  all_goals first | exact True.intro | exact H | exact Qoq (Q3d H _)
theorem t_Km (p1 : Val) (o0 : au) (H : H_Km p1) : Q0 G (c_Km p1 o0) (a_Km p1 o0) := by
 unfold a_Km
 rw [e_Km]
 exact Q5 (fn := Ir.Km) (by kernel_rfl) (h := [⟨1, 0, false, (au.cells o0)⟩]) (vw := []) VOK.nil [] [aN (t_Ko p1 o0), aN (t_Kg p1 Q28 (s_Ko p1 o0).2 (Qxl p1 o0 H).1), aN (t_Kn p1 Qx (s_Kg p1 Q28 (s_Ko p1 o0).2).2 (Qxl p1 o0 H).2.1), aN (t_Ku p1 Q6 (s_Kn p1 Qx (s_Kg p1 Q28 (s_Ko p1 o0).2).2).2 (Qxl p1 o0 H).2.2.1), aN (t_Kc p1 Qb (s_Ku p1 Q6 (s_Kn p1 Qx (s_Kg p1 Q28 (s_Ko p1 o0).2).2).2).2 (Qxl p1 o0 H).2.2.2.1)] (by kernel_rfl)
def Q7m (p1 : Val) (p2 : BA) (o0 : au) : List Val → Nat → Bool → (List aC) → Bool × (List aC)
 | [], _i0, ah, aH =>
  (ah, aH)
 | x0 :: r0, i0, ah, aH =>
  Q7m p1 p2 o0 r0 (i0 + 1) (s_Km x0 (au.mk ah)).2.bA (aH ++ [(s_Km x0 (au.mk ah)).1])
def Q1l5 (p1 : Val) (p2 : BA) (o0 : au) (i0 : Nat) (_ah : Bool) (aH : List aC) : List PV :=
  [.un, .un, .un, .fn 250 [.bx 0 0] []] ++ nuns 5 ++ [.ms 1 4 0 (List.length aH)] ++ nuns 6 ++ [.sl (Val.rows (s_Kd p1 p2 4 o0).1.list), iN ((List.length (s_Kd p1 p2 4 o0).1.list) : Int), iN (i0 : Int)] ++ nuns 11
def Q15n (_p1 : Val) (_p2 : BA) (_o0 : au) (_i0 : Nat) (ah : Bool) (aH : List aC) : List Ob :=
  [⟨1, 0, false, [.bool ah]⟩, ⟨4, 0, true, (aC.rows aH).flatten⟩]
def Qv6 (p1 : Val) (p2 : BA) (o0 : au) (i0 : Nat) (ah : Bool) (aH : List aC) : En := .loop 1 Ir.Qqd Ir.Q1wj (Q1l5 p1 p2 o0 i0 ah aH) (Q15n p1 p2 o0 i0 ah aH)
def Q10i (_p1 : Val) (_p2 : BA) (_o0 : au) (q0 : Bool) (q1 : List aC) (z : Nat → PV) (_zo : Nat → List PV) : St :=
  ⟨zr z 0 9 ++ [.ms 1 4 0 (List.length q1)] ++ zr z 10 20, [(0, ⟨1, 0, false, [.bool q0]⟩), (1, ⟨4, 0, true, (aC.rows q1).flatten⟩)], 66⟩
theorem Q1h5 (p1 : Val) (p2 : BA) (o0 : au) (i0 : Nat) (ah : Bool) (aH : List aC) : VOK (Go.Pv.look (number 0 (Q15n p1 p2 o0 i0 ah aH))) [(1, aC.rows aH)] := (VOK.cons (show Seen _ _ from Q3o (ob := ⟨4, 0, true, (aC.rows aH).flatten⟩) (aC.Q7 aH 4 rfl)) VOK.nil)
def Qwx (p1 : Val) (p2 : BA) (o0 : au) (e : En) (q : Bool × (List aC)) : Prop := ∃ z zo, Q0 G e (.st (.exit 0) (Q10i p1 p2 o0 q.1 q.2 z zo))
theorem Q108 (p1 : Val) (p2 : BA) (o0 : au) {e e' : En} (h : ∀ r, Q0 G e r → Q0 G e' r) : ∀ q, Qwx p1 p2 o0 e q → Qwx p1 p2 o0 e' q
  | _, ⟨z, zo, hz⟩ => ⟨z, zo, h _ hz⟩
def Qk5 (p1 : Val) (p2 : BA) (o0 : au) : Prop := (List.length (s_Kd p1 p2 4 o0).1.list ≤ 137438953472) ∧ (∀ x0 ∈ (s_Kd p1 p2 4 o0).1.list, H_Km x0) ∧ True
def Q10s (p1 : Val) (p2 : BA) (o0 : au) (i0 : Nat) (_ah : Bool) (_aH : List aC) : List PV :=
  [.un, .un, .un, .fn 250 [.bx 0 0] []] ++ nuns 12 ++ [.sl (Val.rows (s_Kd p1 p2 4 o0).1.list), iN ((List.length (s_Kd p1 p2 4 o0).1.list) : Int), iN (i0 : Int), .bool false]
def Qs5 (_p1 : Val) (_p2 : BA) (_o0 : au) (_i0 : Nat) (_ah : Bool) (_aH : List aC) : List (Nat × List PV) :=
  []
theorem Q1kt (p1 : Val) (p2 : BA) (o0 : au) (_H : Qk5 p1 p2 o0) (i0 : Nat) (ah : Bool) (aH : List aC) (_aT : List.length aH ≤ i0) (bG : (decide ((i0 : Int) < ((List.length (s_Kd p1 p2 4 o0).1.list) : Int))) = false) : Qwx p1 p2 o0 (Qv6 p1 p2 o0 i0 ah aH) (ah, aH) := by
 exact ⟨(envF (Q10s p1 p2 o0 i0 ah aH)), (zoF (Qs5 p1 p2 o0 i0 ah aH)), Qd (Q1h5 p1 p2 o0 i0 ah aH) (x := ((.exit 0), Q10i p1 p2 o0 ah aH (envF (Q10s p1 p2 o0 i0 ah aH)) (zoF (Qs5 p1 p2 o0 i0 ah aH)))) [hB 0 bG] [] (by kernel_rfl)⟩
theorem Q1iq (p1 : Val) (p2 : BA) (o0 : au) (H : Qk5 p1 p2 o0) (x0 : Val) (i0 : Nat) (ah : Bool) (aH : List aC) (bU : (s_Kd p1 p2 4 o0).1.list[i0]? = some x0) (dG : i0 < List.length (s_Kd p1 p2 4 o0).1.list) (aT : List.length aH ≤ i0) (bG : (decide ((i0 : Int) < ((List.length (s_Kd p1 p2 4 o0).1.list) : Int))) = true) {r : Rs} (hr : Q0 G (Qv6 p1 p2 o0 (i0 + 1) (s_Km x0 (au.mk ah)).2.bA (aH ++ [(s_Km x0 (au.mk ah)).1])) r) : Q0 G (Qv6 p1 p2 o0 i0 ah aH) r := by
 have hB0 := H.1
 exact Qc (Q1h5 p1 p2 o0 i0 ah aH) [hB 0 bG, hP 0 (Q2q 5 _ i0 _ (Val.Qg bU) rfl), hA 8 1 578 642 4 56 0 0 true aC.Q8 aC.Q1g aH (s_Km x0 (au.mk ah)).1 (aC.Qh aH) rfl rfl (by omega), hS 0 true (aC.Q7 (aH ++ [(s_Km x0 (au.mk ah)).1]) 4 rfl), hP 1 (Q26 i0 (by omega))] [aN (t_Km x0 (au.mk ah) (H.2.1 x0 (Q2l bU)))] hr (by kernel_rfl)
theorem Q18h (p1 : Val) (p2 : BA) (o0 : au) (H : Qk5 p1 p2 o0) : ∀ (r0 : List Val) (i0 : Nat) (ah : Bool) (aH : List aC), List.drop i0 (s_Kd p1 p2 4 o0).1.list = r0 → List.length aH ≤ i0 → Qwx p1 p2 o0 (Qv6 p1 p2 o0 i0 ah aH) (Q7m p1 p2 o0 r0 i0 ah aH)
 | [], i0, ah, aH, hd, aT => by
  have bG : (decide ((i0 : Int) < ((List.length (s_Kd p1 p2 4 o0).1.list) : Int))) = false := by have := Q1c hd; simp; omega
  rw [Q7m]
  exact Q1kt p1 p2 o0 H i0 ah aH aT bG
 | x0 :: r0, i0, ah, aH, hd, aT => by
  obtain ⟨bU, dG, hd'⟩ := Q19 hd
  have bG : (decide ((i0 : Int) < ((List.length (s_Kd p1 p2 4 o0).1.list) : Int))) = true := by simp; omega
  rw [Q7m]
  exact Q108 p1 p2 o0 (fun r hr => Q1iq p1 p2 o0 H x0 i0 ah aH bU dG aT bG hr) _ (Q18h p1 p2 o0 H r0 _ _ _ hd' (by first | omega | (simp; omega)))
def s_Kx (p1 : Val) (p2 : BA) (o0 : au) : List aC × au := ((dE aC.dec p1 p2).1, ft o0 (isM p1 && (dE aC.dec p1 p2).2))
theorem Q1jk (p1 : Val) (p2 : BA) (o0 : au) : ∀ (l : List Val) (i : Nat) (b : Bool) (a : List aC), Q7m p1 p2 o0 l i b a = (b || !(l.all fun x => (aC.dec x).2), a ++ l.map (fun x => (aC.dec x).1))
  | [], _, b, a => by rw [Q7m]; simp
  | x :: l, i, b, a => by
    rw [Q7m]
    refine (Q1jk p1 p2 o0 l (i + 1) (b || !(aC.dec x).2) (a ++ [(aC.dec x).1])).trans ?_
    simp only [List.append_assoc, List.singleton_append, List.map_cons, List.all_cons, Bool.not_and, Bool.or_assoc]
theorem e_Kx (p1 : Val) (p2 : BA) (o0 : au) : s_Kx p1 p2 o0 = (((Q7m p1 p2 o0 (s_Kd p1 p2 4 o0).1.list 0 (s_Kd p1 p2 4 o0).2.bA []).2, (au.mk (Q7m p1 p2 o0 (s_Kd p1 p2 4 o0).1.list 0 (s_Kd p1 p2 4 o0).2.bA []).1))) := by
  rw [Q1jk]
  unfold s_Kd s_Kx
  simp only [Qak, Q5j]
  refine Prod.ext rfl ?_
  rw [Qa5 o0.bA (isM p1) _ _ _ (Qyo (prt p1 p2)), Q6o]
  rfl
def c_Kx (p1 : Val) (p2 : BA) (o0 : au) : En := .call 249 [.bx 0 0, .agg (Val.cells p1), .str p2, .fn 250 [.bx 0 0] []] [⟨1, 0, false, (au.cells o0)⟩]
def r_Kx (_p1 : Val) (_p2 : BA) (_o0 : au) (q0 : List aC) (q1 : au) : Rs := .ret (.sl (aC.rows q0)) [⟨1, 0, false, (au.cells q1)⟩]
def a_Kx (p1 : Val) (p2 : BA) (o0 : au) : Rs := r_Kx p1 p2 o0 (s_Kx p1 p2 o0).1 (s_Kx p1 p2 o0).2
def H_Kx (p1 : Val) : Prop := Val.Sm 1000000000 p1
theorem Q1hy (p1 : Val) (p2 : BA) (o0 : au) (H : H_Kx p1) : (H_Kd p1) ∧ (Qk5 p1 p2 o0) ∧ True := by
  have hl := Qeh (Q3d H p2)
  refine ⟨H, ?_, trivial⟩
  unfold Qk5 s_Kd
  simp only [Qak]
  exact ⟨Nat.le_trans hl.1 (Nat.le_of_ble_eq_true rfl), hl.2, trivial⟩
theorem t_Kx (p1 : Val) (p2 : BA) (o0 : au) (H : H_Kx p1) : Q0 G (c_Kx p1 p2 o0) (a_Kx p1 p2 o0) := by
 unfold a_Kx
 rw [e_Kx]
 have hl0 := Q18h p1 p2 o0 ((Q1hy p1 p2 o0 H).2.1) (s_Kd p1 p2 4 o0).1.list 0 (s_Kd p1 p2 4 o0).2.bA [] (by simp) (by simp)
 obtain ⟨z0, gq, hl0⟩ := hl0
 exact Q5 (fn := Ir.Kx) (by kernel_rfl) (h := [⟨1, 0, false, (au.cells o0)⟩]) (vw := []) VOK.nil [hP 8 (Qw _ _ (Val.Q8 (s_Kd p1 p2 4 o0).1.list)), hS 0 true (aC.Q7 (Q7m p1 p2 o0 (s_Kd p1 p2 4 o0).1.list 0 (s_Kd p1 p2 4 o0).2.bA []).2 4 rfl), hQ (aC.Q8 (Q7m p1 p2 o0 (s_Kd p1 p2 4 o0).1.list 0 (s_Kd p1 p2 4 o0).2.bA []).2).symm] [aN (t_Kd p1 p2 4 o0 (Q1hy p1 p2 o0 H).1), aV [(1, aC.rows (Q7m p1 p2 o0 (s_Kd p1 p2 4 o0).1.list 0 (s_Kd p1 p2 4 o0).2.bA []).2)] hl0] (by kernel_rfl)
def s_Kr (p1 : Val) (o0 : au) : aA × au := ((aA.dec p1).1, ft o0 (aA.dec p1).2)
theorem e_Kr (p1 : Val) (o0 : au) : s_Kr p1 o0 = (((aA.mk (s_Kn p1 Q13 (s_Ko p1 o0).2).1 (s_Kn p1 Q1p (s_Kn p1 Q13 (s_Ko p1 o0).2).2).1 (s_Kc p1 Q2w (s_Kn p1 Q1p (s_Kn p1 Q13 (s_Ko p1 o0).2).2).2).1 (s_Kg p1 Q39 (s_Kc p1 Q2w (s_Kn p1 Q1p (s_Kn p1 Q13 (s_Ko p1 o0).2).2).2).2).1 (s_Kg p1 Q33 (s_Kg p1 Q39 (s_Kc p1 Q2w (s_Kn p1 Q1p (s_Kn p1 Q13 (s_Ko p1 o0).2).2).2).2).2).1), (s_Kg p1 Q33 (s_Kg p1 Q39 (s_Kc p1 Q2w (s_Kn p1 Q1p (s_Kn p1 Q13 (s_Ko p1 o0).2).2).2).2).2).2)) := by
  simp only [s_Ko, s_Kg, s_Kn, s_Kc, s_Kr, aA.dec, Qnv, Bool.and_assoc, Bool.and_left_comm, Bool.and_comm, Bool.and_self_left]
def c_Kr (p1 : Val) (o0 : au) : En := .call 252 [.bx 0 0, .agg (Val.cells p1)] [⟨1, 0, false, (au.cells o0)⟩]
def r_Kr (_p1 : Val) (_o0 : au) (q0 : aA) (q1 : au) : Rs := .ret (.agg (aA.cells q0)) [⟨1, 0, false, (au.cells q1)⟩]
def a_Kr (p1 : Val) (o0 : au) : Rs := r_Kr p1 o0 (s_Kr p1 o0).1 (s_Kr p1 o0).2
def H_Kr (p1 : Val) : Prop := Val.Sm 1000000000 p1
theorem Qnx (p1 : Val) (_o0 : au) (H : H_Kr p1) : (H_Kn p1) ∧ (H_Kc p1) ∧ (H_Kg p1) ∧ True := by
  repeat' with_reducible apply And.intro
  all_goals first | exact True.intro | exact H | exact Qoq (Q3d H _)
theorem t_Kr (p1 : Val) (o0 : au) (H : H_Kr p1) : Q0 G (c_Kr p1 o0) (a_Kr p1 o0) := by
 unfold a_Kr
 rw [e_Kr]
 exact Q5 (fn := Ir.Kr) (by kernel_rfl) (h := [⟨1, 0, false, (au.cells o0)⟩]) (vw := []) VOK.nil [] [aN (t_Ko p1 o0), aN (t_Kn p1 Q13 (s_Ko p1 o0).2 (Qnx p1 o0 H).1), aN (t_Kn p1 Q1p (s_Kn p1 Q13 (s_Ko p1 o0).2).2 (Qnx p1 o0 H).1), aN (t_Kc p1 Q2w (s_Kn p1 Q1p (s_Kn p1 Q13 (s_Ko p1 o0).2).2).2 (Qnx p1 o0 H).2.1), aN (t_Kg p1 Q39 (s_Kc p1 Q2w (s_Kn p1 Q1p (s_Kn p1 Q13 (s_Ko p1 o0).2).2).2).2 (Qnx p1 o0 H).2.2.1), aN (t_Kg p1 Q33 (s_Kg p1 Q39 (s_Kc p1 Q2w (s_Kn p1 Q1p (s_Kn p1 Q13 (s_Ko p1 o0).2).2).2).2).2 (Qnx p1 o0 H).2.2.1)] (by kernel_rfl)
def Q7n (p1 : Val) (p2 : BA) (o0 : au) : List Val → Nat → Bool → (List aA) → Bool × (List aA)
 | [], _i0, ah, aH =>
  (ah, aH)
 | x0 :: r0, i0, ah, aH =>
  Q7n p1 p2 o0 r0 (i0 + 1) (s_Kr x0 (au.mk ah)).2.bA (aH ++ [(s_Kr x0 (au.mk ah)).1])
def Q1l6 (p1 : Val) (p2 : BA) (o0 : au) (i0 : Nat) (_ah : Bool) (aH : List aA) : List PV :=
  [.un, .un, .un, .fn 252 [.bx 0 0] []] ++ nuns 5 ++ [.ms 1 5 0 (List.length aH)] ++ nuns 6 ++ [.sl (Val.rows (s_Kd p1 p2 4 o0).1.list), iN ((List.length (s_Kd p1 p2 4 o0).1.list) : Int), iN (i0 : Int)] ++ nuns 11
def Q15o (_p1 : Val) (_p2 : BA) (_o0 : au) (_i0 : Nat) (ah : Bool) (aH : List aA) : List Ob :=
  [⟨1, 0, false, [.bool ah]⟩, ⟨5, 0, true, (aA.rows aH).flatten⟩]
def Qv7 (p1 : Val) (p2 : BA) (o0 : au) (i0 : Nat) (ah : Bool) (aH : List aA) : En := .loop 1 Ir.Qqe Ir.Q1wk (Q1l6 p1 p2 o0 i0 ah aH) (Q15o p1 p2 o0 i0 ah aH)
def Q10j (_p1 : Val) (_p2 : BA) (_o0 : au) (q0 : Bool) (q1 : List aA) (z : Nat → PV) (_zo : Nat → List PV) : St :=
  ⟨zr z 0 9 ++ [.ms 1 5 0 (List.length q1)] ++ zr z 10 20, [(0, ⟨1, 0, false, [.bool q0]⟩), (1, ⟨5, 0, true, (aA.rows q1).flatten⟩)], 66⟩
theorem Q1h6 (p1 : Val) (p2 : BA) (o0 : au) (i0 : Nat) (ah : Bool) (aH : List aA) : VOK (Go.Pv.look (number 0 (Q15o p1 p2 o0 i0 ah aH))) [(1, aA.rows aH)] := (VOK.cons (show Seen _ _ from Q3o (ob := ⟨5, 0, true, (aA.rows aH).flatten⟩) (aA.Q7 aH 5 rfl)) VOK.nil)
def Qwy (p1 : Val) (p2 : BA) (o0 : au) (e : En) (q : Bool × (List aA)) : Prop := ∃ z zo, Q0 G e (.st (.exit 0) (Q10j p1 p2 o0 q.1 q.2 z zo))
theorem Q109 (p1 : Val) (p2 : BA) (o0 : au) {e e' : En} (h : ∀ r, Q0 G e r → Q0 G e' r) : ∀ q, Qwy p1 p2 o0 e q → Qwy p1 p2 o0 e' q
  | _, ⟨z, zo, hz⟩ => ⟨z, zo, h _ hz⟩
def Qk6 (p1 : Val) (p2 : BA) (o0 : au) : Prop := (List.length (s_Kd p1 p2 4 o0).1.list ≤ 137438953472) ∧ (∀ x0 ∈ (s_Kd p1 p2 4 o0).1.list, H_Kr x0) ∧ True
def Q10t (p1 : Val) (p2 : BA) (o0 : au) (i0 : Nat) (_ah : Bool) (_aH : List aA) : List PV :=
  [.un, .un, .un, .fn 252 [.bx 0 0] []] ++ nuns 12 ++ [.sl (Val.rows (s_Kd p1 p2 4 o0).1.list), iN ((List.length (s_Kd p1 p2 4 o0).1.list) : Int), iN (i0 : Int), .bool false]
def Qs6 (_p1 : Val) (_p2 : BA) (_o0 : au) (_i0 : Nat) (_ah : Bool) (_aH : List aA) : List (Nat × List PV) :=
  []
theorem Q1ku (p1 : Val) (p2 : BA) (o0 : au) (_H : Qk6 p1 p2 o0) (i0 : Nat) (ah : Bool) (aH : List aA) (_aT : List.length aH ≤ i0) (bG : (decide ((i0 : Int) < ((List.length (s_Kd p1 p2 4 o0).1.list) : Int))) = false) : Qwy p1 p2 o0 (Qv7 p1 p2 o0 i0 ah aH) (ah, aH) := by
 exact ⟨(envF (Q10t p1 p2 o0 i0 ah aH)), (zoF (Qs6 p1 p2 o0 i0 ah aH)), Qd (Q1h6 p1 p2 o0 i0 ah aH) (x := ((.exit 0), Q10j p1 p2 o0 ah aH (envF (Q10t p1 p2 o0 i0 ah aH)) (zoF (Qs6 p1 p2 o0 i0 ah aH)))) [hB 0 bG] [] (by kernel_rfl)⟩
theorem Q1ir (p1 : Val) (p2 : BA) (o0 : au) (H : Qk6 p1 p2 o0) (x0 : Val) (i0 : Nat) (ah : Bool) (aH : List aA) (bU : (s_Kd p1 p2 4 o0).1.list[i0]? = some x0) (dG : i0 < List.length (s_Kd p1 p2 4 o0).1.list) (aT : List.length aH ≤ i0) (bG : (decide ((i0 : Int) < ((List.length (s_Kd p1 p2 4 o0).1.list) : Int))) = true) {r : Rs} (hr : Q0 G (Qv7 p1 p2 o0 (i0 + 1) (s_Kr x0 (au.mk ah)).2.bA (aH ++ [(s_Kr x0 (au.mk ah)).1])) r) : Q0 G (Qv7 p1 p2 o0 i0 ah aH) r := by
 have hB0 := H.1
 exact Qc (Q1h6 p1 p2 o0 i0 ah aH) [hB 0 bG, hP 0 (Q2q 5 _ i0 _ (Val.Qg bU) rfl), hA 8 1 578 642 5 56 0 0 true aA.Q8 aA.Q1g aH (s_Kr x0 (au.mk ah)).1 (aA.Qh aH) rfl rfl (by omega), hS 0 true (aA.Q7 (aH ++ [(s_Kr x0 (au.mk ah)).1]) 5 rfl), hP 1 (Q26 i0 (by omega))] [aN (t_Kr x0 (au.mk ah) (H.2.1 x0 (Q2l bU)))] hr (by kernel_rfl)
theorem Q18i (p1 : Val) (p2 : BA) (o0 : au) (H : Qk6 p1 p2 o0) : ∀ (r0 : List Val) (i0 : Nat) (ah : Bool) (aH : List aA), List.drop i0 (s_Kd p1 p2 4 o0).1.list = r0 → List.length aH ≤ i0 → Qwy p1 p2 o0 (Qv7 p1 p2 o0 i0 ah aH) (Q7n p1 p2 o0 r0 i0 ah aH)
 | [], i0, ah, aH, hd, aT => by
  have bG : (decide ((i0 : Int) < ((List.length (s_Kd p1 p2 4 o0).1.list) : Int))) = false := by have := Q1c hd; simp; omega
  rw [Q7n]
  exact Q1ku p1 p2 o0 H i0 ah aH aT bG
 | x0 :: r0, i0, ah, aH, hd, aT => by
  obtain ⟨bU, dG, hd'⟩ := Q19 hd
  have bG : (decide ((i0 : Int) < ((List.length (s_Kd p1 p2 4 o0).1.list) : Int))) = true := by simp; omega
  rw [Q7n]
  exact Q109 p1 p2 o0 (fun r hr => Q1ir p1 p2 o0 H x0 i0 ah aH bU dG aT bG hr) _ (Q18i p1 p2 o0 H r0 _ _ _ hd' (by first | omega | (simp; omega)))
def s_Ky (p1 : Val) (p2 : BA) (o0 : au) : List aA × au := ((dE aA.dec p1 p2).1, ft o0 (isM p1 && (dE aA.dec p1 p2).2))
theorem Q1jl (p1 : Val) (p2 : BA) (o0 : au) : ∀ (l : List Val) (i : Nat) (b : Bool) (a : List aA), Q7n p1 p2 o0 l i b a = (b || !(l.all fun x => (aA.dec x).2), a ++ l.map (fun x => (aA.dec x).1))
  | [], _, b, a => by rw [Q7n]; simp
  | x :: l, i, b, a => by
    rw [Q7n]
    refine (Q1jl p1 p2 o0 l (i + 1) (b || !(aA.dec x).2) (a ++ [(aA.dec x).1])).trans ?_
    simp only [List.append_assoc, List.singleton_append, List.map_cons, List.all_cons, Bool.not_and, Bool.or_assoc]
theorem e_Ky (p1 : Val) (p2 : BA) (o0 : au) : s_Ky p1 p2 o0 = (((Q7n p1 p2 o0 (s_Kd p1 p2 4 o0).1.list 0 (s_Kd p1 p2 4 o0).2.bA []).2, (au.mk (Q7n p1 p2 o0 (s_Kd p1 p2 4 o0).1.list 0 (s_Kd p1 p2 4 o0).2.bA []).1))) := by
  rw [Q1jl]
  unfold s_Kd s_Ky
  simp only [Qak, Q5j]
  refine Prod.ext rfl ?_
  rw [Qa5 o0.bA (isM p1) _ _ _ (Qyo (prt p1 p2)), Q6o]
  rfl
def c_Ky (p1 : Val) (p2 : BA) (o0 : au) : En := .call 251 [.bx 0 0, .agg (Val.cells p1), .str p2, .fn 252 [.bx 0 0] []] [⟨1, 0, false, (au.cells o0)⟩]
def r_Ky (_p1 : Val) (_p2 : BA) (_o0 : au) (q0 : List aA) (q1 : au) : Rs := .ret (.sl (aA.rows q0)) [⟨1, 0, false, (au.cells q1)⟩]
def a_Ky (p1 : Val) (p2 : BA) (o0 : au) : Rs := r_Ky p1 p2 o0 (s_Ky p1 p2 o0).1 (s_Ky p1 p2 o0).2
def H_Ky (p1 : Val) : Prop := Val.Sm 1000000000 p1
theorem Q1hz (p1 : Val) (p2 : BA) (o0 : au) (H : H_Ky p1) : (H_Kd p1) ∧ (Qk6 p1 p2 o0) ∧ True := by
  have hl := Qeh (Q3d H p2)
  refine ⟨H, ?_, trivial⟩
  unfold Qk6 s_Kd
  simp only [Qak]
  exact ⟨Nat.le_trans hl.1 (Nat.le_of_ble_eq_true rfl), hl.2, trivial⟩
theorem t_Ky (p1 : Val) (p2 : BA) (o0 : au) (H : H_Ky p1) : Q0 G (c_Ky p1 p2 o0) (a_Ky p1 p2 o0) := by
 unfold a_Ky
 rw [e_Ky]
 have hl0 := Q18i p1 p2 o0 ((Q1hz p1 p2 o0 H).2.1) (s_Kd p1 p2 4 o0).1.list 0 (s_Kd p1 p2 4 o0).2.bA [] (by simp) (by simp)
 obtain ⟨z0, gq, hl0⟩ := hl0
 exact Q5 (fn := Ir.Ky) (by kernel_rfl) (h := [⟨1, 0, false, (au.cells o0)⟩]) (vw := []) VOK.nil [hP 8 (Qw _ _ (Val.Q8 (s_Kd p1 p2 4 o0).1.list)), hS 0 true (aA.Q7 (Q7n p1 p2 o0 (s_Kd p1 p2 4 o0).1.list 0 (s_Kd p1 p2 4 o0).2.bA []).2 5 rfl), hQ (aA.Q8 (Q7n p1 p2 o0 (s_Kd p1 p2 4 o0).1.list 0 (s_Kd p1 p2 4 o0).2.bA []).2).symm] [aN (t_Kd p1 p2 4 o0 (Q1hz p1 p2 o0 H).1), aV [(1, aA.rows (Q7n p1 p2 o0 (s_Kd p1 p2 4 o0).1.list 0 (s_Kd p1 p2 4 o0).2.bA []).2)] hl0] (by kernel_rfl)
def s_Kl (p1 : Val) (o0 : au) : aY × au := ((aY.dec p1).1, ft o0 (aY.dec p1).2)
theorem e_Kl (p1 : Val) (o0 : au) : s_Kl p1 o0 = (((aY.mk (s_Kn p1 Q37 (s_Ko p1 o0).2).1 (s_Kg p1 Q1f (s_Kn p1 Q37 (s_Ko p1 o0).2).2).1 (s_Kg p1 Q1v (s_Kg p1 Q1f (s_Kn p1 Q37 (s_Ko p1 o0).2).2).2).1 (s_Kg p1 Q35 (s_Kg p1 Q1v (s_Kg p1 Q1f (s_Kn p1 Q37 (s_Ko p1 o0).2).2).2).2).1 (s_Kt p1 Q1d (s_Kg p1 Q35 (s_Kg p1 Q1v (s_Kg p1 Q1f (s_Kn p1 Q37 (s_Ko p1 o0).2).2).2).2).2).1 (s_Ku p1 Q17 (s_Kt p1 Q1d (s_Kg p1 Q35 (s_Kg p1 Q1v (s_Kg p1 Q1f (s_Kn p1 Q37 (s_Ko p1 o0).2).2).2).2).2).2).1 (s_Kv p1 Q1y (s_Ku p1 Q17 (s_Kt p1 Q1d (s_Kg p1 Q35 (s_Kg p1 Q1v (s_Kg p1 Q1f (s_Kn p1 Q37 (s_Ko p1 o0).2).2).2).2).2).2).2).1 (s_Kw p1 Q2j (s_Kv p1 Q1y (s_Ku p1 Q17 (s_Kt p1 Q1d (s_Kg p1 Q35 (s_Kg p1 Q1v (s_Kg p1 Q1f (s_Kn p1 Q37 (s_Ko p1 o0).2).2).2).2).2).2).2).2).1 (s_Kx p1 Q3k (s_Kw p1 Q2j (s_Kv p1 Q1y (s_Ku p1 Q17 (s_Kt p1 Q1d (s_Kg p1 Q35 (s_Kg p1 Q1v (s_Kg p1 Q1f (s_Kn p1 Q37 (s_Ko p1 o0).2).2).2).2).2).2).2).2).2).1 (s_Ky p1 Q2a (s_Kx p1 Q3k (s_Kw p1 Q2j (s_Kv p1 Q1y (s_Ku p1 Q17 (s_Kt p1 Q1d (s_Kg p1 Q35 (s_Kg p1 Q1v (s_Kg p1 Q1f (s_Kn p1 Q37 (s_Ko p1 o0).2).2).2).2).2).2).2).2).2).2).1), (s_Ky p1 Q2a (s_Kx p1 Q3k (s_Kw p1 Q2j (s_Kv p1 Q1y (s_Ku p1 Q17 (s_Kt p1 Q1d (s_Kg p1 Q35 (s_Kg p1 Q1v (s_Kg p1 Q1f (s_Kn p1 Q37 (s_Ko p1 o0).2).2).2).2).2).2).2).2).2).2).2)) := by
  simp only [s_Ko, s_Kg, s_Kn, s_Kt, s_Kv, s_Kw, s_Ku, s_Kx, s_Ky, s_Kl, aY.dec, Qnv, Bool.and_assoc, Bool.and_left_comm, Bool.and_comm, Bool.and_self_left]
def c_Kl (p1 : Val) (o0 : au) : En := .call 218 [.bx 0 0, .agg (Val.cells p1)] [⟨1, 0, false, (au.cells o0)⟩]
def r_Kl (_p1 : Val) (_o0 : au) (q0 : aY) (q1 : au) : Rs := .ret (.agg (aY.cells q0)) [⟨1, 0, false, (au.cells q1)⟩]
def a_Kl (p1 : Val) (o0 : au) : Rs := r_Kl p1 o0 (s_Kl p1 o0).1 (s_Kl p1 o0).2
def H_Kl (p1 : Val) : Prop := Val.Sm 1000000000 p1
theorem Q8x (p1 : Val) (_o0 : au) (H : H_Kl p1) : (H_Kn p1) ∧ (H_Kg p1) ∧ (H_Kt p1) ∧ (H_Ku p1) ∧ (H_Kv p1) ∧ (H_Kw p1) ∧ (H_Kx p1) ∧ (H_Ky p1) ∧ True := by
  repeat' with_reducible apply And.intro
  all_goals first | exact True.intro | exact H | exact Qoq (Q3d H _)
theorem t_Kl (p1 : Val) (o0 : au) (H : H_Kl p1) : Q0 G (c_Kl p1 o0) (a_Kl p1 o0) := by
 unfold a_Kl
 rw [e_Kl]
 exact Q5 (fn := Ir.Kl) (by kernel_rfl) (h := [⟨1, 0, false, (au.cells o0)⟩]) (vw := []) VOK.nil [] [aN (t_Ko p1 o0), aN (t_Kn p1 Q37 (s_Ko p1 o0).2 (Q8x p1 o0 H).1), aN (t_Kg p1 Q1f (s_Kn p1 Q37 (s_Ko p1 o0).2).2 (Q8x p1 o0 H).2.1), aN (t_Kg p1 Q1v (s_Kg p1 Q1f (s_Kn p1 Q37 (s_Ko p1 o0).2).2).2 (Q8x p1 o0 H).2.1), aN (t_Kg p1 Q35 (s_Kg p1 Q1v (s_Kg p1 Q1f (s_Kn p1 Q37 (s_Ko p1 o0).2).2).2).2 (Q8x p1 o0 H).2.1), aN (t_Kt p1 Q1d (s_Kg p1 Q35 (s_Kg p1 Q1v (s_Kg p1 Q1f (s_Kn p1 Q37 (s_Ko p1 o0).2).2).2).2).2 (Q8x p1 o0 H).2.2.1), aN (t_Ku p1 Q17 (s_Kt p1 Q1d (s_Kg p1 Q35 (s_Kg p1 Q1v (s_Kg p1 Q1f (s_Kn p1 Q37 (s_Ko p1 o0).2).2).2).2).2).2 (Q8x p1 o0 H).2.2.2.1), aN (t_Kv p1 Q1y (s_Ku p1 Q17 (s_Kt p1 Q1d (s_Kg p1 Q35 (s_Kg p1 Q1v (s_Kg p1 Q1f (s_Kn p1 Q37 (s_Ko p1 o0).2).2).2).2).2).2).2 (Q8x p1 o0 H).2.2.2.2.1), aN (t_Kw p1 Q2j (s_Kv p1 Q1y (s_Ku p1 Q17 (s_Kt p1 Q1d (s_Kg p1 Q35 (s_Kg p1 Q1v (s_Kg p1 Q1f (s_Kn p1 Q37 (s_Ko p1 o0).2).2).2).2).2).2).2).2 (Q8x p1 o0 H).2.2.2.2.2.1), aN (t_Kx p1 Q3k (s_Kw p1 Q2j (s_Kv p1 Q1y (s_Ku p1 Q17 (s_Kt p1 Q1d (s_Kg p1 Q35 (s_Kg p1 Q1v (s_Kg p1 Q1f (s_Kn p1 Q37 (s_Ko p1 o0).2).2).2).2).2).2).2).2).2 (Q8x p1 o0 H).2.2.2.2.2.2.1), aN (t_Ky p1 Q2a (s_Kx p1 Q3k (s_Kw p1 Q2j (s_Kv p1 Q1y (s_Ku p1 Q17 (s_Kt p1 Q1d (s_Kg p1 Q35 (s_Kg p1 Q1v (s_Kg p1 Q1f (s_Kn p1 Q37 (s_Ko p1 o0).2).2).2).2).2).2).2).2).2).2 (Q8x p1 o0 H).2.2.2.2.2.2.2.1)] (by kernel_rfl)
def s_Ke (p1 : Val) (o0 : au) : aX × au := ((aX.dec p1).1, ft o0 (aX.dec p1).2)
theorem e_Ke (p1 : Val) (o0 : au) : s_Ke p1 o0 = (((aX.mk (s_Kn p1 Q13 (s_Ko p1 o0).2).1 (s_Kn p1 Q1p (s_Kn p1 Q13 (s_Ko p1 o0).2).2).1), (s_Kn p1 Q1p (s_Kn p1 Q13 (s_Ko p1 o0).2).2).2)) := by
  simp only [s_Ko, s_Kn, s_Ke, aX.dec, Qnv, Bool.and_assoc, Bool.and_left_comm, Bool.and_self_left]
def c_Ke (p1 : Val) (o0 : au) : En := .call 217 [.bx 0 0, .agg (Val.cells p1)] [⟨1, 0, false, (au.cells o0)⟩]
def r_Ke (_p1 : Val) (_o0 : au) (q0 : aX) (q1 : au) : Rs := .ret (.agg (aX.cells q0)) [⟨1, 0, false, (au.cells q1)⟩]
def a_Ke (p1 : Val) (o0 : au) : Rs := r_Ke p1 o0 (s_Ke p1 o0).1 (s_Ke p1 o0).2
def H_Ke (p1 : Val) : Prop := Val.Sm 1000000000 p1
theorem Q1hs (p1 : Val) (_o0 : au) (H : H_Ke p1) : (H_Kn p1) ∧ True := by
  repeat' with_reducible apply And.intro
  all_goals first | exact True.intro | exact H | exact Qoq (Q3d H _)
theorem t_Ke (p1 : Val) (o0 : au) (H : H_Ke p1) : Q0 G (c_Ke p1 o0) (a_Ke p1 o0) := by
 unfold a_Ke
 rw [e_Ke]
 exact Q5 (fn := Ir.Ke) (by kernel_rfl) (h := [⟨1, 0, false, (au.cells o0)⟩]) (vw := []) VOK.nil [] [aN (t_Ko p1 o0), aN (t_Kn p1 Q13 (s_Ko p1 o0).2 (Q1hs p1 o0 H).1), aN (t_Kn p1 Q1p (s_Kn p1 Q13 (s_Ko p1 o0).2).2 (Q1hs p1 o0 H).1)] (by kernel_rfl)
def Q7h (p1 : Val) (p2 : BA) (o0 : au) : List Val → Nat → Bool → (List aX) → Bool × (List aX)
 | [], _i0, ah, aH =>
  (ah, aH)
 | x0 :: r0, i0, ah, aH =>
  Q7h p1 p2 o0 r0 (i0 + 1) (s_Ke x0 (au.mk ah)).2.bA (aH ++ [(s_Ke x0 (au.mk ah)).1])
def Q1l0 (p1 : Val) (p2 : BA) (o0 : au) (i0 : Nat) (_ah : Bool) (aH : List aX) : List PV :=
  [.un, .un, .un, .fn 217 [.bx 0 0] []] ++ nuns 5 ++ [.ms 1 2 0 (List.length aH)] ++ nuns 6 ++ [.sl (Val.rows (s_Kd p1 p2 4 o0).1.list), iN ((List.length (s_Kd p1 p2 4 o0).1.list) : Int), iN (i0 : Int)] ++ nuns 11
def Q15i (_p1 : Val) (_p2 : BA) (_o0 : au) (_i0 : Nat) (ah : Bool) (aH : List aX) : List Ob :=
  [⟨1, 0, false, [.bool ah]⟩, ⟨2, 0, true, (aX.rows aH).flatten⟩]
def Qv1 (p1 : Val) (p2 : BA) (o0 : au) (i0 : Nat) (ah : Bool) (aH : List aX) : En := .loop 1 Ir.Qq8 Ir.Q1we (Q1l0 p1 p2 o0 i0 ah aH) (Q15i p1 p2 o0 i0 ah aH)
def Q10d (_p1 : Val) (_p2 : BA) (_o0 : au) (q0 : Bool) (q1 : List aX) (z : Nat → PV) (_zo : Nat → List PV) : St :=
  ⟨zr z 0 9 ++ [.ms 1 2 0 (List.length q1)] ++ zr z 10 20, [(0, ⟨1, 0, false, [.bool q0]⟩), (1, ⟨2, 0, true, (aX.rows q1).flatten⟩)], 66⟩
theorem Q1h0 (p1 : Val) (p2 : BA) (o0 : au) (i0 : Nat) (ah : Bool) (aH : List aX) : VOK (Go.Pv.look (number 0 (Q15i p1 p2 o0 i0 ah aH))) [(1, aX.rows aH)] := (VOK.cons (show Seen _ _ from Q3o (ob := ⟨2, 0, true, (aX.rows aH).flatten⟩) (aX.Q7 aH 2 rfl)) VOK.nil)
def Qws (p1 : Val) (p2 : BA) (o0 : au) (e : En) (q : Bool × (List aX)) : Prop := ∃ z zo, Q0 G e (.st (.exit 0) (Q10d p1 p2 o0 q.1 q.2 z zo))
theorem Q103 (p1 : Val) (p2 : BA) (o0 : au) {e e' : En} (h : ∀ r, Q0 G e r → Q0 G e' r) : ∀ q, Qws p1 p2 o0 e q → Qws p1 p2 o0 e' q
  | _, ⟨z, zo, hz⟩ => ⟨z, zo, h _ hz⟩
def Qk0 (p1 : Val) (p2 : BA) (o0 : au) : Prop := (List.length (s_Kd p1 p2 4 o0).1.list ≤ 137438953472) ∧ (∀ x0 ∈ (s_Kd p1 p2 4 o0).1.list, H_Ke x0) ∧ True
def Q10n (p1 : Val) (p2 : BA) (o0 : au) (i0 : Nat) (_ah : Bool) (_aH : List aX) : List PV :=
  [.un, .un, .un, .fn 217 [.bx 0 0] []] ++ nuns 12 ++ [.sl (Val.rows (s_Kd p1 p2 4 o0).1.list), iN ((List.length (s_Kd p1 p2 4 o0).1.list) : Int), iN (i0 : Int), .bool false]
def Qs0 (_p1 : Val) (_p2 : BA) (_o0 : au) (_i0 : Nat) (_ah : Bool) (_aH : List aX) : List (Nat × List PV) :=
  []
theorem Q1ko (p1 : Val) (p2 : BA) (o0 : au) (_H : Qk0 p1 p2 o0) (i0 : Nat) (ah : Bool) (aH : List aX) (_aT : List.length aH ≤ i0) (bG : (decide ((i0 : Int) < ((List.length (s_Kd p1 p2 4 o0).1.list) : Int))) = false) : Qws p1 p2 o0 (Qv1 p1 p2 o0 i0 ah aH) (ah, aH) := by
 exact ⟨(envF (Q10n p1 p2 o0 i0 ah aH)), (zoF (Qs0 p1 p2 o0 i0 ah aH)), Qd (Q1h0 p1 p2 o0 i0 ah aH) (x := ((.exit 0), Q10d p1 p2 o0 ah aH (envF (Q10n p1 p2 o0 i0 ah aH)) (zoF (Qs0 p1 p2 o0 i0 ah aH)))) [hB 0 bG] [] (by kernel_rfl)⟩
theorem Q1il (p1 : Val) (p2 : BA) (o0 : au) (H : Qk0 p1 p2 o0) (x0 : Val) (i0 : Nat) (ah : Bool) (aH : List aX) (bU : (s_Kd p1 p2 4 o0).1.list[i0]? = some x0) (dG : i0 < List.length (s_Kd p1 p2 4 o0).1.list) (aT : List.length aH ≤ i0) (bG : (decide ((i0 : Int) < ((List.length (s_Kd p1 p2 4 o0).1.list) : Int))) = true) {r : Rs} (hr : Q0 G (Qv1 p1 p2 o0 (i0 + 1) (s_Ke x0 (au.mk ah)).2.bA (aH ++ [(s_Ke x0 (au.mk ah)).1])) r) : Q0 G (Qv1 p1 p2 o0 i0 ah aH) r := by
 have hB0 := H.1
 exact Qc (Q1h0 p1 p2 o0 i0 ah aH) [hB 0 bG, hP 0 (Q2q 5 _ i0 _ (Val.Qg bU) rfl), hA 8 1 578 642 2 32 0 0 true aX.Q8 aX.Q1g aH (s_Ke x0 (au.mk ah)).1 (aX.Qh aH) rfl rfl (by omega), hS 0 true (aX.Q7 (aH ++ [(s_Ke x0 (au.mk ah)).1]) 2 rfl), hP 1 (Q26 i0 (by omega))] [aN (t_Ke x0 (au.mk ah) (H.2.1 x0 (Q2l bU)))] hr (by kernel_rfl)
theorem Q18c (p1 : Val) (p2 : BA) (o0 : au) (H : Qk0 p1 p2 o0) : ∀ (r0 : List Val) (i0 : Nat) (ah : Bool) (aH : List aX), List.drop i0 (s_Kd p1 p2 4 o0).1.list = r0 → List.length aH ≤ i0 → Qws p1 p2 o0 (Qv1 p1 p2 o0 i0 ah aH) (Q7h p1 p2 o0 r0 i0 ah aH)
 | [], i0, ah, aH, hd, aT => by
  have bG : (decide ((i0 : Int) < ((List.length (s_Kd p1 p2 4 o0).1.list) : Int))) = false := by have := Q1c hd; simp; omega
  rw [Q7h]
  exact Q1ko p1 p2 o0 H i0 ah aH aT bG
 | x0 :: r0, i0, ah, aH, hd, aT => by
  obtain ⟨bU, dG, hd'⟩ := Q19 hd
  have bG : (decide ((i0 : Int) < ((List.length (s_Kd p1 p2 4 o0).1.list) : Int))) = true := by simp; omega
  rw [Q7h]
  exact Q103 p1 p2 o0 (fun r hr => Q1il p1 p2 o0 H x0 i0 ah aH bU dG aT bG hr) _ (Q18c p1 p2 o0 H r0 _ _ _ hd' (by first | omega | (simp; omega)))
def s_Ks (p1 : Val) (p2 : BA) (o0 : au) : List aX × au := ((dE aX.dec p1 p2).1, ft o0 (isM p1 && (dE aX.dec p1 p2).2))
theorem Q1jf (p1 : Val) (p2 : BA) (o0 : au) : ∀ (l : List Val) (i : Nat) (b : Bool) (a : List aX), Q7h p1 p2 o0 l i b a = (b || !(l.all fun x => (aX.dec x).2), a ++ l.map (fun x => (aX.dec x).1))
  | [], _, b, a => by rw [Q7h]; simp
  | x :: l, i, b, a => by
    rw [Q7h]
    refine (Q1jf p1 p2 o0 l (i + 1) (b || !(aX.dec x).2) (a ++ [(aX.dec x).1])).trans ?_
    simp only [List.append_assoc, List.singleton_append, List.map_cons, List.all_cons, Bool.not_and, Bool.or_assoc]
theorem e_Ks (p1 : Val) (p2 : BA) (o0 : au) : s_Ks p1 p2 o0 = (((Q7h p1 p2 o0 (s_Kd p1 p2 4 o0).1.list 0 (s_Kd p1 p2 4 o0).2.bA []).2, (au.mk (Q7h p1 p2 o0 (s_Kd p1 p2 4 o0).1.list 0 (s_Kd p1 p2 4 o0).2.bA []).1))) := by
  rw [Q1jf]
  unfold s_Kd s_Ks
  simp only [Qak, Q5j]
  refine Prod.ext rfl ?_
  rw [Qa5 o0.bA (isM p1) _ _ _ (Qyo (prt p1 p2)), Q6o]
  rfl
def c_Ks (p1 : Val) (p2 : BA) (o0 : au) : En := .call 216 [.bx 0 0, .agg (Val.cells p1), .str p2, .fn 217 [.bx 0 0] []] [⟨1, 0, false, (au.cells o0)⟩]
def r_Ks (_p1 : Val) (_p2 : BA) (_o0 : au) (q0 : List aX) (q1 : au) : Rs := .ret (.sl (aX.rows q0)) [⟨1, 0, false, (au.cells q1)⟩]
def a_Ks (p1 : Val) (p2 : BA) (o0 : au) : Rs := r_Ks p1 p2 o0 (s_Ks p1 p2 o0).1 (s_Ks p1 p2 o0).2
def H_Ks (p1 : Val) : Prop := Val.Sm 1000000000 p1
theorem Q1ht (p1 : Val) (p2 : BA) (o0 : au) (H : H_Ks p1) : (H_Kd p1) ∧ (Qk0 p1 p2 o0) ∧ True := by
  have hl := Qeh (Q3d H p2)
  refine ⟨H, ?_, trivial⟩
  unfold Qk0 s_Kd
  simp only [Qak]
  exact ⟨Nat.le_trans hl.1 (Nat.le_of_ble_eq_true rfl), hl.2, trivial⟩
theorem t_Ks (p1 : Val) (p2 : BA) (o0 : au) (H : H_Ks p1) : Q0 G (c_Ks p1 p2 o0) (a_Ks p1 p2 o0) := by
 unfold a_Ks
 rw [e_Ks]
 have hl0 := Q18c p1 p2 o0 ((Q1ht p1 p2 o0 H).2.1) (s_Kd p1 p2 4 o0).1.list 0 (s_Kd p1 p2 4 o0).2.bA [] (by simp) (by simp)
 obtain ⟨z0, gq, hl0⟩ := hl0
 exact Q5 (fn := Ir.Ks) (by kernel_rfl) (h := [⟨1, 0, false, (au.cells o0)⟩]) (vw := []) VOK.nil [hP 8 (Qw _ _ (Val.Q8 (s_Kd p1 p2 4 o0).1.list)), hS 0 true (aX.Q7 (Q7h p1 p2 o0 (s_Kd p1 p2 4 o0).1.list 0 (s_Kd p1 p2 4 o0).2.bA []).2 2 rfl), hQ (aX.Q8 (Q7h p1 p2 o0 (s_Kd p1 p2 4 o0).1.list 0 (s_Kd p1 p2 4 o0).2.bA []).2).symm] [aN (t_Kd p1 p2 4 o0 (Q1ht p1 p2 o0 H).1), aV [(1, aX.rows (Q7h p1 p2 o0 (s_Kd p1 p2 4 o0).1.list 0 (s_Kd p1 p2 4 o0).2.bA []).2)] hl0] (by kernel_rfl)
def s_Ka (p0 : Val) : aU × Int := Q13g p0
theorem e_Ka (p0 : Val) : s_Ka p0 = (bif (s_Kl (s_Kp p0 Q3f (s_Ks p0 Q20 (s_Ko p0 (au.mk false)).2).2).1 (s_Kp p0 Q3f (s_Ks p0 Q20 (s_Ko p0 (au.mk false)).2).2).2).2.bA then
    ((aU.mk [] (aY.mk eB 0 0 0 [] [] [] [] [] [])), 6)
  else
    ((aU.mk (s_Ks p0 Q20 (s_Ko p0 (au.mk false)).2).1 (s_Kl (s_Kp p0 Q3f (s_Ks p0 Q20 (s_Ko p0 (au.mk false)).2).2).1 (s_Kp p0 Q3f (s_Ks p0 Q20 (s_Ko p0 (au.mk false)).2).2).2).1), 0)) := by
  unfold s_Ka Q13g aU.dec
  simp only [s_Ko, s_Kp, s_Kl, s_Ks, aY.sub1, dT, aY.sub2, Qnv, Q5j, Bool.false_or, Bool.and_assoc, Bool.and_left_comm, Bool.and_comm, Bool.and_self_left]
  rfl
def c_Ka (p0 : Val) : En := .call 183 [.agg (Val.cells p0)] []
def a_Ka (p0 : Val) : Rs := .ret (.tup [.agg (aU.cells (s_Ka p0).1), iN (s_Ka p0).2]) []
def H_Ka (p0 : Val) : Prop := Val.Sm 1000000000 p0
theorem Qf2 (p0 : Val) (H : H_Ka p0) : (H_Ks p0) ∧ (H_Kp p0) ∧ (H_Kl (s_Kp p0 Q3f (s_Ks p0 Q20 (s_Ko p0 (au.mk false)).2).2).1) ∧ True := by
  repeat' with_reducible apply And.intro
  all_goals first | exact True.intro | exact H | exact Qoq (Q3d H _)
theorem t_Ka (p0 : Val) (H : H_Ka p0) : Q0 G (c_Ka p0) (a_Ka p0) := by
 unfold a_Ka
 rw [e_Ka]
 cases h0 : (s_Kl (s_Kp p0 Q3f (s_Ks p0 Q20 (s_Ko p0 (au.mk false)).2).2).1 (s_Kp p0 Q3f (s_Ks p0 Q20 (s_Ko p0 (au.mk false)).2).2).2).2.bA with
 | true =>
  exact Q5 (fn := Ir.Ka) (by kernel_rfl) VOK.nil [hP 25 (decR (s_Kl (s_Kp p0 Q3f (s_Ks p0 Q20 (s_Ko p0 (au.mk false)).2).2).1 (s_Kp p0 Q3f (s_Ks p0 Q20 (s_Ko p0 (au.mk false)).2).2).2).2.bA true [256] h0)] [aN (t_Ko p0 (au.mk false)), aN (t_Ks p0 Q20 (s_Ko p0 (au.mk false)).2 (Qf2 p0 H).1), aN (t_Kp p0 Q3f (s_Ks p0 Q20 (s_Ko p0 (au.mk false)).2).2 (Qf2 p0 H).2.1), aN (t_Kl (s_Kp p0 Q3f (s_Ks p0 Q20 (s_Ko p0 (au.mk false)).2).2).1 (s_Kp p0 Q3f (s_Ks p0 Q20 (s_Ko p0 (au.mk false)).2).2).2 (Qf2 p0 H).2.2.1)] (by kernel_rfl)
 | false =>
  exact Q5 (fn := Ir.Ka) (by kernel_rfl) VOK.nil [hP 25 (decR (s_Kl (s_Kp p0 Q3f (s_Ks p0 Q20 (s_Ko p0 (au.mk false)).2).2).1 (s_Kp p0 Q3f (s_Ks p0 Q20 (s_Ko p0 (au.mk false)).2).2).2).2.bA false [256] h0)] [aN (t_Ko p0 (au.mk false)), aN (t_Ks p0 Q20 (s_Ko p0 (au.mk false)).2 (Qf2 p0 H).1), aN (t_Kp p0 Q3f (s_Ks p0 Q20 (s_Ko p0 (au.mk false)).2).2 (Qf2 p0 H).2.1), aN (t_Kl (s_Kp p0 Q3f (s_Ks p0 Q20 (s_Ko p0 (au.mk false)).2).2).1 (s_Kp p0 Q3f (s_Ks p0 Q20 (s_Ko p0 (au.mk false)).2).2).2 (Qf2 p0 H).2.2.1)] (by kernel_rfl)
end Go.Proofs.YtimjjohlpnkacaaGreat
end

