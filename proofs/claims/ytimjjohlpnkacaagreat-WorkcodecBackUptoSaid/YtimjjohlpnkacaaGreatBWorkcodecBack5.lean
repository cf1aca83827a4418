/- Texts of the claim, merged by a program; what the statement does not reach is left out. -/
import Derived.Test.YtimjjohlpnkacaaGreatBWorkcodecBack4

section
/- Structures and kinds of objects as dF, in plain words (printed by a program). -/
namespace Go.Proofs.YtimjjohlpnkacaaGreat
open Go.Pv
structure aj where
  key : ByteArray
  op : Int
  dF : List ByteArray
def aj.cells (x : aj) : List PV :=
  [.str x.key, iN x.op, .sl (Q18 x.dF)]
def aj.rows (l : List aj) : List (List PV) := l.map aj.cells
theorem aj.Q8 (l : List aj) : (aj.rows l).length = l.length := by simp [aj.rows]
theorem aj.Qg {l : List aj} {i : Nat} {x : aj} (h : l[i]? = some x) : (aj.rows l)[i]? = some (aj.cells x) := Go.Pv.Qg h
theorem aj.Q1g (l : List aj) (x : aj) : aj.rows (l ++ [x]) = aj.rows l ++ [aj.cells x] := by simp [aj.rows]
theorem aj.Qh (l : List aj) : ∀ r ∈ aj.rows l, r.length = 3 := Q5g (f := aj.cells) (fun _ => rfl) l
theorem aj.Q7 (l : List aj) (sz : Nat) (h : sz = 3) : ViewOK sz (aj.rows l).flatten (aj.rows l) := by subst h; exact ⟨rfl, aj.Qh l, Q4j (f := aj.cells) (fun _ => rfl) l⟩
structure aX where
  key : ByteArray
  value : ByteArray
def aX.cells (x : aX) : List PV :=
  [.str x.key, .str x.value]
def aX.rows (l : List aX) : List (List PV) := l.map aX.cells
theorem aX.Q8 (l : List aX) : (aX.rows l).length = l.length := by simp [aX.rows]
theorem aX.Qg {l : List aX} {i : Nat} {x : aX} (h : l[i]? = some x) : (aX.rows l)[i]? = some (aX.cells x) := Go.Pv.Qg h
theorem aX.Q1g (l : List aX) (x : aX) : aX.rows (l ++ [x]) = aX.rows l ++ [aX.cells x] := by simp [aX.rows]
theorem aX.Qh (l : List aX) : ∀ r ∈ aX.rows l, r.length = 2 := Q5g (f := aX.cells) (fun _ => rfl) l
theorem aX.Q7 (l : List aX) (sz : Nat) (h : sz = 2) : ViewOK sz (aX.rows l).flatten (aX.rows l) := by subst h; exact ⟨rfl, aX.Qh l, Q4j (f := aX.cells) (fun _ => rfl) l⟩
structure bf where
  gZ : Int
  eU : Int
  gI : Int
def bf.cells (x : bf) : List PV :=
  [iN x.gZ, iN x.eU, iN x.gI]
def bf.rows (l : List bf) : List (List PV) := l.map bf.cells
structure bn where
  fZ : Int
  fA : Int
  eY : Int
  eH : Int
def bn.cells (x : bn) : List PV :=
  [iN x.fZ, iN x.fA, iN x.eY, iN x.eH]
def bn.rows (l : List bn) : List (List PV) := l.map bn.cells
theorem bn.Q8 (l : List bn) : (bn.rows l).length = l.length := by simp [bn.rows]
theorem bn.Qg {l : List bn} {i : Nat} {x : bn} (h : l[i]? = some x) : (bn.rows l)[i]? = some (bn.cells x) := Go.Pv.Qg h
theorem bn.Q1g (l : List bn) (x : bn) : bn.rows (l ++ [x]) = bn.rows l ++ [bn.cells x] := by simp [bn.rows]
theorem bn.Qh (l : List bn) : ∀ r ∈ bn.rows l, r.length = 4 := Q5g (f := bn.cells) (fun _ => rfl) l
theorem bn.Q7 (l : List bn) (sz : Nat) (h : sz = 4) : ViewOK sz (bn.rows l).flatten (bn.rows l) := by subst h; exact ⟨rfl, bn.Qh l, Q4j (f := bn.cells) (fun _ => rfl) l⟩
structure aD where
  name : ByteArray
  fT : ByteArray
  dM : bf
  fC : bf
  live : List bn
  ready : List bn
  dV : List bn
def aD.cells (x : aD) : List PV :=
  [.str x.name, .str x.fT, iN x.dM.gZ, iN x.dM.eU, iN x.dM.gI, iN x.fC.gZ, iN x.fC.eU, iN x.fC.gI, .sl (bn.rows x.live), .sl (bn.rows x.ready), .sl (bn.rows x.dV)]
def aD.rows (l : List aD) : List (List PV) := l.map aD.cells
theorem aD.Q8 (l : List aD) : (aD.rows l).length = l.length := by simp [aD.rows]
theorem aD.Qg {l : List aD} {i : Nat} {x : aD} (h : l[i]? = some x) : (aD.rows l)[i]? = some (aD.cells x) := Go.Pv.Qg h
theorem aD.Q1g (l : List aD) (x : aD) : aD.rows (l ++ [x]) = aD.rows l ++ [aD.cells x] := by simp [aD.rows]
theorem aD.Qh (l : List aD) : ∀ r ∈ aD.rows l, r.length = 11 := Q5g (f := aD.cells) (fun _ => rfl) l
theorem aD.Q7 (l : List aD) (sz : Nat) (h : sz = 11) : ViewOK sz (aD.rows l).flatten (aD.rows l) := by subst h; exact ⟨rfl, aD.Qh l, Q4j (f := aD.cells) (fun _ => rfl) l⟩
structure aI where
  bI : Bool
  aR : List aj
  dI : Int
def aI.cells (x : aI) : List PV :=
  [.bool x.bI, .sl (aj.rows x.aR), iN x.dI]
def aI.rows (l : List aI) : List (List PV) := l.map aI.cells
theorem aI.Q8 (l : List aI) : (aI.rows l).length = l.length := by simp [aI.rows]
theorem aI.Qg {l : List aI} {i : Nat} {x : aI} (h : l[i]? = some x) : (aI.rows l)[i]? = some (aI.cells x) := Go.Pv.Qg h
theorem aI.Q1g (l : List aI) (x : aI) : aI.rows (l ++ [x]) = aI.rows l ++ [aI.cells x] := by simp [aI.rows]
theorem aI.Qh (l : List aI) : ∀ r ∈ aI.rows l, r.length = 3 := Q5g (f := aI.cells) (fun _ => rfl) l
theorem aI.Q7 (l : List aI) (sz : Nat) (h : sz = 3) : ViewOK sz (aI.rows l).flatten (aI.rows l) := by subst h; exact ⟨rfl, aI.Qh l, Q4j (f := aI.cells) (fun _ => rfl) l⟩
structure aM where
  bI : Bool
  gK : Bool
  aR : List aj
  bW : ByteArray
  dI : Int
def aM.cells (x : aM) : List PV :=
  [.bool x.bI, .bool x.gK, .sl (aj.rows x.aR), .str x.bW, iN x.dI]
def aM.rows (l : List aM) : List (List PV) := l.map aM.cells
theorem aM.Q8 (l : List aM) : (aM.rows l).length = l.length := by simp [aM.rows]
theorem aM.Qg {l : List aM} {i : Nat} {x : aM} (h : l[i]? = some x) : (aM.rows l)[i]? = some (aM.cells x) := Go.Pv.Qg h
theorem aM.Q1g (l : List aM) (x : aM) : aM.rows (l ++ [x]) = aM.rows l ++ [aM.cells x] := by simp [aM.rows]
theorem aM.Qh (l : List aM) : ∀ r ∈ aM.rows l, r.length = 5 := Q5g (f := aM.cells) (fun _ => rfl) l
theorem aM.Q7 (l : List aM) (sz : Nat) (h : sz = 5) : ViewOK sz (aM.rows l).flatten (aM.rows l) := by subst h; exact ⟨rfl, aM.Qh l, Q4j (f := aM.cells) (fun _ => rfl) l⟩
structure aC where
  eT : Int
  bW : ByteArray
  aR : List aj
  bI : Bool
def aC.cells (x : aC) : List PV :=
  [iN x.eT, .str x.bW, .sl (aj.rows x.aR), .bool x.bI]
def aC.rows (l : List aC) : List (List PV) := l.map aC.cells
theorem aC.Q8 (l : List aC) : (aC.rows l).length = l.length := by simp [aC.rows]
theorem aC.Qg {l : List aC} {i : Nat} {x : aC} (h : l[i]? = some x) : (aC.rows l)[i]? = some (aC.cells x) := Go.Pv.Qg h
theorem aC.Q1g (l : List aC) (x : aC) : aC.rows (l ++ [x]) = aC.rows l ++ [aC.cells x] := by simp [aC.rows]
theorem aC.Qh (l : List aC) : ∀ r ∈ aC.rows l, r.length = 4 := Q5g (f := aC.cells) (fun _ => rfl) l
theorem aC.Q7 (l : List aC) (sz : Nat) (h : sz = 4) : ViewOK sz (aC.rows l).flatten (aC.rows l) := by subst h; exact ⟨rfl, aC.Qh l, Q4j (f := aC.cells) (fun _ => rfl) l⟩
structure aA where
  key : ByteArray
  value : ByteArray
  eG : Bool
  fF : Int
  eX : Int
def aA.cells (x : aA) : List PV :=
  [.str x.key, .str x.value, .bool x.eG, iN x.fF, iN x.eX]
def aA.rows (l : List aA) : List (List PV) := l.map aA.cells
theorem aA.Q8 (l : List aA) : (aA.rows l).length = l.length := by simp [aA.rows]
theorem aA.Qg {l : List aA} {i : Nat} {x : aA} (h : l[i]? = some x) : (aA.rows l)[i]? = some (aA.cells x) := Go.Pv.Qg h
theorem aA.Q1g (l : List aA) (x : aA) : aA.rows (l ++ [x]) = aA.rows l ++ [aA.cells x] := by simp [aA.rows]
theorem aA.Qh (l : List aA) : ∀ r ∈ aA.rows l, r.length = 5 := Q5g (f := aA.cells) (fun _ => rfl) l
theorem aA.Q7 (l : List aA) (sz : Nat) (h : sz = 5) : ViewOK sz (aA.rows l).flatten (aA.rows l) := by subst h; exact ⟨rfl, aA.Qh l, Q4j (f := aA.cells) (fun _ => rfl) l⟩
structure aY where
  fV : ByteArray
  dH : Int
  dO : Int
  fD : Int
  bZ : List aD
  bL : List aj
  cO : List aI
  dw : List aM
  dR : List aC
  bP : List aA
def aY.cells (x : aY) : List PV :=
  [.str x.fV, iN x.dH, iN x.dO, iN x.fD, .sl (aD.rows x.bZ), .sl (aj.rows x.bL), .sl (aI.rows x.cO), .sl (aM.rows x.dw), .sl (aC.rows x.dR), .sl (aA.rows x.bP)]
def aY.rows (l : List aY) : List (List PV) := l.map aY.cells
structure aU where
  bH : List aX
  aS : aY
def aU.cells (x : aU) : List PV :=
  [.sl (aX.rows x.bH), .str x.aS.fV, iN x.aS.dH, iN x.aS.dO, iN x.aS.fD, .sl (aD.rows x.aS.bZ), .sl (aj.rows x.aS.bL), .sl (aI.rows x.aS.cO), .sl (aM.rows x.aS.dw), .sl (aC.rows x.aS.dR), .sl (aA.rows x.aS.bP)]
def aU.rows (l : List aU) : List (List PV) := l.map aU.cells
structure aJ where
  dQ : Bool
  n : Int
def aJ.cells (x : aJ) : List PV :=
  [.bool x.dQ, iN x.n]
def aJ.rows (l : List aJ) : List (List PV) := l.map aJ.cells
theorem aJ.Q8 (l : List aJ) : (aJ.rows l).length = l.length := by simp [aJ.rows]
theorem aJ.Qg {l : List aJ} {i : Nat} {x : aJ} (h : l[i]? = some x) : (aJ.rows l)[i]? = some (aJ.cells x) := Go.Pv.Qg h
theorem aJ.Q1g (l : List aJ) (x : aJ) : aJ.rows (l ++ [x]) = aJ.rows l ++ [aJ.cells x] := by simp [aJ.rows]
theorem aJ.Qh (l : List aJ) : ∀ r ∈ aJ.rows l, r.length = 2 := Q5g (f := aJ.cells) (fun _ => rfl) l
theorem aJ.Q7 (l : List aJ) (sz : Nat) (h : sz = 2) : ViewOK sz (aJ.rows l).flatten (aJ.rows l) := by subst h; exact ⟨rfl, aJ.Qh l, Q4j (f := aJ.cells) (fun _ => rfl) l⟩
structure aO where
  bV : Int
  bD : Int
  dW : Int
  ready : Int
  dx : Int
  dJ : Int
  bA : Bool
def aO.cells (x : aO) : List PV :=
  [iN x.bV, iN x.bD, iN x.dW, iN x.ready, iN x.dx, iN x.dJ, .bool x.bA]
def aO.rows (l : List aO) : List (List PV) := l.map aO.cells
structure fJ where
  name : ByteArray
  target : Int
def fJ.cells (x : fJ) : List PV :=
  [.str x.name, iN x.target]
def fJ.rows (l : List fJ) : List (List PV) := l.map fJ.cells
structure fH where
  at_ : Int
  bD : Int
def fH.cells (x : fH) : List PV :=
  [iN x.at_, iN x.bD]
def fH.rows (l : List fH) : List (List PV) := l.map fH.cells
structure aK where
  key : ByteArray
  at_ : Int
def aK.cells (x : aK) : List PV :=
  [.str x.key, iN x.at_]
def aK.rows (l : List aK) : List (List PV) := l.map aK.cells
theorem aK.Q8 (l : List aK) : (aK.rows l).length = l.length := by simp [aK.rows]
theorem aK.Qg {l : List aK} {i : Nat} {x : aK} (h : l[i]? = some x) : (aK.rows l)[i]? = some (aK.cells x) := Go.Pv.Qg h
theorem aK.Q1g (l : List aK) (x : aK) : aK.rows (l ++ [x]) = aK.rows l ++ [aK.cells x] := by simp [aK.rows]
theorem aK.Qh (l : List aK) : ∀ r ∈ aK.rows l, r.length = 2 := Q5g (f := aK.cells) (fun _ => rfl) l
theorem aK.Q7 (l : List aK) (sz : Nat) (h : sz = 2) : ViewOK sz (aK.rows l).flatten (aK.rows l) := by subst h; exact ⟨rfl, aK.Qh l, Q4j (f := aK.cells) (fun _ => rfl) l⟩
structure fu where
  name : ByteArray
  jl : Int
  target : Int
def fu.cells (x : fu) : List PV :=
  [.str x.name, iN x.jl, iN x.target]
def fu.rows (l : List fu) : List (List PV) := l.map fu.cells
structure gG where
  jo : ByteArray
  fV : ByteArray
  ig : Int
  ready : Bool
  iB : Bool
def gG.cells (x : gG) : List PV :=
  [.str x.jo, .str x.fV, iN x.ig, .bool x.ready, .bool x.iB]
def gG.rows (l : List gG) : List (List PV) := l.map gG.cells
structure iC where
  bK : ByteArray
  aR : List aj
def iC.cells (x : iC) : List PV :=
  [.str x.bK, .sl (aj.rows x.aR)]
def iC.rows (l : List iC) : List (List PV) := l.map iC.cells
structure fU where
  iE : Bool
  je : List iC
  iy : List Int
def fU.cells (x : fU) : List PV :=
  [.bool x.iE, .sl (iC.rows x.je), .sl (Q3m x.iy)]
def fU.rows (l : List fU) : List (List PV) := l.map fU.cells
structure cu where
  kind : ByteArray
  name : ByteArray
  gM : Int
  gL : Bool
  block : Bool
def cu.cells (x : cu) : List PV :=
  [.str x.kind, .str x.name, iN x.gM, .bool x.gL, .bool x.block]
def cu.rows (l : List cu) : List (List PV) := l.map cu.cells
theorem cu.Q8 (l : List cu) : (cu.rows l).length = l.length := by simp [cu.rows]
theorem cu.Qg {l : List cu} {i : Nat} {x : cu} (h : l[i]? = some x) : (cu.rows l)[i]? = some (cu.cells x) := Go.Pv.Qg h
theorem cu.Qh (l : List cu) : ∀ r ∈ cu.rows l, r.length = 5 := Q5g (f := cu.cells) (fun _ => rfl) l
theorem cu.Q7 (l : List cu) (sz : Nat) (h : sz = 5) : ViewOK sz (cu.rows l).flatten (cu.rows l) := by subst h; exact ⟨rfl, cu.Qh l, Q4j (f := cu.cells) (fun _ => rfl) l⟩
structure bB where
  name : ByteArray
  fields : List ByteArray
def bB.cells (x : bB) : List PV :=
  [.str x.name, .sl (Q18 x.fields)]
def bB.rows (l : List bB) : List (List PV) := l.map bB.cells
theorem bB.Q8 (l : List bB) : (bB.rows l).length = l.length := by simp [bB.rows]
theorem bB.Qg {l : List bB} {i : Nat} {x : bB} (h : l[i]? = some x) : (bB.rows l)[i]? = some (bB.cells x) := Go.Pv.Qg h
theorem bB.Qh (l : List bB) : ∀ r ∈ bB.rows l, r.length = 2 := Q5g (f := bB.cells) (fun _ => rfl) l
theorem bB.Q7 (l : List bB) (sz : Nat) (h : sz = 2) : ViewOK sz (bB.rows l).flatten (bB.rows l) := by subst h; exact ⟨rfl, bB.Qh l, Q4j (f := bB.cells) (fun _ => rfl) l⟩
structure bJ where
  kind : ByteArray
  bK : ByteArray
  name : ByteArray
  gM : Int
  dA : Int
  bR : Int
  dz : Int
  dh : Bool
  cZ : Int
  bH : List aX
  bT : List cu
  bF : List ByteArray
  aZ : List bB
def bJ.cells (x : bJ) : List PV :=
  [.str x.kind, .str x.bK, .str x.name, iN x.gM, iN x.dA, iN x.bR, iN x.dz, .bool x.dh, iN x.cZ, .sl (aX.rows x.bH), .sl (cu.rows x.bT), .sl (Q18 x.bF), .sl (bB.rows x.aZ)]
def bJ.rows (l : List bJ) : List (List PV) := l.map bJ.cells
structure aW where
  aG : bJ
  aS : Val
  aL : Val
def aW.cells (x : aW) : List PV :=
  [.str x.aG.kind, .str x.aG.bK, .str x.aG.name, iN x.aG.gM, iN x.aG.dA, iN x.aG.bR, iN x.aG.dz, .bool x.aG.dh, iN x.aG.cZ, .sl (aX.rows x.aG.bH), .sl (cu.rows x.aG.bT), .sl (Q18 x.aG.bF), .sl (bB.rows x.aG.aZ), iN x.aS.kind, iN x.aS.n, .str x.aS.s, .sl (Val.rows x.aS.list), .sl (Fld.rows x.aS.fields), iN x.aL.kind, iN x.aL.n, .str x.aL.s, .sl (Val.rows x.aL.list), .sl (Fld.rows x.aL.fields)]
def aW.rows (l : List aW) : List (List PV) := l.map aW.cells
structure bQ where
  aG : bJ
  cB : Int
  dn : Int
  eu : Int
  bY : Int
  dZ : Bool
  d9 : Bool
  aP : aU
  fB : Int
  dK : Int
  bA : Int
  started : Int
  dU : Int
  done : List Int
  fq : Int
def bQ.cells (x : bQ) : List PV :=
  [.str x.aG.kind, .str x.aG.bK, .str x.aG.name, iN x.aG.gM, iN x.aG.dA, iN x.aG.bR, iN x.aG.dz, .bool x.aG.dh, iN x.aG.cZ, .sl (aX.rows x.aG.bH), .sl (cu.rows x.aG.bT), .sl (Q18 x.aG.bF), .sl (bB.rows x.aG.aZ), iN x.cB, iN x.dn, iN x.eu, iN x.bY, .bool x.dZ, .bool x.d9, .sl (aX.rows x.aP.bH), .str x.aP.aS.fV, iN x.aP.aS.dH, iN x.aP.aS.dO, iN x.aP.aS.fD, .sl (aD.rows x.aP.aS.bZ), .sl (aj.rows x.aP.aS.bL), .sl (aI.rows x.aP.aS.cO), .sl (aM.rows x.aP.aS.dw), .sl (aC.rows x.aP.aS.dR), .sl (aA.rows x.aP.aS.bP), iN x.fB, iN x.dK, iN x.bA, iN x.started, iN x.dU, .sl (Q3m x.done), iN x.fq]
def bQ.rows (l : List bQ) : List (List PV) := l.map bQ.cells
structure ay where
  aG : bJ
  bD : Int
  bS : Int
  eP : Int
  bY : Int
  aR : List aj
  aP : aU
  dY : Bool
  fG : Bool
  eZ : aJ
  bO : aJ
  gN : Int
  aL : aO
def ay.cells (x : ay) : List PV :=
  [.str x.aG.kind, .str x.aG.bK, .str x.aG.name, iN x.aG.gM, iN x.aG.dA, iN x.aG.bR, iN x.aG.dz, .bool x.aG.dh, iN x.aG.cZ, .sl (aX.rows x.aG.bH), .sl (cu.rows x.aG.bT), .sl (Q18 x.aG.bF), .sl (bB.rows x.aG.aZ), iN x.bD, iN x.bS, iN x.eP, iN x.bY, .sl (aj.rows x.aR), .sl (aX.rows x.aP.bH), .str x.aP.aS.fV, iN x.aP.aS.dH, iN x.aP.aS.dO, iN x.aP.aS.fD, .sl (aD.rows x.aP.aS.bZ), .sl (aj.rows x.aP.aS.bL), .sl (aI.rows x.aP.aS.cO), .sl (aM.rows x.aP.aS.dw), .sl (aC.rows x.aP.aS.dR), .sl (aA.rows x.aP.aS.bP), .bool x.dY, .bool x.fG, .bool x.eZ.dQ, iN x.eZ.n, .bool x.bO.dQ, iN x.bO.n, iN x.gN, iN x.aL.bV, iN x.aL.bD, iN x.aL.dW, iN x.aL.ready, iN x.aL.dx, iN x.aL.dJ, .bool x.aL.bA]
def ay.rows (l : List ay) : List (List PV) := l.map ay.cells
structure fI where
  aG : bJ
  iG : ByteArray
  target : ByteArray
  min_ : Int
  max_ : Int
  iQ : List fJ
  iI : Int
  iO : Int
  iD : Int
  iM : aJ
  iw : aJ
  fA : Int
  iU : List fH
  iY : Int
def fI.cells (x : fI) : List PV :=
  [.str x.aG.kind, .str x.aG.bK, .str x.aG.name, iN x.aG.gM, iN x.aG.dA, iN x.aG.bR, iN x.aG.dz, .bool x.aG.dh, iN x.aG.cZ, .sl (aX.rows x.aG.bH), .sl (cu.rows x.aG.bT), .sl (Q18 x.aG.bF), .sl (bB.rows x.aG.aZ), .str x.iG, .str x.target, iN x.min_, iN x.max_, .sl (fJ.rows x.iQ), iN x.iI, iN x.iO, iN x.iD, .bool x.iM.dQ, iN x.iM.n, .bool x.iw.dQ, iN x.iw.n, iN x.fA, .sl (fH.rows x.iU), iN x.iY]
def fI.rows (l : List fI) : List (List PV) := l.map fI.cells
structure aF where
  aG : bJ
  bD : Int
  bS : Int
  dP : Int
  aR : List aj
  aP : aU
  aL : aO
def aF.cells (x : aF) : List PV :=
  [.str x.aG.kind, .str x.aG.bK, .str x.aG.name, iN x.aG.gM, iN x.aG.dA, iN x.aG.bR, iN x.aG.dz, .bool x.aG.dh, iN x.aG.cZ, .sl (aX.rows x.aG.bH), .sl (cu.rows x.aG.bT), .sl (Q18 x.aG.bF), .sl (bB.rows x.aG.aZ), iN x.bD, iN x.bS, iN x.dP, .sl (aj.rows x.aR), .sl (aX.rows x.aP.bH), .str x.aP.aS.fV, iN x.aP.aS.dH, iN x.aP.aS.dO, iN x.aP.aS.fD, .sl (aD.rows x.aP.aS.bZ), .sl (aj.rows x.aP.aS.bL), .sl (aI.rows x.aP.aS.cO), .sl (aM.rows x.aP.aS.dw), .sl (aC.rows x.aP.aS.dR), .sl (aA.rows x.aP.aS.bP), iN x.aL.bV, iN x.aL.bD, iN x.aL.dW, iN x.aL.ready, iN x.aL.dx, iN x.aL.dJ, .bool x.aL.bA]
def aF.rows (l : List aF) : List (List PV) := l.map aF.cells
structure aQ where
  aG : bJ
  aR : List aj
  bX : List aJ
  bM : List aJ
  bV : Int
  eO : Int
  eF : Int
  dX : Int
  eD : Int
  bN : List aK
def aQ.cells (x : aQ) : List PV :=
  [.str x.aG.kind, .str x.aG.bK, .str x.aG.name, iN x.aG.gM, iN x.aG.dA, iN x.aG.bR, iN x.aG.dz, .bool x.aG.dh, iN x.aG.cZ, .sl (aX.rows x.aG.bH), .sl (cu.rows x.aG.bT), .sl (Q18 x.aG.bF), .sl (bB.rows x.aG.aZ), .sl (aj.rows x.aR), .sl (aJ.rows x.bX), .sl (aJ.rows x.bM), iN x.bV, iN x.eO, iN x.eF, iN x.dX, iN x.eD, .sl (aK.rows x.bN)]
def aQ.rows (l : List aQ) : List (List PV) := l.map aQ.cells
structure gy where
  aG : bJ
  bD : Int
  iH : Int
  bS : Int
  iK : Bool
  aR : List aj
  aP : aU
  aL : aO
def gy.cells (x : gy) : List PV :=
  [.str x.aG.kind, .str x.aG.bK, .str x.aG.name, iN x.aG.gM, iN x.aG.dA, iN x.aG.bR, iN x.aG.dz, .bool x.aG.dh, iN x.aG.cZ, .sl (aX.rows x.aG.bH), .sl (cu.rows x.aG.bT), .sl (Q18 x.aG.bF), .sl (bB.rows x.aG.aZ), iN x.bD, iN x.iH, iN x.bS, .bool x.iK, .sl (aj.rows x.aR), .sl (aX.rows x.aP.bH), .str x.aP.aS.fV, iN x.aP.aS.dH, iN x.aP.aS.dO, iN x.aP.aS.fD, .sl (aD.rows x.aP.aS.bZ), .sl (aj.rows x.aP.aS.bL), .sl (aI.rows x.aP.aS.cO), .sl (aM.rows x.aP.aS.dw), .sl (aC.rows x.aP.aS.dR), .sl (aA.rows x.aP.aS.bP), iN x.aL.bV, iN x.aL.bD, iN x.aL.dW, iN x.aL.ready, iN x.aL.dx, iN x.aL.dJ, .bool x.aL.bA]
def gy.rows (l : List gy) : List (List PV) := l.map gy.cells
structure gJ where
  aG : bJ
  bS : Int
  bO : aJ
  aR : List aj
  aP : aU
  aL : aO
def gJ.cells (x : gJ) : List PV :=
  [.str x.aG.kind, .str x.aG.bK, .str x.aG.name, iN x.aG.gM, iN x.aG.dA, iN x.aG.bR, iN x.aG.dz, .bool x.aG.dh, iN x.aG.cZ, .sl (aX.rows x.aG.bH), .sl (cu.rows x.aG.bT), .sl (Q18 x.aG.bF), .sl (bB.rows x.aG.aZ), iN x.bS, .bool x.bO.dQ, iN x.bO.n, .sl (aj.rows x.aR), .sl (aX.rows x.aP.bH), .str x.aP.aS.fV, iN x.aP.aS.dH, iN x.aP.aS.dO, iN x.aP.aS.fD, .sl (aD.rows x.aP.aS.bZ), .sl (aj.rows x.aP.aS.bL), .sl (aI.rows x.aP.aS.cO), .sl (aM.rows x.aP.aS.dw), .sl (aC.rows x.aP.aS.dR), .sl (aA.rows x.aP.aS.bP), iN x.aL.bV, iN x.aL.bD, iN x.aL.dW, iN x.aL.ready, iN x.aL.dx, iN x.aL.dJ, .bool x.aL.bA]
def gJ.rows (l : List gJ) : List (List PV) := l.map gJ.cells
structure gX where
  aG : bJ
  aR : List aj
  iy : List fu
  iZ : Bool
  ig : Int
def gX.cells (x : gX) : List PV :=
  [.str x.aG.kind, .str x.aG.bK, .str x.aG.name, iN x.aG.gM, iN x.aG.dA, iN x.aG.bR, iN x.aG.dz, .bool x.aG.dh, iN x.aG.cZ, .sl (aX.rows x.aG.bH), .sl (cu.rows x.aG.bT), .sl (Q18 x.aG.bF), .sl (bB.rows x.aG.aZ), .sl (aj.rows x.aR), .sl (fu.rows x.iy), .bool x.iZ, iN x.ig]
def gX.rows (l : List gX) : List (List PV) := l.map gX.cells
structure gu where
  aG : bJ
  iy : List fu
  jd : List gG
def gu.cells (x : gu) : List PV :=
  [.str x.aG.kind, .str x.aG.bK, .str x.aG.name, iN x.aG.gM, iN x.aG.dA, iN x.aG.bR, iN x.aG.dz, .bool x.aG.dh, iN x.aG.cZ, .sl (aX.rows x.aG.bH), .sl (cu.rows x.aG.bT), .sl (Q18 x.aG.bF), .sl (bB.rows x.aG.aZ), .sl (fu.rows x.iy), .sl (gG.rows x.jd)]
def gu.rows (l : List gu) : List (List PV) := l.map gu.cells
structure fO where
  aG : bJ
  aR : List aj
  iP : Bool
  iE : Bool
  jf : List fU
def fO.cells (x : fO) : List PV :=
  [.str x.aG.kind, .str x.aG.bK, .str x.aG.name, iN x.aG.gM, iN x.aG.dA, iN x.aG.bR, iN x.aG.dz, .bool x.aG.dh, iN x.aG.cZ, .sl (aX.rows x.aG.bH), .sl (cu.rows x.aG.bT), .sl (Q18 x.aG.bF), .sl (bB.rows x.aG.aZ), .sl (aj.rows x.aR), .bool x.iP, .bool x.iE, .sl (fU.rows x.jf)]
def fO.rows (l : List fO) : List (List PV) := l.map fO.cells
structure iq where
  aG : bJ
  iV : bf
  jc : bf
  jk : Int
  has : Int
def iq.cells (x : iq) : List PV :=
  [.str x.aG.kind, .str x.aG.bK, .str x.aG.name, iN x.aG.gM, iN x.aG.dA, iN x.aG.bR, iN x.aG.dz, .bool x.aG.dh, iN x.aG.cZ, .sl (aX.rows x.aG.bH), .sl (cu.rows x.aG.bT), .sl (Q18 x.aG.bF), .sl (bB.rows x.aG.aZ), iN x.iV.gZ, iN x.iV.eU, iN x.iV.gI, iN x.jc.gZ, iN x.jc.eU, iN x.jc.gI, iN x.jk, iN x.has]
def iq.rows (l : List iq) : List (List PV) := l.map iq.cells
structure gW where
  aG : bJ
  iL : ByteArray
  iX : Int
  iA : Int
  iJ : Int
  d9 : Bool
  gP : bQ
  last : Int
def gW.cells (x : gW) : List PV :=
  [.str x.aG.kind, .str x.aG.bK, .str x.aG.name, iN x.aG.gM, iN x.aG.dA, iN x.aG.bR, iN x.aG.dz, .bool x.aG.dh, iN x.aG.cZ, .sl (aX.rows x.aG.bH), .sl (cu.rows x.aG.bT), .sl (Q18 x.aG.bF), .sl (bB.rows x.aG.aZ), .str x.iL, iN x.iX, iN x.iA, iN x.iJ, .bool x.d9, .str x.gP.aG.kind, .str x.gP.aG.bK, .str x.gP.aG.name, iN x.gP.aG.gM, iN x.gP.aG.dA, iN x.gP.aG.bR, iN x.gP.aG.dz, .bool x.gP.aG.dh, iN x.gP.aG.cZ, .sl (aX.rows x.gP.aG.bH), .sl (cu.rows x.gP.aG.bT), .sl (Q18 x.gP.aG.bF), .sl (bB.rows x.gP.aG.aZ), iN x.gP.cB, iN x.gP.dn, iN x.gP.eu, iN x.gP.bY, .bool x.gP.dZ, .bool x.gP.d9, .sl (aX.rows x.gP.aP.bH), .str x.gP.aP.aS.fV, iN x.gP.aP.aS.dH, iN x.gP.aP.aS.dO, iN x.gP.aP.aS.fD, .sl (aD.rows x.gP.aP.aS.bZ), .sl (aj.rows x.gP.aP.aS.bL), .sl (aI.rows x.gP.aP.aS.cO), .sl (aM.rows x.gP.aP.aS.dw), .sl (aC.rows x.gP.aP.aS.dR), .sl (aA.rows x.gP.aP.aS.bP), iN x.gP.fB, iN x.gP.dK, iN x.gP.bA, iN x.gP.started, iN x.gP.dU, .sl (Q3m x.gP.done), iN x.gP.fq, iN x.last]
def gW.rows (l : List gW) : List (List PV) := l.map gW.cells
def Q2u : ByteArray := ⟨#[66, 117, 100, 103, 101, 116]⟩
def Q1k : ByteArray := ⟨#[68, 101, 112, 108, 111, 121, 109, 101, 110, 116]⟩
def Q3c : ByteArray := ⟨#[74, 111, 98]⟩
def Q1l : ByteArray := ⟨#[82, 101, 112, 108, 105, 99, 97, 83, 101, 116]⟩
def Q2v : ByteArray := ⟨#[97, 99, 116, 105, 118, 101]⟩
def Q2d : ByteArray := ⟨#[97, 108, 108, 111, 119, 101, 100]⟩
def Q3r : ByteArray := ⟨#[97, 110, 116, 105]⟩
def Q7g : ByteArray := ⟨#[97, 116]⟩
def Q1x : ByteArray := ⟨#[97, 118, 97, 105, 108, 97, 98, 108, 101]⟩
def Qo : ByteArray := ⟨#[99, 111, 109, 112, 108, 101, 116, 105, 111, 110, 115]⟩
def Q1d : ByteArray := ⟨#[99, 111, 110, 116, 97, 105, 110, 101, 114, 115]⟩
def Q61 : ByteArray := ⟨#[99, 112, 117]⟩
def Qk : ByteArray := ⟨#[100, 101, 97, 100, 108, 105, 110, 101]⟩
def Q3a : ByteArray := ⟨#[100, 101, 108, 97, 121]⟩
def Q2e : ByteArray := ⟨#[100, 101, 115, 105, 114, 101, 100]⟩
def Q5f : ByteArray := ⟨#[100, 105, 115, 107]⟩
def Q1r : ByteArray := ⟨#[100, 105, 115, 114, 117, 112, 116, 101, 100]⟩
def Q3y : ByteArray := ⟨#[100, 111, 110, 101]⟩
def Q39 : ByteArray := ⟨#[101, 102, 102, 101, 99, 116]⟩
def Q2w : ByteArray := ⟨#[101, 120, 105, 115, 116, 115]⟩
def Q22 : ByteArray := ⟨#[101, 120, 112, 101, 99, 116, 101, 100]⟩
def Q1h : ByteArray := ⟨#[102, 97, 105, 108, 101, 100]⟩
def Q31 : ByteArray := ⟨#[102, 97, 105, 108, 117, 114, 101]⟩
def Q23 : ByteArray := ⟨#[102, 105, 110, 105, 115, 104, 101, 100]⟩
def Q35 : ByteArray := ⟨#[103, 114, 97, 99, 101]⟩
def Q2f : ByteArray := ⟨#[104, 101, 97, 108, 116, 104, 121]⟩
def Q2g : ByteArray := ⟨#[104, 105, 115, 116, 111, 114, 121]⟩
def Q14 : ByteArray := ⟨#[105, 109, 97, 103, 101]⟩
def Q21 : ByteArray := ⟨#[105, 110, 100, 101, 120, 101, 100]⟩
def Q13 : ByteArray := ⟨#[107, 101, 121]⟩
def Q20 : ByteArray := ⟨#[108, 97, 98, 101, 108, 115]⟩
def Q27 : ByteArray := ⟨#[108, 105, 109, 105, 116]⟩
def Q3z : ByteArray := ⟨#[108, 105, 118, 101]⟩
def Q28 : ByteArray := ⟨#[109, 97, 120, 83, 107, 101, 119]⟩
def Q10 : ByteArray := ⟨#[109, 97, 120, 85, 110, 97, 118, 97, 105, 108, 97, 98, 108, 101]⟩
def Q3j : ByteArray := ⟨#[109, 101, 109, 111, 114, 121]⟩
def Q16 : ByteArray := ⟨#[109, 105, 110, 65, 118, 97, 105, 108, 97, 98, 108, 101]⟩
def Qq : ByteArray := ⟨#[109, 105, 110, 82, 101, 97, 100, 121]⟩
def kw_n : ByteArray := ⟨#[110]⟩
def Q1b : ByteArray := ⟨#[110, 97, 109, 101]⟩
def Q37 : ByteArray := ⟨#[110, 111, 100, 101]⟩
def Q17 : ByteArray := ⟨#[110, 111, 100, 101, 83, 101, 108, 101, 99, 116, 111, 114]⟩
def Q1y : ByteArray := ⟨#[110, 111, 100, 101, 84, 101, 114, 109, 115]⟩
def Ql : ByteArray := ⟨#[111, 98, 115, 101, 114, 118, 101, 100]⟩
def Q5l : ByteArray := ⟨#[111, 112]⟩
def Qu : ByteArray := ⟨#[112, 97, 114, 97, 108, 108, 101, 108, 105, 115, 109]⟩
def Q2x : ByteArray := ⟨#[112, 97, 117, 115, 101, 100]⟩
def Q32 : ByteArray := ⟨#[112, 101, 114, 99, 101, 110, 116]⟩
def Q2y : ByteArray := ⟨#[112, 101, 114, 105, 111, 100]⟩
def Q2j : ByteArray := ⟨#[112, 111, 100, 84, 101, 114, 109, 115]⟩
def Q1f : ByteArray := ⟨#[112, 114, 105, 111, 114, 105, 116, 121]⟩
def Q2k : ByteArray := ⟨#[112, 114, 111, 103, 114, 101, 115, 115]⟩
def Q1o : ByteArray := ⟨#[114, 101, 97, 100, 121]⟩
def Q24 : ByteArray := ⟨#[114, 101, 99, 114, 101, 97, 116, 101]⟩
def Qa : ByteArray := ⟨#[114, 101, 112, 108, 105, 99, 97, 115]⟩
def Qj : ByteArray := ⟨#[114, 101, 113, 117, 101, 115, 116]⟩
def Qb : ByteArray := ⟨#[114, 101, 113, 117, 105, 114, 101, 100]⟩
def Q1v : ByteArray := ⟨#[114, 101, 115, 116, 97, 114, 116]⟩
def Q2z : ByteArray := ⟨#[114, 101, 115, 117, 108, 116]⟩
def Q1q : ByteArray := ⟨#[114, 101, 116, 114, 105, 101, 115]⟩
def Q25 : ByteArray := ⟨#[114, 101, 118, 105, 115, 105, 111, 110]⟩
def Q33 : ByteArray := ⟨#[115, 101, 99, 111, 110, 100, 115]⟩
def Q6 : ByteArray := ⟨#[115, 101, 108, 101, 99, 116, 111, 114]⟩
def Q3f : ByteArray := ⟨#[115, 112, 101, 99]⟩
def Q3k : ByteArray := ⟨#[115, 112, 114, 101, 97, 100]⟩
def Q2h : ByteArray := ⟨#[115, 116, 97, 114, 116, 101, 100]⟩
def Q34 : ByteArray := ⟨#[115, 116, 97, 114, 116, 117, 112]⟩
def Q1s : ByteArray := ⟨#[115, 117, 99, 99, 101, 101, 100, 101, 100]⟩
def Q2n : ByteArray := ⟨#[115, 117, 99, 99, 101, 115, 115]⟩
def Q38 : ByteArray := ⟨#[115, 117, 114, 103, 101]⟩
def Q1n : ByteArray := ⟨#[115, 117, 115, 112, 101, 110, 100, 101, 100]⟩
def Qo2 : ByteArray := ⟨#[116, 97, 114, 103, 101, 116]⟩
def Qe : ByteArray := ⟨#[116, 101, 109, 112, 108, 97, 116, 101]⟩
def Q2a : ByteArray := ⟨#[116, 111, 108, 101, 114, 97, 116, 105, 111, 110, 115]⟩
def Qx : ByteArray := ⟨#[116, 111, 112, 111, 108, 111, 103, 121]⟩
def Q15 : ByteArray := ⟨#[117, 110, 97, 118, 97, 105, 108, 97, 98, 108, 101]⟩
def Q40 : ByteArray := ⟨#[117, 110, 100, 111]⟩
def Q29 : ByteArray := ⟨#[117, 112, 100, 97, 116, 101, 100]⟩
def Q1p : ByteArray := ⟨#[118, 97, 108, 117, 101]⟩
def Q1w : ByteArray := ⟨#[118, 97, 108, 117, 101, 115]⟩
def Q1m : ByteArray := ⟨#[119, 101, 105, 103, 104, 116]⟩
def aj.enc (x : aj) : Val := vM [.mk Q13 (vS x.key), .mk Q5l (vN x.op), .mk Q1w (vL (x.dF.map vS))]
def aj.dec (v : Val) : aj × Bool := (aj.mk (dS v Q13).1 (dN v Q5l).1 (dE xS v Q1w).1, isM v && (dS v Q13).2 && (dN v Q5l).2 && (dE xS v Q1w).2)
def aj.sm (x : aj) : Prop := LSm (fun _ : ByteArray => True) x.dF ∧ True
theorem aj.Q1u {x : aj} (h : aj.sm x) : Val.Sm sB (aj.enc x) := Q9j (Nat.le_of_ble_eq_true rfl) (List.forall_mem_cons.2 ⟨Val.Sm.leaf 3 _ _, List.forall_mem_cons.2 ⟨Val.Sm.leaf 2 _ _, List.forall_mem_cons.2 ⟨Q2r (fun _ h => Val.Sm.leaf _ _ _) h.1, fun _ h => by cases h⟩⟩⟩)
theorem aj.Q14i (x : aj) : prt (aj.enc x) Q13 = vS x.key := by kernel_rfl
theorem aj.p_op (x : aj) : prt (aj.enc x) Q5l = vN x.op := by kernel_rfl
theorem aj.Q1nj (x : aj) : prt (aj.enc x) Q1w = vL (x.dF.map vS) := by kernel_rfl
theorem aj.Q2i (x : aj) : aj.dec (aj.enc x) = (x, true) := by
  have h0 : dS (aj.enc x) Q13 = (x.key, true) := by unfold dS; rw [aj.Q14i]; rfl
  have h1 : dN (aj.enc x) Q5l = (x.op, true) := by unfold dN; rw [aj.p_op]; rfl
  have h2 : dE xS (aj.enc x) Q1w = (x.dF, true) := by unfold dE; rw [aj.Q1nj]; exact Q5q (fun _ => rfl) _
  unfold aj.dec
  rw [h0, h1, h2]
  rfl
def aX.enc (x : aX) : Val := vM [.mk Q13 (vS x.key), .mk Q1p (vS x.value)]
def aX.dec (v : Val) : aX × Bool := (aX.mk (dS v Q13).1 (dS v Q1p).1, isM v && (dS v Q13).2 && (dS v Q1p).2)
def aX.sm (_ : aX) : Prop := True
theorem aX.Q1u {x : aX} (_ : aX.sm x) : Val.Sm sB (aX.enc x) := Q9j (Nat.le_of_ble_eq_true rfl) (List.forall_mem_cons.2 ⟨Val.Sm.leaf 3 _ _, List.forall_mem_cons.2 ⟨Val.Sm.leaf 3 _ _, fun _ h => by cases h⟩⟩)
theorem aX.Q14i (x : aX) : prt (aX.enc x) Q13 = vS x.key := by kernel_rfl
theorem aX.Q14n (x : aX) : prt (aX.enc x) Q1p = vS x.value := by kernel_rfl
theorem aX.Q2i (x : aX) : aX.dec (aX.enc x) = (x, true) := by
  have h0 : dS (aX.enc x) Q13 = (x.key, true) := by unfold dS; rw [aX.Q14i]; rfl
  have h1 : dS (aX.enc x) Q1p = (x.value, true) := by unfold dS; rw [aX.Q14n]; rfl
  unfold aX.dec
  rw [h0, h1]
  rfl
def bf.enc (x : bf) : Val := vM [.mk Q61 (vN x.gZ), .mk Q5f (vN x.gI), .mk Q3j (vN x.eU)]
def bf.dec (v : Val) : bf × Bool := (bf.mk (dN v Q61).1 (dN v Q3j).1 (dN v Q5f).1, isM v && (dN v Q61).2 && (dN v Q5f).2 && (dN v Q3j).2)
def bf.sm (_ : bf) : Prop := True
theorem bf.Q1u {x : bf} (_ : bf.sm x) : Val.Sm sB (bf.enc x) := Q9j (Nat.le_of_ble_eq_true rfl) (List.forall_mem_cons.2 ⟨Val.Sm.leaf 2 _ _, List.forall_mem_cons.2 ⟨Val.Sm.leaf 2 _ _, List.forall_mem_cons.2 ⟨Val.Sm.leaf 2 _ _, fun _ h => by cases h⟩⟩⟩)
theorem bf.Q2c2 (x : bf) : prt (bf.enc x) Q61 = vN x.gZ := by kernel_rfl
theorem bf.Q1ne (x : bf) : prt (bf.enc x) Q3j = vN x.eU := by kernel_rfl
theorem bf.Q20b (x : bf) : prt (bf.enc x) Q5f = vN x.gI := by kernel_rfl
theorem bf.Q2i (x : bf) : bf.dec (bf.enc x) = (x, true) := by
  have h0 : dN (bf.enc x) Q61 = (x.gZ, true) := by unfold dN; rw [bf.Q2c2]; rfl
  have h1 : dN (bf.enc x) Q3j = (x.eU, true) := by unfold dN; rw [bf.Q1ne]; rfl
  have h2 : dN (bf.enc x) Q5f = (x.gI, true) := by unfold dN; rw [bf.Q20b]; rfl
  unfold bf.dec
  rw [h0, h1, h2]
  rfl
theorem bf.Qb4 {v : Val} (h : (v.kind == 5) = false) : bf.dec v = ((bf.dec vZ).1, v.kind == 0) := by
  unfold bf.dec
  simp only [dN, Qof h, Qo0 h]
  generalize (v.kind == 0) = b
  cases b <;> rfl
theorem bf.sub1 (x : Val) : (bf.dec (s5 x)).1 = (bf.dec x).1 := (Q16z (f := bf.dec) (fun _ h => bf.Qb4 h) rfl x).1
theorem bf.sub2 (v : Val) (k : BA) : (bf.dec (prt v k)).2 = (isM (prt v k) && (bf.dec (s5 (prt v k))).2) := (Q16z (f := bf.dec) (fun _ h => bf.Qb4 h) rfl _).2
def bn.enc (x : bn) : Val := vM [.mk Q3a (vN x.fZ), .mk Q31 (vN x.eH), .mk Q2y (vN x.fA), .mk Q2n (vN x.eY)]
def bn.dec (v : Val) : bn × Bool := (bn.mk (dN v Q3a).1 (dN v Q2y).1 (dN v Q2n).1 (dN v Q31).1, isM v && (dN v Q3a).2 && (dN v Q31).2 && (dN v Q2y).2 && (dN v Q2n).2)
def bn.sm (_ : bn) : Prop := True
theorem bn.Q1u {x : bn} (_ : bn.sm x) : Val.Sm sB (bn.enc x) := Q9j (Nat.le_of_ble_eq_true rfl) (List.forall_mem_cons.2 ⟨Val.Sm.leaf 2 _ _, List.forall_mem_cons.2 ⟨Val.Sm.leaf 2 _ _, List.forall_mem_cons.2 ⟨Val.Sm.leaf 2 _ _, List.forall_mem_cons.2 ⟨Val.Sm.leaf 2 _ _, fun _ h => by cases h⟩⟩⟩⟩)
theorem bn.Q1rq (x : bn) : prt (bn.enc x) Q3a = vN x.fZ := by kernel_rfl
theorem bn.Q1ng (x : bn) : prt (bn.enc x) Q2y = vN x.fA := by kernel_rfl
theorem bn.Q1jd (x : bn) : prt (bn.enc x) Q2n = vN x.eY := by kernel_rfl
theorem bn.Q1j1 (x : bn) : prt (bn.enc x) Q31 = vN x.eH := by kernel_rfl
theorem bn.Q2i (x : bn) : bn.dec (bn.enc x) = (x, true) := by
  have h0 : dN (bn.enc x) Q3a = (x.fZ, true) := by unfold dN; rw [bn.Q1rq]; rfl
  have h1 : dN (bn.enc x) Q2y = (x.fA, true) := by unfold dN; rw [bn.Q1ng]; rfl
  have h2 : dN (bn.enc x) Q2n = (x.eY, true) := by unfold dN; rw [bn.Q1jd]; rfl
  have h3 : dN (bn.enc x) Q31 = (x.eH, true) := by unfold dN; rw [bn.Q1j1]; rfl
  unfold bn.dec
  rw [h0, h1, h2, h3]
  rfl
def aD.enc (x : aD) : Val := vM [.mk Q14 (vS x.fT), .mk Q27 (bf.enc x.fC), .mk Q3z (vL (x.live.map bn.enc)), .mk Q1b (vS x.name), .mk Q1o (vL (x.ready.map bn.enc)), .mk Qj (bf.enc x.dM), .mk Q34 (vL (x.dV.map bn.enc))]
def aD.dec (v : Val) : aD × Bool := (aD.mk (dS v Q1b).1 (dS v Q14).1 (dT bf.dec v Qj).1 (dT bf.dec v Q27).1 (dE bn.dec v Q3z).1 (dE bn.dec v Q1o).1 (dE bn.dec v Q34).1, isM v && (dS v Q14).2 && (dT bf.dec v Q27).2 && (dE bn.dec v Q3z).2 && (dS v Q1b).2 && (dE bn.dec v Q1o).2 && (dT bf.dec v Qj).2 && (dE bn.dec v Q34).2)
def aD.sm (x : aD) : Prop := bf.sm x.dM ∧ bf.sm x.fC ∧ LSm bn.sm x.live ∧ LSm bn.sm x.ready ∧ LSm bn.sm x.dV ∧ True
theorem aD.Q1u {x : aD} (h : aD.sm x) : Val.Sm sB (aD.enc x) := Q9j (Nat.le_of_ble_eq_true rfl) (List.forall_mem_cons.2 ⟨Val.Sm.leaf 3 _ _, List.forall_mem_cons.2 ⟨bf.Q1u h.2.1, List.forall_mem_cons.2 ⟨Q2r (fun _ h => bn.Q1u h) h.2.2.1, List.forall_mem_cons.2 ⟨Val.Sm.leaf 3 _ _, List.forall_mem_cons.2 ⟨Q2r (fun _ h => bn.Q1u h) h.2.2.2.1, List.forall_mem_cons.2 ⟨bf.Q1u h.1, List.forall_mem_cons.2 ⟨Q2r (fun _ h => bn.Q1u h) h.2.2.2.2.1, fun _ h => by cases h⟩⟩⟩⟩⟩⟩⟩)
theorem aD.Q20e (x : aD) : prt (aD.enc x) Q1b = vS x.name := by kernel_rfl
theorem aD.Q1rs (x : aD) : prt (aD.enc x) Q14 = vS x.fT := by kernel_rfl
theorem aD.Q1j7 (x : aD) : prt (aD.enc x) Qj = bf.enc x.dM := by kernel_rfl
theorem aD.Q1rt (x : aD) : prt (aD.enc x) Q27 = bf.enc x.fC := by kernel_rfl
theorem aD.Q20d (x : aD) : prt (aD.enc x) Q3z = vL (x.live.map bn.enc) := by kernel_rfl
theorem aD.Q14k (x : aD) : prt (aD.enc x) Q1o = vL (x.ready.map bn.enc) := by kernel_rfl
theorem aD.Q1jc (x : aD) : prt (aD.enc x) Q34 = vL (x.dV.map bn.enc) := by kernel_rfl
theorem aD.Q2i (x : aD) : aD.dec (aD.enc x) = (x, true) := by
  have h0 : dS (aD.enc x) Q1b = (x.name, true) := by unfold dS; rw [aD.Q20e]; rfl
  have h1 : dS (aD.enc x) Q14 = (x.fT, true) := by unfold dS; rw [aD.Q1rs]; rfl
  have h2 : dT bf.dec (aD.enc x) Qj = (x.dM, true) := by unfold dT; rw [aD.Q1j7]; exact bf.Q2i _
  have h3 : dT bf.dec (aD.enc x) Q27 = (x.fC, true) := by unfold dT; rw [aD.Q1rt]; exact bf.Q2i _
  have h4 : dE bn.dec (aD.enc x) Q3z = (x.live, true) := by unfold dE; rw [aD.Q20d]; exact Q5q bn.Q2i _
  have h5 : dE bn.dec (aD.enc x) Q1o = (x.ready, true) := by unfold dE; rw [aD.Q14k]; exact Q5q bn.Q2i _
  have h6 : dE bn.dec (aD.enc x) Q34 = (x.dV, true) := by unfold dE; rw [aD.Q1jc]; exact Q5q bn.Q2i _
  unfold aD.dec
  rw [h0, h1, h2, h3, h4, h5, h6]
  rfl
def aI.enc (x : aI) : Val := vM [.mk Qb (vB x.bI), .mk Q6 (vL (x.aR.map aj.enc)), .mk Q1m (vN x.dI)]
def aI.dec (v : Val) : aI × Bool := (aI.mk (dB v Qb).1 (dE aj.dec v Q6).1 (dN v Q1m).1, isM v && (dB v Qb).2 && (dE aj.dec v Q6).2 && (dN v Q1m).2)
def aI.sm (x : aI) : Prop := LSm aj.sm x.aR ∧ True
theorem aI.Q1u {x : aI} (h : aI.sm x) : Val.Sm sB (aI.enc x) := Q9j (Nat.le_of_ble_eq_true rfl) (List.forall_mem_cons.2 ⟨Val.Sm.leaf 1 _ _, List.forall_mem_cons.2 ⟨Q2r (fun _ h => aj.Q1u h) h.1, List.forall_mem_cons.2 ⟨Val.Sm.leaf 2 _ _, fun _ h => by cases h⟩⟩⟩)
theorem aI.Q9c (x : aI) : prt (aI.enc x) Qb = vB x.bI := by kernel_rfl
theorem aI.Q4m (x : aI) : prt (aI.enc x) Q6 = vL (x.aR.map aj.enc) := by kernel_rfl
theorem aI.Qy7 (x : aI) : prt (aI.enc x) Q1m = vN x.dI := by kernel_rfl
theorem aI.Q2i (x : aI) : aI.dec (aI.enc x) = (x, true) := by
  have h0 : dB (aI.enc x) Qb = (x.bI, true) := by unfold dB; rw [aI.Q9c]; exact xB_b _
  have h1 : dE aj.dec (aI.enc x) Q6 = (x.aR, true) := by unfold dE; rw [aI.Q4m]; exact Q5q aj.Q2i _
  have h2 : dN (aI.enc x) Q1m = (x.dI, true) := by unfold dN; rw [aI.Qy7]; rfl
  unfold aI.dec
  rw [h0, h1, h2]
  rfl
def aM.enc (x : aM) : Val := vM [.mk Q3r (vB x.gK), .mk Qb (vB x.bI), .mk Q6 (vL (x.aR.map aj.enc)), .mk Qx (vS x.bW), .mk Q1m (vN x.dI)]
def aM.dec (v : Val) : aM × Bool := (aM.mk (dB v Qb).1 (dB v Q3r).1 (dE aj.dec v Q6).1 (dS v Qx).1 (dN v Q1m).1, isM v && (dB v Q3r).2 && (dB v Qb).2 && (dE aj.dec v Q6).2 && (dS v Qx).2 && (dN v Q1m).2)
def aM.sm (x : aM) : Prop := LSm aj.sm x.aR ∧ True
theorem aM.Q1u {x : aM} (h : aM.sm x) : Val.Sm sB (aM.enc x) := Q9j (Nat.le_of_ble_eq_true rfl) (List.forall_mem_cons.2 ⟨Val.Sm.leaf 1 _ _, List.forall_mem_cons.2 ⟨Val.Sm.leaf 1 _ _, List.forall_mem_cons.2 ⟨Q2r (fun _ h => aj.Q1u h) h.1, List.forall_mem_cons.2 ⟨Val.Sm.leaf 3 _ _, List.forall_mem_cons.2 ⟨Val.Sm.leaf 2 _ _, fun _ h => by cases h⟩⟩⟩⟩⟩)
theorem aM.Q9c (x : aM) : prt (aM.enc x) Qb = vB x.bI := by kernel_rfl
theorem aM.Q20a (x : aM) : prt (aM.enc x) Q3r = vB x.gK := by kernel_rfl
theorem aM.Q4m (x : aM) : prt (aM.enc x) Q6 = vL (x.aR.map aj.enc) := by kernel_rfl
theorem aM.Qfc (x : aM) : prt (aM.enc x) Qx = vS x.bW := by kernel_rfl
theorem aM.Qy7 (x : aM) : prt (aM.enc x) Q1m = vN x.dI := by kernel_rfl
theorem aM.Q2i (x : aM) : aM.dec (aM.enc x) = (x, true) := by
  have h0 : dB (aM.enc x) Qb = (x.bI, true) := by unfold dB; rw [aM.Q9c]; exact xB_b _
  have h1 : dB (aM.enc x) Q3r = (x.gK, true) := by unfold dB; rw [aM.Q20a]; exact xB_b _
  have h2 : dE aj.dec (aM.enc x) Q6 = (x.aR, true) := by unfold dE; rw [aM.Q4m]; exact Q5q aj.Q2i _
  have h3 : dS (aM.enc x) Qx = (x.bW, true) := by unfold dS; rw [aM.Qfc]; rfl
  have h4 : dN (aM.enc x) Q1m = (x.dI, true) := by unfold dN; rw [aM.Qy7]; rfl
  unfold aM.dec
  rw [h0, h1, h2, h3, h4]
  rfl
def aC.enc (x : aC) : Val := vM [.mk Q28 (vN x.eT), .mk Qb (vB x.bI), .mk Q6 (vL (x.aR.map aj.enc)), .mk Qx (vS x.bW)]
def aC.dec (v : Val) : aC × Bool := (aC.mk (dN v Q28).1 (dS v Qx).1 (dE aj.dec v Q6).1 (dB v Qb).1, isM v && (dN v Q28).2 && (dB v Qb).2 && (dE aj.dec v Q6).2 && (dS v Qx).2)
def aC.sm (x : aC) : Prop := LSm aj.sm x.aR ∧ True
theorem aC.Q1u {x : aC} (h : aC.sm x) : Val.Sm sB (aC.enc x) := Q9j (Nat.le_of_ble_eq_true rfl) (List.forall_mem_cons.2 ⟨Val.Sm.leaf 2 _ _, List.forall_mem_cons.2 ⟨Val.Sm.leaf 1 _ _, List.forall_mem_cons.2 ⟨Q2r (fun _ h => aj.Q1u h) h.1, List.forall_mem_cons.2 ⟨Val.Sm.leaf 3 _ _, fun _ h => by cases h⟩⟩⟩⟩)
theorem aC.Q1j5 (x : aC) : prt (aC.enc x) Q28 = vN x.eT := by kernel_rfl
theorem aC.Qfc (x : aC) : prt (aC.enc x) Qx = vS x.bW := by kernel_rfl
theorem aC.Q4m (x : aC) : prt (aC.enc x) Q6 = vL (x.aR.map aj.enc) := by kernel_rfl
theorem aC.Q9c (x : aC) : prt (aC.enc x) Qb = vB x.bI := by kernel_rfl
theorem aC.Q2i (x : aC) : aC.dec (aC.enc x) = (x, true) := by
  have h0 : dN (aC.enc x) Q28 = (x.eT, true) := by unfold dN; rw [aC.Q1j5]; rfl
  have h1 : dS (aC.enc x) Qx = (x.bW, true) := by unfold dS; rw [aC.Qfc]; rfl
  have h2 : dE aj.dec (aC.enc x) Q6 = (x.aR, true) := by unfold dE; rw [aC.Q4m]; exact Q5q aj.Q2i _
  have h3 : dB (aC.enc x) Qb = (x.bI, true) := by unfold dB; rw [aC.Q9c]; exact xB_b _
  unfold aC.dec
  rw [h0, h1, h2, h3]
  rfl
def aA.enc (x : aA) : Val := vM [.mk Q39 (vN x.fF), .mk Q2w (vB x.eG), .mk Q13 (vS x.key), .mk Q33 (vN x.eX), .mk Q1p (vS x.value)]
def aA.dec (v : Val) : aA × Bool := (aA.mk (dS v Q13).1 (dS v Q1p).1 (dB v Q2w).1 (dN v Q39).1 (dN v Q33).1, isM v && (dN v Q39).2 && (dB v Q2w).2 && (dS v Q13).2 && (dN v Q33).2 && (dS v Q1p).2)
def aA.sm (_ : aA) : Prop := True
theorem aA.Q1u {x : aA} (_ : aA.sm x) : Val.Sm sB (aA.enc x) := Q9j (Nat.le_of_ble_eq_true rfl) (List.forall_mem_cons.2 ⟨Val.Sm.leaf 2 _ _, List.forall_mem_cons.2 ⟨Val.Sm.leaf 1 _ _, List.forall_mem_cons.2 ⟨Val.Sm.leaf 3 _ _, List.forall_mem_cons.2 ⟨Val.Sm.leaf 2 _ _, List.forall_mem_cons.2 ⟨Val.Sm.leaf 3 _ _, fun _ h => by cases h⟩⟩⟩⟩⟩)
theorem aA.Q14i (x : aA) : prt (aA.enc x) Q13 = vS x.key := by kernel_rfl
theorem aA.Q14n (x : aA) : prt (aA.enc x) Q1p = vS x.value := by kernel_rfl
theorem aA.Q1j0 (x : aA) : prt (aA.enc x) Q2w = vB x.eG := by kernel_rfl
theorem aA.Q1nc (x : aA) : prt (aA.enc x) Q39 = vN x.fF := by kernel_rfl
theorem aA.Q1ja (x : aA) : prt (aA.enc x) Q33 = vN x.eX := by kernel_rfl
theorem aA.Q2i (x : aA) : aA.dec (aA.enc x) = (x, true) := by
  have h0 : dS (aA.enc x) Q13 = (x.key, true) := by unfold dS; rw [aA.Q14i]; rfl
  have h1 : dS (aA.enc x) Q1p = (x.value, true) := by unfold dS; rw [aA.Q14n]; rfl
  have h2 : dB (aA.enc x) Q2w = (x.eG, true) := by unfold dB; rw [aA.Q1j0]; exact xB_b _
  have h3 : dN (aA.enc x) Q39 = (x.fF, true) := by unfold dN; rw [aA.Q1nc]; rfl
  have h4 : dN (aA.enc x) Q33 = (x.eX, true) := by unfold dN; rw [aA.Q1ja]; rfl
  unfold aA.dec
  rw [h0, h1, h2, h3, h4]
  rfl
def aY.enc (x : aY) : Val := vM [.mk Q1d (vL (x.bZ.map aD.enc)), .mk Q35 (vN x.fD), .mk Q37 (vS x.fV), .mk Q17 (vL (x.bL.map aj.enc)), .mk Q1y (vL (x.cO.map aI.enc)), .mk Q2j (vL (x.dw.map aM.enc)), .mk Q1f (vN x.dH), .mk Q1v (vN x.dO), .mk Q3k (vL (x.dR.map aC.enc)), .mk Q2a (vL (x.bP.map aA.enc))]
def aY.dec (v : Val) : aY × Bool := (aY.mk (dS v Q37).1 (dN v Q1f).1 (dN v Q1v).1 (dN v Q35).1 (dE aD.dec v Q1d).1 (dE aj.dec v Q17).1 (dE aI.dec v Q1y).1 (dE aM.dec v Q2j).1 (dE aC.dec v Q3k).1 (dE aA.dec v Q2a).1, isM v && (dE aD.dec v Q1d).2 && (dN v Q35).2 && (dS v Q37).2 && (dE aj.dec v Q17).2 && (dE aI.dec v Q1y).2 && (dE aM.dec v Q2j).2 && (dN v Q1f).2 && (dN v Q1v).2 && (dE aC.dec v Q3k).2 && (dE aA.dec v Q2a).2)
def aY.sm (x : aY) : Prop := LSm aD.sm x.bZ ∧ LSm aj.sm x.bL ∧ LSm aI.sm x.cO ∧ LSm aM.sm x.dw ∧ LSm aC.sm x.dR ∧ LSm aA.sm x.bP ∧ True
theorem aY.Q1u {x : aY} (h : aY.sm x) : Val.Sm sB (aY.enc x) := Q9j (Nat.le_of_ble_eq_true rfl) (List.forall_mem_cons.2 ⟨Q2r (fun _ h => aD.Q1u h) h.1, List.forall_mem_cons.2 ⟨Val.Sm.leaf 2 _ _, List.forall_mem_cons.2 ⟨Val.Sm.leaf 3 _ _, List.forall_mem_cons.2 ⟨Q2r (fun _ h => aj.Q1u h) h.2.1, List.forall_mem_cons.2 ⟨Q2r (fun _ h => aI.Q1u h) h.2.2.1, List.forall_mem_cons.2 ⟨Q2r (fun _ h => aM.Q1u h) h.2.2.2.1, List.forall_mem_cons.2 ⟨Val.Sm.leaf 2 _ _, List.forall_mem_cons.2 ⟨Val.Sm.leaf 2 _ _, List.forall_mem_cons.2 ⟨Q2r (fun _ h => aC.Q1u h) h.2.2.2.2.1, List.forall_mem_cons.2 ⟨Q2r (fun _ h => aA.Q1u h) h.2.2.2.2.2.1, fun _ h => by cases h⟩⟩⟩⟩⟩⟩⟩⟩⟩⟩)
theorem aY.Q20f (x : aY) : prt (aY.enc x) Q37 = vS x.fV := by kernel_rfl
theorem aY.Q1cb (x : aY) : prt (aY.enc x) Q1f = vN x.dH := by kernel_rfl
theorem aY.Q1j8 (x : aY) : prt (aY.enc x) Q1v = vN x.dO := by kernel_rfl
theorem aY.Q1rr (x : aY) : prt (aY.enc x) Q35 = vN x.fD := by kernel_rfl
theorem aY.Q131 (x : aY) : prt (aY.enc x) Q1d = vL (x.bZ.map aD.enc) := by kernel_rfl
theorem aY.Qp7 (x : aY) : prt (aY.enc x) Q17 = vL (x.bL.map aj.enc) := by kernel_rfl
theorem aY.Q14j (x : aY) : prt (aY.enc x) Q1y = vL (x.cO.map aI.enc) := by kernel_rfl
theorem aY.Q1ca (x : aY) : prt (aY.enc x) Q2j = vL (x.dw.map aM.enc) := by kernel_rfl
theorem aY.Q1ni (x : aY) : prt (aY.enc x) Q3k = vL (x.dR.map aC.enc) := by kernel_rfl
theorem aY.Qy5 (x : aY) : prt (aY.enc x) Q2a = vL (x.bP.map aA.enc) := by kernel_rfl
theorem aY.Q2i (x : aY) : aY.dec (aY.enc x) = (x, true) := by
  have h0 : dS (aY.enc x) Q37 = (x.fV, true) := by unfold dS; rw [aY.Q20f]; rfl
  have h1 : dN (aY.enc x) Q1f = (x.dH, true) := by unfold dN; rw [aY.Q1cb]; rfl
  have h2 : dN (aY.enc x) Q1v = (x.dO, true) := by unfold dN; rw [aY.Q1j8]; rfl
  have h3 : dN (aY.enc x) Q35 = (x.fD, true) := by unfold dN; rw [aY.Q1rr]; rfl
  have h4 : dE aD.dec (aY.enc x) Q1d = (x.bZ, true) := by unfold dE; rw [aY.Q131]; exact Q5q aD.Q2i _
  have h5 : dE aj.dec (aY.enc x) Q17 = (x.bL, true) := by unfold dE; rw [aY.Qp7]; exact Q5q aj.Q2i _
  have h6 : dE aI.dec (aY.enc x) Q1y = (x.cO, true) := by unfold dE; rw [aY.Q14j]; exact Q5q aI.Q2i _
  have h7 : dE aM.dec (aY.enc x) Q2j = (x.dw, true) := by unfold dE; rw [aY.Q1ca]; exact Q5q aM.Q2i _
  have h8 : dE aC.dec (aY.enc x) Q3k = (x.dR, true) := by unfold dE; rw [aY.Q1ni]; exact Q5q aC.Q2i _
  have h9 : dE aA.dec (aY.enc x) Q2a = (x.bP, true) := by unfold dE; rw [aY.Qy5]; exact Q5q aA.Q2i _
  unfold aY.dec
  rw [h0, h1, h2, h3, h4, h5, h6, h7, h8, h9]
  rfl
theorem aY.Qb4 {v : Val} (h : (v.kind == 5) = false) : aY.dec v = ((aY.dec vZ).1, v.kind == 0) := by
  unfold aY.dec
  simp only [dN, dS, dE, Qof h, Qo0 h]
  generalize (v.kind == 0) = b
  cases b <;> rfl
theorem aY.sub1 (x : Val) : (aY.dec (s5 x)).1 = (aY.dec x).1 := (Q16z (f := aY.dec) (fun _ h => aY.Qb4 h) rfl x).1
theorem aY.sub2 (v : Val) (k : BA) : (aY.dec (prt v k)).2 = (isM (prt v k) && (aY.dec (s5 (prt v k))).2) := (Q16z (f := aY.dec) (fun _ h => aY.Qb4 h) rfl _).2
def aU.enc (x : aU) : Val := vM [.mk Q20 (vL (x.bH.map aX.enc)), .mk Q3f (aY.enc x.aS)]
def aU.dec (v : Val) : aU × Bool := (aU.mk (dE aX.dec v Q20).1 (dT aY.dec v Q3f).1, isM v && (dE aX.dec v Q20).2 && (dT aY.dec v Q3f).2)
def aU.sm (x : aU) : Prop := LSm aX.sm x.bH ∧ aY.sm x.aS ∧ True
theorem aU.Q1u {x : aU} (h : aU.sm x) : Val.Sm sB (aU.enc x) := Q9j (Nat.le_of_ble_eq_true rfl) (List.forall_mem_cons.2 ⟨Q2r (fun _ h => aX.Q1u h) h.1, List.forall_mem_cons.2 ⟨aY.Q1u h.2.1, fun _ h => by cases h⟩⟩)
theorem aU.Q1nd (x : aU) : prt (aU.enc x) Q20 = vL (x.bH.map aX.enc) := by kernel_rfl
theorem aU.Q20g (x : aU) : prt (aU.enc x) Q3f = aY.enc x.aS := by kernel_rfl
theorem aU.Q2i (x : aU) : aU.dec (aU.enc x) = (x, true) := by
  have h0 : dE aX.dec (aU.enc x) Q20 = (x.bH, true) := by unfold dE; rw [aU.Q1nd]; exact Q5q aX.Q2i _
  have h1 : dT aY.dec (aU.enc x) Q3f = (x.aS, true) := by unfold dT; rw [aU.Q20g]; exact aY.Q2i _
  unfold aU.dec
  rw [h0, h1]
  rfl
theorem aU.Qb4 {v : Val} (h : (v.kind == 5) = false) : aU.dec v = ((aU.dec vZ).1, v.kind == 0) := by
  unfold aU.dec
  simp only [dE, dT, Qof h, Qo0 h]
  generalize (v.kind == 0) = b
  cases b <;> rfl
def aJ.enc (x : aJ) : Val := vM [.mk kw_n (vN x.n), .mk Q32 (vB x.dQ)]
def aJ.dec (v : Val) : aJ × Bool := (aJ.mk (dB v Q32).1 (dN v kw_n).1, isM v && (dN v kw_n).2 && (dB v Q32).2)
def aJ.sm (_ : aJ) : Prop := True
theorem aJ.Q1u {x : aJ} (_ : aJ.sm x) : Val.Sm sB (aJ.enc x) := Q9j (Nat.le_of_ble_eq_true rfl) (List.forall_mem_cons.2 ⟨Val.Sm.leaf 2 _ _, List.forall_mem_cons.2 ⟨Val.Sm.leaf 1 _ _, fun _ h => by cases h⟩⟩)
theorem aJ.Q1j6 (x : aJ) : prt (aJ.enc x) Q32 = vB x.dQ := by kernel_rfl
theorem aJ.p_n (x : aJ) : prt (aJ.enc x) kw_n = vN x.n := by kernel_rfl
theorem aJ.Q2i (x : aJ) : aJ.dec (aJ.enc x) = (x, true) := by
  have h0 : dB (aJ.enc x) Q32 = (x.dQ, true) := by unfold dB; rw [aJ.Q1j6]; exact xB_b _
  have h1 : dN (aJ.enc x) kw_n = (x.n, true) := by unfold dN; rw [aJ.p_n]; rfl
  unfold aJ.dec
  rw [h0, h1]
  rfl
def aO.enc (x : aO) : Val := vM [.mk Q1x (vN x.dx), .mk Q1h (vB x.bA), .mk Ql (vN x.bV), .mk Q2k (vN x.dJ), .mk Q1o (vN x.ready), .mk Qa (vN x.bD), .mk Q29 (vN x.dW)]
def aO.dec (v : Val) : aO × Bool := (aO.mk (dN v Ql).1 (dN v Qa).1 (dN v Q29).1 (dN v Q1o).1 (dN v Q1x).1 (dN v Q2k).1 (dB v Q1h).1, isM v && (dN v Q1x).2 && (dB v Q1h).2 && (dN v Ql).2 && (dN v Q2k).2 && (dN v Q1o).2 && (dN v Qa).2 && (dN v Q29).2)
def aO.sm (_ : aO) : Prop := True
theorem aO.Q1u {x : aO} (_ : aO.sm x) : Val.Sm sB (aO.enc x) := Q9j (Nat.le_of_ble_eq_true rfl) (List.forall_mem_cons.2 ⟨Val.Sm.leaf 2 _ _, List.forall_mem_cons.2 ⟨Val.Sm.leaf 1 _ _, List.forall_mem_cons.2 ⟨Val.Sm.leaf 2 _ _, List.forall_mem_cons.2 ⟨Val.Sm.leaf 2 _ _, List.forall_mem_cons.2 ⟨Val.Sm.leaf 2 _ _, List.forall_mem_cons.2 ⟨Val.Sm.leaf 2 _ _, List.forall_mem_cons.2 ⟨Val.Sm.leaf 2 _ _, fun _ h => by cases h⟩⟩⟩⟩⟩⟩⟩)
theorem aO.Qfb (x : aO) : prt (aO.enc x) Ql = vN x.bV := by kernel_rfl
theorem aO.Q9b (x : aO) : prt (aO.enc x) Qa = vN x.bD := by kernel_rfl
theorem aO.Q1je (x : aO) : prt (aO.enc x) Q29 = vN x.dW := by kernel_rfl
theorem aO.Q14k (x : aO) : prt (aO.enc x) Q1o = vN x.ready := by kernel_rfl
theorem aO.Q14g (x : aO) : prt (aO.enc x) Q1x = vN x.dx := by kernel_rfl
theorem aO.Q1cc (x : aO) : prt (aO.enc x) Q2k = vN x.dJ := by kernel_rfl
theorem aO.Qy3 (x : aO) : prt (aO.enc x) Q1h = vB x.bA := by kernel_rfl
theorem aO.Q2i (x : aO) : aO.dec (aO.enc x) = (x, true) := by
  have h0 : dN (aO.enc x) Ql = (x.bV, true) := by unfold dN; rw [aO.Qfb]; rfl
  have h1 : dN (aO.enc x) Qa = (x.bD, true) := by unfold dN; rw [aO.Q9b]; rfl
  have h2 : dN (aO.enc x) Q29 = (x.dW, true) := by unfold dN; rw [aO.Q1je]; rfl
  have h3 : dN (aO.enc x) Q1o = (x.ready, true) := by unfold dN; rw [aO.Q14k]; rfl
  have h4 : dN (aO.enc x) Q1x = (x.dx, true) := by unfold dN; rw [aO.Q14g]; rfl
  have h5 : dN (aO.enc x) Q2k = (x.dJ, true) := by unfold dN; rw [aO.Q1cc]; rfl
  have h6 : dB (aO.enc x) Q1h = (x.bA, true) := by unfold dB; rw [aO.Qy3]; exact xB_b _
  unfold aO.dec
  rw [h0, h1, h2, h3, h4, h5, h6]
  rfl
def fJ.dec (v : Val) : fJ × Bool := (fJ.mk (dS v Q1b).1 (dN v Qo2).1, isM v && (dS v Q1b).2 && (dN v Qo2).2)
def fH.dec (v : Val) : fH × Bool := (fH.mk (dN v Q7g).1 (dN v Qa).1, isM v && (dN v Q7g).2 && (dN v Qa).2)
def aK.enc (x : aK) : Val := vM [.mk Q7g (vN x.at_), .mk Q13 (vS x.key)]
def aK.dec (v : Val) : aK × Bool := (aK.mk (dS v Q13).1 (dN v Q7g).1, isM v && (dN v Q7g).2 && (dS v Q13).2)
def aK.sm (_ : aK) : Prop := True
theorem aK.Q1u {x : aK} (_ : aK.sm x) : Val.Sm sB (aK.enc x) := Q9j (Nat.le_of_ble_eq_true rfl) (List.forall_mem_cons.2 ⟨Val.Sm.leaf 2 _ _, List.forall_mem_cons.2 ⟨Val.Sm.leaf 3 _ _, fun _ h => by cases h⟩⟩)
theorem aK.Q14i (x : aK) : prt (aK.enc x) Q13 = vS x.key := by kernel_rfl
theorem aK.Q2c1 (x : aK) : prt (aK.enc x) Q7g = vN x.at_ := by kernel_rfl
theorem aK.Q2i (x : aK) : aK.dec (aK.enc x) = (x, true) := by
  have h0 : dS (aK.enc x) Q13 = (x.key, true) := by unfold dS; rw [aK.Q14i]; rfl
  have h1 : dN (aK.enc x) Q7g = (x.at_, true) := by unfold dN; rw [aK.Q2c1]; rfl
  unfold aK.dec
  rw [h0, h1]
  rfl
def Q1kx : aU := (aU.mk [] (aY.mk eB 0 0 0 [] [] [] [] [] []))
def Q13g (v : Val) : aU × Int := bif !(aU.dec v).2 then (Q1kx, 6) else ((aU.dec v).1, 0)
def tD (v : Val) (n : BA) : aU × Bool := ((Q13g (prt v n)).1, (aU.dec (prt v n)).2)
def tC (v : Val) (n : BA) : Nat := cM v + (bif (prt v n).kind == 0 then 0 else nb (aU.dec (prt v n)).2)
theorem tC0 (v : Val) (n : BA) : (tC v n == 0) = (isM v && (tD v n).2) := by
  have z : ∀ x : Val, (x.kind == 0) = true → (aU.dec x).2 = true := fun x h => by
    have h5 : (x.kind == 5) = false := by rw [eq_of_beq h]; rfl
    rw [aU.Qb4 h5]
    exact h
  unfold tC tD
  rw [add0, cM0]
  cases h : ((prt v n).kind == 0) with
  | true => rw [z _ h]; rfl
  | false => rw [cond_false, nb0]
theorem Q1s2 (v : Val) (n : BA) : tC v n ≤ 2 := by
  have a := Qdp 5 v
  have b := Q1c6 (aU.dec (prt v n)).2
  unfold tC cM
  cases ((prt v n).kind == 0) with
  | true => rw [cond_true]; omega
  | false => rw [cond_false]; omega
def aj.cnt (v : Val) : Nat := cM v + pK 3 v Q13 + pK 2 v Q5l + pE (cK 3) v Q1w
theorem aj.cnt0 (v : Val) : (aj.cnt v == 0) = (aj.dec v).2 := by
  unfold aj.cnt aj.dec
  simp only [add0, cM0, pS0, pN0, pE0 kS, dN, dS, dE, Bool.and_assoc, Bool.and_left_comm, Bool.and_comm, Bool.and_self_left]
theorem aj.Q5i {v : Val} (h : Val.Sm 1000 v) : aj.cnt v ≤ 1007 := by
  have g0 := Qdp 5 v
  have g1 := Q4l 3 v Q13
  have g2 := Q4l 2 v Q5l
  have g3 := Q130 (c := (cK 3)) (K := 1) (fun x hx => Qdp _ _) h Q1w
  unfold aj.cnt cM
  omega
def aJ.cnt (v : Val) : Nat := pK 1 v Q32 + pK 2 v kw_n
theorem aJ.cnt0 (v : Val) : (aJ.cnt v == 0) = (aJ.dec v).2 := by
  unfold aJ.cnt aJ.dec
  simp only [add0, pB0, pN0, dN, dB, Bool.and_assoc, Bool.and_left_comm, Bool.and_comm, Bool.and_self_left]
theorem aJ.Q5i {v : Val} (_ : Val.Sm 1000 v) : aJ.cnt v ≤ 4 := by
  have g0 := Q4l 1 v Q32
  have g1 := Q4l 2 v kw_n
  unfold aJ.cnt
  omega
def aO.cnt (v : Val) : Nat := pK 2 v Ql + pK 2 v Qa + pK 2 v Q29 + pK 2 v Q1o + pK 2 v Q1x + pK 2 v Q2k + pK 1 v Q1h
theorem aO.cnt0 (v : Val) : (aO.cnt v == 0) = (aO.dec v).2 := by
  unfold aO.cnt aO.dec
  simp only [add0, pN0, pB0, dN, dB, Bool.and_assoc, Bool.and_left_comm, Bool.and_comm, Bool.and_self_left]
theorem aO.Q5i {v : Val} (_ : Val.Sm 1000 v) : aO.cnt v ≤ 14 := by
  have g0 := Q4l 2 v Ql
  have g1 := Q4l 2 v Qa
  have g2 := Q4l 2 v Q29
  have g3 := Q4l 2 v Q1o
  have g4 := Q4l 2 v Q1x
  have g5 := Q4l 2 v Q2k
  have g6 := Q4l 1 v Q1h
  unfold aO.cnt
  omega
def fJ.cnt (v : Val) : Nat := pK 3 v Q1b + pK 2 v Qo2
def fH.cnt (v : Val) : Nat := pK 2 v Q7g + pK 2 v Qa
def aK.cnt (v : Val) : Nat := pK 3 v Q13 + pK 2 v Q7g
theorem aK.cnt0 (v : Val) : (aK.cnt v == 0) = (aK.dec v).2 := by
  unfold aK.cnt aK.dec
  simp only [add0, pS0, pN0, dN, dS, Bool.and_assoc, Bool.and_left_comm, Bool.and_comm, Bool.and_self_left]
theorem aK.Q5i {v : Val} (_ : Val.Sm 1000 v) : aK.cnt v ≤ 4 := by
  have g0 := Q4l 3 v Q13
  have g1 := Q4l 2 v Q7g
  unfold aK.cnt
  omega
def JobS.enc (x : bQ) : Val := vM [.mk Qo (vN x.cB), .mk Qk (vN x.bY), .mk Q21 (vB x.dZ), .mk Qu (vN x.dn), .mk Q1q (vN x.eu), .mk Q1n (vB x.d9), .mk Qe (aU.enc x.aP)]
def JobS.dec (v : Val) : bQ × Bool := (bQ.mk ((bJ.mk eB eB eB 0 0 0 0 false 0 [] [] [] [])) (dN v Qo).1 (dN v Qu).1 (dN v Q1q).1 (dN v Qk).1 (dB v Q21).1 (dB v Q1n).1 (tD v Qe).1 (0) (0) (0) (0) (0) ([]) (0), isM v && (dN v Qo).2 && (dN v Qk).2 && (dB v Q21).2 && (dN v Qu).2 && (dN v Q1q).2 && (dB v Q1n).2 && (tD v Qe).2)
def JobS.cnt (v : Val) : Nat := pK 2 v Qo + pK 2 v Qu + pK 2 v Q1q + pK 2 v Qk + pK 1 v Q21 + pK 1 v Q1n + tC v Qe
def JobS.sm (x : bQ) : Prop := aU.sm x.aP ∧ True
def ay.encS (x : ay) : Val := vM [.mk Qk (vN x.bY), .mk Q2g (vN x.eP), .mk Qq (vN x.bS), .mk Q2x (vB x.fG), .mk Q24 (vB x.dY), .mk Qa (vN x.bD), .mk Q6 (vL (x.aR.map aj.enc)), .mk Q38 (aJ.enc x.eZ), .mk Qe (aU.enc x.aP), .mk Q15 (aJ.enc x.bO), .mk Q40 (vN x.gN)]
def ay.encT (x : ay) : Val := aO.enc x.aL
def ay.obj (x : ay) : aW := ⟨{ x.aG with kind := Q1k }, ay.encS x, ay.encT x⟩
def ay.of (o : aW) : ay := ay.mk o.aG (dN o.aS Qa).1 (dN o.aS Qq).1 (dN o.aS Q2g).1 (dN o.aS Qk).1 (dE aj.dec o.aS Q6).1 (tD o.aS Qe).1 (dB o.aS Q24).1 (dB o.aS Q2x).1 (dT aJ.dec o.aS Q38).1 (dT aJ.dec o.aS Q15).1 (dN o.aS Q40).1 (aO.dec o.aL).1
def ay.ok (o : aW) : Bool := sEq o.aG.kind Q1k && (isM o.aS && (isM o.aL && ((dN o.aS Qk).2 && ((dN o.aS Q2g).2 && ((dN o.aS Qq).2 && ((dB o.aS Q2x).2 && ((dB o.aS Q24).2 && ((dN o.aS Qa).2 && ((dE aj.dec o.aS Q6).2 && ((dT aJ.dec o.aS Q38).2 && ((tD o.aS Qe).2 && ((dT aJ.dec o.aS Q15).2 && ((dN o.aS Q40).2 && (aO.dec o.aL).2)))))))))))))
def ay.cnt (o : aW) : Nat := nb (sEq o.aG.kind Q1k) + cM o.aS + cM o.aL + pK 2 o.aS Qa + pK 2 o.aS Qq + pK 2 o.aS Q2g + pK 2 o.aS Qk + pE aj.cnt o.aS Q6 + tC o.aS Qe + pK 1 o.aS Q24 + pK 1 o.aS Q2x + (cM o.aS + aJ.cnt (prt o.aS Q38)) + (cM o.aS + aJ.cnt (prt o.aS Q15)) + pK 2 o.aS Q40 + aO.cnt o.aL
theorem ay.cnt0 (o : aW) : (ay.cnt o == 0) = ay.ok o := by
  unfold ay.cnt ay.ok
  simp only [add0, nb0, cM0, pN0, pE0 aj.cnt0, tC0, pB0, aJ.cnt0, aO.cnt0, dN, dB, dE, dT, Bool.and_assoc, Bool.and_left_comm, Bool.and_comm, Bool.and_self_left]
theorem ay.Q5i {o : aW} (h : Val.Sm 1000 o.aS ∧ Val.Sm 1000 o.aL) : ay.cnt o ≤ 1007045 := by
  have g0 := Q1c6 (sEq o.aG.kind Q1k)
  have g1 := Qdp 5 o.aS
  have g2 := Qdp 5 o.aL
  have g3 := Q4l 2 o.aS Qa
  have g4 := Q4l 2 o.aS Qq
  have g5 := Q4l 2 o.aS Q2g
  have g6 := Q4l 2 o.aS Qk
  have g7 := Q130 (c := aj.cnt) (K := 1007) (fun x hx => aj.Q5i hx) h.1 Q6
  have g8 := Q1s2 o.aS Qe
  have g9 := Q4l 1 o.aS Q24
  have g10 := Q4l 1 o.aS Q2x
  have g11 := aJ.Q5i (Q3d h.1 Q38)
  have g12 := aJ.Q5i (Q3d h.1 Q15)
  have g13 := Q4l 2 o.aS Q40
  have g14 := aO.Q5i h.2
  unfold ay.cnt cM
  omega
theorem ay.Q9b (x : ay) : prt (ay.encS x) Qa = vN x.bD := by kernel_rfl
theorem ay.Qfa (x : ay) : prt (ay.encS x) Qq = vN x.bS := by kernel_rfl
theorem ay.Q1j3 (x : ay) : prt (ay.encS x) Q2g = vN x.eP := by kernel_rfl
theorem ay.Qf9 (x : ay) : prt (ay.encS x) Qk = vN x.bY := by kernel_rfl
theorem ay.Q4m (x : ay) : prt (ay.encS x) Q6 = vL (x.aR.map aj.enc) := by kernel_rfl
theorem ay.Q9d (x : ay) : prt (ay.encS x) Qe = aU.enc x.aP := by kernel_rfl
theorem ay.Q1cd (x : ay) : prt (ay.encS x) Q24 = vB x.dY := by kernel_rfl
theorem ay.Q1nf (x : ay) : prt (ay.encS x) Q2x = vB x.fG := by kernel_rfl
theorem ay.Q1ru (x : ay) : prt (ay.encS x) Q38 = aJ.enc x.eZ := by kernel_rfl
theorem ay.Qy6 (x : ay) : prt (ay.encS x) Q15 = aJ.enc x.bO := by kernel_rfl
theorem ay.Q20h (x : ay) : prt (ay.encS x) Q40 = vN x.gN := by kernel_rfl
theorem ay.back (x : ay) : ay.of (ay.obj x) = ay.mk { x.aG with kind := Q1k } x.bD x.bS x.eP x.bY x.aR x.aP x.dY x.fG x.eZ x.bO x.gN x.aL ∧ ay.ok (ay.obj x) = true := by
  have h0 : dN (ay.encS x) Qa = (x.bD, true) := by unfold dN; rw [ay.Q9b]; rfl
  have h1 : dN (ay.encS x) Qq = (x.bS, true) := by unfold dN; rw [ay.Qfa]; rfl
  have h2 : dN (ay.encS x) Q2g = (x.eP, true) := by unfold dN; rw [ay.Q1j3]; rfl
  have h3 : dN (ay.encS x) Qk = (x.bY, true) := by unfold dN; rw [ay.Qf9]; rfl
  have h4 : dE aj.dec (ay.encS x) Q6 = (x.aR, true) := by unfold dE; rw [ay.Q4m]; exact Q5q aj.Q2i _
  have h5 : tD (ay.encS x) Qe = (x.aP, true) := by unfold tD; rw [ay.Q9d]; unfold Q13g; rw [aU.Q2i]; rfl
  have h6 : dB (ay.encS x) Q24 = (x.dY, true) := by unfold dB; rw [ay.Q1cd]; exact xB_b _
  have h7 : dB (ay.encS x) Q2x = (x.fG, true) := by unfold dB; rw [ay.Q1nf]; exact xB_b _
  have h8 : dT aJ.dec (ay.encS x) Q38 = (x.eZ, true) := by unfold dT; rw [ay.Q1ru]; exact aJ.Q2i _
  have h9 : dT aJ.dec (ay.encS x) Q15 = (x.bO, true) := by unfold dT; rw [ay.Qy6]; exact aJ.Q2i _
  have h10 : dN (ay.encS x) Q40 = (x.gN, true) := by unfold dN; rw [ay.Q20h]; rfl
  have h11 : aO.dec (ay.encT x) = (x.aL, true) := aO.Q2i _
  refine ⟨?_, ?_⟩
  · show ay.mk _ (dN (ay.encS x) Qa).1 (dN (ay.encS x) Qq).1 (dN (ay.encS x) Q2g).1 (dN (ay.encS x) Qk).1 (dE aj.dec (ay.encS x) Q6).1 (tD (ay.encS x) Qe).1 (dB (ay.encS x) Q24).1 (dB (ay.encS x) Q2x).1 (dT aJ.dec (ay.encS x) Q38).1 (dT aJ.dec (ay.encS x) Q15).1 (dN (ay.encS x) Q40).1 (aO.dec (ay.encT x)).1 = _
    rw [h0, h1, h2, h3, h4, h5, h6, h7, h8, h9, h10, h11]
    all_goals rfl
  · unfold ay.ok
    show (sEq Q1k Q1k && (true && (true && ((dN (ay.encS x) Qk).2 && ((dN (ay.encS x) Q2g).2 && ((dN (ay.encS x) Qq).2 && ((dB (ay.encS x) Q2x).2 && ((dB (ay.encS x) Q24).2 && ((dN (ay.encS x) Qa).2 && ((dE aj.dec (ay.encS x) Q6).2 && ((dT aJ.dec (ay.encS x) Q38).2 && ((tD (ay.encS x) Qe).2 && ((dT aJ.dec (ay.encS x) Q15).2 && ((dN (ay.encS x) Q40).2 && (aO.dec (ay.encT x)).2)))))))))))))) = true
    rw [h0, h1, h2, h3, h4, h5, h6, h7, h8, h9, h10, h11, Q4u.2 rfl]
    all_goals rfl
def ay.sm (x : ay) : Prop := LSm aj.sm x.aR ∧ aU.sm x.aP ∧ aJ.sm x.eZ ∧ aJ.sm x.bO ∧ aO.sm x.aL ∧ True
theorem ay.Qo9 {x : ay} (h : ay.sm x) : Val.Sm sB (ay.encS x) ∧ Val.Sm sB (ay.encT x) := ⟨Q9j (Nat.le_of_ble_eq_true rfl) (List.forall_mem_cons.2 ⟨Val.Sm.leaf 2 _ _, List.forall_mem_cons.2 ⟨Val.Sm.leaf 2 _ _, List.forall_mem_cons.2 ⟨Val.Sm.leaf 2 _ _, List.forall_mem_cons.2 ⟨Val.Sm.leaf 1 _ _, List.forall_mem_cons.2 ⟨Val.Sm.leaf 1 _ _, List.forall_mem_cons.2 ⟨Val.Sm.leaf 2 _ _, List.forall_mem_cons.2 ⟨Q2r (fun _ h => aj.Q1u h) h.1, List.forall_mem_cons.2 ⟨aJ.Q1u h.2.2.1, List.forall_mem_cons.2 ⟨aU.Q1u h.2.1, List.forall_mem_cons.2 ⟨aJ.Q1u h.2.2.2.1, List.forall_mem_cons.2 ⟨Val.Sm.leaf 2 _ _, fun _ h => by cases h⟩⟩⟩⟩⟩⟩⟩⟩⟩⟩⟩), aO.Q1u h.2.2.2.2.1⟩
def ay.R (o : aW) : ay × Int := bif ay.ok o then (ay.of o, 0) else ((ay.mk (bJ.mk eB eB eB 0 0 0 0 false 0 [] [] [] []) 0 0 0 0 [] (aU.mk [] (aY.mk eB 0 0 0 [] [] [] [] [] [])) false false (aJ.mk false 0) (aJ.mk false 0) 0 (aO.mk 0 0 0 0 0 0 false)), 6)
def ay.at (x : ay) : ay := ay.mk { x.aG with kind := Q1k } x.bD x.bS x.eP x.bY x.aR x.aP x.dY x.fG x.eZ x.bO x.gN x.aL
abbrev ay.z : ay := (ay.mk (bJ.mk eB eB eB 0 0 0 0 false 0 [] [] [] []) 0 0 0 0 [] (aU.mk [] (aY.mk eB 0 0 0 [] [] [] [] [] [])) false false (aJ.mk false 0) (aJ.mk false 0) 0 (aO.mk 0 0 0 0 0 0 false))
theorem ay.R_at (x : ay) : ay.R (ay.obj x) = (ay.at x, 0) := by
  unfold ay.R
  rw [(ay.back x).2, (ay.back x).1]
  rfl
theorem ay.rc {o : aW} (h : Val.Sm 1000 o.aS ∧ Val.Sm 1000 o.aL) : resC (ay.cnt o) (ay.of o) ay.z = ay.R o := by
  rw [Qya (Nat.le_trans (ay.Q5i h) (Nat.le_of_ble_eq_true rfl)), ay.cnt0]
  rfl
def aF.encS (x : aF) : Val := vM [.mk Qq (vN x.bS), .mk Qa (vN x.bD), .mk Q25 (vN x.dP), .mk Q6 (vL (x.aR.map aj.enc)), .mk Qe (aU.enc x.aP)]
def aF.encT (x : aF) : Val := aO.enc x.aL
def aF.obj (x : aF) : aW := ⟨{ x.aG with kind := Q1l }, aF.encS x, aF.encT x⟩
def aF.of (o : aW) : aF := aF.mk o.aG (dN o.aS Qa).1 (dN o.aS Qq).1 (dN o.aS Q25).1 (dE aj.dec o.aS Q6).1 (tD o.aS Qe).1 (aO.dec o.aL).1
def aF.ok (o : aW) : Bool := sEq o.aG.kind Q1l && (isM o.aS && (isM o.aL && ((dN o.aS Qq).2 && ((dN o.aS Qa).2 && ((dN o.aS Q25).2 && ((dE aj.dec o.aS Q6).2 && ((tD o.aS Qe).2 && (aO.dec o.aL).2)))))))
def aF.cnt (o : aW) : Nat := nb (sEq o.aG.kind Q1l) + cM o.aS + cM o.aL + pK 2 o.aS Qa + pK 2 o.aS Qq + pK 2 o.aS Q25 + pE aj.cnt o.aS Q6 + tC o.aS Qe + aO.cnt o.aL
theorem aF.cnt0 (o : aW) : (aF.cnt o == 0) = aF.ok o := by
  unfold aF.cnt aF.ok
  simp only [add0, nb0, cM0, pN0, pE0 aj.cnt0, tC0, aO.cnt0, dN, dE, Bool.and_assoc, Bool.and_left_comm, Bool.and_comm, Bool.and_self_left]
theorem aF.Q5i {o : aW} (h : Val.Sm 1000 o.aS ∧ Val.Sm 1000 o.aL) : aF.cnt o ≤ 1007027 := by
  have g0 := Q1c6 (sEq o.aG.kind Q1l)
  have g1 := Qdp 5 o.aS
  have g2 := Qdp 5 o.aL
  have g3 := Q4l 2 o.aS Qa
  have g4 := Q4l 2 o.aS Qq
  have g5 := Q4l 2 o.aS Q25
  have g6 := Q130 (c := aj.cnt) (K := 1007) (fun x hx => aj.Q5i hx) h.1 Q6
  have g7 := Q1s2 o.aS Qe
  have g8 := aO.Q5i h.2
  unfold aF.cnt cM
  omega
theorem aF.Q9b (x : aF) : prt (aF.encS x) Qa = vN x.bD := by kernel_rfl
theorem aF.Qfa (x : aF) : prt (aF.encS x) Qq = vN x.bS := by kernel_rfl
theorem aF.Q1ce (x : aF) : prt (aF.encS x) Q25 = vN x.dP := by kernel_rfl
theorem aF.Q4m (x : aF) : prt (aF.encS x) Q6 = vL (x.aR.map aj.enc) := by kernel_rfl
theorem aF.Q9d (x : aF) : prt (aF.encS x) Qe = aU.enc x.aP := by kernel_rfl
theorem aF.back (x : aF) : aF.of (aF.obj x) = aF.mk { x.aG with kind := Q1l } x.bD x.bS x.dP x.aR x.aP x.aL ∧ aF.ok (aF.obj x) = true := by
  have h0 : dN (aF.encS x) Qa = (x.bD, true) := by unfold dN; rw [aF.Q9b]; rfl
  have h1 : dN (aF.encS x) Qq = (x.bS, true) := by unfold dN; rw [aF.Qfa]; rfl
  have h2 : dN (aF.encS x) Q25 = (x.dP, true) := by unfold dN; rw [aF.Q1ce]; rfl
  have h3 : dE aj.dec (aF.encS x) Q6 = (x.aR, true) := by unfold dE; rw [aF.Q4m]; exact Q5q aj.Q2i _
  have h4 : tD (aF.encS x) Qe = (x.aP, true) := by unfold tD; rw [aF.Q9d]; unfold Q13g; rw [aU.Q2i]; rfl
  have h5 : aO.dec (aF.encT x) = (x.aL, true) := aO.Q2i _
  refine ⟨?_, ?_⟩
  · show aF.mk _ (dN (aF.encS x) Qa).1 (dN (aF.encS x) Qq).1 (dN (aF.encS x) Q25).1 (dE aj.dec (aF.encS x) Q6).1 (tD (aF.encS x) Qe).1 (aO.dec (aF.encT x)).1 = _
    rw [h0, h1, h2, h3, h4, h5]
    all_goals rfl
  · unfold aF.ok
    show (sEq Q1l Q1l && (true && (true && ((dN (aF.encS x) Qq).2 && ((dN (aF.encS x) Qa).2 && ((dN (aF.encS x) Q25).2 && ((dE aj.dec (aF.encS x) Q6).2 && ((tD (aF.encS x) Qe).2 && (aO.dec (aF.encT x)).2)))))))) = true
    rw [h0, h1, h2, h3, h4, h5, Q4u.2 rfl]
    all_goals rfl
def aF.sm (x : aF) : Prop := LSm aj.sm x.aR ∧ aU.sm x.aP ∧ aO.sm x.aL ∧ True
theorem aF.Qo9 {x : aF} (h : aF.sm x) : Val.Sm sB (aF.encS x) ∧ Val.Sm sB (aF.encT x) := ⟨Q9j (Nat.le_of_ble_eq_true rfl) (List.forall_mem_cons.2 ⟨Val.Sm.leaf 2 _ _, List.forall_mem_cons.2 ⟨Val.Sm.leaf 2 _ _, List.forall_mem_cons.2 ⟨Val.Sm.leaf 2 _ _, List.forall_mem_cons.2 ⟨Q2r (fun _ h => aj.Q1u h) h.1, List.forall_mem_cons.2 ⟨aU.Q1u h.2.1, fun _ h => by cases h⟩⟩⟩⟩⟩), aO.Q1u h.2.2.1⟩
def aF.R (o : aW) : aF × Int := bif aF.ok o then (aF.of o, 0) else ((aF.mk (bJ.mk eB eB eB 0 0 0 0 false 0 [] [] [] []) 0 0 0 [] (aU.mk [] (aY.mk eB 0 0 0 [] [] [] [] [] [])) (aO.mk 0 0 0 0 0 0 false)), 6)
def aF.at (x : aF) : aF := aF.mk { x.aG with kind := Q1l } x.bD x.bS x.dP x.aR x.aP x.aL
abbrev aF.z : aF := (aF.mk (bJ.mk eB eB eB 0 0 0 0 false 0 [] [] [] []) 0 0 0 [] (aU.mk [] (aY.mk eB 0 0 0 [] [] [] [] [] [])) (aO.mk 0 0 0 0 0 0 false))
theorem aF.R_at (x : aF) : aF.R (aF.obj x) = (aF.at x, 0) := by
  unfold aF.R
  rw [(aF.back x).2, (aF.back x).1]
  rfl
theorem aF.rc {o : aW} (h : Val.Sm 1000 o.aS ∧ Val.Sm 1000 o.aL) : resC (aF.cnt o) (aF.of o) aF.z = aF.R o := by
  rw [Qya (Nat.le_trans (aF.Q5i h) (Nat.le_of_ble_eq_true rfl)), aF.cnt0]
  rfl
def bQ.encS (x : bQ) : Val := vM [.mk Qo (vN x.cB), .mk Qk (vN x.bY), .mk Q21 (vB x.dZ), .mk Qu (vN x.dn), .mk Q1q (vN x.eu), .mk Q1n (vB x.d9), .mk Qe (aU.enc x.aP)]
def bQ.encT (x : bQ) : Val := vM [.mk Q2v (vN x.fB), .mk Q3y (vL (x.done.map vN)), .mk Q1h (vN x.bA), .mk Q23 (vN x.dU), .mk Q2z (vN x.fq), .mk Q2h (vN x.started), .mk Q1s (vN x.dK)]
def bQ.obj (x : bQ) : aW := ⟨{ x.aG with kind := Q3c }, bQ.encS x, bQ.encT x⟩
def bQ.of (o : aW) : bQ := bQ.mk o.aG (dN o.aS Qo).1 (dN o.aS Qu).1 (dN o.aS Q1q).1 (dN o.aS Qk).1 (dB o.aS Q21).1 (dB o.aS Q1n).1 (tD o.aS Qe).1 (dN o.aL Q2v).1 (dN o.aL Q1s).1 (dN o.aL Q1h).1 (dN o.aL Q2h).1 (dN o.aL Q23).1 (dE xN o.aL Q3y).1 (dN o.aL Q2z).1
def bQ.ok (o : aW) : Bool := sEq o.aG.kind Q3c && (isM o.aS && (isM o.aL && ((dN o.aS Qo).2 && ((dN o.aS Qk).2 && ((dB o.aS Q21).2 && ((dN o.aS Qu).2 && ((dN o.aS Q1q).2 && ((dB o.aS Q1n).2 && ((tD o.aS Qe).2 && ((dN o.aL Q2v).2 && ((dE xN o.aL Q3y).2 && ((dN o.aL Q1h).2 && ((dN o.aL Q23).2 && ((dN o.aL Q2z).2 && ((dN o.aL Q2h).2 && (dN o.aL Q1s).2)))))))))))))))
def bQ.cnt (o : aW) : Nat := nb (sEq o.aG.kind Q3c) + cM o.aS + cM o.aL + pK 2 o.aS Qo + pK 2 o.aS Qu + pK 2 o.aS Q1q + pK 2 o.aS Qk + pK 1 o.aS Q21 + pK 1 o.aS Q1n + tC o.aS Qe + pK 2 o.aL Q2v + pK 2 o.aL Q1s + pK 2 o.aL Q1h + pK 2 o.aL Q2h + pK 2 o.aL Q23 + pE (cK 2) o.aL Q3y + pK 2 o.aL Q2z
theorem bQ.cnt0 (o : aW) : (bQ.cnt o == 0) = bQ.ok o := by
  unfold bQ.cnt bQ.ok
  simp only [add0, nb0, cM0, pN0, pB0, tC0, pE0 kN, dN, dB, dE, Bool.and_assoc, Bool.and_left_comm, Bool.and_comm, Bool.and_self_left]
theorem bQ.Q5i {o : aW} (h : Val.Sm 1000 o.aS ∧ Val.Sm 1000 o.aL) : bQ.cnt o ≤ 1031 := by
  have g0 := Q1c6 (sEq o.aG.kind Q3c)
  have g1 := Qdp 5 o.aS
  have g2 := Qdp 5 o.aL
  have g3 := Q4l 2 o.aS Qo
  have g4 := Q4l 2 o.aS Qu
  have g5 := Q4l 2 o.aS Q1q
  have g6 := Q4l 2 o.aS Qk
  have g7 := Q4l 1 o.aS Q21
  have g8 := Q4l 1 o.aS Q1n
  have g9 := Q1s2 o.aS Qe
  have g10 := Q4l 2 o.aL Q2v
  have g11 := Q4l 2 o.aL Q1s
  have g12 := Q4l 2 o.aL Q1h
  have g13 := Q4l 2 o.aL Q2h
  have g14 := Q4l 2 o.aL Q23
  have g15 := Q130 (c := (cK 2)) (K := 1) (fun x hx => Qdp _ _) h.2 Q3y
  have g16 := Q4l 2 o.aL Q2z
  unfold bQ.cnt cM
  omega
theorem bQ.Qy2 (x : bQ) : prt (bQ.encS x) Qo = vN x.cB := by kernel_rfl
theorem bQ.Qy4 (x : bQ) : prt (bQ.encS x) Qu = vN x.dn := by kernel_rfl
theorem bQ.Q1j9 (x : bQ) : prt (bQ.encS x) Q1q = vN x.eu := by kernel_rfl
theorem bQ.Qf9 (x : bQ) : prt (bQ.encS x) Qk = vN x.bY := by kernel_rfl
theorem bQ.Q1j4 (x : bQ) : prt (bQ.encS x) Q21 = vB x.dZ := by kernel_rfl
theorem bQ.Q14m (x : bQ) : prt (bQ.encS x) Q1n = vB x.d9 := by kernel_rfl
theorem bQ.Q9d (x : bQ) : prt (bQ.encS x) Qe = aU.enc x.aP := by kernel_rfl
theorem bQ.Q1nb (x : bQ) : prt (bQ.encT x) Q2v = vN x.fB := by kernel_rfl
theorem bQ.Q14l (x : bQ) : prt (bQ.encT x) Q1s = vN x.dK := by kernel_rfl
theorem bQ.Qy3 (x : bQ) : prt (bQ.encT x) Q1h = vN x.bA := by kernel_rfl
theorem bQ.Q1jb (x : bQ) : prt (bQ.encT x) Q2h = vN x.started := by kernel_rfl
theorem bQ.Q1c9 (x : bQ) : prt (bQ.encT x) Q23 = vN x.dU := by kernel_rfl
theorem bQ.Q20c (x : bQ) : prt (bQ.encT x) Q3y = vL (x.done.map vN) := by kernel_rfl
theorem bQ.Q1nh (x : bQ) : prt (bQ.encT x) Q2z = vN x.fq := by kernel_rfl
theorem bQ.back (x : bQ) : bQ.of (bQ.obj x) = bQ.mk { x.aG with kind := Q3c } x.cB x.dn x.eu x.bY x.dZ x.d9 x.aP x.fB x.dK x.bA x.started x.dU x.done x.fq ∧ bQ.ok (bQ.obj x) = true := by
  have h0 : dN (bQ.encS x) Qo = (x.cB, true) := by unfold dN; rw [bQ.Qy2]; rfl
  have h1 : dN (bQ.encS x) Qu = (x.dn, true) := by unfold dN; rw [bQ.Qy4]; rfl
  have h2 : dN (bQ.encS x) Q1q = (x.eu, true) := by unfold dN; rw [bQ.Q1j9]; rfl
  have h3 : dN (bQ.encS x) Qk = (x.bY, true) := by unfold dN; rw [bQ.Qf9]; rfl
  have h4 : dB (bQ.encS x) Q21 = (x.dZ, true) := by unfold dB; rw [bQ.Q1j4]; exact xB_b _
  have h5 : dB (bQ.encS x) Q1n = (x.d9, true) := by unfold dB; rw [bQ.Q14m]; exact xB_b _
  have h6 : tD (bQ.encS x) Qe = (x.aP, true) := by unfold tD; rw [bQ.Q9d]; unfold Q13g; rw [aU.Q2i]; rfl
  have h7 : dN (bQ.encT x) Q2v = (x.fB, true) := by unfold dN; rw [bQ.Q1nb]; rfl
  have h8 : dN (bQ.encT x) Q1s = (x.dK, true) := by unfold dN; rw [bQ.Q14l]; rfl
  have h9 : dN (bQ.encT x) Q1h = (x.bA, true) := by unfold dN; rw [bQ.Qy3]; rfl
  have h10 : dN (bQ.encT x) Q2h = (x.started, true) := by unfold dN; rw [bQ.Q1jb]; rfl
  have h11 : dN (bQ.encT x) Q23 = (x.dU, true) := by unfold dN; rw [bQ.Q1c9]; rfl
  have h12 : dE xN (bQ.encT x) Q3y = (x.done, true) := by unfold dE; rw [bQ.Q20c]; exact Q5q (fun _ => rfl) _
  have h13 : dN (bQ.encT x) Q2z = (x.fq, true) := by unfold dN; rw [bQ.Q1nh]; rfl
  refine ⟨?_, ?_⟩
  · show bQ.mk _ (dN (bQ.encS x) Qo).1 (dN (bQ.encS x) Qu).1 (dN (bQ.encS x) Q1q).1 (dN (bQ.encS x) Qk).1 (dB (bQ.encS x) Q21).1 (dB (bQ.encS x) Q1n).1 (tD (bQ.encS x) Qe).1 (dN (bQ.encT x) Q2v).1 (dN (bQ.encT x) Q1s).1 (dN (bQ.encT x) Q1h).1 (dN (bQ.encT x) Q2h).1 (dN (bQ.encT x) Q23).1 (dE xN (bQ.encT x) Q3y).1 (dN (bQ.encT x) Q2z).1 = _
    rw [h0, h1, h2, h3, h4, h5, h6, h7, h8, h9, h10, h11, h12, h13]
    all_goals rfl
  · unfold bQ.ok
    show (sEq Q3c Q3c && (true && (true && ((dN (bQ.encS x) Qo).2 && ((dN (bQ.encS x) Qk).2 && ((dB (bQ.encS x) Q21).2 && ((dN (bQ.encS x) Qu).2 && ((dN (bQ.encS x) Q1q).2 && ((dB (bQ.encS x) Q1n).2 && ((tD (bQ.encS x) Qe).2 && ((dN (bQ.encT x) Q2v).2 && ((dE xN (bQ.encT x) Q3y).2 && ((dN (bQ.encT x) Q1h).2 && ((dN (bQ.encT x) Q23).2 && ((dN (bQ.encT x) Q2z).2 && ((dN (bQ.encT x) Q2h).2 && (dN (bQ.encT x) Q1s).2)))))))))))))))) = true
    rw [h0, h1, h2, h3, h4, h5, h6, h7, h8, h9, h10, h11, h12, h13, Q4u.2 rfl]
    all_goals rfl
def bQ.sm (x : bQ) : Prop := aU.sm x.aP ∧ LSm (fun _ : Int => True) x.done ∧ True
theorem bQ.Qo9 {x : bQ} (h : bQ.sm x) : Val.Sm sB (bQ.encS x) ∧ Val.Sm sB (bQ.encT x) := ⟨Q9j (Nat.le_of_ble_eq_true rfl) (List.forall_mem_cons.2 ⟨Val.Sm.leaf 2 _ _, List.forall_mem_cons.2 ⟨Val.Sm.leaf 2 _ _, List.forall_mem_cons.2 ⟨Val.Sm.leaf 1 _ _, List.forall_mem_cons.2 ⟨Val.Sm.leaf 2 _ _, List.forall_mem_cons.2 ⟨Val.Sm.leaf 2 _ _, List.forall_mem_cons.2 ⟨Val.Sm.leaf 1 _ _, List.forall_mem_cons.2 ⟨aU.Q1u h.1, fun _ h => by cases h⟩⟩⟩⟩⟩⟩⟩), Q9j (Nat.le_of_ble_eq_true rfl) (List.forall_mem_cons.2 ⟨Val.Sm.leaf 2 _ _, List.forall_mem_cons.2 ⟨Q2r (fun _ h => Val.Sm.leaf _ _ _) h.2.1, List.forall_mem_cons.2 ⟨Val.Sm.leaf 2 _ _, List.forall_mem_cons.2 ⟨Val.Sm.leaf 2 _ _, List.forall_mem_cons.2 ⟨Val.Sm.leaf 2 _ _, List.forall_mem_cons.2 ⟨Val.Sm.leaf 2 _ _, List.forall_mem_cons.2 ⟨Val.Sm.leaf 2 _ _, fun _ h => by cases h⟩⟩⟩⟩⟩⟩⟩)⟩
def bQ.R (o : aW) : bQ × Int := bif bQ.ok o then (bQ.of o, 0) else ((bQ.mk (bJ.mk eB eB eB 0 0 0 0 false 0 [] [] [] []) 0 0 0 0 false false (aU.mk [] (aY.mk eB 0 0 0 [] [] [] [] [] [])) 0 0 0 0 0 [] 0), 6)
def bQ.at (x : bQ) : bQ := bQ.mk { x.aG with kind := Q3c } x.cB x.dn x.eu x.bY x.dZ x.d9 x.aP x.fB x.dK x.bA x.started x.dU x.done x.fq
abbrev bQ.z : bQ := (bQ.mk (bJ.mk eB eB eB 0 0 0 0 false 0 [] [] [] []) 0 0 0 0 false false (aU.mk [] (aY.mk eB 0 0 0 [] [] [] [] [] [])) 0 0 0 0 0 [] 0)
theorem bQ.R_at (x : bQ) : bQ.R (bQ.obj x) = (bQ.at x, 0) := by
  unfold bQ.R
  rw [(bQ.back x).2, (bQ.back x).1]
  rfl
theorem bQ.rc {o : aW} (h : Val.Sm 1000 o.aS ∧ Val.Sm 1000 o.aL) : resC (bQ.cnt o) (bQ.of o) bQ.z = bQ.R o := by
  rw [Qya (Nat.le_trans (bQ.Q5i h) (Nat.le_of_ble_eq_true rfl)), bQ.cnt0]
  rfl
def aQ.encS (x : aQ) : Val := vM [.mk Q10 (vL (x.bM.map aJ.enc)), .mk Q16 (vL (x.bX.map aJ.enc)), .mk Q6 (vL (x.aR.map aj.enc))]
def aQ.encT (x : aQ) : Val := vM [.mk Q2d (vN x.eD), .mk Q2e (vN x.eF), .mk Q1r (vL (x.bN.map aK.enc)), .mk Q22 (vN x.dX), .mk Q2f (vN x.eO), .mk Ql (vN x.bV)]
def aQ.obj (x : aQ) : aW := ⟨{ x.aG with kind := Q2u }, aQ.encS x, aQ.encT x⟩
def aQ.of (o : aW) : aQ := aQ.mk o.aG (dE aj.dec o.aS Q6).1 (dE aJ.dec o.aS Q16).1 (dE aJ.dec o.aS Q10).1 (dN o.aL Ql).1 (dN o.aL Q2f).1 (dN o.aL Q2e).1 (dN o.aL Q22).1 (dN o.aL Q2d).1 (dE aK.dec o.aL Q1r).1
def aQ.ok (o : aW) : Bool := sEq o.aG.kind Q2u && (isM o.aS && (isM o.aL && ((dE aJ.dec o.aS Q10).2 && ((dE aJ.dec o.aS Q16).2 && ((dE aj.dec o.aS Q6).2 && ((dN o.aL Q2d).2 && ((dN o.aL Q2e).2 && ((dE aK.dec o.aL Q1r).2 && ((dN o.aL Q22).2 && ((dN o.aL Q2f).2 && (dN o.aL Ql).2))))))))))
def aQ.cnt (o : aW) : Nat := nb (sEq o.aG.kind Q2u) + cM o.aS + cM o.aL + pE aj.cnt o.aS Q6 + pE aJ.cnt o.aS Q16 + pE aJ.cnt o.aS Q10 + pK 2 o.aL Ql + pK 2 o.aL Q2f + pK 2 o.aL Q2e + pK 2 o.aL Q22 + pK 2 o.aL Q2d + pE aK.cnt o.aL Q1r
theorem aQ.cnt0 (o : aW) : (aQ.cnt o == 0) = aQ.ok o := by
  unfold aQ.cnt aQ.ok
  simp only [add0, nb0, cM0, pE0 aj.cnt0, pE0 aJ.cnt0, pN0, pE0 aK.cnt0, dN, dE, Bool.and_assoc, Bool.and_left_comm, Bool.and_comm, Bool.and_self_left]
theorem aQ.Q5i {o : aW} (h : Val.Sm 1000 o.aS ∧ Val.Sm 1000 o.aL) : aQ.cnt o ≤ 1019021 := by
  have g0 := Q1c6 (sEq o.aG.kind Q2u)
  have g1 := Qdp 5 o.aS
  have g2 := Qdp 5 o.aL
  have g3 := Q130 (c := aj.cnt) (K := 1007) (fun x hx => aj.Q5i hx) h.1 Q6
  have g4 := Q130 (c := aJ.cnt) (K := 4) (fun x hx => aJ.Q5i hx) h.1 Q16
  have g5 := Q130 (c := aJ.cnt) (K := 4) (fun x hx => aJ.Q5i hx) h.1 Q10
  have g6 := Q4l 2 o.aL Ql
  have g7 := Q4l 2 o.aL Q2f
  have g8 := Q4l 2 o.aL Q2e
  have g9 := Q4l 2 o.aL Q22
  have g10 := Q4l 2 o.aL Q2d
  have g11 := Q130 (c := aK.cnt) (K := 4) (fun x hx => aK.Q5i hx) h.2 Q1r
  unfold aQ.cnt cM
  omega
theorem aQ.Q4m (x : aQ) : prt (aQ.encS x) Q6 = vL (x.aR.map aj.enc) := by kernel_rfl
theorem aQ.Qp6 (x : aQ) : prt (aQ.encS x) Q16 = vL (x.bX.map aJ.enc) := by kernel_rfl
theorem aQ.Qg7 (x : aQ) : prt (aQ.encS x) Q10 = vL (x.bM.map aJ.enc) := by kernel_rfl
theorem aQ.Qfb (x : aQ) : prt (aQ.encT x) Ql = vN x.bV := by kernel_rfl
theorem aQ.Q1j2 (x : aQ) : prt (aQ.encT x) Q2f = vN x.eO := by kernel_rfl
theorem aQ.Q1iz (x : aQ) : prt (aQ.encT x) Q2e = vN x.eF := by kernel_rfl
theorem aQ.Q1c8 (x : aQ) : prt (aQ.encT x) Q22 = vN x.dX := by kernel_rfl
theorem aQ.Q1iy (x : aQ) : prt (aQ.encT x) Q2d = vN x.eD := by kernel_rfl
theorem aQ.Q14h (x : aQ) : prt (aQ.encT x) Q1r = vL (x.bN.map aK.enc) := by kernel_rfl
theorem aQ.back (x : aQ) : aQ.of (aQ.obj x) = aQ.mk { x.aG with kind := Q2u } x.aR x.bX x.bM x.bV x.eO x.eF x.dX x.eD x.bN ∧ aQ.ok (aQ.obj x) = true := by
  have h0 : dE aj.dec (aQ.encS x) Q6 = (x.aR, true) := by unfold dE; rw [aQ.Q4m]; exact Q5q aj.Q2i _
  have h1 : dE aJ.dec (aQ.encS x) Q16 = (x.bX, true) := by unfold dE; rw [aQ.Qp6]; exact Q5q aJ.Q2i _
  have h2 : dE aJ.dec (aQ.encS x) Q10 = (x.bM, true) := by unfold dE; rw [aQ.Qg7]; exact Q5q aJ.Q2i _
  have h3 : dN (aQ.encT x) Ql = (x.bV, true) := by unfold dN; rw [aQ.Qfb]; rfl
  have h4 : dN (aQ.encT x) Q2f = (x.eO, true) := by unfold dN; rw [aQ.Q1j2]; rfl
  have h5 : dN (aQ.encT x) Q2e = (x.eF, true) := by unfold dN; rw [aQ.Q1iz]; rfl
  have h6 : dN (aQ.encT x) Q22 = (x.dX, true) := by unfold dN; rw [aQ.Q1c8]; rfl
  have h7 : dN (aQ.encT x) Q2d = (x.eD, true) := by unfold dN; rw [aQ.Q1iy]; rfl
  have h8 : dE aK.dec (aQ.encT x) Q1r = (x.bN, true) := by unfold dE; rw [aQ.Q14h]; exact Q5q aK.Q2i _
  refine ⟨?_, ?_⟩
  · show aQ.mk _ (dE aj.dec (aQ.encS x) Q6).1 (dE aJ.dec (aQ.encS x) Q16).1 (dE aJ.dec (aQ.encS x) Q10).1 (dN (aQ.encT x) Ql).1 (dN (aQ.encT x) Q2f).1 (dN (aQ.encT x) Q2e).1 (dN (aQ.encT x) Q22).1 (dN (aQ.encT x) Q2d).1 (dE aK.dec (aQ.encT x) Q1r).1 = _
    rw [h0, h1, h2, h3, h4, h5, h6, h7, h8]
    all_goals rfl
  · unfold aQ.ok
    show (sEq Q2u Q2u && (true && (true && ((dE aJ.dec (aQ.encS x) Q10).2 && ((dE aJ.dec (aQ.encS x) Q16).2 && ((dE aj.dec (aQ.encS x) Q6).2 && ((dN (aQ.encT x) Q2d).2 && ((dN (aQ.encT x) Q2e).2 && ((dE aK.dec (aQ.encT x) Q1r).2 && ((dN (aQ.encT x) Q22).2 && ((dN (aQ.encT x) Q2f).2 && (dN (aQ.encT x) Ql).2))))))))))) = true
    rw [h0, h1, h2, h3, h4, h5, h6, h7, h8, Q4u.2 rfl]
    all_goals rfl
def aQ.sm (x : aQ) : Prop := LSm aj.sm x.aR ∧ LSm aJ.sm x.bX ∧ LSm aJ.sm x.bM ∧ LSm aK.sm x.bN ∧ True
theorem aQ.Qo9 {x : aQ} (h : aQ.sm x) : Val.Sm sB (aQ.encS x) ∧ Val.Sm sB (aQ.encT x) := ⟨Q9j (Nat.le_of_ble_eq_true rfl) (List.forall_mem_cons.2 ⟨Q2r (fun _ h => aJ.Q1u h) h.2.2.1, List.forall_mem_cons.2 ⟨Q2r (fun _ h => aJ.Q1u h) h.2.1, List.forall_mem_cons.2 ⟨Q2r (fun _ h => aj.Q1u h) h.1, fun _ h => by cases h⟩⟩⟩), Q9j (Nat.le_of_ble_eq_true rfl) (List.forall_mem_cons.2 ⟨Val.Sm.leaf 2 _ _, List.forall_mem_cons.2 ⟨Val.Sm.leaf 2 _ _, List.forall_mem_cons.2 ⟨Q2r (fun _ h => aK.Q1u h) h.2.2.2.1, List.forall_mem_cons.2 ⟨Val.Sm.leaf 2 _ _, List.forall_mem_cons.2 ⟨Val.Sm.leaf 2 _ _, List.forall_mem_cons.2 ⟨Val.Sm.leaf 2 _ _, fun _ h => by cases h⟩⟩⟩⟩⟩⟩)⟩
def aQ.R (o : aW) : aQ × Int := bif aQ.ok o then (aQ.of o, 0) else ((aQ.mk (bJ.mk eB eB eB 0 0 0 0 false 0 [] [] [] []) [] [] [] 0 0 0 0 0 []), 6)
def aQ.at (x : aQ) : aQ := aQ.mk { x.aG with kind := Q2u } x.aR x.bX x.bM x.bV x.eO x.eF x.dX x.eD x.bN
abbrev aQ.z : aQ := (aQ.mk (bJ.mk eB eB eB 0 0 0 0 false 0 [] [] [] []) [] [] [] 0 0 0 0 0 [])
theorem aQ.R_at (x : aQ) : aQ.R (aQ.obj x) = (aQ.at x, 0) := by
  unfold aQ.R
  rw [(aQ.back x).2, (aQ.back x).1]
  rfl
theorem aQ.rc {o : aW} (h : Val.Sm 1000 o.aS ∧ Val.Sm 1000 o.aL) : resC (aQ.cnt o) (aQ.of o) aQ.z = aQ.R o := by
  rw [Qya (Nat.le_trans (aQ.Q5i h) (Nat.le_of_ble_eq_true rfl)), aQ.cnt0]
  rfl
def aW.sm (x : aW) : Prop := Val.Sm sB x.aS ∧ Val.Sm sB x.aL
theorem Qy9 {α : Type} {n m : Nat} {x y z : α} (h : n = m) (g : x = y) : resC n x z = resC m y z := by rw [h, g]
theorem Qag {p q : List Fld} (hp : p.length ≤ 20) (h : mapOf p = q) : Q4n p = vM q := by rw [vmap hp, h]
theorem getL (x : Val) : (bif x.kind == 4 then x else vZ).list = (xL x).1 := by
  unfold xL
  cases (x.kind == 4) <;> rfl
theorem getN (x : Val) : (bif x.kind == 2 then x else vZ).n = (xN x).1 := by
  unfold xN
  cases (x.kind == 2) <;> rfl
theorem getS (x : Val) : (bif x.kind == 3 then x else vZ).s = (xS x).1 := by
  unfold xS
  cases (x.kind == 3) <;> rfl
theorem getB (x : Val) : (!((bif x.kind == 1 then x else vZ).n == 0)) = (xB x).1 := by
  unfold xB
  cases (x.kind == 1) <;> rfl
end Go.Proofs.YtimjjohlpnkacaaGreat
end

section
/- Metadata that are copied (printed by a program). -/
namespace Go.Proofs.YtimjjohlpnkacaaGreat
open Go.Pv
def Q186 (p0 : bJ) : List bB → Nat → Unit
 | [], _i0 =>
  ()
 | _x0 :: r0, i0 =>
  Q186 p0 r0 (i0 + 1)
def Q1g0 (p0 : bJ) (i0 : Nat) : List PV :=
  [.un, .bx 0 0, .bx 1 0] ++ nuns 19 ++ [.ms 2 2 0 (List.length p0.aZ), iN ((List.length p0.aZ) : Int), iN (i0 : Int)] ++ nuns 14
def Qzn (p0 : bJ) (_i0 : Nat) : List Ob :=
  [⟨13, 0, true, [.str p0.kind, .str p0.bK, .str p0.name, iN p0.gM, iN p0.dA, iN p0.bR, iN p0.dz, .bool p0.dh, iN p0.cZ, .sl (aX.rows p0.bH), .sl (cu.rows p0.bT), .sl (Q18 p0.bF), .ms 2 2 0 (List.length p0.aZ)]⟩, ⟨13, 0, true, [.str eB, .str eB, .str eB, iN 0, iN 0, iN 0, iN 0, .bool false, iN 0, .ms 3 2 0 0, .ms 4 5 0 0, .ms 5 1 0 0, .ms 6 2 0 0]⟩, ⟨2, 0, true, (bB.rows p0.aZ).flatten⟩, ⟨2, 0, true, []⟩, ⟨5, 0, true, []⟩, ⟨1, 0, true, []⟩, ⟨2, 0, true, []⟩]
def Qha (p0 : bJ) (i0 : Nat) : En := .loop 0 Ir.Qlc Ir.Q1pa (Q1g0 p0 i0) (Qzn p0 i0)
def Qrn (p0 : bJ) (z : Nat → PV) (_zo : Nat → List PV) : St :=
  ⟨[z 0, .bx 0 0, .bx 1 0] ++ zr z 3 36, [(0, ⟨13, 0, true, [.str p0.kind, .str p0.bK, .str p0.name, iN p0.gM, iN p0.dA, iN p0.bR, iN p0.dz, .bool p0.dh, iN p0.cZ, .sl (aX.rows p0.bH), .sl (cu.rows p0.bT), .sl (Q18 p0.bF), .ms 2 2 0 (List.length p0.aZ)]⟩), (1, ⟨13, 0, true, [.str eB, .str eB, .str eB, iN 0, iN 0, iN 0, iN 0, .bool false, iN 0, .ms 3 2 0 0, .ms 4 5 0 0, .ms 5 1 0 0, .ms 6 2 0 0]⟩), (2, ⟨2, 0, true, (bB.rows p0.aZ).flatten⟩), (3, ⟨2, 0, true, []⟩), (4, ⟨5, 0, true, []⟩), (5, ⟨1, 0, true, []⟩), (6, ⟨2, 0, true, []⟩)], 71⟩
theorem Q16j (p0 : bJ) (i0 : Nat) : VOK (Go.Pv.look (number 0 (Qzn p0 i0))) [(2, bB.rows p0.aZ)] := (VOK.cons (show Seen _ _ from Q3o (ob := ⟨2, 0, true, (bB.rows p0.aZ).flatten⟩) (bB.Q7 p0.aZ 2 rfl)) VOK.nil)
def Qbu (p0 : bJ) (e : En) (_q : Unit) : Prop := ∃ z zo, Q0 G e (.st (.exit 0) (Qrn p0 z zo))
theorem Qwh (p0 : bJ) {e e' : En} (h : ∀ r, Q0 G e r → Q0 G e' r) : ∀ q, Qbu p0 e q → Qbu p0 e' q
  | _, ⟨z, zo, hz⟩ => ⟨z, zo, h _ hz⟩
def Qic (p0 : bJ) : Prop := (List.length p0.aZ ≤ 4611686018427387904) ∧ (∀ x0 ∈ p0.aZ, List.length x0.fields * 16 ≤ 140737488355328) ∧ True
def Qti (p0 : bJ) (i0 : Nat) : List PV :=
  nuns 22 ++ [.ms 2 2 0 (List.length p0.aZ), iN ((List.length p0.aZ) : Int), iN (i0 : Int), .bool false]
def Qn8 (_p0 : bJ) (_i0 : Nat) : List (Nat × List PV) :=
  []
theorem Q1ek (p0 : bJ) (_H : Qic p0) (i0 : Nat) (bG : (decide ((i0 : Int) < ((List.length p0.aZ) : Int))) = false) : Qbu p0 (Qha p0 i0) () := by
 exact ⟨(envF (Qti p0 i0)), (zoF (Qn8 p0 i0)), Qd (Q16j p0 i0) (x := ((.exit 0), Qrn p0 (envF (Qti p0 i0)) (zoF (Qn8 p0 i0)))) [hB 0 bG] [] (by kernel_rfl)⟩
theorem Q1bv (p0 : bJ) (H : Qic p0) (x0 : bB) (i0 : Nat) (bU : p0.aZ[i0]? = some x0) (dG : i0 < List.length p0.aZ) (bG : (decide ((i0 : Int) < ((List.length p0.aZ) : Int))) = true) {r : Rs} (hr : Q0 G (Qha p0 (i0 + 1)) r) : Q0 G (Qha p0 i0) r := by
 have hB0 := H.1
 exact Qc (Q16j p0 i0) [hB 0 bG, hP 1 (Q5k 2 2 (List.length p0.aZ) (i0 : Int) i0 (by omega) (by omega) (by omega)), hP 0 (Qc4 2 2 0 true ((bB.rows p0.aZ).flatten) (bB.rows p0.aZ) 2 true i0 0 (i0 * 2) (bB.cells x0) (.agg [.str x0.name, .sl (Q18 x0.fields)]) rfl rfl (bB.Qg bU) (bB.Qh p0.aZ) (by decide) rfl), hP 9 (Q5k 2 2 (List.length p0.aZ) (i0 : Int) i0 (by omega) (by omega) (by omega)), hV 1 [(2, bB.rows p0.aZ)] (Q1kf 2 2 true ((bB.rows p0.aZ).flatten) (bB.rows p0.aZ) (bB.rows p0.aZ) 1 i0 1 (i0 * 2 + 1) _ (.sl (Q18 x0.fields)) rfl rfl (bB.Qg bU) (bB.Qh p0.aZ) (by decide) rfl rfl (Q157 (bB.Qg bU))), hS 0 true (bB.Q7 p0.aZ 2 rfl), hP 0 (Q26 i0 (by omega))] [aN (Q8n (G := G) (f := 177) (sz := 1) (bytes := 16) rfl (Q2s x0.fields) (Q4y x0.fields 1 rfl) (H.2.1 x0 (Q2l bU)))] hr (by kernel_rfl)
theorem Q12j (p0 : bJ) (H : Qic p0) : ∀ (r0 : List bB) (i0 : Nat), List.drop i0 p0.aZ = r0 → Qbu p0 (Qha p0 i0) (Q186 p0 r0 i0)
 | [], i0, hd => by
  have bG : (decide ((i0 : Int) < ((List.length p0.aZ) : Int))) = false := by have := Q1c hd; simp; omega
  show Qbu p0 _ ()
  exact Q1ek p0 H i0 bG
 | x0 :: r0, i0, hd => by
  obtain ⟨bU, dG, hd'⟩ := Q19 hd
  have bG : (decide ((i0 : Int) < ((List.length p0.aZ) : Int))) = true := by simp; omega
  show Qbu p0 _ ()
  exact Qwh p0 (fun r hr => Q1bv p0 H x0 i0 bU dG bG hr) _ (Q12j p0 H r0 _ hd')
def Q20s (p0 : bJ) : bJ := p0
theorem Q2b4 (p0 : bJ) : Q20s p0 = (p0) := by
  rfl
def Q28n (p0 : bJ) : En := .call 70 [.agg (bJ.cells p0)] []
def Q1yo (p0 : bJ) : Rs := .ret (.agg (bJ.cells (Q20s p0))) []
def Qcb (p0 : bJ) : Prop := (List.length p0.bH * 32 ≤ 140737488355328) ∧ (List.length p0.bT * 48 ≤ 140737488355328) ∧ (List.length p0.bF * 16 ≤ 140737488355328) ∧ (List.length p0.aZ * 40 ≤ 140737488355328) ∧ (Qic p0) ∧ True
theorem Q1ki (p0 : bJ) (H : Qcb p0) : Q0 G (Q28n p0) (Q1yo p0) := by
 unfold Q1yo
 rw [Q2b4]
 have hl0 := Q12j p0 (H.2.2.2.2.1) p0.aZ 0 (by simp)
 obtain ⟨z0, gq, hl0⟩ := hl0
 exact Q5 (fn := Ir.K5z) (by kernel_rfl) VOK.nil [hQ (bB.Q7 p0.aZ 2 rfl), hS 0 true (bB.Q7 p0.aZ 2 rfl), hQ (bB.Q8 p0.aZ).symm] [aN (Q8n (G := G) (f := 175) (sz := 2) (bytes := 32) rfl (aX.Q8 p0.bH) (aX.Q7 p0.bH 2 rfl) H.1), aN (Q8n (G := G) (f := 176) (sz := 5) (bytes := 48) rfl (cu.Q8 p0.bT) (cu.Q7 p0.bT 5 rfl) H.2.1), aN (Q8n (G := G) (f := 177) (sz := 1) (bytes := 16) rfl (Q2s p0.bF) (Q4y p0.bF 1 rfl) H.2.2.1), aV [(0, bB.rows p0.aZ)] (Qaf (G := G) (f := 178) (sz := 2) (bytes := 40) rfl (bB.Q8 p0.aZ) (bB.Q7 p0.aZ 2 rfl) H.2.2.2.1), aV [(2, bB.rows p0.aZ)] hl0] (by kernel_rfl)
end Go.Proofs.YtimjjohlpnkacaaGreat
end

section
/- What the encoders of templates compute (printed by a program). -/
namespace Go.Proofs.YtimjjohlpnkacaaGreat
open Go.Pv
def Q3b (p0 : BA) : Val :=
 (Val.mk 3 0 p0 [] [])
def Q28b (p0 : BA) : En := .call 193 [.str p0] []
def Q1yc (p0 : BA) : Rs := .ret (.agg (Val.cells (Q3b p0))) []
theorem Qfj (p0 : BA) : Q0 G (Q28b p0) (Q1yc p0) := by
 unfold Q1yc Q3b
 exact Q5 (fn := Ir.K52) (by kernel_rfl) VOK.nil [] [] (by kernel_rfl)
def Qr (p0 : BA) (p1 : Val) : Fld :=
 (Fld.mk p0 p1)
def Q272 (p0 : BA) (p1 : Val) : En := .call 226 [.str p0, .agg (Val.cells p1)] []
def Q1x1 (p0 : BA) (p1 : Val) : Rs := .ret (.agg (Fld.cells (Qr p0 p1))) []
theorem Q44 (p0 : BA) (p1 : Val) : Q0 G (Q272 p0 p1) (Q1x1 p0 p1) := by
 unfold Q1x1 Qr
 exact Q5 (fn := Ir.K1b) (by kernel_rfl) VOK.nil [] [] (by kernel_rfl)
def Q14v (p0 : aX) : Val := aX.enc p0
theorem Q29q (p0 : aX) : Q14v p0 = ((Q4n ([(Qr Q13 (Q3b p0.key)), (Qr Q1p (Q3b p0.value))]))) := by
  exact Eq.symm (Q6r (by exact Nat.le_of_ble_eq_true rfl) (by kernel_rfl))
def Q26t (p0 : aX) : En := .call 228 [.agg (aX.cells p0)] []
def Q1ws (p0 : aX) : Rs := .ret (.agg (Val.cells (Q14v p0))) []
def Q1q7 (p0 : aX) : Prop := aX.sm p0
theorem Q1m3 (p0 : aX) (H : Q1q7 p0) : (Q83 ([(Qr Q13 (Q3b p0.key)), (Qr Q1p (Q3b p0.value))])) ∧ True := by
  repeat' with_reducible apply And.intro
  all_goals first | exact True.intro | exact H | exact H.1 | exact H.2.1 | exact H.2.2.1 | exact H.2.2.2.1 | exact H.2.2.2.2.1 | exact H.2.2.2.2.2.1 | exact H.2.2.2.2.2.2.1 | exact H.2.2.2.2.2.2.2.1 | exact H.2.2.2.2.2.2.2.2.1 | exact H.2.2.2.2.2.2.2.2.2.1 | exact H.2.2.2.2.2.2.2.2.2.2.1 | exact H.2.2.2.2.2.2.2.2.2.2.2.1 | exact Q8p (by exact Nat.le_of_ble_eq_true rfl) (aX.Q1u H).all.2.2.2
theorem Q2d0 (p0 : aX) (H : Q1q7 p0) : Q0 G (Q26t p0) (Q1ws p0) := by
 unfold Q1ws
 rw [Q29q]
 exact Q5 (fn := Ir.K12) (by kernel_rfl) VOK.nil [] [aN (Qfj p0.key), aN (Q44 Q13 (Q3b p0.key)), aN (Qfj p0.value), aN (Q44 Q1p (Q3b p0.value)), aN (Q4o (e' := .call 78 [.sl [(Fld.cells (Qr Q13 (Q3b p0.key))), (Fld.cells (Qr Q1p (Q3b p0.value)))]] []) (Q93 ([(Qr Q13 (Q3b p0.key)), (Qr Q1p (Q3b p0.value))]) (Q1m3 p0 H).1) (by simp only [Q8c, Fld.Qm, Fld.Q11]))] (by kernel_rfl)
def Q4z (p0 : List aX) : List aX → Nat → (List Val) → List Val
 | [], _i0, ah =>
  ah
 | x0 :: r0, i0, ah =>
  Q4z p0 r0 (i0 + 1) (ah ++ [(Q14v x0)])
theorem Qxp (p0 : List aX) : ∀ (l : List aX) (i : Nat) (a : List Val), Q4z p0 l i a = a ++ l.map (fun x0 => (Q14v x0))
  | [], _, _ => by simp [Q4z]
  | x :: r, i, a => by rw [Q4z, Qxp p0 r]; simp
def Q1ex (p0 : List aX) (i0 : Nat) (ah : List Val) : List PV :=
  [.un, .fn 228 [] [], .un, .un, .bx 0 0, .ms 1 5 0 (List.length ah), .un, .un, .sl (aX.rows p0), iN ((List.length p0) : Int), iN (i0 : Int)] ++ nuns 12
def Qyt (_p0 : List aX) (_i0 : Nat) (ah : List Val) : List Ob :=
  [⟨5, 0, true, [iN 0, iN 0, .str eB, .ms 2 5 0 0, .ms 3 6 0 0]⟩, ⟨5, 0, true, (Val.rows ah).flatten⟩, ⟨5, 0, true, []⟩, ⟨6, 0, true, []⟩]
def Qgf (p0 : List aX) (i0 : Nat) (ah : List Val) : En := .loop 0 Ir.Qk9 Ir.Q1o7 (Q1ex p0 i0 ah) (Qyt p0 i0 ah)
def Qqm (_p0 : List aX) (q0 : List Val) (z : Nat → PV) (_zo : Nat → List PV) : St :=
  ⟨[z 0, z 1, z 2, z 3, .bx 0 0, .ms 1 5 0 (List.length q0)] ++ zr z 6 17, [(0, ⟨5, 0, true, [iN 0, iN 0, .str eB, .ms 2 5 0 0, .ms 3 6 0 0]⟩), (1, ⟨5, 0, true, (Val.rows q0).flatten⟩), (2, ⟨5, 0, true, []⟩), (3, ⟨6, 0, true, []⟩)], 68⟩
theorem Q15u (p0 : List aX) (i0 : Nat) (ah : List Val) : VOK (Go.Pv.look (number 0 (Qyt p0 i0 ah))) [(1, Val.rows ah)] := (VOK.cons (show Seen _ _ from Q3o (ob := ⟨5, 0, true, (Val.rows ah).flatten⟩) (Val.Q7 ah 5 rfl)) VOK.nil)
def Qij (p0 : List aX) (e : En) (q : List Val) : Prop := ∃ z zo, Q0 G e (.st (.exit 0) (Qqm p0 q z zo))
theorem Qvh (p0 : List aX) {e e' : En} (h : ∀ r, Q0 G e r → Q0 G e' r) : ∀ q, Qij p0 e q → Qij p0 e' q
  | _, ⟨z, zo, hz⟩ => ⟨z, zo, h _ hz⟩
def Qhl (p0 : List aX) : Prop := (List.length p0 ≤ 137438953472) ∧ (∀ x0 ∈ p0, Q1q7 x0) ∧ True
def Qs9 (p0 : List aX) (i0 : Nat) (_ah : List Val) : List PV :=
  [.un, .fn 228 [] []] ++ nuns 6 ++ [.sl (aX.rows p0), iN ((List.length p0) : Int), iN (i0 : Int), .bool false]
def Qlz (_p0 : List aX) (_i0 : Nat) (_ah : List Val) : List (Nat × List PV) :=
  []
theorem Q1db (p0 : List aX) (_H : Qhl p0) (i0 : Nat) (ah : List Val) (_aT : List.length ah ≤ i0) (bG : (decide ((i0 : Int) < ((List.length p0) : Int))) = false) : Qij p0 (Qgf p0 i0 ah) ah := by
 exact ⟨(envF (Qs9 p0 i0 ah)), (zoF (Qlz p0 i0 ah)), Qd (Q15u p0 i0 ah) (x := ((.exit 0), Qqm p0 ah (envF (Qs9 p0 i0 ah)) (zoF (Qlz p0 i0 ah)))) [hB 0 bG] [] (by kernel_rfl)⟩
theorem Q1aq (p0 : List aX) (H : Qhl p0) (x0 : aX) (i0 : Nat) (ah : List Val) (bU : p0[i0]? = some x0) (dG : i0 < List.length p0) (aT : List.length ah ≤ i0) (bG : (decide ((i0 : Int) < ((List.length p0) : Int))) = true) {r : Rs} (hr : Q0 G (Qgf p0 (i0 + 1) (ah ++ [(Q14v x0)])) r) : Q0 G (Qgf p0 i0 ah) r := by
 have hB0 := H.1
 exact Qc (Q15u p0 i0 ah) [hB 0 bG, hP 0 (Q2q 2 _ i0 _ (aX.Qg bU) rfl), hA 8 1 580 644 5 80 0 0 true Val.Q8 Val.Q1g ah (Q14v x0) (Val.Qh ah) rfl rfl (by omega), hS 0 true (Val.Q7 (ah ++ [(Q14v x0)]) 5 rfl), hP 1 (Q26 i0 (by omega))] [aN (Q2d0 x0 (H.2.1 x0 (Q2l bU)))] hr (by kernel_rfl)
theorem Q11j (p0 : List aX) (H : Qhl p0) : ∀ (r0 : List aX) (i0 : Nat) (ah : List Val), List.drop i0 p0 = r0 → List.length ah ≤ i0 → Qij p0 (Qgf p0 i0 ah) (Q4z p0 r0 i0 ah)
 | [], i0, ah, hd, aT => by
  have bG : (decide ((i0 : Int) < ((List.length p0) : Int))) = false := by have := Q1c hd; simp; omega
  rw [Q4z]
  exact Q1db p0 H i0 ah aT bG
 | x0 :: r0, i0, ah, hd, aT => by
  obtain ⟨bU, dG, hd'⟩ := Q19 hd
  have bG : (decide ((i0 : Int) < ((List.length p0) : Int))) = true := by simp; omega
  rw [Q4z]
  exact Qvh p0 (fun r hr => Q1aq p0 H x0 i0 ah bU dG aT bG hr) _ (Q11j p0 H r0 _ _ hd' (by first | omega | (simp; omega)))
def Q6y (p0 : List aX) : Val := vL (p0.map aX.enc)
theorem Q1a2 (p0 : List aX) : Q6y p0 = ((Qon (Q4z p0 p0 0 []))) := by
  rw [Qxp]
  rfl
def Q19j (p0 : List aX) : En := .call 227 [.sl (aX.rows p0), .fn 228 [] []] []
def Qtt (p0 : List aX) : Rs := .ret (.agg (Val.cells (Q6y p0))) []
def Qel (p0 : List aX) : Prop := LSm aX.sm p0
theorem Qdu (p0 : List aX) (H : Qel p0) : (Qhl p0) ∧ (Qp1 (Q4z p0 p0 0 [])) ∧ True := by
  refine ⟨⟨Nat.le_trans H.1 (Nat.le_of_ble_eq_true rfl), H.2, trivial⟩, ⟨?_, trivial⟩, trivial⟩
  rw [Qxp]
  exact Q2r (fun _ h => aX.Q1u h) H
theorem Q1ck (p0 : List aX) (H : Qel p0) : Q0 G (Q19j p0) (Qtt p0) := by
 unfold Qtt
 rw [Q1a2]
 have hl0 := Q11j p0 ((Qdu p0 H).1) p0 0 [] (by simp) (by simp)
 obtain ⟨z0, gq, hl0⟩ := hl0
 exact Q5 (fn := Ir.K1c) (by kernel_rfl) VOK.nil [hP 3 (Qw _ _ (aX.Q8 p0)), hS 0 true (Val.Q7 (Q4z p0 p0 0 []) 5 rfl), hQ (Val.Q8 (Q4z p0 p0 0 [])).symm] [aV [(1, Val.rows (Q4z p0 p0 0 []))] hl0, aN (Qym (Q4z p0 p0 0 []) (Qdu p0 H).2.1)] (by kernel_rfl)
def Q2b (p0 : Int) : Val :=
 (Val.mk 2 p0 eB [] [])
def Q288 (p0 : Int) : En := .call 109 [iN p0] []
def Q1y8 (p0 : Int) : Rs := .ret (.agg (Val.cells (Q2b p0))) []
theorem Qap (p0 : Int) : Q0 G (Q288 p0) (Q1y8 p0) := by
 unfold Q1y8 Q2b
 exact Q5 (fn := Ir.K4y) (by kernel_rfl) VOK.nil [] [] (by kernel_rfl)
def Qg8 (p0 : bf) : Val := bf.enc p0
theorem Q29v (p0 : bf) : Qg8 p0 = ((Q4n ([(Qr Q61 (Q2b p0.gZ)), (Qr Q5f (Q2b p0.gI)), (Qr Q3j (Q2b p0.eU))]))) := by
  exact Eq.symm (Q6r (by exact Nat.le_of_ble_eq_true rfl) (by kernel_rfl))
def Q26y (p0 : bf) : En := .call 282 [.agg (bf.cells p0)] []
def Q1wx (p0 : bf) : Rs := .ret (.agg (Val.cells (Qg8 p0))) []
def Q1l9 (p0 : bf) : Prop := bf.sm p0
theorem Q1m5 (p0 : bf) (H : Q1l9 p0) : (Q83 ([(Qr Q61 (Q2b p0.gZ)), (Qr Q5f (Q2b p0.gI)), (Qr Q3j (Q2b p0.eU))])) ∧ True := by
  repeat' with_reducible apply And.intro
  all_goals first | exact True.intro | exact H | exact H.1 | exact H.2.1 | exact H.2.2.1 | exact H.2.2.2.1 | exact H.2.2.2.2.1 | exact H.2.2.2.2.2.1 | exact H.2.2.2.2.2.2.1 | exact H.2.2.2.2.2.2.2.1 | exact H.2.2.2.2.2.2.2.2.1 | exact H.2.2.2.2.2.2.2.2.2.1 | exact H.2.2.2.2.2.2.2.2.2.2.1 | exact H.2.2.2.2.2.2.2.2.2.2.2.1 | exact Q8p (by exact Nat.le_of_ble_eq_true rfl) (bf.Q1u H).all.2.2.2
theorem Q20v (p0 : bf) (H : Q1l9 p0) : Q0 G (Q26y p0) (Q1wx p0) := by
 unfold Q1wx
 rw [Q29v]
 exact Q5 (fn := Ir.K17) (by kernel_rfl) VOK.nil [] [aN (Qap p0.gZ), aN (Q44 Q61 (Q2b p0.gZ)), aN (Qap p0.gI), aN (Q44 Q5f (Q2b p0.gI)), aN (Qap p0.eU), aN (Q44 Q3j (Q2b p0.eU)), aN (Q4o (e' := .call 78 [.sl [(Fld.cells (Qr Q61 (Q2b p0.gZ))), (Fld.cells (Qr Q5f (Q2b p0.gI))), (Fld.cells (Qr Q3j (Q2b p0.eU)))]] []) (Q93 ([(Qr Q61 (Q2b p0.gZ)), (Qr Q5f (Q2b p0.gI)), (Qr Q3j (Q2b p0.eU))]) (Q1m5 p0 H).1) (by simp only [Q8c, Fld.Qm, Fld.Q11]))] (by kernel_rfl)
def Q14y (p0 : bn) : Val := bn.enc p0
theorem Q29t (p0 : bn) : Q14y p0 = ((Q4n ([(Qr Q3a (Q2b p0.fZ)), (Qr Q31 (Q2b p0.eH)), (Qr Q2y (Q2b p0.fA)), (Qr Q2n (Q2b p0.eY))]))) := by
  exact Eq.symm (Q6r (by exact Nat.le_of_ble_eq_true rfl) (by kernel_rfl))
def Q26w (p0 : bn) : En := .call 284 [.agg (bn.cells p0)] []
def Q1wv (p0 : bn) : Rs := .ret (.agg (Val.cells (Q14y p0))) []
def Q1qa (p0 : bn) : Prop := bn.sm p0
theorem Q1m4 (p0 : bn) (H : Q1qa p0) : (Q83 ([(Qr Q3a (Q2b p0.fZ)), (Qr Q31 (Q2b p0.eH)), (Qr Q2y (Q2b p0.fA)), (Qr Q2n (Q2b p0.eY))])) ∧ True := by
  repeat' with_reducible apply And.intro
  all_goals first | exact True.intro | exact H | exact H.1 | exact H.2.1 | exact H.2.2.1 | exact H.2.2.2.1 | exact H.2.2.2.2.1 | exact H.2.2.2.2.2.1 | exact H.2.2.2.2.2.2.1 | exact H.2.2.2.2.2.2.2.1 | exact H.2.2.2.2.2.2.2.2.1 | exact H.2.2.2.2.2.2.2.2.2.1 | exact H.2.2.2.2.2.2.2.2.2.2.1 | exact H.2.2.2.2.2.2.2.2.2.2.2.1 | exact Q8p (by exact Nat.le_of_ble_eq_true rfl) (bn.Q1u H).all.2.2.2
theorem Q2d3 (p0 : bn) (H : Q1qa p0) : Q0 G (Q26w p0) (Q1wv p0) := by
 unfold Q1wv
 rw [Q29t]
 exact Q5 (fn := Ir.K15) (by kernel_rfl) VOK.nil [] [aN (Qap p0.fZ), aN (Q44 Q3a (Q2b p0.fZ)), aN (Qap p0.eH), aN (Q44 Q31 (Q2b p0.eH)), aN (Qap p0.fA), aN (Q44 Q2y (Q2b p0.fA)), aN (Qap p0.eY), aN (Q44 Q2n (Q2b p0.eY)), aN (Q4o (e' := .call 78 [.sl [(Fld.cells (Qr Q3a (Q2b p0.fZ))), (Fld.cells (Qr Q31 (Q2b p0.eH))), (Fld.cells (Qr Q2y (Q2b p0.fA))), (Fld.cells (Qr Q2n (Q2b p0.eY)))]] []) (Q93 ([(Qr Q3a (Q2b p0.fZ)), (Qr Q31 (Q2b p0.eH)), (Qr Q2y (Q2b p0.fA)), (Qr Q2n (Q2b p0.eY))]) (Q1m4 p0 H).1) (by simp only [Q8c, Fld.Qm, Fld.Q11]))] (by kernel_rfl)
def Q56 (p0 : List bn) : List bn → Nat → (List Val) → List Val
 | [], _i0, ah =>
  ah
 | x0 :: r0, i0, ah =>
  Q56 p0 r0 (i0 + 1) (ah ++ [(Q14y x0)])
theorem Qxw (p0 : List bn) : ∀ (l : List bn) (i : Nat) (a : List Val), Q56 p0 l i a = a ++ l.map (fun x0 => (Q14y x0))
  | [], _, _ => by simp [Q56]
  | x :: r, i, a => by rw [Q56, Qxw p0 r]; simp
def Q1f4 (p0 : List bn) (i0 : Nat) (ah : List Val) : List PV :=
  [.un, .fn 284 [] [], .un, .un, .bx 0 0, .ms 1 5 0 (List.length ah), .un, .un, .sl (bn.rows p0), iN ((List.length p0) : Int), iN (i0 : Int)] ++ nuns 12
def Qz0 (_p0 : List bn) (_i0 : Nat) (ah : List Val) : List Ob :=
  [⟨5, 0, true, [iN 0, iN 0, .str eB, .ms 2 5 0 0, .ms 3 6 0 0]⟩, ⟨5, 0, true, (Val.rows ah).flatten⟩, ⟨5, 0, true, []⟩, ⟨6, 0, true, []⟩]
def Qgm (p0 : List bn) (i0 : Nat) (ah : List Val) : En := .loop 0 Ir.Qkg Ir.Q1oe (Q1f4 p0 i0 ah) (Qz0 p0 i0 ah)
def Qqt (_p0 : List bn) (q0 : List Val) (z : Nat → PV) (_zo : Nat → List PV) : St :=
  ⟨[z 0, z 1, z 2, z 3, .bx 0 0, .ms 1 5 0 (List.length q0)] ++ zr z 6 17, [(0, ⟨5, 0, true, [iN 0, iN 0, .str eB, .ms 2 5 0 0, .ms 3 6 0 0]⟩), (1, ⟨5, 0, true, (Val.rows q0).flatten⟩), (2, ⟨5, 0, true, []⟩), (3, ⟨6, 0, true, []⟩)], 68⟩
theorem Q161 (p0 : List bn) (i0 : Nat) (ah : List Val) : VOK (Go.Pv.look (number 0 (Qz0 p0 i0 ah))) [(1, Val.rows ah)] := (VOK.cons (show Seen _ _ from Q3o (ob := ⟨5, 0, true, (Val.rows ah).flatten⟩) (Val.Q7 ah 5 rfl)) VOK.nil)
def Qiq (p0 : List bn) (e : En) (q : List Val) : Prop := ∃ z zo, Q0 G e (.st (.exit 0) (Qqt p0 q z zo))
theorem Qvo (p0 : List bn) {e e' : En} (h : ∀ r, Q0 G e r → Q0 G e' r) : ∀ q, Qiq p0 e q → Qiq p0 e' q
  | _, ⟨z, zo, hz⟩ => ⟨z, zo, h _ hz⟩
def Qhs (p0 : List bn) : Prop := (List.length p0 ≤ 137438953472) ∧ (∀ x0 ∈ p0, Q1qa x0) ∧ True
def Qsg (p0 : List bn) (i0 : Nat) (_ah : List Val) : List PV :=
  [.un, .fn 284 [] []] ++ nuns 6 ++ [.sl (bn.rows p0), iN ((List.length p0) : Int), iN (i0 : Int), .bool false]
def Qm6 (_p0 : List bn) (_i0 : Nat) (_ah : List Val) : List (Nat × List PV) :=
  []
theorem Q1di (p0 : List bn) (_H : Qhs p0) (i0 : Nat) (ah : List Val) (_aT : List.length ah ≤ i0) (bG : (decide ((i0 : Int) < ((List.length p0) : Int))) = false) : Qiq p0 (Qgm p0 i0 ah) ah := by
 exact ⟨(envF (Qsg p0 i0 ah)), (zoF (Qm6 p0 i0 ah)), Qd (Q161 p0 i0 ah) (x := ((.exit 0), Qqt p0 ah (envF (Qsg p0 i0 ah)) (zoF (Qm6 p0 i0 ah)))) [hB 0 bG] [] (by kernel_rfl)⟩
theorem Q1ax (p0 : List bn) (H : Qhs p0) (x0 : bn) (i0 : Nat) (ah : List Val) (bU : p0[i0]? = some x0) (dG : i0 < List.length p0) (aT : List.length ah ≤ i0) (bG : (decide ((i0 : Int) < ((List.length p0) : Int))) = true) {r : Rs} (hr : Q0 G (Qgm p0 (i0 + 1) (ah ++ [(Q14y x0)])) r) : Q0 G (Qgm p0 i0 ah) r := by
 have hB0 := H.1
 exact Qc (Q161 p0 i0 ah) [hB 0 bG, hP 0 (Q2q 4 _ i0 _ (bn.Qg bU) rfl), hA 8 1 580 644 5 80 0 0 true Val.Q8 Val.Q1g ah (Q14y x0) (Val.Qh ah) rfl rfl (by omega), hS 0 true (Val.Q7 (ah ++ [(Q14y x0)]) 5 rfl), hP 1 (Q26 i0 (by omega))] [aN (Q2d3 x0 (H.2.1 x0 (Q2l bU)))] hr (by kernel_rfl)
theorem Q11q (p0 : List bn) (H : Qhs p0) : ∀ (r0 : List bn) (i0 : Nat) (ah : List Val), List.drop i0 p0 = r0 → List.length ah ≤ i0 → Qiq p0 (Qgm p0 i0 ah) (Q56 p0 r0 i0 ah)
 | [], i0, ah, hd, aT => by
  have bG : (decide ((i0 : Int) < ((List.length p0) : Int))) = false := by have := Q1c hd; simp; omega
  rw [Q56]
  exact Q1di p0 H i0 ah aT bG
 | x0 :: r0, i0, ah, hd, aT => by
  obtain ⟨bU, dG, hd'⟩ := Q19 hd
  have bG : (decide ((i0 : Int) < ((List.length p0) : Int))) = true := by simp; omega
  rw [Q56]
  exact Qvo p0 (fun r hr => Q1ax p0 H x0 i0 ah bU dG aT bG hr) _ (Q11q p0 H r0 _ _ hd' (by first | omega | (simp; omega)))
def Q3e (p0 : List bn) : Val := vL (p0.map bn.enc)
theorem Q1a9 (p0 : List bn) : Q3e p0 = ((Qon (Q56 p0 p0 0 []))) := by
  rw [Qxw]
  rfl
def Q19q (p0 : List bn) : En := .call 283 [.sl (bn.rows p0), .fn 284 [] []] []
def Qu0 (p0 : List bn) : Rs := .ret (.agg (Val.cells (Q3e p0))) []
def Q94 (p0 : List bn) : Prop := LSm bn.sm p0
theorem Qe1 (p0 : List bn) (H : Q94 p0) : (Qhs p0) ∧ (Qp1 (Q56 p0 p0 0 [])) ∧ True := by
  refine ⟨⟨Nat.le_trans H.1 (Nat.le_of_ble_eq_true rfl), H.2, trivial⟩, ⟨?_, trivial⟩, trivial⟩
  rw [Qxw]
  exact Q2r (fun _ h => bn.Q1u h) H
theorem Qfi (p0 : List bn) (H : Q94 p0) : Q0 G (Q19q p0) (Qu0 p0) := by
 unfold Qu0
 rw [Q1a9]
 have hl0 := Q11q p0 ((Qe1 p0 H).1) p0 0 [] (by simp) (by simp)
 obtain ⟨z0, gq, hl0⟩ := hl0
 exact Q5 (fn := Ir.K1j) (by kernel_rfl) VOK.nil [hP 3 (Qw _ _ (bn.Q8 p0)), hS 0 true (Val.Q7 (Q56 p0 p0 0 []) 5 rfl), hQ (Val.Q8 (Q56 p0 p0 0 [])).symm] [aV [(1, Val.rows (Q56 p0 p0 0 []))] hl0, aN (Qym (Q56 p0 p0 0 []) (Qe1 p0 H).2.1)] (by kernel_rfl)
def Q14u (p0 : aD) : Val := aD.enc p0
theorem Q29p (p0 : aD) : Q14u p0 = ((Q4n ([(Qr Q14 (Q3b p0.fT)), (Qr Q27 (Qg8 p0.fC)), (Qr Q3z (Q3e p0.live)), (Qr Q1b (Q3b p0.name)), (Qr Q1o (Q3e p0.ready)), (Qr Qj (Qg8 p0.dM)), (Qr Q34 (Q3e p0.dV))]))) := by
  exact Eq.symm (Q6r (by exact Nat.le_of_ble_eq_true rfl) (by kernel_rfl))
def Q26s (p0 : aD) : En := .call 258 [.agg (aD.cells p0)] []
def Q1wr (p0 : aD) : Rs := .ret (.agg (Val.cells (Q14u p0))) []
def Q1q6 (p0 : aD) : Prop := aD.sm p0
theorem Qby (p0 : aD) (H : Q1q6 p0) : (Q1l9 p0.fC) ∧ (Q94 p0.live) ∧ (Q94 p0.ready) ∧ (Q1l9 p0.dM) ∧ (Q94 p0.dV) ∧ (Q83 ([(Qr Q14 (Q3b p0.fT)), (Qr Q27 (Qg8 p0.fC)), (Qr Q3z (Q3e p0.live)), (Qr Q1b (Q3b p0.name)), (Qr Q1o (Q3e p0.ready)), (Qr Qj (Qg8 p0.dM)), (Qr Q34 (Q3e p0.dV))])) ∧ True := by
  repeat' with_reducible apply And.intro
  all_goals first | exact True.intro | exact H | exact H.1 | exact H.2.1 | exact H.2.2.1 | exact H.2.2.2.1 | exact H.2.2.2.2.1 | exact H.2.2.2.2.2.1 | exact H.2.2.2.2.2.2.1 | exact H.2.2.2.2.2.2.2.1 | exact H.2.2.2.2.2.2.2.2.1 | exact H.2.2.2.2.2.2.2.2.2.1 | exact H.2.2.2.2.2.2.2.2.2.2.1 | exact H.2.2.2.2.2.2.2.2.2.2.2.1 | exact Q8p (by exact Nat.le_of_ble_eq_true rfl) (aD.Q1u H).all.2.2.2
theorem Q2cz (p0 : aD) (H : Q1q6 p0) : Q0 G (Q26s p0) (Q1wr p0) := by
 unfold Q1wr
 rw [Q29p]
 exact Q5 (fn := Ir.K11) (by kernel_rfl) VOK.nil [] [aN (Qfj p0.fT), aN (Q44 Q14 (Q3b p0.fT)), aN (Q20v p0.fC (Qby p0 H).1), aN (Q44 Q27 (Qg8 p0.fC)), aN (Qfi p0.live (Qby p0 H).2.1), aN (Q44 Q3z (Q3e p0.live)), aN (Qfj p0.name), aN (Q44 Q1b (Q3b p0.name)), aN (Qfi p0.ready (Qby p0 H).2.2.1), aN (Q44 Q1o (Q3e p0.ready)), aN (Q20v p0.dM (Qby p0 H).2.2.2.1), aN (Q44 Qj (Qg8 p0.dM)), aN (Qfi p0.dV (Qby p0 H).2.2.2.2.1), aN (Q44 Q34 (Q3e p0.dV)), aN (Q4o (e' := .call 78 [.sl [(Fld.cells (Qr Q14 (Q3b p0.fT))), (Fld.cells (Qr Q27 (Qg8 p0.fC))), (Fld.cells (Qr Q3z (Q3e p0.live))), (Fld.cells (Qr Q1b (Q3b p0.name))), (Fld.cells (Qr Q1o (Q3e p0.ready))), (Fld.cells (Qr Qj (Qg8 p0.dM))), (Fld.cells (Qr Q34 (Q3e p0.dV)))]] []) (Q93 ([(Qr Q14 (Q3b p0.fT)), (Qr Q27 (Qg8 p0.fC)), (Qr Q3z (Q3e p0.live)), (Qr Q1b (Q3b p0.name)), (Qr Q1o (Q3e p0.ready)), (Qr Qj (Qg8 p0.dM)), (Qr Q34 (Q3e p0.dV))]) (Qby p0 H).2.2.2.2.2.1) (by simp only [Q8c, Fld.Qm, Fld.Q11]))] (by kernel_rfl)
def Q50 (p0 : List aD) : List aD → Nat → (List Val) → List Val
 | [], _i0, ah =>
  ah
 | x0 :: r0, i0, ah =>
  Q50 p0 r0 (i0 + 1) (ah ++ [(Q14u x0)])
theorem Qxq (p0 : List aD) : ∀ (l : List aD) (i : Nat) (a : List Val), Q50 p0 l i a = a ++ l.map (fun x0 => (Q14u x0))
  | [], _, _ => by simp [Q50]
  | x :: r, i, a => by rw [Q50, Qxq p0 r]; simp
def Q1ey (p0 : List aD) (i0 : Nat) (ah : List Val) : List PV :=
  [.un, .fn 258 [] [], .un, .un, .bx 0 0, .ms 1 5 0 (List.length ah), .un, .un, .sl (aD.rows p0), iN ((List.length p0) : Int), iN (i0 : Int)] ++ nuns 12
def Qyu (_p0 : List aD) (_i0 : Nat) (ah : List Val) : List Ob :=
  [⟨5, 0, true, [iN 0, iN 0, .str eB, .ms 2 5 0 0, .ms 3 6 0 0]⟩, ⟨5, 0, true, (Val.rows ah).flatten⟩, ⟨5, 0, true, []⟩, ⟨6, 0, true, []⟩]
def Qgg (p0 : List aD) (i0 : Nat) (ah : List Val) : En := .loop 0 Ir.Qka Ir.Q1o8 (Q1ey p0 i0 ah) (Qyu p0 i0 ah)
def Qqn (_p0 : List aD) (q0 : List Val) (z : Nat → PV) (_zo : Nat → List PV) : St :=
  ⟨[z 0, z 1, z 2, z 3, .bx 0 0, .ms 1 5 0 (List.length q0)] ++ zr z 6 17, [(0, ⟨5, 0, true, [iN 0, iN 0, .str eB, .ms 2 5 0 0, .ms 3 6 0 0]⟩), (1, ⟨5, 0, true, (Val.rows q0).flatten⟩), (2, ⟨5, 0, true, []⟩), (3, ⟨6, 0, true, []⟩)], 68⟩
theorem Q15v (p0 : List aD) (i0 : Nat) (ah : List Val) : VOK (Go.Pv.look (number 0 (Qyu p0 i0 ah))) [(1, Val.rows ah)] := (VOK.cons (show Seen _ _ from Q3o (ob := ⟨5, 0, true, (Val.rows ah).flatten⟩) (Val.Q7 ah 5 rfl)) VOK.nil)
def Qik (p0 : List aD) (e : En) (q : List Val) : Prop := ∃ z zo, Q0 G e (.st (.exit 0) (Qqn p0 q z zo))
theorem Qvi (p0 : List aD) {e e' : En} (h : ∀ r, Q0 G e r → Q0 G e' r) : ∀ q, Qik p0 e q → Qik p0 e' q
  | _, ⟨z, zo, hz⟩ => ⟨z, zo, h _ hz⟩
def Qhm (p0 : List aD) : Prop := (List.length p0 ≤ 137438953472) ∧ (∀ x0 ∈ p0, Q1q6 x0) ∧ True
def Qsa (p0 : List aD) (i0 : Nat) (_ah : List Val) : List PV :=
  [.un, .fn 258 [] []] ++ nuns 6 ++ [.sl (aD.rows p0), iN ((List.length p0) : Int), iN (i0 : Int), .bool false]
def Qm0 (_p0 : List aD) (_i0 : Nat) (_ah : List Val) : List (Nat × List PV) :=
  []
theorem Q1dc (p0 : List aD) (_H : Qhm p0) (i0 : Nat) (ah : List Val) (_aT : List.length ah ≤ i0) (bG : (decide ((i0 : Int) < ((List.length p0) : Int))) = false) : Qik p0 (Qgg p0 i0 ah) ah := by
 exact ⟨(envF (Qsa p0 i0 ah)), (zoF (Qm0 p0 i0 ah)), Qd (Q15v p0 i0 ah) (x := ((.exit 0), Qqn p0 ah (envF (Qsa p0 i0 ah)) (zoF (Qm0 p0 i0 ah)))) [hB 0 bG] [] (by kernel_rfl)⟩
theorem Q1ar (p0 : List aD) (H : Qhm p0) (x0 : aD) (i0 : Nat) (ah : List Val) (bU : p0[i0]? = some x0) (dG : i0 < List.length p0) (aT : List.length ah ≤ i0) (bG : (decide ((i0 : Int) < ((List.length p0) : Int))) = true) {r : Rs} (hr : Q0 G (Qgg p0 (i0 + 1) (ah ++ [(Q14u x0)])) r) : Q0 G (Qgg p0 i0 ah) r := by
 have hB0 := H.1
 exact Qc (Q15v p0 i0 ah) [hB 0 bG, hP 0 (Q2q 11 _ i0 _ (aD.Qg bU) rfl), hA 8 1 580 644 5 80 0 0 true Val.Q8 Val.Q1g ah (Q14u x0) (Val.Qh ah) rfl rfl (by omega), hS 0 true (Val.Q7 (ah ++ [(Q14u x0)]) 5 rfl), hP 1 (Q26 i0 (by omega))] [aN (Q2cz x0 (H.2.1 x0 (Q2l bU)))] hr (by kernel_rfl)
theorem Q11k (p0 : List aD) (H : Qhm p0) : ∀ (r0 : List aD) (i0 : Nat) (ah : List Val), List.drop i0 p0 = r0 → List.length ah ≤ i0 → Qik p0 (Qgg p0 i0 ah) (Q50 p0 r0 i0 ah)
 | [], i0, ah, hd, aT => by
  have bG : (decide ((i0 : Int) < ((List.length p0) : Int))) = false := by have := Q1c hd; simp; omega
  rw [Q50]
  exact Q1dc p0 H i0 ah aT bG
 | x0 :: r0, i0, ah, hd, aT => by
  obtain ⟨bU, dG, hd'⟩ := Q19 hd
  have bG : (decide ((i0 : Int) < ((List.length p0) : Int))) = true := by simp; omega
  rw [Q50]
  exact Qvi p0 (fun r hr => Q1ar p0 H x0 i0 ah bU dG aT bG hr) _ (Q11k p0 H r0 _ _ hd' (by first | omega | (simp; omega)))
def Q6z (p0 : List aD) : Val := vL (p0.map aD.enc)
theorem Q1a3 (p0 : List aD) : Q6z p0 = ((Qon (Q50 p0 p0 0 []))) := by
  rw [Qxq]
  rfl
def Q19k (p0 : List aD) : En := .call 257 [.sl (aD.rows p0), .fn 258 [] []] []
def Qtu (p0 : List aD) : Rs := .ret (.agg (Val.cells (Q6z p0))) []
def Qem (p0 : List aD) : Prop := LSm aD.sm p0
theorem Qdv (p0 : List aD) (H : Qem p0) : (Qhm p0) ∧ (Qp1 (Q50 p0 p0 0 [])) ∧ True := by
  refine ⟨⟨Nat.le_trans H.1 (Nat.le_of_ble_eq_true rfl), H.2, trivial⟩, ⟨?_, trivial⟩, trivial⟩
  rw [Qxq]
  exact Q2r (fun _ h => aD.Q1u h) H
theorem Q1cl (p0 : List aD) (H : Qem p0) : Q0 G (Q19k p0) (Qtu p0) := by
 unfold Qtu
 rw [Q1a3]
 have hl0 := Q11k p0 ((Qdv p0 H).1) p0 0 [] (by simp) (by simp)
 obtain ⟨z0, gq, hl0⟩ := hl0
 exact Q5 (fn := Ir.K1d) (by kernel_rfl) VOK.nil [hP 3 (Qw _ _ (aD.Q8 p0)), hS 0 true (Val.Q7 (Q50 p0 p0 0 []) 5 rfl), hQ (Val.Q8 (Q50 p0 p0 0 [])).symm] [aV [(1, Val.rows (Q50 p0 p0 0 []))] hl0, aN (Qym (Q50 p0 p0 0 []) (Qdv p0 H).2.1)] (by kernel_rfl)
def Q57 (p0 : List ByteArray) : List ByteArray → Nat → (List Val) → List Val
 | [], _i0, ah =>
  ah
 | x0 :: r0, i0, ah =>
  Q57 p0 r0 (i0 + 1) (ah ++ [(Q3b x0)])
theorem Qxx (p0 : List ByteArray) : ∀ (l : List ByteArray) (i : Nat) (a : List Val), Q57 p0 l i a = a ++ l.map (fun x0 => (Q3b x0))
  | [], _, _ => by simp [Q57]
  | x :: r, i, a => by rw [Q57, Qxx p0 r]; simp
def Q1f5 (p0 : List ByteArray) (i0 : Nat) (ah : List Val) : List PV :=
  [.un, .fn 193 [] [], .un, .un, .bx 0 0, .ms 1 5 0 (List.length ah), .un, .un, .sl (Q18 p0), iN ((List.length p0) : Int), iN (i0 : Int)] ++ nuns 12
def Qz1 (_p0 : List ByteArray) (_i0 : Nat) (ah : List Val) : List Ob :=
  [⟨5, 0, true, [iN 0, iN 0, .str eB, .ms 2 5 0 0, .ms 3 6 0 0]⟩, ⟨5, 0, true, (Val.rows ah).flatten⟩, ⟨5, 0, true, []⟩, ⟨6, 0, true, []⟩]
def Qgn (p0 : List ByteArray) (i0 : Nat) (ah : List Val) : En := .loop 0 Ir.Qkh Ir.Q1of (Q1f5 p0 i0 ah) (Qz1 p0 i0 ah)
def Qqu (_p0 : List ByteArray) (q0 : List Val) (z : Nat → PV) (_zo : Nat → List PV) : St :=
  ⟨[z 0, z 1, z 2, z 3, .bx 0 0, .ms 1 5 0 (List.length q0)] ++ zr z 6 17, [(0, ⟨5, 0, true, [iN 0, iN 0, .str eB, .ms 2 5 0 0, .ms 3 6 0 0]⟩), (1, ⟨5, 0, true, (Val.rows q0).flatten⟩), (2, ⟨5, 0, true, []⟩), (3, ⟨6, 0, true, []⟩)], 68⟩
theorem Q162 (p0 : List ByteArray) (i0 : Nat) (ah : List Val) : VOK (Go.Pv.look (number 0 (Qz1 p0 i0 ah))) [(1, Val.rows ah)] := (VOK.cons (show Seen _ _ from Q3o (ob := ⟨5, 0, true, (Val.rows ah).flatten⟩) (Val.Q7 ah 5 rfl)) VOK.nil)
def Qir (p0 : List ByteArray) (e : En) (q : List Val) : Prop := ∃ z zo, Q0 G e (.st (.exit 0) (Qqu p0 q z zo))
theorem Qvp (p0 : List ByteArray) {e e' : En} (h : ∀ r, Q0 G e r → Q0 G e' r) : ∀ q, Qir p0 e q → Qir p0 e' q
  | _, ⟨z, zo, hz⟩ => ⟨z, zo, h _ hz⟩
def Qht (p0 : List ByteArray) : Prop := (List.length p0 ≤ 137438953472) ∧ True
def Qsh (p0 : List ByteArray) (i0 : Nat) (_ah : List Val) : List PV :=
  [.un, .fn 193 [] []] ++ nuns 6 ++ [.sl (Q18 p0), iN ((List.length p0) : Int), iN (i0 : Int), .bool false]
def Qm7 (_p0 : List ByteArray) (_i0 : Nat) (_ah : List Val) : List (Nat × List PV) :=
  []
theorem Q1dj (p0 : List ByteArray) (_H : Qht p0) (i0 : Nat) (ah : List Val) (_aT : List.length ah ≤ i0) (bG : (decide ((i0 : Int) < ((List.length p0) : Int))) = false) : Qir p0 (Qgn p0 i0 ah) ah := by
 exact ⟨(envF (Qsh p0 i0 ah)), (zoF (Qm7 p0 i0 ah)), Qd (Q162 p0 i0 ah) (x := ((.exit 0), Qqu p0 ah (envF (Qsh p0 i0 ah)) (zoF (Qm7 p0 i0 ah)))) [hB 0 bG] [] (by kernel_rfl)⟩
theorem Q1ay (p0 : List ByteArray) (H : Qht p0) (x0 : BA) (i0 : Nat) (ah : List Val) (bU : p0[i0]? = some x0) (dG : i0 < List.length p0) (aT : List.length ah ≤ i0) (bG : (decide ((i0 : Int) < ((List.length p0) : Int))) = true) {r : Rs} (hr : Q0 G (Qgn p0 (i0 + 1) (ah ++ [(Q3b x0)])) r) : Q0 G (Qgn p0 i0 ah) r := by
 have hB0 := H.1
 exact Qc (Q162 p0 i0 ah) [hB 0 bG, hP 0 (Q2q 1 _ i0 _ (Q9k bU) rfl), hA 7 1 516 580 5 80 0 0 true Val.Q8 Val.Q1g ah (Q3b x0) (Val.Qh ah) rfl rfl (by omega), hS 0 true (Val.Q7 (ah ++ [(Q3b x0)]) 5 rfl), hP 1 (Q26 i0 (by omega))] [aN (Qfj x0)] hr (by kernel_rfl)
theorem Q11r (p0 : List ByteArray) (H : Qht p0) : ∀ (r0 : List ByteArray) (i0 : Nat) (ah : List Val), List.drop i0 p0 = r0 → List.length ah ≤ i0 → Qir p0 (Qgn p0 i0 ah) (Q57 p0 r0 i0 ah)
 | [], i0, ah, hd, aT => by
  have bG : (decide ((i0 : Int) < ((List.length p0) : Int))) = false := by have := Q1c hd; simp; omega
  rw [Q57]
  exact Q1dj p0 H i0 ah aT bG
 | x0 :: r0, i0, ah, hd, aT => by
  obtain ⟨bU, dG, hd'⟩ := Q19 hd
  have bG : (decide ((i0 : Int) < ((List.length p0) : Int))) = true := by simp; omega
  rw [Q57]
  exact Qvp p0 (fun r hr => Q1ay p0 H x0 i0 ah bU dG aT bG hr) _ (Q11r p0 H r0 _ _ hd' (by first | omega | (simp; omega)))
def Q74 (p0 : List ByteArray) : Val := vL (p0.map vS)
theorem Q1aa (p0 : List ByteArray) : Q74 p0 = ((Qon (Q57 p0 p0 0 []))) := by
  rw [Qxx]
  rfl
def Q19r (p0 : List ByteArray) : En := .call 285 [.sl (Q18 p0), .fn 193 [] []] []
def Qu1 (p0 : List ByteArray) : Rs := .ret (.agg (Val.cells (Q74 p0))) []
def Qer (p0 : List ByteArray) : Prop := LSm (fun _ : ByteArray => True) p0
theorem Qe2 (p0 : List ByteArray) (H : Qer p0) : (Qht p0) ∧ (Qp1 (Q57 p0 p0 0 [])) ∧ True := by
  refine ⟨⟨Nat.le_trans H.1 (Nat.le_of_ble_eq_true rfl), trivial⟩, ⟨?_, trivial⟩, trivial⟩
  rw [Qxx]
  exact Q2r (fun _ _ => Val.Sm.leaf _ _ _) H
theorem Q1cq (p0 : List ByteArray) (H : Qer p0) : Q0 G (Q19r p0) (Qu1 p0) := by
 unfold Qu1
 rw [Q1aa]
 have hl0 := Q11r p0 ((Qe2 p0 H).1) p0 0 [] (by simp) (by simp)
 obtain ⟨z0, gq, hl0⟩ := hl0
 exact Q5 (fn := Ir.K1k) (by kernel_rfl) VOK.nil [hP 3 (Qw _ _ (Q2s p0)), hS 0 true (Val.Q7 (Q57 p0 p0 0 []) 5 rfl), hQ (Val.Q8 (Q57 p0 p0 0 [])).symm] [aV [(1, Val.rows (Q57 p0 p0 0 []))] hl0, aN (Qym (Q57 p0 p0 0 []) (Qe2 p0 H).2.1)] (by kernel_rfl)
def Q14z (p0 : aj) : Val := aj.enc p0
theorem Q29u (p0 : aj) : Q14z p0 = ((Q4n ([(Qr Q13 (Q3b p0.key)), (Qr Q5l (Q2b p0.op)), (Qr Q1w (Q74 p0.dF))]))) := by
  exact Eq.symm (Q6r (by exact Nat.le_of_ble_eq_true rfl) (by kernel_rfl))
def Q26x (p0 : aj) : En := .call 260 [.agg (aj.cells p0)] []
def Q1ww (p0 : aj) : Rs := .ret (.agg (Val.cells (Q14z p0))) []
def Q1qb (p0 : aj) : Prop := aj.sm p0
theorem Q179 (p0 : aj) (H : Q1qb p0) : (Qer p0.dF) ∧ (Q83 ([(Qr Q13 (Q3b p0.key)), (Qr Q5l (Q2b p0.op)), (Qr Q1w (Q74 p0.dF))])) ∧ True := by
  repeat' with_reducible apply And.intro
  all_goals first | exact True.intro | exact H | exact H.1 | exact H.2.1 | exact H.2.2.1 | exact H.2.2.2.1 | exact H.2.2.2.2.1 | exact H.2.2.2.2.2.1 | exact H.2.2.2.2.2.2.1 | exact H.2.2.2.2.2.2.2.1 | exact H.2.2.2.2.2.2.2.2.1 | exact H.2.2.2.2.2.2.2.2.2.1 | exact H.2.2.2.2.2.2.2.2.2.2.1 | exact H.2.2.2.2.2.2.2.2.2.2.2.1 | exact Q8p (by exact Nat.le_of_ble_eq_true rfl) (aj.Q1u H).all.2.2.2
theorem Q2d4 (p0 : aj) (H : Q1qb p0) : Q0 G (Q26x p0) (Q1ww p0) := by
 unfold Q1ww
 rw [Q29u]
 exact Q5 (fn := Ir.K16) (by kernel_rfl) VOK.nil [] [aN (Qfj p0.key), aN (Q44 Q13 (Q3b p0.key)), aN (Qap p0.op), aN (Q44 Q5l (Q2b p0.op)), aN (Q1cq p0.dF (Q179 p0 H).1), aN (Q44 Q1w (Q74 p0.dF)), aN (Q4o (e' := .call 78 [.sl [(Fld.cells (Qr Q13 (Q3b p0.key))), (Fld.cells (Qr Q5l (Q2b p0.op))), (Fld.cells (Qr Q1w (Q74 p0.dF)))]] []) (Q93 ([(Qr Q13 (Q3b p0.key)), (Qr Q5l (Q2b p0.op)), (Qr Q1w (Q74 p0.dF))]) (Q179 p0 H).2.1) (by simp only [Q8c, Fld.Qm, Fld.Q11]))] (by kernel_rfl)
def Q51 (p0 : List aj) : List aj → Nat → (List Val) → List Val
 | [], _i0, ah =>
  ah
 | x0 :: r0, i0, ah =>
  Q51 p0 r0 (i0 + 1) (ah ++ [(Q14z x0)])
theorem Qxr (p0 : List aj) : ∀ (l : List aj) (i : Nat) (a : List Val), Q51 p0 l i a = a ++ l.map (fun x0 => (Q14z x0))
  | [], _, _ => by simp [Q51]
  | x :: r, i, a => by rw [Q51, Qxr p0 r]; simp
def Q1ez (p0 : List aj) (i0 : Nat) (ah : List Val) : List PV :=
  [.un, .fn 260 [] [], .un, .un, .bx 0 0, .ms 1 5 0 (List.length ah), .un, .un, .sl (aj.rows p0), iN ((List.length p0) : Int), iN (i0 : Int)] ++ nuns 12
def Qyv (_p0 : List aj) (_i0 : Nat) (ah : List Val) : List Ob :=
  [⟨5, 0, true, [iN 0, iN 0, .str eB, .ms 2 5 0 0, .ms 3 6 0 0]⟩, ⟨5, 0, true, (Val.rows ah).flatten⟩, ⟨5, 0, true, []⟩, ⟨6, 0, true, []⟩]
def Qgh (p0 : List aj) (i0 : Nat) (ah : List Val) : En := .loop 0 Ir.Qkb Ir.Q1o9 (Q1ez p0 i0 ah) (Qyv p0 i0 ah)
def Qqo (_p0 : List aj) (q0 : List Val) (z : Nat → PV) (_zo : Nat → List PV) : St :=
  ⟨[z 0, z 1, z 2, z 3, .bx 0 0, .ms 1 5 0 (List.length q0)] ++ zr z 6 17, [(0, ⟨5, 0, true, [iN 0, iN 0, .str eB, .ms 2 5 0 0, .ms 3 6 0 0]⟩), (1, ⟨5, 0, true, (Val.rows q0).flatten⟩), (2, ⟨5, 0, true, []⟩), (3, ⟨6, 0, true, []⟩)], 68⟩
theorem Q15w (p0 : List aj) (i0 : Nat) (ah : List Val) : VOK (Go.Pv.look (number 0 (Qyv p0 i0 ah))) [(1, Val.rows ah)] := (VOK.cons (show Seen _ _ from Q3o (ob := ⟨5, 0, true, (Val.rows ah).flatten⟩) (Val.Q7 ah 5 rfl)) VOK.nil)
def Qil (p0 : List aj) (e : En) (q : List Val) : Prop := ∃ z zo, Q0 G e (.st (.exit 0) (Qqo p0 q z zo))
theorem Qvj (p0 : List aj) {e e' : En} (h : ∀ r, Q0 G e r → Q0 G e' r) : ∀ q, Qil p0 e q → Qil p0 e' q
  | _, ⟨z, zo, hz⟩ => ⟨z, zo, h _ hz⟩
def Qhn (p0 : List aj) : Prop := (List.length p0 ≤ 137438953472) ∧ (∀ x0 ∈ p0, Q1qb x0) ∧ True
def Qsb (p0 : List aj) (i0 : Nat) (_ah : List Val) : List PV :=
  [.un, .fn 260 [] []] ++ nuns 6 ++ [.sl (aj.rows p0), iN ((List.length p0) : Int), iN (i0 : Int), .bool false]
def Qm1 (_p0 : List aj) (_i0 : Nat) (_ah : List Val) : List (Nat × List PV) :=
  []
theorem Q1dd (p0 : List aj) (_H : Qhn p0) (i0 : Nat) (ah : List Val) (_aT : List.length ah ≤ i0) (bG : (decide ((i0 : Int) < ((List.length p0) : Int))) = false) : Qil p0 (Qgh p0 i0 ah) ah := by
 exact ⟨(envF (Qsb p0 i0 ah)), (zoF (Qm1 p0 i0 ah)), Qd (Q15w p0 i0 ah) (x := ((.exit 0), Qqo p0 ah (envF (Qsb p0 i0 ah)) (zoF (Qm1 p0 i0 ah)))) [hB 0 bG] [] (by kernel_rfl)⟩
theorem Q1as (p0 : List aj) (H : Qhn p0) (x0 : aj) (i0 : Nat) (ah : List Val) (bU : p0[i0]? = some x0) (dG : i0 < List.length p0) (aT : List.length ah ≤ i0) (bG : (decide ((i0 : Int) < ((List.length p0) : Int))) = true) {r : Rs} (hr : Q0 G (Qgh p0 (i0 + 1) (ah ++ [(Q14z x0)])) r) : Q0 G (Qgh p0 i0 ah) r := by
 have hB0 := H.1
 exact Qc (Q15w p0 i0 ah) [hB 0 bG, hP 0 (Q2q 3 _ i0 _ (aj.Qg bU) rfl), hA 8 1 580 644 5 80 0 0 true Val.Q8 Val.Q1g ah (Q14z x0) (Val.Qh ah) rfl rfl (by omega), hS 0 true (Val.Q7 (ah ++ [(Q14z x0)]) 5 rfl), hP 1 (Q26 i0 (by omega))] [aN (Q2d4 x0 (H.2.1 x0 (Q2l bU)))] hr (by kernel_rfl)
theorem Q11l (p0 : List aj) (H : Qhn p0) : ∀ (r0 : List aj) (i0 : Nat) (ah : List Val), List.drop i0 p0 = r0 → List.length ah ≤ i0 → Qil p0 (Qgh p0 i0 ah) (Q51 p0 r0 i0 ah)
 | [], i0, ah, hd, aT => by
  have bG : (decide ((i0 : Int) < ((List.length p0) : Int))) = false := by have := Q1c hd; simp; omega
  rw [Q51]
  exact Q1dd p0 H i0 ah aT bG
 | x0 :: r0, i0, ah, hd, aT => by
  obtain ⟨bU, dG, hd'⟩ := Q19 hd
  have bG : (decide ((i0 : Int) < ((List.length p0) : Int))) = true := by simp; omega
  rw [Q51]
  exact Qvj p0 (fun r hr => Q1as p0 H x0 i0 ah bU dG aT bG hr) _ (Q11l p0 H r0 _ _ hd' (by first | omega | (simp; omega)))
def Q2o (p0 : List aj) : Val := vL (p0.map aj.enc)
theorem Q1a4 (p0 : List aj) : Q2o p0 = ((Qon (Q51 p0 p0 0 []))) := by
  rw [Qxr]
  rfl
def Q19l (p0 : List aj) : En := .call 259 [.sl (aj.rows p0), .fn 260 [] []] []
def Qtv (p0 : List aj) : Rs := .ret (.agg (Val.cells (Q2o p0))) []
def Q7w (p0 : List aj) : Prop := LSm aj.sm p0
theorem Qdw (p0 : List aj) (H : Q7w p0) : (Qhn p0) ∧ (Qp1 (Q51 p0 p0 0 [])) ∧ True := by
  refine ⟨⟨Nat.le_trans H.1 (Nat.le_of_ble_eq_true rfl), H.2, trivial⟩, ⟨?_, trivial⟩, trivial⟩
  rw [Qxr]
  exact Q2r (fun _ h => aj.Q1u h) H
theorem Qc1 (p0 : List aj) (H : Q7w p0) : Q0 G (Q19l p0) (Qtv p0) := by
 unfold Qtv
 rw [Q1a4]
 have hl0 := Q11l p0 ((Qdw p0 H).1) p0 0 [] (by simp) (by simp)
 obtain ⟨z0, gq, hl0⟩ := hl0
 exact Q5 (fn := Ir.K1e) (by kernel_rfl) VOK.nil [hP 3 (Qw _ _ (aj.Q8 p0)), hS 0 true (Val.Q7 (Q51 p0 p0 0 []) 5 rfl), hQ (Val.Q8 (Q51 p0 p0 0 [])).symm] [aV [(1, Val.rows (Q51 p0 p0 0 []))] hl0, aN (Qym (Q51 p0 p0 0 []) (Qdw p0 H).2.1)] (by kernel_rfl)
def Q6p (p0 : Bool) : Val := vB p0
theorem Q2ar (p0 : Bool) : Q6p p0 = (bif p0 then
    (Val.mk 1 1 eB [] [])
  else
    (Val.mk 1 0 eB [] [])) := by
  cases p0 <;> rfl
def Q286 (p0 : Bool) : En := .call 192 [.bool p0] []
def Q1y6 (p0 : Bool) : Rs := .ret (.agg (Val.cells (Q6p p0))) []
theorem Q1cy (p0 : Bool) : Q0 G (Q286 p0) (Q1y6 p0) := by
 unfold Q1y6
 rw [Q2ar]
 cases h0 : p0 with
 | true =>
  exact Q5 (fn := Ir.K4w) (by kernel_rfl) VOK.nil [] [] (by kernel_rfl)
 | false =>
  exact Q5 (fn := Ir.K4w) (by kernel_rfl) VOK.nil [] [] (by kernel_rfl)
def Q14w (p0 : aI) : Val := aI.enc p0
theorem Q29r (p0 : aI) : Q14w p0 = ((Q4n ([(Qr Qb (Q6p p0.bI)), (Qr Q6 (Q2o p0.aR)), (Qr Q1m (Q2b p0.dI))]))) := by
  exact Eq.symm (Q6r (by exact Nat.le_of_ble_eq_true rfl) (by kernel_rfl))
def Q26u (p0 : aI) : En := .call 262 [.agg (aI.cells p0)] []
def Q1wt (p0 : aI) : Rs := .ret (.agg (Val.cells (Q14w p0))) []
def Q1q8 (p0 : aI) : Prop := aI.sm p0
theorem Q177 (p0 : aI) (H : Q1q8 p0) : (Q7w p0.aR) ∧ (Q83 ([(Qr Qb (Q6p p0.bI)), (Qr Q6 (Q2o p0.aR)), (Qr Q1m (Q2b p0.dI))])) ∧ True := by
  repeat' with_reducible apply And.intro
  all_goals first | exact True.intro | exact H | exact H.1 | exact H.2.1 | exact H.2.2.1 | exact H.2.2.2.1 | exact H.2.2.2.2.1 | exact H.2.2.2.2.2.1 | exact H.2.2.2.2.2.2.1 | exact H.2.2.2.2.2.2.2.1 | exact H.2.2.2.2.2.2.2.2.1 | exact H.2.2.2.2.2.2.2.2.2.1 | exact H.2.2.2.2.2.2.2.2.2.2.1 | exact H.2.2.2.2.2.2.2.2.2.2.2.1 | exact Q8p (by exact Nat.le_of_ble_eq_true rfl) (aI.Q1u H).all.2.2.2
theorem Q2d1 (p0 : aI) (H : Q1q8 p0) : Q0 G (Q26u p0) (Q1wt p0) := by
 unfold Q1wt
 rw [Q29r]
 exact Q5 (fn := Ir.K13) (by kernel_rfl) VOK.nil [] [aN (Q1cy p0.bI), aN (Q44 Qb (Q6p p0.bI)), aN (Qc1 p0.aR (Q177 p0 H).1), aN (Q44 Q6 (Q2o p0.aR)), aN (Qap p0.dI), aN (Q44 Q1m (Q2b p0.dI)), aN (Q4o (e' := .call 78 [.sl [(Fld.cells (Qr Qb (Q6p p0.bI))), (Fld.cells (Qr Q6 (Q2o p0.aR))), (Fld.cells (Qr Q1m (Q2b p0.dI)))]] []) (Q93 ([(Qr Qb (Q6p p0.bI)), (Qr Q6 (Q2o p0.aR)), (Qr Q1m (Q2b p0.dI))]) (Q177 p0 H).2.1) (by simp only [Q8c, Fld.Qm, Fld.Q11]))] (by kernel_rfl)
def Q52 (p0 : List aI) : List aI → Nat → (List Val) → List Val
 | [], _i0, ah =>
  ah
 | x0 :: r0, i0, ah =>
  Q52 p0 r0 (i0 + 1) (ah ++ [(Q14w x0)])
theorem Qxs (p0 : List aI) : ∀ (l : List aI) (i : Nat) (a : List Val), Q52 p0 l i a = a ++ l.map (fun x0 => (Q14w x0))
  | [], _, _ => by simp [Q52]
  | x :: r, i, a => by rw [Q52, Qxs p0 r]; simp
def Q1f0 (p0 : List aI) (i0 : Nat) (ah : List Val) : List PV :=
  [.un, .fn 262 [] [], .un, .un, .bx 0 0, .ms 1 5 0 (List.length ah), .un, .un, .sl (aI.rows p0), iN ((List.length p0) : Int), iN (i0 : Int)] ++ nuns 12
def Qyw (_p0 : List aI) (_i0 : Nat) (ah : List Val) : List Ob :=
  [⟨5, 0, true, [iN 0, iN 0, .str eB, .ms 2 5 0 0, .ms 3 6 0 0]⟩, ⟨5, 0, true, (Val.rows ah).flatten⟩, ⟨5, 0, true, []⟩, ⟨6, 0, true, []⟩]
def Qgi (p0 : List aI) (i0 : Nat) (ah : List Val) : En := .loop 0 Ir.Qkc Ir.Q1oa (Q1f0 p0 i0 ah) (Qyw p0 i0 ah)
def Qqp (_p0 : List aI) (q0 : List Val) (z : Nat → PV) (_zo : Nat → List PV) : St :=
  ⟨[z 0, z 1, z 2, z 3, .bx 0 0, .ms 1 5 0 (List.length q0)] ++ zr z 6 17, [(0, ⟨5, 0, true, [iN 0, iN 0, .str eB, .ms 2 5 0 0, .ms 3 6 0 0]⟩), (1, ⟨5, 0, true, (Val.rows q0).flatten⟩), (2, ⟨5, 0, true, []⟩), (3, ⟨6, 0, true, []⟩)], 68⟩
theorem Q15x (p0 : List aI) (i0 : Nat) (ah : List Val) : VOK (Go.Pv.look (number 0 (Qyw p0 i0 ah))) [(1, Val.rows ah)] := (VOK.cons (show Seen _ _ from Q3o (ob := ⟨5, 0, true, (Val.rows ah).flatten⟩) (Val.Q7 ah 5 rfl)) VOK.nil)
def Qim (p0 : List aI) (e : En) (q : List Val) : Prop := ∃ z zo, Q0 G e (.st (.exit 0) (Qqp p0 q z zo))
theorem Qvk (p0 : List aI) {e e' : En} (h : ∀ r, Q0 G e r → Q0 G e' r) : ∀ q, Qim p0 e q → Qim p0 e' q
  | _, ⟨z, zo, hz⟩ => ⟨z, zo, h _ hz⟩
def Qho (p0 : List aI) : Prop := (List.length p0 ≤ 137438953472) ∧ (∀ x0 ∈ p0, Q1q8 x0) ∧ True
def Qsc (p0 : List aI) (i0 : Nat) (_ah : List Val) : List PV :=
  [.un, .fn 262 [] []] ++ nuns 6 ++ [.sl (aI.rows p0), iN ((List.length p0) : Int), iN (i0 : Int), .bool false]
def Qm2 (_p0 : List aI) (_i0 : Nat) (_ah : List Val) : List (Nat × List PV) :=
  []
theorem Q1de (p0 : List aI) (_H : Qho p0) (i0 : Nat) (ah : List Val) (_aT : List.length ah ≤ i0) (bG : (decide ((i0 : Int) < ((List.length p0) : Int))) = false) : Qim p0 (Qgi p0 i0 ah) ah := by
 exact ⟨(envF (Qsc p0 i0 ah)), (zoF (Qm2 p0 i0 ah)), Qd (Q15x p0 i0 ah) (x := ((.exit 0), Qqp p0 ah (envF (Qsc p0 i0 ah)) (zoF (Qm2 p0 i0 ah)))) [hB 0 bG] [] (by kernel_rfl)⟩
theorem Q1at (p0 : List aI) (H : Qho p0) (x0 : aI) (i0 : Nat) (ah : List Val) (bU : p0[i0]? = some x0) (dG : i0 < List.length p0) (aT : List.length ah ≤ i0) (bG : (decide ((i0 : Int) < ((List.length p0) : Int))) = true) {r : Rs} (hr : Q0 G (Qgi p0 (i0 + 1) (ah ++ [(Q14w x0)])) r) : Q0 G (Qgi p0 i0 ah) r := by
 have hB0 := H.1
 exact Qc (Q15x p0 i0 ah) [hB 0 bG, hP 0 (Q2q 3 _ i0 _ (aI.Qg bU) rfl), hA 8 1 580 644 5 80 0 0 true Val.Q8 Val.Q1g ah (Q14w x0) (Val.Qh ah) rfl rfl (by omega), hS 0 true (Val.Q7 (ah ++ [(Q14w x0)]) 5 rfl), hP 1 (Q26 i0 (by omega))] [aN (Q2d1 x0 (H.2.1 x0 (Q2l bU)))] hr (by kernel_rfl)
theorem Q11m (p0 : List aI) (H : Qho p0) : ∀ (r0 : List aI) (i0 : Nat) (ah : List Val), List.drop i0 p0 = r0 → List.length ah ≤ i0 → Qim p0 (Qgi p0 i0 ah) (Q52 p0 r0 i0 ah)
 | [], i0, ah, hd, aT => by
  have bG : (decide ((i0 : Int) < ((List.length p0) : Int))) = false := by have := Q1c hd; simp; omega
  rw [Q52]
  exact Q1de p0 H i0 ah aT bG
 | x0 :: r0, i0, ah, hd, aT => by
  obtain ⟨bU, dG, hd'⟩ := Q19 hd
  have bG : (decide ((i0 : Int) < ((List.length p0) : Int))) = true := by simp; omega
  rw [Q52]
  exact Qvk p0 (fun r hr => Q1at p0 H x0 i0 ah bU dG aT bG hr) _ (Q11m p0 H r0 _ _ hd' (by first | omega | (simp; omega)))
def Q70 (p0 : List aI) : Val := vL (p0.map aI.enc)
theorem Q1a5 (p0 : List aI) : Q70 p0 = ((Qon (Q52 p0 p0 0 []))) := by
  rw [Qxs]
  rfl
def Q19m (p0 : List aI) : En := .call 261 [.sl (aI.rows p0), .fn 262 [] []] []
def Qtw (p0 : List aI) : Rs := .ret (.agg (Val.cells (Q70 p0))) []
def Qen (p0 : List aI) : Prop := LSm aI.sm p0
theorem Qdx (p0 : List aI) (H : Qen p0) : (Qho p0) ∧ (Qp1 (Q52 p0 p0 0 [])) ∧ True := by
  refine ⟨⟨Nat.le_trans H.1 (Nat.le_of_ble_eq_true rfl), H.2, trivial⟩, ⟨?_, trivial⟩, trivial⟩
  rw [Qxs]
  exact Q2r (fun _ h => aI.Q1u h) H
theorem Q1cm (p0 : List aI) (H : Qen p0) : Q0 G (Q19m p0) (Qtw p0) := by
 unfold Qtw
 rw [Q1a5]
 have hl0 := Q11m p0 ((Qdx p0 H).1) p0 0 [] (by simp) (by simp)
 obtain ⟨z0, gq, hl0⟩ := hl0
 exact Q5 (fn := Ir.K1f) (by kernel_rfl) VOK.nil [hP 3 (Qw _ _ (aI.Q8 p0)), hS 0 true (Val.Q7 (Q52 p0 p0 0 []) 5 rfl), hQ (Val.Q8 (Q52 p0 p0 0 [])).symm] [aV [(1, Val.rows (Q52 p0 p0 0 []))] hl0, aN (Qym (Q52 p0 p0 0 []) (Qdx p0 H).2.1)] (by kernel_rfl)
def Q14x (p0 : aM) : Val := aM.enc p0
theorem Q29s (p0 : aM) : Q14x p0 = ((Q4n ([(Qr Q3r (Q6p p0.gK)), (Qr Qb (Q6p p0.bI)), (Qr Q6 (Q2o p0.aR)), (Qr Qx (Q3b p0.bW)), (Qr Q1m (Q2b p0.dI))]))) := by
  exact Eq.symm (Q6r (by exact Nat.le_of_ble_eq_true rfl) (by kernel_rfl))
def Q26v (p0 : aM) : En := .call 264 [.agg (aM.cells p0)] []
def Q1wu (p0 : aM) : Rs := .ret (.agg (Val.cells (Q14x p0))) []
def Q1q9 (p0 : aM) : Prop := aM.sm p0
theorem Q178 (p0 : aM) (H : Q1q9 p0) : (Q7w p0.aR) ∧ (Q83 ([(Qr Q3r (Q6p p0.gK)), (Qr Qb (Q6p p0.bI)), (Qr Q6 (Q2o p0.aR)), (Qr Qx (Q3b p0.bW)), (Qr Q1m (Q2b p0.dI))])) ∧ True := by
  repeat' with_reducible apply And.intro
  all_goals first | exact True.intro | exact H | exact H.1 | exact H.2.1 | exact H.2.2.1 | exact H.2.2.2.1 | exact H.2.2.2.2.1 | exact H.2.2.2.2.2.1 | exact H.2.2.2.2.2.2.1 | exact H.2.2.2.2.2.2.2.1 | exact H.2.2.2.2.2.2.2.2.1 | exact H.2.2.2.2.2.2.2.2.2.1 | exact H.2.2.2.2.2.2.2.2.2.2.1 | exact H.2.2.2.2.2.2.2.2.2.2.2.1 | exact Q8p (by exact Nat.le_of_ble_eq_true rfl) (aM.Q1u H).all.2.2.2
theorem Q2d2 (p0 : aM) (H : Q1q9 p0) : Q0 G (Q26v p0) (Q1wu p0) := by
 unfold Q1wu
 rw [Q29s]
 exact Q5 (fn := Ir.K14) (by kernel_rfl) VOK.nil [] [aN (Q1cy p0.gK), aN (Q44 Q3r (Q6p p0.gK)), aN (Q1cy p0.bI), aN (Q44 Qb (Q6p p0.bI)), aN (Qc1 p0.aR (Q178 p0 H).1), aN (Q44 Q6 (Q2o p0.aR)), aN (Qfj p0.bW), aN (Q44 Qx (Q3b p0.bW)), aN (Qap p0.dI), aN (Q44 Q1m (Q2b p0.dI)), aN (Q4o (e' := .call 78 [.sl [(Fld.cells (Qr Q3r (Q6p p0.gK))), (Fld.cells (Qr Qb (Q6p p0.bI))), (Fld.cells (Qr Q6 (Q2o p0.aR))), (Fld.cells (Qr Qx (Q3b p0.bW))), (Fld.cells (Qr Q1m (Q2b p0.dI)))]] []) (Q93 ([(Qr Q3r (Q6p p0.gK)), (Qr Qb (Q6p p0.bI)), (Qr Q6 (Q2o p0.aR)), (Qr Qx (Q3b p0.bW)), (Qr Q1m (Q2b p0.dI))]) (Q178 p0 H).2.1) (by simp only [Q8c, Fld.Qm, Fld.Q11]))] (by kernel_rfl)
def Q53 (p0 : List aM) : List aM → Nat → (List Val) → List Val
 | [], _i0, ah =>
  ah
 | x0 :: r0, i0, ah =>
  Q53 p0 r0 (i0 + 1) (ah ++ [(Q14x x0)])
theorem Qxt (p0 : List aM) : ∀ (l : List aM) (i : Nat) (a : List Val), Q53 p0 l i a = a ++ l.map (fun x0 => (Q14x x0))
  | [], _, _ => by simp [Q53]
  | x :: r, i, a => by rw [Q53, Qxt p0 r]; simp
def Q1f1 (p0 : List aM) (i0 : Nat) (ah : List Val) : List PV :=
  [.un, .fn 264 [] [], .un, .un, .bx 0 0, .ms 1 5 0 (List.length ah), .un, .un, .sl (aM.rows p0), iN ((List.length p0) : Int), iN (i0 : Int)] ++ nuns 12
def Qyx (_p0 : List aM) (_i0 : Nat) (ah : List Val) : List Ob :=
  [⟨5, 0, true, [iN 0, iN 0, .str eB, .ms 2 5 0 0, .ms 3 6 0 0]⟩, ⟨5, 0, true, (Val.rows ah).flatten⟩, ⟨5, 0, true, []⟩, ⟨6, 0, true, []⟩]
def Qgj (p0 : List aM) (i0 : Nat) (ah : List Val) : En := .loop 0 Ir.Qkd Ir.Q1ob (Q1f1 p0 i0 ah) (Qyx p0 i0 ah)
def Qqq (_p0 : List aM) (q0 : List Val) (z : Nat → PV) (_zo : Nat → List PV) : St :=
  ⟨[z 0, z 1, z 2, z 3, .bx 0 0, .ms 1 5 0 (List.length q0)] ++ zr z 6 17, [(0, ⟨5, 0, true, [iN 0, iN 0, .str eB, .ms 2 5 0 0, .ms 3 6 0 0]⟩), (1, ⟨5, 0, true, (Val.rows q0).flatten⟩), (2, ⟨5, 0, true, []⟩), (3, ⟨6, 0, true, []⟩)], 68⟩
theorem Q15y (p0 : List aM) (i0 : Nat) (ah : List Val) : VOK (Go.Pv.look (number 0 (Qyx p0 i0 ah))) [(1, Val.rows ah)] := (VOK.cons (show Seen _ _ from Q3o (ob := ⟨5, 0, true, (Val.rows ah).flatten⟩) (Val.Q7 ah 5 rfl)) VOK.nil)
def Qin (p0 : List aM) (e : En) (q : List Val) : Prop := ∃ z zo, Q0 G e (.st (.exit 0) (Qqq p0 q z zo))
theorem Qvl (p0 : List aM) {e e' : En} (h : ∀ r, Q0 G e r → Q0 G e' r) : ∀ q, Qin p0 e q → Qin p0 e' q
  | _, ⟨z, zo, hz⟩ => ⟨z, zo, h _ hz⟩
def Qhp (p0 : List aM) : Prop := (List.length p0 ≤ 137438953472) ∧ (∀ x0 ∈ p0, Q1q9 x0) ∧ True
def Qsd (p0 : List aM) (i0 : Nat) (_ah : List Val) : List PV :=
  [.un, .fn 264 [] []] ++ nuns 6 ++ [.sl (aM.rows p0), iN ((List.length p0) : Int), iN (i0 : Int), .bool false]
def Qm3 (_p0 : List aM) (_i0 : Nat) (_ah : List Val) : List (Nat × List PV) :=
  []
theorem Q1df (p0 : List aM) (_H : Qhp p0) (i0 : Nat) (ah : List Val) (_aT : List.length ah ≤ i0) (bG : (decide ((i0 : Int) < ((List.length p0) : Int))) = false) : Qin p0 (Qgj p0 i0 ah) ah := by
 exact ⟨(envF (Qsd p0 i0 ah)), (zoF (Qm3 p0 i0 ah)), Qd (Q15y p0 i0 ah) (x := ((.exit 0), Qqq p0 ah (envF (Qsd p0 i0 ah)) (zoF (Qm3 p0 i0 ah)))) [hB 0 bG] [] (by kernel_rfl)⟩
theorem Q1au (p0 : List aM) (H : Qhp p0) (x0 : aM) (i0 : Nat) (ah : List Val) (bU : p0[i0]? = some x0) (dG : i0 < List.length p0) (aT : List.length ah ≤ i0) (bG : (decide ((i0 : Int) < ((List.length p0) : Int))) = true) {r : Rs} (hr : Q0 G (Qgj p0 (i0 + 1) (ah ++ [(Q14x x0)])) r) : Q0 G (Qgj p0 i0 ah) r := by
 have hB0 := H.1
 exact Qc (Q15y p0 i0 ah) [hB 0 bG, hP 0 (Q2q 5 _ i0 _ (aM.Qg bU) rfl), hA 8 1 580 644 5 80 0 0 true Val.Q8 Val.Q1g ah (Q14x x0) (Val.Qh ah) rfl rfl (by omega), hS 0 true (Val.Q7 (ah ++ [(Q14x x0)]) 5 rfl), hP 1 (Q26 i0 (by omega))] [aN (Q2d2 x0 (H.2.1 x0 (Q2l bU)))] hr (by kernel_rfl)
theorem Q11n (p0 : List aM) (H : Qhp p0) : ∀ (r0 : List aM) (i0 : Nat) (ah : List Val), List.drop i0 p0 = r0 → List.length ah ≤ i0 → Qin p0 (Qgj p0 i0 ah) (Q53 p0 r0 i0 ah)
 | [], i0, ah, hd, aT => by
  have bG : (decide ((i0 : Int) < ((List.length p0) : Int))) = false := by have := Q1c hd; simp; omega
  rw [Q53]
  exact Q1df p0 H i0 ah aT bG
 | x0 :: r0, i0, ah, hd, aT => by
  obtain ⟨bU, dG, hd'⟩ := Q19 hd
  have bG : (decide ((i0 : Int) < ((List.length p0) : Int))) = true := by simp; omega
  rw [Q53]
  exact Qvl p0 (fun r hr => Q1au p0 H x0 i0 ah bU dG aT bG hr) _ (Q11n p0 H r0 _ _ hd' (by first | omega | (simp; omega)))
def Q71 (p0 : List aM) : Val := vL (p0.map aM.enc)
theorem Q1a6 (p0 : List aM) : Q71 p0 = ((Qon (Q53 p0 p0 0 []))) := by
  rw [Qxt]
  rfl
def Q19n (p0 : List aM) : En := .call 263 [.sl (aM.rows p0), .fn 264 [] []] []
def Qtx (p0 : List aM) : Rs := .ret (.agg (Val.cells (Q71 p0))) []
def Qeo (p0 : List aM) : Prop := LSm aM.sm p0
theorem Qdy (p0 : List aM) (H : Qeo p0) : (Qhp p0) ∧ (Qp1 (Q53 p0 p0 0 [])) ∧ True := by
  refine ⟨⟨Nat.le_trans H.1 (Nat.le_of_ble_eq_true rfl), H.2, trivial⟩, ⟨?_, trivial⟩, trivial⟩
  rw [Qxt]
  exact Q2r (fun _ h => aM.Q1u h) H
theorem Q1cn (p0 : List aM) (H : Qeo p0) : Q0 G (Q19n p0) (Qtx p0) := by
 unfold Qtx
 rw [Q1a6]
 have hl0 := Q11n p0 ((Qdy p0 H).1) p0 0 [] (by simp) (by simp)
 obtain ⟨z0, gq, hl0⟩ := hl0
 exact Q5 (fn := Ir.K1g) (by kernel_rfl) VOK.nil [hP 3 (Qw _ _ (aM.Q8 p0)), hS 0 true (Val.Q7 (Q53 p0 p0 0 []) 5 rfl), hQ (Val.Q8 (Q53 p0 p0 0 [])).symm] [aV [(1, Val.rows (Q53 p0 p0 0 []))] hl0, aN (Qym (Q53 p0 p0 0 []) (Qdy p0 H).2.1)] (by kernel_rfl)
def Q151 (p0 : aC) : Val := aC.enc p0
theorem Q29x (p0 : aC) : Q151 p0 = ((Q4n ([(Qr Q28 (Q2b p0.eT)), (Qr Qb (Q6p p0.bI)), (Qr Q6 (Q2o p0.aR)), (Qr Qx (Q3b p0.bW))]))) := by
  exact Eq.symm (Q6r (by exact Nat.le_of_ble_eq_true rfl) (by kernel_rfl))
def Q270 (p0 : aC) : En := .call 266 [.agg (aC.cells p0)] []
def Q1wz (p0 : aC) : Rs := .ret (.agg (Val.cells (Q151 p0))) []
def Q1qd (p0 : aC) : Prop := aC.sm p0
theorem Q17a (p0 : aC) (H : Q1qd p0) : (Q7w p0.aR) ∧ (Q83 ([(Qr Q28 (Q2b p0.eT)), (Qr Qb (Q6p p0.bI)), (Qr Q6 (Q2o p0.aR)), (Qr Qx (Q3b p0.bW))])) ∧ True := by
  repeat' with_reducible apply And.intro
  all_goals first | exact True.intro | exact H | exact H.1 | exact H.2.1 | exact H.2.2.1 | exact H.2.2.2.1 | exact H.2.2.2.2.1 | exact H.2.2.2.2.2.1 | exact H.2.2.2.2.2.2.1 | exact H.2.2.2.2.2.2.2.1 | exact H.2.2.2.2.2.2.2.2.1 | exact H.2.2.2.2.2.2.2.2.2.1 | exact H.2.2.2.2.2.2.2.2.2.2.1 | exact H.2.2.2.2.2.2.2.2.2.2.2.1 | exact Q8p (by exact Nat.le_of_ble_eq_true rfl) (aC.Q1u H).all.2.2.2
theorem Q2d6 (p0 : aC) (H : Q1qd p0) : Q0 G (Q270 p0) (Q1wz p0) := by
 unfold Q1wz
 rw [Q29x]
 exact Q5 (fn := Ir.K19) (by kernel_rfl) VOK.nil [] [aN (Qap p0.eT), aN (Q44 Q28 (Q2b p0.eT)), aN (Q1cy p0.bI), aN (Q44 Qb (Q6p p0.bI)), aN (Qc1 p0.aR (Q17a p0 H).1), aN (Q44 Q6 (Q2o p0.aR)), aN (Qfj p0.bW), aN (Q44 Qx (Q3b p0.bW)), aN (Q4o (e' := .call 78 [.sl [(Fld.cells (Qr Q28 (Q2b p0.eT))), (Fld.cells (Qr Qb (Q6p p0.bI))), (Fld.cells (Qr Q6 (Q2o p0.aR))), (Fld.cells (Qr Qx (Q3b p0.bW)))]] []) (Q93 ([(Qr Q28 (Q2b p0.eT)), (Qr Qb (Q6p p0.bI)), (Qr Q6 (Q2o p0.aR)), (Qr Qx (Q3b p0.bW))]) (Q17a p0 H).2.1) (by simp only [Q8c, Fld.Qm, Fld.Q11]))] (by kernel_rfl)
def Q54 (p0 : List aC) : List aC → Nat → (List Val) → List Val
 | [], _i0, ah =>
  ah
 | x0 :: r0, i0, ah =>
  Q54 p0 r0 (i0 + 1) (ah ++ [(Q151 x0)])
theorem Qxu (p0 : List aC) : ∀ (l : List aC) (i : Nat) (a : List Val), Q54 p0 l i a = a ++ l.map (fun x0 => (Q151 x0))
  | [], _, _ => by simp [Q54]
  | x :: r, i, a => by rw [Q54, Qxu p0 r]; simp
def Q1f2 (p0 : List aC) (i0 : Nat) (ah : List Val) : List PV :=
  [.un, .fn 266 [] [], .un, .un, .bx 0 0, .ms 1 5 0 (List.length ah), .un, .un, .sl (aC.rows p0), iN ((List.length p0) : Int), iN (i0 : Int)] ++ nuns 12
def Qyy (_p0 : List aC) (_i0 : Nat) (ah : List Val) : List Ob :=
  [⟨5, 0, true, [iN 0, iN 0, .str eB, .ms 2 5 0 0, .ms 3 6 0 0]⟩, ⟨5, 0, true, (Val.rows ah).flatten⟩, ⟨5, 0, true, []⟩, ⟨6, 0, true, []⟩]
def Qgk (p0 : List aC) (i0 : Nat) (ah : List Val) : En := .loop 0 Ir.Qke Ir.Q1oc (Q1f2 p0 i0 ah) (Qyy p0 i0 ah)
def Qqr (_p0 : List aC) (q0 : List Val) (z : Nat → PV) (_zo : Nat → List PV) : St :=
  ⟨[z 0, z 1, z 2, z 3, .bx 0 0, .ms 1 5 0 (List.length q0)] ++ zr z 6 17, [(0, ⟨5, 0, true, [iN 0, iN 0, .str eB, .ms 2 5 0 0, .ms 3 6 0 0]⟩), (1, ⟨5, 0, true, (Val.rows q0).flatten⟩), (2, ⟨5, 0, true, []⟩), (3, ⟨6, 0, true, []⟩)], 68⟩
theorem Q15z (p0 : List aC) (i0 : Nat) (ah : List Val) : VOK (Go.Pv.look (number 0 (Qyy p0 i0 ah))) [(1, Val.rows ah)] := (VOK.cons (show Seen _ _ from Q3o (ob := ⟨5, 0, true, (Val.rows ah).flatten⟩) (Val.Q7 ah 5 rfl)) VOK.nil)
def Qio (p0 : List aC) (e : En) (q : List Val) : Prop := ∃ z zo, Q0 G e (.st (.exit 0) (Qqr p0 q z zo))
theorem Qvm (p0 : List aC) {e e' : En} (h : ∀ r, Q0 G e r → Q0 G e' r) : ∀ q, Qio p0 e q → Qio p0 e' q
  | _, ⟨z, zo, hz⟩ => ⟨z, zo, h _ hz⟩
def Qhq (p0 : List aC) : Prop := (List.length p0 ≤ 137438953472) ∧ (∀ x0 ∈ p0, Q1qd x0) ∧ True
def Qse (p0 : List aC) (i0 : Nat) (_ah : List Val) : List PV :=
  [.un, .fn 266 [] []] ++ nuns 6 ++ [.sl (aC.rows p0), iN ((List.length p0) : Int), iN (i0 : Int), .bool false]
def Qm4 (_p0 : List aC) (_i0 : Nat) (_ah : List Val) : List (Nat × List PV) :=
  []
theorem Q1dg (p0 : List aC) (_H : Qhq p0) (i0 : Nat) (ah : List Val) (_aT : List.length ah ≤ i0) (bG : (decide ((i0 : Int) < ((List.length p0) : Int))) = false) : Qio p0 (Qgk p0 i0 ah) ah := by
 exact ⟨(envF (Qse p0 i0 ah)), (zoF (Qm4 p0 i0 ah)), Qd (Q15z p0 i0 ah) (x := ((.exit 0), Qqr p0 ah (envF (Qse p0 i0 ah)) (zoF (Qm4 p0 i0 ah)))) [hB 0 bG] [] (by kernel_rfl)⟩
theorem Q1av (p0 : List aC) (H : Qhq p0) (x0 : aC) (i0 : Nat) (ah : List Val) (bU : p0[i0]? = some x0) (dG : i0 < List.length p0) (aT : List.length ah ≤ i0) (bG : (decide ((i0 : Int) < ((List.length p0) : Int))) = true) {r : Rs} (hr : Q0 G (Qgk p0 (i0 + 1) (ah ++ [(Q151 x0)])) r) : Q0 G (Qgk p0 i0 ah) r := by
 have hB0 := H.1
 exact Qc (Q15z p0 i0 ah) [hB 0 bG, hP 0 (Q2q 4 _ i0 _ (aC.Qg bU) rfl), hA 8 1 580 644 5 80 0 0 true Val.Q8 Val.Q1g ah (Q151 x0) (Val.Qh ah) rfl rfl (by omega), hS 0 true (Val.Q7 (ah ++ [(Q151 x0)]) 5 rfl), hP 1 (Q26 i0 (by omega))] [aN (Q2d6 x0 (H.2.1 x0 (Q2l bU)))] hr (by kernel_rfl)
theorem Q11o (p0 : List aC) (H : Qhq p0) : ∀ (r0 : List aC) (i0 : Nat) (ah : List Val), List.drop i0 p0 = r0 → List.length ah ≤ i0 → Qio p0 (Qgk p0 i0 ah) (Q54 p0 r0 i0 ah)
 | [], i0, ah, hd, aT => by
  have bG : (decide ((i0 : Int) < ((List.length p0) : Int))) = false := by have := Q1c hd; simp; omega
  rw [Q54]
  exact Q1dg p0 H i0 ah aT bG
 | x0 :: r0, i0, ah, hd, aT => by
  obtain ⟨bU, dG, hd'⟩ := Q19 hd
  have bG : (decide ((i0 : Int) < ((List.length p0) : Int))) = true := by simp; omega
  rw [Q54]
  exact Qvm p0 (fun r hr => Q1av p0 H x0 i0 ah bU dG aT bG hr) _ (Q11o p0 H r0 _ _ hd' (by first | omega | (simp; omega)))
def Q72 (p0 : List aC) : Val := vL (p0.map aC.enc)
theorem Q1a7 (p0 : List aC) : Q72 p0 = ((Qon (Q54 p0 p0 0 []))) := by
  rw [Qxu]
  rfl
def Q19o (p0 : List aC) : En := .call 265 [.sl (aC.rows p0), .fn 266 [] []] []
def Qty (p0 : List aC) : Rs := .ret (.agg (Val.cells (Q72 p0))) []
def Qep (p0 : List aC) : Prop := LSm aC.sm p0
theorem Qdz (p0 : List aC) (H : Qep p0) : (Qhq p0) ∧ (Qp1 (Q54 p0 p0 0 [])) ∧ True := by
  refine ⟨⟨Nat.le_trans H.1 (Nat.le_of_ble_eq_true rfl), H.2, trivial⟩, ⟨?_, trivial⟩, trivial⟩
  rw [Qxu]
  exact Q2r (fun _ h => aC.Q1u h) H
theorem Q1co (p0 : List aC) (H : Qep p0) : Q0 G (Q19o p0) (Qty p0) := by
 unfold Qty
 rw [Q1a7]
 have hl0 := Q11o p0 ((Qdz p0 H).1) p0 0 [] (by simp) (by simp)
 obtain ⟨z0, gq, hl0⟩ := hl0
 exact Q5 (fn := Ir.K1h) (by kernel_rfl) VOK.nil [hP 3 (Qw _ _ (aC.Q8 p0)), hS 0 true (Val.Q7 (Q54 p0 p0 0 []) 5 rfl), hQ (Val.Q8 (Q54 p0 p0 0 [])).symm] [aV [(1, Val.rows (Q54 p0 p0 0 []))] hl0, aN (Qym (Q54 p0 p0 0 []) (Qdz p0 H).2.1)] (by kernel_rfl)
def Q152 (p0 : aA) : Val := aA.enc p0
theorem Q29y (p0 : aA) : Q152 p0 = ((Q4n ([(Qr Q39 (Q2b p0.fF)), (Qr Q2w (Q6p p0.eG)), (Qr Q13 (Q3b p0.key)), (Qr Q33 (Q2b p0.eX)), (Qr Q1p (Q3b p0.value))]))) := by
  exact Eq.symm (Q6r (by exact Nat.le_of_ble_eq_true rfl) (by kernel_rfl))
def Q271 (p0 : aA) : En := .call 268 [.agg (aA.cells p0)] []
def Q1x0 (p0 : aA) : Rs := .ret (.agg (Val.cells (Q152 p0))) []
def Q1qe (p0 : aA) : Prop := aA.sm p0
theorem Q1m6 (p0 : aA) (H : Q1qe p0) : (Q83 ([(Qr Q39 (Q2b p0.fF)), (Qr Q2w (Q6p p0.eG)), (Qr Q13 (Q3b p0.key)), (Qr Q33 (Q2b p0.eX)), (Qr Q1p (Q3b p0.value))])) ∧ True := by
  repeat' with_reducible apply And.intro
  all_goals first | exact True.intro | exact H | exact H.1 | exact H.2.1 | exact H.2.2.1 | exact H.2.2.2.1 | exact H.2.2.2.2.1 | exact H.2.2.2.2.2.1 | exact H.2.2.2.2.2.2.1 | exact H.2.2.2.2.2.2.2.1 | exact H.2.2.2.2.2.2.2.2.1 | exact H.2.2.2.2.2.2.2.2.2.1 | exact H.2.2.2.2.2.2.2.2.2.2.1 | exact H.2.2.2.2.2.2.2.2.2.2.2.1 | exact Q8p (by exact Nat.le_of_ble_eq_true rfl) (aA.Q1u H).all.2.2.2
theorem Q2d7 (p0 : aA) (H : Q1qe p0) : Q0 G (Q271 p0) (Q1x0 p0) := by
 unfold Q1x0
 rw [Q29y]
 exact Q5 (fn := Ir.K1a) (by kernel_rfl) VOK.nil [] [aN (Qap p0.fF), aN (Q44 Q39 (Q2b p0.fF)), aN (Q1cy p0.eG), aN (Q44 Q2w (Q6p p0.eG)), aN (Qfj p0.key), aN (Q44 Q13 (Q3b p0.key)), aN (Qap p0.eX), aN (Q44 Q33 (Q2b p0.eX)), aN (Qfj p0.value), aN (Q44 Q1p (Q3b p0.value)), aN (Q4o (e' := .call 78 [.sl [(Fld.cells (Qr Q39 (Q2b p0.fF))), (Fld.cells (Qr Q2w (Q6p p0.eG))), (Fld.cells (Qr Q13 (Q3b p0.key))), (Fld.cells (Qr Q33 (Q2b p0.eX))), (Fld.cells (Qr Q1p (Q3b p0.value)))]] []) (Q93 ([(Qr Q39 (Q2b p0.fF)), (Qr Q2w (Q6p p0.eG)), (Qr Q13 (Q3b p0.key)), (Qr Q33 (Q2b p0.eX)), (Qr Q1p (Q3b p0.value))]) (Q1m6 p0 H).1) (by simp only [Q8c, Fld.Qm, Fld.Q11]))] (by kernel_rfl)
def Q55 (p0 : List aA) : List aA → Nat → (List Val) → List Val
 | [], _i0, ah =>
  ah
 | x0 :: r0, i0, ah =>
  Q55 p0 r0 (i0 + 1) (ah ++ [(Q152 x0)])
theorem Qxv (p0 : List aA) : ∀ (l : List aA) (i : Nat) (a : List Val), Q55 p0 l i a = a ++ l.map (fun x0 => (Q152 x0))
  | [], _, _ => by simp [Q55]
  | x :: r, i, a => by rw [Q55, Qxv p0 r]; simp
def Q1f3 (p0 : List aA) (i0 : Nat) (ah : List Val) : List PV :=
  [.un, .fn 268 [] [], .un, .un, .bx 0 0, .ms 1 5 0 (List.length ah), .un, .un, .sl (aA.rows p0), iN ((List.length p0) : Int), iN (i0 : Int)] ++ nuns 12
def Qyz (_p0 : List aA) (_i0 : Nat) (ah : List Val) : List Ob :=
  [⟨5, 0, true, [iN 0, iN 0, .str eB, .ms 2 5 0 0, .ms 3 6 0 0]⟩, ⟨5, 0, true, (Val.rows ah).flatten⟩, ⟨5, 0, true, []⟩, ⟨6, 0, true, []⟩]
def Qgl (p0 : List aA) (i0 : Nat) (ah : List Val) : En := .loop 0 Ir.Qkf Ir.Q1od (Q1f3 p0 i0 ah) (Qyz p0 i0 ah)
def Qqs (_p0 : List aA) (q0 : List Val) (z : Nat → PV) (_zo : Nat → List PV) : St :=
  ⟨[z 0, z 1, z 2, z 3, .bx 0 0, .ms 1 5 0 (List.length q0)] ++ zr z 6 17, [(0, ⟨5, 0, true, [iN 0, iN 0, .str eB, .ms 2 5 0 0, .ms 3 6 0 0]⟩), (1, ⟨5, 0, true, (Val.rows q0).flatten⟩), (2, ⟨5, 0, true, []⟩), (3, ⟨6, 0, true, []⟩)], 68⟩
theorem Q160 (p0 : List aA) (i0 : Nat) (ah : List Val) : VOK (Go.Pv.look (number 0 (Qyz p0 i0 ah))) [(1, Val.rows ah)] := (VOK.cons (show Seen _ _ from Q3o (ob := ⟨5, 0, true, (Val.rows ah).flatten⟩) (Val.Q7 ah 5 rfl)) VOK.nil)
def Qip (p0 : List aA) (e : En) (q : List Val) : Prop := ∃ z zo, Q0 G e (.st (.exit 0) (Qqs p0 q z zo))
theorem Qvn (p0 : List aA) {e e' : En} (h : ∀ r, Q0 G e r → Q0 G e' r) : ∀ q, Qip p0 e q → Qip p0 e' q
  | _, ⟨z, zo, hz⟩ => ⟨z, zo, h _ hz⟩
def Qhr (p0 : List aA) : Prop := (List.length p0 ≤ 137438953472) ∧ (∀ x0 ∈ p0, Q1qe x0) ∧ True
def Qsf (p0 : List aA) (i0 : Nat) (_ah : List Val) : List PV :=
  [.un, .fn 268 [] []] ++ nuns 6 ++ [.sl (aA.rows p0), iN ((List.length p0) : Int), iN (i0 : Int), .bool false]
def Qm5 (_p0 : List aA) (_i0 : Nat) (_ah : List Val) : List (Nat × List PV) :=
  []
theorem Q1dh (p0 : List aA) (_H : Qhr p0) (i0 : Nat) (ah : List Val) (_aT : List.length ah ≤ i0) (bG : (decide ((i0 : Int) < ((List.length p0) : Int))) = false) : Qip p0 (Qgl p0 i0 ah) ah := by
 exact ⟨(envF (Qsf p0 i0 ah)), (zoF (Qm5 p0 i0 ah)), Qd (Q160 p0 i0 ah) (x := ((.exit 0), Qqs p0 ah (envF (Qsf p0 i0 ah)) (zoF (Qm5 p0 i0 ah)))) [hB 0 bG] [] (by kernel_rfl)⟩
theorem Q1aw (p0 : List aA) (H : Qhr p0) (x0 : aA) (i0 : Nat) (ah : List Val) (bU : p0[i0]? = some x0) (dG : i0 < List.length p0) (aT : List.length ah ≤ i0) (bG : (decide ((i0 : Int) < ((List.length p0) : Int))) = true) {r : Rs} (hr : Q0 G (Qgl p0 (i0 + 1) (ah ++ [(Q152 x0)])) r) : Q0 G (Qgl p0 i0 ah) r := by
 have hB0 := H.1
 exact Qc (Q160 p0 i0 ah) [hB 0 bG, hP 0 (Q2q 5 _ i0 _ (aA.Qg bU) rfl), hA 8 1 580 644 5 80 0 0 true Val.Q8 Val.Q1g ah (Q152 x0) (Val.Qh ah) rfl rfl (by omega), hS 0 true (Val.Q7 (ah ++ [(Q152 x0)]) 5 rfl), hP 1 (Q26 i0 (by omega))] [aN (Q2d7 x0 (H.2.1 x0 (Q2l bU)))] hr (by kernel_rfl)
theorem Q11p (p0 : List aA) (H : Qhr p0) : ∀ (r0 : List aA) (i0 : Nat) (ah : List Val), List.drop i0 p0 = r0 → List.length ah ≤ i0 → Qip p0 (Qgl p0 i0 ah) (Q55 p0 r0 i0 ah)
 | [], i0, ah, hd, aT => by
  have bG : (decide ((i0 : Int) < ((List.length p0) : Int))) = false := by have := Q1c hd; simp; omega
  rw [Q55]
  exact Q1dh p0 H i0 ah aT bG
 | x0 :: r0, i0, ah, hd, aT => by
  obtain ⟨bU, dG, hd'⟩ := Q19 hd
  have bG : (decide ((i0 : Int) < ((List.length p0) : Int))) = true := by simp; omega
  rw [Q55]
  exact Qvn p0 (fun r hr => Q1aw p0 H x0 i0 ah bU dG aT bG hr) _ (Q11p p0 H r0 _ _ hd' (by first | omega | (simp; omega)))
def Q73 (p0 : List aA) : Val := vL (p0.map aA.enc)
theorem Q1a8 (p0 : List aA) : Q73 p0 = ((Qon (Q55 p0 p0 0 []))) := by
  rw [Qxv]
  rfl
def Q19p (p0 : List aA) : En := .call 267 [.sl (aA.rows p0), .fn 268 [] []] []
def Qtz (p0 : List aA) : Rs := .ret (.agg (Val.cells (Q73 p0))) []
def Qeq (p0 : List aA) : Prop := LSm aA.sm p0
theorem Qe0 (p0 : List aA) (H : Qeq p0) : (Qhr p0) ∧ (Qp1 (Q55 p0 p0 0 [])) ∧ True := by
  refine ⟨⟨Nat.le_trans H.1 (Nat.le_of_ble_eq_true rfl), H.2, trivial⟩, ⟨?_, trivial⟩, trivial⟩
  rw [Qxv]
  exact Q2r (fun _ h => aA.Q1u h) H
theorem Q1cp (p0 : List aA) (H : Qeq p0) : Q0 G (Q19p p0) (Qtz p0) := by
 unfold Qtz
 rw [Q1a8]
 have hl0 := Q11p p0 ((Qe0 p0 H).1) p0 0 [] (by simp) (by simp)
 obtain ⟨z0, gq, hl0⟩ := hl0
 exact Q5 (fn := Ir.K1i) (by kernel_rfl) VOK.nil [hP 3 (Qw _ _ (aA.Q8 p0)), hS 0 true (Val.Q7 (Q55 p0 p0 0 []) 5 rfl), hQ (Val.Q8 (Q55 p0 p0 0 [])).symm] [aV [(1, Val.rows (Q55 p0 p0 0 []))] hl0, aN (Qym (Q55 p0 p0 0 []) (Qe0 p0 H).2.1)] (by kernel_rfl)
def Q150 (p0 : aY) : Val := aY.enc p0
theorem Q29w (p0 : aY) : Q150 p0 = ((Q4n ([(Qr Q1d (Q6z p0.bZ)), (Qr Q35 (Q2b p0.fD)), (Qr Q37 (Q3b p0.fV)), (Qr Q17 (Q2o p0.bL)), (Qr Q1y (Q70 p0.cO)), (Qr Q2j (Q71 p0.dw)), (Qr Q1f (Q2b p0.dH)), (Qr Q1v (Q2b p0.dO)), (Qr Q3k (Q72 p0.dR)), (Qr Q2a (Q73 p0.bP))]))) := by
  exact Eq.symm (Q6r (by exact Nat.le_of_ble_eq_true rfl) (by kernel_rfl))
def Q26z (p0 : aY) : En := .call 229 [.agg (aY.cells p0)] []
def Q1wy (p0 : aY) : Rs := .ret (.agg (Val.cells (Q150 p0))) []
def Q1qc (p0 : aY) : Prop := aY.sm p0
theorem Qa6 (p0 : aY) (H : Q1qc p0) : (Qem p0.bZ) ∧ (Q7w p0.bL) ∧ (Qen p0.cO) ∧ (Qeo p0.dw) ∧ (Qep p0.dR) ∧ (Qeq p0.bP) ∧ (Q83 ([(Qr Q1d (Q6z p0.bZ)), (Qr Q35 (Q2b p0.fD)), (Qr Q37 (Q3b p0.fV)), (Qr Q17 (Q2o p0.bL)), (Qr Q1y (Q70 p0.cO)), (Qr Q2j (Q71 p0.dw)), (Qr Q1f (Q2b p0.dH)), (Qr Q1v (Q2b p0.dO)), (Qr Q3k (Q72 p0.dR)), (Qr Q2a (Q73 p0.bP))])) ∧ True := by
  repeat' with_reducible apply And.intro
  all_goals first | exact True.intro | exact H | exact H.1 | exact H.2.1 | exact H.2.2.1 | exact H.2.2.2.1 | exact H.2.2.2.2.1 | exact H.2.2.2.2.2.1 | exact H.2.2.2.2.2.2.1 | exact H.2.2.2.2.2.2.2.1 | exact H.2.2.2.2.2.2.2.2.1 | exact H.2.2.2.2.2.2.2.2.2.1 | exact H.2.2.2.2.2.2.2.2.2.2.1 | exact H.2.2.2.2.2.2.2.2.2.2.2.1 | exact Q8p (by exact Nat.le_of_ble_eq_true rfl) (aY.Q1u H).all.2.2.2
theorem Q2d5 (p0 : aY) (H : Q1qc p0) : Q0 G (Q26z p0) (Q1wy p0) := by
 unfold Q1wy
 rw [Q29w]
 exact Q5 (fn := Ir.K18) (by kernel_rfl) VOK.nil [] [aN (Q1cl p0.bZ (Qa6 p0 H).1), aN (Q44 Q1d (Q6z p0.bZ)), aN (Qap p0.fD), aN (Q44 Q35 (Q2b p0.fD)), aN (Qfj p0.fV), aN (Q44 Q37 (Q3b p0.fV)), aN (Qc1 p0.bL (Qa6 p0 H).2.1), aN (Q44 Q17 (Q2o p0.bL)), aN (Q1cm p0.cO (Qa6 p0 H).2.2.1), aN (Q44 Q1y (Q70 p0.cO)), aN (Q1cn p0.dw (Qa6 p0 H).2.2.2.1), aN (Q44 Q2j (Q71 p0.dw)), aN (Qap p0.dH), aN (Q44 Q1f (Q2b p0.dH)), aN (Qap p0.dO), aN (Q44 Q1v (Q2b p0.dO)), aN (Q1co p0.dR (Qa6 p0 H).2.2.2.2.1), aN (Q44 Q3k (Q72 p0.dR)), aN (Q1cp p0.bP (Qa6 p0 H).2.2.2.2.2.1), aN (Q44 Q2a (Q73 p0.bP)), aN (Q4o (e' := .call 78 [.sl [(Fld.cells (Qr Q1d (Q6z p0.bZ))), (Fld.cells (Qr Q35 (Q2b p0.fD))), (Fld.cells (Qr Q37 (Q3b p0.fV))), (Fld.cells (Qr Q17 (Q2o p0.bL))), (Fld.cells (Qr Q1y (Q70 p0.cO))), (Fld.cells (Qr Q2j (Q71 p0.dw))), (Fld.cells (Qr Q1f (Q2b p0.dH))), (Fld.cells (Qr Q1v (Q2b p0.dO))), (Fld.cells (Qr Q3k (Q72 p0.dR))), (Fld.cells (Qr Q2a (Q73 p0.bP)))]] []) (Q93 ([(Qr Q1d (Q6z p0.bZ)), (Qr Q35 (Q2b p0.fD)), (Qr Q37 (Q3b p0.fV)), (Qr Q17 (Q2o p0.bL)), (Qr Q1y (Q70 p0.cO)), (Qr Q2j (Q71 p0.dw)), (Qr Q1f (Q2b p0.dH)), (Qr Q1v (Q2b p0.dO)), (Qr Q3k (Q72 p0.dR)), (Qr Q2a (Q73 p0.bP))]) (Qa6 p0 H).2.2.2.2.2.2.1) (by simp only [Q8c, Fld.Qm, Fld.Q11]))] (by kernel_rfl)
def s_K9 (p0 : aU) : Val := aU.enc p0
theorem e_K9 (p0 : aU) : s_K9 p0 = ((Q4n ([(Qr Q20 (Q6y p0.bH)), (Qr Q3f (Q150 p0.aS))]))) := by
  exact Eq.symm (Q6r (by exact Nat.le_of_ble_eq_true rfl) (by kernel_rfl))
def c_K9 (p0 : aU) : En := .call 191 [.agg (aU.cells p0)] []
def a_K9 (p0 : aU) : Rs := .ret (.agg (Val.cells (s_K9 p0))) []
def H_K9 (p0 : aU) : Prop := aU.sm p0
theorem Q140 (p0 : aU) (H : H_K9 p0) : (Qel p0.bH) ∧ (Q1qc p0.aS) ∧ (Q83 ([(Qr Q20 (Q6y p0.bH)), (Qr Q3f (Q150 p0.aS))])) ∧ True := by
  repeat' with_reducible apply And.intro
  all_goals first | exact True.intro | exact H | exact H.1 | exact H.2.1 | exact H.2.2.1 | exact H.2.2.2.1 | exact H.2.2.2.2.1 | exact H.2.2.2.2.2.1 | exact H.2.2.2.2.2.2.1 | exact H.2.2.2.2.2.2.2.1 | exact H.2.2.2.2.2.2.2.2.1 | exact H.2.2.2.2.2.2.2.2.2.1 | exact H.2.2.2.2.2.2.2.2.2.2.1 | exact H.2.2.2.2.2.2.2.2.2.2.2.1 | exact Q8p (by exact Nat.le_of_ble_eq_true rfl) (aU.Q1u H).all.2.2.2
theorem t_K9 (p0 : aU) (H : H_K9 p0) : Q0 G (c_K9 p0) (a_K9 p0) := by
 unfold a_K9
 rw [e_K9]
 exact Q5 (fn := Ir.K9) (by kernel_rfl) VOK.nil [] [aN (Q1ck p0.bH (Q140 p0 H).1), aN (Q44 Q20 (Q6y p0.bH)), aN (Q2d5 p0.aS (Q140 p0 H).2.1), aN (Q44 Q3f (Q150 p0.aS)), aN (Q4o (e' := .call 78 [.sl [(Fld.cells (Qr Q20 (Q6y p0.bH))), (Fld.cells (Qr Q3f (Q150 p0.aS)))]] []) (Q93 ([(Qr Q20 (Q6y p0.bH)), (Qr Q3f (Q150 p0.aS))]) (Q140 p0 H).2.2.1) (by simp only [Q8c, Fld.Qm, Fld.Q11]))] (by kernel_rfl)
end Go.Proofs.YtimjjohlpnkacaaGreat
end

