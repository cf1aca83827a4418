/- A walk's hints and answers, each with its proof. -/
import Derived.Test.YtedohmdgbilicaaPvX2
namespace Go.Pv

structure It where
  hint : Option (Nat × (Eff × Views))
  p : Prop
  pf : p
def hsOf : List It → HintsV
  | [] => []
  | x :: r => (match x.hint with | some h => h :: hsOf r | none => hsOf r)
def owOf : List It → List Prop
  | [] => []
  | x :: r => x.p :: owOf r
theorem metOf : ∀ l : List It, Met (owOf l)
  | [] => Met.nil
  | x :: r => Met.cons x.pf (metOf r)
structure An (G : Nat → Option Fun) where
  e : En
  r : Rs
  vw : Views
  pf : Tells G e r
def asOf {G : Nat → Option Fun} : List (An G) → List Ans
  | [] => []
  | x :: r => ⟨x.r, x.vw⟩ :: asOf r
def akOf {G : Nat → Option Fun} : List (An G) → Asked
  | [] => []
  | x :: r => (x.e, x.r) :: akOf r
theorem toldAn {G : Nat → Option Fun} : ∀ l : List (An G), Told G (akOf l)
  | [] => Told.nil
  | x :: r => Told.cons x.pf (toldAn r)

/-- a branch's bool -/
def hB {c v : Bool} (n : Nat) (h : c = v) : It := ⟨some (n, (bE v, [])), some (bE c) = some (bE v), dec c v h⟩
def hP {x : Option Eff} {y : Eff} (n : Nat) (h : x = some y) : It := ⟨some (n, (y, [])), x = some y, h⟩
def hV {x : Option Eff} {y : Eff} (n : Nat) (vw : Views) (h : x = some y) : It := ⟨some (n, (y, vw)), x = some y, h⟩
def hQ {p : Prop} (h : p) : It := ⟨none, p, h⟩
def aN {G : Nat → Option Fun} {e : En} {r : Rs} (h : Tells G e r) : An G := ⟨e, r, [], h⟩
def aV {G : Nat → Option Fun} {e : En} {r : Rs} (vw : Views) (h : Tells G e r) : An G := ⟨e, r, vw, h⟩
def aB {G : Nat → Option Fun} {e : En} {c v : Bool} (h : Tells G e (.ret (.bool c) [])) (hc : c = v) : An G := ⟨e, .ret (.bool v) [], [], hc ▸ h⟩

theorem vk1 {sz ro : Nat} {gr : Bool} {cells : List PV} {rows : List (List PV)} (h : ViewOK sz cells rows) : VOK (look (number 0 [⟨sz, ro, gr, cells⟩])) [(0, rows)] := VOK.cons (show Seen _ _ from seenV (ob := ⟨sz, ro, gr, cells⟩) h) VOK.nil

theorem tells_VI {G : Nat → Option Fun} {f : Nat} {fn : IFn} (hG : G f = some (.ir fn)) {args : List PV} {h : List Ob} {vw : Views} (hv : VOK (look (number 0 h)) vw) {r : Rs} (l : List It) (q : List (An G)) (ht : callV fn args h vw (hsOf l) (asOf q) = some (r, owOf l, akOf q)) : Tells G (.call f args h) r := tells_V hG hv (metOf l) (toldAn q) ht
theorem tells_nextVI {G : Nat → Option Fun} {m : Nat} {live : List Nat} {b : IR} {env : List PV} {h : List Ob} {vw : Views} (hv : VOK (look (number 0 h)) vw) {y : List PV × List Ob} {r : Rs} (l : List It) (q : List (An G)) (ht : nextV m live b env h vw (hsOf l) (asOf q) = some (y, owOf l, akOf q)) (hr : Tells G (.loop m live b y.1 y.2) r) : Tells G (.loop m live b env h) r := tells_nextV hv (metOf l) (toldAn q) ht hr
theorem tells_outVI {G : Nat → Option Fun} {m : Nat} {live : List Nat} {b : IR} {env : List PV} {h : List Ob} {vw : Views} (hv : VOK (look (number 0 h)) vw) {x : Ex × St} (l : List It) (q : List (An G)) (ht : leaveV m b env h vw (hsOf l) (asOf q) = some (x, owOf l, akOf q)) : Tells G (.loop m live b env h) (.st x.1 x.2) := tells_outV hv (metOf l) (toldAn q) ht
end Go.Pv
namespace Go.Pv
def hS {sz : Nat} {cells : List PV} {rows : List (List PV)} (ro : Nat) (gr : Bool) (h : ViewOK sz cells rows) : It := hQ (seenV (ob := ⟨sz, ro, gr, cells⟩) h)
end Go.Pv
