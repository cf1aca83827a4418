/- What slices.Clone answers: a row of one's own. -/
import Derived.Test.YtedohmdgbilicaaPvA
namespace Go.Pv
def bare : PV → Bool
  | .bool _ => true
  | .int _ _ => true
  | .str _ => true
  | .sl _ => true
  | .np => true
  | .nf => true
  | _ => false
def cloneF (sz bytes : Nat) : List PV → Option (PV × List Ob)
  | [.sl l] => bif rowsSz l sz && Nat.ble (l.length * bytes) 140737488355328 && l.flatten.all bare then some (.ms 0 sz 0 l.length, [⟨sz, 0, true, l.flatten⟩]) else none
  | _ => none
end Go.Pv
