/- What ranking computes (printed by a program). -/
import Derived.Test.YtnicmdfafihmpaaSort3
import Derived.Test.YtnicmdfafihmpaaPvX8
namespace Go.Proofs.Ytnicmdfafihmpaa
open Go.Pv


/-- orchestrator/ orchestratorlaw51.lives -/
theorem t_law51_lives : Tells G (.call 7 [] []) (.ret (.bool true) []) := ⟨200, by kernel_rfl⟩

def l_qos_Rank_b0 (p0 : List Pod) (p1 : List Int) : List Entry → Nat → (List ByteArray) → List ByteArray
  | [], _i0, v0_1 =>
    v0_1
  | x0 :: r0, i0, v0_1 =>
    l_qos_Rank_b0 p0 p1 r0 (i0 + 1) (v0_1 ++ [x0.key])
theorem m_qos_Rank_b0 (p0 : List Pod) (p1 : List Int) : ∀ (l : List Entry) (i : Nat) (a : List ByteArray), l_qos_Rank_b0 p0 p1 l i a = a ++ l.map (fun x0 => x0.key)
  | [], _, _ => by simp [l_qos_Rank_b0]
  | x :: r, i, a => by rw [l_qos_Rank_b0, m_qos_Rank_b0 p0 p1 r]; simp
def HE_qos_Rank_b0 (p0 : List Pod) (p1 : List Int) (i0 : Nat) (v0_1 : List ByteArray) : List PV :=
  [.un, .un, .un, .un, .un, .ms 0 1 0 (List.length v0_1), .un, .un, .un, .un, .sl (Entry.rows (s_qos_ranked p0 p1)), .int .i64 ((List.length (s_qos_ranked p0 p1)) : Int), .int .i64 (i0 : Int), .un, .un, .un, .un, .un, .un, .un, .un, .un, .un]
def HO_qos_Rank_b0 (_p0 : List Pod) (_p1 : List Int) (_i0 : Nat) (v0_1 : List ByteArray) : List Ob :=
  [⟨1, 0, true, (strRows v0_1).flatten⟩]
def E_qos_Rank_b0 (p0 : List Pod) (p1 : List Int) (i0 : Nat) (v0_1 : List ByteArray) : En := .loop 0 Ir.qos_Rank_b0_live Ir.qos_Rank_b0 (HE_qos_Rank_b0 p0 p1 i0 v0_1) (HO_qos_Rank_b0 p0 p1 i0 v0_1)
def S_qos_Rank_b0_0 (_p0 : List Pod) (_p1 : List Int) (q0 : List ByteArray) (z : Nat → PV) (_zo : Nat → List PV) : St :=
  ⟨[z 0, z 1, z 2, z 3, z 4, .ms 0 1 0 (List.length q0), z 6, z 7, z 8, z 9, z 10, z 11, z 12, z 13, z 14, z 15, z 16, z 17, z 18, z 19, z 20, z 21, z 22], [(0, ⟨1, 0, true, (strRows q0).flatten⟩)], 65⟩
theorem V_qos_Rank_b0 (p0 : List Pod) (p1 : List Int) (i0 : Nat) (v0_1 : List ByteArray) : VOK (Go.Pv.look (number 0 (HO_qos_Rank_b0 p0 p1 i0 v0_1))) [(0, strRows v0_1)] := (VOK.cons (show Seen _ _ from seenV (ob := ⟨1, 0, true, (strRows v0_1).flatten⟩) (strRowsView v0_1 1 rfl)) VOK.nil)
def P_qos_Rank_b0 (p0 : List Pod) (p1 : List Int) (e : En) (q : List ByteArray) : Prop := ∃ z zo, Tells G e (.st (.exit 0) (S_qos_Rank_b0_0 p0 p1 q z zo))
theorem P_qos_Rank_b0_mono (p0 : List Pod) (p1 : List Int) {e e' : En} (h : ∀ r, Tells G e r → Tells G e' r) : ∀ q, P_qos_Rank_b0 p0 p1 e q → P_qos_Rank_b0 p0 p1 e' q
  | _, ⟨z, zo, hz⟩ => ⟨z, zo, h _ hz⟩
def H_qos_Rank_b0 (p0 : List Pod) (p1 : List Int) : Prop := (List.length (s_qos_ranked p0 p1) ≤ 137438953472) ∧ True
def Z_qos_Rank_b0_0 (p0 : List Pod) (p1 : List Int) (i0 : Nat) (_v0_1 : List ByteArray) : List PV :=
  [.un, .un, .un, .un, .un, .un, .un, .un, .un, .un, .sl (Entry.rows (s_qos_ranked p0 p1)), .int .i64 ((List.length (s_qos_ranked p0 p1)) : Int), .int .i64 (i0 : Int), .bool false]
def ZO_qos_Rank_b0_0 (_p0 : List Pod) (_p1 : List Int) (_i0 : Nat) (_v0_1 : List ByteArray) : List (Nat × List PV) :=
  []
theorem x_qos_Rank_b0_0 (p0 : List Pod) (p1 : List Int) (_H : H_qos_Rank_b0 p0 p1) (i0 : Nat) (v0_1 : List ByteArray) (_ho0_0 : List.length v0_1 ≤ i0) (hc0 : (decide ((i0 : Int) < ((List.length (s_qos_ranked p0 p1)) : Int))) = false) : P_qos_Rank_b0 p0 p1 (E_qos_Rank_b0 p0 p1 i0 v0_1) v0_1 := by
  exact ⟨(envF (Z_qos_Rank_b0_0 p0 p1 i0 v0_1)), (zoF (ZO_qos_Rank_b0_0 p0 p1 i0 v0_1)), tells_outVI (V_qos_Rank_b0 p0 p1 i0 v0_1) (x := ((.exit 0), S_qos_Rank_b0_0 p0 p1 v0_1 (envF (Z_qos_Rank_b0_0 p0 p1 i0 v0_1)) (zoF (ZO_qos_Rank_b0_0 p0 p1 i0 v0_1)))) [hB 0 hc0] [] (by kernel_rfl)⟩
theorem n_qos_Rank_b0_1 (p0 : List Pod) (p1 : List Int) (H : H_qos_Rank_b0 p0 p1) (x0 : Entry) (i0 : Nat) (v0_1 : List ByteArray) (hx0 : (s_qos_ranked p0 p1)[i0]? = some x0) (hi0 : i0 < List.length (s_qos_ranked p0 p1)) (ho0_0 : List.length v0_1 ≤ i0) (hc0 : (decide ((i0 : Int) < ((List.length (s_qos_ranked p0 p1)) : Int))) = true) {r : Rs} (hr : Tells G (E_qos_Rank_b0 p0 p1 (i0 + 1) (v0_1 ++ [x0.key])) r) : Tells G (E_qos_Rank_b0 p0 p1 i0 v0_1) r := by
  have hB0 := H.1
  exact tells_nextVI (V_qos_Rank_b0 p0 p1 i0 v0_1) (y := (HE_qos_Rank_b0 p0 p1 (i0 + 1) (v0_1 ++ [x0.key]), HO_qos_Rank_b0 p0 p1 (i0 + 1) (v0_1 ++ [x0.key]))) [hB 0 hc0, hP 0 (ix_ok 4 (Entry.rows (s_qos_ranked p0 p1)) i0 _ (Entry.rowsGet hx0) rfl), hV 7 [(577, strRows (v0_1 ++ [x0.key]))] (ap_ok 0 513 577 1 16 0 0 true (strRows v0_1) (strRows (v0_1 ++ [x0.key])) [.str x0.key] (List.length v0_1) (List.length (v0_1 ++ [x0.key])) rfl (strRowsLen v0_1).symm (strRowsLen (v0_1 ++ [x0.key])).symm (strRowsSnoc v0_1 x0.key) (strRowsSize v0_1) rfl (by omega)), hS 0 true (strRowsView (v0_1 ++ [x0.key]) 1 rfl), hP 1 (inc_ok i0 (by omega))] [] (by kernel_rfl) hr
theorem lt_qos_Rank_b0 (p0 : List Pod) (p1 : List Int) (H : H_qos_Rank_b0 p0 p1) : ∀ (r0 : List Entry) (i0 : Nat) (v0_1 : List ByteArray), List.drop i0 (s_qos_ranked p0 p1) = r0 → List.length v0_1 ≤ i0 → P_qos_Rank_b0 p0 p1 (E_qos_Rank_b0 p0 p1 i0 v0_1) (l_qos_Rank_b0 p0 p1 r0 i0 v0_1)
  | [], i0, v0_1, hd, ho0_0 => by
    have hc0 : (decide ((i0 : Int) < ((List.length (s_qos_ranked p0 p1)) : Int))) = false := by have := drop_end hd; simp; omega
    rw [l_qos_Rank_b0]
    exact x_qos_Rank_b0_0 p0 p1 H i0 v0_1 ho0_0 hc0
  | x0 :: r0, i0, v0_1, hd, ho0_0 => by
    obtain ⟨hx0, hi0, hd'⟩ := drop_get hd
    have hc0 : (decide ((i0 : Int) < ((List.length (s_qos_ranked p0 p1)) : Int))) = true := by simp; omega
    rw [l_qos_Rank_b0]
    exact P_qos_Rank_b0_mono p0 p1 (fun r hr => n_qos_Rank_b0_1 p0 p1 H x0 i0 v0_1 hx0 hi0 ho0_0 hc0 hr) _ (lt_qos_Rank_b0 p0 p1 H r0 (i0 + 1) (v0_1 ++ [x0.key]) hd' (by first | omega | (simp; omega)))
/-- orchestrator/ qos.Rank -/
def s_qos_Rank (p0 : List Pod) (p1 : List Int) : List ByteArray :=
  (l_qos_Rank_b0 p0 p1 (s_qos_ranked p0 p1) 0 [])
def c_qos_Rank (p0 : List Pod) (p1 : List Int) : En := .call 11 [.sl (Pod.rows p0), .sl (intRows p1)] []
def a_qos_Rank (p0 : List Pod) (p1 : List Int) : Rs := .ret (.sl (strRows (s_qos_Rank p0 p1))) []
def H_qos_Rank (p0 : List Pod) (p1 : List Int) : Prop := (H_qos_ranked p0 p1) ∧ (H_qos_Rank_b0 p0 p1) ∧ True
theorem t_qos_Rank (p0 : List Pod) (p1 : List Int) (H : H_qos_Rank p0 p1) : Tells G (c_qos_Rank p0 p1) (a_qos_Rank p0 p1) := by
  unfold a_qos_Rank s_qos_Rank
  have hl0 := lt_qos_Rank_b0 p0 p1 (H.2.1) (s_qos_ranked p0 p1) 0 [] (by simp) (by simp)
  obtain ⟨z0, zo0, hl0⟩ := hl0
  exact tells_VI (fn := Ir.qos_Rank) rfl VOK.nil [hP 5 (len_ok (Entry.rows (s_qos_ranked p0 p1)) (List.length (s_qos_ranked p0 p1)) (Entry.rowsLen (s_qos_ranked p0 p1))), hS 0 true (strRowsView (l_qos_Rank_b0 p0 p1 (s_qos_ranked p0 p1) 0 []) 1 rfl), hQ (strRowsLen (l_qos_Rank_b0 p0 p1 (s_qos_ranked p0 p1) 0 [])).symm] [aN (t_qos_ranked p0 p1 H.1), aV [(0, strRows (l_qos_Rank_b0 p0 p1 (s_qos_ranked p0 p1) 0 []))] hl0] (by kernel_rfl)

inductive R_qos_Relieve_b0 where
  | k0 (q0 : List ByteArray)
  | k1 (q0 : List ByteArray) (q1 : Entry)
def l_qos_Relieve_b0 (p0 : List Pod) (p1 : List Int) (p3 : Int) : List Entry → Nat → (List ByteArray) → Int → R_qos_Relieve_b0
  | [], _i0, v0_1, _v0_2 =>
    (.k0 v0_1)
  | x0 :: r0, i0, v0_1, v0_2 =>
    bif (decide (v0_2 ≤ (s_qos_clamp p3))) then
      (.k1 v0_1 x0)
    else
      l_qos_Relieve_b0 p0 p1 p3 r0 (i0 + 1) (v0_1 ++ [x0.key]) (w64 (v0_2 - x0.usage))
def HE_qos_Relieve_b0 (p0 : List Pod) (p1 : List Int) (p3 : Int) (i0 : Nat) (v0_1 : List ByteArray) (v0_2 : Int) : List PV :=
  [.un, .un, .int .i64 v0_2, .int .i64 (s_qos_clamp p3), .un, .un, .un, .un, .un, .ms 0 1 0 (List.length v0_1), .un, .un, .un, .un, .un, .un, .un, .un, .sl (Entry.rows (s_qos_ranked p0 p1)), .int .i64 ((List.length (s_qos_ranked p0 p1)) : Int), .int .i64 (i0 : Int), .un, .un, .un, .un, .un, .un, .un, .un, .un, .un, .un, .un, .un, .un, .un, .un, .un]
def HO_qos_Relieve_b0 (_p0 : List Pod) (_p1 : List Int) (_p3 : Int) (_i0 : Nat) (v0_1 : List ByteArray) (_v0_2 : Int) : List Ob :=
  [⟨1, 0, true, (strRows v0_1).flatten⟩]
def E_qos_Relieve_b0 (p0 : List Pod) (p1 : List Int) (p3 : Int) (i0 : Nat) (v0_1 : List ByteArray) (v0_2 : Int) : En := .loop 0 Ir.qos_Relieve_b0_live Ir.qos_Relieve_b0 (HE_qos_Relieve_b0 p0 p1 p3 i0 v0_1 v0_2) (HO_qos_Relieve_b0 p0 p1 p3 i0 v0_1 v0_2)
def S_qos_Relieve_b0_0 (_p0 : List Pod) (_p1 : List Int) (_p3 : Int) (q0 : List ByteArray) (z : Nat → PV) (_zo : Nat → List PV) : St :=
  ⟨[z 0, z 1, z 2, z 3, z 4, z 5, z 6, z 7, z 8, .ms 0 1 0 (List.length q0), z 10, z 11, z 12, z 13, z 14, z 15, z 16, z 17, z 18, z 19, z 20, z 21, z 22, z 23, z 24, z 25, z 26, z 27, z 28, z 29, z 30, z 31, z 32, z 33, z 34, z 35, z 36, z 37], [(0, ⟨1, 0, true, (strRows q0).flatten⟩)], 65⟩
def S_qos_Relieve_b0_1 (_p0 : List Pod) (_p1 : List Int) (_p3 : Int) (q0 : List ByteArray) (q1 : Entry) (z : Nat → PV) (_zo : Nat → List PV) : St :=
  ⟨[z 0, z 1, z 2, z 3, z 4, z 5, z 6, z 7, z 8, .ms 0 1 0 (List.length q0), z 10, z 11, z 12, z 13, z 14, z 15, z 16, z 17, z 18, z 19, z 20, z 21, z 22, z 23, z 24, z 25, z 26, z 27, z 28, z 29, z 30, z 31, z 32, z 33, z 34, z 35, z 36, z 37], [(0, ⟨1, 0, true, (strRows q0).flatten⟩), (193, ⟨4, 0, true, [.str q1.key, .int .i64 q1.priority, .int .i64 q1.usage, .int .i64 q1.excess]⟩)], 513⟩
theorem V_qos_Relieve_b0 (p0 : List Pod) (p1 : List Int) (p3 : Int) (i0 : Nat) (v0_1 : List ByteArray) (v0_2 : Int) : VOK (Go.Pv.look (number 0 (HO_qos_Relieve_b0 p0 p1 p3 i0 v0_1 v0_2))) [(0, strRows v0_1)] := (VOK.cons (show Seen _ _ from seenV (ob := ⟨1, 0, true, (strRows v0_1).flatten⟩) (strRowsView v0_1 1 rfl)) VOK.nil)
def P_qos_Relieve_b0 (p0 : List Pod) (p1 : List Int) (p3 : Int) (e : En) : R_qos_Relieve_b0 → Prop
  | .k0 q0 => ∃ z zo, Tells G e (.st (.exit 0) (S_qos_Relieve_b0_0 p0 p1 p3 q0 z zo))
  | .k1 q0 q1 => ∃ z zo, Tells G e (.st (.exit 0) (S_qos_Relieve_b0_1 p0 p1 p3 q0 q1 z zo))
theorem P_qos_Relieve_b0_mono (p0 : List Pod) (p1 : List Int) (p3 : Int) {e e' : En} (h : ∀ r, Tells G e r → Tells G e' r) : ∀ q, P_qos_Relieve_b0 p0 p1 p3 e q → P_qos_Relieve_b0 p0 p1 p3 e' q
  | .k0 _, ⟨z, zo, hz⟩ => ⟨z, zo, h _ hz⟩
  | .k1 _ _, ⟨z, zo, hz⟩ => ⟨z, zo, h _ hz⟩
def H_qos_Relieve_b0 (p0 : List Pod) (p1 : List Int) (_p3 : Int) : Prop := (List.length (s_qos_ranked p0 p1) ≤ 137438953472) ∧ True
def Z_qos_Relieve_b0_0 (p0 : List Pod) (p1 : List Int) (p3 : Int) (i0 : Nat) (_v0_1 : List ByteArray) (v0_2 : Int) : List PV :=
  [.un, .un, .int .i64 v0_2, .int .i64 (s_qos_clamp p3), .un, .un, .un, .un, .un, .un, .un, .un, .un, .un, .un, .un, .un, .un, .sl (Entry.rows (s_qos_ranked p0 p1)), .int .i64 ((List.length (s_qos_ranked p0 p1)) : Int), .int .i64 (i0 : Int), .bool false]
def ZO_qos_Relieve_b0_0 (_p0 : List Pod) (_p1 : List Int) (_p3 : Int) (_i0 : Nat) (_v0_1 : List ByteArray) (_v0_2 : Int) : List (Nat × List PV) :=
  []
theorem x_qos_Relieve_b0_0 (p0 : List Pod) (p1 : List Int) (p3 : Int) (_H : H_qos_Relieve_b0 p0 p1 p3) (i0 : Nat) (v0_1 : List ByteArray) (v0_2 : Int) (_ho0_0 : List.length v0_1 ≤ i0) (hc0 : (decide ((i0 : Int) < ((List.length (s_qos_ranked p0 p1)) : Int))) = false) : P_qos_Relieve_b0 p0 p1 p3 (E_qos_Relieve_b0 p0 p1 p3 i0 v0_1 v0_2) (.k0 v0_1) := by
  exact ⟨(envF (Z_qos_Relieve_b0_0 p0 p1 p3 i0 v0_1 v0_2)), (zoF (ZO_qos_Relieve_b0_0 p0 p1 p3 i0 v0_1 v0_2)), tells_outVI (V_qos_Relieve_b0 p0 p1 p3 i0 v0_1 v0_2) (x := ((.exit 0), S_qos_Relieve_b0_0 p0 p1 p3 v0_1 (envF (Z_qos_Relieve_b0_0 p0 p1 p3 i0 v0_1 v0_2)) (zoF (ZO_qos_Relieve_b0_0 p0 p1 p3 i0 v0_1 v0_2)))) [hB 0 hc0] [] (by kernel_rfl)⟩
def Z_qos_Relieve_b0_1 (p0 : List Pod) (p1 : List Int) (p3 : Int) (i0 : Nat) (_v0_1 : List ByteArray) (v0_2 : Int) (x0 : Entry) : List PV :=
  [.un, .un, .int .i64 v0_2, .int .i64 (s_qos_clamp p3), .un, .un, .un, .un, .un, .un, .un, .bx 193 0, .un, .un, .un, .un, .un, .un, .sl (Entry.rows (s_qos_ranked p0 p1)), .int .i64 ((List.length (s_qos_ranked p0 p1)) : Int), .int .i64 (i0 : Int), .bool true, .rf [.str x0.key, .int .i64 x0.priority, .int .i64 x0.usage, .int .i64 x0.excess], .agg [.str x0.key, .int .i64 x0.priority, .int .i64 x0.usage, .int .i64 x0.excess], .int .i64 v0_2, .int .i64 (s_qos_clamp p3), .bool true]
def ZO_qos_Relieve_b0_1 (_p0 : List Pod) (_p1 : List Int) (_p3 : Int) (_i0 : Nat) (_v0_1 : List ByteArray) (_v0_2 : Int) (_x0 : Entry) : List (Nat × List PV) :=
  []
theorem x_qos_Relieve_b0_1 (p0 : List Pod) (p1 : List Int) (p3 : Int) (_H : H_qos_Relieve_b0 p0 p1 p3) (x0 : Entry) (i0 : Nat) (v0_1 : List ByteArray) (v0_2 : Int) (hx0 : (s_qos_ranked p0 p1)[i0]? = some x0) (_hi0 : i0 < List.length (s_qos_ranked p0 p1)) (_ho0_0 : List.length v0_1 ≤ i0) (hc0 : (decide ((i0 : Int) < ((List.length (s_qos_ranked p0 p1)) : Int))) = true) (h0 : (decide (v0_2 ≤ (s_qos_clamp p3))) = true) : P_qos_Relieve_b0 p0 p1 p3 (E_qos_Relieve_b0 p0 p1 p3 i0 v0_1 v0_2) (.k1 v0_1 x0) := by
  exact ⟨(envF (Z_qos_Relieve_b0_1 p0 p1 p3 i0 v0_1 v0_2 x0)), (zoF (ZO_qos_Relieve_b0_1 p0 p1 p3 i0 v0_1 v0_2 x0)), tells_outVI (V_qos_Relieve_b0 p0 p1 p3 i0 v0_1 v0_2) (x := ((.exit 0), S_qos_Relieve_b0_1 p0 p1 p3 v0_1 x0 (envF (Z_qos_Relieve_b0_1 p0 p1 p3 i0 v0_1 v0_2 x0)) (zoF (ZO_qos_Relieve_b0_1 p0 p1 p3 i0 v0_1 v0_2 x0)))) [hB 0 hc0, hP 0 (ix_ok 4 (Entry.rows (s_qos_ranked p0 p1)) i0 _ (Entry.rowsGet hx0) rfl), hB 5 h0] [] (by kernel_rfl)⟩
theorem n_qos_Relieve_b0_2 (p0 : List Pod) (p1 : List Int) (p3 : Int) (H : H_qos_Relieve_b0 p0 p1 p3) (x0 : Entry) (i0 : Nat) (v0_1 : List ByteArray) (v0_2 : Int) (hx0 : (s_qos_ranked p0 p1)[i0]? = some x0) (hi0 : i0 < List.length (s_qos_ranked p0 p1)) (ho0_0 : List.length v0_1 ≤ i0) (hc0 : (decide ((i0 : Int) < ((List.length (s_qos_ranked p0 p1)) : Int))) = true) (h0 : (decide (v0_2 ≤ (s_qos_clamp p3))) = false) {r : Rs} (hr : Tells G (E_qos_Relieve_b0 p0 p1 p3 (i0 + 1) (v0_1 ++ [x0.key]) (w64 (v0_2 - x0.usage))) r) : Tells G (E_qos_Relieve_b0 p0 p1 p3 i0 v0_1 v0_2) r := by
  have hB0 := H.1; have e0 := of_decide_eq_false h0
  exact tells_nextVI (V_qos_Relieve_b0 p0 p1 p3 i0 v0_1 v0_2) (y := (HE_qos_Relieve_b0 p0 p1 p3 (i0 + 1) (v0_1 ++ [x0.key]) (w64 (v0_2 - x0.usage)), HO_qos_Relieve_b0 p0 p1 p3 (i0 + 1) (v0_1 ++ [x0.key]) (w64 (v0_2 - x0.usage)))) [hB 0 hc0, hP 0 (ix_ok 4 (Entry.rows (s_qos_ranked p0 p1)) i0 _ (Entry.rowsGet hx0) rfl), hB 5 h0, hV 9 [(1089, strRows (v0_1 ++ [x0.key]))] (ap_ok 0 1025 1089 1 16 0 0 true (strRows v0_1) (strRows (v0_1 ++ [x0.key])) [.str x0.key] (List.length v0_1) (List.length (v0_1 ++ [x0.key])) rfl (strRowsLen v0_1).symm (strRowsLen (v0_1 ++ [x0.key])).symm (strRowsSnoc v0_1 x0.key) (strRowsSize v0_1) rfl (by omega)), hS 0 true (strRowsView (v0_1 ++ [x0.key]) 1 rfl), hP 1 (inc_ok i0 (by omega))] [] (by kernel_rfl) hr
theorem lt_qos_Relieve_b0 (p0 : List Pod) (p1 : List Int) (p3 : Int) (H : H_qos_Relieve_b0 p0 p1 p3) : ∀ (r0 : List Entry) (i0 : Nat) (v0_1 : List ByteArray) (v0_2 : Int), List.drop i0 (s_qos_ranked p0 p1) = r0 → List.length v0_1 ≤ i0 → P_qos_Relieve_b0 p0 p1 p3 (E_qos_Relieve_b0 p0 p1 p3 i0 v0_1 v0_2) (l_qos_Relieve_b0 p0 p1 p3 r0 i0 v0_1 v0_2)
  | [], i0, v0_1, v0_2, hd, ho0_0 => by
    have hc0 : (decide ((i0 : Int) < ((List.length (s_qos_ranked p0 p1)) : Int))) = false := by have := drop_end hd; simp; omega
    rw [l_qos_Relieve_b0]
    exact x_qos_Relieve_b0_0 p0 p1 p3 H i0 v0_1 v0_2 ho0_0 hc0
  | x0 :: r0, i0, v0_1, v0_2, hd, ho0_0 => by
    obtain ⟨hx0, hi0, hd'⟩ := drop_get hd
    have hc0 : (decide ((i0 : Int) < ((List.length (s_qos_ranked p0 p1)) : Int))) = true := by simp; omega
    rw [l_qos_Relieve_b0]
    cases h0 : (decide (v0_2 ≤ (s_qos_clamp p3))) with
    | true =>
     exact x_qos_Relieve_b0_1 p0 p1 p3 H x0 i0 v0_1 v0_2 hx0 hi0 ho0_0 hc0 h0
    | false =>
     have e0 := of_decide_eq_false h0
     exact P_qos_Relieve_b0_mono p0 p1 p3 (fun r hr => n_qos_Relieve_b0_2 p0 p1 p3 H x0 i0 v0_1 v0_2 hx0 hi0 ho0_0 hc0 h0 hr) _ (lt_qos_Relieve_b0 p0 p1 p3 H r0 (i0 + 1) (v0_1 ++ [x0.key]) (w64 (v0_2 - x0.usage)) hd' (by first | omega | (simp; omega)))
/-- orchestrator/ qos.Relieve -/
def s_qos_Relieve (p0 : List Pod) (p1 : List Int) (p2 : Int) (p3 : Int) : List ByteArray :=
  (match (l_qos_Relieve_b0 p0 p1 p3 (s_qos_ranked p0 p1) 0 [] (s_qos_clamp p2)) with
  | .k0 y0_0 => y0_0
  | .k1 y0_0 _y0_1 => y0_0)
def c_qos_Relieve (p0 : List Pod) (p1 : List Int) (p2 : Int) (p3 : Int) : En := .call 13 [.sl (Pod.rows p0), .sl (intRows p1), .int .i64 p2, .int .i64 p3] []
def a_qos_Relieve (p0 : List Pod) (p1 : List Int) (p2 : Int) (p3 : Int) : Rs := .ret (.sl (strRows (s_qos_Relieve p0 p1 p2 p3))) []
def H_qos_Relieve (p0 : List Pod) (p1 : List Int) (_p2 : Int) (p3 : Int) : Prop := (H_qos_ranked p0 p1) ∧ (H_qos_Relieve_b0 p0 p1 p3) ∧ True
theorem t_qos_Relieve (p0 : List Pod) (p1 : List Int) (p2 : Int) (p3 : Int) (H : H_qos_Relieve p0 p1 p2 p3) : Tells G (c_qos_Relieve p0 p1 p2 p3) (a_qos_Relieve p0 p1 p2 p3) := by
  unfold a_qos_Relieve s_qos_Relieve
  have hl0 := lt_qos_Relieve_b0 p0 p1 p3 (H.2.1) (s_qos_ranked p0 p1) 0 [] (s_qos_clamp p2) (by simp) (by simp)
  cases hr0 : (l_qos_Relieve_b0 p0 p1 p3 (s_qos_ranked p0 p1) 0 [] (s_qos_clamp p2)) with
  | k0 y0_0 =>
    rw [hr0] at hl0
    obtain ⟨z0, zo0, hl0⟩ := hl0
    exact tells_VI (fn := Ir.qos_Relieve) rfl VOK.nil [hP 11 (len_ok (Entry.rows (s_qos_ranked p0 p1)) (List.length (s_qos_ranked p0 p1)) (Entry.rowsLen (s_qos_ranked p0 p1))), hS 0 true (strRowsView y0_0 1 rfl), hQ (strRowsLen y0_0).symm] [aN (t_qos_clamp p2), aN (t_qos_clamp p3), aN (t_qos_ranked p0 p1 H.1), aV [(0, strRows y0_0)] hl0] (by kernel_rfl)
  | k1 y0_0 y0_1 =>
    rw [hr0] at hl0
    obtain ⟨z0, zo0, hl0⟩ := hl0
    exact tells_VI (fn := Ir.qos_Relieve) rfl VOK.nil [hP 11 (len_ok (Entry.rows (s_qos_ranked p0 p1)) (List.length (s_qos_ranked p0 p1)) (Entry.rowsLen (s_qos_ranked p0 p1))), hS 0 true (strRowsView y0_0 1 rfl), hQ (strRowsLen y0_0).symm] [aN (t_qos_clamp p2), aN (t_qos_clamp p3), aN (t_qos_ranked p0 p1 H.1), aV [(0, strRows y0_0)] hl0] (by kernel_rfl)

inductive R_ref51_Strings_b0 where
  | k0
  | k1
def l_ref51_Strings_b0 (p0 : List ByteArray) (p1 : List ByteArray) : List ByteArray → Nat → R_ref51_Strings_b0
  | [], _i0 =>
    (.k0)
  | x0 :: r0, i0 =>
    bif (sEq x0 (List.getD p1 i0 (⟨#[]⟩ : ByteArray))) then
      l_ref51_Strings_b0 p0 p1 r0 (i0 + 1)
    else
      (.k1)
def HE_ref51_Strings_b0 (p0 : List ByteArray) (p1 : List ByteArray) (i0 : Nat) : List PV :=
  [.sl (strRows p0), .sl (strRows p1), .un, .un, .un, .int .i64 (i0 : Int), .un, .un, .un, .un, .un, .un, .un, .un, .un, .un, .un, .un, .un, .un, .un, .un, .un, .un, .un, .un]
def HO_ref51_Strings_b0 (_p0 : List ByteArray) (_p1 : List ByteArray) (_i0 : Nat) : List Ob :=
  []
def E_ref51_Strings_b0 (p0 : List ByteArray) (p1 : List ByteArray) (i0 : Nat) : En := .loop 0 Ir.ref51_Strings_b0_live Ir.ref51_Strings_b0 (HE_ref51_Strings_b0 p0 p1 i0) (HO_ref51_Strings_b0 p0 p1 i0)
def S_ref51_Strings_b0_0 (_p0 : List ByteArray) (_p1 : List ByteArray) (z : Nat → PV) (_zo : Nat → List PV) : St :=
  ⟨[z 0, z 1, z 2, z 3, z 4, z 5, z 6, z 7, z 8, z 9, z 10, z 11, z 12, z 13, z 14, z 15, z 16, z 17, z 18, z 19, z 20, z 21, z 22, z 23, z 24, z 25], [], 256⟩
def S_ref51_Strings_b0_1 (_p0 : List ByteArray) (_p1 : List ByteArray) (z : Nat → PV) (_zo : Nat → List PV) : St :=
  ⟨[z 0, z 1, z 2, z 3, .bool false, z 5, z 6, z 7, z 8, z 9, z 10, z 11, z 12, z 13, z 14, z 15, z 16, z 17, z 18, z 19, z 20, z 21, z 22, z 23, z 24, z 25], [], 896⟩
def P_ref51_Strings_b0 (p0 : List ByteArray) (p1 : List ByteArray) (e : En) : R_ref51_Strings_b0 → Prop
  | .k0 => ∃ z zo, Tells G e (.st (.exit 0) (S_ref51_Strings_b0_0 p0 p1 z zo))
  | .k1 => ∃ z zo, Tells G e (.st .ret (S_ref51_Strings_b0_1 p0 p1 z zo))
theorem P_ref51_Strings_b0_mono (p0 : List ByteArray) (p1 : List ByteArray) {e e' : En} (h : ∀ r, Tells G e r → Tells G e' r) : ∀ q, P_ref51_Strings_b0 p0 p1 e q → P_ref51_Strings_b0 p0 p1 e' q
  | .k0, ⟨z, zo, hz⟩ => ⟨z, zo, h _ hz⟩
  | .k1, ⟨z, zo, hz⟩ => ⟨z, zo, h _ hz⟩
def H_ref51_Strings_b0 (p0 : List ByteArray) (p1 : List ByteArray) : Prop := (List.length p0 ≤ 4611686018427387904) ∧ (∀ (i0 : Nat) (x0 : ByteArray), p0[i0]? = some x0 → i0 < List.length p1) ∧ True
def Z_ref51_Strings_b0_0 (p0 : List ByteArray) (p1 : List ByteArray) (i0 : Nat) : List PV :=
  [.sl (strRows p0), .sl (strRows p1), .un, .un, .un, .int .i64 (i0 : Int), .un, .un, .un, .un, .un, .int .i64 (i0 : Int), .sl (strRows p0), .int .i64 ((List.length p0) : Int), .bool false]
def ZO_ref51_Strings_b0_0 (_p0 : List ByteArray) (_p1 : List ByteArray) (_i0 : Nat) : List (Nat × List PV) :=
  []
theorem x_ref51_Strings_b0_0 (p0 : List ByteArray) (p1 : List ByteArray) (_H : H_ref51_Strings_b0 p0 p1) (i0 : Nat) (hc0 : (decide ((i0 : Int) < ((List.length p0) : Int))) = false) : P_ref51_Strings_b0 p0 p1 (E_ref51_Strings_b0 p0 p1 i0) (.k0) := by
  exact ⟨(envF (Z_ref51_Strings_b0_0 p0 p1 i0)), (zoF (ZO_ref51_Strings_b0_0 p0 p1 i0)), tells_outVI VOK.nil (x := ((.exit 0), S_ref51_Strings_b0_0 p0 p1 (envF (Z_ref51_Strings_b0_0 p0 p1 i0)) (zoF (ZO_ref51_Strings_b0_0 p0 p1 i0)))) [hP 2 (len_ok (strRows p0) (List.length p0) (strRowsLen p0)), hB 0 hc0] [] (by kernel_rfl)⟩
theorem n_ref51_Strings_b0_1 (p0 : List ByteArray) (p1 : List ByteArray) (H : H_ref51_Strings_b0 p0 p1) (x0 : ByteArray) (i0 : Nat) (hx0 : p0[i0]? = some x0) (hi0 : i0 < List.length p0) (hc0 : (decide ((i0 : Int) < ((List.length p0) : Int))) = true) (h0 : (sEq x0 (List.getD p1 i0 (⟨#[]⟩ : ByteArray))) = true) {r : Rs} (hr : Tells G (E_ref51_Strings_b0 p0 p1 (i0 + 1)) r) : Tells G (E_ref51_Strings_b0 p0 p1 i0) r := by
  have hB0 := H.1
  exact tells_nextVI VOK.nil (y := (HE_ref51_Strings_b0 p0 p1 (i0 + 1), HO_ref51_Strings_b0 p0 p1 (i0 + 1))) [hP 2 (len_ok (strRows p0) (List.length p0) (strRowsLen p0)), hB 0 hc0, hP 2 (ix_ok 1 (strRows p0) i0 _ (strRowsGet hx0) rfl), hP 3 (ix_ok 1 (strRows p1) i0 _ (strRowsGet (getD_ok p1 i0 (⟨#[]⟩ : ByteArray) ((H.2.1 i0 x0 hx0)))) rfl), hP 1 (dec (!(sEq x0 (List.getD p1 i0 (⟨#[]⟩ : ByteArray)))) false (by rw [h0]; rfl)), hP 1 (inc_ok i0 (by omega))] [] (by kernel_rfl) hr
def Z_ref51_Strings_b0_2 (p0 : List ByteArray) (p1 : List ByteArray) (i0 : Nat) (x0 : ByteArray) : List PV :=
  [.sl (strRows p0), .sl (strRows p1), .un, .un, .un, .int .i64 (i0 : Int), .un, .un, .un, .un, .un, .int .i64 (i0 : Int), .sl (strRows p0), .int .i64 ((List.length p0) : Int), .bool true, .un, .un, .sl (strRows p0), .int .i64 (i0 : Int), .rf [.str x0], .str x0, .sl (strRows p1), .int .i64 (i0 : Int), .rf [.str (List.getD p1 i0 (⟨#[]⟩ : ByteArray))], .str (List.getD p1 i0 (⟨#[]⟩ : ByteArray)), .bool true]
def ZO_ref51_Strings_b0_2 (_p0 : List ByteArray) (_p1 : List ByteArray) (_i0 : Nat) (_x0 : ByteArray) : List (Nat × List PV) :=
  []
theorem x_ref51_Strings_b0_2 (p0 : List ByteArray) (p1 : List ByteArray) (H : H_ref51_Strings_b0 p0 p1) (x0 : ByteArray) (i0 : Nat) (hx0 : p0[i0]? = some x0) (_hi0 : i0 < List.length p0) (hc0 : (decide ((i0 : Int) < ((List.length p0) : Int))) = true) (h0 : (sEq x0 (List.getD p1 i0 (⟨#[]⟩ : ByteArray))) = false) : P_ref51_Strings_b0 p0 p1 (E_ref51_Strings_b0 p0 p1 i0) (.k1) := by
  exact ⟨(envF (Z_ref51_Strings_b0_2 p0 p1 i0 x0)), (zoF (ZO_ref51_Strings_b0_2 p0 p1 i0 x0)), tells_outVI VOK.nil (x := (.ret, S_ref51_Strings_b0_1 p0 p1 (envF (Z_ref51_Strings_b0_2 p0 p1 i0 x0)) (zoF (ZO_ref51_Strings_b0_2 p0 p1 i0 x0)))) [hP 2 (len_ok (strRows p0) (List.length p0) (strRowsLen p0)), hB 0 hc0, hP 2 (ix_ok 1 (strRows p0) i0 _ (strRowsGet hx0) rfl), hP 3 (ix_ok 1 (strRows p1) i0 _ (strRowsGet (getD_ok p1 i0 (⟨#[]⟩ : ByteArray) ((H.2.1 i0 x0 hx0)))) rfl), hP 1 (dec (!(sEq x0 (List.getD p1 i0 (⟨#[]⟩ : ByteArray)))) true (by rw [h0]; rfl))] [] (by kernel_rfl)⟩
theorem lt_ref51_Strings_b0 (p0 : List ByteArray) (p1 : List ByteArray) (H : H_ref51_Strings_b0 p0 p1) : ∀ (r0 : List ByteArray) (i0 : Nat), List.drop i0 p0 = r0 → P_ref51_Strings_b0 p0 p1 (E_ref51_Strings_b0 p0 p1 i0) (l_ref51_Strings_b0 p0 p1 r0 i0)
  | [], i0, hd => by
    have hc0 : (decide ((i0 : Int) < ((List.length p0) : Int))) = false := by have := drop_end hd; simp; omega
    rw [l_ref51_Strings_b0]
    exact x_ref51_Strings_b0_0 p0 p1 H i0 hc0
  | x0 :: r0, i0, hd => by
    obtain ⟨hx0, hi0, hd'⟩ := drop_get hd
    have hc0 : (decide ((i0 : Int) < ((List.length p0) : Int))) = true := by simp; omega
    rw [l_ref51_Strings_b0]
    cases h0 : (sEq x0 (List.getD p1 i0 (⟨#[]⟩ : ByteArray))) with
    | true =>
     exact P_ref51_Strings_b0_mono p0 p1 (fun r hr => n_ref51_Strings_b0_1 p0 p1 H x0 i0 hx0 hi0 hc0 h0 hr) _ (lt_ref51_Strings_b0 p0 p1 H r0 (i0 + 1) hd')
    | false =>
     exact x_ref51_Strings_b0_2 p0 p1 H x0 i0 hx0 hi0 hc0 h0
/-- orchestrator/ orchestratorref51.Strings -/
def s_ref51_Strings (p0 : List ByteArray) (p1 : List ByteArray) : Bool :=
  bif (((List.length p0) : Int) == ((List.length p1) : Int)) then
    (match (l_ref51_Strings_b0 p0 p1 p0 0) with
    | .k0 => true
    | .k1 => false)
  else
    false
def c_ref51_Strings (p0 : List ByteArray) (p1 : List ByteArray) : En := .call 10 [.sl (strRows p0), .sl (strRows p1)] []
def a_ref51_Strings (p0 : List ByteArray) (p1 : List ByteArray) : Rs := .ret (.bool (s_ref51_Strings p0 p1)) []
def H_ref51_Strings (p0 : List ByteArray) (p1 : List ByteArray) : Prop := ((((List.length p0) : Int) == ((List.length p1) : Int)) = true → H_ref51_Strings_b0 p0 p1) ∧ True
theorem t_ref51_Strings (p0 : List ByteArray) (p1 : List ByteArray) (H : H_ref51_Strings p0 p1) : Tells G (c_ref51_Strings p0 p1) (a_ref51_Strings p0 p1) := by
  unfold a_ref51_Strings s_ref51_Strings
  cases h0 : (((List.length p0) : Int) == ((List.length p1) : Int)) with
  | true =>
   have hl1 := lt_ref51_Strings_b0 p0 p1 (H.1 h0) p0 0 (by simp)
   cases hr1 : (l_ref51_Strings_b0 p0 p1 p0 0) with
   | k0 =>
     rw [hr1] at hl1
     obtain ⟨z1, zo1, hl1⟩ := hl1
     exact tells_VI (fn := Ir.ref51_Strings) rfl VOK.nil [hP 2 (len_ok (strRows p0) (List.length p0) (strRowsLen p0)), hP 1 (len_ok (strRows p1) (List.length p1) (strRowsLen p1)), hP 0 (dec (!(((List.length p0) : Int) == ((List.length p1) : Int))) false (by rw [h0]; rfl))] [aN hl1] (by kernel_rfl)
   | k1 =>
     rw [hr1] at hl1
     obtain ⟨z1, zo1, hl1⟩ := hl1
     exact tells_VI (fn := Ir.ref51_Strings) rfl VOK.nil [hP 2 (len_ok (strRows p0) (List.length p0) (strRowsLen p0)), hP 1 (len_ok (strRows p1) (List.length p1) (strRowsLen p1)), hP 0 (dec (!(((List.length p0) : Int) == ((List.length p1) : Int))) false (by rw [h0]; rfl))] [aN hl1] (by kernel_rfl)
  | false =>
   exact tells_VI (fn := Ir.ref51_Strings) rfl VOK.nil [hP 2 (len_ok (strRows p0) (List.length p0) (strRowsLen p0)), hP 1 (len_ok (strRows p1) (List.length p1) (strRowsLen p1)), hP 0 (dec (!(((List.length p0) : Int) == ((List.length p1) : Int))) true (by rw [h0]; rfl))] [] (by kernel_rfl)

/-- orchestrator/ orchestratorref51.limit -/
def s_ref51_limit (p0 : Int) : Int :=
  (mn 1000000000000000 (mx 0 p0))
def c_ref51_limit (p0 : Int) : En := .call 21 [.int .i64 p0] []
def a_ref51_limit (p0 : Int) : Rs := .ret (.int .i64 (s_ref51_limit p0)) []
theorem t_ref51_limit (p0 : Int) : Tells G (c_ref51_limit p0) (a_ref51_limit p0) := by
  unfold a_ref51_limit s_ref51_limit
  exact tells_VI (fn := Ir.ref51_limit) rfl VOK.nil [] [] (by kernel_rfl)

/-- orchestrator/ orchestratorref51.usage -/
def s_ref51_usage (p0 : List Int) (p1 : Int) : Int :=
  bif (decide (p1 < ((List.length p0) : Int))) then
    (s_ref51_limit (List.getD p0 (Int.toNat p1) 0))
  else
    0
def c_ref51_usage (p0 : List Int) (p1 : Int) : En := .call 25 [.sl (intRows p0), .int .i64 p1] []
def a_ref51_usage (p0 : List Int) (p1 : Int) : Rs := .ret (.int .i64 (s_ref51_usage p0 p1)) []
def H_ref51_usage (p0 : List Int) (p1 : Int) : Prop := (0 ≤ p1) ∧ ((decide (p1 < ((List.length p0) : Int))) = true → Int.toNat p1 < List.length p0) ∧ True
theorem t_ref51_usage (p0 : List Int) (p1 : Int) (H : H_ref51_usage p0 p1) : Tells G (c_ref51_usage p0 p1) (a_ref51_usage p0 p1) := by
  unfold a_ref51_usage s_ref51_usage
  cases h0 : (decide (p1 < ((List.length p0) : Int))) with
  | true =>
   exact tells_VI (fn := Ir.ref51_usage) rfl VOK.nil [hP 3 (len_ok (intRows p0) (List.length p0) (intRowsLen p0)), hB 0 h0, hP 2 (ixI_ok 1 (intRows p0) p1 _ (H.1) (intRowsGet (getD_ok p0 (Int.toNat p1) 0 (H.2.1 h0))) rfl)] [aN (t_ref51_limit (List.getD p0 (Int.toNat p1) 0))] (by kernel_rfl)
  | false =>
   exact tells_VI (fn := Ir.ref51_usage) rfl VOK.nil [hP 3 (len_ok (intRows p0) (List.length p0) (intRowsLen p0)), hB 0 h0] [] (by kernel_rfl)

/-- orchestrator/ orchestratorref02.clamp -/
def s_ref02_clamp (p0 : Int) : Int :=
  (mn 1000000000000000 (mx 0 p0))
def c_ref02_clamp (p0 : Int) : En := .call 48 [.int .i64 p0] []
def a_ref02_clamp (p0 : Int) : Rs := .ret (.int .i64 (s_ref02_clamp p0)) []
theorem t_ref02_clamp (p0 : Int) : Tells G (c_ref02_clamp p0) (a_ref02_clamp p0) := by
  unfold a_ref02_clamp s_ref02_clamp
  exact tells_VI (fn := Ir.ref02_clamp) rfl VOK.nil [] [] (by kernel_rfl)

/-- orchestrator/ orchestratorref02.Add -/
def s_ref02_Add (p0 : Resources) (p1 : Resources) : Resources :=
  (Resources.mk (s_ref02_clamp (w64 ((s_ref02_clamp p0.cPU) + (s_ref02_clamp p1.cPU)))) (s_ref02_clamp (w64 ((s_ref02_clamp p0.memory) + (s_ref02_clamp p1.memory)))) (s_ref02_clamp (w64 ((s_ref02_clamp p0.disk) + (s_ref02_clamp p1.disk)))))
def c_ref02_Add (p0 : Resources) (p1 : Resources) : En := .call 46 [.agg (Resources.cells p0), .agg (Resources.cells p1)] []
def a_ref02_Add (p0 : Resources) (p1 : Resources) : Rs := .ret (.agg (Resources.cells (s_ref02_Add p0 p1))) []
theorem t_ref02_Add (p0 : Resources) (p1 : Resources) : Tells G (c_ref02_Add p0 p1) (a_ref02_Add p0 p1) := by
  unfold a_ref02_Add s_ref02_Add
  exact tells_VI (fn := Ir.ref02_Add) rfl VOK.nil [] [aN (t_ref02_clamp p0.cPU), aN (t_ref02_clamp p1.cPU), aN (t_ref02_clamp (w64 ((s_ref02_clamp p0.cPU) + (s_ref02_clamp p1.cPU)))), aN (t_ref02_clamp p0.memory), aN (t_ref02_clamp p1.memory), aN (t_ref02_clamp (w64 ((s_ref02_clamp p0.memory) + (s_ref02_clamp p1.memory)))), aN (t_ref02_clamp p0.disk), aN (t_ref02_clamp p1.disk), aN (t_ref02_clamp (w64 ((s_ref02_clamp p0.disk) + (s_ref02_clamp p1.disk))))] (by kernel_rfl)

def l_ref02_Requests_b0 (p0 : PodSpec) : List Container → Nat → Resources → Resources
  | [], _i0, v0_1 =>
    v0_1
  | x0 :: r0, i0, v0_1 =>
    l_ref02_Requests_b0 p0 r0 (i0 + 1) (s_ref02_Add v0_1 x0.request)
def HE_ref02_Requests_b0 (_p0 : PodSpec) (i0 : Nat) (_v0_1 : Resources) : List PV :=
  [.un, .bx 0 0, .bx 1 0, .bx 2 0, .int .i64 (i0 : Int), .un, .un, .un, .un, .un, .un, .un, .un, .un, .un, .un, .un, .un, .un, .un, .un, .un]
def HO_ref02_Requests_b0 (p0 : PodSpec) (_i0 : Nat) (v0_1 : Resources) : List Ob :=
  [⟨10, 0, true, [.str p0.node, .int .i64 p0.priority, .int .i64 p0.restart, .int .i64 p0.grace, .sl (Container.rows p0.containers), .sl (Requirement.rows p0.nodeSelector), .sl (NodeTerm.rows p0.nodeTerms), .sl (PodTerm.rows p0.podTerms), .sl (SpreadRule.rows p0.spread), .sl (Toleration.rows p0.tolerations)]⟩, ⟨3, 0, true, [.int .i64 0, .int .i64 0, .int .i64 0]⟩, ⟨3, 0, true, [.int .i64 v0_1.cPU, .int .i64 v0_1.memory, .int .i64 v0_1.disk]⟩]
def E_ref02_Requests_b0 (p0 : PodSpec) (i0 : Nat) (v0_1 : Resources) : En := .loop 0 Ir.ref02_Requests_b0_live Ir.ref02_Requests_b0 (HE_ref02_Requests_b0 p0 i0 v0_1) (HO_ref02_Requests_b0 p0 i0 v0_1)
def S_ref02_Requests_b0_0 (p0 : PodSpec) (q0 : Resources) (z : Nat → PV) (_zo : Nat → List PV) : St :=
  ⟨[z 0, z 1, .bx 1 0, .bx 2 0, z 4, z 5, z 6, z 7, z 8, z 9, z 10, z 11, z 12, z 13, z 14, z 15, z 16, z 17, z 18, z 19, z 20, z 21], [(0, ⟨10, 0, true, [.str p0.node, .int .i64 p0.priority, .int .i64 p0.restart, .int .i64 p0.grace, .sl (Container.rows p0.containers), .sl (Requirement.rows p0.nodeSelector), .sl (NodeTerm.rows p0.nodeTerms), .sl (PodTerm.rows p0.podTerms), .sl (SpreadRule.rows p0.spread), .sl (Toleration.rows p0.tolerations)]⟩), (1, ⟨3, 0, true, [.int .i64 0, .int .i64 0, .int .i64 0]⟩), (2, ⟨3, 0, true, [.int .i64 q0.cPU, .int .i64 q0.memory, .int .i64 q0.disk]⟩)], 323⟩
def P_ref02_Requests_b0 (p0 : PodSpec) (e : En) (q : Resources) : Prop := ∃ z zo, Tells G e (.st (.exit 0) (S_ref02_Requests_b0_0 p0 q z zo))
theorem P_ref02_Requests_b0_mono (p0 : PodSpec) {e e' : En} (h : ∀ r, Tells G e r → Tells G e' r) : ∀ q, P_ref02_Requests_b0 p0 e q → P_ref02_Requests_b0 p0 e' q
  | _, ⟨z, zo, hz⟩ => ⟨z, zo, h _ hz⟩
def H_ref02_Requests_b0 (p0 : PodSpec) : Prop := (List.length p0.containers ≤ 4611686018427387904) ∧ True
def Z_ref02_Requests_b0_0 (p0 : PodSpec) (i0 : Nat) (_v0_1 : Resources) : List PV :=
  [.un, .bx 0 0, .un, .un, .int .i64 (i0 : Int), .un, .int .i64 (i0 : Int), .bx 0 4, .sl (Container.rows p0.containers), .int .i64 ((List.length p0.containers) : Int), .bool false]
def ZO_ref02_Requests_b0_0 (_p0 : PodSpec) (_i0 : Nat) (_v0_1 : Resources) : List (Nat × List PV) :=
  []
theorem x_ref02_Requests_b0_0 (p0 : PodSpec) (_H : H_ref02_Requests_b0 p0) (i0 : Nat) (v0_1 : Resources) (hc0 : (decide ((i0 : Int) < ((List.length p0.containers) : Int))) = false) : P_ref02_Requests_b0 p0 (E_ref02_Requests_b0 p0 i0 v0_1) v0_1 := by
  exact ⟨(envF (Z_ref02_Requests_b0_0 p0 i0 v0_1)), (zoF (ZO_ref02_Requests_b0_0 p0 i0 v0_1)), tells_outVI VOK.nil (x := ((.exit 0), S_ref02_Requests_b0_0 p0 v0_1 (envF (Z_ref02_Requests_b0_0 p0 i0 v0_1)) (zoF (ZO_ref02_Requests_b0_0 p0 i0 v0_1)))) [hP 3 (len_ok (Container.rows p0.containers) (List.length p0.containers) (Container.rowsLen p0.containers)), hB 0 hc0] [] (by kernel_rfl)⟩
theorem n_ref02_Requests_b0_1 (p0 : PodSpec) (H : H_ref02_Requests_b0 p0) (x0 : Container) (i0 : Nat) (v0_1 : Resources) (hx0 : p0.containers[i0]? = some x0) (hi0 : i0 < List.length p0.containers) (hc0 : (decide ((i0 : Int) < ((List.length p0.containers) : Int))) = true) {r : Rs} (hr : Tells G (E_ref02_Requests_b0 p0 (i0 + 1) (s_ref02_Add v0_1 x0.request)) r) : Tells G (E_ref02_Requests_b0 p0 i0 v0_1) r := by
  have hB0 := H.1
  exact tells_nextVI VOK.nil (y := (HE_ref02_Requests_b0 p0 (i0 + 1) (s_ref02_Add v0_1 x0.request), HO_ref02_Requests_b0 p0 (i0 + 1) (s_ref02_Add v0_1 x0.request))) [hP 3 (len_ok (Container.rows p0.containers) (List.length p0.containers) (Container.rowsLen p0.containers)), hB 0 hc0, hP 4 (ix_ok 11 (Container.rows p0.containers) i0 _ (Container.rowsGet hx0) rfl), hP 5 (inc_ok i0 (by omega))] [aN (t_ref02_Add v0_1 x0.request)] (by kernel_rfl) hr
theorem lt_ref02_Requests_b0 (p0 : PodSpec) (H : H_ref02_Requests_b0 p0) : ∀ (r0 : List Container) (i0 : Nat) (v0_1 : Resources), List.drop i0 p0.containers = r0 → P_ref02_Requests_b0 p0 (E_ref02_Requests_b0 p0 i0 v0_1) (l_ref02_Requests_b0 p0 r0 i0 v0_1)
  | [], i0, v0_1, hd => by
    have hc0 : (decide ((i0 : Int) < ((List.length p0.containers) : Int))) = false := by have := drop_end hd; simp; omega
    rw [l_ref02_Requests_b0]
    exact x_ref02_Requests_b0_0 p0 H i0 v0_1 hc0
  | x0 :: r0, i0, v0_1, hd => by
    obtain ⟨hx0, hi0, hd'⟩ := drop_get hd
    have hc0 : (decide ((i0 : Int) < ((List.length p0.containers) : Int))) = true := by simp; omega
    rw [l_ref02_Requests_b0]
    exact P_ref02_Requests_b0_mono p0 (fun r hr => n_ref02_Requests_b0_1 p0 H x0 i0 v0_1 hx0 hi0 hc0 hr) _ (lt_ref02_Requests_b0 p0 H r0 (i0 + 1) (s_ref02_Add v0_1 x0.request) hd')
/-- orchestrator/ orchestratorref02.Requests -/
def s_ref02_Requests (p0 : PodSpec) : Resources :=
  (l_ref02_Requests_b0 p0 p0.containers 0 (Resources.mk 0 0 0))
def c_ref02_Requests (p0 : PodSpec) : En := .call 39 [.agg (PodSpec.cells p0)] []
def a_ref02_Requests (p0 : PodSpec) : Rs := .ret (.agg (Resources.cells (s_ref02_Requests p0))) []
def H_ref02_Requests (p0 : PodSpec) : Prop := (H_ref02_Requests_b0 p0) ∧ True
theorem t_ref02_Requests (p0 : PodSpec) (H : H_ref02_Requests p0) : Tells G (c_ref02_Requests p0) (a_ref02_Requests p0) := by
  unfold a_ref02_Requests s_ref02_Requests
  have hl0 := lt_ref02_Requests_b0 p0 (H.1) p0.containers 0 (Resources.mk 0 0 0) (by simp)
  obtain ⟨z0, zo0, hl0⟩ := hl0
  exact tells_VI (fn := Ir.ref02_Requests) rfl VOK.nil [] [aN hl0] (by kernel_rfl)

/-- orchestrator/ orchestratorref13.Key -/
def s_ref13_Key (p0 : ByteArray) (p1 : ByteArray) (p2 : ByteArray) : ByteArray :=
  ((((p0 ++ (⟨#[47]⟩ : ByteArray)) ++ p1) ++ (⟨#[47]⟩ : ByteArray)) ++ p2)
def c_ref13_Key (p0 : ByteArray) (p1 : ByteArray) (p2 : ByteArray) : En := .call 34 [.str p0, .str p1, .str p2] []
def a_ref13_Key (p0 : ByteArray) (p1 : ByteArray) (p2 : ByteArray) : Rs := .ret (.str (s_ref13_Key p0 p1 p2)) []
def H_ref13_Key (p0 : ByteArray) (p1 : ByteArray) (p2 : ByteArray) : Prop := (ByteArray.size p0 + ByteArray.size (⟨#[47]⟩ : ByteArray) ≤ 9223372036854775807) ∧ (ByteArray.size (p0 ++ (⟨#[47]⟩ : ByteArray)) + ByteArray.size p1 ≤ 9223372036854775807) ∧ (ByteArray.size ((p0 ++ (⟨#[47]⟩ : ByteArray)) ++ p1) + ByteArray.size (⟨#[47]⟩ : ByteArray) ≤ 9223372036854775807) ∧ (ByteArray.size (((p0 ++ (⟨#[47]⟩ : ByteArray)) ++ p1) ++ (⟨#[47]⟩ : ByteArray)) + ByteArray.size p2 ≤ 9223372036854775807) ∧ True
theorem t_ref13_Key (p0 : ByteArray) (p1 : ByteArray) (p2 : ByteArray) (H : H_ref13_Key p0 p1 p2) : Tells G (c_ref13_Key p0 p1 p2) (a_ref13_Key p0 p1 p2) := by
  unfold a_ref13_Key s_ref13_Key
  exact tells_VI (fn := Ir.ref13_Key) rfl VOK.nil [hP 2 (cat_ok p0 (⟨#[47]⟩ : ByteArray) H.1), hP 1 (cat_ok (p0 ++ (⟨#[47]⟩ : ByteArray)) p1 H.2.1), hP 0 (cat_ok ((p0 ++ (⟨#[47]⟩ : ByteArray)) ++ p1) (⟨#[47]⟩ : ByteArray) H.2.2.1), hP 1 (cat_ok (((p0 ++ (⟨#[47]⟩ : ByteArray)) ++ p1) ++ (⟨#[47]⟩ : ByteArray)) p2 H.2.2.2.1)] [] (by kernel_rfl)

/-- orchestrator/ orchestratorref13.KeyOf -/
def s_ref13_KeyOf (p0 : Meta) : ByteArray :=
  (s_ref13_Key p0.kind p0.namespace_ p0.name)
def c_ref13_KeyOf (p0 : Meta) : En := .call 24 [.agg (Meta.cells p0)] []
def a_ref13_KeyOf (p0 : Meta) : Rs := .ret (.str (s_ref13_KeyOf p0)) []
def H_ref13_KeyOf (p0 : Meta) : Prop := (H_ref13_Key p0.kind p0.namespace_ p0.name) ∧ True
theorem t_ref13_KeyOf (p0 : Meta) (H : H_ref13_KeyOf p0) : Tells G (c_ref13_KeyOf p0) (a_ref13_KeyOf p0) := by
  unfold a_ref13_KeyOf s_ref13_KeyOf
  exact tells_VI (fn := Ir.ref13_KeyOf) rfl VOK.nil [] [aN (t_ref13_Key p0.kind p0.namespace_ p0.name H.1)] (by kernel_rfl)

/-- orchestrator/ orchestratorref51.before -/
def s_ref51_before (p0 : List Pod) (p1 : List Int) (p2 : Int) (p3 : Int) : Bool :=
  bif ((decide (0 < (w64 ((s_ref51_usage p1 p2) - (s_ref02_Requests (List.getD p0 (Int.toNat p2) (Pod.mk (Meta.mk (⟨#[]⟩ : ByteArray) (⟨#[]⟩ : ByteArray) (⟨#[]⟩ : ByteArray) 0 0 0 0 false 0 [] [] [] []) (PodSpec.mk (⟨#[]⟩ : ByteArray) 0 0 0 [] [] [] [] [] []) (PodStatus.mk 0 false 0 0 0 [] 0 (⟨#[]⟩ : ByteArray) (⟨#[]⟩ : ByteArray)))).spec).memory)))) == (decide (0 < (w64 ((s_ref51_usage p1 p3) - (s_ref02_Requests (List.getD p0 (Int.toNat p3) (Pod.mk (Meta.mk (⟨#[]⟩ : ByteArray) (⟨#[]⟩ : ByteArray) (⟨#[]⟩ : ByteArray) 0 0 0 0 false 0 [] [] [] []) (PodSpec.mk (⟨#[]⟩ : ByteArray) 0 0 0 [] [] [] [] [] []) (PodStatus.mk 0 false 0 0 0 [] 0 (⟨#[]⟩ : ByteArray) (⟨#[]⟩ : ByteArray)))).spec).memory))))) then
    bif ((List.getD p0 (Int.toNat p2) (Pod.mk (Meta.mk (⟨#[]⟩ : ByteArray) (⟨#[]⟩ : ByteArray) (⟨#[]⟩ : ByteArray) 0 0 0 0 false 0 [] [] [] []) (PodSpec.mk (⟨#[]⟩ : ByteArray) 0 0 0 [] [] [] [] [] []) (PodStatus.mk 0 false 0 0 0 [] 0 (⟨#[]⟩ : ByteArray) (⟨#[]⟩ : ByteArray)))).spec.priority == (List.getD p0 (Int.toNat p3) (Pod.mk (Meta.mk (⟨#[]⟩ : ByteArray) (⟨#[]⟩ : ByteArray) (⟨#[]⟩ : ByteArray) 0 0 0 0 false 0 [] [] [] []) (PodSpec.mk (⟨#[]⟩ : ByteArray) 0 0 0 [] [] [] [] [] []) (PodStatus.mk 0 false 0 0 0 [] 0 (⟨#[]⟩ : ByteArray) (⟨#[]⟩ : ByteArray)))).spec.priority) then
      bif ((w64 ((s_ref51_usage p1 p2) - (s_ref02_Requests (List.getD p0 (Int.toNat p2) (Pod.mk (Meta.mk (⟨#[]⟩ : ByteArray) (⟨#[]⟩ : ByteArray) (⟨#[]⟩ : ByteArray) 0 0 0 0 false 0 [] [] [] []) (PodSpec.mk (⟨#[]⟩ : ByteArray) 0 0 0 [] [] [] [] [] []) (PodStatus.mk 0 false 0 0 0 [] 0 (⟨#[]⟩ : ByteArray) (⟨#[]⟩ : ByteArray)))).spec).memory)) == (w64 ((s_ref51_usage p1 p3) - (s_ref02_Requests (List.getD p0 (Int.toNat p3) (Pod.mk (Meta.mk (⟨#[]⟩ : ByteArray) (⟨#[]⟩ : ByteArray) (⟨#[]⟩ : ByteArray) 0 0 0 0 false 0 [] [] [] []) (PodSpec.mk (⟨#[]⟩ : ByteArray) 0 0 0 [] [] [] [] [] []) (PodStatus.mk 0 false 0 0 0 [] 0 (⟨#[]⟩ : ByteArray) (⟨#[]⟩ : ByteArray)))).spec).memory))) then
        (sLt (s_ref13_KeyOf (List.getD p0 (Int.toNat p2) (Pod.mk (Meta.mk (⟨#[]⟩ : ByteArray) (⟨#[]⟩ : ByteArray) (⟨#[]⟩ : ByteArray) 0 0 0 0 false 0 [] [] [] []) (PodSpec.mk (⟨#[]⟩ : ByteArray) 0 0 0 [] [] [] [] [] []) (PodStatus.mk 0 false 0 0 0 [] 0 (⟨#[]⟩ : ByteArray) (⟨#[]⟩ : ByteArray)))).meta_) (s_ref13_KeyOf (List.getD p0 (Int.toNat p3) (Pod.mk (Meta.mk (⟨#[]⟩ : ByteArray) (⟨#[]⟩ : ByteArray) (⟨#[]⟩ : ByteArray) 0 0 0 0 false 0 [] [] [] []) (PodSpec.mk (⟨#[]⟩ : ByteArray) 0 0 0 [] [] [] [] [] []) (PodStatus.mk 0 false 0 0 0 [] 0 (⟨#[]⟩ : ByteArray) (⟨#[]⟩ : ByteArray)))).meta_))
      else
        (decide ((w64 ((s_ref51_usage p1 p3) - (s_ref02_Requests (List.getD p0 (Int.toNat p3) (Pod.mk (Meta.mk (⟨#[]⟩ : ByteArray) (⟨#[]⟩ : ByteArray) (⟨#[]⟩ : ByteArray) 0 0 0 0 false 0 [] [] [] []) (PodSpec.mk (⟨#[]⟩ : ByteArray) 0 0 0 [] [] [] [] [] []) (PodStatus.mk 0 false 0 0 0 [] 0 (⟨#[]⟩ : ByteArray) (⟨#[]⟩ : ByteArray)))).spec).memory)) < (w64 ((s_ref51_usage p1 p2) - (s_ref02_Requests (List.getD p0 (Int.toNat p2) (Pod.mk (Meta.mk (⟨#[]⟩ : ByteArray) (⟨#[]⟩ : ByteArray) (⟨#[]⟩ : ByteArray) 0 0 0 0 false 0 [] [] [] []) (PodSpec.mk (⟨#[]⟩ : ByteArray) 0 0 0 [] [] [] [] [] []) (PodStatus.mk 0 false 0 0 0 [] 0 (⟨#[]⟩ : ByteArray) (⟨#[]⟩ : ByteArray)))).spec).memory))))
    else
      (decide ((List.getD p0 (Int.toNat p2) (Pod.mk (Meta.mk (⟨#[]⟩ : ByteArray) (⟨#[]⟩ : ByteArray) (⟨#[]⟩ : ByteArray) 0 0 0 0 false 0 [] [] [] []) (PodSpec.mk (⟨#[]⟩ : ByteArray) 0 0 0 [] [] [] [] [] []) (PodStatus.mk 0 false 0 0 0 [] 0 (⟨#[]⟩ : ByteArray) (⟨#[]⟩ : ByteArray)))).spec.priority < (List.getD p0 (Int.toNat p3) (Pod.mk (Meta.mk (⟨#[]⟩ : ByteArray) (⟨#[]⟩ : ByteArray) (⟨#[]⟩ : ByteArray) 0 0 0 0 false 0 [] [] [] []) (PodSpec.mk (⟨#[]⟩ : ByteArray) 0 0 0 [] [] [] [] [] []) (PodStatus.mk 0 false 0 0 0 [] 0 (⟨#[]⟩ : ByteArray) (⟨#[]⟩ : ByteArray)))).spec.priority))
  else
    (decide (0 < (w64 ((s_ref51_usage p1 p2) - (s_ref02_Requests (List.getD p0 (Int.toNat p2) (Pod.mk (Meta.mk (⟨#[]⟩ : ByteArray) (⟨#[]⟩ : ByteArray) (⟨#[]⟩ : ByteArray) 0 0 0 0 false 0 [] [] [] []) (PodSpec.mk (⟨#[]⟩ : ByteArray) 0 0 0 [] [] [] [] [] []) (PodStatus.mk 0 false 0 0 0 [] 0 (⟨#[]⟩ : ByteArray) (⟨#[]⟩ : ByteArray)))).spec).memory))))
def c_ref51_before (p0 : List Pod) (p1 : List Int) (p2 : Int) (p3 : Int) : En := .call 33 [.sl (Pod.rows p0), .sl (intRows p1), .int .i64 p2, .int .i64 p3] []
def a_ref51_before (p0 : List Pod) (p1 : List Int) (p2 : Int) (p3 : Int) : Rs := .ret (.bool (s_ref51_before p0 p1 p2 p3)) []
def H_ref51_before (p0 : List Pod) (p1 : List Int) (p2 : Int) (p3 : Int) : Prop := (0 ≤ p2) ∧ (Int.toNat p2 < List.length p0) ∧ (0 ≤ p3) ∧ (Int.toNat p3 < List.length p0) ∧ (H_ref51_usage p1 p2) ∧ (H_ref02_Requests (List.getD p0 (Int.toNat p2) (Pod.mk (Meta.mk (⟨#[]⟩ : ByteArray) (⟨#[]⟩ : ByteArray) (⟨#[]⟩ : ByteArray) 0 0 0 0 false 0 [] [] [] []) (PodSpec.mk (⟨#[]⟩ : ByteArray) 0 0 0 [] [] [] [] [] []) (PodStatus.mk 0 false 0 0 0 [] 0 (⟨#[]⟩ : ByteArray) (⟨#[]⟩ : ByteArray)))).spec) ∧ (H_ref51_usage p1 p3) ∧ (H_ref02_Requests (List.getD p0 (Int.toNat p3) (Pod.mk (Meta.mk (⟨#[]⟩ : ByteArray) (⟨#[]⟩ : ByteArray) (⟨#[]⟩ : ByteArray) 0 0 0 0 false 0 [] [] [] []) (PodSpec.mk (⟨#[]⟩ : ByteArray) 0 0 0 [] [] [] [] [] []) (PodStatus.mk 0 false 0 0 0 [] 0 (⟨#[]⟩ : ByteArray) (⟨#[]⟩ : ByteArray)))).spec) ∧ (H_ref13_KeyOf (List.getD p0 (Int.toNat p2) (Pod.mk (Meta.mk (⟨#[]⟩ : ByteArray) (⟨#[]⟩ : ByteArray) (⟨#[]⟩ : ByteArray) 0 0 0 0 false 0 [] [] [] []) (PodSpec.mk (⟨#[]⟩ : ByteArray) 0 0 0 [] [] [] [] [] []) (PodStatus.mk 0 false 0 0 0 [] 0 (⟨#[]⟩ : ByteArray) (⟨#[]⟩ : ByteArray)))).meta_) ∧ (H_ref13_KeyOf (List.getD p0 (Int.toNat p3) (Pod.mk (Meta.mk (⟨#[]⟩ : ByteArray) (⟨#[]⟩ : ByteArray) (⟨#[]⟩ : ByteArray) 0 0 0 0 false 0 [] [] [] []) (PodSpec.mk (⟨#[]⟩ : ByteArray) 0 0 0 [] [] [] [] [] []) (PodStatus.mk 0 false 0 0 0 [] 0 (⟨#[]⟩ : ByteArray) (⟨#[]⟩ : ByteArray)))).meta_) ∧ True
theorem t_ref51_before (p0 : List Pod) (p1 : List Int) (p2 : Int) (p3 : Int) (H : H_ref51_before p0 p1 p2 p3) : Tells G (c_ref51_before p0 p1 p2 p3) (a_ref51_before p0 p1 p2 p3) := by
  unfold a_ref51_before s_ref51_before
  cases h0 : ((decide (0 < (w64 ((s_ref51_usage p1 p2) - (s_ref02_Requests (List.getD p0 (Int.toNat p2) (Pod.mk (Meta.mk (⟨#[]⟩ : ByteArray) (⟨#[]⟩ : ByteArray) (⟨#[]⟩ : ByteArray) 0 0 0 0 false 0 [] [] [] []) (PodSpec.mk (⟨#[]⟩ : ByteArray) 0 0 0 [] [] [] [] [] []) (PodStatus.mk 0 false 0 0 0 [] 0 (⟨#[]⟩ : ByteArray) (⟨#[]⟩ : ByteArray)))).spec).memory)))) == (decide (0 < (w64 ((s_ref51_usage p1 p3) - (s_ref02_Requests (List.getD p0 (Int.toNat p3) (Pod.mk (Meta.mk (⟨#[]⟩ : ByteArray) (⟨#[]⟩ : ByteArray) (⟨#[]⟩ : ByteArray) 0 0 0 0 false 0 [] [] [] []) (PodSpec.mk (⟨#[]⟩ : ByteArray) 0 0 0 [] [] [] [] [] []) (PodStatus.mk 0 false 0 0 0 [] 0 (⟨#[]⟩ : ByteArray) (⟨#[]⟩ : ByteArray)))).spec).memory))))) with
  | true =>
   cases h1 : ((List.getD p0 (Int.toNat p2) (Pod.mk (Meta.mk (⟨#[]⟩ : ByteArray) (⟨#[]⟩ : ByteArray) (⟨#[]⟩ : ByteArray) 0 0 0 0 false 0 [] [] [] []) (PodSpec.mk (⟨#[]⟩ : ByteArray) 0 0 0 [] [] [] [] [] []) (PodStatus.mk 0 false 0 0 0 [] 0 (⟨#[]⟩ : ByteArray) (⟨#[]⟩ : ByteArray)))).spec.priority == (List.getD p0 (Int.toNat p3) (Pod.mk (Meta.mk (⟨#[]⟩ : ByteArray) (⟨#[]⟩ : ByteArray) (⟨#[]⟩ : ByteArray) 0 0 0 0 false 0 [] [] [] []) (PodSpec.mk (⟨#[]⟩ : ByteArray) 0 0 0 [] [] [] [] [] []) (PodStatus.mk 0 false 0 0 0 [] 0 (⟨#[]⟩ : ByteArray) (⟨#[]⟩ : ByteArray)))).spec.priority) with
   | true =>
    cases h2 : ((w64 ((s_ref51_usage p1 p2) - (s_ref02_Requests (List.getD p0 (Int.toNat p2) (Pod.mk (Meta.mk (⟨#[]⟩ : ByteArray) (⟨#[]⟩ : ByteArray) (⟨#[]⟩ : ByteArray) 0 0 0 0 false 0 [] [] [] []) (PodSpec.mk (⟨#[]⟩ : ByteArray) 0 0 0 [] [] [] [] [] []) (PodStatus.mk 0 false 0 0 0 [] 0 (⟨#[]⟩ : ByteArray) (⟨#[]⟩ : ByteArray)))).spec).memory)) == (w64 ((s_ref51_usage p1 p3) - (s_ref02_Requests (List.getD p0 (Int.toNat p3) (Pod.mk (Meta.mk (⟨#[]⟩ : ByteArray) (⟨#[]⟩ : ByteArray) (⟨#[]⟩ : ByteArray) 0 0 0 0 false 0 [] [] [] []) (PodSpec.mk (⟨#[]⟩ : ByteArray) 0 0 0 [] [] [] [] [] []) (PodStatus.mk 0 false 0 0 0 [] 0 (⟨#[]⟩ : ByteArray) (⟨#[]⟩ : ByteArray)))).spec).memory))) with
    | true =>
     exact tells_VI (fn := Ir.ref51_before) rfl VOK.nil [hP 3 (ixI_ok 32 (Pod.rows p0) p2 _ (H.1) (Pod.rowsGet (getD_ok p0 (Int.toNat p2) (Pod.mk (Meta.mk (⟨#[]⟩ : ByteArray) (⟨#[]⟩ : ByteArray) (⟨#[]⟩ : ByteArray) 0 0 0 0 false 0 [] [] [] []) (PodSpec.mk (⟨#[]⟩ : ByteArray) 0 0 0 [] [] [] [] [] []) (PodStatus.mk 0 false 0 0 0 [] 0 (⟨#[]⟩ : ByteArray) (⟨#[]⟩ : ByteArray))) (H.2.1))) rfl), hP 3 (ixI_ok 32 (Pod.rows p0) p3 _ (H.2.2.1) (Pod.rowsGet (getD_ok p0 (Int.toNat p3) (Pod.mk (Meta.mk (⟨#[]⟩ : ByteArray) (⟨#[]⟩ : ByteArray) (⟨#[]⟩ : ByteArray) 0 0 0 0 false 0 [] [] [] []) (PodSpec.mk (⟨#[]⟩ : ByteArray) 0 0 0 [] [] [] [] [] []) (PodStatus.mk 0 false 0 0 0 [] 0 (⟨#[]⟩ : ByteArray) (⟨#[]⟩ : ByteArray))) (H.2.2.2.1))) rfl), hP 27 (dec (!((decide (0 < (w64 ((s_ref51_usage p1 p2) - (s_ref02_Requests (List.getD p0 (Int.toNat p2) (Pod.mk (Meta.mk (⟨#[]⟩ : ByteArray) (⟨#[]⟩ : ByteArray) (⟨#[]⟩ : ByteArray) 0 0 0 0 false 0 [] [] [] []) (PodSpec.mk (⟨#[]⟩ : ByteArray) 0 0 0 [] [] [] [] [] []) (PodStatus.mk 0 false 0 0 0 [] 0 (⟨#[]⟩ : ByteArray) (⟨#[]⟩ : ByteArray)))).spec).memory)))) == (decide (0 < (w64 ((s_ref51_usage p1 p3) - (s_ref02_Requests (List.getD p0 (Int.toNat p3) (Pod.mk (Meta.mk (⟨#[]⟩ : ByteArray) (⟨#[]⟩ : ByteArray) (⟨#[]⟩ : ByteArray) 0 0 0 0 false 0 [] [] [] []) (PodSpec.mk (⟨#[]⟩ : ByteArray) 0 0 0 [] [] [] [] [] []) (PodStatus.mk 0 false 0 0 0 [] 0 (⟨#[]⟩ : ByteArray) (⟨#[]⟩ : ByteArray)))).spec).memory)))))) false (by rw [h0]; rfl)), hP 6 (dec (!((List.getD p0 (Int.toNat p2) (Pod.mk (Meta.mk (⟨#[]⟩ : ByteArray) (⟨#[]⟩ : ByteArray) (⟨#[]⟩ : ByteArray) 0 0 0 0 false 0 [] [] [] []) (PodSpec.mk (⟨#[]⟩ : ByteArray) 0 0 0 [] [] [] [] [] []) (PodStatus.mk 0 false 0 0 0 [] 0 (⟨#[]⟩ : ByteArray) (⟨#[]⟩ : ByteArray)))).spec.priority == (List.getD p0 (Int.toNat p3) (Pod.mk (Meta.mk (⟨#[]⟩ : ByteArray) (⟨#[]⟩ : ByteArray) (⟨#[]⟩ : ByteArray) 0 0 0 0 false 0 [] [] [] []) (PodSpec.mk (⟨#[]⟩ : ByteArray) 0 0 0 [] [] [] [] [] []) (PodStatus.mk 0 false 0 0 0 [] 0 (⟨#[]⟩ : ByteArray) (⟨#[]⟩ : ByteArray)))).spec.priority)) false (by rw [h1]; rfl)), hP 2 (dec (!((w64 ((s_ref51_usage p1 p2) - (s_ref02_Requests (List.getD p0 (Int.toNat p2) (Pod.mk (Meta.mk (⟨#[]⟩ : ByteArray) (⟨#[]⟩ : ByteArray) (⟨#[]⟩ : ByteArray) 0 0 0 0 false 0 [] [] [] []) (PodSpec.mk (⟨#[]⟩ : ByteArray) 0 0 0 [] [] [] [] [] []) (PodStatus.mk 0 false 0 0 0 [] 0 (⟨#[]⟩ : ByteArray) (⟨#[]⟩ : ByteArray)))).spec).memory)) == (w64 ((s_ref51_usage p1 p3) - (s_ref02_Requests (List.getD p0 (Int.toNat p3) (Pod.mk (Meta.mk (⟨#[]⟩ : ByteArray) (⟨#[]⟩ : ByteArray) (⟨#[]⟩ : ByteArray) 0 0 0 0 false 0 [] [] [] []) (PodSpec.mk (⟨#[]⟩ : ByteArray) 0 0 0 [] [] [] [] [] []) (PodStatus.mk 0 false 0 0 0 [] 0 (⟨#[]⟩ : ByteArray) (⟨#[]⟩ : ByteArray)))).spec).memory)))) false (by rw [h2]; rfl))] [aN (t_ref51_usage p1 p2 (H.2.2.2.2.1)), aN (t_ref02_Requests (List.getD p0 (Int.toNat p2) (Pod.mk (Meta.mk (⟨#[]⟩ : ByteArray) (⟨#[]⟩ : ByteArray) (⟨#[]⟩ : ByteArray) 0 0 0 0 false 0 [] [] [] []) (PodSpec.mk (⟨#[]⟩ : ByteArray) 0 0 0 [] [] [] [] [] []) (PodStatus.mk 0 false 0 0 0 [] 0 (⟨#[]⟩ : ByteArray) (⟨#[]⟩ : ByteArray)))).spec (H.2.2.2.2.2.1)), aN (t_ref51_usage p1 p3 (H.2.2.2.2.2.2.1)), aN (t_ref02_Requests (List.getD p0 (Int.toNat p3) (Pod.mk (Meta.mk (⟨#[]⟩ : ByteArray) (⟨#[]⟩ : ByteArray) (⟨#[]⟩ : ByteArray) 0 0 0 0 false 0 [] [] [] []) (PodSpec.mk (⟨#[]⟩ : ByteArray) 0 0 0 [] [] [] [] [] []) (PodStatus.mk 0 false 0 0 0 [] 0 (⟨#[]⟩ : ByteArray) (⟨#[]⟩ : ByteArray)))).spec (H.2.2.2.2.2.2.2.1)), aN (t_ref13_KeyOf (List.getD p0 (Int.toNat p2) (Pod.mk (Meta.mk (⟨#[]⟩ : ByteArray) (⟨#[]⟩ : ByteArray) (⟨#[]⟩ : ByteArray) 0 0 0 0 false 0 [] [] [] []) (PodSpec.mk (⟨#[]⟩ : ByteArray) 0 0 0 [] [] [] [] [] []) (PodStatus.mk 0 false 0 0 0 [] 0 (⟨#[]⟩ : ByteArray) (⟨#[]⟩ : ByteArray)))).meta_ (H.2.2.2.2.2.2.2.2.1)), aN (t_ref13_KeyOf (List.getD p0 (Int.toNat p3) (Pod.mk (Meta.mk (⟨#[]⟩ : ByteArray) (⟨#[]⟩ : ByteArray) (⟨#[]⟩ : ByteArray) 0 0 0 0 false 0 [] [] [] []) (PodSpec.mk (⟨#[]⟩ : ByteArray) 0 0 0 [] [] [] [] [] []) (PodStatus.mk 0 false 0 0 0 [] 0 (⟨#[]⟩ : ByteArray) (⟨#[]⟩ : ByteArray)))).meta_ (H.2.2.2.2.2.2.2.2.2.1))] (by kernel_rfl)
    | false =>
     exact tells_VI (fn := Ir.ref51_before) rfl VOK.nil [hP 3 (ixI_ok 32 (Pod.rows p0) p2 _ (H.1) (Pod.rowsGet (getD_ok p0 (Int.toNat p2) (Pod.mk (Meta.mk (⟨#[]⟩ : ByteArray) (⟨#[]⟩ : ByteArray) (⟨#[]⟩ : ByteArray) 0 0 0 0 false 0 [] [] [] []) (PodSpec.mk (⟨#[]⟩ : ByteArray) 0 0 0 [] [] [] [] [] []) (PodStatus.mk 0 false 0 0 0 [] 0 (⟨#[]⟩ : ByteArray) (⟨#[]⟩ : ByteArray))) (H.2.1))) rfl), hP 3 (ixI_ok 32 (Pod.rows p0) p3 _ (H.2.2.1) (Pod.rowsGet (getD_ok p0 (Int.toNat p3) (Pod.mk (Meta.mk (⟨#[]⟩ : ByteArray) (⟨#[]⟩ : ByteArray) (⟨#[]⟩ : ByteArray) 0 0 0 0 false 0 [] [] [] []) (PodSpec.mk (⟨#[]⟩ : ByteArray) 0 0 0 [] [] [] [] [] []) (PodStatus.mk 0 false 0 0 0 [] 0 (⟨#[]⟩ : ByteArray) (⟨#[]⟩ : ByteArray))) (H.2.2.2.1))) rfl), hP 27 (dec (!((decide (0 < (w64 ((s_ref51_usage p1 p2) - (s_ref02_Requests (List.getD p0 (Int.toNat p2) (Pod.mk (Meta.mk (⟨#[]⟩ : ByteArray) (⟨#[]⟩ : ByteArray) (⟨#[]⟩ : ByteArray) 0 0 0 0 false 0 [] [] [] []) (PodSpec.mk (⟨#[]⟩ : ByteArray) 0 0 0 [] [] [] [] [] []) (PodStatus.mk 0 false 0 0 0 [] 0 (⟨#[]⟩ : ByteArray) (⟨#[]⟩ : ByteArray)))).spec).memory)))) == (decide (0 < (w64 ((s_ref51_usage p1 p3) - (s_ref02_Requests (List.getD p0 (Int.toNat p3) (Pod.mk (Meta.mk (⟨#[]⟩ : ByteArray) (⟨#[]⟩ : ByteArray) (⟨#[]⟩ : ByteArray) 0 0 0 0 false 0 [] [] [] []) (PodSpec.mk (⟨#[]⟩ : ByteArray) 0 0 0 [] [] [] [] [] []) (PodStatus.mk 0 false 0 0 0 [] 0 (⟨#[]⟩ : ByteArray) (⟨#[]⟩ : ByteArray)))).spec).memory)))))) false (by rw [h0]; rfl)), hP 6 (dec (!((List.getD p0 (Int.toNat p2) (Pod.mk (Meta.mk (⟨#[]⟩ : ByteArray) (⟨#[]⟩ : ByteArray) (⟨#[]⟩ : ByteArray) 0 0 0 0 false 0 [] [] [] []) (PodSpec.mk (⟨#[]⟩ : ByteArray) 0 0 0 [] [] [] [] [] []) (PodStatus.mk 0 false 0 0 0 [] 0 (⟨#[]⟩ : ByteArray) (⟨#[]⟩ : ByteArray)))).spec.priority == (List.getD p0 (Int.toNat p3) (Pod.mk (Meta.mk (⟨#[]⟩ : ByteArray) (⟨#[]⟩ : ByteArray) (⟨#[]⟩ : ByteArray) 0 0 0 0 false 0 [] [] [] []) (PodSpec.mk (⟨#[]⟩ : ByteArray) 0 0 0 [] [] [] [] [] []) (PodStatus.mk 0 false 0 0 0 [] 0 (⟨#[]⟩ : ByteArray) (⟨#[]⟩ : ByteArray)))).spec.priority)) false (by rw [h1]; rfl)), hP 2 (dec (!((w64 ((s_ref51_usage p1 p2) - (s_ref02_Requests (List.getD p0 (Int.toNat p2) (Pod.mk (Meta.mk (⟨#[]⟩ : ByteArray) (⟨#[]⟩ : ByteArray) (⟨#[]⟩ : ByteArray) 0 0 0 0 false 0 [] [] [] []) (PodSpec.mk (⟨#[]⟩ : ByteArray) 0 0 0 [] [] [] [] [] []) (PodStatus.mk 0 false 0 0 0 [] 0 (⟨#[]⟩ : ByteArray) (⟨#[]⟩ : ByteArray)))).spec).memory)) == (w64 ((s_ref51_usage p1 p3) - (s_ref02_Requests (List.getD p0 (Int.toNat p3) (Pod.mk (Meta.mk (⟨#[]⟩ : ByteArray) (⟨#[]⟩ : ByteArray) (⟨#[]⟩ : ByteArray) 0 0 0 0 false 0 [] [] [] []) (PodSpec.mk (⟨#[]⟩ : ByteArray) 0 0 0 [] [] [] [] [] []) (PodStatus.mk 0 false 0 0 0 [] 0 (⟨#[]⟩ : ByteArray) (⟨#[]⟩ : ByteArray)))).spec).memory)))) true (by rw [h2]; rfl))] [aN (t_ref51_usage p1 p2 (H.2.2.2.2.1)), aN (t_ref02_Requests (List.getD p0 (Int.toNat p2) (Pod.mk (Meta.mk (⟨#[]⟩ : ByteArray) (⟨#[]⟩ : ByteArray) (⟨#[]⟩ : ByteArray) 0 0 0 0 false 0 [] [] [] []) (PodSpec.mk (⟨#[]⟩ : ByteArray) 0 0 0 [] [] [] [] [] []) (PodStatus.mk 0 false 0 0 0 [] 0 (⟨#[]⟩ : ByteArray) (⟨#[]⟩ : ByteArray)))).spec (H.2.2.2.2.2.1)), aN (t_ref51_usage p1 p3 (H.2.2.2.2.2.2.1)), aN (t_ref02_Requests (List.getD p0 (Int.toNat p3) (Pod.mk (Meta.mk (⟨#[]⟩ : ByteArray) (⟨#[]⟩ : ByteArray) (⟨#[]⟩ : ByteArray) 0 0 0 0 false 0 [] [] [] []) (PodSpec.mk (⟨#[]⟩ : ByteArray) 0 0 0 [] [] [] [] [] []) (PodStatus.mk 0 false 0 0 0 [] 0 (⟨#[]⟩ : ByteArray) (⟨#[]⟩ : ByteArray)))).spec (H.2.2.2.2.2.2.2.1))] (by kernel_rfl)
   | false =>
    exact tells_VI (fn := Ir.ref51_before) rfl VOK.nil [hP 3 (ixI_ok 32 (Pod.rows p0) p2 _ (H.1) (Pod.rowsGet (getD_ok p0 (Int.toNat p2) (Pod.mk (Meta.mk (⟨#[]⟩ : ByteArray) (⟨#[]⟩ : ByteArray) (⟨#[]⟩ : ByteArray) 0 0 0 0 false 0 [] [] [] []) (PodSpec.mk (⟨#[]⟩ : ByteArray) 0 0 0 [] [] [] [] [] []) (PodStatus.mk 0 false 0 0 0 [] 0 (⟨#[]⟩ : ByteArray) (⟨#[]⟩ : ByteArray))) (H.2.1))) rfl), hP 3 (ixI_ok 32 (Pod.rows p0) p3 _ (H.2.2.1) (Pod.rowsGet (getD_ok p0 (Int.toNat p3) (Pod.mk (Meta.mk (⟨#[]⟩ : ByteArray) (⟨#[]⟩ : ByteArray) (⟨#[]⟩ : ByteArray) 0 0 0 0 false 0 [] [] [] []) (PodSpec.mk (⟨#[]⟩ : ByteArray) 0 0 0 [] [] [] [] [] []) (PodStatus.mk 0 false 0 0 0 [] 0 (⟨#[]⟩ : ByteArray) (⟨#[]⟩ : ByteArray))) (H.2.2.2.1))) rfl), hP 27 (dec (!((decide (0 < (w64 ((s_ref51_usage p1 p2) - (s_ref02_Requests (List.getD p0 (Int.toNat p2) (Pod.mk (Meta.mk (⟨#[]⟩ : ByteArray) (⟨#[]⟩ : ByteArray) (⟨#[]⟩ : ByteArray) 0 0 0 0 false 0 [] [] [] []) (PodSpec.mk (⟨#[]⟩ : ByteArray) 0 0 0 [] [] [] [] [] []) (PodStatus.mk 0 false 0 0 0 [] 0 (⟨#[]⟩ : ByteArray) (⟨#[]⟩ : ByteArray)))).spec).memory)))) == (decide (0 < (w64 ((s_ref51_usage p1 p3) - (s_ref02_Requests (List.getD p0 (Int.toNat p3) (Pod.mk (Meta.mk (⟨#[]⟩ : ByteArray) (⟨#[]⟩ : ByteArray) (⟨#[]⟩ : ByteArray) 0 0 0 0 false 0 [] [] [] []) (PodSpec.mk (⟨#[]⟩ : ByteArray) 0 0 0 [] [] [] [] [] []) (PodStatus.mk 0 false 0 0 0 [] 0 (⟨#[]⟩ : ByteArray) (⟨#[]⟩ : ByteArray)))).spec).memory)))))) false (by rw [h0]; rfl)), hP 6 (dec (!((List.getD p0 (Int.toNat p2) (Pod.mk (Meta.mk (⟨#[]⟩ : ByteArray) (⟨#[]⟩ : ByteArray) (⟨#[]⟩ : ByteArray) 0 0 0 0 false 0 [] [] [] []) (PodSpec.mk (⟨#[]⟩ : ByteArray) 0 0 0 [] [] [] [] [] []) (PodStatus.mk 0 false 0 0 0 [] 0 (⟨#[]⟩ : ByteArray) (⟨#[]⟩ : ByteArray)))).spec.priority == (List.getD p0 (Int.toNat p3) (Pod.mk (Meta.mk (⟨#[]⟩ : ByteArray) (⟨#[]⟩ : ByteArray) (⟨#[]⟩ : ByteArray) 0 0 0 0 false 0 [] [] [] []) (PodSpec.mk (⟨#[]⟩ : ByteArray) 0 0 0 [] [] [] [] [] []) (PodStatus.mk 0 false 0 0 0 [] 0 (⟨#[]⟩ : ByteArray) (⟨#[]⟩ : ByteArray)))).spec.priority)) true (by rw [h1]; rfl))] [aN (t_ref51_usage p1 p2 (H.2.2.2.2.1)), aN (t_ref02_Requests (List.getD p0 (Int.toNat p2) (Pod.mk (Meta.mk (⟨#[]⟩ : ByteArray) (⟨#[]⟩ : ByteArray) (⟨#[]⟩ : ByteArray) 0 0 0 0 false 0 [] [] [] []) (PodSpec.mk (⟨#[]⟩ : ByteArray) 0 0 0 [] [] [] [] [] []) (PodStatus.mk 0 false 0 0 0 [] 0 (⟨#[]⟩ : ByteArray) (⟨#[]⟩ : ByteArray)))).spec (H.2.2.2.2.2.1)), aN (t_ref51_usage p1 p3 (H.2.2.2.2.2.2.1)), aN (t_ref02_Requests (List.getD p0 (Int.toNat p3) (Pod.mk (Meta.mk (⟨#[]⟩ : ByteArray) (⟨#[]⟩ : ByteArray) (⟨#[]⟩ : ByteArray) 0 0 0 0 false 0 [] [] [] []) (PodSpec.mk (⟨#[]⟩ : ByteArray) 0 0 0 [] [] [] [] [] []) (PodStatus.mk 0 false 0 0 0 [] 0 (⟨#[]⟩ : ByteArray) (⟨#[]⟩ : ByteArray)))).spec (H.2.2.2.2.2.2.2.1))] (by kernel_rfl)
  | false =>
   exact tells_VI (fn := Ir.ref51_before) rfl VOK.nil [hP 3 (ixI_ok 32 (Pod.rows p0) p2 _ (H.1) (Pod.rowsGet (getD_ok p0 (Int.toNat p2) (Pod.mk (Meta.mk (⟨#[]⟩ : ByteArray) (⟨#[]⟩ : ByteArray) (⟨#[]⟩ : ByteArray) 0 0 0 0 false 0 [] [] [] []) (PodSpec.mk (⟨#[]⟩ : ByteArray) 0 0 0 [] [] [] [] [] []) (PodStatus.mk 0 false 0 0 0 [] 0 (⟨#[]⟩ : ByteArray) (⟨#[]⟩ : ByteArray))) (H.2.1))) rfl), hP 3 (ixI_ok 32 (Pod.rows p0) p3 _ (H.2.2.1) (Pod.rowsGet (getD_ok p0 (Int.toNat p3) (Pod.mk (Meta.mk (⟨#[]⟩ : ByteArray) (⟨#[]⟩ : ByteArray) (⟨#[]⟩ : ByteArray) 0 0 0 0 false 0 [] [] [] []) (PodSpec.mk (⟨#[]⟩ : ByteArray) 0 0 0 [] [] [] [] [] []) (PodStatus.mk 0 false 0 0 0 [] 0 (⟨#[]⟩ : ByteArray) (⟨#[]⟩ : ByteArray))) (H.2.2.2.1))) rfl), hP 27 (dec (!((decide (0 < (w64 ((s_ref51_usage p1 p2) - (s_ref02_Requests (List.getD p0 (Int.toNat p2) (Pod.mk (Meta.mk (⟨#[]⟩ : ByteArray) (⟨#[]⟩ : ByteArray) (⟨#[]⟩ : ByteArray) 0 0 0 0 false 0 [] [] [] []) (PodSpec.mk (⟨#[]⟩ : ByteArray) 0 0 0 [] [] [] [] [] []) (PodStatus.mk 0 false 0 0 0 [] 0 (⟨#[]⟩ : ByteArray) (⟨#[]⟩ : ByteArray)))).spec).memory)))) == (decide (0 < (w64 ((s_ref51_usage p1 p3) - (s_ref02_Requests (List.getD p0 (Int.toNat p3) (Pod.mk (Meta.mk (⟨#[]⟩ : ByteArray) (⟨#[]⟩ : ByteArray) (⟨#[]⟩ : ByteArray) 0 0 0 0 false 0 [] [] [] []) (PodSpec.mk (⟨#[]⟩ : ByteArray) 0 0 0 [] [] [] [] [] []) (PodStatus.mk 0 false 0 0 0 [] 0 (⟨#[]⟩ : ByteArray) (⟨#[]⟩ : ByteArray)))).spec).memory)))))) true (by rw [h0]; rfl))] [aN (t_ref51_usage p1 p2 (H.2.2.2.2.1)), aN (t_ref02_Requests (List.getD p0 (Int.toNat p2) (Pod.mk (Meta.mk (⟨#[]⟩ : ByteArray) (⟨#[]⟩ : ByteArray) (⟨#[]⟩ : ByteArray) 0 0 0 0 false 0 [] [] [] []) (PodSpec.mk (⟨#[]⟩ : ByteArray) 0 0 0 [] [] [] [] [] []) (PodStatus.mk 0 false 0 0 0 [] 0 (⟨#[]⟩ : ByteArray) (⟨#[]⟩ : ByteArray)))).spec (H.2.2.2.2.2.1)), aN (t_ref51_usage p1 p3 (H.2.2.2.2.2.2.1)), aN (t_ref02_Requests (List.getD p0 (Int.toNat p3) (Pod.mk (Meta.mk (⟨#[]⟩ : ByteArray) (⟨#[]⟩ : ByteArray) (⟨#[]⟩ : ByteArray) 0 0 0 0 false 0 [] [] [] []) (PodSpec.mk (⟨#[]⟩ : ByteArray) 0 0 0 [] [] [] [] [] []) (PodStatus.mk 0 false 0 0 0 [] 0 (⟨#[]⟩ : ByteArray) (⟨#[]⟩ : ByteArray)))).spec (H.2.2.2.2.2.2.2.1))] (by kernel_rfl)

inductive R_law51_index_b0 where
  | k0
  | k1 (q0 : Int)
def l_law51_index_b0 (p0 : List Pod) (p1 : ByteArray) : List Pod → Nat → R_law51_index_b0
  | [], _i0 =>
    (.k0)
  | x0 :: r0, i0 =>
    bif (sEq (s_meta_KeyOf x0.meta_) p1) then
      (.k1 (i0 : Int))
    else
      l_law51_index_b0 p0 p1 r0 (i0 + 1)
def HE_law51_index_b0 (p0 : List Pod) (p1 : ByteArray) (i0 : Nat) : List PV :=
  [.sl (Pod.rows p0), .str p1, .un, .un, .un, .int .i64 (i0 : Int), .un, .un, .un, .un, .un, .un, .un, .un, .un, .un, .un, .un, .un, .un, .un]
def HO_law51_index_b0 (_p0 : List Pod) (_p1 : ByteArray) (_i0 : Nat) : List Ob :=
  []
def E_law51_index_b0 (p0 : List Pod) (p1 : ByteArray) (i0 : Nat) : En := .loop 0 Ir.law51_index_b0_live Ir.law51_index_b0 (HE_law51_index_b0 p0 p1 i0) (HO_law51_index_b0 p0 p1 i0)
def S_law51_index_b0_0 (_p0 : List Pod) (_p1 : ByteArray) (z : Nat → PV) (_zo : Nat → List PV) : St :=
  ⟨[z 0, z 1, z 2, z 3, z 4, z 5, z 6, z 7, z 8, z 9, z 10, z 11, z 12, z 13, z 14, z 15, z 16, z 17, z 18, z 19, z 20], [], 256⟩
def S_law51_index_b0_1 (_p0 : List Pod) (_p1 : ByteArray) (q0 : Int) (z : Nat → PV) (_zo : Nat → List PV) : St :=
  ⟨[z 0, z 1, z 2, z 3, .int .i64 q0, z 5, z 6, z 7, z 8, z 9, z 10, z 11, z 12, z 13, z 14, z 15, z 16, z 17, z 18, z 19, z 20], [], 896⟩
def P_law51_index_b0 (p0 : List Pod) (p1 : ByteArray) (e : En) : R_law51_index_b0 → Prop
  | .k0 => ∃ z zo, Tells G e (.st (.exit 0) (S_law51_index_b0_0 p0 p1 z zo))
  | .k1 q0 => ∃ z zo, Tells G e (.st .ret (S_law51_index_b0_1 p0 p1 q0 z zo))
theorem P_law51_index_b0_mono (p0 : List Pod) (p1 : ByteArray) {e e' : En} (h : ∀ r, Tells G e r → Tells G e' r) : ∀ q, P_law51_index_b0 p0 p1 e q → P_law51_index_b0 p0 p1 e' q
  | .k0, ⟨z, zo, hz⟩ => ⟨z, zo, h _ hz⟩
  | .k1 _, ⟨z, zo, hz⟩ => ⟨z, zo, h _ hz⟩
def H_law51_index_b0 (p0 : List Pod) (_p1 : ByteArray) : Prop := (List.length p0 ≤ 4611686018427387904) ∧ (∀ x0 ∈ p0, H_meta_KeyOf x0.meta_) ∧ True
def Z_law51_index_b0_0 (p0 : List Pod) (p1 : ByteArray) (i0 : Nat) : List PV :=
  [.sl (Pod.rows p0), .str p1, .un, .un, .un, .int .i64 (i0 : Int), .int .i64 (i0 : Int), .sl (Pod.rows p0), .int .i64 ((List.length p0) : Int), .bool false]
def ZO_law51_index_b0_0 (_p0 : List Pod) (_p1 : ByteArray) (_i0 : Nat) : List (Nat × List PV) :=
  []
theorem x_law51_index_b0_0 (p0 : List Pod) (p1 : ByteArray) (_H : H_law51_index_b0 p0 p1) (i0 : Nat) (hc0 : (decide ((i0 : Int) < ((List.length p0) : Int))) = false) : P_law51_index_b0 p0 p1 (E_law51_index_b0 p0 p1 i0) (.k0) := by
  exact ⟨(envF (Z_law51_index_b0_0 p0 p1 i0)), (zoF (ZO_law51_index_b0_0 p0 p1 i0)), tells_outVI VOK.nil (x := ((.exit 0), S_law51_index_b0_0 p0 p1 (envF (Z_law51_index_b0_0 p0 p1 i0)) (zoF (ZO_law51_index_b0_0 p0 p1 i0)))) [hP 2 (len_ok (Pod.rows p0) (List.length p0) (Pod.rowsLen p0)), hB 0 hc0] [] (by kernel_rfl)⟩
def Z_law51_index_b0_1 (p0 : List Pod) (p1 : ByteArray) (i0 : Nat) (x0 : Pod) : List PV :=
  [.sl (Pod.rows p0), .str p1, .un, .un, .un, .int .i64 (i0 : Int), .int .i64 (i0 : Int), .sl (Pod.rows p0), .int .i64 ((List.length p0) : Int), .bool true, .un, .un, .sl (Pod.rows p0), .int .i64 (i0 : Int), .rf [.str x0.meta_.kind, .str x0.meta_.namespace_, .str x0.meta_.name, .int .i64 x0.meta_.uid, .int .i64 x0.meta_.version, .int .i64 x0.meta_.generation, .int .i64 x0.meta_.created, .bool x0.meta_.deleting, .int .i64 x0.meta_.deleteAt, .sl (Label.rows x0.meta_.labels), .sl (Owner.rows x0.meta_.owners), .sl (strRows x0.meta_.finalizers), .sl (Manager.rows x0.meta_.managers), .str x0.spec.node, .int .i64 x0.spec.priority, .int .i64 x0.spec.restart, .int .i64 x0.spec.grace, .sl (Container.rows x0.spec.containers), .sl (Requirement.rows x0.spec.nodeSelector), .sl (NodeTerm.rows x0.spec.nodeTerms), .sl (PodTerm.rows x0.spec.podTerms), .sl (SpreadRule.rows x0.spec.spread), .sl (Toleration.rows x0.spec.tolerations), .int .i64 x0.status.phase, .bool x0.status.ready, .int .i64 x0.status.readySince, .int .i64 x0.status.started, .int .i64 x0.status.finished, .sl (ContainerStatus.rows x0.status.containers), .int .i64 x0.status.address, .str x0.status.nominated, .str x0.status.reason], .rf [.str x0.meta_.kind, .str x0.meta_.namespace_, .str x0.meta_.name, .int .i64 x0.meta_.uid, .int .i64 x0.meta_.version, .int .i64 x0.meta_.generation, .int .i64 x0.meta_.created, .bool x0.meta_.deleting, .int .i64 x0.meta_.deleteAt, .sl (Label.rows x0.meta_.labels), .sl (Owner.rows x0.meta_.owners), .sl (strRows x0.meta_.finalizers), .sl (Manager.rows x0.meta_.managers), .str x0.spec.node, .int .i64 x0.spec.priority, .int .i64 x0.spec.restart, .int .i64 x0.spec.grace, .sl (Container.rows x0.spec.containers), .sl (Requirement.rows x0.spec.nodeSelector), .sl (NodeTerm.rows x0.spec.nodeTerms), .sl (PodTerm.rows x0.spec.podTerms), .sl (SpreadRule.rows x0.spec.spread), .sl (Toleration.rows x0.spec.tolerations), .int .i64 x0.status.phase, .bool x0.status.ready, .int .i64 x0.status.readySince, .int .i64 x0.status.started, .int .i64 x0.status.finished, .sl (ContainerStatus.rows x0.status.containers), .int .i64 x0.status.address, .str x0.status.nominated, .str x0.status.reason], .agg [.str x0.meta_.kind, .str x0.meta_.namespace_, .str x0.meta_.name, .int .i64 x0.meta_.uid, .int .i64 x0.meta_.version, .int .i64 x0.meta_.generation, .int .i64 x0.meta_.created, .bool x0.meta_.deleting, .int .i64 x0.meta_.deleteAt, .sl (Label.rows x0.meta_.labels), .sl (Owner.rows x0.meta_.owners), .sl (strRows x0.meta_.finalizers), .sl (Manager.rows x0.meta_.managers)], .str (s_meta_KeyOf x0.meta_), .str p1, .bool true, .int .i64 (i0 : Int)]
def ZO_law51_index_b0_1 (_p0 : List Pod) (_p1 : ByteArray) (_i0 : Nat) (_x0 : Pod) : List (Nat × List PV) :=
  []
theorem x_law51_index_b0_1 (p0 : List Pod) (p1 : ByteArray) (H : H_law51_index_b0 p0 p1) (x0 : Pod) (i0 : Nat) (hx0 : p0[i0]? = some x0) (_hi0 : i0 < List.length p0) (hc0 : (decide ((i0 : Int) < ((List.length p0) : Int))) = true) (h0 : (sEq (s_meta_KeyOf x0.meta_) p1) = true) : P_law51_index_b0 p0 p1 (E_law51_index_b0 p0 p1 i0) (.k1 (i0 : Int)) := by
  exact ⟨(envF (Z_law51_index_b0_1 p0 p1 i0 x0)), (zoF (ZO_law51_index_b0_1 p0 p1 i0 x0)), tells_outVI VOK.nil (x := (.ret, S_law51_index_b0_1 p0 p1 (i0 : Int) (envF (Z_law51_index_b0_1 p0 p1 i0 x0)) (zoF (ZO_law51_index_b0_1 p0 p1 i0 x0)))) [hP 2 (len_ok (Pod.rows p0) (List.length p0) (Pod.rowsLen p0)), hB 0 hc0, hP 2 (ix_ok 32 (Pod.rows p0) i0 _ (Pod.rowsGet hx0) rfl), hB 4 h0] [aN (t_meta_KeyOf x0.meta_ (H.2.1 x0 (mem_get hx0)))] (by kernel_rfl)⟩
theorem n_law51_index_b0_2 (p0 : List Pod) (p1 : ByteArray) (H : H_law51_index_b0 p0 p1) (x0 : Pod) (i0 : Nat) (hx0 : p0[i0]? = some x0) (hi0 : i0 < List.length p0) (hc0 : (decide ((i0 : Int) < ((List.length p0) : Int))) = true) (h0 : (sEq (s_meta_KeyOf x0.meta_) p1) = false) {r : Rs} (hr : Tells G (E_law51_index_b0 p0 p1 (i0 + 1)) r) : Tells G (E_law51_index_b0 p0 p1 i0) r := by
  have hB0 := H.1
  exact tells_nextVI VOK.nil (y := (HE_law51_index_b0 p0 p1 (i0 + 1), HO_law51_index_b0 p0 p1 (i0 + 1))) [hP 2 (len_ok (Pod.rows p0) (List.length p0) (Pod.rowsLen p0)), hB 0 hc0, hP 2 (ix_ok 32 (Pod.rows p0) i0 _ (Pod.rowsGet hx0) rfl), hB 4 h0, hP 1 (inc_ok i0 (by omega))] [aN (t_meta_KeyOf x0.meta_ (H.2.1 x0 (mem_get hx0)))] (by kernel_rfl) hr
theorem lt_law51_index_b0 (p0 : List Pod) (p1 : ByteArray) (H : H_law51_index_b0 p0 p1) : ∀ (r0 : List Pod) (i0 : Nat), List.drop i0 p0 = r0 → P_law51_index_b0 p0 p1 (E_law51_index_b0 p0 p1 i0) (l_law51_index_b0 p0 p1 r0 i0)
  | [], i0, hd => by
    have hc0 : (decide ((i0 : Int) < ((List.length p0) : Int))) = false := by have := drop_end hd; simp; omega
    rw [l_law51_index_b0]
    exact x_law51_index_b0_0 p0 p1 H i0 hc0
  | x0 :: r0, i0, hd => by
    obtain ⟨hx0, hi0, hd'⟩ := drop_get hd
    have hc0 : (decide ((i0 : Int) < ((List.length p0) : Int))) = true := by simp; omega
    rw [l_law51_index_b0]
    cases h0 : (sEq (s_meta_KeyOf x0.meta_) p1) with
    | true =>
     exact x_law51_index_b0_1 p0 p1 H x0 i0 hx0 hi0 hc0 h0
    | false =>
     exact P_law51_index_b0_mono p0 p1 (fun r hr => n_law51_index_b0_2 p0 p1 H x0 i0 hx0 hi0 hc0 h0 hr) _ (lt_law51_index_b0 p0 p1 H r0 (i0 + 1) hd')
/-- orchestrator/ orchestratorlaw51.index -/
def s_law51_index (p0 : List Pod) (p1 : ByteArray) : Int :=
  (match (l_law51_index_b0 p0 p1 p0 0) with
  | .k0 => (-1)
  | .k1 y0_0 => y0_0)
def c_law51_index (p0 : List Pod) (p1 : ByteArray) : En := .call 16 [.sl (Pod.rows p0), .str p1] []
def a_law51_index (p0 : List Pod) (p1 : ByteArray) : Rs := .ret (.int .i64 (s_law51_index p0 p1)) []
def H_law51_index (p0 : List Pod) (p1 : ByteArray) : Prop := (H_law51_index_b0 p0 p1) ∧ True
theorem t_law51_index (p0 : List Pod) (p1 : ByteArray) (H : H_law51_index p0 p1) : Tells G (c_law51_index p0 p1) (a_law51_index p0 p1) := by
  unfold a_law51_index s_law51_index
  have hl0 := lt_law51_index_b0 p0 p1 (H.1) p0 0 (by simp)
  cases hr0 : (l_law51_index_b0 p0 p1 p0 0) with
  | k0 =>
    rw [hr0] at hl0
    obtain ⟨z0, zo0, hl0⟩ := hl0
    exact tells_VI (fn := Ir.law51_index) rfl VOK.nil [] [aN hl0] (by kernel_rfl)
  | k1 y0_0 =>
    rw [hr0] at hl0
    obtain ⟨z0, zo0, hl0⟩ := hl0
    exact tells_VI (fn := Ir.law51_index) rfl VOK.nil [] [aN hl0] (by kernel_rfl)

inductive R_law51_fits_b0 where
  | k0
  | k1
def l_law51_fits_b0 (p0 : List Pod) (p1 : List Int) : List Pod → Nat → R_law51_fits_b0
  | [], _i0 =>
    (.k0)
  | x0 :: r0, i0 =>
    bif ((s_law51_index p0 (s_meta_KeyOf x0.meta_)) == (i0 : Int)) then
      bif (decide ((List.getD p1 i0 0) < 0)) then
        (.k1)
      else
        bif (decide (1000000000000000 < (List.getD p1 i0 0))) then
          (.k1)
        else
          l_law51_fits_b0 p0 p1 r0 (i0 + 1)
    else
      (.k1)
def HE_law51_fits_b0 (p0 : List Pod) (p1 : List Int) (i0 : Nat) : List PV :=
  [.sl (Pod.rows p0), .sl (intRows p1), .un, .un, .un, .int .i64 (i0 : Int), .un, .un, .un, .un, .un, .un, .un, .un, .un, .un, .un, .un, .un, .un, .un, .un, .un, .un, .un, .un, .un, .un, .un, .un, .un, .un, .un, .un, .un, .un, .un, .un, .un, .un, .un, .un, .un, .un, .un, .un]
def HO_law51_fits_b0 (_p0 : List Pod) (_p1 : List Int) (_i0 : Nat) : List Ob :=
  []
def E_law51_fits_b0 (p0 : List Pod) (p1 : List Int) (i0 : Nat) : En := .loop 0 Ir.law51_fits_b0_live Ir.law51_fits_b0 (HE_law51_fits_b0 p0 p1 i0) (HO_law51_fits_b0 p0 p1 i0)
def S_law51_fits_b0_0 (_p0 : List Pod) (_p1 : List Int) (z : Nat → PV) (_zo : Nat → List PV) : St :=
  ⟨[z 0, z 1, z 2, z 3, z 4, z 5, z 6, z 7, z 8, z 9, z 10, z 11, z 12, z 13, z 14, z 15, z 16, z 17, z 18, z 19, z 20, z 21, z 22, z 23, z 24, z 25, z 26, z 27, z 28, z 29, z 30, z 31, z 32, z 33, z 34, z 35, z 36, z 37, z 38, z 39, z 40, z 41, z 42, z 43, z 44, z 45], [], 256⟩
def S_law51_fits_b0_1 (_p0 : List Pod) (_p1 : List Int) (z : Nat → PV) (_zo : Nat → List PV) : St :=
  ⟨[z 0, z 1, z 2, z 3, .bool false, z 5, z 6, z 7, z 8, z 9, z 10, z 11, z 12, z 13, z 14, z 15, z 16, z 17, z 18, z 19, z 20, z 21, z 22, z 23, z 24, z 25, z 26, z 27, z 28, z 29, z 30, z 31, z 32, z 33, z 34, z 35, z 36, z 37, z 38, z 39, z 40, z 41, z 42, z 43, z 44, z 45], [], 1856⟩
def P_law51_fits_b0 (p0 : List Pod) (p1 : List Int) (e : En) : R_law51_fits_b0 → Prop
  | .k0 => ∃ z zo, Tells G e (.st (.exit 0) (S_law51_fits_b0_0 p0 p1 z zo))
  | .k1 => ∃ z zo, Tells G e (.st .ret (S_law51_fits_b0_1 p0 p1 z zo))
theorem P_law51_fits_b0_mono (p0 : List Pod) (p1 : List Int) {e e' : En} (h : ∀ r, Tells G e r → Tells G e' r) : ∀ q, P_law51_fits_b0 p0 p1 e q → P_law51_fits_b0 p0 p1 e' q
  | .k0, ⟨z, zo, hz⟩ => ⟨z, zo, h _ hz⟩
  | .k1, ⟨z, zo, hz⟩ => ⟨z, zo, h _ hz⟩
def H_law51_fits_b0 (p0 : List Pod) (p1 : List Int) : Prop := (List.length p0 ≤ 4611686018427387904) ∧ (∀ x0 ∈ p0, H_meta_KeyOf x0.meta_) ∧ (∀ x0 ∈ p0, H_law51_index p0 (s_meta_KeyOf x0.meta_)) ∧ (∀ (i0 : Nat) (x0 : Pod), p0[i0]? = some x0 → i0 < List.length p1) ∧ (∀ (i0 : Nat) (x0 : Pod), p0[i0]? = some x0 → (decide ((List.getD p1 i0 0) < 0)) = false → i0 < List.length p1) ∧ True
def Z_law51_fits_b0_0 (p0 : List Pod) (p1 : List Int) (i0 : Nat) : List PV :=
  [.sl (Pod.rows p0), .sl (intRows p1), .un, .un, .un, .int .i64 (i0 : Int), .un, .un, .un, .un, .un, .un, .un, .un, .un, .un, .int .i64 (i0 : Int), .sl (Pod.rows p0), .int .i64 ((List.length p0) : Int), .bool false]
def ZO_law51_fits_b0_0 (_p0 : List Pod) (_p1 : List Int) (_i0 : Nat) : List (Nat × List PV) :=
  []
theorem x_law51_fits_b0_0 (p0 : List Pod) (p1 : List Int) (_H : H_law51_fits_b0 p0 p1) (i0 : Nat) (hc0 : (decide ((i0 : Int) < ((List.length p0) : Int))) = false) : P_law51_fits_b0 p0 p1 (E_law51_fits_b0 p0 p1 i0) (.k0) := by
  exact ⟨(envF (Z_law51_fits_b0_0 p0 p1 i0)), (zoF (ZO_law51_fits_b0_0 p0 p1 i0)), tells_outVI VOK.nil (x := ((.exit 0), S_law51_fits_b0_0 p0 p1 (envF (Z_law51_fits_b0_0 p0 p1 i0)) (zoF (ZO_law51_fits_b0_0 p0 p1 i0)))) [hP 2 (len_ok (Pod.rows p0) (List.length p0) (Pod.rowsLen p0)), hB 0 hc0] [] (by kernel_rfl)⟩
def Z_law51_fits_b0_1 (p0 : List Pod) (p1 : List Int) (i0 : Nat) (x0 : Pod) : List PV :=
  [.sl (Pod.rows p0), .sl (intRows p1), .un, .un, .un, .int .i64 (i0 : Int), .un, .un, .un, .un, .un, .un, .un, .un, .un, .un, .int .i64 (i0 : Int), .sl (Pod.rows p0), .int .i64 ((List.length p0) : Int), .bool true, .un, .un, .sl (Pod.rows p0), .sl (Pod.rows p0), .int .i64 (i0 : Int), .rf [.str x0.meta_.kind, .str x0.meta_.namespace_, .str x0.meta_.name, .int .i64 x0.meta_.uid, .int .i64 x0.meta_.version, .int .i64 x0.meta_.generation, .int .i64 x0.meta_.created, .bool x0.meta_.deleting, .int .i64 x0.meta_.deleteAt, .sl (Label.rows x0.meta_.labels), .sl (Owner.rows x0.meta_.owners), .sl (strRows x0.meta_.finalizers), .sl (Manager.rows x0.meta_.managers), .str x0.spec.node, .int .i64 x0.spec.priority, .int .i64 x0.spec.restart, .int .i64 x0.spec.grace, .sl (Container.rows x0.spec.containers), .sl (Requirement.rows x0.spec.nodeSelector), .sl (NodeTerm.rows x0.spec.nodeTerms), .sl (PodTerm.rows x0.spec.podTerms), .sl (SpreadRule.rows x0.spec.spread), .sl (Toleration.rows x0.spec.tolerations), .int .i64 x0.status.phase, .bool x0.status.ready, .int .i64 x0.status.readySince, .int .i64 x0.status.started, .int .i64 x0.status.finished, .sl (ContainerStatus.rows x0.status.containers), .int .i64 x0.status.address, .str x0.status.nominated, .str x0.status.reason], .rf [.str x0.meta_.kind, .str x0.meta_.namespace_, .str x0.meta_.name, .int .i64 x0.meta_.uid, .int .i64 x0.meta_.version, .int .i64 x0.meta_.generation, .int .i64 x0.meta_.created, .bool x0.meta_.deleting, .int .i64 x0.meta_.deleteAt, .sl (Label.rows x0.meta_.labels), .sl (Owner.rows x0.meta_.owners), .sl (strRows x0.meta_.finalizers), .sl (Manager.rows x0.meta_.managers), .str x0.spec.node, .int .i64 x0.spec.priority, .int .i64 x0.spec.restart, .int .i64 x0.spec.grace, .sl (Container.rows x0.spec.containers), .sl (Requirement.rows x0.spec.nodeSelector), .sl (NodeTerm.rows x0.spec.nodeTerms), .sl (PodTerm.rows x0.spec.podTerms), .sl (SpreadRule.rows x0.spec.spread), .sl (Toleration.rows x0.spec.tolerations), .int .i64 x0.status.phase, .bool x0.status.ready, .int .i64 x0.status.readySince, .int .i64 x0.status.started, .int .i64 x0.status.finished, .sl (ContainerStatus.rows x0.status.containers), .int .i64 x0.status.address, .str x0.status.nominated, .str x0.status.reason], .agg [.str x0.meta_.kind, .str x0.meta_.namespace_, .str x0.meta_.name, .int .i64 x0.meta_.uid, .int .i64 x0.meta_.version, .int .i64 x0.meta_.generation, .int .i64 x0.meta_.created, .bool x0.meta_.deleting, .int .i64 x0.meta_.deleteAt, .sl (Label.rows x0.meta_.labels), .sl (Owner.rows x0.meta_.owners), .sl (strRows x0.meta_.finalizers), .sl (Manager.rows x0.meta_.managers)], .str (s_meta_KeyOf x0.meta_), .int .i64 (s_law51_index p0 (s_meta_KeyOf x0.meta_)), .int .i64 (i0 : Int), .bool false, .bool false, .sl (intRows p1), .int .i64 (i0 : Int), .rf [.int .i64 (List.getD p1 i0 0)], .int .i64 (List.getD p1 i0 0), .bool true, .bool true, .bool true, .tup [], .tup [], .tup [], .tup [], .tup [], .bool true]
def ZO_law51_fits_b0_1 (_p0 : List Pod) (_p1 : List Int) (_i0 : Nat) (_x0 : Pod) : List (Nat × List PV) :=
  []
theorem x_law51_fits_b0_1 (p0 : List Pod) (p1 : List Int) (H : H_law51_fits_b0 p0 p1) (x0 : Pod) (i0 : Nat) (hx0 : p0[i0]? = some x0) (_hi0 : i0 < List.length p0) (hc0 : (decide ((i0 : Int) < ((List.length p0) : Int))) = true) (h0 : ((s_law51_index p0 (s_meta_KeyOf x0.meta_)) == (i0 : Int)) = true) (h1 : (decide ((List.getD p1 i0 0) < 0)) = true) : P_law51_fits_b0 p0 p1 (E_law51_fits_b0 p0 p1 i0) (.k1) := by
  exact ⟨(envF (Z_law51_fits_b0_1 p0 p1 i0 x0)), (zoF (ZO_law51_fits_b0_1 p0 p1 i0 x0)), tells_outVI VOK.nil (x := (.ret, S_law51_fits_b0_1 p0 p1 (envF (Z_law51_fits_b0_1 p0 p1 i0 x0)) (zoF (ZO_law51_fits_b0_1 p0 p1 i0 x0)))) [hP 2 (len_ok (Pod.rows p0) (List.length p0) (Pod.rowsLen p0)), hB 0 hc0, hP 3 (ix_ok 32 (Pod.rows p0) i0 _ (Pod.rowsGet hx0) rfl), hP 5 (dec (!((s_law51_index p0 (s_meta_KeyOf x0.meta_)) == (i0 : Int))) false (by rw [h0]; rfl)), hP 3 (ix_ok 1 (intRows p1) i0 _ (intRowsGet (getD_ok p1 i0 0 ((H.2.2.2.1 i0 x0 hx0)))) rfl), hB 1 h1] [aN (t_meta_KeyOf x0.meta_ (H.2.1 x0 (mem_get hx0))), aN (t_law51_index p0 (s_meta_KeyOf x0.meta_) (H.2.2.1 x0 (mem_get hx0)))] (by kernel_rfl)⟩
def Z_law51_fits_b0_2 (p0 : List Pod) (p1 : List Int) (i0 : Nat) (x0 : Pod) : List PV :=
  [.sl (Pod.rows p0), .sl (intRows p1), .un, .un, .un, .int .i64 (i0 : Int), .un, .un, .un, .un, .un, .un, .un, .un, .un, .un, .int .i64 (i0 : Int), .sl (Pod.rows p0), .int .i64 ((List.length p0) : Int), .bool true, .un, .un, .sl (Pod.rows p0), .sl (Pod.rows p0), .int .i64 (i0 : Int), .rf [.str x0.meta_.kind, .str x0.meta_.namespace_, .str x0.meta_.name, .int .i64 x0.meta_.uid, .int .i64 x0.meta_.version, .int .i64 x0.meta_.generation, .int .i64 x0.meta_.created, .bool x0.meta_.deleting, .int .i64 x0.meta_.deleteAt, .sl (Label.rows x0.meta_.labels), .sl (Owner.rows x0.meta_.owners), .sl (strRows x0.meta_.finalizers), .sl (Manager.rows x0.meta_.managers), .str x0.spec.node, .int .i64 x0.spec.priority, .int .i64 x0.spec.restart, .int .i64 x0.spec.grace, .sl (Container.rows x0.spec.containers), .sl (Requirement.rows x0.spec.nodeSelector), .sl (NodeTerm.rows x0.spec.nodeTerms), .sl (PodTerm.rows x0.spec.podTerms), .sl (SpreadRule.rows x0.spec.spread), .sl (Toleration.rows x0.spec.tolerations), .int .i64 x0.status.phase, .bool x0.status.ready, .int .i64 x0.status.readySince, .int .i64 x0.status.started, .int .i64 x0.status.finished, .sl (ContainerStatus.rows x0.status.containers), .int .i64 x0.status.address, .str x0.status.nominated, .str x0.status.reason], .rf [.str x0.meta_.kind, .str x0.meta_.namespace_, .str x0.meta_.name, .int .i64 x0.meta_.uid, .int .i64 x0.meta_.version, .int .i64 x0.meta_.generation, .int .i64 x0.meta_.created, .bool x0.meta_.deleting, .int .i64 x0.meta_.deleteAt, .sl (Label.rows x0.meta_.labels), .sl (Owner.rows x0.meta_.owners), .sl (strRows x0.meta_.finalizers), .sl (Manager.rows x0.meta_.managers), .str x0.spec.node, .int .i64 x0.spec.priority, .int .i64 x0.spec.restart, .int .i64 x0.spec.grace, .sl (Container.rows x0.spec.containers), .sl (Requirement.rows x0.spec.nodeSelector), .sl (NodeTerm.rows x0.spec.nodeTerms), .sl (PodTerm.rows x0.spec.podTerms), .sl (SpreadRule.rows x0.spec.spread), .sl (Toleration.rows x0.spec.tolerations), .int .i64 x0.status.phase, .bool x0.status.ready, .int .i64 x0.status.readySince, .int .i64 x0.status.started, .int .i64 x0.status.finished, .sl (ContainerStatus.rows x0.status.containers), .int .i64 x0.status.address, .str x0.status.nominated, .str x0.status.reason], .agg [.str x0.meta_.kind, .str x0.meta_.namespace_, .str x0.meta_.name, .int .i64 x0.meta_.uid, .int .i64 x0.meta_.version, .int .i64 x0.meta_.generation, .int .i64 x0.meta_.created, .bool x0.meta_.deleting, .int .i64 x0.meta_.deleteAt, .sl (Label.rows x0.meta_.labels), .sl (Owner.rows x0.meta_.owners), .sl (strRows x0.meta_.finalizers), .sl (Manager.rows x0.meta_.managers)], .str (s_meta_KeyOf x0.meta_), .int .i64 (s_law51_index p0 (s_meta_KeyOf x0.meta_)), .int .i64 (i0 : Int), .bool false, .bool false, .sl (intRows p1), .int .i64 (i0 : Int), .rf [.int .i64 (List.getD p1 i0 0)], .int .i64 (List.getD p1 i0 0), .bool false, .bool false, .bool false, .sl (intRows p1), .int .i64 (i0 : Int), .rf [.int .i64 (List.getD p1 i0 0)], .int .i64 (List.getD p1 i0 0), .bool true, .bool true]
def ZO_law51_fits_b0_2 (_p0 : List Pod) (_p1 : List Int) (_i0 : Nat) (_x0 : Pod) : List (Nat × List PV) :=
  []
theorem x_law51_fits_b0_2 (p0 : List Pod) (p1 : List Int) (H : H_law51_fits_b0 p0 p1) (x0 : Pod) (i0 : Nat) (hx0 : p0[i0]? = some x0) (_hi0 : i0 < List.length p0) (hc0 : (decide ((i0 : Int) < ((List.length p0) : Int))) = true) (h0 : ((s_law51_index p0 (s_meta_KeyOf x0.meta_)) == (i0 : Int)) = true) (h1 : (decide ((List.getD p1 i0 0) < 0)) = false) (h2 : (decide (1000000000000000 < (List.getD p1 i0 0))) = true) : P_law51_fits_b0 p0 p1 (E_law51_fits_b0 p0 p1 i0) (.k1) := by
  exact ⟨(envF (Z_law51_fits_b0_2 p0 p1 i0 x0)), (zoF (ZO_law51_fits_b0_2 p0 p1 i0 x0)), tells_outVI VOK.nil (x := (.ret, S_law51_fits_b0_1 p0 p1 (envF (Z_law51_fits_b0_2 p0 p1 i0 x0)) (zoF (ZO_law51_fits_b0_2 p0 p1 i0 x0)))) [hP 2 (len_ok (Pod.rows p0) (List.length p0) (Pod.rowsLen p0)), hB 0 hc0, hP 3 (ix_ok 32 (Pod.rows p0) i0 _ (Pod.rowsGet hx0) rfl), hP 5 (dec (!((s_law51_index p0 (s_meta_KeyOf x0.meta_)) == (i0 : Int))) false (by rw [h0]; rfl)), hP 3 (ix_ok 1 (intRows p1) i0 _ (intRowsGet (getD_ok p1 i0 0 ((H.2.2.2.1 i0 x0 hx0)))) rfl), hB 1 h1, hP 4 (ix_ok 1 (intRows p1) i0 _ (intRowsGet (getD_ok p1 i0 0 ((H.2.2.2.2.1 i0 x0 hx0) h1))) rfl), hB 1 h2] [aN (t_meta_KeyOf x0.meta_ (H.2.1 x0 (mem_get hx0))), aN (t_law51_index p0 (s_meta_KeyOf x0.meta_) (H.2.2.1 x0 (mem_get hx0)))] (by kernel_rfl)⟩
theorem n_law51_fits_b0_3 (p0 : List Pod) (p1 : List Int) (H : H_law51_fits_b0 p0 p1) (x0 : Pod) (i0 : Nat) (hx0 : p0[i0]? = some x0) (hi0 : i0 < List.length p0) (hc0 : (decide ((i0 : Int) < ((List.length p0) : Int))) = true) (h0 : ((s_law51_index p0 (s_meta_KeyOf x0.meta_)) == (i0 : Int)) = true) (h1 : (decide ((List.getD p1 i0 0) < 0)) = false) (h2 : (decide (1000000000000000 < (List.getD p1 i0 0))) = false) {r : Rs} (hr : Tells G (E_law51_fits_b0 p0 p1 (i0 + 1)) r) : Tells G (E_law51_fits_b0 p0 p1 i0) r := by
  have hB0 := H.1; have e1 := of_decide_eq_false h1; have e2 := of_decide_eq_false h2
  exact tells_nextVI VOK.nil (y := (HE_law51_fits_b0 p0 p1 (i0 + 1), HO_law51_fits_b0 p0 p1 (i0 + 1))) [hP 2 (len_ok (Pod.rows p0) (List.length p0) (Pod.rowsLen p0)), hB 0 hc0, hP 3 (ix_ok 32 (Pod.rows p0) i0 _ (Pod.rowsGet hx0) rfl), hP 5 (dec (!((s_law51_index p0 (s_meta_KeyOf x0.meta_)) == (i0 : Int))) false (by rw [h0]; rfl)), hP 3 (ix_ok 1 (intRows p1) i0 _ (intRowsGet (getD_ok p1 i0 0 ((H.2.2.2.1 i0 x0 hx0)))) rfl), hB 1 h1, hP 4 (ix_ok 1 (intRows p1) i0 _ (intRowsGet (getD_ok p1 i0 0 ((H.2.2.2.2.1 i0 x0 hx0) h1))) rfl), hB 1 h2, hP 2 (inc_ok i0 (by omega))] [aN (t_meta_KeyOf x0.meta_ (H.2.1 x0 (mem_get hx0))), aN (t_law51_index p0 (s_meta_KeyOf x0.meta_) (H.2.2.1 x0 (mem_get hx0)))] (by kernel_rfl) hr
def Z_law51_fits_b0_4 (p0 : List Pod) (p1 : List Int) (i0 : Nat) (x0 : Pod) : List PV :=
  [.sl (Pod.rows p0), .sl (intRows p1), .un, .un, .un, .int .i64 (i0 : Int), .un, .un, .un, .un, .un, .un, .un, .un, .un, .un, .int .i64 (i0 : Int), .sl (Pod.rows p0), .int .i64 ((List.length p0) : Int), .bool true, .un, .un, .sl (Pod.rows p0), .sl (Pod.rows p0), .int .i64 (i0 : Int), .rf [.str x0.meta_.kind, .str x0.meta_.namespace_, .str x0.meta_.name, .int .i64 x0.meta_.uid, .int .i64 x0.meta_.version, .int .i64 x0.meta_.generation, .int .i64 x0.meta_.created, .bool x0.meta_.deleting, .int .i64 x0.meta_.deleteAt, .sl (Label.rows x0.meta_.labels), .sl (Owner.rows x0.meta_.owners), .sl (strRows x0.meta_.finalizers), .sl (Manager.rows x0.meta_.managers), .str x0.spec.node, .int .i64 x0.spec.priority, .int .i64 x0.spec.restart, .int .i64 x0.spec.grace, .sl (Container.rows x0.spec.containers), .sl (Requirement.rows x0.spec.nodeSelector), .sl (NodeTerm.rows x0.spec.nodeTerms), .sl (PodTerm.rows x0.spec.podTerms), .sl (SpreadRule.rows x0.spec.spread), .sl (Toleration.rows x0.spec.tolerations), .int .i64 x0.status.phase, .bool x0.status.ready, .int .i64 x0.status.readySince, .int .i64 x0.status.started, .int .i64 x0.status.finished, .sl (ContainerStatus.rows x0.status.containers), .int .i64 x0.status.address, .str x0.status.nominated, .str x0.status.reason], .rf [.str x0.meta_.kind, .str x0.meta_.namespace_, .str x0.meta_.name, .int .i64 x0.meta_.uid, .int .i64 x0.meta_.version, .int .i64 x0.meta_.generation, .int .i64 x0.meta_.created, .bool x0.meta_.deleting, .int .i64 x0.meta_.deleteAt, .sl (Label.rows x0.meta_.labels), .sl (Owner.rows x0.meta_.owners), .sl (strRows x0.meta_.finalizers), .sl (Manager.rows x0.meta_.managers), .str x0.spec.node, .int .i64 x0.spec.priority, .int .i64 x0.spec.restart, .int .i64 x0.spec.grace, .sl (Container.rows x0.spec.containers), .sl (Requirement.rows x0.spec.nodeSelector), .sl (NodeTerm.rows x0.spec.nodeTerms), .sl (PodTerm.rows x0.spec.podTerms), .sl (SpreadRule.rows x0.spec.spread), .sl (Toleration.rows x0.spec.tolerations), .int .i64 x0.status.phase, .bool x0.status.ready, .int .i64 x0.status.readySince, .int .i64 x0.status.started, .int .i64 x0.status.finished, .sl (ContainerStatus.rows x0.status.containers), .int .i64 x0.status.address, .str x0.status.nominated, .str x0.status.reason], .agg [.str x0.meta_.kind, .str x0.meta_.namespace_, .str x0.meta_.name, .int .i64 x0.meta_.uid, .int .i64 x0.meta_.version, .int .i64 x0.meta_.generation, .int .i64 x0.meta_.created, .bool x0.meta_.deleting, .int .i64 x0.meta_.deleteAt, .sl (Label.rows x0.meta_.labels), .sl (Owner.rows x0.meta_.owners), .sl (strRows x0.meta_.finalizers), .sl (Manager.rows x0.meta_.managers)], .str (s_meta_KeyOf x0.meta_), .int .i64 (s_law51_index p0 (s_meta_KeyOf x0.meta_)), .int .i64 (i0 : Int), .bool true, .bool true, .tup [], .tup [], .tup [], .tup [], .tup [], .bool true, .bool true, .tup [], .tup [], .tup [], .tup [], .tup [], .bool true]
def ZO_law51_fits_b0_4 (_p0 : List Pod) (_p1 : List Int) (_i0 : Nat) (_x0 : Pod) : List (Nat × List PV) :=
  []
theorem x_law51_fits_b0_4 (p0 : List Pod) (p1 : List Int) (H : H_law51_fits_b0 p0 p1) (x0 : Pod) (i0 : Nat) (hx0 : p0[i0]? = some x0) (_hi0 : i0 < List.length p0) (hc0 : (decide ((i0 : Int) < ((List.length p0) : Int))) = true) (h0 : ((s_law51_index p0 (s_meta_KeyOf x0.meta_)) == (i0 : Int)) = false) : P_law51_fits_b0 p0 p1 (E_law51_fits_b0 p0 p1 i0) (.k1) := by
  exact ⟨(envF (Z_law51_fits_b0_4 p0 p1 i0 x0)), (zoF (ZO_law51_fits_b0_4 p0 p1 i0 x0)), tells_outVI VOK.nil (x := (.ret, S_law51_fits_b0_1 p0 p1 (envF (Z_law51_fits_b0_4 p0 p1 i0 x0)) (zoF (ZO_law51_fits_b0_4 p0 p1 i0 x0)))) [hP 2 (len_ok (Pod.rows p0) (List.length p0) (Pod.rowsLen p0)), hB 0 hc0, hP 3 (ix_ok 32 (Pod.rows p0) i0 _ (Pod.rowsGet hx0) rfl), hP 5 (dec (!((s_law51_index p0 (s_meta_KeyOf x0.meta_)) == (i0 : Int))) true (by rw [h0]; rfl))] [aN (t_meta_KeyOf x0.meta_ (H.2.1 x0 (mem_get hx0))), aN (t_law51_index p0 (s_meta_KeyOf x0.meta_) (H.2.2.1 x0 (mem_get hx0)))] (by kernel_rfl)⟩
theorem lt_law51_fits_b0 (p0 : List Pod) (p1 : List Int) (H : H_law51_fits_b0 p0 p1) : ∀ (r0 : List Pod) (i0 : Nat), List.drop i0 p0 = r0 → P_law51_fits_b0 p0 p1 (E_law51_fits_b0 p0 p1 i0) (l_law51_fits_b0 p0 p1 r0 i0)
  | [], i0, hd => by
    have hc0 : (decide ((i0 : Int) < ((List.length p0) : Int))) = false := by have := drop_end hd; simp; omega
    rw [l_law51_fits_b0]
    exact x_law51_fits_b0_0 p0 p1 H i0 hc0
  | x0 :: r0, i0, hd => by
    obtain ⟨hx0, hi0, hd'⟩ := drop_get hd
    have hc0 : (decide ((i0 : Int) < ((List.length p0) : Int))) = true := by simp; omega
    rw [l_law51_fits_b0]
    cases h0 : ((s_law51_index p0 (s_meta_KeyOf x0.meta_)) == (i0 : Int)) with
    | true =>
     cases h1 : (decide ((List.getD p1 i0 0) < 0)) with
     | true =>
      exact x_law51_fits_b0_1 p0 p1 H x0 i0 hx0 hi0 hc0 h0 h1
     | false =>
      cases h2 : (decide (1000000000000000 < (List.getD p1 i0 0))) with
      | true =>
       exact x_law51_fits_b0_2 p0 p1 H x0 i0 hx0 hi0 hc0 h0 h1 h2
      | false =>
       exact P_law51_fits_b0_mono p0 p1 (fun r hr => n_law51_fits_b0_3 p0 p1 H x0 i0 hx0 hi0 hc0 h0 h1 h2 hr) _ (lt_law51_fits_b0 p0 p1 H r0 (i0 + 1) hd')
    | false =>
     exact x_law51_fits_b0_4 p0 p1 H x0 i0 hx0 hi0 hc0 h0
/-- orchestrator/ orchestratorlaw51.fits -/
def s_law51_fits (p0 : List Pod) (p1 : List Int) : Bool :=
  bif (decide (40 < ((List.length p0) : Int))) then
    false
  else
    bif (((List.length p1) : Int) == ((List.length p0) : Int)) then
      (match (l_law51_fits_b0 p0 p1 p0 0) with
      | .k0 => true
      | .k1 => false)
    else
      false
def c_law51_fits (p0 : List Pod) (p1 : List Int) : En := .call 15 [.sl (Pod.rows p0), .sl (intRows p1)] []
def a_law51_fits (p0 : List Pod) (p1 : List Int) : Rs := .ret (.bool (s_law51_fits p0 p1)) []
def H_law51_fits (p0 : List Pod) (p1 : List Int) : Prop := ((((List.length p1) : Int) == ((List.length p0) : Int)) = true → H_law51_fits_b0 p0 p1) ∧ True
theorem t_law51_fits (p0 : List Pod) (p1 : List Int) (H : H_law51_fits p0 p1) : Tells G (c_law51_fits p0 p1) (a_law51_fits p0 p1) := by
  unfold a_law51_fits s_law51_fits
  cases h0 : (decide (40 < ((List.length p0) : Int))) with
  | true =>
   exact tells_VI (fn := Ir.law51_fits) rfl VOK.nil [hP 2 (len_ok (Pod.rows p0) (List.length p0) (Pod.rowsLen p0)), hB 0 h0] [] (by kernel_rfl)
  | false =>
   cases h1 : (((List.length p1) : Int) == ((List.length p0) : Int)) with
   | true =>
    have hl2 := lt_law51_fits_b0 p0 p1 (H.1 h1) p0 0 (by simp)
    cases hr2 : (l_law51_fits_b0 p0 p1 p0 0) with
    | k0 =>
      rw [hr2] at hl2
      obtain ⟨z2, zo2, hl2⟩ := hl2
      exact tells_VI (fn := Ir.law51_fits) rfl VOK.nil [hP 2 (len_ok (Pod.rows p0) (List.length p0) (Pod.rowsLen p0)), hB 0 h0, hP 2 (len_ok (intRows p1) (List.length p1) (intRowsLen p1)), hP 1 (len_ok (Pod.rows p0) (List.length p0) (Pod.rowsLen p0)), hP 0 (dec (!(((List.length p1) : Int) == ((List.length p0) : Int))) false (by rw [h1]; rfl))] [aN hl2] (by kernel_rfl)
    | k1 =>
      rw [hr2] at hl2
      obtain ⟨z2, zo2, hl2⟩ := hl2
      exact tells_VI (fn := Ir.law51_fits) rfl VOK.nil [hP 2 (len_ok (Pod.rows p0) (List.length p0) (Pod.rowsLen p0)), hB 0 h0, hP 2 (len_ok (intRows p1) (List.length p1) (intRowsLen p1)), hP 1 (len_ok (Pod.rows p0) (List.length p0) (Pod.rowsLen p0)), hP 0 (dec (!(((List.length p1) : Int) == ((List.length p0) : Int))) false (by rw [h1]; rfl))] [aN hl2] (by kernel_rfl)
   | false =>
    exact tells_VI (fn := Ir.law51_fits) rfl VOK.nil [hP 2 (len_ok (Pod.rows p0) (List.length p0) (Pod.rowsLen p0)), hB 0 h0, hP 2 (len_ok (intRows p1) (List.length p1) (intRowsLen p1)), hP 1 (len_ok (Pod.rows p0) (List.length p0) (Pod.rowsLen p0)), hP 0 (dec (!(((List.length p1) : Int) == ((List.length p0) : Int))) true (by rw [h1]; rfl))] [] (by kernel_rfl)

inductive R_law51_place_b0 where
  | k0
  | k1 (q0 : Int)
def l_law51_place_b0 (p0 : List ByteArray) (p1 : ByteArray) : List ByteArray → Nat → R_law51_place_b0
  | [], _i0 =>
    (.k0)
  | x0 :: r0, i0 =>
    bif (sEq x0 p1) then
      (.k1 (i0 : Int))
    else
      l_law51_place_b0 p0 p1 r0 (i0 + 1)
def HE_law51_place_b0 (p0 : List ByteArray) (p1 : ByteArray) (i0 : Nat) : List PV :=
  [.sl (strRows p0), .str p1, .un, .un, .un, .int .i64 (i0 : Int), .un, .un, .un, .un, .un, .un, .un, .un, .un, .un, .un, .un, .un]
def HO_law51_place_b0 (_p0 : List ByteArray) (_p1 : ByteArray) (_i0 : Nat) : List Ob :=
  []
def E_law51_place_b0 (p0 : List ByteArray) (p1 : ByteArray) (i0 : Nat) : En := .loop 0 Ir.law51_place_b0_live Ir.law51_place_b0 (HE_law51_place_b0 p0 p1 i0) (HO_law51_place_b0 p0 p1 i0)
def S_law51_place_b0_0 (_p0 : List ByteArray) (_p1 : ByteArray) (z : Nat → PV) (_zo : Nat → List PV) : St :=
  ⟨[z 0, z 1, z 2, z 3, z 4, z 5, z 6, z 7, z 8, z 9, z 10, z 11, z 12, z 13, z 14, z 15, z 16, z 17, z 18], [], 256⟩
def S_law51_place_b0_1 (_p0 : List ByteArray) (_p1 : ByteArray) (q0 : Int) (z : Nat → PV) (_zo : Nat → List PV) : St :=
  ⟨[z 0, z 1, z 2, z 3, .int .i64 q0, z 5, z 6, z 7, z 8, z 9, z 10, z 11, z 12, z 13, z 14, z 15, z 16, z 17, z 18], [], 768⟩
def P_law51_place_b0 (p0 : List ByteArray) (p1 : ByteArray) (e : En) : R_law51_place_b0 → Prop
  | .k0 => ∃ z zo, Tells G e (.st (.exit 0) (S_law51_place_b0_0 p0 p1 z zo))
  | .k1 q0 => ∃ z zo, Tells G e (.st .ret (S_law51_place_b0_1 p0 p1 q0 z zo))
theorem P_law51_place_b0_mono (p0 : List ByteArray) (p1 : ByteArray) {e e' : En} (h : ∀ r, Tells G e r → Tells G e' r) : ∀ q, P_law51_place_b0 p0 p1 e q → P_law51_place_b0 p0 p1 e' q
  | .k0, ⟨z, zo, hz⟩ => ⟨z, zo, h _ hz⟩
  | .k1 _, ⟨z, zo, hz⟩ => ⟨z, zo, h _ hz⟩
def H_law51_place_b0 (p0 : List ByteArray) (_p1 : ByteArray) : Prop := (List.length p0 ≤ 4611686018427387904) ∧ True
def Z_law51_place_b0_0 (p0 : List ByteArray) (p1 : ByteArray) (i0 : Nat) : List PV :=
  [.sl (strRows p0), .str p1, .un, .un, .un, .int .i64 (i0 : Int), .int .i64 (i0 : Int), .sl (strRows p0), .int .i64 ((List.length p0) : Int), .bool false]
def ZO_law51_place_b0_0 (_p0 : List ByteArray) (_p1 : ByteArray) (_i0 : Nat) : List (Nat × List PV) :=
  []
theorem x_law51_place_b0_0 (p0 : List ByteArray) (p1 : ByteArray) (_H : H_law51_place_b0 p0 p1) (i0 : Nat) (hc0 : (decide ((i0 : Int) < ((List.length p0) : Int))) = false) : P_law51_place_b0 p0 p1 (E_law51_place_b0 p0 p1 i0) (.k0) := by
  exact ⟨(envF (Z_law51_place_b0_0 p0 p1 i0)), (zoF (ZO_law51_place_b0_0 p0 p1 i0)), tells_outVI VOK.nil (x := ((.exit 0), S_law51_place_b0_0 p0 p1 (envF (Z_law51_place_b0_0 p0 p1 i0)) (zoF (ZO_law51_place_b0_0 p0 p1 i0)))) [hP 2 (len_ok (strRows p0) (List.length p0) (strRowsLen p0)), hB 0 hc0] [] (by kernel_rfl)⟩
def Z_law51_place_b0_1 (p0 : List ByteArray) (p1 : ByteArray) (i0 : Nat) (x0 : ByteArray) : List PV :=
  [.sl (strRows p0), .str p1, .un, .un, .un, .int .i64 (i0 : Int), .int .i64 (i0 : Int), .sl (strRows p0), .int .i64 ((List.length p0) : Int), .bool true, .un, .un, .sl (strRows p0), .int .i64 (i0 : Int), .rf [.str x0], .str x0, .str p1, .bool true, .int .i64 (i0 : Int)]
def ZO_law51_place_b0_1 (_p0 : List ByteArray) (_p1 : ByteArray) (_i0 : Nat) (_x0 : ByteArray) : List (Nat × List PV) :=
  []
theorem x_law51_place_b0_1 (p0 : List ByteArray) (p1 : ByteArray) (_H : H_law51_place_b0 p0 p1) (x0 : ByteArray) (i0 : Nat) (hx0 : p0[i0]? = some x0) (_hi0 : i0 < List.length p0) (hc0 : (decide ((i0 : Int) < ((List.length p0) : Int))) = true) (h0 : (sEq x0 p1) = true) : P_law51_place_b0 p0 p1 (E_law51_place_b0 p0 p1 i0) (.k1 (i0 : Int)) := by
  exact ⟨(envF (Z_law51_place_b0_1 p0 p1 i0 x0)), (zoF (ZO_law51_place_b0_1 p0 p1 i0 x0)), tells_outVI VOK.nil (x := (.ret, S_law51_place_b0_1 p0 p1 (i0 : Int) (envF (Z_law51_place_b0_1 p0 p1 i0 x0)) (zoF (ZO_law51_place_b0_1 p0 p1 i0 x0)))) [hP 2 (len_ok (strRows p0) (List.length p0) (strRowsLen p0)), hB 0 hc0, hP 2 (ix_ok 1 (strRows p0) i0 _ (strRowsGet hx0) rfl), hB 2 h0] [] (by kernel_rfl)⟩
theorem n_law51_place_b0_2 (p0 : List ByteArray) (p1 : ByteArray) (H : H_law51_place_b0 p0 p1) (x0 : ByteArray) (i0 : Nat) (hx0 : p0[i0]? = some x0) (hi0 : i0 < List.length p0) (hc0 : (decide ((i0 : Int) < ((List.length p0) : Int))) = true) (h0 : (sEq x0 p1) = false) {r : Rs} (hr : Tells G (E_law51_place_b0 p0 p1 (i0 + 1)) r) : Tells G (E_law51_place_b0 p0 p1 i0) r := by
  have hB0 := H.1
  exact tells_nextVI VOK.nil (y := (HE_law51_place_b0 p0 p1 (i0 + 1), HO_law51_place_b0 p0 p1 (i0 + 1))) [hP 2 (len_ok (strRows p0) (List.length p0) (strRowsLen p0)), hB 0 hc0, hP 2 (ix_ok 1 (strRows p0) i0 _ (strRowsGet hx0) rfl), hB 2 h0, hP 1 (inc_ok i0 (by omega))] [] (by kernel_rfl) hr
theorem lt_law51_place_b0 (p0 : List ByteArray) (p1 : ByteArray) (H : H_law51_place_b0 p0 p1) : ∀ (r0 : List ByteArray) (i0 : Nat), List.drop i0 p0 = r0 → P_law51_place_b0 p0 p1 (E_law51_place_b0 p0 p1 i0) (l_law51_place_b0 p0 p1 r0 i0)
  | [], i0, hd => by
    have hc0 : (decide ((i0 : Int) < ((List.length p0) : Int))) = false := by have := drop_end hd; simp; omega
    rw [l_law51_place_b0]
    exact x_law51_place_b0_0 p0 p1 H i0 hc0
  | x0 :: r0, i0, hd => by
    obtain ⟨hx0, hi0, hd'⟩ := drop_get hd
    have hc0 : (decide ((i0 : Int) < ((List.length p0) : Int))) = true := by simp; omega
    rw [l_law51_place_b0]
    cases h0 : (sEq x0 p1) with
    | true =>
     exact x_law51_place_b0_1 p0 p1 H x0 i0 hx0 hi0 hc0 h0
    | false =>
     exact P_law51_place_b0_mono p0 p1 (fun r hr => n_law51_place_b0_2 p0 p1 H x0 i0 hx0 hi0 hc0 h0 hr) _ (lt_law51_place_b0 p0 p1 H r0 (i0 + 1) hd')
/-- orchestrator/ orchestratorlaw51.place -/
def s_law51_place (p0 : List ByteArray) (p1 : ByteArray) : Int :=
  (match (l_law51_place_b0 p0 p1 p0 0) with
  | .k0 => (-1)
  | .k1 y0_0 => y0_0)
def c_law51_place (p0 : List ByteArray) (p1 : ByteArray) : En := .call 18 [.sl (strRows p0), .str p1] []
def a_law51_place (p0 : List ByteArray) (p1 : ByteArray) : Rs := .ret (.int .i64 (s_law51_place p0 p1)) []
def H_law51_place (p0 : List ByteArray) (p1 : ByteArray) : Prop := (H_law51_place_b0 p0 p1) ∧ True
theorem t_law51_place (p0 : List ByteArray) (p1 : ByteArray) (H : H_law51_place p0 p1) : Tells G (c_law51_place p0 p1) (a_law51_place p0 p1) := by
  unfold a_law51_place s_law51_place
  have hl0 := lt_law51_place_b0 p0 p1 (H.1) p0 0 (by simp)
  cases hr0 : (l_law51_place_b0 p0 p1 p0 0) with
  | k0 =>
    rw [hr0] at hl0
    obtain ⟨z0, zo0, hl0⟩ := hl0
    exact tells_VI (fn := Ir.law51_place) rfl VOK.nil [] [aN hl0] (by kernel_rfl)
  | k1 y0_0 =>
    rw [hr0] at hl0
    obtain ⟨z0, zo0, hl0⟩ := hl0
    exact tells_VI (fn := Ir.law51_place) rfl VOK.nil [] [aN hl0] (by kernel_rfl)

def l_ref51_order_b1 (p0 : List Pod) (p1 : List Int) (i0 : Nat) (v0_1 : List Int) : Nat → Int → Int
  | 0, v1_0 => v1_0
  | k1 + 1, v1_0 =>
    bif (decide (0 < v1_0)) then
      bif (s_ref51_before p0 p1 (i0 : Int) (List.getD v0_1 (Int.toNat (v1_0 - 1)) 0)) then
        l_ref51_order_b1 p0 p1 i0 v0_1 k1 (v1_0 - 1)
      else
        v1_0
    else
      v1_0
def HE_ref51_order_b1 (p0 : List Pod) (p1 : List Int) (i0 : Nat) (v0_1 : List Int) (v1_0 : Int) : List PV :=
  [.sl (Pod.rows p0), .sl (intRows p1), .un, .un, .un, .ms 0 1 0 (List.length v0_1), .int .i64 (i0 : Int), .int .i64 v1_0, .un, .un, .un, .un, .un, .un, .un, .un, .un, .un, .un, .un, .un, .un, .un, .un, .un, .un, .un, .un, .un, .un, .un, .un, .un, .un, .un, .un, .un, .un, .un, .un, .un, .un, .un, .un, .un, .un, .un, .un]
def HO_ref51_order_b1 (_p0 : List Pod) (_p1 : List Int) (_i0 : Nat) (v0_1 : List Int) (_v1_0 : Int) : List Ob :=
  [⟨1, 0, true, (intRows v0_1).flatten⟩]
def E_ref51_order_b1 (p0 : List Pod) (p1 : List Int) (i0 : Nat) (v0_1 : List Int) (v1_0 : Int) : En := .loop 0 Ir.ref51_order_b1_live Ir.ref51_order_b1 (HE_ref51_order_b1 p0 p1 i0 v0_1 v1_0) (HO_ref51_order_b1 p0 p1 i0 v0_1 v1_0)
def S_ref51_order_b1_0 (p0 : List Pod) (p1 : List Int) (i0 : Nat) (v0_1 : List Int) (q0 : Int) (z : Nat → PV) (_zo : Nat → List PV) : St :=
  ⟨[.sl (Pod.rows p0), .sl (intRows p1), z 2, z 3, z 4, .ms 0 1 0 (List.length v0_1), .int .i64 (i0 : Int), .int .i64 q0, z 8, z 9, z 10, z 11, z 12, z 13, z 14, z 15, z 16, z 17, z 18, z 19, z 20, z 21, z 22, z 23, z 24, z 25, z 26, z 27, z 28, z 29, z 30, z 31, z 32, z 33, z 34, z 35, z 36, z 37, z 38, z 39, z 40, z 41, z 42, z 43, z 44, z 45, z 46, z 47], [(0, ⟨1, 0, true, (intRows v0_1).flatten⟩)], 833⟩
theorem V_ref51_order_b1 (p0 : List Pod) (p1 : List Int) (i0 : Nat) (v0_1 : List Int) (v1_0 : Int) : VOK (Go.Pv.look (number 0 (HO_ref51_order_b1 p0 p1 i0 v0_1 v1_0))) [(0, intRows v0_1)] := (VOK.cons (show Seen _ _ from seenV (ob := ⟨1, 0, true, (intRows v0_1).flatten⟩) (intRowsView v0_1 1 rfl)) VOK.nil)
def P_ref51_order_b1 (p0 : List Pod) (p1 : List Int) (i0 : Nat) (v0_1 : List Int) (e : En) (q : Int) : Prop := ∃ z zo, Tells G e (.st (.exit 2) (S_ref51_order_b1_0 p0 p1 i0 v0_1 q z zo))
theorem P_ref51_order_b1_mono (p0 : List Pod) (p1 : List Int) (i0 : Nat) (v0_1 : List Int) {e e' : En} (h : ∀ r, Tells G e r → Tells G e' r) : ∀ q, P_ref51_order_b1 p0 p1 i0 v0_1 e q → P_ref51_order_b1 p0 p1 i0 v0_1 e' q
  | _, ⟨z, zo, hz⟩ => ⟨z, zo, h _ hz⟩
def H_ref51_order_b1 (p0 : List Pod) (p1 : List Int) (i0 : Nat) (v0_1 : List Int) : Prop := (∀ (v1_0 : Int), 0 ≤ v1_0 → v1_0 ≤ (List.length v0_1 : Int) → (List.length v0_1 : Int) ≤ 137438953472 → H_ref51_before p0 p1 (i0 : Int) (List.getD v0_1 (Int.toNat (v1_0 - 1)) 0)) ∧ True
theorem n_ref51_order_b1_0 (p0 : List Pod) (p1 : List Int) (i0 : Nat) (v0_1 : List Int) (H : H_ref51_order_b1 p0 p1 i0 v0_1) (v1_0 : Int) (ho1_0 : 0 ≤ v1_0) (ho1_1 : v1_0 ≤ (List.length v0_1 : Int)) (ho1_2 : (List.length v0_1 : Int) ≤ 137438953472) (h0 : (decide (0 < v1_0)) = true) (h1 : (s_ref51_before p0 p1 (i0 : Int) (List.getD v0_1 (Int.toNat (v1_0 - 1)) 0)) = true) {r : Rs} (hr : Tells G (E_ref51_order_b1 p0 p1 i0 v0_1 (v1_0 - 1)) r) : Tells G (E_ref51_order_b1 p0 p1 i0 v0_1 v1_0) r := by
  have e0 := of_decide_eq_true h0
  exact tells_nextVI (V_ref51_order_b1 p0 p1 i0 v0_1 v1_0) (y := (HE_ref51_order_b1 p0 p1 i0 v0_1 (v1_0 - 1), HO_ref51_order_b1 p0 p1 i0 v0_1 (v1_0 - 1))) [hB 1 h0, hP 6 (w_ok (v1_0 - 1) (by omega)), hP 0 (ixs_ok 0 1 (List.length v0_1) (v1_0 - 1) (Int.toNat (v1_0 - 1)) rfl (by omega) (by omega)), hP 0 (ld_ok 0 1 0 true ((intRows v0_1).flatten) (intRows v0_1) 1 false (Int.toNat (v1_0 - 1)) 0 ((Int.toNat (v1_0 - 1)) * 1) [.int .i64 (List.getD v0_1 (Int.toNat (v1_0 - 1)) 0)] (.int .i64 (List.getD v0_1 (Int.toNat (v1_0 - 1)) 0)) rfl rfl (intRowsGet (getD_ok v0_1 (Int.toNat (v1_0 - 1)) 0 (by omega))) (intRowsSize v0_1) (by decide) rfl), hP 3 (w_ok (v1_0 - 1) (by omega))] [aB (t_ref51_before p0 p1 (i0 : Int) (List.getD v0_1 (Int.toNat (v1_0 - 1)) 0) (H.1 v1_0 ho1_0 ho1_1 ho1_2)) h1] (by kernel_rfl) hr
def Z_ref51_order_b1_1 (p0 : List Pod) (p1 : List Int) (i0 : Nat) (v0_1 : List Int) (v1_0 : Int) : List PV :=
  [.un, .un, .un, .un, .un, .un, .un, .un, .un, .un, .un, .un, .un, .un, .un, .un, .un, .int .i64 v1_0, .bool true, .bool true, .sl (Pod.rows p0), .sl (intRows p1), .int .i64 (i0 : Int), .ms 0 1 0 (List.length v0_1), .int .i64 v1_0, .int .i64 (v1_0 - 1), .bx 0 ((Int.toNat (v1_0 - 1)) * 1), .int .i64 (List.getD v0_1 (Int.toNat (v1_0 - 1)) 0), .bool false, .bool false]
def ZO_ref51_order_b1_1 (_p0 : List Pod) (_p1 : List Int) (_i0 : Nat) (_v0_1 : List Int) (_v1_0 : Int) : List (Nat × List PV) :=
  []
theorem x_ref51_order_b1_1 (p0 : List Pod) (p1 : List Int) (i0 : Nat) (v0_1 : List Int) (H : H_ref51_order_b1 p0 p1 i0 v0_1) (v1_0 : Int) (ho1_0 : 0 ≤ v1_0) (ho1_1 : v1_0 ≤ (List.length v0_1 : Int)) (ho1_2 : (List.length v0_1 : Int) ≤ 137438953472) (h0 : (decide (0 < v1_0)) = true) (h1 : (s_ref51_before p0 p1 (i0 : Int) (List.getD v0_1 (Int.toNat (v1_0 - 1)) 0)) = false) : P_ref51_order_b1 p0 p1 i0 v0_1 (E_ref51_order_b1 p0 p1 i0 v0_1 v1_0) v1_0 := by
  have e0 := of_decide_eq_true h0
  exact ⟨(envF (Z_ref51_order_b1_1 p0 p1 i0 v0_1 v1_0)), (zoF (ZO_ref51_order_b1_1 p0 p1 i0 v0_1 v1_0)), tells_outVI (V_ref51_order_b1 p0 p1 i0 v0_1 v1_0) (x := ((.exit 2), S_ref51_order_b1_0 p0 p1 i0 v0_1 v1_0 (envF (Z_ref51_order_b1_1 p0 p1 i0 v0_1 v1_0)) (zoF (ZO_ref51_order_b1_1 p0 p1 i0 v0_1 v1_0)))) [hB 1 h0, hP 6 (w_ok (v1_0 - 1) (by omega)), hP 0 (ixs_ok 0 1 (List.length v0_1) (v1_0 - 1) (Int.toNat (v1_0 - 1)) rfl (by omega) (by omega)), hP 0 (ld_ok 0 1 0 true ((intRows v0_1).flatten) (intRows v0_1) 1 false (Int.toNat (v1_0 - 1)) 0 ((Int.toNat (v1_0 - 1)) * 1) [.int .i64 (List.getD v0_1 (Int.toNat (v1_0 - 1)) 0)] (.int .i64 (List.getD v0_1 (Int.toNat (v1_0 - 1)) 0)) rfl rfl (intRowsGet (getD_ok v0_1 (Int.toNat (v1_0 - 1)) 0 (by omega))) (intRowsSize v0_1) (by decide) rfl)] [aB (t_ref51_before p0 p1 (i0 : Int) (List.getD v0_1 (Int.toNat (v1_0 - 1)) 0) (H.1 v1_0 ho1_0 ho1_1 ho1_2)) h1] (by kernel_rfl)⟩
def Z_ref51_order_b1_2 (_p0 : List Pod) (_p1 : List Int) (_i0 : Nat) (_v0_1 : List Int) (v1_0 : Int) : List PV :=
  [.un, .un, .un, .un, .un, .un, .un, .un, .un, .un, .un, .un, .un, .un, .un, .un, .un, .int .i64 v1_0, .bool false, .bool false, .tup [], .tup [], .tup [], .tup [], .tup [], .tup [], .tup [], .tup [], .tup [], .bool false]
def ZO_ref51_order_b1_2 (_p0 : List Pod) (_p1 : List Int) (_i0 : Nat) (_v0_1 : List Int) (_v1_0 : Int) : List (Nat × List PV) :=
  []
theorem x_ref51_order_b1_2 (p0 : List Pod) (p1 : List Int) (i0 : Nat) (v0_1 : List Int) (_H : H_ref51_order_b1 p0 p1 i0 v0_1) (v1_0 : Int) (_ho1_0 : 0 ≤ v1_0) (_ho1_1 : v1_0 ≤ (List.length v0_1 : Int)) (_ho1_2 : (List.length v0_1 : Int) ≤ 137438953472) (h0 : (decide (0 < v1_0)) = false) : P_ref51_order_b1 p0 p1 i0 v0_1 (E_ref51_order_b1 p0 p1 i0 v0_1 v1_0) v1_0 := by
  exact ⟨(envF (Z_ref51_order_b1_2 p0 p1 i0 v0_1 v1_0)), (zoF (ZO_ref51_order_b1_2 p0 p1 i0 v0_1 v1_0)), tells_outVI (V_ref51_order_b1 p0 p1 i0 v0_1 v1_0) (x := ((.exit 2), S_ref51_order_b1_0 p0 p1 i0 v0_1 v1_0 (envF (Z_ref51_order_b1_2 p0 p1 i0 v0_1 v1_0)) (zoF (ZO_ref51_order_b1_2 p0 p1 i0 v0_1 v1_0)))) [hB 1 h0] [] (by kernel_rfl)⟩
theorem lt_ref51_order_b1 (p0 : List Pod) (p1 : List Int) (i0 : Nat) (v0_1 : List Int) (H : H_ref51_order_b1 p0 p1 i0 v0_1) : ∀ (k1 : Nat) (v1_0 : Int), 0 ≤ v1_0 → v1_0 ≤ (List.length v0_1 : Int) → (List.length v0_1 : Int) ≤ 137438953472 → Int.toNat v1_0 < k1 → P_ref51_order_b1 p0 p1 i0 v0_1 (E_ref51_order_b1 p0 p1 i0 v0_1 v1_0) (l_ref51_order_b1 p0 p1 i0 v0_1 k1 v1_0)
  | 0, v1_0, _, _, _, hm => absurd hm (Nat.not_lt_zero _)
  | k1 + 1, v1_0, ho1_0, ho1_1, ho1_2, hm => by
    rw [l_ref51_order_b1]
    cases h0 : (decide (0 < v1_0)) with
    | true =>
     have e0 := of_decide_eq_true h0
     cases h1 : (s_ref51_before p0 p1 (i0 : Int) (List.getD v0_1 (Int.toNat (v1_0 - 1)) 0)) with
     | true =>
      exact P_ref51_order_b1_mono p0 p1 i0 v0_1 (fun r hr => n_ref51_order_b1_0 p0 p1 i0 v0_1 H v1_0 ho1_0 ho1_1 ho1_2 h0 h1 hr) _ (lt_ref51_order_b1 p0 p1 i0 v0_1 H k1 (v1_0 - 1) (by omega) (by omega) (by omega) (by omega))
     | false =>
      exact x_ref51_order_b1_1 p0 p1 i0 v0_1 H v1_0 ho1_0 ho1_1 ho1_2 h0 h1
    | false =>
     exact x_ref51_order_b1_2 p0 p1 i0 v0_1 H v1_0 ho1_0 ho1_1 ho1_2 h0
theorem pl_ref51_order_b1 (p0 : List Pod) (p1 : List Int) (i0 : Nat) (v0_1 : List Int) : ∀ (k1 : Nat) (v1_0 : Int), 0 ≤ v1_0 → v1_0 ≤ (List.length v0_1 : Int) → (List.length v0_1 : Int) ≤ 137438953472 → Int.toNat v1_0 < k1 → 0 ≤ (l_ref51_order_b1 p0 p1 i0 v0_1 k1 v1_0) ∧ (l_ref51_order_b1 p0 p1 i0 v0_1 k1 v1_0) ≤ (List.length v0_1 : Int)
  | 0, v1_0, _, _, _, hm => absurd hm (Nat.not_lt_zero _)
  | k1 + 1, v1_0, ho1_0, ho1_1, ho1_2, hm => by
    rw [l_ref51_order_b1]
    cases h0 : (decide (0 < v1_0)) with
    | true =>
     have e0 := of_decide_eq_true h0
     cases h1 : (s_ref51_before p0 p1 (i0 : Int) (List.getD v0_1 (Int.toNat (v1_0 - 1)) 0)) with
     | true =>
      exact pl_ref51_order_b1 p0 p1 i0 v0_1 k1 (v1_0 - 1) (by omega) (by omega) (by omega) (by omega)
     | false =>
      exact (show 0 ≤ v1_0 ∧ v1_0 ≤ (List.length v0_1 : Int) from ⟨(by omega), (by omega)⟩)
    | false =>
     have e0 := of_decide_eq_false h0
     exact (show 0 ≤ v1_0 ∧ v1_0 ≤ (List.length v0_1 : Int) from ⟨(by omega), (by omega)⟩)
def l_ref51_order_b0 (p0 : List Pod) (p1 : List Int) : List Pod → Nat → (List Int) → List Int
  | [], _i0, v0_1 =>
    v0_1
  | _x0 :: r0, i0, v0_1 =>
    bif ((Int.toNat (l_ref51_order_b1 p0 p1 i0 v0_1 ((Int.toNat ((List.length v0_1) : Int)) + 1) ((List.length v0_1) : Int))) == 0) then
      l_ref51_order_b0 p0 p1 r0 (i0 + 1) (([(i0 : Int)]) ++ (List.take ((List.length v0_1) - (Int.toNat (l_ref51_order_b1 p0 p1 i0 v0_1 ((Int.toNat ((List.length v0_1) : Int)) + 1) ((List.length v0_1) : Int)))) (List.drop (Int.toNat (l_ref51_order_b1 p0 p1 i0 v0_1 ((Int.toNat ((List.length v0_1) : Int)) + 1) ((List.length v0_1) : Int))) v0_1)))
    else
      l_ref51_order_b0 p0 p1 r0 (i0 + 1) (((List.take (Int.toNat (l_ref51_order_b1 p0 p1 i0 v0_1 ((Int.toNat ((List.length v0_1) : Int)) + 1) ((List.length v0_1) : Int))) v0_1) ++ [(i0 : Int)]) ++ (List.take ((List.length v0_1) - (Int.toNat (l_ref51_order_b1 p0 p1 i0 v0_1 ((Int.toNat ((List.length v0_1) : Int)) + 1) ((List.length v0_1) : Int)))) (List.drop (Int.toNat (l_ref51_order_b1 p0 p1 i0 v0_1 ((Int.toNat ((List.length v0_1) : Int)) + 1) ((List.length v0_1) : Int))) v0_1)))
def HE_ref51_order_b0 (p0 : List Pod) (p1 : List Int) (i0 : Nat) (v0_1 : List Int) : List PV :=
  [.sl (Pod.rows p0), .sl (intRows p1), .un, .un, .un, .ms 0 1 0 (List.length v0_1), .int .i64 (i0 : Int), .un, .un, .un, .un, .un, .un, .un, .un, .un, .un, .un, .un, .un, .un, .un, .un, .un, .un, .un, .un, .un, .un, .un, .un, .un, .un, .un, .un, .un, .un, .un, .un, .un, .un, .un, .un, .un, .un, .un, .un, .un]
def HO_ref51_order_b0 (_p0 : List Pod) (_p1 : List Int) (_i0 : Nat) (v0_1 : List Int) : List Ob :=
  [⟨1, 0, true, (intRows v0_1).flatten⟩]
def E_ref51_order_b0 (p0 : List Pod) (p1 : List Int) (i0 : Nat) (v0_1 : List Int) : En := .loop 0 Ir.ref51_order_b0_live Ir.ref51_order_b0 (HE_ref51_order_b0 p0 p1 i0 v0_1) (HO_ref51_order_b0 p0 p1 i0 v0_1)
def S_ref51_order_b0_0 (_p0 : List Pod) (_p1 : List Int) (q0 : List Int) (z : Nat → PV) (_zo : Nat → List PV) : St :=
  ⟨[z 0, z 1, z 2, z 3, z 4, .ms 0 1 0 (List.length q0), z 6, z 7, z 8, z 9, z 10, z 11, z 12, z 13, z 14, z 15, z 16, z 17, z 18, z 19, z 20, z 21, z 22, z 23, z 24, z 25, z 26, z 27, z 28, z 29, z 30, z 31, z 32, z 33, z 34, z 35, z 36, z 37, z 38, z 39, z 40, z 41, z 42, z 43, z 44, z 45, z 46, z 47], [(0, ⟨1, 0, true, (intRows q0).flatten⟩)], 257⟩
theorem V_ref51_order_b0 (p0 : List Pod) (p1 : List Int) (i0 : Nat) (v0_1 : List Int) : VOK (Go.Pv.look (number 0 (HO_ref51_order_b0 p0 p1 i0 v0_1))) [(0, intRows v0_1)] := (VOK.cons (show Seen _ _ from seenV (ob := ⟨1, 0, true, (intRows v0_1).flatten⟩) (intRowsView v0_1 1 rfl)) VOK.nil)
def P_ref51_order_b0 (p0 : List Pod) (p1 : List Int) (e : En) (q : List Int) : Prop := ∃ z zo, Tells G e (.st (.exit 0) (S_ref51_order_b0_0 p0 p1 q z zo))
theorem P_ref51_order_b0_mono (p0 : List Pod) (p1 : List Int) {e e' : En} (h : ∀ r, Tells G e r → Tells G e' r) : ∀ q, P_ref51_order_b0 p0 p1 e q → P_ref51_order_b0 p0 p1 e' q
  | _, ⟨z, zo, hz⟩ => ⟨z, zo, h _ hz⟩
def H_ref51_order_b0 (p0 : List Pod) (p1 : List Int) : Prop := (List.length p0 ≤ 137438953472) ∧ (∀ (i0 : Nat) (v0_1 : List Int) (x0 : Pod), p0[i0]? = some x0 → List.length v0_1 ≤ i0 → (∀ y ∈ v0_1, 0 ≤ y ∧ y < (i0 : Int)) → H_ref51_order_b1 p0 p1 i0 v0_1) ∧ (∀ (i0 : Nat) (v0_1 : List Int) (x0 : Pod), p0[i0]? = some x0 → List.length v0_1 ≤ i0 → (∀ y ∈ v0_1, 0 ≤ y ∧ y < (i0 : Int)) → ((Int.toNat (l_ref51_order_b1 p0 p1 i0 v0_1 ((Int.toNat ((List.length v0_1) : Int)) + 1) ((List.length v0_1) : Int))) == 0) = true → (∀ y ∈ (([(i0 : Int)]) ++ (List.take ((List.length v0_1) - (Int.toNat (l_ref51_order_b1 p0 p1 i0 v0_1 ((Int.toNat ((List.length v0_1) : Int)) + 1) ((List.length v0_1) : Int)))) (List.drop (Int.toNat (l_ref51_order_b1 p0 p1 i0 v0_1 ((Int.toNat ((List.length v0_1) : Int)) + 1) ((List.length v0_1) : Int))) v0_1))), 0 ≤ y ∧ y < ((i0 + 1) : Int))) ∧ (∀ (i0 : Nat) (v0_1 : List Int) (x0 : Pod), p0[i0]? = some x0 → List.length v0_1 ≤ i0 → (∀ y ∈ v0_1, 0 ≤ y ∧ y < (i0 : Int)) → ((Int.toNat (l_ref51_order_b1 p0 p1 i0 v0_1 ((Int.toNat ((List.length v0_1) : Int)) + 1) ((List.length v0_1) : Int))) == 0) = false → (∀ y ∈ (((List.take (Int.toNat (l_ref51_order_b1 p0 p1 i0 v0_1 ((Int.toNat ((List.length v0_1) : Int)) + 1) ((List.length v0_1) : Int))) v0_1) ++ [(i0 : Int)]) ++ (List.take ((List.length v0_1) - (Int.toNat (l_ref51_order_b1 p0 p1 i0 v0_1 ((Int.toNat ((List.length v0_1) : Int)) + 1) ((List.length v0_1) : Int)))) (List.drop (Int.toNat (l_ref51_order_b1 p0 p1 i0 v0_1 ((Int.toNat ((List.length v0_1) : Int)) + 1) ((List.length v0_1) : Int))) v0_1))), 0 ≤ y ∧ y < ((i0 + 1) : Int))) ∧ True
def Z_ref51_order_b0_0 (p0 : List Pod) (p1 : List Int) (i0 : Nat) (_v0_1 : List Int) : List PV :=
  [.sl (Pod.rows p0), .sl (intRows p1), .un, .un, .un, .un, .int .i64 (i0 : Int), .un, .un, .int .i64 (i0 : Int), .sl (Pod.rows p0), .int .i64 ((List.length p0) : Int), .bool false]
def ZO_ref51_order_b0_0 (_p0 : List Pod) (_p1 : List Int) (_i0 : Nat) (_v0_1 : List Int) : List (Nat × List PV) :=
  []
theorem x_ref51_order_b0_0 (p0 : List Pod) (p1 : List Int) (_H : H_ref51_order_b0 p0 p1) (i0 : Nat) (v0_1 : List Int) (_ho0_0 : List.length v0_1 ≤ i0) (_ho0_1 : (∀ y ∈ v0_1, 0 ≤ y ∧ y < (i0 : Int))) (hc0 : (decide ((i0 : Int) < ((List.length p0) : Int))) = false) : P_ref51_order_b0 p0 p1 (E_ref51_order_b0 p0 p1 i0 v0_1) v0_1 := by
  exact ⟨(envF (Z_ref51_order_b0_0 p0 p1 i0 v0_1)), (zoF (ZO_ref51_order_b0_0 p0 p1 i0 v0_1)), tells_outVI (V_ref51_order_b0 p0 p1 i0 v0_1) (x := ((.exit 0), S_ref51_order_b0_0 p0 p1 v0_1 (envF (Z_ref51_order_b0_0 p0 p1 i0 v0_1)) (zoF (ZO_ref51_order_b0_0 p0 p1 i0 v0_1)))) [hP 2 (len_ok (Pod.rows p0) (List.length p0) (Pod.rowsLen p0)), hB 0 hc0] [] (by kernel_rfl)⟩
theorem n_ref51_order_b0_1 (p0 : List Pod) (p1 : List Int) (H : H_ref51_order_b0 p0 p1) (x0 : Pod) (i0 : Nat) (v0_1 : List Int) (_hx0 : p0[i0]? = some x0) (hi0 : i0 < List.length p0) (ho0_0 : List.length v0_1 ≤ i0) (_ho0_1 : (∀ y ∈ v0_1, 0 ≤ y ∧ y < (i0 : Int))) (hc0 : (decide ((i0 : Int) < ((List.length p0) : Int))) = true) (z0 : Nat → PV) (zo0 : Nat → List PV) (hl0 : Tells G (E_ref51_order_b1 p0 p1 i0 v0_1 ((List.length v0_1) : Int)) (.st (.exit 2) (S_ref51_order_b1_0 p0 p1 i0 v0_1 (l_ref51_order_b1 p0 p1 i0 v0_1 ((Int.toNat ((List.length v0_1) : Int)) + 1) ((List.length v0_1) : Int)) z0 zo0))) (h0 : ((Int.toNat (l_ref51_order_b1 p0 p1 i0 v0_1 ((Int.toNat ((List.length v0_1) : Int)) + 1) ((List.length v0_1) : Int))) == 0) = true) {r : Rs} (hr : Tells G (E_ref51_order_b0 p0 p1 (i0 + 1) (([(i0 : Int)]) ++ (List.take ((List.length v0_1) - (Int.toNat (l_ref51_order_b1 p0 p1 i0 v0_1 ((Int.toNat ((List.length v0_1) : Int)) + 1) ((List.length v0_1) : Int)))) (List.drop (Int.toNat (l_ref51_order_b1 p0 p1 i0 v0_1 ((Int.toNat ((List.length v0_1) : Int)) + 1) ((List.length v0_1) : Int))) v0_1)))) r) : Tells G (E_ref51_order_b0 p0 p1 i0 v0_1) r := by
  have hB0 := H.1
  exact tells_nextVI (V_ref51_order_b0 p0 p1 i0 v0_1) (y := (HE_ref51_order_b0 p0 p1 (i0 + 1) (([(i0 : Int)]) ++ (List.take ((List.length v0_1) - (Int.toNat (l_ref51_order_b1 p0 p1 i0 v0_1 ((Int.toNat ((List.length v0_1) : Int)) + 1) ((List.length v0_1) : Int)))) (List.drop (Int.toNat (l_ref51_order_b1 p0 p1 i0 v0_1 ((Int.toNat ((List.length v0_1) : Int)) + 1) ((List.length v0_1) : Int))) v0_1))), HO_ref51_order_b0 p0 p1 (i0 + 1) (([(i0 : Int)]) ++ (List.take ((List.length v0_1) - (Int.toNat (l_ref51_order_b1 p0 p1 i0 v0_1 ((Int.toNat ((List.length v0_1) : Int)) + 1) ((List.length v0_1) : Int)))) (List.drop (Int.toNat (l_ref51_order_b1 p0 p1 i0 v0_1 ((Int.toNat ((List.length v0_1) : Int)) + 1) ((List.length v0_1) : Int))) v0_1))))) [hP 2 (len_ok (Pod.rows p0) (List.length p0) (Pod.rowsLen p0)), hB 0 hc0, hS 0 true (intRowsView v0_1 1 rfl), hP 7 (takem_ok 0 1 (List.length v0_1) (l_ref51_order_b1 p0 p1 i0 v0_1 ((Int.toNat ((List.length v0_1) : Int)) + 1) ((List.length v0_1) : Int)) (by have g0 := pl_ref51_order_b1 p0 p1 i0 v0_1 ((Int.toNat ((List.length v0_1) : Int)) + 1) ((List.length v0_1) : Int) (by omega) (by omega) (by omega) (by omega); omega) (by have g0 := pl_ref51_order_b1 p0 p1 i0 v0_1 ((Int.toNat ((List.length v0_1) : Int)) + 1) ((List.length v0_1) : Int) (by omega) (by omega) (by omega) (by omega); omega)), hP 0 (app_none 0 1153 1 8 0 true (intRows v0_1) 0 (Int.toNat (l_ref51_order_b1 p0 p1 i0 v0_1 ((Int.toNat ((List.length v0_1) : Int)) + 1) ((List.length v0_1) : Int))) (intRowsSize v0_1) (by rw [intRowsLen]; exact (by have g0 := pl_ref51_order_b1 p0 p1 i0 v0_1 ((Int.toNat ((List.length v0_1) : Int)) + 1) ((List.length v0_1) : Int) (by omega) (by omega) (by omega) (by omega); omega)) (eq_of_beq h0)), hP 9 (dropm_ok 0 1 (List.length v0_1) (l_ref51_order_b1 p0 p1 i0 v0_1 ((Int.toNat ((List.length v0_1) : Int)) + 1) ((List.length v0_1) : Int)) (by have g0 := pl_ref51_order_b1 p0 p1 i0 v0_1 ((Int.toNat ((List.length v0_1) : Int)) + 1) ((List.length v0_1) : Int) (by omega) (by omega) (by omega) (by omega); omega) (by have g0 := pl_ref51_order_b1 p0 p1 i0 v0_1 ((Int.toNat ((List.length v0_1) : Int)) + 1) ((List.length v0_1) : Int) (by omega) (by omega) (by omega) (by omega); omega)), hV 0 [(1857, intRows (([(i0 : Int)]) ++ (List.take ((List.length v0_1) - (Int.toNat (l_ref51_order_b1 p0 p1 i0 v0_1 ((Int.toNat ((List.length v0_1) : Int)) + 1) ((List.length v0_1) : Int)))) (List.drop (Int.toNat (l_ref51_order_b1 p0 p1 i0 v0_1 ((Int.toNat ((List.length v0_1) : Int)) + 1) ((List.length v0_1) : Int))) v0_1))))] (aplm_ok 1473 0 1857 1 8 0 [.int .i64 (i0 : Int)] (intRows ([(i0 : Int)])) 0 true (intRows v0_1) (intRows (([(i0 : Int)]) ++ (List.take ((List.length v0_1) - (Int.toNat (l_ref51_order_b1 p0 p1 i0 v0_1 ((Int.toNat ((List.length v0_1) : Int)) + 1) ((List.length v0_1) : Int)))) (List.drop (Int.toNat (l_ref51_order_b1 p0 p1 i0 v0_1 ((Int.toNat ((List.length v0_1) : Int)) + 1) ((List.length v0_1) : Int))) v0_1)))) 1 (Int.toNat (l_ref51_order_b1 p0 p1 i0 v0_1 ((Int.toNat ((List.length v0_1) : Int)) + 1) ((List.length v0_1) : Int))) ((List.length v0_1) - (Int.toNat (l_ref51_order_b1 p0 p1 i0 v0_1 ((Int.toNat ((List.length v0_1) : Int)) + 1) ((List.length v0_1) : Int)))) (List.length (([(i0 : Int)]) ++ (List.take ((List.length v0_1) - (Int.toNat (l_ref51_order_b1 p0 p1 i0 v0_1 ((Int.toNat ((List.length v0_1) : Int)) + 1) ((List.length v0_1) : Int)))) (List.drop (Int.toNat (l_ref51_order_b1 p0 p1 i0 v0_1 ((Int.toNat ((List.length v0_1) : Int)) + 1) ((List.length v0_1) : Int))) v0_1)))) rfl rfl (intRowsLen ([(i0 : Int)])).symm (intRowsLen (([(i0 : Int)]) ++ (List.take ((List.length v0_1) - (Int.toNat (l_ref51_order_b1 p0 p1 i0 v0_1 ((Int.toNat ((List.length v0_1) : Int)) + 1) ((List.length v0_1) : Int)))) (List.drop (Int.toNat (l_ref51_order_b1 p0 p1 i0 v0_1 ((Int.toNat ((List.length v0_1) : Int)) + 1) ((List.length v0_1) : Int))) v0_1)))).symm (by rw [intRowsApp, intRowsTake, intRowsDrop]) (intRowsSize ([(i0 : Int)])) (intRowsSize v0_1) (by rw [intRowsLen]; exact (by have g0 := pl_ref51_order_b1 p0 p1 i0 v0_1 ((Int.toNat ((List.length v0_1) : Int)) + 1) ((List.length v0_1) : Int) (by omega) (by omega) (by omega) (by omega); omega)) (by have g0 := pl_ref51_order_b1 p0 p1 i0 v0_1 ((Int.toNat ((List.length v0_1) : Int)) + 1) ((List.length v0_1) : Int) (by omega) (by omega) (by omega) (by omega); omega)), hS 0 true (intRowsView (([(i0 : Int)]) ++ (List.take ((List.length v0_1) - (Int.toNat (l_ref51_order_b1 p0 p1 i0 v0_1 ((Int.toNat ((List.length v0_1) : Int)) + 1) ((List.length v0_1) : Int)))) (List.drop (Int.toNat (l_ref51_order_b1 p0 p1 i0 v0_1 ((Int.toNat ((List.length v0_1) : Int)) + 1) ((List.length v0_1) : Int))) v0_1))) 1 rfl), hP 4 (inc_ok i0 (by omega))] [aV [(0, intRows v0_1)] hl0] (by kernel_rfl) hr
theorem n_ref51_order_b0_2 (p0 : List Pod) (p1 : List Int) (H : H_ref51_order_b0 p0 p1) (x0 : Pod) (i0 : Nat) (v0_1 : List Int) (_hx0 : p0[i0]? = some x0) (hi0 : i0 < List.length p0) (ho0_0 : List.length v0_1 ≤ i0) (_ho0_1 : (∀ y ∈ v0_1, 0 ≤ y ∧ y < (i0 : Int))) (hc0 : (decide ((i0 : Int) < ((List.length p0) : Int))) = true) (z0 : Nat → PV) (zo0 : Nat → List PV) (hl0 : Tells G (E_ref51_order_b1 p0 p1 i0 v0_1 ((List.length v0_1) : Int)) (.st (.exit 2) (S_ref51_order_b1_0 p0 p1 i0 v0_1 (l_ref51_order_b1 p0 p1 i0 v0_1 ((Int.toNat ((List.length v0_1) : Int)) + 1) ((List.length v0_1) : Int)) z0 zo0))) (h0 : ((Int.toNat (l_ref51_order_b1 p0 p1 i0 v0_1 ((Int.toNat ((List.length v0_1) : Int)) + 1) ((List.length v0_1) : Int))) == 0) = false) {r : Rs} (hr : Tells G (E_ref51_order_b0 p0 p1 (i0 + 1) (((List.take (Int.toNat (l_ref51_order_b1 p0 p1 i0 v0_1 ((Int.toNat ((List.length v0_1) : Int)) + 1) ((List.length v0_1) : Int))) v0_1) ++ [(i0 : Int)]) ++ (List.take ((List.length v0_1) - (Int.toNat (l_ref51_order_b1 p0 p1 i0 v0_1 ((Int.toNat ((List.length v0_1) : Int)) + 1) ((List.length v0_1) : Int)))) (List.drop (Int.toNat (l_ref51_order_b1 p0 p1 i0 v0_1 ((Int.toNat ((List.length v0_1) : Int)) + 1) ((List.length v0_1) : Int))) v0_1)))) r) : Tells G (E_ref51_order_b0 p0 p1 i0 v0_1) r := by
  have hB0 := H.1
  exact tells_nextVI (V_ref51_order_b0 p0 p1 i0 v0_1) (y := (HE_ref51_order_b0 p0 p1 (i0 + 1) (((List.take (Int.toNat (l_ref51_order_b1 p0 p1 i0 v0_1 ((Int.toNat ((List.length v0_1) : Int)) + 1) ((List.length v0_1) : Int))) v0_1) ++ [(i0 : Int)]) ++ (List.take ((List.length v0_1) - (Int.toNat (l_ref51_order_b1 p0 p1 i0 v0_1 ((Int.toNat ((List.length v0_1) : Int)) + 1) ((List.length v0_1) : Int)))) (List.drop (Int.toNat (l_ref51_order_b1 p0 p1 i0 v0_1 ((Int.toNat ((List.length v0_1) : Int)) + 1) ((List.length v0_1) : Int))) v0_1))), HO_ref51_order_b0 p0 p1 (i0 + 1) (((List.take (Int.toNat (l_ref51_order_b1 p0 p1 i0 v0_1 ((Int.toNat ((List.length v0_1) : Int)) + 1) ((List.length v0_1) : Int))) v0_1) ++ [(i0 : Int)]) ++ (List.take ((List.length v0_1) - (Int.toNat (l_ref51_order_b1 p0 p1 i0 v0_1 ((Int.toNat ((List.length v0_1) : Int)) + 1) ((List.length v0_1) : Int)))) (List.drop (Int.toNat (l_ref51_order_b1 p0 p1 i0 v0_1 ((Int.toNat ((List.length v0_1) : Int)) + 1) ((List.length v0_1) : Int))) v0_1))))) [hP 2 (len_ok (Pod.rows p0) (List.length p0) (Pod.rowsLen p0)), hB 0 hc0, hS 0 true (intRowsView v0_1 1 rfl), hP 7 (takem_ok 0 1 (List.length v0_1) (l_ref51_order_b1 p0 p1 i0 v0_1 ((Int.toNat ((List.length v0_1) : Int)) + 1) ((List.length v0_1) : Int)) (by have g0 := pl_ref51_order_b1 p0 p1 i0 v0_1 ((Int.toNat ((List.length v0_1) : Int)) + 1) ((List.length v0_1) : Int) (by omega) (by omega) (by omega) (by omega); omega) (by have g0 := pl_ref51_order_b1 p0 p1 i0 v0_1 ((Int.toNat ((List.length v0_1) : Int)) + 1) ((List.length v0_1) : Int) (by omega) (by omega) (by omega) (by omega); omega)), hV 0 [(1153, intRows (List.take (Int.toNat (l_ref51_order_b1 p0 p1 i0 v0_1 ((Int.toNat ((List.length v0_1) : Int)) + 1) ((List.length v0_1) : Int))) v0_1))] (app_ok 0 1153 1 8 0 true (intRows v0_1) (intRows (List.take (Int.toNat (l_ref51_order_b1 p0 p1 i0 v0_1 ((Int.toNat ((List.length v0_1) : Int)) + 1) ((List.length v0_1) : Int))) v0_1)) 0 (Int.toNat (l_ref51_order_b1 p0 p1 i0 v0_1 ((Int.toNat ((List.length v0_1) : Int)) + 1) ((List.length v0_1) : Int))) (List.length (List.take (Int.toNat (l_ref51_order_b1 p0 p1 i0 v0_1 ((Int.toNat ((List.length v0_1) : Int)) + 1) ((List.length v0_1) : Int))) v0_1)) (intRowsSize v0_1) (by rw [intRowsLen]; exact (by have g0 := pl_ref51_order_b1 p0 p1 i0 v0_1 ((Int.toNat ((List.length v0_1) : Int)) + 1) ((List.length v0_1) : Int) (by omega) (by omega) (by omega) (by omega); omega)) (beq_eq_false_iff_ne.1 h0) (by rw [intRowsTake]; rfl) (by have g0 := pl_ref51_order_b1 p0 p1 i0 v0_1 ((Int.toNat ((List.length v0_1) : Int)) + 1) ((List.length v0_1) : Int) (by omega) (by omega) (by omega) (by omega); try simp only [List.length_take]; omega) (by have g0 := pl_ref51_order_b1 p0 p1 i0 v0_1 ((Int.toNat ((List.length v0_1) : Int)) + 1) ((List.length v0_1) : Int) (by omega) (by omega) (by omega) (by omega); omega)), hS 0 true (intRowsView (List.take (Int.toNat (l_ref51_order_b1 p0 p1 i0 v0_1 ((Int.toNat ((List.length v0_1) : Int)) + 1) ((List.length v0_1) : Int))) v0_1) 1 rfl), hV 4 [(1473, intRows ((List.take (Int.toNat (l_ref51_order_b1 p0 p1 i0 v0_1 ((Int.toNat ((List.length v0_1) : Int)) + 1) ((List.length v0_1) : Int))) v0_1) ++ [(i0 : Int)]))] (ap_ok 1153 1409 1473 1 8 0 0 true (intRows (List.take (Int.toNat (l_ref51_order_b1 p0 p1 i0 v0_1 ((Int.toNat ((List.length v0_1) : Int)) + 1) ((List.length v0_1) : Int))) v0_1)) (intRows ((List.take (Int.toNat (l_ref51_order_b1 p0 p1 i0 v0_1 ((Int.toNat ((List.length v0_1) : Int)) + 1) ((List.length v0_1) : Int))) v0_1) ++ [(i0 : Int)])) [.int .i64 (i0 : Int)] (List.length (List.take (Int.toNat (l_ref51_order_b1 p0 p1 i0 v0_1 ((Int.toNat ((List.length v0_1) : Int)) + 1) ((List.length v0_1) : Int))) v0_1)) (List.length ((List.take (Int.toNat (l_ref51_order_b1 p0 p1 i0 v0_1 ((Int.toNat ((List.length v0_1) : Int)) + 1) ((List.length v0_1) : Int))) v0_1) ++ [(i0 : Int)])) rfl (intRowsLen (List.take (Int.toNat (l_ref51_order_b1 p0 p1 i0 v0_1 ((Int.toNat ((List.length v0_1) : Int)) + 1) ((List.length v0_1) : Int))) v0_1)).symm (intRowsLen ((List.take (Int.toNat (l_ref51_order_b1 p0 p1 i0 v0_1 ((Int.toNat ((List.length v0_1) : Int)) + 1) ((List.length v0_1) : Int))) v0_1) ++ [(i0 : Int)])).symm (intRowsSnoc (List.take (Int.toNat (l_ref51_order_b1 p0 p1 i0 v0_1 ((Int.toNat ((List.length v0_1) : Int)) + 1) ((List.length v0_1) : Int))) v0_1) (i0 : Int)) (intRowsSize (List.take (Int.toNat (l_ref51_order_b1 p0 p1 i0 v0_1 ((Int.toNat ((List.length v0_1) : Int)) + 1) ((List.length v0_1) : Int))) v0_1)) rfl (by have g0 := pl_ref51_order_b1 p0 p1 i0 v0_1 ((Int.toNat ((List.length v0_1) : Int)) + 1) ((List.length v0_1) : Int) (by omega) (by omega) (by omega) (by omega); try simp only [List.length_take]; omega)), hS 0 true (intRowsView ((List.take (Int.toNat (l_ref51_order_b1 p0 p1 i0 v0_1 ((Int.toNat ((List.length v0_1) : Int)) + 1) ((List.length v0_1) : Int))) v0_1) ++ [(i0 : Int)]) 1 rfl), hP 4 (dropm_ok 0 1 (List.length v0_1) (l_ref51_order_b1 p0 p1 i0 v0_1 ((Int.toNat ((List.length v0_1) : Int)) + 1) ((List.length v0_1) : Int)) (by have g0 := pl_ref51_order_b1 p0 p1 i0 v0_1 ((Int.toNat ((List.length v0_1) : Int)) + 1) ((List.length v0_1) : Int) (by omega) (by omega) (by omega) (by omega); omega) (by have g0 := pl_ref51_order_b1 p0 p1 i0 v0_1 ((Int.toNat ((List.length v0_1) : Int)) + 1) ((List.length v0_1) : Int) (by omega) (by omega) (by omega) (by omega); omega)), hV 0 [(1857, intRows (((List.take (Int.toNat (l_ref51_order_b1 p0 p1 i0 v0_1 ((Int.toNat ((List.length v0_1) : Int)) + 1) ((List.length v0_1) : Int))) v0_1) ++ [(i0 : Int)]) ++ (List.take ((List.length v0_1) - (Int.toNat (l_ref51_order_b1 p0 p1 i0 v0_1 ((Int.toNat ((List.length v0_1) : Int)) + 1) ((List.length v0_1) : Int)))) (List.drop (Int.toNat (l_ref51_order_b1 p0 p1 i0 v0_1 ((Int.toNat ((List.length v0_1) : Int)) + 1) ((List.length v0_1) : Int))) v0_1))))] (aplm_ok 1473 0 1857 1 8 0 ((intRows ((List.take (Int.toNat (l_ref51_order_b1 p0 p1 i0 v0_1 ((Int.toNat ((List.length v0_1) : Int)) + 1) ((List.length v0_1) : Int))) v0_1) ++ [(i0 : Int)])).flatten) (intRows ((List.take (Int.toNat (l_ref51_order_b1 p0 p1 i0 v0_1 ((Int.toNat ((List.length v0_1) : Int)) + 1) ((List.length v0_1) : Int))) v0_1) ++ [(i0 : Int)])) 0 true (intRows v0_1) (intRows (((List.take (Int.toNat (l_ref51_order_b1 p0 p1 i0 v0_1 ((Int.toNat ((List.length v0_1) : Int)) + 1) ((List.length v0_1) : Int))) v0_1) ++ [(i0 : Int)]) ++ (List.take ((List.length v0_1) - (Int.toNat (l_ref51_order_b1 p0 p1 i0 v0_1 ((Int.toNat ((List.length v0_1) : Int)) + 1) ((List.length v0_1) : Int)))) (List.drop (Int.toNat (l_ref51_order_b1 p0 p1 i0 v0_1 ((Int.toNat ((List.length v0_1) : Int)) + 1) ((List.length v0_1) : Int))) v0_1)))) (List.length ((List.take (Int.toNat (l_ref51_order_b1 p0 p1 i0 v0_1 ((Int.toNat ((List.length v0_1) : Int)) + 1) ((List.length v0_1) : Int))) v0_1) ++ [(i0 : Int)])) (Int.toNat (l_ref51_order_b1 p0 p1 i0 v0_1 ((Int.toNat ((List.length v0_1) : Int)) + 1) ((List.length v0_1) : Int))) ((List.length v0_1) - (Int.toNat (l_ref51_order_b1 p0 p1 i0 v0_1 ((Int.toNat ((List.length v0_1) : Int)) + 1) ((List.length v0_1) : Int)))) (List.length (((List.take (Int.toNat (l_ref51_order_b1 p0 p1 i0 v0_1 ((Int.toNat ((List.length v0_1) : Int)) + 1) ((List.length v0_1) : Int))) v0_1) ++ [(i0 : Int)]) ++ (List.take ((List.length v0_1) - (Int.toNat (l_ref51_order_b1 p0 p1 i0 v0_1 ((Int.toNat ((List.length v0_1) : Int)) + 1) ((List.length v0_1) : Int)))) (List.drop (Int.toNat (l_ref51_order_b1 p0 p1 i0 v0_1 ((Int.toNat ((List.length v0_1) : Int)) + 1) ((List.length v0_1) : Int))) v0_1)))) rfl rfl (intRowsLen ((List.take (Int.toNat (l_ref51_order_b1 p0 p1 i0 v0_1 ((Int.toNat ((List.length v0_1) : Int)) + 1) ((List.length v0_1) : Int))) v0_1) ++ [(i0 : Int)])).symm (intRowsLen (((List.take (Int.toNat (l_ref51_order_b1 p0 p1 i0 v0_1 ((Int.toNat ((List.length v0_1) : Int)) + 1) ((List.length v0_1) : Int))) v0_1) ++ [(i0 : Int)]) ++ (List.take ((List.length v0_1) - (Int.toNat (l_ref51_order_b1 p0 p1 i0 v0_1 ((Int.toNat ((List.length v0_1) : Int)) + 1) ((List.length v0_1) : Int)))) (List.drop (Int.toNat (l_ref51_order_b1 p0 p1 i0 v0_1 ((Int.toNat ((List.length v0_1) : Int)) + 1) ((List.length v0_1) : Int))) v0_1)))).symm (by rw [intRowsApp, intRowsTake, intRowsDrop]) (intRowsSize ((List.take (Int.toNat (l_ref51_order_b1 p0 p1 i0 v0_1 ((Int.toNat ((List.length v0_1) : Int)) + 1) ((List.length v0_1) : Int))) v0_1) ++ [(i0 : Int)])) (intRowsSize v0_1) (by rw [intRowsLen]; exact (by have g0 := pl_ref51_order_b1 p0 p1 i0 v0_1 ((Int.toNat ((List.length v0_1) : Int)) + 1) ((List.length v0_1) : Int) (by omega) (by omega) (by omega) (by omega); omega)) (by have g0 := pl_ref51_order_b1 p0 p1 i0 v0_1 ((Int.toNat ((List.length v0_1) : Int)) + 1) ((List.length v0_1) : Int) (by omega) (by omega) (by omega) (by omega); try simp only [List.length_append, List.length_cons, List.length_nil, List.length_take]; omega)), hS 0 true (intRowsView (((List.take (Int.toNat (l_ref51_order_b1 p0 p1 i0 v0_1 ((Int.toNat ((List.length v0_1) : Int)) + 1) ((List.length v0_1) : Int))) v0_1) ++ [(i0 : Int)]) ++ (List.take ((List.length v0_1) - (Int.toNat (l_ref51_order_b1 p0 p1 i0 v0_1 ((Int.toNat ((List.length v0_1) : Int)) + 1) ((List.length v0_1) : Int)))) (List.drop (Int.toNat (l_ref51_order_b1 p0 p1 i0 v0_1 ((Int.toNat ((List.length v0_1) : Int)) + 1) ((List.length v0_1) : Int))) v0_1))) 1 rfl), hP 4 (inc_ok i0 (by omega))] [aV [(0, intRows v0_1)] hl0] (by kernel_rfl) hr
theorem lt_ref51_order_b0 (p0 : List Pod) (p1 : List Int) (H : H_ref51_order_b0 p0 p1) : ∀ (r0 : List Pod) (i0 : Nat) (v0_1 : List Int), List.drop i0 p0 = r0 → List.length v0_1 ≤ i0 → (∀ y ∈ v0_1, 0 ≤ y ∧ y < (i0 : Int)) → P_ref51_order_b0 p0 p1 (E_ref51_order_b0 p0 p1 i0 v0_1) (l_ref51_order_b0 p0 p1 r0 i0 v0_1)
  | [], i0, v0_1, hd, ho0_0, ho0_1 => by
    have hc0 : (decide ((i0 : Int) < ((List.length p0) : Int))) = false := by have := drop_end hd; simp; omega
    rw [l_ref51_order_b0]
    exact x_ref51_order_b0_0 p0 p1 H i0 v0_1 ho0_0 ho0_1 hc0
  | x0 :: r0, i0, v0_1, hd, ho0_0, ho0_1 => by
    obtain ⟨hx0, hi0, hd'⟩ := drop_get hd
    have hB0 := H.1
    have hc0 : (decide ((i0 : Int) < ((List.length p0) : Int))) = true := by simp; omega
    rw [l_ref51_order_b0]
    have hl0 := lt_ref51_order_b1 p0 p1 i0 v0_1 ((H.2.1 i0 v0_1 x0 hx0 ho0_0 ho0_1)) ((Int.toNat ((List.length v0_1) : Int)) + 1) ((List.length v0_1) : Int) (by omega) (by omega) (by omega) (by omega)
    obtain ⟨z0, zo0, hl0⟩ := hl0
    cases h0 : ((Int.toNat (l_ref51_order_b1 p0 p1 i0 v0_1 ((Int.toNat ((List.length v0_1) : Int)) + 1) ((List.length v0_1) : Int))) == 0) with
    | true =>
     exact P_ref51_order_b0_mono p0 p1 (fun r hr => n_ref51_order_b0_1 p0 p1 H x0 i0 v0_1 hx0 hi0 ho0_0 ho0_1 hc0 z0 zo0 hl0 h0 hr) _ (lt_ref51_order_b0 p0 p1 H r0 (i0 + 1) (([(i0 : Int)]) ++ (List.take ((List.length v0_1) - (Int.toNat (l_ref51_order_b1 p0 p1 i0 v0_1 ((Int.toNat ((List.length v0_1) : Int)) + 1) ((List.length v0_1) : Int)))) (List.drop (Int.toNat (l_ref51_order_b1 p0 p1 i0 v0_1 ((Int.toNat ((List.length v0_1) : Int)) + 1) ((List.length v0_1) : Int))) v0_1))) hd' (by first | omega | (simp; omega)) ((H.2.2.1 i0 v0_1 x0 hx0 ho0_0 ho0_1) h0))
    | false =>
     exact P_ref51_order_b0_mono p0 p1 (fun r hr => n_ref51_order_b0_2 p0 p1 H x0 i0 v0_1 hx0 hi0 ho0_0 ho0_1 hc0 z0 zo0 hl0 h0 hr) _ (lt_ref51_order_b0 p0 p1 H r0 (i0 + 1) (((List.take (Int.toNat (l_ref51_order_b1 p0 p1 i0 v0_1 ((Int.toNat ((List.length v0_1) : Int)) + 1) ((List.length v0_1) : Int))) v0_1) ++ [(i0 : Int)]) ++ (List.take ((List.length v0_1) - (Int.toNat (l_ref51_order_b1 p0 p1 i0 v0_1 ((Int.toNat ((List.length v0_1) : Int)) + 1) ((List.length v0_1) : Int)))) (List.drop (Int.toNat (l_ref51_order_b1 p0 p1 i0 v0_1 ((Int.toNat ((List.length v0_1) : Int)) + 1) ((List.length v0_1) : Int))) v0_1))) hd' (by first | omega | (simp; omega)) ((H.2.2.2.1 i0 v0_1 x0 hx0 ho0_0 ho0_1) h0))
/-- orchestrator/ orchestratorref51.order -/
def s_ref51_order (p0 : List Pod) (p1 : List Int) : List Int :=
  (l_ref51_order_b0 p0 p1 p0 0 [])
def c_ref51_order (p0 : List Pod) (p1 : List Int) : En := .call 23 [.sl (Pod.rows p0), .sl (intRows p1)] []
def a_ref51_order (p0 : List Pod) (p1 : List Int) : Rs := .ret (.sl (intRows (s_ref51_order p0 p1))) []
def H_ref51_order (p0 : List Pod) (p1 : List Int) : Prop := (H_ref51_order_b0 p0 p1) ∧ ((∀ y ∈ [], 0 ≤ y ∧ y < (0 : Int))) ∧ True
theorem t_ref51_order (p0 : List Pod) (p1 : List Int) (H : H_ref51_order p0 p1) : Tells G (c_ref51_order p0 p1) (a_ref51_order p0 p1) := by
  unfold a_ref51_order s_ref51_order
  have hl0 := lt_ref51_order_b0 p0 p1 (H.1) p0 0 [] (by simp) (by simp) (H.2.1)
  obtain ⟨z0, zo0, hl0⟩ := hl0
  exact tells_VI (fn := Ir.ref51_order) rfl VOK.nil [hS 0 true (intRowsView (l_ref51_order_b0 p0 p1 p0 0 []) 1 rfl), hQ (intRowsLen (l_ref51_order_b0 p0 p1 p0 0 [])).symm] [aV [(0, intRows (l_ref51_order_b0 p0 p1 p0 0 []))] hl0] (by kernel_rfl)

def l_ref51_Rank_b0 (p0 : List Pod) (p1 : List Int) : List Int → Nat → (List ByteArray) → List ByteArray
  | [], _i0, v0_1 =>
    v0_1
  | x0 :: r0, i0, v0_1 =>
    l_ref51_Rank_b0 p0 p1 r0 (i0 + 1) (v0_1 ++ [(s_ref13_KeyOf (List.getD p0 (Int.toNat x0) (Pod.mk (Meta.mk (⟨#[]⟩ : ByteArray) (⟨#[]⟩ : ByteArray) (⟨#[]⟩ : ByteArray) 0 0 0 0 false 0 [] [] [] []) (PodSpec.mk (⟨#[]⟩ : ByteArray) 0 0 0 [] [] [] [] [] []) (PodStatus.mk 0 false 0 0 0 [] 0 (⟨#[]⟩ : ByteArray) (⟨#[]⟩ : ByteArray)))).meta_)])
theorem m_ref51_Rank_b0 (p0 : List Pod) (p1 : List Int) : ∀ (l : List Int) (i : Nat) (a : List ByteArray), l_ref51_Rank_b0 p0 p1 l i a = a ++ l.map (fun x0 => (s_ref13_KeyOf (List.getD p0 (Int.toNat x0) (Pod.mk (Meta.mk (⟨#[]⟩ : ByteArray) (⟨#[]⟩ : ByteArray) (⟨#[]⟩ : ByteArray) 0 0 0 0 false 0 [] [] [] []) (PodSpec.mk (⟨#[]⟩ : ByteArray) 0 0 0 [] [] [] [] [] []) (PodStatus.mk 0 false 0 0 0 [] 0 (⟨#[]⟩ : ByteArray) (⟨#[]⟩ : ByteArray)))).meta_))
  | [], _, _ => by simp [l_ref51_Rank_b0]
  | x :: r, i, a => by rw [l_ref51_Rank_b0, m_ref51_Rank_b0 p0 p1 r]; simp
def HE_ref51_Rank_b0 (p0 : List Pod) (p1 : List Int) (i0 : Nat) (v0_1 : List ByteArray) : List PV :=
  [.sl (Pod.rows p0), .un, .un, .un, .un, .sl (intRows (s_ref51_order p0 p1)), .ms 0 1 0 (List.length v0_1), .int .i64 (i0 : Int), .un, .un, .un, .un, .un, .un, .un, .un, .un, .un, .un, .un, .un, .un, .un, .un, .un, .un, .un, .un, .un, .un]
def HO_ref51_Rank_b0 (_p0 : List Pod) (_p1 : List Int) (_i0 : Nat) (v0_1 : List ByteArray) : List Ob :=
  [⟨1, 0, true, (strRows v0_1).flatten⟩]
def E_ref51_Rank_b0 (p0 : List Pod) (p1 : List Int) (i0 : Nat) (v0_1 : List ByteArray) : En := .loop 0 Ir.ref51_Rank_b0_live Ir.ref51_Rank_b0 (HE_ref51_Rank_b0 p0 p1 i0 v0_1) (HO_ref51_Rank_b0 p0 p1 i0 v0_1)
def S_ref51_Rank_b0_0 (_p0 : List Pod) (_p1 : List Int) (q0 : List ByteArray) (z : Nat → PV) (_zo : Nat → List PV) : St :=
  ⟨[z 0, z 1, z 2, z 3, z 4, z 5, .ms 0 1 0 (List.length q0), z 7, z 8, z 9, z 10, z 11, z 12, z 13, z 14, z 15, z 16, z 17, z 18, z 19, z 20, z 21, z 22, z 23, z 24, z 25, z 26, z 27, z 28, z 29], [(0, ⟨1, 0, true, (strRows q0).flatten⟩)], 257⟩
theorem V_ref51_Rank_b0 (p0 : List Pod) (p1 : List Int) (i0 : Nat) (v0_1 : List ByteArray) : VOK (Go.Pv.look (number 0 (HO_ref51_Rank_b0 p0 p1 i0 v0_1))) [(0, strRows v0_1)] := (VOK.cons (show Seen _ _ from seenV (ob := ⟨1, 0, true, (strRows v0_1).flatten⟩) (strRowsView v0_1 1 rfl)) VOK.nil)
def P_ref51_Rank_b0 (p0 : List Pod) (p1 : List Int) (e : En) (q : List ByteArray) : Prop := ∃ z zo, Tells G e (.st (.exit 0) (S_ref51_Rank_b0_0 p0 p1 q z zo))
theorem P_ref51_Rank_b0_mono (p0 : List Pod) (p1 : List Int) {e e' : En} (h : ∀ r, Tells G e r → Tells G e' r) : ∀ q, P_ref51_Rank_b0 p0 p1 e q → P_ref51_Rank_b0 p0 p1 e' q
  | _, ⟨z, zo, hz⟩ => ⟨z, zo, h _ hz⟩
def H_ref51_Rank_b0 (p0 : List Pod) (p1 : List Int) : Prop := (List.length (s_ref51_order p0 p1) ≤ 137438953472) ∧ (∀ x0 ∈ (s_ref51_order p0 p1), 0 ≤ x0) ∧ (∀ x0 ∈ (s_ref51_order p0 p1), Int.toNat x0 < List.length p0) ∧ (∀ x0 ∈ (s_ref51_order p0 p1), H_ref13_KeyOf (List.getD p0 (Int.toNat x0) (Pod.mk (Meta.mk (⟨#[]⟩ : ByteArray) (⟨#[]⟩ : ByteArray) (⟨#[]⟩ : ByteArray) 0 0 0 0 false 0 [] [] [] []) (PodSpec.mk (⟨#[]⟩ : ByteArray) 0 0 0 [] [] [] [] [] []) (PodStatus.mk 0 false 0 0 0 [] 0 (⟨#[]⟩ : ByteArray) (⟨#[]⟩ : ByteArray)))).meta_) ∧ True
def Z_ref51_Rank_b0_0 (p0 : List Pod) (p1 : List Int) (i0 : Nat) (_v0_1 : List ByteArray) : List PV :=
  [.sl (Pod.rows p0), .un, .un, .un, .un, .sl (intRows (s_ref51_order p0 p1)), .un, .int .i64 (i0 : Int), .un, .un, .un, .int .i64 (i0 : Int), .sl (intRows (s_ref51_order p0 p1)), .int .i64 ((List.length (s_ref51_order p0 p1)) : Int), .bool false]
def ZO_ref51_Rank_b0_0 (_p0 : List Pod) (_p1 : List Int) (_i0 : Nat) (_v0_1 : List ByteArray) : List (Nat × List PV) :=
  []
theorem x_ref51_Rank_b0_0 (p0 : List Pod) (p1 : List Int) (_H : H_ref51_Rank_b0 p0 p1) (i0 : Nat) (v0_1 : List ByteArray) (_ho0_0 : List.length v0_1 ≤ i0) (hc0 : (decide ((i0 : Int) < ((List.length (s_ref51_order p0 p1)) : Int))) = false) : P_ref51_Rank_b0 p0 p1 (E_ref51_Rank_b0 p0 p1 i0 v0_1) v0_1 := by
  exact ⟨(envF (Z_ref51_Rank_b0_0 p0 p1 i0 v0_1)), (zoF (ZO_ref51_Rank_b0_0 p0 p1 i0 v0_1)), tells_outVI (V_ref51_Rank_b0 p0 p1 i0 v0_1) (x := ((.exit 0), S_ref51_Rank_b0_0 p0 p1 v0_1 (envF (Z_ref51_Rank_b0_0 p0 p1 i0 v0_1)) (zoF (ZO_ref51_Rank_b0_0 p0 p1 i0 v0_1)))) [hP 2 (len_ok (intRows (s_ref51_order p0 p1)) (List.length (s_ref51_order p0 p1)) (intRowsLen (s_ref51_order p0 p1))), hB 0 hc0] [] (by kernel_rfl)⟩
theorem n_ref51_Rank_b0_1 (p0 : List Pod) (p1 : List Int) (H : H_ref51_Rank_b0 p0 p1) (x0 : Int) (i0 : Nat) (v0_1 : List ByteArray) (hx0 : (s_ref51_order p0 p1)[i0]? = some x0) (hi0 : i0 < List.length (s_ref51_order p0 p1)) (ho0_0 : List.length v0_1 ≤ i0) (hc0 : (decide ((i0 : Int) < ((List.length (s_ref51_order p0 p1)) : Int))) = true) {r : Rs} (hr : Tells G (E_ref51_Rank_b0 p0 p1 (i0 + 1) (v0_1 ++ [(s_ref13_KeyOf (List.getD p0 (Int.toNat x0) (Pod.mk (Meta.mk (⟨#[]⟩ : ByteArray) (⟨#[]⟩ : ByteArray) (⟨#[]⟩ : ByteArray) 0 0 0 0 false 0 [] [] [] []) (PodSpec.mk (⟨#[]⟩ : ByteArray) 0 0 0 [] [] [] [] [] []) (PodStatus.mk 0 false 0 0 0 [] 0 (⟨#[]⟩ : ByteArray) (⟨#[]⟩ : ByteArray)))).meta_)])) r) : Tells G (E_ref51_Rank_b0 p0 p1 i0 v0_1) r := by
  have hB0 := H.1
  exact tells_nextVI (V_ref51_Rank_b0 p0 p1 i0 v0_1) (y := (HE_ref51_Rank_b0 p0 p1 (i0 + 1) (v0_1 ++ [(s_ref13_KeyOf (List.getD p0 (Int.toNat x0) (Pod.mk (Meta.mk (⟨#[]⟩ : ByteArray) (⟨#[]⟩ : ByteArray) (⟨#[]⟩ : ByteArray) 0 0 0 0 false 0 [] [] [] []) (PodSpec.mk (⟨#[]⟩ : ByteArray) 0 0 0 [] [] [] [] [] []) (PodStatus.mk 0 false 0 0 0 [] 0 (⟨#[]⟩ : ByteArray) (⟨#[]⟩ : ByteArray)))).meta_)]), HO_ref51_Rank_b0 p0 p1 (i0 + 1) (v0_1 ++ [(s_ref13_KeyOf (List.getD p0 (Int.toNat x0) (Pod.mk (Meta.mk (⟨#[]⟩ : ByteArray) (⟨#[]⟩ : ByteArray) (⟨#[]⟩ : ByteArray) 0 0 0 0 false 0 [] [] [] []) (PodSpec.mk (⟨#[]⟩ : ByteArray) 0 0 0 [] [] [] [] [] []) (PodStatus.mk 0 false 0 0 0 [] 0 (⟨#[]⟩ : ByteArray) (⟨#[]⟩ : ByteArray)))).meta_)]))) [hP 2 (len_ok (intRows (s_ref51_order p0 p1)) (List.length (s_ref51_order p0 p1)) (intRowsLen (s_ref51_order p0 p1))), hB 0 hc0, hP 4 (ix_ok 1 (intRows (s_ref51_order p0 p1)) i0 _ (intRowsGet hx0) rfl), hP 1 (ixI_ok 32 (Pod.rows p0) x0 _ ((H.2.1 x0 (mem_get hx0))) (Pod.rowsGet (getD_ok p0 (Int.toNat x0) (Pod.mk (Meta.mk (⟨#[]⟩ : ByteArray) (⟨#[]⟩ : ByteArray) (⟨#[]⟩ : ByteArray) 0 0 0 0 false 0 [] [] [] []) (PodSpec.mk (⟨#[]⟩ : ByteArray) 0 0 0 [] [] [] [] [] []) (PodStatus.mk 0 false 0 0 0 [] 0 (⟨#[]⟩ : ByteArray) (⟨#[]⟩ : ByteArray))) ((H.2.2.1 x0 (mem_get hx0))))) rfl), hV 4 [(961, strRows (v0_1 ++ [(s_ref13_KeyOf (List.getD p0 (Int.toNat x0) (Pod.mk (Meta.mk (⟨#[]⟩ : ByteArray) (⟨#[]⟩ : ByteArray) (⟨#[]⟩ : ByteArray) 0 0 0 0 false 0 [] [] [] []) (PodSpec.mk (⟨#[]⟩ : ByteArray) 0 0 0 [] [] [] [] [] []) (PodStatus.mk 0 false 0 0 0 [] 0 (⟨#[]⟩ : ByteArray) (⟨#[]⟩ : ByteArray)))).meta_)]))] (ap_ok 0 897 961 1 16 0 0 true (strRows v0_1) (strRows (v0_1 ++ [(s_ref13_KeyOf (List.getD p0 (Int.toNat x0) (Pod.mk (Meta.mk (⟨#[]⟩ : ByteArray) (⟨#[]⟩ : ByteArray) (⟨#[]⟩ : ByteArray) 0 0 0 0 false 0 [] [] [] []) (PodSpec.mk (⟨#[]⟩ : ByteArray) 0 0 0 [] [] [] [] [] []) (PodStatus.mk 0 false 0 0 0 [] 0 (⟨#[]⟩ : ByteArray) (⟨#[]⟩ : ByteArray)))).meta_)])) [.str (s_ref13_KeyOf (List.getD p0 (Int.toNat x0) (Pod.mk (Meta.mk (⟨#[]⟩ : ByteArray) (⟨#[]⟩ : ByteArray) (⟨#[]⟩ : ByteArray) 0 0 0 0 false 0 [] [] [] []) (PodSpec.mk (⟨#[]⟩ : ByteArray) 0 0 0 [] [] [] [] [] []) (PodStatus.mk 0 false 0 0 0 [] 0 (⟨#[]⟩ : ByteArray) (⟨#[]⟩ : ByteArray)))).meta_)] (List.length v0_1) (List.length (v0_1 ++ [(s_ref13_KeyOf (List.getD p0 (Int.toNat x0) (Pod.mk (Meta.mk (⟨#[]⟩ : ByteArray) (⟨#[]⟩ : ByteArray) (⟨#[]⟩ : ByteArray) 0 0 0 0 false 0 [] [] [] []) (PodSpec.mk (⟨#[]⟩ : ByteArray) 0 0 0 [] [] [] [] [] []) (PodStatus.mk 0 false 0 0 0 [] 0 (⟨#[]⟩ : ByteArray) (⟨#[]⟩ : ByteArray)))).meta_)])) rfl (strRowsLen v0_1).symm (strRowsLen (v0_1 ++ [(s_ref13_KeyOf (List.getD p0 (Int.toNat x0) (Pod.mk (Meta.mk (⟨#[]⟩ : ByteArray) (⟨#[]⟩ : ByteArray) (⟨#[]⟩ : ByteArray) 0 0 0 0 false 0 [] [] [] []) (PodSpec.mk (⟨#[]⟩ : ByteArray) 0 0 0 [] [] [] [] [] []) (PodStatus.mk 0 false 0 0 0 [] 0 (⟨#[]⟩ : ByteArray) (⟨#[]⟩ : ByteArray)))).meta_)])).symm (strRowsSnoc v0_1 (s_ref13_KeyOf (List.getD p0 (Int.toNat x0) (Pod.mk (Meta.mk (⟨#[]⟩ : ByteArray) (⟨#[]⟩ : ByteArray) (⟨#[]⟩ : ByteArray) 0 0 0 0 false 0 [] [] [] []) (PodSpec.mk (⟨#[]⟩ : ByteArray) 0 0 0 [] [] [] [] [] []) (PodStatus.mk 0 false 0 0 0 [] 0 (⟨#[]⟩ : ByteArray) (⟨#[]⟩ : ByteArray)))).meta_)) (strRowsSize v0_1) rfl (by omega)), hS 0 true (strRowsView (v0_1 ++ [(s_ref13_KeyOf (List.getD p0 (Int.toNat x0) (Pod.mk (Meta.mk (⟨#[]⟩ : ByteArray) (⟨#[]⟩ : ByteArray) (⟨#[]⟩ : ByteArray) 0 0 0 0 false 0 [] [] [] []) (PodSpec.mk (⟨#[]⟩ : ByteArray) 0 0 0 [] [] [] [] [] []) (PodStatus.mk 0 false 0 0 0 [] 0 (⟨#[]⟩ : ByteArray) (⟨#[]⟩ : ByteArray)))).meta_)]) 1 rfl), hP 2 (inc_ok i0 (by omega))] [aN (t_ref13_KeyOf (List.getD p0 (Int.toNat x0) (Pod.mk (Meta.mk (⟨#[]⟩ : ByteArray) (⟨#[]⟩ : ByteArray) (⟨#[]⟩ : ByteArray) 0 0 0 0 false 0 [] [] [] []) (PodSpec.mk (⟨#[]⟩ : ByteArray) 0 0 0 [] [] [] [] [] []) (PodStatus.mk 0 false 0 0 0 [] 0 (⟨#[]⟩ : ByteArray) (⟨#[]⟩ : ByteArray)))).meta_ ((H.2.2.2.1 x0 (mem_get hx0))))] (by kernel_rfl) hr
theorem lt_ref51_Rank_b0 (p0 : List Pod) (p1 : List Int) (H : H_ref51_Rank_b0 p0 p1) : ∀ (r0 : List Int) (i0 : Nat) (v0_1 : List ByteArray), List.drop i0 (s_ref51_order p0 p1) = r0 → List.length v0_1 ≤ i0 → P_ref51_Rank_b0 p0 p1 (E_ref51_Rank_b0 p0 p1 i0 v0_1) (l_ref51_Rank_b0 p0 p1 r0 i0 v0_1)
  | [], i0, v0_1, hd, ho0_0 => by
    have hc0 : (decide ((i0 : Int) < ((List.length (s_ref51_order p0 p1)) : Int))) = false := by have := drop_end hd; simp; omega
    rw [l_ref51_Rank_b0]
    exact x_ref51_Rank_b0_0 p0 p1 H i0 v0_1 ho0_0 hc0
  | x0 :: r0, i0, v0_1, hd, ho0_0 => by
    obtain ⟨hx0, hi0, hd'⟩ := drop_get hd
    have hc0 : (decide ((i0 : Int) < ((List.length (s_ref51_order p0 p1)) : Int))) = true := by simp; omega
    rw [l_ref51_Rank_b0]
    exact P_ref51_Rank_b0_mono p0 p1 (fun r hr => n_ref51_Rank_b0_1 p0 p1 H x0 i0 v0_1 hx0 hi0 ho0_0 hc0 hr) _ (lt_ref51_Rank_b0 p0 p1 H r0 (i0 + 1) (v0_1 ++ [(s_ref13_KeyOf (List.getD p0 (Int.toNat x0) (Pod.mk (Meta.mk (⟨#[]⟩ : ByteArray) (⟨#[]⟩ : ByteArray) (⟨#[]⟩ : ByteArray) 0 0 0 0 false 0 [] [] [] []) (PodSpec.mk (⟨#[]⟩ : ByteArray) 0 0 0 [] [] [] [] [] []) (PodStatus.mk 0 false 0 0 0 [] 0 (⟨#[]⟩ : ByteArray) (⟨#[]⟩ : ByteArray)))).meta_)]) hd' (by first | omega | (simp; omega)))
/-- orchestrator/ orchestratorref51.Rank -/
def s_ref51_Rank (p0 : List Pod) (p1 : List Int) : List ByteArray :=
  (l_ref51_Rank_b0 p0 p1 (s_ref51_order p0 p1) 0 [])
def c_ref51_Rank (p0 : List Pod) (p1 : List Int) : En := .call 12 [.sl (Pod.rows p0), .sl (intRows p1)] []
def a_ref51_Rank (p0 : List Pod) (p1 : List Int) : Rs := .ret (.sl (strRows (s_ref51_Rank p0 p1))) []
def H_ref51_Rank (p0 : List Pod) (p1 : List Int) : Prop := (H_ref51_order p0 p1) ∧ (H_ref51_Rank_b0 p0 p1) ∧ True
theorem t_ref51_Rank (p0 : List Pod) (p1 : List Int) (H : H_ref51_Rank p0 p1) : Tells G (c_ref51_Rank p0 p1) (a_ref51_Rank p0 p1) := by
  unfold a_ref51_Rank s_ref51_Rank
  have hl0 := lt_ref51_Rank_b0 p0 p1 (H.2.1) (s_ref51_order p0 p1) 0 [] (by simp) (by simp)
  obtain ⟨z0, zo0, hl0⟩ := hl0
  exact tells_VI (fn := Ir.ref51_Rank) rfl VOK.nil [hS 0 true (strRowsView (l_ref51_Rank_b0 p0 p1 (s_ref51_order p0 p1) 0 []) 1 rfl), hQ (strRowsLen (l_ref51_Rank_b0 p0 p1 (s_ref51_order p0 p1) 0 [])).symm] [aN (t_ref51_order p0 p1 (H.1)), aV [(0, strRows (l_ref51_Rank_b0 p0 p1 (s_ref51_order p0 p1) 0 []))] hl0] (by kernel_rfl)

def l_ref51_Relieve_b0 (p0 : List Pod) (p1 : List Int) (p3 : Int) : List Int → Nat → (List ByteArray) → Int → List ByteArray
  | [], _i0, v0_1, _v0_2 =>
    v0_1
  | x0 :: r0, i0, v0_1, v0_2 =>
    bif (decide ((s_ref51_limit p3) < v0_2)) then
      l_ref51_Relieve_b0 p0 p1 p3 r0 (i0 + 1) (v0_1 ++ [(s_ref13_KeyOf (List.getD p0 (Int.toNat x0) (Pod.mk (Meta.mk (⟨#[]⟩ : ByteArray) (⟨#[]⟩ : ByteArray) (⟨#[]⟩ : ByteArray) 0 0 0 0 false 0 [] [] [] []) (PodSpec.mk (⟨#[]⟩ : ByteArray) 0 0 0 [] [] [] [] [] []) (PodStatus.mk 0 false 0 0 0 [] 0 (⟨#[]⟩ : ByteArray) (⟨#[]⟩ : ByteArray)))).meta_)]) (w64 (v0_2 - (s_ref51_usage p1 x0)))
    else
      v0_1
def HE_ref51_Relieve_b0 (p0 : List Pod) (p1 : List Int) (p3 : Int) (i0 : Nat) (v0_1 : List ByteArray) (v0_2 : Int) : List PV :=
  [.sl (Pod.rows p0), .sl (intRows p1), .un, .int .i64 p3, .un, .un, .un, .un, .un, .sl (intRows (s_ref51_order p0 p1)), .int .i64 v0_2, .ms 0 1 0 (List.length v0_1), .int .i64 (i0 : Int), .un, .un, .un, .un, .un, .un, .un, .un, .un, .un, .un, .un, .un, .un, .un, .un, .un, .un, .un, .un, .un, .un, .un, .un, .un, .un, .un, .un, .un, .un, .un, .un, .un, .un, .un, .un, .un, .un]
def HO_ref51_Relieve_b0 (_p0 : List Pod) (_p1 : List Int) (_p3 : Int) (_i0 : Nat) (v0_1 : List ByteArray) (_v0_2 : Int) : List Ob :=
  [⟨1, 0, true, (strRows v0_1).flatten⟩]
def E_ref51_Relieve_b0 (p0 : List Pod) (p1 : List Int) (p3 : Int) (i0 : Nat) (v0_1 : List ByteArray) (v0_2 : Int) : En := .loop 0 Ir.ref51_Relieve_b0_live Ir.ref51_Relieve_b0 (HE_ref51_Relieve_b0 p0 p1 p3 i0 v0_1 v0_2) (HO_ref51_Relieve_b0 p0 p1 p3 i0 v0_1 v0_2)
def S_ref51_Relieve_b0_0 (_p0 : List Pod) (_p1 : List Int) (_p3 : Int) (q0 : List ByteArray) (z : Nat → PV) (_zo : Nat → List PV) : St :=
  ⟨[z 0, z 1, z 2, z 3, z 4, z 5, z 6, z 7, z 8, z 9, z 10, .ms 0 1 0 (List.length q0), z 12, z 13, z 14, z 15, z 16, z 17, z 18, z 19, z 20, z 21, z 22, z 23, z 24, z 25, z 26, z 27, z 28, z 29, z 30, z 31, z 32, z 33, z 34, z 35, z 36, z 37, z 38, z 39, z 40, z 41, z 42, z 43, z 44, z 45, z 46, z 47, z 48, z 49, z 50], [(0, ⟨1, 0, true, (strRows q0).flatten⟩)], 641⟩
theorem V_ref51_Relieve_b0 (p0 : List Pod) (p1 : List Int) (p3 : Int) (i0 : Nat) (v0_1 : List ByteArray) (v0_2 : Int) : VOK (Go.Pv.look (number 0 (HO_ref51_Relieve_b0 p0 p1 p3 i0 v0_1 v0_2))) [(0, strRows v0_1)] := (VOK.cons (show Seen _ _ from seenV (ob := ⟨1, 0, true, (strRows v0_1).flatten⟩) (strRowsView v0_1 1 rfl)) VOK.nil)
def P_ref51_Relieve_b0 (p0 : List Pod) (p1 : List Int) (p3 : Int) (e : En) (q : List ByteArray) : Prop := ∃ z zo, Tells G e (.st (.exit 0) (S_ref51_Relieve_b0_0 p0 p1 p3 q z zo))
theorem P_ref51_Relieve_b0_mono (p0 : List Pod) (p1 : List Int) (p3 : Int) {e e' : En} (h : ∀ r, Tells G e r → Tells G e' r) : ∀ q, P_ref51_Relieve_b0 p0 p1 p3 e q → P_ref51_Relieve_b0 p0 p1 p3 e' q
  | _, ⟨z, zo, hz⟩ => ⟨z, zo, h _ hz⟩
def H_ref51_Relieve_b0 (p0 : List Pod) (p1 : List Int) (_p3 : Int) : Prop := (List.length (s_ref51_order p0 p1) ≤ 137438953472) ∧ (∀ x0 ∈ (s_ref51_order p0 p1), 0 ≤ x0) ∧ (∀ x0 ∈ (s_ref51_order p0 p1), Int.toNat x0 < List.length p0) ∧ (∀ x0 ∈ (s_ref51_order p0 p1), H_ref13_KeyOf (List.getD p0 (Int.toNat x0) (Pod.mk (Meta.mk (⟨#[]⟩ : ByteArray) (⟨#[]⟩ : ByteArray) (⟨#[]⟩ : ByteArray) 0 0 0 0 false 0 [] [] [] []) (PodSpec.mk (⟨#[]⟩ : ByteArray) 0 0 0 [] [] [] [] [] []) (PodStatus.mk 0 false 0 0 0 [] 0 (⟨#[]⟩ : ByteArray) (⟨#[]⟩ : ByteArray)))).meta_) ∧ (∀ x0 ∈ (s_ref51_order p0 p1), H_ref51_usage p1 x0) ∧ True
def Z_ref51_Relieve_b0_0 (p0 : List Pod) (p1 : List Int) (p3 : Int) (i0 : Nat) (_v0_1 : List ByteArray) (v0_2 : Int) : List PV :=
  [.sl (Pod.rows p0), .sl (intRows p1), .un, .int .i64 p3, .un, .un, .un, .un, .un, .sl (intRows (s_ref51_order p0 p1)), .int .i64 v0_2, .un, .int .i64 (i0 : Int), .un, .un, .un, .un, .un, .int .i64 (i0 : Int), .sl (intRows (s_ref51_order p0 p1)), .int .i64 ((List.length (s_ref51_order p0 p1)) : Int), .bool false, .bool false, .tup [], .tup [], .tup [], .tup [], .bool false]
def ZO_ref51_Relieve_b0_0 (_p0 : List Pod) (_p1 : List Int) (_p3 : Int) (_i0 : Nat) (_v0_1 : List ByteArray) (_v0_2 : Int) : List (Nat × List PV) :=
  []
theorem x_ref51_Relieve_b0_0 (p0 : List Pod) (p1 : List Int) (p3 : Int) (_H : H_ref51_Relieve_b0 p0 p1 p3) (i0 : Nat) (v0_1 : List ByteArray) (v0_2 : Int) (_ho0_0 : List.length v0_1 ≤ i0) (hc0 : (decide ((i0 : Int) < ((List.length (s_ref51_order p0 p1)) : Int))) = false) : P_ref51_Relieve_b0 p0 p1 p3 (E_ref51_Relieve_b0 p0 p1 p3 i0 v0_1 v0_2) v0_1 := by
  exact ⟨(envF (Z_ref51_Relieve_b0_0 p0 p1 p3 i0 v0_1 v0_2)), (zoF (ZO_ref51_Relieve_b0_0 p0 p1 p3 i0 v0_1 v0_2)), tells_outVI (V_ref51_Relieve_b0 p0 p1 p3 i0 v0_1 v0_2) (x := ((.exit 0), S_ref51_Relieve_b0_0 p0 p1 p3 v0_1 (envF (Z_ref51_Relieve_b0_0 p0 p1 p3 i0 v0_1 v0_2)) (zoF (ZO_ref51_Relieve_b0_0 p0 p1 p3 i0 v0_1 v0_2)))) [hP 2 (len_ok (intRows (s_ref51_order p0 p1)) (List.length (s_ref51_order p0 p1)) (intRowsLen (s_ref51_order p0 p1))), hB 0 hc0] [] (by kernel_rfl)⟩
theorem n_ref51_Relieve_b0_1 (p0 : List Pod) (p1 : List Int) (p3 : Int) (H : H_ref51_Relieve_b0 p0 p1 p3) (x0 : Int) (i0 : Nat) (v0_1 : List ByteArray) (v0_2 : Int) (hx0 : (s_ref51_order p0 p1)[i0]? = some x0) (hi0 : i0 < List.length (s_ref51_order p0 p1)) (ho0_0 : List.length v0_1 ≤ i0) (hc0 : (decide ((i0 : Int) < ((List.length (s_ref51_order p0 p1)) : Int))) = true) (h0 : (decide ((s_ref51_limit p3) < v0_2)) = true) {r : Rs} (hr : Tells G (E_ref51_Relieve_b0 p0 p1 p3 (i0 + 1) (v0_1 ++ [(s_ref13_KeyOf (List.getD p0 (Int.toNat x0) (Pod.mk (Meta.mk (⟨#[]⟩ : ByteArray) (⟨#[]⟩ : ByteArray) (⟨#[]⟩ : ByteArray) 0 0 0 0 false 0 [] [] [] []) (PodSpec.mk (⟨#[]⟩ : ByteArray) 0 0 0 [] [] [] [] [] []) (PodStatus.mk 0 false 0 0 0 [] 0 (⟨#[]⟩ : ByteArray) (⟨#[]⟩ : ByteArray)))).meta_)]) (w64 (v0_2 - (s_ref51_usage p1 x0)))) r) : Tells G (E_ref51_Relieve_b0 p0 p1 p3 i0 v0_1 v0_2) r := by
  have hB0 := H.1; have e0 := of_decide_eq_true h0
  exact tells_nextVI (V_ref51_Relieve_b0 p0 p1 p3 i0 v0_1 v0_2) (y := (HE_ref51_Relieve_b0 p0 p1 p3 (i0 + 1) (v0_1 ++ [(s_ref13_KeyOf (List.getD p0 (Int.toNat x0) (Pod.mk (Meta.mk (⟨#[]⟩ : ByteArray) (⟨#[]⟩ : ByteArray) (⟨#[]⟩ : ByteArray) 0 0 0 0 false 0 [] [] [] []) (PodSpec.mk (⟨#[]⟩ : ByteArray) 0 0 0 [] [] [] [] [] []) (PodStatus.mk 0 false 0 0 0 [] 0 (⟨#[]⟩ : ByteArray) (⟨#[]⟩ : ByteArray)))).meta_)]) (w64 (v0_2 - (s_ref51_usage p1 x0))), HO_ref51_Relieve_b0 p0 p1 p3 (i0 + 1) (v0_1 ++ [(s_ref13_KeyOf (List.getD p0 (Int.toNat x0) (Pod.mk (Meta.mk (⟨#[]⟩ : ByteArray) (⟨#[]⟩ : ByteArray) (⟨#[]⟩ : ByteArray) 0 0 0 0 false 0 [] [] [] []) (PodSpec.mk (⟨#[]⟩ : ByteArray) 0 0 0 [] [] [] [] [] []) (PodStatus.mk 0 false 0 0 0 [] 0 (⟨#[]⟩ : ByteArray) (⟨#[]⟩ : ByteArray)))).meta_)]) (w64 (v0_2 - (s_ref51_usage p1 x0))))) [hP 2 (len_ok (intRows (s_ref51_order p0 p1)) (List.length (s_ref51_order p0 p1)) (intRowsLen (s_ref51_order p0 p1))), hB 0 hc0, hB 4 h0, hP 5 (ix_ok 1 (intRows (s_ref51_order p0 p1)) i0 _ (intRowsGet hx0) rfl), hP 1 (ixI_ok 32 (Pod.rows p0) x0 _ ((H.2.1 x0 (mem_get hx0))) (Pod.rowsGet (getD_ok p0 (Int.toNat x0) (Pod.mk (Meta.mk (⟨#[]⟩ : ByteArray) (⟨#[]⟩ : ByteArray) (⟨#[]⟩ : ByteArray) 0 0 0 0 false 0 [] [] [] []) (PodSpec.mk (⟨#[]⟩ : ByteArray) 0 0 0 [] [] [] [] [] []) (PodStatus.mk 0 false 0 0 0 [] 0 (⟨#[]⟩ : ByteArray) (⟨#[]⟩ : ByteArray))) ((H.2.2.1 x0 (mem_get hx0))))) rfl), hV 4 [(1345, strRows (v0_1 ++ [(s_ref13_KeyOf (List.getD p0 (Int.toNat x0) (Pod.mk (Meta.mk (⟨#[]⟩ : ByteArray) (⟨#[]⟩ : ByteArray) (⟨#[]⟩ : ByteArray) 0 0 0 0 false 0 [] [] [] []) (PodSpec.mk (⟨#[]⟩ : ByteArray) 0 0 0 [] [] [] [] [] []) (PodStatus.mk 0 false 0 0 0 [] 0 (⟨#[]⟩ : ByteArray) (⟨#[]⟩ : ByteArray)))).meta_)]))] (ap_ok 0 1281 1345 1 16 0 0 true (strRows v0_1) (strRows (v0_1 ++ [(s_ref13_KeyOf (List.getD p0 (Int.toNat x0) (Pod.mk (Meta.mk (⟨#[]⟩ : ByteArray) (⟨#[]⟩ : ByteArray) (⟨#[]⟩ : ByteArray) 0 0 0 0 false 0 [] [] [] []) (PodSpec.mk (⟨#[]⟩ : ByteArray) 0 0 0 [] [] [] [] [] []) (PodStatus.mk 0 false 0 0 0 [] 0 (⟨#[]⟩ : ByteArray) (⟨#[]⟩ : ByteArray)))).meta_)])) [.str (s_ref13_KeyOf (List.getD p0 (Int.toNat x0) (Pod.mk (Meta.mk (⟨#[]⟩ : ByteArray) (⟨#[]⟩ : ByteArray) (⟨#[]⟩ : ByteArray) 0 0 0 0 false 0 [] [] [] []) (PodSpec.mk (⟨#[]⟩ : ByteArray) 0 0 0 [] [] [] [] [] []) (PodStatus.mk 0 false 0 0 0 [] 0 (⟨#[]⟩ : ByteArray) (⟨#[]⟩ : ByteArray)))).meta_)] (List.length v0_1) (List.length (v0_1 ++ [(s_ref13_KeyOf (List.getD p0 (Int.toNat x0) (Pod.mk (Meta.mk (⟨#[]⟩ : ByteArray) (⟨#[]⟩ : ByteArray) (⟨#[]⟩ : ByteArray) 0 0 0 0 false 0 [] [] [] []) (PodSpec.mk (⟨#[]⟩ : ByteArray) 0 0 0 [] [] [] [] [] []) (PodStatus.mk 0 false 0 0 0 [] 0 (⟨#[]⟩ : ByteArray) (⟨#[]⟩ : ByteArray)))).meta_)])) rfl (strRowsLen v0_1).symm (strRowsLen (v0_1 ++ [(s_ref13_KeyOf (List.getD p0 (Int.toNat x0) (Pod.mk (Meta.mk (⟨#[]⟩ : ByteArray) (⟨#[]⟩ : ByteArray) (⟨#[]⟩ : ByteArray) 0 0 0 0 false 0 [] [] [] []) (PodSpec.mk (⟨#[]⟩ : ByteArray) 0 0 0 [] [] [] [] [] []) (PodStatus.mk 0 false 0 0 0 [] 0 (⟨#[]⟩ : ByteArray) (⟨#[]⟩ : ByteArray)))).meta_)])).symm (strRowsSnoc v0_1 (s_ref13_KeyOf (List.getD p0 (Int.toNat x0) (Pod.mk (Meta.mk (⟨#[]⟩ : ByteArray) (⟨#[]⟩ : ByteArray) (⟨#[]⟩ : ByteArray) 0 0 0 0 false 0 [] [] [] []) (PodSpec.mk (⟨#[]⟩ : ByteArray) 0 0 0 [] [] [] [] [] []) (PodStatus.mk 0 false 0 0 0 [] 0 (⟨#[]⟩ : ByteArray) (⟨#[]⟩ : ByteArray)))).meta_)) (strRowsSize v0_1) rfl (by omega)), hS 0 true (strRowsView (v0_1 ++ [(s_ref13_KeyOf (List.getD p0 (Int.toNat x0) (Pod.mk (Meta.mk (⟨#[]⟩ : ByteArray) (⟨#[]⟩ : ByteArray) (⟨#[]⟩ : ByteArray) 0 0 0 0 false 0 [] [] [] []) (PodSpec.mk (⟨#[]⟩ : ByteArray) 0 0 0 [] [] [] [] [] []) (PodStatus.mk 0 false 0 0 0 [] 0 (⟨#[]⟩ : ByteArray) (⟨#[]⟩ : ByteArray)))).meta_)]) 1 rfl), hP 5 (ix_ok 1 (intRows (s_ref51_order p0 p1)) i0 _ (intRowsGet hx0) rfl), hP 5 (inc_ok i0 (by omega))] [aN (t_ref51_limit p3), aN (t_ref13_KeyOf (List.getD p0 (Int.toNat x0) (Pod.mk (Meta.mk (⟨#[]⟩ : ByteArray) (⟨#[]⟩ : ByteArray) (⟨#[]⟩ : ByteArray) 0 0 0 0 false 0 [] [] [] []) (PodSpec.mk (⟨#[]⟩ : ByteArray) 0 0 0 [] [] [] [] [] []) (PodStatus.mk 0 false 0 0 0 [] 0 (⟨#[]⟩ : ByteArray) (⟨#[]⟩ : ByteArray)))).meta_ ((H.2.2.2.1 x0 (mem_get hx0)))), aN (t_ref51_usage p1 x0 ((H.2.2.2.2.1 x0 (mem_get hx0))))] (by kernel_rfl) hr
def Z_ref51_Relieve_b0_2 (p0 : List Pod) (p1 : List Int) (p3 : Int) (i0 : Nat) (_v0_1 : List ByteArray) (v0_2 : Int) (_x0 : Int) : List PV :=
  [.sl (Pod.rows p0), .sl (intRows p1), .un, .int .i64 p3, .un, .un, .un, .un, .un, .sl (intRows (s_ref51_order p0 p1)), .int .i64 v0_2, .un, .int .i64 (i0 : Int), .un, .un, .un, .un, .un, .int .i64 (i0 : Int), .sl (intRows (s_ref51_order p0 p1)), .int .i64 ((List.length (s_ref51_order p0 p1)) : Int), .bool true, .bool true, .int .i64 v0_2, .int .i64 p3, .int .i64 (s_ref51_limit p3), .bool false, .bool false]
def ZO_ref51_Relieve_b0_2 (_p0 : List Pod) (_p1 : List Int) (_p3 : Int) (_i0 : Nat) (_v0_1 : List ByteArray) (_v0_2 : Int) (_x0 : Int) : List (Nat × List PV) :=
  []
theorem x_ref51_Relieve_b0_2 (p0 : List Pod) (p1 : List Int) (p3 : Int) (_H : H_ref51_Relieve_b0 p0 p1 p3) (x0 : Int) (i0 : Nat) (v0_1 : List ByteArray) (v0_2 : Int) (_hx0 : (s_ref51_order p0 p1)[i0]? = some x0) (_hi0 : i0 < List.length (s_ref51_order p0 p1)) (_ho0_0 : List.length v0_1 ≤ i0) (hc0 : (decide ((i0 : Int) < ((List.length (s_ref51_order p0 p1)) : Int))) = true) (h0 : (decide ((s_ref51_limit p3) < v0_2)) = false) : P_ref51_Relieve_b0 p0 p1 p3 (E_ref51_Relieve_b0 p0 p1 p3 i0 v0_1 v0_2) v0_1 := by
  exact ⟨(envF (Z_ref51_Relieve_b0_2 p0 p1 p3 i0 v0_1 v0_2 x0)), (zoF (ZO_ref51_Relieve_b0_2 p0 p1 p3 i0 v0_1 v0_2 x0)), tells_outVI (V_ref51_Relieve_b0 p0 p1 p3 i0 v0_1 v0_2) (x := ((.exit 0), S_ref51_Relieve_b0_0 p0 p1 p3 v0_1 (envF (Z_ref51_Relieve_b0_2 p0 p1 p3 i0 v0_1 v0_2 x0)) (zoF (ZO_ref51_Relieve_b0_2 p0 p1 p3 i0 v0_1 v0_2 x0)))) [hP 2 (len_ok (intRows (s_ref51_order p0 p1)) (List.length (s_ref51_order p0 p1)) (intRowsLen (s_ref51_order p0 p1))), hB 0 hc0, hB 4 h0] [aN (t_ref51_limit p3)] (by kernel_rfl)⟩
theorem lt_ref51_Relieve_b0 (p0 : List Pod) (p1 : List Int) (p3 : Int) (H : H_ref51_Relieve_b0 p0 p1 p3) : ∀ (r0 : List Int) (i0 : Nat) (v0_1 : List ByteArray) (v0_2 : Int), List.drop i0 (s_ref51_order p0 p1) = r0 → List.length v0_1 ≤ i0 → P_ref51_Relieve_b0 p0 p1 p3 (E_ref51_Relieve_b0 p0 p1 p3 i0 v0_1 v0_2) (l_ref51_Relieve_b0 p0 p1 p3 r0 i0 v0_1 v0_2)
  | [], i0, v0_1, v0_2, hd, ho0_0 => by
    have hc0 : (decide ((i0 : Int) < ((List.length (s_ref51_order p0 p1)) : Int))) = false := by have := drop_end hd; simp; omega
    rw [l_ref51_Relieve_b0]
    exact x_ref51_Relieve_b0_0 p0 p1 p3 H i0 v0_1 v0_2 ho0_0 hc0
  | x0 :: r0, i0, v0_1, v0_2, hd, ho0_0 => by
    obtain ⟨hx0, hi0, hd'⟩ := drop_get hd
    have hc0 : (decide ((i0 : Int) < ((List.length (s_ref51_order p0 p1)) : Int))) = true := by simp; omega
    rw [l_ref51_Relieve_b0]
    cases h0 : (decide ((s_ref51_limit p3) < v0_2)) with
    | true =>
     have e0 := of_decide_eq_true h0
     exact P_ref51_Relieve_b0_mono p0 p1 p3 (fun r hr => n_ref51_Relieve_b0_1 p0 p1 p3 H x0 i0 v0_1 v0_2 hx0 hi0 ho0_0 hc0 h0 hr) _ (lt_ref51_Relieve_b0 p0 p1 p3 H r0 (i0 + 1) (v0_1 ++ [(s_ref13_KeyOf (List.getD p0 (Int.toNat x0) (Pod.mk (Meta.mk (⟨#[]⟩ : ByteArray) (⟨#[]⟩ : ByteArray) (⟨#[]⟩ : ByteArray) 0 0 0 0 false 0 [] [] [] []) (PodSpec.mk (⟨#[]⟩ : ByteArray) 0 0 0 [] [] [] [] [] []) (PodStatus.mk 0 false 0 0 0 [] 0 (⟨#[]⟩ : ByteArray) (⟨#[]⟩ : ByteArray)))).meta_)]) (w64 (v0_2 - (s_ref51_usage p1 x0))) hd' (by first | omega | (simp; omega)))
    | false =>
     exact x_ref51_Relieve_b0_2 p0 p1 p3 H x0 i0 v0_1 v0_2 hx0 hi0 ho0_0 hc0 h0
/-- orchestrator/ orchestratorref51.Relieve -/
def s_ref51_Relieve (p0 : List Pod) (p1 : List Int) (p2 : Int) (p3 : Int) : List ByteArray :=
  (l_ref51_Relieve_b0 p0 p1 p3 (s_ref51_order p0 p1) 0 [] (s_ref51_limit p2))
def c_ref51_Relieve (p0 : List Pod) (p1 : List Int) (p2 : Int) (p3 : Int) : En := .call 14 [.sl (Pod.rows p0), .sl (intRows p1), .int .i64 p2, .int .i64 p3] []
def a_ref51_Relieve (p0 : List Pod) (p1 : List Int) (p2 : Int) (p3 : Int) : Rs := .ret (.sl (strRows (s_ref51_Relieve p0 p1 p2 p3))) []
def H_ref51_Relieve (p0 : List Pod) (p1 : List Int) (_p2 : Int) (p3 : Int) : Prop := (H_ref51_order p0 p1) ∧ (H_ref51_Relieve_b0 p0 p1 p3) ∧ True
theorem t_ref51_Relieve (p0 : List Pod) (p1 : List Int) (p2 : Int) (p3 : Int) (H : H_ref51_Relieve p0 p1 p2 p3) : Tells G (c_ref51_Relieve p0 p1 p2 p3) (a_ref51_Relieve p0 p1 p2 p3) := by
  unfold a_ref51_Relieve s_ref51_Relieve
  have hl0 := lt_ref51_Relieve_b0 p0 p1 p3 (H.2.1) (s_ref51_order p0 p1) 0 [] (s_ref51_limit p2) (by simp) (by simp)
  obtain ⟨z0, zo0, hl0⟩ := hl0
  exact tells_VI (fn := Ir.ref51_Relieve) rfl VOK.nil [hS 0 true (strRowsView (l_ref51_Relieve_b0 p0 p1 p3 (s_ref51_order p0 p1) 0 [] (s_ref51_limit p2)) 1 rfl), hQ (strRowsLen (l_ref51_Relieve_b0 p0 p1 p3 (s_ref51_order p0 p1) 0 [] (s_ref51_limit p2))).symm] [aN (t_ref51_order p0 p1 (H.1)), aN (t_ref51_limit p2), aV [(0, strRows (l_ref51_Relieve_b0 p0 p1 p3 (s_ref51_order p0 p1) 0 [] (s_ref51_limit p2)))] hl0] (by kernel_rfl)

def Label_ty : Ty := .st [.str, .str]
def Label_ok (x : Label) : Prop := okS x.key ∧ okS x.value
theorem Label_open {c : List PV} (h : Of Γ Label_ty c) : ∃ x : Label, c = x.cells ∧ Label_ok x := by
  have g0 := h.st1
  obtain ⟨a0, b0, rfl, h0, g1⟩ := g0.uncons
  obtain ⟨x0, rfl, k0⟩ := h0.str1
  obtain ⟨a1, b1, rfl, h1, g2⟩ := g1.uncons
  obtain ⟨x1, rfl, k1⟩ := h1.str1
  have e := g2.empty
  subst e
  exact ⟨⟨x0, x1⟩, rfl, ⟨k0, k1⟩⟩

def Owner_ty : Ty := .st [.str, .str, .int .i64, .bool, .bool]
def Owner_ok (x : Owner) : Prop := okS x.kind ∧ okS x.name ∧ okI64 x.uid ∧ (fun _ : Bool => True) x.controller ∧ (fun _ : Bool => True) x.block
theorem Owner_open {c : List PV} (h : Of Γ Owner_ty c) : ∃ x : Owner, c = x.cells ∧ Owner_ok x := by
  have g0 := h.st1
  obtain ⟨a0, b0, rfl, h0, g1⟩ := g0.uncons
  obtain ⟨x0, rfl, k0⟩ := h0.str1
  obtain ⟨a1, b1, rfl, h1, g2⟩ := g1.uncons
  obtain ⟨x1, rfl, k1⟩ := h1.str1
  obtain ⟨a2, b2, rfl, h2, g3⟩ := g2.uncons
  obtain ⟨x2, rfl, k2⟩ := h2.i64
  obtain ⟨a3, b3, rfl, h3, g4⟩ := g3.uncons
  obtain ⟨x3, rfl, k3⟩ := h3.bool2
  obtain ⟨a4, b4, rfl, h4, g5⟩ := g4.uncons
  obtain ⟨x4, rfl, k4⟩ := h4.bool2
  have e := g5.empty
  subst e
  exact ⟨⟨x0, x1, x2, x3, x4⟩, rfl, ⟨k0, k1, k2, k3, k4⟩⟩

def Manager_ty : Ty := .st [.str, .sl 16 .str]
def Manager_ok (x : Manager) : Prop := okS x.name ∧ (okL 16 okS) x.fields
theorem Manager_open {c : List PV} (h : Of Γ Manager_ty c) : ∃ x : Manager, c = x.cells ∧ Manager_ok x := by
  have g0 := h.st1
  obtain ⟨a0, b0, rfl, h0, g1⟩ := g0.uncons
  obtain ⟨x0, rfl, k0⟩ := h0.str1
  obtain ⟨a1, b1, rfl, h1, g2⟩ := g1.uncons
  obtain ⟨x1, rfl, k1⟩ := (h1.sl1 (f := (fun s : ByteArray => [.str s])) (ok := okS) fun r hr => hr.str1)
  have e := g2.empty
  subst e
  exact ⟨⟨x0, x1⟩, rfl, ⟨k0, k1⟩⟩

def Meta_ty : Ty := .st [.str, .str, .str, .int .i64, .int .i64, .int .i64, .int .i64, .bool, .int .i64, .sl 32 Label_ty, .sl 48 Owner_ty, .sl 16 .str, .sl 40 Manager_ty]
def Meta_ok (x : Meta) : Prop := okS x.kind ∧ okS x.namespace_ ∧ okS x.name ∧ okI64 x.uid ∧ okI64 x.version ∧ okI64 x.generation ∧ okI64 x.created ∧ (fun _ : Bool => True) x.deleting ∧ okI64 x.deleteAt ∧ (okL 32 Label_ok) x.labels ∧ (okL 48 Owner_ok) x.owners ∧ (okL 16 okS) x.finalizers ∧ (okL 40 Manager_ok) x.managers
theorem Meta_open {c : List PV} (h : Of Γ Meta_ty c) : ∃ x : Meta, c = x.cells ∧ Meta_ok x := by
  have g0 := h.st1
  obtain ⟨a0, b0, rfl, h0, g1⟩ := g0.uncons
  obtain ⟨x0, rfl, k0⟩ := h0.str1
  obtain ⟨a1, b1, rfl, h1, g2⟩ := g1.uncons
  obtain ⟨x1, rfl, k1⟩ := h1.str1
  obtain ⟨a2, b2, rfl, h2, g3⟩ := g2.uncons
  obtain ⟨x2, rfl, k2⟩ := h2.str1
  obtain ⟨a3, b3, rfl, h3, g4⟩ := g3.uncons
  obtain ⟨x3, rfl, k3⟩ := h3.i64
  obtain ⟨a4, b4, rfl, h4, g5⟩ := g4.uncons
  obtain ⟨x4, rfl, k4⟩ := h4.i64
  obtain ⟨a5, b5, rfl, h5, g6⟩ := g5.uncons
  obtain ⟨x5, rfl, k5⟩ := h5.i64
  obtain ⟨a6, b6, rfl, h6, g7⟩ := g6.uncons
  obtain ⟨x6, rfl, k6⟩ := h6.i64
  obtain ⟨a7, b7, rfl, h7, g8⟩ := g7.uncons
  obtain ⟨x7, rfl, k7⟩ := h7.bool2
  obtain ⟨a8, b8, rfl, h8, g9⟩ := g8.uncons
  obtain ⟨x8, rfl, k8⟩ := h8.i64
  obtain ⟨a9, b9, rfl, h9, g10⟩ := g9.uncons
  obtain ⟨x9, rfl, k9⟩ := (h9.sl1 (f := Label.cells) (ok := Label_ok) fun r hr => (Label_open hr))
  obtain ⟨a10, b10, rfl, h10, g11⟩ := g10.uncons
  obtain ⟨x10, rfl, k10⟩ := (h10.sl1 (f := Owner.cells) (ok := Owner_ok) fun r hr => (Owner_open hr))
  obtain ⟨a11, b11, rfl, h11, g12⟩ := g11.uncons
  obtain ⟨x11, rfl, k11⟩ := (h11.sl1 (f := (fun s : ByteArray => [.str s])) (ok := okS) fun r hr => hr.str1)
  obtain ⟨a12, b12, rfl, h12, g13⟩ := g12.uncons
  obtain ⟨x12, rfl, k12⟩ := (h12.sl1 (f := Manager.cells) (ok := Manager_ok) fun r hr => (Manager_open hr))
  have e := g13.empty
  subst e
  exact ⟨⟨x0, x1, x2, x3, x4, x5, x6, x7, x8, x9, x10, x11, x12⟩, rfl, ⟨k0, k1, k2, k3, k4, k5, k6, k7, k8, k9, k10, k11, k12⟩⟩

def Resources_ty : Ty := .st [.int .i64, .int .i64, .int .i64]
def Resources_ok (x : Resources) : Prop := okI64 x.cPU ∧ okI64 x.memory ∧ okI64 x.disk
theorem Resources_open {c : List PV} (h : Of Γ Resources_ty c) : ∃ x : Resources, c = x.cells ∧ Resources_ok x := by
  have g0 := h.st1
  obtain ⟨a0, b0, rfl, h0, g1⟩ := g0.uncons
  obtain ⟨x0, rfl, k0⟩ := h0.i64
  obtain ⟨a1, b1, rfl, h1, g2⟩ := g1.uncons
  obtain ⟨x1, rfl, k1⟩ := h1.i64
  obtain ⟨a2, b2, rfl, h2, g3⟩ := g2.uncons
  obtain ⟨x2, rfl, k2⟩ := h2.i64
  have e := g3.empty
  subst e
  exact ⟨⟨x0, x1, x2⟩, rfl, ⟨k0, k1, k2⟩⟩

def Probe_ty : Ty := .st [.int .i64, .int .i64, .int .i64, .int .i64]
def Probe_ok (x : Probe) : Prop := okI64 x.delay ∧ okI64 x.period ∧ okI64 x.success ∧ okI64 x.failure
theorem Probe_open {c : List PV} (h : Of Γ Probe_ty c) : ∃ x : Probe, c = x.cells ∧ Probe_ok x := by
  have g0 := h.st1
  obtain ⟨a0, b0, rfl, h0, g1⟩ := g0.uncons
  obtain ⟨x0, rfl, k0⟩ := h0.i64
  obtain ⟨a1, b1, rfl, h1, g2⟩ := g1.uncons
  obtain ⟨x1, rfl, k1⟩ := h1.i64
  obtain ⟨a2, b2, rfl, h2, g3⟩ := g2.uncons
  obtain ⟨x2, rfl, k2⟩ := h2.i64
  obtain ⟨a3, b3, rfl, h3, g4⟩ := g3.uncons
  obtain ⟨x3, rfl, k3⟩ := h3.i64
  have e := g4.empty
  subst e
  exact ⟨⟨x0, x1, x2, x3⟩, rfl, ⟨k0, k1, k2, k3⟩⟩

def Container_ty : Ty := .st [.str, .str, Resources_ty, Resources_ty, .sl 32 Probe_ty, .sl 32 Probe_ty, .sl 32 Probe_ty]
def Container_ok (x : Container) : Prop := okS x.name ∧ okS x.image ∧ Resources_ok x.request ∧ Resources_ok x.limit ∧ (okL 32 Probe_ok) x.live ∧ (okL 32 Probe_ok) x.ready ∧ (okL 32 Probe_ok) x.startup
theorem Container_open {c : List PV} (h : Of Γ Container_ty c) : ∃ x : Container, c = x.cells ∧ Container_ok x := by
  have g0 := h.st1
  obtain ⟨a0, b0, rfl, h0, g1⟩ := g0.uncons
  obtain ⟨x0, rfl, k0⟩ := h0.str1
  obtain ⟨a1, b1, rfl, h1, g2⟩ := g1.uncons
  obtain ⟨x1, rfl, k1⟩ := h1.str1
  obtain ⟨a2, b2, rfl, h2, g3⟩ := g2.uncons
  obtain ⟨x2, rfl, k2⟩ := (Resources_open h2)
  obtain ⟨a3, b3, rfl, h3, g4⟩ := g3.uncons
  obtain ⟨x3, rfl, k3⟩ := (Resources_open h3)
  obtain ⟨a4, b4, rfl, h4, g5⟩ := g4.uncons
  obtain ⟨x4, rfl, k4⟩ := (h4.sl1 (f := Probe.cells) (ok := Probe_ok) fun r hr => (Probe_open hr))
  obtain ⟨a5, b5, rfl, h5, g6⟩ := g5.uncons
  obtain ⟨x5, rfl, k5⟩ := (h5.sl1 (f := Probe.cells) (ok := Probe_ok) fun r hr => (Probe_open hr))
  obtain ⟨a6, b6, rfl, h6, g7⟩ := g6.uncons
  obtain ⟨x6, rfl, k6⟩ := (h6.sl1 (f := Probe.cells) (ok := Probe_ok) fun r hr => (Probe_open hr))
  have e := g7.empty
  subst e
  exact ⟨⟨x0, x1, x2, x3, x4, x5, x6⟩, rfl, ⟨k0, k1, k2, k3, k4, k5, k6⟩⟩

def Requirement_ty : Ty := .st [.str, .int .i64, .sl 16 .str]
def Requirement_ok (x : Requirement) : Prop := okS x.key ∧ okI64 x.op ∧ (okL 16 okS) x.values
theorem Requirement_open {c : List PV} (h : Of Γ Requirement_ty c) : ∃ x : Requirement, c = x.cells ∧ Requirement_ok x := by
  have g0 := h.st1
  obtain ⟨a0, b0, rfl, h0, g1⟩ := g0.uncons
  obtain ⟨x0, rfl, k0⟩ := h0.str1
  obtain ⟨a1, b1, rfl, h1, g2⟩ := g1.uncons
  obtain ⟨x1, rfl, k1⟩ := h1.i64
  obtain ⟨a2, b2, rfl, h2, g3⟩ := g2.uncons
  obtain ⟨x2, rfl, k2⟩ := (h2.sl1 (f := (fun s : ByteArray => [.str s])) (ok := okS) fun r hr => hr.str1)
  have e := g3.empty
  subst e
  exact ⟨⟨x0, x1, x2⟩, rfl, ⟨k0, k1, k2⟩⟩

def NodeTerm_ty : Ty := .st [.bool, .sl 48 Requirement_ty, .int .i64]
def NodeTerm_ok (x : NodeTerm) : Prop := (fun _ : Bool => True) x.required ∧ (okL 48 Requirement_ok) x.selector ∧ okI64 x.weight
theorem NodeTerm_open {c : List PV} (h : Of Γ NodeTerm_ty c) : ∃ x : NodeTerm, c = x.cells ∧ NodeTerm_ok x := by
  have g0 := h.st1
  obtain ⟨a0, b0, rfl, h0, g1⟩ := g0.uncons
  obtain ⟨x0, rfl, k0⟩ := h0.bool2
  obtain ⟨a1, b1, rfl, h1, g2⟩ := g1.uncons
  obtain ⟨x1, rfl, k1⟩ := (h1.sl1 (f := Requirement.cells) (ok := Requirement_ok) fun r hr => (Requirement_open hr))
  obtain ⟨a2, b2, rfl, h2, g3⟩ := g2.uncons
  obtain ⟨x2, rfl, k2⟩ := h2.i64
  have e := g3.empty
  subst e
  exact ⟨⟨x0, x1, x2⟩, rfl, ⟨k0, k1, k2⟩⟩

def PodTerm_ty : Ty := .st [.bool, .bool, .sl 48 Requirement_ty, .str, .int .i64]
def PodTerm_ok (x : PodTerm) : Prop := (fun _ : Bool => True) x.required ∧ (fun _ : Bool => True) x.anti ∧ (okL 48 Requirement_ok) x.selector ∧ okS x.topology ∧ okI64 x.weight
theorem PodTerm_open {c : List PV} (h : Of Γ PodTerm_ty c) : ∃ x : PodTerm, c = x.cells ∧ PodTerm_ok x := by
  have g0 := h.st1
  obtain ⟨a0, b0, rfl, h0, g1⟩ := g0.uncons
  obtain ⟨x0, rfl, k0⟩ := h0.bool2
  obtain ⟨a1, b1, rfl, h1, g2⟩ := g1.uncons
  obtain ⟨x1, rfl, k1⟩ := h1.bool2
  obtain ⟨a2, b2, rfl, h2, g3⟩ := g2.uncons
  obtain ⟨x2, rfl, k2⟩ := (h2.sl1 (f := Requirement.cells) (ok := Requirement_ok) fun r hr => (Requirement_open hr))
  obtain ⟨a3, b3, rfl, h3, g4⟩ := g3.uncons
  obtain ⟨x3, rfl, k3⟩ := h3.str1
  obtain ⟨a4, b4, rfl, h4, g5⟩ := g4.uncons
  obtain ⟨x4, rfl, k4⟩ := h4.i64
  have e := g5.empty
  subst e
  exact ⟨⟨x0, x1, x2, x3, x4⟩, rfl, ⟨k0, k1, k2, k3, k4⟩⟩

def SpreadRule_ty : Ty := .st [.int .i64, .str, .sl 48 Requirement_ty, .bool]
def SpreadRule_ok (x : SpreadRule) : Prop := okI64 x.maxSkew ∧ okS x.topology ∧ (okL 48 Requirement_ok) x.selector ∧ (fun _ : Bool => True) x.required
theorem SpreadRule_open {c : List PV} (h : Of Γ SpreadRule_ty c) : ∃ x : SpreadRule, c = x.cells ∧ SpreadRule_ok x := by
  have g0 := h.st1
  obtain ⟨a0, b0, rfl, h0, g1⟩ := g0.uncons
  obtain ⟨x0, rfl, k0⟩ := h0.i64
  obtain ⟨a1, b1, rfl, h1, g2⟩ := g1.uncons
  obtain ⟨x1, rfl, k1⟩ := h1.str1
  obtain ⟨a2, b2, rfl, h2, g3⟩ := g2.uncons
  obtain ⟨x2, rfl, k2⟩ := (h2.sl1 (f := Requirement.cells) (ok := Requirement_ok) fun r hr => (Requirement_open hr))
  obtain ⟨a3, b3, rfl, h3, g4⟩ := g3.uncons
  obtain ⟨x3, rfl, k3⟩ := h3.bool2
  have e := g4.empty
  subst e
  exact ⟨⟨x0, x1, x2, x3⟩, rfl, ⟨k0, k1, k2, k3⟩⟩

def Toleration_ty : Ty := .st [.str, .str, .bool, .int .i64, .int .i64]
def Toleration_ok (x : Toleration) : Prop := okS x.key ∧ okS x.value ∧ (fun _ : Bool => True) x.exists_ ∧ okI64 x.effect ∧ okI64 x.seconds
theorem Toleration_open {c : List PV} (h : Of Γ Toleration_ty c) : ∃ x : Toleration, c = x.cells ∧ Toleration_ok x := by
  have g0 := h.st1
  obtain ⟨a0, b0, rfl, h0, g1⟩ := g0.uncons
  obtain ⟨x0, rfl, k0⟩ := h0.str1
  obtain ⟨a1, b1, rfl, h1, g2⟩ := g1.uncons
  obtain ⟨x1, rfl, k1⟩ := h1.str1
  obtain ⟨a2, b2, rfl, h2, g3⟩ := g2.uncons
  obtain ⟨x2, rfl, k2⟩ := h2.bool2
  obtain ⟨a3, b3, rfl, h3, g4⟩ := g3.uncons
  obtain ⟨x3, rfl, k3⟩ := h3.i64
  obtain ⟨a4, b4, rfl, h4, g5⟩ := g4.uncons
  obtain ⟨x4, rfl, k4⟩ := h4.i64
  have e := g5.empty
  subst e
  exact ⟨⟨x0, x1, x2, x3, x4⟩, rfl, ⟨k0, k1, k2, k3, k4⟩⟩

def PodSpec_ty : Ty := .st [.str, .int .i64, .int .i64, .int .i64, .sl 152 Container_ty, .sl 48 Requirement_ty, .sl 40 NodeTerm_ty, .sl 56 PodTerm_ty, .sl 56 SpreadRule_ty, .sl 56 Toleration_ty]
def PodSpec_ok (x : PodSpec) : Prop := okS x.node ∧ okI64 x.priority ∧ okI64 x.restart ∧ okI64 x.grace ∧ (okL 152 Container_ok) x.containers ∧ (okL 48 Requirement_ok) x.nodeSelector ∧ (okL 40 NodeTerm_ok) x.nodeTerms ∧ (okL 56 PodTerm_ok) x.podTerms ∧ (okL 56 SpreadRule_ok) x.spread ∧ (okL 56 Toleration_ok) x.tolerations
theorem PodSpec_open {c : List PV} (h : Of Γ PodSpec_ty c) : ∃ x : PodSpec, c = x.cells ∧ PodSpec_ok x := by
  have g0 := h.st1
  obtain ⟨a0, b0, rfl, h0, g1⟩ := g0.uncons
  obtain ⟨x0, rfl, k0⟩ := h0.str1
  obtain ⟨a1, b1, rfl, h1, g2⟩ := g1.uncons
  obtain ⟨x1, rfl, k1⟩ := h1.i64
  obtain ⟨a2, b2, rfl, h2, g3⟩ := g2.uncons
  obtain ⟨x2, rfl, k2⟩ := h2.i64
  obtain ⟨a3, b3, rfl, h3, g4⟩ := g3.uncons
  obtain ⟨x3, rfl, k3⟩ := h3.i64
  obtain ⟨a4, b4, rfl, h4, g5⟩ := g4.uncons
  obtain ⟨x4, rfl, k4⟩ := (h4.sl1 (f := Container.cells) (ok := Container_ok) fun r hr => (Container_open hr))
  obtain ⟨a5, b5, rfl, h5, g6⟩ := g5.uncons
  obtain ⟨x5, rfl, k5⟩ := (h5.sl1 (f := Requirement.cells) (ok := Requirement_ok) fun r hr => (Requirement_open hr))
  obtain ⟨a6, b6, rfl, h6, g7⟩ := g6.uncons
  obtain ⟨x6, rfl, k6⟩ := (h6.sl1 (f := NodeTerm.cells) (ok := NodeTerm_ok) fun r hr => (NodeTerm_open hr))
  obtain ⟨a7, b7, rfl, h7, g8⟩ := g7.uncons
  obtain ⟨x7, rfl, k7⟩ := (h7.sl1 (f := PodTerm.cells) (ok := PodTerm_ok) fun r hr => (PodTerm_open hr))
  obtain ⟨a8, b8, rfl, h8, g9⟩ := g8.uncons
  obtain ⟨x8, rfl, k8⟩ := (h8.sl1 (f := SpreadRule.cells) (ok := SpreadRule_ok) fun r hr => (SpreadRule_open hr))
  obtain ⟨a9, b9, rfl, h9, g10⟩ := g9.uncons
  obtain ⟨x9, rfl, k9⟩ := (h9.sl1 (f := Toleration.cells) (ok := Toleration_ok) fun r hr => (Toleration_open hr))
  have e := g10.empty
  subst e
  exact ⟨⟨x0, x1, x2, x3, x4, x5, x6, x7, x8, x9⟩, rfl, ⟨k0, k1, k2, k3, k4, k5, k6, k7, k8, k9⟩⟩

def ContainerStatus_ty : Ty := .st [.str, .int .i64, .int .i64, .int .i64, .int .i64, .bool, .bool]
def ContainerStatus_ok (x : ContainerStatus) : Prop := okS x.name ∧ okI64 x.state ∧ okI64 x.restarts ∧ okI64 x.exitCode ∧ okI64 x.since ∧ (fun _ : Bool => True) x.ready ∧ (fun _ : Bool => True) x.started
theorem ContainerStatus_open {c : List PV} (h : Of Γ ContainerStatus_ty c) : ∃ x : ContainerStatus, c = x.cells ∧ ContainerStatus_ok x := by
  have g0 := h.st1
  obtain ⟨a0, b0, rfl, h0, g1⟩ := g0.uncons
  obtain ⟨x0, rfl, k0⟩ := h0.str1
  obtain ⟨a1, b1, rfl, h1, g2⟩ := g1.uncons
  obtain ⟨x1, rfl, k1⟩ := h1.i64
  obtain ⟨a2, b2, rfl, h2, g3⟩ := g2.uncons
  obtain ⟨x2, rfl, k2⟩ := h2.i64
  obtain ⟨a3, b3, rfl, h3, g4⟩ := g3.uncons
  obtain ⟨x3, rfl, k3⟩ := h3.i64
  obtain ⟨a4, b4, rfl, h4, g5⟩ := g4.uncons
  obtain ⟨x4, rfl, k4⟩ := h4.i64
  obtain ⟨a5, b5, rfl, h5, g6⟩ := g5.uncons
  obtain ⟨x5, rfl, k5⟩ := h5.bool2
  obtain ⟨a6, b6, rfl, h6, g7⟩ := g6.uncons
  obtain ⟨x6, rfl, k6⟩ := h6.bool2
  have e := g7.empty
  subst e
  exact ⟨⟨x0, x1, x2, x3, x4, x5, x6⟩, rfl, ⟨k0, k1, k2, k3, k4, k5, k6⟩⟩

def PodStatus_ty : Ty := .st [.int .i64, .bool, .int .i64, .int .i64, .int .i64, .sl 56 ContainerStatus_ty, .int .i64, .str, .str]
def PodStatus_ok (x : PodStatus) : Prop := okI64 x.phase ∧ (fun _ : Bool => True) x.ready ∧ okI64 x.readySince ∧ okI64 x.started ∧ okI64 x.finished ∧ (okL 56 ContainerStatus_ok) x.containers ∧ okI64 x.address ∧ okS x.nominated ∧ okS x.reason
theorem PodStatus_open {c : List PV} (h : Of Γ PodStatus_ty c) : ∃ x : PodStatus, c = x.cells ∧ PodStatus_ok x := by
  have g0 := h.st1
  obtain ⟨a0, b0, rfl, h0, g1⟩ := g0.uncons
  obtain ⟨x0, rfl, k0⟩ := h0.i64
  obtain ⟨a1, b1, rfl, h1, g2⟩ := g1.uncons
  obtain ⟨x1, rfl, k1⟩ := h1.bool2
  obtain ⟨a2, b2, rfl, h2, g3⟩ := g2.uncons
  obtain ⟨x2, rfl, k2⟩ := h2.i64
  obtain ⟨a3, b3, rfl, h3, g4⟩ := g3.uncons
  obtain ⟨x3, rfl, k3⟩ := h3.i64
  obtain ⟨a4, b4, rfl, h4, g5⟩ := g4.uncons
  obtain ⟨x4, rfl, k4⟩ := h4.i64
  obtain ⟨a5, b5, rfl, h5, g6⟩ := g5.uncons
  obtain ⟨x5, rfl, k5⟩ := (h5.sl1 (f := ContainerStatus.cells) (ok := ContainerStatus_ok) fun r hr => (ContainerStatus_open hr))
  obtain ⟨a6, b6, rfl, h6, g7⟩ := g6.uncons
  obtain ⟨x6, rfl, k6⟩ := h6.i64
  obtain ⟨a7, b7, rfl, h7, g8⟩ := g7.uncons
  obtain ⟨x7, rfl, k7⟩ := h7.str1
  obtain ⟨a8, b8, rfl, h8, g9⟩ := g8.uncons
  obtain ⟨x8, rfl, k8⟩ := h8.str1
  have e := g9.empty
  subst e
  exact ⟨⟨x0, x1, x2, x3, x4, x5, x6, x7, x8⟩, rfl, ⟨k0, k1, k2, k3, k4, k5, k6, k7, k8⟩⟩

def Pod_ty : Ty := .st [Meta_ty, PodSpec_ty, PodStatus_ty]
def Pod_ok (x : Pod) : Prop := Meta_ok x.meta_ ∧ PodSpec_ok x.spec ∧ PodStatus_ok x.status
theorem Pod_open {c : List PV} (h : Of Γ Pod_ty c) : ∃ x : Pod, c = x.cells ∧ Pod_ok x := by
  have g0 := h.st1
  obtain ⟨a0, b0, rfl, h0, g1⟩ := g0.uncons
  obtain ⟨x0, rfl, k0⟩ := (Meta_open h0)
  obtain ⟨a1, b1, rfl, h1, g2⟩ := g1.uncons
  obtain ⟨x1, rfl, k1⟩ := (PodSpec_open h1)
  obtain ⟨a2, b2, rfl, h2, g3⟩ := g2.uncons
  obtain ⟨x2, rfl, k2⟩ := (PodStatus_open h2)
  have e := g3.empty
  subst e
  exact ⟨⟨x0, x1, x2⟩, rfl, ⟨k0, k1, k2⟩⟩

end Go.Proofs.Ytnicmdfafihmpaa
