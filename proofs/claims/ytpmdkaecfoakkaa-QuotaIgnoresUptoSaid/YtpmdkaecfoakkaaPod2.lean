/- What the encoding of a pod computes (printed by a program). -/
import Derived.Test.YtpmdkaecfoakkaaPod
namespace Go.Proofs.Ytpmdkaecfoakkaa
open Go.Pv


inductive R_law19_SmallMeta_b0 where
  | k0
  | k1
def l_law19_SmallMeta_b0 (p0 : Meta) : List Label → Nat → R_law19_SmallMeta_b0
  | [], _i0 =>
    (.k0)
  | x0 :: r0, i0 =>
    bif (decide (400 < (w64 ((ByteArray.size x0.key : Int) + (ByteArray.size x0.value : Int))))) then
      (.k1)
    else
      l_law19_SmallMeta_b0 p0 r0 (i0 + 1)
def HE_law19_SmallMeta_b0 (p0 : Meta) (i0 : Nat) : List PV :=
  [.un, .bx 0 0, .un, .un, .un, .un, .un, .un, .un, .un, .un, .un, .un, .un, .un, .un, .un, .un, .un, .un, .un, .un, .un, .un, .un, .un, .un, .un, .un, .un, .un, .un, .un, .un, .un, .un, .un, .un, .un, .un, .un, .un, .un, .un, .un, .un, .un, .un, .un, .un, .sl (Label.rows p0.labels), .int .i64 ((List.length p0.labels) : Int), .int .i64 (i0 : Int), .un, .un, .un, .un, .un, .un, .un, .un, .un, .un, .un, .un, .un, .un, .un, .un, .un, .un, .un, .un, .un, .un, .un, .un, .un, .un, .un, .un, .un, .un, .un, .un, .un, .un, .un, .un, .un, .un, .un, .un, .un, .un, .un, .un, .un, .un, .un, .un, .un, .un, .un, .un, .un, .un, .un, .un, .un, .un, .un, .un, .un, .un, .un, .un, .un, .un, .un, .un]
def HO_law19_SmallMeta_b0 (p0 : Meta) (_i0 : Nat) : List Ob :=
  [⟨13, 0, true, [.str p0.kind, .str p0.namespace_, .str p0.name, .int .i64 p0.uid, .int .i64 p0.version, .int .i64 p0.generation, .int .i64 p0.created, .bool p0.deleting, .int .i64 p0.deleteAt, .sl (Label.rows p0.labels), .sl (Owner.rows p0.owners), .sl (strRows p0.finalizers), .sl (Manager.rows p0.managers)]⟩]
def E_law19_SmallMeta_b0 (p0 : Meta) (i0 : Nat) : En := .loop 0 Ir.law19_SmallMeta_b0_live Ir.law19_SmallMeta_b0 (HE_law19_SmallMeta_b0 p0 i0) (HO_law19_SmallMeta_b0 p0 i0)
def S_law19_SmallMeta_b0_0 (p0 : Meta) (z : Nat → PV) (_zo : Nat → List PV) : St :=
  ⟨[z 0, .bx 0 0, z 2, z 3, z 4, z 5, z 6, z 7, z 8, z 9, z 10, z 11, z 12, z 13, z 14, z 15, z 16, z 17, z 18, z 19, z 20, z 21, z 22, z 23, z 24, z 25, z 26, z 27, z 28, z 29, z 30, z 31, z 32, z 33, z 34, z 35, z 36, z 37, z 38, z 39, z 40, z 41, z 42, z 43, z 44, z 45, z 46, z 47, z 48, z 49, z 50, z 51, z 52, z 53, z 54, z 55, z 56, z 57, z 58, z 59, z 60, z 61, z 62, z 63, z 64, z 65, z 66, z 67, z 68, z 69, z 70, z 71, z 72, z 73, z 74, z 75, z 76, z 77, z 78, z 79, z 80, z 81, z 82, z 83, z 84, z 85, z 86, z 87, z 88, z 89, z 90, z 91, z 92, z 93, z 94, z 95, z 96, z 97, z 98, z 99, z 100, z 101, z 102, z 103, z 104, z 105, z 106, z 107, z 108, z 109, z 110, z 111, z 112, z 113, z 114, z 115, z 116, z 117, z 118, z 119, z 120], [(0, ⟨13, 0, true, [.str p0.kind, .str p0.namespace_, .str p0.name, .int .i64 p0.uid, .int .i64 p0.version, .int .i64 p0.generation, .int .i64 p0.created, .bool p0.deleting, .int .i64 p0.deleteAt, .sl (Label.rows p0.labels), .sl (Owner.rows p0.owners), .sl (strRows p0.finalizers), .sl (Manager.rows p0.managers)]⟩)], 65⟩
def S_law19_SmallMeta_b0_1 (_p0 : Meta) (z : Nat → PV) (zo : Nat → List PV) : St :=
  ⟨[z 0, z 1, .bool false, z 3, z 4, z 5, z 6, z 7, z 8, z 9, z 10, z 11, z 12, z 13, z 14, z 15, z 16, z 17, z 18, z 19, z 20, z 21, z 22, z 23, z 24, z 25, z 26, z 27, z 28, z 29, z 30, z 31, z 32, z 33, z 34, z 35, z 36, z 37, z 38, z 39, z 40, z 41, z 42, z 43, z 44, z 45, z 46, z 47, z 48, z 49, z 50, z 51, z 52, z 53, z 54, z 55, z 56, z 57, z 58, z 59, z 60, z 61, z 62, z 63, z 64, z 65, z 66, z 67, z 68, z 69, z 70, z 71, z 72, z 73, z 74, z 75, z 76, z 77, z 78, z 79, z 80, z 81, z 82, z 83, z 84, z 85, z 86, z 87, z 88, z 89, z 90, z 91, z 92, z 93, z 94, z 95, z 96, z 97, z 98, z 99, z 100, z 101, z 102, z 103, z 104, z 105, z 106, z 107, z 108, z 109, z 110, z 111, z 112, z 113, z 114, z 115, z 116, z 117, z 118, z 119, z 120], [(0, ⟨13, 0, true, zo 0⟩), (193, ⟨2, 0, true, zo 193⟩)], 897⟩
def P_law19_SmallMeta_b0 (p0 : Meta) (e : En) : R_law19_SmallMeta_b0 → Prop
  | .k0 => ∃ z zo, Tells G e (.st (.exit 0) (S_law19_SmallMeta_b0_0 p0 z zo))
  | .k1 => ∃ z zo, Tells G e (.st .ret (S_law19_SmallMeta_b0_1 p0 z zo))
theorem P_law19_SmallMeta_b0_mono (p0 : Meta) {e e' : En} (h : ∀ r, Tells G e r → Tells G e' r) : ∀ q, P_law19_SmallMeta_b0 p0 e q → P_law19_SmallMeta_b0 p0 e' q
  | .k0, ⟨z, zo, hz⟩ => ⟨z, zo, h _ hz⟩
  | .k1, ⟨z, zo, hz⟩ => ⟨z, zo, h _ hz⟩
def H_law19_SmallMeta_b0 (p0 : Meta) : Prop := (List.length p0.labels ≤ 4611686018427387904) ∧ True
def Z_law19_SmallMeta_b0_0 (p0 : Meta) (i0 : Nat) : List PV :=
  [.un, .un, .un, .un, .un, .un, .un, .un, .un, .un, .un, .un, .un, .un, .un, .un, .un, .un, .un, .un, .un, .un, .un, .un, .un, .un, .un, .un, .un, .un, .un, .un, .un, .un, .un, .un, .un, .un, .un, .un, .un, .un, .un, .un, .un, .un, .un, .un, .un, .un, .sl (Label.rows p0.labels), .int .i64 ((List.length p0.labels) : Int), .int .i64 (i0 : Int), .bool false, .un, .un, .un, .un, .un, .un, .un, .un, .un, .un, .un, .un, .un, .un, .un, .un, .un, .un, .un, .un, .un, .un, .un, .un, .un, .un, .un, .un, .un, .un, .un, .un, .un, .un, .un, .un, .un, .un, .un, .un, .un, .un, .un, .un, .un, .un, .un, .un, .un, .un, .un, .un, .un, .un, .un, .un, .un, .un, .un, .un, .un, .un, .un, .un, .un, .un, .un]
def ZO_law19_SmallMeta_b0_0 (_p0 : Meta) (_i0 : Nat) : List (Nat × List PV) :=
  []
theorem x_law19_SmallMeta_b0_0 (p0 : Meta) (_H : H_law19_SmallMeta_b0 p0) (i0 : Nat) (hc0 : (decide ((i0 : Int) < ((List.length p0.labels) : Int))) = false) : P_law19_SmallMeta_b0 p0 (E_law19_SmallMeta_b0 p0 i0) (.k0) := by
  exact ⟨(envF (Z_law19_SmallMeta_b0_0 p0 i0)), (zoF (ZO_law19_SmallMeta_b0_0 p0 i0)), tells_outV (h := HO_law19_SmallMeta_b0 p0 i0) (vw := []) VOK.nil (x := ((.exit 0), S_law19_SmallMeta_b0_0 p0 (envF (Z_law19_SmallMeta_b0_0 p0 i0)) (zoF (ZO_law19_SmallMeta_b0_0 p0 i0)))) (hs := [(0, (bE false, []))]) (as := []) (Met.cons (dec (decide ((i0 : Int) < ((List.length p0.labels) : Int))) false hc0) Met.nil) Told.nil (by kernel_rfl)⟩
def Z_law19_SmallMeta_b0_1 (p0 : Meta) (i0 : Nat) (x0 : Label) : List PV :=
  [.un, .bx 0 0, .un, .un, .bx 193 0, .un, .un, .un, .un, .un, .un, .un, .un, .un, .un, .un, .un, .un, .un, .un, .un, .un, .un, .un, .un, .un, .un, .un, .un, .un, .un, .un, .un, .un, .un, .un, .un, .un, .un, .un, .un, .un, .un, .un, .un, .un, .un, .un, .un, .un, .sl (Label.rows p0.labels), .int .i64 ((List.length p0.labels) : Int), .int .i64 (i0 : Int), .bool true, .rf [.str x0.key, .str x0.value], .agg [.str x0.key, .str x0.value], .bx 193 0, .str x0.key, .int .i64 (ByteArray.size x0.key : Int), .bx 193 1, .str x0.value, .int .i64 (ByteArray.size x0.value : Int), .int .i64 (w64 ((ByteArray.size x0.key : Int) + (ByteArray.size x0.value : Int))), .bool true, .un, .un, .un, .un, .un, .un, .un, .un, .un, .un, .un, .un, .un, .un, .un, .un, .un, .un, .un, .un, .un, .un, .un, .un, .un, .un, .un, .un, .un, .un, .un, .un, .un, .un, .un, .un, .un, .un, .un, .un, .un, .un, .un, .un, .un, .un, .un, .un, .un, .un, .un, .un, .un, .un, .un, .un, .un]
def ZO_law19_SmallMeta_b0_1 (p0 : Meta) (_i0 : Nat) (x0 : Label) : List (Nat × List PV) :=
  [(0, [.str p0.kind, .str p0.namespace_, .str p0.name, .int .i64 p0.uid, .int .i64 p0.version, .int .i64 p0.generation, .int .i64 p0.created, .bool p0.deleting, .int .i64 p0.deleteAt, .sl (Label.rows p0.labels), .sl (Owner.rows p0.owners), .sl (strRows p0.finalizers), .sl (Manager.rows p0.managers)]), (193, [.str x0.key, .str x0.value])]
theorem x_law19_SmallMeta_b0_1 (p0 : Meta) (_H : H_law19_SmallMeta_b0 p0) (x0 : Label) (i0 : Nat) (hx0 : p0.labels[i0]? = some x0) (_hi0 : i0 < List.length p0.labels) (hc0 : (decide ((i0 : Int) < ((List.length p0.labels) : Int))) = true) (h0 : (decide (400 < (w64 ((ByteArray.size x0.key : Int) + (ByteArray.size x0.value : Int))))) = true) : P_law19_SmallMeta_b0 p0 (E_law19_SmallMeta_b0 p0 i0) (.k1) := by
  exact ⟨(envF (Z_law19_SmallMeta_b0_1 p0 i0 x0)), (zoF (ZO_law19_SmallMeta_b0_1 p0 i0 x0)), tells_outV (h := HO_law19_SmallMeta_b0 p0 i0) (vw := []) VOK.nil (x := (.ret, S_law19_SmallMeta_b0_1 p0 (envF (Z_law19_SmallMeta_b0_1 p0 i0 x0)) (zoF (ZO_law19_SmallMeta_b0_1 p0 i0 x0)))) (hs := [(0, (bE true, [])), (0, (vE (.rf (Label.cells x0)), [])), (10, (bE true, []))]) (as := []) (Met.cons (dec (decide ((i0 : Int) < ((List.length p0.labels) : Int))) true hc0) (Met.cons (ix_ok 2 (Label.rows p0.labels) i0 _ (Label.rowsGet hx0) rfl) (Met.cons (dec (decide (400 < (w64 ((ByteArray.size x0.key : Int) + (ByteArray.size x0.value : Int))))) true h0) Met.nil))) Told.nil (by kernel_rfl)⟩
theorem n_law19_SmallMeta_b0_2 (p0 : Meta) (H : H_law19_SmallMeta_b0 p0) (x0 : Label) (i0 : Nat) (hx0 : p0.labels[i0]? = some x0) (hi0 : i0 < List.length p0.labels) (hc0 : (decide ((i0 : Int) < ((List.length p0.labels) : Int))) = true) (h0 : (decide (400 < (w64 ((ByteArray.size x0.key : Int) + (ByteArray.size x0.value : Int))))) = false) {r : Rs} (hr : Tells G (E_law19_SmallMeta_b0 p0 (i0 + 1)) r) : Tells G (E_law19_SmallMeta_b0 p0 i0) r := by
  have hB := H.1
  exact tells_nextV (h := HO_law19_SmallMeta_b0 p0 i0) (vw := []) VOK.nil (y := (HE_law19_SmallMeta_b0 p0 (i0 + 1), HO_law19_SmallMeta_b0 p0 (i0 + 1))) (hs := [(0, (bE true, [])), (0, (vE (.rf (Label.cells x0)), [])), (10, (bE false, [])), (0, (vE (.int .i64 ((i0 + 1 : Nat) : Int)), []))]) (as := []) (Met.cons (dec (decide ((i0 : Int) < ((List.length p0.labels) : Int))) true hc0) (Met.cons (ix_ok 2 (Label.rows p0.labels) i0 _ (Label.rowsGet hx0) rfl) (Met.cons (dec (decide (400 < (w64 ((ByteArray.size x0.key : Int) + (ByteArray.size x0.value : Int))))) false h0) (Met.cons (inc_ok i0 (by omega)) Met.nil)))) Told.nil (by kernel_rfl) hr
theorem lt_law19_SmallMeta_b0 (p0 : Meta) (H : H_law19_SmallMeta_b0 p0) : ∀ (r0 : List Label) (i0 : Nat), List.drop i0 p0.labels = r0 → P_law19_SmallMeta_b0 p0 (E_law19_SmallMeta_b0 p0 i0) (l_law19_SmallMeta_b0 p0 r0 i0)
  | [], i0, hd => by
    have hc0 : (decide ((i0 : Int) < ((List.length p0.labels) : Int))) = false := by have := drop_end hd; simp; omega
    rw [l_law19_SmallMeta_b0]
    exact x_law19_SmallMeta_b0_0 p0 H i0 hc0
  | x0 :: r0, i0, hd => by
    obtain ⟨hx0, hi0, hd'⟩ := drop_get hd
    have hc0 : (decide ((i0 : Int) < ((List.length p0.labels) : Int))) = true := by simp; omega
    rw [l_law19_SmallMeta_b0]
    cases h0 : (decide (400 < (w64 ((ByteArray.size x0.key : Int) + (ByteArray.size x0.value : Int))))) with
    | true =>
      exact x_law19_SmallMeta_b0_1 p0 H x0 i0 hx0 hi0 hc0 h0
    | false =>
      exact P_law19_SmallMeta_b0_mono p0 (fun r hr => n_law19_SmallMeta_b0_2 p0 H x0 i0 hx0 hi0 hc0 h0 hr) _ (lt_law19_SmallMeta_b0 p0 H r0 (i0 + 1) hd')
inductive R_law19_SmallMeta_b1 where
  | k0
  | k1
def l_law19_SmallMeta_b1 (p0 : Meta) : List Owner → Nat → R_law19_SmallMeta_b1
  | [], _i1 =>
    (.k0)
  | x1 :: r1, i1 =>
    bif (decide (400 < (w64 ((ByteArray.size x1.kind : Int) + (ByteArray.size x1.name : Int))))) then
      (.k1)
    else
      l_law19_SmallMeta_b1 p0 r1 (i1 + 1)
def HE_law19_SmallMeta_b1 (p0 : Meta) (i1 : Nat) : List PV :=
  [.un, .bx 0 0, .un, .un, .un, .un, .un, .un, .un, .un, .un, .un, .un, .un, .un, .un, .un, .un, .un, .un, .un, .un, .un, .un, .un, .un, .un, .un, .un, .un, .un, .un, .un, .un, .un, .un, .un, .un, .un, .un, .un, .un, .un, .un, .un, .un, .un, .un, .un, .un, .un, .un, .un, .un, .un, .un, .un, .un, .un, .un, .un, .un, .un, .un, .un, .un, .sl (Owner.rows p0.owners), .int .i64 ((List.length p0.owners) : Int), .int .i64 (i1 : Int), .un, .un, .un, .un, .un, .un, .un, .un, .un, .un, .un, .un, .un, .un, .un, .un, .un, .un, .un, .un, .un, .un, .un, .un, .un, .un, .un, .un, .un, .un, .un, .un, .un, .un, .un, .un, .un, .un, .un, .un, .un, .un, .un, .un, .un, .un, .un, .un, .un, .un, .un, .un]
def HO_law19_SmallMeta_b1 (p0 : Meta) (_i1 : Nat) : List Ob :=
  [⟨13, 0, true, [.str p0.kind, .str p0.namespace_, .str p0.name, .int .i64 p0.uid, .int .i64 p0.version, .int .i64 p0.generation, .int .i64 p0.created, .bool p0.deleting, .int .i64 p0.deleteAt, .sl (Label.rows p0.labels), .sl (Owner.rows p0.owners), .sl (strRows p0.finalizers), .sl (Manager.rows p0.managers)]⟩]
def E_law19_SmallMeta_b1 (p0 : Meta) (i1 : Nat) : En := .loop 0 Ir.law19_SmallMeta_b1_live Ir.law19_SmallMeta_b1 (HE_law19_SmallMeta_b1 p0 i1) (HO_law19_SmallMeta_b1 p0 i1)
def S_law19_SmallMeta_b1_0 (p0 : Meta) (z : Nat → PV) (_zo : Nat → List PV) : St :=
  ⟨[z 0, .bx 0 0, z 2, z 3, z 4, z 5, z 6, z 7, z 8, z 9, z 10, z 11, z 12, z 13, z 14, z 15, z 16, z 17, z 18, z 19, z 20, z 21, z 22, z 23, z 24, z 25, z 26, z 27, z 28, z 29, z 30, z 31, z 32, z 33, z 34, z 35, z 36, z 37, z 38, z 39, z 40, z 41, z 42, z 43, z 44, z 45, z 46, z 47, z 48, z 49, z 50, z 51, z 52, z 53, z 54, z 55, z 56, z 57, z 58, z 59, z 60, z 61, z 62, z 63, z 64, z 65, z 66, z 67, z 68, z 69, z 70, z 71, z 72, z 73, z 74, z 75, z 76, z 77, z 78, z 79, z 80, z 81, z 82, z 83, z 84, z 85, z 86, z 87, z 88, z 89, z 90, z 91, z 92, z 93, z 94, z 95, z 96, z 97, z 98, z 99, z 100, z 101, z 102, z 103, z 104, z 105, z 106, z 107, z 108, z 109, z 110, z 111, z 112, z 113, z 114, z 115, z 116, z 117, z 118, z 119, z 120], [(0, ⟨13, 0, true, [.str p0.kind, .str p0.namespace_, .str p0.name, .int .i64 p0.uid, .int .i64 p0.version, .int .i64 p0.generation, .int .i64 p0.created, .bool p0.deleting, .int .i64 p0.deleteAt, .sl (Label.rows p0.labels), .sl (Owner.rows p0.owners), .sl (strRows p0.finalizers), .sl (Manager.rows p0.managers)]⟩)], 65⟩
def S_law19_SmallMeta_b1_1 (_p0 : Meta) (z : Nat → PV) (zo : Nat → List PV) : St :=
  ⟨[z 0, z 1, .bool false, z 3, z 4, z 5, z 6, z 7, z 8, z 9, z 10, z 11, z 12, z 13, z 14, z 15, z 16, z 17, z 18, z 19, z 20, z 21, z 22, z 23, z 24, z 25, z 26, z 27, z 28, z 29, z 30, z 31, z 32, z 33, z 34, z 35, z 36, z 37, z 38, z 39, z 40, z 41, z 42, z 43, z 44, z 45, z 46, z 47, z 48, z 49, z 50, z 51, z 52, z 53, z 54, z 55, z 56, z 57, z 58, z 59, z 60, z 61, z 62, z 63, z 64, z 65, z 66, z 67, z 68, z 69, z 70, z 71, z 72, z 73, z 74, z 75, z 76, z 77, z 78, z 79, z 80, z 81, z 82, z 83, z 84, z 85, z 86, z 87, z 88, z 89, z 90, z 91, z 92, z 93, z 94, z 95, z 96, z 97, z 98, z 99, z 100, z 101, z 102, z 103, z 104, z 105, z 106, z 107, z 108, z 109, z 110, z 111, z 112, z 113, z 114, z 115, z 116, z 117, z 118, z 119, z 120], [(0, ⟨13, 0, true, zo 0⟩), (193, ⟨5, 0, true, zo 193⟩)], 897⟩
def P_law19_SmallMeta_b1 (p0 : Meta) (e : En) : R_law19_SmallMeta_b1 → Prop
  | .k0 => ∃ z zo, Tells G e (.st (.exit 2) (S_law19_SmallMeta_b1_0 p0 z zo))
  | .k1 => ∃ z zo, Tells G e (.st .ret (S_law19_SmallMeta_b1_1 p0 z zo))
theorem P_law19_SmallMeta_b1_mono (p0 : Meta) {e e' : En} (h : ∀ r, Tells G e r → Tells G e' r) : ∀ q, P_law19_SmallMeta_b1 p0 e q → P_law19_SmallMeta_b1 p0 e' q
  | .k0, ⟨z, zo, hz⟩ => ⟨z, zo, h _ hz⟩
  | .k1, ⟨z, zo, hz⟩ => ⟨z, zo, h _ hz⟩
def H_law19_SmallMeta_b1 (p0 : Meta) : Prop := (List.length p0.owners ≤ 4611686018427387904) ∧ True
def Z_law19_SmallMeta_b1_0 (p0 : Meta) (i1 : Nat) : List PV :=
  [.un, .un, .un, .un, .un, .un, .un, .un, .un, .un, .un, .un, .un, .un, .un, .un, .un, .un, .un, .un, .un, .un, .un, .un, .un, .un, .un, .un, .un, .un, .un, .un, .un, .un, .un, .un, .un, .un, .un, .un, .un, .un, .un, .un, .un, .un, .un, .un, .un, .un, .un, .un, .un, .un, .un, .un, .un, .un, .un, .un, .un, .un, .un, .un, .un, .un, .sl (Owner.rows p0.owners), .int .i64 ((List.length p0.owners) : Int), .int .i64 (i1 : Int), .bool false, .un, .un, .un, .un, .un, .un, .un, .un, .un, .un, .un, .un, .un, .un, .un, .un, .un, .un, .un, .un, .un, .un, .un, .un, .un, .un, .un, .un, .un, .un, .un, .un, .un, .un, .un, .un, .un, .un, .un, .un, .un, .un, .un, .un, .un, .un, .un, .un, .un, .un, .un]
def ZO_law19_SmallMeta_b1_0 (_p0 : Meta) (_i1 : Nat) : List (Nat × List PV) :=
  []
theorem x_law19_SmallMeta_b1_0 (p0 : Meta) (_H : H_law19_SmallMeta_b1 p0) (i1 : Nat) (hc1 : (decide ((i1 : Int) < ((List.length p0.owners) : Int))) = false) : P_law19_SmallMeta_b1 p0 (E_law19_SmallMeta_b1 p0 i1) (.k0) := by
  exact ⟨(envF (Z_law19_SmallMeta_b1_0 p0 i1)), (zoF (ZO_law19_SmallMeta_b1_0 p0 i1)), tells_outV (h := HO_law19_SmallMeta_b1 p0 i1) (vw := []) VOK.nil (x := ((.exit 2), S_law19_SmallMeta_b1_0 p0 (envF (Z_law19_SmallMeta_b1_0 p0 i1)) (zoF (ZO_law19_SmallMeta_b1_0 p0 i1)))) (hs := [(0, (bE false, []))]) (as := []) (Met.cons (dec (decide ((i1 : Int) < ((List.length p0.owners) : Int))) false hc1) Met.nil) Told.nil (by kernel_rfl)⟩
def Z_law19_SmallMeta_b1_1 (p0 : Meta) (i1 : Nat) (x1 : Owner) : List PV :=
  [.un, .bx 0 0, .un, .un, .un, .un, .bx 193 0, .un, .un, .un, .un, .un, .un, .un, .un, .un, .un, .un, .un, .un, .un, .un, .un, .un, .un, .un, .un, .un, .un, .un, .un, .un, .un, .un, .un, .un, .un, .un, .un, .un, .un, .un, .un, .un, .un, .un, .un, .un, .un, .un, .un, .un, .un, .un, .un, .un, .un, .un, .un, .un, .un, .un, .un, .un, .un, .un, .sl (Owner.rows p0.owners), .int .i64 ((List.length p0.owners) : Int), .int .i64 (i1 : Int), .bool true, .rf [.str x1.kind, .str x1.name, .int .i64 x1.uid, .bool x1.controller, .bool x1.block], .agg [.str x1.kind, .str x1.name, .int .i64 x1.uid, .bool x1.controller, .bool x1.block], .bx 193 0, .str x1.kind, .int .i64 (ByteArray.size x1.kind : Int), .bx 193 1, .str x1.name, .int .i64 (ByteArray.size x1.name : Int), .int .i64 (w64 ((ByteArray.size x1.kind : Int) + (ByteArray.size x1.name : Int))), .bool true, .un, .un, .un, .un, .un, .un, .un, .un, .un, .un, .un, .un, .un, .un, .un, .un, .un, .un, .un, .un, .un, .un, .un, .un, .un, .un, .un, .un, .un, .un, .un, .un, .un, .un, .un, .un, .un, .un, .un, .un, .un]
def ZO_law19_SmallMeta_b1_1 (p0 : Meta) (_i1 : Nat) (x1 : Owner) : List (Nat × List PV) :=
  [(0, [.str p0.kind, .str p0.namespace_, .str p0.name, .int .i64 p0.uid, .int .i64 p0.version, .int .i64 p0.generation, .int .i64 p0.created, .bool p0.deleting, .int .i64 p0.deleteAt, .sl (Label.rows p0.labels), .sl (Owner.rows p0.owners), .sl (strRows p0.finalizers), .sl (Manager.rows p0.managers)]), (193, [.str x1.kind, .str x1.name, .int .i64 x1.uid, .bool x1.controller, .bool x1.block])]
theorem x_law19_SmallMeta_b1_1 (p0 : Meta) (_H : H_law19_SmallMeta_b1 p0) (x1 : Owner) (i1 : Nat) (hx1 : p0.owners[i1]? = some x1) (_hi1 : i1 < List.length p0.owners) (hc1 : (decide ((i1 : Int) < ((List.length p0.owners) : Int))) = true) (h0 : (decide (400 < (w64 ((ByteArray.size x1.kind : Int) + (ByteArray.size x1.name : Int))))) = true) : P_law19_SmallMeta_b1 p0 (E_law19_SmallMeta_b1 p0 i1) (.k1) := by
  exact ⟨(envF (Z_law19_SmallMeta_b1_1 p0 i1 x1)), (zoF (ZO_law19_SmallMeta_b1_1 p0 i1 x1)), tells_outV (h := HO_law19_SmallMeta_b1 p0 i1) (vw := []) VOK.nil (x := (.ret, S_law19_SmallMeta_b1_1 p0 (envF (Z_law19_SmallMeta_b1_1 p0 i1 x1)) (zoF (ZO_law19_SmallMeta_b1_1 p0 i1 x1)))) (hs := [(0, (bE true, [])), (0, (vE (.rf (Owner.cells x1)), [])), (10, (bE true, []))]) (as := []) (Met.cons (dec (decide ((i1 : Int) < ((List.length p0.owners) : Int))) true hc1) (Met.cons (ix_ok 5 (Owner.rows p0.owners) i1 _ (Owner.rowsGet hx1) rfl) (Met.cons (dec (decide (400 < (w64 ((ByteArray.size x1.kind : Int) + (ByteArray.size x1.name : Int))))) true h0) Met.nil))) Told.nil (by kernel_rfl)⟩
theorem n_law19_SmallMeta_b1_2 (p0 : Meta) (H : H_law19_SmallMeta_b1 p0) (x1 : Owner) (i1 : Nat) (hx1 : p0.owners[i1]? = some x1) (hi1 : i1 < List.length p0.owners) (hc1 : (decide ((i1 : Int) < ((List.length p0.owners) : Int))) = true) (h0 : (decide (400 < (w64 ((ByteArray.size x1.kind : Int) + (ByteArray.size x1.name : Int))))) = false) {r : Rs} (hr : Tells G (E_law19_SmallMeta_b1 p0 (i1 + 1)) r) : Tells G (E_law19_SmallMeta_b1 p0 i1) r := by
  have hB := H.1
  exact tells_nextV (h := HO_law19_SmallMeta_b1 p0 i1) (vw := []) VOK.nil (y := (HE_law19_SmallMeta_b1 p0 (i1 + 1), HO_law19_SmallMeta_b1 p0 (i1 + 1))) (hs := [(0, (bE true, [])), (0, (vE (.rf (Owner.cells x1)), [])), (10, (bE false, [])), (0, (vE (.int .i64 ((i1 + 1 : Nat) : Int)), []))]) (as := []) (Met.cons (dec (decide ((i1 : Int) < ((List.length p0.owners) : Int))) true hc1) (Met.cons (ix_ok 5 (Owner.rows p0.owners) i1 _ (Owner.rowsGet hx1) rfl) (Met.cons (dec (decide (400 < (w64 ((ByteArray.size x1.kind : Int) + (ByteArray.size x1.name : Int))))) false h0) (Met.cons (inc_ok i1 (by omega)) Met.nil)))) Told.nil (by kernel_rfl) hr
theorem lt_law19_SmallMeta_b1 (p0 : Meta) (H : H_law19_SmallMeta_b1 p0) : ∀ (r1 : List Owner) (i1 : Nat), List.drop i1 p0.owners = r1 → P_law19_SmallMeta_b1 p0 (E_law19_SmallMeta_b1 p0 i1) (l_law19_SmallMeta_b1 p0 r1 i1)
  | [], i1, hd => by
    have hc1 : (decide ((i1 : Int) < ((List.length p0.owners) : Int))) = false := by have := drop_end hd; simp; omega
    rw [l_law19_SmallMeta_b1]
    exact x_law19_SmallMeta_b1_0 p0 H i1 hc1
  | x1 :: r1, i1, hd => by
    obtain ⟨hx1, hi1, hd'⟩ := drop_get hd
    have hc1 : (decide ((i1 : Int) < ((List.length p0.owners) : Int))) = true := by simp; omega
    rw [l_law19_SmallMeta_b1]
    cases h0 : (decide (400 < (w64 ((ByteArray.size x1.kind : Int) + (ByteArray.size x1.name : Int))))) with
    | true =>
      exact x_law19_SmallMeta_b1_1 p0 H x1 i1 hx1 hi1 hc1 h0
    | false =>
      exact P_law19_SmallMeta_b1_mono p0 (fun r hr => n_law19_SmallMeta_b1_2 p0 H x1 i1 hx1 hi1 hc1 h0 hr) _ (lt_law19_SmallMeta_b1 p0 H r1 (i1 + 1) hd')
inductive R_law19_SmallMeta_b2 where
  | k0
  | k1
def l_law19_SmallMeta_b2 (p0 : Meta) : List ByteArray → Nat → R_law19_SmallMeta_b2
  | [], _i2 =>
    (.k0)
  | x2 :: r2, i2 =>
    bif (decide (400 < (ByteArray.size x2 : Int))) then
      (.k1)
    else
      l_law19_SmallMeta_b2 p0 r2 (i2 + 1)
def HE_law19_SmallMeta_b2 (p0 : Meta) (i2 : Nat) : List PV :=
  [.un, .bx 0 0, .un, .un, .un, .un, .un, .un, .un, .un, .un, .un, .un, .un, .un, .un, .un, .un, .un, .un, .un, .un, .un, .un, .un, .un, .un, .un, .un, .un, .un, .un, .un, .un, .un, .un, .un, .un, .un, .un, .un, .un, .un, .un, .un, .un, .un, .un, .un, .un, .un, .un, .un, .un, .un, .un, .un, .un, .un, .un, .un, .un, .un, .un, .un, .un, .un, .un, .un, .un, .un, .un, .un, .un, .un, .un, .un, .un, .un, .un, .un, .un, .sl (strRows p0.finalizers), .int .i64 ((List.length p0.finalizers) : Int), .int .i64 (i2 : Int), .un, .un, .un, .un, .un, .un, .un, .un, .un, .un, .un, .un, .un, .un, .un, .un, .un, .un, .un, .un, .un, .un, .un, .un, .un, .un, .un, .un, .un, .un, .un, .un, .un, .un, .un, .un]
def HO_law19_SmallMeta_b2 (p0 : Meta) (_i2 : Nat) : List Ob :=
  [⟨13, 0, true, [.str p0.kind, .str p0.namespace_, .str p0.name, .int .i64 p0.uid, .int .i64 p0.version, .int .i64 p0.generation, .int .i64 p0.created, .bool p0.deleting, .int .i64 p0.deleteAt, .sl (Label.rows p0.labels), .sl (Owner.rows p0.owners), .sl (strRows p0.finalizers), .sl (Manager.rows p0.managers)]⟩]
def E_law19_SmallMeta_b2 (p0 : Meta) (i2 : Nat) : En := .loop 0 Ir.law19_SmallMeta_b2_live Ir.law19_SmallMeta_b2 (HE_law19_SmallMeta_b2 p0 i2) (HO_law19_SmallMeta_b2 p0 i2)
def S_law19_SmallMeta_b2_0 (p0 : Meta) (z : Nat → PV) (_zo : Nat → List PV) : St :=
  ⟨[z 0, .bx 0 0, z 2, z 3, z 4, z 5, z 6, z 7, z 8, z 9, z 10, z 11, z 12, z 13, z 14, z 15, z 16, z 17, z 18, z 19, z 20, z 21, z 22, z 23, z 24, z 25, z 26, z 27, z 28, z 29, z 30, z 31, z 32, z 33, z 34, z 35, z 36, z 37, z 38, z 39, z 40, z 41, z 42, z 43, z 44, z 45, z 46, z 47, z 48, z 49, z 50, z 51, z 52, z 53, z 54, z 55, z 56, z 57, z 58, z 59, z 60, z 61, z 62, z 63, z 64, z 65, z 66, z 67, z 68, z 69, z 70, z 71, z 72, z 73, z 74, z 75, z 76, z 77, z 78, z 79, z 80, z 81, z 82, z 83, z 84, z 85, z 86, z 87, z 88, z 89, z 90, z 91, z 92, z 93, z 94, z 95, z 96, z 97, z 98, z 99, z 100, z 101, z 102, z 103, z 104, z 105, z 106, z 107, z 108, z 109, z 110, z 111, z 112, z 113, z 114, z 115, z 116, z 117, z 118, z 119, z 120], [(0, ⟨13, 0, true, [.str p0.kind, .str p0.namespace_, .str p0.name, .int .i64 p0.uid, .int .i64 p0.version, .int .i64 p0.generation, .int .i64 p0.created, .bool p0.deleting, .int .i64 p0.deleteAt, .sl (Label.rows p0.labels), .sl (Owner.rows p0.owners), .sl (strRows p0.finalizers), .sl (Manager.rows p0.managers)]⟩)], 65⟩
def S_law19_SmallMeta_b2_1 (_p0 : Meta) (z : Nat → PV) (zo : Nat → List PV) : St :=
  ⟨[z 0, z 1, .bool false, z 3, z 4, z 5, z 6, z 7, z 8, z 9, z 10, z 11, z 12, z 13, z 14, z 15, z 16, z 17, z 18, z 19, z 20, z 21, z 22, z 23, z 24, z 25, z 26, z 27, z 28, z 29, z 30, z 31, z 32, z 33, z 34, z 35, z 36, z 37, z 38, z 39, z 40, z 41, z 42, z 43, z 44, z 45, z 46, z 47, z 48, z 49, z 50, z 51, z 52, z 53, z 54, z 55, z 56, z 57, z 58, z 59, z 60, z 61, z 62, z 63, z 64, z 65, z 66, z 67, z 68, z 69, z 70, z 71, z 72, z 73, z 74, z 75, z 76, z 77, z 78, z 79, z 80, z 81, z 82, z 83, z 84, z 85, z 86, z 87, z 88, z 89, z 90, z 91, z 92, z 93, z 94, z 95, z 96, z 97, z 98, z 99, z 100, z 101, z 102, z 103, z 104, z 105, z 106, z 107, z 108, z 109, z 110, z 111, z 112, z 113, z 114, z 115, z 116, z 117, z 118, z 119, z 120], [(0, ⟨13, 0, true, zo 0⟩)], 513⟩
def P_law19_SmallMeta_b2 (p0 : Meta) (e : En) : R_law19_SmallMeta_b2 → Prop
  | .k0 => ∃ z zo, Tells G e (.st (.exit 4) (S_law19_SmallMeta_b2_0 p0 z zo))
  | .k1 => ∃ z zo, Tells G e (.st .ret (S_law19_SmallMeta_b2_1 p0 z zo))
theorem P_law19_SmallMeta_b2_mono (p0 : Meta) {e e' : En} (h : ∀ r, Tells G e r → Tells G e' r) : ∀ q, P_law19_SmallMeta_b2 p0 e q → P_law19_SmallMeta_b2 p0 e' q
  | .k0, ⟨z, zo, hz⟩ => ⟨z, zo, h _ hz⟩
  | .k1, ⟨z, zo, hz⟩ => ⟨z, zo, h _ hz⟩
def H_law19_SmallMeta_b2 (p0 : Meta) : Prop := (List.length p0.finalizers ≤ 4611686018427387904) ∧ True
def Z_law19_SmallMeta_b2_0 (p0 : Meta) (i2 : Nat) : List PV :=
  [.un, .un, .un, .un, .un, .un, .un, .un, .un, .un, .un, .un, .un, .un, .un, .un, .un, .un, .un, .un, .un, .un, .un, .un, .un, .un, .un, .un, .un, .un, .un, .un, .un, .un, .un, .un, .un, .un, .un, .un, .un, .un, .un, .un, .un, .un, .un, .un, .un, .un, .un, .un, .un, .un, .un, .un, .un, .un, .un, .un, .un, .un, .un, .un, .un, .un, .un, .un, .un, .un, .un, .un, .un, .un, .un, .un, .un, .un, .un, .un, .un, .un, .sl (strRows p0.finalizers), .int .i64 ((List.length p0.finalizers) : Int), .int .i64 (i2 : Int), .bool false, .un, .un, .un, .un, .un, .un, .un, .un, .un, .un, .un, .un, .un, .un, .un, .un, .un, .un, .un, .un, .un, .un, .un, .un, .un, .un, .un, .un, .un, .un, .un, .un, .un, .un, .un]
def ZO_law19_SmallMeta_b2_0 (_p0 : Meta) (_i2 : Nat) : List (Nat × List PV) :=
  []
theorem x_law19_SmallMeta_b2_0 (p0 : Meta) (_H : H_law19_SmallMeta_b2 p0) (i2 : Nat) (hc2 : (decide ((i2 : Int) < ((List.length p0.finalizers) : Int))) = false) : P_law19_SmallMeta_b2 p0 (E_law19_SmallMeta_b2 p0 i2) (.k0) := by
  exact ⟨(envF (Z_law19_SmallMeta_b2_0 p0 i2)), (zoF (ZO_law19_SmallMeta_b2_0 p0 i2)), tells_outV (h := HO_law19_SmallMeta_b2 p0 i2) (vw := []) VOK.nil (x := ((.exit 4), S_law19_SmallMeta_b2_0 p0 (envF (Z_law19_SmallMeta_b2_0 p0 i2)) (zoF (ZO_law19_SmallMeta_b2_0 p0 i2)))) (hs := [(0, (bE false, []))]) (as := []) (Met.cons (dec (decide ((i2 : Int) < ((List.length p0.finalizers) : Int))) false hc2) Met.nil) Told.nil (by kernel_rfl)⟩
def Z_law19_SmallMeta_b2_1 (p0 : Meta) (i2 : Nat) (x2 : ByteArray) : List PV :=
  [.un, .bx 0 0, .un, .un, .un, .un, .un, .un, .str x2, .un, .un, .un, .un, .un, .un, .un, .un, .un, .un, .un, .un, .un, .un, .un, .un, .un, .un, .un, .un, .un, .un, .un, .un, .un, .un, .un, .un, .un, .un, .un, .un, .un, .un, .un, .un, .un, .un, .un, .un, .un, .un, .un, .un, .un, .un, .un, .un, .un, .un, .un, .un, .un, .un, .un, .un, .un, .un, .un, .un, .un, .un, .un, .un, .un, .un, .un, .un, .un, .un, .un, .un, .un, .sl (strRows p0.finalizers), .int .i64 ((List.length p0.finalizers) : Int), .int .i64 (i2 : Int), .bool true, .rf [.str x2], .str x2, .str x2, .int .i64 (ByteArray.size x2 : Int), .bool true, .un, .un, .un, .un, .un, .un, .un, .un, .un, .un, .un, .un, .un, .un, .un, .un, .un, .un, .un, .un, .un, .un, .un, .un, .un, .un, .un, .un, .un, .un]
def ZO_law19_SmallMeta_b2_1 (p0 : Meta) (_i2 : Nat) (_x2 : ByteArray) : List (Nat × List PV) :=
  [(0, [.str p0.kind, .str p0.namespace_, .str p0.name, .int .i64 p0.uid, .int .i64 p0.version, .int .i64 p0.generation, .int .i64 p0.created, .bool p0.deleting, .int .i64 p0.deleteAt, .sl (Label.rows p0.labels), .sl (Owner.rows p0.owners), .sl (strRows p0.finalizers), .sl (Manager.rows p0.managers)])]
theorem x_law19_SmallMeta_b2_1 (p0 : Meta) (_H : H_law19_SmallMeta_b2 p0) (x2 : ByteArray) (i2 : Nat) (hx2 : p0.finalizers[i2]? = some x2) (_hi2 : i2 < List.length p0.finalizers) (hc2 : (decide ((i2 : Int) < ((List.length p0.finalizers) : Int))) = true) (h0 : (decide (400 < (ByteArray.size x2 : Int))) = true) : P_law19_SmallMeta_b2 p0 (E_law19_SmallMeta_b2 p0 i2) (.k1) := by
  exact ⟨(envF (Z_law19_SmallMeta_b2_1 p0 i2 x2)), (zoF (ZO_law19_SmallMeta_b2_1 p0 i2 x2)), tells_outV (h := HO_law19_SmallMeta_b2 p0 i2) (vw := []) VOK.nil (x := (.ret, S_law19_SmallMeta_b2_1 p0 (envF (Z_law19_SmallMeta_b2_1 p0 i2 x2)) (zoF (ZO_law19_SmallMeta_b2_1 p0 i2 x2)))) (hs := [(0, (bE true, [])), (0, (vE (.rf [.str x2]), [])), (4, (bE true, []))]) (as := []) (Met.cons (dec (decide ((i2 : Int) < ((List.length p0.finalizers) : Int))) true hc2) (Met.cons (ix_ok 1 (strRows p0.finalizers) i2 _ (strRowsGet hx2) rfl) (Met.cons (dec (decide (400 < (ByteArray.size x2 : Int))) true h0) Met.nil))) Told.nil (by kernel_rfl)⟩
theorem n_law19_SmallMeta_b2_2 (p0 : Meta) (H : H_law19_SmallMeta_b2 p0) (x2 : ByteArray) (i2 : Nat) (hx2 : p0.finalizers[i2]? = some x2) (hi2 : i2 < List.length p0.finalizers) (hc2 : (decide ((i2 : Int) < ((List.length p0.finalizers) : Int))) = true) (h0 : (decide (400 < (ByteArray.size x2 : Int))) = false) {r : Rs} (hr : Tells G (E_law19_SmallMeta_b2 p0 (i2 + 1)) r) : Tells G (E_law19_SmallMeta_b2 p0 i2) r := by
  have hB := H.1
  exact tells_nextV (h := HO_law19_SmallMeta_b2 p0 i2) (vw := []) VOK.nil (y := (HE_law19_SmallMeta_b2 p0 (i2 + 1), HO_law19_SmallMeta_b2 p0 (i2 + 1))) (hs := [(0, (bE true, [])), (0, (vE (.rf [.str x2]), [])), (4, (bE false, [])), (0, (vE (.int .i64 ((i2 + 1 : Nat) : Int)), []))]) (as := []) (Met.cons (dec (decide ((i2 : Int) < ((List.length p0.finalizers) : Int))) true hc2) (Met.cons (ix_ok 1 (strRows p0.finalizers) i2 _ (strRowsGet hx2) rfl) (Met.cons (dec (decide (400 < (ByteArray.size x2 : Int))) false h0) (Met.cons (inc_ok i2 (by omega)) Met.nil)))) Told.nil (by kernel_rfl) hr
theorem lt_law19_SmallMeta_b2 (p0 : Meta) (H : H_law19_SmallMeta_b2 p0) : ∀ (r2 : List ByteArray) (i2 : Nat), List.drop i2 p0.finalizers = r2 → P_law19_SmallMeta_b2 p0 (E_law19_SmallMeta_b2 p0 i2) (l_law19_SmallMeta_b2 p0 r2 i2)
  | [], i2, hd => by
    have hc2 : (decide ((i2 : Int) < ((List.length p0.finalizers) : Int))) = false := by have := drop_end hd; simp; omega
    rw [l_law19_SmallMeta_b2]
    exact x_law19_SmallMeta_b2_0 p0 H i2 hc2
  | x2 :: r2, i2, hd => by
    obtain ⟨hx2, hi2, hd'⟩ := drop_get hd
    have hc2 : (decide ((i2 : Int) < ((List.length p0.finalizers) : Int))) = true := by simp; omega
    rw [l_law19_SmallMeta_b2]
    cases h0 : (decide (400 < (ByteArray.size x2 : Int))) with
    | true =>
      exact x_law19_SmallMeta_b2_1 p0 H x2 i2 hx2 hi2 hc2 h0
    | false =>
      exact P_law19_SmallMeta_b2_mono p0 (fun r hr => n_law19_SmallMeta_b2_2 p0 H x2 i2 hx2 hi2 hc2 h0 hr) _ (lt_law19_SmallMeta_b2 p0 H r2 (i2 + 1) hd')
inductive R_law19_SmallMeta_b4 where
  | k0
  | k1
def l_law19_SmallMeta_b4 (p0 : Meta) (i3 : Nat) (x3 : Manager) : List ByteArray → Nat → R_law19_SmallMeta_b4
  | [], _i4 =>
    (.k0)
  | x4 :: r4, i4 =>
    bif (decide (2000 < (ByteArray.size x4 : Int))) then
      (.k1)
    else
      l_law19_SmallMeta_b4 p0 i3 x3 r4 (i4 + 1)
def HE_law19_SmallMeta_b4 (p0 : Meta) (i3 : Nat) (x3 : Manager) (i4 : Nat) : List PV :=
  [.un, .un, .un, .un, .un, .un, .un, .un, .un, .un, .un, .un, .un, .un, .un, .un, .un, .un, .un, .un, .un, .un, .un, .un, .un, .un, .un, .un, .un, .un, .un, .un, .un, .un, .un, .un, .un, .un, .un, .un, .un, .un, .un, .un, .un, .un, .un, .un, .un, .un, .un, .un, .un, .un, .un, .un, .un, .un, .un, .un, .un, .un, .un, .un, .un, .un, .un, .un, .un, .un, .un, .un, .un, .un, .un, .un, .un, .un, .un, .un, .un, .un, .un, .un, .un, .un, .un, .un, .un, .un, .un, .un, .un, .sl (Manager.rows p0.managers), .int .i64 ((List.length p0.managers) : Int), .int .i64 (i3 : Int), .un, .un, .un, .un, .un, .un, .un, .un, .un, .un, .un, .un, .un, .un, .sl (strRows x3.fields), .int .i64 ((List.length x3.fields) : Int), .int .i64 (i4 : Int), .un, .un, .un, .un, .un, .un, .un, .un]
def HO_law19_SmallMeta_b4 (_p0 : Meta) (_i3 : Nat) (_x3 : Manager) (_i4 : Nat) : List Ob :=
  []
def E_law19_SmallMeta_b4 (p0 : Meta) (i3 : Nat) (x3 : Manager) (i4 : Nat) : En := .loop 0 Ir.law19_SmallMeta_b4_live Ir.law19_SmallMeta_b4 (HE_law19_SmallMeta_b4 p0 i3 x3 i4) (HO_law19_SmallMeta_b4 p0 i3 x3 i4)
def S_law19_SmallMeta_b4_0 (p0 : Meta) (i3 : Nat) (_x3 : Manager) (z : Nat → PV) (_zo : Nat → List PV) : St :=
  ⟨[z 0, z 1, z 2, z 3, z 4, z 5, z 6, z 7, z 8, z 9, z 10, z 11, z 12, z 13, z 14, z 15, z 16, z 17, z 18, z 19, z 20, z 21, z 22, z 23, z 24, z 25, z 26, z 27, z 28, z 29, z 30, z 31, z 32, z 33, z 34, z 35, z 36, z 37, z 38, z 39, z 40, z 41, z 42, z 43, z 44, z 45, z 46, z 47, z 48, z 49, z 50, z 51, z 52, z 53, z 54, z 55, z 56, z 57, z 58, z 59, z 60, z 61, z 62, z 63, z 64, z 65, z 66, z 67, z 68, z 69, z 70, z 71, z 72, z 73, z 74, z 75, z 76, z 77, z 78, z 79, z 80, z 81, z 82, z 83, z 84, z 85, z 86, z 87, z 88, z 89, z 90, z 91, z 92, .sl (Manager.rows p0.managers), .int .i64 ((List.length p0.managers) : Int), .int .i64 (i3 : Int), z 96, z 97, z 98, z 99, z 100, z 101, z 102, z 103, z 104, z 105, z 106, z 107, z 108, z 109, z 110, z 111, z 112, z 113, z 114, z 115, z 116, z 117, z 118, z 119, z 120], [], 64⟩
def S_law19_SmallMeta_b4_1 (_p0 : Meta) (_i3 : Nat) (_x3 : Manager) (z : Nat → PV) (_zo : Nat → List PV) : St :=
  ⟨[z 0, z 1, .bool false, z 3, z 4, z 5, z 6, z 7, z 8, z 9, z 10, z 11, z 12, z 13, z 14, z 15, z 16, z 17, z 18, z 19, z 20, z 21, z 22, z 23, z 24, z 25, z 26, z 27, z 28, z 29, z 30, z 31, z 32, z 33, z 34, z 35, z 36, z 37, z 38, z 39, z 40, z 41, z 42, z 43, z 44, z 45, z 46, z 47, z 48, z 49, z 50, z 51, z 52, z 53, z 54, z 55, z 56, z 57, z 58, z 59, z 60, z 61, z 62, z 63, z 64, z 65, z 66, z 67, z 68, z 69, z 70, z 71, z 72, z 73, z 74, z 75, z 76, z 77, z 78, z 79, z 80, z 81, z 82, z 83, z 84, z 85, z 86, z 87, z 88, z 89, z 90, z 91, z 92, z 93, z 94, z 95, z 96, z 97, z 98, z 99, z 100, z 101, z 102, z 103, z 104, z 105, z 106, z 107, z 108, z 109, z 110, z 111, z 112, z 113, z 114, z 115, z 116, z 117, z 118, z 119, z 120], [], 512⟩
def P_law19_SmallMeta_b4 (p0 : Meta) (i3 : Nat) (x3 : Manager) (e : En) : R_law19_SmallMeta_b4 → Prop
  | .k0 => ∃ z zo, Tells G e (.st (.exit 8) (S_law19_SmallMeta_b4_0 p0 i3 x3 z zo))
  | .k1 => ∃ z zo, Tells G e (.st .ret (S_law19_SmallMeta_b4_1 p0 i3 x3 z zo))
theorem P_law19_SmallMeta_b4_mono (p0 : Meta) (i3 : Nat) (x3 : Manager) {e e' : En} (h : ∀ r, Tells G e r → Tells G e' r) : ∀ q, P_law19_SmallMeta_b4 p0 i3 x3 e q → P_law19_SmallMeta_b4 p0 i3 x3 e' q
  | .k0, ⟨z, zo, hz⟩ => ⟨z, zo, h _ hz⟩
  | .k1, ⟨z, zo, hz⟩ => ⟨z, zo, h _ hz⟩
def H_law19_SmallMeta_b4 (_p0 : Meta) (_i3 : Nat) (x3 : Manager) : Prop := (List.length x3.fields ≤ 4611686018427387904) ∧ True
def Z_law19_SmallMeta_b4_0 (_p0 : Meta) (_i3 : Nat) (x3 : Manager) (i4 : Nat) : List PV :=
  [.un, .un, .un, .un, .un, .un, .un, .un, .un, .un, .un, .un, .un, .un, .un, .un, .un, .un, .un, .un, .un, .un, .un, .un, .un, .un, .un, .un, .un, .un, .un, .un, .un, .un, .un, .un, .un, .un, .un, .un, .un, .un, .un, .un, .un, .un, .un, .un, .un, .un, .un, .un, .un, .un, .un, .un, .un, .un, .un, .un, .un, .un, .un, .un, .un, .un, .un, .un, .un, .un, .un, .un, .un, .un, .un, .un, .un, .un, .un, .un, .un, .un, .un, .un, .un, .un, .un, .un, .un, .un, .un, .un, .un, .un, .un, .un, .un, .un, .un, .un, .un, .un, .un, .un, .un, .un, .un, .un, .un, .un, .sl (strRows x3.fields), .int .i64 ((List.length x3.fields) : Int), .int .i64 (i4 : Int), .bool false, .un, .un, .un, .un, .un, .un, .un]
def ZO_law19_SmallMeta_b4_0 (_p0 : Meta) (_i3 : Nat) (_x3 : Manager) (_i4 : Nat) : List (Nat × List PV) :=
  []
theorem x_law19_SmallMeta_b4_0 (p0 : Meta) (i3 : Nat) (x3 : Manager) (_H : H_law19_SmallMeta_b4 p0 i3 x3) (i4 : Nat) (hc4 : (decide ((i4 : Int) < ((List.length x3.fields) : Int))) = false) : P_law19_SmallMeta_b4 p0 i3 x3 (E_law19_SmallMeta_b4 p0 i3 x3 i4) (.k0) := by
  exact ⟨(envF (Z_law19_SmallMeta_b4_0 p0 i3 x3 i4)), (zoF (ZO_law19_SmallMeta_b4_0 p0 i3 x3 i4)), tells_outV (h := HO_law19_SmallMeta_b4 p0 i3 x3 i4) (vw := []) VOK.nil (x := ((.exit 8), S_law19_SmallMeta_b4_0 p0 i3 x3 (envF (Z_law19_SmallMeta_b4_0 p0 i3 x3 i4)) (zoF (ZO_law19_SmallMeta_b4_0 p0 i3 x3 i4)))) (hs := [(0, (bE false, []))]) (as := []) (Met.cons (dec (decide ((i4 : Int) < ((List.length x3.fields) : Int))) false hc4) Met.nil) Told.nil (by kernel_rfl)⟩
def Z_law19_SmallMeta_b4_1 (p0 : Meta) (i3 : Nat) (x3 : Manager) (i4 : Nat) (x4 : ByteArray) : List PV :=
  [.un, .un, .un, .un, .un, .un, .un, .un, .un, .un, .un, .un, .str x4, .un, .un, .un, .un, .un, .un, .un, .un, .un, .un, .un, .un, .un, .un, .un, .un, .un, .un, .un, .un, .un, .un, .un, .un, .un, .un, .un, .un, .un, .un, .un, .un, .un, .un, .un, .un, .un, .un, .un, .un, .un, .un, .un, .un, .un, .un, .un, .un, .un, .un, .un, .un, .un, .un, .un, .un, .un, .un, .un, .un, .un, .un, .un, .un, .un, .un, .un, .un, .un, .un, .un, .un, .un, .un, .un, .un, .un, .un, .un, .un, .sl (Manager.rows p0.managers), .int .i64 ((List.length p0.managers) : Int), .int .i64 (i3 : Int), .un, .un, .un, .un, .un, .un, .un, .un, .un, .un, .un, .un, .un, .un, .sl (strRows x3.fields), .int .i64 ((List.length x3.fields) : Int), .int .i64 (i4 : Int), .bool true, .rf [.str x4], .str x4, .str x4, .int .i64 (ByteArray.size x4 : Int), .bool true, .un, .un]
def ZO_law19_SmallMeta_b4_1 (_p0 : Meta) (_i3 : Nat) (_x3 : Manager) (_i4 : Nat) (_x4 : ByteArray) : List (Nat × List PV) :=
  []
theorem x_law19_SmallMeta_b4_1 (p0 : Meta) (i3 : Nat) (x3 : Manager) (_H : H_law19_SmallMeta_b4 p0 i3 x3) (x4 : ByteArray) (i4 : Nat) (hx4 : x3.fields[i4]? = some x4) (_hi4 : i4 < List.length x3.fields) (hc4 : (decide ((i4 : Int) < ((List.length x3.fields) : Int))) = true) (h0 : (decide (2000 < (ByteArray.size x4 : Int))) = true) : P_law19_SmallMeta_b4 p0 i3 x3 (E_law19_SmallMeta_b4 p0 i3 x3 i4) (.k1) := by
  exact ⟨(envF (Z_law19_SmallMeta_b4_1 p0 i3 x3 i4 x4)), (zoF (ZO_law19_SmallMeta_b4_1 p0 i3 x3 i4 x4)), tells_outV (h := HO_law19_SmallMeta_b4 p0 i3 x3 i4) (vw := []) VOK.nil (x := (.ret, S_law19_SmallMeta_b4_1 p0 i3 x3 (envF (Z_law19_SmallMeta_b4_1 p0 i3 x3 i4 x4)) (zoF (ZO_law19_SmallMeta_b4_1 p0 i3 x3 i4 x4)))) (hs := [(0, (bE true, [])), (0, (vE (.rf [.str x4]), [])), (4, (bE true, []))]) (as := []) (Met.cons (dec (decide ((i4 : Int) < ((List.length x3.fields) : Int))) true hc4) (Met.cons (ix_ok 1 (strRows x3.fields) i4 _ (strRowsGet hx4) rfl) (Met.cons (dec (decide (2000 < (ByteArray.size x4 : Int))) true h0) Met.nil))) Told.nil (by kernel_rfl)⟩
theorem n_law19_SmallMeta_b4_2 (p0 : Meta) (i3 : Nat) (x3 : Manager) (H : H_law19_SmallMeta_b4 p0 i3 x3) (x4 : ByteArray) (i4 : Nat) (hx4 : x3.fields[i4]? = some x4) (hi4 : i4 < List.length x3.fields) (hc4 : (decide ((i4 : Int) < ((List.length x3.fields) : Int))) = true) (h0 : (decide (2000 < (ByteArray.size x4 : Int))) = false) {r : Rs} (hr : Tells G (E_law19_SmallMeta_b4 p0 i3 x3 (i4 + 1)) r) : Tells G (E_law19_SmallMeta_b4 p0 i3 x3 i4) r := by
  have hB := H.1
  exact tells_nextV (h := HO_law19_SmallMeta_b4 p0 i3 x3 i4) (vw := []) VOK.nil (y := (HE_law19_SmallMeta_b4 p0 i3 x3 (i4 + 1), HO_law19_SmallMeta_b4 p0 i3 x3 (i4 + 1))) (hs := [(0, (bE true, [])), (0, (vE (.rf [.str x4]), [])), (4, (bE false, [])), (0, (vE (.int .i64 ((i4 + 1 : Nat) : Int)), []))]) (as := []) (Met.cons (dec (decide ((i4 : Int) < ((List.length x3.fields) : Int))) true hc4) (Met.cons (ix_ok 1 (strRows x3.fields) i4 _ (strRowsGet hx4) rfl) (Met.cons (dec (decide (2000 < (ByteArray.size x4 : Int))) false h0) (Met.cons (inc_ok i4 (by omega)) Met.nil)))) Told.nil (by kernel_rfl) hr
theorem lt_law19_SmallMeta_b4 (p0 : Meta) (i3 : Nat) (x3 : Manager) (H : H_law19_SmallMeta_b4 p0 i3 x3) : ∀ (r4 : List ByteArray) (i4 : Nat), List.drop i4 x3.fields = r4 → P_law19_SmallMeta_b4 p0 i3 x3 (E_law19_SmallMeta_b4 p0 i3 x3 i4) (l_law19_SmallMeta_b4 p0 i3 x3 r4 i4)
  | [], i4, hd => by
    have hc4 : (decide ((i4 : Int) < ((List.length x3.fields) : Int))) = false := by have := drop_end hd; simp; omega
    rw [l_law19_SmallMeta_b4]
    exact x_law19_SmallMeta_b4_0 p0 i3 x3 H i4 hc4
  | x4 :: r4, i4, hd => by
    obtain ⟨hx4, hi4, hd'⟩ := drop_get hd
    have hc4 : (decide ((i4 : Int) < ((List.length x3.fields) : Int))) = true := by simp; omega
    rw [l_law19_SmallMeta_b4]
    cases h0 : (decide (2000 < (ByteArray.size x4 : Int))) with
    | true =>
      exact x_law19_SmallMeta_b4_1 p0 i3 x3 H x4 i4 hx4 hi4 hc4 h0
    | false =>
      exact P_law19_SmallMeta_b4_mono p0 i3 x3 (fun r hr => n_law19_SmallMeta_b4_2 p0 i3 x3 H x4 i4 hx4 hi4 hc4 h0 hr) _ (lt_law19_SmallMeta_b4 p0 i3 x3 H r4 (i4 + 1) hd')
inductive R_law19_SmallMeta_b3 where
  | k0
  | k1
  | k2
def l_law19_SmallMeta_b3 (p0 : Meta) : List Manager → Nat → R_law19_SmallMeta_b3
  | [], _i3 =>
    (.k0)
  | x3 :: r3, i3 =>
    bif (decide (400 < (ByteArray.size x3.name : Int))) then
      (.k1)
    else
      bif (decide (200 < ((List.length x3.fields) : Int))) then
        (.k1)
      else
        (match (l_law19_SmallMeta_b4 p0 i3 x3 x3.fields 0) with
        | .k0 => l_law19_SmallMeta_b3 p0 r3 (i3 + 1)
        | .k1 => (.k2))
def HE_law19_SmallMeta_b3 (p0 : Meta) (i3 : Nat) : List PV :=
  [.un, .un, .un, .un, .un, .un, .un, .un, .un, .un, .un, .un, .un, .un, .un, .un, .un, .un, .un, .un, .un, .un, .un, .un, .un, .un, .un, .un, .un, .un, .un, .un, .un, .un, .un, .un, .un, .un, .un, .un, .un, .un, .un, .un, .un, .un, .un, .un, .un, .un, .un, .un, .un, .un, .un, .un, .un, .un, .un, .un, .un, .un, .un, .un, .un, .un, .un, .un, .un, .un, .un, .un, .un, .un, .un, .un, .un, .un, .un, .un, .un, .un, .un, .un, .un, .un, .un, .un, .un, .un, .un, .un, .un, .sl (Manager.rows p0.managers), .int .i64 ((List.length p0.managers) : Int), .int .i64 (i3 : Int), .un, .un, .un, .un, .un, .un, .un, .un, .un, .un, .un, .un, .un, .un, .un, .un, .un, .un, .un, .un, .un, .un, .un, .un, .un]
def HO_law19_SmallMeta_b3 (_p0 : Meta) (_i3 : Nat) : List Ob :=
  []
def E_law19_SmallMeta_b3 (p0 : Meta) (i3 : Nat) : En := .loop 0 Ir.law19_SmallMeta_b3_live Ir.law19_SmallMeta_b3 (HE_law19_SmallMeta_b3 p0 i3) (HO_law19_SmallMeta_b3 p0 i3)
def S_law19_SmallMeta_b3_0 (_p0 : Meta) (z : Nat → PV) (_zo : Nat → List PV) : St :=
  ⟨[z 0, z 1, z 2, z 3, z 4, z 5, z 6, z 7, z 8, z 9, z 10, z 11, z 12, z 13, z 14, z 15, z 16, z 17, z 18, z 19, z 20, z 21, z 22, z 23, z 24, z 25, z 26, z 27, z 28, z 29, z 30, z 31, z 32, z 33, z 34, z 35, z 36, z 37, z 38, z 39, z 40, z 41, z 42, z 43, z 44, z 45, z 46, z 47, z 48, z 49, z 50, z 51, z 52, z 53, z 54, z 55, z 56, z 57, z 58, z 59, z 60, z 61, z 62, z 63, z 64, z 65, z 66, z 67, z 68, z 69, z 70, z 71, z 72, z 73, z 74, z 75, z 76, z 77, z 78, z 79, z 80, z 81, z 82, z 83, z 84, z 85, z 86, z 87, z 88, z 89, z 90, z 91, z 92, z 93, z 94, z 95, z 96, z 97, z 98, z 99, z 100, z 101, z 102, z 103, z 104, z 105, z 106, z 107, z 108, z 109, z 110, z 111, z 112, z 113, z 114, z 115, z 116, z 117, z 118, z 119, z 120], [], 64⟩
def S_law19_SmallMeta_b3_1 (_p0 : Meta) (z : Nat → PV) (zo : Nat → List PV) : St :=
  ⟨[z 0, z 1, .bool false, z 3, z 4, z 5, z 6, z 7, z 8, z 9, z 10, z 11, z 12, z 13, z 14, z 15, z 16, z 17, z 18, z 19, z 20, z 21, z 22, z 23, z 24, z 25, z 26, z 27, z 28, z 29, z 30, z 31, z 32, z 33, z 34, z 35, z 36, z 37, z 38, z 39, z 40, z 41, z 42, z 43, z 44, z 45, z 46, z 47, z 48, z 49, z 50, z 51, z 52, z 53, z 54, z 55, z 56, z 57, z 58, z 59, z 60, z 61, z 62, z 63, z 64, z 65, z 66, z 67, z 68, z 69, z 70, z 71, z 72, z 73, z 74, z 75, z 76, z 77, z 78, z 79, z 80, z 81, z 82, z 83, z 84, z 85, z 86, z 87, z 88, z 89, z 90, z 91, z 92, z 93, z 94, z 95, z 96, z 97, z 98, z 99, z 100, z 101, z 102, z 103, z 104, z 105, z 106, z 107, z 108, z 109, z 110, z 111, z 112, z 113, z 114, z 115, z 116, z 117, z 118, z 119, z 120], [(192, ⟨2, 0, true, zo 192⟩)], 1024⟩
def S_law19_SmallMeta_b3_2 (_p0 : Meta) (z : Nat → PV) (_zo : Nat → List PV) : St :=
  ⟨[z 0, z 1, .bool false, z 3, z 4, z 5, z 6, z 7, z 8, z 9, z 10, z 11, z 12, z 13, z 14, z 15, z 16, z 17, z 18, z 19, z 20, z 21, z 22, z 23, z 24, z 25, z 26, z 27, z 28, z 29, z 30, z 31, z 32, z 33, z 34, z 35, z 36, z 37, z 38, z 39, z 40, z 41, z 42, z 43, z 44, z 45, z 46, z 47, z 48, z 49, z 50, z 51, z 52, z 53, z 54, z 55, z 56, z 57, z 58, z 59, z 60, z 61, z 62, z 63, z 64, z 65, z 66, z 67, z 68, z 69, z 70, z 71, z 72, z 73, z 74, z 75, z 76, z 77, z 78, z 79, z 80, z 81, z 82, z 83, z 84, z 85, z 86, z 87, z 88, z 89, z 90, z 91, z 92, z 93, z 94, z 95, z 96, z 97, z 98, z 99, z 100, z 101, z 102, z 103, z 104, z 105, z 106, z 107, z 108, z 109, z 110, z 111, z 112, z 113, z 114, z 115, z 116, z 117, z 118, z 119, z 120], [], 512⟩
def P_law19_SmallMeta_b3 (p0 : Meta) (e : En) : R_law19_SmallMeta_b3 → Prop
  | .k0 => ∃ z zo, Tells G e (.st (.exit 6) (S_law19_SmallMeta_b3_0 p0 z zo))
  | .k1 => ∃ z zo, Tells G e (.st .ret (S_law19_SmallMeta_b3_1 p0 z zo))
  | .k2 => ∃ z zo, Tells G e (.st .ret (S_law19_SmallMeta_b3_2 p0 z zo))
theorem P_law19_SmallMeta_b3_mono (p0 : Meta) {e e' : En} (h : ∀ r, Tells G e r → Tells G e' r) : ∀ q, P_law19_SmallMeta_b3 p0 e q → P_law19_SmallMeta_b3 p0 e' q
  | .k0, ⟨z, zo, hz⟩ => ⟨z, zo, h _ hz⟩
  | .k1, ⟨z, zo, hz⟩ => ⟨z, zo, h _ hz⟩
  | .k2, ⟨z, zo, hz⟩ => ⟨z, zo, h _ hz⟩
def H_law19_SmallMeta_b3 (p0 : Meta) : Prop := (List.length p0.managers ≤ 4611686018427387904) ∧ (∀ (i3 : Nat) (x3 : Manager), p0.managers[i3]? = some x3 → H_law19_SmallMeta_b4 p0 i3 x3) ∧ True
def Z_law19_SmallMeta_b3_0 (p0 : Meta) (i3 : Nat) : List PV :=
  [.un, .un, .un, .un, .un, .un, .un, .un, .un, .un, .un, .un, .un, .un, .un, .un, .un, .un, .un, .un, .un, .un, .un, .un, .un, .un, .un, .un, .un, .un, .un, .un, .un, .un, .un, .un, .un, .un, .un, .un, .un, .un, .un, .un, .un, .un, .un, .un, .un, .un, .un, .un, .un, .un, .un, .un, .un, .un, .un, .un, .un, .un, .un, .un, .un, .un, .un, .un, .un, .un, .un, .un, .un, .un, .un, .un, .un, .un, .un, .un, .un, .un, .un, .un, .un, .un, .un, .un, .un, .un, .un, .un, .un, .sl (Manager.rows p0.managers), .int .i64 ((List.length p0.managers) : Int), .int .i64 (i3 : Int), .bool false, .un, .un, .un, .un, .un, .un, .un, .un, .un, .un, .un, .un, .un, .un, .un, .un, .un, .un, .un, .un, .un, .un, .un, .un]
def ZO_law19_SmallMeta_b3_0 (_p0 : Meta) (_i3 : Nat) : List (Nat × List PV) :=
  []
theorem x_law19_SmallMeta_b3_0 (p0 : Meta) (_H : H_law19_SmallMeta_b3 p0) (i3 : Nat) (hc3 : (decide ((i3 : Int) < ((List.length p0.managers) : Int))) = false) : P_law19_SmallMeta_b3 p0 (E_law19_SmallMeta_b3 p0 i3) (.k0) := by
  exact ⟨(envF (Z_law19_SmallMeta_b3_0 p0 i3)), (zoF (ZO_law19_SmallMeta_b3_0 p0 i3)), tells_outV (h := HO_law19_SmallMeta_b3 p0 i3) (vw := []) VOK.nil (x := ((.exit 6), S_law19_SmallMeta_b3_0 p0 (envF (Z_law19_SmallMeta_b3_0 p0 i3)) (zoF (ZO_law19_SmallMeta_b3_0 p0 i3)))) (hs := [(0, (bE false, []))]) (as := []) (Met.cons (dec (decide ((i3 : Int) < ((List.length p0.managers) : Int))) false hc3) Met.nil) Told.nil (by kernel_rfl)⟩
def Z_law19_SmallMeta_b3_1 (p0 : Meta) (i3 : Nat) (x3 : Manager) : List PV :=
  [.un, .un, .un, .un, .un, .un, .un, .un, .un, .un, .bx 192 0, .un, .un, .un, .un, .un, .un, .un, .un, .un, .un, .un, .un, .un, .un, .un, .un, .un, .un, .un, .un, .un, .un, .un, .un, .un, .un, .un, .un, .un, .un, .un, .un, .un, .un, .un, .un, .un, .un, .un, .un, .un, .un, .un, .un, .un, .un, .un, .un, .un, .un, .un, .un, .un, .un, .un, .un, .un, .un, .un, .un, .un, .un, .un, .un, .un, .un, .un, .un, .un, .un, .un, .un, .un, .un, .un, .un, .un, .un, .un, .un, .un, .un, .sl (Manager.rows p0.managers), .int .i64 ((List.length p0.managers) : Int), .int .i64 (i3 : Int), .bool true, .rf [.str x3.name, .sl (strRows x3.fields)], .agg [.str x3.name, .sl (strRows x3.fields)], .bx 192 0, .str x3.name, .int .i64 (ByteArray.size x3.name : Int), .bool true, .bool true, .tup [], .tup [], .tup [], .tup [], .bool true, .un, .un, .un, .un, .un, .un, .un, .un, .un, .un, .un, .un]
def ZO_law19_SmallMeta_b3_1 (_p0 : Meta) (_i3 : Nat) (x3 : Manager) : List (Nat × List PV) :=
  [(192, [.str x3.name, .sl (strRows x3.fields)])]
theorem x_law19_SmallMeta_b3_1 (p0 : Meta) (_H : H_law19_SmallMeta_b3 p0) (x3 : Manager) (i3 : Nat) (hx3 : p0.managers[i3]? = some x3) (_hi3 : i3 < List.length p0.managers) (hc3 : (decide ((i3 : Int) < ((List.length p0.managers) : Int))) = true) (h0 : (decide (400 < (ByteArray.size x3.name : Int))) = true) : P_law19_SmallMeta_b3 p0 (E_law19_SmallMeta_b3 p0 i3) (.k1) := by
  exact ⟨(envF (Z_law19_SmallMeta_b3_1 p0 i3 x3)), (zoF (ZO_law19_SmallMeta_b3_1 p0 i3 x3)), tells_outV (h := HO_law19_SmallMeta_b3 p0 i3) (vw := []) VOK.nil (x := (.ret, S_law19_SmallMeta_b3_1 p0 (envF (Z_law19_SmallMeta_b3_1 p0 i3 x3)) (zoF (ZO_law19_SmallMeta_b3_1 p0 i3 x3)))) (hs := [(0, (bE true, [])), (0, (vE (.rf (Manager.cells x3)), [])), (6, (bE true, []))]) (as := []) (Met.cons (dec (decide ((i3 : Int) < ((List.length p0.managers) : Int))) true hc3) (Met.cons (ix_ok 2 (Manager.rows p0.managers) i3 _ (Manager.rowsGet hx3) rfl) (Met.cons (dec (decide (400 < (ByteArray.size x3.name : Int))) true h0) Met.nil))) Told.nil (by kernel_rfl)⟩
def Z_law19_SmallMeta_b3_2 (p0 : Meta) (i3 : Nat) (x3 : Manager) : List PV :=
  [.un, .un, .un, .un, .un, .un, .un, .un, .un, .un, .bx 192 0, .un, .un, .un, .un, .un, .un, .un, .un, .un, .un, .un, .un, .un, .un, .un, .un, .un, .un, .un, .un, .un, .un, .un, .un, .un, .un, .un, .un, .un, .un, .un, .un, .un, .un, .un, .un, .un, .un, .un, .un, .un, .un, .un, .un, .un, .un, .un, .un, .un, .un, .un, .un, .un, .un, .un, .un, .un, .un, .un, .un, .un, .un, .un, .un, .un, .un, .un, .un, .un, .un, .un, .un, .un, .un, .un, .un, .un, .un, .un, .un, .un, .un, .sl (Manager.rows p0.managers), .int .i64 ((List.length p0.managers) : Int), .int .i64 (i3 : Int), .bool true, .rf [.str x3.name, .sl (strRows x3.fields)], .agg [.str x3.name, .sl (strRows x3.fields)], .bx 192 0, .str x3.name, .int .i64 (ByteArray.size x3.name : Int), .bool false, .bool false, .bx 192 1, .sl (strRows x3.fields), .int .i64 ((List.length x3.fields) : Int), .bool true, .bool true, .un, .un, .un, .un, .un, .un, .un, .un, .un, .un, .un, .un]
def ZO_law19_SmallMeta_b3_2 (_p0 : Meta) (_i3 : Nat) (x3 : Manager) : List (Nat × List PV) :=
  [(192, [.str x3.name, .sl (strRows x3.fields)])]
theorem x_law19_SmallMeta_b3_2 (p0 : Meta) (_H : H_law19_SmallMeta_b3 p0) (x3 : Manager) (i3 : Nat) (hx3 : p0.managers[i3]? = some x3) (_hi3 : i3 < List.length p0.managers) (hc3 : (decide ((i3 : Int) < ((List.length p0.managers) : Int))) = true) (h0 : (decide (400 < (ByteArray.size x3.name : Int))) = false) (h1 : (decide (200 < ((List.length x3.fields) : Int))) = true) : P_law19_SmallMeta_b3 p0 (E_law19_SmallMeta_b3 p0 i3) (.k1) := by
  exact ⟨(envF (Z_law19_SmallMeta_b3_2 p0 i3 x3)), (zoF (ZO_law19_SmallMeta_b3_2 p0 i3 x3)), tells_outV (h := HO_law19_SmallMeta_b3 p0 i3) (vw := []) VOK.nil (x := (.ret, S_law19_SmallMeta_b3_1 p0 (envF (Z_law19_SmallMeta_b3_2 p0 i3 x3)) (zoF (ZO_law19_SmallMeta_b3_2 p0 i3 x3)))) (hs := [(0, (bE true, [])), (0, (vE (.rf (Manager.cells x3)), [])), (6, (bE false, [])), (3, (vE (.int .i64 ((List.length x3.fields) : Int)), [])), (0, (bE true, []))]) (as := []) (Met.cons (dec (decide ((i3 : Int) < ((List.length p0.managers) : Int))) true hc3) (Met.cons (ix_ok 2 (Manager.rows p0.managers) i3 _ (Manager.rowsGet hx3) rfl) (Met.cons (dec (decide (400 < (ByteArray.size x3.name : Int))) false h0) (Met.cons (len_ok (strRows x3.fields) (List.length x3.fields) (strRowsLen x3.fields)) (Met.cons (dec (decide (200 < ((List.length x3.fields) : Int))) true h1) Met.nil))))) Told.nil (by kernel_rfl)⟩
theorem n_law19_SmallMeta_b3_3 (p0 : Meta) (H : H_law19_SmallMeta_b3 p0) (x3 : Manager) (i3 : Nat) (hx3 : p0.managers[i3]? = some x3) (hi3 : i3 < List.length p0.managers) (hc3 : (decide ((i3 : Int) < ((List.length p0.managers) : Int))) = true) (h0 : (decide (400 < (ByteArray.size x3.name : Int))) = false) (h1 : (decide (200 < ((List.length x3.fields) : Int))) = false) (z2 : Nat → PV) (zo2 : Nat → List PV) (hl2 : Tells G (E_law19_SmallMeta_b4 p0 i3 x3 0) (.st (.exit 8) (S_law19_SmallMeta_b4_0 p0 i3 x3 z2 zo2))) {r : Rs} (hr : Tells G (E_law19_SmallMeta_b3 p0 (i3 + 1)) r) : Tells G (E_law19_SmallMeta_b3 p0 i3) r := by
  have hB := H.1
  exact tells_nextV (h := HO_law19_SmallMeta_b3 p0 i3) (vw := []) VOK.nil (y := (HE_law19_SmallMeta_b3 p0 (i3 + 1), HO_law19_SmallMeta_b3 p0 (i3 + 1))) (hs := [(0, (bE true, [])), (0, (vE (.rf (Manager.cells x3)), [])), (6, (bE false, [])), (3, (vE (.int .i64 ((List.length x3.fields) : Int)), [])), (0, (bE false, [])), (3, (vE (.int .i64 ((List.length x3.fields) : Int)), [])), (1, (vE (.int .i64 ((i3 + 1 : Nat) : Int)), []))]) (as := [⟨.st (.exit 8) (S_law19_SmallMeta_b4_0 p0 i3 x3 z2 zo2), []⟩]) (Met.cons (dec (decide ((i3 : Int) < ((List.length p0.managers) : Int))) true hc3) (Met.cons (ix_ok 2 (Manager.rows p0.managers) i3 _ (Manager.rowsGet hx3) rfl) (Met.cons (dec (decide (400 < (ByteArray.size x3.name : Int))) false h0) (Met.cons (len_ok (strRows x3.fields) (List.length x3.fields) (strRowsLen x3.fields)) (Met.cons (dec (decide (200 < ((List.length x3.fields) : Int))) false h1) (Met.cons (len_ok (strRows x3.fields) (List.length x3.fields) (strRowsLen x3.fields)) (Met.cons (inc_ok i3 (by omega)) Met.nil))))))) (Told.cons hl2 Told.nil) (by kernel_rfl) hr
def Z_law19_SmallMeta_b3_4 (_p0 : Meta) (_i3 : Nat) (_x3 : Manager) (z2 : Nat → PV) (_zo2 : Nat → List PV) : List PV :=
  [(z2 0), (z2 1), .un, (z2 3), (z2 4), (z2 5), (z2 6), (z2 7), (z2 8), (z2 9), (z2 10), (z2 11), (z2 12), (z2 13), (z2 14), (z2 15), (z2 16), (z2 17), (z2 18), (z2 19), (z2 20), (z2 21), (z2 22), (z2 23), (z2 24), (z2 25), (z2 26), (z2 27), (z2 28), (z2 29), (z2 30), (z2 31), (z2 32), (z2 33), (z2 34), (z2 35), (z2 36), (z2 37), (z2 38), (z2 39), (z2 40), (z2 41), (z2 42), (z2 43), (z2 44), (z2 45), (z2 46), (z2 47), (z2 48), (z2 49), (z2 50), (z2 51), (z2 52), (z2 53), (z2 54), (z2 55), (z2 56), (z2 57), (z2 58), (z2 59), (z2 60), (z2 61), (z2 62), (z2 63), (z2 64), (z2 65), (z2 66), (z2 67), (z2 68), (z2 69), (z2 70), (z2 71), (z2 72), (z2 73), (z2 74), (z2 75), (z2 76), (z2 77), (z2 78), (z2 79), (z2 80), (z2 81), (z2 82), (z2 83), (z2 84), (z2 85), (z2 86), (z2 87), (z2 88), (z2 89), (z2 90), (z2 91), (z2 92), (z2 93), (z2 94), (z2 95), (z2 96), (z2 97), (z2 98), (z2 99), (z2 100), (z2 101), (z2 102), (z2 103), (z2 104), (z2 105), (z2 106), (z2 107), (z2 108), (z2 109), (z2 110), (z2 111), (z2 112), (z2 113), (z2 114), (z2 115), (z2 116), (z2 117), (z2 118), (z2 119), (z2 120)]
def ZO_law19_SmallMeta_b3_4 (_p0 : Meta) (_i3 : Nat) (_x3 : Manager) (_z2 : Nat → PV) (_zo2 : Nat → List PV) : List (Nat × List PV) :=
  []
theorem x_law19_SmallMeta_b3_4 (p0 : Meta) (_H : H_law19_SmallMeta_b3 p0) (x3 : Manager) (i3 : Nat) (hx3 : p0.managers[i3]? = some x3) (_hi3 : i3 < List.length p0.managers) (hc3 : (decide ((i3 : Int) < ((List.length p0.managers) : Int))) = true) (h0 : (decide (400 < (ByteArray.size x3.name : Int))) = false) (h1 : (decide (200 < ((List.length x3.fields) : Int))) = false) (z2 : Nat → PV) (zo2 : Nat → List PV) (hl2 : Tells G (E_law19_SmallMeta_b4 p0 i3 x3 0) (.st .ret (S_law19_SmallMeta_b4_1 p0 i3 x3 z2 zo2))) : P_law19_SmallMeta_b3 p0 (E_law19_SmallMeta_b3 p0 i3) (.k2) := by
  exact ⟨(envF (Z_law19_SmallMeta_b3_4 p0 i3 x3 z2 zo2)), (zoF (ZO_law19_SmallMeta_b3_4 p0 i3 x3 z2 zo2)), tells_outV (h := HO_law19_SmallMeta_b3 p0 i3) (vw := []) VOK.nil (x := (.ret, S_law19_SmallMeta_b3_2 p0 (envF (Z_law19_SmallMeta_b3_4 p0 i3 x3 z2 zo2)) (zoF (ZO_law19_SmallMeta_b3_4 p0 i3 x3 z2 zo2)))) (hs := [(0, (bE true, [])), (0, (vE (.rf (Manager.cells x3)), [])), (6, (bE false, [])), (3, (vE (.int .i64 ((List.length x3.fields) : Int)), [])), (0, (bE false, [])), (3, (vE (.int .i64 ((List.length x3.fields) : Int)), []))]) (as := [⟨.st .ret (S_law19_SmallMeta_b4_1 p0 i3 x3 z2 zo2), []⟩]) (Met.cons (dec (decide ((i3 : Int) < ((List.length p0.managers) : Int))) true hc3) (Met.cons (ix_ok 2 (Manager.rows p0.managers) i3 _ (Manager.rowsGet hx3) rfl) (Met.cons (dec (decide (400 < (ByteArray.size x3.name : Int))) false h0) (Met.cons (len_ok (strRows x3.fields) (List.length x3.fields) (strRowsLen x3.fields)) (Met.cons (dec (decide (200 < ((List.length x3.fields) : Int))) false h1) (Met.cons (len_ok (strRows x3.fields) (List.length x3.fields) (strRowsLen x3.fields)) Met.nil)))))) (Told.cons hl2 Told.nil) (by kernel_rfl)⟩
theorem lt_law19_SmallMeta_b3 (p0 : Meta) (H : H_law19_SmallMeta_b3 p0) : ∀ (r3 : List Manager) (i3 : Nat), List.drop i3 p0.managers = r3 → P_law19_SmallMeta_b3 p0 (E_law19_SmallMeta_b3 p0 i3) (l_law19_SmallMeta_b3 p0 r3 i3)
  | [], i3, hd => by
    have hc3 : (decide ((i3 : Int) < ((List.length p0.managers) : Int))) = false := by have := drop_end hd; simp; omega
    rw [l_law19_SmallMeta_b3]
    exact x_law19_SmallMeta_b3_0 p0 H i3 hc3
  | x3 :: r3, i3, hd => by
    obtain ⟨hx3, hi3, hd'⟩ := drop_get hd
    have hc3 : (decide ((i3 : Int) < ((List.length p0.managers) : Int))) = true := by simp; omega
    rw [l_law19_SmallMeta_b3]
    cases h0 : (decide (400 < (ByteArray.size x3.name : Int))) with
    | true =>
      exact x_law19_SmallMeta_b3_1 p0 H x3 i3 hx3 hi3 hc3 h0
    | false =>
      cases h1 : (decide (200 < ((List.length x3.fields) : Int))) with
      | true =>
        exact x_law19_SmallMeta_b3_2 p0 H x3 i3 hx3 hi3 hc3 h0 h1
      | false =>
        have hl2 := lt_law19_SmallMeta_b4 p0 i3 x3 ((H.2.1 i3 x3 hx3)) x3.fields 0 (by simp)
        cases hr2 : (l_law19_SmallMeta_b4 p0 i3 x3 x3.fields 0) with
        | k0 =>
          rw [hr2] at hl2
          obtain ⟨z2, zo2, hl2⟩ := hl2
          exact P_law19_SmallMeta_b3_mono p0 (fun r hr => n_law19_SmallMeta_b3_3 p0 H x3 i3 hx3 hi3 hc3 h0 h1 z2 zo2 hl2 hr) _ (lt_law19_SmallMeta_b3 p0 H r3 (i3 + 1) hd')
        | k1 =>
          rw [hr2] at hl2
          obtain ⟨z2, zo2, hl2⟩ := hl2
          exact x_law19_SmallMeta_b3_4 p0 H x3 i3 hx3 hi3 hc3 h0 h1 z2 zo2 hl2
/-- orchestrator/ orchestratorlaw19.SmallMeta -/
def s_law19_SmallMeta (p0 : Meta) : Bool :=
  bif (decide (60 < ((List.length p0.labels) : Int))) then
    false
  else
    bif (decide (60 < ((List.length p0.owners) : Int))) then
      false
    else
      bif (decide (60 < ((List.length p0.finalizers) : Int))) then
        false
      else
        bif (decide (60 < ((List.length p0.managers) : Int))) then
          false
        else
          bif (decide (400 < (w64 ((w64 ((ByteArray.size p0.kind : Int) + (ByteArray.size p0.namespace_ : Int))) + (ByteArray.size p0.name : Int))))) then
            false
          else
            (match (l_law19_SmallMeta_b0 p0 p0.labels 0) with
            | .k0 => (match (l_law19_SmallMeta_b1 p0 p0.owners 0) with
              | .k0 => (match (l_law19_SmallMeta_b2 p0 p0.finalizers 0) with
                | .k0 => (match (l_law19_SmallMeta_b3 p0 p0.managers 0) with
                  | .k0 => true
                  | .k1 => false
                  | .k2 => false)
                | .k1 => false)
              | .k1 => false)
            | .k1 => false)
def c_law19_SmallMeta (p0 : Meta) : En := .call 25 [.agg (Meta.cells p0)] []
def a_law19_SmallMeta (p0 : Meta) : Rs := .ret (.bool (s_law19_SmallMeta p0)) []
def H_law19_SmallMeta (p0 : Meta) : Prop := (H_law19_SmallMeta_b0 p0) ∧ (H_law19_SmallMeta_b1 p0) ∧ (H_law19_SmallMeta_b2 p0) ∧ (H_law19_SmallMeta_b3 p0) ∧ True
theorem t_law19_SmallMeta_0 (p0 : Meta) (_H : H_law19_SmallMeta p0) (h0 : (decide (60 < ((List.length p0.labels) : Int))) = true) : Tells G (c_law19_SmallMeta p0) (.ret (.bool false) []) :=
  tells_V (fn := Ir.law19_SmallMeta) rfl VOK.nil (hs := [(4, (vE (.int .i64 ((List.length p0.labels) : Int)), [])), (0, (bE true, []))]) (as := []) (Met.cons (len_ok (Label.rows p0.labels) (List.length p0.labels) (Label.rowsLen p0.labels)) (Met.cons (dec (decide (60 < ((List.length p0.labels) : Int))) true h0) Met.nil)) Told.nil (by kernel_rfl)
theorem t_law19_SmallMeta_1 (p0 : Meta) (_H : H_law19_SmallMeta p0) (h0 : (decide (60 < ((List.length p0.labels) : Int))) = false) (h1 : (decide (60 < ((List.length p0.owners) : Int))) = true) : Tells G (c_law19_SmallMeta p0) (.ret (.bool false) []) :=
  tells_V (fn := Ir.law19_SmallMeta) rfl VOK.nil (hs := [(4, (vE (.int .i64 ((List.length p0.labels) : Int)), [])), (0, (bE false, [])), (3, (vE (.int .i64 ((List.length p0.owners) : Int)), [])), (0, (bE true, []))]) (as := []) (Met.cons (len_ok (Label.rows p0.labels) (List.length p0.labels) (Label.rowsLen p0.labels)) (Met.cons (dec (decide (60 < ((List.length p0.labels) : Int))) false h0) (Met.cons (len_ok (Owner.rows p0.owners) (List.length p0.owners) (Owner.rowsLen p0.owners)) (Met.cons (dec (decide (60 < ((List.length p0.owners) : Int))) true h1) Met.nil)))) Told.nil (by kernel_rfl)
theorem t_law19_SmallMeta_2 (p0 : Meta) (_H : H_law19_SmallMeta p0) (h0 : (decide (60 < ((List.length p0.labels) : Int))) = false) (h1 : (decide (60 < ((List.length p0.owners) : Int))) = false) (h2 : (decide (60 < ((List.length p0.finalizers) : Int))) = true) : Tells G (c_law19_SmallMeta p0) (.ret (.bool false) []) :=
  tells_V (fn := Ir.law19_SmallMeta) rfl VOK.nil (hs := [(4, (vE (.int .i64 ((List.length p0.labels) : Int)), [])), (0, (bE false, [])), (3, (vE (.int .i64 ((List.length p0.owners) : Int)), [])), (0, (bE false, [])), (4, (vE (.int .i64 ((List.length p0.finalizers) : Int)), [])), (0, (bE true, []))]) (as := []) (Met.cons (len_ok (Label.rows p0.labels) (List.length p0.labels) (Label.rowsLen p0.labels)) (Met.cons (dec (decide (60 < ((List.length p0.labels) : Int))) false h0) (Met.cons (len_ok (Owner.rows p0.owners) (List.length p0.owners) (Owner.rowsLen p0.owners)) (Met.cons (dec (decide (60 < ((List.length p0.owners) : Int))) false h1) (Met.cons (len_ok (strRows p0.finalizers) (List.length p0.finalizers) (strRowsLen p0.finalizers)) (Met.cons (dec (decide (60 < ((List.length p0.finalizers) : Int))) true h2) Met.nil)))))) Told.nil (by kernel_rfl)
theorem t_law19_SmallMeta_3 (p0 : Meta) (_H : H_law19_SmallMeta p0) (h0 : (decide (60 < ((List.length p0.labels) : Int))) = false) (h1 : (decide (60 < ((List.length p0.owners) : Int))) = false) (h2 : (decide (60 < ((List.length p0.finalizers) : Int))) = false) (h3 : (decide (60 < ((List.length p0.managers) : Int))) = true) : Tells G (c_law19_SmallMeta p0) (.ret (.bool false) []) :=
  tells_V (fn := Ir.law19_SmallMeta) rfl VOK.nil (hs := [(4, (vE (.int .i64 ((List.length p0.labels) : Int)), [])), (0, (bE false, [])), (3, (vE (.int .i64 ((List.length p0.owners) : Int)), [])), (0, (bE false, [])), (4, (vE (.int .i64 ((List.length p0.finalizers) : Int)), [])), (0, (bE false, [])), (4, (vE (.int .i64 ((List.length p0.managers) : Int)), [])), (0, (bE true, []))]) (as := []) (Met.cons (len_ok (Label.rows p0.labels) (List.length p0.labels) (Label.rowsLen p0.labels)) (Met.cons (dec (decide (60 < ((List.length p0.labels) : Int))) false h0) (Met.cons (len_ok (Owner.rows p0.owners) (List.length p0.owners) (Owner.rowsLen p0.owners)) (Met.cons (dec (decide (60 < ((List.length p0.owners) : Int))) false h1) (Met.cons (len_ok (strRows p0.finalizers) (List.length p0.finalizers) (strRowsLen p0.finalizers)) (Met.cons (dec (decide (60 < ((List.length p0.finalizers) : Int))) false h2) (Met.cons (len_ok (Manager.rows p0.managers) (List.length p0.managers) (Manager.rowsLen p0.managers)) (Met.cons (dec (decide (60 < ((List.length p0.managers) : Int))) true h3) Met.nil)))))))) Told.nil (by kernel_rfl)
theorem t_law19_SmallMeta_4 (p0 : Meta) (_H : H_law19_SmallMeta p0) (h0 : (decide (60 < ((List.length p0.labels) : Int))) = false) (h1 : (decide (60 < ((List.length p0.owners) : Int))) = false) (h2 : (decide (60 < ((List.length p0.finalizers) : Int))) = false) (h3 : (decide (60 < ((List.length p0.managers) : Int))) = false) (h4 : (decide (400 < (w64 ((w64 ((ByteArray.size p0.kind : Int) + (ByteArray.size p0.namespace_ : Int))) + (ByteArray.size p0.name : Int))))) = true) : Tells G (c_law19_SmallMeta p0) (.ret (.bool false) []) :=
  tells_V (fn := Ir.law19_SmallMeta) rfl VOK.nil (hs := [(4, (vE (.int .i64 ((List.length p0.labels) : Int)), [])), (0, (bE false, [])), (3, (vE (.int .i64 ((List.length p0.owners) : Int)), [])), (0, (bE false, [])), (4, (vE (.int .i64 ((List.length p0.finalizers) : Int)), [])), (0, (bE false, [])), (4, (vE (.int .i64 ((List.length p0.managers) : Int)), [])), (0, (bE false, [])), (13, (bE true, []))]) (as := []) (Met.cons (len_ok (Label.rows p0.labels) (List.length p0.labels) (Label.rowsLen p0.labels)) (Met.cons (dec (decide (60 < ((List.length p0.labels) : Int))) false h0) (Met.cons (len_ok (Owner.rows p0.owners) (List.length p0.owners) (Owner.rowsLen p0.owners)) (Met.cons (dec (decide (60 < ((List.length p0.owners) : Int))) false h1) (Met.cons (len_ok (strRows p0.finalizers) (List.length p0.finalizers) (strRowsLen p0.finalizers)) (Met.cons (dec (decide (60 < ((List.length p0.finalizers) : Int))) false h2) (Met.cons (len_ok (Manager.rows p0.managers) (List.length p0.managers) (Manager.rowsLen p0.managers)) (Met.cons (dec (decide (60 < ((List.length p0.managers) : Int))) false h3) (Met.cons (dec (decide (400 < (w64 ((w64 ((ByteArray.size p0.kind : Int) + (ByteArray.size p0.namespace_ : Int))) + (ByteArray.size p0.name : Int))))) true h4) Met.nil))))))))) Told.nil (by kernel_rfl)
theorem t_law19_SmallMeta_5 (p0 : Meta) (_H : H_law19_SmallMeta p0) (h0 : (decide (60 < ((List.length p0.labels) : Int))) = false) (h1 : (decide (60 < ((List.length p0.owners) : Int))) = false) (h2 : (decide (60 < ((List.length p0.finalizers) : Int))) = false) (h3 : (decide (60 < ((List.length p0.managers) : Int))) = false) (h4 : (decide (400 < (w64 ((w64 ((ByteArray.size p0.kind : Int) + (ByteArray.size p0.namespace_ : Int))) + (ByteArray.size p0.name : Int))))) = false) (z5 : Nat → PV) (zo5 : Nat → List PV) (hl5 : Tells G (E_law19_SmallMeta_b0 p0 0) (.st (.exit 0) (S_law19_SmallMeta_b0_0 p0 z5 zo5))) (z6 : Nat → PV) (zo6 : Nat → List PV) (hl6 : Tells G (E_law19_SmallMeta_b1 p0 0) (.st (.exit 2) (S_law19_SmallMeta_b1_0 p0 z6 zo6))) (z7 : Nat → PV) (zo7 : Nat → List PV) (hl7 : Tells G (E_law19_SmallMeta_b2 p0 0) (.st (.exit 4) (S_law19_SmallMeta_b2_0 p0 z7 zo7))) (z8 : Nat → PV) (zo8 : Nat → List PV) (hl8 : Tells G (E_law19_SmallMeta_b3 p0 0) (.st (.exit 6) (S_law19_SmallMeta_b3_0 p0 z8 zo8))) : Tells G (c_law19_SmallMeta p0) (.ret (.bool true) []) :=
  tells_V (fn := Ir.law19_SmallMeta) rfl VOK.nil (hs := [(4, (vE (.int .i64 ((List.length p0.labels) : Int)), [])), (0, (bE false, [])), (3, (vE (.int .i64 ((List.length p0.owners) : Int)), [])), (0, (bE false, [])), (4, (vE (.int .i64 ((List.length p0.finalizers) : Int)), [])), (0, (bE false, [])), (4, (vE (.int .i64 ((List.length p0.managers) : Int)), [])), (0, (bE false, [])), (13, (bE false, [])), (3, (vE (.int .i64 ((List.length p0.labels) : Int)), [])), (3, (vE (.int .i64 ((List.length p0.owners) : Int)), [])), (3, (vE (.int .i64 ((List.length p0.finalizers) : Int)), [])), (3, (vE (.int .i64 ((List.length p0.managers) : Int)), []))]) (as := [⟨.st (.exit 0) (S_law19_SmallMeta_b0_0 p0 z5 zo5), []⟩, ⟨.st (.exit 2) (S_law19_SmallMeta_b1_0 p0 z6 zo6), []⟩, ⟨.st (.exit 4) (S_law19_SmallMeta_b2_0 p0 z7 zo7), []⟩, ⟨.st (.exit 6) (S_law19_SmallMeta_b3_0 p0 z8 zo8), []⟩]) (Met.cons (len_ok (Label.rows p0.labels) (List.length p0.labels) (Label.rowsLen p0.labels)) (Met.cons (dec (decide (60 < ((List.length p0.labels) : Int))) false h0) (Met.cons (len_ok (Owner.rows p0.owners) (List.length p0.owners) (Owner.rowsLen p0.owners)) (Met.cons (dec (decide (60 < ((List.length p0.owners) : Int))) false h1) (Met.cons (len_ok (strRows p0.finalizers) (List.length p0.finalizers) (strRowsLen p0.finalizers)) (Met.cons (dec (decide (60 < ((List.length p0.finalizers) : Int))) false h2) (Met.cons (len_ok (Manager.rows p0.managers) (List.length p0.managers) (Manager.rowsLen p0.managers)) (Met.cons (dec (decide (60 < ((List.length p0.managers) : Int))) false h3) (Met.cons (dec (decide (400 < (w64 ((w64 ((ByteArray.size p0.kind : Int) + (ByteArray.size p0.namespace_ : Int))) + (ByteArray.size p0.name : Int))))) false h4) (Met.cons (len_ok (Label.rows p0.labels) (List.length p0.labels) (Label.rowsLen p0.labels)) (Met.cons (len_ok (Owner.rows p0.owners) (List.length p0.owners) (Owner.rowsLen p0.owners)) (Met.cons (len_ok (strRows p0.finalizers) (List.length p0.finalizers) (strRowsLen p0.finalizers)) (Met.cons (len_ok (Manager.rows p0.managers) (List.length p0.managers) (Manager.rowsLen p0.managers)) Met.nil))))))))))))) (Told.cons hl5 (Told.cons hl6 (Told.cons hl7 (Told.cons hl8 Told.nil)))) (by kernel_rfl)
theorem t_law19_SmallMeta_6 (p0 : Meta) (_H : H_law19_SmallMeta p0) (h0 : (decide (60 < ((List.length p0.labels) : Int))) = false) (h1 : (decide (60 < ((List.length p0.owners) : Int))) = false) (h2 : (decide (60 < ((List.length p0.finalizers) : Int))) = false) (h3 : (decide (60 < ((List.length p0.managers) : Int))) = false) (h4 : (decide (400 < (w64 ((w64 ((ByteArray.size p0.kind : Int) + (ByteArray.size p0.namespace_ : Int))) + (ByteArray.size p0.name : Int))))) = false) (z5 : Nat → PV) (zo5 : Nat → List PV) (hl5 : Tells G (E_law19_SmallMeta_b0 p0 0) (.st (.exit 0) (S_law19_SmallMeta_b0_0 p0 z5 zo5))) (z6 : Nat → PV) (zo6 : Nat → List PV) (hl6 : Tells G (E_law19_SmallMeta_b1 p0 0) (.st (.exit 2) (S_law19_SmallMeta_b1_0 p0 z6 zo6))) (z7 : Nat → PV) (zo7 : Nat → List PV) (hl7 : Tells G (E_law19_SmallMeta_b2 p0 0) (.st (.exit 4) (S_law19_SmallMeta_b2_0 p0 z7 zo7))) (z8 : Nat → PV) (zo8 : Nat → List PV) (hl8 : Tells G (E_law19_SmallMeta_b3 p0 0) (.st .ret (S_law19_SmallMeta_b3_1 p0 z8 zo8))) : Tells G (c_law19_SmallMeta p0) (.ret (.bool false) []) :=
  tells_V (fn := Ir.law19_SmallMeta) rfl VOK.nil (hs := [(4, (vE (.int .i64 ((List.length p0.labels) : Int)), [])), (0, (bE false, [])), (3, (vE (.int .i64 ((List.length p0.owners) : Int)), [])), (0, (bE false, [])), (4, (vE (.int .i64 ((List.length p0.finalizers) : Int)), [])), (0, (bE false, [])), (4, (vE (.int .i64 ((List.length p0.managers) : Int)), [])), (0, (bE false, [])), (13, (bE false, [])), (3, (vE (.int .i64 ((List.length p0.labels) : Int)), [])), (3, (vE (.int .i64 ((List.length p0.owners) : Int)), [])), (3, (vE (.int .i64 ((List.length p0.finalizers) : Int)), [])), (3, (vE (.int .i64 ((List.length p0.managers) : Int)), []))]) (as := [⟨.st (.exit 0) (S_law19_SmallMeta_b0_0 p0 z5 zo5), []⟩, ⟨.st (.exit 2) (S_law19_SmallMeta_b1_0 p0 z6 zo6), []⟩, ⟨.st (.exit 4) (S_law19_SmallMeta_b2_0 p0 z7 zo7), []⟩, ⟨.st .ret (S_law19_SmallMeta_b3_1 p0 z8 zo8), []⟩]) (Met.cons (len_ok (Label.rows p0.labels) (List.length p0.labels) (Label.rowsLen p0.labels)) (Met.cons (dec (decide (60 < ((List.length p0.labels) : Int))) false h0) (Met.cons (len_ok (Owner.rows p0.owners) (List.length p0.owners) (Owner.rowsLen p0.owners)) (Met.cons (dec (decide (60 < ((List.length p0.owners) : Int))) false h1) (Met.cons (len_ok (strRows p0.finalizers) (List.length p0.finalizers) (strRowsLen p0.finalizers)) (Met.cons (dec (decide (60 < ((List.length p0.finalizers) : Int))) false h2) (Met.cons (len_ok (Manager.rows p0.managers) (List.length p0.managers) (Manager.rowsLen p0.managers)) (Met.cons (dec (decide (60 < ((List.length p0.managers) : Int))) false h3) (Met.cons (dec (decide (400 < (w64 ((w64 ((ByteArray.size p0.kind : Int) + (ByteArray.size p0.namespace_ : Int))) + (ByteArray.size p0.name : Int))))) false h4) (Met.cons (len_ok (Label.rows p0.labels) (List.length p0.labels) (Label.rowsLen p0.labels)) (Met.cons (len_ok (Owner.rows p0.owners) (List.length p0.owners) (Owner.rowsLen p0.owners)) (Met.cons (len_ok (strRows p0.finalizers) (List.length p0.finalizers) (strRowsLen p0.finalizers)) (Met.cons (len_ok (Manager.rows p0.managers) (List.length p0.managers) (Manager.rowsLen p0.managers)) Met.nil))))))))))))) (Told.cons hl5 (Told.cons hl6 (Told.cons hl7 (Told.cons hl8 Told.nil)))) (by kernel_rfl)
theorem t_law19_SmallMeta_7 (p0 : Meta) (_H : H_law19_SmallMeta p0) (h0 : (decide (60 < ((List.length p0.labels) : Int))) = false) (h1 : (decide (60 < ((List.length p0.owners) : Int))) = false) (h2 : (decide (60 < ((List.length p0.finalizers) : Int))) = false) (h3 : (decide (60 < ((List.length p0.managers) : Int))) = false) (h4 : (decide (400 < (w64 ((w64 ((ByteArray.size p0.kind : Int) + (ByteArray.size p0.namespace_ : Int))) + (ByteArray.size p0.name : Int))))) = false) (z5 : Nat → PV) (zo5 : Nat → List PV) (hl5 : Tells G (E_law19_SmallMeta_b0 p0 0) (.st (.exit 0) (S_law19_SmallMeta_b0_0 p0 z5 zo5))) (z6 : Nat → PV) (zo6 : Nat → List PV) (hl6 : Tells G (E_law19_SmallMeta_b1 p0 0) (.st (.exit 2) (S_law19_SmallMeta_b1_0 p0 z6 zo6))) (z7 : Nat → PV) (zo7 : Nat → List PV) (hl7 : Tells G (E_law19_SmallMeta_b2 p0 0) (.st (.exit 4) (S_law19_SmallMeta_b2_0 p0 z7 zo7))) (z8 : Nat → PV) (zo8 : Nat → List PV) (hl8 : Tells G (E_law19_SmallMeta_b3 p0 0) (.st .ret (S_law19_SmallMeta_b3_2 p0 z8 zo8))) : Tells G (c_law19_SmallMeta p0) (.ret (.bool false) []) :=
  tells_V (fn := Ir.law19_SmallMeta) rfl VOK.nil (hs := [(4, (vE (.int .i64 ((List.length p0.labels) : Int)), [])), (0, (bE false, [])), (3, (vE (.int .i64 ((List.length p0.owners) : Int)), [])), (0, (bE false, [])), (4, (vE (.int .i64 ((List.length p0.finalizers) : Int)), [])), (0, (bE false, [])), (4, (vE (.int .i64 ((List.length p0.managers) : Int)), [])), (0, (bE false, [])), (13, (bE false, [])), (3, (vE (.int .i64 ((List.length p0.labels) : Int)), [])), (3, (vE (.int .i64 ((List.length p0.owners) : Int)), [])), (3, (vE (.int .i64 ((List.length p0.finalizers) : Int)), [])), (3, (vE (.int .i64 ((List.length p0.managers) : Int)), []))]) (as := [⟨.st (.exit 0) (S_law19_SmallMeta_b0_0 p0 z5 zo5), []⟩, ⟨.st (.exit 2) (S_law19_SmallMeta_b1_0 p0 z6 zo6), []⟩, ⟨.st (.exit 4) (S_law19_SmallMeta_b2_0 p0 z7 zo7), []⟩, ⟨.st .ret (S_law19_SmallMeta_b3_2 p0 z8 zo8), []⟩]) (Met.cons (len_ok (Label.rows p0.labels) (List.length p0.labels) (Label.rowsLen p0.labels)) (Met.cons (dec (decide (60 < ((List.length p0.labels) : Int))) false h0) (Met.cons (len_ok (Owner.rows p0.owners) (List.length p0.owners) (Owner.rowsLen p0.owners)) (Met.cons (dec (decide (60 < ((List.length p0.owners) : Int))) false h1) (Met.cons (len_ok (strRows p0.finalizers) (List.length p0.finalizers) (strRowsLen p0.finalizers)) (Met.cons (dec (decide (60 < ((List.length p0.finalizers) : Int))) false h2) (Met.cons (len_ok (Manager.rows p0.managers) (List.length p0.managers) (Manager.rowsLen p0.managers)) (Met.cons (dec (decide (60 < ((List.length p0.managers) : Int))) false h3) (Met.cons (dec (decide (400 < (w64 ((w64 ((ByteArray.size p0.kind : Int) + (ByteArray.size p0.namespace_ : Int))) + (ByteArray.size p0.name : Int))))) false h4) (Met.cons (len_ok (Label.rows p0.labels) (List.length p0.labels) (Label.rowsLen p0.labels)) (Met.cons (len_ok (Owner.rows p0.owners) (List.length p0.owners) (Owner.rowsLen p0.owners)) (Met.cons (len_ok (strRows p0.finalizers) (List.length p0.finalizers) (strRowsLen p0.finalizers)) (Met.cons (len_ok (Manager.rows p0.managers) (List.length p0.managers) (Manager.rowsLen p0.managers)) Met.nil))))))))))))) (Told.cons hl5 (Told.cons hl6 (Told.cons hl7 (Told.cons hl8 Told.nil)))) (by kernel_rfl)
theorem t_law19_SmallMeta_8 (p0 : Meta) (_H : H_law19_SmallMeta p0) (h0 : (decide (60 < ((List.length p0.labels) : Int))) = false) (h1 : (decide (60 < ((List.length p0.owners) : Int))) = false) (h2 : (decide (60 < ((List.length p0.finalizers) : Int))) = false) (h3 : (decide (60 < ((List.length p0.managers) : Int))) = false) (h4 : (decide (400 < (w64 ((w64 ((ByteArray.size p0.kind : Int) + (ByteArray.size p0.namespace_ : Int))) + (ByteArray.size p0.name : Int))))) = false) (z5 : Nat → PV) (zo5 : Nat → List PV) (hl5 : Tells G (E_law19_SmallMeta_b0 p0 0) (.st (.exit 0) (S_law19_SmallMeta_b0_0 p0 z5 zo5))) (z6 : Nat → PV) (zo6 : Nat → List PV) (hl6 : Tells G (E_law19_SmallMeta_b1 p0 0) (.st (.exit 2) (S_law19_SmallMeta_b1_0 p0 z6 zo6))) (z7 : Nat → PV) (zo7 : Nat → List PV) (hl7 : Tells G (E_law19_SmallMeta_b2 p0 0) (.st .ret (S_law19_SmallMeta_b2_1 p0 z7 zo7))) : Tells G (c_law19_SmallMeta p0) (.ret (.bool false) []) :=
  tells_V (fn := Ir.law19_SmallMeta) rfl VOK.nil (hs := [(4, (vE (.int .i64 ((List.length p0.labels) : Int)), [])), (0, (bE false, [])), (3, (vE (.int .i64 ((List.length p0.owners) : Int)), [])), (0, (bE false, [])), (4, (vE (.int .i64 ((List.length p0.finalizers) : Int)), [])), (0, (bE false, [])), (4, (vE (.int .i64 ((List.length p0.managers) : Int)), [])), (0, (bE false, [])), (13, (bE false, [])), (3, (vE (.int .i64 ((List.length p0.labels) : Int)), [])), (3, (vE (.int .i64 ((List.length p0.owners) : Int)), [])), (3, (vE (.int .i64 ((List.length p0.finalizers) : Int)), []))]) (as := [⟨.st (.exit 0) (S_law19_SmallMeta_b0_0 p0 z5 zo5), []⟩, ⟨.st (.exit 2) (S_law19_SmallMeta_b1_0 p0 z6 zo6), []⟩, ⟨.st .ret (S_law19_SmallMeta_b2_1 p0 z7 zo7), []⟩]) (Met.cons (len_ok (Label.rows p0.labels) (List.length p0.labels) (Label.rowsLen p0.labels)) (Met.cons (dec (decide (60 < ((List.length p0.labels) : Int))) false h0) (Met.cons (len_ok (Owner.rows p0.owners) (List.length p0.owners) (Owner.rowsLen p0.owners)) (Met.cons (dec (decide (60 < ((List.length p0.owners) : Int))) false h1) (Met.cons (len_ok (strRows p0.finalizers) (List.length p0.finalizers) (strRowsLen p0.finalizers)) (Met.cons (dec (decide (60 < ((List.length p0.finalizers) : Int))) false h2) (Met.cons (len_ok (Manager.rows p0.managers) (List.length p0.managers) (Manager.rowsLen p0.managers)) (Met.cons (dec (decide (60 < ((List.length p0.managers) : Int))) false h3) (Met.cons (dec (decide (400 < (w64 ((w64 ((ByteArray.size p0.kind : Int) + (ByteArray.size p0.namespace_ : Int))) + (ByteArray.size p0.name : Int))))) false h4) (Met.cons (len_ok (Label.rows p0.labels) (List.length p0.labels) (Label.rowsLen p0.labels)) (Met.cons (len_ok (Owner.rows p0.owners) (List.length p0.owners) (Owner.rowsLen p0.owners)) (Met.cons (len_ok (strRows p0.finalizers) (List.length p0.finalizers) (strRowsLen p0.finalizers)) Met.nil)))))))))))) (Told.cons hl5 (Told.cons hl6 (Told.cons hl7 Told.nil))) (by kernel_rfl)
theorem t_law19_SmallMeta_9 (p0 : Meta) (_H : H_law19_SmallMeta p0) (h0 : (decide (60 < ((List.length p0.labels) : Int))) = false) (h1 : (decide (60 < ((List.length p0.owners) : Int))) = false) (h2 : (decide (60 < ((List.length p0.finalizers) : Int))) = false) (h3 : (decide (60 < ((List.length p0.managers) : Int))) = false) (h4 : (decide (400 < (w64 ((w64 ((ByteArray.size p0.kind : Int) + (ByteArray.size p0.namespace_ : Int))) + (ByteArray.size p0.name : Int))))) = false) (z5 : Nat → PV) (zo5 : Nat → List PV) (hl5 : Tells G (E_law19_SmallMeta_b0 p0 0) (.st (.exit 0) (S_law19_SmallMeta_b0_0 p0 z5 zo5))) (z6 : Nat → PV) (zo6 : Nat → List PV) (hl6 : Tells G (E_law19_SmallMeta_b1 p0 0) (.st .ret (S_law19_SmallMeta_b1_1 p0 z6 zo6))) : Tells G (c_law19_SmallMeta p0) (.ret (.bool false) []) :=
  tells_V (fn := Ir.law19_SmallMeta) rfl VOK.nil (hs := [(4, (vE (.int .i64 ((List.length p0.labels) : Int)), [])), (0, (bE false, [])), (3, (vE (.int .i64 ((List.length p0.owners) : Int)), [])), (0, (bE false, [])), (4, (vE (.int .i64 ((List.length p0.finalizers) : Int)), [])), (0, (bE false, [])), (4, (vE (.int .i64 ((List.length p0.managers) : Int)), [])), (0, (bE false, [])), (13, (bE false, [])), (3, (vE (.int .i64 ((List.length p0.labels) : Int)), [])), (3, (vE (.int .i64 ((List.length p0.owners) : Int)), []))]) (as := [⟨.st (.exit 0) (S_law19_SmallMeta_b0_0 p0 z5 zo5), []⟩, ⟨.st .ret (S_law19_SmallMeta_b1_1 p0 z6 zo6), []⟩]) (Met.cons (len_ok (Label.rows p0.labels) (List.length p0.labels) (Label.rowsLen p0.labels)) (Met.cons (dec (decide (60 < ((List.length p0.labels) : Int))) false h0) (Met.cons (len_ok (Owner.rows p0.owners) (List.length p0.owners) (Owner.rowsLen p0.owners)) (Met.cons (dec (decide (60 < ((List.length p0.owners) : Int))) false h1) (Met.cons (len_ok (strRows p0.finalizers) (List.length p0.finalizers) (strRowsLen p0.finalizers)) (Met.cons (dec (decide (60 < ((List.length p0.finalizers) : Int))) false h2) (Met.cons (len_ok (Manager.rows p0.managers) (List.length p0.managers) (Manager.rowsLen p0.managers)) (Met.cons (dec (decide (60 < ((List.length p0.managers) : Int))) false h3) (Met.cons (dec (decide (400 < (w64 ((w64 ((ByteArray.size p0.kind : Int) + (ByteArray.size p0.namespace_ : Int))) + (ByteArray.size p0.name : Int))))) false h4) (Met.cons (len_ok (Label.rows p0.labels) (List.length p0.labels) (Label.rowsLen p0.labels)) (Met.cons (len_ok (Owner.rows p0.owners) (List.length p0.owners) (Owner.rowsLen p0.owners)) Met.nil))))))))))) (Told.cons hl5 (Told.cons hl6 Told.nil)) (by kernel_rfl)
theorem t_law19_SmallMeta_10 (p0 : Meta) (_H : H_law19_SmallMeta p0) (h0 : (decide (60 < ((List.length p0.labels) : Int))) = false) (h1 : (decide (60 < ((List.length p0.owners) : Int))) = false) (h2 : (decide (60 < ((List.length p0.finalizers) : Int))) = false) (h3 : (decide (60 < ((List.length p0.managers) : Int))) = false) (h4 : (decide (400 < (w64 ((w64 ((ByteArray.size p0.kind : Int) + (ByteArray.size p0.namespace_ : Int))) + (ByteArray.size p0.name : Int))))) = false) (z5 : Nat → PV) (zo5 : Nat → List PV) (hl5 : Tells G (E_law19_SmallMeta_b0 p0 0) (.st .ret (S_law19_SmallMeta_b0_1 p0 z5 zo5))) : Tells G (c_law19_SmallMeta p0) (.ret (.bool false) []) :=
  tells_V (fn := Ir.law19_SmallMeta) rfl VOK.nil (hs := [(4, (vE (.int .i64 ((List.length p0.labels) : Int)), [])), (0, (bE false, [])), (3, (vE (.int .i64 ((List.length p0.owners) : Int)), [])), (0, (bE false, [])), (4, (vE (.int .i64 ((List.length p0.finalizers) : Int)), [])), (0, (bE false, [])), (4, (vE (.int .i64 ((List.length p0.managers) : Int)), [])), (0, (bE false, [])), (13, (bE false, [])), (3, (vE (.int .i64 ((List.length p0.labels) : Int)), []))]) (as := [⟨.st .ret (S_law19_SmallMeta_b0_1 p0 z5 zo5), []⟩]) (Met.cons (len_ok (Label.rows p0.labels) (List.length p0.labels) (Label.rowsLen p0.labels)) (Met.cons (dec (decide (60 < ((List.length p0.labels) : Int))) false h0) (Met.cons (len_ok (Owner.rows p0.owners) (List.length p0.owners) (Owner.rowsLen p0.owners)) (Met.cons (dec (decide (60 < ((List.length p0.owners) : Int))) false h1) (Met.cons (len_ok (strRows p0.finalizers) (List.length p0.finalizers) (strRowsLen p0.finalizers)) (Met.cons (dec (decide (60 < ((List.length p0.finalizers) : Int))) false h2) (Met.cons (len_ok (Manager.rows p0.managers) (List.length p0.managers) (Manager.rowsLen p0.managers)) (Met.cons (dec (decide (60 < ((List.length p0.managers) : Int))) false h3) (Met.cons (dec (decide (400 < (w64 ((w64 ((ByteArray.size p0.kind : Int) + (ByteArray.size p0.namespace_ : Int))) + (ByteArray.size p0.name : Int))))) false h4) (Met.cons (len_ok (Label.rows p0.labels) (List.length p0.labels) (Label.rowsLen p0.labels)) Met.nil)))))))))) (Told.cons hl5 Told.nil) (by kernel_rfl)
theorem t_law19_SmallMeta (p0 : Meta) (H : H_law19_SmallMeta p0) : Tells G (c_law19_SmallMeta p0) (a_law19_SmallMeta p0) := by
  unfold a_law19_SmallMeta s_law19_SmallMeta
  cases h0 : (decide (60 < ((List.length p0.labels) : Int))) with
  | true =>
    exact t_law19_SmallMeta_0 p0 H h0
  | false =>
    cases h1 : (decide (60 < ((List.length p0.owners) : Int))) with
    | true =>
      exact t_law19_SmallMeta_1 p0 H h0 h1
    | false =>
      cases h2 : (decide (60 < ((List.length p0.finalizers) : Int))) with
      | true =>
        exact t_law19_SmallMeta_2 p0 H h0 h1 h2
      | false =>
        cases h3 : (decide (60 < ((List.length p0.managers) : Int))) with
        | true =>
          exact t_law19_SmallMeta_3 p0 H h0 h1 h2 h3
        | false =>
          cases h4 : (decide (400 < (w64 ((w64 ((ByteArray.size p0.kind : Int) + (ByteArray.size p0.namespace_ : Int))) + (ByteArray.size p0.name : Int))))) with
          | true =>
            exact t_law19_SmallMeta_4 p0 H h0 h1 h2 h3 h4
          | false =>
            have hl5 := lt_law19_SmallMeta_b0 p0 (H.1) p0.labels 0 (by simp)
            cases hr5 : (l_law19_SmallMeta_b0 p0 p0.labels 0) with
            | k0 =>
              rw [hr5] at hl5
              obtain ⟨z5, zo5, hl5⟩ := hl5
              have hl6 := lt_law19_SmallMeta_b1 p0 (H.2.1) p0.owners 0 (by simp)
              cases hr6 : (l_law19_SmallMeta_b1 p0 p0.owners 0) with
              | k0 =>
                rw [hr6] at hl6
                obtain ⟨z6, zo6, hl6⟩ := hl6
                have hl7 := lt_law19_SmallMeta_b2 p0 (H.2.2.1) p0.finalizers 0 (by simp)
                cases hr7 : (l_law19_SmallMeta_b2 p0 p0.finalizers 0) with
                | k0 =>
                  rw [hr7] at hl7
                  obtain ⟨z7, zo7, hl7⟩ := hl7
                  have hl8 := lt_law19_SmallMeta_b3 p0 (H.2.2.2.1) p0.managers 0 (by simp)
                  cases hr8 : (l_law19_SmallMeta_b3 p0 p0.managers 0) with
                  | k0 =>
                    rw [hr8] at hl8
                    obtain ⟨z8, zo8, hl8⟩ := hl8
                    exact t_law19_SmallMeta_5 p0 H h0 h1 h2 h3 h4 z5 zo5 hl5 z6 zo6 hl6 z7 zo7 hl7 z8 zo8 hl8
                  | k1 =>
                    rw [hr8] at hl8
                    obtain ⟨z8, zo8, hl8⟩ := hl8
                    exact t_law19_SmallMeta_6 p0 H h0 h1 h2 h3 h4 z5 zo5 hl5 z6 zo6 hl6 z7 zo7 hl7 z8 zo8 hl8
                  | k2 =>
                    rw [hr8] at hl8
                    obtain ⟨z8, zo8, hl8⟩ := hl8
                    exact t_law19_SmallMeta_7 p0 H h0 h1 h2 h3 h4 z5 zo5 hl5 z6 zo6 hl6 z7 zo7 hl7 z8 zo8 hl8
                | k1 =>
                  rw [hr7] at hl7
                  obtain ⟨z7, zo7, hl7⟩ := hl7
                  exact t_law19_SmallMeta_8 p0 H h0 h1 h2 h3 h4 z5 zo5 hl5 z6 zo6 hl6 z7 zo7 hl7
              | k1 =>
                rw [hr6] at hl6
                obtain ⟨z6, zo6, hl6⟩ := hl6
                exact t_law19_SmallMeta_9 p0 H h0 h1 h2 h3 h4 z5 zo5 hl5 z6 zo6 hl6
            | k1 =>
              rw [hr5] at hl5
              obtain ⟨z5, zo5, hl5⟩ := hl5
              exact t_law19_SmallMeta_10 p0 H h0 h1 h2 h3 h4 z5 zo5 hl5

mutual
/-- orchestrator/ orchestratorref06.left -/
def s_ref06_left (p0 : Val) (p1 : Int) : Int :=
  (l_ref06_left_b1 p0 p0.fields 0 (l_ref06_left_b0 p0 p0.list 0 (w64 ((w64 (p1 - 1)) - (ByteArray.size p0.s : Int)))))
termination_by SizeOf.sizeOf p0
decreasing_by all_goals first | exact Val.lt_list _ | exact Val.lt_fields _ | exact lt_head _ _ | exact lt_tail _ _ | exact lt_headv _ _
def l_ref06_left_b0 (p0 : Val) : List Val → Nat → Int → Int
  | [], _i0, v0_1 =>
    v0_1
  | x0 :: r0, i0, v0_1 =>
    bif (decide (0 ≤ v0_1)) then
      l_ref06_left_b0 p0 r0 (i0 + 1) (s_ref06_left x0 v0_1)
    else
      v0_1
termination_by l => SizeOf.sizeOf l
decreasing_by all_goals first | exact Val.lt_list _ | exact Val.lt_fields _ | exact lt_head _ _ | exact lt_tail _ _ | exact lt_headv _ _
def l_ref06_left_b1 (p0 : Val) : List Fld → Nat → Int → Int
  | [], _i1, v1_1 =>
    v1_1
  | x1 :: r1, i1, v1_1 =>
    bif (decide (0 ≤ v1_1)) then
      l_ref06_left_b1 p0 r1 (i1 + 1) (s_ref06_left x1.v (w64 (v1_1 - (ByteArray.size x1.name : Int))))
    else
      v1_1
termination_by l => SizeOf.sizeOf l
decreasing_by all_goals first | exact Val.lt_list _ | exact Val.lt_fields _ | exact lt_head _ _ | exact lt_tail _ _ | exact lt_headv _ _
end
def HE_ref06_left_b0 (_p0 : Val) (i0 : Nat) (v0_1 : Int) : List PV :=
  [.un, .int .i64 v0_1, .bx 0 0, .un, .un, .int .i64 (i0 : Int), .un, .un, .un, .un, .un, .un, .un, .un, .un, .un, .un, .un, .un, .un, .un, .un, .un, .un, .un, .un, .un, .un, .un, .un, .un, .un, .un, .un, .un, .un, .un, .un, .un, .un, .un, .un, .un, .un, .un, .un, .un, .un, .un, .un, .un, .un, .un, .un, .un, .un, .un, .un, .un]
def HO_ref06_left_b0 (p0 : Val) (_i0 : Nat) (_v0_1 : Int) : List Ob :=
  [⟨5, 0, true, [.int .i64 p0.kind, .int .i64 p0.n, .str p0.s, .sl (Val.rows p0.list), .sl (Fld.rows p0.fields)]⟩]
def E_ref06_left_b0 (p0 : Val) (i0 : Nat) (v0_1 : Int) : En := .loop 0 Ir.ref06_left_b0_live Ir.ref06_left_b0 (HE_ref06_left_b0 p0 i0 v0_1) (HO_ref06_left_b0 p0 i0 v0_1)
def S_ref06_left_b0_0 (p0 : Val) (q0 : Int) (z : Nat → PV) (_zo : Nat → List PV) : St :=
  ⟨[z 0, .int .i64 q0, .bx 0 0, z 3, z 4, z 5, z 6, z 7, z 8, z 9, z 10, z 11, z 12, z 13, z 14, z 15, z 16, z 17, z 18, z 19, z 20, z 21, z 22, z 23, z 24, z 25, z 26, z 27, z 28, z 29, z 30, z 31, z 32, z 33, z 34, z 35, z 36, z 37, z 38, z 39, z 40, z 41, z 42, z 43, z 44, z 45, z 46, z 47, z 48, z 49, z 50, z 51, z 52, z 53, z 54, z 55, z 56, z 57, z 58], [(0, ⟨5, 0, true, [.int .i64 p0.kind, .int .i64 p0.n, .str p0.s, .sl (Val.rows p0.list), .sl (Fld.rows p0.fields)]⟩)], 577⟩
def P_ref06_left_b0 (p0 : Val) (e : En) (q : Int) : Prop := ∃ z zo, Tells G e (.st (.exit 0) (S_ref06_left_b0_0 p0 q z zo))
theorem P_ref06_left_b0_mono (p0 : Val) {e e' : En} (h : ∀ r, Tells G e r → Tells G e' r) : ∀ q, P_ref06_left_b0 p0 e q → P_ref06_left_b0 p0 e' q
  | _, ⟨z, zo, hz⟩ => ⟨z, zo, h _ hz⟩
def HE_ref06_left_b1 (_p0 : Val) (i1 : Nat) (v1_1 : Int) : List PV :=
  [.un, .int .i64 v1_1, .bx 0 0, .un, .un, .un, .int .i64 (i1 : Int), .un, .un, .un, .un, .un, .un, .un, .un, .un, .un, .un, .un, .un, .un, .un, .un, .un, .un, .un, .un, .un, .un, .un, .un, .un, .un, .un, .un, .un, .un, .un, .un, .un, .un, .un, .un, .un, .un, .un, .un, .un, .un, .un, .un, .un, .un, .un, .un, .un, .un, .un, .un]
def HO_ref06_left_b1 (p0 : Val) (_i1 : Nat) (_v1_1 : Int) : List Ob :=
  [⟨5, 0, true, [.int .i64 p0.kind, .int .i64 p0.n, .str p0.s, .sl (Val.rows p0.list), .sl (Fld.rows p0.fields)]⟩]
def E_ref06_left_b1 (p0 : Val) (i1 : Nat) (v1_1 : Int) : En := .loop 0 Ir.ref06_left_b1_live Ir.ref06_left_b1 (HE_ref06_left_b1 p0 i1 v1_1) (HO_ref06_left_b1 p0 i1 v1_1)
def S_ref06_left_b1_0 (p0 : Val) (q0 : Int) (z : Nat → PV) (_zo : Nat → List PV) : St :=
  ⟨[z 0, .int .i64 q0, z 2, z 3, z 4, z 5, z 6, z 7, z 8, z 9, z 10, z 11, z 12, z 13, z 14, z 15, z 16, z 17, z 18, z 19, z 20, z 21, z 22, z 23, z 24, z 25, z 26, z 27, z 28, z 29, z 30, z 31, z 32, z 33, z 34, z 35, z 36, z 37, z 38, z 39, z 40, z 41, z 42, z 43, z 44, z 45, z 46, z 47, z 48, z 49, z 50, z 51, z 52, z 53, z 54, z 55, z 56, z 57, z 58], [(0, ⟨5, 0, true, [.int .i64 p0.kind, .int .i64 p0.n, .str p0.s, .sl (Val.rows p0.list), .sl (Fld.rows p0.fields)]⟩)], 577⟩
def P_ref06_left_b1 (p0 : Val) (e : En) (q : Int) : Prop := ∃ z zo, Tells G e (.st (.exit 2) (S_ref06_left_b1_0 p0 q z zo))
theorem P_ref06_left_b1_mono (p0 : Val) {e e' : En} (h : ∀ r, Tells G e r → Tells G e' r) : ∀ q, P_ref06_left_b1 p0 e q → P_ref06_left_b1 p0 e' q
  | _, ⟨z, zo, hz⟩ => ⟨z, zo, h _ hz⟩
def c_ref06_left (p0 : Val) (p1 : Int) : En := .call 53 [.agg (Val.cells p0), .int .i64 p1] []
def a_ref06_left (p0 : Val) (p1 : Int) : Rs := .ret (.int .i64 (s_ref06_left p0 p1)) []
abbrev H_ref06_left (p0 : Val) : Prop := Val.Sm 4611686018427387904 p0
def Rec_ref06_left (p0 : Val) : Prop := ∀ (q : Val), SizeOf.sizeOf q < SizeOf.sizeOf p0 → ∀ (p1 : Int), H_ref06_left q → Tells G (c_ref06_left q p1) (a_ref06_left q p1)
def H_ref06_left_b0 (p0 : Val) : Prop := (List.length p0.list ≤ 4611686018427387904) ∧ (∀ x0 ∈ p0.list, H_ref06_left x0) ∧ True
def H_ref06_left_b1 (p0 : Val) : Prop := (List.length p0.fields ≤ 4611686018427387904) ∧ (∀ x1 ∈ p0.fields, H_ref06_left x1.v) ∧ True
theorem give_ref06_left (p0 : Val) (_p1 : Int) (H : H_ref06_left p0) : (H_ref06_left_b0 p0) ∧ (H_ref06_left_b1 p0) ∧ True := by
  obtain ⟨h1, h2, h3, h4⟩ := H.all
  simp only [H_ref06_left_b0, H_ref06_left_b1]
  exact ⟨⟨h1, h3, trivial⟩, ⟨h2, h4, trivial⟩, trivial⟩
def Z_ref06_left_b0_0 (p0 : Val) (i0 : Nat) (_v0_1 : Int) : List PV :=
  [.un, .un, .un, .un, .un, .int .i64 (i0 : Int), .un, .un, .un, .un, .un, .un, .un, .int .i64 (i0 : Int), .bx 0 3, .sl (Val.rows p0.list), .int .i64 ((List.length p0.list) : Int), .bool false, .bool false, .tup [], .tup [], .bool false, .un, .un, .un, .un, .un, .un, .un, .un, .un, .un, .un, .un, .un, .un, .un, .un, .un, .un, .un, .un, .un, .un, .un, .un, .un, .un, .un, .un, .un, .un, .un, .un, .un, .un, .un, .un, .un]
def ZO_ref06_left_b0_0 (_p0 : Val) (_i0 : Nat) (_v0_1 : Int) : List (Nat × List PV) :=
  []
theorem x_ref06_left_b0_0 (p0 : Val) (_H : H_ref06_left_b0 p0) (_rec : Rec_ref06_left p0) (i0 : Nat) (v0_1 : Int) (hc0 : (decide ((i0 : Int) < ((List.length p0.list) : Int))) = false) : P_ref06_left_b0 p0 (E_ref06_left_b0 p0 i0 v0_1) v0_1 := by
  exact ⟨(envF (Z_ref06_left_b0_0 p0 i0 v0_1)), (zoF (ZO_ref06_left_b0_0 p0 i0 v0_1)), tells_outV (h := HO_ref06_left_b0 p0 i0 v0_1) (vw := []) VOK.nil (x := ((.exit 0), S_ref06_left_b0_0 p0 v0_1 (envF (Z_ref06_left_b0_0 p0 i0 v0_1)) (zoF (ZO_ref06_left_b0_0 p0 i0 v0_1)))) (hs := [(3, (vE (.int .i64 ((List.length p0.list) : Int)), [])), (0, (bE false, []))]) (as := []) (Met.cons (len_ok (Val.rows p0.list) (List.length p0.list) (Val.rowsLen p0.list)) (Met.cons (dec (decide ((i0 : Int) < ((List.length p0.list) : Int))) false hc0) Met.nil)) Told.nil (by kernel_rfl)⟩
theorem n_ref06_left_b0_1 (p0 : Val) (H : H_ref06_left_b0 p0) (rec : Rec_ref06_left p0) (x0 : Val) (i0 : Nat) (v0_1 : Int) (hx0 : p0.list[i0]? = some x0) (hi0 : i0 < List.length p0.list) (hc0 : (decide ((i0 : Int) < ((List.length p0.list) : Int))) = true) (h0 : (decide (0 ≤ v0_1)) = true) {r : Rs} (hr : Tells G (E_ref06_left_b0 p0 (i0 + 1) (s_ref06_left x0 v0_1)) r) : Tells G (E_ref06_left_b0 p0 i0 v0_1) r := by
  have hB := H.1
  exact tells_nextV (h := HO_ref06_left_b0 p0 i0 v0_1) (vw := []) VOK.nil (y := (HE_ref06_left_b0 p0 (i0 + 1) (s_ref06_left x0 v0_1), HO_ref06_left_b0 p0 (i0 + 1) (s_ref06_left x0 v0_1))) (hs := [(3, (vE (.int .i64 ((List.length p0.list) : Int)), [])), (0, (bE true, [])), (2, (bE true, [])), (4, (vE (.rf (Val.cells x0)), [])), (5, (vE (.int .i64 ((i0 + 1 : Nat) : Int)), []))]) (as := [⟨a_ref06_left x0 v0_1, []⟩]) (Met.cons (len_ok (Val.rows p0.list) (List.length p0.list) (Val.rowsLen p0.list)) (Met.cons (dec (decide ((i0 : Int) < ((List.length p0.list) : Int))) true hc0) (Met.cons (dec (decide (0 ≤ v0_1)) true h0) (Met.cons (ix_ok 5 (Val.rows p0.list) i0 _ (Val.rowsGet hx0) rfl) (Met.cons (inc_ok i0 (by omega)) Met.nil))))) (Told.cons (rec x0 (szL hx0) v0_1 (H.2.1 x0 (mem_get hx0))) Told.nil) (by kernel_rfl) hr
def Z_ref06_left_b0_2 (p0 : Val) (i0 : Nat) (v0_1 : Int) (_x0 : Val) : List PV :=
  [.un, .un, .un, .un, .un, .int .i64 (i0 : Int), .un, .un, .un, .un, .un, .un, .un, .int .i64 (i0 : Int), .bx 0 3, .sl (Val.rows p0.list), .int .i64 ((List.length p0.list) : Int), .bool true, .bool true, .int .i64 v0_1, .bool false, .bool false, .un, .un, .un, .un, .un, .un, .un, .un, .un, .un, .un, .un, .un, .un, .un, .un, .un, .un, .un, .un, .un, .un, .un, .un, .un, .un, .un, .un, .un, .un, .un, .un, .un, .un, .un, .un, .un]
def ZO_ref06_left_b0_2 (_p0 : Val) (_i0 : Nat) (_v0_1 : Int) (_x0 : Val) : List (Nat × List PV) :=
  []
theorem x_ref06_left_b0_2 (p0 : Val) (_H : H_ref06_left_b0 p0) (_rec : Rec_ref06_left p0) (x0 : Val) (i0 : Nat) (v0_1 : Int) (_hx0 : p0.list[i0]? = some x0) (_hi0 : i0 < List.length p0.list) (hc0 : (decide ((i0 : Int) < ((List.length p0.list) : Int))) = true) (h0 : (decide (0 ≤ v0_1)) = false) : P_ref06_left_b0 p0 (E_ref06_left_b0 p0 i0 v0_1) v0_1 := by
  exact ⟨(envF (Z_ref06_left_b0_2 p0 i0 v0_1 x0)), (zoF (ZO_ref06_left_b0_2 p0 i0 v0_1 x0)), tells_outV (h := HO_ref06_left_b0 p0 i0 v0_1) (vw := []) VOK.nil (x := ((.exit 0), S_ref06_left_b0_0 p0 v0_1 (envF (Z_ref06_left_b0_2 p0 i0 v0_1 x0)) (zoF (ZO_ref06_left_b0_2 p0 i0 v0_1 x0)))) (hs := [(3, (vE (.int .i64 ((List.length p0.list) : Int)), [])), (0, (bE true, [])), (2, (bE false, []))]) (as := []) (Met.cons (len_ok (Val.rows p0.list) (List.length p0.list) (Val.rowsLen p0.list)) (Met.cons (dec (decide ((i0 : Int) < ((List.length p0.list) : Int))) true hc0) (Met.cons (dec (decide (0 ≤ v0_1)) false h0) Met.nil))) Told.nil (by kernel_rfl)⟩
theorem lt_ref06_left_b0 (p0 : Val) (H : H_ref06_left_b0 p0) (rec : Rec_ref06_left p0) : ∀ (r0 : List Val) (i0 : Nat) (v0_1 : Int), List.drop i0 p0.list = r0 → P_ref06_left_b0 p0 (E_ref06_left_b0 p0 i0 v0_1) (l_ref06_left_b0 p0 r0 i0 v0_1)
  | [], i0, v0_1, hd => by
    have hc0 : (decide ((i0 : Int) < ((List.length p0.list) : Int))) = false := by have := drop_end hd; simp; omega
    rw [l_ref06_left_b0]
    exact x_ref06_left_b0_0 p0 H rec i0 v0_1 hc0
  | x0 :: r0, i0, v0_1, hd => by
    obtain ⟨hx0, hi0, hd'⟩ := drop_get hd
    have hc0 : (decide ((i0 : Int) < ((List.length p0.list) : Int))) = true := by simp; omega
    rw [l_ref06_left_b0]
    cases h0 : (decide (0 ≤ v0_1)) with
    | true =>
      exact P_ref06_left_b0_mono p0 (fun r hr => n_ref06_left_b0_1 p0 H rec x0 i0 v0_1 hx0 hi0 hc0 h0 hr) _ (lt_ref06_left_b0 p0 H rec r0 (i0 + 1) (s_ref06_left x0 v0_1) hd')
    | false =>
      exact x_ref06_left_b0_2 p0 H rec x0 i0 v0_1 hx0 hi0 hc0 h0
def Z_ref06_left_b1_0 (p0 : Val) (i1 : Nat) (_v1_1 : Int) : List PV :=
  [.un, .un, .bx 0 0, .un, .un, .un, .int .i64 (i1 : Int), .un, .un, .un, .un, .un, .un, .un, .un, .un, .un, .un, .un, .un, .un, .un, .un, .un, .un, .un, .un, .un, .un, .un, .un, .int .i64 (i1 : Int), .bx 0 4, .sl (Fld.rows p0.fields), .int .i64 ((List.length p0.fields) : Int), .bool false, .bool false, .tup [], .tup [], .bool false, .un, .un, .un, .un, .un, .un, .un, .un, .un, .un, .un, .un, .un, .un, .un, .un, .un, .un, .un]
def ZO_ref06_left_b1_0 (_p0 : Val) (_i1 : Nat) (_v1_1 : Int) : List (Nat × List PV) :=
  []
theorem x_ref06_left_b1_0 (p0 : Val) (_H : H_ref06_left_b1 p0) (_rec : Rec_ref06_left p0) (i1 : Nat) (v1_1 : Int) (hc1 : (decide ((i1 : Int) < ((List.length p0.fields) : Int))) = false) : P_ref06_left_b1 p0 (E_ref06_left_b1 p0 i1 v1_1) v1_1 := by
  exact ⟨(envF (Z_ref06_left_b1_0 p0 i1 v1_1)), (zoF (ZO_ref06_left_b1_0 p0 i1 v1_1)), tells_outV (h := HO_ref06_left_b1 p0 i1 v1_1) (vw := []) VOK.nil (x := ((.exit 2), S_ref06_left_b1_0 p0 v1_1 (envF (Z_ref06_left_b1_0 p0 i1 v1_1)) (zoF (ZO_ref06_left_b1_0 p0 i1 v1_1)))) (hs := [(3, (vE (.int .i64 ((List.length p0.fields) : Int)), [])), (0, (bE false, []))]) (as := []) (Met.cons (len_ok (Fld.rows p0.fields) (List.length p0.fields) (Fld.rowsLen p0.fields)) (Met.cons (dec (decide ((i1 : Int) < ((List.length p0.fields) : Int))) false hc1) Met.nil)) Told.nil (by kernel_rfl)⟩
theorem n_ref06_left_b1_1 (p0 : Val) (H : H_ref06_left_b1 p0) (rec : Rec_ref06_left p0) (x1 : Fld) (i1 : Nat) (v1_1 : Int) (hx1 : p0.fields[i1]? = some x1) (hi1 : i1 < List.length p0.fields) (hc1 : (decide ((i1 : Int) < ((List.length p0.fields) : Int))) = true) (h0 : (decide (0 ≤ v1_1)) = true) {r : Rs} (hr : Tells G (E_ref06_left_b1 p0 (i1 + 1) (s_ref06_left x1.v (w64 (v1_1 - (ByteArray.size x1.name : Int))))) r) : Tells G (E_ref06_left_b1 p0 i1 v1_1) r := by
  have hB := H.1
  exact tells_nextV (h := HO_ref06_left_b1 p0 i1 v1_1) (vw := []) VOK.nil (y := (HE_ref06_left_b1 p0 (i1 + 1) (s_ref06_left x1.v (w64 (v1_1 - (ByteArray.size x1.name : Int)))), HO_ref06_left_b1 p0 (i1 + 1) (s_ref06_left x1.v (w64 (v1_1 - (ByteArray.size x1.name : Int)))))) (hs := [(3, (vE (.int .i64 ((List.length p0.fields) : Int)), [])), (0, (bE true, [])), (2, (bE true, [])), (4, (vE (.rf (Fld.cells x1)), [])), (6, (vE (.rf (Fld.cells x1)), [])), (7, (vE (.int .i64 ((i1 + 1 : Nat) : Int)), []))]) (as := [⟨a_ref06_left x1.v (w64 (v1_1 - (ByteArray.size x1.name : Int))), []⟩]) (Met.cons (len_ok (Fld.rows p0.fields) (List.length p0.fields) (Fld.rowsLen p0.fields)) (Met.cons (dec (decide ((i1 : Int) < ((List.length p0.fields) : Int))) true hc1) (Met.cons (dec (decide (0 ≤ v1_1)) true h0) (Met.cons (ix_ok 6 (Fld.rows p0.fields) i1 _ (Fld.rowsGet hx1) rfl) (Met.cons (ix_ok 6 (Fld.rows p0.fields) i1 _ (Fld.rowsGet hx1) rfl) (Met.cons (inc_ok i1 (by omega)) Met.nil)))))) (Told.cons (rec x1.v (szF hx1) (w64 (v1_1 - (ByteArray.size x1.name : Int))) (H.2.1 x1 (mem_get hx1))) Told.nil) (by kernel_rfl) hr
def Z_ref06_left_b1_2 (p0 : Val) (i1 : Nat) (v1_1 : Int) (_x1 : Fld) : List PV :=
  [.un, .un, .bx 0 0, .un, .un, .un, .int .i64 (i1 : Int), .un, .un, .un, .un, .un, .un, .un, .un, .un, .un, .un, .un, .un, .un, .un, .un, .un, .un, .un, .un, .un, .un, .un, .un, .int .i64 (i1 : Int), .bx 0 4, .sl (Fld.rows p0.fields), .int .i64 ((List.length p0.fields) : Int), .bool true, .bool true, .int .i64 v1_1, .bool false, .bool false, .un, .un, .un, .un, .un, .un, .un, .un, .un, .un, .un, .un, .un, .un, .un, .un, .un, .un, .un]
def ZO_ref06_left_b1_2 (_p0 : Val) (_i1 : Nat) (_v1_1 : Int) (_x1 : Fld) : List (Nat × List PV) :=
  []
theorem x_ref06_left_b1_2 (p0 : Val) (_H : H_ref06_left_b1 p0) (_rec : Rec_ref06_left p0) (x1 : Fld) (i1 : Nat) (v1_1 : Int) (_hx1 : p0.fields[i1]? = some x1) (_hi1 : i1 < List.length p0.fields) (hc1 : (decide ((i1 : Int) < ((List.length p0.fields) : Int))) = true) (h0 : (decide (0 ≤ v1_1)) = false) : P_ref06_left_b1 p0 (E_ref06_left_b1 p0 i1 v1_1) v1_1 := by
  exact ⟨(envF (Z_ref06_left_b1_2 p0 i1 v1_1 x1)), (zoF (ZO_ref06_left_b1_2 p0 i1 v1_1 x1)), tells_outV (h := HO_ref06_left_b1 p0 i1 v1_1) (vw := []) VOK.nil (x := ((.exit 2), S_ref06_left_b1_0 p0 v1_1 (envF (Z_ref06_left_b1_2 p0 i1 v1_1 x1)) (zoF (ZO_ref06_left_b1_2 p0 i1 v1_1 x1)))) (hs := [(3, (vE (.int .i64 ((List.length p0.fields) : Int)), [])), (0, (bE true, [])), (2, (bE false, []))]) (as := []) (Met.cons (len_ok (Fld.rows p0.fields) (List.length p0.fields) (Fld.rowsLen p0.fields)) (Met.cons (dec (decide ((i1 : Int) < ((List.length p0.fields) : Int))) true hc1) (Met.cons (dec (decide (0 ≤ v1_1)) false h0) Met.nil))) Told.nil (by kernel_rfl)⟩
theorem lt_ref06_left_b1 (p0 : Val) (H : H_ref06_left_b1 p0) (rec : Rec_ref06_left p0) : ∀ (r1 : List Fld) (i1 : Nat) (v1_1 : Int), List.drop i1 p0.fields = r1 → P_ref06_left_b1 p0 (E_ref06_left_b1 p0 i1 v1_1) (l_ref06_left_b1 p0 r1 i1 v1_1)
  | [], i1, v1_1, hd => by
    have hc1 : (decide ((i1 : Int) < ((List.length p0.fields) : Int))) = false := by have := drop_end hd; simp; omega
    rw [l_ref06_left_b1]
    exact x_ref06_left_b1_0 p0 H rec i1 v1_1 hc1
  | x1 :: r1, i1, v1_1, hd => by
    obtain ⟨hx1, hi1, hd'⟩ := drop_get hd
    have hc1 : (decide ((i1 : Int) < ((List.length p0.fields) : Int))) = true := by simp; omega
    rw [l_ref06_left_b1]
    cases h0 : (decide (0 ≤ v1_1)) with
    | true =>
      exact P_ref06_left_b1_mono p0 (fun r hr => n_ref06_left_b1_1 p0 H rec x1 i1 v1_1 hx1 hi1 hc1 h0 hr) _ (lt_ref06_left_b1 p0 H rec r1 (i1 + 1) (s_ref06_left x1.v (w64 (v1_1 - (ByteArray.size x1.name : Int)))) hd')
    | false =>
      exact x_ref06_left_b1_2 p0 H rec x1 i1 v1_1 hx1 hi1 hc1 h0
theorem r_ref06_left (p0 : Val) (p1 : Int) (H : H_ref06_left p0) (rec : Rec_ref06_left p0) : Tells G (c_ref06_left p0 p1) (a_ref06_left p0 p1) := by
  unfold a_ref06_left
  rw [s_ref06_left]
  have hl0 := lt_ref06_left_b0 p0 ((give_ref06_left p0 p1 H).1) rec p0.list 0 (w64 ((w64 (p1 - 1)) - (ByteArray.size p0.s : Int))) (by simp)
  obtain ⟨z0, zo0, hl0⟩ := hl0
  have hl1 := lt_ref06_left_b1 p0 ((give_ref06_left p0 p1 H).2.1) rec p0.fields 0 (l_ref06_left_b0 p0 p0.list 0 (w64 ((w64 (p1 - 1)) - (ByteArray.size p0.s : Int)))) (by simp)
  obtain ⟨z1, zo1, hl1⟩ := hl1
  exact tells_V (fn := Ir.ref06_left) rfl VOK.nil (hs := []) (as := [⟨.st (.exit 0) (S_ref06_left_b0_0 p0 (l_ref06_left_b0 p0 p0.list 0 (w64 ((w64 (p1 - 1)) - (ByteArray.size p0.s : Int)))) z0 zo0), []⟩, ⟨.st (.exit 2) (S_ref06_left_b1_0 p0 (l_ref06_left_b1 p0 p0.fields 0 (l_ref06_left_b0 p0 p0.list 0 (w64 ((w64 (p1 - 1)) - (ByteArray.size p0.s : Int))))) z1 zo1), []⟩]) Met.nil (Told.cons hl0 (Told.cons hl1 Told.nil)) (by kernel_rfl)
theorem i_ref06_left : ∀ (k : Nat) (p0 : Val), SizeOf.sizeOf p0 < k → ∀ (p1 : Int), H_ref06_left p0 → Tells G (c_ref06_left p0 p1) (a_ref06_left p0 p1)
  | 0, _, h, _, _ => absurd h (Nat.not_lt_zero _)
  | k + 1, p0, h, p1, H => r_ref06_left p0 p1 H (fun q hq p1 hH => i_ref06_left k q (by omega) p1 hH)
theorem t_ref06_left (p0 : Val) (p1 : Int) (H : H_ref06_left p0) : Tells G (c_ref06_left p0 p1) (a_ref06_left p0 p1) := i_ref06_left _ p0 (Nat.lt_succ_self _) p1 H

/-- orchestrator/ orchestratorref06.Few -/
def s_ref06_Few (p0 : Val) (p1 : Int) : Bool :=
  (decide (0 ≤ (s_ref06_left p0 p1)))
def c_ref06_Few (p0 : Val) (p1 : Int) : En := .call 41 [.agg (Val.cells p0), .int .i64 p1] []
def a_ref06_Few (p0 : Val) (p1 : Int) : Rs := .ret (.bool (s_ref06_Few p0 p1)) []
def H_ref06_Few (p0 : Val) (_p1 : Int) : Prop := (H_ref06_left p0) ∧ True
theorem t_ref06_Few (p0 : Val) (p1 : Int) (H : H_ref06_Few p0 p1) : Tells G (c_ref06_Few p0 p1) (a_ref06_Few p0 p1) := by
  unfold a_ref06_Few s_ref06_Few
  exact tells_V (fn := Ir.ref06_Few) rfl VOK.nil (hs := []) (as := [⟨a_ref06_left p0 p1, []⟩]) Met.nil (Told.cons (t_ref06_left p0 p1 H.1) Told.nil) (by kernel_rfl)

/-- orchestrator/ orchestratorlaw19.SmallPod -/
def s_law19_SmallPod (p0 : Pod) : Bool :=
  bif (s_law19_SmallMeta p0.meta_) then
    bif (s_ref06_Few (s_ref19_FromPod p0).spec 20000) then
      (s_ref06_Few (s_ref19_FromPod p0).status 20000)
    else
      false
  else
    false
def c_law19_SmallPod (p0 : Pod) : En := .call 24 [.agg (Pod.cells p0)] []
def a_law19_SmallPod (p0 : Pod) : Rs := .ret (.bool (s_law19_SmallPod p0)) []
def H_law19_SmallPod (p0 : Pod) : Prop := (H_ref19_FromPod p0) ∧ (H_law19_SmallMeta p0.meta_) ∧ (H_ref06_Few (s_ref19_FromPod p0).spec 20000) ∧ (H_ref06_Few (s_ref19_FromPod p0).status 20000) ∧ True
theorem t_law19_SmallPod (p0 : Pod) (H : H_law19_SmallPod p0) : Tells G (c_law19_SmallPod p0) (a_law19_SmallPod p0) := by
  unfold a_law19_SmallPod s_law19_SmallPod
  cases h0 : (s_law19_SmallMeta p0.meta_) with
  | true =>
    cases h1 : (s_ref06_Few (s_ref19_FromPod p0).spec 20000) with
    | true =>
      exact tells_V (fn := Ir.law19_SmallPod) rfl VOK.nil (hs := []) (as := [⟨a_ref19_FromPod p0, []⟩, ⟨.ret (.bool true) [], []⟩, ⟨.ret (.bool true) [], []⟩, ⟨a_ref06_Few (s_ref19_FromPod p0).status 20000, []⟩]) Met.nil (Told.cons (t_ref19_FromPod p0 H.1) (Told.cons (toldOf (t_law19_SmallMeta p0.meta_ H.2.1) (congrArg (fun b => Rs.ret (.bool b) []) h0)) (Told.cons (toldOf (t_ref06_Few (s_ref19_FromPod p0).spec 20000 H.2.2.1) (congrArg (fun b => Rs.ret (.bool b) []) h1)) (Told.cons (t_ref06_Few (s_ref19_FromPod p0).status 20000 H.2.2.2.1) Told.nil)))) (by kernel_rfl)
    | false =>
      exact tells_V (fn := Ir.law19_SmallPod) rfl VOK.nil (hs := []) (as := [⟨a_ref19_FromPod p0, []⟩, ⟨.ret (.bool true) [], []⟩, ⟨.ret (.bool false) [], []⟩]) Met.nil (Told.cons (t_ref19_FromPod p0 H.1) (Told.cons (toldOf (t_law19_SmallMeta p0.meta_ H.2.1) (congrArg (fun b => Rs.ret (.bool b) []) h0)) (Told.cons (toldOf (t_ref06_Few (s_ref19_FromPod p0).spec 20000 H.2.2.1) (congrArg (fun b => Rs.ret (.bool b) []) h1)) Told.nil))) (by kernel_rfl)
  | false =>
    exact tells_V (fn := Ir.law19_SmallPod) rfl VOK.nil (hs := []) (as := [⟨a_ref19_FromPod p0, []⟩, ⟨.ret (.bool false) [], []⟩]) Met.nil (Told.cons (t_ref19_FromPod p0 H.1) (Told.cons (toldOf (t_law19_SmallMeta p0.meta_ H.2.1) (congrArg (fun b => Rs.ret (.bool b) []) h0)) Told.nil)) (by kernel_rfl)

end Go.Proofs.Ytpmdkaecfoakkaa
