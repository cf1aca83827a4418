/- Texts of the claim, merged by a program; what the statement does not reach is left out. -/
import Derived.Test.YtnhhddbbppbblaaBPatchComposes3

section
/- Rows of one's own: cleared behind a place, appended to from a place on. -/
namespace Go.Pv
theorem Qf2 {sz : Nat} : ∀ (rows : List (List PV)) (k : Nat), (∀ r ∈ rows, r.length = sz) → rows.flatten.take (k * sz) = (rows.take k).flatten
  | [], k, _ => by simp
  | r :: rs, 0, _ => by simp
  | r :: rs, k + 1, h => by
    have hr := h r List.mem_cons_self
    rw [List.flatten_cons, List.take_succ_cons, List.flatten_cons, ← Qf2 rs k (fun q hq => h q (List.mem_cons_of_mem _ hq)), show (k + 1) * sz = r.length + k * sz by rw [hr, Nat.add_mul]; omega, List.take_length_add_append]
theorem Qsy (z : List PV) : ∀ n : Nat, rep z n = (List.replicate n z).flatten
  | 0 => rfl
  | n + 1 => by rw [rep, Qsy z n, List.replicate_succ, List.flatten_cons]
def clrE (id sz : Nat) (gr : Bool) (cells z : List PV) (K n : Nat) : Option Eff := Q7x (look [(id, ⟨sz, 0, gr, cells⟩)]) sz z (.ms id sz K n)
theorem Q15z (id sz : Nat) (gr : Bool) (rows rows' : List (List PV)) (K n : Nat) (z : List PV) (hs : ∀ r ∈ rows, r.length = sz) (hl : K + n = rows.length) (hn : 0 < n) (hr : rows' = rows.take K) (hz : z.length = sz := by rfl) :
    clrE id sz gr rows.flatten z K n = some ⟨.tup [], [(id, some ⟨sz, 0, gr, rows'.flatten⟩)], [id]⟩ := by
  subst hr
  obtain ⟨k, rfl⟩ : ∃ k, n = k + 1 := ⟨n - 1, by omega⟩
  have h1 : (rep z (k + 1)).length = (k + 1) * sz := by
    rw [Qsy, Q36 sz _ (fun r hr => by rw [(List.mem_replicate.1 hr).2]; exact hz), List.length_replicate]
  have h2 : rows.flatten.length = rows.length * sz := Q36 sz rows hs
  have h3 : K * sz + (k + 1) * sz = rows.flatten.length := by rw [h2, ← hl, ← Nat.add_mul]
  unfold clrE Q7x clC
  simp only [look, Nat.beq_refl, cond_true, Option.bind_some, hz]
  rw [Nat.ble_eq_true_of_le (Nat.zero_le _), Nat.ble_eq_true_of_le (show (K + (k + 1)) * sz ≤ rows.flatten.length by rw [Nat.add_mul]; omega), h1, h3, Nat.beq_refl, Qf2 rows K hs]
  rfl
theorem Q11z {sz : Nat} {gr : Bool} {rows : List (List PV)} {n : Nat} (hs : ∀ r ∈ rows, r.length = sz) (h : n ≤ rows.length) : apC ⟨sz, 0, gr, rows.flatten⟩ (n * sz) = some (rows.take n).flatten := by
  have h2 : rows.flatten.length = rows.length * sz := Q36 sz rows hs
  have h3 := Qf2 rows n hs
  unfold apC
  cases e : Nat.beq rows.flatten.length (n * sz) with
  | true =>
    have e := Nat.eq_of_beq_eq_true e
    rw [cond_true, ← h3, ← e, List.take_length]
  | false =>
    have : n * sz ≤ rows.length * sz := Nat.mul_le_mul_right _ h
    rw [cond_false, Nat.ble_eq_true_of_le (by show n * sz ≤ rows.flatten.length; omega), Nat.ble_eq_true_of_le (Nat.zero_le _), h3]
    rfl
def aptE (id lid fr sz bytes lro : Nat) (lgr : Bool) (rows : List (List PV)) (r : List PV) (n : Nat) : Option Eff :=
  Q3t (look [(id, ⟨sz, 0, true, rows.flatten⟩), (lid, ⟨sz, lro, lgr, r⟩)]) fr sz bytes (.ms id sz 0 n) (.ms lid sz 0 1)
theorem Q13h (id lid fr sz bytes lro : Nat) (lgr : Bool) (rows rows' : List (List PV)) (r : List PV) (n n' : Nat) (hne : Nat.beq id lid = false) (hle : n ≤ rows.length) (hn' : n' = rows'.length) (hr' : rows' = rows.take n ++ [r])
    (hs : ∀ r ∈ rows, r.length = sz) (hr : r.length = sz) (hb : (n + 1) * bytes ≤ 140737488355328) :
    aptE id lid fr sz bytes lro lgr rows r n = some ⟨.ms fr sz 0 n', [(id, none), (fr, some ⟨sz, 0, true, rows'.flatten⟩)], [id, lid]⟩ := by
  subst hn' hr'
  unfold aptE Q3t
  have h1 : look [(id, (⟨sz, 0, true, rows.flatten⟩ : Ob)), (lid, ⟨sz, lro, lgr, r⟩)] lid = some ⟨sz, lro, lgr, r⟩ := by simp [look, hne]
  have h2 : look [(id, (⟨sz, 0, true, rows.flatten⟩ : Ob)), (lid, ⟨sz, lro, lgr, r⟩)] id = some ⟨sz, 0, true, rows.flatten⟩ := by simp [look]
  have hsrc : source (look [(id, (⟨sz, 0, true, rows.flatten⟩ : Ob)), (lid, ⟨sz, lro, lgr, r⟩)]) sz (.ms lid sz 0 1) = some (1, r, [lid]) := by
    simp only [source, h1, Option.bind_some]
    subst hr
    have : Nat.ble r.length r.length = true := Nat.ble_eq_true_of_le (Nat.le_refl _)
    simp [this]
  rw [hsrc, Option.bind_some]
  simp only [h2, Option.bind_some]
  have hc : (true && Nat.beq sz sz && Nat.beq sz sz && Nat.beq 0 0 && Nat.ble ((n + 1) * bytes) 140737488355328) = true := by
    simp only [Nat.beq_refl, Bool.and_true, Bool.true_and]
    exact Nat.ble_eq_true_of_le hb
  rw [hc, Q11z hs hle]
  have hl : (rows.take n ++ [r]).length = n + 1 := by
    rw [List.length_append, List.length_take]
    simp
    omega
  rw [hl]
  simp
theorem Val.Q4b (l : List Val) (k : Nat) (x : Val) : Val.rows (l.set k x) = (Val.rows l).set k (Val.cells x) := by simp [Val.Q2h, List.map_set]
theorem Fld.Q4b (l : List Fld) (k : Nat) (x : Fld) : Fld.rows (l.set k x) = (Fld.rows l).set k (Fld.cells x) := by simp [Fld.Q2h, List.map_set]
theorem Qya {l : List (List PV)} {k : Nat} {r : List PV} (h : l[k]? = some r) : l = l.set k r := by
  apply List.ext_getElem?
  intro i
  rw [List.getElem?_set]
  by_cases e : k = i
  · subst e
    rw [if_pos rfl, h, if_pos (List.getElem?_eq_some_iff.1 h).1]
  · rw [if_neg e]
end Go.Pv
end

section
/- What taking fields out and copying values compute (printed by a program). -/
namespace Go.Proofs.Ytnhhddbbppbblaa
open Go.Pv
def Q153 (p0 : Val) : Val := p0
def Qsb (p0 : Val) : List Val → Nat → Unit
 | [], _i0 =>
  ()
 | _x0 :: r0, i0 =>
  Qsb p0 r0 (i0 + 1)
def Qpp (p0 : Val) (i0 : Nat) : List PV :=
  [.un, .bx 0 0, .bx 1 0, .un, .un, .un, .un, .un, .un, .un, .un, .un, .ms 2 5 0 (List.length p0.list), .int .i64 ((List.length p0.list) : Int), .int .i64 (i0 : Int), .un, .un, .un, .un, .un, .un, .un, .un, .un, .un, .un, .un, .un, .un, .un, .un, .un, .un, .un, .un, .un, .un, .un, .un, .un, .un, .un, .un, .un, .un, .un, .un, .un]
def Qfv (p0 : Val) (_i0 : Nat) : List Ob :=
  [⟨5, 0, true, [.int .i64 p0.kind, .int .i64 p0.n, .str p0.s, .ms 2 5 0 (List.length p0.list), .sl (Fld.rows p0.fields)]⟩, ⟨5, 0, true, [.int .i64 0, .int .i64 0, .str (⟨#[]⟩ : ByteArray), .ms 3 5 0 0, .ms 4 6 0 0]⟩, ⟨5, 0, true, (Val.rows p0.list).flatten⟩, ⟨5, 0, true, []⟩, ⟨6, 0, true, []⟩]
def Qbw (p0 : Val) (i0 : Nat) : En := .loop 0 Ir.Qe4 Ir.Q13i (Qpp p0 i0) (Qfv p0 i0)
def Qiz (p0 : Val) (z : Nat → PV) (_zo : Nat → List PV) : St :=
  ⟨[z 0, .bx 0 0, .bx 1 0, z 3, z 4, z 5, z 6, z 7, z 8, z 9, z 10, z 11, z 12, z 13, z 14, z 15, z 16, z 17, z 18, z 19, z 20, z 21, z 22, z 23, z 24, z 25, z 26, z 27, z 28, z 29, z 30, z 31, z 32, z 33, z 34, z 35, z 36, z 37, z 38, z 39, z 40, z 41, z 42, z 43, z 44, z 45, z 46, z 47], [(0, ⟨5, 0, true, [.int .i64 p0.kind, .int .i64 p0.n, .str p0.s, .ms 2 5 0 (List.length p0.list), .sl (Fld.rows p0.fields)]⟩), (1, ⟨5, 0, true, [.int .i64 0, .int .i64 0, .str (⟨#[]⟩ : ByteArray), .ms 3 5 0 0, .ms 4 6 0 0]⟩), (2, ⟨5, 0, true, (Val.rows p0.list).flatten⟩), (3, ⟨5, 0, true, []⟩), (4, ⟨6, 0, true, []⟩)], 69⟩
theorem Qtt (p0 : Val) (i0 : Nat) : VOK (Go.Pv.look (number 0 (Qfv p0 i0))) [(2, Val.rows p0.list)] := (VOK.cons (show Seen _ _ from Q3r (ob := ⟨5, 0, true, (Val.rows p0.list).flatten⟩) (Val.Q5 p0.list 5 rfl)) VOK.nil)
def Q6v (p0 : Val) (e : En) (_q : Unit) : Prop := ∃ z zo, Q7 G e (.st (.exit 0) (Qiz p0 z zo))
theorem Ql8 (p0 : Val) {e e' : En} (h : ∀ r, Q7 G e r → Q7 G e' r) : ∀ q, Q6v p0 e q → Q6v p0 e' q
  | _, ⟨z, zo, hz⟩ => ⟨z, zo, h _ hz⟩
def Qsp (p0 : Val) : List Fld → Nat → Unit
 | [], _i1 =>
  ()
 | _x1 :: r1, i1 =>
  Qsp p0 r1 (i1 + 1)
def Qn1 (p0 : Val) (i1 : Nat) : List PV :=
  [.un, .bx 0 0, .bx 1 0, .un, .un, .un, .un, .un, .un, .un, .un, .un, .un, .un, .un, .un, .un, .un, .un, .un, .un, .un, .un, .un, .un, .un, .un, .un, .un, .un, .un, .ms 2 6 0 (List.length p0.fields), .int .i64 ((List.length p0.fields) : Int), .int .i64 (i1 : Int), .un, .un, .un, .un, .un, .un, .un, .un, .un, .un, .un, .un, .un, .un]
def Qcp (p0 : Val) (_i1 : Nat) : List Ob :=
  [⟨5, 0, true, [.int .i64 p0.kind, .int .i64 p0.n, .str p0.s, .ms 3 5 0 (List.length p0.list), .ms 2 6 0 (List.length p0.fields)]⟩, ⟨5, 0, true, [.int .i64 0, .int .i64 0, .str (⟨#[]⟩ : ByteArray), .ms 4 5 0 0, .ms 5 6 0 0]⟩, ⟨6, 0, true, (Fld.rows p0.fields).flatten⟩, ⟨5, 0, true, (Val.rows p0.list).flatten⟩, ⟨5, 0, true, []⟩, ⟨6, 0, true, []⟩]
def Qb6 (p0 : Val) (i1 : Nat) : En := .loop 0 Ir.Qe9 Ir.Q13w (Qn1 p0 i1) (Qcp p0 i1)
def Qil (p0 : Val) (z : Nat → PV) (_zo : Nat → List PV) : St :=
  ⟨[z 0, .bx 0 0, .bx 1 0, z 3, z 4, z 5, z 6, z 7, z 8, z 9, z 10, z 11, z 12, z 13, z 14, z 15, z 16, z 17, z 18, z 19, z 20, z 21, z 22, z 23, z 24, z 25, z 26, z 27, z 28, z 29, z 30, z 31, z 32, z 33, z 34, z 35, z 36, z 37, z 38, z 39, z 40, z 41, z 42, z 43, z 44, z 45, z 46, z 47], [(0, ⟨5, 0, true, [.int .i64 p0.kind, .int .i64 p0.n, .str p0.s, .ms 3 5 0 (List.length p0.list), .ms 2 6 0 (List.length p0.fields)]⟩), (1, ⟨5, 0, true, [.int .i64 0, .int .i64 0, .str (⟨#[]⟩ : ByteArray), .ms 4 5 0 0, .ms 5 6 0 0]⟩), (2, ⟨6, 0, true, (Fld.rows p0.fields).flatten⟩), (3, ⟨5, 0, true, (Val.rows p0.list).flatten⟩), (4, ⟨5, 0, true, []⟩), (5, ⟨6, 0, true, []⟩)], 70⟩
theorem Qt8 (p0 : Val) (i1 : Nat) : VOK (Go.Pv.look (number 0 (Qcp p0 i1))) [(2, Fld.rows p0.fields), (3, Val.rows p0.list)] := (VOK.cons (show Seen _ _ from Q3r (ob := ⟨6, 0, true, (Fld.rows p0.fields).flatten⟩) (Fld.Q5 p0.fields 6 rfl)) (VOK.cons (show Seen _ _ from Q3r (ob := ⟨5, 0, true, (Val.rows p0.list).flatten⟩) (Val.Q5 p0.list 5 rfl)) VOK.nil))
def Q70 (p0 : Val) (e : En) (_q : Unit) : Prop := ∃ z zo, Q7 G e (.st (.exit 2) (Qil p0 z zo))
theorem Qlp (p0 : Val) {e e' : En} (h : ∀ r, Q7 G e r → Q7 G e' r) : ∀ q, Q70 p0 e q → Q70 p0 e' q
  | _, ⟨z, zo, hz⟩ => ⟨z, zo, h _ hz⟩
theorem Q19h (p0 : Val) : Q153 p0 = (p0) := by
  rfl
def Q12n (p0 : Val) : En := .call 45 [.agg (Val.cells p0)] []
def Q10g (p0 : Val) : Rs := .ret (.agg (Val.cells (Q153 p0))) []
abbrev Qdr (p0 : Val) : Prop := Val.Sm 1000000000 p0
def Q7c (p0 : Val) : Prop := ∀ (q : Val), SizeOf.sizeOf q < SizeOf.sizeOf p0 → Qdr q → Q7 G (Q12n q) (Q10g q)
def Qbi (p0 : Val) : Prop := (List.length p0.list ≤ 4611686018427387904) ∧ (∀ x0 ∈ p0.list, Qdr x0) ∧ True
def Qbo (p0 : Val) : Prop := (List.length p0.fields ≤ 4611686018427387904) ∧ (∀ x1 ∈ p0.fields, Qdr x1.v) ∧ True
theorem Qbp (p0 : Val) (H : Qdr p0) : (List.length p0.list * 80 ≤ 140737488355328) ∧ (Qbi p0) ∧ (List.length p0.fields * 96 ≤ 140737488355328) ∧ (Qbo p0) ∧ True := by
  obtain ⟨h1, h2, h3, h4⟩ := H.all
  exact ⟨by omega, ⟨by omega, h3, trivial⟩, by omega, ⟨by omega, h4, trivial⟩, trivial⟩
def Qje (p0 : Val) (i0 : Nat) : List PV :=
  [.un, .un, .un, .un, .un, .un, .un, .un, .un, .un, .un, .un, .ms 2 5 0 (List.length p0.list), .int .i64 ((List.length p0.list) : Int), .int .i64 (i0 : Int), .bool false]
def Qcf (_p0 : Val) (_i0 : Nat) : List (Nat × List PV) :=
  []
theorem Qxc (p0 : Val) (_H : Qbi p0) (_rec : Q7c p0) (i0 : Nat) (hc0 : (decide ((i0 : Int) < ((List.length p0.list) : Int))) = false) : Q6v p0 (Qbw p0 i0) () := by
 exact ⟨(envF (Qje p0 i0)), (zoF (Qcf p0 i0)), Qe (Qtt p0 i0) (x := ((.exit 0), Qiz p0 (envF (Qje p0 i0)) (zoF (Qcf p0 i0)))) [hB 0 hc0] [] (by kernel_rfl)⟩
theorem Qv3 (p0 : Val) (H : Qbi p0) (rec : Q7c p0) (x0 : Val) (i0 : Nat) (hx0 : p0.list[i0]? = some x0) (hi0 : i0 < List.length p0.list) (hc0 : (decide ((i0 : Int) < ((List.length p0.list) : Int))) = true) {r : Rs} (hr : Q7 G (Qbw p0 (i0 + 1)) r) : Q7 G (Qbw p0 i0) r := by
 have hB0 := H.1
 exact Q8 (Qtt p0 i0) (y := (Qpp p0 (i0 + 1), Qfv p0 (i0 + 1))) [hB 0 hc0, hP 1 (Q1l 2 5 (List.length p0.list) (i0 : Int) i0 (by omega) (by omega) (by omega)), hP 0 (Q30 2 5 0 true ((Val.rows p0.list).flatten) (Val.rows p0.list) 5 true i0 0 (i0 * 5) (Val.cells x0) (.agg [.int .i64 x0.kind, .int .i64 x0.n, .str x0.s, .sl (Val.rows x0.list), .sl (Fld.rows x0.fields)]) rfl rfl (Val.Qf hx0) (Val.Ql p0.list) (by decide) rfl), hP 8 (Q1l 2 5 (List.length p0.list) (i0 : Int) i0 (by omega) (by omega) (by omega)), hV 0 [(2, Val.rows p0.list)] (Qf4 2 5 true ((Val.rows p0.list).flatten) (Val.rows p0.list) (Val.rows p0.list) 5 i0 0 (i0 * 5) _ (.agg [.int .i64 x0.kind, .int .i64 x0.n, .str x0.s, .sl (Val.rows x0.list), .sl (Fld.rows x0.fields)]) rfl rfl (Val.Qf hx0) (Val.Ql p0.list) (by decide) rfl rfl (Qya (Val.Qf hx0))), hS 0 true (Val.Q5 p0.list 5 rfl), hP 0 (Qs i0 (by omega))] [aN (rec x0 (szL hx0) (H.2.1 x0 (Q12 hx0)))] (by kernel_rfl) hr
theorem Qow (p0 : Val) (H : Qbi p0) (rec : Q7c p0) : ∀ (r0 : List Val) (i0 : Nat), List.drop i0 p0.list = r0 → Q6v p0 (Qbw p0 i0) (Qsb p0 r0 i0)
 | [], i0, hd => by
  have hc0 : (decide ((i0 : Int) < ((List.length p0.list) : Int))) = false := by have := Q1i hd; simp; omega
  show Q6v p0 _ ()
  exact Qxc p0 H rec i0 hc0
 | x0 :: r0, i0, hd => by
  obtain ⟨hx0, hi0, hd'⟩ := Q17 hd
  have hc0 : (decide ((i0 : Int) < ((List.length p0.list) : Int))) = true := by simp; omega
  show Q6v p0 _ ()
  exact Ql8 p0 (fun r hr => Qv3 p0 H rec x0 i0 hx0 hi0 hc0 hr) _ (Qow p0 H rec r0 (i0 + 1) hd')
def Qhb (p0 : Val) (i1 : Nat) : List PV :=
  [.un, .un, .un, .un, .un, .un, .un, .un, .un, .un, .un, .un, .un, .un, .un, .un, .un, .un, .un, .un, .un, .un, .un, .un, .un, .un, .un, .un, .un, .un, .un, .ms 2 6 0 (List.length p0.fields), .int .i64 ((List.length p0.fields) : Int), .int .i64 (i1 : Int), .bool false]
def Qem (_p0 : Val) (_i1 : Nat) : List (Nat × List PV) :=
  []
theorem Quu (p0 : Val) (_H : Qbo p0) (_rec : Q7c p0) (i1 : Nat) (hc1 : (decide ((i1 : Int) < ((List.length p0.fields) : Int))) = false) : Q70 p0 (Qb6 p0 i1) () := by
 exact ⟨(envF (Qhb p0 i1)), (zoF (Qem p0 i1)), Qe (Qt8 p0 i1) (x := ((.exit 2), Qil p0 (envF (Qhb p0 i1)) (zoF (Qem p0 i1)))) [hB 0 hc1] [] (by kernel_rfl)⟩
theorem Qvp (p0 : Val) (H : Qbo p0) (rec : Q7c p0) (x1 : Fld) (i1 : Nat) (hx1 : p0.fields[i1]? = some x1) (hi1 : i1 < List.length p0.fields) (hc1 : (decide ((i1 : Int) < ((List.length p0.fields) : Int))) = true) {r : Rs} (hr : Q7 G (Qb6 p0 (i1 + 1)) r) : Q7 G (Qb6 p0 i1) r := by
 have hB0 := H.1
 exact Q8 (Qt8 p0 i1) (y := (Qn1 p0 (i1 + 1), Qcp p0 (i1 + 1))) [hB 0 hc1, hP 1 (Q1l 2 6 (List.length p0.fields) (i1 : Int) i1 (by omega) (by omega) (by omega)), hP 0 (Q30 2 6 0 true ((Fld.rows p0.fields).flatten) (Fld.rows p0.fields) 6 true i1 0 (i1 * 6) (Fld.cells x1) (.agg [.str x1.name, .int .i64 x1.v.kind, .int .i64 x1.v.n, .str x1.v.s, .sl (Val.rows x1.v.list), .sl (Fld.rows x1.v.fields)]) rfl rfl (Fld.Qf hx1) (Fld.Ql p0.fields) (by decide) rfl), hP 9 (Q1l 2 6 (List.length p0.fields) (i1 : Int) i1 (by omega) (by omega) (by omega)), hV 1 [(2, Fld.rows p0.fields)] (Qf4 2 6 true ((Fld.rows p0.fields).flatten) (Fld.rows p0.fields) (Fld.rows p0.fields) 5 i1 1 (i1 * 6 + 1) _ (.agg [.int .i64 x1.v.kind, .int .i64 x1.v.n, .str x1.v.s, .sl (Val.rows x1.v.list), .sl (Fld.rows x1.v.fields)]) rfl rfl (Fld.Qf hx1) (Fld.Ql p0.fields) (by decide) rfl rfl (Qya (Fld.Qf hx1))), hS 0 true (Fld.Q5 p0.fields 6 rfl), hP 0 (Qs i1 (by omega))] [aN (rec x1.v (szF hx1) (H.2.1 x1 (Q12 hx1)))] (by kernel_rfl) hr
theorem Qpd (p0 : Val) (H : Qbo p0) (rec : Q7c p0) : ∀ (r1 : List Fld) (i1 : Nat), List.drop i1 p0.fields = r1 → Q70 p0 (Qb6 p0 i1) (Qsp p0 r1 i1)
 | [], i1, hd => by
  have hc1 : (decide ((i1 : Int) < ((List.length p0.fields) : Int))) = false := by have := Q1i hd; simp; omega
  show Q70 p0 _ ()
  exact Quu p0 H rec i1 hc1
 | x1 :: r1, i1, hd => by
  obtain ⟨hx1, hi1, hd'⟩ := Q17 hd
  have hc1 : (decide ((i1 : Int) < ((List.length p0.fields) : Int))) = true := by simp; omega
  show Q70 p0 _ ()
  exact Qlp p0 (fun r hr => Qvp p0 H rec x1 i1 hx1 hi1 hc1 hr) _ (Qpd p0 H rec r1 (i1 + 1) hd')
theorem Q18t (p0 : Val) (H : Qdr p0) (rec : Q7c p0) : Q7 G (Q12n p0) (Q10g p0) := by
  unfold Q10g
  rw [Q19h]
  have hl0 := Qow p0 ((Qbp p0 H).2.1) rec p0.list 0 (by simp)
  obtain ⟨z0, zo0, hl0⟩ := hl0
  have hl1 := Qpd p0 ((Qbp p0 H).2.2.2.1) rec p0.fields 0 (by simp)
  obtain ⟨z1, zo1, hl1⟩ := hl1
  exact Q9 (fn := Ir.K1r) rfl VOK.nil [hQ (Val.Q5 p0.list 5 rfl), hS 0 true (Val.Q5 p0.list 5 rfl), hQ (Fld.Q5 p0.fields 6 rfl), hS 0 true (Fld.Q5 p0.fields 6 rfl), hS 0 true (Val.Q5 p0.list 5 rfl), hQ (Val.Qc p0.list).symm, hQ (Fld.Qc p0.fields).symm] [aV [(0, Val.rows p0.list)] (Q5u (G := G) (f := 55) (sz := 5) (bytes := 80) rfl (Val.Qc p0.list) (Val.Q5 p0.list 5 rfl) (Qbp p0 H).1), aV [(2, Val.rows p0.list)] hl0, aV [(0, Fld.rows p0.fields)] (Q5u (G := G) (f := 41) (sz := 6) (bytes := 96) rfl (Fld.Qc p0.fields) (Fld.Q5 p0.fields 6 rfl) (Qbp p0 H).2.2.1), aV [(2, Fld.rows p0.fields), (3, Val.rows p0.list)] hl1] (by kernel_rfl)
theorem Q16w : ∀ (k : Nat) (p0 : Val), SizeOf.sizeOf p0 < k → Qdr p0 → Q7 G (Q12n p0) (Q10g p0)
  | 0, _, h, _ => absurd h (Nat.not_lt_zero _)
  | k + 1, p0, h, H => Q18t p0 H (fun q hq hH => Q16w k q (by omega) hH)
theorem Q12c (p0 : Val) (H : Qdr p0) : Q7 G (Q12n p0) (Q10g p0) := Q16w _ p0 (Nat.lt_succ_self _) H
mutual
def s_Kj (p0 : Val) : Val :=
 (Val.mk p0.kind p0.n p0.s (Q2d p0 p0.list 0 []) (Q4g p0 p0.fields 0 []))
termination_by SizeOf.sizeOf p0
decreasing_by all_goals first | exact Val.Q1v _ | exact Val.Q10 _ | exact Q1y _ _ | exact Q1s _ _ | exact Q1k _ _
def Q2d (p0 : Val) : List Val → Nat → (List Val) → List Val
 | [], _i0, v0_1 =>
  v0_1
 | x0 :: r0, i0, v0_1 =>
  Q2d p0 r0 (i0 + 1) (v0_1 ++ [(s_Kj x0)])
termination_by l => SizeOf.sizeOf l
decreasing_by all_goals first | exact Val.Q1v _ | exact Val.Q10 _ | exact Q1y _ _ | exact Q1s _ _ | exact Q1k _ _
def Q4g (p0 : Val) : List Fld → Nat → (List Fld) → List Fld
 | [], _i1, v1_1 =>
  v1_1
 | x1 :: r1, i1, v1_1 =>
  Q4g p0 r1 (i1 + 1) (v1_1 ++ [(Fld.mk x1.name (s_Kj x1.v))])
termination_by l => SizeOf.sizeOf l
decreasing_by all_goals first | exact Val.Q1v _ | exact Val.Q10 _ | exact Q1y _ _ | exact Q1s _ _ | exact Q1k _ _
end
def Qtj (_p0 : Val) (i0 : Nat) (_v0_1 : List Val) : List PV :=
  [.un, .bx 0 0, .bx 1 0, .bx 2 0, .int .i64 (i0 : Int), .un, .un, .un, .un, .un, .un, .un, .un, .un, .un, .un, .un, .un, .un, .un, .un, .un, .un, .un, .un, .un, .un, .un, .un, .un, .un, .un, .un, .un, .un, .un, .un, .un, .un, .un, .un, .un, .un, .un, .un, .un, .un, .un, .un, .un, .un, .un, .un, .un, .un, .un, .un, .un]
def Qk3 (p0 : Val) (_i0 : Nat) (v0_1 : List Val) : List Ob :=
  [⟨5, 0, true, [.int .i64 p0.kind, .int .i64 p0.n, .str p0.s, .sl (Val.rows p0.list), .sl (Fld.rows p0.fields)]⟩, ⟨5, 0, true, [.int .i64 0, .int .i64 0, .str (⟨#[]⟩ : ByteArray), .ms 3 5 0 0, .ms 4 6 0 0]⟩, ⟨5, 0, true, [.int .i64 p0.kind, .int .i64 p0.n, .str p0.s, .ms 5 5 0 (List.length v0_1), .ms 6 6 0 0]⟩, ⟨5, 0, true, []⟩, ⟨6, 0, true, []⟩, ⟨5, 0, true, (Val.rows v0_1).flatten⟩, ⟨6, 0, true, []⟩]
def Qkj (p0 : Val) (i0 : Nat) (v0_1 : List Val) : En := .loop 0 Ir.Qhh Ir.Q16i (Qtj p0 i0 v0_1) (Qk3 p0 i0 v0_1)
def Qpr (p0 : Val) (q0 : List Val) (z : Nat → PV) (_zo : Nat → List PV) : St :=
  ⟨[z 0, .bx 0 0, .bx 1 0, .bx 2 0, z 4, z 5, z 6, z 7, z 8, z 9, z 10, z 11, z 12, z 13, z 14, z 15, z 16, z 17, z 18, z 19, z 20, z 21, z 22, z 23, z 24, z 25, z 26, z 27, z 28, z 29, z 30, z 31, z 32, z 33, z 34, z 35, z 36, z 37, z 38, z 39, z 40, z 41, z 42, z 43, z 44, z 45, z 46, z 47, z 48, z 49, z 50, z 51, z 52, z 53, z 54, z 55, z 56, z 57], [(0, ⟨5, 0, true, [.int .i64 p0.kind, .int .i64 p0.n, .str p0.s, .sl (Val.rows p0.list), .sl (Fld.rows p0.fields)]⟩), (1, ⟨5, 0, true, [.int .i64 0, .int .i64 0, .str (⟨#[]⟩ : ByteArray), .ms 3 5 0 0, .ms 4 6 0 0]⟩), (2, ⟨5, 0, true, [.int .i64 p0.kind, .int .i64 p0.n, .str p0.s, .ms 5 5 0 (List.length q0), .ms 6 6 0 0]⟩), (3, ⟨5, 0, true, []⟩), (4, ⟨6, 0, true, []⟩), (5, ⟨5, 0, true, (Val.rows q0).flatten⟩), (6, ⟨6, 0, true, []⟩)], 327⟩
theorem Q113 (p0 : Val) (i0 : Nat) (v0_1 : List Val) : VOK (Go.Pv.look (number 0 (Qk3 p0 i0 v0_1))) [(5, Val.rows v0_1)] := (VOK.cons (show Seen _ _ from Q3r (ob := ⟨5, 0, true, (Val.rows v0_1).flatten⟩) (Val.Q5 v0_1 5 rfl)) VOK.nil)
def Qle (p0 : Val) (e : En) (q : List Val) : Prop := ∃ z zo, Q7 G e (.st (.exit 0) (Qpr p0 q z zo))
theorem Qp7 (p0 : Val) {e e' : En} (h : ∀ r, Q7 G e r → Q7 G e' r) : ∀ q, Qle p0 e q → Qle p0 e' q
  | _, ⟨z, zo, hz⟩ => ⟨z, zo, h _ hz⟩
def Qsk (_p0 : Val) (i1 : Nat) (_v1_1 : List Fld) : List PV :=
  [.un, .bx 0 0, .bx 1 0, .bx 2 0, .un, .int .i64 (i1 : Int), .un, .un, .un, .un, .un, .un, .un, .un, .un, .un, .un, .un, .un, .un, .un, .un, .un, .un, .un, .un, .un, .un, .un, .un, .un, .un, .un, .un, .un, .un, .un, .un, .un, .un, .un, .un, .un, .un, .un, .un, .un, .un, .un, .un, .un, .un, .un, .un, .un, .un, .un, .un]
def Qk9 (p0 : Val) (_i1 : Nat) (v1_1 : List Fld) : List Ob :=
  [⟨5, 0, true, [.int .i64 p0.kind, .int .i64 p0.n, .str p0.s, .sl (Val.rows p0.list), .sl (Fld.rows p0.fields)]⟩, ⟨5, 0, true, [.int .i64 0, .int .i64 0, .str (⟨#[]⟩ : ByteArray), .ms 3 5 0 0, .ms 4 6 0 0]⟩, ⟨5, 0, true, [.int .i64 p0.kind, .int .i64 p0.n, .str p0.s, .ms 5 5 0 (List.length (Q2d p0 p0.list 0 [])), .ms 6 6 0 (List.length v1_1)]⟩, ⟨5, 0, true, []⟩, ⟨6, 0, true, []⟩, ⟨5, 0, true, (Val.rows (Q2d p0 p0.list 0 [])).flatten⟩, ⟨6, 0, true, (Fld.rows v1_1).flatten⟩]
def Qkp (p0 : Val) (i1 : Nat) (v1_1 : List Fld) : En := .loop 0 Ir.Qi1 Ir.Q177 (Qsk p0 i1 v1_1) (Qk9 p0 i1 v1_1)
def Qnn (p0 : Val) (q0 : List Fld) (z : Nat → PV) (_zo : Nat → List PV) : St :=
  ⟨[z 0, z 1, .bx 1 0, .bx 2 0, z 4, z 5, z 6, z 7, z 8, z 9, z 10, z 11, z 12, z 13, z 14, z 15, z 16, z 17, z 18, z 19, z 20, z 21, z 22, z 23, z 24, z 25, z 26, z 27, z 28, z 29, z 30, z 31, z 32, z 33, z 34, z 35, z 36, z 37, z 38, z 39, z 40, z 41, z 42, z 43, z 44, z 45, z 46, z 47, z 48, z 49, z 50, z 51, z 52, z 53, z 54, z 55, z 56, z 57], [(0, ⟨5, 0, true, [.int .i64 p0.kind, .int .i64 p0.n, .str p0.s, .sl (Val.rows p0.list), .sl (Fld.rows p0.fields)]⟩), (1, ⟨5, 0, true, [.int .i64 0, .int .i64 0, .str (⟨#[]⟩ : ByteArray), .ms 3 5 0 0, .ms 4 6 0 0]⟩), (2, ⟨5, 0, true, [.int .i64 p0.kind, .int .i64 p0.n, .str p0.s, .ms 5 5 0 (List.length (Q2d p0 p0.list 0 [])), .ms 6 6 0 (List.length q0)]⟩), (3, ⟨5, 0, true, []⟩), (4, ⟨6, 0, true, []⟩), (5, ⟨5, 0, true, (Val.rows (Q2d p0 p0.list 0 [])).flatten⟩), (6, ⟨6, 0, true, (Fld.rows q0).flatten⟩)], 327⟩
theorem Qzu (p0 : Val) (i1 : Nat) (v1_1 : List Fld) : VOK (Go.Pv.look (number 0 (Qk9 p0 i1 v1_1))) [(5, Val.rows (Q2d p0 p0.list 0 [])), (6, Fld.rows v1_1)] := (VOK.cons (show Seen _ _ from Q3r (ob := ⟨5, 0, true, (Val.rows (Q2d p0 p0.list 0 [])).flatten⟩) (Val.Q5 (Q2d p0 p0.list 0 []) 5 rfl)) (VOK.cons (show Seen _ _ from Q3r (ob := ⟨6, 0, true, (Fld.rows v1_1).flatten⟩) (Fld.Q5 v1_1 6 rfl)) VOK.nil))
def Qll (p0 : Val) (e : En) (q : List Fld) : Prop := ∃ z zo, Q7 G e (.st (.exit 2) (Qnn p0 q z zo))
theorem Qot (p0 : Val) {e e' : En} (h : ∀ r, Q7 G e r → Q7 G e' r) : ∀ q, Qll p0 e q → Qll p0 e' q
  | _, ⟨z, zo, hz⟩ => ⟨z, zo, h _ hz⟩
def c_Kj (p0 : Val) : En := .call 36 [.agg (Val.cells p0)] []
def a_Kj (p0 : Val) : Rs := .ret (.agg (Val.cells (s_Kj p0))) []
abbrev H_Kj (p0 : Val) : Prop := Val.Sm 1000000000 p0
def Qdk (p0 : Val) : Prop := ∀ (q : Val), SizeOf.sizeOf q < SizeOf.sizeOf p0 → H_Kj q → Q7 G (c_Kj q) (a_Kj q)
def Qkf (p0 : Val) : Prop := (List.length p0.list ≤ 137438953472) ∧ (∀ x0 ∈ p0.list, H_Kj x0) ∧ True
def Qla (p0 : Val) : Prop := (List.length p0.fields ≤ 137438953472) ∧ (∀ x1 ∈ p0.fields, H_Kj x1.v) ∧ True
theorem Qxw (p0 : Val) (H : H_Kj p0) : (Qkf p0) ∧ (Qla p0) ∧ True := by
  obtain ⟨h1, h2, h3, h4⟩ := H.all
  exact ⟨⟨by omega, h3, trivial⟩, ⟨by omega, h4, trivial⟩, trivial⟩
def Qpe (p0 : Val) (i0 : Nat) (_v0_1 : List Val) : List PV :=
  [.un, .un, .un, .un, .int .i64 (i0 : Int), .un, .un, .un, .un, .un, .un, .un, .un, .int .i64 (i0 : Int), .bx 0 3, .sl (Val.rows p0.list), .int .i64 ((List.length p0.list) : Int), .bool false]
def Qgu (_p0 : Val) (_i0 : Nat) (_v0_1 : List Val) : List (Nat × List PV) :=
  []
theorem Qxk (p0 : Val) (_H : Qkf p0) (_rec : Qdk p0) (i0 : Nat) (v0_1 : List Val) (_ho0_0 : List.length v0_1 ≤ i0) (hc0 : (decide ((i0 : Int) < ((List.length p0.list) : Int))) = false) : Qle p0 (Qkj p0 i0 v0_1) v0_1 := by
 exact ⟨(envF (Qpe p0 i0 v0_1)), (zoF (Qgu p0 i0 v0_1)), Qe (Q113 p0 i0 v0_1) (x := ((.exit 0), Qpr p0 v0_1 (envF (Qpe p0 i0 v0_1)) (zoF (Qgu p0 i0 v0_1)))) [hP 3 (Qj (Val.rows p0.list) (List.length p0.list) (Val.Qc p0.list)), hB 0 hc0] [] (by kernel_rfl)⟩
theorem Q106 (p0 : Val) (H : Qkf p0) (rec : Qdk p0) (x0 : Val) (i0 : Nat) (v0_1 : List Val) (hx0 : p0.list[i0]? = some x0) (hi0 : i0 < List.length p0.list) (ho0_0 : List.length v0_1 ≤ i0) (hc0 : (decide ((i0 : Int) < ((List.length p0.list) : Int))) = true) {r : Rs} (hr : Q7 G (Qkj p0 (i0 + 1) (v0_1 ++ [(s_Kj x0)])) r) : Q7 G (Qkj p0 i0 v0_1) r := by
 have hB0 := H.1
 exact Q8 (Q113 p0 i0 v0_1) (y := (Qtj p0 (i0 + 1) (v0_1 ++ [(s_Kj x0)]), Qk3 p0 (i0 + 1) (v0_1 ++ [(s_Kj x0)]))) [hP 3 (Qj (Val.rows p0.list) (List.length p0.list) (Val.Qc p0.list)), hB 0 hc0, hP 5 (Q1d 5 (Val.rows p0.list) i0 _ (Val.Qf hx0) rfl), hV 3 [(903, Val.rows (v0_1 ++ [(s_Kj x0)]))] (Qc9 5 839 903 5 80 0 0 true (Val.rows v0_1) (Val.rows (v0_1 ++ [(s_Kj x0)])) (Val.cells (s_Kj x0)) (List.length v0_1) (List.length (v0_1 ++ [(s_Kj x0)])) rfl (Val.Qc v0_1).symm (Val.Qc (v0_1 ++ [(s_Kj x0)])).symm (Val.Q2n v0_1 (s_Kj x0)) (Val.Ql v0_1) rfl (by omega)), hS 0 true (Val.Q5 (v0_1 ++ [(s_Kj x0)]) 5 rfl), hP 3 (Qs i0 (by omega))] [aN (rec x0 (szL hx0) (H.2.1 x0 (Q12 hx0)))] (by kernel_rfl) hr
theorem Qtz (p0 : Val) (H : Qkf p0) (rec : Qdk p0) : ∀ (r0 : List Val) (i0 : Nat) (v0_1 : List Val), List.drop i0 p0.list = r0 → List.length v0_1 ≤ i0 → Qle p0 (Qkj p0 i0 v0_1) (Q2d p0 r0 i0 v0_1)
 | [], i0, v0_1, hd, ho0_0 => by
  have hc0 : (decide ((i0 : Int) < ((List.length p0.list) : Int))) = false := by have := Q1i hd; simp; omega
  rw [Q2d]
  exact Qxk p0 H rec i0 v0_1 ho0_0 hc0
 | x0 :: r0, i0, v0_1, hd, ho0_0 => by
  obtain ⟨hx0, hi0, hd'⟩ := Q17 hd
  have hc0 : (decide ((i0 : Int) < ((List.length p0.list) : Int))) = true := by simp; omega
  rw [Q2d]
  exact Qp7 p0 (fun r hr => Q106 p0 H rec x0 i0 v0_1 hx0 hi0 ho0_0 hc0 hr) _ (Qtz p0 H rec r0 (i0 + 1) (v0_1 ++ [(s_Kj x0)]) hd' (by first | omega | (simp; omega)))
def Qni (p0 : Val) (i1 : Nat) (_v1_1 : List Fld) : List PV :=
  [.un, .bx 0 0, .un, .un, .un, .int .i64 (i1 : Int), .un, .un, .un, .un, .un, .un, .un, .un, .un, .un, .un, .un, .un, .un, .un, .un, .un, .un, .un, .un, .un, .un, .un, .un, .un, .int .i64 (i1 : Int), .bx 0 4, .sl (Fld.rows p0.fields), .int .i64 ((List.length p0.fields) : Int), .bool false]
def Qjo (_p0 : Val) (_i1 : Nat) (_v1_1 : List Fld) : List (Nat × List PV) :=
  []
theorem Qyr (p0 : Val) (_H : Qla p0) (_rec : Qdk p0) (i1 : Nat) (v1_1 : List Fld) (_ho1_0 : List.length v1_1 ≤ i1) (hc1 : (decide ((i1 : Int) < ((List.length p0.fields) : Int))) = false) : Qll p0 (Qkp p0 i1 v1_1) v1_1 := by
 exact ⟨(envF (Qni p0 i1 v1_1)), (zoF (Qjo p0 i1 v1_1)), Qe (Qzu p0 i1 v1_1) (x := ((.exit 2), Qnn p0 v1_1 (envF (Qni p0 i1 v1_1)) (zoF (Qjo p0 i1 v1_1)))) [hP 3 (Qj (Fld.rows p0.fields) (List.length p0.fields) (Fld.Qc p0.fields)), hB 0 hc1] [] (by kernel_rfl)⟩
theorem Q10d (p0 : Val) (H : Qla p0) (rec : Qdk p0) (x1 : Fld) (i1 : Nat) (v1_1 : List Fld) (hx1 : p0.fields[i1]? = some x1) (hi1 : i1 < List.length p0.fields) (ho1_0 : List.length v1_1 ≤ i1) (hc1 : (decide ((i1 : Int) < ((List.length p0.fields) : Int))) = true) {r : Rs} (hr : Q7 G (Qkp p0 (i1 + 1) (v1_1 ++ [(Fld.mk x1.name (s_Kj x1.v))])) r) : Q7 G (Qkp p0 i1 v1_1) r := by
 have hB0 := H.1
 exact Q8 (Qzu p0 i1 v1_1) (y := (Qsk p0 (i1 + 1) (v1_1 ++ [(Fld.mk x1.name (s_Kj x1.v))]), Qk9 p0 (i1 + 1) (v1_1 ++ [(Fld.mk x1.name (s_Kj x1.v))]))) [hP 3 (Qj (Fld.rows p0.fields) (List.length p0.fields) (Fld.Qc p0.fields)), hB 0 hc1, hP 5 (Q1d 6 (Fld.rows p0.fields) i1 _ (Fld.Qf hx1) rfl), hP 5 (Q1d 6 (Fld.rows p0.fields) i1 _ (Fld.Qf hx1) rfl), hV 5 [(1415, Fld.rows (v1_1 ++ [(Fld.mk x1.name (s_Kj x1.v))]))] (Qc9 6 1351 1415 6 96 0 0 true (Fld.rows v1_1) (Fld.rows (v1_1 ++ [(Fld.mk x1.name (s_Kj x1.v))])) (Fld.cells (Fld.mk x1.name (s_Kj x1.v))) (List.length v1_1) (List.length (v1_1 ++ [(Fld.mk x1.name (s_Kj x1.v))])) rfl (Fld.Qc v1_1).symm (Fld.Qc (v1_1 ++ [(Fld.mk x1.name (s_Kj x1.v))])).symm (Fld.Q2n v1_1 (Fld.mk x1.name (s_Kj x1.v))) (Fld.Ql v1_1) rfl (by omega)), hS 0 true (Fld.Q5 (v1_1 ++ [(Fld.mk x1.name (s_Kj x1.v))]) 6 rfl), hP 3 (Qs i1 (by omega))] [aN (rec x1.v (szF hx1) (H.2.1 x1 (Q12 hx1)))] (by kernel_rfl) hr
theorem Qsu (p0 : Val) (H : Qla p0) (rec : Qdk p0) : ∀ (r1 : List Fld) (i1 : Nat) (v1_1 : List Fld), List.drop i1 p0.fields = r1 → List.length v1_1 ≤ i1 → Qll p0 (Qkp p0 i1 v1_1) (Q4g p0 r1 i1 v1_1)
 | [], i1, v1_1, hd, ho1_0 => by
  have hc1 : (decide ((i1 : Int) < ((List.length p0.fields) : Int))) = false := by have := Q1i hd; simp; omega
  rw [Q4g]
  exact Qyr p0 H rec i1 v1_1 ho1_0 hc1
 | x1 :: r1, i1, v1_1, hd, ho1_0 => by
  obtain ⟨hx1, hi1, hd'⟩ := Q17 hd
  have hc1 : (decide ((i1 : Int) < ((List.length p0.fields) : Int))) = true := by simp; omega
  rw [Q4g]
  exact Qot p0 (fun r hr => Q10d p0 H rec x1 i1 v1_1 hx1 hi1 ho1_0 hc1 hr) _ (Qsu p0 H rec r1 (i1 + 1) (v1_1 ++ [(Fld.mk x1.name (s_Kj x1.v))]) hd' (by first | omega | (simp; omega)))
theorem r_Kj (p0 : Val) (H : H_Kj p0) (rec : Qdk p0) : Q7 G (c_Kj p0) (a_Kj p0) := by
  unfold a_Kj
  rw [s_Kj]
  have hl0 := Qtz p0 ((Qxw p0 H).1) rec p0.list 0 [] (by simp) (by simp)
  obtain ⟨z0, zo0, hl0⟩ := hl0
  have hl1 := Qsu p0 ((Qxw p0 H).2.1) rec p0.fields 0 [] (by simp) (by simp)
  obtain ⟨z1, zo1, hl1⟩ := hl1
  exact Q9 (fn := Ir.Kj) rfl VOK.nil [hS 0 true (Val.Q5 (Q2d p0 p0.list 0 []) 5 rfl), hS 0 true (Val.Q5 (Q2d p0 p0.list 0 []) 5 rfl), hS 0 true (Fld.Q5 (Q4g p0 p0.fields 0 []) 6 rfl), hQ (Val.Qc (Q2d p0 p0.list 0 [])).symm, hQ (Fld.Qc (Q4g p0 p0.fields 0 [])).symm] [aV [(5, Val.rows (Q2d p0 p0.list 0 []))] hl0, aV [(5, Val.rows (Q2d p0 p0.list 0 [])), (6, Fld.rows (Q4g p0 p0.fields 0 []))] hl1] (by kernel_rfl)
theorem i_Kj : ∀ (k : Nat) (p0 : Val), SizeOf.sizeOf p0 < k → H_Kj p0 → Q7 G (c_Kj p0) (a_Kj p0)
  | 0, _, h, _ => absurd h (Nat.not_lt_zero _)
  | k + 1, p0, h, H => r_Kj p0 H (fun q hq hH => i_Kj k q (by omega) hH)
theorem t_Kj (p0 : Val) (H : H_Kj p0) : Q7 G (c_Kj p0) (a_Kj p0) := i_Kj _ p0 (Nat.lt_succ_self _) H
inductive Qt4 where
  | k0
  | k1 (q0 : Val)
def Q4l (p0 : Val) (p1 : ByteArray) : List Fld → Nat → Qt4
 | [], _i0 =>
  (.k0)
 | x0 :: r0, i0 =>
  bif (sEq x0.name p1) then
   (.k1 x0.v)
  else
   Q4l p0 p1 r0 (i0 + 1)
def Qn6 (p0 : Val) (p1 : ByteArray) (i0 : Nat) : List PV :=
  [.un, .str p1, .un, .un, .bx 0 0, .un, .un, .un, .un, .un, .un, .un, .sl (Fld.rows p0.fields), .int .i64 ((List.length p0.fields) : Int), .int .i64 (i0 : Int), .un, .un, .un, .un, .un, .un, .un, .un, .un, .un, .un, .un]
def Qnz (_p0 : Val) (_p1 : ByteArray) (_i0 : Nat) : List Ob :=
  [⟨5, 0, true, [.int .i64 0, .int .i64 0, .str (⟨#[]⟩ : ByteArray), .ms 1 5 0 0, .ms 2 6 0 0]⟩, ⟨5, 0, true, []⟩, ⟨6, 0, true, []⟩]
def Q8f (p0 : Val) (p1 : ByteArray) (i0 : Nat) : En := .loop 0 Ir.Qf5 Ir.Q13q (Qn6 p0 p1 i0) (Qnz p0 p1 i0)
def Qj0 (_p0 : Val) (_p1 : ByteArray) (z : Nat → PV) (_zo : Nat → List PV) : St :=
  ⟨[z 0, z 1, z 2, z 3, .bx 0 0, z 5, z 6, z 7, z 8, z 9, z 10, z 11, z 12, z 13, z 14, z 15, z 16, z 17, z 18, z 19, z 20, z 21, z 22, z 23, z 24, z 25, z 26], [(0, ⟨5, 0, true, [.int .i64 0, .int .i64 0, .str (⟨#[]⟩ : ByteArray), .ms 1 5 0 0, .ms 2 6 0 0]⟩), (1, ⟨5, 0, true, []⟩), (2, ⟨6, 0, true, []⟩)], 67⟩
def Qhi (_p0 : Val) (_p1 : ByteArray) (q0 : Val) (z : Nat → PV) (zo : Nat → List PV) : St :=
  ⟨[z 0, z 1, z 2, z 3, .bx 0 0, .bool true, z 6, z 7, z 8, z 9, z 10, z 11, z 12, z 13, z 14, z 15, z 16, z 17, z 18, z 19, z 20, z 21, z 22, z 23, z 24, z 25, z 26], [(0, ⟨5, 0, true, [.int .i64 q0.kind, .int .i64 q0.n, .str q0.s, .sl (Val.rows q0.list), .sl (Fld.rows q0.fields)]⟩), (1, ⟨5, 0, true, zo 1⟩), (2, ⟨6, 0, true, zo 2⟩), (195, ⟨6, 0, true, zo 195⟩)], 899⟩
def Q85 (p0 : Val) (p1 : ByteArray) (e : En) : Qt4 → Prop
  | .k0 => ∃ z zo, Q7 G e (.st (.exit 0) (Qj0 p0 p1 z zo))
  | .k1 q0 => ∃ z zo, Q7 G e (.st .ret (Qhi p0 p1 q0 z zo))
theorem Qkx (p0 : Val) (p1 : ByteArray) {e e' : En} (h : ∀ r, Q7 G e r → Q7 G e' r) : ∀ q, Q85 p0 p1 e q → Q85 p0 p1 e' q
  | .k0, ⟨z, zo, hz⟩ => ⟨z, zo, h _ hz⟩
  | .k1 _, ⟨z, zo, hz⟩ => ⟨z, zo, h _ hz⟩
def Q8o (p0 : Val) (_p1 : ByteArray) : Prop := (List.length p0.fields ≤ 4611686018427387904) ∧ (∀ x0 ∈ p0.fields, Qdr x0.v) ∧ True
def Qge (p0 : Val) (p1 : ByteArray) (i0 : Nat) : List PV :=
  [.un, .str p1, .un, .un, .un, .un, .un, .un, .un, .un, .un, .un, .sl (Fld.rows p0.fields), .int .i64 ((List.length p0.fields) : Int), .int .i64 (i0 : Int), .bool false]
def Qet (_p0 : Val) (_p1 : ByteArray) (_i0 : Nat) : List (Nat × List PV) :=
  []
theorem Qx6 (p0 : Val) (p1 : ByteArray) (_H : Q8o p0 p1) (i0 : Nat) (hc0 : (decide ((i0 : Int) < ((List.length p0.fields) : Int))) = false) : Q85 p0 p1 (Q8f p0 p1 i0) (.k0) := by
 exact ⟨(envF (Qge p0 p1 i0)), (zoF (Qet p0 p1 i0)), Qe VOK.nil (x := ((.exit 0), Qj0 p0 p1 (envF (Qge p0 p1 i0)) (zoF (Qet p0 p1 i0)))) [hB 0 hc0] [] (by kernel_rfl)⟩
def Qgi (p0 : Val) (p1 : ByteArray) (i0 : Nat) (x0 : Fld) : List PV :=
  [.un, .str p1, .un, .un, .un, .un, .un, .bx 195 0, .un, .un, .un, .un, .sl (Fld.rows p0.fields), .int .i64 ((List.length p0.fields) : Int), .int .i64 (i0 : Int), .bool true, .rf [.str x0.name, .int .i64 x0.v.kind, .int .i64 x0.v.n, .str x0.v.s, .sl (Val.rows x0.v.list), .sl (Fld.rows x0.v.fields)], .agg [.str x0.name, .int .i64 x0.v.kind, .int .i64 x0.v.n, .str x0.v.s, .sl (Val.rows x0.v.list), .sl (Fld.rows x0.v.fields)], .bx 195 0, .str x0.name, .str p1, .bool true, .bx 195 1, .agg [.int .i64 x0.v.kind, .int .i64 x0.v.n, .str x0.v.s, .sl (Val.rows x0.v.list), .sl (Fld.rows x0.v.fields)], .agg [.int .i64 x0.v.kind, .int .i64 x0.v.n, .str x0.v.s, .sl (Val.rows x0.v.list), .sl (Fld.rows x0.v.fields)]]
def Qex (_p0 : Val) (_p1 : ByteArray) (_i0 : Nat) (x0 : Fld) : List (Nat × List PV) :=
  [(1, []), (2, []), (195, [.str x0.name, .int .i64 x0.v.kind, .int .i64 x0.v.n, .str x0.v.s, .sl (Val.rows x0.v.list), .sl (Fld.rows x0.v.fields)])]
theorem Qu2 (p0 : Val) (p1 : ByteArray) (H : Q8o p0 p1) (x0 : Fld) (i0 : Nat) (hx0 : p0.fields[i0]? = some x0) (_hi0 : i0 < List.length p0.fields) (hc0 : (decide ((i0 : Int) < ((List.length p0.fields) : Int))) = true) (h0 : (sEq x0.name p1) = true) : Q85 p0 p1 (Q8f p0 p1 i0) (.k1 x0.v) := by
 exact ⟨(envF (Qgi p0 p1 i0 x0)), (zoF (Qex p0 p1 i0 x0)), Qe VOK.nil (x := (.ret, Qhi p0 p1 x0.v (envF (Qgi p0 p1 i0 x0)) (zoF (Qex p0 p1 i0 x0)))) [hB 0 hc0, hP 0 (Q1d 6 (Fld.rows p0.fields) i0 _ (Fld.Qf hx0) rfl), hB 6 h0] [aN (Q12c x0.v (H.2.1 x0 (Q12 hx0)))] (by kernel_rfl)⟩
theorem Qv6 (p0 : Val) (p1 : ByteArray) (H : Q8o p0 p1) (x0 : Fld) (i0 : Nat) (hx0 : p0.fields[i0]? = some x0) (hi0 : i0 < List.length p0.fields) (hc0 : (decide ((i0 : Int) < ((List.length p0.fields) : Int))) = true) (h0 : (sEq x0.name p1) = false) {r : Rs} (hr : Q7 G (Q8f p0 p1 (i0 + 1)) r) : Q7 G (Q8f p0 p1 i0) r := by
 have hB0 := H.1
 exact Q8 VOK.nil (y := (Qn6 p0 p1 (i0 + 1), Qnz p0 p1 (i0 + 1))) [hB 0 hc0, hP 0 (Q1d 6 (Fld.rows p0.fields) i0 _ (Fld.Qf hx0) rfl), hB 6 h0, hP 0 (Qs i0 (by omega))] [] (by kernel_rfl) hr
theorem Qp5 (p0 : Val) (p1 : ByteArray) (H : Q8o p0 p1) : ∀ (r0 : List Fld) (i0 : Nat), List.drop i0 p0.fields = r0 → Q85 p0 p1 (Q8f p0 p1 i0) (Q4l p0 p1 r0 i0)
 | [], i0, hd => by
  have hc0 : (decide ((i0 : Int) < ((List.length p0.fields) : Int))) = false := by have := Q1i hd; simp; omega
  rw [Q4l]
  exact Qx6 p0 p1 H i0 hc0
 | x0 :: r0, i0, hd => by
  obtain ⟨hx0, hi0, hd'⟩ := Q17 hd
  have hc0 : (decide ((i0 : Int) < ((List.length p0.fields) : Int))) = true := by simp; omega
  rw [Q4l]
  cases h0 : (sEq x0.name p1) with
  | true =>
   exact Qu2 p0 p1 H x0 i0 hx0 hi0 hc0 h0
  | false =>
   exact Qkx p0 p1 (fun r hr => Qv6 p0 p1 H x0 i0 hx0 hi0 hc0 h0 hr) _ (Qp5 p0 p1 H r0 (i0 + 1) hd')
def Q2k (p0 : Val) (p1 : ByteArray) : Val × Bool :=
 bif (p0.kind == 5) then
  (match (Q4l p0 p1 p0.fields 0) with
  | .k0 => ((Val.mk 0 0 (⟨#[]⟩ : ByteArray) [] []), false)
  | .k1 y1_0 => (y1_0, true))
 else
  ((Val.mk 0 0 (⟨#[]⟩ : ByteArray) [] []), false)
def Q185 (p0 : Val) (p1 : ByteArray) : En := .call 29 [.agg (Val.cells p0), .str p1] []
def Q17n (p0 : Val) (p1 : ByteArray) : Rs := .ret (.tup [.agg (Val.cells (Q2k p0 p1).1), .bool (Q2k p0 p1).2]) []
def Q11h (p0 : Val) (p1 : ByteArray) : Prop := (Q8o p0 p1) ∧ True
theorem Q146 (p0 : Val) (p1 : ByteArray) (H : Q11h p0 p1) : Q7 G (Q185 p0 p1) (Q17n p0 p1) := by
 unfold Q17n Q2k
 cases h0 : (p0.kind == 5) with
 | true =>
  have hl1 := Qp5 p0 p1 (H.1) p0.fields 0 (by simp)
  cases hr1 : (Q4l p0 p1 p0.fields 0) with
  | k0 =>
   rw [hr1] at hl1
   obtain ⟨z1, zo1, hl1⟩ := hl1
   exact Q9 (fn := Ir.K1k) rfl VOK.nil [hB 5 h0, hP 2 (Qj (Fld.rows p0.fields) (List.length p0.fields) (Fld.Qc p0.fields))] [aN hl1] (by kernel_rfl)
  | k1 y1_0 =>
   rw [hr1] at hl1
   obtain ⟨z1, zo1, hl1⟩ := hl1
   exact Q9 (fn := Ir.K1k) rfl VOK.nil [hB 5 h0, hP 2 (Qj (Fld.rows p0.fields) (List.length p0.fields) (Fld.Qc p0.fields))] [aN hl1] (by kernel_rfl)
 | false =>
  exact Q9 (fn := Ir.K1k) rfl VOK.nil [hB 5 h0] [] (by kernel_rfl)
inductive Q11p where
  | k0
  | k1 (q0 : Val)
def Q6c (p0 : Val) (p1 : ByteArray) : List Fld → Nat → Q11p
 | [], _i0 =>
  (.k0)
 | x0 :: r0, i0 =>
  bif (sEq x0.name p1) then
   (.k1 (s_Kj x0.v))
  else
   Q6c p0 p1 r0 (i0 + 1)
def Qtd (_p0 : Val) (p1 : ByteArray) (i0 : Nat) : List PV :=
  [.un, .str p1, .bx 0 0, .un, .bx 1 0, .un, .int .i64 (i0 : Int), .un, .un, .un, .un, .un, .un, .un, .un, .un, .un, .un, .un, .un, .un, .un, .un, .un, .un, .un, .un, .un, .un, .un, .un, .un, .un]
def Qsi (p0 : Val) (_p1 : ByteArray) (_i0 : Nat) : List Ob :=
  [⟨5, 0, true, [.int .i64 p0.kind, .int .i64 p0.n, .str p0.s, .sl (Val.rows p0.list), .sl (Fld.rows p0.fields)]⟩, ⟨5, 0, true, [.int .i64 0, .int .i64 0, .str (⟨#[]⟩ : ByteArray), .ms 2 5 0 0, .ms 3 6 0 0]⟩, ⟨5, 0, true, []⟩, ⟨6, 0, true, []⟩]
def Qeb (p0 : Val) (p1 : ByteArray) (i0 : Nat) : En := .loop 0 Ir.Qjs Ir.Q17f (Qtd p0 p1 i0) (Qsi p0 p1 i0)
def Qmk (p0 : Val) (_p1 : ByteArray) (z : Nat → PV) (_zo : Nat → List PV) : St :=
  ⟨[z 0, z 1, z 2, z 3, .bx 1 0, z 5, z 6, z 7, z 8, z 9, z 10, z 11, z 12, z 13, z 14, z 15, z 16, z 17, z 18, z 19, z 20, z 21, z 22, z 23, z 24, z 25, z 26, z 27, z 28, z 29, z 30, z 31, z 32], [(0, ⟨5, 0, true, [.int .i64 p0.kind, .int .i64 p0.n, .str p0.s, .sl (Val.rows p0.list), .sl (Fld.rows p0.fields)]⟩), (1, ⟨5, 0, true, [.int .i64 0, .int .i64 0, .str (⟨#[]⟩ : ByteArray), .ms 2 5 0 0, .ms 3 6 0 0]⟩), (2, ⟨5, 0, true, []⟩), (3, ⟨6, 0, true, []⟩)], 324⟩
def Qpa (_p0 : Val) (_p1 : ByteArray) (q0 : Val) (z : Nat → PV) (zo : Nat → List PV) : St :=
  ⟨[z 0, z 1, z 2, z 3, .bx 1 0, .bool true, z 6, z 7, z 8, z 9, z 10, z 11, z 12, z 13, z 14, z 15, z 16, z 17, z 18, z 19, z 20, z 21, z 22, z 23, z 24, z 25, z 26, z 27, z 28, z 29, z 30, z 31, z 32], [(0, ⟨5, 0, true, zo 0⟩), (1, ⟨5, 0, true, [.int .i64 q0.kind, .int .i64 q0.n, .str q0.s, .sl (Val.rows q0.list), .sl (Fld.rows q0.fields)]⟩), (2, ⟨5, 0, true, zo 2⟩), (3, ⟨6, 0, true, zo 3⟩)], 1412⟩
def Qe3 (p0 : Val) (p1 : ByteArray) (e : En) : Q11p → Prop
  | .k0 => ∃ z zo, Q7 G e (.st (.exit 0) (Qmk p0 p1 z zo))
  | .k1 q0 => ∃ z zo, Q7 G e (.st .ret (Qpa p0 p1 q0 z zo))
theorem Qnh (p0 : Val) (p1 : ByteArray) {e e' : En} (h : ∀ r, Q7 G e r → Q7 G e' r) : ∀ q, Qe3 p0 p1 e q → Qe3 p0 p1 e' q
  | .k0, ⟨z, zo, hz⟩ => ⟨z, zo, h _ hz⟩
  | .k1 _, ⟨z, zo, hz⟩ => ⟨z, zo, h _ hz⟩
def Qcq (p0 : Val) (_p1 : ByteArray) : Prop := (List.length p0.fields ≤ 4611686018427387904) ∧ (∀ x0 ∈ p0.fields, H_Kj x0.v) ∧ True
def Qo3 (p0 : Val) (p1 : ByteArray) (i0 : Nat) : List PV :=
  [.un, .str p1, .bx 0 0, .un, .un, .un, .int .i64 (i0 : Int), .un, .un, .un, .int .i64 (i0 : Int), .bx 0 4, .sl (Fld.rows p0.fields), .int .i64 ((List.length p0.fields) : Int), .bool false]
def Qgd (_p0 : Val) (_p1 : ByteArray) (_i0 : Nat) : List (Nat × List PV) :=
  []
theorem Qy7 (p0 : Val) (p1 : ByteArray) (_H : Qcq p0 p1) (i0 : Nat) (hc0 : (decide ((i0 : Int) < ((List.length p0.fields) : Int))) = false) : Qe3 p0 p1 (Qeb p0 p1 i0) (.k0) := by
 exact ⟨(envF (Qo3 p0 p1 i0)), (zoF (Qgd p0 p1 i0)), Qe VOK.nil (x := ((.exit 0), Qmk p0 p1 (envF (Qo3 p0 p1 i0)) (zoF (Qgd p0 p1 i0)))) [hP 3 (Qj (Fld.rows p0.fields) (List.length p0.fields) (Fld.Qc p0.fields)), hB 0 hc0] [] (by kernel_rfl)⟩
def Qqg (p0 : Val) (p1 : ByteArray) (i0 : Nat) (x0 : Fld) : List PV :=
  [.un, .str p1, .bx 0 0, .un, .un, .un, .int .i64 (i0 : Int), .un, .un, .un, .int .i64 (i0 : Int), .bx 0 4, .sl (Fld.rows p0.fields), .int .i64 ((List.length p0.fields) : Int), .bool true, .un, .un, .bx 0 4, .sl (Fld.rows p0.fields), .int .i64 (i0 : Int), .rf [.str x0.name, .int .i64 x0.v.kind, .int .i64 x0.v.n, .str x0.v.s, .sl (Val.rows x0.v.list), .sl (Fld.rows x0.v.fields)], .rf [.str x0.name, .int .i64 x0.v.kind, .int .i64 x0.v.n, .str x0.v.s, .sl (Val.rows x0.v.list), .sl (Fld.rows x0.v.fields)], .str x0.name, .str p1, .bool true, .bx 0 4, .sl (Fld.rows p0.fields), .int .i64 (i0 : Int), .rf [.str x0.name, .int .i64 x0.v.kind, .int .i64 x0.v.n, .str x0.v.s, .sl (Val.rows x0.v.list), .sl (Fld.rows x0.v.fields)], .rf [.int .i64 x0.v.kind, .int .i64 x0.v.n, .str x0.v.s, .sl (Val.rows x0.v.list), .sl (Fld.rows x0.v.fields)], .agg [.int .i64 x0.v.kind, .int .i64 x0.v.n, .str x0.v.s, .sl (Val.rows x0.v.list), .sl (Fld.rows x0.v.fields)], .agg [.int .i64 (s_Kj x0.v).kind, .int .i64 (s_Kj x0.v).n, .str (s_Kj x0.v).s, .sl (Val.rows (s_Kj x0.v).list), .sl (Fld.rows (s_Kj x0.v).fields)]]
def Qi3 (p0 : Val) (_p1 : ByteArray) (_i0 : Nat) (_x0 : Fld) : List (Nat × List PV) :=
  [(0, [.int .i64 p0.kind, .int .i64 p0.n, .str p0.s, .sl (Val.rows p0.list), .sl (Fld.rows p0.fields)]), (2, []), (3, [])]
theorem Q10i (p0 : Val) (p1 : ByteArray) (H : Qcq p0 p1) (x0 : Fld) (i0 : Nat) (hx0 : p0.fields[i0]? = some x0) (_hi0 : i0 < List.length p0.fields) (hc0 : (decide ((i0 : Int) < ((List.length p0.fields) : Int))) = true) (h0 : (sEq x0.name p1) = true) : Qe3 p0 p1 (Qeb p0 p1 i0) (.k1 (s_Kj x0.v)) := by
 exact ⟨(envF (Qqg p0 p1 i0 x0)), (zoF (Qi3 p0 p1 i0 x0)), Qe VOK.nil (x := (.ret, Qpa p0 p1 (s_Kj x0.v) (envF (Qqg p0 p1 i0 x0)) (zoF (Qi3 p0 p1 i0 x0)))) [hP 3 (Qj (Fld.rows p0.fields) (List.length p0.fields) (Fld.Qc p0.fields)), hB 0 hc0, hP 3 (Q1d 6 (Fld.rows p0.fields) i0 _ (Fld.Qf hx0) rfl), hB 3 h0, hP 3 (Q1d 6 (Fld.rows p0.fields) i0 _ (Fld.Qf hx0) rfl)] [aN (t_Kj x0.v (H.2.1 x0 (Q12 hx0)))] (by kernel_rfl)⟩
theorem Q100 (p0 : Val) (p1 : ByteArray) (H : Qcq p0 p1) (x0 : Fld) (i0 : Nat) (hx0 : p0.fields[i0]? = some x0) (hi0 : i0 < List.length p0.fields) (hc0 : (decide ((i0 : Int) < ((List.length p0.fields) : Int))) = true) (h0 : (sEq x0.name p1) = false) {r : Rs} (hr : Q7 G (Qeb p0 p1 (i0 + 1)) r) : Q7 G (Qeb p0 p1 i0) r := by
 have hB0 := H.1
 exact Q8 VOK.nil (y := (Qtd p0 p1 (i0 + 1), Qsi p0 p1 (i0 + 1))) [hP 3 (Qj (Fld.rows p0.fields) (List.length p0.fields) (Fld.Qc p0.fields)), hB 0 hc0, hP 3 (Q1d 6 (Fld.rows p0.fields) i0 _ (Fld.Qf hx0) rfl), hB 3 h0, hP 1 (Qs i0 (by omega))] [] (by kernel_rfl) hr
theorem Qt2 (p0 : Val) (p1 : ByteArray) (H : Qcq p0 p1) : ∀ (r0 : List Fld) (i0 : Nat), List.drop i0 p0.fields = r0 → Qe3 p0 p1 (Qeb p0 p1 i0) (Q6c p0 p1 r0 i0)
 | [], i0, hd => by
  have hc0 : (decide ((i0 : Int) < ((List.length p0.fields) : Int))) = false := by have := Q1i hd; simp; omega
  rw [Q6c]
  exact Qy7 p0 p1 H i0 hc0
 | x0 :: r0, i0, hd => by
  obtain ⟨hx0, hi0, hd'⟩ := Q17 hd
  have hc0 : (decide ((i0 : Int) < ((List.length p0.fields) : Int))) = true := by simp; omega
  rw [Q6c]
  cases h0 : (sEq x0.name p1) with
  | true =>
   exact Q10i p0 p1 H x0 i0 hx0 hi0 hc0 h0
  | false =>
   exact Qnh p0 p1 (fun r hr => Q100 p0 p1 H x0 i0 hx0 hi0 hc0 h0 hr) _ (Qt2 p0 p1 H r0 (i0 + 1) hd')
def s_Kl (p0 : Val) (p1 : ByteArray) : Val × Bool :=
 bif (p0.kind == 5) then
  (match (Q6c p0 p1 p0.fields 0) with
  | .k0 => ((Val.mk 0 0 (⟨#[]⟩ : ByteArray) [] []), false)
  | .k1 y1_0 => (y1_0, true))
 else
  ((Val.mk 0 0 (⟨#[]⟩ : ByteArray) [] []), false)
def c_Kl (p0 : Val) (p1 : ByteArray) : En := .call 21 [.agg (Val.cells p0), .str p1] []
def a_Kl (p0 : Val) (p1 : ByteArray) : Rs := .ret (.tup [.agg (Val.cells (s_Kl p0 p1).1), .bool (s_Kl p0 p1).2]) []
def H_Kl (p0 : Val) (p1 : ByteArray) : Prop := (Qcq p0 p1) ∧ True
theorem t_Kl (p0 : Val) (p1 : ByteArray) (H : H_Kl p0 p1) : Q7 G (c_Kl p0 p1) (a_Kl p0 p1) := by
 unfold a_Kl s_Kl
 cases h0 : (p0.kind == 5) with
 | true =>
  have hl1 := Qt2 p0 p1 (H.1) p0.fields 0 (by simp)
  cases hr1 : (Q6c p0 p1 p0.fields 0) with
  | k0 =>
   rw [hr1] at hl1
   obtain ⟨z1, zo1, hl1⟩ := hl1
   exact Q9 (fn := Ir.Kl) rfl VOK.nil [hB 5 h0] [aN hl1] (by kernel_rfl)
  | k1 y1_0 =>
   rw [hr1] at hl1
   obtain ⟨z1, zo1, hl1⟩ := hl1
   exact Q9 (fn := Ir.Kl) rfl VOK.nil [hB 5 h0] [aN hl1] (by kernel_rfl)
 | false =>
  exact Q9 (fn := Ir.Kl) rfl VOK.nil [hB 5 h0] [] (by kernel_rfl)
def Q3p (p0 : Fld) (o0 : ByteArray) : Bool :=
 (sEq p0.name o0)
def Q198 (p0 : Fld) (o0 : ByteArray) : En := .call 57 [.agg (Fld.cells p0), .bx 0 0] [⟨1, 0, false, [.str o0]⟩]
def Qyz (_p0 : Fld) (o0 : ByteArray) (q0 : Bool) : Rs := .ret (.bool q0) [⟨1, 0, false, [.str o0]⟩]
def Q16p (p0 : Fld) (o0 : ByteArray) : Rs := Qyz p0 o0 (Q3p p0 o0)
theorem Q12x (p0 : Fld) (o0 : ByteArray) : Q7 G (Q198 p0 o0) (Q16p p0 o0) := by
 unfold Q16p Q3p
 exact Q9 (fn := Ir.K1t) rfl (h := [⟨1, 0, false, [.str o0]⟩]) (vw := []) VOK.nil [] [] (by kernel_rfl)
inductive Qth where
  | k0
  | k1 (q0 : Int)
def Q2o (p0 : List Fld) (o0 : ByteArray) : List Fld → Nat → Qth
 | [], _i0 =>
  (.k0)
 | x0 :: r0, i0 =>
  bif (Q3p x0 o0) then
   (.k1 (i0 : Int))
  else
   Q2o p0 o0 r0 (i0 + 1)
def Qox (p0 : List Fld) (_o0 : ByteArray) (i0 : Nat) : List PV :=
  [.sl (Fld.rows p0), .fn 57 [] [.bx 0 0], .un, .un, .un, .un, .un, .int .i64 ((List.length p0) : Int), .int .i64 (i0 : Int), .un, .un, .un, .un, .un, .un, .un, .un, .un, .un]
def Qpm (_p0 : List Fld) (o0 : ByteArray) (_i0 : Nat) : List Ob :=
  [⟨1, 0, false, [.str o0]⟩]
def Q8i (p0 : List Fld) (o0 : ByteArray) (i0 : Nat) : En := .loop 1 Ir.Qbz Ir.Q13t (Qox p0 o0 i0) (Qpm p0 o0 i0)
def Qjn (_p0 : List Fld) (o0 : ByteArray) (z : Nat → PV) (_zo : Nat → List PV) : St :=
  ⟨[z 0, z 1, z 2, z 3, z 4, z 5, z 6, z 7, z 8, z 9, z 10, z 11, z 12, z 13, z 14, z 15, z 16, z 17, z 18], [(0, ⟨1, 0, false, [.str o0]⟩)], 65⟩
def Qjv (_p0 : List Fld) (o0 : ByteArray) (q0 : Int) (z : Nat → PV) (_zo : Nat → List PV) : St :=
  ⟨[z 0, z 1, z 2, z 3, .int .i64 q0, z 5, z 6, z 7, z 8, z 9, z 10, z 11, z 12, z 13, z 14, z 15, z 16, z 17, z 18], [(0, ⟨1, 0, false, [.str o0]⟩)], 705⟩
def Q8l (p0 : List Fld) (o0 : ByteArray) (e : En) : Qth → Prop
  | .k0 => ∃ z zo, Q7 G e (.st (.exit 0) (Qjn p0 o0 z zo))
  | .k1 q0 => ∃ z zo, Q7 G e (.st .ret (Qjv p0 o0 q0 z zo))
theorem Qkg (p0 : List Fld) (o0 : ByteArray) {e e' : En} (h : ∀ r, Q7 G e r → Q7 G e' r) : ∀ q, Q8l p0 o0 e q → Q8l p0 o0 e' q
  | .k0, ⟨z, zo, hz⟩ => ⟨z, zo, h _ hz⟩
  | .k1 _, ⟨z, zo, hz⟩ => ⟨z, zo, h _ hz⟩
def Q82 (p0 : List Fld) (_o0 : ByteArray) : Prop := (List.length p0 ≤ 4611686018427387904) ∧ True
def Qib (p0 : List Fld) (_o0 : ByteArray) (i0 : Nat) : List PV :=
  [.sl (Fld.rows p0), .fn 57 [] [.bx 0 0], .un, .un, .un, .un, .un, .int .i64 ((List.length p0) : Int), .int .i64 (i0 : Int), .bool false]
def Qez (_p0 : List Fld) (_o0 : ByteArray) (_i0 : Nat) : List (Nat × List PV) :=
  []
theorem Qun (p0 : List Fld) (o0 : ByteArray) (_H : Q82 p0 o0) (i0 : Nat) (hc0 : (decide ((i0 : Int) < ((List.length p0) : Int))) = false) : Q8l p0 o0 (Q8i p0 o0 i0) (.k0) := by
 exact ⟨(envF (Qib p0 o0 i0)), (zoF (Qez p0 o0 i0)), Qe VOK.nil (x := ((.exit 0), Qjn p0 o0 (envF (Qib p0 o0 i0)) (zoF (Qez p0 o0 i0)))) [hB 0 hc0] [] (by kernel_rfl)⟩
def Qj1 (p0 : List Fld) (_o0 : ByteArray) (i0 : Nat) (x0 : Fld) : List PV :=
  [.sl (Fld.rows p0), .fn 57 [] [.bx 0 0], .un, .un, .un, .int .i64 (i0 : Int), .un, .int .i64 ((List.length p0) : Int), .int .i64 (i0 : Int), .bool true, .int .i64 (i0 : Int), .fn 57 [] [.bx 0 0], .sl (Fld.rows p0), .int .i64 (i0 : Int), .rf [.str x0.name, .int .i64 x0.v.kind, .int .i64 x0.v.n, .str x0.v.s, .sl (Val.rows x0.v.list), .sl (Fld.rows x0.v.fields)], .agg [.str x0.name, .int .i64 x0.v.kind, .int .i64 x0.v.n, .str x0.v.s, .sl (Val.rows x0.v.list), .sl (Fld.rows x0.v.fields)], .bool true, .int .i64 (i0 : Int)]
def Qc8 (_p0 : List Fld) (_o0 : ByteArray) (_i0 : Nat) (_x0 : Fld) : List (Nat × List PV) :=
  []
theorem Qwv (p0 : List Fld) (o0 : ByteArray) (_H : Q82 p0 o0) (x0 : Fld) (i0 : Nat) (hx0 : p0[i0]? = some x0) (_hi0 : i0 < List.length p0) (hc0 : (decide ((i0 : Int) < ((List.length p0) : Int))) = true) (h0 : (Q3p x0 o0) = true) : Q8l p0 o0 (Q8i p0 o0 i0) (.k1 (i0 : Int)) := by
 exact ⟨(envF (Qj1 p0 o0 i0 x0)), (zoF (Qc8 p0 o0 i0 x0)), Qe VOK.nil (x := (.ret, Qjv p0 o0 (i0 : Int) (envF (Qj1 p0 o0 i0 x0)) (zoF (Qc8 p0 o0 i0 x0)))) [hB 0 hc0, hP 5 (Q1d 6 (Fld.rows p0) i0 _ (Fld.Qf hx0) rfl)] [aN (toldOf (Q12x x0 o0) (congrArg (fun b => Qyz x0 o0 b) h0))] (by kernel_rfl)⟩
theorem Quh (p0 : List Fld) (o0 : ByteArray) (H : Q82 p0 o0) (x0 : Fld) (i0 : Nat) (hx0 : p0[i0]? = some x0) (hi0 : i0 < List.length p0) (hc0 : (decide ((i0 : Int) < ((List.length p0) : Int))) = true) (h0 : (Q3p x0 o0) = false) {r : Rs} (hr : Q7 G (Q8i p0 o0 (i0 + 1)) r) : Q7 G (Q8i p0 o0 i0) r := by
 have hB0 := H.1
 exact Q8 VOK.nil (y := (Qox p0 o0 (i0 + 1), Qpm p0 o0 (i0 + 1))) [hB 0 hc0, hP 5 (Q1d 6 (Fld.rows p0) i0 _ (Fld.Qf hx0) rfl), hP 2 (Qs i0 (by omega))] [aN (toldOf (Q12x x0 o0) (congrArg (fun b => Qyz x0 o0 b) h0))] (by kernel_rfl) hr
theorem Qnc (p0 : List Fld) (o0 : ByteArray) (H : Q82 p0 o0) : ∀ (r0 : List Fld) (i0 : Nat), List.drop i0 p0 = r0 → Q8l p0 o0 (Q8i p0 o0 i0) (Q2o p0 o0 r0 i0)
 | [], i0, hd => by
  have hc0 : (decide ((i0 : Int) < ((List.length p0) : Int))) = false := by have := Q1i hd; simp; omega
  rw [Q2o]
  exact Qun p0 o0 H i0 hc0
 | x0 :: r0, i0, hd => by
  obtain ⟨hx0, hi0, hd'⟩ := Q17 hd
  have hc0 : (decide ((i0 : Int) < ((List.length p0) : Int))) = true := by simp; omega
  rw [Q2o]
  cases h0 : (Q3p x0 o0) with
  | true =>
   exact Qwv p0 o0 H x0 i0 hx0 hi0 hc0 h0
  | false =>
   exact Qkg p0 o0 (fun r hr => Quh p0 o0 H x0 i0 hx0 hi0 hc0 h0 hr) _ (Qnc p0 o0 H r0 (i0 + 1) hd')
def Qw (p0 : List Fld) (o0 : ByteArray) : Int :=
 (match (Q2o p0 o0 p0 0) with
 | .k0 => (-1)
 | .k1 y0_0 => y0_0)
def Q19k (p0 : List Fld) (o0 : ByteArray) : En := .call 69 [.sl (Fld.rows p0), .fn 57 [] [.bx 0 0]] [⟨1, 0, false, [.str o0]⟩]
def Q18i (_p0 : List Fld) (o0 : ByteArray) (q0 : Int) : Rs := .ret (.int .i64 q0) [⟨1, 0, false, [.str o0]⟩]
def Q17g (p0 : List Fld) (o0 : ByteArray) : Rs := Q18i p0 o0 (Qw p0 o0)
def Q15c (p0 : List Fld) (o0 : ByteArray) : Prop := (Q82 p0 o0) ∧ True
theorem Q16k (p0 : List Fld) (o0 : ByteArray) (H : Q15c p0 o0) : Q7 G (Q19k p0 o0) (Q17g p0 o0) := by
 unfold Q17g Qw
 have hl0 := Qnc p0 o0 (H.1) p0 0 (by simp)
 cases hr0 : (Q2o p0 o0 p0 0) with
 | k0 =>
  rw [hr0] at hl0
  obtain ⟨z0, zo0, hl0⟩ := hl0
  exact Q9 (fn := Ir.K19) rfl (h := [⟨1, 0, false, [.str o0]⟩]) (vw := []) VOK.nil [hP 2 (Qj (Fld.rows p0) (List.length p0) (Fld.Qc p0))] [aN hl0] (by kernel_rfl)
 | k1 y0_0 =>
  rw [hr0] at hl0
  obtain ⟨z0, zo0, hl0⟩ := hl0
  exact Q9 (fn := Ir.K19) rfl (h := [⟨1, 0, false, [.str o0]⟩]) (vw := []) VOK.nil [hP 2 (Qj (Fld.rows p0) (List.length p0) (Fld.Qc p0))] [aN hl0] (by kernel_rfl)
theorem Qak (p0 : List Fld) (o0 : ByteArray) : ∀ (l : List Fld) (i : Nat), match Q2o p0 o0 l i with | .k0 => True | .k1 q => (i : Int) ≤ q ∧ q < (i : Int) + (l.length : Int)
  | [], _ => trivial
  | x :: l, i => by
    rw [Q2o]
    have ih := Qak p0 o0 l (i + 1)
    cases Q3p x o0 with
    | true =>
      show (i : Int) ≤ (i : Int) ∧ (i : Int) < _
      simp only [List.length_cons]
      omega
    | false =>
      rw [cond_false]
      cases e : Q2o p0 o0 l (i + 1) with
      | k0 => trivial
      | k1 q =>
        rw [e] at ih
        simp only at ih ⊢
        simp only [List.length_cons]
        omega
theorem Qi (p0 : List Fld) (o0 : ByteArray) : -1 ≤ Qw p0 o0 ∧ Qw p0 o0 < (List.length p0 : Int) := by
  have h := Qak p0 o0 p0 0
  unfold Qw
  cases e : Q2o p0 o0 p0 0 with
  | k0 => exact ⟨Int.le_refl _, by simp only; omega⟩
  | k1 q =>
    rw [e] at h
    simp only at h ⊢
    omega
def Q19 (n0 : Nat) (o1 : ByteArray) : Nat → Int → Int → (List Fld) → (List Fld) × Int
 | 0, v0_0, _v0_1, v0_2 => (v0_2, v0_0)
 | k0 + 1, v0_0, v0_1, v0_2 =>
  bif (decide (v0_1 < (n0 : Int))) then
   bif (Q3p (List.getD v0_2 (Int.toNat v0_1) zF) o1) then
    Q19 n0 o1 k0 v0_0 (v0_1 + 1) v0_2
   else
    Q19 n0 o1 k0 (v0_0 + 1) (v0_1 + 1) (List.set v0_2 (Int.toNat v0_0) (List.getD v0_2 (Int.toNat v0_1) zF))
  else
   (v0_2, v0_0)
def Qen (n0 : Nat) (_o1 : ByteArray) (v0_0 : Int) (v0_1 : Int) (_v0_2 : List Fld) : List PV :=
  [.ms 0 6 0 n0, .fn 57 [] [.bx 1 0], .un, .un, .un, .int .i64 v0_0, .int .i64 v0_1, .un, .un, .un, .un, .un, .un, .un, .un, .un, .un, .un, .un, .un, .un, .un, .un, .un, .un, .un, .un, .un, .un, .un, .un, .un, .un, .un, .un, .un, .un, .un, .un, .un, .un, .un]
def Q8p (_n0 : Nat) (o1 : ByteArray) (_v0_0 : Int) (_v0_1 : Int) (v0_2 : List Fld) : List Ob :=
  [⟨6, 0, false, (Fld.rows v0_2).flatten⟩, ⟨1, 0, false, [.str o1]⟩]
def Q6p (n0 : Nat) (o1 : ByteArray) (v0_0 : Int) (v0_1 : Int) (v0_2 : List Fld) : En := .loop 2 Ir.Qee Ir.Q13o (Qen n0 o1 v0_0 v0_1 v0_2) (Q8p n0 o1 v0_0 v0_1 v0_2)
def Qir (n0 : Nat) (o1 : ByteArray) (q0 : List Fld) (q1 : Int) (z : Nat → PV) (_zo : Nat → List PV) : St :=
  ⟨[.ms 0 6 0 n0, z 1, z 2, z 3, z 4, .int .i64 q1, z 6, z 7, z 8, z 9, z 10, z 11, z 12, z 13, z 14, z 15, z 16, z 17, z 18, z 19, z 20, z 21, z 22, z 23, z 24, z 25, z 26, z 27, z 28, z 29, z 30, z 31, z 32, z 33, z 34, z 35, z 36, z 37, z 38, z 39, z 40, z 41], [(0, ⟨6, 0, false, (Fld.rows q0).flatten⟩), (1, ⟨1, 0, false, [.str o1]⟩)], 258⟩
theorem Qlv (n0 : Nat) (o1 : ByteArray) (v0_0 : Int) (v0_1 : Int) (v0_2 : List Fld) : VOK (Go.Pv.look (number 0 (Q8p n0 o1 v0_0 v0_1 v0_2))) [(0, Fld.rows v0_2)] := (VOK.cons (show Seen _ _ from Q3r (ob := ⟨6, 0, false, (Fld.rows v0_2).flatten⟩) (Fld.Q5 v0_2 6 rfl)) VOK.nil)
def Qbd (n0 : Nat) (o1 : ByteArray) (e : En) (q : (List Fld) × Int) : Prop := ∃ z zo, Q7 G e (.st (.exit 0) (Qir n0 o1 q.1 q.2 z zo))
theorem Q8y (n0 : Nat) (o1 : ByteArray) {e e' : En} (h : ∀ r, Q7 G e r → Q7 G e' r) : ∀ q, Qbd n0 o1 e q → Qbd n0 o1 e' q
  | _, ⟨z, zo, hz⟩ => ⟨z, zo, h _ hz⟩
theorem Qve (n0 : Nat) (o1 : ByteArray) (v0_0 : Int) (v0_1 : Int) (v0_2 : List Fld) (ho0_0 : 0 ≤ v0_0) (ho0_1 : v0_0 < v0_1) (_ho0_2 : v0_1 ≤ (n0 : Int)) (ho0_3 : (n0 : Int) ≤ 1152921504606846976) (ho0_4 : List.length v0_2 = n0) (h0 : (decide (v0_1 < (n0 : Int))) = true) (h1 : (Q3p (List.getD v0_2 (Int.toNat v0_1) zF) o1) = true) {r : Rs} (hr : Q7 G (Q6p n0 o1 v0_0 (v0_1 + 1) v0_2) r) : Q7 G (Q6p n0 o1 v0_0 v0_1 v0_2) r := by
 have e0 := of_decide_eq_true h0
 exact Q8 (Qlv n0 o1 v0_0 v0_1 v0_2) (y := (Qen n0 o1 v0_0 (v0_1 + 1) v0_2, Q8p n0 o1 v0_0 (v0_1 + 1) v0_2)) [hB 3 h0, hP 2 (Q1l 0 6 n0 v0_1 (Int.toNat v0_1) rfl (by omega) (by omega)), hP 0 (Q30 0 6 0 false ((Fld.rows v0_2).flatten) (Fld.rows v0_2) 6 true (Int.toNat v0_1) 0 ((Int.toNat v0_1) * 6) (Fld.cells (List.getD v0_2 (Int.toNat v0_1) zF)) (.agg [.str (List.getD v0_2 (Int.toNat v0_1) zF).name, .int .i64 (List.getD v0_2 (Int.toNat v0_1) zF).v.kind, .int .i64 (List.getD v0_2 (Int.toNat v0_1) zF).v.n, .str (List.getD v0_2 (Int.toNat v0_1) zF).v.s, .sl (Val.rows (List.getD v0_2 (Int.toNat v0_1) zF).v.list), .sl (Fld.rows (List.getD v0_2 (Int.toNat v0_1) zF).v.fields)]) rfl rfl (Fld.Qf (Qv v0_2 (Int.toNat v0_1) zF (by omega))) (Fld.Ql v0_2) (by decide) rfl), hP 7 (w_ok (v0_1 + 1) (by omega))] [aN (toldOf (Q12x (List.getD v0_2 (Int.toNat v0_1) zF) o1) (congrArg (fun b => Qyz (List.getD v0_2 (Int.toNat v0_1) zF) o1 b) h1))] (by kernel_rfl) hr
theorem Qwj (n0 : Nat) (o1 : ByteArray) (v0_0 : Int) (v0_1 : Int) (v0_2 : List Fld) (ho0_0 : 0 ≤ v0_0) (ho0_1 : v0_0 < v0_1) (_ho0_2 : v0_1 ≤ (n0 : Int)) (ho0_3 : (n0 : Int) ≤ 1152921504606846976) (ho0_4 : List.length v0_2 = n0) (h0 : (decide (v0_1 < (n0 : Int))) = true) (h1 : (Q3p (List.getD v0_2 (Int.toNat v0_1) zF) o1) = false) {r : Rs} (hr : Q7 G (Q6p n0 o1 (v0_0 + 1) (v0_1 + 1) (List.set v0_2 (Int.toNat v0_0) (List.getD v0_2 (Int.toNat v0_1) zF))) r) : Q7 G (Q6p n0 o1 v0_0 v0_1 v0_2) r := by
 have e0 := of_decide_eq_true h0
 exact Q8 (Qlv n0 o1 v0_0 v0_1 v0_2) (y := (Qen n0 o1 (v0_0 + 1) (v0_1 + 1) (List.set v0_2 (Int.toNat v0_0) (List.getD v0_2 (Int.toNat v0_1) zF)), Q8p n0 o1 (v0_0 + 1) (v0_1 + 1) (List.set v0_2 (Int.toNat v0_0) (List.getD v0_2 (Int.toNat v0_1) zF)))) [hB 3 h0, hP 2 (Q1l 0 6 n0 v0_1 (Int.toNat v0_1) rfl (by omega) (by omega)), hP 0 (Q30 0 6 0 false ((Fld.rows v0_2).flatten) (Fld.rows v0_2) 6 true (Int.toNat v0_1) 0 ((Int.toNat v0_1) * 6) (Fld.cells (List.getD v0_2 (Int.toNat v0_1) zF)) (.agg [.str (List.getD v0_2 (Int.toNat v0_1) zF).name, .int .i64 (List.getD v0_2 (Int.toNat v0_1) zF).v.kind, .int .i64 (List.getD v0_2 (Int.toNat v0_1) zF).v.n, .str (List.getD v0_2 (Int.toNat v0_1) zF).v.s, .sl (Val.rows (List.getD v0_2 (Int.toNat v0_1) zF).v.list), .sl (Fld.rows (List.getD v0_2 (Int.toNat v0_1) zF).v.fields)]) rfl rfl (Fld.Qf (Qv v0_2 (Int.toNat v0_1) zF (by omega))) (Fld.Ql v0_2) (by decide) rfl), hP 9 (Q1l 0 6 n0 v0_0 (Int.toNat v0_0) rfl (by omega) (by omega)), hV 0 [(0, Fld.rows (List.set v0_2 (Int.toNat v0_0) (List.getD v0_2 (Int.toNat v0_1) zF)))] (Qf4 0 6 false ((Fld.rows v0_2).flatten) (Fld.rows v0_2) (Fld.rows (List.set v0_2 (Int.toNat v0_0) (List.getD v0_2 (Int.toNat v0_1) zF))) 6 (Int.toNat v0_0) 0 ((Int.toNat v0_0) * 6) _ (.agg [.str (List.getD v0_2 (Int.toNat v0_1) zF).name, .int .i64 (List.getD v0_2 (Int.toNat v0_1) zF).v.kind, .int .i64 (List.getD v0_2 (Int.toNat v0_1) zF).v.n, .str (List.getD v0_2 (Int.toNat v0_1) zF).v.s, .sl (Val.rows (List.getD v0_2 (Int.toNat v0_1) zF).v.list), .sl (Fld.rows (List.getD v0_2 (Int.toNat v0_1) zF).v.fields)]) rfl rfl (Fld.Qf (Qv v0_2 (Int.toNat v0_0) zF (by omega))) (Fld.Ql v0_2) (by decide) rfl rfl (Fld.Q4b v0_2 (Int.toNat v0_0) (List.getD v0_2 (Int.toNat v0_1) zF))), hS 0 false (Fld.Q5 (List.set v0_2 (Int.toNat v0_0) (List.getD v0_2 (Int.toNat v0_1) zF)) 6 rfl), hP 1 (w_ok (v0_0 + 1) (by have f0 := (Qp ho0_4 (Int.toNat v0_0) (List.getD v0_2 (Int.toNat v0_1) zF)); omega)), hP 2 (w_ok (v0_1 + 1) (by have f0 := (Qp ho0_4 (Int.toNat v0_0) (List.getD v0_2 (Int.toNat v0_1) zF)); omega))] [aN (toldOf (Q12x (List.getD v0_2 (Int.toNat v0_1) zF) o1) (congrArg (fun b => Qyz (List.getD v0_2 (Int.toNat v0_1) zF) o1 b) h1))] (by kernel_rfl) hr
def Qj9 (n0 : Nat) (_o1 : ByteArray) (_v0_0 : Int) (v0_1 : Int) (_v0_2 : List Fld) : List PV :=
  [.un, .fn 57 [] [.bx 1 0], .un, .un, .un, .un, .int .i64 v0_1, .un, .un, .un, .un, .un, .un, .un, .un, .un, .int .i64 v0_1, .ms 0 6 0 n0, .int .i64 (n0 : Int), .bool false]
def Qcr (_n0 : Nat) (_o1 : ByteArray) (_v0_0 : Int) (_v0_1 : Int) (_v0_2 : List Fld) : List (Nat × List PV) :=
  []
theorem Qwn (n0 : Nat) (o1 : ByteArray) (v0_0 : Int) (v0_1 : Int) (v0_2 : List Fld) (_ho0_0 : 0 ≤ v0_0) (_ho0_1 : v0_0 < v0_1) (_ho0_2 : v0_1 ≤ (n0 : Int)) (_ho0_3 : (n0 : Int) ≤ 1152921504606846976) (_ho0_4 : List.length v0_2 = n0) (h0 : (decide (v0_1 < (n0 : Int))) = false) : Qbd n0 o1 (Q6p n0 o1 v0_0 v0_1 v0_2) (v0_2, v0_0) := by
 exact ⟨(envF (Qj9 n0 o1 v0_0 v0_1 v0_2)), (zoF (Qcr n0 o1 v0_0 v0_1 v0_2)), Qe (Qlv n0 o1 v0_0 v0_1 v0_2) (x := ((.exit 0), Qir n0 o1 v0_2 v0_0 (envF (Qj9 n0 o1 v0_0 v0_1 v0_2)) (zoF (Qcr n0 o1 v0_0 v0_1 v0_2)))) [hB 3 h0] [] (by kernel_rfl)⟩
theorem Qg3 (n0 : Nat) (o1 : ByteArray) : ∀ (k0 : Nat) (v0_0 : Int) (v0_1 : Int) (v0_2 : List Fld), 0 ≤ v0_0 → v0_0 < v0_1 → v0_1 ≤ (n0 : Int) → (n0 : Int) ≤ 1152921504606846976 → List.length v0_2 = n0 → Int.toNat ((n0 : Int) - v0_1) < k0 → Qbd n0 o1 (Q6p n0 o1 v0_0 v0_1 v0_2) (Q19 n0 o1 k0 v0_0 v0_1 v0_2)
 | 0, v0_0, v0_1, v0_2, _, _, _, _, _, hm => absurd hm (Nat.not_lt_zero _)
 | k0 + 1, v0_0, v0_1, v0_2, ho0_0, ho0_1, ho0_2, ho0_3, ho0_4, hm => by
  rw [Q19]
  cases h0 : (decide (v0_1 < (n0 : Int))) with
  | true =>
   have e0 := of_decide_eq_true h0
   cases h1 : (Q3p (List.getD v0_2 (Int.toNat v0_1) zF) o1) with
   | true =>
    exact Q8y n0 o1 (fun r hr => Qve n0 o1 v0_0 v0_1 v0_2 ho0_0 ho0_1 ho0_2 ho0_3 ho0_4 h0 h1 hr) _ (Qg3 n0 o1 k0 v0_0 (v0_1 + 1) v0_2 (by omega) (by omega) (by omega) (by omega) ho0_4 (by omega))
   | false =>
    exact Q8y n0 o1 (fun r hr => Qwj n0 o1 v0_0 v0_1 v0_2 ho0_0 ho0_1 ho0_2 ho0_3 ho0_4 h0 h1 hr) _ (Qg3 n0 o1 k0 (v0_0 + 1) (v0_1 + 1) (List.set v0_2 (Int.toNat v0_0) (List.getD v0_2 (Int.toNat v0_1) zF)) (by have f0 := (Qp ho0_4 (Int.toNat v0_0) (List.getD v0_2 (Int.toNat v0_1) zF)); omega) (by have f0 := (Qp ho0_4 (Int.toNat v0_0) (List.getD v0_2 (Int.toNat v0_1) zF)); omega) (by have f0 := (Qp ho0_4 (Int.toNat v0_0) (List.getD v0_2 (Int.toNat v0_1) zF)); omega) (by have f0 := (Qp ho0_4 (Int.toNat v0_0) (List.getD v0_2 (Int.toNat v0_1) zF)); omega) (Qp ho0_4 (Int.toNat v0_0) (List.getD v0_2 (Int.toNat v0_1) zF)) (by have f0 := (Qp ho0_4 (Int.toNat v0_0) (List.getD v0_2 (Int.toNat v0_1) zF)); omega))
  | false =>
   exact Qwn n0 o1 v0_0 v0_1 v0_2 ho0_0 ho0_1 ho0_2 ho0_3 ho0_4 h0
theorem Q3m (n0 : Nat) (o1 : ByteArray) : ∀ (k0 : Nat) (v0_0 : Int) (v0_1 : Int) (v0_2 : List Fld), List.length v0_2 = n0 → List.length (Q19 n0 o1 k0 v0_0 v0_1 v0_2).1 = n0
 | 0, v0_0, v0_1, v0_2, ho0_4 => by rw [Q19]; exact ho0_4
 | k0 + 1, v0_0, v0_1, v0_2, ho0_4 => by
  rw [Q19]
  cases h0 : (decide (v0_1 < (n0 : Int))) with
  | true =>
   cases h1 : (Q3p (List.getD v0_2 (Int.toNat v0_1) zF) o1) with
   | true =>
    exact Q3m n0 o1 k0 v0_0 (v0_1 + 1) v0_2 ho0_4
   | false =>
    exact Q3m n0 o1 k0 (v0_0 + 1) (v0_1 + 1) (List.set v0_2 (Int.toNat v0_0) (List.getD v0_2 (Int.toNat v0_1) zF)) (Qp ho0_4 (Int.toNat v0_0) (List.getD v0_2 (Int.toNat v0_1) zF))
  | false =>
   exact ho0_4
theorem Q3v (n0 : Nat) (o1 : ByteArray) : ∀ (k0 : Nat) (v0_0 : Int) (v0_1 : Int) (v0_2 : List Fld), 0 ≤ v0_0 → v0_0 < v0_1 → v0_1 ≤ (n0 : Int) → (n0 : Int) ≤ 1152921504606846976 → List.length v0_2 = n0 → Int.toNat ((n0 : Int) - v0_1) < k0 → 0 ≤ (Q19 n0 o1 k0 v0_0 v0_1 v0_2).2 ∧ (Q19 n0 o1 k0 v0_0 v0_1 v0_2).2 < (n0 : Int)
 | 0, v0_0, v0_1, v0_2, _, _, _, _, _, hm => absurd hm (Nat.not_lt_zero _)
 | k0 + 1, v0_0, v0_1, v0_2, ho0_0, ho0_1, ho0_2, ho0_3, ho0_4, hm => by
  rw [Q19]
  cases h0 : (decide (v0_1 < (n0 : Int))) with
  | true =>
   have e0 := of_decide_eq_true h0
   cases h1 : (Q3p (List.getD v0_2 (Int.toNat v0_1) zF) o1) with
   | true =>
    exact Q3v n0 o1 k0 v0_0 (v0_1 + 1) v0_2 (by omega) (by omega) (by omega) (by omega) ho0_4 (by omega)
   | false =>
    exact Q3v n0 o1 k0 (v0_0 + 1) (v0_1 + 1) (List.set v0_2 (Int.toNat v0_0) (List.getD v0_2 (Int.toNat v0_1) zF)) (by have f0 := (Qp ho0_4 (Int.toNat v0_0) (List.getD v0_2 (Int.toNat v0_1) zF)); omega) (by have f0 := (Qp ho0_4 (Int.toNat v0_0) (List.getD v0_2 (Int.toNat v0_1) zF)); omega) (by have f0 := (Qp ho0_4 (Int.toNat v0_0) (List.getD v0_2 (Int.toNat v0_1) zF)); omega) (by have f0 := (Qp ho0_4 (Int.toNat v0_0) (List.getD v0_2 (Int.toNat v0_1) zF)); omega) (Qp ho0_4 (Int.toNat v0_0) (List.getD v0_2 (Int.toNat v0_1) zF)) (by have f0 := (Qp ho0_4 (Int.toNat v0_0) (List.getD v0_2 (Int.toNat v0_1) zF)); omega)
  | false =>
   have e0 := of_decide_eq_false h0
   exact (show 0 ≤ v0_0 ∧ v0_0 < (n0 : Int) from ⟨(by omega), (by omega)⟩)
def Qkb (n0 : Nat) (o0 : List Fld) (o1 : ByteArray) : Nat × (List Fld) :=
 bif ((Qw o0 o1) == (-1)) then
  (n0, o0)
 else
  ((Int.toNat (Q19 n0 o1 ((Int.toNat ((n0 : Int) - ((Qw o0 o1) + 1))) + 1) (Qw o0 o1) ((Qw o0 o1) + 1) o0).2), (List.take (Int.toNat (Q19 n0 o1 ((Int.toNat ((n0 : Int) - ((Qw o0 o1) + 1))) + 1) (Qw o0 o1) ((Qw o0 o1) + 1) o0).2) (Q19 n0 o1 ((Int.toNat ((n0 : Int) - ((Qw o0 o1) + 1))) + 1) (Qw o0 o1) ((Qw o0 o1) + 1) o0).1))
def Q186 (n0 : Nat) (o0 : List Fld) (o1 : ByteArray) : En := .call 56 [.ms 0 6 0 n0, .fn 57 [] [.bx 1 0]] [⟨6, 0, false, (Fld.rows o0).flatten⟩, ⟨1, 0, false, [.str o1]⟩]
def Q180 (_n0 : Nat) (_o0 : List Fld) (o1 : ByteArray) (q0 : Nat) (q1 : List Fld) : Rs := .ret (.ms 0 6 0 q0) [⟨6, 0, false, (Fld.rows q1).flatten⟩, ⟨1, 0, false, [.str o1]⟩]
def Q166 (n0 : Nat) (o0 : List Fld) (o1 : ByteArray) : Rs := Q180 n0 o0 o1 (Qkb n0 o0 o1).1 (Qkb n0 o0 o1).2
def Q178 (_n0 : Nat) (o0 : List Fld) (o1 : ByteArray) : Prop := (Q15c o0 o1) ∧ True
theorem Q18o (n0 : Nat) (o0 : List Fld) (o1 : ByteArray) (hn0 : List.length o0 = n0) (hq0 : (n0 : Int) ≤ 1152921504606846976) (H : Q178 n0 o0 o1) : Q7 G (Q186 n0 o0 o1) (Q166 n0 o0 o1) := by
 unfold Q166 Qkb
 cases h0 : ((Qw o0 o1) == (-1)) with
 | true =>
  exact Q9 (fn := Ir.K18) rfl (h := [⟨6, 0, false, (Fld.rows o0).flatten⟩, ⟨1, 0, false, [.str o1]⟩]) (vw := [(0, Fld.rows o0)]) (VOK.cons (show Seen _ _ from Q3r (ob := ⟨6, 0, false, (Fld.rows o0).flatten⟩) (Fld.Q5 o0 6 rfl)) VOK.nil) [hQ ((Fld.Qc o0).trans hn0).symm, hB 6 h0] [aN (Q16k o0 o1 H.1)] (by kernel_rfl)
 | false =>
  have e0 := beq_eq_false_iff_ne.1 h0
  have hl1 := Qg3 n0 o1 ((Int.toNat ((n0 : Int) - ((Qw o0 o1) + 1))) + 1) (Qw o0 o1) ((Qw o0 o1) + 1) o0 (by have g0 := (Qi o0 o1); omega) (by have g0 := (Qi o0 o1); omega) (by have g0 := (Qi o0 o1); omega) (by have g0 := (Qi o0 o1); omega) hn0 (by omega)
  obtain ⟨z1, zo1, hl1⟩ := hl1
  exact Q9 (fn := Ir.K18) rfl (h := [⟨6, 0, false, (Fld.rows o0).flatten⟩, ⟨1, 0, false, [.str o1]⟩]) (vw := [(0, Fld.rows o0)]) (VOK.cons (show Seen _ _ from Q3r (ob := ⟨6, 0, false, (Fld.rows o0).flatten⟩) (Fld.Q5 o0 6 rfl)) VOK.nil) [hQ ((Fld.Qc o0).trans hn0).symm, hB 6 h0, hP 1 (w_ok ((Qw o0 o1) + 1) (by have g0 := (Qi o0 o1); omega)), hS 0 false (Fld.Q5 (Q19 n0 o1 ((Int.toNat ((n0 : Int) - ((Qw o0 o1) + 1))) + 1) (Qw o0 o1) ((Qw o0 o1) + 1) o0).1 6 rfl), hP 3 (Q12r 0 6 n0 (Q19 n0 o1 ((Int.toNat ((n0 : Int) - ((Qw o0 o1) + 1))) + 1) (Qw o0 o1) ((Qw o0 o1) + 1) o0).2 (by have f0 := (Q3m n0 o1 ((Int.toNat ((n0 : Int) - ((Qw o0 o1) + 1))) + 1) (Qw o0 o1) ((Qw o0 o1) + 1) o0 hn0); have g0 := (Qi o0 o1); have g1 := Q3v n0 o1 ((Int.toNat ((n0 : Int) - ((Qw o0 o1) + 1))) + 1) (Qw o0 o1) ((Qw o0 o1) + 1) o0 (by have g0 := (Qi o0 o1); omega) (by have g0 := (Qi o0 o1); omega) (by have g0 := (Qi o0 o1); omega) (by have g0 := (Qi o0 o1); omega) hn0 (by omega); omega) (by have f0 := (Q3m n0 o1 ((Int.toNat ((n0 : Int) - ((Qw o0 o1) + 1))) + 1) (Qw o0 o1) ((Qw o0 o1) + 1) o0 hn0); have g0 := (Qi o0 o1); have g1 := Q3v n0 o1 ((Int.toNat ((n0 : Int) - ((Qw o0 o1) + 1))) + 1) (Qw o0 o1) ((Qw o0 o1) + 1) o0 (by have g0 := (Qi o0 o1); omega) (by have g0 := (Qi o0 o1); omega) (by have g0 := (Qi o0 o1); omega) (by have g0 := (Qi o0 o1); omega) hn0 (by omega); omega)), hV 0 [(0, Fld.rows (List.take (Int.toNat (Q19 n0 o1 ((Int.toNat ((n0 : Int) - ((Qw o0 o1) + 1))) + 1) (Qw o0 o1) ((Qw o0 o1) + 1) o0).2) (Q19 n0 o1 ((Int.toNat ((n0 : Int) - ((Qw o0 o1) + 1))) + 1) (Qw o0 o1) ((Qw o0 o1) + 1) o0).1))] (Q15z 0 6 false (Fld.rows (Q19 n0 o1 ((Int.toNat ((n0 : Int) - ((Qw o0 o1) + 1))) + 1) (Qw o0 o1) ((Qw o0 o1) + 1) o0).1) (Fld.rows (List.take (Int.toNat (Q19 n0 o1 ((Int.toNat ((n0 : Int) - ((Qw o0 o1) + 1))) + 1) (Qw o0 o1) ((Qw o0 o1) + 1) o0).2) (Q19 n0 o1 ((Int.toNat ((n0 : Int) - ((Qw o0 o1) + 1))) + 1) (Qw o0 o1) ((Qw o0 o1) + 1) o0).1)) (Int.toNat (Q19 n0 o1 ((Int.toNat ((n0 : Int) - ((Qw o0 o1) + 1))) + 1) (Qw o0 o1) ((Qw o0 o1) + 1) o0).2) (n0 - (Int.toNat (Q19 n0 o1 ((Int.toNat ((n0 : Int) - ((Qw o0 o1) + 1))) + 1) (Qw o0 o1) ((Qw o0 o1) + 1) o0).2)) [.str (⟨#[]⟩ : ByteArray), .int .i64 0, .int .i64 0, .str (⟨#[]⟩ : ByteArray), .ns 5, .ns 6] (Fld.Ql (Q19 n0 o1 ((Int.toNat ((n0 : Int) - ((Qw o0 o1) + 1))) + 1) (Qw o0 o1) ((Qw o0 o1) + 1) o0).1) (by rw [Fld.Qc]; exact (by have f0 := (Q3m n0 o1 ((Int.toNat ((n0 : Int) - ((Qw o0 o1) + 1))) + 1) (Qw o0 o1) ((Qw o0 o1) + 1) o0 hn0); have g0 := (Qi o0 o1); have g1 := Q3v n0 o1 ((Int.toNat ((n0 : Int) - ((Qw o0 o1) + 1))) + 1) (Qw o0 o1) ((Qw o0 o1) + 1) o0 (by have g0 := (Qi o0 o1); omega) (by have g0 := (Qi o0 o1); omega) (by have g0 := (Qi o0 o1); omega) (by have g0 := (Qi o0 o1); omega) hn0 (by omega); omega)) (by have f0 := (Q3m n0 o1 ((Int.toNat ((n0 : Int) - ((Qw o0 o1) + 1))) + 1) (Qw o0 o1) ((Qw o0 o1) + 1) o0 hn0); have g0 := (Qi o0 o1); have g1 := Q3v n0 o1 ((Int.toNat ((n0 : Int) - ((Qw o0 o1) + 1))) + 1) (Qw o0 o1) ((Qw o0 o1) + 1) o0 (by have g0 := (Qi o0 o1); omega) (by have g0 := (Qi o0 o1); omega) (by have g0 := (Qi o0 o1); omega) (by have g0 := (Qi o0 o1); omega) hn0 (by omega); omega) (by rw [Fld.Qbt])), hS 0 false (Fld.Q5 (List.take (Int.toNat (Q19 n0 o1 ((Int.toNat ((n0 : Int) - ((Qw o0 o1) + 1))) + 1) (Qw o0 o1) ((Qw o0 o1) + 1) o0).2) (Q19 n0 o1 ((Int.toNat ((n0 : Int) - ((Qw o0 o1) + 1))) + 1) (Qw o0 o1) ((Qw o0 o1) + 1) o0).1) 6 rfl), hP 2 (Q12v 0 6 n0 (Q19 n0 o1 ((Int.toNat ((n0 : Int) - ((Qw o0 o1) + 1))) + 1) (Qw o0 o1) ((Qw o0 o1) + 1) o0).2 (by have g0 := (Qi o0 o1); have g1 := Q3v n0 o1 ((Int.toNat ((n0 : Int) - ((Qw o0 o1) + 1))) + 1) (Qw o0 o1) ((Qw o0 o1) + 1) o0 (by have g0 := (Qi o0 o1); omega) (by have g0 := (Qi o0 o1); omega) (by have g0 := (Qi o0 o1); omega) (by have g0 := (Qi o0 o1); omega) hn0 (by omega); omega) (by have g0 := (Qi o0 o1); have g1 := Q3v n0 o1 ((Int.toNat ((n0 : Int) - ((Qw o0 o1) + 1))) + 1) (Qw o0 o1) ((Qw o0 o1) + 1) o0 (by have g0 := (Qi o0 o1); omega) (by have g0 := (Qi o0 o1); omega) (by have g0 := (Qi o0 o1); omega) (by have g0 := (Qi o0 o1); omega) hn0 (by omega); omega))] [aN (Q16k o0 o1 H.1), aV [(0, Fld.rows (Q19 n0 o1 ((Int.toNat ((n0 : Int) - ((Qw o0 o1) + 1))) + 1) (Qw o0 o1) ((Qw o0 o1) + 1) o0).1)] hl1] (by kernel_rfl)
def Q2f (p0 : Val) (p1 : ByteArray) : Nat × (List Fld) :=
 bif (p0.kind == 5) then
  ((Qkb (List.length p0.fields) p0.fields p1).1, (Qkb (List.length p0.fields) p0.fields p1).2)
 else
  (0, [])
def Q18z (p0 : Val) (p1 : ByteArray) : En := .call 46 [.agg (Val.cells p0), .str p1] []
def Q187 (_p0 : Val) (_p1 : ByteArray) (q0 : Nat) (q1 : List Fld) : Rs := .ret (.ms 0 6 0 q0) [⟨6, 0, true, (Fld.rows q1).flatten⟩]
def Q15a (p0 : Val) (p1 : ByteArray) : Rs := Q187 p0 p1 (Q2f p0 p1).1 (Q2f p0 p1).2
def Q12p (p0 : Val) (p1 : ByteArray) : Prop := (List.length p0.fields * 96 ≤ 140737488355328) ∧ ((p0.kind == 5) = true → ((List.length p0.fields) : Int) ≤ 1152921504606846976) ∧ (Q178 (List.length p0.fields) p0.fields p1) ∧ True
theorem Q15r (p0 : Val) (p1 : ByteArray) (H : Q12p p0 p1) : Q7 G (Q18z p0 p1) (Q15a p0 p1) := by
 unfold Q15a Q2f
 cases h0 : (p0.kind == 5) with
 | true =>
  exact Q9 (fn := Ir.K1s) rfl VOK.nil [hP 5 (dec (!(p0.kind == 5)) false (by rw [h0]; rfl)), hQ (Fld.Q5 p0.fields 6 rfl), hQ (Fld.Q5 (Qkb (List.length p0.fields) p0.fields p1).2 6 rfl)] [aV [(0, Fld.rows p0.fields)] (Q5u (G := G) (f := 41) (sz := 6) (bytes := 96) rfl (Fld.Qc p0.fields) (Fld.Q5 p0.fields 6 rfl) H.1), aV [(0, Fld.rows (Qkb (List.length p0.fields) p0.fields p1).2)] (Q18o (List.length p0.fields) p0.fields p1 rfl (H.2.1 h0) H.2.2.1)] (by kernel_rfl)
 | false =>
  exact Q9 (fn := Ir.K1s) rfl VOK.nil [hP 5 (dec (!(p0.kind == 5)) true (by rw [h0]; rfl))] [] (by kernel_rfl)
def Q3q (p0 : Val) (p1 : ByteArray) : List Fld → Nat → (List Fld) → List Fld
 | [], _i0, v0_1 =>
  v0_1
 | x0 :: r0, i0, v0_1 =>
  bif (p0.kind == 5) then
   bif (sEq x0.name p1) then
    Q3q p0 p1 r0 (i0 + 1) v0_1
   else
    Q3q p0 p1 r0 (i0 + 1) (v0_1 ++ [x0])
  else
   v0_1
def Qk4 (_p0 : Val) (p1 : ByteArray) (i0 : Nat) (v0_1 : List Fld) : List PV :=
  [.un, .str p1, .bx 0 0, .un, .un, .ms 1 6 0 (List.length v0_1), .int .i64 (i0 : Int), .un, .un, .un, .un, .un, .un, .un, .un, .un, .un, .un, .un, .un, .un, .un, .un, .un, .un, .un, .un, .un, .un, .un, .un, .un, .un, .un, .un, .un]
def Qbc (p0 : Val) (_p1 : ByteArray) (_i0 : Nat) (v0_1 : List Fld) : List Ob :=
  [⟨5, 0, true, [.int .i64 p0.kind, .int .i64 p0.n, .str p0.s, .sl (Val.rows p0.list), .sl (Fld.rows p0.fields)]⟩, ⟨6, 0, true, (Fld.rows v0_1).flatten⟩]
def Q7y (p0 : Val) (p1 : ByteArray) (i0 : Nat) (v0_1 : List Fld) : En := .loop 0 Ir.Qgv Ir.Q16t (Qk4 p0 p1 i0 v0_1) (Qbc p0 p1 i0 v0_1)
def Qfr (p0 : Val) (_p1 : ByteArray) (q0 : List Fld) (z : Nat → PV) (_zo : Nat → List PV) : St :=
  ⟨[z 0, z 1, z 2, z 3, z 4, .ms 1 6 0 (List.length q0), z 6, z 7, z 8, z 9, z 10, z 11, z 12, z 13, z 14, z 15, z 16, z 17, z 18, z 19, z 20, z 21, z 22, z 23, z 24, z 25, z 26, z 27, z 28, z 29, z 30, z 31, z 32, z 33, z 34, z 35], [(0, ⟨5, 0, true, [.int .i64 p0.kind, .int .i64 p0.n, .str p0.s, .sl (Val.rows p0.list), .sl (Fld.rows p0.fields)]⟩), (1, ⟨6, 0, true, (Fld.rows q0).flatten⟩)], 642⟩
theorem Qly (p0 : Val) (p1 : ByteArray) (i0 : Nat) (v0_1 : List Fld) : VOK (Go.Pv.look (number 0 (Qbc p0 p1 i0 v0_1))) [(1, Fld.rows v0_1)] := (VOK.cons (show Seen _ _ from Q3r (ob := ⟨6, 0, true, (Fld.rows v0_1).flatten⟩) (Fld.Q5 v0_1 6 rfl)) VOK.nil)
def Qdn (p0 : Val) (p1 : ByteArray) (e : En) (q : List Fld) : Prop := ∃ z zo, Q7 G e (.st (.exit 0) (Qfr p0 p1 q z zo))
theorem Qag (p0 : Val) (p1 : ByteArray) {e e' : En} (h : ∀ r, Q7 G e r → Q7 G e' r) : ∀ q, Qdn p0 p1 e q → Qdn p0 p1 e' q
  | _, ⟨z, zo, hz⟩ => ⟨z, zo, h _ hz⟩
def Qa0 (p0 : Val) (_p1 : ByteArray) : Prop := (List.length p0.fields ≤ 137438953472) ∧ True
def Qnx (p0 : Val) (p1 : ByteArray) (i0 : Nat) (_v0_1 : List Fld) : List PV :=
  [.un, .str p1, .bx 0 0, .un, .un, .un, .int .i64 (i0 : Int), .int .i64 (i0 : Int), .bx 0 4, .sl (Fld.rows p0.fields), .int .i64 ((List.length p0.fields) : Int), .bool false, .bool false, .tup [], .tup [], .tup [], .bool false]
def Qgx (_p0 : Val) (_p1 : ByteArray) (_i0 : Nat) (_v0_1 : List Fld) : List (Nat × List PV) :=
  []
theorem Qz3 (p0 : Val) (p1 : ByteArray) (_H : Qa0 p0 p1) (i0 : Nat) (v0_1 : List Fld) (_ho0_0 : List.length v0_1 ≤ i0) (hc0 : (decide ((i0 : Int) < ((List.length p0.fields) : Int))) = false) : Qdn p0 p1 (Q7y p0 p1 i0 v0_1) v0_1 := by
 exact ⟨(envF (Qnx p0 p1 i0 v0_1)), (zoF (Qgx p0 p1 i0 v0_1)), Qe (Qly p0 p1 i0 v0_1) (x := ((.exit 0), Qfr p0 p1 v0_1 (envF (Qnx p0 p1 i0 v0_1)) (zoF (Qgx p0 p1 i0 v0_1)))) [hP 3 (Qj (Fld.rows p0.fields) (List.length p0.fields) (Fld.Qc p0.fields)), hB 0 hc0] [] (by kernel_rfl)⟩
theorem Qz0 (p0 : Val) (p1 : ByteArray) (H : Qa0 p0 p1) (x0 : Fld) (i0 : Nat) (v0_1 : List Fld) (hx0 : p0.fields[i0]? = some x0) (hi0 : i0 < List.length p0.fields) (_ho0_0 : List.length v0_1 ≤ i0) (hc0 : (decide ((i0 : Int) < ((List.length p0.fields) : Int))) = true) (h0 : (p0.kind == 5) = true) (h1 : (sEq x0.name p1) = true) {r : Rs} (hr : Q7 G (Q7y p0 p1 (i0 + 1) v0_1) r) : Q7 G (Q7y p0 p1 i0 v0_1) r := by
 have hB0 := H.1; have e0 := eq_of_beq h0
 exact Q8 (Qly p0 p1 i0 v0_1) (y := (Qk4 p0 p1 (i0 + 1) v0_1, Qbc p0 p1 (i0 + 1) v0_1)) [hP 3 (Qj (Fld.rows p0.fields) (List.length p0.fields) (Fld.Qc p0.fields)), hB 0 hc0, hB 3 h0, hP 4 (Q1d 6 (Fld.rows p0.fields) i0 _ (Fld.Qf hx0) rfl), hP 3 (dec (!(sEq x0.name p1)) false (by rw [h1]; rfl)), hP 1 (Qs i0 (by omega))] [] (by kernel_rfl) hr
theorem Q11g (p0 : Val) (p1 : ByteArray) (H : Qa0 p0 p1) (x0 : Fld) (i0 : Nat) (v0_1 : List Fld) (hx0 : p0.fields[i0]? = some x0) (hi0 : i0 < List.length p0.fields) (ho0_0 : List.length v0_1 ≤ i0) (hc0 : (decide ((i0 : Int) < ((List.length p0.fields) : Int))) = true) (h0 : (p0.kind == 5) = true) (h1 : (sEq x0.name p1) = false) {r : Rs} (hr : Q7 G (Q7y p0 p1 (i0 + 1) (v0_1 ++ [x0])) r) : Q7 G (Q7y p0 p1 i0 v0_1) r := by
 have hB0 := H.1; have e0 := eq_of_beq h0
 exact Q8 (Qly p0 p1 i0 v0_1) (y := (Qk4 p0 p1 (i0 + 1) (v0_1 ++ [x0]), Qbc p0 p1 (i0 + 1) (v0_1 ++ [x0]))) [hP 3 (Qj (Fld.rows p0.fields) (List.length p0.fields) (Fld.Qc p0.fields)), hB 0 hc0, hB 3 h0, hP 4 (Q1d 6 (Fld.rows p0.fields) i0 _ (Fld.Qf hx0) rfl), hP 3 (dec (!(sEq x0.name p1)) true (by rw [h1]; rfl)), hP 4 (Q1d 6 (Fld.rows p0.fields) i0 _ (Fld.Qf hx0) rfl), hV 2 [(1602, Fld.rows (v0_1 ++ [x0]))] (Qc9 1 1538 1602 6 96 0 0 true (Fld.rows v0_1) (Fld.rows (v0_1 ++ [x0])) (Fld.cells x0) (List.length v0_1) (List.length (v0_1 ++ [x0])) rfl (Fld.Qc v0_1).symm (Fld.Qc (v0_1 ++ [x0])).symm (Fld.Q2n v0_1 x0) (Fld.Ql v0_1) rfl (by omega)), hS 0 true (Fld.Q5 (v0_1 ++ [x0]) 6 rfl), hP 2 (Qs i0 (by omega))] [] (by kernel_rfl) hr
def Qpn (p0 : Val) (p1 : ByteArray) (i0 : Nat) (_v0_1 : List Fld) (_x0 : Fld) : List PV :=
  [.un, .str p1, .bx 0 0, .un, .un, .un, .int .i64 (i0 : Int), .int .i64 (i0 : Int), .bx 0 4, .sl (Fld.rows p0.fields), .int .i64 ((List.length p0.fields) : Int), .bool true, .bool true, .bx 0 0, .int .i64 p0.kind, .bool false, .bool false]
def Qho (_p0 : Val) (_p1 : ByteArray) (_i0 : Nat) (_v0_1 : List Fld) (_x0 : Fld) : List (Nat × List PV) :=
  []
theorem Q10z (p0 : Val) (p1 : ByteArray) (_H : Qa0 p0 p1) (x0 : Fld) (i0 : Nat) (v0_1 : List Fld) (_hx0 : p0.fields[i0]? = some x0) (_hi0 : i0 < List.length p0.fields) (_ho0_0 : List.length v0_1 ≤ i0) (hc0 : (decide ((i0 : Int) < ((List.length p0.fields) : Int))) = true) (h0 : (p0.kind == 5) = false) : Qdn p0 p1 (Q7y p0 p1 i0 v0_1) v0_1 := by
 exact ⟨(envF (Qpn p0 p1 i0 v0_1 x0)), (zoF (Qho p0 p1 i0 v0_1 x0)), Qe (Qly p0 p1 i0 v0_1) (x := ((.exit 0), Qfr p0 p1 v0_1 (envF (Qpn p0 p1 i0 v0_1 x0)) (zoF (Qho p0 p1 i0 v0_1 x0)))) [hP 3 (Qj (Fld.rows p0.fields) (List.length p0.fields) (Fld.Qc p0.fields)), hB 0 hc0, hB 3 h0] [] (by kernel_rfl)⟩
theorem Qlb (p0 : Val) (p1 : ByteArray) (H : Qa0 p0 p1) : ∀ (r0 : List Fld) (i0 : Nat) (v0_1 : List Fld), List.drop i0 p0.fields = r0 → List.length v0_1 ≤ i0 → Qdn p0 p1 (Q7y p0 p1 i0 v0_1) (Q3q p0 p1 r0 i0 v0_1)
 | [], i0, v0_1, hd, ho0_0 => by
  have hc0 : (decide ((i0 : Int) < ((List.length p0.fields) : Int))) = false := by have := Q1i hd; simp; omega
  rw [Q3q]
  exact Qz3 p0 p1 H i0 v0_1 ho0_0 hc0
 | x0 :: r0, i0, v0_1, hd, ho0_0 => by
  obtain ⟨hx0, hi0, hd'⟩ := Q17 hd
  have hc0 : (decide ((i0 : Int) < ((List.length p0.fields) : Int))) = true := by simp; omega
  rw [Q3q]
  cases h0 : (p0.kind == 5) with
  | true =>
   have e0 := eq_of_beq h0
   cases h1 : (sEq x0.name p1) with
   | true =>
    exact Qag p0 p1 (fun r hr => Qz0 p0 p1 H x0 i0 v0_1 hx0 hi0 ho0_0 hc0 h0 h1 hr) _ (Qlb p0 p1 H r0 (i0 + 1) v0_1 hd' (by first | omega | (simp; omega)))
   | false =>
    exact Qag p0 p1 (fun r hr => Q11g p0 p1 H x0 i0 v0_1 hx0 hi0 ho0_0 hc0 h0 h1 hr) _ (Qlb p0 p1 H r0 (i0 + 1) (v0_1 ++ [x0]) hd' (by first | omega | (simp; omega)))
  | false =>
   exact Q10z p0 p1 H x0 i0 v0_1 hx0 hi0 ho0_0 hc0 h0
def s_Ku (p0 : Val) (p1 : ByteArray) : Nat × (List Fld) :=
 ((List.length (Q3q p0 p1 p0.fields 0 [])), (Q3q p0 p1 p0.fields 0 []))
def c_Ku (p0 : Val) (p1 : ByteArray) : En := .call 48 [.agg (Val.cells p0), .str p1] []
def r_Ku (_p0 : Val) (_p1 : ByteArray) (q0 : Nat) (q1 : List Fld) : Rs := .ret (.ms 0 6 0 q0) [⟨6, 0, true, (Fld.rows q1).flatten⟩]
def a_Ku (p0 : Val) (p1 : ByteArray) : Rs := r_Ku p0 p1 (s_Ku p0 p1).1 (s_Ku p0 p1).2
def H_Ku (p0 : Val) (p1 : ByteArray) : Prop := (Qa0 p0 p1) ∧ True
theorem t_Ku (p0 : Val) (p1 : ByteArray) (H : H_Ku p0 p1) : Q7 G (c_Ku p0 p1) (a_Ku p0 p1) := by
 unfold a_Ku s_Ku
 have hl0 := Qlb p0 p1 (H.1) p0.fields 0 [] (by simp) (by simp)
 obtain ⟨z0, zo0, hl0⟩ := hl0
 exact Q9 (fn := Ir.Ku) rfl VOK.nil [hS 0 true (Fld.Q5 (Q3q p0 p1 p0.fields 0 []) 6 rfl)] [aV [(1, Fld.rows (Q3q p0 p1 p0.fields 0 []))] hl0] (by kernel_rfl)
def Qz (p0 : List Fld) (p1 : Fld) : List Fld → Nat → (List Fld) → Bool → (List Fld) × Bool
 | [], _i0, v0_1, v0_2 =>
  (v0_1, v0_2)
 | x0 :: r0, i0, v0_1, v0_2 =>
  bif (v0_2 == true) then
   bif (sEq x0.name p1.name) then
    Qz p0 p1 r0 (i0 + 1) v0_1 v0_2
   else
    Qz p0 p1 r0 (i0 + 1) (v0_1 ++ [x0]) v0_2
  else
   bif ((sLt p1.name x0.name) || (sEq p1.name x0.name)) then
    bif (sEq x0.name p1.name) then
     Qz p0 p1 r0 (i0 + 1) (v0_1 ++ [p1]) true
    else
     Qz p0 p1 r0 (i0 + 1) ((v0_1 ++ [p1]) ++ [x0]) true
   else
    bif (sEq x0.name p1.name) then
     Qz p0 p1 r0 (i0 + 1) v0_1 v0_2
    else
     Qz p0 p1 r0 (i0 + 1) (v0_1 ++ [x0]) v0_2
def Q5h (p0 : List Fld) (_p1 : Fld) (i0 : Nat) (v0_1 : List Fld) (v0_2 : Bool) : List PV :=
  [.sl (Fld.rows p0), .un, .un, .bx 0 0, .un, .ms 1 6 0 (List.length v0_1), .bool v0_2, .int .i64 (i0 : Int), .un, .un, .un, .un, .un, .un, .un, .un, .un, .un, .un, .un, .un, .un, .un, .un, .un, .un, .un, .un, .un, .un, .un, .un, .un, .un, .un, .un, .un, .un, .un, .un, .un, .un, .un, .un, .un, .un, .un, .un, .un, .un, .un, .un]
def Q4o (_p0 : List Fld) (p1 : Fld) (_i0 : Nat) (v0_1 : List Fld) (_v0_2 : Bool) : List Ob :=
  [⟨6, 0, true, [.str p1.name, .int .i64 p1.v.kind, .int .i64 p1.v.n, .str p1.v.s, .sl (Val.rows p1.v.list), .sl (Fld.rows p1.v.fields)]⟩, ⟨6, 0, true, (Fld.rows v0_1).flatten⟩]
def Q3e (p0 : List Fld) (p1 : Fld) (i0 : Nat) (v0_1 : List Fld) (v0_2 : Bool) : En := .loop 0 Ir.Qj6 Ir.Q17b (Q5h p0 p1 i0 v0_1 v0_2) (Q4o p0 p1 i0 v0_1 v0_2)
def Qnw (_p0 : List Fld) (p1 : Fld) (q0 : List Fld) (q1 : Bool) (z : Nat → PV) (_zo : Nat → List PV) : St :=
  ⟨[z 0, z 1, z 2, .bx 0 0, z 4, .ms 1 6 0 (List.length q0), .bool q1, z 7, z 8, z 9, z 10, z 11, z 12, z 13, z 14, z 15, z 16, z 17, z 18, z 19, z 20, z 21, z 22, z 23, z 24, z 25, z 26, z 27, z 28, z 29, z 30, z 31, z 32, z 33, z 34, z 35, z 36, z 37, z 38, z 39, z 40, z 41, z 42, z 43, z 44, z 45, z 46, z 47, z 48, z 49, z 50, z 51], [(0, ⟨6, 0, true, [.str p1.name, .int .i64 p1.v.kind, .int .i64 p1.v.n, .str p1.v.s, .sl (Val.rows p1.v.list), .sl (Fld.rows p1.v.fields)]⟩), (1, ⟨6, 0, true, (Fld.rows q0).flatten⟩)], 258⟩
theorem Q7m (p0 : List Fld) (p1 : Fld) (i0 : Nat) (v0_1 : List Fld) (v0_2 : Bool) : VOK (Go.Pv.look (number 0 (Q4o p0 p1 i0 v0_1 v0_2))) [(1, Fld.rows v0_1)] := (VOK.cons (show Seen _ _ from Q3r (ob := ⟨6, 0, true, (Fld.rows v0_1).flatten⟩) (Fld.Q5 v0_1 6 rfl)) VOK.nil)
def Qkz (p0 : List Fld) (p1 : Fld) (e : En) (q : (List Fld) × Bool) : Prop := ∃ z zo, Q7 G e (.st (.exit 0) (Qnw p0 p1 q.1 q.2 z zo))
theorem Q39 (p0 : List Fld) (p1 : Fld) {e e' : En} (h : ∀ r, Q7 G e r → Q7 G e' r) : ∀ q, Qkz p0 p1 e q → Qkz p0 p1 e' q
  | _, ⟨z, zo, hz⟩ => ⟨z, zo, h _ hz⟩
def Q5b (p0 : List Fld) (_p1 : Fld) : Prop := (List.length p0 ≤ 137438953472) ∧ True
def Qq6 (p0 : List Fld) (_p1 : Fld) (i0 : Nat) (_v0_1 : List Fld) (_v0_2 : Bool) : List PV :=
  [.sl (Fld.rows p0), .un, .un, .un, .un, .un, .un, .int .i64 (i0 : Int), .int .i64 (i0 : Int), .sl (Fld.rows p0), .int .i64 ((List.length p0) : Int), .bool false]
def Qii (_p0 : List Fld) (_p1 : Fld) (_i0 : Nat) (_v0_1 : List Fld) (_v0_2 : Bool) : List (Nat × List PV) :=
  []
theorem Qzw (p0 : List Fld) (p1 : Fld) (_H : Q5b p0 p1) (i0 : Nat) (v0_1 : List Fld) (v0_2 : Bool) (_ho0_0 : List.length v0_1 ≤ 2 * i0) (hc0 : (decide ((i0 : Int) < ((List.length p0) : Int))) = false) : Qkz p0 p1 (Q3e p0 p1 i0 v0_1 v0_2) (v0_1, v0_2) := by
 exact ⟨(envF (Qq6 p0 p1 i0 v0_1 v0_2)), (zoF (Qii p0 p1 i0 v0_1 v0_2)), Qe (Q7m p0 p1 i0 v0_1 v0_2) (x := ((.exit 0), Qnw p0 p1 v0_1 v0_2 (envF (Qq6 p0 p1 i0 v0_1 v0_2)) (zoF (Qii p0 p1 i0 v0_1 v0_2)))) [hP 2 (Qj (Fld.rows p0) (List.length p0) (Fld.Qc p0)), hB 0 hc0] [] (by kernel_rfl)⟩
theorem Q10n (p0 : List Fld) (p1 : Fld) (H : Q5b p0 p1) (x0 : Fld) (i0 : Nat) (v0_1 : List Fld) (v0_2 : Bool) (hx0 : p0[i0]? = some x0) (hi0 : i0 < List.length p0) (_ho0_0 : List.length v0_1 ≤ 2 * i0) (hc0 : (decide ((i0 : Int) < ((List.length p0) : Int))) = true) (h0 : (v0_2 == true) = true) (h1 : (sEq x0.name p1.name) = true) {r : Rs} (hr : Q7 G (Q3e p0 p1 (i0 + 1) v0_1 v0_2) r) : Q7 G (Q3e p0 p1 i0 v0_1 v0_2) r := by
 have hB0 := H.1
 exact Q8 (Q7m p0 p1 i0 v0_1 v0_2) (y := (Q5h p0 p1 (i0 + 1) v0_1 v0_2, Q4o p0 p1 (i0 + 1) v0_1 v0_2)) [hP 2 (Qj (Fld.rows p0) (List.length p0) (Fld.Qc p0)), hB 0 hc0, hB 0 (beqT h0), hP 13 (Q1d 6 (Fld.rows p0) i0 _ (Fld.Qf hx0) rfl), hP 4 (dec (!(sEq x0.name p1.name)) false (by rw [h1]; rfl)), hP 1 (Qs i0 (by omega))] [] (by kernel_rfl) hr
theorem Qzl (p0 : List Fld) (p1 : Fld) (H : Q5b p0 p1) (x0 : Fld) (i0 : Nat) (v0_1 : List Fld) (v0_2 : Bool) (hx0 : p0[i0]? = some x0) (hi0 : i0 < List.length p0) (ho0_0 : List.length v0_1 ≤ 2 * i0) (hc0 : (decide ((i0 : Int) < ((List.length p0) : Int))) = true) (h0 : (v0_2 == true) = true) (h1 : (sEq x0.name p1.name) = false) {r : Rs} (hr : Q7 G (Q3e p0 p1 (i0 + 1) (v0_1 ++ [x0]) v0_2) r) : Q7 G (Q3e p0 p1 i0 v0_1 v0_2) r := by
 have hB0 := H.1
 exact Q8 (Q7m p0 p1 i0 v0_1 v0_2) (y := (Q5h p0 p1 (i0 + 1) (v0_1 ++ [x0]) v0_2, Q4o p0 p1 (i0 + 1) (v0_1 ++ [x0]) v0_2)) [hP 2 (Qj (Fld.rows p0) (List.length p0) (Fld.Qc p0)), hB 0 hc0, hB 0 (beqT h0), hP 13 (Q1d 6 (Fld.rows p0) i0 _ (Fld.Qf hx0) rfl), hP 4 (dec (!(sEq x0.name p1.name)) true (by rw [h1]; rfl)), hP 3 (Q1d 6 (Fld.rows p0) i0 _ (Fld.Qf hx0) rfl), hV 2 [(1922, Fld.rows (v0_1 ++ [x0]))] (Qc9 1 1858 1922 6 96 0 0 true (Fld.rows v0_1) (Fld.rows (v0_1 ++ [x0])) (Fld.cells x0) (List.length v0_1) (List.length (v0_1 ++ [x0])) rfl (Fld.Qc v0_1).symm (Fld.Qc (v0_1 ++ [x0])).symm (Fld.Q2n v0_1 x0) (Fld.Ql v0_1) rfl (by omega)), hS 0 true (Fld.Q5 (v0_1 ++ [x0]) 6 rfl), hP 2 (Qs i0 (by omega))] [] (by kernel_rfl) hr
theorem Qzt (p0 : List Fld) (p1 : Fld) (H : Q5b p0 p1) (x0 : Fld) (i0 : Nat) (v0_1 : List Fld) (v0_2 : Bool) (hx0 : p0[i0]? = some x0) (hi0 : i0 < List.length p0) (ho0_0 : List.length v0_1 ≤ 2 * i0) (hc0 : (decide ((i0 : Int) < ((List.length p0) : Int))) = true) (h0 : (v0_2 == true) = false) (h1 : ((sLt p1.name x0.name) || (sEq p1.name x0.name)) = true) (h2 : (sEq x0.name p1.name) = true) {r : Rs} (hr : Q7 G (Q3e p0 p1 (i0 + 1) (v0_1 ++ [p1]) true) r) : Q7 G (Q3e p0 p1 i0 v0_1 v0_2) r := by
 have hB0 := H.1
 exact Q8 (Q7m p0 p1 i0 v0_1 v0_2) (y := (Q5h p0 p1 (i0 + 1) (v0_1 ++ [p1]) true, Q4o p0 p1 (i0 + 1) (v0_1 ++ [p1]) true)) [hP 2 (Qj (Fld.rows p0) (List.length p0) (Fld.Qc p0)), hB 0 hc0, hB 0 (beqT h0), hP 6 (Q1d 6 (Fld.rows p0) i0 _ (Fld.Qf hx0) rfl), hB 2 h1, hV 4 [(1218, Fld.rows (v0_1 ++ [p1]))] (Qc9 1 1154 1218 6 96 0 0 true (Fld.rows v0_1) (Fld.rows (v0_1 ++ [p1])) (Fld.cells p1) (List.length v0_1) (List.length (v0_1 ++ [p1])) rfl (Fld.Qc v0_1).symm (Fld.Qc (v0_1 ++ [p1])).symm (Fld.Q2n v0_1 p1) (Fld.Ql v0_1) rfl (by omega)), hS 0 true (Fld.Q5 (v0_1 ++ [p1]) 6 rfl), hP 4 (Q1d 6 (Fld.rows p0) i0 _ (Fld.Qf hx0) rfl), hP 4 (dec (!(sEq x0.name p1.name)) false (by rw [h2]; rfl)), hP 1 (Qs i0 (by omega))] [] (by kernel_rfl) hr
theorem Qyp (p0 : List Fld) (p1 : Fld) (H : Q5b p0 p1) (x0 : Fld) (i0 : Nat) (v0_1 : List Fld) (v0_2 : Bool) (hx0 : p0[i0]? = some x0) (hi0 : i0 < List.length p0) (ho0_0 : List.length v0_1 ≤ 2 * i0) (hc0 : (decide ((i0 : Int) < ((List.length p0) : Int))) = true) (h0 : (v0_2 == true) = false) (h1 : ((sLt p1.name x0.name) || (sEq p1.name x0.name)) = true) (h2 : (sEq x0.name p1.name) = false) {r : Rs} (hr : Q7 G (Q3e p0 p1 (i0 + 1) ((v0_1 ++ [p1]) ++ [x0]) true) r) : Q7 G (Q3e p0 p1 i0 v0_1 v0_2) r := by
 have hB0 := H.1
 exact Q8 (Q7m p0 p1 i0 v0_1 v0_2) (y := (Q5h p0 p1 (i0 + 1) ((v0_1 ++ [p1]) ++ [x0]) true, Q4o p0 p1 (i0 + 1) ((v0_1 ++ [p1]) ++ [x0]) true)) [hP 2 (Qj (Fld.rows p0) (List.length p0) (Fld.Qc p0)), hB 0 hc0, hB 0 (beqT h0), hP 6 (Q1d 6 (Fld.rows p0) i0 _ (Fld.Qf hx0) rfl), hB 2 h1, hV 4 [(1218, Fld.rows (v0_1 ++ [p1]))] (Qc9 1 1154 1218 6 96 0 0 true (Fld.rows v0_1) (Fld.rows (v0_1 ++ [p1])) (Fld.cells p1) (List.length v0_1) (List.length (v0_1 ++ [p1])) rfl (Fld.Qc v0_1).symm (Fld.Qc (v0_1 ++ [p1])).symm (Fld.Q2n v0_1 p1) (Fld.Ql v0_1) rfl (by omega)), hS 0 true (Fld.Q5 (v0_1 ++ [p1]) 6 rfl), hP 4 (Q1d 6 (Fld.rows p0) i0 _ (Fld.Qf hx0) rfl), hP 4 (dec (!(sEq x0.name p1.name)) true (by rw [h2]; rfl)), hP 3 (Q1d 6 (Fld.rows p0) i0 _ (Fld.Qf hx0) rfl), hV 2 [(2306, Fld.rows ((v0_1 ++ [p1]) ++ [x0]))] (Qc9 1218 2242 2306 6 96 0 0 true (Fld.rows (v0_1 ++ [p1])) (Fld.rows ((v0_1 ++ [p1]) ++ [x0])) (Fld.cells x0) (List.length (v0_1 ++ [p1])) (List.length ((v0_1 ++ [p1]) ++ [x0])) rfl (Fld.Qc (v0_1 ++ [p1])).symm (Fld.Qc ((v0_1 ++ [p1]) ++ [x0])).symm (Fld.Q2n (v0_1 ++ [p1]) x0) (Fld.Ql (v0_1 ++ [p1])) rfl (by try simp only [List.length_append, List.length_cons, List.length_nil]; omega)), hS 0 true (Fld.Q5 ((v0_1 ++ [p1]) ++ [x0]) 6 rfl), hP 2 (Qs i0 (by omega))] [] (by kernel_rfl) hr
theorem Qyb (p0 : List Fld) (p1 : Fld) (H : Q5b p0 p1) (x0 : Fld) (i0 : Nat) (v0_1 : List Fld) (v0_2 : Bool) (hx0 : p0[i0]? = some x0) (hi0 : i0 < List.length p0) (_ho0_0 : List.length v0_1 ≤ 2 * i0) (hc0 : (decide ((i0 : Int) < ((List.length p0) : Int))) = true) (h0 : (v0_2 == true) = false) (h1 : ((sLt p1.name x0.name) || (sEq p1.name x0.name)) = false) (h2 : (sEq x0.name p1.name) = true) {r : Rs} (hr : Q7 G (Q3e p0 p1 (i0 + 1) v0_1 v0_2) r) : Q7 G (Q3e p0 p1 i0 v0_1 v0_2) r := by
 have hB0 := H.1
 exact Q8 (Q7m p0 p1 i0 v0_1 v0_2) (y := (Q5h p0 p1 (i0 + 1) v0_1 v0_2, Q4o p0 p1 (i0 + 1) v0_1 v0_2)) [hP 2 (Qj (Fld.rows p0) (List.length p0) (Fld.Qc p0)), hB 0 hc0, hB 0 (beqT h0), hP 6 (Q1d 6 (Fld.rows p0) i0 _ (Fld.Qf hx0) rfl), hB 2 h1, hP 3 (Q1d 6 (Fld.rows p0) i0 _ (Fld.Qf hx0) rfl), hP 4 (dec (!(sEq x0.name p1.name)) false (by rw [h2]; rfl)), hP 1 (Qs i0 (by omega))] [] (by kernel_rfl) hr
theorem Qzq (p0 : List Fld) (p1 : Fld) (H : Q5b p0 p1) (x0 : Fld) (i0 : Nat) (v0_1 : List Fld) (v0_2 : Bool) (hx0 : p0[i0]? = some x0) (hi0 : i0 < List.length p0) (ho0_0 : List.length v0_1 ≤ 2 * i0) (hc0 : (decide ((i0 : Int) < ((List.length p0) : Int))) = true) (h0 : (v0_2 == true) = false) (h1 : ((sLt p1.name x0.name) || (sEq p1.name x0.name)) = false) (h2 : (sEq x0.name p1.name) = false) {r : Rs} (hr : Q7 G (Q3e p0 p1 (i0 + 1) (v0_1 ++ [x0]) v0_2) r) : Q7 G (Q3e p0 p1 i0 v0_1 v0_2) r := by
 have hB0 := H.1
 exact Q8 (Q7m p0 p1 i0 v0_1 v0_2) (y := (Q5h p0 p1 (i0 + 1) (v0_1 ++ [x0]) v0_2, Q4o p0 p1 (i0 + 1) (v0_1 ++ [x0]) v0_2)) [hP 2 (Qj (Fld.rows p0) (List.length p0) (Fld.Qc p0)), hB 0 hc0, hB 0 (beqT h0), hP 6 (Q1d 6 (Fld.rows p0) i0 _ (Fld.Qf hx0) rfl), hB 2 h1, hP 3 (Q1d 6 (Fld.rows p0) i0 _ (Fld.Qf hx0) rfl), hP 4 (dec (!(sEq x0.name p1.name)) true (by rw [h2]; rfl)), hP 3 (Q1d 6 (Fld.rows p0) i0 _ (Fld.Qf hx0) rfl), hV 2 [(1922, Fld.rows (v0_1 ++ [x0]))] (Qc9 1 1858 1922 6 96 0 0 true (Fld.rows v0_1) (Fld.rows (v0_1 ++ [x0])) (Fld.cells x0) (List.length v0_1) (List.length (v0_1 ++ [x0])) rfl (Fld.Qc v0_1).symm (Fld.Qc (v0_1 ++ [x0])).symm (Fld.Q2n v0_1 x0) (Fld.Ql v0_1) rfl (by omega)), hS 0 true (Fld.Q5 (v0_1 ++ [x0]) 6 rfl), hP 2 (Qs i0 (by omega))] [] (by kernel_rfl) hr
theorem Q5r (p0 : List Fld) (p1 : Fld) (H : Q5b p0 p1) : ∀ (r0 : List Fld) (i0 : Nat) (v0_1 : List Fld) (v0_2 : Bool), List.drop i0 p0 = r0 → List.length v0_1 ≤ 2 * i0 → Qkz p0 p1 (Q3e p0 p1 i0 v0_1 v0_2) (Qz p0 p1 r0 i0 v0_1 v0_2)
 | [], i0, v0_1, v0_2, hd, ho0_0 => by
  have hc0 : (decide ((i0 : Int) < ((List.length p0) : Int))) = false := by have := Q1i hd; simp; omega
  rw [Qz]
  exact Qzw p0 p1 H i0 v0_1 v0_2 ho0_0 hc0
 | x0 :: r0, i0, v0_1, v0_2, hd, ho0_0 => by
  obtain ⟨hx0, hi0, hd'⟩ := Q17 hd
  have hc0 : (decide ((i0 : Int) < ((List.length p0) : Int))) = true := by simp; omega
  rw [Qz]
  cases h0 : (v0_2 == true) with
  | true =>
   cases h1 : (sEq x0.name p1.name) with
   | true =>
    exact Q39 p0 p1 (fun r hr => Q10n p0 p1 H x0 i0 v0_1 v0_2 hx0 hi0 ho0_0 hc0 h0 h1 hr) _ (Q5r p0 p1 H r0 (i0 + 1) v0_1 v0_2 hd' (by first | omega | (simp; omega)))
   | false =>
    exact Q39 p0 p1 (fun r hr => Qzl p0 p1 H x0 i0 v0_1 v0_2 hx0 hi0 ho0_0 hc0 h0 h1 hr) _ (Q5r p0 p1 H r0 (i0 + 1) (v0_1 ++ [x0]) v0_2 hd' (by first | omega | (simp; omega)))
  | false =>
   cases h1 : ((sLt p1.name x0.name) || (sEq p1.name x0.name)) with
   | true =>
    cases h2 : (sEq x0.name p1.name) with
    | true =>
     exact Q39 p0 p1 (fun r hr => Qzt p0 p1 H x0 i0 v0_1 v0_2 hx0 hi0 ho0_0 hc0 h0 h1 h2 hr) _ (Q5r p0 p1 H r0 (i0 + 1) (v0_1 ++ [p1]) true hd' (by first | omega | (simp; omega)))
    | false =>
     exact Q39 p0 p1 (fun r hr => Qyp p0 p1 H x0 i0 v0_1 v0_2 hx0 hi0 ho0_0 hc0 h0 h1 h2 hr) _ (Q5r p0 p1 H r0 (i0 + 1) ((v0_1 ++ [p1]) ++ [x0]) true hd' (by first | omega | (simp; omega)))
   | false =>
    cases h2 : (sEq x0.name p1.name) with
    | true =>
     exact Q39 p0 p1 (fun r hr => Qyb p0 p1 H x0 i0 v0_1 v0_2 hx0 hi0 ho0_0 hc0 h0 h1 h2 hr) _ (Q5r p0 p1 H r0 (i0 + 1) v0_1 v0_2 hd' (by first | omega | (simp; omega)))
    | false =>
     exact Q39 p0 p1 (fun r hr => Qzq p0 p1 H x0 i0 v0_1 v0_2 hx0 hi0 ho0_0 hc0 h0 h1 h2 hr) _ (Q5r p0 p1 H r0 (i0 + 1) (v0_1 ++ [x0]) v0_2 hd' (by first | omega | (simp; omega)))
def s_Kv (p0 : List Fld) (p1 : Fld) : List Fld :=
 bif (Qz p0 p1 p0 0 [] false).2 then
  (Qz p0 p1 p0 0 [] false).1
 else
  ((Qz p0 p1 p0 0 [] false).1 ++ [p1])
def c_Kv (p0 : List Fld) (p1 : Fld) : En := .call 58 [.sl (Fld.rows p0), .agg (Fld.cells p1)] []
def a_Kv (p0 : List Fld) (p1 : Fld) : Rs := .ret (.sl (Fld.rows (s_Kv p0 p1))) []
def H_Kv (p0 : List Fld) (p1 : Fld) : Prop := (Q5b p0 p1) ∧ ((Qz p0 p1 p0 0 [] false).2 = false → ((List.length (Qz p0 p1 p0 0 [] false).1) + 1) * 96 ≤ 140737488355328) ∧ True
theorem t_Kv (p0 : List Fld) (p1 : Fld) (H : H_Kv p0 p1) : Q7 G (c_Kv p0 p1) (a_Kv p0 p1) := by
 unfold a_Kv s_Kv
 have hl0 := Q5r p0 p1 (H.1) p0 0 [] false (by simp) (by simp)
 obtain ⟨z0, zo0, hl0⟩ := hl0
 cases h0 : (Qz p0 p1 p0 0 [] false).2 with
 | true =>
  exact Q9 (fn := Ir.Kv) rfl VOK.nil [hS 0 true (Fld.Q5 (Qz p0 p1 p0 0 [] false).1 6 rfl), hB 5 h0, hQ (Fld.Qc (Qz p0 p1 p0 0 [] false).1).symm] [aV [(1, Fld.rows (Qz p0 p1 p0 0 [] false).1)] hl0] (by kernel_rfl)
 | false =>
  exact Q9 (fn := Ir.Kv) rfl VOK.nil [hS 0 true (Fld.Q5 (Qz p0 p1 p0 0 [] false).1 6 rfl), hB 5 h0, hV 4 [(578, Fld.rows ((Qz p0 p1 p0 0 [] false).1 ++ [p1]))] (Qc9 1 514 578 6 96 0 0 true (Fld.rows (Qz p0 p1 p0 0 [] false).1) (Fld.rows ((Qz p0 p1 p0 0 [] false).1 ++ [p1])) (Fld.cells p1) (List.length (Qz p0 p1 p0 0 [] false).1) (List.length ((Qz p0 p1 p0 0 [] false).1 ++ [p1])) rfl (Fld.Qc (Qz p0 p1 p0 0 [] false).1).symm (Fld.Qc ((Qz p0 p1 p0 0 [] false).1 ++ [p1])).symm (Fld.Q2n (Qz p0 p1 p0 0 [] false).1 p1) (Fld.Ql (Qz p0 p1 p0 0 [] false).1) rfl (H.2.1 h0)), hS 0 true (Fld.Q5 ((Qz p0 p1 p0 0 [] false).1 ++ [p1]) 6 rfl), hQ (Fld.Qc ((Qz p0 p1 p0 0 [] false).1 ++ [p1])).symm] [aV [(1, Fld.rows (Qz p0 p1 p0 0 [] false).1)] hl0] (by kernel_rfl)
def Q6k (p0 : List Fld) : List Fld → Nat → Val → Val
 | [], _i0, v0_1 =>
  v0_1
 | x0 :: r0, i0, v0_1 =>
  Q6k p0 r0 (i0 + 1) (Val.mk v0_1.kind v0_1.n v0_1.s v0_1.list (s_Kv v0_1.fields (Fld.mk x0.name (s_Kj x0.v))))
def Qty (p0 : List Fld) (i0 : Nat) (_v0_1 : Val) : List PV :=
  [.sl (Fld.rows p0), .un, .bx 0 0, .bx 1 0, .int .i64 (i0 : Int), .un, .un, .un, .un, .un, .un, .un, .un, .un, .un, .un, .un, .un, .un, .un, .un, .un, .un, .un, .un, .un, .un, .un, .un]
def Qsv (_p0 : List Fld) (_i0 : Nat) (v0_1 : Val) : List Ob :=
  [⟨5, 0, true, [.int .i64 0, .int .i64 0, .str (⟨#[]⟩ : ByteArray), .sl [], .sl []]⟩, ⟨5, 0, true, [.int .i64 v0_1.kind, .int .i64 v0_1.n, .str v0_1.s, .sl (Val.rows v0_1.list), .sl (Fld.rows v0_1.fields)]⟩]
def Qk7 (p0 : List Fld) (i0 : Nat) (v0_1 : Val) : En := .loop 0 Ir.Qjh Ir.Q156 (Qty p0 i0 v0_1) (Qsv p0 i0 v0_1)
def Qob (_p0 : List Fld) (q0 : Val) (z : Nat → PV) (_zo : Nat → List PV) : St :=
  ⟨[z 0, z 1, .bx 0 0, .bx 1 0, z 4, z 5, z 6, z 7, z 8, z 9, z 10, z 11, z 12, z 13, z 14, z 15, z 16, z 17, z 18, z 19, z 20, z 21, z 22, z 23, z 24, z 25, z 26, z 27, z 28], [(0, ⟨5, 0, true, [.int .i64 0, .int .i64 0, .str (⟨#[]⟩ : ByteArray), .sl [], .sl []]⟩), (1, ⟨5, 0, true, [.int .i64 q0.kind, .int .i64 q0.n, .str q0.s, .sl (Val.rows q0.list), .sl (Fld.rows q0.fields)]⟩)], 258⟩
def Qm0 (p0 : List Fld) (e : En) (q : Val) : Prop := ∃ z zo, Q7 G e (.st (.exit 0) (Qob p0 q z zo))
theorem Qmt (p0 : List Fld) {e e' : En} (h : ∀ r, Q7 G e r → Q7 G e' r) : ∀ q, Qm0 p0 e q → Qm0 p0 e' q
  | _, ⟨z, zo, hz⟩ => ⟨z, zo, h _ hz⟩
def Ql6 (p0 : List Fld) : Prop := (List.length p0 ≤ 137438953472) ∧ (∀ x0 ∈ p0, H_Kj x0.v) ∧ (∀ (i0 : Nat) (v0_1 : Val) (x0 : Fld), p0[i0]? = some x0 → List.length v0_1.fields ≤ i0 → H_Kv v0_1.fields (Fld.mk x0.name (s_Kj x0.v))) ∧ (∀ (i0 : Nat) (v0_1 : Val) (x0 : Fld), p0[i0]? = some x0 → List.length v0_1.fields ≤ i0 → List.length (Val.mk v0_1.kind v0_1.n v0_1.s v0_1.list (s_Kv v0_1.fields (Fld.mk x0.name (s_Kj x0.v)))).fields ≤ (i0 + 1)) ∧ True
def Qo4 (p0 : List Fld) (i0 : Nat) (_v0_1 : Val) : List PV :=
  [.sl (Fld.rows p0), .un, .un, .un, .int .i64 (i0 : Int), .un, .int .i64 (i0 : Int), .sl (Fld.rows p0), .int .i64 ((List.length p0) : Int), .bool false]
def Qia (_p0 : List Fld) (_i0 : Nat) (_v0_1 : Val) : List (Nat × List PV) :=
  []
theorem Q11t (p0 : List Fld) (_H : Ql6 p0) (i0 : Nat) (v0_1 : Val) (_ho0_0 : List.length v0_1.fields ≤ i0) (hc0 : (decide ((i0 : Int) < ((List.length p0) : Int))) = false) : Qm0 p0 (Qk7 p0 i0 v0_1) v0_1 := by
 exact ⟨(envF (Qo4 p0 i0 v0_1)), (zoF (Qia p0 i0 v0_1)), Qe VOK.nil (x := ((.exit 0), Qob p0 v0_1 (envF (Qo4 p0 i0 v0_1)) (zoF (Qia p0 i0 v0_1)))) [hP 2 (Qj (Fld.rows p0) (List.length p0) (Fld.Qc p0)), hB 0 hc0] [] (by kernel_rfl)⟩
theorem Qzz (p0 : List Fld) (H : Ql6 p0) (x0 : Fld) (i0 : Nat) (v0_1 : Val) (hx0 : p0[i0]? = some x0) (hi0 : i0 < List.length p0) (ho0_0 : List.length v0_1.fields ≤ i0) (hc0 : (decide ((i0 : Int) < ((List.length p0) : Int))) = true) {r : Rs} (hr : Q7 G (Qk7 p0 (i0 + 1) (Val.mk v0_1.kind v0_1.n v0_1.s v0_1.list (s_Kv v0_1.fields (Fld.mk x0.name (s_Kj x0.v))))) r) : Q7 G (Qk7 p0 i0 v0_1) r := by
 have hB0 := H.1
 exact Q8 VOK.nil (y := (Qty p0 (i0 + 1) (Val.mk v0_1.kind v0_1.n v0_1.s v0_1.list (s_Kv v0_1.fields (Fld.mk x0.name (s_Kj x0.v)))), Qsv p0 (i0 + 1) (Val.mk v0_1.kind v0_1.n v0_1.s v0_1.list (s_Kv v0_1.fields (Fld.mk x0.name (s_Kj x0.v)))))) [hP 2 (Qj (Fld.rows p0) (List.length p0) (Fld.Qc p0)), hB 0 hc0, hP 4 (Q1d 6 (Fld.rows p0) i0 _ (Fld.Qf hx0) rfl), hP 4 (Q1d 6 (Fld.rows p0) i0 _ (Fld.Qf hx0) rfl), hP 8 (Qs i0 (by omega))] [aN (t_Kj x0.v (H.2.1 x0 (Q12 hx0))), aN (t_Kv v0_1.fields (Fld.mk x0.name (s_Kj x0.v)) (H.2.2.1 i0 v0_1 x0 hx0 ho0_0))] (by kernel_rfl) hr
theorem Qt1 (p0 : List Fld) (H : Ql6 p0) : ∀ (r0 : List Fld) (i0 : Nat) (v0_1 : Val), List.drop i0 p0 = r0 → List.length v0_1.fields ≤ i0 → Qm0 p0 (Qk7 p0 i0 v0_1) (Q6k p0 r0 i0 v0_1)
 | [], i0, v0_1, hd, ho0_0 => by
  have hc0 : (decide ((i0 : Int) < ((List.length p0) : Int))) = false := by have := Q1i hd; simp; omega
  rw [Q6k]
  exact Q11t p0 H i0 v0_1 ho0_0 hc0
 | x0 :: r0, i0, v0_1, hd, ho0_0 => by
  obtain ⟨hx0, hi0, hd'⟩ := Q17 hd
  have hc0 : (decide ((i0 : Int) < ((List.length p0) : Int))) = true := by simp; omega
  rw [Q6k]
  exact Qmt p0 (fun r hr => Qzz p0 H x0 i0 v0_1 hx0 hi0 ho0_0 hc0 hr) _ (Qt1 p0 H r0 (i0 + 1) (Val.mk v0_1.kind v0_1.n v0_1.s v0_1.list (s_Kv v0_1.fields (Fld.mk x0.name (s_Kj x0.v)))) hd' ((H.2.2.2.1 i0 v0_1 x0 hx0 ho0_0)))
def s_Km (p0 : List Fld) : Val :=
 (Q6k p0 p0 0 (Val.mk 5 0 (⟨#[]⟩ : ByteArray) [] []))
def c_Km (p0 : List Fld) : En := .call 47 [.sl (Fld.rows p0)] []
def a_Km (p0 : List Fld) : Rs := .ret (.agg (Val.cells (s_Km p0))) []
def H_Km (p0 : List Fld) : Prop := (Ql6 p0) ∧ (List.length (Val.mk 5 0 (⟨#[]⟩ : ByteArray) [] []).fields ≤ 0) ∧ True
theorem t_Km (p0 : List Fld) (H : H_Km p0) : Q7 G (c_Km p0) (a_Km p0) := by
 unfold a_Km s_Km
 have hl0 := Qt1 p0 (H.1) p0 0 (Val.mk 5 0 (⟨#[]⟩ : ByteArray) [] []) (by simp) (H.2.1)
 obtain ⟨z0, zo0, hl0⟩ := hl0
 exact Q9 (fn := Ir.Km) rfl VOK.nil [] [aN hl0] (by kernel_rfl)
def Qvq (p0 : List Val) : Val :=
 (Val.mk 4 0 (⟨#[]⟩ : ByteArray) p0 [])
def Q15o (p0 : List Val) : En := .call 40 [.sl (Val.rows p0)] []
def Q160 (p0 : List Val) : Rs := .ret (.agg (Val.cells (Qvq p0))) []
def Q14h (p0 : List Val) : Prop := (Qdr (Val.mk 4 0 (⟨#[]⟩ : ByteArray) p0 [])) ∧ True
theorem Q183 (p0 : List Val) (H : Q14h p0) : Q7 G (Q15o p0) (Q160 p0) := by
 unfold Q160 Qvq
 exact Q9 (fn := Ir.K1l) rfl VOK.nil [] [aN (Q12c (Val.mk 4 0 (⟨#[]⟩ : ByteArray) p0 []) H.1)] (by kernel_rfl)
end Go.Proofs.Ytnhhddbbppbblaa
end

section
/- What building a map computes (printed by a program). -/
namespace Go.Proofs.Ytnhhddbbppbblaa
open Go.Pv
def Q27 (p0 : Fld) (p1 : Fld) : Int :=
 (Q14k p0.name p1.name)
def Q18p (p0 : Fld) (p1 : Fld) : En := .call 43 [.agg (Fld.cells p0), .agg (Fld.cells p1)] []
def Q164 (p0 : Fld) (p1 : Fld) : Rs := .ret (.int .i64 (Q27 p0 p1)) []
theorem Qoo (p0 : Fld) (p1 : Fld) : Q7 G (Q18p p0 p1) (Q164 p0 p1) := by
 unfold Q164 Q27
 exact Q9 (fn := Ir.K1n) rfl VOK.nil [] [aN (Q18h p0.name p1.name)] (by kernel_rfl)
def Q29 (n0 : Nat) (p1 : Int) (p2 : Int) (v0_0 : Int) : Nat → (List Fld) → Int → List Fld
 | 0, v1_0, _v1_1 => v1_0
 | k1 + 1, v1_0, v1_1 =>
  bif (decide (p1 < v1_1)) then
   bif (decide ((Q27 (List.getD v1_0 (Int.toNat v1_1) zF) (List.getD v1_0 (Int.toNat (v1_1 - 1)) zF)) < 0)) then
    Q29 n0 p1 p2 v0_0 k1 (List.set (List.set v1_0 (Int.toNat v1_1) (List.getD v1_0 (Int.toNat (v1_1 - 1)) zF)) (Int.toNat (v1_1 - 1)) (List.getD v1_0 (Int.toNat v1_1) zF)) (v1_1 - 1)
   else
    v1_0
  else
   v1_0
def Qq3 (n0 : Nat) (p1 : Int) (p2 : Int) (v0_0 : Int) (_v1_0 : List Fld) (v1_1 : Int) : List PV :=
  [.ms 0 6 0 n0, .int .i64 p1, .int .i64 p2, .fn 43 [] [], .un, .un, .un, .un, .int .i64 v0_0, .int .i64 v1_1, .un, .un, .un, .un, .un, .un, .un, .un, .un, .un, .un, .un, .un, .un, .un, .un, .un, .un, .un, .un, .un, .un, .un, .un, .un, .un, .un, .un, .un, .un, .un, .un, .un, .un, .un, .un, .un, .un, .un, .un, .un, .un, .un]
def Qej (_n0 : Nat) (_p1 : Int) (_p2 : Int) (_v0_0 : Int) (v1_0 : List Fld) (_v1_1 : Int) : List Ob :=
  [⟨6, 0, false, (Fld.rows v1_0).flatten⟩]
def Q6r (n0 : Nat) (p1 : Int) (p2 : Int) (v0_0 : Int) (v1_0 : List Fld) (v1_1 : Int) : En := .loop 1 Ir.Qcj Ir.Q13n (Qq3 n0 p1 p2 v0_0 v1_0 v1_1) (Qej n0 p1 p2 v0_0 v1_0 v1_1)
def Q74 (n0 : Nat) (p1 : Int) (p2 : Int) (v0_0 : Int) (q0 : List Fld) (z : Nat → PV) (_zo : Nat → List PV) : St :=
  ⟨[.ms 0 6 0 n0, .int .i64 p1, .int .i64 p2, .fn 43 [] [], z 4, z 5, z 6, z 7, .int .i64 v0_0, z 9, z 10, z 11, z 12, z 13, z 14, z 15, z 16, z 17, z 18, z 19, z 20, z 21, z 22, z 23, z 24, z 25, z 26, z 27, z 28, z 29, z 30, z 31, z 32, z 33, z 34, z 35, z 36, z 37, z 38, z 39, z 40, z 41, z 42, z 43, z 44, z 45, z 46, z 47, z 48, z 49, z 50, z 51, z 52], [(0, ⟨6, 0, false, (Fld.rows q0).flatten⟩)], 1089⟩
theorem Qm4 (n0 : Nat) (p1 : Int) (p2 : Int) (v0_0 : Int) (v1_0 : List Fld) (v1_1 : Int) : VOK (Go.Pv.look (number 0 (Qej n0 p1 p2 v0_0 v1_0 v1_1))) [(0, Fld.rows v1_0)] := (VOK.cons (show Seen _ _ from Q3r (ob := ⟨6, 0, false, (Fld.rows v1_0).flatten⟩) (Fld.Q5 v1_0 6 rfl)) VOK.nil)
def Q81 (n0 : Nat) (p1 : Int) (p2 : Int) (v0_0 : Int) (e : En) (q : List Fld) : Prop := ∃ z zo, Q7 G e (.st (.exit 2) (Q74 n0 p1 p2 v0_0 q z zo))
theorem Ql4 (n0 : Nat) (p1 : Int) (p2 : Int) (v0_0 : Int) {e e' : En} (h : ∀ r, Q7 G e r → Q7 G e' r) : ∀ q, Q81 n0 p1 p2 v0_0 e q → Q81 n0 p1 p2 v0_0 e' q
  | _, ⟨z, zo, hz⟩ => ⟨z, zo, h _ hz⟩
theorem Qx0 (n0 : Nat) (p1 : Int) (p2 : Int) (v0_0 : Int) (v1_0 : List Fld) (v1_1 : Int) (ho1_0 : 0 ≤ p1) (_ho1_1 : p1 ≤ v1_1) (ho1_2 : v1_1 < n0) (ho1_3 : (n0 : Int) ≤ 1152921504606846976) (ho1_4 : List.length v1_0 = n0) (h0 : (decide (p1 < v1_1)) = true) (h1 : (decide ((Q27 (List.getD v1_0 (Int.toNat v1_1) zF) (List.getD v1_0 (Int.toNat (v1_1 - 1)) zF)) < 0)) = true) {r : Rs} (hr : Q7 G (Q6r n0 p1 p2 v0_0 (List.set (List.set v1_0 (Int.toNat v1_1) (List.getD v1_0 (Int.toNat (v1_1 - 1)) zF)) (Int.toNat (v1_1 - 1)) (List.getD v1_0 (Int.toNat v1_1) zF)) (v1_1 - 1)) r) : Q7 G (Q6r n0 p1 p2 v0_0 v1_0 v1_1) r := by
 have e0 := of_decide_eq_true h0; have e1 := of_decide_eq_true h1
 exact Q8 (Qm4 n0 p1 p2 v0_0 v1_0 v1_1) (y := (Qq3 n0 p1 p2 v0_0 (List.set (List.set v1_0 (Int.toNat v1_1) (List.getD v1_0 (Int.toNat (v1_1 - 1)) zF)) (Int.toNat (v1_1 - 1)) (List.getD v1_0 (Int.toNat v1_1) zF)) (v1_1 - 1), Qej n0 p1 p2 v0_0 (List.set (List.set v1_0 (Int.toNat v1_1) (List.getD v1_0 (Int.toNat (v1_1 - 1)) zF)) (Int.toNat (v1_1 - 1)) (List.getD v1_0 (Int.toNat v1_1) zF)) (v1_1 - 1))) [hB 2 h0, hP 4 (Q1l 0 6 n0 v1_1 (Int.toNat v1_1) rfl (by omega) (by omega)), hP 0 (Q30 0 6 0 false ((Fld.rows v1_0).flatten) (Fld.rows v1_0) 6 true (Int.toNat v1_1) 0 ((Int.toNat v1_1) * 6) (Fld.cells (List.getD v1_0 (Int.toNat v1_1) zF)) (.agg [.str (List.getD v1_0 (Int.toNat v1_1) zF).name, .int .i64 (List.getD v1_0 (Int.toNat v1_1) zF).v.kind, .int .i64 (List.getD v1_0 (Int.toNat v1_1) zF).v.n, .str (List.getD v1_0 (Int.toNat v1_1) zF).v.s, .sl (Val.rows (List.getD v1_0 (Int.toNat v1_1) zF).v.list), .sl (Fld.rows (List.getD v1_0 (Int.toNat v1_1) zF).v.fields)]) rfl rfl (Fld.Qf (Qv v1_0 (Int.toNat v1_1) zF (by omega))) (Fld.Ql v1_0) (by decide) rfl), hP 2 (w_ok (v1_1 - 1) (by omega)), hP 0 (Q1l 0 6 n0 (v1_1 - 1) (Int.toNat (v1_1 - 1)) rfl (by omega) (by omega)), hP 0 (Q30 0 6 0 false ((Fld.rows v1_0).flatten) (Fld.rows v1_0) 6 true (Int.toNat (v1_1 - 1)) 0 ((Int.toNat (v1_1 - 1)) * 6) (Fld.cells (List.getD v1_0 (Int.toNat (v1_1 - 1)) zF)) (.agg [.str (List.getD v1_0 (Int.toNat (v1_1 - 1)) zF).name, .int .i64 (List.getD v1_0 (Int.toNat (v1_1 - 1)) zF).v.kind, .int .i64 (List.getD v1_0 (Int.toNat (v1_1 - 1)) zF).v.n, .str (List.getD v1_0 (Int.toNat (v1_1 - 1)) zF).v.s, .sl (Val.rows (List.getD v1_0 (Int.toNat (v1_1 - 1)) zF).v.list), .sl (Fld.rows (List.getD v1_0 (Int.toNat (v1_1 - 1)) zF).v.fields)]) rfl rfl (Fld.Qf (Qv v1_0 (Int.toNat (v1_1 - 1)) zF (by omega))) (Fld.Ql v1_0) (by decide) rfl), hB 1 h1, hP 5 (w_ok (v1_1 - 1) (by omega)), hP 2 (w_ok (v1_1 - 1) (by omega)), hP 0 (Q1l 0 6 n0 (v1_1 - 1) (Int.toNat (v1_1 - 1)) rfl (by omega) (by omega)), hP 0 (Q30 0 6 0 false ((Fld.rows v1_0).flatten) (Fld.rows v1_0) 6 true (Int.toNat (v1_1 - 1)) 0 ((Int.toNat (v1_1 - 1)) * 6) (Fld.cells (List.getD v1_0 (Int.toNat (v1_1 - 1)) zF)) (.agg [.str (List.getD v1_0 (Int.toNat (v1_1 - 1)) zF).name, .int .i64 (List.getD v1_0 (Int.toNat (v1_1 - 1)) zF).v.kind, .int .i64 (List.getD v1_0 (Int.toNat (v1_1 - 1)) zF).v.n, .str (List.getD v1_0 (Int.toNat (v1_1 - 1)) zF).v.s, .sl (Val.rows (List.getD v1_0 (Int.toNat (v1_1 - 1)) zF).v.list), .sl (Fld.rows (List.getD v1_0 (Int.toNat (v1_1 - 1)) zF).v.fields)]) rfl rfl (Fld.Qf (Qv v1_0 (Int.toNat (v1_1 - 1)) zF (by omega))) (Fld.Ql v1_0) (by decide) rfl), hP 2 (Q1l 0 6 n0 v1_1 (Int.toNat v1_1) rfl (by omega) (by omega)), hP 0 (Q30 0 6 0 false ((Fld.rows v1_0).flatten) (Fld.rows v1_0) 6 true (Int.toNat v1_1) 0 ((Int.toNat v1_1) * 6) (Fld.cells (List.getD v1_0 (Int.toNat v1_1) zF)) (.agg [.str (List.getD v1_0 (Int.toNat v1_1) zF).name, .int .i64 (List.getD v1_0 (Int.toNat v1_1) zF).v.kind, .int .i64 (List.getD v1_0 (Int.toNat v1_1) zF).v.n, .str (List.getD v1_0 (Int.toNat v1_1) zF).v.s, .sl (Val.rows (List.getD v1_0 (Int.toNat v1_1) zF).v.list), .sl (Fld.rows (List.getD v1_0 (Int.toNat v1_1) zF).v.fields)]) rfl rfl (Fld.Qf (Qv v1_0 (Int.toNat v1_1) zF (by omega))) (Fld.Ql v1_0) (by decide) rfl), hP 0 (Q1l 0 6 n0 v1_1 (Int.toNat v1_1) rfl (by omega) (by omega)), hV 0 [(0, Fld.rows (List.set v1_0 (Int.toNat v1_1) (List.getD v1_0 (Int.toNat (v1_1 - 1)) zF)))] (Qf4 0 6 false ((Fld.rows v1_0).flatten) (Fld.rows v1_0) (Fld.rows (List.set v1_0 (Int.toNat v1_1) (List.getD v1_0 (Int.toNat (v1_1 - 1)) zF))) 6 (Int.toNat v1_1) 0 ((Int.toNat v1_1) * 6) _ (.agg [.str (List.getD v1_0 (Int.toNat (v1_1 - 1)) zF).name, .int .i64 (List.getD v1_0 (Int.toNat (v1_1 - 1)) zF).v.kind, .int .i64 (List.getD v1_0 (Int.toNat (v1_1 - 1)) zF).v.n, .str (List.getD v1_0 (Int.toNat (v1_1 - 1)) zF).v.s, .sl (Val.rows (List.getD v1_0 (Int.toNat (v1_1 - 1)) zF).v.list), .sl (Fld.rows (List.getD v1_0 (Int.toNat (v1_1 - 1)) zF).v.fields)]) rfl rfl (Fld.Qf (Qv v1_0 (Int.toNat v1_1) zF (by omega))) (Fld.Ql v1_0) (by decide) rfl rfl (Fld.Q4b v1_0 (Int.toNat v1_1) (List.getD v1_0 (Int.toNat (v1_1 - 1)) zF))), hS 0 false (Fld.Q5 (List.set v1_0 (Int.toNat v1_1) (List.getD v1_0 (Int.toNat (v1_1 - 1)) zF)) 6 rfl), hP 0 (Q1l 0 6 n0 (v1_1 - 1) (Int.toNat (v1_1 - 1)) rfl (by have f0 := (Qp ho1_4 (Int.toNat v1_1) (List.getD v1_0 (Int.toNat (v1_1 - 1)) zF)); omega) (by have f0 := (Qp ho1_4 (Int.toNat v1_1) (List.getD v1_0 (Int.toNat (v1_1 - 1)) zF)); omega)), hV 0 [(0, Fld.rows (List.set (List.set v1_0 (Int.toNat v1_1) (List.getD v1_0 (Int.toNat (v1_1 - 1)) zF)) (Int.toNat (v1_1 - 1)) (List.getD v1_0 (Int.toNat v1_1) zF)))] (Qf4 0 6 false ((Fld.rows (List.set v1_0 (Int.toNat v1_1) (List.getD v1_0 (Int.toNat (v1_1 - 1)) zF))).flatten) (Fld.rows (List.set v1_0 (Int.toNat v1_1) (List.getD v1_0 (Int.toNat (v1_1 - 1)) zF))) (Fld.rows (List.set (List.set v1_0 (Int.toNat v1_1) (List.getD v1_0 (Int.toNat (v1_1 - 1)) zF)) (Int.toNat (v1_1 - 1)) (List.getD v1_0 (Int.toNat v1_1) zF))) 6 (Int.toNat (v1_1 - 1)) 0 ((Int.toNat (v1_1 - 1)) * 6) _ (.agg [.str (List.getD v1_0 (Int.toNat v1_1) zF).name, .int .i64 (List.getD v1_0 (Int.toNat v1_1) zF).v.kind, .int .i64 (List.getD v1_0 (Int.toNat v1_1) zF).v.n, .str (List.getD v1_0 (Int.toNat v1_1) zF).v.s, .sl (Val.rows (List.getD v1_0 (Int.toNat v1_1) zF).v.list), .sl (Fld.rows (List.getD v1_0 (Int.toNat v1_1) zF).v.fields)]) rfl rfl (Fld.Qf (Qv (List.set v1_0 (Int.toNat v1_1) (List.getD v1_0 (Int.toNat (v1_1 - 1)) zF)) (Int.toNat (v1_1 - 1)) zF (by have f0 := (Qp ho1_4 (Int.toNat v1_1) (List.getD v1_0 (Int.toNat (v1_1 - 1)) zF)); try simp only [List.length_set]; omega))) (Fld.Ql (List.set v1_0 (Int.toNat v1_1) (List.getD v1_0 (Int.toNat (v1_1 - 1)) zF))) (by decide) rfl rfl (Fld.Q4b (List.set v1_0 (Int.toNat v1_1) (List.getD v1_0 (Int.toNat (v1_1 - 1)) zF)) (Int.toNat (v1_1 - 1)) (List.getD v1_0 (Int.toNat v1_1) zF))), hS 0 false (Fld.Q5 (List.set (List.set v1_0 (Int.toNat v1_1) (List.getD v1_0 (Int.toNat (v1_1 - 1)) zF)) (Int.toNat (v1_1 - 1)) (List.getD v1_0 (Int.toNat v1_1) zF)) 6 rfl), hP 1 (w_ok (v1_1 - 1) (by have f0 := (Qp (Qp ho1_4 (Int.toNat v1_1) (List.getD v1_0 (Int.toNat (v1_1 - 1)) zF)) (Int.toNat (v1_1 - 1)) (List.getD v1_0 (Int.toNat v1_1) zF)); omega))] [aN (Qoo (List.getD v1_0 (Int.toNat v1_1) zF) (List.getD v1_0 (Int.toNat (v1_1 - 1)) zF))] (by kernel_rfl) hr
def Qgj (n0 : Nat) (p1 : Int) (_p2 : Int) (_v0_0 : Int) (v1_0 : List Fld) (v1_1 : Int) : List PV :=
  [.un, .un, .un, .un, .un, .un, .un, .un, .un, .int .i64 v1_1, .un, .un, .un, .un, .un, .un, .un, .un, .int .i64 v1_1, .int .i64 p1, .bool true, .bool true, .fn 43 [] [], .ms 0 6 0 n0, .int .i64 v1_1, .bx 0 ((Int.toNat v1_1) * 6), .agg [.str (List.getD v1_0 (Int.toNat v1_1) zF).name, .int .i64 (List.getD v1_0 (Int.toNat v1_1) zF).v.kind, .int .i64 (List.getD v1_0 (Int.toNat v1_1) zF).v.n, .str (List.getD v1_0 (Int.toNat v1_1) zF).v.s, .sl (Val.rows (List.getD v1_0 (Int.toNat v1_1) zF).v.list), .sl (Fld.rows (List.getD v1_0 (Int.toNat v1_1) zF).v.fields)], .ms 0 6 0 n0, .int .i64 v1_1, .int .i64 (v1_1 - 1), .bx 0 ((Int.toNat (v1_1 - 1)) * 6), .agg [.str (List.getD v1_0 (Int.toNat (v1_1 - 1)) zF).name, .int .i64 (List.getD v1_0 (Int.toNat (v1_1 - 1)) zF).v.kind, .int .i64 (List.getD v1_0 (Int.toNat (v1_1 - 1)) zF).v.n, .str (List.getD v1_0 (Int.toNat (v1_1 - 1)) zF).v.s, .sl (Val.rows (List.getD v1_0 (Int.toNat (v1_1 - 1)) zF).v.list), .sl (Fld.rows (List.getD v1_0 (Int.toNat (v1_1 - 1)) zF).v.fields)], .int .i64 (Q27 (List.getD v1_0 (Int.toNat v1_1) zF) (List.getD v1_0 (Int.toNat (v1_1 - 1)) zF)), .bool false, .bool false]
def Qfm (_n0 : Nat) (_p1 : Int) (_p2 : Int) (_v0_0 : Int) (_v1_0 : List Fld) (_v1_1 : Int) : List (Nat × List PV) :=
  []
theorem Qvt (n0 : Nat) (p1 : Int) (p2 : Int) (v0_0 : Int) (v1_0 : List Fld) (v1_1 : Int) (ho1_0 : 0 ≤ p1) (_ho1_1 : p1 ≤ v1_1) (ho1_2 : v1_1 < n0) (ho1_3 : (n0 : Int) ≤ 1152921504606846976) (ho1_4 : List.length v1_0 = n0) (h0 : (decide (p1 < v1_1)) = true) (h1 : (decide ((Q27 (List.getD v1_0 (Int.toNat v1_1) zF) (List.getD v1_0 (Int.toNat (v1_1 - 1)) zF)) < 0)) = false) : Q81 n0 p1 p2 v0_0 (Q6r n0 p1 p2 v0_0 v1_0 v1_1) v1_0 := by
 have e0 := of_decide_eq_true h0; have e1 := of_decide_eq_false h1
 exact ⟨(envF (Qgj n0 p1 p2 v0_0 v1_0 v1_1)), (zoF (Qfm n0 p1 p2 v0_0 v1_0 v1_1)), Qe (Qm4 n0 p1 p2 v0_0 v1_0 v1_1) (x := ((.exit 2), Q74 n0 p1 p2 v0_0 v1_0 (envF (Qgj n0 p1 p2 v0_0 v1_0 v1_1)) (zoF (Qfm n0 p1 p2 v0_0 v1_0 v1_1)))) [hB 2 h0, hP 4 (Q1l 0 6 n0 v1_1 (Int.toNat v1_1) rfl (by omega) (by omega)), hP 0 (Q30 0 6 0 false ((Fld.rows v1_0).flatten) (Fld.rows v1_0) 6 true (Int.toNat v1_1) 0 ((Int.toNat v1_1) * 6) (Fld.cells (List.getD v1_0 (Int.toNat v1_1) zF)) (.agg [.str (List.getD v1_0 (Int.toNat v1_1) zF).name, .int .i64 (List.getD v1_0 (Int.toNat v1_1) zF).v.kind, .int .i64 (List.getD v1_0 (Int.toNat v1_1) zF).v.n, .str (List.getD v1_0 (Int.toNat v1_1) zF).v.s, .sl (Val.rows (List.getD v1_0 (Int.toNat v1_1) zF).v.list), .sl (Fld.rows (List.getD v1_0 (Int.toNat v1_1) zF).v.fields)]) rfl rfl (Fld.Qf (Qv v1_0 (Int.toNat v1_1) zF (by omega))) (Fld.Ql v1_0) (by decide) rfl), hP 2 (w_ok (v1_1 - 1) (by omega)), hP 0 (Q1l 0 6 n0 (v1_1 - 1) (Int.toNat (v1_1 - 1)) rfl (by omega) (by omega)), hP 0 (Q30 0 6 0 false ((Fld.rows v1_0).flatten) (Fld.rows v1_0) 6 true (Int.toNat (v1_1 - 1)) 0 ((Int.toNat (v1_1 - 1)) * 6) (Fld.cells (List.getD v1_0 (Int.toNat (v1_1 - 1)) zF)) (.agg [.str (List.getD v1_0 (Int.toNat (v1_1 - 1)) zF).name, .int .i64 (List.getD v1_0 (Int.toNat (v1_1 - 1)) zF).v.kind, .int .i64 (List.getD v1_0 (Int.toNat (v1_1 - 1)) zF).v.n, .str (List.getD v1_0 (Int.toNat (v1_1 - 1)) zF).v.s, .sl (Val.rows (List.getD v1_0 (Int.toNat (v1_1 - 1)) zF).v.list), .sl (Fld.rows (List.getD v1_0 (Int.toNat (v1_1 - 1)) zF).v.fields)]) rfl rfl (Fld.Qf (Qv v1_0 (Int.toNat (v1_1 - 1)) zF (by omega))) (Fld.Ql v1_0) (by decide) rfl), hB 1 h1] [aN (Qoo (List.getD v1_0 (Int.toNat v1_1) zF) (List.getD v1_0 (Int.toNat (v1_1 - 1)) zF))] (by kernel_rfl)⟩
def Qi6 (_n0 : Nat) (p1 : Int) (_p2 : Int) (_v0_0 : Int) (_v1_0 : List Fld) (v1_1 : Int) : List PV :=
  [.un, .un, .un, .un, .un, .un, .un, .un, .un, .int .i64 v1_1, .un, .un, .un, .un, .un, .un, .un, .un, .int .i64 v1_1, .int .i64 p1, .bool false, .bool false, .tup [], .tup [], .tup [], .tup [], .tup [], .tup [], .tup [], .tup [], .tup [], .tup [], .tup [], .tup [], .bool false]
def Qg5 (_n0 : Nat) (_p1 : Int) (_p2 : Int) (_v0_0 : Int) (_v1_0 : List Fld) (_v1_1 : Int) : List (Nat × List PV) :=
  []
theorem Qx9 (n0 : Nat) (p1 : Int) (p2 : Int) (v0_0 : Int) (v1_0 : List Fld) (v1_1 : Int) (_ho1_0 : 0 ≤ p1) (_ho1_1 : p1 ≤ v1_1) (_ho1_2 : v1_1 < n0) (_ho1_3 : (n0 : Int) ≤ 1152921504606846976) (_ho1_4 : List.length v1_0 = n0) (h0 : (decide (p1 < v1_1)) = false) : Q81 n0 p1 p2 v0_0 (Q6r n0 p1 p2 v0_0 v1_0 v1_1) v1_0 := by
 exact ⟨(envF (Qi6 n0 p1 p2 v0_0 v1_0 v1_1)), (zoF (Qg5 n0 p1 p2 v0_0 v1_0 v1_1)), Qe (Qm4 n0 p1 p2 v0_0 v1_0 v1_1) (x := ((.exit 2), Q74 n0 p1 p2 v0_0 v1_0 (envF (Qi6 n0 p1 p2 v0_0 v1_0 v1_1)) (zoF (Qg5 n0 p1 p2 v0_0 v1_0 v1_1)))) [hB 2 h0] [] (by kernel_rfl)⟩
theorem Qns (n0 : Nat) (p1 : Int) (p2 : Int) (v0_0 : Int) : ∀ (k1 : Nat) (v1_0 : List Fld) (v1_1 : Int), 0 ≤ p1 → p1 ≤ v1_1 → v1_1 < n0 → (n0 : Int) ≤ 1152921504606846976 → List.length v1_0 = n0 → Int.toNat v1_1 < k1 → Q81 n0 p1 p2 v0_0 (Q6r n0 p1 p2 v0_0 v1_0 v1_1) (Q29 n0 p1 p2 v0_0 k1 v1_0 v1_1)
 | 0, v1_0, v1_1, _, _, _, _, _, hm => absurd hm (Nat.not_lt_zero _)
 | k1 + 1, v1_0, v1_1, ho1_0, ho1_1, ho1_2, ho1_3, ho1_4, hm => by
  rw [Q29]
  cases h0 : (decide (p1 < v1_1)) with
  | true =>
   have e0 := of_decide_eq_true h0
   cases h1 : (decide ((Q27 (List.getD v1_0 (Int.toNat v1_1) zF) (List.getD v1_0 (Int.toNat (v1_1 - 1)) zF)) < 0)) with
   | true =>
    have e1 := of_decide_eq_true h1
    exact Ql4 n0 p1 p2 v0_0 (fun r hr => Qx0 n0 p1 p2 v0_0 v1_0 v1_1 ho1_0 ho1_1 ho1_2 ho1_3 ho1_4 h0 h1 hr) _ (Qns n0 p1 p2 v0_0 k1 (List.set (List.set v1_0 (Int.toNat v1_1) (List.getD v1_0 (Int.toNat (v1_1 - 1)) zF)) (Int.toNat (v1_1 - 1)) (List.getD v1_0 (Int.toNat v1_1) zF)) (v1_1 - 1) (by have f0 := (Qp (Qp ho1_4 (Int.toNat v1_1) (List.getD v1_0 (Int.toNat (v1_1 - 1)) zF)) (Int.toNat (v1_1 - 1)) (List.getD v1_0 (Int.toNat v1_1) zF)); omega) (by have f0 := (Qp (Qp ho1_4 (Int.toNat v1_1) (List.getD v1_0 (Int.toNat (v1_1 - 1)) zF)) (Int.toNat (v1_1 - 1)) (List.getD v1_0 (Int.toNat v1_1) zF)); omega) (by have f0 := (Qp (Qp ho1_4 (Int.toNat v1_1) (List.getD v1_0 (Int.toNat (v1_1 - 1)) zF)) (Int.toNat (v1_1 - 1)) (List.getD v1_0 (Int.toNat v1_1) zF)); omega) (by have f0 := (Qp (Qp ho1_4 (Int.toNat v1_1) (List.getD v1_0 (Int.toNat (v1_1 - 1)) zF)) (Int.toNat (v1_1 - 1)) (List.getD v1_0 (Int.toNat v1_1) zF)); omega) (Qp (Qp ho1_4 (Int.toNat v1_1) (List.getD v1_0 (Int.toNat (v1_1 - 1)) zF)) (Int.toNat (v1_1 - 1)) (List.getD v1_0 (Int.toNat v1_1) zF)) (by have f0 := (Qp (Qp ho1_4 (Int.toNat v1_1) (List.getD v1_0 (Int.toNat (v1_1 - 1)) zF)) (Int.toNat (v1_1 - 1)) (List.getD v1_0 (Int.toNat v1_1) zF)); omega))
   | false =>
    exact Qvt n0 p1 p2 v0_0 v1_0 v1_1 ho1_0 ho1_1 ho1_2 ho1_3 ho1_4 h0 h1
  | false =>
   exact Qx9 n0 p1 p2 v0_0 v1_0 v1_1 ho1_0 ho1_1 ho1_2 ho1_3 ho1_4 h0
theorem Q2g (n0 : Nat) (p1 : Int) (p2 : Int) (v0_0 : Int) : ∀ (k1 : Nat) (v1_0 : List Fld) (v1_1 : Int), List.length v1_0 = n0 → List.length (Q29 n0 p1 p2 v0_0 k1 v1_0 v1_1) = n0
 | 0, v1_0, v1_1, ho1_4 => by rw [Q29]; exact ho1_4
 | k1 + 1, v1_0, v1_1, ho1_4 => by
  rw [Q29]
  cases h0 : (decide (p1 < v1_1)) with
  | true =>
   cases h1 : (decide ((Q27 (List.getD v1_0 (Int.toNat v1_1) zF) (List.getD v1_0 (Int.toNat (v1_1 - 1)) zF)) < 0)) with
   | true =>
    exact Q2g n0 p1 p2 v0_0 k1 (List.set (List.set v1_0 (Int.toNat v1_1) (List.getD v1_0 (Int.toNat (v1_1 - 1)) zF)) (Int.toNat (v1_1 - 1)) (List.getD v1_0 (Int.toNat v1_1) zF)) (v1_1 - 1) (Qp (Qp ho1_4 (Int.toNat v1_1) (List.getD v1_0 (Int.toNat (v1_1 - 1)) zF)) (Int.toNat (v1_1 - 1)) (List.getD v1_0 (Int.toNat v1_1) zF))
   | false =>
    exact ho1_4
  | false =>
   exact ho1_4
def Q2u (n0 : Nat) (p1 : Int) (p2 : Int) : Nat → Int → (List Fld) → List Fld
 | 0, _v0_0, v0_1 => v0_1
 | k0 + 1, v0_0, v0_1 =>
  bif (decide (v0_0 < p2)) then
   Q2u n0 p1 p2 k0 (v0_0 + 1) (Q29 n0 p1 p2 v0_0 ((Int.toNat v0_0) + 1) v0_1 v0_0)
  else
   v0_1
def Qmf (n0 : Nat) (p1 : Int) (p2 : Int) (v0_0 : Int) (_v0_1 : List Fld) : List PV :=
  [.ms 0 6 0 n0, .int .i64 p1, .int .i64 p2, .fn 43 [] [], .un, .un, .un, .un, .int .i64 v0_0, .un, .un, .un, .un, .un, .un, .un, .un, .un, .un, .un, .un, .un, .un, .un, .un, .un, .un, .un, .un, .un, .un, .un, .un, .un, .un, .un, .un, .un, .un, .un, .un, .un, .un, .un, .un, .un, .un, .un, .un, .un, .un, .un, .un]
def Qfg (_n0 : Nat) (_p1 : Int) (_p2 : Int) (_v0_0 : Int) (v0_1 : List Fld) : List Ob :=
  [⟨6, 0, false, (Fld.rows v0_1).flatten⟩]
def Qb1 (n0 : Nat) (p1 : Int) (p2 : Int) (v0_0 : Int) (v0_1 : List Fld) : En := .loop 1 Ir.Qcd Ir.Q13g (Qmf n0 p1 p2 v0_0 v0_1) (Qfg n0 p1 p2 v0_0 v0_1)
def Qjm (_n0 : Nat) (_p1 : Int) (_p2 : Int) (q0 : List Fld) (z : Nat → PV) (_zo : Nat → List PV) : St :=
  ⟨[z 0, z 1, z 2, z 3, z 4, z 5, z 6, z 7, z 8, z 9, z 10, z 11, z 12, z 13, z 14, z 15, z 16, z 17, z 18, z 19, z 20, z 21, z 22, z 23, z 24, z 25, z 26, z 27, z 28, z 29, z 30, z 31, z 32, z 33, z 34, z 35, z 36, z 37, z 38, z 39, z 40, z 41, z 42, z 43, z 44, z 45, z 46, z 47, z 48, z 49, z 50, z 51, z 52], [(0, ⟨6, 0, false, (Fld.rows q0).flatten⟩)], 193⟩
theorem Qtx (n0 : Nat) (p1 : Int) (p2 : Int) (v0_0 : Int) (v0_1 : List Fld) : VOK (Go.Pv.look (number 0 (Qfg n0 p1 p2 v0_0 v0_1))) [(0, Fld.rows v0_1)] := (VOK.cons (show Seen _ _ from Q3r (ob := ⟨6, 0, false, (Fld.rows v0_1).flatten⟩) (Fld.Q5 v0_1 6 rfl)) VOK.nil)
def Qbs (n0 : Nat) (p1 : Int) (p2 : Int) (e : En) (q : List Fld) : Prop := ∃ z zo, Q7 G e (.st (.exit 0) (Qjm n0 p1 p2 q z zo))
theorem Qlo (n0 : Nat) (p1 : Int) (p2 : Int) {e e' : En} (h : ∀ r, Q7 G e r → Q7 G e' r) : ∀ q, Qbs n0 p1 p2 e q → Qbs n0 p1 p2 e' q
  | _, ⟨z, zo, hz⟩ => ⟨z, zo, h _ hz⟩
theorem Qw9 (n0 : Nat) (p1 : Int) (p2 : Int) (v0_0 : Int) (v0_1 : List Fld) (ho0_0 : 0 ≤ p1) (ho0_1 : p1 < v0_0) (ho0_2 : p2 ≤ n0) (ho0_3 : (n0 : Int) ≤ 1152921504606846976) (ho0_4 : List.length v0_1 = n0) (h0 : (decide (v0_0 < p2)) = true) (z1 : Nat → PV) (zo1 : Nat → List PV) (hl1 : Q7 G (Q6r n0 p1 p2 v0_0 v0_1 v0_0) (.st (.exit 2) (Q74 n0 p1 p2 v0_0 (Q29 n0 p1 p2 v0_0 ((Int.toNat v0_0) + 1) v0_1 v0_0) z1 zo1))) {r : Rs} (hr : Q7 G (Qb1 n0 p1 p2 (v0_0 + 1) (Q29 n0 p1 p2 v0_0 ((Int.toNat v0_0) + 1) v0_1 v0_0)) r) : Q7 G (Qb1 n0 p1 p2 v0_0 v0_1) r := by
 have e0 := of_decide_eq_true h0
 exact Q8 (Qtx n0 p1 p2 v0_0 v0_1) (y := (Qmf n0 p1 p2 (v0_0 + 1) (Q29 n0 p1 p2 v0_0 ((Int.toNat v0_0) + 1) v0_1 v0_0), Qfg n0 p1 p2 (v0_0 + 1) (Q29 n0 p1 p2 v0_0 ((Int.toNat v0_0) + 1) v0_1 v0_0))) [hB 2 h0, hS 0 false (Fld.Q5 (Q29 n0 p1 p2 v0_0 ((Int.toNat v0_0) + 1) v0_1 v0_0) 6 rfl), hP 3 (w_ok (v0_0 + 1) (by have f0 := (Q2g n0 p1 p2 v0_0 ((Int.toNat v0_0) + 1) v0_1 v0_0 ho0_4); omega))] [aV [(0, Fld.rows (Q29 n0 p1 p2 v0_0 ((Int.toNat v0_0) + 1) v0_1 v0_0))] hl1] (by kernel_rfl) hr
def Qh2 (n0 : Nat) (p1 : Int) (p2 : Int) (v0_0 : Int) (_v0_1 : List Fld) : List PV :=
  [.ms 0 6 0 n0, .int .i64 p1, .int .i64 p2, .fn 43 [] [], .un, .un, .un, .un, .int .i64 v0_0, .un, .un, .un, .int .i64 v0_0, .int .i64 p2, .bool false]
def Qdc (_n0 : Nat) (_p1 : Int) (_p2 : Int) (_v0_0 : Int) (_v0_1 : List Fld) : List (Nat × List PV) :=
  []
theorem Qvf (n0 : Nat) (p1 : Int) (p2 : Int) (v0_0 : Int) (v0_1 : List Fld) (_ho0_0 : 0 ≤ p1) (_ho0_1 : p1 < v0_0) (_ho0_2 : p2 ≤ n0) (_ho0_3 : (n0 : Int) ≤ 1152921504606846976) (_ho0_4 : List.length v0_1 = n0) (h0 : (decide (v0_0 < p2)) = false) : Qbs n0 p1 p2 (Qb1 n0 p1 p2 v0_0 v0_1) v0_1 := by
 exact ⟨(envF (Qh2 n0 p1 p2 v0_0 v0_1)), (zoF (Qdc n0 p1 p2 v0_0 v0_1)), Qe (Qtx n0 p1 p2 v0_0 v0_1) (x := ((.exit 0), Qjm n0 p1 p2 v0_1 (envF (Qh2 n0 p1 p2 v0_0 v0_1)) (zoF (Qdc n0 p1 p2 v0_0 v0_1)))) [hB 2 h0] [] (by kernel_rfl)⟩
theorem Qnp (n0 : Nat) (p1 : Int) (p2 : Int) : ∀ (k0 : Nat) (v0_0 : Int) (v0_1 : List Fld), 0 ≤ p1 → p1 < v0_0 → p2 ≤ n0 → (n0 : Int) ≤ 1152921504606846976 → List.length v0_1 = n0 → Int.toNat (p2 - v0_0) < k0 → Qbs n0 p1 p2 (Qb1 n0 p1 p2 v0_0 v0_1) (Q2u n0 p1 p2 k0 v0_0 v0_1)
 | 0, v0_0, v0_1, _, _, _, _, _, hm => absurd hm (Nat.not_lt_zero _)
 | k0 + 1, v0_0, v0_1, ho0_0, ho0_1, ho0_2, ho0_3, ho0_4, hm => by
  rw [Q2u]
  cases h0 : (decide (v0_0 < p2)) with
  | true =>
   have e0 := of_decide_eq_true h0
   have hl1 := Qns n0 p1 p2 v0_0 ((Int.toNat v0_0) + 1) v0_1 v0_0 (by omega) (by omega) (by omega) (by omega) ho0_4 (by omega)
   obtain ⟨z1, zo1, hl1⟩ := hl1
   exact Qlo n0 p1 p2 (fun r hr => Qw9 n0 p1 p2 v0_0 v0_1 ho0_0 ho0_1 ho0_2 ho0_3 ho0_4 h0 z1 zo1 hl1 hr) _ (Qnp n0 p1 p2 k0 (v0_0 + 1) (Q29 n0 p1 p2 v0_0 ((Int.toNat v0_0) + 1) v0_1 v0_0) (by have f0 := (Q2g n0 p1 p2 v0_0 ((Int.toNat v0_0) + 1) v0_1 v0_0 ho0_4); omega) (by have f0 := (Q2g n0 p1 p2 v0_0 ((Int.toNat v0_0) + 1) v0_1 v0_0 ho0_4); omega) (by have f0 := (Q2g n0 p1 p2 v0_0 ((Int.toNat v0_0) + 1) v0_1 v0_0 ho0_4); omega) (by have f0 := (Q2g n0 p1 p2 v0_0 ((Int.toNat v0_0) + 1) v0_1 v0_0 ho0_4); omega) (Q2g n0 p1 p2 v0_0 ((Int.toNat v0_0) + 1) v0_1 v0_0 ho0_4) (by have f0 := (Q2g n0 p1 p2 v0_0 ((Int.toNat v0_0) + 1) v0_1 v0_0 ho0_4); omega))
  | false =>
   exact Qvf n0 p1 p2 v0_0 v0_1 ho0_0 ho0_1 ho0_2 ho0_3 ho0_4 h0
theorem Q7f (n0 : Nat) (p1 : Int) (p2 : Int) : ∀ (k0 : Nat) (v0_0 : Int) (v0_1 : List Fld), List.length v0_1 = n0 → List.length (Q2u n0 p1 p2 k0 v0_0 v0_1) = n0
 | 0, v0_0, v0_1, ho0_4 => by rw [Q2u]; exact ho0_4
 | k0 + 1, v0_0, v0_1, ho0_4 => by
  rw [Q2u]
  cases h0 : (decide (v0_0 < p2)) with
  | true =>
   exact Q7f n0 p1 p2 k0 (v0_0 + 1) (Q29 n0 p1 p2 v0_0 ((Int.toNat v0_0) + 1) v0_1 v0_0) (Q2g n0 p1 p2 v0_0 ((Int.toNat v0_0) + 1) v0_1 v0_0 ho0_4)
  | false =>
   exact ho0_4
def Q1c (n0 : Nat) (p0 : List Fld) (p1 : Int) (p2 : Int) : List Fld :=
 (Q2u n0 p1 p2 ((Int.toNat (p2 - (p1 + 1))) + 1) (p1 + 1) p0)
def Q10s (n0 : Nat) (p0 : List Fld) (p1 : Int) (p2 : Int) : En := .call 66 [.ms 0 6 0 n0, .int .i64 p1, .int .i64 p2, .fn 43 [] []] [⟨6, 0, false, (Fld.rows p0).flatten⟩]
def Qqf (n0 : Nat) (p0 : List Fld) (p1 : Int) (p2 : Int) : Rs := .ret (.tup []) [⟨6, 0, false, (Fld.rows (Q1c n0 p0 p1 p2)).flatten⟩]
theorem Qt (n0 : Nat) (p0 : List Fld) (p1 : Int) (p2 : Int) (hn : List.length p0 = n0) : List.length (Q1c n0 p0 p1 p2) = n0 := by
 unfold Q1c
 have hz0_0 : List.length (Q2u n0 p1 p2 ((Int.toNat (p2 - (p1 + 1))) + 1) (p1 + 1) p0) = n0 := Q7f n0 p1 p2 ((Int.toNat (p2 - (p1 + 1))) + 1) (p1 + 1) p0 hn
 obtain ⟨R0, eR0⟩ : ∃ R, (Q2u n0 p1 p2 ((Int.toNat (p2 - (p1 + 1))) + 1) (p1 + 1) p0) = R := ⟨_, rfl⟩
 rw [eR0] at hz0_0 ⊢
 exact hz0_0
theorem Qqh (n0 : Nat) (p0 : List Fld) (p1 : Int) (p2 : Int) (hn : List.length p0 = n0) (hq0 : 0 ≤ p1 ∧ p1 ≤ p2 ∧ p2 ≤ n0 ∧ (n0 : Int) ≤ 1152921504606846976) : Q7 G (Q10s n0 p0 p1 p2) (Qqf n0 p0 p1 p2) := by
 unfold Qqf Q1c
 have hl0 := Qnp n0 p1 p2 ((Int.toNat (p2 - (p1 + 1))) + 1) (p1 + 1) p0 (by omega) (by omega) (by omega) (by omega) hn (by omega)
 have hz0_0 : List.length (Q2u n0 p1 p2 ((Int.toNat (p2 - (p1 + 1))) + 1) (p1 + 1) p0) = n0 := Q7f n0 p1 p2 ((Int.toNat (p2 - (p1 + 1))) + 1) (p1 + 1) p0 hn
 obtain ⟨R0, eR0⟩ : ∃ R, (Q2u n0 p1 p2 ((Int.toNat (p2 - (p1 + 1))) + 1) (p1 + 1) p0) = R := ⟨_, rfl⟩
 rw [eR0] at hz0_0 hl0 ⊢
 obtain ⟨z0, zo0, hl0⟩ := hl0
 exact Q9 (fn := Ir.K1b) rfl (vk1 (Fld.Q5 p0 6 rfl)) [hP 1 (w_ok (p1 + 1) (by omega)), hS 0 false (Fld.Q5 R0 6 rfl)] [aV [(0, Fld.rows R0)] hl0] (by kernel_rfl)
def Q2v (n0 : Nat) (p1 : Int) (p2 : Int) (p3 : Int) : Nat → (List Fld) → Int → List Fld
 | 0, v0_0, _v0_1 => v0_0
 | k0 + 1, v0_0, v0_1 =>
  bif (decide (v0_1 < p3)) then
   Q2v n0 p1 p2 p3 k0 (List.set (List.set v0_0 (Int.toNat (p1 + v0_1)) (List.getD v0_0 (Int.toNat (p2 + v0_1)) zF)) (Int.toNat (p2 + v0_1)) (List.getD v0_0 (Int.toNat (p1 + v0_1)) zF)) (v0_1 + 1)
  else
   v0_0
def Qn4 (n0 : Nat) (p1 : Int) (p2 : Int) (p3 : Int) (_v0_0 : List Fld) (v0_1 : Int) : List PV :=
  [.ms 0 6 0 n0, .int .i64 p1, .int .i64 p2, .int .i64 p3, .un, .un, .un, .un, .un, .un, .int .i64 v0_1, .un, .un, .un, .un, .un, .un, .un, .un, .un, .un, .un, .un, .un, .un, .un, .un, .un, .un, .un, .un, .un, .un, .un, .un, .un, .un, .un]
def Qg2 (_n0 : Nat) (_p1 : Int) (_p2 : Int) (_p3 : Int) (v0_0 : List Fld) (_v0_1 : Int) : List Ob :=
  [⟨6, 0, false, (Fld.rows v0_0).flatten⟩]
def Qax (n0 : Nat) (p1 : Int) (p2 : Int) (p3 : Int) (v0_0 : List Fld) (v0_1 : Int) : En := .loop 1 Ir.Qer Ir.Q13e (Qn4 n0 p1 p2 p3 v0_0 v0_1) (Qg2 n0 p1 p2 p3 v0_0 v0_1)
def Qif (_n0 : Nat) (_p1 : Int) (_p2 : Int) (_p3 : Int) (q0 : List Fld) (z : Nat → PV) (_zo : Nat → List PV) : St :=
  ⟨[z 0, z 1, z 2, z 3, z 4, z 5, z 6, z 7, z 8, z 9, z 10, z 11, z 12, z 13, z 14, z 15, z 16, z 17, z 18, z 19, z 20, z 21, z 22, z 23, z 24, z 25, z 26, z 27, z 28, z 29, z 30, z 31, z 32, z 33, z 34, z 35, z 36, z 37], [(0, ⟨6, 0, false, (Fld.rows q0).flatten⟩)], 193⟩
theorem Qtq (n0 : Nat) (p1 : Int) (p2 : Int) (p3 : Int) (v0_0 : List Fld) (v0_1 : Int) : VOK (Go.Pv.look (number 0 (Qg2 n0 p1 p2 p3 v0_0 v0_1))) [(0, Fld.rows v0_0)] := (VOK.cons (show Seen _ _ from Q3r (ob := ⟨6, 0, false, (Fld.rows v0_0).flatten⟩) (Fld.Q5 v0_0 6 rfl)) VOK.nil)
def Qb7 (n0 : Nat) (p1 : Int) (p2 : Int) (p3 : Int) (e : En) (q : List Fld) : Prop := ∃ z zo, Q7 G e (.st (.exit 0) (Qif n0 p1 p2 p3 q z zo))
theorem Ql5 (n0 : Nat) (p1 : Int) (p2 : Int) (p3 : Int) {e e' : En} (h : ∀ r, Q7 G e r → Q7 G e' r) : ∀ q, Qb7 n0 p1 p2 p3 e q → Qb7 n0 p1 p2 p3 e' q
  | _, ⟨z, zo, hz⟩ => ⟨z, zo, h _ hz⟩
theorem Quc (n0 : Nat) (p1 : Int) (p2 : Int) (p3 : Int) (v0_0 : List Fld) (v0_1 : Int) (ho0_0 : 0 ≤ v0_1) (ho0_1 : 0 ≤ p1) (ho0_2 : 0 ≤ p2) (ho0_3 : p1 + p3 ≤ n0) (ho0_4 : p2 + p3 ≤ n0) (ho0_5 : (n0 : Int) ≤ 1152921504606846976) (ho0_6 : List.length v0_0 = n0) (h0 : (decide (v0_1 < p3)) = true) {r : Rs} (hr : Q7 G (Qax n0 p1 p2 p3 (List.set (List.set v0_0 (Int.toNat (p1 + v0_1)) (List.getD v0_0 (Int.toNat (p2 + v0_1)) zF)) (Int.toNat (p2 + v0_1)) (List.getD v0_0 (Int.toNat (p1 + v0_1)) zF)) (v0_1 + 1)) r) : Q7 G (Qax n0 p1 p2 p3 v0_0 v0_1) r := by
 have e0 := of_decide_eq_true h0
 exact Q8 (Qtq n0 p1 p2 p3 v0_0 v0_1) (y := (Qn4 n0 p1 p2 p3 (List.set (List.set v0_0 (Int.toNat (p1 + v0_1)) (List.getD v0_0 (Int.toNat (p2 + v0_1)) zF)) (Int.toNat (p2 + v0_1)) (List.getD v0_0 (Int.toNat (p1 + v0_1)) zF)) (v0_1 + 1), Qg2 n0 p1 p2 p3 (List.set (List.set v0_0 (Int.toNat (p1 + v0_1)) (List.getD v0_0 (Int.toNat (p2 + v0_1)) zF)) (Int.toNat (p2 + v0_1)) (List.getD v0_0 (Int.toNat (p1 + v0_1)) zF)) (v0_1 + 1))) [hB 2 h0, hP 3 (w_ok (p1 + v0_1) (by omega)), hP 3 (w_ok (p2 + v0_1) (by omega)), hP 3 (w_ok (p2 + v0_1) (by omega)), hP 0 (Q1l 0 6 n0 (p2 + v0_1) (Int.toNat (p2 + v0_1)) rfl (by omega) (by omega)), hP 0 (Q30 0 6 0 false ((Fld.rows v0_0).flatten) (Fld.rows v0_0) 6 true (Int.toNat (p2 + v0_1)) 0 ((Int.toNat (p2 + v0_1)) * 6) (Fld.cells (List.getD v0_0 (Int.toNat (p2 + v0_1)) zF)) (.agg [.str (List.getD v0_0 (Int.toNat (p2 + v0_1)) zF).name, .int .i64 (List.getD v0_0 (Int.toNat (p2 + v0_1)) zF).v.kind, .int .i64 (List.getD v0_0 (Int.toNat (p2 + v0_1)) zF).v.n, .str (List.getD v0_0 (Int.toNat (p2 + v0_1)) zF).v.s, .sl (Val.rows (List.getD v0_0 (Int.toNat (p2 + v0_1)) zF).v.list), .sl (Fld.rows (List.getD v0_0 (Int.toNat (p2 + v0_1)) zF).v.fields)]) rfl rfl (Fld.Qf (Qv v0_0 (Int.toNat (p2 + v0_1)) zF (by omega))) (Fld.Ql v0_0) (by decide) rfl), hP 3 (w_ok (p1 + v0_1) (by omega)), hP 0 (Q1l 0 6 n0 (p1 + v0_1) (Int.toNat (p1 + v0_1)) rfl (by omega) (by omega)), hP 0 (Q30 0 6 0 false ((Fld.rows v0_0).flatten) (Fld.rows v0_0) 6 true (Int.toNat (p1 + v0_1)) 0 ((Int.toNat (p1 + v0_1)) * 6) (Fld.cells (List.getD v0_0 (Int.toNat (p1 + v0_1)) zF)) (.agg [.str (List.getD v0_0 (Int.toNat (p1 + v0_1)) zF).name, .int .i64 (List.getD v0_0 (Int.toNat (p1 + v0_1)) zF).v.kind, .int .i64 (List.getD v0_0 (Int.toNat (p1 + v0_1)) zF).v.n, .str (List.getD v0_0 (Int.toNat (p1 + v0_1)) zF).v.s, .sl (Val.rows (List.getD v0_0 (Int.toNat (p1 + v0_1)) zF).v.list), .sl (Fld.rows (List.getD v0_0 (Int.toNat (p1 + v0_1)) zF).v.fields)]) rfl rfl (Fld.Qf (Qv v0_0 (Int.toNat (p1 + v0_1)) zF (by omega))) (Fld.Ql v0_0) (by decide) rfl), hP 0 (Q1l 0 6 n0 (p1 + v0_1) (Int.toNat (p1 + v0_1)) rfl (by omega) (by omega)), hV 0 [(0, Fld.rows (List.set v0_0 (Int.toNat (p1 + v0_1)) (List.getD v0_0 (Int.toNat (p2 + v0_1)) zF)))] (Qf4 0 6 false ((Fld.rows v0_0).flatten) (Fld.rows v0_0) (Fld.rows (List.set v0_0 (Int.toNat (p1 + v0_1)) (List.getD v0_0 (Int.toNat (p2 + v0_1)) zF))) 6 (Int.toNat (p1 + v0_1)) 0 ((Int.toNat (p1 + v0_1)) * 6) _ (.agg [.str (List.getD v0_0 (Int.toNat (p2 + v0_1)) zF).name, .int .i64 (List.getD v0_0 (Int.toNat (p2 + v0_1)) zF).v.kind, .int .i64 (List.getD v0_0 (Int.toNat (p2 + v0_1)) zF).v.n, .str (List.getD v0_0 (Int.toNat (p2 + v0_1)) zF).v.s, .sl (Val.rows (List.getD v0_0 (Int.toNat (p2 + v0_1)) zF).v.list), .sl (Fld.rows (List.getD v0_0 (Int.toNat (p2 + v0_1)) zF).v.fields)]) rfl rfl (Fld.Qf (Qv v0_0 (Int.toNat (p1 + v0_1)) zF (by omega))) (Fld.Ql v0_0) (by decide) rfl rfl (Fld.Q4b v0_0 (Int.toNat (p1 + v0_1)) (List.getD v0_0 (Int.toNat (p2 + v0_1)) zF))), hS 0 false (Fld.Q5 (List.set v0_0 (Int.toNat (p1 + v0_1)) (List.getD v0_0 (Int.toNat (p2 + v0_1)) zF)) 6 rfl), hP 0 (Q1l 0 6 n0 (p2 + v0_1) (Int.toNat (p2 + v0_1)) rfl (by have f0 := (Qp ho0_6 (Int.toNat (p1 + v0_1)) (List.getD v0_0 (Int.toNat (p2 + v0_1)) zF)); omega) (by have f0 := (Qp ho0_6 (Int.toNat (p1 + v0_1)) (List.getD v0_0 (Int.toNat (p2 + v0_1)) zF)); omega)), hV 0 [(0, Fld.rows (List.set (List.set v0_0 (Int.toNat (p1 + v0_1)) (List.getD v0_0 (Int.toNat (p2 + v0_1)) zF)) (Int.toNat (p2 + v0_1)) (List.getD v0_0 (Int.toNat (p1 + v0_1)) zF)))] (Qf4 0 6 false ((Fld.rows (List.set v0_0 (Int.toNat (p1 + v0_1)) (List.getD v0_0 (Int.toNat (p2 + v0_1)) zF))).flatten) (Fld.rows (List.set v0_0 (Int.toNat (p1 + v0_1)) (List.getD v0_0 (Int.toNat (p2 + v0_1)) zF))) (Fld.rows (List.set (List.set v0_0 (Int.toNat (p1 + v0_1)) (List.getD v0_0 (Int.toNat (p2 + v0_1)) zF)) (Int.toNat (p2 + v0_1)) (List.getD v0_0 (Int.toNat (p1 + v0_1)) zF))) 6 (Int.toNat (p2 + v0_1)) 0 ((Int.toNat (p2 + v0_1)) * 6) _ (.agg [.str (List.getD v0_0 (Int.toNat (p1 + v0_1)) zF).name, .int .i64 (List.getD v0_0 (Int.toNat (p1 + v0_1)) zF).v.kind, .int .i64 (List.getD v0_0 (Int.toNat (p1 + v0_1)) zF).v.n, .str (List.getD v0_0 (Int.toNat (p1 + v0_1)) zF).v.s, .sl (Val.rows (List.getD v0_0 (Int.toNat (p1 + v0_1)) zF).v.list), .sl (Fld.rows (List.getD v0_0 (Int.toNat (p1 + v0_1)) zF).v.fields)]) rfl rfl (Fld.Qf (Qv (List.set v0_0 (Int.toNat (p1 + v0_1)) (List.getD v0_0 (Int.toNat (p2 + v0_1)) zF)) (Int.toNat (p2 + v0_1)) zF (by have f0 := (Qp ho0_6 (Int.toNat (p1 + v0_1)) (List.getD v0_0 (Int.toNat (p2 + v0_1)) zF)); try simp only [List.length_set]; omega))) (Fld.Ql (List.set v0_0 (Int.toNat (p1 + v0_1)) (List.getD v0_0 (Int.toNat (p2 + v0_1)) zF))) (by decide) rfl rfl (Fld.Q4b (List.set v0_0 (Int.toNat (p1 + v0_1)) (List.getD v0_0 (Int.toNat (p2 + v0_1)) zF)) (Int.toNat (p2 + v0_1)) (List.getD v0_0 (Int.toNat (p1 + v0_1)) zF))), hS 0 false (Fld.Q5 (List.set (List.set v0_0 (Int.toNat (p1 + v0_1)) (List.getD v0_0 (Int.toNat (p2 + v0_1)) zF)) (Int.toNat (p2 + v0_1)) (List.getD v0_0 (Int.toNat (p1 + v0_1)) zF)) 6 rfl), hP 1 (w_ok (v0_1 + 1) (by have f0 := (Qp (Qp ho0_6 (Int.toNat (p1 + v0_1)) (List.getD v0_0 (Int.toNat (p2 + v0_1)) zF)) (Int.toNat (p2 + v0_1)) (List.getD v0_0 (Int.toNat (p1 + v0_1)) zF)); omega))] [] (by kernel_rfl) hr
def Qh9 (n0 : Nat) (p1 : Int) (p2 : Int) (p3 : Int) (_v0_0 : List Fld) (v0_1 : Int) : List PV :=
  [.ms 0 6 0 n0, .int .i64 p1, .int .i64 p2, .int .i64 p3, .un, .un, .un, .un, .un, .un, .int .i64 v0_1, .int .i64 v0_1, .int .i64 p3, .bool false]
def Qdq (_n0 : Nat) (_p1 : Int) (_p2 : Int) (_p3 : Int) (_v0_0 : List Fld) (_v0_1 : Int) : List (Nat × List PV) :=
  []
theorem Qxe (n0 : Nat) (p1 : Int) (p2 : Int) (p3 : Int) (v0_0 : List Fld) (v0_1 : Int) (_ho0_0 : 0 ≤ v0_1) (_ho0_1 : 0 ≤ p1) (_ho0_2 : 0 ≤ p2) (_ho0_3 : p1 + p3 ≤ n0) (_ho0_4 : p2 + p3 ≤ n0) (_ho0_5 : (n0 : Int) ≤ 1152921504606846976) (_ho0_6 : List.length v0_0 = n0) (h0 : (decide (v0_1 < p3)) = false) : Qb7 n0 p1 p2 p3 (Qax n0 p1 p2 p3 v0_0 v0_1) v0_0 := by
 exact ⟨(envF (Qh9 n0 p1 p2 p3 v0_0 v0_1)), (zoF (Qdq n0 p1 p2 p3 v0_0 v0_1)), Qe (Qtq n0 p1 p2 p3 v0_0 v0_1) (x := ((.exit 0), Qif n0 p1 p2 p3 v0_0 (envF (Qh9 n0 p1 p2 p3 v0_0 v0_1)) (zoF (Qdq n0 p1 p2 p3 v0_0 v0_1)))) [hB 2 h0] [] (by kernel_rfl)⟩
theorem Qpj (n0 : Nat) (p1 : Int) (p2 : Int) (p3 : Int) : ∀ (k0 : Nat) (v0_0 : List Fld) (v0_1 : Int), 0 ≤ v0_1 → 0 ≤ p1 → 0 ≤ p2 → p1 + p3 ≤ n0 → p2 + p3 ≤ n0 → (n0 : Int) ≤ 1152921504606846976 → List.length v0_0 = n0 → Int.toNat (p3 - v0_1) < k0 → Qb7 n0 p1 p2 p3 (Qax n0 p1 p2 p3 v0_0 v0_1) (Q2v n0 p1 p2 p3 k0 v0_0 v0_1)
 | 0, v0_0, v0_1, _, _, _, _, _, _, _, hm => absurd hm (Nat.not_lt_zero _)
 | k0 + 1, v0_0, v0_1, ho0_0, ho0_1, ho0_2, ho0_3, ho0_4, ho0_5, ho0_6, hm => by
  rw [Q2v]
  cases h0 : (decide (v0_1 < p3)) with
  | true =>
   have e0 := of_decide_eq_true h0
   exact Ql5 n0 p1 p2 p3 (fun r hr => Quc n0 p1 p2 p3 v0_0 v0_1 ho0_0 ho0_1 ho0_2 ho0_3 ho0_4 ho0_5 ho0_6 h0 hr) _ (Qpj n0 p1 p2 p3 k0 (List.set (List.set v0_0 (Int.toNat (p1 + v0_1)) (List.getD v0_0 (Int.toNat (p2 + v0_1)) zF)) (Int.toNat (p2 + v0_1)) (List.getD v0_0 (Int.toNat (p1 + v0_1)) zF)) (v0_1 + 1) (by have f0 := (Qp (Qp ho0_6 (Int.toNat (p1 + v0_1)) (List.getD v0_0 (Int.toNat (p2 + v0_1)) zF)) (Int.toNat (p2 + v0_1)) (List.getD v0_0 (Int.toNat (p1 + v0_1)) zF)); omega) (by have f0 := (Qp (Qp ho0_6 (Int.toNat (p1 + v0_1)) (List.getD v0_0 (Int.toNat (p2 + v0_1)) zF)) (Int.toNat (p2 + v0_1)) (List.getD v0_0 (Int.toNat (p1 + v0_1)) zF)); omega) (by have f0 := (Qp (Qp ho0_6 (Int.toNat (p1 + v0_1)) (List.getD v0_0 (Int.toNat (p2 + v0_1)) zF)) (Int.toNat (p2 + v0_1)) (List.getD v0_0 (Int.toNat (p1 + v0_1)) zF)); omega) (by have f0 := (Qp (Qp ho0_6 (Int.toNat (p1 + v0_1)) (List.getD v0_0 (Int.toNat (p2 + v0_1)) zF)) (Int.toNat (p2 + v0_1)) (List.getD v0_0 (Int.toNat (p1 + v0_1)) zF)); omega) (by have f0 := (Qp (Qp ho0_6 (Int.toNat (p1 + v0_1)) (List.getD v0_0 (Int.toNat (p2 + v0_1)) zF)) (Int.toNat (p2 + v0_1)) (List.getD v0_0 (Int.toNat (p1 + v0_1)) zF)); omega) (by have f0 := (Qp (Qp ho0_6 (Int.toNat (p1 + v0_1)) (List.getD v0_0 (Int.toNat (p2 + v0_1)) zF)) (Int.toNat (p2 + v0_1)) (List.getD v0_0 (Int.toNat (p1 + v0_1)) zF)); omega) (Qp (Qp ho0_6 (Int.toNat (p1 + v0_1)) (List.getD v0_0 (Int.toNat (p2 + v0_1)) zF)) (Int.toNat (p2 + v0_1)) (List.getD v0_0 (Int.toNat (p1 + v0_1)) zF)) (by have f0 := (Qp (Qp ho0_6 (Int.toNat (p1 + v0_1)) (List.getD v0_0 (Int.toNat (p2 + v0_1)) zF)) (Int.toNat (p2 + v0_1)) (List.getD v0_0 (Int.toNat (p1 + v0_1)) zF)); omega))
  | false =>
   exact Qxe n0 p1 p2 p3 v0_0 v0_1 ho0_0 ho0_1 ho0_2 ho0_3 ho0_4 ho0_5 ho0_6 h0
theorem Q7s (n0 : Nat) (p1 : Int) (p2 : Int) (p3 : Int) : ∀ (k0 : Nat) (v0_0 : List Fld) (v0_1 : Int), List.length v0_0 = n0 → List.length (Q2v n0 p1 p2 p3 k0 v0_0 v0_1) = n0
 | 0, v0_0, v0_1, ho0_6 => by rw [Q2v]; exact ho0_6
 | k0 + 1, v0_0, v0_1, ho0_6 => by
  rw [Q2v]
  cases h0 : (decide (v0_1 < p3)) with
  | true =>
   exact Q7s n0 p1 p2 p3 k0 (List.set (List.set v0_0 (Int.toNat (p1 + v0_1)) (List.getD v0_0 (Int.toNat (p2 + v0_1)) zF)) (Int.toNat (p2 + v0_1)) (List.getD v0_0 (Int.toNat (p1 + v0_1)) zF)) (v0_1 + 1) (Qp (Qp ho0_6 (Int.toNat (p1 + v0_1)) (List.getD v0_0 (Int.toNat (p2 + v0_1)) zF)) (Int.toNat (p2 + v0_1)) (List.getD v0_0 (Int.toNat (p1 + v0_1)) zF))
  | false =>
   exact ho0_6
def Q18 (n0 : Nat) (p0 : List Fld) (p1 : Int) (p2 : Int) (p3 : Int) : List Fld :=
 (Q2v n0 p1 p2 p3 ((Int.toNat (p3 - 0)) + 1) p0 0)
def Q10y (n0 : Nat) (p0 : List Fld) (p1 : Int) (p2 : Int) (p3 : Int) : En := .call 72 [.ms 0 6 0 n0, .int .i64 p1, .int .i64 p2, .int .i64 p3, .fn 43 [] []] [⟨6, 0, false, (Fld.rows p0).flatten⟩]
def Qml (n0 : Nat) (p0 : List Fld) (p1 : Int) (p2 : Int) (p3 : Int) : Rs := .ret (.tup []) [⟨6, 0, false, (Fld.rows (Q18 n0 p0 p1 p2 p3)).flatten⟩]
theorem Qm (n0 : Nat) (p0 : List Fld) (p1 : Int) (p2 : Int) (p3 : Int) (hn : List.length p0 = n0) : List.length (Q18 n0 p0 p1 p2 p3) = n0 := by
 unfold Q18
 have hz0_0 : List.length (Q2v n0 p1 p2 p3 ((Int.toNat (p3 - 0)) + 1) p0 0) = n0 := Q7s n0 p1 p2 p3 ((Int.toNat (p3 - 0)) + 1) p0 0 hn
 obtain ⟨R0, eR0⟩ : ∃ R, (Q2v n0 p1 p2 p3 ((Int.toNat (p3 - 0)) + 1) p0 0) = R := ⟨_, rfl⟩
 rw [eR0] at hz0_0 ⊢
 exact hz0_0
theorem Qd7 (n0 : Nat) (p0 : List Fld) (p1 : Int) (p2 : Int) (p3 : Int) (hn : List.length p0 = n0) (hq0 : 0 ≤ p1 ∧ 0 ≤ p2 ∧ 0 ≤ p3 ∧ p1 + p3 ≤ n0 ∧ p2 + p3 ≤ n0 ∧ (n0 : Int) ≤ 1152921504606846976) : Q7 G (Q10y n0 p0 p1 p2 p3) (Qml n0 p0 p1 p2 p3) := by
 unfold Qml Q18
 have hl0 := Qpj n0 p1 p2 p3 ((Int.toNat (p3 - 0)) + 1) p0 0 (by omega) (by omega) (by omega) (by omega) (by omega) (by omega) hn (by omega)
 have hz0_0 : List.length (Q2v n0 p1 p2 p3 ((Int.toNat (p3 - 0)) + 1) p0 0) = n0 := Q7s n0 p1 p2 p3 ((Int.toNat (p3 - 0)) + 1) p0 0 hn
 obtain ⟨R0, eR0⟩ : ∃ R, (Q2v n0 p1 p2 p3 ((Int.toNat (p3 - 0)) + 1) p0 0) = R := ⟨_, rfl⟩
 rw [eR0] at hz0_0 hl0 ⊢
 obtain ⟨z0, zo0, hl0⟩ := hl0
 exact Q9 (fn := Ir.K1e) rfl (vk1 (Fld.Q5 p0 6 rfl)) [hS 0 false (Fld.Q5 R0 6 rfl)] [aV [(0, Fld.rows R0)] hl0] (by kernel_rfl)
def Q1q (n0 : Nat) (p2 : Int) : Nat → Int → Int → (List Fld) → (List Fld) × Int
 | 0, v0_0, _v0_1, v0_2 => (v0_2, v0_0)
 | k0 + 1, v0_0, v0_1, v0_2 =>
  bif (v0_0 == v0_1) then
   (v0_2, v0_0)
  else
   bif (decide (v0_1 < v0_0)) then
    Q1q n0 p2 k0 (v0_0 - v0_1) v0_1 (Q18 n0 v0_2 (p2 - v0_0) p2 v0_1)
   else
    Q1q n0 p2 k0 v0_0 (v0_1 - v0_0) (Q18 n0 v0_2 (p2 - v0_0) ((p2 + v0_1) - v0_0) v0_0)
def Qf3 (n0 : Nat) (p2 : Int) (v0_0 : Int) (v0_1 : Int) (_v0_2 : List Fld) : List PV :=
  [.ms 0 6 0 n0, .un, .int .i64 p2, .un, .fn 43 [] [], .un, .un, .un, .un, .un, .int .i64 v0_0, .int .i64 v0_1, .un, .un, .un, .un, .un, .un, .un, .un, .un, .un, .un, .un, .un, .un, .un, .un, .un, .un, .un, .un, .un, .un, .un, .un, .un, .un, .un, .un, .un, .un, .un, .un, .un, .un, .un, .un, .un, .un, .un, .un, .un, .un, .un, .un, .un, .un]
def Q87 (_n0 : Nat) (_p2 : Int) (_v0_0 : Int) (_v0_1 : Int) (v0_2 : List Fld) : List Ob :=
  [⟨6, 0, false, (Fld.rows v0_2).flatten⟩]
def Q6w (n0 : Nat) (p2 : Int) (v0_0 : Int) (v0_1 : Int) (v0_2 : List Fld) : En := .loop 1 Ir.Qfs Ir.Q13z (Qf3 n0 p2 v0_0 v0_1 v0_2) (Q87 n0 p2 v0_0 v0_1 v0_2)
def Qh8 (n0 : Nat) (p2 : Int) (q0 : List Fld) (q1 : Int) (z : Nat → PV) (_zo : Nat → List PV) : St :=
  ⟨[.ms 0 6 0 n0, z 1, .int .i64 p2, z 3, .fn 43 [] [], z 5, z 6, z 7, z 8, z 9, .int .i64 q1, z 11, z 12, z 13, z 14, z 15, z 16, z 17, z 18, z 19, z 20, z 21, z 22, z 23, z 24, z 25, z 26, z 27, z 28, z 29, z 30, z 31, z 32, z 33, z 34, z 35, z 36, z 37, z 38, z 39, z 40, z 41, z 42, z 43, z 44, z 45, z 46, z 47, z 48, z 49, z 50, z 51, z 52, z 53, z 54, z 55, z 56, z 57], [(0, ⟨6, 0, false, (Fld.rows q0).flatten⟩)], 193⟩
theorem Ql2 (n0 : Nat) (p2 : Int) (v0_0 : Int) (v0_1 : Int) (v0_2 : List Fld) : VOK (Go.Pv.look (number 0 (Q87 n0 p2 v0_0 v0_1 v0_2))) [(0, Fld.rows v0_2)] := (VOK.cons (show Seen _ _ from Q3r (ob := ⟨6, 0, false, (Fld.rows v0_2).flatten⟩) (Fld.Q5 v0_2 6 rfl)) VOK.nil)
def Qbj (n0 : Nat) (p2 : Int) (e : En) (q : (List Fld) × Int) : Prop := ∃ z zo, Q7 G e (.st (.exit 0) (Qh8 n0 p2 q.1 q.2 z zo))
theorem Q94 (n0 : Nat) (p2 : Int) {e e' : En} (h : ∀ r, Q7 G e r → Q7 G e' r) : ∀ q, Qbj n0 p2 e q → Qbj n0 p2 e' q
  | _, ⟨z, zo, hz⟩ => ⟨z, zo, h _ hz⟩
def Qgt (_n0 : Nat) (_p2 : Int) (v0_0 : Int) (v0_1 : Int) (_v0_2 : List Fld) : List PV :=
  [.un, .un, .un, .un, .un, .un, .un, .un, .un, .un, .un, .int .i64 v0_1, .un, .un, .un, .un, .un, .un, .int .i64 v0_0, .int .i64 v0_1, .bool false]
def Qc2 (_n0 : Nat) (_p2 : Int) (_v0_0 : Int) (_v0_1 : Int) (_v0_2 : List Fld) : List (Nat × List PV) :=
  []
theorem Qwp (n0 : Nat) (p2 : Int) (v0_0 : Int) (v0_1 : Int) (v0_2 : List Fld) (_ho0_0 : 0 < v0_0) (_ho0_1 : 0 < v0_1) (_ho0_2 : v0_0 ≤ p2) (_ho0_3 : p2 + v0_1 ≤ n0) (_ho0_4 : (n0 : Int) ≤ 1152921504606846976) (_ho0_5 : List.length v0_2 = n0) (h0 : (v0_0 == v0_1) = true) : Qbj n0 p2 (Q6w n0 p2 v0_0 v0_1 v0_2) (v0_2, v0_0) := by
 exact ⟨(envF (Qgt n0 p2 v0_0 v0_1 v0_2)), (zoF (Qc2 n0 p2 v0_0 v0_1 v0_2)), Qe (Ql2 n0 p2 v0_0 v0_1 v0_2) (x := ((.exit 0), Qh8 n0 p2 v0_2 v0_0 (envF (Qgt n0 p2 v0_0 v0_1 v0_2)) (zoF (Qc2 n0 p2 v0_0 v0_1 v0_2)))) [hP 2 (dec (!(v0_0 == v0_1)) false (by rw [h0]; rfl))] [] (by kernel_rfl)⟩
theorem Qv4 (n0 : Nat) (p2 : Int) (v0_0 : Int) (v0_1 : Int) (v0_2 : List Fld) (ho0_0 : 0 < v0_0) (ho0_1 : 0 < v0_1) (ho0_2 : v0_0 ≤ p2) (ho0_3 : p2 + v0_1 ≤ n0) (ho0_4 : (n0 : Int) ≤ 1152921504606846976) (ho0_5 : List.length v0_2 = n0) (h0 : (v0_0 == v0_1) = false) (h1 : (decide (v0_1 < v0_0)) = true) {r : Rs} (hr : Q7 G (Q6w n0 p2 (v0_0 - v0_1) v0_1 (Q18 n0 v0_2 (p2 - v0_0) p2 v0_1)) r) : Q7 G (Q6w n0 p2 v0_0 v0_1 v0_2) r := by
 have e0 := beq_eq_false_iff_ne.1 h0; have e1 := of_decide_eq_true h1
 exact Q8 (Ql2 n0 p2 v0_0 v0_1 v0_2) (y := (Qf3 n0 p2 (v0_0 - v0_1) v0_1 (Q18 n0 v0_2 (p2 - v0_0) p2 v0_1), Q87 n0 p2 (v0_0 - v0_1) v0_1 (Q18 n0 v0_2 (p2 - v0_0) p2 v0_1))) [hP 2 (dec (!(v0_0 == v0_1)) true (by rw [h0]; rfl)), hB 2 h1, hP 3 (w_ok (p2 - v0_0) (by omega)), hQ (Fld.Q5 (Q18 n0 v0_2 (p2 - v0_0) p2 v0_1) 6 rfl), hP 6 (w_ok (v0_0 - v0_1) (by have f0 := (Qm n0 v0_2 (p2 - v0_0) p2 v0_1 ho0_5); omega))] [aV [(0, Fld.rows (Q18 n0 v0_2 (p2 - v0_0) p2 v0_1))] (Qd7 n0 v0_2 (p2 - v0_0) p2 v0_1 ho0_5 (by omega))] (by kernel_rfl) hr
theorem Qvw (n0 : Nat) (p2 : Int) (v0_0 : Int) (v0_1 : Int) (v0_2 : List Fld) (ho0_0 : 0 < v0_0) (ho0_1 : 0 < v0_1) (ho0_2 : v0_0 ≤ p2) (ho0_3 : p2 + v0_1 ≤ n0) (ho0_4 : (n0 : Int) ≤ 1152921504606846976) (ho0_5 : List.length v0_2 = n0) (h0 : (v0_0 == v0_1) = false) (h1 : (decide (v0_1 < v0_0)) = false) {r : Rs} (hr : Q7 G (Q6w n0 p2 v0_0 (v0_1 - v0_0) (Q18 n0 v0_2 (p2 - v0_0) ((p2 + v0_1) - v0_0) v0_0)) r) : Q7 G (Q6w n0 p2 v0_0 v0_1 v0_2) r := by
 have e0 := beq_eq_false_iff_ne.1 h0; have e1 := of_decide_eq_false h1
 exact Q8 (Ql2 n0 p2 v0_0 v0_1 v0_2) (y := (Qf3 n0 p2 v0_0 (v0_1 - v0_0) (Q18 n0 v0_2 (p2 - v0_0) ((p2 + v0_1) - v0_0) v0_0), Q87 n0 p2 v0_0 (v0_1 - v0_0) (Q18 n0 v0_2 (p2 - v0_0) ((p2 + v0_1) - v0_0) v0_0))) [hP 2 (dec (!(v0_0 == v0_1)) true (by rw [h0]; rfl)), hB 2 h1, hP 3 (w_ok (p2 - v0_0) (by omega)), hP 2 (w_ok (p2 + v0_1) (by omega)), hP 1 (w_ok ((p2 + v0_1) - v0_0) (by omega)), hQ (Fld.Q5 (Q18 n0 v0_2 (p2 - v0_0) ((p2 + v0_1) - v0_0) v0_0) 6 rfl), hP 5 (w_ok (v0_1 - v0_0) (by have f0 := (Qm n0 v0_2 (p2 - v0_0) ((p2 + v0_1) - v0_0) v0_0 ho0_5); omega))] [aV [(0, Fld.rows (Q18 n0 v0_2 (p2 - v0_0) ((p2 + v0_1) - v0_0) v0_0))] (Qd7 n0 v0_2 (p2 - v0_0) ((p2 + v0_1) - v0_0) v0_0 ho0_5 (by omega))] (by kernel_rfl) hr
theorem Qeu (n0 : Nat) (p2 : Int) : ∀ (k0 : Nat) (v0_0 : Int) (v0_1 : Int) (v0_2 : List Fld), 0 < v0_0 → 0 < v0_1 → v0_0 ≤ p2 → p2 + v0_1 ≤ n0 → (n0 : Int) ≤ 1152921504606846976 → List.length v0_2 = n0 → Int.toNat (v0_0 + v0_1) < k0 → Qbj n0 p2 (Q6w n0 p2 v0_0 v0_1 v0_2) (Q1q n0 p2 k0 v0_0 v0_1 v0_2)
 | 0, v0_0, v0_1, v0_2, _, _, _, _, _, _, hm => absurd hm (Nat.not_lt_zero _)
 | k0 + 1, v0_0, v0_1, v0_2, ho0_0, ho0_1, ho0_2, ho0_3, ho0_4, ho0_5, hm => by
  rw [Q1q]
  cases h0 : (v0_0 == v0_1) with
  | true =>
   exact Qwp n0 p2 v0_0 v0_1 v0_2 ho0_0 ho0_1 ho0_2 ho0_3 ho0_4 ho0_5 h0
  | false =>
   have e0 := beq_eq_false_iff_ne.1 h0
   cases h1 : (decide (v0_1 < v0_0)) with
   | true =>
    have e1 := of_decide_eq_true h1
    exact Q94 n0 p2 (fun r hr => Qv4 n0 p2 v0_0 v0_1 v0_2 ho0_0 ho0_1 ho0_2 ho0_3 ho0_4 ho0_5 h0 h1 hr) _ (Qeu n0 p2 k0 (v0_0 - v0_1) v0_1 (Q18 n0 v0_2 (p2 - v0_0) p2 v0_1) (by have f0 := (Qm n0 v0_2 (p2 - v0_0) p2 v0_1 ho0_5); omega) (by have f0 := (Qm n0 v0_2 (p2 - v0_0) p2 v0_1 ho0_5); omega) (by have f0 := (Qm n0 v0_2 (p2 - v0_0) p2 v0_1 ho0_5); omega) (by have f0 := (Qm n0 v0_2 (p2 - v0_0) p2 v0_1 ho0_5); omega) (by have f0 := (Qm n0 v0_2 (p2 - v0_0) p2 v0_1 ho0_5); omega) (Qm n0 v0_2 (p2 - v0_0) p2 v0_1 ho0_5) (by have f0 := (Qm n0 v0_2 (p2 - v0_0) p2 v0_1 ho0_5); omega))
   | false =>
    have e1 := of_decide_eq_false h1
    exact Q94 n0 p2 (fun r hr => Qvw n0 p2 v0_0 v0_1 v0_2 ho0_0 ho0_1 ho0_2 ho0_3 ho0_4 ho0_5 h0 h1 hr) _ (Qeu n0 p2 k0 v0_0 (v0_1 - v0_0) (Q18 n0 v0_2 (p2 - v0_0) ((p2 + v0_1) - v0_0) v0_0) (by have f0 := (Qm n0 v0_2 (p2 - v0_0) ((p2 + v0_1) - v0_0) v0_0 ho0_5); omega) (by have f0 := (Qm n0 v0_2 (p2 - v0_0) ((p2 + v0_1) - v0_0) v0_0 ho0_5); omega) (by have f0 := (Qm n0 v0_2 (p2 - v0_0) ((p2 + v0_1) - v0_0) v0_0 ho0_5); omega) (by have f0 := (Qm n0 v0_2 (p2 - v0_0) ((p2 + v0_1) - v0_0) v0_0 ho0_5); omega) (by have f0 := (Qm n0 v0_2 (p2 - v0_0) ((p2 + v0_1) - v0_0) v0_0 ho0_5); omega) (Qm n0 v0_2 (p2 - v0_0) ((p2 + v0_1) - v0_0) v0_0 ho0_5) (by have f0 := (Qm n0 v0_2 (p2 - v0_0) ((p2 + v0_1) - v0_0) v0_0 ho0_5); omega))
theorem Q5t (n0 : Nat) (p2 : Int) : ∀ (k0 : Nat) (v0_0 : Int) (v0_1 : Int) (v0_2 : List Fld), List.length v0_2 = n0 → List.length (Q1q n0 p2 k0 v0_0 v0_1 v0_2).1 = n0
 | 0, v0_0, v0_1, v0_2, ho0_5 => by rw [Q1q]; exact ho0_5
 | k0 + 1, v0_0, v0_1, v0_2, ho0_5 => by
  rw [Q1q]
  cases h0 : (v0_0 == v0_1) with
  | true =>
   exact ho0_5
  | false =>
   cases h1 : (decide (v0_1 < v0_0)) with
   | true =>
    exact Q5t n0 p2 k0 (v0_0 - v0_1) v0_1 (Q18 n0 v0_2 (p2 - v0_0) p2 v0_1) (Qm n0 v0_2 (p2 - v0_0) p2 v0_1 ho0_5)
   | false =>
    exact Q5t n0 p2 k0 v0_0 (v0_1 - v0_0) (Q18 n0 v0_2 (p2 - v0_0) ((p2 + v0_1) - v0_0) v0_0) (Qm n0 v0_2 (p2 - v0_0) ((p2 + v0_1) - v0_0) v0_0 ho0_5)
theorem Qdi (n0 : Nat) (p2 : Int) : ∀ (k0 : Nat) (v0_0 : Int) (v0_1 : Int) (v0_2 : List Fld), 0 < v0_0 → 0 < v0_1 → v0_0 ≤ p2 → p2 + v0_1 ≤ n0 → (n0 : Int) ≤ 1152921504606846976 → List.length v0_2 = n0 → Int.toNat (v0_0 + v0_1) < k0 → 0 < (Q1q n0 p2 k0 v0_0 v0_1 v0_2).2 ∧ (Q1q n0 p2 k0 v0_0 v0_1 v0_2).2 ≤ p2 ∧ p2 + (Q1q n0 p2 k0 v0_0 v0_1 v0_2).2 ≤ n0
 | 0, v0_0, v0_1, v0_2, _, _, _, _, _, _, hm => absurd hm (Nat.not_lt_zero _)
 | k0 + 1, v0_0, v0_1, v0_2, ho0_0, ho0_1, ho0_2, ho0_3, ho0_4, ho0_5, hm => by
  rw [Q1q]
  cases h0 : (v0_0 == v0_1) with
  | true =>
   have e0 := eq_of_beq h0
   exact (show 0 < v0_0 ∧ v0_0 ≤ p2 ∧ p2 + v0_0 ≤ n0 from ⟨(by omega), (by omega), (by omega)⟩)
  | false =>
   have e0 := beq_eq_false_iff_ne.1 h0
   cases h1 : (decide (v0_1 < v0_0)) with
   | true =>
    have e1 := of_decide_eq_true h1
    exact Qdi n0 p2 k0 (v0_0 - v0_1) v0_1 (Q18 n0 v0_2 (p2 - v0_0) p2 v0_1) (by have f0 := (Qm n0 v0_2 (p2 - v0_0) p2 v0_1 ho0_5); omega) (by have f0 := (Qm n0 v0_2 (p2 - v0_0) p2 v0_1 ho0_5); omega) (by have f0 := (Qm n0 v0_2 (p2 - v0_0) p2 v0_1 ho0_5); omega) (by have f0 := (Qm n0 v0_2 (p2 - v0_0) p2 v0_1 ho0_5); omega) (by have f0 := (Qm n0 v0_2 (p2 - v0_0) p2 v0_1 ho0_5); omega) (Qm n0 v0_2 (p2 - v0_0) p2 v0_1 ho0_5) (by have f0 := (Qm n0 v0_2 (p2 - v0_0) p2 v0_1 ho0_5); omega)
   | false =>
    have e1 := of_decide_eq_false h1
    exact Qdi n0 p2 k0 v0_0 (v0_1 - v0_0) (Q18 n0 v0_2 (p2 - v0_0) ((p2 + v0_1) - v0_0) v0_0) (by have f0 := (Qm n0 v0_2 (p2 - v0_0) ((p2 + v0_1) - v0_0) v0_0 ho0_5); omega) (by have f0 := (Qm n0 v0_2 (p2 - v0_0) ((p2 + v0_1) - v0_0) v0_0 ho0_5); omega) (by have f0 := (Qm n0 v0_2 (p2 - v0_0) ((p2 + v0_1) - v0_0) v0_0 ho0_5); omega) (by have f0 := (Qm n0 v0_2 (p2 - v0_0) ((p2 + v0_1) - v0_0) v0_0 ho0_5); omega) (by have f0 := (Qm n0 v0_2 (p2 - v0_0) ((p2 + v0_1) - v0_0) v0_0 ho0_5); omega) (Qm n0 v0_2 (p2 - v0_0) ((p2 + v0_1) - v0_0) v0_0 ho0_5) (by have f0 := (Qm n0 v0_2 (p2 - v0_0) ((p2 + v0_1) - v0_0) v0_0 ho0_5); omega)
def Qa (n0 : Nat) (p0 : List Fld) (p1 : Int) (p2 : Int) (p3 : Int) : List Fld :=
 (Q18 n0 (Q1q n0 p2 ((Int.toNat ((p2 - p1) + (p3 - p2))) + 1) (p2 - p1) (p3 - p2) p0).1 (p2 - (Q1q n0 p2 ((Int.toNat ((p2 - p1) + (p3 - p2))) + 1) (p2 - p1) (p3 - p2) p0).2) p2 (Q1q n0 p2 ((Int.toNat ((p2 - p1) + (p3 - p2))) + 1) (p2 - p1) (p3 - p2) p0).2)
def Qzx (n0 : Nat) (p0 : List Fld) (p1 : Int) (p2 : Int) (p3 : Int) : En := .call 71 [.ms 0 6 0 n0, .int .i64 p1, .int .i64 p2, .int .i64 p3, .fn 43 [] []] [⟨6, 0, false, (Fld.rows p0).flatten⟩]
def Qol (n0 : Nat) (p0 : List Fld) (p1 : Int) (p2 : Int) (p3 : Int) : Rs := .ret (.tup []) [⟨6, 0, false, (Fld.rows (Qa n0 p0 p1 p2 p3)).flatten⟩]
theorem Qg (n0 : Nat) (p0 : List Fld) (p1 : Int) (p2 : Int) (p3 : Int) (hn : List.length p0 = n0) : List.length (Qa n0 p0 p1 p2 p3) = n0 := by
 unfold Qa
 have hz0_0 : List.length (Q1q n0 p2 ((Int.toNat ((p2 - p1) + (p3 - p2))) + 1) (p2 - p1) (p3 - p2) p0).1 = n0 := Q5t n0 p2 ((Int.toNat ((p2 - p1) + (p3 - p2))) + 1) (p2 - p1) (p3 - p2) p0 hn
 obtain ⟨R1, eR1⟩ : ∃ R, (Q1q n0 p2 ((Int.toNat ((p2 - p1) + (p3 - p2))) + 1) (p2 - p1) (p3 - p2) p0) = R := ⟨_, rfl⟩
 rw [eR1] at hz0_0 ⊢
 exact (Qm n0 R1.1 (p2 - R1.2) p2 R1.2 hz0_0)
theorem Q1r (n0 : Nat) (p0 : List Fld) (p1 : Int) (p2 : Int) (p3 : Int) (hn : List.length p0 = n0) (hq0 : 0 ≤ p1 ∧ p1 < p2 ∧ p2 < p3 ∧ p3 ≤ n0 ∧ (n0 : Int) ≤ 1152921504606846976) : Q7 G (Qzx n0 p0 p1 p2 p3) (Qol n0 p0 p1 p2 p3) := by
 unfold Qol Qa
 have hl0 := Qeu n0 p2 ((Int.toNat ((p2 - p1) + (p3 - p2))) + 1) (p2 - p1) (p3 - p2) p0 (by omega) (by omega) (by omega) (by omega) (by omega) hn (by omega)
 have hz0_0 : List.length (Q1q n0 p2 ((Int.toNat ((p2 - p1) + (p3 - p2))) + 1) (p2 - p1) (p3 - p2) p0).1 = n0 := Q5t n0 p2 ((Int.toNat ((p2 - p1) + (p3 - p2))) + 1) (p2 - p1) (p3 - p2) p0 hn
 have hy0 : 0 < (Q1q n0 p2 ((Int.toNat ((p2 - p1) + (p3 - p2))) + 1) (p2 - p1) (p3 - p2) p0).2 ∧ (Q1q n0 p2 ((Int.toNat ((p2 - p1) + (p3 - p2))) + 1) (p2 - p1) (p3 - p2) p0).2 ≤ p2 ∧ p2 + (Q1q n0 p2 ((Int.toNat ((p2 - p1) + (p3 - p2))) + 1) (p2 - p1) (p3 - p2) p0).2 ≤ n0 := Qdi n0 p2 ((Int.toNat ((p2 - p1) + (p3 - p2))) + 1) (p2 - p1) (p3 - p2) p0 (by omega) (by omega) (by omega) (by omega) (by omega) hn (by omega)
 obtain ⟨R1, eR1⟩ : ∃ R, (Q1q n0 p2 ((Int.toNat ((p2 - p1) + (p3 - p2))) + 1) (p2 - p1) (p3 - p2) p0) = R := ⟨_, rfl⟩
 rw [eR1] at hz0_0 hy0 hl0 ⊢
 obtain ⟨z0, zo0, hl0⟩ := hl0
 exact Q9 (fn := Ir.K1c) rfl (vk1 (Fld.Q5 p0 6 rfl)) [hP 2 (w_ok (p2 - p1) (by omega)), hP 3 (w_ok (p3 - p2) (by omega)), hS 0 false (Fld.Q5 R1.1 6 rfl), hP 4 (w_ok (p2 - R1.2) (by have g0 := hy0; omega)), hQ (Fld.Q5 (Q18 n0 R1.1 (p2 - R1.2) p2 R1.2) 6 rfl)] [aV [(0, Fld.rows R1.1)] hl0, aV [(0, Fld.rows (Q18 n0 R1.1 (p2 - R1.2) p2 R1.2))] (Qd7 n0 R1.1 (p2 - R1.2) p2 R1.2 hz0_0 (by have g0 := hy0; omega))] (by kernel_rfl)
end Go.Proofs.Ytnhhddbbppbblaa
end

