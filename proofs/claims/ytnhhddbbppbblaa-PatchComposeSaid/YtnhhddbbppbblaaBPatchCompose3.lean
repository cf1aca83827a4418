/- Texts of the claim, merged by a program; what the statement does not reach is left out. -/
import Derived.Test.YtnhhddbbppbblaaBPatchCompose2
import Derived.KernelRfl
import Derived.OpenShut
import Derived.ChangeArms
import Derived.ChangeSlices
import Derived.ChangeOld
import Derived.Carry
import GoSem.ClaimJoined

section
/-
  Runs along a trace, over views: operations, regions, code, calls, loops' rounds.
-/
namespace Go.Pv
def Seen (o : Option Ob) (rows : List (List PV)) : Prop := ∃ ob, o = some ob ∧ ViewOK ob.sz ob.cells rows
theorem Q3r {ob : Ob} {rows : List (List PV)} (h : ViewOK ob.sz ob.cells rows) : Seen (some ob) rows := ⟨ob, rfl, h⟩
def putV (vw : Views) (cut : List Nat) (new : Views) : Views := new ++ vw.filter fun x => !(has cut x.1)
theorem Qp7 {vw : Views} {cut : List Nat} {id : Nat} {rows : List (List PV)} (h : look (vw.filter fun x => !(has cut x.1)) id = some rows) : look vw id = some rows ∧ has cut id = false := by
  induction vw with
  | nil => cases h
  | cons x r ih =>
    obtain ⟨k, rs⟩ := x
    simp only [List.filter_cons] at h
    cases hc : has cut k with
    | true =>
      rw [hc] at h
      simp only [Bool.not_true, Bool.false_eq_true, if_false] at h
      obtain ⟨h1, h2⟩ := ih h
      refine ⟨?_, h2⟩
      simp only [look]
      cases c : Nat.beq k id with
      | true =>
        have := Nat.eq_of_beq_eq_true c
        subst this
        rw [hc] at h2
        cases h2
      | false => exact h1
    | false =>
      rw [hc] at h
      simp only [Bool.not_false, if_true, look] at h ⊢
      cases c : Nat.beq k id with
      | true =>
        rw [c] at h
        have := Nat.eq_of_beq_eq_true c
        subst this
        exact ⟨h, hc⟩
      | false =>
        rw [c] at h
        exact ih h
theorem Qlb {l : List Nat} {id : Nat} (h : has l id = false) : id ∉ l := by
  induction l with
  | nil => exact List.not_mem_nil
  | cons k r ih =>
    simp only [has] at h
    cases c : Nat.beq k id with
    | true => rw [c] at h; cases h
    | false =>
      rw [c] at h
      simp only [cond_false] at h
      intro hm
      rcases List.mem_cons.1 hm with rfl | hm
      · simp at c
      · exact ih h hm
theorem Qch {vw new : Views} {cut : List Nat} {id : Nat} {rows : List (List PV)} (h : look (putV vw cut new) id = some rows) : look new id = some rows ∨ (look vw id = some rows ∧ id ∉ cut) := by
  unfold putV at h
  rw [Qjk] at h
  cases hn : look new id with
  | some r => rw [hn] at h; exact .inl h
  | none =>
    rw [hn] at h
    obtain ⟨h1, h2⟩ := Qp7 h
    exact .inr ⟨h1, Qlb h2⟩
theorem Qps {α : Type} {l : List (Nat × α)} {id : Nat} {x : α} (h : look l id = some x) : (id, x) ∈ l := by
  induction l with
  | nil => cases h
  | cons y r ih =>
    obtain ⟨k, z⟩ := y
    simp only [look] at h
    cases c : Nat.beq k id with
    | true =>
      rw [c] at h
      have := Nat.eq_of_beq_eq_true c
      subst this
      simp only [cond_true, Option.some.injEq] at h
      subst h
      exact List.mem_cons_self
    | false =>
      rw [c] at h
      exact List.mem_cons_of_mem _ (ih h)
def Turned (H : Nat → Option Ob) (vw : Views) (e : EV) : Prop := VOK (upH H e.eff.hw) (putV vw e.cut e.new)
theorem Qrc {ws : List (Nat × Option Ob)} {H : Nat → Option Ob} {id : Nat} {o : Option Ob} (hn : (ws.map (·.1)).Nodup) (h : (id, o) ∈ ws) : upH H ws id = o := by
  induction ws generalizing H with
  | nil => cases h
  | cons x r ih =>
    obtain ⟨k, z⟩ := x
    simp only [List.map_cons, List.nodup_cons] at hn
    rw [upH]
    rcases List.mem_cons.1 h with e | h
    · injection e with e1 e2
      subst e1 e2
      rw [Q45 (fun y hy e => hn.1 (by rw [← e]; exact List.mem_map_of_mem hy))]
      simp
    · exact ih hn.2 h
def nodupB : List Nat → Bool
  | [] => true
  | k :: r => !(has r k) && nodupB r
theorem Qm4 : ∀ {l : List Nat}, nodupB l = true → l.Nodup
  | [], _ => List.nodup_nil
  | k :: r, h => by
    simp only [nodupB, Bool.and_eq_true, Bool.not_eq_true'] at h
    exact List.nodup_cons.2 ⟨Qlb h.1, Qm4 h.2⟩
theorem Qmu {H : Nat → Option Ob} : ∀ (l : List Nat) (cl : List (Nat × Option Ob)), shut H l = some cl → ∀ id o, (id, o) ∈ cl → ∃ ob ob', H id = some ob ∧ o = some ob' ∧ ob'.sz = ob.sz ∧ ob'.cells = ob.cells
  | [], cl, h, id, o, hm => by
    simp only [shut, Option.some.injEq] at h
    subst h
    cases hm
  | k :: r, cl, h, id, o, hm => by
    simp only [shut] at h
    obtain ⟨ob, hob, h⟩ := Qh h
    obtain ⟨m, hm', h⟩ := Qh h
    simp only [Option.some.injEq] at h
    subst h
    rcases List.mem_cons.1 hm with e | hm
    · injection e with e1 e2
      subst e1 e2
      exact ⟨ob, _, hob, rfl, rfl, rfl⟩
    · exact Qmu r m hm' id o hm
def Qzq (H : Nat → Option Ob) (vw : Views) (fr : Nat) (byRef : Bool) (f : Nat) (args : List PV) (az : List Ans) : Option EV :=
  (Q11j H vw fr byRef f args az).bind fun e => bif nodupB (e.eff.hw.map (·.1)) then some e else none
theorem Qnv {G : Nat → Option Fun} {H : Nat → Option Ob} {vw : Views} (hv : VOK H vw) {fr : Nat} {byRef : Bool} {f : Nat} {args : List PV} {az : List Ans} {e : EV} (h : Qzq H vw fr byRef f args az = some e) (hm : Met e.owed) (hq : Told G e.asked) : Qac (lim G) H fr byRef f args = some e.eff ∧ Turned H vw e := by
  unfold Qzq at h
  obtain ⟨e', h0, h'⟩ := Qh h
  clear h
  cases hnd : nodupB (e'.eff.hw.map (·.1)) with
  | false => rw [hnd] at h'; cases h'
  | true =>
  rw [hnd] at h'
  simp only [cond_true, Option.some.injEq] at h'
  subst h'
  have hnd := Qm4 hnd
  unfold Q11j at h0
  unfold Qac
  obtain ⟨y, hy, h⟩ := Qh h0
  clear h0
  obtain ⟨z, hz, h⟩ := Qh h
  simp only at h
  cases hd : disj (y.1.2.2 ++ z.1.2.2) z.1.2.1 with
  | false => rw [hd] at h; cases h
  | true =>
    rw [hd] at h
    simp only [cond_true] at h
    cases az with
    | nil => cases h
    | cons a az' =>
      obtain ⟨r, avw⟩ := a
      cases r with
      | st _ _ => cases h
      | ret v hh =>
        simp only at h
        cases hb : (Nat.ble z.1.2.1.length hh.length && Nat.ble (hh.length - z.1.2.1.length) 64) with
        | false => rw [hb] at h; cases h
        | true =>
          rw [hb] at h
          simp only [cond_true] at h
          obtain ⟨v', hv', h⟩ := Qh h
          obtain ⟨ws, hws, h⟩ := Qh h
          have key : ∀ (hy' : Met y.2) (hz' : Met z.2) (hw' : Met ws.2.1) (ht : Q7 G (.call f y.1.1 z.1.1) (.ret v hh)) (E : Eff),
              (bif flat 8 v && hh.all (fun ob => ob.cells.all (flat 8)) then some ⟨v', ws.1, z.1.2.1 ++ (y.1.2.2 ++ z.1.2.2)⟩ else (shut H (y.1.2.2 ++ z.1.2.2)).bind fun cl => some ⟨v', ws.1 ++ cl, z.1.2.1 ++ (y.1.2.2 ++ z.1.2.2)⟩) = some E →
              ((Q3a (pass H byRef 8) args []).bind fun y => (Q1s H false false 16 0 y.2.1).bind fun z =>
                let ids := z.2.1
                let lent := y.2.2 ++ z.2.2
                bif disj lent ids then
                  (lim G (.call f y.1 z.1)).bind fun r =>
                    match r with
                    | .ret v h =>
                      bif Nat.ble ids.length h.length && Nat.ble (h.length - ids.length) 64 then
                        (back (ren ids fr) 8 v).bind fun v' => (Q5e (ren ids fr) 0 h).bind fun ws =>
                          bif flat 8 v && h.all (fun ob => ob.cells.all (flat 8)) then some ⟨v', ws, ids ++ lent⟩
                          else (shut H lent).bind fun cl => some ⟨v', ws ++ cl, ids ++ lent⟩
                      else none
                    | _ => none
                else none) = some E := by
            intro hy' hz' hw' ht E hE
            rw [Q2a (Q4a hv 8) _ _ y hy hy', Option.bind_some, Q33 hv 16 _ _ z hz hz', Option.bind_some]
            simp only
            rw [hd]
            simp only [cond_true]
            rw [Q11f ht, Option.bind_some]
            simp only
            rw [hb]
            simp only [cond_true]
            rw [hv', Option.bind_some, Q4p hh 0 ws hws hw', Option.bind_some]
            exact hE
          have turn : ∀ (cl : List (Nat × Option Ob)) (hcl : ∀ id o, (id, o) ∈ cl → ∃ ob ob', H id = some ob ∧ o = some ob' ∧ ob'.sz = ob.sz ∧ ob'.cells = ob.cells) (hn : ((ws.1 ++ cl).map (·.1)).Nodup) (hw' : Met ws.2.1) , VOK (upH H (ws.1 ++ cl)) (putV vw (ws.1.map (·.1)) ws.2.2) := by
            intro cl hcl hn hw' id rows hl
            rcases Qch hl with hl | ⟨hl, hc⟩
            · obtain ⟨ob, hob, hok⟩ := Q4t hh 0 ws hws hw' id rows (Qps hl)
              exact ⟨ob, Qrc hn (List.mem_append_left _ hob), hok⟩
            · obtain ⟨ob, hob, hok⟩ := hv id rows hl
              by_cases hx : ∃ o, (id, o) ∈ cl
              · obtain ⟨o, ho⟩ := hx
                obtain ⟨ob1, ob', h1, rfl, h2, h3⟩ := hcl id o ho
                rw [hob] at h1
                injection h1 with h1
                subst h1
                refine ⟨ob', Qrc hn (List.mem_append_right _ ho), ?_⟩
                rw [h2, h3]
                exact hok
              · refine ⟨ob, ?_, hok⟩
                rw [Q45 (fun y hy e => ?_)]
                · exact hob
                · rcases List.mem_append.1 hy with hy | hy
                  · exact hc (by rw [← e]; exact List.mem_map_of_mem hy)
                  · exact hx ⟨y.2, by rw [← e]; exact hy⟩
          cases hlent : y.1.2.2 ++ z.1.2.2 with
          | nil =>
            rw [hlent] at h
            simp only [Option.some.injEq] at h
            subst h
            simp only at hm hq hnd
            refine ⟨key hm.left hm.right.left hm.right.right (hq _ List.mem_cons_self) _ ?_, ?_⟩
            · rw [hlent]
              cases (flat 8 v && hh.all (fun ob => ob.cells.all (flat 8))) <;> simp [shut]
            · have := turn [] (fun _ _ h => by cases h) (by simpa using hnd) hm.right.right
              rw [List.append_nil] at this
              exact this
          | cons l0 lr =>
            rw [hlent] at h
            simp only at h
            cases hf : (flat 8 v && hh.all (fun ob => ob.cells.all (flat 8))) with
            | true =>
              rw [hf] at h
              simp only [cond_true, Option.some.injEq] at h
              subst h
              simp only at hm hq hnd
              refine ⟨key hm.left hm.right.left hm.right.right (hq _ List.mem_cons_self) _ ?_, ?_⟩
              · rw [hlent, hf]
                rfl
              · have := turn [] (fun _ _ h => by cases h) (by simpa using hnd) hm.right.right
                rw [List.append_nil] at this
                exact this
            | false =>
              rw [hf] at h
              simp only [cond_false] at h
              obtain ⟨cl, hcl, h⟩ := Qh h
              simp only [Option.some.injEq] at h
              subst h
              simp only at hm hq hnd
              refine ⟨key hm.left hm.right.left hm.right.right (hq _ List.mem_cons_self) _ ?_, ?_⟩
              · rw [hlent, hf]
                simp only [cond_false]
                rw [hcl, Option.bind_some]
              · exact turn cl (Qmu _ _ hcl) hnd hm.right.right
def mute : Orc := fun _ => none
theorem Qqp {X : Orc} {e : Nat → PV} {H : Nat → Option Ob} {fr : Nat} {o : IOp} {x : Eff} (h : iop mute e H fr o = some x) : iop X e H fr o = some x := by
  cases o with
  | call b f xs =>
    simp only [iop] at h
    obtain ⟨t, _, h⟩ := Qh h
    unfold Qac at h
    obtain ⟨y, _, h⟩ := Qh h
    obtain ⟨z, _, h⟩ := Qh h
    simp only at h
    cases hd : disj (y.2.2 ++ z.2.2) z.2.1 with
    | false => rw [hd] at h; cases h
    | true =>
      rw [hd] at h
      simp only [cond_true] at h
      obtain ⟨_, h, _⟩ := Qh h
      cases h
  | _ => exact h
theorem Que {X : Orc} {e : Nat → PV} {H : Nat → Option Ob} {fr : Nat} {o : IOper} {x : Eff} (h : Q4q mute e H fr o = some x) : Q4q X e H fr o = some x := by
  unfold Q4q at h ⊢
  obtain ⟨w, hw, h⟩ := Qh h
  rw [hw, Option.bind_some]
  cases w with
  | true => exact Qqp h
  | false => exact h
def iopV (e : Nat → PV) (H : Nat → Option Ob) (vw : Views) (fr : Nat) (az : List Ans) : IOp → Option EV
  | .call byRef f args => (target (f.ev e) (evs e args)).bind fun t => Qzq H vw fr byRef t.1 t.2 az
  | o => (iop mute e H fr o).bind fun x => some ⟨x, x.hw.map (·.1), [], az, [], []⟩
def Qrj (e : Nat → PV) (H : Nat → Option Ob) (vw : Views) (fr : Nat) (az : List Ans) (o : IOper) : Option EV :=
  (o.wanted e).bind fun w => bif w then iopV e H vw fr az o.op else some ⟨⟨.tup [], [], []⟩, [], [], az, [], []⟩
theorem Qa3 {H : Nat → Option Ob} {vw : Views} (hv : VOK H vw) {x : Eff} {az : List Ans} : Turned H vw ⟨x, x.hw.map (·.1), [], az, [], []⟩ := by
  intro id rows hl
  rcases Qch hl with hl | ⟨hl, hc⟩
  · cases hl
  · obtain ⟨ob, hob, hok⟩ := hv id rows hl
    refine ⟨ob, ?_, hok⟩
    rw [Q45 (fun y hy e => hc (by rw [← e]; exact List.mem_map_of_mem hy))]
    exact hob
theorem Q9s {G : Nat → Option Fun} {e : Nat → PV} {H : Nat → Option Ob} {vw : Views} (hv : VOK H vw) {fr : Nat} {az : List Ans} {o : IOper} {y : EV} (h : Qrj e H vw fr az o = some y) (hm : Met y.owed) (hq : Told G y.asked) : Q4q (lim G) e H fr o = some y.eff ∧ Turned H vw y := by
  unfold Qrj at h
  obtain ⟨w, hw, h⟩ := Qh h
  unfold Q4q
  rw [hw, Option.bind_some]
  cases w with
  | false =>
    simp only [cond_false, Option.some.injEq] at h
    subst h
    exact ⟨rfl, Qa3 hv (x := ⟨.tup [], [], []⟩)⟩
  | true =>
    simp only [cond_true] at h ⊢
    have gen : ((iop mute e H fr o.op).bind fun x => some (⟨x, x.hw.map (·.1), [], az, [], []⟩ : EV)) = some y → iop (lim G) e H fr o.op = some y.eff ∧ Turned H vw y := by
      intro h
      obtain ⟨x, hx, h⟩ := Qh h
      simp only [Option.some.injEq] at h
      subst h
      exact ⟨Qqp hx, Qa3 hv⟩
    cases ho : o.op with
    | call b f xs =>
      rw [ho] at h
      simp only [iopV] at h
      obtain ⟨t, ht, h⟩ := Qh h
      simp only [iop]
      rw [ht, Option.bind_some]
      exact Qnv hv h hm hq
    | _ =>
      rw [ho] at h gen
      exact gen h
abbrev Q4h := List (Nat × (Eff × Views))
structure TV where
  env : List PV
  heap : List (Nat × Ob)
  vw : Views
  effs : List Eff
  hs : Q4h
  az : List Ans
  owed : List Prop
  asked : Q7j
def nobody : Nat → Option Ob := fun _ => none
def Qnd (nx : Nat) : Nat → List IOper → Q4h → List Ans → List PV → List (Nat × Ob) → Views → Option TV
  | _, [], hs, az, env, h, vw => some ⟨env, h, vw, [], hs, az, [], []⟩
  | i, o :: r, hs, az, env, h, vw =>
    match hs with
    | [] => (Qrj (envF env) (look h) vw (nx + 64 * i) az o).bind fun x => (Qnd nx (i + 1) r [] x.az (put env o.dst x.eff.v) (hput h x.eff.hw) (putV vw x.cut x.new)).bind fun y => some ⟨y.env, y.heap, y.vw, x.eff :: y.effs, y.hs, y.az, x.owed ++ y.owed, x.asked ++ y.asked⟩
    | (k + 1, z) :: hs' => (Qrj (envF env) (look h) vw (nx + 64 * i) az o).bind fun x => (Qnd nx (i + 1) r ((k, z) :: hs') x.az (put env o.dst x.eff.v) (hput h x.eff.hw) (putV vw x.cut x.new)).bind fun y => some ⟨y.env, y.heap, y.vw, x.eff :: y.effs, y.hs, y.az, x.owed ++ y.owed, x.asked ++ y.asked⟩
    | (0, x) :: hs' => (Qnd nx (i + 1) r hs' az (put env o.dst x.1.v) (hput h x.1.hw) (putV vw (x.1.hw.map (·.1)) x.2)).bind fun y => some ⟨y.env, y.heap, y.vw, x.1 :: y.effs, y.hs, y.az, (Q4q mute (envF env) (look h) (nx + 64 * i) o = some x.1) :: ((x.2.map fun p => Seen (upH nobody x.1.hw p.1) p.2) ++ y.owed), y.asked⟩
theorem VOK.turned {h : List (Nat × Ob)} {vw : Views} {y : EV} (ht : Turned (look h) vw y) : VOK (look (hput h y.eff.hw)) (putV vw y.cut y.new) := by
  rw [Q4d]
  exact ht
theorem Qvd {ws : List (Nat × Option Ob)} {H : Nat → Option Ob} {id : Nat} {ob : Ob} (h : upH nobody ws id = some ob) : upH H ws id = some ob := by
  by_cases c : ∃ x ∈ ws, x.1 = id
  · rw [Qc7 (H' := nobody) c]
    exact h
  · rw [Q45 (fun y hy e => c ⟨y, hy, e⟩)] at h
    cases h
theorem Qec {G : Nat → Option Fun} {nx : Nat} : ∀ (ops : List IOper) (i : Nat) (hs : Q4h) (az : List Ans) (env : List PV) (h : List (Nat × Ob)) (vw : Views) (t : TV), Qnd nx i ops hs az env h vw = some t → VOK (look h) vw → Met t.owed → Told G t.asked → Q3i (lim G) nx i ops env h = some (t.env, t.heap, t.effs) ∧ VOK (look t.heap) t.vw
  | [], i, hs, az, env, h, vw, t, ht, hv, _, _ => by
    simp only [Qnd, Option.some.injEq] at ht
    subst ht
    exact ⟨rfl, hv⟩
  | o :: r, i, hs, az, env, h, vw, t, ht, hv, hm, hq => by
    have go : ∀ (x : EV) (hs' : Q4h) (vw' : Views), Q4q (lim G) (envF env) (look h) (nx + 64 * i) o = some x.eff → VOK (look (hput h x.eff.hw)) vw' → ∀ (y : TV), Qnd nx (i + 1) r hs' x.az (put env o.dst x.eff.v) (hput h x.eff.hw) vw' = some y → Met y.owed → Told G y.asked → y.env = t.env → y.heap = t.heap → y.vw = t.vw → x.eff :: y.effs = t.effs → Q3i (lim G) nx i (o :: r) env h = some (t.env, t.heap, t.effs) ∧ VOK (look t.heap) t.vw := by
      intro x hs' vw' hx hvx y hy hmy hqy e1 e2 e3 e4
      obtain ⟨r1, r2⟩ := Qec r (i + 1) hs' _ _ _ _ y hy hvx hmy hqy
      simp only [Q3i]
      rw [hx, Option.bind_some, r1, Option.bind_some, ← e1, ← e2, ← e3, ← e4]
      exact ⟨rfl, r2⟩
    unfold Qnd at ht
    split at ht
    · obtain ⟨x, hx, ht⟩ := Qh ht
      obtain ⟨y, hy, ht⟩ := Qh ht
      simp only [Option.some.injEq] at ht
      subst ht
      obtain ⟨s1, s2⟩ := Q9s hv hx hm.left hq.left
      exact go x _ _ s1 (VOK.turned s2) y hy hm.right hq.right rfl rfl rfl rfl
    · obtain ⟨x, hx, ht⟩ := Qh ht
      obtain ⟨y, hy, ht⟩ := Qh ht
      simp only [Option.some.injEq] at ht
      subst ht
      obtain ⟨s1, s2⟩ := Q9s hv hx hm.left hq.left
      exact go x _ _ s1 (VOK.turned s2) y hy hm.right hq.right rfl rfl rfl rfl
    · rename_i x hs'
      obtain ⟨y, hy, ht⟩ := Qh ht
      simp only [Option.some.injEq] at ht
      subst ht
      have hx : Q4q (lim G) (envF env) (look h) (nx + 64 * i) o = some x.1 := Que hm.head
      have hseen : Met (x.2.map fun p => Seen (upH nobody x.1.hw p.1) p.2) := hm.tail.left
      have hvx : VOK (look (hput h x.1.hw)) (putV vw (x.1.hw.map (·.1)) x.2) := by
        rw [Q4d]
        intro id rows hl
        rcases Qch hl with hl | ⟨hl, hc⟩
        · obtain ⟨ob, hob, hok⟩ := hseen _ (List.mem_map_of_mem (f := fun p : Nat × List (List PV) => Seen (upH nobody x.1.hw p.1) p.2) (Qps hl))
          exact ⟨ob, Qvd hob, hok⟩
        · obtain ⟨ob, hob, hok⟩ := hv id rows hl
          refine ⟨ob, ?_, hok⟩
          rw [Q45 (fun y hy e => hc (by rw [← e]; exact List.mem_map_of_mem hy))]
          exact hob
      exact go ⟨x.1, x.1.hw.map (·.1), x.2, az, [], []⟩ hs' _ hx hvx y hy hm.tail.right hq rfl rfl rfl rfl
structure CV where
  ex : Ex
  st : St
  vw : Views
  hs : Q4h
  az : List Ans
  owed : List Prop
  asked : Q7j
def Q3q (m : Nat) : IR → Q4h → List Ans → Views → St → Option CV
  | .skip, hs, az, vw, s => some ⟨.normal, s, vw, hs, az, [], []⟩
  | .reg ops draw, hs, az, vw, s => (Qnd s.nx 0 ops hs az s.env s.heap vw).bind fun y => bif !draw || calm (ops.zip y.effs) 0 (ops.zip y.effs) then some ⟨.normal, ⟨y.env, y.heap, s.nx + 64 * ops.length⟩, y.vw, y.hs, y.az, y.owed, y.asked⟩ else none
  | .seq a b, hs, az, vw, s => (Q3q m a hs az vw s).bind fun x => (match x.ex with | .normal => (Q3q m b x.hs x.az x.vw x.st).bind fun y => some ⟨y.ex, y.st, y.vw, y.hs, y.az, x.owed ++ y.owed, x.asked ++ y.asked⟩ | _ => some x)
  | .cond c a b, hs, az, vw, s => (match c.ev (envF s.env) with | .bool t => (bif t then Q3q m a hs az vw s else Q3q m b hs az vw s) | _ => none)
  | .block id b, hs, az, vw, s => (Q3q m b hs az vw s).bind fun x => (match x.ex with | .exit j => (bif Nat.beq j id then some ⟨.normal, x.st, x.vw, x.hs, x.az, x.owed, x.asked⟩ else some x) | _ => some x)
  | .loop live b, hs, az, vw, s => (gcV vw m live s).bind fun y => (match az with
    | [] => none
    | a :: az' => (match a.r with | .st e s' => some ⟨e, s', a.vw, hs, az', y.2 ++ (a.vw.map fun p => Seen (look s'.heap p.1) p.2), [(.loop m live b y.1.1 y.1.2, a.r)]⟩ | _ => none))
  | .exit id, hs, az, vw, s => some ⟨.exit id, s, vw, hs, az, [], []⟩
  | .ret, hs, az, vw, s => some ⟨.ret, s, vw, hs, az, [], []⟩
theorem Q1f {G : Nat → Option Fun} {m : Nat} : ∀ (c : IR) (hs : Q4h) (az : List Ans) (vw : Views) (s : St) (t : CV), Q3q m c hs az vw s = some t → VOK (look s.heap) vw → Met t.owed → Told G t.asked → Q30 (lim G) m c s = some (t.ex, t.st) ∧ VOK (look t.st.heap) t.vw
  | .skip, hs, az, vw, s, t, ht, hv, _, _ => by
    simp only [Q3q, Option.some.injEq] at ht
    subst ht
    exact ⟨rfl, hv⟩
  | .reg ops draw, hs, az, vw, s, t, ht, hv, hm, hq => by
    simp only [Q3q] at ht
    obtain ⟨y, hy, ht⟩ := Qh ht
    cases hc : (!draw || calm (ops.zip y.effs) 0 (ops.zip y.effs)) with
    | false => rw [hc] at ht; cases ht
    | true =>
      rw [hc] at ht
      simp only [cond_true, Option.some.injEq] at ht
      subst ht
      obtain ⟨r1, r2⟩ := Qec ops 0 hs az s.env s.heap vw y hy hv hm hq
      have h1 : ireg (lim G) ops draw s = some ⟨y.env, y.heap, s.nx + 64 * ops.length⟩ := by
        unfold ireg
        rw [r1, Option.bind_some]
        simp only
        rw [hc]
        rfl
      simp only [Q30]
      rw [h1]
      exact ⟨rfl, r2⟩
  | .seq a b, hs, az, vw, s, t, ht, hv, hm, hq => by
    simp only [Q3q] at ht
    obtain ⟨x, hx, ht⟩ := Qh ht
    obtain ⟨ex, st, vw1, hs1, as1, ow1, ak1⟩ := x
    simp only [Q30]
    cases ex with
    | normal =>
      simp only at ht
      obtain ⟨y, hy, ht⟩ := Qh ht
      simp only [Option.some.injEq] at ht
      subst ht
      obtain ⟨r1, r2⟩ := Q1f a hs az vw s _ hx hv hm.left hq.left
      rw [r1, Option.bind_some]
      exact Q1f b _ _ _ _ y hy r2 hm.right hq.right
    | exit j =>
      simp only [Option.some.injEq] at ht
      subst ht
      obtain ⟨r1, r2⟩ := Q1f a hs az vw s _ hx hv hm hq
      rw [r1, Option.bind_some]
      exact ⟨rfl, r2⟩
    | ret =>
      simp only [Option.some.injEq] at ht
      subst ht
      obtain ⟨r1, r2⟩ := Q1f a hs az vw s _ hx hv hm hq
      rw [r1, Option.bind_some]
      exact ⟨rfl, r2⟩
  | .cond c a b, hs, az, vw, s, t, ht, hv, hm, hq => by
    simp only [Q3q] at ht
    simp only [Q30]
    split at ht
    · rename_i q hq'
      rw [hq']
      simp only
      cases q with
      | true => exact Q1f a hs az vw s t ht hv hm hq
      | false => exact Q1f b hs az vw s t ht hv hm hq
    · cases ht
  | .block id b, hs, az, vw, s, t, ht, hv, hm, hq => by
    simp only [Q3q] at ht
    obtain ⟨x, hx, ht⟩ := Qh ht
    obtain ⟨ex, st, vw1, hs1, as1, ow1, ak1⟩ := x
    simp only [Q30]
    cases ex with
    | normal =>
      simp only [Option.some.injEq] at ht
      subst ht
      obtain ⟨r1, r2⟩ := Q1f b hs az vw s _ hx hv hm hq
      rw [r1, Option.bind_some]
      exact ⟨rfl, r2⟩
    | ret =>
      simp only [Option.some.injEq] at ht
      subst ht
      obtain ⟨r1, r2⟩ := Q1f b hs az vw s _ hx hv hm hq
      rw [r1, Option.bind_some]
      exact ⟨rfl, r2⟩
    | exit j =>
      simp only at ht
      cases hj : Nat.beq j id with
      | true =>
        rw [hj] at ht
        simp only [cond_true, Option.some.injEq] at ht
        subst ht
        obtain ⟨r1, r2⟩ := Q1f b hs az vw s _ hx hv hm hq
        rw [r1, Option.bind_some]
        simp only
        rw [hj]
        exact ⟨rfl, r2⟩
      | false =>
        rw [hj] at ht
        simp only [cond_false, Option.some.injEq] at ht
        subst ht
        obtain ⟨r1, r2⟩ := Q1f b hs az vw s _ hx hv hm hq
        rw [r1, Option.bind_some]
        simp only
        rw [hj]
        exact ⟨rfl, r2⟩
  | .loop live b, hs, az, vw, s, t, ht, hv, hm, hq => by
    simp only [Q3q] at ht
    obtain ⟨y, hy, ht⟩ := Qh ht
    simp only [Q30]
    cases az with
    | nil => cases ht
    | cons a az' =>
      obtain ⟨r, avw⟩ := a
      cases r with
      | ret _ _ => cases ht
      | st e s' =>
        simp only [Option.some.injEq] at ht
        subst ht
        rw [Qlq hv hy hm.left, Option.bind_some, Q11f (hq _ List.mem_cons_self), Option.bind_some]
        refine ⟨rfl, fun id rows hl => ?_⟩
        exact hm.right _ (List.mem_map_of_mem (f := fun p : Nat × List (List PV) => Seen (look s'.heap p.1) p.2) (Qps hl))
  | .exit id, hs, az, vw, s, t, ht, hv, _, _ => by
    simp only [Q3q, Option.some.injEq] at ht
    subst ht
    exact ⟨rfl, hv⟩
  | .ret, hs, az, vw, s, t, ht, hv, _, _ => by
    simp only [Q3q, Option.some.injEq] at ht
    subst ht
    exact ⟨rfl, hv⟩
def finV (fn : IFn) (m : Nat) (vw : Views) (s : St) : Option (Rs × List Prop) :=
  (mapO (rv s) fn.res).bind fun vs =>
    let a := bif fn.keep then Q31 s.nx vs else (vs, s.nx, [])
    let H := look (s.heap ++ a.2.2)
    (Q5m (Q7e H vw fn.keep 8) a.1 (upTo m)).bind fun y =>
      (Q5f H vw false true 32 0 y.1.2.1).bind fun z =>
        bif disj (y.1.2.2 ++ z.1.2.2) z.1.2.1 then some (.ret (match y.1.1 with | [v] => v | l => .tup l) (regr m z.1.1), y.2 ++ z.2) else none
theorem Qi0 {fn : IFn} {m : Nat} {vw : Views} {s : St} (hv : VOK (look s.heap) vw) {y : Rs × List Prop} (h : finV fn m vw s = some y) (hm : Met y.2) : fin fn m s = some y.1 := by
  unfold finV at h
  unfold fin
  obtain ⟨vs, hvs, h⟩ := Qh h
  rw [hvs, Option.bind_some]
  simp only at h ⊢
  have hv' : VOK (look (s.heap ++ (bif fn.keep then Q31 s.nx vs else (vs, s.nx, [])).2.2)) vw := by
    intro id rows hl
    obtain ⟨ob, hob, hok⟩ := hv id rows hl
    refine ⟨ob, ?_, hok⟩
    rw [Qjk, hob]
  obtain ⟨x, hx, h⟩ := Qh h
  obtain ⟨z, hz, h⟩ := Qh h
  cases hd : disj (x.1.2.2 ++ z.1.2.2) z.1.2.1 with
  | false => rw [hd] at h; cases h
  | true =>
    rw [hd] at h
    simp only [cond_true, Option.some.injEq] at h
    subst h
    rw [Q2a (Q4a hv' 8) _ _ x hx hm.left, Option.bind_some, Q33 hv' 32 _ _ z hz hm.right, Option.bind_some, hd]
    rfl
def Q127 (fn : IFn) (args : List PV) (h : List Ob) (vw : Views) (hs : Q4h) (az : List Ans) : Option (Rs × List Prop × Q7j) :=
  bif Nat.beq args.length fn.np then
    (Q3q h.length fn.body hs az vw ⟨args ++ nuns (fn.nt - fn.np), number 0 h, h.length⟩).bind fun x =>
      (match x.ex with
       | .exit _ => none
       | _ => (finV fn h.length x.vw x.st).bind fun r => some (r.1, x.owed ++ r.2, x.asked))
  else none
theorem Q12v {G : Nat → Option Fun} {f : Nat} {fn : IFn} (hG : G f = some (.ir fn)) {args : List PV} {h : List Ob} {vw : Views} (hv : VOK (look (number 0 h)) vw) {hs : Q4h} {az : List Ans} {r : Rs} {ow : List Prop} {ak : Q7j} (hp : Met ow) (hq : Told G ak) (ht : Q127 fn args h vw hs az = some (r, ow, ak)) : Q7 G (.call f args h) r := by
  refine Qxu Qav ?_
  unfold Q127 at ht
  simp only [phi, hG]
  cases hl : Nat.beq args.length fn.np with
  | false => rw [hl] at ht; cases ht
  | true =>
    rw [hl] at ht
    simp only [cond_true] at ht ⊢
    obtain ⟨x, hx, ht⟩ := Qh ht
    obtain ⟨ex, st, vw1, hs1, as1, ow1, ak1⟩ := x
    cases ex with
    | exit j => cases ht
    | normal =>
      simp only at ht
      obtain ⟨r', hr, ht⟩ := Qh ht
      simp only [Option.some.injEq, Prod.mk.injEq] at ht
      obtain ⟨rfl, rfl, rfl⟩ := ht
      obtain ⟨r1, r2⟩ := Q1f _ hs az vw _ _ hx hv hp.left hq
      rw [r1, Option.bind_some]
      exact Qi0 r2 hr hp.right
    | ret =>
      simp only at ht
      obtain ⟨r', hr, ht⟩ := Qh ht
      simp only [Option.some.injEq, Prod.mk.injEq] at ht
      obtain ⟨rfl, rfl, rfl⟩ := ht
      obtain ⟨r1, r2⟩ := Q1f _ hs az vw _ _ hx hv hp.left hq
      rw [r1, Option.bind_some]
      exact Qi0 r2 hr hp.right
theorem VOK.nil {H : Nat → Option Ob} : VOK H [] := fun _ _ h => by cases h
def Q137 (m : Nat) (live : List Nat) (b : IR) (env : List PV) (h : List Ob) (vw : Views) (hs : Q4h) (az : List Ans) : Option ((List PV × List Ob) × List Prop × Q7j) :=
  (Q3q m b hs az vw ⟨env, number 0 h, h.length⟩).bind fun x => (match x.ex with | .normal => (gcV x.vw m live x.st).bind fun y => some (y.1, x.owed ++ y.2, x.asked) | _ => none)
theorem Qpb {G : Nat → Option Fun} {m : Nat} {live : List Nat} {b : IR} {env : List PV} {h : List Ob} {vw : Views} (hv : VOK (look (number 0 h)) vw) {hs : Q4h} {az : List Ans} {y : List PV × List Ob} {ow : List Prop} {ak : Q7j} {r : Rs} (hp : Met ow) (hq : Told G ak) (ht : Q137 m live b env h vw hs az = some (y, ow, ak)) (hr : Q7 G (.loop m live b y.1 y.2) r) : Q7 G (.loop m live b env h) r := by
  unfold Q137 at ht
  obtain ⟨x, hx, ht⟩ := Qh ht
  obtain ⟨ex, st, vw1, hs1, as1, ow1, ak1⟩ := x
  cases ex with
  | normal =>
    simp only at ht
    obtain ⟨y', hg, ht⟩ := Qh ht
    simp only [Option.some.injEq, Prod.mk.injEq] at ht
    obtain ⟨rfl, rfl, rfl⟩ := ht
    obtain ⟨r1, r2⟩ := Q1f _ hs az vw _ _ hx hv hp.left hq
    exact Qv3 Qav r1 (Qlq r2 hg hp.right) hr
  | exit j => cases ht
  | ret => cases ht
def Qyt (m : Nat) (b : IR) (env : List PV) (h : List Ob) (vw : Views) (hs : Q4h) (az : List Ans) : Option ((Ex × St) × List Prop × Q7j) :=
  (Q3q m b hs az vw ⟨env, number 0 h, h.length⟩).bind fun x => (match x.ex with | .normal => none | e => some ((e, x.st), x.owed, x.asked))
theorem Qvc {G : Nat → Option Fun} {m : Nat} {live : List Nat} {b : IR} {env : List PV} {h : List Ob} {vw : Views} (hv : VOK (look (number 0 h)) vw) {hs : Q4h} {az : List Ans} {x : Ex × St} {ow : List Prop} {ak : Q7j} (hp : Met ow) (hq : Told G ak) (ht : Qyt m b env h vw hs az = some (x, ow, ak)) : Q7 G (.loop m live b env h) (.st x.1 x.2) := by
  unfold Qyt at ht
  obtain ⟨y, hy, ht⟩ := Qh ht
  obtain ⟨ex, st, vw1, hs1, as1, ow1, ak1⟩ := y
  cases ex with
  | normal => cases ht
  | exit j =>
    simp only [Option.some.injEq, Prod.mk.injEq] at ht
    obtain ⟨rfl, rfl, rfl⟩ := ht
    exact Qce Qav (by intro h; cases h) (Q1f _ hs az vw _ _ hy hv hp hq).1
  | ret =>
    simp only [Option.some.injEq, Prod.mk.injEq] at ht
    obtain ⟨rfl, rfl, rfl⟩ := ht
    exact Qce Qav (by intro h; cases h) (Q1f _ hs az vw _ _ hy hv hp hq).1
end Go.Pv
end

section
/-
  Small words and hints' lemmas for walks that a program prints.
-/
namespace Go.Pv
def bE (b : Bool) : Eff := ⟨.bool b, [], []⟩
def vE (v : PV) : Eff := ⟨v, [], []⟩
def w64 (n : Int) : Int := IntKind.i64.wrap n
def mx (x y : Int) : Int := if y > x then y else x
def sEq (a b : ByteArray) : Bool := a.toList == b.toList
def sLt (a b : ByteArray) : Bool := Op.bytesLess a.toList b.toList
theorem dec (c v : Bool) (h : c = v) : some (bE c) = some (bE v) := by rw [h]
theorem toldOf {G : Nat → Option Fun} {e : En} {r r' : Rs} (h : Q7 G e r) (hr : r = r') : Q7 G e r' := hr ▸ h
theorem Qg {α : Type} {f : α → List PV} {l : List α} {i : Nat} {x : α} (h : l[i]? = some x) : (l.map f)[i]? = some (f x) := by
  rw [List.getElem?_map, h]
  rfl
def ixE (sz : Nat) (l : List (List PV)) (i : Int) : Option Eff := (opP (fun _ => .un) (.iaddr sz (.c (.sl l)) (.c (.int .i64 i)))).bind fun v => some ⟨v, [], []⟩
theorem Q1o (sz : Nat) (l : List (List PV)) (i : Nat) (r : List PV) (h : l[i]? = some r) (hs : r.length = sz) : ixE sz l (i : Int) = some (vE (.rf r)) := by
  unfold ixE
  simp only [opP, Opd.ev, asNat]
  have h0 : decide (0 ≤ (i : Int)) = true := by simp
  rw [h0]
  simp only [cond_true, Option.bind_some, Int.toNat_natCast]
  rw [h]
  subst hs
  simp [vE]
theorem Qqr (sz : Nat) (l : List (List PV)) (i : Int) (r : List PV) (h0 : 0 ≤ i) (h : l[i.toNat]? = some r) (hs : r.length = sz) : ixE sz l i = some (vE (.rf r)) := by
  have := Q1o sz l i.toNat r h hs
  rw [show ((i.toNat : Nat) : Int) = i by omega] at this
  exact this
def lenE (l : List (List PV)) : Option Eff := some ⟨.int .i64 (l.length : Int), [], []⟩
theorem Qk (l : List (List PV)) (n : Nat) (h : l.length = n) : lenE l = some (vE (.int .i64 (n : Int))) := by
  unfold lenE
  rw [h]
  rfl
theorem Qa7 {n : Int} (h : -9223372036854775808 ≤ n ∧ n ≤ 9223372036854775807) : w64 n = n := by
  unfold w64 IntKind.wrap
  simp [IntKind.signed, IntKind.bits]
  omega
def addE (a b : Int) : Option Eff := some ⟨.int .i64 (IntKind.i64.wrap (a + b)), [], []⟩
theorem Qv (i : Nat) (h : i < 9223372036854775807) : addE (i : Int) 1 = some (vE (.int .i64 ((i + 1 : Nat) : Int))) := by
  unfold addE
  have : IntKind.i64.wrap ((i : Int) + 1) = ((i + 1 : Nat) : Int) := by
    have := Qa7 (n := (i : Int) + 1) (by omega)
    unfold w64 at this
    rw [this]
    rfl
  rw [this]
  rfl
theorem Q153 {ob : Ob} {k : Nat} (h : ob.cells.length = k) : apC ob k = some ob.cells := by
  unfold apC
  rw [h, Nat.beq_refl]
  rfl
def apE (id lid fr sz bytes ro lro : Nat) (lgr : Bool) (rows : List (List PV)) (r : List PV) (n : Nat) : Option Eff :=
  Q3o (look [(id, ⟨sz, ro, true, rows.flatten⟩), (lid, ⟨sz, lro, lgr, r⟩)]) fr sz bytes (.ms id sz 0 n) (.ms lid sz 0 1)
theorem Q10m (id lid fr sz bytes ro lro : Nat) (lgr : Bool) (rows rows' : List (List PV)) (r : List PV) (n n' : Nat) (hne : Nat.beq id lid = false) (hn : n = rows.length) (hn' : n' = rows'.length) (hr' : rows' = rows ++ [r])
    (hs : ∀ r ∈ rows, r.length = sz) (hr : r.length = sz) (hb : (n + 1) * bytes ≤ 140737488355328) :
    apE id lid fr sz bytes ro lro lgr rows r n = some ⟨.ms fr sz 0 n', [(id, none), (fr, some ⟨sz, ro, true, rows'.flatten⟩)], [id, lid]⟩ := by
  subst hn hn' hr'
  unfold apE Q3o
  have h1 : look [(id, (⟨sz, ro, true, rows.flatten⟩ : Ob)), (lid, ⟨sz, lro, lgr, r⟩)] lid = some ⟨sz, lro, lgr, r⟩ := by simp [look, hne]
  have h2 : look [(id, (⟨sz, ro, true, rows.flatten⟩ : Ob)), (lid, ⟨sz, lro, lgr, r⟩)] id = some ⟨sz, ro, true, rows.flatten⟩ := by simp [look]
  have hsrc : source (look [(id, (⟨sz, ro, true, rows.flatten⟩ : Ob)), (lid, ⟨sz, lro, lgr, r⟩)]) sz (.ms lid sz 0 1) = some (1, r, [lid]) := by
    simp only [source, h1, Option.bind_some]
    subst hr
    have : Nat.ble r.length r.length = true := Nat.ble_eq_true_of_le (Nat.le_refl _)
    simp [this]
  rw [hsrc, Option.bind_some]
  simp only [h2, Option.bind_some]
  have hc : (true && Nat.beq sz sz && Nat.beq sz sz && Nat.beq 0 0 && Nat.ble ((rows.length + 1) * bytes) 140737488355328) = true := by
    simp only [Nat.beq_refl, Bool.and_true, Bool.true_and]
    exact Nat.ble_eq_true_of_le hb
  rw [hc, Q153 (ob := ⟨sz, ro, true, rows.flatten⟩) (Q38 sz rows hs)]
  simp
end Go.Pv
namespace Go.Pv
theorem VOK.cons {H : Nat → Option Ob} {vw : Views} {id : Nat} {rows : List (List PV)} (h : Seen (H id) rows) (hv : VOK H vw) : VOK H ((id, rows) :: vw) := by
  intro k rs hl
  simp only [look] at hl
  cases c : Nat.beq id k with
  | true =>
    have := Nat.eq_of_beq_eq_true c
    subst this
    rw [c] at hl
    simp only [cond_true, Option.some.injEq] at hl
    subst hl
    exact h
  | false =>
    rw [c] at hl
    exact hv k rs hl
theorem Q1d {α : Type} {l : List α} {i : Nat} {x : α} {r : List α} (h : l.drop i = x :: r) : l[i]? = some x ∧ i < l.length ∧ l.drop (i + 1) = r := by
  have h1 : l[i]? = some x := by
    have := congrArg (fun q => q[0]?) h
    simpa [List.getElem?_drop] using this
  have h2 : i < l.length := (List.getElem?_eq_some_iff.1 h1).1
  refine ⟨h1, h2, ?_⟩
  rw [← List.tail_drop, h]
  rfl
theorem Q1p {α : Type} {l : List α} {i : Nat} (h : l.drop i = []) : l.length ≤ i := by
  simpa using h
theorem Qz {α : Type} {l : List α} {i : Nat} {x : α} (h : l[i]? = some x) : x ∈ l := List.mem_of_getElem? h
theorem Qzl {α : Type} {f : α → List PV} {n : Nat} (h : ∀ x, (f x).length = n) (l : List α) : ∀ r ∈ l.map f, r.length = n := fun r hr => by
  obtain ⟨x, _, rfl⟩ := List.mem_map.1 hr
  exact h x
theorem Qrw {α : Type} {f : α → List PV} (h : ∀ x, (f x).all plain = true) (l : List α) : ∀ r ∈ l.map f, ∀ p ∈ r, plain p = true := fun r hr p hp => by
  obtain ⟨x, _, rfl⟩ := List.mem_map.1 hr
  exact List.all_eq_true.1 (h x) p hp
end Go.Pv
namespace Go.Pv
def zoF (l : List (Nat × List PV)) (j : Nat) : List PV := (look l j).getD []
end Go.Pv
namespace Go.Pv
def optI : Option Int → Option Opd
  | none => none
  | some n => some (.c (.int .i64 n))
theorem Qzu {l : List (List PV)} {sz : Nat} (hs : ∀ r ∈ l, r.length = sz) : Q5n l sz = true := by
  unfold Q5n
  rw [List.all_eq_true]
  intro r hr
  rw [hs r hr]
  exact Nat.beq_refl sz
end Go.Pv
namespace Go.Pv
def ixmE (id sz off len : Nat) (i : Int) : Option Eff := (opP (fun _ => .un) (.iaddr sz (.c (.ms id sz off len)) (.c (.int .i64 i)))).bind fun v => some ⟨v, [], []⟩
theorem Q15t (id sz off len : Nat) (i : Int) (k at_ : Nat) (h : i = (k : Int)) (hk : k < len) (ha : at_ = (off + k) * sz) : ixmE id sz off len i = some (vE (.bx id at_)) := by
  subst h ha
  unfold ixmE
  simp only [opP, Opd.ev, asNat]
  have h0 : decide (0 ≤ (k : Int)) = true := by simp
  rw [h0]
  simp only [cond_true, Option.bind_some, Int.toNat_natCast]
  have h1 : (Nat.beq sz sz && Nat.blt k len) = true := by
    rw [Nat.beq_refl, Bool.true_and]
    exact Nat.ble_eq_true_of_le hk
  rw [h1]
  rfl
end Go.Pv
namespace Go.Pv
theorem Q1g (id sz len : Nat) (i : Int) (k : Nat) (hk : k = i.toNat) (h0 : 0 ≤ i) (h1 : i < (len : Int)) : ixmE id sz 0 len i = some (vE (.bx id (k * sz))) :=
  Q15t id sz 0 len i k (k * sz) (by omega) (by omega) (by rw [Nat.zero_add])
theorem Q9y (sz : Nat) : ∀ (rows : List (List PV)) (k : Nat), (∀ r ∈ rows, r.length = sz) → rows.flatten.drop (k * sz) = (rows.drop k).flatten
  | [], k, _ => by simp
  | r :: rs, 0, _ => by simp
  | r :: rs, k + 1, h => by
    have h0 := h r List.mem_cons_self
    rw [List.flatten_cons, List.drop_succ_cons, ← Q9y sz rs k (fun q hq => h q (List.mem_cons_of_mem _ hq)), Nat.add_mul, Nat.one_mul, Nat.add_comm, ← List.drop_drop, List.drop_left' h0]
theorem Qsw {sz : Nat} {rows : List (List PV)} {k : Nat} {r : List PV} {off n : Nat} (hr : rows[k]? = some r) (hs : ∀ r ∈ rows, r.length = sz) (hn : off + n ≤ sz) : (rows.flatten.drop (k * sz + off)).take n = (r.drop off).take n ∧ k * sz + off + n ≤ rows.flatten.length := by
  have hk : k < rows.length := (List.getElem?_eq_some_iff.1 hr).1
  have hd : rows.drop k = r :: rows.drop (k + 1) := by
    rw [List.drop_eq_getElem_cons hk]
    congr 1
    exact (List.getElem?_eq_some_iff.1 hr).2
  have hl := hs r (List.mem_of_getElem? hr)
  refine ⟨?_, ?_⟩
  · rw [← List.drop_drop, Q9y sz rows k hs, hd, List.flatten_cons]
    rw [List.drop_append_of_le_length (by omega), List.take_append_of_le_length (by rw [List.length_drop]; omega)]
  · rw [Q38 sz rows hs]
    have : (k + 1) * sz ≤ rows.length * sz := Nat.mul_le_mul_right _ hk
    rw [Nat.add_mul] at this
    omega
def ldE (id sz ro : Nat) (gr : Bool) (cells : List PV) (n : Nat) (ag : Bool) (at_ : Nat) : Option Eff := Qc2 (look [(id, ⟨sz, ro, gr, cells⟩)]) n ag (.bx id at_)
theorem Q2z (id sz ro : Nat) (gr : Bool) (cells : List PV) (rows : List (List PV)) (n : Nat) (ag : Bool) (k off at_ : Nat) (r : List PV) (v : PV) (hc : cells = rows.flatten) (ha : at_ = k * sz + off) (hr : rows[k]? = some r) (hs : ∀ r ∈ rows, r.length = sz) (hn : off + n ≤ sz) (hv : shape ag ((r.drop off).take n) = some v) :
    ldE id sz ro gr cells n ag at_ = some ⟨v, [], [id]⟩ := by
  subst hc ha
  obtain ⟨h1, h2⟩ := Qsw hr hs hn
  unfold ldE Qc2 reads
  simp only [look, Nat.beq_refl, cond_true, Option.bind_some]
  rw [Nat.ble_eq_true_of_le h2]
  simp only [cond_true, Option.bind_some]
  rw [h1, hv, Option.bind_some]
theorem Qu {α : Type} (l : List α) (k : Nat) (d : α) (h : k < l.length) : l[k]? = some (l.getD k d) := by
  rw [List.getD_eq_getElem?_getD, List.getElem?_eq_getElem h]
  rfl
end Go.Pv
namespace Go.Pv
end Go.Pv
namespace Go.Pv
end Go.Pv
end

section
/- More of single operations: sums that don't run over; shifts of indexes; stores into a slice of one's own that is known by its rows. -/
namespace Go.Pv
def wE (n : Int) : Option Eff := some ⟨.int .i64 (IntKind.i64.wrap n), [], []⟩
theorem w_ok (n : Int) (h : -9223372036854775808 ≤ n ∧ n ≤ 9223372036854775807) : wE n = some (vE (.int .i64 n)) := by
  unfold wE
  have := Qa7 h
  unfold w64 at this
  rw [this]
  rfl
def sCmp (a b : ByteArray) : Int := cmpL a.toList b.toList
theorem Qcq {sz : Nat} : ∀ (rows : List (List PV)) (k : Nat) (r vals : List PV) (off n : Nat), rows[k]? = some r → (∀ q ∈ rows, q.length = sz) → off + n ≤ sz → vals.length = n →
    rows.flatten.take (k * sz + off) ++ (vals ++ rows.flatten.drop (k * sz + off + n)) = (rows.set k (r.take off ++ (vals ++ r.drop (off + n)))).flatten ∧ k * sz + off + n ≤ rows.flatten.length
  | [], _, _, _, _, _, h, _, _, _ => by simp at h
  | q :: rs, 0, r, vals, off, n, h, hs, hn, hv => by
    have hq := hs q List.mem_cons_self
    simp only [List.getElem?_cons_zero, Option.some.injEq] at h
    subst h
    simp only [Nat.zero_mul, Nat.zero_add, List.flatten_cons, List.set_cons_zero, List.length_append]
    refine ⟨?_, by omega⟩
    rw [List.take_append_of_le_length (by omega), List.drop_append_of_le_length (by omega)]
    simp only [List.append_assoc]
  | q :: rs, k + 1, r, vals, off, n, h, hs, hn, hv => by
    have hq := hs q List.mem_cons_self
    simp only [List.getElem?_cons_succ] at h
    obtain ⟨h1, h2⟩ := Qcq rs k r vals off n h (fun q hq => hs q (List.mem_cons_of_mem _ hq)) hn hv
    have e1 : (k + 1) * sz + off = q.length + (k * sz + off) := by rw [hq, Nat.add_mul]; omega
    have e2 : (k + 1) * sz + off + n = q.length + (k * sz + off + n) := by rw [hq, Nat.add_mul]; omega
    simp only [List.flatten_cons, List.set_cons_succ, List.length_append]
    refine ⟨?_, by omega⟩
    rw [e2, e1, List.take_length_add_append, List.drop_length_add_append, ← h1]
    simp only [List.append_assoc]
def stE (id sz ro : Nat) (gr : Bool) (cells : List PV) (n : Nat) (at_ : Nat) (x : PV) : Option Eff := Q73 (look [(id, ⟨sz, ro, gr, cells⟩)]) n (.bx id at_) x
theorem Qfc (id sz : Nat) (gr : Bool) (cells : List PV) (rows rows' : List (List PV)) (n k off at_ : Nat) (r : List PV) (x : PV) (hc : cells = rows.flatten) (ha : at_ = k * sz + off) (hr : rows[k]? = some r) (hs : ∀ r ∈ rows, r.length = sz) (hn : off + n ≤ sz) (hx : x.cs.length = n) (hf : x.fits = true) (hrows : rows' = rows.set k (r.take off ++ (x.cs ++ r.drop (off + n)))) :
    stE id sz 0 gr cells n at_ x = some ⟨.un, [(id, some ⟨sz, 0, gr, rows'.flatten⟩)], [id]⟩ := by
  subst hc ha hrows
  obtain ⟨h1, h2⟩ := Qcq rows k r x.cs off n hr hs hn hx
  unfold stE Q73
  simp only [look, Nat.beq_refl, cond_true, Option.bind_some]
  rw [hx, hf, Nat.beq_refl, Nat.ble_eq_true_of_le h2, Nat.ble_eq_true_of_le (Nat.zero_le _), h1]
  rfl
theorem Q4e {α : Type} (f : α → List PV) (l : List α) (k : Nat) (x : α) : (l.set k x).map f = (l.map f).set k (f x) := List.map_set
theorem Qo {α : Type} {l : List α} {n : Nat} (h : l.length = n) (k : Nat) (x : α) : (l.set k x).length = n := by rw [List.length_set, h]
def cvE (k : IntKind) (n : Int) : Option Eff := (some (PV.int k (k.wrap n))).bind fun v => some ⟨v, [], []⟩
theorem Q178 {n : Int} (h : 0 ≤ n ∧ n ≤ 9223372036854775807) : IntKind.u64.wrap n = n := by
  unfold IntKind.wrap
  simp [IntKind.signed, IntKind.bits]
  omega
theorem Qy (n : Int) (h : 0 ≤ n ∧ n ≤ 9223372036854775807) : cvE .u64 n = some (vE (.int .u64 n)) := by
  unfold cvE
  rw [Q178 h]
  rfl
theorem Qx (n : Int) (h : 0 ≤ n ∧ n ≤ 9223372036854775807) : cvE .i64 n = some (vE (.int .i64 n)) := by
  unfold cvE
  have := Qa7 (n := n) (by omega)
  unfold w64 at this
  rw [this]
  rfl
def shE (k : IntKind) (a b : Int) : Option Eff := (bif decide (0 ≤ b) then some (PV.int k (a.fdiv (2 ^ (min b.toNat k.bits)))) else none).bind fun v => some ⟨v, [], []⟩
theorem Q1l (n : Int) : shE .u64 n 1 = some (vE (.int .u64 (n / 2))) := by
  unfold shE
  have h : n.fdiv (2 ^ (min (1 : Int).toNat IntKind.u64.bits)) = n / 2 := by
    have e : ((2 : Int) ^ (min (1 : Int).toNat IntKind.u64.bits)) = 2 := by decide
    rw [e, Int.fdiv_eq_ediv_of_nonneg _ (by omega)]
  rw [h]
  rfl
end Go.Pv
end

section
/- A walk's hints and answers, each with its proof. -/
namespace Go.Pv
structure It where
  hint : Option (Nat × (Eff × Views))
  p : Prop
  pf : p
def hsOf : List It → Q4h
  | [] => []
  | x :: r => (match x.hint with | some h => h :: hsOf r | none => hsOf r)
def owOf : List It → List Prop
  | [] => []
  | x :: r => x.p :: owOf r
theorem Q114 : ∀ l : List It, Met (owOf l)
  | [] => Met.nil
  | x :: r => Met.cons x.pf (Q114 r)
structure An (G : Nat → Option Fun) where
  e : En
  r : Rs
  vw : Views
  pf : Q7 G e r
def asOf {G : Nat → Option Fun} : List (An G) → List Ans
  | [] => []
  | x :: r => ⟨x.r, x.vw⟩ :: asOf r
def akOf {G : Nat → Option Fun} : List (An G) → Q7j
  | [] => []
  | x :: r => (x.e, x.r) :: akOf r
theorem Qr5 {G : Nat → Option Fun} : ∀ l : List (An G), Told G (akOf l)
  | [] => Told.nil
  | x :: r => Told.cons x.pf (Qr5 r)
def hB {c v : Bool} (n : Nat) (h : c = v) : It := ⟨some (n, (bE v, [])), some (bE c) = some (bE v), dec c v h⟩
def hP {x : Option Eff} {y : Eff} (n : Nat) (h : x = some y) : It := ⟨some (n, (y, [])), x = some y, h⟩
def hV {x : Option Eff} {y : Eff} (n : Nat) (vw : Views) (h : x = some y) : It := ⟨some (n, (y, vw)), x = some y, h⟩
def hQ {p : Prop} (h : p) : It := ⟨none, p, h⟩
def aN {G : Nat → Option Fun} {e : En} {r : Rs} (h : Q7 G e r) : An G := ⟨e, r, [], h⟩
def aV {G : Nat → Option Fun} {e : En} {r : Rs} (vw : Views) (h : Q7 G e r) : An G := ⟨e, r, vw, h⟩
def aB {G : Nat → Option Fun} {e : En} {c v : Bool} (h : Q7 G e (.ret (.bool c) [])) (hc : c = v) : An G := ⟨e, .ret (.bool v) [], [], hc ▸ h⟩
theorem vk1 {sz ro : Nat} {gr : Bool} {cells : List PV} {rows : List (List PV)} (h : ViewOK sz cells rows) : VOK (look (number 0 [⟨sz, ro, gr, cells⟩])) [(0, rows)] := VOK.cons (show Seen _ _ from Q3r (ob := ⟨sz, ro, gr, cells⟩) h) VOK.nil
theorem Q9 {G : Nat → Option Fun} {f : Nat} {fn : IFn} (hG : G f = some (.ir fn)) {args : List PV} {h : List Ob} {vw : Views} (hv : VOK (look (number 0 h)) vw) {r : Rs} (l : List It) (q : List (An G)) (ht : Q127 fn args h vw (hsOf l) (asOf q) = some (r, owOf l, akOf q)) : Q7 G (.call f args h) r := Q12v hG hv (Q114 l) (Qr5 q) ht
theorem Qb {G : Nat → Option Fun} {m : Nat} {live : List Nat} {b : IR} {env : List PV} {h : List Ob} {vw : Views} (hv : VOK (look (number 0 h)) vw) {y : List PV × List Ob} {r : Rs} (l : List It) (q : List (An G)) (ht : Q137 m live b env h vw (hsOf l) (asOf q) = some (y, owOf l, akOf q)) (hr : Q7 G (.loop m live b y.1 y.2) r) : Q7 G (.loop m live b env h) r := Qpb hv (Q114 l) (Qr5 q) ht hr
theorem Qe {G : Nat → Option Fun} {m : Nat} {live : List Nat} {b : IR} {env : List PV} {h : List Ob} {vw : Views} (hv : VOK (look (number 0 h)) vw) {x : Ex × St} (l : List It) (q : List (An G)) (ht : Qyt m b env h vw (hsOf l) (asOf q) = some (x, owOf l, akOf q)) : Q7 G (.loop m live b env h) (.st x.1 x.2) := Qvc hv (Q114 l) (Qr5 q) ht
end Go.Pv
namespace Go.Pv
def hS {sz : Nat} {cells : List PV} {rows : List (List PV)} (ro : Nat) (gr : Bool) (h : ViewOK sz cells rows) : It := hQ (Q3r (ob := ⟨sz, ro, gr, cells⟩) h)
end Go.Pv
end

section
/-
  What a law is handed, as plain Lean values.
-/
namespace Go.Pv
def okI (k : IntKind) (n : Int) : Prop := (Lit.int k n).wf = true
def Qsv (n : Int) : Prop := -9223372036854775808 ≤ n ∧ n ≤ 9223372036854775807
def okU8 (n : Int) : Prop := 0 ≤ n ∧ n ≤ 255
theorem okI.i64 {n : Int} (h : okI .i64 n) : Qsv n := by
  unfold okI at h
  simp [Lit.wf, IntKind.min, IntKind.max, IntKind.signed, IntKind.bits] at h
  exact h
theorem okI.u8 {n : Int} (h : okI .u8 n) : okU8 n := by
  unfold okI at h
  simp [Lit.wf, IntKind.min, IntKind.max, IntKind.signed, IntKind.bits] at h
  unfold okU8
  omega
def okS (s : ByteArray) : Prop := s.size ≤ 140737488351232
section
variable {Γ : Nat → Option Ty}
theorem OfL.Q6x {f : Ty} {fs : List Ty} {c : List PV} (h : OfL Γ (f :: fs) c) : ∃ a b, c = a ++ b ∧ Of Γ f a ∧ OfL Γ fs b := by
  cases h with
  | cons _ _ a b h1 h2 => exact ⟨a, b, rfl, h1, h2⟩
theorem OfL.empty {c : List PV} (h : OfL Γ [] c) : c = [] := by cases h; rfl
theorem Of.str1 {c : List PV} (h : Of Γ .str c) : ∃ s, c = [.str s] ∧ okS s := by
  cases h with
  | str s h => exact ⟨s, rfl, h⟩
theorem Of.int1 {k : IntKind} {c : List PV} (h : Of Γ (.int k) c) : ∃ n, c = [.int k n] ∧ okI k n := by
  cases h with
  | int _ n h => exact ⟨n, rfl, h⟩
theorem Of.i64 {c : List PV} (h : Of Γ (.int .i64) c) : ∃ n, c = [.int .i64 n] ∧ Qsv n := by
  obtain ⟨n, h1, h2⟩ := h.int1
  exact ⟨n, h1, h2.i64⟩
theorem Of.u8 {c : List PV} (h : Of Γ (.int .u8) c) : ∃ n, c = [.int .u8 n] ∧ okU8 n := by
  obtain ⟨n, h1, h2⟩ := h.int1
  exact ⟨n, h1, h2.u8⟩
theorem Of.st1 {fs : List Ty} {c : List PV} (h : Of Γ (.st fs) c) : OfL Γ fs c := by
  cases h with
  | st _ _ h => exact h
theorem Q7c {α : Type} {f : α → List PV} {ok : α → Prop} : ∀ (l : List (List PV)), (∀ r ∈ l, ∃ x, r = f x ∧ ok x) → ∃ xs : List α, l = xs.map f ∧ ∀ x ∈ xs, ok x
  | [], _ => ⟨[], rfl, fun _ h => absurd h List.not_mem_nil⟩
  | r :: rs, h => by
    obtain ⟨x, hx, hok⟩ := h r List.mem_cons_self
    obtain ⟨xs, hxs, hoks⟩ := Q7c rs (fun q hq => h q (List.mem_cons_of_mem _ hq))
    refine ⟨x :: xs, by rw [hx, hxs]; rfl, fun y hy => ?_⟩
    rcases List.mem_cons.1 hy with rfl | hy
    · exact hok
    · exact hoks y hy
theorem Arg.one {ty : Ty} {p : PV} (h : Arg Γ ty p) (hs : ty.isSt Γ = false) : Of Γ ty [p] := by
  obtain ⟨c, hc, hp⟩ := h
  rw [hs] at hp
  have hp : c = [p] := hp
  subst hp
  exact hc
theorem Arg.agg {ty : Ty} {p : PV} (h : Arg Γ ty p) (hs : ty.isSt Γ = true) : ∃ c, p = .agg c ∧ Of Γ ty c := by
  obtain ⟨c, hc, hp⟩ := h
  rw [hs] at hp
  exact ⟨c, hp, hc⟩
end
end Go.Pv
end

section
/-
  Strings: equality and order.
-/
namespace Go.Pv
theorem Qpw (b : ByteArray) : ∀ (n i : Nat) (acc : List UInt8), b.size - i = n → ByteArray.toList.loop b i acc = acc.reverse ++ b.data.toList.drop i := by
  intro n
  induction n with
  | zero =>
    intro i acc h
    unfold ByteArray.toList.loop
    have h1 : ¬ i < b.size := by omega
    rw [if_neg h1]
    have : b.data.toList.drop i = [] := by
      rw [List.drop_eq_nil_iff]
      have : b.data.toList.length = b.size := Array.length_toList
      omega
    rw [this, List.append_nil]
  | succ n ih =>
    intro i acc h
    unfold ByteArray.toList.loop
    have h1 : i < b.size := by omega
    rw [if_pos h1, ih (i + 1) _ (by omega)]
    have hl : i < b.data.toList.length := by rw [show b.data.toList.length = b.size from Array.length_toList]; exact h1
    rw [List.drop_eq_getElem_cons hl, List.reverse_cons, List.append_assoc]
    congr 1
    simp only [List.singleton_append, List.cons.injEq, and_true]
    have : b.data.size = b.size := rfl
    simp [ByteArray.get!, h1, this]
theorem toList_data (b : ByteArray) : b.toList = b.data.toList := by
  unfold ByteArray.toList
  rw [Qpw b _ 0 [] rfl]
  simp
theorem toList_inj {a b : ByteArray} (h : a.toList = b.toList) : a = b := by
  rw [toList_data, toList_data] at h
  cases a
  cases b
  simp at h
  rw [h]
theorem Q32 {a b : ByteArray} : sEq a b = true ↔ a = b := by
  unfold sEq
  rw [beq_iff_eq]
  exact ⟨toList_inj, fun h => by rw [h]⟩
theorem Q12p (a b : ByteArray) : sEq a b = decide (a = b) := by
  rw [Bool.eq_iff_iff, Q32]
  simp
mutual
inductive Val where
  | mk (kind n : Int) (s : ByteArray) (list : List Val) (fields : List Fld)
inductive Fld where
  | mk (name : ByteArray) (v : Val)
end
def Val.kind : Val → Int
  | .mk k _ _ _ _ => k
def Val.n : Val → Int
  | .mk _ n _ _ _ => n
def Val.s : Val → ByteArray
  | .mk _ _ s _ _ => s
def Val.list : Val → List Val
  | .mk _ _ _ l _ => l
def Val.fields : Val → List Fld
  | .mk _ _ _ _ f => f
def Fld.name : Fld → ByteArray
  | .mk n _ => n
def Fld.v : Fld → Val
  | .mk _ v => v
theorem Val.eta (v : Val) : Val.mk v.kind v.n v.s v.list v.fields = v := by cases v; rfl
theorem Fld.eta (f : Fld) : Fld.mk f.name f.v = f := by cases f; rfl
mutual
def Val.cs : Val → List PV
  | .mk k n s l f => [.int .i64 k, .int .i64 n, .str s, .sl (Val.css l), .sl (Fld.css f)]
def Val.css : List Val → List (List PV)
  | [] => []
  | v :: r => v.cs :: Val.css r
def Fld.css : List Fld → List (List PV)
  | [] => []
  | f :: r => f.cs :: Fld.css r
def Fld.cs : Fld → List PV
  | .mk n v => .str n :: v.cs
end
def Val.rows (l : List Val) : List (List PV) := Val.css l
def Fld.rows (l : List Fld) : List (List PV) := Fld.css l
def Val.cells (v : Val) : List PV := [.int .i64 v.kind, .int .i64 v.n, .str v.s, .sl (Val.rows v.list), .sl (Fld.rows v.fields)]
def Fld.cells (f : Fld) : List PV := [.str f.name, .int .i64 f.v.kind, .int .i64 f.v.n, .str f.v.s, .sl (Val.rows f.v.list), .sl (Fld.rows f.v.fields)]
theorem Val.Q12n (v : Val) : v.cs = v.cells := by cases v; rfl
theorem Fld.Q12n (f : Fld) : f.cs = f.cells := by
  cases f with
  | mk n v => cases v; rfl
theorem Val.Q46 : Val.rows [] = [] := rfl
theorem Fld.Q46 : Fld.rows [] = [] := rfl
theorem Val.Q2w (v : Val) (l : List Val) : Val.rows (v :: l) = v.cells :: Val.rows l := by
  rw [← Val.Q12n]
  rfl
theorem Fld.Q2w (v : Fld) (l : List Fld) : Fld.rows (v :: l) = v.cells :: Fld.rows l := by
  rw [← Fld.Q12n]
  rfl
theorem Val.Q2j : ∀ l : List Val, Val.rows l = l.map Val.cells
  | [] => rfl
  | v :: r => by rw [Val.Q2w, Val.Q2j r]; rfl
theorem Fld.Q2j : ∀ l : List Fld, Fld.rows l = l.map Fld.cells
  | [] => rfl
  | v :: r => by rw [Fld.Q2w, Fld.Q2j r]; rfl
theorem Val.Qd (l : List Val) : (Val.rows l).length = l.length := by simp [Val.Q2j]
theorem Fld.Qd (l : List Fld) : (Fld.rows l).length = l.length := by simp [Fld.Q2j]
theorem Val.Qg {l : List Val} {i : Nat} {x : Val} (h : l[i]? = some x) : (Val.rows l)[i]? = some (Val.cells x) := by rw [Val.Q2j]; exact Go.Pv.Qg h
theorem Fld.Qg {l : List Fld} {i : Nat} {x : Fld} (h : l[i]? = some x) : (Fld.rows l)[i]? = some (Fld.cells x) := by rw [Fld.Q2j]; exact Go.Pv.Qg h
theorem Val.Q6g (l : List Val) (x : Val) : Val.rows (l ++ [x]) = Val.rows l ++ [Val.cells x] := by simp [Val.Q2j]
theorem Fld.Q6g (l : List Fld) (x : Fld) : Fld.rows (l ++ [x]) = Fld.rows l ++ [Fld.cells x] := by simp [Fld.Q2j]
theorem Val.Qjs (l : List Val) (n : Nat) : Val.rows (l.take n) = (Val.rows l).take n := by simp [Val.Q2j, List.map_take]
theorem Fld.Qjs (l : List Fld) (n : Nat) : Fld.rows (l.take n) = (Fld.rows l).take n := by simp [Fld.Q2j, List.map_take]
theorem Val.Qp (l : List Val) : ∀ r ∈ Val.rows l, r.length = 5 := by rw [Val.Q2j]; exact Qzl (f := Val.cells) (fun _ => rfl) l
theorem Fld.Qp (l : List Fld) : ∀ r ∈ Fld.rows l, r.length = 6 := by rw [Fld.Q2j]; exact Qzl (f := Fld.cells) (fun _ => rfl) l
theorem Val.Q5 (l : List Val) (sz : Nat) (h : sz = 5) : ViewOK sz (Val.rows l).flatten (Val.rows l) := by subst h; exact ⟨rfl, Val.Qp l, by rw [Val.Q2j]; exact Qrw (f := Val.cells) (fun _ => rfl) l⟩
theorem Fld.Q5 (l : List Fld) (sz : Nat) (h : sz = 6) : ViewOK sz (Fld.rows l).flatten (Fld.rows l) := by subst h; exact ⟨rfl, Fld.Qp l, by rw [Fld.Q2j]; exact Qrw (f := Fld.cells) (fun _ => rfl) l⟩
theorem Val.Q1x (v : Val) : SizeOf.sizeOf v.list < SizeOf.sizeOf v := by
  cases v with
  | mk k n s l f => simp only [Val.list, Val.mk.sizeOf_spec]; omega
theorem Val.Q15 (v : Val) : SizeOf.sizeOf v.fields < SizeOf.sizeOf v := by
  cases v with
  | mk k n s l f => simp only [Val.fields, Val.mk.sizeOf_spec]; omega
theorem Fld.lt_v (f : Fld) : SizeOf.sizeOf f.v < SizeOf.sizeOf f := by
  cases f with
  | mk n v => simp only [Fld.v, Fld.mk.sizeOf_spec]; omega
theorem szL {v x : Val} {i : Nat} (h : v.list[i]? = some x) : SizeOf.sizeOf x < SizeOf.sizeOf v :=
  Nat.lt_trans (List.sizeOf_lt_of_mem (Qz h)) v.Q1x
theorem szF {v : Val} {x : Fld} {i : Nat} (h : v.fields[i]? = some x) : SizeOf.sizeOf x.v < SizeOf.sizeOf v :=
  Nat.lt_trans x.lt_v (Nat.lt_trans (List.sizeOf_lt_of_mem (Qz h)) v.Q15)
inductive Val.Sm (B : Nat) : Val → Prop
  | mk (v : Val) (hl : v.list.length ≤ B) (hf : v.fields.length ≤ B) (sl : ∀ x ∈ v.list, Val.Sm B x) (sf : ∀ x ∈ v.fields, Val.Sm B x.v) : Val.Sm B v
theorem Val.Sm.all {B : Nat} {v : Val} (h : Val.Sm B v) : v.list.length ≤ B ∧ v.fields.length ≤ B ∧ (∀ x ∈ v.list, Val.Sm B x) ∧ (∀ x ∈ v.fields, Val.Sm B x.v) := by
  cases h with
  | mk _ h1 h2 h3 h4 => exact ⟨h1, h2, h3, h4⟩
theorem Val.Sm.mono {B C : Nat} (hb : B ≤ C) {v : Val} (h : Val.Sm B v) : Val.Sm C v := by
  induction h with
  | mk v h1 h2 _ _ i1 i2 => exact .mk v (by omega) (by omega) i1 i2
theorem Val.Sm.leaf {B : Nat} (k n : Int) (s : ByteArray) : Val.Sm B (.mk k n s [] []) := .mk _ (Nat.zero_le _) (Nat.zero_le _) (fun _ h => by cases h) (fun _ h => by cases h)
theorem Val.Sm.getD {B : Nat} {l : List Val} (h : ∀ x ∈ l, Val.Sm B x) (i : Nat) (k n : Int) (s : ByteArray) : Val.Sm B (l.getD i (.mk k n s [] [])) := by
  by_cases c : i < l.length
  · have := Qu l i (.mk k n s [] []) c
    exact h _ (Qz this)
  · rw [List.getD_eq_getElem?_getD, List.getElem?_eq_none (by omega)]
    exact .leaf k n s
inductive Q2m : Val → Prop
  | mk (v : Val) (h1 : Qsv v.kind) (h2 : Qsv v.n) (h3 : okS v.s) (hl : v.list.length * 80 ≤ 140737488351232) (hf : v.fields.length * 96 ≤ 140737488351232) (sl : ∀ x ∈ v.list, Q2m x) (sn : ∀ x ∈ v.fields, okS x.name) (sf : ∀ x ∈ v.fields, Q2m x.v) : Q2m v
def Q14h (f : Fld) : Prop := okS f.name ∧ Q2m f.v
theorem Q2m.all {v : Val} (h : Q2m v) : Qsv v.kind ∧ Qsv v.n ∧ okS v.s ∧ v.list.length * 80 ≤ 140737488351232 ∧ v.fields.length * 96 ≤ 140737488351232 ∧ (∀ x ∈ v.list, Q2m x) ∧ (∀ x ∈ v.fields, okS x.name ∧ Q2m x.v) := by
  cases h with
  | mk _ a b c d e f n g => exact ⟨a, b, c, d, e, f, fun x hx => ⟨n x hx, g x hx⟩⟩
theorem Q2m.sm {v : Val} (h : Q2m v) : Val.Sm 4611686018427387904 v := by
  induction h with
  | mk v _ _ _ hl hf _ _ _ i1 i2 => exact .mk v (by omega) (by omega) i1 i2
def Q6t (t : Nat) : Ty := .st [.int .i64, .int .i64, .str, .sl 80 (.nm t), .sl 96 (.st [.str, .nm t])]
theorem Qex {Γ : Nat → Option Ty} {t : Nat} (hΓ : Γ t = some (Q6t t)) : ∀ (k : Nat) (c : List PV), SizeOf.sizeOf c < k → Of Γ (.nm t) c → ∃ v : Val, c = v.cells ∧ Q2m v
  | 0, _, h, _ => absurd h (Nat.not_lt_zero _)
  | k + 1, c, hk, h => by
    have hb : Of Γ (Q6t t) c := by
      cases h with
      | nm _ ty _ hg h =>
        rw [hΓ] at hg
        injection hg with hg
        subst hg
        exact h
    have g0 := hb.st1
    obtain ⟨a0, b0, rfl, h0, g1⟩ := g0.Q6x
    obtain ⟨x0, rfl, k0⟩ := h0.i64
    obtain ⟨a1, b1, rfl, h1, g2⟩ := g1.Q6x
    obtain ⟨x1, rfl, k1⟩ := h1.i64
    obtain ⟨a2, b2, rfl, h2, g3⟩ := g2.Q6x
    obtain ⟨x2, rfl, k2⟩ := h2.str1
    obtain ⟨a3, b3, rfl, h3, g4⟩ := g3.Q6x
    obtain ⟨a4, b4, rfl, h4, g5⟩ := g4.Q6x
    have e := g5.empty
    subst e
    cases h3 with
    | sl _ _ l3 hl3 hr3 =>
    cases h4 with
    | sl _ _ l4 hl4 hr4 =>
    have s3 : SizeOf.sizeOf l3 < k := by simp at hk; omega
    have s4 : SizeOf.sizeOf l4 < k := by simp at hk; omega
    obtain ⟨x3, rfl, k3⟩ := Q7c (f := Val.cells) (ok := Q2m) l3 (fun r hr' => Qex hΓ k r (by have := List.sizeOf_lt_of_mem hr'; omega) (hr3 r hr'))
    obtain ⟨x4, rfl, k4⟩ := Q7c (f := Fld.cells) (ok := Q14h) l4 (fun r hr' => by
      have q0 := (hr4 r hr').st1
      obtain ⟨c0, d0, rfl, i0, q1⟩ := q0.Q6x
      obtain ⟨y0, rfl, m0⟩ := i0.str1
      obtain ⟨c1, d1, rfl, i1, q2⟩ := q1.Q6x
      have e := q2.empty
      subst e
      obtain ⟨y1, rfl, m1⟩ := Qex hΓ k c1 (by have := List.sizeOf_lt_of_mem hr'; simp at this; omega) i1
      exact ⟨.mk y0 y1, by simp [Fld.cells, Val.cells, Fld.name, Fld.v], m0, m1⟩)
    rw [List.length_map] at hl3 hl4
    refine ⟨.mk x0 x1 x2 x3 x4, ?_, .mk _ k0 k1 k2 hl3 hl4 k3 (fun x hx => (k4 x hx).1) (fun x hx => (k4 x hx).2)⟩
    simp [Val.cells, Val.kind, Val.n, Val.s, Val.list, Val.fields, Val.Q2j, Fld.Q2j]
theorem Qjz {Γ : Nat → Option Ty} {t : Nat} (hΓ : Γ t = some (Q6t t)) {c : List PV} (h : Of Γ (.nm t) c) : ∃ v : Val, c = v.cells ∧ Q2m v := Qex hΓ _ c (Nat.lt_succ_self _) h
theorem Q23 {α : Type} [SizeOf α] (x : α) (r : List α) : SizeOf.sizeOf x < SizeOf.sizeOf (x :: r) := by
  simp only [List.cons.sizeOf_spec]
  omega
theorem Q1v {α : Type} [SizeOf α] (x : α) (r : List α) : SizeOf.sizeOf r < SizeOf.sizeOf (x :: r) := by
  simp only [List.cons.sizeOf_spec]
  omega
theorem Q1k (x : Fld) (r : List Fld) : SizeOf.sizeOf x.v < SizeOf.sizeOf (x :: r) := Nat.lt_trans x.lt_v (Q23 x r)
def gam (t : Nat) : Nat → Option Ty := fun k => bif Nat.beq k t then some (Q6t t) else none
theorem Qxt (t : Nat) : gam t t = some (Q6t t) := by simp [gam]
theorem gam_tab {P : Program} {t : Nat} (h : Q7g P (gam t) (Q6t t) t = true) : TabOK P (gam t) := by
  intro k ty hk
  unfold gam at hk
  cases c : Nat.beq k t with
  | false => rw [c] at hk; cases hk
  | true =>
    rw [c] at hk
    simp only [cond_true, Option.some.injEq] at hk
    subst hk
    rw [Nat.eq_of_beq_eq_true c]
    exact ⟨rfl, h⟩
end Go.Pv
namespace Go.Pv
theorem Qy0 {G : Nat → Option Fun} {e e' : En} {r : Rs} (h : Q7 G e r) (he : e = e') : Q7 G e' r := he ▸ h
end Go.Pv
end

section
/- Strings byte by byte; rows that are cloned. -/
namespace Go.Pv
def letters (s : ByteArray) : List Int := s.data.toList.map fun b => (b.toNat : Int)
theorem Q40 (s : ByteArray) : (letters s).length = s.size := by
  unfold letters
  rw [List.length_map, Array.length_toList]
  rfl
def sixE (s : ByteArray) (i : Int) : Option Eff := (opP (fun _ => .un) (.index (.c (.str s)) (.c (.int .i64 i)))).bind fun v => some ⟨v, [], []⟩
theorem Q1b (s : ByteArray) (i : Nat) (x : Int) (h : (letters s)[i]? = some x) : sixE s (i : Int) = some (vE (.int .u8 x)) := by
  unfold sixE
  simp only [opP, Opd.ev, asNat]
  rw [show decide (0 ≤ (i : Int)) = true by simp]
  simp only [cond_true, Option.bind_some, Int.toNat_natCast]
  unfold letters at h
  rw [List.getElem?_map, Array.getElem?_toList] at h
  cases e : s.data[i]? with
  | none => rw [e] at h; cases h
  | some b =>
    rw [e] at h
    injection h with h
    subst h
    rfl
theorem Qvo : ∀ p, plain p = true → bare p = true := fun p h => by cases p <;> first | rfl | (cases h)
theorem Q56 {G : Nat → Option Fun} {f sz bytes : Nat} (hG : G f = some (.ax (Qfj sz bytes))) {rows : List (List PV)} {n : Nat} (hn : rows.length = n) (hv : ViewOK sz rows.flatten rows) (hb : n * bytes ≤ 140737488355328) :
    Q7 G (.call f [.sl rows] []) (.ret (.ms 0 sz 0 n) [⟨sz, 0, true, rows.flatten⟩]) := by
  refine ⟨1, ?_⟩
  subst hn
  simp only [runs, phi, hG, Qfj]
  have h1 : Q5n rows sz = true := Qzu hv.size
  have h2 : rows.flatten.all bare = true := List.all_eq_true.2 fun p hp => Qvo p (hv.all p hp)
  rw [h1, h2, Nat.ble_eq_true_of_le hb]
  rfl
end Go.Pv
namespace Go.Pv
theorem szM {v x : Val} (h : x ∈ v.list) : SizeOf.sizeOf x < SizeOf.sizeOf v := Nat.lt_trans (List.sizeOf_lt_of_mem h) v.Q1x
theorem szN {v : Val} {x : Fld} (h : x ∈ v.fields) : SizeOf.sizeOf x.v < SizeOf.sizeOf v := Nat.lt_trans x.lt_v (Nat.lt_trans (List.sizeOf_lt_of_mem h) v.Q15)
end Go.Pv
end

section
/-
  What a law is handed, where its bulk is bounded: nothing within is longer.
-/
namespace Go.Pv
open Go.RowKit
inductive Cap (N : Nat) : PV → Prop
  | bool (b : Bool) : Cap N (.bool b)
  | int (k : IntKind) (n : Int) : Cap N (.int k n)
  | str (s : ByteArray) (h : s.size ≤ N) : Cap N (.str s)
  | sl (l : List (List PV)) (h : l.length ≤ N) (hl : ∀ r ∈ l, ∀ p ∈ r, Cap N p) : Cap N (.sl l)
def CapL (N : Nat) (c : List PV) : Prop := ∀ p ∈ c, Cap N p
theorem CapL.one {N : Nat} {p : PV} (h : Cap N p) : CapL N [p] := fun q hq => by
  rw [List.mem_singleton] at hq
  subst hq
  exact h
inductive CapD {H : Type} (N : Nat) : DataW H → Prop
  | lit (l : Lit) (h : ∀ b, l = .string b → b.length ≤ N) : CapD N (.lit l)
  | agg (parts : List (DataW H)) (h : ∀ d ∈ parts, CapD N d) : CapD N (.agg parts)
  | slice (elems spare : List (DataW H)) (h : elems.length ≤ N) (hl : ∀ d ∈ elems, CapD N d) : CapD N (.slice elems spare)
  | nil : CapD N .nil
  | ptr (d : DataW H) : CapD N (.ptr d)
  | iface (t : String) (d : DataW H) : CapD N (.iface t d)
  | map (e : List (Lit × DataW H)) : CapD N (.map e)
  | held (h : H) : CapD N (.held h)
def ArgB (Γ : Nat → Option Ty) (N : Nat) (ty : Ty) (p : PV) : Prop := ∃ c, Of Γ ty c ∧ CapL N c ∧ (bif ty.isSt Γ then p = .agg c else c = [p])
section
variable {H : Type} {enc : TypeId × Value → H} {P : Program} {w : World} {base : Nat} {sp : Nat → Bool} {held : Bool} {Γ : Nat → Option Ty} {N : Nat}
end
theorem ArgB.one {Γ : Nat → Option Ty} {N : Nat} {ty : Ty} {p : PV} (h : ArgB Γ N ty p) (hs : ty.isSt Γ = false) : Of Γ ty [p] ∧ CapL N [p] := by
  obtain ⟨c, hc, hb, hp⟩ := h
  rw [hs] at hp
  have hp : c = [p] := hp
  subst hp
  exact ⟨hc, hb⟩
theorem ArgB.agg {Γ : Nat → Option Ty} {N : Nat} {ty : Ty} {p : PV} (h : ArgB Γ N ty p) (hs : ty.isSt Γ = true) : ∃ c, p = .agg c ∧ Of Γ ty c ∧ CapL N c := by
  obtain ⟨c, hc, hb, hp⟩ := h
  rw [hs] at hp
  exact ⟨c, hp, hc, hb⟩
end Go.Pv
end

section
/- What the functions on values compute (printed by a program). -/
namespace Go.Proofs.Ytnhhddbbppbblaa
open Go.Pv
abbrev G : Nat → Option Fun := tabG Ir.table
abbrev Γ : Nat → Option Ty := gam 25
theorem Q10v (a b : ByteArray) : Q7 G (.call 54 [.str a, .str b] []) (.ret (.int .i64 (sCmp a b)) []) := ⟨1, by kernel_rfl⟩
mutual
def Q4c (p0 : Val) (p1 : Int) : Int :=
 (Q36 p0 p0.fields 0 (Q2o p0 p0.list 0 (w64 ((w64 (p1 - 1)) - (ByteArray.size p0.s : Int)))))
termination_by SizeOf.sizeOf p0
decreasing_by all_goals first | exact Val.Q1x _ | exact Val.Q15 _ | exact Q23 _ _ | exact Q1v _ _ | exact Q1k _ _
def Q2o (p0 : Val) : List Val → Nat → Int → Int
 | [], _i0, v0_1 =>
  v0_1
 | x0 :: r0, i0, v0_1 =>
  bif (decide (0 ≤ v0_1)) then
   Q2o p0 r0 (i0 + 1) (Q4c x0 v0_1)
  else
   v0_1
termination_by l => SizeOf.sizeOf l
decreasing_by all_goals first | exact Val.Q1x _ | exact Val.Q15 _ | exact Q23 _ _ | exact Q1v _ _ | exact Q1k _ _
def Q36 (p0 : Val) : List Fld → Nat → Int → Int
 | [], _i1, v1_1 =>
  v1_1
 | x1 :: r1, i1, v1_1 =>
  bif (decide (0 ≤ v1_1)) then
   Q36 p0 r1 (i1 + 1) (Q4c x1.v (w64 (v1_1 - (ByteArray.size x1.name : Int))))
  else
   v1_1
termination_by l => SizeOf.sizeOf l
decreasing_by all_goals first | exact Val.Q1x _ | exact Val.Q15 _ | exact Q23 _ _ | exact Q1v _ _ | exact Q1k _ _
end
def Qml (_p0 : Val) (i0 : Nat) (v0_1 : Int) : List PV :=
  [.un, .int .i64 v0_1, .bx 0 0, .un, .un, .int .i64 (i0 : Int), .un, .un, .un, .un, .un, .un, .un, .un, .un, .un, .un, .un, .un, .un, .un, .un, .un, .un, .un, .un, .un, .un, .un, .un, .un, .un, .un, .un, .un, .un, .un, .un, .un, .un, .un, .un, .un, .un, .un, .un, .un, .un, .un, .un, .un, .un, .un, .un, .un, .un, .un, .un, .un]
def Qlo (p0 : Val) (_i0 : Nat) (_v0_1 : Int) : List Ob :=
  [⟨5, 0, true, [.int .i64 p0.kind, .int .i64 p0.n, .str p0.s, .sl (Val.rows p0.list), .sl (Fld.rows p0.fields)]⟩]
def Q7m (p0 : Val) (i0 : Nat) (v0_1 : Int) : En := .loop 0 Ir.Qe8 Ir.Q11w (Qml p0 i0 v0_1) (Qlo p0 i0 v0_1)
def Q97 (p0 : Val) (q0 : Int) (z : Nat → PV) (_zo : Nat → List PV) : St :=
  ⟨[z 0, .int .i64 q0, .bx 0 0, z 3, z 4, z 5, z 6, z 7, z 8, z 9, z 10, z 11, z 12, z 13, z 14, z 15, z 16, z 17, z 18, z 19, z 20, z 21, z 22, z 23, z 24, z 25, z 26, z 27, z 28, z 29, z 30, z 31, z 32, z 33, z 34, z 35, z 36, z 37, z 38, z 39, z 40, z 41, z 42, z 43, z 44, z 45, z 46, z 47, z 48, z 49, z 50, z 51, z 52, z 53, z 54, z 55, z 56, z 57, z 58], [(0, ⟨5, 0, true, [.int .i64 p0.kind, .int .i64 p0.n, .str p0.s, .sl (Val.rows p0.list), .sl (Fld.rows p0.fields)]⟩)], 577⟩
def Q8o (p0 : Val) (e : En) (q : Int) : Prop := ∃ z zo, Q7 G e (.st (.exit 0) (Q97 p0 q z zo))
theorem Qj5 (p0 : Val) {e e' : En} (h : ∀ r, Q7 G e r → Q7 G e' r) : ∀ q, Q8o p0 e q → Q8o p0 e' q
  | _, ⟨z, zo, hz⟩ => ⟨z, zo, h _ hz⟩
def Qoe (_p0 : Val) (i1 : Nat) (v1_1 : Int) : List PV :=
  [.un, .int .i64 v1_1, .bx 0 0, .un, .un, .un, .int .i64 (i1 : Int), .un, .un, .un, .un, .un, .un, .un, .un, .un, .un, .un, .un, .un, .un, .un, .un, .un, .un, .un, .un, .un, .un, .un, .un, .un, .un, .un, .un, .un, .un, .un, .un, .un, .un, .un, .un, .un, .un, .un, .un, .un, .un, .un, .un, .un, .un, .un, .un, .un, .un, .un, .un]
def Qn9 (p0 : Val) (_i1 : Nat) (_v1_1 : Int) : List Ob :=
  [⟨5, 0, true, [.int .i64 p0.kind, .int .i64 p0.n, .str p0.s, .sl (Val.rows p0.list), .sl (Fld.rows p0.fields)]⟩]
def Q8e (p0 : Val) (i1 : Nat) (v1_1 : Int) : En := .loop 0 Ir.Qeq Ir.Q11m (Qoe p0 i1 v1_1) (Qn9 p0 i1 v1_1)
def Q9q (p0 : Val) (q0 : Int) (z : Nat → PV) (_zo : Nat → List PV) : St :=
  ⟨[z 0, .int .i64 q0, z 2, z 3, z 4, z 5, z 6, z 7, z 8, z 9, z 10, z 11, z 12, z 13, z 14, z 15, z 16, z 17, z 18, z 19, z 20, z 21, z 22, z 23, z 24, z 25, z 26, z 27, z 28, z 29, z 30, z 31, z 32, z 33, z 34, z 35, z 36, z 37, z 38, z 39, z 40, z 41, z 42, z 43, z 44, z 45, z 46, z 47, z 48, z 49, z 50, z 51, z 52, z 53, z 54, z 55, z 56, z 57, z 58], [(0, ⟨5, 0, true, [.int .i64 p0.kind, .int .i64 p0.n, .str p0.s, .sl (Val.rows p0.list), .sl (Fld.rows p0.fields)]⟩)], 577⟩
def Q8q (p0 : Val) (e : En) (q : Int) : Prop := ∃ z zo, Q7 G e (.st (.exit 2) (Q9q p0 q z zo))
theorem Qjy (p0 : Val) {e e' : En} (h : ∀ r, Q7 G e r → Q7 G e' r) : ∀ q, Q8q p0 e q → Q8q p0 e' q
  | _, ⟨z, zo, hz⟩ => ⟨z, zo, h _ hz⟩
def Qzy (p0 : Val) (p1 : Int) : En := .call 37 [.agg (Val.cells p0), .int .i64 p1] []
def Qyl (p0 : Val) (p1 : Int) : Rs := .ret (.int .i64 (Q4c p0 p1)) []
abbrev Ql5 (p0 : Val) : Prop := Val.Sm 4611686018427387904 p0
def Q58 (p0 : Val) : Prop := ∀ (q : Val), SizeOf.sizeOf q < SizeOf.sizeOf p0 → ∀ (p1 : Int), Ql5 q → Q7 G (Qzy q p1) (Qyl q p1)
def Q6c (p0 : Val) : Prop := (List.length p0.list ≤ 4611686018427387904) ∧ (∀ x0 ∈ p0.list, Ql5 x0) ∧ True
def Q6e (p0 : Val) : Prop := (List.length p0.fields ≤ 4611686018427387904) ∧ (∀ x1 ∈ p0.fields, Ql5 x1.v) ∧ True
theorem Qs4 (p0 : Val) (_p1 : Int) (H : Ql5 p0) : (Q6c p0) ∧ (Q6e p0) ∧ True := by
  obtain ⟨h1, h2, h3, h4⟩ := H.all
  simp only [Q6c, Q6e]
  exact ⟨⟨h1, h3, trivial⟩, ⟨h2, h4, trivial⟩, trivial⟩
def Qh7 (p0 : Val) (i0 : Nat) (_v0_1 : Int) : List PV :=
  [.un, .un, .un, .un, .un, .int .i64 (i0 : Int), .un, .un, .un, .un, .un, .un, .un, .int .i64 (i0 : Int), .bx 0 3, .sl (Val.rows p0.list), .int .i64 ((List.length p0.list) : Int), .bool false, .bool false, .tup [], .tup [], .bool false]
def Qdp (_p0 : Val) (_i0 : Nat) (_v0_1 : Int) : List (Nat × List PV) :=
  []
theorem Qtt (p0 : Val) (_H : Q6c p0) (_rec : Q58 p0) (i0 : Nat) (v0_1 : Int) (hc0 : (decide ((i0 : Int) < ((List.length p0.list) : Int))) = false) : Q8o p0 (Q7m p0 i0 v0_1) v0_1 := by
 exact ⟨(envF (Qh7 p0 i0 v0_1)), (zoF (Qdp p0 i0 v0_1)), Qe VOK.nil (x := ((.exit 0), Q97 p0 v0_1 (envF (Qh7 p0 i0 v0_1)) (zoF (Qdp p0 i0 v0_1)))) [hP 3 (Qk (Val.rows p0.list) (List.length p0.list) (Val.Qd p0.list)), hB 0 hc0] [] (by kernel_rfl)⟩
theorem Qsq (p0 : Val) (H : Q6c p0) (rec : Q58 p0) (x0 : Val) (i0 : Nat) (v0_1 : Int) (hx0 : p0.list[i0]? = some x0) (hi0 : i0 < List.length p0.list) (hc0 : (decide ((i0 : Int) < ((List.length p0.list) : Int))) = true) (h0 : (decide (0 ≤ v0_1)) = true) {r : Rs} (hr : Q7 G (Q7m p0 (i0 + 1) (Q4c x0 v0_1)) r) : Q7 G (Q7m p0 i0 v0_1) r := by
 have hB0 := H.1; have e0 := of_decide_eq_true h0
 exact Qb VOK.nil (y := (Qml p0 (i0 + 1) (Q4c x0 v0_1), Qlo p0 (i0 + 1) (Q4c x0 v0_1))) [hP 3 (Qk (Val.rows p0.list) (List.length p0.list) (Val.Qd p0.list)), hB 0 hc0, hB 2 h0, hP 4 (Q1o 5 (Val.rows p0.list) i0 _ (Val.Qg hx0) rfl), hP 5 (Qv i0 (by omega))] [aN (rec x0 (szL hx0) v0_1 (H.2.1 x0 (Qz hx0)))] (by kernel_rfl) hr
def Qgk (p0 : Val) (i0 : Nat) (v0_1 : Int) (_x0 : Val) : List PV :=
  [.un, .un, .un, .un, .un, .int .i64 (i0 : Int), .un, .un, .un, .un, .un, .un, .un, .int .i64 (i0 : Int), .bx 0 3, .sl (Val.rows p0.list), .int .i64 ((List.length p0.list) : Int), .bool true, .bool true, .int .i64 v0_1, .bool false, .bool false]
def Qet (_p0 : Val) (_i0 : Nat) (_v0_1 : Int) (_x0 : Val) : List (Nat × List PV) :=
  []
theorem Qv5 (p0 : Val) (_H : Q6c p0) (_rec : Q58 p0) (x0 : Val) (i0 : Nat) (v0_1 : Int) (_hx0 : p0.list[i0]? = some x0) (_hi0 : i0 < List.length p0.list) (hc0 : (decide ((i0 : Int) < ((List.length p0.list) : Int))) = true) (h0 : (decide (0 ≤ v0_1)) = false) : Q8o p0 (Q7m p0 i0 v0_1) v0_1 := by
 exact ⟨(envF (Qgk p0 i0 v0_1 x0)), (zoF (Qet p0 i0 v0_1 x0)), Qe VOK.nil (x := ((.exit 0), Q97 p0 v0_1 (envF (Qgk p0 i0 v0_1 x0)) (zoF (Qet p0 i0 v0_1 x0)))) [hP 3 (Qk (Val.rows p0.list) (List.length p0.list) (Val.Qd p0.list)), hB 0 hc0, hB 2 h0] [] (by kernel_rfl)⟩
theorem Qmm (p0 : Val) (H : Q6c p0) (rec : Q58 p0) : ∀ (r0 : List Val) (i0 : Nat) (v0_1 : Int), List.drop i0 p0.list = r0 → Q8o p0 (Q7m p0 i0 v0_1) (Q2o p0 r0 i0 v0_1)
 | [], i0, v0_1, hd => by
  have hc0 : (decide ((i0 : Int) < ((List.length p0.list) : Int))) = false := by have := Q1p hd; simp; omega
  rw [Q2o]
  exact Qtt p0 H rec i0 v0_1 hc0
 | x0 :: r0, i0, v0_1, hd => by
  obtain ⟨hx0, hi0, hd'⟩ := Q1d hd
  have hc0 : (decide ((i0 : Int) < ((List.length p0.list) : Int))) = true := by simp; omega
  rw [Q2o]
  cases h0 : (decide (0 ≤ v0_1)) with
  | true =>
   exact Qj5 p0 (fun r hr => Qsq p0 H rec x0 i0 v0_1 hx0 hi0 hc0 h0 hr) _ (Qmm p0 H rec r0 (i0 + 1) (Q4c x0 v0_1) hd')
  | false =>
   exact Qv5 p0 H rec x0 i0 v0_1 hx0 hi0 hc0 h0
def Qg1 (p0 : Val) (i1 : Nat) (_v1_1 : Int) : List PV :=
  [.un, .un, .bx 0 0, .un, .un, .un, .int .i64 (i1 : Int), .un, .un, .un, .un, .un, .un, .un, .un, .un, .un, .un, .un, .un, .un, .un, .un, .un, .un, .un, .un, .un, .un, .un, .un, .int .i64 (i1 : Int), .bx 0 4, .sl (Fld.rows p0.fields), .int .i64 ((List.length p0.fields) : Int), .bool false, .bool false, .tup [], .tup [], .bool false]
def Qdq (_p0 : Val) (_i1 : Nat) (_v1_1 : Int) : List (Nat × List PV) :=
  []
theorem Qtm (p0 : Val) (_H : Q6e p0) (_rec : Q58 p0) (i1 : Nat) (v1_1 : Int) (hc1 : (decide ((i1 : Int) < ((List.length p0.fields) : Int))) = false) : Q8q p0 (Q8e p0 i1 v1_1) v1_1 := by
 exact ⟨(envF (Qg1 p0 i1 v1_1)), (zoF (Qdq p0 i1 v1_1)), Qe VOK.nil (x := ((.exit 2), Q9q p0 v1_1 (envF (Qg1 p0 i1 v1_1)) (zoF (Qdq p0 i1 v1_1)))) [hP 3 (Qk (Fld.rows p0.fields) (List.length p0.fields) (Fld.Qd p0.fields)), hB 0 hc1] [] (by kernel_rfl)⟩
theorem Qut (p0 : Val) (H : Q6e p0) (rec : Q58 p0) (x1 : Fld) (i1 : Nat) (v1_1 : Int) (hx1 : p0.fields[i1]? = some x1) (hi1 : i1 < List.length p0.fields) (hc1 : (decide ((i1 : Int) < ((List.length p0.fields) : Int))) = true) (h0 : (decide (0 ≤ v1_1)) = true) {r : Rs} (hr : Q7 G (Q8e p0 (i1 + 1) (Q4c x1.v (w64 (v1_1 - (ByteArray.size x1.name : Int))))) r) : Q7 G (Q8e p0 i1 v1_1) r := by
 have hB0 := H.1; have e0 := of_decide_eq_true h0
 exact Qb VOK.nil (y := (Qoe p0 (i1 + 1) (Q4c x1.v (w64 (v1_1 - (ByteArray.size x1.name : Int)))), Qn9 p0 (i1 + 1) (Q4c x1.v (w64 (v1_1 - (ByteArray.size x1.name : Int)))))) [hP 3 (Qk (Fld.rows p0.fields) (List.length p0.fields) (Fld.Qd p0.fields)), hB 0 hc1, hB 2 h0, hP 4 (Q1o 6 (Fld.rows p0.fields) i1 _ (Fld.Qg hx1) rfl), hP 6 (Q1o 6 (Fld.rows p0.fields) i1 _ (Fld.Qg hx1) rfl), hP 7 (Qv i1 (by omega))] [aN (rec x1.v (szF hx1) (w64 (v1_1 - (ByteArray.size x1.name : Int))) (H.2.1 x1 (Qz hx1)))] (by kernel_rfl) hr
def Qic (p0 : Val) (i1 : Nat) (v1_1 : Int) (_x1 : Fld) : List PV :=
  [.un, .un, .bx 0 0, .un, .un, .un, .int .i64 (i1 : Int), .un, .un, .un, .un, .un, .un, .un, .un, .un, .un, .un, .un, .un, .un, .un, .un, .un, .un, .un, .un, .un, .un, .un, .un, .int .i64 (i1 : Int), .bx 0 4, .sl (Fld.rows p0.fields), .int .i64 ((List.length p0.fields) : Int), .bool true, .bool true, .int .i64 v1_1, .bool false, .bool false]
def Qez (_p0 : Val) (_i1 : Nat) (_v1_1 : Int) (_x1 : Fld) : List (Nat × List PV) :=
  []
theorem Qtb (p0 : Val) (_H : Q6e p0) (_rec : Q58 p0) (x1 : Fld) (i1 : Nat) (v1_1 : Int) (_hx1 : p0.fields[i1]? = some x1) (_hi1 : i1 < List.length p0.fields) (hc1 : (decide ((i1 : Int) < ((List.length p0.fields) : Int))) = true) (h0 : (decide (0 ≤ v1_1)) = false) : Q8q p0 (Q8e p0 i1 v1_1) v1_1 := by
 exact ⟨(envF (Qic p0 i1 v1_1 x1)), (zoF (Qez p0 i1 v1_1 x1)), Qe VOK.nil (x := ((.exit 2), Q9q p0 v1_1 (envF (Qic p0 i1 v1_1 x1)) (zoF (Qez p0 i1 v1_1 x1)))) [hP 3 (Qk (Fld.rows p0.fields) (List.length p0.fields) (Fld.Qd p0.fields)), hB 0 hc1, hB 2 h0] [] (by kernel_rfl)⟩
theorem Qmi (p0 : Val) (H : Q6e p0) (rec : Q58 p0) : ∀ (r1 : List Fld) (i1 : Nat) (v1_1 : Int), List.drop i1 p0.fields = r1 → Q8q p0 (Q8e p0 i1 v1_1) (Q36 p0 r1 i1 v1_1)
 | [], i1, v1_1, hd => by
  have hc1 : (decide ((i1 : Int) < ((List.length p0.fields) : Int))) = false := by have := Q1p hd; simp; omega
  rw [Q36]
  exact Qtm p0 H rec i1 v1_1 hc1
 | x1 :: r1, i1, v1_1, hd => by
  obtain ⟨hx1, hi1, hd'⟩ := Q1d hd
  have hc1 : (decide ((i1 : Int) < ((List.length p0.fields) : Int))) = true := by simp; omega
  rw [Q36]
  cases h0 : (decide (0 ≤ v1_1)) with
  | true =>
   exact Qjy p0 (fun r hr => Qut p0 H rec x1 i1 v1_1 hx1 hi1 hc1 h0 hr) _ (Qmi p0 H rec r1 (i1 + 1) (Q4c x1.v (w64 (v1_1 - (ByteArray.size x1.name : Int)))) hd')
  | false =>
   exact Qtb p0 H rec x1 i1 v1_1 hx1 hi1 hc1 h0
theorem Q16e (p0 : Val) (p1 : Int) (H : Ql5 p0) (rec : Q58 p0) : Q7 G (Qzy p0 p1) (Qyl p0 p1) := by
  unfold Qyl
  rw [Q4c]
  have hl0 := Qmm p0 ((Qs4 p0 p1 H).1) rec p0.list 0 (w64 ((w64 (p1 - 1)) - (ByteArray.size p0.s : Int))) (by simp)
  obtain ⟨z0, zo0, hl0⟩ := hl0
  have hl1 := Qmi p0 ((Qs4 p0 p1 H).2.1) rec p0.fields 0 (Q2o p0 p0.list 0 (w64 ((w64 (p1 - 1)) - (ByteArray.size p0.s : Int)))) (by simp)
  obtain ⟨z1, zo1, hl1⟩ := hl1
  exact Q9 (fn := Ir.K10) rfl VOK.nil [] [aN hl0, aN hl1] (by kernel_rfl)
theorem Q13c : ∀ (k : Nat) (p0 : Val), SizeOf.sizeOf p0 < k → ∀ (p1 : Int), Ql5 p0 → Q7 G (Qzy p0 p1) (Qyl p0 p1)
  | 0, _, h, _, _ => absurd h (Nat.not_lt_zero _)
  | k + 1, p0, h, p1, H => Q16e p0 p1 H (fun q hq p1 hH => Q13c k q (by omega) p1 hH)
theorem Q16b (p0 : Val) (p1 : Int) (H : Ql5 p0) : Q7 G (Qzy p0 p1) (Qyl p0 p1) := Q13c _ p0 (Nat.lt_succ_self _) p1 H
def s_Kz (p0 : Val) (p1 : Int) : Bool :=
 (decide (0 ≤ (Q4c p0 p1)))
def c_Kz (p0 : Val) (p1 : Int) : En := .call 22 [.agg (Val.cells p0), .int .i64 p1] []
def a_Kz (p0 : Val) (p1 : Int) : Rs := .ret (.bool (s_Kz p0 p1)) []
def H_Kz (p0 : Val) (_p1 : Int) : Prop := (Ql5 p0) ∧ True
theorem t_Kz (p0 : Val) (p1 : Int) (H : H_Kz p0 p1) : Q7 G (c_Kz p0 p1) (a_Kz p0 p1) := by
 unfold a_Kz s_Kz
 exact Q9 (fn := Ir.Kz) rfl VOK.nil [] [aN (Q16b p0 p1 H.1)] (by kernel_rfl)
mutual
def s_Kn (p0 : Val) : Int :=
 (Qes p0 p0.fields 0 (Q9m p0 p0.list 0 1))
termination_by SizeOf.sizeOf p0
decreasing_by all_goals first | exact Val.Q1x _ | exact Val.Q15 _ | exact Q23 _ _ | exact Q1v _ _ | exact Q1k _ _
def Q9m (p0 : Val) : List Val → Nat → Int → Int
 | [], _i0, v0_1 =>
  v0_1
 | x0 :: r0, i0, v0_1 =>
  Q9m p0 r0 (i0 + 1) (w64 (v0_1 + (s_Kn x0)))
termination_by l => SizeOf.sizeOf l
decreasing_by all_goals first | exact Val.Q1x _ | exact Val.Q15 _ | exact Q23 _ _ | exact Q1v _ _ | exact Q1k _ _
def Qes (p0 : Val) : List Fld → Nat → Int → Int
 | [], _i1, v1_1 =>
  v1_1
 | x1 :: r1, i1, v1_1 =>
  Qes p0 r1 (i1 + 1) (w64 (v1_1 + (s_Kn x1.v)))
termination_by l => SizeOf.sizeOf l
decreasing_by all_goals first | exact Val.Q1x _ | exact Val.Q15 _ | exact Q23 _ _ | exact Q1v _ _ | exact Q1k _ _
end
def Qr2 (_p0 : Val) (i0 : Nat) (v0_1 : Int) : List PV :=
  [.un, .bx 0 0, .un, .int .i64 v0_1, .int .i64 (i0 : Int), .un, .un, .un, .un, .un, .un, .un, .un, .un, .un, .un, .un, .un, .un, .un, .un, .un, .un, .un, .un, .un, .un, .un, .un, .un, .un, .un, .un, .un, .un, .un, .un, .un]
def Qs9 (p0 : Val) (_i0 : Nat) (_v0_1 : Int) : List Ob :=
  [⟨5, 0, true, [.int .i64 p0.kind, .int .i64 p0.n, .str p0.s, .sl (Val.rows p0.list), .sl (Fld.rows p0.fields)]⟩]
def Qjj (p0 : Val) (i0 : Nat) (v0_1 : Int) : En := .loop 0 Ir.Qhp Ir.Q13u (Qr2 p0 i0 v0_1) (Qs9 p0 i0 v0_1)
def Qlf (p0 : Val) (q0 : Int) (z : Nat → PV) (_zo : Nat → List PV) : St :=
  ⟨[z 0, .bx 0 0, z 2, .int .i64 q0, z 4, z 5, z 6, z 7, z 8, z 9, z 10, z 11, z 12, z 13, z 14, z 15, z 16, z 17, z 18, z 19, z 20, z 21, z 22, z 23, z 24, z 25, z 26, z 27, z 28, z 29, z 30, z 31, z 32, z 33, z 34, z 35, z 36, z 37], [(0, ⟨5, 0, true, [.int .i64 p0.kind, .int .i64 p0.n, .str p0.s, .sl (Val.rows p0.list), .sl (Fld.rows p0.fields)]⟩)], 321⟩
def Qk0 (p0 : Val) (e : En) (q : Int) : Prop := ∃ z zo, Q7 G e (.st (.exit 0) (Qlf p0 q z zo))
theorem Qni (p0 : Val) {e e' : En} (h : ∀ r, Q7 G e r → Q7 G e' r) : ∀ q, Qk0 p0 e q → Qk0 p0 e' q
  | _, ⟨z, zo, hz⟩ => ⟨z, zo, h _ hz⟩
def Qqw (_p0 : Val) (i1 : Nat) (v1_1 : Int) : List PV :=
  [.un, .bx 0 0, .un, .int .i64 v1_1, .un, .int .i64 (i1 : Int), .un, .un, .un, .un, .un, .un, .un, .un, .un, .un, .un, .un, .un, .un, .un, .un, .un, .un, .un, .un, .un, .un, .un, .un, .un, .un, .un, .un, .un, .un, .un, .un]
def Qqa (p0 : Val) (_i1 : Nat) (_v1_1 : Int) : List Ob :=
  [⟨5, 0, true, [.int .i64 p0.kind, .int .i64 p0.n, .str p0.s, .sl (Val.rows p0.list), .sl (Fld.rows p0.fields)]⟩]
def Qjc (p0 : Val) (i1 : Nat) (v1_1 : Int) : En := .loop 0 Ir.Qhs Ir.Q13k (Qqw p0 i1 v1_1) (Qqa p0 i1 v1_1)
def Qnc (p0 : Val) (q0 : Int) (z : Nat → PV) (_zo : Nat → List PV) : St :=
  ⟨[z 0, z 1, z 2, .int .i64 q0, z 4, z 5, z 6, z 7, z 8, z 9, z 10, z 11, z 12, z 13, z 14, z 15, z 16, z 17, z 18, z 19, z 20, z 21, z 22, z 23, z 24, z 25, z 26, z 27, z 28, z 29, z 30, z 31, z 32, z 33, z 34, z 35, z 36, z 37], [(0, ⟨5, 0, true, [.int .i64 p0.kind, .int .i64 p0.n, .str p0.s, .sl (Val.rows p0.list), .sl (Fld.rows p0.fields)]⟩)], 321⟩
def Qkk (p0 : Val) (e : En) (q : Int) : Prop := ∃ z zo, Q7 G e (.st (.exit 2) (Qnc p0 q z zo))
theorem Qnw (p0 : Val) {e e' : En} (h : ∀ r, Q7 G e r → Q7 G e' r) : ∀ q, Qkk p0 e q → Qkk p0 e' q
  | _, ⟨z, zo, hz⟩ => ⟨z, zo, h _ hz⟩
def c_Kn (p0 : Val) : En := .call 39 [.agg (Val.cells p0)] []
def a_Kn (p0 : Val) : Rs := .ret (.int .i64 (s_Kn p0)) []
abbrev H_Kn (p0 : Val) : Prop := Val.Sm 4611686018427387904 p0
def Qe4 (p0 : Val) : Prop := ∀ (q : Val), SizeOf.sizeOf q < SizeOf.sizeOf p0 → H_Kn q → Q7 G (c_Kn q) (a_Kn q)
def Qen (p0 : Val) : Prop := (List.length p0.list ≤ 4611686018427387904) ∧ (∀ x0 ∈ p0.list, H_Kn x0) ∧ True
def Qcf (p0 : Val) : Prop := (List.length p0.fields ≤ 4611686018427387904) ∧ (∀ x1 ∈ p0.fields, H_Kn x1.v) ∧ True
theorem Qyj (p0 : Val) (H : H_Kn p0) : (Qen p0) ∧ (Qcf p0) ∧ True := by
  obtain ⟨h1, h2, h3, h4⟩ := H.all
  simp only [Qen, Qcf]
  exact ⟨⟨h1, h3, trivial⟩, ⟨h2, h4, trivial⟩, trivial⟩
def Qlv (p0 : Val) (i0 : Nat) (_v0_1 : Int) : List PV :=
  [.un, .un, .un, .un, .int .i64 (i0 : Int), .un, .int .i64 (i0 : Int), .bx 0 3, .sl (Val.rows p0.list), .int .i64 ((List.length p0.list) : Int), .bool false]
def Qhq (_p0 : Val) (_i0 : Nat) (_v0_1 : Int) : List (Nat × List PV) :=
  []
theorem Qw3 (p0 : Val) (_H : Qen p0) (_rec : Qe4 p0) (i0 : Nat) (v0_1 : Int) (hc0 : (decide ((i0 : Int) < ((List.length p0.list) : Int))) = false) : Qk0 p0 (Qjj p0 i0 v0_1) v0_1 := by
 exact ⟨(envF (Qlv p0 i0 v0_1)), (zoF (Qhq p0 i0 v0_1)), Qe VOK.nil (x := ((.exit 0), Qlf p0 v0_1 (envF (Qlv p0 i0 v0_1)) (zoF (Qhq p0 i0 v0_1)))) [hP 3 (Qk (Val.rows p0.list) (List.length p0.list) (Val.Qd p0.list)), hB 0 hc0] [] (by kernel_rfl)⟩
theorem Qx0 (p0 : Val) (H : Qen p0) (rec : Qe4 p0) (x0 : Val) (i0 : Nat) (v0_1 : Int) (hx0 : p0.list[i0]? = some x0) (hi0 : i0 < List.length p0.list) (hc0 : (decide ((i0 : Int) < ((List.length p0.list) : Int))) = true) {r : Rs} (hr : Q7 G (Qjj p0 (i0 + 1) (w64 (v0_1 + (s_Kn x0)))) r) : Q7 G (Qjj p0 i0 v0_1) r := by
 have hB0 := H.1
 exact Qb VOK.nil (y := (Qr2 p0 (i0 + 1) (w64 (v0_1 + (s_Kn x0))), Qs9 p0 (i0 + 1) (w64 (v0_1 + (s_Kn x0))))) [hP 3 (Qk (Val.rows p0.list) (List.length p0.list) (Val.Qd p0.list)), hB 0 hc0, hP 4 (Q1o 5 (Val.rows p0.list) i0 _ (Val.Qg hx0) rfl), hP 5 (Qv i0 (by omega))] [aN (rec x0 (szL hx0) (H.2.1 x0 (Qz hx0)))] (by kernel_rfl) hr
theorem Qqc (p0 : Val) (H : Qen p0) (rec : Qe4 p0) : ∀ (r0 : List Val) (i0 : Nat) (v0_1 : Int), List.drop i0 p0.list = r0 → Qk0 p0 (Qjj p0 i0 v0_1) (Q9m p0 r0 i0 v0_1)
 | [], i0, v0_1, hd => by
  have hc0 : (decide ((i0 : Int) < ((List.length p0.list) : Int))) = false := by have := Q1p hd; simp; omega
  rw [Q9m]
  exact Qw3 p0 H rec i0 v0_1 hc0
 | x0 :: r0, i0, v0_1, hd => by
  obtain ⟨hx0, hi0, hd'⟩ := Q1d hd
  have hc0 : (decide ((i0 : Int) < ((List.length p0.list) : Int))) = true := by simp; omega
  rw [Q9m]
  exact Qni p0 (fun r hr => Qx0 p0 H rec x0 i0 v0_1 hx0 hi0 hc0 hr) _ (Qqc p0 H rec r0 (i0 + 1) (w64 (v0_1 + (s_Kn x0))) hd')
def Qmy (p0 : Val) (i1 : Nat) (_v1_1 : Int) : List PV :=
  [.un, .bx 0 0, .un, .un, .un, .int .i64 (i1 : Int), .un, .un, .un, .un, .un, .un, .un, .un, .un, .un, .un, .un, .un, .un, .un, .int .i64 (i1 : Int), .bx 0 4, .sl (Fld.rows p0.fields), .int .i64 ((List.length p0.fields) : Int), .bool false]
def Qg7 (_p0 : Val) (_i1 : Nat) (_v1_1 : Int) : List (Nat × List PV) :=
  []
theorem Qvv (p0 : Val) (_H : Qcf p0) (_rec : Qe4 p0) (i1 : Nat) (v1_1 : Int) (hc1 : (decide ((i1 : Int) < ((List.length p0.fields) : Int))) = false) : Qkk p0 (Qjc p0 i1 v1_1) v1_1 := by
 exact ⟨(envF (Qmy p0 i1 v1_1)), (zoF (Qg7 p0 i1 v1_1)), Qe VOK.nil (x := ((.exit 2), Qnc p0 v1_1 (envF (Qmy p0 i1 v1_1)) (zoF (Qg7 p0 i1 v1_1)))) [hP 3 (Qk (Fld.rows p0.fields) (List.length p0.fields) (Fld.Qd p0.fields)), hB 0 hc1] [] (by kernel_rfl)⟩
theorem Qyz (p0 : Val) (H : Qcf p0) (rec : Qe4 p0) (x1 : Fld) (i1 : Nat) (v1_1 : Int) (hx1 : p0.fields[i1]? = some x1) (hi1 : i1 < List.length p0.fields) (hc1 : (decide ((i1 : Int) < ((List.length p0.fields) : Int))) = true) {r : Rs} (hr : Q7 G (Qjc p0 (i1 + 1) (w64 (v1_1 + (s_Kn x1.v)))) r) : Q7 G (Qjc p0 i1 v1_1) r := by
 have hB0 := H.1
 exact Qb VOK.nil (y := (Qqw p0 (i1 + 1) (w64 (v1_1 + (s_Kn x1.v))), Qqa p0 (i1 + 1) (w64 (v1_1 + (s_Kn x1.v))))) [hP 3 (Qk (Fld.rows p0.fields) (List.length p0.fields) (Fld.Qd p0.fields)), hB 0 hc1, hP 4 (Q1o 6 (Fld.rows p0.fields) i1 _ (Fld.Qg hx1) rfl), hP 6 (Qv i1 (by omega))] [aN (rec x1.v (szF hx1) (H.2.1 x1 (Qz hx1)))] (by kernel_rfl) hr
theorem Qrb (p0 : Val) (H : Qcf p0) (rec : Qe4 p0) : ∀ (r1 : List Fld) (i1 : Nat) (v1_1 : Int), List.drop i1 p0.fields = r1 → Qkk p0 (Qjc p0 i1 v1_1) (Qes p0 r1 i1 v1_1)
 | [], i1, v1_1, hd => by
  have hc1 : (decide ((i1 : Int) < ((List.length p0.fields) : Int))) = false := by have := Q1p hd; simp; omega
  rw [Qes]
  exact Qvv p0 H rec i1 v1_1 hc1
 | x1 :: r1, i1, v1_1, hd => by
  obtain ⟨hx1, hi1, hd'⟩ := Q1d hd
  have hc1 : (decide ((i1 : Int) < ((List.length p0.fields) : Int))) = true := by simp; omega
  rw [Qes]
  exact Qnw p0 (fun r hr => Qyz p0 H rec x1 i1 v1_1 hx1 hi1 hc1 hr) _ (Qrb p0 H rec r1 (i1 + 1) (w64 (v1_1 + (s_Kn x1.v))) hd')
theorem r_Kn (p0 : Val) (H : H_Kn p0) (rec : Qe4 p0) : Q7 G (c_Kn p0) (a_Kn p0) := by
  unfold a_Kn
  rw [s_Kn]
  have hl0 := Qqc p0 ((Qyj p0 H).1) rec p0.list 0 1 (by simp)
  obtain ⟨z0, zo0, hl0⟩ := hl0
  have hl1 := Qrb p0 ((Qyj p0 H).2.1) rec p0.fields 0 (Q9m p0 p0.list 0 1) (by simp)
  obtain ⟨z1, zo1, hl1⟩ := hl1
  exact Q9 (fn := Ir.Kn) rfl VOK.nil [] [aN hl0, aN hl1] (by kernel_rfl)
theorem i_Kn : ∀ (k : Nat) (p0 : Val), SizeOf.sizeOf p0 < k → H_Kn p0 → Q7 G (c_Kn p0) (a_Kn p0)
  | 0, _, h, _ => absurd h (Nat.not_lt_zero _)
  | k + 1, p0, h, H => r_Kn p0 H (fun q hq hH => i_Kn k q (by omega) hH)
theorem t_Kn (p0 : Val) (H : H_Kn p0) : Q7 G (c_Kn p0) (a_Kn p0) := i_Kn _ p0 (Nat.lt_succ_self _) H
inductive Qxb where
  | k0
  | k1
def Q74 (p0 : ByteArray) : List Int → Nat → Qxb
 | [], _i0 =>
  (.k0)
 | x0 :: r0, i0 =>
  bif (x0 == 10) then
   Q74 p0 r0 (i0 + 1)
  else
   bif (decide (x0 < 32)) then
    (.k1)
   else
    bif (decide (126 < x0)) then
     (.k1)
    else
     Q74 p0 r0 (i0 + 1)
def Qjh (p0 : ByteArray) (i0 : Nat) : List PV :=
  [.str p0, .un, .un, .int .i64 (i0 : Int), .un, .un, .un, .un, .un, .un, .un, .un, .un, .un, .un, .un, .un, .un, .un, .un, .un, .un, .un, .un, .un, .un, .un, .un, .un]
def Qjb (_p0 : ByteArray) (_i0 : Nat) : List Ob :=
  []
def Q5v (p0 : ByteArray) (i0 : Nat) : En := .loop 0 Ir.Qir Ir.Q14n (Qjh p0 i0) (Qjb p0 i0)
def Qnk (p0 : ByteArray) (z : Nat → PV) (_zo : Nat → List PV) : St :=
  ⟨[.str p0, z 1, z 2, z 3, z 4, z 5, z 6, z 7, z 8, z 9, z 10, z 11, z 12, z 13, z 14, z 15, z 16, z 17, z 18, z 19, z 20, z 21, z 22, z 23, z 24, z 25, z 26, z 27, z 28], [], 256⟩
def Qd8 (_p0 : ByteArray) (z : Nat → PV) (_zo : Nat → List PV) : St :=
  ⟨[z 0, z 1, .bool false, z 3, z 4, z 5, z 6, z 7, z 8, z 9, z 10, z 11, z 12, z 13, z 14, z 15, z 16, z 17, z 18, z 19, z 20, z 21, z 22, z 23, z 24, z 25, z 26, z 27, z 28], [], 1344⟩
def Q95 (p0 : ByteArray) (e : En) : Qxb → Prop
  | .k0 => ∃ z zo, Q7 G e (.st (.exit 0) (Qnk p0 z zo))
  | .k1 => ∃ z zo, Q7 G e (.st .ret (Qd8 p0 z zo))
theorem Qa5 (p0 : ByteArray) {e e' : En} (h : ∀ r, Q7 G e r → Q7 G e' r) : ∀ q, Q95 p0 e q → Q95 p0 e' q
  | .k0, ⟨z, zo, hz⟩ => ⟨z, zo, h _ hz⟩
  | .k1, ⟨z, zo, hz⟩ => ⟨z, zo, h _ hz⟩
def Q70 (p0 : ByteArray) : Prop := (List.length (letters p0) ≤ 4611686018427387904) ∧ True
def Qm7 (p0 : ByteArray) (i0 : Nat) : List PV :=
  [.un, .un, .un, .int .i64 (i0 : Int), .int .i64 (i0 : Int), .str p0, .int .i64 (ByteArray.size p0 : Int), .bool false]
def Qh5 (_p0 : ByteArray) (_i0 : Nat) : List (Nat × List PV) :=
  []
theorem Qyp (p0 : ByteArray) (_H : Q70 p0) (i0 : Nat) (hc0 : (decide ((i0 : Int) < (ByteArray.size p0 : Int))) = false) : Q95 p0 (Q5v p0 i0) (.k0) := by
 exact ⟨(envF (Qm7 p0 i0)), (zoF (Qh5 p0 i0)), Qe VOK.nil (x := ((.exit 0), Qnk p0 (envF (Qm7 p0 i0)) (zoF (Qh5 p0 i0)))) [hB 3 hc0] [] (by kernel_rfl)⟩
theorem Qyf (p0 : ByteArray) (H : Q70 p0) (x0 : Int) (i0 : Nat) (hx0 : (letters p0)[i0]? = some x0) (hi0 : i0 < List.length (letters p0)) (hc0 : (decide ((i0 : Int) < (ByteArray.size p0 : Int))) = true) (h0 : (x0 == 10) = true) {r : Rs} (hr : Q7 G (Q5v p0 (i0 + 1)) r) : Q7 G (Q5v p0 i0) r := by
 have hB0 := H.1; have e0 := eq_of_beq h0
 exact Qb VOK.nil (y := (Qjh p0 (i0 + 1), Qjb p0 (i0 + 1))) [hB 3 hc0, hP 2 (Q1b p0 i0 x0 hx0), hP 0 (dec (!(x0 == 10)) false (by rw [h0]; rfl)), hP 13 (Qv i0 (by omega))] [] (by kernel_rfl) hr
def Qnt (p0 : ByteArray) (i0 : Nat) (x0 : Int) : List PV :=
  [.str p0, .un, .un, .int .i64 (i0 : Int), .int .i64 (i0 : Int), .str p0, .int .i64 (ByteArray.size p0 : Int), .bool true, .un, .un, .str p0, .int .i64 (i0 : Int), .int .u8 x0, .bool true, .bool true, .str p0, .int .i64 (i0 : Int), .int .u8 x0, .bool true, .bool true, .tup [], .tup [], .tup [], .tup [], .bool true, .bool true]
def Qgh (_p0 : ByteArray) (_i0 : Nat) (_x0 : Int) : List (Nat × List PV) :=
  []
theorem Qyg (p0 : ByteArray) (_H : Q70 p0) (x0 : Int) (i0 : Nat) (hx0 : (letters p0)[i0]? = some x0) (_hi0 : i0 < List.length (letters p0)) (hc0 : (decide ((i0 : Int) < (ByteArray.size p0 : Int))) = true) (h0 : (x0 == 10) = false) (h1 : (decide (x0 < 32)) = true) : Q95 p0 (Q5v p0 i0) (.k1) := by
 exact ⟨(envF (Qnt p0 i0 x0)), (zoF (Qgh p0 i0 x0)), Qe VOK.nil (x := (.ret, Qd8 p0 (envF (Qnt p0 i0 x0)) (zoF (Qgh p0 i0 x0)))) [hB 3 hc0, hP 2 (Q1b p0 i0 x0 hx0), hP 0 (dec (!(x0 == 10)) true (by rw [h0]; rfl)), hP 3 (Q1b p0 i0 x0 hx0), hB 0 h1] [] (by kernel_rfl)⟩
def Qp1 (p0 : ByteArray) (i0 : Nat) (x0 : Int) : List PV :=
  [.str p0, .un, .un, .int .i64 (i0 : Int), .int .i64 (i0 : Int), .str p0, .int .i64 (ByteArray.size p0 : Int), .bool true, .un, .un, .str p0, .int .i64 (i0 : Int), .int .u8 x0, .bool true, .bool true, .str p0, .int .i64 (i0 : Int), .int .u8 x0, .bool false, .bool false, .str p0, .int .i64 (i0 : Int), .int .u8 x0, .bool true, .bool true, .bool true]
def Qfk (_p0 : ByteArray) (_i0 : Nat) (_x0 : Int) : List (Nat × List PV) :=
  []
theorem Qvz (p0 : ByteArray) (_H : Q70 p0) (x0 : Int) (i0 : Nat) (hx0 : (letters p0)[i0]? = some x0) (_hi0 : i0 < List.length (letters p0)) (hc0 : (decide ((i0 : Int) < (ByteArray.size p0 : Int))) = true) (h0 : (x0 == 10) = false) (h1 : (decide (x0 < 32)) = false) (h2 : (decide (126 < x0)) = true) : Q95 p0 (Q5v p0 i0) (.k1) := by
 exact ⟨(envF (Qp1 p0 i0 x0)), (zoF (Qfk p0 i0 x0)), Qe VOK.nil (x := (.ret, Qd8 p0 (envF (Qp1 p0 i0 x0)) (zoF (Qfk p0 i0 x0)))) [hB 3 hc0, hP 2 (Q1b p0 i0 x0 hx0), hP 0 (dec (!(x0 == 10)) true (by rw [h0]; rfl)), hP 3 (Q1b p0 i0 x0 hx0), hB 0 h1, hP 3 (Q1b p0 i0 x0 hx0), hB 0 h2] [] (by kernel_rfl)⟩
theorem Qzt (p0 : ByteArray) (H : Q70 p0) (x0 : Int) (i0 : Nat) (hx0 : (letters p0)[i0]? = some x0) (hi0 : i0 < List.length (letters p0)) (hc0 : (decide ((i0 : Int) < (ByteArray.size p0 : Int))) = true) (h0 : (x0 == 10) = false) (h1 : (decide (x0 < 32)) = false) (h2 : (decide (126 < x0)) = false) {r : Rs} (hr : Q7 G (Q5v p0 (i0 + 1)) r) : Q7 G (Q5v p0 i0) r := by
 have hB0 := H.1; have e0 := beq_eq_false_iff_ne.1 h0; have e1 := of_decide_eq_false h1; have e2 := of_decide_eq_false h2
 exact Qb VOK.nil (y := (Qjh p0 (i0 + 1), Qjb p0 (i0 + 1))) [hB 3 hc0, hP 2 (Q1b p0 i0 x0 hx0), hP 0 (dec (!(x0 == 10)) true (by rw [h0]; rfl)), hP 3 (Q1b p0 i0 x0 hx0), hB 0 h1, hP 3 (Q1b p0 i0 x0 hx0), hB 0 h2, hP 3 (Qv i0 (by omega))] [] (by kernel_rfl) hr
theorem Qkl (p0 : ByteArray) (H : Q70 p0) : ∀ (r0 : List Int) (i0 : Nat), List.drop i0 (letters p0) = r0 → Q95 p0 (Q5v p0 i0) (Q74 p0 r0 i0)
 | [], i0, hd => by
  have hc0 : (decide ((i0 : Int) < (ByteArray.size p0 : Int))) = false := by have hL := Q40 p0; have := Q1p hd; simp; omega
  rw [Q74]
  exact Qyp p0 H i0 hc0
 | x0 :: r0, i0, hd => by
  obtain ⟨hx0, hi0, hd'⟩ := Q1d hd
  have hc0 : (decide ((i0 : Int) < (ByteArray.size p0 : Int))) = true := by have hL := Q40 p0; simp; omega
  rw [Q74]
  cases h0 : (x0 == 10) with
  | true =>
   exact Qa5 p0 (fun r hr => Qyf p0 H x0 i0 hx0 hi0 hc0 h0 hr) _ (Qkl p0 H r0 (i0 + 1) hd')
  | false =>
   cases h1 : (decide (x0 < 32)) with
   | true =>
    exact Qyg p0 H x0 i0 hx0 hi0 hc0 h0 h1
   | false =>
    cases h2 : (decide (126 < x0)) with
    | true =>
     exact Qvz p0 H x0 i0 hx0 hi0 hc0 h0 h1 h2
    | false =>
     exact Qa5 p0 (fun r hr => Qzt p0 H x0 i0 hx0 hi0 hc0 h0 h1 h2 hr) _ (Qkl p0 H r0 (i0 + 1) hd')
def s_Kq (p0 : ByteArray) : Bool :=
 (match (Q74 p0 (letters p0) 0) with
 | .k0 => (decide ((ByteArray.size p0 : Int) ≤ 200))
 | .k1 => false)
def c_Kq (p0 : ByteArray) : En := .call 65 [.str p0] []
def a_Kq (p0 : ByteArray) : Rs := .ret (.bool (s_Kq p0)) []
def H_Kq (p0 : ByteArray) : Prop := (Q70 p0) ∧ True
theorem t_Kq (p0 : ByteArray) (H : H_Kq p0) : Q7 G (c_Kq p0) (a_Kq p0) := by
 unfold a_Kq s_Kq
 have hl0 := Qkl p0 (H.1) (letters p0) 0 (by simp)
 cases hr0 : (Q74 p0 (letters p0) 0) with
 | k0 =>
  rw [hr0] at hl0
  obtain ⟨z0, zo0, hl0⟩ := hl0
  exact Q9 (fn := Ir.Kq) rfl VOK.nil [] [aN hl0] (by kernel_rfl)
 | k1 =>
  rw [hr0] at hl0
  obtain ⟨z0, zo0, hl0⟩ := hl0
  exact Q9 (fn := Ir.Kq) rfl VOK.nil [] [aN hl0] (by kernel_rfl)
def s_Kw (p0 : Val) : Bool :=
 bif (p0.kind == 1) then
  bif (p0.n == 0) then
   (sEq p0.s (⟨#[]⟩ : ByteArray))
  else
   bif (p0.n == 1) then
    (sEq p0.s (⟨#[]⟩ : ByteArray))
   else
    false
 else
  bif (p0.kind == 2) then
   bif (decide ((-1000000000000000) ≤ p0.n)) then
    bif (decide (p0.n ≤ 1000000000000000)) then
     (sEq p0.s (⟨#[]⟩ : ByteArray))
    else
     false
   else
    false
  else
   bif (p0.kind == 3) then
    bif (p0.n == 0) then
     (s_Kq p0.s)
    else
     false
   else
    bif (p0.kind == 0) then
     bif (p0.n == 0) then
      (sEq p0.s (⟨#[]⟩ : ByteArray))
     else
      false
    else
     bif (p0.kind == 4) then
      bif (p0.n == 0) then
       (sEq p0.s (⟨#[]⟩ : ByteArray))
      else
       false
     else
      bif (p0.kind == 5) then
       bif (p0.n == 0) then
        (sEq p0.s (⟨#[]⟩ : ByteArray))
       else
        false
      else
       false
def c_Kw (p0 : Val) : En := .call 51 [.agg (Val.cells p0)] []
def a_Kw (p0 : Val) : Rs := .ret (.bool (s_Kw p0)) []
def H_Kw (p0 : Val) : Prop := (H_Kq p0.s) ∧ True
theorem Q13w (p0 : Val) (_H : H_Kw p0) (h0 : (p0.kind == 1) = true) : Q7 G (c_Kw p0) (.ret (.bool (bif (p0.n == 0) then
   (sEq p0.s (⟨#[]⟩ : ByteArray))
 else
   bif (p0.n == 1) then
    (sEq p0.s (⟨#[]⟩ : ByteArray))
   else
    false)) []) := by
 cases h1 : (p0.n == 0) with
 | true =>
  exact Q9 (fn := Ir.Kw) rfl VOK.nil [hB 4 h0, hB 3 h1] [] (by kernel_rfl)
 | false =>
  cases h2 : (p0.n == 1) with
  | true =>
   exact Q9 (fn := Ir.Kw) rfl VOK.nil [hB 4 h0, hB 3 h1, hB 3 h2] [] (by kernel_rfl)
  | false =>
   exact Q9 (fn := Ir.Kw) rfl VOK.nil [hB 4 h0, hB 3 h1, hB 3 h2] [] (by kernel_rfl)
theorem Q14j (p0 : Val) (_H : H_Kw p0) (h0 : (p0.kind == 1) = false) (h1 : (p0.kind == 2) = true) : Q7 G (c_Kw p0) (.ret (.bool (bif (decide ((-1000000000000000) ≤ p0.n)) then
   bif (decide (p0.n ≤ 1000000000000000)) then
    (sEq p0.s (⟨#[]⟩ : ByteArray))
   else
    false
 else
   false)) []) := by
 cases h2 : (decide ((-1000000000000000) ≤ p0.n)) with
 | true =>
  cases h3 : (decide (p0.n ≤ 1000000000000000)) with
  | true =>
   exact Q9 (fn := Ir.Kw) rfl VOK.nil [hB 4 h0, hB 1 h1, hB 3 h2, hB 3 h3] [] (by kernel_rfl)
  | false =>
   exact Q9 (fn := Ir.Kw) rfl VOK.nil [hB 4 h0, hB 1 h1, hB 3 h2, hB 3 h3] [] (by kernel_rfl)
 | false =>
  exact Q9 (fn := Ir.Kw) rfl VOK.nil [hB 4 h0, hB 1 h1, hB 3 h2] [] (by kernel_rfl)
theorem Q154 (p0 : Val) (H : H_Kw p0) (h0 : (p0.kind == 1) = false) (h1 : (p0.kind == 2) = false) (h2 : (p0.kind == 3) = true) : Q7 G (c_Kw p0) (.ret (.bool (bif (p0.n == 0) then
   (s_Kq p0.s)
 else
   false)) []) := by
 cases h3 : (p0.n == 0) with
 | true =>
  exact Q9 (fn := Ir.Kw) rfl VOK.nil [hB 4 h0, hB 1 h1, hB 1 h2, hB 3 h3] [aN (t_Kq p0.s H.1)] (by kernel_rfl)
 | false =>
  exact Q9 (fn := Ir.Kw) rfl VOK.nil [hB 4 h0, hB 1 h1, hB 1 h2, hB 3 h3] [] (by kernel_rfl)
theorem Q14c (p0 : Val) (_H : H_Kw p0) (h0 : (p0.kind == 1) = false) (h1 : (p0.kind == 2) = false) (h2 : (p0.kind == 3) = false) (h3 : (p0.kind == 0) = true) : Q7 G (c_Kw p0) (.ret (.bool (bif (p0.n == 0) then
   (sEq p0.s (⟨#[]⟩ : ByteArray))
 else
   false)) []) := by
 cases h4 : (p0.n == 0) with
 | true =>
  exact Q9 (fn := Ir.Kw) rfl VOK.nil [hB 4 h0, hB 1 h1, hB 1 h2, hB 1 h3, hB 3 h4] [] (by kernel_rfl)
 | false =>
  exact Q9 (fn := Ir.Kw) rfl VOK.nil [hB 4 h0, hB 1 h1, hB 1 h2, hB 1 h3, hB 3 h4] [] (by kernel_rfl)
theorem Q15v (p0 : Val) (_H : H_Kw p0) (h0 : (p0.kind == 1) = false) (h1 : (p0.kind == 2) = false) (h2 : (p0.kind == 3) = false) (h3 : (p0.kind == 0) = false) : Q7 G (c_Kw p0) (.ret (.bool (bif (p0.kind == 4) then
   bif (p0.n == 0) then
     (sEq p0.s (⟨#[]⟩ : ByteArray))
   else
     false
 else
   bif (p0.kind == 5) then
     bif (p0.n == 0) then
      (sEq p0.s (⟨#[]⟩ : ByteArray))
     else
      false
   else
     false)) []) := by
 cases h4 : (p0.kind == 4) with
 | true =>
  cases h5 : (p0.n == 0) with
  | true =>
   exact Q9 (fn := Ir.Kw) rfl VOK.nil [hB 4 h0, hB 1 h1, hB 1 h2, hB 1 h3, hB 1 h4, hB 3 h5] [] (by kernel_rfl)
  | false =>
   exact Q9 (fn := Ir.Kw) rfl VOK.nil [hB 4 h0, hB 1 h1, hB 1 h2, hB 1 h3, hB 1 h4, hB 3 h5] [] (by kernel_rfl)
 | false =>
  cases h5 : (p0.kind == 5) with
  | true =>
   cases h6 : (p0.n == 0) with
   | true =>
    exact Q9 (fn := Ir.Kw) rfl VOK.nil [hB 4 h0, hB 1 h1, hB 1 h2, hB 1 h3, hB 1 h4, hB 1 h5, hB 3 h6] [] (by kernel_rfl)
   | false =>
    exact Q9 (fn := Ir.Kw) rfl VOK.nil [hB 4 h0, hB 1 h1, hB 1 h2, hB 1 h3, hB 1 h4, hB 1 h5, hB 3 h6] [] (by kernel_rfl)
  | false =>
   exact Q9 (fn := Ir.Kw) rfl VOK.nil [hB 4 h0, hB 1 h1, hB 1 h2, hB 1 h3, hB 1 h4, hB 1 h5] [] (by kernel_rfl)
theorem t_Kw (p0 : Val) (H : H_Kw p0) : Q7 G (c_Kw p0) (a_Kw p0) := by
 unfold a_Kw s_Kw
 cases h0 : (p0.kind == 1) with
 | true =>
  exact Q13w p0 H h0
 | false =>
  cases h1 : (p0.kind == 2) with
  | true =>
   exact Q14j p0 H h0 h1
  | false =>
   cases h2 : (p0.kind == 3) with
   | true =>
    exact Q154 p0 H h0 h1 h2
   | false =>
    cases h3 : (p0.kind == 0) with
    | true =>
     exact Q14c p0 H h0 h1 h2 h3
    | false =>
     exact Q15v p0 H h0 h1 h2 h3
inductive Qwi where
  | k0
  | k1
def Q19 (p0 : ByteArray) : List Int → Nat → Qwi
 | [], _i0 =>
  (.k0)
 | x0 :: r0, i0 =>
  bif (decide (97 ≤ x0)) then
   bif (decide (x0 ≤ 122)) then
    Q19 p0 r0 (i0 + 1)
   else
    bif (decide (65 ≤ x0)) then
     bif (decide (x0 ≤ 90)) then
      Q19 p0 r0 (i0 + 1)
     else
      bif (decide (48 ≤ x0)) then
       bif (decide (x0 ≤ 57)) then
        Q19 p0 r0 (i0 + 1)
       else
        bif (x0 == 45) then
         Q19 p0 r0 (i0 + 1)
        else
         bif (x0 == 95) then
          Q19 p0 r0 (i0 + 1)
         else
          bif (x0 == 47) then
           Q19 p0 r0 (i0 + 1)
          else
           (.k1)
      else
       bif (x0 == 45) then
        Q19 p0 r0 (i0 + 1)
       else
        bif (x0 == 95) then
         Q19 p0 r0 (i0 + 1)
        else
         bif (x0 == 47) then
          Q19 p0 r0 (i0 + 1)
         else
          (.k1)
    else
     bif (decide (48 ≤ x0)) then
      bif (decide (x0 ≤ 57)) then
       Q19 p0 r0 (i0 + 1)
      else
       bif (x0 == 45) then
        Q19 p0 r0 (i0 + 1)
       else
        bif (x0 == 95) then
         Q19 p0 r0 (i0 + 1)
        else
         bif (x0 == 47) then
          Q19 p0 r0 (i0 + 1)
         else
          (.k1)
     else
      bif (x0 == 45) then
       Q19 p0 r0 (i0 + 1)
      else
       bif (x0 == 95) then
        Q19 p0 r0 (i0 + 1)
       else
        bif (x0 == 47) then
         Q19 p0 r0 (i0 + 1)
        else
         (.k1)
  else
   bif (decide (65 ≤ x0)) then
    bif (decide (x0 ≤ 90)) then
     Q19 p0 r0 (i0 + 1)
    else
     bif (decide (48 ≤ x0)) then
      bif (decide (x0 ≤ 57)) then
       Q19 p0 r0 (i0 + 1)
      else
       bif (x0 == 45) then
        Q19 p0 r0 (i0 + 1)
       else
        bif (x0 == 95) then
         Q19 p0 r0 (i0 + 1)
        else
         bif (x0 == 47) then
          Q19 p0 r0 (i0 + 1)
         else
          (.k1)
     else
      bif (x0 == 45) then
       Q19 p0 r0 (i0 + 1)
      else
       bif (x0 == 95) then
        Q19 p0 r0 (i0 + 1)
       else
        bif (x0 == 47) then
         Q19 p0 r0 (i0 + 1)
        else
         (.k1)
   else
    bif (decide (48 ≤ x0)) then
     bif (decide (x0 ≤ 57)) then
      Q19 p0 r0 (i0 + 1)
     else
      bif (x0 == 45) then
       Q19 p0 r0 (i0 + 1)
      else
       bif (x0 == 95) then
        Q19 p0 r0 (i0 + 1)
       else
        bif (x0 == 47) then
         Q19 p0 r0 (i0 + 1)
        else
         (.k1)
    else
     bif (x0 == 45) then
      Q19 p0 r0 (i0 + 1)
     else
      bif (x0 == 95) then
       Q19 p0 r0 (i0 + 1)
      else
       bif (x0 == 47) then
        Q19 p0 r0 (i0 + 1)
       else
        (.k1)
def Q11 (p0 : ByteArray) (i0 : Nat) : List PV :=
  [.str p0, .un, .un, .int .i64 (i0 : Int), .un, .un, .un, .un, .un, .un, .un, .un, .un, .un, .un, .un, .un, .un, .un, .un, .un, .un, .un, .un, .un, .un, .un, .un, .un, .un, .un, .un, .un, .un, .un, .un, .un, .un, .un, .un, .un, .un, .un, .un, .un, .un, .un, .un, .un, .un, .un, .un, .un, .un, .un, .un, .un, .un, .un, .un]
def Q12 (_p0 : ByteArray) (_i0 : Nat) : List Ob :=
  []
def Qm (p0 : ByteArray) (i0 : Nat) : En := .loop 0 Ir.Qiq Ir.Q145 (Q11 p0 i0) (Q12 p0 i0)
def Qov (p0 : ByteArray) (z : Nat → PV) (_zo : Nat → List PV) : St :=
  ⟨[.str p0, z 1, z 2, z 3, z 4, z 5, z 6, z 7, z 8, z 9, z 10, z 11, z 12, z 13, z 14, z 15, z 16, z 17, z 18, z 19, z 20, z 21, z 22, z 23, z 24, z 25, z 26, z 27, z 28, z 29, z 30, z 31, z 32, z 33, z 34, z 35, z 36, z 37, z 38, z 39, z 40, z 41, z 42, z 43, z 44, z 45, z 46, z 47, z 48, z 49, z 50, z 51, z 52, z 53, z 54, z 55, z 56, z 57, z 58, z 59], [], 256⟩
def Q3d (_p0 : ByteArray) (z : Nat → PV) (_zo : Nat → List PV) : St :=
  ⟨[z 0, z 1, .bool false, z 3, z 4, z 5, z 6, z 7, z 8, z 9, z 10, z 11, z 12, z 13, z 14, z 15, z 16, z 17, z 18, z 19, z 20, z 21, z 22, z 23, z 24, z 25, z 26, z 27, z 28, z 29, z 30, z 31, z 32, z 33, z 34, z 35, z 36, z 37, z 38, z 39, z 40, z 41, z 42, z 43, z 44, z 45, z 46, z 47, z 48, z 49, z 50, z 51, z 52, z 53, z 54, z 55, z 56, z 57, z 58, z 59], [], 3008⟩
def Q3s (p0 : ByteArray) (e : En) : Qwi → Prop
  | .k0 => ∃ z zo, Q7 G e (.st (.exit 0) (Qov p0 z zo))
  | .k1 => ∃ z zo, Q7 G e (.st .ret (Q3d p0 z zo))
theorem Qn (p0 : ByteArray) {e e' : En} (h : ∀ r, Q7 G e r → Q7 G e' r) : ∀ q, Q3s p0 e q → Q3s p0 e' q
  | .k0, ⟨z, zo, hz⟩ => ⟨z, zo, h _ hz⟩
  | .k1, ⟨z, zo, hz⟩ => ⟨z, zo, h _ hz⟩
def Q10 (p0 : ByteArray) : Prop := (List.length (letters p0) ≤ 4611686018427387904) ∧ True
def Qmv (p0 : ByteArray) (i0 : Nat) : List PV :=
  [.un, .un, .un, .int .i64 (i0 : Int), .un, .un, .int .i64 (i0 : Int), .str p0, .int .i64 (ByteArray.size p0 : Int), .bool false]
def Qge (_p0 : ByteArray) (_i0 : Nat) : List (Nat × List PV) :=
  []
theorem Qvw (p0 : ByteArray) (_H : Q10 p0) (i0 : Nat) (hc0 : (decide ((i0 : Int) < (ByteArray.size p0 : Int))) = false) : Q3s p0 (Qm p0 i0) (.k0) := by
 exact ⟨(envF (Qmv p0 i0)), (zoF (Qge p0 i0)), Qe VOK.nil (x := ((.exit 0), Qov p0 (envF (Qmv p0 i0)) (zoF (Qge p0 i0)))) [hB 3 hc0] [] (by kernel_rfl)⟩
theorem Qyv (p0 : ByteArray) (H : Q10 p0) (x0 : Int) (i0 : Nat) (hx0 : (letters p0)[i0]? = some x0) (hi0 : i0 < List.length (letters p0)) (hc0 : (decide ((i0 : Int) < (ByteArray.size p0 : Int))) = true) (h0 : (decide (97 ≤ x0)) = true) (h1 : (decide (x0 ≤ 122)) = true) {r : Rs} (hr : Q7 G (Qm p0 (i0 + 1)) r) : Q7 G (Qm p0 i0) r := by
 have hB0 := H.1; have e0 := of_decide_eq_true h0; have e1 := of_decide_eq_true h1
 exact Qb VOK.nil (y := (Q11 p0 (i0 + 1), Q12 p0 (i0 + 1))) [hB 3 hc0, hP 2 (Q1b p0 i0 x0 hx0), hB 2 h0, hB 2 h1, hP 34 (Qv i0 (by omega))] [] (by kernel_rfl) hr
theorem Qy4 (p0 : ByteArray) (H : Q10 p0) (x0 : Int) (i0 : Nat) (hx0 : (letters p0)[i0]? = some x0) (_hi0 : i0 < List.length (letters p0)) (hc0 : (decide ((i0 : Int) < (ByteArray.size p0 : Int))) = true) (h0 : (decide (97 ≤ x0)) = true) (h1 : (decide (x0 ≤ 122)) = false) (h2 : (decide (65 ≤ x0)) = true) (h3 : (decide (x0 ≤ 90)) = true) {r : Rs} (hr : Q7 G (Qm p0 (i0 + 1)) r) : Q7 G (Qm p0 i0) r := by
 have hB0 := H.1; have e0 := of_decide_eq_true h0; have e1 := of_decide_eq_false h1; have e2 := of_decide_eq_true h2; have e3 := of_decide_eq_true h3
 exact Qb VOK.nil (y := (Q11 p0 (i0 + 1), Q12 p0 (i0 + 1))) [hB 3 hc0, hP 2 (Q1b p0 i0 x0 hx0), hB 2 h0, hB 2 h1, hB 3 h2, hB 2 h3, hP 27 (Qv i0 (by omega))] [] (by kernel_rfl) hr
theorem Qxd (p0 : ByteArray) (H : Q10 p0) (x0 : Int) (i0 : Nat) (hx0 : (letters p0)[i0]? = some x0) (_hi0 : i0 < List.length (letters p0)) (hc0 : (decide ((i0 : Int) < (ByteArray.size p0 : Int))) = true) (h0 : (decide (97 ≤ x0)) = true) (h1 : (decide (x0 ≤ 122)) = false) (h2 : (decide (65 ≤ x0)) = true) (h3 : (decide (x0 ≤ 90)) = false) (h4 : (decide (48 ≤ x0)) = true) (h5 : (decide (x0 ≤ 57)) = true) {r : Rs} (hr : Q7 G (Qm p0 (i0 + 1)) r) : Q7 G (Qm p0 i0) r := by
 have hB0 := H.1; have e0 := of_decide_eq_true h0; have e1 := of_decide_eq_false h1; have e2 := of_decide_eq_true h2; have e3 := of_decide_eq_false h3; have e4 := of_decide_eq_true h4; have e5 := of_decide_eq_true h5
 exact Qb VOK.nil (y := (Q11 p0 (i0 + 1), Q12 p0 (i0 + 1))) [hB 3 hc0, hP 2 (Q1b p0 i0 x0 hx0), hB 2 h0, hB 2 h1, hB 3 h2, hB 2 h3, hB 7 h4, hB 2 h5, hP 16 (Qv i0 (by omega))] [] (by kernel_rfl) hr
theorem Qwx (p0 : ByteArray) (H : Q10 p0) (x0 : Int) (i0 : Nat) (hx0 : (letters p0)[i0]? = some x0) (_hi0 : i0 < List.length (letters p0)) (hc0 : (decide ((i0 : Int) < (ByteArray.size p0 : Int))) = true) (h0 : (decide (97 ≤ x0)) = true) (h1 : (decide (x0 ≤ 122)) = false) (h2 : (decide (65 ≤ x0)) = true) (h3 : (decide (x0 ≤ 90)) = false) (h4 : (decide (48 ≤ x0)) = true) (h5 : (decide (x0 ≤ 57)) = false) (h6 : (x0 == 45) = true) {r : Rs} (hr : Q7 G (Qm p0 (i0 + 1)) r) : Q7 G (Qm p0 i0) r := by
 have hB0 := H.1; have e0 := of_decide_eq_true h0; have e1 := of_decide_eq_false h1; have e2 := of_decide_eq_true h2; have e3 := of_decide_eq_false h3; have e4 := of_decide_eq_true h4; have e5 := of_decide_eq_false h5; have e6 := eq_of_beq h6
 exact Qb VOK.nil (y := (Q11 p0 (i0 + 1), Q12 p0 (i0 + 1))) [hB 3 hc0, hP 2 (Q1b p0 i0 x0 hx0), hB 2 h0, hB 2 h1, hB 3 h2, hB 2 h3, hB 7 h4, hB 2 h5, hP 5 (dec (!(x0 == 45)) false (by rw [h6]; rfl)), hP 10 (Qv i0 (by omega))] [] (by kernel_rfl) hr
theorem Qw7 (p0 : ByteArray) (H : Q10 p0) (x0 : Int) (i0 : Nat) (hx0 : (letters p0)[i0]? = some x0) (_hi0 : i0 < List.length (letters p0)) (hc0 : (decide ((i0 : Int) < (ByteArray.size p0 : Int))) = true) (h0 : (decide (97 ≤ x0)) = true) (h1 : (decide (x0 ≤ 122)) = false) (h2 : (decide (65 ≤ x0)) = true) (h3 : (decide (x0 ≤ 90)) = false) (h4 : (decide (48 ≤ x0)) = true) (h5 : (decide (x0 ≤ 57)) = false) (h6 : (x0 == 45) = false) (h7 : (x0 == 95) = true) {r : Rs} (hr : Q7 G (Qm p0 (i0 + 1)) r) : Q7 G (Qm p0 i0) r := by
 have hB0 := H.1; have e0 := of_decide_eq_true h0; have e1 := of_decide_eq_false h1; have e2 := of_decide_eq_true h2; have e3 := of_decide_eq_false h3; have e4 := of_decide_eq_true h4; have e5 := of_decide_eq_false h5; have e6 := beq_eq_false_iff_ne.1 h6; have e7 := eq_of_beq h7
 exact Qb VOK.nil (y := (Q11 p0 (i0 + 1), Q12 p0 (i0 + 1))) [hB 3 hc0, hP 2 (Q1b p0 i0 x0 hx0), hB 2 h0, hB 2 h1, hB 3 h2, hB 2 h3, hB 7 h4, hB 2 h5, hP 5 (dec (!(x0 == 45)) true (by rw [h6]; rfl)), hP 3 (dec (!(x0 == 95)) false (by rw [h7]; rfl)), hP 6 (Qv i0 (by omega))] [] (by kernel_rfl) hr
theorem Qxr (p0 : ByteArray) (H : Q10 p0) (x0 : Int) (i0 : Nat) (hx0 : (letters p0)[i0]? = some x0) (_hi0 : i0 < List.length (letters p0)) (hc0 : (decide ((i0 : Int) < (ByteArray.size p0 : Int))) = true) (h0 : (decide (97 ≤ x0)) = true) (h1 : (decide (x0 ≤ 122)) = false) (h2 : (decide (65 ≤ x0)) = true) (h3 : (decide (x0 ≤ 90)) = false) (h4 : (decide (48 ≤ x0)) = true) (h5 : (decide (x0 ≤ 57)) = false) (h6 : (x0 == 45) = false) (h7 : (x0 == 95) = false) (h8 : (x0 == 47) = true) {r : Rs} (hr : Q7 G (Qm p0 (i0 + 1)) r) : Q7 G (Qm p0 i0) r := by
 have hB0 := H.1; have e0 := of_decide_eq_true h0; have e1 := of_decide_eq_false h1; have e2 := of_decide_eq_true h2; have e3 := of_decide_eq_false h3; have e4 := of_decide_eq_true h4; have e5 := of_decide_eq_false h5; have e6 := beq_eq_false_iff_ne.1 h6; have e7 := beq_eq_false_iff_ne.1 h7; have e8 := eq_of_beq h8
 exact Qb VOK.nil (y := (Q11 p0 (i0 + 1), Q12 p0 (i0 + 1))) [hB 3 hc0, hP 2 (Q1b p0 i0 x0 hx0), hB 2 h0, hB 2 h1, hB 3 h2, hB 2 h3, hB 7 h4, hB 2 h5, hP 5 (dec (!(x0 == 45)) true (by rw [h6]; rfl)), hP 3 (dec (!(x0 == 95)) true (by rw [h7]; rfl)), hP 3 (dec (!(x0 == 47)) false (by rw [h8]; rfl)), hP 2 (Qv i0 (by omega))] [] (by kernel_rfl) hr
def Qny (p0 : ByteArray) (i0 : Nat) (x0 : Int) : List PV :=
  [.str p0, .un, .un, .int .i64 (i0 : Int), .int .u8 x0, .bool false, .int .i64 (i0 : Int), .str p0, .int .i64 (ByteArray.size p0 : Int), .bool true, .un, .un, .str p0, .int .i64 (i0 : Int), .int .u8 x0, .int .u8 x0, .bool true, .bool true, .int .u8 x0, .bool false, .bool false, .bool false, .int .u8 x0, .bool true, .bool true, .int .u8 x0, .bool false, .bool false, .bool false, .bool false, .bool true, .bool true, .int .u8 x0, .bool true, .bool true, .int .u8 x0, .bool false, .bool false, .bool true, .bool true, .bool true, .int .u8 x0, .bool true, .bool true, .bool true, .int .u8 x0, .bool true, .bool true, .bool true, .int .u8 x0, .bool true, .bool true]
def Qh4 (_p0 : ByteArray) (_i0 : Nat) (_x0 : Int) : List (Nat × List PV) :=
  []
theorem Qzp (p0 : ByteArray) (_H : Q10 p0) (x0 : Int) (i0 : Nat) (hx0 : (letters p0)[i0]? = some x0) (_hi0 : i0 < List.length (letters p0)) (hc0 : (decide ((i0 : Int) < (ByteArray.size p0 : Int))) = true) (h0 : (decide (97 ≤ x0)) = true) (h1 : (decide (x0 ≤ 122)) = false) (h2 : (decide (65 ≤ x0)) = true) (h3 : (decide (x0 ≤ 90)) = false) (h4 : (decide (48 ≤ x0)) = true) (h5 : (decide (x0 ≤ 57)) = false) (h6 : (x0 == 45) = false) (h7 : (x0 == 95) = false) (h8 : (x0 == 47) = false) : Q3s p0 (Qm p0 i0) (.k1) := by
 exact ⟨(envF (Qny p0 i0 x0)), (zoF (Qh4 p0 i0 x0)), Qe VOK.nil (x := (.ret, Q3d p0 (envF (Qny p0 i0 x0)) (zoF (Qh4 p0 i0 x0)))) [hB 3 hc0, hP 2 (Q1b p0 i0 x0 hx0), hB 2 h0, hB 2 h1, hB 3 h2, hB 2 h3, hB 7 h4, hB 2 h5, hP 5 (dec (!(x0 == 45)) true (by rw [h6]; rfl)), hP 3 (dec (!(x0 == 95)) true (by rw [h7]; rfl)), hP 3 (dec (!(x0 == 47)) true (by rw [h8]; rfl))] [] (by kernel_rfl)⟩
theorem Qx1 (p0 : ByteArray) (H : Q10 p0) (x0 : Int) (i0 : Nat) (hx0 : (letters p0)[i0]? = some x0) (_hi0 : i0 < List.length (letters p0)) (hc0 : (decide ((i0 : Int) < (ByteArray.size p0 : Int))) = true) (h0 : (decide (97 ≤ x0)) = true) (h1 : (decide (x0 ≤ 122)) = false) (h2 : (decide (65 ≤ x0)) = true) (h3 : (decide (x0 ≤ 90)) = false) (h4 : (decide (48 ≤ x0)) = false) (h5 : (x0 == 45) = true) {r : Rs} (hr : Q7 G (Qm p0 (i0 + 1)) r) : Q7 G (Qm p0 i0) r := by
 have hB0 := H.1; have e0 := of_decide_eq_true h0; have e1 := of_decide_eq_false h1; have e2 := of_decide_eq_true h2; have e3 := of_decide_eq_false h3; have e4 := of_decide_eq_false h4; have e5 := eq_of_beq h5
 exact Qb VOK.nil (y := (Q11 p0 (i0 + 1), Q12 p0 (i0 + 1))) [hB 3 hc0, hP 2 (Q1b p0 i0 x0 hx0), hB 2 h0, hB 2 h1, hB 3 h2, hB 2 h3, hB 7 h4, hP 8 (dec (!(x0 == 45)) false (by rw [h5]; rfl)), hP 10 (Qv i0 (by omega))] [] (by kernel_rfl) hr
theorem Qwe (p0 : ByteArray) (H : Q10 p0) (x0 : Int) (i0 : Nat) (hx0 : (letters p0)[i0]? = some x0) (_hi0 : i0 < List.length (letters p0)) (hc0 : (decide ((i0 : Int) < (ByteArray.size p0 : Int))) = true) (h0 : (decide (97 ≤ x0)) = true) (h1 : (decide (x0 ≤ 122)) = false) (h2 : (decide (65 ≤ x0)) = true) (h3 : (decide (x0 ≤ 90)) = false) (h4 : (decide (48 ≤ x0)) = false) (h5 : (x0 == 45) = false) (h6 : (x0 == 95) = true) {r : Rs} (hr : Q7 G (Qm p0 (i0 + 1)) r) : Q7 G (Qm p0 i0) r := by
 have hB0 := H.1; have e0 := of_decide_eq_true h0; have e1 := of_decide_eq_false h1; have e2 := of_decide_eq_true h2; have e3 := of_decide_eq_false h3; have e4 := of_decide_eq_false h4; have e5 := beq_eq_false_iff_ne.1 h5; have e6 := eq_of_beq h6
 exact Qb VOK.nil (y := (Q11 p0 (i0 + 1), Q12 p0 (i0 + 1))) [hB 3 hc0, hP 2 (Q1b p0 i0 x0 hx0), hB 2 h0, hB 2 h1, hB 3 h2, hB 2 h3, hB 7 h4, hP 8 (dec (!(x0 == 45)) true (by rw [h5]; rfl)), hP 3 (dec (!(x0 == 95)) false (by rw [h6]; rfl)), hP 6 (Qv i0 (by omega))] [] (by kernel_rfl) hr
theorem Qv1 (p0 : ByteArray) (H : Q10 p0) (x0 : Int) (i0 : Nat) (hx0 : (letters p0)[i0]? = some x0) (_hi0 : i0 < List.length (letters p0)) (hc0 : (decide ((i0 : Int) < (ByteArray.size p0 : Int))) = true) (h0 : (decide (97 ≤ x0)) = true) (h1 : (decide (x0 ≤ 122)) = false) (h2 : (decide (65 ≤ x0)) = true) (h3 : (decide (x0 ≤ 90)) = false) (h4 : (decide (48 ≤ x0)) = false) (h5 : (x0 == 45) = false) (h6 : (x0 == 95) = false) (h7 : (x0 == 47) = true) {r : Rs} (hr : Q7 G (Qm p0 (i0 + 1)) r) : Q7 G (Qm p0 i0) r := by
 have hB0 := H.1; have e0 := of_decide_eq_true h0; have e1 := of_decide_eq_false h1; have e2 := of_decide_eq_true h2; have e3 := of_decide_eq_false h3; have e4 := of_decide_eq_false h4; have e5 := beq_eq_false_iff_ne.1 h5; have e6 := beq_eq_false_iff_ne.1 h6; have e7 := eq_of_beq h7
 exact Qb VOK.nil (y := (Q11 p0 (i0 + 1), Q12 p0 (i0 + 1))) [hB 3 hc0, hP 2 (Q1b p0 i0 x0 hx0), hB 2 h0, hB 2 h1, hB 3 h2, hB 2 h3, hB 7 h4, hP 8 (dec (!(x0 == 45)) true (by rw [h5]; rfl)), hP 3 (dec (!(x0 == 95)) true (by rw [h6]; rfl)), hP 3 (dec (!(x0 == 47)) false (by rw [h7]; rfl)), hP 2 (Qv i0 (by omega))] [] (by kernel_rfl) hr
def Qhy (p0 : ByteArray) (i0 : Nat) (x0 : Int) : List PV :=
  [.str p0, .un, .un, .int .i64 (i0 : Int), .int .u8 x0, .bool false, .int .i64 (i0 : Int), .str p0, .int .i64 (ByteArray.size p0 : Int), .bool true, .un, .un, .str p0, .int .i64 (i0 : Int), .int .u8 x0, .int .u8 x0, .bool true, .bool true, .int .u8 x0, .bool false, .bool false, .bool false, .int .u8 x0, .bool true, .bool true, .int .u8 x0, .bool false, .bool false, .bool false, .bool false, .bool true, .bool true, .int .u8 x0, .bool false, .bool false, .tup [], .tup [], .bool false, .bool true, .bool true, .bool true, .int .u8 x0, .bool true, .bool true, .bool true, .int .u8 x0, .bool true, .bool true, .bool true, .int .u8 x0, .bool true, .bool true]
def Qcu (_p0 : ByteArray) (_i0 : Nat) (_x0 : Int) : List (Nat × List PV) :=
  []
theorem Qse (p0 : ByteArray) (_H : Q10 p0) (x0 : Int) (i0 : Nat) (hx0 : (letters p0)[i0]? = some x0) (_hi0 : i0 < List.length (letters p0)) (hc0 : (decide ((i0 : Int) < (ByteArray.size p0 : Int))) = true) (h0 : (decide (97 ≤ x0)) = true) (h1 : (decide (x0 ≤ 122)) = false) (h2 : (decide (65 ≤ x0)) = true) (h3 : (decide (x0 ≤ 90)) = false) (h4 : (decide (48 ≤ x0)) = false) (h5 : (x0 == 45) = false) (h6 : (x0 == 95) = false) (h7 : (x0 == 47) = false) : Q3s p0 (Qm p0 i0) (.k1) := by
 exact ⟨(envF (Qhy p0 i0 x0)), (zoF (Qcu p0 i0 x0)), Qe VOK.nil (x := (.ret, Q3d p0 (envF (Qhy p0 i0 x0)) (zoF (Qcu p0 i0 x0)))) [hB 3 hc0, hP 2 (Q1b p0 i0 x0 hx0), hB 2 h0, hB 2 h1, hB 3 h2, hB 2 h3, hB 7 h4, hP 8 (dec (!(x0 == 45)) true (by rw [h5]; rfl)), hP 3 (dec (!(x0 == 95)) true (by rw [h6]; rfl)), hP 3 (dec (!(x0 == 47)) true (by rw [h7]; rfl))] [] (by kernel_rfl)⟩
theorem Qtz (p0 : ByteArray) (H : Q10 p0) (x0 : Int) (i0 : Nat) (hx0 : (letters p0)[i0]? = some x0) (_hi0 : i0 < List.length (letters p0)) (hc0 : (decide ((i0 : Int) < (ByteArray.size p0 : Int))) = true) (h0 : (decide (97 ≤ x0)) = true) (h1 : (decide (x0 ≤ 122)) = false) (h2 : (decide (65 ≤ x0)) = false) (h3 : (decide (48 ≤ x0)) = true) (h4 : (decide (x0 ≤ 57)) = true) {r : Rs} (hr : Q7 G (Qm p0 (i0 + 1)) r) : Q7 G (Qm p0 i0) r := by
 have hB0 := H.1; have e0 := of_decide_eq_true h0; have e1 := of_decide_eq_false h1; have e2 := of_decide_eq_false h2; have e3 := of_decide_eq_true h3; have e4 := of_decide_eq_true h4
 exact Qb VOK.nil (y := (Q11 p0 (i0 + 1), Q12 p0 (i0 + 1))) [hB 3 hc0, hP 2 (Q1b p0 i0 x0 hx0), hB 2 h0, hB 2 h1, hB 3 h2, hB 10 h3, hB 2 h4, hP 16 (Qv i0 (by omega))] [] (by kernel_rfl) hr
theorem Qur (p0 : ByteArray) (H : Q10 p0) (x0 : Int) (i0 : Nat) (hx0 : (letters p0)[i0]? = some x0) (_hi0 : i0 < List.length (letters p0)) (hc0 : (decide ((i0 : Int) < (ByteArray.size p0 : Int))) = true) (h0 : (decide (97 ≤ x0)) = true) (h1 : (decide (x0 ≤ 122)) = false) (h2 : (decide (65 ≤ x0)) = false) (h3 : (decide (48 ≤ x0)) = true) (h4 : (decide (x0 ≤ 57)) = false) (h5 : (x0 == 45) = true) {r : Rs} (hr : Q7 G (Qm p0 (i0 + 1)) r) : Q7 G (Qm p0 i0) r := by
 have hB0 := H.1; have e0 := of_decide_eq_true h0; have e1 := of_decide_eq_false h1; have e2 := of_decide_eq_false h2; have e3 := of_decide_eq_true h3; have e4 := of_decide_eq_false h4; have e5 := eq_of_beq h5
 exact Qb VOK.nil (y := (Q11 p0 (i0 + 1), Q12 p0 (i0 + 1))) [hB 3 hc0, hP 2 (Q1b p0 i0 x0 hx0), hB 2 h0, hB 2 h1, hB 3 h2, hB 10 h3, hB 2 h4, hP 5 (dec (!(x0 == 45)) false (by rw [h5]; rfl)), hP 10 (Qv i0 (by omega))] [] (by kernel_rfl) hr
theorem Qsg (p0 : ByteArray) (H : Q10 p0) (x0 : Int) (i0 : Nat) (hx0 : (letters p0)[i0]? = some x0) (_hi0 : i0 < List.length (letters p0)) (hc0 : (decide ((i0 : Int) < (ByteArray.size p0 : Int))) = true) (h0 : (decide (97 ≤ x0)) = true) (h1 : (decide (x0 ≤ 122)) = false) (h2 : (decide (65 ≤ x0)) = false) (h3 : (decide (48 ≤ x0)) = true) (h4 : (decide (x0 ≤ 57)) = false) (h5 : (x0 == 45) = false) (h6 : (x0 == 95) = true) {r : Rs} (hr : Q7 G (Qm p0 (i0 + 1)) r) : Q7 G (Qm p0 i0) r := by
 have hB0 := H.1; have e0 := of_decide_eq_true h0; have e1 := of_decide_eq_false h1; have e2 := of_decide_eq_false h2; have e3 := of_decide_eq_true h3; have e4 := of_decide_eq_false h4; have e5 := beq_eq_false_iff_ne.1 h5; have e6 := eq_of_beq h6
 exact Qb VOK.nil (y := (Q11 p0 (i0 + 1), Q12 p0 (i0 + 1))) [hB 3 hc0, hP 2 (Q1b p0 i0 x0 hx0), hB 2 h0, hB 2 h1, hB 3 h2, hB 10 h3, hB 2 h4, hP 5 (dec (!(x0 == 45)) true (by rw [h5]; rfl)), hP 3 (dec (!(x0 == 95)) false (by rw [h6]; rfl)), hP 6 (Qv i0 (by omega))] [] (by kernel_rfl) hr
theorem Qtp (p0 : ByteArray) (H : Q10 p0) (x0 : Int) (i0 : Nat) (hx0 : (letters p0)[i0]? = some x0) (_hi0 : i0 < List.length (letters p0)) (hc0 : (decide ((i0 : Int) < (ByteArray.size p0 : Int))) = true) (h0 : (decide (97 ≤ x0)) = true) (h1 : (decide (x0 ≤ 122)) = false) (h2 : (decide (65 ≤ x0)) = false) (h3 : (decide (48 ≤ x0)) = true) (h4 : (decide (x0 ≤ 57)) = false) (h5 : (x0 == 45) = false) (h6 : (x0 == 95) = false) (h7 : (x0 == 47) = true) {r : Rs} (hr : Q7 G (Qm p0 (i0 + 1)) r) : Q7 G (Qm p0 i0) r := by
 have hB0 := H.1; have e0 := of_decide_eq_true h0; have e1 := of_decide_eq_false h1; have e2 := of_decide_eq_false h2; have e3 := of_decide_eq_true h3; have e4 := of_decide_eq_false h4; have e5 := beq_eq_false_iff_ne.1 h5; have e6 := beq_eq_false_iff_ne.1 h6; have e7 := eq_of_beq h7
 exact Qb VOK.nil (y := (Q11 p0 (i0 + 1), Q12 p0 (i0 + 1))) [hB 3 hc0, hP 2 (Q1b p0 i0 x0 hx0), hB 2 h0, hB 2 h1, hB 3 h2, hB 10 h3, hB 2 h4, hP 5 (dec (!(x0 == 45)) true (by rw [h5]; rfl)), hP 3 (dec (!(x0 == 95)) true (by rw [h6]; rfl)), hP 3 (dec (!(x0 == 47)) false (by rw [h7]; rfl)), hP 2 (Qv i0 (by omega))] [] (by kernel_rfl) hr
def Qhu (p0 : ByteArray) (i0 : Nat) (x0 : Int) : List PV :=
  [.str p0, .un, .un, .int .i64 (i0 : Int), .int .u8 x0, .bool false, .int .i64 (i0 : Int), .str p0, .int .i64 (ByteArray.size p0 : Int), .bool true, .un, .un, .str p0, .int .i64 (i0 : Int), .int .u8 x0, .int .u8 x0, .bool true, .bool true, .int .u8 x0, .bool false, .bool false, .bool false, .int .u8 x0, .bool false, .bool false, .tup [], .tup [], .bool false, .bool false, .bool false, .bool true, .bool true, .int .u8 x0, .bool true, .bool true, .int .u8 x0, .bool false, .bool false, .bool true, .bool true, .bool true, .int .u8 x0, .bool true, .bool true, .bool true, .int .u8 x0, .bool true, .bool true, .bool true, .int .u8 x0, .bool true, .bool true]
def Qeg (_p0 : ByteArray) (_i0 : Nat) (_x0 : Int) : List (Nat × List PV) :=
  []
theorem Qt2 (p0 : ByteArray) (_H : Q10 p0) (x0 : Int) (i0 : Nat) (hx0 : (letters p0)[i0]? = some x0) (_hi0 : i0 < List.length (letters p0)) (hc0 : (decide ((i0 : Int) < (ByteArray.size p0 : Int))) = true) (h0 : (decide (97 ≤ x0)) = true) (h1 : (decide (x0 ≤ 122)) = false) (h2 : (decide (65 ≤ x0)) = false) (h3 : (decide (48 ≤ x0)) = true) (h4 : (decide (x0 ≤ 57)) = false) (h5 : (x0 == 45) = false) (h6 : (x0 == 95) = false) (h7 : (x0 == 47) = false) : Q3s p0 (Qm p0 i0) (.k1) := by
 exact ⟨(envF (Qhu p0 i0 x0)), (zoF (Qeg p0 i0 x0)), Qe VOK.nil (x := (.ret, Q3d p0 (envF (Qhu p0 i0 x0)) (zoF (Qeg p0 i0 x0)))) [hB 3 hc0, hP 2 (Q1b p0 i0 x0 hx0), hB 2 h0, hB 2 h1, hB 3 h2, hB 10 h3, hB 2 h4, hP 5 (dec (!(x0 == 45)) true (by rw [h5]; rfl)), hP 3 (dec (!(x0 == 95)) true (by rw [h6]; rfl)), hP 3 (dec (!(x0 == 47)) true (by rw [h7]; rfl))] [] (by kernel_rfl)⟩
theorem Qu6 (p0 : ByteArray) (H : Q10 p0) (x0 : Int) (i0 : Nat) (hx0 : (letters p0)[i0]? = some x0) (_hi0 : i0 < List.length (letters p0)) (hc0 : (decide ((i0 : Int) < (ByteArray.size p0 : Int))) = true) (h0 : (decide (97 ≤ x0)) = true) (h1 : (decide (x0 ≤ 122)) = false) (h2 : (decide (65 ≤ x0)) = false) (h3 : (decide (48 ≤ x0)) = false) (h4 : (x0 == 45) = true) {r : Rs} (hr : Q7 G (Qm p0 (i0 + 1)) r) : Q7 G (Qm p0 i0) r := by
 have hB0 := H.1; have e0 := of_decide_eq_true h0; have e1 := of_decide_eq_false h1; have e2 := of_decide_eq_false h2; have e3 := of_decide_eq_false h3; have e4 := eq_of_beq h4
 exact Qb VOK.nil (y := (Q11 p0 (i0 + 1), Q12 p0 (i0 + 1))) [hB 3 hc0, hP 2 (Q1b p0 i0 x0 hx0), hB 2 h0, hB 2 h1, hB 3 h2, hB 10 h3, hP 8 (dec (!(x0 == 45)) false (by rw [h4]; rfl)), hP 10 (Qv i0 (by omega))] [] (by kernel_rfl) hr
theorem Quo (p0 : ByteArray) (H : Q10 p0) (x0 : Int) (i0 : Nat) (hx0 : (letters p0)[i0]? = some x0) (_hi0 : i0 < List.length (letters p0)) (hc0 : (decide ((i0 : Int) < (ByteArray.size p0 : Int))) = true) (h0 : (decide (97 ≤ x0)) = true) (h1 : (decide (x0 ≤ 122)) = false) (h2 : (decide (65 ≤ x0)) = false) (h3 : (decide (48 ≤ x0)) = false) (h4 : (x0 == 45) = false) (h5 : (x0 == 95) = true) {r : Rs} (hr : Q7 G (Qm p0 (i0 + 1)) r) : Q7 G (Qm p0 i0) r := by
 have hB0 := H.1; have e0 := of_decide_eq_true h0; have e1 := of_decide_eq_false h1; have e2 := of_decide_eq_false h2; have e3 := of_decide_eq_false h3; have e4 := beq_eq_false_iff_ne.1 h4; have e5 := eq_of_beq h5
 exact Qb VOK.nil (y := (Q11 p0 (i0 + 1), Q12 p0 (i0 + 1))) [hB 3 hc0, hP 2 (Q1b p0 i0 x0 hx0), hB 2 h0, hB 2 h1, hB 3 h2, hB 10 h3, hP 8 (dec (!(x0 == 45)) true (by rw [h4]; rfl)), hP 3 (dec (!(x0 == 95)) false (by rw [h5]; rfl)), hP 6 (Qv i0 (by omega))] [] (by kernel_rfl) hr
theorem Qt9 (p0 : ByteArray) (H : Q10 p0) (x0 : Int) (i0 : Nat) (hx0 : (letters p0)[i0]? = some x0) (_hi0 : i0 < List.length (letters p0)) (hc0 : (decide ((i0 : Int) < (ByteArray.size p0 : Int))) = true) (h0 : (decide (97 ≤ x0)) = true) (h1 : (decide (x0 ≤ 122)) = false) (h2 : (decide (65 ≤ x0)) = false) (h3 : (decide (48 ≤ x0)) = false) (h4 : (x0 == 45) = false) (h5 : (x0 == 95) = false) (h6 : (x0 == 47) = true) {r : Rs} (hr : Q7 G (Qm p0 (i0 + 1)) r) : Q7 G (Qm p0 i0) r := by
 have hB0 := H.1; have e0 := of_decide_eq_true h0; have e1 := of_decide_eq_false h1; have e2 := of_decide_eq_false h2; have e3 := of_decide_eq_false h3; have e4 := beq_eq_false_iff_ne.1 h4; have e5 := beq_eq_false_iff_ne.1 h5; have e6 := eq_of_beq h6
 exact Qb VOK.nil (y := (Q11 p0 (i0 + 1), Q12 p0 (i0 + 1))) [hB 3 hc0, hP 2 (Q1b p0 i0 x0 hx0), hB 2 h0, hB 2 h1, hB 3 h2, hB 10 h3, hP 8 (dec (!(x0 == 45)) true (by rw [h4]; rfl)), hP 3 (dec (!(x0 == 95)) true (by rw [h5]; rfl)), hP 3 (dec (!(x0 == 47)) false (by rw [h6]; rfl)), hP 2 (Qv i0 (by omega))] [] (by kernel_rfl) hr
def Qhk (p0 : ByteArray) (i0 : Nat) (x0 : Int) : List PV :=
  [.str p0, .un, .un, .int .i64 (i0 : Int), .int .u8 x0, .bool false, .int .i64 (i0 : Int), .str p0, .int .i64 (ByteArray.size p0 : Int), .bool true, .un, .un, .str p0, .int .i64 (i0 : Int), .int .u8 x0, .int .u8 x0, .bool true, .bool true, .int .u8 x0, .bool false, .bool false, .bool false, .int .u8 x0, .bool false, .bool false, .tup [], .tup [], .bool false, .bool false, .bool false, .bool true, .bool true, .int .u8 x0, .bool false, .bool false, .tup [], .tup [], .bool false, .bool true, .bool true, .bool true, .int .u8 x0, .bool true, .bool true, .bool true, .int .u8 x0, .bool true, .bool true, .bool true, .int .u8 x0, .bool true, .bool true]
def Qem (_p0 : ByteArray) (_i0 : Nat) (_x0 : Int) : List (Nat × List PV) :=
  []
theorem Qtq (p0 : ByteArray) (_H : Q10 p0) (x0 : Int) (i0 : Nat) (hx0 : (letters p0)[i0]? = some x0) (_hi0 : i0 < List.length (letters p0)) (hc0 : (decide ((i0 : Int) < (ByteArray.size p0 : Int))) = true) (h0 : (decide (97 ≤ x0)) = true) (h1 : (decide (x0 ≤ 122)) = false) (h2 : (decide (65 ≤ x0)) = false) (h3 : (decide (48 ≤ x0)) = false) (h4 : (x0 == 45) = false) (h5 : (x0 == 95) = false) (h6 : (x0 == 47) = false) : Q3s p0 (Qm p0 i0) (.k1) := by
 exact ⟨(envF (Qhk p0 i0 x0)), (zoF (Qem p0 i0 x0)), Qe VOK.nil (x := (.ret, Q3d p0 (envF (Qhk p0 i0 x0)) (zoF (Qem p0 i0 x0)))) [hB 3 hc0, hP 2 (Q1b p0 i0 x0 hx0), hB 2 h0, hB 2 h1, hB 3 h2, hB 10 h3, hP 8 (dec (!(x0 == 45)) true (by rw [h4]; rfl)), hP 3 (dec (!(x0 == 95)) true (by rw [h5]; rfl)), hP 3 (dec (!(x0 == 47)) true (by rw [h6]; rfl))] [] (by kernel_rfl)⟩
theorem Qti (p0 : ByteArray) (H : Q10 p0) (x0 : Int) (i0 : Nat) (hx0 : (letters p0)[i0]? = some x0) (hi0 : i0 < List.length (letters p0)) (hc0 : (decide ((i0 : Int) < (ByteArray.size p0 : Int))) = true) (h0 : (decide (97 ≤ x0)) = false) (h1 : (decide (65 ≤ x0)) = true) (h2 : (decide (x0 ≤ 90)) = true) {r : Rs} (hr : Q7 G (Qm p0 (i0 + 1)) r) : Q7 G (Qm p0 i0) r := by
 have hB0 := H.1; have e0 := of_decide_eq_false h0; have e1 := of_decide_eq_true h1; have e2 := of_decide_eq_true h2
 exact Qb VOK.nil (y := (Q11 p0 (i0 + 1), Q12 p0 (i0 + 1))) [hB 3 hc0, hP 2 (Q1b p0 i0 x0 hx0), hB 2 h0, hB 6 h1, hB 2 h2, hP 27 (Qv i0 (by omega))] [] (by kernel_rfl) hr
theorem Qva (p0 : ByteArray) (H : Q10 p0) (x0 : Int) (i0 : Nat) (hx0 : (letters p0)[i0]? = some x0) (_hi0 : i0 < List.length (letters p0)) (hc0 : (decide ((i0 : Int) < (ByteArray.size p0 : Int))) = true) (h0 : (decide (97 ≤ x0)) = false) (h1 : (decide (65 ≤ x0)) = true) (h2 : (decide (x0 ≤ 90)) = false) (h3 : (decide (48 ≤ x0)) = true) (h4 : (decide (x0 ≤ 57)) = true) {r : Rs} (hr : Q7 G (Qm p0 (i0 + 1)) r) : Q7 G (Qm p0 i0) r := by
 have hB0 := H.1; have e0 := of_decide_eq_false h0; have e1 := of_decide_eq_true h1; have e2 := of_decide_eq_false h2; have e3 := of_decide_eq_true h3; have e4 := of_decide_eq_true h4
 exact Qb VOK.nil (y := (Q11 p0 (i0 + 1), Q12 p0 (i0 + 1))) [hB 3 hc0, hP 2 (Q1b p0 i0 x0 hx0), hB 2 h0, hB 6 h1, hB 2 h2, hB 7 h3, hB 2 h4, hP 16 (Qv i0 (by omega))] [] (by kernel_rfl) hr
theorem Qvk (p0 : ByteArray) (H : Q10 p0) (x0 : Int) (i0 : Nat) (hx0 : (letters p0)[i0]? = some x0) (_hi0 : i0 < List.length (letters p0)) (hc0 : (decide ((i0 : Int) < (ByteArray.size p0 : Int))) = true) (h0 : (decide (97 ≤ x0)) = false) (h1 : (decide (65 ≤ x0)) = true) (h2 : (decide (x0 ≤ 90)) = false) (h3 : (decide (48 ≤ x0)) = true) (h4 : (decide (x0 ≤ 57)) = false) (h5 : (x0 == 45) = true) {r : Rs} (hr : Q7 G (Qm p0 (i0 + 1)) r) : Q7 G (Qm p0 i0) r := by
 have hB0 := H.1; have e0 := of_decide_eq_false h0; have e1 := of_decide_eq_true h1; have e2 := of_decide_eq_false h2; have e3 := of_decide_eq_true h3; have e4 := of_decide_eq_false h4; have e5 := eq_of_beq h5
 exact Qb VOK.nil (y := (Q11 p0 (i0 + 1), Q12 p0 (i0 + 1))) [hB 3 hc0, hP 2 (Q1b p0 i0 x0 hx0), hB 2 h0, hB 6 h1, hB 2 h2, hB 7 h3, hB 2 h4, hP 5 (dec (!(x0 == 45)) false (by rw [h5]; rfl)), hP 10 (Qv i0 (by omega))] [] (by kernel_rfl) hr
theorem Qsj (p0 : ByteArray) (H : Q10 p0) (x0 : Int) (i0 : Nat) (hx0 : (letters p0)[i0]? = some x0) (hi0 : i0 < List.length (letters p0)) (hc0 : (decide ((i0 : Int) < (ByteArray.size p0 : Int))) = true) (h0 : (decide (97 ≤ x0)) = false) (h1 : (decide (65 ≤ x0)) = true) (h2 : (decide (x0 ≤ 90)) = false) (h3 : (decide (48 ≤ x0)) = true) (h4 : (decide (x0 ≤ 57)) = false) (h5 : (x0 == 45) = false) (h6 : (x0 == 95) = true) {r : Rs} (hr : Q7 G (Qm p0 (i0 + 1)) r) : Q7 G (Qm p0 i0) r := by
 have hB0 := H.1; have e0 := of_decide_eq_false h0; have e1 := of_decide_eq_true h1; have e2 := of_decide_eq_false h2; have e3 := of_decide_eq_true h3; have e4 := of_decide_eq_false h4; have e5 := beq_eq_false_iff_ne.1 h5; have e6 := eq_of_beq h6
 exact Qb VOK.nil (y := (Q11 p0 (i0 + 1), Q12 p0 (i0 + 1))) [hB 3 hc0, hP 2 (Q1b p0 i0 x0 hx0), hB 2 h0, hB 6 h1, hB 2 h2, hB 7 h3, hB 2 h4, hP 5 (dec (!(x0 == 45)) true (by rw [h5]; rfl)), hP 3 (dec (!(x0 == 95)) false (by rw [h6]; rfl)), hP 6 (Qv i0 (by omega))] [] (by kernel_rfl) hr
theorem Qv2 (p0 : ByteArray) (H : Q10 p0) (x0 : Int) (i0 : Nat) (hx0 : (letters p0)[i0]? = some x0) (_hi0 : i0 < List.length (letters p0)) (hc0 : (decide ((i0 : Int) < (ByteArray.size p0 : Int))) = true) (h0 : (decide (97 ≤ x0)) = false) (h1 : (decide (65 ≤ x0)) = true) (h2 : (decide (x0 ≤ 90)) = false) (h3 : (decide (48 ≤ x0)) = true) (h4 : (decide (x0 ≤ 57)) = false) (h5 : (x0 == 45) = false) (h6 : (x0 == 95) = false) (h7 : (x0 == 47) = true) {r : Rs} (hr : Q7 G (Qm p0 (i0 + 1)) r) : Q7 G (Qm p0 i0) r := by
 have hB0 := H.1; have e0 := of_decide_eq_false h0; have e1 := of_decide_eq_true h1; have e2 := of_decide_eq_false h2; have e3 := of_decide_eq_true h3; have e4 := of_decide_eq_false h4; have e5 := beq_eq_false_iff_ne.1 h5; have e6 := beq_eq_false_iff_ne.1 h6; have e7 := eq_of_beq h7
 exact Qb VOK.nil (y := (Q11 p0 (i0 + 1), Q12 p0 (i0 + 1))) [hB 3 hc0, hP 2 (Q1b p0 i0 x0 hx0), hB 2 h0, hB 6 h1, hB 2 h2, hB 7 h3, hB 2 h4, hP 5 (dec (!(x0 == 45)) true (by rw [h5]; rfl)), hP 3 (dec (!(x0 == 95)) true (by rw [h6]; rfl)), hP 3 (dec (!(x0 == 47)) false (by rw [h7]; rfl)), hP 2 (Qv i0 (by omega))] [] (by kernel_rfl) hr
def Qhr (p0 : ByteArray) (i0 : Nat) (x0 : Int) : List PV :=
  [.str p0, .un, .un, .int .i64 (i0 : Int), .int .u8 x0, .bool false, .int .i64 (i0 : Int), .str p0, .int .i64 (ByteArray.size p0 : Int), .bool true, .un, .un, .str p0, .int .i64 (i0 : Int), .int .u8 x0, .int .u8 x0, .bool false, .bool false, .tup [], .tup [], .bool false, .bool false, .int .u8 x0, .bool true, .bool true, .int .u8 x0, .bool false, .bool false, .bool false, .bool false, .bool true, .bool true, .int .u8 x0, .bool true, .bool true, .int .u8 x0, .bool false, .bool false, .bool true, .bool true, .bool true, .int .u8 x0, .bool true, .bool true, .bool true, .int .u8 x0, .bool true, .bool true, .bool true, .int .u8 x0, .bool true, .bool true]
def Qdx (_p0 : ByteArray) (_i0 : Nat) (_x0 : Int) : List (Nat × List PV) :=
  []
theorem Qtu (p0 : ByteArray) (_H : Q10 p0) (x0 : Int) (i0 : Nat) (hx0 : (letters p0)[i0]? = some x0) (_hi0 : i0 < List.length (letters p0)) (hc0 : (decide ((i0 : Int) < (ByteArray.size p0 : Int))) = true) (h0 : (decide (97 ≤ x0)) = false) (h1 : (decide (65 ≤ x0)) = true) (h2 : (decide (x0 ≤ 90)) = false) (h3 : (decide (48 ≤ x0)) = true) (h4 : (decide (x0 ≤ 57)) = false) (h5 : (x0 == 45) = false) (h6 : (x0 == 95) = false) (h7 : (x0 == 47) = false) : Q3s p0 (Qm p0 i0) (.k1) := by
 exact ⟨(envF (Qhr p0 i0 x0)), (zoF (Qdx p0 i0 x0)), Qe VOK.nil (x := (.ret, Q3d p0 (envF (Qhr p0 i0 x0)) (zoF (Qdx p0 i0 x0)))) [hB 3 hc0, hP 2 (Q1b p0 i0 x0 hx0), hB 2 h0, hB 6 h1, hB 2 h2, hB 7 h3, hB 2 h4, hP 5 (dec (!(x0 == 45)) true (by rw [h5]; rfl)), hP 3 (dec (!(x0 == 95)) true (by rw [h6]; rfl)), hP 3 (dec (!(x0 == 47)) true (by rw [h7]; rfl))] [] (by kernel_rfl)⟩
theorem Qsk (p0 : ByteArray) (H : Q10 p0) (x0 : Int) (i0 : Nat) (hx0 : (letters p0)[i0]? = some x0) (_hi0 : i0 < List.length (letters p0)) (hc0 : (decide ((i0 : Int) < (ByteArray.size p0 : Int))) = true) (h0 : (decide (97 ≤ x0)) = false) (h1 : (decide (65 ≤ x0)) = true) (h2 : (decide (x0 ≤ 90)) = false) (h3 : (decide (48 ≤ x0)) = false) (h4 : (x0 == 45) = true) {r : Rs} (hr : Q7 G (Qm p0 (i0 + 1)) r) : Q7 G (Qm p0 i0) r := by
 have hB0 := H.1; have e0 := of_decide_eq_false h0; have e1 := of_decide_eq_true h1; have e2 := of_decide_eq_false h2; have e3 := of_decide_eq_false h3; have e4 := eq_of_beq h4
 exact Qb VOK.nil (y := (Q11 p0 (i0 + 1), Q12 p0 (i0 + 1))) [hB 3 hc0, hP 2 (Q1b p0 i0 x0 hx0), hB 2 h0, hB 6 h1, hB 2 h2, hB 7 h3, hP 8 (dec (!(x0 == 45)) false (by rw [h4]; rfl)), hP 10 (Qv i0 (by omega))] [] (by kernel_rfl) hr
theorem Qup (p0 : ByteArray) (H : Q10 p0) (x0 : Int) (i0 : Nat) (hx0 : (letters p0)[i0]? = some x0) (_hi0 : i0 < List.length (letters p0)) (hc0 : (decide ((i0 : Int) < (ByteArray.size p0 : Int))) = true) (h0 : (decide (97 ≤ x0)) = false) (h1 : (decide (65 ≤ x0)) = true) (h2 : (decide (x0 ≤ 90)) = false) (h3 : (decide (48 ≤ x0)) = false) (h4 : (x0 == 45) = false) (h5 : (x0 == 95) = true) {r : Rs} (hr : Q7 G (Qm p0 (i0 + 1)) r) : Q7 G (Qm p0 i0) r := by
 have hB0 := H.1; have e0 := of_decide_eq_false h0; have e1 := of_decide_eq_true h1; have e2 := of_decide_eq_false h2; have e3 := of_decide_eq_false h3; have e4 := beq_eq_false_iff_ne.1 h4; have e5 := eq_of_beq h5
 exact Qb VOK.nil (y := (Q11 p0 (i0 + 1), Q12 p0 (i0 + 1))) [hB 3 hc0, hP 2 (Q1b p0 i0 x0 hx0), hB 2 h0, hB 6 h1, hB 2 h2, hB 7 h3, hP 8 (dec (!(x0 == 45)) true (by rw [h4]; rfl)), hP 3 (dec (!(x0 == 95)) false (by rw [h5]; rfl)), hP 6 (Qv i0 (by omega))] [] (by kernel_rfl) hr
theorem Qt4 (p0 : ByteArray) (H : Q10 p0) (x0 : Int) (i0 : Nat) (hx0 : (letters p0)[i0]? = some x0) (_hi0 : i0 < List.length (letters p0)) (hc0 : (decide ((i0 : Int) < (ByteArray.size p0 : Int))) = true) (h0 : (decide (97 ≤ x0)) = false) (h1 : (decide (65 ≤ x0)) = true) (h2 : (decide (x0 ≤ 90)) = false) (h3 : (decide (48 ≤ x0)) = false) (h4 : (x0 == 45) = false) (h5 : (x0 == 95) = false) (h6 : (x0 == 47) = true) {r : Rs} (hr : Q7 G (Qm p0 (i0 + 1)) r) : Q7 G (Qm p0 i0) r := by
 have hB0 := H.1; have e0 := of_decide_eq_false h0; have e1 := of_decide_eq_true h1; have e2 := of_decide_eq_false h2; have e3 := of_decide_eq_false h3; have e4 := beq_eq_false_iff_ne.1 h4; have e5 := beq_eq_false_iff_ne.1 h5; have e6 := eq_of_beq h6
 exact Qb VOK.nil (y := (Q11 p0 (i0 + 1), Q12 p0 (i0 + 1))) [hB 3 hc0, hP 2 (Q1b p0 i0 x0 hx0), hB 2 h0, hB 6 h1, hB 2 h2, hB 7 h3, hP 8 (dec (!(x0 == 45)) true (by rw [h4]; rfl)), hP 3 (dec (!(x0 == 95)) true (by rw [h5]; rfl)), hP 3 (dec (!(x0 == 47)) false (by rw [h6]; rfl)), hP 2 (Qv i0 (by omega))] [] (by kernel_rfl) hr
def Qha (p0 : ByteArray) (i0 : Nat) (x0 : Int) : List PV :=
  [.str p0, .un, .un, .int .i64 (i0 : Int), .int .u8 x0, .bool false, .int .i64 (i0 : Int), .str p0, .int .i64 (ByteArray.size p0 : Int), .bool true, .un, .un, .str p0, .int .i64 (i0 : Int), .int .u8 x0, .int .u8 x0, .bool false, .bool false, .tup [], .tup [], .bool false, .bool false, .int .u8 x0, .bool true, .bool true, .int .u8 x0, .bool false, .bool false, .bool false, .bool false, .bool true, .bool true, .int .u8 x0, .bool false, .bool false, .tup [], .tup [], .bool false, .bool true, .bool true, .bool true, .int .u8 x0, .bool true, .bool true, .bool true, .int .u8 x0, .bool true, .bool true, .bool true, .int .u8 x0, .bool true, .bool true]
def Qbn (_p0 : ByteArray) (_i0 : Nat) (_x0 : Int) : List (Nat × List PV) :=
  []
theorem Qvf (p0 : ByteArray) (_H : Q10 p0) (x0 : Int) (i0 : Nat) (hx0 : (letters p0)[i0]? = some x0) (_hi0 : i0 < List.length (letters p0)) (hc0 : (decide ((i0 : Int) < (ByteArray.size p0 : Int))) = true) (h0 : (decide (97 ≤ x0)) = false) (h1 : (decide (65 ≤ x0)) = true) (h2 : (decide (x0 ≤ 90)) = false) (h3 : (decide (48 ≤ x0)) = false) (h4 : (x0 == 45) = false) (h5 : (x0 == 95) = false) (h6 : (x0 == 47) = false) : Q3s p0 (Qm p0 i0) (.k1) := by
 exact ⟨(envF (Qha p0 i0 x0)), (zoF (Qbn p0 i0 x0)), Qe VOK.nil (x := (.ret, Q3d p0 (envF (Qha p0 i0 x0)) (zoF (Qbn p0 i0 x0)))) [hB 3 hc0, hP 2 (Q1b p0 i0 x0 hx0), hB 2 h0, hB 6 h1, hB 2 h2, hB 7 h3, hP 8 (dec (!(x0 == 45)) true (by rw [h4]; rfl)), hP 3 (dec (!(x0 == 95)) true (by rw [h5]; rfl)), hP 3 (dec (!(x0 == 47)) true (by rw [h6]; rfl))] [] (by kernel_rfl)⟩
theorem Qsf (p0 : ByteArray) (H : Q10 p0) (x0 : Int) (i0 : Nat) (hx0 : (letters p0)[i0]? = some x0) (hi0 : i0 < List.length (letters p0)) (hc0 : (decide ((i0 : Int) < (ByteArray.size p0 : Int))) = true) (h0 : (decide (97 ≤ x0)) = false) (h1 : (decide (65 ≤ x0)) = false) (h2 : (decide (48 ≤ x0)) = true) (h3 : (decide (x0 ≤ 57)) = true) {r : Rs} (hr : Q7 G (Qm p0 (i0 + 1)) r) : Q7 G (Qm p0 i0) r := by
 have hB0 := H.1; have e0 := of_decide_eq_false h0; have e1 := of_decide_eq_false h1; have e2 := of_decide_eq_true h2; have e3 := of_decide_eq_true h3
 exact Qb VOK.nil (y := (Q11 p0 (i0 + 1), Q12 p0 (i0 + 1))) [hB 3 hc0, hP 2 (Q1b p0 i0 x0 hx0), hB 2 h0, hB 6 h1, hB 10 h2, hB 2 h3, hP 16 (Qv i0 (by omega))] [] (by kernel_rfl) hr
theorem Qt8 (p0 : ByteArray) (H : Q10 p0) (x0 : Int) (i0 : Nat) (hx0 : (letters p0)[i0]? = some x0) (_hi0 : i0 < List.length (letters p0)) (hc0 : (decide ((i0 : Int) < (ByteArray.size p0 : Int))) = true) (h0 : (decide (97 ≤ x0)) = false) (h1 : (decide (65 ≤ x0)) = false) (h2 : (decide (48 ≤ x0)) = true) (h3 : (decide (x0 ≤ 57)) = false) (h4 : (x0 == 45) = true) {r : Rs} (hr : Q7 G (Qm p0 (i0 + 1)) r) : Q7 G (Qm p0 i0) r := by
 have hB0 := H.1; have e0 := of_decide_eq_false h0; have e1 := of_decide_eq_false h1; have e2 := of_decide_eq_true h2; have e3 := of_decide_eq_false h3; have e4 := eq_of_beq h4
 exact Qb VOK.nil (y := (Q11 p0 (i0 + 1), Q12 p0 (i0 + 1))) [hB 3 hc0, hP 2 (Q1b p0 i0 x0 hx0), hB 2 h0, hB 6 h1, hB 10 h2, hB 2 h3, hP 5 (dec (!(x0 == 45)) false (by rw [h4]; rfl)), hP 10 (Qv i0 (by omega))] [] (by kernel_rfl) hr
theorem Qvj (p0 : ByteArray) (H : Q10 p0) (x0 : Int) (i0 : Nat) (hx0 : (letters p0)[i0]? = some x0) (_hi0 : i0 < List.length (letters p0)) (hc0 : (decide ((i0 : Int) < (ByteArray.size p0 : Int))) = true) (h0 : (decide (97 ≤ x0)) = false) (h1 : (decide (65 ≤ x0)) = false) (h2 : (decide (48 ≤ x0)) = true) (h3 : (decide (x0 ≤ 57)) = false) (h4 : (x0 == 45) = false) (h5 : (x0 == 95) = true) {r : Rs} (hr : Q7 G (Qm p0 (i0 + 1)) r) : Q7 G (Qm p0 i0) r := by
 have hB0 := H.1; have e0 := of_decide_eq_false h0; have e1 := of_decide_eq_false h1; have e2 := of_decide_eq_true h2; have e3 := of_decide_eq_false h3; have e4 := beq_eq_false_iff_ne.1 h4; have e5 := eq_of_beq h5
 exact Qb VOK.nil (y := (Q11 p0 (i0 + 1), Q12 p0 (i0 + 1))) [hB 3 hc0, hP 2 (Q1b p0 i0 x0 hx0), hB 2 h0, hB 6 h1, hB 10 h2, hB 2 h3, hP 5 (dec (!(x0 == 45)) true (by rw [h4]; rfl)), hP 3 (dec (!(x0 == 95)) false (by rw [h5]; rfl)), hP 6 (Qv i0 (by omega))] [] (by kernel_rfl) hr
theorem Qui (p0 : ByteArray) (H : Q10 p0) (x0 : Int) (i0 : Nat) (hx0 : (letters p0)[i0]? = some x0) (_hi0 : i0 < List.length (letters p0)) (hc0 : (decide ((i0 : Int) < (ByteArray.size p0 : Int))) = true) (h0 : (decide (97 ≤ x0)) = false) (h1 : (decide (65 ≤ x0)) = false) (h2 : (decide (48 ≤ x0)) = true) (h3 : (decide (x0 ≤ 57)) = false) (h4 : (x0 == 45) = false) (h5 : (x0 == 95) = false) (h6 : (x0 == 47) = true) {r : Rs} (hr : Q7 G (Qm p0 (i0 + 1)) r) : Q7 G (Qm p0 i0) r := by
 have hB0 := H.1; have e0 := of_decide_eq_false h0; have e1 := of_decide_eq_false h1; have e2 := of_decide_eq_true h2; have e3 := of_decide_eq_false h3; have e4 := beq_eq_false_iff_ne.1 h4; have e5 := beq_eq_false_iff_ne.1 h5; have e6 := eq_of_beq h6
 exact Qb VOK.nil (y := (Q11 p0 (i0 + 1), Q12 p0 (i0 + 1))) [hB 3 hc0, hP 2 (Q1b p0 i0 x0 hx0), hB 2 h0, hB 6 h1, hB 10 h2, hB 2 h3, hP 5 (dec (!(x0 == 45)) true (by rw [h4]; rfl)), hP 3 (dec (!(x0 == 95)) true (by rw [h5]; rfl)), hP 3 (dec (!(x0 == 47)) false (by rw [h6]; rfl)), hP 2 (Qv i0 (by omega))] [] (by kernel_rfl) hr
def Qi6 (p0 : ByteArray) (i0 : Nat) (x0 : Int) : List PV :=
  [.str p0, .un, .un, .int .i64 (i0 : Int), .int .u8 x0, .bool false, .int .i64 (i0 : Int), .str p0, .int .i64 (ByteArray.size p0 : Int), .bool true, .un, .un, .str p0, .int .i64 (i0 : Int), .int .u8 x0, .int .u8 x0, .bool false, .bool false, .tup [], .tup [], .bool false, .bool false, .int .u8 x0, .bool false, .bool false, .tup [], .tup [], .bool false, .bool false, .bool false, .bool true, .bool true, .int .u8 x0, .bool true, .bool true, .int .u8 x0, .bool false, .bool false, .bool true, .bool true, .bool true, .int .u8 x0, .bool true, .bool true, .bool true, .int .u8 x0, .bool true, .bool true, .bool true, .int .u8 x0, .bool true, .bool true]
def Qea (_p0 : ByteArray) (_i0 : Nat) (_x0 : Int) : List (Nat × List PV) :=
  []
theorem Qtg (p0 : ByteArray) (_H : Q10 p0) (x0 : Int) (i0 : Nat) (hx0 : (letters p0)[i0]? = some x0) (_hi0 : i0 < List.length (letters p0)) (hc0 : (decide ((i0 : Int) < (ByteArray.size p0 : Int))) = true) (h0 : (decide (97 ≤ x0)) = false) (h1 : (decide (65 ≤ x0)) = false) (h2 : (decide (48 ≤ x0)) = true) (h3 : (decide (x0 ≤ 57)) = false) (h4 : (x0 == 45) = false) (h5 : (x0 == 95) = false) (h6 : (x0 == 47) = false) : Q3s p0 (Qm p0 i0) (.k1) := by
 exact ⟨(envF (Qi6 p0 i0 x0)), (zoF (Qea p0 i0 x0)), Qe VOK.nil (x := (.ret, Q3d p0 (envF (Qi6 p0 i0 x0)) (zoF (Qea p0 i0 x0)))) [hB 3 hc0, hP 2 (Q1b p0 i0 x0 hx0), hB 2 h0, hB 6 h1, hB 10 h2, hB 2 h3, hP 5 (dec (!(x0 == 45)) true (by rw [h4]; rfl)), hP 3 (dec (!(x0 == 95)) true (by rw [h5]; rfl)), hP 3 (dec (!(x0 == 47)) true (by rw [h6]; rfl))] [] (by kernel_rfl)⟩
theorem Qum (p0 : ByteArray) (H : Q10 p0) (x0 : Int) (i0 : Nat) (hx0 : (letters p0)[i0]? = some x0) (hi0 : i0 < List.length (letters p0)) (hc0 : (decide ((i0 : Int) < (ByteArray.size p0 : Int))) = true) (h0 : (decide (97 ≤ x0)) = false) (h1 : (decide (65 ≤ x0)) = false) (h2 : (decide (48 ≤ x0)) = false) (h3 : (x0 == 45) = true) {r : Rs} (hr : Q7 G (Qm p0 (i0 + 1)) r) : Q7 G (Qm p0 i0) r := by
 have hB0 := H.1; have e0 := of_decide_eq_false h0; have e1 := of_decide_eq_false h1; have e2 := of_decide_eq_false h2; have e3 := eq_of_beq h3
 exact Qb VOK.nil (y := (Q11 p0 (i0 + 1), Q12 p0 (i0 + 1))) [hB 3 hc0, hP 2 (Q1b p0 i0 x0 hx0), hB 2 h0, hB 6 h1, hB 10 h2, hP 8 (dec (!(x0 == 45)) false (by rw [h3]; rfl)), hP 10 (Qv i0 (by omega))] [] (by kernel_rfl) hr
theorem Qub (p0 : ByteArray) (H : Q10 p0) (x0 : Int) (i0 : Nat) (hx0 : (letters p0)[i0]? = some x0) (_hi0 : i0 < List.length (letters p0)) (hc0 : (decide ((i0 : Int) < (ByteArray.size p0 : Int))) = true) (h0 : (decide (97 ≤ x0)) = false) (h1 : (decide (65 ≤ x0)) = false) (h2 : (decide (48 ≤ x0)) = false) (h3 : (x0 == 45) = false) (h4 : (x0 == 95) = true) {r : Rs} (hr : Q7 G (Qm p0 (i0 + 1)) r) : Q7 G (Qm p0 i0) r := by
 have hB0 := H.1; have e0 := of_decide_eq_false h0; have e1 := of_decide_eq_false h1; have e2 := of_decide_eq_false h2; have e3 := beq_eq_false_iff_ne.1 h3; have e4 := eq_of_beq h4
 exact Qb VOK.nil (y := (Q11 p0 (i0 + 1), Q12 p0 (i0 + 1))) [hB 3 hc0, hP 2 (Q1b p0 i0 x0 hx0), hB 2 h0, hB 6 h1, hB 10 h2, hP 8 (dec (!(x0 == 45)) true (by rw [h3]; rfl)), hP 3 (dec (!(x0 == 95)) false (by rw [h4]; rfl)), hP 6 (Qv i0 (by omega))] [] (by kernel_rfl) hr
theorem Qta (p0 : ByteArray) (H : Q10 p0) (x0 : Int) (i0 : Nat) (hx0 : (letters p0)[i0]? = some x0) (hi0 : i0 < List.length (letters p0)) (hc0 : (decide ((i0 : Int) < (ByteArray.size p0 : Int))) = true) (h0 : (decide (97 ≤ x0)) = false) (h1 : (decide (65 ≤ x0)) = false) (h2 : (decide (48 ≤ x0)) = false) (h3 : (x0 == 45) = false) (h4 : (x0 == 95) = false) (h5 : (x0 == 47) = true) {r : Rs} (hr : Q7 G (Qm p0 (i0 + 1)) r) : Q7 G (Qm p0 i0) r := by
 have hB0 := H.1; have e0 := of_decide_eq_false h0; have e1 := of_decide_eq_false h1; have e2 := of_decide_eq_false h2; have e3 := beq_eq_false_iff_ne.1 h3; have e4 := beq_eq_false_iff_ne.1 h4; have e5 := eq_of_beq h5
 exact Qb VOK.nil (y := (Q11 p0 (i0 + 1), Q12 p0 (i0 + 1))) [hB 3 hc0, hP 2 (Q1b p0 i0 x0 hx0), hB 2 h0, hB 6 h1, hB 10 h2, hP 8 (dec (!(x0 == 45)) true (by rw [h3]; rfl)), hP 3 (dec (!(x0 == 95)) true (by rw [h4]; rfl)), hP 3 (dec (!(x0 == 47)) false (by rw [h5]; rfl)), hP 2 (Qv i0 (by omega))] [] (by kernel_rfl) hr
def Qfq (p0 : ByteArray) (i0 : Nat) (x0 : Int) : List PV :=
  [.str p0, .un, .un, .int .i64 (i0 : Int), .int .u8 x0, .bool false, .int .i64 (i0 : Int), .str p0, .int .i64 (ByteArray.size p0 : Int), .bool true, .un, .un, .str p0, .int .i64 (i0 : Int), .int .u8 x0, .int .u8 x0, .bool false, .bool false, .tup [], .tup [], .bool false, .bool false, .int .u8 x0, .bool false, .bool false, .tup [], .tup [], .bool false, .bool false, .bool false, .bool true, .bool true, .int .u8 x0, .bool false, .bool false, .tup [], .tup [], .bool false, .bool true, .bool true, .bool true, .int .u8 x0, .bool true, .bool true, .bool true, .int .u8 x0, .bool true, .bool true, .bool true, .int .u8 x0, .bool true, .bool true]
def Qbh (_p0 : ByteArray) (_i0 : Nat) (_x0 : Int) : List (Nat × List PV) :=
  []
theorem Qtv (p0 : ByteArray) (_H : Q10 p0) (x0 : Int) (i0 : Nat) (hx0 : (letters p0)[i0]? = some x0) (_hi0 : i0 < List.length (letters p0)) (hc0 : (decide ((i0 : Int) < (ByteArray.size p0 : Int))) = true) (h0 : (decide (97 ≤ x0)) = false) (h1 : (decide (65 ≤ x0)) = false) (h2 : (decide (48 ≤ x0)) = false) (h3 : (x0 == 45) = false) (h4 : (x0 == 95) = false) (h5 : (x0 == 47) = false) : Q3s p0 (Qm p0 i0) (.k1) := by
 exact ⟨(envF (Qfq p0 i0 x0)), (zoF (Qbh p0 i0 x0)), Qe VOK.nil (x := (.ret, Q3d p0 (envF (Qfq p0 i0 x0)) (zoF (Qbh p0 i0 x0)))) [hB 3 hc0, hP 2 (Q1b p0 i0 x0 hx0), hB 2 h0, hB 6 h1, hB 10 h2, hP 8 (dec (!(x0 == 45)) true (by rw [h3]; rfl)), hP 3 (dec (!(x0 == 95)) true (by rw [h4]; rfl)), hP 3 (dec (!(x0 == 47)) true (by rw [h5]; rfl))] [] (by kernel_rfl)⟩
theorem Q13 (p0 : ByteArray) (H : Q10 p0) : ∀ (r0 : List Int) (i0 : Nat), List.drop i0 (letters p0) = r0 → Q3s p0 (Qm p0 i0) (Q19 p0 r0 i0)
 | [], i0, hd => by
  have hc0 : (decide ((i0 : Int) < (ByteArray.size p0 : Int))) = false := by have hL := Q40 p0; have := Q1p hd; simp; omega
  rw [Q19]
  exact Qvw p0 H i0 hc0
 | x0 :: r0, i0, hd => by
  obtain ⟨hx0, hi0, hd'⟩ := Q1d hd
  have hc0 : (decide ((i0 : Int) < (ByteArray.size p0 : Int))) = true := by have hL := Q40 p0; simp; omega
  rw [Q19]
  cases h0 : (decide (97 ≤ x0)) with
  | true =>
   cases h1 : (decide (x0 ≤ 122)) with
   | true =>
    exact Qn p0 (fun r hr => Qyv p0 H x0 i0 hx0 hi0 hc0 h0 h1 hr) _ (Q13 p0 H r0 (i0 + 1) hd')
   | false =>
    cases h2 : (decide (65 ≤ x0)) with
    | true =>
     cases h3 : (decide (x0 ≤ 90)) with
     | true =>
      exact Qn p0 (fun r hr => Qy4 p0 H x0 i0 hx0 hi0 hc0 h0 h1 h2 h3 hr) _ (Q13 p0 H r0 (i0 + 1) hd')
     | false =>
      cases h4 : (decide (48 ≤ x0)) with
      | true =>
       cases h5 : (decide (x0 ≤ 57)) with
       | true =>
        exact Qn p0 (fun r hr => Qxd p0 H x0 i0 hx0 hi0 hc0 h0 h1 h2 h3 h4 h5 hr) _ (Q13 p0 H r0 (i0 + 1) hd')
       | false =>
        cases h6 : (x0 == 45) with
        | true =>
         exact Qn p0 (fun r hr => Qwx p0 H x0 i0 hx0 hi0 hc0 h0 h1 h2 h3 h4 h5 h6 hr) _ (Q13 p0 H r0 (i0 + 1) hd')
        | false =>
         cases h7 : (x0 == 95) with
         | true =>
          exact Qn p0 (fun r hr => Qw7 p0 H x0 i0 hx0 hi0 hc0 h0 h1 h2 h3 h4 h5 h6 h7 hr) _ (Q13 p0 H r0 (i0 + 1) hd')
         | false =>
          cases h8 : (x0 == 47) with
          | true =>
           exact Qn p0 (fun r hr => Qxr p0 H x0 i0 hx0 hi0 hc0 h0 h1 h2 h3 h4 h5 h6 h7 h8 hr) _ (Q13 p0 H r0 (i0 + 1) hd')
          | false =>
           exact Qzp p0 H x0 i0 hx0 hi0 hc0 h0 h1 h2 h3 h4 h5 h6 h7 h8
      | false =>
       cases h5 : (x0 == 45) with
       | true =>
        exact Qn p0 (fun r hr => Qx1 p0 H x0 i0 hx0 hi0 hc0 h0 h1 h2 h3 h4 h5 hr) _ (Q13 p0 H r0 (i0 + 1) hd')
       | false =>
        cases h6 : (x0 == 95) with
        | true =>
         exact Qn p0 (fun r hr => Qwe p0 H x0 i0 hx0 hi0 hc0 h0 h1 h2 h3 h4 h5 h6 hr) _ (Q13 p0 H r0 (i0 + 1) hd')
        | false =>
         cases h7 : (x0 == 47) with
         | true =>
          exact Qn p0 (fun r hr => Qv1 p0 H x0 i0 hx0 hi0 hc0 h0 h1 h2 h3 h4 h5 h6 h7 hr) _ (Q13 p0 H r0 (i0 + 1) hd')
         | false =>
          exact Qse p0 H x0 i0 hx0 hi0 hc0 h0 h1 h2 h3 h4 h5 h6 h7
    | false =>
     cases h3 : (decide (48 ≤ x0)) with
     | true =>
      cases h4 : (decide (x0 ≤ 57)) with
      | true =>
       exact Qn p0 (fun r hr => Qtz p0 H x0 i0 hx0 hi0 hc0 h0 h1 h2 h3 h4 hr) _ (Q13 p0 H r0 (i0 + 1) hd')
      | false =>
       cases h5 : (x0 == 45) with
       | true =>
        exact Qn p0 (fun r hr => Qur p0 H x0 i0 hx0 hi0 hc0 h0 h1 h2 h3 h4 h5 hr) _ (Q13 p0 H r0 (i0 + 1) hd')
       | false =>
        cases h6 : (x0 == 95) with
        | true =>
         exact Qn p0 (fun r hr => Qsg p0 H x0 i0 hx0 hi0 hc0 h0 h1 h2 h3 h4 h5 h6 hr) _ (Q13 p0 H r0 (i0 + 1) hd')
        | false =>
         cases h7 : (x0 == 47) with
         | true =>
          exact Qn p0 (fun r hr => Qtp p0 H x0 i0 hx0 hi0 hc0 h0 h1 h2 h3 h4 h5 h6 h7 hr) _ (Q13 p0 H r0 (i0 + 1) hd')
         | false =>
          exact Qt2 p0 H x0 i0 hx0 hi0 hc0 h0 h1 h2 h3 h4 h5 h6 h7
     | false =>
      cases h4 : (x0 == 45) with
      | true =>
       exact Qn p0 (fun r hr => Qu6 p0 H x0 i0 hx0 hi0 hc0 h0 h1 h2 h3 h4 hr) _ (Q13 p0 H r0 (i0 + 1) hd')
      | false =>
       cases h5 : (x0 == 95) with
       | true =>
        exact Qn p0 (fun r hr => Quo p0 H x0 i0 hx0 hi0 hc0 h0 h1 h2 h3 h4 h5 hr) _ (Q13 p0 H r0 (i0 + 1) hd')
       | false =>
        cases h6 : (x0 == 47) with
        | true =>
         exact Qn p0 (fun r hr => Qt9 p0 H x0 i0 hx0 hi0 hc0 h0 h1 h2 h3 h4 h5 h6 hr) _ (Q13 p0 H r0 (i0 + 1) hd')
        | false =>
         exact Qtq p0 H x0 i0 hx0 hi0 hc0 h0 h1 h2 h3 h4 h5 h6
  | false =>
   cases h1 : (decide (65 ≤ x0)) with
   | true =>
    cases h2 : (decide (x0 ≤ 90)) with
    | true =>
     exact Qn p0 (fun r hr => Qti p0 H x0 i0 hx0 hi0 hc0 h0 h1 h2 hr) _ (Q13 p0 H r0 (i0 + 1) hd')
    | false =>
     cases h3 : (decide (48 ≤ x0)) with
     | true =>
      cases h4 : (decide (x0 ≤ 57)) with
      | true =>
       exact Qn p0 (fun r hr => Qva p0 H x0 i0 hx0 hi0 hc0 h0 h1 h2 h3 h4 hr) _ (Q13 p0 H r0 (i0 + 1) hd')
      | false =>
       cases h5 : (x0 == 45) with
       | true =>
        exact Qn p0 (fun r hr => Qvk p0 H x0 i0 hx0 hi0 hc0 h0 h1 h2 h3 h4 h5 hr) _ (Q13 p0 H r0 (i0 + 1) hd')
       | false =>
        cases h6 : (x0 == 95) with
        | true =>
         exact Qn p0 (fun r hr => Qsj p0 H x0 i0 hx0 hi0 hc0 h0 h1 h2 h3 h4 h5 h6 hr) _ (Q13 p0 H r0 (i0 + 1) hd')
        | false =>
         cases h7 : (x0 == 47) with
         | true =>
          exact Qn p0 (fun r hr => Qv2 p0 H x0 i0 hx0 hi0 hc0 h0 h1 h2 h3 h4 h5 h6 h7 hr) _ (Q13 p0 H r0 (i0 + 1) hd')
         | false =>
          exact Qtu p0 H x0 i0 hx0 hi0 hc0 h0 h1 h2 h3 h4 h5 h6 h7
     | false =>
      cases h4 : (x0 == 45) with
      | true =>
       exact Qn p0 (fun r hr => Qsk p0 H x0 i0 hx0 hi0 hc0 h0 h1 h2 h3 h4 hr) _ (Q13 p0 H r0 (i0 + 1) hd')
      | false =>
       cases h5 : (x0 == 95) with
       | true =>
        exact Qn p0 (fun r hr => Qup p0 H x0 i0 hx0 hi0 hc0 h0 h1 h2 h3 h4 h5 hr) _ (Q13 p0 H r0 (i0 + 1) hd')
       | false =>
        cases h6 : (x0 == 47) with
        | true =>
         exact Qn p0 (fun r hr => Qt4 p0 H x0 i0 hx0 hi0 hc0 h0 h1 h2 h3 h4 h5 h6 hr) _ (Q13 p0 H r0 (i0 + 1) hd')
        | false =>
         exact Qvf p0 H x0 i0 hx0 hi0 hc0 h0 h1 h2 h3 h4 h5 h6
   | false =>
    cases h2 : (decide (48 ≤ x0)) with
    | true =>
     cases h3 : (decide (x0 ≤ 57)) with
     | true =>
      exact Qn p0 (fun r hr => Qsf p0 H x0 i0 hx0 hi0 hc0 h0 h1 h2 h3 hr) _ (Q13 p0 H r0 (i0 + 1) hd')
     | false =>
      cases h4 : (x0 == 45) with
      | true =>
       exact Qn p0 (fun r hr => Qt8 p0 H x0 i0 hx0 hi0 hc0 h0 h1 h2 h3 h4 hr) _ (Q13 p0 H r0 (i0 + 1) hd')
      | false =>
       cases h5 : (x0 == 95) with
       | true =>
        exact Qn p0 (fun r hr => Qvj p0 H x0 i0 hx0 hi0 hc0 h0 h1 h2 h3 h4 h5 hr) _ (Q13 p0 H r0 (i0 + 1) hd')
       | false =>
        cases h6 : (x0 == 47) with
        | true =>
         exact Qn p0 (fun r hr => Qui p0 H x0 i0 hx0 hi0 hc0 h0 h1 h2 h3 h4 h5 h6 hr) _ (Q13 p0 H r0 (i0 + 1) hd')
        | false =>
         exact Qtg p0 H x0 i0 hx0 hi0 hc0 h0 h1 h2 h3 h4 h5 h6
    | false =>
     cases h3 : (x0 == 45) with
     | true =>
      exact Qn p0 (fun r hr => Qum p0 H x0 i0 hx0 hi0 hc0 h0 h1 h2 h3 hr) _ (Q13 p0 H r0 (i0 + 1) hd')
     | false =>
      cases h4 : (x0 == 95) with
      | true =>
       exact Qn p0 (fun r hr => Qub p0 H x0 i0 hx0 hi0 hc0 h0 h1 h2 h3 h4 hr) _ (Q13 p0 H r0 (i0 + 1) hd')
      | false =>
       cases h5 : (x0 == 47) with
       | true =>
        exact Qn p0 (fun r hr => Qta p0 H x0 i0 hx0 hi0 hc0 h0 h1 h2 h3 h4 h5 hr) _ (Q13 p0 H r0 (i0 + 1) hd')
       | false =>
        exact Qtv p0 H x0 i0 hx0 hi0 hc0 h0 h1 h2 h3 h4 h5
def s_Kp (p0 : ByteArray) : Bool :=
 (match (Q19 p0 (letters p0) 0) with
 | .k0 => bif (decide (1 ≤ (ByteArray.size p0 : Int))) then
   (decide ((ByteArray.size p0 : Int) ≤ 40))
  else
   false
 | .k1 => false)
def c_Kp (p0 : ByteArray) : En := .call 52 [.str p0] []
def a_Kp (p0 : ByteArray) : Rs := .ret (.bool (s_Kp p0)) []
def H_Kp (p0 : ByteArray) : Prop := (Q10 p0) ∧ True
theorem t_Kp (p0 : ByteArray) (H : H_Kp p0) : Q7 G (c_Kp p0) (a_Kp p0) := by
 unfold a_Kp s_Kp
 have hl0 := Q13 p0 (H.1) (letters p0) 0 (by simp)
 cases hr0 : (Q19 p0 (letters p0) 0) with
 | k0 =>
  rw [hr0] at hl0
  obtain ⟨z0, zo0, hl0⟩ := hl0
  try dsimp only
  cases h0 : (decide (1 ≤ (ByteArray.size p0 : Int))) with
  | true =>
   exact Q9 (fn := Ir.Kp) rfl VOK.nil [hB 4 h0] [aN hl0] (by kernel_rfl)
  | false =>
   exact Q9 (fn := Ir.Kp) rfl VOK.nil [hB 4 h0] [aN hl0] (by kernel_rfl)
 | k1 =>
  rw [hr0] at hl0
  obtain ⟨z0, zo0, hl0⟩ := hl0
  exact Q9 (fn := Ir.Kp) rfl VOK.nil [] [aN hl0] (by kernel_rfl)
def Q129 (p0 : ByteArray) (p1 : ByteArray) : Int :=
 (sCmp p0 p1)
def Q16s (p0 : ByteArray) (p1 : ByteArray) : En := .call 44 [.str p0, .str p1] []
def Q15x (p0 : ByteArray) (p1 : ByteArray) : Rs := .ret (.int .i64 (Q129 p0 p1)) []
theorem Q179 (p0 : ByteArray) (p1 : ByteArray) : Q7 G (Q16s p0 p1) (Q15x p0 p1) := by
 unfold Q15x Q129
 exact Q9 (fn := Ir.K1g) rfl VOK.nil [] [aN (Q10v p0 p1)] (by kernel_rfl)
inductive Qzb where
  | k0
  | k1
inductive Qwh where
  | k0
  | k1
abbrev zF : Fld := (Fld.mk (⟨#[]⟩ : ByteArray) (Val.mk 0 0 (⟨#[]⟩ : ByteArray) [] []))
mutual
def s_Kx (p0 : Val) (p1 : Int) : Bool :=
 bif (p1 == 0) then
  false
 else
  bif (s_Kw p0) then
   bif (decide (64 < ((List.length p0.list) : Int))) then
    false
   else
    bif (decide (64 < ((List.length p0.fields) : Int))) then
     false
    else
     bif (p0.kind == 4) then
      bif (p0.kind == 5) then
       (match (Q3j p0 p1 p0.list 0) with
       | .k0 => (match (Q2r p0 p1 p0.fields 0) with
        | .k0 => true
        | .k1 => false)
       | .k1 => false)
      else
       bif (decide (0 < ((List.length p0.fields) : Int))) then
        false
       else
        (match (Q3j p0 p1 p0.list 0) with
        | .k0 => (match (Q2r p0 p1 p0.fields 0) with
         | .k0 => true
         | .k1 => false)
        | .k1 => false)
     else
      bif (decide (0 < ((List.length p0.list) : Int))) then
       false
      else
       bif (p0.kind == 5) then
        (match (Q3j p0 p1 p0.list 0) with
        | .k0 => (match (Q2r p0 p1 p0.fields 0) with
         | .k0 => true
         | .k1 => false)
        | .k1 => false)
       else
        bif (decide (0 < ((List.length p0.fields) : Int))) then
         false
        else
         (match (Q3j p0 p1 p0.list 0) with
         | .k0 => (match (Q2r p0 p1 p0.fields 0) with
          | .k0 => true
          | .k1 => false)
         | .k1 => false)
  else
   false
termination_by SizeOf.sizeOf p0
decreasing_by all_goals first | exact Val.Q1x _ | exact Val.Q15 _ | exact Q23 _ _ | exact Q1v _ _ | exact Q1k _ _
def Q3j (p0 : Val) (p1 : Int) : List Val → Nat → Qzb
 | [], _i0 =>
  (.k0)
 | x0 :: r0, i0 =>
  bif (s_Kx x0 (w64 (p1 - 1))) then
   Q3j p0 p1 r0 (i0 + 1)
  else
   (.k1)
termination_by l => SizeOf.sizeOf l
decreasing_by all_goals first | exact Val.Q1x _ | exact Val.Q15 _ | exact Q23 _ _ | exact Q1v _ _ | exact Q1k _ _
def Q2r (p0 : Val) (p1 : Int) : List Fld → Nat → Qwh
 | [], _i1 =>
  (.k0)
 | x1 :: r1, i1 =>
  bif (s_Kp x1.name) then
   bif (decide (0 < (i1 : Int))) then
    bif ((sLt x1.name (List.getD p0.fields (Int.toNat (w64 ((i1 : Int) - 1))) zF).name) || (sEq x1.name (List.getD p0.fields (Int.toNat (w64 ((i1 : Int) - 1))) zF).name)) then
     (.k1)
    else
     bif (s_Kx x1.v (w64 (p1 - 1))) then
      Q2r p0 p1 r1 (i1 + 1)
     else
      (.k1)
   else
    bif (s_Kx x1.v (w64 (p1 - 1))) then
     Q2r p0 p1 r1 (i1 + 1)
    else
     (.k1)
  else
   (.k1)
termination_by l => SizeOf.sizeOf l
decreasing_by all_goals first | exact Val.Q1x _ | exact Val.Q15 _ | exact Q23 _ _ | exact Q1v _ _ | exact Q1k _ _
end
def Qrg (_p0 : Val) (p1 : Int) (i0 : Nat) : List PV :=
  [.un, .int .i64 p1, .bx 0 0, .un, .un, .int .i64 (i0 : Int), .un, .un, .un, .un, .un, .un, .un, .un, .un, .un, .un, .un, .un, .un, .un, .un, .un, .un, .un, .un, .un, .un, .un, .un, .un, .un, .un, .un, .un, .un, .un, .un, .un, .un, .un, .un, .un, .un, .un, .un, .un, .un, .un, .un, .un, .un, .un, .un, .un, .un, .un, .un, .un, .un, .un, .un, .un, .un, .un, .un, .un, .un, .un, .un, .un, .un, .un, .un, .un, .un, .un, .un, .un, .un, .un, .un, .un, .un, .un, .un, .un, .un, .un, .un, .un, .un, .un, .un, .un, .un, .un, .un, .un, .un, .un, .un, .un, .un, .un, .un, .un, .un, .un]
def Qqg (p0 : Val) (_p1 : Int) (_i0 : Nat) : List Ob :=
  [⟨5, 0, true, [.int .i64 p0.kind, .int .i64 p0.n, .str p0.s, .sl (Val.rows p0.list), .sl (Fld.rows p0.fields)]⟩]
def Q2s (p0 : Val) (p1 : Int) (i0 : Nat) : En := .loop 0 Ir.Qgz Ir.Q13j (Qrg p0 p1 i0) (Qqg p0 p1 i0)
def Q34 (p0 : Val) (p1 : Int) (z : Nat → PV) (_zo : Nat → List PV) : St :=
  ⟨[z 0, .int .i64 p1, .bx 0 0, z 3, z 4, z 5, z 6, z 7, z 8, z 9, z 10, z 11, z 12, z 13, z 14, z 15, z 16, z 17, z 18, z 19, z 20, z 21, z 22, z 23, z 24, z 25, z 26, z 27, z 28, z 29, z 30, z 31, z 32, z 33, z 34, z 35, z 36, z 37, z 38, z 39, z 40, z 41, z 42, z 43, z 44, z 45, z 46, z 47, z 48, z 49, z 50, z 51, z 52, z 53, z 54, z 55, z 56, z 57, z 58, z 59, z 60, z 61, z 62, z 63, z 64, z 65, z 66, z 67, z 68, z 69, z 70, z 71, z 72, z 73, z 74, z 75, z 76, z 77, z 78, z 79, z 80, z 81, z 82, z 83, z 84, z 85, z 86, z 87, z 88, z 89, z 90, z 91, z 92, z 93, z 94, z 95, z 96, z 97, z 98, z 99, z 100, z 101, z 102, z 103, z 104, z 105, z 106, z 107, z 108], [(0, ⟨5, 0, true, [.int .i64 p0.kind, .int .i64 p0.n, .str p0.s, .sl (Val.rows p0.list), .sl (Fld.rows p0.fields)]⟩)], 321⟩
def Q4z (_p0 : Val) (_p1 : Int) (z : Nat → PV) (zo : Nat → List PV) : St :=
  ⟨[z 0, z 1, z 2, z 3, .bool false, z 5, z 6, z 7, z 8, z 9, z 10, z 11, z 12, z 13, z 14, z 15, z 16, z 17, z 18, z 19, z 20, z 21, z 22, z 23, z 24, z 25, z 26, z 27, z 28, z 29, z 30, z 31, z 32, z 33, z 34, z 35, z 36, z 37, z 38, z 39, z 40, z 41, z 42, z 43, z 44, z 45, z 46, z 47, z 48, z 49, z 50, z 51, z 52, z 53, z 54, z 55, z 56, z 57, z 58, z 59, z 60, z 61, z 62, z 63, z 64, z 65, z 66, z 67, z 68, z 69, z 70, z 71, z 72, z 73, z 74, z 75, z 76, z 77, z 78, z 79, z 80, z 81, z 82, z 83, z 84, z 85, z 86, z 87, z 88, z 89, z 90, z 91, z 92, z 93, z 94, z 95, z 96, z 97, z 98, z 99, z 100, z 101, z 102, z 103, z 104, z 105, z 106, z 107, z 108], [(0, ⟨5, 0, true, zo 0⟩)], 961⟩
def Qbx (p0 : Val) (p1 : Int) (e : En) : Qzb → Prop
  | .k0 => ∃ z zo, Q7 G e (.st (.exit 0) (Q34 p0 p1 z zo))
  | .k1 => ∃ z zo, Q7 G e (.st .ret (Q4z p0 p1 z zo))
theorem Qmw (p0 : Val) (p1 : Int) {e e' : En} (h : ∀ r, Q7 G e r → Q7 G e' r) : ∀ q, Qbx p0 p1 e q → Qbx p0 p1 e' q
  | .k0, ⟨z, zo, hz⟩ => ⟨z, zo, h _ hz⟩
  | .k1, ⟨z, zo, hz⟩ => ⟨z, zo, h _ hz⟩
def Qke (_p0 : Val) (p1 : Int) (i1 : Nat) : List PV :=
  [.un, .int .i64 p1, .bx 0 0, .un, .un, .un, .int .i64 (i1 : Int), .un, .un, .un, .un, .un, .un, .un, .un, .un, .un, .un, .un, .un, .un, .un, .un, .un, .un, .un, .un, .un, .un, .un, .un, .un, .un, .un, .un, .un, .un, .un, .un, .un, .un, .un, .un, .un, .un, .un, .un, .un, .un, .un, .un, .un, .un, .un, .un, .un, .un, .un, .un, .un, .un, .un, .un, .un, .un, .un, .un, .un, .un, .un, .un, .un, .un, .un, .un, .un, .un, .un, .un, .un, .un, .un, .un, .un, .un, .un, .un, .un, .un, .un, .un, .un, .un, .un, .un, .un, .un, .un, .un, .un, .un, .un, .un, .un, .un, .un, .un, .un, .un]
def Qjg (p0 : Val) (_p1 : Int) (_i1 : Nat) : List Ob :=
  [⟨5, 0, true, [.int .i64 p0.kind, .int .i64 p0.n, .str p0.s, .sl (Val.rows p0.list), .sl (Fld.rows p0.fields)]⟩]
def Q2k (p0 : Val) (p1 : Int) (i1 : Nat) : En := .loop 0 Ir.Qhc Ir.Q13v (Qke p0 p1 i1) (Qjg p0 p1 i1)
def Q54 (p0 : Val) (_p1 : Int) (z : Nat → PV) (_zo : Nat → List PV) : St :=
  ⟨[z 0, z 1, z 2, z 3, z 4, z 5, z 6, z 7, z 8, z 9, z 10, z 11, z 12, z 13, z 14, z 15, z 16, z 17, z 18, z 19, z 20, z 21, z 22, z 23, z 24, z 25, z 26, z 27, z 28, z 29, z 30, z 31, z 32, z 33, z 34, z 35, z 36, z 37, z 38, z 39, z 40, z 41, z 42, z 43, z 44, z 45, z 46, z 47, z 48, z 49, z 50, z 51, z 52, z 53, z 54, z 55, z 56, z 57, z 58, z 59, z 60, z 61, z 62, z 63, z 64, z 65, z 66, z 67, z 68, z 69, z 70, z 71, z 72, z 73, z 74, z 75, z 76, z 77, z 78, z 79, z 80, z 81, z 82, z 83, z 84, z 85, z 86, z 87, z 88, z 89, z 90, z 91, z 92, z 93, z 94, z 95, z 96, z 97, z 98, z 99, z 100, z 101, z 102, z 103, z 104, z 105, z 106, z 107, z 108], [(0, ⟨5, 0, true, [.int .i64 p0.kind, .int .i64 p0.n, .str p0.s, .sl (Val.rows p0.list), .sl (Fld.rows p0.fields)]⟩)], 321⟩
def Q3c (_p0 : Val) (_p1 : Int) (z : Nat → PV) (zo : Nat → List PV) : St :=
  ⟨[z 0, z 1, z 2, z 3, .bool false, z 5, z 6, z 7, z 8, z 9, z 10, z 11, z 12, z 13, z 14, z 15, z 16, z 17, z 18, z 19, z 20, z 21, z 22, z 23, z 24, z 25, z 26, z 27, z 28, z 29, z 30, z 31, z 32, z 33, z 34, z 35, z 36, z 37, z 38, z 39, z 40, z 41, z 42, z 43, z 44, z 45, z 46, z 47, z 48, z 49, z 50, z 51, z 52, z 53, z 54, z 55, z 56, z 57, z 58, z 59, z 60, z 61, z 62, z 63, z 64, z 65, z 66, z 67, z 68, z 69, z 70, z 71, z 72, z 73, z 74, z 75, z 76, z 77, z 78, z 79, z 80, z 81, z 82, z 83, z 84, z 85, z 86, z 87, z 88, z 89, z 90, z 91, z 92, z 93, z 94, z 95, z 96, z 97, z 98, z 99, z 100, z 101, z 102, z 103, z 104, z 105, z 106, z 107, z 108], [(0, ⟨5, 0, true, zo 0⟩)], 2945⟩
def Q5y (p0 : Val) (p1 : Int) (e : En) : Qwh → Prop
  | .k0 => ∃ z zo, Q7 G e (.st (.exit 2) (Q54 p0 p1 z zo))
  | .k1 => ∃ z zo, Q7 G e (.st .ret (Q3c p0 p1 z zo))
theorem Q9t (p0 : Val) (p1 : Int) {e e' : En} (h : ∀ r, Q7 G e r → Q7 G e' r) : ∀ q, Q5y p0 p1 e q → Q5y p0 p1 e' q
  | .k0, ⟨z, zo, hz⟩ => ⟨z, zo, h _ hz⟩
  | .k1, ⟨z, zo, hz⟩ => ⟨z, zo, h _ hz⟩
def c_Kx (p0 : Val) (p1 : Int) : En := .call 38 [.agg (Val.cells p0), .int .i64 p1] []
def a_Kx (p0 : Val) (p1 : Int) : Rs := .ret (.bool (s_Kx p0 p1)) []
abbrev H_Kx (p0 : Val) : Prop := Q2m p0
def Q20 (p0 : Val) : Prop := ∀ (q : Val), SizeOf.sizeOf q < SizeOf.sizeOf p0 → ∀ (p1 : Int), H_Kx q → Q7 G (c_Kx q p1) (a_Kx q p1)
def Qbd (p0 : Val) (_p1 : Int) : Prop := (List.length p0.list ≤ 4611686018427387904) ∧ (∀ x0 ∈ p0.list, H_Kx x0) ∧ True
def Q5l (p0 : Val) (_p1 : Int) : Prop := (List.length p0.fields ≤ 4611686018427387904) ∧ (∀ x1 ∈ p0.fields, H_Kp x1.name) ∧ (∀ (i1 : Nat) (x1 : Fld), p0.fields[i1]? = some x1 → (decide (0 < (i1 : Int))) = true → 0 ≤ (w64 ((i1 : Int) - 1))) ∧ (∀ (i1 : Nat) (x1 : Fld), p0.fields[i1]? = some x1 → (decide (0 < (i1 : Int))) = true → Int.toNat (w64 ((i1 : Int) - 1)) < List.length p0.fields) ∧ (∀ x1 ∈ p0.fields, H_Kx x1.v) ∧ True
theorem Q1t (p0 : Val) (p1 : Int) (H : H_Kx p0) : (H_Kw p0) ∧ (Qbd p0 p1) ∧ (Q5l p0 p1) ∧ True := by
  obtain ⟨_, _, h3, hl, hf, sl, sf⟩ := H.all
  unfold okS at h3
  have nm : ∀ x ∈ p0.fields, H_Kp x.name := fun x hx => by
    have := (sf x hx).1
    unfold okS at this
    exact ⟨⟨by rw [Q40]; omega, trivial⟩, trivial⟩
  have ix : ∀ (i1 : Nat) (x1 : Fld), p0.fields[i1]? = some x1 → decide (0 < (i1 : Int)) = true → 0 ≤ w64 ((i1 : Int) - 1) ∧ Int.toNat (w64 ((i1 : Int) - 1)) < p0.fields.length := fun i x hx h => by
    have h0 := of_decide_eq_true h
    have h1 := (List.getElem?_eq_some_iff.1 hx).1
    rw [Qa7 (by omega)]
    omega
  exact ⟨⟨⟨⟨by rw [Q40]; omega, trivial⟩, trivial⟩, trivial⟩, ⟨by omega, sl, trivial⟩, ⟨by omega, nm, fun i x a b => (ix i x a b).1, fun i x a b => (ix i x a b).2, fun x hx => (sf x hx).2, trivial⟩, trivial⟩
def Qo8 (p0 : Val) (_p1 : Int) (i0 : Nat) : List PV :=
  [.un, .un, .un, .un, .un, .int .i64 (i0 : Int), .un, .un, .un, .un, .un, .un, .un, .un, .un, .un, .un, .un, .un, .un, .un, .un, .un, .un, .un, .un, .un, .un, .un, .un, .un, .un, .un, .un, .un, .un, .un, .un, .un, .un, .un, .un, .un, .un, .un, .un, .int .i64 (i0 : Int), .bx 0 3, .sl (Val.rows p0.list), .int .i64 ((List.length p0.list) : Int), .bool false]
def Qi7 (_p0 : Val) (_p1 : Int) (_i0 : Nat) : List (Nat × List PV) :=
  []
theorem Qw4 (p0 : Val) (p1 : Int) (_H : Qbd p0 p1) (_rec : Q20 p0) (i0 : Nat) (hc0 : (decide ((i0 : Int) < ((List.length p0.list) : Int))) = false) : Qbx p0 p1 (Q2s p0 p1 i0) (.k0) := by
 exact ⟨(envF (Qo8 p0 p1 i0)), (zoF (Qi7 p0 p1 i0)), Qe VOK.nil (x := ((.exit 0), Q34 p0 p1 (envF (Qo8 p0 p1 i0)) (zoF (Qi7 p0 p1 i0)))) [hP 3 (Qk (Val.rows p0.list) (List.length p0.list) (Val.Qd p0.list)), hB 0 hc0] [] (by kernel_rfl)⟩
theorem Qwl (p0 : Val) (p1 : Int) (H : Qbd p0 p1) (rec : Q20 p0) (x0 : Val) (i0 : Nat) (hx0 : p0.list[i0]? = some x0) (hi0 : i0 < List.length p0.list) (hc0 : (decide ((i0 : Int) < ((List.length p0.list) : Int))) = true) (h0 : (s_Kx x0 (w64 (p1 - 1))) = true) {r : Rs} (hr : Q7 G (Q2s p0 p1 (i0 + 1)) r) : Q7 G (Q2s p0 p1 i0) r := by
 have hB0 := H.1
 exact Qb VOK.nil (y := (Qrg p0 p1 (i0 + 1), Qqg p0 p1 (i0 + 1))) [hP 3 (Qk (Val.rows p0.list) (List.length p0.list) (Val.Qd p0.list)), hB 0 hc0, hP 3 (Q1o 5 (Val.rows p0.list) i0 _ (Val.Qg hx0) rfl), hP 6 (Qv i0 (by omega))] [aB (rec x0 (szL hx0) (w64 (p1 - 1)) (H.2.1 x0 (Qz hx0))) h0] (by kernel_rfl) hr
def Qlw (p0 : Val) (p1 : Int) (i0 : Nat) (x0 : Val) : List PV :=
  [.un, .int .i64 p1, .bx 0 0, .un, .un, .int .i64 (i0 : Int), .un, .un, .un, .un, .un, .un, .un, .un, .un, .un, .un, .un, .un, .un, .un, .un, .un, .un, .un, .un, .un, .un, .un, .un, .un, .un, .un, .un, .un, .un, .un, .un, .un, .un, .un, .un, .un, .un, .un, .un, .int .i64 (i0 : Int), .bx 0 3, .sl (Val.rows p0.list), .int .i64 ((List.length p0.list) : Int), .bool true, .un, .un, .bx 0 3, .sl (Val.rows p0.list), .int .i64 (i0 : Int), .rf [.int .i64 x0.kind, .int .i64 x0.n, .str x0.s, .sl (Val.rows x0.list), .sl (Fld.rows x0.fields)], .agg [.int .i64 x0.kind, .int .i64 x0.n, .str x0.s, .sl (Val.rows x0.list), .sl (Fld.rows x0.fields)], .int .i64 p1, .int .i64 (w64 (p1 - 1)), .bool false, .bool true]
def Qi3 (p0 : Val) (_p1 : Int) (_i0 : Nat) (_x0 : Val) : List (Nat × List PV) :=
  [(0, [.int .i64 p0.kind, .int .i64 p0.n, .str p0.s, .sl (Val.rows p0.list), .sl (Fld.rows p0.fields)])]
theorem Qwf (p0 : Val) (p1 : Int) (H : Qbd p0 p1) (rec : Q20 p0) (x0 : Val) (i0 : Nat) (hx0 : p0.list[i0]? = some x0) (_hi0 : i0 < List.length p0.list) (hc0 : (decide ((i0 : Int) < ((List.length p0.list) : Int))) = true) (h0 : (s_Kx x0 (w64 (p1 - 1))) = false) : Qbx p0 p1 (Q2s p0 p1 i0) (.k1) := by
 exact ⟨(envF (Qlw p0 p1 i0 x0)), (zoF (Qi3 p0 p1 i0 x0)), Qe VOK.nil (x := (.ret, Q4z p0 p1 (envF (Qlw p0 p1 i0 x0)) (zoF (Qi3 p0 p1 i0 x0)))) [hP 3 (Qk (Val.rows p0.list) (List.length p0.list) (Val.Qd p0.list)), hB 0 hc0, hP 3 (Q1o 5 (Val.rows p0.list) i0 _ (Val.Qg hx0) rfl)] [aB (rec x0 (szL hx0) (w64 (p1 - 1)) (H.2.1 x0 (Qz hx0))) h0] (by kernel_rfl)⟩
theorem Q85 (p0 : Val) (p1 : Int) (H : Qbd p0 p1) (rec : Q20 p0) : ∀ (r0 : List Val) (i0 : Nat), List.drop i0 p0.list = r0 → Qbx p0 p1 (Q2s p0 p1 i0) (Q3j p0 p1 r0 i0)
 | [], i0, hd => by
  have hc0 : (decide ((i0 : Int) < ((List.length p0.list) : Int))) = false := by have := Q1p hd; simp; omega
  rw [Q3j]
  exact Qw4 p0 p1 H rec i0 hc0
 | x0 :: r0, i0, hd => by
  obtain ⟨hx0, hi0, hd'⟩ := Q1d hd
  have hc0 : (decide ((i0 : Int) < ((List.length p0.list) : Int))) = true := by simp; omega
  rw [Q3j]
  cases h0 : (s_Kx x0 (w64 (p1 - 1))) with
  | true =>
   exact Qmw p0 p1 (fun r hr => Qwl p0 p1 H rec x0 i0 hx0 hi0 hc0 h0 hr) _ (Q85 p0 p1 H rec r0 (i0 + 1) hd')
  | false =>
   exact Qwf p0 p1 H rec x0 i0 hx0 hi0 hc0 h0
def Qlu (p0 : Val) (p1 : Int) (i1 : Nat) : List PV :=
  [.un, .int .i64 p1, .bx 0 0, .un, .un, .un, .int .i64 (i1 : Int), .un, .un, .un, .un, .un, .un, .un, .un, .un, .un, .un, .un, .un, .un, .un, .un, .un, .un, .un, .un, .un, .un, .un, .un, .un, .un, .un, .un, .un, .un, .un, .un, .un, .un, .un, .un, .un, .un, .un, .un, .un, .un, .un, .un, .un, .un, .un, .un, .un, .un, .un, .un, .un, .un, .un, .int .i64 (i1 : Int), .bx 0 4, .sl (Fld.rows p0.fields), .int .i64 ((List.length p0.fields) : Int), .bool false]
def Qgy (_p0 : Val) (_p1 : Int) (_i1 : Nat) : List (Nat × List PV) :=
  []
theorem Qw5 (p0 : Val) (p1 : Int) (_H : Q5l p0 p1) (_rec : Q20 p0) (i1 : Nat) (hc1 : (decide ((i1 : Int) < ((List.length p0.fields) : Int))) = false) : Q5y p0 p1 (Q2k p0 p1 i1) (.k0) := by
 exact ⟨(envF (Qlu p0 p1 i1)), (zoF (Qgy p0 p1 i1)), Qe VOK.nil (x := ((.exit 2), Q54 p0 p1 (envF (Qlu p0 p1 i1)) (zoF (Qgy p0 p1 i1)))) [hP 3 (Qk (Fld.rows p0.fields) (List.length p0.fields) (Fld.Qd p0.fields)), hB 0 hc1] [] (by kernel_rfl)⟩
def Qok (p0 : Val) (p1 : Int) (i1 : Nat) (x1 : Fld) : List PV :=
  [.un, .int .i64 p1, .bx 0 0, .un, .un, .un, .int .i64 (i1 : Int), .un, .un, .un, .un, .un, .un, .un, .un, .un, .un, .un, .un, .un, .un, .un, .un, .un, .un, .un, .un, .un, .un, .un, .un, .un, .un, .un, .un, .un, .un, .un, .un, .un, .un, .un, .un, .un, .un, .un, .un, .un, .un, .un, .un, .un, .un, .un, .un, .un, .un, .un, .un, .un, .un, .un, .int .i64 (i1 : Int), .bx 0 4, .sl (Fld.rows p0.fields), .int .i64 ((List.length p0.fields) : Int), .bool true, .un, .un, .bx 0 4, .sl (Fld.rows p0.fields), .int .i64 (i1 : Int), .rf [.str x1.name, .int .i64 x1.v.kind, .int .i64 x1.v.n, .str x1.v.s, .sl (Val.rows x1.v.list), .sl (Fld.rows x1.v.fields)], .rf [.str x1.name, .int .i64 x1.v.kind, .int .i64 x1.v.n, .str x1.v.s, .sl (Val.rows x1.v.list), .sl (Fld.rows x1.v.fields)], .str x1.name, .bool true, .bool false, .bool false, .int .i64 (i1 : Int), .bool true, .bool true, .bx 0 4, .sl (Fld.rows p0.fields), .int .i64 (i1 : Int), .rf [.str x1.name, .int .i64 x1.v.kind, .int .i64 x1.v.n, .str x1.v.s, .sl (Val.rows x1.v.list), .sl (Fld.rows x1.v.fields)], .rf [.str x1.name, .int .i64 x1.v.kind, .int .i64 x1.v.n, .str x1.v.s, .sl (Val.rows x1.v.list), .sl (Fld.rows x1.v.fields)], .str x1.name, .bx 0 4, .sl (Fld.rows p0.fields), .int .i64 (i1 : Int), .int .i64 (w64 ((i1 : Int) - 1)), .rf [.str (List.getD p0.fields (Int.toNat (w64 ((i1 : Int) - 1))) zF).name, .int .i64 (List.getD p0.fields (Int.toNat (w64 ((i1 : Int) - 1))) zF).v.kind, .int .i64 (List.getD p0.fields (Int.toNat (w64 ((i1 : Int) - 1))) zF).v.n, .str (List.getD p0.fields (Int.toNat (w64 ((i1 : Int) - 1))) zF).v.s, .sl (Val.rows (List.getD p0.fields (Int.toNat (w64 ((i1 : Int) - 1))) zF).v.list), .sl (Fld.rows (List.getD p0.fields (Int.toNat (w64 ((i1 : Int) - 1))) zF).v.fields)], .rf [.str (List.getD p0.fields (Int.toNat (w64 ((i1 : Int) - 1))) zF).name, .int .i64 (List.getD p0.fields (Int.toNat (w64 ((i1 : Int) - 1))) zF).v.kind, .int .i64 (List.getD p0.fields (Int.toNat (w64 ((i1 : Int) - 1))) zF).v.n, .str (List.getD p0.fields (Int.toNat (w64 ((i1 : Int) - 1))) zF).v.s, .sl (Val.rows (List.getD p0.fields (Int.toNat (w64 ((i1 : Int) - 1))) zF).v.list), .sl (Fld.rows (List.getD p0.fields (Int.toNat (w64 ((i1 : Int) - 1))) zF).v.fields)], .str (List.getD p0.fields (Int.toNat (w64 ((i1 : Int) - 1))) zF).name, .bool true, .bool true, .bool true, .bool true, .tup [], .tup [], .tup [], .tup [], .tup [], .tup [], .tup [], .tup [], .tup [], .tup [], .bool true]
def Qh6 (p0 : Val) (_p1 : Int) (_i1 : Nat) (_x1 : Fld) : List (Nat × List PV) :=
  [(0, [.int .i64 p0.kind, .int .i64 p0.n, .str p0.s, .sl (Val.rows p0.list), .sl (Fld.rows p0.fields)])]
theorem Qvt (p0 : Val) (p1 : Int) (H : Q5l p0 p1) (_rec : Q20 p0) (x1 : Fld) (i1 : Nat) (hx1 : p0.fields[i1]? = some x1) (_hi1 : i1 < List.length p0.fields) (hc1 : (decide ((i1 : Int) < ((List.length p0.fields) : Int))) = true) (h0 : (s_Kp x1.name) = true) (h1 : (decide (0 < (i1 : Int))) = true) (h2 : ((sLt x1.name (List.getD p0.fields (Int.toNat (w64 ((i1 : Int) - 1))) zF).name) || (sEq x1.name (List.getD p0.fields (Int.toNat (w64 ((i1 : Int) - 1))) zF).name)) = true) : Q5y p0 p1 (Q2k p0 p1 i1) (.k1) := by
 exact ⟨(envF (Qok p0 p1 i1 x1)), (zoF (Qh6 p0 p1 i1 x1)), Qe VOK.nil (x := (.ret, Q3c p0 p1 (envF (Qok p0 p1 i1 x1)) (zoF (Qh6 p0 p1 i1 x1)))) [hP 3 (Qk (Fld.rows p0.fields) (List.length p0.fields) (Fld.Qd p0.fields)), hB 0 hc1, hP 3 (Q1o 6 (Fld.rows p0.fields) i1 _ (Fld.Qg hx1) rfl), hB 6 h1, hP 4 (Q1o 6 (Fld.rows p0.fields) i1 _ (Fld.Qg hx1) rfl), hP 6 (Qqr 6 (Fld.rows p0.fields) (w64 ((i1 : Int) - 1)) _ ((H.2.2.1 i1 x1 hx1) h1) (Fld.Qg (Qu p0.fields (Int.toNat (w64 ((i1 : Int) - 1))) zF ((H.2.2.2.1 i1 x1 hx1) h1))) rfl), hB 2 h2] [aB (t_Kp x1.name (H.2.1 x1 (Qz hx1))) h0] (by kernel_rfl)⟩
theorem Qxh (p0 : Val) (p1 : Int) (H : Q5l p0 p1) (rec : Q20 p0) (x1 : Fld) (i1 : Nat) (hx1 : p0.fields[i1]? = some x1) (hi1 : i1 < List.length p0.fields) (hc1 : (decide ((i1 : Int) < ((List.length p0.fields) : Int))) = true) (h0 : (s_Kp x1.name) = true) (h1 : (decide (0 < (i1 : Int))) = true) (h2 : ((sLt x1.name (List.getD p0.fields (Int.toNat (w64 ((i1 : Int) - 1))) zF).name) || (sEq x1.name (List.getD p0.fields (Int.toNat (w64 ((i1 : Int) - 1))) zF).name)) = false) (h3 : (s_Kx x1.v (w64 (p1 - 1))) = true) {r : Rs} (hr : Q7 G (Q2k p0 p1 (i1 + 1)) r) : Q7 G (Q2k p0 p1 i1) r := by
 have hB0 := H.1; have e1 := of_decide_eq_true h1
 exact Qb VOK.nil (y := (Qke p0 p1 (i1 + 1), Qjg p0 p1 (i1 + 1))) [hP 3 (Qk (Fld.rows p0.fields) (List.length p0.fields) (Fld.Qd p0.fields)), hB 0 hc1, hP 3 (Q1o 6 (Fld.rows p0.fields) i1 _ (Fld.Qg hx1) rfl), hB 6 h1, hP 4 (Q1o 6 (Fld.rows p0.fields) i1 _ (Fld.Qg hx1) rfl), hP 6 (Qqr 6 (Fld.rows p0.fields) (w64 ((i1 : Int) - 1)) _ ((H.2.2.1 i1 x1 hx1) h1) (Fld.Qg (Qu p0.fields (Int.toNat (w64 ((i1 : Int) - 1))) zF ((H.2.2.2.1 i1 x1 hx1) h1))) rfl), hB 2 h2, hP 6 (Q1o 6 (Fld.rows p0.fields) i1 _ (Fld.Qg hx1) rfl), hP 8 (Qv i1 (by omega))] [aB (t_Kp x1.name (H.2.1 x1 (Qz hx1))) h0, aB (rec x1.v (szF hx1) (w64 (p1 - 1)) (H.2.2.2.2.1 x1 (Qz hx1))) h3] (by kernel_rfl) hr
def Qoq (p0 : Val) (p1 : Int) (i1 : Nat) (x1 : Fld) : List PV :=
  [.un, .int .i64 p1, .bx 0 0, .un, .un, .un, .int .i64 (i1 : Int), .un, .un, .un, .un, .un, .un, .un, .un, .un, .un, .un, .un, .un, .un, .un, .un, .un, .un, .un, .un, .un, .un, .un, .un, .un, .un, .un, .un, .un, .un, .un, .un, .un, .un, .un, .un, .un, .un, .un, .un, .un, .un, .un, .un, .un, .un, .un, .un, .un, .un, .un, .un, .un, .un, .un, .int .i64 (i1 : Int), .bx 0 4, .sl (Fld.rows p0.fields), .int .i64 ((List.length p0.fields) : Int), .bool true, .un, .un, .bx 0 4, .sl (Fld.rows p0.fields), .int .i64 (i1 : Int), .rf [.str x1.name, .int .i64 x1.v.kind, .int .i64 x1.v.n, .str x1.v.s, .sl (Val.rows x1.v.list), .sl (Fld.rows x1.v.fields)], .rf [.str x1.name, .int .i64 x1.v.kind, .int .i64 x1.v.n, .str x1.v.s, .sl (Val.rows x1.v.list), .sl (Fld.rows x1.v.fields)], .str x1.name, .bool true, .bool false, .bool false, .int .i64 (i1 : Int), .bool true, .bool true, .bx 0 4, .sl (Fld.rows p0.fields), .int .i64 (i1 : Int), .rf [.str x1.name, .int .i64 x1.v.kind, .int .i64 x1.v.n, .str x1.v.s, .sl (Val.rows x1.v.list), .sl (Fld.rows x1.v.fields)], .rf [.str x1.name, .int .i64 x1.v.kind, .int .i64 x1.v.n, .str x1.v.s, .sl (Val.rows x1.v.list), .sl (Fld.rows x1.v.fields)], .str x1.name, .bx 0 4, .sl (Fld.rows p0.fields), .int .i64 (i1 : Int), .int .i64 (w64 ((i1 : Int) - 1)), .rf [.str (List.getD p0.fields (Int.toNat (w64 ((i1 : Int) - 1))) zF).name, .int .i64 (List.getD p0.fields (Int.toNat (w64 ((i1 : Int) - 1))) zF).v.kind, .int .i64 (List.getD p0.fields (Int.toNat (w64 ((i1 : Int) - 1))) zF).v.n, .str (List.getD p0.fields (Int.toNat (w64 ((i1 : Int) - 1))) zF).v.s, .sl (Val.rows (List.getD p0.fields (Int.toNat (w64 ((i1 : Int) - 1))) zF).v.list), .sl (Fld.rows (List.getD p0.fields (Int.toNat (w64 ((i1 : Int) - 1))) zF).v.fields)], .rf [.str (List.getD p0.fields (Int.toNat (w64 ((i1 : Int) - 1))) zF).name, .int .i64 (List.getD p0.fields (Int.toNat (w64 ((i1 : Int) - 1))) zF).v.kind, .int .i64 (List.getD p0.fields (Int.toNat (w64 ((i1 : Int) - 1))) zF).v.n, .str (List.getD p0.fields (Int.toNat (w64 ((i1 : Int) - 1))) zF).v.s, .sl (Val.rows (List.getD p0.fields (Int.toNat (w64 ((i1 : Int) - 1))) zF).v.list), .sl (Fld.rows (List.getD p0.fields (Int.toNat (w64 ((i1 : Int) - 1))) zF).v.fields)], .str (List.getD p0.fields (Int.toNat (w64 ((i1 : Int) - 1))) zF).name, .bool false, .bool false, .bool false, .bool false, .bx 0 4, .sl (Fld.rows p0.fields), .int .i64 (i1 : Int), .rf [.str x1.name, .int .i64 x1.v.kind, .int .i64 x1.v.n, .str x1.v.s, .sl (Val.rows x1.v.list), .sl (Fld.rows x1.v.fields)], .rf [.int .i64 x1.v.kind, .int .i64 x1.v.n, .str x1.v.s, .sl (Val.rows x1.v.list), .sl (Fld.rows x1.v.fields)], .agg [.int .i64 x1.v.kind, .int .i64 x1.v.n, .str x1.v.s, .sl (Val.rows x1.v.list), .sl (Fld.rows x1.v.fields)], .int .i64 p1, .int .i64 (w64 (p1 - 1)), .bool false, .bool true, .bool true]
def Qil (p0 : Val) (_p1 : Int) (_i1 : Nat) (_x1 : Fld) : List (Nat × List PV) :=
  [(0, [.int .i64 p0.kind, .int .i64 p0.n, .str p0.s, .sl (Val.rows p0.list), .sl (Fld.rows p0.fields)])]
theorem Qzs (p0 : Val) (p1 : Int) (H : Q5l p0 p1) (rec : Q20 p0) (x1 : Fld) (i1 : Nat) (hx1 : p0.fields[i1]? = some x1) (_hi1 : i1 < List.length p0.fields) (hc1 : (decide ((i1 : Int) < ((List.length p0.fields) : Int))) = true) (h0 : (s_Kp x1.name) = true) (h1 : (decide (0 < (i1 : Int))) = true) (h2 : ((sLt x1.name (List.getD p0.fields (Int.toNat (w64 ((i1 : Int) - 1))) zF).name) || (sEq x1.name (List.getD p0.fields (Int.toNat (w64 ((i1 : Int) - 1))) zF).name)) = false) (h3 : (s_Kx x1.v (w64 (p1 - 1))) = false) : Q5y p0 p1 (Q2k p0 p1 i1) (.k1) := by
 exact ⟨(envF (Qoq p0 p1 i1 x1)), (zoF (Qil p0 p1 i1 x1)), Qe VOK.nil (x := (.ret, Q3c p0 p1 (envF (Qoq p0 p1 i1 x1)) (zoF (Qil p0 p1 i1 x1)))) [hP 3 (Qk (Fld.rows p0.fields) (List.length p0.fields) (Fld.Qd p0.fields)), hB 0 hc1, hP 3 (Q1o 6 (Fld.rows p0.fields) i1 _ (Fld.Qg hx1) rfl), hB 6 h1, hP 4 (Q1o 6 (Fld.rows p0.fields) i1 _ (Fld.Qg hx1) rfl), hP 6 (Qqr 6 (Fld.rows p0.fields) (w64 ((i1 : Int) - 1)) _ ((H.2.2.1 i1 x1 hx1) h1) (Fld.Qg (Qu p0.fields (Int.toNat (w64 ((i1 : Int) - 1))) zF ((H.2.2.2.1 i1 x1 hx1) h1))) rfl), hB 2 h2, hP 6 (Q1o 6 (Fld.rows p0.fields) i1 _ (Fld.Qg hx1) rfl)] [aB (t_Kp x1.name (H.2.1 x1 (Qz hx1))) h0, aB (rec x1.v (szF hx1) (w64 (p1 - 1)) (H.2.2.2.2.1 x1 (Qz hx1))) h3] (by kernel_rfl)⟩
theorem Qvp (p0 : Val) (p1 : Int) (H : Q5l p0 p1) (rec : Q20 p0) (x1 : Fld) (i1 : Nat) (hx1 : p0.fields[i1]? = some x1) (_hi1 : i1 < List.length p0.fields) (hc1 : (decide ((i1 : Int) < ((List.length p0.fields) : Int))) = true) (h0 : (s_Kp x1.name) = true) (h1 : (decide (0 < (i1 : Int))) = false) (h2 : (s_Kx x1.v (w64 (p1 - 1))) = true) {r : Rs} (hr : Q7 G (Q2k p0 p1 (i1 + 1)) r) : Q7 G (Q2k p0 p1 i1) r := by
 have hB0 := H.1; have e1 := of_decide_eq_false h1
 exact Qb VOK.nil (y := (Qke p0 p1 (i1 + 1), Qjg p0 p1 (i1 + 1))) [hP 3 (Qk (Fld.rows p0.fields) (List.length p0.fields) (Fld.Qd p0.fields)), hB 0 hc1, hP 3 (Q1o 6 (Fld.rows p0.fields) i1 _ (Fld.Qg hx1) rfl), hB 6 h1, hP 21 (Q1o 6 (Fld.rows p0.fields) i1 _ (Fld.Qg hx1) rfl), hP 8 (Qv i1 (by omega))] [aB (t_Kp x1.name (H.2.1 x1 (Qz hx1))) h0, aB (rec x1.v (szF hx1) (w64 (p1 - 1)) (H.2.2.2.2.1 x1 (Qz hx1))) h2] (by kernel_rfl) hr
def Qms (p0 : Val) (p1 : Int) (i1 : Nat) (x1 : Fld) : List PV :=
  [.un, .int .i64 p1, .bx 0 0, .un, .un, .un, .int .i64 (i1 : Int), .un, .un, .un, .un, .un, .un, .un, .un, .un, .un, .un, .un, .un, .un, .un, .un, .un, .un, .un, .un, .un, .un, .un, .un, .un, .un, .un, .un, .un, .un, .un, .un, .un, .un, .un, .un, .un, .un, .un, .un, .un, .un, .un, .un, .un, .un, .un, .un, .un, .un, .un, .un, .un, .un, .un, .int .i64 (i1 : Int), .bx 0 4, .sl (Fld.rows p0.fields), .int .i64 ((List.length p0.fields) : Int), .bool true, .un, .un, .bx 0 4, .sl (Fld.rows p0.fields), .int .i64 (i1 : Int), .rf [.str x1.name, .int .i64 x1.v.kind, .int .i64 x1.v.n, .str x1.v.s, .sl (Val.rows x1.v.list), .sl (Fld.rows x1.v.fields)], .rf [.str x1.name, .int .i64 x1.v.kind, .int .i64 x1.v.n, .str x1.v.s, .sl (Val.rows x1.v.list), .sl (Fld.rows x1.v.fields)], .str x1.name, .bool true, .bool false, .bool false, .int .i64 (i1 : Int), .bool false, .bool false, .tup [], .tup [], .tup [], .tup [], .tup [], .tup [], .tup [], .tup [], .tup [], .tup [], .tup [], .tup [], .tup [], .tup [], .bool false, .bool false, .bool false, .bx 0 4, .sl (Fld.rows p0.fields), .int .i64 (i1 : Int), .rf [.str x1.name, .int .i64 x1.v.kind, .int .i64 x1.v.n, .str x1.v.s, .sl (Val.rows x1.v.list), .sl (Fld.rows x1.v.fields)], .rf [.int .i64 x1.v.kind, .int .i64 x1.v.n, .str x1.v.s, .sl (Val.rows x1.v.list), .sl (Fld.rows x1.v.fields)], .agg [.int .i64 x1.v.kind, .int .i64 x1.v.n, .str x1.v.s, .sl (Val.rows x1.v.list), .sl (Fld.rows x1.v.fields)], .int .i64 p1, .int .i64 (w64 (p1 - 1)), .bool false, .bool true, .bool true]
def Qia (p0 : Val) (_p1 : Int) (_i1 : Nat) (_x1 : Fld) : List (Nat × List PV) :=
  [(0, [.int .i64 p0.kind, .int .i64 p0.n, .str p0.s, .sl (Val.rows p0.list), .sl (Fld.rows p0.fields)])]
theorem Qwj (p0 : Val) (p1 : Int) (H : Q5l p0 p1) (rec : Q20 p0) (x1 : Fld) (i1 : Nat) (hx1 : p0.fields[i1]? = some x1) (_hi1 : i1 < List.length p0.fields) (hc1 : (decide ((i1 : Int) < ((List.length p0.fields) : Int))) = true) (h0 : (s_Kp x1.name) = true) (h1 : (decide (0 < (i1 : Int))) = false) (h2 : (s_Kx x1.v (w64 (p1 - 1))) = false) : Q5y p0 p1 (Q2k p0 p1 i1) (.k1) := by
 exact ⟨(envF (Qms p0 p1 i1 x1)), (zoF (Qia p0 p1 i1 x1)), Qe VOK.nil (x := (.ret, Q3c p0 p1 (envF (Qms p0 p1 i1 x1)) (zoF (Qia p0 p1 i1 x1)))) [hP 3 (Qk (Fld.rows p0.fields) (List.length p0.fields) (Fld.Qd p0.fields)), hB 0 hc1, hP 3 (Q1o 6 (Fld.rows p0.fields) i1 _ (Fld.Qg hx1) rfl), hB 6 h1, hP 21 (Q1o 6 (Fld.rows p0.fields) i1 _ (Fld.Qg hx1) rfl)] [aB (t_Kp x1.name (H.2.1 x1 (Qz hx1))) h0, aB (rec x1.v (szF hx1) (w64 (p1 - 1)) (H.2.2.2.2.1 x1 (Qz hx1))) h2] (by kernel_rfl)⟩
def Qmb (p0 : Val) (p1 : Int) (i1 : Nat) (x1 : Fld) : List PV :=
  [.un, .int .i64 p1, .bx 0 0, .un, .un, .un, .int .i64 (i1 : Int), .un, .un, .un, .un, .un, .un, .un, .un, .un, .un, .un, .un, .un, .un, .un, .un, .un, .un, .un, .un, .un, .un, .un, .un, .un, .un, .un, .un, .un, .un, .un, .un, .un, .un, .un, .un, .un, .un, .un, .un, .un, .un, .un, .un, .un, .un, .un, .un, .un, .un, .un, .un, .un, .un, .un, .int .i64 (i1 : Int), .bx 0 4, .sl (Fld.rows p0.fields), .int .i64 ((List.length p0.fields) : Int), .bool true, .un, .un, .bx 0 4, .sl (Fld.rows p0.fields), .int .i64 (i1 : Int), .rf [.str x1.name, .int .i64 x1.v.kind, .int .i64 x1.v.n, .str x1.v.s, .sl (Val.rows x1.v.list), .sl (Fld.rows x1.v.fields)], .rf [.str x1.name, .int .i64 x1.v.kind, .int .i64 x1.v.n, .str x1.v.s, .sl (Val.rows x1.v.list), .sl (Fld.rows x1.v.fields)], .str x1.name, .bool false, .bool true, .bool true, .tup [], .tup [], .tup [], .tup [], .tup [], .tup [], .tup [], .tup [], .tup [], .tup [], .tup [], .tup [], .tup [], .tup [], .tup [], .tup [], .tup [], .tup [], .bool true, .bool true, .tup [], .tup [], .tup [], .tup [], .tup [], .tup [], .tup [], .tup [], .tup [], .tup [], .bool true]
def Qg0 (p0 : Val) (_p1 : Int) (_i1 : Nat) (_x1 : Fld) : List (Nat × List PV) :=
  [(0, [.int .i64 p0.kind, .int .i64 p0.n, .str p0.s, .sl (Val.rows p0.list), .sl (Fld.rows p0.fields)])]
theorem Qx4 (p0 : Val) (p1 : Int) (H : Q5l p0 p1) (_rec : Q20 p0) (x1 : Fld) (i1 : Nat) (hx1 : p0.fields[i1]? = some x1) (_hi1 : i1 < List.length p0.fields) (hc1 : (decide ((i1 : Int) < ((List.length p0.fields) : Int))) = true) (h0 : (s_Kp x1.name) = false) : Q5y p0 p1 (Q2k p0 p1 i1) (.k1) := by
 exact ⟨(envF (Qmb p0 p1 i1 x1)), (zoF (Qg0 p0 p1 i1 x1)), Qe VOK.nil (x := (.ret, Q3c p0 p1 (envF (Qmb p0 p1 i1 x1)) (zoF (Qg0 p0 p1 i1 x1)))) [hP 3 (Qk (Fld.rows p0.fields) (List.length p0.fields) (Fld.Qd p0.fields)), hB 0 hc1, hP 3 (Q1o 6 (Fld.rows p0.fields) i1 _ (Fld.Qg hx1) rfl)] [aB (t_Kp x1.name (H.2.1 x1 (Qz hx1))) h0] (by kernel_rfl)⟩
theorem Q6j (p0 : Val) (p1 : Int) (H : Q5l p0 p1) (rec : Q20 p0) : ∀ (r1 : List Fld) (i1 : Nat), List.drop i1 p0.fields = r1 → Q5y p0 p1 (Q2k p0 p1 i1) (Q2r p0 p1 r1 i1)
 | [], i1, hd => by
  have hc1 : (decide ((i1 : Int) < ((List.length p0.fields) : Int))) = false := by have := Q1p hd; simp; omega
  rw [Q2r]
  exact Qw5 p0 p1 H rec i1 hc1
 | x1 :: r1, i1, hd => by
  obtain ⟨hx1, hi1, hd'⟩ := Q1d hd
  have hc1 : (decide ((i1 : Int) < ((List.length p0.fields) : Int))) = true := by simp; omega
  rw [Q2r]
  cases h0 : (s_Kp x1.name) with
  | true =>
   cases h1 : (decide (0 < (i1 : Int))) with
   | true =>
    cases h2 : ((sLt x1.name (List.getD p0.fields (Int.toNat (w64 ((i1 : Int) - 1))) zF).name) || (sEq x1.name (List.getD p0.fields (Int.toNat (w64 ((i1 : Int) - 1))) zF).name)) with
    | true =>
     exact Qvt p0 p1 H rec x1 i1 hx1 hi1 hc1 h0 h1 h2
    | false =>
     cases h3 : (s_Kx x1.v (w64 (p1 - 1))) with
     | true =>
      exact Q9t p0 p1 (fun r hr => Qxh p0 p1 H rec x1 i1 hx1 hi1 hc1 h0 h1 h2 h3 hr) _ (Q6j p0 p1 H rec r1 (i1 + 1) hd')
     | false =>
      exact Qzs p0 p1 H rec x1 i1 hx1 hi1 hc1 h0 h1 h2 h3
   | false =>
    cases h2 : (s_Kx x1.v (w64 (p1 - 1))) with
    | true =>
     exact Q9t p0 p1 (fun r hr => Qvp p0 p1 H rec x1 i1 hx1 hi1 hc1 h0 h1 h2 hr) _ (Q6j p0 p1 H rec r1 (i1 + 1) hd')
    | false =>
     exact Qwj p0 p1 H rec x1 i1 hx1 hi1 hc1 h0 h1 h2
  | false =>
   exact Qx4 p0 p1 H rec x1 i1 hx1 hi1 hc1 h0
theorem Q141 (p0 : Val) (p1 : Int) (_H : H_Kx p0) (_rec : Q20 p0) (h0 : (p1 == 0) = true) : Q7 G (c_Kx p0 p1) (.ret (.bool (false)) []) := by
 exact Q9 (fn := Ir.Kx) rfl VOK.nil [hB 3 h0] [] (by kernel_rfl)
theorem Q14q (p0 : Val) (p1 : Int) (H : H_Kx p0) (_rec : Q20 p0) (h0 : (p1 == 0) = false) (h1 : (s_Kw p0) = true) (h2 : (decide (64 < ((List.length p0.list) : Int))) = true) : Q7 G (c_Kx p0 p1) (.ret (.bool (false)) []) := by
 exact Q9 (fn := Ir.Kx) rfl VOK.nil [hB 3 h0, hP 8 (Qk (Val.rows p0.list) (List.length p0.list) (Val.Qd p0.list)), hB 0 h2] [aB (t_Kw p0 (Q1t p0 p1 H).1) h1] (by kernel_rfl)
theorem Q13h (p0 : Val) (p1 : Int) (H : H_Kx p0) (_rec : Q20 p0) (h0 : (p1 == 0) = false) (h1 : (s_Kw p0) = true) (h2 : (decide (64 < ((List.length p0.list) : Int))) = false) (h3 : (decide (64 < ((List.length p0.fields) : Int))) = true) : Q7 G (c_Kx p0 p1) (.ret (.bool (false)) []) := by
 exact Q9 (fn := Ir.Kx) rfl VOK.nil [hB 3 h0, hP 8 (Qk (Val.rows p0.list) (List.length p0.list) (Val.Qd p0.list)), hB 0 h2, hP 4 (Qk (Fld.rows p0.fields) (List.length p0.fields) (Fld.Qd p0.fields)), hB 0 h3] [aB (t_Kw p0 (Q1t p0 p1 H).1) h1] (by kernel_rfl)
theorem Q14e (p0 : Val) (p1 : Int) (H : H_Kx p0) (_rec : Q20 p0) (h0 : (p1 == 0) = false) (h1 : (s_Kw p0) = true) (h2 : (decide (64 < ((List.length p0.list) : Int))) = false) (h3 : (decide (64 < ((List.length p0.fields) : Int))) = false) (h4 : (p0.kind == 4) = true) (h5 : (p0.kind == 5) = true) (z6 : Nat → PV) (zo6 : Nat → List PV) (hl6 : Q7 G (Q2s p0 p1 0) (.st (.exit 0) (Q34 p0 p1 z6 zo6))) (z7 : Nat → PV) (zo7 : Nat → List PV) (hl7 : Q7 G (Q2k p0 p1 0) (.st (.exit 2) (Q54 p0 p1 z7 zo7))) : Q7 G (c_Kx p0 p1) (.ret (.bool (true)) []) := by
 exact Q9 (fn := Ir.Kx) rfl VOK.nil [hB 3 h0, hP 8 (Qk (Val.rows p0.list) (List.length p0.list) (Val.Qd p0.list)), hB 0 h2, hP 4 (Qk (Fld.rows p0.fields) (List.length p0.fields) (Fld.Qd p0.fields)), hB 0 h3, hP 3 (dec (!(p0.kind == 4)) false (by rw [h4]; rfl)), hP 9 (dec (!(p0.kind == 5)) false (by rw [h5]; rfl))] [aB (t_Kw p0 (Q1t p0 p1 H).1) h1, aN hl6, aN hl7] (by kernel_rfl)
theorem Q14v (p0 : Val) (p1 : Int) (H : H_Kx p0) (_rec : Q20 p0) (h0 : (p1 == 0) = false) (h1 : (s_Kw p0) = true) (h2 : (decide (64 < ((List.length p0.list) : Int))) = false) (h3 : (decide (64 < ((List.length p0.fields) : Int))) = false) (h4 : (p0.kind == 4) = true) (h5 : (p0.kind == 5) = true) (z6 : Nat → PV) (zo6 : Nat → List PV) (hl6 : Q7 G (Q2s p0 p1 0) (.st (.exit 0) (Q34 p0 p1 z6 zo6))) (z7 : Nat → PV) (zo7 : Nat → List PV) (hl7 : Q7 G (Q2k p0 p1 0) (.st .ret (Q3c p0 p1 z7 zo7))) : Q7 G (c_Kx p0 p1) (.ret (.bool (false)) []) := by
 exact Q9 (fn := Ir.Kx) rfl VOK.nil [hB 3 h0, hP 8 (Qk (Val.rows p0.list) (List.length p0.list) (Val.Qd p0.list)), hB 0 h2, hP 4 (Qk (Fld.rows p0.fields) (List.length p0.fields) (Fld.Qd p0.fields)), hB 0 h3, hP 3 (dec (!(p0.kind == 4)) false (by rw [h4]; rfl)), hP 9 (dec (!(p0.kind == 5)) false (by rw [h5]; rfl))] [aB (t_Kw p0 (Q1t p0 p1 H).1) h1, aN hl6, aN hl7] (by kernel_rfl)
theorem Q15l (p0 : Val) (p1 : Int) (H : H_Kx p0) (_rec : Q20 p0) (h0 : (p1 == 0) = false) (h1 : (s_Kw p0) = true) (h2 : (decide (64 < ((List.length p0.list) : Int))) = false) (h3 : (decide (64 < ((List.length p0.fields) : Int))) = false) (h4 : (p0.kind == 4) = true) (h5 : (p0.kind == 5) = true) (z6 : Nat → PV) (zo6 : Nat → List PV) (hl6 : Q7 G (Q2s p0 p1 0) (.st .ret (Q4z p0 p1 z6 zo6))) : Q7 G (c_Kx p0 p1) (.ret (.bool (false)) []) := by
 exact Q9 (fn := Ir.Kx) rfl VOK.nil [hB 3 h0, hP 8 (Qk (Val.rows p0.list) (List.length p0.list) (Val.Qd p0.list)), hB 0 h2, hP 4 (Qk (Fld.rows p0.fields) (List.length p0.fields) (Fld.Qd p0.fields)), hB 0 h3, hP 3 (dec (!(p0.kind == 4)) false (by rw [h4]; rfl)), hP 9 (dec (!(p0.kind == 5)) false (by rw [h5]; rfl))] [aB (t_Kw p0 (Q1t p0 p1 H).1) h1, aN hl6] (by kernel_rfl)
theorem Q140 (p0 : Val) (p1 : Int) (H : H_Kx p0) (_rec : Q20 p0) (h0 : (p1 == 0) = false) (h1 : (s_Kw p0) = true) (h2 : (decide (64 < ((List.length p0.list) : Int))) = false) (h3 : (decide (64 < ((List.length p0.fields) : Int))) = false) (h4 : (p0.kind == 4) = true) (h5 : (p0.kind == 5) = false) (h6 : (decide (0 < ((List.length p0.fields) : Int))) = true) : Q7 G (c_Kx p0 p1) (.ret (.bool (false)) []) := by
 exact Q9 (fn := Ir.Kx) rfl VOK.nil [hB 3 h0, hP 8 (Qk (Val.rows p0.list) (List.length p0.list) (Val.Qd p0.list)), hB 0 h2, hP 4 (Qk (Fld.rows p0.fields) (List.length p0.fields) (Fld.Qd p0.fields)), hB 0 h3, hP 3 (dec (!(p0.kind == 4)) false (by rw [h4]; rfl)), hP 9 (dec (!(p0.kind == 5)) true (by rw [h5]; rfl)), hP 3 (Qk (Fld.rows p0.fields) (List.length p0.fields) (Fld.Qd p0.fields)), hB 0 h6] [aB (t_Kw p0 (Q1t p0 p1 H).1) h1] (by kernel_rfl)
theorem Q15d (p0 : Val) (p1 : Int) (H : H_Kx p0) (_rec : Q20 p0) (h0 : (p1 == 0) = false) (h1 : (s_Kw p0) = true) (h2 : (decide (64 < ((List.length p0.list) : Int))) = false) (h3 : (decide (64 < ((List.length p0.fields) : Int))) = false) (h4 : (p0.kind == 4) = true) (h5 : (p0.kind == 5) = false) (h6 : (decide (0 < ((List.length p0.fields) : Int))) = false) (z7 : Nat → PV) (zo7 : Nat → List PV) (hl7 : Q7 G (Q2s p0 p1 0) (.st (.exit 0) (Q34 p0 p1 z7 zo7))) (z8 : Nat → PV) (zo8 : Nat → List PV) (hl8 : Q7 G (Q2k p0 p1 0) (.st (.exit 2) (Q54 p0 p1 z8 zo8))) : Q7 G (c_Kx p0 p1) (.ret (.bool (true)) []) := by
 exact Q9 (fn := Ir.Kx) rfl VOK.nil [hB 3 h0, hP 8 (Qk (Val.rows p0.list) (List.length p0.list) (Val.Qd p0.list)), hB 0 h2, hP 4 (Qk (Fld.rows p0.fields) (List.length p0.fields) (Fld.Qd p0.fields)), hB 0 h3, hP 3 (dec (!(p0.kind == 4)) false (by rw [h4]; rfl)), hP 9 (dec (!(p0.kind == 5)) true (by rw [h5]; rfl)), hP 3 (Qk (Fld.rows p0.fields) (List.length p0.fields) (Fld.Qd p0.fields)), hB 0 h6] [aB (t_Kw p0 (Q1t p0 p1 H).1) h1, aN hl7, aN hl8] (by kernel_rfl)
theorem Q13s (p0 : Val) (p1 : Int) (H : H_Kx p0) (_rec : Q20 p0) (h0 : (p1 == 0) = false) (h1 : (s_Kw p0) = true) (h2 : (decide (64 < ((List.length p0.list) : Int))) = false) (h3 : (decide (64 < ((List.length p0.fields) : Int))) = false) (h4 : (p0.kind == 4) = true) (h5 : (p0.kind == 5) = false) (h6 : (decide (0 < ((List.length p0.fields) : Int))) = false) (z7 : Nat → PV) (zo7 : Nat → List PV) (hl7 : Q7 G (Q2s p0 p1 0) (.st (.exit 0) (Q34 p0 p1 z7 zo7))) (z8 : Nat → PV) (zo8 : Nat → List PV) (hl8 : Q7 G (Q2k p0 p1 0) (.st .ret (Q3c p0 p1 z8 zo8))) : Q7 G (c_Kx p0 p1) (.ret (.bool (false)) []) := by
 exact Q9 (fn := Ir.Kx) rfl VOK.nil [hB 3 h0, hP 8 (Qk (Val.rows p0.list) (List.length p0.list) (Val.Qd p0.list)), hB 0 h2, hP 4 (Qk (Fld.rows p0.fields) (List.length p0.fields) (Fld.Qd p0.fields)), hB 0 h3, hP 3 (dec (!(p0.kind == 4)) false (by rw [h4]; rfl)), hP 9 (dec (!(p0.kind == 5)) true (by rw [h5]; rfl)), hP 3 (Qk (Fld.rows p0.fields) (List.length p0.fields) (Fld.Qd p0.fields)), hB 0 h6] [aB (t_Kw p0 (Q1t p0 p1 H).1) h1, aN hl7, aN hl8] (by kernel_rfl)
theorem Q13n (p0 : Val) (p1 : Int) (H : H_Kx p0) (_rec : Q20 p0) (h0 : (p1 == 0) = false) (h1 : (s_Kw p0) = true) (h2 : (decide (64 < ((List.length p0.list) : Int))) = false) (h3 : (decide (64 < ((List.length p0.fields) : Int))) = false) (h4 : (p0.kind == 4) = true) (h5 : (p0.kind == 5) = false) (h6 : (decide (0 < ((List.length p0.fields) : Int))) = false) (z7 : Nat → PV) (zo7 : Nat → List PV) (hl7 : Q7 G (Q2s p0 p1 0) (.st .ret (Q4z p0 p1 z7 zo7))) : Q7 G (c_Kx p0 p1) (.ret (.bool (false)) []) := by
 exact Q9 (fn := Ir.Kx) rfl VOK.nil [hB 3 h0, hP 8 (Qk (Val.rows p0.list) (List.length p0.list) (Val.Qd p0.list)), hB 0 h2, hP 4 (Qk (Fld.rows p0.fields) (List.length p0.fields) (Fld.Qd p0.fields)), hB 0 h3, hP 3 (dec (!(p0.kind == 4)) false (by rw [h4]; rfl)), hP 9 (dec (!(p0.kind == 5)) true (by rw [h5]; rfl)), hP 3 (Qk (Fld.rows p0.fields) (List.length p0.fields) (Fld.Qd p0.fields)), hB 0 h6] [aB (t_Kw p0 (Q1t p0 p1 H).1) h1, aN hl7] (by kernel_rfl)
theorem Q12z (p0 : Val) (p1 : Int) (H : H_Kx p0) (_rec : Q20 p0) (h0 : (p1 == 0) = false) (h1 : (s_Kw p0) = true) (h2 : (decide (64 < ((List.length p0.list) : Int))) = false) (h3 : (decide (64 < ((List.length p0.fields) : Int))) = false) (h4 : (p0.kind == 4) = false) (h5 : (decide (0 < ((List.length p0.list) : Int))) = true) : Q7 G (c_Kx p0 p1) (.ret (.bool (false)) []) := by
 exact Q9 (fn := Ir.Kx) rfl VOK.nil [hB 3 h0, hP 8 (Qk (Val.rows p0.list) (List.length p0.list) (Val.Qd p0.list)), hB 0 h2, hP 4 (Qk (Fld.rows p0.fields) (List.length p0.fields) (Fld.Qd p0.fields)), hB 0 h3, hP 3 (dec (!(p0.kind == 4)) true (by rw [h4]; rfl)), hP 3 (Qk (Val.rows p0.list) (List.length p0.list) (Val.Qd p0.list)), hB 0 h5] [aB (t_Kw p0 (Q1t p0 p1 H).1) h1] (by kernel_rfl)
theorem Q12h (p0 : Val) (p1 : Int) (H : H_Kx p0) (_rec : Q20 p0) (h0 : (p1 == 0) = false) (h1 : (s_Kw p0) = true) (h2 : (decide (64 < ((List.length p0.list) : Int))) = false) (h3 : (decide (64 < ((List.length p0.fields) : Int))) = false) (h4 : (p0.kind == 4) = false) (h5 : (decide (0 < ((List.length p0.list) : Int))) = false) (h6 : (p0.kind == 5) = true) (z7 : Nat → PV) (zo7 : Nat → List PV) (hl7 : Q7 G (Q2s p0 p1 0) (.st (.exit 0) (Q34 p0 p1 z7 zo7))) (z8 : Nat → PV) (zo8 : Nat → List PV) (hl8 : Q7 G (Q2k p0 p1 0) (.st (.exit 2) (Q54 p0 p1 z8 zo8))) : Q7 G (c_Kx p0 p1) (.ret (.bool (true)) []) := by
 exact Q9 (fn := Ir.Kx) rfl VOK.nil [hB 3 h0, hP 8 (Qk (Val.rows p0.list) (List.length p0.list) (Val.Qd p0.list)), hB 0 h2, hP 4 (Qk (Fld.rows p0.fields) (List.length p0.fields) (Fld.Qd p0.fields)), hB 0 h3, hP 3 (dec (!(p0.kind == 4)) true (by rw [h4]; rfl)), hP 3 (Qk (Val.rows p0.list) (List.length p0.list) (Val.Qd p0.list)), hB 0 h5, hP 4 (dec (!(p0.kind == 5)) false (by rw [h6]; rfl))] [aB (t_Kw p0 (Q1t p0 p1 H).1) h1, aN hl7, aN hl8] (by kernel_rfl)
theorem Q132 (p0 : Val) (p1 : Int) (H : H_Kx p0) (_rec : Q20 p0) (h0 : (p1 == 0) = false) (h1 : (s_Kw p0) = true) (h2 : (decide (64 < ((List.length p0.list) : Int))) = false) (h3 : (decide (64 < ((List.length p0.fields) : Int))) = false) (h4 : (p0.kind == 4) = false) (h5 : (decide (0 < ((List.length p0.list) : Int))) = false) (h6 : (p0.kind == 5) = true) (z7 : Nat → PV) (zo7 : Nat → List PV) (hl7 : Q7 G (Q2s p0 p1 0) (.st (.exit 0) (Q34 p0 p1 z7 zo7))) (z8 : Nat → PV) (zo8 : Nat → List PV) (hl8 : Q7 G (Q2k p0 p1 0) (.st .ret (Q3c p0 p1 z8 zo8))) : Q7 G (c_Kx p0 p1) (.ret (.bool (false)) []) := by
 exact Q9 (fn := Ir.Kx) rfl VOK.nil [hB 3 h0, hP 8 (Qk (Val.rows p0.list) (List.length p0.list) (Val.Qd p0.list)), hB 0 h2, hP 4 (Qk (Fld.rows p0.fields) (List.length p0.fields) (Fld.Qd p0.fields)), hB 0 h3, hP 3 (dec (!(p0.kind == 4)) true (by rw [h4]; rfl)), hP 3 (Qk (Val.rows p0.list) (List.length p0.list) (Val.Qd p0.list)), hB 0 h5, hP 4 (dec (!(p0.kind == 5)) false (by rw [h6]; rfl))] [aB (t_Kw p0 (Q1t p0 p1 H).1) h1, aN hl7, aN hl8] (by kernel_rfl)
theorem Q12b (p0 : Val) (p1 : Int) (H : H_Kx p0) (_rec : Q20 p0) (h0 : (p1 == 0) = false) (h1 : (s_Kw p0) = true) (h2 : (decide (64 < ((List.length p0.list) : Int))) = false) (h3 : (decide (64 < ((List.length p0.fields) : Int))) = false) (h4 : (p0.kind == 4) = false) (h5 : (decide (0 < ((List.length p0.list) : Int))) = false) (h6 : (p0.kind == 5) = true) (z7 : Nat → PV) (zo7 : Nat → List PV) (hl7 : Q7 G (Q2s p0 p1 0) (.st .ret (Q4z p0 p1 z7 zo7))) : Q7 G (c_Kx p0 p1) (.ret (.bool (false)) []) := by
 exact Q9 (fn := Ir.Kx) rfl VOK.nil [hB 3 h0, hP 8 (Qk (Val.rows p0.list) (List.length p0.list) (Val.Qd p0.list)), hB 0 h2, hP 4 (Qk (Fld.rows p0.fields) (List.length p0.fields) (Fld.Qd p0.fields)), hB 0 h3, hP 3 (dec (!(p0.kind == 4)) true (by rw [h4]; rfl)), hP 3 (Qk (Val.rows p0.list) (List.length p0.list) (Val.Qd p0.list)), hB 0 h5, hP 4 (dec (!(p0.kind == 5)) false (by rw [h6]; rfl))] [aB (t_Kw p0 (Q1t p0 p1 H).1) h1, aN hl7] (by kernel_rfl)
theorem Q12i (p0 : Val) (p1 : Int) (H : H_Kx p0) (_rec : Q20 p0) (h0 : (p1 == 0) = false) (h1 : (s_Kw p0) = true) (h2 : (decide (64 < ((List.length p0.list) : Int))) = false) (h3 : (decide (64 < ((List.length p0.fields) : Int))) = false) (h4 : (p0.kind == 4) = false) (h5 : (decide (0 < ((List.length p0.list) : Int))) = false) (h6 : (p0.kind == 5) = false) (h7 : (decide (0 < ((List.length p0.fields) : Int))) = true) : Q7 G (c_Kx p0 p1) (.ret (.bool (false)) []) := by
 exact Q9 (fn := Ir.Kx) rfl VOK.nil [hB 3 h0, hP 8 (Qk (Val.rows p0.list) (List.length p0.list) (Val.Qd p0.list)), hB 0 h2, hP 4 (Qk (Fld.rows p0.fields) (List.length p0.fields) (Fld.Qd p0.fields)), hB 0 h3, hP 3 (dec (!(p0.kind == 4)) true (by rw [h4]; rfl)), hP 3 (Qk (Val.rows p0.list) (List.length p0.list) (Val.Qd p0.list)), hB 0 h5, hP 4 (dec (!(p0.kind == 5)) true (by rw [h6]; rfl)), hP 3 (Qk (Fld.rows p0.fields) (List.length p0.fields) (Fld.Qd p0.fields)), hB 0 h7] [aB (t_Kw p0 (Q1t p0 p1 H).1) h1] (by kernel_rfl)
theorem Q133 (p0 : Val) (p1 : Int) (H : H_Kx p0) (_rec : Q20 p0) (h0 : (p1 == 0) = false) (h1 : (s_Kw p0) = true) (h2 : (decide (64 < ((List.length p0.list) : Int))) = false) (h3 : (decide (64 < ((List.length p0.fields) : Int))) = false) (h4 : (p0.kind == 4) = false) (h5 : (decide (0 < ((List.length p0.list) : Int))) = false) (h6 : (p0.kind == 5) = false) (h7 : (decide (0 < ((List.length p0.fields) : Int))) = false) (z8 : Nat → PV) (zo8 : Nat → List PV) (hl8 : Q7 G (Q2s p0 p1 0) (.st (.exit 0) (Q34 p0 p1 z8 zo8))) (z9 : Nat → PV) (zo9 : Nat → List PV) (hl9 : Q7 G (Q2k p0 p1 0) (.st (.exit 2) (Q54 p0 p1 z9 zo9))) : Q7 G (c_Kx p0 p1) (.ret (.bool (true)) []) := by
 exact Q9 (fn := Ir.Kx) rfl VOK.nil [hB 3 h0, hP 8 (Qk (Val.rows p0.list) (List.length p0.list) (Val.Qd p0.list)), hB 0 h2, hP 4 (Qk (Fld.rows p0.fields) (List.length p0.fields) (Fld.Qd p0.fields)), hB 0 h3, hP 3 (dec (!(p0.kind == 4)) true (by rw [h4]; rfl)), hP 3 (Qk (Val.rows p0.list) (List.length p0.list) (Val.Qd p0.list)), hB 0 h5, hP 4 (dec (!(p0.kind == 5)) true (by rw [h6]; rfl)), hP 3 (Qk (Fld.rows p0.fields) (List.length p0.fields) (Fld.Qd p0.fields)), hB 0 h7] [aB (t_Kw p0 (Q1t p0 p1 H).1) h1, aN hl8, aN hl9] (by kernel_rfl)
theorem Q131 (p0 : Val) (p1 : Int) (H : H_Kx p0) (_rec : Q20 p0) (h0 : (p1 == 0) = false) (h1 : (s_Kw p0) = true) (h2 : (decide (64 < ((List.length p0.list) : Int))) = false) (h3 : (decide (64 < ((List.length p0.fields) : Int))) = false) (h4 : (p0.kind == 4) = false) (h5 : (decide (0 < ((List.length p0.list) : Int))) = false) (h6 : (p0.kind == 5) = false) (h7 : (decide (0 < ((List.length p0.fields) : Int))) = false) (z8 : Nat → PV) (zo8 : Nat → List PV) (hl8 : Q7 G (Q2s p0 p1 0) (.st (.exit 0) (Q34 p0 p1 z8 zo8))) (z9 : Nat → PV) (zo9 : Nat → List PV) (hl9 : Q7 G (Q2k p0 p1 0) (.st .ret (Q3c p0 p1 z9 zo9))) : Q7 G (c_Kx p0 p1) (.ret (.bool (false)) []) := by
 exact Q9 (fn := Ir.Kx) rfl VOK.nil [hB 3 h0, hP 8 (Qk (Val.rows p0.list) (List.length p0.list) (Val.Qd p0.list)), hB 0 h2, hP 4 (Qk (Fld.rows p0.fields) (List.length p0.fields) (Fld.Qd p0.fields)), hB 0 h3, hP 3 (dec (!(p0.kind == 4)) true (by rw [h4]; rfl)), hP 3 (Qk (Val.rows p0.list) (List.length p0.list) (Val.Qd p0.list)), hB 0 h5, hP 4 (dec (!(p0.kind == 5)) true (by rw [h6]; rfl)), hP 3 (Qk (Fld.rows p0.fields) (List.length p0.fields) (Fld.Qd p0.fields)), hB 0 h7] [aB (t_Kw p0 (Q1t p0 p1 H).1) h1, aN hl8, aN hl9] (by kernel_rfl)
theorem Q136 (p0 : Val) (p1 : Int) (H : H_Kx p0) (_rec : Q20 p0) (h0 : (p1 == 0) = false) (h1 : (s_Kw p0) = true) (h2 : (decide (64 < ((List.length p0.list) : Int))) = false) (h3 : (decide (64 < ((List.length p0.fields) : Int))) = false) (h4 : (p0.kind == 4) = false) (h5 : (decide (0 < ((List.length p0.list) : Int))) = false) (h6 : (p0.kind == 5) = false) (h7 : (decide (0 < ((List.length p0.fields) : Int))) = false) (z8 : Nat → PV) (zo8 : Nat → List PV) (hl8 : Q7 G (Q2s p0 p1 0) (.st .ret (Q4z p0 p1 z8 zo8))) : Q7 G (c_Kx p0 p1) (.ret (.bool (false)) []) := by
 exact Q9 (fn := Ir.Kx) rfl VOK.nil [hB 3 h0, hP 8 (Qk (Val.rows p0.list) (List.length p0.list) (Val.Qd p0.list)), hB 0 h2, hP 4 (Qk (Fld.rows p0.fields) (List.length p0.fields) (Fld.Qd p0.fields)), hB 0 h3, hP 3 (dec (!(p0.kind == 4)) true (by rw [h4]; rfl)), hP 3 (Qk (Val.rows p0.list) (List.length p0.list) (Val.Qd p0.list)), hB 0 h5, hP 4 (dec (!(p0.kind == 5)) true (by rw [h6]; rfl)), hP 3 (Qk (Fld.rows p0.fields) (List.length p0.fields) (Fld.Qd p0.fields)), hB 0 h7] [aB (t_Kw p0 (Q1t p0 p1 H).1) h1, aN hl8] (by kernel_rfl)
theorem Q135 (p0 : Val) (p1 : Int) (H : H_Kx p0) (_rec : Q20 p0) (h0 : (p1 == 0) = false) (h1 : (s_Kw p0) = false) : Q7 G (c_Kx p0 p1) (.ret (.bool (false)) []) := by
 exact Q9 (fn := Ir.Kx) rfl VOK.nil [hB 3 h0] [aB (t_Kw p0 (Q1t p0 p1 H).1) h1] (by kernel_rfl)
theorem r_Kx (p0 : Val) (p1 : Int) (H : H_Kx p0) (rec : Q20 p0) : Q7 G (c_Kx p0 p1) (a_Kx p0 p1) := by
  unfold a_Kx
  rw [s_Kx]
  cases h0 : (p1 == 0) with
  | true =>
   exact Q141 p0 p1 H rec h0
  | false =>
   cases h1 : (s_Kw p0) with
   | true =>
    cases h2 : (decide (64 < ((List.length p0.list) : Int))) with
    | true =>
     exact Q14q p0 p1 H rec h0 h1 h2
    | false =>
     cases h3 : (decide (64 < ((List.length p0.fields) : Int))) with
     | true =>
      exact Q13h p0 p1 H rec h0 h1 h2 h3
     | false =>
      cases h4 : (p0.kind == 4) with
      | true =>
       cases h5 : (p0.kind == 5) with
       | true =>
        have hl6 := Q85 p0 p1 ((Q1t p0 p1 H).2.1) rec p0.list 0 (by simp)
        cases hr6 : (Q3j p0 p1 p0.list 0) with
        | k0 =>
          rw [hr6] at hl6
          obtain ⟨z6, zo6, hl6⟩ := hl6
          try dsimp only
          have hl7 := Q6j p0 p1 ((Q1t p0 p1 H).2.2.1) rec p0.fields 0 (by simp)
          cases hr7 : (Q2r p0 p1 p0.fields 0) with
          | k0 =>
            rw [hr7] at hl7
            obtain ⟨z7, zo7, hl7⟩ := hl7
            exact Q14e p0 p1 H rec h0 h1 h2 h3 h4 h5 z6 zo6 hl6 z7 zo7 hl7
          | k1 =>
            rw [hr7] at hl7
            obtain ⟨z7, zo7, hl7⟩ := hl7
            exact Q14v p0 p1 H rec h0 h1 h2 h3 h4 h5 z6 zo6 hl6 z7 zo7 hl7
        | k1 =>
          rw [hr6] at hl6
          obtain ⟨z6, zo6, hl6⟩ := hl6
          exact Q15l p0 p1 H rec h0 h1 h2 h3 h4 h5 z6 zo6 hl6
       | false =>
        cases h6 : (decide (0 < ((List.length p0.fields) : Int))) with
        | true =>
         exact Q140 p0 p1 H rec h0 h1 h2 h3 h4 h5 h6
        | false =>
         have hl7 := Q85 p0 p1 ((Q1t p0 p1 H).2.1) rec p0.list 0 (by simp)
         cases hr7 : (Q3j p0 p1 p0.list 0) with
         | k0 =>
           rw [hr7] at hl7
           obtain ⟨z7, zo7, hl7⟩ := hl7
           try dsimp only
           have hl8 := Q6j p0 p1 ((Q1t p0 p1 H).2.2.1) rec p0.fields 0 (by simp)
           cases hr8 : (Q2r p0 p1 p0.fields 0) with
           | k0 =>
             rw [hr8] at hl8
             obtain ⟨z8, zo8, hl8⟩ := hl8
             exact Q15d p0 p1 H rec h0 h1 h2 h3 h4 h5 h6 z7 zo7 hl7 z8 zo8 hl8
           | k1 =>
             rw [hr8] at hl8
             obtain ⟨z8, zo8, hl8⟩ := hl8
             exact Q13s p0 p1 H rec h0 h1 h2 h3 h4 h5 h6 z7 zo7 hl7 z8 zo8 hl8
         | k1 =>
           rw [hr7] at hl7
           obtain ⟨z7, zo7, hl7⟩ := hl7
           exact Q13n p0 p1 H rec h0 h1 h2 h3 h4 h5 h6 z7 zo7 hl7
      | false =>
       cases h5 : (decide (0 < ((List.length p0.list) : Int))) with
       | true =>
        exact Q12z p0 p1 H rec h0 h1 h2 h3 h4 h5
       | false =>
        cases h6 : (p0.kind == 5) with
        | true =>
         have hl7 := Q85 p0 p1 ((Q1t p0 p1 H).2.1) rec p0.list 0 (by simp)
         cases hr7 : (Q3j p0 p1 p0.list 0) with
         | k0 =>
           rw [hr7] at hl7
           obtain ⟨z7, zo7, hl7⟩ := hl7
           try dsimp only
           have hl8 := Q6j p0 p1 ((Q1t p0 p1 H).2.2.1) rec p0.fields 0 (by simp)
           cases hr8 : (Q2r p0 p1 p0.fields 0) with
           | k0 =>
             rw [hr8] at hl8
             obtain ⟨z8, zo8, hl8⟩ := hl8
             exact Q12h p0 p1 H rec h0 h1 h2 h3 h4 h5 h6 z7 zo7 hl7 z8 zo8 hl8
           | k1 =>
             rw [hr8] at hl8
             obtain ⟨z8, zo8, hl8⟩ := hl8
             exact Q132 p0 p1 H rec h0 h1 h2 h3 h4 h5 h6 z7 zo7 hl7 z8 zo8 hl8
         | k1 =>
           rw [hr7] at hl7
           obtain ⟨z7, zo7, hl7⟩ := hl7
           exact Q12b p0 p1 H rec h0 h1 h2 h3 h4 h5 h6 z7 zo7 hl7
        | false =>
         cases h7 : (decide (0 < ((List.length p0.fields) : Int))) with
         | true =>
          exact Q12i p0 p1 H rec h0 h1 h2 h3 h4 h5 h6 h7
         | false =>
          have hl8 := Q85 p0 p1 ((Q1t p0 p1 H).2.1) rec p0.list 0 (by simp)
          cases hr8 : (Q3j p0 p1 p0.list 0) with
          | k0 =>
            rw [hr8] at hl8
            obtain ⟨z8, zo8, hl8⟩ := hl8
            try dsimp only
            have hl9 := Q6j p0 p1 ((Q1t p0 p1 H).2.2.1) rec p0.fields 0 (by simp)
            cases hr9 : (Q2r p0 p1 p0.fields 0) with
            | k0 =>
              rw [hr9] at hl9
              obtain ⟨z9, zo9, hl9⟩ := hl9
              exact Q133 p0 p1 H rec h0 h1 h2 h3 h4 h5 h6 h7 z8 zo8 hl8 z9 zo9 hl9
            | k1 =>
              rw [hr9] at hl9
              obtain ⟨z9, zo9, hl9⟩ := hl9
              exact Q131 p0 p1 H rec h0 h1 h2 h3 h4 h5 h6 h7 z8 zo8 hl8 z9 zo9 hl9
          | k1 =>
            rw [hr8] at hl8
            obtain ⟨z8, zo8, hl8⟩ := hl8
            exact Q136 p0 p1 H rec h0 h1 h2 h3 h4 h5 h6 h7 z8 zo8 hl8
   | false =>
    exact Q135 p0 p1 H rec h0 h1
theorem i_Kx : ∀ (k : Nat) (p0 : Val), SizeOf.sizeOf p0 < k → ∀ (p1 : Int), H_Kx p0 → Q7 G (c_Kx p0 p1) (a_Kx p0 p1)
  | 0, _, h, _, _ => absurd h (Nat.not_lt_zero _)
  | k + 1, p0, h, p1, H => r_Kx p0 p1 H (fun q hq p1 hH => i_Kx k q (by omega) p1 hH)
theorem t_Kx (p0 : Val) (p1 : Int) (H : H_Kx p0) : Q7 G (c_Kx p0 p1) (a_Kx p0 p1) := i_Kx _ p0 (Nat.lt_succ_self _) p1 H
def s_Ko (p0 : Val) : Bool :=
 bif (s_Kx p0 12) then
  (decide ((s_Kn p0) ≤ 600))
 else
  false
def c_Ko (p0 : Val) : En := .call 23 [.agg (Val.cells p0)] []
def a_Ko (p0 : Val) : Rs := .ret (.bool (s_Ko p0)) []
def H_Ko (p0 : Val) : Prop := (H_Kx p0) ∧ (H_Kn p0) ∧ True
theorem t_Ko (p0 : Val) (H : H_Ko p0) : Q7 G (c_Ko p0) (a_Ko p0) := by
 unfold a_Ko s_Ko
 cases h0 : (s_Kx p0 12) with
 | true =>
  exact Q9 (fn := Ir.Ko) rfl VOK.nil [] [aB (t_Kx p0 12 H.1) h0, aN (t_Kn p0 H.2.1)] (by kernel_rfl)
 | false =>
  exact Q9 (fn := Ir.Ko) rfl VOK.nil [] [aB (t_Kx p0 12 H.1) h0] (by kernel_rfl)
end Go.Proofs.Ytnhhddbbppbblaa
end

section
/- What the functions on values compute (printed by a program). -/
namespace Go.Proofs.Ytnhhddbbppbblaa
open Go.Pv
inductive Qze where
  | k0
  | k1
inductive Qwr where
  | k0
  | k1
mutual
def s_Ky (p0 : Val) (p1 : Val) : Bool :=
 bif (p0.kind == p1.kind) then
  bif (p0.n == p1.n) then
   bif (sEq p0.s p1.s) then
    bif (((List.length p0.list) : Int) == ((List.length p1.list) : Int)) then
     bif (((List.length p0.fields) : Int) == ((List.length p1.fields) : Int)) then
      (match (Q4v p0 p1 p0.list 0) with
      | .k0 => (match (Q4m p0 p1 p0.fields 0) with
       | .k0 => true
       | .k1 => false)
      | .k1 => false)
     else
      false
    else
     false
   else
    false
  else
   false
 else
  false
termination_by SizeOf.sizeOf p0
decreasing_by all_goals first | exact Val.Q1x _ | exact Val.Q15 _ | exact Q23 _ _ | exact Q1v _ _ | exact Q1k _ _
def Q4v (p0 : Val) (p1 : Val) : List Val → Nat → Qze
 | [], _i0 =>
  (.k0)
 | x0 :: r0, i0 =>
  bif (s_Ky x0 (List.getD p1.list i0 (Val.mk 0 0 (⟨#[]⟩ : ByteArray) [] []))) then
   Q4v p0 p1 r0 (i0 + 1)
  else
   (.k1)
termination_by l => SizeOf.sizeOf l
decreasing_by all_goals first | exact Val.Q1x _ | exact Val.Q15 _ | exact Q23 _ _ | exact Q1v _ _ | exact Q1k _ _
def Q4m (p0 : Val) (p1 : Val) : List Fld → Nat → Qwr
 | [], _i1 =>
  (.k0)
 | x1 :: r1, i1 =>
  bif (sEq x1.name (List.getD p1.fields i1 zF).name) then
   bif (s_Ky x1.v (List.getD p1.fields i1 zF).v) then
    Q4m p0 p1 r1 (i1 + 1)
   else
    (.k1)
  else
   (.k1)
termination_by l => SizeOf.sizeOf l
decreasing_by all_goals first | exact Val.Q1x _ | exact Val.Q15 _ | exact Q23 _ _ | exact Q1v _ _ | exact Q1k _ _
end
def Qqn (_p0 : Val) (_p1 : Val) (i0 : Nat) : List PV :=
  [.un, .un, .bx 0 0, .bx 1 0, .un, .int .i64 (i0 : Int), .un, .un, .un, .un, .un, .un, .un, .un, .un, .un, .un, .un, .un, .un, .un, .un, .un, .un, .un, .un, .un, .un, .un, .un, .un, .un, .un, .un, .un, .un, .un, .un, .un, .un, .un, .un, .un, .un, .un, .un, .un, .un, .un, .un, .un, .un, .un, .un, .un, .un, .un, .un, .un, .un, .un, .un, .un, .un, .un, .un, .un, .un, .un, .un, .un, .un, .un, .un, .un, .un, .un, .un, .un, .un, .un, .un, .un, .un, .un, .un, .un, .un, .un, .un, .un, .un, .un, .un, .un, .un, .un, .un, .un]
def Qro (p0 : Val) (p1 : Val) (_i0 : Nat) : List Ob :=
  [⟨5, 0, true, [.int .i64 p0.kind, .int .i64 p0.n, .str p0.s, .sl (Val.rows p0.list), .sl (Fld.rows p0.fields)]⟩, ⟨5, 0, true, [.int .i64 p1.kind, .int .i64 p1.n, .str p1.s, .sl (Val.rows p1.list), .sl (Fld.rows p1.fields)]⟩]
def Q6a (p0 : Val) (p1 : Val) (i0 : Nat) : En := .loop 0 Ir.Qgu Ir.Q147 (Qqn p0 p1 i0) (Qro p0 p1 i0)
def Q8y (p0 : Val) (p1 : Val) (z : Nat → PV) (_zo : Nat → List PV) : St :=
  ⟨[z 0, z 1, .bx 0 0, .bx 1 0, z 4, z 5, z 6, z 7, z 8, z 9, z 10, z 11, z 12, z 13, z 14, z 15, z 16, z 17, z 18, z 19, z 20, z 21, z 22, z 23, z 24, z 25, z 26, z 27, z 28, z 29, z 30, z 31, z 32, z 33, z 34, z 35, z 36, z 37, z 38, z 39, z 40, z 41, z 42, z 43, z 44, z 45, z 46, z 47, z 48, z 49, z 50, z 51, z 52, z 53, z 54, z 55, z 56, z 57, z 58, z 59, z 60, z 61, z 62, z 63, z 64, z 65, z 66, z 67, z 68, z 69, z 70, z 71, z 72, z 73, z 74, z 75, z 76, z 77, z 78, z 79, z 80, z 81, z 82, z 83, z 84, z 85, z 86, z 87, z 88, z 89, z 90, z 91, z 92, z 93, z 94, z 95, z 96, z 97, z 98], [(0, ⟨5, 0, true, [.int .i64 p0.kind, .int .i64 p0.n, .str p0.s, .sl (Val.rows p0.list), .sl (Fld.rows p0.fields)]⟩), (1, ⟨5, 0, true, [.int .i64 p1.kind, .int .i64 p1.n, .str p1.s, .sl (Val.rows p1.list), .sl (Fld.rows p1.fields)]⟩)], 322⟩
def Qeu (_p0 : Val) (_p1 : Val) (z : Nat → PV) (zo : Nat → List PV) : St :=
  ⟨[z 0, z 1, z 2, z 3, .bool false, z 5, z 6, z 7, z 8, z 9, z 10, z 11, z 12, z 13, z 14, z 15, z 16, z 17, z 18, z 19, z 20, z 21, z 22, z 23, z 24, z 25, z 26, z 27, z 28, z 29, z 30, z 31, z 32, z 33, z 34, z 35, z 36, z 37, z 38, z 39, z 40, z 41, z 42, z 43, z 44, z 45, z 46, z 47, z 48, z 49, z 50, z 51, z 52, z 53, z 54, z 55, z 56, z 57, z 58, z 59, z 60, z 61, z 62, z 63, z 64, z 65, z 66, z 67, z 68, z 69, z 70, z 71, z 72, z 73, z 74, z 75, z 76, z 77, z 78, z 79, z 80, z 81, z 82, z 83, z 84, z 85, z 86, z 87, z 88, z 89, z 90, z 91, z 92, z 93, z 94, z 95, z 96, z 97, z 98], [(0, ⟨5, 0, true, zo 0⟩), (1, ⟨5, 0, true, zo 1⟩)], 1154⟩
def Qc3 (p0 : Val) (p1 : Val) (e : En) : Qze → Prop
  | .k0 => ∃ z zo, Q7 G e (.st (.exit 0) (Q8y p0 p1 z zo))
  | .k1 => ∃ z zo, Q7 G e (.st .ret (Qeu p0 p1 z zo))
theorem Qmt (p0 : Val) (p1 : Val) {e e' : En} (h : ∀ r, Q7 G e r → Q7 G e' r) : ∀ q, Qc3 p0 p1 e q → Qc3 p0 p1 e' q
  | .k0, ⟨z, zo, hz⟩ => ⟨z, zo, h _ hz⟩
  | .k1, ⟨z, zo, hz⟩ => ⟨z, zo, h _ hz⟩
def Qqs (_p0 : Val) (_p1 : Val) (i1 : Nat) : List PV :=
  [.un, .un, .bx 0 0, .bx 1 0, .un, .un, .int .i64 (i1 : Int), .un, .un, .un, .un, .un, .un, .un, .un, .un, .un, .un, .un, .un, .un, .un, .un, .un, .un, .un, .un, .un, .un, .un, .un, .un, .un, .un, .un, .un, .un, .un, .un, .un, .un, .un, .un, .un, .un, .un, .un, .un, .un, .un, .un, .un, .un, .un, .un, .un, .un, .un, .un, .un, .un, .un, .un, .un, .un, .un, .un, .un, .un, .un, .un, .un, .un, .un, .un, .un, .un, .un, .un, .un, .un, .un, .un, .un, .un, .un, .un, .un, .un, .un, .un, .un, .un, .un, .un, .un, .un, .un, .un]
def Qr4 (p0 : Val) (p1 : Val) (_i1 : Nat) : List Ob :=
  [⟨5, 0, true, [.int .i64 p0.kind, .int .i64 p0.n, .str p0.s, .sl (Val.rows p0.list), .sl (Fld.rows p0.fields)]⟩, ⟨5, 0, true, [.int .i64 p1.kind, .int .i64 p1.n, .str p1.s, .sl (Val.rows p1.list), .sl (Fld.rows p1.fields)]⟩]
def Q5x (p0 : Val) (p1 : Val) (i1 : Nat) : En := .loop 0 Ir.Qhl Ir.Q15m (Qqs p0 p1 i1) (Qr4 p0 p1 i1)
def Qdl (p0 : Val) (p1 : Val) (z : Nat → PV) (_zo : Nat → List PV) : St :=
  ⟨[z 0, z 1, z 2, z 3, z 4, z 5, z 6, z 7, z 8, z 9, z 10, z 11, z 12, z 13, z 14, z 15, z 16, z 17, z 18, z 19, z 20, z 21, z 22, z 23, z 24, z 25, z 26, z 27, z 28, z 29, z 30, z 31, z 32, z 33, z 34, z 35, z 36, z 37, z 38, z 39, z 40, z 41, z 42, z 43, z 44, z 45, z 46, z 47, z 48, z 49, z 50, z 51, z 52, z 53, z 54, z 55, z 56, z 57, z 58, z 59, z 60, z 61, z 62, z 63, z 64, z 65, z 66, z 67, z 68, z 69, z 70, z 71, z 72, z 73, z 74, z 75, z 76, z 77, z 78, z 79, z 80, z 81, z 82, z 83, z 84, z 85, z 86, z 87, z 88, z 89, z 90, z 91, z 92, z 93, z 94, z 95, z 96, z 97, z 98], [(0, ⟨5, 0, true, [.int .i64 p0.kind, .int .i64 p0.n, .str p0.s, .sl (Val.rows p0.list), .sl (Fld.rows p0.fields)]⟩), (1, ⟨5, 0, true, [.int .i64 p1.kind, .int .i64 p1.n, .str p1.s, .sl (Val.rows p1.list), .sl (Fld.rows p1.fields)]⟩)], 322⟩
def Q7k (_p0 : Val) (_p1 : Val) (z : Nat → PV) (zo : Nat → List PV) : St :=
  ⟨[z 0, z 1, z 2, z 3, .bool false, z 5, z 6, z 7, z 8, z 9, z 10, z 11, z 12, z 13, z 14, z 15, z 16, z 17, z 18, z 19, z 20, z 21, z 22, z 23, z 24, z 25, z 26, z 27, z 28, z 29, z 30, z 31, z 32, z 33, z 34, z 35, z 36, z 37, z 38, z 39, z 40, z 41, z 42, z 43, z 44, z 45, z 46, z 47, z 48, z 49, z 50, z 51, z 52, z 53, z 54, z 55, z 56, z 57, z 58, z 59, z 60, z 61, z 62, z 63, z 64, z 65, z 66, z 67, z 68, z 69, z 70, z 71, z 72, z 73, z 74, z 75, z 76, z 77, z 78, z 79, z 80, z 81, z 82, z 83, z 84, z 85, z 86, z 87, z 88, z 89, z 90, z 91, z 92, z 93, z 94, z 95, z 96, z 97, z 98], [(0, ⟨5, 0, true, zo 0⟩), (1, ⟨5, 0, true, zo 1⟩)], 2242⟩
def Q96 (p0 : Val) (p1 : Val) (e : En) : Qwr → Prop
  | .k0 => ∃ z zo, Q7 G e (.st (.exit 2) (Qdl p0 p1 z zo))
  | .k1 => ∃ z zo, Q7 G e (.st .ret (Q7k p0 p1 z zo))
theorem Qp0 (p0 : Val) (p1 : Val) {e e' : En} (h : ∀ r, Q7 G e r → Q7 G e' r) : ∀ q, Q96 p0 p1 e q → Q96 p0 p1 e' q
  | .k0, ⟨z, zo, hz⟩ => ⟨z, zo, h _ hz⟩
  | .k1, ⟨z, zo, hz⟩ => ⟨z, zo, h _ hz⟩
def c_Ky (p0 : Val) (p1 : Val) : En := .call 12 [.agg (Val.cells p0), .agg (Val.cells p1)] []
def a_Ky (p0 : Val) (p1 : Val) : Rs := .ret (.bool (s_Ky p0 p1)) []
abbrev H_Ky (p0 : Val) : Prop := Val.Sm 4611686018427387904 p0
def Q3g (p0 : Val) : Prop := ∀ (q : Val), SizeOf.sizeOf q < SizeOf.sizeOf p0 → ∀ (p1 : Val), H_Ky q → Q7 G (c_Ky q p1) (a_Ky q p1)
def Qf6 (p0 : Val) (p1 : Val) : Prop := (List.length p0.list ≤ 4611686018427387904) ∧ (∀ (i0 : Nat) (x0 : Val), p0.list[i0]? = some x0 → i0 < List.length p1.list) ∧ (∀ x0 ∈ p0.list, H_Ky x0) ∧ True
def Q9a (p0 : Val) (p1 : Val) : Prop := (List.length p0.fields ≤ 4611686018427387904) ∧ (∀ (i1 : Nat) (x1 : Fld), p0.fields[i1]? = some x1 → i1 < List.length p1.fields) ∧ (∀ x1 ∈ p0.fields, H_Ky x1.v) ∧ True
theorem Qww (p0 : Val) (p1 : Val) (H : H_Ky p0) : ((((List.length p0.list) : Int) == ((List.length p1.list) : Int)) = true → (((List.length p0.fields) : Int) == ((List.length p1.fields) : Int)) = true → Qf6 p0 p1) ∧ ((((List.length p0.list) : Int) == ((List.length p1.list) : Int)) = true → (((List.length p0.fields) : Int) == ((List.length p1.fields) : Int)) = true → Q9a p0 p1) ∧ True := by
  obtain ⟨h1, h2, h3, h4⟩ := H.all
  exact ⟨fun a _ => ⟨h1, fun i x hx => by have := (List.getElem?_eq_some_iff.1 hx).1; have := eq_of_beq a; omega, h3, trivial⟩, fun _ b => ⟨h2, fun i x hx => by have := (List.getElem?_eq_some_iff.1 hx).1; have := eq_of_beq b; omega, h4, trivial⟩, trivial⟩
def Qnx (p0 : Val) (_p1 : Val) (i0 : Nat) : List PV :=
  [.un, .un, .un, .un, .un, .int .i64 (i0 : Int), .un, .un, .un, .un, .un, .un, .un, .un, .un, .un, .un, .un, .un, .un, .un, .un, .un, .un, .un, .un, .un, .un, .un, .un, .un, .un, .un, .un, .un, .un, .un, .un, .un, .un, .un, .un, .un, .un, .int .i64 (i0 : Int), .bx 0 3, .sl (Val.rows p0.list), .int .i64 ((List.length p0.list) : Int), .bool false]
def Qhm (_p0 : Val) (_p1 : Val) (_i0 : Nat) : List (Nat × List PV) :=
  []
theorem Qwp (p0 : Val) (p1 : Val) (_H : Qf6 p0 p1) (_rec : Q3g p0) (i0 : Nat) (hc0 : (decide ((i0 : Int) < ((List.length p0.list) : Int))) = false) : Qc3 p0 p1 (Q6a p0 p1 i0) (.k0) := by
 exact ⟨(envF (Qnx p0 p1 i0)), (zoF (Qhm p0 p1 i0)), Qe VOK.nil (x := ((.exit 0), Q8y p0 p1 (envF (Qnx p0 p1 i0)) (zoF (Qhm p0 p1 i0)))) [hP 3 (Qk (Val.rows p0.list) (List.length p0.list) (Val.Qd p0.list)), hB 0 hc0] [] (by kernel_rfl)⟩
theorem Qwq (p0 : Val) (p1 : Val) (H : Qf6 p0 p1) (rec : Q3g p0) (x0 : Val) (i0 : Nat) (hx0 : p0.list[i0]? = some x0) (hi0 : i0 < List.length p0.list) (hc0 : (decide ((i0 : Int) < ((List.length p0.list) : Int))) = true) (h0 : (s_Ky x0 (List.getD p1.list i0 (Val.mk 0 0 (⟨#[]⟩ : ByteArray) [] []))) = true) {r : Rs} (hr : Q7 G (Q6a p0 p1 (i0 + 1)) r) : Q7 G (Q6a p0 p1 i0) r := by
 have hB0 := H.1
 exact Qb VOK.nil (y := (Qqn p0 p1 (i0 + 1), Qro p0 p1 (i0 + 1))) [hP 3 (Qk (Val.rows p0.list) (List.length p0.list) (Val.Qd p0.list)), hB 0 hc0, hP 3 (Q1o 5 (Val.rows p0.list) i0 _ (Val.Qg hx0) rfl), hP 4 (Q1o 5 (Val.rows p1.list) i0 _ (Val.Qg (Qu p1.list i0 (Val.mk 0 0 (⟨#[]⟩ : ByteArray) [] []) ((H.2.1 i0 x0 hx0)))) rfl), hP 4 (Qv i0 (by omega))] [aB (rec x0 (szL hx0) (List.getD p1.list i0 (Val.mk 0 0 (⟨#[]⟩ : ByteArray) [] [])) (H.2.2.1 x0 (Qz hx0))) h0] (by kernel_rfl) hr
def Ql4 (p0 : Val) (p1 : Val) (i0 : Nat) (x0 : Val) : List PV :=
  [.un, .un, .bx 0 0, .bx 1 0, .un, .int .i64 (i0 : Int), .un, .un, .un, .un, .un, .un, .un, .un, .un, .un, .un, .un, .un, .un, .un, .un, .un, .un, .un, .un, .un, .un, .un, .un, .un, .un, .un, .un, .un, .un, .un, .un, .un, .un, .un, .un, .un, .un, .int .i64 (i0 : Int), .bx 0 3, .sl (Val.rows p0.list), .int .i64 ((List.length p0.list) : Int), .bool true, .un, .un, .bx 0 3, .sl (Val.rows p0.list), .int .i64 (i0 : Int), .rf [.int .i64 x0.kind, .int .i64 x0.n, .str x0.s, .sl (Val.rows x0.list), .sl (Fld.rows x0.fields)], .agg [.int .i64 x0.kind, .int .i64 x0.n, .str x0.s, .sl (Val.rows x0.list), .sl (Fld.rows x0.fields)], .bx 1 3, .sl (Val.rows p1.list), .int .i64 (i0 : Int), .rf [.int .i64 (List.getD p1.list i0 (Val.mk 0 0 (⟨#[]⟩ : ByteArray) [] [])).kind, .int .i64 (List.getD p1.list i0 (Val.mk 0 0 (⟨#[]⟩ : ByteArray) [] [])).n, .str (List.getD p1.list i0 (Val.mk 0 0 (⟨#[]⟩ : ByteArray) [] [])).s, .sl (Val.rows (List.getD p1.list i0 (Val.mk 0 0 (⟨#[]⟩ : ByteArray) [] [])).list), .sl (Fld.rows (List.getD p1.list i0 (Val.mk 0 0 (⟨#[]⟩ : ByteArray) [] [])).fields)], .agg [.int .i64 (List.getD p1.list i0 (Val.mk 0 0 (⟨#[]⟩ : ByteArray) [] [])).kind, .int .i64 (List.getD p1.list i0 (Val.mk 0 0 (⟨#[]⟩ : ByteArray) [] [])).n, .str (List.getD p1.list i0 (Val.mk 0 0 (⟨#[]⟩ : ByteArray) [] [])).s, .sl (Val.rows (List.getD p1.list i0 (Val.mk 0 0 (⟨#[]⟩ : ByteArray) [] [])).list), .sl (Fld.rows (List.getD p1.list i0 (Val.mk 0 0 (⟨#[]⟩ : ByteArray) [] [])).fields)], .bool false, .bool true]
def Qh3 (p0 : Val) (p1 : Val) (_i0 : Nat) (_x0 : Val) : List (Nat × List PV) :=
  [(0, [.int .i64 p0.kind, .int .i64 p0.n, .str p0.s, .sl (Val.rows p0.list), .sl (Fld.rows p0.fields)]), (1, [.int .i64 p1.kind, .int .i64 p1.n, .str p1.s, .sl (Val.rows p1.list), .sl (Fld.rows p1.fields)])]
theorem Qzd (p0 : Val) (p1 : Val) (H : Qf6 p0 p1) (rec : Q3g p0) (x0 : Val) (i0 : Nat) (hx0 : p0.list[i0]? = some x0) (_hi0 : i0 < List.length p0.list) (hc0 : (decide ((i0 : Int) < ((List.length p0.list) : Int))) = true) (h0 : (s_Ky x0 (List.getD p1.list i0 (Val.mk 0 0 (⟨#[]⟩ : ByteArray) [] []))) = false) : Qc3 p0 p1 (Q6a p0 p1 i0) (.k1) := by
 exact ⟨(envF (Ql4 p0 p1 i0 x0)), (zoF (Qh3 p0 p1 i0 x0)), Qe VOK.nil (x := (.ret, Qeu p0 p1 (envF (Ql4 p0 p1 i0 x0)) (zoF (Qh3 p0 p1 i0 x0)))) [hP 3 (Qk (Val.rows p0.list) (List.length p0.list) (Val.Qd p0.list)), hB 0 hc0, hP 3 (Q1o 5 (Val.rows p0.list) i0 _ (Val.Qg hx0) rfl), hP 4 (Q1o 5 (Val.rows p1.list) i0 _ (Val.Qg (Qu p1.list i0 (Val.mk 0 0 (⟨#[]⟩ : ByteArray) [] []) ((H.2.1 i0 x0 hx0)))) rfl)] [aB (rec x0 (szL hx0) (List.getD p1.list i0 (Val.mk 0 0 (⟨#[]⟩ : ByteArray) [] [])) (H.2.2.1 x0 (Qz hx0))) h0] (by kernel_rfl)⟩
theorem Qrk (p0 : Val) (p1 : Val) (H : Qf6 p0 p1) (rec : Q3g p0) : ∀ (r0 : List Val) (i0 : Nat), List.drop i0 p0.list = r0 → Qc3 p0 p1 (Q6a p0 p1 i0) (Q4v p0 p1 r0 i0)
 | [], i0, hd => by
  have hc0 : (decide ((i0 : Int) < ((List.length p0.list) : Int))) = false := by have := Q1p hd; simp; omega
  rw [Q4v]
  exact Qwp p0 p1 H rec i0 hc0
 | x0 :: r0, i0, hd => by
  obtain ⟨hx0, hi0, hd'⟩ := Q1d hd
  have hc0 : (decide ((i0 : Int) < ((List.length p0.list) : Int))) = true := by simp; omega
  rw [Q4v]
  cases h0 : (s_Ky x0 (List.getD p1.list i0 (Val.mk 0 0 (⟨#[]⟩ : ByteArray) [] []))) with
  | true =>
   exact Qmt p0 p1 (fun r hr => Qwq p0 p1 H rec x0 i0 hx0 hi0 hc0 h0 hr) _ (Qrk p0 p1 H rec r0 (i0 + 1) hd')
  | false =>
   exact Qzd p0 p1 H rec x0 i0 hx0 hi0 hc0 h0
def Qmr (p0 : Val) (_p1 : Val) (i1 : Nat) : List PV :=
  [.un, .un, .bx 0 0, .bx 1 0, .un, .un, .int .i64 (i1 : Int), .un, .un, .un, .un, .un, .un, .un, .un, .un, .un, .un, .un, .un, .un, .un, .un, .un, .un, .un, .un, .un, .un, .un, .un, .un, .un, .un, .un, .un, .un, .un, .un, .un, .un, .un, .un, .un, .un, .un, .un, .un, .un, .un, .un, .un, .un, .un, .un, .un, .un, .un, .un, .un, .un, .un, .un, .int .i64 (i1 : Int), .bx 0 4, .sl (Fld.rows p0.fields), .int .i64 ((List.length p0.fields) : Int), .bool false]
def Qip (_p0 : Val) (_p1 : Val) (_i1 : Nat) : List (Nat × List PV) :=
  []
theorem Qzx (p0 : Val) (p1 : Val) (_H : Q9a p0 p1) (_rec : Q3g p0) (i1 : Nat) (hc1 : (decide ((i1 : Int) < ((List.length p0.fields) : Int))) = false) : Q96 p0 p1 (Q5x p0 p1 i1) (.k0) := by
 exact ⟨(envF (Qmr p0 p1 i1)), (zoF (Qip p0 p1 i1)), Qe VOK.nil (x := ((.exit 2), Qdl p0 p1 (envF (Qmr p0 p1 i1)) (zoF (Qip p0 p1 i1)))) [hP 3 (Qk (Fld.rows p0.fields) (List.length p0.fields) (Fld.Qd p0.fields)), hB 0 hc1] [] (by kernel_rfl)⟩
theorem Qyw (p0 : Val) (p1 : Val) (H : Q9a p0 p1) (rec : Q3g p0) (x1 : Fld) (i1 : Nat) (hx1 : p0.fields[i1]? = some x1) (hi1 : i1 < List.length p0.fields) (hc1 : (decide ((i1 : Int) < ((List.length p0.fields) : Int))) = true) (h0 : (sEq x1.name (List.getD p1.fields i1 zF).name) = true) (h1 : (s_Ky x1.v (List.getD p1.fields i1 zF).v) = true) {r : Rs} (hr : Q7 G (Q5x p0 p1 (i1 + 1)) r) : Q7 G (Q5x p0 p1 i1) r := by
 have hB0 := H.1
 exact Qb VOK.nil (y := (Qqs p0 p1 (i1 + 1), Qr4 p0 p1 (i1 + 1))) [hP 3 (Qk (Fld.rows p0.fields) (List.length p0.fields) (Fld.Qd p0.fields)), hB 0 hc1, hP 3 (Q1o 6 (Fld.rows p0.fields) i1 _ (Fld.Qg hx1) rfl), hP 5 (Q1o 6 (Fld.rows p1.fields) i1 _ (Fld.Qg (Qu p1.fields i1 zF ((H.2.1 i1 x1 hx1)))) rfl), hP 2 (dec (!(sEq x1.name (List.getD p1.fields i1 zF).name)) false (by rw [h0]; rfl)), hP 4 (Q1o 6 (Fld.rows p0.fields) i1 _ (Fld.Qg hx1) rfl), hP 5 (Q1o 6 (Fld.rows p1.fields) i1 _ (Fld.Qg (Qu p1.fields i1 zF ((H.2.1 i1 x1 hx1)))) rfl), hP 6 (Qv i1 (by omega))] [aB (rec x1.v (szF hx1) (List.getD p1.fields i1 zF).v (H.2.2.1 x1 (Qz hx1))) h1] (by kernel_rfl) hr
def Qm5 (p0 : Val) (p1 : Val) (i1 : Nat) (x1 : Fld) : List PV :=
  [.un, .un, .bx 0 0, .bx 1 0, .un, .un, .int .i64 (i1 : Int), .un, .un, .un, .un, .un, .un, .un, .un, .un, .un, .un, .un, .un, .un, .un, .un, .un, .un, .un, .un, .un, .un, .un, .un, .un, .un, .un, .un, .un, .un, .un, .un, .un, .un, .un, .un, .un, .un, .un, .un, .un, .un, .un, .un, .un, .un, .un, .un, .un, .un, .un, .un, .un, .un, .un, .un, .int .i64 (i1 : Int), .bx 0 4, .sl (Fld.rows p0.fields), .int .i64 ((List.length p0.fields) : Int), .bool true, .un, .un, .bx 0 4, .sl (Fld.rows p0.fields), .int .i64 (i1 : Int), .rf [.str x1.name, .int .i64 x1.v.kind, .int .i64 x1.v.n, .str x1.v.s, .sl (Val.rows x1.v.list), .sl (Fld.rows x1.v.fields)], .rf [.str x1.name, .int .i64 x1.v.kind, .int .i64 x1.v.n, .str x1.v.s, .sl (Val.rows x1.v.list), .sl (Fld.rows x1.v.fields)], .str x1.name, .bx 1 4, .sl (Fld.rows p1.fields), .int .i64 (i1 : Int), .rf [.str (List.getD p1.fields i1 zF).name, .int .i64 (List.getD p1.fields i1 zF).v.kind, .int .i64 (List.getD p1.fields i1 zF).v.n, .str (List.getD p1.fields i1 zF).v.s, .sl (Val.rows (List.getD p1.fields i1 zF).v.list), .sl (Fld.rows (List.getD p1.fields i1 zF).v.fields)], .rf [.str (List.getD p1.fields i1 zF).name, .int .i64 (List.getD p1.fields i1 zF).v.kind, .int .i64 (List.getD p1.fields i1 zF).v.n, .str (List.getD p1.fields i1 zF).v.s, .sl (Val.rows (List.getD p1.fields i1 zF).v.list), .sl (Fld.rows (List.getD p1.fields i1 zF).v.fields)], .str (List.getD p1.fields i1 zF).name, .bool false, .bool false, .bx 0 4, .sl (Fld.rows p0.fields), .int .i64 (i1 : Int), .rf [.str x1.name, .int .i64 x1.v.kind, .int .i64 x1.v.n, .str x1.v.s, .sl (Val.rows x1.v.list), .sl (Fld.rows x1.v.fields)], .rf [.int .i64 x1.v.kind, .int .i64 x1.v.n, .str x1.v.s, .sl (Val.rows x1.v.list), .sl (Fld.rows x1.v.fields)], .agg [.int .i64 x1.v.kind, .int .i64 x1.v.n, .str x1.v.s, .sl (Val.rows x1.v.list), .sl (Fld.rows x1.v.fields)], .bx 1 4, .sl (Fld.rows p1.fields), .int .i64 (i1 : Int), .rf [.str (List.getD p1.fields i1 zF).name, .int .i64 (List.getD p1.fields i1 zF).v.kind, .int .i64 (List.getD p1.fields i1 zF).v.n, .str (List.getD p1.fields i1 zF).v.s, .sl (Val.rows (List.getD p1.fields i1 zF).v.list), .sl (Fld.rows (List.getD p1.fields i1 zF).v.fields)], .rf [.int .i64 (List.getD p1.fields i1 zF).v.kind, .int .i64 (List.getD p1.fields i1 zF).v.n, .str (List.getD p1.fields i1 zF).v.s, .sl (Val.rows (List.getD p1.fields i1 zF).v.list), .sl (Fld.rows (List.getD p1.fields i1 zF).v.fields)], .agg [.int .i64 (List.getD p1.fields i1 zF).v.kind, .int .i64 (List.getD p1.fields i1 zF).v.n, .str (List.getD p1.fields i1 zF).v.s, .sl (Val.rows (List.getD p1.fields i1 zF).v.list), .sl (Fld.rows (List.getD p1.fields i1 zF).v.fields)], .bool false, .bool true, .bool true]
def Qgl (p0 : Val) (p1 : Val) (_i1 : Nat) (_x1 : Fld) : List (Nat × List PV) :=
  [(0, [.int .i64 p0.kind, .int .i64 p0.n, .str p0.s, .sl (Val.rows p0.list), .sl (Fld.rows p0.fields)]), (1, [.int .i64 p1.kind, .int .i64 p1.n, .str p1.s, .sl (Val.rows p1.list), .sl (Fld.rows p1.fields)])]
theorem Qzj (p0 : Val) (p1 : Val) (H : Q9a p0 p1) (rec : Q3g p0) (x1 : Fld) (i1 : Nat) (hx1 : p0.fields[i1]? = some x1) (_hi1 : i1 < List.length p0.fields) (hc1 : (decide ((i1 : Int) < ((List.length p0.fields) : Int))) = true) (h0 : (sEq x1.name (List.getD p1.fields i1 zF).name) = true) (h1 : (s_Ky x1.v (List.getD p1.fields i1 zF).v) = false) : Q96 p0 p1 (Q5x p0 p1 i1) (.k1) := by
 exact ⟨(envF (Qm5 p0 p1 i1 x1)), (zoF (Qgl p0 p1 i1 x1)), Qe VOK.nil (x := (.ret, Q7k p0 p1 (envF (Qm5 p0 p1 i1 x1)) (zoF (Qgl p0 p1 i1 x1)))) [hP 3 (Qk (Fld.rows p0.fields) (List.length p0.fields) (Fld.Qd p0.fields)), hB 0 hc1, hP 3 (Q1o 6 (Fld.rows p0.fields) i1 _ (Fld.Qg hx1) rfl), hP 5 (Q1o 6 (Fld.rows p1.fields) i1 _ (Fld.Qg (Qu p1.fields i1 zF ((H.2.1 i1 x1 hx1)))) rfl), hP 2 (dec (!(sEq x1.name (List.getD p1.fields i1 zF).name)) false (by rw [h0]; rfl)), hP 4 (Q1o 6 (Fld.rows p0.fields) i1 _ (Fld.Qg hx1) rfl), hP 5 (Q1o 6 (Fld.rows p1.fields) i1 _ (Fld.Qg (Qu p1.fields i1 zF ((H.2.1 i1 x1 hx1)))) rfl)] [aB (rec x1.v (szF hx1) (List.getD p1.fields i1 zF).v (H.2.2.1 x1 (Qz hx1))) h1] (by kernel_rfl)⟩
def Qme (p0 : Val) (p1 : Val) (i1 : Nat) (x1 : Fld) : List PV :=
  [.un, .un, .bx 0 0, .bx 1 0, .un, .un, .int .i64 (i1 : Int), .un, .un, .un, .un, .un, .un, .un, .un, .un, .un, .un, .un, .un, .un, .un, .un, .un, .un, .un, .un, .un, .un, .un, .un, .un, .un, .un, .un, .un, .un, .un, .un, .un, .un, .un, .un, .un, .un, .un, .un, .un, .un, .un, .un, .un, .un, .un, .un, .un, .un, .un, .un, .un, .un, .un, .un, .int .i64 (i1 : Int), .bx 0 4, .sl (Fld.rows p0.fields), .int .i64 ((List.length p0.fields) : Int), .bool true, .un, .un, .bx 0 4, .sl (Fld.rows p0.fields), .int .i64 (i1 : Int), .rf [.str x1.name, .int .i64 x1.v.kind, .int .i64 x1.v.n, .str x1.v.s, .sl (Val.rows x1.v.list), .sl (Fld.rows x1.v.fields)], .rf [.str x1.name, .int .i64 x1.v.kind, .int .i64 x1.v.n, .str x1.v.s, .sl (Val.rows x1.v.list), .sl (Fld.rows x1.v.fields)], .str x1.name, .bx 1 4, .sl (Fld.rows p1.fields), .int .i64 (i1 : Int), .rf [.str (List.getD p1.fields i1 zF).name, .int .i64 (List.getD p1.fields i1 zF).v.kind, .int .i64 (List.getD p1.fields i1 zF).v.n, .str (List.getD p1.fields i1 zF).v.s, .sl (Val.rows (List.getD p1.fields i1 zF).v.list), .sl (Fld.rows (List.getD p1.fields i1 zF).v.fields)], .rf [.str (List.getD p1.fields i1 zF).name, .int .i64 (List.getD p1.fields i1 zF).v.kind, .int .i64 (List.getD p1.fields i1 zF).v.n, .str (List.getD p1.fields i1 zF).v.s, .sl (Val.rows (List.getD p1.fields i1 zF).v.list), .sl (Fld.rows (List.getD p1.fields i1 zF).v.fields)], .str (List.getD p1.fields i1 zF).name, .bool true, .bool true, .tup [], .tup [], .tup [], .tup [], .tup [], .tup [], .tup [], .tup [], .tup [], .tup [], .tup [], .tup [], .tup [], .tup [], .bool true]
def Qg2 (p0 : Val) (p1 : Val) (_i1 : Nat) (_x1 : Fld) : List (Nat × List PV) :=
  [(0, [.int .i64 p0.kind, .int .i64 p0.n, .str p0.s, .sl (Val.rows p0.list), .sl (Fld.rows p0.fields)]), (1, [.int .i64 p1.kind, .int .i64 p1.n, .str p1.s, .sl (Val.rows p1.list), .sl (Fld.rows p1.fields)])]
theorem Qwm (p0 : Val) (p1 : Val) (H : Q9a p0 p1) (_rec : Q3g p0) (x1 : Fld) (i1 : Nat) (hx1 : p0.fields[i1]? = some x1) (_hi1 : i1 < List.length p0.fields) (hc1 : (decide ((i1 : Int) < ((List.length p0.fields) : Int))) = true) (h0 : (sEq x1.name (List.getD p1.fields i1 zF).name) = false) : Q96 p0 p1 (Q5x p0 p1 i1) (.k1) := by
 exact ⟨(envF (Qme p0 p1 i1 x1)), (zoF (Qg2 p0 p1 i1 x1)), Qe VOK.nil (x := (.ret, Q7k p0 p1 (envF (Qme p0 p1 i1 x1)) (zoF (Qg2 p0 p1 i1 x1)))) [hP 3 (Qk (Fld.rows p0.fields) (List.length p0.fields) (Fld.Qd p0.fields)), hB 0 hc1, hP 3 (Q1o 6 (Fld.rows p0.fields) i1 _ (Fld.Qg hx1) rfl), hP 5 (Q1o 6 (Fld.rows p1.fields) i1 _ (Fld.Qg (Qu p1.fields i1 zF ((H.2.1 i1 x1 hx1)))) rfl), hP 2 (dec (!(sEq x1.name (List.getD p1.fields i1 zF).name)) true (by rw [h0]; rfl))] [] (by kernel_rfl)⟩
theorem Qrh (p0 : Val) (p1 : Val) (H : Q9a p0 p1) (rec : Q3g p0) : ∀ (r1 : List Fld) (i1 : Nat), List.drop i1 p0.fields = r1 → Q96 p0 p1 (Q5x p0 p1 i1) (Q4m p0 p1 r1 i1)
 | [], i1, hd => by
  have hc1 : (decide ((i1 : Int) < ((List.length p0.fields) : Int))) = false := by have := Q1p hd; simp; omega
  rw [Q4m]
  exact Qzx p0 p1 H rec i1 hc1
 | x1 :: r1, i1, hd => by
  obtain ⟨hx1, hi1, hd'⟩ := Q1d hd
  have hc1 : (decide ((i1 : Int) < ((List.length p0.fields) : Int))) = true := by simp; omega
  rw [Q4m]
  cases h0 : (sEq x1.name (List.getD p1.fields i1 zF).name) with
  | true =>
   cases h1 : (s_Ky x1.v (List.getD p1.fields i1 zF).v) with
   | true =>
    exact Qp0 p0 p1 (fun r hr => Qyw p0 p1 H rec x1 i1 hx1 hi1 hc1 h0 h1 hr) _ (Qrh p0 p1 H rec r1 (i1 + 1) hd')
   | false =>
    exact Qzj p0 p1 H rec x1 i1 hx1 hi1 hc1 h0 h1
  | false =>
   exact Qwm p0 p1 H rec x1 i1 hx1 hi1 hc1 h0
theorem Q14i (p0 : Val) (p1 : Val) (_H : H_Ky p0) (_rec : Q3g p0) (h0 : (p0.kind == p1.kind) = true) (h1 : (p0.n == p1.n) = true) (h2 : (sEq p0.s p1.s) = true) (h3 : (((List.length p0.list) : Int) == ((List.length p1.list) : Int)) = true) (h4 : (((List.length p0.fields) : Int) == ((List.length p1.fields) : Int)) = true) (z5 : Nat → PV) (zo5 : Nat → List PV) (hl5 : Q7 G (Q6a p0 p1 0) (.st (.exit 0) (Q8y p0 p1 z5 zo5))) (z6 : Nat → PV) (zo6 : Nat → List PV) (hl6 : Q7 G (Q5x p0 p1 0) (.st (.exit 2) (Qdl p0 p1 z6 zo6))) : Q7 G (c_Ky p0 p1) (.ret (.bool (true)) []) := by
 exact Q9 (fn := Ir.Ky) rfl VOK.nil [hP 7 (dec (!(p0.kind == p1.kind)) false (by rw [h0]; rfl)), hP 5 (dec (!(p0.n == p1.n)) false (by rw [h1]; rfl)), hP 6 (dec (!(sEq p0.s p1.s)) false (by rw [h2]; rfl)), hP 4 (Qk (Val.rows p0.list) (List.length p0.list) (Val.Qd p0.list)), hP 2 (Qk (Val.rows p1.list) (List.length p1.list) (Val.Qd p1.list)), hP 0 (dec (!(((List.length p0.list) : Int) == ((List.length p1.list) : Int))) false (by rw [h3]; rfl)), hP 4 (Qk (Fld.rows p0.fields) (List.length p0.fields) (Fld.Qd p0.fields)), hP 2 (Qk (Fld.rows p1.fields) (List.length p1.fields) (Fld.Qd p1.fields)), hP 0 (dec (!(((List.length p0.fields) : Int) == ((List.length p1.fields) : Int))) false (by rw [h4]; rfl))] [aN hl5, aN hl6] (by kernel_rfl)
theorem Q156 (p0 : Val) (p1 : Val) (_H : H_Ky p0) (_rec : Q3g p0) (h0 : (p0.kind == p1.kind) = true) (h1 : (p0.n == p1.n) = true) (h2 : (sEq p0.s p1.s) = true) (h3 : (((List.length p0.list) : Int) == ((List.length p1.list) : Int)) = true) (h4 : (((List.length p0.fields) : Int) == ((List.length p1.fields) : Int)) = true) (z5 : Nat → PV) (zo5 : Nat → List PV) (hl5 : Q7 G (Q6a p0 p1 0) (.st (.exit 0) (Q8y p0 p1 z5 zo5))) (z6 : Nat → PV) (zo6 : Nat → List PV) (hl6 : Q7 G (Q5x p0 p1 0) (.st .ret (Q7k p0 p1 z6 zo6))) : Q7 G (c_Ky p0 p1) (.ret (.bool (false)) []) := by
 exact Q9 (fn := Ir.Ky) rfl VOK.nil [hP 7 (dec (!(p0.kind == p1.kind)) false (by rw [h0]; rfl)), hP 5 (dec (!(p0.n == p1.n)) false (by rw [h1]; rfl)), hP 6 (dec (!(sEq p0.s p1.s)) false (by rw [h2]; rfl)), hP 4 (Qk (Val.rows p0.list) (List.length p0.list) (Val.Qd p0.list)), hP 2 (Qk (Val.rows p1.list) (List.length p1.list) (Val.Qd p1.list)), hP 0 (dec (!(((List.length p0.list) : Int) == ((List.length p1.list) : Int))) false (by rw [h3]; rfl)), hP 4 (Qk (Fld.rows p0.fields) (List.length p0.fields) (Fld.Qd p0.fields)), hP 2 (Qk (Fld.rows p1.fields) (List.length p1.fields) (Fld.Qd p1.fields)), hP 0 (dec (!(((List.length p0.fields) : Int) == ((List.length p1.fields) : Int))) false (by rw [h4]; rfl))] [aN hl5, aN hl6] (by kernel_rfl)
theorem Q15h (p0 : Val) (p1 : Val) (_H : H_Ky p0) (_rec : Q3g p0) (h0 : (p0.kind == p1.kind) = true) (h1 : (p0.n == p1.n) = true) (h2 : (sEq p0.s p1.s) = true) (h3 : (((List.length p0.list) : Int) == ((List.length p1.list) : Int)) = true) (h4 : (((List.length p0.fields) : Int) == ((List.length p1.fields) : Int)) = true) (z5 : Nat → PV) (zo5 : Nat → List PV) (hl5 : Q7 G (Q6a p0 p1 0) (.st .ret (Qeu p0 p1 z5 zo5))) : Q7 G (c_Ky p0 p1) (.ret (.bool (false)) []) := by
 exact Q9 (fn := Ir.Ky) rfl VOK.nil [hP 7 (dec (!(p0.kind == p1.kind)) false (by rw [h0]; rfl)), hP 5 (dec (!(p0.n == p1.n)) false (by rw [h1]; rfl)), hP 6 (dec (!(sEq p0.s p1.s)) false (by rw [h2]; rfl)), hP 4 (Qk (Val.rows p0.list) (List.length p0.list) (Val.Qd p0.list)), hP 2 (Qk (Val.rows p1.list) (List.length p1.list) (Val.Qd p1.list)), hP 0 (dec (!(((List.length p0.list) : Int) == ((List.length p1.list) : Int))) false (by rw [h3]; rfl)), hP 4 (Qk (Fld.rows p0.fields) (List.length p0.fields) (Fld.Qd p0.fields)), hP 2 (Qk (Fld.rows p1.fields) (List.length p1.fields) (Fld.Qd p1.fields)), hP 0 (dec (!(((List.length p0.fields) : Int) == ((List.length p1.fields) : Int))) false (by rw [h4]; rfl))] [aN hl5] (by kernel_rfl)
theorem Q14o (p0 : Val) (p1 : Val) (_H : H_Ky p0) (_rec : Q3g p0) (h0 : (p0.kind == p1.kind) = true) (h1 : (p0.n == p1.n) = true) (h2 : (sEq p0.s p1.s) = true) (h3 : (((List.length p0.list) : Int) == ((List.length p1.list) : Int)) = true) (h4 : (((List.length p0.fields) : Int) == ((List.length p1.fields) : Int)) = false) : Q7 G (c_Ky p0 p1) (.ret (.bool (false)) []) := by
 exact Q9 (fn := Ir.Ky) rfl VOK.nil [hP 7 (dec (!(p0.kind == p1.kind)) false (by rw [h0]; rfl)), hP 5 (dec (!(p0.n == p1.n)) false (by rw [h1]; rfl)), hP 6 (dec (!(sEq p0.s p1.s)) false (by rw [h2]; rfl)), hP 4 (Qk (Val.rows p0.list) (List.length p0.list) (Val.Qd p0.list)), hP 2 (Qk (Val.rows p1.list) (List.length p1.list) (Val.Qd p1.list)), hP 0 (dec (!(((List.length p0.list) : Int) == ((List.length p1.list) : Int))) false (by rw [h3]; rfl)), hP 4 (Qk (Fld.rows p0.fields) (List.length p0.fields) (Fld.Qd p0.fields)), hP 2 (Qk (Fld.rows p1.fields) (List.length p1.fields) (Fld.Qd p1.fields)), hP 0 (dec (!(((List.length p0.fields) : Int) == ((List.length p1.fields) : Int))) true (by rw [h4]; rfl))] [] (by kernel_rfl)
theorem Q157 (p0 : Val) (p1 : Val) (_H : H_Ky p0) (_rec : Q3g p0) (h0 : (p0.kind == p1.kind) = true) (h1 : (p0.n == p1.n) = true) (h2 : (sEq p0.s p1.s) = true) (h3 : (((List.length p0.list) : Int) == ((List.length p1.list) : Int)) = false) : Q7 G (c_Ky p0 p1) (.ret (.bool (false)) []) := by
 exact Q9 (fn := Ir.Ky) rfl VOK.nil [hP 7 (dec (!(p0.kind == p1.kind)) false (by rw [h0]; rfl)), hP 5 (dec (!(p0.n == p1.n)) false (by rw [h1]; rfl)), hP 6 (dec (!(sEq p0.s p1.s)) false (by rw [h2]; rfl)), hP 4 (Qk (Val.rows p0.list) (List.length p0.list) (Val.Qd p0.list)), hP 2 (Qk (Val.rows p1.list) (List.length p1.list) (Val.Qd p1.list)), hP 0 (dec (!(((List.length p0.list) : Int) == ((List.length p1.list) : Int))) true (by rw [h3]; rfl))] [] (by kernel_rfl)
theorem Q13r (p0 : Val) (p1 : Val) (_H : H_Ky p0) (_rec : Q3g p0) (h0 : (p0.kind == p1.kind) = true) (h1 : (p0.n == p1.n) = true) (h2 : (sEq p0.s p1.s) = false) : Q7 G (c_Ky p0 p1) (.ret (.bool (false)) []) := by
 exact Q9 (fn := Ir.Ky) rfl VOK.nil [hP 7 (dec (!(p0.kind == p1.kind)) false (by rw [h0]; rfl)), hP 5 (dec (!(p0.n == p1.n)) false (by rw [h1]; rfl)), hP 6 (dec (!(sEq p0.s p1.s)) true (by rw [h2]; rfl))] [] (by kernel_rfl)
theorem Q14d (p0 : Val) (p1 : Val) (_H : H_Ky p0) (_rec : Q3g p0) (h0 : (p0.kind == p1.kind) = true) (h1 : (p0.n == p1.n) = false) : Q7 G (c_Ky p0 p1) (.ret (.bool (false)) []) := by
 exact Q9 (fn := Ir.Ky) rfl VOK.nil [hP 7 (dec (!(p0.kind == p1.kind)) false (by rw [h0]; rfl)), hP 5 (dec (!(p0.n == p1.n)) true (by rw [h1]; rfl))] [] (by kernel_rfl)
theorem Q14a (p0 : Val) (p1 : Val) (_H : H_Ky p0) (_rec : Q3g p0) (h0 : (p0.kind == p1.kind) = false) : Q7 G (c_Ky p0 p1) (.ret (.bool (false)) []) := by
 exact Q9 (fn := Ir.Ky) rfl VOK.nil [hP 7 (dec (!(p0.kind == p1.kind)) true (by rw [h0]; rfl))] [] (by kernel_rfl)
theorem r_Ky (p0 : Val) (p1 : Val) (H : H_Ky p0) (rec : Q3g p0) : Q7 G (c_Ky p0 p1) (a_Ky p0 p1) := by
  unfold a_Ky
  rw [s_Ky]
  cases h0 : (p0.kind == p1.kind) with
  | true =>
   cases h1 : (p0.n == p1.n) with
   | true =>
    cases h2 : (sEq p0.s p1.s) with
    | true =>
     cases h3 : (((List.length p0.list) : Int) == ((List.length p1.list) : Int)) with
     | true =>
      cases h4 : (((List.length p0.fields) : Int) == ((List.length p1.fields) : Int)) with
      | true =>
       have hl5 := Qrk p0 p1 ((Qww p0 p1 H).1 h3 h4) rec p0.list 0 (by simp)
       cases hr5 : (Q4v p0 p1 p0.list 0) with
       | k0 =>
         rw [hr5] at hl5
         obtain ⟨z5, zo5, hl5⟩ := hl5
         try dsimp only
         have hl6 := Qrh p0 p1 ((Qww p0 p1 H).2.1 h3 h4) rec p0.fields 0 (by simp)
         cases hr6 : (Q4m p0 p1 p0.fields 0) with
         | k0 =>
           rw [hr6] at hl6
           obtain ⟨z6, zo6, hl6⟩ := hl6
           exact Q14i p0 p1 H rec h0 h1 h2 h3 h4 z5 zo5 hl5 z6 zo6 hl6
         | k1 =>
           rw [hr6] at hl6
           obtain ⟨z6, zo6, hl6⟩ := hl6
           exact Q156 p0 p1 H rec h0 h1 h2 h3 h4 z5 zo5 hl5 z6 zo6 hl6
       | k1 =>
         rw [hr5] at hl5
         obtain ⟨z5, zo5, hl5⟩ := hl5
         exact Q15h p0 p1 H rec h0 h1 h2 h3 h4 z5 zo5 hl5
      | false =>
       exact Q14o p0 p1 H rec h0 h1 h2 h3 h4
     | false =>
      exact Q157 p0 p1 H rec h0 h1 h2 h3
    | false =>
     exact Q13r p0 p1 H rec h0 h1 h2
   | false =>
    exact Q14d p0 p1 H rec h0 h1
  | false =>
   exact Q14a p0 p1 H rec h0
theorem i_Ky : ∀ (k : Nat) (p0 : Val), SizeOf.sizeOf p0 < k → ∀ (p1 : Val), H_Ky p0 → Q7 G (c_Ky p0 p1) (a_Ky p0 p1)
  | 0, _, h, _, _ => absurd h (Nat.not_lt_zero _)
  | k + 1, p0, h, p1, H => r_Ky p0 p1 H (fun q hq p1 hH => i_Ky k q (by omega) p1 hH)
theorem t_Ky (p0 : Val) (p1 : Val) (H : H_Ky p0) : Q7 G (c_Ky p0 p1) (a_Ky p0 p1) := i_Ky _ p0 (Nat.lt_succ_self _) p1 H
end Go.Proofs.Ytnhhddbbppbblaa
end

section
/- Parts of a slice of one's own, and appends of them. -/
namespace Go.Pv
def slmE (id sz n : Nat) (lo hi : Option Int) : Option Eff := (opP (fun _ => .un) (.slice sz (.c (.ms id sz 0 n)) (optI lo) (optI hi) none)).bind fun v => some ⟨v, [], []⟩
theorem Qzz (id sz n : Nat) (k : Int) (h0 : 0 ≤ k) (h1 : k ≤ (n : Int)) : slmE id sz n none (some k) = some (vE (.ms id sz 0 k.toNat)) := by
  unfold slmE
  simp only [opP, optI, Opd.ev, Q3f, asNat, Option.bind_some]
  have e0 : decide (0 ≤ k) = true := by simpa using h0
  rw [e0]
  simp only [cond_true, Option.bind_some]
  have e1 : (Nat.beq sz sz && Nat.ble 0 k.toNat && Nat.ble k.toNat n) = true := by
    rw [Nat.ble_eq_true_of_le (Nat.zero_le _), Nat.ble_eq_true_of_le (show k.toNat ≤ n by omega), Nat.beq_refl]
    rfl
  rw [e1]
  simp [vE]
theorem Q10t (id sz n : Nat) (k : Int) (h0 : 0 ≤ k) (h1 : k ≤ (n : Int)) : slmE id sz n (some k) none = some (vE (.ms id sz k.toNat (n - k.toNat))) := by
  unfold slmE
  simp only [opP, optI, Opd.ev, Q3f, asNat, Option.bind_some]
  have e0 : decide (0 ≤ k) = true := by simpa using h0
  rw [e0]
  simp only [cond_true, Option.bind_some]
  have e1 : (Nat.beq sz sz && Nat.ble k.toNat n && Nat.ble n n) = true := by
    rw [Nat.ble_eq_true_of_le (show k.toNat ≤ n by omega), Nat.ble_eq_true_of_le (Nat.le_refl n), Nat.beq_refl]
    rfl
  rw [e1]
  simp [vE]
end Go.Pv
end

section
/- Slices that are made with a length: their rows. -/
namespace Go.Pv
end Go.Pv
end

section
/- Rows of one's own: cleared behind a place, appended to from a place on. -/
namespace Go.Pv
theorem Qbs {sz : Nat} : ∀ (rows : List (List PV)) (k : Nat), (∀ r ∈ rows, r.length = sz) → rows.flatten.take (k * sz) = (rows.take k).flatten
  | [], k, _ => by simp
  | r :: rs, 0, _ => by simp
  | r :: rs, k + 1, h => by
    have hr := h r List.mem_cons_self
    rw [List.flatten_cons, List.take_succ_cons, List.flatten_cons, ← Qbs rs k (fun q hq => h q (List.mem_cons_of_mem _ hq)), show (k + 1) * sz = r.length + k * sz by rw [hr, Nat.add_mul]; omega, List.take_length_add_append]
theorem Qrn (z : List PV) : ∀ n : Nat, rep z n = (List.replicate n z).flatten
  | 0 => rfl
  | n + 1 => by rw [rep, Qrn z n, List.replicate_succ, List.flatten_cons]
def clrE (id sz : Nat) (gr : Bool) (cells z : List PV) (K n : Nat) : Option Eff := Q7a (look [(id, ⟨sz, 0, gr, cells⟩)]) sz z (.ms id sz K n)
theorem Q151 (id sz : Nat) (gr : Bool) (rows rows' : List (List PV)) (K n : Nat) (z : List PV) (hs : ∀ r ∈ rows, r.length = sz) (hl : K + n = rows.length) (hn : 0 < n) (hr : rows' = rows.take K) (hz : z.length = sz := by rfl) :
    clrE id sz gr rows.flatten z K n = some ⟨.tup [], [(id, some ⟨sz, 0, gr, rows'.flatten⟩)], [id]⟩ := by
  subst hr
  obtain ⟨k, rfl⟩ : ∃ k, n = k + 1 := ⟨n - 1, by omega⟩
  have h1 : (rep z (k + 1)).length = (k + 1) * sz := by
    rw [Qrn, Q38 sz _ (fun r hr => by rw [(List.mem_replicate.1 hr).2]; exact hz), List.length_replicate]
  have h2 : rows.flatten.length = rows.length * sz := Q38 sz rows hs
  have h3 : K * sz + (k + 1) * sz = rows.flatten.length := by rw [h2, ← hl, ← Nat.add_mul]
  unfold clrE Q7a clC
  simp only [look, Nat.beq_refl, cond_true, Option.bind_some, hz]
  rw [Nat.ble_eq_true_of_le (Nat.zero_le _), Nat.ble_eq_true_of_le (show (K + (k + 1)) * sz ≤ rows.flatten.length by rw [Nat.add_mul]; omega), h1, h3, Nat.beq_refl, Qbs rows K hs]
  rfl
theorem Q10r {sz : Nat} {gr : Bool} {rows : List (List PV)} {n : Nat} (hs : ∀ r ∈ rows, r.length = sz) (h : n ≤ rows.length) : apC ⟨sz, 0, gr, rows.flatten⟩ (n * sz) = some (rows.take n).flatten := by
  have h2 : rows.flatten.length = rows.length * sz := Q38 sz rows hs
  have h3 := Qbs rows n hs
  unfold apC
  cases e : Nat.beq rows.flatten.length (n * sz) with
  | true =>
    have e := Nat.eq_of_beq_eq_true e
    rw [cond_true, ← h3, ← e, List.take_length]
  | false =>
    have : n * sz ≤ rows.length * sz := Nat.mul_le_mul_right _ h
    rw [cond_false, Nat.ble_eq_true_of_le (by show n * sz ≤ rows.flatten.length; omega), Nat.ble_eq_true_of_le (Nat.zero_le _), h3]
    rfl
def aptE (id lid fr sz bytes lro : Nat) (lgr : Bool) (rows : List (List PV)) (r : List PV) (n : Nat) : Option Eff :=
  Q3o (look [(id, ⟨sz, 0, true, rows.flatten⟩), (lid, ⟨sz, lro, lgr, r⟩)]) fr sz bytes (.ms id sz 0 n) (.ms lid sz 0 1)
theorem Q158 (id lid fr sz bytes lro : Nat) (lgr : Bool) (rows rows' : List (List PV)) (r : List PV) (n n' : Nat) (hne : Nat.beq id lid = false) (hle : n ≤ rows.length) (hn' : n' = rows'.length) (hr' : rows' = rows.take n ++ [r])
    (hs : ∀ r ∈ rows, r.length = sz) (hr : r.length = sz) (hb : (n + 1) * bytes ≤ 140737488355328) :
    aptE id lid fr sz bytes lro lgr rows r n = some ⟨.ms fr sz 0 n', [(id, none), (fr, some ⟨sz, 0, true, rows'.flatten⟩)], [id, lid]⟩ := by
  subst hn' hr'
  unfold aptE Q3o
  have h1 : look [(id, (⟨sz, 0, true, rows.flatten⟩ : Ob)), (lid, ⟨sz, lro, lgr, r⟩)] lid = some ⟨sz, lro, lgr, r⟩ := by simp [look, hne]
  have h2 : look [(id, (⟨sz, 0, true, rows.flatten⟩ : Ob)), (lid, ⟨sz, lro, lgr, r⟩)] id = some ⟨sz, 0, true, rows.flatten⟩ := by simp [look]
  have hsrc : source (look [(id, (⟨sz, 0, true, rows.flatten⟩ : Ob)), (lid, ⟨sz, lro, lgr, r⟩)]) sz (.ms lid sz 0 1) = some (1, r, [lid]) := by
    simp only [source, h1, Option.bind_some]
    subst hr
    have : Nat.ble r.length r.length = true := Nat.ble_eq_true_of_le (Nat.le_refl _)
    simp [this]
  rw [hsrc, Option.bind_some]
  simp only [h2, Option.bind_some]
  have hc : (true && Nat.beq sz sz && Nat.beq sz sz && Nat.beq 0 0 && Nat.ble ((n + 1) * bytes) 140737488355328) = true := by
    simp only [Nat.beq_refl, Bool.and_true, Bool.true_and]
    exact Nat.ble_eq_true_of_le hb
  rw [hc, Q10r hs hle]
  have hl : (rows.take n ++ [r]).length = n + 1 := by
    rw [List.length_append, List.length_take]
    simp
    omega
  rw [hl]
  simp
theorem Val.Q4e (l : List Val) (k : Nat) (x : Val) : Val.rows (l.set k x) = (Val.rows l).set k (Val.cells x) := by simp [Val.Q2j, List.map_set]
theorem Fld.Q4e (l : List Fld) (k : Nat) (x : Fld) : Fld.rows (l.set k x) = (Fld.rows l).set k (Fld.cells x) := by simp [Fld.Q2j, List.map_set]
theorem Qyq {l : List (List PV)} {k : Nat} {r : List PV} (h : l[k]? = some r) : l = l.set k r := by
  apply List.ext_getElem?
  intro i
  rw [List.getElem?_set]
  by_cases e : k = i
  · subst e
    rw [if_pos rfl, h, if_pos (List.getElem?_eq_some_iff.1 h).1]
  · rw [if_neg e]
end Go.Pv
end

