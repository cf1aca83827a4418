/- Texts of the claim, merged by a program; what the statement does not reach is left out. -/
import Derived.Test.YtnhhddbbppbblaaBPatchMerges2
import Derived.KernelRfl
import Derived.OpenShut
import Derived.ChangeArms
import Derived.ChangeSlices
import Derived.ChangeOld
import Derived.Carry
import GoSem.ClaimJoined

section
/-
  Runs along a trace, over views: operations, regions, code, calls, loops' rounds.
-/
namespace Go.Pv
def Seen (o : Option Ob) (rows : List (List PV)) : Prop := ∃ ob, o = some ob ∧ ViewOK ob.sz ob.cells rows
theorem Q3j {ob : Ob} {rows : List (List PV)} (h : ViewOK ob.sz ob.cells rows) : Seen (some ob) rows := ⟨ob, rfl, h⟩
def putV (vw : Views) (cut : List Nat) (new : Views) : Views := new ++ vw.filter fun x => !(has cut x.1)
theorem Qpl {vw : Views} {cut : List Nat} {id : Nat} {rows : List (List PV)} (h : look (vw.filter fun x => !(has cut x.1)) id = some rows) : look vw id = some rows ∧ has cut id = false := by
  induction vw with
  | nil => cases h
  | cons x r ih =>
    obtain ⟨k, rs⟩ := x
    simp only [List.filter_cons] at h
    cases hc : has cut k with
    | true =>
      rw [hc] at h
      simp only [Bool.not_true, Bool.false_eq_true, if_false] at h
      obtain ⟨h1, h2⟩ := ih h
      refine ⟨?_, h2⟩
      simp only [look]
      cases c : Nat.beq k id with
      | true =>
        have := Nat.eq_of_beq_eq_true c
        subst this
        rw [hc] at h2
        cases h2
      | false => exact h1
    | false =>
      rw [hc] at h
      simp only [Bool.not_false, if_true, look] at h ⊢
      cases c : Nat.beq k id with
      | true =>
        rw [c] at h
        have := Nat.eq_of_beq_eq_true c
        subst this
        exact ⟨h, hc⟩
      | false =>
        rw [c] at h
        exact ih h
theorem Qlq {l : List Nat} {id : Nat} (h : has l id = false) : id ∉ l := by
  induction l with
  | nil => exact List.not_mem_nil
  | cons k r ih =>
    simp only [has] at h
    cases c : Nat.beq k id with
    | true => rw [c] at h; cases h
    | false =>
      rw [c] at h
      simp only [cond_false] at h
      intro hm
      rcases List.mem_cons.1 hm with rfl | hm
      · simp at c
      · exact ih h hm
theorem Qbk {vw new : Views} {cut : List Nat} {id : Nat} {rows : List (List PV)} (h : look (putV vw cut new) id = some rows) : look new id = some rows ∨ (look vw id = some rows ∧ id ∉ cut) := by
  unfold putV at h
  rw [Qkn] at h
  cases hn : look new id with
  | some r => rw [hn] at h; exact .inl h
  | none =>
    rw [hn] at h
    obtain ⟨h1, h2⟩ := Qpl h
    exact .inr ⟨h1, Qlq h2⟩
theorem Qpu {α : Type} {l : List (Nat × α)} {id : Nat} {x : α} (h : look l id = some x) : (id, x) ∈ l := by
  induction l with
  | nil => cases h
  | cons y r ih =>
    obtain ⟨k, z⟩ := y
    simp only [look] at h
    cases c : Nat.beq k id with
    | true =>
      rw [c] at h
      have := Nat.eq_of_beq_eq_true c
      subst this
      simp only [cond_true, Option.some.injEq] at h
      subst h
      exact List.mem_cons_self
    | false =>
      rw [c] at h
      exact List.mem_cons_of_mem _ (ih h)
def Turned (H : Nat → Option Ob) (vw : Views) (e : EV) : Prop := VOK (upH H e.eff.hw) (putV vw e.cut e.new)
theorem Qs5 {ws : List (Nat × Option Ob)} {H : Nat → Option Ob} {id : Nat} {o : Option Ob} (hn : (ws.map (·.1)).Nodup) (h : (id, o) ∈ ws) : upH H ws id = o := by
  induction ws generalizing H with
  | nil => cases h
  | cons x r ih =>
    obtain ⟨k, z⟩ := x
    simp only [List.map_cons, List.nodup_cons] at hn
    rw [upH]
    rcases List.mem_cons.1 h with e | h
    · injection e with e1 e2
      subst e1 e2
      rw [Q4b (fun y hy e => hn.1 (by rw [← e]; exact List.mem_map_of_mem hy))]
      simp
    · exact ih hn.2 h
def nodupB : List Nat → Bool
  | [] => true
  | k :: r => !(has r k) && nodupB r
theorem Qo3 : ∀ {l : List Nat}, nodupB l = true → l.Nodup
  | [], _ => List.nodup_nil
  | k :: r, h => by
    simp only [nodupB, Bool.and_eq_true, Bool.not_eq_true'] at h
    exact List.nodup_cons.2 ⟨Qlq h.1, Qo3 h.2⟩
theorem Qm0 {H : Nat → Option Ob} : ∀ (l : List Nat) (cl : List (Nat × Option Ob)), shut H l = some cl → ∀ id o, (id, o) ∈ cl → ∃ ob ob', H id = some ob ∧ o = some ob' ∧ ob'.sz = ob.sz ∧ ob'.cells = ob.cells
  | [], cl, h, id, o, hm => by
    simp only [shut, Option.some.injEq] at h
    subst h
    cases hm
  | k :: r, cl, h, id, o, hm => by
    simp only [shut] at h
    obtain ⟨ob, hob, h⟩ := Qh h
    obtain ⟨m, hm', h⟩ := Qh h
    simp only [Option.some.injEq] at h
    subst h
    rcases List.mem_cons.1 hm with e | hm
    · injection e with e1 e2
      subst e1 e2
      exact ⟨ob, _, hob, rfl, rfl, rfl⟩
    · exact Qm0 r m hm' id o hm
def Qxs (H : Nat → Option Ob) (vw : Views) (fr : Nat) (byRef : Bool) (f : Nat) (args : List PV) (az : List Ans) : Option EV :=
  (Q122 H vw fr byRef f args az).bind fun e => bif nodupB (e.eff.hw.map (·.1)) then some e else none
theorem Qn6 {G : Nat → Option Fun} {H : Nat → Option Ob} {vw : Views} (hv : VOK H vw) {fr : Nat} {byRef : Bool} {f : Nat} {args : List PV} {az : List Ans} {e : EV} (h : Qxs H vw fr byRef f args az = some e) (hm : Met e.owed) (hq : Told G e.asked) : Qah (lim G) H fr byRef f args = some e.eff ∧ Turned H vw e := by
  unfold Qxs at h
  obtain ⟨e', h0, h'⟩ := Qh h
  clear h
  cases hnd : nodupB (e'.eff.hw.map (·.1)) with
  | false => rw [hnd] at h'; cases h'
  | true =>
  rw [hnd] at h'
  simp only [cond_true, Option.some.injEq] at h'
  subst h'
  have hnd := Qo3 hnd
  unfold Q122 at h0
  unfold Qah
  obtain ⟨y, hy, h⟩ := Qh h0
  clear h0
  obtain ⟨z, hz, h⟩ := Qh h
  simp only at h
  cases hd : disj (y.1.2.2 ++ z.1.2.2) z.1.2.1 with
  | false => rw [hd] at h; cases h
  | true =>
    rw [hd] at h
    simp only [cond_true] at h
    cases az with
    | nil => cases h
    | cons a az' =>
      obtain ⟨r, avw⟩ := a
      cases r with
      | st _ _ => cases h
      | ret v hh =>
        simp only at h
        cases hb : (Nat.ble z.1.2.1.length hh.length && Nat.ble (hh.length - z.1.2.1.length) 64) with
        | false => rw [hb] at h; cases h
        | true =>
          rw [hb] at h
          simp only [cond_true] at h
          obtain ⟨v', hv', h⟩ := Qh h
          obtain ⟨ws, hws, h⟩ := Qh h
          have key : ∀ (hy' : Met y.2) (hz' : Met z.2) (hw' : Met ws.2.1) (ht : Q7 G (.call f y.1.1 z.1.1) (.ret v hh)) (E : Eff),
              (bif flat 8 v && hh.all (fun ob => ob.cells.all (flat 8)) then some ⟨v', ws.1, z.1.2.1 ++ (y.1.2.2 ++ z.1.2.2)⟩ else (shut H (y.1.2.2 ++ z.1.2.2)).bind fun cl => some ⟨v', ws.1 ++ cl, z.1.2.1 ++ (y.1.2.2 ++ z.1.2.2)⟩) = some E →
              ((Q38 (pass H byRef 8) args []).bind fun y => (Q1t H false false 16 0 y.2.1).bind fun z =>
                let ids := z.2.1
                let lent := y.2.2 ++ z.2.2
                bif disj lent ids then
                  (lim G (.call f y.1 z.1)).bind fun r =>
                    match r with
                    | .ret v h =>
                      bif Nat.ble ids.length h.length && Nat.ble (h.length - ids.length) 64 then
                        (back (ren ids fr) 8 v).bind fun v' => (Q5f (ren ids fr) 0 h).bind fun ws =>
                          bif flat 8 v && h.all (fun ob => ob.cells.all (flat 8)) then some ⟨v', ws, ids ++ lent⟩
                          else (shut H lent).bind fun cl => some ⟨v', ws ++ cl, ids ++ lent⟩
                      else none
                    | _ => none
                else none) = some E := by
            intro hy' hz' hw' ht E hE
            rw [Q29 (Q45 hv 8) _ _ y hy hy', Option.bind_some, Q33 hv 16 _ _ z hz hz', Option.bind_some]
            simp only
            rw [hd]
            simp only [cond_true]
            rw [Q11z ht, Option.bind_some]
            simp only
            rw [hb]
            simp only [cond_true]
            rw [hv', Option.bind_some, Q4p hh 0 ws hws hw', Option.bind_some]
            exact hE
          have turn : ∀ (cl : List (Nat × Option Ob)) (hcl : ∀ id o, (id, o) ∈ cl → ∃ ob ob', H id = some ob ∧ o = some ob' ∧ ob'.sz = ob.sz ∧ ob'.cells = ob.cells) (hn : ((ws.1 ++ cl).map (·.1)).Nodup) (hw' : Met ws.2.1) , VOK (upH H (ws.1 ++ cl)) (putV vw (ws.1.map (·.1)) ws.2.2) := by
            intro cl hcl hn hw' id rows hl
            rcases Qbk hl with hl | ⟨hl, hc⟩
            · obtain ⟨ob, hob, hok⟩ := Q4o hh 0 ws hws hw' id rows (Qpu hl)
              exact ⟨ob, Qs5 hn (List.mem_append_left _ hob), hok⟩
            · obtain ⟨ob, hob, hok⟩ := hv id rows hl
              by_cases hx : ∃ o, (id, o) ∈ cl
              · obtain ⟨o, ho⟩ := hx
                obtain ⟨ob1, ob', h1, rfl, h2, h3⟩ := hcl id o ho
                rw [hob] at h1
                injection h1 with h1
                subst h1
                refine ⟨ob', Qs5 hn (List.mem_append_right _ ho), ?_⟩
                rw [h2, h3]
                exact hok
              · refine ⟨ob, ?_, hok⟩
                rw [Q4b (fun y hy e => ?_)]
                · exact hob
                · rcases List.mem_append.1 hy with hy | hy
                  · exact hc (by rw [← e]; exact List.mem_map_of_mem hy)
                  · exact hx ⟨y.2, by rw [← e]; exact hy⟩
          cases hlent : y.1.2.2 ++ z.1.2.2 with
          | nil =>
            rw [hlent] at h
            simp only [Option.some.injEq] at h
            subst h
            simp only at hm hq hnd
            refine ⟨key hm.left hm.right.left hm.right.right (hq _ List.mem_cons_self) _ ?_, ?_⟩
            · rw [hlent]
              cases (flat 8 v && hh.all (fun ob => ob.cells.all (flat 8))) <;> simp [shut]
            · have := turn [] (fun _ _ h => by cases h) (by simpa using hnd) hm.right.right
              rw [List.append_nil] at this
              exact this
          | cons l0 lr =>
            rw [hlent] at h
            simp only at h
            cases hf : (flat 8 v && hh.all (fun ob => ob.cells.all (flat 8))) with
            | true =>
              rw [hf] at h
              simp only [cond_true, Option.some.injEq] at h
              subst h
              simp only at hm hq hnd
              refine ⟨key hm.left hm.right.left hm.right.right (hq _ List.mem_cons_self) _ ?_, ?_⟩
              · rw [hlent, hf]
                rfl
              · have := turn [] (fun _ _ h => by cases h) (by simpa using hnd) hm.right.right
                rw [List.append_nil] at this
                exact this
            | false =>
              rw [hf] at h
              simp only [cond_false] at h
              obtain ⟨cl, hcl, h⟩ := Qh h
              simp only [Option.some.injEq] at h
              subst h
              simp only at hm hq hnd
              refine ⟨key hm.left hm.right.left hm.right.right (hq _ List.mem_cons_self) _ ?_, ?_⟩
              · rw [hlent, hf]
                simp only [cond_false]
                rw [hcl, Option.bind_some]
              · exact turn cl (Qm0 _ _ hcl) hnd hm.right.right
def mute : Orc := fun _ => none
theorem Qsm {X : Orc} {e : Nat → PV} {H : Nat → Option Ob} {fr : Nat} {o : IOp} {x : Eff} (h : iop mute e H fr o = some x) : iop X e H fr o = some x := by
  cases o with
  | call b f xs =>
    simp only [iop] at h
    obtain ⟨t, _, h⟩ := Qh h
    unfold Qah at h
    obtain ⟨y, _, h⟩ := Qh h
    obtain ⟨z, _, h⟩ := Qh h
    simp only at h
    cases hd : disj (y.2.2 ++ z.2.2) z.2.1 with
    | false => rw [hd] at h; cases h
    | true =>
      rw [hd] at h
      simp only [cond_true] at h
      obtain ⟨_, h, _⟩ := Qh h
      cases h
  | _ => exact h
theorem Qtr {X : Orc} {e : Nat → PV} {H : Nat → Option Ob} {fr : Nat} {o : IOper} {x : Eff} (h : Q4u mute e H fr o = some x) : Q4u X e H fr o = some x := by
  unfold Q4u at h ⊢
  obtain ⟨w, hw, h⟩ := Qh h
  rw [hw, Option.bind_some]
  cases w with
  | true => exact Qsm h
  | false => exact h
def iopV (e : Nat → PV) (H : Nat → Option Ob) (vw : Views) (fr : Nat) (az : List Ans) : IOp → Option EV
  | .call byRef f args => (target (f.ev e) (evs e args)).bind fun t => Qxs H vw fr byRef t.1 t.2 az
  | o => (iop mute e H fr o).bind fun x => some ⟨x, x.hw.map (·.1), [], az, [], []⟩
def Qs6 (e : Nat → PV) (H : Nat → Option Ob) (vw : Views) (fr : Nat) (az : List Ans) (o : IOper) : Option EV :=
  (o.wanted e).bind fun w => bif w then iopV e H vw fr az o.op else some ⟨⟨.tup [], [], []⟩, [], [], az, [], []⟩
theorem Qac {H : Nat → Option Ob} {vw : Views} (hv : VOK H vw) {x : Eff} {az : List Ans} : Turned H vw ⟨x, x.hw.map (·.1), [], az, [], []⟩ := by
  intro id rows hl
  rcases Qbk hl with hl | ⟨hl, hc⟩
  · cases hl
  · obtain ⟨ob, hob, hok⟩ := hv id rows hl
    refine ⟨ob, ?_, hok⟩
    rw [Q4b (fun y hy e => hc (by rw [← e]; exact List.mem_map_of_mem hy))]
    exact hob
theorem Q9z {G : Nat → Option Fun} {e : Nat → PV} {H : Nat → Option Ob} {vw : Views} (hv : VOK H vw) {fr : Nat} {az : List Ans} {o : IOper} {y : EV} (h : Qs6 e H vw fr az o = some y) (hm : Met y.owed) (hq : Told G y.asked) : Q4u (lim G) e H fr o = some y.eff ∧ Turned H vw y := by
  unfold Qs6 at h
  obtain ⟨w, hw, h⟩ := Qh h
  unfold Q4u
  rw [hw, Option.bind_some]
  cases w with
  | false =>
    simp only [cond_false, Option.some.injEq] at h
    subst h
    exact ⟨rfl, Qac hv (x := ⟨.tup [], [], []⟩)⟩
  | true =>
    simp only [cond_true] at h ⊢
    have gen : ((iop mute e H fr o.op).bind fun x => some (⟨x, x.hw.map (·.1), [], az, [], []⟩ : EV)) = some y → iop (lim G) e H fr o.op = some y.eff ∧ Turned H vw y := by
      intro h
      obtain ⟨x, hx, h⟩ := Qh h
      simp only [Option.some.injEq] at h
      subst h
      exact ⟨Qsm hx, Qac hv⟩
    cases ho : o.op with
    | call b f xs =>
      rw [ho] at h
      simp only [iopV] at h
      obtain ⟨t, ht, h⟩ := Qh h
      simp only [iop]
      rw [ht, Option.bind_some]
      exact Qn6 hv h hm hq
    | _ =>
      rw [ho] at h gen
      exact gen h
abbrev Q4h := List (Nat × (Eff × Views))
structure TV where
  env : List PV
  heap : List (Nat × Ob)
  vw : Views
  effs : List Eff
  hs : Q4h
  az : List Ans
  owed : List Prop
  asked : Q7q
def nobody : Nat → Option Ob := fun _ => none
def Qn5 (nx : Nat) : Nat → List IOper → Q4h → List Ans → List PV → List (Nat × Ob) → Views → Option TV
  | _, [], hs, az, env, h, vw => some ⟨env, h, vw, [], hs, az, [], []⟩
  | i, o :: r, hs, az, env, h, vw =>
    match hs with
    | [] => (Qs6 (envF env) (look h) vw (nx + 64 * i) az o).bind fun x => (Qn5 nx (i + 1) r [] x.az (put env o.dst x.eff.v) (hput h x.eff.hw) (putV vw x.cut x.new)).bind fun y => some ⟨y.env, y.heap, y.vw, x.eff :: y.effs, y.hs, y.az, x.owed ++ y.owed, x.asked ++ y.asked⟩
    | (k + 1, z) :: hs' => (Qs6 (envF env) (look h) vw (nx + 64 * i) az o).bind fun x => (Qn5 nx (i + 1) r ((k, z) :: hs') x.az (put env o.dst x.eff.v) (hput h x.eff.hw) (putV vw x.cut x.new)).bind fun y => some ⟨y.env, y.heap, y.vw, x.eff :: y.effs, y.hs, y.az, x.owed ++ y.owed, x.asked ++ y.asked⟩
    | (0, x) :: hs' => (Qn5 nx (i + 1) r hs' az (put env o.dst x.1.v) (hput h x.1.hw) (putV vw (x.1.hw.map (·.1)) x.2)).bind fun y => some ⟨y.env, y.heap, y.vw, x.1 :: y.effs, y.hs, y.az, (Q4u mute (envF env) (look h) (nx + 64 * i) o = some x.1) :: ((x.2.map fun p => Seen (upH nobody x.1.hw p.1) p.2) ++ y.owed), y.asked⟩
theorem VOK.turned {h : List (Nat × Ob)} {vw : Views} {y : EV} (ht : Turned (look h) vw y) : VOK (look (hput h y.eff.hw)) (putV vw y.cut y.new) := by
  rw [Q48]
  exact ht
theorem Qtu {ws : List (Nat × Option Ob)} {H : Nat → Option Ob} {id : Nat} {ob : Ob} (h : upH nobody ws id = some ob) : upH H ws id = some ob := by
  by_cases c : ∃ x ∈ ws, x.1 = id
  · rw [Qe6 (H' := nobody) c]
    exact h
  · rw [Q4b (fun y hy e => c ⟨y, hy, e⟩)] at h
    cases h
theorem Qfe {G : Nat → Option Fun} {nx : Nat} : ∀ (ops : List IOper) (i : Nat) (hs : Q4h) (az : List Ans) (env : List PV) (h : List (Nat × Ob)) (vw : Views) (t : TV), Qn5 nx i ops hs az env h vw = some t → VOK (look h) vw → Met t.owed → Told G t.asked → Q3i (lim G) nx i ops env h = some (t.env, t.heap, t.effs) ∧ VOK (look t.heap) t.vw
  | [], i, hs, az, env, h, vw, t, ht, hv, _, _ => by
    simp only [Qn5, Option.some.injEq] at ht
    subst ht
    exact ⟨rfl, hv⟩
  | o :: r, i, hs, az, env, h, vw, t, ht, hv, hm, hq => by
    have go : ∀ (x : EV) (hs' : Q4h) (vw' : Views), Q4u (lim G) (envF env) (look h) (nx + 64 * i) o = some x.eff → VOK (look (hput h x.eff.hw)) vw' → ∀ (y : TV), Qn5 nx (i + 1) r hs' x.az (put env o.dst x.eff.v) (hput h x.eff.hw) vw' = some y → Met y.owed → Told G y.asked → y.env = t.env → y.heap = t.heap → y.vw = t.vw → x.eff :: y.effs = t.effs → Q3i (lim G) nx i (o :: r) env h = some (t.env, t.heap, t.effs) ∧ VOK (look t.heap) t.vw := by
      intro x hs' vw' hx hvx y hy hmy hqy e1 e2 e3 e4
      obtain ⟨r1, r2⟩ := Qfe r (i + 1) hs' _ _ _ _ y hy hvx hmy hqy
      simp only [Q3i]
      rw [hx, Option.bind_some, r1, Option.bind_some, ← e1, ← e2, ← e3, ← e4]
      exact ⟨rfl, r2⟩
    unfold Qn5 at ht
    split at ht
    · obtain ⟨x, hx, ht⟩ := Qh ht
      obtain ⟨y, hy, ht⟩ := Qh ht
      simp only [Option.some.injEq] at ht
      subst ht
      obtain ⟨s1, s2⟩ := Q9z hv hx hm.left hq.left
      exact go x _ _ s1 (VOK.turned s2) y hy hm.right hq.right rfl rfl rfl rfl
    · obtain ⟨x, hx, ht⟩ := Qh ht
      obtain ⟨y, hy, ht⟩ := Qh ht
      simp only [Option.some.injEq] at ht
      subst ht
      obtain ⟨s1, s2⟩ := Q9z hv hx hm.left hq.left
      exact go x _ _ s1 (VOK.turned s2) y hy hm.right hq.right rfl rfl rfl rfl
    · rename_i x hs'
      obtain ⟨y, hy, ht⟩ := Qh ht
      simp only [Option.some.injEq] at ht
      subst ht
      have hx : Q4u (lim G) (envF env) (look h) (nx + 64 * i) o = some x.1 := Qtr hm.head
      have hseen : Met (x.2.map fun p => Seen (upH nobody x.1.hw p.1) p.2) := hm.tail.left
      have hvx : VOK (look (hput h x.1.hw)) (putV vw (x.1.hw.map (·.1)) x.2) := by
        rw [Q48]
        intro id rows hl
        rcases Qbk hl with hl | ⟨hl, hc⟩
        · obtain ⟨ob, hob, hok⟩ := hseen _ (List.mem_map_of_mem (f := fun p : Nat × List (List PV) => Seen (upH nobody x.1.hw p.1) p.2) (Qpu hl))
          exact ⟨ob, Qtu hob, hok⟩
        · obtain ⟨ob, hob, hok⟩ := hv id rows hl
          refine ⟨ob, ?_, hok⟩
          rw [Q4b (fun y hy e => hc (by rw [← e]; exact List.mem_map_of_mem hy))]
          exact hob
      exact go ⟨x.1, x.1.hw.map (·.1), x.2, az, [], []⟩ hs' _ hx hvx y hy hm.tail.right hq rfl rfl rfl rfl
structure CV where
  ex : Ex
  st : St
  vw : Views
  hs : Q4h
  az : List Ans
  owed : List Prop
  asked : Q7q
def Q3s (m : Nat) : IR → Q4h → List Ans → Views → St → Option CV
  | .skip, hs, az, vw, s => some ⟨.normal, s, vw, hs, az, [], []⟩
  | .reg ops draw, hs, az, vw, s => (Qn5 s.nx 0 ops hs az s.env s.heap vw).bind fun y => bif !draw || calm (ops.zip y.effs) 0 (ops.zip y.effs) then some ⟨.normal, ⟨y.env, y.heap, s.nx + 64 * ops.length⟩, y.vw, y.hs, y.az, y.owed, y.asked⟩ else none
  | .seq a b, hs, az, vw, s => (Q3s m a hs az vw s).bind fun x => (match x.ex with | .normal => (Q3s m b x.hs x.az x.vw x.st).bind fun y => some ⟨y.ex, y.st, y.vw, y.hs, y.az, x.owed ++ y.owed, x.asked ++ y.asked⟩ | _ => some x)
  | .cond c a b, hs, az, vw, s => (match c.ev (envF s.env) with | .bool t => (bif t then Q3s m a hs az vw s else Q3s m b hs az vw s) | _ => none)
  | .block id b, hs, az, vw, s => (Q3s m b hs az vw s).bind fun x => (match x.ex with | .exit j => (bif Nat.beq j id then some ⟨.normal, x.st, x.vw, x.hs, x.az, x.owed, x.asked⟩ else some x) | _ => some x)
  | .loop live b, hs, az, vw, s => (gcV vw m live s).bind fun y => (match az with
    | [] => none
    | a :: az' => (match a.r with | .st e s' => some ⟨e, s', a.vw, hs, az', y.2 ++ (a.vw.map fun p => Seen (look s'.heap p.1) p.2), [(.loop m live b y.1.1 y.1.2, a.r)]⟩ | _ => none))
  | .exit id, hs, az, vw, s => some ⟨.exit id, s, vw, hs, az, [], []⟩
  | .ret, hs, az, vw, s => some ⟨.ret, s, vw, hs, az, [], []⟩
theorem Q1d {G : Nat → Option Fun} {m : Nat} : ∀ (c : IR) (hs : Q4h) (az : List Ans) (vw : Views) (s : St) (t : CV), Q3s m c hs az vw s = some t → VOK (look s.heap) vw → Met t.owed → Told G t.asked → Q30 (lim G) m c s = some (t.ex, t.st) ∧ VOK (look t.st.heap) t.vw
  | .skip, hs, az, vw, s, t, ht, hv, _, _ => by
    simp only [Q3s, Option.some.injEq] at ht
    subst ht
    exact ⟨rfl, hv⟩
  | .reg ops draw, hs, az, vw, s, t, ht, hv, hm, hq => by
    simp only [Q3s] at ht
    obtain ⟨y, hy, ht⟩ := Qh ht
    cases hc : (!draw || calm (ops.zip y.effs) 0 (ops.zip y.effs)) with
    | false => rw [hc] at ht; cases ht
    | true =>
      rw [hc] at ht
      simp only [cond_true, Option.some.injEq] at ht
      subst ht
      obtain ⟨r1, r2⟩ := Qfe ops 0 hs az s.env s.heap vw y hy hv hm hq
      have h1 : ireg (lim G) ops draw s = some ⟨y.env, y.heap, s.nx + 64 * ops.length⟩ := by
        unfold ireg
        rw [r1, Option.bind_some]
        simp only
        rw [hc]
        rfl
      simp only [Q30]
      rw [h1]
      exact ⟨rfl, r2⟩
  | .seq a b, hs, az, vw, s, t, ht, hv, hm, hq => by
    simp only [Q3s] at ht
    obtain ⟨x, hx, ht⟩ := Qh ht
    obtain ⟨ex, st, vw1, hs1, as1, ow1, ak1⟩ := x
    simp only [Q30]
    cases ex with
    | normal =>
      simp only at ht
      obtain ⟨y, hy, ht⟩ := Qh ht
      simp only [Option.some.injEq] at ht
      subst ht
      obtain ⟨r1, r2⟩ := Q1d a hs az vw s _ hx hv hm.left hq.left
      rw [r1, Option.bind_some]
      exact Q1d b _ _ _ _ y hy r2 hm.right hq.right
    | exit j =>
      simp only [Option.some.injEq] at ht
      subst ht
      obtain ⟨r1, r2⟩ := Q1d a hs az vw s _ hx hv hm hq
      rw [r1, Option.bind_some]
      exact ⟨rfl, r2⟩
    | ret =>
      simp only [Option.some.injEq] at ht
      subst ht
      obtain ⟨r1, r2⟩ := Q1d a hs az vw s _ hx hv hm hq
      rw [r1, Option.bind_some]
      exact ⟨rfl, r2⟩
  | .cond c a b, hs, az, vw, s, t, ht, hv, hm, hq => by
    simp only [Q3s] at ht
    simp only [Q30]
    split at ht
    · rename_i q hq'
      rw [hq']
      simp only
      cases q with
      | true => exact Q1d a hs az vw s t ht hv hm hq
      | false => exact Q1d b hs az vw s t ht hv hm hq
    · cases ht
  | .block id b, hs, az, vw, s, t, ht, hv, hm, hq => by
    simp only [Q3s] at ht
    obtain ⟨x, hx, ht⟩ := Qh ht
    obtain ⟨ex, st, vw1, hs1, as1, ow1, ak1⟩ := x
    simp only [Q30]
    cases ex with
    | normal =>
      simp only [Option.some.injEq] at ht
      subst ht
      obtain ⟨r1, r2⟩ := Q1d b hs az vw s _ hx hv hm hq
      rw [r1, Option.bind_some]
      exact ⟨rfl, r2⟩
    | ret =>
      simp only [Option.some.injEq] at ht
      subst ht
      obtain ⟨r1, r2⟩ := Q1d b hs az vw s _ hx hv hm hq
      rw [r1, Option.bind_some]
      exact ⟨rfl, r2⟩
    | exit j =>
      simp only at ht
      cases hj : Nat.beq j id with
      | true =>
        rw [hj] at ht
        simp only [cond_true, Option.some.injEq] at ht
        subst ht
        obtain ⟨r1, r2⟩ := Q1d b hs az vw s _ hx hv hm hq
        rw [r1, Option.bind_some]
        simp only
        rw [hj]
        exact ⟨rfl, r2⟩
      | false =>
        rw [hj] at ht
        simp only [cond_false, Option.some.injEq] at ht
        subst ht
        obtain ⟨r1, r2⟩ := Q1d b hs az vw s _ hx hv hm hq
        rw [r1, Option.bind_some]
        simp only
        rw [hj]
        exact ⟨rfl, r2⟩
  | .loop live b, hs, az, vw, s, t, ht, hv, hm, hq => by
    simp only [Q3s] at ht
    obtain ⟨y, hy, ht⟩ := Qh ht
    simp only [Q30]
    cases az with
    | nil => cases ht
    | cons a az' =>
      obtain ⟨r, avw⟩ := a
      cases r with
      | ret _ _ => cases ht
      | st e s' =>
        simp only [Option.some.injEq] at ht
        subst ht
        rw [Qod hv hy hm.left, Option.bind_some, Q11z (hq _ List.mem_cons_self), Option.bind_some]
        refine ⟨rfl, fun id rows hl => ?_⟩
        exact hm.right _ (List.mem_map_of_mem (f := fun p : Nat × List (List PV) => Seen (look s'.heap p.1) p.2) (Qpu hl))
  | .exit id, hs, az, vw, s, t, ht, hv, _, _ => by
    simp only [Q3s, Option.some.injEq] at ht
    subst ht
    exact ⟨rfl, hv⟩
  | .ret, hs, az, vw, s, t, ht, hv, _, _ => by
    simp only [Q3s, Option.some.injEq] at ht
    subst ht
    exact ⟨rfl, hv⟩
def finV (fn : IFn) (m : Nat) (vw : Views) (s : St) : Option (Rs × List Prop) :=
  (mapO (rv s) fn.res).bind fun vs =>
    let a := bif fn.keep then Q2z s.nx vs else (vs, s.nx, [])
    let H := look (s.heap ++ a.2.2)
    (Q5p (Q7j H vw fn.keep 8) a.1 (upTo m)).bind fun y =>
      (Q5e H vw false true 32 0 y.1.2.1).bind fun z =>
        bif disj (y.1.2.2 ++ z.1.2.2) z.1.2.1 then some (.ret (match y.1.1 with | [v] => v | l => .tup l) (regr m z.1.1), y.2 ++ z.2) else none
theorem Qgg {fn : IFn} {m : Nat} {vw : Views} {s : St} (hv : VOK (look s.heap) vw) {y : Rs × List Prop} (h : finV fn m vw s = some y) (hm : Met y.2) : fin fn m s = some y.1 := by
  unfold finV at h
  unfold fin
  obtain ⟨vs, hvs, h⟩ := Qh h
  rw [hvs, Option.bind_some]
  simp only at h ⊢
  have hv' : VOK (look (s.heap ++ (bif fn.keep then Q2z s.nx vs else (vs, s.nx, [])).2.2)) vw := by
    intro id rows hl
    obtain ⟨ob, hob, hok⟩ := hv id rows hl
    refine ⟨ob, ?_, hok⟩
    rw [Qkn, hob]
  obtain ⟨x, hx, h⟩ := Qh h
  obtain ⟨z, hz, h⟩ := Qh h
  cases hd : disj (x.1.2.2 ++ z.1.2.2) z.1.2.1 with
  | false => rw [hd] at h; cases h
  | true =>
    rw [hd] at h
    simp only [cond_true, Option.some.injEq] at h
    subst h
    rw [Q29 (Q45 hv' 8) _ _ x hx hm.left, Option.bind_some, Q33 hv' 32 _ _ z hz hm.right, Option.bind_some, hd]
    rfl
def Q13e (fn : IFn) (args : List PV) (h : List Ob) (vw : Views) (hs : Q4h) (az : List Ans) : Option (Rs × List Prop × Q7q) :=
  bif Nat.beq args.length fn.np then
    (Q3s h.length fn.body hs az vw ⟨args ++ nuns (fn.nt - fn.np), number 0 h, h.length⟩).bind fun x =>
      (match x.ex with
       | .exit _ => none
       | _ => (finV fn h.length x.vw x.st).bind fun r => some (r.1, x.owed ++ r.2, x.asked))
  else none
theorem Q137 {G : Nat → Option Fun} {f : Nat} {fn : IFn} (hG : G f = some (.ir fn)) {args : List PV} {h : List Ob} {vw : Views} (hv : VOK (look (number 0 h)) vw) {hs : Q4h} {az : List Ans} {r : Rs} {ow : List Prop} {ak : Q7q} (hp : Met ow) (hq : Told G ak) (ht : Q13e fn args h vw hs az = some (r, ow, ak)) : Q7 G (.call f args h) r := by
  refine Qya Qb1 ?_
  unfold Q13e at ht
  simp only [phi, hG]
  cases hl : Nat.beq args.length fn.np with
  | false => rw [hl] at ht; cases ht
  | true =>
    rw [hl] at ht
    simp only [cond_true] at ht ⊢
    obtain ⟨x, hx, ht⟩ := Qh ht
    obtain ⟨ex, st, vw1, hs1, as1, ow1, ak1⟩ := x
    cases ex with
    | exit j => cases ht
    | normal =>
      simp only at ht
      obtain ⟨r', hr, ht⟩ := Qh ht
      simp only [Option.some.injEq, Prod.mk.injEq] at ht
      obtain ⟨rfl, rfl, rfl⟩ := ht
      obtain ⟨r1, r2⟩ := Q1d _ hs az vw _ _ hx hv hp.left hq
      rw [r1, Option.bind_some]
      exact Qgg r2 hr hp.right
    | ret =>
      simp only at ht
      obtain ⟨r', hr, ht⟩ := Qh ht
      simp only [Option.some.injEq, Prod.mk.injEq] at ht
      obtain ⟨rfl, rfl, rfl⟩ := ht
      obtain ⟨r1, r2⟩ := Q1d _ hs az vw _ _ hx hv hp.left hq
      rw [r1, Option.bind_some]
      exact Qgg r2 hr hp.right
theorem VOK.nil {H : Nat → Option Ob} : VOK H [] := fun _ _ h => by cases h
def Q13d (m : Nat) (live : List Nat) (b : IR) (env : List PV) (h : List Ob) (vw : Views) (hs : Q4h) (az : List Ans) : Option ((List PV × List Ob) × List Prop × Q7q) :=
  (Q3s m b hs az vw ⟨env, number 0 h, h.length⟩).bind fun x => (match x.ex with | .normal => (gcV x.vw m live x.st).bind fun y => some (y.1, x.owed ++ y.2, x.asked) | _ => none)
theorem Qpk {G : Nat → Option Fun} {m : Nat} {live : List Nat} {b : IR} {env : List PV} {h : List Ob} {vw : Views} (hv : VOK (look (number 0 h)) vw) {hs : Q4h} {az : List Ans} {y : List PV × List Ob} {ow : List Prop} {ak : Q7q} {r : Rs} (hp : Met ow) (hq : Told G ak) (ht : Q13d m live b env h vw hs az = some (y, ow, ak)) (hr : Q7 G (.loop m live b y.1 y.2) r) : Q7 G (.loop m live b env h) r := by
  unfold Q13d at ht
  obtain ⟨x, hx, ht⟩ := Qh ht
  obtain ⟨ex, st, vw1, hs1, as1, ow1, ak1⟩ := x
  cases ex with
  | normal =>
    simp only at ht
    obtain ⟨y', hg, ht⟩ := Qh ht
    simp only [Option.some.injEq, Prod.mk.injEq] at ht
    obtain ⟨rfl, rfl, rfl⟩ := ht
    obtain ⟨r1, r2⟩ := Q1d _ hs az vw _ _ hx hv hp.left hq
    exact Qsz Qb1 r1 (Qod r2 hg hp.right) hr
  | exit j => cases ht
  | ret => cases ht
def Qzx (m : Nat) (b : IR) (env : List PV) (h : List Ob) (vw : Views) (hs : Q4h) (az : List Ans) : Option ((Ex × St) × List Prop × Q7q) :=
  (Q3s m b hs az vw ⟨env, number 0 h, h.length⟩).bind fun x => (match x.ex with | .normal => none | e => some ((e, x.st), x.owed, x.asked))
theorem Qtc {G : Nat → Option Fun} {m : Nat} {live : List Nat} {b : IR} {env : List PV} {h : List Ob} {vw : Views} (hv : VOK (look (number 0 h)) vw) {hs : Q4h} {az : List Ans} {x : Ex × St} {ow : List Prop} {ak : Q7q} (hp : Met ow) (hq : Told G ak) (ht : Qzx m b env h vw hs az = some (x, ow, ak)) : Q7 G (.loop m live b env h) (.st x.1 x.2) := by
  unfold Qzx at ht
  obtain ⟨y, hy, ht⟩ := Qh ht
  obtain ⟨ex, st, vw1, hs1, as1, ow1, ak1⟩ := y
  cases ex with
  | normal => cases ht
  | exit j =>
    simp only [Option.some.injEq, Prod.mk.injEq] at ht
    obtain ⟨rfl, rfl, rfl⟩ := ht
    exact Qdr Qb1 (by intro h; cases h) (Q1d _ hs az vw _ _ hy hv hp hq).1
  | ret =>
    simp only [Option.some.injEq, Prod.mk.injEq] at ht
    obtain ⟨rfl, rfl, rfl⟩ := ht
    exact Qdr Qb1 (by intro h; cases h) (Q1d _ hs az vw _ _ hy hv hp hq).1
end Go.Pv
end

section
/-
  Small words and hints' lemmas for walks that a program prints.
-/
namespace Go.Pv
def bE (b : Bool) : Eff := ⟨.bool b, [], []⟩
def vE (v : PV) : Eff := ⟨v, [], []⟩
def w64 (n : Int) : Int := IntKind.i64.wrap n
def mx (x y : Int) : Int := if y > x then y else x
def sEq (a b : ByteArray) : Bool := a.toList == b.toList
def sLt (a b : ByteArray) : Bool := Op.bytesLess a.toList b.toList
theorem dec (c v : Bool) (h : c = v) : some (bE c) = some (bE v) := by rw [h]
theorem toldOf {G : Nat → Option Fun} {e : En} {r r' : Rs} (h : Q7 G e r) (hr : r = r') : Q7 G e r' := hr ▸ h
theorem Qf {α : Type} {f : α → List PV} {l : List α} {i : Nat} {x : α} (h : l[i]? = some x) : (l.map f)[i]? = some (f x) := by
  rw [List.getElem?_map, h]
  rfl
def ixE (sz : Nat) (l : List (List PV)) (i : Int) : Option Eff := (opP (fun _ => .un) (.iaddr sz (.c (.sl l)) (.c (.int .i64 i)))).bind fun v => some ⟨v, [], []⟩
theorem Q1h (sz : Nat) (l : List (List PV)) (i : Nat) (r : List PV) (h : l[i]? = some r) (hs : r.length = sz) : ixE sz l (i : Int) = some (vE (.rf r)) := by
  unfold ixE
  simp only [opP, Opd.ev, asNat]
  have h0 : decide (0 ≤ (i : Int)) = true := by simp
  rw [h0]
  simp only [cond_true, Option.bind_some, Int.toNat_natCast]
  rw [h]
  subst hs
  simp [vE]
theorem Qsh (sz : Nat) (l : List (List PV)) (i : Int) (r : List PV) (h0 : 0 ≤ i) (h : l[i.toNat]? = some r) (hs : r.length = sz) : ixE sz l i = some (vE (.rf r)) := by
  have := Q1h sz l i.toNat r h hs
  rw [show ((i.toNat : Nat) : Int) = i by omega] at this
  exact this
def lenE (l : List (List PV)) : Option Eff := some ⟨.int .i64 (l.length : Int), [], []⟩
theorem Qj (l : List (List PV)) (n : Nat) (h : l.length = n) : lenE l = some (vE (.int .i64 (n : Int))) := by
  unfold lenE
  rw [h]
  rfl
theorem Qa1 {n : Int} (h : -9223372036854775808 ≤ n ∧ n ≤ 9223372036854775807) : w64 n = n := by
  unfold w64 IntKind.wrap
  simp [IntKind.signed, IntKind.bits]
  omega
def addE (a b : Int) : Option Eff := some ⟨.int .i64 (IntKind.i64.wrap (a + b)), [], []⟩
theorem Qs (i : Nat) (h : i < 9223372036854775807) : addE (i : Int) 1 = some (vE (.int .i64 ((i + 1 : Nat) : Int))) := by
  unfold addE
  have : IntKind.i64.wrap ((i : Int) + 1) = ((i + 1 : Nat) : Int) := by
    have := Qa1 (n := (i : Int) + 1) (by omega)
    unfold w64 at this
    rw [this]
    rfl
  rw [this]
  rfl
theorem Q15j {ob : Ob} {k : Nat} (h : ob.cells.length = k) : apC ob k = some ob.cells := by
  unfold apC
  rw [h, Nat.beq_refl]
  rfl
def apE (id lid fr sz bytes ro lro : Nat) (lgr : Bool) (rows : List (List PV)) (r : List PV) (n : Nat) : Option Eff :=
  Q3p (look [(id, ⟨sz, ro, true, rows.flatten⟩), (lid, ⟨sz, lro, lgr, r⟩)]) fr sz bytes (.ms id sz 0 n) (.ms lid sz 0 1)
theorem Qbr (id lid fr sz bytes ro lro : Nat) (lgr : Bool) (rows rows' : List (List PV)) (r : List PV) (n n' : Nat) (hne : Nat.beq id lid = false) (hn : n = rows.length) (hn' : n' = rows'.length) (hr' : rows' = rows ++ [r])
    (hs : ∀ r ∈ rows, r.length = sz) (hr : r.length = sz) (hb : (n + 1) * bytes ≤ 140737488355328) :
    apE id lid fr sz bytes ro lro lgr rows r n = some ⟨.ms fr sz 0 n', [(id, none), (fr, some ⟨sz, ro, true, rows'.flatten⟩)], [id, lid]⟩ := by
  subst hn hn' hr'
  unfold apE Q3p
  have h1 : look [(id, (⟨sz, ro, true, rows.flatten⟩ : Ob)), (lid, ⟨sz, lro, lgr, r⟩)] lid = some ⟨sz, lro, lgr, r⟩ := by simp [look, hne]
  have h2 : look [(id, (⟨sz, ro, true, rows.flatten⟩ : Ob)), (lid, ⟨sz, lro, lgr, r⟩)] id = some ⟨sz, ro, true, rows.flatten⟩ := by simp [look]
  have hsrc : source (look [(id, (⟨sz, ro, true, rows.flatten⟩ : Ob)), (lid, ⟨sz, lro, lgr, r⟩)]) sz (.ms lid sz 0 1) = some (1, r, [lid]) := by
    simp only [source, h1, Option.bind_some]
    subst hr
    have : Nat.ble r.length r.length = true := Nat.ble_eq_true_of_le (Nat.le_refl _)
    simp [this]
  rw [hsrc, Option.bind_some]
  simp only [h2, Option.bind_some]
  have hc : (true && Nat.beq sz sz && Nat.beq sz sz && Nat.beq 0 0 && Nat.ble ((rows.length + 1) * bytes) 140737488355328) = true := by
    simp only [Nat.beq_refl, Bool.and_true, Bool.true_and]
    exact Nat.ble_eq_true_of_le hb
  rw [hc, Q15j (ob := ⟨sz, ro, true, rows.flatten⟩) (Q36 sz rows hs)]
  simp
end Go.Pv
namespace Go.Pv
theorem VOK.cons {H : Nat → Option Ob} {vw : Views} {id : Nat} {rows : List (List PV)} (h : Seen (H id) rows) (hv : VOK H vw) : VOK H ((id, rows) :: vw) := by
  intro k rs hl
  simp only [look] at hl
  cases c : Nat.beq id k with
  | true =>
    have := Nat.eq_of_beq_eq_true c
    subst this
    rw [c] at hl
    simp only [cond_true, Option.some.injEq] at hl
    subst hl
    exact h
  | false =>
    rw [c] at hl
    exact hv k rs hl
theorem Q18 {α : Type} {l : List α} {i : Nat} {x : α} {r : List α} (h : l.drop i = x :: r) : l[i]? = some x ∧ i < l.length ∧ l.drop (i + 1) = r := by
  have h1 : l[i]? = some x := by
    have := congrArg (fun q => q[0]?) h
    simpa [List.getElem?_drop] using this
  have h2 : i < l.length := (List.getElem?_eq_some_iff.1 h1).1
  refine ⟨h1, h2, ?_⟩
  rw [← List.tail_drop, h]
  rfl
theorem Q1m {α : Type} {l : List α} {i : Nat} (h : l.drop i = []) : l.length ≤ i := by
  simpa using h
theorem Q1f {α : Type} {l : List α} {i : Nat} {x : α} (h : l[i]? = some x) : x ∈ l := List.mem_of_getElem? h
theorem Q108 {α : Type} {f : α → List PV} {n : Nat} (h : ∀ x, (f x).length = n) (l : List α) : ∀ r ∈ l.map f, r.length = n := fun r hr => by
  obtain ⟨x, _, rfl⟩ := List.mem_map.1 hr
  exact h x
theorem Qs4 {α : Type} {f : α → List PV} (h : ∀ x, (f x).all plain = true) (l : List α) : ∀ r ∈ l.map f, ∀ p ∈ r, plain p = true := fun r hr p hp => by
  obtain ⟨x, _, rfl⟩ := List.mem_map.1 hr
  exact List.all_eq_true.1 (h x) p hp
end Go.Pv
namespace Go.Pv
def zoF (l : List (Nat × List PV)) (j : Nat) : List PV := (look l j).getD []
end Go.Pv
namespace Go.Pv
def optI : Option Int → Option Opd
  | none => none
  | some n => some (.c (.int .i64 n))
theorem Q103 {l : List (List PV)} {sz : Nat} (hs : ∀ r ∈ l, r.length = sz) : Q8k l sz = true := by
  unfold Q8k
  rw [List.all_eq_true]
  intro r hr
  rw [hs r hr]
  exact Nat.beq_refl sz
end Go.Pv
namespace Go.Pv
def ixmE (id sz off len : Nat) (i : Int) : Option Eff := (opP (fun _ => .un) (.iaddr sz (.c (.ms id sz off len)) (.c (.int .i64 i)))).bind fun v => some ⟨v, [], []⟩
theorem Q13z (id sz off len : Nat) (i : Int) (k at_ : Nat) (h : i = (k : Int)) (hk : k < len) (ha : at_ = (off + k) * sz) : ixmE id sz off len i = some (vE (.bx id at_)) := by
  subst h ha
  unfold ixmE
  simp only [opP, Opd.ev, asNat]
  have h0 : decide (0 ≤ (k : Int)) = true := by simp
  rw [h0]
  simp only [cond_true, Option.bind_some, Int.toNat_natCast]
  have h1 : (Nat.beq sz sz && Nat.blt k len) = true := by
    rw [Nat.beq_refl, Bool.true_and]
    exact Nat.ble_eq_true_of_le hk
  rw [h1]
  rfl
end Go.Pv
namespace Go.Pv
theorem Q1i (id sz len : Nat) (i : Int) (k : Nat) (hk : k = i.toNat) (h0 : 0 ≤ i) (h1 : i < (len : Int)) : ixmE id sz 0 len i = some (vE (.bx id (k * sz))) :=
  Q13z id sz 0 len i k (k * sz) (by omega) (by omega) (by rw [Nat.zero_add])
theorem Qad (sz : Nat) : ∀ (rows : List (List PV)) (k : Nat), (∀ r ∈ rows, r.length = sz) → rows.flatten.drop (k * sz) = (rows.drop k).flatten
  | [], k, _ => by simp
  | r :: rs, 0, _ => by simp
  | r :: rs, k + 1, h => by
    have h0 := h r List.mem_cons_self
    rw [List.flatten_cons, List.drop_succ_cons, ← Qad sz rs k (fun q hq => h q (List.mem_cons_of_mem _ hq)), Nat.add_mul, Nat.one_mul, Nat.add_comm, ← List.drop_drop, List.drop_left' h0]
theorem Qsx {sz : Nat} {rows : List (List PV)} {k : Nat} {r : List PV} {off n : Nat} (hr : rows[k]? = some r) (hs : ∀ r ∈ rows, r.length = sz) (hn : off + n ≤ sz) : (rows.flatten.drop (k * sz + off)).take n = (r.drop off).take n ∧ k * sz + off + n ≤ rows.flatten.length := by
  have hk : k < rows.length := (List.getElem?_eq_some_iff.1 hr).1
  have hd : rows.drop k = r :: rows.drop (k + 1) := by
    rw [List.drop_eq_getElem_cons hk]
    congr 1
    exact (List.getElem?_eq_some_iff.1 hr).2
  have hl := hs r (List.mem_of_getElem? hr)
  refine ⟨?_, ?_⟩
  · rw [← List.drop_drop, Qad sz rows k hs, hd, List.flatten_cons]
    rw [List.drop_append_of_le_length (by omega), List.take_append_of_le_length (by rw [List.length_drop]; omega)]
  · rw [Q36 sz rows hs]
    have : (k + 1) * sz ≤ rows.length * sz := Nat.mul_le_mul_right _ hk
    rw [Nat.add_mul] at this
    omega
def ldE (id sz ro : Nat) (gr : Bool) (cells : List PV) (n : Nat) (ag : Bool) (at_ : Nat) : Option Eff := Qde (look [(id, ⟨sz, ro, gr, cells⟩)]) n ag (.bx id at_)
theorem Q2y (id sz ro : Nat) (gr : Bool) (cells : List PV) (rows : List (List PV)) (n : Nat) (ag : Bool) (k off at_ : Nat) (r : List PV) (v : PV) (hc : cells = rows.flatten) (ha : at_ = k * sz + off) (hr : rows[k]? = some r) (hs : ∀ r ∈ rows, r.length = sz) (hn : off + n ≤ sz) (hv : shape ag ((r.drop off).take n) = some v) :
    ldE id sz ro gr cells n ag at_ = some ⟨v, [], [id]⟩ := by
  subst hc ha
  obtain ⟨h1, h2⟩ := Qsx hr hs hn
  unfold ldE Qde reads
  simp only [look, Nat.beq_refl, cond_true, Option.bind_some]
  rw [Nat.ble_eq_true_of_le h2]
  simp only [cond_true, Option.bind_some]
  rw [h1, hv, Option.bind_some]
theorem Qu {α : Type} (l : List α) (k : Nat) (d : α) (h : k < l.length) : l[k]? = some (l.getD k d) := by
  rw [List.getD_eq_getElem?_getD, List.getElem?_eq_getElem h]
  rfl
end Go.Pv
namespace Go.Pv
end Go.Pv
namespace Go.Pv
end Go.Pv
end

section
/- More of single operations: sums that don't run over; shifts of indexes; stores into a slice of one's own that is known by its rows. -/
namespace Go.Pv
def wE (n : Int) : Option Eff := some ⟨.int .i64 (IntKind.i64.wrap n), [], []⟩
theorem w_ok (n : Int) (h : -9223372036854775808 ≤ n ∧ n ≤ 9223372036854775807) : wE n = some (vE (.int .i64 n)) := by
  unfold wE
  have := Qa1 h
  unfold w64 at this
  rw [this]
  rfl
theorem beqT {x v : Bool} (h : (x == true) = v) : x = v := by cases x <;> cases v <;> simp_all
def sCmp (a b : ByteArray) : Int := cmpL a.toList b.toList
theorem Qfb {sz : Nat} : ∀ (rows : List (List PV)) (k : Nat) (r vals : List PV) (off n : Nat), rows[k]? = some r → (∀ q ∈ rows, q.length = sz) → off + n ≤ sz → vals.length = n →
    rows.flatten.take (k * sz + off) ++ (vals ++ rows.flatten.drop (k * sz + off + n)) = (rows.set k (r.take off ++ (vals ++ r.drop (off + n)))).flatten ∧ k * sz + off + n ≤ rows.flatten.length
  | [], _, _, _, _, _, h, _, _, _ => by simp at h
  | q :: rs, 0, r, vals, off, n, h, hs, hn, hv => by
    have hq := hs q List.mem_cons_self
    simp only [List.getElem?_cons_zero, Option.some.injEq] at h
    subst h
    simp only [Nat.zero_mul, Nat.zero_add, List.flatten_cons, List.set_cons_zero, List.length_append]
    refine ⟨?_, by omega⟩
    rw [List.take_append_of_le_length (by omega), List.drop_append_of_le_length (by omega)]
    simp only [List.append_assoc]
  | q :: rs, k + 1, r, vals, off, n, h, hs, hn, hv => by
    have hq := hs q List.mem_cons_self
    simp only [List.getElem?_cons_succ] at h
    obtain ⟨h1, h2⟩ := Qfb rs k r vals off n h (fun q hq => hs q (List.mem_cons_of_mem _ hq)) hn hv
    have e1 : (k + 1) * sz + off = q.length + (k * sz + off) := by rw [hq, Nat.add_mul]; omega
    have e2 : (k + 1) * sz + off + n = q.length + (k * sz + off + n) := by rw [hq, Nat.add_mul]; omega
    simp only [List.flatten_cons, List.set_cons_succ, List.length_append]
    refine ⟨?_, by omega⟩
    rw [e2, e1, List.take_length_add_append, List.drop_length_add_append, ← h1]
    simp only [List.append_assoc]
def stE (id sz ro : Nat) (gr : Bool) (cells : List PV) (n : Nat) (at_ : Nat) (x : PV) : Option Eff := Q73 (look [(id, ⟨sz, ro, gr, cells⟩)]) n (.bx id at_) x
theorem Qdz (id sz : Nat) (gr : Bool) (cells : List PV) (rows rows' : List (List PV)) (n k off at_ : Nat) (r : List PV) (x : PV) (hc : cells = rows.flatten) (ha : at_ = k * sz + off) (hr : rows[k]? = some r) (hs : ∀ r ∈ rows, r.length = sz) (hn : off + n ≤ sz) (hx : x.cs.length = n) (hf : x.fits = true) (hrows : rows' = rows.set k (r.take off ++ (x.cs ++ r.drop (off + n)))) :
    stE id sz 0 gr cells n at_ x = some ⟨.un, [(id, some ⟨sz, 0, gr, rows'.flatten⟩)], [id]⟩ := by
  subst hc ha hrows
  obtain ⟨h1, h2⟩ := Qfb rows k r x.cs off n hr hs hn hx
  unfold stE Q73
  simp only [look, Nat.beq_refl, cond_true, Option.bind_some]
  rw [hx, hf, Nat.beq_refl, Nat.ble_eq_true_of_le h2, Nat.ble_eq_true_of_le (Nat.zero_le _), h1]
  rfl
theorem Q49 {α : Type} (f : α → List PV) (l : List α) (k : Nat) (x : α) : (l.set k x).map f = (l.map f).set k (f x) := List.map_set
theorem Qp {α : Type} {l : List α} {n : Nat} (h : l.length = n) (k : Nat) (x : α) : (l.set k x).length = n := by rw [List.length_set, h]
def cvE (k : IntKind) (n : Int) : Option Eff := (some (PV.int k (k.wrap n))).bind fun v => some ⟨v, [], []⟩
theorem Q17m {n : Int} (h : 0 ≤ n ∧ n ≤ 9223372036854775807) : IntKind.u64.wrap n = n := by
  unfold IntKind.wrap
  simp [IntKind.signed, IntKind.bits]
  omega
theorem Qy (n : Int) (h : 0 ≤ n ∧ n ≤ 9223372036854775807) : cvE .u64 n = some (vE (.int .u64 n)) := by
  unfold cvE
  rw [Q17m h]
  rfl
theorem Qx (n : Int) (h : 0 ≤ n ∧ n ≤ 9223372036854775807) : cvE .i64 n = some (vE (.int .i64 n)) := by
  unfold cvE
  have := Qa1 (n := n) (by omega)
  unfold w64 at this
  rw [this]
  rfl
def shE (k : IntKind) (a b : Int) : Option Eff := (bif decide (0 ≤ b) then some (PV.int k (a.fdiv (2 ^ (min b.toNat k.bits)))) else none).bind fun v => some ⟨v, [], []⟩
theorem Q1o (n : Int) : shE .u64 n 1 = some (vE (.int .u64 (n / 2))) := by
  unfold shE
  have h : n.fdiv (2 ^ (min (1 : Int).toNat IntKind.u64.bits)) = n / 2 := by
    have e : ((2 : Int) ^ (min (1 : Int).toNat IntKind.u64.bits)) = 2 := by decide
    rw [e, Int.fdiv_eq_ediv_of_nonneg _ (by omega)]
  rw [h]
  rfl
end Go.Pv
end

section
/- A walk's hints and answers, each with its proof. -/
namespace Go.Pv
structure It where
  hint : Option (Nat × (Eff × Views))
  p : Prop
  pf : p
def hsOf : List It → Q4h
  | [] => []
  | x :: r => (match x.hint with | some h => h :: hsOf r | none => hsOf r)
def owOf : List It → List Prop
  | [] => []
  | x :: r => x.p :: owOf r
theorem Q117 : ∀ l : List It, Met (owOf l)
  | [] => Met.nil
  | x :: r => Met.cons x.pf (Q117 r)
structure An (G : Nat → Option Fun) where
  e : En
  r : Rs
  vw : Views
  pf : Q7 G e r
def asOf {G : Nat → Option Fun} : List (An G) → List Ans
  | [] => []
  | x :: r => ⟨x.r, x.vw⟩ :: asOf r
def akOf {G : Nat → Option Fun} : List (An G) → Q7q
  | [] => []
  | x :: r => (x.e, x.r) :: akOf r
theorem Qsp {G : Nat → Option Fun} : ∀ l : List (An G), Told G (akOf l)
  | [] => Told.nil
  | x :: r => Told.cons x.pf (Qsp r)
def hB {c v : Bool} (n : Nat) (h : c = v) : It := ⟨some (n, (bE v, [])), some (bE c) = some (bE v), dec c v h⟩
def hP {x : Option Eff} {y : Eff} (n : Nat) (h : x = some y) : It := ⟨some (n, (y, [])), x = some y, h⟩
def hV {x : Option Eff} {y : Eff} (n : Nat) (vw : Views) (h : x = some y) : It := ⟨some (n, (y, vw)), x = some y, h⟩
def hQ {p : Prop} (h : p) : It := ⟨none, p, h⟩
def aN {G : Nat → Option Fun} {e : En} {r : Rs} (h : Q7 G e r) : An G := ⟨e, r, [], h⟩
def aV {G : Nat → Option Fun} {e : En} {r : Rs} (vw : Views) (h : Q7 G e r) : An G := ⟨e, r, vw, h⟩
def aB {G : Nat → Option Fun} {e : En} {c v : Bool} (h : Q7 G e (.ret (.bool c) [])) (hc : c = v) : An G := ⟨e, .ret (.bool v) [], [], hc ▸ h⟩
theorem vk1 {sz ro : Nat} {gr : Bool} {cells : List PV} {rows : List (List PV)} (h : ViewOK sz cells rows) : VOK (look (number 0 [⟨sz, ro, gr, cells⟩])) [(0, rows)] := VOK.cons (show Seen _ _ from Q3j (ob := ⟨sz, ro, gr, cells⟩) h) VOK.nil
theorem Q9 {G : Nat → Option Fun} {f : Nat} {fn : IFn} (hG : G f = some (.ir fn)) {args : List PV} {h : List Ob} {vw : Views} (hv : VOK (look (number 0 h)) vw) {r : Rs} (l : List It) (q : List (An G)) (ht : Q13e fn args h vw (hsOf l) (asOf q) = some (r, owOf l, akOf q)) : Q7 G (.call f args h) r := Q137 hG hv (Q117 l) (Qsp q) ht
theorem Qa {G : Nat → Option Fun} {m : Nat} {live : List Nat} {b : IR} {env : List PV} {h : List Ob} {vw : Views} (hv : VOK (look (number 0 h)) vw) {y : List PV × List Ob} {r : Rs} (l : List It) (q : List (An G)) (ht : Q13d m live b env h vw (hsOf l) (asOf q) = some (y, owOf l, akOf q)) (hr : Q7 G (.loop m live b y.1 y.2) r) : Q7 G (.loop m live b env h) r := Qpk hv (Q117 l) (Qsp q) ht hr
theorem Qe {G : Nat → Option Fun} {m : Nat} {live : List Nat} {b : IR} {env : List PV} {h : List Ob} {vw : Views} (hv : VOK (look (number 0 h)) vw) {x : Ex × St} (l : List It) (q : List (An G)) (ht : Qzx m b env h vw (hsOf l) (asOf q) = some (x, owOf l, akOf q)) : Q7 G (.loop m live b env h) (.st x.1 x.2) := Qtc hv (Q117 l) (Qsp q) ht
end Go.Pv
namespace Go.Pv
def hS {sz : Nat} {cells : List PV} {rows : List (List PV)} (ro : Nat) (gr : Bool) (h : ViewOK sz cells rows) : It := hQ (Q3j (ob := ⟨sz, ro, gr, cells⟩) h)
end Go.Pv
end

section
/-
  What a law is handed, as plain Lean values.
-/
namespace Go.Pv
def okI (k : IntKind) (n : Int) : Prop := (Lit.int k n).wf = true
def Qtt (n : Int) : Prop := -9223372036854775808 ≤ n ∧ n ≤ 9223372036854775807
def okU8 (n : Int) : Prop := 0 ≤ n ∧ n ≤ 255
theorem okI.i64 {n : Int} (h : okI .i64 n) : Qtt n := by
  unfold okI at h
  simp [Lit.wf, IntKind.min, IntKind.max, IntKind.signed, IntKind.bits] at h
  exact h
theorem okI.u8 {n : Int} (h : okI .u8 n) : okU8 n := by
  unfold okI at h
  simp [Lit.wf, IntKind.min, IntKind.max, IntKind.signed, IntKind.bits] at h
  unfold okU8
  omega
def okS (s : ByteArray) : Prop := s.size ≤ 140737488351232
section
variable {Γ : Nat → Option Ty}
theorem OfL.Q70 {f : Ty} {fs : List Ty} {c : List PV} (h : OfL Γ (f :: fs) c) : ∃ a b, c = a ++ b ∧ Of Γ f a ∧ OfL Γ fs b := by
  cases h with
  | cons _ _ a b h1 h2 => exact ⟨a, b, rfl, h1, h2⟩
theorem OfL.empty {c : List PV} (h : OfL Γ [] c) : c = [] := by cases h; rfl
theorem Of.str1 {c : List PV} (h : Of Γ .str c) : ∃ s, c = [.str s] ∧ okS s := by
  cases h with
  | str s h => exact ⟨s, rfl, h⟩
theorem Of.int1 {k : IntKind} {c : List PV} (h : Of Γ (.int k) c) : ∃ n, c = [.int k n] ∧ okI k n := by
  cases h with
  | int _ n h => exact ⟨n, rfl, h⟩
theorem Of.i64 {c : List PV} (h : Of Γ (.int .i64) c) : ∃ n, c = [.int .i64 n] ∧ Qtt n := by
  obtain ⟨n, h1, h2⟩ := h.int1
  exact ⟨n, h1, h2.i64⟩
theorem Of.u8 {c : List PV} (h : Of Γ (.int .u8) c) : ∃ n, c = [.int .u8 n] ∧ okU8 n := by
  obtain ⟨n, h1, h2⟩ := h.int1
  exact ⟨n, h1, h2.u8⟩
theorem Of.st1 {fs : List Ty} {c : List PV} (h : Of Γ (.st fs) c) : OfL Γ fs c := by
  cases h with
  | st _ _ h => exact h
theorem Q7l {α : Type} {f : α → List PV} {ok : α → Prop} : ∀ (l : List (List PV)), (∀ r ∈ l, ∃ x, r = f x ∧ ok x) → ∃ xs : List α, l = xs.map f ∧ ∀ x ∈ xs, ok x
  | [], _ => ⟨[], rfl, fun _ h => absurd h List.not_mem_nil⟩
  | r :: rs, h => by
    obtain ⟨x, hx, hok⟩ := h r List.mem_cons_self
    obtain ⟨xs, hxs, hoks⟩ := Q7l rs (fun q hq => h q (List.mem_cons_of_mem _ hq))
    refine ⟨x :: xs, by rw [hx, hxs]; rfl, fun y hy => ?_⟩
    rcases List.mem_cons.1 hy with rfl | hy
    · exact hok
    · exact hoks y hy
theorem Arg.one {ty : Ty} {p : PV} (h : Arg Γ ty p) (hs : ty.isSt Γ = false) : Of Γ ty [p] := by
  obtain ⟨c, hc, hp⟩ := h
  rw [hs] at hp
  have hp : c = [p] := hp
  subst hp
  exact hc
theorem Arg.agg {ty : Ty} {p : PV} (h : Arg Γ ty p) (hs : ty.isSt Γ = true) : ∃ c, p = .agg c ∧ Of Γ ty c := by
  obtain ⟨c, hc, hp⟩ := h
  rw [hs] at hp
  exact ⟨c, hp, hc⟩
end
end Go.Pv
end

section
/-
  Strings: equality and order.
-/
namespace Go.Pv
theorem Qpn (b : ByteArray) : ∀ (n i : Nat) (acc : List UInt8), b.size - i = n → ByteArray.toList.loop b i acc = acc.reverse ++ b.data.toList.drop i := by
  intro n
  induction n with
  | zero =>
    intro i acc h
    unfold ByteArray.toList.loop
    have h1 : ¬ i < b.size := by omega
    rw [if_neg h1]
    have : b.data.toList.drop i = [] := by
      rw [List.drop_eq_nil_iff]
      have : b.data.toList.length = b.size := Array.length_toList
      omega
    rw [this, List.append_nil]
  | succ n ih =>
    intro i acc h
    unfold ByteArray.toList.loop
    have h1 : i < b.size := by omega
    rw [if_pos h1, ih (i + 1) _ (by omega)]
    have hl : i < b.data.toList.length := by rw [show b.data.toList.length = b.size from Array.length_toList]; exact h1
    rw [List.drop_eq_getElem_cons hl, List.reverse_cons, List.append_assoc]
    congr 1
    simp only [List.singleton_append, List.cons.injEq, and_true]
    have : b.data.size = b.size := rfl
    simp [ByteArray.get!, h1, this]
theorem toList_data (b : ByteArray) : b.toList = b.data.toList := by
  unfold ByteArray.toList
  rw [Qpn b _ 0 [] rfl]
  simp
theorem toList_inj {a b : ByteArray} (h : a.toList = b.toList) : a = b := by
  rw [toList_data, toList_data] at h
  cases a
  cases b
  simp at h
  rw [h]
theorem Q3k {a b : ByteArray} : sEq a b = true ↔ a = b := by
  unfold sEq
  rw [beq_iff_eq]
  exact ⟨toList_inj, fun h => by rw [h]⟩
theorem Q13f (a b : ByteArray) : sEq a b = decide (a = b) := by
  rw [Bool.eq_iff_iff, Q3k]
  simp
mutual
inductive Val where
  | mk (kind n : Int) (s : ByteArray) (list : List Val) (fields : List Fld)
inductive Fld where
  | mk (name : ByteArray) (v : Val)
end
def Val.kind : Val → Int
  | .mk k _ _ _ _ => k
def Val.n : Val → Int
  | .mk _ n _ _ _ => n
def Val.s : Val → ByteArray
  | .mk _ _ s _ _ => s
def Val.list : Val → List Val
  | .mk _ _ _ l _ => l
def Val.fields : Val → List Fld
  | .mk _ _ _ _ f => f
def Fld.name : Fld → ByteArray
  | .mk n _ => n
def Fld.v : Fld → Val
  | .mk _ v => v
theorem Val.eta (v : Val) : Val.mk v.kind v.n v.s v.list v.fields = v := by cases v; rfl
theorem Fld.eta (f : Fld) : Fld.mk f.name f.v = f := by cases f; rfl
mutual
def Val.cs : Val → List PV
  | .mk k n s l f => [.int .i64 k, .int .i64 n, .str s, .sl (Val.css l), .sl (Fld.css f)]
def Val.css : List Val → List (List PV)
  | [] => []
  | v :: r => v.cs :: Val.css r
def Fld.css : List Fld → List (List PV)
  | [] => []
  | f :: r => f.cs :: Fld.css r
def Fld.cs : Fld → List PV
  | .mk n v => .str n :: v.cs
end
def Val.rows (l : List Val) : List (List PV) := Val.css l
def Fld.rows (l : List Fld) : List (List PV) := Fld.css l
def Val.cells (v : Val) : List PV := [.int .i64 v.kind, .int .i64 v.n, .str v.s, .sl (Val.rows v.list), .sl (Fld.rows v.fields)]
def Fld.cells (f : Fld) : List PV := [.str f.name, .int .i64 f.v.kind, .int .i64 f.v.n, .str f.v.s, .sl (Val.rows f.v.list), .sl (Fld.rows f.v.fields)]
theorem Val.Q12o (v : Val) : v.cs = v.cells := by cases v; rfl
theorem Fld.Q12o (f : Fld) : f.cs = f.cells := by
  cases f with
  | mk n v => cases v; rfl
theorem Val.Q58 : Val.rows [] = [] := rfl
theorem Fld.Q58 : Fld.rows [] = [] := rfl
theorem Val.Q3d (v : Val) (l : List Val) : Val.rows (v :: l) = v.cells :: Val.rows l := by
  rw [← Val.Q12o]
  rfl
theorem Fld.Q3d (v : Fld) (l : List Fld) : Fld.rows (v :: l) = v.cells :: Fld.rows l := by
  rw [← Fld.Q12o]
  rfl
theorem Val.Q2h : ∀ l : List Val, Val.rows l = l.map Val.cells
  | [] => rfl
  | v :: r => by rw [Val.Q3d, Val.Q2h r]; rfl
theorem Fld.Q2h : ∀ l : List Fld, Fld.rows l = l.map Fld.cells
  | [] => rfl
  | v :: r => by rw [Fld.Q3d, Fld.Q2h r]; rfl
theorem Val.Qd (l : List Val) : (Val.rows l).length = l.length := by simp [Val.Q2h]
theorem Fld.Qd (l : List Fld) : (Fld.rows l).length = l.length := by simp [Fld.Q2h]
theorem Val.Qf {l : List Val} {i : Nat} {x : Val} (h : l[i]? = some x) : (Val.rows l)[i]? = some (Val.cells x) := by rw [Val.Q2h]; exact Go.Pv.Qf h
theorem Fld.Qf {l : List Fld} {i : Nat} {x : Fld} (h : l[i]? = some x) : (Fld.rows l)[i]? = some (Fld.cells x) := by rw [Fld.Q2h]; exact Go.Pv.Qf h
theorem Val.Q2l (l : List Val) (x : Val) : Val.rows (l ++ [x]) = Val.rows l ++ [Val.cells x] := by simp [Val.Q2h]
theorem Fld.Q2l (l : List Fld) (x : Fld) : Fld.rows (l ++ [x]) = Fld.rows l ++ [Fld.cells x] := by simp [Fld.Q2h]
theorem Val.Qam (l : List Val) (n : Nat) : Val.rows (l.take n) = (Val.rows l).take n := by simp [Val.Q2h, List.map_take]
theorem Fld.Qam (l : List Fld) (n : Nat) : Fld.rows (l.take n) = (Fld.rows l).take n := by simp [Fld.Q2h, List.map_take]
theorem Val.Ql (l : List Val) : ∀ r ∈ Val.rows l, r.length = 5 := by rw [Val.Q2h]; exact Q108 (f := Val.cells) (fun _ => rfl) l
theorem Fld.Ql (l : List Fld) : ∀ r ∈ Fld.rows l, r.length = 6 := by rw [Fld.Q2h]; exact Q108 (f := Fld.cells) (fun _ => rfl) l
theorem Val.Q5 (l : List Val) (sz : Nat) (h : sz = 5) : ViewOK sz (Val.rows l).flatten (Val.rows l) := by subst h; exact ⟨rfl, Val.Ql l, by rw [Val.Q2h]; exact Qs4 (f := Val.cells) (fun _ => rfl) l⟩
theorem Fld.Q5 (l : List Fld) (sz : Nat) (h : sz = 6) : ViewOK sz (Fld.rows l).flatten (Fld.rows l) := by subst h; exact ⟨rfl, Fld.Ql l, by rw [Fld.Q2h]; exact Qs4 (f := Fld.cells) (fun _ => rfl) l⟩
theorem Val.Q25 (v : Val) : SizeOf.sizeOf v.list < SizeOf.sizeOf v := by
  cases v with
  | mk k n s l f => simp only [Val.list, Val.mk.sizeOf_spec]; omega
theorem Val.Q1g (v : Val) : SizeOf.sizeOf v.fields < SizeOf.sizeOf v := by
  cases v with
  | mk k n s l f => simp only [Val.fields, Val.mk.sizeOf_spec]; omega
theorem Fld.lt_v (f : Fld) : SizeOf.sizeOf f.v < SizeOf.sizeOf f := by
  cases f with
  | mk n v => simp only [Fld.v, Fld.mk.sizeOf_spec]; omega
theorem szL {v x : Val} {i : Nat} (h : v.list[i]? = some x) : SizeOf.sizeOf x < SizeOf.sizeOf v :=
  Nat.lt_trans (List.sizeOf_lt_of_mem (Q1f h)) v.Q25
theorem szF {v : Val} {x : Fld} {i : Nat} (h : v.fields[i]? = some x) : SizeOf.sizeOf x.v < SizeOf.sizeOf v :=
  Nat.lt_trans x.lt_v (Nat.lt_trans (List.sizeOf_lt_of_mem (Q1f h)) v.Q1g)
inductive Val.Sm (B : Nat) : Val → Prop
  | mk (v : Val) (hl : v.list.length ≤ B) (hf : v.fields.length ≤ B) (sl : ∀ x ∈ v.list, Val.Sm B x) (sf : ∀ x ∈ v.fields, Val.Sm B x.v) : Val.Sm B v
theorem Val.Sm.all {B : Nat} {v : Val} (h : Val.Sm B v) : v.list.length ≤ B ∧ v.fields.length ≤ B ∧ (∀ x ∈ v.list, Val.Sm B x) ∧ (∀ x ∈ v.fields, Val.Sm B x.v) := by
  cases h with
  | mk _ h1 h2 h3 h4 => exact ⟨h1, h2, h3, h4⟩
theorem Val.Sm.mono {B C : Nat} (hb : B ≤ C) {v : Val} (h : Val.Sm B v) : Val.Sm C v := by
  induction h with
  | mk v h1 h2 _ _ i1 i2 => exact .mk v (by omega) (by omega) i1 i2
theorem Val.Sm.leaf {B : Nat} (k n : Int) (s : ByteArray) : Val.Sm B (.mk k n s [] []) := .mk _ (Nat.zero_le _) (Nat.zero_le _) (fun _ h => by cases h) (fun _ h => by cases h)
theorem Val.Sm.getD {B : Nat} {l : List Val} (h : ∀ x ∈ l, Val.Sm B x) (i : Nat) (k n : Int) (s : ByteArray) : Val.Sm B (l.getD i (.mk k n s [] [])) := by
  by_cases c : i < l.length
  · have := Qu l i (.mk k n s [] []) c
    exact h _ (Q1f this)
  · rw [List.getD_eq_getElem?_getD, List.getElem?_eq_none (by omega)]
    exact .leaf k n s
inductive Q2w : Val → Prop
  | mk (v : Val) (h1 : Qtt v.kind) (h2 : Qtt v.n) (h3 : okS v.s) (hl : v.list.length * 80 ≤ 140737488351232) (hf : v.fields.length * 96 ≤ 140737488351232) (sl : ∀ x ∈ v.list, Q2w x) (sn : ∀ x ∈ v.fields, okS x.name) (sf : ∀ x ∈ v.fields, Q2w x.v) : Q2w v
def Q14o (f : Fld) : Prop := okS f.name ∧ Q2w f.v
theorem Q2w.all {v : Val} (h : Q2w v) : Qtt v.kind ∧ Qtt v.n ∧ okS v.s ∧ v.list.length * 80 ≤ 140737488351232 ∧ v.fields.length * 96 ≤ 140737488351232 ∧ (∀ x ∈ v.list, Q2w x) ∧ (∀ x ∈ v.fields, okS x.name ∧ Q2w x.v) := by
  cases h with
  | mk _ a b c d e f n g => exact ⟨a, b, c, d, e, f, fun x hx => ⟨n x hx, g x hx⟩⟩
theorem Q2w.sm {v : Val} (h : Q2w v) : Val.Sm 4611686018427387904 v := by
  induction h with
  | mk v _ _ _ hl hf _ _ _ i1 i2 => exact .mk v (by omega) (by omega) i1 i2
def Q6h (t : Nat) : Ty := .st [.int .i64, .int .i64, .str, .sl 80 (.nm t), .sl 96 (.st [.str, .nm t])]
theorem Qbx {Γ : Nat → Option Ty} {t : Nat} (hΓ : Γ t = some (Q6h t)) : ∀ (k : Nat) (c : List PV), SizeOf.sizeOf c < k → Of Γ (.nm t) c → ∃ v : Val, c = v.cells ∧ Q2w v
  | 0, _, h, _ => absurd h (Nat.not_lt_zero _)
  | k + 1, c, hk, h => by
    have hb : Of Γ (Q6h t) c := by
      cases h with
      | nm _ ty _ hg h =>
        rw [hΓ] at hg
        injection hg with hg
        subst hg
        exact h
    have g0 := hb.st1
    obtain ⟨a0, b0, rfl, h0, g1⟩ := g0.Q70
    obtain ⟨x0, rfl, k0⟩ := h0.i64
    obtain ⟨a1, b1, rfl, h1, g2⟩ := g1.Q70
    obtain ⟨x1, rfl, k1⟩ := h1.i64
    obtain ⟨a2, b2, rfl, h2, g3⟩ := g2.Q70
    obtain ⟨x2, rfl, k2⟩ := h2.str1
    obtain ⟨a3, b3, rfl, h3, g4⟩ := g3.Q70
    obtain ⟨a4, b4, rfl, h4, g5⟩ := g4.Q70
    have e := g5.empty
    subst e
    cases h3 with
    | sl _ _ l3 hl3 hr3 =>
    cases h4 with
    | sl _ _ l4 hl4 hr4 =>
    have s3 : SizeOf.sizeOf l3 < k := by simp at hk; omega
    have s4 : SizeOf.sizeOf l4 < k := by simp at hk; omega
    obtain ⟨x3, rfl, k3⟩ := Q7l (f := Val.cells) (ok := Q2w) l3 (fun r hr' => Qbx hΓ k r (by have := List.sizeOf_lt_of_mem hr'; omega) (hr3 r hr'))
    obtain ⟨x4, rfl, k4⟩ := Q7l (f := Fld.cells) (ok := Q14o) l4 (fun r hr' => by
      have q0 := (hr4 r hr').st1
      obtain ⟨c0, d0, rfl, i0, q1⟩ := q0.Q70
      obtain ⟨y0, rfl, m0⟩ := i0.str1
      obtain ⟨c1, d1, rfl, i1, q2⟩ := q1.Q70
      have e := q2.empty
      subst e
      obtain ⟨y1, rfl, m1⟩ := Qbx hΓ k c1 (by have := List.sizeOf_lt_of_mem hr'; simp at this; omega) i1
      exact ⟨.mk y0 y1, by simp [Fld.cells, Val.cells, Fld.name, Fld.v], m0, m1⟩)
    rw [List.length_map] at hl3 hl4
    refine ⟨.mk x0 x1 x2 x3 x4, ?_, .mk _ k0 k1 k2 hl3 hl4 k3 (fun x hx => (k4 x hx).1) (fun x hx => (k4 x hx).2)⟩
    simp [Val.cells, Val.kind, Val.n, Val.s, Val.list, Val.fields, Val.Q2h, Fld.Q2h]
theorem Qrw {Γ : Nat → Option Ty} {t : Nat} (hΓ : Γ t = some (Q6h t)) {c : List PV} (h : Of Γ (.nm t) c) : ∃ v : Val, c = v.cells ∧ Q2w v := Qbx hΓ _ c (Nat.lt_succ_self _) h
theorem Q2c {α : Type} [SizeOf α] (x : α) (r : List α) : SizeOf.sizeOf x < SizeOf.sizeOf (x :: r) := by
  simp only [List.cons.sizeOf_spec]
  omega
theorem Q24 {α : Type} [SizeOf α] (x : α) (r : List α) : SizeOf.sizeOf r < SizeOf.sizeOf (x :: r) := by
  simp only [List.cons.sizeOf_spec]
  omega
theorem Q1r (x : Fld) (r : List Fld) : SizeOf.sizeOf x.v < SizeOf.sizeOf (x :: r) := Nat.lt_trans x.lt_v (Q2c x r)
def gam (t : Nat) : Nat → Option Ty := fun k => bif Nat.beq k t then some (Q6h t) else none
theorem Q126 (t : Nat) : gam t t = some (Q6h t) := by simp [gam]
theorem gam_tab {P : Program} {t : Nat} (h : Q7c P (gam t) (Q6h t) t = true) : TabOK P (gam t) := by
  intro k ty hk
  unfold gam at hk
  cases c : Nat.beq k t with
  | false => rw [c] at hk; cases hk
  | true =>
    rw [c] at hk
    simp only [cond_true, Option.some.injEq] at hk
    subst hk
    rw [Nat.eq_of_beq_eq_true c]
    exact ⟨rfl, h⟩
end Go.Pv
namespace Go.Pv
theorem Q113 {G : Nat → Option Fun} {e e' : En} {r : Rs} (h : Q7 G e r) (he : e = e') : Q7 G e' r := he ▸ h
end Go.Pv
end

section
/- Strings byte by byte; rows that are cloned. -/
namespace Go.Pv
def letters (s : ByteArray) : List Int := s.data.toList.map fun b => (b.toNat : Int)
theorem Q42 (s : ByteArray) : (letters s).length = s.size := by
  unfold letters
  rw [List.length_map, Array.length_toList]
  rfl
def sixE (s : ByteArray) (i : Int) : Option Eff := (opP (fun _ => .un) (.index (.c (.str s)) (.c (.int .i64 i)))).bind fun v => some ⟨v, [], []⟩
theorem Q1c (s : ByteArray) (i : Nat) (x : Int) (h : (letters s)[i]? = some x) : sixE s (i : Int) = some (vE (.int .u8 x)) := by
  unfold sixE
  simp only [opP, Opd.ev, asNat]
  rw [show decide (0 ≤ (i : Int)) = true by simp]
  simp only [cond_true, Option.bind_some, Int.toNat_natCast]
  unfold letters at h
  rw [List.getElem?_map, Array.getElem?_toList] at h
  cases e : s.data[i]? with
  | none => rw [e] at h; cases h
  | some b =>
    rw [e] at h
    injection h with h
    subst h
    rfl
theorem Qtm : ∀ p, plain p = true → bare p = true := fun p h => by cases p <;> first | rfl | (cases h)
theorem Q5c {G : Nat → Option Fun} {f sz bytes : Nat} (hG : G f = some (.ax (Qh8 sz bytes))) {rows : List (List PV)} {n : Nat} (hn : rows.length = n) (hv : ViewOK sz rows.flatten rows) (hb : n * bytes ≤ 140737488355328) :
    Q7 G (.call f [.sl rows] []) (.ret (.ms 0 sz 0 n) [⟨sz, 0, true, rows.flatten⟩]) := by
  refine ⟨1, ?_⟩
  subst hn
  simp only [runs, phi, hG, Qh8]
  have h1 : Q8k rows sz = true := Q103 hv.size
  have h2 : rows.flatten.all bare = true := List.all_eq_true.2 fun p hp => Qtm p (hv.all p hp)
  rw [h1, h2, Nat.ble_eq_true_of_le hb]
  rfl
end Go.Pv
namespace Go.Pv
theorem szM {v x : Val} (h : x ∈ v.list) : SizeOf.sizeOf x < SizeOf.sizeOf v := Nat.lt_trans (List.sizeOf_lt_of_mem h) v.Q25
theorem szN {v : Val} {x : Fld} (h : x ∈ v.fields) : SizeOf.sizeOf x.v < SizeOf.sizeOf v := Nat.lt_trans x.lt_v (Nat.lt_trans (List.sizeOf_lt_of_mem h) v.Q1g)
end Go.Pv
end

section
/-
  What a law is handed, where its bulk is bounded: nothing within is longer.
-/
namespace Go.Pv
open Go.RowKit
inductive Cap (N : Nat) : PV → Prop
  | bool (b : Bool) : Cap N (.bool b)
  | int (k : IntKind) (n : Int) : Cap N (.int k n)
  | str (s : ByteArray) (h : s.size ≤ N) : Cap N (.str s)
  | sl (l : List (List PV)) (h : l.length ≤ N) (hl : ∀ r ∈ l, ∀ p ∈ r, Cap N p) : Cap N (.sl l)
def CapL (N : Nat) (c : List PV) : Prop := ∀ p ∈ c, Cap N p
theorem CapL.one {N : Nat} {p : PV} (h : Cap N p) : CapL N [p] := fun q hq => by
  rw [List.mem_singleton] at hq
  subst hq
  exact h
inductive CapD {H : Type} (N : Nat) : DataW H → Prop
  | lit (l : Lit) (h : ∀ b, l = .string b → b.length ≤ N) : CapD N (.lit l)
  | agg (parts : List (DataW H)) (h : ∀ d ∈ parts, CapD N d) : CapD N (.agg parts)
  | slice (elems spare : List (DataW H)) (h : elems.length ≤ N) (hl : ∀ d ∈ elems, CapD N d) : CapD N (.slice elems spare)
  | nil : CapD N .nil
  | ptr (d : DataW H) : CapD N (.ptr d)
  | iface (t : String) (d : DataW H) : CapD N (.iface t d)
  | map (e : List (Lit × DataW H)) : CapD N (.map e)
  | held (h : H) : CapD N (.held h)
def ArgB (Γ : Nat → Option Ty) (N : Nat) (ty : Ty) (p : PV) : Prop := ∃ c, Of Γ ty c ∧ CapL N c ∧ (bif ty.isSt Γ then p = .agg c else c = [p])
section
variable {H : Type} {enc : TypeId × Value → H} {P : Program} {w : World} {base : Nat} {sp : Nat → Bool} {held : Bool} {Γ : Nat → Option Ty} {N : Nat}
end
theorem ArgB.one {Γ : Nat → Option Ty} {N : Nat} {ty : Ty} {p : PV} (h : ArgB Γ N ty p) (hs : ty.isSt Γ = false) : Of Γ ty [p] ∧ CapL N [p] := by
  obtain ⟨c, hc, hb, hp⟩ := h
  rw [hs] at hp
  have hp : c = [p] := hp
  subst hp
  exact ⟨hc, hb⟩
theorem ArgB.agg {Γ : Nat → Option Ty} {N : Nat} {ty : Ty} {p : PV} (h : ArgB Γ N ty p) (hs : ty.isSt Γ = true) : ∃ c, p = .agg c ∧ Of Γ ty c ∧ CapL N c := by
  obtain ⟨c, hc, hb, hp⟩ := h
  rw [hs] at hp
  exact ⟨c, hp, hc, hb⟩
end Go.Pv
end

section
/- What the functions on values compute (printed by a program). -/
namespace Go.Proofs.Ytnhhddbbppbblaa
open Go.Pv
abbrev G : Nat → Option Fun := tabG Ir.table
abbrev Γ : Nat → Option Ty := gam 25
theorem Q11n (a b : ByteArray) : Q7 G (.call 54 [.str a, .str b] []) (.ret (.int .i64 (sCmp a b)) []) := ⟨1, by kernel_rfl⟩
mutual
def Q47 (p0 : Val) (p1 : Int) : Int :=
 (Q34 p0 p0.fields 0 (Q2m p0 p0.list 0 (w64 ((w64 (p1 - 1)) - (ByteArray.size p0.s : Int)))))
termination_by SizeOf.sizeOf p0
decreasing_by all_goals first | exact Val.Q25 _ | exact Val.Q1g _ | exact Q2c _ _ | exact Q24 _ _ | exact Q1r _ _
def Q2m (p0 : Val) : List Val → Nat → Int → Int
 | [], _i0, v0_1 =>
  v0_1
 | x0 :: r0, i0, v0_1 =>
  bif (decide (0 ≤ v0_1)) then
   Q2m p0 r0 (i0 + 1) (Q47 x0 v0_1)
  else
   v0_1
termination_by l => SizeOf.sizeOf l
decreasing_by all_goals first | exact Val.Q25 _ | exact Val.Q1g _ | exact Q2c _ _ | exact Q24 _ _ | exact Q1r _ _
def Q34 (p0 : Val) : List Fld → Nat → Int → Int
 | [], _i1, v1_1 =>
  v1_1
 | x1 :: r1, i1, v1_1 =>
  bif (decide (0 ≤ v1_1)) then
   Q34 p0 r1 (i1 + 1) (Q47 x1.v (w64 (v1_1 - (ByteArray.size x1.name : Int))))
  else
   v1_1
termination_by l => SizeOf.sizeOf l
decreasing_by all_goals first | exact Val.Q25 _ | exact Val.Q1g _ | exact Q2c _ _ | exact Q24 _ _ | exact Q1r _ _
end
def Qme (_p0 : Val) (i0 : Nat) (v0_1 : Int) : List PV :=
  [.un, .int .i64 v0_1, .bx 0 0, .un, .un, .int .i64 (i0 : Int), .un, .un, .un, .un, .un, .un, .un, .un, .un, .un, .un, .un, .un, .un, .un, .un, .un, .un, .un, .un, .un, .un, .un, .un, .un, .un, .un, .un, .un, .un, .un, .un, .un, .un, .un, .un, .un, .un, .un, .un, .un, .un, .un, .un, .un, .un, .un, .un, .un, .un, .un, .un, .un]
def Qmu (p0 : Val) (_i0 : Nat) (_v0_1 : Int) : List Ob :=
  [⟨5, 0, true, [.int .i64 p0.kind, .int .i64 p0.n, .str p0.s, .sl (Val.rows p0.list), .sl (Fld.rows p0.fields)]⟩]
def Q8r (p0 : Val) (i0 : Nat) (v0_1 : Int) : En := .loop 0 Ir.Qcb Ir.Q12i (Qme p0 i0 v0_1) (Qmu p0 i0 v0_1)
def Q9g (p0 : Val) (q0 : Int) (z : Nat → PV) (_zo : Nat → List PV) : St :=
  ⟨[z 0, .int .i64 q0, .bx 0 0, z 3, z 4, z 5, z 6, z 7, z 8, z 9, z 10, z 11, z 12, z 13, z 14, z 15, z 16, z 17, z 18, z 19, z 20, z 21, z 22, z 23, z 24, z 25, z 26, z 27, z 28, z 29, z 30, z 31, z 32, z 33, z 34, z 35, z 36, z 37, z 38, z 39, z 40, z 41, z 42, z 43, z 44, z 45, z 46, z 47, z 48, z 49, z 50, z 51, z 52, z 53, z 54, z 55, z 56, z 57, z 58], [(0, ⟨5, 0, true, [.int .i64 p0.kind, .int .i64 p0.n, .str p0.s, .sl (Val.rows p0.list), .sl (Fld.rows p0.fields)]⟩)], 577⟩
def Q7w (p0 : Val) (e : En) (q : Int) : Prop := ∃ z zo, Q7 G e (.st (.exit 0) (Q9g p0 q z zo))
theorem Qjx (p0 : Val) {e e' : En} (h : ∀ r, Q7 G e r → Q7 G e' r) : ∀ q, Q7w p0 e q → Q7w p0 e' q
  | _, ⟨z, zo, hz⟩ => ⟨z, zo, h _ hz⟩
def Qnh (_p0 : Val) (i1 : Nat) (v1_1 : Int) : List PV :=
  [.un, .int .i64 v1_1, .bx 0 0, .un, .un, .un, .int .i64 (i1 : Int), .un, .un, .un, .un, .un, .un, .un, .un, .un, .un, .un, .un, .un, .un, .un, .un, .un, .un, .un, .un, .un, .un, .un, .un, .un, .un, .un, .un, .un, .un, .un, .un, .un, .un, .un, .un, .un, .un, .un, .un, .un, .un, .un, .un, .un, .un, .un, .un, .un, .un, .un, .un]
def Qof (p0 : Val) (_i1 : Nat) (_v1_1 : Int) : List Ob :=
  [⟨5, 0, true, [.int .i64 p0.kind, .int .i64 p0.n, .str p0.s, .sl (Val.rows p0.list), .sl (Fld.rows p0.fields)]⟩]
def Q8i (p0 : Val) (i1 : Nat) (v1_1 : Int) : En := .loop 0 Ir.Qd5 Ir.Q129 (Qnh p0 i1 v1_1) (Qof p0 i1 v1_1)
def Q97 (p0 : Val) (q0 : Int) (z : Nat → PV) (_zo : Nat → List PV) : St :=
  ⟨[z 0, .int .i64 q0, z 2, z 3, z 4, z 5, z 6, z 7, z 8, z 9, z 10, z 11, z 12, z 13, z 14, z 15, z 16, z 17, z 18, z 19, z 20, z 21, z 22, z 23, z 24, z 25, z 26, z 27, z 28, z 29, z 30, z 31, z 32, z 33, z 34, z 35, z 36, z 37, z 38, z 39, z 40, z 41, z 42, z 43, z 44, z 45, z 46, z 47, z 48, z 49, z 50, z 51, z 52, z 53, z 54, z 55, z 56, z 57, z 58], [(0, ⟨5, 0, true, [.int .i64 p0.kind, .int .i64 p0.n, .str p0.s, .sl (Val.rows p0.list), .sl (Fld.rows p0.fields)]⟩)], 577⟩
def Q96 (p0 : Val) (e : En) (q : Int) : Prop := ∃ z zo, Q7 G e (.st (.exit 2) (Q97 p0 q z zo))
theorem Qkv (p0 : Val) {e e' : En} (h : ∀ r, Q7 G e r → Q7 G e' r) : ∀ q, Q96 p0 e q → Q96 p0 e' q
  | _, ⟨z, zo, hz⟩ => ⟨z, zo, h _ hz⟩
def Q10i (p0 : Val) (p1 : Int) : En := .call 37 [.agg (Val.cells p0), .int .i64 p1] []
def Qwm (p0 : Val) (p1 : Int) : Rs := .ret (.int .i64 (Q47 p0 p1)) []
abbrev Qng (p0 : Val) : Prop := Val.Sm 4611686018427387904 p0
def Q5h (p0 : Val) : Prop := ∀ (q : Val), SizeOf.sizeOf q < SizeOf.sizeOf p0 → ∀ (p1 : Int), Qng q → Q7 G (Q10i q p1) (Qwm q p1)
def Q6k (p0 : Val) : Prop := (List.length p0.list ≤ 4611686018427387904) ∧ (∀ x0 ∈ p0.list, Qng x0) ∧ True
def Q6j (p0 : Val) : Prop := (List.length p0.fields ≤ 4611686018427387904) ∧ (∀ x1 ∈ p0.fields, Qng x1.v) ∧ True
theorem Qrg (p0 : Val) (_p1 : Int) (H : Qng p0) : (Q6k p0) ∧ (Q6j p0) ∧ True := by
  obtain ⟨h1, h2, h3, h4⟩ := H.all
  simp only [Q6k, Q6j]
  exact ⟨⟨h1, h3, trivial⟩, ⟨h2, h4, trivial⟩, trivial⟩
def Qgu (p0 : Val) (i0 : Nat) (_v0_1 : Int) : List PV :=
  [.un, .un, .un, .un, .un, .int .i64 (i0 : Int), .un, .un, .un, .un, .un, .un, .un, .int .i64 (i0 : Int), .bx 0 3, .sl (Val.rows p0.list), .int .i64 ((List.length p0.list) : Int), .bool false, .bool false, .tup [], .tup [], .bool false]
def Qdy (_p0 : Val) (_i0 : Nat) (_v0_1 : Int) : List (Nat × List PV) :=
  []
theorem Qth (p0 : Val) (_H : Q6k p0) (_rec : Q5h p0) (i0 : Nat) (v0_1 : Int) (hc0 : (decide ((i0 : Int) < ((List.length p0.list) : Int))) = false) : Q7w p0 (Q8r p0 i0 v0_1) v0_1 := by
 exact ⟨(envF (Qgu p0 i0 v0_1)), (zoF (Qdy p0 i0 v0_1)), Qe VOK.nil (x := ((.exit 0), Q9g p0 v0_1 (envF (Qgu p0 i0 v0_1)) (zoF (Qdy p0 i0 v0_1)))) [hP 3 (Qj (Val.rows p0.list) (List.length p0.list) (Val.Qd p0.list)), hB 0 hc0] [] (by kernel_rfl)⟩
theorem Quc (p0 : Val) (H : Q6k p0) (rec : Q5h p0) (x0 : Val) (i0 : Nat) (v0_1 : Int) (hx0 : p0.list[i0]? = some x0) (hi0 : i0 < List.length p0.list) (hc0 : (decide ((i0 : Int) < ((List.length p0.list) : Int))) = true) (h0 : (decide (0 ≤ v0_1)) = true) {r : Rs} (hr : Q7 G (Q8r p0 (i0 + 1) (Q47 x0 v0_1)) r) : Q7 G (Q8r p0 i0 v0_1) r := by
 have hB0 := H.1; have e0 := of_decide_eq_true h0
 exact Qa VOK.nil (y := (Qme p0 (i0 + 1) (Q47 x0 v0_1), Qmu p0 (i0 + 1) (Q47 x0 v0_1))) [hP 3 (Qj (Val.rows p0.list) (List.length p0.list) (Val.Qd p0.list)), hB 0 hc0, hB 2 h0, hP 4 (Q1h 5 (Val.rows p0.list) i0 _ (Val.Qf hx0) rfl), hP 5 (Qs i0 (by omega))] [aN (rec x0 (szL hx0) v0_1 (H.2.1 x0 (Q1f hx0)))] (by kernel_rfl) hr
def Qhf (p0 : Val) (i0 : Nat) (v0_1 : Int) (_x0 : Val) : List PV :=
  [.un, .un, .un, .un, .un, .int .i64 (i0 : Int), .un, .un, .un, .un, .un, .un, .un, .int .i64 (i0 : Int), .bx 0 3, .sl (Val.rows p0.list), .int .i64 ((List.length p0.list) : Int), .bool true, .bool true, .int .i64 v0_1, .bool false, .bool false]
def Qdp (_p0 : Val) (_i0 : Nat) (_v0_1 : Int) (_x0 : Val) : List (Nat × List PV) :=
  []
theorem Qvw (p0 : Val) (_H : Q6k p0) (_rec : Q5h p0) (x0 : Val) (i0 : Nat) (v0_1 : Int) (_hx0 : p0.list[i0]? = some x0) (_hi0 : i0 < List.length p0.list) (hc0 : (decide ((i0 : Int) < ((List.length p0.list) : Int))) = true) (h0 : (decide (0 ≤ v0_1)) = false) : Q7w p0 (Q8r p0 i0 v0_1) v0_1 := by
 exact ⟨(envF (Qhf p0 i0 v0_1 x0)), (zoF (Qdp p0 i0 v0_1 x0)), Qe VOK.nil (x := ((.exit 0), Q9g p0 v0_1 (envF (Qhf p0 i0 v0_1 x0)) (zoF (Qdp p0 i0 v0_1 x0)))) [hP 3 (Qj (Val.rows p0.list) (List.length p0.list) (Val.Qd p0.list)), hB 0 hc0, hB 2 h0] [] (by kernel_rfl)⟩
theorem Qlg (p0 : Val) (H : Q6k p0) (rec : Q5h p0) : ∀ (r0 : List Val) (i0 : Nat) (v0_1 : Int), List.drop i0 p0.list = r0 → Q7w p0 (Q8r p0 i0 v0_1) (Q2m p0 r0 i0 v0_1)
 | [], i0, v0_1, hd => by
  have hc0 : (decide ((i0 : Int) < ((List.length p0.list) : Int))) = false := by have := Q1m hd; simp; omega
  rw [Q2m]
  exact Qth p0 H rec i0 v0_1 hc0
 | x0 :: r0, i0, v0_1, hd => by
  obtain ⟨hx0, hi0, hd'⟩ := Q18 hd
  have hc0 : (decide ((i0 : Int) < ((List.length p0.list) : Int))) = true := by simp; omega
  rw [Q2m]
  cases h0 : (decide (0 ≤ v0_1)) with
  | true =>
   exact Qjx p0 (fun r hr => Quc p0 H rec x0 i0 v0_1 hx0 hi0 hc0 h0 hr) _ (Qlg p0 H rec r0 (i0 + 1) (Q47 x0 v0_1) hd')
  | false =>
   exact Qvw p0 H rec x0 i0 v0_1 hx0 hi0 hc0 h0
def Qj2 (p0 : Val) (i1 : Nat) (_v1_1 : Int) : List PV :=
  [.un, .un, .bx 0 0, .un, .un, .un, .int .i64 (i1 : Int), .un, .un, .un, .un, .un, .un, .un, .un, .un, .un, .un, .un, .un, .un, .un, .un, .un, .un, .un, .un, .un, .un, .un, .un, .int .i64 (i1 : Int), .bx 0 4, .sl (Fld.rows p0.fields), .int .i64 ((List.length p0.fields) : Int), .bool false, .bool false, .tup [], .tup [], .bool false]
def Qf3 (_p0 : Val) (_i1 : Nat) (_v1_1 : Int) : List (Nat × List PV) :=
  []
theorem Qv0 (p0 : Val) (_H : Q6j p0) (_rec : Q5h p0) (i1 : Nat) (v1_1 : Int) (hc1 : (decide ((i1 : Int) < ((List.length p0.fields) : Int))) = false) : Q96 p0 (Q8i p0 i1 v1_1) v1_1 := by
 exact ⟨(envF (Qj2 p0 i1 v1_1)), (zoF (Qf3 p0 i1 v1_1)), Qe VOK.nil (x := ((.exit 2), Q97 p0 v1_1 (envF (Qj2 p0 i1 v1_1)) (zoF (Qf3 p0 i1 v1_1)))) [hP 3 (Qj (Fld.rows p0.fields) (List.length p0.fields) (Fld.Qd p0.fields)), hB 0 hc1] [] (by kernel_rfl)⟩
theorem Qv2 (p0 : Val) (H : Q6j p0) (rec : Q5h p0) (x1 : Fld) (i1 : Nat) (v1_1 : Int) (hx1 : p0.fields[i1]? = some x1) (hi1 : i1 < List.length p0.fields) (hc1 : (decide ((i1 : Int) < ((List.length p0.fields) : Int))) = true) (h0 : (decide (0 ≤ v1_1)) = true) {r : Rs} (hr : Q7 G (Q8i p0 (i1 + 1) (Q47 x1.v (w64 (v1_1 - (ByteArray.size x1.name : Int))))) r) : Q7 G (Q8i p0 i1 v1_1) r := by
 have hB0 := H.1; have e0 := of_decide_eq_true h0
 exact Qa VOK.nil (y := (Qnh p0 (i1 + 1) (Q47 x1.v (w64 (v1_1 - (ByteArray.size x1.name : Int)))), Qof p0 (i1 + 1) (Q47 x1.v (w64 (v1_1 - (ByteArray.size x1.name : Int)))))) [hP 3 (Qj (Fld.rows p0.fields) (List.length p0.fields) (Fld.Qd p0.fields)), hB 0 hc1, hB 2 h0, hP 4 (Q1h 6 (Fld.rows p0.fields) i1 _ (Fld.Qf hx1) rfl), hP 6 (Q1h 6 (Fld.rows p0.fields) i1 _ (Fld.Qf hx1) rfl), hP 7 (Qs i1 (by omega))] [aN (rec x1.v (szF hx1) (w64 (v1_1 - (ByteArray.size x1.name : Int))) (H.2.1 x1 (Q1f hx1)))] (by kernel_rfl) hr
def Qgq (p0 : Val) (i1 : Nat) (v1_1 : Int) (_x1 : Fld) : List PV :=
  [.un, .un, .bx 0 0, .un, .un, .un, .int .i64 (i1 : Int), .un, .un, .un, .un, .un, .un, .un, .un, .un, .un, .un, .un, .un, .un, .un, .un, .un, .un, .un, .un, .un, .un, .un, .un, .int .i64 (i1 : Int), .bx 0 4, .sl (Fld.rows p0.fields), .int .i64 ((List.length p0.fields) : Int), .bool true, .bool true, .int .i64 v1_1, .bool false, .bool false]
def Qda (_p0 : Val) (_i1 : Nat) (_v1_1 : Int) (_x1 : Fld) : List (Nat × List PV) :=
  []
theorem Qtj (p0 : Val) (_H : Q6j p0) (_rec : Q5h p0) (x1 : Fld) (i1 : Nat) (v1_1 : Int) (_hx1 : p0.fields[i1]? = some x1) (_hi1 : i1 < List.length p0.fields) (hc1 : (decide ((i1 : Int) < ((List.length p0.fields) : Int))) = true) (h0 : (decide (0 ≤ v1_1)) = false) : Q96 p0 (Q8i p0 i1 v1_1) v1_1 := by
 exact ⟨(envF (Qgq p0 i1 v1_1 x1)), (zoF (Qda p0 i1 v1_1 x1)), Qe VOK.nil (x := ((.exit 2), Q97 p0 v1_1 (envF (Qgq p0 i1 v1_1 x1)) (zoF (Qda p0 i1 v1_1 x1)))) [hP 3 (Qj (Fld.rows p0.fields) (List.length p0.fields) (Fld.Qd p0.fields)), hB 0 hc1, hB 2 h0] [] (by kernel_rfl)⟩
theorem Qm3 (p0 : Val) (H : Q6j p0) (rec : Q5h p0) : ∀ (r1 : List Fld) (i1 : Nat) (v1_1 : Int), List.drop i1 p0.fields = r1 → Q96 p0 (Q8i p0 i1 v1_1) (Q34 p0 r1 i1 v1_1)
 | [], i1, v1_1, hd => by
  have hc1 : (decide ((i1 : Int) < ((List.length p0.fields) : Int))) = false := by have := Q1m hd; simp; omega
  rw [Q34]
  exact Qv0 p0 H rec i1 v1_1 hc1
 | x1 :: r1, i1, v1_1, hd => by
  obtain ⟨hx1, hi1, hd'⟩ := Q18 hd
  have hc1 : (decide ((i1 : Int) < ((List.length p0.fields) : Int))) = true := by simp; omega
  rw [Q34]
  cases h0 : (decide (0 ≤ v1_1)) with
  | true =>
   exact Qkv p0 (fun r hr => Qv2 p0 H rec x1 i1 v1_1 hx1 hi1 hc1 h0 hr) _ (Qm3 p0 H rec r1 (i1 + 1) (Q47 x1.v (w64 (v1_1 - (ByteArray.size x1.name : Int)))) hd')
  | false =>
   exact Qtj p0 H rec x1 i1 v1_1 hx1 hi1 hc1 h0
theorem Q173 (p0 : Val) (p1 : Int) (H : Qng p0) (rec : Q5h p0) : Q7 G (Q10i p0 p1) (Qwm p0 p1) := by
  unfold Qwm
  rw [Q47]
  have hl0 := Qlg p0 ((Qrg p0 p1 H).1) rec p0.list 0 (w64 ((w64 (p1 - 1)) - (ByteArray.size p0.s : Int))) (by simp)
  obtain ⟨z0, zo0, hl0⟩ := hl0
  have hl1 := Qm3 p0 ((Qrg p0 p1 H).2.1) rec p0.fields 0 (Q2m p0 p0.list 0 (w64 ((w64 (p1 - 1)) - (ByteArray.size p0.s : Int)))) (by simp)
  obtain ⟨z1, zo1, hl1⟩ := hl1
  exact Q9 (fn := Ir.K10) rfl VOK.nil [] [aN hl0, aN hl1] (by kernel_rfl)
theorem Q13n : ∀ (k : Nat) (p0 : Val), SizeOf.sizeOf p0 < k → ∀ (p1 : Int), Qng p0 → Q7 G (Q10i p0 p1) (Qwm p0 p1)
  | 0, _, h, _, _ => absurd h (Nat.not_lt_zero _)
  | k + 1, p0, h, p1, H => Q173 p0 p1 H (fun q hq p1 hH => Q13n k q (by omega) p1 hH)
theorem Q174 (p0 : Val) (p1 : Int) (H : Qng p0) : Q7 G (Q10i p0 p1) (Qwm p0 p1) := Q13n _ p0 (Nat.lt_succ_self _) p1 H
def s_Kz (p0 : Val) (p1 : Int) : Bool :=
 (decide (0 ≤ (Q47 p0 p1)))
def c_Kz (p0 : Val) (p1 : Int) : En := .call 22 [.agg (Val.cells p0), .int .i64 p1] []
def a_Kz (p0 : Val) (p1 : Int) : Rs := .ret (.bool (s_Kz p0 p1)) []
def H_Kz (p0 : Val) (_p1 : Int) : Prop := (Qng p0) ∧ True
theorem t_Kz (p0 : Val) (p1 : Int) (H : H_Kz p0 p1) : Q7 G (c_Kz p0 p1) (a_Kz p0 p1) := by
 unfold a_Kz s_Kz
 exact Q9 (fn := Ir.Kz) rfl VOK.nil [] [aN (Q174 p0 p1 H.1)] (by kernel_rfl)
mutual
def s_Kn (p0 : Val) : Int :=
 (Qcg p0 p0.fields 0 (Q9d p0 p0.list 0 1))
termination_by SizeOf.sizeOf p0
decreasing_by all_goals first | exact Val.Q25 _ | exact Val.Q1g _ | exact Q2c _ _ | exact Q24 _ _ | exact Q1r _ _
def Q9d (p0 : Val) : List Val → Nat → Int → Int
 | [], _i0, v0_1 =>
  v0_1
 | x0 :: r0, i0, v0_1 =>
  Q9d p0 r0 (i0 + 1) (w64 (v0_1 + (s_Kn x0)))
termination_by l => SizeOf.sizeOf l
decreasing_by all_goals first | exact Val.Q25 _ | exact Val.Q1g _ | exact Q2c _ _ | exact Q24 _ _ | exact Q1r _ _
def Qcg (p0 : Val) : List Fld → Nat → Int → Int
 | [], _i1, v1_1 =>
  v1_1
 | x1 :: r1, i1, v1_1 =>
  Qcg p0 r1 (i1 + 1) (w64 (v1_1 + (s_Kn x1.v)))
termination_by l => SizeOf.sizeOf l
decreasing_by all_goals first | exact Val.Q25 _ | exact Val.Q1g _ | exact Q2c _ _ | exact Q24 _ _ | exact Q1r _ _
end
def Qrq (_p0 : Val) (i0 : Nat) (v0_1 : Int) : List PV :=
  [.un, .bx 0 0, .un, .int .i64 v0_1, .int .i64 (i0 : Int), .un, .un, .un, .un, .un, .un, .un, .un, .un, .un, .un, .un, .un, .un, .un, .un, .un, .un, .un, .un, .un, .un, .un, .un, .un, .un, .un, .un, .un, .un, .un, .un, .un]
def Qse (p0 : Val) (_i0 : Nat) (_v0_1 : Int) : List Ob :=
  [⟨5, 0, true, [.int .i64 p0.kind, .int .i64 p0.n, .str p0.s, .sl (Val.rows p0.list), .sl (Fld.rows p0.fields)]⟩]
def Qkf (p0 : Val) (i0 : Nat) (v0_1 : Int) : En := .loop 0 Ir.Qh6 Ir.Q147 (Qrq p0 i0 v0_1) (Qse p0 i0 v0_1)
def Qmi (p0 : Val) (q0 : Int) (z : Nat → PV) (_zo : Nat → List PV) : St :=
  ⟨[z 0, .bx 0 0, z 2, .int .i64 q0, z 4, z 5, z 6, z 7, z 8, z 9, z 10, z 11, z 12, z 13, z 14, z 15, z 16, z 17, z 18, z 19, z 20, z 21, z 22, z 23, z 24, z 25, z 26, z 27, z 28, z 29, z 30, z 31, z 32, z 33, z 34, z 35, z 36, z 37], [(0, ⟨5, 0, true, [.int .i64 p0.kind, .int .i64 p0.n, .str p0.s, .sl (Val.rows p0.list), .sl (Fld.rows p0.fields)]⟩)], 321⟩
def Ql1 (p0 : Val) (e : En) (q : Int) : Prop := ∃ z zo, Q7 G e (.st (.exit 0) (Qmi p0 q z zo))
theorem Qm6 (p0 : Val) {e e' : En} (h : ∀ r, Q7 G e r → Q7 G e' r) : ∀ q, Ql1 p0 e q → Ql1 p0 e' q
  | _, ⟨z, zo, hz⟩ => ⟨z, zo, h _ hz⟩
def Qrt (_p0 : Val) (i1 : Nat) (v1_1 : Int) : List PV :=
  [.un, .bx 0 0, .un, .int .i64 v1_1, .un, .int .i64 (i1 : Int), .un, .un, .un, .un, .un, .un, .un, .un, .un, .un, .un, .un, .un, .un, .un, .un, .un, .un, .un, .un, .un, .un, .un, .un, .un, .un, .un, .un, .un, .un, .un, .un]
def Qqv (p0 : Val) (_i1 : Nat) (_v1_1 : Int) : List Ob :=
  [⟨5, 0, true, [.int .i64 p0.kind, .int .i64 p0.n, .str p0.s, .sl (Val.rows p0.list), .sl (Fld.rows p0.fields)]⟩]
def Qjw (p0 : Val) (i1 : Nat) (v1_1 : Int) : En := .loop 0 Ir.Qhy Ir.Q15r (Qrt p0 i1 v1_1) (Qqv p0 i1 v1_1)
def Qmh (p0 : Val) (q0 : Int) (z : Nat → PV) (_zo : Nat → List PV) : St :=
  ⟨[z 0, z 1, z 2, .int .i64 q0, z 4, z 5, z 6, z 7, z 8, z 9, z 10, z 11, z 12, z 13, z 14, z 15, z 16, z 17, z 18, z 19, z 20, z 21, z 22, z 23, z 24, z 25, z 26, z 27, z 28, z 29, z 30, z 31, z 32, z 33, z 34, z 35, z 36, z 37], [(0, ⟨5, 0, true, [.int .i64 p0.kind, .int .i64 p0.n, .str p0.s, .sl (Val.rows p0.list), .sl (Fld.rows p0.fields)]⟩)], 321⟩
def Qjs (p0 : Val) (e : En) (q : Int) : Prop := ∃ z zo, Q7 G e (.st (.exit 2) (Qmh p0 q z zo))
theorem Qnx (p0 : Val) {e e' : En} (h : ∀ r, Q7 G e r → Q7 G e' r) : ∀ q, Qjs p0 e q → Qjs p0 e' q
  | _, ⟨z, zo, hz⟩ => ⟨z, zo, h _ hz⟩
def c_Kn (p0 : Val) : En := .call 39 [.agg (Val.cells p0)] []
def a_Kn (p0 : Val) : Rs := .ret (.int .i64 (s_Kn p0)) []
abbrev H_Kn (p0 : Val) : Prop := Val.Sm 4611686018427387904 p0
def Qdh (p0 : Val) : Prop := ∀ (q : Val), SizeOf.sizeOf q < SizeOf.sizeOf p0 → H_Kn q → Q7 G (c_Kn q) (a_Kn q)
def Qd8 (p0 : Val) : Prop := (List.length p0.list ≤ 4611686018427387904) ∧ (∀ x0 ∈ p0.list, H_Kn x0) ∧ True
def Qdf (p0 : Val) : Prop := (List.length p0.fields ≤ 4611686018427387904) ∧ (∀ x1 ∈ p0.fields, H_Kn x1.v) ∧ True
theorem Qwp (p0 : Val) (H : H_Kn p0) : (Qd8 p0) ∧ (Qdf p0) ∧ True := by
  obtain ⟨h1, h2, h3, h4⟩ := H.all
  simp only [Qd8, Qdf]
  exact ⟨⟨h1, h3, trivial⟩, ⟨h2, h4, trivial⟩, trivial⟩
def Qmb (p0 : Val) (i0 : Nat) (_v0_1 : Int) : List PV :=
  [.un, .un, .un, .un, .int .i64 (i0 : Int), .un, .int .i64 (i0 : Int), .bx 0 3, .sl (Val.rows p0.list), .int .i64 ((List.length p0.list) : Int), .bool false]
def Qhi (_p0 : Val) (_i0 : Nat) (_v0_1 : Int) : List (Nat × List PV) :=
  []
theorem Qxf (p0 : Val) (_H : Qd8 p0) (_rec : Qdh p0) (i0 : Nat) (v0_1 : Int) (hc0 : (decide ((i0 : Int) < ((List.length p0.list) : Int))) = false) : Ql1 p0 (Qkf p0 i0 v0_1) v0_1 := by
 exact ⟨(envF (Qmb p0 i0 v0_1)), (zoF (Qhi p0 i0 v0_1)), Qe VOK.nil (x := ((.exit 0), Qmi p0 v0_1 (envF (Qmb p0 i0 v0_1)) (zoF (Qhi p0 i0 v0_1)))) [hP 3 (Qj (Val.rows p0.list) (List.length p0.list) (Val.Qd p0.list)), hB 0 hc0] [] (by kernel_rfl)⟩
theorem Qz1 (p0 : Val) (H : Qd8 p0) (rec : Qdh p0) (x0 : Val) (i0 : Nat) (v0_1 : Int) (hx0 : p0.list[i0]? = some x0) (hi0 : i0 < List.length p0.list) (hc0 : (decide ((i0 : Int) < ((List.length p0.list) : Int))) = true) {r : Rs} (hr : Q7 G (Qkf p0 (i0 + 1) (w64 (v0_1 + (s_Kn x0)))) r) : Q7 G (Qkf p0 i0 v0_1) r := by
 have hB0 := H.1
 exact Qa VOK.nil (y := (Qrq p0 (i0 + 1) (w64 (v0_1 + (s_Kn x0))), Qse p0 (i0 + 1) (w64 (v0_1 + (s_Kn x0))))) [hP 3 (Qj (Val.rows p0.list) (List.length p0.list) (Val.Qd p0.list)), hB 0 hc0, hP 4 (Q1h 5 (Val.rows p0.list) i0 _ (Val.Qf hx0) rfl), hP 5 (Qs i0 (by omega))] [aN (rec x0 (szL hx0) (H.2.1 x0 (Q1f hx0)))] (by kernel_rfl) hr
theorem Qs1 (p0 : Val) (H : Qd8 p0) (rec : Qdh p0) : ∀ (r0 : List Val) (i0 : Nat) (v0_1 : Int), List.drop i0 p0.list = r0 → Ql1 p0 (Qkf p0 i0 v0_1) (Q9d p0 r0 i0 v0_1)
 | [], i0, v0_1, hd => by
  have hc0 : (decide ((i0 : Int) < ((List.length p0.list) : Int))) = false := by have := Q1m hd; simp; omega
  rw [Q9d]
  exact Qxf p0 H rec i0 v0_1 hc0
 | x0 :: r0, i0, v0_1, hd => by
  obtain ⟨hx0, hi0, hd'⟩ := Q18 hd
  have hc0 : (decide ((i0 : Int) < ((List.length p0.list) : Int))) = true := by simp; omega
  rw [Q9d]
  exact Qm6 p0 (fun r hr => Qz1 p0 H rec x0 i0 v0_1 hx0 hi0 hc0 hr) _ (Qs1 p0 H rec r0 (i0 + 1) (w64 (v0_1 + (s_Kn x0))) hd')
def Qo4 (p0 : Val) (i1 : Nat) (_v1_1 : Int) : List PV :=
  [.un, .bx 0 0, .un, .un, .un, .int .i64 (i1 : Int), .un, .un, .un, .un, .un, .un, .un, .un, .un, .un, .un, .un, .un, .un, .un, .int .i64 (i1 : Int), .bx 0 4, .sl (Fld.rows p0.fields), .int .i64 ((List.length p0.fields) : Int), .bool false]
def Qia (_p0 : Val) (_i1 : Nat) (_v1_1 : Int) : List (Nat × List PV) :=
  []
theorem Qw2 (p0 : Val) (_H : Qdf p0) (_rec : Qdh p0) (i1 : Nat) (v1_1 : Int) (hc1 : (decide ((i1 : Int) < ((List.length p0.fields) : Int))) = false) : Qjs p0 (Qjw p0 i1 v1_1) v1_1 := by
 exact ⟨(envF (Qo4 p0 i1 v1_1)), (zoF (Qia p0 i1 v1_1)), Qe VOK.nil (x := ((.exit 2), Qmh p0 v1_1 (envF (Qo4 p0 i1 v1_1)) (zoF (Qia p0 i1 v1_1)))) [hP 3 (Qj (Fld.rows p0.fields) (List.length p0.fields) (Fld.Qd p0.fields)), hB 0 hc1] [] (by kernel_rfl)⟩
theorem Qxp (p0 : Val) (H : Qdf p0) (rec : Qdh p0) (x1 : Fld) (i1 : Nat) (v1_1 : Int) (hx1 : p0.fields[i1]? = some x1) (hi1 : i1 < List.length p0.fields) (hc1 : (decide ((i1 : Int) < ((List.length p0.fields) : Int))) = true) {r : Rs} (hr : Q7 G (Qjw p0 (i1 + 1) (w64 (v1_1 + (s_Kn x1.v)))) r) : Q7 G (Qjw p0 i1 v1_1) r := by
 have hB0 := H.1
 exact Qa VOK.nil (y := (Qrt p0 (i1 + 1) (w64 (v1_1 + (s_Kn x1.v))), Qqv p0 (i1 + 1) (w64 (v1_1 + (s_Kn x1.v))))) [hP 3 (Qj (Fld.rows p0.fields) (List.length p0.fields) (Fld.Qd p0.fields)), hB 0 hc1, hP 4 (Q1h 6 (Fld.rows p0.fields) i1 _ (Fld.Qf hx1) rfl), hP 6 (Qs i1 (by omega))] [aN (rec x1.v (szF hx1) (H.2.1 x1 (Q1f hx1)))] (by kernel_rfl) hr
theorem Qqr (p0 : Val) (H : Qdf p0) (rec : Qdh p0) : ∀ (r1 : List Fld) (i1 : Nat) (v1_1 : Int), List.drop i1 p0.fields = r1 → Qjs p0 (Qjw p0 i1 v1_1) (Qcg p0 r1 i1 v1_1)
 | [], i1, v1_1, hd => by
  have hc1 : (decide ((i1 : Int) < ((List.length p0.fields) : Int))) = false := by have := Q1m hd; simp; omega
  rw [Qcg]
  exact Qw2 p0 H rec i1 v1_1 hc1
 | x1 :: r1, i1, v1_1, hd => by
  obtain ⟨hx1, hi1, hd'⟩ := Q18 hd
  have hc1 : (decide ((i1 : Int) < ((List.length p0.fields) : Int))) = true := by simp; omega
  rw [Qcg]
  exact Qnx p0 (fun r hr => Qxp p0 H rec x1 i1 v1_1 hx1 hi1 hc1 hr) _ (Qqr p0 H rec r1 (i1 + 1) (w64 (v1_1 + (s_Kn x1.v))) hd')
theorem r_Kn (p0 : Val) (H : H_Kn p0) (rec : Qdh p0) : Q7 G (c_Kn p0) (a_Kn p0) := by
  unfold a_Kn
  rw [s_Kn]
  have hl0 := Qs1 p0 ((Qwp p0 H).1) rec p0.list 0 1 (by simp)
  obtain ⟨z0, zo0, hl0⟩ := hl0
  have hl1 := Qqr p0 ((Qwp p0 H).2.1) rec p0.fields 0 (Q9d p0 p0.list 0 1) (by simp)
  obtain ⟨z1, zo1, hl1⟩ := hl1
  exact Q9 (fn := Ir.Kn) rfl VOK.nil [] [aN hl0, aN hl1] (by kernel_rfl)
theorem i_Kn : ∀ (k : Nat) (p0 : Val), SizeOf.sizeOf p0 < k → H_Kn p0 → Q7 G (c_Kn p0) (a_Kn p0)
  | 0, _, h, _ => absurd h (Nat.not_lt_zero _)
  | k + 1, p0, h, H => r_Kn p0 H (fun q hq hH => i_Kn k q (by omega) hH)
theorem t_Kn (p0 : Val) (H : H_Kn p0) : Q7 G (c_Kn p0) (a_Kn p0) := i_Kn _ p0 (Nat.lt_succ_self _) H
inductive Qwy where
  | k0
  | k1
def Q7e (p0 : ByteArray) : List Int → Nat → Qwy
 | [], _i0 =>
  (.k0)
 | x0 :: r0, i0 =>
  bif (x0 == 10) then
   Q7e p0 r0 (i0 + 1)
  else
   bif (decide (x0 < 32)) then
    (.k1)
   else
    bif (decide (126 < x0)) then
     (.k1)
    else
     Q7e p0 r0 (i0 + 1)
def Qji (p0 : ByteArray) (i0 : Nat) : List PV :=
  [.str p0, .un, .un, .int .i64 (i0 : Int), .un, .un, .un, .un, .un, .un, .un, .un, .un, .un, .un, .un, .un, .un, .un, .un, .un, .un, .un, .un, .un, .un, .un, .un, .un]
def Qjt (_p0 : ByteArray) (_i0 : Nat) : List Ob :=
  []
def Q69 (p0 : ByteArray) (i0 : Nat) : En := .loop 0 Ir.Qiw Ir.Q13w (Qji p0 i0) (Qjt p0 i0)
def Qmx (p0 : ByteArray) (z : Nat → PV) (_zo : Nat → List PV) : St :=
  ⟨[.str p0, z 1, z 2, z 3, z 4, z 5, z 6, z 7, z 8, z 9, z 10, z 11, z 12, z 13, z 14, z 15, z 16, z 17, z 18, z 19, z 20, z 21, z 22, z 23, z 24, z 25, z 26, z 27, z 28], [], 256⟩
def Qe0 (_p0 : ByteArray) (z : Nat → PV) (_zo : Nat → List PV) : St :=
  ⟨[z 0, z 1, .bool false, z 3, z 4, z 5, z 6, z 7, z 8, z 9, z 10, z 11, z 12, z 13, z 14, z 15, z 16, z 17, z 18, z 19, z 20, z 21, z 22, z 23, z 24, z 25, z 26, z 27, z 28], [], 1344⟩
def Q9n (p0 : ByteArray) (e : En) : Qwy → Prop
  | .k0 => ∃ z zo, Q7 G e (.st (.exit 0) (Qmx p0 z zo))
  | .k1 => ∃ z zo, Q7 G e (.st .ret (Qe0 p0 z zo))
theorem Qa2 (p0 : ByteArray) {e e' : En} (h : ∀ r, Q7 G e r → Q7 G e' r) : ∀ q, Q9n p0 e q → Q9n p0 e' q
  | .k0, ⟨z, zo, hz⟩ => ⟨z, zo, h _ hz⟩
  | .k1, ⟨z, zo, hz⟩ => ⟨z, zo, h _ hz⟩
def Q75 (p0 : ByteArray) : Prop := (List.length (letters p0) ≤ 4611686018427387904) ∧ True
def Qmq (p0 : ByteArray) (i0 : Nat) : List PV :=
  [.un, .un, .un, .int .i64 (i0 : Int), .int .i64 (i0 : Int), .str p0, .int .i64 (ByteArray.size p0 : Int), .bool false]
def Qh3 (_p0 : ByteArray) (_i0 : Nat) : List (Nat × List PV) :=
  []
theorem Qyo (p0 : ByteArray) (_H : Q75 p0) (i0 : Nat) (hc0 : (decide ((i0 : Int) < (ByteArray.size p0 : Int))) = false) : Q9n p0 (Q69 p0 i0) (.k0) := by
 exact ⟨(envF (Qmq p0 i0)), (zoF (Qh3 p0 i0)), Qe VOK.nil (x := ((.exit 0), Qmx p0 (envF (Qmq p0 i0)) (zoF (Qh3 p0 i0)))) [hB 3 hc0] [] (by kernel_rfl)⟩
theorem Q100 (p0 : ByteArray) (H : Q75 p0) (x0 : Int) (i0 : Nat) (hx0 : (letters p0)[i0]? = some x0) (hi0 : i0 < List.length (letters p0)) (hc0 : (decide ((i0 : Int) < (ByteArray.size p0 : Int))) = true) (h0 : (x0 == 10) = true) {r : Rs} (hr : Q7 G (Q69 p0 (i0 + 1)) r) : Q7 G (Q69 p0 i0) r := by
 have hB0 := H.1; have e0 := eq_of_beq h0
 exact Qa VOK.nil (y := (Qji p0 (i0 + 1), Qjt p0 (i0 + 1))) [hB 3 hc0, hP 2 (Q1c p0 i0 x0 hx0), hP 0 (dec (!(x0 == 10)) false (by rw [h0]; rfl)), hP 13 (Qs i0 (by omega))] [] (by kernel_rfl) hr
def Qog (p0 : ByteArray) (i0 : Nat) (x0 : Int) : List PV :=
  [.str p0, .un, .un, .int .i64 (i0 : Int), .int .i64 (i0 : Int), .str p0, .int .i64 (ByteArray.size p0 : Int), .bool true, .un, .un, .str p0, .int .i64 (i0 : Int), .int .u8 x0, .bool true, .bool true, .str p0, .int .i64 (i0 : Int), .int .u8 x0, .bool true, .bool true, .tup [], .tup [], .tup [], .tup [], .bool true, .bool true]
def Qg4 (_p0 : ByteArray) (_i0 : Nat) (_x0 : Int) : List (Nat × List PV) :=
  []
theorem Qy2 (p0 : ByteArray) (_H : Q75 p0) (x0 : Int) (i0 : Nat) (hx0 : (letters p0)[i0]? = some x0) (_hi0 : i0 < List.length (letters p0)) (hc0 : (decide ((i0 : Int) < (ByteArray.size p0 : Int))) = true) (h0 : (x0 == 10) = false) (h1 : (decide (x0 < 32)) = true) : Q9n p0 (Q69 p0 i0) (.k1) := by
 exact ⟨(envF (Qog p0 i0 x0)), (zoF (Qg4 p0 i0 x0)), Qe VOK.nil (x := (.ret, Qe0 p0 (envF (Qog p0 i0 x0)) (zoF (Qg4 p0 i0 x0)))) [hB 3 hc0, hP 2 (Q1c p0 i0 x0 hx0), hP 0 (dec (!(x0 == 10)) true (by rw [h0]; rfl)), hP 3 (Q1c p0 i0 x0 hx0), hB 0 h1] [] (by kernel_rfl)⟩
def Qnm (p0 : ByteArray) (i0 : Nat) (x0 : Int) : List PV :=
  [.str p0, .un, .un, .int .i64 (i0 : Int), .int .i64 (i0 : Int), .str p0, .int .i64 (ByteArray.size p0 : Int), .bool true, .un, .un, .str p0, .int .i64 (i0 : Int), .int .u8 x0, .bool true, .bool true, .str p0, .int .i64 (i0 : Int), .int .u8 x0, .bool false, .bool false, .str p0, .int .i64 (i0 : Int), .int .u8 x0, .bool true, .bool true, .bool true]
def Qgb (_p0 : ByteArray) (_i0 : Nat) (_x0 : Int) : List (Nat × List PV) :=
  []
theorem Qyf (p0 : ByteArray) (_H : Q75 p0) (x0 : Int) (i0 : Nat) (hx0 : (letters p0)[i0]? = some x0) (_hi0 : i0 < List.length (letters p0)) (hc0 : (decide ((i0 : Int) < (ByteArray.size p0 : Int))) = true) (h0 : (x0 == 10) = false) (h1 : (decide (x0 < 32)) = false) (h2 : (decide (126 < x0)) = true) : Q9n p0 (Q69 p0 i0) (.k1) := by
 exact ⟨(envF (Qnm p0 i0 x0)), (zoF (Qgb p0 i0 x0)), Qe VOK.nil (x := (.ret, Qe0 p0 (envF (Qnm p0 i0 x0)) (zoF (Qgb p0 i0 x0)))) [hB 3 hc0, hP 2 (Q1c p0 i0 x0 hx0), hP 0 (dec (!(x0 == 10)) true (by rw [h0]; rfl)), hP 3 (Q1c p0 i0 x0 hx0), hB 0 h1, hP 3 (Q1c p0 i0 x0 hx0), hB 0 h2] [] (by kernel_rfl)⟩
theorem Qxd (p0 : ByteArray) (H : Q75 p0) (x0 : Int) (i0 : Nat) (hx0 : (letters p0)[i0]? = some x0) (hi0 : i0 < List.length (letters p0)) (hc0 : (decide ((i0 : Int) < (ByteArray.size p0 : Int))) = true) (h0 : (x0 == 10) = false) (h1 : (decide (x0 < 32)) = false) (h2 : (decide (126 < x0)) = false) {r : Rs} (hr : Q7 G (Q69 p0 (i0 + 1)) r) : Q7 G (Q69 p0 i0) r := by
 have hB0 := H.1; have e0 := beq_eq_false_iff_ne.1 h0; have e1 := of_decide_eq_false h1; have e2 := of_decide_eq_false h2
 exact Qa VOK.nil (y := (Qji p0 (i0 + 1), Qjt p0 (i0 + 1))) [hB 3 hc0, hP 2 (Q1c p0 i0 x0 hx0), hP 0 (dec (!(x0 == 10)) true (by rw [h0]; rfl)), hP 3 (Q1c p0 i0 x0 hx0), hB 0 h1, hP 3 (Q1c p0 i0 x0 hx0), hB 0 h2, hP 3 (Qs i0 (by omega))] [] (by kernel_rfl) hr
theorem Qk0 (p0 : ByteArray) (H : Q75 p0) : ∀ (r0 : List Int) (i0 : Nat), List.drop i0 (letters p0) = r0 → Q9n p0 (Q69 p0 i0) (Q7e p0 r0 i0)
 | [], i0, hd => by
  have hc0 : (decide ((i0 : Int) < (ByteArray.size p0 : Int))) = false := by have hL := Q42 p0; have := Q1m hd; simp; omega
  rw [Q7e]
  exact Qyo p0 H i0 hc0
 | x0 :: r0, i0, hd => by
  obtain ⟨hx0, hi0, hd'⟩ := Q18 hd
  have hc0 : (decide ((i0 : Int) < (ByteArray.size p0 : Int))) = true := by have hL := Q42 p0; simp; omega
  rw [Q7e]
  cases h0 : (x0 == 10) with
  | true =>
   exact Qa2 p0 (fun r hr => Q100 p0 H x0 i0 hx0 hi0 hc0 h0 hr) _ (Qk0 p0 H r0 (i0 + 1) hd')
  | false =>
   cases h1 : (decide (x0 < 32)) with
   | true =>
    exact Qy2 p0 H x0 i0 hx0 hi0 hc0 h0 h1
   | false =>
    cases h2 : (decide (126 < x0)) with
    | true =>
     exact Qyf p0 H x0 i0 hx0 hi0 hc0 h0 h1 h2
    | false =>
     exact Qa2 p0 (fun r hr => Qxd p0 H x0 i0 hx0 hi0 hc0 h0 h1 h2 hr) _ (Qk0 p0 H r0 (i0 + 1) hd')
def s_Kq (p0 : ByteArray) : Bool :=
 (match (Q7e p0 (letters p0) 0) with
 | .k0 => (decide ((ByteArray.size p0 : Int) ≤ 200))
 | .k1 => false)
def c_Kq (p0 : ByteArray) : En := .call 65 [.str p0] []
def a_Kq (p0 : ByteArray) : Rs := .ret (.bool (s_Kq p0)) []
def H_Kq (p0 : ByteArray) : Prop := (Q75 p0) ∧ True
theorem t_Kq (p0 : ByteArray) (H : H_Kq p0) : Q7 G (c_Kq p0) (a_Kq p0) := by
 unfold a_Kq s_Kq
 have hl0 := Qk0 p0 (H.1) (letters p0) 0 (by simp)
 cases hr0 : (Q7e p0 (letters p0) 0) with
 | k0 =>
  rw [hr0] at hl0
  obtain ⟨z0, zo0, hl0⟩ := hl0
  exact Q9 (fn := Ir.Kq) rfl VOK.nil [] [aN hl0] (by kernel_rfl)
 | k1 =>
  rw [hr0] at hl0
  obtain ⟨z0, zo0, hl0⟩ := hl0
  exact Q9 (fn := Ir.Kq) rfl VOK.nil [] [aN hl0] (by kernel_rfl)
def s_Kw (p0 : Val) : Bool :=
 bif (p0.kind == 1) then
  bif (p0.n == 0) then
   (sEq p0.s (⟨#[]⟩ : ByteArray))
  else
   bif (p0.n == 1) then
    (sEq p0.s (⟨#[]⟩ : ByteArray))
   else
    false
 else
  bif (p0.kind == 2) then
   bif (decide ((-1000000000000000) ≤ p0.n)) then
    bif (decide (p0.n ≤ 1000000000000000)) then
     (sEq p0.s (⟨#[]⟩ : ByteArray))
    else
     false
   else
    false
  else
   bif (p0.kind == 3) then
    bif (p0.n == 0) then
     (s_Kq p0.s)
    else
     false
   else
    bif (p0.kind == 0) then
     bif (p0.n == 0) then
      (sEq p0.s (⟨#[]⟩ : ByteArray))
     else
      false
    else
     bif (p0.kind == 4) then
      bif (p0.n == 0) then
       (sEq p0.s (⟨#[]⟩ : ByteArray))
      else
       false
     else
      bif (p0.kind == 5) then
       bif (p0.n == 0) then
        (sEq p0.s (⟨#[]⟩ : ByteArray))
       else
        false
      else
       false
def c_Kw (p0 : Val) : En := .call 51 [.agg (Val.cells p0)] []
def a_Kw (p0 : Val) : Rs := .ret (.bool (s_Kw p0)) []
def H_Kw (p0 : Val) : Prop := (H_Kq p0.s) ∧ True
theorem Q15o (p0 : Val) (_H : H_Kw p0) (h0 : (p0.kind == 1) = true) : Q7 G (c_Kw p0) (.ret (.bool (bif (p0.n == 0) then
   (sEq p0.s (⟨#[]⟩ : ByteArray))
 else
   bif (p0.n == 1) then
    (sEq p0.s (⟨#[]⟩ : ByteArray))
   else
    false)) []) := by
 cases h1 : (p0.n == 0) with
 | true =>
  exact Q9 (fn := Ir.Kw) rfl VOK.nil [hB 4 h0, hB 3 h1] [] (by kernel_rfl)
 | false =>
  cases h2 : (p0.n == 1) with
  | true =>
   exact Q9 (fn := Ir.Kw) rfl VOK.nil [hB 4 h0, hB 3 h1, hB 3 h2] [] (by kernel_rfl)
  | false =>
   exact Q9 (fn := Ir.Kw) rfl VOK.nil [hB 4 h0, hB 3 h1, hB 3 h2] [] (by kernel_rfl)
theorem Q13m (p0 : Val) (_H : H_Kw p0) (h0 : (p0.kind == 1) = false) (h1 : (p0.kind == 2) = true) : Q7 G (c_Kw p0) (.ret (.bool (bif (decide ((-1000000000000000) ≤ p0.n)) then
   bif (decide (p0.n ≤ 1000000000000000)) then
    (sEq p0.s (⟨#[]⟩ : ByteArray))
   else
    false
 else
   false)) []) := by
 cases h2 : (decide ((-1000000000000000) ≤ p0.n)) with
 | true =>
  cases h3 : (decide (p0.n ≤ 1000000000000000)) with
  | true =>
   exact Q9 (fn := Ir.Kw) rfl VOK.nil [hB 4 h0, hB 1 h1, hB 3 h2, hB 3 h3] [] (by kernel_rfl)
  | false =>
   exact Q9 (fn := Ir.Kw) rfl VOK.nil [hB 4 h0, hB 1 h1, hB 3 h2, hB 3 h3] [] (by kernel_rfl)
 | false =>
  exact Q9 (fn := Ir.Kw) rfl VOK.nil [hB 4 h0, hB 1 h1, hB 3 h2] [] (by kernel_rfl)
theorem Q151 (p0 : Val) (H : H_Kw p0) (h0 : (p0.kind == 1) = false) (h1 : (p0.kind == 2) = false) (h2 : (p0.kind == 3) = true) : Q7 G (c_Kw p0) (.ret (.bool (bif (p0.n == 0) then
   (s_Kq p0.s)
 else
   false)) []) := by
 cases h3 : (p0.n == 0) with
 | true =>
  exact Q9 (fn := Ir.Kw) rfl VOK.nil [hB 4 h0, hB 1 h1, hB 1 h2, hB 3 h3] [aN (t_Kq p0.s H.1)] (by kernel_rfl)
 | false =>
  exact Q9 (fn := Ir.Kw) rfl VOK.nil [hB 4 h0, hB 1 h1, hB 1 h2, hB 3 h3] [] (by kernel_rfl)
theorem Q13l (p0 : Val) (_H : H_Kw p0) (h0 : (p0.kind == 1) = false) (h1 : (p0.kind == 2) = false) (h2 : (p0.kind == 3) = false) (h3 : (p0.kind == 0) = true) : Q7 G (c_Kw p0) (.ret (.bool (bif (p0.n == 0) then
   (sEq p0.s (⟨#[]⟩ : ByteArray))
 else
   false)) []) := by
 cases h4 : (p0.n == 0) with
 | true =>
  exact Q9 (fn := Ir.Kw) rfl VOK.nil [hB 4 h0, hB 1 h1, hB 1 h2, hB 1 h3, hB 3 h4] [] (by kernel_rfl)
 | false =>
  exact Q9 (fn := Ir.Kw) rfl VOK.nil [hB 4 h0, hB 1 h1, hB 1 h2, hB 1 h3, hB 3 h4] [] (by kernel_rfl)
theorem Q15t (p0 : Val) (_H : H_Kw p0) (h0 : (p0.kind == 1) = false) (h1 : (p0.kind == 2) = false) (h2 : (p0.kind == 3) = false) (h3 : (p0.kind == 0) = false) : Q7 G (c_Kw p0) (.ret (.bool (bif (p0.kind == 4) then
   bif (p0.n == 0) then
     (sEq p0.s (⟨#[]⟩ : ByteArray))
   else
     false
 else
   bif (p0.kind == 5) then
     bif (p0.n == 0) then
      (sEq p0.s (⟨#[]⟩ : ByteArray))
     else
      false
   else
     false)) []) := by
 cases h4 : (p0.kind == 4) with
 | true =>
  cases h5 : (p0.n == 0) with
  | true =>
   exact Q9 (fn := Ir.Kw) rfl VOK.nil [hB 4 h0, hB 1 h1, hB 1 h2, hB 1 h3, hB 1 h4, hB 3 h5] [] (by kernel_rfl)
  | false =>
   exact Q9 (fn := Ir.Kw) rfl VOK.nil [hB 4 h0, hB 1 h1, hB 1 h2, hB 1 h3, hB 1 h4, hB 3 h5] [] (by kernel_rfl)
 | false =>
  cases h5 : (p0.kind == 5) with
  | true =>
   cases h6 : (p0.n == 0) with
   | true =>
    exact Q9 (fn := Ir.Kw) rfl VOK.nil [hB 4 h0, hB 1 h1, hB 1 h2, hB 1 h3, hB 1 h4, hB 1 h5, hB 3 h6] [] (by kernel_rfl)
   | false =>
    exact Q9 (fn := Ir.Kw) rfl VOK.nil [hB 4 h0, hB 1 h1, hB 1 h2, hB 1 h3, hB 1 h4, hB 1 h5, hB 3 h6] [] (by kernel_rfl)
  | false =>
   exact Q9 (fn := Ir.Kw) rfl VOK.nil [hB 4 h0, hB 1 h1, hB 1 h2, hB 1 h3, hB 1 h4, hB 1 h5] [] (by kernel_rfl)
theorem t_Kw (p0 : Val) (H : H_Kw p0) : Q7 G (c_Kw p0) (a_Kw p0) := by
 unfold a_Kw s_Kw
 cases h0 : (p0.kind == 1) with
 | true =>
  exact Q15o p0 H h0
 | false =>
  cases h1 : (p0.kind == 2) with
  | true =>
   exact Q13m p0 H h0 h1
  | false =>
   cases h2 : (p0.kind == 3) with
   | true =>
    exact Q151 p0 H h0 h1 h2
   | false =>
    cases h3 : (p0.kind == 0) with
    | true =>
     exact Q13l p0 H h0 h1 h2 h3
    | false =>
     exact Q15t p0 H h0 h1 h2 h3
inductive Qy4 where
  | k0
  | k1
def Q1b (p0 : ByteArray) : List Int → Nat → Qy4
 | [], _i0 =>
  (.k0)
 | x0 :: r0, i0 =>
  bif (decide (97 ≤ x0)) then
   bif (decide (x0 ≤ 122)) then
    Q1b p0 r0 (i0 + 1)
   else
    bif (decide (65 ≤ x0)) then
     bif (decide (x0 ≤ 90)) then
      Q1b p0 r0 (i0 + 1)
     else
      bif (decide (48 ≤ x0)) then
       bif (decide (x0 ≤ 57)) then
        Q1b p0 r0 (i0 + 1)
       else
        bif (x0 == 45) then
         Q1b p0 r0 (i0 + 1)
        else
         bif (x0 == 95) then
          Q1b p0 r0 (i0 + 1)
         else
          bif (x0 == 47) then
           Q1b p0 r0 (i0 + 1)
          else
           (.k1)
      else
       bif (x0 == 45) then
        Q1b p0 r0 (i0 + 1)
       else
        bif (x0 == 95) then
         Q1b p0 r0 (i0 + 1)
        else
         bif (x0 == 47) then
          Q1b p0 r0 (i0 + 1)
         else
          (.k1)
    else
     bif (decide (48 ≤ x0)) then
      bif (decide (x0 ≤ 57)) then
       Q1b p0 r0 (i0 + 1)
      else
       bif (x0 == 45) then
        Q1b p0 r0 (i0 + 1)
       else
        bif (x0 == 95) then
         Q1b p0 r0 (i0 + 1)
        else
         bif (x0 == 47) then
          Q1b p0 r0 (i0 + 1)
         else
          (.k1)
     else
      bif (x0 == 45) then
       Q1b p0 r0 (i0 + 1)
      else
       bif (x0 == 95) then
        Q1b p0 r0 (i0 + 1)
       else
        bif (x0 == 47) then
         Q1b p0 r0 (i0 + 1)
        else
         (.k1)
  else
   bif (decide (65 ≤ x0)) then
    bif (decide (x0 ≤ 90)) then
     Q1b p0 r0 (i0 + 1)
    else
     bif (decide (48 ≤ x0)) then
      bif (decide (x0 ≤ 57)) then
       Q1b p0 r0 (i0 + 1)
      else
       bif (x0 == 45) then
        Q1b p0 r0 (i0 + 1)
       else
        bif (x0 == 95) then
         Q1b p0 r0 (i0 + 1)
        else
         bif (x0 == 47) then
          Q1b p0 r0 (i0 + 1)
         else
          (.k1)
     else
      bif (x0 == 45) then
       Q1b p0 r0 (i0 + 1)
      else
       bif (x0 == 95) then
        Q1b p0 r0 (i0 + 1)
       else
        bif (x0 == 47) then
         Q1b p0 r0 (i0 + 1)
        else
         (.k1)
   else
    bif (decide (48 ≤ x0)) then
     bif (decide (x0 ≤ 57)) then
      Q1b p0 r0 (i0 + 1)
     else
      bif (x0 == 45) then
       Q1b p0 r0 (i0 + 1)
      else
       bif (x0 == 95) then
        Q1b p0 r0 (i0 + 1)
       else
        bif (x0 == 47) then
         Q1b p0 r0 (i0 + 1)
        else
         (.k1)
    else
     bif (x0 == 45) then
      Q1b p0 r0 (i0 + 1)
     else
      bif (x0 == 95) then
       Q1b p0 r0 (i0 + 1)
      else
       bif (x0 == 47) then
        Q1b p0 r0 (i0 + 1)
       else
        (.k1)
def Q13 (p0 : ByteArray) (i0 : Nat) : List PV :=
  [.str p0, .un, .un, .int .i64 (i0 : Int), .un, .un, .un, .un, .un, .un, .un, .un, .un, .un, .un, .un, .un, .un, .un, .un, .un, .un, .un, .un, .un, .un, .un, .un, .un, .un, .un, .un, .un, .un, .un, .un, .un, .un, .un, .un, .un, .un, .un, .un, .un, .un, .un, .un, .un, .un, .un, .un, .un, .un, .un, .un, .un, .un, .un, .un]
def Q11 (_p0 : ByteArray) (_i0 : Nat) : List Ob :=
  []
def Qn (p0 : ByteArray) (i0 : Nat) : En := .loop 0 Ir.Qj4 Ir.Q14z (Q13 p0 i0) (Q11 p0 i0)
def Qnk (p0 : ByteArray) (z : Nat → PV) (_zo : Nat → List PV) : St :=
  ⟨[.str p0, z 1, z 2, z 3, z 4, z 5, z 6, z 7, z 8, z 9, z 10, z 11, z 12, z 13, z 14, z 15, z 16, z 17, z 18, z 19, z 20, z 21, z 22, z 23, z 24, z 25, z 26, z 27, z 28, z 29, z 30, z 31, z 32, z 33, z 34, z 35, z 36, z 37, z 38, z 39, z 40, z 41, z 42, z 43, z 44, z 45, z 46, z 47, z 48, z 49, z 50, z 51, z 52, z 53, z 54, z 55, z 56, z 57, z 58, z 59], [], 256⟩
def Q3c (_p0 : ByteArray) (z : Nat → PV) (_zo : Nat → List PV) : St :=
  ⟨[z 0, z 1, .bool false, z 3, z 4, z 5, z 6, z 7, z 8, z 9, z 10, z 11, z 12, z 13, z 14, z 15, z 16, z 17, z 18, z 19, z 20, z 21, z 22, z 23, z 24, z 25, z 26, z 27, z 28, z 29, z 30, z 31, z 32, z 33, z 34, z 35, z 36, z 37, z 38, z 39, z 40, z 41, z 42, z 43, z 44, z 45, z 46, z 47, z 48, z 49, z 50, z 51, z 52, z 53, z 54, z 55, z 56, z 57, z 58, z 59], [], 3008⟩
def Q3u (p0 : ByteArray) (e : En) : Qy4 → Prop
  | .k0 => ∃ z zo, Q7 G e (.st (.exit 0) (Qnk p0 z zo))
  | .k1 => ∃ z zo, Q7 G e (.st .ret (Q3c p0 z zo))
theorem Qo (p0 : ByteArray) {e e' : En} (h : ∀ r, Q7 G e r → Q7 G e' r) : ∀ q, Q3u p0 e q → Q3u p0 e' q
  | .k0, ⟨z, zo, hz⟩ => ⟨z, zo, h _ hz⟩
  | .k1, ⟨z, zo, hz⟩ => ⟨z, zo, h _ hz⟩
def Q10 (p0 : ByteArray) : Prop := (List.length (letters p0) ≤ 4611686018427387904) ∧ True
def Qp2 (p0 : ByteArray) (i0 : Nat) : List PV :=
  [.un, .un, .un, .int .i64 (i0 : Int), .un, .un, .int .i64 (i0 : Int), .str p0, .int .i64 (ByteArray.size p0 : Int), .bool false]
def Qfy (_p0 : ByteArray) (_i0 : Nat) : List (Nat × List PV) :=
  []
theorem Qxz (p0 : ByteArray) (_H : Q10 p0) (i0 : Nat) (hc0 : (decide ((i0 : Int) < (ByteArray.size p0 : Int))) = false) : Q3u p0 (Qn p0 i0) (.k0) := by
 exact ⟨(envF (Qp2 p0 i0)), (zoF (Qfy p0 i0)), Qe VOK.nil (x := ((.exit 0), Qnk p0 (envF (Qp2 p0 i0)) (zoF (Qfy p0 i0)))) [hB 3 hc0] [] (by kernel_rfl)⟩
theorem Qy1 (p0 : ByteArray) (H : Q10 p0) (x0 : Int) (i0 : Nat) (hx0 : (letters p0)[i0]? = some x0) (hi0 : i0 < List.length (letters p0)) (hc0 : (decide ((i0 : Int) < (ByteArray.size p0 : Int))) = true) (h0 : (decide (97 ≤ x0)) = true) (h1 : (decide (x0 ≤ 122)) = true) {r : Rs} (hr : Q7 G (Qn p0 (i0 + 1)) r) : Q7 G (Qn p0 i0) r := by
 have hB0 := H.1; have e0 := of_decide_eq_true h0; have e1 := of_decide_eq_true h1
 exact Qa VOK.nil (y := (Q13 p0 (i0 + 1), Q11 p0 (i0 + 1))) [hB 3 hc0, hP 2 (Q1c p0 i0 x0 hx0), hB 2 h0, hB 2 h1, hP 34 (Qs i0 (by omega))] [] (by kernel_rfl) hr
theorem Qwt (p0 : ByteArray) (H : Q10 p0) (x0 : Int) (i0 : Nat) (hx0 : (letters p0)[i0]? = some x0) (_hi0 : i0 < List.length (letters p0)) (hc0 : (decide ((i0 : Int) < (ByteArray.size p0 : Int))) = true) (h0 : (decide (97 ≤ x0)) = true) (h1 : (decide (x0 ≤ 122)) = false) (h2 : (decide (65 ≤ x0)) = true) (h3 : (decide (x0 ≤ 90)) = true) {r : Rs} (hr : Q7 G (Qn p0 (i0 + 1)) r) : Q7 G (Qn p0 i0) r := by
 have hB0 := H.1; have e0 := of_decide_eq_true h0; have e1 := of_decide_eq_false h1; have e2 := of_decide_eq_true h2; have e3 := of_decide_eq_true h3
 exact Qa VOK.nil (y := (Q13 p0 (i0 + 1), Q11 p0 (i0 + 1))) [hB 3 hc0, hP 2 (Q1c p0 i0 x0 hx0), hB 2 h0, hB 2 h1, hB 3 h2, hB 2 h3, hP 27 (Qs i0 (by omega))] [] (by kernel_rfl) hr
theorem Qxn (p0 : ByteArray) (H : Q10 p0) (x0 : Int) (i0 : Nat) (hx0 : (letters p0)[i0]? = some x0) (_hi0 : i0 < List.length (letters p0)) (hc0 : (decide ((i0 : Int) < (ByteArray.size p0 : Int))) = true) (h0 : (decide (97 ≤ x0)) = true) (h1 : (decide (x0 ≤ 122)) = false) (h2 : (decide (65 ≤ x0)) = true) (h3 : (decide (x0 ≤ 90)) = false) (h4 : (decide (48 ≤ x0)) = true) (h5 : (decide (x0 ≤ 57)) = true) {r : Rs} (hr : Q7 G (Qn p0 (i0 + 1)) r) : Q7 G (Qn p0 i0) r := by
 have hB0 := H.1; have e0 := of_decide_eq_true h0; have e1 := of_decide_eq_false h1; have e2 := of_decide_eq_true h2; have e3 := of_decide_eq_false h3; have e4 := of_decide_eq_true h4; have e5 := of_decide_eq_true h5
 exact Qa VOK.nil (y := (Q13 p0 (i0 + 1), Q11 p0 (i0 + 1))) [hB 3 hc0, hP 2 (Q1c p0 i0 x0 hx0), hB 2 h0, hB 2 h1, hB 3 h2, hB 2 h3, hB 7 h4, hB 2 h5, hP 16 (Qs i0 (by omega))] [] (by kernel_rfl) hr
theorem Qxj (p0 : ByteArray) (H : Q10 p0) (x0 : Int) (i0 : Nat) (hx0 : (letters p0)[i0]? = some x0) (_hi0 : i0 < List.length (letters p0)) (hc0 : (decide ((i0 : Int) < (ByteArray.size p0 : Int))) = true) (h0 : (decide (97 ≤ x0)) = true) (h1 : (decide (x0 ≤ 122)) = false) (h2 : (decide (65 ≤ x0)) = true) (h3 : (decide (x0 ≤ 90)) = false) (h4 : (decide (48 ≤ x0)) = true) (h5 : (decide (x0 ≤ 57)) = false) (h6 : (x0 == 45) = true) {r : Rs} (hr : Q7 G (Qn p0 (i0 + 1)) r) : Q7 G (Qn p0 i0) r := by
 have hB0 := H.1; have e0 := of_decide_eq_true h0; have e1 := of_decide_eq_false h1; have e2 := of_decide_eq_true h2; have e3 := of_decide_eq_false h3; have e4 := of_decide_eq_true h4; have e5 := of_decide_eq_false h5; have e6 := eq_of_beq h6
 exact Qa VOK.nil (y := (Q13 p0 (i0 + 1), Q11 p0 (i0 + 1))) [hB 3 hc0, hP 2 (Q1c p0 i0 x0 hx0), hB 2 h0, hB 2 h1, hB 3 h2, hB 2 h3, hB 7 h4, hB 2 h5, hP 5 (dec (!(x0 == 45)) false (by rw [h6]; rfl)), hP 10 (Qs i0 (by omega))] [] (by kernel_rfl) hr
theorem Qwx (p0 : ByteArray) (H : Q10 p0) (x0 : Int) (i0 : Nat) (hx0 : (letters p0)[i0]? = some x0) (_hi0 : i0 < List.length (letters p0)) (hc0 : (decide ((i0 : Int) < (ByteArray.size p0 : Int))) = true) (h0 : (decide (97 ≤ x0)) = true) (h1 : (decide (x0 ≤ 122)) = false) (h2 : (decide (65 ≤ x0)) = true) (h3 : (decide (x0 ≤ 90)) = false) (h4 : (decide (48 ≤ x0)) = true) (h5 : (decide (x0 ≤ 57)) = false) (h6 : (x0 == 45) = false) (h7 : (x0 == 95) = true) {r : Rs} (hr : Q7 G (Qn p0 (i0 + 1)) r) : Q7 G (Qn p0 i0) r := by
 have hB0 := H.1; have e0 := of_decide_eq_true h0; have e1 := of_decide_eq_false h1; have e2 := of_decide_eq_true h2; have e3 := of_decide_eq_false h3; have e4 := of_decide_eq_true h4; have e5 := of_decide_eq_false h5; have e6 := beq_eq_false_iff_ne.1 h6; have e7 := eq_of_beq h7
 exact Qa VOK.nil (y := (Q13 p0 (i0 + 1), Q11 p0 (i0 + 1))) [hB 3 hc0, hP 2 (Q1c p0 i0 x0 hx0), hB 2 h0, hB 2 h1, hB 3 h2, hB 2 h3, hB 7 h4, hB 2 h5, hP 5 (dec (!(x0 == 45)) true (by rw [h6]; rfl)), hP 3 (dec (!(x0 == 95)) false (by rw [h7]; rfl)), hP 6 (Qs i0 (by omega))] [] (by kernel_rfl) hr
theorem Qz9 (p0 : ByteArray) (H : Q10 p0) (x0 : Int) (i0 : Nat) (hx0 : (letters p0)[i0]? = some x0) (_hi0 : i0 < List.length (letters p0)) (hc0 : (decide ((i0 : Int) < (ByteArray.size p0 : Int))) = true) (h0 : (decide (97 ≤ x0)) = true) (h1 : (decide (x0 ≤ 122)) = false) (h2 : (decide (65 ≤ x0)) = true) (h3 : (decide (x0 ≤ 90)) = false) (h4 : (decide (48 ≤ x0)) = true) (h5 : (decide (x0 ≤ 57)) = false) (h6 : (x0 == 45) = false) (h7 : (x0 == 95) = false) (h8 : (x0 == 47) = true) {r : Rs} (hr : Q7 G (Qn p0 (i0 + 1)) r) : Q7 G (Qn p0 i0) r := by
 have hB0 := H.1; have e0 := of_decide_eq_true h0; have e1 := of_decide_eq_false h1; have e2 := of_decide_eq_true h2; have e3 := of_decide_eq_false h3; have e4 := of_decide_eq_true h4; have e5 := of_decide_eq_false h5; have e6 := beq_eq_false_iff_ne.1 h6; have e7 := beq_eq_false_iff_ne.1 h7; have e8 := eq_of_beq h8
 exact Qa VOK.nil (y := (Q13 p0 (i0 + 1), Q11 p0 (i0 + 1))) [hB 3 hc0, hP 2 (Q1c p0 i0 x0 hx0), hB 2 h0, hB 2 h1, hB 3 h2, hB 2 h3, hB 7 h4, hB 2 h5, hP 5 (dec (!(x0 == 45)) true (by rw [h6]; rfl)), hP 3 (dec (!(x0 == 95)) true (by rw [h7]; rfl)), hP 3 (dec (!(x0 == 47)) false (by rw [h8]; rfl)), hP 2 (Qs i0 (by omega))] [] (by kernel_rfl) hr
def Qnu (p0 : ByteArray) (i0 : Nat) (x0 : Int) : List PV :=
  [.str p0, .un, .un, .int .i64 (i0 : Int), .int .u8 x0, .bool false, .int .i64 (i0 : Int), .str p0, .int .i64 (ByteArray.size p0 : Int), .bool true, .un, .un, .str p0, .int .i64 (i0 : Int), .int .u8 x0, .int .u8 x0, .bool true, .bool true, .int .u8 x0, .bool false, .bool false, .bool false, .int .u8 x0, .bool true, .bool true, .int .u8 x0, .bool false, .bool false, .bool false, .bool false, .bool true, .bool true, .int .u8 x0, .bool true, .bool true, .int .u8 x0, .bool false, .bool false, .bool true, .bool true, .bool true, .int .u8 x0, .bool true, .bool true, .bool true, .int .u8 x0, .bool true, .bool true, .bool true, .int .u8 x0, .bool true, .bool true]
def Qiz (_p0 : ByteArray) (_i0 : Nat) (_x0 : Int) : List (Nat × List PV) :=
  []
theorem Qwa (p0 : ByteArray) (_H : Q10 p0) (x0 : Int) (i0 : Nat) (hx0 : (letters p0)[i0]? = some x0) (_hi0 : i0 < List.length (letters p0)) (hc0 : (decide ((i0 : Int) < (ByteArray.size p0 : Int))) = true) (h0 : (decide (97 ≤ x0)) = true) (h1 : (decide (x0 ≤ 122)) = false) (h2 : (decide (65 ≤ x0)) = true) (h3 : (decide (x0 ≤ 90)) = false) (h4 : (decide (48 ≤ x0)) = true) (h5 : (decide (x0 ≤ 57)) = false) (h6 : (x0 == 45) = false) (h7 : (x0 == 95) = false) (h8 : (x0 == 47) = false) : Q3u p0 (Qn p0 i0) (.k1) := by
 exact ⟨(envF (Qnu p0 i0 x0)), (zoF (Qiz p0 i0 x0)), Qe VOK.nil (x := (.ret, Q3c p0 (envF (Qnu p0 i0 x0)) (zoF (Qiz p0 i0 x0)))) [hB 3 hc0, hP 2 (Q1c p0 i0 x0 hx0), hB 2 h0, hB 2 h1, hB 3 h2, hB 2 h3, hB 7 h4, hB 2 h5, hP 5 (dec (!(x0 == 45)) true (by rw [h6]; rfl)), hP 3 (dec (!(x0 == 95)) true (by rw [h7]; rfl)), hP 3 (dec (!(x0 == 47)) true (by rw [h8]; rfl))] [] (by kernel_rfl)⟩
theorem Qzr (p0 : ByteArray) (H : Q10 p0) (x0 : Int) (i0 : Nat) (hx0 : (letters p0)[i0]? = some x0) (_hi0 : i0 < List.length (letters p0)) (hc0 : (decide ((i0 : Int) < (ByteArray.size p0 : Int))) = true) (h0 : (decide (97 ≤ x0)) = true) (h1 : (decide (x0 ≤ 122)) = false) (h2 : (decide (65 ≤ x0)) = true) (h3 : (decide (x0 ≤ 90)) = false) (h4 : (decide (48 ≤ x0)) = false) (h5 : (x0 == 45) = true) {r : Rs} (hr : Q7 G (Qn p0 (i0 + 1)) r) : Q7 G (Qn p0 i0) r := by
 have hB0 := H.1; have e0 := of_decide_eq_true h0; have e1 := of_decide_eq_false h1; have e2 := of_decide_eq_true h2; have e3 := of_decide_eq_false h3; have e4 := of_decide_eq_false h4; have e5 := eq_of_beq h5
 exact Qa VOK.nil (y := (Q13 p0 (i0 + 1), Q11 p0 (i0 + 1))) [hB 3 hc0, hP 2 (Q1c p0 i0 x0 hx0), hB 2 h0, hB 2 h1, hB 3 h2, hB 2 h3, hB 7 h4, hP 8 (dec (!(x0 == 45)) false (by rw [h5]; rfl)), hP 10 (Qs i0 (by omega))] [] (by kernel_rfl) hr
theorem Qw4 (p0 : ByteArray) (H : Q10 p0) (x0 : Int) (i0 : Nat) (hx0 : (letters p0)[i0]? = some x0) (_hi0 : i0 < List.length (letters p0)) (hc0 : (decide ((i0 : Int) < (ByteArray.size p0 : Int))) = true) (h0 : (decide (97 ≤ x0)) = true) (h1 : (decide (x0 ≤ 122)) = false) (h2 : (decide (65 ≤ x0)) = true) (h3 : (decide (x0 ≤ 90)) = false) (h4 : (decide (48 ≤ x0)) = false) (h5 : (x0 == 45) = false) (h6 : (x0 == 95) = true) {r : Rs} (hr : Q7 G (Qn p0 (i0 + 1)) r) : Q7 G (Qn p0 i0) r := by
 have hB0 := H.1; have e0 := of_decide_eq_true h0; have e1 := of_decide_eq_false h1; have e2 := of_decide_eq_true h2; have e3 := of_decide_eq_false h3; have e4 := of_decide_eq_false h4; have e5 := beq_eq_false_iff_ne.1 h5; have e6 := eq_of_beq h6
 exact Qa VOK.nil (y := (Q13 p0 (i0 + 1), Q11 p0 (i0 + 1))) [hB 3 hc0, hP 2 (Q1c p0 i0 x0 hx0), hB 2 h0, hB 2 h1, hB 3 h2, hB 2 h3, hB 7 h4, hP 8 (dec (!(x0 == 45)) true (by rw [h5]; rfl)), hP 3 (dec (!(x0 == 95)) false (by rw [h6]; rfl)), hP 6 (Qs i0 (by omega))] [] (by kernel_rfl) hr
theorem Quo (p0 : ByteArray) (H : Q10 p0) (x0 : Int) (i0 : Nat) (hx0 : (letters p0)[i0]? = some x0) (_hi0 : i0 < List.length (letters p0)) (hc0 : (decide ((i0 : Int) < (ByteArray.size p0 : Int))) = true) (h0 : (decide (97 ≤ x0)) = true) (h1 : (decide (x0 ≤ 122)) = false) (h2 : (decide (65 ≤ x0)) = true) (h3 : (decide (x0 ≤ 90)) = false) (h4 : (decide (48 ≤ x0)) = false) (h5 : (x0 == 45) = false) (h6 : (x0 == 95) = false) (h7 : (x0 == 47) = true) {r : Rs} (hr : Q7 G (Qn p0 (i0 + 1)) r) : Q7 G (Qn p0 i0) r := by
 have hB0 := H.1; have e0 := of_decide_eq_true h0; have e1 := of_decide_eq_false h1; have e2 := of_decide_eq_true h2; have e3 := of_decide_eq_false h3; have e4 := of_decide_eq_false h4; have e5 := beq_eq_false_iff_ne.1 h5; have e6 := beq_eq_false_iff_ne.1 h6; have e7 := eq_of_beq h7
 exact Qa VOK.nil (y := (Q13 p0 (i0 + 1), Q11 p0 (i0 + 1))) [hB 3 hc0, hP 2 (Q1c p0 i0 x0 hx0), hB 2 h0, hB 2 h1, hB 3 h2, hB 2 h3, hB 7 h4, hP 8 (dec (!(x0 == 45)) true (by rw [h5]; rfl)), hP 3 (dec (!(x0 == 95)) true (by rw [h6]; rfl)), hP 3 (dec (!(x0 == 47)) false (by rw [h7]; rfl)), hP 2 (Qs i0 (by omega))] [] (by kernel_rfl) hr
def Qg5 (p0 : ByteArray) (i0 : Nat) (x0 : Int) : List PV :=
  [.str p0, .un, .un, .int .i64 (i0 : Int), .int .u8 x0, .bool false, .int .i64 (i0 : Int), .str p0, .int .i64 (ByteArray.size p0 : Int), .bool true, .un, .un, .str p0, .int .i64 (i0 : Int), .int .u8 x0, .int .u8 x0, .bool true, .bool true, .int .u8 x0, .bool false, .bool false, .bool false, .int .u8 x0, .bool true, .bool true, .int .u8 x0, .bool false, .bool false, .bool false, .bool false, .bool true, .bool true, .int .u8 x0, .bool false, .bool false, .tup [], .tup [], .bool false, .bool true, .bool true, .bool true, .int .u8 x0, .bool true, .bool true, .bool true, .int .u8 x0, .bool true, .bool true, .bool true, .int .u8 x0, .bool true, .bool true]
def Qe2 (_p0 : ByteArray) (_i0 : Nat) (_x0 : Int) : List (Nat × List PV) :=
  []
theorem Qul (p0 : ByteArray) (_H : Q10 p0) (x0 : Int) (i0 : Nat) (hx0 : (letters p0)[i0]? = some x0) (_hi0 : i0 < List.length (letters p0)) (hc0 : (decide ((i0 : Int) < (ByteArray.size p0 : Int))) = true) (h0 : (decide (97 ≤ x0)) = true) (h1 : (decide (x0 ≤ 122)) = false) (h2 : (decide (65 ≤ x0)) = true) (h3 : (decide (x0 ≤ 90)) = false) (h4 : (decide (48 ≤ x0)) = false) (h5 : (x0 == 45) = false) (h6 : (x0 == 95) = false) (h7 : (x0 == 47) = false) : Q3u p0 (Qn p0 i0) (.k1) := by
 exact ⟨(envF (Qg5 p0 i0 x0)), (zoF (Qe2 p0 i0 x0)), Qe VOK.nil (x := (.ret, Q3c p0 (envF (Qg5 p0 i0 x0)) (zoF (Qe2 p0 i0 x0)))) [hB 3 hc0, hP 2 (Q1c p0 i0 x0 hx0), hB 2 h0, hB 2 h1, hB 3 h2, hB 2 h3, hB 7 h4, hP 8 (dec (!(x0 == 45)) true (by rw [h5]; rfl)), hP 3 (dec (!(x0 == 95)) true (by rw [h6]; rfl)), hP 3 (dec (!(x0 == 47)) true (by rw [h7]; rfl))] [] (by kernel_rfl)⟩
theorem Quk (p0 : ByteArray) (H : Q10 p0) (x0 : Int) (i0 : Nat) (hx0 : (letters p0)[i0]? = some x0) (_hi0 : i0 < List.length (letters p0)) (hc0 : (decide ((i0 : Int) < (ByteArray.size p0 : Int))) = true) (h0 : (decide (97 ≤ x0)) = true) (h1 : (decide (x0 ≤ 122)) = false) (h2 : (decide (65 ≤ x0)) = false) (h3 : (decide (48 ≤ x0)) = true) (h4 : (decide (x0 ≤ 57)) = true) {r : Rs} (hr : Q7 G (Qn p0 (i0 + 1)) r) : Q7 G (Qn p0 i0) r := by
 have hB0 := H.1; have e0 := of_decide_eq_true h0; have e1 := of_decide_eq_false h1; have e2 := of_decide_eq_false h2; have e3 := of_decide_eq_true h3; have e4 := of_decide_eq_true h4
 exact Qa VOK.nil (y := (Q13 p0 (i0 + 1), Q11 p0 (i0 + 1))) [hB 3 hc0, hP 2 (Q1c p0 i0 x0 hx0), hB 2 h0, hB 2 h1, hB 3 h2, hB 10 h3, hB 2 h4, hP 16 (Qs i0 (by omega))] [] (by kernel_rfl) hr
theorem Quv (p0 : ByteArray) (H : Q10 p0) (x0 : Int) (i0 : Nat) (hx0 : (letters p0)[i0]? = some x0) (_hi0 : i0 < List.length (letters p0)) (hc0 : (decide ((i0 : Int) < (ByteArray.size p0 : Int))) = true) (h0 : (decide (97 ≤ x0)) = true) (h1 : (decide (x0 ≤ 122)) = false) (h2 : (decide (65 ≤ x0)) = false) (h3 : (decide (48 ≤ x0)) = true) (h4 : (decide (x0 ≤ 57)) = false) (h5 : (x0 == 45) = true) {r : Rs} (hr : Q7 G (Qn p0 (i0 + 1)) r) : Q7 G (Qn p0 i0) r := by
 have hB0 := H.1; have e0 := of_decide_eq_true h0; have e1 := of_decide_eq_false h1; have e2 := of_decide_eq_false h2; have e3 := of_decide_eq_true h3; have e4 := of_decide_eq_false h4; have e5 := eq_of_beq h5
 exact Qa VOK.nil (y := (Q13 p0 (i0 + 1), Q11 p0 (i0 + 1))) [hB 3 hc0, hP 2 (Q1c p0 i0 x0 hx0), hB 2 h0, hB 2 h1, hB 3 h2, hB 10 h3, hB 2 h4, hP 5 (dec (!(x0 == 45)) false (by rw [h5]; rfl)), hP 10 (Qs i0 (by omega))] [] (by kernel_rfl) hr
theorem Qt6 (p0 : ByteArray) (H : Q10 p0) (x0 : Int) (i0 : Nat) (hx0 : (letters p0)[i0]? = some x0) (_hi0 : i0 < List.length (letters p0)) (hc0 : (decide ((i0 : Int) < (ByteArray.size p0 : Int))) = true) (h0 : (decide (97 ≤ x0)) = true) (h1 : (decide (x0 ≤ 122)) = false) (h2 : (decide (65 ≤ x0)) = false) (h3 : (decide (48 ≤ x0)) = true) (h4 : (decide (x0 ≤ 57)) = false) (h5 : (x0 == 45) = false) (h6 : (x0 == 95) = true) {r : Rs} (hr : Q7 G (Qn p0 (i0 + 1)) r) : Q7 G (Qn p0 i0) r := by
 have hB0 := H.1; have e0 := of_decide_eq_true h0; have e1 := of_decide_eq_false h1; have e2 := of_decide_eq_false h2; have e3 := of_decide_eq_true h3; have e4 := of_decide_eq_false h4; have e5 := beq_eq_false_iff_ne.1 h5; have e6 := eq_of_beq h6
 exact Qa VOK.nil (y := (Q13 p0 (i0 + 1), Q11 p0 (i0 + 1))) [hB 3 hc0, hP 2 (Q1c p0 i0 x0 hx0), hB 2 h0, hB 2 h1, hB 3 h2, hB 10 h3, hB 2 h4, hP 5 (dec (!(x0 == 45)) true (by rw [h5]; rfl)), hP 3 (dec (!(x0 == 95)) false (by rw [h6]; rfl)), hP 6 (Qs i0 (by omega))] [] (by kernel_rfl) hr
theorem Qug (p0 : ByteArray) (H : Q10 p0) (x0 : Int) (i0 : Nat) (hx0 : (letters p0)[i0]? = some x0) (_hi0 : i0 < List.length (letters p0)) (hc0 : (decide ((i0 : Int) < (ByteArray.size p0 : Int))) = true) (h0 : (decide (97 ≤ x0)) = true) (h1 : (decide (x0 ≤ 122)) = false) (h2 : (decide (65 ≤ x0)) = false) (h3 : (decide (48 ≤ x0)) = true) (h4 : (decide (x0 ≤ 57)) = false) (h5 : (x0 == 45) = false) (h6 : (x0 == 95) = false) (h7 : (x0 == 47) = true) {r : Rs} (hr : Q7 G (Qn p0 (i0 + 1)) r) : Q7 G (Qn p0 i0) r := by
 have hB0 := H.1; have e0 := of_decide_eq_true h0; have e1 := of_decide_eq_false h1; have e2 := of_decide_eq_false h2; have e3 := of_decide_eq_true h3; have e4 := of_decide_eq_false h4; have e5 := beq_eq_false_iff_ne.1 h5; have e6 := beq_eq_false_iff_ne.1 h6; have e7 := eq_of_beq h7
 exact Qa VOK.nil (y := (Q13 p0 (i0 + 1), Q11 p0 (i0 + 1))) [hB 3 hc0, hP 2 (Q1c p0 i0 x0 hx0), hB 2 h0, hB 2 h1, hB 3 h2, hB 10 h3, hB 2 h4, hP 5 (dec (!(x0 == 45)) true (by rw [h5]; rfl)), hP 3 (dec (!(x0 == 95)) true (by rw [h6]; rfl)), hP 3 (dec (!(x0 == 47)) false (by rw [h7]; rfl)), hP 2 (Qs i0 (by omega))] [] (by kernel_rfl) hr
def Qh4 (p0 : ByteArray) (i0 : Nat) (x0 : Int) : List PV :=
  [.str p0, .un, .un, .int .i64 (i0 : Int), .int .u8 x0, .bool false, .int .i64 (i0 : Int), .str p0, .int .i64 (ByteArray.size p0 : Int), .bool true, .un, .un, .str p0, .int .i64 (i0 : Int), .int .u8 x0, .int .u8 x0, .bool true, .bool true, .int .u8 x0, .bool false, .bool false, .bool false, .int .u8 x0, .bool false, .bool false, .tup [], .tup [], .bool false, .bool false, .bool false, .bool true, .bool true, .int .u8 x0, .bool true, .bool true, .int .u8 x0, .bool false, .bool false, .bool true, .bool true, .bool true, .int .u8 x0, .bool true, .bool true, .bool true, .int .u8 x0, .bool true, .bool true, .bool true, .int .u8 x0, .bool true, .bool true]
def Qfk (_p0 : ByteArray) (_i0 : Nat) (_x0 : Int) : List (Nat × List PV) :=
  []
theorem Quu (p0 : ByteArray) (_H : Q10 p0) (x0 : Int) (i0 : Nat) (hx0 : (letters p0)[i0]? = some x0) (_hi0 : i0 < List.length (letters p0)) (hc0 : (decide ((i0 : Int) < (ByteArray.size p0 : Int))) = true) (h0 : (decide (97 ≤ x0)) = true) (h1 : (decide (x0 ≤ 122)) = false) (h2 : (decide (65 ≤ x0)) = false) (h3 : (decide (48 ≤ x0)) = true) (h4 : (decide (x0 ≤ 57)) = false) (h5 : (x0 == 45) = false) (h6 : (x0 == 95) = false) (h7 : (x0 == 47) = false) : Q3u p0 (Qn p0 i0) (.k1) := by
 exact ⟨(envF (Qh4 p0 i0 x0)), (zoF (Qfk p0 i0 x0)), Qe VOK.nil (x := (.ret, Q3c p0 (envF (Qh4 p0 i0 x0)) (zoF (Qfk p0 i0 x0)))) [hB 3 hc0, hP 2 (Q1c p0 i0 x0 hx0), hB 2 h0, hB 2 h1, hB 3 h2, hB 10 h3, hB 2 h4, hP 5 (dec (!(x0 == 45)) true (by rw [h5]; rfl)), hP 3 (dec (!(x0 == 95)) true (by rw [h6]; rfl)), hP 3 (dec (!(x0 == 47)) true (by rw [h7]; rfl))] [] (by kernel_rfl)⟩
theorem Qu6 (p0 : ByteArray) (H : Q10 p0) (x0 : Int) (i0 : Nat) (hx0 : (letters p0)[i0]? = some x0) (_hi0 : i0 < List.length (letters p0)) (hc0 : (decide ((i0 : Int) < (ByteArray.size p0 : Int))) = true) (h0 : (decide (97 ≤ x0)) = true) (h1 : (decide (x0 ≤ 122)) = false) (h2 : (decide (65 ≤ x0)) = false) (h3 : (decide (48 ≤ x0)) = false) (h4 : (x0 == 45) = true) {r : Rs} (hr : Q7 G (Qn p0 (i0 + 1)) r) : Q7 G (Qn p0 i0) r := by
 have hB0 := H.1; have e0 := of_decide_eq_true h0; have e1 := of_decide_eq_false h1; have e2 := of_decide_eq_false h2; have e3 := of_decide_eq_false h3; have e4 := eq_of_beq h4
 exact Qa VOK.nil (y := (Q13 p0 (i0 + 1), Q11 p0 (i0 + 1))) [hB 3 hc0, hP 2 (Q1c p0 i0 x0 hx0), hB 2 h0, hB 2 h1, hB 3 h2, hB 10 h3, hP 8 (dec (!(x0 == 45)) false (by rw [h4]; rfl)), hP 10 (Qs i0 (by omega))] [] (by kernel_rfl) hr
theorem Qvn (p0 : ByteArray) (H : Q10 p0) (x0 : Int) (i0 : Nat) (hx0 : (letters p0)[i0]? = some x0) (_hi0 : i0 < List.length (letters p0)) (hc0 : (decide ((i0 : Int) < (ByteArray.size p0 : Int))) = true) (h0 : (decide (97 ≤ x0)) = true) (h1 : (decide (x0 ≤ 122)) = false) (h2 : (decide (65 ≤ x0)) = false) (h3 : (decide (48 ≤ x0)) = false) (h4 : (x0 == 45) = false) (h5 : (x0 == 95) = true) {r : Rs} (hr : Q7 G (Qn p0 (i0 + 1)) r) : Q7 G (Qn p0 i0) r := by
 have hB0 := H.1; have e0 := of_decide_eq_true h0; have e1 := of_decide_eq_false h1; have e2 := of_decide_eq_false h2; have e3 := of_decide_eq_false h3; have e4 := beq_eq_false_iff_ne.1 h4; have e5 := eq_of_beq h5
 exact Qa VOK.nil (y := (Q13 p0 (i0 + 1), Q11 p0 (i0 + 1))) [hB 3 hc0, hP 2 (Q1c p0 i0 x0 hx0), hB 2 h0, hB 2 h1, hB 3 h2, hB 10 h3, hP 8 (dec (!(x0 == 45)) true (by rw [h4]; rfl)), hP 3 (dec (!(x0 == 95)) false (by rw [h5]; rfl)), hP 6 (Qs i0 (by omega))] [] (by kernel_rfl) hr
theorem Qux (p0 : ByteArray) (H : Q10 p0) (x0 : Int) (i0 : Nat) (hx0 : (letters p0)[i0]? = some x0) (_hi0 : i0 < List.length (letters p0)) (hc0 : (decide ((i0 : Int) < (ByteArray.size p0 : Int))) = true) (h0 : (decide (97 ≤ x0)) = true) (h1 : (decide (x0 ≤ 122)) = false) (h2 : (decide (65 ≤ x0)) = false) (h3 : (decide (48 ≤ x0)) = false) (h4 : (x0 == 45) = false) (h5 : (x0 == 95) = false) (h6 : (x0 == 47) = true) {r : Rs} (hr : Q7 G (Qn p0 (i0 + 1)) r) : Q7 G (Qn p0 i0) r := by
 have hB0 := H.1; have e0 := of_decide_eq_true h0; have e1 := of_decide_eq_false h1; have e2 := of_decide_eq_false h2; have e3 := of_decide_eq_false h3; have e4 := beq_eq_false_iff_ne.1 h4; have e5 := beq_eq_false_iff_ne.1 h5; have e6 := eq_of_beq h6
 exact Qa VOK.nil (y := (Q13 p0 (i0 + 1), Q11 p0 (i0 + 1))) [hB 3 hc0, hP 2 (Q1c p0 i0 x0 hx0), hB 2 h0, hB 2 h1, hB 3 h2, hB 10 h3, hP 8 (dec (!(x0 == 45)) true (by rw [h4]; rfl)), hP 3 (dec (!(x0 == 95)) true (by rw [h5]; rfl)), hP 3 (dec (!(x0 == 47)) false (by rw [h6]; rfl)), hP 2 (Qs i0 (by omega))] [] (by kernel_rfl) hr
def Qg7 (p0 : ByteArray) (i0 : Nat) (x0 : Int) : List PV :=
  [.str p0, .un, .un, .int .i64 (i0 : Int), .int .u8 x0, .bool false, .int .i64 (i0 : Int), .str p0, .int .i64 (ByteArray.size p0 : Int), .bool true, .un, .un, .str p0, .int .i64 (i0 : Int), .int .u8 x0, .int .u8 x0, .bool true, .bool true, .int .u8 x0, .bool false, .bool false, .bool false, .int .u8 x0, .bool false, .bool false, .tup [], .tup [], .bool false, .bool false, .bool false, .bool true, .bool true, .int .u8 x0, .bool false, .bool false, .tup [], .tup [], .bool false, .bool true, .bool true, .bool true, .int .u8 x0, .bool true, .bool true, .bool true, .int .u8 x0, .bool true, .bool true, .bool true, .int .u8 x0, .bool true, .bool true]
def Qeq (_p0 : ByteArray) (_i0 : Nat) (_x0 : Int) : List (Nat × List PV) :=
  []
theorem Qu5 (p0 : ByteArray) (_H : Q10 p0) (x0 : Int) (i0 : Nat) (hx0 : (letters p0)[i0]? = some x0) (_hi0 : i0 < List.length (letters p0)) (hc0 : (decide ((i0 : Int) < (ByteArray.size p0 : Int))) = true) (h0 : (decide (97 ≤ x0)) = true) (h1 : (decide (x0 ≤ 122)) = false) (h2 : (decide (65 ≤ x0)) = false) (h3 : (decide (48 ≤ x0)) = false) (h4 : (x0 == 45) = false) (h5 : (x0 == 95) = false) (h6 : (x0 == 47) = false) : Q3u p0 (Qn p0 i0) (.k1) := by
 exact ⟨(envF (Qg7 p0 i0 x0)), (zoF (Qeq p0 i0 x0)), Qe VOK.nil (x := (.ret, Q3c p0 (envF (Qg7 p0 i0 x0)) (zoF (Qeq p0 i0 x0)))) [hB 3 hc0, hP 2 (Q1c p0 i0 x0 hx0), hB 2 h0, hB 2 h1, hB 3 h2, hB 10 h3, hP 8 (dec (!(x0 == 45)) true (by rw [h4]; rfl)), hP 3 (dec (!(x0 == 95)) true (by rw [h5]; rfl)), hP 3 (dec (!(x0 == 47)) true (by rw [h6]; rfl))] [] (by kernel_rfl)⟩
theorem Qss (p0 : ByteArray) (H : Q10 p0) (x0 : Int) (i0 : Nat) (hx0 : (letters p0)[i0]? = some x0) (hi0 : i0 < List.length (letters p0)) (hc0 : (decide ((i0 : Int) < (ByteArray.size p0 : Int))) = true) (h0 : (decide (97 ≤ x0)) = false) (h1 : (decide (65 ≤ x0)) = true) (h2 : (decide (x0 ≤ 90)) = true) {r : Rs} (hr : Q7 G (Qn p0 (i0 + 1)) r) : Q7 G (Qn p0 i0) r := by
 have hB0 := H.1; have e0 := of_decide_eq_false h0; have e1 := of_decide_eq_true h1; have e2 := of_decide_eq_true h2
 exact Qa VOK.nil (y := (Q13 p0 (i0 + 1), Q11 p0 (i0 + 1))) [hB 3 hc0, hP 2 (Q1c p0 i0 x0 hx0), hB 2 h0, hB 6 h1, hB 2 h2, hP 27 (Qs i0 (by omega))] [] (by kernel_rfl) hr
theorem Qub (p0 : ByteArray) (H : Q10 p0) (x0 : Int) (i0 : Nat) (hx0 : (letters p0)[i0]? = some x0) (_hi0 : i0 < List.length (letters p0)) (hc0 : (decide ((i0 : Int) < (ByteArray.size p0 : Int))) = true) (h0 : (decide (97 ≤ x0)) = false) (h1 : (decide (65 ≤ x0)) = true) (h2 : (decide (x0 ≤ 90)) = false) (h3 : (decide (48 ≤ x0)) = true) (h4 : (decide (x0 ≤ 57)) = true) {r : Rs} (hr : Q7 G (Qn p0 (i0 + 1)) r) : Q7 G (Qn p0 i0) r := by
 have hB0 := H.1; have e0 := of_decide_eq_false h0; have e1 := of_decide_eq_true h1; have e2 := of_decide_eq_false h2; have e3 := of_decide_eq_true h3; have e4 := of_decide_eq_true h4
 exact Qa VOK.nil (y := (Q13 p0 (i0 + 1), Q11 p0 (i0 + 1))) [hB 3 hc0, hP 2 (Q1c p0 i0 x0 hx0), hB 2 h0, hB 6 h1, hB 2 h2, hB 7 h3, hB 2 h4, hP 16 (Qs i0 (by omega))] [] (by kernel_rfl) hr
theorem Qv1 (p0 : ByteArray) (H : Q10 p0) (x0 : Int) (i0 : Nat) (hx0 : (letters p0)[i0]? = some x0) (_hi0 : i0 < List.length (letters p0)) (hc0 : (decide ((i0 : Int) < (ByteArray.size p0 : Int))) = true) (h0 : (decide (97 ≤ x0)) = false) (h1 : (decide (65 ≤ x0)) = true) (h2 : (decide (x0 ≤ 90)) = false) (h3 : (decide (48 ≤ x0)) = true) (h4 : (decide (x0 ≤ 57)) = false) (h5 : (x0 == 45) = true) {r : Rs} (hr : Q7 G (Qn p0 (i0 + 1)) r) : Q7 G (Qn p0 i0) r := by
 have hB0 := H.1; have e0 := of_decide_eq_false h0; have e1 := of_decide_eq_true h1; have e2 := of_decide_eq_false h2; have e3 := of_decide_eq_true h3; have e4 := of_decide_eq_false h4; have e5 := eq_of_beq h5
 exact Qa VOK.nil (y := (Q13 p0 (i0 + 1), Q11 p0 (i0 + 1))) [hB 3 hc0, hP 2 (Q1c p0 i0 x0 hx0), hB 2 h0, hB 6 h1, hB 2 h2, hB 7 h3, hB 2 h4, hP 5 (dec (!(x0 == 45)) false (by rw [h5]; rfl)), hP 10 (Qs i0 (by omega))] [] (by kernel_rfl) hr
theorem Qta (p0 : ByteArray) (H : Q10 p0) (x0 : Int) (i0 : Nat) (hx0 : (letters p0)[i0]? = some x0) (hi0 : i0 < List.length (letters p0)) (hc0 : (decide ((i0 : Int) < (ByteArray.size p0 : Int))) = true) (h0 : (decide (97 ≤ x0)) = false) (h1 : (decide (65 ≤ x0)) = true) (h2 : (decide (x0 ≤ 90)) = false) (h3 : (decide (48 ≤ x0)) = true) (h4 : (decide (x0 ≤ 57)) = false) (h5 : (x0 == 45) = false) (h6 : (x0 == 95) = true) {r : Rs} (hr : Q7 G (Qn p0 (i0 + 1)) r) : Q7 G (Qn p0 i0) r := by
 have hB0 := H.1; have e0 := of_decide_eq_false h0; have e1 := of_decide_eq_true h1; have e2 := of_decide_eq_false h2; have e3 := of_decide_eq_true h3; have e4 := of_decide_eq_false h4; have e5 := beq_eq_false_iff_ne.1 h5; have e6 := eq_of_beq h6
 exact Qa VOK.nil (y := (Q13 p0 (i0 + 1), Q11 p0 (i0 + 1))) [hB 3 hc0, hP 2 (Q1c p0 i0 x0 hx0), hB 2 h0, hB 6 h1, hB 2 h2, hB 7 h3, hB 2 h4, hP 5 (dec (!(x0 == 45)) true (by rw [h5]; rfl)), hP 3 (dec (!(x0 == 95)) false (by rw [h6]; rfl)), hP 6 (Qs i0 (by omega))] [] (by kernel_rfl) hr
theorem Qtl (p0 : ByteArray) (H : Q10 p0) (x0 : Int) (i0 : Nat) (hx0 : (letters p0)[i0]? = some x0) (_hi0 : i0 < List.length (letters p0)) (hc0 : (decide ((i0 : Int) < (ByteArray.size p0 : Int))) = true) (h0 : (decide (97 ≤ x0)) = false) (h1 : (decide (65 ≤ x0)) = true) (h2 : (decide (x0 ≤ 90)) = false) (h3 : (decide (48 ≤ x0)) = true) (h4 : (decide (x0 ≤ 57)) = false) (h5 : (x0 == 45) = false) (h6 : (x0 == 95) = false) (h7 : (x0 == 47) = true) {r : Rs} (hr : Q7 G (Qn p0 (i0 + 1)) r) : Q7 G (Qn p0 i0) r := by
 have hB0 := H.1; have e0 := of_decide_eq_false h0; have e1 := of_decide_eq_true h1; have e2 := of_decide_eq_false h2; have e3 := of_decide_eq_true h3; have e4 := of_decide_eq_false h4; have e5 := beq_eq_false_iff_ne.1 h5; have e6 := beq_eq_false_iff_ne.1 h6; have e7 := eq_of_beq h7
 exact Qa VOK.nil (y := (Q13 p0 (i0 + 1), Q11 p0 (i0 + 1))) [hB 3 hc0, hP 2 (Q1c p0 i0 x0 hx0), hB 2 h0, hB 6 h1, hB 2 h2, hB 7 h3, hB 2 h4, hP 5 (dec (!(x0 == 45)) true (by rw [h5]; rfl)), hP 3 (dec (!(x0 == 95)) true (by rw [h6]; rfl)), hP 3 (dec (!(x0 == 47)) false (by rw [h7]; rfl)), hP 2 (Qs i0 (by omega))] [] (by kernel_rfl) hr
def Qi3 (p0 : ByteArray) (i0 : Nat) (x0 : Int) : List PV :=
  [.str p0, .un, .un, .int .i64 (i0 : Int), .int .u8 x0, .bool false, .int .i64 (i0 : Int), .str p0, .int .i64 (ByteArray.size p0 : Int), .bool true, .un, .un, .str p0, .int .i64 (i0 : Int), .int .u8 x0, .int .u8 x0, .bool false, .bool false, .tup [], .tup [], .bool false, .bool false, .int .u8 x0, .bool true, .bool true, .int .u8 x0, .bool false, .bool false, .bool false, .bool false, .bool true, .bool true, .int .u8 x0, .bool true, .bool true, .int .u8 x0, .bool false, .bool false, .bool true, .bool true, .bool true, .int .u8 x0, .bool true, .bool true, .bool true, .int .u8 x0, .bool true, .bool true, .bool true, .int .u8 x0, .bool true, .bool true]
def Qc0 (_p0 : ByteArray) (_i0 : Nat) (_x0 : Int) : List (Nat × List PV) :=
  []
theorem Qtf (p0 : ByteArray) (_H : Q10 p0) (x0 : Int) (i0 : Nat) (hx0 : (letters p0)[i0]? = some x0) (_hi0 : i0 < List.length (letters p0)) (hc0 : (decide ((i0 : Int) < (ByteArray.size p0 : Int))) = true) (h0 : (decide (97 ≤ x0)) = false) (h1 : (decide (65 ≤ x0)) = true) (h2 : (decide (x0 ≤ 90)) = false) (h3 : (decide (48 ≤ x0)) = true) (h4 : (decide (x0 ≤ 57)) = false) (h5 : (x0 == 45) = false) (h6 : (x0 == 95) = false) (h7 : (x0 == 47) = false) : Q3u p0 (Qn p0 i0) (.k1) := by
 exact ⟨(envF (Qi3 p0 i0 x0)), (zoF (Qc0 p0 i0 x0)), Qe VOK.nil (x := (.ret, Q3c p0 (envF (Qi3 p0 i0 x0)) (zoF (Qc0 p0 i0 x0)))) [hB 3 hc0, hP 2 (Q1c p0 i0 x0 hx0), hB 2 h0, hB 6 h1, hB 2 h2, hB 7 h3, hB 2 h4, hP 5 (dec (!(x0 == 45)) true (by rw [h5]; rfl)), hP 3 (dec (!(x0 == 95)) true (by rw [h6]; rfl)), hP 3 (dec (!(x0 == 47)) true (by rw [h7]; rfl))] [] (by kernel_rfl)⟩
theorem Qum (p0 : ByteArray) (H : Q10 p0) (x0 : Int) (i0 : Nat) (hx0 : (letters p0)[i0]? = some x0) (_hi0 : i0 < List.length (letters p0)) (hc0 : (decide ((i0 : Int) < (ByteArray.size p0 : Int))) = true) (h0 : (decide (97 ≤ x0)) = false) (h1 : (decide (65 ≤ x0)) = true) (h2 : (decide (x0 ≤ 90)) = false) (h3 : (decide (48 ≤ x0)) = false) (h4 : (x0 == 45) = true) {r : Rs} (hr : Q7 G (Qn p0 (i0 + 1)) r) : Q7 G (Qn p0 i0) r := by
 have hB0 := H.1; have e0 := of_decide_eq_false h0; have e1 := of_decide_eq_true h1; have e2 := of_decide_eq_false h2; have e3 := of_decide_eq_false h3; have e4 := eq_of_beq h4
 exact Qa VOK.nil (y := (Q13 p0 (i0 + 1), Q11 p0 (i0 + 1))) [hB 3 hc0, hP 2 (Q1c p0 i0 x0 hx0), hB 2 h0, hB 6 h1, hB 2 h2, hB 7 h3, hP 8 (dec (!(x0 == 45)) false (by rw [h4]; rfl)), hP 10 (Qs i0 (by omega))] [] (by kernel_rfl) hr
theorem Qur (p0 : ByteArray) (H : Q10 p0) (x0 : Int) (i0 : Nat) (hx0 : (letters p0)[i0]? = some x0) (_hi0 : i0 < List.length (letters p0)) (hc0 : (decide ((i0 : Int) < (ByteArray.size p0 : Int))) = true) (h0 : (decide (97 ≤ x0)) = false) (h1 : (decide (65 ≤ x0)) = true) (h2 : (decide (x0 ≤ 90)) = false) (h3 : (decide (48 ≤ x0)) = false) (h4 : (x0 == 45) = false) (h5 : (x0 == 95) = true) {r : Rs} (hr : Q7 G (Qn p0 (i0 + 1)) r) : Q7 G (Qn p0 i0) r := by
 have hB0 := H.1; have e0 := of_decide_eq_false h0; have e1 := of_decide_eq_true h1; have e2 := of_decide_eq_false h2; have e3 := of_decide_eq_false h3; have e4 := beq_eq_false_iff_ne.1 h4; have e5 := eq_of_beq h5
 exact Qa VOK.nil (y := (Q13 p0 (i0 + 1), Q11 p0 (i0 + 1))) [hB 3 hc0, hP 2 (Q1c p0 i0 x0 hx0), hB 2 h0, hB 6 h1, hB 2 h2, hB 7 h3, hP 8 (dec (!(x0 == 45)) true (by rw [h4]; rfl)), hP 3 (dec (!(x0 == 95)) false (by rw [h5]; rfl)), hP 6 (Qs i0 (by omega))] [] (by kernel_rfl) hr
theorem Qv7 (p0 : ByteArray) (H : Q10 p0) (x0 : Int) (i0 : Nat) (hx0 : (letters p0)[i0]? = some x0) (_hi0 : i0 < List.length (letters p0)) (hc0 : (decide ((i0 : Int) < (ByteArray.size p0 : Int))) = true) (h0 : (decide (97 ≤ x0)) = false) (h1 : (decide (65 ≤ x0)) = true) (h2 : (decide (x0 ≤ 90)) = false) (h3 : (decide (48 ≤ x0)) = false) (h4 : (x0 == 45) = false) (h5 : (x0 == 95) = false) (h6 : (x0 == 47) = true) {r : Rs} (hr : Q7 G (Qn p0 (i0 + 1)) r) : Q7 G (Qn p0 i0) r := by
 have hB0 := H.1; have e0 := of_decide_eq_false h0; have e1 := of_decide_eq_true h1; have e2 := of_decide_eq_false h2; have e3 := of_decide_eq_false h3; have e4 := beq_eq_false_iff_ne.1 h4; have e5 := beq_eq_false_iff_ne.1 h5; have e6 := eq_of_beq h6
 exact Qa VOK.nil (y := (Q13 p0 (i0 + 1), Q11 p0 (i0 + 1))) [hB 3 hc0, hP 2 (Q1c p0 i0 x0 hx0), hB 2 h0, hB 6 h1, hB 2 h2, hB 7 h3, hP 8 (dec (!(x0 == 45)) true (by rw [h4]; rfl)), hP 3 (dec (!(x0 == 95)) true (by rw [h5]; rfl)), hP 3 (dec (!(x0 == 47)) false (by rw [h6]; rfl)), hP 2 (Qs i0 (by omega))] [] (by kernel_rfl) hr
def Qhj (p0 : ByteArray) (i0 : Nat) (x0 : Int) : List PV :=
  [.str p0, .un, .un, .int .i64 (i0 : Int), .int .u8 x0, .bool false, .int .i64 (i0 : Int), .str p0, .int .i64 (ByteArray.size p0 : Int), .bool true, .un, .un, .str p0, .int .i64 (i0 : Int), .int .u8 x0, .int .u8 x0, .bool false, .bool false, .tup [], .tup [], .bool false, .bool false, .int .u8 x0, .bool true, .bool true, .int .u8 x0, .bool false, .bool false, .bool false, .bool false, .bool true, .bool true, .int .u8 x0, .bool false, .bool false, .tup [], .tup [], .bool false, .bool true, .bool true, .bool true, .int .u8 x0, .bool true, .bool true, .bool true, .int .u8 x0, .bool true, .bool true, .bool true, .int .u8 x0, .bool true, .bool true]
def Qe7 (_p0 : ByteArray) (_i0 : Nat) (_x0 : Int) : List (Nat × List PV) :=
  []
theorem Qu4 (p0 : ByteArray) (_H : Q10 p0) (x0 : Int) (i0 : Nat) (hx0 : (letters p0)[i0]? = some x0) (_hi0 : i0 < List.length (letters p0)) (hc0 : (decide ((i0 : Int) < (ByteArray.size p0 : Int))) = true) (h0 : (decide (97 ≤ x0)) = false) (h1 : (decide (65 ≤ x0)) = true) (h2 : (decide (x0 ≤ 90)) = false) (h3 : (decide (48 ≤ x0)) = false) (h4 : (x0 == 45) = false) (h5 : (x0 == 95) = false) (h6 : (x0 == 47) = false) : Q3u p0 (Qn p0 i0) (.k1) := by
 exact ⟨(envF (Qhj p0 i0 x0)), (zoF (Qe7 p0 i0 x0)), Qe VOK.nil (x := (.ret, Q3c p0 (envF (Qhj p0 i0 x0)) (zoF (Qe7 p0 i0 x0)))) [hB 3 hc0, hP 2 (Q1c p0 i0 x0 hx0), hB 2 h0, hB 6 h1, hB 2 h2, hB 7 h3, hP 8 (dec (!(x0 == 45)) true (by rw [h4]; rfl)), hP 3 (dec (!(x0 == 95)) true (by rw [h5]; rfl)), hP 3 (dec (!(x0 == 47)) true (by rw [h6]; rfl))] [] (by kernel_rfl)⟩
theorem Qsv (p0 : ByteArray) (H : Q10 p0) (x0 : Int) (i0 : Nat) (hx0 : (letters p0)[i0]? = some x0) (hi0 : i0 < List.length (letters p0)) (hc0 : (decide ((i0 : Int) < (ByteArray.size p0 : Int))) = true) (h0 : (decide (97 ≤ x0)) = false) (h1 : (decide (65 ≤ x0)) = false) (h2 : (decide (48 ≤ x0)) = true) (h3 : (decide (x0 ≤ 57)) = true) {r : Rs} (hr : Q7 G (Qn p0 (i0 + 1)) r) : Q7 G (Qn p0 i0) r := by
 have hB0 := H.1; have e0 := of_decide_eq_false h0; have e1 := of_decide_eq_false h1; have e2 := of_decide_eq_true h2; have e3 := of_decide_eq_true h3
 exact Qa VOK.nil (y := (Q13 p0 (i0 + 1), Q11 p0 (i0 + 1))) [hB 3 hc0, hP 2 (Q1c p0 i0 x0 hx0), hB 2 h0, hB 6 h1, hB 10 h2, hB 2 h3, hP 16 (Qs i0 (by omega))] [] (by kernel_rfl) hr
theorem Qt0 (p0 : ByteArray) (H : Q10 p0) (x0 : Int) (i0 : Nat) (hx0 : (letters p0)[i0]? = some x0) (_hi0 : i0 < List.length (letters p0)) (hc0 : (decide ((i0 : Int) < (ByteArray.size p0 : Int))) = true) (h0 : (decide (97 ≤ x0)) = false) (h1 : (decide (65 ≤ x0)) = false) (h2 : (decide (48 ≤ x0)) = true) (h3 : (decide (x0 ≤ 57)) = false) (h4 : (x0 == 45) = true) {r : Rs} (hr : Q7 G (Qn p0 (i0 + 1)) r) : Q7 G (Qn p0 i0) r := by
 have hB0 := H.1; have e0 := of_decide_eq_false h0; have e1 := of_decide_eq_false h1; have e2 := of_decide_eq_true h2; have e3 := of_decide_eq_false h3; have e4 := eq_of_beq h4
 exact Qa VOK.nil (y := (Q13 p0 (i0 + 1), Q11 p0 (i0 + 1))) [hB 3 hc0, hP 2 (Q1c p0 i0 x0 hx0), hB 2 h0, hB 6 h1, hB 10 h2, hB 2 h3, hP 5 (dec (!(x0 == 45)) false (by rw [h4]; rfl)), hP 10 (Qs i0 (by omega))] [] (by kernel_rfl) hr
theorem Qt8 (p0 : ByteArray) (H : Q10 p0) (x0 : Int) (i0 : Nat) (hx0 : (letters p0)[i0]? = some x0) (_hi0 : i0 < List.length (letters p0)) (hc0 : (decide ((i0 : Int) < (ByteArray.size p0 : Int))) = true) (h0 : (decide (97 ≤ x0)) = false) (h1 : (decide (65 ≤ x0)) = false) (h2 : (decide (48 ≤ x0)) = true) (h3 : (decide (x0 ≤ 57)) = false) (h4 : (x0 == 45) = false) (h5 : (x0 == 95) = true) {r : Rs} (hr : Q7 G (Qn p0 (i0 + 1)) r) : Q7 G (Qn p0 i0) r := by
 have hB0 := H.1; have e0 := of_decide_eq_false h0; have e1 := of_decide_eq_false h1; have e2 := of_decide_eq_true h2; have e3 := of_decide_eq_false h3; have e4 := beq_eq_false_iff_ne.1 h4; have e5 := eq_of_beq h5
 exact Qa VOK.nil (y := (Q13 p0 (i0 + 1), Q11 p0 (i0 + 1))) [hB 3 hc0, hP 2 (Q1c p0 i0 x0 hx0), hB 2 h0, hB 6 h1, hB 10 h2, hB 2 h3, hP 5 (dec (!(x0 == 45)) true (by rw [h4]; rfl)), hP 3 (dec (!(x0 == 95)) false (by rw [h5]; rfl)), hP 6 (Qs i0 (by omega))] [] (by kernel_rfl) hr
theorem Qva (p0 : ByteArray) (H : Q10 p0) (x0 : Int) (i0 : Nat) (hx0 : (letters p0)[i0]? = some x0) (_hi0 : i0 < List.length (letters p0)) (hc0 : (decide ((i0 : Int) < (ByteArray.size p0 : Int))) = true) (h0 : (decide (97 ≤ x0)) = false) (h1 : (decide (65 ≤ x0)) = false) (h2 : (decide (48 ≤ x0)) = true) (h3 : (decide (x0 ≤ 57)) = false) (h4 : (x0 == 45) = false) (h5 : (x0 == 95) = false) (h6 : (x0 == 47) = true) {r : Rs} (hr : Q7 G (Qn p0 (i0 + 1)) r) : Q7 G (Qn p0 i0) r := by
 have hB0 := H.1; have e0 := of_decide_eq_false h0; have e1 := of_decide_eq_false h1; have e2 := of_decide_eq_true h2; have e3 := of_decide_eq_false h3; have e4 := beq_eq_false_iff_ne.1 h4; have e5 := beq_eq_false_iff_ne.1 h5; have e6 := eq_of_beq h6
 exact Qa VOK.nil (y := (Q13 p0 (i0 + 1), Q11 p0 (i0 + 1))) [hB 3 hc0, hP 2 (Q1c p0 i0 x0 hx0), hB 2 h0, hB 6 h1, hB 10 h2, hB 2 h3, hP 5 (dec (!(x0 == 45)) true (by rw [h4]; rfl)), hP 3 (dec (!(x0 == 95)) true (by rw [h5]; rfl)), hP 3 (dec (!(x0 == 47)) false (by rw [h6]; rfl)), hP 2 (Qs i0 (by omega))] [] (by kernel_rfl) hr
def Qhb (p0 : ByteArray) (i0 : Nat) (x0 : Int) : List PV :=
  [.str p0, .un, .un, .int .i64 (i0 : Int), .int .u8 x0, .bool false, .int .i64 (i0 : Int), .str p0, .int .i64 (ByteArray.size p0 : Int), .bool true, .un, .un, .str p0, .int .i64 (i0 : Int), .int .u8 x0, .int .u8 x0, .bool false, .bool false, .tup [], .tup [], .bool false, .bool false, .int .u8 x0, .bool false, .bool false, .tup [], .tup [], .bool false, .bool false, .bool false, .bool true, .bool true, .int .u8 x0, .bool true, .bool true, .int .u8 x0, .bool false, .bool false, .bool true, .bool true, .bool true, .int .u8 x0, .bool true, .bool true, .bool true, .int .u8 x0, .bool true, .bool true, .bool true, .int .u8 x0, .bool true, .bool true]
def Qez (_p0 : ByteArray) (_i0 : Nat) (_x0 : Int) : List (Nat × List PV) :=
  []
theorem Qvv (p0 : ByteArray) (_H : Q10 p0) (x0 : Int) (i0 : Nat) (hx0 : (letters p0)[i0]? = some x0) (_hi0 : i0 < List.length (letters p0)) (hc0 : (decide ((i0 : Int) < (ByteArray.size p0 : Int))) = true) (h0 : (decide (97 ≤ x0)) = false) (h1 : (decide (65 ≤ x0)) = false) (h2 : (decide (48 ≤ x0)) = true) (h3 : (decide (x0 ≤ 57)) = false) (h4 : (x0 == 45) = false) (h5 : (x0 == 95) = false) (h6 : (x0 == 47) = false) : Q3u p0 (Qn p0 i0) (.k1) := by
 exact ⟨(envF (Qhb p0 i0 x0)), (zoF (Qez p0 i0 x0)), Qe VOK.nil (x := (.ret, Q3c p0 (envF (Qhb p0 i0 x0)) (zoF (Qez p0 i0 x0)))) [hB 3 hc0, hP 2 (Q1c p0 i0 x0 hx0), hB 2 h0, hB 6 h1, hB 10 h2, hB 2 h3, hP 5 (dec (!(x0 == 45)) true (by rw [h4]; rfl)), hP 3 (dec (!(x0 == 95)) true (by rw [h5]; rfl)), hP 3 (dec (!(x0 == 47)) true (by rw [h6]; rfl))] [] (by kernel_rfl)⟩
theorem Qvj (p0 : ByteArray) (H : Q10 p0) (x0 : Int) (i0 : Nat) (hx0 : (letters p0)[i0]? = some x0) (hi0 : i0 < List.length (letters p0)) (hc0 : (decide ((i0 : Int) < (ByteArray.size p0 : Int))) = true) (h0 : (decide (97 ≤ x0)) = false) (h1 : (decide (65 ≤ x0)) = false) (h2 : (decide (48 ≤ x0)) = false) (h3 : (x0 == 45) = true) {r : Rs} (hr : Q7 G (Qn p0 (i0 + 1)) r) : Q7 G (Qn p0 i0) r := by
 have hB0 := H.1; have e0 := of_decide_eq_false h0; have e1 := of_decide_eq_false h1; have e2 := of_decide_eq_false h2; have e3 := eq_of_beq h3
 exact Qa VOK.nil (y := (Q13 p0 (i0 + 1), Q11 p0 (i0 + 1))) [hB 3 hc0, hP 2 (Q1c p0 i0 x0 hx0), hB 2 h0, hB 6 h1, hB 10 h2, hP 8 (dec (!(x0 == 45)) false (by rw [h3]; rfl)), hP 10 (Qs i0 (by omega))] [] (by kernel_rfl) hr
theorem Qt9 (p0 : ByteArray) (H : Q10 p0) (x0 : Int) (i0 : Nat) (hx0 : (letters p0)[i0]? = some x0) (_hi0 : i0 < List.length (letters p0)) (hc0 : (decide ((i0 : Int) < (ByteArray.size p0 : Int))) = true) (h0 : (decide (97 ≤ x0)) = false) (h1 : (decide (65 ≤ x0)) = false) (h2 : (decide (48 ≤ x0)) = false) (h3 : (x0 == 45) = false) (h4 : (x0 == 95) = true) {r : Rs} (hr : Q7 G (Qn p0 (i0 + 1)) r) : Q7 G (Qn p0 i0) r := by
 have hB0 := H.1; have e0 := of_decide_eq_false h0; have e1 := of_decide_eq_false h1; have e2 := of_decide_eq_false h2; have e3 := beq_eq_false_iff_ne.1 h3; have e4 := eq_of_beq h4
 exact Qa VOK.nil (y := (Q13 p0 (i0 + 1), Q11 p0 (i0 + 1))) [hB 3 hc0, hP 2 (Q1c p0 i0 x0 hx0), hB 2 h0, hB 6 h1, hB 10 h2, hP 8 (dec (!(x0 == 45)) true (by rw [h3]; rfl)), hP 3 (dec (!(x0 == 95)) false (by rw [h4]; rfl)), hP 6 (Qs i0 (by omega))] [] (by kernel_rfl) hr
theorem Qv5 (p0 : ByteArray) (H : Q10 p0) (x0 : Int) (i0 : Nat) (hx0 : (letters p0)[i0]? = some x0) (hi0 : i0 < List.length (letters p0)) (hc0 : (decide ((i0 : Int) < (ByteArray.size p0 : Int))) = true) (h0 : (decide (97 ≤ x0)) = false) (h1 : (decide (65 ≤ x0)) = false) (h2 : (decide (48 ≤ x0)) = false) (h3 : (x0 == 45) = false) (h4 : (x0 == 95) = false) (h5 : (x0 == 47) = true) {r : Rs} (hr : Q7 G (Qn p0 (i0 + 1)) r) : Q7 G (Qn p0 i0) r := by
 have hB0 := H.1; have e0 := of_decide_eq_false h0; have e1 := of_decide_eq_false h1; have e2 := of_decide_eq_false h2; have e3 := beq_eq_false_iff_ne.1 h3; have e4 := beq_eq_false_iff_ne.1 h4; have e5 := eq_of_beq h5
 exact Qa VOK.nil (y := (Q13 p0 (i0 + 1), Q11 p0 (i0 + 1))) [hB 3 hc0, hP 2 (Q1c p0 i0 x0 hx0), hB 2 h0, hB 6 h1, hB 10 h2, hP 8 (dec (!(x0 == 45)) true (by rw [h3]; rfl)), hP 3 (dec (!(x0 == 95)) true (by rw [h4]; rfl)), hP 3 (dec (!(x0 == 47)) false (by rw [h5]; rfl)), hP 2 (Qs i0 (by omega))] [] (by kernel_rfl) hr
def Qgm (p0 : ByteArray) (i0 : Nat) (x0 : Int) : List PV :=
  [.str p0, .un, .un, .int .i64 (i0 : Int), .int .u8 x0, .bool false, .int .i64 (i0 : Int), .str p0, .int .i64 (ByteArray.size p0 : Int), .bool true, .un, .un, .str p0, .int .i64 (i0 : Int), .int .u8 x0, .int .u8 x0, .bool false, .bool false, .tup [], .tup [], .bool false, .bool false, .int .u8 x0, .bool false, .bool false, .tup [], .tup [], .bool false, .bool false, .bool false, .bool true, .bool true, .int .u8 x0, .bool false, .bool false, .tup [], .tup [], .bool false, .bool true, .bool true, .bool true, .int .u8 x0, .bool true, .bool true, .bool true, .int .u8 x0, .bool true, .bool true, .bool true, .int .u8 x0, .bool true, .bool true]
def Qek (_p0 : ByteArray) (_i0 : Nat) (_x0 : Int) : List (Nat × List PV) :=
  []
theorem Qvo (p0 : ByteArray) (_H : Q10 p0) (x0 : Int) (i0 : Nat) (hx0 : (letters p0)[i0]? = some x0) (_hi0 : i0 < List.length (letters p0)) (hc0 : (decide ((i0 : Int) < (ByteArray.size p0 : Int))) = true) (h0 : (decide (97 ≤ x0)) = false) (h1 : (decide (65 ≤ x0)) = false) (h2 : (decide (48 ≤ x0)) = false) (h3 : (x0 == 45) = false) (h4 : (x0 == 95) = false) (h5 : (x0 == 47) = false) : Q3u p0 (Qn p0 i0) (.k1) := by
 exact ⟨(envF (Qgm p0 i0 x0)), (zoF (Qek p0 i0 x0)), Qe VOK.nil (x := (.ret, Q3c p0 (envF (Qgm p0 i0 x0)) (zoF (Qek p0 i0 x0)))) [hB 3 hc0, hP 2 (Q1c p0 i0 x0 hx0), hB 2 h0, hB 6 h1, hB 10 h2, hP 8 (dec (!(x0 == 45)) true (by rw [h3]; rfl)), hP 3 (dec (!(x0 == 95)) true (by rw [h4]; rfl)), hP 3 (dec (!(x0 == 47)) true (by rw [h5]; rfl))] [] (by kernel_rfl)⟩
theorem Q12 (p0 : ByteArray) (H : Q10 p0) : ∀ (r0 : List Int) (i0 : Nat), List.drop i0 (letters p0) = r0 → Q3u p0 (Qn p0 i0) (Q1b p0 r0 i0)
 | [], i0, hd => by
  have hc0 : (decide ((i0 : Int) < (ByteArray.size p0 : Int))) = false := by have hL := Q42 p0; have := Q1m hd; simp; omega
  rw [Q1b]
  exact Qxz p0 H i0 hc0
 | x0 :: r0, i0, hd => by
  obtain ⟨hx0, hi0, hd'⟩ := Q18 hd
  have hc0 : (decide ((i0 : Int) < (ByteArray.size p0 : Int))) = true := by have hL := Q42 p0; simp; omega
  rw [Q1b]
  cases h0 : (decide (97 ≤ x0)) with
  | true =>
   cases h1 : (decide (x0 ≤ 122)) with
   | true =>
    exact Qo p0 (fun r hr => Qy1 p0 H x0 i0 hx0 hi0 hc0 h0 h1 hr) _ (Q12 p0 H r0 (i0 + 1) hd')
   | false =>
    cases h2 : (decide (65 ≤ x0)) with
    | true =>
     cases h3 : (decide (x0 ≤ 90)) with
     | true =>
      exact Qo p0 (fun r hr => Qwt p0 H x0 i0 hx0 hi0 hc0 h0 h1 h2 h3 hr) _ (Q12 p0 H r0 (i0 + 1) hd')
     | false =>
      cases h4 : (decide (48 ≤ x0)) with
      | true =>
       cases h5 : (decide (x0 ≤ 57)) with
       | true =>
        exact Qo p0 (fun r hr => Qxn p0 H x0 i0 hx0 hi0 hc0 h0 h1 h2 h3 h4 h5 hr) _ (Q12 p0 H r0 (i0 + 1) hd')
       | false =>
        cases h6 : (x0 == 45) with
        | true =>
         exact Qo p0 (fun r hr => Qxj p0 H x0 i0 hx0 hi0 hc0 h0 h1 h2 h3 h4 h5 h6 hr) _ (Q12 p0 H r0 (i0 + 1) hd')
        | false =>
         cases h7 : (x0 == 95) with
         | true =>
          exact Qo p0 (fun r hr => Qwx p0 H x0 i0 hx0 hi0 hc0 h0 h1 h2 h3 h4 h5 h6 h7 hr) _ (Q12 p0 H r0 (i0 + 1) hd')
         | false =>
          cases h8 : (x0 == 47) with
          | true =>
           exact Qo p0 (fun r hr => Qz9 p0 H x0 i0 hx0 hi0 hc0 h0 h1 h2 h3 h4 h5 h6 h7 h8 hr) _ (Q12 p0 H r0 (i0 + 1) hd')
          | false =>
           exact Qwa p0 H x0 i0 hx0 hi0 hc0 h0 h1 h2 h3 h4 h5 h6 h7 h8
      | false =>
       cases h5 : (x0 == 45) with
       | true =>
        exact Qo p0 (fun r hr => Qzr p0 H x0 i0 hx0 hi0 hc0 h0 h1 h2 h3 h4 h5 hr) _ (Q12 p0 H r0 (i0 + 1) hd')
       | false =>
        cases h6 : (x0 == 95) with
        | true =>
         exact Qo p0 (fun r hr => Qw4 p0 H x0 i0 hx0 hi0 hc0 h0 h1 h2 h3 h4 h5 h6 hr) _ (Q12 p0 H r0 (i0 + 1) hd')
        | false =>
         cases h7 : (x0 == 47) with
         | true =>
          exact Qo p0 (fun r hr => Quo p0 H x0 i0 hx0 hi0 hc0 h0 h1 h2 h3 h4 h5 h6 h7 hr) _ (Q12 p0 H r0 (i0 + 1) hd')
         | false =>
          exact Qul p0 H x0 i0 hx0 hi0 hc0 h0 h1 h2 h3 h4 h5 h6 h7
    | false =>
     cases h3 : (decide (48 ≤ x0)) with
     | true =>
      cases h4 : (decide (x0 ≤ 57)) with
      | true =>
       exact Qo p0 (fun r hr => Quk p0 H x0 i0 hx0 hi0 hc0 h0 h1 h2 h3 h4 hr) _ (Q12 p0 H r0 (i0 + 1) hd')
      | false =>
       cases h5 : (x0 == 45) with
       | true =>
        exact Qo p0 (fun r hr => Quv p0 H x0 i0 hx0 hi0 hc0 h0 h1 h2 h3 h4 h5 hr) _ (Q12 p0 H r0 (i0 + 1) hd')
       | false =>
        cases h6 : (x0 == 95) with
        | true =>
         exact Qo p0 (fun r hr => Qt6 p0 H x0 i0 hx0 hi0 hc0 h0 h1 h2 h3 h4 h5 h6 hr) _ (Q12 p0 H r0 (i0 + 1) hd')
        | false =>
         cases h7 : (x0 == 47) with
         | true =>
          exact Qo p0 (fun r hr => Qug p0 H x0 i0 hx0 hi0 hc0 h0 h1 h2 h3 h4 h5 h6 h7 hr) _ (Q12 p0 H r0 (i0 + 1) hd')
         | false =>
          exact Quu p0 H x0 i0 hx0 hi0 hc0 h0 h1 h2 h3 h4 h5 h6 h7
     | false =>
      cases h4 : (x0 == 45) with
      | true =>
       exact Qo p0 (fun r hr => Qu6 p0 H x0 i0 hx0 hi0 hc0 h0 h1 h2 h3 h4 hr) _ (Q12 p0 H r0 (i0 + 1) hd')
      | false =>
       cases h5 : (x0 == 95) with
       | true =>
        exact Qo p0 (fun r hr => Qvn p0 H x0 i0 hx0 hi0 hc0 h0 h1 h2 h3 h4 h5 hr) _ (Q12 p0 H r0 (i0 + 1) hd')
       | false =>
        cases h6 : (x0 == 47) with
        | true =>
         exact Qo p0 (fun r hr => Qux p0 H x0 i0 hx0 hi0 hc0 h0 h1 h2 h3 h4 h5 h6 hr) _ (Q12 p0 H r0 (i0 + 1) hd')
        | false =>
         exact Qu5 p0 H x0 i0 hx0 hi0 hc0 h0 h1 h2 h3 h4 h5 h6
  | false =>
   cases h1 : (decide (65 ≤ x0)) with
   | true =>
    cases h2 : (decide (x0 ≤ 90)) with
    | true =>
     exact Qo p0 (fun r hr => Qss p0 H x0 i0 hx0 hi0 hc0 h0 h1 h2 hr) _ (Q12 p0 H r0 (i0 + 1) hd')
    | false =>
     cases h3 : (decide (48 ≤ x0)) with
     | true =>
      cases h4 : (decide (x0 ≤ 57)) with
      | true =>
       exact Qo p0 (fun r hr => Qub p0 H x0 i0 hx0 hi0 hc0 h0 h1 h2 h3 h4 hr) _ (Q12 p0 H r0 (i0 + 1) hd')
      | false =>
       cases h5 : (x0 == 45) with
       | true =>
        exact Qo p0 (fun r hr => Qv1 p0 H x0 i0 hx0 hi0 hc0 h0 h1 h2 h3 h4 h5 hr) _ (Q12 p0 H r0 (i0 + 1) hd')
       | false =>
        cases h6 : (x0 == 95) with
        | true =>
         exact Qo p0 (fun r hr => Qta p0 H x0 i0 hx0 hi0 hc0 h0 h1 h2 h3 h4 h5 h6 hr) _ (Q12 p0 H r0 (i0 + 1) hd')
        | false =>
         cases h7 : (x0 == 47) with
         | true =>
          exact Qo p0 (fun r hr => Qtl p0 H x0 i0 hx0 hi0 hc0 h0 h1 h2 h3 h4 h5 h6 h7 hr) _ (Q12 p0 H r0 (i0 + 1) hd')
         | false =>
          exact Qtf p0 H x0 i0 hx0 hi0 hc0 h0 h1 h2 h3 h4 h5 h6 h7
     | false =>
      cases h4 : (x0 == 45) with
      | true =>
       exact Qo p0 (fun r hr => Qum p0 H x0 i0 hx0 hi0 hc0 h0 h1 h2 h3 h4 hr) _ (Q12 p0 H r0 (i0 + 1) hd')
      | false =>
       cases h5 : (x0 == 95) with
       | true =>
        exact Qo p0 (fun r hr => Qur p0 H x0 i0 hx0 hi0 hc0 h0 h1 h2 h3 h4 h5 hr) _ (Q12 p0 H r0 (i0 + 1) hd')
       | false =>
        cases h6 : (x0 == 47) with
        | true =>
         exact Qo p0 (fun r hr => Qv7 p0 H x0 i0 hx0 hi0 hc0 h0 h1 h2 h3 h4 h5 h6 hr) _ (Q12 p0 H r0 (i0 + 1) hd')
        | false =>
         exact Qu4 p0 H x0 i0 hx0 hi0 hc0 h0 h1 h2 h3 h4 h5 h6
   | false =>
    cases h2 : (decide (48 ≤ x0)) with
    | true =>
     cases h3 : (decide (x0 ≤ 57)) with
     | true =>
      exact Qo p0 (fun r hr => Qsv p0 H x0 i0 hx0 hi0 hc0 h0 h1 h2 h3 hr) _ (Q12 p0 H r0 (i0 + 1) hd')
     | false =>
      cases h4 : (x0 == 45) with
      | true =>
       exact Qo p0 (fun r hr => Qt0 p0 H x0 i0 hx0 hi0 hc0 h0 h1 h2 h3 h4 hr) _ (Q12 p0 H r0 (i0 + 1) hd')
      | false =>
       cases h5 : (x0 == 95) with
       | true =>
        exact Qo p0 (fun r hr => Qt8 p0 H x0 i0 hx0 hi0 hc0 h0 h1 h2 h3 h4 h5 hr) _ (Q12 p0 H r0 (i0 + 1) hd')
       | false =>
        cases h6 : (x0 == 47) with
        | true =>
         exact Qo p0 (fun r hr => Qva p0 H x0 i0 hx0 hi0 hc0 h0 h1 h2 h3 h4 h5 h6 hr) _ (Q12 p0 H r0 (i0 + 1) hd')
        | false =>
         exact Qvv p0 H x0 i0 hx0 hi0 hc0 h0 h1 h2 h3 h4 h5 h6
    | false =>
     cases h3 : (x0 == 45) with
     | true =>
      exact Qo p0 (fun r hr => Qvj p0 H x0 i0 hx0 hi0 hc0 h0 h1 h2 h3 hr) _ (Q12 p0 H r0 (i0 + 1) hd')
     | false =>
      cases h4 : (x0 == 95) with
      | true =>
       exact Qo p0 (fun r hr => Qt9 p0 H x0 i0 hx0 hi0 hc0 h0 h1 h2 h3 h4 hr) _ (Q12 p0 H r0 (i0 + 1) hd')
      | false =>
       cases h5 : (x0 == 47) with
       | true =>
        exact Qo p0 (fun r hr => Qv5 p0 H x0 i0 hx0 hi0 hc0 h0 h1 h2 h3 h4 h5 hr) _ (Q12 p0 H r0 (i0 + 1) hd')
       | false =>
        exact Qvo p0 H x0 i0 hx0 hi0 hc0 h0 h1 h2 h3 h4 h5
def s_Kp (p0 : ByteArray) : Bool :=
 (match (Q1b p0 (letters p0) 0) with
 | .k0 => bif (decide (1 ≤ (ByteArray.size p0 : Int))) then
   (decide ((ByteArray.size p0 : Int) ≤ 40))
  else
   false
 | .k1 => false)
def c_Kp (p0 : ByteArray) : En := .call 52 [.str p0] []
def a_Kp (p0 : ByteArray) : Rs := .ret (.bool (s_Kp p0)) []
def H_Kp (p0 : ByteArray) : Prop := (Q10 p0) ∧ True
theorem t_Kp (p0 : ByteArray) (H : H_Kp p0) : Q7 G (c_Kp p0) (a_Kp p0) := by
 unfold a_Kp s_Kp
 have hl0 := Q12 p0 (H.1) (letters p0) 0 (by simp)
 cases hr0 : (Q1b p0 (letters p0) 0) with
 | k0 =>
  rw [hr0] at hl0
  obtain ⟨z0, zo0, hl0⟩ := hl0
  try dsimp only
  cases h0 : (decide (1 ≤ (ByteArray.size p0 : Int))) with
  | true =>
   exact Q9 (fn := Ir.Kp) rfl VOK.nil [hB 4 h0] [aN hl0] (by kernel_rfl)
  | false =>
   exact Q9 (fn := Ir.Kp) rfl VOK.nil [hB 4 h0] [aN hl0] (by kernel_rfl)
 | k1 =>
  rw [hr0] at hl0
  obtain ⟨z0, zo0, hl0⟩ := hl0
  exact Q9 (fn := Ir.Kp) rfl VOK.nil [] [aN hl0] (by kernel_rfl)
def Q12n (p0 : ByteArray) (p1 : ByteArray) : Int :=
 (sCmp p0 p1)
def Q169 (p0 : ByteArray) (p1 : ByteArray) : En := .call 44 [.str p0, .str p1] []
def Q14i (p0 : ByteArray) (p1 : ByteArray) : Rs := .ret (.int .i64 (Q12n p0 p1)) []
theorem Q16y (p0 : ByteArray) (p1 : ByteArray) : Q7 G (Q169 p0 p1) (Q14i p0 p1) := by
 unfold Q14i Q12n
 exact Q9 (fn := Ir.K1g) rfl VOK.nil [] [aN (Q11n p0 p1)] (by kernel_rfl)
inductive Qyt where
  | k0
  | k1
inductive Qy0 where
  | k0
  | k1
abbrev zF : Fld := (Fld.mk (⟨#[]⟩ : ByteArray) (Val.mk 0 0 (⟨#[]⟩ : ByteArray) [] []))
mutual
def s_Kx (p0 : Val) (p1 : Int) : Bool :=
 bif (p1 == 0) then
  false
 else
  bif (s_Kw p0) then
   bif (decide (64 < ((List.length p0.list) : Int))) then
    false
   else
    bif (decide (64 < ((List.length p0.fields) : Int))) then
     false
    else
     bif (p0.kind == 4) then
      bif (p0.kind == 5) then
       (match (Q3l p0 p1 p0.list 0) with
       | .k0 => (match (Q2r p0 p1 p0.fields 0) with
        | .k0 => true
        | .k1 => false)
       | .k1 => false)
      else
       bif (decide (0 < ((List.length p0.fields) : Int))) then
        false
       else
        (match (Q3l p0 p1 p0.list 0) with
        | .k0 => (match (Q2r p0 p1 p0.fields 0) with
         | .k0 => true
         | .k1 => false)
        | .k1 => false)
     else
      bif (decide (0 < ((List.length p0.list) : Int))) then
       false
      else
       bif (p0.kind == 5) then
        (match (Q3l p0 p1 p0.list 0) with
        | .k0 => (match (Q2r p0 p1 p0.fields 0) with
         | .k0 => true
         | .k1 => false)
        | .k1 => false)
       else
        bif (decide (0 < ((List.length p0.fields) : Int))) then
         false
        else
         (match (Q3l p0 p1 p0.list 0) with
         | .k0 => (match (Q2r p0 p1 p0.fields 0) with
          | .k0 => true
          | .k1 => false)
         | .k1 => false)
  else
   false
termination_by SizeOf.sizeOf p0
decreasing_by all_goals first | exact Val.Q25 _ | exact Val.Q1g _ | exact Q2c _ _ | exact Q24 _ _ | exact Q1r _ _
def Q3l (p0 : Val) (p1 : Int) : List Val → Nat → Qyt
 | [], _i0 =>
  (.k0)
 | x0 :: r0, i0 =>
  bif (s_Kx x0 (w64 (p1 - 1))) then
   Q3l p0 p1 r0 (i0 + 1)
  else
   (.k1)
termination_by l => SizeOf.sizeOf l
decreasing_by all_goals first | exact Val.Q25 _ | exact Val.Q1g _ | exact Q2c _ _ | exact Q24 _ _ | exact Q1r _ _
def Q2r (p0 : Val) (p1 : Int) : List Fld → Nat → Qy0
 | [], _i1 =>
  (.k0)
 | x1 :: r1, i1 =>
  bif (s_Kp x1.name) then
   bif (decide (0 < (i1 : Int))) then
    bif ((sLt x1.name (List.getD p0.fields (Int.toNat (w64 ((i1 : Int) - 1))) zF).name) || (sEq x1.name (List.getD p0.fields (Int.toNat (w64 ((i1 : Int) - 1))) zF).name)) then
     (.k1)
    else
     bif (s_Kx x1.v (w64 (p1 - 1))) then
      Q2r p0 p1 r1 (i1 + 1)
     else
      (.k1)
   else
    bif (s_Kx x1.v (w64 (p1 - 1))) then
     Q2r p0 p1 r1 (i1 + 1)
    else
     (.k1)
  else
   (.k1)
termination_by l => SizeOf.sizeOf l
decreasing_by all_goals first | exact Val.Q25 _ | exact Val.Q1g _ | exact Q2c _ _ | exact Q24 _ _ | exact Q1r _ _
end
def Qr9 (_p0 : Val) (p1 : Int) (i0 : Nat) : List PV :=
  [.un, .int .i64 p1, .bx 0 0, .un, .un, .int .i64 (i0 : Int), .un, .un, .un, .un, .un, .un, .un, .un, .un, .un, .un, .un, .un, .un, .un, .un, .un, .un, .un, .un, .un, .un, .un, .un, .un, .un, .un, .un, .un, .un, .un, .un, .un, .un, .un, .un, .un, .un, .un, .un, .un, .un, .un, .un, .un, .un, .un, .un, .un, .un, .un, .un, .un, .un, .un, .un, .un, .un, .un, .un, .un, .un, .un, .un, .un, .un, .un, .un, .un, .un, .un, .un, .un, .un, .un, .un, .un, .un, .un, .un, .un, .un, .un, .un, .un, .un, .un, .un, .un, .un, .un, .un, .un, .un, .un, .un, .un, .un, .un, .un, .un, .un, .un]
def Qqq (p0 : Val) (_p1 : Int) (_i0 : Nat) : List Ob :=
  [⟨5, 0, true, [.int .i64 p0.kind, .int .i64 p0.n, .str p0.s, .sl (Val.rows p0.list), .sl (Fld.rows p0.fields)]⟩]
def Q2p (p0 : Val) (p1 : Int) (i0 : Nat) : En := .loop 0 Ir.Qg1 Ir.Q14u (Qr9 p0 p1 i0) (Qqq p0 p1 i0)
def Q32 (p0 : Val) (p1 : Int) (z : Nat → PV) (_zo : Nat → List PV) : St :=
  ⟨[z 0, .int .i64 p1, .bx 0 0, z 3, z 4, z 5, z 6, z 7, z 8, z 9, z 10, z 11, z 12, z 13, z 14, z 15, z 16, z 17, z 18, z 19, z 20, z 21, z 22, z 23, z 24, z 25, z 26, z 27, z 28, z 29, z 30, z 31, z 32, z 33, z 34, z 35, z 36, z 37, z 38, z 39, z 40, z 41, z 42, z 43, z 44, z 45, z 46, z 47, z 48, z 49, z 50, z 51, z 52, z 53, z 54, z 55, z 56, z 57, z 58, z 59, z 60, z 61, z 62, z 63, z 64, z 65, z 66, z 67, z 68, z 69, z 70, z 71, z 72, z 73, z 74, z 75, z 76, z 77, z 78, z 79, z 80, z 81, z 82, z 83, z 84, z 85, z 86, z 87, z 88, z 89, z 90, z 91, z 92, z 93, z 94, z 95, z 96, z 97, z 98, z 99, z 100, z 101, z 102, z 103, z 104, z 105, z 106, z 107, z 108], [(0, ⟨5, 0, true, [.int .i64 p0.kind, .int .i64 p0.n, .str p0.s, .sl (Val.rows p0.list), .sl (Fld.rows p0.fields)]⟩)], 321⟩
def Q4x (_p0 : Val) (_p1 : Int) (z : Nat → PV) (zo : Nat → List PV) : St :=
  ⟨[z 0, z 1, z 2, z 3, .bool false, z 5, z 6, z 7, z 8, z 9, z 10, z 11, z 12, z 13, z 14, z 15, z 16, z 17, z 18, z 19, z 20, z 21, z 22, z 23, z 24, z 25, z 26, z 27, z 28, z 29, z 30, z 31, z 32, z 33, z 34, z 35, z 36, z 37, z 38, z 39, z 40, z 41, z 42, z 43, z 44, z 45, z 46, z 47, z 48, z 49, z 50, z 51, z 52, z 53, z 54, z 55, z 56, z 57, z 58, z 59, z 60, z 61, z 62, z 63, z 64, z 65, z 66, z 67, z 68, z 69, z 70, z 71, z 72, z 73, z 74, z 75, z 76, z 77, z 78, z 79, z 80, z 81, z 82, z 83, z 84, z 85, z 86, z 87, z 88, z 89, z 90, z 91, z 92, z 93, z 94, z 95, z 96, z 97, z 98, z 99, z 100, z 101, z 102, z 103, z 104, z 105, z 106, z 107, z 108], [(0, ⟨5, 0, true, zo 0⟩)], 961⟩
def Qdo (p0 : Val) (p1 : Int) (e : En) : Qyt → Prop
  | .k0 => ∃ z zo, Q7 G e (.st (.exit 0) (Q32 p0 p1 z zo))
  | .k1 => ∃ z zo, Q7 G e (.st .ret (Q4x p0 p1 z zo))
theorem Qlw (p0 : Val) (p1 : Int) {e e' : En} (h : ∀ r, Q7 G e r → Q7 G e' r) : ∀ q, Qdo p0 p1 e q → Qdo p0 p1 e' q
  | .k0, ⟨z, zo, hz⟩ => ⟨z, zo, h _ hz⟩
  | .k1, ⟨z, zo, hz⟩ => ⟨z, zo, h _ hz⟩
def Qjj (_p0 : Val) (p1 : Int) (i1 : Nat) : List PV :=
  [.un, .int .i64 p1, .bx 0 0, .un, .un, .un, .int .i64 (i1 : Int), .un, .un, .un, .un, .un, .un, .un, .un, .un, .un, .un, .un, .un, .un, .un, .un, .un, .un, .un, .un, .un, .un, .un, .un, .un, .un, .un, .un, .un, .un, .un, .un, .un, .un, .un, .un, .un, .un, .un, .un, .un, .un, .un, .un, .un, .un, .un, .un, .un, .un, .un, .un, .un, .un, .un, .un, .un, .un, .un, .un, .un, .un, .un, .un, .un, .un, .un, .un, .un, .un, .un, .un, .un, .un, .un, .un, .un, .un, .un, .un, .un, .un, .un, .un, .un, .un, .un, .un, .un, .un, .un, .un, .un, .un, .un, .un, .un, .un, .un, .un, .un, .un]
def Qjd (p0 : Val) (_p1 : Int) (_i1 : Nat) : List Ob :=
  [⟨5, 0, true, [.int .i64 p0.kind, .int .i64 p0.n, .str p0.s, .sl (Val.rows p0.list), .sl (Fld.rows p0.fields)]⟩]
def Q2k (p0 : Val) (p1 : Int) (i1 : Nat) : En := .loop 0 Ir.Qg8 Ir.Q146 (Qjj p0 p1 i1) (Qjd p0 p1 i1)
def Q4z (p0 : Val) (_p1 : Int) (z : Nat → PV) (_zo : Nat → List PV) : St :=
  ⟨[z 0, z 1, z 2, z 3, z 4, z 5, z 6, z 7, z 8, z 9, z 10, z 11, z 12, z 13, z 14, z 15, z 16, z 17, z 18, z 19, z 20, z 21, z 22, z 23, z 24, z 25, z 26, z 27, z 28, z 29, z 30, z 31, z 32, z 33, z 34, z 35, z 36, z 37, z 38, z 39, z 40, z 41, z 42, z 43, z 44, z 45, z 46, z 47, z 48, z 49, z 50, z 51, z 52, z 53, z 54, z 55, z 56, z 57, z 58, z 59, z 60, z 61, z 62, z 63, z 64, z 65, z 66, z 67, z 68, z 69, z 70, z 71, z 72, z 73, z 74, z 75, z 76, z 77, z 78, z 79, z 80, z 81, z 82, z 83, z 84, z 85, z 86, z 87, z 88, z 89, z 90, z 91, z 92, z 93, z 94, z 95, z 96, z 97, z 98, z 99, z 100, z 101, z 102, z 103, z 104, z 105, z 106, z 107, z 108], [(0, ⟨5, 0, true, [.int .i64 p0.kind, .int .i64 p0.n, .str p0.s, .sl (Val.rows p0.list), .sl (Fld.rows p0.fields)]⟩)], 321⟩
def Q3b (_p0 : Val) (_p1 : Int) (z : Nat → PV) (zo : Nat → List PV) : St :=
  ⟨[z 0, z 1, z 2, z 3, .bool false, z 5, z 6, z 7, z 8, z 9, z 10, z 11, z 12, z 13, z 14, z 15, z 16, z 17, z 18, z 19, z 20, z 21, z 22, z 23, z 24, z 25, z 26, z 27, z 28, z 29, z 30, z 31, z 32, z 33, z 34, z 35, z 36, z 37, z 38, z 39, z 40, z 41, z 42, z 43, z 44, z 45, z 46, z 47, z 48, z 49, z 50, z 51, z 52, z 53, z 54, z 55, z 56, z 57, z 58, z 59, z 60, z 61, z 62, z 63, z 64, z 65, z 66, z 67, z 68, z 69, z 70, z 71, z 72, z 73, z 74, z 75, z 76, z 77, z 78, z 79, z 80, z 81, z 82, z 83, z 84, z 85, z 86, z 87, z 88, z 89, z 90, z 91, z 92, z 93, z 94, z 95, z 96, z 97, z 98, z 99, z 100, z 101, z 102, z 103, z 104, z 105, z 106, z 107, z 108], [(0, ⟨5, 0, true, zo 0⟩)], 2945⟩
def Q66 (p0 : Val) (p1 : Int) (e : En) : Qy0 → Prop
  | .k0 => ∃ z zo, Q7 G e (.st (.exit 2) (Q4z p0 p1 z zo))
  | .k1 => ∃ z zo, Q7 G e (.st .ret (Q3b p0 p1 z zo))
theorem Qa0 (p0 : Val) (p1 : Int) {e e' : En} (h : ∀ r, Q7 G e r → Q7 G e' r) : ∀ q, Q66 p0 p1 e q → Q66 p0 p1 e' q
  | .k0, ⟨z, zo, hz⟩ => ⟨z, zo, h _ hz⟩
  | .k1, ⟨z, zo, hz⟩ => ⟨z, zo, h _ hz⟩
def c_Kx (p0 : Val) (p1 : Int) : En := .call 38 [.agg (Val.cells p0), .int .i64 p1] []
def a_Kx (p0 : Val) (p1 : Int) : Rs := .ret (.bool (s_Kx p0 p1)) []
abbrev H_Kx (p0 : Val) : Prop := Q2w p0
def Q1y (p0 : Val) : Prop := ∀ (q : Val), SizeOf.sizeOf q < SizeOf.sizeOf p0 → ∀ (p1 : Int), H_Kx q → Q7 G (c_Kx q p1) (a_Kx q p1)
def Qdm (p0 : Val) (_p1 : Int) : Prop := (List.length p0.list ≤ 4611686018427387904) ∧ (∀ x0 ∈ p0.list, H_Kx x0) ∧ True
def Q59 (p0 : Val) (_p1 : Int) : Prop := (List.length p0.fields ≤ 4611686018427387904) ∧ (∀ x1 ∈ p0.fields, H_Kp x1.name) ∧ (∀ (i1 : Nat) (x1 : Fld), p0.fields[i1]? = some x1 → (decide (0 < (i1 : Int))) = true → 0 ≤ (w64 ((i1 : Int) - 1))) ∧ (∀ (i1 : Nat) (x1 : Fld), p0.fields[i1]? = some x1 → (decide (0 < (i1 : Int))) = true → Int.toNat (w64 ((i1 : Int) - 1)) < List.length p0.fields) ∧ (∀ x1 ∈ p0.fields, H_Kx x1.v) ∧ True
theorem Q1u (p0 : Val) (p1 : Int) (H : H_Kx p0) : (H_Kw p0) ∧ (Qdm p0 p1) ∧ (Q59 p0 p1) ∧ True := by
  obtain ⟨_, _, h3, hl, hf, sl, sf⟩ := H.all
  unfold okS at h3
  have nm : ∀ x ∈ p0.fields, H_Kp x.name := fun x hx => by
    have := (sf x hx).1
    unfold okS at this
    exact ⟨⟨by rw [Q42]; omega, trivial⟩, trivial⟩
  have ix : ∀ (i1 : Nat) (x1 : Fld), p0.fields[i1]? = some x1 → decide (0 < (i1 : Int)) = true → 0 ≤ w64 ((i1 : Int) - 1) ∧ Int.toNat (w64 ((i1 : Int) - 1)) < p0.fields.length := fun i x hx h => by
    have h0 := of_decide_eq_true h
    have h1 := (List.getElem?_eq_some_iff.1 hx).1
    rw [Qa1 (by omega)]
    omega
  exact ⟨⟨⟨⟨by rw [Q42]; omega, trivial⟩, trivial⟩, trivial⟩, ⟨by omega, sl, trivial⟩, ⟨by omega, nm, fun i x a b => (ix i x a b).1, fun i x a b => (ix i x a b).2, fun x hx => (sf x hx).2, trivial⟩, trivial⟩
def Qnl (p0 : Val) (_p1 : Int) (i0 : Nat) : List PV :=
  [.un, .un, .un, .un, .un, .int .i64 (i0 : Int), .un, .un, .un, .un, .un, .un, .un, .un, .un, .un, .un, .un, .un, .un, .un, .un, .un, .un, .un, .un, .un, .un, .un, .un, .un, .un, .un, .un, .un, .un, .un, .un, .un, .un, .un, .un, .un, .un, .un, .un, .int .i64 (i0 : Int), .bx 0 3, .sl (Val.rows p0.list), .int .i64 ((List.length p0.list) : Int), .bool false]
def Qhu (_p0 : Val) (_p1 : Int) (_i0 : Nat) : List (Nat × List PV) :=
  []
theorem Qx9 (p0 : Val) (p1 : Int) (_H : Qdm p0 p1) (_rec : Q1y p0) (i0 : Nat) (hc0 : (decide ((i0 : Int) < ((List.length p0.list) : Int))) = false) : Qdo p0 p1 (Q2p p0 p1 i0) (.k0) := by
 exact ⟨(envF (Qnl p0 p1 i0)), (zoF (Qhu p0 p1 i0)), Qe VOK.nil (x := ((.exit 0), Q32 p0 p1 (envF (Qnl p0 p1 i0)) (zoF (Qhu p0 p1 i0)))) [hP 3 (Qj (Val.rows p0.list) (List.length p0.list) (Val.Qd p0.list)), hB 0 hc0] [] (by kernel_rfl)⟩
theorem Q104 (p0 : Val) (p1 : Int) (H : Qdm p0 p1) (rec : Q1y p0) (x0 : Val) (i0 : Nat) (hx0 : p0.list[i0]? = some x0) (hi0 : i0 < List.length p0.list) (hc0 : (decide ((i0 : Int) < ((List.length p0.list) : Int))) = true) (h0 : (s_Kx x0 (w64 (p1 - 1))) = true) {r : Rs} (hr : Q7 G (Q2p p0 p1 (i0 + 1)) r) : Q7 G (Q2p p0 p1 i0) r := by
 have hB0 := H.1
 exact Qa VOK.nil (y := (Qr9 p0 p1 (i0 + 1), Qqq p0 p1 (i0 + 1))) [hP 3 (Qj (Val.rows p0.list) (List.length p0.list) (Val.Qd p0.list)), hB 0 hc0, hP 3 (Q1h 5 (Val.rows p0.list) i0 _ (Val.Qf hx0) rfl), hP 6 (Qs i0 (by omega))] [aB (rec x0 (szL hx0) (w64 (p1 - 1)) (H.2.1 x0 (Q1f hx0))) h0] (by kernel_rfl) hr
def Qmr (p0 : Val) (p1 : Int) (i0 : Nat) (x0 : Val) : List PV :=
  [.un, .int .i64 p1, .bx 0 0, .un, .un, .int .i64 (i0 : Int), .un, .un, .un, .un, .un, .un, .un, .un, .un, .un, .un, .un, .un, .un, .un, .un, .un, .un, .un, .un, .un, .un, .un, .un, .un, .un, .un, .un, .un, .un, .un, .un, .un, .un, .un, .un, .un, .un, .un, .un, .int .i64 (i0 : Int), .bx 0 3, .sl (Val.rows p0.list), .int .i64 ((List.length p0.list) : Int), .bool true, .un, .un, .bx 0 3, .sl (Val.rows p0.list), .int .i64 (i0 : Int), .rf [.int .i64 x0.kind, .int .i64 x0.n, .str x0.s, .sl (Val.rows x0.list), .sl (Fld.rows x0.fields)], .agg [.int .i64 x0.kind, .int .i64 x0.n, .str x0.s, .sl (Val.rows x0.list), .sl (Fld.rows x0.fields)], .int .i64 p1, .int .i64 (w64 (p1 - 1)), .bool false, .bool true]
def Qg3 (p0 : Val) (_p1 : Int) (_i0 : Nat) (_x0 : Val) : List (Nat × List PV) :=
  [(0, [.int .i64 p0.kind, .int .i64 p0.n, .str p0.s, .sl (Val.rows p0.list), .sl (Fld.rows p0.fields)])]
theorem Qwl (p0 : Val) (p1 : Int) (H : Qdm p0 p1) (rec : Q1y p0) (x0 : Val) (i0 : Nat) (hx0 : p0.list[i0]? = some x0) (_hi0 : i0 < List.length p0.list) (hc0 : (decide ((i0 : Int) < ((List.length p0.list) : Int))) = true) (h0 : (s_Kx x0 (w64 (p1 - 1))) = false) : Qdo p0 p1 (Q2p p0 p1 i0) (.k1) := by
 exact ⟨(envF (Qmr p0 p1 i0 x0)), (zoF (Qg3 p0 p1 i0 x0)), Qe VOK.nil (x := (.ret, Q4x p0 p1 (envF (Qmr p0 p1 i0 x0)) (zoF (Qg3 p0 p1 i0 x0)))) [hP 3 (Qj (Val.rows p0.list) (List.length p0.list) (Val.Qd p0.list)), hB 0 hc0, hP 3 (Q1h 5 (Val.rows p0.list) i0 _ (Val.Qf hx0) rfl)] [aB (rec x0 (szL hx0) (w64 (p1 - 1)) (H.2.1 x0 (Q1f hx0))) h0] (by kernel_rfl)⟩
theorem Q87 (p0 : Val) (p1 : Int) (H : Qdm p0 p1) (rec : Q1y p0) : ∀ (r0 : List Val) (i0 : Nat), List.drop i0 p0.list = r0 → Qdo p0 p1 (Q2p p0 p1 i0) (Q3l p0 p1 r0 i0)
 | [], i0, hd => by
  have hc0 : (decide ((i0 : Int) < ((List.length p0.list) : Int))) = false := by have := Q1m hd; simp; omega
  rw [Q3l]
  exact Qx9 p0 p1 H rec i0 hc0
 | x0 :: r0, i0, hd => by
  obtain ⟨hx0, hi0, hd'⟩ := Q18 hd
  have hc0 : (decide ((i0 : Int) < ((List.length p0.list) : Int))) = true := by simp; omega
  rw [Q3l]
  cases h0 : (s_Kx x0 (w64 (p1 - 1))) with
  | true =>
   exact Qlw p0 p1 (fun r hr => Q104 p0 p1 H rec x0 i0 hx0 hi0 hc0 h0 hr) _ (Q87 p0 p1 H rec r0 (i0 + 1) hd')
  | false =>
   exact Qwl p0 p1 H rec x0 i0 hx0 hi0 hc0 h0
def Qmz (p0 : Val) (p1 : Int) (i1 : Nat) : List PV :=
  [.un, .int .i64 p1, .bx 0 0, .un, .un, .un, .int .i64 (i1 : Int), .un, .un, .un, .un, .un, .un, .un, .un, .un, .un, .un, .un, .un, .un, .un, .un, .un, .un, .un, .un, .un, .un, .un, .un, .un, .un, .un, .un, .un, .un, .un, .un, .un, .un, .un, .un, .un, .un, .un, .un, .un, .un, .un, .un, .un, .un, .un, .un, .un, .un, .un, .un, .un, .un, .un, .int .i64 (i1 : Int), .bx 0 4, .sl (Fld.rows p0.fields), .int .i64 ((List.length p0.fields) : Int), .bool false]
def Qg9 (_p0 : Val) (_p1 : Int) (_i1 : Nat) : List (Nat × List PV) :=
  []
theorem Qzl (p0 : Val) (p1 : Int) (_H : Q59 p0 p1) (_rec : Q1y p0) (i1 : Nat) (hc1 : (decide ((i1 : Int) < ((List.length p0.fields) : Int))) = false) : Q66 p0 p1 (Q2k p0 p1 i1) (.k0) := by
 exact ⟨(envF (Qmz p0 p1 i1)), (zoF (Qg9 p0 p1 i1)), Qe VOK.nil (x := ((.exit 2), Q4z p0 p1 (envF (Qmz p0 p1 i1)) (zoF (Qg9 p0 p1 i1)))) [hP 3 (Qj (Fld.rows p0.fields) (List.length p0.fields) (Fld.Qd p0.fields)), hB 0 hc1] [] (by kernel_rfl)⟩
def Qms (p0 : Val) (p1 : Int) (i1 : Nat) (x1 : Fld) : List PV :=
  [.un, .int .i64 p1, .bx 0 0, .un, .un, .un, .int .i64 (i1 : Int), .un, .un, .un, .un, .un, .un, .un, .un, .un, .un, .un, .un, .un, .un, .un, .un, .un, .un, .un, .un, .un, .un, .un, .un, .un, .un, .un, .un, .un, .un, .un, .un, .un, .un, .un, .un, .un, .un, .un, .un, .un, .un, .un, .un, .un, .un, .un, .un, .un, .un, .un, .un, .un, .un, .un, .int .i64 (i1 : Int), .bx 0 4, .sl (Fld.rows p0.fields), .int .i64 ((List.length p0.fields) : Int), .bool true, .un, .un, .bx 0 4, .sl (Fld.rows p0.fields), .int .i64 (i1 : Int), .rf [.str x1.name, .int .i64 x1.v.kind, .int .i64 x1.v.n, .str x1.v.s, .sl (Val.rows x1.v.list), .sl (Fld.rows x1.v.fields)], .rf [.str x1.name, .int .i64 x1.v.kind, .int .i64 x1.v.n, .str x1.v.s, .sl (Val.rows x1.v.list), .sl (Fld.rows x1.v.fields)], .str x1.name, .bool true, .bool false, .bool false, .int .i64 (i1 : Int), .bool true, .bool true, .bx 0 4, .sl (Fld.rows p0.fields), .int .i64 (i1 : Int), .rf [.str x1.name, .int .i64 x1.v.kind, .int .i64 x1.v.n, .str x1.v.s, .sl (Val.rows x1.v.list), .sl (Fld.rows x1.v.fields)], .rf [.str x1.name, .int .i64 x1.v.kind, .int .i64 x1.v.n, .str x1.v.s, .sl (Val.rows x1.v.list), .sl (Fld.rows x1.v.fields)], .str x1.name, .bx 0 4, .sl (Fld.rows p0.fields), .int .i64 (i1 : Int), .int .i64 (w64 ((i1 : Int) - 1)), .rf [.str (List.getD p0.fields (Int.toNat (w64 ((i1 : Int) - 1))) zF).name, .int .i64 (List.getD p0.fields (Int.toNat (w64 ((i1 : Int) - 1))) zF).v.kind, .int .i64 (List.getD p0.fields (Int.toNat (w64 ((i1 : Int) - 1))) zF).v.n, .str (List.getD p0.fields (Int.toNat (w64 ((i1 : Int) - 1))) zF).v.s, .sl (Val.rows (List.getD p0.fields (Int.toNat (w64 ((i1 : Int) - 1))) zF).v.list), .sl (Fld.rows (List.getD p0.fields (Int.toNat (w64 ((i1 : Int) - 1))) zF).v.fields)], .rf [.str (List.getD p0.fields (Int.toNat (w64 ((i1 : Int) - 1))) zF).name, .int .i64 (List.getD p0.fields (Int.toNat (w64 ((i1 : Int) - 1))) zF).v.kind, .int .i64 (List.getD p0.fields (Int.toNat (w64 ((i1 : Int) - 1))) zF).v.n, .str (List.getD p0.fields (Int.toNat (w64 ((i1 : Int) - 1))) zF).v.s, .sl (Val.rows (List.getD p0.fields (Int.toNat (w64 ((i1 : Int) - 1))) zF).v.list), .sl (Fld.rows (List.getD p0.fields (Int.toNat (w64 ((i1 : Int) - 1))) zF).v.fields)], .str (List.getD p0.fields (Int.toNat (w64 ((i1 : Int) - 1))) zF).name, .bool true, .bool true, .bool true, .bool true, .tup [], .tup [], .tup [], .tup [], .tup [], .tup [], .tup [], .tup [], .tup [], .tup [], .bool true]
def Qha (p0 : Val) (_p1 : Int) (_i1 : Nat) (_x1 : Fld) : List (Nat × List PV) :=
  [(0, [.int .i64 p0.kind, .int .i64 p0.n, .str p0.s, .sl (Val.rows p0.list), .sl (Fld.rows p0.fields)])]
theorem Qzf (p0 : Val) (p1 : Int) (H : Q59 p0 p1) (_rec : Q1y p0) (x1 : Fld) (i1 : Nat) (hx1 : p0.fields[i1]? = some x1) (_hi1 : i1 < List.length p0.fields) (hc1 : (decide ((i1 : Int) < ((List.length p0.fields) : Int))) = true) (h0 : (s_Kp x1.name) = true) (h1 : (decide (0 < (i1 : Int))) = true) (h2 : ((sLt x1.name (List.getD p0.fields (Int.toNat (w64 ((i1 : Int) - 1))) zF).name) || (sEq x1.name (List.getD p0.fields (Int.toNat (w64 ((i1 : Int) - 1))) zF).name)) = true) : Q66 p0 p1 (Q2k p0 p1 i1) (.k1) := by
 exact ⟨(envF (Qms p0 p1 i1 x1)), (zoF (Qha p0 p1 i1 x1)), Qe VOK.nil (x := (.ret, Q3b p0 p1 (envF (Qms p0 p1 i1 x1)) (zoF (Qha p0 p1 i1 x1)))) [hP 3 (Qj (Fld.rows p0.fields) (List.length p0.fields) (Fld.Qd p0.fields)), hB 0 hc1, hP 3 (Q1h 6 (Fld.rows p0.fields) i1 _ (Fld.Qf hx1) rfl), hB 6 h1, hP 4 (Q1h 6 (Fld.rows p0.fields) i1 _ (Fld.Qf hx1) rfl), hP 6 (Qsh 6 (Fld.rows p0.fields) (w64 ((i1 : Int) - 1)) _ ((H.2.2.1 i1 x1 hx1) h1) (Fld.Qf (Qu p0.fields (Int.toNat (w64 ((i1 : Int) - 1))) zF ((H.2.2.2.1 i1 x1 hx1) h1))) rfl), hB 2 h2] [aB (t_Kp x1.name (H.2.1 x1 (Q1f hx1))) h0] (by kernel_rfl)⟩
theorem Qzj (p0 : Val) (p1 : Int) (H : Q59 p0 p1) (rec : Q1y p0) (x1 : Fld) (i1 : Nat) (hx1 : p0.fields[i1]? = some x1) (hi1 : i1 < List.length p0.fields) (hc1 : (decide ((i1 : Int) < ((List.length p0.fields) : Int))) = true) (h0 : (s_Kp x1.name) = true) (h1 : (decide (0 < (i1 : Int))) = true) (h2 : ((sLt x1.name (List.getD p0.fields (Int.toNat (w64 ((i1 : Int) - 1))) zF).name) || (sEq x1.name (List.getD p0.fields (Int.toNat (w64 ((i1 : Int) - 1))) zF).name)) = false) (h3 : (s_Kx x1.v (w64 (p1 - 1))) = true) {r : Rs} (hr : Q7 G (Q2k p0 p1 (i1 + 1)) r) : Q7 G (Q2k p0 p1 i1) r := by
 have hB0 := H.1; have e1 := of_decide_eq_true h1
 exact Qa VOK.nil (y := (Qjj p0 p1 (i1 + 1), Qjd p0 p1 (i1 + 1))) [hP 3 (Qj (Fld.rows p0.fields) (List.length p0.fields) (Fld.Qd p0.fields)), hB 0 hc1, hP 3 (Q1h 6 (Fld.rows p0.fields) i1 _ (Fld.Qf hx1) rfl), hB 6 h1, hP 4 (Q1h 6 (Fld.rows p0.fields) i1 _ (Fld.Qf hx1) rfl), hP 6 (Qsh 6 (Fld.rows p0.fields) (w64 ((i1 : Int) - 1)) _ ((H.2.2.1 i1 x1 hx1) h1) (Fld.Qf (Qu p0.fields (Int.toNat (w64 ((i1 : Int) - 1))) zF ((H.2.2.2.1 i1 x1 hx1) h1))) rfl), hB 2 h2, hP 6 (Q1h 6 (Fld.rows p0.fields) i1 _ (Fld.Qf hx1) rfl), hP 8 (Qs i1 (by omega))] [aB (t_Kp x1.name (H.2.1 x1 (Q1f hx1))) h0, aB (rec x1.v (szF hx1) (w64 (p1 - 1)) (H.2.2.2.2.1 x1 (Q1f hx1))) h3] (by kernel_rfl) hr
def Qls (p0 : Val) (p1 : Int) (i1 : Nat) (x1 : Fld) : List PV :=
  [.un, .int .i64 p1, .bx 0 0, .un, .un, .un, .int .i64 (i1 : Int), .un, .un, .un, .un, .un, .un, .un, .un, .un, .un, .un, .un, .un, .un, .un, .un, .un, .un, .un, .un, .un, .un, .un, .un, .un, .un, .un, .un, .un, .un, .un, .un, .un, .un, .un, .un, .un, .un, .un, .un, .un, .un, .un, .un, .un, .un, .un, .un, .un, .un, .un, .un, .un, .un, .un, .int .i64 (i1 : Int), .bx 0 4, .sl (Fld.rows p0.fields), .int .i64 ((List.length p0.fields) : Int), .bool true, .un, .un, .bx 0 4, .sl (Fld.rows p0.fields), .int .i64 (i1 : Int), .rf [.str x1.name, .int .i64 x1.v.kind, .int .i64 x1.v.n, .str x1.v.s, .sl (Val.rows x1.v.list), .sl (Fld.rows x1.v.fields)], .rf [.str x1.name, .int .i64 x1.v.kind, .int .i64 x1.v.n, .str x1.v.s, .sl (Val.rows x1.v.list), .sl (Fld.rows x1.v.fields)], .str x1.name, .bool true, .bool false, .bool false, .int .i64 (i1 : Int), .bool true, .bool true, .bx 0 4, .sl (Fld.rows p0.fields), .int .i64 (i1 : Int), .rf [.str x1.name, .int .i64 x1.v.kind, .int .i64 x1.v.n, .str x1.v.s, .sl (Val.rows x1.v.list), .sl (Fld.rows x1.v.fields)], .rf [.str x1.name, .int .i64 x1.v.kind, .int .i64 x1.v.n, .str x1.v.s, .sl (Val.rows x1.v.list), .sl (Fld.rows x1.v.fields)], .str x1.name, .bx 0 4, .sl (Fld.rows p0.fields), .int .i64 (i1 : Int), .int .i64 (w64 ((i1 : Int) - 1)), .rf [.str (List.getD p0.fields (Int.toNat (w64 ((i1 : Int) - 1))) zF).name, .int .i64 (List.getD p0.fields (Int.toNat (w64 ((i1 : Int) - 1))) zF).v.kind, .int .i64 (List.getD p0.fields (Int.toNat (w64 ((i1 : Int) - 1))) zF).v.n, .str (List.getD p0.fields (Int.toNat (w64 ((i1 : Int) - 1))) zF).v.s, .sl (Val.rows (List.getD p0.fields (Int.toNat (w64 ((i1 : Int) - 1))) zF).v.list), .sl (Fld.rows (List.getD p0.fields (Int.toNat (w64 ((i1 : Int) - 1))) zF).v.fields)], .rf [.str (List.getD p0.fields (Int.toNat (w64 ((i1 : Int) - 1))) zF).name, .int .i64 (List.getD p0.fields (Int.toNat (w64 ((i1 : Int) - 1))) zF).v.kind, .int .i64 (List.getD p0.fields (Int.toNat (w64 ((i1 : Int) - 1))) zF).v.n, .str (List.getD p0.fields (Int.toNat (w64 ((i1 : Int) - 1))) zF).v.s, .sl (Val.rows (List.getD p0.fields (Int.toNat (w64 ((i1 : Int) - 1))) zF).v.list), .sl (Fld.rows (List.getD p0.fields (Int.toNat (w64 ((i1 : Int) - 1))) zF).v.fields)], .str (List.getD p0.fields (Int.toNat (w64 ((i1 : Int) - 1))) zF).name, .bool false, .bool false, .bool false, .bool false, .bx 0 4, .sl (Fld.rows p0.fields), .int .i64 (i1 : Int), .rf [.str x1.name, .int .i64 x1.v.kind, .int .i64 x1.v.n, .str x1.v.s, .sl (Val.rows x1.v.list), .sl (Fld.rows x1.v.fields)], .rf [.int .i64 x1.v.kind, .int .i64 x1.v.n, .str x1.v.s, .sl (Val.rows x1.v.list), .sl (Fld.rows x1.v.fields)], .agg [.int .i64 x1.v.kind, .int .i64 x1.v.n, .str x1.v.s, .sl (Val.rows x1.v.list), .sl (Fld.rows x1.v.fields)], .int .i64 p1, .int .i64 (w64 (p1 - 1)), .bool false, .bool true, .bool true]
def Qgv (p0 : Val) (_p1 : Int) (_i1 : Nat) (_x1 : Fld) : List (Nat × List PV) :=
  [(0, [.int .i64 p0.kind, .int .i64 p0.n, .str p0.s, .sl (Val.rows p0.list), .sl (Fld.rows p0.fields)])]
theorem Qwz (p0 : Val) (p1 : Int) (H : Q59 p0 p1) (rec : Q1y p0) (x1 : Fld) (i1 : Nat) (hx1 : p0.fields[i1]? = some x1) (_hi1 : i1 < List.length p0.fields) (hc1 : (decide ((i1 : Int) < ((List.length p0.fields) : Int))) = true) (h0 : (s_Kp x1.name) = true) (h1 : (decide (0 < (i1 : Int))) = true) (h2 : ((sLt x1.name (List.getD p0.fields (Int.toNat (w64 ((i1 : Int) - 1))) zF).name) || (sEq x1.name (List.getD p0.fields (Int.toNat (w64 ((i1 : Int) - 1))) zF).name)) = false) (h3 : (s_Kx x1.v (w64 (p1 - 1))) = false) : Q66 p0 p1 (Q2k p0 p1 i1) (.k1) := by
 exact ⟨(envF (Qls p0 p1 i1 x1)), (zoF (Qgv p0 p1 i1 x1)), Qe VOK.nil (x := (.ret, Q3b p0 p1 (envF (Qls p0 p1 i1 x1)) (zoF (Qgv p0 p1 i1 x1)))) [hP 3 (Qj (Fld.rows p0.fields) (List.length p0.fields) (Fld.Qd p0.fields)), hB 0 hc1, hP 3 (Q1h 6 (Fld.rows p0.fields) i1 _ (Fld.Qf hx1) rfl), hB 6 h1, hP 4 (Q1h 6 (Fld.rows p0.fields) i1 _ (Fld.Qf hx1) rfl), hP 6 (Qsh 6 (Fld.rows p0.fields) (w64 ((i1 : Int) - 1)) _ ((H.2.2.1 i1 x1 hx1) h1) (Fld.Qf (Qu p0.fields (Int.toNat (w64 ((i1 : Int) - 1))) zF ((H.2.2.2.1 i1 x1 hx1) h1))) rfl), hB 2 h2, hP 6 (Q1h 6 (Fld.rows p0.fields) i1 _ (Fld.Qf hx1) rfl)] [aB (t_Kp x1.name (H.2.1 x1 (Q1f hx1))) h0, aB (rec x1.v (szF hx1) (w64 (p1 - 1)) (H.2.2.2.2.1 x1 (Q1f hx1))) h3] (by kernel_rfl)⟩
theorem Qzu (p0 : Val) (p1 : Int) (H : Q59 p0 p1) (rec : Q1y p0) (x1 : Fld) (i1 : Nat) (hx1 : p0.fields[i1]? = some x1) (_hi1 : i1 < List.length p0.fields) (hc1 : (decide ((i1 : Int) < ((List.length p0.fields) : Int))) = true) (h0 : (s_Kp x1.name) = true) (h1 : (decide (0 < (i1 : Int))) = false) (h2 : (s_Kx x1.v (w64 (p1 - 1))) = true) {r : Rs} (hr : Q7 G (Q2k p0 p1 (i1 + 1)) r) : Q7 G (Q2k p0 p1 i1) r := by
 have hB0 := H.1; have e1 := of_decide_eq_false h1
 exact Qa VOK.nil (y := (Qjj p0 p1 (i1 + 1), Qjd p0 p1 (i1 + 1))) [hP 3 (Qj (Fld.rows p0.fields) (List.length p0.fields) (Fld.Qd p0.fields)), hB 0 hc1, hP 3 (Q1h 6 (Fld.rows p0.fields) i1 _ (Fld.Qf hx1) rfl), hB 6 h1, hP 21 (Q1h 6 (Fld.rows p0.fields) i1 _ (Fld.Qf hx1) rfl), hP 8 (Qs i1 (by omega))] [aB (t_Kp x1.name (H.2.1 x1 (Q1f hx1))) h0, aB (rec x1.v (szF hx1) (w64 (p1 - 1)) (H.2.2.2.2.1 x1 (Q1f hx1))) h2] (by kernel_rfl) hr
def Qni (p0 : Val) (p1 : Int) (i1 : Nat) (x1 : Fld) : List PV :=
  [.un, .int .i64 p1, .bx 0 0, .un, .un, .un, .int .i64 (i1 : Int), .un, .un, .un, .un, .un, .un, .un, .un, .un, .un, .un, .un, .un, .un, .un, .un, .un, .un, .un, .un, .un, .un, .un, .un, .un, .un, .un, .un, .un, .un, .un, .un, .un, .un, .un, .un, .un, .un, .un, .un, .un, .un, .un, .un, .un, .un, .un, .un, .un, .un, .un, .un, .un, .un, .un, .int .i64 (i1 : Int), .bx 0 4, .sl (Fld.rows p0.fields), .int .i64 ((List.length p0.fields) : Int), .bool true, .un, .un, .bx 0 4, .sl (Fld.rows p0.fields), .int .i64 (i1 : Int), .rf [.str x1.name, .int .i64 x1.v.kind, .int .i64 x1.v.n, .str x1.v.s, .sl (Val.rows x1.v.list), .sl (Fld.rows x1.v.fields)], .rf [.str x1.name, .int .i64 x1.v.kind, .int .i64 x1.v.n, .str x1.v.s, .sl (Val.rows x1.v.list), .sl (Fld.rows x1.v.fields)], .str x1.name, .bool true, .bool false, .bool false, .int .i64 (i1 : Int), .bool false, .bool false, .tup [], .tup [], .tup [], .tup [], .tup [], .tup [], .tup [], .tup [], .tup [], .tup [], .tup [], .tup [], .tup [], .tup [], .bool false, .bool false, .bool false, .bx 0 4, .sl (Fld.rows p0.fields), .int .i64 (i1 : Int), .rf [.str x1.name, .int .i64 x1.v.kind, .int .i64 x1.v.n, .str x1.v.s, .sl (Val.rows x1.v.list), .sl (Fld.rows x1.v.fields)], .rf [.int .i64 x1.v.kind, .int .i64 x1.v.n, .str x1.v.s, .sl (Val.rows x1.v.list), .sl (Fld.rows x1.v.fields)], .agg [.int .i64 x1.v.kind, .int .i64 x1.v.n, .str x1.v.s, .sl (Val.rows x1.v.list), .sl (Fld.rows x1.v.fields)], .int .i64 p1, .int .i64 (w64 (p1 - 1)), .bool false, .bool true, .bool true]
def Qgn (p0 : Val) (_p1 : Int) (_i1 : Nat) (_x1 : Fld) : List (Nat × List PV) :=
  [(0, [.int .i64 p0.kind, .int .i64 p0.n, .str p0.s, .sl (Val.rows p0.list), .sl (Fld.rows p0.fields)])]
theorem Qzq (p0 : Val) (p1 : Int) (H : Q59 p0 p1) (rec : Q1y p0) (x1 : Fld) (i1 : Nat) (hx1 : p0.fields[i1]? = some x1) (_hi1 : i1 < List.length p0.fields) (hc1 : (decide ((i1 : Int) < ((List.length p0.fields) : Int))) = true) (h0 : (s_Kp x1.name) = true) (h1 : (decide (0 < (i1 : Int))) = false) (h2 : (s_Kx x1.v (w64 (p1 - 1))) = false) : Q66 p0 p1 (Q2k p0 p1 i1) (.k1) := by
 exact ⟨(envF (Qni p0 p1 i1 x1)), (zoF (Qgn p0 p1 i1 x1)), Qe VOK.nil (x := (.ret, Q3b p0 p1 (envF (Qni p0 p1 i1 x1)) (zoF (Qgn p0 p1 i1 x1)))) [hP 3 (Qj (Fld.rows p0.fields) (List.length p0.fields) (Fld.Qd p0.fields)), hB 0 hc1, hP 3 (Q1h 6 (Fld.rows p0.fields) i1 _ (Fld.Qf hx1) rfl), hB 6 h1, hP 21 (Q1h 6 (Fld.rows p0.fields) i1 _ (Fld.Qf hx1) rfl)] [aB (t_Kp x1.name (H.2.1 x1 (Q1f hx1))) h0, aB (rec x1.v (szF hx1) (w64 (p1 - 1)) (H.2.2.2.2.1 x1 (Q1f hx1))) h2] (by kernel_rfl)⟩
def Qow (p0 : Val) (p1 : Int) (i1 : Nat) (x1 : Fld) : List PV :=
  [.un, .int .i64 p1, .bx 0 0, .un, .un, .un, .int .i64 (i1 : Int), .un, .un, .un, .un, .un, .un, .un, .un, .un, .un, .un, .un, .un, .un, .un, .un, .un, .un, .un, .un, .un, .un, .un, .un, .un, .un, .un, .un, .un, .un, .un, .un, .un, .un, .un, .un, .un, .un, .un, .un, .un, .un, .un, .un, .un, .un, .un, .un, .un, .un, .un, .un, .un, .un, .un, .int .i64 (i1 : Int), .bx 0 4, .sl (Fld.rows p0.fields), .int .i64 ((List.length p0.fields) : Int), .bool true, .un, .un, .bx 0 4, .sl (Fld.rows p0.fields), .int .i64 (i1 : Int), .rf [.str x1.name, .int .i64 x1.v.kind, .int .i64 x1.v.n, .str x1.v.s, .sl (Val.rows x1.v.list), .sl (Fld.rows x1.v.fields)], .rf [.str x1.name, .int .i64 x1.v.kind, .int .i64 x1.v.n, .str x1.v.s, .sl (Val.rows x1.v.list), .sl (Fld.rows x1.v.fields)], .str x1.name, .bool false, .bool true, .bool true, .tup [], .tup [], .tup [], .tup [], .tup [], .tup [], .tup [], .tup [], .tup [], .tup [], .tup [], .tup [], .tup [], .tup [], .tup [], .tup [], .tup [], .tup [], .bool true, .bool true, .tup [], .tup [], .tup [], .tup [], .tup [], .tup [], .tup [], .tup [], .tup [], .tup [], .bool true]
def Qgt (p0 : Val) (_p1 : Int) (_i1 : Nat) (_x1 : Fld) : List (Nat × List PV) :=
  [(0, [.int .i64 p0.kind, .int .i64 p0.n, .str p0.s, .sl (Val.rows p0.list), .sl (Fld.rows p0.fields)])]
theorem Qz4 (p0 : Val) (p1 : Int) (H : Q59 p0 p1) (_rec : Q1y p0) (x1 : Fld) (i1 : Nat) (hx1 : p0.fields[i1]? = some x1) (_hi1 : i1 < List.length p0.fields) (hc1 : (decide ((i1 : Int) < ((List.length p0.fields) : Int))) = true) (h0 : (s_Kp x1.name) = false) : Q66 p0 p1 (Q2k p0 p1 i1) (.k1) := by
 exact ⟨(envF (Qow p0 p1 i1 x1)), (zoF (Qgt p0 p1 i1 x1)), Qe VOK.nil (x := (.ret, Q3b p0 p1 (envF (Qow p0 p1 i1 x1)) (zoF (Qgt p0 p1 i1 x1)))) [hP 3 (Qj (Fld.rows p0.fields) (List.length p0.fields) (Fld.Qd p0.fields)), hB 0 hc1, hP 3 (Q1h 6 (Fld.rows p0.fields) i1 _ (Fld.Qf hx1) rfl)] [aB (t_Kp x1.name (H.2.1 x1 (Q1f hx1))) h0] (by kernel_rfl)⟩
theorem Q6r (p0 : Val) (p1 : Int) (H : Q59 p0 p1) (rec : Q1y p0) : ∀ (r1 : List Fld) (i1 : Nat), List.drop i1 p0.fields = r1 → Q66 p0 p1 (Q2k p0 p1 i1) (Q2r p0 p1 r1 i1)
 | [], i1, hd => by
  have hc1 : (decide ((i1 : Int) < ((List.length p0.fields) : Int))) = false := by have := Q1m hd; simp; omega
  rw [Q2r]
  exact Qzl p0 p1 H rec i1 hc1
 | x1 :: r1, i1, hd => by
  obtain ⟨hx1, hi1, hd'⟩ := Q18 hd
  have hc1 : (decide ((i1 : Int) < ((List.length p0.fields) : Int))) = true := by simp; omega
  rw [Q2r]
  cases h0 : (s_Kp x1.name) with
  | true =>
   cases h1 : (decide (0 < (i1 : Int))) with
   | true =>
    cases h2 : ((sLt x1.name (List.getD p0.fields (Int.toNat (w64 ((i1 : Int) - 1))) zF).name) || (sEq x1.name (List.getD p0.fields (Int.toNat (w64 ((i1 : Int) - 1))) zF).name)) with
    | true =>
     exact Qzf p0 p1 H rec x1 i1 hx1 hi1 hc1 h0 h1 h2
    | false =>
     cases h3 : (s_Kx x1.v (w64 (p1 - 1))) with
     | true =>
      exact Qa0 p0 p1 (fun r hr => Qzj p0 p1 H rec x1 i1 hx1 hi1 hc1 h0 h1 h2 h3 hr) _ (Q6r p0 p1 H rec r1 (i1 + 1) hd')
     | false =>
      exact Qwz p0 p1 H rec x1 i1 hx1 hi1 hc1 h0 h1 h2 h3
   | false =>
    cases h2 : (s_Kx x1.v (w64 (p1 - 1))) with
    | true =>
     exact Qa0 p0 p1 (fun r hr => Qzu p0 p1 H rec x1 i1 hx1 hi1 hc1 h0 h1 h2 hr) _ (Q6r p0 p1 H rec r1 (i1 + 1) hd')
    | false =>
     exact Qzq p0 p1 H rec x1 i1 hx1 hi1 hc1 h0 h1 h2
  | false =>
   exact Qz4 p0 p1 H rec x1 i1 hx1 hi1 hc1 h0
theorem Q15i (p0 : Val) (p1 : Int) (_H : H_Kx p0) (_rec : Q1y p0) (h0 : (p1 == 0) = true) : Q7 G (c_Kx p0 p1) (.ret (.bool (false)) []) := by
 exact Q9 (fn := Ir.Kx) rfl VOK.nil [hB 3 h0] [] (by kernel_rfl)
theorem Q14t (p0 : Val) (p1 : Int) (H : H_Kx p0) (_rec : Q1y p0) (h0 : (p1 == 0) = false) (h1 : (s_Kw p0) = true) (h2 : (decide (64 < ((List.length p0.list) : Int))) = true) : Q7 G (c_Kx p0 p1) (.ret (.bool (false)) []) := by
 exact Q9 (fn := Ir.Kx) rfl VOK.nil [hB 3 h0, hP 8 (Qj (Val.rows p0.list) (List.length p0.list) (Val.Qd p0.list)), hB 0 h2] [aB (t_Kw p0 (Q1u p0 p1 H).1) h1] (by kernel_rfl)
theorem Q15v (p0 : Val) (p1 : Int) (H : H_Kx p0) (_rec : Q1y p0) (h0 : (p1 == 0) = false) (h1 : (s_Kw p0) = true) (h2 : (decide (64 < ((List.length p0.list) : Int))) = false) (h3 : (decide (64 < ((List.length p0.fields) : Int))) = true) : Q7 G (c_Kx p0 p1) (.ret (.bool (false)) []) := by
 exact Q9 (fn := Ir.Kx) rfl VOK.nil [hB 3 h0, hP 8 (Qj (Val.rows p0.list) (List.length p0.list) (Val.Qd p0.list)), hB 0 h2, hP 4 (Qj (Fld.rows p0.fields) (List.length p0.fields) (Fld.Qd p0.fields)), hB 0 h3] [aB (t_Kw p0 (Q1u p0 p1 H).1) h1] (by kernel_rfl)
theorem Q15u (p0 : Val) (p1 : Int) (H : H_Kx p0) (_rec : Q1y p0) (h0 : (p1 == 0) = false) (h1 : (s_Kw p0) = true) (h2 : (decide (64 < ((List.length p0.list) : Int))) = false) (h3 : (decide (64 < ((List.length p0.fields) : Int))) = false) (h4 : (p0.kind == 4) = true) (h5 : (p0.kind == 5) = true) (z6 : Nat → PV) (zo6 : Nat → List PV) (hl6 : Q7 G (Q2p p0 p1 0) (.st (.exit 0) (Q32 p0 p1 z6 zo6))) (z7 : Nat → PV) (zo7 : Nat → List PV) (hl7 : Q7 G (Q2k p0 p1 0) (.st (.exit 2) (Q4z p0 p1 z7 zo7))) : Q7 G (c_Kx p0 p1) (.ret (.bool (true)) []) := by
 exact Q9 (fn := Ir.Kx) rfl VOK.nil [hB 3 h0, hP 8 (Qj (Val.rows p0.list) (List.length p0.list) (Val.Qd p0.list)), hB 0 h2, hP 4 (Qj (Fld.rows p0.fields) (List.length p0.fields) (Fld.Qd p0.fields)), hB 0 h3, hP 3 (dec (!(p0.kind == 4)) false (by rw [h4]; rfl)), hP 9 (dec (!(p0.kind == 5)) false (by rw [h5]; rfl))] [aB (t_Kw p0 (Q1u p0 p1 H).1) h1, aN hl6, aN hl7] (by kernel_rfl)
theorem Q13x (p0 : Val) (p1 : Int) (H : H_Kx p0) (_rec : Q1y p0) (h0 : (p1 == 0) = false) (h1 : (s_Kw p0) = true) (h2 : (decide (64 < ((List.length p0.list) : Int))) = false) (h3 : (decide (64 < ((List.length p0.fields) : Int))) = false) (h4 : (p0.kind == 4) = true) (h5 : (p0.kind == 5) = true) (z6 : Nat → PV) (zo6 : Nat → List PV) (hl6 : Q7 G (Q2p p0 p1 0) (.st (.exit 0) (Q32 p0 p1 z6 zo6))) (z7 : Nat → PV) (zo7 : Nat → List PV) (hl7 : Q7 G (Q2k p0 p1 0) (.st .ret (Q3b p0 p1 z7 zo7))) : Q7 G (c_Kx p0 p1) (.ret (.bool (false)) []) := by
 exact Q9 (fn := Ir.Kx) rfl VOK.nil [hB 3 h0, hP 8 (Qj (Val.rows p0.list) (List.length p0.list) (Val.Qd p0.list)), hB 0 h2, hP 4 (Qj (Fld.rows p0.fields) (List.length p0.fields) (Fld.Qd p0.fields)), hB 0 h3, hP 3 (dec (!(p0.kind == 4)) false (by rw [h4]; rfl)), hP 9 (dec (!(p0.kind == 5)) false (by rw [h5]; rfl))] [aB (t_Kw p0 (Q1u p0 p1 H).1) h1, aN hl6, aN hl7] (by kernel_rfl)
theorem Q14y (p0 : Val) (p1 : Int) (H : H_Kx p0) (_rec : Q1y p0) (h0 : (p1 == 0) = false) (h1 : (s_Kw p0) = true) (h2 : (decide (64 < ((List.length p0.list) : Int))) = false) (h3 : (decide (64 < ((List.length p0.fields) : Int))) = false) (h4 : (p0.kind == 4) = true) (h5 : (p0.kind == 5) = true) (z6 : Nat → PV) (zo6 : Nat → List PV) (hl6 : Q7 G (Q2p p0 p1 0) (.st .ret (Q4x p0 p1 z6 zo6))) : Q7 G (c_Kx p0 p1) (.ret (.bool (false)) []) := by
 exact Q9 (fn := Ir.Kx) rfl VOK.nil [hB 3 h0, hP 8 (Qj (Val.rows p0.list) (List.length p0.list) (Val.Qd p0.list)), hB 0 h2, hP 4 (Qj (Fld.rows p0.fields) (List.length p0.fields) (Fld.Qd p0.fields)), hB 0 h3, hP 3 (dec (!(p0.kind == 4)) false (by rw [h4]; rfl)), hP 9 (dec (!(p0.kind == 5)) false (by rw [h5]; rfl))] [aB (t_Kw p0 (Q1u p0 p1 H).1) h1, aN hl6] (by kernel_rfl)
theorem Q15e (p0 : Val) (p1 : Int) (H : H_Kx p0) (_rec : Q1y p0) (h0 : (p1 == 0) = false) (h1 : (s_Kw p0) = true) (h2 : (decide (64 < ((List.length p0.list) : Int))) = false) (h3 : (decide (64 < ((List.length p0.fields) : Int))) = false) (h4 : (p0.kind == 4) = true) (h5 : (p0.kind == 5) = false) (h6 : (decide (0 < ((List.length p0.fields) : Int))) = true) : Q7 G (c_Kx p0 p1) (.ret (.bool (false)) []) := by
 exact Q9 (fn := Ir.Kx) rfl VOK.nil [hB 3 h0, hP 8 (Qj (Val.rows p0.list) (List.length p0.list) (Val.Qd p0.list)), hB 0 h2, hP 4 (Qj (Fld.rows p0.fields) (List.length p0.fields) (Fld.Qd p0.fields)), hB 0 h3, hP 3 (dec (!(p0.kind == 4)) false (by rw [h4]; rfl)), hP 9 (dec (!(p0.kind == 5)) true (by rw [h5]; rfl)), hP 3 (Qj (Fld.rows p0.fields) (List.length p0.fields) (Fld.Qd p0.fields)), hB 0 h6] [aB (t_Kw p0 (Q1u p0 p1 H).1) h1] (by kernel_rfl)
theorem Q143 (p0 : Val) (p1 : Int) (H : H_Kx p0) (_rec : Q1y p0) (h0 : (p1 == 0) = false) (h1 : (s_Kw p0) = true) (h2 : (decide (64 < ((List.length p0.list) : Int))) = false) (h3 : (decide (64 < ((List.length p0.fields) : Int))) = false) (h4 : (p0.kind == 4) = true) (h5 : (p0.kind == 5) = false) (h6 : (decide (0 < ((List.length p0.fields) : Int))) = false) (z7 : Nat → PV) (zo7 : Nat → List PV) (hl7 : Q7 G (Q2p p0 p1 0) (.st (.exit 0) (Q32 p0 p1 z7 zo7))) (z8 : Nat → PV) (zo8 : Nat → List PV) (hl8 : Q7 G (Q2k p0 p1 0) (.st (.exit 2) (Q4z p0 p1 z8 zo8))) : Q7 G (c_Kx p0 p1) (.ret (.bool (true)) []) := by
 exact Q9 (fn := Ir.Kx) rfl VOK.nil [hB 3 h0, hP 8 (Qj (Val.rows p0.list) (List.length p0.list) (Val.Qd p0.list)), hB 0 h2, hP 4 (Qj (Fld.rows p0.fields) (List.length p0.fields) (Fld.Qd p0.fields)), hB 0 h3, hP 3 (dec (!(p0.kind == 4)) false (by rw [h4]; rfl)), hP 9 (dec (!(p0.kind == 5)) true (by rw [h5]; rfl)), hP 3 (Qj (Fld.rows p0.fields) (List.length p0.fields) (Fld.Qd p0.fields)), hB 0 h6] [aB (t_Kw p0 (Q1u p0 p1 H).1) h1, aN hl7, aN hl8] (by kernel_rfl)
theorem Q13o (p0 : Val) (p1 : Int) (H : H_Kx p0) (_rec : Q1y p0) (h0 : (p1 == 0) = false) (h1 : (s_Kw p0) = true) (h2 : (decide (64 < ((List.length p0.list) : Int))) = false) (h3 : (decide (64 < ((List.length p0.fields) : Int))) = false) (h4 : (p0.kind == 4) = true) (h5 : (p0.kind == 5) = false) (h6 : (decide (0 < ((List.length p0.fields) : Int))) = false) (z7 : Nat → PV) (zo7 : Nat → List PV) (hl7 : Q7 G (Q2p p0 p1 0) (.st (.exit 0) (Q32 p0 p1 z7 zo7))) (z8 : Nat → PV) (zo8 : Nat → List PV) (hl8 : Q7 G (Q2k p0 p1 0) (.st .ret (Q3b p0 p1 z8 zo8))) : Q7 G (c_Kx p0 p1) (.ret (.bool (false)) []) := by
 exact Q9 (fn := Ir.Kx) rfl VOK.nil [hB 3 h0, hP 8 (Qj (Val.rows p0.list) (List.length p0.list) (Val.Qd p0.list)), hB 0 h2, hP 4 (Qj (Fld.rows p0.fields) (List.length p0.fields) (Fld.Qd p0.fields)), hB 0 h3, hP 3 (dec (!(p0.kind == 4)) false (by rw [h4]; rfl)), hP 9 (dec (!(p0.kind == 5)) true (by rw [h5]; rfl)), hP 3 (Qj (Fld.rows p0.fields) (List.length p0.fields) (Fld.Qd p0.fields)), hB 0 h6] [aB (t_Kw p0 (Q1u p0 p1 H).1) h1, aN hl7, aN hl8] (by kernel_rfl)
theorem Q15l (p0 : Val) (p1 : Int) (H : H_Kx p0) (_rec : Q1y p0) (h0 : (p1 == 0) = false) (h1 : (s_Kw p0) = true) (h2 : (decide (64 < ((List.length p0.list) : Int))) = false) (h3 : (decide (64 < ((List.length p0.fields) : Int))) = false) (h4 : (p0.kind == 4) = true) (h5 : (p0.kind == 5) = false) (h6 : (decide (0 < ((List.length p0.fields) : Int))) = false) (z7 : Nat → PV) (zo7 : Nat → List PV) (hl7 : Q7 G (Q2p p0 p1 0) (.st .ret (Q4x p0 p1 z7 zo7))) : Q7 G (c_Kx p0 p1) (.ret (.bool (false)) []) := by
 exact Q9 (fn := Ir.Kx) rfl VOK.nil [hB 3 h0, hP 8 (Qj (Val.rows p0.list) (List.length p0.list) (Val.Qd p0.list)), hB 0 h2, hP 4 (Qj (Fld.rows p0.fields) (List.length p0.fields) (Fld.Qd p0.fields)), hB 0 h3, hP 3 (dec (!(p0.kind == 4)) false (by rw [h4]; rfl)), hP 9 (dec (!(p0.kind == 5)) true (by rw [h5]; rfl)), hP 3 (Qj (Fld.rows p0.fields) (List.length p0.fields) (Fld.Qd p0.fields)), hB 0 h6] [aB (t_Kw p0 (Q1u p0 p1 H).1) h1, aN hl7] (by kernel_rfl)
theorem Q12y (p0 : Val) (p1 : Int) (H : H_Kx p0) (_rec : Q1y p0) (h0 : (p1 == 0) = false) (h1 : (s_Kw p0) = true) (h2 : (decide (64 < ((List.length p0.list) : Int))) = false) (h3 : (decide (64 < ((List.length p0.fields) : Int))) = false) (h4 : (p0.kind == 4) = false) (h5 : (decide (0 < ((List.length p0.list) : Int))) = true) : Q7 G (c_Kx p0 p1) (.ret (.bool (false)) []) := by
 exact Q9 (fn := Ir.Kx) rfl VOK.nil [hB 3 h0, hP 8 (Qj (Val.rows p0.list) (List.length p0.list) (Val.Qd p0.list)), hB 0 h2, hP 4 (Qj (Fld.rows p0.fields) (List.length p0.fields) (Fld.Qd p0.fields)), hB 0 h3, hP 3 (dec (!(p0.kind == 4)) true (by rw [h4]; rfl)), hP 3 (Qj (Val.rows p0.list) (List.length p0.list) (Val.Qd p0.list)), hB 0 h5] [aB (t_Kw p0 (Q1u p0 p1 H).1) h1] (by kernel_rfl)
theorem Q12m (p0 : Val) (p1 : Int) (H : H_Kx p0) (_rec : Q1y p0) (h0 : (p1 == 0) = false) (h1 : (s_Kw p0) = true) (h2 : (decide (64 < ((List.length p0.list) : Int))) = false) (h3 : (decide (64 < ((List.length p0.fields) : Int))) = false) (h4 : (p0.kind == 4) = false) (h5 : (decide (0 < ((List.length p0.list) : Int))) = false) (h6 : (p0.kind == 5) = true) (z7 : Nat → PV) (zo7 : Nat → List PV) (hl7 : Q7 G (Q2p p0 p1 0) (.st (.exit 0) (Q32 p0 p1 z7 zo7))) (z8 : Nat → PV) (zo8 : Nat → List PV) (hl8 : Q7 G (Q2k p0 p1 0) (.st (.exit 2) (Q4z p0 p1 z8 zo8))) : Q7 G (c_Kx p0 p1) (.ret (.bool (true)) []) := by
 exact Q9 (fn := Ir.Kx) rfl VOK.nil [hB 3 h0, hP 8 (Qj (Val.rows p0.list) (List.length p0.list) (Val.Qd p0.list)), hB 0 h2, hP 4 (Qj (Fld.rows p0.fields) (List.length p0.fields) (Fld.Qd p0.fields)), hB 0 h3, hP 3 (dec (!(p0.kind == 4)) true (by rw [h4]; rfl)), hP 3 (Qj (Val.rows p0.list) (List.length p0.list) (Val.Qd p0.list)), hB 0 h5, hP 4 (dec (!(p0.kind == 5)) false (by rw [h6]; rfl))] [aB (t_Kw p0 (Q1u p0 p1 H).1) h1, aN hl7, aN hl8] (by kernel_rfl)
theorem Q13g (p0 : Val) (p1 : Int) (H : H_Kx p0) (_rec : Q1y p0) (h0 : (p1 == 0) = false) (h1 : (s_Kw p0) = true) (h2 : (decide (64 < ((List.length p0.list) : Int))) = false) (h3 : (decide (64 < ((List.length p0.fields) : Int))) = false) (h4 : (p0.kind == 4) = false) (h5 : (decide (0 < ((List.length p0.list) : Int))) = false) (h6 : (p0.kind == 5) = true) (z7 : Nat → PV) (zo7 : Nat → List PV) (hl7 : Q7 G (Q2p p0 p1 0) (.st (.exit 0) (Q32 p0 p1 z7 zo7))) (z8 : Nat → PV) (zo8 : Nat → List PV) (hl8 : Q7 G (Q2k p0 p1 0) (.st .ret (Q3b p0 p1 z8 zo8))) : Q7 G (c_Kx p0 p1) (.ret (.bool (false)) []) := by
 exact Q9 (fn := Ir.Kx) rfl VOK.nil [hB 3 h0, hP 8 (Qj (Val.rows p0.list) (List.length p0.list) (Val.Qd p0.list)), hB 0 h2, hP 4 (Qj (Fld.rows p0.fields) (List.length p0.fields) (Fld.Qd p0.fields)), hB 0 h3, hP 3 (dec (!(p0.kind == 4)) true (by rw [h4]; rfl)), hP 3 (Qj (Val.rows p0.list) (List.length p0.list) (Val.Qd p0.list)), hB 0 h5, hP 4 (dec (!(p0.kind == 5)) false (by rw [h6]; rfl))] [aB (t_Kw p0 (Q1u p0 p1 H).1) h1, aN hl7, aN hl8] (by kernel_rfl)
theorem Q132 (p0 : Val) (p1 : Int) (H : H_Kx p0) (_rec : Q1y p0) (h0 : (p1 == 0) = false) (h1 : (s_Kw p0) = true) (h2 : (decide (64 < ((List.length p0.list) : Int))) = false) (h3 : (decide (64 < ((List.length p0.fields) : Int))) = false) (h4 : (p0.kind == 4) = false) (h5 : (decide (0 < ((List.length p0.list) : Int))) = false) (h6 : (p0.kind == 5) = true) (z7 : Nat → PV) (zo7 : Nat → List PV) (hl7 : Q7 G (Q2p p0 p1 0) (.st .ret (Q4x p0 p1 z7 zo7))) : Q7 G (c_Kx p0 p1) (.ret (.bool (false)) []) := by
 exact Q9 (fn := Ir.Kx) rfl VOK.nil [hB 3 h0, hP 8 (Qj (Val.rows p0.list) (List.length p0.list) (Val.Qd p0.list)), hB 0 h2, hP 4 (Qj (Fld.rows p0.fields) (List.length p0.fields) (Fld.Qd p0.fields)), hB 0 h3, hP 3 (dec (!(p0.kind == 4)) true (by rw [h4]; rfl)), hP 3 (Qj (Val.rows p0.list) (List.length p0.list) (Val.Qd p0.list)), hB 0 h5, hP 4 (dec (!(p0.kind == 5)) false (by rw [h6]; rfl))] [aB (t_Kw p0 (Q1u p0 p1 H).1) h1, aN hl7] (by kernel_rfl)
theorem Q12q (p0 : Val) (p1 : Int) (H : H_Kx p0) (_rec : Q1y p0) (h0 : (p1 == 0) = false) (h1 : (s_Kw p0) = true) (h2 : (decide (64 < ((List.length p0.list) : Int))) = false) (h3 : (decide (64 < ((List.length p0.fields) : Int))) = false) (h4 : (p0.kind == 4) = false) (h5 : (decide (0 < ((List.length p0.list) : Int))) = false) (h6 : (p0.kind == 5) = false) (h7 : (decide (0 < ((List.length p0.fields) : Int))) = true) : Q7 G (c_Kx p0 p1) (.ret (.bool (false)) []) := by
 exact Q9 (fn := Ir.Kx) rfl VOK.nil [hB 3 h0, hP 8 (Qj (Val.rows p0.list) (List.length p0.list) (Val.Qd p0.list)), hB 0 h2, hP 4 (Qj (Fld.rows p0.fields) (List.length p0.fields) (Fld.Qd p0.fields)), hB 0 h3, hP 3 (dec (!(p0.kind == 4)) true (by rw [h4]; rfl)), hP 3 (Qj (Val.rows p0.list) (List.length p0.list) (Val.Qd p0.list)), hB 0 h5, hP 4 (dec (!(p0.kind == 5)) true (by rw [h6]; rfl)), hP 3 (Qj (Fld.rows p0.fields) (List.length p0.fields) (Fld.Qd p0.fields)), hB 0 h7] [aB (t_Kw p0 (Q1u p0 p1 H).1) h1] (by kernel_rfl)
theorem Q12r (p0 : Val) (p1 : Int) (H : H_Kx p0) (_rec : Q1y p0) (h0 : (p1 == 0) = false) (h1 : (s_Kw p0) = true) (h2 : (decide (64 < ((List.length p0.list) : Int))) = false) (h3 : (decide (64 < ((List.length p0.fields) : Int))) = false) (h4 : (p0.kind == 4) = false) (h5 : (decide (0 < ((List.length p0.list) : Int))) = false) (h6 : (p0.kind == 5) = false) (h7 : (decide (0 < ((List.length p0.fields) : Int))) = false) (z8 : Nat → PV) (zo8 : Nat → List PV) (hl8 : Q7 G (Q2p p0 p1 0) (.st (.exit 0) (Q32 p0 p1 z8 zo8))) (z9 : Nat → PV) (zo9 : Nat → List PV) (hl9 : Q7 G (Q2k p0 p1 0) (.st (.exit 2) (Q4z p0 p1 z9 zo9))) : Q7 G (c_Kx p0 p1) (.ret (.bool (true)) []) := by
 exact Q9 (fn := Ir.Kx) rfl VOK.nil [hB 3 h0, hP 8 (Qj (Val.rows p0.list) (List.length p0.list) (Val.Qd p0.list)), hB 0 h2, hP 4 (Qj (Fld.rows p0.fields) (List.length p0.fields) (Fld.Qd p0.fields)), hB 0 h3, hP 3 (dec (!(p0.kind == 4)) true (by rw [h4]; rfl)), hP 3 (Qj (Val.rows p0.list) (List.length p0.list) (Val.Qd p0.list)), hB 0 h5, hP 4 (dec (!(p0.kind == 5)) true (by rw [h6]; rfl)), hP 3 (Qj (Fld.rows p0.fields) (List.length p0.fields) (Fld.Qd p0.fields)), hB 0 h7] [aB (t_Kw p0 (Q1u p0 p1 H).1) h1, aN hl8, aN hl9] (by kernel_rfl)
theorem Q139 (p0 : Val) (p1 : Int) (H : H_Kx p0) (_rec : Q1y p0) (h0 : (p1 == 0) = false) (h1 : (s_Kw p0) = true) (h2 : (decide (64 < ((List.length p0.list) : Int))) = false) (h3 : (decide (64 < ((List.length p0.fields) : Int))) = false) (h4 : (p0.kind == 4) = false) (h5 : (decide (0 < ((List.length p0.list) : Int))) = false) (h6 : (p0.kind == 5) = false) (h7 : (decide (0 < ((List.length p0.fields) : Int))) = false) (z8 : Nat → PV) (zo8 : Nat → List PV) (hl8 : Q7 G (Q2p p0 p1 0) (.st (.exit 0) (Q32 p0 p1 z8 zo8))) (z9 : Nat → PV) (zo9 : Nat → List PV) (hl9 : Q7 G (Q2k p0 p1 0) (.st .ret (Q3b p0 p1 z9 zo9))) : Q7 G (c_Kx p0 p1) (.ret (.bool (false)) []) := by
 exact Q9 (fn := Ir.Kx) rfl VOK.nil [hB 3 h0, hP 8 (Qj (Val.rows p0.list) (List.length p0.list) (Val.Qd p0.list)), hB 0 h2, hP 4 (Qj (Fld.rows p0.fields) (List.length p0.fields) (Fld.Qd p0.fields)), hB 0 h3, hP 3 (dec (!(p0.kind == 4)) true (by rw [h4]; rfl)), hP 3 (Qj (Val.rows p0.list) (List.length p0.list) (Val.Qd p0.list)), hB 0 h5, hP 4 (dec (!(p0.kind == 5)) true (by rw [h6]; rfl)), hP 3 (Qj (Fld.rows p0.fields) (List.length p0.fields) (Fld.Qd p0.fields)), hB 0 h7] [aB (t_Kw p0 (Q1u p0 p1 H).1) h1, aN hl8, aN hl9] (by kernel_rfl)
theorem Q130 (p0 : Val) (p1 : Int) (H : H_Kx p0) (_rec : Q1y p0) (h0 : (p1 == 0) = false) (h1 : (s_Kw p0) = true) (h2 : (decide (64 < ((List.length p0.list) : Int))) = false) (h3 : (decide (64 < ((List.length p0.fields) : Int))) = false) (h4 : (p0.kind == 4) = false) (h5 : (decide (0 < ((List.length p0.list) : Int))) = false) (h6 : (p0.kind == 5) = false) (h7 : (decide (0 < ((List.length p0.fields) : Int))) = false) (z8 : Nat → PV) (zo8 : Nat → List PV) (hl8 : Q7 G (Q2p p0 p1 0) (.st .ret (Q4x p0 p1 z8 zo8))) : Q7 G (c_Kx p0 p1) (.ret (.bool (false)) []) := by
 exact Q9 (fn := Ir.Kx) rfl VOK.nil [hB 3 h0, hP 8 (Qj (Val.rows p0.list) (List.length p0.list) (Val.Qd p0.list)), hB 0 h2, hP 4 (Qj (Fld.rows p0.fields) (List.length p0.fields) (Fld.Qd p0.fields)), hB 0 h3, hP 3 (dec (!(p0.kind == 4)) true (by rw [h4]; rfl)), hP 3 (Qj (Val.rows p0.list) (List.length p0.list) (Val.Qd p0.list)), hB 0 h5, hP 4 (dec (!(p0.kind == 5)) true (by rw [h6]; rfl)), hP 3 (Qj (Fld.rows p0.fields) (List.length p0.fields) (Fld.Qd p0.fields)), hB 0 h7] [aB (t_Kw p0 (Q1u p0 p1 H).1) h1, aN hl8] (by kernel_rfl)
theorem Q12p (p0 : Val) (p1 : Int) (H : H_Kx p0) (_rec : Q1y p0) (h0 : (p1 == 0) = false) (h1 : (s_Kw p0) = false) : Q7 G (c_Kx p0 p1) (.ret (.bool (false)) []) := by
 exact Q9 (fn := Ir.Kx) rfl VOK.nil [hB 3 h0] [aB (t_Kw p0 (Q1u p0 p1 H).1) h1] (by kernel_rfl)
theorem r_Kx (p0 : Val) (p1 : Int) (H : H_Kx p0) (rec : Q1y p0) : Q7 G (c_Kx p0 p1) (a_Kx p0 p1) := by
  unfold a_Kx
  rw [s_Kx]
  cases h0 : (p1 == 0) with
  | true =>
   exact Q15i p0 p1 H rec h0
  | false =>
   cases h1 : (s_Kw p0) with
   | true =>
    cases h2 : (decide (64 < ((List.length p0.list) : Int))) with
    | true =>
     exact Q14t p0 p1 H rec h0 h1 h2
    | false =>
     cases h3 : (decide (64 < ((List.length p0.fields) : Int))) with
     | true =>
      exact Q15v p0 p1 H rec h0 h1 h2 h3
     | false =>
      cases h4 : (p0.kind == 4) with
      | true =>
       cases h5 : (p0.kind == 5) with
       | true =>
        have hl6 := Q87 p0 p1 ((Q1u p0 p1 H).2.1) rec p0.list 0 (by simp)
        cases hr6 : (Q3l p0 p1 p0.list 0) with
        | k0 =>
          rw [hr6] at hl6
          obtain ⟨z6, zo6, hl6⟩ := hl6
          try dsimp only
          have hl7 := Q6r p0 p1 ((Q1u p0 p1 H).2.2.1) rec p0.fields 0 (by simp)
          cases hr7 : (Q2r p0 p1 p0.fields 0) with
          | k0 =>
            rw [hr7] at hl7
            obtain ⟨z7, zo7, hl7⟩ := hl7
            exact Q15u p0 p1 H rec h0 h1 h2 h3 h4 h5 z6 zo6 hl6 z7 zo7 hl7
          | k1 =>
            rw [hr7] at hl7
            obtain ⟨z7, zo7, hl7⟩ := hl7
            exact Q13x p0 p1 H rec h0 h1 h2 h3 h4 h5 z6 zo6 hl6 z7 zo7 hl7
        | k1 =>
          rw [hr6] at hl6
          obtain ⟨z6, zo6, hl6⟩ := hl6
          exact Q14y p0 p1 H rec h0 h1 h2 h3 h4 h5 z6 zo6 hl6
       | false =>
        cases h6 : (decide (0 < ((List.length p0.fields) : Int))) with
        | true =>
         exact Q15e p0 p1 H rec h0 h1 h2 h3 h4 h5 h6
        | false =>
         have hl7 := Q87 p0 p1 ((Q1u p0 p1 H).2.1) rec p0.list 0 (by simp)
         cases hr7 : (Q3l p0 p1 p0.list 0) with
         | k0 =>
           rw [hr7] at hl7
           obtain ⟨z7, zo7, hl7⟩ := hl7
           try dsimp only
           have hl8 := Q6r p0 p1 ((Q1u p0 p1 H).2.2.1) rec p0.fields 0 (by simp)
           cases hr8 : (Q2r p0 p1 p0.fields 0) with
           | k0 =>
             rw [hr8] at hl8
             obtain ⟨z8, zo8, hl8⟩ := hl8
             exact Q143 p0 p1 H rec h0 h1 h2 h3 h4 h5 h6 z7 zo7 hl7 z8 zo8 hl8
           | k1 =>
             rw [hr8] at hl8
             obtain ⟨z8, zo8, hl8⟩ := hl8
             exact Q13o p0 p1 H rec h0 h1 h2 h3 h4 h5 h6 z7 zo7 hl7 z8 zo8 hl8
         | k1 =>
           rw [hr7] at hl7
           obtain ⟨z7, zo7, hl7⟩ := hl7
           exact Q15l p0 p1 H rec h0 h1 h2 h3 h4 h5 h6 z7 zo7 hl7
      | false =>
       cases h5 : (decide (0 < ((List.length p0.list) : Int))) with
       | true =>
        exact Q12y p0 p1 H rec h0 h1 h2 h3 h4 h5
       | false =>
        cases h6 : (p0.kind == 5) with
        | true =>
         have hl7 := Q87 p0 p1 ((Q1u p0 p1 H).2.1) rec p0.list 0 (by simp)
         cases hr7 : (Q3l p0 p1 p0.list 0) with
         | k0 =>
           rw [hr7] at hl7
           obtain ⟨z7, zo7, hl7⟩ := hl7
           try dsimp only
           have hl8 := Q6r p0 p1 ((Q1u p0 p1 H).2.2.1) rec p0.fields 0 (by simp)
           cases hr8 : (Q2r p0 p1 p0.fields 0) with
           | k0 =>
             rw [hr8] at hl8
             obtain ⟨z8, zo8, hl8⟩ := hl8
             exact Q12m p0 p1 H rec h0 h1 h2 h3 h4 h5 h6 z7 zo7 hl7 z8 zo8 hl8
           | k1 =>
             rw [hr8] at hl8
             obtain ⟨z8, zo8, hl8⟩ := hl8
             exact Q13g p0 p1 H rec h0 h1 h2 h3 h4 h5 h6 z7 zo7 hl7 z8 zo8 hl8
         | k1 =>
           rw [hr7] at hl7
           obtain ⟨z7, zo7, hl7⟩ := hl7
           exact Q132 p0 p1 H rec h0 h1 h2 h3 h4 h5 h6 z7 zo7 hl7
        | false =>
         cases h7 : (decide (0 < ((List.length p0.fields) : Int))) with
         | true =>
          exact Q12q p0 p1 H rec h0 h1 h2 h3 h4 h5 h6 h7
         | false =>
          have hl8 := Q87 p0 p1 ((Q1u p0 p1 H).2.1) rec p0.list 0 (by simp)
          cases hr8 : (Q3l p0 p1 p0.list 0) with
          | k0 =>
            rw [hr8] at hl8
            obtain ⟨z8, zo8, hl8⟩ := hl8
            try dsimp only
            have hl9 := Q6r p0 p1 ((Q1u p0 p1 H).2.2.1) rec p0.fields 0 (by simp)
            cases hr9 : (Q2r p0 p1 p0.fields 0) with
            | k0 =>
              rw [hr9] at hl9
              obtain ⟨z9, zo9, hl9⟩ := hl9
              exact Q12r p0 p1 H rec h0 h1 h2 h3 h4 h5 h6 h7 z8 zo8 hl8 z9 zo9 hl9
            | k1 =>
              rw [hr9] at hl9
              obtain ⟨z9, zo9, hl9⟩ := hl9
              exact Q139 p0 p1 H rec h0 h1 h2 h3 h4 h5 h6 h7 z8 zo8 hl8 z9 zo9 hl9
          | k1 =>
            rw [hr8] at hl8
            obtain ⟨z8, zo8, hl8⟩ := hl8
            exact Q130 p0 p1 H rec h0 h1 h2 h3 h4 h5 h6 h7 z8 zo8 hl8
   | false =>
    exact Q12p p0 p1 H rec h0 h1
theorem i_Kx : ∀ (k : Nat) (p0 : Val), SizeOf.sizeOf p0 < k → ∀ (p1 : Int), H_Kx p0 → Q7 G (c_Kx p0 p1) (a_Kx p0 p1)
  | 0, _, h, _, _ => absurd h (Nat.not_lt_zero _)
  | k + 1, p0, h, p1, H => r_Kx p0 p1 H (fun q hq p1 hH => i_Kx k q (by omega) p1 hH)
theorem t_Kx (p0 : Val) (p1 : Int) (H : H_Kx p0) : Q7 G (c_Kx p0 p1) (a_Kx p0 p1) := i_Kx _ p0 (Nat.lt_succ_self _) p1 H
def s_Ko (p0 : Val) : Bool :=
 bif (s_Kx p0 12) then
  (decide ((s_Kn p0) ≤ 600))
 else
  false
def c_Ko (p0 : Val) : En := .call 23 [.agg (Val.cells p0)] []
def a_Ko (p0 : Val) : Rs := .ret (.bool (s_Ko p0)) []
def H_Ko (p0 : Val) : Prop := (H_Kx p0) ∧ (H_Kn p0) ∧ True
theorem t_Ko (p0 : Val) (H : H_Ko p0) : Q7 G (c_Ko p0) (a_Ko p0) := by
 unfold a_Ko s_Ko
 cases h0 : (s_Kx p0 12) with
 | true =>
  exact Q9 (fn := Ir.Ko) rfl VOK.nil [] [aB (t_Kx p0 12 H.1) h0, aN (t_Kn p0 H.2.1)] (by kernel_rfl)
 | false =>
  exact Q9 (fn := Ir.Ko) rfl VOK.nil [] [aB (t_Kx p0 12 H.1) h0] (by kernel_rfl)
end Go.Proofs.Ytnhhddbbppbblaa
end

section
/- What the functions on values compute (printed by a program). -/
namespace Go.Proofs.Ytnhhddbbppbblaa
open Go.Pv
inductive Qx0 where
  | k0
  | k1
inductive Qy6 where
  | k0
  | k1
mutual
def s_Ky (p0 : Val) (p1 : Val) : Bool :=
 bif (p0.kind == p1.kind) then
  bif (p0.n == p1.n) then
   bif (sEq p0.s p1.s) then
    bif (((List.length p0.list) : Int) == ((List.length p1.list) : Int)) then
     bif (((List.length p0.fields) : Int) == ((List.length p1.fields) : Int)) then
      (match (Q4m p0 p1 p0.list 0) with
      | .k0 => (match (Q4s p0 p1 p0.fields 0) with
       | .k0 => true
       | .k1 => false)
      | .k1 => false)
     else
      false
    else
     false
   else
    false
  else
   false
 else
  false
termination_by SizeOf.sizeOf p0
decreasing_by all_goals first | exact Val.Q25 _ | exact Val.Q1g _ | exact Q2c _ _ | exact Q24 _ _ | exact Q1r _ _
def Q4m (p0 : Val) (p1 : Val) : List Val → Nat → Qx0
 | [], _i0 =>
  (.k0)
 | x0 :: r0, i0 =>
  bif (s_Ky x0 (List.getD p1.list i0 (Val.mk 0 0 (⟨#[]⟩ : ByteArray) [] []))) then
   Q4m p0 p1 r0 (i0 + 1)
  else
   (.k1)
termination_by l => SizeOf.sizeOf l
decreasing_by all_goals first | exact Val.Q25 _ | exact Val.Q1g _ | exact Q2c _ _ | exact Q24 _ _ | exact Q1r _ _
def Q4s (p0 : Val) (p1 : Val) : List Fld → Nat → Qy6
 | [], _i1 =>
  (.k0)
 | x1 :: r1, i1 =>
  bif (sEq x1.name (List.getD p1.fields i1 zF).name) then
   bif (s_Ky x1.v (List.getD p1.fields i1 zF).v) then
    Q4s p0 p1 r1 (i1 + 1)
   else
    (.k1)
  else
   (.k1)
termination_by l => SizeOf.sizeOf l
decreasing_by all_goals first | exact Val.Q25 _ | exact Val.Q1g _ | exact Q2c _ _ | exact Q24 _ _ | exact Q1r _ _
end
def Qrf (_p0 : Val) (_p1 : Val) (i0 : Nat) : List PV :=
  [.un, .un, .bx 0 0, .bx 1 0, .un, .int .i64 (i0 : Int), .un, .un, .un, .un, .un, .un, .un, .un, .un, .un, .un, .un, .un, .un, .un, .un, .un, .un, .un, .un, .un, .un, .un, .un, .un, .un, .un, .un, .un, .un, .un, .un, .un, .un, .un, .un, .un, .un, .un, .un, .un, .un, .un, .un, .un, .un, .un, .un, .un, .un, .un, .un, .un, .un, .un, .un, .un, .un, .un, .un, .un, .un, .un, .un, .un, .un, .un, .un, .un, .un, .un, .un, .un, .un, .un, .un, .un, .un, .un, .un, .un, .un, .un, .un, .un, .un, .un, .un, .un, .un, .un, .un, .un]
def Qrp (p0 : Val) (p1 : Val) (_i0 : Nat) : List Ob :=
  [⟨5, 0, true, [.int .i64 p0.kind, .int .i64 p0.n, .str p0.s, .sl (Val.rows p0.list), .sl (Fld.rows p0.fields)]⟩, ⟨5, 0, true, [.int .i64 p1.kind, .int .i64 p1.n, .str p1.s, .sl (Val.rows p1.list), .sl (Fld.rows p1.fields)]⟩]
def Q65 (p0 : Val) (p1 : Val) (i0 : Nat) : En := .loop 0 Ir.Qio Ir.Q14r (Qrf p0 p1 i0) (Qrp p0 p1 i0)
def Q89 (p0 : Val) (p1 : Val) (z : Nat → PV) (_zo : Nat → List PV) : St :=
  ⟨[z 0, z 1, .bx 0 0, .bx 1 0, z 4, z 5, z 6, z 7, z 8, z 9, z 10, z 11, z 12, z 13, z 14, z 15, z 16, z 17, z 18, z 19, z 20, z 21, z 22, z 23, z 24, z 25, z 26, z 27, z 28, z 29, z 30, z 31, z 32, z 33, z 34, z 35, z 36, z 37, z 38, z 39, z 40, z 41, z 42, z 43, z 44, z 45, z 46, z 47, z 48, z 49, z 50, z 51, z 52, z 53, z 54, z 55, z 56, z 57, z 58, z 59, z 60, z 61, z 62, z 63, z 64, z 65, z 66, z 67, z 68, z 69, z 70, z 71, z 72, z 73, z 74, z 75, z 76, z 77, z 78, z 79, z 80, z 81, z 82, z 83, z 84, z 85, z 86, z 87, z 88, z 89, z 90, z 91, z 92, z 93, z 94, z 95, z 96, z 97, z 98], [(0, ⟨5, 0, true, [.int .i64 p0.kind, .int .i64 p0.n, .str p0.s, .sl (Val.rows p0.list), .sl (Fld.rows p0.fields)]⟩), (1, ⟨5, 0, true, [.int .i64 p1.kind, .int .i64 p1.n, .str p1.s, .sl (Val.rows p1.list), .sl (Fld.rows p1.fields)]⟩)], 322⟩
def Qfl (_p0 : Val) (_p1 : Val) (z : Nat → PV) (zo : Nat → List PV) : St :=
  ⟨[z 0, z 1, z 2, z 3, .bool false, z 5, z 6, z 7, z 8, z 9, z 10, z 11, z 12, z 13, z 14, z 15, z 16, z 17, z 18, z 19, z 20, z 21, z 22, z 23, z 24, z 25, z 26, z 27, z 28, z 29, z 30, z 31, z 32, z 33, z 34, z 35, z 36, z 37, z 38, z 39, z 40, z 41, z 42, z 43, z 44, z 45, z 46, z 47, z 48, z 49, z 50, z 51, z 52, z 53, z 54, z 55, z 56, z 57, z 58, z 59, z 60, z 61, z 62, z 63, z 64, z 65, z 66, z 67, z 68, z 69, z 70, z 71, z 72, z 73, z 74, z 75, z 76, z 77, z 78, z 79, z 80, z 81, z 82, z 83, z 84, z 85, z 86, z 87, z 88, z 89, z 90, z 91, z 92, z 93, z 94, z 95, z 96, z 97, z 98], [(0, ⟨5, 0, true, zo 0⟩), (1, ⟨5, 0, true, zo 1⟩)], 1154⟩
def Qf9 (p0 : Val) (p1 : Val) (e : En) : Qx0 → Prop
  | .k0 => ∃ z zo, Q7 G e (.st (.exit 0) (Q89 p0 p1 z zo))
  | .k1 => ∃ z zo, Q7 G e (.st .ret (Qfl p0 p1 z zo))
theorem Qm1 (p0 : Val) (p1 : Val) {e e' : En} (h : ∀ r, Q7 G e r → Q7 G e' r) : ∀ q, Qf9 p0 p1 e q → Qf9 p0 p1 e' q
  | .k0, ⟨z, zo, hz⟩ => ⟨z, zo, h _ hz⟩
  | .k1, ⟨z, zo, hz⟩ => ⟨z, zo, h _ hz⟩
def Qro (_p0 : Val) (_p1 : Val) (i1 : Nat) : List PV :=
  [.un, .un, .bx 0 0, .bx 1 0, .un, .un, .int .i64 (i1 : Int), .un, .un, .un, .un, .un, .un, .un, .un, .un, .un, .un, .un, .un, .un, .un, .un, .un, .un, .un, .un, .un, .un, .un, .un, .un, .un, .un, .un, .un, .un, .un, .un, .un, .un, .un, .un, .un, .un, .un, .un, .un, .un, .un, .un, .un, .un, .un, .un, .un, .un, .un, .un, .un, .un, .un, .un, .un, .un, .un, .un, .un, .un, .un, .un, .un, .un, .un, .un, .un, .un, .un, .un, .un, .un, .un, .un, .un, .un, .un, .un, .un, .un, .un, .un, .un, .un, .un, .un, .un, .un, .un, .un]
def Qs9 (p0 : Val) (p1 : Val) (_i1 : Nat) : List Ob :=
  [⟨5, 0, true, [.int .i64 p0.kind, .int .i64 p0.n, .str p0.s, .sl (Val.rows p0.list), .sl (Fld.rows p0.fields)]⟩, ⟨5, 0, true, [.int .i64 p1.kind, .int .i64 p1.n, .str p1.s, .sl (Val.rows p1.list), .sl (Fld.rows p1.fields)]⟩]
def Q5s (p0 : Val) (p1 : Val) (i1 : Nat) : En := .loop 0 Ir.Qhq Ir.Q14g (Qro p0 p1 i1) (Qs9 p0 p1 i1)
def Qct (p0 : Val) (p1 : Val) (z : Nat → PV) (_zo : Nat → List PV) : St :=
  ⟨[z 0, z 1, z 2, z 3, z 4, z 5, z 6, z 7, z 8, z 9, z 10, z 11, z 12, z 13, z 14, z 15, z 16, z 17, z 18, z 19, z 20, z 21, z 22, z 23, z 24, z 25, z 26, z 27, z 28, z 29, z 30, z 31, z 32, z 33, z 34, z 35, z 36, z 37, z 38, z 39, z 40, z 41, z 42, z 43, z 44, z 45, z 46, z 47, z 48, z 49, z 50, z 51, z 52, z 53, z 54, z 55, z 56, z 57, z 58, z 59, z 60, z 61, z 62, z 63, z 64, z 65, z 66, z 67, z 68, z 69, z 70, z 71, z 72, z 73, z 74, z 75, z 76, z 77, z 78, z 79, z 80, z 81, z 82, z 83, z 84, z 85, z 86, z 87, z 88, z 89, z 90, z 91, z 92, z 93, z 94, z 95, z 96, z 97, z 98], [(0, ⟨5, 0, true, [.int .i64 p0.kind, .int .i64 p0.n, .str p0.s, .sl (Val.rows p0.list), .sl (Fld.rows p0.fields)]⟩), (1, ⟨5, 0, true, [.int .i64 p1.kind, .int .i64 p1.n, .str p1.s, .sl (Val.rows p1.list), .sl (Fld.rows p1.fields)]⟩)], 322⟩
def Q8a (_p0 : Val) (_p1 : Val) (z : Nat → PV) (zo : Nat → List PV) : St :=
  ⟨[z 0, z 1, z 2, z 3, .bool false, z 5, z 6, z 7, z 8, z 9, z 10, z 11, z 12, z 13, z 14, z 15, z 16, z 17, z 18, z 19, z 20, z 21, z 22, z 23, z 24, z 25, z 26, z 27, z 28, z 29, z 30, z 31, z 32, z 33, z 34, z 35, z 36, z 37, z 38, z 39, z 40, z 41, z 42, z 43, z 44, z 45, z 46, z 47, z 48, z 49, z 50, z 51, z 52, z 53, z 54, z 55, z 56, z 57, z 58, z 59, z 60, z 61, z 62, z 63, z 64, z 65, z 66, z 67, z 68, z 69, z 70, z 71, z 72, z 73, z 74, z 75, z 76, z 77, z 78, z 79, z 80, z 81, z 82, z 83, z 84, z 85, z 86, z 87, z 88, z 89, z 90, z 91, z 92, z 93, z 94, z 95, z 96, z 97, z 98], [(0, ⟨5, 0, true, zo 0⟩), (1, ⟨5, 0, true, zo 1⟩)], 2242⟩
def Q98 (p0 : Val) (p1 : Val) (e : En) : Qy6 → Prop
  | .k0 => ∃ z zo, Q7 G e (.st (.exit 2) (Qct p0 p1 z zo))
  | .k1 => ∃ z zo, Q7 G e (.st .ret (Q8a p0 p1 z zo))
theorem Qly (p0 : Val) (p1 : Val) {e e' : En} (h : ∀ r, Q7 G e r → Q7 G e' r) : ∀ q, Q98 p0 p1 e q → Q98 p0 p1 e' q
  | .k0, ⟨z, zo, hz⟩ => ⟨z, zo, h _ hz⟩
  | .k1, ⟨z, zo, hz⟩ => ⟨z, zo, h _ hz⟩
def c_Ky (p0 : Val) (p1 : Val) : En := .call 12 [.agg (Val.cells p0), .agg (Val.cells p1)] []
def a_Ky (p0 : Val) (p1 : Val) : Rs := .ret (.bool (s_Ky p0 p1)) []
abbrev H_Ky (p0 : Val) : Prop := Val.Sm 4611686018427387904 p0
def Q3f (p0 : Val) : Prop := ∀ (q : Val), SizeOf.sizeOf q < SizeOf.sizeOf p0 → ∀ (p1 : Val), H_Ky q → Q7 G (c_Ky q p1) (a_Ky q p1)
def Qbp (p0 : Val) (p1 : Val) : Prop := (List.length p0.list ≤ 4611686018427387904) ∧ (∀ (i0 : Nat) (x0 : Val), p0.list[i0]? = some x0 → i0 < List.length p1.list) ∧ (∀ x0 ∈ p0.list, H_Ky x0) ∧ True
def Q9i (p0 : Val) (p1 : Val) : Prop := (List.length p0.fields ≤ 4611686018427387904) ∧ (∀ (i1 : Nat) (x1 : Fld), p0.fields[i1]? = some x1 → i1 < List.length p1.fields) ∧ (∀ x1 ∈ p0.fields, H_Ky x1.v) ∧ True
theorem Q10b (p0 : Val) (p1 : Val) (H : H_Ky p0) : ((((List.length p0.list) : Int) == ((List.length p1.list) : Int)) = true → (((List.length p0.fields) : Int) == ((List.length p1.fields) : Int)) = true → Qbp p0 p1) ∧ ((((List.length p0.list) : Int) == ((List.length p1.list) : Int)) = true → (((List.length p0.fields) : Int) == ((List.length p1.fields) : Int)) = true → Q9i p0 p1) ∧ True := by
  obtain ⟨h1, h2, h3, h4⟩ := H.all
  exact ⟨fun a _ => ⟨h1, fun i x hx => by have := (List.getElem?_eq_some_iff.1 hx).1; have := eq_of_beq a; omega, h3, trivial⟩, fun _ b => ⟨h2, fun i x hx => by have := (List.getElem?_eq_some_iff.1 hx).1; have := eq_of_beq b; omega, h4, trivial⟩, trivial⟩
def Qlv (p0 : Val) (_p1 : Val) (i0 : Nat) : List PV :=
  [.un, .un, .un, .un, .un, .int .i64 (i0 : Int), .un, .un, .un, .un, .un, .un, .un, .un, .un, .un, .un, .un, .un, .un, .un, .un, .un, .un, .un, .un, .un, .un, .un, .un, .un, .un, .un, .un, .un, .un, .un, .un, .un, .un, .un, .un, .un, .un, .int .i64 (i0 : Int), .bx 0 3, .sl (Val.rows p0.list), .int .i64 ((List.length p0.list) : Int), .bool false]
def Qhc (_p0 : Val) (_p1 : Val) (_i0 : Nat) : List (Nat × List PV) :=
  []
theorem Q106 (p0 : Val) (p1 : Val) (_H : Qbp p0 p1) (_rec : Q3f p0) (i0 : Nat) (hc0 : (decide ((i0 : Int) < ((List.length p0.list) : Int))) = false) : Qf9 p0 p1 (Q65 p0 p1 i0) (.k0) := by
 exact ⟨(envF (Qlv p0 p1 i0)), (zoF (Qhc p0 p1 i0)), Qe VOK.nil (x := ((.exit 0), Q89 p0 p1 (envF (Qlv p0 p1 i0)) (zoF (Qhc p0 p1 i0)))) [hP 3 (Qj (Val.rows p0.list) (List.length p0.list) (Val.Qd p0.list)), hB 0 hc0] [] (by kernel_rfl)⟩
theorem Qw6 (p0 : Val) (p1 : Val) (H : Qbp p0 p1) (rec : Q3f p0) (x0 : Val) (i0 : Nat) (hx0 : p0.list[i0]? = some x0) (hi0 : i0 < List.length p0.list) (hc0 : (decide ((i0 : Int) < ((List.length p0.list) : Int))) = true) (h0 : (s_Ky x0 (List.getD p1.list i0 (Val.mk 0 0 (⟨#[]⟩ : ByteArray) [] []))) = true) {r : Rs} (hr : Q7 G (Q65 p0 p1 (i0 + 1)) r) : Q7 G (Q65 p0 p1 i0) r := by
 have hB0 := H.1
 exact Qa VOK.nil (y := (Qrf p0 p1 (i0 + 1), Qrp p0 p1 (i0 + 1))) [hP 3 (Qj (Val.rows p0.list) (List.length p0.list) (Val.Qd p0.list)), hB 0 hc0, hP 3 (Q1h 5 (Val.rows p0.list) i0 _ (Val.Qf hx0) rfl), hP 4 (Q1h 5 (Val.rows p1.list) i0 _ (Val.Qf (Qu p1.list i0 (Val.mk 0 0 (⟨#[]⟩ : ByteArray) [] []) ((H.2.1 i0 x0 hx0)))) rfl), hP 4 (Qs i0 (by omega))] [aB (rec x0 (szL hx0) (List.getD p1.list i0 (Val.mk 0 0 (⟨#[]⟩ : ByteArray) [] [])) (H.2.2.1 x0 (Q1f hx0))) h0] (by kernel_rfl) hr
def Qmm (p0 : Val) (p1 : Val) (i0 : Nat) (x0 : Val) : List PV :=
  [.un, .un, .bx 0 0, .bx 1 0, .un, .int .i64 (i0 : Int), .un, .un, .un, .un, .un, .un, .un, .un, .un, .un, .un, .un, .un, .un, .un, .un, .un, .un, .un, .un, .un, .un, .un, .un, .un, .un, .un, .un, .un, .un, .un, .un, .un, .un, .un, .un, .un, .un, .int .i64 (i0 : Int), .bx 0 3, .sl (Val.rows p0.list), .int .i64 ((List.length p0.list) : Int), .bool true, .un, .un, .bx 0 3, .sl (Val.rows p0.list), .int .i64 (i0 : Int), .rf [.int .i64 x0.kind, .int .i64 x0.n, .str x0.s, .sl (Val.rows x0.list), .sl (Fld.rows x0.fields)], .agg [.int .i64 x0.kind, .int .i64 x0.n, .str x0.s, .sl (Val.rows x0.list), .sl (Fld.rows x0.fields)], .bx 1 3, .sl (Val.rows p1.list), .int .i64 (i0 : Int), .rf [.int .i64 (List.getD p1.list i0 (Val.mk 0 0 (⟨#[]⟩ : ByteArray) [] [])).kind, .int .i64 (List.getD p1.list i0 (Val.mk 0 0 (⟨#[]⟩ : ByteArray) [] [])).n, .str (List.getD p1.list i0 (Val.mk 0 0 (⟨#[]⟩ : ByteArray) [] [])).s, .sl (Val.rows (List.getD p1.list i0 (Val.mk 0 0 (⟨#[]⟩ : ByteArray) [] [])).list), .sl (Fld.rows (List.getD p1.list i0 (Val.mk 0 0 (⟨#[]⟩ : ByteArray) [] [])).fields)], .agg [.int .i64 (List.getD p1.list i0 (Val.mk 0 0 (⟨#[]⟩ : ByteArray) [] [])).kind, .int .i64 (List.getD p1.list i0 (Val.mk 0 0 (⟨#[]⟩ : ByteArray) [] [])).n, .str (List.getD p1.list i0 (Val.mk 0 0 (⟨#[]⟩ : ByteArray) [] [])).s, .sl (Val.rows (List.getD p1.list i0 (Val.mk 0 0 (⟨#[]⟩ : ByteArray) [] [])).list), .sl (Fld.rows (List.getD p1.list i0 (Val.mk 0 0 (⟨#[]⟩ : ByteArray) [] [])).fields)], .bool false, .bool true]
def Qho (p0 : Val) (p1 : Val) (_i0 : Nat) (_x0 : Val) : List (Nat × List PV) :=
  [(0, [.int .i64 p0.kind, .int .i64 p0.n, .str p0.s, .sl (Val.rows p0.list), .sl (Fld.rows p0.fields)]), (1, [.int .i64 p1.kind, .int .i64 p1.n, .str p1.s, .sl (Val.rows p1.list), .sl (Fld.rows p1.fields)])]
theorem Qzk (p0 : Val) (p1 : Val) (H : Qbp p0 p1) (rec : Q3f p0) (x0 : Val) (i0 : Nat) (hx0 : p0.list[i0]? = some x0) (_hi0 : i0 < List.length p0.list) (hc0 : (decide ((i0 : Int) < ((List.length p0.list) : Int))) = true) (h0 : (s_Ky x0 (List.getD p1.list i0 (Val.mk 0 0 (⟨#[]⟩ : ByteArray) [] []))) = false) : Qf9 p0 p1 (Q65 p0 p1 i0) (.k1) := by
 exact ⟨(envF (Qmm p0 p1 i0 x0)), (zoF (Qho p0 p1 i0 x0)), Qe VOK.nil (x := (.ret, Qfl p0 p1 (envF (Qmm p0 p1 i0 x0)) (zoF (Qho p0 p1 i0 x0)))) [hP 3 (Qj (Val.rows p0.list) (List.length p0.list) (Val.Qd p0.list)), hB 0 hc0, hP 3 (Q1h 5 (Val.rows p0.list) i0 _ (Val.Qf hx0) rfl), hP 4 (Q1h 5 (Val.rows p1.list) i0 _ (Val.Qf (Qu p1.list i0 (Val.mk 0 0 (⟨#[]⟩ : ByteArray) [] []) ((H.2.1 i0 x0 hx0)))) rfl)] [aB (rec x0 (szL hx0) (List.getD p1.list i0 (Val.mk 0 0 (⟨#[]⟩ : ByteArray) [] [])) (H.2.2.1 x0 (Q1f hx0))) h0] (by kernel_rfl)⟩
theorem Qrr (p0 : Val) (p1 : Val) (H : Qbp p0 p1) (rec : Q3f p0) : ∀ (r0 : List Val) (i0 : Nat), List.drop i0 p0.list = r0 → Qf9 p0 p1 (Q65 p0 p1 i0) (Q4m p0 p1 r0 i0)
 | [], i0, hd => by
  have hc0 : (decide ((i0 : Int) < ((List.length p0.list) : Int))) = false := by have := Q1m hd; simp; omega
  rw [Q4m]
  exact Q106 p0 p1 H rec i0 hc0
 | x0 :: r0, i0, hd => by
  obtain ⟨hx0, hi0, hd'⟩ := Q18 hd
  have hc0 : (decide ((i0 : Int) < ((List.length p0.list) : Int))) = true := by simp; omega
  rw [Q4m]
  cases h0 : (s_Ky x0 (List.getD p1.list i0 (Val.mk 0 0 (⟨#[]⟩ : ByteArray) [] []))) with
  | true =>
   exact Qm1 p0 p1 (fun r hr => Qw6 p0 p1 H rec x0 i0 hx0 hi0 hc0 h0 hr) _ (Qrr p0 p1 H rec r0 (i0 + 1) hd')
  | false =>
   exact Qzk p0 p1 H rec x0 i0 hx0 hi0 hc0 h0
def Qnp (p0 : Val) (_p1 : Val) (i1 : Nat) : List PV :=
  [.un, .un, .bx 0 0, .bx 1 0, .un, .un, .int .i64 (i1 : Int), .un, .un, .un, .un, .un, .un, .un, .un, .un, .un, .un, .un, .un, .un, .un, .un, .un, .un, .un, .un, .un, .un, .un, .un, .un, .un, .un, .un, .un, .un, .un, .un, .un, .un, .un, .un, .un, .un, .un, .un, .un, .un, .un, .un, .un, .un, .un, .un, .un, .un, .un, .un, .un, .un, .un, .un, .int .i64 (i1 : Int), .bx 0 4, .sl (Fld.rows p0.fields), .int .i64 ((List.length p0.fields) : Int), .bool false]
def Qhx (_p0 : Val) (_p1 : Val) (_i1 : Nat) : List (Nat × List PV) :=
  []
theorem Qxq (p0 : Val) (p1 : Val) (_H : Q9i p0 p1) (_rec : Q3f p0) (i1 : Nat) (hc1 : (decide ((i1 : Int) < ((List.length p0.fields) : Int))) = false) : Q98 p0 p1 (Q5s p0 p1 i1) (.k0) := by
 exact ⟨(envF (Qnp p0 p1 i1)), (zoF (Qhx p0 p1 i1)), Qe VOK.nil (x := ((.exit 2), Qct p0 p1 (envF (Qnp p0 p1 i1)) (zoF (Qhx p0 p1 i1)))) [hP 3 (Qj (Fld.rows p0.fields) (List.length p0.fields) (Fld.Qd p0.fields)), hB 0 hc1] [] (by kernel_rfl)⟩
theorem Qyh (p0 : Val) (p1 : Val) (H : Q9i p0 p1) (rec : Q3f p0) (x1 : Fld) (i1 : Nat) (hx1 : p0.fields[i1]? = some x1) (hi1 : i1 < List.length p0.fields) (hc1 : (decide ((i1 : Int) < ((List.length p0.fields) : Int))) = true) (h0 : (sEq x1.name (List.getD p1.fields i1 zF).name) = true) (h1 : (s_Ky x1.v (List.getD p1.fields i1 zF).v) = true) {r : Rs} (hr : Q7 G (Q5s p0 p1 (i1 + 1)) r) : Q7 G (Q5s p0 p1 i1) r := by
 have hB0 := H.1
 exact Qa VOK.nil (y := (Qro p0 p1 (i1 + 1), Qs9 p0 p1 (i1 + 1))) [hP 3 (Qj (Fld.rows p0.fields) (List.length p0.fields) (Fld.Qd p0.fields)), hB 0 hc1, hP 3 (Q1h 6 (Fld.rows p0.fields) i1 _ (Fld.Qf hx1) rfl), hP 5 (Q1h 6 (Fld.rows p1.fields) i1 _ (Fld.Qf (Qu p1.fields i1 zF ((H.2.1 i1 x1 hx1)))) rfl), hP 2 (dec (!(sEq x1.name (List.getD p1.fields i1 zF).name)) false (by rw [h0]; rfl)), hP 4 (Q1h 6 (Fld.rows p0.fields) i1 _ (Fld.Qf hx1) rfl), hP 5 (Q1h 6 (Fld.rows p1.fields) i1 _ (Fld.Qf (Qu p1.fields i1 zF ((H.2.1 i1 x1 hx1)))) rfl), hP 6 (Qs i1 (by omega))] [aB (rec x1.v (szF hx1) (List.getD p1.fields i1 zF).v (H.2.2.1 x1 (Q1f hx1))) h1] (by kernel_rfl) hr
def Qnr (p0 : Val) (p1 : Val) (i1 : Nat) (x1 : Fld) : List PV :=
  [.un, .un, .bx 0 0, .bx 1 0, .un, .un, .int .i64 (i1 : Int), .un, .un, .un, .un, .un, .un, .un, .un, .un, .un, .un, .un, .un, .un, .un, .un, .un, .un, .un, .un, .un, .un, .un, .un, .un, .un, .un, .un, .un, .un, .un, .un, .un, .un, .un, .un, .un, .un, .un, .un, .un, .un, .un, .un, .un, .un, .un, .un, .un, .un, .un, .un, .un, .un, .un, .un, .int .i64 (i1 : Int), .bx 0 4, .sl (Fld.rows p0.fields), .int .i64 ((List.length p0.fields) : Int), .bool true, .un, .un, .bx 0 4, .sl (Fld.rows p0.fields), .int .i64 (i1 : Int), .rf [.str x1.name, .int .i64 x1.v.kind, .int .i64 x1.v.n, .str x1.v.s, .sl (Val.rows x1.v.list), .sl (Fld.rows x1.v.fields)], .rf [.str x1.name, .int .i64 x1.v.kind, .int .i64 x1.v.n, .str x1.v.s, .sl (Val.rows x1.v.list), .sl (Fld.rows x1.v.fields)], .str x1.name, .bx 1 4, .sl (Fld.rows p1.fields), .int .i64 (i1 : Int), .rf [.str (List.getD p1.fields i1 zF).name, .int .i64 (List.getD p1.fields i1 zF).v.kind, .int .i64 (List.getD p1.fields i1 zF).v.n, .str (List.getD p1.fields i1 zF).v.s, .sl (Val.rows (List.getD p1.fields i1 zF).v.list), .sl (Fld.rows (List.getD p1.fields i1 zF).v.fields)], .rf [.str (List.getD p1.fields i1 zF).name, .int .i64 (List.getD p1.fields i1 zF).v.kind, .int .i64 (List.getD p1.fields i1 zF).v.n, .str (List.getD p1.fields i1 zF).v.s, .sl (Val.rows (List.getD p1.fields i1 zF).v.list), .sl (Fld.rows (List.getD p1.fields i1 zF).v.fields)], .str (List.getD p1.fields i1 zF).name, .bool false, .bool false, .bx 0 4, .sl (Fld.rows p0.fields), .int .i64 (i1 : Int), .rf [.str x1.name, .int .i64 x1.v.kind, .int .i64 x1.v.n, .str x1.v.s, .sl (Val.rows x1.v.list), .sl (Fld.rows x1.v.fields)], .rf [.int .i64 x1.v.kind, .int .i64 x1.v.n, .str x1.v.s, .sl (Val.rows x1.v.list), .sl (Fld.rows x1.v.fields)], .agg [.int .i64 x1.v.kind, .int .i64 x1.v.n, .str x1.v.s, .sl (Val.rows x1.v.list), .sl (Fld.rows x1.v.fields)], .bx 1 4, .sl (Fld.rows p1.fields), .int .i64 (i1 : Int), .rf [.str (List.getD p1.fields i1 zF).name, .int .i64 (List.getD p1.fields i1 zF).v.kind, .int .i64 (List.getD p1.fields i1 zF).v.n, .str (List.getD p1.fields i1 zF).v.s, .sl (Val.rows (List.getD p1.fields i1 zF).v.list), .sl (Fld.rows (List.getD p1.fields i1 zF).v.fields)], .rf [.int .i64 (List.getD p1.fields i1 zF).v.kind, .int .i64 (List.getD p1.fields i1 zF).v.n, .str (List.getD p1.fields i1 zF).v.s, .sl (Val.rows (List.getD p1.fields i1 zF).v.list), .sl (Fld.rows (List.getD p1.fields i1 zF).v.fields)], .agg [.int .i64 (List.getD p1.fields i1 zF).v.kind, .int .i64 (List.getD p1.fields i1 zF).v.n, .str (List.getD p1.fields i1 zF).v.s, .sl (Val.rows (List.getD p1.fields i1 zF).v.list), .sl (Fld.rows (List.getD p1.fields i1 zF).v.fields)], .bool false, .bool true, .bool true]
def Qgp (p0 : Val) (p1 : Val) (_i1 : Nat) (_x1 : Fld) : List (Nat × List PV) :=
  [(0, [.int .i64 p0.kind, .int .i64 p0.n, .str p0.s, .sl (Val.rows p0.list), .sl (Fld.rows p0.fields)]), (1, [.int .i64 p1.kind, .int .i64 p1.n, .str p1.s, .sl (Val.rows p1.list), .sl (Fld.rows p1.fields)])]
theorem Qyy (p0 : Val) (p1 : Val) (H : Q9i p0 p1) (rec : Q3f p0) (x1 : Fld) (i1 : Nat) (hx1 : p0.fields[i1]? = some x1) (_hi1 : i1 < List.length p0.fields) (hc1 : (decide ((i1 : Int) < ((List.length p0.fields) : Int))) = true) (h0 : (sEq x1.name (List.getD p1.fields i1 zF).name) = true) (h1 : (s_Ky x1.v (List.getD p1.fields i1 zF).v) = false) : Q98 p0 p1 (Q5s p0 p1 i1) (.k1) := by
 exact ⟨(envF (Qnr p0 p1 i1 x1)), (zoF (Qgp p0 p1 i1 x1)), Qe VOK.nil (x := (.ret, Q8a p0 p1 (envF (Qnr p0 p1 i1 x1)) (zoF (Qgp p0 p1 i1 x1)))) [hP 3 (Qj (Fld.rows p0.fields) (List.length p0.fields) (Fld.Qd p0.fields)), hB 0 hc1, hP 3 (Q1h 6 (Fld.rows p0.fields) i1 _ (Fld.Qf hx1) rfl), hP 5 (Q1h 6 (Fld.rows p1.fields) i1 _ (Fld.Qf (Qu p1.fields i1 zF ((H.2.1 i1 x1 hx1)))) rfl), hP 2 (dec (!(sEq x1.name (List.getD p1.fields i1 zF).name)) false (by rw [h0]; rfl)), hP 4 (Q1h 6 (Fld.rows p0.fields) i1 _ (Fld.Qf hx1) rfl), hP 5 (Q1h 6 (Fld.rows p1.fields) i1 _ (Fld.Qf (Qu p1.fields i1 zF ((H.2.1 i1 x1 hx1)))) rfl)] [aB (rec x1.v (szF hx1) (List.getD p1.fields i1 zF).v (H.2.2.1 x1 (Q1f hx1))) h1] (by kernel_rfl)⟩
def Qn0 (p0 : Val) (p1 : Val) (i1 : Nat) (x1 : Fld) : List PV :=
  [.un, .un, .bx 0 0, .bx 1 0, .un, .un, .int .i64 (i1 : Int), .un, .un, .un, .un, .un, .un, .un, .un, .un, .un, .un, .un, .un, .un, .un, .un, .un, .un, .un, .un, .un, .un, .un, .un, .un, .un, .un, .un, .un, .un, .un, .un, .un, .un, .un, .un, .un, .un, .un, .un, .un, .un, .un, .un, .un, .un, .un, .un, .un, .un, .un, .un, .un, .un, .un, .un, .int .i64 (i1 : Int), .bx 0 4, .sl (Fld.rows p0.fields), .int .i64 ((List.length p0.fields) : Int), .bool true, .un, .un, .bx 0 4, .sl (Fld.rows p0.fields), .int .i64 (i1 : Int), .rf [.str x1.name, .int .i64 x1.v.kind, .int .i64 x1.v.n, .str x1.v.s, .sl (Val.rows x1.v.list), .sl (Fld.rows x1.v.fields)], .rf [.str x1.name, .int .i64 x1.v.kind, .int .i64 x1.v.n, .str x1.v.s, .sl (Val.rows x1.v.list), .sl (Fld.rows x1.v.fields)], .str x1.name, .bx 1 4, .sl (Fld.rows p1.fields), .int .i64 (i1 : Int), .rf [.str (List.getD p1.fields i1 zF).name, .int .i64 (List.getD p1.fields i1 zF).v.kind, .int .i64 (List.getD p1.fields i1 zF).v.n, .str (List.getD p1.fields i1 zF).v.s, .sl (Val.rows (List.getD p1.fields i1 zF).v.list), .sl (Fld.rows (List.getD p1.fields i1 zF).v.fields)], .rf [.str (List.getD p1.fields i1 zF).name, .int .i64 (List.getD p1.fields i1 zF).v.kind, .int .i64 (List.getD p1.fields i1 zF).v.n, .str (List.getD p1.fields i1 zF).v.s, .sl (Val.rows (List.getD p1.fields i1 zF).v.list), .sl (Fld.rows (List.getD p1.fields i1 zF).v.fields)], .str (List.getD p1.fields i1 zF).name, .bool true, .bool true, .tup [], .tup [], .tup [], .tup [], .tup [], .tup [], .tup [], .tup [], .tup [], .tup [], .tup [], .tup [], .tup [], .tup [], .bool true]
def Qgl (p0 : Val) (p1 : Val) (_i1 : Nat) (_x1 : Fld) : List (Nat × List PV) :=
  [(0, [.int .i64 p0.kind, .int .i64 p0.n, .str p0.s, .sl (Val.rows p0.list), .sl (Fld.rows p0.fields)]), (1, [.int .i64 p1.kind, .int .i64 p1.n, .str p1.s, .sl (Val.rows p1.list), .sl (Fld.rows p1.fields)])]
theorem Qxx (p0 : Val) (p1 : Val) (H : Q9i p0 p1) (_rec : Q3f p0) (x1 : Fld) (i1 : Nat) (hx1 : p0.fields[i1]? = some x1) (_hi1 : i1 < List.length p0.fields) (hc1 : (decide ((i1 : Int) < ((List.length p0.fields) : Int))) = true) (h0 : (sEq x1.name (List.getD p1.fields i1 zF).name) = false) : Q98 p0 p1 (Q5s p0 p1 i1) (.k1) := by
 exact ⟨(envF (Qn0 p0 p1 i1 x1)), (zoF (Qgl p0 p1 i1 x1)), Qe VOK.nil (x := (.ret, Q8a p0 p1 (envF (Qn0 p0 p1 i1 x1)) (zoF (Qgl p0 p1 i1 x1)))) [hP 3 (Qj (Fld.rows p0.fields) (List.length p0.fields) (Fld.Qd p0.fields)), hB 0 hc1, hP 3 (Q1h 6 (Fld.rows p0.fields) i1 _ (Fld.Qf hx1) rfl), hP 5 (Q1h 6 (Fld.rows p1.fields) i1 _ (Fld.Qf (Qu p1.fields i1 zF ((H.2.1 i1 x1 hx1)))) rfl), hP 2 (dec (!(sEq x1.name (List.getD p1.fields i1 zF).name)) true (by rw [h0]; rfl))] [] (by kernel_rfl)⟩
theorem Qsb (p0 : Val) (p1 : Val) (H : Q9i p0 p1) (rec : Q3f p0) : ∀ (r1 : List Fld) (i1 : Nat), List.drop i1 p0.fields = r1 → Q98 p0 p1 (Q5s p0 p1 i1) (Q4s p0 p1 r1 i1)
 | [], i1, hd => by
  have hc1 : (decide ((i1 : Int) < ((List.length p0.fields) : Int))) = false := by have := Q1m hd; simp; omega
  rw [Q4s]
  exact Qxq p0 p1 H rec i1 hc1
 | x1 :: r1, i1, hd => by
  obtain ⟨hx1, hi1, hd'⟩ := Q18 hd
  have hc1 : (decide ((i1 : Int) < ((List.length p0.fields) : Int))) = true := by simp; omega
  rw [Q4s]
  cases h0 : (sEq x1.name (List.getD p1.fields i1 zF).name) with
  | true =>
   cases h1 : (s_Ky x1.v (List.getD p1.fields i1 zF).v) with
   | true =>
    exact Qly p0 p1 (fun r hr => Qyh p0 p1 H rec x1 i1 hx1 hi1 hc1 h0 h1 hr) _ (Qsb p0 p1 H rec r1 (i1 + 1) hd')
   | false =>
    exact Qyy p0 p1 H rec x1 i1 hx1 hi1 hc1 h0 h1
  | false =>
   exact Qxx p0 p1 H rec x1 i1 hx1 hi1 hc1 h0
theorem Q14p (p0 : Val) (p1 : Val) (_H : H_Ky p0) (_rec : Q3f p0) (h0 : (p0.kind == p1.kind) = true) (h1 : (p0.n == p1.n) = true) (h2 : (sEq p0.s p1.s) = true) (h3 : (((List.length p0.list) : Int) == ((List.length p1.list) : Int)) = true) (h4 : (((List.length p0.fields) : Int) == ((List.length p1.fields) : Int)) = true) (z5 : Nat → PV) (zo5 : Nat → List PV) (hl5 : Q7 G (Q65 p0 p1 0) (.st (.exit 0) (Q89 p0 p1 z5 zo5))) (z6 : Nat → PV) (zo6 : Nat → List PV) (hl6 : Q7 G (Q5s p0 p1 0) (.st (.exit 2) (Qct p0 p1 z6 zo6))) : Q7 G (c_Ky p0 p1) (.ret (.bool (true)) []) := by
 exact Q9 (fn := Ir.Ky) rfl VOK.nil [hP 7 (dec (!(p0.kind == p1.kind)) false (by rw [h0]; rfl)), hP 5 (dec (!(p0.n == p1.n)) false (by rw [h1]; rfl)), hP 6 (dec (!(sEq p0.s p1.s)) false (by rw [h2]; rfl)), hP 4 (Qj (Val.rows p0.list) (List.length p0.list) (Val.Qd p0.list)), hP 2 (Qj (Val.rows p1.list) (List.length p1.list) (Val.Qd p1.list)), hP 0 (dec (!(((List.length p0.list) : Int) == ((List.length p1.list) : Int))) false (by rw [h3]; rfl)), hP 4 (Qj (Fld.rows p0.fields) (List.length p0.fields) (Fld.Qd p0.fields)), hP 2 (Qj (Fld.rows p1.fields) (List.length p1.fields) (Fld.Qd p1.fields)), hP 0 (dec (!(((List.length p0.fields) : Int) == ((List.length p1.fields) : Int))) false (by rw [h4]; rfl))] [aN hl5, aN hl6] (by kernel_rfl)
theorem Q15f (p0 : Val) (p1 : Val) (_H : H_Ky p0) (_rec : Q3f p0) (h0 : (p0.kind == p1.kind) = true) (h1 : (p0.n == p1.n) = true) (h2 : (sEq p0.s p1.s) = true) (h3 : (((List.length p0.list) : Int) == ((List.length p1.list) : Int)) = true) (h4 : (((List.length p0.fields) : Int) == ((List.length p1.fields) : Int)) = true) (z5 : Nat → PV) (zo5 : Nat → List PV) (hl5 : Q7 G (Q65 p0 p1 0) (.st (.exit 0) (Q89 p0 p1 z5 zo5))) (z6 : Nat → PV) (zo6 : Nat → List PV) (hl6 : Q7 G (Q5s p0 p1 0) (.st .ret (Q8a p0 p1 z6 zo6))) : Q7 G (c_Ky p0 p1) (.ret (.bool (false)) []) := by
 exact Q9 (fn := Ir.Ky) rfl VOK.nil [hP 7 (dec (!(p0.kind == p1.kind)) false (by rw [h0]; rfl)), hP 5 (dec (!(p0.n == p1.n)) false (by rw [h1]; rfl)), hP 6 (dec (!(sEq p0.s p1.s)) false (by rw [h2]; rfl)), hP 4 (Qj (Val.rows p0.list) (List.length p0.list) (Val.Qd p0.list)), hP 2 (Qj (Val.rows p1.list) (List.length p1.list) (Val.Qd p1.list)), hP 0 (dec (!(((List.length p0.list) : Int) == ((List.length p1.list) : Int))) false (by rw [h3]; rfl)), hP 4 (Qj (Fld.rows p0.fields) (List.length p0.fields) (Fld.Qd p0.fields)), hP 2 (Qj (Fld.rows p1.fields) (List.length p1.fields) (Fld.Qd p1.fields)), hP 0 (dec (!(((List.length p0.fields) : Int) == ((List.length p1.fields) : Int))) false (by rw [h4]; rfl))] [aN hl5, aN hl6] (by kernel_rfl)
theorem Q13p (p0 : Val) (p1 : Val) (_H : H_Ky p0) (_rec : Q3f p0) (h0 : (p0.kind == p1.kind) = true) (h1 : (p0.n == p1.n) = true) (h2 : (sEq p0.s p1.s) = true) (h3 : (((List.length p0.list) : Int) == ((List.length p1.list) : Int)) = true) (h4 : (((List.length p0.fields) : Int) == ((List.length p1.fields) : Int)) = true) (z5 : Nat → PV) (zo5 : Nat → List PV) (hl5 : Q7 G (Q65 p0 p1 0) (.st .ret (Qfl p0 p1 z5 zo5))) : Q7 G (c_Ky p0 p1) (.ret (.bool (false)) []) := by
 exact Q9 (fn := Ir.Ky) rfl VOK.nil [hP 7 (dec (!(p0.kind == p1.kind)) false (by rw [h0]; rfl)), hP 5 (dec (!(p0.n == p1.n)) false (by rw [h1]; rfl)), hP 6 (dec (!(sEq p0.s p1.s)) false (by rw [h2]; rfl)), hP 4 (Qj (Val.rows p0.list) (List.length p0.list) (Val.Qd p0.list)), hP 2 (Qj (Val.rows p1.list) (List.length p1.list) (Val.Qd p1.list)), hP 0 (dec (!(((List.length p0.list) : Int) == ((List.length p1.list) : Int))) false (by rw [h3]; rfl)), hP 4 (Qj (Fld.rows p0.fields) (List.length p0.fields) (Fld.Qd p0.fields)), hP 2 (Qj (Fld.rows p1.fields) (List.length p1.fields) (Fld.Qd p1.fields)), hP 0 (dec (!(((List.length p0.fields) : Int) == ((List.length p1.fields) : Int))) false (by rw [h4]; rfl))] [aN hl5] (by kernel_rfl)
theorem Q157 (p0 : Val) (p1 : Val) (_H : H_Ky p0) (_rec : Q3f p0) (h0 : (p0.kind == p1.kind) = true) (h1 : (p0.n == p1.n) = true) (h2 : (sEq p0.s p1.s) = true) (h3 : (((List.length p0.list) : Int) == ((List.length p1.list) : Int)) = true) (h4 : (((List.length p0.fields) : Int) == ((List.length p1.fields) : Int)) = false) : Q7 G (c_Ky p0 p1) (.ret (.bool (false)) []) := by
 exact Q9 (fn := Ir.Ky) rfl VOK.nil [hP 7 (dec (!(p0.kind == p1.kind)) false (by rw [h0]; rfl)), hP 5 (dec (!(p0.n == p1.n)) false (by rw [h1]; rfl)), hP 6 (dec (!(sEq p0.s p1.s)) false (by rw [h2]; rfl)), hP 4 (Qj (Val.rows p0.list) (List.length p0.list) (Val.Qd p0.list)), hP 2 (Qj (Val.rows p1.list) (List.length p1.list) (Val.Qd p1.list)), hP 0 (dec (!(((List.length p0.list) : Int) == ((List.length p1.list) : Int))) false (by rw [h3]; rfl)), hP 4 (Qj (Fld.rows p0.fields) (List.length p0.fields) (Fld.Qd p0.fields)), hP 2 (Qj (Fld.rows p1.fields) (List.length p1.fields) (Fld.Qd p1.fields)), hP 0 (dec (!(((List.length p0.fields) : Int) == ((List.length p1.fields) : Int))) true (by rw [h4]; rfl))] [] (by kernel_rfl)
theorem Q15m (p0 : Val) (p1 : Val) (_H : H_Ky p0) (_rec : Q3f p0) (h0 : (p0.kind == p1.kind) = true) (h1 : (p0.n == p1.n) = true) (h2 : (sEq p0.s p1.s) = true) (h3 : (((List.length p0.list) : Int) == ((List.length p1.list) : Int)) = false) : Q7 G (c_Ky p0 p1) (.ret (.bool (false)) []) := by
 exact Q9 (fn := Ir.Ky) rfl VOK.nil [hP 7 (dec (!(p0.kind == p1.kind)) false (by rw [h0]; rfl)), hP 5 (dec (!(p0.n == p1.n)) false (by rw [h1]; rfl)), hP 6 (dec (!(sEq p0.s p1.s)) false (by rw [h2]; rfl)), hP 4 (Qj (Val.rows p0.list) (List.length p0.list) (Val.Qd p0.list)), hP 2 (Qj (Val.rows p1.list) (List.length p1.list) (Val.Qd p1.list)), hP 0 (dec (!(((List.length p0.list) : Int) == ((List.length p1.list) : Int))) true (by rw [h3]; rfl))] [] (by kernel_rfl)
theorem Q15d (p0 : Val) (p1 : Val) (_H : H_Ky p0) (_rec : Q3f p0) (h0 : (p0.kind == p1.kind) = true) (h1 : (p0.n == p1.n) = true) (h2 : (sEq p0.s p1.s) = false) : Q7 G (c_Ky p0 p1) (.ret (.bool (false)) []) := by
 exact Q9 (fn := Ir.Ky) rfl VOK.nil [hP 7 (dec (!(p0.kind == p1.kind)) false (by rw [h0]; rfl)), hP 5 (dec (!(p0.n == p1.n)) false (by rw [h1]; rfl)), hP 6 (dec (!(sEq p0.s p1.s)) true (by rw [h2]; rfl))] [] (by kernel_rfl)
theorem Q15w (p0 : Val) (p1 : Val) (_H : H_Ky p0) (_rec : Q3f p0) (h0 : (p0.kind == p1.kind) = true) (h1 : (p0.n == p1.n) = false) : Q7 G (c_Ky p0 p1) (.ret (.bool (false)) []) := by
 exact Q9 (fn := Ir.Ky) rfl VOK.nil [hP 7 (dec (!(p0.kind == p1.kind)) false (by rw [h0]; rfl)), hP 5 (dec (!(p0.n == p1.n)) true (by rw [h1]; rfl))] [] (by kernel_rfl)
theorem Q148 (p0 : Val) (p1 : Val) (_H : H_Ky p0) (_rec : Q3f p0) (h0 : (p0.kind == p1.kind) = false) : Q7 G (c_Ky p0 p1) (.ret (.bool (false)) []) := by
 exact Q9 (fn := Ir.Ky) rfl VOK.nil [hP 7 (dec (!(p0.kind == p1.kind)) true (by rw [h0]; rfl))] [] (by kernel_rfl)
theorem r_Ky (p0 : Val) (p1 : Val) (H : H_Ky p0) (rec : Q3f p0) : Q7 G (c_Ky p0 p1) (a_Ky p0 p1) := by
  unfold a_Ky
  rw [s_Ky]
  cases h0 : (p0.kind == p1.kind) with
  | true =>
   cases h1 : (p0.n == p1.n) with
   | true =>
    cases h2 : (sEq p0.s p1.s) with
    | true =>
     cases h3 : (((List.length p0.list) : Int) == ((List.length p1.list) : Int)) with
     | true =>
      cases h4 : (((List.length p0.fields) : Int) == ((List.length p1.fields) : Int)) with
      | true =>
       have hl5 := Qrr p0 p1 ((Q10b p0 p1 H).1 h3 h4) rec p0.list 0 (by simp)
       cases hr5 : (Q4m p0 p1 p0.list 0) with
       | k0 =>
         rw [hr5] at hl5
         obtain ⟨z5, zo5, hl5⟩ := hl5
         try dsimp only
         have hl6 := Qsb p0 p1 ((Q10b p0 p1 H).2.1 h3 h4) rec p0.fields 0 (by simp)
         cases hr6 : (Q4s p0 p1 p0.fields 0) with
         | k0 =>
           rw [hr6] at hl6
           obtain ⟨z6, zo6, hl6⟩ := hl6
           exact Q14p p0 p1 H rec h0 h1 h2 h3 h4 z5 zo5 hl5 z6 zo6 hl6
         | k1 =>
           rw [hr6] at hl6
           obtain ⟨z6, zo6, hl6⟩ := hl6
           exact Q15f p0 p1 H rec h0 h1 h2 h3 h4 z5 zo5 hl5 z6 zo6 hl6
       | k1 =>
         rw [hr5] at hl5
         obtain ⟨z5, zo5, hl5⟩ := hl5
         exact Q13p p0 p1 H rec h0 h1 h2 h3 h4 z5 zo5 hl5
      | false =>
       exact Q157 p0 p1 H rec h0 h1 h2 h3 h4
     | false =>
      exact Q15m p0 p1 H rec h0 h1 h2 h3
    | false =>
     exact Q15d p0 p1 H rec h0 h1 h2
   | false =>
    exact Q15w p0 p1 H rec h0 h1
  | false =>
   exact Q148 p0 p1 H rec h0
theorem i_Ky : ∀ (k : Nat) (p0 : Val), SizeOf.sizeOf p0 < k → ∀ (p1 : Val), H_Ky p0 → Q7 G (c_Ky p0 p1) (a_Ky p0 p1)
  | 0, _, h, _, _ => absurd h (Nat.not_lt_zero _)
  | k + 1, p0, h, p1, H => r_Ky p0 p1 H (fun q hq p1 hH => i_Ky k q (by omega) p1 hH)
theorem t_Ky (p0 : Val) (p1 : Val) (H : H_Ky p0) : Q7 G (c_Ky p0 p1) (a_Ky p0 p1) := i_Ky _ p0 (Nat.lt_succ_self _) p1 H
end Go.Proofs.Ytnhhddbbppbblaa
end

section
/- Parts of a slice of one's own, and appends of them. -/
namespace Go.Pv
def slmE (id sz n : Nat) (lo hi : Option Int) : Option Eff := (opP (fun _ => .un) (.slice sz (.c (.ms id sz 0 n)) (optI lo) (optI hi) none)).bind fun v => some ⟨v, [], []⟩
theorem Q10u (id sz n : Nat) (k : Int) (h0 : 0 ≤ k) (h1 : k ≤ (n : Int)) : slmE id sz n none (some k) = some (vE (.ms id sz 0 k.toNat)) := by
  unfold slmE
  simp only [opP, optI, Opd.ev, Q3g, asNat, Option.bind_some]
  have e0 : decide (0 ≤ k) = true := by simpa using h0
  rw [e0]
  simp only [cond_true, Option.bind_some]
  have e1 : (Nat.beq sz sz && Nat.ble 0 k.toNat && Nat.ble k.toNat n) = true := by
    rw [Nat.ble_eq_true_of_le (Nat.zero_le _), Nat.ble_eq_true_of_le (show k.toNat ≤ n by omega), Nat.beq_refl]
    rfl
  rw [e1]
  simp [vE]
theorem Q10f (id sz n : Nat) (k : Int) (h0 : 0 ≤ k) (h1 : k ≤ (n : Int)) : slmE id sz n (some k) none = some (vE (.ms id sz k.toNat (n - k.toNat))) := by
  unfold slmE
  simp only [opP, optI, Opd.ev, Q3g, asNat, Option.bind_some]
  have e0 : decide (0 ≤ k) = true := by simpa using h0
  rw [e0]
  simp only [cond_true, Option.bind_some]
  have e1 : (Nat.beq sz sz && Nat.ble k.toNat n && Nat.ble n n) = true := by
    rw [Nat.ble_eq_true_of_le (show k.toNat ≤ n by omega), Nat.ble_eq_true_of_le (Nat.le_refl n), Nat.beq_refl]
    rfl
  rw [e1]
  simp [vE]
end Go.Pv
end

section
/- Slices that are made with a length: their rows. -/
namespace Go.Pv
end Go.Pv
end

section
/- Rows of one's own: cleared behind a place, appended to from a place on. -/
namespace Go.Pv
theorem Qdn {sz : Nat} : ∀ (rows : List (List PV)) (k : Nat), (∀ r ∈ rows, r.length = sz) → rows.flatten.take (k * sz) = (rows.take k).flatten
  | [], k, _ => by simp
  | r :: rs, 0, _ => by simp
  | r :: rs, k + 1, h => by
    have hr := h r List.mem_cons_self
    rw [List.flatten_cons, List.take_succ_cons, List.flatten_cons, ← Qdn rs k (fun q hq => h q (List.mem_cons_of_mem _ hq)), show (k + 1) * sz = r.length + k * sz by rw [hr, Nat.add_mul]; omega, List.take_length_add_append]
theorem Qrl (z : List PV) : ∀ n : Nat, rep z n = (List.replicate n z).flatten
  | 0 => rfl
  | n + 1 => by rw [rep, Qrl z n, List.replicate_succ, List.flatten_cons]
def clrE (id sz : Nat) (gr : Bool) (cells z : List PV) (K n : Nat) : Option Eff := Q78 (look [(id, ⟨sz, 0, gr, cells⟩)]) sz z (.ms id sz K n)
theorem Q13s (id sz : Nat) (gr : Bool) (rows rows' : List (List PV)) (K n : Nat) (z : List PV) (hs : ∀ r ∈ rows, r.length = sz) (hl : K + n = rows.length) (hn : 0 < n) (hr : rows' = rows.take K) (hz : z.length = sz := by rfl) :
    clrE id sz gr rows.flatten z K n = some ⟨.tup [], [(id, some ⟨sz, 0, gr, rows'.flatten⟩)], [id]⟩ := by
  subst hr
  obtain ⟨k, rfl⟩ : ∃ k, n = k + 1 := ⟨n - 1, by omega⟩
  have h1 : (rep z (k + 1)).length = (k + 1) * sz := by
    rw [Qrl, Q36 sz _ (fun r hr => by rw [(List.mem_replicate.1 hr).2]; exact hz), List.length_replicate]
  have h2 : rows.flatten.length = rows.length * sz := Q36 sz rows hs
  have h3 : K * sz + (k + 1) * sz = rows.flatten.length := by rw [h2, ← hl, ← Nat.add_mul]
  unfold clrE Q78 clC
  simp only [look, Nat.beq_refl, cond_true, Option.bind_some, hz]
  rw [Nat.ble_eq_true_of_le (Nat.zero_le _), Nat.ble_eq_true_of_le (show (K + (k + 1)) * sz ≤ rows.flatten.length by rw [Nat.add_mul]; omega), h1, h3, Nat.beq_refl, Qdn rows K hs]
  rfl
theorem Q10h {sz : Nat} {gr : Bool} {rows : List (List PV)} {n : Nat} (hs : ∀ r ∈ rows, r.length = sz) (h : n ≤ rows.length) : apC ⟨sz, 0, gr, rows.flatten⟩ (n * sz) = some (rows.take n).flatten := by
  have h2 : rows.flatten.length = rows.length * sz := Q36 sz rows hs
  have h3 := Qdn rows n hs
  unfold apC
  cases e : Nat.beq rows.flatten.length (n * sz) with
  | true =>
    have e := Nat.eq_of_beq_eq_true e
    rw [cond_true, ← h3, ← e, List.take_length]
  | false =>
    have : n * sz ≤ rows.length * sz := Nat.mul_le_mul_right _ h
    rw [cond_false, Nat.ble_eq_true_of_le (by show n * sz ≤ rows.flatten.length; omega), Nat.ble_eq_true_of_le (Nat.zero_le _), h3]
    rfl
def aptE (id lid fr sz bytes lro : Nat) (lgr : Bool) (rows : List (List PV)) (r : List PV) (n : Nat) : Option Eff :=
  Q3p (look [(id, ⟨sz, 0, true, rows.flatten⟩), (lid, ⟨sz, lro, lgr, r⟩)]) fr sz bytes (.ms id sz 0 n) (.ms lid sz 0 1)
theorem Q123 (id lid fr sz bytes lro : Nat) (lgr : Bool) (rows rows' : List (List PV)) (r : List PV) (n n' : Nat) (hne : Nat.beq id lid = false) (hle : n ≤ rows.length) (hn' : n' = rows'.length) (hr' : rows' = rows.take n ++ [r])
    (hs : ∀ r ∈ rows, r.length = sz) (hr : r.length = sz) (hb : (n + 1) * bytes ≤ 140737488355328) :
    aptE id lid fr sz bytes lro lgr rows r n = some ⟨.ms fr sz 0 n', [(id, none), (fr, some ⟨sz, 0, true, rows'.flatten⟩)], [id, lid]⟩ := by
  subst hn' hr'
  unfold aptE Q3p
  have h1 : look [(id, (⟨sz, 0, true, rows.flatten⟩ : Ob)), (lid, ⟨sz, lro, lgr, r⟩)] lid = some ⟨sz, lro, lgr, r⟩ := by simp [look, hne]
  have h2 : look [(id, (⟨sz, 0, true, rows.flatten⟩ : Ob)), (lid, ⟨sz, lro, lgr, r⟩)] id = some ⟨sz, 0, true, rows.flatten⟩ := by simp [look]
  have hsrc : source (look [(id, (⟨sz, 0, true, rows.flatten⟩ : Ob)), (lid, ⟨sz, lro, lgr, r⟩)]) sz (.ms lid sz 0 1) = some (1, r, [lid]) := by
    simp only [source, h1, Option.bind_some]
    subst hr
    have : Nat.ble r.length r.length = true := Nat.ble_eq_true_of_le (Nat.le_refl _)
    simp [this]
  rw [hsrc, Option.bind_some]
  simp only [h2, Option.bind_some]
  have hc : (true && Nat.beq sz sz && Nat.beq sz sz && Nat.beq 0 0 && Nat.ble ((n + 1) * bytes) 140737488355328) = true := by
    simp only [Nat.beq_refl, Bool.and_true, Bool.true_and]
    exact Nat.ble_eq_true_of_le hb
  rw [hc, Q10h hs hle]
  have hl : (rows.take n ++ [r]).length = n + 1 := by
    rw [List.length_append, List.length_take]
    simp
    omega
  rw [hl]
  simp
theorem Val.Q49 (l : List Val) (k : Nat) (x : Val) : Val.rows (l.set k x) = (Val.rows l).set k (Val.cells x) := by simp [Val.Q2h, List.map_set]
theorem Fld.Q49 (l : List Fld) (k : Nat) (x : Fld) : Fld.rows (l.set k x) = (Fld.rows l).set k (Fld.cells x) := by simp [Fld.Q2h, List.map_set]
theorem Qxt {l : List (List PV)} {k : Nat} {r : List PV} (h : l[k]? = some r) : l = l.set k r := by
  apply List.ext_getElem?
  intro i
  rw [List.getElem?_set]
  by_cases e : k = i
  · subst e
    rw [if_pos rfl, h, if_pos (List.getElem?_eq_some_iff.1 h).1]
  · rw [if_neg e]
end Go.Pv
end

